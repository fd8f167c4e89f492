/- Part 2 of the walks and plain laws that the proof needs (packed). -/
import Derived.Test.YtobgljfnfpolkaaGreatDoorQ1
set_option linter.all false
set_option maxRecDepth 100000
set_option maxHeartbeats 8000000
namespace Go.Proofs.YtobgljfnfpolkaaGreatDoor
open Go.RowKit
abbrev fL(S:Nat->Prop):=eX (fun _ u (x:ByteArray)=>u=.string x) S
theorem fL.keep{S w w' v xs}(h:fL S w v xs)(hk:aA S w w'):fL S w' v xs:=eX.keep h hk fun _ _ h=>h
theorem fL.mono{S S' w v xs}(h:fL S w v xs)(hS:∀b,b<w.heap.size->S b->S' b):fL S' w v xs:=eX.mono h hS fun _ _ h=>h
theorem GA:dH (fun _ _ u (x:ByteArray)=>u=.string x):=⟨fun h _=>h,fun h _=>h⟩
def bX(f:ah.cA)(uw ug:Value):List Value:=[.string f.name,.string f.of,.string f.up,.int .i64 f.kind,.int .i64 f.lo,.int .i64 f.hi,uw,ug]
def jm(S:Nat->Prop)(w:World)(us:List Value)(f:ah.cA):Prop:=∃uw ug,us=bX f uw ug/\fL S w uw f.agb/\bO S w ug f.aga
theorem aT:bV jm:=⟨fun⟨uw,ug,h1,h2,h3⟩ hk=>⟨uw,ug,h1,h2.keep hk,h3.keep hk⟩,fun⟨uw,ug,h1,h2,h3⟩ hS=>⟨uw,ug,h1,h2.mono hS,h3.mono hS⟩⟩
abbrev dh(S:Nat->Prop):=dA 8 (jm S) S
theorem dh.keep{S w w' v xs}(h:dh S w v xs)(hk:aA S w w'):dh S w' v xs:=dA.keep aT h hk
theorem dh.mono{S S' w v xs}(h:dh S w v xs)(hS:∀b,b<w.heap.size->S b->S' b):dh S' w v xs:=dA.mono (by omega) aT h hS
def kC(k:ah.dZ)(uf:Value):List Value:=[.string k.name,.int .i64 k.lo,.int .i64 k.hi,uf]
def Be(S:Nat->Prop)(w:World)(us:List Value)(k:ah.dZ):Prop:=∃uf,us=kC k uf/\dh S w uf k.af4
theorem bY:bV Be:=⟨fun⟨uf,h1,h2⟩ hk=>⟨uf,h1,dh.keep h2 hk⟩,fun⟨uf,h1,h2⟩ hS=>⟨uf,h1,dh.mono h2 hS⟩⟩
abbrev fV(S:Nat->Prop):=dA 4 (Be S) S
theorem fV.keep{S w w' v xs}(h:fV S w v xs)(hk:aA S w w'):fV S w' v xs:=dA.keep bY h hk
theorem fV.mono{S S' w v xs}(h:fV S w v xs)(hS:∀b,b<w.heap.size->S b->S' b):fV S' w v xs:=dA.mono (by omega) bY h hS
def KV(_:Nat->Prop)(_:World)(us:List Value)(m:Int×Int):Prop:=us=[.int .i64 m.1,.int .i64 m.2]
theorem dx:bV KV:=⟨fun h _=>h,fun h _=>h⟩
abbrev BZ(S:Nat->Prop):=dA 2 (KV S) S
def Ww(S:Nat->Prop)(w:World)(us:List Value)(x:ah.Eb):Prop:=∃u1 u2,us=[.string x.name,u1,u2]/\fL S w u1 x.agc/\BZ S w u2 x.agd
theorem cE:bV Ww:=⟨fun⟨u1,u2,h1,h2,h3⟩ hk=>⟨u1,u2,h1,h2.keep hk,dA.keep dx h3 hk⟩,fun⟨u1,u2,h1,h2,h3⟩ hS=>⟨u1,u2,h1,h2.mono hS,dA.mono (by omega) dx h3 hS⟩⟩
abbrev rE(S:Nat->Prop):=dA 3 (Ww S) S
def RI(_:Nat->Prop)(_:World)(us:List Value)(r:ah.uY):Prop:=us=[.string r.name,.string r.kind,.string r.a,.string r.b,.int .i64 r.n]
theorem dS:bV RI:=⟨fun h _=>h,fun h _=>h⟩
abbrev tA(S:Nat->Prop):=dA 5 (RI S) S
def eU(S:Nat->Prop)(w:World)(v:Value)(x:ah.bD):Prop:=
 ∃uk ul ur,v=.agg #[.int .i64 x.af6,uk,ul,ur]/\fV S w uk x.af3/\rE S w ul x.af7/\tA S w ur x.af8
theorem eU.keep{S w w' v x}(h:eU S w v x)(hk:aA S w w'):eU S w' v x:=by
 obtain⟨uk,ul,ur,h1,h2,h3,h4⟩:=h;exact⟨uk,ul,ur,h1,h2.keep hk,dA.keep cE h3 hk,dA.keep dS h4 hk⟩
theorem eU.mono{S S' w v x}(h:eU S w v x)(hS:∀b,b<w.heap.size->S b->S' b):eU S' w v x:=by
 obtain⟨uk,ul,ur,h1,h2,h3,h4⟩:=h;exact⟨uk,ul,ur,h1,h2.mono hS,dA.mono (by omega) cE h3 hS,dA.mono (by omega) dS h4 hS⟩
theorem dh.at{S:Nat->Prop}{w:World}{a:Option Addr}{n cap:Nat}{fs:List ah.cA}(h:dh S w (.slice a n cap) fs){j:Nat}(hj:j<fs.length):
  aY a<w.heap.size/\S (aY a)/\w.cell? ⟨aY a,bC a+j*8,none⟩=some (.string fs[j].name)/\w.cell? ⟨aY a,bC a+j*8+1,none⟩=some (.string fs[j].of)/\w.cell? ⟨aY a,bC a+j*8+2,none⟩=some (.string fs[j].up)/\
   w.cell? ⟨aY a,bC a+j*8+3,none⟩=some (.int .i64 fs[j].kind)/\w.cell? ⟨aY a,bC a+j*8+4,none⟩=some (.int .i64 fs[j].lo)/\w.cell? ⟨aY a,bC a+j*8+5,none⟩=some (.int .i64 fs[j].hi)/\
   ∃uw ug,w.cell? ⟨aY a,bC a+j*8+6,none⟩=some uw/\w.cell? ⟨aY a,bC a+j*8+7,none⟩=some ug/\fL S w uw fs[j].agb/\bO S w ug fs[j].aga:=by
 obtain⟨h1,us,h2,h3,uw,ug,rfl,h4,h5⟩:=dA.at h hj;exact⟨zBl w ⟨aY a,bC a+j*8+0,none⟩ (h3 0 _ rfl),h1,h3 0 _ rfl,h3 1 _ rfl,h3 2 _ rfl,h3 3 _ rfl,h3 4 _ rfl,h3 5 _ rfl,uw,ug,h3 6 _ rfl,h3 7 _ rfl,h4,h5⟩
theorem fV.at{S:Nat->Prop}{w:World}{a:Option Addr}{n cap:Nat}{ks:List ah.dZ}(h:fV S w (.slice a n cap) ks){j:Nat}(hj:j<ks.length):
  aY a<w.heap.size/\S (aY a)/\w.cell? ⟨aY a,bC a+j*4,none⟩=some (.string ks[j].name)/\w.cell? ⟨aY a,bC a+j*4+1,none⟩=some (.int .i64 ks[j].lo)/\w.cell? ⟨aY a,bC a+j*4+2,none⟩=some (.int .i64 ks[j].hi)/\
   ∃uf,w.cell? ⟨aY a,bC a+j*4+3,none⟩=some uf/\dh S w uf ks[j].af4:=by
 obtain⟨h1,us,h2,h3,uf,rfl,h4⟩:=dA.at h hj;exact⟨zBl w ⟨aY a,bC a+j*4+0,none⟩ (h3 0 _ rfl),h1,h3 0 _ rfl,h3 1 _ rfl,h3 2 _ rfl,uf,h3 3 _ rfl,h4⟩
theorem rE.at{S:Nat->Prop}{w:World}{a:Option Addr}{n cap:Nat}{ks:List ah.Eb}(h:rE S w (.slice a n cap) ks){j:Nat}(hj:j<ks.length):
  aY a<w.heap.size/\S (aY a)/\w.cell? ⟨aY a,bC a+j*3,none⟩=some (.string ks[j].name)/\
   ∃u1 u2,w.cell? ⟨aY a,bC a+j*3+1,none⟩=some u1/\w.cell? ⟨aY a,bC a+j*3+2,none⟩=some u2/\fL S w u1 ks[j].agc/\BZ S w u2 ks[j].agd:=by
 obtain⟨h1,us,h2,h3,u1,u2,rfl,h4,h5⟩:=dA.at h hj;exact⟨zBl w ⟨aY a,bC a+j*3+0,none⟩ (h3 0 _ rfl),h1,h3 0 _ rfl,u1,u2,h3 1 _ rfl,h3 2 _ rfl,h4,h5⟩
theorem tA.at{S:Nat->Prop}{w:World}{a:Option Addr}{n cap:Nat}{ks:List ah.uY}(h:tA S w (.slice a n cap) ks){j:Nat}(hj:j<ks.length):
  aY a<w.heap.size/\S (aY a)/\w.cell? ⟨aY a,bC a+j*5,none⟩=some (.string ks[j].name)/\w.cell? ⟨aY a,bC a+j*5+1,none⟩=some (.string ks[j].kind)/\w.cell? ⟨aY a,bC a+j*5+2,none⟩=some (.string ks[j].a)/\w.cell? ⟨aY a,bC a+j*5+3,none⟩=some (.string ks[j].b)/\w.cell? ⟨aY a,bC a+j*5+4,none⟩=some (.int .i64 ks[j].n):=by
 obtain⟨h1,us,h2,h3,rfl⟩:=dA.at h hj;exact⟨zBl w ⟨aY a,bC a+j*5+0,none⟩ (h3 0 _ rfl),h1,h3 0 _ rfl,h3 1 _ rfl,h3 2 _ rfl,h3 3 _ rfl,h3 4 _ rfl⟩
theorem BZ.at{S:Nat->Prop}{w:World}{a:Option Addr}{n cap:Nat}{ks:List (Int×Int)}(h:BZ S w (.slice a n cap) ks){j:Nat}(hj:j<ks.length):
  aY a<w.heap.size/\S (aY a)/\w.cell? ⟨aY a,bC a+j*2,none⟩=some (.int .i64 ks[j].1)/\w.cell? ⟨aY a,bC a+j*2+1,none⟩=some (.int .i64 ks[j].2):=by
 obtain⟨h1,us,h2,h3,rfl⟩:=dA.at h hj;exact⟨zBl w ⟨aY a,bC a+j*2+0,none⟩ (h3 0 _ rfl),h1,h3 0 _ rfl,h3 1 _ rfl⟩
theorem str_inj{a b:ByteArray}(h:a.toList=b.toList):a=b:=by
 rw[ByteArray.toList_eq,ByteArray.toList_eq] at h;exact ByteArray.ext (Array.toList_inj.1 h)
theorem RJ{a b:ByteArray}(h:a=b):(a.toList==b.toList)=true:=by rw[h];simp
theorem RK{a b:ByteArray}(h:a≠b):(a.toList==b.toList)=false:=by
 simp only[beq_eq_false_iff_ne,ne_eq];exact fun e=>h (str_inj e)
theorem GD{a b:ByteArray}:(a.toList==b.toList)=decide (a=b):=by
 by_cases h:a=b
 ·rw[RJ h,decide_eq_true h]
 ·rw[RK h,decide_eq_false h]
def gj(w:World)(b N:Nat):Prop:=
 ∃vL L,∃i:Int,w.heap[b]?=some (.cells #[vL,.int .i64 i] 98 (0,0))/\bO (·<b) w vL L/\Fit L/\0<=i/\i<=N
theorem gj.keep{w w':World}{b N:Nat}(h:gj w b N)(hk:aA (·<=b) w w'):gj w' b N:=by
 obtain⟨vL,L,i,h1,h2,h3⟩:=h;exact⟨vL,L,i,(hk b aB (Array.getElem?_eq_some_iff.1 h1).1).trans h1,h2.keep (fun x hx hlt=>hk x (by omega) hlt),h3⟩
theorem gj.mono{w:World}{b N N':Nat}(h:gj w b N)(hN:N<=N'):gj w b N':=by
 obtain⟨vL,L,i,h1,h2,h3,h4,h5⟩:=h;exact⟨vL,L,i,h1,h2,h3,h4,by omega⟩
theorem gj.lt{w:World}{b N:Nat}(h:gj w b N):b<w.heap.size:=by
 obtain⟨vL,L,i,h1,_⟩:=h;exact(Array.getElem?_eq_some_iff.1 h1).1
theorem B6{P:Program}{f:FuncId}{args:Array Value}{w:World}{v:Value}(h:Calls P f args w fun e w'=>e=.returned v/\w=w'):Calls P f args w fun e w'=>e=.returned v/\∃n,w'=w.drewN n:=
 h.mono fun _ _ ⟨h1,h2⟩=>⟨h1,0,h2▸rfl⟩
def aak(n:Int)(b N:Nat)(w:World)(e:Ending)(w':World):Prop:=
 ∃t:Int,e=.returned (.int .i64 t)/\0<=t/\t<n/\gj w' b (N+1)/\Turns (·=b) w w'/\w'.heap.size=w.heap.size
theorem aV(n:Int)(h1:1<=n)(h2:n<=1000000)(b N:Nat)(hN:N<=100000)(w:World)(hm:gj w b N):
  Calls Tryz.prog 45 #[.pointer (some ⟨b,0,none⟩),.int .i64 n] w (aak n b N w):=by
 obtain⟨vL,L,i,hb,hL,hF,h0,hi⟩:=hm;obtain⟨w1,hw1⟩:=nmE (w.setCell ⟨b,1,none⟩ (.int .i64 (i+1)))
 have hb1:w1.heap[b]?=some (.cells #[vL,.int .i64 (i+1)] 98 (0,0)):=by
  rw[hw1];have:=heap_setCell_same w b 1 #[vL,.int .i64 i] 98 (.int .i64 (i+1)) hb;simpa using this
 have ht1:Turns (·=b) w w1:=by rw[hw1];exact(Turns.refl _ _).setCell _ _ rfl
 have hsz:w1.heap.size=w.heap.size:=by rw[hw1];simp[World.setCell]
 have hL1:bO (·<b) w1 vL L:=hL.keep (ht1.keep (fun x hx e=>by omega));have c0:w.cell? ⟨b,0,none⟩=some vL:=by simp[World.cell?,hb]
 have c1:w.cell? ⟨b,1,none⟩=some (.int .i64 i):=by simp[World.cell?,hb]
 have f1:w.frozen? ⟨b,1,none⟩=false:=by simp[World.frozen?,hb]
 have d0:w1.cell? ⟨b,0,none⟩=some vL:=by simp[World.cell?,hb1]
 have d1:w1.cell? ⟨b,1,none⟩=some (.int .i64 (i+1)):=by simp[World.cell?,hb1]
 have hr:=Dm L (i+1-1).toNat n h1;have HM:Hid (gj (w1.drewN 1) b (N+1)):=hid ⟨vL,L,i+1,hb1,hL1,hF,by omega,by omega⟩;have HC:=fun(W:World) (h:bO (·<b) W vL L)=>Gy L hF vL (i+1-1) n (·<b) W h h1 h2 (by omega);have HT:=hid ht1;have HS:=hid hsz;have HL:=hid hL1;have HC':=hid HC;clear hb1 ht1 hsz hL1 HC hL hb;have e1:(i+1-1)=i:=by omega
 generalize Rj L (i+1-1).toNat n=t at*;obtain⟨hr1,xR⟩:=hr;rw[e1] at HC';go_enter Tryz.func45,Tryz.ntmps45;go_wp2;rw[<-hw1];clear hw1;have HQ:=hid (fun nq=>Calls.quiet_of (B6 (HC'.out (w1.drewN nq) (HL.out.keep (aA.below (af5 aj _))))));go_quiet ((exact HQ.out _));go_wp2;go_ret;exact⟨t,rfl,hr1,xR,HM.out,HT.out.trans (Turns.aM (af5 aj _)),HS.out⟩
theorem dA.lit{α:Type}{n:Nat}{RR:(Nat->Prop)->World->List Value->α->Prop}(hR:bV RR){S:Nat->Prop}{W:World}{t:TypeId}(jS:List (List Value))(xs:List α)(hl:jS.length=xs.length)(hc:∀us∈jS,us.length=n)
  (hr:∀j (h1:j<jS.length) (h2:j<xs.length),RR S W jS[j] xs[j]){N m cap:Nat}(hN:N=W.heap.size)(hS:S N){cs:Array Value}(hcs:cs.toList=jS.flatten)(hm:m=xs.length)(hcap:cap=xs.length)(h0:xs.length<=1000000):
  dA n (RR S) S (W.alloc (.cells cs t)) (.slice (some ⟨N,0,none⟩) m cap) xs:=by
 subst hN hm hcap;refine⟨_,_,rfl,fun _=>⟨_,_,rfl⟩,aB,by unfold maxLen;omega,fun _=>hS,fun j hj=>⟨jS[j]'(by omega),hc _ (zGm _),fun i u hi=>?_,hR.keep (hr j (by omega) hj) (aA.below (aj.alloc aB _))⟩⟩
 have hi':i<n:=by
  have h6:=(List.getElem?_eq_some_iff.1 hi).1;rwa [hc _ (zGm _)] at h6
 rw[fC,fD,Nat.zero_add];have:=jb W cs t (j*n+i) u (by rw[hcs,qC jS j (by omega) i hc hi'];exact hi);rwa [Nat.zero_add] at this
theorem pK{S T:Nat->Prop}{W:World}{g:Nat}{t:TypeId}{f:ah.cA}(h:W.heap[g]?=some (.cells (bX f (.slice none 0 0) (.slice none 0 0)).toArray t (0,0)))(h1:f.agb=[])(h2:f.aga=[])(hT:T g):
  dA 8 (jm S) T W (.slice (some ⟨g,0,none⟩) 1 1) [f]:=by
 refine⟨_,_,rfl,fun _=>⟨_,_,rfl⟩,aB,by unfold maxLen;simp,fun _=>hT,fun j hj=>?_⟩;obtain rfl:j=0:=by simpa using hj
 refine⟨bX f (.slice none 0 0) (.slice none 0 0),rfl,fun i u hi=>?_,⟨_,_,rfl,by simp only[List.getElem_cons_zero];rw[h1];exact eX.nil _ _ _,by simp only[List.getElem_cons_zero];rw[h2];exact eX.nil _ _ _⟩⟩;rw[fC,fD,Nat.zero_mul];simp only[Nat.zero_add,Nat.add_zero];exact(aI h i).trans (by simpa using hi)
theorem kD{S:Nat->Prop}{w:World}{us:List Value}{f:ah.cA}(h:jm S w us f):∀u∈us,u.oneCell'=true:=by
 obtain⟨uw,ug,rfl,h1,h2⟩:=h;obtain⟨a1,c1,rfl, -⟩:=h1.form;obtain⟨a2,c2,rfl, -⟩:=h2.form;intro u hu;simp only[bX,zMc,zNn,or_false] at hu;rcases hu with rfl|rfl|rfl|rfl|rfl|rfl|rfl|rfl<;>rfl
theorem Tryz.Du:jt Tryz.prog 22 3 1 8:=gA (z:=.int .i64 0) (by kernel_rfl) (by kernel_rfl) rfl (by omega) (by omega)
def Ny(b N:Nat)(w:World)(e:Ending)(w':World):Prop:=
 ∃v l,e=.returned v/\ah.dI l/\dh (w.heap.size<=·) w' v l/\gj w' b (N+20)/\Turns (·=b) w w'
theorem iH{S:Nat->Prop}{w:World}{f:ah.cA}(h1:f.agb=[])(h2:f.aga=[]):jm S w (bX f (.slice none 0 0) (.slice none 0 0)) f:=
 ⟨_,_,rfl,by rw[h1];exact eX.nil _ _ _,by rw[h2];exact eX.nil _ _ _⟩
theorem Ca{S:Nat->Prop}{W:World}{t:TypeId}{f:ah.cA}(h1:f.agb=[])(h2:f.aga=[]){N:Nat}(hN:N=W.heap.size)(hS:S N):
  dh S (W.alloc (.cells (bX f (.slice none 0 0) (.slice none 0 0)).toArray t)) (.slice (some ⟨N,0,none⟩) 1 1) [f]:=
 dA.lit aT [bX f (.slice none 0 0) (.slice none 0 0)] [f] rfl (by simp[bX]) (fun j h _=>by
  match j,h with
  |0,_=>exact iH h1 h2) hN hS (by simp) rfl rfl (by simp)
theorem Cb{S:Nat->Prop}{W:World}{t:TypeId}{f g:ah.cA}(h1:f.agb=[])(h2:f.aga=[])(g1:g.agb=[])(g2:g.aga=[]){N:Nat}(hN:N=W.heap.size)(hS:S N):
  dh S (W.alloc (.cells (bX f (.slice none 0 0) (.slice none 0 0)++bX g (.slice none 0 0) (.slice none 0 0)).toArray t)) (.slice (some ⟨N,0,none⟩) 2 2) [f,g]:=
 dA.lit aT [bX f (.slice none 0 0) (.slice none 0 0),bX g (.slice none 0 0) (.slice none 0 0)] [f,g] rfl (by simp[bX]) (fun j h _=>by
  match j,h with
  |0,_=>exact iH h1 h2
  |1,_=>exact iH g1 g2) hN hS (by simp) rfl rfl (by simp)
def aal(b N n nW F:Nat)(w:World)(k:Nat)(wr:World):Prop:=
 ∃ag cg gs,wr.heap[F]?=some (.cells #[.string ah.xT,.string ah.nil,.string ah.nil,.int .i64 3,.int .i64 0,.int .i64 0,.slice (some ⟨nW,0,none⟩) n 3,.slice ag k cg] 117 (0,0))/\
  wr.heap[nW]?=some (.cells (ah.fP.map Value.string).toArray 9 (0,0))/\cF (fun x=>F<x) wr (.slice ag k cg) gs/\gs.length=k/\(∀g∈gs,0<=g/\g<=5)/\gj wr b (N+2+k)/\Turns (·=b) w wr
theorem Cc{S:Nat->Prop}{W:World}{n:Nat}{l:List ByteArray}{t:TypeId}(h:W.heap[n]?=some (.cells (l.map Value.string).toArray t (0,0)))(hS:S n){c m:Nat}(hc:c<=l.length)(hm:m=l.length)(hl:l.length<=1000):
  fL S W (.slice (some ⟨n,0,none⟩) c m) (l.take c):=by
 subst hm;have hlen:(l.take c).length=c:=by rw[zLt];omega
 refine⟨some ⟨n,0,none⟩,l.length,by rw[hlen],fun _=>⟨_,_,rfl⟩,by rw[hlen];exact hc,by unfold maxLen;omega,fun _=>hS,fun j hj=>⟨.string (l.take c)[j],?_,rfl⟩⟩;rw[fC,fD,Nat.zero_add];refine(aI h j).trans ?_;rw[List.getElem?_toArray,List.getElem?_map,zEg (by omega)];simp
theorem lF(S:Nat->Prop)(W:World)(t:TypeId)(x:Int){N:Nat}(hN:N=W.heap.size)(hS:S N):bO S (W.alloc (.cells #[.int .i64 x] t)) (.slice (some ⟨N,0,none⟩) 1 1) [x]:=by
 subst hN;refine⟨_,_,rfl,fun _=>⟨_,_,rfl⟩,aB,by unfold maxLen;simp,fun _=>hS,fun j hj=>?_⟩;obtain rfl:j=0:=by simpa using hj
 exact⟨_,by simpa using jb W #[.int .i64 x] t 0 _ rfl,rfl⟩
theorem Nz(b N:Nat)(hN:N<=90000)(w:World)(hm:gj w b N):
  Calls Tryz.prog 79 #[.pointer (some ⟨b,0,none⟩)] w (Ny b N w):=by
 have HM:=hid hm;clear hm;go_enter Tryz.func79,Tryz.ntmps79;go_wp2_with fail;refine(aV 6 (by omega) (by omega) b N (by omega) w HM.out).mono ?_;rintro e w1 ⟨t,rfl,h0,h6,hm1,ht1,hs1⟩;have Bf:=hid hm1;have wI:=hid ht1;have wJ:=hid hs1;clear hm1 ht1 hs1 HM;rcases (show t=0\/t=1\/t=2\/t=3\/t=4\/t=5 by omega) with rfl|rfl|rfl|rfl|rfl|rfl
 ·go_wp2_with fail
  refine(aV 11 (by omega) (by omega) b (N+1) (by omega) w1 Bf.out).mono ?_;rintro e w2 ⟨t,rfl,g0,g6,hm2,ht2,hs2⟩;have vf:=hid hm2;have mV:=hid (wI.out.trans ht2);have xU:=hid (hs2.trans wJ.out);clear hm2 ht2 hs2 Bf wI wJ h0 h6;go_wp2_with fail;refine(aV 20 (by omega) (by omega) b (N+2) (by omega) w2 vf.out).mono ?_;rintro e w3 ⟨t',rfl,f0,f6,Ec,ht3,hs3⟩;have RL:=hid Ec;have xV:=hid (mV.out.trans ht3);have NA:=hid (hs3.trans xU.out);clear Ec ht3 hs3 vf mV xU;go_wp2;go_ret
  exact⟨_,[ah.BV (t-5) (t-5+t')],rfl,.size _ _ ⟨by omega,by omega,by omega⟩,Ca (f:=ah.BV (t-5) (t-5+t')) rfl rfl rfl (by have:=NA.out;show _<=_;omega),
   (RL.out.mono (by omega)).keep (aA.below (aj.alloc aB _)),xV.out.trans (Turns.aM (aj.alloc aB _))⟩
 ·go_wp2_with fail
  refine(aV 3 (by omega) (by omega) b (N+1) (by omega) _ (Bf.out.keep (aA.below (aj.alloc aB _)))).mono ?_;rintro e w2 ⟨t,rfl,g0,g6,hm2,ht2,hs2⟩;obtain⟨n,rfl⟩:∃n:Nat,t=(n:Int):=⟨t.toNat,by omega⟩
  have HW2:Hid (w2.heap[w1.heap.size]?=some (.cells (ah.fP.map Value.string).toArray 9 (0,0))):=hid (by
   rw[ht2.block _ (by have:=Bf.out.lt;omega) (by simp)]
   exact zAn w1 _)
  have mV:Hid (Turns (·=b) w w2):=hid (wI.out.trans ((Turns.aM (aj.alloc aB _)).trans ht2));have xU:Hid (w2.heap.size=w.heap.size+1):=hid (by rw[hs2,World.size_alloc,wJ.out]);have vf:=hid hm2;clear hm2 ht2 hs2;go_wp2;have hc1:1<=1+n:=by omega
  have hc3:1+n<=3:=by omega
  generalize 1+n=c at*;clear g0 g6;have hbF:b<w2.heap.size:=vf.out.lt;have hbW:b<w1.heap.size:=Bf.out.lt;have hsz:w1.heap.size<w2.heap.size:=by have:=wJ.out;have:=xU.out;omega
  go_loopw [6] (fun i wr=>∃k:Nat,k<=c/\i=.int .i64 k/\Hid (aal b N c w1.heap.size w2.heap.size w k wr)) (fun i _=>c-(intOf i).toNat)
  case atStart=>
   refine⟨0,by omega,rfl,hid ⟨none,0,[],zAn w2 _,aG _ HW2.out,cF.nil _ _,rfl,by simp,(vf.out.mono (by omega)).keep (aA.below (aj.alloc aB _)),mV.out.trans (Turns.aM (aj.alloc aB _))⟩⟩
  case round=>
   obtain⟨k,hk,rfl,hR⟩:=hrel;obtain⟨ag,cg,gs,r1,r2,r3,r4,r5,r6,r7⟩:=hR.out;by_cases hlt:k<c
   ·obtain⟨fc,hfc⟩:=nmE (#[.string ah.xT,.string ah.nil,.string ah.nil,.int .i64 3,.int .i64 0,.int .i64 0,.slice (some ⟨w1.heap.size,0,none⟩) c 3,.slice ag k cg]:Array Value)
    rw[<-hfc] at r1;have hφ:iG w2.heap.size fc 117 (wr.drewN 1):=r1;have HR:=hid (And.intro r1 (And.intro r2 (And.intro r3 (And.intro r4 (And.intro r5 (And.intro r6 r7))))));clear r1 r2 r3 r4 r5 r6 r7;have Dv:=hid hfc;go_wp2;refine iw 5 [(true,0),(true,1),(true,2),(false,3),(false,4)] (iG w2.heap.size fc 117) mxT (by kernel_rfl) hφ ?_;intro hne;refine ku 3 (by decide) ?_;simp only[List.take_succ_cons,List.take_zero];have hx0:∀x:Held (iG w2.heap.size fc 117),x.1.cell? ⟨w2.heap.size,7,none⟩=some (.slice ag k cg):=fun x=>(aI x.2 7).trans (by rw[Dv.out];rfl);clear hfc;repeat (go_big_quiet_step (fail))
    refine zWq ?_;clear hx0 hne;refine dY rfl ?_;go_wp2_with fail;refine(aV 5 (by omega) (by omega) b (N+2+k) (by omega) _ (HR.out.2.2.2.2.2.1.keep (aA.below (af5 aj _)))).mono ?_;rintro e w5 ⟨t,rfl,q0,q5,Ga,ze,hs5⟩;have Ed:w5.heap[w2.heap.size]?=some (.cells fc 117 (0,0)):=(ze.block w2.heap.size (show ¬w2.heap.size=b by omega) (ay HR.out.1)).trans HR.out.1;have ZC:=(ze.block w1.heap.size (show ¬w1.heap.size=b by omega) (ay HR.out.2.1)).trans HR.out.2.1;have ZE:cF (fun x=>w2.heap.size<x) w5 (.slice ag k cg) gs:=bg.keep HR.out.2.2.1 ((Turns.aM (S:=(·=b)) (af5 aj 1)).trans ze|>.keep (fun x hx e=>by omega));have NC:=HR.out.2.2.2.2.2.2.trans ((Turns.aM (af5 aj 1)).trans ze);have H5:=hid (And.intro Ed (And.intro ZC (And.intro ZE (And.intro Ga NC))));obtain⟨hl,hg⟩:=And.intro HR.out.2.2.2.1 HR.out.2.2.2.2.1;have HG:=hid (And.intro hl hg);clear Ga ze hs5 Ed ZC ZE NC HR hl hg hR hφ;go_wp2;refine pF ⟨dQ.of (φ:=iG w2.heap.size fc 117) H5.out.1,?_⟩;refine dY rfl ?_;go_wp2;refine pF ⟨dQ.of (φ:=iG w2.heap.size fc 117) (aG _ H5.out.1),?_⟩;refine jw ?_;simp only[zDs,zDz];go_wp2_with (at_builtin;go_must (refine gZ rfl _ _ rfl Tryz.Du rfl H5.out.2.2.1 (aj.alloc aB _) rfl (lF yQ w5 _ t rfl trivial) (by have:=HG.out.1;omega) ?_));intro v' w6 hI6 pM;have e:(gs++[t]).length=k+1:=by simp[HG.out.1]
    obtain⟨ND,MX,hv', -, -, -⟩:=(cF.sl hI6).form;rw[e] at hv';subst hv';obtain⟨Ed,ZC,ZE,Ga,NC⟩:=H5.out;have hne:∀x,x<=w2.heap.size->¬some x=(Value.slice ag k cg).ownBlock:=fun x hx e=>by have:=ZE.2 x e.symm;omega
    have JW:w6.heap[w2.heap.size]?=some (.cells fc 117 (0,0)):=(pM.block _ (hne _ aB) (ay (aG _ Ed))).trans (aG _ Ed);have h6W:=(pM.block _ (hne w1.heap.size (by omega)) (ay (aG _ ZC))).trans (aG _ ZC);have h6m:gj w6 b (N+2+k+1):=(Ga.keep (aA.below (aj.alloc aB _))).keep (pM.keep (fun x hx e=>hne x (by omega) e))
    have MZ:Turns (·=b) w w6:=(NC.alloc _).into pM (fun x hx e=>by
     have h9:=ZE.2 x e.symm;have:=xU.out;omega)
    have hfz:=bh JW 7;have hcl:=(aI JW 7).trans (show fc[7]?=some (.slice ag k cg) by rw[Dv.out];rfl);have h7F:(w6.setCell ⟨w2.heap.size,7,none⟩ (.slice ND (k+1) MX)).heap[w2.heap.size]?=some (.cells (fc.setIfInBounds 7 (.slice ND (k+1) MX)) 117 (0,0)):=heap_setCell_same _ _ _ _ _ _ JW;have Rk:∀x,x≠w2.heap.size->(w6.setCell ⟨w2.heap.size,7,none⟩ (.slice ND (k+1) MX)).heap[x]?=w6.heap[x]?:=fun x hx=>zBh _ _ _ _ hx
    have H7:Hid (aal b N c w1.heap.size w2.heap.size w (k+1) (w6.setCell ⟨w2.heap.size,7,none⟩ (.slice ND (k+1) MX))):=hid (by
     refine⟨ND,MX,gs++[t],h7F.trans (by rw[Dv.out];rfl),(Rk _ (by omega)).trans h6W,?_,e,?_,?_,?_⟩
     ·refine bg.keep (bg.mono hI6 (S':=fun x=>w2.heap.size<x) (fun x _ hx=>?_)) (fun x hx _=>Rk x (by omega))
      rcases hx with hx|hx
      ·exact hx.1
      ·have:=ay Ed;show _<_;omega
     ·intro g hg
      rcases List.mem_append.1 hg with hg|hg
      ·exact HG.out.2 g hg
      ·rw[zMs.1 hg];omega
     ·exact h6m.keep (fun x hx _=>Rk x (by omega))
     ·exact MZ.setCell_new _ _ (by have:=xU.out;show _<=w2.heap.size;omega))
    clear h7F Rk MZ h6m h6W JW hne Ed ZC ZE Ga NC hI6 pM H5 e;go_wp2;go_roundw;case rel=>exact⟨k+1,by omega,by go_num,H7⟩
    simp[intOf];omega
   ·have hkc:c=k:=by omega
    subst hkc;clear hlt hk;obtain⟨g,MX,hag,hg1,hg2,hg3⟩:=r3.sW (by omega);injection hag with hag1 KW hag3;subst hag1 hag3;obtain⟨fc,hfc⟩:=nmE (#[.string ah.xT,.string ah.nil,.string ah.nil,.int .i64 3,.int .i64 0,.int .i64 0,.slice (some ⟨w1.heap.size,0,none⟩) c 3,.slice (some ⟨g,0,none⟩) c cg]:Array Value);rw[<-hfc] at r1;have hφ:iG w2.heap.size fc 117 (wr.drewN 1):=r1;have HR:=hid (And.intro r1 (And.intro r2 (And.intro r3 (And.intro r4 (And.intro r5 (And.intro r6 r7))))));have sP:=hid hg3;clear r1 r2 r3 r4 r5 r6 r7 KW hg3;have Dv:=hid hfc;go_wp2;refine iw 9 [(true,0),(true,1),(true,2),(true,3),(true,6),(false,4),(false,5),(false,7),(false,8)] (iG w2.heap.size fc 117) mxT (by kernel_rfl) hφ ?_;intro hne;have hx0:∀x:Held (iG w2.heap.size fc 117),x.1.cell? ⟨w2.heap.size,7,none⟩=some (.slice (some ⟨g,0,none⟩) c cg):=fun x=>(aI x.2 7).trans (by rw[Dv.out];rfl);clear hfc;refine ku 4 (by decide) ?_;simp only[List.take_succ_cons,List.take_zero];repeat (go_big_quiet_step (fail))
    refine zWq ?_;refine mF rfl ?_;go_big_quiet_step (fail);refine zWq ?_;clear hx0 hne;refine dY rfl ?_;go_wp2;refine pF ⟨dQ.of (φ:=iG w2.heap.size fc 117) hφ,?_⟩;refine dY rfl ?_;go_wp2_with fail;refine(aV _ (by omega) (by omega) b (N+2+c) (by omega) _ (HR.out.2.2.2.2.2.1.keep (aA.below (af5 aj _)))).mono ?_;rintro e w5 ⟨t,rfl,q0,q5,Ga,ze,hs5⟩;obtain⟨m,rfl⟩:∃m:Nat,t=(m:Int):=⟨t.toNat,by omega⟩;have aam:m<c:=by omega
    have Ed:w5.heap[w2.heap.size]?=some (.cells fc 117 (0,0)):=(ze.block w2.heap.size (show ¬w2.heap.size=b by omega) (ay HR.out.1)).trans HR.out.1;have H5:=hid (And.intro Ed (And.intro Ga (And.intro ze hs5)));clear Ga ze hs5 Ed hφ;go_wp2;refine pF ⟨dQ.of (φ:=iG w2.heap.size fc 117) H5.out.1,?_⟩;refine dY rfl ?_;go_wp2_with fail;refine(aV 3 (by omega) (by omega) b (N+2+c+1) (by omega) _ H5.out.2.1).mono ?_;rintro e w6 ⟨t,rfl,p0,p5,AV,pM,hs6⟩;have MZ:=((Turns.aM (S:=(·=b)) (af5 (Below.refl _ wr) 1)).trans H5.out.2.2.1).trans pM;have JW:w6.heap[w2.heap.size]?=some (.cells fc 117 (0,0)):=(MZ.block w2.heap.size (show ¬w2.heap.size=b by omega) (ay HR.out.1)).trans HR.out.1;have h6W:=(MZ.block w1.heap.size (show ¬w1.heap.size=b by omega) (ay HR.out.2.1)).trans HR.out.2.1;have h6g:=MZ.block g (show ¬g=b by omega) hg2;have h6I:cF (fun x=>w2.heap.size<x) w6 (.slice (some ⟨g,0,none⟩) c cg) gs:=bg.keep HR.out.2.2.1 (MZ.keep (fun x hx e=>by omega));obtain⟨⟨x0,hx0⟩,hz0⟩:=sP.out m (by rw[HR.out.2.2.2.1];exact aam);have hx6:w6.cell? ⟨g,m,none⟩=some (.int .i64 x0):=by rw[World.cell?_of_block (w:=wr) (a:=⟨g,m,none⟩) h6g];exact hx0
    have hz6:w6.frozen? ⟨g,m,none⟩=false:=by
     have:w6.frozen? ⟨g,m,none⟩=wr.frozen? ⟨g,m,none⟩:=by simp only[World.frozen?,h6g]
     rw[this];exact hz0
    have HT6:=hid (HR.out.2.2.2.2.2.2.trans MZ);have H6:=hid (And.intro JW (And.intro h6W (And.intro h6I AV)));obtain⟨hl,hg⟩:=And.intro HR.out.2.2.2.1 HR.out.2.2.2.2.1;have HG:=hid (And.intro hl hg);clear AV pM hs6 MZ JW h6W h6g h6I hl hg hR HR H5 sP hx0 hz0;go_wp2;refine pF ⟨dQ.of (φ:=iG w2.heap.size fc 117) H6.out.1,?_⟩;refine dY rfl ?_;go_wp2;refine pF ⟨dQ.of (φ:=iG w2.heap.size fc 117) H6.out.1,?_⟩;refine jw ?_;simp only[zDs,zDz];have hm0:(0:Int)<=m:=by omega
    have hm2:(m:Int)<c:=by omega
    have hsk:dG (some ⟨g,0,none⟩) c:=fun _=>⟨_,_,rfl⟩;have JW:=H6.out.1;rw[Dv.out] at JW;obtain⟨⟨y0,y1,y2,y3,y4,y5,y6,y7⟩, -⟩:=dn JW;clear JW;have hgF:¬g=w2.heap.size:=by omega
    have hgF2:¬w2.heap.size=g:=by omega
    have HK:∀x,x≠g->(w6.setCell ⟨g,m,none⟩ (.int .i64 (1+t))).heap[x]?=w6.heap[x]?:=fun x hx=>zBh _ _ _ _ hx
    have HP:Hid (Ny b N w (.returned (.slice (some ⟨w6.heap.size,0,none⟩) 1 1)) ((w6.setCell ⟨g,m,none⟩ (.int .i64 (1+t))).alloc (.cells (bX (ah.Bb (ah.fP.take c) (gs.set m (1+t))) (.slice (some ⟨w1.heap.size,0,none⟩) c 3) (.slice (some ⟨g,0,none⟩) c cg)).toArray 117))):=hid (by
     obtain⟨k1,k2,k3,k4⟩:=H6.out
     have hI:=k3.set (HG.out.1).symm m (1+t)
     have hS:=xU.out
     have hzz:w.heap.size<=w6.heap.size:=by
      have h2:=ay k1;omega
     refine⟨_,[ah.Bb (ah.fP.take c) (gs.set m (1+t))],rfl,.tag c _ hc1 hc3 (by rw[List.length_set];exact HG.out.1) (fun x hx=>?_) ?_,?_,?_,?_⟩
     ·rcases List.mem_or_eq_of_mem_set hx with hx|rfl
      ·exact HG.out.2 x hx
      ·omega
     ·refine ah.Et _ (fun x hx=>?_) ⟨1+t,List.mem_set (by rw[HG.out.1];exact aam) _,by omega⟩
      rcases List.mem_or_eq_of_mem_set hx with hx|rfl
      ·exact(HG.out.2 x hx).1
      ·omega
     ·refine dA.lit aT [bX (ah.Bb (ah.fP.take c) (gs.set m (1+t))) (.slice (some ⟨w1.heap.size,0,none⟩) c 3) (.slice (some ⟨g,0,none⟩) c cg)] [_] rfl (by simp[bX]) (fun j h _=>?_) (by simp[World.setCell]) hzz (by simp) rfl rfl (by simp)
      match j,h with
      |0,_=>
       refine⟨_,_,rfl,?_,bO.mono (cF.sl hI) (fun x _ hx=>by have:w2.heap.size<x:=hx;show _<=x;omega)⟩
       have hW:=(HK w1.heap.size (by omega)).trans k2
       exact Cc hW (by show _<=w1.heap.size;rw[wJ.out];exact aB) hc3 rfl (by decide)
     ·exact((k4.mono (by omega)).keep (fun x hx _=>HK x (by omega))).keep (aA.below (aj.alloc aB _))
     ·exact(HT6.out.setCell_new ⟨g,m,none⟩ _ (by show _<=g;omega)).alloc _)
    clear HK;go_wp2;go_ret;exact HP.out
 ·go_wp2_with fail
  refine(aV 400 (by omega) (by omega) b (N+1) (by omega) w1 Bf.out).mono ?_;rintro e w2 ⟨t,rfl,g0,g6,hm2,ht2,hs2⟩;have vf:=hid hm2;have mV:=hid (wI.out.trans ht2);have xU:=hid (hs2.trans wJ.out);clear hm2 ht2 hs2 Bf wI wJ h0 h6;have hbF:b<w2.heap.size:=vf.out.lt;go_wp2;obtain⟨fc,hfc⟩:=nmE (#[.string ah.mT,.string ah.nil,.string ah.nil,.int .i64 4,.int .i64 (t-200),.int .i64 0,.slice none 0 0,.slice none 0 0]:Array Value);have h3F:(w2.alloc (.cells fc 117)).heap[w2.heap.size]?=some (.cells fc 117 (0,0)):=zAn w2 _;have h3m:gj (w2.alloc (.cells fc 117)) b (N+2):=vf.out.keep (aA.below (aj.alloc aB _));have h3T:Turns (·=b) w (w2.alloc (.cells fc 117)):=mV.out.alloc _;rw[show (#[.string {data:=#[98,111,114,110]},.string {data:=#[]},.string {data:=#[]},.int .i64 4,.int .i64 (t-200),.int .i64 0,.slice none 0 0,.slice none 0 0]:Array Value)=fc from hfc.symm];generalize w2.alloc (.cells fc 117)=w3 at*;have Dv:=hid hfc;have hφ:iG w2.heap.size fc 117 (w3.drewN 1):=h3F;have H3:=hid (And.intro h3F (And.intro h3m h3T));clear h3F h3m h3T;refine iw 4 [(true,0),(true,1),(true,2),(false,3)] (iG w2.heap.size fc 117) mxT (by kernel_rfl) hφ ?_;intro hne;have hx0:∀x:Held (iG w2.heap.size fc 117),x.1.cell? ⟨w2.heap.size,4,none⟩=some (.int .i64 (t-200)):=fun x=>(aI x.2 4).trans (by rw[Dv.out];rfl);clear hfc;refine ku 3 (by decide) ?_;simp only[List.take_succ_cons,List.take_zero];repeat (go_big_quiet_step (fail))
  refine zWq ?_;clear hx0 hne;refine dY rfl ?_;go_wp2_with fail;refine(aV 60 (by omega) (by omega) b (N+2) (by omega) _ (H3.out.2.1.keep (aA.below (af5 aj _)))).mono ?_;rintro e w4 ⟨t',rfl,q0,q5,M4,zh,hs4⟩;have Rl:w4.heap[w2.heap.size]?=some (.cells fc 117 (0,0)):=(zh.block w2.heap.size (show ¬w2.heap.size=b by omega) (ay H3.out.1)).trans H3.out.1;have h4T:=(H3.out.2.2.drewN 1).trans zh;have H4:=hid (And.intro Rl (And.intro M4 h4T));clear M4 zh hs4 Rl h4T hφ H3;go_wp2;refine pF ⟨dQ.of (φ:=iG w2.heap.size fc 117) H4.out.1,?_⟩;refine jw ?_;simp only[zDs,zDz];have Rl:=H4.out.1;rw[Dv.out] at Rl;obtain⟨⟨-, -, -, -, -,y5, -, -⟩,yz⟩:=dn Rl;have yz5:=yz 5;have Ed:(w4.setCell ⟨w2.heap.size,5,none⟩ (.int .i64 (t-200+t'))).heap[w2.heap.size]?=some (.cells #[.string ah.mT,.string ah.nil,.string ah.nil,.int .i64 4,.int .i64 (t-200),.int .i64 (t-200+t'),.slice none 0 0,.slice none 0 0] 117 (0,0)):=heap_setCell_same w4 _ 5 _ _ _ Rl;have h5m:gj (w4.setCell ⟨w2.heap.size,5,none⟩ (.int .i64 (t-200+t'))) b (N+3):=H4.out.2.1.keep (fun x hx _=>zBh _ _ _ _ (show x≠w2.heap.size by omega));have NC:=H4.out.2.2.setCell_new ⟨w2.heap.size,5,none⟩ (.int .i64 (t-200+t')) (by have:=xU.out;show _<=w2.heap.size;omega);have H5:=hid (And.intro Ed (And.intro h5m NC));clear Ed h5m NC Rl yz Dv H4;go_wp2;generalize w4.setCell ⟨w2.heap.size,5,none⟩ (.int .i64 (t-200+t'))=w5 at*;obtain⟨Ev,Wx⟩:=nmE (#[.string ah.mT,.string ah.nil,.string ah.nil,.int .i64 4,.int .i64 (t-200),.int .i64 (t-200+t'),.slice none 0 0,.slice none 0 0]:Array Value);obtain⟨Ed,h5m,NC⟩:=H5.out;rw[<-Wx] at Ed;have hφ:iG w2.heap.size Ev 117 (w5.drewN 1):=Ed;have Dv:=hid Wx;have H5':=hid (And.intro Ed (And.intro h5m NC));clear H5 Ed h5m NC y5 yz5;refine iw 7 [(true,0),(true,1),(true,3),(false,2),(false,4),(false,5),(false,6)] (iG w2.heap.size Ev 117) mxT (by kernel_rfl) hφ ?_;intro hne;have hx0:∀x:Held (iG w2.heap.size Ev 117),x.1.cell? ⟨w2.heap.size,0,none⟩=some (.string ah.mT):=fun x=>(aI x.2 0).trans (by rw[Dv.out];rfl);have hx1:∀x:Held (iG w2.heap.size Ev 117),x.1.cell? ⟨w2.heap.size,1,none⟩=some (.string ah.nil):=fun x=>(aI x.2 1).trans (by rw[Dv.out];rfl);have hx2:∀x:Held (iG w2.heap.size Ev 117),x.1.cell? ⟨w2.heap.size,2,none⟩=some (.string ah.nil):=fun x=>(aI x.2 2).trans (by rw[Dv.out];rfl);have hx3:∀x:Held (iG w2.heap.size Ev 117),x.1.cell? ⟨w2.heap.size,3,none⟩=some (.int .i64 4):=fun x=>(aI x.2 3).trans (by rw[Dv.out];rfl);have tB:∀x:Held (iG w2.heap.size Ev 117),x.1.cell? ⟨w2.heap.size,4,none⟩=some (.int .i64 (t-200)):=fun x=>(aI x.2 4).trans (by rw[Dv.out];rfl);have hx5:∀x:Held (iG w2.heap.size Ev 117),x.1.cell? ⟨w2.heap.size,5,none⟩=some (.int .i64 (t-200+t')):=fun x=>(aI x.2 5).trans (by rw[Dv.out];rfl);have hx6:∀x:Held (iG w2.heap.size Ev 117),x.1.cell? ⟨w2.heap.size,6,none⟩=some (.slice none 0 0):=fun x=>(aI x.2 6).trans (by rw[Dv.out];rfl);have hx7:∀x:Held (iG w2.heap.size Ev 117),x.1.cell? ⟨w2.heap.size,7,none⟩=some (.slice none 0 0):=fun x=>(aI x.2 7).trans (by rw[Dv.out];rfl);clear Wx;refine ku 2 (by decide) ?_;simp only[List.take_succ_cons,List.take_zero];repeat (go_big_quiet_step (fail))
  refine zWq ?_;refine mF rfl ?_;go_big_quiet_step (fail);refine zWq ?_;clear hx0 hx1 hx2 hx3 tB hx5 hx6 hx7 hne;refine dY rfl ?_;go_wp2_with fail;refine(aV 3 (by omega) (by omega) b (N+3) (by omega) _ (H5'.out.2.1.keep (aA.below (af5 aj _)))).mono ?_;rintro e w6 ⟨s,rfl,p0,p5,AV,pM,hs6⟩;have JW:w6.heap[w2.heap.size]?=some (.cells Ev 117 (0,0)):=(pM.block w2.heap.size (show ¬w2.heap.size=b by omega) (ay H5'.out.1)).trans H5'.out.1;have MZ:=(H5'.out.2.2.drewN 1).trans pM;have H6:=hid (And.intro JW (And.intro AV MZ));clear AV pM hs6 JW MZ hφ H5';go_wp2;refine pF ⟨dQ.of (φ:=iG w2.heap.size Ev 117) H6.out.1,?_⟩;refine dY rfl ?_;go_wp2_with fail;refine(aV 30 (by omega) (by omega) b (N+4) (by omega) _ H6.out.2.1).mono ?_;rintro e w7 ⟨s',rfl,o0,o5,NE,qX,hs7⟩;have h7F:w7.heap[w2.heap.size]?=some (.cells Ev 117 (0,0)):=(qX.block w2.heap.size (show ¬w2.heap.size=b by omega) (ay H6.out.1)).trans H6.out.1;have h7T:=H6.out.2.2.trans qX;have H7:=hid (And.intro h7F (And.intro NE h7T));clear NE qX hs7 h7F h7T H6
  iterate 2
   go_wp2
   refine pF ⟨dQ.of (φ:=iG w2.heap.size Ev 117) H7.out.1,?_⟩
   refine dY rfl ?_
  go_wp2;refine pF ⟨dQ.of (φ:=iG w2.heap.size Ev 117) H7.out.1,?_⟩;refine jw ?_;simp only[zDs,zDz];go_wp2;go_ret
  exact⟨_,[ah.pH (t-200) (t-200+t'),ah.rC s (3+s')],rfl,.born _ _ _ _ ⟨by omega,by omega,by omega⟩ ⟨by omega,by omega,by omega⟩,Cb (f:=ah.pH (t-200) (t-200+t')) (g:=ah.rC s (3+s')) rfl rfl rfl rfl rfl (by have:=ay H7.out.1;have:=xU.out;show _<=_;omega),
   (H7.out.2.1.mono (by omega)).keep (aA.below (aj.alloc aB _)),H7.out.2.2.alloc _⟩
 ·go_wp2_with fail
  refine(aV 3 (by omega) (by omega) b (N+1) (by omega) w1 Bf.out).mono ?_;rintro e w2 ⟨t,rfl,g0,g6,hm2,ht2,hs2⟩;have vf:=hid hm2;have mV:=hid (wI.out.trans ht2);have xU:=hid (hs2.trans wJ.out);clear hm2 ht2 hs2 Bf wI wJ h0 h6;go_wp2_with fail;refine(aV 4 (by omega) (by omega) b (N+2) (by omega) w2 vf.out).mono ?_;rintro e w3 ⟨t',rfl,f0,f6,Ec,ht3,hs3⟩;have RL:=hid Ec;have xV:=hid (mV.out.trans ht3);have NA:=hid (hs3.trans xU.out);clear Ec ht3 hs3 vf mV xU;go_wp2;go_ret
  exact⟨_,[ah.mI t (t+t')],rfl,.state _ _ (by omega) (by omega) (by omega),Ca (f:=ah.mI t (t+t')) rfl rfl rfl (by have:=NA.out;show _<=_;omega),
   (RL.out.mono (by omega)).keep (aA.below (aj.alloc aB _)),xV.out.trans (Turns.aM (aj.alloc aB _))⟩
 ·go_wp2_with fail
  refine(aV 5 (by omega) (by omega) b (N+1) (by omega) w1 Bf.out).mono ?_;rintro e w2 ⟨t,rfl,g0,g6,hm2,ht2,hs2⟩;have vf:=hid hm2;have mV:=hid (wI.out.trans ht2);have xU:=hid (hs2.trans wJ.out);clear hm2 ht2 hs2 Bf wI wJ h0 h6;go_wp2_with fail;refine(aV 10 (by omega) (by omega) b (N+2) (by omega) w2 vf.out).mono ?_;rintro e w3 ⟨t',rfl,f0,f6,Ec,ht3,hs3⟩;have RL:=hid Ec;have xV:=hid (mV.out.trans ht3);have NA:=hid (hs3.trans xU.out);clear Ec ht3 hs3 vf mV xU;go_wp2_with fail;refine(aV 5 (by omega) (by omega) b (N+3) (by omega) w3 RL.out).mono ?_;rintro e w4 ⟨s,rfl,e0,e6,M4,zh,hs4⟩;have Rm:=hid M4;have JX:=hid (xV.out.trans zh);have Gb:=hid (hs4.trans NA.out);clear M4 zh hs4 RL xV NA;go_wp2_with fail;refine(aV 10 (by omega) (by omega) b (N+4) (by omega) w4 Rm.out).mono ?_;rintro e w5 ⟨s',rfl,d0,d6,Ga,ze,hs5⟩;have NF:=hid Ga;have HT5:=hid (JX.out.trans ze);have qY:=hid (hs5.trans Gb.out);clear Ga ze hs5 Rm JX Gb;go_wp2;go_ret
  exact⟨_,[ah.Bc t (5+t'),ah.pI s (10+s')],rfl,.low _ _ _ _ ⟨by omega,by omega,by omega⟩ ⟨by omega,by omega,by omega⟩,Cb (f:=ah.Bc t (5+t')) (g:=ah.pI s (10+s')) rfl rfl rfl rfl rfl (by have:=qY.out;show _<=_;omega),
   (NF.out.mono (by omega)).keep (aA.below (aj.alloc aB _)),HT5.out.trans (Turns.aM (aj.alloc aB _))⟩
 ·go_wp2
  go_ret;exact⟨_,[],rfl,.none,dA.nil _ _ _ _,Bf.out.mono (by omega),wI.out⟩
inductive iM where
 |done
 |quiet (i:Nat) (p:iM)
 |one (i:Nat) (p:iM)
 |two (i j:Nat) (p q:iM)
 |three (i j k:Nat) (p q r:iM)
 deriving DecidableEq
section
variable {P:Program} {ops:Array Oper} {md:Region.Mode}
def pN(P:Program)(ops:Array Oper)(φ:World->Prop)(K:(World->Prop)->Act->World->Prop)(l:List Oper)(i:Nat)(a:Act)(w:World):Prop:=
 match l[i]? with
 |some o=>wpList P ops (QN fun a' w'=>∃φ':World->Prop,(∀W,φ' W->φ W)/\φ' w'/\K φ' a' w') [o] a w
 |none=>False
def bJ(P:Program)(ops:Array Oper)(R:Act->World->Prop)(l:List Oper):iM->(World->Prop)->Act->World->Prop
 | .done,_,a,w=>R a w
 | .quiet i s,φ,a,w=>match l[i]? with
  |some o=>Nonempty (Held φ)->wpQuiet P ops (fun W=>∃x:Held φ,W=x.1) (fun a'=>bJ P ops R l s φ a' w) [o] a
  |none=>False
 | .one i s,φ,a,w=>pN P ops φ (fun φ' a' w'=>bJ P ops R l s φ' a' w') l i a w
 | .two i j s t,φ,a,w=>pN P ops φ (fun φ' a' w'=>bJ P ops R l s φ' a' w') l i a w/\pN P ops φ (fun φ' a' w'=>bJ P ops R l t φ' a' w') l j a w
 | .three i j k s t u,φ,a,w=>pN P ops φ (fun φ' a' w'=>bJ P ops R l s φ' a' w') l i a w/\pN P ops φ (fun φ' a' w'=>bJ P ops R l t φ' a' w') l j a w/\
   pN P ops φ (fun φ' a' w'=>bJ P ops R l u φ' a' w') l k a w
def Region.jA(md:Region.Mode)(ops:Array Oper)(n:Nat):Nat->iM->Array Bool->Bool
 |0,.done,listed=>Region.seqB md ops (ops.size-n) n listed
 |f+1,.one c s,listed=>decide (Region.ready md ops listed=[c])&&decide (c<n)&&Region.jA md ops n f s (listed.setIfInBounds c true)
 |f+1,.two c d s t,listed=>decide (Region.ready md ops listed=[c,d])&&decide (c<n)&&decide (d<n)&&Region.jA md ops n f s (listed.setIfInBounds c true)&&Region.jA md ops n f t (listed.setIfInBounds d true)
 |f+1,.three c d e s t u,listed=>decide (Region.ready md ops listed=[c,d,e])&&decide (c<n)&&decide (d<n)&&decide (e<n)&&Region.jA md ops n f s (listed.setIfInBounds c true)&&Region.jA md ops n f t (listed.setIfInBounds d true)&&Region.jA md ops n f u (listed.setIfInBounds e true)
 |f+1,.quiet q s,listed=>(Region.ready md ops listed).contains q&&Region.free md ops listed q&&decide (q<n)&&((ops[q]?).map (fun o=>qB o.op)).getD false&&Region.jA md ops n f s (listed.setIfInBounds q true)
 |_,_,_=>false
def Region.Cd(md:Region.Mode)(ops:Array Oper)(n:Nat)(s:iM):Bool:=
 Region.noSelect ops&&decide (n<ops.size)&&Region.sinkB md ops n&&Region.chainB md ops n&&Region.jA md ops n n s (Array.replicate ops.size false)
theorem KX{C C':World->Prop}(hC:∀W,C' W->C W){i:Nat}{a:Act}{w:World}{K K':Act->World->Prop}(h:∀a w,C' w->K a w->K' a w)(hh:Ns P ops C' i K a w):Ns P ops C i K' a w:=
 wpOp_mono (fun a w hk=>⟨hC _ hk.1,h a w hk.1 hk.2⟩) hh
theorem tC{C C':World->Prop}(hC:∀W,C' W->C W){n:Nat}{L:Array Bool->Act->World->Prop}:∀(f:Nat) (listed:Array Bool) (a:Act) (w:World),jv P md ops C' n L f listed a w->jv P md ops C n L f listed a w
 |0,_,_,_,h=>h
 |f+1,_,_,_,h=>⟨h.1,fun i hi=>⟨(h.2 i hi).1,KX hC (fun a' w' _ h'=>tC hC f _ a' w' h') (h.2 i hi).2⟩⟩
theorem GF{k:Nat}{o:Oper}{a:Act}{w:World}{K K':Act->World->Prop}(hk:ops[k]?=some o)(hK:∀a w,K a w->K' a w)(h:wpList P ops (QN K) [o] a w):wpOp P ops (QN fun _ _=>False) k K' a w:=by
 unfold wpOp;simp only[hk];unfold wpList at h;split
 ·rename_i hw
  rw[if_pos hw] at h;rcases h with h|⟨_,h2⟩
  ·refine .inl (wp_exit (Q:=QN K) (fun _ _ _ hf=>hf) (fun hl=>absurd hl ig) ?_)
   exact Oper.wp_mono (fun a' w' h'=>hK a' w' h') h
  ·exact absurd h2 ig
 ·rename_i hw
  rw[if_neg hw] at h;exact hK _ _ h
theorem dL{n f:Nat}{φ:World->Prop}{L:Array Bool->Act->World->Prop}{K:(World->Prop)->Act->World->Prop}{k:Nat}{listed:Array Bool}{a:Act}{w:World}
  (h:pN P ops φ K ops.toList k a w)(hK:∀φ' a' w',φ' w'->K φ' a' w'->jv P md ops (dQ φ') n L f (listed.setIfInBounds k true) a' w'):
  Ns P ops (dQ φ) k (jv P md ops (dQ φ) n L f (listed.setIfInBounds k true)) a w:=by
 unfold pN at h;split at h
 ·rename_i o h0
  have h0':ops[k]?=some o:=by simpa using h0
  refine GF h0' (fun a' w' hk=>?_) h;obtain⟨φ',hs,hw',h3⟩:=hk;exact⟨⟨⟨w',hs w' hw'⟩,rfl⟩,tC (C':=dQ φ') (fun W hW=>by obtain⟨x,rfl⟩:=hW;exact⟨⟨x.1,hs _ x.2⟩,rfl⟩) _ _ _ _ (hK φ' a' w' hw' h3)⟩
 ·exact h.elim
theorem eF{n:Nat}{Lq:Act->World->Prop}(hsel:Region.noSelect ops=true)(hs:Region.sinkB md ops n=true)(hc:Region.chainB md ops n=true)(hn:n<ops.size):
  ∀(f:Nat) (s:iM) (φ:World->Prop) (listed:Array Bool) (a:Act) (w:World),φ w->HeadInv md ops n listed->Region.jA md ops n f s listed=true->bJ P ops Lq ops.toList s φ a w->
  jv P md ops (dQ φ) n (fun listed' a' w'=>Region.seqB md ops (ops.size-n) n listed'=true/\Lq a' w') f listed a w
 |0,.done,φ,listed,a,w,hC,inv,hB,h=>by
  simp only[Region.jA] at hB;exact⟨hB,h⟩
 |f+1,.quiet k s,φ,listed,a,w,hC,inv,hB,h=>by
  simp only[Region.jA,zBa,zDt] at hB;obtain⟨⟨⟨⟨hr,hf⟩,hkn⟩,hq⟩,hB⟩:=hB;have hks:k<ops.size:=by omega
  obtain⟨o,h0⟩:∃o,ops[k]?=some o:=⟨ops[k],by simp[hks]⟩;have h0':ops.toList[k]?=some o:=by simpa using h0
  simp only[bJ,h0'] at h;have h:=h ⟨⟨w,hC⟩⟩;have F9:dQ φ w:=⟨⟨w,hC⟩,rfl⟩;have MW:qB o.op=true:=by rw[h0] at hq;simpa using hq
  unfold wpQuiet at h;split at h
  ·rename_i hw
   obtain⟨v,h1,h2⟩:=h
   have hy:fF P ops (dQ φ) o v a:=.inl ⟨hw,fun w1 Ws=>by
    have g:=h1 w1 Ws;unfold Oper.quietAt at g;generalize hr1:(execOp a.eval o).run P w1=r at g ⊢;cases r with
    |ok nx w2=>
     cases nx with
     |value u=>obtain⟨e1,e2⟩:=g;rw[e1,e2]
     |_=>exact absurd hr1 (oJ MW (by intro v;simp))
    |halt x w2=>exact g.elim⟩
   exact gm h0 hsel hs hc hn hkn (fun listed' a' w' hL=>mw hL.1 aB) F9 inv hf hr hy
    (eF hsel hs hc hn f s φ _ _ w hC (inv.set (by simpa using hr) hkn) hB h2)
  ·rename_i hw
   exact gm h0 hsel hs hc hn hkn (fun listed' a' w' hL=>mw hL.1 aB) F9 inv hf hr (.inr ⟨by simpa using hw,rfl⟩)
    (eF hsel hs hc hn f s φ _ _ w hC (inv.set (by simpa using hr) hkn) hB h)
 |f+1,.one k s,φ,listed,a,w,hC,inv,hB,h=>by
  simp only[Region.jA,zBa,zDt] at hB;obtain⟨⟨hr,hkn⟩,hB⟩:=hB;simp only[bJ] at h;refine⟨by rw[hr];simp,fun i hi=>?_⟩;rw[hr] at hi;obtain rfl:i=k:=by simpa using hi
  exact⟨hkn,dL h fun φ' a' w' hw' h3=>eF hsel hs hc hn f s φ' _ a' w' hw' (inv.set (by rw[hr];simp) hkn) hB h3⟩
 |f+1,.two k j s t,φ,listed,a,w,hC,inv,hB,h=>by
  simp only[Region.jA,zBa,zDt] at hB;obtain⟨⟨⟨⟨hr,hkn⟩,hjn⟩,NG⟩,Dw⟩:=hB;simp only[bJ] at h;refine⟨by rw[hr];simp,fun i hi=>?_⟩;rw[hr] at hi;by_cases e:i=k
  ·subst e
   exact⟨hkn,dL h.1 fun φ' a' w' hw' h3=>eF hsel hs hc hn f s φ' _ a' w' hw' (inv.set (by rw[hr];simp) hkn) NG h3⟩
  ·obtain rfl:i=j:=by simpa [e] using hi
   exact⟨hjn,dL h.2 fun φ' a' w' hw' h3=>eF hsel hs hc hn f t φ' _ a' w' hw' (inv.set (by rw[hr];simp) hjn) Dw h3⟩
 |f+1,.three k j m s t u,φ,listed,a,w,hC,inv,hB,h=>by
  simp only[Region.jA,zBa,zDt] at hB;obtain⟨⟨⟨⟨⟨⟨hr,hkn⟩,hjn⟩,hmn⟩,NG⟩,Dw⟩,hB3⟩:=hB;simp only[bJ] at h;refine⟨by rw[hr];simp,fun i hi=>?_⟩;rw[hr] at hi;by_cases e:i=k
  ·subst e
   exact⟨hkn,dL h.1 fun φ' a' w' hw' h3=>eF hsel hs hc hn f s φ' _ a' w' hw' (inv.set (by rw[hr];simp) hkn) NG h3⟩
  ·by_cases e':i=j
   ·subst e'
    exact⟨hjn,dL h.2.1 fun φ' a' w' hw' h3=>eF hsel hs hc hn f t φ' _ a' w' hw' (inv.set (by rw[hr];simp) hjn) Dw h3⟩
   ·obtain rfl:i=m:=by simpa [e,e'] using hi
    exact⟨hmn,dL h.2.2 fun φ' a' w' hw' h3=>eF hsel hs hc hn f u φ' _ a' w' hw' (inv.set (by rw[hr];simp) hmn) hB3 h3⟩
 |0,.quiet ..,_,_,_,_,_,_,hB,_=>by simp[Region.jA] at hB
 |0,.one ..,_,_,_,_,_,_,hB,_=>by simp[Region.jA] at hB
 |0,.two ..,_,_,_,_,_,_,hB,_=>by simp[Region.jA] at hB
 |0,.three ..,_,_,_,_,_,_,hB,_=>by simp[Region.jA] at hB
 |_+1,.done,_,_,_,_,_,_,hB,_=>by simp[Region.jA] at hB
theorem bU{id:Nat}{Q:Exit->Act->World->Prop}{a:Act}{w:World}{l:List Oper}(n:Nat)(s:iM)(φ:World->Prop)(hm:P.follows .mixedOrders=true)(hB:Region.Cd .any l.toArray n s=true)(hC:φ (w.drewN 1))
  (h:bJ P l.toArray (fun a' w'=>wpList P l.toArray Q (l.drop n) a' w') l s φ a (w.drewN 1)):(Code.region id l.toArray true).wp P Q a w:=by
 simp only[Region.Cd,zBa,zDt] at hB;obtain⟨⟨⟨⟨hsel,hn⟩,hs⟩,hc⟩,hlex⟩:=hB
 have inv0:HeadInv .any l.toArray n (Array.replicate l.toArray.size false):=
  ⟨by simp,fun j oj _ hl=>(by rw[getD_replicate_false] at hl;cases hl),fun t _ ht=>getD_in (by simpa using ht) (getD_replicate_false _ _)⟩
 have H:=eF (md:=.any) (Lq:=fun a' w'=>wpList P l.toArray Q (l.drop n) a' w') hsel hs hc hn n s φ _ a _ hC inv0 hlex (by simpa using h);refine wp_region_any hm ?_;have hdl:(l.drop n).length=l.toArray.size-n:=by simp
 have:=fU (Q':=Q) (g:=l.toArray.size-n) (fun listed a' w' hL=>by
  have:=wpAny_of_seq (md:=.any) (Q':=Q) (l.drop n) n listed a' w' (fun j=>by simp[List.getElem?_drop]) (by rw[hdl];exact hL.1) hL.2;rwa [hdl] at this) _ _ _ _ H
 rw[show n+(l.toArray.size-n)=l.toArray.size by omega] at this;exact this
theorem ai{φ:World->Prop}{R:Act->World->Prop}{l:List Oper}{i:Nat}{s:iM}{a:Act}{w:World}{o:Oper}(ho:l[i]?=some o)
  (h:Nonempty (Held φ)->wpQuiet P ops (fun W=>∃x:Held φ,W=x.1) (fun a'=>bJ P ops R l s φ a' w) [o] a):bJ P ops R l (.quiet i s) φ a w:=by
 simp only[bJ,ho];exact h
theorem aH{φ:World->Prop}{R:Act->World->Prop}{l:List Oper}{i:Nat}{s:iM}{a:Act}{w:World}{o:Oper}(ho:l[i]?=some o)
  (h:wpList P ops (QN fun a' w'=>∃φ':World->Prop,(∀W,φ' W->φ W)/\φ' w'/\bJ P ops R l s φ' a' w') [o] a w):bJ P ops R l (.one i s) φ a w:=by
 simp only[bJ,pN,ho];exact h
theorem dU{φ:World->Prop}{R:Act->World->Prop}{l:List Oper}{i j:Nat}{s t:iM}{a:Act}{w:World}{o o':Oper}(ho:l[i]?=some o)(ho':l[j]?=some o')
  (h1:wpList P ops (QN fun a' w'=>∃φ':World->Prop,(∀W,φ' W->φ W)/\φ' w'/\bJ P ops R l s φ' a' w') [o] a w)
  (h2:wpList P ops (QN fun a' w'=>∃φ':World->Prop,(∀W,φ' W->φ W)/\φ' w'/\bJ P ops R l t φ' a' w') [o'] a w):bJ P ops R l (.two i j s t) φ a w:=by
 simp only[bJ,pN,ho,ho'];exact⟨h1,h2⟩
theorem wK{φ:World->Prop}{R:Act->World->Prop}{l:List Oper}{i j k:Nat}{s t u:iM}{a:Act}{w:World}{o o' o'':Oper}(ho:l[i]?=some o)(ho':l[j]?=some o')(ho'':l[k]?=some o'')
  (h1:wpList P ops (QN fun a' w'=>∃φ':World->Prop,(∀W,φ' W->φ W)/\φ' w'/\bJ P ops R l s φ' a' w') [o] a w)
  (h2:wpList P ops (QN fun a' w'=>∃φ':World->Prop,(∀W,φ' W->φ W)/\φ' w'/\bJ P ops R l t φ' a' w') [o'] a w)
  (h3:wpList P ops (QN fun a' w'=>∃φ':World->Prop,(∀W,φ' W->φ W)/\φ' w'/\bJ P ops R l u φ' a' w') [o''] a w):bJ P ops R l (.three i j k s t u) φ a w:=by
 simp only[bJ,pN,ho,ho',ho''];exact⟨h1,h2,h3⟩
theorem aL{φ:World->Prop}{R:Act->World->Prop}{l:List Oper}{a:Act}{w:World}(h:R a w):bJ P ops R l .done φ a w:=h
theorem aC{φ:World->Prop}{K:(World->Prop)->Act->World->Prop}{a:Act}{w:World}(φ':World->Prop)(h1:∀W,φ' W->φ W)(h2:φ' w)(h3:K φ' a w):
  QN (fun a' w'=>∃φ':World->Prop,(∀W,φ' W->φ W)/\φ' w'/\K φ' a' w') .normal a w:=⟨φ',h1,h2,h3⟩
end
def From(S:Nat->Prop)(W:World):World->Prop:=fun W'=>Turns S W W'
theorem From.cell{S:Nat->Prop}{W:World}(x:Held (From S W)){b i:Nat}{v:Value}(hb:¬S b)(h:W.cell? ⟨b,i,none⟩=some v):x.1.cell? ⟨b,i,none⟩=some v:=by
 rw[World.cell?_of_block (w:=W) (a:=⟨b,i,none⟩) (x.2.block b hb (zBl W ⟨b,i,none⟩ h))];exact h
structure RG(b:Nat)(W1:World)(L:List (Nat×Array Value×TypeId))(W:World):Prop where
 turn:Turns (·=b) W1 W
 blocks:∀x∈L,W1.heap.size<=x.1/\W.heap[x.1]?=some (.cells x.2.1 x.2.2 (0,0))
theorem RG.start(b:Nat)(W1:World):RG b W1 [] (W1.drewN 1):=⟨(Turns.refl _ _).drewN 1,fun _ h=>absurd h (by simp)⟩
theorem RG.alloc{b:Nat}{W1 W:World}{L:List (Nat×Array Value×TypeId)}(h:RG b W1 L W)(cs:Array Value)(t:TypeId):RG b W1 ((W.heap.size,cs,t)::L) (W.alloc (.cells cs t)):=
 ⟨h.turn.alloc _,fun x hx=>by
  rcases zMc.1 hx with rfl|hx
  ·exact⟨h.turn.size,aD W _ rfl⟩
  ·exact⟨(h.blocks x hx).1,aG _ (h.blocks x hx).2⟩⟩
theorem RG.take{b:Nat}{W1 W W':World}{L:List (Nat×Array Value×TypeId)}(h:RG b W1 L W)(hb:b<W1.heap.size)(ht:Turns (·=b) W W'):RG b W1 L W':=
 ⟨h.turn.trans ht,fun x hx=>⟨(h.blocks x hx).1,(ht.block x.1 (by have:=(h.blocks x hx).1;show ¬x.1=b;omega) (ay (h.blocks x hx).2)).trans (h.blocks x hx).2⟩⟩
theorem RG.tail{b:Nat}{W1 W:World}{x:Nat×Array Value×TypeId}{L:List (Nat×Array Value×TypeId)}(h:RG b W1 (x::L) W):RG b W1 L W:=⟨h.turn,fun y hy=>h.blocks y (List.mem_cons_of_mem _ hy)⟩
theorem RG.cell{b:Nat}{W1:World}{L:List (Nat×Array Value×TypeId)}(x:Held (RG b W1 L))(l:Nat)(cs:Array Value)(t:TypeId)(hm:(l,cs,t)∈L){i:Nat}{v:Value}(hi:cs[i]?=some v):x.1.cell? ⟨l,i,none⟩=some v:=
 (aI (x.2.blocks _ hm).2 i).trans hi
theorem RG.old{b:Nat}{W1:World}{L:List (Nat×Array Value×TypeId)}(x:Held (RG b W1 L)){k i:Nat}{v:Value}(hb:k≠b)(h:W1.cell? ⟨k,i,none⟩=some v):x.1.cell? ⟨k,i,none⟩=some v:=by
 rw[World.cell?_of_block (w:=W1) (a:=⟨k,i,none⟩) (x.2.turn.block k hb (zBl W1 ⟨k,i,none⟩ h))];exact h
theorem RG.block{b:Nat}{W1 W:World}{L:List (Nat×Array Value×TypeId)}(h:RG b W1 L W){k:Nat}{o:Obj}(hb:k≠b)(ho:W1.heap[k]?=some o):W.heap[k]?=some o:=(h.turn.block k hb (ay ho)).trans ho
theorem RG.store{b:Nat}{W1 V:World}{F:Nat}{cs:Array Value}{t:TypeId}(h:RG b W1 [(F,cs,t)] V)(i:Nat)(v:Value):RG b W1 [(F,cs.setIfInBounds i v,t)] (V.setCell ⟨F,i,none⟩ v):=
 ⟨h.turn.setCell_new _ _ (h.blocks (F,cs,t) (by simp)).1,fun x hx=>by
  obtain rfl:=zMs.1 hx;exact⟨(h.blocks (F,cs,t) (by simp)).1,heap_setCell_same V F i cs t v (h.blocks (F,cs,t) (by simp)).2⟩⟩
theorem RG.sub{b:Nat}{W1 W:World}{L L':List (Nat×Array Value×TypeId)}(h:RG b W1 L W)(hs:∀x∈L',x∈L):RG b W1 L' W:=⟨h.turn,fun y hy=>h.blocks y (hs y hy)⟩
theorem RG.refl(b:Nat)(W1:World):RG b W1 [] W1:=⟨Turns.refl _ _,fun _ h=>absurd h (by simp)⟩
theorem RG.vg{b:Nat}{W1 V:World}{F:Nat}{x0 x1 x2 x3 x4 x5 x6 x7:Value}{t:TypeId}(h:RG b W1 [(F,#[x0,x1,x2,x3,x4,x5,x6,x7],t)] V)(y0 y1 y2 y3 y4 y5 y6 y7:Value):
  RG b W1 [(F,#[y0,y1,y2,y3,y4,y5,y6,y7],t)] ((((((((V.setCell ⟨F,0,none⟩ y0).setCell ⟨F,1,none⟩ y1).setCell ⟨F,2,none⟩ y2).setCell ⟨F,3,none⟩ y3).setCell ⟨F,4,none⟩ y4).setCell ⟨F,5,none⟩ y5).setCell ⟨F,6,none⟩ y6).setCell ⟨F,7,none⟩ y7):=by
 have h0:RG b W1 [(F,#[y0,x1,x2,x3,x4,x5,x6,x7],t)] _:=h.store 0 y0;have h1:RG b W1 [(F,#[y0,y1,x2,x3,x4,x5,x6,x7],t)] _:=h0.store 1 y1;have h2:RG b W1 [(F,#[y0,y1,y2,x3,x4,x5,x6,x7],t)] _:=h1.store 2 y2;have h3:RG b W1 [(F,#[y0,y1,y2,y3,x4,x5,x6,x7],t)] _:=h2.store 3 y3;have h4:RG b W1 [(F,#[y0,y1,y2,y3,y4,x5,x6,x7],t)] _:=h3.store 4 y4;have h5:RG b W1 [(F,#[y0,y1,y2,y3,y4,y5,x6,x7],t)] _:=h4.store 5 y5;have h6:RG b W1 [(F,#[y0,y1,y2,y3,y4,y5,y6,x7],t)] _:=h5.store 6 y6;exact h6.store 7 y7
theorem yC(fs:List ah.cA)(s:ByteArray)(v:Value)(S:Nat->Prop)(w:World)(hv:dh S w v fs):
  Calls Tryz.prog 78 #[v,.string s] w fun e w'=>e=.returned (.int .i64 (ah.Bd fs s))/\w=w':=by
 have HV:=hid hv;obtain⟨a,cap,rfl,hok,hcap,hmax⟩:=hv.form;clear hv;go_enter Tryz.func78,Tryz.ntmps78;go_wp2;go_loop [5] (fun i=>∃k:Nat,k<=fs.length/\i=.int .i64 k/\Hid (∀j (h:j<fs.length),j<k->decide (fs[j].name=s)=false)) (fun i=>fs.length-(intOf i).toNat);case atStart=>exact⟨0,by omega,rfl,hid (fun _ _ h=>absurd h (by omega))⟩
 case round=>
  obtain⟨k,hk,rfl,hpre⟩:=hrel;by_cases hlt:k<fs.length
  ·obtain⟨-, -,c0, -⟩:=HV.out.at hlt
   have hk0:(0:Int)<=k:=by omega
   have hk1:(k:Int)<fs.length:=by omega
   by_cases he:fs[k].name=s
   ·have HA:Hid (ah.Bd fs s=(k:Int)):=hid (by
     have:=ah.fQ (p:=fun f:ah.cA=>decide (f.name=s)) (i:=0) hlt hpre.out (decide_eq_true he)
     rw[Nat.zero_add] at this
     exact this)
    have ht:=RJ he;generalize fs[k].name=nm at*;clear he;go_wp2;go_ret;exact⟨fO HA.out.symm,rfl⟩
   ·have HA:Hid (∀j (h:j<fs.length),j<k+1->decide (fs[j].name=s)=false):=hid (fun j hj hjk=>by
     by_cases e:j=k
     ·subst e;exact decide_eq_false he
     ·exact hpre.out j hj (by omega))
    have ht:=RK he;generalize fs[k].name=nm at*;clear he;go_wp2;go_round;case rel=>exact⟨k+1,by omega,by go_num,HA⟩
    simp[intOf];omega
  ·have HA:Hid (ah.Bd fs s= -1):=hid (ah.d9 (fun j hj=>hpre.out j hj (by omega)))
   go_wp2;go_ret;exact⟨fO HA.out.symm,rfl⟩
theorem GH(k:ah.dZ)(us:List Value)(S:Nat->Prop)(w:World)(hv:Be S w us k)(cs:Array Value)(hcs:cs=us.toArray):
  Calls Tryz.prog 77 #[.agg cs] w fun e w'=>e=.returned (.int .i64 (ah.JT k.af4))/\BL w w':=by
 obtain⟨uf,rfl,hf⟩:=hv;subst hcs;obtain⟨a,cap,rfl,hok,hcap,hmax⟩:=hf.form;have hF:dh S (w.alloc (.cells #[.string k.name,.int .i64 k.lo,.int .i64 k.hi,.slice a k.af4.length cap] 102)) (.slice a k.af4.length cap) k.af4:=dh.keep hf (aA.below (aj.alloc aB _));have HF:=hid hF;have UF:Hid (BL w (w.alloc (.cells #[.string k.name,.int .i64 k.lo,.int .i64 k.hi,.slice a k.af4.length cap] 102))):=hid (aj.alloc aB _);simp only[kC];clear hf hF;go_enter Tryz.func77,Tryz.ntmps77;go_wp2;go_loop [3] (fun i=>∃j:Nat,j<=k.af4.length/\i=.int .i64 j/\Hid (∀m (h:m<k.af4.length),m<j->ah.rD k.af4[m]=false)) (fun i=>k.af4.length-(intOf i).toNat);case atStart=>exact⟨0,by omega,rfl,hid (fun _ _ h=>absurd h (by omega))⟩
 case round=>
  obtain⟨j,hj,rfl,hpre⟩:=hrel;by_cases hlt:j<k.af4.length
  ·obtain⟨-, -, -, -, -,c3, -⟩:=HF.out.at hlt
   have hk0:(0:Int)<=j:=by omega
   have hk1:(j:Int)<k.af4.length:=by omega
   have HY:Hid (ah.rD k.af4[j]=true->ah.JT k.af4=(j:Int)):=hid (fun he=>by
    have:=ah.fQ (i:=0) hlt hpre.out he;rw[Nat.zero_add] at this;exact this)
   have HN:Hid (ah.rD k.af4[j]=false->∀m (h:m<k.af4.length),m<j+1->ah.rD k.af4[m]=false):=hid (fun he m hm hmj=>by
    by_cases e:m=j
    ·subst e;exact he
    ·exact hpre.out m hm (by omega))
   have HC:Hid (ah.rD k.af4[j]=(decide (k.af4[j].kind≠0)&&decide (k.af4[j].kind≠1)&&decide (k.af4[j].kind≠6)&&decide (k.af4[j].kind≠7))):=hid rfl;generalize ah.rD k.af4[j]=cb at*;generalize k.af4[j].kind=kd at*;by_cases h0:kd=0
   ·subst h0
    have Wy:=hid (HN.out (by rw[HC.out];rfl));go_wp2;go_round;case rel=>exact⟨j+1,by omega,by go_num,Wy⟩
    simp[intOf];omega
   ·by_cases h1:kd=1
    ·subst h1
     have Wy:=hid (HN.out (by rw[HC.out];rfl));go_wp2;go_round;case rel=>exact⟨j+1,by omega,by go_num,Wy⟩
     simp[intOf];omega
    ·by_cases h6:kd=6
     ·subst h6
      have Wy:=hid (HN.out (by rw[HC.out];rfl));go_wp2;go_round;case rel=>exact⟨j+1,by omega,by go_num,Wy⟩
      simp[intOf];omega
     ·by_cases h7:kd=7
      ·subst h7
       have Wy:=hid (HN.out (by rw[HC.out];rfl));go_wp2;go_round;case rel=>exact⟨j+1,by omega,by go_num,Wy⟩
       simp[intOf];omega
      ·have HY':=hid (HY.out (by rw[HC.out];simp[h0,h1,h6,h7]))
       have g0:=Nq h0;have g1:=Nq h1;have g6:=Nq h6;have g7:=Nq h7;clear h0 h1 h6 h7;go_wp2;go_ret;exact⟨fO HY'.out.symm,UF.out⟩
  ·have HA:Hid (ah.JT k.af4= -1):=hid (ah.d9 (fun m hm=>hpre.out m hm (by omega)))
   go_wp2;go_ret;exact⟨fO HA.out.symm,UF.out⟩
end Go.Proofs.YtobgljfnfpolkaaGreatDoor
