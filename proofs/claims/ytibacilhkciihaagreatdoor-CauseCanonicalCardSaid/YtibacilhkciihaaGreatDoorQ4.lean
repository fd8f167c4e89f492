/- Part 4 of the walks and plain laws that the proof needs (packed). -/
import Derived.Test.YtibacilhkciihaaGreatDoorQ1
import Derived.Test.YtibacilhkciihaaGreatDoorQ3
set_option linter.all false
set_option maxRecDepth 100000
set_option maxHeartbeats 8000000
namespace Go.Proofs.YtibacilhkciihaaGreatDoor
open Go.RowKit
abbrev fP(S:Nat->Prop):=eU (fun _ u (x:ByteArray)=>u=.string x) S
theorem fP.keep{S w w' v xs}(h:fP S w v xs)(hk:aD S w w'):fP S w' v xs:=eU.keep h hk fun _ _ h=>h
theorem fP.mono{S S' w v xs}(h:fP S w v xs)(hS:∀b,b<w.heap.size->S b->S' b):fP S' w v xs:=eU.mono h hS fun _ _ h=>h
theorem GU:eY (fun _ _ u (x:ByteArray)=>u=.string x):=⟨fun h _=>h,fun h _=>h⟩
def cF(f:ah.cD)(uw ug:Value):List Value:=[.string f.name,.string f.of,.string f.up,.int .i64 f.kind,.int .i64 f.lo,.int .i64 f.hi,uw,ug]
def jc(S:Nat->Prop)(w:World)(us:List Value)(f:ah.cD):Prop:=∃uw ug,us=cF f uw ug/\fP S w uw f.cB/\bq S w ug f.bO
theorem bD:cH jc:=⟨fun⟨uw,ug,h1,h2,h3⟩ hk=>⟨uw,ug,h1,h2.keep hk,h3.keep hk⟩,fun⟨uw,ug,h1,h2,h3⟩ hS=>⟨uw,ug,h1,h2.mono hS,h3.mono hS⟩⟩
abbrev dh(S:Nat->Prop):=dQ 8 (jc S) S
theorem dh.keep{S w w' v xs}(h:dh S w v xs)(hk:aD S w w'):dh S w' v xs:=dQ.keep bD h hk
theorem dh.mono{S S' w v xs}(h:dh S w v xs)(hS:∀b,b<w.heap.size->S b->S' b):dh S' w v xs:=dQ.mono aB bD h hS
def kH(k:ah.dZ)(uf:Value):List Value:=[.string k.name,.int .i64 k.lo,.int .i64 k.hi,uf]
def AU(S:Nat->Prop)(w:World)(us:List Value)(k:ah.dZ):Prop:=∃uf,us=kH k uf/\dh S w uf k.aG
theorem cC:cH AU:=⟨fun⟨uf,h1,h2⟩ hk=>⟨uf,h1,dh.keep h2 hk⟩,fun⟨uf,h1,h2⟩ hS=>⟨uf,h1,dh.mono h2 hS⟩⟩
abbrev gU(S:Nat->Prop):=dQ 4 (AU S) S
theorem gU.keep{S w w' v xs}(h:gU S w v xs)(hk:aD S w w'):gU S w' v xs:=dQ.keep cC h hk
theorem gU.mono{S S' w v xs}(h:gU S w v xs)(hS:∀b,b<w.heap.size->S b->S' b):gU S' w v xs:=dQ.mono aB cC h hS
def TU(_:Nat->Prop)(_:World)(us:List Value)(m:Int×Int):Prop:=us=[.int .i64 m.1,.int .i64 m.2]
theorem eZ:cH TU:=⟨fun h _=>h,fun h _=>h⟩
abbrev Bu(S:Nat->Prop):=dQ 2 (TU S) S
def Zr(S:Nat->Prop)(w:World)(us:List Value)(x:ah.DV):Prop:=∃u1 u2,us=[.string x.name,u1,u2]/\fP S w u1 x.dw/\Bu S w u2 x.iw
theorem cW:cH Zr:=⟨fun⟨u1,u2,h1,h2,h3⟩ hk=>⟨u1,u2,h1,h2.keep hk,dQ.keep eZ h3 hk⟩,fun⟨u1,u2,h1,h2,h3⟩ hS=>⟨u1,u2,h1,h2.mono hS,dQ.mono aB eZ h3 hS⟩⟩
abbrev sA(S:Nat->Prop):=dQ 3 (Zr S) S
def TV(_:Nat->Prop)(_:World)(us:List Value)(r:ah.tQ):Prop:=us=[.string r.name,.string r.kind,.string r.a,.string r.b,.int .i64 r.n]
theorem fe:cH TV:=⟨fun h _=>h,fun h _=>h⟩
abbrev uY(S:Nat->Prop):=dQ 5 (TV S) S
def d9(S:Nat->Prop)(w:World)(v:Value)(x:ah.cA):Prop:=
 ∃uk ul ur,v=.agg #[.int .i64 x.aL,uk,ul,ur]/\gU S w uk x.aA/\sA S w ul x.aP/\uY S w ur x.aR
theorem d9.keep{S w w' v x}(h:d9 S w v x)(hk:aD S w w'):d9 S w' v x:=by
 obtain⟨uk,ul,ur,h1,h2,h3,h4⟩:=h;exact⟨uk,ul,ur,h1,h2.keep hk,dQ.keep cW h3 hk,dQ.keep fe h4 hk⟩
theorem d9.mono{S S' w v x}(h:d9 S w v x)(hS:∀b,b<w.heap.size->S b->S' b):d9 S' w v x:=by
 obtain⟨uk,ul,ur,h1,h2,h3,h4⟩:=h;exact⟨uk,ul,ur,h1,h2.mono hS,dQ.mono aB cW h3 hS,dQ.mono aB fe h4 hS⟩
theorem dh.at{S:Nat->Prop}{w:World}{a:Option Addr}{n cap:Nat}{fs:List ah.cD}(h:dh S w (.slice a n cap) fs){j:Nat}(hj:j<fs.length):
  bL a<w.heap.size/\S (bL a)/\w.cell? ⟨bL a,bP a+j*8,none⟩=some (.string fs[j].name)/\w.cell? ⟨bL a,bP a+j*8+1,none⟩=some (.string fs[j].of)/\w.cell? ⟨bL a,bP a+j*8+2,none⟩=some (.string fs[j].up)/\
   w.cell? ⟨bL a,bP a+j*8+3,none⟩=some (.int .i64 fs[j].kind)/\w.cell? ⟨bL a,bP a+j*8+4,none⟩=some (.int .i64 fs[j].lo)/\w.cell? ⟨bL a,bP a+j*8+5,none⟩=some (.int .i64 fs[j].hi)/\
   ∃uw ug,w.cell? ⟨bL a,bP a+j*8+6,none⟩=some uw/\w.cell? ⟨bL a,bP a+j*8+7,none⟩=some ug/\fP S w uw fs[j].cB/\bq S w ug fs[j].bO:=by
 obtain⟨h1,us,h2,h3,uw,ug,rfl,h4,h5⟩:=dQ.at h hj;exact⟨Ae w ⟨bL a,bP a+j*8+0,none⟩ (h3 0 _ rfl),h1,h3 0 _ rfl,h3 1 _ rfl,h3 2 _ rfl,h3 3 _ rfl,h3 4 _ rfl,h3 5 _ rfl,uw,ug,h3 6 _ rfl,h3 7 _ rfl,h4,h5⟩
theorem gU.at{S:Nat->Prop}{w:World}{a:Option Addr}{n cap:Nat}{ks:List ah.dZ}(h:gU S w (.slice a n cap) ks){j:Nat}(hj:j<ks.length):
  bL a<w.heap.size/\S (bL a)/\w.cell? ⟨bL a,bP a+j*4,none⟩=some (.string ks[j].name)/\w.cell? ⟨bL a,bP a+j*4+1,none⟩=some (.int .i64 ks[j].lo)/\w.cell? ⟨bL a,bP a+j*4+2,none⟩=some (.int .i64 ks[j].hi)/\
   ∃uf,w.cell? ⟨bL a,bP a+j*4+3,none⟩=some uf/\dh S w uf ks[j].aG:=by
 obtain⟨h1,us,h2,h3,uf,rfl,h4⟩:=dQ.at h hj;exact⟨Ae w ⟨bL a,bP a+j*4+0,none⟩ (h3 0 _ rfl),h1,h3 0 _ rfl,h3 1 _ rfl,h3 2 _ rfl,uf,h3 3 _ rfl,h4⟩
theorem sA.at{S:Nat->Prop}{w:World}{a:Option Addr}{n cap:Nat}{ks:List ah.DV}(h:sA S w (.slice a n cap) ks){j:Nat}(hj:j<ks.length):
  bL a<w.heap.size/\S (bL a)/\w.cell? ⟨bL a,bP a+j*3,none⟩=some (.string ks[j].name)/\
   ∃u1 u2,w.cell? ⟨bL a,bP a+j*3+1,none⟩=some u1/\w.cell? ⟨bL a,bP a+j*3+2,none⟩=some u2/\fP S w u1 ks[j].dw/\Bu S w u2 ks[j].iw:=by
 obtain⟨h1,us,h2,h3,u1,u2,rfl,h4,h5⟩:=dQ.at h hj;exact⟨Ae w ⟨bL a,bP a+j*3+0,none⟩ (h3 0 _ rfl),h1,h3 0 _ rfl,u1,u2,h3 1 _ rfl,h3 2 _ rfl,h4,h5⟩
theorem uY.at{S:Nat->Prop}{w:World}{a:Option Addr}{n cap:Nat}{ks:List ah.tQ}(h:uY S w (.slice a n cap) ks){j:Nat}(hj:j<ks.length):
  bL a<w.heap.size/\S (bL a)/\w.cell? ⟨bL a,bP a+j*5,none⟩=some (.string ks[j].name)/\w.cell? ⟨bL a,bP a+j*5+1,none⟩=some (.string ks[j].kind)/\w.cell? ⟨bL a,bP a+j*5+2,none⟩=some (.string ks[j].a)/\w.cell? ⟨bL a,bP a+j*5+3,none⟩=some (.string ks[j].b)/\w.cell? ⟨bL a,bP a+j*5+4,none⟩=some (.int .i64 ks[j].n):=by
 obtain⟨h1,us,h2,h3,rfl⟩:=dQ.at h hj;exact⟨Ae w ⟨bL a,bP a+j*5+0,none⟩ (h3 0 _ rfl),h1,h3 0 _ rfl,h3 1 _ rfl,h3 2 _ rfl,h3 3 _ rfl,h3 4 _ rfl⟩
theorem Bu.at{S:Nat->Prop}{w:World}{a:Option Addr}{n cap:Nat}{ks:List (Int×Int)}(h:Bu S w (.slice a n cap) ks){j:Nat}(hj:j<ks.length):
  bL a<w.heap.size/\S (bL a)/\w.cell? ⟨bL a,bP a+j*2,none⟩=some (.int .i64 ks[j].1)/\w.cell? ⟨bL a,bP a+j*2+1,none⟩=some (.int .i64 ks[j].2):=by
 obtain⟨h1,us,h2,h3,rfl⟩:=dQ.at h hj;exact⟨Ae w ⟨bL a,bP a+j*2+0,none⟩ (h3 0 _ rfl),h1,h3 0 _ rfl,h3 1 _ rfl⟩
theorem str_inj{a b:ByteArray}(h:a.toList=b.toList):a=b:=by
 rw[ByteArray.toList_eq,ByteArray.toList_eq] at h;exact ByteArray.ext (Array.toList_inj.1 h)
theorem TW{a b:ByteArray}(h:a=b):(a.toList==b.toList)=true:=by rw[h];simp
theorem TX{a b:ByteArray}(h:a≠b):(a.toList==b.toList)=false:=by
 simp only[beq_eq_false_iff_ne,ne_eq];exact fun e=>h (str_inj e)
theorem GV{a b:ByteArray}:(a.toList==b.toList)=decide (a=b):=by
 by_cases h:a=b
 ·rw[TW h,decide_eq_true h]
 ·rw[TX h,decide_eq_false h]
def gq(w:World)(b N:Nat):Prop:=
 ∃vL L,∃i:Int,w.heap[b]?=some (.cells #[vL,.int .i64 i] 53 (0,0))/\bq (·<b) w vL L/\Fit L/\0<=i/\i<=N
theorem gq.keep{w w':World}{b N:Nat}(h:gq w b N)(hk:aD (·<=b) w w'):gq w' b N:=by
 obtain⟨vL,L,i,h1,h2,h3⟩:=h;exact⟨vL,L,i,(hk b aH (Array.getElem?_eq_some_iff.1 h1).1).trans h1,h2.keep (fun x hx hlt=>hk x aB hlt),h3⟩
theorem gq.mono{w:World}{b N N':Nat}(h:gq w b N)(hN:N<=N'):gq w b N':=by
 obtain⟨vL,L,i,h1,h2,h3,h4,h5⟩:=h;exact⟨vL,L,i,h1,h2,h3,h4,aB⟩
theorem gq.lt{w:World}{b N:Nat}(h:gq w b N):b<w.heap.size:=by
 obtain⟨vL,L,i,h1,_⟩:=h;exact(Array.getElem?_eq_some_iff.1 h1).1
theorem Bv{P:Program}{f:FuncId}{args:Array Value}{w:World}{v:Value}(h:Calls P f args w fun e w'=>e=.returned v/\w=w'):Calls P f args w fun e w'=>e=.returned v/\∃n,w'=w.drewN n:=
 h.mono fun _ _ ⟨h1,h2⟩=>⟨h1,0,h2▸rfl⟩
def abY(n:Int)(b N:Nat)(w:World)(e:Ending)(w':World):Prop:=
 ∃t:Int,e=.returned (.int .i64 t)/\0<=t/\t<n/\gq w' b (N+1)/\Turns (·=b) w w'/\w'.heap.size=w.heap.size
theorem bE(n:Int)(h1:1<=n)(h2:n<=1000000)(b N:Nat)(hN:N<=100000)(w:World)(hm:gq w b N):
  Calls Tryz.prog 13 #[.pointer (some ⟨b,0,none⟩),.int .i64 n] w (abY n b N w):=by
 obtain⟨vL,L,i,hb,hL,hF,h0,hi⟩:=hm;obtain⟨w1,hw1⟩:=bB (w.setCell ⟨b,1,none⟩ (.int .i64 (i+1)))
 have hb1:w1.heap[b]?=some (.cells #[vL,.int .i64 (i+1)] 53 (0,0)):=by
  rw[hw1];have:=heap_setCell_same w b 1 #[vL,.int .i64 i] 53 (.int .i64 (i+1)) hb;simpa using this
 have ht1:Turns (·=b) w w1:=by rw[hw1];exact(Turns.refl _ _).setCell _ _ rfl
 have hsz:w1.heap.size=w.heap.size:=by rw[hw1];simp[World.setCell]
 have hL1:bq (·<b) w1 vL L:=hL.keep (ht1.keep (fun x hx e=>by omega));have c0:w.cell? ⟨b,0,none⟩=some vL:=by simp[World.cell?,hb]
 have c1:w.cell? ⟨b,1,none⟩=some (.int .i64 i):=by simp[World.cell?,hb]
 have f1:w.frozen? ⟨b,1,none⟩=false:=by simp[World.frozen?,hb]
 have d0:w1.cell? ⟨b,0,none⟩=some vL:=by simp[World.cell?,hb1]
 have d1:w1.cell? ⟨b,1,none⟩=some (.int .i64 (i+1)):=by simp[World.cell?,hb1]
 have hr:=GQ L (i+1-1).toNat n h1;have HM:Hid (gq (w1.drewN 1) b (N+1)):=hid ⟨vL,L,i+1,hb1,hL1,hF,aB,aB⟩;have HC:=fun(W:World) (h:bq (·<b) W vL L)=>OI L hF vL (i+1-1) n (·<b) W h h1 (Int.le_trans h2 aB) aB;have HT:=hid ht1;have HS:=hid hsz;have HL:=hid hL1;have HC':=hid HC;clear hb1 ht1 hsz hL1 HC hL hb;have e1:(i+1-1)=i:=aB
 generalize TL L (i+1-1).toNat n=t at*;obtain⟨hr1,Ad⟩:=hr;rw[e1] at HC';go_enter Tryz.func13,Tryz.ntmps13;go_wp2;rw[<-hw1];clear hw1;have HQ:=hid (fun nq=>Calls.quiet_of (Bv (HC'.out (w1.drewN nq) (HL.out.keep (aD.below (aI aF _))))));go_quiet ((exact HQ.out _));go_wp2;go_ret;exact⟨t,rfl,hr1,Ad,HM.out,HT.out.trans (Turns.aS (aI aF _)),HS.out⟩
theorem dQ.lit{α:Type}{n:Nat}{RR:(Nat->Prop)->World->List Value->α->Prop}(hR:cH RR){S:Nat->Prop}{W:World}{t:TypeId}(j8:List (List Value))(xs:List α)(hl:j8.length=xs.length)(hc:∀us∈j8,us.length=n)
  (hr:∀j (h1:j<j8.length) (h2:j<xs.length),RR S W j8[j] xs[j]){N m cap:Nat}(hN:N=W.heap.size)(hS:S N){cs:Array Value}(hcs:cs.toList=j8.flatten)(hm:m=xs.length)(hcap:cap=xs.length)(h0:xs.length<=1000000):
  dQ n (RR S) S (W.alloc (.cells cs t)) (.slice (some ⟨N,0,none⟩) m cap) xs:=by
 subst hN hm hcap;refine⟨_,_,rfl,fun _=>⟨_,_,rfl⟩,aH,xJ,fun _=>hS,fun j hj=>⟨j8[j]' aB,hc _ (gm _),fun i u hi=>?_,hR.keep (hr j aB hj) (aD.below (aF.alloc aH _))⟩⟩
 have hi':i<n:=by
  have h6:=(List.getElem?_eq_some_iff.1 hi).1;rwa [hc _ (gm _)] at h6
 rw[fZ,f9,Nat.zero_add];have:=gY W cs t (j*n+i) u (by rw[hcs,qd j8 j aB i hc hi'];exact hi);rwa [Nat.zero_add] at this
theorem pN{S T:Nat->Prop}{W:World}{g:Nat}{t:TypeId}{f:ah.cD}(h:W.heap[g]?=some (.cells (cF f (.slice none 0 0) (.slice none 0 0)).toArray t (0,0)))(h1:f.cB=[])(h2:f.bO=[])(hT:T g):
  dQ 8 (jc S) T W (.slice (some ⟨g,0,none⟩) 1 1) [f]:=by
 refine⟨_,_,rfl,fun _=>⟨_,_,rfl⟩,aH,by unfold maxLen;simp,fun _=>hT,fun j hj=>?_⟩;obtain rfl:j=0:=mP
 refine⟨cF f (.slice none 0 0) (.slice none 0 0),rfl,fun i u hi=>?_,⟨_,_,rfl,by simp only[List.getElem_cons_zero];rw[h1];exact eU.nil _ _ _,by simp only[List.getElem_cons_zero];rw[h2];exact eU.nil _ _ _⟩⟩;rw[fZ,f9,Nat.zero_mul];simp only[Nat.zero_add,Nat.add_zero];exact(aN h i).trans Eh
theorem WC{p:Prop}(h:p:=by
  intro u hu
  simp only[cF,kD,GI,or_false] at hu
  rcases hu with rfl|rfl|rfl|rfl|rfl|rfl|rfl|rfl<;>rfl):p:=h
theorem kf{S:Nat->Prop}{w:World}{us:List Value}{f:ah.cD}(h:jc S w us f):∀u∈us,u.oneCell'=true:=by
 obtain⟨uw,ug,rfl,h1,h2⟩:=h;obtain⟨a1,c1,rfl, -⟩:=h1.form;obtain⟨a2,c2,rfl, -⟩:=h2.form;exact WC
theorem Tryz.Zt:jh Tryz.prog 22 3 1 8:=ji (z:=.int .i64 0) (by kernel_rfl) (by kernel_rfl) rfl aB aB
def OV(b N:Nat)(w:World)(e:Ending)(w':World):Prop:=
 ∃v l,e=.returned v/\ah.dL l/\dh (w.heap.size<=·) w' v l/\gq w' b (N+20)/\Turns (·=b) w w'
theorem iH{S:Nat->Prop}{w:World}{f:ah.cD}(h1:f.cB=[])(h2:f.bO=[]):jc S w (cF f (.slice none 0 0) (.slice none 0 0)) f:=
 ⟨_,_,rfl,by rw[h1];exact eU.nil _ _ _,by rw[h2];exact eU.nil _ _ _⟩
theorem Bw{S:Nat->Prop}{W:World}{t:TypeId}{f:ah.cD}(h1:f.cB=[])(h2:f.bO=[]){N:Nat}(hN:N=W.heap.size)(hS:S N):
  dh S (W.alloc (.cells (cF f (.slice none 0 0) (.slice none 0 0)).toArray t)) (.slice (some ⟨N,0,none⟩) 1 1) [f]:=
 dQ.lit bD [cF f (.slice none 0 0) (.slice none 0 0)] [f] rfl (by simp[cF]) (fun j h _=>by
  match j,h with
  |0,_=>exact iH h1 h2) hN hS bp rfl rfl bp
theorem Bx{S:Nat->Prop}{W:World}{t:TypeId}{f g:ah.cD}(h1:f.cB=[])(h2:f.bO=[])(g1:g.cB=[])(g2:g.bO=[]){N:Nat}(hN:N=W.heap.size)(hS:S N):
  dh S (W.alloc (.cells (cF f (.slice none 0 0) (.slice none 0 0)++cF g (.slice none 0 0) (.slice none 0 0)).toArray t)) (.slice (some ⟨N,0,none⟩) 2 2) [f,g]:=
 dQ.lit bD [cF f (.slice none 0 0) (.slice none 0 0),cF g (.slice none 0 0) (.slice none 0 0)] [f,g] rfl (by simp[cF]) (fun j h _=>by
  match j,h with
  |0,_=>exact iH h1 h2
  |1,_=>exact iH g1 g2) hN hS bp rfl rfl bp
def abZ(b N n nW F:Nat)(w:World)(k:Nat)(wr:World):Prop:=
 ∃ag cg gs,wr.heap[F]?=some (.cells #[.string ah.wO,.string ah.nil,.string ah.nil,.int .i64 3,.int .i64 0,.int .i64 0,.slice (some ⟨nW,0,none⟩) n 3,.slice ag k cg] 46 (0,0))/\
  wr.heap[nW]?=some (.cells (ah.fW.map Value.string).toArray 9 (0,0))/\bg (fun x=>F<x) wr (.slice ag k cg) gs/\gs.length=k/\(∀g∈gs,0<=g/\g<=5)/\gq wr b (N+2+k)/\Turns (·=b) w wr
theorem Bz{S:Nat->Prop}{W:World}{n:Nat}{l:List ByteArray}{t:TypeId}(h:W.heap[n]?=some (.cells (l.map Value.string).toArray t (0,0)))(hS:S n){c m:Nat}(hc:c<=l.length)(hm:m=l.length)(hl:l.length<=1000):
  fP S W (.slice (some ⟨n,0,none⟩) c m) (l.take c):=by
 subst hm;have hlen:(l.take c).length=c:=by rw[LB];omega
 refine⟨some ⟨n,0,none⟩,l.length,by rw[hlen],fun _=>⟨_,_,rfl⟩,by rw[hlen];exact hc,xJ,fun _=>hS,fun j hj=>⟨.string (l.take c)[j],?_,rfl⟩⟩;rw[fZ,f9,Nat.zero_add];refine(aN h j).trans ?_;rw[List.getElem?_toArray,List.getElem?_map,lE aB];simp
theorem tS(S:Nat->Prop)(W:World)(t:TypeId)(x:Int){N:Nat}(hN:N=W.heap.size)(hS:S N):bq S (W.alloc (.cells #[.int .i64 x] t)) (.slice (some ⟨N,0,none⟩) 1 1) [x]:=by
 subst hN;refine⟨_,_,rfl,fun _=>⟨_,_,rfl⟩,aH,by unfold maxLen;simp,fun _=>hS,fun j hj=>?_⟩;obtain rfl:j=0:=mP
 exact⟨_,by simpa using gY W #[.int .i64 x] t 0 _ rfl,rfl⟩
theorem OW(b N:Nat)(hN:N<=90000)(w:World)(hm:gq w b N):
  Calls Tryz.prog 37 #[.pointer (some ⟨b,0,none⟩)] w (OV b N w):=by
 have HM:=hid hm;clear hm;go_enter Tryz.func37,Tryz.ntmps37;go_wp2_with fail;refine(bE 6 aB aB b N aB w HM.out).mono ?_;rintro e w1 ⟨t,rfl,h0,h6,hm1,ht1,hs1⟩;have DW:=hid hm1;have Ag:=hid ht1;have wP:=hid hs1;clear hm1 ht1 hs1 HM;rcases (show t=0\/t=1\/t=2\/t=3\/t=4\/t=5 by omega) with rfl|rfl|rfl|rfl|rfl|rfl
 ·go_wp2_with fail
  refine(bE 11 aB aB b (N+1) aB w1 DW.out).mono ?_;rintro e w2 ⟨t,rfl,g0,g6,hm2,ht2,hs2⟩;have tF:=hid hm2;have Ah:=hid (Ag.out.trans ht2);have tG:=hid (hs2.trans wP.out);clear hm2 ht2 hs2 DW Ag wP h0 h6;go_wp2_with fail;refine(bE 20 aB aB b (N+2) aB w2 tF.out).mono ?_;rintro e w3 ⟨t',rfl,f0,f6,Ez,ht3,hs3⟩;have TY:=hid Ez;have Gz:=hid (Ah.out.trans ht3);have WD:=hid (hs3.trans tG.out);clear Ez ht3 hs3 tF Ah tG;go_wp2;go_ret
  exact⟨_,[ah.Br (t-5) (t-5+t')],rfl,.size _ _ ⟨aB,aB,aB⟩,Bw (f:=ah.Br (t-5) (t-5+t')) rfl rfl rfl (by have:=WD.out;show _<=_;omega),
   (TY.out.mono aB).keep (aD.below (aF.alloc aH _)),Gz.out.trans (Turns.aS (aF.alloc aH _))⟩
 ·go_wp2_with fail
  refine(bE 3 aB aB b (N+1) aB _ (DW.out.keep (aD.below (aF.alloc aH _)))).mono ?_;rintro e w2 ⟨t,rfl,g0,g6,hm2,ht2,hs2⟩;obtain⟨n,rfl⟩:∃n:Nat,t=(n:Int):=⟨t.toNat,aB⟩
  have HW2:Hid (w2.heap[w1.heap.size]?=some (.cells (ah.fW.map Value.string).toArray 9 (0,0))):=hid (by
   rw[ht2.block _ (by have:=DW.out.lt;omega) bp]
   exact TQ w1 _)
  have Ah:Hid (Turns (·=b) w w2):=hid (Ag.out.trans ((Turns.aS (aF.alloc aH _)).trans ht2));have tG:Hid (w2.heap.size=w.heap.size+1):=hid (by rw[hs2,World.size_alloc,wP.out]);have tF:=hid hm2;clear hm2 ht2 hs2;go_wp2;have hc1:1<=1+n:=aB
  have hc3:1+n<=3:=aB
  generalize 1+n=c at*;clear g0 g6;have hbF:b<w2.heap.size:=tF.out.lt;have C4:b<w1.heap.size:=DW.out.lt;have hsz:w1.heap.size<w2.heap.size:=by have:=wP.out;have:=tG.out;omega
  go_loopw [6] (fun i wr=>∃k:Nat,k<=c/\i=.int .i64 k/\Hid (abZ b N c w1.heap.size w2.heap.size w k wr)) (fun i _=>c-(intOf i).toNat)
  case atStart=>
   refine⟨0,aB,rfl,hid ⟨none,0,[],TQ w2 _,bG _ HW2.out,bg.nil _ _,rfl,bp,(tF.out.mono aB).keep (aD.below (aF.alloc aH _)),Ah.out.trans (Turns.aS (aF.alloc aH _))⟩⟩
  case round=>
   obtain⟨k,hk,rfl,hR⟩:=hrel;obtain⟨ag,cg,gs,r1,r2,r3,r4,r5,r6,r7⟩:=hR.out;by_cases hlt:k<c
   ·obtain⟨fc,hfc⟩:=bB (#[.string ah.wO,.string ah.nil,.string ah.nil,.int .i64 3,.int .i64 0,.int .i64 0,.slice (some ⟨w1.heap.size,0,none⟩) c 3,.slice ag k cg]:Array Value)
    rw[<-hfc] at r1;have hφ:iG w2.heap.size fc 46 (wr.drewN 1):=r1;have HR:=hid (And.intro r1 (And.intro r2 (And.intro r3 (And.intro r4 (And.intro r5 (And.intro r6 r7))))));clear r1 r2 r3 r4 r5 r6 r7;have Wq:=hid hfc;go_wp2;refine iq 5 [(true,0),(true,1),(true,2),(false,3),(false,4)] (iG w2.heap.size fc 46) oL (by kernel_rfl) hφ ?_;intro hne;refine jY 3 fH ?_;simp only[List.take_succ_cons,List.take_zero];have hx0:∀x:Held (iG w2.heap.size fc 46),x.1.cell? ⟨w2.heap.size,7,none⟩=some (.slice ag k cg):=fun x=>(aN x.2 7).trans wJ;clear hfc;repeat (go_big_quiet_step (fail))
    refine iL ?_;clear hx0 hne;refine dY rfl ?_;go_wp2_with fail;refine(bE 5 aB aB b (N+2+k) aB _ (HR.out.2.2.2.2.2.1.keep (aD.below (aI aF _)))).mono ?_;rintro e w5 ⟨t,rfl,q0,q5,GW,yd,hs5⟩;have DX:w5.heap[w2.heap.size]?=some (.cells fc 46 (0,0)):=(yd.block w2.heap.size (show ¬w2.heap.size=b by omega) (aC HR.out.1)).trans HR.out.1;have h5W:=(yd.block w1.heap.size (show ¬w1.heap.size=b by omega) (aC HR.out.2.1)).trans HR.out.2.1;have h5I:bg (fun x=>w2.heap.size<x) w5 (.slice ag k cg) gs:=aX.keep HR.out.2.2.1 ((Turns.aS (S:=(·=b)) (aI aF 1)).trans yd|>.keep (fun x hx e=>by omega));have OX:=HR.out.2.2.2.2.2.2.trans ((Turns.aS (aI aF 1)).trans yd);have H5:=hid (And.intro DX (And.intro h5W (And.intro h5I (And.intro GW OX))));obtain⟨hl,hg⟩:=And.intro HR.out.2.2.2.1 HR.out.2.2.2.2.1;have HG:=hid (And.intro hl hg);clear GW yd hs5 DX h5W h5I OX HR hl hg hR hφ;go_wp2;refine py ⟨fM.of (φ:=iG w2.heap.size fc 46) H5.out.1,?_⟩;refine dY rfl ?_;go_wp2;refine py ⟨fM.of (φ:=iG w2.heap.size fc 46) (bG _ H5.out.1),?_⟩;refine jl ?_;simp only[jZ,jP];go_wp2_with (at_builtin;go_must (refine jW rfl _ _ rfl Tryz.Zt rfl H5.out.2.2.1 (aF.alloc aH _) rfl (tS nV w5 _ t rfl trivial) (by have:=HG.out.1;omega) ?_));intro v' w6 Zu rA;have e:(gs++[t]).length=k+1:=by simp[HG.out.1]
    obtain⟨OY,NR,hv', -, -, -⟩:=(bg.sl Zu).form;rw[e] at hv';subst hv';obtain⟨DX,h5W,h5I,GW,OX⟩:=H5.out;have hne:∀x,x<=w2.heap.size->¬some x=(Value.slice ag k cg).ownBlock:=fun x hx e=>by have:=h5I.2 x e.symm;omega
    have Kc:w6.heap[w2.heap.size]?=some (.cells fc 46 (0,0)):=(rA.block _ (hne _ aH) (aC (bG _ DX))).trans (bG _ DX);have h6W:=(rA.block _ (hne w1.heap.size aB) (aC (bG _ h5W))).trans (bG _ h5W);have h6m:gq w6 b (N+2+k+1):=(GW.keep (aD.below (aF.alloc aH _))).keep (rA.keep (fun x hx e=>hne x aB e))
    have NS:Turns (·=b) w w6:=(OX.alloc _).into rA (fun x hx e=>by
     have h9:=h5I.2 x e.symm;have:=tG.out;omega)
    have hfz:=dJ Kc 7;have hcl:=(aN Kc 7).trans (show fc[7]?=some (.slice ag k cg) by rw[Wq.out];rfl);have h7F:(w6.setCell ⟨w2.heap.size,7,none⟩ (.slice OY (k+1) NR)).heap[w2.heap.size]?=some (.cells (fc.setIfInBounds 7 (.slice OY (k+1) NR)) 46 (0,0)):=heap_setCell_same _ _ _ _ _ _ Kc;have LD:∀x,x≠w2.heap.size->(w6.setCell ⟨w2.heap.size,7,none⟩ (.slice OY (k+1) NR)).heap[x]?=w6.heap[x]?:=fun x hx=>jQ _ _ _ _ hx
    have H7:Hid (abZ b N c w1.heap.size w2.heap.size w (k+1) (w6.setCell ⟨w2.heap.size,7,none⟩ (.slice OY (k+1) NR))):=hid (by
     refine⟨OY,NR,gs++[t],h7F.trans wJ,(LD _ aB).trans h6W,?_,e,?_,?_,?_⟩
     ·refine aX.keep (aX.mono Zu (S':=fun x=>w2.heap.size<x) (fun x _ hx=>?_)) (fun x hx _=>LD x aB)
      rcases hx with hx|hx
      ·exact hx.1
      ·have:=aC DX;show _<_;omega
     ·intro g hg
      rcases List.mem_append.1 hg with hg|hg
      ·exact HG.out.2 g hg
      ·rw[mL.1 hg];omega
     ·exact h6m.keep (fun x hx _=>LD x aB)
     ·exact NS.setCell_new _ _ (by have:=tG.out;show _<=w2.heap.size;omega))
    clear h7F LD NS h6m h6W Kc hne DX h5W h5I GW OX Zu rA H5 e;go_wp2;go_roundw;case rel=>exact⟨k+1,aB,by go_num,H7⟩
    simp[intOf];omega
   ·have hkc:c=k:=by omega
    subst hkc;clear hlt hk;obtain⟨g,NR,hag,hg1,hg2,hg3⟩:=r3.xQ aB;injection hag with hag1 T9 hag3;subst hag1 hag3;obtain⟨fc,hfc⟩:=bB (#[.string ah.wO,.string ah.nil,.string ah.nil,.int .i64 3,.int .i64 0,.int .i64 0,.slice (some ⟨w1.heap.size,0,none⟩) c 3,.slice (some ⟨g,0,none⟩) c cg]:Array Value);rw[<-hfc] at r1;have hφ:iG w2.heap.size fc 46 (wr.drewN 1):=r1;have HR:=hid (And.intro r1 (And.intro r2 (And.intro r3 (And.intro r4 (And.intro r5 (And.intro r6 r7))))));have C5:=hid hg3;clear r1 r2 r3 r4 r5 r6 r7 T9 hg3;have Wq:=hid hfc;go_wp2;refine iq 9 [(true,0),(true,1),(true,2),(true,3),(true,6),(false,4),(false,5),(false,7),(false,8)] (iG w2.heap.size fc 46) oL (by kernel_rfl) hφ ?_;intro hne;have hx0:∀x:Held (iG w2.heap.size fc 46),x.1.cell? ⟨w2.heap.size,7,none⟩=some (.slice (some ⟨g,0,none⟩) c cg):=fun x=>(aN x.2 7).trans wJ;clear hfc;refine jY 4 fH ?_;simp only[List.take_succ_cons,List.take_zero];repeat (go_big_quiet_step (fail))
    refine iL ?_;refine mD rfl ?_;go_big_quiet_step (fail);refine iL ?_;clear hx0 hne;refine dY rfl ?_;go_wp2;refine py ⟨fM.of (φ:=iG w2.heap.size fc 46) hφ,?_⟩;refine dY rfl ?_;go_wp2_with fail;refine(bE _ aB aB b (N+2+c) aB _ (HR.out.2.2.2.2.2.1.keep (aD.below (aI aF _)))).mono ?_;rintro e w5 ⟨t,rfl,q0,q5,GW,yd,hs5⟩;obtain⟨m,rfl⟩:∃m:Nat,t=(m:Int):=⟨t.toNat,aB⟩;have ab0:m<c:=aB
    have DX:w5.heap[w2.heap.size]?=some (.cells fc 46 (0,0)):=(yd.block w2.heap.size (show ¬w2.heap.size=b by omega) (aC HR.out.1)).trans HR.out.1;have H5:=hid (And.intro DX (And.intro GW (And.intro yd hs5)));clear GW yd hs5 DX hφ;go_wp2;refine py ⟨fM.of (φ:=iG w2.heap.size fc 46) H5.out.1,?_⟩;refine dY rfl ?_;go_wp2_with fail;refine(bE 3 aB aB b (N+2+c+1) aB _ H5.out.2.1).mono ?_;rintro e w6 ⟨t,rfl,p0,p5,BA,rA,hs6⟩;have NS:=((Turns.aS (S:=(·=b)) (aI (Below.refl _ wr) 1)).trans H5.out.2.2.1).trans rA;have Kc:w6.heap[w2.heap.size]?=some (.cells fc 46 (0,0)):=(NS.block w2.heap.size (show ¬w2.heap.size=b by omega) (aC HR.out.1)).trans HR.out.1;have h6W:=(NS.block w1.heap.size (show ¬w1.heap.size=b by omega) (aC HR.out.2.1)).trans HR.out.2.1;have h6g:=NS.block g (show ¬g=b by omega) hg2;have h6I:bg (fun x=>w2.heap.size<x) w6 (.slice (some ⟨g,0,none⟩) c cg) gs:=aX.keep HR.out.2.2.1 (NS.keep (fun x hx e=>by omega));obtain⟨⟨x0,hx0⟩,hz0⟩:=C5.out m (by rw[HR.out.2.2.2.1];exact ab0);have hx6:w6.cell? ⟨g,m,none⟩=some (.int .i64 x0):=by rw[World.cell?_of_block (w:=wr) (a:=⟨g,m,none⟩) h6g];exact hx0
    have hz6:w6.frozen? ⟨g,m,none⟩=false:=by
     have:w6.frozen? ⟨g,m,none⟩=wr.frozen? ⟨g,m,none⟩:=by simp only[World.frozen?,h6g]
     rw[this];exact hz0
    have HT6:=hid (HR.out.2.2.2.2.2.2.trans NS);have H6:=hid (And.intro Kc (And.intro h6W (And.intro h6I BA)));obtain⟨hl,hg⟩:=And.intro HR.out.2.2.2.1 HR.out.2.2.2.2.1;have HG:=hid (And.intro hl hg);clear BA rA hs6 NS Kc h6W h6g h6I hl hg hR HR H5 C5 hx0 hz0;go_wp2;refine py ⟨fM.of (φ:=iG w2.heap.size fc 46) H6.out.1,?_⟩;refine dY rfl ?_;go_wp2;refine py ⟨fM.of (φ:=iG w2.heap.size fc 46) H6.out.1,?_⟩;refine jl ?_;simp only[jZ,jP];have hm0:(0:Int)<=m:=aB
    have hm2:(m:Int)<c:=aB
    have hsk:dX (some ⟨g,0,none⟩) c:=fun _=>⟨_,_,rfl⟩;have Kc:=H6.out.1;rw[Wq.out] at Kc;obtain⟨⟨y0,y1,y2,y3,y4,y5,y6,y7⟩, -⟩:=dK Kc;clear Kc;have hgF:¬g=w2.heap.size:=aB
    have hgF2:¬w2.heap.size=g:=aB
    have HK:∀x,x≠g->(w6.setCell ⟨g,m,none⟩ (.int .i64 (1+t))).heap[x]?=w6.heap[x]?:=fun x hx=>jQ _ _ _ _ hx
    have HP:Hid (OV b N w (.returned (.slice (some ⟨w6.heap.size,0,none⟩) 1 1)) ((w6.setCell ⟨g,m,none⟩ (.int .i64 (1+t))).alloc (.cells (cF (ah.AO (ah.fW.take c) (gs.set m (1+t))) (.slice (some ⟨w1.heap.size,0,none⟩) c 3) (.slice (some ⟨g,0,none⟩) c cg)).toArray 46))):=hid (by
     obtain⟨k1,k2,k3,k4⟩:=H6.out
     have hI:=k3.set (HG.out.1).symm m (1+t)
     have hS:=tG.out
     have hzz:w.heap.size<=w6.heap.size:=by
      have h2:=aC k1;omega
     refine⟨_,[ah.AO (ah.fW.take c) (gs.set m (1+t))],rfl,.tag c _ hc1 hc3 (by rw[List.length_set];exact HG.out.1) (fun x hx=>?_) ?_,?_,?_,?_⟩
     ·rcases List.mem_or_eq_of_mem_set hx with hx|rfl
      ·exact HG.out.2 x hx
      ·omega
     ·refine ah.Ew _ (fun x hx=>?_) ⟨1+t,List.mem_set (by rw[HG.out.1];exact ab0) _,aB⟩
      rcases List.mem_or_eq_of_mem_set hx with hx|rfl
      ·exact(HG.out.2 x hx).1
      ·omega
     ·refine dQ.lit bD [cF (ah.AO (ah.fW.take c) (gs.set m (1+t))) (.slice (some ⟨w1.heap.size,0,none⟩) c 3) (.slice (some ⟨g,0,none⟩) c cg)] [_] rfl (by simp[cF]) (fun j h _=>?_) (by simp[World.setCell]) hzz bp rfl rfl bp
      match j,h with
      |0,_=>
       refine⟨_,_,rfl,?_,bq.mono (bg.sl hI) (fun x _ hx=>by have:w2.heap.size<x:=hx;show _<=x;omega)⟩
       have hW:=(HK w1.heap.size aB).trans k2
       exact Bz hW (by show _<=w1.heap.size;rw[wP.out];exact aH) hc3 rfl fH
     ·exact((k4.mono aB).keep (fun x hx _=>HK x aB)).keep (aD.below (aF.alloc aH _))
     ·exact(HT6.out.setCell_new ⟨g,m,none⟩ _ (by show _<=g;omega)).alloc _)
    clear HK;go_wp2;go_ret;exact HP.out
 ·go_wp2_with fail
  refine(bE 400 aB aB b (N+1) aB w1 DW.out).mono ?_;rintro e w2 ⟨t,rfl,g0,g6,hm2,ht2,hs2⟩;have tF:=hid hm2;have Ah:=hid (Ag.out.trans ht2);have tG:=hid (hs2.trans wP.out);clear hm2 ht2 hs2 DW Ag wP h0 h6;have hbF:b<w2.heap.size:=tF.out.lt;go_wp2;obtain⟨fc,hfc⟩:=bB (#[.string ah.mX,.string ah.nil,.string ah.nil,.int .i64 4,.int .i64 (t-200),.int .i64 0,.slice none 0 0,.slice none 0 0]:Array Value);have h3F:(w2.alloc (.cells fc 46)).heap[w2.heap.size]?=some (.cells fc 46 (0,0)):=TQ w2 _;have h3m:gq (w2.alloc (.cells fc 46)) b (N+2):=tF.out.keep (aD.below (aF.alloc aH _));have h3T:Turns (·=b) w (w2.alloc (.cells fc 46)):=Ah.out.alloc _;rw[show (#[.string {data:=#[98,111,114,110]},.string {data:=#[]},.string {data:=#[]},.int .i64 4,.int .i64 (t-200),.int .i64 0,.slice none 0 0,.slice none 0 0]:Array Value)=fc from hfc.symm];generalize w2.alloc (.cells fc 46)=w3 at*;have Wq:=hid hfc;have hφ:iG w2.heap.size fc 46 (w3.drewN 1):=h3F;have H3:=hid (And.intro h3F (And.intro h3m h3T));clear h3F h3m h3T;refine iq 4 [(true,0),(true,1),(true,2),(false,3)] (iG w2.heap.size fc 46) oL (by kernel_rfl) hφ ?_;intro hne;have hx0:∀x:Held (iG w2.heap.size fc 46),x.1.cell? ⟨w2.heap.size,4,none⟩=some (.int .i64 (t-200)):=fun x=>(aN x.2 4).trans wJ;clear hfc;refine jY 3 fH ?_;simp only[List.take_succ_cons,List.take_zero];repeat (go_big_quiet_step (fail))
  refine iL ?_;clear hx0 hne;refine dY rfl ?_;go_wp2_with fail;refine(bE 60 aB aB b (N+2) aB _ (H3.out.2.1.keep (aD.below (aI aF _)))).mono ?_;rintro e w4 ⟨t',rfl,q0,q5,WE,rB,hs4⟩;have SQ:w4.heap[w2.heap.size]?=some (.cells fc 46 (0,0)):=(rB.block w2.heap.size (show ¬w2.heap.size=b by omega) (aC H3.out.1)).trans H3.out.1;have h4T:=(H3.out.2.2.drewN 1).trans rB;have H4:=hid (And.intro SQ (And.intro WE h4T));clear WE rB hs4 SQ h4T hφ H3;go_wp2;refine py ⟨fM.of (φ:=iG w2.heap.size fc 46) H4.out.1,?_⟩;refine jl ?_;simp only[jZ,jP];have SQ:=H4.out.1;rw[Wq.out] at SQ;obtain⟨⟨-, -, -, -, -,y5, -, -⟩,yz⟩:=dK SQ;have yz5:=yz 5;have DX:(w4.setCell ⟨w2.heap.size,5,none⟩ (.int .i64 (t-200+t'))).heap[w2.heap.size]?=some (.cells #[.string ah.mX,.string ah.nil,.string ah.nil,.int .i64 4,.int .i64 (t-200),.int .i64 (t-200+t'),.slice none 0 0,.slice none 0 0] 46 (0,0)):=heap_setCell_same w4 _ 5 _ _ _ SQ;have h5m:gq (w4.setCell ⟨w2.heap.size,5,none⟩ (.int .i64 (t-200+t'))) b (N+3):=H4.out.2.1.keep (fun x hx _=>jQ _ _ _ _ (show x≠w2.heap.size by omega));have OX:=H4.out.2.2.setCell_new ⟨w2.heap.size,5,none⟩ (.int .i64 (t-200+t')) (by have:=tG.out;show _<=w2.heap.size;omega);have H5:=hid (And.intro DX (And.intro h5m OX));clear DX h5m OX SQ yz Wq H4;go_wp2;generalize w4.setCell ⟨w2.heap.size,5,none⟩ (.int .i64 (t-200+t'))=w5 at*;obtain⟨GX,Zv⟩:=bB (#[.string ah.mX,.string ah.nil,.string ah.nil,.int .i64 4,.int .i64 (t-200),.int .i64 (t-200+t'),.slice none 0 0,.slice none 0 0]:Array Value);obtain⟨DX,h5m,OX⟩:=H5.out;rw[<-Zv] at DX;have hφ:iG w2.heap.size GX 46 (w5.drewN 1):=DX;have Wq:=hid Zv;have H5':=hid (And.intro DX (And.intro h5m OX));clear H5 DX h5m OX y5 yz5;refine iq 7 [(true,0),(true,1),(true,3),(false,2),(false,4),(false,5),(false,6)] (iG w2.heap.size GX 46) oL (by kernel_rfl) hφ ?_;intro hne;have hx0:∀x:Held (iG w2.heap.size GX 46),x.1.cell? ⟨w2.heap.size,0,none⟩=some (.string ah.mX):=fun x=>(aN x.2 0).trans wJ;have hx1:∀x:Held (iG w2.heap.size GX 46),x.1.cell? ⟨w2.heap.size,1,none⟩=some (.string ah.nil):=fun x=>(aN x.2 1).trans wJ;have hx2:∀x:Held (iG w2.heap.size GX 46),x.1.cell? ⟨w2.heap.size,2,none⟩=some (.string ah.nil):=fun x=>(aN x.2 2).trans wJ;have hx3:∀x:Held (iG w2.heap.size GX 46),x.1.cell? ⟨w2.heap.size,3,none⟩=some (.int .i64 4):=fun x=>(aN x.2 3).trans wJ;have xA:∀x:Held (iG w2.heap.size GX 46),x.1.cell? ⟨w2.heap.size,4,none⟩=some (.int .i64 (t-200)):=fun x=>(aN x.2 4).trans wJ;have hx5:∀x:Held (iG w2.heap.size GX 46),x.1.cell? ⟨w2.heap.size,5,none⟩=some (.int .i64 (t-200+t')):=fun x=>(aN x.2 5).trans wJ;have hx6:∀x:Held (iG w2.heap.size GX 46),x.1.cell? ⟨w2.heap.size,6,none⟩=some (.slice none 0 0):=fun x=>(aN x.2 6).trans wJ;have hx7:∀x:Held (iG w2.heap.size GX 46),x.1.cell? ⟨w2.heap.size,7,none⟩=some (.slice none 0 0):=fun x=>(aN x.2 7).trans wJ;clear Zv;refine jY 2 fH ?_;simp only[List.take_succ_cons,List.take_zero];repeat (go_big_quiet_step (fail))
  refine iL ?_;refine mD rfl ?_;go_big_quiet_step (fail);refine iL ?_;clear hx0 hx1 hx2 hx3 xA hx5 hx6 hx7 hne;refine dY rfl ?_;go_wp2_with fail;refine(bE 3 aB aB b (N+3) aB _ (H5'.out.2.1.keep (aD.below (aI aF _)))).mono ?_;rintro e w6 ⟨s,rfl,p0,p5,BA,rA,hs6⟩;have Kc:w6.heap[w2.heap.size]?=some (.cells GX 46 (0,0)):=(rA.block w2.heap.size (show ¬w2.heap.size=b by omega) (aC H5'.out.1)).trans H5'.out.1;have NS:=(H5'.out.2.2.drewN 1).trans rA;have H6:=hid (And.intro Kc (And.intro BA NS));clear BA rA hs6 Kc NS hφ H5';go_wp2;refine py ⟨fM.of (φ:=iG w2.heap.size GX 46) H6.out.1,?_⟩;refine dY rfl ?_;go_wp2_with fail;refine(bE 30 aB aB b (N+4) aB _ H6.out.2.1).mono ?_;rintro e w7 ⟨s',rfl,o0,o5,OZ,ye,hs7⟩;have h7F:w7.heap[w2.heap.size]?=some (.cells GX 46 (0,0)):=(ye.block w2.heap.size (show ¬w2.heap.size=b by omega) (aC H6.out.1)).trans H6.out.1;have h7T:=H6.out.2.2.trans ye;have H7:=hid (And.intro h7F (And.intro OZ h7T));clear OZ ye hs7 h7F h7T H6
  iterate 2
   go_wp2
   refine py ⟨fM.of (φ:=iG w2.heap.size GX 46) H7.out.1,?_⟩
   refine dY rfl ?_
  go_wp2;refine py ⟨fM.of (φ:=iG w2.heap.size GX 46) H7.out.1,?_⟩;refine jl ?_;simp only[jZ,jP];go_wp2;go_ret
  exact⟨_,[ah.pI (t-200) (t-200+t'),ah.qI s (3+s')],rfl,.born _ _ _ _ ⟨aB,aB,aB⟩ ⟨aB,aB,aB⟩,Bx (f:=ah.pI (t-200) (t-200+t')) (g:=ah.qI s (3+s')) rfl rfl rfl rfl rfl (by have:=aC H7.out.1;have:=tG.out;show _<=_;omega),
   (H7.out.2.1.mono aB).keep (aD.below (aF.alloc aH _)),H7.out.2.2.alloc _⟩
 ·go_wp2_with fail
  refine(bE 3 aB aB b (N+1) aB w1 DW.out).mono ?_;rintro e w2 ⟨t,rfl,g0,g6,hm2,ht2,hs2⟩;have tF:=hid hm2;have Ah:=hid (Ag.out.trans ht2);have tG:=hid (hs2.trans wP.out);clear hm2 ht2 hs2 DW Ag wP h0 h6;go_wp2_with fail;refine(bE 4 aB aB b (N+2) aB w2 tF.out).mono ?_;rintro e w3 ⟨t',rfl,f0,f6,Ez,ht3,hs3⟩;have TY:=hid Ez;have Gz:=hid (Ah.out.trans ht3);have WD:=hid (hs3.trans tG.out);clear Ez ht3 hs3 tF Ah tG;go_wp2;go_ret
  exact⟨_,[ah.mG t (t+t')],rfl,.state _ _ aB aB aB,Bw (f:=ah.mG t (t+t')) rfl rfl rfl (by have:=WD.out;show _<=_;omega),
   (TY.out.mono aB).keep (aD.below (aF.alloc aH _)),Gz.out.trans (Turns.aS (aF.alloc aH _))⟩
 ·go_wp2_with fail
  refine(bE 5 aB aB b (N+1) aB w1 DW.out).mono ?_;rintro e w2 ⟨t,rfl,g0,g6,hm2,ht2,hs2⟩;have tF:=hid hm2;have Ah:=hid (Ag.out.trans ht2);have tG:=hid (hs2.trans wP.out);clear hm2 ht2 hs2 DW Ag wP h0 h6;go_wp2_with fail;refine(bE 10 aB aB b (N+2) aB w2 tF.out).mono ?_;rintro e w3 ⟨t',rfl,f0,f6,Ez,ht3,hs3⟩;have TY:=hid Ez;have Gz:=hid (Ah.out.trans ht3);have WD:=hid (hs3.trans tG.out);clear Ez ht3 hs3 tF Ah tG;go_wp2_with fail;refine(bE 5 aB aB b (N+3) aB w3 TY.out).mono ?_;rintro e w4 ⟨s,rfl,e0,e6,WE,rB,hs4⟩;have WG:=hid WE;have HT4:=hid (Gz.out.trans rB);have LG:=hid (hs4.trans WD.out);clear WE rB hs4 TY Gz WD;go_wp2_with fail;refine(bE 10 aB aB b (N+4) aB w4 WG.out).mono ?_;rintro e w5 ⟨s',rfl,d0,d6,GW,yd,hs5⟩;have Ua:=hid GW;have HT5:=hid (HT4.out.trans yd);have wQ:=hid (hs5.trans LG.out);clear GW yd hs5 WG HT4 LG;go_wp2;go_ret
  exact⟨_,[ah.AP t (5+t'),ah.pJ s (10+s')],rfl,.low _ _ _ _ ⟨aB,aB,aB⟩ ⟨aB,aB,aB⟩,Bx (f:=ah.AP t (5+t')) (g:=ah.pJ s (10+s')) rfl rfl rfl rfl rfl (by have:=wQ.out;show _<=_;omega),
   (Ua.out.mono aB).keep (aD.below (aF.alloc aH _)),HT5.out.trans (Turns.aS (aF.alloc aH _))⟩
 ·go_wp2
  go_ret;exact⟨_,[],rfl,.none,dQ.nil _ _ _ _,DW.out.mono aB,Ag.out⟩
inductive lI where
 |done
 |quiet (i:Nat) (p:lI)
 |one (i:Nat) (p:lI)
 |two (i j:Nat) (p q:lI)
 |three (i j k:Nat) (p q r:lI)
 deriving DecidableEq
section
variable {P:Program} {ops:Array Oper} {md:Region.Mode}
def sB:Op->Bool
 | .move _| .assign _| .pick .. | .load .. | .binOp .. | .unOp .. | .build .. | .fieldAddr .. | .field .. | .indexAddr .. | .index .. | .slice .. | .extract .. | .convert .. | .makeFunc .. | .makeInterface .. | .nilCheck .. | .lookup .. =>true
 | .call {callee:=.builtin .len, .. }| .call {callee:=.builtin .cap, .. }| .call {callee:=.builtin .min, .. }| .call {callee:=.builtin .max, .. }=>true
 |_=>false
theorem C6{o:Oper}{x:Operand}(ho:o.op=.nilCheck x){ρ:Operand->Value}{w w':World}{nx:Next}(hn:∀v,nx≠ .value v):(execOp ρ o).run P w≠ .ok nx w':=by
 unfold execOp;rw[ho];dsimp only;split
 ·simp[go_sem]
 ·simp[go_sem]
 ·simp[go_sem]
 ·split
  ·simp[go_sem]
  ·rename_i t v _
   intro e;simp only[Sem.run_bind] at e;cases h1:Sem.run P program w with
   |halt a b=>rw[h1] at e;cases e
   |ok p w1=>
    rw[h1] at e
    simp only[Result.andThen] at e
    generalize Sem.run P (nilAhead (p.types.size+Made.depth) t v _) w1=r at e
    cases r with
    |halt a b=>cases e
    |ok q w2=>
     simp only at e
     split at e
     ·simp[go_sem] at e
     ·cases e;exact hn _ rfl
  ·intro e;cases e;exact hn _ rfl
 ·intro e;cases e;exact hn _ rfl
theorem tT{o:Oper}(h:sB o.op=true){ρ:Operand->Value}{w w':World}{nx:Next}(hn:∀v,nx≠ .value v):(execOp ρ o).run P w≠ .ok nx w':=by
 by_cases hc:∃x,o.op=.nilCheck x
 ·obtain⟨x,ho⟩:=hc
  exact C6 ho hn
 unfold execOp;generalize o.op=op at*;unfold sB at h;split at h
 all_goals first
  |exact absurd ⟨_,rfl⟩ hc
  |exact qc hn
  |exact xN hn
  |(intro e;cases e;exact hn _ rfl)
  |(simp only[resolve,invoke,builtin];exact qc hn)
  |(exact absurd h bp)
def pO(P:Program)(ops:Array Oper)(φ:World->Prop)(K:(World->Prop)->Act->World->Prop)(l:List Oper)(i:Nat)(a:Act)(w:World):Prop:=
 match l[i]? with
 |some o=>wpList P ops (QN fun a' w'=>∃φ':World->Prop,(∀W,φ' W->φ W)/\φ' w'/\K φ' a' w') [o] a w
 |none=>False
def cM(P:Program)(ops:Array Oper)(R:Act->World->Prop)(l:List Oper):lI->(World->Prop)->Act->World->Prop
 | .done,_,a,w=>R a w
 | .quiet i s,φ,a,w=>match l[i]? with
  |some o=>Nonempty (Held φ)->wpQuiet P ops (fun W=>∃x:Held φ,W=x.1) (fun a'=>cM P ops R l s φ a' w) [o] a
  |none=>False
 | .one i s,φ,a,w=>pO P ops φ (fun φ' a' w'=>cM P ops R l s φ' a' w') l i a w
 | .two i j s t,φ,a,w=>pO P ops φ (fun φ' a' w'=>cM P ops R l s φ' a' w') l i a w/\pO P ops φ (fun φ' a' w'=>cM P ops R l t φ' a' w') l j a w
 | .three i j k s t u,φ,a,w=>pO P ops φ (fun φ' a' w'=>cM P ops R l s φ' a' w') l i a w/\pO P ops φ (fun φ' a' w'=>cM P ops R l t φ' a' w') l j a w/\
   pO P ops φ (fun φ' a' w'=>cM P ops R l u φ' a' w') l k a w
def Region.jr(md:Region.Mode)(ops:Array Oper)(n:Nat):Nat->lI->Array Bool->Bool
 |0,.done,listed=>Region.seqB md ops (ops.size-n) n listed
 |f+1,.one c s,listed=>decide (Region.ready md ops listed=[c])&&decide (c<n)&&Region.jr md ops n f s (listed.setIfInBounds c true)
 |f+1,.two c d s t,listed=>decide (Region.ready md ops listed=[c,d])&&decide (c<n)&&decide (d<n)&&Region.jr md ops n f s (listed.setIfInBounds c true)&&Region.jr md ops n f t (listed.setIfInBounds d true)
 |f+1,.three c d e s t u,listed=>decide (Region.ready md ops listed=[c,d,e])&&decide (c<n)&&decide (d<n)&&decide (e<n)&&Region.jr md ops n f s (listed.setIfInBounds c true)&&Region.jr md ops n f t (listed.setIfInBounds d true)&&Region.jr md ops n f u (listed.setIfInBounds e true)
 |f+1,.quiet q s,listed=>(Region.ready md ops listed).contains q&&Region.free md ops listed q&&decide (q<n)&&((ops[q]?).map (fun o=>sB o.op)).getD false&&Region.jr md ops n f s (listed.setIfInBounds q true)
 |_,_,_=>false
def Region.mZ(md:Region.Mode)(ops:Array Oper)(n:Nat)(s:lI):Bool:=
 Region.noSelect ops&&decide (n<ops.size)&&Region.sinkB md ops n&&Region.chainB md ops n&&Region.jr md ops n n s (Array.replicate ops.size false)
theorem LH{C C':World->Prop}(hC:∀W,C' W->C W){i:Nat}{a:Act}{w:World}{K K':Act->World->Prop}(h:∀a w,C' w->K a w->K' a w)(hh:OM P ops C' i K a w):OM P ops C i K' a w:=
 wpOp_mono (fun a w hk=>⟨hC _ hk.1,h a w hk.1 hk.2⟩) hh
theorem sC{C C':World->Prop}(hC:∀W,C' W->C W){n:Nat}{L:Array Bool->Act->World->Prop}:∀(f:Nat) (listed:Array Bool) (a:Act) (w:World),kF P md ops C' n L f listed a w->kF P md ops C n L f listed a w
 |0,_,_,_,h=>h
 |f+1,_,_,_,h=>⟨h.1,fun i hi=>⟨(h.2 i hi).1,LH hC (fun a' w' _ h'=>sC hC f _ a' w' h') (h.2 i hi).2⟩⟩
theorem GY{k:Nat}{o:Oper}{a:Act}{w:World}{K K':Act->World->Prop}(hk:ops[k]?=some o)(hK:∀a w,K a w->K' a w)(h:wpList P ops (QN K) [o] a w):wpOp P ops (QN fun _ _=>False) k K' a w:=by
 unfold wpOp;simp only[hk];unfold wpList at h;split
 ·rename_i hw
  rw[if_pos hw] at h;rcases h with h|⟨_,h2⟩
  ·refine .inl (wp_exit (Q:=QN K) (fun _ _ _ hf=>hf) (fun hl=>absurd hl ig) ?_)
   exact Oper.wp_mono (fun a' w' h'=>hK a' w' h') h
  ·exact absurd h2 ig
 ·rename_i hw
  rw[if_neg hw] at h;exact hK _ _ h
theorem ni{n f:Nat}{φ:World->Prop}{L:Array Bool->Act->World->Prop}{K:(World->Prop)->Act->World->Prop}{k:Nat}{listed:Array Bool}{a:Act}{w:World}
  (h:pO P ops φ K ops.toList k a w)(hK:∀φ' a' w',φ' w'->K φ' a' w'->kF P md ops (fM φ') n L f (listed.setIfInBounds k true) a' w'):
  OM P ops (fM φ) k (kF P md ops (fM φ) n L f (listed.setIfInBounds k true)) a w:=by
 unfold pO at h;split at h
 ·rename_i o h0
  have h0':ops[k]?=some o:=GK
  refine GY h0' (fun a' w' hk=>?_) h;obtain⟨φ',hs,hw',h3⟩:=hk;exact⟨⟨⟨w',hs w' hw'⟩,rfl⟩,sC (C':=fM φ') (fun W hW=>by obtain⟨x,rfl⟩:=hW;exact⟨⟨x.1,hs _ x.2⟩,rfl⟩) _ _ _ _ (hK φ' a' w' hw' h3)⟩
 ·exact h.elim
theorem dW{n:Nat}{Lq:Act->World->Prop}(hsel:Region.noSelect ops=true)(hs:Region.sinkB md ops n=true)(hc:Region.chainB md ops n=true)(hn:n<ops.size):
  ∀(f:Nat) (s:lI) (φ:World->Prop) (listed:Array Bool) (a:Act) (w:World),φ w->HeadInv md ops n listed->Region.jr md ops n f s listed=true->cM P ops Lq ops.toList s φ a w->
  kF P md ops (fM φ) n (fun listed' a' w'=>Region.seqB md ops (ops.size-n) n listed'=true/\Lq a' w') f listed a w
 |0,.done,φ,listed,a,w,hC,inv,hB,h=>by
  simp only[Region.jr] at hB;exact⟨hB,h⟩
 |f+1,.quiet k s,φ,listed,a,w,hC,inv,hB,h=>by
  simp only[Region.jr,pF,qZ] at hB;obtain⟨⟨⟨⟨hr,hf⟩,hkn⟩,hq⟩,hB⟩:=hB;have hks:k<ops.size:=aB
  obtain⟨o,h0⟩:∃o,ops[k]?=some o:=⟨ops[k],by simp[hks]⟩;have h0':ops.toList[k]?=some o:=GK
  simp only[cM,h0'] at h;have h:=h ⟨⟨w,hC⟩⟩;have SL:fM φ w:=⟨⟨w,hC⟩,rfl⟩;have hqo:sB o.op=true:=by rw[h0] at hq;simpa using hq
  unfold wpQuiet at h;split at h
  ·rename_i hw
   obtain⟨v,h1,h2⟩:=h
   have hy:gD P ops (fM φ) o v a:=.inl ⟨hw,fun w1 hC1=>by
    have g:=h1 w1 hC1;unfold Oper.quietAt at g;generalize hr1:(execOp a.eval o).run P w1=r at g ⊢;cases r with
    |ok nx w2=>
     cases nx with
     |value u=>obtain⟨e1,e2⟩:=g;rw[e1,e2]
     |_=>exact absurd hr1 (tT hqo (by intro v;simp))
    |halt x w2=>exact g.elim⟩
   exact l9 h0 hsel hs hc hn hkn (fun listed' a' w' hL=>xq hL.1 aH) SL inv hf hr hy
    (dW hsel hs hc hn f s φ _ _ w hC (inv.set El hkn) hB h2)
  ·rename_i hw
   exact l9 h0 hsel hs hc hn hkn (fun listed' a' w' hL=>xq hL.1 aH) SL inv hf hr (.inr ⟨by simpa using hw,rfl⟩)
    (dW hsel hs hc hn f s φ _ _ w hC (inv.set El hkn) hB h)
 |f+1,.one k s,φ,listed,a,w,hC,inv,hB,h=>by
  simp only[Region.jr,pF,qZ] at hB;obtain⟨⟨hr,hkn⟩,hB⟩:=hB;simp only[cM] at h;refine⟨xK,fun i hi=>?_⟩;rw[hr] at hi;obtain rfl:i=k:=Eh
  exact⟨hkn,ni h fun φ' a' w' hw' h3=>dW hsel hs hc hn f s φ' _ a' w' hw' (inv.set xK hkn) hB h3⟩
 |f+1,.two k j s t,φ,listed,a,w,hC,inv,hB,h=>by
  simp only[Region.jr,pF,qZ] at hB;obtain⟨⟨⟨⟨hr,hkn⟩,hjn⟩,hB1⟩,LI⟩:=hB;simp only[cM] at h;refine⟨xK,fun i hi=>?_⟩;rw[hr] at hi;by_cases e:i=k
  ·subst e
   exact⟨hkn,ni h.1 fun φ' a' w' hw' h3=>dW hsel hs hc hn f s φ' _ a' w' hw' (inv.set xK hkn) hB1 h3⟩
  ·obtain rfl:i=j:=by simpa [e] using hi
   exact⟨hjn,ni h.2 fun φ' a' w' hw' h3=>dW hsel hs hc hn f t φ' _ a' w' hw' (inv.set xK hjn) LI h3⟩
 |f+1,.three k j m s t u,φ,listed,a,w,hC,inv,hB,h=>by
  simp only[Region.jr,pF,qZ] at hB;obtain⟨⟨⟨⟨⟨⟨hr,hkn⟩,hjn⟩,hmn⟩,hB1⟩,LI⟩,hB3⟩:=hB;simp only[cM] at h;refine⟨xK,fun i hi=>?_⟩;rw[hr] at hi;by_cases e:i=k
  ·subst e
   exact⟨hkn,ni h.1 fun φ' a' w' hw' h3=>dW hsel hs hc hn f s φ' _ a' w' hw' (inv.set xK hkn) hB1 h3⟩
  ·by_cases e':i=j
   ·subst e'
    exact⟨hjn,ni h.2.1 fun φ' a' w' hw' h3=>dW hsel hs hc hn f t φ' _ a' w' hw' (inv.set xK hjn) LI h3⟩
   ·obtain rfl:i=m:=by simpa [e,e'] using hi
    exact⟨hmn,ni h.2.2 fun φ' a' w' hw' h3=>dW hsel hs hc hn f u φ' _ a' w' hw' (inv.set xK hmn) hB3 h3⟩
 |0,.quiet ..,_,_,_,_,_,_,hB,_=>by simp[Region.jr] at hB
 |0,.one ..,_,_,_,_,_,_,hB,_=>by simp[Region.jr] at hB
 |0,.two ..,_,_,_,_,_,_,hB,_=>by simp[Region.jr] at hB
 |0,.three ..,_,_,_,_,_,_,hB,_=>by simp[Region.jr] at hB
 |_+1,.done,_,_,_,_,_,_,hB,_=>by simp[Region.jr] at hB
theorem aZ{id:Nat}{Q:Exit->Act->World->Prop}{a:Act}{w:World}{l:List Oper}(n:Nat)(s:lI)(φ:World->Prop)(hm:P.follows .mixedOrders=true)(hB:Region.mZ .any l.toArray n s=true)(hC:φ (w.drewN 1))
  (h:cM P l.toArray (fun a' w'=>wpList P l.toArray Q (l.drop n) a' w') l s φ a (w.drewN 1)):(Code.region id l.toArray true).wp P Q a w:=by
 simp only[Region.mZ,pF,qZ] at hB;obtain⟨⟨⟨⟨hsel,hn⟩,hs⟩,hc⟩,hlex⟩:=hB
 have inv0:HeadInv .any l.toArray n (Array.replicate l.toArray.size false):=
  ⟨bp,fun j oj _ hl=>Zb,fun t _ ht=>getD_in (by simpa using ht) (getD_replicate_false _ _)⟩
 have H:=dW (md:=.any) (Lq:=fun a' w'=>wpList P l.toArray Q (l.drop n) a' w') hsel hs hc hn n s φ _ a _ hC inv0 hlex lD;refine wp_region_any hm ?_;have hdl:(l.drop n).length=l.toArray.size-n:=bp
 have:=jk (Q':=Q) (g:=l.toArray.size-n) (fun listed a' w' hL=>by
  have:=wpAny_of_seq (md:=.any) (Q':=Q) (l.drop n) n listed a' w' (fun j=>by simp[List.getElem?_drop]) (by rw[hdl];exact hL.1) hL.2;rwa [hdl] at this) _ _ _ _ H
 rw[show n+(l.toArray.size-n)=l.toArray.size by omega] at this;exact this
theorem aV{φ:World->Prop}{R:Act->World->Prop}{l:List Oper}{i:Nat}{s:lI}{a:Act}{w:World}{o:Oper}(ho:l[i]?=some o)
  (h:Nonempty (Held φ)->wpQuiet P ops (fun W=>∃x:Held φ,W=x.1) (fun a'=>cM P ops R l s φ a' w) [o] a):cM P ops R l (.quiet i s) φ a w:=by
 simp only[cM,ho];exact h
theorem aT{φ:World->Prop}{R:Act->World->Prop}{l:List Oper}{i:Nat}{s:lI}{a:Act}{w:World}{o:Oper}(ho:l[i]?=some o)
  (h:wpList P ops (QN fun a' w'=>∃φ':World->Prop,(∀W,φ' W->φ W)/\φ' w'/\cM P ops R l s φ' a' w') [o] a w):cM P ops R l (.one i s) φ a w:=by
 simp only[cM,pO,ho];exact h
theorem eD{φ:World->Prop}{R:Act->World->Prop}{l:List Oper}{i j:Nat}{s t:lI}{a:Act}{w:World}{o o':Oper}(ho:l[i]?=some o)(ho':l[j]?=some o')
  (h1:wpList P ops (QN fun a' w'=>∃φ':World->Prop,(∀W,φ' W->φ W)/\φ' w'/\cM P ops R l s φ' a' w') [o] a w)
  (h2:wpList P ops (QN fun a' w'=>∃φ':World->Prop,(∀W,φ' W->φ W)/\φ' w'/\cM P ops R l t φ' a' w') [o'] a w):cM P ops R l (.two i j s t) φ a w:=by
 simp only[cM,pO,ho,ho'];exact⟨h1,h2⟩
theorem uZ{φ:World->Prop}{R:Act->World->Prop}{l:List Oper}{i j k:Nat}{s t u:lI}{a:Act}{w:World}{o o' o'':Oper}(ho:l[i]?=some o)(ho':l[j]?=some o')(ho'':l[k]?=some o'')
  (h1:wpList P ops (QN fun a' w'=>∃φ':World->Prop,(∀W,φ' W->φ W)/\φ' w'/\cM P ops R l s φ' a' w') [o] a w)
  (h2:wpList P ops (QN fun a' w'=>∃φ':World->Prop,(∀W,φ' W->φ W)/\φ' w'/\cM P ops R l t φ' a' w') [o'] a w)
  (h3:wpList P ops (QN fun a' w'=>∃φ':World->Prop,(∀W,φ' W->φ W)/\φ' w'/\cM P ops R l u φ' a' w') [o''] a w):cM P ops R l (.three i j k s t u) φ a w:=by
 simp only[cM,pO,ho,ho',ho''];exact⟨h1,h2,h3⟩
theorem bh{φ:World->Prop}{R:Act->World->Prop}{l:List Oper}{a:Act}{w:World}(h:R a w):cM P ops R l .done φ a w:=h
theorem aJ{φ:World->Prop}{K:(World->Prop)->Act->World->Prop}{a:Act}{w:World}(φ':World->Prop)(h1:∀W,φ' W->φ W)(h2:φ' w)(h3:K φ' a w):
  QN (fun a' w'=>∃φ':World->Prop,(∀W,φ' W->φ W)/\φ' w'/\K φ' a' w') .normal a w:=⟨φ',h1,h2,h3⟩
end
def From(S:Nat->Prop)(W:World):World->Prop:=fun W'=>Turns S W W'
theorem From.cell{S:Nat->Prop}{W:World}(x:Held (From S W)){b i:Nat}{v:Value}(hb:¬S b)(h:W.cell? ⟨b,i,none⟩=some v):x.1.cell? ⟨b,i,none⟩=some v:=by
 rw[World.cell?_of_block (w:=W) (a:=⟨b,i,none⟩) (x.2.block b hb (Ae W ⟨b,i,none⟩ h))];exact h
structure RG(b:Nat)(W1:World)(L:List (Nat×Array Value×TypeId))(W:World):Prop where
 turn:Turns (·=b) W1 W
 blocks:∀x∈L,W1.heap.size<=x.1/\W.heap[x.1]?=some (.cells x.2.1 x.2.2 (0,0))
theorem RG.start(b:Nat)(W1:World):RG b W1 [] (W1.drewN 1):=⟨(Turns.refl _ _).drewN 1,fun _ h=>absurd h bp⟩
theorem RG.alloc{b:Nat}{W1 W:World}{L:List (Nat×Array Value×TypeId)}(h:RG b W1 L W)(cs:Array Value)(t:TypeId):RG b W1 ((W.heap.size,cs,t)::L) (W.alloc (.cells cs t)):=
 ⟨h.turn.alloc _,fun x hx=>by
  rcases kD.1 hx with rfl|hx
  ·exact⟨h.turn.size,aW W _ rfl⟩
  ·exact⟨(h.blocks x hx).1,bG _ (h.blocks x hx).2⟩⟩
theorem RG.take{b:Nat}{W1 W W':World}{L:List (Nat×Array Value×TypeId)}(h:RG b W1 L W)(hb:b<W1.heap.size)(ht:Turns (·=b) W W'):RG b W1 L W':=
 ⟨h.turn.trans ht,fun x hx=>⟨(h.blocks x hx).1,(ht.block x.1 (by have:=(h.blocks x hx).1;show ¬x.1=b;omega) (aC (h.blocks x hx).2)).trans (h.blocks x hx).2⟩⟩
theorem RG.tail{b:Nat}{W1 W:World}{x:Nat×Array Value×TypeId}{L:List (Nat×Array Value×TypeId)}(h:RG b W1 (x::L) W):RG b W1 L W:=⟨h.turn,fun y hy=>h.blocks y (List.mem_cons_of_mem _ hy)⟩
theorem RG.cell{b:Nat}{W1:World}{L:List (Nat×Array Value×TypeId)}(x:Held (RG b W1 L))(l:Nat)(cs:Array Value)(t:TypeId)(hm:(l,cs,t)∈L){i:Nat}{v:Value}(hi:cs[i]?=some v):x.1.cell? ⟨l,i,none⟩=some v:=
 (aN (x.2.blocks _ hm).2 i).trans hi
theorem RG.old{b:Nat}{W1:World}{L:List (Nat×Array Value×TypeId)}(x:Held (RG b W1 L)){k i:Nat}{v:Value}(hb:k≠b)(h:W1.cell? ⟨k,i,none⟩=some v):x.1.cell? ⟨k,i,none⟩=some v:=by
 rw[World.cell?_of_block (w:=W1) (a:=⟨k,i,none⟩) (x.2.turn.block k hb (Ae W1 ⟨k,i,none⟩ h))];exact h
theorem RG.block{b:Nat}{W1 W:World}{L:List (Nat×Array Value×TypeId)}(h:RG b W1 L W){k:Nat}{o:Obj}(hb:k≠b)(ho:W1.heap[k]?=some o):W.heap[k]?=some o:=(h.turn.block k hb (aC ho)).trans ho
theorem RG.store{b:Nat}{W1 V:World}{F:Nat}{cs:Array Value}{t:TypeId}(h:RG b W1 [(F,cs,t)] V)(i:Nat)(v:Value):RG b W1 [(F,cs.setIfInBounds i v,t)] (V.setCell ⟨F,i,none⟩ v):=
 ⟨h.turn.setCell_new _ _ (h.blocks (F,cs,t) bp).1,fun x hx=>by
  obtain rfl:=mL.1 hx;exact⟨(h.blocks (F,cs,t) bp).1,heap_setCell_same V F i cs t v (h.blocks (F,cs,t) bp).2⟩⟩
theorem RG.sub{b:Nat}{W1 W:World}{L L':List (Nat×Array Value×TypeId)}(h:RG b W1 L W)(hs:∀x∈L',x∈L):RG b W1 L' W:=⟨h.turn,fun y hy=>h.blocks y (hs y hy)⟩
theorem RG.refl(b:Nat)(W1:World):RG b W1 [] W1:=⟨Turns.refl _ _,fun _ h=>absurd h bp⟩
theorem RG.tU{b:Nat}{W1 V:World}{F:Nat}{x0 x1 x2 x3 x4 x5 x6 x7:Value}{t:TypeId}(h:RG b W1 [(F,#[x0,x1,x2,x3,x4,x5,x6,x7],t)] V)(y0 y1 y2 y3 y4 y5 y6 y7:Value):
  RG b W1 [(F,#[y0,y1,y2,y3,y4,y5,y6,y7],t)] ((((((((V.setCell ⟨F,0,none⟩ y0).setCell ⟨F,1,none⟩ y1).setCell ⟨F,2,none⟩ y2).setCell ⟨F,3,none⟩ y3).setCell ⟨F,4,none⟩ y4).setCell ⟨F,5,none⟩ y5).setCell ⟨F,6,none⟩ y6).setCell ⟨F,7,none⟩ y7):=by
 have h0:RG b W1 [(F,#[y0,x1,x2,x3,x4,x5,x6,x7],t)] _:=h.store 0 y0;have h1:RG b W1 [(F,#[y0,y1,x2,x3,x4,x5,x6,x7],t)] _:=h0.store 1 y1;have h2:RG b W1 [(F,#[y0,y1,y2,x3,x4,x5,x6,x7],t)] _:=h1.store 2 y2;have h3:RG b W1 [(F,#[y0,y1,y2,y3,x4,x5,x6,x7],t)] _:=h2.store 3 y3;have h4:RG b W1 [(F,#[y0,y1,y2,y3,y4,x5,x6,x7],t)] _:=h3.store 4 y4;have h5:RG b W1 [(F,#[y0,y1,y2,y3,y4,y5,x6,x7],t)] _:=h4.store 5 y5;have h6:RG b W1 [(F,#[y0,y1,y2,y3,y4,y5,y6,x7],t)] _:=h5.store 6 y6;exact h6.store 7 y7
theorem planX{P:Program}{id:Nat}{Q:Exit->Act->World->Prop}{a:Act}{l:List Oper}(w:World)(n:Nat)(s:lI)(hm:P.follows .mixedOrders=true)(hB:Region.mZ .any l.toArray n s=true)(h:∀wq,Hid (Below w.heap.size w wq)->cM P l.toArray (fun a' w'=>wpList P l.toArray Q (l.drop n) a' w') l s (BL w) a wq):(Code.region id l.toArray true).wp P Q a w:=aZ n s _ hm hB (aI (Below.refl _ _) 1) (h _ (aI (Below.refl _ _) 1))
theorem fE{G H:Prop}(k:H)(h:H->G:=by
  intro zk;refine aV rfl ?_;intro hne;go_big_quiet_step (fail);refine wpQuiet_nil ?_;clear hne;exact zk):G:=h k
theorem xB(fs:List ah.cD)(s:ByteArray)(v:Value)(S:Nat->Prop)(w:World)(hv:dh S w v fs):
  Calls Tryz.prog 36 #[v,.string s] w fun e w'=>e=.returned (.int .i64 (ah.AQ fs s))/\w=w':=by
 have HV:=hid hv;obtain⟨a,cap,rfl,hok,hcap,hmax⟩:=hv.form;clear hv;go_enter Tryz.func36,Tryz.ntmps36;go_wp2;go_loop [5] (fun i=>∃k:Nat,k<=fs.length/\i=.int .i64 k/\Hid (∀j (h:j<fs.length),j<k->decide (fs[j].name=s)=false)) (fun i=>fs.length-(intOf i).toNat);case atStart=>exact⟨0,aB,rfl,hid (fun _ _ h=>absurd h aB)⟩
 case round=>
  obtain⟨k,hk,rfl,hpre⟩:=hrel;by_cases hlt:k<fs.length
  ·obtain⟨-, -,c0, -⟩:=HV.out.at hlt
   have hk0:(0:Int)<=k:=aB
   have hk1:(k:Int)<fs.length:=aB
   by_cases he:fs[k].name=s
   ·have HA:Hid (ah.AQ fs s=(k:Int)):=hid (by
     have:=ah.mh (p:=fun f:ah.cD=>decide (f.name=s)) (i:=0) hlt hpre.out (decide_eq_true he)
     rw[Nat.zero_add] at this
     exact this)
    have ht:=TW he;generalize fs[k].name=nm at*;clear he;go_wp2;go_ret;exact⟨fV HA.out.symm,rfl⟩
   ·have HA:Hid (∀j (h:j<fs.length),j<k+1->decide (fs[j].name=s)=false):=hid (fun j hj hjk=>by
     by_cases e:j=k
     ·subst e;exact decide_eq_false he
     ·exact hpre.out j hj aB)
    have ht:=TX he;generalize fs[k].name=nm at*;clear he;go_wp2;go_round;case rel=>exact⟨k+1,aB,by go_num,HA⟩
    simp[intOf];omega
  ·have HA:Hid (ah.AQ fs s= -1):=hid (ah.lm (fun j hj=>hpre.out j hj aB))
   go_wp2;go_ret;exact⟨fV HA.out.symm,rfl⟩
theorem Ke{p:Prop}(h:p:=by
  have HN':=hid (HN.out (by rw[HC.out];rfl))
  go_wp2
  go_round
  case rel=>exact⟨j+1,aB,by go_num,HN'⟩
  simp[intOf]
  omega):p:=h
theorem GZ(k:ah.dZ)(us:List Value)(S:Nat->Prop)(w:World)(hv:AU S w us k)(cs:Array Value)(hcs:cs=us.toArray):
  Calls Tryz.prog 35 #[.agg cs] w fun e w'=>e=.returned (.int .i64 (ah.J8 k.aG))/\BL w w':=by
 obtain⟨uf,rfl,hf⟩:=hv;subst hcs;obtain⟨a,cap,rfl,hok,hcap,hmax⟩:=hf.form;have hF:dh S (w.alloc (.cells #[.string k.name,.int .i64 k.lo,.int .i64 k.hi,.slice a k.aG.length cap] 49)) (.slice a k.aG.length cap) k.aG:=dh.keep hf (aD.below (aF.alloc aH _));have HF:=hid hF;have vf:Hid (BL w (w.alloc (.cells #[.string k.name,.int .i64 k.lo,.int .i64 k.hi,.slice a k.aG.length cap] 49))):=hid (aF.alloc aH _);simp only[kH];clear hf hF;go_enter Tryz.func35,Tryz.ntmps35;go_wp2;go_loop [3] (fun i=>∃j:Nat,j<=k.aG.length/\i=.int .i64 j/\Hid (∀m (h:m<k.aG.length),m<j->ah.qJ k.aG[m]=false)) (fun i=>k.aG.length-(intOf i).toNat);case atStart=>exact⟨0,aB,rfl,hid (fun _ _ h=>absurd h aB)⟩
 case round=>
  obtain⟨j,hj,rfl,hpre⟩:=hrel;by_cases hlt:j<k.aG.length
  ·obtain⟨-, -, -, -, -,c3, -⟩:=HF.out.at hlt
   have hk0:(0:Int)<=j:=aB
   have hk1:(j:Int)<k.aG.length:=aB
   have HY:Hid (ah.qJ k.aG[j]=true->ah.J8 k.aG=(j:Int)):=hid (fun he=>by
    have:=ah.mh (i:=0) hlt hpre.out he;rw[Nat.zero_add] at this;exact this)
   have HN:Hid (ah.qJ k.aG[j]=false->∀m (h:m<k.aG.length),m<j+1->ah.qJ k.aG[m]=false):=hid (fun he m hm hmj=>by
    by_cases e:m=j
    ·subst e;exact he
    ·exact hpre.out m hm aB)
   have HC:Hid (ah.qJ k.aG[j]=(decide (k.aG[j].kind≠0)&&decide (k.aG[j].kind≠1)&&decide (k.aG[j].kind≠6)&&decide (k.aG[j].kind≠7))):=hid rfl;generalize ah.qJ k.aG[j]=cb at*;generalize k.aG[j].kind=kd at*;by_cases h0:kd=0
   ·subst h0
    exact Ke
   ·by_cases h1:kd=1
    ·subst h1
     exact Ke
    ·by_cases h6:kd=6
     ·subst h6
      exact Ke
     ·by_cases h7:kd=7
      ·subst h7
       exact Ke
      ·have HY':=hid (HY.out (by rw[HC.out];simp[h0,h1,h6,h7]))
       have g0:=GL h0;have g1:=GL h1;have g6:=GL h6;have g7:=GL h7;clear h0 h1 h6 h7;go_wp2;go_ret;exact⟨fV HY'.out.symm,vf.out⟩
  ·have HA:Hid (ah.J8 k.aG= -1):=hid (ah.lm (fun m hm=>hpre.out m hm aB))
   go_wp2;go_ret;exact⟨fV HA.out.symm,vf.out⟩
end Go.Proofs.YtibacilhkciihaaGreatDoor
