/- Part 3 of the walks and plain laws that the proof needs (packed). -/
import Derived.Test.YteiakkfdchnddaaGreatDoorQ1
import Derived.Test.YteiakkfdchnddaaGreatDoorQ2
set_option linter.all false
set_option maxRecDepth 100000
set_option maxHeartbeats 8000000
namespace Go.Proofs.YteiakkfdchnddaaGreatDoor
open Go.RowKit
abbrev gP(S:Nat->Prop):=gQ (fun _ u (x:ByteArray)=>u=.string x) S
theorem gP.keep{S w w' v xs}(h:gP S w v xs)(hk:aB S w w'):gP S w' v xs:=gQ.keep h hk fun _ _ h=>h
theorem gP.mono{S S' w v xs}(h:gP S w v xs)(hS:∀b,b<w.heap.size->S b->S' b):gP S' w v xs:=gQ.mono h hS fun _ _ h=>h
theorem Ki:fG (fun _ _ u (x:ByteArray)=>u=.string x):=⟨fun h _=>h,fun h _=>h⟩
def cV(f:ah.dh)(uw ug:Value):List Value:=[.string f.name,.string f.of,.string f.up,.int .i64 f.kind,.int .i64 f.lo,.int .i64 f.hi,uw,ug]
def jX(S:Nat->Prop)(w:World)(us:List Value)(f:ah.dh):Prop:=∃uw ug,us=cV f uw ug/\gP S w uw f.dc/\cH S w ug f.bX
theorem bg:cD jX:=⟨fun⟨uw,ug,h1,h2,h3⟩ hk=>⟨uw,ug,h1,h2.keep hk,h3.keep hk⟩,fun⟨uw,ug,h1,h2,h3⟩ hS=>⟨uw,ug,h1,h2.mono hS,h3.mono hS⟩⟩
abbrev dJ(S:Nat->Prop):=dO 8 (jX S) S
theorem dJ.keep{S w w' v xs}(h:dJ S w v xs)(hk:aB S w w'):dJ S w' v xs:=dO.keep bg h hk
theorem dJ.mono{S S' w v xs}(h:dJ S w v xs)(hS:∀b,b<w.heap.size->S b->S' b):dJ S' w v xs:=dO.mono aC bg h hS
def lU(k:ah.eZ)(uf:Value):List Value:=[.string k.name,.int .i64 k.lo,.int .i64 k.hi,uf]
def DF(S:Nat->Prop)(w:World)(us:List Value)(k:ah.eZ):Prop:=∃uf,us=lU k uf/\dJ S w uf k.aA
theorem cT:cD DF:=⟨fun⟨uf,h1,h2⟩ hk=>⟨uf,h1,dJ.keep h2 hk⟩,fun⟨uf,h1,h2⟩ hS=>⟨uf,h1,dJ.mono h2 hS⟩⟩
abbrev gJ(S:Nat->Prop):=dO 4 (DF S) S
theorem gJ.keep{S w w' v xs}(h:gJ S w v xs)(hk:aB S w w'):gJ S w' v xs:=dO.keep cT h hk
theorem gJ.mono{S S' w v xs}(h:gJ S w v xs)(hS:∀b,b<w.heap.size->S b->S' b):gJ S' w v xs:=dO.mono aC cT h hS
def OE(_:Nat->Prop)(_:World)(us:List Value)(m:Int×Int):Prop:=us=[.int .i64 m.1,.int .i64 m.2]
theorem eA:cD OE:=⟨fun h _=>h,fun h _=>h⟩
abbrev Ed(S:Nat->Prop):=dO 2 (OE S) S
def acr(S:Nat->Prop)(w:World)(us:List Value)(x:ah.Gv):Prop:=∃u1 u2,us=[.string x.name,u1,u2]/\gP S w u1 x.dM/\Ed S w u2 x.jd
theorem dn:cD acr:=⟨fun⟨u1,u2,h1,h2,h3⟩ hk=>⟨u1,u2,h1,h2.keep hk,dO.keep eA h3 hk⟩,fun⟨u1,u2,h1,h2,h3⟩ hS=>⟨u1,u2,h1,h2.mono hS,dO.mono aC eA h3 hS⟩⟩
abbrev ux(S:Nat->Prop):=dO 3 (acr S) S
def XS(_:Nat->Prop)(_:World)(us:List Value)(r:ah.xX):Prop:=us=[.string r.name,.string r.kind,.string r.a,.string r.b,.int .i64 r.n]
theorem eT:cD XS:=⟨fun h _=>h,fun h _=>h⟩
abbrev vY(S:Nat->Prop):=dO 5 (XS S) S
def fA(S:Nat->Prop)(w:World)(v:Value)(x:ah.bF):Prop:=
 ∃uk ul ur,v=.agg #[.int .i64 x.aI,uk,ul,ur]/\gJ S w uk x.ai/\ux S w ul x.aN/\vY S w ur x.aO
theorem fA.keep{S w w' v x}(h:fA S w v x)(hk:aB S w w'):fA S w' v x:=by
 obtain⟨uk,ul,ur,h1,h2,h3,h4⟩:=h;exact⟨uk,ul,ur,h1,h2.keep hk,dO.keep dn h3 hk,dO.keep eT h4 hk⟩
theorem fA.mono{S S' w v x}(h:fA S w v x)(hS:∀b,b<w.heap.size->S b->S' b):fA S' w v x:=by
 obtain⟨uk,ul,ur,h1,h2,h3,h4⟩:=h;exact⟨uk,ul,ur,h1,h2.mono hS,dO.mono aC dn h3 hS,dO.mono aC eT h4 hS⟩
theorem dJ.at{S:Nat->Prop}{w:World}{a:Option Addr}{n cap:Nat}{fs:List ah.dh}(h:dJ S w (.slice a n cap) fs){j:Nat}(hj:j<fs.length):
  bD a<w.heap.size/\S (bD a)/\w.cell? ⟨bD a,bJ a+j*8,none⟩=some (.string fs[j].name)/\w.cell? ⟨bD a,bJ a+j*8+1,none⟩=some (.string fs[j].of)/\w.cell? ⟨bD a,bJ a+j*8+2,none⟩=some (.string fs[j].up)/\
   w.cell? ⟨bD a,bJ a+j*8+3,none⟩=some (.int .i64 fs[j].kind)/\w.cell? ⟨bD a,bJ a+j*8+4,none⟩=some (.int .i64 fs[j].lo)/\w.cell? ⟨bD a,bJ a+j*8+5,none⟩=some (.int .i64 fs[j].hi)/\
   ∃uw ug,w.cell? ⟨bD a,bJ a+j*8+6,none⟩=some uw/\w.cell? ⟨bD a,bJ a+j*8+7,none⟩=some ug/\gP S w uw fs[j].dc/\cH S w ug fs[j].bX:=by
 obtain⟨h1,us,h2,h3,uw,ug,rfl,h4,h5⟩:=dO.at h hj;exact⟨xN w ⟨bD a,bJ a+j*8+0,none⟩ (h3 0 _ rfl),h1,h3 0 _ rfl,h3 1 _ rfl,h3 2 _ rfl,h3 3 _ rfl,h3 4 _ rfl,h3 5 _ rfl,uw,ug,h3 6 _ rfl,h3 7 _ rfl,h4,h5⟩
theorem gJ.at{S:Nat->Prop}{w:World}{a:Option Addr}{n cap:Nat}{ks:List ah.eZ}(h:gJ S w (.slice a n cap) ks){j:Nat}(hj:j<ks.length):
  bD a<w.heap.size/\S (bD a)/\w.cell? ⟨bD a,bJ a+j*4,none⟩=some (.string ks[j].name)/\w.cell? ⟨bD a,bJ a+j*4+1,none⟩=some (.int .i64 ks[j].lo)/\w.cell? ⟨bD a,bJ a+j*4+2,none⟩=some (.int .i64 ks[j].hi)/\
   ∃uf,w.cell? ⟨bD a,bJ a+j*4+3,none⟩=some uf/\dJ S w uf ks[j].aA:=by
 obtain⟨h1,us,h2,h3,uf,rfl,h4⟩:=dO.at h hj;exact⟨xN w ⟨bD a,bJ a+j*4+0,none⟩ (h3 0 _ rfl),h1,h3 0 _ rfl,h3 1 _ rfl,h3 2 _ rfl,uf,h3 3 _ rfl,h4⟩
theorem ux.at{S:Nat->Prop}{w:World}{a:Option Addr}{n cap:Nat}{ks:List ah.Gv}(h:ux S w (.slice a n cap) ks){j:Nat}(hj:j<ks.length):
  bD a<w.heap.size/\S (bD a)/\w.cell? ⟨bD a,bJ a+j*3,none⟩=some (.string ks[j].name)/\
   ∃u1 u2,w.cell? ⟨bD a,bJ a+j*3+1,none⟩=some u1/\w.cell? ⟨bD a,bJ a+j*3+2,none⟩=some u2/\gP S w u1 ks[j].dM/\Ed S w u2 ks[j].jd:=by
 obtain⟨h1,us,h2,h3,u1,u2,rfl,h4,h5⟩:=dO.at h hj;exact⟨xN w ⟨bD a,bJ a+j*3+0,none⟩ (h3 0 _ rfl),h1,h3 0 _ rfl,u1,u2,h3 1 _ rfl,h3 2 _ rfl,h4,h5⟩
theorem vY.at{S:Nat->Prop}{w:World}{a:Option Addr}{n cap:Nat}{ks:List ah.xX}(h:vY S w (.slice a n cap) ks){j:Nat}(hj:j<ks.length):
  bD a<w.heap.size/\S (bD a)/\w.cell? ⟨bD a,bJ a+j*5,none⟩=some (.string ks[j].name)/\w.cell? ⟨bD a,bJ a+j*5+1,none⟩=some (.string ks[j].kind)/\w.cell? ⟨bD a,bJ a+j*5+2,none⟩=some (.string ks[j].a)/\w.cell? ⟨bD a,bJ a+j*5+3,none⟩=some (.string ks[j].b)/\w.cell? ⟨bD a,bJ a+j*5+4,none⟩=some (.int .i64 ks[j].n):=by
 obtain⟨h1,us,h2,h3,rfl⟩:=dO.at h hj;exact⟨xN w ⟨bD a,bJ a+j*5+0,none⟩ (h3 0 _ rfl),h1,h3 0 _ rfl,h3 1 _ rfl,h3 2 _ rfl,h3 3 _ rfl,h3 4 _ rfl⟩
theorem Ed.at{S:Nat->Prop}{w:World}{a:Option Addr}{n cap:Nat}{ks:List (Int×Int)}(h:Ed S w (.slice a n cap) ks){j:Nat}(hj:j<ks.length):
  bD a<w.heap.size/\S (bD a)/\w.cell? ⟨bD a,bJ a+j*2,none⟩=some (.int .i64 ks[j].1)/\w.cell? ⟨bD a,bJ a+j*2+1,none⟩=some (.int .i64 ks[j].2):=by
 obtain⟨h1,us,h2,h3,rfl⟩:=dO.at h hj;exact⟨xN w ⟨bD a,bJ a+j*2+0,none⟩ (h3 0 _ rfl),h1,h3 0 _ rfl,h3 1 _ rfl⟩
theorem str_inj{a b:ByteArray}(h:a.toList=b.toList):a=b:=by
 rw[ByteArray.toList_eq,ByteArray.toList_eq] at h;exact ByteArray.ext (Array.toList_inj.1 h)
theorem XT{a b:ByteArray}(h:a=b):(a.toList==b.toList)=true:=by rw[h];simp
theorem XU{a b:ByteArray}(h:a≠b):(a.toList==b.toList)=false:=by
 simp only[beq_eq_false_iff_ne,ne_eq];exact fun e=>h (str_inj e)
theorem Kj{a b:ByteArray}:(a.toList==b.toList)=decide (a=b):=by
 by_cases h:a=b
 ·rw[XT h,decide_eq_true h]
 ·rw[XU h,decide_eq_false h]
def iB(w:World)(b N:Nat):Prop:=
 ∃vL L,∃i:Int,w.heap[b]?=some (.cells #[vL,.int .i64 i] 111 (0,0))/\cH (·<b) w vL L/\Fit L/\0<=i/\i<=N
theorem iB.keep{w w':World}{b N:Nat}(h:iB w b N)(hk:aB (·<=b) w w'):iB w' b N:=by
 obtain⟨vL,L,i,h1,h2,h3⟩:=h;exact⟨vL,L,i,(hk b aH (Array.getElem?_eq_some_iff.1 h1).1).trans h1,h2.keep (fun x hx hlt=>hk x aC hlt),h3⟩
theorem iB.mono{w:World}{b N N':Nat}(h:iB w b N)(hN:N<=N'):iB w b N':=by
 obtain⟨vL,L,i,h1,h2,h3,h4,h5⟩:=h;exact⟨vL,L,i,h1,h2,h3,h4,by omega⟩
theorem iB.lt{w:World}{b N:Nat}(h:iB w b N):b<w.heap.size:=by
 obtain⟨vL,L,i,h1,_⟩:=h;exact(Array.getElem?_eq_some_iff.1 h1).1
theorem Ee{P:Program}{f:FuncId}{args:Array Value}{w:World}{v:Value}(h:Calls P f args w fun e w'=>e=.returned v/\w=w'):Calls P f args w fun e w'=>e=.returned v/\∃n,w'=w.drewN n:=
 h.mono fun _ _ ⟨h1,h2⟩=>⟨h1,0,h2▸rfl⟩
def ae2(n:Int)(b N:Nat)(w:World)(e:Ending)(w':World):Prop:=
 ∃t:Int,e=.returned (.int .i64 t)/\0<=t/\t<n/\iB w' b (N+1)/\Turns (·=b) w w'/\w'.heap.size=w.heap.size
theorem bn(n:Int)(h1:1<=n)(h2:n<=1000000)(b N:Nat)(hN:N<=100000)(w:World)(hm:iB w b N):
  Calls Tryz.prog 38 #[.pointer (some ⟨b,0,none⟩),.int .i64 n] w (ae2 n b N w):=by
 obtain⟨vL,L,i,hb,hL,hF,h0,hi⟩:=hm;obtain⟨w1,hw1⟩:=aV (w.setCell ⟨b,1,none⟩ (.int .i64 (i+1)))
 have hb1:w1.heap[b]?=some (.cells #[vL,.int .i64 (i+1)] 111 (0,0)):=by
  rw[hw1];have:=heap_setCell_same w b 1 #[vL,.int .i64 i] 111 (.int .i64 (i+1)) hb;simpa using this
 have ht1:Turns (·=b) w w1:=by rw[hw1];exact(Turns.refl _ _).setCell _ _ rfl
 have hsz:w1.heap.size=w.heap.size:=by rw[hw1];simp[World.setCell]
 have hL1:cH (·<b) w1 vL L:=hL.keep (ht1.keep (fun x hx e=>by omega));have c0:w.cell? ⟨b,0,none⟩=some vL:=by simp[World.cell?,hb]
 have c1:w.cell? ⟨b,1,none⟩=some (.int .i64 i):=by simp[World.cell?,hb]
 have f1:w.frozen? ⟨b,1,none⟩=false:=by simp[World.frozen?,hb]
 have d0:w1.cell? ⟨b,0,none⟩=some vL:=by simp[World.cell?,hb1]
 have d1:w1.cell? ⟨b,1,none⟩=some (.int .i64 (i+1)):=by simp[World.cell?,hb1]
 have hr:=xV L (i+1-1).toNat n h1;have HM:Hid (iB (w1.drewN 1) b (N+1)):=hid ⟨vL,L,i+1,hb1,hL1,hF,by omega,by omega⟩;have HC:=fun(W:World) (h:cH (·<b) W vL L)=>Bc L hF vL (i+1-1) n (·<b) W h h1 (Int.le_trans h2 aC) aC;have HT:=hid ht1;have HS:=hid hsz;have HL:=hid hL1;have HC':=hid HC;clear hb1 ht1 hsz hL1 HC hL hb;have e1:(i+1-1)=i:=by omega
 generalize Q6 L (i+1-1).toNat n=t at*;obtain⟨hr1,AJ⟩:=hr;rw[e1] at HC';go_enter Tryz.func38,Tryz.ntmps38;go_wp2;rw[<-hw1];clear hw1;have HQ:=hid (fun nq=>Calls.quiet_of (Ee (HC'.out (w1.drewN nq) (HL.out.keep (aB.below (aG ay _))))));go_quiet ((exact HQ.out _));go_wp2;go_ret;exact⟨t,rfl,hr1,AJ,HM.out,HT.out.trans (Turns.aQ (aG ay _)),HS.out⟩
theorem dO.lit{α:Type}{n:Nat}{RR:(Nat->Prop)->World->List Value->α->Prop}(hR:cD RR){S:Nat->Prop}{W:World}{t:TypeId}(jB:List (List Value))(xs:List α)(hl:jB.length=xs.length)(hc:∀us∈jB,us.length=n)
  (hr:∀j (h1:j<jB.length) (h2:j<xs.length),RR S W jB[j] xs[j]){N m cap:Nat}(hN:N=W.heap.size)(hS:S N){cs:Array Value}(hcs:cs.toList=jB.flatten)(hm:m=xs.length)(hcap:cap=xs.length)(h0:xs.length<=1000000):
  dO n (RR S) S (W.alloc (.cells cs t)) (.slice (some ⟨N,0,none⟩) m cap) xs:=by
 subst hN hm hcap;refine⟨_,_,rfl,fun _=>⟨_,_,rfl⟩,aH,by unfold maxLen;omega,fun _=>hS,fun j hj=>⟨jB[j]' aC,hc _ (gY _),fun i u hi=>?_,hR.keep (hr j aC hj) (aB.below (ay.alloc aH _))⟩⟩
 have hi':i<n:=by
  have h6:=(List.getElem?_eq_some_iff.1 hi).1;rwa [hc _ (gY _)] at h6
 rw[gZ,ig,Nat.zero_add];have:=jL W cs t (j*n+i) u (by rw[hcs,qj jB j aC i hc hi'];exact hi);rwa [Nat.zero_add] at this
theorem rT{S T:Nat->Prop}{W:World}{g:Nat}{t:TypeId}{f:ah.dh}(h:W.heap[g]?=some (.cells (cV f (.slice none 0 0) (.slice none 0 0)).toArray t (0,0)))(h1:f.dc=[])(h2:f.bX=[])(hT:T g):
  dO 8 (jX S) T W (.slice (some ⟨g,0,none⟩) 1 1) [f]:=by
 refine⟨_,_,rfl,fun _=>⟨_,_,rfl⟩,aH,by unfold maxLen;simp,fun _=>hT,fun j hj=>?_⟩;obtain rfl:j=0:=by simpa using hj
 refine⟨cV f (.slice none 0 0) (.slice none 0 0),rfl,fun i u hi=>?_,⟨_,_,rfl,by simp only[List.getElem_cons_zero];rw[h1];exact gQ.nil _ _ _,by simp only[List.getElem_cons_zero];rw[h2];exact gQ.nil _ _ _⟩⟩;rw[gZ,ig,Nat.zero_mul];simp only[Nat.zero_add,Nat.add_zero];exact(aF h i).trans (by simpa using hi)
theorem aal{p:Prop}(h:p:=by
  intro u hu
  simp only[cV,kM,vE,or_false] at hu
  rcases hu with rfl|rfl|rfl|rfl|rfl|rfl|rfl|rfl<;>rfl):p:=h
theorem lV{S:Nat->Prop}{w:World}{us:List Value}{f:ah.dh}(h:jX S w us f):∀u∈us,u.oneCell'=true:=by
 obtain⟨uw,ug,rfl,h1,h2⟩:=h;obtain⟨a1,c1,rfl, -⟩:=h1.form;obtain⟨a2,c2,rfl, -⟩:=h2.form;exact aal
theorem Tryz.acs:jW Tryz.prog 22 3 1 8:=gE (z:=.int .i64 0) (by kernel_rfl) (by kernel_rfl) rfl aC aC
def R4(b N:Nat)(w:World)(e:Ending)(w':World):Prop:=
 ∃v l,e=.returned v/\ah.ez l/\dJ (w.heap.size<=·) w' v l/\iB w' b (N+20)/\Turns (·=b) w w'
theorem jo{S:Nat->Prop}{w:World}{f:ah.dh}(h1:f.dc=[])(h2:f.bX=[]):jX S w (cV f (.slice none 0 0) (.slice none 0 0)) f:=
 ⟨_,_,rfl,by rw[h1];exact gQ.nil _ _ _,by rw[h2];exact gQ.nil _ _ _⟩
theorem Ef{S:Nat->Prop}{W:World}{t:TypeId}{f:ah.dh}(h1:f.dc=[])(h2:f.bX=[]){N:Nat}(hN:N=W.heap.size)(hS:S N):
  dJ S (W.alloc (.cells (cV f (.slice none 0 0) (.slice none 0 0)).toArray t)) (.slice (some ⟨N,0,none⟩) 1 1) [f]:=
 dO.lit bg [cV f (.slice none 0 0) (.slice none 0 0)] [f] rfl (by simp[cV]) (fun j h _=>by
  match j,h with
  |0,_=>exact jo h1 h2) hN hS aZ rfl rfl aZ
theorem Eg{S:Nat->Prop}{W:World}{t:TypeId}{f g:ah.dh}(h1:f.dc=[])(h2:f.bX=[])(g1:g.dc=[])(g2:g.bX=[]){N:Nat}(hN:N=W.heap.size)(hS:S N):
  dJ S (W.alloc (.cells (cV f (.slice none 0 0) (.slice none 0 0)++cV g (.slice none 0 0) (.slice none 0 0)).toArray t)) (.slice (some ⟨N,0,none⟩) 2 2) [f,g]:=
 dO.lit bg [cV f (.slice none 0 0) (.slice none 0 0),cV g (.slice none 0 0) (.slice none 0 0)] [f,g] rfl (by simp[cV]) (fun j h _=>by
  match j,h with
  |0,_=>exact jo h1 h2
  |1,_=>exact jo g1 g2) hN hS aZ rfl rfl aZ
def ae3(b N n nW F:Nat)(w:World)(k:Nat)(wr:World):Prop:=
 ∃ag cg gs,wr.heap[F]?=some (.cells #[.string ah.Af,.string ah.nil,.string ah.nil,.int .i64 3,.int .i64 0,.int .i64 0,.slice (some ⟨nW,0,none⟩) n 3,.slice ag k cg] 92 (0,0))/\
  wr.heap[nW]?=some (.cells (ah.gU.map Value.string).toArray 9 (0,0))/\dr (fun x=>F<x) wr (.slice ag k cg) gs/\gs.length=k/\(∀g∈gs,0<=g/\g<=5)/\iB wr b (N+2+k)/\Turns (·=b) w wr
theorem Eh{S:Nat->Prop}{W:World}{n:Nat}{l:List ByteArray}{t:TypeId}(h:W.heap[n]?=some (.cells (l.map Value.string).toArray t (0,0)))(hS:S n){c m:Nat}(hc:c<=l.length)(hm:m=l.length)(hl:l.length<=1000):
  gP S W (.slice (some ⟨n,0,none⟩) c m) (l.take c):=by
 subst hm;have hlen:(l.take c).length=c:=by rw[OD];omega
 refine⟨some ⟨n,0,none⟩,l.length,by rw[hlen],fun _=>⟨_,_,rfl⟩,by rw[hlen];exact hc,by unfold maxLen;omega,fun _=>hS,fun j hj=>⟨.string (l.take c)[j],?_,rfl⟩⟩;rw[gZ,ig,Nat.zero_add];refine(aF h j).trans ?_;rw[List.getElem?_toArray,List.getElem?_map,kK aC];simp
theorem tA(S:Nat->Prop)(W:World)(t:TypeId)(x:Int){N:Nat}(hN:N=W.heap.size)(hS:S N):cH S (W.alloc (.cells #[.int .i64 x] t)) (.slice (some ⟨N,0,none⟩) 1 1) [x]:=by
 subst hN;refine⟨_,_,rfl,fun _=>⟨_,_,rfl⟩,aH,by unfold maxLen;simp,fun _=>hS,fun j hj=>?_⟩;obtain rfl:j=0:=by simpa using hj
 exact⟨_,by simpa using jL W #[.int .i64 x] t 0 _ rfl,rfl⟩
theorem R5(b N:Nat)(hN:N<=90000)(w:World)(hm:iB w b N):
  Calls Tryz.prog 64 #[.pointer (some ⟨b,0,none⟩)] w (R4 b N w):=by
 have HM:=hid hm;clear hm;go_enter Tryz.func64,Tryz.ntmps64;go_wp2_with fail;refine(bn 6 aC aC b N aC w HM.out).mono ?_;rintro e w1 ⟨t,rfl,h0,h6,hm1,ht1,hs1⟩;have Gw:=hid hm1;have Dc:=hid ht1;have xZ:=hid hs1;clear hm1 ht1 hs1 HM;rcases (show t=0\/t=1\/t=2\/t=3\/t=4\/t=5 by omega) with rfl|rfl|rfl|rfl|rfl|rfl
 ·go_wp2_with fail
  refine(bn 11 aC aC b (N+1) aC w1 Gw.out).mono ?_;rintro e w2 ⟨t,rfl,g0,g6,hm2,ht2,hs2⟩;have yc:=hid hm2;have qt:=hid (Dc.out.trans ht2);have AL:=hid (hs2.trans xZ.out);clear hm2 ht2 hs2 Gw Dc xZ h0 h6;go_wp2_with fail;refine(bn 20 aC aC b (N+2) aC w2 yc.out).mono ?_;rintro e w3 ⟨t',rfl,f0,f6,He,ht3,hs3⟩;have XV:=hid He;have Dd:=hid (qt.out.trans ht3);have Q8:=hid (hs3.trans AL.out);clear He ht3 hs3 yc qt AL;go_wp2;go_ret
  exact⟨_,[ah.Eb (t-5) (t-5+t')],rfl,.size _ _ ⟨by omega,by omega,by omega⟩,Ef (f:=ah.Eb (t-5) (t-5+t')) rfl rfl rfl (by have:=Q8.out;show _<=_;omega),
   (XV.out.mono aC).keep (aB.below (ay.alloc aH _)),Dd.out.trans (Turns.aQ (ay.alloc aH _))⟩
 ·go_wp2_with fail
  refine(bn 3 aC aC b (N+1) aC _ (Gw.out.keep (aB.below (ay.alloc aH _)))).mono ?_;rintro e w2 ⟨t,rfl,g0,g6,hm2,ht2,hs2⟩;obtain⟨n,rfl⟩:∃n:Nat,t=(n:Int):=⟨t.toNat,by omega⟩
  have HW2:Hid (w2.heap[w1.heap.size]?=some (.cells (ah.gU.map Value.string).toArray 9 (0,0))):=hid (by
   rw[ht2.block _ (by have:=Gw.out.lt;omega) aZ]
   exact JO w1 _)
  have qt:Hid (Turns (·=b) w w2):=hid (Dc.out.trans ((Turns.aQ (ay.alloc aH _)).trans ht2));have AL:Hid (w2.heap.size=w.heap.size+1):=hid (by rw[hs2,World.size_alloc,xZ.out]);have yc:=hid hm2;clear hm2 ht2 hs2;go_wp2;have hc1:1<=1+n:=by omega
  have hc3:1+n<=3:=by omega
  generalize 1+n=c at*;clear g0 g6;have hbF:b<w2.heap.size:=yc.out.lt;have hbW:b<w1.heap.size:=Gw.out.lt;have hsz:w1.heap.size<w2.heap.size:=by have:=xZ.out;have:=AL.out;omega
  go_loopw [6] (fun i wr=>∃k:Nat,k<=c/\i=.int .i64 k/\Hid (ae3 b N c w1.heap.size w2.heap.size w k wr)) (fun i _=>c-(intOf i).toNat)
  case atStart=>
   refine⟨0,by omega,rfl,hid ⟨none,0,[],JO w2 _,aY _ HW2.out,dr.nil _ _,rfl,by simp,(yc.out.mono aC).keep (aB.below (ay.alloc aH _)),qt.out.trans (Turns.aQ (ay.alloc aH _))⟩⟩
  case round=>
   obtain⟨k,hk,rfl,hR⟩:=hrel;obtain⟨ag,cg,gs,r1,r2,r3,r4,r5,r6,r7⟩:=hR.out;by_cases hlt:k<c
   ·obtain⟨fc,hfc⟩:=aV (#[.string ah.Af,.string ah.nil,.string ah.nil,.int .i64 3,.int .i64 0,.int .i64 0,.slice (some ⟨w1.heap.size,0,none⟩) c 3,.slice ag k cg]:Array Value)
    rw[<-hfc] at r1;have hφ:jm w2.heap.size fc 92 (wr.drewN 1):=r1;have HR:=hid (And.intro r1 (And.intro r2 (And.intro r3 (And.intro r4 (And.intro r5 (And.intro r6 r7))))));clear r1 r2 r3 r4 r5 r6 r7;have HFC:=hid hfc;go_wp2;refine fU 5 [(true,0),(true,1),(true,2),(false,3),(false,4)] (jm w2.heap.size fc 92) lN (by kernel_rfl) hφ ?_;intro hne;refine jc 3 qg ?_;simp only[List.take_succ_cons,List.take_zero];have hx0:∀x:Held (jm w2.heap.size fc 92),x.1.cell? ⟨w2.heap.size,7,none⟩=some (.slice ag k cg):=fun x=>(aF x.2 7).trans Ad;clear hfc;repeat (go_big_quiet_step (fail))
    refine fS ?_;clear hx0 hne;refine dW rfl ?_;go_wp2_with fail;refine(bn 5 aC aC b (N+2+k) aC _ (HR.out.2.2.2.2.2.1.keep (aB.below (aG ay _)))).mono ?_;rintro e w5 ⟨t,rfl,q0,q5,Kk,Ag,hs5⟩;have Gx:w5.heap[w2.heap.size]?=some (.cells fc 92 (0,0)):=(Ag.block w2.heap.size (show ¬w2.heap.size=b by omega) (aj HR.out.1)).trans HR.out.1;have h5W:=(Ag.block w1.heap.size (show ¬w1.heap.size=b by omega) (aj HR.out.2.1)).trans HR.out.2.1;have h5I:dr (fun x=>w2.heap.size<x) w5 (.slice ag k cg) gs:=bP.keep HR.out.2.2.1 ((Turns.aQ (S:=(·=b)) (aG ay 1)).trans Ag|>.keep (fun x hx e=>by omega));have R6:=HR.out.2.2.2.2.2.2.trans ((Turns.aQ (aG ay 1)).trans Ag);have H5:=hid (And.intro Gx (And.intro h5W (And.intro h5I (And.intro Kk R6))));obtain⟨hl,hg⟩:=And.intro HR.out.2.2.2.1 HR.out.2.2.2.2.1;have HG:=hid (And.intro hl hg);clear Kk Ag hs5 Gx h5W h5I R6 HR hl hg hR hφ;go_wp2;refine rO ⟨eO.of (φ:=jm w2.heap.size fc 92) H5.out.1,?_⟩;refine dW rfl ?_;go_wp2;refine rO ⟨eO.of (φ:=jm w2.heap.size fc 92) (aY _ H5.out.1),?_⟩;refine ko ?_;simp only[iW,iX];go_wp2_with (at_builtin;go_must (refine lQ rfl _ _ rfl Tryz.acs rfl H5.out.2.2.1 (ay.alloc aH _) rfl (tA mJ w5 _ t rfl trivial) (by have:=HG.out.1;omega) ?_));intro v' w6 hI6 xP;have e:(gs++[t]).length=k+1:=by simp[HG.out.1]
    obtain⟨R7,Q9,hv', -, -, -⟩:=(dr.sl hI6).form;rw[e] at hv';subst hv';obtain⟨Gx,h5W,h5I,Kk,R6⟩:=H5.out;have hne:∀x,x<=w2.heap.size->¬some x=(Value.slice ag k cg).ownBlock:=fun x hx e=>by have:=h5I.2 x e.symm;omega
    have MP:w6.heap[w2.heap.size]?=some (.cells fc 92 (0,0)):=(xP.block _ (hne _ aH) (aj (aY _ Gx))).trans (aY _ Gx);have h6W:=(xP.block _ (hne w1.heap.size aC) (aj (aY _ h5W))).trans (aY _ h5W);have h6m:iB w6 b (N+2+k+1):=(Kk.keep (aB.below (ay.alloc aH _))).keep (xP.keep (fun x hx e=>hne x aC e))
    have Ra:Turns (·=b) w w6:=(R6.alloc _).into xP (fun x hx e=>by
     have h9:=h5I.2 x e.symm;have:=AL.out;omega)
    have hfz:=bh MP 7;have hcl:=(aF MP 7).trans (show fc[7]?=some (.slice ag k cg) by rw[HFC.out];rfl);have h7F:(w6.setCell ⟨w2.heap.size,7,none⟩ (.slice R7 (k+1) Q9)).heap[w2.heap.size]?=some (.cells (fc.setIfInBounds 7 (.slice R7 (k+1) Q9)) 92 (0,0)):=heap_setCell_same _ _ _ _ _ _ MP;have WR:∀x,x≠w2.heap.size->(w6.setCell ⟨w2.heap.size,7,none⟩ (.slice R7 (k+1) Q9)).heap[x]?=w6.heap[x]?:=fun x hx=>nZ _ _ _ _ hx
    have H7:Hid (ae3 b N c w1.heap.size w2.heap.size w (k+1) (w6.setCell ⟨w2.heap.size,7,none⟩ (.slice R7 (k+1) Q9))):=hid (by
     refine⟨R7,Q9,gs++[t],h7F.trans Ad,(WR _ aC).trans h6W,?_,e,?_,?_,?_⟩
     ·refine bP.keep (bP.mono hI6 (S':=fun x=>w2.heap.size<x) (fun x _ hx=>?_)) (fun x hx _=>WR x aC)
      rcases hx with hx|hx
      ·exact hx.1
      ·have:=aj Gx;show _<_;omega
     ·intro g hg
      rcases List.mem_append.1 hg with hg|hg
      ·exact HG.out.2 g hg
      ·rw[nU.1 hg];omega
     ·exact h6m.keep (fun x hx _=>WR x aC)
     ·exact Ra.setCell_new _ _ (by have:=AL.out;show _<=w2.heap.size;omega))
    clear h7F WR Ra h6m h6W MP hne Gx h5W h5I Kk R6 hI6 xP H5 e;go_wp2;go_roundw;case rel=>exact⟨k+1,by omega,by go_num,H7⟩
    simp[intOf];omega
   ·have hkc:c=k:=by omega
    subst hkc;clear hlt hk;obtain⟨g,Q9,hag,hg1,hg2,hg3⟩:=r3.vM aC;injection hag with hag1 DH hag3;subst hag1 hag3;obtain⟨fc,hfc⟩:=aV (#[.string ah.Af,.string ah.nil,.string ah.nil,.int .i64 3,.int .i64 0,.int .i64 0,.slice (some ⟨w1.heap.size,0,none⟩) c 3,.slice (some ⟨g,0,none⟩) c cg]:Array Value);rw[<-hfc] at r1;have hφ:jm w2.heap.size fc 92 (wr.drewN 1):=r1;have HR:=hid (And.intro r1 (And.intro r2 (And.intro r3 (And.intro r4 (And.intro r5 (And.intro r6 r7))))));have rH:=hid hg3;clear r1 r2 r3 r4 r5 r6 r7 DH hg3;have HFC:=hid hfc;go_wp2;refine fU 9 [(true,0),(true,1),(true,2),(true,3),(true,6),(false,4),(false,5),(false,7),(false,8)] (jm w2.heap.size fc 92) lN (by kernel_rfl) hφ ?_;intro hne;have hx0:∀x:Held (jm w2.heap.size fc 92),x.1.cell? ⟨w2.heap.size,7,none⟩=some (.slice (some ⟨g,0,none⟩) c cg):=fun x=>(aF x.2 7).trans Ad;clear hfc;refine jc 4 qg ?_;simp only[List.take_succ_cons,List.take_zero];repeat (go_big_quiet_step (fail))
    refine fS ?_;refine oG rfl ?_;go_big_quiet_step (fail);refine fS ?_;clear hx0 hne;refine dW rfl ?_;go_wp2;refine rO ⟨eO.of (φ:=jm w2.heap.size fc 92) hφ,?_⟩;refine dW rfl ?_;go_wp2_with fail;refine(bn _ aC aC b (N+2+c) aC _ (HR.out.2.2.2.2.2.1.keep (aB.below (aG ay _)))).mono ?_;rintro e w5 ⟨t,rfl,q0,q5,Kk,Ag,hs5⟩;obtain⟨m,rfl⟩:∃m:Nat,t=(m:Int):=⟨t.toNat,by omega⟩;have ae4:m<c:=by omega
    have Gx:w5.heap[w2.heap.size]?=some (.cells fc 92 (0,0)):=(Ag.block w2.heap.size (show ¬w2.heap.size=b by omega) (aj HR.out.1)).trans HR.out.1;have H5:=hid (And.intro Gx (And.intro Kk (And.intro Ag hs5)));clear Kk Ag hs5 Gx hφ;go_wp2;refine rO ⟨eO.of (φ:=jm w2.heap.size fc 92) H5.out.1,?_⟩;refine dW rfl ?_;go_wp2_with fail;refine(bn 3 aC aC b (N+2+c+1) aC _ H5.out.2.1).mono ?_;rintro e w6 ⟨t,rfl,p0,p5,xQ,xP,hs6⟩;have Ra:=((Turns.aQ (S:=(·=b)) (aG (Below.refl _ wr) 1)).trans H5.out.2.2.1).trans xP;have MP:w6.heap[w2.heap.size]?=some (.cells fc 92 (0,0)):=(Ra.block w2.heap.size (show ¬w2.heap.size=b by omega) (aj HR.out.1)).trans HR.out.1;have h6W:=(Ra.block w1.heap.size (show ¬w1.heap.size=b by omega) (aj HR.out.2.1)).trans HR.out.2.1;have h6g:=Ra.block g (show ¬g=b by omega) hg2;have h6I:dr (fun x=>w2.heap.size<x) w6 (.slice (some ⟨g,0,none⟩) c cg) gs:=bP.keep HR.out.2.2.1 (Ra.keep (fun x hx e=>by omega));obtain⟨⟨x0,hx0⟩,hz0⟩:=rH.out m (by rw[HR.out.2.2.2.1];exact ae4);have hx6:w6.cell? ⟨g,m,none⟩=some (.int .i64 x0):=by rw[World.cell?_of_block (w:=wr) (a:=⟨g,m,none⟩) h6g];exact hx0
    have hz6:w6.frozen? ⟨g,m,none⟩=false:=by
     have:w6.frozen? ⟨g,m,none⟩=wr.frozen? ⟨g,m,none⟩:=by simp only[World.frozen?,h6g]
     rw[this];exact hz0
    have HT6:=hid (HR.out.2.2.2.2.2.2.trans Ra);have H6:=hid (And.intro MP (And.intro h6W (And.intro h6I xQ)));obtain⟨hl,hg⟩:=And.intro HR.out.2.2.2.1 HR.out.2.2.2.2.1;have HG:=hid (And.intro hl hg);clear xQ xP hs6 Ra MP h6W h6g h6I hl hg hR HR H5 rH hx0 hz0;go_wp2;refine rO ⟨eO.of (φ:=jm w2.heap.size fc 92) H6.out.1,?_⟩;refine dW rfl ?_;go_wp2;refine rO ⟨eO.of (φ:=jm w2.heap.size fc 92) H6.out.1,?_⟩;refine ko ?_;simp only[iW,iX];have hm0:(0:Int)<=m:=by omega
    have hm2:(m:Int)<c:=by omega
    have hsk:dI (some ⟨g,0,none⟩) c:=fun _=>⟨_,_,rfl⟩;have MP:=H6.out.1;rw[HFC.out] at MP;obtain⟨⟨y0,y1,y2,y3,y4,y5,y6,y7⟩, -⟩:=dY MP;clear MP;have hgF:¬g=w2.heap.size:=by omega
    have hgF2:¬w2.heap.size=g:=by omega
    have HK:∀x,x≠g->(w6.setCell ⟨g,m,none⟩ (.int .i64 (1+t))).heap[x]?=w6.heap[x]?:=fun x hx=>nZ _ _ _ _ hx
    have HP:Hid (R4 b N w (.returned (.slice (some ⟨w6.heap.size,0,none⟩) 1 1)) ((w6.setCell ⟨g,m,none⟩ (.int .i64 (1+t))).alloc (.cells (cV (ah.DB (ah.gU.take c) (gs.set m (1+t))) (.slice (some ⟨w1.heap.size,0,none⟩) c 3) (.slice (some ⟨g,0,none⟩) c cg)).toArray 92))):=hid (by
     obtain⟨k1,k2,k3,k4⟩:=H6.out
     have hI:=k3.set (HG.out.1).symm m (1+t)
     have hS:=AL.out
     have hzz:w.heap.size<=w6.heap.size:=by
      have h2:=aj k1;omega
     refine⟨_,[ah.DB (ah.gU.take c) (gs.set m (1+t))],rfl,.tag c _ hc1 hc3 (by rw[List.length_set];exact HG.out.1) (fun x hx=>?_) ?_,?_,?_,?_⟩
     ·rcases List.mem_or_eq_of_mem_set hx with hx|rfl
      ·exact HG.out.2 x hx
      ·omega
     ·refine ah.G8 _ (fun x hx=>?_) ⟨1+t,List.mem_set (by rw[HG.out.1];exact ae4) _,by omega⟩
      rcases List.mem_or_eq_of_mem_set hx with hx|rfl
      ·exact(HG.out.2 x hx).1
      ·omega
     ·refine dO.lit bg [cV (ah.DB (ah.gU.take c) (gs.set m (1+t))) (.slice (some ⟨w1.heap.size,0,none⟩) c 3) (.slice (some ⟨g,0,none⟩) c cg)] [_] rfl (by simp[cV]) (fun j h _=>?_) (by simp[World.setCell]) hzz aZ rfl rfl aZ
      match j,h with
      |0,_=>
       refine⟨_,_,rfl,?_,cH.mono (dr.sl hI) (fun x _ hx=>by have:w2.heap.size<x:=hx;show _<=x;omega)⟩
       have hW:=(HK w1.heap.size aC).trans k2
       exact Eh hW (by show _<=w1.heap.size;rw[xZ.out];exact aH) hc3 rfl qg
     ·exact((k4.mono aC).keep (fun x hx _=>HK x aC)).keep (aB.below (ay.alloc aH _))
     ·exact(HT6.out.setCell_new ⟨g,m,none⟩ _ (by show _<=g;omega)).alloc _)
    clear HK;go_wp2;go_ret;exact HP.out
 ·go_wp2_with fail
  refine(bn 400 aC aC b (N+1) aC w1 Gw.out).mono ?_;rintro e w2 ⟨t,rfl,g0,g6,hm2,ht2,hs2⟩;have yc:=hid hm2;have qt:=hid (Dc.out.trans ht2);have AL:=hid (hs2.trans xZ.out);clear hm2 ht2 hs2 Gw Dc xZ h0 h6;have hbF:b<w2.heap.size:=yc.out.lt;go_wp2;obtain⟨fc,hfc⟩:=aV (#[.string ah.pq,.string ah.nil,.string ah.nil,.int .i64 4,.int .i64 (t-200),.int .i64 0,.slice none 0 0,.slice none 0 0]:Array Value);have h3F:(w2.alloc (.cells fc 92)).heap[w2.heap.size]?=some (.cells fc 92 (0,0)):=JO w2 _;have h3m:iB (w2.alloc (.cells fc 92)) b (N+2):=yc.out.keep (aB.below (ay.alloc aH _));have h3T:Turns (·=b) w (w2.alloc (.cells fc 92)):=qt.out.alloc _;rw[show (#[.string {data:=#[98,111,114,110]},.string {data:=#[]},.string {data:=#[]},.int .i64 4,.int .i64 (t-200),.int .i64 0,.slice none 0 0,.slice none 0 0]:Array Value)=fc from hfc.symm];generalize w2.alloc (.cells fc 92)=w3 at*;have HFC:=hid hfc;have hφ:jm w2.heap.size fc 92 (w3.drewN 1):=h3F;have H3:=hid (And.intro h3F (And.intro h3m h3T));clear h3F h3m h3T;refine fU 4 [(true,0),(true,1),(true,2),(false,3)] (jm w2.heap.size fc 92) lN (by kernel_rfl) hφ ?_;intro hne;have hx0:∀x:Held (jm w2.heap.size fc 92),x.1.cell? ⟨w2.heap.size,4,none⟩=some (.int .i64 (t-200)):=fun x=>(aF x.2 4).trans Ad;clear hfc;refine jc 3 qg ?_;simp only[List.take_succ_cons,List.take_zero];repeat (go_big_quiet_step (fail))
  refine fS ?_;clear hx0 hne;refine dW rfl ?_;go_wp2_with fail;refine(bn 60 aC aC b (N+2) aC _ (H3.out.2.1.keep (aB.below (aG ay _)))).mono ?_;rintro e w4 ⟨t',rfl,q0,q5,R8,zq,hs4⟩;have WS:w4.heap[w2.heap.size]?=some (.cells fc 92 (0,0)):=(zq.block w2.heap.size (show ¬w2.heap.size=b by omega) (aj H3.out.1)).trans H3.out.1;have h4T:=(H3.out.2.2.drewN 1).trans zq;have H4:=hid (And.intro WS (And.intro R8 h4T));clear R8 zq hs4 WS h4T hφ H3;go_wp2;refine rO ⟨eO.of (φ:=jm w2.heap.size fc 92) H4.out.1,?_⟩;refine ko ?_;simp only[iW,iX];have WS:=H4.out.1;rw[HFC.out] at WS;obtain⟨⟨-, -, -, -, -,y5, -, -⟩,yz⟩:=dY WS;have yz5:=yz 5;have Gx:(w4.setCell ⟨w2.heap.size,5,none⟩ (.int .i64 (t-200+t'))).heap[w2.heap.size]?=some (.cells #[.string ah.pq,.string ah.nil,.string ah.nil,.int .i64 4,.int .i64 (t-200),.int .i64 (t-200+t'),.slice none 0 0,.slice none 0 0] 92 (0,0)):=heap_setCell_same w4 _ 5 _ _ _ WS;have h5m:iB (w4.setCell ⟨w2.heap.size,5,none⟩ (.int .i64 (t-200+t'))) b (N+3):=H4.out.2.1.keep (fun x hx _=>nZ _ _ _ _ (show x≠w2.heap.size by omega));have R6:=H4.out.2.2.setCell_new ⟨w2.heap.size,5,none⟩ (.int .i64 (t-200+t')) (by have:=AL.out;show _<=w2.heap.size;omega);have H5:=hid (And.intro Gx (And.intro h5m R6));clear Gx h5m R6 WS yz HFC H4;go_wp2;generalize w4.setCell ⟨w2.heap.size,5,none⟩ (.int .i64 (t-200+t'))=w5 at*;obtain⟨Kl,acu⟩:=aV (#[.string ah.pq,.string ah.nil,.string ah.nil,.int .i64 4,.int .i64 (t-200),.int .i64 (t-200+t'),.slice none 0 0,.slice none 0 0]:Array Value);obtain⟨Gx,h5m,R6⟩:=H5.out;rw[<-acu] at Gx;have hφ:jm w2.heap.size Kl 92 (w5.drewN 1):=Gx;have HFC:=hid acu;have H5':=hid (And.intro Gx (And.intro h5m R6));clear H5 Gx h5m R6 y5 yz5;refine fU 7 [(true,0),(true,1),(true,3),(false,2),(false,4),(false,5),(false,6)] (jm w2.heap.size Kl 92) lN (by kernel_rfl) hφ ?_;intro hne;have hx0:∀x:Held (jm w2.heap.size Kl 92),x.1.cell? ⟨w2.heap.size,0,none⟩=some (.string ah.pq):=fun x=>(aF x.2 0).trans Ad;have hx1:∀x:Held (jm w2.heap.size Kl 92),x.1.cell? ⟨w2.heap.size,1,none⟩=some (.string ah.nil):=fun x=>(aF x.2 1).trans Ad;have hx2:∀x:Held (jm w2.heap.size Kl 92),x.1.cell? ⟨w2.heap.size,2,none⟩=some (.string ah.nil):=fun x=>(aF x.2 2).trans Ad;have hx3:∀x:Held (jm w2.heap.size Kl 92),x.1.cell? ⟨w2.heap.size,3,none⟩=some (.int .i64 4):=fun x=>(aF x.2 3).trans Ad;have yd:∀x:Held (jm w2.heap.size Kl 92),x.1.cell? ⟨w2.heap.size,4,none⟩=some (.int .i64 (t-200)):=fun x=>(aF x.2 4).trans Ad;have hx5:∀x:Held (jm w2.heap.size Kl 92),x.1.cell? ⟨w2.heap.size,5,none⟩=some (.int .i64 (t-200+t')):=fun x=>(aF x.2 5).trans Ad;have hx6:∀x:Held (jm w2.heap.size Kl 92),x.1.cell? ⟨w2.heap.size,6,none⟩=some (.slice none 0 0):=fun x=>(aF x.2 6).trans Ad;have hx7:∀x:Held (jm w2.heap.size Kl 92),x.1.cell? ⟨w2.heap.size,7,none⟩=some (.slice none 0 0):=fun x=>(aF x.2 7).trans Ad;clear acu;refine jc 2 qg ?_;simp only[List.take_succ_cons,List.take_zero];repeat (go_big_quiet_step (fail))
  refine fS ?_;refine oG rfl ?_;go_big_quiet_step (fail);refine fS ?_;clear hx0 hx1 hx2 hx3 yd hx5 hx6 hx7 hne;refine dW rfl ?_;go_wp2_with fail;refine(bn 3 aC aC b (N+3) aC _ (H5'.out.2.1.keep (aB.below (aG ay _)))).mono ?_;rintro e w6 ⟨s,rfl,p0,p5,xQ,xP,hs6⟩;have MP:w6.heap[w2.heap.size]?=some (.cells Kl 92 (0,0)):=(xP.block w2.heap.size (show ¬w2.heap.size=b by omega) (aj H5'.out.1)).trans H5'.out.1;have Ra:=(H5'.out.2.2.drewN 1).trans xP;have H6:=hid (And.intro MP (And.intro xQ Ra));clear xQ xP hs6 MP Ra hφ H5';go_wp2;refine rO ⟨eO.of (φ:=jm w2.heap.size Kl 92) H6.out.1,?_⟩;refine dW rfl ?_;go_wp2_with fail;refine(bn 30 aC aC b (N+4) aC _ H6.out.2.1).mono ?_;rintro e w7 ⟨s',rfl,o0,o5,OG,rI,hs7⟩;have h7F:w7.heap[w2.heap.size]?=some (.cells Kl 92 (0,0)):=(rI.block w2.heap.size (show ¬w2.heap.size=b by omega) (aj H6.out.1)).trans H6.out.1;have h7T:=H6.out.2.2.trans rI;have H7:=hid (And.intro h7F (And.intro OG h7T));clear OG rI hs7 h7F h7T H6
  iterate 2
   go_wp2
   refine rO ⟨eO.of (φ:=jm w2.heap.size Kl 92) H7.out.1,?_⟩
   refine dW rfl ?_
  go_wp2;refine rO ⟨eO.of (φ:=jm w2.heap.size Kl 92) H7.out.1,?_⟩;refine ko ?_;simp only[iW,iX];go_wp2;go_ret
  exact⟨_,[ah.rQ (t-200) (t-200+t'),ah.um s (3+s')],rfl,.born _ _ _ _ ⟨by omega,by omega,by omega⟩ ⟨by omega,by omega,by omega⟩,Eg (f:=ah.rQ (t-200) (t-200+t')) (g:=ah.um s (3+s')) rfl rfl rfl rfl rfl (by have:=aj H7.out.1;have:=AL.out;show _<=_;omega),
   (H7.out.2.1.mono aC).keep (aB.below (ay.alloc aH _)),H7.out.2.2.alloc _⟩
 ·go_wp2_with fail
  refine(bn 3 aC aC b (N+1) aC w1 Gw.out).mono ?_;rintro e w2 ⟨t,rfl,g0,g6,hm2,ht2,hs2⟩;have yc:=hid hm2;have qt:=hid (Dc.out.trans ht2);have AL:=hid (hs2.trans xZ.out);clear hm2 ht2 hs2 Gw Dc xZ h0 h6;go_wp2_with fail;refine(bn 4 aC aC b (N+2) aC w2 yc.out).mono ?_;rintro e w3 ⟨t',rfl,f0,f6,He,ht3,hs3⟩;have XV:=hid He;have Dd:=hid (qt.out.trans ht3);have Q8:=hid (hs3.trans AL.out);clear He ht3 hs3 yc qt AL;go_wp2;go_ret
  exact⟨_,[ah.oJ t (t+t')],rfl,.state _ _ aC aC aC,Ef (f:=ah.oJ t (t+t')) rfl rfl rfl (by have:=Q8.out;show _<=_;omega),
   (XV.out.mono aC).keep (aB.below (ay.alloc aH _)),Dd.out.trans (Turns.aQ (ay.alloc aH _))⟩
 ·go_wp2_with fail
  refine(bn 5 aC aC b (N+1) aC w1 Gw.out).mono ?_;rintro e w2 ⟨t,rfl,g0,g6,hm2,ht2,hs2⟩;have yc:=hid hm2;have qt:=hid (Dc.out.trans ht2);have AL:=hid (hs2.trans xZ.out);clear hm2 ht2 hs2 Gw Dc xZ h0 h6;go_wp2_with fail;refine(bn 10 aC aC b (N+2) aC w2 yc.out).mono ?_;rintro e w3 ⟨t',rfl,f0,f6,He,ht3,hs3⟩;have XV:=hid He;have Dd:=hid (qt.out.trans ht3);have Q8:=hid (hs3.trans AL.out);clear He ht3 hs3 yc qt AL;go_wp2_with fail;refine(bn 5 aC aC b (N+3) aC w3 XV.out).mono ?_;rintro e w4 ⟨s,rfl,e0,e6,R8,zq,hs4⟩;have WT:=hid R8;have OH:=hid (Dd.out.trans zq);have ye:=hid (hs4.trans Q8.out);clear R8 zq hs4 XV Dd Q8;go_wp2_with fail;refine(bn 10 aC aC b (N+4) aC w4 WT.out).mono ?_;rintro e w5 ⟨s',rfl,d0,d6,Kk,Ag,hs5⟩;have WU:=hid Kk;have WV:=hid (OH.out.trans Ag);have yg:=hid (hs5.trans ye.out);clear Kk Ag hs5 WT OH ye;go_wp2;go_ret
  exact⟨_,[ah.DC t (5+t'),ah.rR s (10+s')],rfl,.low _ _ _ _ ⟨by omega,by omega,by omega⟩ ⟨by omega,by omega,by omega⟩,Eg (f:=ah.DC t (5+t')) (g:=ah.rR s (10+s')) rfl rfl rfl rfl rfl (by have:=yg.out;show _<=_;omega),
   (WU.out.mono aC).keep (aB.below (ay.alloc aH _)),WV.out.trans (Turns.aQ (ay.alloc aH _))⟩
 ·go_wp2
  go_ret;exact⟨_,[],rfl,.none,dO.nil _ _ _ _,Gw.out.mono aC,Dc.out⟩
inductive je where
 |done
 |quiet (i:Nat) (p:je)
 |one (i:Nat) (p:je)
 |two (i j:Nat) (p q:je)
 |three (i j k:Nat) (p q r:je)
 deriving DecidableEq
section
variable {P:Program} {ops:Array Oper} {md:Region.Mode}
def rU(P:Program)(ops:Array Oper)(φ:World->Prop)(K:(World->Prop)->Act->World->Prop)(l:List Oper)(i:Nat)(a:Act)(w:World):Prop:=
 match l[i]? with
 |some o=>wpList P ops (QN fun a' w'=>∃φ':World->Prop,(∀W,φ' W->φ W)/\φ' w'/\K φ' a' w') [o] a w
 |none=>False
def bQ(P:Program)(ops:Array Oper)(R:Act->World->Prop)(l:List Oper):je->(World->Prop)->Act->World->Prop
 | .done,_,a,w=>R a w
 | .quiet i s,φ,a,w=>match l[i]? with
  |some o=>Nonempty (Held φ)->wpQuiet P ops (fun W=>∃x:Held φ,W=x.1) (fun a'=>bQ P ops R l s φ a' w) [o] a
  |none=>False
 | .one i s,φ,a,w=>rU P ops φ (fun φ' a' w'=>bQ P ops R l s φ' a' w') l i a w
 | .two i j s t,φ,a,w=>rU P ops φ (fun φ' a' w'=>bQ P ops R l s φ' a' w') l i a w/\rU P ops φ (fun φ' a' w'=>bQ P ops R l t φ' a' w') l j a w
 | .three i j k s t u,φ,a,w=>rU P ops φ (fun φ' a' w'=>bQ P ops R l s φ' a' w') l i a w/\rU P ops φ (fun φ' a' w'=>bQ P ops R l t φ' a' w') l j a w/\
   rU P ops φ (fun φ' a' w'=>bQ P ops R l u φ' a' w') l k a w
def Region.kA(md:Region.Mode)(ops:Array Oper)(n:Nat):Nat->je->Array Bool->Bool
 |0,.done,listed=>Region.seqB md ops (ops.size-n) n listed
 |f+1,.one c s,listed=>decide (Region.ready md ops listed=[c])&&decide (c<n)&&Region.kA md ops n f s (listed.setIfInBounds c true)
 |f+1,.two c d s t,listed=>decide (Region.ready md ops listed=[c,d])&&decide (c<n)&&decide (d<n)&&Region.kA md ops n f s (listed.setIfInBounds c true)&&Region.kA md ops n f t (listed.setIfInBounds d true)
 |f+1,.three c d e s t u,listed=>decide (Region.ready md ops listed=[c,d,e])&&decide (c<n)&&decide (d<n)&&decide (e<n)&&Region.kA md ops n f s (listed.setIfInBounds c true)&&Region.kA md ops n f t (listed.setIfInBounds d true)&&Region.kA md ops n f u (listed.setIfInBounds e true)
 |f+1,.quiet q s,listed=>(Region.ready md ops listed).contains q&&Region.free md ops listed q&&decide (q<n)&&((ops[q]?).map (fun o=>tu o.op)).getD false&&Region.kA md ops n f s (listed.setIfInBounds q true)
 |_,_,_=>false
def Region.Ei(md:Region.Mode)(ops:Array Oper)(n:Nat)(s:je):Bool:=
 Region.noSelect ops&&decide (n<ops.size)&&Region.sinkB md ops n&&Region.chainB md ops n&&Region.kA md ops n n s (Array.replicate ops.size false)
theorem OI{C C':World->Prop}(hC:∀W,C' W->C W){i:Nat}{a:Act}{w:World}{K K':Act->World->Prop}(h:∀a w,C' w->K a w->K' a w)(hh:RV P ops C' i K a w):RV P ops C i K' a w:=
 wpOp_mono (fun a w hk=>⟨hC _ hk.1,h a w hk.1 hk.2⟩) hh
theorem vZ{C C':World->Prop}(hC:∀W,C' W->C W){n:Nat}{L:Array Bool->Act->World->Prop}:∀(f:Nat) (listed:Array Bool) (a:Act) (w:World),j9 P md ops C' n L f listed a w->j9 P md ops C n L f listed a w
 |0,_,_,_,h=>h
 |f+1,_,_,_,h=>⟨h.1,fun i hi=>⟨(h.2 i hi).1,OI hC (fun a' w' _ h'=>vZ hC f _ a' w' h') (h.2 i hi).2⟩⟩
theorem Km{k:Nat}{o:Oper}{a:Act}{w:World}{K K':Act->World->Prop}(hk:ops[k]?=some o)(hK:∀a w,K a w->K' a w)(h:wpList P ops (QN K) [o] a w):wpOp P ops (QN fun _ _=>False) k K' a w:=by
 unfold wpOp;simp only[hk];unfold wpList at h;split
 ·rename_i hw
  rw[if_pos hw] at h;rcases h with h|⟨_,h2⟩
  ·refine .inl (wp_exit (Q:=QN K) (fun _ _ _ hf=>hf) (fun hl=>absurd hl ja) ?_)
   exact Oper.wp_mono (fun a' w' h'=>hK a' w' h') h
  ·exact absurd h2 ja
 ·rename_i hw
  rw[if_neg hw] at h;exact hK _ _ h
theorem eF{n f:Nat}{φ:World->Prop}{L:Array Bool->Act->World->Prop}{K:(World->Prop)->Act->World->Prop}{k:Nat}{listed:Array Bool}{a:Act}{w:World}
  (h:rU P ops φ K ops.toList k a w)(hK:∀φ' a' w',φ' w'->K φ' a' w'->j9 P md ops (eO φ') n L f (listed.setIfInBounds k true) a' w'):
  RV P ops (eO φ) k (j9 P md ops (eO φ) n L f (listed.setIfInBounds k true)) a w:=by
 unfold rU at h;split at h
 ·rename_i o h0
  have h0':ops[k]?=some o:=by simpa using h0
  refine Km h0' (fun a' w' hk=>?_) h;obtain⟨φ',hs,hw',h3⟩:=hk;exact⟨⟨⟨w',hs w' hw'⟩,rfl⟩,vZ (C':=eO φ') (fun W hW=>by obtain⟨x,rfl⟩:=hW;exact⟨⟨x.1,hs _ x.2⟩,rfl⟩) _ _ _ _ (hK φ' a' w' hw' h3)⟩
 ·exact h.elim
theorem fM{n:Nat}{Lq:Act->World->Prop}(hsel:Region.noSelect ops=true)(hs:Region.sinkB md ops n=true)(hc:Region.chainB md ops n=true)(hn:n<ops.size):
  ∀(f:Nat) (s:je) (φ:World->Prop) (listed:Array Bool) (a:Act) (w:World),φ w->HeadInv md ops n listed->Region.kA md ops n f s listed=true->bQ P ops Lq ops.toList s φ a w->
  j9 P md ops (eO φ) n (fun listed' a' w'=>Region.seqB md ops (ops.size-n) n listed'=true/\Lq a' w') f listed a w
 |0,.done,φ,listed,a,w,hC,inv,hB,h=>by
  simp only[Region.kA] at hB;exact⟨hB,h⟩
 |f+1,.quiet k s,φ,listed,a,w,hC,inv,hB,h=>by
  simp only[Region.kA,kJ,lE] at hB;obtain⟨⟨⟨⟨hr,hf⟩,hkn⟩,hq⟩,hB⟩:=hB;have hks:k<ops.size:=by omega
  obtain⟨o,h0⟩:∃o,ops[k]?=some o:=⟨ops[k],by simp[hks]⟩;have h0':ops.toList[k]?=some o:=by simpa using h0
  simp only[bQ,h0'] at h;have h:=h ⟨⟨w,hC⟩⟩;have JR:eO φ w:=⟨⟨w,hC⟩,rfl⟩;have Q7:tu o.op=true:=by rw[h0] at hq;simpa using hq
  unfold wpQuiet at h;split at h
  ·rename_i hw
   obtain⟨v,h1,h2⟩:=h
   have hy:gG P ops (eO φ) o v a:=.inl ⟨hw,fun w1 hC1=>by
    have g:=h1 w1 hC1;unfold Oper.quietAt at g;generalize hr1:(execOp a.eval o).run P w1=r at g ⊢;cases r with
    |ok nx w2=>
     cases nx with
     |value u=>obtain⟨e1,e2⟩:=g;rw[e1,e2]
     |_=>exact absurd hr1 (qR Q7 (by intro v;simp))
    |halt x w2=>exact g.elim⟩
   exact iC h0 hsel hs hc hn hkn (fun listed' a' w' hL=>oq hL.1 aH) JR inv hf hr hy
    (fM hsel hs hc hn f s φ _ _ w hC (inv.set Fw hkn) hB h2)
  ·rename_i hw
   exact iC h0 hsel hs hc hn hkn (fun listed' a' w' hL=>oq hL.1 aH) JR inv hf hr (.inr ⟨by simpa using hw,rfl⟩)
    (fM hsel hs hc hn f s φ _ _ w hC (inv.set Fw hkn) hB h)
 |f+1,.one k s,φ,listed,a,w,hC,inv,hB,h=>by
  simp only[Region.kA,kJ,lE] at hB;obtain⟨⟨hr,hkn⟩,hB⟩:=hB;simp only[bQ] at h;refine⟨by rw[hr];simp,fun i hi=>?_⟩;rw[hr] at hi;obtain rfl:i=k:=by simpa using hi
  exact⟨hkn,eF h fun φ' a' w' hw' h3=>fM hsel hs hc hn f s φ' _ a' w' hw' (inv.set qh hkn) hB h3⟩
 |f+1,.two k j s t,φ,listed,a,w,hC,inv,hB,h=>by
  simp only[Region.kA,kJ,lE] at hB;obtain⟨⟨⟨⟨hr,hkn⟩,hjn⟩,R9⟩,Ah⟩:=hB;simp only[bQ] at h;refine⟨by rw[hr];simp,fun i hi=>?_⟩;rw[hr] at hi;by_cases e:i=k
  ·subst e
   exact⟨hkn,eF h.1 fun φ' a' w' hw' h3=>fM hsel hs hc hn f s φ' _ a' w' hw' (inv.set qh hkn) R9 h3⟩
  ·obtain rfl:i=j:=by simpa [e] using hi
   exact⟨hjn,eF h.2 fun φ' a' w' hw' h3=>fM hsel hs hc hn f t φ' _ a' w' hw' (inv.set qh hjn) Ah h3⟩
 |f+1,.three k j m s t u,φ,listed,a,w,hC,inv,hB,h=>by
  simp only[Region.kA,kJ,lE] at hB;obtain⟨⟨⟨⟨⟨⟨hr,hkn⟩,hjn⟩,hmn⟩,R9⟩,Ah⟩,hB3⟩:=hB;simp only[bQ] at h;refine⟨by rw[hr];simp,fun i hi=>?_⟩;rw[hr] at hi;by_cases e:i=k
  ·subst e
   exact⟨hkn,eF h.1 fun φ' a' w' hw' h3=>fM hsel hs hc hn f s φ' _ a' w' hw' (inv.set qh hkn) R9 h3⟩
  ·by_cases e':i=j
   ·subst e'
    exact⟨hjn,eF h.2.1 fun φ' a' w' hw' h3=>fM hsel hs hc hn f t φ' _ a' w' hw' (inv.set qh hjn) Ah h3⟩
   ·obtain rfl:i=m:=by simpa [e,e'] using hi
    exact⟨hmn,eF h.2.2 fun φ' a' w' hw' h3=>fM hsel hs hc hn f u φ' _ a' w' hw' (inv.set qh hmn) hB3 h3⟩
 |0,.quiet ..,_,_,_,_,_,_,hB,_=>by simp[Region.kA] at hB
 |0,.one ..,_,_,_,_,_,_,hB,_=>by simp[Region.kA] at hB
 |0,.two ..,_,_,_,_,_,_,hB,_=>by simp[Region.kA] at hB
 |0,.three ..,_,_,_,_,_,_,hB,_=>by simp[Region.kA] at hB
 |_+1,.done,_,_,_,_,_,_,hB,_=>by simp[Region.kA] at hB
theorem Sb{p:Prop}(h:p:=by
  refine wp_region_any hm ?_
  have hdl:(l.drop n).length=l.toArray.size-n:=by simp
  have:=kg (Q':=Q) (g:=l.toArray.size-n) (fun listed a' w' hL=>by
   have:=wpAny_of_seq (md:=.any) (Q':=Q) (l.drop n) n listed a' w' (fun j=>by simp[List.getElem?_drop]) ab5 hL.2;rwa [hdl] at this) _ _ _ _ H
  rw[show n+(l.toArray.size-n)=l.toArray.size by omega] at this
  exact this):p:=h
theorem cE{id:Nat}{Q:Exit->Act->World->Prop}{a:Act}{w:World}{l:List Oper}(n:Nat)(s:je)(φ:World->Prop)(hm:P.follows .mixedOrders=true)(hB:Region.Ei .any l.toArray n s=true)(hC:φ (w.drewN 1))
  (h:bQ P l.toArray (fun a' w'=>wpList P l.toArray Q (l.drop n) a' w') l s φ a (w.drewN 1)):(Code.region id l.toArray true).wp P Q a w:=by
 simp only[Region.Ei,kJ,lE] at hB;obtain⟨⟨⟨⟨hsel,hn⟩,hs⟩,hc⟩,hlex⟩:=hB
 have inv0:HeadInv .any l.toArray n (Array.replicate l.toArray.size false):=
  ⟨by simp,fun j oj _ hl=>RK,fun t _ ht=>getD_in RT (getD_replicate_false _ _)⟩
 have H:=fM (md:=.any) (Lq:=fun a' w'=>wpList P l.toArray Q (l.drop n) a' w') hsel hs hc hn n s φ _ a _ hC inv0 hlex uO;exact Sb
theorem aL{φ:World->Prop}{R:Act->World->Prop}{l:List Oper}{i:Nat}{s:je}{a:Act}{w:World}{o:Oper}(ho:l[i]?=some o)
  (h:Nonempty (Held φ)->wpQuiet P ops (fun W=>∃x:Held φ,W=x.1) (fun a'=>bQ P ops R l s φ a' w) [o] a):bQ P ops R l (.quiet i s) φ a w:=by
 simp only[bQ,ho];exact h
theorem aM{φ:World->Prop}{R:Act->World->Prop}{l:List Oper}{i:Nat}{s:je}{a:Act}{w:World}{o:Oper}(ho:l[i]?=some o)
  (h:wpList P ops (QN fun a' w'=>∃φ':World->Prop,(∀W,φ' W->φ W)/\φ' w'/\bQ P ops R l s φ' a' w') [o] a w):bQ P ops R l (.one i s) φ a w:=by
 simp only[bQ,rU,ho];exact h
theorem dG{φ:World->Prop}{R:Act->World->Prop}{l:List Oper}{i j:Nat}{s t:je}{a:Act}{w:World}{o o':Oper}(ho:l[i]?=some o)(ho':l[j]?=some o')
  (h1:wpList P ops (QN fun a' w'=>∃φ':World->Prop,(∀W,φ' W->φ W)/\φ' w'/\bQ P ops R l s φ' a' w') [o] a w)
  (h2:wpList P ops (QN fun a' w'=>∃φ':World->Prop,(∀W,φ' W->φ W)/\φ' w'/\bQ P ops R l t φ' a' w') [o'] a w):bQ P ops R l (.two i j s t) φ a w:=by
 simp only[bQ,rU,ho,ho'];exact⟨h1,h2⟩
theorem rV{φ:World->Prop}{R:Act->World->Prop}{l:List Oper}{i j k:Nat}{s t u:je}{a:Act}{w:World}{o o' o'':Oper}(ho:l[i]?=some o)(ho':l[j]?=some o')(ho'':l[k]?=some o'')
  (h1:wpList P ops (QN fun a' w'=>∃φ':World->Prop,(∀W,φ' W->φ W)/\φ' w'/\bQ P ops R l s φ' a' w') [o] a w)
  (h2:wpList P ops (QN fun a' w'=>∃φ':World->Prop,(∀W,φ' W->φ W)/\φ' w'/\bQ P ops R l t φ' a' w') [o'] a w)
  (h3:wpList P ops (QN fun a' w'=>∃φ':World->Prop,(∀W,φ' W->φ W)/\φ' w'/\bQ P ops R l u φ' a' w') [o''] a w):bQ P ops R l (.three i j k s t u) φ a w:=by
 simp only[bQ,rU,ho,ho',ho''];exact⟨h1,h2,h3⟩
theorem aT{φ:World->Prop}{R:Act->World->Prop}{l:List Oper}{a:Act}{w:World}(h:R a w):bQ P ops R l .done φ a w:=h
theorem aD{φ:World->Prop}{K:(World->Prop)->Act->World->Prop}{a:Act}{w:World}(φ':World->Prop)(h1:∀W,φ' W->φ W)(h2:φ' w)(h3:K φ' a w):
  QN (fun a' w'=>∃φ':World->Prop,(∀W,φ' W->φ W)/\φ' w'/\K φ' a' w') .normal a w:=⟨φ',h1,h2,h3⟩
end
def From(S:Nat->Prop)(W:World):World->Prop:=fun W'=>Turns S W W'
theorem From.cell{S:Nat->Prop}{W:World}(x:Held (From S W)){b i:Nat}{v:Value}(hb:¬S b)(h:W.cell? ⟨b,i,none⟩=some v):x.1.cell? ⟨b,i,none⟩=some v:=by
 rw[World.cell?_of_block (w:=W) (a:=⟨b,i,none⟩) (x.2.block b hb (xN W ⟨b,i,none⟩ h))];exact h
structure RG(b:Nat)(W1:World)(L:List (Nat×Array Value×TypeId))(W:World):Prop where
 turn:Turns (·=b) W1 W
 blocks:∀x∈L,W1.heap.size<=x.1/\W.heap[x.1]?=some (.cells x.2.1 x.2.2 (0,0))
theorem RG.start(b:Nat)(W1:World):RG b W1 [] (W1.drewN 1):=⟨(Turns.refl _ _).drewN 1,fun _ h=>absurd h aZ⟩
theorem RG.alloc{b:Nat}{W1 W:World}{L:List (Nat×Array Value×TypeId)}(h:RG b W1 L W)(cs:Array Value)(t:TypeId):RG b W1 ((W.heap.size,cs,t)::L) (W.alloc (.cells cs t)):=
 ⟨h.turn.alloc _,fun x hx=>by
  rcases kM.1 hx with rfl|hx
  ·exact⟨h.turn.size,aP W _ rfl⟩
  ·exact⟨(h.blocks x hx).1,aY _ (h.blocks x hx).2⟩⟩
theorem RG.take{b:Nat}{W1 W W':World}{L:List (Nat×Array Value×TypeId)}(h:RG b W1 L W)(hb:b<W1.heap.size)(ht:Turns (·=b) W W'):RG b W1 L W':=
 ⟨h.turn.trans ht,fun x hx=>⟨(h.blocks x hx).1,(ht.block x.1 (by have:=(h.blocks x hx).1;show ¬x.1=b;omega) (aj (h.blocks x hx).2)).trans (h.blocks x hx).2⟩⟩
theorem RG.tail{b:Nat}{W1 W:World}{x:Nat×Array Value×TypeId}{L:List (Nat×Array Value×TypeId)}(h:RG b W1 (x::L) W):RG b W1 L W:=⟨h.turn,fun y hy=>h.blocks y (List.mem_cons_of_mem _ hy)⟩
theorem RG.cell{b:Nat}{W1:World}{L:List (Nat×Array Value×TypeId)}(x:Held (RG b W1 L))(l:Nat)(cs:Array Value)(t:TypeId)(hm:(l,cs,t)∈L){i:Nat}{v:Value}(hi:cs[i]?=some v):x.1.cell? ⟨l,i,none⟩=some v:=
 (aF (x.2.blocks _ hm).2 i).trans hi
theorem RG.old{b:Nat}{W1:World}{L:List (Nat×Array Value×TypeId)}(x:Held (RG b W1 L)){k i:Nat}{v:Value}(hb:k≠b)(h:W1.cell? ⟨k,i,none⟩=some v):x.1.cell? ⟨k,i,none⟩=some v:=by
 rw[World.cell?_of_block (w:=W1) (a:=⟨k,i,none⟩) (x.2.turn.block k hb (xN W1 ⟨k,i,none⟩ h))];exact h
theorem RG.block{b:Nat}{W1 W:World}{L:List (Nat×Array Value×TypeId)}(h:RG b W1 L W){k:Nat}{o:Obj}(hb:k≠b)(ho:W1.heap[k]?=some o):W.heap[k]?=some o:=(h.turn.block k hb (aj ho)).trans ho
theorem RG.store{b:Nat}{W1 V:World}{F:Nat}{cs:Array Value}{t:TypeId}(h:RG b W1 [(F,cs,t)] V)(i:Nat)(v:Value):RG b W1 [(F,cs.setIfInBounds i v,t)] (V.setCell ⟨F,i,none⟩ v):=
 ⟨h.turn.setCell_new _ _ (h.blocks (F,cs,t) aZ).1,fun x hx=>by
  obtain rfl:=nU.1 hx;exact⟨(h.blocks (F,cs,t) aZ).1,heap_setCell_same V F i cs t v (h.blocks (F,cs,t) aZ).2⟩⟩
theorem RG.sub{b:Nat}{W1 W:World}{L L':List (Nat×Array Value×TypeId)}(h:RG b W1 L W)(hs:∀x∈L',x∈L):RG b W1 L' W:=⟨h.turn,fun y hy=>h.blocks y (hs y hy)⟩
theorem RG.refl(b:Nat)(W1:World):RG b W1 [] W1:=⟨Turns.refl _ _,fun _ h=>absurd h aZ⟩
theorem RG.yh{b:Nat}{W1 V:World}{F:Nat}{x0 x1 x2 x3 x4 x5 x6 x7:Value}{t:TypeId}(h:RG b W1 [(F,#[x0,x1,x2,x3,x4,x5,x6,x7],t)] V)(y0 y1 y2 y3 y4 y5 y6 y7:Value):
  RG b W1 [(F,#[y0,y1,y2,y3,y4,y5,y6,y7],t)] ((((((((V.setCell ⟨F,0,none⟩ y0).setCell ⟨F,1,none⟩ y1).setCell ⟨F,2,none⟩ y2).setCell ⟨F,3,none⟩ y3).setCell ⟨F,4,none⟩ y4).setCell ⟨F,5,none⟩ y5).setCell ⟨F,6,none⟩ y6).setCell ⟨F,7,none⟩ y7):=by
 have h0:RG b W1 [(F,#[y0,x1,x2,x3,x4,x5,x6,x7],t)] _:=h.store 0 y0;have h1:RG b W1 [(F,#[y0,y1,x2,x3,x4,x5,x6,x7],t)] _:=h0.store 1 y1;have h2:RG b W1 [(F,#[y0,y1,y2,x3,x4,x5,x6,x7],t)] _:=h1.store 2 y2;have h3:RG b W1 [(F,#[y0,y1,y2,y3,x4,x5,x6,x7],t)] _:=h2.store 3 y3;have h4:RG b W1 [(F,#[y0,y1,y2,y3,y4,x5,x6,x7],t)] _:=h3.store 4 y4;have h5:RG b W1 [(F,#[y0,y1,y2,y3,y4,y5,x6,x7],t)] _:=h4.store 5 y5;have h6:RG b W1 [(F,#[y0,y1,y2,y3,y4,y5,y6,x7],t)] _:=h5.store 6 y6;exact h6.store 7 y7
theorem eB{G H:Prop}(k:H)(h:H->G:=by
  intro zk;refine aL rfl ?_;intro hne;go_big_quiet_step (fail);refine wpQuiet_nil ?_;clear hne;exact zk):G:=h k
theorem AO(fs:List ah.dh)(s:ByteArray)(v:Value)(S:Nat->Prop)(w:World)(hv:dJ S w v fs):
  Calls Tryz.prog 63 #[v,.string s] w fun e w'=>e=.returned (.int .i64 (ah.DE fs s))/\w=w':=by
 have HV:=hid hv;obtain⟨a,cap,rfl,hok,hcap,hmax⟩:=hv.form;clear hv;go_enter Tryz.func63,Tryz.ntmps63;go_wp2;go_loop [5] (fun i=>∃k:Nat,k<=fs.length/\i=.int .i64 k/\Hid (∀j (h:j<fs.length),j<k->decide (fs[j].name=s)=false)) (fun i=>fs.length-(intOf i).toNat);case atStart=>exact⟨0,by omega,rfl,hid (fun _ _ h=>absurd h aC)⟩
 case round=>
  obtain⟨k,hk,rfl,hpre⟩:=hrel;by_cases hlt:k<fs.length
  ·obtain⟨-, -,c0, -⟩:=HV.out.at hlt
   have hk0:(0:Int)<=k:=by omega
   have hk1:(k:Int)<fs.length:=by omega
   by_cases he:fs[k].name=s
   ·have HA:Hid (ah.DE fs s=(k:Int)):=hid (by
     have:=ah.ow (p:=fun f:ah.dh=>decide (f.name=s)) (i:=0) hlt hpre.out (decide_eq_true he)
     rw[Nat.zero_add] at this
     exact this)
    have ht:=XT he;generalize fs[k].name=nm at*;clear he;go_wp2;go_ret;exact⟨gT HA.out.symm,rfl⟩
   ·have HA:Hid (∀j (h:j<fs.length),j<k+1->decide (fs[j].name=s)=false):=hid (fun j hj hjk=>by
     by_cases e:j=k
     ·subst e;exact decide_eq_false he
     ·exact hpre.out j hj aC)
    have ht:=XU he;generalize fs[k].name=nm at*;clear he;go_wp2;go_round;case rel=>exact⟨k+1,by omega,by go_num,HA⟩
    simp[intOf];omega
  ·have HA:Hid (ah.DE fs s= -1):=hid (ah.mX (fun j hj=>hpre.out j hj aC))
   go_wp2;go_ret;exact⟨gT HA.out.symm,rfl⟩
theorem MQ{p:Prop}(h:p:=by
  have HN':=hid (HN.out (by rw[HC.out];rfl))
  go_wp2
  go_round
  case rel=>exact⟨j+1,by omega,by go_num,HN'⟩
  simp[intOf]
  omega):p:=h
theorem Kn(k:ah.eZ)(us:List Value)(S:Nat->Prop)(w:World)(hv:DF S w us k)(cs:Array Value)(hcs:cs=us.toArray):
  Calls Tryz.prog 62 #[.agg cs] w fun e w'=>e=.returned (.int .i64 (ah.ML k.aA))/\BL w w':=by
 obtain⟨uf,rfl,hf⟩:=hv;subst hcs;obtain⟨a,cap,rfl,hok,hcap,hmax⟩:=hf.form;have hF:dJ S (w.alloc (.cells #[.string k.name,.int .i64 k.lo,.int .i64 k.hi,.slice a k.aA.length cap] 95)) (.slice a k.aA.length cap) k.aA:=dJ.keep hf (aB.below (ay.alloc aH _));have HF:=hid hF;have HA0:Hid (BL w (w.alloc (.cells #[.string k.name,.int .i64 k.lo,.int .i64 k.hi,.slice a k.aA.length cap] 95))):=hid (ay.alloc aH _);simp only[lU];clear hf hF;go_enter Tryz.func62,Tryz.ntmps62;go_wp2;go_loop [3] (fun i=>∃j:Nat,j<=k.aA.length/\i=.int .i64 j/\Hid (∀m (h:m<k.aA.length),m<j->ah.uo k.aA[m]=false)) (fun i=>k.aA.length-(intOf i).toNat);case atStart=>exact⟨0,by omega,rfl,hid (fun _ _ h=>absurd h aC)⟩
 case round=>
  obtain⟨j,hj,rfl,hpre⟩:=hrel;by_cases hlt:j<k.aA.length
  ·obtain⟨-, -, -, -, -,c3, -⟩:=HF.out.at hlt
   have hk0:(0:Int)<=j:=by omega
   have hk1:(j:Int)<k.aA.length:=by omega
   have HY:Hid (ah.uo k.aA[j]=true->ah.ML k.aA=(j:Int)):=hid (fun he=>by
    have:=ah.ow (i:=0) hlt hpre.out he;rw[Nat.zero_add] at this;exact this)
   have HN:Hid (ah.uo k.aA[j]=false->∀m (h:m<k.aA.length),m<j+1->ah.uo k.aA[m]=false):=hid (fun he m hm hmj=>by
    by_cases e:m=j
    ·subst e;exact he
    ·exact hpre.out m hm aC)
   have HC:Hid (ah.uo k.aA[j]=(decide (k.aA[j].kind≠0)&&decide (k.aA[j].kind≠1)&&decide (k.aA[j].kind≠6)&&decide (k.aA[j].kind≠7))):=hid rfl;generalize ah.uo k.aA[j]=cb at*;generalize k.aA[j].kind=kd at*;by_cases h0:kd=0
   ·subst h0
    exact MQ
   ·by_cases h1:kd=1
    ·subst h1
     exact MQ
    ·by_cases h6:kd=6
     ·subst h6
      exact MQ
     ·by_cases h7:kd=7
      ·subst h7
       exact MQ
      ·have HY':=hid (HY.out (by rw[HC.out];simp[h0,h1,h6,h7]))
       have g0:=Oz h0;have g1:=Oz h1;have g6:=Oz h6;have g7:=Oz h7;clear h0 h1 h6 h7;go_wp2;go_ret;exact⟨gT HY'.out.symm,HA0.out⟩
  ·have HA:Hid (ah.ML k.aA= -1):=hid (ah.mX (fun m hm=>hpre.out m hm aC))
   go_wp2;go_ret;exact⟨gT HA.out.symm,HA0.out⟩
end Go.Proofs.YteiakkfdchnddaaGreatDoor
