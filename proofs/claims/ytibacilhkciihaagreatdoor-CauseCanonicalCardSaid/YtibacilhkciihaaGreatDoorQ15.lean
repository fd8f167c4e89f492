/- Part 15 of the walks and plain laws that the proof needs (packed). -/
import Derived.Test.YtibacilhkciihaaGreatDoorQ1
import Derived.Test.YtibacilhkciihaaGreatDoorQ6
import Derived.Test.YtibacilhkciihaaGreatDoorQ10
import Derived.Test.YtibacilhkciihaaGreatDoorQ11
import Derived.Test.YtibacilhkciihaaGreatDoorQ12
import Derived.Test.YtibacilhkciihaaGreatDoorQ13
import Derived.Test.YtibacilhkciihaaGreatDoorQ14
set_option linter.all false
set_option maxRecDepth 100000
set_option maxHeartbeats 8000000
namespace Go.Proofs.YtibacilhkciihaaGreatDoor
open Go.RowKit
def SN:ah.Nm:=⟨#[105,100]⟩
def pK:ah.cD:=⟨⟨#[105,100]⟩,ah.nil,ah.nil,0,0,0,[],[]⟩
def aby:ah.cD:=⟨⟨#[97,103,101]⟩,ah.nil,ah.nil,2,0,9,[],[]⟩
def uW:ah.cD:=⟨⟨#[111,102]⟩,⟨#[112,101,114,115,111,110]⟩,ah.nil,1,0,9,[],[]⟩
def kPe:ah.dZ:=⟨⟨#[112,101,114,115,111,110]⟩,0,9,[pK,aby]⟩
def kOr:ah.dZ:=⟨⟨#[111,114,100,101,114]⟩,0,9,[pK,uW]⟩
def xE:ah.cA:=⟨0,[kPe,kOr],[],[]⟩
theorem okE:ah.okB xE=true:=by kernel_rfl
theorem aeK:aO xE=Cz.YG:=by kernel_rfl
theorem upE:ah.mH xE:=by
 intro k j hk hj h1;have hk:k<2:=hk;have h:k=0\/k=1:=aB
 rcases h with rfl|rfl
 ·have hj:j<2:=hj
  have h:j=0\/j=1:=aB
  rcases h with rfl|rfl<;>exact absurd h1 fH
 ·have hj:j<2:=hj
  have h:j=0\/j=1:=aB
  rcases h with rfl|rfl
  ·exact absurd h1 fH
  ·exact of_decide_eq_true (by kernel_rfl)
def Gu(f:ah.cD):List Value:=[.string f.name,.string f.of,.string f.up,.int .i64 f.kind,.int .i64 f.lo,.int .i64 f.hi,.slice none 0 0,.slice none 0 0]
theorem YP{S:Nat->Prop}{w:World}{g:Nat}(f f':ah.cD)(e1:f.cB=[])(e2:f.bO=[])(e3:f'.cB=[])(e4:f'.bO=[])(h:w.heap[g]?=some (.cells (Gu f++Gu f').toArray 46 (0,0)))(hg:S g):
  dh S w (.slice (some ⟨g,0,none⟩) 2 2) [f,f']:=
 Bq (α:=ah.cD) (R:=jc S) (n:=8) [Gu f,Gu f'] h rfl rfl (fun us h=>by simp at h;rcases h with rfl|rfl<;>rfl) bp hg (fun j a1 a2=>by
  match j,a1 with
  |0,_=>exact⟨_,_,rfl,by rw[show [f,f'][0]=f from rfl,e1];exact eU.nil _ _ _,by rw[show [f,f'][0]=f from rfl,e2];exact eU.nil _ _ _⟩
  |1,_=>exact⟨_,_,rfl,by rw[show [f,f'][1]=f' from rfl,e3];exact eU.nil _ _ _,by rw[show [f,f'][1]=f' from rfl,e4];exact eU.nil _ _ _⟩)
theorem schE{S:Nat->Prop}{w:World}{g g' h:Nat}(h1:w.heap[g]?=some (.cells (Gu pK++Gu aby).toArray 46 (0,0)))(h2:w.heap[g']?=some (.cells (Gu pK++Gu uW).toArray 46 (0,0)))
  (h3:w.heap[h]?=some (.cells #[.string ⟨#[112,101,114,115,111,110]⟩,.int .i64 0,.int .i64 9,.slice (some ⟨g,0,none⟩) 2 2,.string ⟨#[111,114,100,101,114]⟩,.int .i64 0,.int .i64 9,.slice (some ⟨g',0,none⟩) 2 2] 49 (0,0)))(s1:S g)(s2:S g')(s3:S h):
  d9 S w (.agg #[.int .i64 0,.slice (some ⟨h,0,none⟩) 2 2,.slice none 0 0,.slice none 0 0]) xE:=by
 have f1:=YP pK aby rfl rfl rfl rfl h1 s1;have f2:=YP pK uW rfl rfl rfl rfl h2 s2
 have k1:gU S w (.slice (some ⟨h,0,none⟩) 2 2) [kPe,kOr]:=
  Bq (α:=ah.dZ) (R:=AU S) (n:=4) [[.string ⟨#[112,101,114,115,111,110]⟩,.int .i64 0,.int .i64 9,.slice (some ⟨g,0,none⟩) 2 2],[.string ⟨#[111,114,100,101,114]⟩,.int .i64 0,.int .i64 9,.slice (some ⟨g',0,none⟩) 2 2]] h3 rfl rfl (fun us h=>by simp at h;rcases h with rfl|rfl<;>rfl) bp s3 (fun j a1 a2=>by
   match j,a1 with
   |0,_=>exact⟨_,rfl,f1⟩
   |1,_=>exact⟨_,rfl,f2⟩)
 exact⟨_,_,_,rfl,k1,dQ.nil _ _ _ _,dQ.nil _ _ _ _⟩
theorem abz{S:Nat->Prop}{w:World}{g0 g1 g2 g3 g4 g5 g6:Nat}(a b c d e f g h:Int)(h0:w.heap[g0]?=some (.cells #[.int .i64 a,.int .i64 b] 3 (0,0)))(h1:w.heap[g1]?=some (.cells #[.int .i64 c,.int .i64 d] 3 (0,0)))
  (h2:w.heap[g2]?=some (.cells #[.slice (some ⟨g0,0,none⟩) 2 2,.slice (some ⟨g1,0,none⟩) 2 2] 22 (0,0)))
  (h3:w.heap[g3]?=some (.cells #[.int .i64 e,.int .i64 f] 3 (0,0)))(h4:w.heap[g4]?=some (.cells #[.int .i64 g,.int .i64 h] 3 (0,0)))
  (h5:w.heap[g5]?=some (.cells #[.slice (some ⟨g3,0,none⟩) 2 2,.slice (some ⟨g4,0,none⟩) 2 2] 22 (0,0)))
  (h6:w.heap[g6]?=some (.cells #[.slice (some ⟨g2,0,none⟩) 2 2,.slice (some ⟨g5,0,none⟩) 2 2] 42 (0,0)))
  (s0:S g0)(s1:S g1)(s2:S g2)(s3:S g3)(s4:S g4)(s5:S g5)(s6:S g6):bN S w (.slice (some ⟨g6,0,none⟩) 2 2) [[[a,b],[c,d]],[[e,f],[g,h]]]:=by
 have one:∀(q:Nat) (n m:Int),w.heap[q]?=some (.cells #[.int .i64 n,.int .i64 m] 3 (0,0))->S q->bq S w (.slice (some ⟨q,0,none⟩) 2 2) [n,m]:=fun q n m h hs=>
  tP (vs:=[.int .i64 n,.int .i64 m]) (xs:=[n,m]) h rfl rfl bp hs (fun j a1 a2=>by
   match j,a1 with
   |0,_=>rfl
   |1,_=>rfl)
 have two:∀(q q1 q2:Nat) (r1 r2:List Int),w.heap[q]?=some (.cells #[.slice (some ⟨q1,0,none⟩) 2 2,.slice (some ⟨q2,0,none⟩) 2 2] 22 (0,0))->S q->bq S w (.slice (some ⟨q1,0,none⟩) 2 2) r1->bq S w (.slice (some ⟨q2,0,none⟩) 2 2) r2->dr S w (.slice (some ⟨q,0,none⟩) 2 2) [r1,r2]:=fun q q1 q2 r1 r2 h hs i1 i2=>
  tP (vs:=[.slice (some ⟨q1,0,none⟩) 2 2,.slice (some ⟨q2,0,none⟩) 2 2]) (xs:=[r1,r2]) h rfl rfl bp hs (fun j a1 a2=>by
   match j,a1 with
   |0,_=>exact i1
   |1,_=>exact i2)
 refine tP (vs:=[.slice (some ⟨g2,0,none⟩) 2 2,.slice (some ⟨g5,0,none⟩) 2 2]) (xs:=[[[a,b],[c,d]],[[e,f],[g,h]]]) h6 rfl rfl bp s6 (fun j a1 a2=>?_);match j,a1 with
 |0,_=>exact two _ _ _ _ _ h2 s2 (one _ _ _ h0 s0) (one _ _ _ h1 s1)
 |1,_=>exact two _ _ _ _ _ h5 s5 (one _ _ _ h3 s3) (one _ _ _ h4 s4)
theorem Wh{w:World}{p:Nat}{x y z u v:Value}{tmps:Array Value}(h:w.heap[p]?=some (.cells #[x,y,z,u] 27 (0,0)))(hp:tmps[0]?.getD undef=.pointer (some ⟨p,0,none⟩))(hv:tmps[1]?.getD undef=v):
  (results Tryz.f26 tmps).run Tryz.prog w=.ok (.tuple #[.agg #[x,y,z,u],v]) w:=by
 obtain⟨⟨h0,h1,h2,h3⟩, -⟩:=bC h;simp[results,Tryz.results26,go_sem,hp,hv,h0,h1,h2,h3]
def ExP(w:World)(e:Ending)(w':World):Prop:=∃h g,e=.returned (.tuple #[.agg #[.int .i64 0,.slice (some ⟨h,0,none⟩) 2 2,.slice none 0 0,.slice none 0 0],.slice (some ⟨g,0,none⟩) 2 2])/\
 d9 (·<w'.heap.size) w' (.agg #[.int .i64 0,.slice (some ⟨h,0,none⟩) 2 2,.slice none 0 0,.slice none 0 0]) xE/\bN (·<w'.heap.size) w' (.slice (some ⟨g,0,none⟩) 2 2) Cz.exW/\BL w w'
theorem Gv(w:World):Calls Tryz.prog 26 #[] w (ExP w):=by
 go_enter Tryz.func26,Tryz.ntmps26;go_wp2;refine bodyPost_ret (Wh (p:=w.heap.size) o8 rfl rfl) rfl ?_
 refine⟨_,_,rfl,schE (g:=w.heap.size+1) (g':=w.heap.size+1+1+1) o8 o8 o8 bp bp bp,
  abz 7 5 8 3 2 0 1 0 (g5:=w.heap.size+1+1+1+1+1+1+1+1+1+1+1) (g6:=w.heap.size+1+1+1+1+1+1+1+1+1+1+1+1) (g2:=w.heap.size+1+1+1+1+1+1+1+1) (g0:=w.heap.size+1+1+1+1+1+1) (g1:=w.heap.size+1+1+1+1+1+1+1) o8 o8 o8 (g3:=w.heap.size+1+1+1+1+1+1+1+1+1) (g4:=w.heap.size+1+1+1+1+1+1+1+1+1+1) o8 o8 o8 o8 bp bp bp bp bp bp bp,
  by repeat (first|exact aF|refine Below.alloc ?_ Ea _)⟩
theorem tj.top{tb:Nat}{x:ah.cA}{W:ah.eE}{v u:Value}{B:Nat}{w:World}(h:tj tb x W v u B w):tj tb x W v u w.heap.size w where
 tM:=h.tM.mono (fun _ hb _=>hb)
 wj:=h.wj.mono (fun _ hb _=>hb)
 laid:=h.laid
 tab:=h.tab
 Vp:=lg h.Vp h.le
 size:=Nat.le_trans h.size h.le
 le:=aH
theorem Wi:Cz.l7 Cz.YG Cz.exU where
 lk:=rfl
 r k i hk hi:=by
  have hk:k<2:=hk;have h:k=0\/k=1:=aB
  rcases h with rfl|rfl<;>(have hi:i<2:=hi;have h:i=0\/i=1:=by omega)<;>rcases h with rfl|rfl<;>rfl
 ref k i f hk hi hf hr:=by
  have hk:k<2:=hk;have h:k=0\/k=1:=aB
  rcases h with rfl|rfl
  ·have hf:f<2:=hf
   have h:f=0\/f=1:=aB
   rcases h with rfl|rfl<;>exact absurd hr fH
  ·have hf:f<2:=hf
   have h:f=0\/f=1:=aB
   rcases h with rfl|rfl
   ·exact absurd hr fH
   ·have hi:i<2:=hi
    have h:i=0\/i=1:=aB
    rcases h with rfl|rfl<;>exact⟨fH,fH,fH⟩
 code:=Cz.Lc.code
theorem zX(W:Cz.Wd)(hW:W.length=2)(hfit:Cz.l7 Cz.YG W)(h5:∀k,Cz.len W k<=1000)(hT:ah.total W<=512)(h g:Nat)(tb:Nat)(w:World)
  (ha:tj tb xE W (.agg #[.int .i64 0,.slice (some ⟨h,0,none⟩) 2 2,.slice none 0 0,.slice none 0 0]) (.slice (some ⟨g,0,none⟩) 2 2) w.heap.size w):
  Calls Tryz.prog 6 #[.agg #[.int .i64 0,.slice (some ⟨h,0,none⟩) 2 2,.slice none 0 0,.slice none 0 0],.slice (some ⟨g,0,none⟩) 2 2] w (mK (Cz.canon Cz.YG W) w):=by
 have:=CJ xE okE upE fH fH W (by rw[aeK];exact hfit) h5 hT (some ⟨h,0,none⟩) none none (some ⟨g,0,none⟩) 2 0 0 2 tb w (by rw[hW];exact ha);rw[aeK,hW] at this;exact this
theorem aeL(r0 r1:List (List Int))(h0:r0.length<=2)(h1:r1.length<=2):∀k,Cz.len [r0,r1] k<=1000:=by
 intro k;unfold Cz.len;match k with
 |0=>show r0.length<=1000;omega
 |1=>show r1.length<=1000;omega
 |k+2=>simp
theorem zY(tb:Nat)(w:World)(hlaid:LaidW w)(htab:TabC tb w):
  Calls Tryz.prog 7 #[] w fun e w'=>e=.returned (.bool true)/\BL w w':=by
 have HL:=hid hlaid;have HT:=hid htab;clear hlaid htab;go_enter Tryz.func7,Tryz.ntmps7;go_wp2_with fail;refine(Gv w).mono ?_;rintro e w1 ⟨h,g,rfl,hs,hw,hb1⟩;obtain⟨w2,hw2⟩:=bB (w1.alloc (.cells #[.int .i64 0,.slice (some ⟨h,0,none⟩) 2 2,.slice none 0 0,.slice none 0 0] 27));have hb2:BL w1 w2:=Zf
 have hbx:w2.heap[w1.heap.size]?=some (.cells #[.int .i64 0,.slice (some ⟨h,0,none⟩) 2 2,.slice none 0 0,.slice none 0 0] 27 (0,0)):=Ot
 have NJ:BL w w2:=cG hb1 hb2
 have Ci:Hid (tj tb xE Cz.exW (.agg #[.int .i64 0,.slice (some ⟨h,0,none⟩) 2 2,.slice none 0 0,.slice none 0 0]) (.slice (some ⟨g,0,none⟩) 2 2) w2.heap.size w2):=hid
  {tM:=(hs.keep (aD.below hb2)).mono (fun _ hb _=>hb)
   wj:=(hw.keep (aD.below hb2)).mono (fun _ hb _=>hb)
   laid:=HL.out.next NJ
   tab:=HT.out.below NJ HT.out.lt (by have:=HL.out.size;omega)
   Vp:=lg HT.out.lt NJ.size
   size:=Nat.le_trans HL.out.size NJ.size
   le:=aH}
 have MS:=hid (fun(X:World) (hX:BL w2 X)=>zX Cz.exW rfl Cz.Lc (aeL _ _ fH fH) fH h g tb X (Ci.out.next hX).top);have Ga:=hid hbx;have bX:=hid NJ;have HW2:=hid hw2;obtain⟨⟨y0,y1,y2,y3⟩, -⟩:=bC hbx;clear hs hw hb1 hw2 hb2 hbx NJ;go_upto_region 2 with fail;rw[<-HW2.out];go_wp2_with fail;refine(MS.out w2 aF).mono ?_;rintro e w3 ⟨hr,hb3⟩;rw[Cz.adN] at hr;obtain⟨av,nv,cv,rfl,hv⟩:=hr;have cE:=hid hb3;have HV:=hid (bU.sl hv);clear hb3 hv y0 y1 y2 y3;obtain⟨w4,Li⟩:=bB (((((((w3.alloc (.cells #[.int .i64 1,.int .i64 3] 3)).alloc (.cells #[.int .i64 2,.int .i64 5] 3)).alloc (.cells #[.slice (some ⟨w3.heap.size,0,none⟩) 2 2,.slice (some ⟨w3.heap.size+1,0,none⟩) 2 2] 22)).alloc (.cells #[.int .i64 9,.int .i64 1] 3)).alloc (.cells #[.int .i64 8,.int .i64 1] 3)).alloc (.cells #[.slice (some ⟨w3.heap.size+1+1+1,0,none⟩) 2 2,.slice (some ⟨w3.heap.size+1+1+1+1,0,none⟩) 2 2] 22)).alloc (.cells #[.slice (some ⟨w3.heap.size+1+1,0,none⟩) 2 2,.slice (some ⟨w3.heap.size+1+1+1+1+1,0,none⟩) 2 2] 42));have YQ:BL w3 w4:=by rw[Li];repeat (first|exact aF|refine Below.alloc ?_ Ea _)
 have YR:bN (·<w4.heap.size) w4 (.slice (some ⟨w3.heap.size+1+1+1+1+1+1,0,none⟩) 2 2) Cz.exU:=by
  rw[Li];exact abz 1 3 2 5 9 1 8 1 (g5:=w3.heap.size+1+1+1+1+1) (g6:=w3.heap.size+1+1+1+1+1+1) (g2:=w3.heap.size+1+1) (g0:=w3.heap.size) (g1:=w3.heap.size+1) JW JW JW (g3:=w3.heap.size+1+1+1) (g4:=w3.heap.size+1+1+1+1) JW JW JW JW Ea Ea Ea Ea Ea Ea Ea
 have aeM:=hid Li;have aeN:=hid YR;have zZ:=hid YQ;clear Li YR YQ
 have HCu:=hid (fun(X:World) (hX:BL w4 X)=>zX Cz.exU rfl Wi (aeL _ _ fH fH) fH h (w3.heap.size+1+1+1+1+1+1) tb X (tj.next (w:=w4)
  {tM:=(Ci.out.next (cG cE.out zZ.out)).top.tM
   wj:=aeN.out
   laid:=(Ci.out.next (cG cE.out zZ.out)).laid
   tab:=(Ci.out.next (cG cE.out zZ.out)).tab
   Vp:=(Ci.out.next (cG cE.out zZ.out)).top.Vp
   size:=(Ci.out.next (cG cE.out zZ.out)).top.size
   le:=aH} hX).top)
 go_upto_region 4 with fail;rw[<-aeM.out];obtain⟨w5,Lj⟩:=bB (((((((w4.alloc (.cells #[.int .i64 0,.int .i64 3] 3)).alloc (.cells #[.int .i64 0,.int .i64 5] 3)).alloc (.cells #[.slice (some ⟨w4.heap.size,0,none⟩) 2 2,.slice (some ⟨w4.heap.size+1,0,none⟩) 2 2] 22)).alloc (.cells #[.int .i64 0,.int .i64 1] 3)).alloc (.cells #[.int .i64 0,.int .i64 1] 3)).alloc (.cells #[.slice (some ⟨w4.heap.size+1+1+1,0,none⟩) 2 2,.slice (some ⟨w4.heap.size+1+1+1+1,0,none⟩) 2 2] 22)).alloc (.cells #[.slice (some ⟨w4.heap.size+1+1,0,none⟩) 2 2,.slice (some ⟨w4.heap.size+1+1+1+1+1,0,none⟩) 2 2] 42));have YS:BL w4 w5:=by rw[Lj];repeat (first|exact aF|refine Below.alloc ?_ Ea _)
 have YT:bN (·<w5.heap.size) w5 (.slice (some ⟨w4.heap.size+1+1+1+1+1+1,0,none⟩) 2 2) Cz.exV:=by
  rw[Lj];exact abz 0 3 0 5 0 1 0 1 (g5:=w4.heap.size+1+1+1+1+1) (g6:=w4.heap.size+1+1+1+1+1+1) (g2:=w4.heap.size+1+1) (g0:=w4.heap.size) (g1:=w4.heap.size+1) JW JW JW (g3:=w4.heap.size+1+1+1) (g4:=w4.heap.size+1+1+1+1) JW JW JW JW Ea Ea Ea Ea Ea Ea Ea
 have aeO:=hid Lj;have aeP:=hid YT;have YU:=hid YS;clear Lj YT YS;have iD:=aU zZ YU.out;have HSm:=hid (Bm Cz.exV (.slice av nv cv) (.slice (some ⟨w4.heap.size+1+1+1+1+1+1,0,none⟩) 2 2) _ _ w5 (HV.out.keep (aD.below iD.out)) aeP.out);go_wp2_with fail;rw[<-aeO.out];refine HSm.out.mono ?_;rintro e w6 ⟨rfl,rS⟩;have qp:=aU YU rS;have abA:=hid (cG cE.out (cG zZ.out qp.out))
 have VN:=hid (zM (some Cz.exV) (some Cz.exV) 0 (some ⟨h,0,none⟩) none none (some ⟨g,0,none⟩) (some ⟨w3.heap.size+1+1+1+1+1+1,0,none⟩) 2 2 0 0 0 0 2 2 2 2 w6
  (fun X hX=>by
   have:=MS.out X (cG abA.out hX);rwa [Cz.adN] at this)
  (fun X hX=>by
   have:=HCu.out X (cG qp.out hX);rwa [Cz.ex_u] at this))
 obtain⟨⟨y0,y1,y2,y3⟩, -⟩:=bC ((abA.out.block _ (aC Ga.out)).trans Ga.out);have Iu:=aU bX abA.out;clear rS HSm;go_wp2_with fail;refine VN.out.mono ?_;rintro e w7 ⟨rfl,oV⟩;have HBf:=aU Iu oV;have hlk:Gf (some Cz.exV) (some Cz.exV)=true:=fH
 clear oV y0 y1 y2 y3;rw[hlk];go_wp2;go_ret;exact⟨rfl,HBf.out⟩
theorem NK(k n:Nat):(Sub.A4 k (List.replicate n true)).length=n:=by
 rw[<-Sub.qw,List.length_replicate]
 have key:∀i,i<=n->(Sub.nN k (List.replicate n true) i).length=i:=by
  intro i;induction i with
  |zero=>intro _;rfl
  |succ i ih=>
   intro hi
   rw[Sub.oC,xP,ih aB]
   have:(List.replicate n true).getD i false=true:=by rw[Sub.aQ lC];simp
   rw[if_pos this]
   rfl
 exact key n aH
theorem CK(W:ah.eE):Sub.size (gP W)=ah.total W:=by
 have key:∀k,k<=W.length->(Sub.jG (gP W) k).length=((W.take k).map List.length).sum:=by
  intro k;induction k with
  |zero=>intro _;rfl
  |succ k ih=>
   intro hk
   have hk':k<W.length:=aB
   rw[Sub.lU,xP,ih aB,CY hk']
   have e:(gP W).getD k []=List.replicate W[k].length true:=by
    rw[Sub.aQ (by simp[gP];omega)];simp[gP]
   rw[e,NK]
   simp only[List.map_append,List.sum_append,List.map_cons,List.map_nil,List.sum_cons,List.sum_nil,Nat.add_zero]
 have h1:=key W.length aH;rw[List.take_length] at h1;unfold Sub.size ah.total;rw[<-h1,<-Sub.Ce];simp[gP]
theorem Gw(W:ah.eE)(h:ah.total W<=1000000)(t:Value)(U:Nat->Prop)(w:World)(hs:kI U w t (gP W)):
  Calls Tryz.prog 10 #[t] w fun e w'=>e=.returned (.int .i64 (ah.total W:Nat))/\BL w w':=by
 rw[<-CK];exact(Dr.MX (gP W) (by rw[CK];exact h) t U w hs).mono fun _ _ h=>⟨h.1,h.2.toB⟩
theorem z8{w v:Cz.Wd}(h1:v.length=w.length)(h2:∀k,k<w.length->Cz.len v k=Cz.len w k):Cz.total v=Cz.total w:=by
 unfold Cz.total;rw[Cz.iT v [],Cz.iT w [],h1,List.map_map,List.map_map];congr 1;refine List.map_congr_left fun k hk=>?_;exact h2 k wK
theorem JV{W:Cz.Wd}(k i f:Nat)(y:Int):Cz.total (Cz.jg W k i f y)=Cz.total W:=
 z8 (by unfold Cz.jg;simp) (fun j _=>Cz.nT W k i f y j)
theorem xI{W:ah.eE}{k i:Nat}(hk:k<W.length)(hi:i<W[k].length)(f:Nat)(y:Int):Cz.jg W k i f y=W.set k (W[k].set i (W[k][i].set f y)):=by
 unfold Cz.jg Cz.row;rw[Cz.aQ hk,Cz.aQ hi]
theorem NM{W:ah.eE}{k i f:Nat}(hk:k<W.length)(hi:i<Cz.len W k)(hf:f<(Cz.row W k i).length)(y:Int):Cz.jg (Cz.jg W k i f y) k i f (Cz.cell W k i f)=W:=by
 have hi':i<W[k].length:=Oh
 have hf':f<W[k][i].length:=by unfold Cz.row at hf;rwa [Cz.aQ hk,Cz.aQ hi'] at hf
 have hc:Cz.cell W k i f=W[k][i][f]:=by unfold Cz.cell Cz.row;rw[Cz.aQ hk,Cz.aQ hi',Cz.aQ hf']
 rw[hc,xI hk hi'];rw[xI wK (by simpa using hi')];simp
theorem Aa{S:Nat->Prop}{X:World}{v:Value}{W:ah.eE}(h:bU S X v W){k i:Nat}(hk:k<W.length)(hi:i<W[k].length)(hm:0<W[k][i].length):
  ∃go co gk ck gi ci,v=.slice (some ⟨go,0,none⟩) W.length co/\(X.cell? ⟨go,k,none⟩=some (.slice (some ⟨gk,0,none⟩) W[k].length ck)/\X.cell? ⟨gk,i,none⟩=some (.slice (some ⟨gi,0,none⟩) W[k][i].length ci)/\
   (∀j (hj:j<W[k][i].length),X.cell? ⟨gi,j,none⟩=some (.int .i64 W[k][i][j])/\X.frozen? ⟨gi,j,none⟩=false))/\
   (∀X',aD S X X'->∀j,j<W[k][i].length->∀y,bU S (X'.setCell ⟨gi,j,none⟩ (.int .i64 y)) v (Cz.jg W k i j y))/\S gi/\S go/\S gk/\go<X.heap.size/\gk<X.heap.size/\gi<X.heap.size:=by
 obtain⟨u,Sk,go,co,e1,h1,h2,h3,h4,h5,h6⟩:=gZ.inner ct h hk;obtain⟨u2,Si,gk,ck,e2,q1,q2,q3,q4,q5,q6⟩:=gZ.inner aX h2 hi;obtain⟨gi,ci,e3,p1,p2,p3,p4⟩:=eV q2.1 hm;have abB:Si gi:=q2.2 gi (by rw[e3];rfl);refine⟨go,co,gk,ck,gi,ci,e1,⟨by rw[h1,e2],by rw[q1,e3],fun j hj=>?_⟩,fun X' hX j hj y=>?_,h3 _ (q3 _ abB),h5,h3 _ q5,Ae X ⟨go,k,none⟩ h1,Ae X ⟨gk,i,none⟩ q1,(q2.1.lt gi (by rw[e3];rfl)).2⟩
 ·obtain⟨a1,a2⟩:=p4 j mP
  exact⟨by rw[a1];simp,a2⟩
 ·have hI:bg Si (X'.setCell ⟨gi,j,none⟩ (.int .i64 y)) u2 (W[k][i].set j y):=by
   have h0:=aX.keep q2 (fun b hb hlt=>hX b (h3 _ (q3 _ hb)) hlt)
   rw[e3] at h0 ⊢
   exact bg.set h0 rfl j y
  have hR:=q6 _ _ hI (fun b hb hlt=>(jQ _ _ _ _ (fun e=>hb.2 (by have e':b=gi:=e;rw[e'];exact abB))).trans (hX b (h3 _ hb.1) hlt));have hW:=h6 _ _ hR (fun b hb hlt=>(jQ _ _ _ _ (fun e=>hb.2 (by have e':b=gi:=e;rw[e'];exact q3 _ abB))).trans (hX b hb.1 hlt));rw[xI hk hi];exact hW
theorem Gx{S:Nat->Prop}{X:World}{v:Value}{W:ah.eE}{k i f:Nat}{y:Int}(h:bU S X v (Cz.jg W k i f y))(hk:k<W.length)(hi:i<W[k].length)(hm:0<W[k][i].length)(hf:f<W[k][i].length):
  ∃go co gk ck gi ci,v=.slice (some ⟨go,0,none⟩) W.length co/\X.cell? ⟨go,k,none⟩=some (.slice (some ⟨gk,0,none⟩) W[k].length ck)/\X.cell? ⟨gk,i,none⟩=some (.slice (some ⟨gi,0,none⟩) W[k][i].length ci)/\
   X.cell? ⟨gi,f,none⟩=some (.int .i64 y)/\X.frozen? ⟨gi,f,none⟩=false/\
   (∀X',aD S X X'->bU S (X'.setCell ⟨gi,f,none⟩ (.int .i64 W[k][i][f])) v W)/\S gi:=by
 have e:=xI hk hi f y;have hb:=NM hk (i:=i) (by unfold Cz.len;rw[Cz.aQ hk];exact hi) (f:=f) (by unfold Cz.row;rw[Cz.aQ hk,Cz.aQ hi];exact hf) y;have hc:Cz.cell W k i f=W[k][i][f]:=by unfold Cz.cell Cz.row;rw[Cz.aQ hk,Cz.aQ hi,Cz.aQ hf]
 rw[hc,e] at hb;rw[e] at h;obtain⟨go,co,gk,ck,gi,ci,e1,⟨r1,r2,r3⟩,hset,s1, -⟩:=Aa h (k:=k) (i:=i) wK Eh (by simpa using hm);obtain⟨p1,p2⟩:=r3 f GJ;refine⟨go,co,gk,ck,gi,ci,by simpa using e1,by simpa using r1,by simpa using r2,by simpa using p1,p2,fun X' hX=>?_,s1⟩;have:=hset X' hX f GJ W[k][i][f];rwa [hb] at this
theorem YV{p:Prop}(h:p:=by
  obtain⟨vk2,ck2, -,Rt⟩:=(bU.sl Wj.out).at hk
  obtain⟨ak2,cck2,rfl,hok2, -, -⟩:=Rt.form
  clear Rt
  clear hit
  go_wp2
  go_roundw
  case rel=>exact⟨k+1,aB,by go_num,Wj,Tq⟩
  simp[intOf]
  omega):p:=h
theorem YW{p:Prop}(h:p:=by
  go_wp2_with fail
  refine HLv.out.mono ?_
  rintro e we ⟨rfl,hbe⟩
  have Iu:=aU mQ hbe
  clear hbe
  go_wp2
  go_ret
  exact⟨rfl,Iu.out⟩):p:=h
theorem canonical_any(L M:List Int)(hL:Fit L)(hM:Fit M)(a b:Int)(ha1: -9223372036854775808<=a)(ha2:a<=9223372036854775807)(hb1: -9223372036854775808<=b)(hb2:b<=9223372036854775807)(v u:Value)(tb:Nat)(w:World)
  (hv:bq nV w v L)(hu:bq nV w u M)(hlaid:LaidW w)(htab:TabC tb w):
  Calls Tryz.prog 3 #[v,u,.int .i64 a,.int .i64 b] w fun e w'=>e=.returned (.bool true)/\BL w w':=by
 have HAB:=hid (And.intro ha1 (And.intro ha2 (And.intro hb1 hb2)));have HS:=hid (G9 L hL v w hv);have Ac:=hid hlaid;have U6:=hid htab;have XL:=hid (fun(X:World) (hX:BL w X)=>hu.keep (aD.below hX));have HM:=hid hM;clear ha1 ha2 hb1 hb2 hv hu hlaid htab hL hM;go_enter Tryz.func3,Tryz.ntmps3;go_wp2_with fail;refine HS.out.mono ?_;rintro e w1 ⟨sv,x,rfl,hg,Rp,aeQ⟩;have bT:Hid (BL w w1):=hid aeQ;obtain⟨ak,ck,al,cl,ar,cr,rfl, -, -, -,hsk, -, -⟩:=Rp.form;have hok:=ah.Ux hg;have Az:=hid hok;have HSv:=hid (d9.mono (S':=(·<w1.heap.size)) Rp (fun b hb _=>hb));have Av:=hid (ah.Uu hg);have U1:=bV.pY (bV.qn hok).1;have h10:x.aA.length<=10:=by have:=U1.1;omega
 have h6:x.aA.length<=6:=U1.1;have Gh:Hid (∀k∈x.aA,k.aG.length<=20):=hid (fun k hk=>by have:=(bV.lN (U1.2.2.2 k hk)).1;omega);clear aeQ Rp hok hg HS U1;obtain⟨w2,hw2⟩:=bB (dP w1 x.aL (.slice ak x.aA.length ck) (.slice al x.aP.length cl) (.slice ar x.aR.length cr));have bX:=wS hw2;have HX:Hid (∀X,BL w2 X->X.heap[w1.heap.size]?=some (.cells #[.int .i64 x.aL,.slice ak x.aA.length ck,.slice al x.aP.length cl,.slice ar x.aR.length cr] 27 (0,0))):=hid (fun X hX=>(hX.block _ (by rw[hw2];simp[dP])).trans (by rw[hw2];exact gA ..));unfold dP at hw2;have HW2:=hid hw2;clear hw2;have Wk:=aU bT bX.out
 have SF:Hid (∀(X:World) (W0:ah.eE) (aw:Option Addr) (cw:Nat),BL w2 X->Cz.l7 (aO x) W0->(∀k,Cz.len W0 k<=1000)->ah.total W0<=512->bN (·<X.heap.size) X (.slice aw W0.length cw) W0->CP 6 #[(.agg #[.int .i64 x.aL,.slice ak x.aA.length ck,.slice al x.aP.length cl,.slice ar x.aR.length cr]),.slice aw W0.length cw] X (mK (Cz.canon (aO x) W0) X)):=hid (fun X W0 aw cw hX hf h5 ht hw=>by
  have hBw:=cG Wk.out hX
  exact CJ x Az.out Av.out Gh.out h10 W0 hf h5 ht ak al ar aw ck cl cr cw tb X
   {tM:=d9.mono (HSv.out.keep (aD.below (cG bX.out hX))) (fun b h _=>h)
    wj:=hw
    laid:=Ac.out.next hBw
    tab:=U6.out.below hBw U6.out.lt Oz
    Vp:=lg U6.out.lt hBw.size
    size:=Nat.le_trans Ac.out.size hBw.size
    le:=aH})
 have HMd:=hid (RL x Av.out h10 Gh.out M HM.out (.agg #[.int .i64 x.aL,.slice ak x.aA.length ck,.slice al x.aP.length cl,.slice ar x.aR.length cr]) u _ _ w2 (HSv.out.keep (aD.below bX.out)) (XL.out w2 Wk.out));obtain⟨⟨y0,y1,y2,y3⟩, -⟩:=bC (HX.out w2 aF);go_upto_region 2 with fail;rw[<-HW2.out];go_wp2_with fail;refine HMd.out.mono ?_;rintro e w3 ⟨vw,W,rfl,hmo,hwf,hb3⟩;obtain⟨aw,cw,rfl,JF, -, -⟩:=(bU.sl hwf).form;have HMo:=hid hmo;have kX:=hid (RY hmo);have GH:Hid (W.length=x.aA.length):=hid hmo.len;have AX:W.length<=6:=by rw[GH.out];exact h6
 have H5:Hid (∀k,Cz.len W k<=1000):=hid (fun k=>by
  by_cases hk:k<W.length
  ·unfold Cz.len;rw[Cz.aQ hk];have:=hmo.five k hk;omega
  ·unfold Cz.len;rw[jm,List.getElem?_eq_none aB];simp)
 have sZ:Hid (ah.total W<=512):=hid (by
  have key:∀l:List (List (List Int)),(∀r∈l,r.length<=5)->(l.map List.length).sum<=5*l.length:=by
   intro l;induction l with
   |nil=>intro _;simp
   |cons c l ih=>
    intro hl
    have h1:=ih (fun r hr=>hl r (by simp[hr]))
    have h2:=hl c bp
    simp only[List.map_cons,List.sum_cons,List.length_cons]
    omega
  have:=key W (fun r hr=>by
   obtain⟨j,hj,rfl⟩:=List.getElem_of_mem hr;exact hmo.five j hj)
  unfold ah.total
  omega)
 have cE:=hid hb3;have Wm:Hid (bU (fun b=>w2.heap.size<=b/\b<w3.heap.size) w3 (.slice aw W.length cw) W):=hid (bM.mono hwf (fun b hlt hb=>⟨hb,hlt⟩));clear hmo hwf hb3 HMd y0 y1 y2 y3;obtain⟨⟨y0,y1,y2,y3⟩, -⟩:=bC (HX.out w3 cE.out);have Fu:=hid (SF.out w3 W aw cw cE.out kX.out H5.out sZ.out (bN.mono (bU.sl Wm.out) (fun b hb _=>hb)));go_wp2_with fail;refine Fu.out.mono ?_;rintro e w4 ⟨hr,hb4⟩;have gK:=aU cE hb4;have abC:=hid hb4;clear hb4 Fu y0 y1 y2 y3;cases hcn:Cz.canon (aO x) W with
 |none=>
  rw[hcn] at hr
  obtain rfl:=hr
  have mQ:=aU Wk gK.out
  have HLv:=hid (zY tb w4 (Ac.out.next mQ.out) (U6.out.below mQ.out U6.out.lt Oz))
  exact YW
 |some V=>
  rw[hcn] at hr
  obtain⟨av,nv,cv,rfl,hV⟩:=hr
  have MS:=hid hcn
  obtain⟨hfV,hcV,hlV,hkV⟩:=Cz.Jm kX.out hcn
  obtain⟨av',cv',hvv,aeR, -, -⟩:=(bU.sl hV).form
  have hnv:nv=V.length:=congrArg (fun v=>match v with| .slice _ n _=>n|_=>0) hvv
  subst hnv
  have hokv2:dX av V.length:=by
   have h1:av=av':=congrArg (fun v=>match v with| .slice a _ _=>a|_=>none) hvv;rw[h1];exact aeR
  have HVf:=hid hfV
  have HVc:=hid hcV
  have HVl:=hid hlV
  have HVk:=hid hkV
  have HV4:Hid (bN (w3.heap.size<=·) w4 (.slice av V.length cv) V):=hid (bU.sl hV)
  have HV5:Hid (∀k,Cz.len V k<=1000):=hid (fun k=>by
   by_cases hk:k<W.length
   ·rw[hkV k hk];exact H5.out k
   ·unfold Cz.len;rw[jm,List.getElem?_eq_none (by rw[hlV];omega)];simp)
  have HVt:Hid (ah.total V=ah.total W):=hid (z8 hlV hkV)
  clear hcn hV hfV hcV hlV hkV hvv aeR
  obtain⟨⟨y0,y1,y2,y3⟩, -⟩:=bC (HX.out w4 gK.out)
  have Au:=hid (SF.out w4 V av cv gK.out HVf.out HV5.out (by rw[HVt.out];exact sZ.out) (bN.mono HV4.out (fun b hb _=>hb)))
  rw[HVc.out] at Au
  go_wp2_with fail
  refine Au.out.mono ?_
  rintro e w5 ⟨⟨au,nu,cu,rfl,hU⟩,jd⟩
  have HB45:=hid jd
  have iD:=aU gK jd
  have HSa:=hid (Cp V V (.slice av V.length cv) (.slice au nu cu) _ _ w5 (HV4.out.keep (aD.below jd)) (bU.sl hU))
  rw[decide_eq_true rfl] at HSa
  clear hU jd Au y0 y1 y2 y3
  go_wp2_with fail
  refine HSa.out.mono ?_
  rintro e w6 ⟨rfl,rS⟩
  have abD:=aU HB45 rS
  have qp:=aU iD rS
  clear rS HSa
  have HCW:Hid (∀X,BL w4 X->CP 6 #[(.agg #[.int .i64 x.aL,.slice ak x.aA.length ck,.slice al x.aP.length cl,.slice ar x.aR.length cr]),.slice aw W.length cw] X (mK (some V) X)):=hid (fun X hX=>by
   have hB4X:=cG gK.out hX;have:=SF.out X W aw cw hB4X kX.out H5.out sZ.out (bN.mono ((bU.sl Wm.out).keep (aD.below (cG abC.out hX))) (fun b hb _=>hb));rwa [MS.out] at this)
  have HCV:Hid (∀X,BL w2 X->bN (·<X.heap.size) X (.slice av V.length cv) V->CP 6 #[(.agg #[.int .i64 x.aL,.slice ak x.aA.length ck,.slice al x.aP.length cl,.slice ar x.aR.length cr]),.slice av V.length cv] X (mK (some V) X)):=hid (fun X hX hv=>by
   have:=SF.out X V av cv hX HVf.out HV5.out (by rw[HVt.out];exact sZ.out) hv;rwa [HVc.out] at this)
  have VN:=hid (zM (some V) (some V) x.aL ak al ar aw av x.aA.length ck x.aP.length cl x.aR.length cr W.length cw V.length cv w6
   (fun X hX=>HCW.out X (cG abD.out hX))
   (fun X hX=>HCV.out X (cG qp.out hX) (bN.mono (HV4.out.keep (aD.below (cG abD.out hX))) (fun b hb _=>hb))))
  have hlk:Gf (some V) (some V)=true:=decide_eq_true rfl
  rw[hlk] at VN
  obtain⟨⟨y0,y1,y2,y3⟩, -⟩:=bC (HX.out w6 qp.out)
  clear hlk
  go_wp2_with fail
  refine VN.out.mono ?_
  rintro e w7 ⟨rfl,oV⟩
  have aeS:=aU abD oV
  have HFv:=hid (fun(X:World) (hX:BL w4 X)=>uJ V (by rw[HVl.out];omega) (fun r hr=>by
   obtain⟨j,hj,rfl⟩:=List.getElem_of_mem hr;have:=HV5.out j;unfold Cz.len at this;rw[Cz.aQ hj] at this;omega) (.slice av V.length cv) _ X (HV4.out.keep (aD.below hX)))
  have HFw:=hid (fun(X:World) (hX:BL w4 X)=>uJ W aB (fun r hr=>by
   obtain⟨j,hj,rfl⟩:=List.getElem_of_mem hr;have:=H5.out j;unfold Cz.len at this;rw[Cz.aQ hj] at this;omega) (.slice aw W.length cw) _ X ((bU.sl Wm.out).keep (aD.below (cG abC.out hX))))
  clear oV VN y0 y1 y2 y3
  go_wp2_with fail
  refine(HFv.out w7 aeS.out).mono ?_
  rintro e w8 ⟨g8,rfl,hs8,lZ⟩
  have HB48:=aU aeS lZ
  have HZv:=hid (Gw V (by rw[HVt.out];have:=sZ.out;omega) _ _ w8 (kJ.sl hs8))
  rw[HVt.out] at HZv
  clear hs8 lZ
  go_wp2_with fail
  refine HZv.out.mono ?_
  rintro e w8b ⟨rfl,lZ⟩
  have YX:=aU HB48 lZ
  clear lZ HZv
  go_wp2_with fail
  refine(HFw.out w8b YX.out).mono ?_
  rintro e w8c ⟨g8c,rfl,hs8,lZ⟩
  have aeT:=aU YX lZ
  have HZw:=hid (Gw W (by have:=sZ.out;omega) _ _ w8c (kJ.sl hs8))
  clear hs8 lZ
  obtain⟨tt,tH⟩:=bB (ah.total W)
  rw[<-tH] at HZw ⊢
  clear tH
  have hnt:((tt:Int) !=(tt:Int))=false:=OH rfl
  go_wp2_with fail
  refine HZw.out.mono ?_
  rintro e w9 ⟨rfl,SV⟩
  have abE:=aU aeT SV
  have mR:=aU gK abE.out
  have HWf9:=hid (bM.keep Wm.out (aD.below (cG abC.out abE.out)))
  have HV9:=hid (HV4.out.keep (aD.below abE.out))
  clear SV HZw
  go_wp2
  clear hnt
  go_loopw [15] (fun kk wr=>∃k:Nat,k<=W.length/\kk=.int .i64 k/\Hid (bU (fun b=>w2.heap.size<=b/\b<w3.heap.size) wr (.slice aw W.length cw) W)/\Hid (Turns (fun b=>w2.heap.size<=b/\b<w3.heap.size) w9 wr)) (fun kk _=>W.length-(intOf kk).toNat)
  case atStart=>exact⟨0,Nat.zero_le _,rfl,HWf9,hid (Turns.refl _ _)⟩
  case round=>
   obtain⟨k,hkl,rfl,Wj,Tq⟩:=hrel;have jF:Hid (BL w2 wr):=hid (mR.out.trans (Tq.out.below mR.out.size (fun b hb=>hb.1)));obtain⟨⟨-,y1, -, -⟩, -⟩:=bC (HX.out wr jF.out);by_cases hk:k<W.length
   ·have hkx:k<x.aA.length:=by rw[<-GH.out];exact hk
    have hkV:k<V.length:=by rw[HVl.out];exact hk
    have hk0:(0:Int)<=(k:Int):=aB
    have hk1:(k:Int)<(W.length:Int):=aB
    have adT:(k:Int)<(x.aA.length:Int):=aB
    have hkV1:(k:Int)<(V.length:Int):=aB
    obtain⟨vk,ck1, -,hkk⟩:=(bU.sl Wj.out).at hk;obtain⟨ak1,cck1,rfl,FI, -, -⟩:=hkk.form;obtain⟨vV,cV1, -,hVV⟩:=(HV9.out.keep (Tq.out.keep (fun b hb h=>by have h9:w3.heap.size<=b:=hb;have:=h.2;omega))).at hkV;obtain⟨aV1,ccV1,rfl,aeU, -, -⟩:=hVV.form
    have hlk:V[k].length=W[k].length:=by
     have:=HVk.out k hk;unfold Cz.len at this;rwa [Cz.aQ hkV,Cz.aQ hk] at this
    rw[hlk] at cV1 aeU;have hne:((W[k].length:Int) !=(W[k].length:Int))=false:=OH rfl;have h5k:W[k].length<=5:=HMo.out.five k hk;obtain⟨af,cf,hsf,hkd⟩:=HSv.out.Ld hkx;have p9:=hid hkd;have HWd:Hid (∀n,bU (fun b=>w2.heap.size<=b/\b<w3.heap.size) (wr.drewN n) (.slice aw W.length cw) W):=hid (fun n=>bM.keep Wj.out (fun _ _ _=>rfl));have HTd:Hid (∀n,Turns (fun b=>w2.heap.size<=b/\b<w3.heap.size) w9 (wr.drewN n)):=hid (fun n=>Tq.out.trans (Turns.aS (aI aF n)));clear hkk hVV hlk hkd;go_wp2;go_quiet (fail);generalize hWz:wr.drewN nq=wz at*;have HWz:=hid (HWd.out nq);have HTz:=hid (HTd.out nq);rw[hWz] at HWz HTz;clear hWz ck1 cV1 y1 hne HWd HTd Wj Tq jF;go_wp2;generalize hWy:wz=wy at*;clear hWy;go_loopw [16] (fun ii wr=>∃i:Nat,i<=W[k].length/\ii=.int .i64 i/\Hid (bU (fun b=>w2.heap.size<=b/\b<w3.heap.size) wr (.slice aw W.length cw) W)/\Hid (Turns (fun b=>w2.heap.size<=b/\b<w3.heap.size) w9 wr)) (fun ii _=>W[k].length-(intOf ii).toNat);case atStart=>exact⟨0,Nat.zero_le _,rfl,HWz,HTz⟩
    case round=>
     obtain⟨i,hil,rfl,Wj,Tq⟩:=hrel;by_cases hit:i<W[k].length/\i<2
     ·obtain⟨hi,hi2⟩:=hit
      have hi0:(0:Int)<=(i:Int):=aB
      have hi1:(i:Int)<(W[k].length:Int):=aB
      have hi2':(i:Int)<(2:Int):=aB
      have hlen:Cz.len W k=W[k].length:=Zh
      have hrl:W[k][i].length=x.aA[k].aG.length:=by
       have:=kX.out.r k i hk (by rw[hlen];exact hi);rw[dc x hkx,dU hkx] at this;unfold Cz.row at this;rwa [Cz.aQ hk,Cz.aQ hi] at this
      have hm0:0<W[k][i].length:=by rw[hrl,<-dU hkx];exact(mA ((bV.qn Az.out).2 k hkx).1).2.1
      have hm20:W[k][i].length<=20:=by rw[hrl];exact Gh.out _ (gm hkx)
      obtain⟨go,co,gk,JX,gi,ci,hv,⟨r1o,r2,r3⟩,hset,s1,s2,s3,l1,l2,l3⟩:=Aa Wj.out hk hi hm0;have haw:aw=some ⟨go,0,none⟩:=(show aw=some ⟨go,0,none⟩/\cw=co by simpa using hv).1;have r1:wr.cell? ⟨bL aw,bP aw+k,none⟩=some (.slice (some ⟨gk,0,none⟩) W[k].length JX):=by rw[haw];simpa using r1o
      have hgo:go=bL aw:=(congrArg bL haw).symm;clear hv haw r1o;subst hgo;have hz:=tN a W[k][i].length aB;obtain⟨j,hj⟩:∃j:Nat,around a (W[k][i].length:Int)=(j:Int):=⟨(around a (W[k][i].length:Int)).toNat,aB⟩;have Yr:=hid (fun(X:World)=>qV a (W[k][i].length:Int) X HAB.out.1 HAB.out.2.1 aB aB);rw[hj] at hz Yr;have hjm:j<W[k][i].length:=aB
      obtain⟨rv,rf⟩:=r3 j hjm;have rP:j<x.aA[k].aG.length:=by rw[<-hrl];exact hjm
      have jF:Hid (BL w2 wr):=hid (mR.out.trans (Tq.out.below mR.out.size (fun b hb=>hb.1)));have HB1r:=aU bX jF.out;obtain⟨k0,k1,k2,k3,hfl⟩:=p9.out wr (aD.aS HB1r.out (fun b hb=>hb));obtain⟨-, -, -, -, -,f3, -⟩:=dh.at hfl rP;rw[show x.aA[k].aG[j]=ah.fd x k j from (nA hkx rP).symm] at f3;obtain⟨-,y1, -, -⟩:=(bC (HX.out wr jF.out)).1;have Un:=hid (((HMo.out.rF k hk _ (gm hi)).2 j hjm).2);have rI:Hid (¬(ah.fd x k j).kind=0->¬(ah.fd x k j).kind=1->Cz.fk (aO x) k j= -2):=hid (fun h0 h1=>by rw[oI x hkx Ov];unfold jf;rw[if_neg h0,if_neg h1]);have YZ:Hid (Cz.cell W k i j=W[k][i][j]):=hid (by unfold Cz.cell Cz.row;rw[Cz.aQ hk,Cz.aQ hi,Cz.aQ hjm]);have FK:Hid (Cz.row W k i=W[k][i]):=hid (by unfold Cz.row;rw[Cz.aQ hk,Cz.aQ hi]);have QM:=hid hset;have Vg:=hid (And.intro l1 (And.intro l2 l3));have HSs:=hid (And.intro s1 (And.intro s2 s3));have HJf:=hid rP;have HHi:=hid (show i<Cz.len W k by rw[hlen];exact hi);have hj0:(0:Int)<=(j:Int):=aB
      have hj1:(j:Int)<(W[k][i].length:Int):=aB
      have hjx:(j:Int)<(x.aA[k].aG.length:Int):=aB
      have Be:=hid hrl;clear hfl hset hz s1 s2 s3 l1 l2 l3 hlen hj r3 hrl k0 k1 k2;generalize kT:(ah.fd x k j).kind=fk at*;clear kT;obtain⟨old,hold⟩:=bB (W[k][i][j]);rw[<-hold] at rv Un YZ;have HOld:=hid hold;clear hold;obtain⟨nr,nM⟩:=bB (W[k][i].length);rw[<-nM] at r2 Yr hj1 hm20;have wg:=hid nM;clear nM;go_wp2_with fail;refine(Yr.out _).mono ?_;rintro e w' ⟨rfl,rfl⟩;by_cases h0:fk=0
      ·have e0:(fk==0)=true:=Lx h0
       clear h0;go_wp2;go_roundw;case rel=>exact⟨i+1,aB,by go_num,Wj,Tq⟩
       simp[intOf];omega
      ·by_cases h1:fk=1
       ·have e0:(fk==0)=false:=nU h0
        have e1:(fk==1)=true:=Lx h1;clear h0 h1;go_wp2;go_roundw;case rel=>exact⟨i+1,aB,by go_num,Wj,Tq⟩
        simp[intOf];omega
       ·have e0:(fk==0)=false:=nU h0
        have e1:(fk==1)=false:=nU h1;have DZ:=hid (rI.out h0 h1);clear h0 h1;obtain⟨z,hzd⟩:=bB (around b 5);have Yk:=tN b 5 aB;have VT:=hid (fun(X:World)=>qV b 5 X HAB.out.2.2.1 HAB.out.2.2.2 aB aB);rw[<-hzd] at Yk VT;clear hzd;have hrng:=Un.out;have lgo:=Vg.out.1;have lgk:=Vg.out.2.1;have lgi:=Vg.out.2.2;have Vf:=hid rv;have Av:=hid rf;have HR1:=hid r1;have vU:=hid r2;go_wp2;have MQ:=eO wr ⟨bL aw,bP aw+k,none⟩ (.slice (some ⟨gk,0,none⟩) W[k].length JX) fun xh=>(xh.2.cell (p:=⟨bL aw,bP aw+k,none⟩) Vg.out.1).trans HR1.out;have Jd:=eO wr ⟨gk,i,none⟩ (.slice (some ⟨gi,0,none⟩) nr ci) fun xh=>(xh.2.cell (p:=⟨gk,i,none⟩) Vg.out.2.1).trans vU.out;refine aZ 13 (.quiet 0 (.quiet 1 (.quiet 2 (.quiet 3 (.quiet 4 (.quiet 5 (.quiet 6 (.quiet 7 (.quiet 8 (.quiet 9 (.quiet 10 (.one 11 (.quiet 12 .done))))))))))))) (BL wr) oL (by kernel_rfl) (aI aF 1) ?_;have HCb:=hid (aI (Below.refl wr.heap.size wr) 1);have HSd:Hid (∀y,bU (fun b=>w2.heap.size<=b/\b<w3.heap.size) ((wr.drewN 1).setCell ⟨gi,j,none⟩ (.int .i64 y)) (.slice aw W.length cw) (Cz.jg W k i j y)):=hid (fun y=>QM.out _ (aD.below (aI aF 1)) j (by rw[<-wg.out];omega) y);have HTd:Hid (Turns (fun b=>w2.heap.size<=b/\b<w3.heap.size) w9 (wr.drewN 1)):=hid (Tq.out.trans (Turns.aS (aI aF 1)));have rv2:(wr.drewN 1).cell? ⟨gi,j,none⟩=some (.int .i64 old):=Vf.out;have rf2:(wr.drewN 1).frozen? ⟨gi,j,none⟩=false:=Av.out;clear rv rf;generalize wr.drewN 1=wd at*
        iterate 11 refine fE ?_
        refine aT rfl ?_;go_wp2_with fail;refine(VT.out _).mono ?_;rintro e w' ⟨rfl,rfl⟩;go_wp2_with fail;refine aJ (BL wr) (fun _ h=>h) HCb.out ?_;refine fE ?_;refine bh ?_;try simp only[jZ,jP]
        clear MQ Jd;go_upto_region 22 with fail;obtain⟨y,hy⟩:=bB (old+1+z);rw[<-hy];have HYo:Hid (y≠old):=hid aB;obtain⟨ws,Ai⟩:=bB (wd.setCell ⟨gi,j,none⟩ (.int .i64 y));have YK:Hid (bU (fun b=>w2.heap.size<=b/\b<w3.heap.size) ws (.slice aw W.length cw) (Cz.jg W k i j y)):=hid (by rw[Ai];exact HSd.out y);have Oa:Hid (Turns (fun b=>w2.heap.size<=b/\b<w3.heap.size) w9 ws):=hid (by rw[Ai];exact HTd.out.setCell _ _ HSs.out.1);have tJ:Hid (BL w2 ws):=hid (mR.out.trans (Oa.out.below mR.out.size (fun b hb=>hb.1)));rw[<-Ai];clear Ai hy rv2 rf2 r1 r2 lgo lgk lgi HSd HTd HCb;have HHf:Hid (j<((aO x).getD k []).length):=hid (by rw[dc x hkx,dU hkx];exact HJf.out);have hlW:(Cz.jg W k i j y).length=W.length:=by unfold Cz.jg;simp
        have Ao:Hid (∀X,BL ws X->CP 6 #[(.agg #[.int .i64 x.aL,.slice ak x.aA.length ck,.slice al x.aP.length cl,.slice ar x.aR.length cr]),.slice aw W.length cw] X (mK (Cz.canon (aO x) (Cz.jg W k i j y)) X)):=hid (fun X hX=>by
         have h:=SF.out X (Cz.jg W k i j y) aw cw (cG tJ.out hX) (Cz.Ge kX.out hk HHi.out HHf.out DZ.out y) (fun q=>by rw[Cz.nT];exact H5.out q) (by show Cz.total _<=512;rw[JV];exact sZ.out) (by rw[hlW];exact bN.mono ((bU.sl YK.out).keep (aD.below hX)) (fun b hb _=>hb));rw[hlW] at h;exact h)
        have HVs:=hid (HV9.out.keep (Oa.out.keep (fun b hb h=>by have h9:w3.heap.size<=b:=hb;have:=h.2;omega)))
        have HAs:=hid (zM (Cz.canon (aO x) (Cz.jg W k i j y)) (some V) x.aL ak al ar aw av x.aA.length ck x.aP.length cl x.aR.length cr W.length cw V.length cv ws Ao.out
         (fun X hX=>HCV.out X (cG tJ.out hX) (bN.mono (HVs.out.keep (aD.below hX)) (fun b hb _=>hb))))
        have hlk:Gf (Cz.canon (aO x) (Cz.jg W k i j y)) (some V)=false:=by
         cases h':Cz.canon (aO x) (Cz.jg W k i j y) with
         |none=>rfl
         |some v'=>exact decide_eq_false (fun e=>Cz.JD kX.out hk HHi.out HHf.out DZ.out (y:=y) (by rw[YZ.out];exact HYo.out) MS.out h' e.symm)
        rw[hlk] at HAs;clear hlk Ao hlW HVs Vf Av HR1 vU;obtain⟨⟨y0,y1',y2,y3⟩, -⟩:=bC (HX.out ws tJ.out);go_wp2_with fail;refine HAs.out.mono ?_;rintro e wa ⟨rfl,hba⟩;have HBa:=hid hba;have HWa:=hid (bM.keep YK.out (aD.below hba));have HTa:Hid (Turns (fun b=>w2.heap.size<=b/\b<w3.heap.size) w9 wa):=hid (Oa.out.trans (Turns.aS hba));obtain⟨go',co',gk',ck2,gi',ci2,hv',q1o,q2,q3,q4,SH,s1'⟩:=Gx HWa.out hk hi hm0 (by rw[<-wg.out];omega);have haw:aw=some ⟨go',0,none⟩:=(show aw=some ⟨go',0,none⟩/\cw=co' by simpa using hv').1;have q1:wa.cell? ⟨bL aw,bP aw+k,none⟩=some (.slice (some ⟨gk',0,none⟩) W[k].length ck2):=by rw[haw];simpa using q1o
        have hgo:go'=bL aw:=(congrArg bL haw).symm;clear hv' haw q1o;subst hgo;rw[<-wg.out] at q2;rw[<-HOld.out] at SH;have aeV:=hid SH;have wP:=hid s1';clear SH s1' hba HAs y0 y1' y2 y3 YK Oa HYo;go_upto_region 16 with fail;obtain⟨we,hwe⟩:=bB (wa.setCell ⟨gi',j,none⟩ (.int .i64 old));have HWe:Hid (bU (fun b=>w2.heap.size<=b/\b<w3.heap.size) we (.slice aw W.length cw) W):=hid (by rw[hwe];exact aeV.out wa (fun _ _ _=>rfl));have HTe:Hid (Turns (fun b=>w2.heap.size<=b/\b<w3.heap.size) w9 we):=hid (by rw[hwe];exact HTa.out.setCell _ _ wP.out);rw[<-hwe];clear hwe q1 q2 q3 q4;go_wp2;go_roundw;case rel=>exact⟨i+1,aB,by go_num,HWe,HTe⟩
        simp[intOf];omega
     ·by_cases h1:i<W[k].length
      ·have h2:¬i<2:=fun h=>hit ⟨h1,h⟩
       have h1':(i:Int)<(W[k].length:Int):=aB
       have h2':¬(i:Int)<(2:Int):=aB
       exact YV
      ·have h1':¬(i:Int)<(W[k].length:Int):=by omega
       exact YV
   ·obtain rfl:k=W.length:=by omega
    have mQ:=aU Wk jF.out;have HLv:=hid (zY tb wr (Ac.out.next mQ.out) (U6.out.below mQ.out U6.out.lt Oz));clear y1;exact YW
end Go.Proofs.YtibacilhkciihaaGreatDoor
