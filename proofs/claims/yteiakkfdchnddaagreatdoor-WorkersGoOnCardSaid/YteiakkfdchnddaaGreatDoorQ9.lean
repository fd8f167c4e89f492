/- Part 9 of the walks and plain laws that the proof needs (packed). -/
import Derived.Laws.EntriesVeiled
import Derived.BigQuiet
import Derived.Maps.OwnSet
import Derived.Maps.Views
import Derived.DeepKeys4
import Derived.WideKeyEntry
import Derived.Test.YteiakkfdchnddaaGreatDoorQ1
import Derived.Test.YteiakkfdchnddaaGreatDoorQ6
import Derived.Test.YteiakkfdchnddaaGreatDoorQ8
set_option linter.all false
set_option maxRecDepth 100000
set_option maxHeartbeats 8000000
namespace Go.Proofs.YteiakkfdchnddaaGreatDoor
open Go.RowKit
theorem nK(b0:Bool)(c0:Int)(g cap:Nat)(w:World){t:TypeId}(h0:b0=false)(h:w.heap[g]?=some (.cells #[.bool b0,.int .i64 c0] t (0,0))):
  Calls Tryz.prog 92 #[.slice (some ⟨g,0,none⟩) 1 cap] w fun e w'=>e=.returned (.int .i64 0)/\BL w w':=by
 subst h0;refine yC 1 (fun _=>c0) g cap w aC (aj h) (fun i hi=>?_);obtain rfl:i=0:=by omega
 exact⟨aF h 0,aF h 1⟩
theorem qD(b0 b1:Bool)(c0 c1:Int)(g cap:Nat)(w:World){t:TypeId}(h0:b0=false)(h1:b1=false)(h:w.heap[g]?=some (.cells #[.bool b0,.int .i64 c0,.bool b1,.int .i64 c1] t (0,0))):
  Calls Tryz.prog 92 #[.slice (some ⟨g,0,none⟩) 2 cap] w fun e w'=>e=.returned (.int .i64 0)/\BL w w':=by
 subst h0 h1;refine yC 2 (fun i=>if i=0 then c0 else c1) g cap w aC (aj h) (fun i hi=>?_);match i,hi with
 |0,_=>exact⟨aF h 0,aF h 1⟩
 |1,_=>exact⟨aF h 2,aF h 3⟩
theorem Lj(b0 b1 b2 b3:Bool)(c0 c1 c2 c3:Int)(g cap:Nat)(w:World){t:TypeId}(h0:b0=false)(h1:b1=false)(h2:b2=false)(h3:b3=false)(h:w.heap[g]?=some (.cells #[.bool b0,.int .i64 c0,.bool b1,.int .i64 c1,.bool b2,.int .i64 c2,.bool b3,.int .i64 c3] t (0,0))):
  Calls Tryz.prog 92 #[.slice (some ⟨g,0,none⟩) 4 cap] w fun e w'=>e=.returned (.int .i64 0)/\BL w w':=by
 subst h0 h1 h2 h3;refine yC 4 (fun i=>if i=0 then c0 else if i=1 then c1 else if i=2 then c2 else c3) g cap w aC (aj h) (fun i hi=>?_);match i,hi with
 |0,_=>exact⟨aF h 0,aF h 1⟩
 |1,_=>exact⟨aF h 2,aF h 3⟩
 |2,_=>exact⟨aF h 4,aF h 5⟩
 |3,_=>exact⟨aF h 6,aF h 7⟩
theorem NE{p:Prop}(h:p:=by
  clear hbz
  go_wp2
  go_ret
  exact⟨rfl,Rv.out⟩):p:=h
theorem Ll(x:ah.bF)(i j:Int)(f:ah.dh)(ak al ar:Option Addr)(ck cl cr:Nat)(uw ug:Value)(S:Nat->Prop)(w:World)(hv:fA S w (.agg #[.int .i64 x.aI,.slice ak x.ai.length ck,.slice al x.aN.length cl,.slice ar x.aO.length cr]) x)(hj:j=0):
  Calls Tryz.prog 215 #[.agg (jU x.aI ak x.ai.length ck al x.aN.length cl ar x.aO.length cr i j f uw ug).toArray] w fun e w'=>e=.returned (.int .i64 0)/\BL w w':=by
 have HV:=hid (fun(W:World) (hW:BL w W)=>hv.keep (aB.below hW));subst hj;clear HV;clear hv;obtain⟨fn,fo,fu,fk,fl,fh,JY,JZ⟩:=f;simp only[jU] at*;obtain⟨w1,hw1⟩:=aV (w.alloc (.cells #[.int .i64 x.aI,.slice ak x.ai.length ck,.slice al x.aN.length cl,.slice ar x.aO.length cr,.int .i64 i,.int .i64 0,.string fn,.string fo,.string fu,.int .i64 fk,.int .i64 fl,.int .i64 fh,uw,ug] 213));have bf:Hid (Below w.heap.size w w1):=hid ud;have HX:Hid (∀W,BL w1 W->W.heap[w.heap.size]?=some (.cells #[.int .i64 x.aI,.slice ak x.ai.length ck,.slice al x.aN.length cl,.slice ar x.aO.length cr,.int .i64 i,.int .i64 0,.string fn,.string fo,.string fu,.int .i64 fk,.int .i64 fl,.int .i64 fh,uw,ug] 213 (0,0))):=hid (fun W hW=>(hW.block _ tr).trans Oh);have HW:=hid hw1;clear hw1;obtain⟨⟨y0,y1,y2,y3,y4,y5,y6,y7,y8,y9,IY,IZ,I3,I4⟩, -⟩:=fK (HX.out w1 ay);go_enter Tryz.func215,Tryz.ntmps215;go_upto_region 1 with fail;rw[<-HW.out];go_wp2_with fail;refine(nK _ _ _ _ (World.alloc _ _) (by rfl) (aP _ _ rfl)).mono ?_;rintro e wz ⟨rfl,hbz⟩;have Rv:Hid (BL w wz):=hid ((bf.out.alloc bf.out.size _).trans (hbz.mono (by have:=bf.out.size;simp;omega)));exact NE
theorem aa9{p:Prop}(h:p:=by
  rintro e w2 ⟨rfl,hb2⟩
  have eC:Hid (BL w1 w2):=hid ((Below.refl w1.heap.size w1).trans (hb2.mono (Below.refl w1.heap.size w1).size))
  have bK:=aJ bf hb2
  clear hb2
  go_wp2_with fail
  refine(nK _ _ _ _ (World.alloc _ _) rfl (aP _ _ rfl)).mono ?_
  rintro e wz ⟨rfl,hbz⟩
  have Rv:Hid (BL w wz):=hid ((bK.out.alloc bK.out.size _).trans (hbz.mono aeO))
  clear hbz
  go_wp2
  go_ret
  exact⟨rfl,Rv.out⟩):p:=h
theorem Lm(x:ah.bF)(i j:Int)(f:ah.dh)(ak al ar:Option Addr)(ck cl cr:Nat)(uw ug:Value)(S:Nat->Prop)(w:World)(hv:fA S w (.agg #[.int .i64 x.aI,.slice ak x.ai.length ck,.slice al x.aN.length cl,.slice ar x.aO.length cr]) x)(hup:0<=ah.dV x i j):
  Calls Tryz.prog 216 #[.agg (jU x.aI ak x.ai.length ck al x.aN.length cl ar x.aO.length cr i j f uw ug).toArray] w fun e w'=>e=.returned (.int .i64 0)/\BL w w':=by
 have HV:=hid (fun(W:World) (hW:BL w W)=>hv.keep (aB.below hW));have II:=hid (fun(W:World) (hW:BL w W)=>Ca x i j f ak al ar ck cl cr uw ug S W (HV.out W hW));rw[decide_eq_false (show ¬ah.dV x i j<0 by omega)] at II;clear hv;obtain⟨fn,fo,fu,fk,fl,fh,JY,JZ⟩:=f;simp only[jU] at*;obtain⟨w1,hw1⟩:=aV (w.alloc (.cells #[.int .i64 x.aI,.slice ak x.ai.length ck,.slice al x.aN.length cl,.slice ar x.aO.length cr,.int .i64 i,.int .i64 j,.string fn,.string fo,.string fu,.int .i64 fk,.int .i64 fl,.int .i64 fh,uw,ug] 213));have bf:Hid (Below w.heap.size w w1):=hid ud;have HX:Hid (∀W,BL w1 W->W.heap[w.heap.size]?=some (.cells #[.int .i64 x.aI,.slice ak x.ai.length ck,.slice al x.aN.length cl,.slice ar x.aO.length cr,.int .i64 i,.int .i64 j,.string fn,.string fo,.string fu,.int .i64 fk,.int .i64 fl,.int .i64 fh,uw,ug] 213 (0,0))):=hid (fun W hW=>(hW.block _ tr).trans Oh);have HW:=hid hw1;clear hw1;obtain⟨⟨y0,y1,y2,y3,y4,y5,y6,y7,y8,y9,IY,IZ,I3,I4⟩, -⟩:=fK (HX.out w1 ay);go_enter Tryz.func216,Tryz.ntmps216;go_upto_region 1 with fail;rw[<-HW.out];go_wp2_with fail;refine(II.out w1 bf.out).mono ?_;exact aa9
theorem I6(nm s:ByteArray)(u1 u2:Value)(b:Nat)(w:World)(hb:w.cell? ⟨b,7,none⟩=some (.string s)):
  Calls Tryz.prog 219 #[.agg #[.string nm,u1,u2],.pointer (some ⟨b,0,none⟩)] w fun e w'=>e=.returned (.bool (decide (nm=s)))/\BL w w':=by
 have hz:b<w.heap.size:=xN w ⟨b,7,none⟩ hb;have HD:Hid ((nm.toList==s.toList)=decide (nm=s)):=hid Kj;go_enter Tryz.func219,Tryz.ntmps219;exact IL
theorem Ln(x:ah.bF)(i j:Int)(f:ah.dh)(ak al ar:Option Addr)(ck cl cr:Nat)(uw ug:Value)(S:Nat->Prop)(w:World)(hv:fA S w (.agg #[.int .i64 x.aI,.slice ak x.ai.length ck,.slice al x.aN.length cl,.slice ar x.aO.length cr]) x)(hl:ah.MK x f.of=true):
  Calls Tryz.prog 218 #[.agg (jU x.aI ak x.ai.length ck al x.aN.length cl ar x.aO.length cr i j f uw ug).toArray] w fun e w'=>e=.returned (.int .i64 0)/\BL w w':=by
 have HV:=hid (fun(W:World) (hW:BL w W)=>hv.keep (aB.below hW));obtain⟨ak',ck',al',cl',ar',cr',hvf, -,hls, -, -, -, -⟩:=hv.form
 have e1:al=al':=by
  simp only[Value.agg.injEq,Array.mk.injEq,List.cons.injEq,Value.slice.injEq] at hvf;exact hvf.2.2.1.1
 subst e1
 have e2:cl=cl':=by
  simp only[Value.agg.injEq,Array.mk.injEq,List.cons.injEq,Value.slice.injEq] at hvf;exact hvf.2.2.1.2.2
 subst e2;clear hvf;have HLv:=hid (fun(W:World) (hW:BL w W)=>dO.keep dn hls (aB.below hW));have HLI:Hid (x.aN.any (fun l=>decide (l.name=f.of))=true):=hid hl;clear hls hl;clear hv;obtain⟨fn,fo,fu,fk,fl,fh,JY,JZ⟩:=f;simp only[jU] at*;obtain⟨w1,hw1⟩:=aV (w.alloc (.cells #[.int .i64 x.aI,.slice ak x.ai.length ck,.slice al x.aN.length cl,.slice ar x.aO.length cr,.int .i64 i,.int .i64 j,.string fn,.string fo,.string fu,.int .i64 fk,.int .i64 fl,.int .i64 fh,uw,ug] 213));have bf:Hid (Below w.heap.size w w1):=hid ud;have HX:Hid (∀W,BL w1 W->W.heap[w.heap.size]?=some (.cells #[.int .i64 x.aI,.slice ak x.ai.length ck,.slice al x.aN.length cl,.slice ar x.aO.length cr,.int .i64 i,.int .i64 j,.string fn,.string fo,.string fu,.int .i64 fk,.int .i64 fl,.int .i64 fh,uw,ug] 213 (0,0))):=hid (fun W hW=>(hW.block _ tr).trans Oh);have HW:=hid hw1;clear hw1;obtain⟨⟨y0,y1,y2,y3,y4,y5,y6,y7,y8,y9,IY,IZ,I3,I4⟩, -⟩:=fK (HX.out w1 ay);have hz1:w.heap.size<w1.heap.size:=aj (HX.out w1 ay)
 have J4:=hid (FW dn x.aN (fun l:ah.Gv=>decide (l.name=fo)) _ S w1 (HLv.out w1 bf.out) 219 #[.pointer (some ⟨w.heap.size,0,none⟩)] (bE Tryz.func219 (by kernel_rfl) rfl) (fun X hX j hj us _ hu=>by
  obtain⟨u1,u2,rfl, -, -⟩:=hu;exact I6 _ fo u1 u2 _ X ((hX.cell (p:=⟨w.heap.size,7,none⟩) hz1).trans (fK (HX.out w1 ay)).1.2.2.2.2.2.2.2.1)))
 rw[HLI.out] at J4;go_enter Tryz.func218,Tryz.ntmps218;go_upto_region 1 with fail;rw[<-HW.out];go_wp2_with fail;refine J4.out.mono ?_;exact aa9
theorem Lp(x:ah.bF)(i j:Int)(f:ah.dh)(ak al ar:Option Addr)(ck cl cr:Nat)(uw ug:Value)(S:Nat->Prop)(w:World)(hv:fA S w (.agg #[.int .i64 x.aI,.slice ak x.ai.length ck,.slice al x.aN.length cl,.slice ar x.aO.length cr]) x)(hi:0<=i)(ho:0<=ah.gq x i f)(hs:(ah.gy x i f).length=1)(h6:x.ai.length<=1000)(h10:∀k∈x.ai,k.aA.length<=1000):
  Calls Tryz.prog 220 #[.agg (jU x.aI ak x.ai.length ck al x.aN.length cl ar x.aO.length cr i j f uw ug).toArray] w fun e w'=>e=.returned (.int .i64 0)/\BL w w':=by
 have HV:=hid (fun(W:World) (hW:BL w W)=>hv.keep (aB.below hW));have Ld:=hid (fun(W:World) (hW:BL w W)=>BZ x i hi f _ uw ug S W (HV.out W hW) h6 h10);unfold tM at Ld;rw[hs] at Ld;have HO:=hid ho;generalize ah.gq x i f=oi at*;generalize ah.gy x i f=sl at*;clear hs ho h6 h10;clear hv;obtain⟨fn,fo,fu,fk,fl,fh,JY,JZ⟩:=f;simp only[jU,cV] at*;obtain⟨w1,hw1⟩:=aV (w.alloc (.cells #[.int .i64 x.aI,.slice ak x.ai.length ck,.slice al x.aN.length cl,.slice ar x.aO.length cr,.int .i64 i,.int .i64 j,.string fn,.string fo,.string fu,.int .i64 fk,.int .i64 fl,.int .i64 fh,uw,ug] 213));have bf:Hid (Below w.heap.size w w1):=hid ud;have HX:Hid (∀W,BL w1 W->W.heap[w.heap.size]?=some (.cells #[.int .i64 x.aI,.slice ak x.ai.length ck,.slice al x.aN.length cl,.slice ar x.aO.length cr,.int .i64 i,.int .i64 j,.string fn,.string fo,.string fu,.int .i64 fk,.int .i64 fl,.int .i64 fh,uw,ug] 213 (0,0))):=hid (fun W hW=>(hW.block _ tr).trans Oh);have HW:=hid hw1;clear hw1;obtain⟨⟨y0,y1,y2,y3,y4,y5,y6,y7,y8,y9,IY,IZ,I3,I4⟩, -⟩:=fK (HX.out w1 ay);go_enter Tryz.func220,Tryz.ntmps220;go_upto_region 1 with fail;rw[<-HW.out];go_wp2_with fail;refine(Ld.out w1 bf.out).mono ?_;rintro e w2 ⟨a,c,rfl, -,hb2⟩;have eC:Hid (BL w1 w2):=hid ((Below.refl w1.heap.size w1).trans (hb2.mono (Below.refl w1.heap.size w1).size));have bK:=aJ bf hb2;clear hb2;go_wp2_with fail;refine(qD _ _ _ _ _ _ (World.alloc _ _) (decide_eq_false (by have:=HO.out;omega)) (by rfl) (aP _ _ rfl)).mono ?_;rintro e wz ⟨rfl,hbz⟩;have Rv:Hid (BL w wz):=hid ((bK.out.alloc bK.out.size _).trans (hbz.mono aeO));exact NE
theorem abb{p:Prop}(h:p:=by
  go_wp2_with fail
  refine(nK _ _ _ _ (World.alloc _ _) XE (aP _ _ rfl)).mono ?_
  rintro e wz ⟨rfl,hbz⟩
  have Rv:Hid (BL w wz):=hid ((fF.out.alloc fF.out.size _).trans (hbz.mono aeP))
  clear hbz
  go_wp2
  go_ret
  exact⟨rfl,Rv.out⟩):p:=h
theorem Lr(x:ah.bF)(i j:Int)(f:ah.dh)(ak al ar:Option Addr)(ck cl cr:Nat)(uw ug:Value)(S:Nat->Prop)(w:World)(hv:fA S w (.agg #[.int .i64 x.aI,.slice ak x.ai.length ck,.slice al x.aN.length cl,.slice ar x.aO.length cr]) x)(hi:0<=i/\i<x.ai.length)(hd:f.of=ah.nil\/(0<=ah.bB (ah.kd x i) f.of/\ah.bB (ah.kd x i) f.of<j/\(jZ x i (ah.bB (ah.kd x i) f.of)).kind=4)):
  Calls Tryz.prog 217 #[.agg (jU x.aI ak x.ai.length ck al x.aN.length cl ar x.aO.length cr i j f uw ug).toArray] w fun e w'=>e=.returned (.int .i64 0)/\BL w w':=by
 have HV:=hid (fun(W:World) (hW:BL w W)=>hv.keep (aB.below hW));obtain⟨ak',ck',al',cl',ar',cr',hvf,hk, -, -,hsk, -, -⟩:=hv.form
 have e1:ak=ak':=by
  simp only[Value.agg.injEq,Array.mk.injEq,List.cons.injEq,Value.slice.injEq] at hvf;exact hvf.2.1.1
 subst e1
 have e2:ck=ck':=by
  exact aa8
 subst e2;clear hvf;obtain⟨o,rfl⟩:∃o:Nat,i=(o:Int):=⟨i.toNat,by omega⟩;have hok:o<x.ai.length:=by omega
 obtain⟨nJ, -,k0,k1,k2,uf,k3,oK⟩:=hk.at hok;obtain⟨af,cf,rfl, -, -, -⟩:=oK.form;have GH:=hid (fun(s:ByteArray) (W:World) (hW:BL w W)=>lg x.ai[o] s _ S W (oK.keep (aB.below hW)))
 have vG:Hid (∀W,BL w W->W.cell? ⟨bD ak,bJ ak+o*4,none⟩=some (.string x.ai[o].name)/\W.cell? ⟨bD ak,bJ ak+o*4+1,none⟩=some (.int .i64 x.ai[o].lo)/\W.cell? ⟨bD ak,bJ ak+o*4+2,none⟩=some (.int .i64 x.ai[o].hi)/\W.cell? ⟨bD ak,bJ ak+o*4+3,none⟩=some (.slice af x.ai[o].aA.length cf)):=hid (fun W hW=>
   ⟨(hW.cell (p:=⟨bD ak,bJ ak+o*4,none⟩) nJ).trans k0,(hW.cell (p:=⟨bD ak,bJ ak+o*4+1,none⟩) nJ).trans k1,(hW.cell (p:=⟨bD ak,bJ ak+o*4+2,none⟩) nJ).trans k2,(hW.cell (p:=⟨bD ak,bJ ak+o*4+3,none⟩) nJ).trans k3⟩)
 have nF:=hid (fun(u:Int) (W:World) (hW:BL w W)=>mN x (o:Int) u _ S W (HV.out W hW));rw[gm hok] at hd;clear k0 k1 k2 k3 oK hk;generalize x.ai[o]=kd at*;obtain⟨kn,EU,EV,DU⟩:=kd;simp only[lU] at GH;simp only at vG;have HFo:=hid (GH.out f.of);clear GH;generalize ah.bB ⟨kn,EU,EV,DU⟩ f.of=tz at*;generalize DU.length=nf at*;have HD:=hid hd;clear hd;have hsk2:=hsk;clear hv;obtain⟨fn,fo,fu,fk,fl,fh,JY,JZ⟩:=f;simp only[jU] at*;have Ul:(0:Int)<=o:=by omega
 have Pp:(o:Int)<x.ai.length:=by omega
 obtain⟨w1,hw1⟩:=aV (w.alloc (.cells #[.int .i64 x.aI,.slice ak x.ai.length ck,.slice al x.aN.length cl,.slice ar x.aO.length cr,.int .i64 o,.int .i64 j,.string fn,.string fo,.string fu,.int .i64 fk,.int .i64 fl,.int .i64 fh,uw,ug] 213));have bf:Hid (Below w.heap.size w w1):=hid ud;have HX:Hid (∀W,BL w1 W->W.heap[w.heap.size]?=some (.cells #[.int .i64 x.aI,.slice ak x.ai.length ck,.slice al x.aN.length cl,.slice ar x.aO.length cr,.int .i64 o,.int .i64 j,.string fn,.string fo,.string fu,.int .i64 fk,.int .i64 fl,.int .i64 fh,uw,ug] 213 (0,0))):=hid (fun W hW=>(hW.block _ tr).trans Oh);have HW:=hid hw1;clear hw1;obtain⟨⟨y0,y1,y2,y3,y4,y5,y6,y7,y8,y9,IY,IZ,I3,I4⟩, -⟩:=fK (HX.out w1 ay);go_enter Tryz.func217,Tryz.ntmps217;go_upto_region 1 with fail;rw[<-HW.out];obtain⟨YP,YQ,YR,YS⟩:=vG.out w1 bf.out;have hzk1:bD ak<w1.heap.size:=by have:=bf.out.size;omega
 refine gH 10 lN (by kernel_rfl) ?_;simp only[List.take_succ_cons,List.take_zero,iW,iX];repeat (go_big_quiet_step (fail))
 refine fS ?_;have eC:=hid (aG (Below.refl w1.heap.size w1) 1);have bK:=aJ bf eC.out;generalize w1.drewN 1=w2 at*;go_wp2_with fail;refine(HFo.out w2 bK.out).mono ?_;rintro e w3 ⟨rfl,hb3⟩;have gj:=aJ eC hb3;have bZ:=aJ bK hb3;clear hb3;clear YP YQ YR YS y0 y1 y2 y3 y4 y5 y6 y7 y8 y9 IY IZ I3 I4;obtain⟨⟨y0,y1,y2,y3,y4,y5,y6,y7,y8,y9,IY,IZ,I3,I4⟩, -⟩:=fK (HX.out w3 gj.out);go_wp2_with fail;refine(nF.out tz w3 bZ.out).mono ?_;rintro e w4 ⟨a1,n1,c1,a2,n2,c2,rfl, -,hb4⟩;have jM:=aJ gj hb4;have f9:=aJ bZ hb4;clear hb4;generalize ah.hasB x (o:Int) tz=hasb at*;generalize jZ x (o:Int) tz=g at*;obtain⟨gn,go,gu,gk,gl,gh,J3,ggs⟩:=g;simp only[cV];simp only at HD;obtain⟨w5,mq⟩:=aV (w4.alloc (.cells #[.string gn,.string go,.string gu,.int .i64 gk,.int .i64 gl,.int .i64 gh,.slice a1 n1 c1,.slice a2 n2 c2] 92));have jQ:Hid (Below w1.heap.size w1 w5):=hid (by rw[mq];exact jM.out.alloc jM.out.size _);have fF:Hid (Below w.heap.size w w5):=hid (by rw[mq];exact f9.out.alloc f9.out.size _);have rE:Hid (w5.heap[w4.heap.size]?=some (.cells #[.string gn,.string go,.string gu,.int .i64 gk,.int .i64 gl,.int .i64 gh,.slice a1 n1 c1,.slice a2 n2 c2] 92 (0,0))):=hid (by rw[mq];exact aP w4 _ rfl);have AZ:=hid mq;clear mq;go_upto_region 3 with fail;rw[<-AZ.out];clear y0 y1 y2 y3 y4 y5 y6 y7 y8 y9 IY IZ I3 I4;obtain⟨⟨y0,y1,y2,y3,y4,y5,y6,y7,y8,y9,IY,IZ,I3,I4⟩, -⟩:=fK (HX.out w5 jQ.out);obtain⟨⟨u0,u1,u2,u3,u4,u5,u6,u7⟩, -⟩:=dY rE.out;by_cases Ru:fo=ah.nil
 ·subst Ru
  clear HD;unfold ah.nil at*;exact abb
 ·have he:=sI Ru
  have HD2:=hid (HD.out.resolve_left Ru);clear HD Ru;obtain⟨d1,d2,d3⟩:=HD2.out;subst d3;clear HD2;have d4:¬tz<0:=by omega
  have d5:¬j<=tz:=by omega
  exact abb
theorem Ls(x:ah.bF)(i j:Int)(f:ah.dh)(ak al ar:Option Addr)(ck cl cr:Nat)(uw ug:Value)(S:Nat->Prop)(w:World)(hv:fA S w (.agg #[.int .i64 x.aI,.slice ak x.ai.length ck,.slice al x.aN.length cl,.slice ar x.aO.length cr]) x)(hi:0<=i/\i<x.ai.length)(hup:0<=ah.dV x i j)(hb:ah.hasB x (ah.dV x i j) (kH x i j f)=true)(Rw:(jZ x (ah.dV x i j) (kH x i j f)).kind=6)(hki:ah.cU x (jZ x (ah.dV x i j) (kH x i j f)).of=i):
  Calls Tryz.prog 221 #[.agg (jU x.aI ak x.ai.length ck al x.aN.length cl ar x.aO.length cr i j f uw ug).toArray] w fun e w'=>e=.returned (.int .i64 0)/\BL w w':=by
 have HV:=hid (fun(W:World) (hW:BL w W)=>hv.keep (aB.below hW));have II:=hid (fun(W:World) (hW:BL w W)=>Ca x i j f ak al ar ck cl cr uw ug S W (HV.out W hW));rw[decide_eq_false (show ¬ah.dV x i j<0 by omega)] at II;have F5:=hid (fun(W:World) (hW:BL w W)=>NC x i j f ak al ar ck cl cr uw ug S W (HV.out W hW) hi hup);unfold PB at F5;rw[hb] at F5;have Ap:=hid (fun(s:ByteArray) (W:World) (hW:BL w W)=>pS x s _ S W (HV.out W hW));have J5:Hid ((jZ x (ah.dV x i j) (kH x i j f)).kind=6/\ah.cU x (jZ x (ah.dV x i j) (kH x i j f)).of=i):=hid ⟨Rw,hki⟩;clear Rw hki hb hup;generalize jZ x (ah.dV x i j) (kH x i j f)=g at*;clear hv;obtain⟨fn,fo,fu,fk,fl,fh,JY,JZ⟩:=f;simp only[jU] at*;obtain⟨w1,hw1⟩:=aV (w.alloc (.cells #[.int .i64 x.aI,.slice ak x.ai.length ck,.slice al x.aN.length cl,.slice ar x.aO.length cr,.int .i64 i,.int .i64 j,.string fn,.string fo,.string fu,.int .i64 fk,.int .i64 fl,.int .i64 fh,uw,ug] 213));have bf:Hid (Below w.heap.size w w1):=hid ud;have HX:Hid (∀W,BL w1 W->W.heap[w.heap.size]?=some (.cells #[.int .i64 x.aI,.slice ak x.ai.length ck,.slice al x.aN.length cl,.slice ar x.aO.length cr,.int .i64 i,.int .i64 j,.string fn,.string fo,.string fu,.int .i64 fk,.int .i64 fl,.int .i64 fh,uw,ug] 213 (0,0))):=hid (fun W hW=>(hW.block _ tr).trans Oh);have HW:=hid hw1;clear hw1;obtain⟨⟨y0,y1,y2,y3,y4,y5,y6,y7,y8,y9,IY,IZ,I3,I4⟩, -⟩:=fK (HX.out w1 ay);go_enter Tryz.func221,Tryz.ntmps221;go_upto_region 1 with fail;rw[<-HW.out];go_wp2_with fail;refine(F5.out w1 bf.out).mono ?_;rintro e w2 ⟨a1,n1,c1,a2,n2,c2,rfl,hb2⟩;have eC:Hid (BL w1 w2):=hid ((Below.refl w1.heap.size w1).trans (hb2.mono (Below.refl w1.heap.size w1).size));have bK:=aJ bf hb2;clear hb2;obtain⟨gn,go,gu,gk,gl,gh,J3,ggs⟩:=g;simp only[cV] at J5 ⊢;obtain⟨w3,hw3⟩:=aV (w2.alloc (.cells #[.string gn,.string go,.string gu,.int .i64 gk,.int .i64 gl,.int .i64 gh,.slice a1 n1 c1,.slice a2 n2 c2] 92));have gj:Hid (Below w1.heap.size w1 w3):=hid J9;have bZ:Hid (Below w.heap.size w w3):=hid QZ;have rH:Hid (∀W,BL w3 W->W.heap[w2.heap.size]?=some (.cells #[.string gn,.string go,.string gu,.int .i64 gk,.int .i64 gl,.int .i64 gh,.slice a1 n1 c1,.slice a2 n2 c2] 92 (0,0))):=hid (fun W hW=>(hW.block _ (by rw[hw3];simp)).trans RL);have HW3:=hid hw3;clear hw3;go_upto_region 2 with fail;rw[<-HW3.out];clear y0 y1 y2 y3 y4 y5 y6 y7 y8 y9 IY IZ I3 I4;obtain⟨⟨y0,y1,y2,y3,y4,y5,y6,y7,y8,y9,IY,IZ,I3,I4⟩, -⟩:=fK (HX.out w3 gj.out);obtain⟨⟨u0,u1,u2,u3,u4,u5,u6,u7⟩, -⟩:=dY (rH.out w3 ay);obtain⟨Rw,hki⟩:=J5.out;subst Rw;have HKj:=hid (fun(W:World) (hW:BL w W)=>Ap.out go W hW);rw[hki] at HKj;clear hki J5 Ap;have Lu:=dL w3 ⟨w.heap.size,0,none⟩ (.int .i64 x.aI) fun xh=>(fK (HX.out xh.1 (cO gj.out xh.2))).1.1;have Lv:=dL w3 ⟨w.heap.size,1,none⟩ (.slice ak x.ai.length ck) fun xh=>(fK (HX.out xh.1 (cO gj.out xh.2))).1.2.1;have Lw:=dL w3 ⟨w.heap.size,2,none⟩ (.slice al x.aN.length cl) fun xh=>(fK (HX.out xh.1 (cO gj.out xh.2))).1.2.2.1;have Lx:=dL w3 ⟨w.heap.size,3,none⟩ (.slice ar x.aO.length cr) fun xh=>(fK (HX.out xh.1 (cO gj.out xh.2))).1.2.2.2.1;have hqs4:=dL w3 ⟨w.heap.size,4,none⟩ (.int .i64 i) fun xh=>(fK (HX.out xh.1 (cO gj.out xh.2))).1.2.2.2.2.1;have hqs5:=dL w3 ⟨w.heap.size,5,none⟩ (.int .i64 j) fun xh=>(fK (HX.out xh.1 (cO gj.out xh.2))).1.2.2.2.2.2.1;have hqs6:=dL w3 ⟨w.heap.size,6,none⟩ (.string fn) fun xh=>(fK (HX.out xh.1 (cO gj.out xh.2))).1.2.2.2.2.2.2.1;have hqs7:=dL w3 ⟨w.heap.size,7,none⟩ (.string fo) fun xh=>(fK (HX.out xh.1 (cO gj.out xh.2))).1.2.2.2.2.2.2.2.1;have hqs8:=dL w3 ⟨w.heap.size,8,none⟩ (.string fu) fun xh=>(fK (HX.out xh.1 (cO gj.out xh.2))).1.2.2.2.2.2.2.2.2.1;have hqs9:=dL w3 ⟨w.heap.size,9,none⟩ (.int .i64 fk) fun xh=>(fK (HX.out xh.1 (cO gj.out xh.2))).1.2.2.2.2.2.2.2.2.2.1;have afZ:=dL w3 ⟨w.heap.size,10,none⟩ (.int .i64 fl) fun xh=>(fK (HX.out xh.1 (cO gj.out xh.2))).1.2.2.2.2.2.2.2.2.2.2.1;have af0:=dL w3 ⟨w.heap.size,11,none⟩ (.int .i64 fh) fun xh=>(fK (HX.out xh.1 (cO gj.out xh.2))).1.2.2.2.2.2.2.2.2.2.2.2.1;have af3:=dL w3 ⟨w.heap.size,12,none⟩ (uw) fun xh=>(fK (HX.out xh.1 (cO gj.out xh.2))).1.2.2.2.2.2.2.2.2.2.2.2.2.1;have af4:=dL w3 ⟨w.heap.size,13,none⟩ (ug) fun xh=>(fK (HX.out xh.1 (cO gj.out xh.2))).1.2.2.2.2.2.2.2.2.2.2.2.2.2;have hqg1:=dL w3 ⟨w2.heap.size,1,none⟩ (.string go) fun xh=>(dY (rH.out xh.1 xh.2)).1.2.1;have hqg3:=dL w3 ⟨w2.heap.size,3,none⟩ (.int .i64 6) fun xh=>(dY (rH.out xh.1 xh.2)).1.2.2.2.1;refine dS 21 (.quiet 0 (.quiet 3 (.quiet 4 (.one 1 (.quiet 2 (.quiet 5 (.quiet 6 (.quiet 7 (.quiet 8 (.quiet 9 (.quiet 10 (.quiet 11 (.quiet 12 (.quiet 13 (.quiet 14 (.quiet 16 (.quiet 17 (.one 15 (.quiet 18 (.quiet 19 (.quiet 20 .done))))))))))))))))))))) (BL w3) lN (by kernel_rfl) (aG ay 1) ?_;have EW:=hid (aG (Below.refl w3.heap.size w3) 1);generalize w3.drewN 1=w4 at*
 iterate 3 refine eB ?_
 refine aM rfl ?_;go_wp2_with fail;refine(II.out w4 (cO bZ.out EW.out)).mono ?_;rintro e w5 ⟨rfl,jR⟩;have I5:=aJ EW jR;clear jR;go_wp2_with fail;refine aD (BL w3) (fun _ h=>h) I5.out ?_
 iterate 13 refine eB ?_
 refine aM rfl ?_;go_wp2_with fail;refine(HKj.out w5 (cO bZ.out I5.out)).mono ?_;rintro e w6 ⟨rfl,tX⟩;have Lz:=aJ I5 tX;clear tX;go_wp2_with fail;refine aD (BL w3) (fun _ h=>h) Lz.out ?_
 iterate 3 refine eB ?_
 refine aT ?_;try simp only[iW,iX]
 clear Lu Lv Lw Lx hqs4 hqs5 hqs6 hqs7 hqs8 hqs9 afZ af0 af3 af4 hqg1 hqg3;have jS:=aJ bZ Lz.out;go_wp2_with fail;refine(qD _ _ _ _ _ _ (World.alloc _ _) (by rfl) XE (aP _ _ rfl)).mono ?_;rintro e wz ⟨rfl,hbz⟩;have Rv:Hid (BL w wz):=hid ((jS.out.alloc jS.out.size _).trans (hbz.mono (by have:=jS.out.size;simp;omega)));exact NE
theorem LA(x:ah.bF)(i j:Int)(f:ah.dh)(ak al ar:Option Addr)(ck cl cr:Nat)(uw ug:Value)(S:Nat->Prop)(w:World)(hv:fA S w (.agg #[.int .i64 x.aI,.slice ak x.ai.length ck,.slice al x.aN.length cl,.slice ar x.aO.length cr]) x)(hi:0<=i/\i<x.ai.length)(hup:0<=ah.dV x i j)(hb:ah.hasB x (ah.dV x i j) (kH x i j f)=true)(WR:(jZ x (ah.dV x i j) (kH x i j f)).kind=2\/(jZ x (ah.dV x i j) (kH x i j f)).kind=3\/(jZ x (ah.dV x i j) (kH x i j f)).kind=4\/(jZ x (ah.dV x i j) (kH x i j f)).kind=5\/(jZ x (ah.dV x i j) (kH x i j f)).kind=8):
  Calls Tryz.prog 223 #[.agg (jU x.aI ak x.ai.length ck al x.aN.length cl ar x.aO.length cr i j f uw ug).toArray] w fun e w'=>e=.returned (.int .i64 0)/\BL w w':=by
 have HV:=hid (fun(W:World) (hW:BL w W)=>hv.keep (aB.below hW));have II:=hid (fun(W:World) (hW:BL w W)=>Ca x i j f ak al ar ck cl cr uw ug S W (HV.out W hW));rw[decide_eq_false (show ¬ah.dV x i j<0 by omega)] at II;have F5:=hid (fun(W:World) (hW:BL w W)=>NC x i j f ak al ar ck cl cr uw ug S W (HV.out W hW) hi hup);unfold PB at F5;rw[hb] at F5;have J5:=hid WR;clear WR hb hup;generalize jZ x (ah.dV x i j) (kH x i j f)=g at*;clear hv;obtain⟨fn,fo,fu,fk,fl,fh,JY,JZ⟩:=f;simp only[jU] at*;obtain⟨w1,hw1⟩:=aV (w.alloc (.cells #[.int .i64 x.aI,.slice ak x.ai.length ck,.slice al x.aN.length cl,.slice ar x.aO.length cr,.int .i64 i,.int .i64 j,.string fn,.string fo,.string fu,.int .i64 fk,.int .i64 fl,.int .i64 fh,uw,ug] 213));have bf:Hid (Below w.heap.size w w1):=hid ud;have HX:Hid (∀W,BL w1 W->W.heap[w.heap.size]?=some (.cells #[.int .i64 x.aI,.slice ak x.ai.length ck,.slice al x.aN.length cl,.slice ar x.aO.length cr,.int .i64 i,.int .i64 j,.string fn,.string fo,.string fu,.int .i64 fk,.int .i64 fl,.int .i64 fh,uw,ug] 213 (0,0))):=hid (fun W hW=>(hW.block _ tr).trans Oh);have HW:=hid hw1;clear hw1;obtain⟨⟨y0,y1,y2,y3,y4,y5,y6,y7,y8,y9,IY,IZ,I3,I4⟩, -⟩:=fK (HX.out w1 ay);go_enter Tryz.func223,Tryz.ntmps223;go_upto_region 1 with fail;rw[<-HW.out];go_wp2_with fail;refine(F5.out w1 bf.out).mono ?_;rintro e w2 ⟨a1,n1,c1,a2,n2,c2,rfl,hb2⟩;have eC:Hid (BL w1 w2):=hid ((Below.refl w1.heap.size w1).trans (hb2.mono (Below.refl w1.heap.size w1).size));have bK:=aJ bf hb2;clear hb2;obtain⟨gn,go,gu,gk,gl,gh,J3,ggs⟩:=g;simp only[cV] at J5 ⊢;obtain⟨w3,hw3⟩:=aV (w2.alloc (.cells #[.string gn,.string go,.string gu,.int .i64 gk,.int .i64 gl,.int .i64 gh,.slice a1 n1 c1,.slice a2 n2 c2] 92));have gj:Hid (Below w1.heap.size w1 w3):=hid J9;have bZ:Hid (Below w.heap.size w w3):=hid QZ;have rH:Hid (∀W,BL w3 W->W.heap[w2.heap.size]?=some (.cells #[.string gn,.string go,.string gu,.int .i64 gk,.int .i64 gl,.int .i64 gh,.slice a1 n1 c1,.slice a2 n2 c2] 92 (0,0))):=hid (fun W hW=>(hW.block _ (by rw[hw3];simp)).trans RL);have HW3:=hid hw3;clear hw3;go_upto_region 2 with fail;rw[<-HW3.out];clear y0 y1 y2 y3 y4 y5 y6 y7 y8 y9 IY IZ I3 I4;obtain⟨⟨y0,y1,y2,y3,y4,y5,y6,y7,y8,y9,IY,IZ,I3,I4⟩, -⟩:=fK (HX.out w3 gj.out);obtain⟨⟨u0,u1,u2,u3,u4,u5,u6,u7⟩, -⟩:=dY (rH.out w3 ay);rcases J5.out with e|e|e|e|e
 all_goals
  subst e
  clear J5
  go_wp2_with fail
  refine(II.out w3 bZ.out).mono ?_
  rintro e w5 ⟨rfl,jR⟩
  have fF:=aJ bZ jR
  clear jR
  go_wp2_with fail
  refine(qD _ _ _ _ _ _ (World.alloc _ _) (by rfl) XE (aP _ _ rfl)).mono ?_
  rintro e wz ⟨rfl,hbz⟩
  have Rv:Hid (BL w wz):=hid ((fF.out.alloc fF.out.size _).trans (hbz.mono aeP))
  clear hbz
  go_wp2
  go_ret
  exact⟨rfl,Rv.out⟩
theorem abd{p:Prop}(h:p:=by
  refine aT ?_
  try simp only[iW,iX]
  clear Lu Lv Lw Lx Lh Li hqf3
  have f9:=aJ bK EW.out
  go_wp2_with fail
  refine(qD _ _ _ _ _ _ (World.alloc _ _) (by first|rfl|exact hkz) XE (aP _ _ rfl)).mono ?_
  rintro e wz ⟨rfl,hbz⟩
  have Rv:Hid (BL w wz):=hid ((f9.out.alloc f9.out.size _).trans (hbz.mono (by have:=f9.out.size;simp;omega)))
  clear hbz
  go_wp2
  go_ret
  exact⟨rfl,Rv.out⟩):p:=h
theorem LB(x:ah.bF)(i:Nat)(v:Value)(S:Nat->Prop)(w:World)(hv:fA S w v x)(hi:i<x.ai.length)(h1:¬ah.cU x (ah.kd x i).name<i)(h2:0<(ah.kd x i).aA.length)(h3:(ah.fd x i 0).kind=0):
  Calls Tryz.prog 93 #[v,.int .i64 i] w fun e w'=>e=.returned (.int .i64 0)/\BL w w':=by
 obtain⟨ak,ck,al,cl,ar,cr,rfl,hk,hl,hr,hsk,hsl,hsr⟩:=hv.form;have HV:=hid (fun(W:World) (hW:BL w W)=>hv.keep (aB.below hW));obtain⟨nJ, -,k0,k1,k2,uf,k3,oK⟩:=hk.at hi;rw[gm hi] at h1 h2;have h2':0<x.ai[i].aA.length:=h2;rw[show ah.fd x i 0=x.ai[i].aA[0] from uF (j:=0) hi h2'] at h3;obtain⟨af,cf,rfl,hsf, -, -⟩:=oK.form;obtain⟨J2, -, -, -, -,f3, -⟩:=dJ.at oK h2';rw[h3] at f3;have Ap:=hid (fun(W:World) (hW:BL w W)=>pS x x.ai[i].name _ S W (HV.out W hW));have Rh:=hid h1;clear oK hk hl hr hv h3 h1 h2;generalize x.ai[i]=kd at*;obtain⟨kn,EU,EV,DU⟩:=kd;simp only at*;generalize ah.cU x kn=kz at*;generalize DU.length=nf at*;have hi0:(0:Int)<=i:=by omega
 have hi1:(i:Int)<x.ai.length:=by omega
 have hkz:=decide_eq_false Rh.out;have hnf0:((nf:Int)==0)=false:=by simp;omega
 have hn0:(0:Int)<nf:=by omega
 obtain⟨w1,hw1⟩:=aV (di w x.aI (.slice ak x.ai.length ck) (.slice al x.aN.length cl) (.slice ar x.aO.length cr));have bf:=r9 hw1;have zG:Hid (w1.heap[w.heap.size]?=some (.cells #[.int .i64 x.aI,.slice ak x.ai.length ck,.slice al x.aN.length cl,.slice ar x.aO.length cr] 27 (0,0))):=hid (by rw[hw1];exact fE ..);unfold di at hw1;have HW1:=hid hw1;clear hw1;obtain⟨w2,hw2⟩:=aV (w1.alloc (.cells #[.string kn,.int .i64 EU,.int .i64 EV,.slice af nf cf] 95));have bK:Hid (Below w.heap.size w w2):=hid (by rw[hw2];exact bf.out.alloc bf.out.size _);have HX:Hid (∀W,BL w2 W->W.heap[w.heap.size]?=some (.cells #[.int .i64 x.aI,.slice ak x.ai.length ck,.slice al x.aN.length cl,.slice ar x.aO.length cr] 27 (0,0))):=hid (fun W hW=>(hW.block _ (by rw[hw2];have:=aj zG.out;simp;omega)).trans (by rw[hw2];exact aY _ zG.out));have HK:Hid (∀W,BL w2 W->W.heap[w1.heap.size]?=some (.cells #[.string kn,.int .i64 EU,.int .i64 EV,.slice af nf cf] 95 (0,0))):=hid (fun W hW=>(hW.block _ (by rw[hw2];simp)).trans ab9);have HF:Hid (∀W,BL w2 W->W.cell? ⟨bD af,bJ af+3,none⟩=some (.int .i64 0)):=hid (fun W hW=>((cO bK.out hW).cell (p:=⟨bD af,bJ af+3,none⟩) J2).trans (by simpa using f3));have HW2:=hid hw2;clear hw2 f3;obtain⟨⟨y0,y1,y2,y3⟩, -⟩:=aW zG.out;have YP:=(bf.out.cell (p:=⟨bD ak,bJ ak+i*4,none⟩) nJ).trans k0;have YQ:=(bf.out.cell (p:=⟨bD ak,bJ ak+i*4+1,none⟩) nJ).trans k1;have YR:=(bf.out.cell (p:=⟨bD ak,bJ ak+i*4+2,none⟩) nJ).trans k2;have YS:=(bf.out.cell (p:=⟨bD ak,bJ ak+i*4+3,none⟩) nJ).trans k3;clear k0 k1 k2 k3;go_enter Tryz.func93,Tryz.ntmps93;go_upto_region 1 with fail;rw[<-HW1.out];go_upto_region 2 with fail;rw[<-HW2.out];clear y0 y1 y2 y3 YP YQ YR YS;obtain⟨Lu,Lv,Lw,Lx⟩:=MJ HX.out;have Lh:=dL w2 ⟨w1.heap.size,0,none⟩ (.string kn) fun xh=>(aW (HK.out xh.1 xh.2)).1.1;have Li:=dL w2 ⟨w1.heap.size,3,none⟩ (.slice af nf cf) fun xh=>(aW (HK.out xh.1 xh.2)).1.2.2.2;have hqf3:=dL w2 ⟨bD af,bJ af+3,none⟩ (.int .i64 0) fun xh=>HF.out xh.1 xh.2;refine dS 20 (.quiet 0 (.quiet 1 (.quiet 2 (.quiet 4 (.quiet 7 (.quiet 8 (.two 3 9 (.quiet 5 (.quiet 6 (.one 9 (.quiet 10 (.quiet 11 (.quiet 12 (.quiet 13 (.quiet 14 (.quiet 15 (.quiet 16 (.quiet 17 (.quiet 18 (.quiet 19 .done))))))))))))) (.quiet 10 (.one 3 (.quiet 5 (.quiet 6 (.quiet 11 (.quiet 12 (.quiet 13 (.quiet 14 (.quiet 15 (.quiet 16 (.quiet 17 (.quiet 18 (.quiet 19 .done)))))))))))))))))))) (BL w2) lN (by kernel_rfl) (aG ay 1) ?_;have ND:=hid (aG (Below.refl w2.heap.size w2) 1);generalize w2.drewN 1=w3 at*
 iterate 6 refine eB ?_
 refine dG rfl rfl ?_ ?_
 ·go_wp2_with fail
  refine(Ap.out w3 (cO bK.out ND.out)).mono ?_;rintro e w4 ⟨rfl,hb4⟩;have EW:=aJ ND hb4;clear hb4;go_wp2_with fail;refine aD (BL w2) (fun _ h=>h) EW.out ?_
  iterate 2 refine eB ?_
  refine aM rfl ?_;go_wp2_with fail;refine aD (BL w2) (fun _ h=>h) EW.out ?_
  iterate 10 refine eB ?_
  exact abd
 ·go_wp2_with fail
  refine aD (BL w2) (fun _ h=>h) ND.out ?_;refine eB ?_;refine aM rfl ?_;go_wp2_with fail;refine(Ap.out w3 (cO bK.out ND.out)).mono ?_;rintro e w4 ⟨rfl,hb4⟩;have EW:=aJ ND hb4;clear hb4;go_wp2_with fail;refine aD (BL w2) (fun _ h=>h) EW.out ?_
  iterate 11 refine eB ?_
  exact abd
theorem dO.take{α:Type}{n:Nat}{R:World->List Value->α->Prop}{S:Nat->Prop}{w:World}{a:Option Addr}{m cap:Nat}{xs:List α}(h:dO n R S w (.slice a m cap) xs){k:Nat}(hk:k<=xs.length):dO n R S w (.slice a k cap) (xs.take k):=by
 obtain⟨a',cap',e,h1,h2,h3,h4,h5⟩:=h;cases e;have hl:(xs.take k).length=k:=by rw[OD];omega
 refine⟨a,cap,by rw[hl],fun h0=>h1 (by rw[hl] at h0;omega),by rw[hl];omega,h3,fun h0=>h4 (by rw[hl] at h0;omega),fun j hj=>?_⟩;rw[hl] at hj;obtain⟨us,g1,g2,g3⟩:=h5 j aC;exact⟨us,g1,g2,by rw[List.getElem_take];exact g3⟩
theorem PD(r:ah.xX)(s:ByteArray)(b:Nat)(w:World)(hb:w.cell? ⟨b,0,none⟩=some (.string s)):
  Calls Tryz.prog 130 #[.agg #[.string r.name,.string r.kind,.string r.a,.string r.b,.int .i64 r.n],.pointer (some ⟨b,0,none⟩)] w fun e w'=>e=.returned (.bool (decide (r.name=s)))/\BL w w':=by
 have hz:b<w.heap.size:=xN w ⟨b,0,none⟩ hb;have HD:Hid ((r.name.toList==s.toList)=decide (r.name=s)):=hid Kj;obtain⟨rn,rk,ra,rb,rw⟩:=r;simp only at HD ⊢;go_enter Tryz.func130,Tryz.ntmps130;exact IL
theorem U1{p:Prop}(h:p:=by
  clear hw g0 g1 g2 g3 g4 g5 g6 g7 gf HS
  refine aD (BL wr) (fun _ h=>h) HC9.out ?_
  refine aT ?_
  try simp only[iW,iX]
  clear Lu Lv Lw Lx Lh UZ U0 Li
  obtain⟨⟨u0,u1,u2,u3,u4,u5,u6,u7⟩, -⟩:=dY Di.out
  have Bq:=aJ hbr HC9.out
  rcases HGK.out with e|e
  all_goals
   subst e
   go_wp2
   go_roundw
   case rel=>exact⟨k+1,by omega,by go_num,by first|rfl|trivial,by first|rfl|trivial,Bq⟩
   simp[intOf];omega):p:=h
theorem LC(x:ah.bF)(i:Nat)(v:Value)(S:Nat->Prop)(w:World)(hv:fA S w v x)(hi:i<x.aO.length)(h1:(x.aO.take i).any (fun s=>decide (s.name=(ah.rl x i).name))=false)(h2:0<=ah.cU x (ah.rl x i).kind)
  (h3:∀s,s=(ah.rl x i).a\/s=(ah.rl x i).b->s=ah.nil\/(ah.hasB x (ah.cU x (ah.rl x i).kind) (ah.bB (ah.kd x (ah.cU x (ah.rl x i).kind)) s)=true/\((jZ x (ah.cU x (ah.rl x i).kind) (ah.bB (ah.kd x (ah.cU x (ah.rl x i).kind)) s)).kind=2\/(jZ x (ah.cU x (ah.rl x i).kind) (ah.bB (ah.kd x (ah.cU x (ah.rl x i).kind)) s)).kind=4)))(h4:¬(ah.rl x i).a=(ah.rl x i).b):
  Calls Tryz.prog 95 #[v,.int .i64 i] w fun e w'=>e=.returned (.int .i64 0)/\BL w w':=by
 obtain⟨ak,ck,al,cl,ar,cr,rfl,hk,hl,hr,hsk,hsl,hsr⟩:=hv.form;have HV:=hid (fun(W:World) (hW:BL w W)=>hv.keep (aB.below hW));obtain⟨KR, -,r0,r1,r2,r3,r4⟩:=vY.at hr hi;have hrl:ah.rl x i=x.aO[i]:=by unfold ah.rl;rw[jA,kK hi];rfl
 rw[hrl] at h1 h2 h3 h4;have hcr:x.aO.length<=cr/\cr<=9223372036854775807:=by obtain⟨_,_,e, -,g1,g2⟩:=hr.form;cases e;exact⟨g1,g2⟩
 have HRt:=hid (fun(W:World) (hW:BL w W)=>dO.take (dO.keep eT hr (aB.below hW)) (k:=i) aC);have HTw:=hid h1;have Ap:=hid (fun(s:ByteArray) (W:World) (hW:BL w W)=>pS x s _ S W (HV.out W hW));have htl:(x.aO.take i).length=i:=by rw[OD];omega
 clear hv hl hr hrl h1;generalize x.aO[i]=r at*;obtain⟨rn,rk,ra,rb,rw⟩:=r;simp only at r0 r1 r2 r3 r4 h2 h3 h4 HTw;obtain⟨o,ho⟩:∃o:Nat,ah.cU x rk=(o:Int):=⟨(ah.cU x rk).toNat,by omega⟩
 have hok:o<x.ai.length:=by
  rcases kE (fun k:ah.eZ=>decide (k.name=rk)) x.ai with h|h
  ·have:ah.cU x rk<x.ai.length:=h
   omega
  ·have:ah.cU x rk= -1:=h
   omega
 rw[ho] at h3;have YV:=hid (Ap.out rk);rw[ho] at YV;clear ho h2;obtain⟨nJ, -,k0,k1,k2,uf,k3,oK⟩:=hk.at hok;obtain⟨af,cf,rfl, -, -, -⟩:=oK.form;have GH:=hid (fun(s:ByteArray) (W:World) (hW:BL w W)=>lg x.ai[o] s _ S W (oK.keep (aB.below hW)))
 have vG:Hid (∀W,BL w W->W.cell? ⟨bD ak,bJ ak+o*4,none⟩=some (.string x.ai[o].name)/\W.cell? ⟨bD ak,bJ ak+o*4+1,none⟩=some (.int .i64 x.ai[o].lo)/\W.cell? ⟨bD ak,bJ ak+o*4+2,none⟩=some (.int .i64 x.ai[o].hi)/\W.cell? ⟨bD ak,bJ ak+o*4+3,none⟩=some (.slice af x.ai[o].aA.length cf)):=hid (fun W hW=>
   ⟨(hW.cell (p:=⟨bD ak,bJ ak+o*4,none⟩) nJ).trans k0,(hW.cell (p:=⟨bD ak,bJ ak+o*4+1,none⟩) nJ).trans k1,(hW.cell (p:=⟨bD ak,bJ ak+o*4+2,none⟩) nJ).trans k2,(hW.cell (p:=⟨bD ak,bJ ak+o*4+3,none⟩) nJ).trans k3⟩)
 have nF:=hid (fun(u:Int) (W:World) (hW:BL w W)=>mN x (o:Int) u _ S W (HV.out W hW));rw[gm hok] at h3;obtain⟨nmS,hnm⟩:∃f:Nat->ByteArray,f=fun k=>if k=0 then ra else rb:=⟨_,rfl⟩
 have HG:Hid (∀k,k<2->nmS k=ah.nil\/(ah.hasB x o (ah.bB x.ai[o] (nmS k))=true/\((jZ x o (ah.bB x.ai[o] (nmS k))).kind=2\/(jZ x o (ah.bB x.ai[o] (nmS k))).kind=4))):=hid (fun k hk2=>by
  subst hnm;simp only;split
  ·exact h3 ra (.inl rfl)
  ·exact h3 rb (.inr rfl))
 clear k0 k1 k2 k3 oK hk h3;generalize x.ai[o]=kd at*;obtain⟨kn,EU,EV,DU⟩:=kd;simp only[lU] at GH;simp only at vG;obtain⟨nf,hnf⟩:=aV DU.length;rw[<-hnf] at vG GH;clear hnf;have hes:(ra.toList==rb.toList)=false:=by rw[Kj];simpa using h4
 clear h4;have hi0:(0:Int)<=i:=by omega
 have hi1:(i:Int)<x.aO.length:=by omega
 have Ul:(0:Int)<=o:=by omega
 have Pp:(o:Int)<x.ai.length:=by omega
 have hon:¬(o:Int)<0:=by omega
 obtain⟨w1,hw1⟩:=aV (di w x.aI (.slice ak x.ai.length ck) (.slice al x.aN.length cl) (.slice ar x.aO.length cr));have bf:=r9 hw1;have zG:Hid (w1.heap[w.heap.size]?=some (.cells #[.int .i64 x.aI,.slice ak x.ai.length ck,.slice al x.aN.length cl,.slice ar x.aO.length cr] 27 (0,0))):=hid (by rw[hw1];exact fE ..);unfold di at hw1;have HW1:=hid hw1;clear hw1;obtain⟨w2,hw2⟩:=aV (w1.alloc (.cells #[.string rn,.string rk,.string ra,.string rb,.int .i64 rw] 119));have bK:Hid (Below w.heap.size w w2):=hid (by rw[hw2];exact bf.out.alloc bf.out.size _);have HX:Hid (∀W,BL w2 W->W.heap[w.heap.size]?=some (.cells #[.int .i64 x.aI,.slice ak x.ai.length ck,.slice al x.aN.length cl,.slice ar x.aO.length cr] 27 (0,0))):=hid (fun W hW=>(hW.block _ (by rw[hw2];have:=aj zG.out;simp;omega)).trans (by rw[hw2];exact aY _ zG.out));have HR:Hid (∀W,BL w2 W->W.heap[w1.heap.size]?=some (.cells #[.string rn,.string rk,.string ra,.string rb,.int .i64 rw] 119 (0,0))):=hid (fun W hW=>(hW.block _ (by rw[hw2];simp)).trans ab9);have HW2:=hid hw2;clear hw2
 have Us:=hid (Np eT (x.aO.take i) (fun s:ah.xX=>decide (s.name=rn)) _ S w2 (HRt.out w2 bK.out) 130 #[.pointer (some ⟨w1.heap.size,0,none⟩)] (bE Tryz.func130 (by kernel_rfl) rfl) (fun X hX j hj us _ hu=>by
  obtain rfl:=hu;exact PD _ rn _ X (mL (HR.out X hX)).1.1))
 rw[HTw.out] at Us;obtain⟨⟨y0,y1,y2,y3⟩, -⟩:=aW zG.out;have YP:=(bf.out.cell (p:=⟨bD ar,bJ ar+i*5,none⟩) KR).trans r0;have YQ:=(bf.out.cell (p:=⟨bD ar,bJ ar+i*5+1,none⟩) KR).trans r1;have YR:=(bf.out.cell (p:=⟨bD ar,bJ ar+i*5+2,none⟩) KR).trans r2;have YS:=(bf.out.cell (p:=⟨bD ar,bJ ar+i*5+3,none⟩) KR).trans r3;have kc4:=(bf.out.cell (p:=⟨bD ar,bJ ar+i*5+4,none⟩) KR).trans r4;clear r0 r1 r2 r3 r4;go_enter Tryz.func95,Tryz.ntmps95;go_upto_region 1 with fail;rw[<-HW1.out];go_upto_region 2 with fail;rw[<-HW2.out];clear y0 y1 y2 y3 YP YQ YR YS kc4;obtain⟨⟨y0,y1,y2,y3⟩, -⟩:=aW (HX.out w2 ay);have hle:(i:Int)<=cr:=by omega
 go_wp2_with fail;refine Us.out.mono ?_;rintro e w3 ⟨rfl,hb3⟩;have gj:Hid (BL w2 w3):=hid hb3;have bZ:=aJ bK hb3;clear hb3 y0 y1 y2 y3 Us;obtain⟨⟨y0,y1,y2,y3⟩, -⟩:=aW (HX.out w3 gj.out);obtain⟨⟨z0,z1,z2,z3,z4⟩, -⟩:=mL (HR.out w3 gj.out);go_wp2_with fail;refine(YV.out w3 bZ.out).mono ?_;rintro e w4 ⟨rfl,hb4⟩;have jM:=aJ gj hb4;have f9:=aJ bZ hb4;clear hb4 y0 y1 y2 y3 z0 z1 z2 z3 z4;obtain⟨⟨y0,y1,y2,y3⟩, -⟩:=aW (HX.out w4 jM.out);obtain⟨⟨z0,z1,z2,z3,z4⟩, -⟩:=mL (HR.out w4 jM.out);have hdo:decide ((o:Int)<0)=false:=decide_eq_false aC;obtain⟨w5,mq⟩:=aV (w4.alloc (.cells #[.string ra,.string rb] 9));have jQ:Hid (Below w2.heap.size w2 w5):=hid (by rw[mq];exact jM.out.alloc jM.out.size _);have fF:Hid (Below w.heap.size w w5):=hid (by rw[mq];exact f9.out.alloc f9.out.size _);have U2:Hid (w5.heap[w4.heap.size]?=some (.cells #[.string ra,.string rb] 9 (0,0))):=hid (by rw[mq];exact aP _ _ rfl)
 have yg:Hid (∀W,BL w5 W->∀k,k<2->W.cell? ⟨w4.heap.size,k,none⟩=some (.string (nmS k))):=hid (fun W hW k hk2=>by
  have h0:=(hW.cell (p:=⟨w4.heap.size,k,none⟩) (aj U2.out));rw[h0,hnm];match k,hk2 with
  |0,_=>exact aF U2.out 0
  |1,_=>exact aF U2.out 1)
 have AZ:=hid mq;clear mq hnm;have h45:w4.heap.size<w5.heap.size:=aj U2.out;go_upto_region 5 with fail;go_upto_region 6 with fail;rw[<-AZ.out];clear y0 y1 y2 y3 z0 z1 z2 z3 z4;go_loopw [8,9,37] (fun s8 s9 k wr=>∃k':Nat,k'<=2/\k=.int .i64 k'/\s8=.bool false/\s9=.bool false/\Hid (BL w5 wr)) (fun _ _ k _=>2-(intOf k).toNat);case atStart=>exact⟨0,by omega,rfl,rfl,rfl,hid ay⟩
 case round=>
  obtain⟨k,hk,rfl,rfl,rfl,hbr⟩:=hrel;have nj:=aJ jQ hbr.out;have qC:=aJ fF hbr.out;by_cases hk2:k<2
  ·have hk0:(0:Int)<=(k:Int):=by omega
   have hk1:(k:Int)<2:=by omega
   have y0:=yg.out wr hbr.out k hk2;have HGk:=hid (HG.out k hk2);generalize nmS k=s at*;by_cases hs:s=ah.nil
   ·subst hs
    clear HGk;unfold ah.nil at*;go_wp2;go_roundw;case rel=>exact⟨k+1,by omega,by go_num,rfl,rfl,hbr⟩
    simp[intOf];omega
   ·have he:=sI hs
    have HG2:=hid (HGk.out.resolve_left hs);clear HGk hs;have D9:=hid (fun(W:World) (hW:BL w W)=>GH.out s W hW);generalize ah.bB ⟨kn,EU,EV,DU⟩ s=tz at*;have uG:=hid (fun(W:World) (hW:BL w W)=>nF.out tz W hW);unfold AtP at uG;obtain⟨g1,g2⟩:=HG2.out;rw[g1] at uG;have HGK:=hid g2;clear g1 g2 HG2;generalize jZ x (o:Int) tz=g at*;obtain⟨gn,go,gu,gk,gl,gh,J3,ggs⟩:=g;simp only[cV] at uG HGK;go_upto_region 9 with fail;have Lu:=dL wr ⟨w.heap.size,0,none⟩ (.int .i64 x.aI) fun xh=>(aW (HX.out xh.1 (cO nj.out xh.2))).1.1;have Lv:=dL wr ⟨w.heap.size,1,none⟩ (.slice ak x.ai.length ck) fun xh=>(aW (HX.out xh.1 (cO nj.out xh.2))).1.2.1;have Lw:=dL wr ⟨w.heap.size,2,none⟩ (.slice al x.aN.length cl) fun xh=>(aW (HX.out xh.1 (cO nj.out xh.2))).1.2.2.1;have Lx:=dL wr ⟨w.heap.size,3,none⟩ (.slice ar x.aO.length cr) fun xh=>(aW (HX.out xh.1 (cO nj.out xh.2))).1.2.2.2;have Lh:=dL wr ⟨bD ak,bJ ak+o*4,none⟩ (.string kn) fun xh=>(vG.out xh.1 (cO qC.out xh.2)).1;have UZ:=dL wr ⟨bD ak,bJ ak+o*4+1,none⟩ (.int .i64 EU) fun xh=>(vG.out xh.1 (cO qC.out xh.2)).2.1;have U0:=dL wr ⟨bD ak,bJ ak+o*4+2,none⟩ (.int .i64 EV) fun xh=>(vG.out xh.1 (cO qC.out xh.2)).2.2.1;have Li:=dL wr ⟨bD ak,bJ ak+o*4+3,none⟩ (.slice af nf cf) fun xh=>(vG.out xh.1 (cO qC.out xh.2)).2.2.2;refine dS 15 (.quiet 0 (.quiet 1 (.quiet 2 (.quiet 3 (.quiet 4 (.quiet 5 (.quiet 6 (.quiet 7 (.two 8 13 (.two 9 13 (.quiet 10 (.quiet 11 (.quiet 12 (.one 13 (.one 14 .done))))) (.one 9 (.quiet 10 (.quiet 11 (.quiet 12 (.one 14 .done)))))) (.one 8 (.one 9 (.quiet 10 (.quiet 11 (.quiet 12 (.one 14 .done))))))))))))))) (BL wr) lN (by kernel_rfl) (aG ay 1) ?_;have ND:=hid (aG (Below.refl wr.heap.size wr) 1);generalize wr.drewN 1=w6 at*;have Lz:=ND;clear ND nF GH Ap YV
    iterate 8 refine eB ?_
    refine dG rfl rfl ?_ ?_
    ·go_wp2_with fail
     refine(D9.out w6 (cO qC.out Lz.out)).mono ?_;rintro e w7 ⟨rfl,hb⟩;have GI:=aJ Lz hb;clear hb;go_wp2_with fail;refine aD (BL wr) (fun _ h=>h) GI.out ?_;refine dG rfl rfl ?_ ?_
     ·go_wp2_with fail
      refine(uG.out w7 (cO qC.out GI.out)).mono ?_;rintro e w8 ⟨a1,n1,c1,a2,n2,c2,rfl, -,hb⟩;have wS:=aJ GI hb;clear hb;go_wp2_with fail;refine aD (BL wr) (fun _ h=>h) wS.out ?_
      iterate 3 refine eB ?_
      refine aM rfl ?_;go_wp2_with fail;obtain⟨oh,hw⟩:=aV (w8.alloc (.cells #[.string {data:=#[]},.string {data:=#[]},.string {data:=#[]},.int .i64 0,.int .i64 0,.int .i64 0,.slice none 0 0,.slice none 0 0] 92));rw[<-hw];have Ba:Hid (Below wr.heap.size wr oh):=hid (by rw[hw];exact wS.out.alloc wS.out.size _);have yD:Hid (oh.heap[w8.heap.size]?=some (.cells #[.string {data:=#[]},.string {data:=#[]},.string {data:=#[]},.int .i64 0,.int .i64 0,.int .i64 0,.slice none 0 0,.slice none 0 0] 92 (0,0))):=hid GP;clear hw;refine aD (BL wr) (fun _ h=>h) Ba.out ?_;obtain⟨⟨g0,g1,g2,g3,g4,g5,g6,g7⟩,gf⟩:=dY yD.out;have HS:=hid (Kh yD.out (.string gn) (.string go) (.string gu) (.int .i64 gk) (.int .i64 gl) (.int .i64 gh) (.slice a1 n1 c1) (.slice a2 n2 c2));have hBw:wr.heap.size<=w8.heap.size:=wS.out.size;refine aM rfl ?_;go_wp2_with fail;obtain⟨w9,hw⟩:=aV (((((((((oh.setCell ⟨w8.heap.size,0,none⟩ (.string gn)).setCell ⟨w8.heap.size,1,none⟩ (.string go)).setCell ⟨w8.heap.size,2,none⟩ (.string gu)).setCell ⟨w8.heap.size,3,none⟩ (.int .i64 gk)).setCell ⟨w8.heap.size,4,none⟩ (.int .i64 gl)).setCell ⟨w8.heap.size,5,none⟩ (.int .i64 gh)).setCell ⟨w8.heap.size,6,none⟩ (.slice a1 n1 c1)).setCell ⟨w8.heap.size,7,none⟩ (.slice a2 n2 c2)));rw[<-hw];have HC9:Hid (Below wr.heap.size wr w9):=hid ab0;have Di:Hid (w9.heap[w8.heap.size]?=some (.cells #[.string gn,.string go,.string gu,.int .i64 gk,.int .i64 gl,.int .i64 gh,.slice a1 n1 c1,.slice a2 n2 c2] 92 (0,0))):=hid (by rw[hw];exact HS.out.1);exact U1
     ·go_wp2_with fail
      obtain⟨w8,hw⟩:=aV (w7.alloc (.cells #[.string {data:=#[]},.string {data:=#[]},.string {data:=#[]},.int .i64 0,.int .i64 0,.int .i64 0,.slice none 0 0,.slice none 0 0] 92));rw[<-hw];have wS:Hid (Below wr.heap.size wr w8):=hid (by rw[hw];exact GI.out.alloc GI.out.size _);have U3:Hid (w8.heap[w7.heap.size]?=some (.cells #[.string {data:=#[]},.string {data:=#[]},.string {data:=#[]},.int .i64 0,.int .i64 0,.int .i64 0,.slice none 0 0,.slice none 0 0] 92 (0,0))):=hid GP;clear hw;refine aD (BL wr) (fun _ h=>h) wS.out ?_;refine aM rfl ?_;go_wp2_with fail;refine(uG.out w8 (cO qC.out wS.out)).mono ?_;rintro e oh ⟨a1,n1,c1,a2,n2,c2,rfl, -,hb⟩;have Ba:=aJ wS hb;have yD:Hid (oh.heap[w7.heap.size]?=some (.cells #[.string {data:=#[]},.string {data:=#[]},.string {data:=#[]},.int .i64 0,.int .i64 0,.int .i64 0,.slice none 0 0,.slice none 0 0] 92 (0,0))):=hid ((hb.block _ (aj U3.out)).trans U3.out);clear hb;go_wp2_with fail;refine aD (BL wr) (fun _ h=>h) Ba.out ?_
      iterate 3 refine eB ?_
      obtain⟨⟨g0,g1,g2,g3,g4,g5,g6,g7⟩,gf⟩:=dY yD.out;have HS:=hid (Kh yD.out (.string gn) (.string go) (.string gu) (.int .i64 gk) (.int .i64 gl) (.int .i64 gh) (.slice a1 n1 c1) (.slice a2 n2 c2));have hBw:wr.heap.size<=w7.heap.size:=GI.out.size;refine aM rfl ?_;go_wp2_with fail;obtain⟨w9,hw⟩:=aV (((((((((oh.setCell ⟨w7.heap.size,0,none⟩ (.string gn)).setCell ⟨w7.heap.size,1,none⟩ (.string go)).setCell ⟨w7.heap.size,2,none⟩ (.string gu)).setCell ⟨w7.heap.size,3,none⟩ (.int .i64 gk)).setCell ⟨w7.heap.size,4,none⟩ (.int .i64 gl)).setCell ⟨w7.heap.size,5,none⟩ (.int .i64 gh)).setCell ⟨w7.heap.size,6,none⟩ (.slice a1 n1 c1)).setCell ⟨w7.heap.size,7,none⟩ (.slice a2 n2 c2)));rw[<-hw];have HC9:Hid (Below wr.heap.size wr w9):=hid ab0;have Di:Hid (w9.heap[w7.heap.size]?=some (.cells #[.string gn,.string go,.string gu,.int .i64 gk,.int .i64 gl,.int .i64 gh,.slice a1 n1 c1,.slice a2 n2 c2] 92 (0,0))):=hid (by rw[hw];exact HS.out.1);exact U1
    ·go_wp2_with fail
     obtain⟨w7,hw⟩:=aV (w6.alloc (.cells #[.string {data:=#[]},.string {data:=#[]},.string {data:=#[]},.int .i64 0,.int .i64 0,.int .i64 0,.slice none 0 0,.slice none 0 0] 92));rw[<-hw];have GI:Hid (Below wr.heap.size wr w7):=hid (by rw[hw];exact Lz.out.alloc Lz.out.size _);have HZ7:Hid (w7.heap[w6.heap.size]?=some (.cells #[.string {data:=#[]},.string {data:=#[]},.string {data:=#[]},.int .i64 0,.int .i64 0,.int .i64 0,.slice none 0 0,.slice none 0 0] 92 (0,0))):=hid GP;clear hw;refine aD (BL wr) (fun _ h=>h) GI.out ?_;refine aM rfl ?_;go_wp2_with fail;refine(D9.out w7 (cO qC.out GI.out)).mono ?_;rintro e w8 ⟨rfl,hb⟩;have wS:=aJ GI hb;have U3:Hid (w8.heap[w6.heap.size]?=some (.cells #[.string {data:=#[]},.string {data:=#[]},.string {data:=#[]},.int .i64 0,.int .i64 0,.int .i64 0,.slice none 0 0,.slice none 0 0] 92 (0,0))):=hid ((hb.block _ (aj HZ7.out)).trans HZ7.out);clear hb;go_wp2_with fail;refine aD (BL wr) (fun _ h=>h) wS.out ?_;refine aM rfl ?_;go_wp2_with fail;refine(uG.out w8 (cO qC.out wS.out)).mono ?_;rintro e oh ⟨a1,n1,c1,a2,n2,c2,rfl, -,hb⟩;have Ba:=aJ wS hb;have yD:Hid (oh.heap[w6.heap.size]?=some (.cells #[.string {data:=#[]},.string {data:=#[]},.string {data:=#[]},.int .i64 0,.int .i64 0,.int .i64 0,.slice none 0 0,.slice none 0 0] 92 (0,0))):=hid ((hb.block _ (aj U3.out)).trans U3.out);clear hb;go_wp2_with fail;refine aD (BL wr) (fun _ h=>h) Ba.out ?_
     iterate 3 refine eB ?_
     obtain⟨⟨g0,g1,g2,g3,g4,g5,g6,g7⟩,gf⟩:=dY yD.out;have HS:=hid (Kh yD.out (.string gn) (.string go) (.string gu) (.int .i64 gk) (.int .i64 gl) (.int .i64 gh) (.slice a1 n1 c1) (.slice a2 n2 c2));have hBw:wr.heap.size<=w6.heap.size:=Lz.out.size;refine aM rfl ?_;go_wp2_with fail;obtain⟨w9,hw⟩:=aV (((((((((oh.setCell ⟨w6.heap.size,0,none⟩ (.string gn)).setCell ⟨w6.heap.size,1,none⟩ (.string go)).setCell ⟨w6.heap.size,2,none⟩ (.string gu)).setCell ⟨w6.heap.size,3,none⟩ (.int .i64 gk)).setCell ⟨w6.heap.size,4,none⟩ (.int .i64 gl)).setCell ⟨w6.heap.size,5,none⟩ (.int .i64 gh)).setCell ⟨w6.heap.size,6,none⟩ (.slice a1 n1 c1)).setCell ⟨w6.heap.size,7,none⟩ (.slice a2 n2 c2)));rw[<-hw];have HC9:Hid (Below wr.heap.size wr w9):=hid ab0;have Di:Hid (w9.heap[w6.heap.size]?=some (.cells #[.string gn,.string go,.string gu,.int .i64 gk,.int .i64 gl,.int .i64 gh,.slice a1 n1 c1,.slice a2 n2 c2] 92 (0,0))):=hid (by rw[hw];exact HS.out.1);exact U1
  ·obtain rfl:k=2:=by omega
   obtain⟨⟨z0,z1,z2,z3,z4⟩, -⟩:=mL (HR.out wr nj.out);go_wp2_with fail;refine(Lj _ _ _ _ _ _ _ _ _ _ (World.alloc _ _) rfl rfl rfl (by first|rfl|exact hes) (aP _ _ rfl)).mono ?_;rintro e wz ⟨rfl,hbz⟩;have Rv:Hid (BL w wz):=hid ((qC.out.alloc qC.out.size _).trans (hbz.mono (by have:=qC.out.size;simp;omega)));exact NE
def Ar(k:Int):Option Nat:=
 if k=0 then some 215 else if k=1 then some 216 else if k=4 then some 217 else if k=5 then some 218 else if k=6 then some 220
 else if k=7 then some 221 else if k=8 then some 223 else none
def PE(k:Int):Value:=match Ar k with
 |some fo=>.agg #[.func (.func fo) #[] #[]]
 |none=>.agg #[.nilFunc]
structure TabC(b:Nat)(w:World):Prop where
 glob:w.cell? ⟨0,0,none⟩=some (.map (some b))
 lt:b<w.heap.size
 look:∀(W:World),W.heap[b]?=w.heap[b]?->∀k:Int,0<=k->k<=8->(Instr.lookup 211 (.map (some b)) (.int .i64 k) true).run Tryz.prog W=.ok (.tuple #[PE k,.bool (Ar k).isSome]) W
theorem TabC.below{b B:Nat}{w w':World}(h:TabC b w)(hb:Below B w w')(hB:b<B)(h0:0<B):TabC b w':=
 ⟨(hb.cell (p:=⟨0,0,none⟩) h0).trans h.glob,XO h.lt hb.size,fun W hW=>h.look W (hW.trans (hb.block _ hB))⟩
theorem I7{f:ah.dh}(h:ah.dB f=true):0<=f.kind/\f.kind<=8:=by
 unfold ah.dB at h;simp only[kJ] at h;have h2:=h.2;unfold ah.nC at h2;repeat' split at h2
 all_goals first|omega|simp at h2
theorem NF{x:ah.bF}{i j:Int}(h0:0<=i)(h1:i<x.ai.length)(h2:0<=j)(h3:j<(ah.kd x i).aA.length):ah.hasB x i j=true:=by
 unfold ah.hasB;rw[decide_eq_true h0,decide_eq_true h1,decide_eq_true h2,decide_eq_true h3];rfl
theorem EX{x:ah.bF}{i j:Int}{f:ah.dh}(hu:0<=ah.dV x i j)(h:¬ah.Bh x i j f=none):ah.hasB x (ah.dV x i j) (kH x i j f)=true/\ah.oZ x i j f=jZ x (ah.dV x i j) (kH x i j f):=by
 unfold ah.oZ;unfold ah.Bh at h ⊢;rw[if_neg aC] at h ⊢;by_cases hb:ah.hasB x (ah.dV x i j) (ah.bB (ah.kd x (ah.dV x i j)) f.of)=true
 ·refine⟨hb,?_⟩
  rw[if_pos hb];unfold jZ kH;rw[if_pos hb];rfl
 ·rw[if_neg hb] at h
  exact absurd rfl h
theorem YW(x:ah.bF)(i j:Nat)(hi:i<x.ai.length)(hj:j<(ah.kd x i).aA.length)(h0:ah.ze x i j=0)(h6:x.ai.length<=1000)(h10:∀k∈x.ai,k.aA.length<=1000)(fo:Nat)(hf:Ar (ah.fd x i j).kind=some fo)
  (ak al ar:Option Addr)(ck cl cr:Nat)(uw ug:Value)(S:Nat->Prop)(w:World)(hv:fA S w (.agg #[.int .i64 x.aI,.slice ak x.ai.length ck,.slice al x.aN.length cl,.slice ar x.aO.length cr]) x):
  Calls Tryz.prog fo #[.agg (jU x.aI ak x.ai.length ck al x.aN.length cl ar x.aO.length cr i j (ah.fd x i j) uw ug).toArray] w fun e w'=>e=.returned (.int .i64 0)/\BL w w':=by
 have hi':(0:Int)<=i/\(i:Int)<x.ai.length:=⟨by omega,by omega⟩;unfold ah.ze at h0;simp only at h0;unfold Ar at hf;by_cases k0:(ah.fd x i j).kind=0
 ·rw[if_pos k0] at hf h0
  cases hf
  exact Ll x i j _ ak al ar ck cl cr uw ug S w hv (by
   by_cases hj0:(0:Int)<j
   ·rw[if_pos hj0] at h0;omega
   ·omega)
 rw[if_neg k0] at hf h0;by_cases k1:(ah.fd x i j).kind=1
 ·rw[if_pos k1] at hf h0
  cases hf
  exact Lm x i j _ ak al ar ck cl cr uw ug S w hv (by
   by_cases hu:ah.dV x i j<0
   ·rw[if_pos hu] at h0;omega
   ·omega)
 rw[if_neg k1] at hf h0;by_cases k4:(ah.fd x i j).kind=4
 ·rw[if_pos k4] at hf h0
  cases hf;refine Lr x i j _ ak al ar ck cl cr uw ug S w hv hi' ?_;by_cases hn:(ah.fd x i j).of=ah.nil
  ·exact .inl hn
  ·right
   by_cases hc:ah.bB (ah.kd x i) (ah.fd x i j).of<0\/(j:Int)<=ah.bB (ah.kd x i) (ah.fd x i j).of\/¬(ah.fd x i (ah.bB (ah.kd x i) (ah.fd x i j).of)).kind=4
   ·rw[if_pos ⟨hn,hc⟩] at h0;omega
   ·have h1:0<=ah.bB (ah.kd x i) (ah.fd x i j).of:=by
     by_cases h:ah.bB (ah.kd x i) (ah.fd x i j).of<0
     ·exact absurd (.inl h) hc
     ·omega
    have h2:ah.bB (ah.kd x i) (ah.fd x i j).of<j:=by
     by_cases h:(j:Int)<=ah.bB (ah.kd x i) (ah.fd x i j).of
     ·exact absurd (.inr (.inl h)) hc
     ·omega
    refine⟨h1,h2,?_⟩;rw[wQ (NF hi'.1 hi'.2 h1 aC)];exact Classical.not_not.1 fun h=>hc (.inr (.inr h))
 rw[if_neg k4] at hf h0;by_cases k5:(ah.fd x i j).kind=5
 ·rw[if_pos k5] at hf h0
  cases hf
  exact Ln x i j _ ak al ar ck cl cr uw ug S w hv (by
   by_cases hu:ah.MK x (ah.fd x i j).of=true
   ·exact hu
   ·rw[if_neg hu] at h0;omega)
 rw[if_neg k5] at hf h0;by_cases k6:(ah.fd x i j).kind=6
 ·rw[if_pos k6] at hf h0
  cases hf;by_cases ho:ah.gq x i (ah.fd x i j)<0
  ·rw[if_pos ho] at h0;omega
  rw[if_neg ho] at h0;by_cases hs:(ah.gy x i (ah.fd x i j)).length≠1
  ·rw[if_pos hs] at h0;omega
  exact Lp x i j _ ak al ar ck cl cr uw ug S w hv hi'.1 aC aC h6 h10
 rw[if_neg k6] at hf h0;by_cases k7:(ah.fd x i j).kind=7
 ·rw[if_pos k7] at hf h0
  cases hf;by_cases hu:ah.dV x i j<0
  ·rw[if_pos hu] at h0;omega
  rw[if_neg hu] at h0;by_cases hc:ah.Bh x i j (ah.fd x i j)=none\/(ah.oZ x i j (ah.fd x i j)).kind≠6\/ah.cU x (ah.oZ x i j (ah.fd x i j)).of≠i
  ·rw[if_pos hc] at h0;omega
  obtain⟨t1,t2⟩:=EX (f:=ah.fd x i j) aC (fun h=>hc (.inl h));exact Ls x i j _ ak al ar ck cl cr uw ug S w hv hi' aC t1 (by rw[<-t2];exact Classical.not_not.1 fun h=>hc (.inr (.inl h))) (by rw[<-t2];exact Classical.not_not.1 fun h=>hc (.inr (.inr h)))
 rw[if_neg k7] at hf h0;by_cases k8:(ah.fd x i j).kind=8
 ·rw[if_pos k8] at hf h0
  cases hf;by_cases hu:ah.dV x i j<0
  ·rw[if_pos hu] at h0;omega
  rw[if_neg hu] at h0;by_cases hc:ah.Bh x i j (ah.fd x i j)=none\/¬((ah.oZ x i j (ah.fd x i j)).kind=2\/(ah.oZ x i j (ah.fd x i j)).kind=3\/(ah.oZ x i j (ah.fd x i j)).kind=4\/(ah.oZ x i j (ah.fd x i j)).kind=5\/(ah.oZ x i j (ah.fd x i j)).kind=8)
  ·rw[if_pos hc] at h0;omega
  obtain⟨t1,t2⟩:=EX (f:=ah.fd x i j) aC (fun h=>hc (.inl h));exact LA x i j _ ak al ar ck cl cr uw ug S w hv hi' aC t1 (by rw[<-t2];exact Classical.not_not.1 fun h=>hc (.inr h))
 rw[if_neg k8] at hf;cases hf
theorem LD{k:Int}{fo:Nat}(h:Ar k=some fo):∀args w,(callFunc fo args).run Tryz.prog w=.ok (.enter fo args) w:=by
 unfold Ar at h;split at h
 ·cases h;exact bE Tryz.func215 (by kernel_rfl) rfl
 split at h
 ·cases h;exact bE Tryz.func216 (by kernel_rfl) rfl
 split at h
 ·cases h;exact bE Tryz.func217 (by kernel_rfl) rfl
 split at h
 ·cases h;exact bE Tryz.func218 (by kernel_rfl) rfl
 split at h
 ·cases h;exact bE Tryz.func220 (by kernel_rfl) rfl
 split at h
 ·cases h;exact bE Tryz.func221 (by kernel_rfl) rfl
 split at h
 ·cases h;exact bE Tryz.func223 (by kernel_rfl) rfl
 ·cases h
theorem wT(a b c:Int)(g:Nat)(w:World):
  Calls Tryz.prog 89 #[.int .i64 a,.int .i64 b,.int .i64 c,.int .i64 0,.pointer (some ⟨g,0,none⟩)] w fun e w'=>e=.returned (.tuple #[])/\w=w':=by
 go_enter Tryz.func89,Tryz.ntmps89;go_wp2;go_end0;exact⟨rfl,rfl⟩
theorem PG(nm s:ByteArray)(u1 u2:Value)(b:Nat)(w:World)(hb:w.cell? ⟨b,0,none⟩=some (.string s)):
  Calls Tryz.prog 91 #[.agg #[.string nm,u1,u2],.pointer (some ⟨b,0,none⟩)] w fun e w'=>e=.returned (.bool (decide (nm=s)))/\BL w w':=by
 have hz:b<w.heap.size:=xN w ⟨b,0,none⟩ hb;have HD:Hid ((nm.toList==s.toList)=decide (nm=s)):=hid Kj;go_enter Tryz.func91,Tryz.ntmps91;exact IL
theorem PI{x:ah.bF}(h:ah.okB x=true){i:Nat}(hi:i<x.aN.length):(x.aN.take i).any (fun l=>decide (l.name=x.aN[i].name))=false:=by
 unfold ah.okB at h;simp only[kJ,lE,List.all_eq_true,List.mem_range] at h;have h2:=h.1.1.2 i hi;unfold ah.G7 at h2;rw[kK hi] at h2;simp only[Option.map_some,Option.some.injEq] at h2;cases hc:(x.aN.take i).any (fun l=>decide (l.name=x.aN[i].name)) with
 |false=>rfl
 |true=>rw[hc] at h2;simp at h2
theorem PJ{x:ah.bF}(h:ah.okB x=true){i:Nat}(hi:i<x.aO.length):ah.Bj x i=0:=by
 unfold ah.okB at h;simp only[kJ,lE,List.all_eq_true,List.mem_range] at h;exact h.2 i hi
theorem zP{x:ah.bF}{k:Int}{s:ah.Nm}(hk:0<=k)(h1:¬(ah.vV x k s).1=true)(h2:¬(ah.vV x k s).2=true):
  s=ah.nil\/(ah.hasB x k (ah.bB (ah.kd x k) s)=true/\((jZ x k (ah.bB (ah.kd x k) s)).kind=2\/(jZ x k (ah.bB (ah.kd x k) s)).kind=4)):=by
 by_cases hs:s=ah.nil
 ·exact .inl hs
 ·unfold ah.vV at h1 h2
  have hc:¬(s=ah.nil\/k<0):=fun h=>h.elim hs aC;rw[if_neg hc] at h1 h2;simp only at h1 h2
  have hb:ah.hasB x k (ah.bB (ah.kd x k) s)=true:=by
   cases hb:ah.hasB x k (ah.bB (ah.kd x k) s)
   ·rw[hb] at h1;exact absurd rfl h1
   ·rfl
  refine .inr ⟨hb,?_⟩;rw[wQ hb];rw[if_pos hb] at h2;simp only[kJ,lE] at h2;by_cases h3:(ah.fd x k (ah.bB (ah.kd x k) s)).kind=2
  ·exact .inl h3
  ·exact .inr (Classical.not_not.1 fun h4=>h2 ⟨h3,h4⟩)
theorem LG{x:ah.bF}{i:Nat}(h:ah.Bj x i=0):(x.aO.take i).any (fun s=>decide (s.name=(ah.rl x i).name))=false/\0<=ah.cU x (ah.rl x i).kind/\
  (∀s,s=(ah.rl x i).a\/s=(ah.rl x i).b->s=ah.nil\/(ah.hasB x (ah.cU x (ah.rl x i).kind) (ah.bB (ah.kd x (ah.cU x (ah.rl x i).kind)) s)=true/\((jZ x (ah.cU x (ah.rl x i).kind) (ah.bB (ah.kd x (ah.cU x (ah.rl x i).kind)) s)).kind=2\/(jZ x (ah.cU x (ah.rl x i).kind) (ah.bB (ah.kd x (ah.cU x (ah.rl x i).kind)) s)).kind=4)))/\¬(ah.rl x i).a=(ah.rl x i).b:=by
 unfold ah.Bj at h;simp only at h;split at h
 ·omega
 rename_i h1;split at h
 ·omega
 rename_i h2;split at h
 ·omega
 rename_i h3;split at h
 ·omega
 rename_i h4
 have hk:0<=ah.cU x (ah.rl x i).kind:=by
  by_cases hk:ah.cU x (ah.rl x i).kind<0
  ·exact absurd (.inl hk) h2
  ·omega
 refine⟨by simpa using h1,hk,fun s hs=>?_,h4⟩;rcases hs with rfl|rfl
 ·exact zP hk (fun e=>h2 (.inr (.inl e))) (fun e=>h3 (.inl e))
 ·exact zP hk (fun e=>h2 (.inr (.inr e))) (fun e=>h3 (.inr e))
theorem PK{k:Int}{fo:Nat}(h:Ar k=some fo):PE k=.agg #[.func (.func fo) #[] #[]]:=by unfold PE;rw[h]
theorem PL{k:Int}(h:Ar k=none):PE k=.agg #[.nilFunc]:=by unfold PE;rw[h]
theorem I8{x:ah.bF}{i j:Int}(h:ah.oI x i j=0):¬ah.bB (ah.kd x i) (ah.fd x i j).name<j/\ah.ze x i j=0:=by
 unfold ah.oI at h;split at h
 ·omega
 ·rename_i h1;exact⟨h1,h⟩
theorem sJ{x:ah.bF}{i:Nat}(h:ah.zh x i=0):¬ah.cU x (ah.kd x i).name<i/\0<(ah.kd x i).aA.length/\(ah.fd x i 0).kind=0:=by
 unfold ah.zh at h;split at h
 ·omega
 rename_i h1;split at h
 ·omega
 rename_i h2;refine⟨h1,?_,Classical.not_not.1 fun h3=>h2 (.inr h3)⟩;by_cases h0:(ah.kd x i).aA.length=0
 ·exact absurd (.inl h0) h2
 ·omega
theorem LH(x:ah.bF)(hok:ah.okB x=true)(v:Value)(S:Nat->Prop)(tb:Nat)(w:World)(hv:fA S w v x)(Nv:LaidW w)(htb:TabC tb w):
  Calls Tryz.prog 68 #[v] w fun e w'=>e=.returned (.slice none 0 0)/\BL w w':=by
 obtain⟨hxv,hxk⟩:=aR.kW hok;obtain⟨v6,vl6,vr16,vK⟩:=aR.jT hxv;have h6:x.ai.length<=1000:=by omega
 have h10:∀k∈x.ai,k.aA.length<=1000:=fun k hk=>by have:=(aR.kX (vK k hk)).1;omega
 obtain⟨ak,ck,al,cl,ar,cr,rfl,hk,hl,hr,hsk,hsl,hsr⟩:=hv.form;have HV:=hid (fun(W:World) (hW:BL w W)=>hv.keep (aB.below hW));have YX:=hid (fun(W:World) (hW:BL w W)=>htb.below hW htb.lt (by have:=Nv.size;omega));obtain⟨w1,hw1⟩:=aV (di w x.aI (.slice ak x.ai.length ck) (.slice al x.aN.length cl) (.slice ar x.aO.length cr));have bf:=r9 hw1;have HX:=wv hw1;unfold di at hw1;have HW1:=hid hw1;clear hw1;have PN:=hid (Aq x hxv _ S w1 (HV.out w1 bf.out) (Nv.next bf.out));have Rx:=hid hk;have HHL:=hid hl;have HHR:=hid hr;have HOK:=hid hok;have HXK:=hid hxk;have HVK:=hid vK;have hcl:x.aN.length<=cl/\cl<=9223372036854775807:=by obtain⟨_,_,e, -,g1,g2⟩:=hl.form;cases e;exact⟨g1,g2⟩
 clear hk hl hr hv Nv htb hok hxk vK;have nH:=bE Tryz.func89 (by kernel_rfl) rfl;obtain⟨⟨y0,y1,y2,y3⟩, -⟩:=aW (HX.out w1 ay);go_enter Tryz.func68,Tryz.ntmps68;go_upto_region 1 with fail;rw[<-HW1.out];go_wp2_with fail;refine PN.out.mono ?_;rintro e w2 ⟨rfl,hb2⟩;have eC:Hid (BL w1 w2):=hid hb2;clear hb2 y0 y1 y2 y3 PN;obtain⟨w3,hw3⟩:=aV (w2.alloc (.cells #[.slice none 0 0] 162));have gj:Hid (Below w1.heap.size w1 w3):=hid J9;have HO:Hid (∀W,BL w3 W->W.heap[w2.heap.size]?=some (.cells #[.slice none 0 0] 162 (0,0))):=hid (fun W hW=>(hW.block _ (by rw[hw3];simp)).trans acd);have bZ:Hid (∀W,BL w3 W->BL w W):=hid (fun W hW=>cO bf.out (cO gj.out hW));have OX:Hid (∀W,BL w3 W->W.heap[w.heap.size]?=some (.cells #[.int .i64 x.aI,.slice ak x.ai.length ck,.slice al x.aN.length cl,.slice ar x.aO.length cr] 27 (0,0))):=hid (fun W hW=>HX.out W (cO gj.out hW));have HW3:=hid hw3;clear hw3 HX bf eC gj;go_upto_region 5 with fail;rw[<-HW3.out];obtain⟨⟨y0,y1,y2,y3⟩, -⟩:=aW (OX.out w3 ay);go_wp2;clear y0 y1 y2 y3;go_loopw [28] (fun i wr=>∃k:Nat,k<=x.aN.length/\i=.int .i64 k/\Hid (BL w3 wr)) (fun i _=>x.aN.length-(intOf i).toNat);case atStart=>exact⟨0,Nat.zero_le _,rfl,hid ay⟩
 case round=>
  obtain⟨k,hk,rfl,nj⟩:=hrel;by_cases hlt:k<x.aN.length
  ·have hk0:(0:Int)<=(k:Int):=by omega
   have hk1:(k:Int)<(x.aN.length:Int):=by omega
   have hle:(k:Int)<=cl:=by omega
   obtain⟨hzl, -,l0,u1,u2,l1,l2,hu1,lF⟩:=ux.at (dO.keep dn HHL.out (aB.below (bZ.out wr nj.out))) hlt;obtain⟨wU,cs,rfl, -, -, -⟩:=hu1.form;obtain⟨am,cm,rfl, -, -, -⟩:=lF.form;clear hu1 lF;have HA:=hid (PI HOK.out hlt);have HLv:=hid (fun(W:World) (hW:BL w W)=>dO.take (dO.keep dn HHL.out (aB.below hW)) (k:=k) aC);generalize x.aN[k]=lf at*;obtain⟨ln,lss,lms⟩:=lf;simp only at l0 l1 l2 HA;generalize lss.length=n1 at*;generalize lms.length=n2 at*;have nj:=nj;obtain⟨w4,hw⟩:=aV (wr.alloc (.cells #[.string ln,.slice wU n1 cs,.slice am n2 cm] 116));have jM:Hid (Below w3.heap.size w3 w4):=hid Xz;have HN4:Hid (∀W,BL w4 W->W.heap[wr.heap.size]?=some (.cells #[.string ln,.slice wU n1 cs,.slice am n2 cm] 116 (0,0))):=hid (fun W hW=>(hW.block _ Kc).trans GP);have Dq:=hid hw;clear hw;have Ng:wr.heap.size<w4.heap.size:=aj (HN4.out w4 ay)
   have J4:=hid (FW dn (x.aN.take k) (fun l:ah.Gv=>decide (l.name=ln)) _ S w4 (HLv.out w4 (bZ.out w4 jM.out)) 91 #[.pointer (some ⟨wr.heap.size,0,none⟩)] (bE Tryz.func91 (by kernel_rfl) rfl) (fun X hX j hj us _ hu=>by
    obtain⟨u1,u2,rfl, -, -⟩:=hu;exact PG _ ln u1 u2 _ X (aF (HN4.out X hX) 0)))
   rw[HA.out] at J4;go_upto_region 9 with fail;rw[<-Dq.out];clear l0 l1 l2;obtain⟨⟨y0,y1,y2,y3⟩, -⟩:=aW (OX.out w4 jM.out);go_wp2_with fail;refine J4.out.mono ?_;rintro e w5 ⟨rfl,hb⟩;have jQ:=aJ jM hb;clear hb;clear y0 y1 y2 y3;go_wp2_with fail;refine(nK _ _ _ _ (World.alloc _ _) (by rfl) (aP _ _ rfl)).mono ?_;rintro e w6 ⟨rfl,hb⟩;have BW:Hid (BL w3 w6):=hid ((jQ.out.alloc jQ.out.size _).trans (hb.mono (by have:=jQ.out.size;simp;omega)));clear hb;go_wp2_with fail;refine(wT _ _ _ _ _).mono ?_;rintro e wy ⟨rfl,rfl⟩;go_wp2;go_roundw;case rel=>exact⟨k+1,by omega,by go_num,BW⟩
   simp[intOf];omega
  ·obtain rfl:k=x.aN.length:=by omega
   have Dp:=nj;obtain⟨⟨y0,y1,y2,y3⟩, -⟩:=aW (OX.out wr nj.out);go_wp2;clear y0 y1 y2 y3;generalize hW0:wr=W0 at*;go_loopw [50] (fun i wr=>∃k:Nat,k<=x.ai.length/\i=.int .i64 k/\Hid (BL w3 wr)) (fun i _=>x.ai.length-(intOf i).toNat);case atStart=>exact⟨0,Nat.zero_le _,rfl,nj⟩
   case round=>
    obtain⟨k,hk,rfl,nj⟩:=hrel;by_cases hlt:k<x.ai.length
    ·have hk0:(0:Int)<=(k:Int):=by omega
     have hk1:(k:Int)<(x.ai.length:Int):=by omega
     obtain⟨nJ, -,k0,k1,k2,uf,k3,oK⟩:=gJ.at (gJ.keep Rx.out (aB.below (bZ.out wr nj.out))) hlt;obtain⟨af,cf,rfl,hsf, -, -⟩:=oK.form;have JW:Hid (∀W,BL wr W->dJ S W (.slice af x.ai[k].aA.length cf) x.ai[k].aA):=hid (fun W hW=>oK.keep (aB.below hW));have HXk:=hid (HXK.out k hlt);have HKE:=hid (fun(W:World) (hW:BL w W)=>LB x k _ S W (HV.out W hW) hlt (sJ HXk.out.1).1 (sJ HXk.out.1).2.1 (sJ HXk.out.1).2.2);have J5:Hid (ah.kd x k=x.ai[k]):=hid (gm hlt);have HFB:Hid (∀f∈x.ai[k].aA,ah.dB f=true):=hid (aR.kX (HVK.out _ (gY hlt))).2;have xT:Hid (∀(j:Nat) (h:j<x.ai[k].aA.length),ah.fd x k j=x.ai[k].aA[j]):=hid (fun j h=>uF hlt h);have HFP:Hid (∀j:Nat,j<x.ai[k].aA.length->ah.oI x k j=0):=hid (fun j hj=>HXk.out.2 j (by rw[J5.out];exact hj));clear oK HXk;have Le:x.ai[k].aA.length<=1000:=h10 _ (gY hlt);have I9:=hid (fun(j:Nat) (hj:j<(ah.kd x k).aA.length) (h0:ah.ze x k j=0) (fo:Nat) (hf:Ar (ah.fd x k j).kind=some fo) (uw ug:Value) (W:World) (hW:BL w W)=>YW x k j hlt hj h0 h6 h10 fo hf ak al ar ck cl cr uw ug S W (HV.out W hW));rw[J5.out] at I9;generalize PO:x.ai[k]=kq at*;obtain⟨kn,EU,EV,DU⟩:=kq;have HKq2:=hid PO;clear PO;simp only at k0 k1 k2 k3 hsf JW HFB HFP Le;obtain⟨nf,hnf⟩:=aV DU.length;have Lg:=hid hnf;rw[<-hnf] at k3 hsf JW Le;clear hnf;obtain⟨w4,hw⟩:=aV (wr.alloc (.cells #[.string kn,.int .i64 EU,.int .i64 EV,.slice af nf cf] 95));have jM:Hid (Below w3.heap.size w3 w4):=hid Xz;have HN4:Hid (∀W,BL w4 W->W.heap[wr.heap.size]?=some (.cells #[.string kn,.int .i64 EU,.int .i64 EV,.slice af nf cf] 95 (0,0))):=hid (fun W hW=>(hW.block _ Kc).trans GP);have Dq:=hid hw;clear hw;go_upto_region 15 with fail;rw[<-Dq.out];clear k0 k1 k2 k3;obtain⟨⟨y0,y1,y2,y3⟩, -⟩:=aW (OX.out w4 jM.out);go_wp2_with fail;refine(HKE.out w4 (bZ.out w4 jM.out)).mono ?_;rintro e w5 ⟨rfl,hb⟩;have WU:Hid (BL w4 w5):=hid hb;have jQ:=aJ jM hb;clear hb;clear y0 y1 y2 y3;go_wp2_with fail;refine(wT _ _ _ _ _).mono ?_;rintro e wy ⟨rfl,rfl⟩;obtain⟨⟨c0,c1,c2,c3⟩, -⟩:=aW (HN4.out w5 WU.out);go_wp2;clear c0 c1 c2 c3;have HMr:Hid (BL wr w5):=hid ((by rw[Dq.out];exact ay.alloc aH _:BL wr w4).trans (WU.out.mono (by rw[Dq.out];simp)));have af5:Hid (∀W,BL w5 W->dJ S W (.slice af nf cf) DU):=hid (fun W hW=>JW.out W (cO HMr.out hW));have U2:Hid (∀W,BL w5 W->W.heap[wr.heap.size]?=some (.cells #[.string kn,.int .i64 EU,.int .i64 EV,.slice af nf cf] 95 (0,0))):=hid (fun W hW=>HN4.out W (cO WU.out hW));have B6:Hid (∀W,BL w5 W->BL w3 W):=hid (fun W hW=>cO jQ.out hW);generalize Ry:wr=Wb at*;go_loopw [64] (fun i wr=>∃j:Nat,j<=nf/\i=.int .i64 j/\Hid (BL w5 wr)) (fun i _=>nf-(intOf i).toNat);case atStart=>exact⟨0,Nat.zero_le _,rfl,hid ay⟩
     case round=>
      obtain⟨j,hj,rfl,HJr⟩:=hrel;by_cases hjt:j<nf
      ·have hj0:(0:Int)<=(j:Int):=by omega
       have hj1:(j:Int)<(nf:Int):=by omega
       have Xi:j<DU.length:=by rw[<-Lg.out];exact hjt
       obtain⟨J2, -,f0,f1,f2,f3,f4,f5,uw,ug,f6,f7,xR,hgs⟩:=dJ.at (af5.out wr HJr.out) Xi;obtain⟨aw,cw,rfl, -, -, -⟩:=xR.form;obtain⟨ag,cg,rfl, -, -, -⟩:=hgs.form;clear xR hgs;have nj:Hid (BL w3 wr):=hid (B6.out wr HJr.out);have hfe:=I8 (HFP.out j Xi);rw[show ah.kd x k=⟨kn,EU,EV,DU⟩ from J5.out,xT.out j Xi] at hfe;have HFE:=hid hfe;have HC:=hid (fun(fo:Nat) (hf:Ar (DU[j]).kind=some fo) (uw ug:Value) (W:World) (hW:BL w W)=>by have:=I9.out j Xi hfe.2 fo (by rw[xT.out j Xi];exact hf) uw ug W hW;rw[xT.out j Xi] at this;exact this);have AQ:=I7 (HFB.out _ (gY Xi));have HFi:=hid (fun(s:ByteArray) (W:World) (hW:BL w5 W)=>lg ⟨kn,EU,EV,DU⟩ s (.slice af nf cf) S W (af5.out W hW));simp only[lU] at HFi;clear hfe;generalize DU[j]=g at*;obtain⟨gn,go,gu,gk,gl,gh,J3,ggs⟩:=g;simp only at f0 f1 f2 f3 f4 f5 f6 f7 HFE AQ HC;generalize J3.length=nw at*;generalize ggs.length=ng at*;have HFn:=hid (HFi.out gn);obtain⟨hq1, -⟩:=HFE.out;generalize ah.bB ⟨kn,EU,EV,DU⟩ gn=fz at*;have hdz:=decide_eq_false hq1;clear HFi;obtain⟨w6,hw⟩:=aV (wr.alloc (.cells #[.string gn,.string go,.string gu,.int .i64 gk,.int .i64 gl,.int .i64 gh,.slice aw nw cw,.slice ag ng cg] 92));have BW:Hid (Below w3.heap.size w3 w6):=hid Xz;have HN6:Hid (∀W,BL w6 W->W.heap[wr.heap.size]?=some (.cells #[.string gn,.string go,.string gu,.int .i64 gk,.int .i64 gl,.int .i64 gh,.slice aw nw cw,.slice ag ng cg] 92 (0,0))):=hid (fun W hW=>(hW.block _ Kc).trans GP);have ET:=hid hw;clear hw;have HJ6:Hid (Below w5.heap.size w5 w6):=hid (by rw[ET.out];exact HJr.out.alloc HJr.out.size _);go_upto_region 19 with fail;rw[<-ET.out];clear f0 f1 f2 f3 f4 f5 f6 f7;obtain⟨⟨f0,f1,f2,f3,f4,f5,f6,f7⟩, -⟩:=dY (HN6.out w6 ay);obtain⟨⟨c0,c1,c2,c3⟩, -⟩:=aW (U2.out w6 HJ6.out);go_wp2_with fail;refine(HFn.out w6 HJ6.out).mono ?_;rintro e w7 ⟨rfl,hb⟩;have MZ:Hid (BL w6 w7):=hid hb;have Dt:=aJ BW hb;clear hb;clear f0 f1 f2 f3 f4 f5 f6 f7 c0 c1 c2 c3;go_wp2_with fail;refine(nK _ _ _ _ (World.alloc _ _) (by first|rfl|exact hdz) (aP _ _ rfl)).mono ?_;rintro e w8 ⟨rfl,hb⟩;have J6:Hid (BL w3 w8):=hid ((Dt.out.alloc Dt.out.size _).trans (hb.mono (by have:=Dt.out.size;simp;omega)));have Te:Hid (BL w6 w8):=hid ((MZ.out.alloc MZ.out.size _).trans (hb.mono (by have:=MZ.out.size;simp;omega)));clear hb;obtain⟨⟨f0,f1,f2,f3,f4,f5,f6,f7⟩, -⟩:=dY (HN6.out w8 Te.out);have F6:=hid (YX.out w8 (bZ.out w8 J6.out));have hgl:=F6.out.glob;have hlk:=F6.out.look w8 rfl gk AQ.1 AQ.2;go_upto_region 20 with fail;cases hcf:Ar gk with
       |none=>
        rw[PL hcf,hcf] at hlk
        have HJn:Hid (∀o,BL w5 (w8.alloc o)):=hid (fun o=>cO HJ6.out (Te.out.alloc Te.out.size _))
        clear hcf HC
        simp only[Option.isSome_none] at hlk
        go_wp2_with fail
        refine(wT _ _ _ _ _).mono ?_
        rintro e wy ⟨rfl,rfl⟩
        go_wp2
        go_roundw
        case rel=>exact⟨j+1,by omega,by go_num,hid (HJn.out _)⟩
        simp[intOf];omega
       |some fo=>
        rw[PK hcf,hcf] at hlk
        have hfo:=LD hcf
        have NG:=hid (HC.out fo hcf)
        clear hcf HC
        simp only[Option.isSome_some] at hlk
        obtain⟨w9,hw⟩:=aV (w8.alloc (.cells #[.func (.func fo) #[] #[]] 209))
        have EY:Hid (Below w3.heap.size w3 w9):=hid (by rw[hw];exact J6.out.alloc J6.out.size _)
        have HN9:Hid (∀W,BL w9 W->W.heap[w8.heap.size]?=some (.cells #[.func (.func fo) #[] #[]] 209 (0,0))):=hid (fun W hW=>(hW.block _ Kc).trans GP)
        have HW9:=hid hw
        clear hw
        have HM9:Hid (Below w6.heap.size w6 w9):=hid (by rw[HW9.out];exact Te.out.alloc Te.out.size _)
        go_upto_region 21 with fail
        rw[<-HW9.out]
        clear hlk hgl f0 f1 f2 f3 f4 f5 f6 f7
        obtain⟨⟨f0,f1,f2,f3,f4,f5,f6,f7⟩, -⟩:=dY (HN6.out w9 HM9.out)
        obtain⟨⟨y0,y1,y2,y3⟩, -⟩:=aW (OX.out w9 EY.out)
        have d0:w9.cell? ⟨w8.heap.size,0,none⟩=some (.func (.func fo) #[] #[]):=aF (HN9.out w9 ay) 0
        have Xd:=hid (NG.out (.slice aw nw cw) (.slice ag ng cg) w9 (bZ.out w9 EY.out))
        simp only[jU] at Xd
        go_wp2_with fail
        refine Xd.out.mono ?_
        rintro e oh ⟨rfl,hb⟩
        have HJ10:Hid (BL w5 oh):=hid (cO HJ6.out (cO HM9.out hb))
        clear hb y0 y1 y2 y3 d0 f0 f1 f2 f3 f4 f5 f6 f7
        go_wp2_with fail
        refine(wT _ _ _ _ _).mono ?_
        rintro e wy ⟨rfl,rfl⟩
        go_wp2
        go_roundw
        case rel=>exact⟨j+1,by omega,by go_num,HJ10⟩
        simp[intOf];omega
      ·obtain rfl:j=nf:=by omega
       go_wp2;go_roundw;case rel=>exact⟨k+1,by omega,by go_num,hid (B6.out wr HJr.out)⟩
       simp[intOf];omega
    ·obtain rfl:k=x.ai.length:=by omega
     have Dp:=nj;obtain⟨⟨y0,y1,y2,y3⟩, -⟩:=aW (OX.out wr nj.out);go_wp2;clear y0 y1 y2 y3;generalize hW0:wr=W0 at*;go_loopw [108] (fun i wr=>∃k:Nat,k<=x.aO.length/\i=.int .i64 k/\Hid (BL w3 wr)) (fun i _=>x.aO.length-(intOf i).toNat);case atStart=>exact⟨0,Nat.zero_le _,rfl,nj⟩
     case round=>
      obtain⟨k,hk,rfl,nj⟩:=hrel;by_cases hlt:k<x.aO.length
      ·have hk0:(0:Int)<=(k:Int):=by omega
       have hk1:(k:Int)<(x.aO.length:Int):=by omega
       obtain⟨p1,p2,p3,p4⟩:=LG (PJ HOK.out hlt);have HRE:=hid (LC x k _ S wr (HV.out wr (bZ.out wr nj.out)) hlt p1 p2 p3 p4);clear p1 p2 p3 p4;obtain⟨⟨y0,y1,y2,y3⟩, -⟩:=aW (OX.out wr nj.out);go_wp2_with fail;refine HRE.out.mono ?_;rintro e w5 ⟨rfl,hb⟩;have jQ:=aJ nj hb;clear hb;clear y0 y1 y2 y3;go_wp2_with fail;refine(wT _ _ _ _ _).mono ?_;rintro e wy ⟨rfl,rfl⟩;go_wp2;go_roundw;case rel=>exact⟨k+1,by omega,by go_num,jQ⟩
       simp[intOf];omega
      ·obtain rfl:k=x.aO.length:=by omega
       have o0:wr.cell? ⟨w2.heap.size,0,none⟩=some (.slice none 0 0):=aF (HO.out wr nj.out) 0;go_wp2;go_ret;exact⟨rfl,bZ.out wr nj.out⟩
def PU(_:Nat->Prop)(_:World)(us:List Value)(r:aR.Ref):Prop:=us=[.int .i64 (r.kind:Int),.int .i64 (r.field:Int),.int .i64 r.up,.int .i64 r.least]
theorem dN:cD PU:=⟨fun h _=>h,fun h _=>h⟩
abbrev uK(B:Nat):=bC 4 PU (fun _=>True) B 173
abbrev EZ(S:Nat->Prop):=dO 4 (PU S) S
theorem YZ{a b c d:Int}:∀u∈[Value.int .i64 a,.int .i64 b,.int .i64 c,.int .i64 d],u.oneCell'=true:=by
 intro u hu;simp only[kM,vE,or_false] at hu;rcases hu with rfl|rfl|rfl|rfl<;>rfl
theorem Tryz.adH:jW Tryz.prog 166 173 4 32:=gE (z:=.agg #[.int .i64 0,.int .i64 0,.int .i64 0,.int .i64 0]) (by kernel_rfl) (by kernel_rfl) rfl aC aC
theorem bC.base{α:Type}{n:Nat}{RR:(Nat->Prop)->World->List Value->α->Prop}{S:Nat->Prop}{B B':Nat}{e:TypeId}{w:World}{v:Value}{xs:List α}(h:bC n RR S B e w v xs)(hB:B'<=B):bC n RR S B' e w v xs:=by
 obtain⟨jB,h1,h2,h3,h4⟩:=h;exact⟨jB,⟨h1.1,h1.2.imp id (fun⟨g,cap,cur,e1,e2,r⟩=>⟨g,cap,cur,e1,Nat.le_trans hB e2,r⟩)⟩,h2,h3,h4⟩
theorem Cb(x:ah.bF)(h6:x.ai.length<=6)(h10:∀k∈x.ai,k.aA.length<=10)(v:Value)(S:Nat->Prop)(w:World)(hv:fA S w v x):
  Calls Tryz.prog 71 #[v] w fun e w'=>∃a c l,e=.returned (.slice a l.length c)/\l.length<=60/\l=aR.cN x/\uK w.heap.size w' (.slice a l.length c) l/\BL w w':=by
 obtain⟨ak,ck,al,cl,ar,cr,rfl,hk,hl,hr,hsk,hsl,hsr⟩:=hv.form;have HV:=hid (fun(W:World) (hW:BL w W)=>hv.keep (aB.below hW));have Rx:=hid hk;have Nz:=hid (fun(i j:Nat) (W:World) (hW:BL w W)=>F4 x i j _ S W (HV.out W hW));obtain⟨w1,hw1⟩:=aV (di w x.aI (.slice ak x.ai.length ck) (.slice al x.aN.length cl) (.slice ar x.aO.length cr));have bf:=r9 hw1;have HX:=wv hw1;unfold di at hw1;have HW1:=hid hw1;clear hk hl hr hv hw1;obtain⟨⟨y0,y1,y2,y3⟩, -⟩:=aW (HX.out w1 ay);go_enter Tryz.func71,Tryz.ntmps71;go_upto_region 1 with fail;rw[<-HW1.out];go_wp2;clear y0 y1 y2 y3;go_loopw [3,11] (fun lv kk wr=>∃(k:Nat) (l:List aR.Ref) (a:Option Addr) (c:Nat),k<=x.ai.length/\kk=.int .i64 k/\lv=.slice a l.length c/\l.length<=10*k/\Hid (l=aR.q9 x k)/\Hid (uK w1.heap.size wr (.slice a l.length c) l)/\Hid (BL w1 wr)) (fun _ kk _=>x.ai.length-(intOf kk).toNat);case atStart=>exact⟨0,[],none,0,Nat.zero_le _,rfl,rfl,aH,hid rfl,hid (bC.nil _ _ _ _ _ _),hid ay⟩
 case round=>
  obtain⟨k,l,a,c,hk,rfl,rfl,hll,Gs,HO,HL⟩:=hrel;by_cases hlt:k<x.ai.length
  ·have hk0:(0:Int)<=(k:Int):=by omega
   have hk1:(k:Int)<(x.ai.length:Int):=by omega
   have qC:=aJ bf HL.out;obtain⟨nJ, -,k0,k1,k2,uf,k3,oK⟩:=gJ.at (gJ.keep Rx.out (aB.below qC.out)) hlt;obtain⟨-, -, -, -, -,uf',k3',UW⟩:=gJ.at Rx.out hlt;have hzk':bD ak<w.heap.size:=by obtain⟨h, -⟩:=gJ.at Rx.out hlt;exact h
   have e:uf'=uf:=qf (((qC.out.cell (p:=⟨bD ak,bJ ak+k*4+3,none⟩) hzk').trans k3').symm.trans k3);subst e;obtain⟨af,cf,rfl,hsf, -, -⟩:=UW.form;have JW:Hid (∀W,BL w W->dJ S W (.slice af x.ai[k].aA.length cf) x.ai[k].aA):=hid (fun W hW=>UW.keep (aB.below hW));have J5:Hid (ah.kd x k=x.ai[k]):=hid (gm hlt);have xT:Hid (∀(j:Nat) (h:j<x.ai[k].aA.length),ah.fd x k j=x.ai[k].aA[j]):=hid (fun j h=>uF hlt h);have Le:x.ai[k].aA.length<=10:=h10 _ (gY hlt);clear oK UW k3';generalize x.ai[k]=kq at*;obtain⟨kn,EU,EV,fs⟩:=kq;simp only at k0 k1 k2 k3 hsf JW Le xT;obtain⟨nf,hnf⟩:=aV fs.length;have Lg:=hid hnf;rw[<-hnf] at k3 hsf JW Le;clear hnf;obtain⟨w4,hw⟩:=aV (wr.alloc (.cells #[.string kn,.int .i64 EU,.int .i64 EV,.slice af nf cf] 95));have jM:Hid (Below w1.heap.size w1 w4):=hid ab6;have Y0:Hid (uK w1.heap.size w4 (.slice a l.length c) l):=hid (by rw[hw];exact bC.below dN HO.out (ay.alloc aH _));have c3:w4.cell? ⟨wr.heap.size,3,none⟩=some (.slice af nf cf):=by rw[hw];exact aF (aP wr _ rfl) 3
   have Dq:=hid hw;clear hw;go_upto_region 5 with fail;rw[<-Dq.out];clear k0 k1 k2 k3;go_wp2;clear c3;generalize Ry:wr=Wb at*;go_loopw [3,19] (fun lv jj wr=>∃(j:Nat) (l:List aR.Ref) (a:Option Addr) (c:Nat),j<=nf/\jj=.int .i64 j/\lv=.slice a l.length c/\l.length<=10*k+j/\Hid (l=aR.q9 x k++aR.kN x k j)/\Hid (uK w1.heap.size wr (.slice a l.length c) l)/\Hid (BL w1 wr)) (fun _ jj _=>nf-(intOf jj).toNat);case atStart=>exact⟨0,l,a,c,Nat.zero_le _,rfl,rfl,by omega,hid (by rw[Gs.out,aR.KL,List.append_nil]),Y0,jM⟩
   case round=>
    obtain⟨j,l,a,c,hj,rfl,rfl,hll2,BX,wR,eC⟩:=hrel;by_cases hjt:j<nf
    ·have hj0:(0:Int)<=(j:Int):=by omega
     have hj1:(j:Int)<(nf:Int):=by omega
     have Xi:j<fs.length:=by rw[<-Lg.out];exact hjt
     have qC:=aJ bf eC.out;obtain⟨J2, -,f0,f1,f2,f3,f4,f5,uw,ug,f6,f7,xR,hgs⟩:=dJ.at (JW.out wr qC.out) Xi;obtain⟨aw,cw,rfl, -, -, -⟩:=xR.form;obtain⟨ag,cg,rfl, -, -, -⟩:=hgs.form;clear xR hgs;have TG:ah.fd x k j=fs[j]:=xT.out j Xi;have Ns:Hid ((fs[j]).kind=1->aR.kN x k (j+1)=aR.kN x k j++[⟨k,j,ah.dV x k j,(fs[j]).lo⟩]):=hid (fun h=>by rw[aR.uY,aR.EH (by rw[TG];exact h),TG]);have Ur:Hid (¬(fs[j]).kind=1->aR.kN x k (j+1)=aR.kN x k j):=hid (fun h=>by rw[aR.uY,aR.TV (by rw[TG];exact h),List.append_nil]);have HUj:=hid (Nz.out k j);clear TG;generalize fs[j]=g at*;obtain⟨gn,go,gu,gk,gl,gh,J3,ggs⟩:=g;simp only at f0 f1 f2 f3 f4 f5 f6 f7 Ns Ur;generalize J3.length=nw at*;generalize ggs.length=ng at*;generalize ah.dV x k j=uz at*;obtain⟨w5,hw⟩:=aV (wr.alloc (.cells #[.string gn,.string go,.string gu,.int .i64 gk,.int .i64 gl,.int .i64 gh,.slice aw nw cw,.slice ag ng cg] 92));have jQ:Hid (Below w1.heap.size w1 w5):=hid (by rw[hw];exact eC.out.alloc eC.out.size _);have U4:Hid (uK w1.heap.size w5 (.slice a l.length c) l):=hid (by rw[hw];exact bC.below dN wR.out (ay.alloc aH _));have U2:Hid (∀W,BL w5 W->W.heap[wr.heap.size]?=some (.cells #[.string gn,.string go,.string gu,.int .i64 gk,.int .i64 gl,.int .i64 gh,.slice aw nw cw,.slice ag ng cg] 92 (0,0))):=hid (fun W hW=>(hW.block _ Kc).trans GP);have AZ:=hid hw;clear hw;go_upto_region 8 with fail;rw[<-AZ.out];clear f0 f1 f2 f3 f4 f5 f6 f7;obtain⟨⟨f0,f1,f2,f3,f4,f5,f6,f7⟩, -⟩:=dY (U2.out w5 ay);by_cases h1:gk=1
     ·subst h1
      have Y8:=hid (Ns.out rfl);clear Ns Ur;go_upto_region 9 with fail;have Lu:=dL w5 ⟨w.heap.size,0,none⟩ (.int .i64 x.aI) fun xh=>(aW (HX.out xh.1 (cO jQ.out xh.2))).1.1;have Lv:=dL w5 ⟨w.heap.size,1,none⟩ (.slice ak x.ai.length ck) fun xh=>(aW (HX.out xh.1 (cO jQ.out xh.2))).1.2.1;have Lw:=dL w5 ⟨w.heap.size,2,none⟩ (.slice al x.aN.length cl) fun xh=>(aW (HX.out xh.1 (cO jQ.out xh.2))).1.2.2.1;have Lx:=dL w5 ⟨w.heap.size,3,none⟩ (.slice ar x.aO.length cr) fun xh=>(aW (HX.out xh.1 (cO jQ.out xh.2))).1.2.2.2;have hqf4:=dL w5 ⟨wr.heap.size,4,none⟩ (.int .i64 gl) fun xh=>(dY (U2.out xh.1 xh.2)).1.2.2.2.2.1;refine dS 11 (.quiet 0 (.quiet 1 (.quiet 2 (.quiet 3 (.quiet 4 (.quiet 5 (.quiet 7 (.quiet 8 (.one 6 (.quiet 9 (.one 10 .done))))))))))) (BL w5) lN (by kernel_rfl) (aG ay 1) ?_;have Lz:=hid (aG (Below.refl w5.heap.size w5) 1);generalize w5.drewN 1=w6 at*
      iterate 8 refine eB ?_
      refine aM rfl ?_;go_wp2_with fail;refine(HUj.out w6 (cO bf.out (cO jQ.out Lz.out))).mono ?_;rintro e w7 ⟨rfl,hb⟩;have GI:=aJ Lz hb;clear hb;go_wp2_with fail;refine aD (BL w5) (fun _ h=>h) GI.out ?_;refine eB ?_;refine aM rfl ?_;go_wp2_with fail;refine aD (BL w5) (fun _ h=>h) (GI.out.alloc GI.out.size _) ?_;refine aT ?_;try simp only[iW,iX]
      clear Lu Lv Lw Lx hqf4 f0 f1 f2 f3 f4 f5 f6 f7;have Dt:=aJ jQ GI.out;have HO7:Hid (uK w1.heap.size w7 (.slice a l.length c) l):=hid (bC.below dN U4.out GI.out);go_wp2_with (at_builtin;go_must (refine cF dN rfl _ _ rfl Tryz.adH rfl HO7.out (us:=[.int .i64 (k:Int),.int .i64 (j:Int),.int .i64 uz,.int .i64 gl]) rfl rfl rfl (⟨k,j,uz,gl⟩:aR.Ref) rfl YZ aC Dt.out.size ?_));intro v' w8 how ht hn;obtain⟨l2,hl2⟩:=aV (l++[(⟨k,j,uz,gl⟩:aR.Ref)]);rw[<-hl2] at how;have hlen:l2.length=l.length+1:=by rw[hl2];simp
      obtain⟨a2,c2,rfl, -⟩:=how.form;have J6:Hid (BL w1 w8):=hid (Dt.out.trans (ht.below Dt.out.size (fun b hb=>by have:=(HO7.out.lt b hb.symm).1;omega)));have DJ:Hid (uK w1.heap.size w8 (.slice a2 l2.length c2) l2):=hid how;have EY:Hid (l2=aR.q9 x k++aR.kN x k (j+1)):=hid (by rw[hl2,Y8.out,BX.out,List.append_assoc]);clear how ht hn hl2;go_wp2;go_roundw;case rel=>exact⟨j+1,l2,a2,c2,by omega,by go_num,rfl,by omega,EY,DJ,J6⟩
      simp[intOf];omega
     ·have e1:(gk==1)=false:=by simpa using h1
      have Y8:=hid (Ur.out h1);clear Ns Ur h1;go_wp2;go_roundw;case rel=>exact⟨j+1,l,a,c,by omega,by go_num,rfl,by omega,hid (by rw[Y8.out];exact BX.out),U4,jQ⟩
      simp[intOf];omega
    ·obtain rfl:j=nf:=by omega
     have HE:Hid (l=aR.q9 x (k+1)):=hid (by rw[BX.out,aR.BF,J5.out,Lg.out]);go_wp2;go_roundw;case rel=>exact⟨k+1,l,a,c,by omega,by go_num,rfl,by omega,HE,wR,eC⟩
     simp[intOf];omega
  ·obtain rfl:k=x.ai.length:=by omega
   go_wp2;go_ret;exact⟨a,c,l,rfl,by omega,Gs.out,bC.base HO.out bf.out.size,cO bf.out HL.out⟩
theorem PV(k nk nf ck cf c:Nat)(ak af a:Option Addr)(bS bI:Nat)(w:World)(h1:w.cell? ⟨bS,1,none⟩=some (.slice ak nk ck))(h2:w.cell? ⟨bI,0,none⟩=some (.int .i64 k))(hk:k<nk)(hsk:dI ak nk)(h3:w.cell? ⟨bD ak,bJ ak+k*4+3,none⟩=some (.slice af nf cf)):
  Calls Tryz.prog 97 #[.slice a nf c,.pointer (some ⟨bS,0,none⟩),.pointer (some ⟨bI,0,none⟩)] w fun e w'=>e=.returned (.bool false)/\BL w w':=by
 have hk0:(0:Int)<=k:=by omega
 have hk1:(k:Int)<nk:=by omega
 have hz:bS<w.heap.size:=xN w ⟨bS,1,none⟩ h1;go_enter Tryz.func97,Tryz.ntmps97;go_wp2;go_ret;exact⟨by simp,ay⟩
theorem PW(f u n nw nr c cw cr:Nat)(kd v ls:Int)(a aw ar:Option Addr)(bR bW:Nat)(w:World)(hR:w.heap[bR]?=some (.cells #[.int .i64 kd,.int .i64 f,.int .i64 u,.int .i64 ls] 173 (0,0)))(hW:w.cell? ⟨bW,0,none⟩=some (.slice aw nw cw))
  (hf:f<n)(hs:dI a n)(hc:w.cell? ⟨bD a,bJ a+f,none⟩=some (.int .i64 v))(hu:u<nw)(hsw:dI aw nw)(hr:w.cell? ⟨bD aw,bJ aw+u,none⟩=some (.slice ar nr cr))(h0:0<=v)(h1:v<nr):
  Calls Tryz.prog 98 #[.slice a n c,.pointer (some ⟨bR,0,none⟩),.pointer (some ⟨bW,0,none⟩)] w fun e w'=>e=.returned (.bool false)/\BL w w':=by
 obtain⟨⟨r0,r1,r2,r3⟩, -⟩:=aW hR;have hf0:(0:Int)<=f:=by omega
 have hf1:(f:Int)<n:=by omega
 have hu0:(0:Int)<=u:=by omega
 have hu1:(u:Int)<nw:=by omega
 have hv0:¬v<0:=by omega
 have hv1:¬(nr:Int)<=v:=by omega
 go_enter Tryz.func98,Tryz.ntmps98;go_wp2;go_quiet (fail);go_wp2;go_ret;exact⟨by simp;omega,aG ay _⟩
theorem PX(x:ah.bF)(W:ah.cG)(hfw:aR.sF x W)(v u:Value)(S:Nat->Prop)(w:World)(hv:fA S w v x)(hW:cZ S w u W):
  Calls Tryz.prog 69 #[v,u] w fun e w'=>e=.returned (.bool true)/\BL w w':=by
 obtain⟨ak,ck,al,cl,ar,cr,rfl,hk,hl,hr,hsk,hsl,hsr⟩:=hv.form;obtain⟨aw,cw,rfl,hsw, -, -⟩:=hW.form;have HV:=hid (fun(X:World) (hX:BL w X)=>hv.keep (aB.below hX));have HHW:=hid (fun(X:World) (hX:BL w X)=>hW.keep (aB.below hX));have Rx:=hid hk
 have Xj:=hid (fun(X:World) (hX:BL w X)=>Cb x hfw.ai (fun k hk=>by
  obtain⟨j,hj,rfl⟩:=List.getElem_of_mem hk;rw[<-gm hj];exact hfw.aA j) _ S X (HV.out X hX))
 have h6:=hfw.ai;have hlen:=hfw.len;obtain⟨nk,hnk⟩:=aV x.ai.length;have hnw:W.length=nk:=by rw[hnk];exact hlen
 rw[<-hnk] at hsk h6 Xj Rx HV ⊢;rw[hnw] at hsw HHW ⊢;have HNK:=hid hnk;have HNW:=hid hnw;clear hk hl hr hv hW hlen hnk hnw;obtain⟨w1,hw1⟩:=aV ((di w x.aI (.slice ak nk ck) (.slice al x.aN.length cl) (.slice ar x.aO.length cr)).alloc (.cells #[.slice aw nk cw] 29));have bf:Hid (Below w.heap.size w w1):=hid Oi;have HX:Hid (∀X,BL w1 X->X.heap[w.heap.size]?=some (.cells #[.int .i64 x.aI,.slice ak nk ck,.slice al x.aN.length cl,.slice ar x.aO.length cr] 27 (0,0))):=hid (fun X hX=>(hX.block _ RO).trans Xw);have HWb:Hid (∀X,BL w1 X->X.cell? ⟨w.heap.size+1,0,none⟩=some (.slice aw nk cw)):=hid (fun X hX=>aF ((hX.block (w.heap.size+1) XI).trans Ke) 0);unfold di at hw1;have HW1:=hid hw1;clear hw1;obtain⟨⟨y0,y1,y2,y3⟩, -⟩:=aW (HX.out w1 ay);have z0:=HWb.out w1 ay;have ht0:=hfw.tot;go_enter Tryz.func69,Tryz.ntmps69;go_upto_region 1 with fail;rw[<-HW1.out];go_wp2;clear y0 y1 y2 y3 z0;go_loopw [5,18] (fun s kk wr=>∃(k sz:Nat),k<=nk/\kk=.int .i64 k/\s=.int .i64 sz/\sz<=512/\Hid (sz=ah.total (W.take k))/\Hid (BL w1 wr)) (fun _ kk _=>nk-(intOf kk).toNat);case atStart=>exact⟨0,0,Nat.zero_le _,rfl,rfl,by omega,hid rfl,hid ay⟩
 case round=>
  obtain⟨k,sz,hk,rfl,rfl,hsz,Xk,HL⟩:=hrel;by_cases hlt:k<nk
  ·have hk0:(0:Int)<=(k:Int):=by omega
   have hk1:(k:Int)<(nk:Int):=by omega
   have oL:k<W.length:=by rw[HNW.out];exact hlt
   have hkx:k<x.ai.length:=by rw[<-HNK.out];exact hlt
   have qC:=aJ bf HL.out;obtain⟨u,hu,hzw,hrow⟩:=gQ.at (HHW.out wr qC.out) oL;obtain⟨ao,co,rfl, -, -, -⟩:=hrow.form;obtain⟨nJ, -, -, -, -,uf,k3,oK⟩:=gJ.at Rx.out hkx;obtain⟨af,cf,rfl, -, -, -⟩:=oK.form;have uD:Hid (∀X,BL w X->X.cell? ⟨bD ak,bJ ak+k*4+3,none⟩=some (.slice af x.ai[k].aA.length cf)):=hid (fun X hX=>(hX.cell (p:=⟨bD ak,bJ ak+k*4+3,none⟩) nJ).trans k3);have HRL:Hid (∀r∈W[k],r.length=x.ai[k].aA.length):=hid (fun r hr=>by rw[hfw.qv k oL r hr,gm hkx])
   have HTs:Hid (ah.total (W.take (k+1))=ah.total (W.take k)+W[k].length):=hid (by
    rw[Gu oL]
    simp only[ah.total,List.map_append,List.sum_append,List.map_cons,List.map_nil,List.sum_cons,List.sum_nil]
    omega)
   have ht1:=Bz W (k+1);have Aj:=hfw.tot;rw[HTs.out] at ht1;have HTl:Hid (W[k].length+ah.total (W.take k)<=512):=hid aC;have htl:W[k].length+ah.total (W.take k)<=512:=by omega
   clear k3 oK ht1 Aj;obtain⟨w4,hw⟩:=aV (wr.alloc (.cells #[.int .i64 (k:Int)] 3));have jM:Hid (Below w1.heap.size w1 w4):=hid ab6
   have HI4:Hid (∀X,BL w4 X->X.cell? ⟨wr.heap.size,0,none⟩=some (.int .i64 (k:Int))):=hid (fun X hX=>by
    have:=hX.block wr.heap.size Kc;exact aF (this.trans GN) 0)
   have hb4:BL wr w4:=by rw[hw];exact ay.alloc aH _
   have Dq:=hid hw;clear hw;have f9:=aJ bf jM.out
   have J4:=hid (Nq yX W[k] (fun _=>false) _ S w4 (hrow.keep (aB.below hb4)) (fun X u y h=>by obtain⟨a,c,e, -⟩:=h.form;exact⟨_,_,_,e⟩) 97 #[.pointer (some ⟨w.heap.size,0,none⟩),.pointer (some ⟨wr.heap.size,0,none⟩)] (bE Tryz.func97 (by kernel_rfl) rfl) (fun X hX j hj u hu=>by
    obtain⟨a1,c1,rfl, -, -, -⟩:=hu.form;rw[HRL.out _ (gY hj)];exact PV k nk _ ck cf c1 ak af a1 w.heap.size wr.heap.size X (aW (HX.out X (cO jM.out hX))).1.2.1 (HI4.out X hX) hlt hsk (uD.out X (cO f9.out hX))))
   rw[show W[k].any (fun _=>false)=false from by simp] at J4;clear hrow hb4;obtain⟨nr,zQ⟩:=aV (W[k].length);rw[<-zQ] at hu J4 HTs htl;clear zQ;have qt:Hid (((sz:Nat):Int)+nr=(ah.total (W.take (k+1)):Nat)):=hid (by rw[HTs.out,Xk.out];omega);rw[<-Xk.out] at htl;go_upto_region 7 with fail;rw[<-Dq.out];clear hu;go_wp2_with fail;refine J4.out.mono ?_;rintro e w5 ⟨rfl,hb⟩;have jQ:=aJ jM hb;clear hb;go_wp2;go_roundw;case rel=>exact⟨k+1,sz+nr,by omega,by go_num,by go_num,by omega,hid (by have:=qt.out;omega),jQ⟩
   simp[intOf];omega
  ·obtain rfl:nk=k:=by omega
   clear Xk;obtain⟨⟨y0,y1,y2,y3⟩, -⟩:=aW (HX.out wr HL.out);have Ky:=hid (Xj.out wr (cO bf.out HL.out));go_wp2_with fail;refine Ky.out.mono ?_;rintro e w6 ⟨ax,cx,l,rfl,hl60,hlx,hrf,hb⟩;have HLx:=hid hlx;have hRV:=hrf.sl dN (T:=fun _=>True) (fun b _ h=>trivial) (fun b hb=>trivial);have HRV:=hid (fun(X:World) (hX:BL w6 X)=>dO.keep dN hRV (aB.below hX));have BW:=aJ HL hb;have hsx:dI ax l.length:=by obtain⟨_,_,e,g, -⟩:=hrf.form;cases e;exact g
   clear hlx hrf hb hRV y0 y1 y2 y3;obtain⟨nl,hnl⟩:=aV l.length;have HNl:=hid hnl;rw[<-hnl] at HRV hsx hl60 ⊢;clear hnl;go_wp2;generalize hW0:wr=W0 at*;go_loopw [34] (fun kk wr=>∃(r:Nat),r<=nl/\kk=.int .i64 r/\Hid (BL w6 wr)) (fun kk _=>nl-(intOf kk).toNat);case atStart=>exact⟨0,Nat.zero_le _,rfl,hid ay⟩
   case round=>
    obtain⟨r,hrn,rfl,eC⟩:=hrel;have HL:=aJ BW eC.out;by_cases hlt:r<nl
    ·have hr0:(0:Int)<=(r:Int):=by omega
     have hr1:(r:Int)<(nl:Int):=by omega
     have hrl:r<l.length:=by rw[<-HNl.out];exact hlt
     have qC:=aJ bf HL.out;obtain⟨-,us,Nf,hcs,Y9⟩:=dO.at (HRV.out wr eC.out) hrl;obtain rfl:us=_:=Y9;have y0:wr.cell? ⟨bD ax,bJ ax+r*4,none⟩=some (.int .i64 (l[r].kind:Int)):=hcs 0 _ rfl;have y1:wr.cell? ⟨bD ax,bJ ax+r*4+1,none⟩=some (.int .i64 (l[r].field:Int)):=hcs 1 _ rfl;have y2:wr.cell? ⟨bD ax,bJ ax+r*4+2,none⟩=some (.int .i64 l[r].up):=hcs 2 _ rfl;have y3:wr.cell? ⟨bD ax,bJ ax+r*4+3,none⟩=some (.int .i64 l[r].least):=hcs 3 _ rfl;have hmem:l[r]∈aR.cN x:=by rw[<-HLx.out];exact gY hrl
     obtain⟨q1,q2,q3,q4,q5,q6,q7,q8⟩:=hfw.refs _ hmem;have xS:=hid (hfw.lead _ hmem);clear hcs Nf hmem;generalize l[r]=rf at*;obtain⟨rk,rj,ru,rl⟩:=rf;simp only at y0 y1 y2 y3 q1 q2 q3 q4 q5 q6 q7 q8 xS;clear q7 q8;obtain⟨m,rfl⟩:∃m:Nat,ru=(m:Int):=⟨ru.toNat,by omega⟩;have oL:rk<W.length:=by rw[HNW.out,HNK.out];exact q1
     have hmW:m<W.length:=by omega
     have hrk:rk<nk:=by rw[HNK.out];exact q1
     have hrk0:(0:Int)<=rk:=by omega
     have hrk1:(rk:Int)<nk:=by omega
     have hmk:m<nk:=by omega
     obtain⟨u,hu,hzw,hrow⟩:=gQ.at (HHW.out wr qC.out) oL;obtain⟨ao,co,rfl, -, -, -⟩:=hrow.form;have HRL:Hid (∀y∈W[rk],rj<y.length):=hid (fun y hy=>by rw[hfw.qv rk oL y hy];exact q2);obtain⟨w4,hw⟩:=aV (wr.alloc (.cells #[.int .i64 (rk:Int),.int .i64 (rj:Int),.int .i64 (m:Int),.int .i64 rl] 173));have jM:Hid (Below w1.heap.size w1 w4):=hid ab6;have WT:Hid (Below w6.heap.size w6 w4):=hid (by rw[hw];exact eC.out.alloc eC.out.size _);have HI4:Hid (∀X,BL w4 X->X.heap[wr.heap.size]?=some (.cells #[.int .i64 (rk:Int),.int .i64 (rj:Int),.int .i64 (m:Int),.int .i64 rl] 173 (0,0))):=hid (fun X hX=>(hX.block wr.heap.size Kc).trans GN);have hb4:BL wr w4:=by rw[hw];exact ay.alloc aH _
     have Dq:=hid hw;clear hw;have f9:=aJ bf jM.out
     have J4:=hid (Nq yX W[rk] (fun _=>false) _ S w4 (hrow.keep (aB.below hb4)) (fun X u y h=>by obtain⟨a,c,e, -⟩:=h.form;exact⟨_,_,_,e⟩) 98 #[.pointer (some ⟨wr.heap.size,0,none⟩),.pointer (some ⟨w.heap.size+1,0,none⟩)] (bE Tryz.func98 (by kernel_rfl) rfl) (fun X hX j hj u hu=>by
      obtain⟨a1,c1,rfl,hs1, -, -⟩:=hu.form;have hjl:=HRL.out _ (gY hj);obtain⟨uv,hc, -,rfl⟩:=gQ.at hu hjl;obtain⟨ur,hcr, -,hrr⟩:=gQ.at (HHW.out X (cO f9.out hX)) hmW;obtain⟨a2,c2,rfl, -, -, -⟩:=hrr.form;have LI:=xS.out j oL hj;have ea:aR.nV W rk j rj=W[rk][j][rj]:=by unfold aR.nV;simp[jA,oL,hj,hjl]
      have eb:ah.fW W (m:Int)=W[m].length:=by unfold ah.fW;simp[jA,hmW]
      rw[ea,eb] at LI;exact PW rj m _ nk W[m].length c1 cw c2 rk _ rl a1 aw a2 wr.heap.size (w.heap.size+1) X (HI4.out X hX) (HWb.out X (cO jM.out hX)) hjl hs1 hc hmk hsw hcr LI.1 LI.2))
     rw[show W[rk].any (fun _=>false)=false from by simp] at J4;have hu4:w4.cell? ⟨bD aw,bJ aw+rk,none⟩=some (.slice ao W[rk].length co):=(hb4.cell (p:=⟨bD aw,bJ aw+rk,none⟩) hzw).trans hu;clear hrow hb4 hmW;generalize W[rk].length=nr at*;go_upto_region 14 with fail;rw[<-Dq.out];clear y0 y1 y2 y3 hu;obtain⟨⟨y0,y1,y2,y3⟩, -⟩:=aW (HI4.out w4 ay);have z0:=HWb.out w4 jM.out;go_wp2_with fail;refine J4.out.mono ?_;rintro e w5 ⟨rfl,hb⟩;have WU:=aJ WT hb;clear hb;go_wp2;go_roundw;case rel=>exact⟨r+1,by omega,by go_num,WU⟩
     simp[intOf];omega
    ·obtain rfl:r=nl:=by omega
     have hsz2:(sz:Int)<=512:=by omega
     go_wp2;go_ret;exact⟨by first|rfl|(simp;done)|(simp;omega),cO bf.out HL.out⟩
theorem Ja(n c d:Nat)(a b:Option Addr)(w:World):Calls Tryz.prog 100 #[.slice a n c,.slice b n d] w fun e w'=>e=.returned (.bool true)/\w=w':=by
 go_enter Tryz.func100,Tryz.ntmps100;go_wp2;go_ret;exact⟨by simp,rfl⟩
theorem abe{p:Prop}(h:p:=by
  rintro e w2 ⟨rfl,rfl⟩
  go_wp2
  go_roundw
  case rel=>exact⟨k+1,by omega,by go_num,by first|rfl|trivial⟩
  simp[intOf]
  omega):p:=h
theorem U5(W:ah.cG)(s:Sub.S)(h:W.map List.length=s.map List.length)(jI:W.length<=1000000)(v u:Value)(S T:Nat->Prop)(w:World)(hW:cZ S w v W)(hs:cQ T w u s):
  Calls Tryz.prog 99 #[v,u,.func (.func 100) #[] #[]] w fun e w'=>e=.returned (.bool true)/\w=w':=by
 obtain⟨aw,cw,rfl,hsw, -, -⟩:=hW.form;obtain⟨wU,cs,rfl,hss, -, -⟩:=hs.form;have HW:=hid hW;have HS:=hid hs;have hlen:W.length=s.length:=by simpa using congrArg List.length h
 have HL:Hid (∀k (h1:k<W.length) (h2:k<s.length),W[k].length=s[k].length):=hid (fun k h1 h2=>by
  have:=congrArg (fun l=>l[k]?) h;simpa [h1,h2] using this)
 obtain⟨n,hn⟩:=aV s.length;have hnw:W.length=n:=by rw[hn];exact hlen
 rw[hnw] at hsw jI ⊢;rw[<-hn] at hss ⊢;have HN:=hid hn;have HNW:=hid hnw;clear hW hs h hlen hn hnw;go_enter Tryz.func99,Tryz.ntmps99;go_wp2;go_loopw [17] (fun kk wr=>∃k:Nat,k<=n/\kk=.int .i64 k/\w=wr) (fun kk _=>n-(intOf kk).toNat);case atStart=>exact⟨0,Nat.zero_le _,rfl,rfl⟩
 case round=>
  obtain⟨k,hk,rfl,rfl⟩:=hrel;by_cases hlt:k<n
  ·have hk0:(0:Int)<=k:=by omega
   have hk1:(k:Int)<n:=by omega
   have h1:k<W.length:=by rw[HNW.out];exact hlt
   have h2:k<s.length:=by rw[<-HN.out];exact hlt
   obtain⟨x,hx, -,hxr⟩:=gQ.at (by rw[<-HNW.out];exact HW.out:cZ S w (.slice aw n cw) W) h1;obtain⟨y,hy, -,hyr⟩:=gQ.at (by rw[HN.out];exact HS.out:cQ T w (.slice wU n cs) s) h2;obtain⟨a,c,rfl, -, -, -⟩:=hxr.form;obtain⟨b,d,rfl, -, -, -⟩:=hyr.form;rw[HL.out k h1 h2] at hx;clear hxr hyr;generalize s[k].length=m at*;have nH:=bE Tryz.func100 (by kernel_rfl) rfl;go_wp2_with fail;refine(Ja m c d a b w).mono ?_;exact abe
  ·obtain rfl:n=k:=by omega
   go_wp2;go_ret;exact⟨rfl,rfl⟩
theorem Jb(W:ah.cG)(s:Sub.S)(h:W.map List.length=s.map List.length)(jI:W.length<=1000000)(v u:Value)(S T:Nat->Prop)(w:World)(hW:cZ S w v W)(hs:cQ T w u s):
  Calls Tryz.prog 70 #[v,u] w fun e w'=>e=.returned (.bool true)/\w=w':=by
 have HE:=hid (U5 W s h jI v u S T w hW hs);obtain⟨aw,cw,rfl, -, -, -⟩:=hW.form;obtain⟨wU,cs,rfl, -, -, -⟩:=hs.form;go_enter Tryz.func70,Tryz.ntmps70;go_wp2_with fail;refine HE.out.mono ?_;rintro e w2 ⟨rfl,rfl⟩;go_wp2;go_ret;exact⟨rfl,rfl⟩
theorem abf{p:Prop}(h:p:=by
  unfold aR.kC at hc
  by_cases h1:ah.okB x=true
  ·rw[if_pos h1] at hc
   by_cases h2:aR.eM x W=true
   ·rw[if_pos h2] at hc
    by_cases h3:aR.tK W s=true
    ·exact⟨h1,h2,h3⟩
    ·rw[if_neg h3] at hc;omega
   ·rw[if_neg h2] at hc;omega
  ·rw[if_neg h1] at hc;omega):p:=h
theorem mO(x:ah.bF)(W:ah.cG)(s:Sub.S)(hc:aR.kC x W s=0)(v u t:Value)(S T U:Nat->Prop)(tb:Nat)(w:World)(hv:fA S w v x)(hW:cZ T w u W)(hs:cQ U w t s)(Nv:LaidW w)(htb:TabC tb w):
  Calls Tryz.prog 44 #[v,u,t] w fun e w'=>e=.returned (.int .i64 0)/\BL w w':=by
 have hp:ah.okB x=true/\aR.eM x W=true/\aR.tK W s=true:=by
  exact abf
 obtain⟨hok,AQ,hsb⟩:=hp;have hfw:=aR.T9 hok AQ;have hlen:W.length<=1000000:=by have:=hfw.len;have:=hfw.ai;omega
 obtain⟨ak,ck,al,cl,ar,cr,rfl, -⟩:=hv.form;obtain⟨w1,hw1⟩:=aV (di w x.aI (.slice ak x.ai.length ck) (.slice al x.aN.length cl) (.slice ar x.aO.length cr));have bf:=r9 hw1;have HX:=wv hw1;unfold di at hw1;have HW1:=hid hw1;clear hw1;have I9:=hid (LH x hok _ S tb w1 (hv.keep (aB.below bf.out)) (Nv.next bf.out) (htb.below bf.out htb.lt (by have:=Nv.size;omega)));have HFt:=hid (fun(X:World) (hX:BL w X)=>PX x W hfw _ u (fun b=>S b\/T b) X ((hv.keep (aB.below hX)).mono (fun b _ h=>.inl h)) ((hW.keep (aB.below hX)).mono (fun b _ h=>.inr h)));have Ld:=hid (fun(X:World) (hX:BL w X)=>Jb W s (of_decide_eq_true hsb) hlen u t T U X (hW.keep (aB.below hX)) (hs.keep (aB.below hX)));obtain⟨aw,cw,rfl, -, -, -⟩:=hW.form;obtain⟨wU,cs,rfl, -, -, -⟩:=hs.form;clear hv hW hs Nv htb;obtain⟨⟨y0,y1,y2,y3⟩, -⟩:=aW (HX.out w1 ay);go_enter Tryz.func44,Tryz.ntmps44;go_upto_region 1 with fail;rw[<-HW1.out];go_wp2_with fail;refine I9.out.mono ?_;rintro e w2 ⟨rfl,hb⟩;have eC:Hid (BL w1 w2):=hid hb;have bK:=aJ bf hb;clear hb y0 y1 y2 y3;obtain⟨⟨y0,y1,y2,y3⟩, -⟩:=aW (HX.out w2 eC.out);go_wp2_with fail;refine(HFt.out w2 bK.out).mono ?_;rintro e w3 ⟨rfl,hb⟩;have bZ:=aJ bK hb;clear hb y0 y1 y2 y3;go_wp2_with fail;refine(Ld.out w3 bZ.out).mono ?_;rintro e w4 ⟨rfl,rfl⟩;go_wp2;go_ret;exact⟨rfl,bZ.out⟩
theorem LJ(xs:List Bool)(hl:xs.length<=1000000)(v:Value)(S:Nat->Prop)(w:World)(hv:nG S w v xs):
  Calls Tryz.prog 102 #[v] w fun e w'=>∃x,e=.returned x/\jx (w.heap.size<=·) w' x xs/\BL w w':=by
 have hv0:=hv;obtain⟨a,cap,rfl,hok,hcap,hmax⟩:=hv.form;clear hv;cases a with
 |none=>
  have hz:xs=[]:=by
   exact aak
  subst hz
  have hq:∀W,(binOp .eql 129 (.slice none 0 cap) (.slice none 0 0)).run Tryz.prog W=.ok (.bool true) W:=fun W=>Lib.run_eql_slice_nil W 129 4 none 0 cap 0 0 (by kernel_rfl)
  go_enter Tryz.func102,Tryz.ntmps102
  go_wp2
  go_ret
  exact⟨_,rfl,jx.nil _ _,ay⟩
 |some ad=>
  have hq:∀W,(binOp .eql 129 (.slice (some ad) xs.length cap) (.slice none 0 0)).run Tryz.prog W=.ok (.bool false) W:=fun W=>Lib.run_eql_slice_nil W 129 4 (some ad) xs.length cap 0 0 (by kernel_rfl)
  have hI:jx (w.heap.size<=·) (w.alloc (.cells #[] 4)) (.slice (some ⟨w.heap.size,0,none⟩) 0 0) []:=
   ⟨World.ownsRow_made w #[] 0 (Nat.zero_le _) (Nat.zero_le _) aZ,fun b hb=>by simp[Value.ownBlock] at hb;omega⟩
  have XL:nG S (w.alloc (.cells #[] 4)) (.slice (some ad) xs.length cap) xs:=hv0.keep (aB.below (ay.alloc aH _))
  go_enter Tryz.func102,Tryz.ntmps102
  go_wp2_with (at_builtin;go_must (refine Ij rfl _ _ rfl Tryz.appB rfl hI ay rfl XL mV ?_))
  intro v1 w1 hI1 ht1
  have xM:jx (w.heap.size<=·) w1 v1 xs:=by
   have:=fN.mono hI1 (fun b _ hb=>gX aZ b hb);simpa using this
  exact aaj
theorem E1(w:World)(n:Nat)(hn:n<=1000000):mz (w.heap.size<=·) (w.alloc (.cells (iw n) 129)) (.slice (some ⟨w.heap.size,0,none⟩) n n) (List.replicate n []):=by
 refine⟨fun b hb=>by simp[Value.ownBlock] at hb;omega,List.replicate n (.slice none 0 0),fun _=>0,?_,by simp,fun j h1 h2=>?_⟩
 ·exact aaK
 ·simp only[List.getElem_replicate]
  exact jx.nil _ _
theorem zR(s:Sub.S)(hl:s.length<=1000)(hw:∀r∈s,r.length<=100000)(v:Value)(T:Nat->Prop)(w:World)(hv:cQ T w v s):
  Calls Tryz.prog 72 #[v] w fun e w'=>∃g,e=.returned (.slice (some ⟨g,0,none⟩) s.length s.length)/\mz (w.heap.size<=·) w' (.slice (some ⟨g,0,none⟩) s.length s.length) s/\BL w w':=by
 obtain⟨wU,cs,rfl,hss, -, -⟩:=hv.form;have HV:=hid hv;have HW:=hid hw;clear hv hw;have hmk:=fun W=>tG (P:=Tryz.prog) (t:=61) (e:=129) (b:=24) (by kernel_rfl) (by kernel_rfl) aC s.length aC W;obtain⟨n,hn⟩:=aV s.length;rw[<-hn] at hss hmk hl ⊢;have HN:=hid hn;clear hn;go_enter Tryz.func72,Tryz.ntmps72;go_wp2;clear hmk;obtain⟨g0,hg0⟩:=aV w.heap.size;have HO0:Hid (mz (w.heap.size<=·) (w.alloc (.cells (iw n) 129)) (.slice (some ⟨g0,0,none⟩) n n) (List.replicate n [])):=hid (by rw[hg0];exact E1 w _ aC);rw[<-hg0];clear hg0;go_loopw [11] (fun kk wr=>∃(k:Nat) (xs:Sub.S),k<=n/\kk=.int .i64 k/\Hid (xs.length=n)/\Hid (∀j,j<k->xs[j]?=s[j]?)/\Hid (mz (w.heap.size<=·) wr (.slice (some ⟨g0,0,none⟩) n n) xs)/\Hid (BL w wr)) (fun kk _=>n-(intOf kk).toNat);case atStart=>exact⟨0,List.replicate n [],Nat.zero_le _,rfl,hid aZ,hid (fun j h=>absurd h aC),HO0,hid (ay.alloc aH _)⟩
 case round=>
  obtain⟨k,xs,hk,rfl,HL,HX,HO,HB⟩:=hrel;obtain⟨wo,rfl⟩:=aV (wr:World);by_cases hlt:k<n
  ·have hk0:(0:Int)<=k:=by omega
   have hk1:(k:Int)<n:=by omega
   have hks:k<s.length:=by rw[<-HN.out];exact hlt
   have hkx:k<xs.length:=by rw[HL.out];exact hlt
   obtain⟨u,hu,hz,hr⟩:=gQ.at (by rw[HN.out];exact HV.out.keep (aB.below HB.out):cQ T wo (.slice wU n cs) s) hks;obtain⟨ar,cr,rfl, -, -, -⟩:=hr.form;have HCl:=hid (LJ s[k] (by have:=HW.out _ (gY hks);omega) _ T wo hr);have h1:=HO.out;rw[show (Value.slice (some ⟨g0,0,none⟩) n n)=.slice (some ⟨g0,0,none⟩) xs.length n by rw[HL.out]] at h1;obtain⟨g,Yg,uu,TT,e1,e2,e3,O1,hcg,hfg,GD,Nh, -,hback⟩:=iM.borrow fN h1 k hkx
   have hgg:g0=g:=by
    exact Ic
   subst hgg;have Rl:=hid (fun w2 u'=>hback w2 u' s[k]);have TD:=hid Nh;have HSg:=hid O1;have HSk:Hid (s[k]?=some s[k]):=hid (kK hks);clear e1 e2 e3 GD Nh hback hcg hfg h1 hr O1;generalize s[k]=r at*;go_wp2_with fail;refine HCl.out.mono ?_;rintro e w2 ⟨x,rfl,hx,hb⟩;obtain⟨ax,cx,rfl, -, -, -⟩:=(jx.sl hx).form;obtain⟨k1,k2,k3,k4⟩:=Rl.out w2 (.slice ax r.length cx) (Turns.aQ hb) (fN.mono hx (fun b _ hb=>.inr hb))
   have uD:Hid (mz (w.heap.size<=·) (w2.setCell ⟨g0,k,none⟩ (.slice ax r.length cx)) (.slice (some ⟨g0,0,none⟩) n n) (xs.set k r)):=hid (by
    have:=dP.mono k3 (fun b _ hb=>gX HB.out.size b hb)
    rw[HL.out] at this
    exact this)
   have Bv:Hid (BL w (w2.setCell ⟨g0,k,none⟩ (.slice ax r.length cx))):=hid (HB.out.trans (k4.below HB.out.size (fun b hb=>by
    rcases hb with hb|hb
    ·exact(TD.out b hb).1
    ·rw[hb];exact HSg.out)))
   have HX9:Hid (∀j,j<k+1->(xs.set k r)[j]?=s[j]?):=hid (fun j hj=>by
    by_cases e:j=k
    ·subst e;rw[List.getElem?_set_self aC,HSk.out]
    ·rw[List.getElem?_set_ne aC];exact HX.out j aC)
   have EY:Hid ((xs.set k r).length=n):=hid (by rw[List.length_set];exact HL.out);have acO:dI (some ⟨g0,0,none⟩) n:=fun _=>⟨_,_,rfl⟩;clear k3 k4 hx hb Rl HSk HX hkx;go_wp2;go_roundw;case rel=>exact⟨k+1,xs.set k r,by omega,by go_num,EY,HX9,uD,Bv⟩
   simp[intOf];omega
  ·obtain rfl:n=k:=by omega
   have HE:Hid (xs=s):=hid (List.ext_getElem? (fun j=>by
    by_cases hj:j<n
    ·exact HX.out j hj
    ·rw[List.getElem?_eq_none (by rw[HL.out];omega),List.getElem?_eq_none (by rw[<-HN.out];omega)]))
   go_wp2;go_ret;exact⟨g0,rfl,by rw[<-HE.out];exact HO.out,HB.out⟩
open Go.ChangeMaps Go.MapKept
open Go.WideElems (rd rg pl rd_val elemAt findIdx_arr findIdx_born modify_last set_self)
open Go.Maps (Keyed)
section
variable {H:Type} {P:Program} {w:World} {t k e:TypeId} {R:Value->Option (DataW H×List MemPlace)} {b:Nat} {es:Array MapEntry} {clock:Nat}
theorem abg{p:Prop}(h:p:=by
  simp[Instr.entryStore,MapKept.run_getObj_map hw2,asInt,asIntOf,goInt,hidx,hmod,MapKept.run_setObj_map _ hw2,Result.andThen,setBlock]):p:=h
theorem PY(K:Keyed P k)(ht:P.underlying t=some (.map k e)){z:Value}(hz:∀u:World,(zeroValue e).run P u=.ok z u)(hb:w.heap[b]?=some (.map es clock))(F:Go.WideElems.Fit P k R es clock)
  {key:Value}{kl:Lit}(hkey:keyOf P k key=some kl):
  ∃(v0:Value) (st:Nat) (es1:Array MapEntry) (clock1:Nat),(Instr.mapEntry t (.map (some b)) key).run P w=.ok (.tuple #[v0,goInt st]) (setBlock w b (.map es1 clock1))/\
   ((es1=es/\clock1=clock)\/((∀x∈es.toList,x.key≠key)/\(Instr.mapUpdate t (.map (some b)) key z).run P w=.ok () (setBlock w b (.map es1 clock1))))/\
   ∀(w2:World) (val:Value),w2.heap[b]?=some (.map es1 clock1)->∃es' clock',(Instr.entryStore t (.map (some b)) (goInt st) val).run P w2=.ok () (setBlock w2 b (.map es' clock'))/\
    (Instr.mapUpdate t (.map (some b)) key val).run P w=.ok () (setBlock w b (.map es' clock')):=by
 obtain⟨s1,s2,_⟩:=F.stamped;rcases K.find w hkey es.toList F.keys with⟨h1,h2⟩|⟨j,e0,h1,h2,h3⟩
 ·refine⟨z,clock,es.push ⟨key,z,clock⟩,clock+1,?_,Or.inr ⟨h2,?_⟩,fun w2 val hw2=>⟨es.push ⟨key,val,clock⟩,clock+1,?_,?_⟩⟩
  ·simp[Instr.mapEntry,run_underlying ht,MapKept.run_getObj_map hb,K.check w false hkey,h1,hz,MapKept.run_setObj_map _ hb,Result.andThen,setBlock]
  ·simp[Instr.mapUpdate,run_underlying ht,MapKept.run_getObj_map hb,K.check w false hkey,h1,MapKept.run_setObj_map _ hb,Result.andThen,setBlock]
  ·have hidx:(es.push ⟨key,z,clock⟩).findIdx? (fun e=>((e.born:Nat):Int)==((clock:Nat):Int))=some es.size:=by
    rw[findIdx_arr]
    have:=findIdx_born (l:=(es.push ⟨key,z,clock⟩).toList) (j:=es.size) (e0:=⟨key,z,clock⟩) (by
     simp only[Array.toList_push,List.map_append,List.map_cons,List.map_nil]
     refine List.nodup_append.2 ⟨s2,by simp,fun a ha c hc e1=>?_⟩
     simp only[nU] at hc
     obtain⟨x,hx,rfl⟩:=List.mem_map.1 ha
     have:=s1 x hx
     omega) aZ
    exact this
   have hmod:(es.push ⟨key,z,clock⟩).modify es.size (fun e=>{e with val:=val})=es.push ⟨key,val,clock⟩:=by
    apply Array.ext';rw[Array.toList_modify,Array.toList_push,Array.toList_push,<-Array.length_toList,modify_last]
   exact abg
  ·simp[Instr.mapUpdate,run_underlying ht,MapKept.run_getObj_map hb,K.check w false hkey,h1,MapKept.run_setObj_map _ hb,Result.andThen,setBlock]
 ·have hj:es[j]?=some e0:=by simpa using h2
  have hsame:es.modify j (fun e=>{e with key:=key})=es:=by
   apply Array.ext';rw[Array.toList_modify,modify_eq_set _ _ _ _ h2];have:({e0 with key:=key}:MapEntry)=e0:=by rw[<-h3]
   rw[this];exact set_self _ _ _ h2
  refine⟨e0.val,e0.born,es,clock,?_,Or.inl ⟨rfl,rfl⟩,fun w2 val hw2=>⟨es.modify j (fun e'=>{e' with key:=key,val:=val}),clock,?_,?_⟩⟩
  ·simp[Instr.mapEntry,run_underlying ht,MapKept.run_getObj_map hb,K.check w false hkey,h1,hj,h3,K.stays w hkey,hsame,MapKept.run_setObj_map _ hb,Result.andThen,setBlock]
  ·have hidx:es.findIdx? (fun e=>((e.born:Nat):Int)==((e0.born:Nat):Int))=some j:=by
    rw[findIdx_arr]
    exact findIdx_born s2 h2
   have hmod:es.modify j (fun e=>{e with val:=val})=es.modify j (fun e'=>{e' with key:=key,val:=val}):=by
    apply Array.ext';rw[Array.toList_modify,Array.toList_modify,modify_eq_set _ _ _ _ h2,modify_eq_set _ _ _ _ h2,<-h3]
   exact abg
  ·simp[Instr.mapUpdate,run_underlying ht,MapKept.run_getObj_map hb,K.check w false hkey,h1,hj,h3,K.stays w hkey,MapKept.run_setObj_map _ hb,Result.andThen,setBlock]
theorem sK{w:World}{b:Nat}{es:Array MapEntry}{clock:Nat}(hb:w.heap[b]?=some (.map es clock))(o:Obj):w.grownBy (setBlock w b o) (some b):=
 ⟨rfl,rfl,rfl,by simp[setBlock],fun i _ hi=>heap_setBlock_other hb _ (fun e=>hi (by rw[e]))⟩
variable {n:Nat} {D:DataW H}
theorem DV(h:w.ownsMap P k R b n D)(K:Keyed P k)(ht:P.underlying t=some (.map k e)){z:Value}(hz:∀u:World,(zeroValue e).run P u=.ok z u)(hn:n<maxLen){zd:DataW H}{zp:List MemPlace}(hzd:R z=some (zd,zp)){key:Value}{kl:Lit}(hkey:keyOf P k key=some kl):
  ∃(v0:Value) (st:Nat) (w1:World),(Instr.mapEntry t (.map (some b)) key).run P w=.ok (.tuple #[v0,goInt st]) w1/\w.grownBy w1 (some b)/\
   (w1.ownsMap P k R b (n+1) D\/(w1.ownsMap P k R b (n+1) (D.put kl zd)/\D.atKey kl zd=zd))/\
   ∀(w2:World) (val:Value) (d:DataW H) (ps:List MemPlace),w2.heap[b]?=w1.heap[b]?->R val=some (d,ps)->
    ∃w3,(Instr.entryStore t (.map (some b)) (goInt st) val).run P w2=.ok () w3/\w3.ownsMap P k R b (n+1) (D.put kl d)/\w2.grownBy w3 (some b):=by
 have h0:=h;obtain⟨es,clock,hb,F,hs,hD⟩:=h;obtain⟨v0,st,es1,clock1,r1,r2,r3⟩:=PY (R:=R) K ht hz hb F hkey;have e1:(setBlock w b (.map es1 clock1)).heap[b]?=some (.map es1 clock1):=heap_setBlock_same hb _;refine⟨v0,st,_,r1,sK hb _,?_,fun w2 val d ps hw2 hv=>?_⟩
 ·rcases r2 with⟨rfl,rfl⟩|⟨hno,hr⟩
  ·exact .inl ⟨_,_,e1,F,by omega,hD⟩
  ·obtain⟨w',hr',how, -⟩:=h0.update K ht hn hkey hzd
   rw[hr] at hr';cases hr';refine .inr ⟨how,?_⟩;rcases Maps.fit_look false K ht (hz w) hb F hkey with⟨_,_,hat⟩|⟨e0,y,hm,hk,_⟩
   ·rw[hD];exact hat zd
   ·exact absurd hk (hno e0 hm)
 ·rw[e1] at hw2
  obtain⟨es',clock',q1,q2⟩:=r3 w2 val hw2;obtain⟨w',hr',how, -⟩:=h0.update K ht hn hkey hv;rw[q2] at hr';cases hr';obtain⟨es9,ahU,g1,g2,g3,g4⟩:=how;rw[heap_setBlock_same hb _] at g1;cases g1;exact⟨_,q1,⟨es',clock',heap_setBlock_same hw2 _,g2,g3,g4⟩,sK hw2 _⟩
end
open Go.Maps (Keyed)
theorem Jc:Maps.Keyed Tryz.prog 146:=Maps.Keyed.of_law (deep_law_laid (m:=10) (by kernel_rfl) aC (by decide+kernel) (by kernel_rfl) (by kernel_rfl))
theorem litI(d:Nat)(x:Int)(h:(Lit.int .i64 x).wf=true):Tryz.prog.keyLits (d+1) 3 [.int .i64 x]=some [.int .i64 x]:=by
 have hu3:Tryz.prog.underlying 3=some (.int .i64):=by kernel_rfl
 unfold Program.keyLits;rw[hu3];simp[h]
def rA(a b:Int):Value:=.agg #[.int .i64 a,.int .i64 b]
theorem af6(a b:Int)(ha:(Lit.int .i64 a).wf=true)(hb:(Lit.int .i64 b).wf=true):∃l,keyOf Tryz.prog 146 (rA a b)=some l:=by
 have hk:Tryz.prog.keyType 146=true:=by kernel_rfl
 have hc1:Tryz.prog.cellsOf 3=1:=by kernel_rfl
 have hc8:Tryz.prog.cellsOf 146=2:=by kernel_rfl
 have hu:=Tryz.underlying146;obtain⟨m,hm⟩:∃m,Tryz.prog.types.size+1=m+2:=⟨Tryz.prog.types.size-1,by have:2<=Tryz.prog.types.size:=of_decide_eq_true (by kernel_rfl);omega⟩;unfold keyOf rA;rw[hu];simp only[hk,Value.formed,hu,hc8,hm];unfold Program.keyLits;rw[hu];simp[hc8,hc1,Value.cells,litI,ha,hb]
def tN(a:Int):Prop:= -9223372036854775808<=a/\a<=9223372036854775807
theorem tN.wf{a:Int}(h:tN a):(Lit.int .i64 a).wf=true:=by
 have h1:IntKind.i64.min= -9223372036854775808:=by decide
 have h2:IntKind.i64.max=9223372036854775807:=by decide
 obtain⟨ha,hb⟩:=h;simp only[Lit.wf,h1,h2];simp;omega
noncomputable def klA (a b:Int):Lit:= @Classical.epsilon Lit ⟨.bool false⟩ fun l=>keyOf Tryz.prog 146 (rA a b)=some l
theorem yE{a b:Int}(ha:tN a)(hb:tN b):keyOf Tryz.prog 146 (rA a b)=some (klA a b):=
 @Classical.epsilon_spec Lit (fun l=>keyOf Tryz.prog 146 (rA a b)=some l) (af6 a b ha.wf hb.wf)
theorem Za{a b c d:Int}(ha:tN a)(hb:tN b)(hc:tN c)(hd:tN d)(e:klA a b=klA c d):a=c/\b=d:=by
 have h:=Jc.inj (yE ha hb) (by rw[e];exact yE hc hd);unfold rA at h;simpa using h
theorem adI{a b:Int}(ha:tN a)(hb:tN b):WideAt.IsKeyLit (klA a b):=Jc.key (yE ha hb)
theorem LK:Tryz.prog.underlying 174=some (.map 146 3):=by kernel_rfl
theorem F7:Tryz.prog.underlying 3=some (.int .i64):=by kernel_rfl
theorem Ik(w:World):(zeroValue 3).run Tryz.prog w=.ok (.int .i64 0) w:=by kernel_rfl
def dK(w:World)(b n:Nat)(f:Int->Int->Int):Prop:=
 ∃D:DataW Nat,w.ownsMap Tryz.prog 146 (plainElem Tryz.prog 3) b n D/\∀a c,tN a->tN c->D.atKey (klA a c) (.lit (.int .i64 0))=.lit (.int .i64 (f a c))
def wV(f:Int->Int->Int)(a c v:Int):Int->Int->Int:=fun a' c'=>if a'=a/\c'=c then v else f a' c'
theorem dK.made(w:World):dK (w.alloc (.map #[] 0)) w.heap.size 0 (fun _ _=>0):=⟨.map [],World.ownsMap_made _ _ _ _,fun _ _ _ _=>rfl⟩
theorem U6{p:Prop}(h:p:=by
  obtain⟨D,⟨es,clock,hb,F,r⟩,r2⟩:=h
  exact⟨D,⟨es,clock,by rw[hk];exact hb,F,r⟩,r2⟩):p:=h
theorem dK.keep{w w':World}{b n:Nat}{f:Int->Int->Int}(h:dK w b n f)(hk:w'.heap[b]?=w.heap[b]?):dK w' b n f:=by
 exact U6
theorem dK.lt{w:World}{b n:Nat}{f:Int->Int->Int}(h:dK w b n f):b<w.heap.size:=by
 obtain⟨D,h1, -⟩:=h;exact h1.lt
theorem dK.mono{w:World}{b n m:Nat}{f:Int->Int->Int}(h:dK w b n f)(hm:n<=m):dK w b m f:=by
 obtain⟨D,h1,h2⟩:=h;exact⟨D,h1.mono hm,h2⟩
theorem dK.look{w:World}{b n:Nat}{f:Int->Int->Int}(h:dK w b n f){a c:Int}(ha:tN a)(hc:tN c):
  (Instr.lookup 174 (.map (some b)) (rA a c) false).run Tryz.prog w=.ok (.int .i64 (f a c)) w:=by
 obtain⟨D,h1,h2⟩:=h;obtain⟨v,hrun,hat, -⟩:=h1.lookup_int Jc LK F7 (Ik w) (yE ha hc);rw[h2 a c ha hc] at hat;have:f a c=v:=by simpa using hat
 rw[this];exact hrun
theorem abh{p:Prop}(h:p:=by
  unfold wV
  by_cases e:a'=a/\c'=c
  ·obtain⟨rfl,rfl⟩:=e
   rw[Maps.atKey_put_same h1.isMap (adI ha' hc'),if_pos ⟨rfl,rfl⟩]
  ·rw[Maps.atKey_put_other (fun h=>e (Za ha' hc' ha hc h)),if_neg e,h2 a' c' ha' hc']):p:=h
theorem dK.entry{w:World}{b n:Nat}{f:Int->Int->Int}(h:dK w b n f)(hn:n<=1000000){a c:Int}(ha:tN a)(hc:tN c):
  ∃(v0:Value) (st:Nat) (w1:World),(Instr.mapEntry 174 (.map (some b)) (rA a c)).run Tryz.prog w=.ok (.tuple #[v0,goInt st]) w1/\dK w1 b (n+1) f/\Turns (·=b) w w1/\
   ∀(w2:World) (v:Int),tN v->w2.heap[b]?=w1.heap[b]?->∃w3,(Instr.entryStore 174 (.map (some b)) (goInt st) (.int .i64 v)).run Tryz.prog w2=.ok () w3/\dK w3 b (n+1) (wV f a c v)/\Turns (·=b) w2 w3:=by
 obtain⟨D,h1,h2⟩:=h;have jI:n<maxLen:=by have:maxLen=9223372036854775807:=rfl;omega
 have hz0:(Lit.int .i64 0).wf=true:=by decide
 have hput:∀(D':DataW Nat) (v:Int),D'=D.put (klA a c) (.lit (.int .i64 v))->∀a' c',tN a'->tN c'->D'.atKey (klA a' c') (.lit (.int .i64 0))=.lit (.int .i64 (wV f a c v a' c')):=by
  rintro D' v rfl a' c' ha' hc';exact abh
 obtain⟨v0,st,w1,r1,r2,r3,r4⟩:=DV h1 Jc LK Ik jI (plainElem_int F7 hz0) (yE ha hc);refine⟨v0,st,w1,r1,?_,Turns.iq r2 (fun b' e=>by cases e;rfl),fun w2 v hv hw=>?_⟩
 ·rcases r3 with r3|⟨r3,r5⟩
  ·exact⟨D,r3,h2⟩
  ·have hf:f a c=0:=by
    have:=h2 a c ha hc
    rw[r5] at this
    simpa using this.symm
   refine⟨_,r3,fun a' c' ha' hc'=>?_⟩;rw[hput _ 0 rfl a' c' ha' hc'];unfold wV;by_cases e:a'=a/\c'=c
   ·rw[if_pos e,e.1,e.2,hf]
   ·rw[if_neg e]
 ·obtain⟨w3,q1,q2,q3⟩:=r4 w2 (.int .i64 v) (.lit (.int .i64 v)) [] hw (plainElem_int F7 hv.wf)
  exact⟨w3,q1,⟨_,q2,hput _ v rfl⟩,Turns.iq q3 (fun b' e=>by cases e;rfl)⟩
end Go.Proofs.YteiakkfdchnddaaGreatDoor
