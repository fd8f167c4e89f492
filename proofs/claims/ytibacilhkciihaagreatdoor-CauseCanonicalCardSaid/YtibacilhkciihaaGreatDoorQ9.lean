/- Part 9 of the walks and plain laws that the proof needs (packed). -/
import Derived.Laws.EntriesVeiled
import Derived.BigQuiet
import Derived.Maps.OwnSet
import Derived.Maps.Views
import Derived.DeepKeys4
import Derived.WideKeyEntry
import Derived.Test.YtibacilhkciihaaGreatDoorQ1
import Derived.Test.YtibacilhkciihaaGreatDoorQ7
import Derived.Test.YtibacilhkciihaaGreatDoorQ8
set_option linter.all false
set_option maxRecDepth 100000
set_option maxHeartbeats 8000000
namespace Go.Proofs.YtibacilhkciihaaGreatDoor
open Go.RowKit
theorem lS(b0:Bool)(c0:Int)(g cap:Nat)(w:World){t:TypeId}(h0:b0=false)(h:w.heap[g]?=some (.cells #[.bool b0,.int .i64 c0] t (0,0))):
  Calls Tryz.prog 45 #[.slice (some ⟨g,0,none⟩) 1 cap] w fun e w'=>e=.returned (.int .i64 0)/\BL w w':=by
 subst h0;refine ux 1 (fun _=>c0) g cap w aB (aC h) (fun i hi=>?_);obtain rfl:i=0:=aB
 exact⟨aN h 0,aN h 1⟩
theorem oz(b0 b1:Bool)(c0 c1:Int)(g cap:Nat)(w:World){t:TypeId}(h0:b0=false)(h1:b1=false)(h:w.heap[g]?=some (.cells #[.bool b0,.int .i64 c0,.bool b1,.int .i64 c1] t (0,0))):
  Calls Tryz.prog 45 #[.slice (some ⟨g,0,none⟩) 2 cap] w fun e w'=>e=.returned (.int .i64 0)/\BL w w':=by
 subst h0 h1;refine ux 2 (fun i=>if i=0 then c0 else c1) g cap w aB (aC h) (fun i hi=>?_);match i,hi with
 |0,_=>exact⟨aN h 0,aN h 1⟩
 |1,_=>exact⟨aN h 2,aN h 3⟩
theorem IG(b0 b1 b2 b3:Bool)(c0 c1 c2 c3:Int)(g cap:Nat)(w:World){t:TypeId}(h0:b0=false)(h1:b1=false)(h2:b2=false)(h3:b3=false)(h:w.heap[g]?=some (.cells #[.bool b0,.int .i64 c0,.bool b1,.int .i64 c1,.bool b2,.int .i64 c2,.bool b3,.int .i64 c3] t (0,0))):
  Calls Tryz.prog 45 #[.slice (some ⟨g,0,none⟩) 4 cap] w fun e w'=>e=.returned (.int .i64 0)/\BL w w':=by
 subst h0 h1 h2 h3;refine ux 4 (fun i=>if i=0 then c0 else if i=1 then c1 else if i=2 then c2 else c3) g cap w aB (aC h) (fun i hi=>?_);match i,hi with
 |0,_=>exact⟨aN h 0,aN h 1⟩
 |1,_=>exact⟨aN h 2,aN h 3⟩
 |2,_=>exact⟨aN h 4,aN h 5⟩
 |3,_=>exact⟨aN h 6,aN h 7⟩
theorem KR{p:Prop}(h:p:=by
  clear hbz
  go_wp2
  go_ret
  exact⟨rfl,Ba.out⟩):p:=h
theorem II(x:ah.cA)(i j:Int)(f:ah.cD)(ak al ar:Option Addr)(ck cl cr:Nat)(uw ug:Value)(S:Nat->Prop)(w:World)(hv:d9 S w (.agg #[.int .i64 x.aL,.slice ak x.aA.length ck,.slice al x.aP.length cl,.slice ar x.aR.length cr]) x)(hj:j=0):
  Calls Tryz.prog 216 #[.agg (iZ x.aL ak x.aA.length ck al x.aP.length cl ar x.aR.length cr i j f uw ug).toArray] w fun e w'=>e=.returned (.int .i64 0)/\BL w w':=by
 have HV:=hid (fun(W:World) (hW:BL w W)=>hv.keep (aD.below hW));subst hj;clear HV;clear hv;obtain⟨fn,fo,fu,fk,fl,fh,Ip,Iq⟩:=f;simp only[iZ] at*;obtain⟨w1,hw1⟩:=bB (w.alloc (.cells #[.int .i64 x.aL,.slice ak x.aA.length ck,.slice al x.aP.length cl,.slice ar x.aR.length cr,.int .i64 i,.int .i64 0,.string fn,.string fo,.string fu,.int .i64 fk,.int .i64 fl,.int .i64 fh,uw,ug] 110));have bT:Hid (Below w.heap.size w w1):=hid Ab;have HX:Hid (∀W,BL w1 W->W.heap[w.heap.size]?=some (.cells #[.int .i64 x.aL,.slice ak x.aA.length ck,.slice al x.aP.length cl,.slice ar x.aR.length cr,.int .i64 i,.int .i64 0,.string fn,.string fo,.string fu,.int .i64 fk,.int .i64 fl,.int .i64 fh,uw,ug] 110 (0,0))):=hid (fun W hW=>(hW.block _ jH).trans wI);have HW:=hid hw1;clear hw1;obtain⟨⟨y0,y1,y2,y3,y4,y5,y6,y7,y8,y9,Fp,Fq,Fs,Ft⟩, -⟩:=eP (HX.out w1 aF);go_enter Tryz.func216,Tryz.ntmps216;go_upto_region 1 with fail;rw[<-HW.out];go_wp2_with fail;refine(lS _ _ _ _ (World.alloc _ _) (by rfl) (aW _ _ rfl)).mono ?_;rintro e wz ⟨rfl,hbz⟩;have Ba:Hid (BL w wz):=hid ((bT.out.alloc bT.out.size _).trans (hbz.mono (by have:=bT.out.size;simp;omega)));exact KR
theorem XO{p:Prop}(h:p:=by
  rintro e w2 ⟨rfl,hb2⟩
  have iE:Hid (BL w1 w2):=hid ((Below.refl w1.heap.size w1).trans (hb2.mono (Below.refl w1.heap.size w1).size))
  have bX:=aU bT hb2
  clear hb2
  go_wp2_with fail
  refine(lS _ _ _ _ (World.alloc _ _) rfl (aW _ _ rfl)).mono ?_
  rintro e wz ⟨rfl,hbz⟩
  have Ba:Hid (BL w wz):=hid ((bX.out.alloc bX.out.size _).trans (hbz.mono abM))
  clear hbz
  go_wp2
  go_ret
  exact⟨rfl,Ba.out⟩):p:=h
theorem IJ(x:ah.cA)(i j:Int)(f:ah.cD)(ak al ar:Option Addr)(ck cl cr:Nat)(uw ug:Value)(S:Nat->Prop)(w:World)(hv:d9 S w (.agg #[.int .i64 x.aL,.slice ak x.aA.length ck,.slice al x.aP.length cl,.slice ar x.aR.length cr]) x)(hup:0<=ah.dI x i j):
  Calls Tryz.prog 217 #[.agg (iZ x.aL ak x.aA.length ck al x.aP.length cl ar x.aR.length cr i j f uw ug).toArray] w fun e w'=>e=.returned (.int .i64 0)/\BL w w':=by
 have HV:=hid (fun(W:World) (hW:BL w W)=>hv.keep (aD.below hW));have Mf:=hid (fun(W:World) (hW:BL w W)=>yT x i j f ak al ar ck cl cr uw ug S W (HV.out W hW));rw[decide_eq_false (show ¬ah.dI x i j<0 by omega)] at Mf;clear hv;obtain⟨fn,fo,fu,fk,fl,fh,Ip,Iq⟩:=f;simp only[iZ] at*;obtain⟨w1,hw1⟩:=bB (w.alloc (.cells #[.int .i64 x.aL,.slice ak x.aA.length ck,.slice al x.aP.length cl,.slice ar x.aR.length cr,.int .i64 i,.int .i64 j,.string fn,.string fo,.string fu,.int .i64 fk,.int .i64 fl,.int .i64 fh,uw,ug] 110));have bT:Hid (Below w.heap.size w w1):=hid Ab;have HX:Hid (∀W,BL w1 W->W.heap[w.heap.size]?=some (.cells #[.int .i64 x.aL,.slice ak x.aA.length ck,.slice al x.aP.length cl,.slice ar x.aR.length cr,.int .i64 i,.int .i64 j,.string fn,.string fo,.string fu,.int .i64 fk,.int .i64 fl,.int .i64 fh,uw,ug] 110 (0,0))):=hid (fun W hW=>(hW.block _ jH).trans wI);have HW:=hid hw1;clear hw1;obtain⟨⟨y0,y1,y2,y3,y4,y5,y6,y7,y8,y9,Fp,Fq,Fs,Ft⟩, -⟩:=eP (HX.out w1 aF);go_enter Tryz.func217,Tryz.ntmps217;go_upto_region 1 with fail;rw[<-HW.out];go_wp2_with fail;refine(Mf.out w1 bT.out).mono ?_;exact XO
theorem Fv(nm s:ByteArray)(u1 u2:Value)(b:Nat)(w:World)(hb:w.cell? ⟨b,7,none⟩=some (.string s)):
  Calls Tryz.prog 220 #[.agg #[.string nm,u1,u2],.pointer (some ⟨b,0,none⟩)] w fun e w'=>e=.returned (.bool (decide (nm=s)))/\BL w w':=by
 have hz:b<w.heap.size:=Ae w ⟨b,7,none⟩ hb;have HD:Hid ((nm.toList==s.toList)=decide (nm=s)):=hid GV;go_enter Tryz.func220,Tryz.ntmps220;exact Fg
theorem IK(x:ah.cA)(i j:Int)(f:ah.cD)(ak al ar:Option Addr)(ck cl cr:Nat)(uw ug:Value)(S:Nat->Prop)(w:World)(hv:d9 S w (.agg #[.int .i64 x.aL,.slice ak x.aA.length ck,.slice al x.aP.length cl,.slice ar x.aR.length cr]) x)(hl:ah.J7 x f.of=true):
  Calls Tryz.prog 219 #[.agg (iZ x.aL ak x.aA.length ck al x.aP.length cl ar x.aR.length cr i j f uw ug).toArray] w fun e w'=>e=.returned (.int .i64 0)/\BL w w':=by
 have HV:=hid (fun(W:World) (hW:BL w W)=>hv.keep (aD.below hW));obtain⟨Om,JX,al',SI,Oo,Oq,hvf, -,hls, -, -, -, -⟩:=hv.form
 have e1:al=al':=by
  simp only[Value.agg.injEq,Array.mk.injEq,List.cons.injEq,Value.slice.injEq] at hvf;exact hvf.2.2.1.1
 subst e1
 have e2:cl=SI:=by
  simp only[Value.agg.injEq,Array.mk.injEq,List.cons.injEq,Value.slice.injEq] at hvf;exact hvf.2.2.1.2.2
 subst e2;clear hvf;have HLv:=hid (fun(W:World) (hW:BL w W)=>dQ.keep cW hls (aD.below hW));have HLI:Hid (x.aP.any (fun l=>decide (l.name=f.of))=true):=hid hl;clear hls hl;clear hv;obtain⟨fn,fo,fu,fk,fl,fh,Ip,Iq⟩:=f;simp only[iZ] at*;obtain⟨w1,hw1⟩:=bB (w.alloc (.cells #[.int .i64 x.aL,.slice ak x.aA.length ck,.slice al x.aP.length cl,.slice ar x.aR.length cr,.int .i64 i,.int .i64 j,.string fn,.string fo,.string fu,.int .i64 fk,.int .i64 fl,.int .i64 fh,uw,ug] 110));have bT:Hid (Below w.heap.size w w1):=hid Ab;have HX:Hid (∀W,BL w1 W->W.heap[w.heap.size]?=some (.cells #[.int .i64 x.aL,.slice ak x.aA.length ck,.slice al x.aP.length cl,.slice ar x.aR.length cr,.int .i64 i,.int .i64 j,.string fn,.string fo,.string fu,.int .i64 fk,.int .i64 fl,.int .i64 fh,uw,ug] 110 (0,0))):=hid (fun W hW=>(hW.block _ jH).trans wI);have HW:=hid hw1;clear hw1;obtain⟨⟨y0,y1,y2,y3,y4,y5,y6,y7,y8,y9,Fp,Fq,Fs,Ft⟩, -⟩:=eP (HX.out w1 aF);have hz1:w.heap.size<w1.heap.size:=aC (HX.out w1 aF)
 have Dm:=hid (Dh cW x.aP (fun l:ah.DV=>decide (l.name=fo)) _ S w1 (HLv.out w1 bT.out) 220 #[.pointer (some ⟨w.heap.size,0,none⟩)] (bH Tryz.func220 (by kernel_rfl) rfl) (fun X hX j hj us _ hu=>by
  obtain⟨u1,u2,rfl, -, -⟩:=hu;exact Fv _ fo u1 u2 _ X ((hX.cell (p:=⟨w.heap.size,7,none⟩) hz1).trans (eP (HX.out w1 aF)).1.2.2.2.2.2.2.2.1)))
 rw[HLI.out] at Dm;go_enter Tryz.func219,Tryz.ntmps219;go_upto_region 1 with fail;rw[<-HW.out];go_wp2_with fail;refine Dm.out.mono ?_;exact XO
theorem IL(x:ah.cA)(i j:Int)(f:ah.cD)(ak al ar:Option Addr)(ck cl cr:Nat)(uw ug:Value)(S:Nat->Prop)(w:World)(hv:d9 S w (.agg #[.int .i64 x.aL,.slice ak x.aA.length ck,.slice al x.aP.length cl,.slice ar x.aR.length cr]) x)(hi:0<=i)(ho:0<=ah.iP x i f)(hs:(ah.iQ x i f).length=1)(h6:x.aA.length<=1000)(h10:∀k∈x.aA,k.aG.length<=1000):
  Calls Tryz.prog 221 #[.agg (iZ x.aL ak x.aA.length ck al x.aP.length cl ar x.aR.length cr i j f uw ug).toArray] w fun e w'=>e=.returned (.int .i64 0)/\BL w w':=by
 have HV:=hid (fun(W:World) (hW:BL w W)=>hv.keep (aD.below hW));have Td:=hid (fun(W:World) (hW:BL w W)=>IB x i hi f _ uw ug S W (HV.out W hW) h6 h10);unfold qq at Td;rw[hs] at Td;have HO:=hid ho;generalize ah.iP x i f=oi at*;generalize ah.iQ x i f=sl at*;clear hs ho h6 h10;clear hv;obtain⟨fn,fo,fu,fk,fl,fh,Ip,Iq⟩:=f;simp only[iZ,cF] at*;obtain⟨w1,hw1⟩:=bB (w.alloc (.cells #[.int .i64 x.aL,.slice ak x.aA.length ck,.slice al x.aP.length cl,.slice ar x.aR.length cr,.int .i64 i,.int .i64 j,.string fn,.string fo,.string fu,.int .i64 fk,.int .i64 fl,.int .i64 fh,uw,ug] 110));have bT:Hid (Below w.heap.size w w1):=hid Ab;have HX:Hid (∀W,BL w1 W->W.heap[w.heap.size]?=some (.cells #[.int .i64 x.aL,.slice ak x.aA.length ck,.slice al x.aP.length cl,.slice ar x.aR.length cr,.int .i64 i,.int .i64 j,.string fn,.string fo,.string fu,.int .i64 fk,.int .i64 fl,.int .i64 fh,uw,ug] 110 (0,0))):=hid (fun W hW=>(hW.block _ jH).trans wI);have HW:=hid hw1;clear hw1;obtain⟨⟨y0,y1,y2,y3,y4,y5,y6,y7,y8,y9,Fp,Fq,Fs,Ft⟩, -⟩:=eP (HX.out w1 aF);go_enter Tryz.func221,Tryz.ntmps221;go_upto_region 1 with fail;rw[<-HW.out];go_wp2_with fail;refine(Td.out w1 bT.out).mono ?_;rintro e w2 ⟨a,c,rfl, -,hb2⟩;have iE:Hid (BL w1 w2):=hid ((Below.refl w1.heap.size w1).trans (hb2.mono (Below.refl w1.heap.size w1).size));have bX:=aU bT hb2;clear hb2;go_wp2_with fail;refine(oz _ _ _ _ _ _ (World.alloc _ _) (decide_eq_false (by have:=HO.out;omega)) (by rfl) (aW _ _ rfl)).mono ?_;rintro e wz ⟨rfl,hbz⟩;have Ba:Hid (BL w wz):=hid ((bX.out.alloc bX.out.size _).trans (hbz.mono abM));exact KR
theorem XP{p:Prop}(h:p:=by
  go_wp2_with fail
  refine(lS _ _ _ _ (World.alloc _ _) TH (aW _ _ rfl)).mono ?_
  rintro e wz ⟨rfl,hbz⟩
  have Ba:Hid (BL w wz):=hid ((iD.out.alloc iD.out.size _).trans (hbz.mono abN))
  clear hbz
  go_wp2
  go_ret
  exact⟨rfl,Ba.out⟩):p:=h
theorem IQ(x:ah.cA)(i j:Int)(f:ah.cD)(ak al ar:Option Addr)(ck cl cr:Nat)(uw ug:Value)(S:Nat->Prop)(w:World)(hv:d9 S w (.agg #[.int .i64 x.aL,.slice ak x.aA.length ck,.slice al x.aP.length cl,.slice ar x.aR.length cr]) x)(hi:0<=i/\i<x.aA.length)(hd:f.of=ah.nil\/(0<=ah.bJ (ah.kd x i) f.of/\ah.bJ (ah.kd x i) f.of<j/\(jC x i (ah.bJ (ah.kd x i) f.of)).kind=4)):
  Calls Tryz.prog 218 #[.agg (iZ x.aL ak x.aA.length ck al x.aP.length cl ar x.aR.length cr i j f uw ug).toArray] w fun e w'=>e=.returned (.int .i64 0)/\BL w w':=by
 have HV:=hid (fun(W:World) (hW:BL w W)=>hv.keep (aD.below hW));obtain⟨Om,JX,al',SI,Oo,Oq,hvf,hk, -, -,hsk, -, -⟩:=hv.form
 have e1:ak=Om:=by
  simp only[Value.agg.injEq,Array.mk.injEq,List.cons.injEq,Value.slice.injEq] at hvf;exact hvf.2.1.1
 subst e1
 have e2:ck=JX:=by
  exact XM
 subst e2;clear hvf;obtain⟨o,rfl⟩:∃o:Nat,i=(o:Int):=⟨i.toNat,aB⟩;have hok:o<x.aA.length:=aB
 obtain⟨nK, -,k0,k1,k2,uf,k3,kT⟩:=hk.at hok;obtain⟨af,cf,rfl, -, -, -⟩:=kT.form;have D5:=hid (fun(s:ByteArray) (W:World) (hW:BL w W)=>lQ x.aA[o] s _ S W (kT.keep (aD.below hW)))
 have Fk:Hid (∀W,BL w W->W.cell? ⟨bL ak,bP ak+o*4,none⟩=some (.string x.aA[o].name)/\W.cell? ⟨bL ak,bP ak+o*4+1,none⟩=some (.int .i64 x.aA[o].lo)/\W.cell? ⟨bL ak,bP ak+o*4+2,none⟩=some (.int .i64 x.aA[o].hi)/\W.cell? ⟨bL ak,bP ak+o*4+3,none⟩=some (.slice af x.aA[o].aG.length cf)):=hid (fun W hW=>
   ⟨(hW.cell (p:=⟨bL ak,bP ak+o*4,none⟩) nK).trans k0,(hW.cell (p:=⟨bL ak,bP ak+o*4+1,none⟩) nK).trans k1,(hW.cell (p:=⟨bL ak,bP ak+o*4+2,none⟩) nK).trans k2,(hW.cell (p:=⟨bL ak,bP ak+o*4+3,none⟩) nK).trans k3⟩)
 have Mq:=hid (fun(u:Int) (W:World) (hW:BL w W)=>mz x (o:Int) u _ S W (HV.out W hW));rw[dU hok] at hd;clear k0 k1 k2 k3 kT hk;generalize x.aA[o]=kd at*;obtain⟨kn,BZ,B6,A8⟩:=kd;simp only[kH] at D5;simp only at Fk;have HFo:=hid (D5.out f.of);clear D5;generalize ah.bJ ⟨kn,BZ,B6,A8⟩ f.of=tz at*;generalize A8.length=nf at*;have HD:=hid hd;clear hd;have hsk2:=hsk;clear hv;obtain⟨fn,fo,fu,fk,fl,fh,Ip,Iq⟩:=f;simp only[iZ] at*;have ho0:(0:Int)<=o:=aB
 have Ie:(o:Int)<x.aA.length:=aB
 obtain⟨w1,hw1⟩:=bB (w.alloc (.cells #[.int .i64 x.aL,.slice ak x.aA.length ck,.slice al x.aP.length cl,.slice ar x.aR.length cr,.int .i64 o,.int .i64 j,.string fn,.string fo,.string fu,.int .i64 fk,.int .i64 fl,.int .i64 fh,uw,ug] 110));have bT:Hid (Below w.heap.size w w1):=hid Ab;have HX:Hid (∀W,BL w1 W->W.heap[w.heap.size]?=some (.cells #[.int .i64 x.aL,.slice ak x.aA.length ck,.slice al x.aP.length cl,.slice ar x.aR.length cr,.int .i64 o,.int .i64 j,.string fn,.string fo,.string fu,.int .i64 fk,.int .i64 fl,.int .i64 fh,uw,ug] 110 (0,0))):=hid (fun W hW=>(hW.block _ jH).trans wI);have HW:=hid hw1;clear hw1;obtain⟨⟨y0,y1,y2,y3,y4,y5,y6,y7,y8,y9,Fp,Fq,Fs,Ft⟩, -⟩:=eP (HX.out w1 aF);go_enter Tryz.func218,Tryz.ntmps218;go_upto_region 1 with fail;rw[<-HW.out];obtain⟨UU,UW,UX,UY⟩:=Fk.out w1 bT.out;have hzk1:bL ak<w1.heap.size:=by have:=bT.out.size;omega
 refine pE 10 oL (by kernel_rfl) ?_;simp only[List.take_succ_cons,List.take_zero,jZ,jP];repeat (go_big_quiet_step (fail))
 refine iL ?_;have iE:=hid (aI (Below.refl w1.heap.size w1) 1);have bX:=aU bT iE.out;generalize w1.drewN 1=w2 at*;go_wp2_with fail;refine(HFo.out w2 bX.out).mono ?_;rintro e w3 ⟨rfl,hb3⟩;have jB:=aU iE hb3;have cE:=aU bX hb3;clear hb3;clear UU UW UX UY y0 y1 y2 y3 y4 y5 y6 y7 y8 y9 Fp Fq Fs Ft;obtain⟨⟨y0,y1,y2,y3,y4,y5,y6,y7,y8,y9,Fp,Fq,Fs,Ft⟩, -⟩:=eP (HX.out w3 jB.out);go_wp2_with fail;refine(Mq.out tz w3 cE.out).mono ?_;rintro e w4 ⟨a1,n1,c1,a2,n2,c2,rfl, -,hb4⟩;have lW:=aU jB hb4;have gK:=aU cE hb4;clear hb4;generalize ah.hasB x (o:Int) tz=hasb at*;generalize jC x (o:Int) tz=g at*;obtain⟨gn,go,gu,gk,gl,gh,D6,ggs⟩:=g;simp only[cF];simp only at HD;obtain⟨w5,rV⟩:=bB (w4.alloc (.cells #[.string gn,.string go,.string gu,.int .i64 gk,.int .i64 gl,.int .i64 gh,.slice a1 n1 c1,.slice a2 n2 c2] 46));have jI:Hid (Below w1.heap.size w1 w5):=hid (by rw[rV];exact lW.out.alloc lW.out.size _);have iD:Hid (Below w.heap.size w w5):=hid (by rw[rV];exact gK.out.alloc gK.out.size _);have oU:Hid (w5.heap[w4.heap.size]?=some (.cells #[.string gn,.string go,.string gu,.int .i64 gk,.int .i64 gl,.int .i64 gh,.slice a1 n1 c1,.slice a2 n2 c2] 46 (0,0))):=hid (by rw[rV];exact aW w4 _ rfl);have Aq:=hid rV;clear rV;go_upto_region 3 with fail;rw[<-Aq.out];clear y0 y1 y2 y3 y4 y5 y6 y7 y8 y9 Fp Fq Fs Ft;obtain⟨⟨y0,y1,y2,y3,y4,y5,y6,y7,y8,y9,Fp,Fq,Fs,Ft⟩, -⟩:=eP (HX.out w5 jI.out);obtain⟨⟨u0,u1,u2,u3,u4,u5,u6,u7⟩, -⟩:=dK oU.out;by_cases N8:fo=ah.nil
 ·subst N8
  clear HD;unfold ah.nil at*;exact XP
 ·have he:=pZ N8
  have XB:=hid (HD.out.resolve_left N8);clear HD N8;obtain⟨d1,d2,d3⟩:=XB.out;subst d3;clear XB;have d4:¬tz<0:=aB
  have d5:¬j<=tz:=aB
  exact XP
theorem IU(x:ah.cA)(i j:Int)(f:ah.cD)(ak al ar:Option Addr)(ck cl cr:Nat)(uw ug:Value)(S:Nat->Prop)(w:World)(hv:d9 S w (.agg #[.int .i64 x.aL,.slice ak x.aA.length ck,.slice al x.aP.length cl,.slice ar x.aR.length cr]) x)(hi:0<=i/\i<x.aA.length)(hup:0<=ah.dI x i j)(hb:ah.hasB x (ah.dI x i j) (jv x i j f)=true)(U1:(jC x (ah.dI x i j) (jv x i j f)).kind=6)(hki:ah.cL x (jC x (ah.dI x i j) (jv x i j f)).of=i):
  Calls Tryz.prog 223 #[.agg (iZ x.aL ak x.aA.length ck al x.aP.length cl ar x.aR.length cr i j f uw ug).toArray] w fun e w'=>e=.returned (.int .i64 0)/\BL w w':=by
 have HV:=hid (fun(W:World) (hW:BL w W)=>hv.keep (aD.below hW));have Mf:=hid (fun(W:World) (hW:BL w W)=>yT x i j f ak al ar ck cl cr uw ug S W (HV.out W hW));rw[decide_eq_false (show ¬ah.dI x i j<0 by omega)] at Mf;have HTo:=hid (fun(W:World) (hW:BL w W)=>KQ x i j f ak al ar ck cl cr uw ug S W (HV.out W hW) hi hup);unfold Mp at HTo;rw[hb] at HTo;have D3:=hid (fun(s:ByteArray) (W:World) (hW:BL w W)=>nL x s _ S W (HV.out W hW));have p9:Hid ((jC x (ah.dI x i j) (jv x i j f)).kind=6/\ah.cL x (jC x (ah.dI x i j) (jv x i j f)).of=i):=hid ⟨U1,hki⟩;clear U1 hki hb hup;generalize jC x (ah.dI x i j) (jv x i j f)=g at*;clear hv;obtain⟨fn,fo,fu,fk,fl,fh,Ip,Iq⟩:=f;simp only[iZ] at*;obtain⟨w1,hw1⟩:=bB (w.alloc (.cells #[.int .i64 x.aL,.slice ak x.aA.length ck,.slice al x.aP.length cl,.slice ar x.aR.length cr,.int .i64 i,.int .i64 j,.string fn,.string fo,.string fu,.int .i64 fk,.int .i64 fl,.int .i64 fh,uw,ug] 110));have bT:Hid (Below w.heap.size w w1):=hid Ab;have HX:Hid (∀W,BL w1 W->W.heap[w.heap.size]?=some (.cells #[.int .i64 x.aL,.slice ak x.aA.length ck,.slice al x.aP.length cl,.slice ar x.aR.length cr,.int .i64 i,.int .i64 j,.string fn,.string fo,.string fu,.int .i64 fk,.int .i64 fl,.int .i64 fh,uw,ug] 110 (0,0))):=hid (fun W hW=>(hW.block _ jH).trans wI);have HW:=hid hw1;clear hw1;obtain⟨⟨y0,y1,y2,y3,y4,y5,y6,y7,y8,y9,Fp,Fq,Fs,Ft⟩, -⟩:=eP (HX.out w1 aF);go_enter Tryz.func223,Tryz.ntmps223;go_upto_region 1 with fail;rw[<-HW.out];go_wp2_with fail;refine(HTo.out w1 bT.out).mono ?_;rintro e w2 ⟨a1,n1,c1,a2,n2,c2,rfl,hb2⟩;have iE:Hid (BL w1 w2):=hid ((Below.refl w1.heap.size w1).trans (hb2.mono (Below.refl w1.heap.size w1).size));have bX:=aU bT hb2;clear hb2;obtain⟨gn,go,gu,gk,gl,gh,D6,ggs⟩:=g;simp only[cF] at p9 ⊢;obtain⟨w3,hw3⟩:=bB (w2.alloc (.cells #[.string gn,.string go,.string gu,.int .i64 gk,.int .i64 gl,.int .i64 gh,.slice a1 n1 c1,.slice a2 n2 c2] 46));have jB:Hid (Below w1.heap.size w1 w3):=hid Lm;have cE:Hid (Below w.heap.size w w3):=hid Oi;have C5:Hid (∀W,BL w3 W->W.heap[w2.heap.size]?=some (.cells #[.string gn,.string go,.string gu,.int .i64 gk,.int .i64 gl,.int .i64 gh,.slice a1 n1 c1,.slice a2 n2 c2] 46 (0,0))):=hid (fun W hW=>(hW.block _ (by rw[hw3];simp)).trans Ol);have HW3:=hid hw3;clear hw3;go_upto_region 2 with fail;rw[<-HW3.out];clear y0 y1 y2 y3 y4 y5 y6 y7 y8 y9 Fp Fq Fs Ft;obtain⟨⟨y0,y1,y2,y3,y4,y5,y6,y7,y8,y9,Fp,Fq,Fs,Ft⟩, -⟩:=eP (HX.out w3 jB.out);obtain⟨⟨u0,u1,u2,u3,u4,u5,u6,u7⟩, -⟩:=dK (C5.out w3 aF);obtain⟨U1,hki⟩:=p9.out;subst U1;have U2:=hid (fun(W:World) (hW:BL w W)=>D3.out go W hW);rw[hki] at U2;clear hki p9 D3;have uy:=eO w3 ⟨w.heap.size,0,none⟩ (.int .i64 x.aL) fun xh=>(eP (HX.out xh.1 (cG jB.out xh.2))).1.1;have uD:=eO w3 ⟨w.heap.size,1,none⟩ (.slice ak x.aA.length ck) fun xh=>(eP (HX.out xh.1 (cG jB.out xh.2))).1.2.1;have uE:=eO w3 ⟨w.heap.size,2,none⟩ (.slice al x.aP.length cl) fun xh=>(eP (HX.out xh.1 (cG jB.out xh.2))).1.2.2.1;have uF:=eO w3 ⟨w.heap.size,3,none⟩ (.slice ar x.aR.length cr) fun xh=>(eP (HX.out xh.1 (cG jB.out xh.2))).1.2.2.2.1;have aaw:=eO w3 ⟨w.heap.size,4,none⟩ (.int .i64 i) fun xh=>(eP (HX.out xh.1 (cG jB.out xh.2))).1.2.2.2.2.1;have aax:=eO w3 ⟨w.heap.size,5,none⟩ (.int .i64 j) fun xh=>(eP (HX.out xh.1 (cG jB.out xh.2))).1.2.2.2.2.2.1;have hqs6:=eO w3 ⟨w.heap.size,6,none⟩ (.string fn) fun xh=>(eP (HX.out xh.1 (cG jB.out xh.2))).1.2.2.2.2.2.2.1;have hqs7:=eO w3 ⟨w.heap.size,7,none⟩ (.string fo) fun xh=>(eP (HX.out xh.1 (cG jB.out xh.2))).1.2.2.2.2.2.2.2.1;have hqs8:=eO w3 ⟨w.heap.size,8,none⟩ (.string fu) fun xh=>(eP (HX.out xh.1 (cG jB.out xh.2))).1.2.2.2.2.2.2.2.2.1;have hqs9:=eO w3 ⟨w.heap.size,9,none⟩ (.int .i64 fk) fun xh=>(eP (HX.out xh.1 (cG jB.out xh.2))).1.2.2.2.2.2.2.2.2.2.1;have ac5:=eO w3 ⟨w.heap.size,10,none⟩ (.int .i64 fl) fun xh=>(eP (HX.out xh.1 (cG jB.out xh.2))).1.2.2.2.2.2.2.2.2.2.2.1;have ac6:=eO w3 ⟨w.heap.size,11,none⟩ (.int .i64 fh) fun xh=>(eP (HX.out xh.1 (cG jB.out xh.2))).1.2.2.2.2.2.2.2.2.2.2.2.1;have ac7:=eO w3 ⟨w.heap.size,12,none⟩ (uw) fun xh=>(eP (HX.out xh.1 (cG jB.out xh.2))).1.2.2.2.2.2.2.2.2.2.2.2.2.1;have ac8:=eO w3 ⟨w.heap.size,13,none⟩ (ug) fun xh=>(eP (HX.out xh.1 (cG jB.out xh.2))).1.2.2.2.2.2.2.2.2.2.2.2.2.2;have hqg1:=eO w3 ⟨w2.heap.size,1,none⟩ (.string go) fun xh=>(dK (C5.out xh.1 xh.2)).1.2.1;have hqg3:=eO w3 ⟨w2.heap.size,3,none⟩ (.int .i64 6) fun xh=>(dK (C5.out xh.1 xh.2)).1.2.2.2.1;refine aZ 21 (.quiet 0 (.quiet 3 (.quiet 4 (.one 1 (.quiet 2 (.quiet 5 (.quiet 6 (.quiet 7 (.quiet 8 (.quiet 9 (.quiet 10 (.quiet 11 (.quiet 12 (.quiet 13 (.quiet 14 (.quiet 16 (.quiet 17 (.one 15 (.quiet 18 (.quiet 19 (.quiet 20 .done))))))))))))))))))))) (BL w3) oL (by kernel_rfl) (aI aF 1) ?_;have Au:=hid (aI (Below.refl w3.heap.size w3) 1);generalize w3.drewN 1=w4 at*
 iterate 3 refine fE ?_
 refine aT rfl ?_;go_wp2_with fail;refine(Mf.out w4 (cG cE.out Au.out)).mono ?_;rintro e w5 ⟨rfl,jd⟩;have IE:=aU Au jd;clear jd;go_wp2_with fail;refine aJ (BL w3) (fun _ h=>h) IE.out ?_
 iterate 13 refine fE ?_
 refine aT rfl ?_;go_wp2_with fail;refine(U2.out w5 (cG cE.out IE.out)).mono ?_;rintro e w6 ⟨rfl,rS⟩;have iK:=aU IE rS;clear rS;go_wp2_with fail;refine aJ (BL w3) (fun _ h=>h) iK.out ?_
 iterate 3 refine fE ?_
 refine bh ?_;try simp only[jZ,jP]
 clear uy uD uE uF aaw aax hqs6 hqs7 hqs8 hqs9 ac5 ac6 ac7 ac8 hqg1 hqg3;have qp:=aU cE iK.out;go_wp2_with fail;refine(oz _ _ _ _ _ _ (World.alloc _ _) (by rfl) TH (aW _ _ rfl)).mono ?_;rintro e wz ⟨rfl,hbz⟩;have Ba:Hid (BL w wz):=hid ((qp.out.alloc qp.out.size _).trans (hbz.mono (by have:=qp.out.size;simp;omega)));exact KR
theorem IV(x:ah.cA)(i j:Int)(f:ah.cD)(ak al ar:Option Addr)(ck cl cr:Nat)(uw ug:Value)(S:Nat->Prop)(w:World)(hv:d9 S w (.agg #[.int .i64 x.aL,.slice ak x.aA.length ck,.slice al x.aP.length cl,.slice ar x.aR.length cr]) x)(hi:0<=i/\i<x.aA.length)(hup:0<=ah.dI x i j)(hb:ah.hasB x (ah.dI x i j) (jv x i j f)=true)(LD:(jC x (ah.dI x i j) (jv x i j f)).kind=2\/(jC x (ah.dI x i j) (jv x i j f)).kind=3\/(jC x (ah.dI x i j) (jv x i j f)).kind=4\/(jC x (ah.dI x i j) (jv x i j f)).kind=5\/(jC x (ah.dI x i j) (jv x i j f)).kind=8):
  Calls Tryz.prog 225 #[.agg (iZ x.aL ak x.aA.length ck al x.aP.length cl ar x.aR.length cr i j f uw ug).toArray] w fun e w'=>e=.returned (.int .i64 0)/\BL w w':=by
 have HV:=hid (fun(W:World) (hW:BL w W)=>hv.keep (aD.below hW));have Mf:=hid (fun(W:World) (hW:BL w W)=>yT x i j f ak al ar ck cl cr uw ug S W (HV.out W hW));rw[decide_eq_false (show ¬ah.dI x i j<0 by omega)] at Mf;have HTo:=hid (fun(W:World) (hW:BL w W)=>KQ x i j f ak al ar ck cl cr uw ug S W (HV.out W hW) hi hup);unfold Mp at HTo;rw[hb] at HTo;have p9:=hid LD;clear LD hb hup;generalize jC x (ah.dI x i j) (jv x i j f)=g at*;clear hv;obtain⟨fn,fo,fu,fk,fl,fh,Ip,Iq⟩:=f;simp only[iZ] at*;obtain⟨w1,hw1⟩:=bB (w.alloc (.cells #[.int .i64 x.aL,.slice ak x.aA.length ck,.slice al x.aP.length cl,.slice ar x.aR.length cr,.int .i64 i,.int .i64 j,.string fn,.string fo,.string fu,.int .i64 fk,.int .i64 fl,.int .i64 fh,uw,ug] 110));have bT:Hid (Below w.heap.size w w1):=hid Ab;have HX:Hid (∀W,BL w1 W->W.heap[w.heap.size]?=some (.cells #[.int .i64 x.aL,.slice ak x.aA.length ck,.slice al x.aP.length cl,.slice ar x.aR.length cr,.int .i64 i,.int .i64 j,.string fn,.string fo,.string fu,.int .i64 fk,.int .i64 fl,.int .i64 fh,uw,ug] 110 (0,0))):=hid (fun W hW=>(hW.block _ jH).trans wI);have HW:=hid hw1;clear hw1;obtain⟨⟨y0,y1,y2,y3,y4,y5,y6,y7,y8,y9,Fp,Fq,Fs,Ft⟩, -⟩:=eP (HX.out w1 aF);go_enter Tryz.func225,Tryz.ntmps225;go_upto_region 1 with fail;rw[<-HW.out];go_wp2_with fail;refine(HTo.out w1 bT.out).mono ?_;rintro e w2 ⟨a1,n1,c1,a2,n2,c2,rfl,hb2⟩;have iE:Hid (BL w1 w2):=hid ((Below.refl w1.heap.size w1).trans (hb2.mono (Below.refl w1.heap.size w1).size));have bX:=aU bT hb2;clear hb2;obtain⟨gn,go,gu,gk,gl,gh,D6,ggs⟩:=g;simp only[cF] at p9 ⊢;obtain⟨w3,hw3⟩:=bB (w2.alloc (.cells #[.string gn,.string go,.string gu,.int .i64 gk,.int .i64 gl,.int .i64 gh,.slice a1 n1 c1,.slice a2 n2 c2] 46));have jB:Hid (Below w1.heap.size w1 w3):=hid Lm;have cE:Hid (Below w.heap.size w w3):=hid Oi;have C5:Hid (∀W,BL w3 W->W.heap[w2.heap.size]?=some (.cells #[.string gn,.string go,.string gu,.int .i64 gk,.int .i64 gl,.int .i64 gh,.slice a1 n1 c1,.slice a2 n2 c2] 46 (0,0))):=hid (fun W hW=>(hW.block _ (by rw[hw3];simp)).trans Ol);have HW3:=hid hw3;clear hw3;go_upto_region 2 with fail;rw[<-HW3.out];clear y0 y1 y2 y3 y4 y5 y6 y7 y8 y9 Fp Fq Fs Ft;obtain⟨⟨y0,y1,y2,y3,y4,y5,y6,y7,y8,y9,Fp,Fq,Fs,Ft⟩, -⟩:=eP (HX.out w3 jB.out);obtain⟨⟨u0,u1,u2,u3,u4,u5,u6,u7⟩, -⟩:=dK (C5.out w3 aF);rcases p9.out with e|e|e|e|e
 all_goals
  subst e
  clear p9
  go_wp2_with fail
  refine(Mf.out w3 cE.out).mono ?_
  rintro e w5 ⟨rfl,jd⟩
  have iD:=aU cE jd
  clear jd
  go_wp2_with fail
  refine(oz _ _ _ _ _ _ (World.alloc _ _) (by rfl) TH (aW _ _ rfl)).mono ?_
  rintro e wz ⟨rfl,hbz⟩
  have Ba:Hid (BL w wz):=hid ((iD.out.alloc iD.out.size _).trans (hbz.mono abN))
  clear hbz
  go_wp2
  go_ret
  exact⟨rfl,Ba.out⟩
theorem XQ{p:Prop}(h:p:=by
  refine bh ?_
  try simp only[jZ,jP]
  clear uy uD uE uF Mr QT hqf3
  have gK:=aU bX Au.out
  go_wp2_with fail
  refine(oz _ _ _ _ _ _ (World.alloc _ _) (by first|rfl|exact hkz) TH (aW _ _ rfl)).mono ?_
  rintro e wz ⟨rfl,hbz⟩
  have Ba:Hid (BL w wz):=hid ((gK.out.alloc gK.out.size _).trans (hbz.mono (by have:=gK.out.size;simp;omega)))
  clear hbz
  go_wp2
  go_ret
  exact⟨rfl,Ba.out⟩):p:=h
theorem IW(x:ah.cA)(i:Nat)(v:Value)(S:Nat->Prop)(w:World)(hv:d9 S w v x)(hi:i<x.aA.length)(h1:¬ah.cL x (ah.kd x i).name<i)(h2:0<(ah.kd x i).aG.length)(h3:(ah.fd x i 0).kind=0):
  Calls Tryz.prog 46 #[v,.int .i64 i] w fun e w'=>e=.returned (.int .i64 0)/\BL w w':=by
 obtain⟨ak,ck,al,cl,ar,cr,rfl,hk,hl,hr,hsk,hsl,hsr⟩:=hv.form;have HV:=hid (fun(W:World) (hW:BL w W)=>hv.keep (aD.below hW));obtain⟨nK, -,k0,k1,k2,uf,k3,kT⟩:=hk.at hi;rw[dU hi] at h1 h2;have h2':0<x.aA[i].aG.length:=h2;rw[show ah.fd x i 0=x.aA[i].aG[0] from nA (j:=0) hi h2'] at h3;obtain⟨af,cf,rfl,hsf, -, -⟩:=kT.form;obtain⟨Iz, -, -, -, -,f3, -⟩:=dh.at kT h2';rw[h3] at f3;have D3:=hid (fun(W:World) (hW:BL w W)=>nL x x.aA[i].name _ S W (HV.out W hW));have HN1:=hid h1;clear kT hk hl hr hv h3 h1 h2;generalize x.aA[i]=kd at*;obtain⟨kn,BZ,B6,A8⟩:=kd;simp only at*;generalize ah.cL x kn=kz at*;generalize A8.length=nf at*;have hi0:(0:Int)<=i:=aB
 have hi1:(i:Int)<x.aA.length:=aB
 have hkz:=decide_eq_false HN1.out;have hnf0:((nf:Int)==0)=false:=lC
 have hn0:(0:Int)<nf:=aB
 obtain⟨w1,hw1⟩:=bB (dP w x.aL (.slice ak x.aA.length ck) (.slice al x.aP.length cl) (.slice ar x.aR.length cr));have bT:=wS hw1;have yU:Hid (w1.heap[w.heap.size]?=some (.cells #[.int .i64 x.aL,.slice ak x.aA.length ck,.slice al x.aP.length cl,.slice ar x.aR.length cr] 27 (0,0))):=hid Zl;unfold dP at hw1;have HW1:=hid hw1;clear hw1;obtain⟨w2,hw2⟩:=bB (w1.alloc (.cells #[.string kn,.int .i64 BZ,.int .i64 B6,.slice af nf cf] 49));have bX:Hid (Below w.heap.size w w2):=hid (by rw[hw2];exact bT.out.alloc bT.out.size _);have HX:Hid (∀W,BL w2 W->W.heap[w.heap.size]?=some (.cells #[.int .i64 x.aL,.slice ak x.aA.length ck,.slice al x.aP.length cl,.slice ar x.aR.length cr] 27 (0,0))):=hid (fun W hW=>(hW.block _ (by rw[hw2];have:=aC yU.out;simp;omega)).trans (by rw[hw2];exact bG _ yU.out));have HK:Hid (∀W,BL w2 W->W.heap[w1.heap.size]?=some (.cells #[.string kn,.int .i64 BZ,.int .i64 B6,.slice af nf cf] 49 (0,0))):=hid (fun W hW=>(hW.block _ (by rw[hw2];simp)).trans Ot);have HF:Hid (∀W,BL w2 W->W.cell? ⟨bL af,bP af+3,none⟩=some (.int .i64 0)):=hid (fun W hW=>((cG bX.out hW).cell (p:=⟨bL af,bP af+3,none⟩) Iz).trans (by simpa using f3));have HW2:=hid hw2;clear hw2 f3;obtain⟨⟨y0,y1,y2,y3⟩, -⟩:=bC yU.out;have UU:=(bT.out.cell (p:=⟨bL ak,bP ak+i*4,none⟩) nK).trans k0;have UW:=(bT.out.cell (p:=⟨bL ak,bP ak+i*4+1,none⟩) nK).trans k1;have UX:=(bT.out.cell (p:=⟨bL ak,bP ak+i*4+2,none⟩) nK).trans k2;have UY:=(bT.out.cell (p:=⟨bL ak,bP ak+i*4+3,none⟩) nK).trans k3;clear k0 k1 k2 k3;go_enter Tryz.func46,Tryz.ntmps46;go_upto_region 1 with fail;rw[<-HW1.out];go_upto_region 2 with fail;rw[<-HW2.out];clear y0 y1 y2 y3 UU UW UX UY;obtain⟨uy,uD,uE,uF⟩:=WB HX.out;have Mr:=eO w2 ⟨w1.heap.size,0,none⟩ (.string kn) fun xh=>(bC (HK.out xh.1 xh.2)).1.1;have QT:=eO w2 ⟨w1.heap.size,3,none⟩ (.slice af nf cf) fun xh=>(bC (HK.out xh.1 xh.2)).1.2.2.2;have hqf3:=eO w2 ⟨bL af,bP af+3,none⟩ (.int .i64 0) fun xh=>HF.out xh.1 xh.2;refine aZ 20 (.quiet 0 (.quiet 1 (.quiet 2 (.quiet 4 (.quiet 7 (.quiet 8 (.two 3 9 (.quiet 5 (.quiet 6 (.one 9 (.quiet 10 (.quiet 11 (.quiet 12 (.quiet 13 (.quiet 14 (.quiet 15 (.quiet 16 (.quiet 17 (.quiet 18 (.quiet 19 .done))))))))))))) (.quiet 10 (.one 3 (.quiet 5 (.quiet 6 (.quiet 11 (.quiet 12 (.quiet 13 (.quiet 14 (.quiet 15 (.quiet 16 (.quiet 17 (.quiet 18 (.quiet 19 .done)))))))))))))))))))) (BL w2) oL (by kernel_rfl) (aI aF 1) ?_;have Fu:=hid (aI (Below.refl w2.heap.size w2) 1);generalize w2.drewN 1=w3 at*
 iterate 6 refine fE ?_
 refine eD rfl rfl ?_ ?_
 ·go_wp2_with fail
  refine(D3.out w3 (cG bX.out Fu.out)).mono ?_;rintro e w4 ⟨rfl,hb4⟩;have Au:=aU Fu hb4;clear hb4;go_wp2_with fail;refine aJ (BL w2) (fun _ h=>h) Au.out ?_
  iterate 2 refine fE ?_
  refine aT rfl ?_;go_wp2_with fail;refine aJ (BL w2) (fun _ h=>h) Au.out ?_
  iterate 10 refine fE ?_
  exact XQ
 ·go_wp2_with fail
  refine aJ (BL w2) (fun _ h=>h) Fu.out ?_;refine fE ?_;refine aT rfl ?_;go_wp2_with fail;refine(D3.out w3 (cG bX.out Fu.out)).mono ?_;rintro e w4 ⟨rfl,hb4⟩;have Au:=aU Fu hb4;clear hb4;go_wp2_with fail;refine aJ (BL w2) (fun _ h=>h) Au.out ?_
  iterate 11 refine fE ?_
  exact XQ
theorem dQ.take{α:Type}{n:Nat}{R:World->List Value->α->Prop}{S:Nat->Prop}{w:World}{a:Option Addr}{m cap:Nat}{xs:List α}(h:dQ n R S w (.slice a m cap) xs){k:Nat}(hk:k<=xs.length):dQ n R S w (.slice a k cap) (xs.take k):=by
 obtain⟨a',cap',e,h1,h2,h3,h4,h5⟩:=h;cases e;have hl:(xs.take k).length=k:=by rw[LB];omega
 refine⟨a,cap,by rw[hl],fun h0=>h1 (by rw[hl] at h0;omega),by rw[hl];omega,h3,fun h0=>h4 (by rw[hl] at h0;omega),fun j hj=>?_⟩;rw[hl] at hj;obtain⟨us,g1,g2,g3⟩:=h5 j aB;exact⟨us,g1,g2,by rw[List.getElem_take];exact g3⟩
theorem Ms(r:ah.tQ)(s:ByteArray)(b:Nat)(w:World)(hb:w.cell? ⟨b,0,none⟩=some (.string s)):
  Calls Tryz.prog 80 #[.agg #[.string r.name,.string r.kind,.string r.a,.string r.b,.int .i64 r.n],.pointer (some ⟨b,0,none⟩)] w fun e w'=>e=.returned (.bool (decide (r.name=s)))/\BL w w':=by
 have hz:b<w.heap.size:=Ae w ⟨b,0,none⟩ hb;have HD:Hid ((r.name.toList==s.toList)=decide (r.name=s)):=hid GV;obtain⟨rn,rk,ra,rb,rw⟩:=r;simp only at HD ⊢;go_enter Tryz.func80,Tryz.ntmps80;exact Fg
theorem QU{p:Prop}(h:p:=by
  clear hw g0 g1 g2 g3 g4 g5 g6 g7 gf HS
  refine aJ (BL wr) (fun _ h=>h) QV.out ?_
  refine bh ?_
  try simp only[jZ,jP]
  clear uy uD uE uF Mr aau aav QT
  obtain⟨⟨u0,u1,u2,u3,u4,u5,u6,u7⟩, -⟩:=dK Al.out
  have Da:=aU hbr QV.out
  rcases HGK.out with e|e
  all_goals
   subst e
   go_wp2
   go_roundw
   case rel=>exact⟨k+1,aB,by go_num,Zc,Zc,Da⟩
   simp[intOf];omega):p:=h
theorem IX(x:ah.cA)(i:Nat)(v:Value)(S:Nat->Prop)(w:World)(hv:d9 S w v x)(hi:i<x.aR.length)(h1:(x.aR.take i).any (fun s=>decide (s.name=(ah.rl x i).name))=false)(h2:0<=ah.cL x (ah.rl x i).kind)
  (h3:∀s,s=(ah.rl x i).a\/s=(ah.rl x i).b->s=ah.nil\/(ah.hasB x (ah.cL x (ah.rl x i).kind) (ah.bJ (ah.kd x (ah.cL x (ah.rl x i).kind)) s)=true/\((jC x (ah.cL x (ah.rl x i).kind) (ah.bJ (ah.kd x (ah.cL x (ah.rl x i).kind)) s)).kind=2\/(jC x (ah.cL x (ah.rl x i).kind) (ah.bJ (ah.kd x (ah.cL x (ah.rl x i).kind)) s)).kind=4)))(h4:¬(ah.rl x i).a=(ah.rl x i).b):
  Calls Tryz.prog 48 #[v,.int .i64 i] w fun e w'=>e=.returned (.int .i64 0)/\BL w w':=by
 obtain⟨ak,ck,al,cl,ar,cr,rfl,hk,hl,hr,hsk,hsl,hsr⟩:=hv.form;have HV:=hid (fun(W:World) (hW:BL w W)=>hv.keep (aD.below hW));obtain⟨N7, -,r0,r1,r2,r3,r4⟩:=uY.at hr hi;have hrl:ah.rl x i=x.aR[i]:=by unfold ah.rl;rw[jm,lE hi];rfl
 rw[hrl] at h1 h2 h3 h4;have hcr:x.aR.length<=cr/\cr<=9223372036854775807:=by obtain⟨_,_,e, -,g1,g2⟩:=hr.form;cases e;exact⟨g1,g2⟩
 have HRt:=hid (fun(W:World) (hW:BL w W)=>dQ.take (dQ.keep fe hr (aD.below hW)) (k:=i) aB);have HTw:=hid h1;have D3:=hid (fun(s:ByteArray) (W:World) (hW:BL w W)=>nL x s _ S W (HV.out W hW));have htl:(x.aR.take i).length=i:=by rw[LB];omega
 clear hv hl hr hrl h1;generalize x.aR[i]=r at*;obtain⟨rn,rk,ra,rb,rw⟩:=r;simp only at r0 r1 r2 r3 r4 h2 h3 h4 HTw;obtain⟨o,ho⟩:∃o:Nat,ah.cL x rk=(o:Int):=⟨(ah.cL x rk).toNat,aB⟩
 have hok:o<x.aA.length:=by
  rcases jS (fun k:ah.dZ=>decide (k.name=rk)) x.aA with h|h
  ·have:ah.cL x rk<x.aA.length:=h
   omega
  ·have:ah.cL x rk= -1:=h
   omega
 rw[ho] at h3;have U3:=hid (D3.out rk);rw[ho] at U3;clear ho h2;obtain⟨nK, -,k0,k1,k2,uf,k3,kT⟩:=hk.at hok;obtain⟨af,cf,rfl, -, -, -⟩:=kT.form;have D5:=hid (fun(s:ByteArray) (W:World) (hW:BL w W)=>lQ x.aA[o] s _ S W (kT.keep (aD.below hW)))
 have Fk:Hid (∀W,BL w W->W.cell? ⟨bL ak,bP ak+o*4,none⟩=some (.string x.aA[o].name)/\W.cell? ⟨bL ak,bP ak+o*4+1,none⟩=some (.int .i64 x.aA[o].lo)/\W.cell? ⟨bL ak,bP ak+o*4+2,none⟩=some (.int .i64 x.aA[o].hi)/\W.cell? ⟨bL ak,bP ak+o*4+3,none⟩=some (.slice af x.aA[o].aG.length cf)):=hid (fun W hW=>
   ⟨(hW.cell (p:=⟨bL ak,bP ak+o*4,none⟩) nK).trans k0,(hW.cell (p:=⟨bL ak,bP ak+o*4+1,none⟩) nK).trans k1,(hW.cell (p:=⟨bL ak,bP ak+o*4+2,none⟩) nK).trans k2,(hW.cell (p:=⟨bL ak,bP ak+o*4+3,none⟩) nK).trans k3⟩)
 have Mq:=hid (fun(u:Int) (W:World) (hW:BL w W)=>mz x (o:Int) u _ S W (HV.out W hW));rw[dU hok] at h3;obtain⟨nmS,hnm⟩:∃f:Nat->ByteArray,f=fun k=>if k=0 then ra else rb:=⟨_,rfl⟩
 have HG:Hid (∀k,k<2->nmS k=ah.nil\/(ah.hasB x o (ah.bJ x.aA[o] (nmS k))=true/\((jC x o (ah.bJ x.aA[o] (nmS k))).kind=2\/(jC x o (ah.bJ x.aA[o] (nmS k))).kind=4))):=hid (fun k hk2=>by
  subst hnm;simp only;split
  ·exact h3 ra (.inl rfl)
  ·exact h3 rb (.inr rfl))
 clear k0 k1 k2 k3 kT hk h3;generalize x.aA[o]=kd at*;obtain⟨kn,BZ,B6,A8⟩:=kd;simp only[kH] at D5;simp only at Fk;obtain⟨nf,hnf⟩:=bB A8.length;rw[<-hnf] at Fk D5;clear hnf;have hes:(ra.toList==rb.toList)=false:=by rw[GV];simpa using h4
 clear h4;have hi0:(0:Int)<=i:=aB
 have hi1:(i:Int)<x.aR.length:=aB
 have ho0:(0:Int)<=o:=aB
 have Ie:(o:Int)<x.aA.length:=aB
 have hon:¬(o:Int)<0:=aB
 obtain⟨w1,hw1⟩:=bB (dP w x.aL (.slice ak x.aA.length ck) (.slice al x.aP.length cl) (.slice ar x.aR.length cr));have bT:=wS hw1;have yU:Hid (w1.heap[w.heap.size]?=some (.cells #[.int .i64 x.aL,.slice ak x.aA.length ck,.slice al x.aP.length cl,.slice ar x.aR.length cr] 27 (0,0))):=hid Zl;unfold dP at hw1;have HW1:=hid hw1;clear hw1;obtain⟨w2,hw2⟩:=bB (w1.alloc (.cells #[.string rn,.string rk,.string ra,.string rb,.int .i64 rw] 61));have bX:Hid (Below w.heap.size w w2):=hid (by rw[hw2];exact bT.out.alloc bT.out.size _);have HX:Hid (∀W,BL w2 W->W.heap[w.heap.size]?=some (.cells #[.int .i64 x.aL,.slice ak x.aA.length ck,.slice al x.aP.length cl,.slice ar x.aR.length cr] 27 (0,0))):=hid (fun W hW=>(hW.block _ (by rw[hw2];have:=aC yU.out;simp;omega)).trans (by rw[hw2];exact bG _ yU.out));have HR:Hid (∀W,BL w2 W->W.heap[w1.heap.size]?=some (.cells #[.string rn,.string rk,.string ra,.string rb,.int .i64 rw] 61 (0,0))):=hid (fun W hW=>(hW.block _ (by rw[hw2];simp)).trans Ot);have HW2:=hid hw2;clear hw2
 have HCt:=hid (KJ fe (x.aR.take i) (fun s:ah.tQ=>decide (s.name=rn)) _ S w2 (HRt.out w2 bX.out) 80 #[.pointer (some ⟨w1.heap.size,0,none⟩)] (bH Tryz.func80 (by kernel_rfl) rfl) (fun X hX j hj us _ hu=>by
  obtain rfl:=hu;exact Ms _ rn _ X (mE (HR.out X hX)).1.1))
 rw[HTw.out] at HCt;obtain⟨⟨y0,y1,y2,y3⟩, -⟩:=bC yU.out;have UU:=(bT.out.cell (p:=⟨bL ar,bP ar+i*5,none⟩) N7).trans r0;have UW:=(bT.out.cell (p:=⟨bL ar,bP ar+i*5+1,none⟩) N7).trans r1;have UX:=(bT.out.cell (p:=⟨bL ar,bP ar+i*5+2,none⟩) N7).trans r2;have UY:=(bT.out.cell (p:=⟨bL ar,bP ar+i*5+3,none⟩) N7).trans r3;have kc4:=(bT.out.cell (p:=⟨bL ar,bP ar+i*5+4,none⟩) N7).trans r4;clear r0 r1 r2 r3 r4;go_enter Tryz.func48,Tryz.ntmps48;go_upto_region 1 with fail;rw[<-HW1.out];go_upto_region 2 with fail;rw[<-HW2.out];clear y0 y1 y2 y3 UU UW UX UY kc4;obtain⟨⟨y0,y1,y2,y3⟩, -⟩:=bC (HX.out w2 aF);have hle:(i:Int)<=cr:=aB
 go_wp2_with fail;refine HCt.out.mono ?_;rintro e w3 ⟨rfl,hb3⟩;have jB:Hid (BL w2 w3):=hid hb3;have cE:=aU bX hb3;clear hb3 y0 y1 y2 y3 HCt;obtain⟨⟨y0,y1,y2,y3⟩, -⟩:=bC (HX.out w3 jB.out);obtain⟨⟨z0,z1,z2,z3,z4⟩, -⟩:=mE (HR.out w3 jB.out);go_wp2_with fail;refine(U3.out w3 cE.out).mono ?_;rintro e w4 ⟨rfl,hb4⟩;have lW:=aU jB hb4;have gK:=aU cE hb4;clear hb4 y0 y1 y2 y3 z0 z1 z2 z3 z4;obtain⟨⟨y0,y1,y2,y3⟩, -⟩:=bC (HX.out w4 lW.out);obtain⟨⟨z0,z1,z2,z3,z4⟩, -⟩:=mE (HR.out w4 lW.out);have hdo:decide ((o:Int)<0)=false:=decide_eq_false aB;obtain⟨w5,rV⟩:=bB (w4.alloc (.cells #[.string ra,.string rb] 9));have jI:Hid (Below w2.heap.size w2 w5):=hid (by rw[rV];exact lW.out.alloc lW.out.size _);have iD:Hid (Below w.heap.size w w5):=hid (by rw[rV];exact gK.out.alloc gK.out.size _);have KT:Hid (w5.heap[w4.heap.size]?=some (.cells #[.string ra,.string rb] 9 (0,0))):=hid (by rw[rV];exact aW _ _ rfl)
 have wQ:Hid (∀W,BL w5 W->∀k,k<2->W.cell? ⟨w4.heap.size,k,none⟩=some (.string (nmS k))):=hid (fun W hW k hk2=>by
  have h0:=(hW.cell (p:=⟨w4.heap.size,k,none⟩) (aC KT.out));rw[h0,hnm];match k,hk2 with
  |0,_=>exact aN KT.out 0
  |1,_=>exact aN KT.out 1)
 have Aq:=hid rV;clear rV hnm;have h45:w4.heap.size<w5.heap.size:=aC KT.out;go_upto_region 5 with fail;go_upto_region 6 with fail;rw[<-Aq.out];clear y0 y1 y2 y3 z0 z1 z2 z3 z4;go_loopw [8,9,37] (fun s8 s9 k wr=>∃k':Nat,k'<=2/\k=.int .i64 k'/\s8=.bool false/\s9=.bool false/\Hid (BL w5 wr)) (fun _ _ k _=>2-(intOf k).toNat);case atStart=>exact⟨0,aB,rfl,rfl,rfl,hid aF⟩
 case round=>
  obtain⟨k,hk,rfl,rfl,rfl,hbr⟩:=hrel;have kE:=aU jI hbr.out;have jF:=aU iD hbr.out;by_cases hk2:k<2
  ·have hk0:(0:Int)<=(k:Int):=by omega
   have hk1:(k:Int)<2:=aB
   have y0:=wQ.out wr hbr.out k hk2;have HGk:=hid (HG.out k hk2);generalize nmS k=s at*;by_cases hs:s=ah.nil
   ·subst hs
    clear HGk;unfold ah.nil at*;go_wp2;go_roundw;case rel=>exact⟨k+1,aB,by go_num,rfl,rfl,hbr⟩
    simp[intOf];omega
   ·have he:=pZ hs
    have HG2:=hid (HGk.out.resolve_left hs);clear HGk hs;have DZ:=hid (fun(W:World) (hW:BL w W)=>D5.out s W hW);generalize ah.bJ ⟨kn,BZ,B6,A8⟩ s=tz at*;have tX:=hid (fun(W:World) (hW:BL w W)=>Mq.out tz W hW);unfold AtP at tX;obtain⟨g1,g2⟩:=HG2.out;rw[g1] at tX;have HGK:=hid g2;clear g1 g2 HG2;generalize jC x (o:Int) tz=g at*;obtain⟨gn,go,gu,gk,gl,gh,D6,ggs⟩:=g;simp only[cF] at tX HGK;go_upto_region 9 with fail;have uy:=eO wr ⟨w.heap.size,0,none⟩ (.int .i64 x.aL) fun xh=>(bC (HX.out xh.1 (cG kE.out xh.2))).1.1;have uD:=eO wr ⟨w.heap.size,1,none⟩ (.slice ak x.aA.length ck) fun xh=>(bC (HX.out xh.1 (cG kE.out xh.2))).1.2.1;have uE:=eO wr ⟨w.heap.size,2,none⟩ (.slice al x.aP.length cl) fun xh=>(bC (HX.out xh.1 (cG kE.out xh.2))).1.2.2.1;have uF:=eO wr ⟨w.heap.size,3,none⟩ (.slice ar x.aR.length cr) fun xh=>(bC (HX.out xh.1 (cG kE.out xh.2))).1.2.2.2;have Mr:=eO wr ⟨bL ak,bP ak+o*4,none⟩ (.string kn) fun xh=>(Fk.out xh.1 (cG jF.out xh.2)).1;have aau:=eO wr ⟨bL ak,bP ak+o*4+1,none⟩ (.int .i64 BZ) fun xh=>(Fk.out xh.1 (cG jF.out xh.2)).2.1;have aav:=eO wr ⟨bL ak,bP ak+o*4+2,none⟩ (.int .i64 B6) fun xh=>(Fk.out xh.1 (cG jF.out xh.2)).2.2.1;have QT:=eO wr ⟨bL ak,bP ak+o*4+3,none⟩ (.slice af nf cf) fun xh=>(Fk.out xh.1 (cG jF.out xh.2)).2.2.2;refine aZ 15 (.quiet 0 (.quiet 1 (.quiet 2 (.quiet 3 (.quiet 4 (.quiet 5 (.quiet 6 (.quiet 7 (.two 8 13 (.two 9 13 (.quiet 10 (.quiet 11 (.quiet 12 (.one 13 (.one 14 .done))))) (.one 9 (.quiet 10 (.quiet 11 (.quiet 12 (.one 14 .done)))))) (.one 8 (.one 9 (.quiet 10 (.quiet 11 (.quiet 12 (.one 14 .done))))))))))))))) (BL wr) oL (by kernel_rfl) (aI aF 1) ?_;have Fu:=hid (aI (Below.refl wr.heap.size wr) 1);generalize wr.drewN 1=w6 at*;have iK:=Fu;clear Fu Mq D5 D3 U3
    iterate 8 refine fE ?_
    refine eD rfl rfl ?_ ?_
    ·go_wp2_with fail
     refine(DZ.out w6 (cG jF.out iK.out)).mono ?_;rintro e w7 ⟨rfl,hb⟩;have o7:=aU iK hb;clear hb;go_wp2_with fail;refine aJ (BL wr) (fun _ h=>h) o7.out ?_;refine eD rfl rfl ?_ ?_
     ·go_wp2_with fail
      refine(tX.out w7 (cG jF.out o7.out)).mono ?_;rintro e w8 ⟨a1,n1,c1,a2,n2,c2,rfl, -,hb⟩;have tK:=aU o7 hb;clear hb;go_wp2_with fail;refine aJ (BL wr) (fun _ h=>h) tK.out ?_
      iterate 3 refine fE ?_
      refine aT rfl ?_;go_wp2_with fail;obtain⟨lX,hw⟩:=bB (w8.alloc (.cells #[.string {data:=#[]},.string {data:=#[]},.string {data:=#[]},.int .i64 0,.int .i64 0,.int .i64 0,.slice none 0 0,.slice none 0 0] 46));rw[<-hw];have xM:Hid (Below wr.heap.size wr lX):=hid (by rw[hw];exact tK.out.alloc tK.out.size _);have uG:Hid (lX.heap[w8.heap.size]?=some (.cells #[.string {data:=#[]},.string {data:=#[]},.string {data:=#[]},.int .i64 0,.int .i64 0,.int .i64 0,.slice none 0 0,.slice none 0 0] 46 (0,0))):=hid Ed;clear hw;refine aJ (BL wr) (fun _ h=>h) xM.out ?_;obtain⟨⟨g0,g1,g2,g3,g4,g5,g6,g7⟩,gf⟩:=dK uG.out;have HS:=hid (GS uG.out (.string gn) (.string go) (.string gu) (.int .i64 gk) (.int .i64 gl) (.int .i64 gh) (.slice a1 n1 c1) (.slice a2 n2 c2));have hBw:wr.heap.size<=w8.heap.size:=tK.out.size;refine aT rfl ?_;go_wp2_with fail;obtain⟨w9,hw⟩:=bB (((((((((lX.setCell ⟨w8.heap.size,0,none⟩ (.string gn)).setCell ⟨w8.heap.size,1,none⟩ (.string go)).setCell ⟨w8.heap.size,2,none⟩ (.string gu)).setCell ⟨w8.heap.size,3,none⟩ (.int .i64 gk)).setCell ⟨w8.heap.size,4,none⟩ (.int .i64 gl)).setCell ⟨w8.heap.size,5,none⟩ (.int .i64 gh)).setCell ⟨w8.heap.size,6,none⟩ (.slice a1 n1 c1)).setCell ⟨w8.heap.size,7,none⟩ (.slice a2 n2 c2)));rw[<-hw];have QV:Hid (Below wr.heap.size wr w9):=hid OB;have Al:Hid (w9.heap[w8.heap.size]?=some (.cells #[.string gn,.string go,.string gu,.int .i64 gk,.int .i64 gl,.int .i64 gh,.slice a1 n1 c1,.slice a2 n2 c2] 46 (0,0))):=hid (by rw[hw];exact HS.out.1);exact QU
     ·go_wp2_with fail
      obtain⟨w8,hw⟩:=bB (w7.alloc (.cells #[.string {data:=#[]},.string {data:=#[]},.string {data:=#[]},.int .i64 0,.int .i64 0,.int .i64 0,.slice none 0 0,.slice none 0 0] 46));rw[<-hw];have tK:Hid (Below wr.heap.size wr w8):=hid (by rw[hw];exact o7.out.alloc o7.out.size _);have HZ8:Hid (w8.heap[w7.heap.size]?=some (.cells #[.string {data:=#[]},.string {data:=#[]},.string {data:=#[]},.int .i64 0,.int .i64 0,.int .i64 0,.slice none 0 0,.slice none 0 0] 46 (0,0))):=hid Ed;clear hw;refine aJ (BL wr) (fun _ h=>h) tK.out ?_;refine aT rfl ?_;go_wp2_with fail;refine(tX.out w8 (cG jF.out tK.out)).mono ?_;rintro e lX ⟨a1,n1,c1,a2,n2,c2,rfl, -,hb⟩;have xM:=aU tK hb;have uG:Hid (lX.heap[w7.heap.size]?=some (.cells #[.string {data:=#[]},.string {data:=#[]},.string {data:=#[]},.int .i64 0,.int .i64 0,.int .i64 0,.slice none 0 0,.slice none 0 0] 46 (0,0))):=hid ((hb.block _ (aC HZ8.out)).trans HZ8.out);clear hb;go_wp2_with fail;refine aJ (BL wr) (fun _ h=>h) xM.out ?_
      iterate 3 refine fE ?_
      obtain⟨⟨g0,g1,g2,g3,g4,g5,g6,g7⟩,gf⟩:=dK uG.out;have HS:=hid (GS uG.out (.string gn) (.string go) (.string gu) (.int .i64 gk) (.int .i64 gl) (.int .i64 gh) (.slice a1 n1 c1) (.slice a2 n2 c2));have hBw:wr.heap.size<=w7.heap.size:=o7.out.size;refine aT rfl ?_;go_wp2_with fail;obtain⟨w9,hw⟩:=bB (((((((((lX.setCell ⟨w7.heap.size,0,none⟩ (.string gn)).setCell ⟨w7.heap.size,1,none⟩ (.string go)).setCell ⟨w7.heap.size,2,none⟩ (.string gu)).setCell ⟨w7.heap.size,3,none⟩ (.int .i64 gk)).setCell ⟨w7.heap.size,4,none⟩ (.int .i64 gl)).setCell ⟨w7.heap.size,5,none⟩ (.int .i64 gh)).setCell ⟨w7.heap.size,6,none⟩ (.slice a1 n1 c1)).setCell ⟨w7.heap.size,7,none⟩ (.slice a2 n2 c2)));rw[<-hw];have QV:Hid (Below wr.heap.size wr w9):=hid OB;have Al:Hid (w9.heap[w7.heap.size]?=some (.cells #[.string gn,.string go,.string gu,.int .i64 gk,.int .i64 gl,.int .i64 gh,.slice a1 n1 c1,.slice a2 n2 c2] 46 (0,0))):=hid (by rw[hw];exact HS.out.1);exact QU
    ·go_wp2_with fail
     obtain⟨w7,hw⟩:=bB (w6.alloc (.cells #[.string {data:=#[]},.string {data:=#[]},.string {data:=#[]},.int .i64 0,.int .i64 0,.int .i64 0,.slice none 0 0,.slice none 0 0] 46));rw[<-hw];have o7:Hid (Below wr.heap.size wr w7):=hid (by rw[hw];exact iK.out.alloc iK.out.size _);have XR:Hid (w7.heap[w6.heap.size]?=some (.cells #[.string {data:=#[]},.string {data:=#[]},.string {data:=#[]},.int .i64 0,.int .i64 0,.int .i64 0,.slice none 0 0,.slice none 0 0] 46 (0,0))):=hid Ed;clear hw;refine aJ (BL wr) (fun _ h=>h) o7.out ?_;refine aT rfl ?_;go_wp2_with fail;refine(DZ.out w7 (cG jF.out o7.out)).mono ?_;rintro e w8 ⟨rfl,hb⟩;have tK:=aU o7 hb;have HZ8:Hid (w8.heap[w6.heap.size]?=some (.cells #[.string {data:=#[]},.string {data:=#[]},.string {data:=#[]},.int .i64 0,.int .i64 0,.int .i64 0,.slice none 0 0,.slice none 0 0] 46 (0,0))):=hid ((hb.block _ (aC XR.out)).trans XR.out);clear hb;go_wp2_with fail;refine aJ (BL wr) (fun _ h=>h) tK.out ?_;refine aT rfl ?_;go_wp2_with fail;refine(tX.out w8 (cG jF.out tK.out)).mono ?_;rintro e lX ⟨a1,n1,c1,a2,n2,c2,rfl, -,hb⟩;have xM:=aU tK hb;have uG:Hid (lX.heap[w6.heap.size]?=some (.cells #[.string {data:=#[]},.string {data:=#[]},.string {data:=#[]},.int .i64 0,.int .i64 0,.int .i64 0,.slice none 0 0,.slice none 0 0] 46 (0,0))):=hid ((hb.block _ (aC HZ8.out)).trans HZ8.out);clear hb;go_wp2_with fail;refine aJ (BL wr) (fun _ h=>h) xM.out ?_
     iterate 3 refine fE ?_
     obtain⟨⟨g0,g1,g2,g3,g4,g5,g6,g7⟩,gf⟩:=dK uG.out;have HS:=hid (GS uG.out (.string gn) (.string go) (.string gu) (.int .i64 gk) (.int .i64 gl) (.int .i64 gh) (.slice a1 n1 c1) (.slice a2 n2 c2));have hBw:wr.heap.size<=w6.heap.size:=iK.out.size;refine aT rfl ?_;go_wp2_with fail;obtain⟨w9,hw⟩:=bB (((((((((lX.setCell ⟨w6.heap.size,0,none⟩ (.string gn)).setCell ⟨w6.heap.size,1,none⟩ (.string go)).setCell ⟨w6.heap.size,2,none⟩ (.string gu)).setCell ⟨w6.heap.size,3,none⟩ (.int .i64 gk)).setCell ⟨w6.heap.size,4,none⟩ (.int .i64 gl)).setCell ⟨w6.heap.size,5,none⟩ (.int .i64 gh)).setCell ⟨w6.heap.size,6,none⟩ (.slice a1 n1 c1)).setCell ⟨w6.heap.size,7,none⟩ (.slice a2 n2 c2)));rw[<-hw];have QV:Hid (Below wr.heap.size wr w9):=hid OB;have Al:Hid (w9.heap[w6.heap.size]?=some (.cells #[.string gn,.string go,.string gu,.int .i64 gk,.int .i64 gl,.int .i64 gh,.slice a1 n1 c1,.slice a2 n2 c2] 46 (0,0))):=hid (by rw[hw];exact HS.out.1);exact QU
  ·obtain rfl:k=2:=by omega
   obtain⟨⟨z0,z1,z2,z3,z4⟩, -⟩:=mE (HR.out wr kE.out);go_wp2_with fail;refine(IG _ _ _ _ _ _ _ _ _ _ (World.alloc _ _) rfl rfl rfl (by first|rfl|exact hes) (aW _ _ rfl)).mono ?_;rintro e wz ⟨rfl,hbz⟩;have Ba:Hid (BL w wz):=hid ((jF.out.alloc jF.out.size _).trans (hbz.mono (by have:=jF.out.size;simp;omega)));exact KR
def wW(k:Int):Option Nat:=
 if k=0 then some 216 else if k=1 then some 217 else if k=4 then some 218 else if k=5 then some 219 else if k=6 then some 221
 else if k=7 then some 223 else if k=8 then some 225 else none
def Mt(k:Int):Value:=match wW k with
 |some fo=>.agg #[.func (.func fo) #[] #[]]
 |none=>.agg #[.nilFunc]
structure TabC(b:Nat)(w:World):Prop where
 glob:w.cell? ⟨0,0,none⟩=some (.map (some b))
 lt:b<w.heap.size
 look:∀(W:World),W.heap[b]?=w.heap[b]?->∀k:Int,0<=k->k<=8->(Instr.lookup 108 (.map (some b)) (.int .i64 k) true).run Tryz.prog W=.ok (.tuple #[Mt k,.bool (wW k).isSome]) W
theorem TabC.below{b B:Nat}{w w':World}(h:TabC b w)(hb:Below B w w')(hB:b<B)(h0:0<B):TabC b w':=
 ⟨(hb.cell (p:=⟨0,0,none⟩) h0).trans h.glob,lg h.lt hb.size,fun W hW=>h.look W (hW.trans (hb.block _ hB))⟩
theorem Fw{f:ah.cD}(h:ah.cV f=true):0<=f.kind/\f.kind<=8:=by
 unfold ah.cV at h;simp only[pF] at h;have h2:=h.2;unfold ah.lG at h2;repeat' split at h2
 all_goals first|omega|simp at h2
theorem U4{x:ah.cA}{i j:Int}(h0:0<=i)(h1:i<x.aA.length)(h2:0<=j)(h3:j<(ah.kd x i).aG.length):ah.hasB x i j=true:=by
 unfold ah.hasB;rw[decide_eq_true h0,decide_eq_true h1,decide_eq_true h2,decide_eq_true h3];rfl
theorem Ca{x:ah.cA}{i j:Int}{f:ah.cD}(hu:0<=ah.dI x i j)(h:¬ah.xU x i j f=none):ah.hasB x (ah.dI x i j) (jv x i j f)=true/\ah.mW x i j f=jC x (ah.dI x i j) (jv x i j f):=by
 unfold ah.mW;unfold ah.xU at h ⊢;rw[if_neg aB] at h ⊢;by_cases hb:ah.hasB x (ah.dI x i j) (ah.bJ (ah.kd x (ah.dI x i j)) f.of)=true
 ·refine⟨hb,?_⟩
  rw[if_pos hb];unfold jC jv;rw[if_pos hb];rfl
 ·rw[if_neg hb] at h
  exact absurd rfl h
theorem U5(x:ah.cA)(i j:Nat)(hi:i<x.aA.length)(hj:j<(ah.kd x i).aG.length)(h0:ah.xV x i j=0)(h6:x.aA.length<=1000)(h10:∀k∈x.aA,k.aG.length<=1000)(fo:Nat)(hf:wW (ah.fd x i j).kind=some fo)
  (ak al ar:Option Addr)(ck cl cr:Nat)(uw ug:Value)(S:Nat->Prop)(w:World)(hv:d9 S w (.agg #[.int .i64 x.aL,.slice ak x.aA.length ck,.slice al x.aP.length cl,.slice ar x.aR.length cr]) x):
  Calls Tryz.prog fo #[.agg (iZ x.aL ak x.aA.length ck al x.aP.length cl ar x.aR.length cr i j (ah.fd x i j) uw ug).toArray] w fun e w'=>e=.returned (.int .i64 0)/\BL w w':=by
 have hi':(0:Int)<=i/\(i:Int)<x.aA.length:=⟨aB,aB⟩;unfold ah.xV at h0;simp only at h0;unfold wW at hf;by_cases k0:(ah.fd x i j).kind=0
 ·rw[if_pos k0] at hf h0
  cases hf
  exact II x i j _ ak al ar ck cl cr uw ug S w hv (by
   by_cases hj0:(0:Int)<j
   ·rw[if_pos hj0] at h0;omega
   ·omega)
 rw[if_neg k0] at hf h0;by_cases k1:(ah.fd x i j).kind=1
 ·rw[if_pos k1] at hf h0
  cases hf
  exact IJ x i j _ ak al ar ck cl cr uw ug S w hv (by
   by_cases hu:ah.dI x i j<0
   ·rw[if_pos hu] at h0;omega
   ·omega)
 rw[if_neg k1] at hf h0;by_cases k4:(ah.fd x i j).kind=4
 ·rw[if_pos k4] at hf h0
  cases hf;refine IQ x i j _ ak al ar ck cl cr uw ug S w hv hi' ?_;by_cases hn:(ah.fd x i j).of=ah.nil
  ·exact .inl hn
  ·right
   by_cases hc:ah.bJ (ah.kd x i) (ah.fd x i j).of<0\/(j:Int)<=ah.bJ (ah.kd x i) (ah.fd x i j).of\/¬(ah.fd x i (ah.bJ (ah.kd x i) (ah.fd x i j).of)).kind=4
   ·rw[if_pos ⟨hn,hc⟩] at h0;omega
   ·have h1:0<=ah.bJ (ah.kd x i) (ah.fd x i j).of:=by
     by_cases h:ah.bJ (ah.kd x i) (ah.fd x i j).of<0
     ·exact absurd (.inl h) hc
     ·omega
    have h2:ah.bJ (ah.kd x i) (ah.fd x i j).of<j:=by
     by_cases h:(j:Int)<=ah.bJ (ah.kd x i) (ah.fd x i j).of
     ·exact absurd (.inr (.inl h)) hc
     ·omega
    refine⟨h1,h2,?_⟩;rw[sS (U4 hi'.1 hi'.2 h1 aB)];exact Classical.not_not.1 fun h=>hc (.inr (.inr h))
 rw[if_neg k4] at hf h0;by_cases k5:(ah.fd x i j).kind=5
 ·rw[if_pos k5] at hf h0
  cases hf
  exact IK x i j _ ak al ar ck cl cr uw ug S w hv (by
   by_cases hu:ah.J7 x (ah.fd x i j).of=true
   ·exact hu
   ·rw[if_neg hu] at h0;omega)
 rw[if_neg k5] at hf h0;by_cases k6:(ah.fd x i j).kind=6
 ·rw[if_pos k6] at hf h0
  cases hf;by_cases ho:ah.iP x i (ah.fd x i j)<0
  ·rw[if_pos ho] at h0;omega
  rw[if_neg ho] at h0;by_cases hs:(ah.iQ x i (ah.fd x i j)).length≠1
  ·rw[if_pos hs] at h0;omega
  exact IL x i j _ ak al ar ck cl cr uw ug S w hv hi'.1 aB aB h6 h10
 rw[if_neg k6] at hf h0;by_cases k7:(ah.fd x i j).kind=7
 ·rw[if_pos k7] at hf h0
  cases hf;by_cases hu:ah.dI x i j<0
  ·rw[if_pos hu] at h0;omega
  rw[if_neg hu] at h0;by_cases hc:ah.xU x i j (ah.fd x i j)=none\/(ah.mW x i j (ah.fd x i j)).kind≠6\/ah.cL x (ah.mW x i j (ah.fd x i j)).of≠i
  ·rw[if_pos hc] at h0;omega
  obtain⟨t1,t2⟩:=Ca (f:=ah.fd x i j) aB (fun h=>hc (.inl h));exact IU x i j _ ak al ar ck cl cr uw ug S w hv hi' aB t1 (by rw[<-t2];exact Classical.not_not.1 fun h=>hc (.inr (.inl h))) (by rw[<-t2];exact Classical.not_not.1 fun h=>hc (.inr (.inr h)))
 rw[if_neg k7] at hf h0;by_cases k8:(ah.fd x i j).kind=8
 ·rw[if_pos k8] at hf h0
  cases hf;by_cases hu:ah.dI x i j<0
  ·rw[if_pos hu] at h0;omega
  rw[if_neg hu] at h0;by_cases hc:ah.xU x i j (ah.fd x i j)=none\/¬((ah.mW x i j (ah.fd x i j)).kind=2\/(ah.mW x i j (ah.fd x i j)).kind=3\/(ah.mW x i j (ah.fd x i j)).kind=4\/(ah.mW x i j (ah.fd x i j)).kind=5\/(ah.mW x i j (ah.fd x i j)).kind=8)
  ·rw[if_pos hc] at h0;omega
  obtain⟨t1,t2⟩:=Ca (f:=ah.fd x i j) aB (fun h=>hc (.inl h));exact IV x i j _ ak al ar ck cl cr uw ug S w hv hi' aB t1 (by rw[<-t2];exact Classical.not_not.1 fun h=>hc (.inr h))
 rw[if_neg k8] at hf;cases hf
theorem IY{k:Int}{fo:Nat}(h:wW k=some fo):∀args w,(callFunc fo args).run Tryz.prog w=.ok (.enter fo args) w:=by
 unfold wW at h;split at h
 ·cases h;exact bH Tryz.func216 (by kernel_rfl) rfl
 split at h
 ·cases h;exact bH Tryz.func217 (by kernel_rfl) rfl
 split at h
 ·cases h;exact bH Tryz.func218 (by kernel_rfl) rfl
 split at h
 ·cases h;exact bH Tryz.func219 (by kernel_rfl) rfl
 split at h
 ·cases h;exact bH Tryz.func221 (by kernel_rfl) rfl
 split at h
 ·cases h;exact bH Tryz.func223 (by kernel_rfl) rfl
 split at h
 ·cases h;exact bH Tryz.func225 (by kernel_rfl) rfl
 ·cases h
theorem sU(a b c:Int)(g:Nat)(w:World):
  Calls Tryz.prog 42 #[.int .i64 a,.int .i64 b,.int .i64 c,.int .i64 0,.pointer (some ⟨g,0,none⟩)] w fun e w'=>e=.returned (.tuple #[])/\w=w':=by
 go_enter Tryz.func42,Tryz.ntmps42;go_wp2;go_end0;exact⟨rfl,rfl⟩
theorem Mu(nm s:ByteArray)(u1 u2:Value)(b:Nat)(w:World)(hb:w.cell? ⟨b,0,none⟩=some (.string s)):
  Calls Tryz.prog 44 #[.agg #[.string nm,u1,u2],.pointer (some ⟨b,0,none⟩)] w fun e w'=>e=.returned (.bool (decide (nm=s)))/\BL w w':=by
 have hz:b<w.heap.size:=Ae w ⟨b,0,none⟩ hb;have HD:Hid ((nm.toList==s.toList)=decide (nm=s)):=hid GV;go_enter Tryz.func44,Tryz.ntmps44;exact Fg
theorem Mv{x:ah.cA}(h:ah.okB x=true){i:Nat}(hi:i<x.aP.length):(x.aP.take i).any (fun l=>decide (l.name=x.aP[i].name))=false:=by
 unfold ah.okB at h;simp only[pF,qZ,List.all_eq_true,List.mem_range] at h;have h2:=h.1.1.2 i hi;unfold ah.Ev at h2;rw[lE hi] at h2;simp only[Option.map_some,Option.some.injEq] at h2;cases hc:(x.aP.take i).any (fun l=>decide (l.name=x.aP[i].name)) with
 |false=>rfl
 |true=>rw[hc] at h2;simp at h2
theorem Mw{x:ah.cA}(h:ah.okB x=true){i:Nat}(hi:i<x.aR.length):ah.xX x i=0:=by
 unfold ah.okB at h;simp only[pF,qZ,List.all_eq_true,List.mem_range] at h;exact h.2 i hi
theorem vW{x:ah.cA}{k:Int}{s:ah.Nm}(hk:0<=k)(h1:¬(ah.sq x k s).1=true)(h2:¬(ah.sq x k s).2=true):
  s=ah.nil\/(ah.hasB x k (ah.bJ (ah.kd x k) s)=true/\((jC x k (ah.bJ (ah.kd x k) s)).kind=2\/(jC x k (ah.bJ (ah.kd x k) s)).kind=4)):=by
 by_cases hs:s=ah.nil
 ·exact .inl hs
 ·unfold ah.sq at h1 h2
  have hc:¬(s=ah.nil\/k<0):=fun h=>h.elim hs aB;rw[if_neg hc] at h1 h2;simp only at h1 h2
  have hb:ah.hasB x k (ah.bJ (ah.kd x k) s)=true:=by
   cases hb:ah.hasB x k (ah.bJ (ah.kd x k) s)
   ·rw[hb] at h1;exact absurd rfl h1
   ·rfl
  refine .inr ⟨hb,?_⟩;rw[sS hb];rw[if_pos hb] at h2;simp only[pF,qZ] at h2;by_cases h3:(ah.fd x k (ah.bJ (ah.kd x k) s)).kind=2
  ·exact .inl h3
  ·exact .inr (Classical.not_not.1 fun h4=>h2 ⟨h3,h4⟩)
theorem IZ{x:ah.cA}{i:Nat}(h:ah.xX x i=0):(x.aR.take i).any (fun s=>decide (s.name=(ah.rl x i).name))=false/\0<=ah.cL x (ah.rl x i).kind/\
  (∀s,s=(ah.rl x i).a\/s=(ah.rl x i).b->s=ah.nil\/(ah.hasB x (ah.cL x (ah.rl x i).kind) (ah.bJ (ah.kd x (ah.cL x (ah.rl x i).kind)) s)=true/\((jC x (ah.cL x (ah.rl x i).kind) (ah.bJ (ah.kd x (ah.cL x (ah.rl x i).kind)) s)).kind=2\/(jC x (ah.cL x (ah.rl x i).kind) (ah.bJ (ah.kd x (ah.cL x (ah.rl x i).kind)) s)).kind=4)))/\¬(ah.rl x i).a=(ah.rl x i).b:=by
 unfold ah.xX at h;simp only at h;split at h
 ·omega
 rename_i h1;split at h
 ·omega
 rename_i h2;split at h
 ·omega
 rename_i h3;split at h
 ·omega
 rename_i h4
 have hk:0<=ah.cL x (ah.rl x i).kind:=by
  by_cases hk:ah.cL x (ah.rl x i).kind<0
  ·exact absurd (.inl hk) h2
  ·omega
 refine⟨AF,hk,fun s hs=>?_,h4⟩;rcases hs with rfl|rfl
 ·exact vW hk (fun e=>h2 (.inr (.inl e))) (fun e=>h3 (.inl e))
 ·exact vW hk (fun e=>h2 (.inr (.inr e))) (fun e=>h3 (.inr e))
theorem Mx{k:Int}{fo:Nat}(h:wW k=some fo):Mt k=.agg #[.func (.func fo) #[] #[]]:=by unfold Mt;rw[h]
theorem My{k:Int}(h:wW k=none):Mt k=.agg #[.nilFunc]:=by unfold Mt;rw[h]
theorem Fx{x:ah.cA}{i j:Int}(h:ah.nZ x i j=0):¬ah.bJ (ah.kd x i) (ah.fd x i j).name<j/\ah.xV x i j=0:=by
 unfold ah.nZ at h;split at h
 ·omega
 ·rename_i h1;exact⟨h1,h⟩
theorem mA{x:ah.cA}{i:Nat}(h:ah.xW x i=0):¬ah.cL x (ah.kd x i).name<i/\0<(ah.kd x i).aG.length/\(ah.fd x i 0).kind=0:=by
 unfold ah.xW at h;split at h
 ·omega
 rename_i h1;split at h
 ·omega
 rename_i h2;refine⟨h1,?_,Classical.not_not.1 fun h3=>h2 (.inr h3)⟩;by_cases h0:(ah.kd x i).aG.length=0
 ·exact absurd (.inl h0) h2
 ·omega
theorem yV(x:ah.cA)(hok:ah.okB x=true)(v:Value)(S:Nat->Prop)(tb:Nat)(w:World)(hv:d9 S w v x)(D1:LaidW w)(htb:TabC tb w):
  Calls Tryz.prog 18 #[v] w fun e w'=>e=.returned (.slice none 0 0)/\BL w w':=by
 obtain⟨hxv,hxk⟩:=bV.qn hok;obtain⟨v6,vl6,vr16,vK⟩:=bV.pY hxv;have h6:x.aA.length<=1000:=aB
 have h10:∀k∈x.aA,k.aG.length<=1000:=fun k hk=>by have:=(bV.lN (vK k hk)).1;omega
 obtain⟨ak,ck,al,cl,ar,cr,rfl,hk,hl,hr,hsk,hsl,hsr⟩:=hv.form;have HV:=hid (fun(W:World) (hW:BL w W)=>hv.keep (aD.below hW));have U6:=hid (fun(W:World) (hW:BL w W)=>htb.below hW htb.lt (by have:=D1.size;omega));obtain⟨w1,hw1⟩:=bB (dP w x.aL (.slice ak x.aA.length ck) (.slice al x.aP.length cl) (.slice ar x.aR.length cr));have bT:=wS hw1;have HX:=Hl hw1;unfold dP at hw1;have HW1:=hid hw1;clear hw1;have QW:=hid (wV x hxv _ S w1 (HV.out w1 bT.out) (D1.next bT.out));have XS:=hid hk;have HHL:=hid hl;have HHR:=hid hr;have HOK:=hid hok;have HXK:=hid hxk;have HVK:=hid vK;have hcl:x.aP.length<=cl/\cl<=9223372036854775807:=by obtain⟨_,_,e, -,g1,g2⟩:=hl.form;cases e;exact⟨g1,g2⟩
 clear hk hl hr hv D1 htb hok hxk vK;have mI:=bH Tryz.func42 (by kernel_rfl) rfl;obtain⟨⟨y0,y1,y2,y3⟩, -⟩:=bC (HX.out w1 aF);go_enter Tryz.func18,Tryz.ntmps18;go_upto_region 1 with fail;rw[<-HW1.out];go_wp2_with fail;refine QW.out.mono ?_;rintro e w2 ⟨rfl,hb2⟩;have iE:Hid (BL w1 w2):=hid hb2;clear hb2 y0 y1 y2 y3 QW;obtain⟨w3,hw3⟩:=bB (w2.alloc (.cells #[.slice none 0 0] 66));have jB:Hid (Below w1.heap.size w1 w3):=hid Lm;have HO:Hid (∀W,BL w3 W->W.heap[w2.heap.size]?=some (.cells #[.slice none 0 0] 66 (0,0))):=hid (fun W hW=>(hW.block _ (by rw[hw3];simp)).trans (by rw[hw3];exact aW _ _ rfl));have cE:Hid (∀W,BL w3 W->BL w W):=hid (fun W hW=>cG bT.out (cG jB.out hW));have LQ:Hid (∀W,BL w3 W->W.heap[w.heap.size]?=some (.cells #[.int .i64 x.aL,.slice ak x.aA.length ck,.slice al x.aP.length cl,.slice ar x.aR.length cr] 27 (0,0))):=hid (fun W hW=>HX.out W (cG jB.out hW));have HW3:=hid hw3;clear hw3 HX bT iE jB;go_upto_region 5 with fail;rw[<-HW3.out];obtain⟨⟨y0,y1,y2,y3⟩, -⟩:=bC (LQ.out w3 aF);go_wp2;clear y0 y1 y2 y3;go_loopw [28] (fun i wr=>∃k:Nat,k<=x.aP.length/\i=.int .i64 k/\Hid (BL w3 wr)) (fun i _=>x.aP.length-(intOf i).toNat);case atStart=>exact⟨0,Nat.zero_le _,rfl,hid aF⟩
 case round=>
  obtain⟨k,hk,rfl,kE⟩:=hrel;by_cases hlt:k<x.aP.length
  ·have hk0:(0:Int)<=(k:Int):=by omega
   have hk1:(k:Int)<(x.aP.length:Int):=aB
   have hle:(k:Int)<=cl:=aB
   obtain⟨hzl, -,l0,u1,u2,l1,l2,hu1,mU⟩:=sA.at (dQ.keep cW HHL.out (aD.below (cE.out wr kE.out))) hlt;obtain⟨oA,cs,rfl, -, -, -⟩:=hu1.form;obtain⟨am,cm,rfl, -, -, -⟩:=mU.form;clear hu1 mU;have HA:=hid (Mv HOK.out hlt);have HLv:=hid (fun(W:World) (hW:BL w W)=>dQ.take (dQ.keep cW HHL.out (aD.below hW)) (k:=k) aB);generalize x.aP[k]=lf at*;obtain⟨ln,lss,lms⟩:=lf;simp only at l0 l1 l2 HA;generalize lss.length=n1 at*;generalize lms.length=n2 at*;have kE:=kE;obtain⟨w4,hw⟩:=bB (wr.alloc (.cells #[.string ln,.slice oA n1 cs,.slice am n2 cm] 58));have lW:Hid (Below w3.heap.size w3 w4):=hid Tx;have HN4:Hid (∀W,BL w4 W->W.heap[wr.heap.size]?=some (.cells #[.string ln,.slice oA n1 cs,.slice am n2 cm] 58 (0,0))):=hid (fun W hW=>(hW.block _ Ei).trans Ed);have Bb:=hid hw;clear hw;have hz4:wr.heap.size<w4.heap.size:=aC (HN4.out w4 aF)
   have Dm:=hid (Dh cW (x.aP.take k) (fun l:ah.DV=>decide (l.name=ln)) _ S w4 (HLv.out w4 (cE.out w4 lW.out)) 44 #[.pointer (some ⟨wr.heap.size,0,none⟩)] (bH Tryz.func44 (by kernel_rfl) rfl) (fun X hX j hj us _ hu=>by
    obtain⟨u1,u2,rfl, -, -⟩:=hu;exact Mu _ ln u1 u2 _ X (aN (HN4.out X hX) 0)))
   rw[HA.out] at Dm;go_upto_region 9 with fail;rw[<-Bb.out];clear l0 l1 l2;obtain⟨⟨y0,y1,y2,y3⟩, -⟩:=bC (LQ.out w4 lW.out);go_wp2_with fail;refine Dm.out.mono ?_;rintro e w5 ⟨rfl,hb⟩;have jI:=aU lW hb;clear hb;clear y0 y1 y2 y3;go_wp2_with fail;refine(lS _ _ _ _ (World.alloc _ _) (by rfl) (aW _ _ rfl)).mono ?_;rintro e w6 ⟨rfl,hb⟩;have Fl:Hid (BL w3 w6):=hid ((jI.out.alloc jI.out.size _).trans (hb.mono (by have:=jI.out.size;simp;omega)));clear hb;go_wp2_with fail;refine(sU _ _ _ _ _).mono ?_;rintro e wy ⟨rfl,rfl⟩;go_wp2;go_roundw;case rel=>exact⟨k+1,aB,by go_num,Fl⟩
   simp[intOf];omega
  ·obtain rfl:k=x.aP.length:=by omega
   have vR:=kE;obtain⟨⟨y0,y1,y2,y3⟩, -⟩:=bC (LQ.out wr kE.out);go_wp2;clear y0 y1 y2 y3;generalize hW0:wr=W0 at*;go_loopw [50] (fun i wr=>∃k:Nat,k<=x.aA.length/\i=.int .i64 k/\Hid (BL w3 wr)) (fun i _=>x.aA.length-(intOf i).toNat);case atStart=>exact⟨0,Nat.zero_le _,rfl,kE⟩
   case round=>
    obtain⟨k,hk,rfl,kE⟩:=hrel;by_cases hlt:k<x.aA.length
    ·have hk0:(0:Int)<=(k:Int):=by omega
     have hk1:(k:Int)<(x.aA.length:Int):=aB
     obtain⟨nK, -,k0,k1,k2,uf,k3,kT⟩:=gU.at (gU.keep XS.out (aD.below (cE.out wr kE.out))) hlt;obtain⟨af,cf,rfl,hsf, -, -⟩:=kT.form;have rI:Hid (∀W,BL wr W->dh S W (.slice af x.aA[k].aG.length cf) x.aA[k].aG):=hid (fun W hW=>kT.keep (aD.below hW));have HXk:=hid (HXK.out k hlt);have HKE:=hid (fun(W:World) (hW:BL w W)=>IW x k _ S W (HV.out W hW) hlt (mA HXk.out.1).1 (mA HXk.out.1).2.1 (mA HXk.out.1).2.2);have p9:Hid (ah.kd x k=x.aA[k]):=hid (dU hlt);have HFB:Hid (∀f∈x.aA[k].aG,ah.cV f=true):=hid (bV.lN (HVK.out _ (gm hlt))).2;have D2:Hid (∀(j:Nat) (h:j<x.aA[k].aG.length),ah.fd x k j=x.aA[k].aG[j]):=hid (fun j h=>nA hlt h);have HFP:Hid (∀j:Nat,j<x.aA[k].aG.length->ah.nZ x k j=0):=hid (fun j hj=>HXk.out.2 j (by rw[p9.out];exact hj));clear kT HXk;have A9:x.aA[k].aG.length<=1000:=h10 _ (gm hlt);have HCk:=hid (fun(j:Nat) (hj:j<(ah.kd x k).aG.length) (h0:ah.xV x k j=0) (fo:Nat) (hf:wW (ah.fd x k j).kind=some fo) (uw ug:Value) (W:World) (hW:BL w W)=>U5 x k j hlt hj h0 h6 h10 fo hf ak al ar ck cl cr uw ug S W (HV.out W hW));rw[p9.out] at HCk;generalize QX:x.aA[k]=kq at*;obtain⟨kn,BZ,B6,A8⟩:=kq;have HKq2:=hid QX;clear QX;simp only at k0 k1 k2 k3 hsf rI HFB HFP A9;obtain⟨nf,hnf⟩:=bB A8.length;have Ej:=hid hnf;rw[<-hnf] at k3 hsf rI A9;clear hnf;obtain⟨w4,hw⟩:=bB (wr.alloc (.cells #[.string kn,.int .i64 BZ,.int .i64 B6,.slice af nf cf] 49));have lW:Hid (Below w3.heap.size w3 w4):=hid Tx;have HN4:Hid (∀W,BL w4 W->W.heap[wr.heap.size]?=some (.cells #[.string kn,.int .i64 BZ,.int .i64 B6,.slice af nf cf] 49 (0,0))):=hid (fun W hW=>(hW.block _ Ei).trans Ed);have Bb:=hid hw;clear hw;go_upto_region 15 with fail;rw[<-Bb.out];clear k0 k1 k2 k3;obtain⟨⟨y0,y1,y2,y3⟩, -⟩:=bC (LQ.out w4 lW.out);go_wp2_with fail;refine(HKE.out w4 (cE.out w4 lW.out)).mono ?_;rintro e w5 ⟨rfl,hb⟩;have Ua:Hid (BL w4 w5):=hid hb;have jI:=aU lW hb;clear hb;clear y0 y1 y2 y3;go_wp2_with fail;refine(sU _ _ _ _ _).mono ?_;rintro e wy ⟨rfl,rfl⟩;obtain⟨⟨c0,c1,c2,c3⟩, -⟩:=bC (HN4.out w5 Ua.out);go_wp2;clear c0 c1 c2 c3;have HMr:Hid (BL wr w5):=hid ((by rw[Bb.out];exact aF.alloc aH _:BL wr w4).trans (Ua.out.mono (by rw[Bb.out];simp)));have ac9:Hid (∀W,BL w5 W->dh S W (.slice af nf cf) A8):=hid (fun W hW=>rI.out W (cG HMr.out hW));have KT:Hid (∀W,BL w5 W->W.heap[wr.heap.size]?=some (.cells #[.string kn,.int .i64 BZ,.int .i64 B6,.slice af nf cf] 49 (0,0))):=hid (fun W hW=>HN4.out W (cG Ua.out hW));have o6:Hid (∀W,BL w5 W->BL w3 W):=hid (fun W hW=>cG jI.out hW);generalize I3:wr=Wb at*;go_loopw [64] (fun i wr=>∃j:Nat,j<=nf/\i=.int .i64 j/\Hid (BL w5 wr)) (fun i _=>nf-(intOf i).toNat);case atStart=>exact⟨0,Nat.zero_le _,rfl,hid aF⟩
     case round=>
      obtain⟨j,hj,rfl,HJr⟩:=hrel;by_cases hjt:j<nf
      ·have hj0:(0:Int)<=(j:Int):=by omega
       have hj1:(j:Int)<(nf:Int):=aB
       have rP:j<A8.length:=TI
       obtain⟨Iz, -,f0,f1,f2,f3,f4,f5,uw,ug,f6,f7,Ai,hgs⟩:=dh.at (ac9.out wr HJr.out) rP;obtain⟨aw,cw,rfl, -, -, -⟩:=Ai.form;obtain⟨ag,cg,rfl, -, -, -⟩:=hgs.form;clear Ai hgs;have kE:Hid (BL w3 wr):=hid (o6.out wr HJr.out);have hfe:=Fx (HFP.out j rP);rw[show ah.kd x k=⟨kn,BZ,B6,A8⟩ from p9.out,D2.out j rP] at hfe;have HFE:=hid hfe;have HC:=hid (fun(fo:Nat) (hf:wW (A8[j]).kind=some fo) (uw ug:Value) (W:World) (hW:BL w W)=>by have:=HCk.out j rP hfe.2 fo (by rw[D2.out j rP];exact hf) uw ug W hW;rw[D2.out j rP] at this;exact this);have NX:=Fw (HFB.out _ (gm rP));have HFi:=hid (fun(s:ByteArray) (W:World) (hW:BL w5 W)=>lQ ⟨kn,BZ,B6,A8⟩ s (.slice af nf cf) S W (ac9.out W hW));simp only[kH] at HFi;clear hfe;generalize A8[j]=g at*;obtain⟨gn,go,gu,gk,gl,gh,D6,ggs⟩:=g;simp only at f0 f1 f2 f3 f4 f5 f6 f7 HFE NX HC;generalize D6.length=nw at*;generalize ggs.length=ng at*;have HFn:=hid (HFi.out gn);obtain⟨hq1, -⟩:=HFE.out;generalize ah.bJ ⟨kn,BZ,B6,A8⟩ gn=fz at*;have U7:=decide_eq_false hq1;clear HFi;obtain⟨w6,hw⟩:=bB (wr.alloc (.cells #[.string gn,.string go,.string gu,.int .i64 gk,.int .i64 gl,.int .i64 gh,.slice aw nw cw,.slice ag ng cg] 46));have Fl:Hid (Below w3.heap.size w3 w6):=hid Tx;have HN6:Hid (∀W,BL w6 W->W.heap[wr.heap.size]?=some (.cells #[.string gn,.string go,.string gu,.int .i64 gk,.int .i64 gl,.int .i64 gh,.slice aw nw cw,.slice ag ng cg] 46 (0,0))):=hid (fun W hW=>(hW.block _ Ei).trans Ed);have Ar:=hid hw;clear hw;have HJ6:Hid (Below w5.heap.size w5 w6):=hid (by rw[Ar.out];exact HJr.out.alloc HJr.out.size _);go_upto_region 19 with fail;rw[<-Ar.out];clear f0 f1 f2 f3 f4 f5 f6 f7;obtain⟨⟨f0,f1,f2,f3,f4,f5,f6,f7⟩, -⟩:=dK (HN6.out w6 aF);obtain⟨⟨c0,c1,c2,c3⟩, -⟩:=bC (KT.out w6 HJ6.out);go_wp2_with fail;refine(HFn.out w6 HJ6.out).mono ?_;rintro e w7 ⟨rfl,hb⟩;have HM7:Hid (BL w6 w7):=hid hb;have Dn:=aU Fl hb;clear hb;clear f0 f1 f2 f3 f4 f5 f6 f7 c0 c1 c2 c3;go_wp2_with fail;refine(lS _ _ _ _ (World.alloc _ _) (by first|rfl|exact U7) (aW _ _ rfl)).mono ?_;rintro e w8 ⟨rfl,hb⟩;have HL8:Hid (BL w3 w8):=hid ((Dn.out.alloc Dn.out.size _).trans (hb.mono (by have:=Dn.out.size;simp;omega)));have SY:Hid (BL w6 w8):=hid ((HM7.out.alloc HM7.out.size _).trans (hb.mono (by have:=HM7.out.size;simp;omega)));clear hb;obtain⟨⟨f0,f1,f2,f3,f4,f5,f6,f7⟩, -⟩:=dK (HN6.out w8 SY.out);have KU:=hid (U6.out w8 (cE.out w8 HL8.out));have hgl:=KU.out.glob;have hlk:=KU.out.look w8 rfl gk NX.1 NX.2;go_upto_region 20 with fail;cases hcf:wW gk with
       |none=>
        rw[My hcf,hcf] at hlk
        have HJn:Hid (∀o,BL w5 (w8.alloc o)):=hid (fun o=>cG HJ6.out (SY.out.alloc SY.out.size _))
        clear hcf HC
        simp only[Option.isSome_none] at hlk
        go_wp2_with fail
        refine(sU _ _ _ _ _).mono ?_
        rintro e wy ⟨rfl,rfl⟩
        go_wp2
        go_roundw
        case rel=>exact⟨j+1,aB,by go_num,hid (HJn.out _)⟩
        simp[intOf];omega
       |some fo=>
        rw[Mx hcf,hcf] at hlk
        have hfo:=IY hcf
        have HC2:=hid (HC.out fo hcf)
        clear hcf HC
        simp only[Option.isSome_some] at hlk
        obtain⟨w9,hw⟩:=bB (w8.alloc (.cells #[.func (.func fo) #[] #[]] 106))
        have XT:Hid (Below w3.heap.size w3 w9):=hid (by rw[hw];exact HL8.out.alloc HL8.out.size _)
        have HN9:Hid (∀W,BL w9 W->W.heap[w8.heap.size]?=some (.cells #[.func (.func fo) #[] #[]] 106 (0,0))):=hid (fun W hW=>(hW.block _ Ei).trans Ed)
        have HW9:=hid hw
        clear hw
        have Uf:Hid (Below w6.heap.size w6 w9):=hid (by rw[HW9.out];exact SY.out.alloc SY.out.size _)
        go_upto_region 21 with fail
        rw[<-HW9.out]
        clear hlk hgl f0 f1 f2 f3 f4 f5 f6 f7
        obtain⟨⟨f0,f1,f2,f3,f4,f5,f6,f7⟩, -⟩:=dK (HN6.out w9 Uf.out)
        obtain⟨⟨y0,y1,y2,y3⟩, -⟩:=bC (LQ.out w9 XT.out)
        have d0:w9.cell? ⟨w8.heap.size,0,none⟩=some (.func (.func fo) #[] #[]):=aN (HN9.out w9 aF) 0
        have HCC:=hid (HC2.out (.slice aw nw cw) (.slice ag ng cg) w9 (cE.out w9 XT.out))
        simp only[iZ] at HCC
        go_wp2_with fail
        refine HCC.out.mono ?_
        rintro e lX ⟨rfl,hb⟩
        have HJ10:Hid (BL w5 lX):=hid (cG HJ6.out (cG Uf.out hb))
        clear hb y0 y1 y2 y3 d0 f0 f1 f2 f3 f4 f5 f6 f7
        go_wp2_with fail
        refine(sU _ _ _ _ _).mono ?_
        rintro e wy ⟨rfl,rfl⟩
        go_wp2
        go_roundw
        case rel=>exact⟨j+1,aB,by go_num,HJ10⟩
        simp[intOf];omega
      ·obtain rfl:j=nf:=by omega
       go_wp2;go_roundw;case rel=>exact⟨k+1,aB,by go_num,hid (o6.out wr HJr.out)⟩
       simp[intOf];omega
    ·obtain rfl:k=x.aA.length:=by omega
     have vR:=kE;obtain⟨⟨y0,y1,y2,y3⟩, -⟩:=bC (LQ.out wr kE.out);go_wp2;clear y0 y1 y2 y3;generalize hW0:wr=W0 at*;go_loopw [108] (fun i wr=>∃k:Nat,k<=x.aR.length/\i=.int .i64 k/\Hid (BL w3 wr)) (fun i _=>x.aR.length-(intOf i).toNat);case atStart=>exact⟨0,Nat.zero_le _,rfl,kE⟩
     case round=>
      obtain⟨k,hk,rfl,kE⟩:=hrel;by_cases hlt:k<x.aR.length
      ·have hk0:(0:Int)<=(k:Int):=by omega
       have hk1:(k:Int)<(x.aR.length:Int):=aB
       obtain⟨p1,p2,p3,p4⟩:=IZ (Mw HOK.out hlt);have HRE:=hid (IX x k _ S wr (HV.out wr (cE.out wr kE.out)) hlt p1 p2 p3 p4);clear p1 p2 p3 p4;obtain⟨⟨y0,y1,y2,y3⟩, -⟩:=bC (LQ.out wr kE.out);go_wp2_with fail;refine HRE.out.mono ?_;rintro e w5 ⟨rfl,hb⟩;have jI:=aU kE hb;clear hb;clear y0 y1 y2 y3;go_wp2_with fail;refine(sU _ _ _ _ _).mono ?_;rintro e wy ⟨rfl,rfl⟩;go_wp2;go_roundw;case rel=>exact⟨k+1,aB,by go_num,jI⟩
       simp[intOf];omega
      ·obtain rfl:k=x.aR.length:=by omega
       have o0:wr.cell? ⟨w2.heap.size,0,none⟩=some (.slice none 0 0):=aN (HO.out wr kE.out) 0;go_wp2;go_ret;exact⟨rfl,cE.out wr kE.out⟩
def Mz(_:Nat->Prop)(_:World)(us:List Value)(r:bV.Ref):Prop:=us=[.int .i64 (r.kind:Int),.int .i64 (r.field:Int),.int .i64 r.up,.int .i64 r.least]
theorem dM:cH Mz:=⟨fun h _=>h,fun h _=>h⟩
abbrev sV(B:Nat):=cU 4 Mz (fun _=>True) B 161
abbrev Cb(S:Nat->Prop):=dQ 4 (Mz S) S
theorem U8{a b c d:Int}:∀u∈[Value.int .i64 a,.int .i64 b,.int .i64 c,.int .i64 d],u.oneCell'=true:=by
 intro u hu;simp only[kD,GI,or_false] at hu;rcases hu with rfl|rfl|rfl|rfl<;>rfl
theorem Tryz.aay:jh Tryz.prog 154 161 4 32:=ji (z:=.agg #[.int .i64 0,.int .i64 0,.int .i64 0,.int .i64 0]) (by kernel_rfl) (by kernel_rfl) rfl aB aB
theorem cU.base{α:Type}{n:Nat}{RR:(Nat->Prop)->World->List Value->α->Prop}{S:Nat->Prop}{B B':Nat}{e:TypeId}{w:World}{v:Value}{xs:List α}(h:cU n RR S B e w v xs)(hB:B'<=B):cU n RR S B' e w v xs:=by
 obtain⟨j8,h1,h2,h3,h4⟩:=h;exact⟨j8,⟨h1.1,h1.2.imp id (fun⟨g,cap,cur,e1,e2,r⟩=>⟨g,cap,cur,e1,Nat.le_trans hB e2,r⟩)⟩,h2,h3,h4⟩
theorem Fy(x:ah.cA)(h6:x.aA.length<=6)(h10:∀k∈x.aA,k.aG.length<=10)(v:Value)(S:Nat->Prop)(w:World)(hv:d9 S w v x):
  Calls Tryz.prog 84 #[v] w fun e w'=>∃a c l,e=.returned (.slice a l.length c)/\l.length<=60/\l=bV.iN x/\sV w.heap.size w' (.slice a l.length c) l/\BL w w':=by
 obtain⟨ak,ck,al,cl,ar,cr,rfl,hk,hl,hr,hsk,hsl,hsr⟩:=hv.form;have HV:=hid (fun(W:World) (hW:BL w W)=>hv.keep (aD.below hW));have XS:=hid hk;have Mn:=hid (fun(i j:Nat) (W:World) (hW:BL w W)=>p8 x i j _ S W (HV.out W hW));obtain⟨w1,hw1⟩:=bB (dP w x.aL (.slice ak x.aA.length ck) (.slice al x.aP.length cl) (.slice ar x.aR.length cr));have bT:=wS hw1;have HX:=Hl hw1;unfold dP at hw1;have HW1:=hid hw1;clear hk hl hr hv hw1;obtain⟨⟨y0,y1,y2,y3⟩, -⟩:=bC (HX.out w1 aF);go_enter Tryz.func84,Tryz.ntmps84;go_upto_region 1 with fail;rw[<-HW1.out];go_wp2;clear y0 y1 y2 y3;go_loopw [3,11] (fun lv kk wr=>∃(k:Nat) (l:List bV.Ref) (a:Option Addr) (c:Nat),k<=x.aA.length/\kk=.int .i64 k/\lv=.slice a l.length c/\l.length<=10*k/\Hid (l=bV.qM x k)/\Hid (sV w1.heap.size wr (.slice a l.length c) l)/\Hid (BL w1 wr)) (fun _ kk _=>x.aA.length-(intOf kk).toNat);case atStart=>exact⟨0,[],none,0,Nat.zero_le _,rfl,rfl,aH,hid rfl,hid (cU.nil _ _ _ _ _ _),hid aF⟩
 case round=>
  obtain⟨k,l,a,c,hk,rfl,rfl,hll,IC,HO,HL⟩:=hrel;by_cases hlt:k<x.aA.length
  ·have hk0:(0:Int)<=(k:Int):=by omega
   have hk1:(k:Int)<(x.aA.length:Int):=aB
   have jF:=aU bT HL.out;obtain⟨nK, -,k0,k1,k2,uf,k3,kT⟩:=gU.at (gU.keep XS.out (aD.below jF.out)) hlt;obtain⟨-, -, -, -, -,uf',k3',Dl⟩:=gU.at XS.out hlt;have hzk':bL ak<w.heap.size:=by obtain⟨h, -⟩:=gU.at XS.out hlt;exact h
   have e:uf'=uf:=mM (((jF.out.cell (p:=⟨bL ak,bP ak+k*4+3,none⟩) hzk').trans k3').symm.trans k3);subst e;obtain⟨af,cf,rfl,hsf, -, -⟩:=Dl.form;have rI:Hid (∀W,BL w W->dh S W (.slice af x.aA[k].aG.length cf) x.aA[k].aG):=hid (fun W hW=>Dl.keep (aD.below hW));have p9:Hid (ah.kd x k=x.aA[k]):=hid (dU hlt);have D2:Hid (∀(j:Nat) (h:j<x.aA[k].aG.length),ah.fd x k j=x.aA[k].aG[j]):=hid (fun j h=>nA hlt h);have A9:x.aA[k].aG.length<=10:=h10 _ (gm hlt);clear kT Dl k3';generalize x.aA[k]=kq at*;obtain⟨kn,BZ,B6,fs⟩:=kq;simp only at k0 k1 k2 k3 hsf rI A9 D2;obtain⟨nf,hnf⟩:=bB fs.length;have Ej:=hid hnf;rw[<-hnf] at k3 hsf rI A9;clear hnf;obtain⟨w4,hw⟩:=bB (wr.alloc (.cells #[.string kn,.int .i64 BZ,.int .i64 B6,.slice af nf cf] 49));have lW:Hid (Below w1.heap.size w1 w4):=hid Zd;have HO4:Hid (sV w1.heap.size w4 (.slice a l.length c) l):=hid (by rw[hw];exact cU.below dM HO.out (aF.alloc aH _));have c3:w4.cell? ⟨wr.heap.size,3,none⟩=some (.slice af nf cf):=Y8
   have Bb:=hid hw;clear hw;go_upto_region 5 with fail;rw[<-Bb.out];clear k0 k1 k2 k3;go_wp2;clear c3;generalize I3:wr=Wb at*;go_loopw [3,19] (fun lv jj wr=>∃(j:Nat) (l:List bV.Ref) (a:Option Addr) (c:Nat),j<=nf/\jj=.int .i64 j/\lv=.slice a l.length c/\l.length<=10*k+j/\Hid (l=bV.qM x k++bV.mr x k j)/\Hid (sV w1.heap.size wr (.slice a l.length c) l)/\Hid (BL w1 wr)) (fun _ jj _=>nf-(intOf jj).toNat);case atStart=>exact⟨0,l,a,c,Nat.zero_le _,rfl,rfl,aB,hid (by rw[IC.out,bV.Hy,List.append_nil]),HO4,lW⟩
   case round=>
    obtain⟨j,l,a,c,hj,rfl,rfl,hll2,yS,xD,iE⟩:=hrel;by_cases hjt:j<nf
    ·have hj0:(0:Int)<=(j:Int):=by omega
     have hj1:(j:Int)<(nf:Int):=aB
     have rP:j<fs.length:=TI
     have jF:=aU bT iE.out;obtain⟨Iz, -,f0,f1,f2,f3,f4,f5,uw,ug,f6,f7,Ai,hgs⟩:=dh.at (rI.out wr jF.out) rP;obtain⟨aw,cw,rfl, -, -, -⟩:=Ai.form;obtain⟨ag,cg,rfl, -, -, -⟩:=hgs.form;clear Ai hgs;have KV:ah.fd x k j=fs[j]:=D2.out j rP;have HR1:Hid ((fs[j]).kind=1->bV.mr x k (j+1)=bV.mr x k j++[⟨k,j,ah.dI x k j,(fs[j]).lo⟩]):=hid (fun h=>by rw[bV.rG,bV.L0 (by rw[KV];exact h),KV]);have Te:Hid (¬(fs[j]).kind=1->bV.mr x k (j+1)=bV.mr x k j):=hid (fun h=>by rw[bV.rG,bV.Qj (by rw[KV];exact h),List.append_nil]);have HUj:=hid (Mn.out k j);clear KV;generalize fs[j]=g at*;obtain⟨gn,go,gu,gk,gl,gh,D6,ggs⟩:=g;simp only at f0 f1 f2 f3 f4 f5 f6 f7 HR1 Te;generalize D6.length=nw at*;generalize ggs.length=ng at*;generalize ah.dI x k j=uz at*;obtain⟨w5,hw⟩:=bB (wr.alloc (.cells #[.string gn,.string go,.string gu,.int .i64 gk,.int .i64 gl,.int .i64 gh,.slice aw nw cw,.slice ag ng cg] 46));have jI:Hid (Below w1.heap.size w1 w5):=hid (by rw[hw];exact iE.out.alloc iE.out.size _);have HO5:Hid (sV w1.heap.size w5 (.slice a l.length c) l):=hid (by rw[hw];exact cU.below dM xD.out (aF.alloc aH _));have KT:Hid (∀W,BL w5 W->W.heap[wr.heap.size]?=some (.cells #[.string gn,.string go,.string gu,.int .i64 gk,.int .i64 gl,.int .i64 gh,.slice aw nw cw,.slice ag ng cg] 46 (0,0))):=hid (fun W hW=>(hW.block _ Ei).trans Ed);have Aq:=hid hw;clear hw;go_upto_region 8 with fail;rw[<-Aq.out];clear f0 f1 f2 f3 f4 f5 f6 f7;obtain⟨⟨f0,f1,f2,f3,f4,f5,f6,f7⟩, -⟩:=dK (KT.out w5 aF);by_cases h1:gk=1
     ·subst h1
      have HLk:=hid (HR1.out rfl);clear HR1 Te;go_upto_region 9 with fail;have uy:=eO w5 ⟨w.heap.size,0,none⟩ (.int .i64 x.aL) fun xh=>(bC (HX.out xh.1 (cG jI.out xh.2))).1.1;have uD:=eO w5 ⟨w.heap.size,1,none⟩ (.slice ak x.aA.length ck) fun xh=>(bC (HX.out xh.1 (cG jI.out xh.2))).1.2.1;have uE:=eO w5 ⟨w.heap.size,2,none⟩ (.slice al x.aP.length cl) fun xh=>(bC (HX.out xh.1 (cG jI.out xh.2))).1.2.2.1;have uF:=eO w5 ⟨w.heap.size,3,none⟩ (.slice ar x.aR.length cr) fun xh=>(bC (HX.out xh.1 (cG jI.out xh.2))).1.2.2.2;have hqf4:=eO w5 ⟨wr.heap.size,4,none⟩ (.int .i64 gl) fun xh=>(dK (KT.out xh.1 xh.2)).1.2.2.2.2.1;refine aZ 11 (.quiet 0 (.quiet 1 (.quiet 2 (.quiet 3 (.quiet 4 (.quiet 5 (.quiet 7 (.quiet 8 (.one 6 (.quiet 9 (.one 10 .done))))))))))) (BL w5) oL (by kernel_rfl) (aI aF 1) ?_;have iK:=hid (aI (Below.refl w5.heap.size w5) 1);generalize w5.drewN 1=w6 at*
      iterate 8 refine fE ?_
      refine aT rfl ?_;go_wp2_with fail;refine(HUj.out w6 (cG bT.out (cG jI.out iK.out))).mono ?_;rintro e w7 ⟨rfl,hb⟩;have o7:=aU iK hb;clear hb;go_wp2_with fail;refine aJ (BL w5) (fun _ h=>h) o7.out ?_;refine fE ?_;refine aT rfl ?_;go_wp2_with fail;refine aJ (BL w5) (fun _ h=>h) (o7.out.alloc o7.out.size _) ?_;refine bh ?_;try simp only[jZ,jP]
      clear uy uD uE uF hqf4 f0 f1 f2 f3 f4 f5 f6 f7;have Dn:=aU jI o7.out;have HO7:Hid (sV w1.heap.size w7 (.slice a l.length c) l):=hid (cU.below dM HO5.out o7.out);go_wp2_with (at_builtin;go_must (refine di dM rfl _ _ rfl Tryz.aay rfl HO7.out (us:=[.int .i64 (k:Int),.int .i64 (j:Int),.int .i64 uz,.int .i64 gl]) rfl rfl rfl (⟨k,j,uz,gl⟩:bV.Ref) rfl U8 aB Dn.out.size ?_));intro v' w8 how ht hn;obtain⟨l2,hl2⟩:=bB (l++[(⟨k,j,uz,gl⟩:bV.Ref)]);rw[<-hl2] at how;have hlen:l2.length=l.length+1:=by rw[hl2];simp
      obtain⟨a2,c2,rfl, -⟩:=how.form;have HL8:Hid (BL w1 w8):=hid (Dn.out.trans (ht.below Dn.out.size (fun b hb=>by have:=(HO7.out.lt b hb.symm).1;omega)));have AV:Hid (sV w1.heap.size w8 (.slice a2 l2.length c2) l2):=hid how;have XT:Hid (l2=bV.qM x k++bV.mr x k (j+1)):=hid (by rw[hl2,HLk.out,yS.out,List.append_assoc]);clear how ht hn hl2;go_wp2;go_roundw;case rel=>exact⟨j+1,l2,a2,c2,aB,by go_num,rfl,aB,XT,AV,HL8⟩
      simp[intOf];omega
     ·have e1:(gk==1)=false:=by simpa using h1
      have HLk:=hid (Te.out h1);clear HR1 Te h1;go_wp2;go_roundw;case rel=>exact⟨j+1,l,a,c,aB,by go_num,rfl,aB,hid (by rw[HLk.out];exact yS.out),HO5,jI⟩
      simp[intOf];omega
    ·obtain rfl:j=nf:=by omega
     have HE:Hid (l=bV.qM x (k+1)):=hid (by rw[yS.out,bV.yF,p9.out,Ej.out]);go_wp2;go_roundw;case rel=>exact⟨k+1,l,a,c,aB,by go_num,rfl,aB,HE,xD,iE⟩
     simp[intOf];omega
  ·obtain rfl:k=x.aA.length:=by omega
   go_wp2;go_ret;exact⟨a,c,l,rfl,aB,IC.out,cU.base HO.out bT.out.size,cG bT.out HL.out⟩
theorem MB(k nk nf ck cf c:Nat)(ak af a:Option Addr)(bS bI:Nat)(w:World)(h1:w.cell? ⟨bS,1,none⟩=some (.slice ak nk ck))(h2:w.cell? ⟨bI,0,none⟩=some (.int .i64 k))(hk:k<nk)(hsk:dX ak nk)(h3:w.cell? ⟨bL ak,bP ak+k*4+3,none⟩=some (.slice af nf cf)):
  Calls Tryz.prog 122 #[.slice a nf c,.pointer (some ⟨bS,0,none⟩),.pointer (some ⟨bI,0,none⟩)] w fun e w'=>e=.returned (.bool false)/\BL w w':=by
 have hk0:(0:Int)<=k:=aB
 have hk1:(k:Int)<nk:=aB
 have hz:bS<w.heap.size:=Ae w ⟨bS,1,none⟩ h1;go_enter Tryz.func122,Tryz.ntmps122;go_wp2;go_ret;exact⟨bp,aF⟩
theorem MC(f u n nw nr c cw cr:Nat)(kd v ls:Int)(a aw ar:Option Addr)(bR bW:Nat)(w:World)(hR:w.heap[bR]?=some (.cells #[.int .i64 kd,.int .i64 f,.int .i64 u,.int .i64 ls] 161 (0,0)))(hW:w.cell? ⟨bW,0,none⟩=some (.slice aw nw cw))
  (hf:f<n)(hs:dX a n)(hc:w.cell? ⟨bL a,bP a+f,none⟩=some (.int .i64 v))(hu:u<nw)(hsw:dX aw nw)(hr:w.cell? ⟨bL aw,bP aw+u,none⟩=some (.slice ar nr cr))(h0:0<=v)(h1:v<nr):
  Calls Tryz.prog 123 #[.slice a n c,.pointer (some ⟨bR,0,none⟩),.pointer (some ⟨bW,0,none⟩)] w fun e w'=>e=.returned (.bool false)/\BL w w':=by
 obtain⟨⟨r0,r1,r2,r3⟩, -⟩:=bC hR;have hf0:(0:Int)<=f:=aB
 have hf1:(f:Int)<n:=aB
 have hu0:(0:Int)<=u:=aB
 have hu1:(u:Int)<nw:=aB
 have hv0:¬v<0:=aB
 have hv1:¬(nr:Int)<=v:=aB
 go_enter Tryz.func123,Tryz.ntmps123;go_wp2;go_quiet (fail);go_wp2;go_ret;exact⟨lC,aI aF _⟩
theorem ME(x:ah.cA)(W:ah.eE)(hfw:bV.sK x W)(v u:Value)(S:Nat->Prop)(w:World)(hv:d9 S w v x)(hW:bN S w u W):
  Calls Tryz.prog 82 #[v,u] w fun e w'=>e=.returned (.bool true)/\BL w w':=by
 obtain⟨ak,ck,al,cl,ar,cr,rfl,hk,hl,hr,hsk,hsl,hsr⟩:=hv.form;obtain⟨aw,cw,rfl,hsw, -, -⟩:=hW.form;have HV:=hid (fun(X:World) (hX:BL w X)=>hv.keep (aD.below hX));have HHW:=hid (fun(X:World) (hX:BL w X)=>hW.keep (aD.below hX));have XS:=hid hk
 have Av:=hid (fun(X:World) (hX:BL w X)=>Fy x hfw.aA (fun k hk=>by
  obtain⟨j,hj,rfl⟩:=List.getElem_of_mem hk;rw[<-dU hj];exact hfw.aG j) _ S X (HV.out X hX))
 have h6:=hfw.aA;have hlen:=hfw.len;obtain⟨nk,hnk⟩:=bB x.aA.length;have hnw:W.length=nk:=by rw[hnk];exact hlen
 rw[<-hnk] at hsk h6 Av XS HV ⊢;rw[hnw] at hsw HHW ⊢;have HNK:=hid hnk;have Fz:=hid hnw;clear hk hl hr hv hW hlen hnk hnw;obtain⟨w1,hw1⟩:=bB ((dP w x.aL (.slice ak nk ck) (.slice al x.aP.length cl) (.slice ar x.aR.length cr)).alloc (.cells #[.slice aw nk cw] 30));have bT:Hid (Below w.heap.size w w1):=hid Og;have HX:Hid (∀X,BL w1 X->X.heap[w.heap.size]?=some (.cells #[.int .i64 x.aL,.slice ak nk ck,.slice al x.aP.length cl,.slice ar x.aR.length cr] 27 (0,0))):=hid (fun X hX=>(hX.block _ (by rw[hw1];simp[dP];omega)).trans Oj);have HWb:Hid (∀X,BL w1 X->X.cell? ⟨w.heap.size+1,0,none⟩=some (.slice aw nk cw)):=hid (fun X hX=>aN ((hX.block (w.heap.size+1) JZ).trans OD) 0);unfold dP at hw1;have HW1:=hid hw1;clear hw1;obtain⟨⟨y0,y1,y2,y3⟩, -⟩:=bC (HX.out w1 aF);have z0:=HWb.out w1 aF;have ht0:=hfw.tot;go_enter Tryz.func82,Tryz.ntmps82;go_upto_region 1 with fail;rw[<-HW1.out];go_wp2;clear y0 y1 y2 y3 z0;go_loopw [5,18] (fun s kk wr=>∃(k sz:Nat),k<=nk/\kk=.int .i64 k/\s=.int .i64 sz/\sz<=512/\Hid (sz=ah.total (W.take k))/\Hid (BL w1 wr)) (fun _ kk _=>nk-(intOf kk).toNat);case atStart=>exact⟨0,0,Nat.zero_le _,rfl,rfl,aB,hid rfl,hid aF⟩
 case round=>
  obtain⟨k,sz,hk,rfl,rfl,hsz,HSz,HL⟩:=hrel;by_cases hlt:k<nk
  ·have hk0:(0:Int)<=(k:Int):=by omega
   have hk1:(k:Int)<(nk:Int):=aB
   have vX:k<W.length:=by rw[Fz.out];exact hlt
   have hkx:k<x.aA.length:=by rw[<-HNK.out];exact hlt
   have jF:=aU bT HL.out;obtain⟨u,hu,hzw,hrow⟩:=eU.at (HHW.out wr jF.out) vX;obtain⟨ao,co,rfl, -, -, -⟩:=hrow.form;obtain⟨nK, -, -, -, -,uf,k3,kT⟩:=gU.at XS.out hkx;obtain⟨af,cf,rfl, -, -, -⟩:=kT.form;have rC:Hid (∀X,BL w X->X.cell? ⟨bL ak,bP ak+k*4+3,none⟩=some (.slice af x.aA[k].aG.length cf)):=hid (fun X hX=>(hX.cell (p:=⟨bL ak,bP ak+k*4+3,none⟩) nK).trans k3);have HRL:Hid (∀r∈W[k],r.length=x.aA[k].aG.length):=hid (fun r hr=>by rw[hfw.rF k vX r hr,dU hkx])
   have Oa:Hid (ah.total (W.take (k+1))=ah.total (W.take k)+W[k].length):=hid (by
    rw[CY vX]
    simp only[ah.total,List.map_append,List.sum_append,List.map_cons,List.map_nil,List.sum_cons,List.sum_nil]
    omega)
   have ht1:=yB W (k+1);have tH:=hfw.tot;rw[Oa.out] at ht1;have HTl:Hid (W[k].length+ah.total (W.take k)<=512):=hid aB;have htl:W[k].length+ah.total (W.take k)<=512:=aB
   clear k3 kT ht1 tH;obtain⟨w4,hw⟩:=bB (wr.alloc (.cells #[.int .i64 (k:Int)] 3));have lW:Hid (Below w1.heap.size w1 w4):=hid Zd
   have HI4:Hid (∀X,BL w4 X->X.cell? ⟨wr.heap.size,0,none⟩=some (.int .i64 (k:Int))):=hid (fun X hX=>by
    have:=hX.block wr.heap.size Ei;exact aN (this.trans Lp) 0)
   have hb4:BL wr w4:=Ec
   have Bb:=hid hw;clear hw;have gK:=aU bT lW.out
   have Dm:=hid (KL uP W[k] (fun _=>false) _ S w4 (hrow.keep (aD.below hb4)) (fun X u y h=>by obtain⟨a,c,e, -⟩:=h.form;exact⟨_,_,_,e⟩) 122 #[.pointer (some ⟨w.heap.size,0,none⟩),.pointer (some ⟨wr.heap.size,0,none⟩)] (bH Tryz.func122 (by kernel_rfl) rfl) (fun X hX j hj u hu=>by
    obtain⟨a1,c1,rfl, -, -, -⟩:=hu.form;rw[HRL.out _ (gm hj)];exact MB k nk _ ck cf c1 ak af a1 w.heap.size wr.heap.size X (bC (HX.out X (cG lW.out hX))).1.2.1 (HI4.out X hX) hlt hsk (rC.out X (cG gK.out hX))))
   rw[show W[k].any (fun _=>false)=false from by simp] at Dm;clear hrow hb4;obtain⟨nr,nM⟩:=bB (W[k].length);rw[<-nM] at hu Dm Oa htl;clear nM;have Ah:Hid (((sz:Nat):Int)+nr=(ah.total (W.take (k+1)):Nat)):=hid (by rw[Oa.out,HSz.out];omega);rw[<-HSz.out] at htl;go_upto_region 7 with fail;rw[<-Bb.out];clear hu;go_wp2_with fail;refine Dm.out.mono ?_;rintro e w5 ⟨rfl,hb⟩;have jI:=aU lW hb;clear hb;go_wp2;go_roundw;case rel=>exact⟨k+1,sz+nr,aB,by go_num,by go_num,aB,hid (by have:=Ah.out;omega),jI⟩
   simp[intOf];omega
  ·obtain rfl:nk=k:=by omega
   clear HSz;obtain⟨⟨y0,y1,y2,y3⟩, -⟩:=bC (HX.out wr HL.out);have I4:=hid (Av.out wr (cG bT.out HL.out));go_wp2_with fail;refine I4.out.mono ?_;rintro e w6 ⟨ax,cx,l,rfl,hl60,hlx,hrf,hb⟩;have HLx:=hid hlx;have hRV:=hrf.sl dM (T:=fun _=>True) (fun b _ h=>trivial) (fun b hb=>trivial);have HRV:=hid (fun(X:World) (hX:BL w6 X)=>dQ.keep dM hRV (aD.below hX));have Fl:=aU HL hb;have hsx:dX ax l.length:=by obtain⟨_,_,e,g, -⟩:=hrf.form;cases e;exact g
   clear hlx hrf hb hRV y0 y1 y2 y3;obtain⟨nl,hnl⟩:=bB l.length;have HNl:=hid hnl;rw[<-hnl] at HRV hsx hl60 ⊢;clear hnl;go_wp2;generalize hW0:wr=W0 at*;go_loopw [34] (fun kk wr=>∃(r:Nat),r<=nl/\kk=.int .i64 r/\Hid (BL w6 wr)) (fun kk _=>nl-(intOf kk).toNat);case atStart=>exact⟨0,Nat.zero_le _,rfl,hid aF⟩
   case round=>
    obtain⟨r,hrn,rfl,iE⟩:=hrel;have HL:=aU Fl iE.out;by_cases hlt:r<nl
    ·have hr0:(0:Int)<=(r:Int):=by omega
     have hr1:(r:Int)<(nl:Int):=aB
     have hrl:r<l.length:=by rw[<-HNl.out];exact hlt
     have jF:=aU bT HL.out;obtain⟨-,us,MF,hcs,hur⟩:=dQ.at (HRV.out wr iE.out) hrl;obtain rfl:us=_:=hur;have y0:wr.cell? ⟨bL ax,bP ax+r*4,none⟩=some (.int .i64 (l[r].kind:Int)):=hcs 0 _ rfl;have y1:wr.cell? ⟨bL ax,bP ax+r*4+1,none⟩=some (.int .i64 (l[r].field:Int)):=hcs 1 _ rfl;have y2:wr.cell? ⟨bL ax,bP ax+r*4+2,none⟩=some (.int .i64 l[r].up):=hcs 2 _ rfl;have y3:wr.cell? ⟨bL ax,bP ax+r*4+3,none⟩=some (.int .i64 l[r].least):=hcs 3 _ rfl;have hmem:l[r]∈bV.iN x:=by rw[<-HLx.out];exact gm hrl
     obtain⟨q1,q2,q3,q4,q5,q6,q7,q8⟩:=hfw.refs _ hmem;have Ac:=hid (hfw.lead _ hmem);clear hcs MF hmem;generalize l[r]=rf at*;obtain⟨rk,rj,ru,rl⟩:=rf;simp only at y0 y1 y2 y3 q1 q2 q3 q4 q5 q6 q7 q8 Ac;clear q7 q8;obtain⟨m,rfl⟩:∃m:Nat,ru=(m:Int):=⟨ru.toNat,aB⟩;have vX:rk<W.length:=by rw[Fz.out,HNK.out];exact q1
     have hmW:m<W.length:=aB
     have hrk:rk<nk:=by rw[HNK.out];exact q1
     have hrk0:(0:Int)<=rk:=aB
     have hrk1:(rk:Int)<nk:=aB
     have hmk:m<nk:=aB
     obtain⟨u,hu,hzw,hrow⟩:=eU.at (HHW.out wr jF.out) vX;obtain⟨ao,co,rfl, -, -, -⟩:=hrow.form;have HRL:Hid (∀y∈W[rk],rj<y.length):=hid (fun y hy=>by rw[hfw.rF rk vX y hy];exact q2);obtain⟨w4,hw⟩:=bB (wr.alloc (.cells #[.int .i64 (rk:Int),.int .i64 (rj:Int),.int .i64 (m:Int),.int .i64 rl] 161));have lW:Hid (Below w1.heap.size w1 w4):=hid Zd;have WG:Hid (Below w6.heap.size w6 w4):=hid (by rw[hw];exact iE.out.alloc iE.out.size _);have HI4:Hid (∀X,BL w4 X->X.heap[wr.heap.size]?=some (.cells #[.int .i64 (rk:Int),.int .i64 (rj:Int),.int .i64 (m:Int),.int .i64 rl] 161 (0,0))):=hid (fun X hX=>(hX.block wr.heap.size Ei).trans Lp);have hb4:BL wr w4:=Ec
     have Bb:=hid hw;clear hw;have gK:=aU bT lW.out
     have Dm:=hid (KL uP W[rk] (fun _=>false) _ S w4 (hrow.keep (aD.below hb4)) (fun X u y h=>by obtain⟨a,c,e, -⟩:=h.form;exact⟨_,_,_,e⟩) 123 #[.pointer (some ⟨wr.heap.size,0,none⟩),.pointer (some ⟨w.heap.size+1,0,none⟩)] (bH Tryz.func123 (by kernel_rfl) rfl) (fun X hX j hj u hu=>by
      obtain⟨a1,c1,rfl,hs1, -, -⟩:=hu.form;have hjl:=HRL.out _ (gm hj);obtain⟨uv,hc, -,rfl⟩:=eU.at hu hjl;obtain⟨ur,hcr, -,hrr⟩:=eU.at (HHW.out X (cG gK.out hX)) hmW;obtain⟨a2,c2,rfl, -, -, -⟩:=hrr.form;have Ob:=Ac.out j vX hj;have ea:bV.rR W rk j rj=W[rk][j][rj]:=by unfold bV.rR;simp[jm,vX,hj,hjl]
      have eb:ah.fQ W (m:Int)=W[m].length:=by unfold ah.fQ;simp[jm,hmW]
      rw[ea,eb] at Ob;exact MC rj m _ nk W[m].length c1 cw c2 rk _ rl a1 aw a2 wr.heap.size (w.heap.size+1) X (HI4.out X hX) (HWb.out X (cG lW.out hX)) hjl hs1 hc hmk hsw hcr Ob.1 Ob.2))
     rw[show W[rk].any (fun _=>false)=false from by simp] at Dm;have hu4:w4.cell? ⟨bL aw,bP aw+rk,none⟩=some (.slice ao W[rk].length co):=(hb4.cell (p:=⟨bL aw,bP aw+rk,none⟩) hzw).trans hu;clear hrow hb4 hmW;generalize W[rk].length=nr at*;go_upto_region 14 with fail;rw[<-Bb.out];clear y0 y1 y2 y3 hu;obtain⟨⟨y0,y1,y2,y3⟩, -⟩:=bC (HI4.out w4 aF);have z0:=HWb.out w4 lW.out;go_wp2_with fail;refine Dm.out.mono ?_;rintro e w5 ⟨rfl,hb⟩;have Ua:=aU WG hb;clear hb;go_wp2;go_roundw;case rel=>exact⟨r+1,aB,by go_num,Ua⟩
     simp[intOf];omega
    ·obtain rfl:r=nl:=by omega
     have hsz2:(sz:Int)<=512:=aB
     go_wp2;go_ret;exact⟨by first|rfl|(simp;done)|(simp;omega),cG bT.out HL.out⟩
theorem FA(n c d:Nat)(a b:Option Addr)(w:World):Calls Tryz.prog 125 #[.slice a n c,.slice b n d] w fun e w'=>e=.returned (.bool true)/\w=w':=by
 go_enter Tryz.func125,Tryz.ntmps125;go_wp2;go_ret;exact⟨bp,rfl⟩
theorem QY(W:ah.eE)(s:Sub.S)(h:W.map List.length=s.map List.length)(rQ:W.length<=1000000)(v u:Value)(S T:Nat->Prop)(w:World)(hW:bN S w v W)(hs:kI T w u s):
  Calls Tryz.prog 124 #[v,u,.func (.func 125) #[] #[]] w fun e w'=>e=.returned (.bool true)/\w=w':=by
 obtain⟨aw,cw,rfl,hsw, -, -⟩:=hW.form;obtain⟨oA,cs,rfl,hss, -, -⟩:=hs.form;have HW:=hid hW;have HS:=hid hs;have hlen:W.length=s.length:=by simpa using congrArg List.length h
 have HL:Hid (∀k (h1:k<W.length) (h2:k<s.length),W[k].length=s[k].length):=hid (fun k h1 h2=>by
  have:=congrArg (fun l=>l[k]?) h;simpa [h1,h2] using this)
 obtain⟨n,hn⟩:=bB s.length;have hnw:W.length=n:=by rw[hn];exact hlen
 rw[hnw] at hsw rQ ⊢;rw[<-hn] at hss ⊢;have HN:=hid hn;have Fz:=hid hnw;clear hW hs h hlen hn hnw;go_enter Tryz.func124,Tryz.ntmps124;go_wp2;go_loopw [17] (fun kk wr=>∃k:Nat,k<=n/\kk=.int .i64 k/\w=wr) (fun kk _=>n-(intOf kk).toNat);case atStart=>exact⟨0,Nat.zero_le _,rfl,rfl⟩
 case round=>
  obtain⟨k,hk,rfl,rfl⟩:=hrel;by_cases hlt:k<n
  ·have hk0:(0:Int)<=k:=by omega
   have hk1:(k:Int)<n:=aB
   have h1:k<W.length:=by rw[Fz.out];exact hlt
   have h2:k<s.length:=TJ
   obtain⟨x,hx, -,hxr⟩:=eU.at (by rw[<-Fz.out];exact HW.out:bN S w (.slice aw n cw) W) h1;obtain⟨y,hy, -,hyr⟩:=eU.at (by rw[HN.out];exact HS.out:kI T w (.slice oA n cs) s) h2;obtain⟨a,c,rfl, -, -, -⟩:=hxr.form;obtain⟨b,d,rfl, -, -, -⟩:=hyr.form;rw[HL.out k h1 h2] at hx;clear hxr hyr;generalize s[k].length=m at*;have mI:=bH Tryz.func125 (by kernel_rfl) rfl;go_wp2_with fail;refine(FA m c d a b w).mono ?_;rintro e w2 ⟨rfl,rfl⟩;go_wp2;go_roundw;case rel=>exact⟨k+1,aB,by go_num,Zc⟩
   simp[intOf];omega
  ·obtain rfl:n=k:=by omega
   go_wp2;go_ret;exact⟨rfl,rfl⟩
theorem FB(W:ah.eE)(s:Sub.S)(h:W.map List.length=s.map List.length)(rQ:W.length<=1000000)(v u:Value)(S T:Nat->Prop)(w:World)(hW:bN S w v W)(hs:kI T w u s):
  Calls Tryz.prog 83 #[v,u] w fun e w'=>e=.returned (.bool true)/\w=w':=by
 have HE:=hid (QY W s h rQ v u S T w hW hs);obtain⟨aw,cw,rfl, -, -, -⟩:=hW.form;obtain⟨oA,cs,rfl, -, -, -⟩:=hs.form;go_enter Tryz.func83,Tryz.ntmps83;go_wp2_with fail;refine HE.out.mono ?_;rintro e w2 ⟨rfl,rfl⟩;go_wp2;go_ret;exact⟨rfl,rfl⟩
theorem XU{p:Prop}(h:p:=by
  unfold bV.uj at hc
  by_cases h1:ah.okB x=true
  ·rw[if_pos h1] at hc
   by_cases h2:bV.oQ x W=true
   ·rw[if_pos h2] at hc
    by_cases h3:bV.ox W s=true
    ·exact⟨h1,h2,h3⟩
    ·rw[if_neg h3] at hc;omega
   ·rw[if_neg h2] at hc;omega
  ·rw[if_neg h1] at hc;omega):p:=h
theorem Dp(x:ah.cA)(W:ah.eE)(s:Sub.S)(hc:bV.uj x W s=0)(v u t:Value)(S T U:Nat->Prop)(tb:Nat)(w:World)(hv:d9 S w v x)(hW:bN T w u W)(hs:kI U w t s)(D1:LaidW w)(htb:TabC tb w):
  Calls Tryz.prog 49 #[v,u,t] w fun e w'=>e=.returned (.int .i64 0)/\BL w w':=by
 have hp:ah.okB x=true/\bV.oQ x W=true/\bV.ox W s=true:=by
  exact XU
 obtain⟨hok,NX,hsb⟩:=hp;have hfw:=bV.Xr hok NX;have hlen:W.length<=1000000:=by have:=hfw.len;have:=hfw.aA;omega
 obtain⟨ak,ck,al,cl,ar,cr,rfl, -⟩:=hv.form;obtain⟨w1,hw1⟩:=bB (dP w x.aL (.slice ak x.aA.length ck) (.slice al x.aP.length cl) (.slice ar x.aR.length cr));have bT:=wS hw1;have HX:=Hl hw1;unfold dP at hw1;have HW1:=hid hw1;clear hw1;have HCk:=hid (yV x hok _ S tb w1 (hv.keep (aD.below bT.out)) (D1.next bT.out) (htb.below bT.out htb.lt (by have:=D1.size;omega)));have HFt:=hid (fun(X:World) (hX:BL w X)=>ME x W hfw _ u (fun b=>S b\/T b) X ((hv.keep (aD.below hX)).mono (fun b _ h=>.inl h)) ((hW.keep (aD.below hX)).mono (fun b _ h=>.inr h)));have Td:=hid (fun(X:World) (hX:BL w X)=>FB W s (of_decide_eq_true hsb) hlen u t T U X (hW.keep (aD.below hX)) (hs.keep (aD.below hX)));obtain⟨aw,cw,rfl, -, -, -⟩:=hW.form;obtain⟨oA,cs,rfl, -, -, -⟩:=hs.form;clear hv hW hs D1 htb;obtain⟨⟨y0,y1,y2,y3⟩, -⟩:=bC (HX.out w1 aF);go_enter Tryz.func49,Tryz.ntmps49;go_upto_region 1 with fail;rw[<-HW1.out];go_wp2_with fail;refine HCk.out.mono ?_;rintro e w2 ⟨rfl,hb⟩;have iE:Hid (BL w1 w2):=hid hb;have bX:=aU bT hb;clear hb y0 y1 y2 y3;obtain⟨⟨y0,y1,y2,y3⟩, -⟩:=bC (HX.out w2 iE.out);go_wp2_with fail;refine(HFt.out w2 bX.out).mono ?_;rintro e w3 ⟨rfl,hb⟩;have cE:=aU bX hb;clear hb y0 y1 y2 y3;go_wp2_with fail;refine(Td.out w3 cE.out).mono ?_;rintro e w4 ⟨rfl,rfl⟩;go_wp2;go_ret;exact⟨rfl,cE.out⟩
theorem I5(xs:List Bool)(hl:xs.length<=1000000)(v:Value)(S:Nat->Prop)(w:World)(hv:lM S w v xs):
  Calls Tryz.prog 126 #[v] w fun e w'=>∃x,e=.returned x/\iM (w.heap.size<=·) w' x xs/\BL w w':=by
 have hv0:=hv;obtain⟨a,cap,rfl,hok,hcap,hmax⟩:=hv.form;clear hv;cases a with
 |none=>
  have hz:xs=[]:=by
   exact OO
  subst hz
  have hq:∀W,(binOp .eql 87 (.slice none 0 cap) (.slice none 0 0)).run Tryz.prog W=.ok (.bool true) W:=fun W=>Lib.run_eql_slice_nil W 87 4 none 0 cap 0 0 (by kernel_rfl)
  go_enter Tryz.func126,Tryz.ntmps126
  go_wp2
  go_ret
  exact⟨_,rfl,iM.nil _ _,aF⟩
 |some ad=>
  have hq:∀W,(binOp .eql 87 (.slice (some ad) xs.length cap) (.slice none 0 0)).run Tryz.prog W=.ok (.bool false) W:=fun W=>Lib.run_eql_slice_nil W 87 4 (some ad) xs.length cap 0 0 (by kernel_rfl)
  have hI:iM (w.heap.size<=·) (w.alloc (.cells #[] 4)) (.slice (some ⟨w.heap.size,0,none⟩) 0 0) []:=
   ⟨World.ownsRow_made w #[] 0 (Nat.zero_le _) (Nat.zero_le _) bp,fun b hb=>by simp[Value.ownBlock] at hb;omega⟩
  have GR:lM S (w.alloc (.cells #[] 4)) (.slice (some ad) xs.length cap) xs:=hv0.keep (aD.below (aF.alloc aH _))
  go_enter Tryz.func126,Tryz.ntmps126
  go_wp2_with (at_builtin;go_must (refine E2 rfl _ _ rfl Tryz.appB rfl hI aF rfl GR lC ?_))
  intro v1 w1 hI1 ht1
  have tE:iM (w.heap.size<=·) w1 v1 xs:=by
   have:=eW.mono hI1 (fun b _ hb=>gM bp b hb);simpa using this
  exact WA
theorem Cc(w:World)(n:Nat)(hn:n<=1000000):kJ (w.heap.size<=·) (w.alloc (.cells (gb n) 87)) (.slice (some ⟨w.heap.size,0,none⟩) n n) (List.replicate n []):=by
 refine⟨fun b hb=>by simp[Value.ownBlock] at hb;omega,List.replicate n (.slice none 0 0),fun _=>0,?_,bp,fun j h1 h2=>?_⟩
 ·exact Xo
 ·simp only[List.getElem_replicate]
  exact iM.nil _ _
theorem QZ{p:Prop}(h:p:=by
  simp only[Value.slice.injEq,Option.some.injEq,Addr.mk.injEq] at e1
  exact e1.1.1):p:=h
theorem vY(s:Sub.S)(hl:s.length<=1000)(hw:∀r∈s,r.length<=100000)(v:Value)(T:Nat->Prop)(w:World)(hv:kI T w v s):
  Calls Tryz.prog 85 #[v] w fun e w'=>∃g,e=.returned (.slice (some ⟨g,0,none⟩) s.length s.length)/\kJ (w.heap.size<=·) w' (.slice (some ⟨g,0,none⟩) s.length s.length) s/\BL w w':=by
 obtain⟨oA,cs,rfl,hss, -, -⟩:=hv.form;have HV:=hid hv;have HW:=hid hw;clear hv hw;have hmk:=fun W=>qj (P:=Tryz.prog) (t:=40) (e:=87) (b:=24) (by kernel_rfl) (by kernel_rfl) aB s.length aB W;obtain⟨n,hn⟩:=bB s.length;rw[<-hn] at hss hmk hl ⊢;have HN:=hid hn;clear hn;go_enter Tryz.func85,Tryz.ntmps85;go_wp2;clear hmk;obtain⟨g0,hg0⟩:=bB w.heap.size;have Q0:Hid (kJ (w.heap.size<=·) (w.alloc (.cells (gb n) 87)) (.slice (some ⟨g0,0,none⟩) n n) (List.replicate n [])):=hid (by rw[hg0];exact Cc w _ aB);rw[<-hg0];clear hg0;go_loopw [11] (fun kk wr=>∃(k:Nat) (xs:Sub.S),k<=n/\kk=.int .i64 k/\Hid (xs.length=n)/\Hid (∀j,j<k->xs[j]?=s[j]?)/\Hid (kJ (w.heap.size<=·) wr (.slice (some ⟨g0,0,none⟩) n n) xs)/\Hid (BL w wr)) (fun kk _=>n-(intOf kk).toNat);case atStart=>exact⟨0,List.replicate n [],Nat.zero_le _,rfl,hid bp,hid (fun j h=>absurd h aB),Q0,hid (aF.alloc aH _)⟩
 case round=>
  obtain⟨k,xs,hk,rfl,HL,HX,HO,HB⟩:=hrel;obtain⟨wo,rfl⟩:=bB (wr:World);by_cases hlt:k<n
  ·have hk0:(0:Int)<=k:=by omega
   have hk1:(k:Int)<n:=aB
   have hks:k<s.length:=TJ
   have hkx:k<xs.length:=by rw[HL.out];exact hlt
   obtain⟨u,hu,hz,hr⟩:=eU.at (by rw[HN.out];exact HV.out.keep (aD.below HB.out):kI T wo (.slice oA n cs) s) hks;obtain⟨ar,cr,rfl, -, -, -⟩:=hr.form;have Cd:=hid (I5 s[k] (by have:=HW.out _ (gm hks);omega) _ T wo hr);have h1:=HO.out;rw[show (Value.slice (some ⟨g0,0,none⟩) n n)=.slice (some ⟨g0,0,none⟩) xs.length n by rw[HL.out]] at h1;obtain⟨g,aaz,uu,TT,e1,e2,e3,MG,hcg,hfg,MH,Q5, -,hback⟩:=gZ.borrow eW h1 k hkx
   have hgg:g0=g:=by
    exact QZ
   subst hgg;have Q6:=hid (fun w2 u'=>hback w2 u' s[k]);have Tf:=hid Q5;have Xn:=hid MG;have HSk:Hid (s[k]?=some s[k]):=hid (lE hks);clear e1 e2 e3 MH Q5 hback hcg hfg h1 hr MG;generalize s[k]=r at*;go_wp2_with fail;refine Cd.out.mono ?_;rintro e w2 ⟨x,rfl,hx,hb⟩;obtain⟨ax,cx,rfl, -, -, -⟩:=(iM.sl hx).form;obtain⟨k1,k2,k3,k4⟩:=Q6.out w2 (.slice ax r.length cx) (Turns.aS hb) (eW.mono hx (fun b _ hb=>.inr hb))
   have rC:Hid (kJ (w.heap.size<=·) (w2.setCell ⟨g0,k,none⟩ (.slice ax r.length cx)) (.slice (some ⟨g0,0,none⟩) n n) (xs.set k r)):=hid (by
    have:=ez.mono k3 (fun b _ hb=>gM HB.out.size b hb)
    rw[HL.out] at this
    exact this)
   have mR:Hid (BL w (w2.setCell ⟨g0,k,none⟩ (.slice ax r.length cx))):=hid (HB.out.trans (k4.below HB.out.size (fun b hb=>by
    rcases hb with hb|hb
    ·exact(Tf.out b hb).1
    ·rw[hb];exact Xn.out)))
   have HX9:Hid (∀j,j<k+1->(xs.set k r)[j]?=s[j]?):=hid (fun j hj=>by
    by_cases e:j=k
    ·subst e;rw[List.getElem?_set_self aB,HSk.out]
    ·rw[List.getElem?_set_ne aB];exact HX.out j aB)
   have XT:Hid ((xs.set k r).length=n):=hid (by rw[List.length_set];exact HL.out);have aaA:dX (some ⟨g0,0,none⟩) n:=fun _=>⟨_,_,rfl⟩;clear k3 k4 hx hb Q6 HSk HX hkx;go_wp2;go_roundw;case rel=>exact⟨k+1,xs.set k r,aB,by go_num,XT,HX9,rC,mR⟩
   simp[intOf];omega
  ·obtain rfl:n=k:=by omega
   have HE:Hid (xs=s):=hid (List.ext_getElem? (fun j=>by
    by_cases hj:j<n
    ·exact HX.out j hj
    ·rw[List.getElem?_eq_none (by rw[HL.out];omega),List.getElem?_eq_none (by rw[<-HN.out];omega)]))
   go_wp2;go_ret;exact⟨g0,rfl,by rw[<-HE.out];exact HO.out,HB.out⟩
open Go.ChangeMaps Go.MapKept
open Go.WideElems (rd rg pl rd_val elemAt findIdx_arr findIdx_born modify_last set_self)
open Go.Maps (Keyed)
section
variable {H:Type} {P:Program} {w:World} {t k e:TypeId} {R:Value->Option (DataW H×List MemPlace)} {b:Nat} {es:Array MapEntry} {clock:Nat}
theorem XV{p:Prop}(h:p:=by
  simp[Instr.entryStore,MapKept.run_getObj_map hw2,asInt,asIntOf,goInt,hidx,hmod,MapKept.run_setObj_map _ hw2,Result.andThen,setBlock]):p:=h
theorem MI(K:Keyed P k)(ht:P.underlying t=some (.map k e)){z:Value}(hz:∀u:World,(zeroValue e).run P u=.ok z u)(hb:w.heap[b]?=some (.map es clock))(F:Go.WideElems.Fit P k R es clock)
  {key:Value}{kl:Lit}(hkey:keyOf P k key=some kl):
  ∃(v0:Value) (st:Nat) (es1:Array MapEntry) (clock1:Nat),(Instr.mapEntry t (.map (some b)) key).run P w=.ok (.tuple #[v0,goInt st]) (setBlock w b (.map es1 clock1))/\
   ((es1=es/\clock1=clock)\/((∀x∈es.toList,x.key≠key)/\(Instr.mapUpdate t (.map (some b)) key z).run P w=.ok () (setBlock w b (.map es1 clock1))))/\
   ∀(w2:World) (val:Value),w2.heap[b]?=some (.map es1 clock1)->∃es' clock',(Instr.entryStore t (.map (some b)) (goInt st) val).run P w2=.ok () (setBlock w2 b (.map es' clock'))/\
    (Instr.mapUpdate t (.map (some b)) key val).run P w=.ok () (setBlock w b (.map es' clock')):=by
 obtain⟨s1,s2,_⟩:=F.stamped;rcases K.find w hkey es.toList F.keys with⟨h1,h2⟩|⟨j,e0,h1,h2,h3⟩
 ·refine⟨z,clock,es.push ⟨key,z,clock⟩,clock+1,?_,Or.inr ⟨h2,?_⟩,fun w2 val hw2=>⟨es.push ⟨key,val,clock⟩,clock+1,?_,?_⟩⟩
  ·simp[Instr.mapEntry,run_underlying ht,MapKept.run_getObj_map hb,K.check w false hkey,h1,hz,MapKept.run_setObj_map _ hb,Result.andThen,setBlock]
  ·simp[Instr.mapUpdate,run_underlying ht,MapKept.run_getObj_map hb,K.check w false hkey,h1,MapKept.run_setObj_map _ hb,Result.andThen,setBlock]
  ·have hidx:(es.push ⟨key,z,clock⟩).findIdx? (fun e=>((e.born:Nat):Int)==((clock:Nat):Int))=some es.size:=by
    rw[findIdx_arr]
    have:=findIdx_born (l:=(es.push ⟨key,z,clock⟩).toList) (j:=es.size) (e0:=⟨key,z,clock⟩) (by
     simp only[Array.toList_push,List.map_append,List.map_cons,List.map_nil]
     refine List.nodup_append.2 ⟨s2,bp,fun a ha c hc e1=>?_⟩
     simp only[mL] at hc
     obtain⟨x,hx,rfl⟩:=List.mem_map.1 ha
     have:=s1 x hx
     omega) bp
    exact this
   have hmod:(es.push ⟨key,z,clock⟩).modify es.size (fun e=>{e with val:=val})=es.push ⟨key,val,clock⟩:=by
    apply Array.ext';rw[Array.toList_modify,Array.toList_push,Array.toList_push,<-Array.length_toList,modify_last]
   exact XV
  ·simp[Instr.mapUpdate,run_underlying ht,MapKept.run_getObj_map hb,K.check w false hkey,h1,MapKept.run_setObj_map _ hb,Result.andThen,setBlock]
 ·have hj:es[j]?=some e0:=by simpa using h2
  have hsame:es.modify j (fun e=>{e with key:=key})=es:=by
   apply Array.ext';rw[Array.toList_modify,modify_eq_set _ _ _ _ h2];have:({e0 with key:=key}:MapEntry)=e0:=by rw[<-h3]
   rw[this];exact set_self _ _ _ h2
  refine⟨e0.val,e0.born,es,clock,?_,Or.inl ⟨rfl,rfl⟩,fun w2 val hw2=>⟨es.modify j (fun e'=>{e' with key:=key,val:=val}),clock,?_,?_⟩⟩
  ·simp[Instr.mapEntry,run_underlying ht,MapKept.run_getObj_map hb,K.check w false hkey,h1,hj,h3,K.stays w hkey,hsame,MapKept.run_setObj_map _ hb,Result.andThen,setBlock]
  ·have hidx:es.findIdx? (fun e=>((e.born:Nat):Int)==((e0.born:Nat):Int))=some j:=by
    rw[findIdx_arr]
    exact findIdx_born s2 h2
   have hmod:es.modify j (fun e=>{e with val:=val})=es.modify j (fun e'=>{e' with key:=key,val:=val}):=by
    apply Array.ext';rw[Array.toList_modify,Array.toList_modify,modify_eq_set _ _ _ _ h2,modify_eq_set _ _ _ _ h2,<-h3]
   exact XV
  ·simp[Instr.mapUpdate,run_underlying ht,MapKept.run_getObj_map hb,K.check w false hkey,h1,hj,h3,K.stays w hkey,MapKept.run_setObj_map _ hb,Result.andThen,setBlock]
theorem qa{w:World}{b:Nat}{es:Array MapEntry}{clock:Nat}(hb:w.heap[b]?=some (.map es clock))(o:Obj):w.grownBy (setBlock w b o) (some b):=
 ⟨rfl,rfl,rfl,by simp[setBlock],fun i _ hi=>heap_setBlock_other hb _ (fun e=>hi rX)⟩
variable {n:Nat} {D:DataW H}
theorem Bc(h:w.ownsMap P k R b n D)(K:Keyed P k)(ht:P.underlying t=some (.map k e)){z:Value}(hz:∀u:World,(zeroValue e).run P u=.ok z u)(hn:n<maxLen){zd:DataW H}{zp:List MemPlace}(hzd:R z=some (zd,zp)){key:Value}{kl:Lit}(hkey:keyOf P k key=some kl):
  ∃(v0:Value) (st:Nat) (w1:World),(Instr.mapEntry t (.map (some b)) key).run P w=.ok (.tuple #[v0,goInt st]) w1/\w.grownBy w1 (some b)/\
   (w1.ownsMap P k R b (n+1) D\/(w1.ownsMap P k R b (n+1) (D.put kl zd)/\D.atKey kl zd=zd))/\
   ∀(w2:World) (val:Value) (d:DataW H) (ps:List MemPlace),w2.heap[b]?=w1.heap[b]?->R val=some (d,ps)->
    ∃w3,(Instr.entryStore t (.map (some b)) (goInt st) val).run P w2=.ok () w3/\w3.ownsMap P k R b (n+1) (D.put kl d)/\w2.grownBy w3 (some b):=by
 have h0:=h;obtain⟨es,clock,hb,F,hs,hD⟩:=h;obtain⟨v0,st,es1,clock1,r1,r2,r3⟩:=MI (R:=R) K ht hz hb F hkey;have e1:(setBlock w b (.map es1 clock1)).heap[b]?=some (.map es1 clock1):=heap_setBlock_same hb _;refine⟨v0,st,_,r1,qa hb _,?_,fun w2 val d ps hw2 hv=>?_⟩
 ·rcases r2 with⟨rfl,rfl⟩|⟨hno,hr⟩
  ·exact .inl ⟨_,_,e1,F,aB,hD⟩
  ·obtain⟨w',hr',how, -⟩:=h0.update K ht hn hkey hzd
   rw[hr] at hr';cases hr';refine .inr ⟨how,?_⟩;rcases Maps.fit_look false K ht (hz w) hb F hkey with⟨_,_,hat⟩|⟨e0,y,hm,hk,_⟩
   ·rw[hD];exact hat zd
   ·exact absurd hk (hno e0 hm)
 ·rw[e1] at hw2
  obtain⟨es',clock',q1,q2⟩:=r3 w2 val hw2;obtain⟨w',hr',how, -⟩:=h0.update K ht hn hkey hv;rw[q2] at hr';cases hr';obtain⟨es9,aeY,g1,g2,g3,g4⟩:=how;rw[heap_setBlock_same hb _] at g1;cases g1;exact⟨_,q1,⟨es',clock',heap_setBlock_same hw2 _,g2,g3,g4⟩,qa hw2 _⟩
end
open Go.Maps (Keyed)
theorem KW:Maps.Keyed Tryz.prog 136:=Maps.Keyed.of_law (deep_law_laid (m:=10) (by kernel_rfl) aB (by decide+kernel) (by kernel_rfl) (by kernel_rfl))
theorem litI(d:Nat)(x:Int)(h:(Lit.int .i64 x).wf=true):Tryz.prog.keyLits (d+1) 3 [.int .i64 x]=some [.int .i64 x]:=by
 have hu3:Tryz.prog.underlying 3=some (.int .i64):=by kernel_rfl
 unfold Program.keyLits;rw[hu3];simp[h]
def qt(a b:Int):Value:=.agg #[.int .i64 a,.int .i64 b]
theorem ada(a b:Int)(ha:(Lit.int .i64 a).wf=true)(hb:(Lit.int .i64 b).wf=true):∃l,keyOf Tryz.prog 136 (qt a b)=some l:=by
 have hk:Tryz.prog.keyType 136=true:=by kernel_rfl
 have hc1:Tryz.prog.cellsOf 3=1:=by kernel_rfl
 have hc8:Tryz.prog.cellsOf 136=2:=by kernel_rfl
 have hu:=Tryz.underlying136;obtain⟨m,hm⟩:∃m,Tryz.prog.types.size+1=m+2:=⟨Tryz.prog.types.size-1,by have:2<=Tryz.prog.types.size:=of_decide_eq_true (by kernel_rfl);omega⟩;unfold keyOf qt;rw[hu];simp only[hk,Value.formed,hu,hc8,hm];unfold Program.keyLits;rw[hu];simp[hc8,hc1,Value.cells,litI,ha,hb]
def qu(a:Int):Prop:= -9223372036854775808<=a/\a<=9223372036854775807
theorem qu.wf{a:Int}(h:qu a):(Lit.int .i64 a).wf=true:=by
 have h1:IntKind.i64.min= -9223372036854775808:=fH
 have h2:IntKind.i64.max=9223372036854775807:=fH
 obtain⟨ha,hb⟩:=h;simp only[Lit.wf,h1,h2];simp;omega
noncomputable def klA (a b:Int):Lit:= @Classical.epsilon Lit ⟨.bool false⟩ fun l=>keyOf Tryz.prog 136 (qt a b)=some l
theorem yX{a b:Int}(ha:qu a)(hb:qu b):keyOf Tryz.prog 136 (qt a b)=some (klA a b):=
 @Classical.epsilon_spec Lit (fun l=>keyOf Tryz.prog 136 (qt a b)=some l) (ada a b ha.wf hb.wf)
theorem U9{a b c d:Int}(ha:qu a)(hb:qu b)(hc:qu c)(hd:qu d)(e:klA a b=klA c d):a=c/\b=d:=by
 have h:=KW.inj (yX ha hb) (by rw[e];exact yX hc hd);unfold qt at h;simpa using h
theorem aaB{a b:Int}(ha:qu a)(hb:qu b):WideAt.IsKeyLit (klA a b):=KW.key (yX ha hb)
theorem Q7:Tryz.prog.underlying 162=some (.map 136 3):=by kernel_rfl
theorem yY:Tryz.prog.underlying 3=some (.int .i64):=by kernel_rfl
theorem KH(w:World):(zeroValue 3).run Tryz.prog w=.ok (.int .i64 0) w:=by kernel_rfl
def eA(w:World)(b n:Nat)(f:Int->Int->Int):Prop:=
 ∃D:DataW Nat,w.ownsMap Tryz.prog 136 (plainElem Tryz.prog 3) b n D/\∀a c,qu a->qu c->D.atKey (klA a c) (.lit (.int .i64 0))=.lit (.int .i64 (f a c))
def Bd(f:Int->Int->Int)(a c v:Int):Int->Int->Int:=fun a' c'=>if a'=a/\c'=c then v else f a' c'
theorem eA.made(w:World):eA (w.alloc (.map #[] 0)) w.heap.size 0 (fun _ _=>0):=⟨.map [],World.ownsMap_made _ _ _ _,fun _ _ _ _=>rfl⟩
theorem XW{p:Prop}(h:p:=by
  obtain⟨D,⟨es,clock,hb,F,r⟩,r2⟩:=h
  exact⟨D,⟨es,clock,by rw[hk];exact hb,F,r⟩,r2⟩):p:=h
theorem eA.keep{w w':World}{b n:Nat}{f:Int->Int->Int}(h:eA w b n f)(hk:w'.heap[b]?=w.heap[b]?):eA w' b n f:=by
 exact XW
theorem eA.lt{w:World}{b n:Nat}{f:Int->Int->Int}(h:eA w b n f):b<w.heap.size:=by
 obtain⟨D,h1, -⟩:=h;exact h1.lt
theorem eA.mono{w:World}{b n m:Nat}{f:Int->Int->Int}(h:eA w b n f)(hm:n<=m):eA w b m f:=by
 obtain⟨D,h1,h2⟩:=h;exact⟨D,h1.mono hm,h2⟩
theorem eA.look{w:World}{b n:Nat}{f:Int->Int->Int}(h:eA w b n f){a c:Int}(ha:qu a)(hc:qu c):
  (Instr.lookup 162 (.map (some b)) (qt a c) false).run Tryz.prog w=.ok (.int .i64 (f a c)) w:=by
 obtain⟨D,h1,h2⟩:=h;obtain⟨v,hrun,hat, -⟩:=h1.lookup_int KW Q7 yY (KH w) (yX ha hc);rw[h2 a c ha hc] at hat;have:f a c=v:=by simpa using hat
 rw[this];exact hrun
theorem eA.entry{w:World}{b n:Nat}{f:Int->Int->Int}(h:eA w b n f)(hn:n<=1000000){a c:Int}(ha:qu a)(hc:qu c):
  ∃(v0:Value) (st:Nat) (w1:World),(Instr.mapEntry 162 (.map (some b)) (qt a c)).run Tryz.prog w=.ok (.tuple #[v0,goInt st]) w1/\eA w1 b (n+1) f/\Turns (·=b) w w1/\
   ∀(w2:World) (v:Int),qu v->w2.heap[b]?=w1.heap[b]?->∃w3,(Instr.entryStore 162 (.map (some b)) (goInt st) (.int .i64 v)).run Tryz.prog w2=.ok () w3/\eA w3 b (n+1) (Bd f a c v)/\Turns (·=b) w2 w3:=by
 obtain⟨D,h1,h2⟩:=h;have rQ:n<maxLen:=Za
 have hz0:(Lit.int .i64 0).wf=true:=fH
 have hput:∀(D':DataW Nat) (v:Int),D'=D.put (klA a c) (.lit (.int .i64 v))->∀a' c',qu a'->qu c'->D'.atKey (klA a' c') (.lit (.int .i64 0))=.lit (.int .i64 (Bd f a c v a' c')):=by
  rintro D' v rfl a' c' ha' hc';unfold Bd;by_cases e:a'=a/\c'=c
  ·obtain⟨rfl,rfl⟩:=e
   rw[Maps.atKey_put_same h1.isMap (aaB ha' hc'),if_pos ⟨rfl,rfl⟩]
  ·rw[Maps.atKey_put_other (fun h=>e (U9 ha' hc' ha hc h)),if_neg e,h2 a' c' ha' hc']
 obtain⟨v0,st,w1,r1,r2,r3,r4⟩:=Bc h1 KW Q7 KH rQ (plainElem_int yY hz0) (yX ha hc);refine⟨v0,st,w1,r1,?_,Turns.fI r2 (fun b' e=>by cases e;rfl),fun w2 v hv hw=>?_⟩
 ·rcases r3 with r3|⟨r3,r5⟩
  ·exact⟨D,r3,h2⟩
  ·have hf:f a c=0:=by
    have:=h2 a c ha hc
    rw[r5] at this
    simpa using this.symm
   refine⟨_,r3,fun a' c' ha' hc'=>?_⟩;rw[hput _ 0 rfl a' c' ha' hc'];unfold Bd;by_cases e:a'=a/\c'=c
   ·rw[if_pos e,e.1,e.2,hf]
   ·rw[if_neg e]
 ·obtain⟨w3,q1,q2,q3⟩:=r4 w2 (.int .i64 v) (.lit (.int .i64 v)) [] hw (plainElem_int yY hv.wf)
  exact⟨w3,q1,⟨_,q2,hput _ v rfl⟩,Turns.fI q3 (fun b' e=>by cases e;rfl)⟩
end Go.Proofs.YtibacilhkciihaaGreatDoor
