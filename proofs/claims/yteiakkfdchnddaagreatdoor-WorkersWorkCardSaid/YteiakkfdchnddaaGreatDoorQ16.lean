/- Part 16 of the walks and plain laws that the proof needs (packed). -/
import Derived.Test.YteiakkfdchnddaaGreatDoorQ1
import Derived.Test.YteiakkfdchnddaaGreatDoorQ14
import Derived.Test.YteiakkfdchnddaaGreatDoorQ15
set_option linter.all false
set_option maxRecDepth 100000
set_option maxHeartbeats 8000000
namespace Go.Proofs.YteiakkfdchnddaaGreatDoor
open Go.RowKit
theorem Oe{p:Prop}(h:p:=by
  go_wp2
  go_meet
  case rel=>exact⟨_,rfl,hid hde.symm,rfl⟩):p:=h
theorem WQ{p:Prop}(h:p:=by
  go_wp2
  go_meet
  case rel=>exact⟨_,rfl,hid rfl,rfl⟩):p:=h
theorem work2_any(L L2 L3 L4:List Int)(hL:Fit L)(hK:Fit L2)(hP:Fit L3)(hE:Fit L4)(code:Int)(hc1: -9223372036854775808<=code)(hc2:code<=9223372036854775807)(v u q v4:Value)(tb:Nat)(w:World)
  (hv:cH mJ w v L)(hu:cH mJ w u L2)(hq:cH mJ w q L3)(hv4:cH mJ w v4 L4)(hlaid:LaidW w)(htab:TabC tb w):
  Calls Tryz.prog 4 #[v,u,q,.int .i64 code,v4] w fun e w'=>e=.returned (.bool true)/\BL w w':=by
 have HM:=hid (JL L L2 L3 hL hK hP v u q w hv hu hq);have HSc:=hid (fun(X:World) (hX:BL w X)=>C4 L4 hE v4 _ X (hv4.keep (aB.below hX)));have ZF:=hid (And.intro hc1 hc2);have HLi:Hid (∀X,BL w X->CB 10 #[] X (.bool true)):=hid (fun X hX=>C9 tb X (hlaid.next hX) (htab.below hX htab.lt (by have:=hlaid.size;omega)));have xS:=hid hlaid;have YX:=hid htab;clear hc1 hc2 hv hu hq hv4 hlaid htab hL hK hP hE;go_enter Tryz.func4,Tryz.ntmps4;go_wp2_with fail;refine HM.out.mono ?_;rintro e w1 ⟨sv,uw,pv,x,W,p,rfl,hg,DW,jI,hwf,RI,hpv,hb1⟩;obtain⟨ak,ck,al,cl,ar,cr,rfl, -⟩:=DW.form;obtain⟨aw,cw,rfl, -, -, -⟩:=hwf.form;obtain⟨w2,hw2⟩:=aV (di w1 x.aI (.slice ak x.ai.length ck) (.slice al x.aN.length cl) (.slice ar x.aO.length cr));have hb2:BL w1 w2:=by rw[hw2];exact dZ ..
 have bK:Hid (BL w w2):=hid (cO hb1 hb2);have HX:Hid (∀X,BL w2 X->X.heap[w1.heap.size]?=some (.cells #[.int .i64 x.aI,.slice ak x.ai.length ck,.slice al x.aN.length cl,.slice ar x.aO.length cr] 27 (0,0))):=hid (fun X hX=>(hX.block _ (by rw[hw2];simp[di])).trans (by rw[hw2];exact fE ..));have hok:=ah.AX hg;have Dg:=hid (aR.jT (aR.kW hok).1);have hTo:=jI.tot;obtain⟨l,hl⟩:=aR.CH x W;have Vh:=Ft jI hl;have Mi:Hid (W.length<=1000/\∀r∈W,r.length<=1000000):=hid ⟨by have h1:=jI.len;have h2:=Dg.out.1;omega,fun r hr=>by have h1:=yQ r hr;omega⟩
 have HT:Hid (vD x W p l 400):=hid
  {chk:=fun s hs=>⟨jF hok (aR.qz jI) ((hl.mem s).1 hs).1,((hl.mem s).1 hs).2⟩
   b7:=CZ jI
   err:=fun W'=>Vm.CY RI.valid RI.named W' aC
   num:=by unfold yP;omega
   len:=by omega}
 have L0:Hid (sS tb x W (.agg #[.int .i64 x.aI,.slice ak x.ai.length ck,.slice al x.aN.length cl,.slice ar x.aO.length cr]) (.slice aw W.length cw) w2.heap.size w2):=hid
  {Cv:=fA.mono (DW.keep (aB.below hb2)) (fun b h _=>h)
   A5:=cZ.mono (cZ.keep hwf (aB.below hb2)) (fun b h _=>h)
   laid:=xS.out.next bK.out
   tab:=YX.out.below bK.out YX.out.lt (by have:=xS.out.size;omega)
   tbB:=XO YX.out.lt bK.out.size
   size:=Nat.le_trans xS.out.size bK.out.size
   le:=aH}
 have HOw:=hid (fun(X:World) (hX:BL w2 X)=>NU p (by have:=RI.len;omega) pv _ X (kF.keep hpv (aB.below (cO hb2 hX))));obtain⟨ap,cp,rfl, -, -, -⟩:=hpv.form;have hfit:=aR.qz jI;have AF:=HT.out.err W
 have WK:Hid (∀(X:World) (lo:Nat) (po:Value) (nn:Int),BL w2 X->w2.heap.size<=lo->lo<=X.heap.size->1<=nn/\nn<=251->kF (lo<=·) X po p->
   Calls Tryz.prog 7 #[.agg #[.int .i64 x.aI,.slice ak x.ai.length ck,.slice al x.aN.length cl,.slice ar x.aO.length cr],.slice aw W.length cw,po,.int .i64 400,.int .i64 nn,.int .i64 3] X fun e w'=>∃b jb gb gw hi,e=.returned (.tuple #[.pointer (some ⟨b,0,none⟩),.int .i64 0])/\
    PS tb x W p l 400 nn 3 w2.heap.size b jb gb gw lo hi ⟨List.replicate l.length Wk.zeroE,List.replicate 3 Wk.idle,0,0⟩ w'/\X.heap.size<=hi/\BL X w'):=hid (fun X lo po nn hX h1 h2 hn hp=>by
  obtain⟨a1,c1,rfl, -⟩:=hp.form;refine(Gq x W p l hl hok hfit Mi.out aC aC 400 HT.out.num AF nn hn.1 hn.2 3 aC aC ak al ar ck cl cr aw a1 cw c1 tb w2.heap.size lo X (L0.out.next hX) ⟨h1,h2⟩ (dO.mono aC cB hp (fun b _ hb=>.inr hb))).mono ?_;rintro e w' ⟨b,jb,gb,gw,aa,ca,hi,rfl,g1,g2,g3,g4,g5⟩;exact⟨b,jb,gb,gw,hi,rfl,⟨⟨_,_,_,_,_,_,_,_,_,_,_,_,g1,g2⟩,Wk.xJ _ _,g4⟩,g3,g5⟩)
 have Me:Hid (∀X,BL w2 X->CP 9 #[.agg #[.int .i64 x.aI,.slice ak x.ai.length ck,.slice al x.aN.length cl,.slice ar x.aO.length cr],.slice aw W.length cw,.int .i64 400] X fun e w'=>BL X w'/\∃aa ca,e=.returned (.tuple #[.slice aa l.length ca,.int .i64 0])):=hid (fun X hX=>
  (CJ x W l hl hok hfit Mi.out aC aC 400 _ _ tb _ X (L0.out.next hX)).mono (fun e w' h=>⟨h.1,by
   rcases h.2 with⟨h, -⟩|⟨-, -,⟨-,a,c,h, -⟩|⟨h, -⟩⟩
   ·omega
   ·exact⟨a,c,h⟩
   ·omega⟩))
 have aeF:=hid Vh;have HAc:=hid (fun(c:Int) (X:World) (h1: -9223372036854775808<=c) h2=>uP c 3 X h1 h2 aC aC);unfold di at hw2;have HW2:=hid hw2;clear hg DW jI hwf RI hpv hb1 hb2 hok hTo hl Vh hfit AF hw2 HM;go_upto_region 2 with fail;rw[<-HW2.out];obtain⟨c0,hc0,hc3⟩:∃n:Nat,around code 3=(n:Int)/\n<3:=⟨(around code 3).toNat,by have:=kP code 3 aC;omega,by have:=kP code 3 aC;omega⟩;have uG:=hid (HAc.out code w2 ZF.out.1 ZF.out.2);rw[hc0] at uG;clear hc0 ZF;go_wp2_with fail;refine uG.out.mono ?_;rintro e w' ⟨rfl,rfl⟩;clear uG;go_upto_region 3 with fail;obtain⟨nn,hnn⟩:=aV (1+(c0:Int):Int);rw[<-hnn];have Vl:Hid (1<=nn/\nn<=251):=hid aC;clear hnn hc3;obtain⟨K,hKw⟩:=aV W.length;obtain⟨np,hnp⟩:=aV p.length;rw[<-hKw] at WK Me ⊢;rw[<-hnp] at HOw ⊢;clear hKw hnp;have l8:=dL w2 ⟨w1.heap.size,0,none⟩ (.int .i64 x.aI) fun xh=>(aW (HX.out xh.1 (xh.2))).1.1;have kL:=dL w2 ⟨w1.heap.size,1,none⟩ (.slice ak x.ai.length ck) fun xh=>(aW (HX.out xh.1 (xh.2))).1.2.1;have l9:=dL w2 ⟨w1.heap.size,2,none⟩ (.slice al x.aN.length cl) fun xh=>(aW (HX.out xh.1 (xh.2))).1.2.2.1;have mR:=dL w2 ⟨w1.heap.size,3,none⟩ (.slice ar x.aO.length cr) fun xh=>(aW (HX.out xh.1 (xh.2))).1.2.2.2;refine sQ w2 10 (.quiet 0 (.quiet 1 (.quiet 2 (.quiet 4 (.one 3 (.one 5 (.quiet 6 (.quiet 7 (.quiet 8 (.quiet 9 .done)))))))))) lN (by kernel_rfl) fun Dw iK=>?_
 iterate 4 refine eB ?_
 refine aM rfl ?_;go_wp2_with fail;refine(HOw.out Dw (iK.out)).mono ?_;rintro e wop ⟨po,rfl,hpo,K8⟩;have JN:=aJ iK K8;have NX:Hid (kF (Dw.heap.size<=·) wop po p):=hid (Gr hpo);have Rh:=hid (WK.out wop Dw.heap.size po nn (JN.out) (iK.out.size) K8.size Vl.out NX.out);obtain⟨a1,n1,c1,rfl⟩:∃a n c,po=.slice a n c:=by obtain⟨a,c,e, -⟩:=NX.out.form;exact⟨_,_,_,e⟩
 clear hpo K8 NX;go_wp2_with fail;refine aD (BL w2) (fun _ h=>h) JN.out ?_;refine aM rfl ?_;go_wp2_with fail;refine Rh.out.mono ?_;rintro e w5 ⟨bp,Oc,rK,rL,J8,rfl,hps,hhi,VZ⟩;have qP:=aJ JN VZ;have MG:=hid hps;have HHp:Hid (w2.heap.size<=J8/\w2.heap.size<=Dw.heap.size):=hid ⟨Nat.le_trans JN.out.size hhi,iK.out.size⟩;clear hps hhi VZ Rh;go_wp2_with fail;refine aD (BL w2) (fun _ h=>h) qP.out ?_
 iterate 4 refine eB ?_
 refine aT ?_;try simp only[iW,iX]
 clear l8 kL l9 mR JN iK;have l8:=dL w5 ⟨w1.heap.size,0,none⟩ (.int .i64 x.aI) fun xh=>(aW (HX.out xh.1 (cO qP.out xh.2))).1.1;have kL:=dL w5 ⟨w1.heap.size,1,none⟩ (.slice ak x.ai.length ck) fun xh=>(aW (HX.out xh.1 (cO qP.out xh.2))).1.2.1;have l9:=dL w5 ⟨w1.heap.size,2,none⟩ (.slice al x.aN.length cl) fun xh=>(aW (HX.out xh.1 (cO qP.out xh.2))).1.2.2.1;have mR:=dL w5 ⟨w1.heap.size,3,none⟩ (.slice ar x.aO.length cr) fun xh=>(aW (HX.out xh.1 (cO qP.out xh.2))).1.2.2.2;go_upto_region 4 with fail;refine sQ w5 10 (.quiet 0 (.quiet 1 (.quiet 2 (.quiet 4 (.one 3 (.one 5 (.quiet 6 (.quiet 7 (.quiet 8 (.quiet 9 .done)))))))))) lN (by kernel_rfl) fun Xu iK=>?_
 iterate 4 refine eB ?_
 refine aM rfl ?_;go_wp2_with fail;refine(HOw.out Xu (cO qP.out iK.out)).mono ?_;rintro e woq ⟨po,rfl,hpo,K8⟩;have JN:=aJ iK K8;have NX:Hid (kF (Xu.heap.size<=·) woq po p):=hid (Gr hpo);have Rh:=hid (WK.out woq Xu.heap.size po nn (cO qP.out JN.out) (Nat.le_trans qP.out.size iK.out.size) K8.size Vl.out NX.out);obtain⟨a1,n1,c1,rfl⟩:∃a n c,po=.slice a n c:=by obtain⟨a,c,e, -⟩:=NX.out.form;exact⟨_,_,_,e⟩
 clear hpo K8 NX;go_wp2_with fail;refine aD (BL w5) (fun _ h=>h) JN.out ?_;refine aM rfl ?_;go_wp2_with fail;refine Rh.out.mono ?_;rintro e w6 ⟨bq,jbq,GK,GL,hiq,rfl,hps,hhi,VZ⟩;have aad:=aJ JN VZ;have Xt:=hid hps;have HHq:Hid (w5.heap.size<=hiq/\w5.heap.size<=Xu.heap.size):=hid ⟨Nat.le_trans JN.out.size hhi,iK.out.size⟩;clear hps hhi VZ Rh;go_wp2_with fail;refine aD (BL w5) (fun _ h=>h) aad.out ?_
 iterate 4 refine eB ?_
 refine aT ?_;try simp only[iW,iX]
 clear l8 kL l9 mR JN iK;have jS:=aJ qP aad.out;have ahQ:=hid (MG.out.next aad.out);clear Me WK HOw;obtain⟨ml,hml⟩:=aV l.length;have HMl:=hid hml;have Zh:ml<=64:=by have:=aeF.out;omega
 clear hml;have WN:=aJ bK jS.out;go_wp2_with fail;refine(HSc.out w6 WN.out).mono ?_;rintro e w7 ⟨ue,yR,rfl,hev,hen,mr⟩;obtain⟨ae,ce,rfl,hse, -⟩:=hev.form;have K7:=hid (ahQ.out.next mr);have Fx:=hid (Xt.out.next mr);have WM:=aJ WN mr;have HEv:=hid (fun(X:World) (hX:∀b,w6.heap.size<=b->b<w7.heap.size->X.heap[b]?=w7.heap[b]?) (j:Nat) (hj:j<yR.length)=>EvF.ats hev hX hj)
 have RE:Hid (∀y,bL bp rK rL y->y<w5.heap.size/\w2.heap.size<=y):=hid (fun y hy=>⟨MG.out.N8.1 y hy,by
  have h1:=MG.out.le3.1
  have h2:=HHp.out
  rcases hy with rfl|rfl|rfl<;>omega⟩)
 have HQl:Hid (∀y,bL bq GK GL y->y<w6.heap.size/\w5.heap.size<=y/\hiq<=y):=hid (fun y hy=>⟨Xt.out.N8.1 y hy,by
  have h1:=Xt.out.le3.1
  have h2:=HHq.out
  rcases hy with rfl|rfl|rfl<;>omega⟩)
 have HZs:Hid (w2.heap.size<=w5.heap.size/\w5.heap.size<=w6.heap.size/\w.heap.size<=w2.heap.size/\w6.heap.size<=w7.heap.size):=hid ⟨qP.out.size,aad.out.size,bK.out.size,mr.size⟩;have HPb:Hid (J8<=w5.heap.size/\Dw.heap.size<=w5.heap.size/\bp<w5.heap.size/\Oc<w5.heap.size/\rK<w5.heap.size/\rL<w5.heap.size):=hid ⟨by have:=MG.out.N8.2;have:=MG.out.le;omega,by have:=MG.out.N8.2;have:=MG.out.le;have:=MG.out.le3.2;omega,MG.out.N8.1 bp (.inl rfl),MG.out.N8.2,MG.out.N8.1 rK (.inr (.inl rfl)),MG.out.N8.1 rL (.inr (.inr rfl))⟩
 have PO:Hid (∀(s':Wk.Pl) (X Y:World),PS tb x W p l 400 nn 3 w2.heap.size bq jbq GK GL Xu.heap.size hiq s' X->Turns (bL bp rK rL) X Y->PS tb x W p l 400 nn 3 w2.heap.size bq jbq GK GL Xu.heap.size hiq s' Y):=hid (fun s' X Y h ht=>h.turn ht (fun y hy=>by
  have h1:=RE.out y hy;have h2:=HHq.out;have h3:=h.le3;have h4:=h.le;omega))
 have Du:Hid (∀(s':Wk.Pl) (X Y:World),PS tb x W p l 400 nn 3 w2.heap.size bp Oc rK rL Dw.heap.size J8 s' X->Turns (bL bq GK GL) X Y->PS tb x W p l 400 nn 3 w2.heap.size bp Oc rK rL Dw.heap.size J8 s' Y):=hid (fun s' X Y h ht=>h.turn ht (fun y hy=>by
  have h1:=HQl.out y hy;have h2:=HPb.out;have h3:=HZs.out;omega))
 have HSp:=hid (fun(i k t:Int) (s':Wk.Pl) (X:World) (h':PS tb x W p l 400 nn 3 w2.heap.size bp Oc rK rL Dw.heap.size J8 s' X) hr'=>qd i k t X HT.out h' hr' aC);have HSq:=hid (fun(i k t:Int) (s':Wk.Pl) (X:World) (h':PS tb x W p l 400 nn 3 w2.heap.size bq jbq GK GL Xu.heap.size hiq s' X) hr'=>qd i k t X HT.out h' hr' aC);have HWp:=hid (fun(s':Wk.Pl) (X:World) (h':PS tb x W p l 400 nn 3 w2.heap.size bp Oc rK rL Dw.heap.size J8 s' X)=>yT X h');have HWq:=hid (fun(s':Wk.Pl) (X:World) (h':PS tb x W p l 400 nn 3 w2.heap.size bq jbq GK GL Xu.heap.size hiq s' X)=>yT X h');obtain⟨N,hN⟩:=aV yR.length;rw[<-hN] at hse hen ⊢;have HN:=hid hN;generalize fI x W p 400 l=f at*
 have HEx:Hid (∀X,Turns (fun y=>bL bp rK rL y\/bL bq GK GL y) w7 X->∀b,w6.heap.size<=b->b<w7.heap.size->X.heap[b]?=w7.heap[b]?):=hid (fun X ht b h1 h2=>ht.block b (fun hs=>by
  have h3:=HZs.out;rcases hs with hs|hs
  ·have:=RE.out b hs;omega
  ·have:=HQl.out b hs;omega) h2)
 have HW0:Hid (Wk.Work 0 0 ⟨List.replicate l.length Wk.zeroE,List.replicate 3 Wk.idle,0,0⟩):=hid (Wk.Mu _ _);have HU0:Hid (Wk.Pure l.length 3 ⟨List.replicate l.length Wk.zeroE,List.replicate 3 Wk.idle,0,0⟩):=hid (Wk.Mt _ _);clear hev mr hN HSc MG Xt ahQ;go_wp2;go_loopw [20,21,22] (fun i20 i21 ii wr=>∃(j se ag:Nat) (sp sq:Wk.Pl),j<=N/\i20=.int .i64 (se:Int)/\i21=.int .i64 (ag:Int)/\ii=.int .i64 (j:Int)/\Hid (PS tb x W p l 400 nn 3 w2.heap.size bp Oc rK rL Dw.heap.size J8 sp wr)/\Hid (PS tb x W p l 400 nn 3 w2.heap.size bq jbq GK GL Xu.heap.size hiq sq wr)/\Hid (Turns (fun y=>bL bp rK rL y\/bL bq GK GL y) w7 wr)/\Hid (Wk.Work se ag sp)/\Hid (Wk.Pure l.length 3 sq)/\Hid (se<=j/\ag<=j)/\Hid (sp.runs<=j/\sp.cW<=j/\sq.runs<=j/\sq.cW<=j)) (fun _ _ ii _=>N-(intOf ii).toNat);case atStart=>exact⟨0,0,0,_,_,Nat.zero_le _,rfl,rfl,rfl,K7,Fx,hid (Turns.refl _ _),HW0,HU0,hid aZ,hid aZ⟩
 case round=>
  clear HW0 HU0;obtain⟨j,se,ag,sp,sq,hj,rfl,rfl,rfl,RH,HQj,WJ,HWj,HUj,HSj,XD⟩:=hrel;by_cases hlt:j<N
  ·have hj0:(0:Int)<=(j:Int):=by omega
   have hj1:(j:Int)<(N:Int):=by omega
   have hjl:j<yR.length:=by rw[<-HN.out];exact hlt
   have HXj:=hid (fun(X:World) (ht:Turns (fun y=>bL bp rK rL y\/bL bq GK GL y) w7 X)=>HEv.out X (HEx.out X ht) j hjl);generalize yR[j]=ev at*;obtain⟨e0,e1,e2⟩:=ev;simp only at HXj;clear hjl;obtain⟨x0,x1,x2⟩:=HXj.out wr WJ.out;go_wp2_with fail;refine(yO e0 e1 e2 wr).mono ?_;rintro e w8 ⟨rfl,oU⟩;have GJ:=hid (RH.out.next oU);have HQ8:=hid (HQj.out.next oU);have F6:Hid (Turns (fun y=>bL bp rK rL y\/bL bq GK GL y) w7 w8):=hid (WJ.out.trans (Turns.aQ oU));have WO:=hid (HSp.out e0 e1 e2 sp w8 GJ.out RQ);have Q0:=hid (RH.out.ok.step (c:=nn) (f:=f) e0 e1 e2).2;have M5:=hid (HWj.out.step RH.out.ok (c:=nn) (f:=f) e0 e1 e2);generalize Wk.bM nn f sp e0 e1 e2=r at*;obtain⟨Xv,z⟩:=r;simp only at WO Q0 M5;clear oU x0 x1 x2;go_wp2_with fail;refine WO.out.mono ?_;rintro e w9 ⟨rfl,hps,hts⟩;have RF:=hid hps;have HQ9:=hid (PO.out _ _ _ HQ8.out hts);have GF:Hid (Turns (fun y=>bL bp rK rL y\/bL bq GK GL y) w7 w9):=hid (F6.out.trans (hts.mono (fun b _ h=>.inl h)));have Bq:Hid (Xv.runs<=(j+1:Nat)/\Xv.cW<=(j+1:Nat)):=hid aeR;have Od:Hid ((if z=0/\e1=2 then se+1 else se)<=j+1/\(if z=0/\e1=3 then ag+1 else ag)<=j+1):=hid (by have:=HSj.out;constructor<;>split<;>omega);clear hps hts WO;obtain⟨x0,x1,x2⟩:=HXj.out w9 GF.out;go_upto_region 14 with fail;go_cut [105] from 96 to 105 (fun q wx=>∃bb,q=.bool bb/\Hid (bb=decide (z=0/\e1=2))/\w9=wx)
   case first=>
    by_cases hz:z=0
    ·subst hz
     by_cases he:e1=2
     ·subst he
      exact WQ
     ·have hde:decide ((0:Int)=0/\e1=2)=false:=decide_eq_false (fun h=>he h.2)
      have heb:(e1==2)=false:=by simpa using he
      exact Oe
    ·have hde:decide (z=0/\e1=2)=false:=decide_eq_false (fun h=>hz h.1)
     have Xb:(z==0)=false:=by simpa using hz
     exact Oe
   case rest=>
    obtain⟨b1,rfl,bf,rfl⟩:=hcut;obtain⟨se2,aeG⟩:∃n,n=if z=0/\e1=2 then se+1 else se:=⟨_,rfl⟩;rw[<-aeG] at M5 Od;have HSe:=hid aeG;clear aeG;go_upto_if 105 with fail;go_cut [20] from 106 to 107 (fun q wx=>q=.int .i64 (se2:Int)/\w9=wx)
    case first=>
     have hsj:=HSj.out;cases b1
     ·have h2:Hid (se2=se):=hid (by rw[HSe.out,if_neg (of_decide_eq_false bf.out.symm)])
      go_wp2;go_meet;case rel=>exact⟨by rw[h2.out],rfl⟩
     ·have h2:Hid (se2=se+1):=hid (by rw[HSe.out,if_pos (of_decide_eq_true bf.out.symm)])
      go_wp2;go_meet;case rel=>exact⟨by rw[h2.out];go_num,rfl⟩
    case rest=>
     obtain⟨rfl,rfl⟩:=hcut;go_upto_region 16 with fail;go_cut [117] from 108 to 117 (fun q wx=>∃bb,q=.bool bb/\Hid (bb=decide (z=0/\e1=3))/\w9=wx)
     case first=>
      by_cases hz:z=0
      ·subst hz
       by_cases he:e1=3
       ·subst he
        exact WQ
       ·have hde:decide ((0:Int)=0/\e1=3)=false:=decide_eq_false (fun h=>he h.2)
        have heb:(e1==3)=false:=by simpa using he
        exact Oe
      ·have hde:decide (z=0/\e1=3)=false:=decide_eq_false (fun h=>hz h.1)
       have Xb:(z==0)=false:=by simpa using hz
       exact Oe
     case rest=>
      obtain⟨b2,rfl,uZ,rfl⟩:=hcut;obtain⟨ag2,DH⟩:∃n,n=if z=0/\e1=3 then ag+1 else ag:=⟨_,rfl⟩;rw[<-DH] at M5 Od;have Xo:=hid DH;clear DH;go_upto_if 117 with fail;go_cut [21] from 118 to 119 (fun q wx=>q=.int .i64 (ag2:Int)/\w9=wx)
      case first=>
       have hsj:=HSj.out;cases b2
       ·have h2:Hid (ag2=ag):=hid (by rw[Xo.out,if_neg (of_decide_eq_false uZ.out.symm)])
        go_wp2;go_meet;case rel=>exact⟨by rw[h2.out],rfl⟩
       ·have h2:Hid (ag2=ag+1):=hid (by rw[Xo.out,if_pos (of_decide_eq_true uZ.out.symm)])
        go_wp2;go_meet;case rel=>exact⟨by rw[h2.out];go_num,rfl⟩
      case rest=>
       obtain⟨rfl,rfl⟩:=hcut;clear HSe Xo bf uZ;go_upto_region 18 with fail;go_cut [125] from 120 to 125 (fun q wx=>∃bb,q=.bool bb/\Hid (bb=decide (e1<3))/\w9=wx)
       case first=>
        exact WQ
       case rest=>
        obtain⟨b3,rfl,bZ,rfl⟩:=hcut;go_upto_if 125 with fail;go_cut [] from 126 to 132 (fun wx=>∃Og:Wk.Pl,Hid (PS tb x W p l 400 nn 3 w2.heap.size bp Oc rK rL Dw.heap.size J8 Xv wx)/\Hid (PS tb x W p l 400 nn 3 w2.heap.size bq jbq GK GL Xu.heap.size hiq Og wx)/\Hid (Turns (fun y=>bL bp rK rL y\/bL bq GK GL y) w7 wx)/\Hid (Wk.Pure l.length 3 Og)/\Hid (Og.runs<=(j+1:Nat)/\Og.cW<=(j+1:Nat)))
        case first=>
         cases b3
         case true=>
          have h3:e1<3:=of_decide_eq_true bZ.out.symm;go_wp2_with fail;refine(yO e0 e1 e2 w9).mono ?_;rintro e wa ⟨rfl,hba⟩;have HPa:=hid (RF.out.next hba);have HQa:=hid (HQ9.out.next hba);have Gi:Hid (Turns (fun y=>bL bp rK rL y\/bL bq GK GL y) w7 wa):=hid (GF.out.trans (Turns.aQ hba));have HSa:=hid (HSq.out e0 e1 e2 sq wa HQa.out RQ);have HIa:=hid (HQj.out.ok.step (c:=nn) (f:=f) e0 e1 e2).2;have HUa:=hid (HUj.out.step (c:=nn) (f:=f) e0 e1 e2 h3);generalize Wk.bM nn f sq e0 e1 e2=r at*;obtain⟨Og,z2⟩:=r;simp only at HSa HIa HUa;clear hba;go_wp2_with fail;refine HSa.out.mono ?_;rintro e wb ⟨rfl,hps,hts⟩;have HQb:=hid hps;have HPb2:=hid (Du.out _ _ _ HPa.out hts);have HTb2:Hid (Turns (fun y=>bL bp rK rL y\/bL bq GK GL y) w7 wb):=hid (Gi.out.trans (hts.mono (fun b _ h=>.inr h)));have HRb:Hid (Og.runs<=(j+1:Nat)/\Og.cW<=(j+1:Nat)):=hid (by have h1:=HIa.out;have h2:=XD.out;unfold Wk.Inc at h1;omega);clear hps hts HSa;go_wp2;go_meet;case rel=>exact⟨Og,HPb2,HQb,HTb2,HUa,HRb⟩
         case false=>
          have HRb:Hid (sq.runs<=(j+1:Nat)/\sq.cW<=(j+1:Nat)):=hid RQ;go_wp2;go_meet;case rel=>exact⟨sq,RF,HQ9,GF,HUj,HRb⟩
        case rest=>
         obtain⟨Og,HPc,HQc,HTc,HUc,Vg⟩:=hcut;clear x0 x1 x2;have HW1:=hid (HWp.out Xv wc HPc.out);obtain⟨g1,g2,g3⟩:=M5.out;have hg1:¬Xv.runs<(se2:Int):=by omega
         have hg2:¬Xv.cW<(ag2:Int):=by omega
         have hg3:¬(ag2:Int)+(se2:Int)<Xv.cW:=by omega
         have hg4:Og.cW=0:=HUc.out.re;have hs2:(se2:Int)<=61:=by have:=Od.out.1;omega
         have ha2:(ag2:Int)<=61:=by have:=Od.out.2;omega
         go_wp2_with fail;refine HW1.out.mono ?_;rintro e wd ⟨rfl,hbd⟩;have HPd:=hid (HPc.out.next hbd);have HQd:=hid (HQc.out.next hbd);have HTd:Hid (Turns (fun y=>bL bp rK rL y\/bL bq GK GL y) w7 wd):=hid (HTc.out.trans (Turns.aQ hbd));have HW2:=hid (HWq.out Og wd HQd.out);rw[hg4] at HW2;clear hbd HW1;go_wp2_with fail;refine HW2.out.mono ?_;rintro e we ⟨rfl,hbe⟩;have HPe:=hid (HPd.out.next hbe);have HQe:=hid (HQd.out.next hbe);have HTe:Hid (Turns (fun y=>bL bp rK rL y\/bL bq GK GL y) w7 we):=hid (HTd.out.trans (Turns.aQ hbe));have HRe:Hid (Xv.runs<=(j+1:Nat)/\Xv.cW<=(j+1:Nat)/\Og.runs<=(j+1:Nat)/\Og.cW<=(j+1:Nat)):=hid ⟨Bq.out.1,Bq.out.2,Vg.out.1,Vg.out.2⟩;clear hbe HW2 g1 g2 g3 hg4;go_wp2;go_roundw;case rel=>exact⟨j+1,se2,ag2,Xv,Og,by omega,rfl,rfl,by go_num,HPe,HQe,HTe,M5,HUc,Od,HRe⟩
         simp[intOf];omega
  ·obtain rfl:N=j:=by omega
   have HBf:Hid (BL w wr):=hid (WM.out.trans (WJ.out.below WM.out.size (fun y hy=>by
    have h3:=HZs.out;rcases hy with hy|hy
    ·have:=RE.out y hy;omega
    ·have:=HQl.out y hy;omega)))
   go_wp2_with fail;refine(HLi.out wr HBf.out).mono ?_;rintro e wg ⟨rfl,hbg⟩;have Kx:=aJ HBf hbg;clear hbg;go_wp2;go_ret;exact⟨rfl,Kx.out⟩
end Go.Proofs.YteiakkfdchnddaaGreatDoor
