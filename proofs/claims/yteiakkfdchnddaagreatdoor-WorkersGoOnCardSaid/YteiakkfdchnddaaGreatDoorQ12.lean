/- Part 12 of the walks and plain laws that the proof needs (packed). -/
import Derived.Laws.IdiomStrings
import Derived.Laws.BytesArg
import Derived.StringKeys
import Derived.Shelf.SlSortCmp.NoneTotal
import Derived.Ground.SlsfProg
import Derived.Test.YteiakkfdchnddaaGreatDoorQ1
import Derived.Test.YteiakkfdchnddaaGreatDoorQ6
import Derived.Test.YteiakkfdchnddaaGreatDoorQ11
set_option linter.all false
set_option maxRecDepth 100000
set_option maxHeartbeats 8000000
namespace Go.Proofs.YteiakkfdchnddaaGreatDoor
open Go.RowKit
attribute [local go_sem] Oper.semAt_some
theorem xE{S:Nat->Prop}{w w':World}{base:Nat}{e:TypeId}{size:Nat}{v:Value}{n:Nat}{us:List Value}(h:w.ownsRow base e size v n us)(hS:∀b,v.ownBlock=some b->S b)
  (hk:∀b c t fr,S b->w.heap[b]?=some (.cells c t fr)->w'.heap[b]?=some (.cells c t fr)):w'.ownsRow base e size v n us:=by
 refine⟨h.1,?_⟩;rcases h.2 with h2|⟨g,cap,cur,rfl,hb,hg,r⟩
 ·exact .inl h2
 ·exact .inr ⟨g,cap,cur,rfl,hb,hk _ _ _ _ (hS g rfl) hg,r⟩
theorem Ma{S:Nat->Prop}{w w':World}{v:Value}{xs:List Int}(h:dr S w v xs)(hk:∀b c t fr,S b->w.heap[b]?=some (.cells c t fr)->w'.heap[b]?=some (.cells c t fr)):dr S w' v xs:=⟨xE h.1 h.2 hk,h.2⟩
theorem Fe{α:Type}{RR:(Nat->Prop)->World->Value->α->Prop}(hR:∀{S w w' u x},RR S w u x->(∀b c t fr,S b->w.heap[b]?=some (.cells c t fr)->w'.heap[b]?=some (.cells c t fr))->RR S w' u x){e:TypeId}{S:Nat->Prop}{w w':World}{v:Value}{xs:List α}(h:iM RR e S w v xs)
  (hk:∀b c t fr,S b->w.heap[b]?=some (.cells c t fr)->w'.heap[b]?=some (.cells c t fr)):iM RR e S w' v xs:=by
 obtain⟨h1,us,Z,h2,h3,h4⟩:=h;exact⟨h1,us,Z,xE h2 h1 hk,h3,fun j a b=>hR (h4 j a b) (fun b' c t fr hb=>hk b' c t fr hb.1)⟩
theorem Mb{S:Nat->Prop}{w w':World}{v:Value}{xs:List (List Int)}(h:lP S w v xs)(hk:∀b c t fr,S b->w.heap[b]?=some (.cells c t fr)->w'.heap[b]?=some (.cells c t fr)):lP S w' v xs:=
 Fe (RR:=dr) (fun h hk=>Ma h hk) h hk
theorem sW{S:Nat->Prop}{w w':World}{v:Value}{xs:ah.cG}(h:bY S w v xs)(hk:∀b c t fr,S b->w.heap[b]?=some (.cells c t fr)->w'.heap[b]?=some (.cells c t fr)):bY S w' v xs:=
 Fe (RR:=lP) (fun h hk=>Mb h hk) h hk
theorem VE{w:World}{p:Addr}{v:Value}(h:w.cell? p=some v):∃o,w.heap[p.block]?=some o/\¬book o:=by
 have hlt:=xN w p h;refine⟨w.heap[p.block],Array.getElem?_eq_getElem hlt,fun hb=>?_⟩;unfold World.cell? at h;rw[Array.getElem?_eq_getElem hlt] at h;generalize w.heap[p.block]=o at*;cases o<;>simp_all [book]
theorem Mc(x:ah.bF)(W:ah.cG)(s:Sub.S)(hc:aR.kC x W s=0)(hval:Sub.valid (aR.wrong (aR.cN x) W) s=true)(mr:∀k i j:Nat,(ah.fd x k j).kind=7-> -1000<=aR.nV W k i j/\aR.nV W k i j<=1000)
  (v u t:Value)(U:Nat->Prop)(tb B:Nat)(w:World)(ha:sS tb x W v u B w)(hs:cQ U w t s):
  Calls Tryz.prog 87 #[v,u,t] w fun e w'=>∃r,e=.returned (.tuple #[r,.int .i64 0])/\bY (w.heap.size<=·) w' r (aR.ji x W s)/\BL w w':=by
 obtain⟨hfw,hfit⟩:=iD hc
 have hok:ah.okB x=true:=by
  unfold aR.kC at hc;by_cases h1:ah.okB x=true
  ·exact h1
  ·rw[if_neg h1] at hc;omega
 obtain⟨ak,ck,al,cl,ar,cr,rfl, -⟩:=ha.Cv.form;obtain⟨aw,cw,rfl,hsw, -, -⟩:=ha.A5.form;obtain⟨K,hK⟩:=aV W.length;have hlen:=hfw.len;have hK6:K<=6:=by have:=hfw.ai;omega
 obtain⟨w1,hw1⟩:=aV ((di w x.aI (.slice ak x.ai.length ck) (.slice al x.aN.length cl) (.slice ar x.aO.length cr)).alloc (.cells #[.slice aw W.length cw] 29));have bf:Hid (Below w.heap.size w w1):=hid acj;have HX:Hid (∀V,BL w1 V->V.heap[w.heap.size]?=some (.cells #[.int .i64 x.aI,.slice ak x.ai.length ck,.slice al x.aN.length cl,.slice ar x.aO.length cr] 27 (0,0))):=hid (fun V hV=>(hV.block _ RO).trans Xw);have HU:Hid (∀V,BL w1 V->V.heap[w.heap.size+1]?=some (.cells #[.slice aw W.length cw] 29 (0,0))):=hid (fun V hV=>(hV.block _ XI).trans Ke);have hz1:w.heap.size+2<=w1.heap.size:=by rw[hw1];simp[di]
 unfold di at hw1;have HW1:=hid hw1;clear hw1;have I9:=hid (fun(X:World) (hX:BL w X)=>mO x W s hc _ _ t _ _ U tb X (ha.next hX).Cv (ha.next hX).A5 (hs.keep (aB.below hX)) (ha.next hX).laid (ha.next hX).tab);have Rm:=hid (fun(X:World) (hX:BL w X)=>L6 x W s hc _ _ t U tb B X (ha.next hX) (hs.keep (aB.below hX)));have PN:=hid hval;have Md:=hid ha;have HS:=hid (cQ.mono (S':=(·<w.heap.size)) hs (fun b hb _=>hb));obtain⟨wU,cs,rfl,hss, -, -⟩:=hs.form;have tY:=hid hfw;have DM:=hid hfit;have HOk:=hid hok;have Rx:=hid hK;have lM:=hid mr;have hmm:= @run_makeMap Tryz.prog;have hmk:=fun X=>tG (P:=Tryz.prog) (t:=29) (e:=96) (b:=24) (by kernel_rfl) (by kernel_rfl) aC K aC X;rw[<-hK] at hsw HU HW1 I9 Rm;clear hs ha hfw hfit hok hc hval mr hlen;obtain⟨⟨y0,y1,y2,y3⟩, -⟩:=aW (HX.out w1 ay);have u0:=(one_cell (HU.out w1 ay)).1;rw[<-callsIn_wide (n:=5)];refine callsIn_of_wp_marks Tryz.func87 rfl trivial ?_ rfl;simp only[Tryz.ntmps87,List.size_toArray,List.length_cons,List.length_nil,Nat.reduceAdd,Nat.reduceSub,Array.replicate_succ,Array.replicate_zero,List.push_toArray,List.append_toArray,List.nil_append,List.cons_append];rw[wpIn_wide];rw[<-hK];clear hK;go_upto_region 1 with fail;rw[<-HW1.out];go_wp2_with fail;refine(I9.out w1 bf.out).mono ?_;rintro e w2 ⟨rfl,hb⟩;have eC:Hid (BL w1 w2):=hid hb;have bK:=aJ bf hb;clear hb y0 y1 y2 y3 u0;obtain⟨⟨y0,y1,y2,y3⟩, -⟩:=aW (HX.out w2 eC.out);have u0:=(one_cell (HU.out w2 eC.out)).1;go_wp2_with fail;refine(Rm.out w2 bK.out).mono ?_;rintro e w3 ⟨rfl,hb⟩;rw[PN.out];have gj:=aJ eC hb;have bZ:=aJ bK hb;have Eo:=gj.out.size;clear hb y0 y1 y2 y3 u0;obtain⟨wa,hwa⟩:=aV ((w3.alloc (.map #[] 0)).alloc (.cells #[.map (some w3.heap.size)] 174));have A7:Hid (Below w3.heap.size w3 wa):=hid (by rw[hwa];exact(ay.alloc aH _).alloc aZ _);have HMa:Hid (wa.heap[w3.heap.size+1]?=some (.cells #[.map (some w3.heap.size)] 174 (0,0))):=hid (by rw[hwa];exact aP _ _ aZ)
 have HCa:Hid (dK wa w3.heap.size 0 (fun _ _=>0)):=hid (by
  have h0:=dK.made w3
  rw[hwa]
  exact h0.keep ((ay.alloc aH _).block _ h0.lt))
 have HZa:Hid (wa.heap.size=w3.heap.size+2):=hid (by rw[hwa];simp);have HWa:=hid hwa;clear hwa;go_upto_region 7 with fail;rw[<-HWa.out];obtain⟨w4,hw4⟩:=aV ((wa.alloc (.cells (iw K) 96)).alloc (.cells #[.slice (some ⟨wa.heap.size,0,none⟩) K K] 29));have ad1:Hid (Below wa.heap.size wa w4):=hid (by rw[hw4];exact(ay.alloc aH _).alloc aZ _);have f9:=aJ A7 ad1.out;have WT:Hid (w4.heap[w3.heap.size+1]?=some (.cells #[.map (some w3.heap.size)] 174 (0,0))):=hid ((ad1.out.block _ (aj HMa.out)).trans HMa.out);have Y0:Hid (w4.heap[w3.heap.size+3]?=some (.cells #[.slice (some ⟨wa.heap.size,0,none⟩) K K] 29 (0,0))):=hid (by rw[hw4];exact aP _ _ (by simp[HZa.out]));have EW:Hid (dK w4 w3.heap.size 0 (fun _ _=>0)):=hid (HCa.out.keep (ad1.out.block _ HCa.out.lt))
 have Xp:Hid (bY (fun b=>b=w3.heap.size+2) w4 (.slice (some ⟨wa.heap.size,0,none⟩) K K) (aR.mg W K [])):=hid (by
  have h0:=zC wa K aC
  have h1:=cC.mono (S':=fun b=>b=w3.heap.size+2) h0 (fun b hlt (hb:wa.heap.size<=b)=>by
   rw[World.size_alloc] at hlt;have:=HZa.out;omega)
  rw[aR.Vz,hw4]
  exact cC.keep h1 (aB.below (ay.alloc aH _)))
 have Ng:w3.heap.size+4=w4.heap.size:=by rw[hw4];simp[HZa.out]
 have Dq:=hid hw4;have HZ4:=hid Ng;have hz4':w3.heap.size+4<=w4.heap.size:=by omega
 clear hw4 Ng;have u0:=(one_cell (HU.out wa (gj.out.trans (A7.out.mono Eo)))).1;go_upto_region 8 with fail;rw[<-Dq.out];rw[HZa.out] at Y0 Xp ⊢;clear u0 hmk hmm;go_wp2_with fail;refine(sP _ _ _ _).mono ?_;rintro e w5 ⟨rfl,mq⟩;have jR:BL w4 w5:=by rw[mq];exact ay.alloc aH _
 have Cw:w5.heap[w4.heap.size]?=some (.cells #[.slice wU s.length cs] 61 (0,0)):=by rw[mq];exact aP _ _ rfl
 have Rk:=aj Cw;have hzw:w.heap.size+2<=w5.heap.size:=by omega
 have fF:Hid (BL w3 w5):=hid (f9.out.trans (jR.mono aC));have DZ:Hid (BL w w5):=hid (bZ.out.trans (fF.out.mono aC));have jQ:Hid (BL w1 w5):=hid (gj.out.trans (fF.out.mono aC));have WU:Hid (w5.heap[w3.heap.size+1]?=some (.cells #[.map (some w3.heap.size)] 174 (0,0))):=hid ((jR.block _ aC).trans WT.out);have U4:Hid (w5.heap[w3.heap.size+3]?=some (.cells #[.slice (some ⟨w3.heap.size+2,0,none⟩) K K] 29 (0,0))):=hid ((jR.block _ aC).trans Y0.out);have I5:Hid (dK w5 w3.heap.size 0 (fun _ _=>0)):=hid (EW.out.keep (jR.block _ aC));have HV5:Hid (bY (fun b=>b=w3.heap.size+2\/w5.heap.size<=b) w5 (.slice (some ⟨w3.heap.size+2,0,none⟩) K K) (aR.mg W K [])):=hid (cC.mono (cC.keep Xp.out (aB.below jR)) (fun b _ hb=>.inl hb))
 have Jh:Hid (sN (α:=Nat×Nat) Tryz.prog w.heap.size w5.heap.size 86 #[.pointer (some ⟨w4.heap.size,0,none⟩)] (fun x=> #[.agg #[.int .i64 (x.1:Int),.int .i64 (x.2:Int)]]) (fun pre x _=>pre++[x]<+:Sub.kept s) (fun b o=>(b=w3.heap.size\/b=w3.heap.size+2\/w5.heap.size<=b)/\¬book o) (fun _ _=>False) (fun xs _=>xs=Sub.kept s) w5):=
  hid (pU s w.heap.size w5.heap.size w4.heap.size _ (·<w.heap.size) _ w5 aC (HS.out.keep (aB.below DZ.out)) Cw (fun o h=>by rcases h.1 with h|h|h<;>omega) (fun Y ht=>aB.aQ ht.1 (fun _ h=>h)))
 clear mq jR Cw;go_wp2;rw[<-wpIn_wide (n:=5)]
 refine l7 (α:=Nat×Nat) (n0:=w.heap.size) (gf:=86) rfl (bE Tryz.func86 (by kernel_rfl) rfl) (fun _=>rfl) Jh.out aC (fun _ _ h=>h.elim) (fun _ _ h=>h.2)
  (fun pre Y=>aS (fun b o=>((b=w3.heap.size\/b=w3.heap.size+2\/w5.heap.size<=b)/\¬book o)\/bH w5.heap.size b o) w.heap.size w5 Y/\bY (fun b=>b=w3.heap.size+2\/w5.heap.size<=b) Y (.slice (some ⟨w3.heap.size+2,0,none⟩) K K) (aR.mg W K pre)/\
   ∃F,dK Y w3.heap.size pre.length F/\∀p∈pre,F p.1 p.2=(aR.eD s p.1 p.2:Nat)) (fun _ _=>False)
  (fun pre A B h ht=> ?hI) (fun _ _ _ h _=>h) (fun _ _ _ h _=>h) ⟨aS.refl _ _ _,HV5.out,_,I5.out,fun p hp=>absurd hp aZ⟩ ?lm ?hdone ?hstop
 case hI=>
  have ht':=ht.mono (A':=bH w5.heap.size) (fun b o h=>h.elim False.elim id);refine⟨h.1.trans (ht.mono (fun b o h=>h.elim False.elim .inr)),sW h.2.1 (fun b c t fr _ hb=>ht'.2 _ _ hb Ac),?_⟩;obtain⟨F,f1,f2⟩:=h.2.2;refine⟨F,f1.keep ?_,f2⟩;have ho:A.heap[w3.heap.size]?=some (A.heap[w3.heap.size]'f1.lt):=Array.getElem?_eq_getElem f1.lt;rw[ho];exact ht'.2 _ _ ho (fun h=>f1.obj ho h.2)
 case lm=>
  rintro l pre y Y hlr ⟨hI1,xM,F,J7,hI4⟩ L5;obtain⟨k,i⟩:=y;simp only[List.zip_toArray,List.zip_cons_cons,List.zip_nil_left];have hsY:=hI1.1.size;gi_wp2;refine⟨(aS.refl _ _ _).alloc aC _,fun Y2 ht2 hs2 hl2=>?_⟩;have nF:Hid (Y2.heap[Y.heap.size]?=some (.cells #[.int .i64 (k:Int),.int .i64 (i:Int)] 146 (0,0))):=hid (ht2.2 _ _ (aP _ _ rfl) Ac);have qt:Hid (aS (fun b o=>((b=w3.heap.size\/b=w3.heap.size+2\/w5.heap.size<=b)/\¬book o)\/bH w5.heap.size b o) w.heap.size w5 Y2):=hid ((hI1.alloc aC _).trans (ht2.mono (fun b o h=>.inr h)));have vG:Hid (∀b o,Y.heap[b]?=some o->¬book o->Y2.heap[b]?=some o):=hid (fun b o h hb=>ht2.2 _ _ (aY _ h) (fun h2=>hb h2.2));have Pt:Hid (bY (fun b=>b=w3.heap.size+2\/w5.heap.size<=b) Y2 (.slice (some ⟨w3.heap.size+2,0,none⟩) K K) (aR.mg W K pre)):=hid (sW xM (fun b c t fr _ hb=>vG.out _ _ hb (by simp[book])))
  have NG:Hid (dK Y2 w3.heap.size pre.length F):=hid (J7.keep (by
   have ho:Y.heap[w3.heap.size]?=some (Y.heap[w3.heap.size]'J7.lt):=Array.getElem?_eq_getElem J7.lt
   rw[ho]
   exact vG.out _ _ ho (J7.obj ho)))
  have D9:=hid hI4
  have ZA:∀b c t fr,b≠w3.heap.size->b≠w3.heap.size+2->b<w5.heap.size->w5.heap[b]?=some (.cells c t fr)->Y2.heap[b]?=some (.cells c t fr):=fun b c t fr h1 h2 h3 hb=>qt.out.2 _ _ hb (by
   rintro (h|h)
   ·rcases h.1 with h|h|h<;>omega
   ·simp[bH,book] at h)
  have yc:Hid (Y2.heap[w3.heap.size+1]?=some (.cells #[.map (some w3.heap.size)] 174 (0,0))):=hid (ZA _ _ _ _ aC aC aC WU.out);have wR:Hid (Y2.heap[w3.heap.size+3]?=some (.cells #[.slice (some ⟨w3.heap.size+2,0,none⟩) K K] 29 (0,0))):=hid (ZA _ _ _ _ aC aC aC U4.out);have JV:Hid (Y2.heap[w.heap.size+1]?=some (.cells #[.slice aw K cw] 29 (0,0))):=hid (ZA _ _ _ _ aC aC aC (HU.out w5 jQ.out));have hmem:(k,i)∈Sub.kept s:=L5.subset aZ;obtain⟨oL,Dv⟩:=aR.yF DM.out (Sub.dX.1 hmem);have Ge:i<W[k].length:=by unfold aR.bV at Dv;rwa [Sub.aX oL] at Dv
  have hkK:k<K:=by rw[Rx.out];exact oL
  have hkP:k<(aR.mg W K pre).length:=by rw[aR.Jk];exact hkK
  have hnew:=aR.Zy DM.out L5;have HGp:=hid L5
  have hpl:pre.length<=512:=by
   have h1:=L5.length_le;have h2:=nQ DM.out;have h3:=tY.out.tot;rw[rG] at h1;unfold Sub.size at h2;omega
  obtain⟨gb,Yg,uu,TT,e1,e2,e3,O1,hcg,hfg,GD,Nh, -,hback⟩:=iM.borrow gF Pt.out k hkP
  have hgg:w3.heap.size+2=gb:=by
   exact Ic
  subst hgg;obtain⟨nu,hnu⟩:=aV ((aR.mg W K pre)[k].length);have agI:nu=aR.eD s k i:=by rw[hnu,aR.A6,FD];exact hnew
  obtain⟨ua,uc,rfl,hua, -, -⟩:=(lP.sl GD).form;rw[<-hnu] at GD hcg hua hback;have HUc:=hid hcg;have agJ:=hid agI
  have hnl:nu<=512:=by
   have:=aR.A1 s k i;have h4:W[k].length<=ah.total W:=iI oL;have h5:=tY.out.tot;omega
  have Ap:Hid (tN (k:Int)/\tN (i:Int)):=hid ⟨⟨by omega,by omega⟩,⟨by omega,by have h4:W[k].length<=ah.total W:=iI oL;have h5:=tY.out.tot;omega⟩⟩;have agK:Hid (tN (nu:Int)):=hid ⟨by omega,by omega⟩;have acO:dI (some ⟨w3.heap.size+2,0,none⟩) K:=fun _=>⟨_,_,rfl⟩;have hk0:(0:Int)<=(k:Int):=by omega
  have hk1:(k:Int)<(K:Int):=by omega
  have hsz2:w5.heap.size<=Y2.heap.size:=qt.out.1.size;have ZB:=hid Ge;have ad2:=hid oL;clear hI1 xM J7 hI4 hs2 ht2 ZA hmem Dv hnew L5 e1 e2 e3 hcg hfg GD Nh hback hnu agI Ge;gi_wp2;have hqm:=dL Y2 ⟨w3.heap.size+1,0,none⟩ (.map (some w3.heap.size)) fun xh=>(one_cell ((xh.2.block _ (aj yc.out)).trans yc.out)).1;have Q7:=dL Y2 ⟨w3.heap.size+3,0,none⟩ (.slice (some ⟨w3.heap.size+2,0,none⟩) K K) fun xh=>(one_cell ((xh.2.block _ (aj wR.out)).trans wR.out)).1;have Co:=dL Y2 ⟨Y.heap.size,0,none⟩ (.int .i64 (k:Int)) fun xh=>(qH ((xh.2.block _ (aj nF.out)).trans nF.out)).1.1;have Cp:=dL Y2 ⟨Y.heap.size,1,none⟩ (.int .i64 (i:Int)) fun xh=>(qH ((xh.2.block _ (aj nF.out)).trans nF.out)).1.2;have hqu:=dL Y2 ⟨w3.heap.size+2,k,none⟩ (.slice ua nu uc) fun xh=>(World.cell?_of_block (w:=Y2) (a:=⟨w3.heap.size+2,k,none⟩) (xh.2.block _ (xN Y2 ⟨w3.heap.size+2,k,none⟩ HUc.out))).trans HUc.out;refine oB 8 (.quiet 0 (.quiet 1 (.quiet 2 (.quiet 3 (.quiet 4 (.quiet 5 (.quiet 6 (.quiet 7 .done)))))))) (BL Y2) (by kernel_rfl) (by kernel_rfl) (by kernel_rfl) (aG ay 1) ?_;intro KK hKK;have oT:Hid (BL Y2 (Y2.drewN 1)):=hid (aG ay 1);have wS:Hid (dK (Y2.drewN 1) w3.heap.size pre.length F):=hid (NG.out.keep rfl);generalize Y2.drewN 1=Y3 at*;obtain⟨Y4,hput,hC4,hT4⟩:=wS.out.put aC (v:=(nu:Int)) Ap.out.1 Ap.out.2 agK.out;unfold rA at hput;have EW:=hid hC4;have OH:=hid hT4;clear hC4 hT4
  iterate 8 refine eB ?_
  refine aT ?_;try simp only[iW,iX]
  clear hqm Q7 Co Cp hqu;have hob:∀b o,b=w3.heap.size->Y3.heap[b]?=some o->¬book o:=fun b o e ho=>by subst e;exact wS.out.obj ho
  have ZC:Hid (aS (fun b o=>(b=w3.heap.size\/b=w3.heap.size+2\/w5.heap.size<=b)/\¬book o) w.heap.size Y2 Y4):=hid ((aS.aQ oT.out aC).trans (aS.eG OH.out (by have:=oT.out.size;omega) (fun b (e:b=w3.heap.size)=>by omega) (fun b o (e:b=w3.heap.size) ho=>⟨.inl e,hob b o e ho⟩)));have ZE:Hid (∀b,b≠w3.heap.size->b<Y2.heap.size->Y4.heap[b]?=Y2.heap[b]?):=hid (fun b h1 h2=>(OH.out.block b h1 (by have:=oT.out.size;omega)).trans (oT.out.block b h2));have hz24:Y2.heap.size<=Y4.heap.size:=by have:=oT.out.size;have:=OH.out.size;omega
  clear hob wS oT;go_wp2;refine hKK _ _ ?_;clear hKK;have HV4b:Hid (bY (fun b=>b=w3.heap.size+2\/w5.heap.size<=b) Y4 (.slice (some ⟨w3.heap.size+2,0,none⟩) K K) (aR.mg W K pre)):=hid (cC.keep Pt.out (fun b hb hlt=>ZE.out b (by rcases hb with h|h<;>omega) hlt));have agL:Hid (Y4.heap[w3.heap.size+3]?=some (.cells #[.slice (some ⟨w3.heap.size+2,0,none⟩) K K] 29 (0,0))):=hid ((ZE.out _ aC (aj wR.out)).trans wR.out);have agM:Hid (Y4.heap[w.heap.size+1]?=some (.cells #[.slice aw K cw] 29 (0,0))):=hid ((ZE.out _ aC (aj JV.out)).trans JV.out);have VF:Hid (Y4.heap[Y.heap.size]?=some (.cells #[.int .i64 (k:Int),.int .i64 (i:Int)] 146 (0,0))):=hid ((ZE.out _ aC (aj nF.out)).trans nF.out);have agN:Hid (BL w Y4):=hid (DZ.out.trans (qt.out.1.trans ZC.out.1));have agO:k<(aR.mg W K pre).length:=by rw[aR.Jk];exact hkK
  obtain⟨gb,Yg,uu,TT,e1,e2,e3,O1,hcg,hfg,GD,Nh, -,hback⟩:=iM.borrow gF HV4b.out k agO
  have hgg:w3.heap.size+2=gb:=by
   exact Ic
  subst hgg;obtain⟨va,vc,rfl,YD, -, -⟩:=(lP.sl GD).form
  have D1:Hid (∀b,some b=(Value.slice va (aR.mg W K pre)[k].length vc).ownBlock->w5.heap.size<=b/\b≠Y.heap.size/\TT b/\∃c,Y4.heap[b]?=some (.cells c 22 (0,0))):=hid (fun b hb=>by
   obtain⟨hr1,us,Z,AJ, -⟩:=GD;have hTb:=hr1 b hb.symm;have h3:=Nh b hTb;rcases AJ.2 with⟨h0,_⟩|⟨g2,c2,cur,hv2,hb2,hg2,_⟩
   ·rw[h0] at hb;cases hb
   ·rw[hv2] at hb
    cases hb;refine⟨by rcases h3.1 with h|h<;>omega,fun e=>?_,hTb,_,hg2⟩;have e':g2=Y.heap.size:=e;rw[e'] at hg2;rw[VF.out] at hg2;cases hg2)
  obtain⟨nv,hnv⟩:=aV ((aR.mg W K pre)[k].length)
  have hnvl:nv<=512:=by
   rw[hnv,aR.A6,FD];exact Nat.le_trans (List.length_filter_le _ _) hpl
  rw[<-hnv] at GD hcg YD hback D1;have HNv:=hid hnv;clear hnv;have HRg:=hid GD;have TD:=hid Nh;have Rl:=hid hback;obtain⟨uk,Cq,M4⟩:=Md.out.A5.rA ad2.out;obtain⟨ka,kc,rfl,hka, -, -⟩:=Cq.form;obtain⟨ui,Cr,hui⟩:=Cq.rA ZB.out;obtain⟨ra,rc,rfl,hra, -, -⟩:=Cr.form;have Pu:Hid (∀V,BL w V->aB (·<B) w V):=hid (fun V hV=>aB.aQ (hV.mono Md.out.le) (fun _ h=>h))
  have hrl:W[k][i].length<=100:=by
   have h1:=tY.out.qv k ad2.out _ (gY ZB.out);have h2:=tY.out.aA k;omega
  have HCl:=hid (fun V (hV:BL w V)=>OC W[k][i] aC _ _ V (Cr.keep (Pu.out V hV)));have LX:Hid (W[k][i]=aR.L7 W k i):=hid (by unfold aR.L7;rw[Sub.aX ad2.out,Sub.aX ZB.out];rfl);have hi0:(0:Int)<=(i:Int):=by omega
  have hi1:(i:Int)<(W[k].length:Int):=by have:=ZB.out;omega
  have F5:Hid (∀V,Turns (fun b=>some b=(Value.slice va nv vc).ownBlock) Y4 V->BL w V):=hid (fun V hV=>agN.out.trans (hV.below agN.out.size (fun b hb=>by have:=(D1.out b hb).1;omega)));have HCg:=hid hcg;have hskv:dI (some ⟨w3.heap.size+2,0,none⟩) K:=fun _=>⟨_,_,rfl⟩;have HHuk:=hid M4;have HHui:=hid hui;clear e1 e2 e3 hcg hfg GD Nh hback Cq Cr M4 hui hput;generalize W[k][i]=row at*;generalize W[k].length=nk at*;generalize hrn:row.length=nrw at*;have HRn:=hid hrn;clear hrn;obtain⟨Φ,hΦ⟩:∃Φ:World->Prop,Φ=fun V=>Turns (fun b=>some b=(Value.slice va nv vc).ownBlock) Y4 V:=⟨_,rfl⟩;have Vq:Hid (∀V,Φ V->Turns (fun b=>some b=(Value.slice va nv vc).ownBlock) Y4 V):=hid (by rw[hΦ];exact fun _ h=>h);have GA:Hid (∀V,Turns (fun b=>some b=(Value.slice va nv vc).ownBlock) Y4 V->Φ V):=hid (by rw[hΦ];exact fun _ h=>h);clear hΦ;gi_wp2;have Q7:∀xh:Held Φ,xh.1.cell? ⟨w3.heap.size+3,0,none⟩=some (.slice (some ⟨w3.heap.size+2,0,none⟩) K K):=fun xh=>(one_cell (((Vq.out _ xh.2).block _ (fun hb=>by have:=(D1.out _ hb).1;omega) (aj agL.out)).trans agL.out)).1;have hqw:∀xh:Held Φ,xh.1.cell? ⟨w.heap.size+1,0,none⟩=some (.slice aw K cw):=fun xh=>(one_cell (((Vq.out _ xh.2).block _ (fun hb=>by have:=(D1.out _ hb).1;omega) (aj agM.out)).trans agM.out)).1;have Co:∀xh:Held Φ,xh.1.cell? ⟨Y.heap.size,0,none⟩=some (.int .i64 (k:Int)):=fun xh=>(qH (((Vq.out _ xh.2).block _ (fun hb=>(D1.out _ hb).2.1 rfl) (aj VF.out)).trans VF.out)).1.1;have Cp:∀xh:Held Φ,xh.1.cell? ⟨Y.heap.size,1,none⟩=some (.int .i64 (i:Int)):=fun xh=>(qH (((Vq.out _ xh.2).block _ (fun hb=>(D1.out _ hb).2.1 rfl) (aj VF.out)).trans VF.out)).1.2;have hqu:∀xh:Held Φ,xh.1.cell? ⟨w3.heap.size+2,k,none⟩=some (.slice va nv vc):=fun xh=>(World.cell?_of_block (w:=Y4) (a:=⟨w3.heap.size+2,k,none⟩) ((Vq.out _ xh.2).block (w3.heap.size+2) (fun hb=>by have:=(D1.out _ hb).1;omega) (xN Y4 ⟨w3.heap.size+2,k,none⟩ HCg.out))).trans HCg.out;have hqk:∀xh:Held Φ,xh.1.cell? ⟨bD aw,bJ aw+k,none⟩=some (.slice ka nk kc):=fun xh=>HHuk.out xh.1 (Pu.out _ (F5.out _ (Vq.out _ xh.2)));have hqi:∀xh:Held Φ,xh.1.cell? ⟨bD ka,bJ ka+i,none⟩=some (.slice ra nrw rc):=fun xh=>HHui.out xh.1 (Pu.out _ (F5.out _ (Vq.out _ xh.2)));refine oB 20 (.quiet 0 (.quiet 1 (.quiet 2 (.quiet 3 (.quiet 4 (.quiet 5 (.quiet 6 (.quiet 7 (.quiet 8 (.quiet 9 (.quiet 10 (.quiet 11 (.quiet 12 (.quiet 13 (.quiet 14 (.quiet 15 (.quiet 16 (.one 17 (.one 18 (.one 19 .done)))))))))))))))))))) Φ (by kernel_rfl) (by kernel_rfl) (by kernel_rfl) (GA.out _ (Turns.aQ (aG ay 1))) ?_;intro KK hKK;have oT:Hid (BL Y4 (Y4.drewN 1)):=hid (aG ay 1);generalize Y4.drewN 1=Y5 at*
  iterate 17 refine eB ?_
  refine aM rfl ?_;go_wp2_with fail;refine(HCl.out Y5 (F5.out _ (Turns.aQ oT.out))).mono ?_;rintro e Y6 ⟨xv,rfl,hx,tX⟩;obtain⟨xa,xc,rfl, -, -, -⟩:=(dr.sl hx).form;have jS:=aJ oT tX;have hz45:=oT.out.size;have HX6:Hid (dr (fun b=>Y4.heap.size<=b) Y6 (.slice xa row.length xc) row):=hid (bP.mono hx (fun b _ (hb:Y5.heap.size<=b)=>by show Y4.heap.size<=b;omega));clear hx tX oT;go_wp2_with fail;refine aD Φ (fun _ h=>h) (GA.out _ (Turns.aQ jS.out)) ?_;refine aM rfl ?_;go_wp2_with fail;refine aD Φ (fun _ h=>h) (GA.out _ ((Turns.aQ jS.out).alloc _)) ?_;refine aM rfl ?_;clear Q7 hqw Co Cp hqu hqk hqi;have hb6':=jS.out;have hnv1:=HRn.out;go_wp2_with (at_builtin;go_must (refine vI (v:=.slice va nv vc) bP rfl _ _ rfl Tryz.aae (by rfl) HRg.out hb6' (by rfl) row HX6.out rfl (by have:=HNv.out;omega) ?_));intro v' Y7 hR7 rI;obtain⟨fa,fl,fc,rfl⟩:∃a l c,v'=.slice a l c:=by obtain⟨a,c,e,_⟩:=(lP.sl hR7).form;exact⟨_,_,_,e⟩
  have ad3:Hid (Turns (fun b=>some b=(Value.slice va nv vc).ownBlock) Y4 Y7):=hid ((Turns.aQ jS.out).trans rI);obtain⟨k1,k2,k3,k4⟩:=Rl.out Y7 _ _ (ad3.out.mono (fun b _ hb=>(D1.out b hb).2.2.1)) hR7
  have HV8:Hid (bY (fun b=>b=w3.heap.size+2\/w5.heap.size<=b) (Y7.setCell ⟨w3.heap.size+2,k,none⟩ (.slice fa fl fc)) (.slice (some ⟨w3.heap.size+2,0,none⟩) K K) (aR.mg W K (pre++[(k,i)]))):=hid (by
   rw[aR.Qn agO,<-LX.out]
   refine cC.mono k3 (fun b _ hb=>?_)
   rcases hb with hb|hb
   ·exact hb.1
   ·exact .inr (by have:=ZC.out.1.size;omega))
  have agP:Hid (aS (fun b o=>(b=w3.heap.size\/b=w3.heap.size+2\/w5.heap.size<=b)/\¬book o) w.heap.size Y4 (Y7.setCell ⟨w3.heap.size+2,k,none⟩ (.slice fa fl fc))):=hid (by
   obtain⟨og,hog,hogb⟩:=VE k1
   refine aS.setCell (p:=⟨w3.heap.size+2,k,none⟩) (aS.eG ad3.out aC (fun b hb=>by have:=(D1.out b hb).1;omega) (fun b o hb ho=>?_)) hog ⟨.inr (.inl rfl),hogb⟩ (by show w.heap.size<=w3.heap.size+2;omega) _
   obtain⟨q1, -, -,c,q2⟩:=D1.out b hb
   rw[q2] at ho
   cases ho
   exact⟨.inr (.inr q1),by simp[book]⟩)
  have wS:Hid (dK (Y7.setCell ⟨w3.heap.size+2,k,none⟩ (.slice fa fl fc)) w3.heap.size (pre.length+1) (wV F (k:Int) (i:Int) (nu:Int))):=hid (EW.out.keep (k4.block w3.heap.size (fun hb=>by
   rcases hb with hb|hb
   ·rcases (TD.out _ hb).1 with h|h<;>omega
   ·omega) EW.out.lt))
  have HQ:Hid (QS (fun b o=>(b=w3.heap.size\/b=w3.heap.size+2\/w5.heap.size<=b)/\¬book o) w.heap.size (fun pre Y=>aS (fun b o=>((b=w3.heap.size\/b=w3.heap.size+2\/w5.heap.size<=b)/\¬book o)\/bH w5.heap.size b o) w.heap.size w5 Y/\bY (fun b=>b=w3.heap.size+2\/w5.heap.size<=b) Y (.slice (some ⟨w3.heap.size+2,0,none⟩) K K) (aR.mg W K pre)/\
    ∃F,dK Y w3.heap.size pre.length F/\∀p∈pre,F p.1 p.2=(aR.eD s p.1 p.2:Nat)) (fun(_:List (Nat×Nat)) _=>False) (pre++[(k,i)]) Y2 .normal {tmps:=#[],defers:=[]} (Y7.setCell ⟨w3.heap.size+2,k,none⟩ (.slice fa fl fc))):=hid (by
   refine⟨ZC.out.trans agP.out,qt.out.trans ((ZC.out.trans agP.out).mono (fun b o h=>.inl h)),HV8.out,wV F (k:Int) (i:Int) (nu:Int),?_,fun p hp=>?_⟩
   ·rw[rG]
    exact wS.out
   ·unfold wV
    rcases List.mem_append.1 hp with hp|hp
    ·by_cases e:((p.1:Nat):Int)=(k:Int)/\((p.2:Nat):Int)=(i:Int)
     ·have e1:p.1=k:=by omega
      have e2:p.2=i:=by omega
      rw[if_pos e,agJ.out,e1,e2]
     ·rw[if_neg e]
      exact D9.out p hp
    ·rw[nU.1 hp]
     rw[if_pos ⟨rfl,rfl⟩,agJ.out])
  have hph:=GA.out _ ad3.out;clear hR7 rI k3 k4 HX6 Rl HRg TD HV8 wS;go_wp2_with fail;refine aD Φ (fun _ h=>h) hph ?_;refine aT ?_;try simp only[iW,iX]
  go_wp2;refine hKK _ _ ?_;exact HQ.out
 case hdone=>
  rintro D xs Y hD rfl ⟨hI1,xM,F,J7,hI4⟩ hk;have hKx:K=x.ai.length:=by rw[Rx.out];exact tY.out.len
  obtain⟨SS,hSS⟩:∃SS:Nat->Prop,SS=fun b=>(b=w3.heap.size+2\/w5.heap.size<=b)/\CA Y b:=⟨_,rfl⟩
  have rY:bY SS Y (.slice (some ⟨w3.heap.size+2,0,none⟩) K K) (aR.tab x.ai.length (fun k=>aR.eD s k (aR.bV W k)) (fun k:Nat=>(ah.kd x k).aA.length) (aR.cell0 W s)):=by
   have h0:=Gj xM;rw[Rx.out,aR.Qo DM.out (m:=fun k:Nat=>(ah.kd x k).aA.length) tY.out.qv,tY.out.len] at h0;rw[hSS,hKx];exact h0
  have RB:Hid (¬SS D/\(∀b,SS b->w3.heap.size+2<=b/\b≠w3.heap.size+3/\b<Y.heap.size)):=hid (by
   rw[hSS]
   refine⟨fun h=>?_,fun b hb=>⟨by rcases hb.1 with h|h<;>omega,by rcases hb.1 with h|h<;>omega,?_⟩⟩
   ·obtain⟨c,t,fr,hc⟩:=h.2
    rw[hk] at hc;cases hc
   ·obtain⟨c,t,fr,hc⟩:=hb.2
    exact aj hc)
  have HV0:=hid rY
  have ZA:∀b c t fr,b≠w3.heap.size->b≠w3.heap.size+2->b<w5.heap.size->w5.heap[b]?=some (.cells c t fr)->Y.heap[b]?=some (.cells c t fr):=fun b c t fr h1 h2 h3 hb=>hI1.2 _ _ hb (by
   rintro (h|h)
   ·rcases h.1 with h|h|h<;>omega
   ·simp[bH,book] at h)
  have HMY:Hid (Y.heap[w3.heap.size+1]?=some (.cells #[.map (some w3.heap.size)] 174 (0,0))):=hid (ZA _ _ _ _ aC aC aC WU.out);have HOY:Hid (Y.heap[w3.heap.size+3]?=some (.cells #[.slice (some ⟨w3.heap.size+2,0,none⟩) K K] 29 (0,0))):=hid (ZA _ _ _ _ aC aC aC U4.out);have HXY:Hid (Y.heap[w.heap.size]?=some (.cells #[.int .i64 x.aI,.slice ak x.ai.length ck,.slice al x.aN.length cl,.slice ar x.aO.length cr] 27 (0,0))):=hid (ZA _ _ _ _ aC aC aC (HX.out w5 jQ.out));have HCY:Hid (dK Y w3.heap.size (Sub.kept s).length F):=hid J7;have HFY:=hid hI4;have HDY:=hid hk;have HBY:Hid (BL w Y):=hid (DZ.out.trans hI1.1);have hszY:w5.heap.size<=Y.heap.size:=hI1.1.size;have hDY:D<Y.heap.size:=aj hk;clear hSS rY hI1 xM J7 hI4 hk ZA Jh;have HKx:=hid hKx;clear hKx;have hx6:x.ai.length<=6:=tY.out.ai
  have Xj:=hid (fun(X:World) (hX:BL w X)=>Cb x tY.out.ai (fun k hk=>by
   obtain⟨j,hj,rfl⟩:=List.getElem_of_mem hk;rw[<-gm hj];exact tY.out.aA j) _ _ X (Md.out.next hX).Cv)
  obtain⟨⟨y0,y1,y2,y3⟩, -⟩:=aW HXY.out;dsimp only;go_wp2_with fail;refine(Xj.out Y HBY.out).mono ?_;rintro e Z1 ⟨qa,qc,rs,rfl,hr60,Qf,hrf,hbZ⟩;have LY:=(uK.aga (S':=fun _=>False) hrf).sl dN (T:=fun b=>Y.heap.size<=b/\b<Z1.heap.size) (fun b _ h=>h.elim) (fun b hb=>hrf.lt b hb);have HBZ:=hid hbZ;have HRv:=hid LY;obtain⟨qo,qco,eo,Q7, -, -⟩:=LY.form;cases eo;have DK:=hid Qf;have hzY:=hbZ.size;have HVZ:Hid (bY SS Z1 (.slice (some ⟨w3.heap.size+2,0,none⟩) K K) (aR.tab x.ai.length (fun k=>aR.eD s k (aR.bV W k)) (fun k:Nat=>(ah.kd x k).aA.length) (aR.vp x W s 0))):=hid (by rw[aR.Qp];exact cC.keep HV0.out (aB.below hbZ));clear hrf hbZ LY Qf y0 y1 y2 y3;go_wp2;go_loopw [71] (fun jj wr=>∃j:Nat,j<=rs.length/\jj=.int .i64 j/\Hid (bY SS wr (.slice (some ⟨w3.heap.size+2,0,none⟩) K K) (aR.tab x.ai.length (fun k=>aR.eD s k (aR.bV W k)) (fun k:Nat=>(ah.kd x k).aA.length) (aR.vp x W s j)))/\Hid (Turns SS Z1 wr)) (fun jj _=>rs.length-(intOf jj).toNat);case atStart=>exact⟨0,Nat.zero_le _,rfl,HVZ,hid (Turns.refl _ _)⟩
  case round=>
   obtain⟨j,hj,rfl,HVr,zU⟩:=hrel;by_cases hlt:j<rs.length
   ·have hj0:(0:Int)<=(j:Int):=by omega
    have hj1:(j:Int)<(rs.length:Int):=by omega
    obtain⟨-,us,Nf,hcs,Y9⟩:=dO.at (dO.keep dN HRv.out (zU.out.keep (fun b hb hS=>by have:=(RB.out.2 b hS).2.2;have:=hb.1;omega))) hlt;obtain rfl:us=_:=Y9;have y0:wr.cell? ⟨bD qa,bJ qa+j*4,none⟩=some (.int .i64 (rs[j].kind:Int)):=hcs 0 _ rfl;have y1:wr.cell? ⟨bD qa,bJ qa+j*4+1,none⟩=some (.int .i64 (rs[j].field:Int)):=hcs 1 _ rfl;have y2:wr.cell? ⟨bD qa,bJ qa+j*4+2,none⟩=some (.int .i64 rs[j].up):=hcs 2 _ rfl;have y3:wr.cell? ⟨bD qa,bJ qa+j*4+3,none⟩=some (.int .i64 rs[j].least):=hcs 3 _ rfl;have hjR:j<(aR.cN x).length:=by rw[<-DK.out];exact hlt
    have hmem:rs[j]∈aR.cN x:=by rw[<-DK.out];exact gY hlt
    obtain⟨q1,q2,q3,q4,q5,q6,q7,q8⟩:=tY.out.refs _ hmem;have ad4:(aR.cN x)[j]=rs[j]:=by simp only[DK.out]
    have HHe:Hid (∀a,aR.xC x W s j rs[j].kind rs[j].field a rs[j].kind a rs[j].field=aR.cell0 W s rs[j].kind a rs[j].field):=hid (fun a=>by have:=aR.Qs (W:=W) (s:=s) hjR a;rwa [ad4] at this);have Me:Hid (∀n:Nat->Nat,aR.tab x.ai.length n (fun k:Nat=>(ah.kd x k).aA.length) (aR.xC x W s j rs[j].kind rs[j].field (n rs[j].kind))=aR.tab x.ai.length n (fun k:Nat=>(ah.kd x k).aA.length) (aR.vp x W s (j+1))):=hid (fun n=>by have:=aR.VA (W:=W) (s:=s) (K:=x.ai.length) (n:=n) (m:=fun k:Nat=>(ah.kd x k).aA.length) hjR;rwa [ad4] at this);clear hcs Nf hmem ad4;generalize rs[j]=rf at*;obtain⟨rk,rj,ru,rl⟩:=rf;simp only at y0 y1 y2 y3 q1 q2 q3 q4 q5 q6 q7 q8 HHe Me;obtain⟨m,rfl⟩:∃m:Nat,ru=(m:Int):=⟨ru.toNat,by omega⟩;have HQ8:=hid q8;have Fx:=hid q7;clear q7 q8;obtain⟨Z2,hw⟩:=aV (wr.alloc (.cells #[.int .i64 (rk:Int),.int .i64 (rj:Int),.int .i64 (m:Int),.int .i64 rl] 173));have HI2:Hid (Z2.heap[wr.heap.size]?=some (.cells #[.int .i64 (rk:Int),.int .i64 (rj:Int),.int .i64 (m:Int),.int .i64 rl] 173 (0,0))):=hid GN;have eC:Hid (Below wr.heap.size wr Z2):=hid XA;have qt:Hid (Turns SS Z1 Z2):=hid (by rw[hw];exact zU.out.alloc _);have Pt:Hid (bY SS Z2 (.slice (some ⟨w3.heap.size+2,0,none⟩) K K) (aR.tab x.ai.length (fun k=>aR.eD s k (aR.bV W k)) (fun k:Nat=>(ah.kd x k).aA.length) (aR.xC x W s j rk rj 0))):=hid (by rw[aR.Qq];exact cC.keep HVr.out (aB.below eC.out));have vF:Hid (∀b,b<Y.heap.size->¬SS b->Z2.heap[b]?=Y.heap[b]?):=hid (fun b h1 h2=>(qt.out.block b h2 aC).trans (HBZ.out.block b h1));have wR:Hid (Z2.heap[w3.heap.size+3]?=some (.cells #[.slice (some ⟨w3.heap.size+2,0,none⟩) K K] 29 (0,0))):=hid ((vF.out _ (aj HOY.out) (fun h=>(RB.out.2 _ h).2.1 rfl)).trans HOY.out);have yc:Hid (Z2.heap[w3.heap.size+1]?=some (.cells #[.map (some w3.heap.size)] 174 (0,0))):=hid ((vF.out _ (aj HMY.out) (fun h=>by have:=(RB.out.2 _ h).1;omega)).trans HMY.out);have NG:Hid (dK Z2 w3.heap.size (Sub.kept s).length F):=hid (HCY.out.keep (vF.out _ HCY.out.lt (fun h=>by have:=(RB.out.2 _ h).1;omega)));have KR:Y.heap.size<=wr.heap.size:=by have:=zU.out.size;omega
    have HW2:=hid hw;clear hw;go_upto_region 15 with fail;rw[<-HW2.out];clear y0 y1 y2 y3;obtain⟨⟨y0,y1,y2,y3⟩, -⟩:=aW HI2.out;have o0:=(one_cell wR.out).1;obtain⟨go,co,ka,kc,hfo,agH,hkc,hkm,Cy⟩:=sV Pt.out q1;simp only[Value.slice.injEq,Option.some.injEq,Addr.mk.injEq] at hfo;obtain⟨⟨rfl, -, -⟩, -, -⟩:=hfo;have E7:=Cy Z2 (fun _ _ _=>rfl);have HGc:=hid E7;have hr0:(0:Int)<=(rk:Int):=by omega
    have hr1:(rk:Int)<(K:Int):=by have:=HKx.out;omega
    clear Cy;obtain⟨nr,zQ⟩:=aV (aR.eD s rk (aR.bV W rk));rw[<-zQ] at E7 HGc agH hkc;have Qa:=hid zQ;clear zQ;go_wp2;clear y0 y1 y2 y3 o0 E7;generalize Ry:wr=Wb at*;go_loopw [81] (fun aa wr=>∃a:Nat,a<=nr/\aa=.int .i64 a/\Hid (bY SS wr (.slice (some ⟨w3.heap.size+2,0,none⟩) K K) (aR.tab x.ai.length (fun k=>aR.eD s k (aR.bV W k)) (fun k:Nat=>(ah.kd x k).aA.length) (aR.xC x W s j rk rj a)))/\Hid (Turns SS Z2 wr)/\Hid (wr.cell? ⟨w3.heap.size+2,rk,none⟩=some (.slice ka nr kc))) (fun aa _=>nr-(intOf aa).toNat);case atStart=>exact⟨0,Nat.zero_le _,rfl,Pt,hid (Turns.refl _ _),HGc⟩
    case round=>
     obtain⟨a,ha,rfl,Rm,Gi,HGa⟩:=hrel;by_cases hat:a<nr
     ·have ha0:(0:Int)<=(a:Int):=by omega
      have ha1:(a:Int)<(nr:Int):=by omega
      have han:a<aR.eD s rk (aR.bV W rk):=by rw[<-Qa.out];exact hat
      obtain⟨go,co,gk,ck,gi,ci,hR⟩:=qI Rm.out q1 han (by omega:0<(ah.kd x rk).aA.length);have hf1:=hR.form;simp only[Value.slice.injEq,Option.some.injEq,Addr.mk.injEq] at hf1;obtain⟨⟨rfl, -, -⟩, -, -⟩:=hf1;obtain⟨r1,r2,r3, -⟩:=hR.rd wr (fun _ _ _=>rfl);have hkk:=r1.symm.trans HGa.out;simp only[Option.some.injEq,Value.slice.injEq] at hkk;obtain⟨rfl, -,rfl⟩:=hkk;obtain⟨agQ,abz,abA⟩:=aR.A4 han;have hlead:=aR.F8 tY.out q1 q2 Fx.out abA;have hkp:=aR.Cf PN.out q1 q2 Fx.out abz;rw[<-HQ8.out] at hlead hkp;obtain⟨vN,hvN⟩:∃v:Nat,aR.cell0 W s rk a rj=(v:Int):=⟨(aR.cell0 W s rk a rj).toNat,by unfold aR.cell0;omega⟩
      have agR:(aR.nV W rk (aR.sM s rk (aR.bV W rk) a) rj).toNat=vN:=by
       have:aR.cell0 W s rk a rj=aR.nV W rk (aR.sM s rk (aR.bV W rk) a) rj:=rfl;omega
      rw[agR,Int.toNat_natCast] at hkp;have hFv:=HFY.out (m,vN) (Sub.dX.2 hkp);simp only at hFv;obtain⟨nw,hnw⟩:=aV (aR.eD s m vN);rw[<-hnw] at hFv
      have hvs:vN<=512:=by
       have h1:=hlead.2.2.2;have h2:=wZ W (m:Int);have h3:=tY.out.tot;have:aR.cell0 W s rk a rj=aR.nV W rk (aR.sM s rk (aR.bV W rk) a) rj:=rfl;omega
      have xQ:m<=6:=by have:=tY.out.ai;omega
      have RA:Hid (∀X,BL wr X->X.cell? ⟨gi,rj,none⟩=some (.int .i64 (vN:Int))/\X.frozen? ⟨gi,rj,none⟩=false):=hid (fun X hX=>by
       obtain⟨-, -,e3, -⟩:=hR.rd X (aB.below hX);obtain⟨e4,e5⟩:=e3 rj q2;rw[HHe.out,hvN] at e4;exact⟨e4,e5⟩)
      have yV:Hid (∀X,BL wr X->bY SS (X.setCell ⟨gi,rj,none⟩ (.int .i64 (nw:Int))) (.slice (some ⟨w3.heap.size+2,0,none⟩) K K) (aR.tab x.ai.length (fun k=>aR.eD s k (aR.bV W k)) (fun k:Nat=>(ah.kd x k).aA.length) (aR.xC x W s j rk rj (a+1)))/\Turns SS Z2 (X.setCell ⟨gi,rj,none⟩ (.int .i64 (nw:Int)))/\
        (X.setCell ⟨gi,rj,none⟩ (.int .i64 (nw:Int))).cell? ⟨w3.heap.size+2,rk,none⟩=some (.slice (some ⟨gk,0,none⟩) nr ck)):=hid (fun X hX=>by
       refine⟨?_,(Gi.out.trans (Turns.aQ hX)).setCell _ _ hR.blk,?_⟩
       ·rw[<-aR.Qt,<-HQ8.out,hvN,Int.toNat_natCast,Int.toNat_natCast,<-hnw]
        exact hR.set X (aB.below hX) rj q2 _
       ·rw[World.cell?_of_block (w:=X) (a:=⟨w3.heap.size+2,rk,none⟩) (nZ _ ⟨gi,rj,none⟩ _ _ (fun(e:w3.heap.size+2=gi)=>hR.ne1 e.symm))]
        rw[(hR.rd X (aB.below hX)).1,Qa.out])
      have HKa:Hid (∀b,b<Z2.heap.size->¬SS b->wr.heap[b]?=Z2.heap[b]?):=hid (fun b h1 h2=>Gi.out.block b h2 h1);have HIa:Hid (wr.heap[Wb.heap.size]?=some (.cells #[.int .i64 (rk:Int),.int .i64 (rj:Int),.int .i64 (m:Int),.int .i64 rl] 173 (0,0))):=hid ((HKa.out _ (aj HI2.out) (fun h=>by have:=(RB.out.2 _ h).2.2;omega)).trans HI2.out);have HMa:Hid (wr.heap[w3.heap.size+1]?=some (.cells #[.map (some w3.heap.size)] 174 (0,0))):=hid ((HKa.out _ (aj yc.out) (fun h=>by have:=(RB.out.2 _ h).1;omega)).trans yc.out);have agS:Hid (dK wr w3.heap.size (Sub.kept s).length F):=hid (NG.out.keep (HKa.out _ NG.out.lt (fun h=>by have:=(RB.out.2 _ h).1;omega)))
      have Y8:Hid (∀X,BL wr X->(Instr.lookup 174 (.map (some w3.heap.size)) (.agg #[.int .i64 (m:Int),.int .i64 (vN:Int)]) false).run Tryz.prog X=.ok (.int .i64 (nw:Int)) X):=hid (fun X hX=>by
       have:=(agS.out.keep (hX.block _ agS.out.lt)).look (a:=(m:Int)) (c:=(vN:Int)) ⟨by omega,by omega⟩ ⟨by omega,by omega⟩;rw[hFv] at this;exact this)
      have hrj0:(0:Int)<=(rj:Int):=by omega
      have hrj1:(rj:Int)<((ah.kd x rk).aA.length:Int):=by omega
      have hskk:dI (some ⟨gk,0,none⟩) nr:=fun _=>⟨_,_,rfl⟩;rw[<-Qa.out] at r1;clear agQ abz abA hlead hkp hvN agR hFv hnw r3 hR han;go_upto_region 18 with fail;have hqm:=dL wr ⟨w3.heap.size+1,0,none⟩ (.map (some w3.heap.size)) fun xh=>(one_cell ((xh.2.block _ (aj HMa.out)).trans HMa.out)).1;have Jd:=dL wr ⟨Wb.heap.size,1,none⟩ (.int .i64 (rj:Int)) fun xh=>(aW ((xh.2.block _ (aj HIa.out)).trans HIa.out)).1.2.1;have hqc:=dL wr ⟨Wb.heap.size,2,none⟩ (.int .i64 (m:Int)) fun xh=>(aW ((xh.2.block _ (aj HIa.out)).trans HIa.out)).1.2.2.1;have hqv:=dL wr ⟨gi,rj,none⟩ (.int .i64 (vN:Int)) fun xh=>(RA.out xh.1 xh.2).1;have hqk:∀xh:Held (BL wr),(Instr.lookup 174 (.map (some w3.heap.size)) (.agg #[.int .i64 (m:Int),.int .i64 (vN:Int)]) false).run Tryz.prog xh.1=.ok (.int .i64 (nw:Int)) xh.1:=fun xh=>Y8.out xh.1 xh.2;refine sQ wr 13 (.quiet 0 (.quiet 1 (.quiet 2 (.quiet 3 (.quiet 4 (.quiet 5 (.quiet 6 (.quiet 7 (.quiet 8 (.quiet 9 (.quiet 10 (.quiet 11 (.quiet 12 .done))))))))))))) lN (by kernel_rfl) fun Z8 J6=>?_
      iterate 13 refine eB ?_
      refine aT ?_;try simp only[iW,iX]
      clear hqm Jd hqc hqv hqk;obtain⟨e7,e8⟩:=RA.out Z8 J6.out;have HN:=hid (yV.out Z8 J6.out);clear yV RA Y8;exact aby
     ·obtain rfl:nr=a:=by omega
      have HN:Hid (bY SS wr (.slice (some ⟨w3.heap.size+2,0,none⟩) K K) (aR.tab x.ai.length (fun k=>aR.eD s k (aR.bV W k)) (fun k:Nat=>(ah.kd x k).aA.length) (aR.vp x W s (j+1)))):=hid (by
       have h1:=Rm.out
       rw[Qa.out] at h1
       rw[<-Me.out (fun k=>aR.eD s k (aR.bV W k))]
       exact h1)
      go_wp2;go_roundw;case rel=>exact⟨j+1,by omega,by go_num,HN,hid (qt.out.trans Gi.out)⟩
      simp[intOf];omega
   ·obtain rfl:rs.length=j:=by omega
    have HVs:Hid (bY SS wr (.slice (some ⟨w3.heap.size+2,0,none⟩) K K) (aR.tab x.ai.length (fun k=>aR.eD s k (aR.bV W k)) (fun k:Nat=>(ah.kd x k).aA.length) (aR.iY x W s 0 0))):=hid (by
     have h1:=HVr.out
     rw[DK.out,aR.VB] at h1
     exact h1)
    have KR:Y.heap.size<=wr.heap.size:=by have:=zU.out.size;omega
    have HTy:Hid (Turns SS Y wr):=hid ((Turns.aQ HBZ.out).trans zU.out)
    have RD:Hid (∀V,Turns SS Y V->V.heap[w3.heap.size+3]?=some (.cells #[.slice (some ⟨w3.heap.size+2,0,none⟩) K K] 29 (0,0))/\V.heap[w.heap.size]?=some (.cells #[.int .i64 x.aI,.slice ak x.ai.length ck,.slice al x.aN.length cl,.slice ar x.aO.length cr] 27 (0,0))/\BL w V/\V.heap[D]?=some (.deferred (some []))):=hid (fun V hV=>
     ⟨(hV.block _ (fun h=>(RB.out.2 _ h).2.1 rfl) (aj HOY.out)).trans HOY.out,(hV.block _ (fun h=>by have:=(RB.out.2 _ h).1;omega) (aj HXY.out)).trans HXY.out,HBY.out.trans (hV.below HBY.out.size (fun b h=>by have:=(RB.out.2 _ h).1;omega)),(hV.block _ RB.out.1 hDY).trans HDY.out⟩)
    have J5:Hid (∀V,BL w V->gJ (·<B) V (.slice ak x.ai.length ck) x.ai):=hid (fun V hV=>by
     obtain⟨ak',ck',al',cl',ar',cr',e,h1, -⟩:=(Md.out.next hV).Cv.form;simp only[Value.agg.injEq,Array.mk.injEq,List.cons.injEq,Value.slice.injEq,and_true,true_and] at e;obtain⟨⟨rfl,rfl⟩, -⟩:=e;exact h1)
    obtain⟨aK,cK,eK,hskK, -, -⟩:=(J5.out w ay).form;cases eK;have HAd:=hid (fun(V:World) (hV:BL w V) (k i:Nat)=>Vx x HOk.out tY.out.ai tY.out.aA (fun k=>aR.eD s k (aR.bV W k)) (aR.iY x W s k i) k i);obtain⟨⟨y0,y1,y2,y3⟩, -⟩:=aW (RD.out wr HTy.out).2.1;go_wp2;clear y0 y1 y2 y3;generalize Ry:wr=Wb at*;go_loopw [104] (fun kk wr=>∃k:Nat,k<=x.ai.length/\kk=.int .i64 k/\Hid (bY SS wr (.slice (some ⟨w3.heap.size+2,0,none⟩) K K) (aR.tab x.ai.length (fun k=>aR.eD s k (aR.bV W k)) (fun k:Nat=>(ah.kd x k).aA.length) (aR.iY x W s k 0)))/\Hid (Turns SS Y wr)) (fun kk _=>x.ai.length-(intOf kk).toNat);case atStart=>exact⟨0,Nat.zero_le _,rfl,HVs,HTy⟩
    case round=>
     obtain⟨k,hk,rfl,HVk,Av⟩:=hrel;by_cases hlt:k<x.ai.length
     ·have hk0:(0:Int)<=(k:Int):=by omega
      have hk1:(k:Int)<(x.ai.length:Int):=by omega
      obtain⟨-, -,k0,k1,k2,uf,k3,Ri⟩:=gJ.at (J5.out wr (RD.out wr Av.out).2.2.1) hlt;obtain⟨fa,fc,rfl,hfok, -, -⟩:=Ri.form;have HFv:=hid Ri;have hkd:ah.kd x k=x.ai[k]:=gm hlt;have abB:x.ai[k].aA.length<=10:=by rw[<-hkd];exact tY.out.aA k
      have xT:Hid (∀i (h:i<x.ai[k].aA.length),ah.fd x k i=x.ai[k].aA[i]):=hid (fun i h=>uF hlt h)
      have agT:Hid (∀n:Nat->Nat,aR.tab x.ai.length n (fun k:Nat=>(ah.kd x k).aA.length) (aR.iY x W s k x.ai[k].aA.length)=aR.tab x.ai.length n (fun k:Nat=>(ah.kd x k).aA.length) (aR.iY x W s (k+1) 0)):=hid (fun n=>by
       have:=aR.Qv (x:=x) (W:=W) (s:=s) (n:=n) (K:=x.ai.length) (k:=k);rw[hkd] at this;exact this)
      have agU:Hid ((ah.kd x k).aA.length=x.ai[k].aA.length):=hid (by rw[hkd]);clear Ri hkd;obtain⟨fs,hfs⟩:=aV (x.ai[k].aA);rw[<-hfs] at HFv hfok abB agT agU k3;have HFd2:Hid (∀i (h:i<fs.length),ah.fd x k i=fs[i]):=hid (by subst hfs;exact xT.out);clear hfs xT;generalize x.ai[k].name=kn at*;generalize x.ai[k].lo=kl at*;generalize x.ai[k].hi=kh at*;obtain⟨Z2,hw⟩:=aV (wr.alloc (.cells #[.string kn,.int .i64 kl,.int .i64 kh,.slice fa fs.length fc] 95));have HI2:Hid (Z2.heap[wr.heap.size]?=some (.cells #[.string kn,.int .i64 kl,.int .i64 kh,.slice fa fs.length fc] 95 (0,0))):=hid GN;have qt:Hid (Turns SS Y Z2):=hid (by rw[hw];exact Av.out.alloc _);have eC:Hid (Below wr.heap.size wr Z2):=hid XA;have Pt:Hid (bY SS Z2 (.slice (some ⟨w3.heap.size+2,0,none⟩) K K) (aR.tab x.ai.length (fun k=>aR.eD s k (aR.bV W k)) (fun k:Nat=>(ah.kd x k).aA.length) (aR.iY x W s k 0))):=hid (cC.keep HVk.out (aB.below eC.out));have HW2:=hid hw;have hnK:fs.length<=10:=abB;clear hw;go_upto_region 24 with fail;rw[<-HW2.out];clear k0 k1 k2 k3;obtain⟨⟨y0,y1,y2,y3⟩, -⟩:=aW HI2.out;go_wp2;clear y0 y1 y2 y3;generalize hWc:wr=Wc at*;go_loopw [112] (fun ii wr=>∃i:Nat,i<=fs.length/\ii=.int .i64 i/\Hid (bY SS wr (.slice (some ⟨w3.heap.size+2,0,none⟩) K K) (aR.tab x.ai.length (fun k=>aR.eD s k (aR.bV W k)) (fun k:Nat=>(ah.kd x k).aA.length) (aR.iY x W s k i)))/\Hid (Turns SS Y wr)/\Hid (BL w wr)) (fun ii _=>fs.length-(intOf ii).toNat);case atStart=>exact⟨0,Nat.zero_le _,rfl,Pt,qt,hid (RD.out Z2 qt.out).2.2.1⟩
      case round=>
       obtain⟨i,hi,rfl,HVi,HTi,JX⟩:=hrel;by_cases hit:i<fs.length
       ·have hi0:(0:Int)<=(i:Int):=by omega
        have hi1:(i:Int)<(fs.length:Int):=by omega
        obtain⟨-, -,f0,f1,f2,f3,f4,f5,uw,ug,f6,f7,xR,hgs⟩:=dJ.at (HFv.out.keep (fun b (hb:b<B) hlt=>by
         have h1:=((RD.out Wc Av.out).2.2.1).block b (by have:=Md.out.le;omega);have h2:=JX.out.block b (by have:=Md.out.le;omega);exact h2.trans h1.symm)) hit
        obtain⟨aw1,cw1,rfl, -, -, -⟩:=xR.form;obtain⟨ag1,cg1,rfl, -, -, -⟩:=hgs.form;have TG:ah.fd x k i=fs[i]:=HFd2.out i hit;have Ap:Hid ((ah.fd x k i).kind=fs[i].kind):=hid (by rw[TG]);clear xR hgs TG;generalize fs[i]=g at*;obtain⟨gn,go,gu,gk,gl,gh,J3,ggs⟩:=g;simp only at f0 f1 f2 f3 f4 f5 f6 f7 Ap;generalize J3.length=nw1 at*;generalize ggs.length=ng1 at*;obtain⟨Z3,hw⟩:=aV (wr.alloc (.cells #[.string gn,.string go,.string gu,.int .i64 gk,.int .i64 gl,.int .i64 gh,.slice aw1 nw1 cw1,.slice ag1 ng1 cg1] 92));have HI3:Hid (Z3.heap[wr.heap.size]?=some (.cells #[.string gn,.string go,.string gu,.int .i64 gk,.int .i64 gl,.int .i64 gh,.slice aw1 nw1 cw1,.slice ag1 ng1 cg1] 92 (0,0))):=hid GN;have gj:Hid (Below wr.heap.size wr Z3):=hid XA;have Dd:Hid (Turns SS Y Z3):=hid (by rw[hw];exact HTi.out.alloc _);have HV3:Hid (bY SS Z3 (.slice (some ⟨w3.heap.size+2,0,none⟩) K K) (aR.tab x.ai.length (fun k=>aR.eD s k (aR.bV W k)) (fun k:Nat=>(ah.kd x k).aA.length) (aR.iY x W s k i))):=hid (cC.keep HVi.out (aB.below gj.out));have sH:Hid (BL w Z3):=hid ((RD.out Z3 Dd.out).2.2.1);have HW3:=hid hw;clear hw;go_upto_region 27 with fail;rw[<-HW3.out];clear f0 f1 f2 f3 f4 f5 f6 f7;obtain⟨⟨f0,f1,f2,f3,f4,f5,f6,f7⟩, -⟩:=dY HI3.out;by_cases h6:gk=6
        ·subst h6
         have Rw:(ah.fd x k i).kind=6:=Ap.out;have hik:i<(ah.kd x k).aA.length:=by rw[agU.out];exact hit
         have ZF:Hid (CP 116 #[.agg #[.int .i64 x.aI,.slice ak x.ai.length ck,.slice al x.aN.length cl,.slice ar x.aO.length cr],.slice (some ⟨w3.heap.size+2,0,none⟩) K K,.int .i64 (k:Int),.int .i64 (i:Int)] Z3 fun e w'=>(∃r,e=.returned r)/\bY SS w' (.slice (some ⟨w3.heap.size+2,0,none⟩) K K) (aR.tab x.ai.length (fun k=>aR.eD s k (aR.bV W k)) (fun k:Nat=>(ah.kd x k).aA.length) (aR.iY x W s k (i+1)))/\Turns SS Z3 w'):=hid (by
          obtain⟨o1,o2,o3,o4,o5,o6,o7, -⟩:=aR.E3 HOk.out hlt hik Rw
          have jI:∀a,a<aR.eD s (aR.eW x k i) (aR.bV W (aR.eW x k i))->0<=aR.iY x W s k i (aR.eW x k i) a (aR.oO x k i)/\aR.iY x W s k i (aR.eW x k i) a (aR.oO x k i)<(aR.eD s k (aR.bV W k):Nat):=fun a ha=>by
           obtain⟨h1,h2,h3⟩:=aR.A4 ha;have hlead:=aR.F8 tY.out o1 o3 o5 h3;have hkp:=aR.Cf PN.out o1 o3 o5 h2;rw[o6] at hlead hkp;rw[Int.toNat_natCast] at hkp;rw[aR.xD aC];unfold aR.rB;rw[if_pos o5,o6,Int.toNat_natCast]
           have hlt2:(aR.cell0 W s (aR.eW x k i) a (aR.oO x k i)).toNat<aR.bV W k:=by
            have h4:=hlead.2.2.2;have h5:=hlead.2.2.1;have e:ah.fW W (k:Int)=aR.bV W k:=rfl;rw[e] at h4;show (aR.nV W (aR.eW x k i) (aR.sM s (aR.eW x k i) (aR.bV W (aR.eW x k i)) a) (aR.oO x k i)).toNat<_
            omega
           have:=aR.NI hkp hlt2;have e:aR.eD s k (aR.nV W (aR.eW x k i) (aR.sM s (aR.eW x k i) (aR.bV W (aR.eW x k i)) a) (aR.oO x k i)).toNat=aR.eD s k (aR.cell0 W s (aR.eW x k i) a (aR.oO x k i)).toNat:=rfl;omega
          have hss:∀a,a<aR.eD s (aR.eW x k i) (aR.bV W (aR.eW x k i))-> -1000<=aR.iY x W s k i (aR.eW x k i) a (aR.rF x k i)/\aR.iY x W s k i (aR.eW x k i) a (aR.rF x k i)<=1000:=fun a ha=>by
           rw[aR.xD aC];unfold aR.rB;rw[if_neg aC];exact lM.out _ _ _ o4
          have Je:∀k,aR.eD s k (aR.bV W k)<=512:=fun k=>by
           have h1:=aR.A1 s k (aR.bV W k);have h2:=wZ W (k:Int);have h3:=tY.out.tot;have e:ah.fW W (k:Int)=aR.bV W k:=rfl;omega
          have h:=HAd.out Z3 sH.out k i hlt hik Rw Je jI hss _ _ (·<B) SS Z3 (Md.out.next sH.out).Cv HV3.out
          refine h.mono fun e w' h=>⟨h.1,?_,h.2.2⟩
          have h2:=h.2.1
          rw[aR.Qw Rw o5 o4] at h2
          exact h2)
         have o0:=(one_cell (RD.out Z3 Dd.out).1).1;obtain⟨⟨y0,y1,y2,y3⟩, -⟩:=aW (RD.out Z3 Dd.out).2.1;clear Rw hik;go_wp2_with fail;refine ZF.out.mono ?_;rintro e Z4 ⟨⟨r4,rfl⟩,hv4,zq⟩;have Xp:=hid hv4;have OH:Hid (Turns SS Y Z4):=hid (Dd.out.trans zq);clear hv4 zq o0 y0 y1 y2 y3 f0 f1 f2 f3 f4 f5 f6 f7;go_wp2;go_roundw;case rel=>exact⟨i+1,by omega,by go_num,Xp,OH,hid (RD.out Z4 OH.out).2.2.1⟩
         simp[intOf];omega
        ·have hne:(ah.fd x k i).kind≠6:=by rw[Ap.out];exact h6
         have Xp:Hid (bY SS Z3 (.slice (some ⟨w3.heap.size+2,0,none⟩) K K) (aR.tab x.ai.length (fun k=>aR.eD s k (aR.bV W k)) (fun k:Nat=>(ah.kd x k).aA.length) (aR.iY x W s k (i+1)))):=hid (by rw[aR.Qu hne];exact HV3.out);clear hne;go_wp2;go_roundw;case rel=>exact⟨i+1,by omega,by go_num,Xp,Dd,sH⟩
         simp[intOf];omega
       ·obtain rfl:fs.length=i:=by omega
        have HN:Hid (bY SS wr (.slice (some ⟨w3.heap.size+2,0,none⟩) K K) (aR.tab x.ai.length (fun k=>aR.eD s k (aR.bV W k)) (fun k:Nat=>(ah.kd x k).aA.length) (aR.iY x W s (k+1) 0))):=hid (by
         have h1:=HVi.out
         rw[agT.out] at h1
         exact h1)
        go_wp2;go_roundw;case rel=>exact⟨k+1,by omega,by go_num,HN,HTi⟩
        simp[intOf];omega
     ·obtain rfl:x.ai.length=k:=by omega
      obtain⟨p1,p2,p3,p4⟩:=RD.out wr Av.out
      have pH:Hid (∀w',aS (bH w.heap.size) w.heap.size wr w'->bY (w.heap.size<=·) w' (.slice (some ⟨w3.heap.size+2,0,none⟩) K K) (aR.ji x W s)/\BL w w'):=hid (fun w' ht=>by
       refine⟨?_,p3.trans ht.1⟩;have h1:=HVk.out;rw[aR.VD] at h1;have h2:=sW h1 (fun b c t fr _ hb=>ht.2 _ _ hb Ac);unfold aR.ji;rw[tY.out.len];exact cC.mono h2 (fun b _ hb=>by have:=(RB.out.2 b hb).1;show w.heap.size<=b;omega))
      have HM:=hid ((Marks.nil w.heap.size w5.heap.size wr).push hD aC p4);have o0:=(one_cell p1).1;clear p1 p2 p3 p4;go_wp2;refine jt (v:=.tuple #[.slice (some ⟨w3.heap.size+2,0,none⟩) K K,.int .i64 0]) HM.out (fun w' ht=>⟨?_,?_⟩)
      ·simp[results,Tryz.results87,go_sem]
      ·obtain⟨k1,k2⟩:=pH.out w' ht
       exact⟨_,rfl,k1,k2⟩
 case hstop=>
  rintro D xs Y hD h;exact h.elim
def D2(b:Bool):UInt8:=if b=true then 49 else 48
def Az(s:Sub.S):ByteArray:=⟨(s.flatten.map D2).toArray⟩
theorem VG{a b:Bool}(h:D2 a=D2 b):a=b:=by
 cases a<;>cases b<;>first|rfl|(exact absurd h qg)
theorem VH{W:ah.cG}{s t:Sub.S}(hs:Sub.Fit (aR.shape W) s)(ht:Sub.Fit (aR.shape W) t)(h:Az s=Az t):s=t:=by
 refine aR.Cj (aR.jJ hs) (aR.jJ ht) ?_;unfold Az at h
 have h1:s.flatten.map D2=t.flatten.map D2:=by
  have:=congrArg (fun b:ByteArray=>b.data.toList) h;simpa using this
 exact List.map_inj_right (fun a b e=>VG e)|>.1 h1
def yL(S:Nat->Prop)(w:World)(v:Value)(xs:List UInt8):Prop:=
 w.ownsRow 0 5 1 v xs.length (xs.map fun b=>Value.int .u8 (b.toNat:Int))/\∀b,v.ownBlock=some b->S b
theorem GV:fG (α:=List UInt8) yL:=
 ⟨fun h k=>⟨dm h.1 h.2 k,h.2⟩,fun h k=>⟨h.1,fun b hb=>k b (h.1.lt b hb).2 (h.2 b hb)⟩⟩
theorem yL.nil(S:Nat->Prop)(w:World):yL S w (.slice none 0 0) []:=⟨World.ownsRow_nil _ _ _ _,fun b hb=>by simp[Value.ownBlock] at hb⟩
theorem yL.sl{S:Nat->Prop}{w:World}{v:Value}{xs:List UInt8}(h:yL S w v xs):gQ (fun _ u (x:UInt8)=>u=.int .u8 (x.toNat:Int)) S w v xs:=
 kQ h.1 h.2 aZ (fun j h1 h2=>by simp)
theorem Tryz.agV:jW Tryz.prog 191 5 1 1:=gE (z:=.int .u8 0) (by kernel_rfl) (by kernel_rfl) rfl aC aC
section
variable {P:Program} {t e:TypeId} {bytes:Nat} {w:World} {ops:Array Oper} {rest:List Oper} {o:Oper} {a:Act} {Q:Exit->Act->World->Prop}
theorem zY(hgd:o.guard=none)(s x:Operand)
  (ho:o.op=.call {callee:=.builtin .append,args:=#[s,x],argTypes:=#[t,t]})(hT:jW P t 5 1 bytes)
  {S:Nat->Prop}{v:Value}{xs:List UInt8}(hs:a.eval s=v)(hown:yL S w v xs)
  {e':TypeId} {y:UInt8} (hx:a.eval x=.slice (some ⟨w.heap.size,0,none⟩) 1 1) (hsmall:xs.length+1<=1000000000)
  (h:∀v' w',yL (Grow S w.heap.size) w' v' (xs++[y])->Turns (fun b=>some b=v.ownBlock) w w'->wpList P ops Q rest (a.put o.dst v') w'):
  wpList P ops Q (o::rest) a (w.alloc (.cells #[.int .u8 (y.toNat:Int)] e')):=by
 have ha:BL w (w.alloc (.cells #[.int .u8 (y.toNat:Int)] e')):=ay.alloc aH _;have f2:=dm (S:=fun _=>True) hown.1 (fun _ _=>trivial) (aB.below ha);refine iZ hgd s x ho hT hs f2 (some ⟨w.heap.size,0,none⟩) 1 1 hx (fun _=>⟨_,_,rfl⟩) [.int .u8 (y.toNat:Int)] rfl (jL w #[.int .u8 (y.toNat:Int)] e') (by simp[Value.oneCell']) hsmall (Nat.zero_le _) (fun v' w' g1 g2 g3=>h v' w' ⟨?_,fun b hb'=>?_⟩ ((Turns.aQ ha).trans (Turns.iq g2 fun b hb'=>hb'.symm)))
 ·rw[rG,List.map_append];exact g1
 ·rcases g3 with g3|g3
  ·rw[g3] at hb';exact .inl ⟨hown.2 b hb',(hown.1.lt b hb').2⟩
  ·rw[g3] at hb';exact .inr (by have:=qf hb';simp at this;omega)
end
theorem agW(xs:List UInt8)(S:Nat->Prop)(w:World)(v:Value)(h:yL S w v xs):(convert 191 9 v).run Tryz.prog w=.ok (.string ⟨xs.toArray⟩) w:=by
 by_cases h0:0<xs.length
 ·obtain⟨g,cap,rfl, -, -, -,h2⟩:=j6 h.1 h0
  refine run_convert_bytes_back w _ _ 5 ⟨g,0,none⟩ cap xs (by kernel_rfl) (by kernel_rfl) (by kernel_rfl) (fun j hj=>?_);have h3:=(h2 j Dx).1;have e:(⟨g,0,none⟩:Addr).add j=⟨g,j,none⟩:=by rw[pV,Nat.zero_add]
  rw[e,h3];simp
 ·obtain rfl:xs=[]:=List.eq_nil_of_length_eq_zero aC
  obtain⟨a,c,rfl,hok, -, -⟩:=h.sl.form;cases a with
  |none=>exact run_convert_bytes_nil w _ 5 (by kernel_rfl) (by kernel_rfl) _ _ _ (by kernel_rfl)
  |some p=>exact run_convert_bytes_back w _ _ 5 p c [] (by kernel_rfl) (by kernel_rfl) (by kernel_rfl) (fun j hj=>absurd hj aZ)
def jk(s:Sub.S)(k i:Nat):List UInt8:=((s.take k).flatten++(s.getD k []).take i).map D2
theorem Jo(s:Sub.S):jk s 0 0=[]:=by simp[jk]
theorem Jp{s:Sub.S}{k i:Nat}(hk:k<s.length)(hi:i<s[k].length):jk s k (i+1)=jk s k i++[D2 s[k][i]]:=by
 unfold jk;rw[Sub.aX hk,Gu hi,<-List.append_assoc,List.map_append (l₂:=[s[k][i]])];rfl
theorem Jq{s:Sub.S}{k:Nat}(hk:k<s.length):jk s k s[k].length=jk s (k+1) 0:=by
 unfold jk;rw[Sub.aX hk,List.take_length,List.take_zero,List.append_nil,Gu hk,List.flatten_append];simp only[List.flatten_cons,List.flatten_nil,List.append_nil]
theorem Mf(s:Sub.S):jk s s.length 0=s.flatten.map D2:=by simp[jk]
theorem Mg{s:Sub.S}{k i:Nat}(hk:k<=s.length):(jk s k i).length<=s.flatten.length:=by
 unfold jk;rw[FD,rG];by_cases h:k<s.length
 ·have e:s.flatten=(s.take k).flatten++(s[k]++(s.drop (k+1)).flatten):=by
   conv=>lhs;rw[<-List.take_append_drop k s,List.drop_eq_getElem_cons h,List.flatten_append,List.flatten_cons]
  have e2:=congrArg List.length e;rw[rG,rG] at e2;rw[Sub.aX h,OD];omega
 ·have:k=s.length:=by omega
  subst this;rw[Sub.iQ aH];simp
theorem abC{p:Prop}(h:p:=by
  intro v' w8 oU Dj
  obtain⟨fa,fl,fc,rfl⟩:∃a l c,v'=.slice a l c:=by obtain⟨a,c,e, -⟩:=oU.sl.form;exact⟨_,_,_,e⟩
  have oT:Hid (yL (w.heap.size<=·) w8 (.slice fa fl fc) (jk s k (i+1))):=hid zT66
  have J6:Hid (BL w w8):=hid (HL.out.trans (Dj.below hzl (fun b hb=>HB.out.2 b hb.symm)))
  clear oU Dj HB
  go_wp2
  go_roundw
  case rel=>exact⟨i+1,fa,fl,fc,by omega,by go_num,rfl,oT,J6⟩
  simp[intOf]
  omega):p:=h
theorem NR(s:Sub.S)(jI:s.flatten.length<=100000)(v:Value)(S:Nat->Prop)(w:World)(hs:cQ S w v s):
  Calls Tryz.prog 52 #[v] w fun e w'=>e=.returned (.string (Az s))/\BL w w':=by
 have HS:=hid (cQ.mono (S':=(·<w.heap.size)) hs (fun b hb _=>hb));obtain⟨a,cap,rfl,hok,hc,hm⟩:=hs.form;clear hs;obtain⟨n,hn⟩:=aV s.length;rw[<-hn] at hok hc ⊢;have HN:=hid hn;clear hn;go_enter Tryz.func52,Tryz.ntmps52;go_wp2;go_loopw [10,3] (fun kk vv wr=>∃(k:Nat) (va:Option Addr) (vn vc:Nat),k<=n/\kk=.int .i64 k/\vv=.slice va vn vc/\Hid (yL (w.heap.size<=·) wr (.slice va vn vc) (jk s k 0))/\Hid (BL w wr)) (fun kk _ _=>n-(intOf kk).toNat);case atStart=>exact⟨0,none,0,0,Nat.zero_le _,rfl,rfl,hid (by rw[Jo];exact yL.nil _ _),hid ay⟩
 case round=>
  obtain⟨k,va,vn,vc,hk,rfl,rfl,HB,HL⟩:=hrel;by_cases hlt:k<n
  ·have hks:k<s.length:=by rw[<-HN.out];exact hlt
   have hk0:(0:Int)<=(k:Int):=by omega
   have hk1:(k:Int)<(n:Int):=by omega
   obtain⟨u,hu1,lF⟩:=HS.out.rA hks;obtain⟨ra,rc,rfl,hra,hrc,hrm⟩:=hu1.form;have x0:=lF wr (aB.below HL.out);have HR:=hid hu1;obtain⟨m,hmm⟩:=aV (s[k].length);rw[<-hmm] at hra hrc x0;have HM:=hid hmm;clear hu1 lF hmm;go_wp2;clear x0;generalize Ry:wr=Wb at*;go_loopw [16,3] (fun ii vv wr=>∃(i:Nat) (va:Option Addr) (vn vc:Nat),i<=m/\ii=.int .i64 i/\vv=.slice va vn vc/\Hid (yL (w.heap.size<=·) wr (.slice va vn vc) (jk s k i))/\Hid (BL w wr)) (fun ii _ _=>m-(intOf ii).toNat);case atStart=>exact⟨0,va,vn,vc,Nat.zero_le _,rfl,rfl,HB,HL⟩
   case round=>
    obtain⟨i,va,vn,vc,hi,rfl,rfl,HB,HL⟩:=hrel;by_cases hit:i<m
    ·have hi0:(0:Int)<=(i:Int):=by omega
     have hi1:(i:Int)<(m:Int):=by omega
     have hik:i<s[k].length:=by have:=HM.out;omega
     obtain⟨ub,Ze,lF⟩:=HR.out.rA hik;obtain rfl:ub=_:=Ze;have x0:=lF wr (aB.below HL.out);have yV:=hid (Jp hks hik);have hbl:(jk s k i).length+1<=1000000000:=by have:=Mg (s:=s) (k:=k) (i:=i) aC;omega
     have hzl:=HL.out.size;clear lF;generalize s[k][i]=kp at*;cases kp with
     |true=>
      go_wp2_with (at_builtin;go_must (refine zY (y:=49) rfl _ _ rfl Tryz.agV rfl HB.out rfl hbl ?_))
      exact abC
     |false=>
      go_wp2_with (at_builtin;go_must (refine zY (y:=48) rfl _ _ rfl Tryz.agV rfl HB.out rfl hbl ?_))
      exact abC
    ·obtain rfl:m=i:=by omega
     have oT:Hid (yL (w.heap.size<=·) wr (.slice va vn vc) (jk s (k+1) 0)):=hid (by rw[<-Jq hks,<-HM.out];exact HB.out);go_wp2;go_roundw;case rel=>exact⟨k+1,va,vn,vc,by omega,by go_num,rfl,oT,HL⟩
     simp[intOf];omega
  ·obtain rfl:n=k:=by omega
   have hb:=HB.out;rw[HN.out,Mf] at hb;have hcv:=agW _ _ _ _ hb;have hkk:Az s=⟨(s.flatten.map D2).toArray⟩:=rfl;rw[<-hkk] at hcv;clear hb hkk;go_wp2;go_ret;exact⟨rfl,HL.out⟩
def pY(l:List (Nat×Nat)):List (Int×Int):=l.map fun p=>((p.1:Int),(p.2:Int))
theorem pZ(l:List (Nat×Nat)):(pY l).length=l.length:=by simp[pY]
theorem Qx(s:Sub.S)(jI:Sub.size s<=100000)(v:Value)(S:Nat->Prop)(w:World)(hs:cQ S w v s):
  Calls Tryz.prog 53 #[v] w fun e w'=>∃a c,e=.returned (.slice a (Sub.kept s).length c)/\Yo w.heap.size w' (.slice a (Sub.kept s).length c) (pY (Sub.kept s))/\BL w w':=by
 have HS:=hid (cQ.mono (S':=(·<w.heap.size)) hs (fun b hb _=>hb));obtain⟨a,cap,rfl,hok,hc,hm⟩:=hs.form;clear hs;obtain⟨n,hn⟩:=aV s.length;rw[<-hn] at hok hc ⊢;have HN:=hid hn;clear hn;go_enter Tryz.func53,Tryz.ntmps53;go_wp2;go_loopw [10,3] (fun kk vv wr=>∃(k:Nat) (zs:List (Int×Int)) (va:Option Addr) (vc:Nat),k<=n/\kk=.int .i64 k/\vv=.slice va zs.length vc/\Hid (zs=pY (Sub.iU s k))/\Hid (Yo w.heap.size wr (.slice va zs.length vc) zs)/\Hid (BL w wr)) (fun kk _ _=>n-(intOf kk).toNat);case atStart=>exact⟨0,[],none,0,Nat.zero_le _,rfl,rfl,hid rfl,hid (bC.nil _ _ _ _ _ _),hid ay⟩
 case round=>
  obtain⟨k,zs,va,vc,hk,rfl,rfl,HZ,HB,HL⟩:=hrel;by_cases hlt:k<n
  ·have hks:k<s.length:=by rw[<-HN.out];exact hlt
   have hk0:(0:Int)<=(k:Int):=by omega
   have hk1:(k:Int)<(n:Int):=by omega
   obtain⟨u,hu1,lF⟩:=HS.out.rA hks;obtain⟨ra,rc,rfl,hra,hrc,hrm⟩:=hu1.form;have x0:=lF wr (aB.below HL.out);have HR:=hid hu1;obtain⟨m,hmm⟩:=aV (s[k].length);rw[<-hmm] at hra hrc x0;have HM:=hid hmm;have HG:Hid (s.getD k []=s[k]):=hid (Sub.aX hks);clear hu1 lF hmm;go_wp2;clear x0;generalize Ry:wr=Wb at*;go_loopw [17,3] (fun ii vv wr=>∃(i:Nat) (zs:List (Int×Int)) (va:Option Addr) (vc:Nat),i<=m/\ii=.int .i64 i/\vv=.slice va zs.length vc/\Hid (zs=pY (Sub.iU s k++Sub.mH k s[k] i))/\Hid (Yo w.heap.size wr (.slice va zs.length vc) zs)/\Hid (BL w wr)) (fun ii _ _=>m-(intOf ii).toNat);case atStart=>exact⟨0,zs,va,vc,Nat.zero_le _,rfl,rfl,hid (by rw[Sub.vm,List.append_nil];exact HZ.out),HB,HL⟩
   case round=>
    obtain⟨i,zs,va,vc,hi,rfl,rfl,HZ,HB,HL⟩:=hrel;by_cases hit:i<m
    ·have hi0:(0:Int)<=(i:Int):=by omega
     have hi1:(i:Int)<(m:Int):=by omega
     have hik:i<s[k].length:=by have:=HM.out;omega
     obtain⟨ub,Ze,lF⟩:=HR.out.rA hik;obtain rfl:ub=_:=Ze;have x0:=lF wr (aB.below HL.out);have hsu:=Sub.nN k s[k] i;rw[Sub.aX hik] at hsu;have hpre:=(Sub.Cm (s:=s) (k:=k) (i:=i) hks (by rw[HG.out];omega)).length_le;rw[HG.out] at hpre
     have hzl:zs.length<=100000:=by
      rw[HZ.out,pZ];exact Nat.le_trans hpre jI
     have hz2:=HL.out.size;clear lF hpre;generalize s[k][i]=kp at*;cases kp with
     |true=>
      rw[if_pos rfl] at hsu
      have HSU:=hid hsu
      clear hsu
      go_wp2_with (at_builtin;go_must (refine cF eA rfl _ _ rfl Tryz.afE rfl HB.out (us:=[.int .i64 (k:Int),.int .i64 (i:Int)]) rfl rfl rfl ((k:Int),(i:Int)) rfl AU aC aC ?_))
      intro v' w6 how ht hn
      obtain⟨z2,Eo⟩:=aV (zs++[((k:Int),(i:Int))])
      rw[<-Eo] at how
      obtain⟨a',c',rfl, -⟩:=how.form
      have BW:Hid (BL w w6):=hid (HL.out.trans (ht.below hz2 (fun b hb=>by have:=(HB.out.lt b hb.symm).1;omega)))
      have HO6:=hid how
      have Xq:Hid (z2=pY (Sub.iU s k++Sub.mH k s[k] (i+1))):=hid (by rw[Eo,HZ.out,HSU.out,<-List.append_assoc];simp[pY])
      clear how ht hn Eo
      go_wp2
      go_roundw
      case rel=>exact⟨i+1,z2,a',c',by omega,by go_num,rfl,Xq,HO6,BW⟩
      simp[intOf];omega
     |false=>
      rw[if_neg aZ,List.append_nil] at hsu
      have Xq:Hid (zs=pY (Sub.iU s k++Sub.mH k s[k] (i+1))):=hid (by rw[hsu];exact HZ.out)
      clear hsu
      go_wp2
      go_roundw
      case rel=>exact⟨i+1,zs,va,vc,by omega,by go_num,rfl,Xq,HB,HL⟩
      simp[intOf];omega
    ·obtain rfl:m=i:=by omega
     have Xq:Hid (zs=pY (Sub.iU s (k+1))):=hid (by
      rw[Sub.lu,HG.out,<-Sub.pT,<-HM.out]
      exact HZ.out)
     go_wp2;go_roundw;case rel=>exact⟨k+1,zs,va,vc,by omega,by go_num,rfl,Xq,HB,HL⟩
     simp[intOf];omega
  ·obtain rfl:n=k:=by omega
   have Xq:Hid (zs=pY (Sub.kept s)):=hid (by rw[HZ.out,HN.out,Sub.yH]);have mZ:Hid (zs.length=(Sub.kept s).length):=hid (by rw[Xq.out,pZ]);go_wp2;go_ret;exact⟨va,vc,by rw[mZ.out];rfl,by rw[<-mZ.out,<-Xq.out];exact HB.out,HL.out⟩
open Go.Maps (Keyed)
def VI(v:Value):Option (DataW Nat×List MemPlace):=match v with
 | .bool x=>some (.lit (.bool x),[])
 |_=>none
theorem Qy{v:Value}{x:Bool}{ps:List MemPlace}(h:VI v=some (.lit (.bool x),ps)):v=.bool x:=by
 unfold VI at h;split at h
 ·simp at h
  rw[h.1]
 ·cases h
theorem VJ:Tryz.prog.underlying 9=some .string:=by kernel_rfl
theorem ad5:Maps.Keyed Tryz.prog 9:=Maps.string_keyed VJ
theorem VK:Tryz.prog.underlying 142=some (.map 9 4):=by kernel_rfl
theorem agX(w:World):(zeroValue 4).run Tryz.prog w=.ok (.bool false) w:=by kernel_rfl
theorem ad6{s:List UInt8}(h:s.length<=1000000):keyOf Tryz.prog 9 (.string ⟨s.toArray⟩)=some (.string s):=by
 have h1:=WideMaps.keyOf_string_mk VJ (s:=⟨s.toArray⟩) (by have:maxLen=9223372036854775807:=rfl;simp[ByteArray.size];omega);simpa using h1
theorem ad7{s:List UInt8}(h:s.length<=1000000):WideAt.IsKeyLit (.string s):=ad5.key (ad6 h)
def vq(w:World)(b n:Nat)(ks:List (List UInt8)):Prop:=
 ∃D:DataW Nat,w.ownsMap Tryz.prog 9 VI b n D/\∀t:List UInt8,t.length<=1000000->D.atKey (.string t) (.lit (.bool false))=.lit (.bool (decide (t∈ks)))
theorem vq.made(w:World):vq (w.alloc (.map #[] 0)) w.heap.size 0 []:=⟨.map [],World.ownsMap_made _ _ _ _,fun t _=>by rfl⟩
theorem vq.keep{w w':World}{b n:Nat}{ks:List (List UInt8)}(h:vq w b n ks)(hk:w'.heap[b]?=w.heap[b]?):vq w' b n ks:=by
 exact U6
theorem vq.lt{w:World}{b n:Nat}{ks:List (List UInt8)}(h:vq w b n ks):b<w.heap.size:=by
 obtain⟨D,h1, -⟩:=h;exact h1.lt
theorem vq.look{w:World}{b n:Nat}{ks:List (List UInt8)}(h:vq w b n ks){t:List UInt8}(ht:t.length<=1000000):
  (Instr.lookup 142 (.map (some b)) (.string ⟨t.toArray⟩) false).run Tryz.prog w=.ok (.bool (decide (t∈ks))) w:=by
 obtain⟨D,h1,h2⟩:=h;obtain⟨v,ps,hrun,hv⟩:=h1.lookup ad5 VK (z:=.bool false) (agX w) (zd:=.lit (.bool false)) (zp:=[]) rfl (ad6 ht);rw[h2 t ht] at hv;rw[Qy hv] at hrun;exact hrun
theorem vq.put{w:World}{b n:Nat}{ks:List (List UInt8)}(h:vq w b n ks)(hn:n<=1000000){t:List UInt8}(ht:t.length<=1000000):
  ∃w',(Instr.mapUpdate 142 (.map (some b)) (.string ⟨t.toArray⟩) (.bool true)).run Tryz.prog w=.ok () w'/\vq w' b (n+1) (ks++[t])/\Turns (·=b) w w':=by
 obtain⟨D,h1,h2⟩:=h;have jI:n<maxLen:=by have:maxLen=9223372036854775807:=rfl;omega
 obtain⟨w',hrun,how,hg⟩:=h1.update ad5 VK jI (ad6 ht) (val:=.bool true) (d:=.lit (.bool true)) (ps:=[]) rfl;refine⟨w',hrun,⟨_,how,fun u hu=>?_⟩,Turns.iq hg (fun b' e=>by cases e;rfl)⟩;by_cases e:u=t
 ·subst e
  rw[Maps.atKey_put_same h1.isMap (ad7 hu)];simp
 ·rw[Maps.atKey_put_other (fun h=>e (by injection h)),h2 u hu]
  simp[e]
end Go.Proofs.YteiakkfdchnddaaGreatDoor
namespace Go.Proofs.YteiakkfdchnddaaGreatDoor.Dr
open Go.RowKit
structure Below(B:Nat)(w w':World):Prop where
 toB:Go.RowKit.Below B w w'
 drawn:w.drawn<=w'.drawn
theorem Below.size{B:Nat}{w w':World}(h:Below B w w'):w.heap.size<=w'.heap.size:=h.toB.size
theorem Below.block{B:Nat}{w w':World}(h:Below B w w'):∀k,k<B->w'.heap[k]?=w.heap[k]?:=h.toB.block
theorem Below.refl(B:Nat)(w:World):Below B w w:=⟨.refl _ _,aH⟩
theorem Below.trans{B:Nat}{a b c:World}(h:Below B a b)(k:Below B b c):Below B a c:=⟨h.toB.trans k.toB,Nat.le_trans h.drawn k.drawn⟩
theorem Below.mono{B B':Nat}{w w':World}(h:Below B w w')(hB:B'<=B):Below B' w w':=⟨h.toB.mono hB,h.drawn⟩
theorem Below.alloc{B:Nat}{a w:World}(h:Below B a w)(hB:B<=w.heap.size)(o:Obj):Below B a (w.alloc o):=⟨h.toB.alloc hB o,h.drawn⟩
theorem Below.setCell{B:Nat}{a w:World}(h:Below B a w){p:Addr}(hp:B<=p.block)(u:Value):Below B a (w.setCell p u):=⟨h.toB.setCell hp u,h.drawn⟩
theorem aG{B:Nat}{a w:World}(h:Below B a w)(n:Nat):Below B a (w.drewN n):=⟨YteiakkfdchnddaaGreatDoor.aG h.toB n,Nat.le_trans h.drawn (Nat.le_add_right _ _)⟩
theorem aB.aQ{S:Nat->Prop}{w w':World}{B:Nat}(h:Below B w w')(hS:∀b,S b->b<B):aB S w w':=YteiakkfdchnddaaGreatDoor.aB.aQ h.toB hS
theorem aB.below{S:Nat->Prop}{w w':World}(h:Below w.heap.size w w'):aB S w w':=YteiakkfdchnddaaGreatDoor.aB.below h.toB
def aS(A:Nat->Obj->Prop)(n0:Nat)(W W':World):Prop:=Below n0 W W'/\∀(b:Nat) (o:Obj),W.heap[b]?=some o->¬A b o->W'.heap[b]?=some o
theorem aS.refl(A:Nat->Obj->Prop)(n0:Nat)(W:World):aS A n0 W W:=⟨(Below.refl _ _),fun _ _ h _=>h⟩
theorem aS.trans{A:Nat->Obj->Prop}{n0:Nat}{W W1 W2:World}(h:aS A n0 W W1)(k:aS A n0 W1 W2):aS A n0 W W2:=
 ⟨h.1.trans k.1,fun b o hb ha=>k.2 b o (h.2 b o hb ha) ha⟩
theorem aS.mono{A A':Nat->Obj->Prop}{n0:Nat}{W W1:World}(h:aS A n0 W W1)(hA:∀b o,A b o->A' b o):aS A' n0 W W1:=
 ⟨h.1,fun b o hb ha=>h.2 b o hb (fun h=>ha (hA b o h))⟩
theorem aS.putObj{A:Nat->Obj->Prop}{n0:Nat}{W:World}{l:Nat}{o:Obj}(o':Obj)(h:W.heap[l]?=some o)(ha:A l o)(hn:n0<=l):aS A n0 W (W.putObj l o'):=
 have:=YteiakkfdchnddaaGreatDoor.aS.putObj o' h ha hn
 ⟨⟨this.1,aH⟩,this.2⟩
theorem aS.alloc{A:Nat->Obj->Prop}{n0:Nat}{W W1:World}(h:aS A n0 W W1)(hn:n0<=W.heap.size)(o:Obj):aS A n0 W (W1.alloc o):=
 ⟨h.1.alloc (Nat.le_trans hn h.1.size) o,fun b o2 hb ha=>(Go.RowKit.Below.heap_alloc W1 o b (Array.getElem?_eq_some_iff.1 (h.2 b o2 hb ha)).1).trans (h.2 b o2 hb ha)⟩
theorem aS.drewN{A:Nat->Obj->Prop}{n0:Nat}{W W1:World}(h:aS A n0 W W1)(m:Nat):aS A n0 W (W1.drewN m):=⟨aG h.1 m,h.2⟩
theorem aS.setCell{A:Nat->Obj->Prop}{n0:Nat}{W W1:World}(h:aS A n0 W W1){p:Addr}{o:Obj}(hp:W1.heap[p.block]?=some o)(ha:A p.block o)(hn:n0<=p.block)(v:Value):aS A n0 W (W1.setCell p v):=by
 refine h.trans ⟨(Below.refl _ _).setCell hn v,fun b o2 hb ha2=>?_⟩;by_cases e:b=p.block
 ·subst e;rw[hp] at hb;cases hb;exact absurd ha ha2
 ·exact(Go.RowKit.Below.heap_setCell _ _ _ _ e).trans hb
theorem aS.aQ{A:Nat->Obj->Prop}{n0:Nat}{w w':World}(h:Below w.heap.size w w')(hn:n0<=w.heap.size):aS A n0 w w':=
 ⟨h.mono hn,fun b _ hb _=>(h.block b (Array.getElem?_eq_some_iff.1 hb).1).trans hb⟩
def Marks(n0 nB:Nat)(ds:List Deferred)(w:World):Prop:=
 ∃Ds:List Nat,ds=Ds.map (fun D=>{target:=.collected D,args:=#[]})/\Ds.Nodup/\∀D∈Ds,n0<=D/\D<nB/\w.heap[D]?=some (.deferred (some []))
theorem Marks.nil(n0 nB:Nat)(w:World):Marks n0 nB [] w:=⟨[],rfl,List.nodup_nil,fun D h=>absurd h aZ⟩
theorem Marks.mono{n0 nB nB':Nat}{ds:List Deferred}{w:World}(h:Marks n0 nB ds w)(hn:nB<=nB'):Marks n0 nB' ds w:=by
 obtain⟨Ds,h1,h2,h3⟩:=h;exact⟨Ds,h1,h2,fun D hD=>⟨(h3 D hD).1,Nat.lt_of_lt_of_le (h3 D hD).2.1 hn,(h3 D hD).2.2⟩⟩
theorem Marks.turn{A:Nat->Obj->Prop}{n0 n1 nB:Nat}{ds:List Deferred}{w w':World}(h:Marks n0 nB ds w)(ht:aS A n1 w w')(hA:∀b o,b<nB->A b o->¬book o):Marks n0 nB ds w':=by
 exact abj
theorem Marks.push{n0 nB:Nat}{ds:List Deferred}{w:World}(h:Marks n0 nB ds w){D:Nat}(hD:nB<=D)(hn:n0<=D)(hk:w.heap[D]?=some (.deferred (some []))):
  Marks n0 w.heap.size ({target:=.collected D,args:=#[]}::ds) w:=by
 obtain⟨Ds,h1,h2,h3⟩:=h;have hlt:=(Array.getElem?_eq_some_iff.1 hk).1;refine⟨D::Ds,by rw[h1];rfl,List.nodup_cons.2 ⟨fun hm=>?_,h2⟩,fun E hE=>?_⟩
 ·have:=(h3 D hm).2.1
  omega
 ·rcases List.mem_cons.1 hE with rfl|hE
  ·exact⟨hn,hlt,hk⟩
  ·exact⟨(h3 E hE).1,by have:=(h3 E hE).2.1;omega,(h3 E hE).2.2⟩
theorem lJ{P:Program}{n n0:Nat}{fn:Func}{tmps:Array Value}{R:Ending->World->Prop}{v:Value}:∀(Ds:List Nat) (w:World),Ds.Nodup->(∀D∈Ds,n0<=D/\w.heap[D]?=some (.deferred (some [])))->
  (∀w',aS (bH n0) n0 w w'->(results fn tmps).run P w'=.ok v w'/\R (.returned v) w')->LeavesInM Fence.wide n P fn tmps R (Ds.map (fun D=>{target:=.collected D,args:=#[]})) .returning w
 |[],w,_,_,h=>⟨_,(h w (aS.refl _ _ _)).1,(h w (aS.refl _ _ _)).2⟩
 |D::Ds,w,hn,hD,h=>by
  obtain⟨hnd,hns⟩:=List.nodup_cons.1 hn;have hk:=(hD D List.mem_cons_self);have ht:aS (bH n0) n0 w (w.putObj D (.deferred none)):=aS.putObj _ hk.2 ⟨hk.1,trivial⟩ hk.1;refine⟨by simp,.inl ⟨D,_,rfl,run_takeDeferred hk.2,?_⟩⟩;refine lJ Ds _ hns (fun E hE=>⟨(hD E (List.mem_cons_of_mem _ hE)).1,?_⟩) (fun w' h'=>h w' (ht.trans h'));have hne:E≠D:=fun e=>hnd (e▸hE);exact(World.putObj_heap_other hne).trans (hD E (List.mem_cons_of_mem _ hE)).2
theorem jt{P:Program}{n n0:Nat}{fn:Func}{tmps:Array Value}{ds:List Deferred}{w:World}{R:Ending->World->Prop}{v:Value}{nB:Nat}(hm:Marks n0 nB ds w)
  (h:∀w',aS (bH n0) n0 w w'->(results fn tmps).run P w'=.ok v w'/\R (.returned v) w'):bodyPostM Fence.wide n P fn R .ret {tmps,defers:=ds} w:=by
 exact abk
def sN{α:Type}(P:Program)(n0 nB gf:Nat)(lb:Array Value)(encs:α->Array Value)(G:List α->α->World->Prop)(bA iA:Nat->Obj->Prop)(S:List α->World->Prop)(w:World):Prop:=
 ∀(l:Nat) (J Jx:List α->World->Prop) (W:World),Below w.heap.size w W->
  (∀pre A B,J pre A->aS iA n0 A B->J pre B)->(∀pre A B,Jx pre A->aS iA n0 A B->Jx pre B)->
  (∀pre x W1,J pre W1->G pre x W1->YieldAt Fence.wide 0 P l (encs x) W1 fun e W'=>
   aS (fun b o=>bA b o\/bH nB b o) n0 W1 W'/\((e=.returned (.bool true)/\J (pre++[x]) W')\/(e=.returned (.bool false)/\Jx (pre++[x]) W')))->
  J [] W->Calls P gf (#[.func (.yield l) #[] #[]]++lb) W fun e W'=>(∃v,e=.returned v)/\((∃xs,S xs W'/\J xs W')\/∃xs,Jx xs W')
def QS{α:Type}(bA:Nat->Obj->Prop)(n0:Nat)(I Ix:List α->World->Prop)(xs:List α)(W:World):Exit->Act->World->Prop
 | .normal,_,W3=>aS bA n0 W W3/\I xs W3
 | .ret,_,W3=>aS bA n0 W W3/\Ix xs W3
 |_,_,_=>False
theorem Ck{P:Program}{α:Type}{n0 nB:Nat}{ps:Array Tmp}{assign body:Code}{fn:FuncId}{tmps:Array Value}{dfr l gf:Nat}{lb:Array Value}{w W1:World}
  {encs:α->Array Value}(hps:∀x,(encs x).size=ps.size){G:List α->α->World->Prop}{bA iA:Nat->Obj->Prop}{S:List α->World->Prop}(hseq:sN P n0 nB gf lb encs G bA iA S w)
  (hb1:Below w.heap.size w W1)(hL1:W1.heap[l]?=some (.loop (sO fn tmps ps assign body dfr .ready none)))(hlB:nB<=l)(hn:n0<=nB)(hiA:∀b o,iA b o->¬book o)(Vd:∀b o,bA b o->¬book o)
  (I Ix:List α->World->Prop)(hI:∀pre A B,I pre A->aS (fun b o=>iA b o\/bH nB b o) n0 A B->I pre B)(hIx:∀pre A B,Ix pre A->aS (fun b o=>iA b o\/bH nB b o) n0 A B->Ix pre B)
  (hS:∀xs A B,S xs A->aS (bH nB) n0 A B->S xs B)
  (E:World->Prop)(hE:∀(A:Nat->Obj->Prop) X Y,(∀b o,A b o->¬book o)->aS A n0 X Y->E X->E Y)(hEl:∀X o,E X->E (X.putObj l o))(h0:I [] W1)(hE0:E W1)
  (lm:∀pre x W,W.heap[l]?=some (.loop (sO fn tmps ps assign body dfr .ready none))->I pre W->G pre x W->assign.wpIn (Fence.wide.inRound l) 0 P (Exit.then (fun a₁ W1=>aS bA n0 W W1/\∀W2,aS (bH nB) n0 W1 W2->W2.heap.size=W1.heap.size->(∃r,W2.heap[l]?=some (.loop r))->
    body.wpIn (Fence.wide.inRound l) 0 P (QS bA n0 I Ix (pre++[x]) W2) a₁ W2) (fun _ _ _=>False))
   {tmps:=(ps.zip (encs x)).foldl (fun t (p,v)=>t.setIfInBounds p v) tmps,defers:=[]} W):
  Calls P gf (#[.func (.yield l) #[] #[]]++lb) W1 fun e W2=>(∃v,e=.returned v)/\∃jump W4,(Instr.endLoop l).run P W2=.ok jump W4/\E W4/\
   ((jump=none/\∃xs,S xs W4/\I xs W4)\/(jump=some .ret/\∃xs,Ix xs W4)):=by
 exact af9
theorem l7{P:Program}{α:Type}{n n0:Nat}{g:Operand}{ps:Array Tmp}{assign body:Code}{Q:Exit->Act->World->Prop}{a:Act}{w:World}
  {gf:Nat}{lb:Array Value}(hg:a.eval g=.func (.func gf) #[] lb)(eg:∀args w,(callFunc gf args).run P w=.ok (.enter gf args) w)
  {encs:α->Array Value}(hps:∀x,(encs x).size=ps.size){G:List α->α->World->Prop}{bA iA:Nat->Obj->Prop}{S:List α->World->Prop}(hseq:sN P n0 w.heap.size gf lb encs G bA iA S w)
  (hn0:n0<=w.heap.size)(hiA:∀b o,iA b o->¬book o)(Vd:∀b o,bA b o->¬book o)
  (I Ix:List α->World->Prop)(hI:∀pre A B,I pre A->aS (fun b o=>iA b o\/bH w.heap.size b o) n0 A B->I pre B)(hIx:∀pre A B,Ix pre A->aS (fun b o=>iA b o\/bH w.heap.size b o) n0 A B->Ix pre B)
  (hS:∀xs A B,S xs A->aS (bH w.heap.size) n0 A B->S xs B)(h0:I [] w)
  (lm:∀l pre x W,(∃r,W.heap[l]?=some (.loop r))->I pre W->G pre x W->assign.wpIn (Fence.wide.inRound l) 0 P (Exit.then (fun a₁ W1=>aS bA n0 W W1/\∀W2,aS (bH w.heap.size) n0 W1 W2->W2.heap.size=W1.heap.size->(∃r,W2.heap[l]?=some (.loop r))->
    body.wpIn (Fence.wide.inRound l) 0 P (QS bA n0 I Ix (pre++[x]) W2) a₁ W2) (fun _ _ _=>False))
   {tmps:=(ps.zip (encs x)).foldl (fun t (p,v)=>t.setIfInBounds p v) a.tmps,defers:=[]} W)
  (hdone:∀D xs W,w.heap.size<=D->S xs W->I xs W->W.heap[D]?=some (.deferred (some []))->Q .normal {a with defers:={target:=.collected D,args:=#[]}::a.defers} W)
  (hstop:∀D xs W,w.heap.size<=D->Ix xs W->W.heap[D]?=some (.deferred (some []))->Q .ret {a with defers:={target:=.collected D,args:=#[]}::a.defers} W):
  (Code.rangeFunc g ps assign body).wpIn Fence.wide n P Q a w:=by
 refine wpIn_rangeFunc ?_;intro fn hfn;obtain⟨W1,hW1⟩:∃W1,(w.alloc (.deferred (some []))).alloc (.loop (sO fn a.tmps ps assign body w.heap.size .ready none))=W1:=⟨_,rfl⟩
 have hL1:W1.heap[w.heap.size+1]?=some (.loop (sO fn a.tmps ps assign body w.heap.size .ready none)):=by
  rw[<-hW1];have:=World.alloc_heap_new (w.alloc (.deferred (some []))) (.loop (sO fn a.tmps ps assign body w.heap.size .ready none));rwa [World.size_alloc] at this
 have hK1:W1.heap[w.heap.size]?=some (.deferred (some [])):=by
  rw[<-hW1];exact(Go.RowKit.Below.heap_alloc _ _ _ aZ).trans (World.alloc_heap_new w _)
 have hb1:Below w.heap.size w W1:=by rw[<-hW1];exact((Below.refl _ w).alloc aH _).alloc aZ _
 exact abm
theorem abD{p:Prop}(h:p:=by
  gi_wp2
  go_roundw
  case rel=>exact⟨i+1,by omega,by go_num,H2⟩
  case measure=>simp[intOf];omega):p:=h
theorem E6(s:Sub.S)(n0 nB b l:Nat)(v:Value)(S:Nat->Prop)(W0:World)(bA:Nat->Obj->Prop)(Kp:World->Prop)(hKp:∀X Y,Kp X->aS (fun b o=>bA b o\/bH nB b o) n0 X Y->Kp Y)
  (hK1:∀X,Kp X->X.heap[b]?=some (.cells #[v] 61 (0,0)))(hK2:∀X,Kp X->aB S W0 X)(hs:cQ S W0 v s)
  (J Jx:List (Nat×Nat)->World->Prop)(hJ:∀pre X Y,J pre X->aS (fun _ _=>False) n0 X Y->J pre Y)(W:World)
  (hY:∀pre (x:Nat×Nat) W1,J pre W1->pre++[x]<+:Sub.kept s->YieldAt Fence.wide 0 Tryz.prog l #[.agg #[.int .i64 (x.1:Int),.int .i64 (x.2:Int)]] W1 fun e W'=>
   aS (fun b o=>bA b o\/bH nB b o) n0 W1 W'/\((e=.returned (.bool true)/\J (pre++[x]) W')\/(e=.returned (.bool false)/\Jx (pre++[x]) W')))
  (hkp:Kp W)(h0:J [] W):
  Calls Tryz.prog 86 #[.func (.yield l) #[] #[],.pointer (some ⟨b,0,none⟩)] W fun e W'=>(∃v,e=.returned v)/\((∃xs,xs=Sub.kept s/\J xs W')\/∃xs,Jx xs W'):=by
 have c0:=(one_cell (hK1 W hkp)).1;obtain⟨a,cap,rfl,hok,hc,hm⟩:=hs.form;have HS:=hid hs;have HK0:=hid (And.intro hkp h0);have HY:=hid hY;have HDJ:=hid (fun pre X m (h:J pre X)=>hJ pre X (X.drewN m) h ((aS.refl _ _ _).drewN m));have HDK:=hid (fun X m (h:Kp X)=>hKp X (X.drewN m) h ((aS.refl _ _ _).drewN m));have vF:=hid hK2;have Du:=hid hKp;clear hY hkp h0 hK1 hK2 hs hKp hJ;rw[<-callsIn_wide (n:=1)];refine callsIn_of_wp Tryz.func86 rfl trivial ?_ rfl;simp only[Tryz.ntmps86,List.size_toArray,List.length_cons,List.length_nil,Nat.reduceAdd,Nat.reduceSub,Array.replicate_succ,Array.replicate_zero,List.push_toArray,List.append_toArray,List.nil_append,List.cons_append];gi_wp2;clear c0;gi_loopw [9] (fun c wr=>∃k:Nat,k<=s.length/\c=.int .i64 k/\Hid (Kp wr/\J (Sub.iU s k) wr)) (fun c _=>s.length-(intOf c).toNat);case atStart=>exact⟨0,by omega,rfl,hid ⟨HK0.out.1,by rw[Sub.Cl];exact HK0.out.2⟩⟩
 case round=>
  obtain⟨k,hk,rfl,HR⟩:=hrel;by_cases hlt:k<s.length
  ·obtain⟨u,hu1,lF⟩:=HS.out.rA hlt
   have x0:=lF wr (vF.out wr HR.out.1);obtain⟨a1,c1,rfl,adN,hc1,hm1⟩:=hu1.form;have HB:=hid hu1;have HG:Hid (s.getD k []=s[k]):=hid (Sub.aX hlt);have hk0:(0:Int)<=(k:Int):=by omega
   have hk1:(k:Int)<(s.length:Int):=by omega
   clear hu1 lF;obtain⟨nr,zQ⟩:∃n,n=s[k].length:=⟨_,rfl⟩;rw[<-zQ] at HB adN hc1 x0;have Qa:=hid zQ;clear zQ;gi_wp2;clear x0;generalize Ry:wr=Wb at*;gi_loopw [16] (fun c wr=>∃i:Nat,i<=nr/\c=.int .i64 i/\Hid (Kp wr/\J (Sub.iU s k++Sub.mH k s[k] i) wr)) (fun c _=>nr-(intOf c).toNat);case atStart=>exact⟨0,by omega,rfl,hid ⟨HR.out.1,by rw[Sub.vm,List.append_nil];exact HR.out.2⟩⟩
   case round=>
    obtain⟨i,hi,rfl,LV⟩:=hrel;by_cases hit:i<nr
    ·have hi0:(0:Int)<=(i:Int):=by omega
     have hi1:(i:Int)<(nr:Int):=by omega
     have hik:i<s[k].length:=by have:=Qa.out;omega
     obtain⟨ub,Ze,lF⟩:=HB.out.rA hik;obtain rfl:ub=_:=Ze;have x0:=lF wr (vF.out wr LV.out.1);have hsu:=Sub.nN k s[k] i;rw[Sub.aX hik] at hsu;have hpre:=Sub.Cm (s:=s) (k:=k) (i:=i+1) hlt (by rw[HG.out];omega);rw[HG.out] at hpre;clear lF;generalize s[k][i]=kp at*;cases kp with
     |true=>
      rw[if_pos rfl] at hsu
      rw[hsu,<-List.append_assoc] at hpre
      obtain⟨fn,tmps,assign,body,hyy,hR⟩:=YieldAt.oV (m':=0) rfl (HY.out _ (k,i) wr LV.out.2 hpre)
      have Dm:=hid hR
      have HSU:=hid hsu
      clear hsu hpre hR
      gi_wp2
      refine(RoundIn.oV rfl Dm.out).mono ?_
      rintro e W2 ⟨ht2,hres⟩
      have hk2:=Du.out _ _ LV.out.1 ht2
      rw[List.append_assoc,<-HSU.out] at hres
      rcases hres with⟨rfl,hj2⟩|⟨rfl,hj2⟩
      ·have H2:=hid (And.intro hk2 hj2)
       clear ht2 hk2 hj2 Dm hyy HSU;exact abD
      ·exact abn
     |false=>
      rw[if_neg aZ] at hsu
      have H2:Hid (Kp wr/\J (Sub.iU s k++Sub.mH k s[k] (i+1)) wr):=hid ⟨LV.out.1,by rw[hsu,List.append_nil];exact LV.out.2⟩
      clear hsu hpre
      gi_wp2
      refine⟨by simp,?_⟩
      exact abD
    ·obtain rfl:nr=i:=by omega
     have H2:Hid (Kp wr/\J (Sub.iU s (k+1)) wr):=hid ⟨LV.out.1,by
      have:=LV.out.2
      rw[Sub.lu,HG.out,<-Sub.pT,<-Qa.out]
      exact this⟩
     gi_wp2;go_roundw;case rel=>exact⟨k+1,by omega,by go_num,H2⟩
     case measure=>simp[intOf];omega
  ·exact abo
theorem sP(a:Option Addr)(n c:Nat)(w:World):Calls Tryz.prog 58 #[.slice a n c] w fun e w'=>e=.returned (.func (.func 86) #[] #[.pointer (some ⟨w.heap.size,0,none⟩)])/\w'=w.alloc (.cells #[.slice a n c] 61):=by
 go_enter Tryz.func58,Tryz.ntmps58;go_wp2;go_ret;exact⟨rfl,rfl⟩
theorem pU(s:Sub.S)(n0 nB b:Nat)(v:Value)(S:Nat->Prop)(bA:Nat->Obj->Prop)(w:World)(hn0:n0<=w.heap.size)(hs:cQ S w v s)
  (hb:w.heap[b]?=some (.cells #[v] 61 (0,0)))(Vd:∀o,¬bA b o)(hk:∀X,aS (fun b o=>bA b o\/bH nB b o) n0 w X->aB S w X):
  sN (α:=Nat×Nat) Tryz.prog n0 nB 86 #[.pointer (some ⟨b,0,none⟩)] (fun x=> #[.agg #[.int .i64 (x.1:Int),.int .i64 (x.2:Int)]]) (fun pre x _=>pre++[x]<+:Sub.kept s) bA (fun _ _=>False) (fun xs _=>xs=Sub.kept s) w:=by
 exact abp
attribute [local go_sem] Oper.semAt_some
theorem yM(s:Sub.S)(jI:Sub.size s<=1000000)(t:Value)(U:Nat->Prop)(w:World)(hs:cQ U w t s):
  Calls Tryz.prog 28 #[t] w fun e w'=>e=.returned (.int .i64 (Sub.size s:Nat))/\Below w.heap.size w w':=by
 obtain⟨w1,hw1⟩:∃V,V=w.alloc (.cells #[.int .i64 0] 3):=⟨_,rfl⟩;have bf:Hid (Below w.heap.size w w1):=hid (by rw[hw1];exact(Below.refl _ _).alloc aH _);have LZ:Hid (w1.heap[w.heap.size]?=some (.cells #[.int .i64 0] 3 (0,0))):=hid RM;have hz1:w.heap.size<w1.heap.size:=aj LZ.out;have HW1:=hid hw1;clear hw1;have HS:=hid (cQ.mono (S':=(·<w.heap.size)) hs (fun b hb _=>hb));obtain⟨wU,cs,rfl,hss, -, -⟩:=hs.form;clear hs;obtain⟨sz,hsz⟩:∃n,n=Sub.size s:=⟨_,rfl⟩;rw[<-hsz] at jI ⊢;have Xk:=hid hsz;clear hsz;rw[<-callsIn_wide (n:=5)];refine callsIn_of_wp_marks Tryz.func28 rfl trivial ?_ rfl;simp only[Tryz.ntmps28,List.size_toArray,List.length_cons,List.length_nil,Nat.reduceAdd,Nat.reduceSub,Array.replicate_succ,Array.replicate_zero,List.push_toArray,List.append_toArray,List.nil_append,List.cons_append];rw[wpIn_wide];go_upto_region 2 with fail;rw[<-HW1.out];go_wp2_with fail;refine(sP _ _ _ _).mono ?_;rintro e w5 ⟨rfl,mq⟩;have jR:Below w1.heap.size w1 w5:=by rw[mq];exact(Below.refl _ _).alloc aH _
 have Cw:w5.heap[w1.heap.size]?=some (.cells #[.slice wU s.length cs] 61 (0,0)):=by rw[mq];exact aP _ _ rfl
 have Rk:=aj Cw;have DZ:Hid (Below w.heap.size w w5):=hid (bf.out.trans (jR.mono aC));have Zo:Hid (w5.heap[w.heap.size]?=some (.cells #[.int .i64 0] 3 (0,0))):=hid ((jR.block _ hz1).trans LZ.out)
 have Jh:Hid (sN (α:=Nat×Nat) Tryz.prog w.heap.size w5.heap.size 86 #[.pointer (some ⟨w1.heap.size,0,none⟩)] (fun x=> #[.agg #[.int .i64 (x.1:Int),.int .i64 (x.2:Int)]]) (fun pre x _=>pre++[x]<+:Sub.kept s) (Ay w.heap.size) (fun _ _=>False) (fun xs _=>xs=Sub.kept s) w5):=
  hid (pU s w.heap.size w5.heap.size w1.heap.size _ (·<w.heap.size) (Ay w.heap.size) w5 aC (HS.out.keep (aB.below DZ.out)) Cw (fun o h=>by have:=h.1;omega) (fun Y ht=>aB.aQ ht.1 (fun _ h=>h)))
 clear mq jR Cw;go_wp2;rw[<-wpIn_wide (n:=5)]
 refine l7 (α:=Nat×Nat) (n0:=w.heap.size) (gf:=86) rfl (bE Tryz.func86 (by kernel_rfl) rfl) (fun _=>rfl) Jh.out aC (fun _ _ h=>h.elim) (fun _ _ h=>h.2)
  (fun pre Y=>aS (fun b o=>Ay w.heap.size b o\/bH w5.heap.size b o) w.heap.size w5 Y/\Y.heap[w.heap.size]?=some (.cells #[.int .i64 (pre.length:Nat)] 3 (0,0))) (fun _ _=>False)
  (fun pre A B h ht=>⟨h.1.trans (ht.mono (fun b o h=>h.elim False.elim .inr)),ht.2 _ _ h.2 (by
   rintro (h|h)
   ·exact h
   ·simp[bH,book] at h)⟩) (fun _ _ _ h _=>h) (fun _ _ _ h _=>h) ⟨aS.refl _ _ _,Zo.out⟩ ?lm ?hdone ?hstop
 case lm=>
  rintro l pre y Y hlr ⟨hI1,xM⟩ L5;obtain⟨k,i⟩:=y;simp only[List.zip_toArray,List.zip_cons_cons,List.zip_nil_left];have hsY:=hI1.1.size
  have hpl:pre.length+1<=sz:=by
   have h1:=L5.length_le;rw[List.length_append] at h1;rw[Xk.out];exact h1
  gi_wp2;refine⟨aS.refl _ _ _,fun Y2 ht2 hs2 hl2=>?_⟩;have hA2:=ht2.2 _ _ xM Ac;have qt:Hid (aS (fun b o=>Ay w.heap.size b o\/bH w5.heap.size b o) w.heap.size w5 Y2):=hid (hI1.trans (ht2.mono (fun b o h=>.inr h)));have c4:=(one_cell hA2).1;have c5:=(one_cell hA2).2
  have HQ:Hid (QS (Ay w.heap.size) w.heap.size (fun pre Y=>aS (fun b o=>Ay w.heap.size b o\/bH w5.heap.size b o) w.heap.size w5 Y/\Y.heap[w.heap.size]?=some (.cells #[.int .i64 (pre.length:Nat)] 3 (0,0))) (fun(_:List (Nat×Nat)) _=>False) (pre++[(k,i)]) Y2 .normal {tmps:=#[],defers:=[]} (Y2.setCell ⟨w.heap.size,0,none⟩ (.int .i64 ((pre.length:Int)+1)))):=hid (by
   have t24:aS (Ay w.heap.size) w.heap.size Y2 (Y2.setCell ⟨w.heap.size,0,none⟩ (.int .i64 ((pre.length:Int)+1))):=
    aS.setCell (p:=⟨w.heap.size,0,none⟩) (aS.refl _ _ _) hA2 ⟨rfl,by simp[book]⟩ aH _
   refine⟨t24,qt.out.trans (t24.mono (fun b o h=>.inl h)),?_⟩
   rw[List.length_append]
   exact one_set _ hA2)
  have hp0:(0:Int)<=(pre.length:Int):=by omega
  have hp1:(pre.length:Int)<=1000000:=by omega
  clear hI1 xM ht2 hA2 L5 hs2;gi_wp2;exact HQ.out
 case hdone=>
  rintro D xs Y hD rfl ⟨hI1,xM⟩ hk;have c4:=(one_cell xM).1;have HM:=hid ((Marks.nil w.heap.size w5.heap.size Y).push hD aC hk);have HB:=hid (DZ.out.trans hI1.1);have hkl:(Sub.kept s).length=sz:=by rw[Xk.out];rfl
  rw[hkl] at c4;clear hI1 xM hk hkl;dsimp only;go_wp2;refine jt (v:=.int .i64 (sz:Int)) HM.out (fun w' ht=>⟨?_,rfl,HB.out.trans ht.1⟩);simp[results,Tryz.results28,go_sem]
 case hstop=>
  rintro D xs Y hD h;exact h.elim
theorem Ff(sh:List Nat)(a b:Sub.S)(hfa:Sub.Fit sh a)(AQ:Sub.Fit sh b)(hsa:Sub.size a<=1000000)(hsb:Sub.size b<=1000000)(jI:sh.length<=1000000)(t u:Value)(U V:Nat->Prop)(w:World)(ha:cQ U w t a)(hb:cQ V w u b):
  Calls Tryz.prog 57 #[t,u] w fun e w'=>e=.returned (.bool (Sub.less sh a b))/\Below w.heap.size w w':=by
 have hlen:a.length=b.length:=by rw[hfa.1,AQ.1]
 have hmap:a.map List.length=b.map List.length:=by
  refine List.ext_getElem (by simp[hlen]) fun k h1 h2=>?_;simp only[List.length_map] at h1 h2;have e1:=hfa.2 k;have e2:=AQ.2 k;rw[Sub.aX h1] at e1;rw[Sub.aX h2] at e2;simp only[List.getElem_map];omega
 have HEq:=hid (Vs a b hmap (by rw[hfa.1];omega) t u U V w ha hb);have HSa:=hid (yM a hsa t U w ha);have ZG:=hid (fun X (hX:Below w.heap.size w X)=>yM b hsb u V X (hb.keep (aB.below hX)));have HA:=hid ha;have HB:=hid hb;obtain⟨aa,ac,rfl,hoa, -, -⟩:=ha.form;obtain⟨ba,bc,rfl,hob, -, -⟩:=hb.form;have HFa:=hid hfa;have HFb:=hid AQ;obtain⟨za,hza⟩:∃n,n=Sub.size a:=⟨_,rfl⟩;obtain⟨zb,Xb⟩:∃n,n=Sub.size b:=⟨_,rfl⟩;have Xr:Hid (za≠zb->Sub.less sh a b=decide (za<zb)):=hid (fun h=>by rw[hza,Xb] at h ⊢;exact Sub.Qk h);have nF:Hid (za=zb->∀k i,k<sh.length->i<sh.getD k 0->(∀k' i',k'<k\/(k'=k/\i'<i)->Sub.keeps a k' i'=Sub.keeps b k' i')->Sub.keeps a k i≠Sub.keeps b k i->Sub.less sh a b=Sub.keeps a k i):=hid (fun h k i h1 h2 h3 h4=>Sub.Zr (by rw[<-hza,<-Xb];exact h) h1 h2 h3 h4);have Vl:Hid (za=zb->(∀k' i',Sub.keeps a k' i'=Sub.keeps b k' i')->Sub.less sh a b=false):=hid (fun h h1=>Sub.Ql (by rw[<-hza,<-Xb];exact h) h1);rw[<-hza] at hsa HSa;rw[<-Xb] at hsb ZG;obtain⟨res,hres⟩:∃r,r=Sub.less sh a b:=⟨_,rfl⟩;rw[<-hres] at Xr nF Vl ⊢;obtain⟨na,hna⟩:∃n,n=a.length:=⟨_,rfl⟩;have hnb:b.length=na:=by rw[hna];exact hlen.symm
 have hns:sh.length=na:=by rw[hna];exact hfa.1.symm
 rw[<-hna] at HEq HSa hoa;rw[hnb] at HEq ZG hob;rw[<-hna,hnb];have HNa:=hid hna;have HNb:=hid hnb;have HNs:=hid hns;have hnm:na<=1000000:=by omega
 clear ha hb hfa AQ hlen hmap hza Xb hres hna hnb hns jI;go_enter Tryz.func57,Tryz.ntmps57;go_wp2_with fail;refine HEq.out.mono ?_;rintro e w1 ⟨rfl,rfl⟩;go_wp2_with fail;refine HSa.out.mono ?_;rintro e w2 ⟨rfl,hb2⟩;have bK:=hid hb2;clear hb2;go_wp2_with fail;refine(ZG.out w2 bK.out).mono ?_;rintro e w3 ⟨rfl,hb3⟩;have bZ:Hid (Below w.heap.size w w3):=hid (bK.out.trans (hb3.mono bK.out.size));clear hb3;by_cases hz:za=zb
 ·have HAt2:=hid (nF.out hz)
  have HNn2:=hid (Vl.out hz);have hz2:(za:Int)=(zb:Int):=by omega
  clear nF Vl Xr;subst hz;go_wp2;go_loopw [25] (fun kk wr=>∃k:Nat,k<=na/\kk=.int .i64 k/\Hid (∀k' i',k'<k->Sub.keeps a k' i'=Sub.keeps b k' i')/\Hid (Below w.heap.size w wr)) (fun kk _=>na-(intOf kk).toNat);case atStart=>exact⟨0,Nat.zero_le _,rfl,hid (fun k' i' h=>absurd h aC),bZ⟩
  case round=>
   obtain⟨k,hk,rfl,ZH,qC⟩:=hrel;by_cases hlt:k<na
   ·have hk0:(0:Int)<=(k:Int):=by omega
    have hk1:(k:Int)<(na:Int):=by omega
    have hka:k<a.length:=by rw[<-HNa.out];exact hlt
    have hkb:k<b.length:=by rw[HNb.out];exact hlt
    obtain⟨ra,ad8,ZI⟩:=HA.out.rA hka;obtain⟨rb,ad9,aea⟩:=HB.out.rA hkb;obtain⟨aa1,ac1,rfl,hoa1,hxc,hxm⟩:=ad8.form;obtain⟨ba1,bc1,rfl,hob1, -, -⟩:=ad9.form;have hla:=HFa.out.2 k;rw[Sub.aX hka] at hla;have hlb:=HFb.out.2 k;rw[Sub.aX hkb] at hlb;obtain⟨m,hm⟩:∃m,m=sh.getD k 0:=⟨_,rfl⟩;rw[<-hm] at hla hlb;rw[hla] at ZI hoa1 hxc;rw[hlb] at aea hob1;have HRa:=hid ad8;have HRb:=hid ad9;have HRa2:=hid ZI;have HRb2:=hid aea;have HLa:=hid hla;have HLb:=hid hlb;have HM:=hid hm;have x0:wr.cell? ⟨bD aa,bJ aa+k,none⟩=some (.slice aa1 m ac1):=ZI wr (aB.below qC.out);clear ad8 ZI ad9 aea hla hlb hm;go_wp2;clear x0;generalize Ry:wr=Wb at*;go_loopw [33] (fun ii wr=>∃i:Nat,i<=m/\ii=.int .i64 i/\Hid (∀k' i',k'<k\/(k'=k/\i'<i)->Sub.keeps a k' i'=Sub.keeps b k' i')/\Hid (Below w.heap.size w wr)) (fun ii _=>m-(intOf ii).toNat);case atStart=>exact⟨0,Nat.zero_le _,rfl,hid (fun k' i' h=>ZH.out k' i' aC),qC⟩
    case round=>
     obtain⟨i,hi,rfl,HPi,JX⟩:=hrel;by_cases hit:i<m
     ·have hi0:(0:Int)<=(i:Int):=by omega
      have hi1:(i:Int)<(m:Int):=by omega
      have hia:i<a[k].length:=by rw[HLa.out];exact hit
      have hib:i<b[k].length:=by rw[HLb.out];exact hit
      obtain⟨ca,hca1,agY⟩:=HRa.out.rA hia;obtain rfl:ca=_:=hca1;obtain⟨cb,hcb1,agZ⟩:=HRb.out.rA hib;obtain rfl:cb=_:=hcb1;have x0:wr.cell? ⟨bD aa,bJ aa+k,none⟩=some (.slice aa1 m ac1):=HRa2.out wr (aB.below JX.out);have x1:wr.cell? ⟨bD ba,bJ ba+k,none⟩=some (.slice ba1 m bc1):=HRb2.out wr (aB.below JX.out);have x2:wr.cell? ⟨bD aa1,bJ aa1+i,none⟩=some (.bool a[k][i]):=agY wr (aB.below JX.out);have x3:wr.cell? ⟨bD ba1,bJ ba1+i,none⟩=some (.bool b[k][i]):=agZ wr (aB.below JX.out);have hxa:Sub.keeps a k i=a[k][i]:=by unfold Sub.keeps;rw[Sub.aX hka,Sub.aX hia]
      have Rb:Sub.keeps b k i=b[k][i]:=by unfold Sub.keeps;rw[Sub.aX hkb,Sub.aX hib]
      have Fg:Hid (a[k][i]≠b[k][i]->res=a[k][i]):=hid (fun h=>by
       rw[<-hxa];exact HAt2.out k i (by rw[HNs.out];exact hlt) (by rw[<-HM.out];exact hit) HPi.out (by rw[hxa,Rb];exact h))
      have wj:Hid (a[k][i]=b[k][i]->∀k' i',k'<k\/(k'=k/\i'<i+1)->Sub.keeps a k' i'=Sub.keeps b k' i'):=hid (fun h k' i' hki=>by
       by_cases e:k'=k/\i'=i
       ·obtain⟨rfl,rfl⟩:=e
        rw[hxa,Rb,h]
       ·exact HPi.out k' i' aC)
      clear hxa Rb agY agZ;generalize a[k][i]=xa at*;generalize b[k][i]=xb at*;cases xa with
      |false=>cases xb with
       |false=>
        have HN:=hid (wj.out rfl)
        clear Fg wj
        go_wp2
        go_quiet (fail)
        go_wp2
        go_roundw
        case rel=>exact⟨i+1,by omega,by go_num,HN,hid (aG JX.out _)⟩
        case measure=>simp[intOf];omega
       |true=>
        have HN:=hid (Fg.out qg)
        clear Fg wj
        go_wp2
        go_quiet (fail)
        go_wp2
        go_ret
        exact⟨by rw[HN.out];rfl,aG JX.out _⟩
      |true=>cases xb with
       |false=>
        have HN:=hid (Fg.out qg)
        clear Fg wj
        go_wp2
        go_quiet (fail)
        go_wp2
        go_ret
        exact⟨by rw[HN.out];rfl,aG JX.out _⟩
       |true=>
        have HN:=hid (wj.out rfl)
        clear Fg wj
        go_wp2
        go_quiet (fail)
        go_wp2
        go_roundw
        case rel=>exact⟨i+1,by omega,by go_num,HN,hid (aG JX.out _)⟩
        case measure=>simp[intOf];omega
     ·obtain rfl:m=i:=by omega
      have HN:Hid (∀k' i',k'<k+1->Sub.keeps a k' i'=Sub.keeps b k' i'):=hid (fun k' i' h=>by
       by_cases e:k'=k/\m<=i'
       ·obtain⟨rfl,h2⟩:=e
        unfold Sub.keeps;rw[Sub.aX hka,Sub.aX hkb,Sub.iQ (by rw[HLa.out];exact h2),Sub.iQ (by rw[HLb.out];exact h2)]
       ·exact HPi.out k' i' aC)
      go_wp2;go_roundw;case rel=>exact⟨k+1,by omega,by go_num,HN,JX⟩
      case measure=>simp[intOf];omega
   ·obtain rfl:na=k:=by omega
    have HN:Hid (res=false):=hid (HNn2.out (fun k' i'=>by
     by_cases h:k'<na
     ·exact ZH.out k' i' h
     ·unfold Sub.keeps
      rw[Sub.iQ (xs:=a) (by rw[<-HNa.out];omega),Sub.iQ (xs:=b) (by rw[HNb.out];omega)]))
    go_wp2;go_ret;exact⟨by rw[HN.out];rfl,qC.out⟩
 ·have HN:=hid (Xr.out hz)
  have hz2:¬(za:Int)=(zb:Int):=by omega
  clear nF Vl Xr;by_cases hl:za<zb
  ·have hl2:(za:Int)<(zb:Int):=by omega
   have HR:Hid (res=true):=hid (by rw[HN.out];exact decide_eq_true hl);clear HN;go_wp2;go_ret;exact⟨by rw[HR.out];simp,bZ.out⟩
  ·have hl2:¬(za:Int)<(zb:Int):=by omega
   have HR:Hid (res=false):=hid (by rw[HN.out];exact decide_eq_false hl);clear HN;go_wp2;go_ret;exact⟨by rw[HR.out];simp,bZ.out⟩
end Go.Proofs.YteiakkfdchnddaaGreatDoor.Dr
namespace Go.Proofs.YteiakkfdchnddaaGreatDoor
open Go.RowKit
def fD(B:Nat)(E:Nat->Prop)(w:World)(v:Value)(xs:List Sub.S):Prop:=
 ∃us,w.ownsRow B 61 1 v xs.length us/\us.length=xs.length/\∀j (h1:j<us.length) (h2:j<xs.length),cQ (fun b=>E b/\v.ownBlock≠some b) w us[j] xs[j]
theorem fD.nil(B:Nat)(E:Nat->Prop)(w:World):fD B E w (.slice none 0 0) []:=⟨[],World.ownsRow_nil _ _ _ _,rfl,fun j h=>absurd h aZ⟩
theorem fD.lt{B:Nat}{E:Nat->Prop}{w:World}{v:Value}{xs:List Sub.S}(h:fD B E w v xs):∀b,v.ownBlock=some b->B<=b/\b<w.heap.size:=by
 obtain⟨us,h1,_⟩:=h;exact fun b hb=>h1.lt b hb
theorem fD.kept{B:Nat}{E:Nat->Prop}{w w':World}{v:Value}{xs:List Sub.S}(h:fD B E w v xs)(hk:∀b,b<w.heap.size->v.ownBlock=some b\/E b->w'.heap[b]?=w.heap[b]?):fD B E w' v xs:=by
 obtain⟨us,h1,h2,h3⟩:=h;exact⟨us,dm (S:=fun b=>v.ownBlock=some b) h1 (fun b hb=>hb) (fun b hb hlt=>hk b hlt (.inl hb)),h2,fun j g1 g2=>(h3 j g1 g2).keep (fun b hb hlt=>hk b hlt (.inr hb.1))⟩
theorem fD.next{B:Nat}{E:Nat->Prop}{w w':World}{v:Value}{xs:List Sub.S}(h:fD B E w v xs)(hb:BL w w'):fD B E w' v xs:=h.kept fun b hl _=>hb.block b hl
theorem fD.mono{B:Nat}{E E':Nat->Prop}{w:World}{v:Value}{xs:List Sub.S}(h:fD B E w v xs)(hE:∀b,b<w.heap.size->E b->E' b):fD B E' w v xs:=by
 obtain⟨us,h1,h2,h3⟩:=h;exact⟨us,h1,h2,fun j g1 g2=>(h3 j g1 g2).mono (fun b hl hb=>⟨hE b hl hb.1,hb.2⟩)⟩
theorem fD.sl{B:Nat}{E:Nat->Prop}{w:World}{v:Value}{xs:List Sub.S}(h:fD B E w v xs):gQ (fun w u x=>cQ (fun b=>E b/\v.ownBlock≠some b) w u x) (fun b=>v.ownBlock=some b) w v xs:=by
 obtain⟨us,g1,g2,g3⟩:=h;exact kQ g1 (fun b hb=>hb) g2 g3
theorem fD.form{B:Nat}{E:Nat->Prop}{w:World}{v:Value}{xs:List Sub.S}(h:fD B E w v xs):∃a c,v=.slice a xs.length c/\dI a xs.length/\xs.length<=c/\c<=9223372036854775807:=h.sl.form
theorem fD.one{B:Nat}{E:Nat->Prop}{w:World}{u:Value}{x:Sub.S}(hB:B<=w.heap.size)(hu:cQ E w u x)(h1:u.oneCell'=true):fD B E (w.alloc (.cells #[u] 61)) (.slice (some ⟨w.heap.size,0,none⟩) 1 1) [x]:=by
 refine⟨[u],⟨by simp,.inr ⟨w.heap.size,1,#[u],rfl,hB,aP _ _ rfl,by simp,by decide,rfl,rfl⟩⟩,rfl,fun j g1 g2=>?_⟩;obtain rfl:j=0:=by simp at g1;omega
 have h2:=cQ.mono (S':=fun b=>E b/\b<w.heap.size) hu (fun b hb hE=>⟨hE,hb⟩);have h3:=cQ.keep (w':=w.alloc (.cells #[u] 61)) h2 (fun b hb hl=>Below.heap_alloc _ _ _ hl);exact cQ.mono h3 (fun b _ hb=>⟨hb.1,fun e=>by have h8:w.heap.size=b:=qf e;have h9:=hb.2;omega⟩)
theorem Tryz.aeb:jW Tryz.prog 41 61 1 24:=gE (z:=.slice none 0 0) (by kernel_rfl) (by kernel_rfl) rfl aC aC
theorem CF{P:Program}{t:TypeId}{bytes:Nat}{w:World}{ops:Array Oper}{rest:List Oper}{o:Oper}{a:Act}{Q:Exit->Act->World->Prop}(hgd:o.guard=none)(s x:Operand)
  (ho:o.op=.call {callee:=.builtin .append,args:=#[s,x],argTypes:=#[t,t]})(hT:jW P t 61 1 bytes)
  {B:Nat}{E:Nat->Prop}{v:Value}{xs:List Sub.S}(hs:a.eval s=v)(hown:fD B E w v xs)
  {u:Value}{e':TypeId}(hx:a.eval x=.slice (some ⟨w.heap.size,0,none⟩) 1 1)(y:Sub.S)(hu:cQ (fun b=>E b/\v.ownBlock≠some b) w u y)(h1:u.oneCell'=true)
  (hsmall:xs.length+1<=1000000000)(hB:B<=w.heap.size)
  (h:∀v' w',fD B E w' v' (xs++[y])->Turns (fun b=>v.ownBlock=some b) w w'->(∀b,v'.ownBlock=some b->v.ownBlock=some b\/w.heap.size<=b)->wpList P ops Q rest (a.put o.dst v') w'):
  wpList P ops Q (o::rest) a (w.alloc (.cells #[u] e')):=by
 obtain⟨us,h2,h3,h4⟩:=hown;have ha:BL w (w.alloc (.cells #[u] e')):=ay.alloc aH _;refine iZ hgd s x ho hT hs (h2.alloc _) _ 1 1 hx (fun _=>⟨_,_,rfl⟩) [u] rfl (jL w #[u] e') (by simpa using h1) hsmall mV (fun v' w' g1 g2 g3=>?_);have hT0:=Turns.iq (S:=fun b=>v.ownBlock=some b) g2 fun b hb'=>hb';have hT:Turns (fun b=>v.ownBlock=some b) w w':=(Turns.aQ ha).trans ⟨hT0.os,hT0.tape,hT0.output,hT0.size,hT0.block⟩;refine h v' w' ⟨us++[u],by simpa using g1,by simp[h3],fun j k1 k2=>?_⟩ hT (fun b hb=>?_);rotate_left
 ·rcases g3 with g3|g3
  ·exact .inl (g3▸hb)
  ·rw[g3] at hb
   have h8:=qf hb;have h10:=ha.size;exact .inr aC
 have keep:∀{u y},cQ (fun b=>E b/\v.ownBlock≠some b) w u y->cQ (fun b=>E b/\v'.ownBlock≠some b) w' u y:=fun h=>by
  have:=cQ.mono (S':=fun b=>(E b/\v.ownBlock≠some b)/\b<w.heap.size) h (fun b hb hE=>⟨hE,hb⟩);refine cQ.mono (cQ.keep this (hT.keep (fun b hb=>hb.1.2))) (fun b _ hb=>⟨hb.1.1,?_⟩);rcases g3 with g3|g3
  ·rw[g3];exact hb.1.2
  ·rw[g3];intro e
   have h8:=qf e;have h9:=hb.2;have h10:=ha.size;omega
 by_cases hj:j<us.length
 ·rw[RW hj,RW aC]
  exact keep (h4 j hj aC)
 ·simp at k1
  obtain rfl:j=us.length:=by omega
  simp only[XM aH,Nat.sub_self,List.getElem_cons_zero];rw[XM aC];simp[h3];exact keep hu
def Qz(sh:List Nat)(a b:Sub.S):Int:=if Sub.less sh a b=true then -1 else if Sub.less sh b a=true then 1 else 0
theorem VL(sh:List Nat)(a b:Sub.S):decide (Qz sh a b<0)=Sub.less sh a b:=by
 unfold Qz;cases Sub.less sh a b<;>cases Sub.less sh b a<;>rfl
theorem VN(sh:List Nat)(a b:Sub.S)(hfa:Sub.Fit sh a)(AQ:Sub.Fit sh b)(hsa:Sub.size a<=1000000)(hsb:Sub.size b<=1000000)(jI:sh.length<=1000000)(t u:Value)(U V:Nat->Prop)(w:World)(ha:cQ U w t a)(hb:cQ V w u b):
  Calls Tryz.prog 56 #[t,u] w fun e w'=>e=.returned (.int .i64 (Qz sh a b))/\Dr.Below w.heap.size w w':=by
 have H1:=hid (Dr.Ff sh a b hfa AQ hsa hsb jI t u U V w ha hb);have H2:=hid (fun X (hX:Dr.Below w.heap.size w X)=>Dr.Ff sh b a AQ hfa hsb hsa jI u t V U X (hb.keep (Dr.aB.below hX)) (ha.keep (Dr.aB.below hX)));obtain⟨aa,ac,rfl, -, -, -⟩:=ha.form;obtain⟨ba,bc,rfl, -, -, -⟩:=hb.form;have HR:Hid (Qz sh a b=if Sub.less sh a b=true then -1 else if Sub.less sh b a=true then 1 else 0):=hid rfl;clear ha hb hfa AQ hsa hsb jI;generalize Qz sh a b=r at*;generalize Sub.less sh a b=l1 at*;generalize Sub.less sh b a=l2 at*;go_enter Tryz.func56,Tryz.ntmps56;go_wp2_with fail;refine H1.out.mono ?_;rintro e w1 ⟨rfl,hb1⟩;have bf:=hid hb1;clear hb1;cases l1 with
 |true=>
  go_wp2
  go_ret
  exact⟨by rw[HR.out];rfl,bf.out⟩
 |false=>
  go_wp2_with fail
  refine(H2.out w1 bf.out).mono ?_
  rintro e w2 ⟨rfl,hb2⟩
  have bK:Hid (Dr.Below w.heap.size w w2):=hid (bf.out.trans (hb2.mono bf.out.size))
  clear hb2
  cases l2 with
  |true=>
   go_wp2
   go_ret
   exact⟨by rw[HR.out];rfl,bK.out⟩
  |false=>
   go_wp2
   go_ret
   exact⟨by rw[HR.out];rfl,bK.out⟩
theorem D3{w w':World}(h:Dr.Below w.heap.size w w'):∃q os,w'=Go.Sort.grow (w.drewN q) os:=by
 refine⟨w'.drawn-w.drawn,w'.heap.extract w.heap.size w'.heap.size,?_⟩;have hd:=h.drawn;have hz:=h.size;obtain⟨h1,h2,h3, -,h5⟩:=h.toB;cases w with
 |mk heap tape drawn os output=>
 cases w' with
 |mk abE tape' drawn' os' ahR=>
 simp only at*;subst h1;subst h2;subst h3;unfold Go.Sort.grow World.drewN;simp only[World.mk.injEq,and_true,true_and];refine⟨?_,by omega⟩;apply Array.ext_getElem?;intro i;rw[Array.getElem?_append];by_cases hi:i<heap.size
 ·rw[if_pos hi,h5 i hi]
 ·rw[if_neg hi,Array.getElem?_extract]
  by_cases h9:i-heap.size<min abE.size abE.size-heap.size
  ·rw[if_pos h9]
   congr 1;omega
  ·rw[if_neg h9]
   simp at h9;exact Array.getElem?_eq_none aC
end Go.Proofs.YteiakkfdchnddaaGreatDoor
namespace Go.Proofs
open Go.Shelf
def Tryz.yN:Go.Shelf.Ren:=⟨fun|6=>55|14=>82|15=>83|20=>104|21=>105|22=>106|23=>107|24=>108|25=>109|26=>110|27=>111|28=>112|29=>113|46=>133|47=>134|48=>135|49=>136|50=>137|57=>158|n=>n,fun|0=>0|3=>3|4=>4|5=>5|9=>9|22=>41|24=>61|25=>150|39=>138|45=>221|46=>222|50=>226|53=>185|55=>188|66=>245|70=>249|76=>272|77=>54|n=>n,fun|n=>n⟩
theorem Tryz.VO:Go.Proofs.SlLaysF.n6 Tryz.prog Tryz.yN:={
 mixed:=by kernel_rfl
 f6:=⟨Tryz.f55.name,by decide,Tryz.func55.trans (congrArg some (by kernel_rfl))⟩
 f14:=⟨Tryz.f82.name,by decide,Tryz.func82.trans (congrArg some (by kernel_rfl))⟩
 f15:=Tryz.func83.trans (congrArg some (by kernel_rfl))
 f20:=⟨Tryz.f104.name,by decide,Tryz.func104.trans (congrArg some (by kernel_rfl))⟩
 f21:=⟨Tryz.f105.name,by decide,Tryz.func105.trans (congrArg some (by kernel_rfl))⟩
 f22:=⟨Tryz.f106.name,by decide,Tryz.func106.trans (congrArg some (by kernel_rfl))⟩
 f23:=⟨Tryz.f107.name,by decide,Tryz.func107.trans (congrArg some (by kernel_rfl))⟩
 f24:=⟨Tryz.f108.name,by decide,Tryz.func108.trans (congrArg some (by kernel_rfl))⟩
 f25:=⟨Tryz.f109.name,by decide,Tryz.func109.trans (congrArg some (by kernel_rfl))⟩
 f26:=⟨Tryz.f110.name,by decide,Tryz.func110.trans (congrArg some (by kernel_rfl))⟩
 f27:=⟨Tryz.f111.name,by decide,Tryz.func111.trans (congrArg some (by kernel_rfl))⟩
 f28:=Tryz.func112.trans (congrArg some (by kernel_rfl))
 f29:=Tryz.func113.trans (congrArg some (by kernel_rfl))
 f46:=⟨Tryz.f133.name,by decide,Tryz.func133.trans (congrArg some (by kernel_rfl))⟩
 f47:=Tryz.func134.trans (congrArg some (by kernel_rfl))
 f48:=Tryz.func135.trans (congrArg some (by kernel_rfl))
 f49:=⟨Tryz.f136.name,by decide,Tryz.func136.trans (congrArg some (by kernel_rfl))⟩
 f50:=⟨Tryz.f137.name,by decide,Tryz.func137.trans (congrArg some (by kernel_rfl))⟩
 f57:=⟨Tryz.f158.name,by decide,Tryz.func158.trans (congrArg some (by kernel_rfl))⟩
 t0:=Tryz.underlying0
 a0:=Tryz.isAgg0
 z0:=Tryz.sizeOf0
 v0:=Tryz.zeroValue0
 t3:=Tryz.underlying3
 a3:=Tryz.isAgg3
 z3:=Tryz.sizeOf3
 v3:=Tryz.zeroValue3
 t4:=Tryz.underlying4
 a4:=Tryz.isAgg4
 z4:=Tryz.sizeOf4
 v4:=Tryz.zeroValue4
 t5:=Tryz.underlying5
 a5:=Tryz.isAgg5
 z5:=Tryz.sizeOf5
 v5:=Tryz.zeroValue5
 t9:=Tryz.underlying9
 a9:=Tryz.isAgg9
 z9:=Tryz.sizeOf9
 v9:=Tryz.zeroValue9
 t22:=Tryz.underlying41
 a22:=Tryz.isAgg41
 z22:=Tryz.sizeOf41
 v22:=Tryz.zeroValue41
 a24:=Tryz.isAgg61
 z24:=Tryz.sizeOf61
 t25:=Tryz.underlying150
 a25:=Tryz.isAgg150
 z25:=Tryz.sizeOf150
 v25:=Tryz.zeroValue150
 t39:=Tryz.underlying138
 a39:=Tryz.isAgg138
 z39:=Tryz.sizeOf138
 v39:=Tryz.zeroValue138
 t45:=Tryz.underlying221
 a45:=Tryz.isAgg221
 z45:=Tryz.sizeOf221
 v45:=Tryz.zeroValue221
 t46:=Tryz.underlying222
 a46:=Tryz.isAgg222
 z46:=Tryz.sizeOf222
 v46:=Tryz.zeroValue222
 t50:=Tryz.underlying226
 a50:=Tryz.isAgg226
 z50:=Tryz.sizeOf226
 v50:=Tryz.zeroValue226
 t53:=Tryz.underlying185
 a53:=Tryz.isAgg185
 z53:=Tryz.sizeOf185
 v53:=Tryz.zeroValue185
 t55:=Tryz.underlying188
 a55:=Tryz.isAgg188
 z55:=Tryz.sizeOf188
 v55:=Tryz.zeroValue188
 t66:=Tryz.underlying245
 a66:=Tryz.isAgg245
 z66:=Tryz.sizeOf245
 v66:=Tryz.zeroValue245
 t70:=Tryz.underlying249
 a70:=Tryz.isAgg249
 z70:=Tryz.sizeOf249
 v70:=Tryz.zeroValue249
 t76:=Tryz.underlying272
 a76:=Tryz.isAgg272
 z76:=Tryz.sizeOf272
 v76:=Tryz.zeroValue272
 t77:=Tryz.underlying54
 a77:=Tryz.isAgg54
 z77:=Tryz.sizeOf54
 v77:=Tryz.zeroValue54}
end Go.Proofs
namespace Go.Proofs.YteiakkfdchnddaaGreatDoor
open Go.RowKit Go.Shelf Go.Lib Go.Sort
abbrev ElS(sh:List Nat)(E:Nat->Prop)(w:World):={p:Value×Sub.S // cQ E w p.1 p.2/\p.1.oneCell'=true/\Sub.Fit sh p.2/\Sub.size p.2<=1000000}
def encS{sh:List Nat}{E:Nat->Prop}{w:World}(x:ElS sh E w):Value:=x.1.1
def cfS{sh:List Nat}{E:Nat->Prop}{w:World}(x y:ElS sh E w):Int:=Qz sh x.1.2 y.1.2
theorem ltS{sh:List Nat}{E:Nat->Prop}{w:World}(x y:ElS sh E w):ltOf cfS x y=Sub.less sh x.1.2 y.1.2:=VL _ _ _
theorem swoS{sh:List Nat}{E:Nat->Prop}{w:World}:SWO (ltOf (cfS (sh:=sh) (E:=E) (w:=w))) where
 irrefl x:=by rw[ltS];exact Sub.lX _ _
 trans x y z h1 h2:=by rw[ltS] at*;exact Sub.qx h1 h2
 ntrans x y z h1 h2:=by
  rw[ltS] at*;rcases Sub.qy x.2.2.2.1 y.2.2.2.1 with h|h|h
  ·rw[h];exact h2
  ·rw[h] at h1;cases h1
  ·rcases Sub.qy y.2.2.2.1 z.2.2.2.1 with h'|h'|h'
   ·rw[<-h'];exact h1
   ·rw[h'] at h2;cases h2
   ·exact Sub.Bx (Sub.qx h' h)
theorem mB{α:Type}[Inhabited α](enc:α->Value)(w:World)(g n:Nat)(d:Array α)(os:Array Obj){b:Nat}(hb:b<w.heap.size)(hne:b≠g):(sortWorld enc w g 0 n d os).heap[b]?=w.heap[b]?:=by
 unfold sortWorld;rw[heap_grow_old _ _ (by simpa using hb)];unfold putRow mapBlock;simp only[Array.getElem?_modify,heap_ahead];rw[if_neg (Ne.symm hne)]
theorem D4{α:Type}[Inhabited α](enc:α->Value)(w:World)(g n:Nat)(d:Array α)(os:Array Obj){c:Array Value}{e:TypeId}{fr:Nat×Nat}(h:w.heap[g]?=some (.cells c e fr)):(sortWorld enc w g 0 n d os).heap[g]?=some (.cells (putCells enc 0 d c) e fr):=by
 have hb:=(Array.getElem?_eq_some_iff.1 h).1;unfold sortWorld;rw[heap_grow_old _ _ (by simpa using hb)];unfold putRow mapBlock;simp only[Array.getElem?_modify,heap_ahead,if_true,h];rfl
theorem AA{α:Type}[Inhabited α](enc:α->Value)(w:World)(g n:Nat)(d:Array α)(os:Array Obj):Turns (·=g) w (sortWorld enc w g 0 n d os):=
 ⟨rfl,rfl,rfl,by simp[sortWorld],fun b hb hlt=>mB enc w g n d os hlt hb⟩
theorem ag0{sh:List Nat}{E:Nat->Prop}{w:World}:∀(us:List Value) (xs:List Sub.S),us.length=xs.length->(∀s∈xs,Sub.Fit sh s/\Sub.size s<=1000000)->(∀j (h1:j<us.length) (h2:j<xs.length),cQ E w us[j] xs[j])->∃dl:List (ElS sh E w),dl.map (fun x=>x.1.1)=us/\dl.map (fun x=>x.1.2)=xs
 |[],[],_,_,_=>⟨[],rfl,rfl⟩
 |u::us,x::xs,hl,hf,h=>by
  obtain⟨dl,e1,e2⟩:=ag0 us xs (by simpa using hl) (fun s hs=>hf s (List.mem_cons_of_mem _ hs)) (fun j h1 h2=>by
   have:=h (j+1) (by simpa using h1) (by simpa using h2);simpa using this)
  have h0:cQ E w u x:=h 0 aZ aZ;have h1:u.oneCell'=true:=by obtain⟨a,cap,e, -⟩:=h0.form;rw[e];rfl
  exact⟨⟨(u,x),h0,h1,hf x aZ⟩::dl,by simp[e1],by simp[e2]⟩
 |[],_::_,h,_,_=>by simp at h
 |_::_,[],h,_,_=>by simp at h
theorem VP(sh:List Nat)(jI:sh.length<=1000000)(B:Nat)(E:Nat->Prop)(w:World)(a:Option Addr)(l c:Nat)(xs:List Sub.S)(h:fD B E w (.slice a l c) xs)(hf:∀s∈xs,Sub.Fit sh s/\Sub.size s<=1000000)(hn:xs.length<=1000000000):
  Calls Tryz.prog 55 #[.slice a l c,.func (.func 56) #[] #[]] w fun e w'=>e=.returned (.tuple #[])/\∃ys,ys.Perm xs/\ys.Pairwise (fun a b=>Sub.less sh b a=false)/\fD B E w' (.slice a l c) ys/\Turns (fun b=>(Value.slice a l c).ownBlock=some b) w w':=by
 obtain⟨us,⟨h1,h1'⟩,h2,h3⟩:=h;rcases h1' with⟨h0,h00⟩|⟨g,cap,cur,he,hbg,hg,hroom,hcm,hsz,htk⟩
 ·cases h0
  obtain rfl:xs=[]:=by
   exact List.eq_nil_of_length_eq_zero h00
  have hS:=AnyF.slices_SortFunc_none (P:=Tryz.prog) (ρ:=Tryz.yN) {Tryz.VO with} none 0 (.func (.func 56) #[] #[]) w;refine Calls.mono hS ?_;rintro e w' ⟨rfl,rfl⟩;exact⟨rfl,[],List.Perm.refl _,List.Pairwise.nil,fD.nil _ _ _,Turns.refl _ _⟩
 ·cases he
  obtain⟨E',hE'⟩:∃E':Nat->Prop,E'=fun b=>E b/\(Value.slice (some ⟨g,0,none⟩) xs.length c).ownBlock≠some b:=⟨_,rfl⟩;rw[<-hE'] at h3;have hEg:∀b,E' b->b≠g:=fun b hb e=>by rw[hE'] at hb;exact hb.2 Ox
  obtain⟨dl,e1,e2⟩:=ag0 (sh:=sh) us xs h2 hf h3;have hdl:dl.length=xs.length:=by rw[<-e2,FD]
  have hlt:=(Array.getElem?_eq_some_iff.1 hg).1;by_cases hx0:xs.length=0
  ·obtain rfl:xs=[]:=List.eq_nil_of_length_eq_zero hx0
   have hS:=AnyF.slices_SortFunc_none (P:=Tryz.prog) (ρ:=Tryz.yN) {Tryz.VO with} (some ⟨g,0,none⟩) c (.func (.func 56) #[] #[]) w;refine Calls.mono hS ?_;rintro e w' ⟨rfl,rfl⟩;exact⟨rfl,[],List.Perm.refl _,List.Pairwise.nil,⟨us,⟨h1,.inr ⟨g,c,cur,rfl,hbg,hg,hroom,hcm,hsz,htk⟩⟩,h2,fun j g1 g2=>absurd g2 aZ⟩,Turns.refl _ _⟩
  haveI:Inhabited (ElS sh E' w):=⟨dl[0]' aC⟩
  have hcur:∀j (h:j<dl.length),cur[j]?=some (encS dl[j]):=fun j h=>by
   have:us[j]?=some (encS dl[j]):=by rw[<-e1,List.getElem?_map,kK h];rfl
   rw[<-htk,List.getElem?_take,if_pos aC] at this;simpa using this
  have hH:Holds encS w g 0 dl.toArray:=fun j hj=>by
   have hj':j<dl.length:=by simpa using hj
   have ej:dl.toArray[j]! =dl[j]:=by simp[getElem!_pos,hj']
   rw[ej,Nat.zero_add];constructor
   ·simp[World.cell?,hg,hcur j hj']
   ·simp[World.frozen?,hg]
  have hcmp:CmpLays1 Tryz.prog 56 #[] (encS (sh:=sh) (E:=E') (w:=w)) cfS g 0 dl.toArray.size w:=fun m os dk hs x y=>by
   have hk:aB E' w (sortWorld encS w g 0 m dk os):=fun b hb hlt=>mB encS w g m dk os hlt (hEg b hb);refine Calls.mono (VN sh x.1.2 y.1.2 x.2.2.2.1 y.2.2.2.1 x.2.2.2.2 y.2.2.2.2 jI x.1.1 y.1.1 E' E' (sortWorld encS w g 0 m dk os) (cQ.keep x.2.1 hk) (cQ.keep y.2.1 hk)) ?_;rintro e w' ⟨h1,h2⟩;exact⟨h1,D3 h2⟩
  have hS:=Any.slices_SortFunc Tryz.VO (encS (sh:=sh) (E:=E') (w:=w)) (fun x=>x.2.2.1) cfS swoS 56 #[] g 0 c dl.toArray w (bE Tryz.func56 (by kernel_rfl) rfl) hcmp hH hlt mV;have hdz:dl.toArray.size=xs.length:=by simp[hdl]
  rw[hdz] at hS;refine Calls.mono hS ?_;rintro e w' ⟨rfl,d',n,os,⟨p1, -,p3⟩,hsort,rfl⟩;rw[hdz] at p1;have x1:d'.extract 0 xs.length=d':=by rw[<-p1];simp
  have x2:dl.toArray.extract 0 xs.length=dl.toArray:=by rw[<-hdz];simp
  rw[x1,x2] at p3;have hk:aB E' w (sortWorld encS w g 0 n d' os):=fun b hb hlt=>mB encS w g n d' os hlt (hEg b hb);have hlen:d'.toList.length=xs.length:=by simpa using p1
  refine⟨rfl,d'.toList.map (fun x=>x.1.2),?_,?_,?_,?_⟩
  ·have:=p3.map (fun x=>x.1.2)
   rw[<-e2];simpa using this
  ·rw[List.pairwise_iff_getElem]
   intro i j hi hj hij;have hi':i<d'.size:=by simpa using hi
   have hj':j<d'.size:=by simpa using hj
   have:=hsort i j (Nat.zero_le _) hij aC;rw[ltS,getElem!_pos d' i hi',getElem!_pos d' j hj'] at this;simpa using this
  ·refine⟨d'.toList.map (fun x=>x.1.1),⟨by simp,.inr ⟨g,c,putCells encS 0 d' cur,by simp[hlen],hbg,D4 encS w g n d' os hg,by simp[p1];omega,hcm,by simp[putCells,hsz],?_⟩⟩,by simp,fun j k1 k2=>?_⟩
   ·apply List.ext_getElem?
    intro j;rw[List.getElem?_take];simp only[FD,Array.length_toList,Nat.mul_one,putCells,Array.getElem?_toList,Array.getElem?_mapIdx,List.getElem?_map];by_cases hj:j<d'.size
    ·have hjc:j<cur.size:=by rw[hsz];omega
     rw[if_pos hj,Array.getElem?_eq_getElem hjc,Array.getElem?_eq_getElem hj];simp[hj,encS,getElem!_pos]
    ·rw[if_neg hj,Array.getElem?_eq_none aC]
     rfl
   ·simp only[List.getElem_map]
    have:=cQ.keep (d'.toList[j]'(by simpa using k1)).2.1 hk;exact cQ.mono this (fun b _ hb=>by rw[hE'] at hb;exact hb)
  ·have:=AA (encS (sh:=sh) (E:=E') (w:=w)) w g n d' os
   exact⟨this.os,this.tape,this.output,this.size,fun b hb hl=>this.block b (fun e=>hb Ox) hl⟩
end Go.Proofs.YteiakkfdchnddaaGreatDoor
namespace Go.Proofs.YteiakkfdchnddaaGreatDoor
namespace Sub
theorem CG(W:S->Nat->Nat->Bool)(s:S)(x:Nat×Nat):∀(l:List (Nat×Nat)) (out:List S),iR W s (l++[x]) out=if without W s x.1 x.2∈iR W s l out then iR W s l out else iR W s l out++[without W s x.1 x.2]
 |[],out=>by
  show iR W s [x] out=_
  unfold iR;rfl
 |y::l,out=>by
  show iR W s (y::(l++[x])) out=_
  rw[iR,CG W s x l];rfl
theorem Good.sub{W:S->Nat->Nat->Bool}{sh:List Nat}{g:S}{out l:List S}(h:Good W sh g out)(hl:∀t,Fit sh t->Sub.valid W t=true->t∈l):out.length<=l.length:=
 length_le_of_subset h.nodup fun t ht=>hl t (h.fit t ht) (h.valid t ht)
theorem Good.one{W:S->Nat->Nat->Bool}{sh:List Nat}{g:S}(h1:Fit sh g)(h2:Sub.valid W g=true):Good W sh g [g] where
 fit s hs:=by rw[nU.1 hs];exact h1
 valid s hs:=by rw[nU.1 hs];exact h2
 nodup:=by simp
 has:=by simp
theorem Fh(W:S->Nat->Nat->Bool)(out:List S):Done W out 0:=fun j _ h=>absurd h aC
theorem QA{sh:List Nat}{ys:List S}(hn:ys.Nodup)(hf:∀s∈ys,Fit sh s)(hp:ys.Pairwise fun a b=>less sh b a=false):Sorted sh ys:=by
 rw[Sorted,List.pairwise_iff_getElem];rw[List.pairwise_iff_getElem] at hp;intro i j hi hj hij;have h1:=hp i j hi hj hij;rcases qy (hf _ (gY hi)) (hf _ (gY hj)) with h|h|h
 ·exact absurd h (List.pairwise_iff_getElem.1 hn i j hi hj hij)
 ·exact h
 ·rw[h1] at h;cases h
theorem uM{sh:List Nat}:∀(l:List S),(∀s∈l,Fit sh s)->∃m,Sorted sh m/\∀s,s∈m↔s∈l
 |[],_=>⟨[],List.Pairwise.nil,fun _=>Iff.rfl⟩
 |a::l,hf=>by
  obtain⟨m,h1,h2⟩:=uM l (fun s hs=>hf s (List.mem_cons_of_mem _ hs));have ha:=hf a aZ;have hm:∀s∈m,Fit sh s:=fun s hs=>hf s (List.mem_cons_of_mem _ ((h2 s).1 hs));refine⟨m.filter (fun s=>less sh s a)++a::m.filter (fun s=>less sh a s),?_,fun s=>?_⟩
  ·rw[Sorted,List.pairwise_append]
   refine⟨h1.sublist List.filter_sublist,?_,fun x hx y hy=>?_⟩
   ·rw[List.pairwise_cons]
    exact⟨fun y hy=>by simpa using (List.mem_filter.1 hy).2,h1.sublist List.filter_sublist⟩
   ·have hxa:less sh x a=true:=by simpa using (List.mem_filter.1 hx).2
    rcases kM.1 hy with rfl|hy
    ·exact hxa
    ·exact qx hxa (by simpa using (List.mem_filter.1 hy).2)
  ·rw[List.mem_append,kM,List.mem_filter,List.mem_filter,kM]
   constructor
   ·rintro (⟨h, -⟩|rfl|⟨h, -⟩)
    ·exact .inr ((h2 s).1 h)
    ·exact .inl rfl
    ·exact .inr ((h2 s).1 h)
   ·rintro (rfl|h)
    ·exact .inr (.inl rfl)
    ·have hs:=(h2 s).2 h
     rcases qy (hm s hs) ha with e|e|e
     ·exact .inr (.inl e)
     ·exact .inl ⟨hs,e⟩
     ·exact .inr (.inr ⟨hs,e⟩)
end Sub
namespace aR
open ah (cG bF)
theorem vw(x:bF)(W:cG):Sub.Good (wr x W) (shape W) (gM x W) [gM x W]:=.one (vh x W) (F9 x W)
theorem NS{x:bF}{W:cG}{out:List Sub.S}(h:Sub.Good (wr x W) (shape W) (gM x W) out)(hd:Sub.Done (wr x W) out out.length):∀t,Sub.Fit (shape W) t->Sub.valid (wr x W) t=true->t∈out:=
 Sub.Ii (BG _ _) h (fun t ht hv=>P9 ht hv) hd
theorem CH(x:bF)(W:cG):∃l,oA x W l:=by
 have hN:∀out,Sub.Good (wr x W) (shape W) (gM x W) out->out.length<=2 ^ ah.total W:=fun out h=>NJ h.nodup h.fit;obtain⟨N,hNN⟩:=aV (2 ^ ah.total W);rw[<-hNN] at hN;have hg:=Sub.EC (most:=N) N 0 (vw x W);have hd:=Sub.ED (most:=N) hN N 0 (vw x W) (Sub.Fh _ _) (Nat.zero_le _) aC;generalize Sub.FT (wr x W) N N 0 [gM x W]=out at*
 have hd2:Sub.Done (wr x W) out out.length:=by
  rcases hd with h|h
  ·exact absurd h (by have:=hN out hg;omega)
  ·exact h
 obtain⟨m,h1,h2⟩:=Sub.uM out hg.fit;exact⟨m,h1,fun t=>⟨fun ht=>⟨hg.fit t ((h2 t).1 ht),hg.valid t ((h2 t).1 ht)⟩,fun ht=>(h2 t).2 (NS hg hd2 t ht.1 ht.2)⟩⟩
theorem oA.ZJ{x:bF}{W:cG}{l out ys:List Sub.S}(hl:oA x W l)(h:Sub.Good (wr x W) (shape W) (gM x W) out)(hd:Sub.Done (wr x W) out out.length)(hp:ys.Perm out)(hs:ys.Pairwise fun a b=>Sub.less (shape W) b a=false):ys=l:=by
 refine Sub.EF ys l (Sub.QA (hp.nodup_iff.2 h.nodup) (fun s hs=>h.fit s (hp.mem_iff.1 hs)) hs) hl.sorted fun t=>?_;rw[hl.mem,hp.mem_iff];exact⟨fun ht=>⟨h.fit t ht,h.valid t ht⟩,fun ht=>NS h hd t ht.1 ht.2⟩
theorem oA.Fz{x:bF}{W:cG}{l out:List Sub.S}(hl:oA x W l)(h:Sub.Good (wr x W) (shape W) (gM x W) out):out.length<=l.length:=h.sub fun t h1 h2=>(hl.mem t).2 ⟨h1,h2⟩
theorem vz{W:cG}{s:Sub.S}(h:Sub.Fit (shape W) s):s.flatten.length=ah.total W:=by
 have h1:=jJ h;unfold ah.total;rw[List.length_flatten,h1];rfl
end aR
def D5(s:Sub.S):List UInt8:=s.flatten.map D2
theorem VQ{W:ah.cG}{out:List Sub.S}(hf:∀s∈out,Sub.Fit (aR.shape W) s){t:Sub.S}(ht:Sub.Fit (aR.shape W) t):decide (D5 t∈out.map D5)=decide (t∈out):=by
 rw[decide_eq_decide,List.mem_map];constructor
 ·rintro ⟨s,hs,e⟩
  have:s=t:=VH (hf s hs) ht (by unfold Az;exact congrArg (fun l:List UInt8=>(⟨l.toArray⟩:ByteArray)) e);rw[<-this];exact hs
 ·exact fun h=>⟨t,h,rfl⟩
theorem Jr{W:ah.cG}{s:Sub.S}(h:Sub.Fit (aR.shape W) s):(D5 s).length=ah.total W:=by unfold D5;rw[FD,aR.vz h]
end Go.Proofs.YteiakkfdchnddaaGreatDoor
