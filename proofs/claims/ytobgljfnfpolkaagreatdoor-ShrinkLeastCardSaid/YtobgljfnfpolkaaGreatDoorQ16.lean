/- Part 16 of the walks and plain laws that the proof needs (packed). -/
import Derived.Test.YtobgljfnfpolkaaGreatDoorQ15
set_option linter.all false
set_option maxRecDepth 100000
set_option maxHeartbeats 8000000
namespace Go.Proofs.YtobgljfnfpolkaaGreatDoor
open Go.RowKit
abbrev sBx(x:ah.bD)(a b c:Option Addr)(d e f:Nat):Array Value:=#[.int .i64 x.af6,.slice a x.af3.length d,.slice b x.af7.length e,.slice c x.af8.length f]
theorem least_any(L L3 L2:List Int)(hL:Fit L)(hP:Fit L3)(hK:Fit L2)(code:Int)(hc1: -9223372036854775808<=code)(hc2:code<=9223372036854775807)(v pv0 u:Value)(tb:Nat)(w:World)
  (hv:bO yQ w v L)(hp:bO yQ w pv0 L3)(hu:bO yQ w u L2)(hlaid:LaidW w)(htab:TabC tb w):
  Calls Tryz.prog 6 #[v,pv0,u,.int .i64 code] w fun e w'=>e=.returned (.bool true)/\BL w w':=by
 have HCd:=hid (And.intro hc1 hc2);have HS:=hid (GQ L hL v w hv);have xC:=hid hlaid;have Yd:=hid htab;have PX:=hid (fun(X:World) (hX:BL w X)=>hu.keep (aA.below hX));have HPk:=hid (fun(X:World) (hX:BL w X)=>hp.keep (aA.below hX));have HK:=hid hK;have HPf:=hid hP;clear hc1 hc2 hv hu hp hlaid htab hL hK hP;go_enter Tryz.func6,Tryz.ntmps6;go_wp2_with fail;refine HS.out.mono ?_;rintro e w1 ⟨sv,x,rfl,hg,Yx,ac4⟩;have aW:Hid (BL w w1):=hid ac4;obtain⟨ak,ck,al,cl,ar,cr,rfl, -⟩:=Yx.form;have hok:=ah.Sn hg;have Vv:=hid hok;have HSv:=hid Yx;have Nk:=hid (ah.Sh hg);have HFp:=hid (aeb hg);have Bk:=hid (aF.qd (aF.qL hok).1);clear ac4 Yx hok hg HS;obtain⟨w2,hw2⟩:=nmE (bE w1 x.af6 (.slice ak x.af3.length ck) (.slice al x.af7.length cl) (.slice ar x.af8.length cr));have bB:=afX hw2;have HX:=afY hw2;unfold bE at hw2;have HW2:=hid hw2;clear hw2;obtain⟨⟨y0,y1,y2,y3⟩, -⟩:=aO (HX.out w2 aj);go_upto_region 2 with fail;rw[<-HW2.out];have ac5:=bq aW bB.out;have Tg:=hid (K7 x Nk.out (by have:=Bk.out.1;omega) (fun k hk=>by have:=(aF.lS (Bk.out.2.2.2 k hk)).1;omega) L2 HK.out _ u _ _ w2 (HSv.out.keep (aA.below bB.out)) (PX.out w2 ac5.out));go_wp2_with fail;refine Tg.out.mono ?_;rintro e w3 ⟨uw,W,rfl,kW,hwf,hb3⟩;have HW3:=hid hwf.sl;have bG:Hid (BL w2 w3):=hid hb3;have MT:=bq ac5 hb3;have Rq:=hid kW;have Ps:=hid (aF.Hp kW);have kN:=hid (adC kW);clear hwf hb3 kW Tg PX y0 y1 y2 y3;obtain⟨aw,cw,rfl, -, -, -⟩:=HW3.out.form;obtain⟨⟨y0,y1,y2,y3⟩, -⟩:=aO (HX.out w3 bG.out);have HPg:=hid (adv x HFp.out Nk.out L3 HPf.out _ _ _ _ w3 (HSv.out.keep (aA.below (tnB bB.out bG.out))) (HPk.out w3 MT.out));go_upto_region 3 with fail;go_wp2_with fail;refine HPg.out.mono ?_;rintro e w4 ⟨pv,p,rfl,hgp,hpv,hb4⟩;have dO:=bq bG hb4;have aeR:=bq MT hb4;have aeS:Hid (BL w3 w4):=hid hb4;have HGp:=hid hgp;have HOw:=hid (ad9 p (by have:=hgp.len;omega) pv _ w4 hpv);obtain⟨ap0,cp0,rfl, -, -, -⟩:=hpv.form;clear hgp hpv hb4 HPg HPk HPf y0 y1 y2 y3;go_wp2_with fail;refine HOw.out.mono ?_;rintro e w5 ⟨po,rfl,hpo,gL⟩;have dP:=bq dO gL;have Zj:=bq aeR gL;have aeT:=bq aeS gL;have HPo:Hid (nG (·<w5.heap.size) w5 po p):=hid (tq hpo);obtain⟨ap,cp,rfl, -, -, -⟩:=(tq hpo).form;clear hpo gL HOw;obtain⟨c0,hc0,hc3⟩:∃n:Nat,around code 3=(n:Int)/\n<3:=⟨(around code 3).toNat,by have:=mP code 3 (by omega);omega,by have:=mP code 3 (by omega);omega⟩
 have HAc:Hid (CP 13 #[.int .i64 code,.int .i64 3] w5 fun e w'=>e=.returned (.int .i64 (c0:Int))/\w5=w'):=hid (by
  have:=rS code 3 w5 HCd.out.1 HCd.out.2 (by omega) (by omega)
  rw[hc0] at this;exact this)
 clear hc0 HCd;go_upto_region 4 with fail;go_wp2_with fail;refine HAc.out.mono ?_;rintro e w' ⟨rfl,rfl⟩;clear HAc;go_upto_region 5 with fail;obtain⟨nn,hnn⟩:=nmE (1+(c0:Int):Int);rw[<-hnn];have Qi:Hid (1<=nn/\nn<=251):=hid (by omega);clear hnn hc3
 have VQ:Hid (l6 tb x W (.agg (sBx x ak al ar ck cl cr)) (.slice aw W.length cw) w5.heap.size w5):=hid
  {vY:=eU.mono (HSv.out.keep (aA.below (tnB bB.out dP.out))) (fun b h _=>h)
   sG:=dc.mono (dc.keep HW3.out (aA.below aeT.out)) (fun b h _=>h)
   laid:=xC.out.next Zj.out
   tab:=Yd.out.below Zj.out Yd.out.lt (by have:=xC.out.size;omega)
   tbB:=zLl Yd.out.lt Zj.out.size
   size:=Nat.le_trans xC.out.size Zj.out.size
   le:=aB}
 obtain⟨l,hl⟩:=aF.Jz x W;have Rf:=hid hl;have ud:Hid (ah.total W<=6):=hid Rq.out.tot;have Ej:Hid (W.length<=1000/\∀r∈W,r.length<=1000000):=hid ⟨by have h1:=Rq.out.len;have h2:=Bk.out.1;omega,fun r hr=>by have h1:=wu r hr;have h2:=ud.out;omega⟩;have Rg:=hid (MS Rq.out hl);have HGe:Hid (aF.l8 x W p 200=0):=hid (adJ HGp.out.valid HGp.out.named W (by omega));have Tl:sM 200:=by unfold sM;omega
 obtain⟨f,hf⟩:=nmE (aF.jI x W p 200);have HF:=hid hf
 have ad1:Hid (∀X,BL w5 X->CP 20 #[.agg (sBx x ak al ar ck cl cr),.slice aw W.length cw,.slice ap p.length cp,.int .i64 200,.int .i64 nn] X fun e w'=>BL X w'/\((aF.j4 f nn l=none/\e=.returned (.tuple #[KM,.int .i64 6]))\/
   (∃m s,aF.j4 f nn l=some m/\l[m]?=some s/\∃us um uc,e=.returned (.tuple #[.agg #[us,.int .i64 nn,um,uc],.int .i64 0])/\aP (X.heap.size<=·) w' us s/\cW X.heap.size (X.heap.size<=·) w' um (l.take m)/\cF (X.heap.size<=·) w' uc ((l.take m).map f)))):=hid (fun X hX=>(BQ x W l Rf.out Vv.out Ps.out Ej.out (by have:=ud.out;omega) (by have:=Rg.out;omega) kN.out p 200 Tl nn _ _ _ tb _ X (VQ.out.next hX) (nG.keep HPo.out (aA.below hX))).mono (fun e w' h=>⟨h.1,by
    rw[HF.out]
    exact ady h.2 HGe.out Qi.out (by have:=Rg.out;omega)⟩))
 have Gp:Hid (∀X (s:Sub.S) t U,BL w5 X->s∈l->aP U X t s->CB 32 #[.agg (sBx x ak al ar ck cl cr),.slice aw W.length cw,.slice ap p.length cp,.int .i64 200,t] X (.int .i64 (f s))):=hid (fun X s t U hX hs ht=>by
  have hm:=(Rf.out.mem s).1 hs;rw[HF.out];exact adN x W p 200 Tl s (f9 Vv.out Ps.out hm.1) hm.2 kN.out (Vm.adI HGp.out.valid HGp.out.named _ (by omega)) _ _ _ t U tb _ X (VQ.out.next hX) (nG.keep HPo.out (aA.below hX)) ht)
 have HLi:Hid (∀X,BL w5 X->CB 17 #[] X (.bool true)):=hid (fun X hX=>MR tb X (xC.out.next (tnB Zj.out hX)) (Yd.out.below (tnB Zj.out hX) Yd.out.lt (by have:=xC.out.size;omega)));have ZR:Hid (∀V,BL w5 V->V.heap[w1.heap.size]?=some (.cells (sBx x ak al ar ck cl cr) 27 (0,0))):=hid (fun V hV=>HX.out V (tnB dP.out hV));obtain⟨K,hKw⟩:=nmE W.length;have Gh:=hid hKw;obtain⟨np,hnp⟩:=nmE p.length;have HNp:=hid hnp;rw[<-hKw] at VQ ad1 Gp ⊢;rw[<-hnp] at ad1 Gp ⊢;clear hKw hnp hf Tl;have h00:((0:Int) !=0)=false:=rfl
 have Ei:Hid (∀X,BL w5 X->CP 14 #[.agg (sBx x ak al ar ck cl cr),.slice aw K cw,.int .i64 400] X fun e w'=>BL X w'/\∃aa ca,e=.returned (.tuple #[.slice aa l.length ca,.int .i64 0])/\cW X.heap.size (X.heap.size<=·) w' (.slice aa l.length ca) l):=hid (fun X hX=>
  (F3 x W l Rf.out Vv.out Ps.out Ej.out (by have:=ud.out;omega) (by have:=Rg.out;omega) 400 _ _ tb _ X (VQ.out.next hX)).mono (fun e w' h=>⟨h.1,by
   rcases h.2 with⟨h, -⟩|⟨-, -,⟨-,h⟩|⟨h, -⟩⟩
   ·omega
   ·exact h
   ·have:=Rg.out;omega⟩))
 obtain⟨⟨y0,y1,y2,y3⟩, -⟩:=aO (ZR.out w5 aj);go_wp2_with fail;refine(ad1.out w5 aj).mono ?_;rintro e w6 ⟨lN,hres⟩;have jC:Hid (BL w5 w6):=hid lN;clear lN y0 y1 y2 y3;rcases hres with⟨hno,rfl⟩|⟨m,s,hfc,D3,us,um,uc,rfl,pE,hum,huc⟩
 ·skip
  have yd:=hid (aF.adR hno);obtain⟨w7,hw7⟩:=nmE (w6.alloc (.cells #[.slice none 0 0,.int .i64 0,.slice none 0 0,.slice none 0 0] 53));have kN:Hid (Below w5.heap.size w5 w7):=hid (by rw[hw7];exact jC.out.alloc jC.out.size _);have HW7:=hid hw7;clear hw7 hno;unfold KM;go_upto_region 6 with fail;rw[<-HW7.out];obtain⟨⟨y0,y1,y2,y3⟩, -⟩:=aO (ZR.out w7 kN.out);go_wp2_with fail;refine(Ei.out w7 kN.out).mono ?_;rintro e w8 ⟨mK,aa,ca,rfl,hrow⟩;have lP:=bq kN mK;have ae3:Hid (BL w7 w8):=hid mK
  have Zw:Hid (∀j (h:j<l.length),∃t,aP (·<w8.heap.size) w8 t l[j]/\∀X,BL w8 X->X.cell? ⟨aY aa,bC aa+j,none⟩=some t):=hid (fun j h=>by
   obtain⟨t,h1,h2⟩:=hrow.sl.lW h;exact⟨t,aP.mono h1 (fun b hb _=>hb),fun X hX=>h2 X (aA.below hX)⟩)
  have hsl:dG aa l.length:=by
   obtain⟨_,_,e,h1, -⟩:=hrow.form;cases e;exact h1
  have Ji:=hid hsl;clear mK hrow hsl;obtain⟨ml,hml⟩:=nmE l.length;have HM:=hid hml;have hsl:dG aa ml:=by rw[hml];exact Ji.out
  have Ys:(ml:Int)<=64:=by have:=Rg.out;omega
  rw[<-hml];clear hml Ji;clear y0 y1 y2 y3;have h60:((6:Int) !=0)=true:=rfl;go_wp2;go_loopw [17] (fun i wr=>∃k:Nat,k<=ml/\i=.int .i64 (k:Int)/\Hid (BL w8 wr)) (fun i _=>ml-(intOf i).toNat);case atStart=>exact⟨0,Nat.zero_le _,rfl,hid aj⟩
  case round=>
   obtain⟨k,hk,rfl,iP⟩:=hrel;have adS:=bq lP iP.out;by_cases hlt:k<ml
   ·have hj0:(0:Int)<=(k:Int):=by omega
    have hj1:(k:Int)<(ml:Int):=by omega
    have hkl:k<l.length:=by rw[<-HM.out];exact hlt
    obtain⟨t,ht,hct⟩:=Zw.out k hkl;have hq1:=hqC wr ⟨aY aa,bC aa+k,none⟩ t fun xh=>hct _ (tnB iP.out xh.2);have Rx:Hid (∀V,BL wr V->V.heap[w1.heap.size]?=some (.cells (sBx x ak al ar ck cl cr) 27 (0,0))):=hid (fun V hV=>ZR.out V (tnB adS.out hV));have Vn:=hid (fun X (hX:BL wr X)=>Gp.out X l[k] t _ (tnB adS.out hX) (zGm _) (aP.keep ht (aA.below (tnB iP.out hX))));have hne:=yd.out l[k] (zGm _);generalize f l[k]=cv at*;have Hu:(cv==nn)=false:=Dl hne;clear hne ht hct hkl;obtain⟨vV,sD,sE,vW⟩:=M9 Rx.out;go_upto_region 13 with fail;refine agf wr 9 (.quiet 0 (.quiet 1 (.quiet 2 (.quiet 3 (.quiet 4 (.quiet 5 (.quiet 6 (.quiet 8 (.one 7 .done))))))))) mxT (by kernel_rfl) fun wq HBq=>?_
    iterate 8
     refine ai rfl ?_
     intro hne
     go_big_quiet_step (fail)
     refine zWq ?_
     clear hne
    refine aH rfl ?_;go_wp2_with fail;refine(Vn.out wq HBq.out).mono ?_;rintro e wz ⟨rfl,hbz⟩;have su:=bq HBq hbz;clear hbz;go_wp2_with fail;refine aC (BL wr) (fun _ h=>h) su.out ?_;refine aL ?_;try simp only[zDs,zDz]
    clear vV sD sE vW hq1 HBq;have aeU:=bq iP su.out;go_wp2;go_roundw;case rel=>exact⟨k+1,by omega,by go_num,aeU⟩
    simp[intOf];omega
   ·obtain rfl:ml=k:=by omega
    have h66:((6:Int)==6)=true:=rfl;go_wp2_with fail;refine(HLi.out wr adS.out).mono ?_;rintro e wv ⟨rfl,hbv⟩;have HBv:Hid (BL w wv):=hid (tnB Zj.out (tnB adS.out hbv));clear hbv;go_wp2;go_ret;exact⟨rfl,HBv.out⟩
 ·skip
  obtain⟨hm,hls,hfs,hbf⟩:=adK hfc D3;have LD:=hid hls;have Kx:=hid hfs;have HBf:=hid hbf;have HMl:=hid hm;have Yx:=(Rf.out.mem s).1 (by rw[<-hls];exact zGm _);have ae4:=hid Yx
  have LW:Hid (∀X,BL w6 X->CB 33 #[.agg (sBx x ak al ar ck cl cr),.slice aw K cw,us] X (.bool true)):=hid (fun X hX=>by
   have:=Jm x W s (f9 Vv.out Ps.out ae4.out.1) _ _ us _ tb _ X (VQ.out.next (tnB jC.out hX)) (aP.keep pE (aA.below hX));rw[ae4.out.2] at this;exact this)
  have ae1:Hid (∀X,BL w6 X->CB 32 #[.agg (sBx x ak al ar ck cl cr),.slice aw K cw,.slice ap np cp,.int .i64 200,us] X (.int .i64 nn)):=hid (fun X hX=>by
   have:=Gp.out X s us _ (tnB jC.out hX) (by rw[<-LD.out];exact zGm _) (aP.keep pE (aA.below hX));rw[Kx.out] at this;exact this)
  have afp:Hid (∀X,BL w6 X->CB 26 #[.agg (sBx x ak al ar ck cl cr),.slice aw K cw,.slice ap np cp,.int .i64 200,.agg #[us,.int .i64 nn,um,uc]] X (.int .i64 0)):=hid (fun X hX=>by
   have h5:=tnB jC.out hX;have:=JG x W l Rf.out Vv.out Ps.out Ej.out (by have:=ud.out;omega) (by have:=Rg.out;omega) kN.out p 200 (by unfold sM;omega) nn Qi.out HGe.out m s (by rw[<-HF.out];exact hfc) D3 (.agg (sBx x ak al ar ck cl cr)) (.slice aw K cw) (.slice ap np cp) us um uc _ _ _ _ tb _ X (VQ.out.next h5) (by rw[HNp.out];exact nG.keep HPo.out (aA.below h5)) (aP.keep pE (aA.below hX)) (hum.next hX) (by rw[<-HF.out];exact bO.keep (cF.sl huc) (aA.below hX));exact this)
  have afa:Hid (∀X (k:Nat) (hk:k<l.length) t U,BL w6 X->aP U X t l[k]->CB 34 #[t,us] X (.bool (decide (k<m)))):=hid (fun X k hk t U hX ht=>by
   have h1:=(Rf.out.mem l[k]).1 (zGm _);have:=nQ (aF.shape W) l[k] s h1.1 ae4.out.1 (by have:=iE h1.1;have:=ud.out;omega) (by have:=iE ae4.out.1;have:=ud.out;omega) (by have:=Ej.out.1;simpa [aF.shape] using (by omega:W.length<=1000000)) t us _ _ X ht (aP.keep pE (aA.below hX));rw[<-LD.out,Rf.out.less hk HMl.out] at this;exact this)
  obtain⟨as',cs',rfl, -⟩:=pE.form;obtain⟨am,cm,rfl, -⟩:=hum.form;obtain⟨ac,cc,rfl, -⟩:=(cF.sl huc).form;have RW:(l.take m).length=m:=by rw[zLt];omega
  have hlt2:((l.take m).map f).length=m:=by rw[zLm];exact RW
  rw[RW,hlt2] at afp ⊢;clear hls hfs hbf Yx pE hum huc RW hlt2 D3 hfc;obtain⟨ss,hss⟩:=nmE s.length;rw[<-hss] at LW ae1 afp afa ⊢;clear hss;obtain⟨w7,hw7⟩:=nmE (w6.alloc (.cells #[.slice as' ss cs',.int .i64 nn,.slice am m cm,.slice ac m cc] 53));have ae5:Hid (Below w6.heap.size w6 w7):=hid (by rw[hw7];exact aj.alloc aB _);have adD:Hid (BL w5 w7):=hid (tnB jC.out ae5.out);have HY:Hid (∀V,BL w7 V->V.heap[w6.heap.size]?=some (.cells #[.slice as' ss cs',.int .i64 nn,.slice am m cm,.slice ac m cc] 53 (0,0))):=hid (fun V hV=>(hV.block _ (by rw[hw7];simp)).trans (by rw[hw7];exact zAn ..));have HW7:=hid hw7;clear hw7;go_upto_region 6 with fail;rw[<-HW7.out];obtain⟨⟨y0,y1,y2,y3⟩, -⟩:=aO (ZR.out w7 adD.out);go_wp2_with fail;refine(Ei.out w7 adD.out).mono ?_;rintro e w8 ⟨mK,aa,ca,rfl,hrow⟩;have lP:Hid (BL w5 w8):=hid (tnB adD.out mK);have ae3:Hid (BL w7 w8):=hid mK
  have Zw:Hid (∀j (h:j<l.length),∃t,aP (·<w8.heap.size) w8 t l[j]/\∀X,BL w8 X->X.cell? ⟨aY aa,bC aa+j,none⟩=some t):=hid (fun j h=>by
   obtain⟨t,h1,h2⟩:=hrow.sl.lW h;exact⟨t,aP.mono h1 (fun b hb _=>hb),fun X hX=>h2 X (aA.below hX)⟩)
  have hsl:dG aa l.length:=by
   obtain⟨_,_,e,h1, -⟩:=hrow.form;cases e;exact h1
  have Ji:=hid hsl;clear mK hrow hsl;obtain⟨ml,hml⟩:=nmE l.length;have HM:=hid hml;have hsl:dG aa ml:=by rw[hml];exact Ji.out
  have Ys:(ml:Int)<=64:=by have:=Rg.out;omega
  rw[<-hml];clear hml Ji;clear y0 y1 y2 y3;have ae6:=bq ae5 ae3.out;go_upto_region 16 with fail;obtain⟨⟨y0,y1,y2,y3⟩, -⟩:=aO (ZR.out w8 lP.out);obtain⟨⟨z0,z1,z2,z3⟩, -⟩:=aO (HY.out w8 ae3.out);go_wp2_with fail;refine(LW.out w8 ae6.out).mono ?_;rintro e w9 ⟨rfl,Ce⟩;have afB:=bq ae6 Ce;have uV:=bq lP Ce;have afC:=bq ae3 Ce;have HB89:Hid (BL w8 w9):=hid Ce;clear Ce y0 y1 y2 y3 z0 z1 z2 z3;obtain⟨⟨y0,y1,y2,y3⟩, -⟩:=aO (ZR.out w9 uV.out);obtain⟨⟨z0,z1,z2,z3⟩, -⟩:=aO (HY.out w9 afC.out);go_wp2_with fail;refine(ae1.out w9 afB.out).mono ?_;rintro e gX ⟨rfl,DN⟩;have afD:=bq afB DN;have tX:=bq uV DN;have afE:=bq afC DN;have HB80:=bq HB89 DN;clear DN y0 y1 y2 y3 z0 z1 z2 z3;obtain⟨⟨y0,y1,y2,y3⟩, -⟩:=aO (ZR.out gX tX.out);obtain⟨⟨z0,z1,z2,z3⟩, -⟩:=aO (HY.out gX afE.out);have hnn:(nn !=nn)=false:=by simp
  go_wp2_with fail;refine(afp.out gX afD.out).mono ?_;rintro e qF ⟨rfl,sq⟩;have HB61:=bq afD sq;have Tp:=bq tX sq;have HB71:=bq afE sq;have HB81:=bq HB80 sq;clear sq y0 y1 y2 y3 z0 z1 z2 z3;go_wp2;go_loopw [18,19] (fun b i wr=>∃k:Nat,∃bb:Int,k<=ml/\b=.int .i64 bb/\Hid (bb=((min k m:Nat):Int))/\i=.int .i64 (k:Int)/\Hid (BL qF wr)) (fun _ i _=>ml-(intOf i).toNat);case atStart=>exact⟨0,0,Nat.zero_le _,rfl,hid (by simp),rfl,hid aj⟩
  case round=>
   obtain⟨k,bb,hk,rfl,HBb,rfl,iP⟩:=hrel;have adS:=bq Tp iP.out;have afF:=bq HB61 iP.out;have afq:=bq HB71 iP.out;have aeV:=bq HB81 iP.out;by_cases hlt:k<ml
   ·have hj0:(0:Int)<=(k:Int):=by omega
    have hj1:(k:Int)<(ml:Int):=by omega
    have hkl:k<l.length:=by rw[<-HM.out];exact hlt
    obtain⟨t,ht,hct⟩:=Zw.out k hkl;have HT:=hid ht;have SN:=hid hct;have hq1:=hqC wr ⟨aY aa,bC aa+k,none⟩ t fun xh=>SN.out _ (tnB aeV.out xh.2);have xY:=hqC wr ⟨w6.heap.size,0,none⟩ (.slice as' ss cs') fun xh=>(aO (HY.out _ (tnB afq.out xh.2))).1.1;have HLe:=hid (fun X (hX:BL wr X)=>afa.out X k hkl t _ (tnB afF.out hX) (aP.keep HT.out (aA.below (tnB aeV.out hX))));have Gv:Hid (k<m->f l[k]≠nn):=hid (fun h=>HBf.out k h);clear ht hct;go_upto_region 22 with fail;refine agf wr 6 (.quiet 0 (.quiet 1 (.quiet 2 (.quiet 3 (.quiet 4 (.quiet 5 .done)))))) mxT (by kernel_rfl) fun wq HBq=>?_
    iterate 6
     refine ai rfl ?_
     intro hne
     go_big_quiet_step (fail)
     refine zWq ?_
     clear hne
    refine aL ?_;try simp only[zDs,zDz]
    clear hq1 xY;go_wp2_with fail;refine(HLe.out wq HBq.out).mono ?_;rintro e wy ⟨rfl,hby⟩;have WO:=bq HBq hby;clear hby;by_cases hkm:k<m
    ·have hdk:decide (k<m)=true:=decide_eq_true hkm
     rw[hdk];have HY5:=bq adS WO.out;have HY8:=bq aeV WO.out;have HY11:=bq iP WO.out;have hq1:=hqC wy ⟨aY aa,bC aa+k,none⟩ t fun xh=>SN.out _ (tnB HY8.out xh.2);have Rx:Hid (∀V,BL wy V->V.heap[w1.heap.size]?=some (.cells (sBx x ak al ar ck cl cr) 27 (0,0))):=hid (fun V hV=>ZR.out V (tnB HY5.out hV));have Vn:=hid (fun X (hX:BL wy X)=>Gp.out X l[k] t _ (tnB HY5.out hX) (zGm _) (aP.keep HT.out (aA.below (tnB HY8.out hX))));have hne:=Gv.out hkm;generalize f l[k]=cv at*;have Hu:(cv==nn)=false:=Dl hne;have aes:Hid (bb+1=((min (k+1) m:Nat):Int)):=hid (by have:=HBb.out;omega);have hbl:bb+1<=1000000/\0<=bb:=by have:=HBb.out;have:=Rg.out;have:=HM.out;omega
     clear hne hkm hdk HLe;obtain⟨vV,sD,sE,vW⟩:=M9 Rx.out;go_upto_region 24 with fail;refine agf wy 9 (.quiet 0 (.quiet 1 (.quiet 2 (.quiet 3 (.quiet 4 (.quiet 5 (.quiet 6 (.quiet 8 (.one 7 .done))))))))) mxT (by kernel_rfl) fun wq HBq=>?_
     iterate 8
      refine ai rfl ?_
      intro hne
      go_big_quiet_step (fail)
      refine zWq ?_
      clear hne
     refine aH rfl ?_;go_wp2_with fail;refine(Vn.out wq HBq.out).mono ?_;rintro e wz ⟨rfl,hbz⟩;have su:=bq HBq hbz;clear hbz;go_wp2_with fail;refine aC (BL wy) (fun _ h=>h) su.out ?_;refine aL ?_;try simp only[zDs,zDz]
     clear vV sD sE vW hq1 HBq;have aeU:=bq HY11 su.out;go_wp2;go_roundw;case rel=>exact⟨k+1,bb+1,by omega,by go_num,aes,by go_num,aeU⟩
     simp[intOf];omega
    ·have hdk:decide (k<m)=false:=decide_eq_false hkm
     rw[hdk];have aes:Hid (bb=((min (k+1) m:Nat):Int)):=hid (by have:=HBb.out;omega);have aeU:=bq iP WO.out;clear hkm hdk Gv;go_wp2;go_roundw;case rel=>exact⟨k+1,bb,by omega,rfl,aes,by go_num,aeU⟩
     simp[intOf];omega
   ·obtain rfl:bb=(m:Int):=by have:=HBb.out;have:=HMl.out;have:=HM.out;omega
    have hmm:((m:Int)==(m:Int))=true:=by simp
    obtain⟨⟨z0,z1,z2,z3⟩, -⟩:=aO (HY.out wr afq.out);go_wp2_with fail;refine(HLi.out wr adS.out).mono ?_;rintro e wv ⟨rfl,hbv⟩;have HBv:Hid (BL w wv):=hid (tnB Zj.out (tnB adS.out hbv));clear hbv;go_wp2;go_ret;exact⟨rfl,HBv.out⟩
end Go.Proofs.YtobgljfnfpolkaaGreatDoor
