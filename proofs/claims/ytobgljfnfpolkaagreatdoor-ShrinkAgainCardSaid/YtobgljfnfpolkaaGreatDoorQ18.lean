/- The law's walk. -/
import Derived.Test.YtobgljfnfpolkaaGreatDoorQ15
set_option linter.all false
set_option maxRecDepth 100000
set_option maxHeartbeats 8000000
namespace Go.Proofs.YtobgljfnfpolkaaGreatDoor
open Go.RowKit
abbrev sBx(x:ah.bD)(a b c:Option Addr)(d e f:Nat):Array Value:=#[.int .i64 x.af6,.slice a x.af3.length d,.slice b x.af7.length e,.slice c x.af8.length f]
theorem again_any(L L3 L2:List Int)(hL:Fit L)(hP:Fit L3)(hK:Fit L2)(code:Int)(hc1: -9223372036854775808<=code)(hc2:code<=9223372036854775807)(which:Int)(hw1: -9223372036854775808<=which)(hw2:which<=9223372036854775807)(v pv0 u:Value)(tb:Nat)(w:World)
  (hv:bO yQ w v L)(hp:bO yQ w pv0 L3)(hu:bO yQ w u L2)(hlaid:LaidW w)(htab:TabC tb w):
  Calls Tryz.prog 8 #[v,pv0,u,.int .i64 code,.int .i64 which] w fun e w'=>e=.returned (.bool true)/\BL w w':=by
 have HWh:=hid (And.intro hw1 hw2);clear hw1 hw2;have HCd:=hid (And.intro hc1 hc2);have HS:=hid (GQ L hL v w hv);have xC:=hid hlaid;have Yd:=hid htab;have PX:=hid (fun(X:World) (hX:BL w X)=>hu.keep (aA.below hX));have HPk:=hid (fun(X:World) (hX:BL w X)=>hp.keep (aA.below hX));have HK:=hid hK;have HPf:=hid hP;clear hc1 hc2 hv hu hp hlaid htab hL hK hP;go_enter Tryz.func8,Tryz.ntmps8;go_wp2_with fail;refine HS.out.mono ?_;rintro e w1 ⟨sv,x,rfl,hg,Yx,ac4⟩;have aW:Hid (BL w w1):=hid ac4;obtain⟨ak,ck,al,cl,ar,cr,rfl, -⟩:=Yx.form;have hok:=ah.Sn hg;have Vv:=hid hok;have HSv:=hid Yx;have Nk:=hid (ah.Sh hg);have HFp:=hid (aeb hg);have Bk:=hid (aF.qd (aF.qL hok).1);clear ac4 Yx hok hg HS;obtain⟨w2,hw2⟩:=nmE (bE w1 x.af6 (.slice ak x.af3.length ck) (.slice al x.af7.length cl) (.slice ar x.af8.length cr));have bB:=afX hw2;have HX:=afY hw2;unfold bE at hw2;have HW2:=hid hw2;clear hw2;obtain⟨⟨y0,y1,y2,y3⟩, -⟩:=aO (HX.out w2 aj);go_upto_region 2 with fail;rw[<-HW2.out];have ac5:=bq aW bB.out;have Tg:=hid (K7 x Nk.out (by have:=Bk.out.1;omega) (fun k hk=>by have:=(aF.lS (Bk.out.2.2.2 k hk)).1;omega) L2 HK.out _ u _ _ w2 (HSv.out.keep (aA.below bB.out)) (PX.out w2 ac5.out));go_wp2_with fail;refine Tg.out.mono ?_;rintro e w3 ⟨uw,W,rfl,kW,hwf,hb3⟩;have HW3:=hid hwf.sl;have bG:Hid (BL w2 w3):=hid hb3;have MT:=bq ac5 hb3;have Rq:=hid kW;have Ps:=hid (aF.Hp kW);have kN:=hid (adC kW);clear hwf hb3 kW Tg PX y0 y1 y2 y3;obtain⟨aw,cw,rfl, -, -, -⟩:=HW3.out.form;obtain⟨⟨y0,y1,y2,y3⟩, -⟩:=aO (HX.out w3 bG.out);have HPg:=hid (adv x HFp.out Nk.out L3 HPf.out _ _ _ _ w3 (HSv.out.keep (aA.below (tnB bB.out bG.out))) (HPk.out w3 MT.out));go_upto_region 3 with fail;go_wp2_with fail;refine HPg.out.mono ?_;rintro e w4 ⟨pv,p,rfl,hgp,hpv,hb4⟩;have dO:=bq bG hb4;have aeR:=bq MT hb4;have aeS:Hid (BL w3 w4):=hid hb4;have HGp:=hid hgp;have HOw:=hid (ad9 p (by have:=hgp.len;omega) pv _ w4 hpv);obtain⟨ap0,cp0,rfl, -, -, -⟩:=hpv.form;clear hgp hpv hb4 HPg HPk HPf y0 y1 y2 y3;go_wp2_with fail;refine HOw.out.mono ?_;rintro e w5 ⟨po,rfl,hpo,gL⟩;have dP:=bq dO gL;have Zj:=bq aeR gL;have aeT:=bq aeS gL;have HPo:Hid (nG (·<w5.heap.size) w5 po p):=hid (tq hpo);obtain⟨ap,cp,rfl, -, -, -⟩:=(tq hpo).form;clear hpo gL HOw;obtain⟨c0,hc0,hc3⟩:∃n:Nat,around code 3=(n:Int)/\n<3:=⟨(around code 3).toNat,by have:=mP code 3 (by omega);omega,by have:=mP code 3 (by omega);omega⟩
 have HAc:Hid (CP 13 #[.int .i64 code,.int .i64 3] w5 fun e w'=>e=.returned (.int .i64 (c0:Int))/\w5=w'):=hid (by
  have:=rS code 3 w5 HCd.out.1 HCd.out.2 (by omega) (by omega)
  rw[hc0] at this;exact this)
 clear hc0 HCd;go_upto_region 4 with fail;go_wp2_with fail;refine HAc.out.mono ?_;rintro e w' ⟨rfl,rfl⟩;clear HAc;go_upto_region 5 with fail;obtain⟨nn,hnn⟩:=nmE (1+(c0:Int):Int);rw[<-hnn];have Qi:Hid (1<=nn/\nn<=251):=hid (by omega);clear hnn hc3
 have VQ:Hid (l6 tb x W (.agg (sBx x ak al ar ck cl cr)) (.slice aw W.length cw) w5.heap.size w5):=hid
  {vY:=eU.mono (HSv.out.keep (aA.below (tnB bB.out dP.out))) (fun b h _=>h)
   sG:=dc.mono (dc.keep HW3.out (aA.below aeT.out)) (fun b h _=>h)
   laid:=xC.out.next Zj.out
   tab:=Yd.out.below Zj.out Yd.out.lt (by have:=xC.out.size;omega)
   tbB:=zLl Yd.out.lt Zj.out.size
   size:=Nat.le_trans xC.out.size Zj.out.size
   le:=aB}
 obtain⟨l,hl⟩:=aF.Jz x W;have Rf:=hid hl;have ud:Hid (ah.total W<=6):=hid Rq.out.tot;have Ej:Hid (W.length<=1000/\∀r∈W,r.length<=1000000):=hid ⟨by have h1:=Rq.out.len;have h2:=Bk.out.1;omega,fun r hr=>by have h1:=wu r hr;have h2:=ud.out;omega⟩;have Rg:=hid (MS Rq.out hl);have HGe:Hid (aF.l8 x W p 200=0):=hid (adJ HGp.out.valid HGp.out.named W (by omega));have Tl:sM 200:=by unfold sM;omega
 obtain⟨f,hf⟩:=nmE (aF.jI x W p 200);have HF:=hid hf
 have ad1:Hid (∀X,BL w5 X->CP 20 #[.agg (sBx x ak al ar ck cl cr),.slice aw W.length cw,.slice ap p.length cp,.int .i64 200,.int .i64 nn] X fun e w'=>BL X w'/\((aF.j4 f nn l=none/\e=.returned (.tuple #[KM,.int .i64 6]))\/
   (∃m s,aF.j4 f nn l=some m/\l[m]?=some s/\∃us um uc,e=.returned (.tuple #[.agg #[us,.int .i64 nn,um,uc],.int .i64 0])/\aP (X.heap.size<=·) w' us s/\cW X.heap.size (X.heap.size<=·) w' um (l.take m)/\cF (X.heap.size<=·) w' uc ((l.take m).map f)))):=hid (fun X hX=>(BQ x W l Rf.out Vv.out Ps.out Ej.out (by have:=ud.out;omega) (by have:=Rg.out;omega) kN.out p 200 Tl nn _ _ _ tb _ X (VQ.out.next hX) (nG.keep HPo.out (aA.below hX))).mono (fun e w' h=>⟨h.1,by
    rw[HF.out]
    exact ady h.2 HGe.out Qi.out (by have:=Rg.out;omega)⟩))
 have HLi:Hid (∀X,BL w5 X->CB 17 #[] X (.bool true)):=hid (fun X hX=>MR tb X (xC.out.next (tnB Zj.out hX)) (Yd.out.below (tnB Zj.out hX) Yd.out.lt (by have:=xC.out.size;omega)));have ZR:Hid (∀V,BL w5 V->V.heap[w1.heap.size]?=some (.cells (sBx x ak al ar ck cl cr) 27 (0,0))):=hid (fun V hV=>HX.out V (tnB dP.out hV));obtain⟨K,hKw⟩:=nmE W.length;have Gh:=hid hKw;obtain⟨np,hnp⟩:=nmE p.length;have HNp:=hid hnp;rw[<-hKw] at VQ ad1 ⊢;rw[<-hnp] at ad1 ⊢;clear hKw hnp hf Tl;have h00:((0:Int) !=0)=false:=rfl
 have Ei:Hid (∀X,BL w5 X->CP 14 #[.agg (sBx x ak al ar ck cl cr),.slice aw K cw,.int .i64 400] X fun e w'=>BL X w'/\∃aa ca,e=.returned (.tuple #[.slice aa l.length ca,.int .i64 0])/\cW X.heap.size (X.heap.size<=·) w' (.slice aa l.length ca) l):=hid (fun X hX=>
  (F3 x W l Rf.out Vv.out Ps.out Ej.out (by have:=ud.out;omega) (by have:=Rg.out;omega) 400 _ _ tb _ X (VQ.out.next hX)).mono (fun e w' h=>⟨h.1,by
   rcases h.2 with⟨h, -⟩|⟨-, -,⟨-,h⟩|⟨h, -⟩⟩
   ·omega
   ·exact h
   ·have:=Rg.out;omega⟩))
 have HWk:Hid (WOk x W):=hid ⟨Vv.out,Ps.out,Ej.out,ud.out,kN.out⟩;have xX:Hid (W.length=x.af3.length):=hid Rq.out.len
 have HWd:Hid (∀X (s:Sub.S) t U,BL w5 X->s∈l->aP U X t s->CP 42 #[.agg (sBx x ak al ar ck cl cr),.slice aw K cw,t] X fun e w'=>∃r,e=.returned (.tuple #[r,.int .i64 0])/\bL (X.heap.size<=·) w' r (aF.iW x W s)/\BL X w'):=hid (fun X s t U hX hs ht=>by
  have hm:=(Rf.out.mem s).1 hs;exact Ju x W s (f9 Vv.out Ps.out hm.1) hm.2 kN.out _ _ t U tb _ X (VQ.out.next hX) ht)
 have afQ:Hid (∀X r T (s:Sub.S),BL w5 X->dc T X r (aF.iW x W s)->l6 tb x (aF.iW x W s) (.agg (sBx x ak al ar ck cl cr)) r X.heap.size X):=hid (fun X r T s hX hr=>by
  have h:=VQ.out.next hX;exact {vY:=eU.mono h.vY (fun b h _=>h),sG:=dc.mono hr (fun b h _=>h),laid:=h.laid,tab:=h.tab,tbB:=zLl h.tbB h.le,size:=Nat.le_trans h.size h.le,le:=aB})
 have HPt:Hid (∀s,s∈l->WOk x (aF.iW x W s)):=hid (fun s hs=>HWk.out.part ((Rf.out.mem s).1 hs).2);obtain⟨⟨y0,y1,y2,y3⟩, -⟩:=aO (ZR.out w5 aj);go_wp2_with fail;refine(Ei.out w5 (Below.refl w5.heap.size w5)).mono ?_;rintro e w6 ⟨mK,aa,ca,rfl,hrow⟩;have jC:Hid (BL w5 w6):=hid ((Below.refl w5.heap.size w5).trans (mK.mono (Below.refl w5.heap.size w5).size));have HB6l:Hid (BL w5 w6):=hid mK
 have Zw:Hid (∀j (h:j<l.length),∃t,aP (·<w6.heap.size) w6 t l[j]/\∀X,BL w6 X->X.cell? ⟨aY aa,bC aa+j,none⟩=some t):=hid (fun j h=>by
  obtain⟨t,h1,h2⟩:=hrow.sl.lW h;exact⟨t,aP.mono h1 (fun b hb _=>hb),fun X hX=>h2 X (aA.below hX)⟩)
 have hsl:dG aa l.length:=by
  obtain⟨_,_,e,h1, -⟩:=hrow.form;cases e;exact h1
 have Ji:=hid hsl;clear mK hrow hsl;obtain⟨ml,hml⟩:=nmE l.length;have HM:=hid hml;have hsl:dG aa ml:=by rw[hml];exact Ji.out
 have Ys:(ml:Int)<=64:=by have:=Rg.out;omega
 rw[<-hml];clear hml Ji;have hne0:0<ml:=by rw[HM.out];exact Rf.out.ne
 have hm0:¬((ml:Int)=0):=by omega
 have hmb:((ml:Int)==0)=false:=by simpa using hm0
 clear y0 y1 y2 y3;obtain⟨ia,hia,ac8⟩:∃n:Nat,around which (ml:Int)=(n:Int)/\n<ml:=⟨(around which ml).toNat,by have:=mP which ml (by omega);omega,by have:=mP which ml (by omega);omega⟩
 have HRa:Hid (CP 13 #[.int .i64 which,.int .i64 (ml:Int)] w6 fun e w'=>e=.returned (.int .i64 (ia:Int))/\w6=w'):=hid (by
  have:=rS which ml w6 HWh.out.1 HWh.out.2 (by omega) (by have:=Rg.out;have:=HM.out;omega)
  rw[hia] at this;exact this)
 clear hia HWh;have afR:ia<l.length:=by rw[<-HM.out];exact ac8
 obtain⟨t,ht,hct⟩:=Zw.out ia afR;obtain⟨s,hs⟩:=nmE (l[ia]);rw[<-hs] at ht;have Tg:Hid (s∈l):=hid (by rw[hs];exact zGm _);have hxp:w6.cell? ⟨aY aa,bC aa+ia,none⟩=some t:=hct w6 aj;have HTs:=hid (fun X (hX:BL w6 X)=>aP.keep ht (aA.below hX));have hi0:(0:Int)<=(ia:Int):=by omega
 have hi1:(ia:Int)<(ml:Int):=by omega
 clear hs ht hct afR;go_upto_region 8 with fail;go_wp2_with fail;refine HRa.out.mono ?_;rintro e w' ⟨rfl,rfl⟩;clear HRa;go_upto_region 9 with fail;clear hxp hi0 hi1 ac8 hm0 hmb;obtain⟨⟨y0,y1,y2,y3⟩, -⟩:=aO (ZR.out w6 jC.out);go_wp2_with fail;refine(HWd.out w6 s t _ jC.out Tg.out (HTs.out w6 aj)).mono ?_;rintro e w7 ⟨r,rfl,hwf,jM⟩;have adD:Hid (BL w5 w7):=hid (tnB jC.out jM);have ae5:Hid (BL w6 w7):=hid jM;have afS:=hid (afQ.out w7 r _ s adD.out hwf.sl);obtain⟨l2,hl2⟩:=aF.Jz x (aF.iW x W s);have HI2:=hid hl2;have hp2:=HPt.out s Tg.out;have afT:=hp2.le hl2;obtain⟨aq,cq,rfl, -, -, -⟩:=hwf.sl.form
 have afs:Hid (CP 14 #[.agg (sBx x ak al ar ck cl cr),.slice aq (aF.iW x W s).length cq,.int .i64 400] w7 fun e w'=>BL w7 w'/\∃aa ca,e=.returned (.tuple #[.slice aa l2.length ca,.int .i64 0])):=hid (
  (F3 x (aF.iW x W s) l2 hl2 hp2.ok hp2.fit hp2.ws (by have:=hp2.tot;omega) (by omega) 400 _ _ tb _ w7 afS.out).mono (fun e w' h=>⟨h.1,by
   rcases h.2 with⟨h, -⟩|⟨-, -,⟨-,a1,c1,h, -⟩|⟨h, -⟩⟩
   ·omega
   ·exact⟨a1,c1,h⟩
   ·omega⟩))
 obtain⟨kp,hkp⟩:=nmE ((aF.iW x W s).length);rw[<-hkp] at afs ⊢;clear hwf jM hl2 hp2 afT afS y0 y1 y2 y3 hkp;obtain⟨⟨y0,y1,y2,y3⟩, -⟩:=aO (ZR.out w7 adD.out);go_upto_region 10 with fail;go_wp2_with fail;refine afs.out.mono ?_;rintro e w8 ⟨mK,a2,c2,rfl⟩;have lP:Hid (BL w5 w8):=hid (tnB adD.out mK);have ae6:=bq ae5 mK;obtain⟨m2,hm2⟩:=nmE l2.length;rw[<-hm2];have vf:=hid hm2;clear mK hm2 y0 y1 y2 y3 afs;go_wp2;go_loopw [22,23] (fun b i wr=>∃k:Nat,∃bb:Int,k<=ml/\b=.int .i64 bb/\Hid (bb=(((l.take k).filter (leB s)).length:Nat))/\i=.int .i64 (k:Int)/\Hid (BL w8 wr)) (fun _ i _=>ml-(intOf i).toNat);case atStart=>exact⟨0,0,Nat.zero_le _,rfl,hid (by simp),rfl,hid aj⟩
 case round=>
  obtain⟨k,bb,hk,rfl,HBb,rfl,iP⟩:=hrel;have aeu:=bq lP iP.out;have aft:=bq ae6 iP.out;by_cases hlt:k<ml
  ·have hj0:(0:Int)<=(k:Int):=by omega
   have hj1:(k:Int)<(ml:Int):=by omega
   have hkl:k<l.length:=by rw[<-HM.out];exact hlt
   obtain⟨tk,YV,afU⟩:=Zw.out k hkl;have hx:wr.cell? ⟨aY aa,bC aa+k,none⟩=some tk:=afU wr aft.out;have HWi:=hid (adT (aF.shape W) l[k] s ((Rf.out.mem _).1 (zGm _)).1 ((Rf.out.mem s).1 Tg.out).1 tk t _ _ wr (aP.keep YV (aA.below aft.out)) (HTs.out wr aft.out));have sR:=hid (aer s hkl)
   have hbl:bb+1<=1000000/\0<=bb:=by
    have h1:=HBb.out;have h2:=List.length_filter_le (leB s) (l.take k);have h3:=Rg.out;have h4:=HM.out;rw[zLt] at h2;omega
   obtain⟨hb1,hb2⟩:=hbl;clear YV afU;go_wp2_with fail;refine HWi.out.mono ?_;rintro e wy ⟨z,rfl,hz,rfl⟩;clear hx HWi;cases z
   ·have aes:Hid (bb=(((l.take (k+1)).filter (leB s)).length:Nat)):=hid (by
     rw[sR.out,if_neg (fun h=>by have:=hz.2 (aec.1 h);cases this)]
     exact HBb.out)
    clear hz sR hkl;go_wp2;go_roundw;case rel=>exact⟨k+1,bb,by omega,rfl,aes,by go_num,iP⟩
    simp[intOf];omega
   ·have aes:Hid (bb+1=(((l.take (k+1)).filter (leB s)).length:Nat)):=hid (by
     rw[sR.out,if_pos (aec.2 (hz.1 rfl))]
     have:=HBb.out
     omega)
    clear hz sR hkl;go_wp2;go_roundw;case rel=>exact⟨k+1,bb+1,by omega,by go_num,aes,by go_num,iP⟩
    simp[intOf];omega
  ·obtain rfl:bb=(m2:Int):=by
    have h1:=HBb.out
    rw[zTl (by have:=HM.out;omega),aed HWk.out Rf.out Tg.out HI2.out,<-vf.out] at h1
    exact h1
   go_upto_region 21 with fail;obtain⟨⟨y0,y1,y2,y3⟩, -⟩:=aO (ZR.out wr aeu.out);go_wp2_with fail;refine(ad1.out wr aeu.out).mono ?_;rintro e wa ⟨hba,hres⟩;have HBa:=bq aeu hba;clear hba y0 y1 y2 y3;rcases hres with⟨hno,rfl⟩|⟨m,s0,hfc,D3,us0,um,uc,rfl,pE,hum,huc⟩
   ·skip
    obtain⟨wb,hwb⟩:=nmE (wa.alloc (.cells #[.slice none 0 0,.int .i64 0,.slice none 0 0,.slice none 0 0] 53));have HBb:Hid (Below w5.heap.size w5 wb):=hid (by rw[hwb];exact HBa.out.alloc HBa.out.size _);have HWb:=hid hwb;clear hwb hno;unfold KM;have h60:((6:Int) !=0)=true:=rfl;have h66:((6:Int)==6)=true:=rfl;go_upto_region 23 with fail;rw[<-HWb.out];go_wp2_with fail;refine(HLi.out wb HBb.out).mono ?_;rintro e wv ⟨rfl,hbv⟩;have HBv:Hid (BL w wv):=hid (tnB Zj.out (tnB HBb.out hbv));clear hbv;go_wp2;go_ret;exact⟨rfl,HBv.out⟩
   ·skip
    obtain⟨hm,hls,hfs,hbf⟩:=adK hfc D3;have hs0:s0∈l:=by rw[<-hls];exact zGm _
    have HS0:=hid hs0;have HFc:Hid (aF.j4 (aF.jI x W p 200) nn l=some m):=hid (by rw[<-HF.out];exact hfc);have Wi:=hid D3;have hp0:=HPt.out s0 hs0;obtain⟨l3,hl3⟩:=aF.Jz x (aF.iW x W s0);have A1:=aep HWk.out xX.out Rf.out hl3 HFc.out D3;have hge:aF.l8 x (aF.iW x W s0) p 200=0:=adJ HGp.out.valid HGp.out.named _ (by omega)
    have HSm2:Hid (∀X r T,BL w5 X->dc T X r (aF.iW x W s0)->CP 20 #[.agg (sBx x ak al ar ck cl cr),r,.slice ap np cp,.int .i64 200,.int .i64 nn] X fun e w'=>BL X w'/\∃a n c am mm cm ac mc cc,e=.returned (.tuple #[.agg #[.slice a n c,.int .i64 nn,.slice am mm cm,.slice ac mc cc],.int .i64 0])/\aP (fun _=>True) w' (.slice a n c) (iC (aF.iW x W s0))):=hid (fun X r T hX hr=>by
     have:=BQ x (aF.iW x W s0) l3 hl3 hp0.ok hp0.fit hp0.ws (by have:=hp0.tot;omega) (by have:=hp0.le hl3;omega) hp0.b7 p 200 (by unfold sM;omega) nn (.agg (sBx x ak al ar ck cl cr)) r (.slice ap np cp) tb _ X (afQ.out X r T s0 hX hr) (by rw[HNp.out];exact dA.mono (by omega) zF (nG.keep HPo.out (aA.below hX)) (fun b h _=>h));refine this.mono (fun e w' h=>⟨h.1,?_⟩);obtain⟨m3,Ec,M4⟩:=A1;rcases ady h.2 hge Qi.out (by have:=hp0.le hl3;omega) with⟨h1, -⟩|⟨m5,s5,h1,h2,us,um,uc,rfl,h3,h4,h5⟩
     ·rw[Ec] at h1;cases h1
     ·rw[Ec] at h1
      obtain rfl:=zSi h1;rw[M4] at h2;obtain rfl:=zSi h2;obtain⟨a1,c1,rfl, -⟩:=h3.form;obtain⟨a2,c2,rfl, -⟩:=h4.form;obtain⟨a3,c3,rfl, -⟩:=(cF.sl h5).form;exact⟨_,_,_,_,_,_,_,_,_,rfl,aP.mono h3 (fun _ _ _=>trivial)⟩)
    have KJ:Hid (∀X r T,BL w5 X->dc T X r (aF.iW x W s0)->CP 43 #[r] X fun e w'=>∃u,e=.returned u/\aP (fun _=>True) w' u (iC (aF.iW x W s0))/\BL X w'):=hid (fun X r T hX hr=>
     (aeG (aF.iW x W s0) hp0.ws.1 (fun q hq=>by have h1:=wu q hq;have h2:=hp0.tot;omega) r T X hr).mono (fun e w' h=>by
      obtain⟨u,h1,h2,h3⟩:=h;exact⟨u,h1,aP.mono h2.sl (fun _ _ _=>trivial),h3⟩))
    have afV:Hid (∀X,BL wa X->CP 42 #[.agg (sBx x ak al ar ck cl cr),.slice aw K cw,us0] X fun e w'=>∃r,e=.returned (.tuple #[r,.int .i64 0])/\bL (X.heap.size<=·) w' r (aF.iW x W s0)/\BL X w'):=hid (fun X hX=>HWd.out X s0 us0 _ (tnB HBa.out hX) HS0.out (aP.keep pE (aA.below hX)));obtain⟨a0,q0,rfl, -⟩:=pE.form;obtain⟨am,cm,rfl, -⟩:=hum.form;obtain⟨ax,cx,rfl, -⟩:=(cF.sl huc).form;generalize (l.take m).length=lm1 at*;generalize ((l.take m).map f).length=lm2 at*;obtain⟨n0,hn0⟩:=nmE s0.length;rw[<-hn0] at afV ⊢;clear hls hfs hbf hm hs0 pE hum huc D3 hfc hn0 A1 hge hp0 hl3;obtain⟨wb,hwb⟩:=nmE (wa.alloc (.cells #[.slice a0 n0 q0,.int .i64 nn,.slice am lm1 cm,.slice ax lm2 cx] 53));have HBb:Hid (Below wa.heap.size wa wb):=hid (by rw[hwb];exact aj.alloc aB _);have ae7:=bq HBa HBb.out;have HY:Hid (wb.heap[wa.heap.size]?=some (.cells #[.slice a0 n0 q0,.int .i64 nn,.slice am lm1 cm,.slice ax lm2 cx] 53 (0,0))):=hid (by rw[hwb];exact zAn ..);have HWb:=hid hwb;clear hwb;have h00:((0:Int) !=0)=false:=rfl;go_upto_region 24 with fail;rw[<-HWb.out];obtain⟨⟨y0,y1,y2,y3⟩, -⟩:=aO (ZR.out wb ae7.out);obtain⟨⟨z0,z1,z2,z3⟩, -⟩:=aO HY.out;go_wp2_with fail;refine(afV.out wb HBb.out).mono ?_;rintro e wc ⟨r,rfl,hwf,hbc⟩;have aev:=bq ae7 hbc;have HWf:=hid (fun X (hX:BL wc X)=>dc.keep (bL.sl hwf) (aA.below hX));have afu:=hid (HSm2.out wc r _ aev.out (bL.sl hwf));obtain⟨aq3,cq3,rfl, -, -, -⟩:=hwf.sl.form;obtain⟨kq,hkq⟩:=nmE ((aF.iW x W s0).length);rw[<-hkq] at HWf afu ⊢;clear hwf hbc y0 y1 y2 y3 z0 z1 z2 z3 hkq;obtain⟨⟨y0,y1,y2,y3⟩, -⟩:=aO (ZR.out wc aev.out);go_upto_region 25 with fail;go_wp2_with fail;refine afu.out.mono ?_;rintro e wd ⟨hbd,b1,b2,b3,b4,b5,b6,b7,b8,b9,rfl,Yx⟩;have HB5d:=bq aev hbd;have HBcd:Hid (BL wc wd):=hid hbd;have HSv3:=hid (fun X (hX:BL wd X)=>aP.keep Yx (aA.below hX));obtain⟨we,hwe⟩:=nmE (wd.alloc (.cells #[.slice b1 b2 b3,.int .i64 nn,.slice b4 b5 b6,.slice b7 b8 b9] 53));have ae8:Hid (Below wd.heap.size wd we):=hid (by rw[hwe];exact aj.alloc aB _);have afv:=bq HB5d ae8.out;have afW:=bq HBcd ae8.out;have HY2:Hid (∀V,BL we V->V.heap[wd.heap.size]?=some (.cells #[.slice b1 b2 b3,.int .i64 nn,.slice b4 b5 b6,.slice b7 b8 b9] 53 (0,0))):=hid (fun V hV=>(hV.block _ (by rw[hwe];simp)).trans (by rw[hwe];exact zAn ..));have HWe:=hid hwe;clear hwe hbd Yx y0 y1 y2 y3 afu;go_upto_region 26 with fail;rw[<-HWe.out];have Bj:=hqC we ⟨wd.heap.size,0,none⟩ (.slice b1 b2 b3) fun xh=>(aO (HY2.out xh.1 xh.2)).1.1;refine agf we 11 (.quiet 0 (.quiet 1 (.quiet 2 (.quiet 3 (.quiet 4 (.quiet 5 (.quiet 6 (.quiet 7 (.quiet 8 (.quiet 9 (.one 10 .done))))))))))) mxT (by kernel_rfl) fun wq HBq=>?_
    iterate 10
     refine ai rfl ?_
     intro hne
     go_big_quiet_step (fail)
     refine zWq ?_
     clear hne
    refine aH rfl ?_;go_wp2_with fail;refine(KJ.out wq _ _ (tnB afv.out HBq.out) (HWf.out wq (tnB afW.out HBq.out))).mono ?_;rintro e wz ⟨uf,rfl,huf,hbz⟩;have su:=bq HBq hbz;have HSs:=hid (tP _ _ _ _ _ _ wz (HSv3.out wz (tnB ae8.out su.out)) huf);have HB5z:=bq afv su.out;clear hbz huf HBq;go_wp2_with fail;refine aC (BL we) (fun _ h=>h) su.out ?_;refine aL ?_;try simp only[zDs,zDz]
    clear Bj;go_wp2_with fail;refine HSs.out.mono ?_;rintro e wx ⟨z,rfl,hz,hd⟩;have afw:=bq HB5z hd.below;obtain rfl:z=true:=by simpa using hz
    clear hz hd HSs;go_wp2_with fail;refine(HLi.out wx afw.out).mono ?_;rintro e wv ⟨rfl,hbv⟩;have HBv:Hid (BL w wv):=hid (tnB Zj.out (tnB afw.out hbv));clear hbv;go_wp2;go_ret;exact⟨rfl,HBv.out⟩
end Go.Proofs.YtobgljfnfpolkaaGreatDoor
