/- The law's walk. -/
import Derived.Test.YtobgljfnfpolkaaGreatDoorQ15
set_option linter.all false
set_option maxRecDepth 100000
set_option maxHeartbeats 8000000
namespace Go.Proofs.YtobgljfnfpolkaaGreatDoor
open Go.RowKit
abbrev sBx(x:ah.bD)(a b c:Option Addr)(d e f:Nat):Array Value:=#[.int .i64 x.af6,.slice a x.af3.length d,.slice b x.af7.length e,.slice c x.af8.length f]
theorem srecords_any(L L3 L2:List Int)(hL:Fit L)(hP:Fit L3)(hK:Fit L2)(code:Int)(hc1: -9223372036854775808<=code)(hc2:code<=9223372036854775807)(v pv0 u:Value)(tb:Nat)(w:World)
  (hv:bO yQ w v L)(hp:bO yQ w pv0 L3)(hu:bO yQ w u L2)(hlaid:LaidW w)(htab:TabC tb w):
  Calls Tryz.prog 7 #[v,pv0,u,.int .i64 code] w fun e w'=>e=.returned (.bool true)/\BL w w':=by
 have HCd:=hid (And.intro hc1 hc2);have HS:=hid (GQ L hL v w hv);have xC:=hid hlaid;have Yd:=hid htab;have PX:=hid (fun(X:World) (hX:BL w X)=>hu.keep (aA.below hX));have HPk:=hid (fun(X:World) (hX:BL w X)=>hp.keep (aA.below hX));have HK:=hid hK;have HPf:=hid hP;clear hc1 hc2 hv hu hp hlaid htab hL hK hP;go_enter Tryz.func7,Tryz.ntmps7;go_wp2_with fail;refine HS.out.mono ?_;rintro e w1 ⟨sv,x,rfl,hg,Yx,ac4⟩;have aW:Hid (BL w w1):=hid ac4;obtain⟨ak,ck,al,cl,ar,cr,rfl, -⟩:=Yx.form;have hok:=ah.Sn hg;have Vv:=hid hok;have HSv:=hid Yx;have Nk:=hid (ah.Sh hg);have HFp:=hid (aeb hg);have Bk:=hid (aF.qd (aF.qL hok).1);clear ac4 Yx hok hg HS;obtain⟨w2,hw2⟩:=nmE (bE w1 x.af6 (.slice ak x.af3.length ck) (.slice al x.af7.length cl) (.slice ar x.af8.length cr));have bB:=afX hw2;have HX:=afY hw2;unfold bE at hw2;have HW2:=hid hw2;clear hw2;obtain⟨⟨y0,y1,y2,y3⟩, -⟩:=aO (HX.out w2 aj);go_upto_region 2 with fail;rw[<-HW2.out];have ac5:=bq aW bB.out;have Tg:=hid (K7 x Nk.out (by have:=Bk.out.1;omega) (fun k hk=>by have:=(aF.lS (Bk.out.2.2.2 k hk)).1;omega) L2 HK.out _ u _ _ w2 (HSv.out.keep (aA.below bB.out)) (PX.out w2 ac5.out));go_wp2_with fail;refine Tg.out.mono ?_;rintro e w3 ⟨uw,W,rfl,kW,hwf,hb3⟩;have HW3:=hid hwf.sl;have bG:Hid (BL w2 w3):=hid hb3;have MT:=bq ac5 hb3;have Rq:=hid kW;have Ps:=hid (aF.Hp kW);have kN:=hid (adC kW);clear hwf hb3 kW Tg PX y0 y1 y2 y3;obtain⟨aw,cw,rfl, -, -, -⟩:=HW3.out.form;obtain⟨⟨y0,y1,y2,y3⟩, -⟩:=aO (HX.out w3 bG.out);have HPg:=hid (adv x HFp.out Nk.out L3 HPf.out _ _ _ _ w3 (HSv.out.keep (aA.below (tnB bB.out bG.out))) (HPk.out w3 MT.out));go_upto_region 3 with fail;go_wp2_with fail;refine HPg.out.mono ?_;rintro e w4 ⟨pv,p,rfl,hgp,hpv,hb4⟩;have dO:=bq bG hb4;have aeR:=bq MT hb4;have aeS:Hid (BL w3 w4):=hid hb4;have HGp:=hid hgp;have HOw:=hid (ad9 p (by have:=hgp.len;omega) pv _ w4 hpv);obtain⟨ap0,cp0,rfl, -, -, -⟩:=hpv.form;clear hgp hpv hb4 HPg HPk HPf y0 y1 y2 y3;go_wp2_with fail;refine HOw.out.mono ?_;rintro e w5 ⟨po,rfl,hpo,gL⟩;have dP:=bq dO gL;have Zj:=bq aeR gL;have aeT:=bq aeS gL;have HPo:Hid (nG (·<w5.heap.size) w5 po p):=hid (tq hpo);obtain⟨ap,cp,rfl, -, -, -⟩:=(tq hpo).form;clear hpo gL HOw;obtain⟨c0,hc0,hc3⟩:∃n:Nat,around code 3=(n:Int)/\n<3:=⟨(around code 3).toNat,by have:=mP code 3 (by omega);omega,by have:=mP code 3 (by omega);omega⟩
 have HAc:Hid (CP 13 #[.int .i64 code,.int .i64 3] w5 fun e w'=>e=.returned (.int .i64 (c0:Int))/\w5=w'):=hid (by
  have:=rS code 3 w5 HCd.out.1 HCd.out.2 (by omega) (by omega)
  rw[hc0] at this;exact this)
 clear hc0 HCd;go_upto_region 4 with fail;go_wp2_with fail;refine HAc.out.mono ?_;rintro e w' ⟨rfl,rfl⟩;clear HAc;go_upto_region 5 with fail;obtain⟨nn,hnn⟩:=nmE (1+(c0:Int):Int);rw[<-hnn];have Qi:Hid (1<=nn/\nn<=251):=hid (by omega);clear hnn hc3
 have VQ:Hid (l6 tb x W (.agg (sBx x ak al ar ck cl cr)) (.slice aw W.length cw) w5.heap.size w5):=hid
  {vY:=eU.mono (HSv.out.keep (aA.below (tnB bB.out dP.out))) (fun b h _=>h)
   sG:=dc.mono (dc.keep HW3.out (aA.below aeT.out)) (fun b h _=>h)
   laid:=xC.out.next Zj.out
   tab:=Yd.out.below Zj.out Yd.out.lt (by have:=xC.out.size;omega)
   tbB:=zLl Yd.out.lt Zj.out.size
   size:=Nat.le_trans xC.out.size Zj.out.size
   le:=aB}
 obtain⟨l,hl⟩:=aF.Jz x W;have Rf:=hid hl;have ud:Hid (ah.total W<=6):=hid Rq.out.tot;have Ej:Hid (W.length<=1000/\∀r∈W,r.length<=1000000):=hid ⟨by have h1:=Rq.out.len;have h2:=Bk.out.1;omega,fun r hr=>by have h1:=wu r hr;have h2:=ud.out;omega⟩;have Rg:=hid (MS Rq.out hl);have HGe:Hid (aF.l8 x W p 200=0):=hid (adJ HGp.out.valid HGp.out.named W (by omega));have Tl:sM 200:=by unfold sM;omega
 obtain⟨f,hf⟩:=nmE (aF.jI x W p 200);have HF:=hid hf
 have ad1:Hid (∀X,BL w5 X->CP 20 #[.agg (sBx x ak al ar ck cl cr),.slice aw W.length cw,.slice ap p.length cp,.int .i64 200,.int .i64 nn] X fun e w'=>BL X w'/\((aF.j4 f nn l=none/\e=.returned (.tuple #[KM,.int .i64 6]))\/
   (∃m s,aF.j4 f nn l=some m/\l[m]?=some s/\∃us um uc,e=.returned (.tuple #[.agg #[us,.int .i64 nn,um,uc],.int .i64 0])/\aP (X.heap.size<=·) w' us s/\cW X.heap.size (X.heap.size<=·) w' um (l.take m)/\cF (X.heap.size<=·) w' uc ((l.take m).map f)))):=hid (fun X hX=>(BQ x W l Rf.out Vv.out Ps.out Ej.out (by have:=ud.out;omega) (by have:=Rg.out;omega) kN.out p 200 Tl nn _ _ _ tb _ X (VQ.out.next hX) (nG.keep HPo.out (aA.below hX))).mono (fun e w' h=>⟨h.1,by
    rw[HF.out]
    exact ady h.2 HGe.out Qi.out (by have:=Rg.out;omega)⟩))
 have Gp:Hid (∀X (s:Sub.S) t U,BL w5 X->s∈l->aP U X t s->CB 32 #[.agg (sBx x ak al ar ck cl cr),.slice aw W.length cw,.slice ap p.length cp,.int .i64 200,t] X (.int .i64 (f s))):=hid (fun X s t U hX hs ht=>by
  have hm:=(Rf.out.mem s).1 hs;rw[HF.out];exact adN x W p 200 Tl s (f9 Vv.out Ps.out hm.1) hm.2 kN.out (Vm.adI HGp.out.valid HGp.out.named _ (by omega)) _ _ _ t U tb _ X (VQ.out.next hX) (nG.keep HPo.out (aA.below hX)) ht)
 have HLi:Hid (∀X,BL w5 X->CB 17 #[] X (.bool true)):=hid (fun X hX=>MR tb X (xC.out.next (tnB Zj.out hX)) (Yd.out.below (tnB Zj.out hX) Yd.out.lt (by have:=xC.out.size;omega)));have ZR:Hid (∀V,BL w5 V->V.heap[w1.heap.size]?=some (.cells (sBx x ak al ar ck cl cr) 27 (0,0))):=hid (fun V hV=>HX.out V (tnB dP.out hV));obtain⟨K,hKw⟩:=nmE W.length;have Gh:=hid hKw;obtain⟨np,hnp⟩:=nmE p.length;have HNp:=hid hnp;rw[<-hKw] at VQ ad1 Gp ⊢;rw[<-hnp] at ad1 Gp ⊢;clear hKw hnp hf Tl;have h00:((0:Int) !=0)=false:=rfl;have Rx:=ZR;have HGl:Hid (aF.bP x W∈l):=hid ((Rf.out.mem _).2 ⟨aF.jZ x W,aF.oF x W⟩)
 have KJ:=hid (fun(X:World) (hX:BL w5 X)=>by
  have:=nM W Ej.out.1 Ej.out.2 _ _ X (VQ.out.next hX).sG;rw[<-Gh.out] at this;exact this)
 have sU:Hid (∀(X:World) t U,BL w5 X->aP U X t (iC W)->CP 35 #[.agg (sBx x ak al ar ck cl cr),.slice aw K cw,t] X fun e w'=>∃g,e=.returned (.tuple #[.slice (some ⟨g,0,none⟩) K K,.int .i64 0])/\gN (X.heap.size<=·) w' (.slice (some ⟨g,0,none⟩) K K) (aF.bP x W)/\BL X w'):=hid (fun X t U hX hs=>by
  have:=iZ x W (iC W) (f9 Vv.out Ps.out (aF.iX W)) _ _ t U tb _ X (VQ.out.next hX) hs;rw[<-Gh.out] at this;exact this)
 have HFa:Hid (∀X,BL w5 X->CP 30 #[.agg (sBx x ak al ar ck cl cr),.slice aw K cw,.slice ap np cp,.int .i64 200,.int .i64 nn] X fun e w'=>BL X w'/\((f (aF.bP x W)≠nn/\e=.returned (.tuple #[.slice none 0 0,.int .i64 0,.int .i64 6]))\/
   (∃s:Sub.S,∃rn:Nat,∃us,aF.aeH (aF.wr x W) (aF.shape W) (aF.bP x W) f nn (s,rn)/\e=.returned (.tuple #[us,.int .i64 (rn:Nat),.int .i64 0])/\aP (X.heap.size<=·) w' us s))):=hid (fun X hX=>by
  have:=MO x W Vv.out Ps.out Ej.out (by have:=ud.out;omega) kN.out p 200 (by unfold sM;omega) nn (.agg (sBx x ak al ar ck cl cr)) (.slice aw K cw) (.slice ap np cp) tb _ X (VQ.out.next hX) (by rw[HNp.out];exact nG.keep HPo.out (aA.below hX));refine this.mono (fun e w' h=>⟨h.1,?_⟩);rw[HF.out];rcases aeo h.2 HGe.out Qi.out with h|⟨h1,us,h2,h3⟩
  ·exact .inl h
  ·exact .inr ⟨_,_,us,aF.aef _ _ _ (aF.jZ x W) (aF.oF x W) (fun _ _ h=>h) h1 aB aB,h2,h3⟩)
 have Qe:=hid (fun(X:World) (hX:BL w5 X)=>EW W (by have:=ud.out;omega) _ _ X (VQ.out.next hX).sG);go_upto_region 5 with fail;obtain⟨vV,sD,sE,vW⟩:=M9 Rx.out;refine agf w5 9 (.quiet 0 (.quiet 1 (.quiet 2 (.one 3 (.one 4 (.quiet 5 (.quiet 6 (.quiet 7 (.quiet 8 .done))))))))) mxT (by kernel_rfl) fun wq HBq=>?_
 iterate 3
  refine ai rfl ?_
  intro hne
  go_big_quiet_step (fail)
  refine zWq ?_
  clear hne
 refine aH rfl ?_;go_wp2_with fail;refine(KJ.out wq HBq.out).mono ?_;rintro e w6 ⟨gf,rfl,hsf,lN⟩;have jC:=bq HBq lN;have ac6:=hid (sU.out w6 _ _ jC.out hsf.sl);clear hsf lN HBq;go_wp2_with fail;refine aC (BL w5) (fun _ h=>h) jC.out ?_;refine aH rfl ?_;go_wp2_with fail;refine ac6.out.mono ?_;rintro e w7 ⟨g,rfl,hsf,jM⟩;have adD:Hid (BL w5 w7):=hid (tnB jC.out jM);have R4:Hid (aP (fun _=>True) w7 (.slice (some ⟨g,0,none⟩) K K) (aF.bP x W)):=hid (aP.mono hsf.sl (fun _ _ _=>trivial));clear hsf jM ac6;go_wp2_with fail;refine aC (BL w5) (fun _ h=>h) adD.out ?_
 iterate 4
  refine ai rfl ?_
  intro hne
  go_big_quiet_step (fail)
  refine zWq ?_
  clear hne
 refine aL ?_;try simp only[zDs,zDz]
 clear vV sD sE vW;obtain⟨⟨y0,y1,y2,y3⟩, -⟩:=aO (ZR.out w7 adD.out);go_upto_region 6 with fail;go_wp2_with fail;refine(HFa.out w7 adD.out).mono ?_;rintro e w8 ⟨mK,hres⟩;have lP:Hid (BL w5 w8):=hid (tnB adD.out mK);have afG:=hid (aP.keep R4.out (aA.below mK));clear mK y0 y1 y2 y3;have h60:((6:Int) !=0)=true:=rfl;have h66:((6:Int)==6)=true:=rfl;rcases hres with⟨hno,rfl⟩|⟨s,rn,us,nU,rfl,pE⟩
 ·skip
  have Vn:=hid (Gp.out w8 _ _ _ lP.out HGl.out afG.out);generalize f (aF.bP x W)=cv at*;have hne:(cv !=nn)=true:=Nq hno;clear hno;go_upto_region 10 with fail;obtain⟨⟨y0,y1,y2,y3⟩, -⟩:=aO (ZR.out w8 lP.out);go_wp2_with fail;refine Vn.out.mono ?_;rintro e w9 ⟨rfl,Ce⟩;have uV:=bq lP Ce;clear Ce y0 y1 y2 y3;go_wp2_with fail;refine(HLi.out w9 uV.out).mono ?_;rintro e wv ⟨rfl,hbv⟩;have HBv:Hid (BL w wv):=hid (tnB Zj.out (tnB uV.out hbv));clear hbv;go_wp2;go_ret;exact⟨rfl,HBv.out⟩
 ·skip
  have Kl:=hid nU;have Rp:Hid (Sub.size s<=6):=hid (by have h1:Sub.size s<=ah.total W:=iE nU.fit;have:=ud.out;omega);have afH:s∈l:=(Rf.out.mem s).2 ⟨nU.fit,nU.valid⟩;have afr:=hid afH;have HSu:=hid (fun(X:World) (hX:BL w8 X)=>aP.keep pE (aA.below hX));have qY:Hid (∀X,BL w8 X->BL w5 X):=hid (fun X hX=>tnB lP.out hX)
  have sR:Hid (∀X,BL w8 X->CB 32 #[.agg (sBx x ak al ar ck cl cr),.slice aw K cw,.slice ap np cp,.int .i64 200,us] X (.int .i64 nn)):=hid (fun X hX=>by
   have:=Gp.out X s us _ (qY.out X hX) afr.out (HSu.out X hX);rw[show f s=nn from Kl.out.code] at this;exact this)
  have HVl:Hid (∀X,BL w8 X->CB 33 #[.agg (sBx x ak al ar ck cl cr),.slice aw K cw,us] X (.bool true)):=hid (fun X hX=>by
   have:=Jm x W s (f9 Vv.out Ps.out Kl.out.fit) _ _ us _ tb _ X (VQ.out.next (qY.out X hX)) (HSu.out X hX);rw[show Sub.valid (aF.wrong (aF.bT x) W) s=true from Kl.out.valid] at this;exact this)
  have HWi:Hid (∀X,BL w8 X->CB 37 #[us,.slice (some ⟨g,0,none⟩) K K] X (.bool true)):=hid (fun X hX=>
   (adT (aF.shape W) s (aF.bP x W) Kl.out.fit (aF.jZ x W) us _ _ _ X (HSu.out X hX) (aP.keep afG.out (aA.below hX))).mono (fun e w' h=>by
    obtain⟨z,rfl,hz,rfl⟩:=h;have:z=true:=hz.2 Kl.out.le;subst this;exact⟨rfl,aj⟩))
  have TF:Hid (∀X,BL w8 X->CB 38 #[us] X (.int .i64 (Sub.size s:Nat))):=hid (fun X hX=>nO s (by have:=Rp.out;omega) us _ X (HSu.out X hX));have hsz:Sub.size s<=6:=Rp.out;have hrn:1+Sub.size s<=rn:=nU.runs;obtain⟨sz,afI⟩:=nmE (Sub.size s);rw[<-afI] at TF hsz hrn;have hrs1:(sz:Int)<=64:=by omega
  have OJ:¬((rn:Int)<1+(sz:Int)):=by omega
  have XS:Hid (∀X (k i:Nat),BL w8 X->Sub.keeps s k i=true->CP 41 #[.agg (sBx x ak al ar ck cl cr),.slice aw K cw,us,.agg #[.int .i64 (k:Int),.int .i64 (i:Int)]] X fun e w'=>∃g,e=.returned (.tuple #[.slice (some ⟨g,0,none⟩) K K,.int .i64 0])/\gN (X.heap.size<=·) w' (.slice (some ⟨g,0,none⟩) K K) (Sub.without (aF.wr x W) s k i)/\BL X w'):=hid (fun X k i hX hki=>by
   have:=uK x W s (f9 Vv.out Ps.out Kl.out.fit) k i hki _ _ us _ tb _ X (VQ.out.next (qY.out X hX)) (HSu.out X hX);rw[<-Gh.out] at this;exact this)
  have HCw:Hid (∀X (k i:Nat) t U,BL w8 X->Sub.keeps s k i=true->aP U X t (Sub.without (aF.wr x W) s k i)->∃cv,cv≠nn/\Calls Tryz.prog 32 #[.agg (sBx x ak al ar ck cl cr),.slice aw K cw,.slice ap np cp,.int .i64 200,t] X fun e w'=>e=.returned (.int .i64 cv)/\BL X w'):=hid (fun X k i t U hX hki ht=>
   ⟨_,Kl.out.rest (k,i) (Sub.cO.2 hki),Gp.out X _ t U (qY.out X hX) ((Rf.out.mem _).2 ⟨Sub.nD (Sub.iU Kl.out.fit _ _),Sub.kF (Sub.iU Kl.out.fit _ _)⟩) ht⟩)
  obtain⟨as',cs',rfl, -⟩:=pE.form;obtain⟨ss,hss⟩:=nmE s.length;rw[<-hss] at HSu sR HVl HWi TF XS ⊢;clear hss pE nU afH hsz hrn afI;have hnn:(nn !=nn)=false:=by simp
  have h00:((0:Int) !=0)=false:=rfl;go_upto_region 11 with fail;obtain⟨⟨y0,y1,y2,y3⟩, -⟩:=aO (ZR.out w8 lP.out);go_wp2_with fail;refine(sR.out w8 aj).mono ?_;rintro e w9 ⟨rfl,hbz⟩;have uV:Hid (BL w8 w9):=hid ((aj:BL w8 w8).trans (hbz.mono (aj:BL w8 w8).size));clear hbz;clear y0 y1 y2 y3;obtain⟨⟨y0,y1,y2,y3⟩, -⟩:=aO (ZR.out w9 (qY.out w9 uV.out));go_wp2_with fail;refine(HVl.out w9 uV.out).mono ?_;rintro e gX ⟨rfl,hbz⟩;have tX:=bq uV hbz;clear hbz;clear y0 y1 y2 y3;go_wp2_with fail;refine(HWi.out gX tX.out).mono ?_;rintro e qF ⟨rfl,hbz⟩;have Tp:=bq tX hbz;clear hbz;go_wp2_with fail;refine(TF.out qF Tp.out).mono ?_;rintro e D2 ⟨rfl,hbz⟩;have afJ:=bq Tp hbz;clear hbz;go_upto_region 13 with fail;go_wp2_with fail;refine(Qe.out D2 (qY.out D2 afJ.out)).mono ?_;rintro e w13 ⟨ur,rfl,hat,afK⟩;have pT:=hid (yA.of hat);obtain⟨nr,sx⟩:=nmE ((jc W).length)
  have hnr6:nr<=6:=by
   rw[sx];have:=vw W W.length aB;rw[List.take_length] at this;have h2:=ud.out;show (ji W W.length).length<=6
   omega
  obtain⟨ac,cc,rfl,hsr⟩:∃ac cc,ur=.slice ac nr cc/\dG ac nr:=by
   obtain⟨x1,x2,e,h1, -⟩:=hat.form;rw[<-sx] at e h1;exact⟨x1,x2,e,h1⟩
  have Gs:=hid sx;have HB13:=bq afJ afK;clear hat sx afK hrs1 OJ;go_wp2;go_loopw [19] (fun i wr=>∃n:Nat,n<=nr/\i=.int .i64 (n:Int)/\Hid (BL w13 wr)) (fun i _=>nr-(intOf i).toNat);case atStart=>exact⟨0,Nat.zero_le _,rfl,hid aj⟩
  case round=>
   obtain⟨n,hn,rfl,iP⟩:=hrel;have aeW:=bq HB13 iP.out;by_cases hlt:n<nr
   ·have hn0:(0:Int)<=(n:Int):=by omega
    have hn1:(n:Int)<(nr:Int):=by omega
    have hjn:n<(jc W).length:=by rw[<-Gs.out];exact hlt
    obtain⟨k,i,hz,mg,yq⟩:=JK hjn
    have VG:Hid (∀X,BL wr X->X.cell? ⟨aY ac,bC ac+n*2,none⟩=some (.int .i64 (k:Int))/\X.cell? ⟨aY ac,bC ac+n*2+1,none⟩=some (.int .i64 (i:Int))):=hid (fun X hX=>by
     have:=(pT.out.kept (fun b _ hl=>(tnB iP.out hX).block b hl)).cells hjn;rw[hz] at this;exact this)
    have Aj:=hid (Cz s k i (.slice as' ss cs') _ wr (HSu.out wr aeW.out));obtain⟨x0,x1⟩:=VG.out wr aj;obtain⟨bp,hbp⟩:=nmE (Sub.keeps s k i);rw[<-hbp] at Aj;have HBp:=hid hbp;clear hbp hz mg yq hjn;go_wp2_with fail;refine Aj.out.mono ?_;rintro e wy ⟨rfl,hby⟩;have WO:Hid (BL wr wy):=hid hby;have afb:=bq iP hby;have aeX:=bq aeW hby;clear hby x0 x1 Aj;cases bp
    ·go_wp2
     go_roundw;case rel=>exact⟨n+1,by omega,by go_num,afb⟩
     simp[intOf];omega
    ·have afL:=hid (fun X (hX:BL w8 X)=>XS.out X k i hX HBp.out.symm)
     have afM:=hid (fun X t U (hX:BL w8 X) ht=>HCw.out X k i t U hX HBp.out.symm ht);have Bj:=hqC wy ⟨aY ac,bC ac+n*2,none⟩ (.int .i64 (k:Int)) fun xh=>(VG.out xh.1 (tnB WO.out xh.2)).1;have hq1:=hqC wy ⟨aY ac,bC ac+n*2+1,none⟩ (.int .i64 (i:Int)) fun xh=>(VG.out xh.1 (tnB WO.out xh.2)).2;have Rx:Hid (∀V,BL wy V->V.heap[w1.heap.size]?=some (.cells (sBx x ak al ar ck cl cr) 27 (0,0))):=hid (fun V hV=>ZR.out V (qY.out V (tnB aeX.out hV)));obtain⟨vV,sD,sE,vW⟩:=M9 Rx.out;go_upto_region 18 with fail;refine agf wy 12 (.quiet 0 (.quiet 1 (.quiet 2 (.quiet 3 (.quiet 4 (.quiet 5 (.quiet 6 (.one 7 (.quiet 8 (.quiet 9 (.quiet 10 (.quiet 11 .done)))))))))))) mxT (by kernel_rfl) fun wq HBq=>?_
     iterate 7
      refine ai rfl ?_
      intro hne
      go_big_quiet_step (fail)
      refine zWq ?_
      clear hne
     refine aH rfl ?_;go_wp2_with fail;refine(afL.out wq (tnB aeX.out HBq.out)).mono ?_;rintro e wz ⟨g2,rfl,hsf,hbz⟩;have su:=bq HBq hbz;have afN:=bq aeX su.out;have afO:=bq afb su.out;obtain⟨cv,hcv,hcc⟩:=afM.out wz _ _ afN.out hsf.sl;have HCc:=hid hcc;have hne:(cv==nn)=false:=Dl hcv;clear hsf hbz hcv hcc HBq afL afM;go_wp2_with fail;refine aC (BL wy) (fun _ h=>h) su.out ?_
     iterate 4
      refine ai rfl ?_
      intro hne
      go_big_quiet_step (fail)
      refine zWq ?_
      clear hne
     refine aL ?_;try simp only[zDs,zDz]
     clear vV sD sE vW Bj hq1;go_upto_region 19 with fail;obtain⟨⟨y0,y1,y2,y3⟩, -⟩:=aO (ZR.out wz (qY.out wz afN.out));go_wp2_with fail;refine HCc.out.mono ?_;rintro e wv ⟨rfl,hbv⟩;have afP:=bq afO hbv;clear hbv y0 y1 y2 y3 HCc;go_wp2;go_roundw;case rel=>exact⟨n+1,by omega,by go_num,afP⟩
     simp[intOf];omega
   ·have aeu:Hid (BL w5 wr):=hid (qY.out wr aeW.out)
    obtain⟨⟨y0,y1,y2,y3⟩, -⟩:=aO (ZR.out wr aeu.out);go_upto_region 21 with fail;go_wp2_with fail;refine(ad1.out wr aeu.out).mono ?_;rintro e wa ⟨hba,hres⟩;have HBa:Hid (BL wr wa):=hid hba;have HB5a:=bq aeu hba;clear hba y0 y1 y2 y3;rcases hres with⟨hno,rfl⟩|⟨m,s0,hfc,D3,us0,um,uc,rfl,pE,hum,huc⟩
    ·exact absurd Kl.out.code (aF.adR hno s afr.out)
    ·obtain⟨hm,hls,hfs,hbf⟩:=adK hfc D3
     have hs0:=(Rf.out.mem s0).1 (by rw[<-hls];exact zGm _);obtain⟨j,hj,hjs⟩:=zMg.1 afr.out;have hjm:¬j<m:=fun h=>hbf j h (by rw[hjs];exact Kl.out.code)
     have hless:Sub.less (aF.shape W) s s0=false:=by
      rw[<-hjs,<-hls,Rf.out.less hj hm];exact decide_eq_false hjm
     have HLe:Hid (∀X,BL wa X->CB 34 #[.slice as' ss cs',us0] X (.bool false)):=hid (fun X hX=>by
      have:=nQ (aF.shape W) s s0 Kl.out.fit hs0.1 (by have:=Rp.out;omega) (by have:=iE hs0.1;have:=ud.out;omega) (by have:=Ej.out.1;simpa [aF.shape] using (by omega:W.length<=1000000)) (.slice as' ss cs') us0 _ _ X (HSu.out X (tnB aeW.out (tnB HBa.out hX))) (aP.keep pE (aA.below hX));rw[hless] at this;exact this)
     obtain⟨a0,q0,rfl, -⟩:=pE.form;obtain⟨am,cm,rfl, -⟩:=hum.form;obtain⟨ax,cx,rfl, -⟩:=(cF.sl huc).form;have RW:(l.take m).length=m:=by rw[zLt];omega
     have hlt2:((l.take m).map f).length=m:=by rw[zLm];exact RW
     rw[RW,hlt2];obtain⟨n0,hn0⟩:=nmE s0.length;rw[<-hn0] at HLe ⊢;clear hls hfs hbf hm hs0 hj hjs hjm hless pE hum huc RW hlt2 D3 hfc hn0;obtain⟨wb,hwb⟩:=nmE (wa.alloc (.cells #[.slice a0 n0 q0,.int .i64 nn,.slice am m cm,.slice ax m cx] 53));have HBb:Hid (Below wa.heap.size wa wb):=hid (by rw[hwb];exact aj.alloc aB _);have ae7:=bq HB5a HBb.out;have HY:Hid (wb.heap[wa.heap.size]?=some (.cells #[.slice a0 n0 q0,.int .i64 nn,.slice am m cm,.slice ax m cx] 53 (0,0))):=hid (by rw[hwb];exact zAn ..);have HWb:=hid hwb;clear hwb;go_upto_region 22 with fail;rw[<-HWb.out];obtain⟨⟨z0,z1,z2,z3⟩, -⟩:=aO HY.out;go_wp2_with fail;refine(HLe.out wb HBb.out).mono ?_;rintro e wc ⟨rfl,hbc⟩;have aev:=bq ae7 hbc;clear hbc z0 z1 z2 z3;go_wp2_with fail;refine(HLi.out wc aev.out).mono ?_;rintro e wv ⟨rfl,hbv⟩;have HBv:Hid (BL w wv):=hid (tnB Zj.out (tnB aev.out hbv));clear hbv;go_wp2;go_ret;exact⟨rfl,HBv.out⟩
end Go.Proofs.YtobgljfnfpolkaaGreatDoor
