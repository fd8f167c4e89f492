/- Part 13 of the walks and plain laws that the proof needs (packed). -/
import Derived.Test.YteiakkfdchnddaaGreatDoorCards
import Derived.Test.YteiakkfdchnddaaGreatDoorTie
import Derived.WalkKit
import Derived.ProofKit
import Derived.OpenShut
import Derived.Deep.DeepHandedRow
import Derived.Lib.LaidTab
import Derived.Stop.LaidErr
import Derived.MakeChecks
import Derived.LaidMore
import Derived.LaidSub
import Derived.Maps.OwnSet
import Derived.Deep.CutBlock
import Derived.Test.YteiakkfdchnddaaGreatDoorQ1
import Derived.Test.YteiakkfdchnddaaGreatDoorQ2
import Derived.Test.YteiakkfdchnddaaGreatDoorQ5
import Derived.Test.YteiakkfdchnddaaGreatDoorQ6
import Derived.Test.YteiakkfdchnddaaGreatDoorQ7
import Derived.Test.YteiakkfdchnddaaGreatDoorQ9
import Derived.Test.YteiakkfdchnddaaGreatDoorQ10
import Derived.Test.YteiakkfdchnddaaGreatDoorQ12
set_option linter.all false
set_option maxRecDepth 100000
set_option maxHeartbeats 8000000
namespace Go.Proofs.YteiakkfdchnddaaGreatDoor
open Go.RowKit
structure Mh(x:ah.bF)(W:ah.cG)(B0 bm:Nat)(out:List Sub.S)(v:Value)(w X:World):Prop where
 good:Sub.Good (aR.wr x W) (aR.shape W) (aR.gM x W) out
 row:fD B0 (fun b=>B0<=b/\b≠bm) X v out
 set:vq X bm out.length (out.map D5)
 ne:v.ownBlock≠some bm
 below:Below B0 w X
theorem Mh.next{x:ah.bF}{W:ah.cG}{B0 bm:Nat}{out:List Sub.S}{v:Value}{w X Y:World}(h:Mh x W B0 bm out v w X)(hB:B0<=X.heap.size)(hb:BL X Y):Mh x W B0 bm out v w Y:=
 ⟨h.good,h.row.next hb,h.set.keep (hb.block _ h.set.lt),h.ne,h.below.trans (hb.mono hB)⟩
theorem fD.down{B B':Nat}{E:Nat->Prop}{w:World}{v:Value}{xs:List Sub.S}(h:fD B E w v xs)(hB:B'<=B):fD B' E w v xs:=by
 obtain⟨us,⟨g1,g2⟩,h2,h3⟩:=h;refine⟨us,⟨g1,?_⟩,h2,h3⟩;rcases g2 with g2|⟨g,cap,cur,e,hb,r⟩
 ·exact .inl g2
 ·exact .inr ⟨g,cap,cur,e,Nat.le_trans hB hb,r⟩
abbrev Gl(B:Nat):=bC 2 OE (fun _=>False) B 146
theorem Gl.of{B:Nat}{w:World}{v:Value}{zs:List (Int×Int)}(h:Yo B w v zs):Gl B w v zs:=by
 obtain⟨jB,h1,h2,h3,h4⟩:=h;exact⟨jB,h1,h2,h3,fun j g1 g2=>h4 j g1 g2⟩
theorem Gl.kept{B:Nat}{w w':World}{v:Value}{zs:List (Int×Int)}(h:Gl B w v zs)(hk:∀b,v.ownBlock=some b->b<w.heap.size->w'.heap[b]?=w.heap[b]?):Gl B w' v zs:=
 h.keep eA (fun b hb hl=>hb.elim False.elim (fun e=>hk b e hl))
theorem Gl.cells{B:Nat}{w:World}{a:Option Addr}{n c:Nat}{zs:List (Int×Int)}(h:Gl B w (.slice a n c) zs){j:Nat}(hj:j<zs.length):
  w.cell? ⟨bD a,bJ a+j*2,none⟩=some (.int .i64 zs[j].1)/\w.cell? ⟨bD a,bJ a+j*2+1,none⟩=some (.int .i64 zs[j].2):=by
 obtain⟨-,us,h1,h2,h3⟩:=dO.at (bC.sl eA (T:=fun _=>True) h (fun _ _ _=>trivial) (fun _ _=>trivial)) hj;obtain rfl:us=_:=h3;exact⟨h2 0 _ rfl,h2 1 _ rfl⟩
theorem abF{p:Prop}(h:p:=by
  have ag3:¬(n:Int)<=(most:Int):=by omega
  have ag4:(most:Int)<(n:Int):=by omega
  have HLt:Hid (most<l.length):=hid zT79
  have Oy:=aJ bf nj.out
  go_wp2
  go_ret2
  exact⟨Oy.out,.inr ⟨HLt.out,rfl⟩⟩):p:=h
theorem VR(x:ah.bF)(W:ah.cG)(l:List Sub.S)(hl:aR.oA x W l)(hok:ah.okB x=true)(hfit:aR.eM x W=true)(xR:W.length<=1000/\∀r∈W,r.length<=1000000)(htot:ah.total W<=100000)(hll:l.length<=100000)(most:Nat)(hmost:most<=1000)
  (v u:Value)(tb B:Nat)(w:World)(ha:sS tb x W v u B w):
  Calls Tryz.prog 26 #[v,u,.int .i64 (most:Int)] w fun e w'=>BL w w'/\((l.length<=most/\∃a c,e=.returned (.tuple #[.slice a l.length c,.int .i64 0])/\fD w.heap.size (w.heap.size<=·) w' (.slice a l.length c) l)\/(most<l.length/\e=.returned (.tuple #[.slice none 0 0,.int .i64 4]))):=by
 have Mi:=hid xR;have HGf:=hid (aR.vh x W);have tY:=hid (iD (jF hok hfit (aR.l6 W))).1;obtain⟨ak,ck,al,cl,ar,cr,rfl, -⟩:=ha.Cv.form;obtain⟨w1,hw1⟩:=aV (di w x.aI (.slice ak x.ai.length ck) (.slice al x.aN.length cl) (.slice ar x.aO.length cr));have bf:=r9 hw1;have HX:=wv hw1;unfold di at hw1;have HW1:=hid hw1;have HZ1:Hid (w.heap.size<w1.heap.size):=hid tr;clear hw1;have HWl:=hid (fun(X:World) (hX:BL w X)=>(ha.next hX).A5);obtain⟨aw,cw,rfl, -, -, -⟩:=ha.A5.form;obtain⟨K,hK⟩:=aV W.length;have HFu:=hid (fun(X:World) (hX:BL w X)=>yI W Mi.out.1 Mi.out.2 _ _ X (HWl.out X hX));have NQ:=hid (fun(X:World) t U (hX:BL w X) (hs:cQ U X t (kV W))=>oP x W (kV W) (jF hok hfit (aR.l6 W)) _ _ t U tb B X (ha.next hX) hs);have HWo:=hid (fun(X:World) (s:Sub.S) (k i:Nat) t U (hX:BL w X) (hf:Sub.Fit (aR.shape W) s) (hk:Sub.keeps s k i=true) (hs:cQ U X t s)=>Gf x W s (jF hok hfit hf) k i hk _ _ t U tb B X (ha.next hX) hs);have Gs:=hid hl;have F5:=hid htot;have HLx:=hid hll;rw[<-hK] at HFu NQ HWo ⊢;have HK:=hid hK;clear hK ha hl hok hfit xR htot hll;have hmm:= @run_makeMap Tryz.prog;have hmo:(most:Int)<=1000:=by omega
 go_enter Tryz.func26,Tryz.ntmps26;go_upto_region 1 with fail;rw[<-HW1.out];obtain⟨l8,kL,l9,mR⟩:=MJ HX.out;refine dU 9 (.quiet 0 (.quiet 1 (.quiet 2 (.one 3 (.one 4 (.quiet 5 (.quiet 6 (.quiet 7 (.quiet 8 .done))))))))) (BL w1) lN (by kernel_rfl) (aG ay 1) ?_;have eC:Hid (BL w1 (w1.drewN 1)):=hid (aG ay 1);have bK:Hid (BL w (w1.drewN 1)):=hid (aG bf.out 1);generalize w1.drewN 1=w2 at*
 iterate 3 refine eB ?_
 refine aM rfl ?_;go_wp2_with fail;refine(HFu.out w2 bK.out).mono ?_;rintro e w3 ⟨gf,rfl,hsf,hb3⟩;have gj:=aJ eC hb3;have bZ:=aJ bK hb3;have Js:=hid (NQ.out w3 _ _ bZ.out hsf.sl);clear hsf hb3 eC bK;go_wp2_with fail;refine aD (BL w1) (fun _ h=>h) gj.out ?_;refine aM rfl ?_;go_wp2_with fail;refine Js.out.mono ?_;rintro e w4 ⟨g,rfl,hsf,hb4⟩;have jM:=aJ gj hb4;have f9:=aJ bZ hb4;have ZK:Hid (mz (w1.heap.size<=·) w4 (.slice (some ⟨g,0,none⟩) K K) (aR.gM x W)):=hid (dP.mono (S':=(w1.heap.size<=·)) hsf (fun b _ hb=>Nat.le_trans gj.out.size hb));clear hsf hb4 gj bZ Js;go_wp2_with fail;refine aD (BL w1) (fun _ h=>h) jM.out ?_
 iterate 4 refine eB ?_
 refine aT ?_;try simp only[iW,iX]
 clear l8 kL l9 mR;have Ng:=f9.out.size;have ye:Hid (cQ (w1.heap.size<=·) w4 (.slice (some ⟨g,0,none⟩) K K) (aR.gM x W)):=hid ZK.out.sl;obtain⟨w5,mq⟩:=aV (w4.alloc (.map #[] 0));have jR:BL w4 w5:=by rw[mq];exact ay.alloc aH _
 have abG:Hid (vq w5 w4.heap.size 0 []):=hid (by rw[mq];exact vq.made w4);have jQ:=aJ jM jR;have fF:=aJ f9 jR;have yg:Hid (cQ (fun b=>w1.heap.size<=b/\b<w4.heap.size) w5 (.slice (some ⟨g,0,none⟩) K K) (aR.gM x W)):=hid (cQ.keep (cQ.mono (S':=fun b=>w1.heap.size<=b/\b<w4.heap.size) ye.out (fun b hb h=>⟨h,hb⟩)) (aB.aQ jR (fun b h=>h.2)));have ag5:=hid (NR (aR.gM x W) (by rw[aR.vz HGf.out];exact F5.out) _ _ w5 yg.out);have AZ:=hid mq;clear mq jR ye ZK;go_upto_region 4 with fail;have Rk:w4.heap.size<w5.heap.size:=by rw[AZ.out];simp
 go_wp2_with fail;rw[<-AZ.out];refine ag5.out.mono ?_;rintro e w6 ⟨rfl,tX⟩;have BW:=aJ jQ tX;have jS:=aJ fF tX;have hz6:=tX.size;have abH:=hid (abG.out.keep (tX.block _ Rk));have HS6:=hid (cQ.keep yg.out (aB.aQ tX (fun b h=>Nat.lt_trans h.2 Rk)));obtain⟨w7,hrun,abI,rI⟩:=abH.out.put aC (t:=D5 (aR.gM x W)) (by rw[Jr HGf.out];have:=F5.out;omega);have VT:(Instr.mapUpdate 142 (.map (some w4.heap.size)) (.string (Az (aR.gM x W))) (.bool true)).run Tryz.prog w6=.ok () w7:=hrun;have VU:=hid abI;have VW:=rI.below (B:=w4.heap.size) aC (fun b e=>Nat.le_of_eq e.symm);have Dt:Hid (BL w1 w7):=hid (BW.out.trans (VW.mono jM.out.size));have lM:Hid (BL w w7):=hid (jS.out.trans (VW.mono f9.out.size));have HS7:=hid (cQ.keep HS6.out (aB.aQ VW (fun b h=>h.2)));have hz7:=VW.size;clear hrun abI rI tX VW abH abG yg HS6 ag5;generalize Az (aR.gM x W)=kb at*;go_wp2;obtain⟨w8,hw8⟩:=aV (w7.alloc (.cells #[.slice (some ⟨g,0,none⟩) K K] 61));have oU:BL w7 w8:=by rw[hw8];exact ay.alloc aH _
 have Q0:Hid (Mh x W w1.heap.size w4.heap.size [aR.gM x W] (.slice (some ⟨w7.heap.size,0,none⟩) 1 1) w1 w8):=hid
  ⟨aR.vw x W,by rw[hw8];exact fD.one Dt.out.size (cQ.mono HS7.out (fun b _ h=>⟨h.1,Nat.ne_of_lt h.2⟩)) rfl,VU.out.keep (oU.block _ VU.out.lt),fun e=>by have h8:w7.heap.size=w4.heap.size:=qf e;omega,cO Dt.out oU⟩
 have J6:=aJ Dt oU;have hz8:=oU.size;have M5:=hid hw8;clear hw8 oU HS7 VU Dt lM VT BW jS jQ fF AZ;rw[<-M5.out];clear M5;obtain⟨bm,hbm⟩:=aV w4.heap.size;have HZm:Hid (w1.heap.size<=bm):=hid (by rw[hbm];exact jM.out.size);have Te:Hid (bm<w8.heap.size):=hid (by rw[hbm];omega);rw[<-hbm] at Q0 ⊢;clear hbm Ng Rk hz6 hz7 hz8 jM f9;go_loopw [12,11] (fun ii vv wr=>∃(i n:Nat) (out:List Sub.S) (oa:Option Addr) (oc:Nat),i<=n/\ii=.int .i64 (i:Int)/\vv=.slice oa n oc/\Hid (out.length=n)/\Hid (Sub.Done (aR.wr x W) out i)/\Hid (Mh x W w1.heap.size bm out (.slice oa n oc) w1 wr)) (fun ii _ _=>100001-(intOf ii).toNat);case atStart=>exact⟨0,1,_,_,_,Nat.zero_le _,rfl,rfl,hid rfl,hid (Sub.Fh _ _),Q0⟩
 case round=>
  obtain⟨i,n,out,oa,oc,hin,rfl,rfl,Ea,HDn,HI⟩:=hrel;have nj:=hid HI.out.below
  obtain⟨hso,hoc,hom⟩:dI oa n/\n<=oc/\oc<=9223372036854775807:=by
   obtain⟨_,_,e,h1,h2,h3⟩:=HI.out.row.form;cases e;rw[Ea.out] at h1 h2;exact⟨h1,h2,h3⟩
  have hn5:n<=100000:=by
   have h1:=Gs.out.Fz HI.out.good;have h2:=HLx.out;rw[Ea.out] at h1;omega
  by_cases hlt:i<n
  ·have hi0:(0:Int)<=(i:Int):=by omega
   have hi1:(i:Int)<(n:Int):=by omega
   by_cases hnm:n<=most
   ·have ag3:(n:Int)<=(most:Int):=by omega
    have ag4:¬(most:Int)<(n:Int):=by omega
    have hio:i<out.length:=by rw[Ea.out];exact hlt
    have UO:=hid (HI.out.good.fit _ (gY hio));obtain⟨u,hu1,lF⟩:=HI.out.row.sl.rA hio;obtain⟨s,hs⟩:=aV (out[i]);rw[<-hs] at UO hu1;have hsl:s.length=K:=by rw[HK.out,UO.out.1];exact FD _
    obtain⟨ga,gc,rfl,hga, -, -⟩:=hu1.form;rw[hsl] at hga lF;have x0:=lF wr (fun _ _ _=>rfl);have HKe:=hid (fun(X:World) (hX:BL wr X)=>Qx s (by have:=nQ UO.out;have:=F5.out;omega) _ _ X (hu1.keep (aB.below hX)));rw[hsl] at HKe;have aec:=hid (HKe.out wr ay);have HSi:=hid hs;have NP:=hid hsl;obtain⟨m,hm⟩:=aV ((Sub.kept s).length);rw[<-hm] at aec;have HM:=hid hm
    have Kk:m<=100000:=by
     have h1:=nQ UO.out;have h2:=F5.out;unfold Sub.size at h1;omega
    clear hu1 lF hs hsl hm HKe;go_wp2_with fail;refine aec.out.mono ?_;rintro e wk ⟨ka,kc,rfl,aed,hbk⟩;have HIk:=hid (HI.out.next HI.out.below.size hbk);have HAk:=hid (Gl.of aed);have Y8:=aJ nj hbk
    have hok:dI ka m:=by
     obtain⟨_,_,e,h1, -⟩:=aed.form;cases e;rw[pZ,<-HM.out] at h1;exact h1
    have Rs:Hid (∀b,(Value.slice oa n oc).ownBlock=some b->(Value.slice ka m kc).ownBlock≠some b):=hid (fun b h1 h2=>by
     have h3:=(HI.out.row.lt b h1).2;have h4:=(HAk.out.lt b h2).1;omega)
    have HBm:Hid ((Value.slice ka m kc).ownBlock≠some bm):=hid (fun h2=>by
     have h3:=HI.out.set.lt;have h4:=(HAk.out.lt bm h2).1;omega)
    have HOs:Hid (∃ms,out=out++ms):=hid ⟨[],by simp⟩;have rJ:Hid (out=Sub.iR (aR.wr x W) s ((Sub.kept s).take 0) out):=hid rfl;clear aed hbk x0 aec;go_wp2;generalize Ry:wr=Wb at*;go_loopw [53,11] (fun jj vv wr=>∃(j n2:Nat) (om:List Sub.S) (oa:Option Addr) (oc:Nat),j<=m/\jj=.int .i64 (j:Int)/\vv=.slice oa n2 oc/\Hid (om.length=n2)/\Hid (om=Sub.iR (aR.wr x W) s ((Sub.kept s).take j) out)/\Hid (Mh x W w1.heap.size bm om (.slice oa n2 oc) w1 wr)/\Hid (Gl Wb.heap.size wr (.slice ka m kc) (pY (Sub.kept s)))/\Hid (∀b,(Value.slice oa n2 oc).ownBlock=some b->(Value.slice ka m kc).ownBlock≠some b)) (fun jj _ _=>m-(intOf jj).toNat);case atStart=>exact⟨0,n,out,oa,oc,Nat.zero_le _,rfl,rfl,Ea,rJ,HIk,HAk,Rs⟩
    case round=>
     obtain⟨j,n2,om,oa2,oc2,hj,rfl,rfl,D6,DX,HI2,uG,Dl⟩:=hrel;have eC:=hid HI2.out.below;by_cases hjt:j<m
     ·have hj0:(0:Int)<=(j:Int):=by omega
      have hj1:(j:Int)<(m:Int):=by omega
      obtain⟨hso2,hoc2,hom2⟩:dI oa2 n2/\n2<=oc2/\oc2<=9223372036854775807:=by
       obtain⟨_,_,e,h1,h2,h3⟩:=HI2.out.row.form;cases e;rw[D6.out] at h1 h2;exact⟨h1,h2,h3⟩
      have hn25:n2<=100000:=by
       have h1:=Gs.out.Fz HI2.out.good;have h2:=HLx.out;rw[D6.out] at h1;omega
      obtain⟨ag6,aee⟩:i<n2/\om[i]?=some s:=by
       obtain⟨ms,hms⟩:=Sub.kU (W:=aR.wr x W) (s:=s) ((Sub.kept s).take j) out;rw[<-DX.out] at hms;refine⟨by rw[<-D6.out,hms,rG];omega,?_⟩;rw[hms,List.getElem?_append_left hio,kK hio,HSi.out]
      have hin3:(i:Int)<(n2:Int):=by omega
      have ag7:i<om.length:=by rw[D6.out];exact ag6
      obtain⟨u,hu1,lF⟩:=HI2.out.row.sl.rA ag7;rw[kK ag7] at aee;rw[qf aee] at hu1;obtain⟨ga,gc,rfl,hga, -, -⟩:=hu1.form;rw[NP.out] at hga lF;have HV1:=hid hu1;rw[NP.out] at HV1;have Pt:=hid lF;have hjk:j<(Sub.kept s).length:=by rw[<-HM.out];exact hjt
      obtain⟨c0,c1⟩:=uG.out.cells (j:=j) (by rw[pZ];exact hjk);have hkm:(Sub.kept s)[j]∈Sub.kept s:=gY hjk;have hcp:(pY (Sub.kept s))[j]'(by rw[pZ];exact hjk)=(((Sub.kept s)[j].1:Int),((Sub.kept s)[j].2:Int)):=by simp[pY]
      rw[hcp] at c0 c1;have Av:Hid ((Sub.kept s).take (j+1)=(Sub.kept s).take j++[(Sub.kept s)[j]]):=hid (Gu hjk);generalize (Sub.kept s)[j]=q at*;obtain⟨k,i'⟩:=q;simp only at c0 c1;have Du:Hid (Sub.keeps s k i'=true):=hid (Sub.dX.1 hkm);have HSn:Hid (Sub.iR (aR.wr x W) s ((Sub.kept s).take (j+1)) out=if Sub.without (aR.wr x W) s k i'∈om then om else om++[Sub.without (aR.wr x W) s k i']):=hid (by rw[Av.out,Sub.CG,<-DX.out]);obtain⟨w9,Xh⟩:=aV (wr.alloc (.cells #[.int .i64 (k:Int),.int .i64 (i':Int)] 146));have Bm:BL wr w9:=by rw[Xh];exact ay.alloc aH _
      have VX:Hid (w9.heap[wr.heap.size]?=some (.cells #[.int .i64 (k:Int),.int .i64 (i':Int)] 146 (0,0))):=hid (by rw[Xh];exact aP _ _ rfl);have HI9:=hid (HI2.out.next HI2.out.below.size Bm);have HA9:=hid (uG.out.kept (fun b _ hl=>Bm.block b hl));have EY:=aJ eC Bm;have Bv:Hid (BL wr w9):=hid Bm;have HW9:=hid Xh;clear Xh Bm hu1 lF hcp hkm aee;go_upto_region 12 with fail;rw[<-HW9.out];clear c0 c1;have l8:=dL w9 ⟨w.heap.size,0,none⟩ (.int .i64 x.aI) fun xh=>(aW (HX.out xh.1 (cO EY.out xh.2))).1.1;have kL:=dL w9 ⟨w.heap.size,1,none⟩ (.slice ak x.ai.length ck) fun xh=>(aW (HX.out xh.1 (cO EY.out xh.2))).1.2.1;have l9:=dL w9 ⟨w.heap.size,2,none⟩ (.slice al x.aN.length cl) fun xh=>(aW (HX.out xh.1 (cO EY.out xh.2))).1.2.2.1;have mR:=dL w9 ⟨w.heap.size,3,none⟩ (.slice ar x.aO.length cr) fun xh=>(aW (HX.out xh.1 (cO EY.out xh.2))).1.2.2.2;have Co:=dL w9 ⟨wr.heap.size,0,none⟩ (.int .i64 (k:Int)) fun xh=>(qH ((xh.2.block _ (aj VX.out)).trans VX.out)).1.1;have Cp:=dL w9 ⟨wr.heap.size,1,none⟩ (.int .i64 (i':Int)) fun xh=>(qH ((xh.2.block _ (aj VX.out)).trans VX.out)).1.2;have hqr:=dL w9 ⟨bD oa2,bJ oa2+i,none⟩ (.slice ga K gc) fun xh=>Pt.out xh.1 (aB.below (cO Bv.out xh.2));refine sQ w9 12 (.quiet 0 (.quiet 1 (.quiet 2 (.quiet 3 (.quiet 4 (.quiet 5 (.quiet 6 (.one 7 (.quiet 8 (.quiet 9 (.quiet 10 (.quiet 11 .done)))))))))))) lN (by kernel_rfl) fun oh BV=>?_;have BU:Hid (BL w oh):=hid (cO bf.out (cO EY.out BV.out));have HCa:=hid (HWo.out oh s k i' _ _ BU.out UO.out Du.out (cQ.keep HV1.out (aB.below (cO Bv.out BV.out))))
      iterate 7 refine eB ?_
      refine aM rfl ?_;go_wp2_with fail;refine HCa.out.mono ?_;rintro e Tw ⟨g2,rfl,hsf,Pv⟩;have La:=aJ BV Pv;have HSf:Hid (cQ (fun b=>oh.heap.size<=b/\b<Tw.heap.size) Tw (.slice (some ⟨g2,0,none⟩) K K) (Sub.without (aR.wr x W) s k i')):=hid (cQ.mono hsf.sl (fun b hb h=>⟨h,hb⟩));have hz10:=BV.out.size;have hz11:=Pv.size;clear hsf Pv HCa;go_wp2_with fail;refine aD (BL w9) (fun _ h=>h) La.out ?_
      iterate 4 refine eB ?_
      refine aT ?_;try simp only[iW,iX]
      clear l8 kL l9 mR Co Cp hqr;have HFt:Hid (Sub.Fit (aR.shape W) (Sub.without (aR.wr x W) s k i')):=hid (Sub.yt (Sub.pP UO.out k i'));have HVt:Hid (Sub.valid (aR.wr x W) (Sub.without (aR.wr x W) s k i')=true):=hid (Sub.sC (Sub.pP UO.out k i'));generalize Sub.without (aR.wr x W) s k i'=t at*;have RD:=hid (NR t (by rw[aR.vz HFt.out];exact F5.out) _ _ Tw HSf.out);have aef:=hid (HI9.out.next HI9.out.below.size La.out);have ag8:=hid (HA9.out.kept (fun b _ hl=>La.out.block b hl));have ag9:=aJ EY La.out;have aha:Hid (bm<oh.heap.size):=hid (by have h1:=HI9.out.set.lt;omega);have HOl:Hid (∀b,(Value.slice oa2 n2 oc2).ownBlock=some b->b<oh.heap.size):=hid (fun b hb=>by have h1:=(HI9.out.row.lt b hb).2;omega);have yD:Hid (w1.heap.size<=oh.heap.size):=hid (by have h1:=EY.out.size;omega);clear La BV BU EY HA9 HI9 eC uG HI2 Bv VX;go_wp2_with fail;refine RD.out.mono ?_;rintro e w12 ⟨rfl,Au⟩;have D7:=hid (aef.out.next aef.out.below.size Au);have ahb:=hid (ag8.out.kept (fun b _ hl=>Au.block b hl));have ahc:=aJ ag9 Au;have HS12:=hid (cQ.keep HSf.out (aB.aQ Au (fun b h=>h.2)));have agb:=Au.size;clear Au RD aef ag8 ag9 HSf;have Nf:(D5 t).length<=1000000:=by rw[Jr HFt.out];have:=F5.out;omega
      have hlk:(Instr.lookup 142 (.map (some bm)) (.string (Az t)) false).run Tryz.prog w12=.ok (.bool (decide (D5 t∈om.map D5))) w12:=D7.out.set.look Nf;rw[VQ D7.out.good.fit HFt.out] at hlk;by_cases hmem:t∈om
      ·rw[decide_eq_true hmem] at hlk
       have aeg:Hid (om=Sub.iR (aR.wr x W) s ((Sub.kept s).take (j+1)) out):=hid (by rw[HSn.out,if_pos hmem]);generalize Az t=kt at*;clear hmem;go_wp2;go_roundw;case rel=>exact⟨j+1,n2,om,oa2,oc2,by omega,by go_num,rfl,D6,aeg,D7,ahb,Dl⟩
       simp[intOf];omega
      ·rw[decide_eq_false hmem] at hlk
       have aeg:Hid (om++[t]=Sub.iR (aR.wr x W) s ((Sub.kept s).take (j+1)) out):=hid (by rw[HSn.out,if_neg hmem]);have HG2:Hid (Sub.Good (aR.wr x W) (aR.shape W) (aR.gM x W) (om++[t])):=hid (D7.out.good.snoc HFt.out HVt.out hmem);obtain⟨w13,hrun,VY,ZL⟩:=D7.out.set.put (by rw[D6.out];omega) (t:=D5 t) Nf;have VT:(Instr.mapUpdate 142 (.map (some bm)) (.string (Az t)) (.bool true)).run Tryz.prog w12=.ok () w13:=hrun;have Mj:=hid VY;have NT:∀b,b<w12.heap.size->b≠bm->w13.heap[b]?=w12.heap[b]?:=fun b hb hne=>ZL.block b hne hb;have Mk:Hid (fD w1.heap.size (fun b=>w1.heap.size<=b/\b≠bm) w13 (.slice oa2 n2 oc2) om):=hid (D7.out.row.kept (fun b hb h=>NT b hb (h.elim (fun h e=>D7.out.ne (by rw[<-e];exact h)) (fun h=>h.2))));have ahd:Hid (BL w1 w13):=hid (ahc.out.trans (ZL.below ahc.out.size (fun b e=>by rw[e];exact HZm.out)));have ahe:=hid (ahb.out.kept (fun b hb hl=>NT b hl (fun e=>HBm.out (by rw[<-e];exact hb))));have hbs:=D7.out.set.lt;have VZ:=D7.out.ne;have HS13:=hid (cQ.keep HS12.out (fun b h hl=>NT b hl (fun e=>by have h1:=h.1;have h2:=aha.out;omega)));have hz13:=ZL.size;have hown:=D7.out.row.lt;clear hrun VY ZL NT hmem;generalize Az t=kt at*;have ahf:Hid (cQ (fun b=>(w1.heap.size<=b/\b≠bm)/\(Value.slice oa2 n2 oc2).ownBlock≠some b) w13 (.slice (some ⟨g2,0,none⟩) K K) t):=hid (cQ.mono HS13.out (fun b _ h=>⟨⟨Nat.le_trans yD.out h.1,fun e=>by have h1:=h.1;have h2:=aha.out;omega⟩,fun e=>by have h1:=h.1;have h2:=HOl.out b e;omega⟩));have ahg:om.length+1<=1000000000:=by rw[D6.out];omega
       have abJ:Hid ((om++[t]).length=n2+1):=hid (by rw[rG,D6.out];rfl);have ahh:w1.heap.size<=w13.heap.size:=ahd.out.size;go_wp2_with (at_builtin;go_must (refine CF rfl _ _ rfl Tryz.aeb rfl Mk.out rfl t ahf.out rfl ahg ahh ?_));intro v' w14 hrow ZM hnb;obtain⟨fa,fc,hv, -⟩:=hrow.form;rw[abJ.out] at hv;subst hv
       have HI14:Hid (Mh x W w1.heap.size bm (om++[t]) (.slice fa (n2+1) fc) w1 w14):=hid ⟨HG2.out,hrow,by
         have h1:=Mj.out.keep (ZM.block bm VZ Mj.out.lt)
         rw[rG,List.map_append]
         exact h1,fun e=>(hnb bm e).elim VZ (fun h=>by have:=Mj.out.lt;omega),ahd.out.trans (ZM.below ahh (fun b hb=>(Mk.out.lt b hb).1))⟩
       have HA14:=hid (ahe.out.kept (fun b hb hl=>ZM.block b (fun e=>Dl.out b e hb) hl));have HN14:Hid (∀b,(Value.slice fa (n2+1) fc).ownBlock=some b->(Value.slice ka m kc).ownBlock≠some b):=hid (fun b h1 h2=>(hnb b h1).elim (fun h=>Dl.out b h h2) (fun h=>by have:=(ahe.out.lt b h2).2;omega));clear hrow ZM hnb Mk ahf VT hlk;go_wp2;go_roundw;case rel=>exact⟨j+1,n2+1,om++[t],fa,fc,by omega,by go_num,rfl,abJ,aeg,HI14,HA14,HN14⟩
       simp[intOf];omega
     ·obtain rfl:m=j:=by omega
      have HDn2:Hid (Sub.Done (aR.wr x W) om (i+1)):=hid (by
       rw[DX.out,HM.out,List.take_length,HSi.out]
       exact Sub.EB HDn.out hio)
      have ag6:i<n2:=by
       obtain⟨ms,hms⟩:=Sub.kU (W:=aR.wr x W) (s:=s) ((Sub.kept s).take m) out;rw[<-DX.out] at hms;rw[<-D6.out,hms,rG];omega
      go_wp2;go_roundw;case rel=>exact⟨i+1,n2,om,oa2,oc2,by omega,by go_num,rfl,D6,HDn2,HI2⟩
      simp[intOf];omega
   ·exact abF
  ·obtain rfl:n=i:=by omega
   by_cases hnm:n<=most
   ·have ag3:(n:Int)<=(most:Int):=by omega
    have ag4:¬(most:Int)<(n:Int):=by omega
    have HSo:=hid (VP (aR.shape W) (by rw[show (aR.shape W).length=W.length from FD _];have:=Mi.out.1;omega) w1.heap.size _ wr oa n oc out HI.out.row (fun s hs=>⟨HI.out.good.fit s hs,by have h1:=nQ (HI.out.good.fit s hs);have h2:=F5.out;omega⟩) (by rw[Ea.out];omega));go_wp2_with fail;refine HSo.out.mono ?_;rintro e w9 ⟨rfl,ys,hp,hpw,hrow,Bt⟩;have hyl:=Gs.out.ZJ HI.out.good (by rw[Ea.out];exact HDn.out) hp hpw;have hln:n=l.length:=by rw[<-hyl,hp.length_eq,Ea.out]
    rw[hyl] at hrow;have HRw:Hid (fD w.heap.size (w.heap.size<=·) w9 (.slice oa n oc) l):=hid ((hrow.down bf.out.size).mono (fun b _ h=>Nat.le_trans bf.out.size h.1));have Oy:Hid (BL w w9):=hid (bf.out.trans ((nj.out.trans (Bt.below nj.out.size (fun b hb=>(HI.out.row.lt b hb).1))).mono bf.out.size));have mZ:=hid hln;clear hyl hln hp hpw hrow Bt HSo;go_wp2;go_ret2;exact⟨Oy.out,.inl ⟨by rw[<-mZ.out];exact hnm,oa,oc,by rw[<-mZ.out];rfl,by rw[<-mZ.out];exact HRw.out⟩⟩
   ·exact abF
theorem CJ(x:ah.bF)(W:ah.cG)(l:List Sub.S)(hl:aR.oA x W l)(hok:ah.okB x=true)(hfit:aR.eM x W=true)(xR:W.length<=1000/\∀r∈W,r.length<=1000000)(htot:ah.total W<=100000)(hll:l.length<=100000)(most:Int)
  (v u:Value)(tb B:Nat)(w:World)(ha:sS tb x W v u B w):
  Calls Tryz.prog 9 #[v,u,.int .i64 most] w fun e w'=>BL w w'/\((most<0\/400<most)/\e=.returned (.tuple #[.slice none 0 0,.int .i64 5])\/
   (0<=most/\most<=400/\((l.length<=most/\∃a c,e=.returned (.tuple #[.slice a l.length c,.int .i64 0])/\fD w.heap.size (w.heap.size<=·) w' (.slice a l.length c) l)\/(most<l.length/\e=.returned (.tuple #[.slice none 0 0,.int .i64 4]))))):=by
 have Mi:=hid xR;have HGf:=hid (aR.vh x W);have tY:=hid (iD (jF hok hfit (aR.l6 W))).1;obtain⟨ak,ck,al,cl,ar,cr,rfl, -⟩:=ha.Cv.form;obtain⟨w1,hw1⟩:=aV (di w x.aI (.slice ak x.ai.length ck) (.slice al x.aN.length cl) (.slice ar x.aO.length cr));have bf:=r9 hw1;have HX:=wv hw1;unfold di at hw1;have HW1:=hid hw1;have HZ1:Hid (w.heap.size<w1.heap.size):=hid tr;clear hw1;have HWl:=hid (fun(X:World) (hX:BL w X)=>(ha.next hX).A5);obtain⟨aw,cw,rfl, -, -, -⟩:=ha.A5.form;obtain⟨K,hK⟩:=aV W.length;have HFu:=hid (fun(X:World) (hX:BL w X)=>yI W Mi.out.1 Mi.out.2 _ _ X (HWl.out X hX));have NQ:=hid (fun(X:World) t U (hX:BL w X) (hs:cQ U X t (kV W))=>oP x W (kV W) (jF hok hfit (aR.l6 W)) _ _ t U tb B X (ha.next hX) hs);have Me:=hid (fun(X:World) (mn:Nat) (hmn:mn<=1000) (hX:BL w X)=>VR x W l hl hok hfit xR htot hll mn hmn _ _ tb B X (ha.next hX));rw[<-hK] at HFu NQ Me ⊢;have HK:=hid hK;clear hK ha hl hok hfit xR htot hll;go_enter Tryz.func9,Tryz.ntmps9;go_upto_region 1 with fail;rw[<-HW1.out];obtain⟨l8,kL,l9,mR⟩:=MJ HX.out;refine dU 9 (.quiet 0 (.quiet 1 (.quiet 2 (.one 3 (.one 4 (.quiet 5 (.quiet 6 (.quiet 7 (.quiet 8 .done))))))))) (BL w1) lN (by kernel_rfl) (aG ay 1) ?_;have eC:Hid (BL w1 (w1.drewN 1)):=hid (aG ay 1);have bK:Hid (BL w (w1.drewN 1)):=hid (aG bf.out 1);generalize w1.drewN 1=w2 at*
 iterate 3 refine eB ?_
 refine aM rfl ?_;go_wp2_with fail;refine(HFu.out w2 bK.out).mono ?_;rintro e w3 ⟨gf,rfl,hsf,hb3⟩;have gj:=aJ eC hb3;have bZ:=aJ bK hb3;have Js:=hid (NQ.out w3 _ _ bZ.out hsf.sl);clear hsf hb3 eC bK;go_wp2_with fail;refine aD (BL w1) (fun _ h=>h) gj.out ?_;refine aM rfl ?_;go_wp2_with fail;refine Js.out.mono ?_;rintro e w4 ⟨g,rfl,hsf,hb4⟩;have jM:=aJ gj hb4;have f9:=aJ bZ hb4;have ZK:Hid (mz (w1.heap.size<=·) w4 (.slice (some ⟨g,0,none⟩) K K) (aR.gM x W)):=hid (dP.mono (S':=(w1.heap.size<=·)) hsf (fun b _ hb=>Nat.le_trans gj.out.size hb));clear hsf hb4 gj bZ Js;go_wp2_with fail;refine aD (BL w1) (fun _ h=>h) jM.out ?_
 iterate 4 refine eB ?_
 refine aT ?_;try simp only[iW,iX]
 clear l8 kL l9 mR;clear ZK;by_cases hneg:most<0
 ·have hn1:(most<0)=True:=eq_true hneg
  go_wp2;go_ret2;exact⟨f9.out,.inl ⟨.inl hneg,rfl⟩⟩
 ·have hp0:0<=most:=by omega
  by_cases h4:400<most
  ·go_wp2
   go_ret2;exact⟨f9.out,by first|exact .inl ⟨.inr h4,rfl⟩|exact .inl rfl⟩
  ·have R8:most<=400:=by omega
   obtain⟨mn,rfl⟩:∃mn:Nat,most=(mn:Int):=⟨most.toNat,by omega⟩;have HA4:=hid (Me.out w4 mn aC f9.out);obtain⟨⟨y0,y1,y2,y3⟩, -⟩:=aW (HX.out w4 jM.out);have Ng:=f9.out.size;go_wp2_with fail;refine HA4.out.mono ?_;rintro e w5 ⟨jR,hres⟩;have fF:Hid (BL w w5):=hid (f9.out.trans (jR.mono Ng));rcases hres with⟨hlm,a,c,rfl,hrow⟩|⟨hlm,rfl⟩
   ·have HR:=hid ((hrow.down Ng).mono (fun b _ h=>Nat.le_trans Ng h) (E':=(w.heap.size<=·)))
    have HLm:=hid hlm;clear hrow hlm jR y0 y1 y2 y3;go_wp2;go_ret2;exact⟨fF.out,.inr ⟨hp0,R8,.inl ⟨by have:=HLm.out;omega,a,c,rfl,HR.out⟩⟩⟩
   ·have HLm:=hid hlm
    clear hlm jR y0 y1 y2 y3;go_wp2;go_ret2;exact⟨fF.out,.inr ⟨hp0,R8,.inr ⟨by have:=HLm.out;omega,rfl⟩⟩⟩
theorem own:ownKnob Tryz.prog.godebug=none:=by kernel_rfl
theorem laidOut:laidOutB Tryz.prog=true:=by kernel_rfl
def laidL:List (String×DataW Unit):=[("math/bits.deBruijn32tab",Rows.laid_math_bits_deBruijn32tab),("math/bits.deBruijn64tab",Rows.laid_math_bits_deBruijn64tab),("internal/strconv.uint64pow10",Rows.laid_internal_strconv_uint64pow10),("diorama/schema.words",Rows.laid_diorama_schema_words),("diorama/typing.checks",Rows.laid_diorama_typing_checks)]
theorem CK{W:World}(h:laidMetH Tryz.prog laidL W)(n:String)(d:DataW Unit)(hf:(laidL.filter fun x=>x.1==n)=[(n,d)])(hp:d.handleName?.isNone=true):laidMet Tryz.prog [(n,d)] W:=by
 have h1:=h.filter (fun x=>x.1==n);rw[hf,Go.MakeChecks.laidMetH_plain _ _ _ (by simp[hp])] at h1;exact h1
theorem CM{fuel:Nat}{t e:TypeId}{n:Nat}{cs:List Value}{ss:List (List UInt8)}{p:List MemPlace}{H:Type}{enc:TypeId×Value->H}{P:Program}{w:World}{base:Nat}{sp:Nat->Bool}{held:Bool}
  (ht:P.underlying t=some (.array n e))(he:P.underlying e=some .string)(hce:P.cellsOf e=1)(hct:P.cellsOf t=n)
  (h:DataW.trod enc P w base sp held fuel t cs=some (.agg (ss.map fun s=>.lit (.string s)),p)):∀(i:Nat) (s:List UInt8),ss[i]?=some s->cs[i]?=some (.string ⟨s.toArray⟩):=by
 cases fuel with
 |zero=>simp[DataW.trod] at h
 |succ fuel=>
  simp only[DataW.trod,ht,hce,hct,Nat.mul_one] at h
  split at h
  ·rename_i hl
   obtain⟨xs,hm,hx⟩:=Option.map_eq_some_iff.1 h
   have hxs:xs.map (·.1)=ss.map fun s=>(DataW.lit (.string s):DataW H):=by
    have:=congrArg Prod.fst hx;simpa using this
   have hxl:xs.length=n:=by simpa using Lib.mapM_length hm
   have hsl:ss.length=n:=by
    have:=congrArg List.length hxs;simp at this;omega
   intro i s hs
   have hi:i<n:=by
    have:=(List.getElem?_eq_some_iff.1 hs).1;omega
   obtain⟨b,hb,hf⟩:=Lib.mapM_at hm i i (by simp[hi]);obtain⟨z,hc,rfl,_⟩:=DataW.trod_string he hf
   have h1:cs[i]?=some (.string z):=by
    have:=congrArg (·[0]?) hc;simpa [List.getElem?_take,List.getElem?_drop] using this
   have h2:(xs.map (·.1))[i]?=some (DataW.lit (.string z.data.toList):DataW H):=by simp[hb]
   rw[hxs,List.getElem?_map,hs] at h2;simp only[Option.map_some,Option.some.injEq,DataW.lit.injEq,Lit.string.injEq] at h2;rw[h1,h2]
  ·cases h
theorem Wd{W:World}(h:laidMetH Tryz.prog laidL W):LaidW W where
 pow:=by
  have h1:=CK h "internal/strconv.uint64pow10" Rows.laid_internal_strconv_uint64pow10 (by kernel_rfl) (by kernel_rfl);exact Lib.tabIs_of_head (zs:=Lib.pow10Tab) (rest:=[]) aaZ (by kernel_rfl:(Tryz.prog.globals[2]?).map (·.type)=some 299) (by kernel_rfl:Tryz.prog.underlying 299=some (.array 20 188)) (by kernel_rfl:Tryz.prog.underlying 188=some (.int .u64)) (by kernel_rfl) (by kernel_rfl) h1
 dc k hk:=by
  have h1:=CK h "diorama/schema.words" Rows.laid_diorama_schema_words (by kernel_rfl) (by kernel_rfl);obtain⟨ps,⟨g',t',cs,fuel,p,q,hg',ht',hvar,hd,_,_⟩,_⟩:=h1;obtain rfl:=qf ((show Tryz.prog.globalNamed "diorama/schema.words" =some 1 by kernel_rfl).symm.trans hg');obtain rfl:=qf ((show (Tryz.prog.globals[1]?).map (·.type)=some 283 by kernel_rfl).symm.trans ht');have h2:=World.var?_cell hg' hvar k;rw[h2,<-Array.getElem?_toList];refine CM (n:=9) (e:=9) (ss:=[[107,101,121],[114,101,102],[110,117,109],[112,105,99,107],[100,97,121],[115,116,101,112],[115,117,109],[115,104,97,114,101],[99,111,112,121]]) (by kernel_rfl) (by kernel_rfl) (by kernel_rfl) (by kernel_rfl) hd k _ ?_;have:k=0\/k=1\/k=2\/k=3\/k=4\/k=5\/k=6\/k=7\/k=8:=by omega
  rcases this with rfl|rfl|rfl|rfl|rfl|rfl|rfl|rfl|rfl<;>rfl
 size:=by
  have h1:=CK h "math/bits.deBruijn64tab" Rows.laid_math_bits_deBruijn64tab (by kernel_rfl) (by kernel_rfl);obtain⟨ps,⟨g',t',cs,fuel,p,q,hg',ht',hvar,hd,_,_⟩,_⟩:=h1;obtain rfl:=qf ((show Tryz.prog.globalNamed "math/bits.deBruijn64tab" =some 4 by kernel_rfl).symm.trans hg');have h2:=World.var?_cell hg' hvar 0
  have:4<W.heap.size:=by
   unfold World.var? at hvar;rw[hg'] at hvar;refine Nat.lt_of_not_le fun hle=>?_;simp[Array.getElem?_eq_none hle] at hvar
  omega
theorem ZN{P:Program}{t f:TypeId}{fs:Array Field}(ht:P.underlying t=some (.struct fs))(hs1:fs.size=1)(hf0:(fs[0]?).map (fun x=>(x.type,x.offset))=some (f,0))(hc:P.cellsOf t=1)(hf:P.cellsOf f=1){H:Type}{enc:TypeId×Value->H}{w:World}{base:Nat}{sp:Nat->Bool}{held:Bool}{n:Nat}{v:Value}{d:DataW H}{ps:List MemPlace}
  (hv:v.formed P t=true)(h:DataW.trod enc P w base sp held n t v.cells.toList=some (.agg [d],ps)):∃c m q,v=.agg #[c]/\DataW.trod enc P w base sp held m f [c]=some (d,q):=by
 obtain⟨xs,m,rfl,hx,hl,hxl,hall⟩:=DataW.trod_struct ht h
 have hv':∃cs,v=.agg cs/\cs.size=1:=by
  cases v<;>simp[Value.formed,ht,hc] at hv;exact⟨_,rfl,hv⟩
 obtain⟨cs,rfl,hs⟩:=hv';obtain⟨c,rfl⟩:∃c,cs=#[c]:=Array.size_eq_one_iff.1 hs;obtain⟨fd,TG,hfe⟩:=Option.map_eq_some_iff.1 hf0;obtain⟨hft,hfo⟩:=Prod.mk.inj hfe;have h0:=hall 0 fd TG;rw[hft,hfo] at h0;obtain⟨y,hy⟩:∃y,xs=[y]:=List.length_eq_one_iff.1 aC;subst hy;simp[hf,Value.cells] at h0;have h1:=congrArg Prod.fst hx;simp at h1;exact⟨c,m,y.2,rfl,by rw[h0,h1]⟩
def Jt(f:TypeId):TypeDesc->Bool
 | .struct fs=>decide (fs.size=1)&&decide ((fs[0]?).map (fun x=>(x.type,x.offset))=some (f,0))
 |_=>false
theorem QB:∃fs,Tryz.prog.underlying 209=some (.struct fs)/\fs.size=1/\(fs[0]?).map (fun x=>(x.type,x.offset))=some (208,0):=by
 have h:(Tryz.prog.underlying 209).map (Jt 208)=some true:=by kernel_rfl
 obtain⟨d,hd,ho⟩:=Option.map_eq_some_iff.1 h;cases d<;>simp[Jt] at ho;exact⟨_,hd,ho.1,by simpa using ho.2⟩
theorem ZO{W:World}(h:laidMetH Tryz.prog laidL W):∃b,TabC b W:=by
 obtain⟨g,t,cs,fuel,p,hg,ht,hv,hd⟩:=h.funcs (n:= "diorama/typing.checks") (List.Mem.tail _ (List.Mem.tail _ (List.Mem.tail _ (List.Mem.tail _ (List.Mem.head _)))));obtain rfl:=qf ((show Tryz.prog.globalNamed "diorama/typing.checks" =some 0 by kernel_rfl).symm.trans hg);obtain rfl:=qf ((show (Tryz.prog.globals[0]?).map (·.type)=some 211 by kernel_rfl).symm.trans ht);have hu:Tryz.prog.underlying 211=some (.map 3 209):=by kernel_rfl
 rcases Go.WideElems.open_map hu hd with⟨-,e⟩|⟨b,es,clock,n,rfl,hcs,hb, -,F,e⟩
 ·cases congrArg Prod.fst e
 have e1:=congrArg Prod.fst e;simp only at e1;refine⟨b,?_,(Array.getElem?_eq_some_iff.1 hb).1,fun W' hW k h0 h8=>?_⟩
 ·have:=World.var?_cell hg hv 0
  rw[Array.eq_one_of_toList hcs] at this;simpa using this
 ·have hz:(zeroValue 209).run Tryz.prog W'=.ok (.agg #[.nilFunc]) W':=by kernel_rfl
  have hkey:keyOf Tryz.prog 3 (.int .i64 k)=some (.int .i64 k):=by
   have:k=0\/k=1\/k=2\/k=3\/k=4\/k=5\/k=6\/k=7\/k=8:=by omega
   rcases this with rfl|rfl|rfl|rfl|rfl|rfl|rfl|rfl|rfl<;>first
    |exact(by kernel_rfl:keyOf Tryz.prog 3 (.int .i64 0)=some (.int .i64 0))
    |exact(by kernel_rfl:keyOf Tryz.prog 3 (.int .i64 1)=some (.int .i64 1))
    |exact(by kernel_rfl:keyOf Tryz.prog 3 (.int .i64 2)=some (.int .i64 2))
    |exact(by kernel_rfl:keyOf Tryz.prog 3 (.int .i64 3)=some (.int .i64 3))
    |exact(by kernel_rfl:keyOf Tryz.prog 3 (.int .i64 4)=some (.int .i64 4))
    |exact(by kernel_rfl:keyOf Tryz.prog 3 (.int .i64 5)=some (.int .i64 5))
    |exact(by kernel_rfl:keyOf Tryz.prog 3 (.int .i64 6)=some (.int .i64 6))
    |exact(by kernel_rfl:keyOf Tryz.prog 3 (.int .i64 7)=some (.int .i64 7))
    |exact(by kernel_rfl:keyOf Tryz.prog 3 (.int .i64 8)=some (.int .i64 8))
  have hK:Maps.Keyed Tryz.prog 3:=Maps.int_keyed (by kernel_rfl:Tryz.prog.underlying 3=some (.int .i64));have hf:Tryz.prog.underlying 208=some (.func #[213] #[35] false):=by kernel_rfl
  rcases Maps.fit_look true hK hu hz (hW.trans hb) F hkey with⟨hrun,_,hat⟩|⟨e0,y,_,_,hrun,hRv,hat,_⟩
  ·rw[<-e1] at hat
   have no:Ar k=none:=by
    have:=hat .nil;have:k=0\/k=1\/k=2\/k=3\/k=4\/k=5\/k=6\/k=7\/k=8:=by omega
    rcases this with rfl|rfl|rfl|rfl|rfl|rfl|rfl|rfl|rfl<;>first|rfl|(exfalso;cases hat .nil)
   rw[no];unfold PE;rw[no];exact hrun
  ·rw[<-e1] at hat
   unfold Go.WideElems.elemAt at hRv;split at hRv
   ·rename_i hfm
    obtain⟨fs,hfs,h1,h2⟩:=QB
    have at_:∀(b0:UInt8) (r:List UInt8) (fo:Nat),y.1=.agg [.held (b0::r)]->((List.range Tryz.prog.funcs.size).filter fun f=>(Tryz.prog.funcs[f]?).any (·.name.toUTF8.data.toList==b0::r))=[fo]->e0.val=.agg #[.func (.func fo) #[] #[]]:=fun b0 r fo hy hone=>by
     obtain⟨c,m,q,hv,hc⟩:=ZN hfs h1 h2 (by kernel_rfl) (by kernel_rfl) hfm (hRv.trans (by rw[<-hy]));rw[hv,func_of_trod hf hone hc]
    have:k=0\/k=1\/k=2\/k=3\/k=4\/k=5\/k=6\/k=7\/k=8:=by omega
    rcases this with rfl|rfl|rfl|rfl|rfl|rfl|rfl|rfl|rfl
    ·have hv:=at_ 100 [105,111,114,97,109,97,47,116,121,112,105,110,103,46,99,104,101,99,107,115,36,49] 215 (hat .nil).symm (by kernel_rfl)
     rw[hv] at hrun;exact hrun
    ·have hv:=at_ 100 [105,111,114,97,109,97,47,116,121,112,105,110,103,46,99,104,101,99,107,115,36,50] 216 (hat .nil).symm (by kernel_rfl)
     rw[hv] at hrun;exact hrun
    ·exfalso
     have g1:=hat .nil;have g2:=hat (.lit (.bool true));rw[<-g1] at g2;cases g2
    ·exfalso
     have g1:=hat .nil;have g2:=hat (.lit (.bool true));rw[<-g1] at g2;cases g2
    ·have hv:=at_ 100 [105,111,114,97,109,97,47,116,121,112,105,110,103,46,99,104,101,99,107,115,36,51] 217 (hat .nil).symm (by kernel_rfl)
     rw[hv] at hrun;exact hrun
    ·have hv:=at_ 100 [105,111,114,97,109,97,47,116,121,112,105,110,103,46,99,104,101,99,107,115,36,52] 218 (hat .nil).symm (by kernel_rfl)
     rw[hv] at hrun;exact hrun
    ·have hv:=at_ 100 [105,111,114,97,109,97,47,116,121,112,105,110,103,46,99,104,101,99,107,115,36,53] 220 (hat .nil).symm (by kernel_rfl)
     rw[hv] at hrun;exact hrun
    ·have hv:=at_ 100 [105,111,114,97,109,97,47,116,121,112,105,110,103,46,99,104,101,99,107,115,36,54] 221 (hat .nil).symm (by kernel_rfl)
     rw[hv] at hrun;exact hrun
    ·have hv:=at_ 100 [105,111,114,97,109,97,47,116,121,112,105,110,103,46,99,104,101,99,107,115,36,55] 223 (hat .nil).symm (by kernel_rfl)
     rw[hv] at hrun;exact hrun
   ·cases hRv
theorem laidT_of{W:World}(h:laidMetH Tryz.prog laidL W):LaidW W/\∃b,TabC b W:=⟨Wd h,ZO h⟩
noncomputable def laidWorld (os:Os):World:=World.doorLaid Tryz.prog 76 os
theorem wf_bounds{n:Int}(h:(Lit.int .i64 n).wf=true): -9223372036854775808<=n/\n<=9223372036854775807:=by
 simp[Lit.wf,IntKind.min,IntKind.max,IntKind.signed,IntKind.bits] at h;omega
theorem Wf{α:Type}{l:List α}{i:Nat}{d:α}(h:i<l.length):l.getD i d=l[i]:=by
 rw[jA,kK h,zOg]
theorem row_ints{w:World}{a:Option Addr}{len cap:Nat}{zs:List Int}
  (h:(a=none/\len=0/\cap=0/\zs=[])\/∃x,a=some x/\len<=cap/\cap<=maxLen/\zs.length=cap/\(∀i,i<zs.length->w.cell? (x.add i)=some (.int .i64 (zs.getD i 0)))/\∀n∈zs,(Lit.int .i64 n).wf=true):
  cH mJ w (.slice a len cap) (zs.take len)/\Fit (zs.take len):=by
 rcases h with⟨rfl,rfl,rfl,rfl⟩|⟨x,rfl,h1,h2,h3,h4,h5⟩
 ·exact⟨gQ.nil _ _ _,fun x hx=>by simp at hx⟩
 ·have hl:(zs.take len).length=len:=by rw[OD];omega
  refine⟨⟨some x,cap,by rw[hl],fun h0=>?_,by omega,h2,fun _=>trivial,fun j hj=>?_⟩,fun n hn=>?_⟩
  ·obtain⟨b,o,e,_⟩:=ints_at h4 aC
   exact⟨b,o,by rw[e]⟩
  ·obtain⟨b,o,e,hc⟩:=ints_at h4 aC
   subst e;refine⟨_,hc j aC,?_⟩;rw[List.getElem_take,Wf aC]
  ·exact wf_bounds (h5 n (List.mem_of_mem_take hn))
theorem Tryz.appI:jW Tryz.prog 39 89 4 32:=gE (z:=.agg #[.int .i64 0,.int .i64 0,.int .i64 0,.int .i64 0]) (by kernel_rfl) (by kernel_rfl) rfl aC aC
theorem Tryz.Wg:jW Tryz.prog 30 88 4 32:=gE (z:=.agg #[.int .i64 0,.int .i64 0,.int .i64 0,.int .i64 0]) (by kernel_rfl) (by kernel_rfl) rfl aC aC
abbrev aeh(B:Nat):=bC 4 sG (fun _=>True) B 89
abbrev oC(B:Nat):=bC 4 sG (fun _=>True) B 88
theorem tQ{o a b c:Int}:∀u∈[Value.int .i64 o,.int .i64 a,.int .i64 b,.int .i64 c],u.oneCell'=true:=by
 intro u hu;simp only[kM,vE,or_false] at hu;rcases hu with rfl|rfl|rfl|rfl<;>rfl
theorem NU(p:List Vm.Ins)(hp:p.length<=1000)(v:Value)(S:Nat->Prop)(w:World)(hv:kF S w v p):
  Calls Tryz.prog 8 #[v] w fun e w'=>∃u,e=.returned u/\aeh w.heap.size w' u p/\BL w w':=by
 obtain⟨a,cap,rfl,hok, -, -⟩:=hv.form;have HV:=hid (fun X (hX:BL w X)=>hv.keep (aB.below hX));obtain⟨m,hm⟩:=aV p.length;have hm1:m<=1000:=by omega
 rw[<-hm] at HV hok ⊢;have HM:=hid hm;clear hm hv hp;go_enter Tryz.func8,Tryz.ntmps8;go_upto_region 3 with fail;go_loopw [3,4] (fun l ii wr=>∃(n:Nat) (am:Option Addr) (cm:Nat),n<=m/\l=.slice am n cm/\ii=.int .i64 (n:Int)/\Hid (aeh w.heap.size wr (.slice am n cm) (p.take n))/\Hid (BL w wr)) (fun _ ii _=>m-(intOf ii).toNat);case atStart=>exact⟨0,none,0,by omega,rfl,rfl,hid (bC.nil _ _ _ _ _ _),hid ay⟩
 case round=>
  obtain⟨n,am,cm,hn,rfl,rfl,HO,HB⟩:=hrel;by_cases hlt:n<m
  ·have hn0:(0:Int)<=(n:Int):=by omega
   have hn1:(n:Int)<(m:Int):=by omega
   have hnp:n<p.length:=by rw[<-HM.out];exact hlt
   have HC:Hid (∀X,BL wr X->X.cell? ⟨bD a,bJ a+n*4,none⟩=some (.int .i64 p[n].op)/\X.cell? ⟨bD a,bJ a+n*4+1,none⟩=some (.int .i64 p[n].a)/\X.cell? ⟨bD a,bJ a+n*4+2,none⟩=some (.int .i64 p[n].b)/\X.cell? ⟨bD a,bJ a+n*4+3,none⟩=some (.int .i64 p[n].c)):=hid (fun X hX=>((HV.out X (cO HB.out hX)).at hnp).2.2);have HT:Hid (p.take (n+1)=p.take n++[p[n]]):=hid (Gu hnp);have mZ:Hid ((p.take n).length=n):=hid (by rw[OD];omega);generalize p[n]=q at*;obtain⟨op,qa,qb,qc⟩:=q;simp only at HC HT;have Dk:=dL wr ⟨bD a,bJ a+n*4,none⟩ (.int .i64 op) fun xh=>(HC.out xh.1 xh.2).1;have hq1:=dL wr ⟨bD a,bJ a+n*4+1,none⟩ (.int .i64 qa) fun xh=>(HC.out xh.1 xh.2).2.1;have uE:=dL wr ⟨bD a,bJ a+n*4+2,none⟩ (.int .i64 qb) fun xh=>(HC.out xh.1 xh.2).2.2.1;have hq3:=dL wr ⟨bD a,bJ a+n*4+3,none⟩ (.int .i64 qc) fun xh=>(HC.out xh.1 xh.2).2.2.2;go_upto_region 5 with fail;refine sQ wr 23 (.quiet 0 (.quiet 1 (.quiet 2 (.quiet 3 (.quiet 4 (.quiet 5 (.quiet 6 (.quiet 7 (.quiet 8 (.quiet 9 (.quiet 10 (.quiet 11 (.quiet 12 (.quiet 13 (.quiet 14 (.quiet 15 (.quiet 16 (.quiet 17 (.quiet 18 (.quiet 19 (.quiet 20 (.quiet 21 (.one 22 .done))))))))))))))))))))))) lN (by kernel_rfl) fun wq iK=>?_
   iterate 22 refine eB ?_
   refine aM rfl ?_;go_wp2_with fail;refine aD (BL wr) (fun _ h=>h) (iK.out.alloc iK.out.size _) ?_;refine aT ?_;try simp only[iW,iX]
   clear Dk hq1 uE hq3;have Qi:Hid (aeh w.heap.size wq (.slice am n cm) (p.take n)):=hid (HO.out.keep cB (fun b hb hl=>iK.out.block b hl));have hbz:w.heap.size<=wq.heap.size:=Nat.le_trans HB.out.size iK.out.size;have jI:(p.take n).length+1<=1000000000:=by rw[mZ.out];omega
   go_wp2_with (at_builtin;go_must (refine cF cB rfl _ _ rfl Tryz.appI rfl Qi.out (us:=[.int .i64 op,.int .i64 qa,.int .i64 qb,.int .i64 qc]) rfl rfl rfl ⟨op,qa,qb,qc⟩ rfl tQ jI hbz ?_));intro v' w6 how ht hn;rw[<-HT.out] at how
   obtain⟨a',c',rfl⟩:∃a' c',v'=.slice a' (n+1) c':=by
    obtain⟨a1,c1,e, -⟩:=how.form;exact⟨a1,c1,by rw[e,OD,Nat.min_eq_left (by rw[<-HM.out];omega)]⟩
   have wR:=hid how;have bK:Hid (BL w w6):=hid ((cO HB.out iK.out).trans (ht.below hbz (fun b hb=>(bC.lt Qi.out b hb.symm).1)));clear how ht hn jI hbz Qi;go_wp2;go_roundw;case rel=>exact⟨n+1,a',c',by omega,by go_num,by go_num,wR,bK⟩
   simp[intOf];omega
  ·obtain rfl:m=n:=by omega
   have HT:Hid (p.take m=p):=hid (zTl (by rw[<-HM.out];exact aH));go_wp2;go_ret;exact⟨_,rfl,by rw[<-HT.out];exact HO.out,HB.out⟩
namespace Vm
def oD(kind field up g op n code:Int):List Ins:=
 if 0<=up then [⟨4,1,kind,0⟩,⟨1,2,1,0⟩,⟨1,5,n,0⟩,⟨8,0,1,11⟩,⟨2,4,0,7⟩,⟨5,4,kind,field⟩,⟨5,4,up,g⟩,⟨2,0,0,2⟩,⟨op,4,5,10⟩,⟨6,3,0,0⟩,⟨0,code,0,0⟩]
 else [⟨4,1,kind,0⟩,⟨1,2,1,0⟩,⟨1,5,n,0⟩,⟨8,0,1,10⟩,⟨2,4,0,7⟩,⟨5,4,kind,field⟩,⟨2,0,0,2⟩,⟨op,4,5,9⟩,⟨6,3,0,0⟩,⟨0,code,0,0⟩]
end Vm
theorem tR{α:Type}{n:Nat}{RR:(Nat->Prop)->World->List Value->α->Prop}{S:Nat->Prop}{B:Nat}{e:TypeId}{w:World}{g m:Nat}(jB:List (List Value)){xs:List α}(hb:w.heap[g]?=some (.cells jB.flatten.toArray e (0,0)))(hB:B<=g)(hx:xs.length=m)(hl:jB.length=xs.length)(hn:∀us∈jB,us.length=n)(hm:xs.length<=1000)
  (hR:∀j (h1:j<jB.length) (h2:j<xs.length),RR (fun b=>S b/\some b≠(Value.slice (some ⟨g,0,none⟩) m m).ownBlock) w jB[j] xs[j]):bC n RR S B e w (.slice (some ⟨g,0,none⟩) m m) xs:=by
 subst hx;have hf:=nA jB hn;rw[hl] at hf;exact⟨jB,⟨hf,.inr ⟨g,xs.length,jB.flatten.toArray,rfl,hB,hb,aH,by unfold maxLen;omega,by simpa using hf,by simpa using zTl (Nat.le_of_eq hf)⟩⟩,hl,hn,hR⟩
theorem CN(kind field up g op n code:Int)(w:World):
  Calls Tryz.prog 42 #[.int .i64 kind,.int .i64 field,.int .i64 up,.int .i64 g,.int .i64 op,.int .i64 n,.int .i64 code] w fun e w'=>∃u,e=.returned u/\oC w.heap.size w' u (Vm.oD kind field up g op n code)/\BL w w':=by
 obtain⟨w1,hw1⟩:=aV (w.alloc (.cells #[.int .i64 4,.int .i64 1,.int .i64 kind,.int .i64 0,.int .i64 1,.int .i64 2,.int .i64 1,.int .i64 0,.int .i64 1,.int .i64 5,.int .i64 n,.int .i64 0,.int .i64 8,.int .i64 0,.int .i64 1,.int .i64 10,.int .i64 2,.int .i64 4,.int .i64 0,.int .i64 7,.int .i64 5,.int .i64 4,.int .i64 kind,.int .i64 field] 88));have hb1:BL w w1:=by rw[hw1];exact ay.alloc aH _
 have hz1:w.heap.size<=w1.heap.size:=hb1.size;have hc1:w1.heap[w.heap.size]?=some (.cells #[.int .i64 4,.int .i64 1,.int .i64 kind,.int .i64 0,.int .i64 1,.int .i64 2,.int .i64 1,.int .i64 0,.int .i64 1,.int .i64 5,.int .i64 n,.int .i64 0,.int .i64 8,.int .i64 0,.int .i64 1,.int .i64 10,.int .i64 2,.int .i64 4,.int .i64 0,.int .i64 7,.int .i64 5,.int .i64 4,.int .i64 kind,.int .i64 field] 88 (0,0)):=by rw[hw1];exact aP _ _ rfl
 have HO1:Hid (oC w.heap.size w1 (.slice (some ⟨w.heap.size,0,none⟩) 6 6) [⟨4,1,kind,0⟩,⟨1,2,1,0⟩,⟨1,5,n,0⟩,⟨8,0,1,10⟩,⟨2,4,0,7⟩,⟨5,4,kind,field⟩]):=hid
  (tR (RR:=sG) [[.int .i64 4,.int .i64 1,.int .i64 kind,.int .i64 0],[.int .i64 1,.int .i64 2,.int .i64 1,.int .i64 0],[.int .i64 1,.int .i64 5,.int .i64 n,.int .i64 0],[.int .i64 8,.int .i64 0,.int .i64 1,.int .i64 10],[.int .i64 2,.int .i64 4,.int .i64 0,.int .i64 7],[.int .i64 5,.int .i64 4,.int .i64 kind,.int .i64 field]] hc1 aH rfl rfl aZ aZ (fun j h1 h2=>by
   match j,h1 with
   |0,_=>rfl
   |1,_=>rfl
   |2,_=>rfl
   |3,_=>rfl
   |4,_=>rfl
   |5,_=>rfl))
 have bf:=hid hb1;have HW1:=hid hw1;by_cases hup:0<=up
 ·have hup2:¬up<0:=by omega
  have HL:Hid (Vm.oD kind field up g op n code=[⟨4,1,kind,0⟩,⟨1,2,1,0⟩,⟨1,5,n,0⟩,⟨8,0,1,11⟩,⟨2,4,0,7⟩,⟨5,4,kind,field⟩,⟨5,4,up,g⟩]++[⟨2,0,0,2⟩,⟨op,4,5,10⟩,⟨6,3,0,0⟩,⟨0,code,0,0⟩]):=hid (by unfold Vm.oD;rw[if_pos hup];rfl);have jI:([⟨4,1,kind,0⟩,⟨1,2,1,0⟩,⟨1,5,n,0⟩,⟨8,0,1,10⟩,⟨2,4,0,7⟩,⟨5,4,kind,field⟩]:List Vm.Ins).length+1<=1000000000:=by simp
  have hbz:w.heap.size<=w1.heap.size:=by omega
  clear hw1 hb1 hc1;go_enter Tryz.func42,Tryz.ntmps42;go_upto_region 3 with fail;rw[<-HW1.out];go_wp2_with (at_builtin;go_must (refine cF cB rfl _ _ rfl Tryz.Wg rfl HO1.out (us:=[.int .i64 5,.int .i64 4,.int .i64 up,.int .i64 g]) rfl rfl rfl ⟨5,4,up,g⟩ rfl tQ jI hbz ?_));intro v' w5 how ht hn
  obtain⟨a5,c5,rfl⟩:∃a5 c5,v'=.slice a5 7 c5:=by
   obtain⟨a1,c1,e, -⟩:=how.form;exact⟨a1,c1,e⟩
  have fF:Hid (BL w w5):=hid (bf.out.trans (ht.below hbz (fun b hb=>by cases hb;exact aH)));obtain⟨gb,rfl, -,hgb,hgl,hfz⟩:=how.vM aZ;obtain⟨us3,h31,h32,h33⟩:=bC.at how (j:=3) aZ;obtain rfl:us3=qA ⟨8,0,1,10⟩:=h33;have x0:w5.cell? ⟨gb,15,none⟩=some (.int .i64 10):=h32 3 _ rfl;have x1:w5.frozen? ⟨gb,15,none⟩=false:=hfz 15;obtain⟨w6,ni⟩:=aV (w5.setCell ⟨gb,15,none⟩ (.int .i64 11))
  have ho6:oC w.heap.size w6 (.slice (some ⟨gb,0,none⟩) 7 c5) [⟨4,1,kind,0⟩,⟨1,2,1,0⟩,⟨1,5,n,0⟩,⟨8,0,1,11⟩,⟨2,4,0,7⟩,⟨5,4,kind,field⟩,⟨5,4,up,g⟩]:=by
   rw[ni]
   exact bC.put cB how rfl (j:=3) (i:=3) aZ aC ⟨8,0,1,11⟩ (.int .i64 11) (fun us h=>by
    obtain rfl:us=qA ⟨8,0,1,10⟩:=h;rfl)
  have jS:Hid (Below w.heap.size w w6):=hid (by rw[ni];exact fF.out.setCell hgb _);have hz6:w.heap.size<=w6.heap.size:=jS.out.size;obtain⟨us3,h31,h34,h33⟩:=bC.at ho6 (j:=3) aZ;obtain rfl:us3=qA ⟨8,0,1,11⟩:=h33;have ET:=hid ni;have HO6:=hid ho6
  have HS:Hid (dO 4 (sG (fun _=>False)) (fun _=>True) (w6.alloc (.cells #[.int .i64 2,.int .i64 0,.int .i64 0,.int .i64 2,.int .i64 op,.int .i64 4,.int .i64 5,.int .i64 10,.int .i64 6,.int .i64 3,.int .i64 0,.int .i64 0,.int .i64 0,.int .i64 code,.int .i64 0,.int .i64 0] 88)) (.slice (some ⟨w6.heap.size,0,none⟩) 4 4) [⟨2,0,0,2⟩,⟨op,4,5,10⟩,⟨6,3,0,0⟩,⟨0,code,0,0⟩]):=hid
   (mW (n:=4) (R:=sG (fun _=>False)) (S:=fun _=>True) (xs:=[⟨2,0,0,2⟩,⟨op,4,5,10⟩,⟨6,3,0,0⟩,⟨0,code,0,0⟩]) [[.int .i64 2,.int .i64 0,.int .i64 0,.int .i64 2],[.int .i64 op,.int .i64 4,.int .i64 5,.int .i64 10],[.int .i64 6,.int .i64 3,.int .i64 0,.int .i64 0],[.int .i64 0,.int .i64 code,.int .i64 0,.int .i64 0]] (aP w6 _ rfl) rfl rfl aZ aZ trivial (fun j h1 h2=>by
   match j,h1 with
   |0,_=>rfl
   |1,_=>rfl
   |2,_=>rfl
   |3,_=>rfl))
  have wR:=hid (fun(o:Obj)=>bC.keep cB HO6.out (w':=w6.alloc o) (fun b _ hl=>(ay.alloc aH _).block b hl));have hbase:∀o:Obj,w.heap.size<=(w6.alloc o).heap.size:=fun o=>by rw[World.size_alloc];omega
  have hone:∀us (y:Vm.Ins),sG (fun _=>False) (w6.alloc (.cells #[.int .i64 2,.int .i64 0,.int .i64 0,.int .i64 2,.int .i64 op,.int .i64 4,.int .i64 5,.int .i64 10,.int .i64 6,.int .i64 3,.int .i64 0,.int .i64 0,.int .i64 0,.int .i64 code,.int .i64 0,.int .i64 0] 88)) us y->∀u∈us,u.oneCell'=true:=fun us y h=>by
   obtain rfl:us=qA y:=h;exact tQ
  have A7:=hid (fun(o:Obj)=>jS.out.trans (((Below.refl _ w6).alloc aH o).mono jS.out.size));have hg6:=hgb;have Nt:=hid hgb;clear how ht hn hfz h31 h32 ho6 ni jI hbz hgl;go_upto_region 5 with fail;rw[<-ET.out];clear x0 x1;have x0:w6.cell? ⟨gb,15,none⟩=some (.int .i64 11):=h34 3 _ rfl;go_upto_region 6 with fail;go_wp2_with (at_builtin;go_must (refine eY (ys:=[⟨2,0,0,2⟩,⟨op,4,5,10⟩,⟨6,3,0,0⟩,⟨0,code,0,0⟩]) cB rfl _ _ rfl Tryz.Wg rfl (wR.out _) rfl HS.out (fun _ _ h=>h.elim) hone aZ (hbase _) ?_));intro v' w7 how ht hn;obtain⟨a',c',rfl, -⟩:=how.form;have Xc:=hid how;have lM:Hid (BL w w7):=hid ((A7.out _).trans (ht.below (hbase _) (fun b hb=>by cases hb;exact Nt.out)));clear how ht hn hone hbase;go_wp2;go_ret;exact⟨_,rfl,by rw[HL.out];exact Xc.out,lM.out⟩
 ·have hup2:up<0:=by omega
  have HL:Hid (Vm.oD kind field up g op n code=[⟨4,1,kind,0⟩,⟨1,2,1,0⟩,⟨1,5,n,0⟩,⟨8,0,1,10⟩,⟨2,4,0,7⟩,⟨5,4,kind,field⟩]++[⟨2,0,0,2⟩,⟨op,4,5,9⟩,⟨6,3,0,0⟩,⟨0,code,0,0⟩]):=hid (by unfold Vm.oD;rw[if_neg hup];rfl);have x0:w1.cell? ⟨w.heap.size,15,none⟩=some (.int .i64 10):=by rw[aF hc1];rfl
  have HS:Hid (dO 4 (sG (fun _=>False)) (fun _=>True) (w1.alloc (.cells #[.int .i64 2,.int .i64 0,.int .i64 0,.int .i64 2,.int .i64 op,.int .i64 4,.int .i64 5,.int .i64 9,.int .i64 6,.int .i64 3,.int .i64 0,.int .i64 0,.int .i64 0,.int .i64 code,.int .i64 0,.int .i64 0] 88)) (.slice (some ⟨w1.heap.size,0,none⟩) 4 4) [⟨2,0,0,2⟩,⟨op,4,5,9⟩,⟨6,3,0,0⟩,⟨0,code,0,0⟩]):=hid
   (mW (n:=4) (R:=sG (fun _=>False)) (S:=fun _=>True) (xs:=[⟨2,0,0,2⟩,⟨op,4,5,9⟩,⟨6,3,0,0⟩,⟨0,code,0,0⟩]) [[.int .i64 2,.int .i64 0,.int .i64 0,.int .i64 2],[.int .i64 op,.int .i64 4,.int .i64 5,.int .i64 9],[.int .i64 6,.int .i64 3,.int .i64 0,.int .i64 0],[.int .i64 0,.int .i64 code,.int .i64 0,.int .i64 0]] (aP w1 _ rfl) rfl rfl aZ aZ trivial (fun j h1 h2=>by
   match j,h1 with
   |0,_=>rfl
   |1,_=>rfl
   |2,_=>rfl
   |3,_=>rfl))
  have wR:=hid (fun(o:Obj)=>bC.keep cB HO1.out (w':=w1.alloc o) (fun b _ hl=>(ay.alloc aH _).block b hl));clear hw1 hb1 hc1;go_enter Tryz.func42,Tryz.ntmps42;go_upto_region 5 with fail;rw[<-HW1.out];go_upto_region 6 with fail;have hbase:∀o:Obj,w.heap.size<=(w1.alloc o).heap.size:=fun o=>by rw[World.size_alloc];omega
  have hone:∀us (y:Vm.Ins),sG (fun _=>False) (w1.alloc (.cells #[.int .i64 2,.int .i64 0,.int .i64 0,.int .i64 2,.int .i64 op,.int .i64 4,.int .i64 5,.int .i64 9,.int .i64 6,.int .i64 3,.int .i64 0,.int .i64 0,.int .i64 0,.int .i64 code,.int .i64 0,.int .i64 0] 88)) us y->∀u∈us,u.oneCell'=true:=fun us y h=>by
   obtain rfl:us=qA y:=h;exact tQ
  have A7:=hid (fun(o:Obj)=>bf.out.trans (((Below.refl _ w1).alloc aH o).mono bf.out.size));go_wp2_with (at_builtin;go_must (refine eY (ys:=[⟨2,0,0,2⟩,⟨op,4,5,9⟩,⟨6,3,0,0⟩,⟨0,code,0,0⟩]) cB rfl _ _ rfl Tryz.Wg rfl (wR.out _) rfl HS.out (fun _ _ h=>h.elim) hone aZ (hbase _) ?_));intro v' w6 how ht hn;obtain⟨a',c',rfl, -⟩:=how.form;have Xc:=hid how;have jS:Hid (BL w w6):=hid ((A7.out _).trans (ht.below (hbase _) (fun b hb=>by cases hb;exact aH)));clear how ht hn hone hbase;go_wp2;go_ret;exact⟨_,rfl,by rw[HL.out];exact Xc.out,jS.out⟩
namespace Vm
open ah (cG bF)
structure sZ(x:bF)(p:List Ins):Prop where
 len:p.length<=128
 all:∀i∈p,jE p.length i=true/\dH x i=true
theorem sZ.valid{x:bF}{p:List Ins}(h:sZ x p):d9 p=0:=by
 unfold d9;rw[if_neg (by have:=h.len;omega),if_pos (List.all_eq_true.2 fun i hi=>(h.all i hi).1)]
theorem sZ.named{x:bF}{p:List Ins}(h:sZ x p):oM x p=true:=List.all_eq_true.2 fun i hi=>(h.all i hi).2
structure Fj(x:bF)(k f n code op:Int):Prop where
 k0:0<=k
 k1:k<x.ai.length
 f0:0<=f
 f1:f<(ah.kd x k).aA.length
 n0: -2<=n
 n1:n<=9
 c0:1<=code
 c1:code<=3
 op:op=7\/op=8
 k6:x.ai.length<=6
 f10:(ah.kd x k).aA.length<=10
def ahi(x:bF)(up g:Int):Prop:=up<0\/(up<x.ai.length/\0<=g/\g<(ah.kd x up).aA.length/\g<=9)
theorem Wh{x:bF}{n o a b c:Int}(h:(0<=o/\o<9)/\(iz (cA o 0)<=a/\a<=jD (cA o 0) n)/\(iz (cA o 1)<=b/\b<=jD (cA o 1) n)/\(iz (cA o 2)<=c/\c<=jD (cA o 2) n))
  (h4:o=4\/o=5->b<x.ai.length)(h5:o=5->c<(ah.kd x b).aA.length):jE n ⟨o,a,b,c⟩=true/\dH x ⟨o,a,b,c⟩=true:=by
 obtain⟨⟨h1,h2⟩,⟨a1,a2⟩,⟨b1,b2⟩,c1,c2⟩:=h;refine⟨?_,?_⟩
 ·unfold jE opB eM
  simp only[kJ,lE];exact⟨⟨⟨⟨h1,h2⟩,a1,a2⟩,b1,b2⟩,c1,c2⟩
 ·unfold dH
  by_cases e4:o=4
  ·rw[if_pos e4];exact decide_eq_true (h4 (.inl e4))
  ·rw[if_neg e4]
   by_cases e5:o=5
   ·rw[if_pos e5,decide_eq_true (h4 (.inr e5)),decide_eq_true (h5 e5)];rfl
   ·rw[if_neg e5]
theorem tf{x:bF}{n o a b c:Int}(s0 s1 s2:Int)(e0:cA o 0=s0)(e1:cA o 1=s1)(e2:cA o 2=s2)(ho:0<=o/\o<9)(ha:iz s0<=a/\a<=jD s0 n)(hb:iz s1<=b/\b<=jD s1 n)(hc:iz s2<=c/\c<=jD s2 n)
  (h4:o=4\/o=5->b<x.ai.length)(h5:o=5->c<(ah.kd x b).aA.length):jE n ⟨o,a,b,c⟩=true/\dH x ⟨o,a,b,c⟩=true:=
 Wh ⟨ho,by rw[e0];exact ha,by rw[e1];exact hb,by rw[e2];exact hc⟩ h4 h5
theorem Gm{x:bF}{n a:Int}(h:0<=a/\a<=250):jE n ⟨0,a,0,0⟩=true/\dH x ⟨0,a,0,0⟩=true:=
 tf 1 0 0 rfl rfl rfl aC h ⟨Int.le_refl _,Int.le_refl _⟩ ⟨Int.le_refl _,Int.le_refl _⟩ aC aC
theorem tg{x:bF}{n a b:Int}(h:0<=a/\a<=7)(g: -1048576<=b/\b<=1048576):jE n ⟨1,a,b,0⟩=true/\dH x ⟨1,a,b,0⟩=true:=
 tf 2 3 0 rfl rfl rfl aC h g ⟨Int.le_refl _,Int.le_refl _⟩ aC aC
theorem Fk{x:bF}{n a b c:Int}(h:0<=a/\a<=7)(g:0<=b/\b<=7)(k:0<=c/\c<=7):jE n ⟨2,a,b,c⟩=true/\dH x ⟨2,a,b,c⟩=true:=
 tf 2 2 2 rfl rfl rfl aC h g k aC aC
theorem CO{x:bF}{n a b:Int}(h:0<=a/\a<=7)(g:0<=b/\b<x.ai.length)(g6:x.ai.length<=6):jE n ⟨4,a,b,0⟩=true/\dH x ⟨4,a,b,0⟩=true:=
 tf 2 4 0 rfl rfl rfl aC h ⟨g.1,show b<=5 by omega⟩ ⟨Int.le_refl _,Int.le_refl _⟩ (fun _=>g.2) aC
theorem NV{x:bF}{n a b c:Int}(h:0<=a/\a<=7)(g:0<=b/\b<x.ai.length)(g6:x.ai.length<=6)(k:0<=c/\c<(ah.kd x b).aA.length)(k9:c<=9):jE n ⟨5,a,b,c⟩=true/\dH x ⟨5,a,b,c⟩=true:=
 tf 2 4 5 rfl rfl rfl aC h ⟨g.1,show b<=5 by omega⟩ ⟨k.1,k9⟩ (fun _=>g.2) (fun _=>k.2)
theorem Ml{x:bF}{n a:Int}(h:0<=a/\a<=n):jE n ⟨6,a,0,0⟩=true/\dH x ⟨6,a,0,0⟩=true:=
 tf 6 0 0 rfl rfl rfl aC h ⟨Int.le_refl _,Int.le_refl _⟩ ⟨Int.le_refl _,Int.le_refl _⟩ aC aC
theorem tj{x:bF}{n o a b c:Int}(ho:o=7\/o=8)(h:0<=a/\a<=7)(g:0<=b/\b<=7)(k:0<=c/\c<=n):jE n ⟨o,a,b,c⟩=true/\dH x ⟨o,a,b,c⟩=true:=by
 rcases ho with rfl|rfl
 ·exact tf 2 2 6 rfl rfl rfl aC h g k aC aC
 ·exact tf 2 2 6 rfl rfl rfl aC h g k aC aC
theorem QC{x:bF}{k f n code op n5:Int}(h:Fj x k f n code op)(h5:0<=n5/\n5<=4):sZ x [⟨4,1,k,0⟩,⟨1,2,n5,0⟩,⟨7,1,2,4⟩,⟨0,code,0,0⟩] where
 len:=by simp
 all i hi:=by
  simp only[kM,vE,or_false] at hi;have:=h.c0;have:=h.c1;rcases hi with rfl|rfl|rfl|rfl
  ·exact CO aC ⟨h.k0,h.k1⟩ h.k6
  ·exact tg aC aC
  ·exact tj (.inl rfl) aC aC ⟨by omega,by simp⟩
  ·exact Gm aC
theorem Fl{x:bF}{k f n code op up g:Int}(h:Fj x k f n code op)(hu:ahi x up g):sZ x (oD k f up g op n code):=by
 have:=h.c0;have:=h.c1;have:=h.n0;have:=h.n1;have:=h.f10;have:=h.f1;have hk:(0:Int)<=k/\k<x.ai.length:=⟨h.k0,h.k1⟩;have hf:(0:Int)<=f/\f<(ah.kd x k).aA.length:=⟨h.f0,h.f1⟩;unfold oD;by_cases h0:0<=up
 ·rw[if_pos h0]
  rcases hu with hu|⟨u1,u2,u3,u4⟩
  ·omega
  refine⟨by simp,fun i hi=>?_⟩;simp only[kM,vE,or_false] at hi;rcases hi with rfl|rfl|rfl|rfl|rfl|rfl|rfl|rfl|rfl|rfl|rfl
  ·exact CO aC hk h.k6
  ·exact tg aC aC
  ·exact tg aC aC
  ·exact tj (.inr rfl) aC aC ⟨by omega,by simp⟩
  ·exact Fk aC aC aC
  ·exact NV aC hk h.k6 hf aC
  ·exact NV aC ⟨h0,u1⟩ h.k6 ⟨u2,u3⟩ u4
  ·exact Fk aC aC aC
  ·exact tj h.op aC aC ⟨by omega,by simp⟩
  ·exact Ml ⟨by omega,by simp⟩
  ·exact Gm aC
 ·rw[if_neg h0]
  refine⟨by simp,fun i hi=>?_⟩;simp only[kM,vE,or_false] at hi;rcases hi with rfl|rfl|rfl|rfl|rfl|rfl|rfl|rfl|rfl|rfl
  ·exact CO aC hk h.k6
  ·exact tg aC aC
  ·exact tg aC aC
  ·exact tj (.inr rfl) aC aC ⟨by omega,by simp⟩
  ·exact Fk aC aC aC
  ·exact NV aC hk h.k6 hf aC
  ·exact Fk aC aC aC
  ·exact tj h.op aC aC ⟨by omega,by simp⟩
  ·exact Ml ⟨by omega,by simp⟩
  ·exact Gm aC
def CQ(i:Ins):Ins:=⟨i.op,if i.op=6 then i.a+3 else i.a,i.b,if i.op=7\/i.op=8 then i.c+3 else i.c⟩
theorem Wi{k f n code op:Int}(h:op=7\/op=8):(oD k f (-1) 0 op n code).map CQ=[⟨4,1,k,0⟩,⟨1,2,1,0⟩,⟨1,5,n,0⟩,⟨8,0,1,13⟩,⟨2,4,0,7⟩,⟨5,4,k,f⟩,⟨2,0,0,2⟩,⟨op,4,5,12⟩,⟨6,6,0,0⟩,⟨0,code,0,0⟩]:=by
 unfold oD;rw[if_neg aC];rcases h with rfl|rfl<;>rfl
theorem Mn{x:bF}{k f n code op:Int}(h:Fj x k f n code op):(oD k f (-1) 0 op n code).length=10/\∀i∈oD k f (-1) 0 op n code, -1000<=i.a/\i.a<=1000/\ -1000<=i.c/\i.c<=1000:=by
 have:=h.c0;have:=h.c1;have:=h.f10;have:=h.f1;have:=h.f0;unfold oD;rw[if_neg aC];refine⟨rfl,fun i hi=>?_⟩;simp only[kM,vE,or_false] at hi;rcases hi with rfl|rfl|rfl|rfl|rfl|rfl|rfl|rfl|rfl|rfl<;>(simp only;omega)
theorem ZP{l:List Ins}{j:Nat}(h:j<l.length):(l.take (j+1)).map CQ++l.drop (j+1)=((l.take j).map CQ++l.drop j).set j (CQ l[j]):=by
 rw[Gu h,List.map_append,List.append_assoc,List.set_append_right _ _ mV];simp only[FD,OD,Nat.min_eq_left (Nat.le_of_lt h),Nat.sub_self,List.map_cons,List.map_nil];rw[List.drop_eq_getElem_cons h];rfl
theorem Wj{l:List Ins}{j:Nat}(h:j<l.length)(e:CQ l[j]=l[j]):(l.take (j+1)).map CQ++l.drop (j+1)=(l.take j).map CQ++l.drop j:=by
 rw[Gu h,List.map_append,List.append_assoc,List.drop_eq_getElem_cons h];simp only[List.map_cons,List.map_nil,e];rfl
theorem Wm{x:bF}{k f n code op other m:Int}(h:Fj x k f n code op)(ho:0<=other/\other<x.ai.length)(hm:1<=m/\m<=3):sZ x ([⟨4,6,other,0⟩,⟨1,5,m,0⟩,⟨7,6,5,13⟩]++(oD k f (-1) 0 op n code).map CQ):=by
 have:=h.c0;have:=h.c1;have:=h.n0;have:=h.n1;have:=h.f10;have:=h.f1;have hk:(0:Int)<=k/\k<x.ai.length:=⟨h.k0,h.k1⟩;have hf:(0:Int)<=f/\f<(ah.kd x k).aA.length:=⟨h.f0,h.f1⟩;rw[Wi h.op];refine⟨by simp,fun i hi=>?_⟩;simp only[List.cons_append,List.nil_append,kM,vE,or_false] at hi;rcases hi with rfl|rfl|rfl|rfl|rfl|rfl|rfl|rfl|rfl|rfl|rfl|rfl|rfl
 ·exact CO aC ho h.k6
 ·exact tg aC aC
 ·exact tj (.inl rfl) aC aC ⟨by omega,by simp⟩
 ·exact CO aC hk h.k6
 ·exact tg aC aC
 ·exact tg aC aC
 ·exact tj (.inr rfl) aC aC ⟨by omega,by simp⟩
 ·exact Fk aC aC aC
 ·exact NV aC hk h.k6 hf aC
 ·exact Fk aC aC aC
 ·exact tj h.op aC aC ⟨by omega,by simp⟩
 ·exact Ml ⟨by omega,by simp⟩
 ·exact Gm aC
def iy(k f many s v:Int):Prop:=(iz s<=v/\v<=jD s many)/\(s=4->v=k)/\(s=5->v=f)
theorem Wn{x:bF}{k f n code op many:Int}(h:Fj x k f n code op){o a b c:Int}(ho:0<=o/\o<9)(ha:iy k f many (cA o 0) a)(hb:iy k f many (cA o 1) b)(hc:iy k f many (cA o 2) c):jE many ⟨o,a,b,c⟩=true/\dH x ⟨o,a,b,c⟩=true:=by
 have hk:=h.k1;have hf:=h.f1;refine Wh ⟨ho,ha.1,hb.1,hc.1⟩ (fun e=>?_) (fun e=>?_)
 ·rcases e with rfl|rfl
  ·rw[hb.2.1 rfl];exact hk
  ·rw[hb.2.1 rfl];exact hk
 ·subst e
  rw[hc.2.2 rfl,hb.2.1 rfl];exact hf
end Vm
def NW:List ByteArray:=[⟨#[99,45,45]⟩,⟨#[114,110,45]⟩,⟨#[114,114,114]⟩,⟨#[114,114,114]⟩,⟨#[114,107,45]⟩,⟨#[114,107,102]⟩,⟨#[105,45,45]⟩,⟨#[114,114,105]⟩,⟨#[114,114,105]⟩]
def xG(o t:Nat):Nat:=((NW.getD o ⟨#[]⟩).data.getD t 0).toNat
theorem Fm:∀o,o<9->∀t,t<3->(NW.getD o ⟨#[]⟩).size=3/\((xG o t=99/\Vm.cA o t=1)\/(xG o t=114/\Vm.cA o t=2)\/(xG o t=110/\Vm.cA o t=3)\/(xG o t=107/\Vm.cA o t=4)\/(xG o t=102/\Vm.cA o t=5)\/(xG o t=105/\Vm.cA o t=6)\/(xG o t=45/\Vm.cA o t=0)):=by decide
theorem Mp(w:World):Calls Tryz.prog 43 #[] w fun e w'=>e=.returned (.slice (some ⟨w.heap.size,0,none⟩) 9 9)/\BL w w'/\∀o (_:o<9),w'.cell? ⟨w.heap.size,o,none⟩=some (.string (NW.getD o ⟨#[]⟩)):=by
 go_enter Tryz.func43,Tryz.ntmps43;go_wp2;go_ret;refine⟨rfl,ay.alloc aH _,fun o ho=>?_⟩;rw[aF (aP w _ rfl)];match o,ho with
 |0,_=>rfl
 |1,_=>rfl
 |2,_=>rfl
 |3,_=>rfl
 |4,_=>rfl
 |5,_=>rfl
 |6,_=>rfl
 |7,_=>rfl
 |8,_=>rfl
structure ahj(x:ah.bF):Prop where
 k1:1<=x.ai.length
 k6:x.ai.length<=6
 f:∀k:Nat,k<x.ai.length->1<=(ah.kd x k).aA.length/\(ah.kd x k).aA.length<=10
theorem aei{x:ah.bF}{k f:Nat}(h:f<(ah.kd x k).aA.length):ah.fd x k f=(ah.kd x k).aA[f]:=by
 unfold ah.fd;rw[Int.toNat_natCast,jA,kK h,zOg]
theorem xH{B:Nat}{e:TypeId}{w:World}{v:Value}{p:List Vm.Ins}(h:bC 4 sG (fun _=>True) B e w v p):kF (·<w.heap.size) w v p:=bC.sl cB h (fun _ hb _=>hb) (fun b hb=>(bC.lt h b hb).2)
def abK(x:ah.bF)(w:World)(e:Ending)(w':World):Prop:=∃pv p,e=.returned pv/\Vm.sZ x p/\kF (·<w'.heap.size) w' pv p/\BL w w'
theorem abL{p:Prop}(h:p:=by
  have HN:Hid (oC w2.heap.size (wr.setCell ⟨g3,j*4+3,none⟩ (.int .i64 (qc+3))) (.slice (some ⟨g3,0,none⟩) 10 c3) ((lp.take (j+1)).map Vm.CQ++lp.drop (j+1))):=hid (by
   rw[HS.out]
   exact ahk.out 3 _ (.int .i64 (qc+3)) aC (by simp[qA,Vm.CQ]))
  have lM:Hid (BL w2 (wr.setCell ⟨g3,j*4+3,none⟩ (.int .i64 (qc+3)))):=hid (HB.out.setCell rH.out _)
  go_wp2
  go_roundw
  case rel=>exact⟨j+1,by omega,by go_num,HN,lM⟩
  simp[intOf]
  omega):p:=h
theorem CS{p:Prop}(h:p:=by
  clear hq1 uE
  go_wp2
  go_meet
  case rel=>exact⟨_,rfl,Dn,rfl⟩):p:=h
theorem abM{p:Prop}(h:p:=by
  go_wp2_with fail
  refine(CN k f (-1) 0 op n code w1).mono ?_
  rintro e w5 ⟨u5,rfl,ho,hb⟩
  have U4:=hid ho
  have fF:=aJ bf hb
  clear ho hb
  go_wp2
  go_ret
  exact hid ⟨_,_,rfl,Vm.Fl HD.out (.inl aC),xH U4.out,fF.out⟩):p:=h
theorem Ju(x:ah.bF)(hx:ahj x)(hr:ah.FM x)(L:List Int)(hL:Fit L)(v u:Value)(S T:Nat->Prop)(w:World)(hv:fA S w v x)(hu:cH T w u L):
  Calls Tryz.prog 19 #[v,u] w (abK x w):=by
 refine Calls.mono (R:=fun e w'=>Hid (abK x w e w')) ?_ (fun _ _ h=>h.out);have HV:=hid (fun(X:World) (hX:BL w X)=>hv.keep (aB.below hX));have HFx:=hid hx;have HRu:=hid hr
 have nF:Hid (∀(X:World) (i most:Int),BL w X->1<=most->most<=1000000->0<=i->CP 29 #[u,.int .i64 i,.int .i64 most] X fun e w'=>∃a:Nat,e=.returned (.int .i64 (a:Int))/\(a:Int)<most/\X=w'):=hid (fun X i most hX h1 h2 h3=>(Bc L hL u i most T X (hu.keep (aB.below hX)) h1 (Int.le_trans h2 aC) h3).mono (fun e w' h=>by
  obtain⟨h4,h5⟩:=xV L i.toNat most h1;refine⟨(Q6 L i.toNat most).toNat,?_,by omega,h.2⟩;rw[h.1,Int.toNat_of_nonneg h4]))
 obtain⟨ak,ck,al,cl,ar,cr,rfl,hkk, -, -,hsk, -, -⟩:=hv.form;obtain⟨w1,hw1⟩:=aV (di w x.aI (.slice ak x.ai.length ck) (.slice al x.aN.length cl) (.slice ar x.aO.length cr));have bf:=r9 hw1;have HX:=wv hw1;unfold di at hw1;have HW1:=hid hw1
 have Yz:Hid (∀k:Nat,k<x.ai.length->∃uf,dJ S w1 uf (ah.kd x k).aA/\∀X,BL w1 X->X.cell? ⟨bD ak,bJ ak+k*4+3,none⟩=some uf):=hid (fun k hk=>by
  obtain⟨h1, -, -, -, -,uf,h2,h3⟩:=gJ.at (gJ.keep hkk (aB.below bf.out)) hk;refine⟨uf,?_,fun X hX=>(hX.cell (by exact h1)).trans h2⟩;rw[gm hk];exact h3)
 have Nz:=hid (fun(X:World) (i j:Nat) (hX:BL w X) (hi:i<=1000000) (hj:j<=1000000)=>FL x i j _ S X (HV.out X hX) aC aC);clear hw1 hv hu hx hr hL hkk;obtain⟨m,hm⟩:=aV x.ai.length;have HM:=hid hm;have hm1:(1:Int)<=(m:Int):=by have:=HFx.out.k1;omega
 have hm2:(m:Int)<=6:=by have:=HFx.out.k6;omega
 rw[<-hm] at HX HW1 hsk Nz ⊢;clear hm;obtain⟨⟨y0,y1,y2,y3⟩, -⟩:=aW (HX.out w1 ay);go_enter Tryz.func19,Tryz.ntmps19;go_upto_region 1 with fail;rw[<-HW1.out];go_wp2_with fail;refine(nF.out w1 0 m bf.out hm1 aC aC).mono ?_;rintro e w' ⟨k,rfl,hk,rfl⟩;have hkx:k<x.ai.length:=by have:=HM.out;omega
 obtain⟨uf,hfl,hcf⟩:=Yz.out k hkx;obtain⟨af,cf,rfl,hsf, -, -⟩:=hfl.form;have x3:w1.cell? ⟨bD ak,bJ ak+k*4+3,none⟩=some (.slice af (ah.kd x k).aA.length cf):=hcf w1 ay;have GH:=hid hfl;obtain⟨nf,hnf⟩:=aV ((ah.kd x k).aA.length);have Lg:=hid hnf;have hf1:(1:Int)<=(nf:Int):=by have:=(HFx.out.f k hkx).1;omega
 have hf2:(nf:Int)<=10:=by have:=(HFx.out.f k hkx).2;omega
 rw[<-hnf] at x3 hsf GH;clear hnf hfl hcf;have hk0:(0:Int)<=(k:Int):=by omega
 go_wp2_with fail;refine(nF.out w1 1 nf bf.out hf1 aC aC).mono ?_;rintro e w' ⟨f,rfl,hf,rfl⟩;go_wp2_with fail;refine(nF.out w1 2 12 bf.out aC aC aC).mono ?_;rintro e w' ⟨n0,rfl,hn0,rfl⟩;go_upto_region 4 with fail;obtain⟨n,hn⟩:=aV ((n0:Int)-2:Int);rw[<-hn];have hn1: -2<=n/\n<=9:=by omega
 clear hn hn0;go_wp2_with fail;refine(nF.out w1 3 3 bf.out aC aC aC).mono ?_;rintro e w' ⟨c0,rfl,hc0,rfl⟩;go_upto_region 5 with fail;obtain⟨code,hcd⟩:=aV (1+(c0:Int):Int);rw[<-hcd];have hc1:1<=code/\code<=3:=by omega
 clear hcd hc0;go_wp2_with fail;refine(nF.out w1 4 2 bf.out aC aC aC).mono ?_;rintro e w' ⟨o0,rfl,Ul,rfl⟩;go_upto_region 6 with fail;obtain⟨op,hop⟩:=aV (7+(o0:Int):Int);rw[<-hop];have Pp:op=7\/op=8:=by omega
 clear hop Ul;have HD:Hid (Vm.Fj x k f n code op):=hid ⟨hk0,by have:=HM.out;omega,by omega,by have:=Lg.out;omega,hn1.1,hn1.2,hc1.1,hc1.2,Pp,by have:=HM.out;omega,by have:=Lg.out;omega⟩;have HO:=hid Pp;clear Pp;go_wp2_with fail;refine(nF.out w1 5 6 bf.out aC aC aC).mono ?_;rintro e w' ⟨sw,rfl,hsw,rfl⟩;have hs:sw=0\/sw=1\/sw=2\/sw=3\/4<=sw:=by omega
 clear hsw;rcases hs with rfl|rfl|rfl|rfl|hs
 ·obtain⟨n5,hn5⟩:=aV (max n 1 % 5)
  have hn6:0<=n5/\n5<=4:=by omega
  have U2:=hid hn5;have HN6:=hid hn6;clear hn5 hn6
  have ZH:Hid (kF (·<(w1.alloc (.cells #[.int .i64 4,.int .i64 1,.int .i64 (k:Int),.int .i64 0,.int .i64 1,.int .i64 2,.int .i64 n5,.int .i64 0,.int .i64 7,.int .i64 1,.int .i64 2,.int .i64 4,.int .i64 0,.int .i64 code,.int .i64 0,.int .i64 0] 88)).heap.size) (w1.alloc (.cells #[.int .i64 4,.int .i64 1,.int .i64 (k:Int),.int .i64 0,.int .i64 1,.int .i64 2,.int .i64 n5,.int .i64 0,.int .i64 7,.int .i64 1,.int .i64 2,.int .i64 4,.int .i64 0,.int .i64 code,.int .i64 0,.int .i64 0] 88)) (.slice (some ⟨w1.heap.size,0,none⟩) 4 4) [⟨4,1,k,0⟩,⟨1,2,n5,0⟩,⟨7,1,2,4⟩,⟨0,code,0,0⟩]):=hid
   (mW (α:=Vm.Ins) (n:=4) [[.int .i64 4,.int .i64 1,.int .i64 (k:Int),.int .i64 0],[.int .i64 1,.int .i64 2,.int .i64 n5,.int .i64 0],[.int .i64 7,.int .i64 1,.int .i64 2,.int .i64 4],[.int .i64 0,.int .i64 code,.int .i64 0,.int .i64 0]] (aP w1 _ rfl) rfl rfl aZ aZ aZ (fun j h1 h2=>by
    match j,h1 with
    |0,_=>rfl
    |1,_=>rfl
    |2,_=>rfl
    |3,_=>rfl))
  have A7:=hid (fun(o:Obj)=>bf.out.trans (((Below.refl _ w1).alloc aH o).mono bf.out.size));go_wp2;rw[<-U2.out];go_ret;exact hid ⟨_,_,rfl,Vm.QC HD.out HN6.out,ZH.out,A7.out _⟩
 ·go_wp2_with fail
  refine(nF.out w1 6 m bf.out hm1 aC aC).mono ?_;rintro e w' ⟨other,rfl,hot,rfl⟩;go_wp2_with fail;refine(nF.out w1 7 3 bf.out aC aC aC).mono ?_;rintro e w' ⟨m0,rfl,hm0,rfl⟩;obtain⟨w2,hw2⟩:=aV (w1.alloc (.cells #[.int .i64 4,.int .i64 6,.int .i64 (other:Int),.int .i64 0,.int .i64 1,.int .i64 5,.int .i64 (1+(m0:Int)),.int .i64 0,.int .i64 7,.int .i64 6,.int .i64 5,.int .i64 13] 88));have hb2:BL w1 w2:=by rw[hw2];exact ay.alloc aH _
  have Xc:Hid (oC w1.heap.size w2 (.slice (some ⟨w1.heap.size,0,none⟩) 3 3) [⟨4,6,other,0⟩,⟨1,5,1+(m0:Int),0⟩,⟨7,6,5,13⟩]):=hid
   (tR (RR:=sG) [[.int .i64 4,.int .i64 6,.int .i64 (other:Int),.int .i64 0],[.int .i64 1,.int .i64 5,.int .i64 (1+(m0:Int)),.int .i64 0],[.int .i64 7,.int .i64 6,.int .i64 5,.int .i64 13]] ab9 aH rfl rfl aZ aZ (fun j h1 h2=>by
    match j,h1 with
    |0,_=>rfl
    |1,_=>rfl
    |2,_=>rfl))
  have HG2:=hid (Vm.Wm (other:=other) (m:=1+(m0:Int)) HD.out (by have:=HM.out;omega) aC);have bK:=aJ bf hb2;have HW2:=hid hw2;clear hw2 hb2 hot;go_upto_region 14 with fail;rw[<-HW2.out];clear hm0;go_wp2_with fail;refine(CN k f (-1) 0 op n code w2).mono ?_;rintro e w3 ⟨u3,rfl,ho,hb3⟩;have HLb:=hid (Vm.Mn HD.out);obtain⟨lp,hlp⟩:=aV (Vm.oD k f (-1) 0 op n code);rw[<-hlp] at ho HG2 HLb;have aej:lp.length=10:=HLb.out.1;clear hlp
  obtain⟨a3,c3,rfl⟩:∃a3 c3,u3=.slice a3 10 c3:=by
   obtain⟨x1,x2,e, -⟩:=ho.form;exact⟨x1,x2,by rw[e,aej]⟩
  obtain⟨g3,rfl, -,hg3, -, -⟩:=ho.vM aC;have rH:=hid hg3;have HO0:Hid (oC w2.heap.size w3 (.slice (some ⟨g3,0,none⟩) 10 c3) ((lp.take 0).map Vm.CQ++lp.drop 0)):=hid (by simpa using ho);have bZ:Hid (BL w2 w3):=hid hb3;have Wp:=hid aej;clear ho hb3 hg3 aej;go_wp2;go_loopw [15] (fun i wr=>∃j:Nat,j<=10/\i=.int .i64 (j:Int)/\Hid (oC w2.heap.size wr (.slice (some ⟨g3,0,none⟩) 10 c3) ((lp.take j).map Vm.CQ++lp.drop j))/\Hid (BL w2 wr)) (fun i _=>10-(intOf i).toNat);case atStart=>exact⟨0,Nat.zero_le _,rfl,HO0,bZ⟩
  case round=>
   obtain⟨j,hj,rfl,HO,HB⟩:=hrel;by_cases hlt:j<10
   ·have hj0:(0:Int)<=(j:Int):=by omega
    have hj1:(j:Int)<10:=by omega
    have hjl:j<lp.length:=by rw[Wp.out];exact hlt
    obtain⟨us,hu1,lF,hu3⟩:=bC.at HO.out (j:=j) mV
    have hcur:((lp.take j).map Vm.CQ++lp.drop j)[j]' mV=lp[j]:=by
     rw[XM mV,List.getElem_drop];exact getElem_congr rfl mV _
    rw[hcur] at hu3;have hset:=Vm.ZP hjl;have Du:=hid (Vm.Wj hjl);have jI:=HLb.out.2 _ (gY hjl);have HFz:=hid (bC.free HO.out)
    have ahk:Hid (∀(i:Nat) (y:Vm.Ins) (z:Value),i<4->(qA lp[j]).set i z=qA y->oC w2.heap.size (wr.setCell ⟨g3,j*4+i,none⟩ z) (.slice (some ⟨g3,0,none⟩) 10 c3) (((lp.take j).map Vm.CQ++lp.drop j).set j y)):=hid (fun i y z hi hy=>
     bC.put cB HO.out (by simp[Wp.out];omega) mV hi y z (fun us h=>by
      have h':us=qA (((lp.take j).map Vm.CQ++lp.drop j)[j]' mV):=h;rw[hcur] at h';subst h';exact hy))
    obtain rfl:us=qA lp[j]:=hu3;have HS:=hid hset;clear hset hcur hu1;generalize lp[j]=q at*;obtain⟨qo,qa,qb,qc⟩:=q;obtain⟨s1,s2,s3,s4⟩:=jI;simp only at s1 s2 s3 s4;have x0:wr.cell? ⟨g3,j*4,none⟩=some (.int .i64 qo):=lF 0 _ rfl;have x1:wr.cell? ⟨g3,j*4+1,none⟩=some (.int .i64 qa):=lF 1 _ rfl;have x3:wr.cell? ⟨g3,j*4+3,none⟩=some (.int .i64 qc):=lF 3 _ rfl;have z1:wr.frozen? ⟨g3,j*4+1,none⟩=false:=HFz.out _;have z3:wr.frozen? ⟨g3,j*4+3,none⟩=false:=HFz.out _;clear lF;by_cases h6:qo=6
    ·have h7:¬qo=7:=by omega
     have h8:¬qo=8:=by omega
     have e6:(qo==6)=true:=by simpa using h6
     have e7:(qo==7)=false:=by simpa using h7
     have e8:(qo==8)=false:=by simpa using h8
     have HN:Hid (oC w2.heap.size (wr.setCell ⟨g3,j*4+1,none⟩ (.int .i64 (qa+3))) (.slice (some ⟨g3,0,none⟩) 10 c3) ((lp.take (j+1)).map Vm.CQ++lp.drop (j+1))):=hid (by
      rw[HS.out]
      exact ahk.out 1 _ (.int .i64 (qa+3)) aC (by simp[qA,Vm.CQ,h6]))
     have lM:Hid (BL w2 (wr.setCell ⟨g3,j*4+1,none⟩ (.int .i64 (qa+3)))):=hid (HB.out.setCell rH.out _);subst h6;go_wp2;go_roundw;case rel=>exact⟨j+1,by omega,by go_num,HN,lM⟩
     simp[intOf];omega
    ·by_cases h7:qo=7
     ·subst h7
      have e6:((7:Int)==6)=false:=rfl
      exact abL
     ·by_cases h8:qo=8
      ·subst h8
       have e6:((8:Int)==6)=false:=rfl
       exact abL
      ·have e6:(qo==6)=false:=by simpa using h6
       have e7:(qo==7)=false:=by simpa using h7
       have e8:(qo==8)=false:=by simpa using h8
       have HN:Hid (oC w2.heap.size wr (.slice (some ⟨g3,0,none⟩) 10 c3) ((lp.take (j+1)).map Vm.CQ++lp.drop (j+1))):=hid (by
        rw[Du.out (by simp[Vm.CQ,h6,h7,h8])]
        exact HO.out)
       have lM:=HB;go_wp2;go_roundw;case rel=>exact⟨j+1,by omega,by go_num,HN,lM⟩
       simp[intOf];omega
   ·obtain rfl:j=10:=by omega
    have HQ:Hid (oC w2.heap.size wr (.slice (some ⟨g3,0,none⟩) 10 c3) (lp.map Vm.CQ)):=hid (by
     have:=HO.out
     rw[zTl (by rw[Wp.out];exact aH),List.drop_of_length_le (by rw[Wp.out];exact aH),List.append_nil] at this
     exact this)
    have AL:Hid (dO 4 (sG (fun _=>False)) (·<wr.heap.size) wr (.slice (some ⟨g3,0,none⟩) 10 c3) (lp.map Vm.CQ)):=hid (xH HQ.out);have Y0:Hid (oC w1.heap.size wr (.slice (some ⟨w1.heap.size,0,none⟩) 3 3) [⟨4,6,other,0⟩,⟨1,5,1+(m0:Int),0⟩,⟨7,6,5,13⟩]):=hid (bC.keep cB Xc.out (fun b _ hl=>HB.out.block b hl));have qC:=aJ bK HB.out
    have hone:∀us (y:Vm.Ins),sG (fun _=>False) wr us y->∀u∈us,u.oneCell'=true:=fun us y h=>by
     obtain rfl:us=qA y:=h;exact tQ
    have hbase:w1.heap.size<=wr.heap.size:=by
     have h1:=(bC.lt Y0.out w1.heap.size rfl).2;omega
    have hls:([⟨4,6,other,0⟩,⟨1,5,1+(m0:Int),0⟩,⟨7,6,5,13⟩]:List Vm.Ins).length+(lp.map Vm.CQ).length<=1000000000:=by
     rw[FD,Wp.out];simp
    go_wp2_with (at_builtin;go_must (refine eY (ys:=lp.map Vm.CQ) cB rfl _ _ rfl Tryz.Wg rfl Y0.out rfl AL.out (fun _ _ h=>h.elim) hone hls hbase ?_));intro v' w7 how ht hn;obtain⟨a',c',rfl, -⟩:=how.form;have HO7:=hid how;have oT:Hid (BL w w7):=hid (qC.out.trans (ht.below qC.out.size (fun b hb=>by cases hb;exact bf.out.size)));clear how ht hn hone hbase hls;go_wp2;go_ret;exact hid ⟨_,_,rfl,HG2.out,xH HO7.out,oT.out⟩
 ·go_wp2_with fail
  refine(nF.out w1 6 9 bf.out aC aC aC).mono ?_;rintro e w' ⟨many,rfl,hmany,rfl⟩;go_wp2;go_loopw [16,18] (fun sp si wr=>∃(j:Nat) (p:List Vm.Ins) (am:Option Addr) (cm:Nat),j<=many/\sp=.slice am j cm/\si=.int .i64 (j:Int)/\Hid (p.length=j)/\Hid (oC w1.heap.size wr (.slice am j cm) p)/\Hid (∀i∈p,Vm.jE many i=true/\Vm.dH x i=true)/\Hid (BL w1 wr)) (fun _ si _=>many-(intOf si).toNat);case atStart=>exact⟨0,[],none,0,Nat.zero_le _,rfl,rfl,hid rfl,hid (bC.nil _ _ _ _ _ _),hid (fun _ h=>by simp at h),hid ay⟩
  case round=>
   obtain⟨j,p,am,cm,hj,rfl,rfl,RE,NX,HPg,HBj⟩:=hrel;have Oy:=aJ bf HBj.out;by_cases hlt:j<many
   ·have hjm:(j:Int)<(many:Int):=by omega
    have hj8:(j:Int)<=8:=by omega
    go_wp2_with fail;refine(nF.out wr (7+4*(j:Int)) 9 Oy.out aC aC aC).mono ?_;rintro e w' ⟨o,rfl,ho,rfl⟩;go_wp2;generalize Ry:wr=Wb at*;go_loopw [20,21] (fun sv st wr=>∃(t:Nat) (vs:List Int) (av:Option Addr) (cv:Nat),t<=3/\sv=.slice av t cv/\st=.int .i64 (t:Int)/\Hid (vs.length=t)/\Hid (dr (Wb.heap.size<=·) wr (.slice av t cv) vs)/\Hid (∀q (h:q<vs.length),Vm.iy k f many (Vm.cA o q) vs[q])/\Hid (BL Wb wr)) (fun _ st _=>3-(intOf st).toNat);case atStart=>exact⟨0,[],none,0,Nat.zero_le _,rfl,rfl,hid rfl,hid (dr.nil _ _),hid (fun _ h=>by simp at h),hid ay⟩
    case round=>
     obtain⟨t,vs,av,cv,ht,rfl,rfl,HVl,HVo,HVn,HBt⟩:=hrel;have HBx:=aJ Oy HBt.out;by_cases hlt2:t<3
     ·have ht3:(t:Int)<3:=by omega
      go_wp2_with fail;refine(nF.out wr (8+4*(j:Int)+(t:Int)) 720 HBx.out aC aC aC).mono ?_;rintro e w' ⟨m7,rfl,OG,rfl⟩;have Rs:Hid (0<=(k:Int)/\(k:Int)<=5/\0<=(f:Int)/\(f:Int)<=9/\0<=(many:Int)/\(many:Int)<=8):=hid (by have:=HFx.out.k6;have:=(HFx.out.f k hkx).2;have:=Lg.out;have:=HM.out;omega);have MZ:Hid (0<=(m7:Int)/\(m7:Int)<720):=hid ⟨by omega,OG⟩;have hm70:(0:Int)<=(m7:Int):=by omega
      go_wp2_with fail;refine(Mp wr).mono ?_;rintro e w4 ⟨rfl,hb4,hs4⟩;have f9:Hid (BL wr w4):=hid hb4;have hso:=hs4 o aC;have Ul:(0:Int)<=(o:Int):=by omega
      have ho9:(o:Int)<9:=by omega
      have ht0:(0:Int)<=(t:Int):=by omega
      obtain⟨so,ZQ⟩:=aV (NW.getD o ⟨#[]⟩);have Eo:so.size=3:=by rw[ZQ];exact(Fm o aC t hlt2).1
      have hts:t<so.size:=by omega
      have Wq:=(Fm o aC t hlt2).2;rw[<-ZQ] at hso
      have hcc:∃cc:Nat,cc=(so[t]'hts).toNat/\cc=xG o t:=⟨_,rfl,by
       unfold xG
       rw[<-ZQ]
       have h1:so.data.getD t 0=so[t]'hts:=by
        rw[Array.getD_eq_getD_getElem?,Array.getElem?_eq_getElem (by exact hts)];rfl
       rw[h1]⟩
      obtain⟨cc,aek,ahl⟩:=hcc;rw[<-ahl] at Wq;have HCod:=hid Wq;clear ZQ hs4 ahl hb4 Eo Wq;go_upto_block 7 with fail;rw[<-aek];go_cut [22] from 144 to 189 (fun q wx=>∃vv:Int,q=.int .i64 vv/\Hid (Vm.iy k f many (Vm.cA o t) vv)/\w4=wx)
      case first=>
       clear aek hso hts;have Wq:=HCod.out;rcases Wq with⟨hq1,uE⟩|⟨hq1,uE⟩|⟨hq1,uE⟩|⟨hq1,uE⟩|⟨hq1,uE⟩|⟨hq1,uE⟩|⟨hq1,uE⟩
       ·have hcc:cc=99:=hq1
        subst hcc
        have Dn:Hid (Vm.iy k f many (Vm.cA o t) ((m7:Int) % 4)):=hid (by
         have h1:=Rs.out
         have h2:=MZ.out
         rw[uE]
         unfold Vm.iy Vm.iz Vm.jD
         refine⟨⟨?_,?_⟩,?_,?_⟩<;>simp<;>omega)
        exact CS
       ·have hcc:cc=114:=hq1
        subst hcc
        have Dn:Hid (Vm.iy k f many (Vm.cA o t) ((m7:Int) % 8)):=hid (by
         have h1:=Rs.out
         have h2:=MZ.out
         rw[uE]
         unfold Vm.iy Vm.iz Vm.jD
         refine⟨⟨?_,?_⟩,?_,?_⟩<;>simp<;>omega)
        exact CS
       ·have hcc:cc=110:=hq1
        subst hcc
        have Dn:Hid (Vm.iy k f many (Vm.cA o t) ((m7:Int) % 9-2)):=hid (by
         have h1:=Rs.out
         have h2:=MZ.out
         rw[uE]
         unfold Vm.iy Vm.iz Vm.jD
         refine⟨⟨?_,?_⟩,?_,?_⟩<;>simp<;>omega)
        exact CS
       ·have hcc:cc=107:=hq1
        subst hcc
        have Dn:Hid (Vm.iy k f many (Vm.cA o t) ((k:Int))):=hid (by
         have h1:=Rs.out
         have h2:=MZ.out
         rw[uE]
         unfold Vm.iy Vm.iz Vm.jD
         refine⟨⟨?_,?_⟩,?_,?_⟩<;>simp<;>omega)
        exact CS
       ·have hcc:cc=102:=hq1
        subst hcc
        have Dn:Hid (Vm.iy k f many (Vm.cA o t) ((f:Int))):=hid (by
         have h1:=Rs.out
         have h2:=MZ.out
         rw[uE]
         unfold Vm.iy Vm.iz Vm.jD
         refine⟨⟨?_,?_⟩,?_,?_⟩<;>simp<;>omega)
        exact CS
       ·have hcc:cc=105:=hq1
        subst hcc;have hm8:¬((many:Int)+1=0):=by omega
        have hm9:(0:Int)<=(many:Int)/\(many:Int)<=8:=⟨by omega,by omega⟩;obtain⟨hm10,hm11⟩:=hm9
        have Dn:Hid (Vm.iy k f many (Vm.cA o t) ((m7:Int) % ((many:Int)+1))):=hid (by
         have h1:=Rs.out
         have h2:=MZ.out
         have h5:=Int.emod_lt_of_pos (m7:Int) (show (0:Int)<(many:Int)+1 by omega)
         have h6:=Int.emod_nonneg (m7:Int) (show ((many:Int)+1)≠0 by omega)
         rw[uE]
         unfold Vm.iy Vm.iz Vm.jD
         refine⟨⟨?_,?_⟩,?_,?_⟩<;>simp<;>omega)
        exact CS
       ·have hcc:cc=45:=hq1
        subst hcc
        have Dn:Hid (Vm.iy k f many (Vm.cA o t) (0)):=hid (by
         have h1:=Rs.out
         have h2:=MZ.out
         rw[uE]
         unfold Vm.iy Vm.iz Vm.jD
         refine⟨⟨?_,?_⟩,?_,?_⟩<;>simp<;>omega)
        exact CS
      case rest=>
       obtain⟨vv,rfl,Dn,rfl⟩:=hcut;have Xp:=hid (bP.keep HVo.out (aB.below f9.out));have Ng:Wb.heap.size<=w4.heap.size:=Nat.le_trans HBt.out.size f9.out.size;go_wp2_with (at_builtin;go_must (refine lQ rfl _ _ rfl Tryz.MH rfl Xp.out (ay.alloc aH _) rfl (tA mJ w4 _ vv rfl trivial) (by have:=HVl.out;omega) ?_));intro v' w8 Ye Dj;have hl2:(vs++[vv]).length=t+1:=by rw[rG,HVl.out];rfl
       obtain⟨a2,c2,rfl, -, -, -⟩:=(dr.sl Ye).form;rw[hl2] at Ye ⊢;have adi:=hid hl2;have HVo2:Hid (dr (Wb.heap.size<=·) w8 (.slice a2 (t+1) c2) (vs++[vv])):=hid (bP.mono Ye (fun b _ hb=>gX aC b hb));have HBt2:Hid (BL Wb w8):=hid (((cO HBt.out f9.out).alloc aC _).trans (Dj.below mV (fun b hb=>Xp.out.2 b hb.symm)))
       have HVn2:Hid (∀q (h:q<(vs++[vv]).length),Vm.iy k f many (Vm.cA o q) (vs++[vv])[q]):=hid (fun q hq=>by
        by_cases hqv:q<vs.length
        ·rw[RW hqv];exact HVn.out q hqv
        ·have e:q=t:=by have:=HVl.out;rw[rG] at hq;simp at hq;omega
         rw[XM aC];simp only[List.getElem_singleton];rw[e];exact Dn.out)
       clear Ye Dj hl2 Xp Ng aek hso hts;go_wp2;go_roundw;case rel=>exact⟨t+1,vs++[vv],a2,c2,by omega,rfl,by go_num,adi,HVo2,HVn2,HBt2⟩
       simp[intOf];omega
     ·obtain rfl:t=3:=by omega
      obtain⟨va,vb,vc,rfl⟩:∃a b c,vs=[a,b,c]:=by
       have:=HVl.out;match vs,this with
       |[a,b,c],_=>exact⟨a,b,c,rfl⟩
      have HGd:Hid (Vm.jE many ⟨o,va,vb,vc⟩=true/\Vm.dH x ⟨o,va,vb,vc⟩=true):=hid (Vm.Wn HD.out ⟨by omega,by omega⟩ (HVn.out 0 aZ) (HVn.out 1 aZ) (HVn.out 2 aZ))
      obtain⟨hav,hcs⟩:dI av 3/\(∀j:Nat,∀h:j<3,∀X,BL wr X->X.cell? ⟨bD av,bJ av+j,none⟩=some (.int .i64 ([va,vb,vc][j]'h))):=by
       have hsl:=dr.sl HVo.out;obtain⟨_,_,e,h1, -⟩:=hsl.form;cases e;refine⟨h1,fun j hj X hX=>?_⟩;obtain⟨u',h2,h3⟩:=(cH.keep hsl (aB.below hX)).at (j:=j) (by exact hj);rw[h2,h3.2]
      have Dk:=dL wr ⟨bD av,bJ av,none⟩ (.int .i64 va) fun xh=>hcs 0 aC xh.1 xh.2;have hq1:=dL wr ⟨bD av,bJ av+1,none⟩ (.int .i64 vb) fun xh=>hcs 1 aC xh.1 xh.2;have uE:=dL wr ⟨bD av,bJ av+2,none⟩ (.int .i64 vc) fun xh=>hcs 2 aC xh.1 xh.2;clear hcs;go_upto_region 50 with fail;refine sQ wr 13 (.quiet 0 (.quiet 1 (.quiet 2 (.quiet 3 (.quiet 4 (.quiet 5 (.quiet 6 (.quiet 7 (.quiet 8 (.quiet 9 (.quiet 10 (.quiet 11 (.one 12 .done))))))))))))) lN (by kernel_rfl) fun wq iK=>?_
      iterate 12 refine eB ?_
      refine aM rfl ?_;go_wp2_with fail;refine aD (BL wr) (fun _ h=>h) (iK.out.alloc iK.out.size _) ?_;refine aT ?_;try simp only[iW,iX]
      clear Dk hq1 uE;have ael:Hid (BL Wb wq):=hid (cO HBt.out iK.out);have Qi:Hid (oC w1.heap.size wq (.slice am j cm) p):=hid (bC.keep cB NX.out (fun b hb hl=>ael.out.block b hl));have hbz:w1.heap.size<=wq.heap.size:=Nat.le_trans HBj.out.size ael.out.size;have jI:p.length+1<=1000000000:=by rw[RE.out];omega
      go_wp2_with (at_builtin;go_must (refine cF cB rfl _ _ rfl Tryz.Wg rfl Qi.out (us:=[.int .i64 o,.int .i64 va,.int .i64 vb,.int .i64 vc]) rfl rfl rfl ⟨o,va,vb,vc⟩ rfl tQ jI hbz ?_));intro v' w6 how ht hn;have aem:(p++[(⟨(o:Int),va,vb,vc⟩:Vm.Ins)]).length=j+1:=by rw[rG,RE.out];rfl
      obtain⟨a',c',rfl⟩:∃a' c',v'=.slice a' (j+1) c':=by
       obtain⟨a1,c1,e, -⟩:=how.form;exact⟨a1,c1,by rw[e,aem]⟩
      have wR:=hid how;have HPl2:=hid aem;have bK:Hid (BL w1 w6):=hid ((cO HBj.out ael.out).trans (ht.below hbz (fun b hb=>(bC.lt Qi.out b hb.symm).1)))
      have HPg2:Hid (∀i∈p++[(⟨(o:Int),va,vb,vc⟩:Vm.Ins)],Vm.jE many i=true/\Vm.dH x i=true):=hid (fun i hi=>by
       rcases List.mem_append.1 hi with hi|hi
       ·exact HPg.out i hi
       ·rw[nU] at hi
        subst hi;exact HGd.out)
      clear how ht hn jI hbz Qi aem;go_wp2;go_roundw;case rel=>exact⟨j+1,_,a',c',by omega,rfl,by go_num,HPl2,wR,HPg2,bK⟩
      simp[intOf];omega
   ·obtain rfl:j=many:=by omega
    have HGo:Hid (Vm.sZ x p):=hid (Vm.sZ.mk (by rw[RE.out];omega) (by rw[RE.out];exact HPg.out));go_wp2;go_ret;exact hid ⟨_,_,rfl,HGo.out,xH NX.out,Oy.out⟩
 ·obtain⟨fk,x4⟩:∃fk,w1.cell? ⟨bD af,bJ af+f*8+3,none⟩=some (.int .i64 fk)/\fk=(ah.fd x k f).kind:=by
   have:=dJ.at GH.out (j:=f) (by have:=Lg.out;omega)
   exact⟨_,this.2.2.2.2.2.1,by rw[aei (by have:=Lg.out;omega)]⟩
  obtain⟨x4,oK⟩:=x4;have JW:=hid oK;clear oK;by_cases hr1:fk=1
  ·have Ai:f<(ah.kd x k).aA.length:=by have:=Lg.out;omega
   have acM:=HRu.out k f hkx Ai (JW.out.symm.trans hr1);have ahm:=ah.uW x k f hk0;have HU:=hid (Nz.out w1 k f bf.out aC aC);obtain⟨up,hup⟩:∃up:Nat,ah.dV x k f=(up:Int):=⟨(ah.dV x k f).toNat,by omega⟩;rw[hup] at HU ahm;have aen:up<x.ai.length:=by omega
   obtain⟨uf2,acC,aeo⟩:=Yz.out up aen;obtain⟨af2,cf2,rfl, -, -, -⟩:=acC.form;obtain⟨nf2,aep⟩:=aV ((ah.kd x up).aA.length);have HNf2:=hid aep;have hg1:(1:Int)<=(nf2:Int):=by have:=(HFx.out.f up aen).1;omega
   have hg2:(nf2:Int)<=10:=by have:=(HFx.out.f up aen).2;omega
   rw[<-aep] at aeo;have HCf2:=hid aeo;have hu0:(0:Int)<=(up:Int):=by omega
   have hu1:(up:Int)<(m:Int):=by have:=HM.out;omega
   clear hup acM ahm aep aeo acC Ai;subst hr1;go_wp2_with fail;refine HU.out.mono ?_;rintro e w2 ⟨rfl,hb2⟩;have bK:=aJ bf hb2;have eC:=hid hb2;clear hb2 y0 y1 y2 y3 x3 x4;obtain⟨⟨y0,y1,y2,y3⟩, -⟩:=aW (HX.out w2 eC.out);have x3:w2.cell? ⟨bD ak,bJ ak+up*4+3,none⟩=some (.slice af2 nf2 cf2):=HCf2.out w2 eC.out;go_wp2_with fail;refine(nF.out w2 6 nf2 bK.out hg1 aC aC).mono ?_;rintro e w' ⟨g,rfl,hg,rfl⟩;have HG:Hid (Vm.ahi x up g):=hid (.inr ⟨by omega,by omega,by have:=HNf2.out;omega,by omega⟩);clear hg hg1 hg2 hu1;go_wp2_with fail;refine(CN k f up g op n code w2).mono ?_;rintro e w5 ⟨u5,rfl,ho,hb⟩;have U4:=hid ho;have fF:=aJ bK hb;clear ho hb;go_wp2;go_ret;exact hid ⟨_,_,rfl,Vm.Fl HD.out HG.out,xH U4.out,fF.out⟩
  ·have AJ:(fk==1)=false:=by simpa using hr1
   exact abM
 ·have hs0:¬(sw:Int)=0:=by omega
  have hs1:¬(sw:Int)=1:=by omega
  have hs2:¬(sw:Int)=2:=by omega
  have hs3:¬(sw:Int)=3:=by omega
  have hs4:¬sw=0:=by omega
  have hs5:¬sw=1:=by omega
  have hs6:¬sw=2:=by omega
  have hs7:¬sw=3:=by omega
  exact abM
end Go.Proofs.YteiakkfdchnddaaGreatDoor
namespace Go.Proofs.YteiakkfdchnddaaGreatDoor.Wk
structure tZ where
 known:Bool
 code:Int
 bN:Int
structure Jv where
 task:Int
 fin:Bool
 code:Int
 iV:Int
 nR:Int
structure Pl where
 book:List tZ
 ws:List Jv
 runs:Int
 cW:Int
def zeroE:tZ:=⟨false,0, -1⟩
def idle:Jv:=⟨-1,false,0, -1,0⟩
def cM(c:Int)(ok:tZ->Bool):List tZ->Nat->Int
 |[],_=> -1
 |t::l,i=>if t.known=true/\t.code=c then -1 else if t.known=false/\ok t=true then ((i:Nat):Int) else cM c ok l (i+1)
def ent(s:Pl)(t:Int):tZ:=s.book.getD t.toNat zeroE
def bU(s:Pl)(i:Int):Jv:=s.ws.getD i.toNat idle
def jv(s:Pl)(t:Int)(e:tZ):Pl:={s with book:=s.book.set t.toNat e}
def dD(s:Pl)(i:Int)(x:Jv):Pl:={s with ws:=s.ws.set i.toNat x}
def arrive(s:Pl)(t c:Int):Pl:=if (ent s t).known=true then {s with cW:=s.cW+1} else jv s t ⟨true,c,(ent s t).bN⟩
def free:tZ->Bool:=fun t=>decide (t.bN= -1)
def Mq:tZ->Bool:=fun _=>true
def kO(c:Int)(s:Pl)(i:Int):Pl×Int:=
 if (bU s i).task≠ -1 then (s,8) else if cM c free s.book 0= -1 then (s,6)
 else (dD (jv s (cM c free s.book 0) {ent s (cM c free s.book 0) with bN:=i}) i {bU s i with task:=cM c free s.book 0,fin:=false},0)
def gV(f:Int->Int)(s:Pl)(i:Int):Pl×Int:=
 if (bU s i).task= -1\/(bU s i).fin=true then (s,8) else ({dD s i {bU s i with fin:=true,code:=f (bU s i).task} with runs:=s.runs+1},0)
def freed(s:Pl)(t i:Int):Pl:=if (ent s t).bN=i then jv s t {ent s t with bN:= -1} else s
def mh(s:Pl)(i:Int):Pl×Int:=
 if (bU s i).task= -1\/(bU s i).fin=false then (s,8)
 else (dD (freed (arrive s (bU s i).task (bU s i).code) (bU s i).task i) i ⟨-1,false,(bU s i).code,(bU s i).task,(bU s i).code⟩,0)
def mC(s:Pl)(i:Int):Pl×Int:=if (bU s i).iV= -1 then (s,8) else (arrive s (bU s i).iV (bU s i).nR,0)
def nT(s:Pl)(i:Int):Pl×Int:=(dD s i idle,0)
def gN(i:Int)(e:tZ):tZ:=if e.bN=i then {e with bN:= -1} else e
def eE(s:Pl)(i n:Int):Pl×Int:=
 if s.book.any (fun e=>decide (e.bN=i))=false then (s,8)
 else ({s with book:=s.book.map (gN i),ws:=if n=0 then s.ws.set i.toNat {bU s i with task:= -1,fin:=false} else s.ws},0)
def vH(s:Pl)(i k n:Int):Prop:=k<0\/5<k\/i<0\/(s.ws.length:Int)<=i\/(k=5/\(n<0\/1000<n))
instance (s:Pl) (i k n:Int):Decidable (vH s i k n):=by unfold vH;exact inferInstance
def bM(c:Int)(f:Int->Int)(s:Pl)(i k n:Int):Pl×Int:=
 if vH s i k n then (s,1) else if k=0 then kO c s i else if k=1 then gV f s i else if k=2 then mh s i else if k=3 then mC s i else if k=4 then nT s i else eE s i n
theorem abN{p:Prop}(h:p:=by
  simp only
  rw[Sub.wB]
  by_cases h:t=j
  ·rw[if_pos ⟨by omega,by omega⟩,if_pos h]
  ·rw[if_neg aC,if_neg h]):p:=h
theorem jG{s:Pl}{t j:Int}{e:tZ}(ht:0<=t/\t<s.book.length)(hj:0<=j):ent (jv s t e) j=if t=j then e else ent s j:=by
 unfold ent jv;exact abN
theorem fe{s:Pl}{t j:Int}{e:Jv}(ht:0<=t/\t<s.ws.length)(hj:0<=j):bU (dD s t e) j=if t=j then e else bU s j:=by
 unfold bU dD;exact abN
theorem jH(s:Pl)(t j:Int)(e:Jv):ent (dD s t e) j=ent s j:=rfl
theorem Jw(s:Pl)(t j:Int)(e:tZ):bU (jv s t e) j=bU s j:=rfl
theorem qJ(c:Int)(ok:tZ->Bool):∀(l:List tZ) (i:Nat),cM c ok l i= -1\/∃k,k<l.length/\cM c ok l i=((i+k:Nat):Int)/\(l.getD k zeroE).known=false/\ok (l.getD k zeroE)=true
 |[],_=>.inl rfl
 |t::l,i=>by
  unfold cM;split
  ·exact .inl rfl
  ·split
   ·rename_i h;exact .inr ⟨0,by simp,by simp,h.1,h.2⟩
   ·rcases qJ c ok l (i+1) with h|⟨k,h1,h2,h3,h4⟩
    ·exact .inl h
    ·refine .inr ⟨k+1,by simp;omega,by rw[h2];congr 1;omega,?_,?_⟩
     ·simpa using h3
     ·simpa using h4
theorem zZ{c:Int}{ok ok':tZ->Bool}:∀{l:List tZ} {i:Nat},(∀e∈l,ok e=ok' e)->cM c ok l i=cM c ok' l i
 |[],_,_=>rfl
 |t::l,i,h=>by
  unfold cM;rw[h t aZ,zZ (l:=l) (fun e he=>h e (by simp[he]))]
theorem z8{c:Int}{ok:tZ->Bool}:∀{l:List tZ} {i:Nat},(∀e∈l,e.known=true)->cM c ok l i= -1
 |[],_,_=>rfl
 |t::l,i,h=>by
  unfold cM;split
  ·rfl
  ·rw[if_neg (by rw[h t aZ];simp)]
   exact z8 (fun e he=>h e (by simp[he]))
theorem Jy{c:Int}{ok:tZ->Bool}{l:List tZ}{k:Nat}(h:k<l.length):cM c ok (l.drop k) k=if l[k].known=true/\l[k].code=c then -1 else if l[k].known=false/\ok l[k]=true then ((k:Nat):Int) else cM c ok (l.drop (k+1)) (k+1):=by
 rw[List.drop_eq_getElem_cons h];rfl
structure Ok(n m:Nat)(s:Pl):Prop where
 bl:s.book.length=n
 wl:s.ws.length=m
 tk:∀i:Int,0<=i->i<m-> -1<=(bU s i).task/\(bU s i).task<n/\ -1<=(bU s i).iV/\(bU s i).iV<n
 ls:∀j:Int,0<=j->j<n-> -1<=(ent s j).bN/\(ent s j).bN<m
 kn:∀i:Int,0<=i->i<m->(bU s i).iV≠ -1->(ent s (bU s i).iV).known=true
 rn:0<=s.runs/\0<=s.cW
theorem Ok.first{n m:Nat}{s:Pl}(h:Ok n m s)(c:Int)(ok:tZ->Bool)(h0:cM c ok s.book 0≠ -1):0<=cM c ok s.book 0/\cM c ok s.book 0<n/\(ent s (cM c ok s.book 0)).known=false/\ok (ent s (cM c ok s.book 0))=true:=by
 rcases qJ c ok s.book 0 with h1|⟨k,h1,h2,h3,h4⟩
 ·exact absurd h1 h0
 ·have h5:=h.bl
  rw[h2];unfold ent;simp only[Nat.zero_add,Int.toNat_natCast];exact⟨by omega,by omega,h3,h4⟩
theorem jV(s:Pl)(t c:Int):(arrive s t c).book.length=s.book.length:=by unfold arrive jv;split<;>simp
theorem jw(s:Pl)(t c:Int):(arrive s t c).ws=s.ws:=by unfold arrive jv;split<;>rfl
theorem oF(s:Pl)(t c:Int):(arrive s t c).runs=s.runs:=by unfold arrive jv;split<;>rfl
theorem mT{s:Pl}{t c j:Int}(ht:0<=t/\t<s.book.length)(hj:0<=j):(ent (arrive s t c) j).bN=(ent s j).bN:=by
 unfold arrive;split
 ·rfl
 ·rw[jG ht hj]
  split
  ·rename_i h;rw[h]
  ·rfl
theorem qK{s:Pl}{t c j:Int}(ht:0<=t/\t<s.book.length)(hj:0<=j):(ent (arrive s t c) j).known=(decide (t=j)||(ent s j).known):=by
 unfold arrive;split
 ·rename_i h
  by_cases e:t=j
  ·subst e;show (ent s t).known=_;rw[h];simp
  ·rw[decide_eq_false e];rfl
 ·rw[jG ht hj]
  by_cases e:t=j
  ·rw[if_pos e,decide_eq_true e];rfl
  ·rw[if_neg e,decide_eq_false e];rfl
theorem Aa{s:Pl}{t i j:Int}(ht:0<=t/\t<s.book.length)(hj:0<=j):(ent (freed s t i) j).known=(ent s j).known:=by
 unfold freed;split
 ·rw[jG ht hj]
  split
  ·rename_i h;rw[h]
  ·rfl
 ·rfl
theorem tq{s:Pl}{t i j:Int}(ht:0<=t/\t<s.book.length)(hj:0<=j):(ent (freed s t i) j).bN=if t=j/\(ent s j).bN=i then -1 else (ent s j).bN:=by
 unfold freed;split
 ·rename_i h
  rw[jG ht hj];by_cases e:t=j
  ·subst e;rw[if_pos rfl,if_pos ⟨rfl,h⟩]
  ·rw[if_neg e,if_neg (fun h=>e h.1)]
 ·rename_i h
  rw[if_neg (fun g=>h (by rw[g.1];exact g.2))]
theorem p8(s:Pl)(t i:Int):(freed s t i).ws=s.ws:=by unfold freed jv;split<;>rfl
theorem Mr(s:Pl)(t i:Int):(freed s t i).book.length=s.book.length:=by unfold freed jv;split<;>simp
theorem jP(s:Pl)(t i:Int):(freed s t i).runs=s.runs/\(freed s t i).cW=s.cW:=by unfold freed jv;split<;>exact⟨rfl,rfl⟩
theorem Gn{s:Pl}{g:tZ->tZ}{ws:List Jv}{j:Int}(hj:0<=j/\j<s.book.length):ent {s with book:=s.book.map g,ws:=ws} j=g (ent s j):=by
 unfold ent;simp only;have h:j.toNat<s.book.length:=by omega
 rw[Sub.aX (xs:=s.book.map g) uO,Sub.aX h];simp
theorem Gp(i:Int)(e:tZ):(gN i e).known=e.known:=by unfold gN;split<;>rfl
theorem xI(i:Int)(e:tZ):(gN i e).bN=if e.bN=i then -1 else e.bN:=by unfold gN;split<;>rfl
end Go.Proofs.YteiakkfdchnddaaGreatDoor.Wk
namespace Go.Proofs.YteiakkfdchnddaaGreatDoor.Wk
def Inc(s s':Pl):Prop:=s.runs<=s'.runs/\s'.runs<=s.runs+1/\s.cW<=s'.cW/\s'.cW<=s.cW+1
theorem Inc.refl(s:Pl):Inc s s:=by unfold Inc;omega
theorem Ok.take{n m:Nat}{c i:Int}{s:Pl}(h:Ok n m s)(hi:0<=i/\i<m):Ok n m (kO c s i).1/\Inc s (kO c s i).1:=by
 unfold kO;split
 ·exact⟨h,.refl _⟩
 ·split
  ·exact⟨h,.refl _⟩
  ·rename_i h1 h2
   obtain⟨a1,a2,a3,a4⟩:=h.first c free h2;generalize cM c free s.book 0=j at*;have hb:=h.bl;have hw:=h.wl;have hj:0<=j/\j<s.book.length:=⟨a1,by omega⟩;have hiw:0<=i/\i<(jv s j {ent s j with bN:=i}).ws.length:=⟨hi.1,by show i<s.ws.length;omega⟩;refine⟨⟨by simp[dD,jv,hb],by simp[dD,jv,hw],fun q q1 q2=>?_,fun q q1 q2=>?_,fun q q1 q2=>?_,h.rn⟩,.refl _⟩
   ·rw[fe hiw q1]
    split
    ·have:=h.tk i hi.1 hi.2;simp only;omega
    ·exact h.tk q q1 q2
   ·rw[jH,jG hj q1]
    split
    ·simp only;omega
    ·exact h.ls q q1 q2
   ·rw[fe hiw q1]
    have key:∀t:Int, -1<=t->t≠ -1->(ent s t).known=true->(ent (dD (jv s j {ent s j with bN:=i}) i {bU s i with task:=j,fin:=false}) t).known=true:=fun t t0 t1 t2=>by
     rw[jH,jG hj aC];split
     ·rename_i e;subst e;exact t2
     ·exact t2
    split
    ·intro hl;exact key _ (h.tk i hi.1 hi.2).2.2.1 hl (h.kn i hi.1 hi.2 hl)
    ·intro hl;exact key _ (h.tk q q1 q2).2.2.1 hl (h.kn q q1 q2 hl)
theorem Ok.finish{n m:Nat}{f:Int->Int}{i:Int}{s:Pl}(h:Ok n m s)(hi:0<=i/\i<m):Ok n m (gV f s i).1/\Inc s (gV f s i).1:=by
 unfold gV;split
 ·exact⟨h,.refl _⟩
 ·have hw:=h.wl
  have hiw:0<=i/\i<s.ws.length:=⟨hi.1,by omega⟩;have hk:∀q,0<=q->bU {dD s i {bU s i with fin:=true,code:=f (bU s i).task} with runs:=s.runs+1} q=if i=q then {bU s i with fin:=true,code:=f (bU s i).task} else bU s q:=fun q q1=>fe hiw q1;refine⟨⟨h.bl,by simp[dD,hw],fun q q1 q2=>?_,h.ls,fun q q1 q2=>?_,by have:=h.rn;simp only;exact⟨by omega,this.2⟩⟩,?_⟩
  ·rw[hk q q1]
   split
   ·exact h.tk i hi.1 hi.2
   ·exact h.tk q q1 q2
  ·rw[hk q q1]
   split
   ·exact h.kn i hi.1 hi.2
   ·exact h.kn q q1 q2
  ·unfold Inc;simp only[dD];omega
theorem qL(s:Pl)(t c:Int):s.cW<=(arrive s t c).cW/\(arrive s t c).cW<=s.cW+1:=by unfold arrive jv;split<;>(simp only;omega)
theorem Ok.send{n m:Nat}{i:Int}{s:Pl}(h:Ok n m s)(hi:0<=i/\i<m):Ok n m (mh s i).1/\Inc s (mh s i).1:=by
 unfold mh;split
 ·exact⟨h,.refl _⟩
 ·rename_i h1
  rw[not_or] at h1;have hb:=h.bl;have hw:=h.wl;have ht:=h.tk i hi.1 hi.2;generalize hs1:arrive s (bU s i).task (bU s i).code=s1;have htb:0<=(bU s i).task/\(bU s i).task<s.book.length:=by omega
  have b1:s1.book.length=s.book.length:=by rw[<-hs1];exact jV ..
  have w1:s1.ws=s.ws:=by rw[<-hs1];exact jw ..
  have ahn:0<=(bU s i).task/\(bU s i).task<s1.book.length:=by omega
  generalize hs2:freed s1 (bU s i).task i=s2;have b2:s2.book.length=s1.book.length:=by rw[<-hs2];exact Mr ..
  have w2:s2.ws=s.ws:=by rw[<-hs2,p8,w1]
  have hiw:0<=i/\i<s2.ws.length:=⟨hi.1,by rw[w2];omega⟩;have hwk:∀q,bU s2 q=bU s q:=fun q=>by unfold bU;rw[w2]
  have hkn:∀q,0<=q->(ent s2 q).known=(decide ((bU s i).task=q)||(ent s q).known):=fun q q1=>by rw[<-hs2,Aa ahn q1,<-hs1,qK htb q1]
  refine⟨⟨by show s2.book.length=n;omega,by simp[dD,w2,hw],fun q q1 q2=>?_,fun q q1 q2=>?_,fun q q1 q2=>?_,?_⟩,?_⟩
  ·rw[fe hiw q1]
   split
   ·simp only;omega
   ·rw[hwk];exact h.tk q q1 q2
  ·rw[jH,<-hs2,tq ahn q1]
   split
   ·omega
   ·rw[<-hs1,mT htb q1];exact h.ls q q1 q2
  ·rw[fe hiw q1,jH]
   split
   ·intro hl
    simp only at hl ⊢;rw[hkn _ aC];simp
   ·intro hl
    rw[hwk] at hl ⊢;have:=h.tk q q1 q2;rw[hkn _ aC,h.kn q q1 q2 hl];simp
  ·have h2:s2.runs=s.runs/\s2.cW=s1.cW:=by rw[<-hs2,(jP ..).1,(jP ..).2,<-hs1,oF];exact⟨rfl,rfl⟩
   have h3:=qL s (bU s i).task (bU s i).code;rw[hs1] at h3;have:=h.rn;show 0<=s2.runs/\0<=s2.cW
   omega
  ·have h2:s2.runs=s.runs/\s2.cW=s1.cW:=by rw[<-hs2,(jP ..).1,(jP ..).2,<-hs1,oF];exact⟨rfl,rfl⟩
   have h3:=qL s (bU s i).task (bU s i).code;rw[hs1] at h3;show s.runs<=s2.runs/\s2.runs<=s.runs+1/\s.cW<=s2.cW/\s2.cW<=s.cW+1
   omega
theorem Ok.again{n m:Nat}{i:Int}{s:Pl}(h:Ok n m s)(hi:0<=i/\i<m):Ok n m (mC s i).1/\Inc s (mC s i).1:=by
 unfold mC;split
 ·exact⟨h,.refl _⟩
 ·rename_i h1
  have hb:=h.bl;have ht:=h.tk i hi.1 hi.2;have htb:0<=(bU s i).iV/\(bU s i).iV<s.book.length:=by omega
  have h3:=qL s (bU s i).iV (bU s i).nR;have h4:=oF s (bU s i).iV (bU s i).nR;have h5:=jw s (bU s i).iV (bU s i).nR
  have hwk:∀q,bU (arrive s (bU s i).iV (bU s i).nR) q=bU s q:=fun q=>by
   show (arrive s (bU s i).iV (bU s i).nR).ws.getD q.toNat idle=_
   rw[h5];rfl
  refine⟨⟨by rw[jV];exact hb,by rw[jw];exact h.wl,fun q q1 q2=>by rw[hwk];exact h.tk q q1 q2,fun q q1 q2=>by rw[mT htb q1];exact h.ls q q1 q2,fun q q1 q2 hl=>?_,by have:=h.rn;show 0<=(arrive s (bU s i).iV (bU s i).nR).runs/\0<=(arrive s (bU s i).iV (bU s i).nR).cW;omega⟩,by
   show s.runs<=(arrive s (bU s i).iV (bU s i).nR).runs/\(arrive s (bU s i).iV (bU s i).nR).runs<=s.runs+1/\s.cW<=(arrive s (bU s i).iV (bU s i).nR).cW/\(arrive s (bU s i).iV (bU s i).nR).cW<=s.cW+1
   omega⟩
  rw[hwk] at hl ⊢;have:=h.tk q q1 q2;rw[qK htb aC,h.kn q q1 q2 hl];simp
theorem Ok.aho{n m:Nat}{i:Int}{s:Pl}(h:Ok n m s)(hi:0<=i/\i<m):Ok n m (nT s i).1/\Inc s (nT s i).1:=by
 unfold nT;have hw:=h.wl;have hiw:0<=i/\i<s.ws.length:=⟨hi.1,by omega⟩;refine⟨⟨h.bl,by simp[dD,hw],fun q q1 q2=>?_,h.ls,fun q q1 q2=>?_,h.rn⟩,.refl _⟩
 ·rw[fe hiw q1]
  split
  ·show -1<=(-1:Int)/\(-1:Int)<n/\ -1<=(-1:Int)/\(-1:Int)<n;omega
  ·exact h.tk q q1 q2
 ·rw[fe hiw q1]
  split
  ·intro hl;exact absurd rfl hl
  ·exact h.kn q q1 q2
theorem Ok.expire{n m:Nat}{i k:Int}{s:Pl}(h:Ok n m s)(hi:0<=i/\i<m):Ok n m (eE s i k).1/\Inc s (eE s i k).1:=by
 unfold eE;split
 ·exact⟨h,.refl _⟩
 ·have hb:=h.bl
  have hw:=h.wl;have hiw:0<=i/\i<s.ws.length:=⟨hi.1,by omega⟩
  have hwk:∀q,0<=q->bU {s with book:=s.book.map (gN i),ws:=if k=0 then s.ws.set i.toNat {bU s i with task:= -1,fin:=false} else s.ws} q=if k=0/\i=q then {bU s i with task:= -1,fin:=false} else bU s q:=fun q q1=>by
   by_cases e:k=0
   ·simp only[if_pos e]
    have:=fe (s:=s) (e:={bU s i with task:= -1,fin:=false}) hiw q1;by_cases e2:i=q
    ·rw[if_pos ⟨e,e2⟩];rw[if_pos e2] at this;exact this
    ·rw[if_neg (fun g=>e2 g.2)];rw[if_neg e2] at this;exact this
   ·simp only[if_neg e]
    rw[if_neg (fun g=>e g.1)];rfl
  refine⟨⟨by simp[hb],?_,fun q q1 q2=>?_,fun q q1 q2=>?_,fun q q1 q2=>?_,h.rn⟩,.refl _⟩
  ·simp only
   split
   ·simp[hw]
   ·exact hw
  ·rw[hwk q q1]
   split
   ·have:=h.tk i hi.1 hi.2;simp only;omega
   ·exact h.tk q q1 q2
  ·rw[Gn ⟨q1,by omega⟩,xI]
   split
   ·omega
   ·exact h.ls q q1 q2
  ·rw[hwk q q1]
   have key:∀t:Int, -1<=t->t<n->t≠ -1->(ent s t).known=true->(ent {s with book:=s.book.map (gN i),ws:=if k=0 then s.ws.set i.toNat {bU s i with task:= -1,fin:=false} else s.ws} t).known=true:=fun t t0 t1 t2 t3=>by
    rw[Gn ⟨by omega,by omega⟩,Gp];exact t3
   split
   ·intro hl
    have:=h.tk i hi.1 hi.2;exact key _ this.2.2.1 this.2.2.2 hl (h.kn i hi.1 hi.2 hl)
   ·intro hl
    have:=h.tk q q1 q2;exact key _ this.2.2.1 this.2.2.2 hl (h.kn q q1 q2 hl)
theorem A8{s:Pl}{i k n:Int}(h:¬vH s i k n):(0<=k/\k<=5)/\0<=i/\i<s.ws.length/\(k=5->0<=n/\n<=1000):=by
 unfold vH at h;omega
theorem Ok.step{n m:Nat}{c:Int}{f:Int->Int}{s:Pl}(h:Ok n m s)(i k t:Int):Ok n m (bM c f s i k t).1/\Inc s (bM c f s i k t).1:=by
 unfold bM;split
 ·exact⟨h,.refl _⟩
 ·rename_i hb
  obtain⟨-,h1,h2, -⟩:=A8 hb;have hi:0<=i/\i<m:=⟨h1,by have:=h.wl;omega⟩;split
  ·exact h.take hi
  ·split
   ·exact h.finish hi
   ·split
    ·exact h.send hi
    ·split
     ·exact h.again hi
     ·split
      ·exact h.aho hi
      ·exact h.expire hi
theorem xJ(n m:Nat):Ok n m ⟨List.replicate n zeroE,List.replicate m idle,0,0⟩ where
 bl:=by simp
 wl:=by simp
 tk i h1 h2:=by
  have:bU ⟨List.replicate n zeroE,List.replicate m idle,0,0⟩ i=idle:=by
   unfold bU;rw[Sub.aX mV];simp
  rw[this];show -1<=(-1:Int)/\(-1:Int)<n/\ -1<=(-1:Int)/\(-1:Int)<n
  omega
 ls j h1 h2:=by
  have:ent ⟨List.replicate n zeroE,List.replicate m idle,0,0⟩ j=zeroE:=by
   unfold ent;rw[Sub.aX mV];simp
  rw[this];show -1<=(-1:Int)/\(-1:Int)<m
  omega
 kn i h1 h2:=by
  have:bU ⟨List.replicate n zeroE,List.replicate m idle,0,0⟩ i=idle:=by
   unfold bU;rw[Sub.aX mV];simp
  rw[this];intro h;exact absurd rfl h
 rn:=⟨Int.le_refl _,Int.le_refl _⟩
end Go.Proofs.YteiakkfdchnddaaGreatDoor.Wk
namespace Go.Proofs.YteiakkfdchnddaaGreatDoor.Wk
def unk(s:Pl):Nat:=s.book.countP fun e=> !e.known
def mI(c:Int)(s:Pl):Bool:=decide (cM c Mq s.book 0= -1)
structure Calm(n m:Nat)(s:Pl):Prop where
 ok:Ok n m s
 ls:∀j:Int,0<=j->j<n->(ent s j).bN= -1
 tk:∀i:Int,0<=i->i<m->(bU s i).task= -1
theorem NY{s:Pl}{e:tZ}(h:e∈s.book):∃j:Int,0<=j/\j<s.book.length/\ent s j=e:=by
 obtain⟨k,hk,rfl⟩:=zMg.1 h;refine⟨(k:Int),by omega,by omega,?_⟩;unfold ent;rw[Int.toNat_natCast,Sub.aX hk]
theorem Calm.first{n m:Nat}{s:Pl}(h:Calm n m s)(c:Int):cM c free s.book 0=cM c Mq s.book 0:=by
 refine zZ fun e he=>?_;obtain⟨j,j0,j1,rfl⟩:=NY he;have:=h.ls j j0 (by have:=h.ok.bl;omega);show decide ((ent s j).bN= -1)=true
 exact decide_eq_true this
theorem Wr{c:Int}{s:Pl}(h:unk s=0):mI c s=true:=by
 unfold mI;rw[z8,decide_eq_true rfl];intro e he;unfold unk at h;rw[List.countP_eq_zero] at h;simpa using h e he
theorem aer{n m:Nat}{s:Pl}(h:Ok n m s):unk s<=n:=by
 have:=List.countP_le_length (p:=fun e:tZ=> !e.known) (l:=s.book);have:=h.bl;unfold unk;omega
theorem Calm.Ws{n m:Nat}{c:Int}{f:Int->Int}{s:Pl}{i:Int}(h:Calm n m s)(hi:0<=i/\i<m)(hd:mI c s=true):bM c f s i 0 0=(s,6):=by
 have hb:¬vH s i 0 0:=by unfold vH;have:=h.ok.wl;omega
 unfold bM kO;rw[if_neg hb,if_pos rfl,if_neg (by rw[h.tk i hi.1 hi.2];simp),if_pos (by rw[h.first c];exact of_decide_eq_true hd)]
theorem Calm.round{n m:Nat}{c:Int}{f:Int->Int}{s:Pl}{i:Int}(h:Calm n m s)(hi:0<=i/\i<m)(hd:mI c s=false):
  (bM c f s i 0 0).2=0/\(bM c f (bM c f s i 0 0).1 i 1 0).2=0/\(bM c f (bM c f (bM c f s i 0 0).1 i 1 0).1 i 2 0).2=0/\
  Calm n m (bM c f (bM c f (bM c f s i 0 0).1 i 1 0).1 i 2 0).1/\unk (bM c f (bM c f (bM c f s i 0 0).1 i 1 0).1 i 2 0).1+1=unk s:=by
 have hw:=h.ok.wl;have hb:=h.ok.bl
 have hne:cM c free s.book 0≠ -1:=by
  rw[h.first c];intro e;unfold mI at hd;rw[e] at hd;simp at hd
 obtain⟨a1,a2,a3,a4⟩:=h.ok.first c free hne;have o1:=(h.ok.step (c:=c) (f:=f) i 0 0).1
 have e1:bM c f s i 0 0=(dD (jv s (cM c free s.book 0) {ent s (cM c free s.book 0) with bN:=i}) i {bU s i with task:=cM c free s.book 0,fin:=false},0):=by
  unfold bM kO;rw[if_neg Ov,if_pos rfl,if_neg (by rw[h.tk i hi.1 hi.2];simp),if_neg hne]
 generalize cM c free s.book 0=j at*;have hj:0<=j/\j<s.book.length:=⟨a1,by omega⟩;have hiw:0<=i/\i<(jv s j {ent s j with bN:=i}).ws.length:=⟨hi.1,by show i<s.ws.length;omega⟩;generalize hs1:(bM c f s i 0 0)=r1 at*;subst e1;simp only at o1 ⊢;generalize hs:dD (jv s j {ent s j with bN:=i}) i {bU s i with task:=j,fin:=false}=s1 at*;have w1:bU s1 i={bU s i with task:=j,fin:=false}:=by rw[<-hs,fe hiw hi.1,if_pos rfl]
 have l1:s1.ws.length=m:=o1.wl;have o2:=(o1.step (c:=c) (f:=f) i 1 0).1
 have e2:bM c f s1 i 1 0=({dD s1 i {bU s1 i with fin:=true,code:=f j} with runs:=s1.runs+1},0):=by
  unfold bM gV;rw[if_neg Ov,if_neg aC,if_pos rfl,if_neg (by rw[w1];simp only;rw[not_or];exact⟨by omega,by simp⟩),w1]
 generalize AJ:bM c f s1 i 1 0=r2 at*;subst e2;simp only at o2 ⊢;generalize hs2:({dD s1 i {bU s1 i with fin:=true,code:=f j} with runs:=s1.runs+1}:Pl)=s2 at*;have hi1:0<=i/\i<s1.ws.length:=⟨hi.1,by omega⟩
 have w2:bU s2 i={bU s1 i with fin:=true,code:=f j}:=by
  rw[<-hs2];show bU (dD s1 i {bU s1 i with fin:=true,code:=f j}) i=_
  rw[fe hi1 hi.1,if_pos rfl]
 have t2:(bU s2 i).task=j:=by rw[w2,w1]
 have f2:(bU s2 i).fin=true:=by rw[w2]
 have aes:∀q,ent s2 q=ent s1 q:=fun q=>by rw[<-hs2];rfl
 have aeu:∀q,0<=q->ent s1 q=if j=q then {ent s j with bN:=i} else ent s q:=fun q q0=>by rw[<-hs,jH,jG hj q0]
 have k2:(ent s2 j).known=false:=by rw[aes,aeu j hj.1,if_pos rfl];exact a3
 have o3:=(o2.step (c:=c) (f:=f) i 2 0).1;have l2:s2.ws.length=m:=o2.wl;have b2:s2.book.length=n:=o2.bl
 have e3:bM c f s2 i 2 0=(dD (freed (arrive s2 j (bU s2 i).code) j i) i ⟨-1,false,(bU s2 i).code,j,(bU s2 i).code⟩,0):=by
  unfold bM mh;rw[if_neg Ov,if_neg aC,if_neg aC,if_pos rfl,if_neg (by rw[t2,f2];simp;omega),t2]
 have ea:arrive s2 j (bU s2 i).code=jv s2 j ⟨true,(bU s2 i).code,(ent s2 j).bN⟩:=by unfold arrive;rw[if_neg (by rw[k2];simp)]
 have hj2:0<=j/\j<s2.book.length:=⟨hj.1,by omega⟩;generalize hr3:bM c f s2 i 2 0=r3 at*;subst e3;simp only at o3 ⊢;have hj3:0<=j/\j<(arrive s2 j (bU s2 i).code).book.length:=⟨hj.1,by rw[jV];omega⟩;have hi3:0<=i/\i<(freed (arrive s2 j (bU s2 i).code) j i).ws.length:=⟨hi.1,by rw[p8,jw];omega⟩;refine⟨trivial,trivial,trivial,⟨o3,fun q q0 q1=>?_,fun q q0 q1=>?_⟩,?_⟩
 ·rw[jH,tq hj3 q0,mT hj2 q0,aes,aeu q q0]
  by_cases e:j=q
  ·subst e
   rw[if_pos rfl,if_pos ⟨rfl,rfl⟩]
  ·rw[if_neg e,if_neg (fun g=>e g.1)]
   exact h.ls q q0 q1
 ·rw[fe hi3 q0]
  split
  ·rfl
  ·rename_i e
   have hx:bU (freed (arrive s2 j (bU s2 i).code) j i) q=bU s q:=by
    show (freed (arrive s2 j (bU s2 i).code) j i).ws.getD q.toNat idle=_
    rw[p8,jw];show bU s2 q=_
    rw[<-hs2];show bU (dD s1 i {bU s1 i with fin:=true,code:=f j}) q=_
    rw[fe hi1 q0,if_neg e,<-hs,fe hiw q0,if_neg e,Jw]
   rw[hx];exact h.tk q q0 q1
 ·have hbk:(dD (freed (arrive s2 j (bU s2 i).code) j i) i ⟨-1,false,(bU s2 i).code,j,(bU s2 i).code⟩).book=s.book.set j.toNat ⟨true,(bU s2 i).code, -1⟩:=by
   have hl:(ent (arrive s2 j (bU s2 i).code) j)=⟨true,(bU s2 i).code,i⟩:=by
    rw[ea,jG hj2 hj.1,if_pos rfl,aes,aeu j hj.1,if_pos rfl]
   show (freed (arrive s2 j (bU s2 i).code) j i).book=_
   unfold freed
   rw[if_pos (by rw[hl]),hl,ea]
   unfold jv
   simp only
   rw[<-hs2]
   show List.set (List.set s1.book j.toNat _) j.toNat _=_
   rw[List.set_set,<-hs]
   show List.set (List.set s.book j.toNat _) j.toNat _=_
   rw[List.set_set]
  unfold unk;rw[hbk];have hjn:j.toNat<s.book.length:=by omega
  rw[List.countP_set hjn]
  have hk0:(!(s.book[j.toNat]).known)=true:=by
   unfold ent at a3;rw[Sub.aX hjn] at a3;rw[a3];rfl
  rw[if_pos hk0,if_neg aZ];have hpos:0<s.book.countP (fun e=> !e.known):=List.countP_pos_iff.2 ⟨_,gY hjn,hk0⟩;omega
end Go.Proofs.YteiakkfdchnddaaGreatDoor.Wk
