/- Part 11 of the walks and plain laws that the proof needs (packed). -/
import Derived.Deep.LoopGhost
import Derived.Test.YtobgljfnfpolkaaGreatDoorQ7
import Derived.Test.YtobgljfnfpolkaaGreatDoorQ10
set_option linter.all false
set_option maxRecDepth 100000
set_option maxHeartbeats 8000000
namespace Go.Proofs.YtobgljfnfpolkaaGreatDoor
open Go.RowKit
theorem gJ{W:ah.bK}{k:Nat}(h:k<W.length):W[k].length<=ah.total W:=by
 have h1:=rY W (k+1);rw[zTs h] at h1;simp only[ah.total,List.map_append,List.sum_append,List.map_cons,List.map_nil,List.sum_cons,List.sum_nil] at h1 ⊢;omega
theorem uG(W:ah.bK)(u:Int):ah.eV W u<=ah.total W:=by
 unfold ah.eV;by_cases h:u.toNat<W.length
 ·rw[Sub.aR h];exact gJ h
 ·rw[Sub.gU (by omega)];exact Nat.zero_le _
theorem DT{W:ah.bK}{k i j:Nat}(hk:k<W.length)(hi:i<W[k].length)(hj:j<W[k][i].length):aF.mq W k i j=W[k][i][j]:=by
 unfold aF.mq;rw[Sub.aR hk,Sub.aR hi,Sub.aR hj]
theorem rP.abH{S S':Nat->Prop}{B:Nat}{e:TypeId}{w:World}{v:Value}{xs:List aF.Ref}(h:cG 4 LZ S B e w v xs):cG 4 LZ S' B e w v xs:=by
 obtain⟨jS,h1,h2,h3,h4⟩:=h;refine⟨jS,h1,h2,h3,fun j a b=>?_⟩;have h5:=h4 j a b;unfold LZ at h5 ⊢;exact h5
theorem vU(x:ah.bD)(W:ah.bK)(s:Sub.S)(hfw:aF.xo x W)(hsh:W.map List.length=s.map List.length)(v u t:Value)(S T U:Nat->Prop)(w:World)(hv:eU S w v x)(hW:dc T w u W)(hs:aP U w t s):
  Calls Tryz.prog 66 #[v,u,t] w fun e w'=>∃B0 B1 B2,e=.returned (.pointer (some ⟨B2+1,0,none⟩))/\VI B0 B1 B2 512 (aF.bT x) W s w'/\w.heap.size<=B0/\BL w w':=by
 obtain⟨ak,ck,al,cl,ar,cr,rfl, -⟩:=hv.form;have Qd:=dc.mono (S':=(·<w.heap.size)) hW (fun b hb _=>hb);have hlen:=hfw.len;have hkn:=hfw.af3;have hsl:s.length=W.length:=by simpa using (congrArg List.length hsh).symm
 have yp:Hid (∀k (h1:k<W.length) (h2:k<s.length),s[k].length=W[k].length):=hid (fun k h1 h2=>by
  have:=congrArg (fun l=>l[k]?) hsh;have e:W[k].length=s[k].length:=by simpa [h1,h2] using this
  exact e.symm)
 have Mi:Hid (∀k (h1:k<W.length),W[k].length<=512):=hid (fun k h1=>by
  have h2:=ah.mX h1 [];have h3:=hfw.tot;have h4:W[k].length<=ah.total W:=gJ h1;omega)
 obtain⟨w1,hw1⟩:=nmE (bE w x.af6 (.slice ak x.af3.length ck) (.slice al x.af7.length cl) (.slice ar x.af8.length cr));have aW:=afX hw1;have hX1:=aO (show w1.heap[w.heap.size]?=some (.cells #[.int .i64 x.af6,.slice ak x.af3.length ck,.slice al x.af7.length cl,.slice ar x.af8.length cr] 27 (0,0)) by rw[hw1];exact bf ..);unfold bE at hw1;have HW1:=hid hw1;clear hw1;obtain⟨⟨y0,y1,y2,y3⟩, -⟩:=hX1
 have Nk:=hid (zX x hfw.af3 (fun k hk=>by
  obtain⟨j,hj,rfl⟩:=List.getElem_of_mem hk;rw[<-fM hj];exact hfw.af4 j) _ S w1 (hv.keep (aA.below aW.out)))
 have Yq:=hid (fun(X:World) (hX:BL w X)=>xG s (by omega) (fun r hr=>by
  obtain⟨j,hj,rfl⟩:=List.getElem_of_mem hr;have:=yp.out j (by omega) hj;have:=Mi.out j (by omega);omega) t U X (hs.keep (aA.below hX)))
 obtain⟨aw,cw,rfl,hsw, -, -⟩:=Qd.form;obtain⟨uj,cs,rfl,hss, -, -⟩:=hs.form;have xX:=hid hlen;have Ji:=hid hsl;have HS0:=hid (aP.mono (S':=(·<w.heap.size)) hs (fun b hb _=>hb));clear hlen hsl hsh hW hv hs;have hmm:= @run_makeMap Tryz.prog;go_enter Tryz.func66,Tryz.ntmps66;go_upto_region 1 with fail;rw[<-HW1.out];go_wp2_with fail;refine Nk.out.mono ?_;rintro e w2 ⟨aq,cq,rs,rfl,hr60,Mj,hrf,hb2⟩;have Jj:=(rP.abH (S':=fun _=>False) hrf).sl cQ (T:=fun b=>w1.heap.size<=b/\b<w2.heap.size) (fun b _ h=>h.elim) (fun b hb=>hrf.lt b hb);have cU:Hid (BL w1 w2):=hid hb2;have bB:=bq aW hb2;have hsq:dG aq rs.length:=by obtain⟨_,_,e,g, -⟩:=Jj.form;cases e;exact g
 have Bl:=hid Mj;clear hrf hb2 Mj y0 y1 y2 y3;go_wp2_with fail;refine(Yq.out w2 bB.out).mono ?_;rintro e w3 ⟨gs,rfl,hsf,hb3⟩;have HSub:=hid (bN.mono (S':=fun b=>w2.heap.size<=b/\b<w3.heap.size) hsf (fun b hlt hb=>⟨hb,hlt⟩));have VK:=hid (dA.keep cQ Jj (aA.below hb3));have bG:=bq bB hb3;have HWv:=hid (Qd.keep (aA.below bG.out));have hz23:=hb3.size;have abI:=cU.out.size;have hz01:=aW.out.size;clear hsf Jj Qd hb3;obtain⟨w4,hw4⟩:=nmE ((w3.alloc (.map #[] 0)).alloc (.cells #[.slice aq rs.length cq,.slice aw W.length cw,.slice (some ⟨gs,0,none⟩) s.length s.length,.map (some w3.heap.size)] 201));have iQ:Hid (Below w3.heap.size w3 w4):=hid (by rw[hw4];exact(aj.alloc aB _).alloc (by simp) _);have Yr:Hid (w4.heap[w3.heap.size+1]?=some (.cells #[.slice aq rs.length cq,.slice aw W.length cw,.slice (some ⟨gs,0,none⟩) s.length s.length,.map (some w3.heap.size)] 201 (0,0))):=hid (by rw[hw4];exact aD _ _ (by simp))
 have HO4:Hid (lX w4 w3.heap.size []):=hid (by rw[hw4];exact(lX.made w3).keep (by
  have:w3.heap.size<(w3.alloc (.map #[] 0)).heap.size:=by simp
  exact(aj.alloc aB _).block _ this))
 have zV:=hid hw4;clear hw4;obtain⟨⟨x0,x1,x2,x3⟩, -⟩:=aO Yr.out;go_upto_region 2 with fail;rw[<-zV.out];go_wp2;clear x0 x1 x2 x3;go_loopw [25] (fun rr wr=>∃(r:Nat) (bs:List Nat),r<=rs.length/\rr=.int .i64 r/\Hid (bs.length=r)/\Hid (lX wr w3.heap.size bs)/\Hid bs.Nodup/\Hid (∀b∈bs,w3.heap.size+2<=b)/\Hid (∀k (h:k<bs.length) (h2:k<rs.length),cT wr bs[k] 512 (jo W s rs[k]))/\Hid (wr.heap[w3.heap.size+1]?=some (.cells #[.slice aq rs.length cq,.slice aw W.length cw,.slice (some ⟨gs,0,none⟩) s.length s.length,.map (some w3.heap.size)] 201 (0,0)))/\Hid (BL w3 wr)) (fun rr _=>rs.length-(intOf rr).toNat);case atStart=>exact⟨0,[],Nat.zero_le _,rfl,hid rfl,HO4,hid List.nodup_nil,hid (fun _ h=>absurd h (by simp)),hid (fun k h=>absurd h (by simp)),Yr,iQ⟩
 case round=>
  obtain⟨r,bs,hr,rfl,Eh,HO,PN,zQ,XK,Rx,iO⟩:=hrel;by_cases hlt:r<rs.length
  ·have hr0:(0:Int)<=(r:Int):=by omega
   have hr1:(r:Int)<(rs.length:Int):=by omega
   have iP:=bq bG iO.out;obtain⟨-,us,Kk,hcs,TG⟩:=dA.at (dA.keep cQ VK.out (aA.aM iO.out (fun b hb=>by have h:=hb.2;omega))) hlt;obtain rfl:us=_:=TG;have y0:wr.cell? ⟨aY aq,bC aq+r*4,none⟩=some (.int .i64 (rs[r].kind:Int)):=hcs 0 _ rfl;have y1:wr.cell? ⟨aY aq,bC aq+r*4+1,none⟩=some (.int .i64 (rs[r].field:Int)):=hcs 1 _ rfl;have y2:wr.cell? ⟨aY aq,bC aq+r*4+2,none⟩=some (.int .i64 rs[r].up):=hcs 2 _ rfl;have y3:wr.cell? ⟨aY aq,bC aq+r*4+3,none⟩=some (.int .i64 rs[r].least):=hcs 3 _ rfl;have hmem:rs[r]∈aF.bT x:=by rw[<-Bl.out];exact zGm hlt
   obtain⟨q1,q2,q3,q4,q5,q6, -, -⟩:=hfw.refs _ hmem;have xC:=hid (hfw.lead _ hmem);have Gf:Hid (rs[r]?=some rs[r]):=hid (zEg hlt);clear hcs Kk hmem;have abJ:=hid (fun(X:World) (hX:∀k (h:k<bs.length),X.heap[bs[k]]?=wr.heap[bs[k]]?) k (h:k<bs.length) (h2:k<rs.length)=>(XK.out k h h2).keep (hX k h));generalize HRq:rs[r]=rf at*;obtain⟨rk,rj,ru,rl⟩:=rf;simp only at y0 y1 y2 y3 q1 q2 q3 q4 q5 q6 xC;obtain⟨m,rfl⟩:∃m:Nat,ru=(m:Int):=⟨ru.toNat,by omega⟩;have HRq2:=hid HRq;clear HRq;obtain⟨w5,hw⟩:=nmE (wr.alloc (.cells #[.int .i64 (rk:Int),.int .i64 (rj:Int),.int .i64 (m:Int),.int .i64 rl] 159));have zS:Hid (w5.heap[wr.heap.size]?=some (.cells #[.int .i64 (rk:Int),.int .i64 (rj:Int),.int .i64 (m:Int),.int .i64 rl] 159 (0,0))):=hid (by rw[hw];exact aD wr _ rfl);have gL:BL wr w5:=by rw[hw];exact aj.alloc aB _
   have yI:=hid hw;clear hw;have HHb5:=hid gL;go_upto_region 5 with fail;rw[<-yI.out];clear y0 y1 y2 y3;obtain⟨w6,hw⟩:=nmE (w5.alloc (.map #[] 0));have lN:BL wr w6:=by rw[hw];exact gL.alloc gL.size _
   have Fx:Hid (cT w6 w5.heap.size 0 (fun _ _=>0)):=hid (by rw[hw];exact cT.made w5);have HO6:=hid (HO.out.keep (lN.block _ HO.out.lt));have hst:=HO6.out.store (by rw[Eh.out];omega) w5.heap.size;rw[Eh.out] at hst;obtain⟨w7,hrun,ho7,qX⟩:=hst;have x3:w5.cell? ⟨w3.heap.size+1,3,none⟩=some (.map (some w3.heap.size)):=aI ((gL.block _ (ay Rx.out)).trans Rx.out) 3;rw[hw] at hrun;go_upto_region 6 with fail;have abK:BL w5 w6:=by rw[hw];exact aj.alloc aB _
   have Nb:wr.heap.size<w5.heap.size:=by rw[yI.out];simp
   have hz6:w5.heap.size<w6.heap.size:=by rw[hw];simp
   have hz7:=qX.size;have Hv:=ay Rx.out;have HO7:=hid ho7;have hL6:BL w3 w6:=tnB iO.out lN;have zW:Hid (BL w3 w7):=hid (hL6.trans (qX.below hL6.size (fun b hb=>Nat.le_of_eq hb.symm)));have kN:=bq bG zW.out;have AZ:Hid (∀b,b<wr.heap.size->b≠w3.heap.size->w7.heap[b]?=wr.heap[b]?):=hid (fun b h1 h2=>(qX.block b h2 (by omega)).trans (lN.block b h1));have HX7:Hid (w7.heap[wr.heap.size]?=some (.cells #[.int .i64 (rk:Int),.int .i64 (rj:Int),.int .i64 (m:Int),.int .i64 rl] 159 (0,0))):=hid ((qX.block wr.heap.size (show ¬wr.heap.size=w3.heap.size by omega) (by omega)).trans ((abK.block _ Nb).trans zS.out));have zU:Hid (cT w7 w5.heap.size 0 (lu W s ⟨rk,rj,(m:Int),rl⟩ 0)):=hid (by rw[L9];exact Fx.out.keep (qX.block w5.heap.size (show ¬w5.heap.size=w3.heap.size by omega) hz6));have abL:Hid (w7.heap[w3.heap.size+1]?=some (.cells #[.slice aq rs.length cq,.slice aw W.length cw,.slice (some ⟨gs,0,none⟩) s.length s.length,.map (some w3.heap.size)] 201 (0,0))):=hid ((AZ.out _ Hv (by omega)).trans Rx.out);have mg:rk<W.length:=by rw[xX.out];exact q1
   have hks:rk<s.length:=by rw[Ji.out];exact mg
   have hk0:(0:Int)<=(rk:Int):=by omega
   have hk1:(rk:Int)<(W.length:Int):=by omega
   have hk2:(rk:Int)<(s.length:Int):=by omega
   obtain⟨uk,EN,hzuk,hrow⟩:=(HWv.out.keep (aA.aM zW.out (fun b hb=>by have h':b<w.heap.size:=hb;omega))).at mg;obtain⟨ua,uc,rfl,hsu, -, -⟩:=hrow.form;obtain⟨bk,hbk,hzbk,kU⟩:=(HS0.out.keep (aA.below kN.out)).at hks;obtain⟨ba,bc,rfl,hsb, -, -⟩:=kU.form;have HRw:=hid hrow;have HZs:Hid (aY uj<w.heap.size):=hid (by obtain⟨_,_,h0,_⟩:=HS0.out.at hks;exact h0);have HBt:=hid kU;have HRl:Hid (s[rk].length=W[rk].length):=hid (yp.out rk mg hks);have FK:W[rk].length<=512:=Mi.out rk mg;have Qe:Hid (∀i (h:i<W[rk].length),rj<W[rk][i].length):=hid (fun i h=>by rw[hfw.jc rk mg _ (zGm h)];exact q2)
   have HLd2:Hid (∀i (h:i<W[rk].length),pu (aF.mq W rk i rj)):=hid (fun i h=>by
    have h1:=xC.out i mg h;have h2:=uG W (m:Int);have h3:=hfw.tot;exact⟨by omega,by omega⟩)
   have Ys:pu (m:Int):=by have:=hfw.af3;exact⟨by omega,by omega⟩
   have Mk:=hid Ys;clear hrow kU Ys hfw;obtain⟨⟨y0,y1,y2,y3⟩, -⟩:=aO HX7.out;obtain⟨nr,sx⟩:=nmE (W[rk].length);obtain⟨nb,hnb⟩:=nmE (s[rk].length);rw[<-sx] at HRw HRl FK hsu EN;rw[<-hnb] at HBt HRl hsb hbk;have Gs:=hid sx;have X8:=hid hnb;clear sx hnb hw qX ho7 hrun lN abK hL6;go_wp2;clear y0 y1 y2 y3;generalize LY:wr=Wb at*;go_loopw [42] (fun ii wq=>∃i:Nat,i<=nr/\ii=.int .i64 i/\Hid (cT wq w5.heap.size i (lu W s ⟨rk,rj,(m:Int),rl⟩ i))/\Hid (Turns (·=w5.heap.size) w7 wq)) (fun ii _=>nr-(intOf ii).toNat);case atStart=>exact⟨0,Nat.zero_le _,rfl,zU,hid (Turns.refl _ _)⟩
   case round=>
    obtain⟨i,hi,rfl,HCq,TR⟩:=hrel;have LX:Hid (∀b,b<w7.heap.size->b≠w5.heap.size->wr.heap[b]?=w7.heap[b]?):=hid (fun b h1 h2=>TR.out.block b h2 h1);by_cases hit:i<nr
    ·have hi0:(0:Int)<=(i:Int):=by omega
     have hi1:(i:Int)<(nr:Int):=by omega
     have hi2:(i:Int)<(nb:Int):=by have:=HRl.out;omega
     have yq:i<W[rk].length:=by have:=Gs.out;omega
     have hib:i<s[rk].length:=by have:=X8.out;have:=HRl.out;omega
     obtain⟨ui,Yt,hzui,VL⟩:=(oI.keep HRw.out (TR.out.keep (fun b hb e=>by have h1:b<w.heap.size:=hb;have h2:b=w5.heap.size:=e;omega))).at yq;obtain⟨ia,ic,rfl,hsi, -, -⟩:=VL.form;have hj0:(0:Int)<=(rj:Int):=by omega
     have hj1:(rj:Int)<(W[rk][i].length:Int):=by have:=Qe.out i yq;omega
     obtain⟨uv,huv,hzuv,huvr⟩:=VL.at (Qe.out i yq);obtain rfl:uv=_:=huvr;obtain⟨ub,TL,hzub,hubr⟩:=(iN.keep HBt.out (TR.out.keep (fun b hb e=>by have h1:b<w.heap.size:=hb;have h2:b=w5.heap.size:=e;omega))).at hib;obtain rfl:ub=_:=hubr;have hat:aF.mq W rk i rj=W[rk][i][rj]:=DT mg yq (Qe.out i yq);have Ml:Hid (pu (W[rk][i][rj])):=hid (by rw[<-hat];exact HLd2.out i yq);have Aj:Hid (Sub.keeps s rk i=s[rk][i]):=hid (by unfold Sub.keeps;rw[Sub.aR hks,Sub.aR hib])
     have yd:Hid (s[rk][i]=false->cT wr w5.heap.size (i+1) (lu W s ⟨rk,rj,(m:Int),rl⟩ (i+1))):=hid (fun h=>by
      rw[TH (r:=⟨rk,rj,(m:Int),rl⟩) (by rw[Aj.out];exact h)];exact HCq.out.mono (by omega))
     have Yu:Hid (s[rk][i]=true->lu W s ⟨rk,rj,(m:Int),rl⟩ (i+1)=sy (lu W s ⟨rk,rj,(m:Int),rl⟩ i) (m:Int) (W[rk][i][rj]) (lu W s ⟨rk,rj,(m:Int),rl⟩ i (m:Int) (W[rk][i][rj])+1)):=hid (fun h=>by
      rw[P9 (r:=⟨rk,rj,(m:Int),rl⟩) (by rw[Aj.out];exact h),hat])
     have HX8:=hid ((LX.out _ (ay HX7.out) (by omega)).trans HX7.out);have abM:=hid ((LX.out _ (ay abL.out) (by omega)).trans abL.out);have HOq:=hid (HO7.out.keep (LX.out _ (by omega) (by omega)))
     have HHq:Hid (∀X,Turns (·=w5.heap.size) wr X->X.cell? ⟨aY ia,bC ia+rj,none⟩=some (.int .i64 W[rk][i][rj])):=hid (fun X hX=>by
      obtain⟨u,e,h⟩:=VL.lW (Qe.out i yq);rw[h X (hX.keep (fun b hb e=>by have h1:b<w.heap.size:=hb;have h2:b=w5.heap.size:=e;omega)),show u=_ from e])
     clear VL hat Aj;generalize W[rk][i][rj]=v at*;generalize W[rk][i].length=ln at*;generalize s[rk][i]=kp at*;obtain⟨⟨y0,y1,y2,y3⟩, -⟩:=aO HX8.out;have hbk2:wr.cell? ⟨aY uj,bC uj+rk,none⟩=some (.slice ba nb bc):=(World.cell?_of_block (w:=w7) (a:=⟨aY uj,bC uj+rk,none⟩) (LX.out (aY uj) hzbk (by have:=HZs.out;omega))).trans hbk;cases kp with
     |false=>
      have Nh:=hid (yd.out rfl)
      clear yd Yu
      go_wp2
      go_roundw
      case rel=>exact⟨i+1,by omega,by go_num,Nh,TR⟩
      simp[intOf];omega
     |true=>
      have HY:=hid (Yu.out rfl)
      clear yd Yu
      obtain⟨F,hF⟩:=nmE (lu W s ⟨rk,rj,(m:Int),rl⟩ i)
      rw[<-hF] at HY HCq
      have hfr:0<=F (m:Int) v/\F (m:Int) v<=i:=by rw[hF];exact zY ..
      clear hF
      obtain⟨fc,hfc⟩:=nmE (F (m:Int) v)
      rw[<-hfc] at HY hfr
      have hf0:=hfr.1
      have hf1:=hfr.2
      have HFc:=hid hfc
      clear hfr hfc
      go_upto_region 10 with fail
      have hqa:∀xh:Held (fun V=>Turns (·=w5.heap.size) wr V),xh.1.cell? ⟨w3.heap.size+1,3,none⟩=some (.map (some w3.heap.size)):=fun xh=>(aO ((xh.2.block _ (show ¬w3.heap.size+1=w5.heap.size by omega) (ay abM.out)).trans abM.out)).1.2.2.2
      have hqb:∀xh:Held (fun V=>Turns (·=w5.heap.size) wr V),xh.1.cell? ⟨Wb.heap.size,1,none⟩=some (.int .i64 (rj:Int)):=fun xh=>(aO ((xh.2.block _ (show ¬Wb.heap.size=w5.heap.size by omega) (ay HX8.out)).trans HX8.out)).1.2.1
      have SQ:∀xh:Held (fun V=>Turns (·=w5.heap.size) wr V),xh.1.cell? ⟨Wb.heap.size,2,none⟩=some (.int .i64 (m:Int)):=fun xh=>(aO ((xh.2.block _ (show ¬Wb.heap.size=w5.heap.size by omega) (ay HX8.out)).trans HX8.out)).1.2.2.1
      have hqd:∀xh:Held (fun V=>Turns (·=w5.heap.size) wr V),xh.1.cell? ⟨aY ia,bC ia+rj,none⟩=some (.int .i64 v):=fun xh=>HHq.out xh.1 xh.2
      refine cH 18 (.quiet 0 (.quiet 4 (.quiet 6 (.quiet 7 (.quiet 8 (.quiet 9 (.quiet 10 (.quiet 11 (.quiet 12 (.quiet 13 (.one 1 (.quiet 2 (.quiet 3 (.one 5 (.two 14 16 (.quiet 15 (.one 16 (.quiet 17 .done))) (.quiet 17 (.one 14 (.quiet 15 .done)))))))))))))))))) (fun V=>Turns (·=w5.heap.size) wr V) mxT (by kernel_rfl) (Turns.aM (af5 aj 1)) ?_
      have TB:Hid (Turns (·=w5.heap.size) wr (wr.drewN 1)):=hid (Turns.aM (af5 aj 1))
      have rO:Hid (cT (wr.drewN 1) w5.heap.size i F):=hid (HCq.out.keep rfl)
      have Bg:Hid (lX (wr.drewN 1) w3.heap.size (bs++[w5.heap.size])):=hid (HOq.out.keep rfl)
      generalize wr.drewN 1=w8 at*
      obtain⟨gL,e5⟩:∃h:r<(bs++[w5.heap.size]).length,(bs++[w5.heap.size])[r]=w5.heap.size:=by
       have:=Eh.out;subst this;exact⟨by simp,by simp⟩
      have hl5:=Bg.out.look gL (by omega)
      rw[e5] at hl5
      have abN:=rO.out.look Mk.out Ml.out
      rw[<-HFc.out] at abN
      unfold lW at abN
      obtain⟨v0,st,w9,Yv,hC9,hT9,hst⟩:=rO.out.entry (by omega) Mk.out Ml.out
      unfold lW at Yv
      have VN:=hC9.look Mk.out Ml.out
      rw[<-HFc.out] at VN
      unfold lW at VN
      have h64:pu (fc+1):=⟨by omega,by omega⟩
      obtain⟨gX,Qf,Qg,Qh⟩:=hst w9 (fc+1) h64 rfl
      have abO:(Instr.entryStore 154 (.map (some w5.heap.size)) (.int .i64 (st:Int)) (.int .i64 (fc+1))).run Tryz.prog w9=.ok () gX:=Qf
      clear Qf
      have Sb:=hid (TB.out.trans hT9)
      have Mn:Hid (Turns (·=w5.heap.size) w7 gX):=hid (TR.out.trans (Sb.out.trans Qh))
      have rq:Hid (cT gX w5.heap.size (i+1) (lu W s ⟨rk,rj,(m:Int),rl⟩ (i+1))):=hid (by rw[HY.out];exact Qg)
      clear gL e5 hC9 hT9 hst Qg Qh h64
      iterate 10
       refine ai rfl ?_
       intro hne
       go_big_quiet_step (fail)
       refine zWq ?_
       clear hne
      refine aH rfl ?_
      go_wp2_with fail
      refine aC (fun V=>Turns (·=w5.heap.size) wr V) (fun _ h=>h) TB.out ?_
      iterate 2
       refine ai rfl ?_
       intro hne
       go_big_quiet_step (fail)
       refine zWq ?_
       clear hne
      refine aH rfl ?_
      go_wp2_with fail
      refine aC (fun V=>Turns (·=w5.heap.size) wr V) (fun _ h=>h) TB.out ?_
      refine dU rfl rfl ?_ ?_
      ·go_wp2_with fail
       refine aC (fun V=>Turns (·=w5.heap.size) wr V) (fun _ h=>h) TB.out ?_;refine ai rfl ?_;intro hne;go_big_quiet_step (fail);refine zWq ?_;clear hne;refine aH rfl ?_;go_wp2_with fail;refine aC (fun V=>Turns (·=w5.heap.size) wr V) (fun _ h=>h) Sb.out ?_;refine ai rfl ?_;intro hne;go_big_quiet_step (fail);refine zWq ?_;clear hne;refine aL ?_;try simp only[zDs,zDz]
       clear hqa hqb SQ hqd;go_wp2;go_roundw;case rel=>exact⟨i+1,by omega,by go_num,rq,Mn⟩
       simp[intOf];omega
      ·go_wp2_with fail
       refine aC (fun V=>Turns (·=w5.heap.size) wr V) (fun _ h=>h) Sb.out ?_;refine ai rfl ?_;intro hne;go_big_quiet_step (fail);refine zWq ?_;clear hne;refine aH rfl ?_;go_wp2_with fail;refine aC (fun V=>Turns (·=w5.heap.size) wr V) (fun _ h=>h) Sb.out ?_;refine ai rfl ?_;intro hne;go_big_quiet_step (fail);refine zWq ?_;clear hne;refine aL ?_;try simp only[zDs,zDz]
       clear hqa hqb SQ hqd;go_wp2;go_roundw;case rel=>exact⟨i+1,by omega,by go_num,rq,Mn⟩
       simp[intOf];omega
    ·obtain rfl:nr=i:=by omega
     have HKq':=LX;have hBw:BL w3 wr:=zW.out.trans (TR.out.below zW.out.size (fun b hb=>by have h2:b=w5.heap.size:=hb;have:=iO.out.size;omega));have FL:=hid hBw;have HKb:Hid (∀b,b<Wb.heap.size->b≠w3.heap.size->wr.heap[b]?=Wb.heap[b]?):=hid (fun b h1 h2=>(LX.out b (by omega) (by omega)).trans (AZ.out b h1 h2));have HXn:Hid (wr.heap[w3.heap.size+1]?=some (.cells #[.slice aq rs.length cq,.slice aw W.length cw,.slice (some ⟨gs,0,none⟩) s.length s.length,.map (some w3.heap.size)] 201 (0,0))):=hid ((HKb.out _ Hv (by omega)).trans Rx.out);have H9:Hid (lX wr w3.heap.size (bs++[w5.heap.size])):=hid (HO7.out.keep (LX.out _ (by omega) (by omega)))
     have Yw:Hid (∀b∈bs,b<Wb.heap.size):=hid (fun b hb=>by
      obtain⟨k,hk,rfl⟩:=List.getElem_of_mem hb;exact(XK.out k hk (by have:=Eh.out;omega)).lt)
     have Qi:Hid (bs++[w5.heap.size]).Nodup:=hid (List.nodup_append.2 ⟨PN.out,by simp,fun a ha b hb e=>by
      rw[zMs] at hb;have:=Yw.out a ha;omega⟩)
     have Nd:Hid (∀b∈bs++[w5.heap.size],w3.heap.size+2<=b):=hid (fun b hb=>by
      rcases List.mem_append.1 hb with hb|hb
      ·exact zQ.out b hb
      ·rw[zMs] at hb
       omega)
     have kZ:Hid ((bs++[w5.heap.size]).length=r+1):=hid (by rw[zLa,Eh.out];rfl)
     have HCn3:Hid (∀k (h:k<(bs++[w5.heap.size]).length) (h2:k<rs.length),cT wr (bs++[w5.heap.size])[k] 512 (jo W s rs[k])):=hid (fun k h h2=>by
      by_cases hk:k<bs.length
      ·have:=abJ.out wr (fun k h=>HKb.out _ (Yw.out _ (zGm h)) (by have:=zQ.out _ (zGm h);omega)) k hk h2
       rw[zAl hk];exact this
      ·have hkr:k=r:=by have:=kZ.out;have:=Eh.out;omega
       subst hkr
       have e1:(bs++[w5.heap.size])[k]=w5.heap.size:=by
        have:=Eh.out;subst this;simp
       rw[e1,HRq2.out];have h3:=HCq.out.mono (m:=512) FK;unfold jo;rw[show (W.getD rk []).length=nr by rw[Sub.aR mg,Gs.out]];exact h3)
     clear HKq' hBw XK abJ HCq TR LX HKb Yw;go_wp2;go_roundw;case rel=>exact⟨r+1,bs++[w5.heap.size],by omega,by go_num,kZ,H9,Qi,Nd,HCn3,HXn,FL⟩
     simp[intOf];omega
  ·obtain rfl:rs.length=r:=by omega
   go_wp2;go_ret;refine⟨w1.heap.size,w2.heap.size,w3.heap.size,rfl,?_,hz01,tnB bG.out iO.out⟩;rw[<-Bl.out];exact⟨abI,hz23,⟨aq,cq,aw,cw,gs,Rx.out,dA.keep cQ VK.out (aA.aM iO.out (fun b hb=>by have h:=hb.2;omega)),(dc.mono HWv.out (fun b _ h=>show b<w1.heap.size by have h':b<w.heap.size:=h;omega)).keep (aA.aM iO.out (fun b hb=>by have h':b<w1.heap.size:=hb;omega)),bN.keep HSub.out (aA.aM iO.out (fun b hb=>hb.2))⟩,⟨bs,HO.out,Eh.out,PN.out,zQ.out,XK.out⟩⟩
theorem nN{w:World}{F:Nat}{x0 x1:Value}{t:TypeId}(h:w.heap[F]?=some (.cells #[x0,x1] t (0,0))):
  (w.cell? ⟨F,0,none⟩=some x0/\w.cell? ⟨F,1,none⟩=some x1)/\∀i,w.frozen? ⟨F,i,none⟩=false:=
 ⟨⟨aI h 0,aI h 1⟩,bh h⟩
theorem C9(x:ah.bD)(W:ah.bK)(s:Sub.S)(hfw:aF.xo x W)(hsh:W.map List.length=s.map List.length)(B0 B1 B2 n:Nat)(k i:Nat)(hk:k<W.length)(hi:i<W[k].length)(w:World)(h:VI B0 B1 B2 n (aF.bT x) W s w):
  Calls Tryz.prog 68 #[.pointer (some ⟨B2+1,0,none⟩),.agg #[.int .i64 (k:Int),.int .i64 (i:Int)]] w fun e w'=>e=.returned (.bool (aF.wrong (aF.bT x) W s k i))/\BL w w':=by
 have hrf:=hfw.refs;have IZ:=hfw.lead;have hrc:=hfw.jc;have xW:=hfw.tot;have hkn:=hfw.af3;have hlen:=hfw.len;obtain⟨ar,cr,aw,cw,gs,uH,Jj,Qd,hsf⟩:=h.box;obtain⟨bs,ho,hbl, -, -,hcn⟩:=h.maps;have Yx:=gN.sl hsf;have TS:=h.Gr;have qq:=h.b12;have h60:=hfw.many;clear h hfw;generalize aF.bT x=rs at*;have Dw:B2+1<w.heap.size:=ay uH;have hsl:s.length=W.length:=by simpa using (congrArg List.length hsh).symm
 have yp:Hid (∀k (h1:k<W.length) (h2:k<s.length),s[k].length=W[k].length):=hid (fun k h1 h2=>by
  have:=congrArg (fun l=>l[k]?) hsh;have e:W[k].length=s[k].length:=by simpa [h1,h2] using this
  exact e.symm)
 have Mi:Hid (∀k (h1:k<W.length),W[k].length<=512):=hid (fun k h1=>by
  have h4:W[k].length<=ah.total W:=gJ h1;omega)
 obtain⟨ao,co,eo,hso, -, -⟩:=Jj.form;cases eo;obtain⟨WZ,W9,ew,hsw, -, -⟩:=Qd.form;cases ew;obtain⟨as',cs',es,hss, -, -⟩:=Yx.form;cases es;obtain⟨w1,hw1⟩:=nmE (w.alloc (.cells #[.int .i64 (k:Int),.int .i64 (i:Int)] 87));have aW:Hid (Below w.heap.size w w1):=hid (by rw[hw1];exact aj.alloc aB _);have Jk:Hid (w1.heap[w.heap.size]?=some (.cells #[.int .i64 (k:Int),.int .i64 (i:Int)] 87 (0,0))):=hid (by rw[hw1];exact aD _ _ rfl);have rM:Hid (∀V,BL w V->V.heap[B2+1]?=some (.cells #[.slice ar rs.length cr,.slice aw W.length cw,.slice (some ⟨gs,0,none⟩) s.length s.length,.map (some B2)] 201 (0,0))):=hid (fun V hV=>(hV.block _ Dw).trans uH);have VK:Hid (∀V,BL w V->CX (fun b=>B0<=b/\b<B1) V (.slice ar rs.length cr) rs):=hid (fun V hV=>dA.keep cQ Jj (aA.below hV));have HWv:Hid (∀V,BL w V->dc (·<B0) V (.slice aw W.length cw) W):=hid (fun V hV=>Qd.keep (aA.below hV));have HSv:Hid (∀V,BL w V->aP (fun b=>B1<=b/\b<B2) V (.slice (some ⟨gs,0,none⟩) s.length s.length) s):=hid (fun V hV=>Yx.keep (aA.below hV));have HOv:Hid (∀V,BL w V->lX V B2 bs):=hid (fun V hV=>ho.keep (hV.block _ (by omega)));have HCv:Hid (∀V,BL w V->∀j (h:j<bs.length) (h2:j<rs.length),cT V bs[j] n (jo W s rs[j])):=hid (fun V hV j h h2=>(hcn j h h2).keep (hV.block _ (hcn j h h2).lt));have HW1:=hid hw1;have xX:=hid hlen;have Ji:=hid hsl;have Eh:=hid hbl;have Iw:=hid hsh;have Nk:=hid hrf;have xC:=hid IZ;have Qe:=hid hrc;have hz1:w.heap.size<w1.heap.size:=by rw[hw1];simp
 have hk0:(0:Int)<=(k:Int):=by omega
 have hi0:(0:Int)<=(i:Int):=by omega
 clear hw1 hlen hsl hbl hsh hrf IZ hrc ho hcn Yx Qd Jj hsf uH;obtain⟨⟨x0,x1,x2,x3⟩, -⟩:=aO (rM.out w1 aW.out);go_enter Tryz.func68,Tryz.ntmps68;go_upto_region 1 with fail;rw[<-HW1.out];go_wp2;clear x0 x1 x2 x3;go_loopw [12] (fun jj wr=>∃j:Nat,j<=rs.length/\jj=.int .i64 j/\Hid ((rs.take j).any (aF.vC W s k i)=false)/\Hid (BL w1 wr)) (fun jj _=>rs.length-(intOf jj).toNat);case atStart=>exact⟨0,Nat.zero_le _,rfl,hid (by simp),hid aj⟩
 case round=>
  obtain⟨j,hj,rfl,yd,iO⟩:=hrel;have iP:=bq aW iO.out;by_cases hlt:j<rs.length
  ·have hj0:(0:Int)<=(j:Int):=by omega
   have hj1:(j:Int)<(rs.length:Int):=by omega
   obtain⟨-,us,Kk,hcs,TG⟩:=dA.at (VK.out wr iP.out) hlt;obtain rfl:us=_:=TG;have y0:wr.cell? ⟨aY ar,bC ar+j*4,none⟩=some (.int .i64 (rs[j].kind:Int)):=hcs 0 _ rfl;have y1:wr.cell? ⟨aY ar,bC ar+j*4+1,none⟩=some (.int .i64 (rs[j].field:Int)):=hcs 1 _ rfl;have y2:wr.cell? ⟨aY ar,bC ar+j*4+2,none⟩=some (.int .i64 rs[j].up):=hcs 2 _ rfl;have y3:wr.cell? ⟨aY ar,bC ar+j*4+3,none⟩=some (.int .i64 rs[j].least):=hcs 3 _ rfl;have hmem:rs[j]∈rs:=zGm hlt;obtain⟨q1,q2,q3,q4,q5,q6, -, -⟩:=Nk.out _ hmem;have HLj:=hid (xC.out _ hmem);have Gt:Hid ((rs.take (j+1)).any (aF.vC W s k i)=aF.vC W s k i rs[j]):=hid (by rw[zTs hlt,List.any_append,yd.out];simp);have Qj:Hid (aF.vC W s k i rs[j]=true->aF.wrong rs W s k i=true):=hid (fun h=>List.any_eq_true.2 ⟨_,hmem,h⟩);have HCj:Hid (∀V,BL w V->cT V (bs[j]'(by rw[Eh.out];exact hlt)) n (jo W s rs[j])):=hid (fun V hV=>HCv.out V hV j _ hlt);clear hcs Kk hmem;generalize rs[j]=rf at*;obtain⟨rk,rj,ru,rl⟩:=rf;simp only at y0 y1 y2 y3 q1 q2 q3 q4 q5 q6;obtain⟨m,rfl⟩:∃m:Nat,ru=(m:Int):=⟨ru.toNat,by omega⟩;obtain⟨w5,hw⟩:=nmE (wr.alloc (.cells #[.int .i64 (rk:Int),.int .i64 (rj:Int),.int .i64 (m:Int),.int .i64 rl] 159));have zS:Hid (w5.heap[wr.heap.size]?=some (.cells #[.int .i64 (rk:Int),.int .i64 (rj:Int),.int .i64 (m:Int),.int .i64 rl] 159 (0,0))):=hid (by rw[hw];exact aD wr _ rfl);have fS:Hid (Below w1.heap.size w1 w5):=hid (by rw[hw];exact iO.out.alloc iO.out.size _);have dP:=bq aW fS.out;have yI:=hid hw;clear hw;go_upto_region 4 with fail;rw[<-yI.out];clear y0 y1 y2 y3;obtain⟨⟨y0,y1,y2,y3⟩, -⟩:=aO zS.out;obtain⟨⟨x0,x1,x2,x3⟩, -⟩:=aO (rM.out w5 dP.out);obtain⟨⟨a0,a1⟩, -⟩:=nN ((fS.out.block _ hz1).trans Jk.out);have yJ:Hid (aF.vC W s k i ⟨rk,rj,(m:Int),rl⟩=((decide (rk=k)&& !Sub.keeps s m (aF.mq W k i rj).toNat)||(decide ((m:Int)=k)&&decide ((aF.CF W s ⟨rk,rj,(m:Int),rl⟩ i:Int)<rl)))):=hid rfl;by_cases hkk:rk=k
   ·subst hkk
    have Yh:m<W.length:=by have:=xX.out;omega
    have hms:m<s.length:=by rw[Ji.out];exact Yh
    have hm0:(0:Int)<=(m:Int):=by omega
    have hm1:(m:Int)<(s.length:Int):=by omega
    have hk1:(rk:Int)<(W.length:Int):=by omega
    obtain⟨uk,EN, -,hrow⟩:=(HWv.out w5 dP.out).at hk;obtain⟨ua,uc,rfl,hsu, -, -⟩:=hrow.form;obtain⟨ui,Yt, -,VL⟩:=hrow.at hi;obtain⟨ia,ic,rfl,hsi, -, -⟩:=VL.form;have K9:rj<W[rk][i].length:=by rw[Qe.out rk hk _ (zGm hi)];exact q2
    obtain⟨uv,huv, -,rfl⟩:=VL.at K9;have hat:aF.mq W rk i rj=W[rk][i][rj]:=DT hk hi K9;have IZ:0<=aF.mq W rk i rj/\aF.mq W rk i rj<ah.eV W (m:Int):=HLj.out i hk hi;rw[hat] at IZ;obtain⟨bk,hbk, -,kU⟩:=(HSv.out w5 dP.out).at hms;obtain⟨ba,bc,rfl,hsb, -, -⟩:=kU.form;rw[fC,fD,Nat.zero_add] at hbk
    have hle:ah.eV W (m:Int)=s[m].length:=by
     rw[yp.out m Yh hms];unfold ah.eV;rw[Int.toNat_natCast,Sub.aR Yh]
    obtain⟨v,hv⟩:∃v:Nat,W[rk][i][rj]=(v:Int):=⟨W[rk][i][rj].toNat,by omega⟩;have hvs:v<s[m].length:=by omega
    obtain⟨ub,TL, -,rfl⟩:=kU.at hvs;have Aj:Hid (Sub.keeps s m (aF.mq W rk i rj).toNat=s[m][v]):=hid (by unfold Sub.keeps;rw[hat,hv,Int.toNat_natCast,Sub.aR hms,Sub.aR hvs]);have hv0:(0:Int)<=(v:Int):=by omega
    have hv1:(v:Int)<(s[m].length:Int):=by omega
    have hj2:(0:Int)<=(rj:Int):=by omega
    have hj3:(rj:Int)<(W[rk][i].length:Int):=by omega
    have hi1:(i:Int)<(W[rk].length:Int):=by omega
    rw[hv] at huv;have HHi:=hid hi;have HHk:=hid hk;clear hrow VL kU hat IZ hle hv;generalize s[m][v]=kp at*;clear hvs;generalize s[m].length=ns at*;generalize W[rk][i].length=ln at*;cases kp with
    |false=>
     have Yy:Hid (aF.wrong rs W s rk i=true):=hid (Qj.out (by rw[yJ.out,Aj.out];simp))
     clear yJ Aj Gt Qj
     go_wp2
     go_quiet (fail)
     go_wp2
     go_ret
     exact⟨by rw[Yy.out];rfl,af5 dP.out _⟩
    |true=>
     have hmk:¬(m:Int)=(rk:Int):=by omega
     have Qk:Hid ((rs.take (j+1)).any (aF.vC W s rk i)=false):=hid (by rw[Gt.out,yJ.out,Aj.out];simp[hmk])
     clear yJ Aj Gt Qj
     iterate 2
      go_wp2
      go_quiet (fail)
     go_wp2
     go_roundw
     case rel=>exact⟨j+1,by omega,by go_num,Qk,hid (by repeat (first|exact fS.out|refine af5 ?_ _))⟩
     simp[intOf];omega
   ·have hkk2:¬(rk:Int)=(k:Int):=by omega
    by_cases hmk:(m:Int)=(k:Int)
    ·obtain rfl:m=k:=by omega
     obtain⟨lf,hlf⟩:=nmE (aF.CF W s ⟨rk,rj,(m:Int),rl⟩ i);have BG:Hid (aF.vC W s m i ⟨rk,rj,(m:Int),rl⟩=decide ((lf:Int)<rl)):=hid (by rw[yJ.out,hlf];simp[hkk])
     have L0:Hid (∀V,BL w V->(Instr.lookup 154 (.map (some (bs[j]'(by rw[Eh.out];exact hlt)))) (.agg #[.int .i64 (m:Int),.int .i64 (i:Int)]) false).run Tryz.prog V=.ok (.int .i64 (lf:Int)) V):=hid (fun V hV=>by
      have h1:=(HCj.out V hV).look (a:=(m:Int)) (c:=(i:Int)) ⟨by omega,by omega⟩ ⟨by omega,by have:=Mi.out m hk;omega⟩;have h2:jo W s ⟨rk,rj,(m:Int),rl⟩ (m:Int) (i:Int)=(lf:Int):=by rw[hlf];unfold jo lu aF.CF;rw[if_pos rfl]
      rw[h2] at h1;exact h1)
     have HLo:Hid (∀V,BL w V->(Instr.lookup 199 (.map (some B2)) (.int .i64 (j:Int)) false).run Tryz.prog V=.ok (.map (some (bs[j]'(by rw[Eh.out];exact hlt)))) V):=hid (fun V hV=>(HOv.out V hV).look (by rw[Eh.out];exact hlt) (by omega));clear hlf yJ;generalize (bs[j]'(by rw[Eh.out];exact hlt))=bj at*;go_wp2;go_quiet (fail);go_upto_region 6 with fail;have Nb:=fS.out.size;have hqx0:=hqC w5 ⟨B2+1,0,none⟩ (.slice ar rs.length cr) fun xh=>(aO (rM.out xh.1 (tnB dP.out xh.2))).1.1;have Ql:=hqC w5 ⟨B2+1,1,none⟩ (.slice aw W.length cw) fun xh=>(aO (rM.out xh.1 (tnB dP.out xh.2))).1.2.1;have Yz:=hqC w5 ⟨B2+1,2,none⟩ (.slice (some ⟨gs,0,none⟩) s.length s.length) fun xh=>(aO (rM.out xh.1 (tnB dP.out xh.2))).1.2.2.1;have YA:=hqC w5 ⟨B2+1,3,none⟩ (.map (some B2)) fun xh=>(aO (rM.out xh.1 (tnB dP.out xh.2))).1.2.2.2;have vV:=hqC w5 ⟨wr.heap.size,0,none⟩ (.int .i64 (rk:Int)) fun xh=>(aO ((xh.2.block _ (ay zS.out)).trans zS.out)).1.1;have sD:=hqC w5 ⟨wr.heap.size,1,none⟩ (.int .i64 (rj:Int)) fun xh=>(aO ((xh.2.block _ (ay zS.out)).trans zS.out)).1.2.1;have sE:=hqC w5 ⟨wr.heap.size,2,none⟩ (.int .i64 (m:Int)) fun xh=>(aO ((xh.2.block _ (ay zS.out)).trans zS.out)).1.2.2.1;have vW:=hqC w5 ⟨wr.heap.size,3,none⟩ (.int .i64 rl) fun xh=>(aO ((xh.2.block _ (ay zS.out)).trans zS.out)).1.2.2.2;have Ak:=hqC w5 ⟨w.heap.size,0,none⟩ (.int .i64 (m:Int)) fun xh=>(nN ((xh.2.block _ (show w.heap.size<w5.heap.size by omega)).trans ((fS.out.block _ hz1).trans Jk.out))).1.1;have Al:=hqC w5 ⟨w.heap.size,1,none⟩ (.int .i64 (i:Int)) fun xh=>(nN ((xh.2.block _ (show w.heap.size<w5.heap.size by omega)).trans ((fS.out.block _ hz1).trans Jk.out))).1.2;refine cH 16 (.quiet 0 (.quiet 1 (.quiet 2 (.quiet 3 (.quiet 4 (.quiet 5 (.quiet 6 (.quiet 10 (.quiet 12 (.quiet 14 (.quiet 15 (.one 7 (.quiet 8 (.quiet 9 (.one 11 (.one 13 .done)))))))))))))))) (BL w5) mxT (by kernel_rfl) (af5 (af5 aj _) 1) ?_;generalize hw8:World.drewN _ 1=w8;have rO:Hid (Below w5.heap.size w5 w8):=hid (by rw[<-hw8];exact af5 (af5 aj _) 1);clear hw8;have lP:=bq dP rO.out;have xE:=bq fS rO.out;have hlo:=HLo.out w8 lP.out;have hlk:=L0.out w8 lP.out;clear x0 x1 x2 x3 y0 y1 y2 y3 a0 a1
     iterate 11
      refine ai rfl ?_
      intro hne
      go_big_quiet_step (fail)
      refine zWq ?_
      clear hne
     refine aH rfl ?_;go_wp2_with fail;refine aC (BL w5) (fun _ h=>h) rO.out ?_
     iterate 2
      refine ai rfl ?_
      intro hne
      go_big_quiet_step (fail)
      refine zWq ?_
      clear hne
     iterate 2
      refine aH rfl ?_
      go_wp2_with fail
      refine aC (BL w5) (fun _ h=>h) rO.out ?_
     refine aL ?_;try simp only[zDs,zDz]
     clear hqx0 Ql Yz YA vV sD sE vW Ak Al hlo hlk;by_cases hlr:(lf:Int)<rl
     ·have Yy:Hid (aF.wrong rs W s m i=true):=hid (Qj.out (by rw[BG.out];exact decide_eq_true hlr))
      go_wp2;go_ret;exact⟨by rw[Yy.out];rfl,lP.out⟩
     ·have Qk:Hid ((rs.take (j+1)).any (aF.vC W s m i)=false):=hid (by rw[Gt.out,BG.out];exact decide_eq_false hlr)
      go_wp2;go_roundw;case rel=>exact⟨j+1,by omega,by go_num,Qk,xE⟩
      simp[intOf];omega
    ·have BG:Hid (aF.vC W s k i ⟨rk,rj,(m:Int),rl⟩=false):=hid (by rw[yJ.out];simp[hkk,hmk])
     have Qk:Hid ((rs.take (j+1)).any (aF.vC W s k i)=false):=hid (by rw[Gt.out,BG.out]);clear yJ BG Gt Qj
     iterate 2
      go_wp2
      go_quiet (fail)
     go_wp2;go_roundw;case rel=>exact⟨j+1,by omega,by go_num,Qk,hid (by repeat (first|exact fS.out|refine af5 ?_ _))⟩
     simp[intOf];omega
  ·obtain rfl:rs.length=j:=by omega
   have HW0:Hid (aF.wrong rs W s k i=false):=hid (by have:=yd.out;rw[List.take_length] at this;exact this);go_wp2;go_ret;exact⟨by rw[HW0.out];rfl,iP.out⟩
section
variable {P:Program} {ops:Array Oper} {md:Region.Mode}
def uI:Op->Bool
 | .move _| .assign _| .pick .. | .load .. | .binOp .. | .unOp .. | .build .. | .fieldAddr .. | .field .. | .indexAddr .. | .index .. | .slice .. | .extract .. | .convert .. | .makeFunc .. | .makeInterface .. | .nilCheck .. | .lookup .. =>true
 | .call {callee:=.builtin .len, .. }| .call {callee:=.builtin .cap, .. }| .call {callee:=.builtin .min, .. }| .call {callee:=.builtin .max, .. }=>true
 |_=>false
theorem DU{o:Oper}{x:Operand}(ho:o.op=.nilCheck x){ρ:Operand->Value}{w w':World}{nx:Next}(hn:∀v,nx≠ .value v):(execOp ρ o).run P w≠ .ok nx w':=by
 unfold execOp;rw[ho];dsimp only;split
 ·simp[go_sem]
 ·simp[go_sem]
 ·simp[go_sem]
 ·split
  ·simp[go_sem]
  ·rename_i t v _
   intro e;simp only[Sem.run_bind] at e;cases h1:Sem.run P program w with
   |halt a b=>rw[h1] at e;cases e
   |ok p w1=>
    rw[h1] at e
    simp only[Result.andThen] at e
    generalize Sem.run P (nilAhead (p.types.size+Made.depth) t v _) w1=r at e
    cases r with
    |halt a b=>cases e
    |ok q w2=>
     simp only at e
     split at e
     ·simp[go_sem] at e
     ·cases e;exact hn _ rfl
  ·intro e;cases e;exact hn _ rfl
 ·intro e;cases e;exact hn _ rfl
theorem vX{o:Oper}(h:uI o.op=true){ρ:Operand->Value}{w w':World}{nx:Next}(hn:∀v,nx≠ .value v):(execOp ρ o).run P w≠ .ok nx w':=by
 by_cases hc:∃x,o.op=.nilCheck x
 ·obtain⟨x,ho⟩:=hc
  exact DU ho hn
 unfold execOp;generalize o.op=op at*;unfold uI at h;split at h
 all_goals first
  |exact absurd ⟨_,rfl⟩ hc
  |exact lE hn
  |exact rT hn
  |(intro e;cases e;exact hn _ rfl)
  |(simp only[resolve,invoke,builtin];exact lE hn)
  |(exact absurd h (by simp))
def Region.jJ(md:Region.Mode)(ops:Array Oper)(n:Nat):Nat->iM->Array Bool->Bool
 |0,.done,listed=>Region.seqB md ops (ops.size-n) n listed
 |f+1,.one c s,listed=>decide (Region.ready md ops listed=[c])&&decide (c<n)&&Region.jJ md ops n f s (listed.setIfInBounds c true)
 |f+1,.two c d s t,listed=>decide (Region.ready md ops listed=[c,d])&&decide (c<n)&&decide (d<n)&&Region.jJ md ops n f s (listed.setIfInBounds c true)&&Region.jJ md ops n f t (listed.setIfInBounds d true)
 |f+1,.three c d e s t u,listed=>decide (Region.ready md ops listed=[c,d,e])&&decide (c<n)&&decide (d<n)&&decide (e<n)&&Region.jJ md ops n f s (listed.setIfInBounds c true)&&Region.jJ md ops n f t (listed.setIfInBounds d true)&&Region.jJ md ops n f u (listed.setIfInBounds e true)
 |f+1,.quiet q s,listed=>(Region.ready md ops listed).contains q&&Region.free md ops listed q&&decide (q<n)&&((ops[q]?).map (fun o=>uI o.op)).getD false&&Region.jJ md ops n f s (listed.setIfInBounds q true)
 |_,_,_=>false
def Region.qR(md:Region.Mode)(ops:Array Oper)(n:Nat)(s:iM):Bool:=
 Region.noSelect ops&&decide (n<ops.size)&&Region.sinkB md ops n&&Region.chainB md ops n&&Region.jJ md ops n n s (Array.replicate ops.size false)
theorem dX{n:Nat}{Lq:Act->World->Prop}(hsel:Region.noSelect ops=true)(hs:Region.sinkB md ops n=true)(hc:Region.chainB md ops n=true)(hn:n<ops.size):
  ∀(f:Nat) (s:iM) (φ:World->Prop) (listed:Array Bool) (a:Act) (w:World),φ w->HeadInv md ops n listed->Region.jJ md ops n f s listed=true->bJ P ops Lq ops.toList s φ a w->
  jv P md ops (dQ φ) n (fun listed' a' w'=>Region.seqB md ops (ops.size-n) n listed'=true/\Lq a' w') f listed a w
 |0,.done,φ,listed,a,w,hC,inv,hB,h=>by
  simp only[Region.jJ] at hB;exact⟨hB,h⟩
 |f+1,.quiet k s,φ,listed,a,w,hC,inv,hB,h=>by
  simp only[Region.jJ,zBa,zDt] at hB;obtain⟨⟨⟨⟨hr,hf⟩,hkn⟩,hq⟩,hB⟩:=hB;have hks:k<ops.size:=by omega
  obtain⟨o,h0⟩:∃o,ops[k]?=some o:=⟨ops[k],by simp[hks]⟩;have h0':ops.toList[k]?=some o:=by simpa using h0
  simp only[bJ,h0'] at h;have h:=h ⟨⟨w,hC⟩⟩;have F9:dQ φ w:=⟨⟨w,hC⟩,rfl⟩;have MW:uI o.op=true:=by rw[h0] at hq;simpa using hq
  unfold wpQuiet at h;split at h
  ·rename_i hw
   obtain⟨v,h1,h2⟩:=h
   have hy:fF P ops (dQ φ) o v a:=.inl ⟨hw,fun w1 Ws=>by
    have g:=h1 w1 Ws;unfold Oper.quietAt at g;generalize hr1:(execOp a.eval o).run P w1=r at g ⊢;cases r with
    |ok nx w2=>
     cases nx with
     |value u=>obtain⟨e1,e2⟩:=g;rw[e1,e2]
     |_=>exact absurd hr1 (vX MW (by intro v;simp))
    |halt x w2=>exact g.elim⟩
   exact gm h0 hsel hs hc hn hkn (fun listed' a' w' hL=>mw hL.1 aB) F9 inv hf hr hy
    (dX hsel hs hc hn f s φ _ _ w hC (inv.set (by simpa using hr) hkn) hB h2)
  ·rename_i hw
   exact gm h0 hsel hs hc hn hkn (fun listed' a' w' hL=>mw hL.1 aB) F9 inv hf hr (.inr ⟨by simpa using hw,rfl⟩)
    (dX hsel hs hc hn f s φ _ _ w hC (inv.set (by simpa using hr) hkn) hB h)
 |f+1,.one k s,φ,listed,a,w,hC,inv,hB,h=>by
  simp only[Region.jJ,zBa,zDt] at hB;obtain⟨⟨hr,hkn⟩,hB⟩:=hB;simp only[bJ] at h;refine⟨by rw[hr];simp,fun i hi=>?_⟩;rw[hr] at hi;obtain rfl:i=k:=by simpa using hi
  exact⟨hkn,dL h fun φ' a' w' hw' h3=>dX hsel hs hc hn f s φ' _ a' w' hw' (inv.set (by rw[hr];simp) hkn) hB h3⟩
 |f+1,.two k j s t,φ,listed,a,w,hC,inv,hB,h=>by
  simp only[Region.jJ,zBa,zDt] at hB;obtain⟨⟨⟨⟨hr,hkn⟩,hjn⟩,NG⟩,Dw⟩:=hB;simp only[bJ] at h;refine⟨by rw[hr];simp,fun i hi=>?_⟩;rw[hr] at hi;by_cases e:i=k
  ·subst e
   exact⟨hkn,dL h.1 fun φ' a' w' hw' h3=>dX hsel hs hc hn f s φ' _ a' w' hw' (inv.set (by rw[hr];simp) hkn) NG h3⟩
  ·obtain rfl:i=j:=by simpa [e] using hi
   exact⟨hjn,dL h.2 fun φ' a' w' hw' h3=>dX hsel hs hc hn f t φ' _ a' w' hw' (inv.set (by rw[hr];simp) hjn) Dw h3⟩
 |f+1,.three k j m s t u,φ,listed,a,w,hC,inv,hB,h=>by
  simp only[Region.jJ,zBa,zDt] at hB;obtain⟨⟨⟨⟨⟨⟨hr,hkn⟩,hjn⟩,hmn⟩,NG⟩,Dw⟩,hB3⟩:=hB;simp only[bJ] at h;refine⟨by rw[hr];simp,fun i hi=>?_⟩;rw[hr] at hi;by_cases e:i=k
  ·subst e
   exact⟨hkn,dL h.1 fun φ' a' w' hw' h3=>dX hsel hs hc hn f s φ' _ a' w' hw' (inv.set (by rw[hr];simp) hkn) NG h3⟩
  ·by_cases e':i=j
   ·subst e'
    exact⟨hjn,dL h.2.1 fun φ' a' w' hw' h3=>dX hsel hs hc hn f t φ' _ a' w' hw' (inv.set (by rw[hr];simp) hjn) Dw h3⟩
   ·obtain rfl:i=m:=by simpa [e,e'] using hi
    exact⟨hmn,dL h.2.2 fun φ' a' w' hw' h3=>dX hsel hs hc hn f u φ' _ a' w' hw' (inv.set (by rw[hr];simp) hmn) hB3 h3⟩
 |0,.quiet ..,_,_,_,_,_,_,hB,_=>by simp[Region.jJ] at hB
 |0,.one ..,_,_,_,_,_,_,hB,_=>by simp[Region.jJ] at hB
 |0,.two ..,_,_,_,_,_,_,hB,_=>by simp[Region.jJ] at hB
 |0,.three ..,_,_,_,_,_,_,hB,_=>by simp[Region.jJ] at hB
 |_+1,.done,_,_,_,_,_,_,hB,_=>by simp[Region.jJ] at hB
theorem bF{id:Nat}{Q:Exit->Act->World->Prop}{a:Act}{w:World}{l:List Oper}(n:Nat)(s:iM)(φ:World->Prop)(hm:P.follows .mixedOrders=true)(hB:Region.qR .any l.toArray n s=true)(hC:φ (w.drewN 1))
  (h:bJ P l.toArray (fun a' w'=>wpList P l.toArray Q (l.drop n) a' w') l s φ a (w.drewN 1)):(Code.region id l.toArray true).wp P Q a w:=by
 simp only[Region.qR,zBa,zDt] at hB;obtain⟨⟨⟨⟨hsel,hn⟩,hs⟩,hc⟩,hlex⟩:=hB
 have inv0:HeadInv .any l.toArray n (Array.replicate l.toArray.size false):=
  ⟨by simp,fun j oj _ hl=>(by rw[getD_replicate_false] at hl;cases hl),fun t _ ht=>getD_in (by simpa using ht) (getD_replicate_false _ _)⟩
 have H:=dX (md:=.any) (Lq:=fun a' w'=>wpList P l.toArray Q (l.drop n) a' w') hsel hs hc hn n s φ _ a _ hC inv0 hlex (by simpa using h);refine wp_region_any hm ?_;have hdl:(l.drop n).length=l.toArray.size-n:=by simp
 have:=fU (Q':=Q) (g:=l.toArray.size-n) (fun listed a' w' hL=>by
  have:=wpAny_of_seq (md:=.any) (Q':=Q) (l.drop n) n listed a' w' (fun j=>by simp[List.getElem?_drop]) (by rw[hdl];exact hL.1) hL.2;rwa [hdl] at this) _ _ _ _ H
 rw[show n+(l.toArray.size-n)=l.toArray.size by omega] at this;exact this
end
theorem agf{P:Program}{id:Nat}{Q:Exit->Act->World->Prop}{a:Act}{l:List Oper}(w:World)(n:Nat)(s:iM)(hm:P.follows .mixedOrders=true)(hB:Region.qR .any l.toArray n s=true)(h:∀wq,Hid (Below w.heap.size w wq)->bJ P l.toArray (fun a' w'=>wpList P l.toArray Q (l.drop n) a' w') l s (BL w) a wq):(Code.region id l.toArray true).wp P Q a w:=bF n s _ hm hB (af5 (Below.refl _ _) 1) (h _ (af5 (Below.refl _ _) 1))
structure yt(B0 B1 B2 M n:Nat)(rs:List aF.Ref)(W:ah.bK)(s:Sub.S)(w:World):Prop where
 Gr:B0<=B1
 b12:B1<=B2
 Ry:B2+2<=M
 box:∃ar cr aw cw gs,w.heap[B2+1]?=some (.cells #[.slice ar rs.length cr,.slice aw W.length cw,.slice (some ⟨gs,0,none⟩) s.length s.length,.map (some B2)] 201 (0,0))/\
  CX (fun b=>B0<=b/\b<B1) w (.slice ar rs.length cr) rs/\dc (·<B0) w (.slice aw W.length cw) W/\gN (fun b=>B1<=b/\b<B2) w (.slice (some ⟨gs,0,none⟩) s.length s.length) s
 maps:∃bs:List Nat,lX w B2 bs/\bs.length=rs.length/\bs.Nodup/\(∀b∈bs,B2+2<=b/\b<M)/\∀k (h:k<bs.length) (h2:k<rs.length),cT w bs[k] n (jo W s rs[k])
theorem yt.toV{B0 B1 B2 M n:Nat}{rs:List aF.Ref}{W:ah.bK}{s:Sub.S}{w:World}(h:yt B0 B1 B2 M n rs W s w):VI B0 B1 B2 n rs W s w where
 Gr:=h.Gr
 b12:=h.b12
 box:=h.box
 maps:=by
  obtain⟨bs,h1,h2,h3,h4,h5⟩:=h.maps;exact⟨bs,h1,h2,h3,fun b hb=>(h4 b hb).1,h5⟩
theorem VI.toD{B0 B1 B2 n:Nat}{rs:List aF.Ref}{W:ah.bK}{s:Sub.S}{w:World}(h:VI B0 B1 B2 n rs W s w):yt B0 B1 B2 w.heap.size n rs W s w where
 Gr:=h.Gr
 b12:=h.b12
 Ry:=by
  obtain⟨ar,cr,aw,cw,gs,h1, -⟩:=h.box;exact ay h1
 box:=h.box
 maps:=by
  obtain⟨bs,h1,h2,h3,h4,h5⟩:=h.maps;refine⟨bs,h1,h2,h3,fun b hb=>⟨h4 b hb,?_⟩,h5⟩;obtain⟨k,hk,rfl⟩:=List.getElem_of_mem hb;exact(h5 k hk (by omega)).lt
theorem yt.qt{B0 B1 B2 M n:Nat}{rs:List aF.Ref}{W:ah.bK}{s:Sub.S}{w w':World}(h:yt B0 B1 B2 M n rs W s w)(hk:aA (·<M) w w'):yt B0 B1 B2 M n rs W s w' where
 Gr:=h.Gr
 b12:=h.b12
 Ry:=h.Ry
 box:=by
  have h1:=h.Gr;have h2:=h.b12;have h3:=h.Ry;obtain⟨ar,cr,aw,cw,gs,g1,g2,g3,g4⟩:=h.box;refine⟨ar,cr,aw,cw,gs,?_,dA.keep cQ g2 (fun b hb hlt=>hk b (by have:=hb.2;show b<M;omega) hlt),g3.keep (fun b (hb:b<B0) hlt=>hk b (by show b<M;omega) hlt),bN.keep g4 (fun b hb hlt=>hk b (by have:=hb.2;show b<M;omega) hlt)⟩;rw[hk _ (by show B2+1<M;omega) (ay g1)];exact g1
 maps:=by
  have h3:=h.Ry;obtain⟨bs,g1,g2,g3,g4,g5⟩:=h.maps;exact⟨bs,g1.keep (hk _ (by show B2<M;omega) g1.lt),g2,g3,g4,fun k a b=>(g5 k a b).keep (hk _ (g4 _ (zGm a)).2 (g5 k a b).lt)⟩
theorem yt.mono{B0 B1 B2 M n m:Nat}{rs:List aF.Ref}{W:ah.bK}{s:Sub.S}{w:World}(h:yt B0 B1 B2 M n rs W s w)(hm:n<=m):yt B0 B1 B2 M m rs W s w where
 Gr:=h.Gr
 b12:=h.b12
 Ry:=h.Ry
 box:=h.box
 maps:=by
  obtain⟨bs,g1,g2,g3,g4,g5⟩:=h.maps;exact⟨bs,g1,g2,g3,g4,fun k a b=>(g5 k a b).mono hm⟩
theorem aJ.VO{A:Nat->Obj->Prop}{n0 M:Nat}{w w':World}(h:aJ A n0 w w')(hA:∀b o,b<M->¬A b o):aA (·<M) w w':=fun b hb hlt=>by
 have ho:w.heap[b]?=some w.heap[b]:=Array.getElem?_eq_getElem hlt;rw[ho,h.2 b _ ho (hA b _ hb)]
theorem aJ.dM{A:Nat->Obj->Prop}{n0:Nat}{S:Nat->Prop}{w w':World}(h:Turns S w w')(hn:n0<=w.heap.size)(h0:∀b,S b->n0<=b)(hA:∀b o,S b->w.heap[b]?=some o->A b o):aJ A n0 w w':=
 ⟨h.below hn h0,fun b o ho hb=>(h.block b (fun hS=>hb (hA b o hS ho)) (ay ho)).trans ho⟩
theorem cT.obj{w:World}{b n:Nat}{f:Int->Int->Int}(h:cT w b n f){o:Obj}(ho:w.heap[b]?=some o):¬book o:=by
 obtain⟨D,⟨es,clock,hb, -⟩, -⟩:=h;rw[hb] at ho;cases ho;simp[book]
theorem sF(W:ah.bK)(s:Sub.S)(r:aF.Ref)(k i:Nat)(c:Int):∀n,aF.p9 W (Sub.drop s k i) r c n+(if r.kind=k/\i<n/\Sub.keeps s k i=true/\aF.mq W k i r.field=c then 1 else 0)=aF.p9 W s r c n
 |0=>by simp[aF.p9]
 |n+1=>by
  have ih:=sF W s r k i c n;rw[oB,oB,Sub.fK];by_cases e:r.kind=k/\n=i
  ·obtain⟨rfl,rfl⟩:=e
   rw[if_neg (by omega)] at ih;have h1:n<n+1:=by omega
   cases hk:Sub.keeps s r.kind n<;>simp[h1]<;>omega
  ·have h2:(decide (r.kind=k)&&decide (n=i))=false:=by simpa using e
   rw[h2];by_cases hr:r.kind=k
   ·have hni:n≠i:=fun h=>e ⟨hr,h⟩
    have h3:(i<n+1)↔i<n:=by omega
    simp only[h3];simp only[Bool.not_false,Bool.and_true];omega
   ·simp only[hr,false_and,if_false] at ih ⊢
    simp only[Bool.not_false,Bool.and_true];omega
theorem DV{W:ah.bK}{s:Sub.S}{r:aF.Ref}{k i:Nat}(h:r.kind≠k):jo W (Sub.drop s k i) r=jo W s r:=by
 funext a c;unfold jo lu;have:=sF W s r k i c (W.getD r.kind []).length;rw[if_neg (by simp[h]),Nat.add_zero] at this;rw[this]
theorem BH{W:ah.bK}{s:Sub.S}{r:aF.Ref}{k i:Nat}(h:r.kind=k)(hi:i<(W.getD k []).length)(hk:Sub.keeps s k i=true):
  jo W (Sub.drop s k i) r=sy (jo W s r) r.up (aF.mq W k i r.field) (jo W s r r.up (aF.mq W k i r.field)-1):=by
 subst h;funext a c;unfold sy jo lu;have:=sF W s r r.kind i c (W.getD r.kind []).length;by_cases ha:a=r.up
 ·subst ha
  by_cases hc:c=aF.mq W r.kind i r.field
  ·subst hc
   rw[if_pos ⟨rfl,hi,hk,rfl⟩] at this;rw[if_pos rfl,if_pos ⟨rfl,rfl⟩,if_pos rfl];omega
  ·rw[if_neg (fun h=>hc h.2.2.2.symm),Nat.add_zero] at this
   rw[if_pos rfl,if_neg (fun h=>hc h.2),if_pos rfl,this]
 ·rw[if_neg ha,if_neg (fun h=>ha h.1),if_neg ha]
theorem FM(x:ah.bD)(W:ah.bK)(s:Sub.S)(hfw:aF.xo x W)(hsh:W.map List.length=s.map List.length)(B0 B1 B2 M n:Nat)(hn:n<=100000)(k i:Nat)(hk:k<W.length)(hi:i<W[k].length)(hki:Sub.keeps s k i=true)(w:World)(h:yt B0 B1 B2 M n (aF.bT x) W s w):
  Calls Tryz.prog 73 #[.pointer (some ⟨B2+1,0,none⟩),.agg #[.int .i64 (k:Int),.int .i64 (i:Int)]] w fun e w'=>(∃v,e=.returned v)/\yt B0 B1 B2 M (n+1) (aF.bT x) W (Sub.drop s k i) w'/\aJ (fun b o=>(B1<=b/\b<M)/\¬book o) B1 w w':=by
 have hrf:=hfw.refs;have IZ:=hfw.lead;have hrc:=hfw.jc;have xW:=hfw.tot;have hkn:=hfw.af3;have hlen:=hfw.len;have hST:=hid h;obtain⟨ar,cr,aw,cw,gs,uH,Jj,Qd,hsf⟩:=h.box;obtain⟨bs,ho,hbl,hnd,hbs,hcn⟩:=h.maps;have TS:=h.Gr;have qq:=h.b12;have hb2m:=h.Ry;have h60:=hfw.many;clear h hfw;generalize aF.bT x=rs at*;have Dw:B2+1<w.heap.size:=ay uH;have hsl:s.length=W.length:=by simpa using (congrArg List.length hsh).symm
 have hks:k<s.length:=by omega
 have hrow:s[k].length=W[k].length:=by
  have:=congrArg (fun l=>l[k]?) hsh;have e:W[k].length=s[k].length:=by simpa [hk,hks] using this
  exact e.symm
 have Mi:Hid (∀k (h1:k<W.length),W[k].length<=512):=hid (fun k h1=>by
  have h4:W[k].length<=ah.total W:=gJ h1;omega)
 obtain⟨sd,hsd⟩:=nmE (Sub.drop s k i);have hsd2:sd=s.set k (s[k].set i false):=by rw[hsd];unfold Sub.drop;rw[Sub.aR hks]
 have YB:sd.length=s.length:=by rw[hsd2,List.length_set]
 rw[<-hsd];obtain⟨ao,co,eo,hso, -, -⟩:=Jj.form;cases eo;obtain⟨WZ,W9,ew,hsw, -, -⟩:=Qd.form;cases ew;obtain⟨w1,hw1⟩:=nmE (w.alloc (.cells #[.int .i64 (k:Int),.int .i64 (i:Int)] 87));have aW:Hid (Below w.heap.size w w1):=hid (by rw[hw1];exact aj.alloc aB _);have Jk:Hid (w1.heap[w.heap.size]?=some (.cells #[.int .i64 (k:Int),.int .i64 (i:Int)] 87 (0,0))):=hid (by rw[hw1];exact aD _ _ rfl);have rM:Hid (∀V,BL w V->V.heap[B2+1]?=some (.cells #[.slice ar rs.length cr,.slice aw W.length cw,.slice (some ⟨gs,0,none⟩) s.length s.length,.map (some B2)] 201 (0,0))):=hid (fun V hV=>(hV.block _ Dw).trans uH);have abP:=bN.keep hsf (aA.below aW.out);obtain⟨uk,Sk,g',cap,e1,EN,kU,VP,abQ,hgs,hset⟩:=gD.inner cV abP hks;cases e1;obtain⟨nb,hnb⟩:=nmE (s[k].length);have hib:i<nb:=by omega
 have hform:=iF kU.1 (by omega);obtain⟨gk,ck,e2,hck, -, -,hat⟩:=hform;subst e2;have Gg:Sk gk:=kU.2 gk rfl;have hgk:=VP gk Gg
 obtain⟨ogk,abR⟩:∃c,w1.heap[gk]?=some (.cells c 4 (0,0)):=by
  rcases kU.1.2 with⟨h2,_⟩|⟨g2,c2,cur,hv2,hb2,hg2,_⟩
  ·cases h2
  ·cases hv2;exact⟨_,hg2⟩
 have Tz:Hid (∀V:World,V.heap=w1.heap->(∃b,V.cell? ⟨gk,i,none⟩=some (.bool b))/\V.frozen? ⟨gk,i,none⟩=false):=hid (fun V hV=>by
  have h0:=hat i (by simp;omega);have e3:V.heap[gk]?=w1.heap[gk]?:=by rw[hV]
  refine⟨⟨(s[k])[i]'(by omega),?_⟩,?_⟩
  ·rw[World.cell?_of_block (w:=w1) (a:=⟨gk,i,none⟩) e3,h0.1];simp
  ·rw[World.frozen?_of_block (w:=w1) (a:=⟨gk,i,none⟩) e3,h0.2])
 have PX:Hid (∀V,BL w1 V->V.cell? ⟨gs,k,none⟩=some (.slice (some ⟨gk,0,none⟩) nb ck)):=hid (fun V hV=>by
  rw[hnb];exact(World.cell?_of_block (w:=w1) (a:=⟨gs,k,none⟩) (hV.block _ (zBl w1 ⟨gs,k,none⟩ EN))).trans EN)
 have HW1:=hid hw1;have hz1:w.heap.size<w1.heap.size:=by rw[hw1];simp
 have ZO:B1<=w.heap.size:=by omega
 have abS:=hgk.1;have hgk2:=hgk.2
 have TU:Hid (∀V:World,V.heap=w1.heap->gN (fun b=>B1<=b/\b<B2) (V.setCell ⟨gk,i,none⟩ (.bool false)) (.slice (some ⟨gs,0,none⟩) sd.length sd.length) sd):=hid (fun V hV=>by
  rw[YB,hsd2];refine hset _ _ (fZ.set (cV.keep kU (fun b _ _=>by rw[hV])) rfl i false) (fun b hb hlt=>?_);have hne:b≠gk:=fun e=>hb.2 (e▸Gg);exact(zBh _ _ _ _ hne).trans (by rw[hV]))
 have K8:Hid (∀V:World,V.heap=w1.heap->BL w1 V->aJ (fun b o=>(B1<=b/\b<M)/\¬book o) B1 w (V.setCell ⟨gk,i,none⟩ (.bool false))):=hid (fun V hV hb=>by
  have h1:aJ (fun b o=>(B1<=b/\b<M)/\¬book o) B1 w V:=aJ.aM (tnB aW.out hb) ZO;exact h1.setCell (p:=⟨gk,i,none⟩) (o:=.cells ogk 4 (0,0)) (by rw[hV];exact abR) ⟨⟨abS,by show gk<M;omega⟩,by simp[book]⟩ abS _)
 have VK:Hid (CX (fun b=>B0<=b/\b<B1) w (.slice ar rs.length cr) rs):=hid Jj;have HWv:Hid (dc (·<B0) w (.slice aw W.length cw) W):=hid Qd;have HOv:Hid (lX w B2 bs):=hid ho;have HCv:=hid hcn;have xX:=hid hlen;have Ji:=hid hsl;have Eh:=hid hbl;have Nk:=hid hrf;have xC:=hid IZ;have Qe:=hid hrc;have X8:=hid hnb;have yp:=hid hrow;have HSd:=hid hsd;have HSdl:=hid YB;have PN:=hid hnd;have zQ:=hid hbs;have yg:=hid hki;have hk0:(0:Int)<=(k:Int):=by omega
 have hi0:(0:Int)<=(i:Int):=by omega
 have hk1:(k:Int)<(s.length:Int):=by omega
 have hi1:(i:Int)<(nb:Int):=by omega
 have hi2:(i:Int)<(W[k].length:Int):=by omega
 have hk2:(k:Int)<(W.length:Int):=by omega
 clear hw1 hlen hsl hbl hrf IZ hrc ho hcn Qd Jj hsf uH hST hsh abP EN kU VP abQ hgs hset hck hat Gg hgk abR hsd hsd2 YB hnd hbs hrow hnb hki;go_enter Tryz.func73,Tryz.ntmps73;go_upto_region 1 with fail;rw[<-HW1.out];have Yz:=hqC w1 ⟨B2+1,2,none⟩ (.slice (some ⟨gs,0,none⟩) s.length s.length) fun xh=>(aO (rM.out xh.1 (tnB aW.out xh.2))).1.2.2.1;have Ak:=hqC w1 ⟨w.heap.size,0,none⟩ (.int .i64 (k:Int)) fun xh=>(nN ((xh.2.block _ hz1).trans Jk.out)).1.1;have Al:=hqC w1 ⟨w.heap.size,1,none⟩ (.int .i64 (i:Int)) fun xh=>(nN ((xh.2.block _ hz1).trans Jk.out)).1.2;have hqu:=hqC w1 ⟨gs,k,none⟩ (.slice (some ⟨gk,0,none⟩) nb ck) fun xh=>PX.out xh.1 xh.2;refine bF 10 (.quiet 0 (.quiet 1 (.quiet 2 (.quiet 3 (.quiet 4 (.quiet 5 (.quiet 6 (.quiet 7 (.quiet 8 (.quiet 9 .done)))))))))) (BL w1) mxT (by kernel_rfl) (af5 aj 1) ?_;have Vz:Hid (BL w1 (w1.drewN 1)):=hid (af5 aj 1);have HH8:Hid ((w1.drewN 1).heap=w1.heap):=hid rfl;generalize w1.drewN 1=w8 at*
 iterate 10
  refine ai rfl ?_
  intro hne
  go_big_quiet_step (fail)
  refine zWq ?_
  clear hne
 refine aL ?_;try simp only[zDs,zDz]
 clear Yz Ak Al hqu;obtain⟨⟨xb,hcc⟩,A1⟩:=Tz.out w8 HH8.out;go_upto_region 2 with fail;obtain⟨w2,hw2⟩:=nmE (w8.setCell ⟨gk,i,none⟩ (.bool false));rw[<-hw2];have mV:Hid (aJ (fun b o=>(B1<=b/\b<M)/\¬book o) B1 w w2):=hid (by rw[hw2];exact K8.out w8 HH8.out Vz.out);have xU:Hid (gN (fun b=>B1<=b/\b<B2) w2 (.slice (some ⟨gs,0,none⟩) sd.length sd.length) sd):=hid (by rw[hw2];exact TU.out w8 HH8.out);have rG:Hid (∀b,b≠gk->b<w.heap.size->w2.heap[b]?=w.heap[b]?):=hid (fun b h1 h2=>by rw[hw2];exact(zBh _ _ _ _ h1).trans (by rw[HH8.out];exact aW.out.block _ h2));have Ht:Hid (w2.heap[B2+1]?=some (.cells #[.slice ar rs.length cr,.slice aw W.length cw,.slice (some ⟨gs,0,none⟩) s.length s.length,.map (some B2)] 201 (0,0))):=hid ((rG.out _ (by omega) Dw).trans (rM.out w aj));have A7:Hid (w2.heap[w.heap.size]?=some (.cells #[.int .i64 (k:Int),.int .i64 (i:Int)] 87 (0,0))):=hid (by rw[hw2];exact(zBh _ _ _ _ (show w.heap.size≠gk by omega)).trans (by rw[HH8.out];exact Jk.out));have Cy:Hid (CX (fun b=>B0<=b/\b<B1) w2 (.slice ar rs.length cr) rs):=hid (dA.keep cQ VK.out (fun b hb hlt=>rG.out b (by have:=hb.2;omega) hlt));have HW2:Hid (dc (·<B0) w2 (.slice aw W.length cw) W):=hid (HWv.out.keep (fun b (hb:b<B0) hlt=>rG.out b (by omega) hlt));have zu:Hid (lX w2 B2 bs):=hid (HOv.out.keep (rG.out _ (by omega) HOv.out.lt));have Nj:Hid (∀q (h:q<bs.length) (h2:q<rs.length),cT w2 bs[q] n (jo W s rs[q])):=hid (fun q h h2=>(HCv.out q h h2).keep (rG.out _ (by have:=(zQ.out _ (zGm h)).1;omega) (HCv.out q h h2).lt));clear hw2 hcc A1 Vz HH8 K8 TU PX Tz;obtain⟨⟨x0,x1,x2,x3⟩, -⟩:=aO Ht.out;go_wp2;clear x0 x1 x2 x3;go_loopw [22] (fun jj wr=>∃j:Nat,j<=rs.length/\jj=.int .i64 j/\Hid (Turns (·∈bs) w2 wr)/\Hid (aJ (fun b o=>(B1<=b/\b<M)/\¬book o) B1 w wr)/\Hid (∀q (h:q<bs.length) (h2:q<rs.length),q<j->cT wr bs[q] (n+1) (jo W sd rs[q]))/\Hid (∀q (h:q<bs.length) (h2:q<rs.length),j<=q->cT wr bs[q] n (jo W s rs[q]))) (fun jj _=>rs.length-(intOf jj).toNat);case atStart=>exact⟨0,Nat.zero_le _,rfl,hid (Turns.refl _ _),mV,hid (fun q h h2 h3=>absurd h3 (by omega)),hid (fun q h h2 _=>Nj.out q h h2)⟩
 case round=>
  obtain⟨j,hj,rfl,Nl,abT,HDn,Il⟩:=hrel;have Tw:Hid (∀b,b<B2+2->b<w2.heap.size->wr.heap[b]?=w2.heap[b]?):=hid (fun b h1 h2=>Nl.out.block b (fun hb=>by have:=(zQ.out b hb).1;omega) h2);have Gf:Hid (CX (fun b=>B0<=b/\b<B1) wr (.slice ar rs.length cr) rs):=hid (dA.keep cQ Cy.out (fun b hb hlt=>Tw.out b (by have:=hb.2;omega) hlt));have Rx:Hid (wr.heap[B2+1]?=some (.cells #[.slice ar rs.length cr,.slice aw W.length cw,.slice (some ⟨gs,0,none⟩) s.length s.length,.map (some B2)] 201 (0,0))):=hid ((Tw.out _ (by omega) (ay Ht.out)).trans Ht.out);have TV:Hid (dc (·<B0) wr (.slice aw W.length cw) W):=hid (HW2.out.keep (fun b (hb:b<B0) hlt=>Tw.out b (by omega) hlt));have HOr:Hid (lX wr B2 bs):=hid (zu.out.keep (Tw.out _ (by omega) zu.out.lt))
  have FL:Hid (∀b∈bs,b<w.heap.size):=hid (fun b hb=>by
   obtain⟨q,hq,rfl⟩:=List.getElem_of_mem hb;exact(HCv.out q hq (by have:=Eh.out;omega)).lt)
  have VQ:Hid (wr.heap[w.heap.size]?=some (.cells #[.int .i64 (k:Int),.int .i64 (i:Int)] 87 (0,0))):=hid ((Nl.out.block _ (fun hb=>by have:=FL.out _ hb;omega) (ay A7.out)).trans A7.out);have Hv:w.heap.size<wr.heap.size:=ay VQ.out;by_cases hlt:j<rs.length
  ·have hj0:(0:Int)<=(j:Int):=by omega
   have hj1:(j:Int)<(rs.length:Int):=by omega
   have hjb:j<bs.length:=by rw[Eh.out];exact hlt
   obtain⟨-,us,Kk,hcs,TG⟩:=dA.at Gf.out hlt;obtain rfl:us=_:=TG;have y0:wr.cell? ⟨aY ar,bC ar+j*4,none⟩=some (.int .i64 (rs[j].kind:Int)):=hcs 0 _ rfl;have y1:wr.cell? ⟨aY ar,bC ar+j*4+1,none⟩=some (.int .i64 (rs[j].field:Int)):=hcs 1 _ rfl;have y2:wr.cell? ⟨aY ar,bC ar+j*4+2,none⟩=some (.int .i64 rs[j].up):=hcs 2 _ rfl;have y3:wr.cell? ⟨aY ar,bC ar+j*4+3,none⟩=some (.int .i64 rs[j].least):=hcs 3 _ rfl;have hmem:rs[j]∈rs:=zGm hlt;obtain⟨q1,q2,q3,q4,q5,q6, -, -⟩:=Nk.out _ hmem;have HLj:=hid (xC.out _ hmem);have HRj:Hid (∀(h:j<rs.length),rs[j]=rs[j]):=hid (fun _=>rfl);have HCj:=hid (Il.out j hjb hlt aB);have abU:=zQ.out _ (zGm hjb);have hbjw:=FL.out _ (zGm hjb);have HNj:Hid (∀q (h:q<bs.length),q≠j->bs[q]≠bs[j]):=hid (fun q h hne e=>hne ((List.getElem_inj PN.out).1 e));obtain⟨rf,hrf⟩:=nmE (rs[j]);obtain⟨bj,hbj⟩:=nmE (bs[j])
   have VR:Hid (∀V,(∀q (h:q<bs.length),q≠j->V.heap[bs[q]]?=wr.heap[bs[q]]?)->cT V bj (n+1) (jo W sd rf)->
     (∀q (h:q<bs.length) (h2:q<rs.length),q<j+1->cT V bs[q] (n+1) (jo W sd rs[q]))/\∀q (h:q<bs.length) (h2:q<rs.length),j+1<=q->cT V bs[q] n (jo W s rs[q])):=hid (fun V hV hc=>by
    refine⟨fun q h h2 h3=>?_,fun q h h2 h3=>(Il.out q h h2 (by omega)).keep (hV q h (by omega))⟩;by_cases e:q=j
    ·subst e
     rw[hbj,hrf] at hc;exact hc
    ·exact(HDn.out q h h2 (by omega)).keep (hV q h e))
   have HNj2:Hid (∀q (h:q<bs.length),q≠j->bs[q]≠bj):=hid (by rw[hbj];exact HNj.out);have hol:=HOr.out.look hjb (by omega);have HLo:Hid (∀V:World,V.heap[B2]?=wr.heap[B2]?->(Instr.lookup 199 (.map (some B2)) (.int .i64 (j:Int)) false).run Tryz.prog V=.ok (.map (some bj)) V):=hid (fun V hV=>by rw[hbj];exact(HOr.out.keep hV).look hjb (by omega));rw[<-hrf] at y0 y1 y2 y3 q1 q2 q3 q4 q5 q6 HLj HCj;rw[<-hbj] at HCj abU hbjw;have HRfj:=hid hrf;have Qm:=hid hbj;clear hcs Kk hmem hrf hbj hol HRj HNj;obtain⟨rk,rj,ru,rl⟩:=rf;simp only at y0 y1 y2 y3 q1 q2 q3 q4 q5 q6;obtain⟨m,rfl⟩:∃m:Nat,ru=(m:Int):=⟨ru.toNat,by omega⟩;obtain⟨w5,hw⟩:=nmE (wr.alloc (.cells #[.int .i64 (rk:Int),.int .i64 (rj:Int),.int .i64 (m:Int),.int .i64 rl] 159));have zS:Hid (w5.heap[wr.heap.size]?=some (.cells #[.int .i64 (rk:Int),.int .i64 (rj:Int),.int .i64 (m:Int),.int .i64 rl] 159 (0,0))):=hid (by rw[hw];exact aD wr _ rfl);have fS:Hid (Below wr.heap.size wr w5):=hid (by rw[hw];exact aj.alloc aB _);have HT5:Hid (Turns (·∈bs) w2 w5):=hid (by rw[hw];exact Nl.out.alloc _);have abV:Hid (aJ (fun b o=>(B1<=b/\b<M)/\¬book o) B1 w w5):=hid (by rw[hw];exact abT.out.alloc ZO _);have KA:Hid (cT w5 bj n (jo W s ⟨rk,rj,(m:Int),rl⟩)):=hid (HCj.out.keep (fS.out.block _ HCj.out.lt));have Nb:wr.heap.size<w5.heap.size:=ay zS.out;have yI:=hid hw;clear hw;go_upto_region 5 with fail;rw[<-yI.out];clear y0 y1 y2 y3;obtain⟨⟨y0,y1,y2,y3⟩, -⟩:=aO zS.out;obtain⟨⟨a0,a1⟩, -⟩:=nN ((fS.out.block _ Hv).trans VQ.out);by_cases hkk:rk=k
   ·subst hkk
    have Aj:Hid (∀V,Turns (·=bj) w5 V->aA (·<B0) w5 V):=hid (fun V hV b (hb:b<B0) hlt=>hV.block b (show ¬b=bj by omega) hlt);obtain⟨uk,Am,EN⟩:=(TV.out.keep (w':=w5) (fun b (hb:b<B0) hlt=>fS.out.block b hlt)).lW hk;obtain⟨ua,uc,rfl,hsu, -, -⟩:=Am.form;obtain⟨ui,Ao,Yt⟩:=Am.lW hi;obtain⟨ia,ic,rfl,hsi, -, -⟩:=Ao.form;have K9:rj<W[rk][i].length:=by rw[Qe.out rk hk _ (zGm hi)];exact q2
    obtain⟨uv,huve,huv⟩:=Ao.lW K9;obtain rfl:uv=_:=huve;have hat:aF.mq W rk i rj=W[rk][i][rj]:=DT hk hi K9
    have Ml:Hid (pu (W[rk][i][rj])):=hid (by
     have h1:0<=aF.mq W rk i rj/\aF.mq W rk i rj<ah.eV W (m:Int):=HLj.out i hk hi
     rw[hat] at h1
     have h2:=uG W (m:Int)
     exact⟨by omega,by omega⟩)
    have Mk:Hid (pu (m:Int)):=hid ⟨by omega,by omega⟩;have PX:=hid (fun V (hV:Turns (·=bj) w5 V)=>EN V (Aj.out V hV));have HUi:=hid (fun V (hV:Turns (·=bj) w5 V)=>Yt V (Aj.out V hV));have HUv:=hid (fun V (hV:Turns (·=bj) w5 V)=>huv V (Aj.out V hV))
    have yL:Hid (jo W sd ⟨rk,rj,(m:Int),rl⟩=sy (jo W s ⟨rk,rj,(m:Int),rl⟩) (m:Int) (W[rk][i][rj]) (jo W s ⟨rk,rj,(m:Int),rl⟩ (m:Int) (W[rk][i][rj])-1)):=hid (by
     rw[HSd.out,BH (r:=⟨rk,rj,(m:Int),rl⟩) rfl (by rw[Sub.aR hk];exact hi) yg.out,hat])
    have hj2:(0:Int)<=(rj:Int):=by omega
    have hj3:(rj:Int)<(W[rk][i].length:Int):=by omega
    have hfr:0<=jo W s ⟨rk,rj,(m:Int),rl⟩ (m:Int) (W[rk][i][rj])/\jo W s ⟨rk,rj,(m:Int),rl⟩ (m:Int) (W[rk][i][rj])<=(W.getD rk []).length:=zY _ _ _ _ _ _;rw[Sub.aR hk] at hfr;have hw512:=Mi.out rk hk;obtain⟨F,hF⟩:=nmE (jo W s ⟨rk,rj,(m:Int),rl⟩);rw[<-hF] at hfr yL KA;clear hF Am EN Ao Yt huv hat;generalize W[rk][i][rj]=v at*;clear K9;generalize W[rk][i].length=ln at*;obtain⟨fc,hfc⟩:=nmE (F (m:Int) v);rw[<-hfc] at yL hfr;have hf0:=hfr.1;have hf1:fc<=512:=by omega
    have HFc:=hid hfc;have abW:¬B2+1=bj:=by omega
    have Hu:¬wr.heap.size=bj:=by omega
    have abX:¬w.heap.size=bj:=by omega
    have hne4:¬B2=bj:=by omega
    have ZR:Hid (w5.heap[B2+1]?=some (.cells #[.slice ar rs.length cr,.slice aw W.length cw,.slice (some ⟨gs,0,none⟩) s.length s.length,.map (some B2)] 201 (0,0))):=hid ((fS.out.block _ (ay Rx.out)).trans Rx.out);have TW:Hid (w5.heap[w.heap.size]?=some (.cells #[.int .i64 (rk:Int),.int .i64 (i:Int)] 87 (0,0))):=hid ((fS.out.block _ Hv).trans VQ.out);have Yf:Hid (∀V,Turns (·=bj) w5 V->V.heap[B2]?=wr.heap[B2]?):=hid (fun V hV=>(hV.block B2 hne4 (by have:=HOr.out.lt;omega)).trans (fS.out.block _ HOr.out.lt));clear hfr hfc;go_upto_region 6 with fail;clear y0 y1 y2 y3 a0 a1;have Ql:∀xh:Held (fun V=>Turns (·=bj) w5 V/\cT V bj (n+1) F),xh.1.cell? ⟨B2+1,1,none⟩=some (.slice aw W.length cw):=fun xh=>(aO ((xh.2.1.block _ abW (ay ZR.out)).trans ZR.out)).1.2.1;have YA:∀xh:Held (fun V=>Turns (·=bj) w5 V/\cT V bj (n+1) F),xh.1.cell? ⟨B2+1,3,none⟩=some (.map (some B2)):=fun xh=>(aO ((xh.2.1.block _ abW (ay ZR.out)).trans ZR.out)).1.2.2.2;have sD:∀xh:Held (fun V=>Turns (·=bj) w5 V/\cT V bj (n+1) F),xh.1.cell? ⟨wr.heap.size,1,none⟩=some (.int .i64 (rj:Int)):=fun xh=>(aO ((xh.2.1.block _ Hu (ay zS.out)).trans zS.out)).1.2.1;have sE:∀xh:Held (fun V=>Turns (·=bj) w5 V/\cT V bj (n+1) F),xh.1.cell? ⟨wr.heap.size,2,none⟩=some (.int .i64 (m:Int)):=fun xh=>(aO ((xh.2.1.block _ Hu (ay zS.out)).trans zS.out)).1.2.2.1;have Ak:∀xh:Held (fun V=>Turns (·=bj) w5 V/\cT V bj (n+1) F),xh.1.cell? ⟨w.heap.size,0,none⟩=some (.int .i64 (rk:Int)):=fun xh=>(nN ((xh.2.1.block _ abX (ay TW.out)).trans TW.out)).1.1;have Al:∀xh:Held (fun V=>Turns (·=bj) w5 V/\cT V bj (n+1) F),xh.1.cell? ⟨w.heap.size,1,none⟩=some (.int .i64 (i:Int)):=fun xh=>(nN ((xh.2.1.block _ abX (ay TW.out)).trans TW.out)).1.2;have hquk:∀xh:Held (fun V=>Turns (·=bj) w5 V/\cT V bj (n+1) F),xh.1.cell? ⟨aY aw,bC aw+rk,none⟩=some (.slice ua W[rk].length uc):=fun xh=>PX.out xh.1 xh.2.1;have hqui:∀xh:Held (fun V=>Turns (·=bj) w5 V/\cT V bj (n+1) F),xh.1.cell? ⟨aY ua,bC ua+i,none⟩=some (.slice ia ln ic):=fun xh=>HUi.out xh.1 xh.2.1;have hquv:∀xh:Held (fun V=>Turns (·=bj) w5 V/\cT V bj (n+1) F),xh.1.cell? ⟨aY ia,bC ia+rj,none⟩=some (.int .i64 v):=fun xh=>HUv.out xh.1 xh.2.1;have hql:∀xh:Held (fun V=>Turns (·=bj) w5 V/\cT V bj (n+1) F),(Instr.lookup 199 (.map (some B2)) (.int .i64 (j:Int)) false).run Tryz.prog xh.1=.ok (.map (some bj)) xh.1:=fun xh=>HLo.out xh.1 (Yf.out xh.1 xh.2.1)
    have hqk:∀xh:Held (fun V=>Turns (·=bj) w5 V/\cT V bj (n+1) F),(Instr.lookup 154 (.map (some bj)) (.agg #[.int .i64 (m:Int),.int .i64 v]) false).run Tryz.prog xh.1=.ok (.int .i64 fc) xh.1:=fun xh=>by
     rw[HFc.out];exact xh.2.2.look Mk.out Ml.out
    refine bF 29 (.quiet 0 (.quiet 1 (.quiet 2 (.quiet 3 (.quiet 4 (.quiet 5 (.quiet 6 (.quiet 7 (.quiet 8 (.quiet 9 (.quiet 10 (.quiet 11 (.quiet 12 (.quiet 13 (.quiet 14 (.quiet 15 (.quiet 16 (.quiet 17 (.quiet 18 (.quiet 19 (.quiet 20 (.quiet 21 (.quiet 22 (.quiet 23 (.quiet 24 (.quiet 25 (.quiet 26 (.one 27 (.quiet 28 .done))))))))))))))))))))))))))))) (fun V=>Turns (·=bj) w5 V/\cT V bj (n+1) F) mxT (by kernel_rfl) ⟨Turns.aM (af5 aj 1),KA.out.mono (by omega)⟩ ?_;have TB:Hid (Turns (·=bj) w5 (w5.drewN 1)):=hid (Turns.aM (af5 aj 1));have rO:Hid (cT (w5.drewN 1) bj n F):=hid (KA.out.keep rfl);generalize w5.drewN 1=w8 at*;obtain⟨v0,st,w9,Yv,hC9,hT9,hst⟩:=rO.out.entry (by omega) Mk.out Ml.out;unfold lW at Yv;have h64:pu (fc-1):=⟨by omega,by omega⟩;obtain⟨gX,Qf,Qg,Qh⟩:=hst w9 (fc-1) h64 rfl;have abO:(Instr.entryStore 154 (.map (some bj)) (.int .i64 (st:Int)) (.int .i64 (fc-1))).run Tryz.prog w9=.ok () gX:=Qf;have Sb:Hid (Turns (·=bj) w5 w9):=hid (TB.out.trans hT9);have Nh:=hid hC9;have Mn:Hid (Turns (·=bj) w5 gX):=hid (Sb.out.trans Qh);have rq:Hid (cT gX bj (n+1) (jo W sd ⟨rk,rj,(m:Int),rl⟩)):=hid (by rw[yL.out];exact Qg);clear hC9 hT9 hst Qg Qh h64 Qf
    iterate 27
     refine ai rfl ?_
     intro hne
     go_big_quiet_step (fail)
     refine zWq ?_
     clear hne
    refine aH rfl ?_;go_wp2_with fail;refine aC (fun V=>Turns (·=bj) w5 V/\cT V bj (n+1) F) (fun _ h=>h) ⟨Sb.out,Nh.out⟩ ?_;refine ai rfl ?_;intro hne;go_big_quiet_step (fail);refine zWq ?_;clear hne;refine aL ?_;try simp only[zDs,zDz]
    clear Ql YA sD sE Ak Al hquk hqui hquv hql hqk;have abY:Hid (Turns (·∈bs) w2 gX):=hid (HT5.out.trans (Mn.out.mono (fun b _ (e:b=bj)=>by rw[e,Qm.out];exact zGm hjb)))
    have abZ:Hid (aJ (fun b o=>(B1<=b/\b<M)/\¬book o) B1 w gX):=hid (abV.out.trans (aJ.dM Mn.out (by omega) (fun b (e:b=bj)=>by omega) (fun b o (e:b=bj) ho=>by
     subst e;exact⟨⟨by omega,abU.2⟩,KA.out.obj ho⟩)))
    have uW:=hid (VR.out gX (fun q h hne=>(Mn.out.block _ (HNj2.out q h hne) (by have:=FL.out _ (zGm h);omega)).trans (fS.out.block _ (by have:=FL.out _ (zGm h);omega))) rq.out);go_wp2;go_roundw;case rel=>exact⟨j+1,by omega,by go_num,abY,abZ,hid uW.out.1,hid uW.out.2⟩
    simp[intOf];omega
   ·have hkk2:¬(rk:Int)=(k:Int):=by omega
    have uW:=hid (VR.out w5 (fun q h hne=>fS.out.block _ (by have:=FL.out _ (zGm h);omega)) (by
     rw[HSd.out,DV (r:=⟨rk,rj,(m:Int),rl⟩) hkk]
     exact KA.out.mono (by omega)))
    go_wp2;go_roundw;case rel=>exact⟨j+1,by omega,by go_num,HT5,abV,hid uW.out.1,hid uW.out.2⟩
    simp[intOf];omega
  ·obtain rfl:rs.length=j:=by omega
   have HF:Hid (yt B0 B1 B2 M (n+1) rs W sd wr):=hid ⟨TS,qq,hb2m,⟨ar,cr,aw,cw,gs,by rw[HSdl.out];exact Rx.out,Gf.out,TV.out,bN.keep xU.out (fun b hb hlt=>Tw.out b (by have:=hb.2;omega) hlt)⟩,
    ⟨bs,HOr.out,Eh.out,PN.out,zQ.out,fun q h h2=>HDn.out q h h2 h2⟩⟩
   go_wp2;go_end0;exact⟨⟨_,rfl⟩,HF.out,abT.out⟩
namespace Sub
def l5(W:S->Nat->Nat->Bool):List (Nat×Nat)->S->Bool
 |[],_=>false
 |x::l,s=>W s x.1 x.2||l5 W l (if W s x.1 x.2 then drop s x.1 x.2 else s)
theorem Da(W:S->Nat->Nat->Bool)(x:Nat×Nat):∀(l:List (Nat×Nat)) (s:S),pass W (l++[x]) s=if W (pass W l s) x.1 x.2 then drop (pass W l s) x.1 x.2 else pass W l s
 |[],s=>rfl
 |y::l,s=>by
  show pass W (l++[x]) _=_
  rw[Da W x l];rfl
theorem Ap(W:S->Nat->Nat->Bool)(x:Nat×Nat):∀(l:List (Nat×Nat)) (s:S),l5 W (l++[x]) s=(l5 W l s||W (pass W l s) x.1 x.2)
 |[],s=>by simp[l5,pass]
 |y::l,s=>by
  show (W s y.1 y.2||l5 W (l++[x]) _)=_
  rw[Ap W x l,<-Bool.or_assoc];rfl
theorem FO{W:S->Nat->Nat->Bool}:∀{l:List (Nat×Nat)} {s:S},l5 W l s=false->pass W l s=s
 |[],_,_=>rfl
 |x::l,s,h=>by
  unfold l5 at h;rw[Bool.or_eq_false_iff] at h;obtain⟨h1,h2⟩:=h;unfold pass;rw[h1] at h2 ⊢;exact FO h2
theorem Db{W:S->Nat->Nat->Bool}:∀{l:List (Nat×Nat)} {s:S},(∀x∈l,keeps s x.1 x.2=true)->l5 W l s=true->pass W l s≠s
 |[],_,_,h=>by cases h
 |x::l,s,hk,h=>by
  intro e;unfold l5 at h;unfold pass at e;cases hw:W s x.1 x.2
  ·rw[hw] at h e
   exact Db (fun y hy=>hk y (by simp[hy])) (by simpa using h) e
  ·rw[hw] at e
   have h1:=kX (W:=W) l (drop s x.1 x.2);rw[if_pos rfl] at e;rw[e] at h1;have:=h1 x.1 x.2 (hk x (by simp));rw[fK] at this;simp at this
theorem Aq{W:S->Nat->Nat->Bool}{k i:Nat}:∀{l:List (Nat×Nat)} {s:S},(k,i)∉l->keeps s k i=true->keeps (pass W l s) k i=true
 |[],_,_,h=>h
 |x::l,s,hn,h=>by
  unfold pass;refine Aq (fun hm=>hn (by simp[hm])) ?_;split
  ·rw[fK,h]
   have:¬(k=x.1/\i=x.2):=fun e=>hn (by rw[e.1,e.2];simp);simp only[Bool.true_and,Bool.not_eq_true',Bool.and_eq_false_iff,decide_eq_false_iff_not];omega
  ·exact h
theorem size_drop{s:S}{k i:Nat}(h:keeps s k i=true):size (drop s k i)<size s:=tK (yG s k i) h (by rw[fK];simp)
end Sub
theorem iE{W:ah.bK}{t:Sub.S}(h:Sub.Fit (aF.shape W) t):Sub.size t<=ah.total W:=by
 unfold Sub.size Sub.kept;rw[List.length_flatMap,aF.xH];have hl:t.length=W.length:=by have:=h.1;rw[aF.qO] at this;exact this
 rw[hl];refine aF.Ab fun k _=>?_;have h2:=h.2 k;rw[aF.jY] at h2;rw[<-h2];unfold Sub.tJ;exact Nat.le_trans (List.length_filterMap_le _ _) (by simp)
attribute [local go_sem] Oper.semAt_some
theorem Qn(N:Nat)(t:Array Value)(h:t.size=N):∃u:Nat->Value,t=((List.range N).map u).toArray:=by
 refine⟨fun i=>t.getD i undef,?_⟩;apply Array.ext
 ·simp[h]
 ·intro i h1 h2
  simp at h2;simp[Array.getD,h1]
theorem TX:List.range 24=[0,1,2,3,4,5,6,7,8,9,10,11,12,13,14,15,16,17,18,19,20,21,22,23]:=by decide
structure GrI(B0 B1 B2 M N w0 bt:Nat)(rs:List aF.Ref)(W:ah.bK)(s0 s:Sub.S)(bb:Bool)(ds:List Deferred)(w X:World):Prop where
 lt:w0<bt
 fit:Sub.Fit (aF.shape W) s
 size:Sub.size s<=Sub.size s0
 same:Sub.great (aF.wrong rs W) s=Sub.great (aF.wrong rs W) s0
 done:bb=false->Sub.great (aF.wrong rs W) s=s
 st:yt B0 B1 B2 M (N-Sub.size s) rs W s X
 ptr:X.heap[w0]?=some (.cells #[.pointer (some ⟨B2+1,0,none⟩)] 143 (0,0))
 again:X.heap[bt]?=some (.cells #[.bool bb] 4 (0,0))
 below:Below B1 w X
 marks:Marks w0 X.heap.size ds X
theorem uJ(x:ah.bD)(W:ah.bK)(s:Sub.S)(hfw:aF.xo x W)(hfit:Sub.Fit (aF.shape W) s)(B0 B1 B2 M n:Nat)(hn:n<=1000)(w:World)(hM:M<=w.heap.size)(h:yt B0 B1 B2 M n (aF.bT x) W s w):
  Calls Tryz.prog 71 #[.pointer (some ⟨B2+1,0,none⟩)] w fun e w'=>∃g,e=.returned (.slice (some ⟨g,0,none⟩) W.length W.length)/\gN (fun b=>B1<=b/\b<B2) w' (.slice (some ⟨g,0,none⟩) W.length W.length) (Sub.great (aF.wrong (aF.bT x) W) s)/\Below B1 w w':=by
 have xW:=hfw.tot;have qu:=hid hfw
 have YC:∀t:Sub.S,Sub.Fit (aF.shape W) t->Sub.size t<=512:=fun t ht=>by
  have:=iE ht;omega
 obtain⟨rs,Mj⟩:=nmE (aF.bT x);rw[<-Mj] at h ⊢;have qq:B1<=w.heap.size:=by have:=h.b12;have:=h.Ry;omega
 have hb2M:=h.Ry;have hb12':=h.b12;obtain⟨w1,hw1⟩:=nmE ((w.alloc (.cells #[.pointer (some ⟨B2+1,0,none⟩)] 143)).alloc (.cells #[.bool true] 4));have hb1:BL w w1:=by rw[hw1];exact(aj.alloc aB _).alloc (by simp) _
 obtain⟨N,hN⟩:=nmE (n+Sub.size s);have hss:=YC s hfit
 have H0:Hid (GrI B0 B1 B2 M N w.heap.size (w.heap.size+1) rs W s s true [] w w1):=hid {
  lt:=by omega
  fit:=hfit
  size:=aB
  same:=rfl
  done:=fun h=>by cases h
  st:=(h.qt (fun b hb hlt=>hb1.block b hlt)).mono (by omega)
  ptr:=by rw[hw1];exact aG _ (aD _ _ rfl)
  again:=by rw[hw1];exact aD _ _ (by simp)
  below:=hb1.mono qq
  marks:=Marks.nil _ _ _}
 have Tl:N<=1512:=by omega
 have hN3:Sub.size s<=N:=by omega
 have HW1:=hid hw1;have Il:=hid Mj;have Bn:=hid hfit;clear h hfit hw1 hb1 hfw hN hss Mj;rw[<-callsIn_wide (n:=5)];refine callsIn_of_wp_marks Tryz.func71 rfl trivial ?_ rfl;simp only[Tryz.ntmps71,List.size_toArray,List.length_cons,List.length_nil,Nat.reduceAdd,Nat.reduceSub,Array.replicate_succ,Array.replicate_zero,List.push_toArray,List.append_toArray,List.nil_append,List.cons_append];rw[wpIn_wide];go_wp2;rw[<-HW1.out];refine wp_loop_ghost_k (fun kk a X=>a.tmps.size=24/\a.tmps.getD 1 undef=.pointer (some ⟨w.heap.size,0,none⟩)/\∃(bt:Nat) (bb:Bool) (s':Sub.S),a.tmps.getD 3 undef=.pointer (some ⟨bt,0,none⟩)/\kk=(if bb=true then Sub.size s'+1 else 0)/\GrI B0 B1 B2 M N w.heap.size bt rs W s s' bb a.defers w X) (Sub.size s+1) ?h0 ?YD;case h0=>exact⟨rfl,rfl,w.heap.size+1,true,s,rfl,rfl,H0.out⟩
 case YD=>
  rintro kk ⟨t,ds⟩ X ⟨hts,h1,bt,bb,s',h3,hkk,hG⟩ J K hJ hK;obtain⟨uu,rfl⟩:=Qn 24 t hts;simp only[TX,List.map_cons,List.map_nil] at h1 h3 ⊢;rw[show uu 1=_ from h1,show uu 3=_ from h3];have HG:=hid hG;have HJ:=hid hJ;have HK:=hid hK;clear h1 h3 hts hG;have c3:=(one_cell HG.out.again).1;have c3f:=(one_cell HG.out.again).2;have c1:=(one_cell HG.out.ptr).1;obtain⟨ar,cr,aw,cw,gs,uH, -, -,hsf⟩:=HG.out.st.box;have hsl:s'.length=W.length:=by have:=HG.out.fit.1;rw[aF.qO] at this;exact this
  have Ji:=hid hsl;clear hsl;cases bb with
  |false=>
   obtain⟨⟨x0,x1,x2,x3⟩, -⟩:=aO uH
   have Qo:Hid (∀w',aJ (aS w.heap.size) w.heap.size X w'->gN (fun b=>B1<=b/\b<B2) w' (.slice (some ⟨gs,0,none⟩) W.length W.length) (Sub.great (aF.wrong rs W) s)/\Below B1 w w'):=hid (fun w' ht=>⟨by
    rw[<-HG.out.same,HG.out.done rfl,<-Ji.out]
    exact bN.keep hsf (aA.aM ht.1 (fun b hb=>by have:=hb.2;omega)),HG.out.below.trans (ht.1.mono qq)⟩)
   clear uH hsf HJ HK
   go_wp2
   refine iL (v:=.slice (some ⟨gs,0,none⟩) s'.length s'.length) HG.out.marks (fun w' ht=>⟨?_,?_⟩)
   ·simp[results,Tryz.results71,go_sem]
   ·obtain⟨k1,k2⟩:=Qo.out w' ht
    exact⟨gs,by rw[Ji.out],k1,k2⟩
  |true=>
   obtain⟨X1,hX1⟩:=nmE (X.setCell ⟨bt,0,none⟩ (.bool false))
   have wI:Hid (aJ (fun b o=>b=bt/\¬book o) B1 X X1):=hid (by
    rw[hX1]
    exact(aJ.refl _ _ _).setCell (p:=⟨bt,0,none⟩) HG.out.again ⟨rfl,by simp[book]⟩ (by have:=HG.out.lt;show B1<=bt;omega) _)
   have wJ:Hid (yt B0 B1 B2 M (N-Sub.size s') rs W s' X1):=hid (by
    rw[hX1]
    exact HG.out.st.qt (fun b (hb:b<M) hlt=>zBh _ _ _ _ (by have:=HG.out.lt;show b≠bt;omega)))
   have Qp:Hid (X1.heap[w.heap.size]?=some (.cells #[.pointer (some ⟨B2+1,0,none⟩)] 143 (0,0))):=hid (by
    rw[hX1]
    exact(zBh _ _ _ _ (by have:=HG.out.lt;show w.heap.size≠bt;omega)).trans HG.out.ptr)
   have Jk:Hid (X1.heap[bt]?=some (.cells #[.bool false] 4 (0,0))):=hid (by rw[hX1];exact one_set _ HG.out.again)
   have hXs:bt<X1.heap.size:=ay Jk.out
   have hwX:w.heap.size<bt:=HG.out.lt
   have rM:=hid hX1
   clear hX1 uH hsf
   obtain⟨ar,cr,aw,cw,gs1,uH, -, -,hsf⟩:=wJ.out.box
   have Yq:=hid (xG s' (by rw[Ji.out,qu.out.len];have:=qu.out.af3;omega) (fun r hr=>by
    obtain⟨j,hj,rfl⟩:=List.getElem_of_mem hr;have h2:=HG.out.fit.2 j;rw[Sub.aR hj,aF.jY] at h2;have h3:j<W.length:=by rw[<-Ji.out];exact hj
    unfold aF.bH at h2;rw[Sub.aR h3] at h2;have:=gJ h3;omega) _ _ X1 (gN.sl hsf))
   go_upto_region 4 with fail
   rw[<-rM.out]
   clear c1 c3 c3f
   have c1:=(one_cell Qp.out).1
   obtain⟨⟨x0,x1,x2,x3⟩, -⟩:=aO uH
   clear uH hsf
   go_wp2_with fail
   refine Yq.out.mono ?_
   rintro e X2 ⟨g2,rfl,ab0,hb2⟩
   have bB:=hid hb2
   have TU:=hid (bN.mono (S':=fun b=>X1.heap.size<=b/\b<X2.heap.size) ab0 (fun b hlt hb=>⟨hb,hlt⟩))
   clear ab0 hb2 Yq x0 x1 x2 x3 c1
   go_wp2_with fail
   refine(qp _ _ _ _).mono ?_
   rintro e X3 ⟨rfl,ZQ⟩
   have hb3:BL X2 X3:=by rw[ZQ];exact aj.alloc aB _
   have YE:X3.heap[X2.heap.size]?=some (.cells #[.slice (some ⟨g2,0,none⟩) s'.length s'.length] 45 (0,0)):=by rw[ZQ];exact aD _ _ rfl
   have hz2:=bB.out.size
   have A5:=ay YE
   have bG:Hid (BL X1 X3):=hid (bB.out.trans (hb3.mono hz2))
   have HSV3:Hid (aP (fun b=>X1.heap.size<=b/\b<X2.heap.size) X3 (.slice (some ⟨g2,0,none⟩) s'.length s'.length) s'):=hid (gN.sl (bN.keep TU.out (aA.aM hb3 (fun b hb=>hb.2))))
   have FP:Hid (qn (α:=Nat×Nat) Tryz.prog B1 X3.heap.size 107 #[.pointer (some ⟨X2.heap.size,0,none⟩)] (fun x=> #[.agg #[.int .i64 (x.1:Int),.int .i64 (x.2:Int)]]) (fun pre x _=>pre++[x]<+:Sub.kept s') (fun b o=>((B1<=b/\b<M)\/b=bt)/\¬book o) (fun _ _=>False) (fun xs _=>xs=Sub.kept s') X3):=
    hid (nL s' B1 X3.heap.size X2.heap.size _ (fun b=>X1.heap.size<=b/\b<X2.heap.size) _ X3 (by omega) HSV3.out YE (fun o h=>by rcases h.1 with h|h<;>omega) (fun Y ht b hb hlt=>by
     have ho:X3.heap[b]?=some X3.heap[b]:=Array.getElem?_eq_getElem hlt;rw[ho];refine ht.2 b _ ho ?_;rintro (h|h)
     ·rcases h.1 with h|h<;>omega
     ·have:=h.1;omega))
   have rH:Hid (∀b o,X1.heap[b]?=some o->X3.heap[b]?=some o):=hid (fun b o h=>(bG.out.block b (ay h)).trans h)
   have NA:Hid (yt B0 B1 B2 M (N-Sub.size s') rs W s' X3):=hid (wJ.out.qt (fun b hb hlt=>bG.out.block b hlt))
   clear ZQ hb3 YE
   go_wp2
   rw[<-wpIn_wide (n:=5)]
   refine kI (α:=Nat×Nat) (n0:=B1) (gf:=107) rfl (aZ Tryz.func107 (by kernel_rfl) rfl) (fun _=>rfl) FP.out (by omega) (fun _ _ h=>h.elim) (fun _ _ h=>h.2)
    (fun pre Y=>aJ (fun b o=>(((B1<=b/\b<M)\/b=bt)/\¬book o)\/aS X3.heap.size b o) B1 X3 Y/\yt B0 B1 B2 M (N-Sub.size (Sub.pass (aF.wrong rs W) pre s')) rs W (Sub.pass (aF.wrong rs W) pre s') Y/\
     Y.heap[bt]?=some (.cells #[.bool (Sub.l5 (aF.wrong rs W) pre s')] 4 (0,0))) (fun _ _=>False)
    (fun pre A B h ht=> ?hI) (fun _ _ _ h _=>h) (fun _ _ _ h _=>h) ?hstart ?jh ?hdone ?hstop
   case hI=>
    have ht':=ht.mono (A':=aS X3.heap.size) (fun b o h=>h.elim False.elim id);exact⟨h.1.trans (ht.mono (fun b o h=>h.elim False.elim .inr)),h.2.1.qt (ht'.VO (fun b o hb ho=>by have:=ho.1;omega)),ht'.2 _ _ h.2.2 (by simp[aS,book])⟩
   case hstart=>exact⟨aJ.refl _ _ _,NA.out,rH.out _ _ Jk.out⟩
   case jh=>
    rintro l pre y Y hlr hI Jl;obtain⟨k,i⟩:=y;simp only[List.zip_toArray,List.zip_cons_cons,List.zip_nil_left];have hsY:=hI.1.1.size;gi_wp2;refine⟨(aJ.refl _ _ _).alloc (by omega) _,fun Y2 ht2 hs2 hl2=>?_⟩;obtain⟨cur,hcur⟩:=nmE (Sub.pass (aF.wrong rs W) pre s');obtain⟨pb,hpb⟩:=nmE (Sub.l5 (aF.wrong rs W) pre s');obtain⟨hI1,qU,Gu⟩:=hI;rw[<-hcur] at qU;rw[<-hpb] at Gu;have rG:Hid (∀b o,Y.heap[b]?=some o->¬book o->Y2.heap[b]?=some o):=hid (fun b o h hb=>ht2.2 _ _ (aG _ h) (fun h2=>hb h2.2));have pT:Hid (Y2.heap[Y.heap.size]?=some (.cells #[.int .i64 (k:Int),.int .i64 (i:Int)] 87 (0,0))):=hid (ht2.2 _ _ (aD _ _ rfl) (by simp[aS,book]))
    have HST:Hid (yt B0 B1 B2 M (N-Sub.size cur) rs W cur Y2):=hid (qU.qt (fun b (hb:b<M) hlt=>by
     have e1:(Y.alloc (.cells #[.int .i64 (k:Int),.int .i64 (i:Int)] 87)).heap[b]?=Y.heap[b]?:=((Below.refl Y.heap.size Y).alloc aB _).block b hlt;have ho:Y.heap[b]?=some Y.heap[b]:=Array.getElem?_eq_getElem hlt;rw[ho] at e1 ⊢;exact ht2.2 _ _ e1 (fun h2=>by have:=h2.1;omega)))
    have HPt:Hid (Y2.heap[w.heap.size]?=some (.cells #[.pointer (some ⟨B2+1,0,none⟩)] 143 (0,0))):=hid (rG.out _ _ (hI1.2 _ _ (rH.out _ _ Qp.out) (by
     rintro (h|h)
     ·rcases h.1 with h|h<;>omega
     ·exact h.2)) (by simp[book]))
    have HAg:Hid (Y2.heap[bt]?=some (.cells #[.bool pb] 4 (0,0))):=hid (rG.out _ _ Gu (by simp[book]));have hmem:(k,i)∈Sub.kept s':=Jl.subset (by simp);have hkp:=Sub.cO.1 hmem;obtain⟨mg,yq⟩:=aF.vJ HG.out.fit hkp;have DW:i<W[k].length:=by unfold aF.bH at yq;rwa [Sub.aR mg] at yq
    have hnd:(pre++[(k,i)]).Nodup:=Jl.sublist.nodup (Sub.rZ s');have hnot:(k,i)∉pre:=fun h=>(List.nodup_append.1 hnd).2.2 _ h (k,i) (by simp) rfl;have hkc:Sub.keeps cur k i=true:=by rw[hcur];exact Sub.Aq hnot hkp
    have hfc:Sub.Fit (aF.shape W) cur:=by rw[hcur];exact Sub.kE _ HG.out.fit
    have hsc:Sub.size cur<=Sub.size s':=by rw[hcur];exact Sub.size_le (Sub.kX _ _)
    have hsh:W.map List.length=cur.map List.length:=(aF.ja hfc).symm
    have TV:Hid (CB 68 #[.pointer (some ⟨B2+1,0,none⟩),.agg #[.int .i64 (k:Int),.int .i64 (i:Int)]] Y2 (.bool (aF.wrong rs W cur k i))):=hid (by
     have:=C9 x W cur qu.out hsh B0 B1 B2 (N-Sub.size cur) k i mg DW Y2 (by rw[<-Il.out];exact HST.out.toV)
     rw[<-Il.out] at this
     exact this)
    have yL:Hid (∀V,yt B0 B1 B2 M (N-Sub.size cur) rs W cur V->CP 73 #[.pointer (some ⟨B2+1,0,none⟩),.agg #[.int .i64 (k:Int),.int .i64 (i:Int)]] V fun e w'=>(∃v,e=.returned v)/\yt B0 B1 B2 M (N-Sub.size cur+1) rs W (Sub.drop cur k i) w'/\aJ (fun b o=>(B1<=b/\b<M)/\¬book o) B1 V w'):=hid (fun V hV=>by
     have:=FM x W cur qu.out hsh B0 B1 B2 M (N-Sub.size cur) (by omega) k i mg DW hkc V (by rw[<-Il.out];exact hV);rw[<-Il.out] at this;exact this)
    have YF:Hid (Sub.pass (aF.wrong rs W) (pre++[(k,i)]) s'=if aF.wrong rs W cur k i then Sub.drop cur k i else cur):=hid (by rw[Sub.Da,hcur]);have Nd:Hid (Sub.l5 (aF.wrong rs W) (pre++[(k,i)]) s'=(pb||aF.wrong rs W cur k i)):=hid (by rw[Sub.Ap,hcur,hpb]);have hsd:=Sub.size_drop hkc;have hss:=HG.out.size;have ab1:Hid (aJ (fun b o=>(((B1<=b/\b<M)\/b=bt)/\¬book o)\/aS X3.heap.size b o) B1 X3 Y2):=hid ((hI1.alloc (by omega) _).trans (ht2.mono (fun b o h=>.inr h)));have Fm:=ay pT.out;have hpt2:=ay HPt.out;have KW:=ay HAg.out;have c1:=(one_cell HPt.out).1;obtain⟨⟨a0,a1⟩, -⟩:=nN pT.out;have hNs:Sub.size cur<=N:=by omega
    clear hI1 qU Gu hcur hpb hmem hkp yq hnd hnot hkc hfc hsc hsh hs2 ht2 Jl;gi_wp2_with fail;refine⟨trivial,rfl,j9.2 (TV.out.mono ?_)⟩;rintro e Y3 ⟨rfl,hb3⟩;have bG:=hid hb3;have A5:=hb3.size;clear c1 a0 a1 hb3;generalize aF.wrong rs W cur k i=bw at*;cases bw with
    |false=>
     have HQ:Hid (QS (fun b o=>((B1<=b/\b<M)\/b=bt)/\¬book o) B1 (fun pre Y=>aJ (fun b o=>(((B1<=b/\b<M)\/b=bt)/\¬book o)\/aS X3.heap.size b o) B1 X3 Y/\yt B0 B1 B2 M (N-Sub.size (Sub.pass (aF.wrong rs W) pre s')) rs W (Sub.pass (aF.wrong rs W) pre s') Y/\
       Y.heap[bt]?=some (.cells #[.bool (Sub.l5 (aF.wrong rs W) pre s')] 4 (0,0))) (fun(_:List (Nat×Nat)) _=>False) (pre++[(k,i)]) Y2 .normal {tmps:=#[],defers:=[]} Y3):=hid (by
      refine⟨aJ.aM bG.out (by omega),ab1.out.trans (aJ.aM bG.out (by omega)),?_,?_⟩
      ·rw[YF.out]
       exact HST.out.qt (fun b hb hlt=>bG.out.block b hlt)
      ·rw[Nd.out,Bool.or_false]
       exact(bG.out.block _ KW).trans HAg.out)
     clear YF Nd
     gi_wp2
     exact HQ.out
    |true=>
     have ab2:yt B0 B1 B2 M (N-Sub.size cur) rs W cur Y3:=HST.out.qt (fun b hb hlt=>bG.out.block b hlt)
     have Tj:=hid (yL.out Y3 ab2)
     have c1:=(one_cell ((bG.out.block _ hpt2).trans HPt.out)).1
     obtain⟨⟨a0,a1⟩, -⟩:=nN ((bG.out.block _ Fm).trans pT.out)
     clear ab2
     gi_wp2_with fail
     refine⟨trivial,rfl,j9.2 (Tj.out.mono ?_)⟩
     rintro e Y4 ⟨⟨v4,rfl⟩,ab3,zh⟩
     have Kv:Hid (Y4.heap[bt]?=some (.cells #[.bool pb] 4 (0,0))):=hid (zh.2 _ _ ((bG.out.block _ KW).trans HAg.out) (fun h=>by have:=h.1;omega))
     have h4c:=(one_cell Kv.out).1
     have h4f:=(one_cell Kv.out).2
     have HQ:Hid (QS (fun b o=>((B1<=b/\b<M)\/b=bt)/\¬book o) B1 (fun pre Y=>aJ (fun b o=>(((B1<=b/\b<M)\/b=bt)/\¬book o)\/aS X3.heap.size b o) B1 X3 Y/\yt B0 B1 B2 M (N-Sub.size (Sub.pass (aF.wrong rs W) pre s')) rs W (Sub.pass (aF.wrong rs W) pre s') Y/\
       Y.heap[bt]?=some (.cells #[.bool (Sub.l5 (aF.wrong rs W) pre s')] 4 (0,0))) (fun(_:List (Nat×Nat)) _=>False) (pre++[(k,i)]) Y2 .normal {tmps:=#[],defers:=[]} (Y4.setCell ⟨bt,0,none⟩ (.bool true))):=hid (by
      have t24:aJ (fun b o=>((B1<=b/\b<M)\/b=bt)/\¬book o) B1 Y2 (Y4.setCell ⟨bt,0,none⟩ (.bool true)):=
       aJ.setCell (p:=⟨bt,0,none⟩) ((aJ.aM bG.out (by omega)).trans (zh.mono (fun b o h=>⟨.inl h.1,h.2⟩))) Kv.out ⟨.inr rfl,by simp[book]⟩ (by show B1<=bt;omega) _
      refine⟨t24,ab1.out.trans (t24.mono (fun b o h=>.inl h)),?_,?_⟩
      ·rw[YF.out]
       simp only[if_true];exact(ab3.mono (by omega)).qt (fun b (hb:b<M) hlt=>zBh _ _ _ _ (show b≠bt by omega))
      ·rw[Nd.out,Bool.or_true]
       exact one_set _ Kv.out)
     clear YF Nd ab3 zh c1 a0 a1
     gi_wp2
     exact HQ.out
   case hdone=>
    rintro D xs Y hD rfl hI hk;obtain⟨hI1,qU,Gu⟩:=hI;have hsY:=hI1.1.size;obtain⟨cur,hcur⟩:=nmE (Sub.pass (aF.wrong rs W) (Sub.kept s') s');obtain⟨pb,hpb⟩:=nmE (Sub.l5 (aF.wrong rs W) (Sub.kept s') s');rw[<-hcur] at qU;rw[<-hpb] at Gu;have ab4:∀x∈Sub.kept s',Sub.keeps s' x.1 x.2=true:=fun x hx=>by obtain⟨a,b⟩:=x;exact Sub.cO.1 hx
    have hgs:=Sub.G9 (W:=aF.wrong rs W) HG.out.fit;rw[<-hcur] at hgs;have hcl:Sub.size cur<=Sub.size s':=by rw[hcur];exact Sub.size_le (Sub.kX _ _)
    have hne:pb=true->cur≠s':=fun h=>by rw[hcur];exact Sub.Db ab4 (hpb.symm.trans h)
    have hno:pb=false->cur=s':=fun h=>by rw[hcur];exact Sub.FO (hpb.symm.trans h)
    have hless:pb=true->Sub.size cur<Sub.size s':=fun h=>by
     have:=hne h;rw[hcur] at this ⊢;exact Sub.qK HG.out.fit this
    have hgr:Sub.great (aF.wrong rs W) cur=Sub.great (aF.wrong rs W) s':=by
     by_cases e:cur=s'
     ·rw[e]
     ·rw[hgs,if_neg e]
    obtain⟨Y1,hY1⟩:=nmE (Y.alloc (.cells #[.bool pb] 4));have YG:BL Y Y1:=by rw[hY1];exact aj.alloc aB _
    have hpY:Y.heap[w.heap.size]?=some (.cells #[.pointer (some ⟨B2+1,0,none⟩)] 143 (0,0)):=hI1.2 _ _ (rH.out _ _ Qp.out) (by
     rintro (h|h)
     ·rcases h.1 with h|h<;>omega
     ·exact h.2)
    have Ec:Marks w.heap.size X3.heap.size ds X3:=by
     have h1:Marks w.heap.size X.heap.size ds X1:=Marks.turn (A:=fun b o=>b=bt/\¬book o) HG.out.marks wI.out (fun b o _ h=>h.2);have h2:Marks w.heap.size X.heap.size ds X3:=Marks.turn (A:=fun _ _=>False) h1 (n1:=B1) ⟨bG.out.mono (by omega),fun b o hb _=>rH.out b o hb⟩ (fun _ _ _ h=>h.elim);exact h2.mono (by have:=wI.out.1.size;omega)
    have hmY:Marks w.heap.size X3.heap.size ds Y:=Marks.turn Ec hI1 (fun b o hb h hbk=>by
     rcases h with h|h
     ·exact h.2 hbk
     ·have:=h.1;omega)
    have hmD:=Marks.push hmY hD (by omega) hk
    have HN:Hid (GrI B0 B1 B2 M N w.heap.size Y.heap.size rs W s cur pb ({target:=.collected D,args:=#[]}::ds) w Y1):=hid {
     lt:=by omega
     fit:=by rw[hcur];exact Sub.kE _ HG.out.fit
     size:=Nat.le_trans hcl HG.out.size
     same:=hgr.trans HG.out.same
     done:=fun h=>by
      have:=hno h;rw[this] at hgs ⊢;simpa using hgs
     st:=qU.qt (fun b hb hlt=>YG.block b hlt)
     ptr:=(YG.block _ (ay hpY)).trans hpY
     again:=by rw[hY1];exact aD _ _ rfl
     below:=HG.out.below.trans (wI.out.1.trans ((bG.out.mono (by omega)).trans (hI1.1.trans (YG.mono (by omega)))))
     marks:=(Marks.turn (A:=fun _ _=>False) hmD (n1:=B1) ⟨YG.mono (by omega),fun b o hb _=>(YG.block b (ay hb)).trans hb⟩ (fun _ _ _ h=>h.elim)).mono YG.size}
    have c3:=(one_cell Gu).1;have LD:=hid hless;have HY1:=hid hY1;clear hI1 qU Gu hk ab4 hgs hne hno hgr hpY Ec hmY hmD YG hless hcur hpb;dsimp only;go_wp2;rw[<-HY1.out];refine Handed.intro (if pb=true then Sub.size cur+1 else 0) ?_ (HJ.out _ _ _ ⟨rfl,rfl,Y.heap.size,pb,cur,rfl,rfl,HN.out⟩);rw[hkk];simp only[if_true];cases pb with
    |false=>simp
    |true=>
     have:=LD.out rfl
     simp
     omega
   case hstop=>
    rintro D xs Y hD h;exact h.elim
structure l6(tb:Nat)(x:ah.bD)(W:ah.bK)(v u:Value)(B:Nat)(w:World):Prop where
 vY:eU (·<B) w v x
 sG:dc (·<B) w u W
 laid:LaidW w
 tab:TabC tb w
 tbB:tb<B
 size:5<=B
 le:B<=w.heap.size
theorem l6.keep{tb:Nat}{x:ah.bD}{W:ah.bK}{v u:Value}{B:Nat}{w w':World}(h:l6 tb x W v u B w)(hb:Below B w w'):l6 tb x W v u B w' where
 vY:=h.vY.keep (aA.aM hb (fun _ h=>h))
 sG:=h.sG.keep (aA.aM hb (fun _ h=>h))
 laid:=h.laid.below hb h.size
 tab:=h.tab.below hb h.tbB (by have:=h.size;omega)
 tbB:=h.tbB
 size:=h.size
 le:=Nat.le_trans h.le hb.size
theorem l6.next{tb:Nat}{x:ah.bD}{W:ah.bK}{v u:Value}{B:Nat}{w w':World}(h:l6 tb x W v u B w)(hb:BL w w'):l6 tb x W v u B w':=h.keep (hb.mono h.le)
theorem gy{x:ah.bD}{W:ah.bK}{s:Sub.S}(hc:aF.jD x W s=0):aF.xo x W/\Sub.Fit (aF.shape W) s:=by
 have hp:ah.okB x=true/\aF.dF x W=true/\aF.oz W s=true:=by
  unfold aF.jD at hc;by_cases h1:ah.okB x=true
  ·rw[if_pos h1] at hc
   by_cases h2:aF.dF x W=true
   ·rw[if_pos h2] at hc
    by_cases h3:aF.oz W s=true
    ·exact⟨h1,h2,h3⟩
    ·rw[if_neg h3] at hc;omega
   ·rw[if_neg h2] at hc;omega
  ·rw[if_neg h1] at hc;omega
 exact⟨aF.Pc hp.1 hp.2.1,aF.Ho hp.2.2⟩
theorem f9{x:ah.bD}{W:ah.bK}{s:Sub.S}(h1:ah.okB x=true)(h2:aF.dF x W=true)(h3:Sub.Fit (aF.shape W) s):aF.jD x W s=0:=by
 unfold aF.jD;rw[if_pos h1,if_pos h2,if_pos (aF.zC h3)]
theorem iZ(x:ah.bD)(W:ah.bK)(s:Sub.S)(hc:aF.jD x W s=0)(v u t:Value)(U:Nat->Prop)(tb B:Nat)(w:World)(ha:l6 tb x W v u B w)(hs:aP U w t s):
  Calls Tryz.prog 35 #[v,u,t] w fun e w'=>∃g,e=.returned (.tuple #[.slice (some ⟨g,0,none⟩) W.length W.length,.int .i64 0])/\gN (w.heap.size<=·) w' (.slice (some ⟨g,0,none⟩) W.length W.length) (Sub.great (aF.wrong (aF.bT x) W) s)/\BL w w':=by
 obtain⟨hfw,hfit⟩:=gy hc;obtain⟨ak,ck,al,cl,ar,cr,rfl, -⟩:=ha.vY.form;obtain⟨w1,hw1⟩:=nmE (bE w x.af6 (.slice ak x.af3.length ck) (.slice al x.af7.length cl) (.slice ar x.af8.length cr));have aW:=afX hw1;have HX:=afY hw1;unfold bE at hw1;have HW1:=hid hw1;clear hw1;have IY:=hid (fun(X:World) (hX:BL w X)=>lm x W s hc _ u t _ _ U tb X (ha.next hX).vY (ha.next hX).sG (hs.keep (aA.below hX)) (ha.next hX).laid (ha.next hX).tab);have R3:=hid (fun(X:World) (hX:BL w X)=>vU x W s hfw (aF.ja hfit).symm _ u t _ _ U X (ha.next hX).vY (ha.next hX).sG (hs.keep (aA.below hX)));have sU:=hid (fun(X:World) (B0 B1 B2 M:Nat)=>uJ x W s hfw hfit B0 B1 B2 M 512 (by omega) X);obtain⟨aw,cw,rfl, -, -, -⟩:=ha.sG.form;obtain⟨uj,cs,rfl, -, -, -⟩:=hs.form;clear hs ha hfw hfit;obtain⟨⟨y0,y1,y2,y3⟩, -⟩:=aO (HX.out w1 aj);go_enter Tryz.func35,Tryz.ntmps35;go_upto_region 1 with fail;rw[<-HW1.out];go_wp2_with fail;refine(IY.out w1 aW.out).mono ?_;rintro e w2 ⟨rfl,hb⟩;have cU:Hid (BL w1 w2):=hid hb;have bB:=bq aW hb;clear hb y0 y1 y2 y3;obtain⟨⟨y0,y1,y2,y3⟩, -⟩:=aO (HX.out w2 cU.out);go_wp2_with fail;refine(R3.out w2 bB.out).mono ?_;rintro e w3 ⟨B0,B1,B2,rfl,hst,hB0,hb3⟩;have bG:=bq bB hb3;have sP:=hid (sU.out w3 B0 B1 B2 w3.heap.size aB hst.toD);have TS:=hst.Gr;have hz2:=bB.out.size;clear hb3 hst y0 y1 y2 y3;go_wp2_with fail;refine sP.out.mono ?_;rintro e w4 ⟨g,rfl,hsf,hb4⟩;have dO:Hid (BL w w4):=hid (bG.out.trans (hb4.mono (by omega)));have Rz:=hid (bN.mono (S':=(w.heap.size<=·)) hsf (fun b _ hb=>by have:=hb.1;show w.heap.size<=b;omega));clear hb4 hsf;go_wp2;go_ret2;exact⟨g,rfl,Rz.out,dO.out⟩
theorem uK(x:ah.bD)(W:ah.bK)(s:Sub.S)(hc:aF.jD x W s=0)(k i:Nat)(hki:Sub.keeps s k i=true)(v u t:Value)(U:Nat->Prop)(tb B:Nat)(w:World)(ha:l6 tb x W v u B w)(hs:aP U w t s):
  Calls Tryz.prog 41 #[v,u,t,.agg #[.int .i64 (k:Int),.int .i64 (i:Int)]] w fun e w'=>∃g,e=.returned (.tuple #[.slice (some ⟨g,0,none⟩) W.length W.length,.int .i64 0])/\gN (w.heap.size<=·) w' (.slice (some ⟨g,0,none⟩) W.length W.length) (Sub.without (aF.wrong (aF.bT x) W) s k i)/\BL w w':=by
 obtain⟨hfw,hfit⟩:=gy hc;obtain⟨mg,yq⟩:=aF.vJ hfit hki;have DW:i<W[k].length:=by unfold aF.bH at yq;rwa [Sub.aR mg] at yq
 obtain⟨hks,his⟩:=Sub.lQ hki;rw[Sub.aR hks] at his
 have hsk:s[k][i]=true:=by
  unfold Sub.keeps at hki;rwa [Sub.aR hks,Sub.aR his] at hki
 obtain⟨ak,ck,al,cl,ar,cr,rfl, -⟩:=ha.vY.form;obtain⟨w1,hw1⟩:=nmE ((bE w x.af6 (.slice ak x.af3.length ck) (.slice al x.af7.length cl) (.slice ar x.af8.length cr)).alloc (.cells #[.int .i64 (k:Int),.int .i64 (i:Int)] 87));have aW:Hid (Below w.heap.size w w1):=hid (by rw[hw1];exact(aQ ..).alloc (by simp[bE]) _);have HX:Hid (∀W,BL w1 W->W.heap[w.heap.size]?=some (.cells #[.int .i64 x.af6,.slice ak x.af3.length ck,.slice al x.af7.length cl,.slice ar x.af8.length cr] 27 (0,0))):=hid (fun W hW=>(hW.block _ (by rw[hw1];simp[bE];omega)).trans (by rw[hw1];exact aG _ (bf ..)));have HA:Hid (∀W,BL w1 W->W.heap[w.heap.size+1]?=some (.cells #[.int .i64 (k:Int),.int .i64 (i:Int)] 87 (0,0))):=hid (fun W hW=>(hW.block _ (by rw[hw1];simp[bE])).trans (by rw[hw1];exact aD _ _ (by simp[bE])));unfold bE at hw1;have HW1:=hid hw1;clear hw1;have IY:=hid (fun(X:World) (hX:BL w X)=>lm x W s hc _ u t _ _ U tb X (ha.next hX).vY (ha.next hX).sG (hs.keep (aA.below hX)) (ha.next hX).laid (ha.next hX).tab);have R3:=hid (fun(X:World) (hX:BL w X)=>vU x W s hfw (aF.ja hfit).symm _ u t _ _ U X (ha.next hX).vY (ha.next hX).sG (hs.keep (aA.below hX)));have yL:=hid (fun(X:World) (B0 B1 B2 M:Nat)=>FM x W s hfw (aF.ja hfit).symm B0 B1 B2 M 512 (by omega) k i mg DW hki X);have sU:=hid (fun(X:World) (B0 B1 B2 M:Nat)=>uJ x W (Sub.drop s k i) hfw (Sub.iU hfit k i) B0 B1 B2 M 513 (by omega) X);have HS:=hid hs;obtain⟨aw,cw,rfl, -, -, -⟩:=ha.sG.form;obtain⟨uj,cs,rfl,hss, -, -⟩:=hs.form;have hk0:(0:Int)<=(k:Int):=by omega
 have hi0:(0:Int)<=(i:Int):=by omega
 have hk1:(k:Int)<(s.length:Int):=by omega
 have hi1:(i:Int)<(s[k].length:Int):=by omega
 have hk2:¬(k:Int)<0:=by omega
 have hi2:¬(i:Int)<0:=by omega
 have hk3:¬(s.length:Int)<=(k:Int):=by omega
 have hi3:¬(s[k].length:Int)<=(i:Int):=by omega
 obtain⟨us,YH,YI⟩:=HS.out.lW hks;obtain⟨sa,sc,rfl,hsa, -, -⟩:=YH.form;obtain⟨ub,hub1,YJ⟩:=YH.lW his;obtain rfl:ub=_:=hub1;rw[hsk] at YJ;obtain⟨nr,sx⟩:=nmE (s[k].length);rw[<-sx] at hi1 hi3 hsa YI;have d1:decide ((k:Int)<0)=false:=decide_eq_false (by omega);have d2:decide (s.length<=k)=false:=decide_eq_false (by omega);have d3:decide ((i:Int)<0)=false:=decide_eq_false (by omega);have d4:decide (nr<=i)=false:=decide_eq_false (by omega);have A6:=hid YI;have Xf:=hid YJ;clear hs ha hfw hfit YH YI YJ sx hsk;obtain⟨⟨y0,y1,y2,y3⟩, -⟩:=aO (HX.out w1 aj);go_enter Tryz.func41,Tryz.ntmps41;go_upto_region 1 with fail;rw[<-HW1.out];go_wp2_with fail;refine(IY.out w1 aW.out).mono ?_;rintro e w2 ⟨rfl,hb⟩;have cU:Hid (BL w1 w2):=hid hb;have bB:=bq aW hb;clear hb y0 y1 y2 y3;go_upto_region 4 with fail;obtain⟨⟨a0,a1⟩, -⟩:=nN (HA.out w2 cU.out);have hs1:w2.cell? ⟨aY uj,bC uj+k,none⟩=some (.slice sa nr sc):=A6.out w2 (aA.below bB.out);have hs2:w2.cell? ⟨aY sa,bC sa+i,none⟩=some (.bool true):=Xf.out w2 (aA.below bB.out);go_wp2;go_quiet (fail);clear a0 a1 hs1 hs2;have fS:Hid (BL w1 (w2.drewN nq)):=hid (af5 cU.out _);have dP:Hid (BL w (w2.drewN nq)):=hid (af5 bB.out _);clear cU bB;generalize w2.drewN nq=w5 at*;obtain⟨⟨y0,y1,y2,y3⟩, -⟩:=aO (HX.out w5 fS.out);go_wp2_with fail;refine(R3.out w5 dP.out).mono ?_;rintro e w6 ⟨B0,B1,B2,rfl,hst,hB0,lN⟩;have qJ:=bq fS lN;have jC:=bq dP lN;have Tk:=hid (yL.out w6 B0 B1 B2 w6.heap.size hst.toD);have TS:=hst.Gr;have Nb:=dP.out.size;clear lN hst y0 y1 y2 y3;obtain⟨⟨a0,a1⟩, -⟩:=nN (HA.out w6 qJ.out);go_wp2_with fail;refine Tk.out.mono ?_;rintro e w7 ⟨⟨v7,rfl⟩,ab5,qX⟩;have kN:Hid (BL w w7):=hid (jC.out.trans (qX.1.mono (by omega)));have sQ:=hid (sU.out w7 B0 B1 B2 w6.heap.size qX.1.size ab5);clear ab5 qX a0 a1;go_wp2_with fail;refine sQ.out.mono ?_;rintro e w8 ⟨g,rfl,hsf,mK⟩;have lP:Hid (BL w w8):=hid (kN.out.trans (mK.mono (by omega)));have Rz:=hid (bN.mono (S':=(w.heap.size<=·)) hsf (fun b _ hb=>by have:=hb.1;show w.heap.size<=b;omega));clear mK hsf;go_wp2;go_ret2;exact⟨g,rfl,Rz.out,lP.out⟩
attribute [local go_sem] Oper.semAt_some
def yu(B:Nat):Nat->Obj->Prop:=fun b o=>b=B/\¬book o
theorem xJ{w:World}{g:Nat}{b:Bool}{tmps:Array Value}(h:w.heap[g]?=some (.cells #[.bool b] 4 (0,0)))(hp:tmps[6]?=some (.pointer (some ⟨g,0,none⟩))):
  (results Tryz.f33 tmps).run Tryz.prog w=.ok (.bool b) w:=by
 have g0:=(one_cell h).1;simp[results,Tryz.results33,go_sem,hp,g0]
theorem Jm(x:ah.bD)(W:ah.bK)(s:Sub.S)(hc:aF.jD x W s=0)(v u t:Value)(U:Nat->Prop)(tb B:Nat)(w:World)(ha:l6 tb x W v u B w)(hs:aP U w t s):
  Calls Tryz.prog 33 #[v,u,t] w fun e w'=>e=.returned (.bool (Sub.valid (aF.wrong (aF.bT x) W) s))/\BL w w':=by
 obtain⟨hfw,hfit⟩:=gy hc;obtain⟨ak,ck,al,cl,ar,cr,rfl, -⟩:=ha.vY.form;obtain⟨w1,hw1⟩:=nmE ((bE w x.af6 (.slice ak x.af3.length ck) (.slice al x.af7.length cl) (.slice ar x.af8.length cr)).alloc (.cells #[.bool false] 4));have aW:Hid (Below w.heap.size w w1):=hid (by rw[hw1];exact(aQ ..).alloc (by simp[bE]) _);have HX:Hid (∀W,BL w1 W->W.heap[w.heap.size]?=some (.cells #[.int .i64 x.af6,.slice ak x.af3.length ck,.slice al x.af7.length cl,.slice ar x.af8.length cr] 27 (0,0))):=hid (fun W hW=>(hW.block _ (by rw[hw1];simp[bE];omega)).trans (by rw[hw1];exact aG _ (bf ..)));have Jk:Hid (w1.heap[w.heap.size+1]?=some (.cells #[.bool false] 4 (0,0))):=hid (by rw[hw1];exact aD _ _ (by simp[bE]));unfold bE at hw1;have hz1:w.heap.size+2<=w1.heap.size:=by rw[hw1];simp
 have HW1:=hid hw1;clear hw1;have IY:=hid (fun(X:World) (hX:BL w X)=>lm x W s hc _ u t _ _ U tb X (ha.next hX).vY (ha.next hX).sG (hs.keep (aA.below hX)) (ha.next hX).laid (ha.next hX).tab);have R3:=hid (fun(X:World) (hX:BL w X)=>vU x W s hfw (aF.ja hfit).symm _ u t _ _ U X (ha.next hX).vY (ha.next hX).sG (hs.keep (aA.below hX)));have HS:=hid (aP.mono (S':=(·<w.heap.size)) hs (fun b hb _=>hb));obtain⟨aw,cw,rfl, -, -, -⟩:=ha.sG.form;obtain⟨uj,cs,rfl,hss, -, -⟩:=hs.form;have qu:=hid hfw;have Bn:=hid hfit;obtain⟨rs,Mj⟩:=nmE (aF.bT x);rw[<-Mj];have Il:=hid Mj;obtain⟨res,hres⟩:=nmE (Sub.valid (aF.wrong rs W) s);rw[<-hres];have ab6:=hid hres;clear hs ha hfw hfit Mj hres;obtain⟨⟨y0,y1,y2,y3⟩, -⟩:=aO (HX.out w1 aj);rw[<-callsIn_wide (n:=5)];refine callsIn_of_wp_marks Tryz.func33 rfl trivial ?_ rfl;simp only[Tryz.ntmps33,List.size_toArray,List.length_cons,List.length_nil,Nat.reduceAdd,Nat.reduceSub,Array.replicate_succ,Array.replicate_zero,List.push_toArray,List.append_toArray,List.nil_append,List.cons_append];rw[wpIn_wide];go_upto_region 1 with fail;rw[<-HW1.out];go_wp2_with fail;refine(IY.out w1 aW.out).mono ?_;rintro e w2 ⟨rfl,hb⟩;have cU:Hid (BL w1 w2):=hid hb;have bB:=bq aW hb;clear hb y0 y1 y2 y3;obtain⟨⟨y0,y1,y2,y3⟩, -⟩:=aO (HX.out w2 cU.out);go_wp2_with fail;refine(R3.out w2 bB.out).mono ?_;rintro e w3 ⟨B0,B1,B2,rfl,hst,hB0,hb3⟩;have dD:=bq cU hb3;have bG:=bq bB hb3;have HST:=hid hst.toD;have A5:=dD.out.size;clear hb3 hst y0 y1 y2 y3;obtain⟨w4,hw4⟩:=nmE (w3.alloc (.cells #[.pointer (some ⟨B2+1,0,none⟩)] 143));have dO:Hid (Below w3.heap.size w3 w4):=hid (by rw[hw4];exact aj.alloc aB _);have HP4:Hid (w4.heap[w3.heap.size]?=some (.cells #[.pointer (some ⟨B2+1,0,none⟩)] 143 (0,0))):=hid (by rw[hw4];exact aD _ _ rfl);have Na:w3.heap.size<w4.heap.size:=ay HP4.out;have zV:=hid hw4;clear hw4;go_upto_region 4 with fail;rw[<-zV.out];go_wp2_with fail;refine(qp _ _ _ _).mono ?_;rintro e w5 ⟨rfl,jO⟩;have gL:BL w4 w5:=by rw[jO];exact aj.alloc aB _
 have Ar:w5.heap[w4.heap.size]?=some (.cells #[.slice uj s.length cs] 45 (0,0)):=by rw[jO];exact aD _ _ rfl
 have Nb:=ay Ar;have dP:Hid (BL w3 w5):=hid (dO.out.trans (gL.mono (by omega)));have BI:Hid (BL w w5):=hid (bG.out.trans (dP.out.mono (by omega)));have HP5:Hid (w5.heap[w3.heap.size]?=some (.cells #[.pointer (some ⟨B2+1,0,none⟩)] 143 (0,0))):=hid ((gL.block _ Na).trans HP4.out);have TW:Hid (w5.heap[w.heap.size+1]?=some (.cells #[.bool false] 4 (0,0))):=hid ((dP.out.block _ (by omega)).trans ((dD.out.block _ (by omega)).trans Jk.out));have qY:Hid (yt B0 B1 B2 w3.heap.size 512 rs W s w5):=hid (by rw[Il.out];exact HST.out.qt (fun b hb hlt=>dP.out.block b hlt))
 have FP:Hid (qn (α:=Nat×Nat) Tryz.prog w.heap.size w5.heap.size 107 #[.pointer (some ⟨w4.heap.size,0,none⟩)] (fun x=> #[.agg #[.int .i64 (x.1:Int),.int .i64 (x.2:Int)]]) (fun pre x _=>pre++[x]<+:Sub.kept s) (yu (w.heap.size+1)) (fun _ _=>False) (fun xs _=>xs=Sub.kept s) w5):=
  hid (nL s w.heap.size w5.heap.size w4.heap.size _ (·<w.heap.size) (yu (w.heap.size+1)) w5 (by omega) (HS.out.keep (aA.below BI.out)) Ar (fun o h=>by have:=h.1;omega) (fun Y ht=>aA.aM ht.1 (fun _ h=>h)))
 clear jO gL Ar;go_wp2;rw[<-wpIn_wide (n:=5)]
 refine kI (α:=Nat×Nat) (n0:=w.heap.size) (gf:=107) rfl (aZ Tryz.func107 (by kernel_rfl) rfl) (fun _=>rfl) FP.out (by omega) (fun _ _ h=>h.elim) (fun _ _ h=>h.2)
  (fun pre Y=>aJ (aS w5.heap.size) w.heap.size w5 Y/\∀z∈pre,aF.wrong rs W s z.1 z.2=false)
  (fun _ Y=>Below w.heap.size w5 Y/\Y.heap[w.heap.size+1]?=some (.cells #[.bool false] 4 (0,0))/\res=false)
  (fun pre A B h ht=>⟨h.1.trans (ht.mono (fun b o h=>h.elim False.elim id)),h.2⟩) (fun _ A B h ht=>⟨h.1.trans ht.1,ht.2 _ _ h.2.1 (by
   rintro (h|h)
   ·exact h
   ·simp[aS,book] at h),h.2.2⟩) (fun _ _ _ h _=>h) ⟨aJ.refl _ _ _,fun z hz=>absurd hz (by simp)⟩ ?jh ?hdone ?hstop
 case jh=>
  rintro l pre y Y hlr ⟨hI1,qU⟩ Jl;obtain⟨k,i⟩:=y;simp only[List.zip_toArray,List.zip_cons_cons,List.zip_nil_left];have hsY:=hI1.1.size;gi_wp2;refine⟨(aJ.refl _ _ _).alloc (by omega) _,fun Y2 ht2 hs2 hl2=>?_⟩;have pT:Hid (Y2.heap[Y.heap.size]?=some (.cells #[.int .i64 (k:Int),.int .i64 (i:Int)] 87 (0,0))):=hid (ht2.2 _ _ (aD _ _ rfl) (by simp[aS,book]));have mV:Hid (aJ (aS w5.heap.size) w.heap.size w5 Y2):=hid ((hI1.alloc (by omega) _).trans ht2);have HST2:Hid (yt B0 B1 B2 w3.heap.size 512 rs W s Y2):=hid (qY.out.qt (mV.out.VO (fun b o hb ho=>by have:=ho.1;omega)));have HPt:Hid (Y2.heap[w3.heap.size]?=some (.cells #[.pointer (some ⟨B2+1,0,none⟩)] 143 (0,0))):=hid (mV.out.2 _ _ HP5.out (by simp[aS,book]));have HAg:Hid (Y2.heap[w.heap.size+1]?=some (.cells #[.bool false] 4 (0,0))):=hid (mV.out.2 _ _ TW.out (by simp[aS,book]));have hmem:(k,i)∈Sub.kept s:=Jl.subset (by simp);have hkp:=Sub.cO.1 hmem;obtain⟨mg,yq⟩:=aF.vJ Bn.out hkp;have DW:i<W[k].length:=by unfold aF.bH at yq;rwa [Sub.aR mg] at yq
  have TV:Hid (CB 68 #[.pointer (some ⟨B2+1,0,none⟩),.agg #[.int .i64 (k:Int),.int .i64 (i:Int)]] Y2 (.bool (aF.wrong rs W s k i))):=hid (by
   have:=C9 x W s qu.out (aF.ja Bn.out).symm B0 B1 B2 512 k i mg DW Y2 (by rw[<-Il.out];exact HST2.out.toV)
   rw[<-Il.out] at this
   exact this)
  have yd:Hid (aF.wrong rs W s k i=true->res=false):=hid (fun h=>by
   rw[ab6.out];cases e:Sub.valid (aF.wrong rs W) s with
   |false=>rfl
   |true=>rw[Sub.fW.1 e k i hkp] at h;cases h)
  have HYs:Hid (aF.wrong rs W s k i=false->∀z∈pre++[(k,i)],aF.wrong rs W s z.1 z.2=false):=hid (fun h z hz=>by
   rcases List.mem_append.1 hz with hz|hz
   ·exact qU z hz
   ·rw[zMs.1 hz];exact h)
  have Fm:=ay pT.out;have KW:=ay HAg.out;have hz2Y:=mV.out.1.size;have c1:=(one_cell HPt.out).1;obtain⟨⟨a0,a1⟩, -⟩:=nN pT.out;clear hI1 qU hmem hkp yq hs2 ht2 Jl;gi_wp2_with fail;refine⟨trivial,rfl,j9.2 (TV.out.mono ?_)⟩;rintro e Y3 ⟨rfl,hb3⟩;have TY:=hid hb3;have hz3Y:=hb3.size;clear c1 a0 a1 hb3;generalize aF.wrong rs W s k i=bw at*;cases bw with
  |false=>
   have HQ:Hid (QS (yu (w.heap.size+1)) w.heap.size (fun pre Y=>aJ (aS w5.heap.size) w.heap.size w5 Y/\∀z∈pre,aF.wrong rs W s z.1 z.2=false)
     (fun(_:List (Nat×Nat)) Y=>Below w.heap.size w5 Y/\Y.heap[w.heap.size+1]?=some (.cells #[.bool false] 4 (0,0))/\res=false) (pre++[(k,i)]) Y2 .normal {tmps:=#[],defers:=[]} Y3):=
    hid ⟨aJ.aM TY.out (by omega),mV.out.trans (aJ.aM TY.out (by omega)),HYs.out rfl⟩
   clear yd HYs
   gi_wp2
   exact HQ.out
  |true=>
   have Kv:Hid (Y3.heap[w.heap.size+1]?=some (.cells #[.bool false] 4 (0,0))):=hid ((TY.out.block _ KW).trans HAg.out)
   have h4c:=(one_cell Kv.out).1
   have h4f:=(one_cell Kv.out).2
   have HQ:Hid (QS (yu (w.heap.size+1)) w.heap.size (fun pre Y=>aJ (aS w5.heap.size) w.heap.size w5 Y/\∀z∈pre,aF.wrong rs W s z.1 z.2=false)
     (fun(_:List (Nat×Nat)) Y=>Below w.heap.size w5 Y/\Y.heap[w.heap.size+1]?=some (.cells #[.bool false] 4 (0,0))/\res=false) (pre++[(k,i)]) Y2 .ret {tmps:=#[],defers:=[]} (Y3.setCell ⟨w.heap.size+1,0,none⟩ (.bool false))):=hid (by
    have t24:aJ (yu (w.heap.size+1)) w.heap.size Y2 (Y3.setCell ⟨w.heap.size+1,0,none⟩ (.bool false)):=
     aJ.setCell (p:=⟨w.heap.size+1,0,none⟩) (aJ.aM TY.out (by omega)) Kv.out ⟨rfl,by simp[book]⟩ (by show w.heap.size<=w.heap.size+1;omega) _
    exact⟨t24,mV.out.1.trans t24.1,one_set _ Kv.out,yd.out rfl⟩)
   clear yd HYs
   gi_wp2
   exact HQ.out
 case hdone=>
  rintro D xs Y hD rfl ⟨hI1,qU⟩ hk;have r2:Y.heap[w.heap.size+1]?=some (.cells #[.bool false] 4 (0,0)):=hI1.2 _ _ TW.out (by simp[aS,book]);have c4:=(one_cell r2).1;have c5:=(one_cell r2).2;have hset:(Y.setCell ⟨w.heap.size+1,0,none⟩ (.bool true)).heap[w.heap.size+1]?=some (.cells #[.bool true] 4 (0,0)):=one_set _ r2;have hDb:D≠w.heap.size+1:=by omega
  have hk2:(Y.setCell ⟨w.heap.size+1,0,none⟩ (.bool true)).heap[D]?=some (.deferred (some [])):=(zBh _ _ _ _ hDb).trans hk;have HM:=hid ((Marks.nil w.heap.size w5.heap.size (Y.setCell ⟨w.heap.size+1,0,none⟩ (.bool true))).push hD (by omega) hk2)
  have hrt:res=true:=by
   rw[ab6.out];exact Sub.fW.2 fun a b hab=>qU (a,b) (Sub.cO.2 hab)
  have HB:=hid (BI.out.trans (hI1.1.trans (aj.setCell (by show w.heap.size<=w.heap.size+1;omega) (.bool true):Below w.heap.size Y (Y.setCell ⟨w.heap.size+1,0,none⟩ (.bool true)))));have Ir:=hid hset;have HRt:=hid hrt;clear hI1 qU hk r2 hset hDb hk2 hrt;dsimp only;go_wp2;refine iL HM.out (fun w' ht=>⟨xJ (b:=true) (ht.2 _ _ Ir.out (by simp[aS,book])) rfl,by rw[HRt.out],HB.out.trans ht.1⟩)
 case hstop=>
  rintro D xs Y hD ⟨hb,r2,hrf⟩ hk;refine iL ((Marks.nil w.heap.size w5.heap.size Y).push hD (by omega) hk) (fun w' ht=>⟨xJ (b:=false) (ht.2 _ _ r2 (by simp[aS,book])) rfl,by rw[hrf],BI.out.trans (hb.trans ht.1)⟩)
theorem Mp(n c d:Nat)(a b:Option Addr)(w:World):Calls Tryz.prog 70 #[.slice a n c,.slice b n d] w fun e w'=>e=.returned (.bool true)/\w=w':=by
 go_enter Tryz.func70,Tryz.ntmps70;go_wp2;go_ret;exact⟨by simp,rfl⟩
theorem Qq(W s:Sub.S)(h:W.map List.length=s.map List.length)(kW:W.length<=1000000)(v u:Value)(S T:Nat->Prop)(w:World)(hW:aP S w v W)(hs:aP T w u s):
  Calls Tryz.prog 69 #[v,u,.func (.func 70) #[] #[]] w fun e w'=>e=.returned (.bool true)/\w=w':=by
 obtain⟨aw,cw,rfl,hsw, -, -⟩:=hW.form;obtain⟨uj,cs,rfl,hss, -, -⟩:=hs.form;have HW:=hid hW;have HS:=hid hs;have hlen:W.length=s.length:=by simpa using congrArg List.length h
 have HL:Hid (∀k (h1:k<W.length) (h2:k<s.length),W[k].length=s[k].length):=hid (fun k h1 h2=>by
  have:=congrArg (fun l=>l[k]?) h;simpa [h1,h2] using this)
 obtain⟨n,hn⟩:=nmE s.length;have hnw:W.length=n:=by rw[hn];exact hlen
 rw[hnw] at hsw kW ⊢;rw[<-hn] at hss ⊢;have HN:=hid hn;have VE:=hid hnw;clear hW hs h hlen hn hnw;go_enter Tryz.func69,Tryz.ntmps69;go_wp2;go_loopw [17] (fun kk wr=>∃k:Nat,k<=n/\kk=.int .i64 k/\w=wr) (fun kk _=>n-(intOf kk).toNat);case atStart=>exact⟨0,Nat.zero_le _,rfl,rfl⟩
 case round=>
  obtain⟨k,hk,rfl,rfl⟩:=hrel;by_cases hlt:k<n
  ·have hk0:(0:Int)<=k:=by omega
   have hk1:(k:Int)<n:=by omega
   have h1:k<W.length:=by rw[VE.out];exact hlt
   have h2:k<s.length:=by rw[<-HN.out];exact hlt
   obtain⟨x,hx, -,hxr⟩:=eX.at (by rw[<-VE.out];exact HW.out:aP S w (.slice aw n cw) W) h1;obtain⟨y,hy, -,hyr⟩:=eX.at (by rw[HN.out];exact HS.out:aP T w (.slice uj n cs) s) h2;obtain⟨a,c,rfl, -, -, -⟩:=hxr.form;obtain⟨b,d,rfl, -, -, -⟩:=hyr.form;rw[HL.out k h1 h2] at hx;clear hxr hyr;generalize s[k].length=m at*;have lG:=aZ Tryz.func70 (by kernel_rfl) rfl;go_wp2_with fail;refine(Mp m c d a b w).mono ?_;rintro e w2 ⟨rfl,rfl⟩;go_wp2;go_roundw;case rel=>exact⟨k+1,by omega,by go_num,by first|rfl|trivial⟩
   simp[intOf];omega
  ·obtain rfl:n=k:=by omega
   go_wp2;go_ret;exact⟨rfl,rfl⟩
attribute [local go_sem] Oper.semAt_some
namespace Sub
theorem qv{s t:S}:∀{l m:List (Nat×Nat)},(∀x∈l,keeps s x.1 x.2=keeps t x.1 x.2)->iB s t (l++m)=iB s t m
 |[],_,_=>rfl
 |x::l,m,h=>by
  rw[List.cons_append];unfold iB;rw[if_pos (h x (by simp)),qv (fun y hy=>h y (by simp[hy]))];cases m<;>rfl
theorem FQ{s t:S}{l:List (Nat×Nat)}(h:∀x∈l,keeps s x.1 x.2=keeps t x.1 x.2):iB s t l=false:=by
 have:=qv (m:=[]) h;rw[List.append_nil] at this;rw[this];rfl
def lD(sh:List Nat)(k:Nat):List (Nat×Nat):=(List.range k).flatMap fun k=>(List.range (sh.getD k 0)).map fun i=>(k,i)
theorem uL(sh:List Nat)(k:Nat):lD sh (k+1)=lD sh k++(List.range (sh.getD k 0)).map fun i=>(k,i):=by simp[lD,List.range_succ]
theorem xK(sh:List Nat){i:Nat}:∀{n:Nat},i<=n->lD sh i<+:lD sh n
 |0,h=>by
  obtain rfl:i=0:=by omega
  exact List.prefix_refl _
 |n+1,h=>by
  by_cases e:i=n+1
  ·rw[e];exact List.prefix_refl _
  ·rw[uL]
   exact(xK sh (by omega)).trans (List.prefix_append _ _)
theorem Dc{i:Nat}:∀{n:Nat},i<=n->List.range i<+:List.range n
 |0,h=>by
  obtain rfl:i=0:=by omega
  exact List.prefix_refl _
 |n+1,h=>by
  by_cases e:i=n+1
  ·rw[e];exact List.prefix_refl _
  ·rw[List.range_succ]
   exact(Dc (by omega)).trans (List.prefix_append _ _)
theorem FR{sh:List Nat}{k:Nat}{x:Nat×Nat}(h:x∈lD sh k):x.1<k:=by
 unfold lD at h;rw[List.mem_flatMap] at h;obtain⟨a,ha,h⟩:=h;rw[List.mem_map] at h;obtain⟨b,_,rfl⟩:=h;exact List.mem_range.1 ha
theorem DX{sh:List Nat}{k i:Nat}(hk:k<sh.length)(hi:i<sh.getD k 0):∃l m,places sh=l++(k,i)::m/\∀x∈l,x.1<k\/(x.1=k/\x.2<i):=by
 have e:places sh=lD sh sh.length:=rfl;obtain⟨m1,h1⟩:=xK sh (show k+1<=sh.length by omega);obtain⟨m2,h2⟩:=Dc (show i+1<=sh.getD k 0 by omega);refine⟨lD sh k++(List.range i).map (fun i=>(k,i)),m2.map (fun i=>(k,i))++m1,?_,fun x hx=>?_⟩
 ·rw[e,<-h1,uL,<-h2,List.range_succ]
  simp
 ·rcases List.mem_append.1 hx with hx|hx
  ·exact .inl (FR hx)
  ·rw[List.mem_map] at hx
   obtain⟨b,hb,rfl⟩:=hx;exact .inr ⟨rfl,List.mem_range.1 hb⟩
theorem Mq{sh:List Nat}{s t:S}(h:size s≠size t):less sh s t=decide (size s<size t):=by
 unfold less;simp[h]
theorem T9{sh:List Nat}{s t:S}(h:size s=size t){k i:Nat}(hk:k<sh.length)(hi:i<sh.getD k 0)(hb:∀k' i',k'<k\/(k'=k/\i'<i)->keeps s k' i'=keeps t k' i')(hne:keeps s k i≠keeps t k i):less sh s t=keeps s k i:=by
 obtain⟨l,m,e,hl⟩:=DX hk hi;unfold less;rw[e,qv (fun x hx=>hb _ _ (hl x hx))];unfold iB;rw[if_neg hne];simp[h]
theorem Mr{sh:List Nat}{s t:S}(h:size s=size t)(hb:∀k' i',keeps s k' i'=keeps t k' i'):less sh s t=false:=by
 unfold less;rw[FQ (fun x _=>hb _ _)];simp[h]
end Sub
end Go.Proofs.YtobgljfnfpolkaaGreatDoor
