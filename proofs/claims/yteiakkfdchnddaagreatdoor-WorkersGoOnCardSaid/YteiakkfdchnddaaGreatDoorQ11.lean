/- Part 11 of the walks and plain laws that the proof needs (packed). -/
import Derived.Deep.LoopGhost
import Derived.Test.YteiakkfdchnddaaGreatDoorQ1
import Derived.Test.YteiakkfdchnddaaGreatDoorQ5
import Derived.Test.YteiakkfdchnddaaGreatDoorQ10
set_option linter.all false
set_option maxRecDepth 100000
set_option maxHeartbeats 8000000
namespace Go.Proofs.YteiakkfdchnddaaGreatDoor
open Go.RowKit
theorem Jf(x:ah.bF)(W:ah.cG)(s:Sub.S)(hfw:aR.sF x W)(hsh:W.map List.length=s.map List.length)(B0 B1 B2 M n:Nat)(hn:n<=100000)(k i:Nat)(hk:k<W.length)(hi:i<W[k].length)(hki:Sub.keeps s k i=true)(w:World)(h:Aw B0 B1 B2 M n (aR.cN x) W s w):
  Calls Tryz.prog 74 #[.pointer (some ⟨B2+1,0,none⟩),.agg #[.int .i64 (k:Int),.int .i64 (i:Int)]] w fun e w'=>(∃v,e=.returned v)/\Aw B0 B1 B2 M (n+1) (aR.cN x) W (Sub.drop s k i) w'/\aS (fun b o=>(B1<=b/\b<M)/\¬book o) B1 w w':=by
 have hrf:=hfw.refs;have LI:=hfw.lead;have hrc:=hfw.qv;have Aj:=hfw.tot;have hkn:=hfw.ai;have hlen:=hfw.len;have hST:=hid h;obtain⟨ar,cr,aw,cw,gs,xk,LY,Vf,hsf⟩:=h.box;obtain⟨bs,ho,hbl,hnd,hbs,hcn⟩:=h.maps;have Zj:=h.NH;have Au:=h.b12;have hb2m:=h.Xn;have h60:=hfw.many;clear h hfw;generalize aR.cN x=rs at*;have Ah:B2+1<w.heap.size:=aj xk;have hsl:s.length=W.length:=by simpa using (congrArg List.length hsh).symm
 have hks:k<s.length:=by omega
 have hrow:s[k].length=W[k].length:=by
  have:=congrArg (fun l=>l[k]?) hsh;have e:W[k].length=s[k].length:=by simpa [hk,hks] using this
  exact e.symm
 have Qe:Hid (∀k (h1:k<W.length),W[k].length<=512):=hid (fun k h1=>by
  have h4:W[k].length<=ah.total W:=iI h1;omega)
 obtain⟨sd,hsd⟩:=aV (Sub.drop s k i);have hsd2:sd=s.set k (s[k].set i false):=by rw[hsd];unfold Sub.drop;rw[Sub.aX hks]
 have adT:sd.length=s.length:=by rw[hsd2,List.length_set]
 rw[<-hsd];obtain⟨ao,co,eo,hso, -, -⟩:=LY.form;cases eo;obtain⟨aw',cw',ew,hsw, -, -⟩:=Vf.form;cases ew;obtain⟨w1,hw1⟩:=aV (w.alloc (.cells #[.int .i64 (k:Int),.int .i64 (i:Int)] 146));have bf:Hid (Below w.heap.size w w1):=hid ud;have LZ:Hid (w1.heap[w.heap.size]?=some (.cells #[.int .i64 (k:Int),.int .i64 (i:Int)] 146 (0,0))):=hid RM;have zG:Hid (∀V,BL w V->V.heap[B2+1]?=some (.cells #[.slice ar rs.length cr,.slice aw W.length cw,.slice (some ⟨gs,0,none⟩) s.length s.length,.map (some B2)] 171 (0,0))):=hid (fun V hV=>(hV.block _ Ah).trans xk);have agk:=dP.keep hsf (aB.below bf.out);obtain⟨uk,Sk,g',cap,e1,M4,pW,hSk,hngs,hgs,hset⟩:=iM.inner fN agk hks;cases e1;obtain⟨nb,hnb⟩:=aV (s[k].length);have hib:i<nb:=by omega
 have hform:=j6 pW.1 aC;obtain⟨gk,ck,e2,hck, -, -,hat⟩:=hform;subst e2;have O1:Sk gk:=pW.2 gk rfl;have hgk:=hSk gk O1
 obtain⟨ogk,agl⟩:∃c,w1.heap[gk]?=some (.cells c 4 (0,0)):=by
  rcases pW.1.2 with⟨h2,_⟩|⟨g2,c2,cur,hv2,hb2,hg2,_⟩
  ·cases h2
  ·cases hv2;exact⟨_,hg2⟩
 have HGk:Hid (∀V:World,V.heap=w1.heap->(∃b,V.cell? ⟨gk,i,none⟩=some (.bool b))/\V.frozen? ⟨gk,i,none⟩=false):=hid (fun V hV=>by
  have h0:=hat i mV;have e3:V.heap[gk]?=w1.heap[gk]?:=by rw[hV]
  refine⟨⟨(s[k])[i]' aC,?_⟩,?_⟩
  ·rw[World.cell?_of_block (w:=w1) (a:=⟨gk,i,none⟩) e3,h0.1];simp
  ·rw[World.frozen?_of_block (w:=w1) (a:=⟨gk,i,none⟩) e3,h0.2])
 have YU:Hid (∀V,BL w1 V->V.cell? ⟨gs,k,none⟩=some (.slice (some ⟨gk,0,none⟩) nb ck)):=hid (fun V hV=>by
  rw[hnb];exact(World.cell?_of_block (w:=w1) (a:=⟨gs,k,none⟩) (hV.block _ (xN w1 ⟨gs,k,none⟩ M4))).trans M4)
 have HW1:=hid hw1;have hz1:w.heap.size<w1.heap.size:=by rw[hw1];simp
 have hbw:B1<=w.heap.size:=by omega
 have agm:=hgk.1;have hgk2:=hgk.2
 have Zl:Hid (∀V:World,V.heap=w1.heap->mz (fun b=>B1<=b/\b<B2) (V.setCell ⟨gk,i,none⟩ (.bool false)) (.slice (some ⟨gs,0,none⟩) sd.length sd.length) sd):=hid (fun V hV=>by
  rw[adT,hsd2];refine hset _ _ (jx.set (fN.keep pW (fun b _ _=>by rw[hV])) rfl i false) (fun b hb hlt=>?_);have hne:b≠gk:=fun e=>hb.2 (e▸O1);exact(nZ _ _ _ _ hne).trans (by rw[hV]))
 have TD:Hid (∀V:World,V.heap=w1.heap->BL w1 V->aS (fun b o=>(B1<=b/\b<M)/\¬book o) B1 w (V.setCell ⟨gk,i,none⟩ (.bool false))):=hid (fun V hV hb=>by
  have h1:aS (fun b o=>(B1<=b/\b<M)/\¬book o) B1 w V:=aS.aQ (cO bf.out hb) hbw;exact h1.setCell (p:=⟨gk,i,none⟩) (o:=.cells ogk 4 (0,0)) (by rw[hV];exact agl) ⟨⟨agm,by show gk<M;omega⟩,by simp[book]⟩ agm _)
 have HRv:Hid (EZ (fun b=>B0<=b/\b<B1) w (.slice ar rs.length cr) rs):=hid LY;have HWv:Hid (cZ (·<B0) w (.slice aw W.length cw) W):=hid Vf;have HOv:Hid (nL w B2 bs):=hid ho;have HCv:=hid hcn;have Ak:=hid hlen;have NP:=hid hsl;have JQ:=hid hbl;have Xj:=hid hrf;have xS:=hid LI;have Vg:=hid hrc;have HNb:=hid hnb;have LX:=hid hrow;have HSd:=hid hsd;have HSdl:=hid adT;have HNd:=hid hnd;have K9:=hid hbs;have Ap:=hid hki;have hk0:(0:Int)<=(k:Int):=by omega
 have hi0:(0:Int)<=(i:Int):=by omega
 have hk1:(k:Int)<(s.length:Int):=by omega
 have hi1:(i:Int)<(nb:Int):=by omega
 have hi2:(i:Int)<(W[k].length:Int):=by omega
 have hk2:(k:Int)<(W.length:Int):=by omega
 clear hw1 hlen hsl hbl hrf LI hrc ho hcn Vf LY hsf xk hST hsh agk M4 pW hSk hngs hgs hset hck hat O1 hgk agl hsd hsd2 adT hnd hbs hrow hnb hki;go_enter Tryz.func74,Tryz.ntmps74;go_upto_region 1 with fail;rw[<-HW1.out];have adR:=dL w1 ⟨B2+1,2,none⟩ (.slice (some ⟨gs,0,none⟩) s.length s.length) fun xh=>(aW (zG.out xh.1 (cO bf.out xh.2))).1.2.2.1;have Co:=dL w1 ⟨w.heap.size,0,none⟩ (.int .i64 (k:Int)) fun xh=>(qH ((xh.2.block _ hz1).trans LZ.out)).1.1;have Cp:=dL w1 ⟨w.heap.size,1,none⟩ (.int .i64 (i:Int)) fun xh=>(qH ((xh.2.block _ hz1).trans LZ.out)).1.2;have hqu:=dL w1 ⟨gs,k,none⟩ (.slice (some ⟨gk,0,none⟩) nb ck) fun xh=>YU.out xh.1 xh.2;refine dU 10 (.quiet 0 (.quiet 1 (.quiet 2 (.quiet 3 (.quiet 4 (.quiet 5 (.quiet 6 (.quiet 7 (.quiet 8 (.quiet 9 .done)))))))))) (BL w1) lN (by kernel_rfl) (aG ay 1) ?_;have HD8:Hid (BL w1 (w1.drewN 1)):=hid (aG ay 1);have HH8:Hid ((w1.drewN 1).heap=w1.heap):=hid rfl;generalize w1.drewN 1=w8 at*
 iterate 10 refine eB ?_
 refine aT ?_;try simp only[iW,iX]
 clear adR Co Cp hqu;obtain⟨⟨xb,hcc⟩,Ai⟩:=HGk.out w8 HH8.out;go_upto_region 2 with fail;obtain⟨w2,hw2⟩:=aV (w8.setCell ⟨gk,i,none⟩ (.bool false));rw[<-hw2];have qt:Hid (aS (fun b o=>(B1<=b/\b<M)/\¬book o) B1 w w2):=hid (by rw[hw2];exact TD.out w8 HH8.out HD8.out);have AL:Hid (mz (fun b=>B1<=b/\b<B2) w2 (.slice (some ⟨gs,0,none⟩) sd.length sd.length) sd):=hid (by rw[hw2];exact Zl.out w8 HH8.out);have vF:Hid (∀b,b≠gk->b<w.heap.size->w2.heap[b]?=w.heap[b]?):=hid (fun b h1 h2=>by rw[hw2];exact(nZ _ _ _ _ h1).trans (by rw[HH8.out];exact bf.out.block _ h2));have Rn:Hid (w2.heap[B2+1]?=some (.cells #[.slice ar rs.length cr,.slice aw W.length cw,.slice (some ⟨gs,0,none⟩) s.length s.length,.map (some B2)] 171 (0,0))):=hid ((vF.out _ aC Ah).trans (zG.out w ay));have uG:Hid (w2.heap[w.heap.size]?=some (.cells #[.int .i64 (k:Int),.int .i64 (i:Int)] 146 (0,0))):=hid (by rw[hw2];exact(nZ _ _ _ _ (show w.heap.size≠gk by omega)).trans (by rw[HH8.out];exact LZ.out));have Dm:Hid (EZ (fun b=>B0<=b/\b<B1) w2 (.slice ar rs.length cr) rs):=hid (dO.keep dN HRv.out (fun b hb hlt=>vF.out b (by have:=hb.2;omega) hlt));have HW2:Hid (cZ (·<B0) w2 (.slice aw W.length cw) W):=hid (HWv.out.keep (fun b (hb:b<B0) hlt=>vF.out b aC hlt));have wR:Hid (nL w2 B2 bs):=hid (HOv.out.keep (vF.out _ aC HOv.out.lt));have NG:Hid (∀q (h:q<bs.length) (h2:q<rs.length),dK w2 bs[q] n (jY W s rs[q])):=hid (fun q h h2=>(HCv.out q h h2).keep (vF.out _ (by have:=(K9.out _ (gY h)).1;omega) (HCv.out q h h2).lt));clear hw2 hcc Ai HD8 HH8 TD Zl YU HGk;obtain⟨⟨x0,x1,x2,x3⟩, -⟩:=aW Rn.out;go_wp2;clear x0 x1 x2 x3;go_loopw [22] (fun jj wr=>∃j:Nat,j<=rs.length/\jj=.int .i64 j/\Hid (Turns (·∈bs) w2 wr)/\Hid (aS (fun b o=>(B1<=b/\b<M)/\¬book o) B1 w wr)/\Hid (∀q (h:q<bs.length) (h2:q<rs.length),q<j->dK wr bs[q] (n+1) (jY W sd rs[q]))/\Hid (∀q (h:q<bs.length) (h2:q<rs.length),j<=q->dK wr bs[q] n (jY W s rs[q]))) (fun jj _=>rs.length-(intOf jj).toNat);case atStart=>exact⟨0,Nat.zero_le _,rfl,hid (Turns.refl _ _),qt,hid (fun q h h2 h3=>absurd h3 aC),hid (fun q h h2 _=>NG.out q h h2)⟩
 case round=>
  obtain⟨j,hj,rfl,zU,agn,HDn,IJ⟩:=hrel;have YV:Hid (∀b,b<B2+2->b<w2.heap.size->wr.heap[b]?=w2.heap[b]?):=hid (fun b h1 h2=>zU.out.block b (fun hb=>by have:=(K9.out b hb).1;omega) h2);have Ky:Hid (EZ (fun b=>B0<=b/\b<B1) wr (.slice ar rs.length cr) rs):=hid (dO.keep dN Dm.out (fun b hb hlt=>YV.out b (by have:=hb.2;omega) hlt));have Xm:Hid (wr.heap[B2+1]?=some (.cells #[.slice ar rs.length cr,.slice aw W.length cw,.slice (some ⟨gs,0,none⟩) s.length s.length,.map (some B2)] 171 (0,0))):=hid ((YV.out _ aC (aj Rn.out)).trans Rn.out);have Zm:Hid (cZ (·<B0) wr (.slice aw W.length cw) W):=hid (HW2.out.keep (fun b (hb:b<B0) hlt=>YV.out b aC hlt));have HOr:Hid (nL wr B2 bs):=hid (wR.out.keep (YV.out _ aC wR.out.lt))
  have Oy:Hid (∀b∈bs,b<w.heap.size):=hid (fun b hb=>by
   obtain⟨q,hq,rfl⟩:=List.getElem_of_mem hb;exact(HCv.out q hq (by have:=JQ.out;omega)).lt)
  have L0:Hid (wr.heap[w.heap.size]?=some (.cells #[.int .i64 (k:Int),.int .i64 (i:Int)] 146 (0,0))):=hid ((zU.out.block _ (fun hb=>by have:=Oy.out _ hb;omega) (aj uG.out)).trans uG.out);have KR:w.heap.size<wr.heap.size:=aj L0.out;by_cases hlt:j<rs.length
  ·have hj0:(0:Int)<=(j:Int):=by omega
   have hj1:(j:Int)<(rs.length:Int):=by omega
   have hjb:j<bs.length:=by rw[JQ.out];exact hlt
   obtain⟨-,us,Nf,hcs,Y9⟩:=dO.at Ky.out hlt;obtain rfl:us=_:=Y9;have y0:wr.cell? ⟨bD ar,bJ ar+j*4,none⟩=some (.int .i64 (rs[j].kind:Int)):=hcs 0 _ rfl;have y1:wr.cell? ⟨bD ar,bJ ar+j*4+1,none⟩=some (.int .i64 (rs[j].field:Int)):=hcs 1 _ rfl;have y2:wr.cell? ⟨bD ar,bJ ar+j*4+2,none⟩=some (.int .i64 rs[j].up):=hcs 2 _ rfl;have y3:wr.cell? ⟨bD ar,bJ ar+j*4+3,none⟩=some (.int .i64 rs[j].least):=hcs 3 _ rfl;have hmem:rs[j]∈rs:=gY hlt;obtain⟨q1,q2,q3,q4,q5,q6, -, -⟩:=Xj.out _ hmem;have HLj:=hid (xS.out _ hmem);have XD:Hid (∀(h:j<rs.length),rs[j]=rs[j]):=hid (fun _=>rfl);have HCj:=hid (IJ.out j hjb hlt aH);have agp:=K9.out _ (gY hjb);have hbjw:=Oy.out _ (gY hjb);have HNj:Hid (∀q (h:q<bs.length),q≠j->bs[q]≠bs[j]):=hid (fun q h hne e=>hne ((List.getElem_inj HNd.out).1 e));obtain⟨rf,hrf⟩:=aV (rs[j]);obtain⟨bj,hbj⟩:=aV (bs[j])
   have abx:Hid (∀V,(∀q (h:q<bs.length),q≠j->V.heap[bs[q]]?=wr.heap[bs[q]]?)->dK V bj (n+1) (jY W sd rf)->
     (∀q (h:q<bs.length) (h2:q<rs.length),q<j+1->dK V bs[q] (n+1) (jY W sd rs[q]))/\∀q (h:q<bs.length) (h2:q<rs.length),j+1<=q->dK V bs[q] n (jY W s rs[q])):=hid (fun V hV hc=>by
    refine⟨fun q h h2 h3=>?_,fun q h h2 h3=>(IJ.out q h h2 aC).keep (hV q h aC)⟩;by_cases e:q=j
    ·subst e
     rw[hbj,hrf] at hc;exact hc
    ·exact(HDn.out q h h2 aC).keep (hV q h e))
   have HNj2:Hid (∀q (h:q<bs.length),q≠j->bs[q]≠bj):=hid (by rw[hbj];exact HNj.out);have hol:=HOr.out.look hjb aC;have HLo:Hid (∀V:World,V.heap[B2]?=wr.heap[B2]?->(Instr.lookup 169 (.map (some B2)) (.int .i64 (j:Int)) false).run Tryz.prog V=.ok (.map (some bj)) V):=hid (fun V hV=>by rw[hbj];exact(HOr.out.keep hV).look hjb aC);rw[<-hrf] at y0 y1 y2 y3 q1 q2 q3 q4 q5 q6 HLj HCj;rw[<-hbj] at HCj agp hbjw;have HRfj:=hid hrf;have HBj:=hid hbj;clear hcs Nf hmem hrf hbj hol XD HNj;obtain⟨rk,rj,ru,rl⟩:=rf;simp only at y0 y1 y2 y3 q1 q2 q3 q4 q5 q6;obtain⟨m,rfl⟩:∃m:Nat,ru=(m:Int):=⟨ru.toNat,by omega⟩;obtain⟨w5,hw⟩:=aV (wr.alloc (.cells #[.int .i64 (rk:Int),.int .i64 (rj:Int),.int .i64 (m:Int),.int .i64 rl] 173));have B6:Hid (w5.heap[wr.heap.size]?=some (.cells #[.int .i64 (rk:Int),.int .i64 (rj:Int),.int .i64 (m:Int),.int .i64 rl] 173 (0,0))):=hid GN;have jQ:Hid (Below wr.heap.size wr w5):=hid XA;have WV:Hid (Turns (·∈bs) w2 w5):=hid (by rw[hw];exact zU.out.alloc _);have agq:Hid (aS (fun b o=>(B1<=b/\b<M)/\¬book o) B1 w w5):=hid (by rw[hw];exact agn.out.alloc hbw _);have I5:Hid (dK w5 bj n (jY W s ⟨rk,rj,(m:Int),rl⟩)):=hid (HCj.out.keep (jQ.out.block _ HCj.out.lt));have Rk:wr.heap.size<w5.heap.size:=aj B6.out;have AZ:=hid hw;clear hw;go_upto_region 5 with fail;rw[<-AZ.out];clear y0 y1 y2 y3;obtain⟨⟨y0,y1,y2,y3⟩, -⟩:=aW B6.out;obtain⟨⟨a0,a1⟩, -⟩:=qH ((jQ.out.block _ KR).trans L0.out);by_cases hkk:rk=k
   ·subst hkk
    have Du:Hid (∀V,Turns (·=bj) w5 V->aB (·<B0) w5 V):=hid (fun V hV b (hb:b<B0) hlt=>hV.block b (show ¬b=bj by omega) hlt);obtain⟨uk,Cq,M4⟩:=(Zm.out.keep (w':=w5) (fun b (hb:b<B0) hlt=>jQ.out.block b hlt)).rA hk;obtain⟨ua,uc,rfl,hsu, -, -⟩:=Cq.form;obtain⟨ui,Cr,hui⟩:=Cq.rA hi;obtain⟨ia,ic,rfl,hsi, -, -⟩:=Cr.form;have Yf:rj<W[rk][i].length:=by rw[Vg.out rk hk _ (gY hi)];exact q2
    obtain⟨uv,huve,huv⟩:=Cr.rA Yf;obtain rfl:uv=_:=huve;have hat:aR.nV W rk i rj=W[rk][i][rj]:=Ga hk hi Yf
    have Qh:Hid (tN (W[rk][i][rj])):=hid (by
     have h1:0<=aR.nV W rk i rj/\aR.nV W rk i rj<ah.fW W (m:Int):=HLj.out i hk hi
     rw[hat] at h1
     have h2:=wZ W (m:Int)
     exact⟨by omega,by omega⟩)
    have Qg:Hid (tN (m:Int)):=hid ⟨by omega,by omega⟩;have YU:=hid (fun V (hV:Turns (·=bj) w5 V)=>M4 V (Du.out V hV));have HUi:=hid (fun V (hV:Turns (·=bj) w5 V)=>hui V (Du.out V hV));have HUv:=hid (fun V (hV:Turns (·=bj) w5 V)=>huv V (Du.out V hV))
    have Rt:Hid (jY W sd ⟨rk,rj,(m:Int),rl⟩=wV (jY W s ⟨rk,rj,(m:Int),rl⟩) (m:Int) (W[rk][i][rj]) (jY W s ⟨rk,rj,(m:Int),rl⟩ (m:Int) (W[rk][i][rj])-1)):=hid (by
     rw[HSd.out,DY (r:=⟨rk,rj,(m:Int),rl⟩) rfl (by rw[Sub.aX hk];exact hi) Ap.out,hat])
    have hj2:(0:Int)<=(rj:Int):=by omega
    have hj3:(rj:Int)<(W[rk][i].length:Int):=by omega
    have hfr:0<=jY W s ⟨rk,rj,(m:Int),rl⟩ (m:Int) (W[rk][i][rj])/\jY W s ⟨rk,rj,(m:Int),rl⟩ (m:Int) (W[rk][i][rj])<=(W.getD rk []).length:=Cc _ _ _ _ _ _;rw[Sub.aX hk] at hfr;have hw512:=Qe.out rk hk;obtain⟨F,hF⟩:=aV (jY W s ⟨rk,rj,(m:Int),rl⟩);rw[<-hF] at hfr Rt I5;clear hF Cq M4 Cr hui huv hat;generalize W[rk][i][rj]=v at*;clear Yf;generalize W[rk][i].length=ln at*;obtain⟨fc,hfc⟩:=aV (F (m:Int) v);rw[<-hfc] at Rt hfr;have hf0:=hfr.1;have hf1:fc<=512:=by omega
    have HFc:=hid hfc;have agr:¬B2+1=bj:=by omega
    have adh:¬wr.heap.size=bj:=by omega
    have ags:¬w.heap.size=bj:=by omega
    have hne4:¬B2=bj:=by omega
    have HX5:Hid (w5.heap[B2+1]?=some (.cells #[.slice ar rs.length cr,.slice aw W.length cw,.slice (some ⟨gs,0,none⟩) s.length s.length,.map (some B2)] 171 (0,0))):=hid ((jQ.out.block _ (aj Xm.out)).trans Xm.out);have Zo:Hid (w5.heap[w.heap.size]?=some (.cells #[.int .i64 (rk:Int),.int .i64 (i:Int)] 146 (0,0))):=hid ((jQ.out.block _ KR).trans L0.out);have U4:Hid (∀V,Turns (·=bj) w5 V->V.heap[B2]?=wr.heap[B2]?):=hid (fun V hV=>(hV.block B2 hne4 (by have:=HOr.out.lt;omega)).trans (jQ.out.block _ HOr.out.lt));clear hfr hfc;go_upto_region 6 with fail;clear y0 y1 y2 y3 a0 a1;have Vo:∀xh:Held (fun V=>Turns (·=bj) w5 V/\dK V bj (n+1) F),xh.1.cell? ⟨B2+1,1,none⟩=some (.slice aw W.length cw):=fun xh=>(aW ((xh.2.1.block _ agr (aj HX5.out)).trans HX5.out)).1.2.1;have adS:∀xh:Held (fun V=>Turns (·=bj) w5 V/\dK V bj (n+1) F),xh.1.cell? ⟨B2+1,3,none⟩=some (.map (some B2)):=fun xh=>(aW ((xh.2.1.block _ agr (aj HX5.out)).trans HX5.out)).1.2.2.2;have kL:∀xh:Held (fun V=>Turns (·=bj) w5 V/\dK V bj (n+1) F),xh.1.cell? ⟨wr.heap.size,1,none⟩=some (.int .i64 (rj:Int)):=fun xh=>(aW ((xh.2.1.block _ adh (aj B6.out)).trans B6.out)).1.2.1;have l9:∀xh:Held (fun V=>Turns (·=bj) w5 V/\dK V bj (n+1) F),xh.1.cell? ⟨wr.heap.size,2,none⟩=some (.int .i64 (m:Int)):=fun xh=>(aW ((xh.2.1.block _ adh (aj B6.out)).trans B6.out)).1.2.2.1;have Co:∀xh:Held (fun V=>Turns (·=bj) w5 V/\dK V bj (n+1) F),xh.1.cell? ⟨w.heap.size,0,none⟩=some (.int .i64 (rk:Int)):=fun xh=>(qH ((xh.2.1.block _ ags (aj Zo.out)).trans Zo.out)).1.1;have Cp:∀xh:Held (fun V=>Turns (·=bj) w5 V/\dK V bj (n+1) F),xh.1.cell? ⟨w.heap.size,1,none⟩=some (.int .i64 (i:Int)):=fun xh=>(qH ((xh.2.1.block _ ags (aj Zo.out)).trans Zo.out)).1.2;have hquk:∀xh:Held (fun V=>Turns (·=bj) w5 V/\dK V bj (n+1) F),xh.1.cell? ⟨bD aw,bJ aw+rk,none⟩=some (.slice ua W[rk].length uc):=fun xh=>YU.out xh.1 xh.2.1;have hqui:∀xh:Held (fun V=>Turns (·=bj) w5 V/\dK V bj (n+1) F),xh.1.cell? ⟨bD ua,bJ ua+i,none⟩=some (.slice ia ln ic):=fun xh=>HUi.out xh.1 xh.2.1;have hquv:∀xh:Held (fun V=>Turns (·=bj) w5 V/\dK V bj (n+1) F),xh.1.cell? ⟨bD ia,bJ ia+rj,none⟩=some (.int .i64 v):=fun xh=>HUv.out xh.1 xh.2.1;have hql:∀xh:Held (fun V=>Turns (·=bj) w5 V/\dK V bj (n+1) F),(Instr.lookup 169 (.map (some B2)) (.int .i64 (j:Int)) false).run Tryz.prog xh.1=.ok (.map (some bj)) xh.1:=fun xh=>HLo.out xh.1 (U4.out xh.1 xh.2.1)
    have hqk:∀xh:Held (fun V=>Turns (·=bj) w5 V/\dK V bj (n+1) F),(Instr.lookup 174 (.map (some bj)) (.agg #[.int .i64 (m:Int),.int .i64 v]) false).run Tryz.prog xh.1=.ok (.int .i64 fc) xh.1:=fun xh=>by
     rw[HFc.out];exact xh.2.2.look Qg.out Qh.out
    refine dU 29 (.quiet 0 (.quiet 1 (.quiet 2 (.quiet 3 (.quiet 4 (.quiet 5 (.quiet 6 (.quiet 7 (.quiet 8 (.quiet 9 (.quiet 10 (.quiet 11 (.quiet 12 (.quiet 13 (.quiet 14 (.quiet 15 (.quiet 16 (.quiet 17 (.quiet 18 (.quiet 19 (.quiet 20 (.quiet 21 (.quiet 22 (.quiet 23 (.quiet 24 (.quiet 25 (.quiet 26 (.one 27 (.quiet 28 .done))))))))))))))))))))))))))))) (fun V=>Turns (·=bj) w5 V/\dK V bj (n+1) F) lN (by kernel_rfl) ⟨Turns.aQ (aG ay 1),I5.out.mono aC⟩ ?_;have F6:Hid (Turns (·=bj) w5 (w5.drewN 1)):=hid (Turns.aQ (aG ay 1));have wS:Hid (dK (w5.drewN 1) bj n F):=hid (I5.out.keep rfl);generalize w5.drewN 1=w8 at*;obtain⟨v0,st,w9,adP,hC9,hT9,hst⟩:=wS.out.entry aC Qg.out Qh.out;unfold rA at adP;have Vh:tN (fc-1):=⟨by omega,by omega⟩;obtain⟨oh,Vi,Vj,Vk⟩:=hst w9 (fc-1) Vh rfl;have agj:(Instr.entryStore 174 (.map (some bj)) (.int .i64 (st:Int)) (.int .i64 (fc-1))).run Tryz.prog w9=.ok () oh:=Vi;have GF:Hid (Turns (·=bj) w5 w9):=hid (F6.out.trans hT9);have HC9:=hid hC9;have Gb:Hid (Turns (·=bj) w5 oh):=hid (GF.out.trans Vk);have Ba:Hid (dK oh bj (n+1) (jY W sd ⟨rk,rj,(m:Int),rl⟩)):=hid (by rw[Rt.out];exact Vj);clear hC9 hT9 hst Vj Vk Vh Vi
    iterate 27 refine eB ?_
    refine aM rfl ?_;go_wp2_with fail;refine aD (fun V=>Turns (·=bj) w5 V/\dK V bj (n+1) F) (fun _ h=>h) ⟨GF.out,HC9.out⟩ ?_;refine eB ?_;refine aT ?_;try simp only[iW,iX]
    clear Vo adS kL l9 Co Cp hquk hqui hquv hql hqk;have agt:Hid (Turns (·∈bs) w2 oh):=hid (WV.out.trans (Gb.out.mono (fun b _ (e:b=bj)=>by rw[e,HBj.out];exact gY hjb)))
    have agu:Hid (aS (fun b o=>(B1<=b/\b<M)/\¬book o) B1 w oh):=hid (agq.out.trans (aS.eG Gb.out aC (fun b (e:b=bj)=>by omega) (fun b o (e:b=bj) ho=>by
     subst e;exact⟨⟨by omega,agp.2⟩,I5.out.obj ho⟩)))
    have yV:=hid (abx.out oh (fun q h hne=>(Gb.out.block _ (HNj2.out q h hne) ace).trans (jQ.out.block _ ace)) Ba.out);go_wp2;go_roundw;case rel=>exact⟨j+1,by omega,by go_num,agt,agu,hid yV.out.1,hid yV.out.2⟩
    simp[intOf];omega
   ·have hkk2:¬(rk:Int)=(k:Int):=by omega
    have yV:=hid (abx.out w5 (fun q h hne=>jQ.out.block _ ace) (by
     rw[HSd.out,Gd (r:=⟨rk,rj,(m:Int),rl⟩) hkk]
     exact I5.out.mono aC))
    go_wp2;go_roundw;case rel=>exact⟨j+1,by omega,by go_num,WV,agq,hid yV.out.1,hid yV.out.2⟩
    simp[intOf];omega
  ·obtain rfl:rs.length=j:=by omega
   have HF:Hid (Aw B0 B1 B2 M (n+1) rs W sd wr):=hid ⟨Zj,Au,hb2m,⟨ar,cr,aw,cw,gs,by rw[HSdl.out];exact Xm.out,Ky.out,Zm.out,dP.keep AL.out (fun b hb hlt=>YV.out b (by have:=hb.2;omega) hlt)⟩,
    ⟨bs,HOr.out,JQ.out,HNd.out,K9.out,fun q h h2=>HDn.out q h h2 h2⟩⟩
   go_wp2;go_end0;exact⟨⟨_,rfl⟩,HF.out,agn.out⟩
namespace Sub
def nO(W:S->Nat->Nat->Bool):List (Nat×Nat)->S->Bool
 |[],_=>false
 |x::l,s=>W s x.1 x.2||nO W l (if W s x.1 x.2 then drop s x.1 x.2 else s)
theorem E9(W:S->Nat->Nat->Bool)(x:Nat×Nat):∀(l:List (Nat×Nat)) (s:S),pass W (l++[x]) s=if W (pass W l s) x.1 x.2 then drop (pass W l s) x.1 x.2 else pass W l s
 |[],s=>rfl
 |y::l,s=>by
  show pass W (l++[x]) _=_
  rw[E9 W x l];rfl
theorem Ct(W:S->Nat->Nat->Bool)(x:Nat×Nat):∀(l:List (Nat×Nat)) (s:S),nO W (l++[x]) s=(nO W l s||W (pass W l s) x.1 x.2)
 |[],s=>by simp[nO,pass]
 |y::l,s=>by
  show (W s y.1 y.2||nO W (l++[x]) _)=_
  rw[Ct W x l,<-Bool.or_assoc];rfl
theorem Jg{W:S->Nat->Nat->Bool}:∀{l:List (Nat×Nat)} {s:S},nO W l s=false->pass W l s=s
 |[],_,_=>rfl
 |x::l,s,h=>by
  unfold nO at h;rw[Bool.or_eq_false_iff] at h;obtain⟨h1,h2⟩:=h;unfold pass;rw[h1] at h2 ⊢;exact Jg h2
theorem Fa{W:S->Nat->Nat->Bool}:∀{l:List (Nat×Nat)} {s:S},(∀x∈l,keeps s x.1 x.2=true)->nO W l s=true->pass W l s≠s
 |[],_,_,h=>by cases h
 |x::l,s,hk,h=>by
  intro e;unfold nO at h;unfold pass at e;cases hw:W s x.1 x.2
  ·rw[hw] at h e
   exact Fa (fun y hy=>hk y (by simp[hy])) uO e
  ·rw[hw] at e
   have h1:=mM (W:=W) l (drop s x.1 x.2);rw[if_pos rfl] at e;rw[e] at h1;have:=h1 x.1 x.2 (hk x aZ);rw[iG] at this;simp at this
theorem Cu{W:S->Nat->Nat->Bool}{k i:Nat}:∀{l:List (Nat×Nat)} {s:S},(k,i)∉l->keeps s k i=true->keeps (pass W l s) k i=true
 |[],_,_,h=>h
 |x::l,s,hn,h=>by
  unfold pass;refine Cu (fun hm=>hn (by simp[hm])) ?_;split
  ·rw[iG,h]
   have:¬(k=x.1/\i=x.2):=fun e=>hn (by rw[e.1,e.2];simp);simp only[Bool.true_and,Bool.not_eq_true',Bool.and_eq_false_iff,decide_eq_false_iff_not];omega
  ·exact h
theorem size_drop{s:S}{k i:Nat}(h:keeps s k i=true):size (drop s k i)<size s:=FQ (FP s k i) h (by rw[iG];simp)
end Sub
theorem nQ{W:ah.cG}{t:Sub.S}(h:Sub.Fit (aR.shape W) t):Sub.size t<=ah.total W:=by
 unfold Sub.size Sub.kept;rw[List.length_flatMap,aR.zS];have hl:t.length=W.length:=by have:=h.1;rw[aR.tO] at this;exact this
 rw[hl];refine aR.Cg fun k _=>?_;have h2:=h.2 k;rw[aR.nM] at h2;rw[<-h2];unfold Sub.wC;exact Nat.le_trans (List.length_filterMap_le _ _) aZ
attribute [local go_sem] Oper.semAt_some
theorem Vp(N:Nat)(t:Array Value)(h:t.size=N):∃u:Nat->Value,t=((List.range N).map u).toArray:=by
 refine⟨fun i=>t.getD i undef,?_⟩;apply Array.ext
 ·simp[h]
 ·intro i h1 h2
  simp at h2;simp[Array.getD,h1]
theorem Zp:List.range 24=[0,1,2,3,4,5,6,7,8,9,10,11,12,13,14,15,16,17,18,19,20,21,22,23]:=by decide
structure GrI(B0 B1 B2 M N w0 bt:Nat)(rs:List aR.Ref)(W:ah.cG)(s0 s:Sub.S)(bb:Bool)(ds:List Deferred)(w X:World):Prop where
 lt:w0<bt
 fit:Sub.Fit (aR.shape W) s
 size:Sub.size s<=Sub.size s0
 same:Sub.great (aR.wrong rs W) s=Sub.great (aR.wrong rs W) s0
 done:bb=false->Sub.great (aR.wrong rs W) s=s
 st:Aw B0 B1 B2 M (N-Sub.size s) rs W s X
 ptr:X.heap[w0]?=some (.cells #[.pointer (some ⟨B2+1,0,none⟩)] 126 (0,0))
 again:X.heap[bt]?=some (.cells #[.bool bb] 4 (0,0))
 below:Below B1 w X
 marks:Marks w0 X.heap.size ds X
theorem xu(x:ah.bF)(W:ah.cG)(s:Sub.S)(hfw:aR.sF x W)(hfit:Sub.Fit (aR.shape W) s)(B0 B1 B2 M n:Nat)(hn:n<=1000)(w:World)(hM:M<=w.heap.size)(h:Aw B0 B1 B2 M n (aR.cN x) W s w):
  Calls Tryz.prog 46 #[.pointer (some ⟨B2+1,0,none⟩)] w fun e w'=>∃g,e=.returned (.slice (some ⟨g,0,none⟩) W.length W.length)/\mz (fun b=>B1<=b/\b<B2) w' (.slice (some ⟨g,0,none⟩) W.length W.length) (Sub.great (aR.wrong (aR.cN x) W) s)/\Below B1 w w':=by
 have Aj:=hfw.tot;have tY:=hid hfw
 have adU:∀t:Sub.S,Sub.Fit (aR.shape W) t->Sub.size t<=512:=fun t ht=>by
  have:=nQ ht;omega
 obtain⟨rs,Qf⟩:=aV (aR.cN x);rw[<-Qf] at h ⊢;have Au:B1<=w.heap.size:=by have:=h.b12;have:=h.Xn;omega
 have hb2M:=h.Xn;have hb12':=h.b12;obtain⟨w1,hw1⟩:=aV ((w.alloc (.cells #[.pointer (some ⟨B2+1,0,none⟩)] 126)).alloc (.cells #[.bool true] 4));have hb1:BL w w1:=by rw[hw1];exact(ay.alloc aH _).alloc aZ _
 obtain⟨N,hN⟩:=aV (n+Sub.size s);have hss:=adU s hfit
 have H0:Hid (GrI B0 B1 B2 M N w.heap.size (w.heap.size+1) rs W s s true [] w w1):=hid {
  lt:=by omega
  fit:=hfit
  size:=aH
  same:=rfl
  done:=fun h=>by cases h
  st:=(h.sR (fun b hb hlt=>hb1.block b hlt)).mono aC
  ptr:=by rw[hw1];exact aY _ (aP _ _ rfl)
  again:=by rw[hw1];exact aP _ _ aZ
  below:=hb1.mono Au
  marks:=Marks.nil _ _ _}
 have hN2:N<=1512:=by omega
 have hN3:Sub.size s<=N:=by omega
 have HW1:=hid hw1;have IJ:=hid Qf;have DM:=hid hfit;clear h hfit hw1 hb1 hfw hN hss Qf;rw[<-callsIn_wide (n:=5)];refine callsIn_of_wp_marks Tryz.func46 rfl trivial ?_ rfl;simp only[Tryz.ntmps46,List.size_toArray,List.length_cons,List.length_nil,Nat.reduceAdd,Nat.reduceSub,Array.replicate_succ,Array.replicate_zero,List.push_toArray,List.append_toArray,List.nil_append,List.cons_append];rw[wpIn_wide];go_wp2;rw[<-HW1.out];refine wp_loop_ghost_k (fun kk a X=>a.tmps.size=24/\a.tmps.getD 1 undef=.pointer (some ⟨w.heap.size,0,none⟩)/\∃(bt:Nat) (bb:Bool) (s':Sub.S),a.tmps.getD 3 undef=.pointer (some ⟨bt,0,none⟩)/\kk=(if bb=true then Sub.size s'+1 else 0)/\GrI B0 B1 B2 M N w.heap.size bt rs W s s' bb a.defers w X) (Sub.size s+1) ?h0 ?adV;case h0=>exact⟨rfl,rfl,w.heap.size+1,true,s,rfl,rfl,H0.out⟩
 case adV=>
  rintro kk ⟨t,ds⟩ X ⟨hts,h1,bt,bb,s',h3,hkk,hG⟩ J K hJ hK;obtain⟨uu,rfl⟩:=Vp 24 t hts;simp only[Zp,List.map_cons,List.map_nil] at h1 h3 ⊢;rw[show uu 1=_ from h1,show uu 3=_ from h3];have HG:=hid hG;have HJ:=hid hJ;have HK:=hid hK;clear h1 h3 hts hG;have c3:=(one_cell HG.out.again).1;have c3f:=(one_cell HG.out.again).2;have c1:=(one_cell HG.out.ptr).1;obtain⟨ar,cr,aw,cw,gs,xk, -, -,hsf⟩:=HG.out.st.box;have hsl:s'.length=W.length:=by have:=HG.out.fit.1;rw[aR.tO] at this;exact this
  have NP:=hid hsl;clear hsl;cases bb with
  |false=>
   obtain⟨⟨x0,x1,x2,x3⟩, -⟩:=aW xk
   have HEnd:Hid (∀w',aS (bH w.heap.size) w.heap.size X w'->mz (fun b=>B1<=b/\b<B2) w' (.slice (some ⟨gs,0,none⟩) W.length W.length) (Sub.great (aR.wrong rs W) s)/\Below B1 w w'):=hid (fun w' ht=>⟨by
    rw[<-HG.out.same,HG.out.done rfl,<-NP.out]
    exact dP.keep hsf (aB.aQ ht.1 (fun b hb=>by have:=hb.2;omega)),HG.out.below.trans (ht.1.mono Au)⟩)
   clear xk hsf HJ HK
   go_wp2
   refine jt (v:=.slice (some ⟨gs,0,none⟩) s'.length s'.length) HG.out.marks (fun w' ht=>⟨?_,?_⟩)
   ·simp[results,Tryz.results46,go_sem]
   ·obtain⟨k1,k2⟩:=HEnd.out w' ht
    exact⟨gs,by rw[NP.out],k1,k2⟩
  |true=>
   obtain⟨X1,hX1⟩:=aV (X.setCell ⟨bt,0,none⟩ (.bool false))
   have Dc:Hid (aS (fun b o=>b=bt/\¬book o) B1 X X1):=hid (by
    rw[hX1]
    exact(aS.refl _ _ _).setCell (p:=⟨bt,0,none⟩) HG.out.again ⟨rfl,by simp[book]⟩ (by have:=HG.out.lt;show B1<=bt;omega) _)
   have xZ:Hid (Aw B0 B1 B2 M (N-Sub.size s') rs W s' X1):=hid (by
    rw[hX1]
    exact HG.out.st.sR (fun b (hb:b<M) hlt=>nZ _ _ _ _ (by have:=HG.out.lt;show b≠bt;omega)))
   have Vq:Hid (X1.heap[w.heap.size]?=some (.cells #[.pointer (some ⟨B2+1,0,none⟩)] 126 (0,0))):=hid (by
    rw[hX1]
    exact(nZ _ _ _ _ (by have:=HG.out.lt;show w.heap.size≠bt;omega)).trans HG.out.ptr)
   have LZ:Hid (X1.heap[bt]?=some (.cells #[.bool false] 4 (0,0))):=hid (by rw[hX1];exact one_set _ HG.out.again)
   have hXs:bt<X1.heap.size:=aj LZ.out
   have hwX:w.heap.size<bt:=HG.out.lt
   have zG:=hid hX1
   clear hX1 xk hsf
   obtain⟨ar,cr,aw,cw,gs1,xk, -, -,hsf⟩:=xZ.out.box
   have HCp:=hid (zR s' (by rw[NP.out,tY.out.len];have:=tY.out.ai;omega) (fun r hr=>by
    obtain⟨j,hj,rfl⟩:=List.getElem_of_mem hr;have h2:=HG.out.fit.2 j;rw[Sub.aX hj,aR.nM] at h2;have h3:j<W.length:=by rw[<-NP.out];exact hj
    unfold aR.bV at h2;rw[Sub.aX h3] at h2;have:=iI h3;omega) _ _ X1 (mz.sl hsf))
   go_upto_region 4 with fail
   rw[<-zG.out]
   clear c1 c3 c3f
   have c1:=(one_cell Vq.out).1
   obtain⟨⟨x0,x1,x2,x3⟩, -⟩:=aW xk
   clear xk hsf
   go_wp2_with fail
   refine HCp.out.mono ?_
   rintro e X2 ⟨g2,rfl,agv,hb2⟩
   have bK:=hid hb2
   have Zl:=hid (dP.mono (S':=fun b=>X1.heap.size<=b/\b<X2.heap.size) agv (fun b hlt hb=>⟨hb,hlt⟩))
   clear agv hb2 HCp x0 x1 x2 x3 c1
   go_wp2_with fail
   refine(sP _ _ _ _).mono ?_
   rintro e X3 ⟨rfl,hX3⟩
   have hb3:BL X2 X3:=by rw[hX3];exact ay.alloc aH _
   have adW:X3.heap[X2.heap.size]?=some (.cells #[.slice (some ⟨g2,0,none⟩) s'.length s'.length] 61 (0,0)):=by rw[hX3];exact aP _ _ rfl
   have hz2:=bK.out.size
   have Eo:=aj adW
   have bZ:Hid (BL X1 X3):=hid (bK.out.trans (hb3.mono hz2))
   have HSV3:Hid (cQ (fun b=>X1.heap.size<=b/\b<X2.heap.size) X3 (.slice (some ⟨g2,0,none⟩) s'.length s'.length) s'):=hid (mz.sl (dP.keep Zl.out (aB.aQ hb3 (fun b hb=>hb.2))))
   have Jh:Hid (sN (α:=Nat×Nat) Tryz.prog B1 X3.heap.size 86 #[.pointer (some ⟨X2.heap.size,0,none⟩)] (fun x=> #[.agg #[.int .i64 (x.1:Int),.int .i64 (x.2:Int)]]) (fun pre x _=>pre++[x]<+:Sub.kept s') (fun b o=>((B1<=b/\b<M)\/b=bt)/\¬book o) (fun _ _=>False) (fun xs _=>xs=Sub.kept s') X3):=
    hid (pU s' B1 X3.heap.size X2.heap.size _ (fun b=>X1.heap.size<=b/\b<X2.heap.size) _ X3 aC HSV3.out adW (fun o h=>by rcases h.1 with h|h<;>omega) (fun Y ht b hb hlt=>by
     have ho:X3.heap[b]?=some X3.heap[b]:=Array.getElem?_eq_getElem hlt;rw[ho];refine ht.2 b _ ho ?_;rintro (h|h)
     ·rcases h.1 with h|h<;>omega
     ·have:=h.1;omega))
   have uD:Hid (∀b o,X1.heap[b]?=some o->X3.heap[b]?=some o):=hid (fun b o h=>(bZ.out.block b (aj h)).trans h)
   have Q8:Hid (Aw B0 B1 B2 M (N-Sub.size s') rs W s' X3):=hid (xZ.out.sR (fun b hb hlt=>bZ.out.block b hlt))
   clear hX3 hb3 adW
   go_wp2
   rw[<-wpIn_wide (n:=5)]
   refine l7 (α:=Nat×Nat) (n0:=B1) (gf:=86) rfl (bE Tryz.func86 (by kernel_rfl) rfl) (fun _=>rfl) Jh.out aC (fun _ _ h=>h.elim) (fun _ _ h=>h.2)
    (fun pre Y=>aS (fun b o=>(((B1<=b/\b<M)\/b=bt)/\¬book o)\/bH X3.heap.size b o) B1 X3 Y/\Aw B0 B1 B2 M (N-Sub.size (Sub.pass (aR.wrong rs W) pre s')) rs W (Sub.pass (aR.wrong rs W) pre s') Y/\
     Y.heap[bt]?=some (.cells #[.bool (Sub.nO (aR.wrong rs W) pre s')] 4 (0,0))) (fun _ _=>False)
    (fun pre A B h ht=> ?hI) (fun _ _ _ h _=>h) (fun _ _ _ h _=>h) ?hstart ?lm ?hdone ?hstop
   case hI=>
    have ht':=ht.mono (A':=bH X3.heap.size) (fun b o h=>h.elim False.elim id);exact⟨h.1.trans (ht.mono (fun b o h=>h.elim False.elim .inr)),h.2.1.sR (ht'.abw (fun b o hb ho=>by have:=ho.1;omega)),ht'.2 _ _ h.2.2 Ac⟩
   case hstart=>exact⟨aS.refl _ _ _,Q8.out,uD.out _ _ LZ.out⟩
   case lm=>
    rintro l pre y Y hlr hI L5;obtain⟨k,i⟩:=y;simp only[List.zip_toArray,List.zip_cons_cons,List.zip_nil_left];have hsY:=hI.1.1.size;gi_wp2;refine⟨(aS.refl _ _ _).alloc aC _,fun Y2 ht2 hs2 hl2=>?_⟩;obtain⟨cur,hcur⟩:=aV (Sub.pass (aR.wrong rs W) pre s');obtain⟨pb,hpb⟩:=aV (Sub.nO (aR.wrong rs W) pre s');obtain⟨hI1,xM,J7⟩:=hI;rw[<-hcur] at xM;rw[<-hpb] at J7;have vF:Hid (∀b o,Y.heap[b]?=some o->¬book o->Y2.heap[b]?=some o):=hid (fun b o h hb=>ht2.2 _ _ (aY _ h) (fun h2=>hb h2.2));have nF:Hid (Y2.heap[Y.heap.size]?=some (.cells #[.int .i64 (k:Int),.int .i64 (i:Int)] 146 (0,0))):=hid (ht2.2 _ _ (aP _ _ rfl) Ac)
    have HST:Hid (Aw B0 B1 B2 M (N-Sub.size cur) rs W cur Y2):=hid (xM.sR (fun b (hb:b<M) hlt=>by
     have e1:(Y.alloc (.cells #[.int .i64 (k:Int),.int .i64 (i:Int)] 146)).heap[b]?=Y.heap[b]?:=((Below.refl Y.heap.size Y).alloc aH _).block b hlt;have ho:Y.heap[b]?=some Y.heap[b]:=Array.getElem?_eq_getElem hlt;rw[ho] at e1 ⊢;exact ht2.2 _ _ e1 (fun h2=>by have:=h2.1;omega)))
    have Vr:Hid (Y2.heap[w.heap.size]?=some (.cells #[.pointer (some ⟨B2+1,0,none⟩)] 126 (0,0))):=hid (vF.out _ _ (hI1.2 _ _ (uD.out _ _ Vq.out) (by
     rintro (h|h)
     ·rcases h.1 with h|h<;>omega
     ·exact h.2)) (by simp[book]))
    have Xo:Hid (Y2.heap[bt]?=some (.cells #[.bool pb] 4 (0,0))):=hid (vF.out _ _ J7 (by simp[book]));have hmem:(k,i)∈Sub.kept s':=L5.subset aZ;have hkp:=Sub.dX.1 hmem;obtain⟨oL,Dv⟩:=aR.yF HG.out.fit hkp;have Ge:i<W[k].length:=by unfold aR.bV at Dv;rwa [Sub.aX oL] at Dv
    have hnd:(pre++[(k,i)]).Nodup:=L5.sublist.nodup (Sub.uX s');have hnot:(k,i)∉pre:=fun h=>(List.nodup_append.1 hnd).2.2 _ h (k,i) aZ rfl;have hkc:Sub.keeps cur k i=true:=by rw[hcur];exact Sub.Cu hnot hkp
    have hfc:Sub.Fit (aR.shape W) cur:=by rw[hcur];exact Sub.lW _ HG.out.fit
    have hsc:Sub.size cur<=Sub.size s':=by rw[hcur];exact Sub.size_le (Sub.mM _ _)
    have hsh:W.map List.length=cur.map List.length:=(aR.jJ hfc).symm
    have Zm:Hid (CB 73 #[.pointer (some ⟨B2+1,0,none⟩),.agg #[.int .i64 (k:Int),.int .i64 (i:Int)]] Y2 (.bool (aR.wrong rs W cur k i))):=hid (by
     have:=E8 x W cur tY.out hsh B0 B1 B2 (N-Sub.size cur) k i oL Ge Y2 (by rw[<-IJ.out];exact HST.out.toV)
     rw[<-IJ.out] at this
     exact this)
    have Rt:Hid (∀V,Aw B0 B1 B2 M (N-Sub.size cur) rs W cur V->CP 74 #[.pointer (some ⟨B2+1,0,none⟩),.agg #[.int .i64 (k:Int),.int .i64 (i:Int)]] V fun e w'=>(∃v,e=.returned v)/\Aw B0 B1 B2 M (N-Sub.size cur+1) rs W (Sub.drop cur k i) w'/\aS (fun b o=>(B1<=b/\b<M)/\¬book o) B1 V w'):=hid (fun V hV=>by
     have:=Jf x W cur tY.out hsh B0 B1 B2 M (N-Sub.size cur) aC k i oL Ge hkc V (by rw[<-IJ.out];exact hV);rw[<-IJ.out] at this;exact this)
    have HSn:Hid (Sub.pass (aR.wrong rs W) (pre++[(k,i)]) s'=if aR.wrong rs W cur k i then Sub.drop cur k i else cur):=hid (by rw[Sub.E9,hcur]);have Rq:Hid (Sub.nO (aR.wrong rs W) (pre++[(k,i)]) s'=(pb||aR.wrong rs W cur k i)):=hid (by rw[Sub.Ct,hcur,hpb]);have hsd:=Sub.size_drop hkc;have hss:=HG.out.size;have agw:Hid (aS (fun b o=>(((B1<=b/\b<M)\/b=bt)/\¬book o)\/bH X3.heap.size b o) B1 X3 Y2):=hid ((hI1.alloc aC _).trans (ht2.mono (fun b o h=>.inr h)));have IV:=aj nF.out;have hpt2:=aj Vr.out;have DH:=aj Xo.out;have c1:=(one_cell Vr.out).1;obtain⟨⟨a0,a1⟩, -⟩:=qH nF.out;have hNs:Sub.size cur<=N:=by omega
    clear hI1 xM J7 hcur hpb hmem hkp Dv hnd hnot hkc hfc hsc hsh hs2 ht2 L5;gi_wp2_with fail;refine⟨trivial,rfl,lI.2 (Zm.out.mono ?_)⟩;rintro e Y3 ⟨rfl,hb3⟩;have bZ:=hid hb3;have Eo:=hb3.size;clear c1 a0 a1 hb3;generalize aR.wrong rs W cur k i=bw at*;cases bw with
    |false=>
     have HQ:Hid (QS (fun b o=>((B1<=b/\b<M)\/b=bt)/\¬book o) B1 (fun pre Y=>aS (fun b o=>(((B1<=b/\b<M)\/b=bt)/\¬book o)\/bH X3.heap.size b o) B1 X3 Y/\Aw B0 B1 B2 M (N-Sub.size (Sub.pass (aR.wrong rs W) pre s')) rs W (Sub.pass (aR.wrong rs W) pre s') Y/\
       Y.heap[bt]?=some (.cells #[.bool (Sub.nO (aR.wrong rs W) pre s')] 4 (0,0))) (fun(_:List (Nat×Nat)) _=>False) (pre++[(k,i)]) Y2 .normal {tmps:=#[],defers:=[]} Y3):=hid (by
      refine⟨aS.aQ bZ.out aC,agw.out.trans (aS.aQ bZ.out aC),?_,?_⟩
      ·rw[HSn.out]
       exact HST.out.sR (fun b hb hlt=>bZ.out.block b hlt)
      ·rw[Rq.out,Bool.or_false]
       exact(bZ.out.block _ DH).trans Xo.out)
     clear HSn Rq
     gi_wp2
     exact HQ.out
    |true=>
     have agx:Aw B0 B1 B2 M (N-Sub.size cur) rs W cur Y3:=HST.out.sR (fun b hb hlt=>bZ.out.block b hlt)
     have YN:=hid (Rt.out Y3 agx)
     have c1:=(one_cell ((bZ.out.block _ hpt2).trans Vr.out)).1
     obtain⟨⟨a0,a1⟩, -⟩:=qH ((bZ.out.block _ IV).trans nF.out)
     clear agx
     gi_wp2_with fail
     refine⟨trivial,rfl,lI.2 (YN.out.mono ?_)⟩
     rintro e Y4 ⟨⟨v4,rfl⟩,agy,zq⟩
     have FY:Hid (Y4.heap[bt]?=some (.cells #[.bool pb] 4 (0,0))):=hid (zq.2 _ _ ((bZ.out.block _ DH).trans Xo.out) (fun h=>by have:=h.1;omega))
     have h4c:=(one_cell FY.out).1
     have h4f:=(one_cell FY.out).2
     have HQ:Hid (QS (fun b o=>((B1<=b/\b<M)\/b=bt)/\¬book o) B1 (fun pre Y=>aS (fun b o=>(((B1<=b/\b<M)\/b=bt)/\¬book o)\/bH X3.heap.size b o) B1 X3 Y/\Aw B0 B1 B2 M (N-Sub.size (Sub.pass (aR.wrong rs W) pre s')) rs W (Sub.pass (aR.wrong rs W) pre s') Y/\
       Y.heap[bt]?=some (.cells #[.bool (Sub.nO (aR.wrong rs W) pre s')] 4 (0,0))) (fun(_:List (Nat×Nat)) _=>False) (pre++[(k,i)]) Y2 .normal {tmps:=#[],defers:=[]} (Y4.setCell ⟨bt,0,none⟩ (.bool true))):=hid (by
      have t24:aS (fun b o=>((B1<=b/\b<M)\/b=bt)/\¬book o) B1 Y2 (Y4.setCell ⟨bt,0,none⟩ (.bool true)):=
       aS.setCell (p:=⟨bt,0,none⟩) ((aS.aQ bZ.out aC).trans (zq.mono (fun b o h=>⟨.inl h.1,h.2⟩))) FY.out ⟨.inr rfl,by simp[book]⟩ (by show B1<=bt;omega) _
      refine⟨t24,agw.out.trans (t24.mono (fun b o h=>.inl h)),?_,?_⟩
      ·rw[HSn.out]
       simp only[if_true];exact(agy.mono aC).sR (fun b (hb:b<M) hlt=>nZ _ _ _ _ (show b≠bt by omega))
      ·rw[Rq.out,Bool.or_true]
       exact one_set _ FY.out)
     clear HSn Rq agy zq c1 a0 a1
     gi_wp2
     exact HQ.out
   case hdone=>
    rintro D xs Y hD rfl hI hk;obtain⟨hI1,xM,J7⟩:=hI;have hsY:=hI1.1.size;obtain⟨cur,hcur⟩:=aV (Sub.pass (aR.wrong rs W) (Sub.kept s') s');obtain⟨pb,hpb⟩:=aV (Sub.nO (aR.wrong rs W) (Sub.kept s') s');rw[<-hcur] at xM;rw[<-hpb] at J7;have agz:∀x∈Sub.kept s',Sub.keeps s' x.1 x.2=true:=fun x hx=>by obtain⟨a,b⟩:=x;exact Sub.dX.1 hx
    have hgs:=Sub.KH (W:=aR.wrong rs W) HG.out.fit;rw[<-hcur] at hgs;have hcl:Sub.size cur<=Sub.size s':=by rw[hcur];exact Sub.size_le (Sub.mM _ _)
    have hne:pb=true->cur≠s':=fun h=>by rw[hcur];exact Sub.Fa agz (hpb.symm.trans h)
    have hno:pb=false->cur=s':=fun h=>by rw[hcur];exact Sub.Jg (hpb.symm.trans h)
    have hless:pb=true->Sub.size cur<Sub.size s':=fun h=>by
     have:=hne h;rw[hcur] at this ⊢;exact Sub.tJ HG.out.fit this
    have hgr:Sub.great (aR.wrong rs W) cur=Sub.great (aR.wrong rs W) s':=by
     by_cases e:cur=s'
     ·rw[e]
     ·rw[hgs,if_neg e]
    obtain⟨Y1,hY1⟩:=aV (Y.alloc (.cells #[.bool pb] 4));have hbY:BL Y Y1:=by rw[hY1];exact ay.alloc aH _
    have hpY:Y.heap[w.heap.size]?=some (.cells #[.pointer (some ⟨B2+1,0,none⟩)] 126 (0,0)):=hI1.2 _ _ (uD.out _ _ Vq.out) (by
     rintro (h|h)
     ·rcases h.1 with h|h<;>omega
     ·exact h.2)
    have He:Marks w.heap.size X3.heap.size ds X3:=by
     have h1:Marks w.heap.size X.heap.size ds X1:=Marks.turn (A:=fun b o=>b=bt/\¬book o) HG.out.marks Dc.out (fun b o _ h=>h.2);have h2:Marks w.heap.size X.heap.size ds X3:=Marks.turn (A:=fun _ _=>False) h1 (n1:=B1) ⟨bZ.out.mono aC,fun b o hb _=>uD.out b o hb⟩ (fun _ _ _ h=>h.elim);exact h2.mono (by have:=Dc.out.1.size;omega)
    have hmY:Marks w.heap.size X3.heap.size ds Y:=Marks.turn He hI1 (fun b o hb h hbk=>by
     rcases h with h|h
     ·exact h.2 hbk
     ·have:=h.1;omega)
    have hmD:=Marks.push hmY hD aC hk
    have HN:Hid (GrI B0 B1 B2 M N w.heap.size Y.heap.size rs W s cur pb ({target:=.collected D,args:=#[]}::ds) w Y1):=hid {
     lt:=by omega
     fit:=by rw[hcur];exact Sub.lW _ HG.out.fit
     size:=Nat.le_trans hcl HG.out.size
     same:=hgr.trans HG.out.same
     done:=fun h=>by
      have:=hno h;rw[this] at hgs ⊢;simpa using hgs
     st:=xM.sR (fun b hb hlt=>hbY.block b hlt)
     ptr:=(hbY.block _ (aj hpY)).trans hpY
     again:=by rw[hY1];exact aP _ _ rfl
     below:=HG.out.below.trans (Dc.out.1.trans ((bZ.out.mono aC).trans (hI1.1.trans (hbY.mono aC))))
     marks:=(Marks.turn (A:=fun _ _=>False) hmD (n1:=B1) ⟨hbY.mono aC,fun b o hb _=>(hbY.block b (aj hb)).trans hb⟩ (fun _ _ _ h=>h.elim)).mono hbY.size}
    have c3:=(one_cell J7).1;have II:=hid hless;have HY1:=hid hY1;clear hI1 xM J7 hk agz hgs hne hno hgr hpY He hmY hmD hbY hless hcur hpb;dsimp only;go_wp2;rw[<-HY1.out];refine Handed.intro (if pb=true then Sub.size cur+1 else 0) ?_ (HJ.out _ _ _ ⟨rfl,rfl,Y.heap.size,pb,cur,rfl,rfl,HN.out⟩);rw[hkk];simp only[if_true];cases pb with
    |false=>simp
    |true=>
     have:=II.out rfl
     simp
     omega
   case hstop=>
    rintro D xs Y hD h;exact h.elim
structure sS(tb:Nat)(x:ah.bF)(W:ah.cG)(v u:Value)(B:Nat)(w:World):Prop where
 Cv:fA (·<B) w v x
 A5:cZ (·<B) w u W
 laid:LaidW w
 tab:TabC tb w
 tbB:tb<B
 size:5<=B
 le:B<=w.heap.size
theorem sS.keep{tb:Nat}{x:ah.bF}{W:ah.cG}{v u:Value}{B:Nat}{w w':World}(h:sS tb x W v u B w)(hb:Below B w w'):sS tb x W v u B w' where
 Cv:=h.Cv.keep (aB.aQ hb (fun _ h=>h))
 A5:=h.A5.keep (aB.aQ hb (fun _ h=>h))
 laid:=h.laid.below hb h.size
 tab:=h.tab.below hb h.tbB (by have:=h.size;omega)
 tbB:=h.tbB
 size:=h.size
 le:=Nat.le_trans h.le hb.size
theorem sS.next{tb:Nat}{x:ah.bF}{W:ah.cG}{v u:Value}{B:Nat}{w w':World}(h:sS tb x W v u B w)(hb:BL w w'):sS tb x W v u B w':=h.keep (hb.mono h.le)
theorem iD{x:ah.bF}{W:ah.cG}{s:Sub.S}(hc:aR.kC x W s=0):aR.sF x W/\Sub.Fit (aR.shape W) s:=by
 have hp:ah.okB x=true/\aR.eM x W=true/\aR.tK W s=true:=by
  exact abf
 exact⟨aR.T9 hp.1 hp.2.1,aR.KM hp.2.2⟩
theorem jF{x:ah.bF}{W:ah.cG}{s:Sub.S}(h1:ah.okB x=true)(h2:aR.eM x W=true)(h3:Sub.Fit (aR.shape W) s):aR.kC x W s=0:=by
 unfold aR.kC;rw[if_pos h1,if_pos h2,if_pos (aR.BH h3)]
theorem oP(x:ah.bF)(W:ah.cG)(s:Sub.S)(hc:aR.kC x W s=0)(v u t:Value)(U:Nat->Prop)(tb B:Nat)(w:World)(ha:sS tb x W v u B w)(hs:cQ U w t s):
  Calls Tryz.prog 20 #[v,u,t] w fun e w'=>∃g,e=.returned (.tuple #[.slice (some ⟨g,0,none⟩) W.length W.length,.int .i64 0])/\mz (w.heap.size<=·) w' (.slice (some ⟨g,0,none⟩) W.length W.length) (Sub.great (aR.wrong (aR.cN x) W) s)/\BL w w':=by
 obtain⟨hfw,hfit⟩:=iD hc;obtain⟨ak,ck,al,cl,ar,cr,rfl, -⟩:=ha.Cv.form;obtain⟨w1,hw1⟩:=aV (di w x.aI (.slice ak x.ai.length ck) (.slice al x.aN.length cl) (.slice ar x.aO.length cr));have bf:=r9 hw1;have HX:=wv hw1;unfold di at hw1;have HW1:=hid hw1;clear hw1;have I9:=hid (fun(X:World) (hX:BL w X)=>mO x W s hc _ u t _ _ U tb X (ha.next hX).Cv (ha.next hX).A5 (hs.keep (aB.below hX)) (ha.next hX).laid (ha.next hX).tab);have Kx:=hid (fun(X:World) (hX:BL w X)=>yJ x W s hfw (aR.jJ hfit).symm _ u t _ _ U X (ha.next hX).Cv (ha.next hX).A5 (hs.keep (aB.below hX)));have NQ:=hid (fun(X:World) (B0 B1 B2 M:Nat)=>xu x W s hfw hfit B0 B1 B2 M 512 aC X);obtain⟨aw,cw,rfl, -, -, -⟩:=ha.A5.form;obtain⟨wU,cs,rfl, -, -, -⟩:=hs.form;clear hs ha hfw hfit;obtain⟨⟨y0,y1,y2,y3⟩, -⟩:=aW (HX.out w1 ay);go_enter Tryz.func20,Tryz.ntmps20;go_upto_region 1 with fail;rw[<-HW1.out];go_wp2_with fail;refine(I9.out w1 bf.out).mono ?_;rintro e w2 ⟨rfl,hb⟩;have eC:Hid (BL w1 w2):=hid hb;have bK:=aJ bf hb;clear hb y0 y1 y2 y3;obtain⟨⟨y0,y1,y2,y3⟩, -⟩:=aW (HX.out w2 eC.out);go_wp2_with fail;refine(Kx.out w2 bK.out).mono ?_;rintro e w3 ⟨B0,B1,B2,rfl,hst,hB0,hb3⟩;have bZ:=aJ bK hb3;have rH:=hid (NQ.out w3 B0 B1 B2 w3.heap.size aH hst.toD);have Zj:=hst.NH;have hz2:=bK.out.size;clear hb3 hst y0 y1 y2 y3;go_wp2_with fail;refine rH.out.mono ?_;rintro e w4 ⟨g,rfl,hsf,hb4⟩;have f9:Hid (BL w w4):=hid (bZ.out.trans (hb4.mono aC));have HSF:=hid (dP.mono (S':=(w.heap.size<=·)) hsf (fun b _ hb=>by have:=hb.1;show w.heap.size<=b;omega));clear hb4 hsf;go_wp2;go_ret2;exact⟨g,rfl,HSF.out,f9.out⟩
theorem Gf(x:ah.bF)(W:ah.cG)(s:Sub.S)(hc:aR.kC x W s=0)(k i:Nat)(hki:Sub.keeps s k i=true)(v u t:Value)(U:Nat->Prop)(tb B:Nat)(w:World)(ha:sS tb x W v u B w)(hs:cQ U w t s):
  Calls Tryz.prog 54 #[v,u,t,.agg #[.int .i64 (k:Int),.int .i64 (i:Int)]] w fun e w'=>∃g,e=.returned (.tuple #[.slice (some ⟨g,0,none⟩) W.length W.length,.int .i64 0])/\mz (w.heap.size<=·) w' (.slice (some ⟨g,0,none⟩) W.length W.length) (Sub.without (aR.wrong (aR.cN x) W) s k i)/\BL w w':=by
 obtain⟨hfw,hfit⟩:=iD hc;obtain⟨oL,Dv⟩:=aR.yF hfit hki;have Ge:i<W[k].length:=by unfold aR.bV at Dv;rwa [Sub.aX oL] at Dv
 obtain⟨hks,his⟩:=Sub.sB hki;rw[Sub.aX hks] at his
 have hsk:s[k][i]=true:=by
  unfold Sub.keeps at hki;rwa [Sub.aX hks,Sub.aX his] at hki
 obtain⟨ak,ck,al,cl,ar,cr,rfl, -⟩:=ha.Cv.form;obtain⟨w1,hw1⟩:=aV ((di w x.aI (.slice ak x.ai.length ck) (.slice al x.aN.length cl) (.slice ar x.aO.length cr)).alloc (.cells #[.int .i64 (k:Int),.int .i64 (i:Int)] 146));have bf:Hid (Below w.heap.size w w1):=hid acj;have HX:Hid (∀W,BL w1 W->W.heap[w.heap.size]?=some (.cells #[.int .i64 x.aI,.slice ak x.ai.length ck,.slice al x.aN.length cl,.slice ar x.aO.length cr] 27 (0,0))):=hid (fun W hW=>(hW.block _ RO).trans Xw);have HA:Hid (∀W,BL w1 W->W.heap[w.heap.size+1]?=some (.cells #[.int .i64 (k:Int),.int .i64 (i:Int)] 146 (0,0))):=hid (fun W hW=>(hW.block _ XI).trans Ke);unfold di at hw1;have HW1:=hid hw1;clear hw1;have I9:=hid (fun(X:World) (hX:BL w X)=>mO x W s hc _ u t _ _ U tb X (ha.next hX).Cv (ha.next hX).A5 (hs.keep (aB.below hX)) (ha.next hX).laid (ha.next hX).tab);have Kx:=hid (fun(X:World) (hX:BL w X)=>yJ x W s hfw (aR.jJ hfit).symm _ u t _ _ U X (ha.next hX).Cv (ha.next hX).A5 (hs.keep (aB.below hX)));have Rt:=hid (fun(X:World) (B0 B1 B2 M:Nat)=>Jf x W s hfw (aR.jJ hfit).symm B0 B1 B2 M 512 aC k i oL Ge hki X);have NQ:=hid (fun(X:World) (B0 B1 B2 M:Nat)=>xu x W (Sub.drop s k i) hfw (Sub.pP hfit k i) B0 B1 B2 M 513 aC X);have HS:=hid hs;obtain⟨aw,cw,rfl, -, -, -⟩:=ha.A5.form;obtain⟨wU,cs,rfl,hss, -, -⟩:=hs.form;have hk0:(0:Int)<=(k:Int):=by omega
 have hi0:(0:Int)<=(i:Int):=by omega
 have hk1:(k:Int)<(s.length:Int):=by omega
 have hi1:(i:Int)<(s[k].length:Int):=by omega
 have hk2:¬(k:Int)<0:=by omega
 have hi2:¬(i:Int)<0:=by omega
 have hk3:¬(s.length:Int)<=(k:Int):=by omega
 have hi3:¬(s[k].length:Int)<=(i:Int):=by omega
 obtain⟨us,adX,adY⟩:=HS.out.rA hks;obtain⟨sa,sc,rfl,hsa, -, -⟩:=adX.form;obtain⟨ub,hub1,adZ⟩:=adX.rA his;obtain rfl:ub=_:=hub1;rw[hsk] at adZ;obtain⟨nr,zQ⟩:=aV (s[k].length);rw[<-zQ] at hi1 hi3 hsa adY;have d1:decide ((k:Int)<0)=false:=decide_eq_false aC;have d2:decide (s.length<=k)=false:=decide_eq_false aC;have d3:decide ((i:Int)<0)=false:=decide_eq_false aC;have d4:decide (nr<=i)=false:=decide_eq_false aC;have JV:=hid adY;have HU3:=hid adZ;clear hs ha hfw hfit adX adY adZ zQ hsk;obtain⟨⟨y0,y1,y2,y3⟩, -⟩:=aW (HX.out w1 ay);go_enter Tryz.func54,Tryz.ntmps54;go_upto_region 1 with fail;rw[<-HW1.out];go_wp2_with fail;refine(I9.out w1 bf.out).mono ?_;rintro e w2 ⟨rfl,hb⟩;have eC:Hid (BL w1 w2):=hid hb;have bK:=aJ bf hb;clear hb y0 y1 y2 y3;go_upto_region 4 with fail;obtain⟨⟨a0,a1⟩, -⟩:=qH (HA.out w2 eC.out);have hs1:w2.cell? ⟨bD wU,bJ wU+k,none⟩=some (.slice sa nr sc):=JV.out w2 (aB.below bK.out);have hs2:w2.cell? ⟨bD sa,bJ sa+i,none⟩=some (.bool true):=HU3.out w2 (aB.below bK.out);go_wp2;go_quiet (fail);clear a0 a1 hs1 hs2;have jQ:Hid (BL w1 (w2.drewN nq)):=hid (aG eC.out _);have fF:Hid (BL w (w2.drewN nq)):=hid (aG bK.out _);clear eC bK;generalize w2.drewN nq=w5 at*;obtain⟨⟨y0,y1,y2,y3⟩, -⟩:=aW (HX.out w5 jQ.out);go_wp2_with fail;refine(Kx.out w5 fF.out).mono ?_;rintro e w6 ⟨B0,B1,B2,rfl,hst,hB0,tX⟩;have BW:=aJ jQ tX;have jS:=aJ fF tX;have HD6:=hid (Rt.out w6 B0 B1 B2 w6.heap.size hst.toD);have Zj:=hst.NH;have Rk:=fF.out.size;clear tX hst y0 y1 y2 y3;obtain⟨⟨a0,a1⟩, -⟩:=qH (HA.out w6 BW.out);go_wp2_with fail;refine HD6.out.mono ?_;rintro e w7 ⟨⟨v7,rfl⟩,agA,rI⟩;have lM:Hid (BL w w7):=hid (jS.out.trans (rI.1.mono aC));have Gt:=hid (NQ.out w7 B0 B1 B2 w6.heap.size rI.1.size agA);clear agA rI a0 a1;go_wp2_with fail;refine Gt.out.mono ?_;rintro e w8 ⟨g,rfl,hsf,oU⟩;have oT:Hid (BL w w8):=hid (lM.out.trans (oU.mono aC));have HSF:=hid (dP.mono (S':=(w.heap.size<=·)) hsf (fun b _ hb=>by have:=hb.1;show w.heap.size<=b;omega));clear oU hsf;go_wp2;go_ret2;exact⟨g,rfl,HSF.out,oT.out⟩
attribute [local go_sem] Oper.semAt_some
def Ay(B:Nat):Nat->Obj->Prop:=fun b o=>b=B/\¬book o
theorem zV{w:World}{g:Nat}{b:Bool}{tmps:Array Value}(h:w.heap[g]?=some (.cells #[.bool b] 4 (0,0)))(hp:tmps[6]?=some (.pointer (some ⟨g,0,none⟩))):
  (results Tryz.f114 tmps).run Tryz.prog w=.ok (.bool b) w:=by
 have g0:=(one_cell h).1;simp[results,Tryz.results114,go_sem,hp,g0]
theorem L6(x:ah.bF)(W:ah.cG)(s:Sub.S)(hc:aR.kC x W s=0)(v u t:Value)(U:Nat->Prop)(tb B:Nat)(w:World)(ha:sS tb x W v u B w)(hs:cQ U w t s):
  Calls Tryz.prog 114 #[v,u,t] w fun e w'=>e=.returned (.bool (Sub.valid (aR.wrong (aR.cN x) W) s))/\BL w w':=by
 obtain⟨hfw,hfit⟩:=iD hc;obtain⟨ak,ck,al,cl,ar,cr,rfl, -⟩:=ha.Cv.form;obtain⟨w1,hw1⟩:=aV ((di w x.aI (.slice ak x.ai.length ck) (.slice al x.aN.length cl) (.slice ar x.aO.length cr)).alloc (.cells #[.bool false] 4));have bf:Hid (Below w.heap.size w w1):=hid acj;have HX:Hid (∀W,BL w1 W->W.heap[w.heap.size]?=some (.cells #[.int .i64 x.aI,.slice ak x.ai.length ck,.slice al x.aN.length cl,.slice ar x.aO.length cr] 27 (0,0))):=hid (fun W hW=>(hW.block _ RO).trans Xw);have LZ:Hid (w1.heap[w.heap.size+1]?=some (.cells #[.bool false] 4 (0,0))):=hid Ke;unfold di at hw1;have hz1:w.heap.size+2<=w1.heap.size:=by rw[hw1];simp
 have HW1:=hid hw1;clear hw1;have I9:=hid (fun(X:World) (hX:BL w X)=>mO x W s hc _ u t _ _ U tb X (ha.next hX).Cv (ha.next hX).A5 (hs.keep (aB.below hX)) (ha.next hX).laid (ha.next hX).tab);have Kx:=hid (fun(X:World) (hX:BL w X)=>yJ x W s hfw (aR.jJ hfit).symm _ u t _ _ U X (ha.next hX).Cv (ha.next hX).A5 (hs.keep (aB.below hX)));have HS:=hid (cQ.mono (S':=(·<w.heap.size)) hs (fun b hb _=>hb));obtain⟨aw,cw,rfl, -, -, -⟩:=ha.A5.form;obtain⟨wU,cs,rfl,hss, -, -⟩:=hs.form;have tY:=hid hfw;have DM:=hid hfit;obtain⟨rs,Qf⟩:=aV (aR.cN x);rw[<-Qf];have IJ:=hid Qf;obtain⟨res,hres⟩:=aV (Sub.valid (aR.wrong rs W) s);rw[<-hres];have agB:=hid hres;clear hs ha hfw hfit Qf hres;obtain⟨⟨y0,y1,y2,y3⟩, -⟩:=aW (HX.out w1 ay);rw[<-callsIn_wide (n:=5)];refine callsIn_of_wp_marks Tryz.func114 rfl trivial ?_ rfl;simp only[Tryz.ntmps114,List.size_toArray,List.length_cons,List.length_nil,Nat.reduceAdd,Nat.reduceSub,Array.replicate_succ,Array.replicate_zero,List.push_toArray,List.append_toArray,List.nil_append,List.cons_append];rw[wpIn_wide];go_upto_region 1 with fail;rw[<-HW1.out];go_wp2_with fail;refine(I9.out w1 bf.out).mono ?_;rintro e w2 ⟨rfl,hb⟩;have eC:Hid (BL w1 w2):=hid hb;have bK:=aJ bf hb;clear hb y0 y1 y2 y3;obtain⟨⟨y0,y1,y2,y3⟩, -⟩:=aW (HX.out w2 eC.out);go_wp2_with fail;refine(Kx.out w2 bK.out).mono ?_;rintro e w3 ⟨B0,B1,B2,rfl,hst,hB0,hb3⟩;have gj:=aJ eC hb3;have bZ:=aJ bK hb3;have HST:=hid hst.toD;have Eo:=gj.out.size;clear hb3 hst y0 y1 y2 y3;obtain⟨w4,hw4⟩:=aV (w3.alloc (.cells #[.pointer (some ⟨B2+1,0,none⟩)] 126));have f9:Hid (Below w3.heap.size w3 w4):=hid (by rw[hw4];exact ay.alloc aH _);have Xg:Hid (w4.heap[w3.heap.size]?=some (.cells #[.pointer (some ⟨B2+1,0,none⟩)] 126 (0,0))):=hid (by rw[hw4];exact aP _ _ rfl);have Ng:w3.heap.size<w4.heap.size:=aj Xg.out;have Dq:=hid hw4;clear hw4;go_upto_region 4 with fail;rw[<-Dq.out];go_wp2_with fail;refine(sP _ _ _ _).mono ?_;rintro e w5 ⟨rfl,mq⟩;have jR:BL w4 w5:=by rw[mq];exact ay.alloc aH _
 have Cw:w5.heap[w4.heap.size]?=some (.cells #[.slice wU s.length cs] 61 (0,0)):=by rw[mq];exact aP _ _ rfl
 have Rk:=aj Cw;have fF:Hid (BL w3 w5):=hid (f9.out.trans (jR.mono aC));have DZ:Hid (BL w w5):=hid (bZ.out.trans (fF.out.mono aC));have Nw:Hid (w5.heap[w3.heap.size]?=some (.cells #[.pointer (some ⟨B2+1,0,none⟩)] 126 (0,0))):=hid ((jR.block _ Ng).trans Xg.out);have Zo:Hid (w5.heap[w.heap.size+1]?=some (.cells #[.bool false] 4 (0,0))):=hid ((fF.out.block _ aC).trans ((gj.out.block _ aC).trans LZ.out));have yg:Hid (Aw B0 B1 B2 w3.heap.size 512 rs W s w5):=hid (by rw[IJ.out];exact HST.out.sR (fun b hb hlt=>fF.out.block b hlt))
 have Jh:Hid (sN (α:=Nat×Nat) Tryz.prog w.heap.size w5.heap.size 86 #[.pointer (some ⟨w4.heap.size,0,none⟩)] (fun x=> #[.agg #[.int .i64 (x.1:Int),.int .i64 (x.2:Int)]]) (fun pre x _=>pre++[x]<+:Sub.kept s) (Ay (w.heap.size+1)) (fun _ _=>False) (fun xs _=>xs=Sub.kept s) w5):=
  hid (pU s w.heap.size w5.heap.size w4.heap.size _ (·<w.heap.size) (Ay (w.heap.size+1)) w5 aC (HS.out.keep (aB.below DZ.out)) Cw (fun o h=>by have:=h.1;omega) (fun Y ht=>aB.aQ ht.1 (fun _ h=>h)))
 clear mq jR Cw;go_wp2;rw[<-wpIn_wide (n:=5)]
 refine l7 (α:=Nat×Nat) (n0:=w.heap.size) (gf:=86) rfl (bE Tryz.func86 (by kernel_rfl) rfl) (fun _=>rfl) Jh.out aC (fun _ _ h=>h.elim) (fun _ _ h=>h.2)
  (fun pre Y=>aS (bH w5.heap.size) w.heap.size w5 Y/\∀z∈pre,aR.wrong rs W s z.1 z.2=false)
  (fun _ Y=>Below w.heap.size w5 Y/\Y.heap[w.heap.size+1]?=some (.cells #[.bool false] 4 (0,0))/\res=false)
  (fun pre A B h ht=>⟨h.1.trans (ht.mono (fun b o h=>h.elim False.elim id)),h.2⟩) (fun _ A B h ht=>⟨h.1.trans ht.1,ht.2 _ _ h.2.1 (by
   rintro (h|h)
   ·exact h
   ·simp[bH,book] at h),h.2.2⟩) (fun _ _ _ h _=>h) ⟨aS.refl _ _ _,fun z hz=>absurd hz aZ⟩ ?lm ?hdone ?hstop
 case lm=>
  rintro l pre y Y hlr ⟨hI1,xM⟩ L5;obtain⟨k,i⟩:=y;simp only[List.zip_toArray,List.zip_cons_cons,List.zip_nil_left];have hsY:=hI1.1.size;gi_wp2;refine⟨(aS.refl _ _ _).alloc aC _,fun Y2 ht2 hs2 hl2=>?_⟩;have nF:Hid (Y2.heap[Y.heap.size]?=some (.cells #[.int .i64 (k:Int),.int .i64 (i:Int)] 146 (0,0))):=hid (ht2.2 _ _ (aP _ _ rfl) Ac);have qt:Hid (aS (bH w5.heap.size) w.heap.size w5 Y2):=hid ((hI1.alloc aC _).trans ht2);have HST2:Hid (Aw B0 B1 B2 w3.heap.size 512 rs W s Y2):=hid (yg.out.sR (qt.out.abw (fun b o hb ho=>by have:=ho.1;omega)));have Vr:Hid (Y2.heap[w3.heap.size]?=some (.cells #[.pointer (some ⟨B2+1,0,none⟩)] 126 (0,0))):=hid (qt.out.2 _ _ Nw.out Ac);have Xo:Hid (Y2.heap[w.heap.size+1]?=some (.cells #[.bool false] 4 (0,0))):=hid (qt.out.2 _ _ Zo.out Ac);have hmem:(k,i)∈Sub.kept s:=L5.subset aZ;have hkp:=Sub.dX.1 hmem;obtain⟨oL,Dv⟩:=aR.yF DM.out hkp;have Ge:i<W[k].length:=by unfold aR.bV at Dv;rwa [Sub.aX oL] at Dv
  have Zm:Hid (CB 73 #[.pointer (some ⟨B2+1,0,none⟩),.agg #[.int .i64 (k:Int),.int .i64 (i:Int)]] Y2 (.bool (aR.wrong rs W s k i))):=hid (by
   have:=E8 x W s tY.out (aR.jJ DM.out).symm B0 B1 B2 512 k i oL Ge Y2 (by rw[<-IJ.out];exact HST2.out.toV)
   rw[<-IJ.out] at this
   exact this)
  have Dn:Hid (aR.wrong rs W s k i=true->res=false):=hid (fun h=>by
   rw[agB.out];cases e:Sub.valid (aR.wrong rs W) s with
   |false=>rfl
   |true=>rw[Sub.kT.1 e k i hkp] at h;cases h)
  have HYs:Hid (aR.wrong rs W s k i=false->∀z∈pre++[(k,i)],aR.wrong rs W s z.1 z.2=false):=hid (fun h z hz=>by
   rcases List.mem_append.1 hz with hz|hz
   ·exact xM z hz
   ·rw[nU.1 hz];exact h)
  have IV:=aj nF.out;have DH:=aj Xo.out;have hz2Y:=qt.out.1.size;have c1:=(one_cell Vr.out).1;obtain⟨⟨a0,a1⟩, -⟩:=qH nF.out;clear hI1 xM hmem hkp Dv hs2 ht2 L5;gi_wp2_with fail;refine⟨trivial,rfl,lI.2 (Zm.out.mono ?_)⟩;rintro e Y3 ⟨rfl,hb3⟩;have Zq:=hid hb3;have hz3Y:=hb3.size;clear c1 a0 a1 hb3;generalize aR.wrong rs W s k i=bw at*;cases bw with
  |false=>
   have HQ:Hid (QS (Ay (w.heap.size+1)) w.heap.size (fun pre Y=>aS (bH w5.heap.size) w.heap.size w5 Y/\∀z∈pre,aR.wrong rs W s z.1 z.2=false)
     (fun(_:List (Nat×Nat)) Y=>Below w.heap.size w5 Y/\Y.heap[w.heap.size+1]?=some (.cells #[.bool false] 4 (0,0))/\res=false) (pre++[(k,i)]) Y2 .normal {tmps:=#[],defers:=[]} Y3):=
    hid ⟨aS.aQ Zq.out aC,qt.out.trans (aS.aQ Zq.out aC),HYs.out rfl⟩
   clear Dn HYs
   gi_wp2
   exact HQ.out
  |true=>
   have FY:Hid (Y3.heap[w.heap.size+1]?=some (.cells #[.bool false] 4 (0,0))):=hid ((Zq.out.block _ DH).trans Xo.out)
   have h4c:=(one_cell FY.out).1
   have h4f:=(one_cell FY.out).2
   have HQ:Hid (QS (Ay (w.heap.size+1)) w.heap.size (fun pre Y=>aS (bH w5.heap.size) w.heap.size w5 Y/\∀z∈pre,aR.wrong rs W s z.1 z.2=false)
     (fun(_:List (Nat×Nat)) Y=>Below w.heap.size w5 Y/\Y.heap[w.heap.size+1]?=some (.cells #[.bool false] 4 (0,0))/\res=false) (pre++[(k,i)]) Y2 .ret {tmps:=#[],defers:=[]} (Y3.setCell ⟨w.heap.size+1,0,none⟩ (.bool false))):=hid (by
    have t24:aS (Ay (w.heap.size+1)) w.heap.size Y2 (Y3.setCell ⟨w.heap.size+1,0,none⟩ (.bool false)):=
     aS.setCell (p:=⟨w.heap.size+1,0,none⟩) (aS.aQ Zq.out aC) FY.out ⟨rfl,by simp[book]⟩ (by show w.heap.size<=w.heap.size+1;omega) _
    exact⟨t24,qt.out.1.trans t24.1,one_set _ FY.out,Dn.out rfl⟩)
   clear Dn HYs
   gi_wp2
   exact HQ.out
 case hdone=>
  rintro D xs Y hD rfl ⟨hI1,xM⟩ hk;have r2:Y.heap[w.heap.size+1]?=some (.cells #[.bool false] 4 (0,0)):=hI1.2 _ _ Zo.out Ac;have c4:=(one_cell r2).1;have c5:=(one_cell r2).2;have hset:(Y.setCell ⟨w.heap.size+1,0,none⟩ (.bool true)).heap[w.heap.size+1]?=some (.cells #[.bool true] 4 (0,0)):=one_set _ r2;have hDb:D≠w.heap.size+1:=by omega
  have hk2:(Y.setCell ⟨w.heap.size+1,0,none⟩ (.bool true)).heap[D]?=some (.deferred (some [])):=(nZ _ _ _ _ hDb).trans hk;have HM:=hid ((Marks.nil w.heap.size w5.heap.size (Y.setCell ⟨w.heap.size+1,0,none⟩ (.bool true))).push hD aC hk2)
  have hrt:res=true:=by
   rw[agB.out];exact Sub.kT.2 fun a b hab=>xM (a,b) (Sub.dX.2 hab)
  have HB:=hid (DZ.out.trans (hI1.1.trans (ay.setCell (by show w.heap.size<=w.heap.size+1;omega) (.bool true):Below w.heap.size Y (Y.setCell ⟨w.heap.size+1,0,none⟩ (.bool true)))));have UU:=hid hset;have HRt:=hid hrt;clear hI1 xM hk r2 hset hDb hk2 hrt;dsimp only;go_wp2;refine jt HM.out (fun w' ht=>⟨zV (b:=true) (ht.2 _ _ UU.out Ac) rfl,by rw[HRt.out],HB.out.trans ht.1⟩)
 case hstop=>
  rintro D xs Y hD ⟨hb,r2,hrf⟩ hk;refine jt ((Marks.nil w.heap.size w5.heap.size Y).push hD aC hk) (fun w' ht=>⟨zV (b:=false) (ht.2 _ _ r2 Ac) rfl,by rw[hrf],DZ.out.trans (hb.trans ht.1)⟩)
theorem Qj(n c d:Nat)(a b:Option Addr)(w:World):Calls Tryz.prog 85 #[.slice a n c,.slice b n d] w fun e w'=>e=.returned (.bool true)/\w=w':=by
 go_enter Tryz.func85,Tryz.ntmps85;go_wp2;go_ret;exact⟨by simp,rfl⟩
theorem Vs(W s:Sub.S)(h:W.map List.length=s.map List.length)(jI:W.length<=1000000)(v u:Value)(S T:Nat->Prop)(w:World)(hW:cQ S w v W)(hs:cQ T w u s):
  Calls Tryz.prog 84 #[v,u,.func (.func 85) #[] #[]] w fun e w'=>e=.returned (.bool true)/\w=w':=by
 obtain⟨aw,cw,rfl,hsw, -, -⟩:=hW.form;obtain⟨wU,cs,rfl,hss, -, -⟩:=hs.form;have HW:=hid hW;have HS:=hid hs;have hlen:W.length=s.length:=by simpa using congrArg List.length h
 have HL:Hid (∀k (h1:k<W.length) (h2:k<s.length),W[k].length=s[k].length):=hid (fun k h1 h2=>by
  have:=congrArg (fun l=>l[k]?) h;simpa [h1,h2] using this)
 obtain⟨n,hn⟩:=aV s.length;have hnw:W.length=n:=by rw[hn];exact hlen
 rw[hnw] at hsw jI ⊢;rw[<-hn] at hss ⊢;have HN:=hid hn;have HNW:=hid hnw;clear hW hs h hlen hn hnw;go_enter Tryz.func84,Tryz.ntmps84;go_wp2;go_loopw [17] (fun kk wr=>∃k:Nat,k<=n/\kk=.int .i64 k/\w=wr) (fun kk _=>n-(intOf kk).toNat);case atStart=>exact⟨0,Nat.zero_le _,rfl,rfl⟩
 case round=>
  obtain⟨k,hk,rfl,rfl⟩:=hrel;by_cases hlt:k<n
  ·have hk0:(0:Int)<=k:=by omega
   have hk1:(k:Int)<n:=by omega
   have h1:k<W.length:=by rw[HNW.out];exact hlt
   have h2:k<s.length:=by rw[<-HN.out];exact hlt
   obtain⟨x,hx, -,hxr⟩:=gQ.at (by rw[<-HNW.out];exact HW.out:cQ S w (.slice aw n cw) W) h1;obtain⟨y,hy, -,hyr⟩:=gQ.at (by rw[HN.out];exact HS.out:cQ T w (.slice wU n cs) s) h2;obtain⟨a,c,rfl, -, -, -⟩:=hxr.form;obtain⟨b,d,rfl, -, -, -⟩:=hyr.form;rw[HL.out k h1 h2] at hx;clear hxr hyr;generalize s[k].length=m at*;have nH:=bE Tryz.func85 (by kernel_rfl) rfl;go_wp2_with fail;refine(Qj m c d a b w).mono ?_;exact abe
  ·obtain rfl:n=k:=by omega
   go_wp2;go_ret;exact⟨rfl,rfl⟩
attribute [local go_sem] Oper.semAt_some
namespace Sub
theorem sU{s t:S}:∀{l m:List (Nat×Nat)},(∀x∈l,keeps s x.1 x.2=keeps t x.1 x.2)->jg s t (l++m)=jg s t m
 |[],_,_=>rfl
 |x::l,m,h=>by
  rw[List.cons_append];unfold jg;rw[if_pos (h x aZ),sU (fun y hy=>h y (by simp[hy]))];cases m<;>rfl
theorem Ji{s t:S}{l:List (Nat×Nat)}(h:∀x∈l,keeps s x.1 x.2=keeps t x.1 x.2):jg s t l=false:=by
 have:=sU (m:=[]) h;rw[List.append_nil] at this;rw[this];rfl
def mS(sh:List Nat)(k:Nat):List (Nat×Nat):=(List.range k).flatMap fun k=>(List.range (sh.getD k 0)).map fun i=>(k,i)
theorem xA(sh:List Nat)(k:Nat):mS sh (k+1)=mS sh k++(List.range (sh.getD k 0)).map fun i=>(k,i):=by simp[mS,List.range_succ]
theorem zW(sh:List Nat){i:Nat}:∀{n:Nat},i<=n->mS sh i<+:mS sh n
 |0,h=>by
  obtain rfl:i=0:=by omega
  exact List.prefix_refl _
 |n+1,h=>by
  by_cases e:i=n+1
  ·rw[e];exact List.prefix_refl _
  ·rw[xA]
   exact(zW sh aC).trans (List.prefix_append _ _)
theorem Fb{i:Nat}:∀{n:Nat},i<=n->List.range i<+:List.range n
 |0,h=>by
  obtain rfl:i=0:=by omega
  exact List.prefix_refl _
 |n+1,h=>by
  by_cases e:i=n+1
  ·rw[e];exact List.prefix_refl _
  ·rw[List.range_succ]
   exact(Fb aC).trans (List.prefix_append _ _)
theorem Jj{sh:List Nat}{k:Nat}{x:Nat×Nat}(h:x∈mS sh k):x.1<k:=by
 unfold mS at h;rw[List.mem_flatMap] at h;obtain⟨a,ha,h⟩:=h;rw[List.mem_map] at h;obtain⟨b,_,rfl⟩:=h;exact List.mem_range.1 ha
theorem Gg{sh:List Nat}{k i:Nat}(hk:k<sh.length)(hi:i<sh.getD k 0):∃l m,places sh=l++(k,i)::m/\∀x∈l,x.1<k\/(x.1=k/\x.2<i):=by
 have e:places sh=mS sh sh.length:=rfl;obtain⟨m1,h1⟩:=zW sh (show k+1<=sh.length by omega);obtain⟨m2,h2⟩:=Fb (show i+1<=sh.getD k 0 by omega);refine⟨mS sh k++(List.range i).map (fun i=>(k,i)),m2.map (fun i=>(k,i))++m1,?_,fun x hx=>?_⟩
 ·rw[e,<-h1,xA,<-h2,List.range_succ]
  simp
 ·rcases List.mem_append.1 hx with hx|hx
  ·exact .inl (Jj hx)
  ·rw[List.mem_map] at hx
   obtain⟨b,hb,rfl⟩:=hx;exact .inr ⟨rfl,List.mem_range.1 hb⟩
theorem Qk{sh:List Nat}{s t:S}(h:size s≠size t):less sh s t=decide (size s<size t):=by
 unfold less;simp[h]
theorem Zr{sh:List Nat}{s t:S}(h:size s=size t){k i:Nat}(hk:k<sh.length)(hi:i<sh.getD k 0)(hb:∀k' i',k'<k\/(k'=k/\i'<i)->keeps s k' i'=keeps t k' i')(hne:keeps s k i≠keeps t k i):less sh s t=keeps s k i:=by
 obtain⟨l,m,e,hl⟩:=Gg hk hi;unfold less;rw[e,sU (fun x hx=>hb _ _ (hl x hx))];unfold jg;rw[if_neg hne];simp[h]
theorem Ql{sh:List Nat}{s t:S}(h:size s=size t)(hb:∀k' i',keeps s k' i'=keeps t k' i'):less sh s t=false:=by
 unfold less;rw[Ji (fun x _=>hb _ _)];simp[h]
end Sub
section
variable {P:Program} {lp n':Nat}
theorem oB{id:Nat}{Q:Exit->Act->World->Prop}{a:Act}{w:World}{l:List Oper}(n:Nat)(s:je)(φ:World->Prop)(hm:P.follows .mixedOrders=true)(hB:Region.pX .any l.toArray n s=true)(hp:Region.LS l.toArray=true)(hC:φ (w.drewN 1))
  (h:∀K:Act->World->Prop,(∀a' w',Q .normal a' w'->K a' w')->bQ P l.toArray (fun a' w'=>wpList P l.toArray (QN K) (l.drop n) a' w') l s φ a (w.drewN 1)):(Code.region id l.toArray true).wpIn (Fence.wide.inRound lp) n' P Q a w:=by
 have h:=h (fun a' w'=>Q .normal a' w') (fun _ _ h=>h);simp only[Region.pX,kJ,lE] at hB;obtain⟨⟨⟨⟨hsel,hn⟩,hs⟩,hc⟩,hlex⟩:=hB
 have inv0:HeadInv .any l.toArray n (Array.replicate l.toArray.size false):=
  ⟨by simp,fun j oj _ hl=>RK,fun t _ ht=>getD_in RT (getD_replicate_false _ _)⟩
 have H:=eX (md:=.any) (Lq:=fun a' w'=>wpList P l.toArray (QN fun a' w'=>Q .normal a' w') (l.drop n) a' w') hsel hs hc hn n s φ _ a _ hC inv0 hlex uO;refine wpIn_region_any hm (Vc (K2:=fun a w=>Q .normal a w) (Region.LU hp) (fun _ _ h=>h) _ _ _ _ ?_);have hdl:(l.drop n).length=l.toArray.size-n:=by simp
 have:=kg (Q':=QN fun a' w'=>Q .normal a' w') (g:=l.toArray.size-n) (fun listed a' w' hL=>by
  have:=wpAny_of_seq (md:=.any) (Q':=QN fun a' w'=>Q .normal a' w') (l.drop n) n listed a' w' (fun j=>by simp[List.getElem?_drop]) ab5 hL.2;rwa [hdl] at this) _ _ _ _ H
 rw[show n+(l.toArray.size-n)=l.toArray.size by omega] at this;exact this
end
open aR (tab)
def Cx(f:Nat->Nat->Nat->Int)(k i j:Nat)(y:Int):Nat->Nat->Nat->Int:=fun k' i' j'=>if k'=k/\i'=i/\j'=j then y else f k' i' j'
theorem lK{α:Type}(n:Nat)(g:Nat->α)(i:Nat)(y:α):((List.range n).map g).set i y=(List.range n).map fun i'=>if i'=i then y else g i':=by
 refine List.ext_getElem aZ fun a h1 h2=>?_;rw[List.getElem_set];simp only[List.getElem_map,List.getElem_range];by_cases e:a=i
 ·rw[if_pos e.symm,if_pos e]
 ·rw[if_neg (fun h=>e h.symm),if_neg e]
theorem Zt{K:Nat}{n m:Nat->Nat}{f:Nat->Nat->Nat->Int}{k i j:Nat}(hk:k<K)(hi:i<n k)(y:Int):
  (tab K n m f).set k (((List.range (n k)).map fun i'=>(List.range (m k)).map fun j'=>f k i' j').set i (((List.range (m k)).map fun j'=>f k i j').set j y))=tab K n m (Cx f k i j y):=by
 unfold tab;rw[lK];refine List.map_congr_left fun k' _=>?_;by_cases e:k'=k
 ·subst e
  rw[if_pos rfl,lK];refine List.map_congr_left fun i' _=>?_;by_cases e2:i'=i
  ·subst e2
   rw[if_pos rfl,lK];refine List.map_congr_left fun j' _=>?_;unfold Cx;simp
  ·rw[if_neg e2]
   unfold Cx;simp[e2]
 ·rw[if_neg e]
  unfold Cx;simp[e]
structure agC(S:Nat->Prop)(X:World)(v:Value)(K:Nat)(n m:Nat->Nat)(f:Nat->Nat->Nat->Int)(k i go co gk ck gi ci:Nat):Prop where
 form:v=.slice (some ⟨go,0,none⟩) K co
 rd:∀X',aB S X X'->X'.cell? ⟨go,k,none⟩=some (.slice (some ⟨gk,0,none⟩) (n k) ck)/\X'.cell? ⟨gk,i,none⟩=some (.slice (some ⟨gi,0,none⟩) (m k) ci)/\
  (∀j,j<m k->X'.cell? ⟨gi,j,none⟩=some (.int .i64 (f k i j))/\X'.frozen? ⟨gi,j,none⟩=false)/\∃o,X'.heap[gi]?=some (.cells o 3 (0,0))
 set:∀X',aB S X X'->∀j,j<m k->∀y,bY S (X'.setCell ⟨gi,j,none⟩ (.int .i64 y)) v (tab K n m (Cx f k i j y))
 blk:S gi
 ne1:gi≠go
 ne2:gi≠gk
theorem qI{S:Nat->Prop}{X:World}{v:Value}{K:Nat}{n m:Nat->Nat}{f:Nat->Nat->Nat->Int}(h:bY S X v (tab K n m f)){k i:Nat}(hk:k<K)(hi:i<n k)(hm:0<m k):
  ∃go co gk ck gi ci,agC S X v K n m f k i go co gk ck gi ci:=by
 have hkt:k<(tab K n m f).length:=by rw[aR.qG];exact hk
 obtain⟨u,Sk,go,co,e1,h1,h2,h3,h4,h5,h6⟩:=iM.inner gF h hkt;rw[aR.LM] at h2;have hil:i<((List.range (n k)).map fun i=>(List.range (m k)).map fun j=>f k i j).length:=by simpa using hi
 obtain⟨u2,Si,gk,ck,e2,q1,q2,q3,q4,q5,q6⟩:=iM.inner bP h2 hil;have er:((List.range (n k)).map fun i=>(List.range (m k)).map fun j=>f k i j)[i]=(List.range (m k)).map fun j=>f k i j:=by simp
 rw[er] at q2;have hml:((List.range (m k)).map fun j=>f k i j).length=m k:=by simp
 obtain⟨gi,ci,e3,p1,p2,p3,p4⟩:=j6 q2.1 (by rw[hml];exact hm);have hlen:((List.range (n k)).map fun i=>(List.range (m k)).map fun j=>f k i j).length=n k:=by simp
 rw[aR.qG] at e1;rw[hlen] at e2;rw[hml] at e3;have Qm:Si gi:=q2.2 gi (by rw[e3];rfl)
 have agD:∃o,X.heap[gi]?=some (.cells o 3 (0,0)):=by
  rcases q2.1.2 with⟨h0,_⟩|⟨g2,c2,cur,hv2,hb2,hg2,_⟩
  ·rw[e3] at h0;cases h0
  ·have e9:gi=g2:=by
    rw[e3] at hv2
    simp only[Value.slice.injEq,Option.some.injEq,Addr.mk.injEq] at hv2
    exact hv2.1.1
   rw[e9];exact⟨_,hg2⟩
 have hSk:Sk gk:=q5;have hgo:S go:=h5;refine⟨go,co,gk,ck,gi,ci,e1,fun X' hX=>?_,fun X' hX j hj y=>?_,h3 _ (q3 _ Qm),fun e=>h4 (e▸q3 _ Qm),fun e=>q4 (e▸Qm)⟩
 ·have k1:X'.heap[go]?=X.heap[go]?:=hX go hgo (xN X ⟨go,k,none⟩ h1)
  have k2:X'.heap[gk]?=X.heap[gk]?:=hX gk (h3 _ hSk) (xN X ⟨gk,i,none⟩ q1)
  have k3:X'.heap[gi]?=X.heap[gi]?:=by
   obtain⟨o,ho⟩:=agD;exact hX gi (h3 _ (q3 _ Qm)) (aj ho)
  refine⟨?_,?_,fun j hj=>?_,?_⟩
  ·rw[World.cell?_of_block (w:=X) (a:=⟨go,k,none⟩) k1,h1,e2]
  ·rw[World.cell?_of_block (w:=X) (a:=⟨gk,i,none⟩) k2,q1,e3]
  ·obtain⟨a1,a2⟩:=p4 j Dx
   rw[World.cell?_of_block (w:=X) (a:=⟨gi,j,none⟩) k3,World.frozen?_of_block (w:=X) (a:=⟨gi,j,none⟩) k3];exact⟨by rw[a1];simp,a2⟩
  ·rw[k3];exact agD
 ·have hI:dr Si (X'.setCell ⟨gi,j,none⟩ (.int .i64 y)) u2 (((List.range (m k)).map fun j=>f k i j).set j y):=by
   have h0:=bP.keep q2 (fun b hb hlt=>hX b (h3 _ (q3 _ hb)) hlt)
   rw[e3] at h0 ⊢
   exact dr.set h0 hml.symm j y
  have hR:=q6 _ _ hI (fun b hb hlt=>(nZ _ _ _ _ (fun e=>hb.2 (by have e':b=gi:=e;rw[e'];exact Qm))).trans (hX b (h3 _ hb.1) hlt));have hW:=h6 _ _ hR (fun b hb hlt=>(nZ _ _ _ _ (fun e=>hb.2 (by have e':b=gi:=e;rw[e'];exact q3 _ Qm))).trans (hX b hb.1 hlt));rw[Zt hk hi y] at hW;exact hW
theorem sV{S:Nat->Prop}{X:World}{v:Value}{K:Nat}{n m:Nat->Nat}{f:Nat->Nat->Nat->Int}(h:bY S X v (tab K n m f)){k:Nat}(hk:k<K):
  ∃go co a c,v=.slice (some ⟨go,0,none⟩) K co/\dI a (n k)/\n k<=c/\c<=9223372036854775807/\∀X',aB S X X'->X'.cell? ⟨go,k,none⟩=some (.slice a (n k) c):=by
 have hkt:k<(tab K n m f).length:=by rw[aR.qG];exact hk
 obtain⟨u,Sk,go,co,e1,h1,h2,h3,h4,h5,h6⟩:=iM.inner gF h hkt;rw[aR.LM] at h2;obtain⟨a,c,e2,q1,q2,q3⟩:=(lP.sl h2).form;have hlen:((List.range (n k)).map fun i=>(List.range (m k)).map fun j=>f k i j).length=n k:=by simp
 rw[hlen] at e2 q1 q2;rw[aR.qG] at e1;refine⟨go,co,a,c,e1,q1,q2,q3,fun X' hX=>?_⟩;have k1:X'.heap[go]?=X.heap[go]?:=hX go h5 (xN X ⟨go,k,none⟩ h1);rw[World.cell?_of_block (w:=X) (a:=⟨go,k,none⟩) k1,h1,e2]
theorem Gh(x:ah.bF)(k j o c:Nat)(hk:k<x.ai.length)(hj:j<(ah.kd x k).aA.length)(ho:ah.gq x k (ah.fd x k j)=(o:Int))(hc:ah.gy x k (ah.fd x k j)=[(c:Int)])(h6:x.ai.length<=6)(h10:∀k:Nat,(ah.kd x k).aA.length<=10)
  (v:Value)(S:Nat->Prop)(w:World)(hv:fA S w v x):
  Calls Tryz.prog 138 #[v,.int .i64 (k:Int),.int .i64 (j:Int)] w fun e w'=>e=.returned (.tuple #[.int .i64 (o:Int),.int .i64 (c:Int)])/\BL w w':=by
 have agE:∀q∈x.ai,q.aA.length<=1000:=fun q hq=>by
  obtain⟨i,hi,rfl⟩:=List.getElem_of_mem hq;have:=h10 i;rw[gm hi] at this;omega
 have HB:Hid (ah.hasB x k j=true):=hid (NF aC aC aC aC);obtain⟨ak,ck,al,cl,ar,cr,rfl, -⟩:=hv.form;obtain⟨w1,hw1⟩:=aV (di w x.aI (.slice ak x.ai.length ck) (.slice al x.aN.length cl) (.slice ar x.aO.length cr));have bf:=r9 hw1;have HX:=wv hw1;unfold di at hw1;have HW1:=hid hw1;clear hw1;have nF:=hid (mN x k j _ S w1 (hv.keep (aB.below bf.out)));have Ld:=hid (fun(X:World) (hX:BL w X) (uw ug:Value)=>BZ x k aC (ah.fd x k j) _ uw ug S X (hv.keep (aB.below hX)) aC agE);have HE:Hid (jZ x k j=ah.fd x k j):=hid (by unfold jZ;rw[if_pos HB.out]);have HO:=hid ho;have HC:=hid hc;clear hv ho hc agE;obtain⟨⟨y0,y1,y2,y3⟩, -⟩:=aW (HX.out w1 ay);go_enter Tryz.func138,Tryz.ntmps138;go_upto_region 1 with fail;rw[<-HW1.out];go_wp2_with fail;refine nF.out.mono ?_;rintro e w2 ⟨a1,n1,c1,a2,n2,c2,rfl, -,hb⟩;rw[HB.out,HE.out];have eC:Hid (BL w1 w2):=hid hb;have bK:=aJ bf hb;clear hb y0 y1 y2 y3;generalize ah.fd x k j=f at*;obtain⟨fn,fo,fu,fk,fl,fh,JY,JZ⟩:=f;unfold cV;simp only;obtain⟨w3,hw3⟩:=aV (w2.alloc (.cells #[.string fn,.string fo,.string fu,.int .i64 fk,.int .i64 fl,.int .i64 fh,.slice a1 n1 c1,.slice a2 n2 c2] 92));have gj:Hid (Below w1.heap.size w1 w3):=hid J9;have bZ:Hid (Below w.heap.size w w3):=hid QZ;have Na:Hid (w3.heap[w2.heap.size]?=some (.cells #[.string fn,.string fo,.string fu,.int .i64 fk,.int .i64 fl,.int .i64 fh,.slice a1 n1 c1,.slice a2 n2 c2] 92 (0,0))):=hid acd;have HW3:=hid hw3;clear hw3;go_upto_region 4 with fail;rw[<-HW3.out];obtain⟨⟨y0,y1,y2,y3⟩, -⟩:=aW (HX.out w3 gj.out);obtain⟨⟨f0,f1,f2,f3,f4,f5,f6,f7⟩, -⟩:=dY Na.out;go_wp2_with fail;refine(Ld.out w3 bZ.out (.slice a1 n1 c1) (.slice a2 n2 c2)).mono ?_;rintro e w4 ⟨a,cap,rfl,hif,hb4⟩;rw[HO.out];rw[HC.out] at hif ⊢;obtain⟨a',cap',ea,hsa, -, -⟩:=hif.sl.form;obtain⟨u0,hu0, -,hu1⟩:=hif.sl.at (j:=0) aZ;obtain rfl:u0=_:=hu1;simp only[List.getElem_cons_zero] at hu0;have f9:=aJ bZ hb4;simp only[List.length_cons,List.length_nil,Nat.zero_add] at ea hsa hu0 ⊢;cases ea;rw[Nat.add_zero] at hu0;clear hif hb4 y0 y1 y2 y3 f0 f1 f2 f3 f4 f5 f6 f7;go_wp2;go_quiet (fail);go_wp2;go_ret2;exact⟨rfl,aG f9.out _⟩
def Zu(f:Nat->Nat->Nat->Int)(k j i:Nat):Nat->Nat->Nat->Int:=fun k' i' j'=>if k'=k/\j'=j/\i'<i then 0 else f k' i' j'
theorem Vt(f:Nat->Nat->Nat->Int)(k j:Nat):Zu f k j 0=f:=by
 funext k' i' j';unfold Zu;simp
theorem Vu(f:Nat->Nat->Nat->Int)(k j i:Nat):Cx (Zu f k j i) k i j 0=Zu f k j (i+1):=by
 funext k' i' j';unfold Cx Zu;by_cases h:k'=k/\i'=i/\j'=j
 ·obtain⟨rfl,rfl,rfl⟩:=h
  simp
 ·rw[if_neg h]
  by_cases h2:k'=k/\j'=j/\i'<i
  ·rw[if_pos h2,if_pos ⟨h2.1,h2.2.1,by omega⟩]
  ·rw[if_neg h2,if_neg (fun h3=>by
    by_cases e:i'=i
    ·exact h ⟨h3.1,e,h3.2.1⟩
    ·exact h2 ⟨h3.1,h3.2.1,by omega⟩)]
def acc(f:Nat->Nat->Nat->Int)(k j:Nat)(U V:Nat->Int)(a:Nat):Nat->Nat->Nat->Int:=fun k' i' j'=>if k'=k/\j'=j then aR.sumOf a U V i' else f k' i' j'
theorem Zv{K:Nat}{n m:Nat->Nat}{f:Nat->Nat->Nat->Int}{k j:Nat}{U V:Nat->Int}:aR.tab K n m (Zu f k j (n k))=aR.tab K n m (acc f k j U V 0):=by
 refine aR.wW (fun _ _=>rfl) fun k' i' j' _ hi _=>?_;unfold Zu acc;by_cases h:k'=k/\j'=j
 ·obtain⟨rfl,rfl⟩:=h
  rw[if_pos ⟨rfl,rfl,hi⟩,if_pos ⟨rfl,rfl⟩];rfl
 ·rw[if_neg (fun h2=>h ⟨h2.1,h2.2.1⟩),if_neg h]
theorem Fc{f:Nat->Nat->Nat->Int}{k j o a b c:Nat}{U V:Nat->Int}(h:o≠k):acc f k j U V a o b c=f o b c:=by
 unfold acc;rw[if_neg (fun h2=>h h2.1)]
theorem Vv{f:Nat->Nat->Nat->Int}{k j a i:Nat}{U V:Nat->Int}:acc f k j U V a k i j=aR.sumOf a U V i:=by
 unfold acc;rw[if_pos ⟨rfl,rfl⟩]
theorem Vw{f:Nat->Nat->Nat->Int}{k j a i:Nat}{U V:Nat->Int}(h:U a=(i:Int)):Cx (acc f k j U V a) k i j (aR.sumOf a U V i+V a)=acc f k j U V (a+1):=by
 funext k' i' j';unfold Cx acc;by_cases hk:k'=k/\j'=j
 ·obtain⟨rfl,rfl⟩:=hk
  by_cases hi:i'=i
  ·subst hi
   rw[if_pos ⟨rfl,rfl,rfl⟩,if_pos ⟨rfl,rfl⟩,aR.vg,if_pos h]
  ·rw[if_neg (fun e=>hi e.2.1),if_pos ⟨rfl,rfl⟩,if_pos ⟨rfl,rfl⟩,aR.vg,if_neg aC]
   omega
 ·rw[if_neg (fun e=>hk ⟨e.1,e.2.2⟩),if_neg hk,if_neg hk]
theorem zX{U V:Nat->Int}{i:Int}:∀{n:Nat},(∀b,b<n-> -1000<=V b/\V b<=1000)-> -(1000*(n:Int))<=aR.sumOf n U V i/\aR.sumOf n U V i<=1000*(n:Int)
 |0,_=>by simp[aR.LN]
 |n+1,h=>by
  have ih:=zX (U:=U) (V:=V) (i:=i) (n:=n) (fun b hb=>h b aC);have h1:=h n aC;rw[aR.vg];split<;>omega
theorem aby{p:Prop}(h:p:=by
  go_wp2
  go_roundw
  case rel=>exact⟨a+1,by omega,by go_num,hid HN.out.1,hid HN.out.2.1,hid HN.out.2.2⟩
  simp[intOf]
  omega):p:=h
theorem Vx(x:ah.bF)(hx:ah.okB x=true)(h6:x.ai.length<=6)(h10:∀k:Nat,(ah.kd x k).aA.length<=10)(n:Nat->Nat)(f:Nat->Nat->Nat->Int)(k j:Nat)(hk:k<x.ai.length)(hj:j<(ah.kd x k).aA.length)(Rw:(ah.fd x k j).kind=6)(hn:∀k,n k<=512)
  (Zw:∀a,a<n (aR.eW x k j)->0<=f (aR.eW x k j) a (aR.oO x k j)/\f (aR.eW x k j) a (aR.oO x k j)<n k)(LO:∀a,a<n (aR.eW x k j)-> -1000<=f (aR.eW x k j) a (aR.rF x k j)/\f (aR.eW x k j) a (aR.rF x k j)<=1000)
  (v uw:Value)(Sv S:Nat->Prop)(w:World)(hv:fA Sv w v x)(hW:bY S w uw (aR.tab x.ai.length n (fun k:Nat=>(ah.kd x k).aA.length) f)):
  Calls Tryz.prog 116 #[v,uw,.int .i64 (k:Int),.int .i64 (j:Int)] w fun e w'=>(∃r,e=.returned r)/\bY S w' uw (aR.tab x.ai.length n (fun k:Nat=>(ah.kd x k).aA.length) (fun k' i' j'=>if k'=k/\j'=j then aR.sumOf (n (aR.eW x k j)) (fun a=>f (aR.eW x k j) a (aR.oO x k j)) (fun a=>f (aR.eW x k j) a (aR.rF x k j)) i' else f k' i' j'))/\Turns S w w':=by
 obtain⟨o1,o2,o3,o4,o5,o6,o7,o8,o9,o10⟩:=aR.E3 hx hk hj Rw;obtain⟨o,ho⟩:=aV (aR.eW x k j);obtain⟨sh,hsh⟩:=aV (aR.rF x k j);obtain⟨ld,LI⟩:=aV (aR.oO x k j);rw[<-ho] at o1 o2 o3 o4 o5 o6 o7 o8 o10 Zw LO ⊢;rw[<-hsh] at o2 o4 o9 o10 LO ⊢;rw[<-LI] at o3 o5 o6 o10 Zw ⊢;have Zx:=hid (fun(X:World) (hX:BL w X)=>Gh x k j o sh hk hj o8 o9 h6 h10 v Sv X (hv.keep (aB.below hX)));obtain⟨ak,ck,al,cl,ar,cr,rfl,hkv, -, -,hsk, -, -⟩:=hv.form;obtain⟨nJ,hSk,k0,k1,k2,uf,k3,Ri⟩:=gJ.at hkv o1;obtain⟨af,cf,rfl,hsf, -, -⟩:=Ri.form;have o2':sh<x.ai[o].aA.length:=by rw[<-gm o1];exact o2
 obtain⟨J2,hSf,f0,f1,f2, -⟩:=dJ.at Ri o2';have xT:=hid (fun(X:World) (hX:BL w X)=>lg x.ai[o] x.ai[o].aA[sh].up (.slice af x.ai[o].aA.length cf) Sv X (Ri.keep (aB.below hX)))
 have ad0:Hid (ah.bB x.ai[o] x.ai[o].aA[sh].up=(ld:Int)):=hid (by
  have e1:=o10
  rw[uF o1 o2',gm o1] at e1
  exact e1)
 have vG:Hid (∀X,BL w X->X.cell? ⟨bD ak,bJ ak+o*4,none⟩=some (.string x.ai[o].name)/\X.cell? ⟨bD ak,bJ ak+o*4+1,none⟩=some (.int .i64 x.ai[o].lo)/\X.cell? ⟨bD ak,bJ ak+o*4+2,none⟩=some (.int .i64 x.ai[o].hi)/\
   X.cell? ⟨bD ak,bJ ak+o*4+3,none⟩=some (.slice af x.ai[o].aA.length cf)/\X.cell? ⟨bD af,bJ af+sh*8+2,none⟩=some (.string x.ai[o].aA[sh].up)):=hid (fun X hX=>
  ⟨(hX.cell (p:=⟨bD ak,bJ ak+o*4,none⟩) nJ).trans k0,(hX.cell (p:=⟨bD ak,bJ ak+o*4+1,none⟩) nJ).trans k1,(hX.cell (p:=⟨bD ak,bJ ak+o*4+2,none⟩) nJ).trans k2,(hX.cell (p:=⟨bD ak,bJ ak+o*4+3,none⟩) nJ).trans k3,(hX.cell (p:=⟨bD af,bJ af+sh*8+2,none⟩) J2).trans f2⟩)
 obtain⟨w1,hw1⟩:=aV (di w x.aI (.slice ak x.ai.length ck) (.slice al x.aN.length cl) (.slice ar x.aO.length cr));have bf:=r9 hw1;have HX:=wv hw1;unfold di at hw1;have HW1:=hid hw1;have hne:o≠k:=by omega
 have Ul:(0:Int)<=(o:Int):=by omega
 have Pp:(o:Int)<(x.ai.length:Int):=by omega
 have hs0:(0:Int)<=(sh:Int):=by omega
 have hs1:(sh:Int)<(x.ai[o].aA.length:Int):=by omega
 have hk0:(0:Int)<=(k:Int):=by omega
 have hk1:(k:Int)<(x.ai.length:Int):=by omega
 have hj0:(0:Int)<=(j:Int):=by omega
 have hl0:(0:Int)<=(ld:Int):=by omega
 have HHW:=hid hW;have HJ:=hid hj;have xS:Hid (ld<(ah.kd x o).aA.length):=hid o3;have Ld:Hid (sh<(ah.kd x o).aA.length):=hid o2;have HRef:=hid Zw;have agF:=hid LO;have Rs:=hid hn;clear hw1 hv hkv Ri k0 k1 k2 k3 f0 f1 f2 o2 o3 o4 o5 o6 o8 o9 o10 hW Zw LO ho hsh LI hSk hSf nJ J2 hn hj Rw;obtain⟨nf,hnf⟩:=aV (x.ai[o].aA.length);rw[<-hnf] at hsf hs1 vG xT;obtain⟨kd,hkd⟩:=aV (x.ai[o]);obtain⟨fup,agG⟩:=aV (x.ai[o].aA[sh].up);rw[<-agG] at vG xT ad0;rw[<-hkd] at vG xT ad0;clear agG o2';obtain⟨kn,kl,kh,kf⟩:=kd;unfold lU at xT;simp only at vG xT;clear hkd hnf;obtain⟨⟨y0,y1,y2,y3⟩, -⟩:=aW (HX.out w1 ay);go_enter Tryz.func116,Tryz.ntmps116;go_upto_region 1 with fail;rw[<-HW1.out];go_wp2_with fail;refine(Zx.out w1 bf.out).mono ?_;rintro e w2 ⟨rfl,hb⟩;have eC:Hid (BL w1 w2):=hid hb;have bK:=aJ bf hb;clear hb y0 y1 y2 y3;go_upto_region 2 with fail;have Vo:=dL w2 ⟨w.heap.size,1,none⟩ (.slice ak x.ai.length ck) fun xh=>(aW (HX.out xh.1 (cO eC.out xh.2))).1.2.1;have Lh:=dL w2 ⟨bD ak,bJ ak+o*4,none⟩ (.string kn) fun xh=>(vG.out xh.1 (cO bK.out xh.2)).1;have UZ:=dL w2 ⟨bD ak,bJ ak+o*4+1,none⟩ (.int .i64 kl) fun xh=>(vG.out xh.1 (cO bK.out xh.2)).2.1;have U0:=dL w2 ⟨bD ak,bJ ak+o*4+2,none⟩ (.int .i64 kh) fun xh=>(vG.out xh.1 (cO bK.out xh.2)).2.2.1;have Li:=dL w2 ⟨bD ak,bJ ak+o*4+3,none⟩ (.slice af nf cf) fun xh=>(vG.out xh.1 (cO bK.out xh.2)).2.2.2.1;have hqf2:=dL w2 ⟨bD af,bJ af+sh*8+2,none⟩ (.string fup) fun xh=>(vG.out xh.1 (cO bK.out xh.2)).2.2.2.2;refine dU 15 (.quiet 0 (.quiet 1 (.quiet 2 (.quiet 3 (.quiet 4 (.quiet 5 (.quiet 6 (.quiet 7 (.quiet 8 (.quiet 9 (.quiet 10 (.quiet 11 (.quiet 12 (.quiet 13 (.quiet 14 .done))))))))))))))) (BL w2) lN (by kernel_rfl) (aG ay 1) ?_;have gj:Hid (BL w1 (w2.drewN 1)):=hid (aG eC.out 1);have bZ:Hid (BL w (w2.drewN 1)):=hid (aG bK.out 1);generalize w2.drewN 1=w3 at*
 iterate 15 refine eB ?_
 refine aT ?_;try simp only[iW,iX]
 clear Vo Lh UZ U0 Li hqf2;go_wp2_with fail;refine(xT.out w3 bZ.out).mono ?_;rintro e w4 ⟨rfl,hb4⟩;have f9:=aJ bZ hb4;rw[ad0.out];clear hb4;have Dq:Hid (bY S w4 uw (aR.tab x.ai.length n (fun k:Nat=>(ah.kd x k).aA.length) f)):=hid (cC.keep HHW.out (aB.below f9.out));have OH:Hid (Turns S w w4):=hid (Turns.aQ f9.out);clear HHW;obtain⟨go,co,ka,kc,rfl,agH,hkc,hkm,Cy⟩:=sV Dq.out hk;have E7:=Cy w4 (fun _ _ _=>rfl);have HGc:=hid E7;clear Cy;go_wp2;clear E7;go_loopw [43] (fun ii wr=>∃i:Nat,i<=n k/\ii=.int .i64 i/\Hid (bY S wr (.slice (some ⟨go,0,none⟩) x.ai.length co) (aR.tab x.ai.length n (fun k:Nat=>(ah.kd x k).aA.length) (Zu f k j i)))/\Hid (Turns S w wr)/\Hid (wr.cell? ⟨go,k,none⟩=some (.slice ka (n k) kc))) (fun ii _=>n k-(intOf ii).toNat);case atStart=>exact⟨0,Nat.zero_le _,rfl,hid (by rw[Vt];exact Dq.out),OH,HGc⟩
 case round=>
  obtain⟨i,hi,rfl,Zm,zU,NQ⟩:=hrel;by_cases hlt:i<n k
  ·have hi0:(0:Int)<=(i:Int):=by omega
   have hi1:(i:Int)<(n k:Int):=by omega
   obtain⟨go',co',gk,ck',gi,ci,hR⟩:=qI Zm.out hk hlt (by have:=HJ.out;omega:0<(ah.kd x k).aA.length);have hf:=hR.form;cases hf;obtain⟨r1,r2,r3,go3,hgo3⟩:=hR.rd wr (fun _ _ _=>rfl);have hkk:=r1.symm.trans NQ.out;simp only[Option.some.injEq,Value.slice.injEq] at hkk;obtain⟨rfl, -,rfl⟩:=hkk;obtain⟨r4,r5⟩:=r3 j HJ.out;have hj1:(j:Int)<((ah.kd x k).aA.length:Int):=by have:=HJ.out;omega
   have HN:Hid (bY S (wr.setCell ⟨gi,j,none⟩ (.int .i64 0)) (.slice (some ⟨go,0,none⟩) x.ai.length co) (aR.tab x.ai.length n (fun k:Nat=>(ah.kd x k).aA.length) (Zu f k j (i+1)))):=hid (by
    rw[<-Vu]
    exact hR.set wr (fun _ _ _=>rfl) j HJ.out 0)
   have HTn:Hid (Turns S w (wr.setCell ⟨gi,j,none⟩ (.int .i64 0))):=hid (zU.out.setCell _ _ hR.blk)
   have HGn:Hid ((wr.setCell ⟨gi,j,none⟩ (.int .i64 0)).cell? ⟨go,k,none⟩=some (.slice (some ⟨gk,0,none⟩) (n k) ck')):=hid (by
    rw[World.cell?_of_block (w:=wr) (a:=⟨go,k,none⟩) (nZ _ _ _ _ (fun e=>hR.ne1 (Eq.symm e)))]
    exact r1)
   clear r3 hgo3 hR r1;generalize (ah.kd x k).aA.length=mk at*;go_wp2;go_roundw;case rel=>exact⟨i+1,by omega,by go_num,HN,HTn,HGn⟩
   simp[intOf];omega
  ·obtain rfl:n k=i:=by omega
   have hok:o<x.ai.length:=by omega
   have HA0:Hid (bY S wr (.slice (some ⟨go,0,none⟩) x.ai.length co) (aR.tab x.ai.length n (fun k:Nat=>(ah.kd x k).aA.length) (acc f k j (fun a=>f o a ld) (fun a=>f o a sh) 0))):=hid (by
    rw[<-Zv (n:=n)]
    exact Zm.out)
   obtain⟨go',co',oa,oc,hf,hoo,hoc,hom,Vy⟩:=sV HA0.out hok;cases hf;have hgo:=Vy wr (fun _ _ _=>rfl);have HGo:=hid hgo;clear Vy;go_wp2;clear hgo;generalize Ry:wr=Wb at*;go_loopw [56] (fun aa wr=>∃a:Nat,a<=n o/\aa=.int .i64 a/\Hid (bY S wr (.slice (some ⟨go,0,none⟩) x.ai.length co) (aR.tab x.ai.length n (fun k:Nat=>(ah.kd x k).aA.length) (acc f k j (fun a=>f o a ld) (fun a=>f o a sh) a)))/\Hid (Turns S w wr)/\Hid (wr.cell? ⟨go,o,none⟩=some (.slice oa (n o) oc))) (fun aa _=>n o-(intOf aa).toNat);case atStart=>exact⟨0,Nat.zero_le _,rfl,HA0,zU,HGo⟩
   case round=>
    obtain⟨a,ha,rfl,HWa,Gi,HGa⟩:=hrel;by_cases hat:a<n o
    ·have ha0:(0:Int)<=(a:Int):=by omega
     have ha1:(a:Int)<(n o:Int):=by omega
     obtain⟨go1,co1,gk1,ck1,gi1,ci1,hR1⟩:=qI HWa.out hok hat (by have:=xS.out;omega:0<(ah.kd x o).aA.length);have hf1:=hR1.form;cases hf1;obtain⟨r1,r2,r3, -⟩:=hR1.rd wr (fun _ _ _=>rfl);have hkk:=r1.symm.trans HGa.out;simp only[Option.some.injEq,Value.slice.injEq] at hkk;obtain⟨rfl, -,rfl⟩:=hkk;have hrf:=HRef.out a hat;obtain⟨i',hi'⟩:∃m:Nat,f o a ld=(m:Int):=⟨(f o a ld).toNat,by omega⟩;have hi'n:i'<n k:=by omega
     obtain⟨go2,co2,gk2,ck2,gi2,ci2,hR2⟩:=qI HWa.out hk hi'n (by have:=HJ.out;omega:0<(ah.kd x k).aA.length);have hf2:=hR2.form;cases hf2;have hbd:=zX (U:=fun a=>f o a ld) (V:=fun a=>f o a sh) (i:=(i':Int)) (n:=a) (fun b hb=>agF.out b aC);have hs:=agF.out a hat;have Je:=Rs.out o;obtain⟨cur,hcur⟩:=aV (aR.sumOf a (fun a=>f o a ld) (fun a=>f o a sh) (i':Int));obtain⟨fs,hfs⟩:=aV (f o a sh);rw[<-hcur] at hbd;rw[<-hfs] at hs;have hc0: -1000000<=cur:=by omega
     have hc1:cur<=1000000:=by omega
     have hs0':=hs.1;have hs1':=hs.2
     have RA:Hid (∀X,BL wr X->X.cell? ⟨go,o,none⟩=some (.slice (some ⟨gk1,0,none⟩) (n o) ck1)/\X.cell? ⟨gk1,a,none⟩=some (.slice (some ⟨gi1,0,none⟩) (ah.kd x o).aA.length ci1)/\X.cell? ⟨gi1,ld,none⟩=some (.int .i64 (i':Int))/\X.cell? ⟨gi1,sh,none⟩=some (.int .i64 fs)/\
       X.cell? ⟨go,k,none⟩=some (.slice (some ⟨gk2,0,none⟩) (n k) ck2)/\X.cell? ⟨gk2,i',none⟩=some (.slice (some ⟨gi2,0,none⟩) (ah.kd x k).aA.length ci2)/\X.cell? ⟨gi2,j,none⟩=some (.int .i64 cur)/\X.frozen? ⟨gi2,j,none⟩=false):=hid (fun X hX=>by
      obtain⟨e1,e2,e3, -⟩:=hR1.rd X (aB.below hX);obtain⟨e4,e5,e6, -⟩:=hR2.rd X (aB.below hX);refine⟨e1,e2,?_,?_,e4,e5,?_,(e6 j HJ.out).2⟩
      ·rw[(e3 ld xS.out).1,Fc hne,hi']
      ·rw[(e3 sh Ld.out).1,Fc hne,hfs]
      ·rw[(e6 j HJ.out).1,Vv,hcur])
     have yV:Hid (∀X,BL wr X->bY S (X.setCell ⟨gi2,j,none⟩ (.int .i64 (cur+fs))) (.slice (some ⟨go,0,none⟩) x.ai.length co) (aR.tab x.ai.length n (fun k:Nat=>(ah.kd x k).aA.length) (acc f k j (fun a=>f o a ld) (fun a=>f o a sh) (a+1)))/\Turns S w (X.setCell ⟨gi2,j,none⟩ (.int .i64 (cur+fs)))/\
       (X.setCell ⟨gi2,j,none⟩ (.int .i64 (cur+fs))).cell? ⟨go,o,none⟩=some (.slice (some ⟨gk1,0,none⟩) (n o) ck1)):=hid (fun X hX=>by
      refine⟨?_,(Gi.out.trans (Turns.aQ hX)).setCell _ _ hR2.blk,?_⟩
      ·rw[<-Vw (f:=f) (k:=k) (j:=j) (a:=a) (i:=i') (U:=fun a=>f o a ld) (V:=fun a=>f o a sh) hi',<-hcur,<-hfs]
       exact hR2.set X (aB.below hX) j HJ.out _
      ·rw[World.cell?_of_block (w:=X) (a:=⟨go,o,none⟩) (nZ _ _ _ _ (fun e=>hR2.ne1 (Eq.symm e)))]
       exact(RA.out X hX).1)
     have hj1:(j:Int)<((ah.kd x k).aA.length:Int):=by have:=HJ.out;omega
     have hl1:(ld:Int)<((ah.kd x o).aA.length:Int):=by have:=xS.out;omega
     have hh1:(sh:Int)<((ah.kd x o).aA.length:Int):=by have:=Ld.out;omega
     have Dk:(0:Int)<=(i':Int):=by omega
     have hq1:(i':Int)<(n k:Int):=by omega
     clear r3 hR1 hR2 hrf hi' hbd hcur hfs hs r1;generalize (ah.kd x k).aA.length=mk at*;generalize (ah.kd x o).aA.length=mo at*;go_upto_region 11 with fail;have hqa:=dL wr ⟨go,k,none⟩ (.slice (some ⟨gk2,0,none⟩) (n k) ck2) fun xh=>(RA.out xh.1 xh.2).2.2.2.2.1;have Jd:=dL wr ⟨gi1,ld,none⟩ (.int .i64 (i':Int)) fun xh=>(RA.out xh.1 xh.2).2.2.1;have hqc:=dL wr ⟨gk2,i',none⟩ (.slice (some ⟨gi2,0,none⟩) mk ci2) fun xh=>(RA.out xh.1 xh.2).2.2.2.2.2.1;have hqd:=dL wr ⟨gi2,j,none⟩ (.int .i64 cur) fun xh=>(RA.out xh.1 xh.2).2.2.2.2.2.2.1;have hqe:=dL wr ⟨gi1,sh,none⟩ (.int .i64 fs) fun xh=>(RA.out xh.1 xh.2).2.2.2.1;refine sQ wr 17 (.quiet 0 (.quiet 1 (.quiet 2 (.quiet 3 (.quiet 4 (.quiet 5 (.quiet 6 (.quiet 7 (.quiet 8 (.quiet 9 (.quiet 10 (.quiet 11 (.quiet 12 (.quiet 13 (.quiet 14 (.quiet 15 (.quiet 16 .done))))))))))))))))) lN (by kernel_rfl) fun w8 J6=>?_
     iterate 17 refine eB ?_
     refine aT ?_;try simp only[iW,iX]
     clear hqa Jd hqc hqd hqe;obtain⟨-, -, -, -, -, -,e7,e8⟩:=RA.out w8 J6.out;have HN:=hid (yV.out w8 J6.out);clear yV RA;exact aby
    ·obtain rfl:n o=a:=by omega
     have pH:=hid HWa.out;go_wp2;go_end0;exact⟨⟨_,rfl⟩,pH.out,Gi.out⟩
namespace aR
open ah (cG bF)
def L7(W:cG)(k i:Nat):List Int:=(W.getD k []).getD i []
def mg(W:cG)(K:Nat)(pre:List (Nat×Nat)):cG:=(List.range K).map fun k=>(pre.filter fun p=>decide (p.1=k)).map fun p=>L7 W k p.2
theorem Jk(W:cG)(K:Nat)(pre:List (Nat×Nat)):(mg W K pre).length=K:=by simp[mg]
theorem A6{W:cG}{K:Nat}{pre:List (Nat×Nat)}{k:Nat}(h:k<(mg W K pre).length):(mg W K pre)[k]=(pre.filter fun p=>decide (p.1=k)).map fun p=>L7 W k p.2:=by simp[mg]
theorem Vz(W:cG)(K:Nat):mg W K []=List.replicate K []:=by
 refine List.ext_getElem (by simp[mg]) fun k h1 h2=>?_;rw[A6];simp
theorem Qn{W:cG}{K:Nat}{pre:List (Nat×Nat)}{k i:Nat}(hk:k<(mg W K pre).length):mg W K (pre++[(k,i)])=(mg W K pre).set k ((mg W K pre)[k]++[L7 W k i]):=by
 rw[A6];unfold mg;rw[lK];refine List.map_congr_left fun k' _=>?_;rw[List.filter_append];by_cases e:k'=k
 ·subst e
  simp
 ·rw[if_neg e]
  have:¬k=k':=fun h=>e h.symm;simp[this]
theorem Cz(s:Sub.S)(k:Nat):∀n,Sub.mH k (s.getD k []) n=(mG s k n).map fun i=>(k,i)
 |0=>rfl
 |n+1=>by
  rw[Sub.nN,qF,Cz s k n,List.map_append];congr 1;show (if (s.getD k []).getD n false=true then _ else _)=List.map _ (if (s.getD k []).getD n false=true then _ else _)
  split<;>rfl
theorem L8(k k':Nat)(l:List Bool):(Sub.wC k' l).filter (fun p=>decide (p.1=k))=if k'=k then Sub.wC k' l else []:=by
 have h:∀p∈Sub.wC k' l,p.1=k':=fun p hp=>by
  unfold Sub.wC at hp;rw[List.mem_filterMap] at hp;obtain⟨i,_,h⟩:=hp;split at h
  ·cases h;rfl
  ·cases h
 by_cases e:k'=k
 ·rw[if_pos e,List.filter_eq_self]
  intro p hp;rw[h p hp,e];exact decide_eq_true rfl
 ·rw[if_neg e,List.filter_eq_nil_iff]
  intro p hp;rw[h p hp];simpa using e
theorem xB(s:Sub.S)(k:Nat):∀K,(Sub.iU s K).filter (fun p=>decide (p.1=k))=if k<K then Sub.wC k (s.getD k []) else []
 |0=>by simp[Sub.iU]
 |K+1=>by
  rw[Sub.lu,List.filter_append,xB s k K,L8];by_cases e:k<K
  ·rw[if_pos e,if_neg aC,if_pos aC,List.append_nil]
  ·by_cases e2:K=k
   ·subst e2
    rw[if_neg e,if_pos rfl,if_pos aC];rfl
   ·rw[if_neg e,if_neg e2,if_neg aC]
    rfl
theorem rC{W:cG}{s:Sub.S}(h:Sub.Fit (shape W) s){k:Nat}(hk:k<W.length):(Sub.kept s).filter (fun p=>decide (p.1=k))=(mG s k (bV W k)).map fun i=>(k,i):=by
 have h1:s.length=W.length:=by have:=h.1;rwa [tO] at this
 have h2:=h.2 k;rw[nM] at h2;rw[<-Sub.yH,xB,if_pos aC,<-Sub.pT,Cz,h2]
theorem Qo{W:cG}{m:Nat->Nat}{s:Sub.S}(h:Sub.Fit (shape W) s)(hm:∀k (hk:k<W.length),∀r∈W[k],r.length=m k):mg W W.length (Sub.kept s)=tab W.length (fun k=>eD s k (bV W k)) m (cell0 W s):=by
 unfold mg tab;refine List.map_congr_left fun k hk=>?_;rw[List.mem_range] at hk;rw[rC h hk,List.map_map];refine List.ext_getElem (by simp[eD]) fun a h1 h2=>?_;have h1':a<(mG s k (bV W k)).length:=by simpa using h1
 simp only[List.getElem_map,Function.comp_apply,List.getElem_range];have ho:sM s k (bV W k) a=(mG s k (bV W k))[a]'h1':=by unfold sM;rw[Sub.aX h1']
 have hlt:a<eD s k (bV W k):=h1';have hold:=A4 hlt;rw[<-ho];have hkk:W.getD k []=W[k]:=Sub.aX hk
 have hil:sM s k (bV W k) a<W[k].length:=by
  have e:bV W k=W[k].length:=by unfold bV;rw[hkk]
  have:=hold.2.2;omega
 have hrow:L7 W k (sM s k (bV W k) a)=W[k][sM s k (bV W k) a]:=by unfold L7;rw[hkk,Sub.aX hil]
 have hrl:=hm k hk _ (gY hil);rw[hrow];refine List.ext_getElem (by simp[hrl]) fun j e1 e2=>?_;simp only[List.getElem_map,List.getElem_range];unfold cell0;rw[Ga hk hil e1]
theorem Zy{W:cG}{s:Sub.S}(h:Sub.Fit (shape W) s){pre:List (Nat×Nat)}{k i:Nat}(hp:pre++[(k,i)]<+:Sub.kept s):(pre.filter fun p=>decide (p.1=k)).length=eD s k i:=by
 have hmem:(k,i)∈Sub.kept s:=hp.subset aZ;obtain⟨hk,hi⟩:=yF h (Sub.dX.1 hmem);obtain⟨t,ht⟩:=hp;have e:=rC h hk;rw[<-ht,List.filter_append,List.filter_append] at e;have e2:List.filter (fun p:Nat×Nat=>decide (p.1=k)) [(k,i)]=[(k,i)]:=by simp
 rw[e2,List.append_assoc] at e;have h3:=congrArg (fun l=>l[(pre.filter fun p=>decide (p.1=k)).length]?) e;simp only[List.getElem?_append_right aH,Nat.sub_self,List.singleton_append,List.getElem?_cons_zero,List.getElem?_map] at h3;cases h4:(mG s k (bV W k))[(pre.filter fun p=>decide (p.1=k)).length]? with
 |none=>rw[h4] at h3;cases h3
 |some q=>
  rw[h4] at h3
  simp only[Option.map_some,Option.some.injEq,Prod.mk.injEq] at h3
  obtain⟨-,rfl⟩:=h3
  exact(Cd h4).1.symm
end aR
theorem dK.put{w:World}{b n:Nat}{f:Int->Int->Int}(h:dK w b n f)(hn:n<=1000000){a c:Int}(ha:tN a)(hc:tN c){v:Int}(hv:tN v):
  ∃w',(Instr.mapUpdate 174 (.map (some b)) (rA a c) (.int .i64 v)).run Tryz.prog w=.ok () w'/\dK w' b (n+1) (wV f a c v)/\Turns (·=b) w w':=by
 obtain⟨D,h1,h2⟩:=h;have jI:n<maxLen:=by have:maxLen=9223372036854775807:=rfl;omega
 obtain⟨w',hrun,how,hg⟩:=h1.update Jc LK jI (yE ha hc) (val:=.int .i64 v) (d:=.lit (.int .i64 v)) (ps:=[]) (plainElem_int F7 hv.wf);refine⟨w',hrun,⟨_,how,fun a' c' ha' hc'=>?_⟩,Turns.iq hg (fun b' e=>by cases e;rfl)⟩;exact abh
def CA(w:World)(b:Nat):Prop:=∃c t fr,w.heap[b]?=some (.cells c t fr)
theorem uL{w:World}{base:Nat}{e:TypeId}{size:Nat}{v:Value}{n:Nat}{us:List Value}(h:w.ownsRow base e size v n us):∀b,v.ownBlock=some b->CA w b:=by
 intro b hb;rcases h.2 with⟨h2,_⟩|⟨g,cap,cur,rfl,hb2,hg,r⟩
 ·rw[h2] at hb;cases hb
 ·cases hb
  exact⟨_,_,_,hg⟩
theorem Jl{S:Nat->Prop}{w:World}{v:Value}{xs:List Int}(h:dr S w v xs):dr (fun b=>S b/\CA w b) w v xs:=⟨h.1,fun b hb=>⟨h.2 b hb,uL h.1 b hb⟩⟩
theorem CD{α:Type}{RR:(Nat->Prop)->World->Value->α->Prop}(hS:fG RR){w:World}(hR:∀{S u x},RR S w u x->RR (fun b=>S b/\CA w b) w u x){e:TypeId}{S:Nat->Prop}{v:Value}{xs:List α}(h:iM RR e S w v xs):iM RR e (fun b=>S b/\CA w b) w v xs:=by
 obtain⟨h1,us,Z,h2,h3,h4⟩:=h;exact⟨fun b hb=>⟨h1 b hb,uL h2 b hb⟩,us,Z,h2,h3,fun j a b=>hS.mono (hR (h4 j a b)) (fun b' _ hb=>⟨⟨hb.1.1,hb.2⟩,hb.1.2⟩)⟩
theorem Jm{S:Nat->Prop}{w:World}{v:Value}{xs:List (List Int)}(h:lP S w v xs):lP (fun b=>S b/\CA w b) w v xs:=CD (RR:=dr) bP (fun h=>Jl h) h
theorem Gj{S:Nat->Prop}{w:World}{v:Value}{xs:ah.cG}(h:bY S w v xs):bY (fun b=>S b/\CA w b) w v xs:=CD (RR:=lP) gF (fun h=>Jm h) h
namespace aR
open ah (cG bF)
theorem L9(x:bF):(cN x).Pairwise fun r r'=>¬(r.kind=r'.kind/\r.field=r'.field):=by
 have hmem:∀{k n:Nat} {r:Ref},r∈kN x k n->r.kind=k:=fun {k n r} h=>by
  unfold kN at h;rw[List.mem_flatMap] at h;obtain⟨j,_,h⟩:=h;unfold sD at h;split at h
  ·rw[nU] at h;rw[h]
  ·simp at h
 unfold cN q9;refine List.pairwise_flatMap.2 ⟨fun k _=>?_,List.nodup_range.imp fun {a b} hab r hr r' hr' e=>hab (by rw[<-hmem hr,<-hmem hr',e.1])⟩;unfold kN;refine List.pairwise_flatMap.2 ⟨fun j _=>?_,List.nodup_range.imp fun {a b} hab r hr r' hr' e=>?_⟩
 ·unfold sD
  split<;>simp
 ·have hf:∀{j:Nat} {r:Ref},r∈sD x k j->r.field=j:=fun {j r} h=>by
   unfold sD at h
   split at h
   ·rw[nU] at h;rw[h]
   ·simp at h
  exact hab (by rw[<-hf hr,<-hf hr',e.2])
def Zz(k c:Nat)(r:Ref):Bool:=decide (r.kind=k)&&decide (r.field=c)
def vp(x:bF)(W:cG)(s:Sub.S)(j:Nat)(k a c:Nat):Int:=if ((cN x).take j).any (Zz k c)=true then (eD s (ah.dV x k c).toNat (cell0 W s k a c).toNat:Nat) else cell0 W s k a c
def xC(x:bF)(W:cG)(s:Sub.S)(j rk rj i:Nat)(k a c:Nat):Int:=if k=rk/\c=rj/\a<i then (eD s (ah.dV x k c).toNat (cell0 W s k a c).toNat:Nat) else vp x W s j k a c
theorem Qp(x:bF)(W:cG)(s:Sub.S):vp x W s 0=cell0 W s:=by
 funext k a c;unfold vp;simp
theorem Qq(x:bF)(W:cG)(s:Sub.S)(j rk rj:Nat):xC x W s j rk rj 0=vp x W s j:=by
 funext k a c;unfold xC;simp
theorem Qr{x:bF}{W:cG}{s:Sub.S}{j:Nat}(hj:j<(cN x).length)(a:Nat):vp x W s j (cN x)[j].kind a (cN x)[j].field=cell0 W s (cN x)[j].kind a (cN x)[j].field:=by
 unfold vp;rw[if_neg];rw[List.any_eq_true];rintro ⟨r,hr,h⟩;obtain⟨i,hi,rfl⟩:=List.getElem_of_mem hr;rw[List.getElem_take] at h;rw[OD] at hi;have hp:=List.pairwise_iff_getElem.1 (L9 x) i j aC hj aC;unfold Zz at h;simp only[kJ,lE] at h;exact hp h
theorem Qs{x:bF}{W:cG}{s:Sub.S}{j:Nat}(hj:j<(cN x).length)(i:Nat):xC x W s j (cN x)[j].kind (cN x)[j].field i (cN x)[j].kind i (cN x)[j].field=cell0 W s (cN x)[j].kind i (cN x)[j].field:=by
 unfold xC;rw[if_neg aC,Qr hj]
theorem Qt(x:bF)(W:cG)(s:Sub.S)(j rk rj i:Nat):Cx (xC x W s j rk rj i) rk i rj (eD s (ah.dV x rk rj).toNat (cell0 W s rk i rj).toNat:Nat)=xC x W s j rk rj (i+1):=by
 funext k a c;unfold Cx xC;by_cases h:k=rk/\a=i/\c=rj
 ·obtain⟨rfl,rfl,rfl⟩:=h
  rw[if_pos ⟨rfl,rfl,rfl⟩,if_pos ⟨rfl,rfl,by omega⟩]
 ·rw[if_neg h]
  by_cases h2:k=rk/\c=rj/\a<i
  ·rw[if_pos h2,if_pos ⟨h2.1,h2.2.1,by omega⟩]
  ·rw[if_neg h2,if_neg (fun h3=>by
    by_cases e:a=i
    ·exact h ⟨h3.1,e,h3.2.1⟩
    ·exact h2 ⟨h3.1,h3.2.1,by omega⟩)]
theorem VA{x:bF}{W:cG}{s:Sub.S}{j K:Nat}{n m:Nat->Nat}(hj:j<(cN x).length):tab K n m (xC x W s j (cN x)[j].kind (cN x)[j].field (n (cN x)[j].kind))=tab K n m (vp x W s (j+1)):=by
 refine wW (fun _ _=>rfl) fun k a c _ ha _=>?_;unfold xC;by_cases h:k=(cN x)[j].kind/\c=(cN x)[j].field
 ·rw[if_pos ⟨h.1,h.2,by rw[<-h.1];exact ha⟩]
  unfold vp;rw[if_pos];rw[Gu hj,List.any_append];simp[Zz,h.1,h.2]
 ·rw[if_neg (fun h3=>h ⟨h3.1,h3.2.1⟩)]
  unfold vp
  have e:((cN x).take (j+1)).any (Zz k c)=((cN x).take j).any (Zz k c):=by
   rw[Gu hj,List.any_append]
   have:Zz k c (cN x)[j]=false:=by
    unfold Zz;rw[Bool.and_eq_false_iff,decide_eq_false_iff_not,decide_eq_false_iff_not];by_cases e1:(cN x)[j].kind=k
    ·exact .inr (fun e2=>h ⟨e1.symm,e2.symm⟩)
    ·exact .inl e1
   simp[this]
  rw[e]
def iY(x:bF)(W:cG)(s:Sub.S)(k i:Nat)(k' a c:Nat):Int:=if (ah.fd x k' c).kind=6/\(k'<k\/(k'=k/\c<i)) then wX x W s k' a c else rB x W s k' a c
theorem VB{x:bF}{W:cG}{s:Sub.S}{n:Nat->Nat}:tab x.ai.length n (fun k:Nat=>(ah.kd x k).aA.length) (vp x W s (cN x).length)=tab x.ai.length n (fun k:Nat=>(ah.kd x k).aA.length) (iY x W s 0 0):=by
 refine wW (fun _ _=>rfl) fun k a c hk _ hc=>?_;have e1:iY x W s 0 0 k a c=rB x W s k a c:=by unfold iY;rw[if_neg aC]
 rw[e1];unfold vp rB;rw[List.take_length];by_cases h:(ah.fd x k c).kind=1
 ·rw[if_pos h,if_pos]
  rw[List.any_eq_true];exact⟨_,BI hk hc h,by simp[Zz]⟩
 ·rw[if_neg h,if_neg]
  rw[List.any_eq_true];rintro ⟨r,hr,h2⟩;unfold Zz at h2;simp only[kJ,lE] at h2;have:=yw hr;rw[h2.1,h2.2] at this;exact h this.2.2.1
theorem Qu{x:bF}{W:cG}{s:Sub.S}{k i:Nat}(h:(ah.fd x k i).kind≠6):iY x W s k (i+1)=iY x W s k i:=by
 funext k' a c;unfold iY;by_cases e:(ah.fd x k' c).kind=6
 ·have:¬(k'=k/\c=i):=fun h2=>h (by rw[<-h2.1,<-h2.2];exact e)
  have h3:(k'<k\/(k'=k/\c<i+1))↔(k'<k\/(k'=k/\c<i)):=by omega
  simp only[h3]
 ·rw[if_neg (fun h2=>e h2.1),if_neg (fun h2=>e h2.1)]
theorem Qv{x:bF}{W:cG}{s:Sub.S}{n:Nat->Nat}{K k:Nat}:tab K n (fun k:Nat=>(ah.kd x k).aA.length) (iY x W s k (ah.kd x k).aA.length)=tab K n (fun k:Nat=>(ah.kd x k).aA.length) (iY x W s (k+1) 0):=by
 refine wW (fun _ _=>rfl) fun k' a c _ _ hc=>?_;unfold iY
 have h3:(k'<k\/(k'=k/\c<(ah.kd x k).aA.length))↔(k'<k+1\/(k'=k+1/\c<0)):=by
  constructor
  ·rintro (h|h)<;>omega
  ·rintro (h|h)
   ·by_cases e:k'=k
    ·subst e;exact .inr ⟨rfl,hc⟩
    ·exact .inl aC
   ·omega
 simp only[h3]
theorem VD{x:bF}{W:cG}{s:Sub.S}{K:Nat}{n m:Nat->Nat}:tab K n m (iY x W s K 0)=tab K n m (wX x W s):=by
 refine wW (fun _ _=>rfl) fun k a c hk _ _=>?_;unfold iY;by_cases h:(ah.fd x k c).kind=6
 ·rw[if_pos ⟨h,.inl hk⟩]
 ·rw[if_neg (fun h2=>h h2.1)]
  unfold wX;rw[if_neg h]
theorem xD{x:bF}{W:cG}{s:Sub.S}{k i k' a c:Nat}(h:(ah.fd x k' c).kind≠6):iY x W s k i k' a c=rB x W s k' a c:=by
 unfold iY;rw[if_neg (fun h2=>h h2.1)]
theorem Qw{x:bF}{W:cG}{s:Sub.S}{k i:Nat}(h6:(ah.fd x k i).kind=6)(h1:(ah.fd x (eW x k i) (oO x k i)).kind=1)(h7:(ah.fd x (eW x k i) (rF x k i)).kind=7):
  (fun(k' i' j':Nat)=>if k'=k/\j'=i then sumOf (eD s (eW x k i) (bV W (eW x k i))) (fun a=>iY x W s k i (eW x k i) a (oO x k i)) (fun a=>iY x W s k i (eW x k i) a (rF x k i)) i' else iY x W s k i k' i' j')=iY x W s k (i+1):=by
 funext k' a c;by_cases h:k'=k/\c=i
 ·obtain⟨rfl,rfl⟩:=h
  rw[if_pos ⟨rfl,rfl⟩];have hs1:∀b,iY x W s k' c (eW x k' c) b (oO x k' c)=rB x W s (eW x k' c) b (oO x k' c):=fun b=>xD aC;have hs2:∀b,iY x W s k' c (eW x k' c) b (rF x k' c)=rB x W s (eW x k' c) b (rF x k' c):=fun b=>xD aC;simp only[hs1,hs2];unfold iY;rw[if_pos ⟨h6,.inr ⟨rfl,by omega⟩⟩];unfold wX;rw[if_pos h6]
 ·rw[if_neg h]
  unfold iY;have h3:(k'<k\/(k'=k/\c<i+1))↔(k'<k\/(k'=k/\c<i)):=by omega
  simp only[h3]
end aR
end Go.Proofs.YteiakkfdchnddaaGreatDoor
