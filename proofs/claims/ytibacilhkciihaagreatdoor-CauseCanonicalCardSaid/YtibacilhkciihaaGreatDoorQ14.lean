/- Part 14 of the walks and plain laws that the proof needs (packed). -/
import Derived.Test.YtibacilhkciihaaGreatDoorQ1
import Derived.Test.YtibacilhkciihaaGreatDoorQ10
import Derived.Test.YtibacilhkciihaaGreatDoorQ12
import Derived.Test.YtibacilhkciihaaGreatDoorQ13
set_option linter.all false
set_option maxRecDepth 100000
set_option maxHeartbeats 8000000
namespace Go.Proofs.YtibacilhkciihaaGreatDoor
open Go.RowKit
namespace Cz
def kB(ks:fT)(w:Wd)(S:List Row)(k i:Nat):List Row:=(List.range i).map (jN ks w S k)
theorem JK(ks:fT)(w:Wd)(S:List Row)(k i:Nat):kB ks w S k (i+1)=kB ks w S k i++[jN ks w S k i]:=by simp[kB,List.range_succ]
def wD(ks:fT)(w:Wd)(S:List Row)(k:Nat):List Row:=(List.range k).map fun k=>rT (kB ks w S k (len w k))
theorem JL(ks:fT)(w:Wd)(S:List Row)(k:Nat):wD ks w S (k+1)=wD ks w S k++[rT (kB ks w S k (len w k))]:=by simp[wD,List.range_succ]
theorem Nw(ks:fT)(w:Wd)(S:List Row):wD ks w S w.length=fA ks w S:=rfl
end Cz
theorem rO.aec{x:ah.cA}{W:ah.eE}{ak al ar aw:Option Addr}{ck cl cr cw p n0:Nat}{L:List (List Int)}{w:World}(h:rO x x.aL ak al ar aw x.aA.length ck x.aP.length cl x.aR.length cr W.length cw p L w)
  (hv:d9 (·<n0) w (.agg #[.int .i64 x.aL,.slice ak x.aA.length ck,.slice al x.aP.length cl,.slice ar x.aR.length cr]) x)(hW:bN (·<n0) w (.slice aw W.length cw) W)(hn:n0<=p):
  ∃v,La x W L (.agg #[.int .i64 x.aL,.slice ak x.aA.length ck,.slice al x.aP.length cl,.slice ar x.aR.length cr]) (.slice aw W.length cw) v p w.heap.size w:=by
 obtain⟨v,h1,h2⟩:=h.cell;have hp:=aC h1;exact⟨v,⟨ak,ck,al,cl,ar,cr,rfl,h1⟩,hv.mono (fun b _ hb=>by have h9:b<n0:=hb;show b<w.heap.size;omega),hW.mono (fun b _ hb=>by have h9:b<n0:=hb;show b<w.heap.size;omega),dr.mono (fC.sl h2) (fun b hb _=>hb),hp⟩
theorem JM(x:ah.cA)(hu:ah.mH x)(h20:∀k∈x.aA,k.aG.length<=20)(h10:x.aA.length<=10)(W:ah.eE)(hfit:Cz.l7 (aO x) W)(h5:∀k,Cz.len W k<=1000)(hT:Cz.total W<=100000)
  (ak al ar aw:Option Addr)(ck cl cr cw p n0:Nat)(hn0:n0<=p)(w:World)
  (hv:d9 (·<n0) w (.agg #[.int .i64 x.aL,.slice ak x.aA.length ck,.slice al x.aP.length cl,.slice ar x.aR.length cr]) x)(hW:bN (·<n0) w (.slice aw W.length cw) W)(h:rO x x.aL ak al ar aw x.aA.length ck x.aP.length cl x.aR.length cr W.length cw p (Cz.S0 (aO x) W) w):
  Calls Tryz.prog 21 #[.pointer (some ⟨p,0,none⟩)] w fun e w'=>e=.returned (.tuple #[])/\rO x x.aL ak al ar aw x.aA.length ck x.aP.length cl x.aR.length cr W.length cw p (Cz.sorts (aO x) W) w'/\Turns (fun b=>b=p) w w':=by
 have GH:Hid (W.length=x.aA.length):=hid JY;have Tl:=GH.out;have HU:=hid hu;have kX:=hid hfit;have H5:=hid h5;have Gh:=hid h20;have abd:=hid hv;have HW0:=hid hW;have Vc:=hid h;have hpw:Hid (p<=w.heap.size):=hid (by obtain⟨v,h1, -⟩:=h.cell;exact Nat.le_of_lt (aC h1));have JF:dX aw W.length:=by obtain⟨a,c,e,h, -⟩:=hW.form;cases e;exact h
 clear hu hfit h5 h20 hv hW h;have AX:W.length<=10:=aB
 clear Tl;go_enter Tryz.func21,Tryz.ntmps21;go_wp2;go_loopw [2] (fun bb wr=>∃(b:Int) (L:List Cz.Row),bb=.int .i64 b/\Hid (rO x x.aL ak al ar aw x.aA.length ck x.aP.length cl x.aR.length cr W.length cw p L wr)/\Hid (Cz.OkS W L)/\Hid (Turns (fun b=>b=p) w wr)/\Hid ((b= -1/\L=Cz.S0 (aO x) W)\/∃P n,Cz.OkS W P/\b=(Cz.diff P:Nat)/\L=Cz.fA (aO x) W P/\Cz.sorts (aO x) W=Cz.oD (aO x) W (n+1) P/\Cz.total W<=n+Cz.diff P)/\ -1<=b/\b<=(Cz.total W:Nat)) (fun bb _=>Cz.total W+1-(intOf bb+1).toNat);case atStart=>exact⟨-1,Cz.S0 (aO x) W,rfl,Vc,hid (Cz.Yv (aO x) W),hid (Turns.refl _ _),hid (.inl ⟨rfl,rfl⟩),aB,aB⟩
 case round=>
  obtain⟨b,L,rfl,HP,Az,HB,Ss,hb1,hb2⟩:=hrel;have HBb:=hid (HB.out.below hpw.out (fun c hc=>Nat.le_of_eq hc.symm));obtain⟨uv,hst⟩:=HP.out.aec (abd.out.keep (aD.aS HBb.out (fun c hc=>lg hc hn0))) (HW0.out.keep (aD.aS HBb.out (fun c hc=>lg hc hn0))) hn0
  have IC:Hid (L.length<=1000/\∀r∈L,r.length<=1000):=hid ⟨by rw[Az.out.1];omega,fun r hr=>by
   obtain⟨j,hj,rfl⟩:=List.getElem_of_mem hr;have:=Az.out.2 j (by rw[<-Az.out.1];exact hj);rw[Cz.aQ hj] at this;rw[this];exact H5.out j⟩
  have HDf:=hid (qR x W L IC.out.1 IC.out.2 _ _ uv p wr.heap.size wr aH hst);obtain⟨d,hd⟩:=bB (Cz.diff L);have hdt:d<=Cz.total W:=by rw[hd];exact Cz.K6 Az.out.1 Az.out.2
  have HD:=hid hd;rw[<-hd] at HDf;clear hd;go_wp2_with fail;refine HDf.out.mono ?_;rintro e w1 ⟨rfl,Sv⟩;have bT:=hid Sv;have HP1:=hid (HP.out.next Sv);have abe:=hid (qR x W L IC.out.1 IC.out.2 _ _ uv p wr.heap.size w1 Sv.size (hst.keep Sv));rw[<-HD.out] at abe;have HStr:=hid hst;clear Sv HDf hst;by_cases hbd:b=(d:Int)
  ·have e1:(b !=(d:Int))=false:=OH hbd
   have HE:Hid (L=Cz.sorts (aO x) W):=hid (by
    rcases Ss.out with⟨h1, -⟩|⟨P,n,h1,h2,h3,h4,h5⟩
    ·omega
    ·rw[h4,h3]
     have h6:Cz.diff (Cz.fA (aO x) W P)=Cz.diff P:=by
      have:=HD.out;rw[h3] at this;omega
     exact(Cz.R6 n h6).symm)
   have HEE:Hid (rO x x.aL ak al ar aw x.aA.length ck x.aP.length cl x.aR.length cr W.length cw p (Cz.sorts (aO x) W) w1/\Turns (fun b=>b=p) w w1):=hid ⟨by rw[<-HE.out];exact HP1.out,HB.out.trans (Turns.aS bT.out)⟩;clear hbd;go_wp2;go_end0;exact⟨rfl,HEE.out⟩
  ·have e1:(b !=(d:Int))=true:=GL hbd
   have VJ:Hid (((d:Int)= -1/\Cz.fA (aO x) W L=Cz.S0 (aO x) W)\/∃P n,Cz.OkS W P/\(d:Int)=(Cz.diff P:Nat)/\Cz.fA (aO x) W L=Cz.fA (aO x) W P/\Cz.sorts (aO x) W=Cz.oD (aO x) W (n+1) P/\Cz.total W<=n+Cz.diff P):=hid (.inr (by
    rcases Ss.out with⟨h1,h2⟩|⟨P,n,h1,h2,h3,h4,h5⟩
    ·exact⟨L,Cz.total W,Az.out,by rw[HD.out],rfl,by rw[h2];rfl,aB⟩
    ·have h6:¬Cz.diff (Cz.fA (aO x) W P)=Cz.diff P:=fun h=>hbd (by rw[h2,<-h,<-h3,HD.out])
     obtain⟨m,e1,e2,e3, -, -⟩:=Cz.aaY h1 h5 h6;exact⟨L,m,Az.out,by rw[HD.out],rfl,by rw[h4,e3,h3],by rw[h3];exact e2⟩))
   have hbld:b<(d:Int):=by
    rcases Ss.out with⟨h1,h2⟩|⟨P,n,h1,h2,h3,h4,h5⟩
    ·omega
    ·have h6:Cz.diff P<=Cz.diff (Cz.fA (aO x) W P):=Cz.Co h1.1 h1.2
     rw[<-h3,<-HD.out] at h6;omega
   clear hbd;go_wp2_with fail;refine abe.out.mono ?_;rintro e wA ⟨rfl,D7⟩;have Vw:=hid (HP1.out.next D7);have abf:=aU bT D7;have vM:=hid ((HStr.out.keep abf.out).mono abf.out.size);have HBpA:Hid (Turns (fun b=>b=p) w wA):=hid (HB.out.trans (Turns.aS abf.out));have HWA:=hid (vM.out.wj);have QH:Hid (∀X,BL wA X->aD (·<wA.heap.size) wA X):=hid (fun X hX=>aD.below hX);obtain⟨uv2,hs1, -⟩:=Vw.out.cell;obtain⟨-, -, -, -,s4, -⟩:=DQ hs1;clear hs1 D7 abe;go_wp2;clear s4;generalize hWr:wr=wr0 at*;clear hWr;go_loopw [3,20] (fun nv kk wr=>∃(k:Nat) (an:Option Addr) (nn cn:Nat),k<=W.length/\kk=.int .i64 k/\nv=.slice an nn cn/\Hid (fC (wA.heap.size<=·) wr (.slice an nn cn) (Cz.wD (aO x) W L k))/\Hid (BL wA wr)) (fun _ kk _=>W.length-(intOf kk).toNat);case atStart=>exact⟨0,none,0,0,Nat.zero_le _,rfl,rfl,hid (gZ.nil _ _ _ _),hid aF⟩
   case round=>
    obtain⟨k,an,nn,cn,hk,rfl,rfl,Tk,HBA⟩:=hrel;by_cases hlt:k<W.length
    ·have hkx:k<x.aA.length:=by rw[<-GH.out];exact hlt
     have hk0:(0:Int)<=(k:Int):=aB
     have hk1:(k:Int)<(W.length:Int):=aB
     obtain⟨vk,qD,zQ⟩:=HWA.out.qt hlt;have y1:=zQ wr (QH.out _ HBA.out);obtain⟨Ns,Nt,rfl,JJ, -, -⟩:=qD.form;obtain⟨nk,hnk⟩:=bB (W[k].length);have HNk:=hid hnk;have DR:nk<=1000:=abI
     have qC:Hid (Cz.len W k=nk):=hid (by rw[hnk];unfold Cz.len;rw[Cz.aQ hlt]);rw[<-hnk] at y1 JJ;obtain⟨q0,wR⟩:=bB wr.heap.size;obtain⟨w4,hw4⟩:=bB (wr.alloc (.cells #[.slice Ns nk Nt,.slice none 0 0] 120));have KN:Hid (Below q0 wr w4):=hid (by rw[hw4,wR];exact aF.alloc aH _);have HQ4:Hid (∃v,w4.heap[q0]?=some (.cells #[.slice Ns nk Nt,v] 120 (0,0))/\fC (q0<·) w4 v (Cz.kB (aO x) W L k 0)):=hid ⟨_,by rw[hw4];exact aW _ _ wR,gZ.nil _ _ _ _⟩;have Bb:=hid hw4;have VG:=hid wR;have Ba:Hid (wA.heap.size<=q0):=hid (by rw[wR];exact HBA.out.size);have HBp:Hid (∀X,Below q0 wr X->q0<=X.heap.size):=hid (fun X hX=>by rw[wR];exact hX.size);have HKn:Hid (∀X,Below q0 wr X->aD (wA.heap.size<=·) wr X):=hid (fun X hX b _ hlt=>by rw[<-wR] at hlt;exact hX.block b hlt);clear qD zQ hnk hw4;go_upto_region 8 with fail;rw[<-VG.out,<-Bb.out];clear y1 wR;go_wp2;generalize I3:wr=wb at*;clear I3;go_loopw [29] (fun ii wr=>∃i:Nat,i<=nk/\ii=.int .i64 i/\Hid (∃v,wr.heap[q0]?=some (.cells #[.slice Ns nk Nt,v] 120 (0,0))/\fC (q0<·) wr v (Cz.kB (aO x) W L k i))/\Hid (Below q0 wb wr)) (fun ii _=>nk-(intOf ii).toNat);case atStart=>exact⟨0,Nat.zero_le _,rfl,HQ4,KN⟩
     case round=>
      obtain⟨i,hi,rfl,HQ,bX⟩:=hrel;by_cases hit:i<nk
      ·have hi0:(0:Int)<=(i:Int):=by omega
       have hi1:(i:Int)<(nk:Int):=aB
       have hiL:i<Cz.len W k:=by rw[qC.out];exact hit
       have NW:=HBA.out.trans (bX.out.mono Ba.out);have mQ:=hid NW;obtain⟨lv,hl1,hl2⟩:=HQ.out;have HLi:=hid (fun(X:World) (hX:BL wA X)=>Sh x HU.out Gh.out h10 W GH.out L ak al ar ck cl cr _ _ p wA.heap.size X (vM.out.keep hX) hX.size kX.out Az.out H5.out k i hlt hiL);obtain⟨a7,c7,hlv,Nu, -, -⟩:=(fC.sl hl2).form;have hfl:(Cz.kB (aO x) W L k i).length=i:=by simp[Cz.kB]
       rw[hfl] at hlv Nu;subst hlv;have Oe:=hid hl1;have kE:=hid hl2;obtain⟨⟨z0,z1⟩, -⟩:=l6 hl1;have rQ:(Cz.kB (aO x) W L k i).length+1<=1000000000:=by rw[hfl];omega
       clear hl1 hl2 NW hfl;go_upto_region 11 with fail;clear z0 z1;have Jd:=eO wr ⟨q0,1,none⟩ (.slice a7 i c7) fun xh=>(l6 ((xh.2.block _ (aC Oe.out)).trans Oe.out)).1.2;refine aZ 7 (.quiet 0 (.quiet 1 (.quiet 2 (.quiet 3 (.quiet 4 (.one 5 (.one 6 .done))))))) (BL wr) oL (by kernel_rfl) (aI aF 1) ?_;have iK:=hid (aI (Below.refl wr.heap.size wr) 1);generalize qE:wr.drewN 1=w6 at*;clear qE
       iterate 5 refine fE ?_
       refine aT rfl ?_;go_wp2_with fail;refine(HLi.out w6 (cG mQ.out iK.out)).mono ?_;rintro e w7 ⟨v7,rfl,Tw,oV⟩;have jT:=aU iK oV;have wX:=hid (aX.mono Tw (S':=(wr.heap.size<=·)) (fun b _ hb=>Nat.le_trans iK.out.size hb));obtain⟨a10,n10,c10,rfl⟩:∃a n c,v7=.slice a n c:=Y0
       clear Tw oV;go_wp2_with fail;refine aJ (BL wr) (fun _ h=>h) jT.out ?_;refine aT rfl ?_;go_wp2_with fail;refine aJ (BL wr) (fun _ h=>h) (jT.out.alloc jT.out.size _) ?_;refine bh ?_;try simp only[jZ,jP]
       clear Jd;go_wp2_with (at_builtin;go_must (refine iF aX rfl _ _ rfl Tryz.uQ rfl kE.out jT.out rfl (Cz.jN (aO x) W L k i) wX.out rfl rQ ?_));intro v8 w8 NP jD
       have C9:Hid (fC (q0<·) w8 v8 (Cz.kB (aO x) W L k (i+1))):=hid (by
        rw[Cz.JK]
        refine ct.mono NP (fun b _ hb=>?_)
        rcases hb with h|h
        ·exact h.1
        ·exact lg (aC Oe.out) h)
       have VI:=(jD.block _ (fun e=>Nat.lt_irrefl _ (kE.out.1 _ e.symm)) (lg (aC Oe.out) jT.out.size)).trans ((jT.out.block _ (aC Oe.out)).trans Oe.out);have oW:Hid (Below q0 wb w8):=hid ((bX.out.trans (jT.out.mono (HBp.out _ bX.out))).trans (jD.below (Nat.le_trans (HBp.out _ bX.out) jT.out.size) (fun b hb=>Nat.le_of_lt (kE.out.1 b hb.symm))))
       have HQ9:Hid (∃v,(w8.setCell ⟨q0,1,none⟩ v8).heap[q0]?=some (.cells #[.slice Ns nk Nt,v] 120 (0,0))/\fC (q0<·) (w8.setCell ⟨q0,1,none⟩ v8) v (Cz.kB (aO x) W L k (i+1))):=hid
        ⟨v8,(heap_setCell_same _ _ 1 _ _ v8 VI),ct.keep C9.out (fun b hb _=>jQ _ ⟨q0,1,none⟩ _ _ (fun e=>by have h9:q0<b:=hb;have e9:b=q0:=e;omega))⟩
       have mR:Hid (Below q0 wb (w8.setCell ⟨q0,1,none⟩ v8)):=hid (oW.out.setCell aH _);obtain⟨a9,n9,c9,tI⟩:∃a n c,v8=.slice a n c:=Ts
       have c9:=(l6 VI).1.2;have c9f:=(l6 VI).2 1;clear NP jD VI;subst tI;go_wp2;go_roundw;case rel=>exact⟨i+1,aB,by go_num,HQ9,mR⟩
       simp[intOf];omega
      ·obtain rfl:i=nk:=by omega
       have mQ:=hid (HBA.out.trans (bX.out.mono Ba.out));obtain⟨lv,hl1,hl2⟩:=HQ.out;obtain⟨a7,c7,hlv,Nu, -, -⟩:=(fC.sl hl2).form;have hfl:(Cz.kB (aO x) W L k i).length=i:=by simp[Cz.kB]
       rw[hfl] at hlv Nu;subst hlv;have D4:=hid (Cv (Cz.kB (aO x) W L k i) (by rw[hfl];exact DR) Ns a7 Nt c7 wr (dr.mono (S':=(·<wr.heap.size)) (show dr (q0<·) wr (.slice a7 (Cz.kB (aO x) W L k i).length c7) _ by rw[hfl];exact fC.sl hl2) (fun b hb _=>hb)));rw[hfl] at D4;have rQ:(Cz.wD (aO x) W L k).length+1<=1000000000:=by simp[Cz.wD];omega
       obtain⟨⟨z0,z1⟩, -⟩:=l6 hl1;have wg:=hid (ct.keep Tk.out (HKn.out _ bX.out));clear hl1 hl2 hfl;go_wp2_with fail;refine D4.out.mono ?_;rintro e w7 ⟨v7,rfl,Tw,oV⟩;have jT:=hid oV;have wX:=hid Tw;obtain⟨a10,n10,c10,rfl⟩:∃a n c,v7=.slice a n c:=Y0
       clear Tw oV z0 z1;go_wp2_with (at_builtin;go_must (refine iF aX rfl _ _ rfl Tryz.uQ rfl wg.out jT.out rfl (Cz.rT (Cz.kB (aO x) W L k i)) wX.out rfl rQ ?_));intro v8 w8 NP jD
       have C9:Hid (fC (wA.heap.size<=·) w8 v8 (Cz.wD (aO x) W L (k+1))):=hid (by
        rw[Cz.JL,qC.out]
        refine ct.mono NP (fun b _ hb=>?_)
        rcases hb with h|h
        ·exact h.1
        ·exact Nat.le_trans mQ.out.size h)
       have oW:Hid (BL wA w8):=hid ((cG mQ.out jT.out).trans (jD.below (Nat.le_trans mQ.out.size jT.out.size) (fun b hb=>wg.out.1 b hb.symm)));obtain⟨a11,n11,c11,rfl⟩:∃a n c,v8=.slice a n c:=Ts
       clear NP jD;go_wp2;go_roundw;case rel=>exact⟨k+1,_,_,_,aB,by go_num,rfl,C9,oW⟩
       simp[intOf];omega
    ·obtain rfl:W.length=k:=by omega
     obtain⟨uv,hs1,hs2⟩:=Vw.out.cell;have VK:=(HBA.out.block _ (aC hs1)).trans hs1
     have HP9:Hid (rO x x.aL ak al ar aw x.aA.length ck x.aP.length cl x.aR.length cr W.length cw p (Cz.fA (aO x) W L) (wr.setCell ⟨p,5,none⟩ (.slice an nn cn))):=hid
      ⟨_,heap_setCell_same _ _ 5 _ _ _ VK,by
       rw[<-Cz.Nw]
       refine ct.keep (ct.mono Tk.out (S':=(p<·)) (fun b _ hb=>lg (aC hs1) hb)) (fun b hb _=>jQ _ ⟨p,5,none⟩ _ _ (fun e=>by have h9:p<b:=hb;have e9:b=p:=e;omega))⟩
     have mR:Hid (Turns (fun b=>b=p) w (wr.setCell ⟨p,5,none⟩ (.slice an nn cn))):=hid ((HBpA.out.trans (Turns.aS HBA.out)).setCell ⟨p,5,none⟩ _ rfl);obtain⟨s0,s1,s2,s3,s4,s5⟩:=DQ VK;have s5f:=dJ VK 5;clear hs1 hs2 VK;go_wp2;go_roundw;case rel=>exact⟨(d:Int),Cz.fA (aO x) W L,rfl,HP9,hid (Cz.xH (aO x) W L),mR,VJ,aB,aB⟩
     simp[intOf];omega
namespace Cz
def iY(ks:fT)(w:Wd)(a:List (List Nat))(k i n:Nat):Row:=(List.range (row w k i).length).map fun f=>if f<n then val ks a k f (cell w k i f) else cell w k i f
def Gm(ks:fT)(w:Wd)(a:List (List Nat))(k i:Nat):Row:=(List.range (row w k i).length).map fun f=>val ks a k f (cell w k i f)
theorem zS(ks:fT)(w:Wd)(a:List (List Nat))(k i n:Nat):(iY ks w a k i n).length=(row w k i).length:=by simp[iY]
theorem Nx(ks:fT)(w:Wd)(a:List (List Nat))(k i:Nat):iY ks w a k i 0=row w k i:=by
 unfold iY;conv=>rhs;rw[<-dN (row w k i) 0]
 refine List.map_congr_left fun f _=>?_;rw[if_neg aB];rfl
theorem Sw(ks:fT)(w:Wd)(a:List (List Nat))(k i:Nat):iY ks w a k i (row w k i).length=Gm ks w a k i:=by
 unfold iY Gm;refine List.map_congr_left fun f hf=>?_;rw[if_pos GJ]
theorem VL{ks:fT}{w:Wd}{a:List (List Nat)}{k i f:Nat}(h:f<(iY ks w a k i f).length):(iY ks w a k i f)[f]=cell w k i f:=by
 simp only[iY,List.getElem_map,List.getElem_range];rw[if_neg aB]
theorem Sy{ks:fT}{w:Wd}{a:List (List Nat)}{k i n:Nat}{v:Int}(hn:n<(row w k i).length)(hv:val ks a k n (cell w k i n)=v):(iY ks w a k i n).set n v=iY ks w a k i (n+1):=by
 refine List.ext_getElem (by simp[iY]) fun j h1 h2=>?_;rw[List.getElem_set];by_cases e:n=j
 ·subst e
  rw[if_pos rfl];simp only[iY,List.getElem_map,List.getElem_range];rw[if_pos aB,hv]
 ·rw[if_neg e]
  simp only[iY,List.getElem_map,List.getElem_range];by_cases l:j<n
  ·rw[if_pos l,if_pos aB]
  ·rw[if_neg l,if_neg aB]
theorem Sz{ks:fT}{w:Wd}{a:List (List Nat)}{k i n:Nat}(h:fk ks k n= -2):iY ks w a k i n=iY ks w a k i (n+1):=by
 unfold iY;refine List.map_congr_left fun j _=>?_;by_cases l:j<n
 ·rw[if_pos l,if_pos aB]
 ·rw[if_neg l]
  by_cases e:j=n
  ·subst e
   rw[if_pos aB];unfold val;rw[if_pos h]
  ·rw[if_neg aB]
def kC(ks:fT)(w:Wd)(a:List (List Nat))(k m:Nat):List Row:=(List.range m).map fun j=>Gm ks w a k ((a.getD k []).getD j 0)
theorem JN(ks:fT)(w:Wd)(a:List (List Nat))(k m:Nat):kC ks w a k (m+1)=kC ks w a k m++[Gm ks w a k ((a.getD k []).getD m 0)]:=by simp[kC,List.range_succ]
def l8(ks:fT)(w:Wd)(a:List (List Nat))(k:Nat):Wd:=(List.range w.length).map fun j=>if j<k then kC ks w a j (a.getD j []).length else []
theorem Ny(ks:fT)(w:Wd)(a:List (List Nat)):l8 ks w a 0=List.replicate w.length []:=by
 refine List.ext_getElem (by simp[l8]) fun j h1 h2=>?_;simp[l8]
theorem Nz(ks:fT)(w:Wd)(a:List (List Nat)){k:Nat}(hk:k<w.length):(l8 ks w a k).set k (kC ks w a k 0)=l8 ks w a k:=by
 refine List.ext_getElem (by simp[l8]) fun j h1 h2=>?_;rw[List.getElem_set];by_cases e:k=j
 ·subst e;rw[if_pos rfl];simp[l8,kC]
 ·rw[if_neg e]
theorem NA(ks:fT)(w:Wd)(a:List (List Nat)){k:Nat}(hk:k<w.length):l8 ks w a (k+1)=(l8 ks w a k).set k (kC ks w a k (a.getD k []).length):=by
 refine List.ext_getElem (by simp[l8]) fun j h1 h2=>?_;rw[List.getElem_set];by_cases e:k=j
 ·subst e;rw[if_pos rfl];simp[l8]
 ·rw[if_neg e]
  simp only[l8,List.getElem_map,List.getElem_range];by_cases l:j<k
  ·rw[if_pos l,if_pos aB]
  ·rw[if_neg l,if_neg aB]
theorem SA(ks:fT)(w:Wd)(a:List (List Nat)):l8 ks w a w.length=bY ks w a:=by
 unfold l8 bY;refine List.map_congr_left fun k hk=>?_;rw[if_pos wK];unfold kC;conv=>rhs;rw[<-dN (a.getD k []) 0,List.map_map]
 rfl
end Cz
theorem DS(x:ah.cA)(hu:ah.mH x)(h20:∀k∈x.aA,k.aG.length<=20)(h10:x.aA.length<=10)(W:ah.eE)(S:List (List Int))(ak al ar:Option Addr)(ck cl cr:Nat)(wv uv:Value)(p B:Nat)(w:World)
  (h:La x W S (.agg #[.int .i64 x.aL,.slice ak x.aA.length ck,.slice al x.aP.length cl,.slice ar x.aR.length cr]) wv uv p B w)(hBw:B<=w.heap.size)(hfit:Cz.l7 (aO x) W)(h5:∀k,Cz.len W k<=1000)(a:List (List Nat))(hal:a.length=W.length)(hp:∀k,k<W.length->(a.getD k []).Perm (List.range (Cz.len W k)))
  (v:Value)(T:Nat->Prop)(ha:dr T w v (a.map fun o=>o.map fun(i:Nat)=>(i:Int))):
  Calls Tryz.prog 24 #[.pointer (some ⟨p,0,none⟩),v] w fun e w'=>∃g,e=.returned (.slice (some ⟨g,0,none⟩) W.length W.length)/\bU (w.heap.size<=·) w' (.slice (some ⟨g,0,none⟩) W.length W.length) (Cz.bY (aO x) W a)/\BL w w':=by
 have aa2:Hid (w.heap[p]?=some (.cells #[.int .i64 x.aL,.slice ak x.aA.length ck,.slice al x.aP.length cl,.slice ar x.aR.length cr,wv,uv] 118 (0,0))):=hid (by
  obtain⟨Om,JX,al',SI,Oo,Oq,e,hc⟩:=h.cell
  cases e
  exact hc)
 obtain⟨aw,cw,rfl,JF, -, -⟩:=h.wj.form;obtain⟨au,cu,rfl,Sb, -, -⟩:=h.Ay.form;have hpw:p<w.heap.size:=lg h.pb hBw;have CF:Hid (∀V,BL w V->V.heap[p]?=some (.cells #[.int .i64 x.aL,.slice ak x.aA.length ck,.slice al x.aP.length cl,.slice ar x.aR.length cr,.slice aw W.length cw,.slice au S.length cu] 118 (0,0))):=hid (fun V hV=>(hV.block _ hpw).trans aa2.out);have HST:=hid (fun(V:World) (hV:BL w V)=>h.keep (hV.mono hBw));have HWV:=hid h.wj;have abd:=hid h.tM;have QG:Hid (∀V,BL w V->aD (·<B) w V):=hid (fun V hV=>aD.aS hV (fun b hb=>lg hb hBw));have TK:Hid (∀V,BL w V->aD T w V):=hid (fun V hV=>aD.below hV);have acJ:dX ak x.aA.length:=abH
 obtain⟨aa,ca,hva,hoka, -, -⟩:=ha.form;rw[Bp] at hva hoka;subst hva;have HA:=hid ha;have HU:=hid hu;have kX:=hid hfit;have H5:=hid h5;have Gh:=hid h20;have GH:Hid (W.length=x.aA.length):=hid JY;have VN:=hid hal;have HP:=hid hp;have AX:W.length<=1000000:=by rw[GH.out];omega
 have hmk:=fun V=>qj (P:=Tryz.prog) (t:=30) (e:=42) (b:=24) (by kernel_rfl) (by kernel_rfl) aB W.length AX V;have x4:=aN (CF.out w aF) 4;simp only[List.getElem?_toArray,List.getElem?_cons_succ,List.getElem?_cons_zero] at x4;clear hu hfit h5 h20 h10 hal hp ha h hBw;go_enter Tryz.func24,Tryz.ntmps24;go_wp2;clear hmk x4;obtain⟨g0,hg0⟩:=bB w.heap.size;have Q0:Hid (bU (w.heap.size<=·) (w.alloc (.cells (gb W.length) 42)) (.slice (some ⟨g0,0,none⟩) W.length W.length) (Cz.l8 (aO x) W a 0)):=hid (by rw[hg0,Cz.Ny];exact vA w _ AX);rw[<-hg0];clear hg0;go_loopw [22] (fun kk wr=>∃k:Nat,k<=W.length/\kk=.int .i64 k/\Hid (bU (w.heap.size<=·) wr (.slice (some ⟨g0,0,none⟩) W.length W.length) (Cz.l8 (aO x) W a k))/\Hid (BL w wr)) (fun kk _=>W.length-(intOf kk).toNat);case atStart=>exact⟨0,Nat.zero_le _,rfl,Q0,hid (aF.alloc aH _)⟩
 case round=>
  obtain⟨k,hkl,rfl,Q0,HB⟩:=hrel;by_cases hk:k<W.length
  ·have hkx:k<x.aA.length:=by rw[<-GH.out];exact hk
   have hk0:(0:Int)<=(k:Int):=aB
   have hk1:(k:Int)<(W.length:Int):=aB
   have adT:(k:Int)<(x.aA.length:Int):=aB
   have hka:k<a.length:=by rw[VN.out];exact hk
   have hka1:(k:Int)<(a.length:Int):=aB
   obtain⟨vk,qD,zQ⟩:=HA.out.qt (j:=k) (by simpa using hka);have ek:((a.map fun o=>o.map fun(i:Nat)=>(i:Int))[k]'(by simpa using hka))=(a.getD k []).map fun(i:Nat)=>(i:Int):=by rw[Cz.aQ hka];simp
   rw[ek] at qD;obtain⟨aok,cok,rfl,JJ, -, -⟩:=qD.form;have x6:=zQ wr (TK.out wr HB.out);obtain⟨no,hno⟩:=bB ((a.getD k []).length);have eno:((a.getD k []).map fun(i:Nat)=>(i:Int)).length=no:=by rw[Bp,hno]
   rw[eno] at x6 JJ qD;have Ma:=hid hno;have HOl:Hid (no<=1000):=hid (by rw[hno,(HP.out k hk).length_eq];simp;exact H5.out k);have FK:=hid qD;obtain⟨af,cf,hsf,hkd⟩:=abd.out.Ld hkx;have p9:=hid hkd;obtain⟨nf,hnf⟩:=bB (x.aA[k].aG.length);have Ej:=hid hnf;have Nj:Hid (nf<=20):=hid (by rw[hnf];exact Gh.out _ (gm hkx));rw[<-hnf] at hsf p9;have adO:=Nj.out;have hol:=HOl.out
   have HO1:Hid (bU (w.heap.size<=·) wr (.slice (some ⟨g0,0,none⟩) W.length W.length) ((Cz.l8 (aO x) W a k).set k (Cz.kC (aO x) W a k 0))):=hid (by
    rw[Cz.Nz (aO x) W a hk];exact Q0.out)
   have bT:=HB;clear qD zQ ek hno eno hkd hnf Q0;go_wp2;clear x6;generalize hWq:wr=wq at*;clear hWq HB;go_loopw [29] (fun mm wr=>∃m:Nat,m<=no/\mm=.int .i64 m/\Hid (bU (w.heap.size<=·) wr (.slice (some ⟨g0,0,none⟩) W.length W.length) ((Cz.l8 (aO x) W a k).set k (Cz.kC (aO x) W a k m)))/\Hid (BL w wr)) (fun mm _=>no-(intOf mm).toNat);case atStart=>exact⟨0,Nat.zero_le _,rfl,HO1,bT⟩
   case round=>
    obtain⟨m,hm,rfl,HO,rW⟩:=hrel;by_cases hmt:m<no
    ·have hm0:(0:Int)<=(m:Int):=by omega
     have hm1:(m:Int)<(no:Int):=aB
     have hmo:m<(a.getD k []).length:=by rw[<-Ma.out];exact hmt
     have hmo2:m<((a.getD k []).map fun(i:Nat)=>(i:Int)).length:=by simpa using hmo
     obtain⟨vm,hvm1,aed⟩:=FK.out.qt hmo2;obtain rfl:vm=.int .i64 (((a.getD k []).map fun(i:Nat)=>(i:Int))[m]):=hvm1;have x7:=aed wr (TK.out wr rW.out);have em:((a.getD k []).map fun(i:Nat)=>(i:Int))[m]=((a.getD k [])[m]:Int):=bp
     rw[em] at x7
     have hi:(a.getD k [])[m]<Cz.len W k:=by
      have:=(HP.out k hk).mem_iff.1 (gm hmo);simpa using this
     have HIm:Hid (∀j,j=(a.getD k [])[m]->(a.getD k []).getD m 0=j):=hid (fun j h=>by rw[h,Cz.aQ hmo]);obtain⟨i,hiq⟩:=bB ((a.getD k [])[m]);have HIm:=hid (HIm.out i hiq);rw[<-hiq] at x7 hi;clear aed em hiq;have xG:i<W[k].length:=Oh
     obtain⟨vk,qD,zQ⟩:=HWV.out.qt hk;obtain⟨Ns,Nt,rfl,JJ, -, -⟩:=qD.form;obtain⟨vi,Nk,Sl⟩:=qD.qt xG;have y1:=zQ wr (QG.out wr rW.out);have y2:=Sl wr (QG.out wr rW.out);have D9:=Nk.keep (QG.out wr rW.out);rw[show W[k][i]=Cz.row W k i from by unfold Cz.row;rw[Cz.aQ hk,Cz.aQ xG]] at D9;obtain⟨ai,ci,rfl,aa9, -, -⟩:=D9.form;have hrl:(Cz.row W k i).length=nf:=by rw[kX.out.r k i hk hi,dc x hkx,dU hkx,<-Ej.out]
     have Be:Hid (∀n,(Cz.iY (aO x) W a k i n).length=nf):=hid (fun n=>by rw[Cz.zS,hrl]);have Av:Hid (∀f (h:f<(Cz.iY (aO x) W a k i f).length),f<=f->(Cz.iY (aO x) W a k i f)[f]=Cz.cell W k i f):=hid (fun f h _=>Cz.VL h);have Cd:=hid (tO (Cz.row W k i) (by have:=Nj.out;omega) _ _ wr D9);rw[hrl] at y2 aa9 Cd;have x4:=aN (CF.out wr rW.out) 4;simp only[List.getElem?_toArray,List.getElem?_cons_succ,List.getElem?_cons_zero] at x4;have hi0:(0:Int)<=(i:Int):=aB
     have hiw:(i:Int)<(W[k].length:Int):=aB
     obtain⟨nwk,Sm⟩:=bB (W[k].length);rw[<-Sm] at y1 JJ hiw;have HRw:=hid hrl;clear qD zQ Nk Sl D9 Sm hrl;go_wp2_with fail;refine Cd.out.mono ?_;rintro e w4 ⟨v4,rfl,hI4,hb4⟩;obtain⟨ao,co,hv4,hok4, -, -⟩:=(bg.sl hI4).form;rw[HRw.out] at hv4 hok4;subst hv4;have gK:=hid hb4;have HI4:Hid (bg (wr.heap.size<=·) w4 (.slice ao nf co) (Cz.iY (aO x) W a k i 0)):=hid (by rw[Cz.Nx];exact hI4);have aee:=aU rW hb4;obtain⟨k0,k1,k2,k3, -⟩:=p9.out w4 (QG.out w4 aee.out);have x1:=aN (CF.out w4 aee.out) 1;simp only[List.getElem?_toArray,List.getElem?_cons_succ,List.getElem?_cons_zero] at x1;clear hI4 hb4 x4 x7 y1 y2 Cd;go_wp2;clear k0 k1 k2 k3 x1;generalize Tl:wr=wl at*;clear Tl;go_loopw [56] (fun ff wr=>∃f:Nat,f<=nf/\ff=.int .i64 f/\Hid (bg (wl.heap.size<=·) wr (.slice ao nf co) (Cz.iY (aO x) W a k i f))/\Hid (BL wl wr)) (fun ff _=>nf-(intOf ff).toNat);case atStart=>exact⟨0,Nat.zero_le _,rfl,HI4,gK⟩
     case round=>
      obtain⟨f,hf,rfl,HI,cE⟩:=hrel;by_cases hft:f<nf
      ·have hf0:(0:Int)<=(f:Int):=by omega
       have hf1:(f:Int)<(nf:Int):=aB
       have rP:f<x.aA[k].aG.length:=by rw[<-Ej.out];exact hft
       have aef:=aU rW cE.out;obtain⟨-, -, -, -,hfl⟩:=p9.out wr (QG.out wr aef.out);rw[Ej.out] at hfl;obtain⟨Iz, -,f0,f1,f2,f3,f4,f5,uw,ug,f6,f7,Ai,hgs⟩:=dh.at hfl rP;obtain⟨afw,cfw,rfl, -, -, -⟩:=Ai.form;obtain⟨afg,cfg,rfl, -, -, -⟩:=hgs.form;clear Ai hgs hfl;have KV:ah.fd x k f=x.aA[k].aG[f]:=nA hkx rP
       have HF1:Hid (∀gk,gk=(x.aA[k].aG[f]).kind->(gk=0->jf x k f= -1)/\(gk=1->jf x k f=ah.dI x k f/\0<=jf x k f)/\(¬gk=0->¬gk=1->jf x k f= -2)):=hid (by
        rintro gk rfl
        rw[<-KV]
        refine⟨fun h0=>?_,fun h1=>?_,fun h0 h1=>?_⟩
        ·unfold jf;rw[if_pos h0]
        ·have:=HU.out k f hkx Ov h1
         unfold jf;rw[if_neg aB,if_pos h1];exact⟨rfl,this⟩
        ·unfold jf;rw[if_neg h0,if_neg h1])
       clear KV;have rI:Hid (Cz.fk (aO x) k f=jf x k f):=hid (oI x hkx Ov);have KM:Hid (Cz.fk (aO x) k f= -2->Cz.iY (aO x) W a k i f=Cz.iY (aO x) W a k i (f+1)):=hid (fun h=>Cz.Sz h);have HRx:Hid (∀v,Cz.val (aO x) a k f (Cz.cell W k i f)=v->(Cz.iY (aO x) W a k i f).set f v=Cz.iY (aO x) W a k i (f+1)):=hid (fun v h=>Cz.Sy (by have:=Be.out 0;rw[Cz.zS] at this;omega) h);obtain⟨g,hg⟩:=bB (x.aA[k].aG[f]);have HG:=hid (HF1.out g.kind (by rw[hg]));rw[<-hg] at f0 f1 f2 f3 f4 f5 f6 f7;clear hg HF1;obtain⟨gn,go,gu,gk,gl,gh,D6,ggs⟩:=g;simp only at f0 f1 f2 f3 f4 f5 f6 f7 HG;generalize D6.length=nw at*;generalize ggs.length=ng at*;obtain⟨w5,hw⟩:=bB (wr.alloc (.cells #[.string gn,.string go,.string gu,.int .i64 gk,.int .i64 gl,.int .i64 gh,.slice afw nw cfw,.slice afg ng cfg] 46));have jd:BL wr w5:=Ec
       have iD:=aU cE jd;have JO:=aU aef jd;have o6:=hid (aX.keep HI.out (aD.below jd));have f3':w5.cell? ⟨wr.heap.size,3,none⟩=some (.int .i64 gk):=Y8
       have Aq:=hid hw;clear hw jd;go_upto_region 12 with fail;rw[<-Aq.out];clear f0 f1 f2 f3 f4 f5 f6 f7;by_cases h0:gk=0
       ·have hml:(Cz.iY (aO x) W a k i f).length=nf:=Be.out f
        obtain⟨g,cap,tI, -, -, -,hcs⟩:=eV o6.out.1 (by rw[hml];omega);rw[hml] at tI;obtain⟨rfl,rfl⟩:ao=some ⟨g,0,none⟩/\co=cap:=by simpa using tI
        obtain⟨cc0,cf⟩:=hcs f (by rw[Bp,hml];exact hft);obtain⟨yc,cc⟩:∃y,w5.cell? ⟨g,f,none⟩=some y:=⟨_,cc0⟩;have HGb:=hid (o6.out.2 g rfl)
        have zy:Hid (bg (wl.heap.size<=·) (w5.setCell ⟨g,f,none⟩ (.int .i64 0)) (.slice (some ⟨g,0,none⟩) nf co) (Cz.iY (aO x) W a k i (f+1))):=hid (by
         rw[<-HRx.out 0 (by unfold Cz.val;rw[rI.out,HG.out.1 h0,if_neg aB,if_pos rfl])]
         exact bg.put o6.out hml.symm f 0)
        have oW:Hid (BL wl (w5.setCell ⟨g,f,none⟩ (.int .i64 0))):=hid (iD.out.setCell HGb.out _);subst h0;clear cc0 tI hcs hml;go_wp2;go_roundw;case rel=>exact⟨f+1,aB,by go_num,zy,oW⟩
        simp[intOf];omega
       ·by_cases h1:gk=1
        ·have hgu:=HG.out.2.1 h1
         obtain⟨hgu,hg0⟩:=hgu;have hrf:=kX.out.ref k i f hk hi (by rw[dc x hkx,dU hkx];exact rP) (by rw[rI.out];exact hg0);rw[rI.out] at hrf;obtain⟨u0,hu0⟩:∃u:Nat,jf x k f=(u:Int):=⟨(jf x k f).toNat,aB⟩;have HUE:Hid (ah.dI x k f=(u0:Int)):=hid (by rw[<-hgu,hu0]);rw[hu0] at hrf;simp only[Int.toNat_natCast] at hrf;obtain⟨hr1,Ad,Gy⟩:=hrf;obtain⟨z0,hz0⟩:∃z:Nat,Cz.cell W k i f=(z:Int):=⟨(Cz.cell W k i f).toNat,aB⟩;rw[hz0,Int.toNat_natCast] at Gy;have hua:u0<a.length:=by rw[VN.out];exact hr1
         have hmem:z0∈a[u0]:=by
          have:=(HP.out u0 hr1).mem_iff.2 (List.mem_range.2 Gy);rwa [Cz.aQ hua] at this
         have QW:Hid (Cz.val (aO x) a k f (Cz.cell W k i f)=(a[u0].idxOf z0:Nat)):=hid (by
          unfold Cz.val
          rw[rI.out,hu0,if_neg aB,if_neg aB,hz0,Int.toNat_natCast,Int.toNat_natCast,Cz.aQ hua])
         obtain⟨vu,VO,aeg⟩:=HA.out.qt (j:=u0) (by simpa using hua);have eu:((a.map fun o=>o.map fun(i:Nat)=>(i:Int))[u0]'(by simpa using hua))=a[u0].map fun(i:Nat)=>(i:Int):=bp
         rw[eu] at VO;obtain⟨auu,cuu,rfl,aeh, -, -⟩:=VO.form
         have VP:=hid (fun(X:World) (hX:BL w X)=>M9 (a[u0].map fun(i:Nat)=>(i:Int)) (by
          have:=(HP.out u0 hr1).length_eq
          rw[Cz.aQ hua] at this
          have:=H5.out u0
          simp at*;omega) (z0:Int) _ _ X (VO.keep (TK.out X hX)))
         rw[VA a[u0] z0 hmem] at VP;have hua0:(0:Int)<=(u0:Int):=aB
         have hua1:(u0:Int)<(a.length:Int):=aB
         obtain⟨id0,aei⟩:=bB (a[u0].idxOf z0:Nat);rw[<-aei] at VP QW;have hml:(Cz.iY (aO x) W a k i f).length=nf:=Be.out f;obtain⟨g,cap,tI, -, -, -,hcs⟩:=eV o6.out.1 (by rw[hml];omega);rw[hml] at tI;obtain⟨rfl,rfl⟩:ao=some ⟨g,0,none⟩/\co=cap:=by simpa using tI
         obtain⟨cc,cf⟩:=hcs f (by rw[Bp,hml];exact hft)
         have HCg:Hid (w5.cell? ⟨g,f,none⟩=some (.int .i64 (z0:Int))):=hid (by
          rw[cc]
          simp only[List.getElem_map]
          rw[Av.out f (by rw[hml];exact hft) aH,hz0])
         have HGl:=hid (o6.out.1.lt g rfl).2;have HGb:=hid (o6.out.2 g rfl);obtain⟨nuu,aej⟩:=bB ((a[u0].map fun(i:Nat)=>(i:Int)).length);rw[<-aej] at aeg aeh VP;subst h1;have e0:((1:Int)==0)=false:=rfl;clear hgu hg0 hr1 Ad Gy hu0 hz0 VO eu aei aej hmem tI cc hcs hml;go_upto_region 16 with fail;have uy:=eO w5 ⟨p,0,none⟩ (.int .i64 x.aL) fun xh=>aN (CF.out xh.1 (cG JO.out xh.2)) 0;have uD:=eO w5 ⟨p,1,none⟩ (.slice ak x.aA.length ck) fun xh=>aN (CF.out xh.1 (cG JO.out xh.2)) 1;have uE:=eO w5 ⟨p,2,none⟩ (.slice al x.aP.length cl) fun xh=>aN (CF.out xh.1 (cG JO.out xh.2)) 2;have uF:=eO w5 ⟨p,3,none⟩ (.slice ar x.aR.length cr) fun xh=>aN (CF.out xh.1 (cG JO.out xh.2)) 3;have hqu:=eO w5 ⟨bL aa,bP aa+u0,none⟩ (.slice auu nuu cuu) fun xh=>aeg xh.1 (TK.out xh.1 (cG JO.out xh.2));have hqg:=eO w5 ⟨g,f,none⟩ (.int .i64 (z0:Int)) fun xh=>(xh.2.cell (p:=⟨g,f,none⟩) HGl.out).trans HCg.out;refine aZ 18 (.quiet 0 (.quiet 1 (.quiet 2 (.quiet 3 (.quiet 4 (.quiet 5 (.quiet 6 (.quiet 7 (.quiet 8 (.quiet 9 (.quiet 13 (.quiet 14 (.quiet 15 (.quiet 16 (.one 10 (.quiet 11 (.quiet 12 (.one 17 .done)))))))))))))))))) (BL w5) oL (by kernel_rfl) (aI aF 1) ?_;have iK:=hid (aI (Below.refl w5.heap.size w5) 1);generalize w5.drewN 1=w6 at*;have HU6:=hid (p8 x k f _ (·<B) w6 ((HST.out w6 (cG JO.out iK.out)).tM));rw[HUE.out] at HU6
         iterate 14 refine fE ?_
         refine aT rfl ?_;go_wp2_with fail;refine HU6.out.mono ?_;rintro e w7 ⟨rfl,hb⟩;have o7:=aU iK hb;clear hb;go_wp2_with fail;refine aJ (BL w5) (fun _ h=>h) o7.out ?_
         iterate 2 refine fE ?_
         refine aT rfl ?_;have HX7:=hid (VP.out w7 (cG JO.out o7.out));go_wp2_with fail;refine HX7.out.mono ?_;rintro e w' ⟨rfl,rfl⟩;go_wp2_with fail;refine aJ (BL w5) (fun _ h=>h) o7.out ?_;refine bh ?_;try simp only[jZ,jP]
         clear uy uD uE uF hqu hqg;have wX:=hid (aX.keep o6.out (aD.below o7.out))
         have zy:Hid (bg (wl.heap.size<=·) (w7.setCell ⟨g,f,none⟩ (.int .i64 (id0:Int))) (.slice (some ⟨g,0,none⟩) nf co) (Cz.iY (aO x) W a k i (f+1))):=hid (by
          rw[<-HRx.out (id0:Int) QW.out]
          exact bg.put wX.out (Be.out f).symm f (id0:Int))
         have oW:Hid (BL wl (w7.setCell ⟨g,f,none⟩ (.int .i64 (id0:Int)))):=hid ((cG iD.out o7.out).setCell HGb.out _);have cg7:=(o7.out.cell (p:=⟨g,f,none⟩) HGl.out).trans HCg.out
         obtain⟨cc7,cf7⟩:w7.cell? ⟨g,f,none⟩=some (.int .i64 (z0:Int))/\w7.frozen? ⟨g,f,none⟩=false:=⟨cg7,by
          obtain⟨g',cap',hv', -, -, -,hcs'⟩:=eV wX.out.1 (by rw[Be.out f];omega)
          cases hv'
          exact(hcs' f (by rw[Bp,Be.out f];exact hft)).2⟩
         clear cg7;try simp only[jZ,jP]
         go_wp2;go_roundw;case rel=>exact⟨f+1,aB,by go_num,zy,oW⟩
         simp[intOf];omega
        ·have Tk:Hid (bg (wl.heap.size<=·) w5 (.slice ao nf co) (Cz.iY (aO x) W a k i (f+1))):=hid (by
          rw[<-KM.out (by rw[rI.out];exact HG.out.2.2 h0 h1)]
          exact o6.out)
         have e0:(gk==0)=false:=nU h0;have e1:(gk==1)=false:=nU h1;clear h0 h1;go_wp2;go_roundw;case rel=>exact⟨f+1,aB,by go_num,Tk,iD⟩
         simp[intOf];omega
      ·obtain rfl:f=nf:=by omega
       have HIe:Hid (bg (wl.heap.size<=·) wr (.slice ao f co) (Cz.Gm (aO x) W a k i)):=hid (by
        have e:=Cz.Sw (aO x) W a k i
        rw[show (Cz.row W k i).length=f by have:=Be.out 0;rwa [Cz.zS] at this] at e
        rw[<-e];exact HI.out)
       have hkX:k<((Cz.l8 (aO x) W a k).set k (Cz.kC (aO x) W a k m)).length:=by simp[Cz.l8];exact hk
       obtain⟨g,aaz,uu,TT,e1,e2,e3,MG,hcg,hfg,MH,Q5, -,hback⟩:=gZ.borrow ct HO.out k hkX
       have hgg:g0=g:=by
        exact QZ
       subst hgg;rw[List.getElem_set_self] at MH;obtain⟨ag,cg,rfl, -, -, -⟩:=(fC.sl MH).form;have hgl:g0<wl.heap.size:=Ae wl ⟨g0,k,none⟩ hcg;have hcg2:=(cE.out.cell (p:=⟨g0,k,none⟩) hgl).trans hcg;have hfg2:wr.frozen? ⟨g0,k,none⟩=false:=(World.frozen?_of_block (a:=⟨g0,k,none⟩) (cE.out.block _ hgl)).trans hfg;have HRg:=hid MH;have Q6:=hid (fun w2 u'=>hback w2 u' (Cz.kC (aO x) W a k m++[Cz.Gm (aO x) W a k i]));have RN:=hid Q5;have aaA:dX (some ⟨g0,0,none⟩) W.length:=fun _=>⟨_,_,rfl⟩;have lZ:=cE.out
       have rQ:(Cz.kC (aO x) W a k m).length+1<=1000000000:=by
        have:=HOl.out;simp[Cz.kC];omega
       clear e1 e2 e3 MH Q5 hback hcg hfg;go_wp2_with (at_builtin;go_must (refine iF aX rfl _ _ rfl Tryz.uQ rfl HRg.out lZ rfl (Cz.Gm (aO x) W a k i) HIe.out rfl rQ ?_));intro v' w9 SK qK;have aaW:=Q6.out w9 v' ((Turns.aS lZ).trans (qK.mono fun b _ hb=>HRg.out.1 b hb.symm)) SK;obtain⟨k1,k2,k3,k4⟩:=aaW;rw[List.set_set,show Cz.kC (aO x) W a k m++[Cz.Gm (aO x) W a k i]=Cz.kC (aO x) W a k (m+1) from (by rw[Cz.JN,HIm.out])] at k3;have rC:Hid (bU (w.heap.size<=·) (w9.setCell ⟨g0,k,none⟩ v') (.slice (some ⟨g0,0,none⟩) W.length W.length) ((Cz.l8 (aO x) W a k).set k (Cz.kC (aO x) W a k (m+1)))):=hid (bM.mono k3 (fun b _ hb=>gM rW.out.size b hb))
       have mR:Hid (BL w (w9.setCell ⟨g0,k,none⟩ v')):=hid (rW.out.trans (k4.below rW.out.size (fun b hb=>by
        rcases hb with hb|hb
        ·exact(RN.out b hb).1
        ·rw[hb];exact MG)))
       obtain⟨av,lv,cv,rfl⟩:∃a l c,v'=.slice a l c:=abJ
       clear SK qK k3 k4 Q6 HRg RN HO;go_wp2;go_roundw;case rel=>exact⟨m+1,aB,by go_num,rC,mR⟩
       simp[intOf];omega
    ·obtain rfl:m=no:=by omega
     have S9:Hid (bU (w.heap.size<=·) wr (.slice (some ⟨g0,0,none⟩) W.length W.length) (Cz.l8 (aO x) W a (k+1))):=hid (by
      rw[Cz.NA (aO x) W a hk,<-Ma.out];exact HO.out)
     go_wp2;go_roundw;case rel=>exact⟨k+1,aB,by go_num,S9,rW⟩
     simp[intOf];omega
  ·obtain rfl:k=W.length:=by omega
   have hna:¬((W.length:Int)<(a.length:Int)):=by rw[VN.out];omega
   have HE:Hid (bU (w.heap.size<=·) wr (.slice (some ⟨g0,0,none⟩) W.length W.length) (Cz.bY (aO x) W a)):=hid (by rw[<-Cz.SA];exact Q0.out);go_wp2;go_ret;exact⟨_,rfl,HE.out,HB.out⟩
theorem Cz.NC(sort want:Cz.Row)(k:Nat)(o:List Nat){i:Nat}(hi:i<sort.length):Cz.kP sort want k o (i+1)<+:Cz.tr sort want (k+1) o:=by
 rw[<-Cz.Cy]
 have key:∀n,i+1<=n->Cz.kP sort want k o (i+1)<+:Cz.kP sort want k o n:=by
  intro n;induction n with
  |zero=>intro h;omega
  |succ n ih=>
   intro h
   by_cases e:i+1=n+1
   ·rw[e];exact List.prefix_refl _
   ·refine(ih aB).trans ?_
    unfold Cz.kP;rw[List.range_succ,List.filter_append,List.flatMap_append];exact List.prefix_append _ _
 exact key _ aB
theorem SB(sort want:List Int)(hw:want.length=sort.length)(hn:sort.length<=1000)(n0 nB bs yb bu bw bn u l N1:Nat)(abg:n0<=u)(VQ:n0<=N1)(huN:u<N1)(aek:bn<N1)(sv wv:Value)(F0:Nat->Prop)(VR:F0 u)(bA:Nat->Obj->Prop)(Kp:World->Prop)
  (hK1:∀X,Kp X->ad9 bs yb bu bw bn u l sv wv sort want X)
  (abh:∀(F:Nat->Prop) X Y,(∀b,F0 b->F b)->Kp X->aM (fun b o=>(bA b o\/bF nB b o)/\¬F b) n0 X Y->Kp Y)
  (ND:∀X Y,Kp X->X.heap.size<=Y.heap.size->Below n0 X Y->(∀b,b<N1->b≠u->b<X.heap.size->Y.heap[b]?=X.heap[b]?)->Kp Y)
  (J:(Nat->Prop)->List (Value×List Nat)->World->Prop)(hJ:∀F F' pre A B,J F pre A->gj F F' A B->aM (fun b _=>F b) n0 A B->J F' pre B)(all:List (List Nat))
  (hY:∀F pre (x:Value×List Nat) W1,J F pre W1->(bq nV W1 x.1 (dV x.2)/\(pre++[x]).map (·.2)<+:all)->YieldAt Fence.wide 0 Tryz.prog l #[x.1] W1 fun e W'=>
   aM (fun b o=>(bA b o\/bF nB b o)/\¬F b) n0 W1 W'/\e=.returned (.bool true)/\J F (pre++[x]) W'):
  ∀(k:Nat) (o:List Nat) (ov:Value) (F:Nat->Prop) (pre:List (Value×List Nat)) (W:World),o.length+k=sort.length->(∀b,F0 b->F b)->Kp W->J F pre W->W.heap[u]?=some (.cells (iO sort.length o) 4 (0,0))->bg (fun b=>N1<=b/\F b) W ov (dV o)->N1<=W.heap.size->pre.map (·.2)++Cz.tr sort want k o<+:all->
   Calls Tryz.prog 98 #[ov,.pointer (some ⟨bs,0,none⟩),.pointer (some ⟨yb,0,none⟩),.pointer (some ⟨bu,0,none⟩),.pointer (some ⟨bw,0,none⟩),.pointer (some ⟨bn,0,none⟩)] W (aa8 n0 N1 u sort.length Kp J F pre o ov (Cz.tr sort want k o) W)
 |0,o,ov,F,pre,W,hok,M4,hkp,hj,hu,hI,hN1,hpre=>by
  have hlen:o.length=sort.length:=aB
  obtain⟨ao,co,hov,Sd, -, -⟩:=(bg.sl hI).form;have abj:ov=.slice ao sort.length co:=by rw[hov];simp[dV,hlen]
  subst abj;have hB:=hK1 W hkp;obtain⟨oA,cs,Rp, -, -, -⟩:=hB.sd.form;subst Rp;have c1:=(one_cell hB.s).1;have c2:=(one_cell hB.y).1;obtain⟨fn,tmps,assign,body,K0,hR⟩:=hY F pre (.slice ao sort.length co,o) W hj ⟨bq.mono (bg.sl hI) (fun _ _ _=>trivial),by rw[List.map_append];exact hpre⟩;have HR:=hid hR;have HI:=hid hI;have HU:=hid hu;have D8:=hid hkp;have Uj:=hid M4;have HKp1:=hid abh;clear hpre hkp hj hR hB hY hK1 abh ND hJ hlen hI hu hov M4;rw[<-callsIn_wide (n:=1)];refine callsIn_of_wp Tryz.func98 rfl trivial ?_ rfl;simp only[Tryz.ntmps98,List.size_toArray,List.length_cons,List.length_nil,Nat.reduceAdd,Nat.reduceSub,Array.replicate_succ,Array.replicate_zero,List.push_toArray,List.append_toArray,List.nil_append,List.cons_append];gi_wp2;refine(RoundIn.gI rfl HR.out).mono ?_;rintro e W2 ⟨ht,rfl,hj2⟩
  have HP:Hid (aa8 n0 N1 u sort.length Kp J F pre o (.slice ao sort.length co) [o] W (.returned (.bool true)) W2):=hid ⟨rfl,F,[(.slice ao sort.length co,o)],rfl,gj.refl _ _ _,HKp1.out F W W2 Uj.out D8.out ht,hj2,ht.2 _ _ HU.out (fun h=>h.2 (Uj.out _ VR)),⟨qQ HI.out.1 ht (fun b o hb A7=>absurd (HI.out.2 b A7).2 hb.2),HI.out.2⟩,ht.1,fun b hb _ hlt _=>by
   obtain⟨ob,rU⟩:∃ob,W.heap[b]?=some ob:=⟨_,Array.getElem?_eq_getElem hlt⟩;rw[rU];exact ht.2 _ _ rU (fun h=>h.2 hb)⟩
  clear ht hj2 HR K0 c1 c2;gi_wp2;go_ret;exact HP.out
 |k+1,o,ov,F,pre,W,hok,M4,hkp,hj,hu,hI,hN1,hpre=>by
  have hlo:o.length<sort.length:=aB
  have D1:o.length<want.length:=aB
  have HIH:=hid (SB sort want hw hn n0 nB bs yb bu bw bn u l N1 abg VQ huN aek sv wv F0 VR bA Kp hK1 abh ND J hJ all hY k);obtain⟨ao,co,hov,Sd, -, -⟩:=(bg.sl hI).form;have abj:ov=.slice ao o.length co:=by rw[hov];simp[dV]
  subst abj;have hB:=hK1 W hkp;obtain⟨oA,cs,Rp,aa0, -, -⟩:=hB.sd.form;subst Rp;obtain⟨aw1,cw,K1,JF, -, -⟩:=hB.wd.form;rw[hw] at K1 JF;subst K1;have c1:=(one_cell hB.s).1;have hne:((o.length:Int)==(sort.length:Int))=false:=nU aB;have hl0:(0:Int)<=(o.length:Int):=aB
  have hl1:(o.length:Int)<(sort.length:Int):=aB
  have HPRE:Hid (pre.map (·.2)++Cz.tr sort want (k+1) o<+:all):=hid hpre;have Uj:=hid M4;have HN:=hid hN1;have HKb:=hid aek;have HA:Hid (Kp W/\J F pre W/\W.heap[u]?=some (.cells (iO sort.length o) 4 (0,0))/\bg (fun b=>N1<=b/\F b) W (.slice ao o.length co) (dV o)):=hid ⟨hkp,hj,hu,hI⟩;have hcl:(dV o).length=o.length:=by simp[dV]
  clear hov hB hpre hkp hj hu hI hN1 M4 hY hcl;go_enter Tryz.func98,Tryz.ntmps98;go_wp2;clear c1 hne
  go_loopw [20] (fun ii wr=>∃(i:Nat) (F':Nat->Prop) (ys:List (Value×List Nat)),i<=sort.length/\ii=.int .i64 i/\Hid (ys.map (·.2)=Cz.kP sort want k o i)/\Hid (gj F F' W wr)/\Hid (Kp wr)/\Hid (J F' (pre++ys) wr)/\Hid (wr.heap[u]?=some (.cells (iO sort.length o) 4 (0,0)))/\Hid (bg (fun b=>N1<=b/\F b) wr (.slice ao o.length co) (dV o))/\Hid (Below n0 W wr)/\
   Hid (∀b,F b->N1<=b->b<W.heap.size->(Value.slice ao o.length co).ownBlock≠some b->wr.heap[b]?=W.heap[b]?)) (fun ii _=>sort.length-(intOf ii).toNat)
  case atStart=>exact⟨0,F,[],Nat.zero_le _,rfl,hid (by rw[Cz.JE];rfl),hid (gj.refl _ _ _),hid HA.out.1,hid (by rw[List.append_nil];exact HA.out.2.1),hid HA.out.2.2.1,hid HA.out.2.2.2,hid aF,hid (fun _ _ _ _ _=>rfl)⟩
  case round=>
   obtain⟨i,F',ys,hil,rfl,HYs,HG,HK,HJ0,HU,HI,HB,Tn⟩:=hrel;have hB:=hK1 wr HK.out;have c1:=(one_cell hB.s).1;have c3:=(one_cell hB.u).1;have c4:=(one_cell hB.wa).1;by_cases hi:i<sort.length
   ·have hi0:(0:Int)<=(i:Int):=by omega
    have hi1:(i:Int)<(sort.length:Int):=aB
    have cu:wr.cell? ⟨u,i,none⟩=some (.bool (decide (i∈o))):=by
     rw[aN HU.out i];simp only[iO,List.getElem?_toArray,List.getElem?_map,List.getElem?_range hi];rfl
    have cuf:=dJ HU.out i;obtain⟨y1,cs1, -,hy1⟩:=hB.sd.at hi;obtain rfl:y1=.int .i64 sort[i]:=hy1;obtain⟨y2,cw1, -,hy2⟩:=hB.wd.at D1;obtain rfl:y2=.int .i64 want[o.length]:=hy2;have p9:Hid (∀n,Kp (wr.drewN n)):=hid (fun n=>ND _ _ HK.out aH (aI aF n) (fun _ _ _ _=>rfl));have HJd:Hid (∀n,J F' (pre++ys) (wr.drewN n)):=hid (fun n=>hJ _ _ _ _ _ HJ0.out (gj.refl _ _ _) ((aM.refl _ _ _).drewN n));have Tp:Hid (∀n,bg (fun b=>N1<=b/\F b) (wr.drewN n) (.slice ao o.length co) (dV o)):=hid (fun n=>aX.keep HI.out (fun _ _ _=>rfl));have VT:Hid (∀n,Below n0 W (wr.drewN n)):=hid (fun n=>aI HB.out n);clear hB;by_cases hio:i∈o
    ·have abk:Hid (ys.map (·.2)=Cz.kP sort want k o (i+1)):=hid (by rw[HYs.out,Cz.Gg (fun h=>h.1 hio)])
     rw[decide_eq_true hio] at cu;clear hio;go_wp2;go_quiet (fail);go_wp2;go_roundw;case rel=>exact⟨i+1,F',ys,aB,by go_num,abk,hid HG.out,hid (p9.out _),hid (HJd.out _),hid HU.out,hid (Tp.out _),hid (VT.out _),hid Tn.out⟩
     simp[intOf];omega
    ·have HNio:=hid hio
     rw[decide_eq_false hio] at cu;by_cases hse:sort[i]=want[o.length]
     ·have ael:i∉o/\sort.getD i 0=want.getD o.length 0:=⟨hio,by rw[Cz.aQ hi,Cz.aQ D1];exact hse⟩
      have HTy:=hid (Cz.Nd (n:=k) ael)
      have SC:Hid ((pre++ys).map (·.2)++Cz.tr sort want k (o++[i])<+:all):=hid (by
       refine List.IsPrefix.trans ?_ HPRE.out
       rw[List.map_append,HYs.out,List.append_assoc,<-HTy.out]
       exact(List.prefix_append_right_inj _).2 (Cz.NC sort want k o hi))
      have e2:(sort[i] !=want[o.length])=false:=OH hse;go_wp2;go_quiet (fail);have HUx:=hid (show (wr.drewN nq).heap[u]?=some (.cells (iO sort.length o) 4 (0,0)) from HU.out);have HKx:=hid (p9.out nq);have HJx:=hid (HJd.out nq);have HIx:=hid (Tp.out nq);have Ga:=hid (VT.out nq);have HFx:Hid (∀b,F b->N1<=b->b<W.heap.size->(Value.slice ao o.length co).ownBlock≠some b->(wr.drewN nq).heap[b]?=W.heap[b]?):=hid Tn.out;have HWdz:Hid ((wr.drewN nq).heap.size=wr.heap.size):=hid rfl;generalize VU:wr.drewN nq=wd at*;clear VU HU HK HJ0 HI HB Tn p9 HJd Tp VT c1 c3 c4 cu cuf cs1 cw1;have HU:=HUx;have HK:=HKx;have HJ0:=HJx;have HI:=HIx;have HB:=Ga;have Tn:=HFx;clear HUx HKx HJx HIx Ga HFx;have hBd:=hK1 _ HK.out;have c3:=(one_cell hBd.u).1;have cuf:=dJ HU.out i;obtain⟨yu0,cu⟩:∃y,wd.cell? ⟨u,i,none⟩=some y:=⟨_,(aN HU.out i).trans (Array.getElem?_eq_getElem (by rw[zR];exact hi))⟩;clear hBd;have T1:aM (fun b _=>F' b) n0 wd (wd.setCell ⟨u,i,none⟩ (.bool true)):=aM.setCell (aM.refl _ _ _) (p:=⟨u,i,none⟩) HU.out (HG.out.1 _ (Uj.out _ VR)) abg _
      have LU:Hid ((wd.setCell ⟨u,i,none⟩ (.bool true)).heap[u]?=some (.cells (iO sort.length (o++[i])) 4 (0,0))):=hid (by
       rw[heap_setCell_same _ _ i _ _ _ HU.out,CG o true (o++[i]) (fun j hj=>by
        by_cases e:j=i
        ·subst e;simp
        ·simp[e])])
      have aem:Hid (Kp (wd.setCell ⟨u,i,none⟩ (.bool true))):=hid (ND _ _ HK.out bp T1.1 (fun b _ hb _=>jQ _ ⟨u,i,none⟩ _ _ hb));have HJ2:Hid (J F' (pre++ys) (wd.setCell ⟨u,i,none⟩ (.bool true))):=hid (hJ _ _ _ _ _ HJ0.out (gj.refl _ _ _) T1);have HI2:Hid (bg (fun b=>N1<=b/\F b) (wd.setCell ⟨u,i,none⟩ (.bool true)) (.slice ao o.length co) (dV o)):=hid (aX.keep HI.out (fun b hb _=>jQ _ ⟨u,i,none⟩ _ _ (fun e=>by have e1:b=u:=e;have:=hb.1;omega)));have bX:Hid (Below n0 W (wd.setCell ⟨u,i,none⟩ (.bool true))):=hid (HB.out.trans T1.1);have Ah:Hid (∀b,F b->N1<=b->b<W.heap.size->(Value.slice ao o.length co).ownBlock≠some b->(wd.setCell ⟨u,i,none⟩ (.bool true)).heap[b]?=W.heap[b]?):=hid (fun b h1 h2 h3 h4=>(jQ _ ⟨u,i,none⟩ _ _ (fun e=>by have e1:b=u:=e;omega)).trans (Tn.out b h1 h2 h3 h4));have HZ2:Hid ((wd.setCell ⟨u,i,none⟩ (.bool true)).heap.size=wd.heap.size):=hid bp;have LI:=hK1 _ aem.out;have Ff:=hid LI.nx;clear T1 ael;go_wp2;generalize hW2:wd.setCell ⟨u,i,none⟩ (.bool true)=W2 at*;have YK:Hid (wd.heap.size<=W2.heap.size):=hid (by rw[<-hW2];simp);clear hW2;clear c3 cu cuf;have hqn:∀xh:Held (fun V=>V.heap[bn]?=W2.heap[bn]?),xh.1.cell? ⟨bn,0,none⟩=some (.func (.func 98) #[] #[.pointer (some ⟨bs,0,none⟩),.pointer (some ⟨yb,0,none⟩),.pointer (some ⟨bu,0,none⟩),.pointer (some ⟨bw,0,none⟩),.pointer (some ⟨bn,0,none⟩)]):=fun xh=>(one_cell (xh.2.trans Ff.out)).1;refine aZ 5 (.quiet 0 (.quiet 1 (.quiet 2 (.one 3 (.one 4 .done))))) (fun V=>V.heap[bn]?=W2.heap[bn]?) oL (by kernel_rfl) rfl ?_;have iK:=hid (aI (Below.refl W2.heap.size W2) 1);have UZ:Hid ((W2.drewN 1).heap=W2.heap):=hid rfl;generalize W2.drewN 1=w6 at*
      iterate 3 refine fE ?_
      refine aT rfl ?_;go_wp2_with fail;refine aJ (fun V=>V.heap[bn]?=W2.heap[bn]?) (fun _ h=>h) ((iK.out.alloc iK.out.size _).block _ (aC Ff.out)) ?_;refine aT rfl ?_;have rQ:(dV o).length+1<=1000000000:=by simp[dV];omega
      have YL:=hid (aX.keep HI2.out (aD.below iK.out));go_wp2_with (at_builtin;go_must (refine Bn rfl _ _ rfl Tryz.rZ rfl YL.out rfl rQ ?_));intro v' w3 Aw ht3 hold hcap;have hN6:N1<=w6.heap.size:=Nat.le_trans HN.out (Nat.le_trans HB.out.size (Nat.le_trans YK.out iK.out.size));have aen:w3.heap[bn]?=W2.heap[bn]?:=(ht3.block _ (fun e=>by have:=(YL.out.2 _ e.symm).1;have:=HKb.out;omega) (lg (aC Ff.out) iK.out.size)).trans (iK.out.block _ (aC Ff.out));obtain⟨F3,hF3⟩:∃F3:Nat->Prop,F3=fun b=>F' b\/(w6.heap.size<=b/\b<w3.heap.size):=⟨_,rfl⟩;have C5:Hid (gj F' F3 W2 w3):=hid (by rw[hF3];exact⟨fun b h=>.inl h,fun b h=>h.imp id (fun h=>⟨Nat.le_trans iK.out.size h.1,h.2⟩)⟩)
      have HI3:Hid (bg (fun b=>N1<=b/\F3 b) w3 v' (dV (o++[i]))):=hid (by
       refine⟨by simpa [dV] using Aw.1,fun b hb=>?_⟩
       have hlt:=(Aw.1.lt b hb).2
       rw[hF3]
       rcases Aw.2 b hb with h|h
       ·have:=YL.out.2 b h
        exact⟨this.1,.inl (HG.out.1 b this.2)⟩
       ·exact⟨Nat.le_trans hN6 h,.inr ⟨h,hlt⟩⟩)
      have Gz:Hid (aM (fun b _=>F' b) n0 W2 w3):=hid ((aM.aS iK.out (Nat.le_trans VQ (Nat.le_trans HN.out (Nat.le_trans HB.out.size YK.out)))).trans (aM.dD ht3 (Nat.le_trans VQ hN6) (fun b hb=>Nat.le_trans VQ (YL.out.2 b hb.symm).1) (fun b _ hb _=>HG.out.1 b (YL.out.2 b hb.symm).2)));have HJ3:Hid (J F3 (pre++ys) w3):=hid (hJ _ _ _ _ _ HJ2.out C5.out Gz.out);have HKp3:Hid (Kp w3):=hid (ND _ _ aem.out Gz.out.1.size Gz.out.1 (fun b hb hbu hlt=>(ht3.block _ (fun e=>by have:=(YL.out.2 _ e.symm).1;omega) (lg hlt iK.out.size)).trans (iK.out.block _ hlt)));have HU3:Hid (w3.heap[u]?=some (.cells (iO sort.length (o++[i])) 4 (0,0))):=hid ((ht3.block _ (fun e=>by have:=(YL.out.2 _ e.symm).1;omega) (lg (aC LU.out) iK.out.size)).trans ((iK.out.block _ (aC LU.out)).trans LU.out));have NE:Hid (bg (fun b=>N1<=b/\F b) w3 (.slice ao o.length co) (dV o)):=hid hold;have cE:Hid (Below n0 W w3):=hid (bX.out.trans Gz.out.1);have HFr3:Hid (∀b,F b->N1<=b->b<W.heap.size->(Value.slice ao o.length co).ownBlock≠some b->w3.heap[b]?=W.heap[b]?):=hid (fun b h1 h2 h3 h4=>(ht3.block _ (fun e=>h4 e.symm) (lg h3 (Nat.le_trans (by rw[HZ2.out];exact HB.out.size) iK.out.size))).trans ((iK.out.block _ (lg h3 (by rw[HZ2.out];exact HB.out.size))).trans (Ah.out b h1 h2 h3 h4)));have HCap:=hid hcap;have HW3:Hid (N1<=w3.heap.size):=hid (Nat.le_trans hN6 (by have:=ht3.size;exact this));have HIH3:=hid (HIH.out (o++[i]) v' F3 (pre++ys) w3 lC (fun b hb=>C5.out.1 b (HG.out.1 b (Uj.out b hb))) HKp3.out HJ3.out HU3.out HI3.out HW3.out SC.out);have Ar:Hid (wd.heap.size<=w6.heap.size):=hid (Nat.le_trans YK.out iK.out.size);have HW63:Hid (w6.heap.size<=w3.heap.size):=hid ht3.size
      have VW:Hid (gj F F3 W w3):=hid ⟨fun b hb=>C5.out.1 b (HG.out.1 b hb),fun b hb=>by
       rw[hF3] at hb;rcases hb with h|h
       ·exact(HG.out.2 b h).imp id (fun q=>⟨q.1,lg q.2 (Nat.le_trans (by rw[<-HWdz.out];exact aH) (Nat.le_trans Ar.out HW63.out))⟩)
       ·exact .inr ⟨Nat.le_trans (Nat.le_trans HB.out.size Ar.out) h.1,h.2⟩⟩
      obtain⟨a9,n9,c9,rfl⟩:∃a n c,v'=.slice a n c:=by obtain⟨a,c,e,_⟩:=(bg.sl Aw).form;exact⟨_,_,_,e⟩
      have HOwn:=hid Aw.2;have HW6w:Hid (W.heap.size<=w6.heap.size):=hid (Nat.le_trans HB.out.size (Nat.le_trans YK.out iK.out.size));clear hqn Aw ht3 hold hcap hF3 YL iK UZ;refine aJ (fun V=>V.heap[bn]?=W2.heap[bn]?) (fun _ h=>h) aen ?_;refine bh ?_;try simp only[jZ,jP]
      clear aen;go_wp2_with fail;refine HIH3.out.mono ?_;rintro e W4 ⟨rfl,F4,ys4,aeo,hg4,hk4,hj4,hu4,hi4,hb4,abl⟩
      have Od:=hid (show gj F F4 W (W4.setCell ⟨u,i,none⟩ (.bool false)) from ⟨fun b hb=>hg4.1 b (VW.out.1 b hb),fun b hb=>by
       have hz:(W4.setCell ⟨u,i,none⟩ (.bool false)).heap.size=W4.heap.size:=bp
       rw[hz];rcases hg4.2 b hb with h|h
       ·exact(VW.out.2 b h).imp id (fun q=>⟨q.1,lg q.2 hb4.size⟩)
       ·exact .inr ⟨Nat.le_trans cE.out.size h.1,h.2⟩⟩)
      have HI4:Hid (bg (fun b=>N1<=b/\F b) W4 (.slice ao o.length co) (dV o)):=hid (by
       refine⟨?_,NE.out.2⟩
       rcases NE.out.1.2 with h0|⟨g,cap,cur,hv,h1,h2,h3,h4,h5,h6⟩
       ·exact⟨NE.out.1.1,.inl h0⟩
       ·obtain⟨rfl,hle,rfl⟩:ao=some ⟨g,0,none⟩/\o.length=(dV o).length/\co=cap:=by simpa using hv
        have hgo:=NE.out.2 g rfl;by_cases e:(Value.slice a9 n9 c9).ownBlock=some g
        ·obtain⟨a',k',⟨ea, -,ek⟩,e2⟩:=HCap.out e
         subst ea;subst ek;rcases hi4.1.2 with h0|⟨g',cap',cur',hv',j1,j2,j3,j4,j5,j6⟩
         ·exact absurd (e2.symm.trans h0.1) bp
         ·have hv2:=e2.symm.trans hv'
          have hgg:g=g':=by have:=congrArg Value.ownBlock hv2;simpa [Value.ownBlock] using this
          have hcc:co=cap':=congrArg (fun v=>match v with| .slice _ _ c=>c|_=>0) hv2;subst hgg;subst hcc;refine⟨NE.out.1.1,.inr ⟨g,co,cur',hv,h1,j2,h3,h4,j5,?_⟩⟩;have j7:=congrArg (List.take (dV o).length) j6;rw[List.take_take] at j7;have e3:min (dV o).length ((dV (o++[i])).length*1)=(dV o).length:=by simp[dV]
          rw[e3] at j7;rw[Nat.mul_one,j7];simp[dV]
        ·have:=abl g (VW.out.1 g hgo.2) hgo.1 (aC h2) e
         exact⟨NE.out.1.1,.inr ⟨g,co,cur,hv,h1,this.trans h2,h3,h4,h5,h6⟩⟩)
      have HU4:=hid hu4;have HKp4:=hid hk4;have T5:aM (fun b _=>F4 b) n0 W4 (W4.setCell ⟨u,i,none⟩ (.bool false)):=aM.setCell (aM.refl _ _ _) (p:=⟨u,i,none⟩) hu4 (Od.out.1 _ (Uj.out _ VR)) abg _;have HKp5:Hid (Kp (W4.setCell ⟨u,i,none⟩ (.bool false))):=hid (ND _ _ hk4 bp T5.1 (fun b _ hb _=>jQ _ ⟨u,i,none⟩ _ _ hb))
      have HJ5:Hid (J F4 (pre++(ys++ys4)) (W4.setCell ⟨u,i,none⟩ (.bool false))):=hid (by
       rw[<-List.append_assoc]
       exact hJ _ _ _ _ _ hj4 (gj.refl _ _ _) T5)
      have HYs5:Hid ((ys++ys4).map (·.2)=Cz.kP sort want k o (i+1)):=hid (by rw[List.map_append,HYs.out,aeo,HTy.out])
      have HU5:Hid ((W4.setCell ⟨u,i,none⟩ (.bool false)).heap[u]?=some (.cells (iO sort.length o) 4 (0,0))):=hid (by
       rw[heap_setCell_same _ _ i _ _ _ HU4.out,CG (o++[i]) false o (fun j hj=>by
        by_cases e:j=i
        ·subst e;simpa using HNio.out
        ·simp[e])])
      have o6:Hid (bg (fun b=>N1<=b/\F b) (W4.setCell ⟨u,i,none⟩ (.bool false)) (.slice ao o.length co) (dV o)):=hid (aX.keep HI4.out (fun b hb _=>jQ _ ⟨u,i,none⟩ _ _ (fun e=>by have e1:b=u:=e;have:=hb.1;omega)));have iD:Hid (Below n0 W (W4.setCell ⟨u,i,none⟩ (.bool false))):=hid ((cE.out.trans hb4).trans T5.1)
      have HFr5:Hid (∀b,F b->N1<=b->b<W.heap.size->(Value.slice ao o.length co).ownBlock≠some b->(W4.setCell ⟨u,i,none⟩ (.bool false)).heap[b]?=W.heap[b]?):=hid (fun b h1 h2 h3 h4=>by
       refine(jQ _ ⟨u,i,none⟩ _ _ (fun e=>by have e1:b=u:=e;omega)).trans ((abl b (VW.out.1 b h1) h2 (lg h3 cE.out.size) ?_).trans (HFr3.out b h1 h2 h3 h4));intro e;rcases HOwn.out b e with h|h
       ·exact h4 h
       ·have:=HW6w.out
        omega)
      have hB4:=hK1 _ HKp4.out;have c3:=(one_cell hB4.u).1;have cu:=aN HU4.out i;have cuf:=dJ HU4.out i;clear aeo hg4 hk4 hj4 hu4 hi4 hb4 abl T5 hB4;obtain⟨yu,hyu⟩:∃y,W4.cell? ⟨u,i,none⟩=some y:=⟨_,cu.trans (Array.getElem?_eq_getElem (by rw[zR];exact hi))⟩;clear cu;go_wp2;go_roundw;case rel=>exact⟨i+1,F4,ys++ys4,aB,by go_num,HYs5,Od,HKp5,HJ5,HU5,o6,iD,HFr5⟩
      simp[intOf];omega
     ·have e2:(sort[i] !=want[o.length])=true:=GL hse
      have abk:Hid (ys.map (·.2)=Cz.kP sort want k o (i+1)):=hid (by rw[HYs.out,Cz.Gg (fun h=>hse (by have:=h.2;rwa [Cz.aQ hi,Cz.aQ D1] at this))]);generalize sort[i]=z1 at*;generalize want[o.length]=z2 at*;clear hse hio;go_wp2;go_quiet (fail);go_wp2;go_roundw;case rel=>exact⟨i+1,F',ys,aB,by go_num,abk,hid HG.out,hid (p9.out _),hid (HJd.out _),hid HU.out,hid (Tp.out _),hid (VT.out _),hid Tn.out⟩
      simp[intOf];omega
   ·obtain rfl:i=sort.length:=by omega
    have HP:Hid (aa8 n0 N1 u sort.length Kp J F pre o (.slice ao o.length co) (Cz.tr sort want (k+1) o) W (.returned (.bool true)) wr):=hid ⟨rfl,F',ys,by rw[HYs.out,Cz.Cy],HG.out,HK.out,HJ0.out,HU.out,HI.out,HB.out,Tn.out⟩;clear hB c3 c4;go_wp2;go_ret;exact HP.out
theorem JQ(a:Option Addr)(n c:Nat)(w:World):Calls Tryz.prog 58 #[.slice a n c] w fun e w'=>e=.returned (.func (.func 97) #[] #[.pointer (some ⟨w.heap.size,0,none⟩)])/\w'=w.alloc (.cells #[.slice a n c] 22):=by
 go_enter Tryz.func58,Tryz.ntmps58;go_wp2;go_ret;exact⟨rfl,rfl⟩
theorem NF(n:Nat):(List.replicate n (Value.bool false)).toArray=iO n []:=by
 unfold iO;congr 1;refine List.ext_getElem bp fun j h1 h2=>?_;simp
theorem JR(w:World)(o o':Obj){b:Nat}(h:b<w.heap.size):((w.alloc o).alloc o').heap[b]?=w.heap[b]?:=
 (Below.heap_alloc _ _ _ lC).trans (Below.heap_alloc _ _ _ h)
def OrdG(sort:List Int)(pre:List (Value×List Nat))(x:Value×List Nat)(W:World):Prop:=bq nV W x.1 (dV x.2)/\(pre++[x]).map (·.2)<+:Cz.orders sort
theorem Gn(sort:List Int)(hn:sort.length<=1000)(n0 nB bs:Nat)(sv:Value)(bA:Nat->Obj->Prop)(w:World)(hn0:n0<=w.heap.size)(hs:bq (·<n0) w sv sort)(hbs:w.heap[bs]?=some (.cells #[sv] 22 (0,0)))
  (D7:∀o,¬bA bs o):
  Cl (α:=Value×List Nat) Tryz.prog n0 nB 97 #[.pointer (some ⟨bs,0,none⟩)] (fun x=> #[x.1]) (OrdG sort) bA (fun xs _=>xs.map (·.2)=Cz.orders sort) w:=by
 intro l J W C4 hJ hY h0;have VX:=(C4.block _ (aC hbs)).trans hbs;have hsW:bq (·<n0) W sv sort:=hs.keep (aD.below C4);have hnW:n0<=W.heap.size:=Nat.le_trans hn0 C4.size;obtain⟨oA,cs,rfl,aa0, -, -⟩:=hsW.form;have c1:=(one_cell VX).1;have hbl:bs<W.heap.size:=aC VX;have HJ:=hid hJ;have HY:=hid hY;have H0:=hid h0;have tJ:=hid VX;have HS:=hid hsW;have UQ:=hid D7;have Fz:=hid hnW;have hmk:=fun V=>yD (P:=Tryz.prog) (t:=87) (e:=4) (b:=1) (by kernel_rfl) (by kernel_rfl) aB sort.length aB V;clear hJ hY h0 C4 hn0 hs hbs D7 VX hsW hnW;rw[<-callsIn_wide (n:=1)];refine callsIn_of_wp Tryz.func97 rfl trivial ?_ rfl;simp only[Tryz.ntmps97,List.size_toArray,List.length_cons,List.length_nil,Nat.reduceAdd,Nat.reduceSub,Array.replicate_succ,Array.replicate_zero,List.push_toArray,List.append_toArray,List.nil_append,List.cons_append];rw[wpIn_wide];obtain⟨w3,hw3⟩:=bB (((W.alloc (.cells #[.func (.yield l) #[] #[]] 175)).alloc (.cells (Array.replicate sort.length (Value.bool false)) 4)).alloc (.cells #[.slice (some ⟨W.heap.size+1,0,none⟩) sort.length sort.length] 87));have PK:w3.heap.size=W.heap.size+3:=by rw[hw3];simp
 have hb3:BL W w3:=by rw[hw3];exact((aF.alloc aH _).alloc bp _).alloc lC _
 have h3a:w3.heap[W.heap.size]?=some (.cells #[.func (.yield l) #[] #[]] 175 (0,0)):=by rw[hw3];exact bG _ (bG _ (aW _ _ rfl))
 have h3b:w3.heap[W.heap.size+1]?=some (.cells (iO sort.length []) 4 (0,0)):=by rw[hw3,<-NF,List.toArray_replicate];exact bG _ (aW _ _ bp)
 have h3c:w3.heap[W.heap.size+1+1]?=some (.cells #[.slice (some ⟨W.heap.size+1,0,none⟩) sort.length sort.length] 87 (0,0)):=by rw[hw3];exact aW _ _ bp
 have H3:=hid (And.intro hb3 (And.intro PK (And.intro h3a (And.intro h3b h3c))));have HW3:=hid hw3;have c1':=(one_cell ((hb3.block _ (aC tJ.out)).trans tJ.out)).1;clear hb3 PK h3a h3b h3c hw3;go_upto_region 2 with fail;rw[<-HW3.out];clear c1 hbl hmk;go_wp2_with fail;refine(zG _ _ _ _).mono ?_;rintro e w4 ⟨rfl,hw4⟩;have hb4:BL w3 w4:=by rw[hw4];exact aF.alloc aH _
 have D4:=hid (zJ sort aB w3.heap.size _ w4 (bq.mono (S':=(·<w4.heap.size)) (HS.out.keep (aD.below (H3.out.1.trans (hb4.mono H3.out.1.size)))) (fun b hb _=>hb)) (by rw[hw4];exact aW _ _ rfl));have gK:=hid hb4;clear hw4 hb4 c1';go_wp2_with fail;refine D4.out.mono ?_;rintro e w5 ⟨wv,rfl,N9,jd⟩;have iD:=hid (H3.out.1.trans ((cG gK.out jd).mono H3.out.1.size));have o6:=hid N9;have HZ5:Hid (W.heap.size+3<=w4.heap.size):=hid (by have:=H3.out.2.1;have:=gK.out.size;omega);have aep:=aU gK jd;have HZ45:=hid jd.size;obtain⟨aw,nw,cw,rfl⟩:∃a n c,wv=.slice a n c:=by obtain⟨a,c,e,_⟩:=(bg.sl N9).form;exact⟨_,_,_,e⟩
 clear N9 jd D4;obtain⟨w6,qE⟩:=bB ((w5.alloc (.cells #[.slice aw nw cw] 22)).alloc (.cells #[.func (.func 98) #[] #[.pointer (some ⟨bs,0,none⟩),.pointer (some ⟨W.heap.size,0,none⟩),.pointer (some ⟨W.heap.size+1+1,0,none⟩),.pointer (some ⟨w5.heap.size,0,none⟩),.pointer (some ⟨w5.heap.size+1,0,none⟩)]] 175));have Ar:=hid qE;have rS:BL w5 w6:=by rw[qE];exact(aF.alloc aH _).alloc bp _
 have hz6:w6.heap.size=w5.heap.size+2:=by rw[qE];simp
 have h6a:w6.heap[w5.heap.size]?=some (.cells #[.slice aw nw cw] 22 (0,0)):=by rw[qE];exact bG _ (aW _ _ rfl)
 have h6b:w6.heap[w5.heap.size+1]?=some (.cells #[.func (.func 98) #[] #[.pointer (some ⟨bs,0,none⟩),.pointer (some ⟨W.heap.size,0,none⟩),.pointer (some ⟨W.heap.size+1+1,0,none⟩),.pointer (some ⟨w5.heap.size,0,none⟩),.pointer (some ⟨w5.heap.size+1,0,none⟩)]] 175 (0,0)):=by rw[qE];exact aW _ _ bp
 have qp:=aU iD rS;have HZ6:=hid hz6;have H6:=hid (And.intro h6a h6b);have Fl:=hid (fun(b:Nat) (o:Obj) (h:w3.heap[b]?=some o)=>((rS.block _ (lg (aC h) aep.out.size)).trans ((aep.out.block _ (aC h)).trans h):w6.heap[b]?=some o));have cn6:=(one_cell h6b).1;clear qE rS hz6 h6a h6b;go_upto_region 5 with fail;rw[<-Ar.out];have hn6:n0<=w6.heap.size:=Nat.le_trans Fz.out qp.out.size;have hwl:(Cz.fS Cz.dF sort).length=sort.length:=(Cz.gH (c:=Cz.dF)).length_eq;have abm:w6.heap[bs]?=some (.cells #[.slice oA sort.length cs] 22 (0,0)):=(qp.out.block _ (aC tJ.out)).trans tJ.out;have hu6:w6.heap[W.heap.size+1]?=some (.cells (iO sort.length []) 4 (0,0)):=Fl.out _ _ H3.out.2.2.2.1
 have hkeep:∀X,((∀b,b<w6.heap.size->b≠W.heap.size+1->b<n0\/b=bs\/W.heap.size<=b->X.heap[b]?=w6.heap[b]?)/\Below n0 w6 X)->ad9 bs W.heap.size (W.heap.size+1+1) w5.heap.size (w5.heap.size+1) (W.heap.size+1) l (.slice oA sort.length cs) (.slice aw nw cw) sort (Cz.fS Cz.dF sort) X:=by
  rintro X ⟨hX,hXb⟩;have hbsl:=aC tJ.out;have Yk:=HZ5.out;have hz45:=HZ45.out;have hz6:=HZ6.out
  refine⟨(hX bs aB aB (.inr (.inl rfl))).trans abm,(hX _ aB aB (.inr (.inr aH))).trans (Fl.out _ _ H3.out.2.2.1),(hX _ aB aB (.inr (.inr aB))).trans (Fl.out _ _ H3.out.2.2.2.2),
   (hX _ aB aB (.inr (.inr aB))).trans H6.out.1,(hX _ aB aB (.inr (.inr aB))).trans H6.out.2,?_,?_⟩
  ·exact bq.mono (HS.out.keep (aD.aS ((qp.out.mono Fz.out).trans hXb) (fun _ h=>h))) (fun _ _ _=>trivial)
  ·refine bq.mono (bg.sl (aX.keep o6.out (w':=X) (fun b hb hlt=>?_))) (fun _ _ _=>trivial)
   have h9:w3.heap.size<=b:=by have:=gK.out.size;have h8:w4.heap.size<=b:=hb;omega
   have PK:=H3.out.2.1;rw[hX b aB aB (.inr (.inr aB)),Ar.out];exact JR _ _ _ hlt
 have HC:=hid (SB sort (Cz.fS Cz.dF sort) hwl hn n0 nB bs W.heap.size (W.heap.size+1+1) w5.heap.size (w5.heap.size+1) (W.heap.size+1) l w6.heap.size (by have:=Fz.out;omega) hn6 (aC hu6) (aC H6.out.2) (.slice oA sort.length cs) (.slice aw nw cw)
  (fun b=>W.heap.size<=b/\b<w6.heap.size) ⟨aB,aC hu6⟩ bA
  (fun X=>(∀b,b<w6.heap.size->b≠W.heap.size+1->b<n0\/b=bs\/W.heap.size<=b->X.heap[b]?=w6.heap[b]?)/\Below n0 w6 X) hkeep
  (fun F X Y hF ⟨h1,h2⟩ ht=>⟨fun b g1 g2 g3=>by
   have hx:=h1 b g1 g2 g3;rcases g3 with g3|rfl|g3
   ·rw[ht.1.block b g3,hx]
   ·rw[abm] at hx ⊢
    exact ht.2 _ _ hx (fun q=>q.1.elim (UQ.out _) (fun q=>by simp[bF,book] at q))
   ·rw[<-hx]
    have rU:X.heap[b]?=some w6.heap[b]:=by rw[hx];exact Array.getElem?_eq_getElem g1
    rw[rU];exact ht.2 _ _ rU (fun q=>q.2 (hF b ⟨g3,g1⟩)),h2.trans ht.1⟩)
  (fun X Y ⟨h1,h2⟩ hsz hb hk=>⟨fun b g1 g2 g3=>by
   have hx:=h1 b g1 g2 g3;have rU:X.heap[b]?=some w6.heap[b]:=by rw[hx];exact Array.getElem?_eq_getElem g1
   rw[hk b g1 g2 (aC rU),hx],h2.trans hb⟩)
  J HJ.out (Cz.orders sort) HY.out sort.length [] (.slice none 0 0) (fun b=>W.heap.size<=b/\b<w6.heap.size) [] w6 bp (fun _ h=>h)
  ⟨fun _ _ _ _=>rfl,aF⟩
  (HJ.out _ _ _ _ _ H0.out ⟨fun _ h=>h.elim,fun b h=>.inr h⟩ (aM.aS qp.out Fz.out)) hu6 (bg.nil _ _) aH (List.prefix_refl _))
 clear hkeep abm hu6 hwl;go_wp2_with fail;refine HC.out.mono ?_;rintro e w9 ⟨rfl,F',ys,hys, -, -,hj, -⟩;have HE:=hid (And.intro hys hj);clear hys hj cn6;go_wp2;go_end0;exact⟨⟨_,rfl⟩,F',ys,HE.out.1,HE.out.2⟩
theorem eU.wE{α:Type}{R:World->Value->α->Prop}{S:Nat->Prop}{W W':World}{v:Value}{xs:List α}(h:eU R S W v xs)(hk:∀b c t fr,S b->W.heap[b]?=some (.cells c t fr)->W'.heap[b]?=some (.cells c t fr))(hR:∀u x,R W u x->R W' u x):eU R S W' v xs:=by
 obtain⟨a,cap,rfl,h1,h2,h3,h4,h5⟩:=h;refine⟨a,cap,rfl,h1,h2,h3,h4,fun j hj=>?_⟩;obtain⟨u,hu,hr⟩:=h5 j hj;refine⟨u,?_,hR _ _ hr⟩;unfold World.cell? at hu ⊢;split at hu
 ·rename_i heq
  rw[hk _ _ _ _ (h4 aB) heq];exact hu
 ·cases hu
theorem bq.wE{S:Nat->Prop}{W W':World}{v:Value}{xs:List Int}(h:bq S W v xs)(hk:∀b c t fr,S b->W.heap[b]?=some (.cells c t fr)->W'.heap[b]?=some (.cells c t fr)):bq S W' v xs:=eU.wE h hk fun _ _ h=>h
theorem dr.wE{S:Nat->Prop}{W W':World}{v:Value}{xs:List (List Int)}(h:dr S W v xs)(hk:∀b c t fr,S b->W.heap[b]?=some (.cells c t fr)->W'.heap[b]?=some (.cells c t fr)):dr S W' v xs:=eU.wE h hk fun _ _ h=>bq.wE h hk
theorem wF(a:Option Addr)(n c:Nat)(k:Int)(p:Nat)(w:World):Calls Tryz.prog 23 #[.pointer (some ⟨p,0,none⟩),.int .i64 k,.slice a n c] w fun e w'=>
  e=.returned (.func (.func 57) #[] #[.pointer (some ⟨w.heap.size+1,0,none⟩),.pointer (some ⟨w.heap.size,0,none⟩),.pointer (some ⟨w.heap.size+1+1,0,none⟩)])/\w'=((w.alloc (.cells #[.pointer (some ⟨p,0,none⟩)] 70)).alloc (.cells #[.int .i64 k] 3)).alloc (.cells #[.slice a n c] 42):=by
 go_enter Tryz.func23,Tryz.ntmps23;go_wp2;go_ret;exact⟨rfl,rfl⟩
def eT(a:List (List Nat)):List (List Int):=a.map dV
def aer(L:List (List (List Nat)))(pre:List (Value×List (List Nat)))(x:Value×List (List Nat))(W:World):Prop:=dr nV W x.1 (eT x.2)/\(pre++[x]).map (·.2)<+:L
theorem VY{T:List Cz.Row}{r:Cz.Row}{before:List (List Nat)}{pre:List (Value×List Nat)}{x:Value×List Nat}{Gp:List (List (List Nat))}(h1:(pre++[x]).map (·.2)<+:Cz.orders r)(h2:Gp<+:Cz.jE T (before++[x.2])):
  (pre.flatMap fun o=>Cz.jE T (before++[o.2]))++Gp<+:Cz.jE (r::T) before:=by
 obtain⟨t1,e1⟩:=h1;obtain⟨t2,e2⟩:=h2;refine⟨t2++t1.flatMap fun o=>Cz.jE T (before++[o]),?_⟩;rw[show Cz.jE (r::T) before=(Cz.orders r).flatMap (fun o=>Cz.jE T (before++[o])) from rfl,<-e1];simp only[List.map_append,List.flatMap_append,List.map_cons,List.map_nil,List.flatMap_cons,List.flatMap_nil,List.append_nil,List.append_assoc,List.flatMap_map];rw[<-e2];simp[List.append_assoc]
structure zT(S:List Cz.Row)(k:Nat)(before:List (List Nat))(n0 bk bS bb p:Nat)(uv bv:Value)(PB:Nat->Prop)(w:World):Prop where
 st:∃(a b c d e:Value),w.heap[p]?=some (.cells #[a,b,c,d,e,uv] 118 (0,0))
 Ay:dr (·<n0) w uv S
 pb:p<n0
 k:w.heap[bk]?=some (.cells #[.int .i64 (k:Int)] 3 (0,0))
 s:w.heap[bS]?=some (.cells #[.pointer (some ⟨p,0,none⟩)] 70 (0,0))
 b:w.heap[bb]?=some (.cells #[bv] 42 (0,0))
 bf:dr (fun b=>b<n0\/PB b) w bv (eT before)
 P:PB bk/\PB bS/\PB bb
theorem zT.keep{S:List Cz.Row}{k:Nat}{before:List (List Nat)}{n0 bk bS bb p:Nat}{uv bv:Value}{PB:Nat->Prop}{w w':World}(h:zT S k before n0 bk bS bb p uv bv PB w)(hk:∀b,b<n0\/PB b->b<w.heap.size->w'.heap[b]?=w.heap[b]?):zT S k before n0 bk bS bb p uv bv PB w' where
 st:=by
  obtain⟨a,b,c,d,e,h1⟩:=h.st;exact⟨a,b,c,d,e,(hk _ (.inl h.pb) (aC h1)).trans h1⟩
 Ay:=h.Ay.keep (fun b hb hlt=>hk b (.inl hb) hlt)
 pb:=h.pb
 k:=(hk _ (.inr h.P.1) (aC h.k)).trans h.k
 s:=(hk _ (.inr h.P.2.1) (aC h.s)).trans h.s
 b:=(hk _ (.inr h.P.2.2) (aC h.b)).trans h.b
 bf:=h.bf.keep (fun b hb hlt=>hk b hb hlt)
 P:=h.P
theorem zT.next{S:List Cz.Row}{k:Nat}{before:List (List Nat)}{n0 bk bS bb p:Nat}{uv bv:Value}{PB:Nat->Prop}{w w':World}(h:zT S k before n0 bk bS bb p uv bv PB w)(hb:BL w w'):zT S k before n0 bk bS bb p uv bv PB w':=h.keep fun b _ hlt=>hb.block b hlt
theorem wG{P:Program}{n:Nat}{fn:Func}{tmps:Array Value}{w:World}{R:Ending->World->Prop}{v:Value}{D:Nat}(hk:w.heap[D]?=some (.deferred (some [])))(h1:(results fn tmps).run P (w.putObj D (.deferred none))=.ok v (w.putObj D (.deferred none)))
  (h2:R (.returned v) (w.putObj D (.deferred none))):LeavesInM Fence.wide n P fn tmps R [{target:=.collected D,args:=#[]}] .returning w:=
 ⟨bp,.inl ⟨D,_,rfl,run_takeDeferred hk,⟨_,h1,h2⟩⟩⟩
theorem all_zero(S:List Cz.Row)(before:List (List Nat))(n0 nB bk bS bb p:Nat)(uv bv:Value)(PB:Nat->Prop)(bA:Nat->Obj->Prop)(w:World)(hn0:n0<=w.heap.size)(hA:zT S S.length before n0 bk bS bb p uv bv PB w):
  Cl (α:=Value×List (List Nat)) Tryz.prog n0 nB 57 #[.pointer (some ⟨bk,0,none⟩),.pointer (some ⟨bS,0,none⟩),.pointer (some ⟨bb,0,none⟩)] (fun x=> #[x.1]) (aer (Cz.jE [] before)) bA (fun xs _=>xs.map (·.2)=Cz.jE [] before) w:=by
 intro l J W C4 hJ hY h0;have hnW:n0<=W.heap.size:=Nat.le_trans hn0 C4.size;obtain⟨w0,hw0⟩:=bB (W.alloc (.cells #[.func (.yield l) #[] #[]] 126));have hb0:BL W w0:=by rw[hw0];exact aF.alloc aH _
 have hyb:w0.heap[W.heap.size]?=some (.cells #[.func (.yield l) #[] #[]] 126 (0,0)):=by rw[hw0];exact aW _ _ rfl
 have vf:=hid ((hA.next C4).next hb0);obtain⟨au,cu,rfl,Sb, -, -⟩:=vf.out.Ay.form;obtain⟨ab,cb,rfl,ac1, -, -⟩:=vf.out.bf.form;obtain⟨z0,z1,z2,z3,z4,hz⟩:=vf.out.st;obtain⟨-, -, -, -, -,s5⟩:=DQ hz;have c1:=(one_cell vf.out.k).1;have c2:=(one_cell vf.out.s).1;have c3:=(one_cell vf.out.b).1;have c4:=(one_cell hyb).1;have HW0:=hid hw0;have HYb:=hid hyb;have hJ0:J (fun b=>b=W.heap.size) [] w0:=hJ _ _ _ _ _ h0 ⟨fun _ h=>h.elim,fun b h=>.inr ⟨aB,by rw[h];exact aC hyb⟩⟩ (aM.aS hb0 hnW);have HJ0:=hid (fun n=>hJ _ _ _ _ _ hJ0 (gj.refl _ _ _) ((aM.refl (fun b _=>b=W.heap.size) n0 w0).drewN n));have HY:=hid hY;clear hJ hY h0 hA hw0 hb0 hyb hz C4;rw[<-callsIn_wide (n:=1)];refine callsIn_of_wp Tryz.func57 rfl trivial ?_ rfl;simp only[Tryz.ntmps57,List.size_toArray,List.length_cons,List.length_nil,Nat.reduceAdd,Nat.reduceSub,Array.replicate_succ,Array.replicate_zero,List.push_toArray,List.append_toArray,List.nil_append,List.cons_append];gi_wp2;rw[<-HW0.out,wpIn_wide];go_quiet (fail);obtain⟨fn,tmps,assign,body,K0,hR⟩:=YieldAt.gI (m':=0) rfl (HY.out _ [] (.slice ab (eT before).length cb,before) (w0.drewN nq) (HJ0.out nq) ⟨dr.mono (vf.out.bf.keep (fun _ _ _=>rfl)) (fun _ _ _=>trivial),List.prefix_refl _⟩);have vU:=hid hR;generalize VU:w0.drewN nq=wd at*;have c3':wd.cell? ⟨bb,0,none⟩=some (.slice ab (eT before).length cb):=by rw[<-VU];exact c3
 have c4':wd.cell? ⟨W.heap.size,0,none⟩=some (.func (.yield l) #[] #[]):=by rw[<-VU];exact c4
 clear hR VU c1 c2 c3 c4 s5;gi_wp2;refine(RoundIn.gI rfl vU.out).mono ?_;rintro e W2 ⟨-,rfl,hj2⟩;have HE:=hid hj2;clear hj2 vU K0 c3' c4';gi_wp2;refine bodyPost_ret (results_none rfl _ _ _) rfl ?_;exact⟨⟨_,rfl⟩,_,[(.slice ab (eT before).length cb,before)],rfl,HE.out⟩
theorem DT{P:Program}{t:TypeId}{bytes:Nat}{w:World}{ops:Array Oper}{rest:List Oper}{o:Oper}{a:Act}{Q:Exit->Act->World->Prop}(hgd:o.guard=none)(s x:Operand)
  (ho:o.op=.call {callee:=.builtin .append,args:=#[s,x],argTypes:=#[t,t]})(hT:jh P t 22 1 bytes)
  {B:Nat}{E:Nat->Prop}{v:Value}{xs:List Cz.Row}(hs:a.eval s=v)(hown:gX B E w v xs)
  {u:Value}{e':TypeId}(hx:a.eval x=.slice (some ⟨w.heap.size,0,none⟩) 1 1)(y:Cz.Row)(hu:bq (fun b=>E b/\v.ownBlock≠some b) w u y)(h1:u.oneCell'=true)
  (hsmall:xs.length+1<=1000000000)(hB:B<=w.heap.size)
  (h:∀v' w',gX B E w' v' (xs++[y])->Turns (fun b=>v.ownBlock=some b) w w'->wpList P ops Q rest (a.put o.dst v') w'):
  wpList P ops Q (o::rest) a (w.alloc (.cells #[u] e')):=by
 obtain⟨us,h2,h3,h4⟩:=hown;have ha:BL w (w.alloc (.cells #[u] e')):=aF.alloc aH _;refine gB hgd s x ho hT hs (h2.alloc _) _ 1 1 hx (fun _=>⟨_,_,rfl⟩) [u] rfl (gY w #[u] e') AF hsmall lC (fun v' w' g1 g2 g3=>?_);have hT0:=Turns.fI (S:=fun b=>v.ownBlock=some b) g2 fun b hb'=>hb';have hT:Turns (fun b=>v.ownBlock=some b) w w':=(Turns.aS ha).trans ⟨hT0.os,hT0.tape,hT0.output,hT0.size,hT0.block⟩;refine h v' w' ⟨us++[u],J2,by simp[h3],fun j k1 k2=>?_⟩ hT
 have keep:∀{u y},bq (fun b=>E b/\v.ownBlock≠some b) w u y->bq (fun b=>E b/\v'.ownBlock≠some b) w' u y:=fun h=>by
  have:=bq.mono (S':=fun b=>(E b/\v.ownBlock≠some b)/\b<w.heap.size) h (fun b hb hE=>⟨hE,hb⟩);refine bq.mono (bq.keep this (hT.keep (fun b hb=>hb.1.2))) (fun b _ hb=>⟨hb.1.1,?_⟩);rcases g3 with g3|g3
  ·rw[g3];exact hb.1.2
  ·rw[g3];intro e
   have h8:=mM e;have h9:=hb.2;have h10:=ha.size;omega
 by_cases e:j<us.length
 ·rw[TN e,TN aB]
  exact keep (h4 j e aB)
 ·have hj:j=us.length:=by simp at k1;omega
  subst hj;simp only[zAr aH,Nat.sub_self,List.getElem_cons_zero]
  have e2:(xs++[y])[us.length]=y:=by
   rw[zAr aB];simp[h3]
  rw[e2];exact keep hu
attribute [local go_sem] Oper.semAt_some
theorem Gq(S:List Cz.Row)(hS:∀r∈S,r.length<=1000)(hSn:S.length<=1000):∀(T:List Cz.Row) (k:Nat) (before:List (List Nat)) (n0 nB bk bS bb p:Nat) (uv bv:Value) (PB:Nat->Prop) (bA:Nat->Obj->Prop) (w:World),T=S.drop k->k<=S.length->before.length<=k->n0<=w.heap.size->
  zT S k before n0 bk bS bb p uv bv PB w->(∀b,PB b->b<w.heap.size/\∀o,w.heap[b]?=some o->¬(bA b o\/bF nB b o))->
  Cl (α:=Value×List (List Nat)) Tryz.prog n0 nB 57 #[.pointer (some ⟨bk,0,none⟩),.pointer (some ⟨bS,0,none⟩),.pointer (some ⟨bb,0,none⟩)] (fun x=> #[x.1]) (aer (Cz.jE T before)) bA (fun xs _=>xs.map (·.2)=Cz.jE T before) w
 |[],k,before,n0,nB,bk,bS,bb,p,uv,bv,PB,bA,w,hT,hk2,hbl,hn0,hA,hPB=>by
  obtain rfl:S.length=k:=by
   have h1:=congrArg List.length hT;rw[List.length_drop] at h1;simp at h1;omega
  exact all_zero S before n0 nB bk bS bb p uv bv PB bA w hn0 hA
 |r::T,k,before,n0,nB,bk,bS,bb,p,uv,bv,PB,bA,w,hT,hk2,hbl,hn0,hA,hPB=>by
  intro l J W C4 hJ hY h0;have hnW:n0<=W.heap.size:=Nat.le_trans hn0 C4.size;obtain⟨w0,hw0⟩:=bB (W.alloc (.cells #[.func (.yield l) #[] #[]] 126));have hb0:BL W w0:=by rw[hw0];exact aF.alloc aH _
  have hyb:w0.heap[W.heap.size]?=some (.cells #[.func (.yield l) #[] #[]] 126 (0,0)):=by rw[hw0];exact aW _ _ rfl
  have hk:k<S.length:=by
   have h1:=congrArg List.length hT;rw[List.length_drop] at h1;simp at h1;omega
  have hr:S[k]=r:=by
   have h1:S.drop k=S[k]::S.drop (k+1):=List.drop_eq_getElem_cons hk;rw[<-hT] at h1;injection h1 with h1 _;exact h1.symm
  have hT2:T=S.drop (k+1):=by
   have h1:S.drop k=S[k]::S.drop (k+1):=List.drop_eq_getElem_cons hk;rw[<-hT] at h1;injection h1
  have HIH:=hid (Gq S hS hSn T (k+1));have hrl:r.length<=1000:=by rw[<-hr];exact hS _ (gm hk)
  have HAW:=hid (hA.next C4);have vf:=hid ((hA.next C4).next hb0);obtain⟨au,cu,rfl,Sb, -, -⟩:=vf.out.Ay.form;obtain⟨ab,cb,rfl,ac1, -, -⟩:=vf.out.bf.form;obtain⟨z0,z1,z2,z3,z4,hz⟩:=vf.out.st;obtain⟨-, -, -, -, -,s5⟩:=DQ hz;obtain⟨vr,LC, -,hrr⟩:=vf.out.Ay.at hk;rw[hr] at hrr;obtain⟨ark,crk,rfl,Sc, -, -⟩:=hrr.form;have I4:=hid hrr;have HSr:=hid LC;have c1:=(one_cell vf.out.k).1;have c2:=(one_cell vf.out.s).1;have HZ:=hid hz;have HW0:=hid hw0;have KN:=hid hb0;have HYb:=hid hyb;have HJ:=hid hJ;have HY:=hid hY;have H0:=hid h0;have Fz:=hid hnW;have HPB:=hid hPB;have Vv:=hid C4;have Ah:=hid hT2;have HK:=hid hk;have hk0:(0:Int)<=(k:Int):=aB
  have hk1:(k:Int)<(S.length:Int):=aB
  have rW:=hid hbl;have e1:((k:Int)==(S.length:Int))=false:=nU aB;have YM:(eT before).length=before.length:=by simp[eT]
  have HLb:=hid YM;clear YM hJ hY h0 hA hw0 hb0 hyb hz C4 hrr hr hT hT2 hPB hbl hk2;rw[<-callsIn_wide (n:=5)];refine callsIn_of_wp_marks Tryz.func57 rfl trivial ?_ rfl;simp only[Tryz.ntmps57,List.size_toArray,List.length_cons,List.length_nil,Nat.reduceAdd,Nat.reduceSub,Array.replicate_succ,Array.replicate_zero,List.push_toArray,List.append_toArray,List.nil_append,List.cons_append];rw[wpIn_wide];go_wp2;rw[<-HW0.out];go_quiet (fail);generalize VU:w0.drewN nq=wd at*;have VT:Hid (Below w0.heap.size w0 wd):=hid (by rw[<-VU];exact aI aF nq);have HDh:Hid (wd.heap=w0.heap):=hid (by rw[<-VU];rfl);clear VU c1 c2 s5 LC;have hkd:∀{a:Addr} {v:Value},w0.cell? a=some v->wd.cell? a=some v:=fun {a v} h=>(World.cell?_of_block (by rw[HDh.out])).trans h;have c1:=hkd (one_cell vf.out.k).1;have c2:=hkd (one_cell vf.out.s).1;have s5:=hkd (DQ HZ.out).2.2.2.2.2;have LC:=hkd HSr.out;clear hkd;go_wp2;have Cd:Hid (∀V,BL wd V->∀b,b<w0.heap.size->V.heap[b]?=w0.heap[b]?):=hid (fun V hV b hb=>(hV.block b (by rw[HDh.out];exact hb)).trans (by rw[HDh.out]));have MQ:=eO wd ⟨bS,0,none⟩ (.pointer (some ⟨p,0,none⟩)) fun xh=>(one_cell ((Cd.out _ xh.2 _ (aC vf.out.s)).trans vf.out.s)).1;have Jd:=eO wd ⟨bk,0,none⟩ (.int .i64 (k:Int)) fun xh=>(one_cell ((Cd.out _ xh.2 _ (aC vf.out.k)).trans vf.out.k)).1;have Ve:=eO wd ⟨p,5,none⟩ (.slice au S.length cu) fun xh=>(DQ ((Cd.out _ xh.2 _ (aC HZ.out)).trans HZ.out)).2.2.2.2.2;refine aZ 5 (.quiet 0 (.quiet 1 (.quiet 2 (.quiet 3 (.quiet 4 .done))))) (BL wd) oL (by kernel_rfl) (aI aF 1) ?_;have iK:=hid (aI (Below.refl wd.heap.size wd) 1);have Tc:Hid ((wd.drewN 1).heap=w0.heap):=hid HDh.out;generalize wd.drewN 1=w6 at*
  iterate 5 refine fE ?_
  refine bh ?_;try simp only[jZ,jP]
  clear MQ Jd Ve c1 c2 s5 LC;have HV6:Hid (w6.cell? ⟨bL au,bP au+k,none⟩=some (.slice ark r.length crk)):=hid ((World.cell?_of_block (by rw[Tc.out])).trans HSr.out);have LC:=HV6.out;go_wp2_with fail;refine(JQ _ _ _ _).mono ?_;rintro e w7 ⟨rfl,hw7⟩;have abn:BL w6 w7:=by rw[hw7];exact aF.alloc aH _
  have hz7:w7.heap.size=w0.heap.size+1:=by rw[hw7,World.size_alloc,Tc.out]
  have xk:Hid (BL W w7):=hid (KN.out.trans ((VT.out.trans ((iK.out.mono (Nat.le_of_eq (by rw[HDh.out]))).trans (abn.mono (Nat.le_of_eq (by rw[Tc.out]))))).mono KN.out.size));have EP:Hid (∀b,b<w0.heap.size->w7.heap[b]?=w0.heap[b]?):=hid (fun b hb=>(abn.block b (by rw[Tc.out];exact hb)).trans (by rw[Tc.out]));have abo:w7.heap[w6.heap.size]?=some (.cells #[.slice ark r.length crk] 22 (0,0)):=by rw[hw7];exact aW _ _ rfl
  have HOb:=hid abo;have XR:=hid hz7;have HZ0:Hid (w0.heap.size=W.heap.size+1):=hid (by rw[HW0.out];simp);have HZ6:Hid (w6.heap.size=w0.heap.size):=hid (by rw[Tc.out]);have Du:=hid (Gn r hrl n0 w7.heap.size w6.heap.size (.slice ark r.length crk) (fun b o=>(bA b o\/bF nB b o)/\¬(W.heap.size<=b/\b<w7.heap.size)) w7 (Nat.le_trans Fz.out xk.out.size) (I4.out.keep (fun b hb hlt=>EP.out b hlt)) abo (fun o h=>h.2 ⟨by rw[HZ6.out,HZ0.out];omega,by rw[XR.out,HZ6.out];omega⟩));have HJ7:Hid (J (fun b=>False\/(W.heap.size<=b/\b<w7.heap.size)) [] w7):=hid (HJ.out _ _ _ _ _ H0.out ⟨fun _ h=>h.elim,fun b h=>h.elim False.elim (fun h=>.inr h)⟩ (aM.aS xk.out Fz.out));clear hw7 abn hz7 abo LC;go_wp2;rw[<-wpIn_wide (n:=5)];obtain⟨I,wH⟩:∃I:(Nat->Prop)->List (Value×List Nat)->World->Prop,I=(fun F pre X=>∃(E:Nat->Prop) (xs:List (Value×List (List Nat))),xs.map (·.2)=(pre.flatMap fun o=>Cz.jE T (before++[o.2]))/\J (fun b=>F b\/E b) xs X/\(∀b,W.heap.size<=b->b<w7.heap.size->E b)/\(∀b,E b->W.heap.size<=b)/\(∀b,F b->w7.heap.size<=b)/\aM (fun b o=>bA b o\/bF nB b o) n0 W X/\(∀b,W.heap.size<=b->b<w7.heap.size->X.heap[b]?=w7.heap[b]?)/\w7.heap.size<=X.heap.size):=⟨_,rfl⟩
  have HIs:Hid (∀F F' pre A B,I F pre A->gj F F' A B->aM (fun b _=>F b) n0 A B->I F' pre B):=hid (by
   intro F F' pre A B h hg ht
   rw[wH] at h ⊢
   obtain⟨E,xs,h1,h2,h3,h4,h5,h6,h7,h8⟩:=h
   have hF':∀b,F' b->w7.heap.size<=b:=fun b hb=>(hg.2 b hb).elim (h5 b) (fun h=>Nat.le_trans h8 h.1)
   refine⟨E,xs,h1,HJ.out _ _ _ _ _ h2 ⟨fun b h=>h.imp (hg.1 b) id,fun b h=>h.elim (fun h=>(hg.2 b h).imp .inl id) (fun h=>.inl (.inr h))⟩ (ht.mono fun b o h=>.inl h),h3,h4,hF',?_,fun b g1 g2=>?_,Nat.le_trans h8 ht.1.size⟩
   ·refine⟨h6.1.trans ht.1,fun b o hb ho=>ht.2 b o (h6.2 b o hb ho) (fun hF=>?_)⟩
    have:=h5 b hF;have:=aC hb;have:=xk.out.size;omega
   ·have rU:A.heap[b]?=some w7.heap[b]:=by rw[h7 b g1 g2];exact Array.getElem?_eq_getElem g2
    rw[<-h7 b g1 g2,rU];exact ht.2 _ _ rU (fun hF=>by have:=h5 b hF;omega))
  refine wu (α:=Value×List Nat) (n0:=n0) (gf:=97) rfl (bH Tryz.func97 (by kernel_rfl) rfl) (fun _=>rfl) Du.out (Nat.le_trans Fz.out xk.out.size)
   I HIs.out (fun _ _ _ h _=>h) ?hstart ?fO ?hdone
  case hstart=>rw[wH];exact⟨fun b=>W.heap.size<=b/\b<w7.heap.size,[],rfl,HJ7.out,fun b h1 h2=>⟨h1,h2⟩,fun b h=>h.1,fun b h=>h.elim,aM.aS xk.out Fz.out,fun _ _ _=>rfl,aH⟩
  case fO=>
   rintro l1 F1 pre ⟨xv,o⟩ X hl1 hlB hF1 hI hG;obtain⟨hx1,hpre⟩:=hG;simp only at hx1;obtain⟨ao,co,hxv,Sd, -, -⟩:=hx1.form;have hcl:(dV o).length=o.length:=by simp[dV]
   rw[hcl] at hxv Sd;subst hxv
   have hol:o.length<=1000:=by
    have hm:o∈Cz.orders r:=hpre.subset bp;have:=(Cz.oF.1 hm).1.length_eq;simp at this;omega
   simp only[List.zip_toArray,List.zip_cons_cons,List.zip_nil_left];have HI:=hid hI;have yU:=hid hx1;have HPre:=hid hpre;have vR:=hid hl1;clear hI hx1 hpre hl1 hcl;gi_wp2;refine⟨aM.refl _ _ _,fun X2 ht2 hs2 hl2=>?_⟩;have tE:=HIs.out _ _ _ _ _ HI.out (gj.refl _ _ _) (ht2.mono (fun b _ e=>by rw[e];exact hF1));rw[wH] at tE;obtain⟨E,xs,h1,h2,h3,h4,h5,h6,h7,h8⟩:=tE
   have Ap:Hid (bq nV X2 (.slice ao o.length co) (dV o)):=hid (yU.out.wE (fun b c t fr _ hb=>ht2.2 b _ hb (fun e=>by
    obtain⟨rr,hrr⟩:=vR.out;rw[e,hrr] at hb;cases hb)))
   have Yt:zT S k before n0 bk bS bb p (.slice au S.length cu) (.slice ab (eT before).length cb) PB X2:=HAW.out.keep (fun b hb hlt=>by
    rcases hb with hb|hb
    ·exact h6.1.block b hb
    ·obtain⟨g1,g2⟩:=HPB.out b hb
     have rU:w.heap[b]?=some w.heap[b]:=Array.getElem?_eq_getElem g1;have hoW:=(Vv.out.block b g1).trans rU;rw[hoW];exact h6.2 b _ hoW (g2 _ rU))
   have hPX:∀b,PB b->X2.heap[b]?=w.heap[b]?:=fun b hb=>by
    obtain⟨g1,g2⟩:=HPB.out b hb;have rU:w.heap[b]?=some w.heap[b]:=Array.getElem?_eq_getElem g1;have hoW:=(Vv.out.block b g1).trans rU;rw[rU];exact h6.2 b _ hoW (g2 _ rU)
   have HPX:=hid hPX;have tX:=hid Yt;have HY2:Hid (X2.heap[W.heap.size]?=some (.cells #[.func (.yield l) #[] #[]] 126 (0,0))):=hid ((h7 _ aH (by rw[XR.out,HZ0.out];omega)).trans ((EP.out _ (by rw[HZ0.out];omega)).trans HYb.out));have HH1:=hid h1;have HJ2:=hid h2;have Wr:=hid h3;have HE4:=hid h4;have HF5:=hid h5;have HT6:=hid h6;have aes:=hid h7;have HS8:=hid h8;have iE:=hid hl2;have VZ:=xk.out.size;have HWX:Hid (n0<=X2.heap.size):=hid (Nat.le_trans Fz.out (Nat.le_trans VZ h8));have HPl:Hid (∀b,PB b->b<X2.heap.size):=hid (fun b hb=>lg (HPB.out b hb).1 (Nat.le_trans Vv.out.size (Nat.le_trans VZ h8)));clear h1 h2 h3 h4 h5 h6 h7 h8 ht2 hs2 hl2 Yt hPX VZ HI;gi_wp2;have MQ:=eO X2 ⟨bS,0,none⟩ (.pointer (some ⟨p,0,none⟩)) fun xh=>(one_cell ((xh.2.block _ (aC tX.out.s)).trans tX.out.s)).1;have Jd:=eO X2 ⟨bk,0,none⟩ (.int .i64 (k:Int)) fun xh=>(one_cell ((xh.2.block _ (aC tX.out.k)).trans tX.out.k)).1;have Ve:=eO X2 ⟨bb,0,none⟩ (.slice ab (eT before).length cb) fun xh=>(one_cell ((xh.2.block _ (aC tX.out.b)).trans tX.out.b)).1;refine tq 9 (.quiet 0 (.quiet 1 (.quiet 2 (.quiet 3 (.quiet 5 (.one 4 (.one 6 (.one 7 (.one 8 .done))))))))) (BL X2) (by kernel_rfl) (by kernel_rfl) (by kernel_rfl) (aI aF 1) ?_;intro KK hKK;have iK:=hid (aI (Below.refl X2.heap.size X2) 1);have abp:Hid ((X2.drewN 1).heap.size=X2.heap.size):=hid rfl;generalize X2.drewN 1=X6 at*
   iterate 5 refine fE ?_
   refine aT rfl ?_;have HCb:=hid (zK (eT before) (by have:=rW.out;simp[eT];omega) (.slice ab (eT before).length cb) X6 (E:=fun b=>(b<n0\/PB b)/\b<X6.heap.size) (fun _ h=>h.2) (dr.mono (tX.out.bf.keep (aD.below iK.out)) (fun b hlt hb=>⟨hb,hlt⟩)));go_wp2_with fail;refine HCb.out.mono ?_;rintro e X7 ⟨v7,rfl,hR7,oV⟩;have jT:=aU iK oV;have Ko:=hid hR7;obtain⟨a7,c7,rfl⟩:=hR7.form;have Dm:=hid (tO (dV o) (by simp[dV];omega) _ _ X7 (Ap.out.keep (aD.below jT.out)));clear hR7 oV HCb;go_wp2_with fail;refine aJ (BL X2) (fun _ h=>h) jT.out ?_;refine aT rfl ?_;go_wp2_with fail;refine Dm.out.mono ?_;rintro e X8 ⟨v8,rfl,Bo,lZ⟩;have oW:=aU jT lZ;have C9:=hid (gX.mono (E':=fun b=>(b<n0\/PB b)\/X2.heap.size<=b) (Ko.out.next lZ) (fun b _ hb=>.inl hb.1));have zy:Hid (bq (fun b=>((b<n0\/PB b)\/X2.heap.size<=b)/\(Value.slice a7 (eT before).length c7).ownBlock≠some b) X8 v8 (dV o)):=hid (bq.mono (bg.sl Bo) (fun b _ hb=>⟨.inr (Nat.le_trans jT.out.size hb),fun e=>by have:=(Ko.out.lt b e).2;omega⟩));obtain⟨a8,n8,c8,rfl⟩:∃a n c,v8=.slice a n c:=Tr
   clear Bo lZ Dm;go_wp2_with fail;refine aJ (BL X2) (fun _ h=>h) oW.out ?_;refine aT rfl ?_;go_wp2_with fail;refine aJ (BL X2) (fun _ h=>h) (oW.out.alloc oW.out.size _) ?_;refine aT rfl ?_;have rQ:(eT before).length+1<=1000000000:=by have:=rW.out;simp[eT];omega
   go_wp2_with (at_builtin;go_must (refine DT rfl _ _ rfl Tryz.uQ rfl C9.out rfl (dV o) zy.out rfl rQ (by rw[abp.out];exact oW.out.size) ?_));intro v9 X9 SK qK;have mR:Hid (BL X2 X9):=hid (oW.out.trans (qK.below oW.out.size (fun b hb=>by have:=(C9.out.lt b hb).1;rw[abp.out] at this;exact this)));have Da:=hid SK;obtain⟨a9,c9,rfl⟩:=SK.form;have NV:(eT before++[dV o]).length=before.length+1:=by simp[eT]
   clear SK qK C9 zy Ko;refine aJ (BL X2) (fun _ h=>h) mR.out ?_;refine bh ?_;try simp only[jZ,jP]
   clear MQ Jd Ve;rw[NV];rw[NV] at Da;clear NV;go_wp2_with fail;refine(wF _ _ _ _ _ _).mono ?_;rintro e AA ⟨rfl,NG⟩;have sR:BL X9 AA:=by rw[NG];exact((aF.alloc aH _).alloc bp _).alloc lC _
   have abq:AA.heap.size=X9.heap.size+3:=by rw[NG];simp
   have abr:AA.heap[X9.heap.size]?=some (.cells #[.pointer (some ⟨p,0,none⟩)] 70 (0,0)):=by rw[NG];exact bG _ (bG _ (aW _ _ rfl))
   have Hf:AA.heap[X9.heap.size+1]?=some (.cells #[.int .i64 ((k+1:Nat):Int)] 3 (0,0)):=by rw[NG];exact bG _ (aW _ _ bp)
   have abt:AA.heap[X9.heap.size+1+1]?=some (.cells #[.slice a9 (before.length+1) c9] 42 (0,0)):=by rw[NG];exact aW _ _ bp
   have ku:=aU mR sR;have HH10:=hid (And.intro abr (And.intro Hf abt));have uG:=hid abq
   have HA10:Hid (zT S (k+1) (before++[o]) n0 (X9.heap.size+1) X9.heap.size (X9.heap.size+1+1) p (.slice au S.length cu) (.slice a9 (before.length+1) c9) (fun b=>PB b\/(X2.heap.size<=b/\b<AA.heap.size)) AA):=hid (by
    have hA3:=tX.out.next ku.out
    have hz9:=mR.out.size
    have hR10:=gX.sl (Da.out.next sR)
    have aeu:=fun b hb=>(Da.out.next sR).lt b hb
    refine⟨hA3.st,hA3.Ay,hA3.pb,Hf,abr,abt,?_,.inr ⟨aB,aB⟩,.inr ⟨aB,aB⟩,.inr ⟨aB,aB⟩⟩
    rw[show eT (before++[o])=eT before++[dV o] by simp[eT]]
    refine eU.mono hR10 (fun b hlt hb=>.inr (.inr ⟨by have:=(aeu b hb).1;rw[abp.out] at this;exact this,hlt⟩)) (fun u y h=>bq.mono h (fun b hlt hb=>?_))
    rcases hb.1 with(g|g)|g
    ·exact .inl g
    ·exact .inr (.inl g)
    ·exact .inr (.inr ⟨g,hlt⟩))
   have HP10:Hid (∀b,(PB b\/(X2.heap.size<=b/\b<AA.heap.size))->b<AA.heap.size/\∀ob,AA.heap[b]?=some ob->¬((bA b ob\/bF nB b ob)/\¬(F1 b\/E b\/(X2.heap.size<=b/\b<AA.heap.size))\/bF AA.heap.size b ob)):=hid (by
    rintro b (hb|hb)
    ·have hlt:=HPl.out b hb
     refine⟨lg hlt ku.out.size,fun ob rU h=>?_⟩;rw[ku.out.block b hlt,HPX.out b hb] at rU;rcases h with h|h
     ·exact(HPB.out b hb).2 ob rU h.1
     ·have:=h.1
      have:=ku.out.size;omega
    ·refine⟨hb.2,fun ob rU h=>?_⟩
     rcases h with h|h
     ·exact h.2 (.inr (.inr hb))
     ·have:=h.1
      omega)
   have aev:=hid (HIH.out (before++[o]) n0 AA.heap.size (X9.heap.size+1) X9.heap.size (X9.heap.size+1+1) p (.slice au S.length cu) (.slice a9 (before.length+1) c9) (fun b=>PB b\/(X2.heap.size<=b/\b<AA.heap.size)) (fun b o=>(bA b o\/bF nB b o)/\¬(F1 b\/E b\/(X2.heap.size<=b/\b<AA.heap.size))) AA Ah.out HK.out (by have:=rW.out;simp;omega) (Nat.le_trans HWX.out ku.out.size) HA10.out HP10.out)
   have DP:Hid (∃r,AA.heap[l1]?=some (.loop r)):=hid (by
    obtain⟨rr,hrr⟩:=iE.out
    exact⟨rr,(ku.out.block _ (aC hrr)).trans hrr⟩)
   clear NG sR abq abr Hf abt;go_wp2;refine hKK _ _ ?_;clear hKK;obtain⟨I2,zU⟩:∃I2:(Nat->Prop)->List (Value×List (List Nat))->World->Prop,I2=(fun F2 Gp Y=>J (fun b=>F2 b\/(F1 b\/E b\/(X2.heap.size<=b/\b<AA.heap.size))) (xs++Gp) Y/\(∀b,F2 b->AA.heap.size<=b)/\aM (fun b o=>(bA b o\/bF nB b o)/\¬(F1 b\/E b)) n0 X2 Y/\AA.heap.size<=Y.heap.size):=⟨_,rfl⟩
   have aew:Hid (∀F F' pre A B,I2 F pre A->gj F F' A B->aM (fun b _=>F b) n0 A B->I2 F' pre B):=hid (by
    intro F F' Gp A B h hg ht
    rw[zU] at h ⊢
    obtain⟨h1,h2,h3,h4⟩:=h
    refine⟨HJ.out _ _ _ _ _ h1 ⟨fun b h=>h.imp (hg.1 b) id,fun b h=>h.elim (fun h=>(hg.2 b h).imp .inl id) (fun h=>.inl (.inr h))⟩ (ht.mono fun b o h=>.inl h),fun b hb=>(hg.2 b hb).elim (h2 b) (fun h=>Nat.le_trans h4 h.1),?_,Nat.le_trans h4 ht.1.size⟩
    refine⟨h3.1.trans ht.1,fun b ob hb ho=>ht.2 b ob (h3.2 b ob hb ho) (fun hF=>?_)⟩
    have:=h2 b hF
    have:=aC hb
    have:=ku.out.size
    omega)
   gi_wp2
   refine Dv (α:=Value×List (List Nat)) (n0:=n0) (l0:=l1) (gf:=57) DP.out rfl (bH Tryz.func57 (by kernel_rfl) rfl) (fun _=>rfl) aev.out (Nat.le_trans HWX.out ku.out.size)
    I2 aew.out (fun _ _ _ h _=>h) ?V5 ?V6 ?abu
   case V5=>
    rw[zU];refine⟨?_,fun b h=>h.elim,aM.aS ku.out HWX.out,aH⟩;rw[List.append_nil];exact HJ.out _ _ _ _ _ HJ2.out ⟨fun b h=>.inr (h.imp id .inl),fun b h=>h.elim False.elim (fun h=>h.elim (fun h=>.inl (.inl h)) (fun h=>h.elim (fun h=>.inl (.inr h)) (fun h=>.inr h)))⟩ (aM.aS ku.out HWX.out)
   case V6=>
    rintro l2 F2 Gp ⟨yv,a⟩ Y hl2 hlB2 hF2 hI hG;obtain⟨hy1,YN⟩:=hG;simp only at hy1;obtain⟨ay,cy,hyv,hoky, -, -⟩:=hy1.form;subst hyv;simp only[List.zip_toArray,List.zip_cons_cons,List.zip_nil_left];have HIy:=hid hI;have HY1:=hid hy1;have SC:=hid YN;have HLy:=hid hl2;clear hI hy1 YN hl2;gi_wp2;refine⟨aM.refl _ _ _,fun Y2 ht2 hs2 hl2=>?_⟩;have Aw:=aew.out _ _ _ _ _ HIy.out (gj.refl _ _ _) (ht2.mono (fun b _ e=>by rw[e];exact hF2));rw[zU] at Aw;obtain⟨g1,g2,g3,g4⟩:=Aw;have hyY:Y2.heap[W.heap.size]?=some (.cells #[.func (.yield l) #[] #[]] 126 (0,0)):=g3.2 _ _ HY2.out (fun h=>h.2 (.inr (Wr.out _ aH (by rw[XR.out,HZ0.out];omega))))
    have hrow:dr nV Y2 (.slice ay (eT a).length cy) (eT a):=HY1.out.wE (fun b c t fr _ hb=>ht2.2 b _ hb (fun e=>by
     obtain⟨rr,hrr⟩:=HLy.out;rw[e,hrr] at hb;cases hb))
    obtain⟨fn,tmps,assign,body,K0,hR⟩:=YieldAt.gI (m':=0) rfl (HY.out _ (xs++Gp) (.slice ay (eT a).length cy,a) Y2 g1 ⟨hrow,by
     rw[List.append_assoc,List.map_append,HH1.out]
     exact VY HPre.out SC.out⟩)
    have vU:=hid hR;have HG2:=hid g2;have C5:=hid g3;have Od:=hid g4;have cy1:=(one_cell hyY).1;clear g1 g2 g3 g4 hyY hrow ht2 hs2 hl2 hR HIy;gi_wp2;refine⟨rfl,RoundIn.mono (F:=Fence.wide.inRound l2) vU.out ?_⟩;rintro e Y4 ⟨rB,rfl,hj4⟩
    have HQ:Hid (aM (fun b ob=>((bA b ob\/bF nB b ob)/\¬(F1 b\/E b\/(X2.heap.size<=b/\b<AA.heap.size)))/\¬F2 b) n0 Y2 Y4/\I2 F2 (Gp++[(.slice ay (eT a).length cy,a)]) Y4):=hid ⟨rB.mono (fun b ob h=>⟨⟨h.1,fun q=>h.2 (.inr q)⟩,fun q=>h.2 (.inl q)⟩),by
     rw[zU]
     exact⟨by rw[<-List.append_assoc];exact hj4,HG2.out,C5.out.trans (rB.mono (fun b ob h=>⟨h.1,fun q=>h.2 (.inr (q.imp id .inl))⟩)),Nat.le_trans Od.out rB.1.size⟩⟩
    clear rB hj4 vU K0 cy1;gi_wp2;exact HQ.out
   case abu=>
    rintro F2 ys2 Y Oc hIx;rw[zU] at hIx;obtain⟨g1,g2,g3,g4⟩:=hIx;have VZ:=xk.out.size;have hs8:=HS8.out;have h10z:=ku.out.size
    have HQ:Hid (aM (fun b ob=>((bA b ob\/bF nB b ob)/\¬(W.heap.size<=b/\b<w7.heap.size))/\¬F1 b) n0 X2 Y/\I F1 (pre++[(.slice ao o.length co,o)]) Y):=hid ⟨g3.mono (fun b ob h=>⟨⟨h.1,fun q=>h.2 (.inr (Wr.out b q.1 q.2))⟩,fun q=>h.2 (.inl q)⟩),by
     rw[wH]
     refine⟨fun b=>E b\/(X2.heap.size<=b/\b<AA.heap.size)\/F2 b,xs++ys2,?_,HJ.out _ _ _ _ _ g1 ⟨fun b h=>?_,fun b h=>.inl ?_⟩ (aM.refl _ _ _),fun b q1 q2=>.inl (Wr.out b q1 q2),fun b h=>?_,HF5.out,HT6.out.trans (g3.mono fun b ob h=>h.1),fun b q1 q2=>?_,Nat.le_trans hs8 (Nat.le_trans h10z g4)⟩
     ·rw[List.map_append,HH1.out,Oc,List.flatMap_append];simp
     ·rcases h with h|h|h|h
      ·exact .inr (.inr (.inr h))
      ·exact .inl h
      ·exact .inr (.inl h)
      ·exact .inr (.inr (.inl h))
     ·rcases h with h|h|h|h
      ·exact .inr (.inl h)
      ·exact .inr (.inr (.inl h))
      ·exact .inr (.inr (.inr h))
      ·exact .inl h
     ·rcases h with h|h|h
      ·exact HE4.out b h
      ·omega
      ·have:=g2 b h
       omega
     ·have rU:X2.heap[b]?=some w7.heap[b]:=by rw[aes.out b q1 q2];exact Array.getElem?_eq_getElem q2
      rw[<-aes.out b q1 q2,rU];exact g3.2 _ _ rU (fun h=>h.2 (.inr (Wr.out b q1 q2)))⟩
    clear g1 g2 g3 g4 Oc;gi_wp2;exact HQ.out
  case hdone=>
   rintro D F xs X hD hFD Oc hIx hk;rw[wH] at hIx;obtain⟨E,ys,h1,h2,h3,h4,h5,h6,h7,h8⟩:=hIx
   have hE:ys.map (·.2)=Cz.jE (r::T) before:=by
    rw[h1,show Cz.jE (r::T) before=(Cz.orders r).flatMap (fun o=>Cz.jE T (before++[o])) from rfl,<-Oc,List.flatMap_map]
   have hJD:=HJ.out _ _ _ _ _ h2 (gj.refl _ _ _) (aM.putObj (.deferred none) hk (.inl hFD) (Nat.le_trans Fz.out (Nat.le_trans xk.out.size hD)));have HEE:=hid (And.intro hE hJD);have p9:=hid hk;clear Oc h1 h2 h3 h4 h5 h6 h7 h8 hk hE hJD;go_wp2;exact wG (v:=.tuple #[]) p9.out (by simp[results,Tryz.results57,go_sem]) ⟨⟨_,rfl⟩,_,ys,HEE.out.1,HEE.out.2⟩
attribute [local go_sem] Oper.semAt_some
namespace Cz
theorem CH{ls:List Row}(h:ls.length<=1000):∀y∈rT ls,0<=y/\y<=1000:=by
 intro y hy;unfold rT at hy;rw[List.mem_map] at hy;obtain⟨l, -,rfl⟩:=hy;unfold rk;have h1:=aaU (c:=dA) (cT dA ls) l;have h2:=nQ (c:=dA) ls;omega
theorem SE(ks:fT)(w:Wd)(h5:∀k,len w k<=1000):∀r∈S0 ks w,∀y∈r,0<=y/\y<=1000:=by
 intro r hr;unfold S0 at hr;rw[List.mem_map] at hr;obtain⟨k, -,rfl⟩:=hr;exact CH (by simp;exact h5 k)
theorem zV(ks:fT)(w:Wd)(S:List Row)(h5:∀k,len w k<=1000):∀r∈fA ks w S,∀y∈r,0<=y/\y<=1000:=by
 intro r hr;unfold fA at hr;rw[List.mem_map] at hr;obtain⟨k, -,rfl⟩:=hr;exact CH (by simp;exact h5 k)
theorem zW(ks:fT)(w:Wd)(h5:∀k,len w k<=1000):∀(n:Nat) (S:List Row),(∀r∈S,∀y∈r,0<=y/\y<=1000)->∀r∈oD ks w n S,∀y∈r,0<=y/\y<=1000
 |0,S,h=>h
 |n+1,S,_=>by
  unfold oD;split
  ·exact zV ks w S h5
  ·exact zW ks w h5 n _ (zV ks w S h5)
theorem Gr(ks:fT)(w:Wd)(h5:∀k,len w k<=1000):∀r∈sorts ks w,∀y∈r,0<=y/\y<=1000:=zW ks w h5 _ _ (SE ks w h5)
end Cz
def YO(n lo:Nat)(F:Nat->Prop)(bv:Value)(X:World):Option Cz.Wd->Prop
 |none=>bv=.slice none 0 0
 |some v=>∃g,bv=.slice (some ⟨g,0,none⟩) n n/\bU (fun b=>lo<=b/\¬F b) X bv v
theorem Gs{P:Program}{n:Nat}{fn:Func}{tmps:Array Value}{w:World}{R:Ending->World->Prop}{v:Value}(h1:(results fn tmps).run P w=.ok v w)(h2:R (.returned v) w):LeavesInM Fence.wide n P fn tmps R [] .returning w:=⟨_,h1,h2⟩
def qb(ks:Cz.fT)(W:Cz.Wd)(l:List (Value×List (List Nat))):Option Cz.Wd:=Cz.best (l.map fun y=>Cz.bY ks W y.2)
theorem JT(ks:Cz.fT)(W:Cz.Wd)(l:List (Value×List (List Nat)))(v:Value)(a:List (List Nat)):qb ks W (l++[(v,a)])=some (match qb ks W l with
  |none=>Cz.bY ks W a
  |some b=>if Cz.uK (Cz.bY ks W a) b<0 then Cz.bY ks W a else b):=by
 unfold qb;rw[List.map_append,List.map_cons,List.map_nil,Cz.Nc];rfl
theorem CJ(x:ah.cA)(hok:ah.okB x=true)(hu:ah.mH x)(h20:∀k∈x.aA,k.aG.length<=20)(h10:x.aA.length<=10)(W:ah.eE)(hfit:Cz.l7 (aO x) W)(h5:∀k,Cz.len W k<=1000)(hT:ah.total W<=512)
  (ak al ar aw:Option Addr)(ck cl cr cw tb:Nat)(w:World)(ha:tj tb x W (.agg #[.int .i64 x.aL,.slice ak x.aA.length ck,.slice al x.aP.length cl,.slice ar x.aR.length cr]) (.slice aw W.length cw) w.heap.size w):
  Calls Tryz.prog 6 #[(.agg #[.int .i64 x.aL,.slice ak x.aA.length ck,.slice al x.aP.length cl,.slice ar x.aR.length cr]),.slice aw W.length cw] w (mK (Cz.canon (aO x) W) w):=by
 have hcx:=Nb hok hu hfit hT;have GH:Hid (W.length=x.aA.length):=hid JY;have AX:W.length<=10:=by rw[GH.out];exact h10
 obtain⟨w1,hw1⟩:=bB (dP w x.aL (.slice ak x.aA.length ck) (.slice al x.aP.length cl) (.slice ar x.aR.length cr));have bT:=wS hw1;have HX:Hid (∀X,BL w1 X->X.heap[w.heap.size]?=some (.cells #[.int .i64 x.aL,.slice ak x.aA.length ck,.slice al x.aP.length cl,.slice ar x.aR.length cr] 27 (0,0))):=hid (fun X hX=>(hX.block _ JZ).trans Zl);unfold dP at hw1;have HW1:=hid hw1;have Yr:=hid ha;have HA:=hid (fun(X:World) (hX:BL w X)=>ha.keep hX);have HCh:=hid (yV x hok (.agg #[.int .i64 x.aL,.slice ak x.aA.length ck,.slice al x.aP.length cl,.slice ar x.aR.length cr]) (·<w.heap.size) tb w1 (HA.out w1 bT.out).tM (HA.out w1 bT.out).laid (HA.out w1 bT.out).tab);have HHc:=hid hcx;have kX:=hid hfit;have HU:=hid hu;have H5:=hid h5;have Gh:=hid h20;have HT:=hid hT;clear ha hcx hfit hu h5 h20 hT hok;obtain⟨⟨y0,y1,y2,y3⟩, -⟩:=bC (HX.out w1 aF);clear hw1;rw[<-callsIn_wide (n:=5)];refine callsIn_of_wp_marks Tryz.func6 rfl trivial ?_ rfl;simp only[Tryz.ntmps6,List.size_toArray,List.length_cons,List.length_nil,Nat.reduceAdd,Nat.reduceSub,Array.replicate_succ,Array.replicate_zero,List.push_toArray,List.append_toArray,List.nil_append,List.cons_append];rw[wpIn_wide];go_upto_region 1 with fail;rw[<-HW1.out];go_wp2_with fail;refine HCh.out.mono ?_;rintro e w2 ⟨rfl,hb2⟩;have bX:=hid hb2;have HBW2:=aU bT hb2;clear y0 y1 y2 y3 hb2 HCh;go_wp2;have uy:=eO w2 ⟨w.heap.size,0,none⟩ (.int .i64 x.aL) fun xh=>(bC (HX.out xh.1 (cG bX.out xh.2))).1.1;have uD:=eO w2 ⟨w.heap.size,1,none⟩ (.slice ak x.aA.length ck) fun xh=>(bC (HX.out xh.1 (cG bX.out xh.2))).1.2.1;have uE:=eO w2 ⟨w.heap.size,2,none⟩ (.slice al x.aP.length cl) fun xh=>(bC (HX.out xh.1 (cG bX.out xh.2))).1.2.2.1;have uF:=eO w2 ⟨w.heap.size,3,none⟩ (.slice ar x.aR.length cr) fun xh=>(bC (HX.out xh.1 (cG bX.out xh.2))).1.2.2.2;refine aZ 9 (.quiet 0 (.quiet 1 (.quiet 2 (.one 3 (.one 4 (.quiet 5 (.quiet 6 (.quiet 7 (.quiet 8 .done))))))))) (BL w2) oL (by kernel_rfl) (aI aF 1) ?_;have Fu:=hid (aI (Below.refl w2.heap.size w2) 1);generalize w2.drewN 1=w3 at*;have aex:=aU HBW2 Fu.out
 have D5:=hid (uJ W aB (fun r hr=>by
  obtain⟨j,hj,rfl⟩:=List.getElem_of_mem hr;have:=H5.out j;unfold Cz.len at this;rw[Cz.aQ hj] at this;omega) (.slice aw W.length cw) (·<w.heap.size) w3 (HA.out w3 aex.out).wj)
 iterate 3 refine fE ?_
 refine aT rfl ?_;go_wp2_with fail;refine D5.out.mono ?_;rintro e w4 ⟨g4,rfl,hs4,hb4⟩;have Au:=aU Fu hb4;have FY:=aU aex hb4;have HGr:=hid (Bg x W (gP W) HHc.out (.agg #[.int .i64 x.aL,.slice ak x.aA.length ck,.slice al x.aP.length cl,.slice ar x.aR.length cr]) (.slice aw W.length cw) (.slice (some ⟨g4,0,none⟩) W.length W.length) _ tb w.heap.size w4 (HA.out w4 FY.out) (kJ.sl hs4));clear hs4 hb4 D5;go_wp2_with fail;refine aJ (BL w2) (fun _ h=>h) Au.out ?_;refine aT rfl ?_;go_wp2_with fail;refine HGr.out.mono ?_;rintro e w5 ⟨g5,rfl, -,jd⟩;have IE:=aU Au jd;have abv:=aU FY jd;clear jd HGr;go_wp2_with fail;refine aJ (BL w2) (fun _ h=>h) IE.out ?_
 iterate 4 refine fE ?_
 refine bh ?_;try simp only[jZ,jP]
 clear uy uD uE uF;obtain⟨⟨y0,y1,y2,y3⟩, -⟩:=bC (HX.out w5 (cG bX.out IE.out));have Vj:=hid (HA.out w5 abv.out);have Xm:=hid (JI x W kX.out H5.out Gh.out h10 ak al ar aw ck cl cr cw w5 (Vj.out.tM.mono (fun b hb _=>hb)) (Vj.out.wj.mono (fun b hb _=>hb)));go_wp2_with fail;refine Xm.out.mono ?_;rintro e w6 ⟨rfl,hbg,rS⟩;obtain⟨p,hp⟩:=bB (w5.heap.size+1);rw[<-hp] at hbg;rw[<-hp];have HPp:Hid (w.heap.size<=p):=hid (by rw[hp];have:=abv.out.size;omega);have qp:=hid rS;have HBW6:=aU abv rS;have HG6:=hid hbg;obtain⟨w7,hw7⟩:=bB (w6.alloc (.cells #[.pointer (some ⟨p,0,none⟩)] 70));have oV:BL w6 w7:=by rw[hw7];exact aF.alloc aH _
 have hc7:w7.heap[w6.heap.size]?=some (.cells #[.pointer (some ⟨p,0,none⟩)] 70 (0,0)):=by rw[hw7];exact aW _ _ rfl
 have o7:=hid hc7;have xk:=aU HBW6 oV;have HA7:=hid (HA.out w7 xk.out);have Av:=hid (JM x HU.out Gh.out h10 W kX.out H5.out (by have:=HT.out;unfold ah.total at this;unfold Cz.total;omega) ak al ar aw ck cl cr cw p w.heap.size HPp.out w7 HA7.out.tM HA7.out.wj (hbg.next oV));have HW7:=hid hw7;have hp6:p<w6.heap.size:=by obtain⟨v,h1, -⟩:=hbg.cell;exact aC h1
 have HP6:=hid hp6;have c7:=(one_cell hc7).1;clear hp hbg rS hw7 oV hc7 y0 y1 y2 y3 Xm hp6;go_upto_region 7 with fail;rw[<-HW7.out];go_wp2_with fail;refine Av.out.mono ?_;rintro e w8 ⟨rfl,hg8,jD⟩;have HG8:=hid hg8;have KU:=hid jD;have hc8:w8.heap[w6.heap.size]?=some (.cells #[.pointer (some ⟨p,0,none⟩)] 70 (0,0)):=(jD.block _ (fun e=>by have:=HP6.out;omega) (aC o7.out)).trans o7.out;have tK:=hid hc8;have aey:Hid (BL w w8):=hid (xk.out.trans (jD.below xk.out.size (fun b hb=>by rw[hb];exact HPp.out)));have HA8:=hid (HA.out w8 aey.out);obtain⟨uv,hst⟩:=hg8.aec HA8.out.tM HA8.out.wj HPp.out;have vM:=hid hst;have Nv:=Cz.FV (aO x) W;have Az:=hid Nv
 have aez:=hid (uO x W (Cz.sorts (aO x) W) (fun r hr y hy=>by
   have:=Cz.Gr (aO x) W H5.out r hr y hy
   exact⟨aB,aB⟩) (fun r hr=>by
   obtain⟨j,hj,rfl⟩:=List.getElem_of_mem hr
   have:=Nv.2 j (by rw[<-Nv.1];exact hj)
   rw[Cz.aQ hj] at this
   rw[this];exact H5.out j) (by rw[Nv.1];omega) _ _ uv p w8.heap.size w8 hst aH)
 have c7:=(one_cell hc8).1;clear hg8 jD hc8 hst Nv Av;go_wp2_with fail;refine aez.out.mono ?_;rintro e w9 ⟨r,rfl,hr,hrl,SV⟩;have Wf:=aU aey SV;have mR:=hid SV;have HR:=hid hr;clear SV hr aez c7;by_cases hgt:720<r
 ·have aa7:(720:Int)<(r:Int):=by omega
  have HP:Hid (mK (Cz.canon (aO x) W) w (.returned (.tuple #[.slice none 0 0,.int .i64 4])) w9):=hid (by
   have e:Cz.canon (aO x) W=none:=by unfold Cz.canon;rw[if_pos (HR.out.1 hgt)]
   rw[e]
   exact⟨rfl,Wf.out⟩)
  go_wp2;exact Gs (v:=.tuple #[.slice none 0 0,.int .i64 4]) (by simp[results,Tryz.results6,go_sem]) HP.out
 ·have aa7:¬(720:Int)<(r:Int):=by omega
  have MS:Hid (Cz.canon (aO x) W=Cz.best ((Cz.jE (Cz.sorts (aO x) W) []).map (Cz.bY (aO x) W))):=hid (by unfold Cz.canon;rw[if_neg (fun h=>hgt (HR.out.2 h))]);have hc9:w9.heap[w6.heap.size]?=some (.cells #[.pointer (some ⟨p,0,none⟩)] 70 (0,0)):=(mR.out.block _ (aC tK.out)).trans tK.out;have QV:=hid hc9;have HS9:=hid (vM.out.keep mR.out);have hsz9:=mR.out.size;obtain⟨lX,Wg⟩:=bB (w9.alloc (.cells #[.slice none 0 0] 30));have sR:BL w9 lX:=by rw[Wg];exact aF.alloc aH _
  have A9:lX.heap[w9.heap.size]?=some (.cells #[.slice none 0 0] 30 (0,0)):=by rw[Wg];exact aW _ _ rfl
  have c9:=(one_cell ((sR.block _ (aC hc9)).trans hc9)).1;have aeA:=hid Wg;have aeB:=hid A9;have ku:=hid sR;clear hgt Wg sR A9 hc9 hsz9;go_upto_region 11 with fail;rw[<-aeA.out];go_wp2_with fail;refine(wF _ _ _ _ _ _).mono ?_;rintro e AY ⟨rfl,NH⟩;have Mg:BL lX AY:=by rw[NH];exact((aF.alloc aH _).alloc bp _).alloc lC _
  have aeC:AY.heap.size=lX.heap.size+3:=by rw[NH];simp
  have aeD:AY.heap[lX.heap.size]?=some (.cells #[.pointer (some ⟨p,0,none⟩)] 70 (0,0)):=by rw[NH];exact bG _ (bG _ (aW _ _ rfl))
  have aeE:AY.heap[lX.heap.size+1]?=some (.cells #[.int .i64 ((0:Nat):Int)] 3 (0,0)):=by rw[NH];exact bG _ (aW _ _ bp)
  have aeF:AY.heap[lX.heap.size+1+1]?=some (.cells #[.slice none 0 0] 42 (0,0)):=by rw[NH];exact aW _ _ bp
  have Lh:=cG ku.out Mg;have Ir:=hid Lh;have aeG:=hid aeC;have HN11:=hid ((Mg.block _ (aC aeB.out)).trans aeB.out);have uG:Hid (lX.heap.size=w9.heap.size+1):=hid (by rw[aeA.out];simp);have hsz:=mR.out.size
  have aeH:zT (Cz.sorts (aO x) W) 0 [] w9.heap.size (lX.heap.size+1) lX.heap.size (lX.heap.size+1+1) p uv (.slice none 0 0) (fun b=>w9.heap.size<b/\b<AY.heap.size) AY:=by
   have abq:=uG.out;obtain⟨Om,JX,al',SI,Oo,Oq, -,hcell⟩:=HS9.out.cell;exact⟨⟨_,_,_,_,_,(Lh.block _ (aC hcell)).trans hcell⟩,dr.mono (HS9.out.Ay.keep (aD.below Lh)) (fun b _ hb=>lg hb hsz),lg HS9.out.pb hsz,aeE,aeD,aeF,eU.nil _ _ _,⟨aB,aB⟩,⟨aB,aB⟩,⟨aB,aB⟩⟩
  have Du:=hid (Gq (Cz.sorts (aO x) W) (fun r hr=>by
    obtain⟨j,hj,rfl⟩:=List.getElem_of_mem hr
    have:=Az.out.2 j (by rw[<-Az.out.1];exact hj)
    rw[Cz.aQ hj] at this
    rw[this];exact H5.out j) (by rw[Az.out.1];omega) (Cz.sorts (aO x) W) 0 [] w9.heap.size AY.heap.size (lX.heap.size+1) lX.heap.size (lX.heap.size+1+1) p uv (.slice none 0 0) (fun b=>w9.heap.size<b/\b<AY.heap.size) (fun b _=>b=w9.heap.size) AY (jP (l:=Cz.sorts (aO x) W)).symm (Nat.zero_le _) aH Ir.out.size aeH (fun b hb=>⟨hb.2,fun o _ h=>by
     rcases h with h|h
     ·have:=hb.1
      omega
     ·have:=h.1
      have:=hb.2;omega⟩))
  obtain⟨I,wH⟩:∃I:(Nat->Prop)->List (Value×List (List Nat))->World->Prop,I=fun F pre X=>∃bv,X.heap[w9.heap.size]?=some (.cells #[bv] 30 (0,0))/\YO W.length AY.heap.size F bv X (qb (aO x) W pre)/\(∀b,F b->AY.heap.size<=b/\b<X.heap.size)/\BL w9 X/\AY.heap.size<=X.heap.size:=⟨_,rfl⟩;have Tp:=hid wH;clear wH
  have HIs:Hid (∀F F' pre A B,I F pre A->gj F F' A B->aM (fun b _=>F b) w9.heap.size A B->I F' pre B):=hid (by
   intro F F' pre A B h hg ht
   rw[Tp.out] at h ⊢
   obtain⟨bv,h1,h2,h3,h4,h5⟩:=h
   refine⟨bv,ht.2 _ _ h1 (fun hF=>by have:=(h3 _ hF).1;have:=aeG.out;have:=uG.out;omega),?_,fun b hb=>?_,h4.trans ht.1,Nat.le_trans h5 ht.1.size⟩
   ·cases Gt:qb (aO x) W pre with
    |none=>rw[Gt] at h2;exact h2
    |some v=>
     rw[Gt] at h2
     obtain⟨g,e,hw⟩:=h2
     refine⟨g,e,bM.keep (bM.mono hw (S':=fun b=>AY.heap.size<=b/\¬F' b) (fun b hlt hb=>⟨hb.1,fun h'=>(hg.2 b h').elim hb.2 (fun q=>by omega)⟩)) (fun b hb hlt=>?_)⟩
     have rU:A.heap[b]?=some A.heap[b]:=Array.getElem?_eq_getElem hlt
     rw[rU]
     exact ht.2 _ _ rU (fun hF=>hb.2 (hg.1 b hF))
   ·rcases hg.2 b hb with h|h
    ·exact⟨(h3 b h).1,lg (h3 b h).2 ht.1.size⟩
    ·exact⟨Nat.le_trans h5 h.1,h.2⟩)
  clear NH Mg aeC aeD aeE aeF Lh hsz aeH c9;go_wp2;rw[<-wpIn_wide (n:=5)]
  refine wu (α:=Value×List (List Nat)) (n0:=w9.heap.size) (gf:=57) rfl (bH Tryz.func57 (by kernel_rfl) rfl) (fun _=>rfl) Du.out Ir.out.size
   I HIs.out (fun _ _ _ h _=>h) ?hstart ?fO ?hdone
  case hstart=>rw[Tp.out];exact⟨_,HN11.out,rfl,fun b h=>h.elim,Ir.out,aH⟩
  case fO=>
   rintro l1 F1 pre ⟨xv,a⟩ X hl1 hlB hF1 hI ⟨hx1,hpre⟩;simp only at hx1;obtain⟨ax,cx,hxv,hokx, -, -⟩:=hx1.form;subst hxv;simp only[List.zip_toArray,List.zip_cons_cons,List.zip_nil_left];have hmem:=Cz.qx.1 (hpre.subset (List.mem_map.2 ⟨_,List.mem_append_right _ (mL.2 rfl),rfl⟩));have HM:=hid hmem;have HI:=hid hI;have yU:=hid hx1;have vR:=hid hl1;clear hI hx1 hpre hl1 hmem;gi_wp2;refine⟨aM.refl _ _ _,fun X2 ht2 hs2 rr0 hl2=>?_⟩;have tE:=HIs.out _ _ _ _ _ HI.out (gj.refl _ _ _) (ht2.mono (fun b _ e=>by rw[e];exact hF1));rw[Tp.out] at tE;obtain⟨bv,h1,h2,h3,h4,h5⟩:=tE
   have hrow:dr nV X2 (.slice ax (eT a).length cx) (eT a):=yU.out.wE (fun b c t fr _ hb=>ht2.2 b _ hb (fun e=>by
    obtain⟨rr,hrr⟩:=vR.out;rw[e,hrr] at hb;cases hb))
   have HAn:=hid (DS x HU.out Gh.out h10 W (Cz.sorts (aO x) W) ak al ar ck cl cr _ uv p w8.heap.size X2 (HS9.out.keep (h4.mono mR.out.size)) (Nat.le_trans mR.out.size h4.size) kX.out H5.out a (by rw[HM.out.1,Az.out.1]) (fun k hk=>by
    have:=(HM.out.2 k (by rw[Az.out.1];exact hk)).1;rwa [Az.out.2 k hk] at this) (.slice ax (eT a).length cx) nV hrow)
   have c9:=(one_cell ((h4.block _ (aC QV.out)).trans QV.out)).1;have Ga:=hid h1;have HBv:=hid h2;have EU:=hid h3;have gK:=hid h4;have wQ:=hid h5;have aeI:w9.heap.size<AY.heap.size:=by have:=aeG.out;have:=uG.out;omega
   have abw:=hid aeI;clear h1 h2 h3 h4 h5 ht2 hs2 hl2 rr0 hrow aeI;gi_wp2_with fail;refine⟨trivial,rfl,gN.2 (HAn.out.mono ?_)⟩;rintro e X3 ⟨g3,rfl,hW3,hb3⟩;have cE:=hid hb3;have HW3:=hid hW3;have NI:=hid ((hb3.block _ (aC Ga.out)).trans Ga.out);have Vn:=hid (JT (aO x) W pre (.slice ax (eT a).length cx) a);have VJ:Hid (Turns (fun b=>b=w9.heap.size) X2 (X3.setCell ⟨w9.heap.size,0,none⟩ (.slice (some ⟨g3,0,none⟩) W.length W.length))):=hid ((Turns.aS hb3).setCell ⟨w9.heap.size,0,none⟩ _ rfl);have Tf:Hid (∀Z,Turns (fun b=>b=w9.heap.size) X2 Z->aM (fun b o=>b=w9.heap.size/\¬F1 b) w9.heap.size X2 Z):=hid (fun Z hZ=>aM.dD hZ gK.out.size (fun b hb=>Nat.le_of_eq hb.symm) (fun b o hb _=>⟨hb,fun hF=>by have:=(EU.out b hF).1;have:=abw.out;omega⟩))
   have HIn:Hid (∀Z bv',Turns (fun b=>b=w9.heap.size) X2 Z->Z.heap[w9.heap.size]?=some (.cells #[bv'] 30 (0,0))->YO W.length AY.heap.size F1 bv' Z (qb (aO x) W (pre++[(.slice ax (eT a).length cx,a)]))->I F1 (pre++[(.slice ax (eT a).length cx,a)]) Z):=hid (fun Z bv' hZ hz hb=>by
    rw[Tp.out];exact⟨bv',hz,hb,fun b hF=>⟨(EU.out b hF).1,lg (EU.out b hF).2 hZ.size⟩,gK.out.trans (hZ.below gK.out.size (fun b hb=>Nat.le_of_eq hb.symm)),Nat.le_trans wQ.out hZ.size⟩)
   have Tn:Hid (∀b,X2.heap.size<=b->AY.heap.size<=b/\¬F1 b):=hid (fun b hb=>⟨Nat.le_trans wQ.out hb,fun hF=>by have:=(EU.out b hF).2;omega⟩)
   have aeJ:Hid (qb (aO x) W (pre++[(.slice ax (eT a).length cx,a)])=some (Cz.bY (aO x) W a)->aM (fun b o=>b=w9.heap.size/\¬F1 b) w9.heap.size X2 (X3.setCell ⟨w9.heap.size,0,none⟩ (.slice (some ⟨g3,0,none⟩) W.length W.length))/\I F1 (pre++[(.slice ax (eT a).length cx,a)]) (X3.setCell ⟨w9.heap.size,0,none⟩ (.slice (some ⟨g3,0,none⟩) W.length W.length))):=hid (fun hbs=>⟨Tf.out _ VJ.out,HIn.out _ _ VJ.out (one_set _ NI.out) (by
    rw[hbs]
    refine⟨g3,rfl,bM.keep (bM.mono HW3.out (fun b _ hb=>Tn.out b hb)) (fun b hb hlt=>jQ _ ⟨w9.heap.size,0,none⟩ _ _ (fun e=>?_))⟩
    have e1:b=w9.heap.size:=e
    have:=hb.1
    have:=abw.out
    omega)⟩)
   clear hW3 hb3 c9 HAn;cases Gt:qb (aO x) W pre with
   |none=>
    rw[Gt] at HBv Vn
    obtain rfl:=HBv.out
    have hbs:=aeJ.out Vn.out
    have HQ:=hid hbs
    have hq:∀V,(binOp .eql 30 (.slice none 0 0) (.slice none 0 0)).run Tryz.prog V=.ok (.bool true) V:=fun V=>Lib.run_eql_slice_nil V 30 42 none 0 0 0 0 (by kernel_rfl)
    have c1:=(one_cell NI.out).1
    have c1f:=(one_cell NI.out).2
    clear hbs
    gi_wp2
    refine⟨trivial,?_⟩
    gi_wp2
    exact HQ.out
   |some b0=>
    rw[Gt] at HBv Vn
    obtain⟨g0,hbv,hb0⟩:=HBv.out
    subst hbv
    have KN:=hid hb0
    have hq:∀V,(binOp .eql 30 (.slice (some ⟨g0,0,none⟩) W.length W.length) (.slice none 0 0)).run Tryz.prog V=.ok (.bool false) V:=fun V=>Lib.run_eql_slice_nil V 30 42 (some ⟨g0,0,none⟩) W.length W.length 0 0 (by kernel_rfl)
    have c1:=(one_cell NI.out).1
    have HLb:Hid (b0.length=W.length):=hid (by
     obtain⟨a',c',e, -⟩:=(bU.sl hb0).form
     have:=congrArg (fun v=>match v with| .slice _ n _=>n|_=>0) e
     exact this.symm)
    have Yj:=hid (DB (Cz.bY (aO x) W a) b0 (by rw[HLb.out];simp[Cz.bY]) (.slice (some ⟨g3,0,none⟩) W.length W.length) (.slice (some ⟨g0,0,none⟩) W.length W.length) _ _ X3 (bU.sl HW3.out) (bU.sl (bM.keep hb0 (aD.below cE.out))))
    obtain⟨cc,hcc⟩:=bB (Cz.uK (Cz.bY (aO x) W a) b0)
    have tG:Hid (qb (aO x) W (pre++[(.slice ax (eT a).length cx,a)])=some (if cc<0 then Cz.bY (aO x) W a else b0)):=hid (by rw[Vn.out,hcc])
    rw[<-hcc] at Yj
    clear hcc hb0
    gi_wp2_with fail
    refine⟨trivial,rfl,gN.2 (Yj.out.mono ?_)⟩
    rintro e X4 ⟨rfl,hb4⟩
    have abx:=aU cE hb4
    have Bb:=hid (bM.keep HW3.out (aD.below hb4))
    have JU:=(hb4.block _ (aC NI.out)).trans NI.out
    have HBx4:=hid JU
    clear hb4 c1 Yj
    have c1:=(one_cell JU).1
    have c1f:=(one_cell JU).2
    by_cases hc:cc<0
    ·have hN4:Turns (fun b=>b=w9.heap.size) X2 (X4.setCell ⟨w9.heap.size,0,none⟩ (.slice (some ⟨g3,0,none⟩) W.length W.length)):=(Turns.aS abx.out).setCell ⟨w9.heap.size,0,none⟩ _ rfl
     have HQ:=hid (And.intro (Tf.out _ hN4) (HIn.out _ _ hN4 (one_set _ JU) (by
      rw[tG.out,if_pos hc]
      refine⟨g3,rfl,bM.keep (bM.mono Bb.out (fun b _ hb=>Tn.out b hb)) (fun b hb hlt=>jQ _ ⟨w9.heap.size,0,none⟩ _ _ (fun e=>?_))⟩
      have e1:b=w9.heap.size:=e
      have:=hb.1
      have:=abw.out
      omega)))
     clear hN4 JU;gi_wp2;exact HQ.out
    ·have hN4:Turns (fun b=>b=w9.heap.size) X2 X4:=Turns.aS abx.out
     have HQ:=hid (And.intro (Tf.out _ hN4) (HIn.out _ _ hN4 JU (by
      rw[tG.out,if_neg hc]
      exact⟨g0,rfl,bM.keep KN.out (aD.below abx.out)⟩)))
     clear hN4 JU;gi_wp2;exact HQ.out
  case hdone=>
   rintro D F xs X hD hFD Oc hIx hk;rw[Tp.out] at hIx;obtain⟨bv,h1,h2,h3,h4,h5⟩:=hIx
   have he:qb (aO x) W xs=Cz.canon (aO x) W:=by
    rw[MS.out,<-Oc];unfold qb;rw[List.map_map];rfl
   obtain⟨v,hv⟩:∃v,Cz.canon (aO x) W=some v:=by
    rw[MS.out];obtain⟨m,hm, -⟩:=Cz.qy (l:=(Cz.jE (Cz.sorts (aO x) W) []).map (Cz.bY (aO x) W)) (by simp[Cz.all_some]);exact⟨m,hm⟩
   rw[he,hv] at h2;obtain⟨g,rfl,hw⟩:=h2;have hX':aM (fun b _=>b=D) w9.heap.size X (X.putObj D (.deferred none)):=aM.putObj _ hk rfl (Nat.le_trans Ir.out.size hD)
   have HP:Hid (mK (Cz.canon (aO x) W) w (.returned (.tuple #[.slice (some ⟨g,0,none⟩) W.length W.length,.int .i64 0])) (X.putObj D (.deferred none))):=hid (by
    rw[hv]
    refine⟨⟨_,_,_,rfl,bM.mono (bM.keep hw (fun b hb hlt=>?_)) (fun b _ hb=>Nat.le_trans (Nat.le_trans Wf.out.size Ir.out.size) hb.1)⟩,(cG Wf.out h4).trans (hX'.1.mono Wf.out.size)⟩
    have rU:X.heap[b]?=some X.heap[b]:=Array.getElem?_eq_getElem hlt
    rw[rU]
    exact hX'.2 _ _ rU (fun e=>hb.2 (by rw[e];exact hFD)))
   have c1:=(one_cell h1).1;have p9:=hid hk;clear h1 h3 h4 h5 Oc hk he hv hX' hw;go_wp2;exact wG (v:=.tuple #[.slice (some ⟨g,0,none⟩) W.length W.length,.int .i64 0]) p9.out (by simp[results,Tryz.results6,go_sem]) HP.out
end Go.Proofs.YtibacilhkciihaaGreatDoor
