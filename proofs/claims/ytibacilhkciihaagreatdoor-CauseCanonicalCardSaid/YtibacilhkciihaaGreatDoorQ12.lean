/- Part 12 of the walks and plain laws that the proof needs (packed). -/
import Derived.Shelf.Sort.Plain
import Derived.Ground.Names2Prog
import Derived.Shelf.Slices.CompactI
import Derived.Shelf.Slices.Turned
import Derived.Shelf.Slices.In.SortNone
import Derived.Ground.SlsfProg
import Derived.Ground.SlsgProg
import Derived.Shelf.SlCmpFuncs.BinarySearchFunc
import Derived.Shelf.SlSortCmp.NoneTotal
import Derived.Test.YtibacilhkciihaaGreatDoorProg
import Derived.Lib.RowBridge
import Derived.Test.YtibacilhkciihaaGreatDoorQ1
import Derived.Test.YtibacilhkciihaaGreatDoorQ3
import Derived.Test.YtibacilhkciihaaGreatDoorQ6
import Derived.Test.YtibacilhkciihaaGreatDoorQ7
import Derived.Test.YtibacilhkciihaaGreatDoorQ10
import Derived.Test.YtibacilhkciihaaGreatDoorQ11
set_option linter.all false
set_option maxRecDepth 100000
set_option maxHeartbeats 8000000
namespace Go.Proofs.YtibacilhkciihaaGreatDoor.ah
structure Jo(x:cA)(W:eE):Prop where
 len:W.length=x.aA.length
 five:∀(k:Nat) (h:k<W.length),W[k].length<=5
 rF:∀(k:Nat) (h:k<W.length),∀r∈W[k],BK x k W r
structure kO(x:cA)(k:Nat)(W:eE):Prop where
 len:W.length=x.aA.length
 five:∀(i:Nat) (h:i<W.length),W[i].length<=5
 rF:∀(i:Nat) (h:i<W.length),∀r∈W[i],BK x i W r
 rest:∀(i:Nat) (h:i<W.length),k<=i->W[i]=[]
theorem kO.zero(x:cA):kO x 0 (List.replicate x.aA.length []):=
 ⟨bp,fun i h=>by simp,fun i h r hr=>by simp at hr,fun i h _=>by simp⟩
theorem kO.snoc{x:cA}{k:Nat}{W:eE}(hu:mH x){rows:List (List Int)}(hk:k<W.length)(h:kO x (k+1) (W.set k rows)){r:List Int}(hr:BK x k W r)(ht:rows.length+1<=5):kO x (k+1) (W.set k (rows++[r])):=by
 have e1:=h.len;rw[List.length_set] at e1
 have conv:∀(i:Nat) (hi:i<W.length) (r':List Int) (s:List (List Int)),BK x i (W.set k s) r'->i<=k->BK x i (W.set k (rows++[r])) r':=fun i hi r' s ⟨h1,h2⟩ hik=>by
  refine⟨h1,fun j hj=>⟨fun hR=>?_,(h2 j hj).2⟩⟩;have h3:=(h2 j hj).1 hR;have h4:=hu i j aB aB hR;have h5:=tY x i j aB;rw[LW _ h4 aB] at h3 ⊢;exact h3
 refine⟨by rw[List.length_set];exact e1,fun i hi=>?_,fun i hi r' hr'=>?_,fun i hi hki=>?_⟩
 ·rw[List.length_set] at hi
  by_cases e:k=i
  ·subst e
   rw[List.getElem_set_self];simp;omega
  ·have:=h.five i Ou
   rw[List.getElem_set_ne e] at this ⊢;exact this
 ·rw[List.length_set] at hi
  by_cases e:k=i
  ·subst e
   rw[List.getElem_set_self] at hr';rcases List.mem_append.1 hr' with hr'|hr'
   ·exact conv k hi r' rows (h.rF k Ou r' (by rw[List.getElem_set_self];exact hr')) aH
   ·rw[mL.1 hr']
    exact conv k hi r W[k] (by rw[List.set_getElem_self];exact hr) aH
  ·rw[List.getElem_set_ne e] at hr'
   by_cases hik:i<=k
   ·exact conv i hi r' rows (h.rF i Ou r' (by rw[List.getElem_set_ne e];exact hr')) hik
   ·have:=h.rest i Ou aB
    rw[List.getElem_set_ne e] at this;rw[this] at hr';simp at hr'
 ·rw[List.length_set] at hi
  rw[List.getElem_set_ne aB];have:=h.rest i Ou hki;rwa [List.getElem_set_ne aB] at this
theorem kO.next{x:cA}{k:Nat}{W:eE}(h:kO x k W):kO x (k+1) W:=⟨h.len,h.five,h.rF,fun i hi hk=>h.rest i hi aB⟩
theorem kO.done{x:cA}{k:Nat}{W:eE}(h:kO x k W):Jo x W:=⟨h.len,h.five,h.rF⟩
end Go.Proofs.YtibacilhkciihaaGreatDoor.ah
namespace Go.Proofs.YtibacilhkciihaaGreatDoor
open Go.RowKit
def adI(x:ah.cA)(w:World)(e:Ending)(w':World):Prop:=∃v W,e=.returned v/\ah.Jo x W/\bU (w.heap.size<=·) w' v W/\BL w w'
theorem RL(x:ah.cA)(hx:ah.mH x)(hk:x.aA.length<=10)(hf:∀k∈x.aA,k.aG.length<=20)(L:List Int)(hL:Fit L)(v u:Value)(S T:Nat->Prop)(w:World)(hv:d9 S w v x)(hu:bq T w u L):
  Calls Tryz.prog 5 #[v,u] w (adI x w):=by
 obtain⟨ak,ck,al,cl,ar,cr,rfl,hkk, -, -,hsk, -, -⟩:=hv.form;obtain⟨au,cu,rfl,hsu,hcu,hmu⟩:=hu.form;obtain⟨W1,hW1⟩:=bB (dP w x.aL (.slice ak x.aA.length ck) (.slice al x.aP.length cl) (.slice ar x.aR.length cr));have bT:=hid (iV w x.aL (.slice ak x.aA.length ck) (.slice al x.aP.length cl) (.slice ar x.aR.length cr));have NZ:=hid (gA w x.aL (.slice ak x.aA.length ck) (.slice al x.aP.length cl) (.slice ar x.aR.length cr));rw[<-hW1] at bT NZ;have Xl:=hid (d9.mono (S':=fun b=>b<w.heap.size+1) hv (fun b hb _=>by omega)|>.keep (aD.below bT.out));have HKV:=hid (gU.mono (S':=fun b=>b<w.heap.size+1) hkk (fun b hb _=>by omega)|>.keep (aD.below bT.out));have HUV:=hid (bq.mono (S':=fun b=>b<w.heap.size+1) hu (fun b hb _=>by omega)|>.keep (aD.below bT.out));unfold dP at hW1;have HW1:=hid hW1;have HX:=hid hx;have HF:=hid hf;have HL:=hid hL;have hz1:W1.heap.size=w.heap.size+1:=by rw[hW1];simp
 have M7:=hid hz1;clear hv hkk hu hW1 hx hf hL hz1;have hmk:=fun W=>qj (P:=Tryz.prog) (t:=30) (e:=42) (b:=24) (by kernel_rfl) (by kernel_rfl) aB x.aA.length aB W;obtain⟨⟨b0,b1,b2,b3⟩, -⟩:=bC NZ.out;go_enter Tryz.func5,Tryz.ntmps5;go_upto_region 1 with fail;rw[<-HW1.out];go_wp2;clear hmk b0 b1 b2 b3;obtain⟨g0,hg0⟩:=bB W1.heap.size;have HG0:Hid (g0=W1.heap.size):=hid hg0;have Q0:Hid (bU (W1.heap.size<=·) (W1.alloc (.cells (gb x.aA.length) 42)) (.slice (some ⟨g0,0,none⟩) x.aA.length x.aA.length) (List.replicate x.aA.length [])):=hid (by rw[hg0];exact vA W1 _ aB);rw[<-hg0];clear hg0
 go_loopw [6,7] (fun at_ kk wr=>∃(k a:Nat) (W:ah.eE),k<=x.aA.length/\a<=1000*k/\at_=.int .i64 (a:Int)/\kk=.int .i64 (k:Int)/\Hid (ah.kO x k W)/\Hid (bU (W1.heap.size<=·) wr (.slice (some ⟨g0,0,none⟩) x.aA.length x.aA.length) W)/\Hid (BL W1 wr))
  (fun _ kk _=>x.aA.length-(intOf kk).toNat)
 case atStart=>exact⟨0,0,List.replicate x.aA.length [],aB,aB,rfl,rfl,hid (ah.kO.zero x),Q0,hid (aF.alloc aH _)⟩
 case round=>
  obtain⟨k,a,W,hkl,hal,rfl,rfl,HU,HO,HB⟩:=hrel;obtain⟨wo,rfl⟩:=bB (wr:World);have hzz:=HB.out.size;have h0z:=M7.out;have c1:=(bC ((HB.out.block _ (aC NZ.out)).trans NZ.out)).1.2.1;by_cases hlt:k<x.aA.length
  ·have hk0:(0:Int)<=k:=by omega
   have hk1:(k:Int)<x.aA.length:=aB
   have Mq:=hid (EX L HL.out (.slice au L.length cu) a 6 (·<w.heap.size+1) wo (HUV.out.keep (aD.aS HB.out (fun b hb=>by have h9:b<w.heap.size+1:=hb;omega))) aB aB aB);go_upto_region 6 with fail;go_cut [8] from 26 to 29 (fun n wx=>∃m:Nat,n=.int .i64 (m:Int)/\Hid (m<=5)/\wo=wx)
   case first=>
    go_wp2_with fail;refine Mq.out.mono ?_;rintro e w' ⟨z,rfl,z0,z1,rfl⟩;obtain⟨m,rfl⟩:∃m:Nat,z=(m:Int):=⟨z.toNat,aB⟩;go_wp2;go_meet;case rel=>exact⟨m,rfl,hid aB,rfl⟩
   case rest=>
    obtain⟨m0,rfl,HM,rfl⟩:=hcut;clear Mq;have GW:=HM.out;obtain⟨RM, -, -, -, -,uf,y3,kT⟩:=HKV.out.at hlt;obtain⟨af,cf,rfl,P6, -, -⟩:=kT.form;obtain⟨nf,hnf⟩:=bB (x.aA[k].aG.length);have hnf20:nf<=20:=by rw[hnf];exact HF.out _ (gm _)
    rw[<-hnf] at y3;have HNF:=hid hnf;have HFK:=hid kT;have hskf2:dX af nf:=by rw[HNF.out];exact P6
    have HY3:=hid y3;clear P6;have y3:=(HB.out.cell (p:=⟨bL ak,bP ak+k*4+3,none⟩) RM).trans HY3.out;clear kT hnf;go_wp2;go_loopw [8,9] (fun n f w2=>∃m f':Nat,m<=m0/\f'<=nf/\n=.int .i64 (m:Int)/\f=.int .i64 (f':Int)/\Hid (0<m->∀j:Nat,j<f'->(ah.fd x k j).kind=1->0<ah.fQ W (ah.dI x k j))/\Hid (BL wo w2)) (fun _ f _=>nf-(intOf f).toNat);case atStart=>exact⟨m0,0,aH,aB,rfl,rfl,hid (fun _ j h=>absurd h aB),hid aF⟩
    case round=>
     obtain⟨m,f',hmm,Am,rfl,rfl,HP,bX⟩:=hrel;have Vv:=aU HB bX.out;have hz9:=Vv.out.size;obtain⟨⟨x0,x1,x2,x3⟩, -⟩:=bC ((Vv.out.block _ (aC NZ.out)).trans NZ.out);have y3':=(Vv.out.cell (p:=⟨bL ak,bP ak+k*4+3,none⟩) RM).trans HY3.out;by_cases hfl:f'<nf
     ·have hfl1:(f':Int)<nf:=by omega
      have hf0:(0:Int)<=f':=aB
      go_wp2_with fail;refine(Kw x k f' _ (·<w.heap.size+1) wr (Xl.out.keep (aD.aS Vv.out (fun b hb=>by have h9:b<w.heap.size+1:=hb;omega))) ⟨aB,aB⟩ ⟨aB,aB⟩).mono ?_;rintro e w3 ⟨rfl,hb3⟩;have cE:=aU bX hb3;have MF:=ah.tY x k f' aB;obtain⟨up,hup⟩:=bB (ah.dI x k f');rw[<-hup] at MF ⊢;have HUP:=hid hup;clear hb3 hup x0 x1 x2 x3 y3';by_cases hu0:0<=up
      ·obtain⟨q,rfl⟩:∃q:Nat,up=(q:Int):=⟨up.toNat,aB⟩
       have Mr:(q:Int)<(k:Int):=aB
       have hqW:q<W.length:=by rw[HU.out.len];omega
       have hq1:(q:Int)<x.aA.length:=aB
       have hO3:=bU.sl (bM.keep HO.out (aD.below cE.out));obtain⟨uq,cq, -,hrq⟩:=eU.at hO3 hqW;obtain⟨aq,cpq,rfl, -, -, -⟩:=hrq.form;simp only[fZ,f9,Nat.zero_add] at cq
       have hle:W[q].length=ah.fQ W (ah.dI x k f'):=by
        rw[<-HUP.out,ah.fQ,Int.toNat_natCast,jm,lE hqW];rfl
       have HLE:=hid hle;have hskq:dX (some ⟨g0,0,none⟩) x.aA.length:=fun _=>⟨_,_,rfl⟩;clear hO3 hrq hle;by_cases hz:W[q].length=0
       ·have hzb:((W[q].length:Int)==0)=true:=by simp[hz]
        clear hz;generalize W[q].length=lq at*;go_wp2;go_roundw;case rel=>exact⟨0,f'+1,aB,aB,rfl,by go_num,hid (fun h=>absurd h aB),cE⟩
        simp[intOf];omega
       ·have hzb:((W[q].length:Int)==0)=false:=nU aB
        have hpos:0<W[q].length:=aB
        have Vw:Hid (0<m->∀j:Nat,j<f'+1->(ah.fd x k j).kind=1->0<ah.fQ W (ah.dI x k j)):=hid (fun h j hj hR=>by
         by_cases e:j=f'
         ·subst e;rw[<-HLE.out];exact hpos
         ·exact HP.out h j aB hR)
        clear hz hpos;generalize W[q].length=lq at*;go_wp2;go_roundw;case rel=>exact⟨m,f'+1,hmm,aB,rfl,by go_num,Vw,cE⟩
        simp[intOf];omega
      ·have Vw:Hid (0<m->∀j:Nat,j<f'+1->(ah.fd x k j).kind=1->0<ah.fQ W (ah.dI x k j)):=hid (fun h j hj hR=>by
        by_cases e:j=f'
        ·subst e
         have h1:=HX.out k j hlt (by rw[dU hlt,<-HNF.out];exact hfl) hR;rw[<-HUP.out] at h1;omega
        ·exact HP.out h j aB hR)
       go_wp2;go_roundw;case rel=>exact⟨m,f'+1,hmm,aB,rfl,by go_num,Vw,cE⟩
       simp[intOf];omega
     ·have hff2:nf=f':=by omega
      subst hff2;clear hfl Am;obtain⟨wm,rfl⟩:=bB (wr:World);have vX:k<W.length:=by rw[HU.out.len];exact hlt
      have hWk:W.set k []=W:=by
       have:=HU.out.rest k vX aH;rw[<-this];exact List.set_getElem_self vX
      have HOm:Hid (bU (W1.heap.size<=·) wm (.slice (some ⟨g0,0,none⟩) x.aA.length x.aA.length) (W.set k [])):=hid (by rw[hWk];exact bM.keep HO.out (aD.below bX.out));have HUm:Hid (ah.kO x (k+1) (W.set k [])):=hid (by rw[hWk];exact HU.out.next);clear hWk;go_wp2;clear x0 x1 x2 x3 y3'
      go_loopw [6,11] (fun at_ ii w3=>∃(a':Nat) (rows:List (List Int)),rows.length<=m/\a'<=1000*k+1+100*rows.length/\at_=.int .i64 (a':Int)/\ii=.int .i64 ((rows.length:Nat):Int)/\Hid (ah.kO x (k+1) (W.set k rows))/\
       Hid (bU (W1.heap.size<=·) w3 (.slice (some ⟨g0,0,none⟩) x.aA.length x.aA.length) (W.set k rows))/\Hid (BL W1 w3)) (fun _ ii _=>m-(intOf ii).toNat)
      case atStart=>exact⟨a+1,[],bp,lC,by go_num,rfl,HUm,HOm,Vv⟩
      case round=>
       obtain⟨a',rows,hrm,ha',rfl,rfl,HU3,HO3,cE⟩:=hrel;obtain⟨wi,rfl⟩:=bB (wr:World);have PK:=cE.out.size;by_cases him:rows.length<m
       ·have him1:(rows.length:Int)<m:=by omega
        have hm1:0<m:=aB
        have hz4:w.heap.size<wi.heap.size:=aB
        have y4:=(cE.out.cell (p:=⟨bL ak,bP ak+k*4+3,none⟩) RM).trans HY3.out;go_wp2
        go_loopw [6,12,13] (fun at_ rv ff w4=>∃(a4:Nat) (r:List Int) (ra:Option Addr) (rc:Nat),r.length<=nf/\a4<=a'+r.length/\at_=.int .i64 (a4:Int)/\rv=.slice ra r.length rc/\ff=.int .i64 ((r.length:Nat):Int)/\Hid (bg (wi.heap.size<=·) w4 (.slice ra r.length rc) r)/\
         Hid (∀(j:Nat) (h:j<r.length),((ah.fd x k j).kind=1->0<=r[j]/\r[j]<ah.fQ W (ah.dI x k j))/\ -100<=r[j]/\r[j]<=100)/\Hid (BL wi w4)) (fun _ _ ff _=>nf-(intOf ff).toNat)
        case atStart=>exact⟨a',[],none,0,bp,bp,rfl,rfl,rfl,hid (bg.nil _ _),hid (fun j h=>absurd h bp),hid aF⟩
        case round=>
         obtain⟨a4,r,ra,rc,hrn,ha4,rfl,rfl,rfl,HI,I4,gK⟩:=hrel;have Yk:=gK.out.size;have FY:=aU cE gK.out;obtain⟨⟨x0,x1,x2,x3⟩, -⟩:=bC ((FY.out.block _ (aC NZ.out)).trans NZ.out);have y5:=(FY.out.cell (p:=⟨bL ak,bP ak+k*4+3,none⟩) RM).trans HY3.out;by_cases hrf:r.length<nf
         ·have hrf1:(r.length:Int)<nf:=by omega
          have KV:=(HFK.out.keep (aD.aS FY.out (fun b hb=>by have h9:b<w.heap.size+1:=hb;omega))).at (j:=r.length) (by rw[<-HNF.out];exact hrf);obtain⟨-, -, -, -, -,f3, -⟩:=KV;have HFD:Hid (x.aA[k].aG[r.length]'(by rw[<-HNF.out];exact hrf)=ah.fd x k r.length):=hid (nA hlt (by rw[<-HNF.out];exact hrf)).symm;rw[HFD.out] at f3;go_upto_region 21 with fail;go_cut [14] from 77 to 80 (fun q wx=>∃vv:Int,q=.int .i64 vv/\Hid (0<=vv/\vv<=39)/\wr=wx)
          case first=>
           have hU4:=HUV.out.keep (aD.aS FY.out (fun b hb=>by have h9:b<w.heap.size+1:=hb;omega));have HU4:=hid hU4;clear hU4 f3;go_wp2_with fail;refine(EX L HL.out (.slice au L.length cu) a4 40 (·<w.heap.size+1) wr HU4.out aB aB aB).mono ?_;rintro e w' ⟨z,rfl,z0,z1,rfl⟩;go_wp2;go_meet;case rel=>exact⟨_,rfl,hid ⟨aB,aB⟩,rfl⟩
          case rest=>
           obtain⟨vv,rfl,HVV,rfl⟩:=hcut;have hvv:=HVV.out;obtain⟨hvv1,hvv2⟩:=hvv;have hrl:=hrf;have kX:Hid (∀fk,fk=(ah.fd x k r.length).kind->fk=(ah.fd x k r.length).kind):=hid (fun _ h=>h);obtain⟨fk,kT⟩:=bB ((ah.fd x k r.length).kind);rw[<-kT] at f3;have rI:=hid kT;clear kT kX;go_upto_if 92 with fail;go_cut [14] from 93 to 105 (fun q wx=>∃vv:Int,q=.int .i64 vv/\Hid ((fk=1->0<=vv/\vv<ah.fQ W (ah.dI x k r.length))/\ -100<=vv/\vv<=100)/\Hid (BL wr wx))
           case first=>
            by_cases Vx:fk=1
            ·subst Vx
             have hup:=ah.tY x k r.length aB;have hup0:0<=ah.dI x k r.length:=HX.out k r.length hlt (by rw[dU hlt,<-HNF.out];exact hrf) rI.out.symm;have hpos:=HP.out hm1 r.length hrf rI.out.symm;go_wp2_with fail;refine(Kw x k r.length _ (·<w.heap.size+1) wr (Xl.out.keep (aD.aS FY.out (fun b hb=>by have h9:b<w.heap.size+1:=hb;omega))) ⟨aB,aB⟩ ⟨aB,aB⟩).mono ?_;rintro e w6 ⟨rfl,rS⟩;have qp:=hid rS;obtain⟨q,hq⟩:∃q:Nat,ah.dI x k r.length=(q:Int):=⟨(ah.dI x k r.length).toNat,aB⟩;have HQ:=hid hq;rw[hq] at hup hup0 hpos ⊢;have hqk:q<k:=aB
             have hq1:(q:Int)<x.aA.length:=aB
             have hqW:q<(W.set k rows).length:=by rw[List.length_set];omega
             have hO6:=bU.sl (bM.keep HO3.out (aD.below (cG gK.out rS)));obtain⟨uq,cq, -,hrq⟩:=eU.at hO6 hqW;obtain⟨aq,cpq,rfl, -, -, -⟩:=hrq.form;simp only[fZ,f9,Nat.zero_add] at cq
             have hle:(W.set k rows)[q].length=ah.fQ W (q:Int):=by
              rw[List.getElem_set_ne aB,ah.fQ,Int.toNat_natCast,jm,lE aB];rfl
             have hskq:dX (some ⟨g0,0,none⟩) x.aA.length:=fun _=>⟨_,_,rfl⟩;rw[hle] at cq;clear hO6 hrq hle rS hq f3 y5 x0 x1 x2 x3;obtain⟨lq,hlq⟩:=bB (ah.fQ W (q:Int));rw[<-hlq] at cq hpos;have HLQ:=hid hlq;clear hlq;have hlq1:¬(lq:Int)<1:=aB
             have hlq2:(1:Int)<=lq:=aB
             have hq00:¬(q:Int)<0:=aB
             have hmd:=Int.emod_lt_of_pos vv (show (0:Int)<lq by omega);have adJ:=Int.emod_nonneg vv (show (lq:Int)≠0 by omega)
             have hmd2:vv % (lq:Int)<=vv:=by
              have h1:=Int.emod_add_mul_ediv vv lq;have h2:=Int.mul_nonneg (show (0:Int)<=lq by omega) (Int.ediv_nonneg (show 0<=vv by omega) (show (0:Int)<=lq by omega));omega
             have HV:Hid ((1=(1:Int)->0<=vv % (lq:Int)/\vv % (lq:Int)<ah.fQ W (ah.dI x k r.length))/\ -100<=vv % (lq:Int)/\vv % (lq:Int)<=100):=hid ⟨fun _=>⟨adJ,by rw[HQ.out,<-HLQ.out];exact hmd⟩,aB,aB⟩;clear hmd adJ hmd2;go_wp2;go_meet;case rel=>exact⟨_,rfl,by first|exact HV|(rw[show max (lq:Int) 1=lq by omega];exact HV),qp⟩
            ·have hbf:(fk==1)=false:=nU Vx
             have HNR:Hid (¬fk=1):=hid Vx;clear Vx;go_wp2;go_meet;case rel=>exact⟨vv,rfl,hid ⟨fun h=>absurd h HNR.out,aB,aB⟩,hid aF⟩
           case rest=>
            clear hvv1 hvv2 HVV f3 y5 x0 x1 x2 x3;obtain⟨vv,rfl,HVV,jT⟩:=hcut;have wX:=hid (aX.keep HI.out (aD.below jT.out));have hz7:=jT.out.size;go_wp2_with (at_builtin;go_must (refine jW rfl _ _ rfl Tryz.rZ rfl wX.out (aF.alloc aH _) rfl (tS nV wc _ vv rfl trivial) aB ?_));intro v' w8 Bo jD;obtain⟨r2,Ad⟩:=bB (r++[vv]);rw[<-Ad] at Bo;have hl2:r2.length=r.length+1:=by rw[Ad];simp
            obtain⟨a2,c2,rfl, -, -, -⟩:=(bg.sl Bo).form;have zy:Hid (bg (wi.heap.size<=·) w8 (.slice a2 r2.length c2) r2):=hid (aX.mono Bo (fun b _ hb=>gM aB b hb));have oW:Hid (BL wi w8):=hid (((cG gK.out jT.out).alloc aB _).trans (jD.below lC (fun b hb=>wX.out.2 b hb.symm)))
            have C9:Hid (∀(j:Nat) (h:j<r2.length),((ah.fd x k j).kind=1->0<=r2[j]/\r2[j]<ah.fQ W (ah.dI x k j))/\ -100<=r2[j]/\r2[j]<=100):=hid (fun j hj=>by
             subst Ad;by_cases MW:j<r.length
             ·rw[TN MW];exact I4.out j MW
             ·have e:j=r.length:=by omega
              subst e;rw[zAr aH];simp only[Nat.sub_self,List.getElem_cons_zero];rw[<-rI.out];exact HVV.out)
            have iE:=hid hl2;clear Bo jD Ad hl2 wX I4 HI HVV jT;go_wp2;go_roundw;case rel=>exact⟨a4+1,r2,a2,c2,Ls,Ls,by go_num,rfl,by rw[iE.out];go_num,zy,C9,oW⟩
            simp[intOf];have:=iE.out;omega
         ·have aaV:r.length=nf:=by omega
          have HRK:Hid (ah.BK x k W r):=hid ⟨by rw[aaV,dU hlt,HNF.out],I4.out⟩;have HRN:=hid aaV;clear aaV;have hkX:k<(W.set k rows).length:=by rw[List.length_set];exact vX
          obtain⟨g,aaz,uu,TT,e1,e2,e3,MG,hcg,hfg,MH,Q5, -,hback⟩:=gZ.borrow ct HO3.out k hkX
          have hgg:g0=g:=by
           simp only[Value.slice.injEq,Option.some.injEq,Addr.mk.injEq] at e1;exact e1.1.1
          subst hgg;rw[List.getElem_set_self] at MH;obtain⟨ag,cg,rfl, -, -, -⟩:=(fC.sl MH).form;have hgl:g0<wi.heap.size:=Ae wi ⟨g0,k,none⟩ hcg;have hcg2:=(gK.out.cell (p:=⟨g0,k,none⟩) hgl).trans hcg;have HRg:=hid MH;have Q6:=hid (fun w2 u'=>hback w2 u' (rows++[r]));have RN:=hid Q5;have aaA:dX (some ⟨g0,0,none⟩) x.aA.length:=fun _=>⟨_,_,rfl⟩;have lZ:=gK.out;clear e1 e2 e3 MH Q5 hback hcg hfg;go_wp2_with (at_builtin;go_must (refine iF aX rfl _ _ rfl Tryz.uQ rfl HRg.out lZ rfl r HI.out rfl aB ?_));intro v' w9 SK qK;obtain⟨rw2,Vy⟩:=bB (rows++[r]);have aaW:=Q6.out w9 v' ((Turns.aS lZ).trans (qK.mono fun b _ hb=>HRg.out.1 b hb.symm)) SK;obtain⟨k1,k2,k3,k4⟩:=aaW;rw[List.set_set,<-Vy] at k3;have hl2:rw2.length=rows.length+1:=by rw[Vy];simp
          have rC:Hid (bU (W1.heap.size<=·) (w9.setCell ⟨g0,k,none⟩ v') (.slice (some ⟨g0,0,none⟩) x.aA.length x.aA.length) (W.set k rw2)):=hid (bM.mono k3 (fun b _ hb=>gM PK b hb))
          have mR:Hid (BL W1 (w9.setCell ⟨g0,k,none⟩ v')):=hid (cE.out.trans (k4.below PK (fun b hb=>by
           rcases hb with hb|hb
           ·exact(RN.out b hb).1
           ·rw[hb];exact MG)))
          have HU9:Hid (ah.kO x (k+1) (W.set k rw2)):=hid (by
           rw[Vy]
           exact ah.kO.snoc HX.out vX HU3.out HRK.out (by have:=HM.out;omega))
          obtain⟨av,lv,cv,rfl⟩:∃a l c,v'=.slice a l c:=abJ
          have iE:=hid hl2;clear SK qK k3 k4 Vy hl2 Q6 HRg RN HU3 HO3 HI I4;go_wp2;go_roundw;case rel=>exact⟨a4,rw2,Ls,by have:=iE.out;have:=HRN.out;omega,rfl,by rw[iE.out];go_num,HU9,rC,mR⟩
          simp[intOf];have:=iE.out;omega
       ·clear y3
        go_wp2;go_roundw;case rel=>exact⟨k+1,a',W.set k rows,aB,aB,rfl,by go_num,HU3,HO3,cE⟩
        simp[intOf];omega
  ·have hkk:k=x.aA.length:=by omega
   go_wp2;go_ret;exact⟨_,W,rfl,HU.out.done,bM.mono HO.out (fun b _ hb=>by have h9:W1.heap.size<=b:=hb;show w.heap.size<=b;omega),bT.out.trans (HB.out.mono aB)⟩
theorem Bj{α:Type}{xs ys:List α}{k:Nat}(hx:k<xs.length)(hy:k<ys.length)(h:xs.take k=ys.take k)(e:xs[k]=ys[k]):xs.take (k+1)=ys.take (k+1):=by
 rw[CY hx,CY hy,h,e]
theorem Dy{α:Type}{xs ys:List α}{k:Nat}(hl:xs.length=ys.length)(hk:k=xs.length)(h:xs.take k=ys.take k):xs=ys:=by
 exact Wv
theorem zA(xs ys:List Int)(u v:Value)(S T:Nat->Prop)(w:World)(hu:bq S w u xs)(hv:bq T w v ys):
  Calls Tryz.prog 32 #[u,v] w fun e w'=>e=.returned (.bool (decide (xs=ys)))/\∃n,w'=w.drewN n:=by
 obtain⟨a,cap,rfl,hok,hcap,hmax,hS,hcell⟩:=hu;obtain⟨a',cap',rfl,wL,rY,o9,hS',OJ⟩:=hv;clear hS hS';unfold maxLen at hmax o9;by_cases hl:xs.length=ys.length
 ·have hl2:((xs.length:Int) !=(ys.length:Int))=false:=by simp[hl]
  have hl3:xs.length<=ys.length:=aB
  have HL:=hid hl;clear hl;go_enter Tryz.func32,Tryz.ntmps32;go_wp2;go_loopw [13] (fun i wr=>∃k:Nat,k<=xs.length/\i=.int .i64 k/\Hid (xs.take k=ys.take k)/\∃n,wr=w.drewN n) (fun i _=>xs.length-(intOf i).toNat);case atStart=>exact⟨0,Nat.zero_le _,rfl,hid rfl,0,rfl⟩
  case round=>
   exact Ww
 ·have hl2:((xs.length:Int) !=(ys.length:Int))=true:=by simpa using (by omega:(xs.length:Int)≠ys.length)
  rw[decide_eq_false (fun e=>hl rX)];clear hl;go_enter Tryz.func32,Tryz.ntmps32;go_wp2;go_ret;exact⟨rfl,0,rfl⟩
theorem Jp(xs ys:List Int)(u v:Value)(S T:Nat->Prop)(w:World)(hu:bq S w u xs)(hv:bq T w v ys):
  Calls Tryz.prog 32 #[u,v] w fun e w'=>e=.returned (.bool (decide (xs=ys)))/\BL w w':=
 (zA xs ys u v S T w hu hv).mono fun e w' h=>⟨h.1,by obtain⟨n,rfl⟩:=h.2;exact aI aF n⟩
theorem RO{p:Prop}(h:p:=by
  go_wp2_with fail
  refine HC.out.mono ?_
  rintro e w' ⟨rfl,hb⟩
  have HB:=hid hb
  clear hb
  go_wp2
  go_ret
  exact⟨rfl,HB.out⟩):p:=h
theorem Jq(xs ys:List Int)(u v:Value)(S T:Nat->Prop)(w:World)(hu:bq S w u xs)(hv:bq T w v ys):
  Calls Tryz.prog 31 #[u,v] w fun e w'=>e=.returned (.bool (decide (xs=ys)))/\BL w w':=by
 have HC:=hid (Jp xs ys u v S T w hu hv);clear hu hv;go_enter Tryz.func31,Tryz.ntmps31;exact RO
theorem Yw{p:Prop}(h:p:=by
  have hk0:(0:Int)<=(k:Int):=aB
  have hk1:(k:Int)<(xs.length:Int):=aB
  have hk2:(k:Int)<(ys.length:Int):=aB
  have HE:Hid (∀d,d=decide (xs[k]=ys[k])->(d=true->xs.take (k+1)=ys.take (k+1))/\(d=false->xs≠ys)):=hid (by
   rintro d rfl
   refine⟨fun h=>Bj hlt aB hpre.out (of_decide_eq_true h),fun h e=>?_⟩
   subst e
   exact of_decide_eq_false h rfl)
  obtain⟨d,hd⟩:=bB (decide (xs[k]=ys[k]))
  rw[<-hd] at HX
  have HD:=hid (HE.out d hd)
  clear hx2 hy2 hd HE
  go_wp2_with fail
  refine HX.out.mono ?_
  rintro e w' ⟨rfl,hb⟩
  have bX:=aU HB hb
  clear hb HX hx hy
  cases d with
  |true=>
   go_wp2
   go_roundw
   case rel=>exact⟨k+1,aB,by go_num,hid (HD.out.1 trivial),bX⟩
   simp[intOf];omega
  |false=>
   go_wp2
   go_ret
   exact⟨mS (decide_eq_false (HD.out.2 trivial)).symm,bX.out⟩):p:=h
theorem Yx{p:Prop}(h:p:=by
  go_wp2
  go_ret
  exact⟨mS (decide_eq_true (Dy HL.out aB hpre.out)).symm,HB.out⟩):p:=h
theorem Jr(xs ys:List (List Int))(u v:Value)(S T:Nat->Prop)(w:World)(hu:eU (bq S) S w u xs)(hv:eU (bq T) T w v ys):
  Calls Tryz.prog 30 #[u,v,.func (.func 31) #[] #[]] w fun e w'=>e=.returned (.bool (decide (xs=ys)))/\BL w w':=by
 obtain⟨a,cap,rfl,hok,hcap,hmax⟩:=hu.form;obtain⟨a',cap',rfl,wL,rY,o9⟩:=hv.form;have HU:=hid (fun(W:World) (hW:BL w W)=>dr.keep hu (aD.below hW));have HV:=hid (fun(W:World) (hW:BL w W)=>dr.keep hv (aD.below hW));clear hu hv;by_cases hl:xs.length=ys.length
 ·have hl2:((xs.length:Int) !=(ys.length:Int))=false:=by simp[hl]
  have HL:=hid hl;have hl3:xs.length<=ys.length:=aB
  clear hl;go_enter Tryz.func30,Tryz.ntmps30;go_wp2;go_loopw [17] (fun i wr=>∃k:Nat,k<=xs.length/\i=.int .i64 k/\Hid (xs.take k=ys.take k)/\Hid (BL w wr)) (fun i _=>xs.length-(intOf i).toNat);case atStart=>exact⟨0,Nat.zero_le _,rfl,hid rfl,hid aF⟩
  case round=>
   obtain⟨k,hk,rfl,hpre,HB⟩:=hrel;by_cases hlt:k<xs.length
   ·obtain⟨x,hx, -,hx2⟩:=(HU.out wr HB.out).at hlt
    obtain⟨y,hy, -,hy2⟩:=(HV.out wr HB.out).at (j:=k) aB;have HX:=hid (Jq xs[k] ys[k] x y _ _ wr hx2 hy2);exact Yw
   ·exact Yx
 ·have hl2:((xs.length:Int) !=(ys.length:Int))=true:=by simpa using (by omega:(xs.length:Int)≠ys.length)
  rw[decide_eq_false (fun e=>hl rX)];clear hl;go_enter Tryz.func30,Tryz.ntmps30;go_wp2;go_ret;exact⟨rfl,aF⟩
theorem Js(xs ys:List (List Int))(u v:Value)(S T:Nat->Prop)(w:World)(hu:dr S w u xs)(hv:dr T w v ys):
  Calls Tryz.prog 29 #[u,v] w fun e w'=>e=.returned (.bool (decide (xs=ys)))/\BL w w':=by
 have HC:=hid (Jr xs ys u v S T w hu hv);clear hu hv;go_enter Tryz.func29,Tryz.ntmps29;exact RO
theorem FZ(xs ys:List (List (List Int)))(u v:Value)(S T:Nat->Prop)(w:World)(hu:eU (dr S) S w u xs)(hv:eU (dr T) T w v ys):
  Calls Tryz.prog 28 #[u,v,.func (.func 29) #[] #[]] w fun e w'=>e=.returned (.bool (decide (xs=ys)))/\BL w w':=by
 obtain⟨a,cap,rfl,hok,hcap,hmax⟩:=hu.form;obtain⟨a',cap',rfl,wL,rY,o9⟩:=hv.form;have HU:=hid (fun(W:World) (hW:BL w W)=>bN.keep hu (aD.below hW));have HV:=hid (fun(W:World) (hW:BL w W)=>bN.keep hv (aD.below hW));clear hu hv;by_cases hl:xs.length=ys.length
 ·have hl2:((xs.length:Int) !=(ys.length:Int))=false:=by simp[hl]
  have HL:=hid hl;have hl3:xs.length<=ys.length:=aB
  clear hl;go_enter Tryz.func28,Tryz.ntmps28;go_wp2;go_loopw [17] (fun i wr=>∃k:Nat,k<=xs.length/\i=.int .i64 k/\Hid (xs.take k=ys.take k)/\Hid (BL w wr)) (fun i _=>xs.length-(intOf i).toNat);case atStart=>exact⟨0,Nat.zero_le _,rfl,hid rfl,hid aF⟩
  case round=>
   obtain⟨k,hk,rfl,hpre,HB⟩:=hrel;by_cases hlt:k<xs.length
   ·obtain⟨x,hx, -,hx2⟩:=(HU.out wr HB.out).at hlt
    obtain⟨y,hy, -,hy2⟩:=(HV.out wr HB.out).at (j:=k) aB;have HX:=hid (Js xs[k] ys[k] x y _ _ wr hx2 hy2);exact Yw
   ·exact Yx
 ·have hl2:((xs.length:Int) !=(ys.length:Int))=true:=by simpa using (by omega:(xs.length:Int)≠ys.length)
  rw[decide_eq_false (fun e=>hl rX)];clear hl;go_enter Tryz.func28,Tryz.ntmps28;go_wp2;go_ret;exact⟨rfl,aF⟩
theorem Cp(xs ys:List (List (List Int)))(u v:Value)(S T:Nat->Prop)(w:World)(hu:bN S w u xs)(hv:bN T w v ys):
  Calls Tryz.prog 8 #[u,v] w fun e w'=>e=.returned (.bool (decide (xs=ys)))/\BL w w':=by
 have HC:=hid (FZ xs ys u v S T w hu hv);clear hu hv;go_enter Tryz.func8,Tryz.ntmps8;exact RO
theorem zB{α:Type}{c:α->α->Int}{xs ys:List α}{k:Nat}(hx:k<xs.length)(hy:k<ys.length):
  Cz.fU c (xs.drop k) (ys.drop k)=if c xs[k] ys[k]=0 then Cz.fU c (xs.drop (k+1)) (ys.drop (k+1)) else c xs[k] ys[k]:=by
 rw[List.drop_eq_getElem_cons hx,List.drop_eq_getElem_cons hy];rfl
theorem RP{α:Type}{c:α->α->Int}{xs ys:List α}{k:Nat}(hx:k<xs.length)(hy:ys.length<=k):Cz.fU c (xs.drop k) (ys.drop k)=1:=by
 rw[List.drop_eq_getElem_cons hx,List.drop_eq_nil_of_le hy];rfl
theorem Dz{α:Type}{c:α->α->Int}{xs ys:List α}{k:Nat}(hx:xs.length<=k):Cz.fU c (xs.drop k) (ys.drop k)=if k<ys.length then -1 else 0:=by
 rw[List.drop_eq_nil_of_le hx];by_cases h:k<ys.length
 ·rw[List.drop_eq_getElem_cons h,if_pos h];rfl
 ·rw[List.drop_eq_nil_of_le aB,if_neg h];rfl
theorem Cq(a:Int)(w:World):Calls Tryz.prog 132 #[.int .i64 a] w fun e w'=>e=.returned (.bool false)/\w=w':=by
 have h:(a !=a)=false:=bp
 go_enter Tryz.func132,Tryz.ntmps132;go_wp2;go_ret;exact⟨rfl,rfl⟩
theorem RQ(a b:Int)(w:World):Calls Tryz.prog 99 #[.int .i64 a,.int .i64 b] w fun e w'=>e=.returned (.int .i64 (Cz.dF a b))/\w=w':=by
 have H:Hid (Cz.dF a b=if a<b then -1 else if b<a then 1 else 0):=hid rfl;obtain⟨r,hr⟩:=bB (Cz.dF a b);rw[<-hr] at H ⊢;clear hr;go_enter Tryz.func99,Tryz.ntmps99;go_wp2_with fail;refine(Cq a w).mono ?_;rintro e w' ⟨rfl,rfl⟩;go_wp2_with fail;refine(Cq b w).mono ?_;rintro e w' ⟨rfl,rfl⟩;by_cases h1:a<b
 ·have HP:Hid (r= -1):=hid (by rw[H.out,if_pos h1])
  go_wp2;go_ret;exact⟨AB,rfl⟩
 ·by_cases h2:b<a
  ·have HP:Hid (r=1):=hid (by rw[H.out,if_neg h1,if_pos h2])
   go_wp2;go_ret;exact⟨AB,rfl⟩
  ·have HP:Hid (r=0):=hid (by rw[H.out,if_neg h1,if_neg h2])
   go_wp2;go_ret;exact⟨AB,rfl⟩
theorem Yy{p:Prop}(h:p:=by
  by_cases hl:(xs.length:Int)<(ys.length:Int)
  ·have HP:Hid (r= -1):=hid (by rw[hpre.out,HE.out,if_pos aB])
   go_wp2;go_ret;exact⟨AB,rfl⟩
  ·have HP:Hid (r=0):=hid (by rw[hpre.out,HE.out,if_neg aB])
   go_wp2;go_ret;exact⟨AB,rfl⟩):p:=h
theorem Yz{p:Prop}(h:p:=by
  have hge:(ys.length:Int)<=(k:Int):=by omega
  have HP:Hid (r=1):=hid (by rw[hpre.out,RP hlt aB])
  clear hx2
  go_wp2
  go_ret
  exact⟨AB,rfl⟩):p:=h
theorem YA{p:Prop}(h:p:=by
  have hb:(d !=0)=false:=by simp[h0]
  clear h0
  go_wp2
  go_roundw
  case rel=>exact⟨k+1,aB,aB,by go_num,HP,trivial⟩
  simp[intOf]
  omega):p:=h
theorem oH(xs ys:List (Int))(u v:Value)(S T:Nat->Prop)(w:World)(hu:eU (fun _ u (x:Int)=>u=.int .i64 x) S w u xs)(hv:eU (fun _ u (x:Int)=>u=.int .i64 x) T w v ys):
  Calls Tryz.prog 63 #[u,v] w fun e w'=>e=.returned (.int .i64 (Cz.fU Cz.dF xs ys))/\w=w':=by
 obtain⟨a,cap,rfl,hok,hcap,hmax⟩:=hu.form;obtain⟨a',cap',rfl,wL,rY,o9⟩:=hv.form;have HU:=hid hu;have HV:=hid hv;have HR:Hid (∀z,z=Cz.fU Cz.dF xs ys->z=Cz.fU Cz.dF (xs.drop 0) (ys.drop 0)):=hid (fun z h=>h);obtain⟨r,hr⟩:=bB (Cz.fU Cz.dF xs ys);have Te:=hid (HR.out r hr);rw[<-hr];clear hu hv hr HR;go_enter Tryz.func63,Tryz.ntmps63;go_wp2;go_loopw [11] (fun i wr=>∃k:Nat,k<=xs.length/\k<=ys.length/\i=.int .i64 k/\Hid (r=Cz.fU Cz.dF (xs.drop k) (ys.drop k))/\wr=w) (fun i _=>xs.length-(intOf i).toNat);case atStart=>exact⟨0,Nat.zero_le _,Nat.zero_le _,rfl,Te,rfl⟩
 case round=>
  obtain⟨k,hk,hk',rfl,hpre,rfl⟩:=hrel;by_cases hlt:k<xs.length
  ·obtain⟨x,hx, -,hx2⟩:=HU.out.at hlt
   have hk0:(0:Int)<=(k:Int):=aB
   have hk1:(k:Int)<(xs.length:Int):=aB
   by_cases hlt2:k<ys.length
   ·obtain⟨y,hy, -,hy2⟩:=HV.out.at hlt2
    have hk2:(k:Int)<(ys.length:Int):=aB
    have hge:¬(ys.length:Int)<=(k:Int):=aB
    have HX:=hid (RQ xs[k] ys[k] wr);have HS:=hid (zB (c:=Cz.dF) hlt hlt2);obtain⟨d,hd⟩:=bB (Cz.dF xs[k] ys[k]);rw[<-hd] at HX HS;obtain rfl:x=.int .i64 xs[k]:=hx2;obtain rfl:y=.int .i64 ys[k]:=hy2;generalize xs[k]=x0 at*;generalize ys[k]=y0 at*;clear hd;go_wp2_with fail;refine HX.out.mono ?_;rintro e w' ⟨rfl,rfl⟩;clear HX hx hy;by_cases h0:d=0
    ·have HP:Hid (r=Cz.fU Cz.dF (xs.drop (k+1)) (ys.drop (k+1))):=hid Zj
     exact YA
    ·have HP:Hid (r=d):=hid Zk
     have hb:(d !=0)=true:=GK
     clear h0;go_wp2;go_ret;exact⟨AB,rfl⟩
   ·exact Yz
  ·have HE:=hid (Dz (c:=Cz.dF) (xs:=xs) (ys:=ys) (k:=k) aB)
   exact Yy
theorem DA(xs ys:List (List Int))(u v:Value)(S T:Nat->Prop)(w:World)(hu:eU (bq S) S w u xs)(hv:eU (bq T) T w v ys):
  Calls Tryz.prog 62 #[u,v,.func (.func 63) #[] #[]] w fun e w'=>e=.returned (.int .i64 (Cz.fU Cz.dA xs ys))/\w=w':=by
 obtain⟨a,cap,rfl,hok,hcap,hmax⟩:=hu.form;obtain⟨a',cap',rfl,wL,rY,o9⟩:=hv.form;have HU:=hid hu;have HV:=hid hv;have HR:Hid (∀z,z=Cz.fU Cz.dA xs ys->z=Cz.fU Cz.dA (xs.drop 0) (ys.drop 0)):=hid (fun z h=>h);obtain⟨r,hr⟩:=bB (Cz.fU Cz.dA xs ys);have Te:=hid (HR.out r hr);rw[<-hr];clear hu hv hr HR;go_enter Tryz.func62,Tryz.ntmps62;go_wp2;go_loopw [13] (fun i wr=>∃k:Nat,k<=xs.length/\k<=ys.length/\i=.int .i64 k/\Hid (r=Cz.fU Cz.dA (xs.drop k) (ys.drop k))/\wr=w) (fun i _=>xs.length-(intOf i).toNat);case atStart=>exact⟨0,Nat.zero_le _,Nat.zero_le _,rfl,Te,rfl⟩
 case round=>
  obtain⟨k,hk,hk',rfl,hpre,rfl⟩:=hrel;by_cases hlt:k<xs.length
  ·obtain⟨x,hx, -,hx2⟩:=HU.out.at hlt
   have hk0:(0:Int)<=(k:Int):=aB
   have hk1:(k:Int)<(xs.length:Int):=aB
   by_cases hlt2:k<ys.length
   ·obtain⟨y,hy, -,hy2⟩:=HV.out.at hlt2
    have hk2:(k:Int)<(ys.length:Int):=aB
    have hge:¬(ys.length:Int)<=(k:Int):=aB
    have HX:Hid (CP 63 #[x,y] wr fun e w'=>e=.returned (.int .i64 (Cz.dA xs[k] ys[k]))/\wr=w'):=hid (oH xs[k] ys[k] x y _ _ wr hx2 hy2);have HS:=hid (zB (c:=Cz.dA) hlt hlt2);obtain⟨d,hd⟩:=bB (Cz.dA xs[k] ys[k]);rw[<-hd] at HX HS;clear hx2 hy2;clear hd;go_wp2_with fail;refine HX.out.mono ?_;rintro e w' ⟨rfl,rfl⟩;clear HX hx hy;by_cases h0:d=0
    ·have HP:Hid (r=Cz.fU Cz.dA (xs.drop (k+1)) (ys.drop (k+1))):=hid Zj
     exact YA
    ·have HP:Hid (r=d):=hid Zk
     have hb:(d !=0)=true:=GK
     clear h0;go_wp2;go_ret;exact⟨AB,rfl⟩
   ·exact Yz
  ·have HE:=hid (Dz (c:=Cz.dA) (xs:=xs) (ys:=ys) (k:=k) aB)
   exact Yy
theorem DB(xs ys:List (List (List Int)))(hl:xs.length=ys.length)(u v:Value)(S T:Nat->Prop)(w:World)(hu:bN S w u xs)(hv:bN T w v ys):
  Calls Tryz.prog 25 #[u,v] w fun e w'=>e=.returned (.int .i64 (Cz.uK xs ys))/\BL w w':=by
 obtain⟨a,cap,rfl,hok,hcap,hmax⟩:=hu.form;obtain⟨a',cap',rfl,wL,rY,o9⟩:=hv.form;have HU:=hid (fun(W:World) (hW:BL w W)=>bN.keep hu (aD.below hW));have HV:=hid (fun(W:World) (hW:BL w W)=>bN.keep hv (aD.below hW));have HR:Hid (∀z,z=Cz.uK xs ys->z=Cz.fU (Cz.fU Cz.dA) (xs.drop 0) (ys.drop 0)):=hid (fun z h=>h);obtain⟨r,hr⟩:=bB (Cz.uK xs ys);have Te:=hid (HR.out r hr);have HL:=hid hl;have hl3:xs.length<=ys.length:=aB
 rw[<-hr];clear hu hv hr HR hl;go_enter Tryz.func25,Tryz.ntmps25;go_wp2;go_loopw [9] (fun i wr=>∃k:Nat,k<=xs.length/\i=.int .i64 k/\Hid (r=Cz.fU (Cz.fU Cz.dA) (xs.drop k) (ys.drop k))/\Hid (BL w wr)) (fun i _=>xs.length-(intOf i).toNat);case atStart=>exact⟨0,Nat.zero_le _,rfl,Te,hid aF⟩
 case round=>
  obtain⟨k,hk,rfl,hpre,HB⟩:=hrel;by_cases hlt:k<xs.length
  ·have hlt2:k<ys.length:=by omega
   obtain⟨x,hx, -,hx2⟩:=(HU.out wr HB.out).at hlt;obtain⟨y,hy, -,hy2⟩:=(HV.out wr HB.out).at hlt2;have hk0:(0:Int)<=(k:Int):=aB
   have hk1:(k:Int)<(xs.length:Int):=aB
   have hk2:(k:Int)<(ys.length:Int):=aB
   have HX:=hid (fun nq=>DA xs[k] ys[k] x y _ _ (wr.drewN nq) (dr.keep hx2 (aD.below (aI aF nq))) (dr.keep hy2 (aD.below (aI aF nq))));have HS:=hid (zB (c:=Cz.fU Cz.dA) hlt hlt2);obtain⟨d,hd⟩:=bB (Cz.fU Cz.dA xs[k] ys[k]);have Ap:Hid (∀nq,Calls Tryz.prog 62 #[x,y,.func (.func 63) #[] #[]] (wr.drewN nq) fun e w'=>e=.returned (.int .i64 d)/\∃m,w'=wr.drewN m):=hid (by rw[hd];exact fun nq=>(HX.out nq).mono fun _ _ h=>⟨h.1,nq,h.2.symm⟩);rw[<-hd] at HS;clear hx2 hy2 hd HX;go_wp2;go_quiet ((exact Ap.out _));have bX:=hid (fun n=>HB.out.trans (aI (Below.refl wr.heap.size wr) n|>.mono HB.out.size));clear hx hy Ap;by_cases h0:d=0
   ·have HP:Hid (r=Cz.fU (Cz.fU Cz.dA) (xs.drop (k+1)) (ys.drop (k+1))):=hid Zj
    have hb:(d !=0)=false:=by simp[h0]
    clear h0;go_wp2;go_roundw;case rel=>exact⟨k+1,aB,by go_num,HP,hid (bX.out _)⟩
    simp[intOf];omega
   ·have HP:Hid (r=d):=hid Zk
    have hb:(d !=0)=true:=GK
    clear h0;go_wp2;go_ret;exact⟨AB,bX.out _⟩
  ·have HP:Hid (r=0):=hid (by rw[hpre.out,Dz aB,if_neg CO])
   go_wp2;go_ret;exact⟨AB,HB.out⟩
end Go.Proofs.YtibacilhkciihaaGreatDoor
namespace Go.Proofs
open Go.Shelf Go.Proofs.YtibacilhkciihaaGreatDoor
def Tryz.F5:Go.Shelf.Ren:=⟨fun|189=>96|125=>128|257=>131|128=>159|129=>160|294=>162|295=>163|296=>164|297=>165|298=>166|299=>167|216=>168|300=>169|301=>170|328=>182|329=>178|330=>179|331=>183|332=>184|215=>132|343=>187|n=>n,fun|28=>22|3=>3|46=>137|0=>0|51=>176|53=>179|4=>4|183=>224|182=>223|131=>166|5=>5|9=>9|218=>243|222=>247|228=>252|229=>253|n=>n,fun|n=>n⟩
theorem Tryz.K7:Go.Proofs.Lays.n189 Tryz.prog Tryz.F5:={
 mixed:=by kernel_rfl
 f125:=Tryz.func128.trans (congrArg some (by kernel_rfl))
 f128:=Tryz.func159.trans (congrArg some (by kernel_rfl))
 f129:=Tryz.func160.trans (congrArg some (by kernel_rfl))
 f189:=Tryz.func96.trans (congrArg some (by kernel_rfl))
 f215:=Tryz.func132.trans (congrArg some (by kernel_rfl))
 f216:=Tryz.func168.trans (congrArg some (by kernel_rfl))
 f257:=Tryz.func131.trans (congrArg some (by kernel_rfl))
 f294:=Tryz.func162.trans (congrArg some (by kernel_rfl))
 f295:=Tryz.func163.trans (congrArg some (by kernel_rfl))
 f296:=Tryz.func164.trans (congrArg some (by kernel_rfl))
 f297:=Tryz.func165.trans (congrArg some (by kernel_rfl))
 f298:=Tryz.func166.trans (congrArg some (by kernel_rfl))
 f299:=Tryz.func167.trans (congrArg some (by kernel_rfl))
 f300:=Tryz.func169.trans (congrArg some (by kernel_rfl))
 f301:=Tryz.func170.trans (congrArg some (by kernel_rfl))
 f328:=Tryz.func182.trans (congrArg some (by kernel_rfl))
 f329:=Tryz.func178.trans (congrArg some (by kernel_rfl))
 f330:=Tryz.func179.trans (congrArg some (by kernel_rfl))
 f331:=Tryz.func183.trans (congrArg some (by kernel_rfl))
 f332:=Tryz.func184.trans (congrArg some (by kernel_rfl))
 f343:=Tryz.func187.trans (congrArg some (by kernel_rfl))
 t0:=Tryz.underlying0
 a0:=Tryz.isAgg0
 z0:=Tryz.sizeOf0
 v0:=Tryz.zeroValue0
 t3:=Tryz.underlying3
 a3:=Tryz.isAgg3
 z3:=Tryz.sizeOf3
 v3:=Tryz.zeroValue3
 t4:=Tryz.underlying4
 a4:=Tryz.isAgg4
 z4:=Tryz.sizeOf4
 v4:=Tryz.zeroValue4
 t5:=Tryz.underlying5
 a5:=Tryz.isAgg5
 z5:=Tryz.sizeOf5
 v5:=Tryz.zeroValue5
 t9:=Tryz.underlying9
 a9:=Tryz.isAgg9
 z9:=Tryz.sizeOf9
 v9:=Tryz.zeroValue9
 t28:=Tryz.underlying22
 a28:=Tryz.isAgg22
 z28:=Tryz.sizeOf22
 v28:=Tryz.zeroValue22
 t46:=Tryz.underlying137
 a46:=Tryz.isAgg137
 z46:=Tryz.sizeOf137
 v46:=Tryz.zeroValue137
 t51:=Tryz.underlying176
 a51:=Tryz.isAgg176
 z51:=Tryz.sizeOf176
 v51:=Tryz.zeroValue176
 t53:=Tryz.underlying179
 a53:=Tryz.isAgg179
 z53:=Tryz.sizeOf179
 v53:=Tryz.zeroValue179
 t131:=Tryz.underlying166
 a131:=Tryz.isAgg166
 z131:=Tryz.sizeOf166
 v131:=Tryz.zeroValue166
 t182:=Tryz.underlying223
 a182:=Tryz.isAgg223
 z182:=Tryz.sizeOf223
 v182:=Tryz.zeroValue223
 t183:=Tryz.underlying224
 a183:=Tryz.isAgg224
 z183:=Tryz.sizeOf224
 v183:=Tryz.zeroValue224
 t218:=Tryz.underlying243
 a218:=Tryz.isAgg243
 z218:=Tryz.sizeOf243
 v218:=Tryz.zeroValue243
 t222:=Tryz.underlying247
 a222:=Tryz.isAgg247
 z222:=Tryz.sizeOf247
 v222:=Tryz.zeroValue247
 t228:=Tryz.underlying252
 a228:=Tryz.isAgg252
 z228:=Tryz.sizeOf252
 v228:=Tryz.zeroValue252
 t229:=Tryz.underlying253
 a229:=Tryz.isAgg253
 z229:=Tryz.sizeOf253
 v229:=Tryz.zeroValue253}
def Tryz.F6:Go.Shelf.Ren:=⟨fun|108=>60|n=>n,fun|28=>22|3=>3|0=>0|4=>4|n=>n,fun|n=>n⟩
theorem Tryz.K8:Go.Proofs.Lays.n108 Tryz.prog Tryz.F6:={
 mixed:=by kernel_rfl
 f108:=Tryz.func60.trans (congrArg some (by kernel_rfl))
 t0:=Tryz.underlying0
 a0:=Tryz.isAgg0
 z0:=Tryz.sizeOf0
 v0:=Tryz.zeroValue0
 t3:=Tryz.underlying3
 a3:=Tryz.isAgg3
 z3:=Tryz.sizeOf3
 v3:=Tryz.zeroValue3
 t4:=Tryz.underlying4
 a4:=Tryz.isAgg4
 z4:=Tryz.sizeOf4
 v4:=Tryz.zeroValue4
 t28:=Tryz.underlying22
 a28:=Tryz.isAgg22
 z28:=Tryz.sizeOf22
 v28:=Tryz.zeroValue22}
def Tryz.Bk:Go.Shelf.Ren:=⟨fun|20=>91|n=>n,fun|22=>22|3=>3|4=>4|0=>0|n=>n,fun|n=>n⟩
theorem Tryz.Cr:Go.Proofs.Lays2.n20 Tryz.prog Tryz.Bk:={
 mixed:=by kernel_rfl
 f20:=Tryz.func91.trans (congrArg some (by kernel_rfl))
 t0:=Tryz.underlying0
 a0:=Tryz.isAgg0
 z0:=Tryz.sizeOf0
 v0:=Tryz.zeroValue0
 t3:=Tryz.underlying3
 a3:=Tryz.isAgg3
 z3:=Tryz.sizeOf3
 v3:=Tryz.zeroValue3
 t4:=Tryz.underlying4
 a4:=Tryz.isAgg4
 z4:=Tryz.sizeOf4
 v4:=Tryz.zeroValue4
 t22:=Tryz.underlying22
 a22:=Tryz.isAgg22
 z22:=Tryz.sizeOf22
 v22:=Tryz.zeroValue22
 i3:=by kernel_rfl}
def Tryz.rL:Go.Shelf.Ren:=⟨fun|6=>88|15=>128|14=>127|28=>159|29=>160|20=>151|21=>152|22=>153|23=>154|24=>155|25=>156|26=>157|27=>158|46=>177|47=>178|48=>179|49=>180|50=>181|57=>186|n=>n,fun|22=>42|24=>22|25=>133|3=>3|39=>137|0=>0|53=>176|55=>179|4=>4|46=>224|45=>223|50=>166|5=>5|9=>9|66=>243|70=>247|76=>252|77=>253|n=>n,fun|n=>n⟩
theorem Tryz.Jt:Go.Proofs.SlLaysF.n6 Tryz.prog Tryz.rL:={
 mixed:=by kernel_rfl
 f6:=⟨Tryz.f88.name,fH,Tryz.func88.trans (congrArg some (by kernel_rfl))⟩
 f14:=⟨Tryz.f127.name,fH,Tryz.func127.trans (congrArg some (by kernel_rfl))⟩
 f15:=Tryz.func128.trans (congrArg some (by kernel_rfl))
 f20:=⟨Tryz.f151.name,fH,Tryz.func151.trans (congrArg some (by kernel_rfl))⟩
 f21:=⟨Tryz.f152.name,fH,Tryz.func152.trans (congrArg some (by kernel_rfl))⟩
 f22:=⟨Tryz.f153.name,fH,Tryz.func153.trans (congrArg some (by kernel_rfl))⟩
 f23:=⟨Tryz.f154.name,fH,Tryz.func154.trans (congrArg some (by kernel_rfl))⟩
 f24:=⟨Tryz.f155.name,fH,Tryz.func155.trans (congrArg some (by kernel_rfl))⟩
 f25:=⟨Tryz.f156.name,fH,Tryz.func156.trans (congrArg some (by kernel_rfl))⟩
 f26:=⟨Tryz.f157.name,fH,Tryz.func157.trans (congrArg some (by kernel_rfl))⟩
 f27:=⟨Tryz.f158.name,fH,Tryz.func158.trans (congrArg some (by kernel_rfl))⟩
 f28:=Tryz.func159.trans (congrArg some (by kernel_rfl))
 f29:=Tryz.func160.trans (congrArg some (by kernel_rfl))
 f46:=⟨Tryz.f177.name,fH,Tryz.func177.trans (congrArg some (by kernel_rfl))⟩
 f47:=Tryz.func178.trans (congrArg some (by kernel_rfl))
 f48:=Tryz.func179.trans (congrArg some (by kernel_rfl))
 f49:=⟨Tryz.f180.name,fH,Tryz.func180.trans (congrArg some (by kernel_rfl))⟩
 f50:=⟨Tryz.f181.name,fH,Tryz.func181.trans (congrArg some (by kernel_rfl))⟩
 f57:=⟨Tryz.f186.name,fH,Tryz.func186.trans (congrArg some (by kernel_rfl))⟩
 t0:=Tryz.underlying0
 a0:=Tryz.isAgg0
 z0:=Tryz.sizeOf0
 v0:=Tryz.zeroValue0
 t3:=Tryz.underlying3
 a3:=Tryz.isAgg3
 z3:=Tryz.sizeOf3
 v3:=Tryz.zeroValue3
 t4:=Tryz.underlying4
 a4:=Tryz.isAgg4
 z4:=Tryz.sizeOf4
 v4:=Tryz.zeroValue4
 t5:=Tryz.underlying5
 a5:=Tryz.isAgg5
 z5:=Tryz.sizeOf5
 v5:=Tryz.zeroValue5
 t9:=Tryz.underlying9
 a9:=Tryz.isAgg9
 z9:=Tryz.sizeOf9
 v9:=Tryz.zeroValue9
 t22:=Tryz.underlying42
 a22:=Tryz.isAgg42
 z22:=Tryz.sizeOf42
 v22:=Tryz.zeroValue42
 a24:=Tryz.isAgg22
 z24:=Tryz.sizeOf22
 t25:=Tryz.underlying133
 a25:=Tryz.isAgg133
 z25:=Tryz.sizeOf133
 v25:=Tryz.zeroValue133
 t39:=Tryz.underlying137
 a39:=Tryz.isAgg137
 z39:=Tryz.sizeOf137
 v39:=Tryz.zeroValue137
 t45:=Tryz.underlying223
 a45:=Tryz.isAgg223
 z45:=Tryz.sizeOf223
 v45:=Tryz.zeroValue223
 t46:=Tryz.underlying224
 a46:=Tryz.isAgg224
 z46:=Tryz.sizeOf224
 v46:=Tryz.zeroValue224
 t50:=Tryz.underlying166
 a50:=Tryz.isAgg166
 z50:=Tryz.sizeOf166
 v50:=Tryz.zeroValue166
 t53:=Tryz.underlying176
 a53:=Tryz.isAgg176
 z53:=Tryz.sizeOf176
 v53:=Tryz.zeroValue176
 t55:=Tryz.underlying179
 a55:=Tryz.isAgg179
 z55:=Tryz.sizeOf179
 v55:=Tryz.zeroValue179
 t66:=Tryz.underlying243
 a66:=Tryz.isAgg243
 z66:=Tryz.sizeOf243
 v66:=Tryz.zeroValue243
 t70:=Tryz.underlying247
 a70:=Tryz.isAgg247
 z70:=Tryz.sizeOf247
 v70:=Tryz.zeroValue247
 t76:=Tryz.underlying252
 a76:=Tryz.isAgg252
 z76:=Tryz.sizeOf252
 v76:=Tryz.zeroValue252
 t77:=Tryz.underlying253
 a77:=Tryz.isAgg253
 z77:=Tryz.sizeOf253
 v77:=Tryz.zeroValue253}
def Tryz.Ju:Go.Shelf.Ren:=⟨fun|14=>90|n=>n,fun|22=>42|24=>22|29=>22|32=>133|3=>3|4=>4|35=>137|0=>0|n=>n,fun|n=>n⟩
theorem Tryz.aaX:Go.Proofs.SlLaysG2.n14 Tryz.prog Tryz.Ju:={
 mixed:=by kernel_rfl
 f14:=⟨Tryz.f90.name,fH,Tryz.func90.trans (congrArg some (by kernel_rfl))⟩
 t0:=Tryz.underlying0
 a0:=Tryz.isAgg0
 z0:=Tryz.sizeOf0
 v0:=Tryz.zeroValue0
 t3:=Tryz.underlying3
 a3:=Tryz.isAgg3
 z3:=Tryz.sizeOf3
 v3:=Tryz.zeroValue3
 t4:=Tryz.underlying4
 a4:=Tryz.isAgg4
 z4:=Tryz.sizeOf4
 v4:=Tryz.zeroValue4
 t22:=Tryz.underlying42
 a22:=Tryz.isAgg42
 z22:=Tryz.sizeOf42
 v22:=Tryz.zeroValue42
 a24:=Tryz.isAgg22
 z24:=Tryz.sizeOf22
 a29:=Tryz.isAgg22
 z29:=Tryz.sizeOf22
 t32:=Tryz.underlying133
 a32:=Tryz.isAgg133
 z32:=Tryz.sizeOf133
 v32:=Tryz.zeroValue133
 t35:=Tryz.underlying137
 a35:=Tryz.isAgg137
 z35:=Tryz.sizeOf137
 v35:=Tryz.zeroValue137}
end Go.Proofs
namespace Go.Proofs.YtibacilhkciihaaGreatDoor
open Go.RowKit Go.Shelf Go.Lib Go.Sort
theorem wY(xs:List Int):(xs.mergeSort fun x y=>decide (x<=y))=Cz.fS Cz.dF xs:=by
 refine(Cz.RE Cz.gL ?_ (List.mergeSort_perm xs _)).symm;refine(List.pairwise_mergeSort (fun a b c h1 h2=>?_) (fun a b=>?_) xs).imp (fun {a b} h=>?_)
 ·simp at*;omega
 ·simp;omega
 ·unfold Cz.dF;simp at h;(repeat' split)<;>omega
theorem K9{a b:Int}:Cz.dF a b<0↔a<b:=by unfold Cz.dF;(repeat' split)<;>omega
theorem YB{p:Prop}(h:p:=by
  have he:zs[m]=zs[m-1]:=by
   apply Classical.byContradiction;intro hne;exact hk zT75
  rw[hx,he]
  exact List.mem_take_iff_getElem.2 ⟨m-1,aB,rfl⟩):p:=h
theorem zC(zs:List Int)(h:zs.Pairwise (fun a b=>¬Cz.dF b a<0)):Lib.compact zs=Cz.cT Cz.dF zs:=by
 have hle:∀i j (h1:i<zs.length) (h2:j<zs.length),i<j->zs[i]<=zs[j]:=fun i j h1 h2 hij=>by
  have:=List.pairwise_iff_getElem.1 h i j h1 h2 hij;rw[K9] at this;omega
 have key:∀m,m<=zs.length->(compactUpTo zs.toArray m).Pairwise (Cz.dF · ·<0)/\∀x,x∈compactUpTo zs.toArray m↔x∈zs.take m:=by
  intro m;induction m with
  |zero=>intro _;simp[compactUpTo]
  |succ m ih=>
   intro hm
   obtain⟨h1,h2⟩:=ih aB
   have hg:zs.toArray[m]! =zs[m]:=by simp[show m<zs.length by omega]
   rw[compactUpTo_succ,CY aB]
   by_cases hk:keeps zs.toArray m=true
   ·rw[if_pos hk,hg]
    refine⟨List.pairwise_append.2 ⟨h1,bp,fun x hx y hy=>?_⟩,fun x=>by rw[List.mem_append,List.mem_append,h2]⟩;rw[mL.1 hy,K9];obtain⟨i,hi,rfl⟩:=List.getElem_of_mem ((h2 x).1 hx);rw[LB] at hi;rw[List.getElem_take];have h3:m≠0:=aB
    have hg1:zs.toArray[m-1]! =zs[m-1]:=by simp[show m-1<zs.length by omega]
    have hne:zs[m]≠zs[m-1]:=by
     unfold keeps at hk;rw[hg,hg1] at hk;exact(of_decide_eq_true hk).resolve_left h3
    have:=hle (m-1) m aB aB aB;by_cases e:i=m-1
    ·subst e;omega
    ·have:=hle i (m-1) aB aB aB;omega
   ·rw[if_neg hk,List.append_nil]
    refine⟨h1,fun x=>?_⟩;rw[h2,List.mem_append,mL];refine⟨.inl,fun hx=>hx.elim id (fun hx=>?_)⟩;have h3:m≠0:=fun e=>hk (by simp[keeps,e]);have hg1:zs.toArray[m-1]! =zs[m-1]:=by simp[show m-1<zs.length by omega]
    exact YB
 obtain⟨h1,h2⟩:=key zs.length aH;rw[List.take_length] at h2;exact Cz.nI Cz.gL h1 (Cz.gG Cz.gL) fun x=>by rw[Cz.ja Cz.gL];exact h2 x
theorem Jv(enc:Int->Value)(w:World)(g n:Nat)(d:Array Int)(os:Array Obj){b:Nat}(hb:b<w.heap.size)(hne:b≠g):(grow (putRow enc (Sort.ahead w n) g 0 d) os).heap[b]?=w.heap[b]?:=by
 rw[heap_grow_old _ _ (by simpa [putRow,mapBlock] using hb)];unfold putRow mapBlock;simp only[Array.getElem?_modify,heap_ahead];rw[if_neg (Ne.symm hne)]
theorem F7(enc:Int->Value)(w:World)(g n:Nat)(d:Array Int)(os:Array Obj){c:Array Value}{e:TypeId}{fr:Nat×Nat}(h:w.heap[g]?=some (.cells c e fr)):(grow (putRow enc (Sort.ahead w n) g 0 d) os).heap[g]?=some (.cells (putCells enc 0 d c) e fr):=by
 have hb:=(Array.getElem?_eq_some_iff.1 h).1;rw[heap_grow_old _ _ (by simpa [putRow,mapBlock] using hb)];unfold putRow mapBlock;simp only[Array.getElem?_modify,heap_ahead,if_true,h];rfl
theorem zD(enc:Int->Value)(w:World)(g n:Nat)(d:Array Int)(os:Array Obj):Turns (·=g) w (grow (putRow enc (Sort.ahead w n) g 0 d) os):=
 ⟨rfl,rfl,rfl,by simp[putRow,mapBlock],fun b hb hlt=>Jv enc w g n d os hlt hb⟩
theorem Ct{w:World}{g:Nat}{cur:Array Value}{xs:List Int}(hg:w.heap[g]?=some (.cells cur 3 (0,0)))(ht:cur.toList.take xs.length=xs.map (Value.int .i64)):Holds (Value.int .i64) w g 0 xs.toArray:=fun j hj=>by
 have hj':j<xs.length:=mP
 have e4:cur[j]?=(xs.map (Value.int .i64))[j]?:=by
  rw[<-ht,List.getElem?_take,if_pos hj'];simp
 have e5:(xs.map (Value.int .i64))[j]?=some (.int .i64 xs[j]):=by simp[hj']
 rw[e5] at e4;have e6:xs.toArray[j]! =xs[j]:=abO
 rw[Nat.zero_add,e6];exact⟨by simp[World.cell?,hg,e4],by simp[World.frozen?,hg]⟩
theorem RT{cur:Array Value}{ys:List Int}{k:Nat}(hk:ys.length<=k)(hc:k<=cur.size)(zs:List Int)(hz:zs.length=k)(hzs:zs.take ys.length=ys):(putCells (Value.int .i64) 0 zs.toArray cur).toList.take ys.length=ys.map (Value.int .i64):=by
 apply List.ext_getElem?;intro j;rw[List.getElem?_take];by_cases hj:j<ys.length
 ·rw[if_pos hj]
  have Yg:j<cur.size:=aB
  simp only[putCells,Array.getElem?_toList,Array.getElem?_mapIdx,Array.getElem?_eq_getElem Yg]
  have hy:ys[j]?=zs[j]?:=by
   have:=congrArg (fun l=>l[j]?) hzs;simp only[List.getElem?_take,if_pos hj] at this;exact this.symm
  have hjz:j<zs.length:=aB
  rw[List.getElem?_map,hy,lE hjz];simp[hjz,getElem!_pos]
 ·rw[if_neg hj,List.getElem?_eq_none lC]
theorem YC{p:Prop}(h:p:=by
  exact⟨this.os,this.tape,this.output,this.size,fun b hb hl=>this.block b (fun e=>hb tL) hl⟩):p:=h
theorem Cu(S:Nat->Prop)(xs:List Int)(hn:xs.length<=1000000)(v:Value)(w:World)(h:bg S w v xs):
  Calls Tryz.prog 96 #[v] w fun e w'=>e=.returned (.tuple #[])/\bg S w' v (Cz.fS Cz.dF xs)/\Turns (fun b=>some b=v.ownBlock) w w':=by
 obtain⟨⟨h1,h1'⟩,O4⟩:=h;rw[<-wY];rcases h1' with⟨rfl,h00⟩|⟨g,cap,cur,rfl,hbg,hgr,hroom,hcm,hsz,RU⟩
 ·obtain rfl:xs=[]:=List.eq_nil_of_length_eq_zero h00
  refine Calls.mono (Any.slices_Sort_int_none Tryz.K7 none 0 w) ?_;rintro e w' ⟨rfl,rfl⟩;exact⟨rfl,by rw[show ([]:List Int).mergeSort (fun x y=>decide (x<=y))=[] by simp];exact bg.nil _ _,Turns.refl _ _⟩
 ·have hlt:=(Array.getElem?_eq_some_iff.1 hgr).1
  simp only[Nat.mul_one] at RU hsz;have hH:=Ct hgr RU;have hS:=Any.slices_Sort_int Tryz.K7 g 0 cap xs w hH hlt aB;refine Calls.mono hS ?_;rintro e w' ⟨rfl,n,os,rfl⟩;have hlen:(xs.mergeSort fun x y=>decide (x<=y)).length=xs.length:=List.length_mergeSort _;refine⟨rfl,⟨⟨bp,.inr ⟨g,cap,putCells (Value.int .i64) 0 (xs.mergeSort fun x y=>decide (x<=y)).toArray cur,by rw[hlen],hbg,F7 _ w g n _ os hgr,by rw[hlen];exact hroom,hcm,by simp[putCells,hsz],?_⟩⟩,O4⟩,?_⟩
  ·rw[Nat.mul_one]
   exact RT (k:=(xs.mergeSort fun x y=>decide (x<=y)).length) aH (by rw[hlen,hsz];exact hroom) _ rfl (zTl aH)
  ·have:=zD (Value.int .i64) w g n (xs.mergeSort fun x y=>decide (x<=y)).toArray os
   exact YC
theorem DC(S:Nat->Prop)(xs:List Int)(hn:xs.length<=1000000)(v:Value)(w:World)(h:bg S w v xs):
  Calls Tryz.prog 91 #[v] w fun e w'=>∃a c,e=.returned (.slice a (Lib.compact xs).length c)/\Turns (fun b=>some b=v.ownBlock) w w':=by
 obtain⟨⟨h1,h1'⟩,O4⟩:=h;rcases h1' with⟨rfl,h00⟩|⟨g,cap,cur,rfl,hbg,hgr,hroom,hcm,hsz,RU⟩
 ·obtain rfl:xs=[]:=List.eq_nil_of_length_eq_zero h00
  refine Calls.mono (Any.slices_Compact_int_empty Tryz.Cr none 0 w) ?_;rintro e w' ⟨rfl,rfl⟩;exact⟨none,0,rfl,Turns.refl _ _⟩
 ·have hlt:=(Array.getElem?_eq_some_iff.1 hgr).1
  simp only[Nat.mul_one] at RU hsz;have hH:=Ct hgr RU;have hS:=Any.slices_Compact_int Tryz.Cr g 0 cap xs w hH aB hroom;refine Calls.mono hS ?_;rintro e w' ⟨rfl,n,rfl⟩;have hle:=Lib.compact_length_le xs;have hg:=F7 (Value.int .i64) w g n (Lib.compact xs++List.replicate (xs.length-(Lib.compact xs).length) 0).toArray #[] hgr;have ht:=zD (Value.int .i64) w g n (Lib.compact xs++List.replicate (xs.length-(Lib.compact xs).length) 0).toArray #[];rw[grow_empty] at hg ht;exact⟨_,_,rfl,⟨ht.os,ht.tape,ht.output,ht.size,fun b hb hl=>ht.block b (fun e=>hb tL) hl⟩⟩
end Go.Proofs.YtibacilhkciihaaGreatDoor
namespace Go.Proofs.YtibacilhkciihaaGreatDoor
open Go.RowKit
attribute [local go_sem] Oper.semAt_some
section
variable {P:Program} {t e:TypeId} {size bytes:Nat} {w:World}
theorem DE{F:Fence}{nf:Nat}{ops:Array Oper}{rest:List Oper}{o:Oper}{a:Act}{Q:Exit->Act->World->Prop}(hgd:o.guard=none)(s x:Operand)
  (ho:o.op=.call {callee:=.builtin .append,args:=#[s,x],argTypes:=#[t,t]})(hT:jh P t e size bytes)
  {base:Nat}{v:Value}{n:Nat}{xs:List Value}(hs:a.eval s=v)(hown:w.ownsRow base e size v n xs)
  (ao:Option Addr)(m c:Nat)(hx:a.eval x=.slice ao m c)(hok:dX ao m)(news:List Value)(hl:news.length=m*size)
  (hnews:∀j u,news[j]?=some u->w.cell? ⟨bL ao,bP ao+j,none⟩=some u)(h1:∀u∈news,u.oneCell'=true)
  (hsmall:n+m<=1000000000)(hbase:base<=w.heap.size)
  (h:∀v' w',w'.ownsRow base e size v' (n+m) (xs++news)->w.grownBy w' v.ownBlock->(v'.ownBlock=v.ownBlock\/v'.ownBlock=some w.heap.size)->wpListIn F nf P ops Q rest (a.put o.dst v') w'):
  wpListIn F nf P ops Q (o::rest) a w:=by
 obtain⟨v',w',hr,h2,h3,h4⟩:=CV o.type hT hown ao m c hok news hl hnews h1 hsmall hbase;refine wpListIn_plain hgd fun K hK'=>?_;unfold Oper.wpIn;refine⟨?_,?_⟩
 ·simp[Oper.about,ho,resolve,Target.leads,Sem.run_pure]
 ·rw[Oper.semAt_plain F _ _ (by rw[ho];intro c hc';cases hc')]
  simp[execOp,ho,resolve,invoke,builtin,hs,hx,hr,Result.andThen];exact hK' _ _ (h v' w' h2 h3 h4)
end
theorem YD{p:Prop}(h:p:=by
  refine h v' w' ⟨J2,fun b hb'=>?_⟩ ((Turns.aS ha).trans (Turns.fI g2 fun b hb'=>hb'.symm))
  rcases g3 with g3|g3
  ·rw[g3] at hb';exact .inl ⟨hown.2 b hb',(hown.1.lt b hb').2⟩
  ·rw[g3] at hb';exact .inr (by have:=mM hb';have:=ha.size;omega)):p:=h
theorem zF{F:Fence}{nf:Nat}{P:Program}{t:TypeId}{bytes:Nat}{w:World}{ops:Array Oper}{rest:List Oper}{o:Oper}{a:Act}{Q:Exit->Act->World->Prop}(hgd:o.guard=none)(s x:Operand)
  (ho:o.op=.call {callee:=.builtin .append,args:=#[s,x],argTypes:=#[t,t]})(hT:jh P t 3 1 bytes)
  {S:Nat->Prop}{v:Value}{xs:List Int}(hs:a.eval s=v)(hown:bg S w v xs){y:Int}{e':TypeId}
  (hx:a.eval x=.slice (some ⟨w.heap.size,0,none⟩) 1 1)(hsmall:xs.length+1<=1000000000)
  (h:∀v' w',bg (Grow S w.heap.size) w' v' (xs++[y])->Turns (fun b=>some b=v.ownBlock) w w'->wpListIn F nf P ops Q rest (a.put o.dst v') w'):
  wpListIn F nf P ops Q (o::rest) a (w.alloc (.cells #[.int .i64 y] e')):=by
 have ha:BL w (w.alloc (.cells #[.int .i64 y] e')):=aF.alloc aH _;refine DE hgd s x ho hT hs (hown.1.alloc _) _ 1 1 hx (fun _=>⟨_,_,rfl⟩) [.int .i64 y] rfl (gY w #[.int .i64 y] e') (by simp[Value.oneCell']) hsmall (Nat.zero_le _) (fun v' w' g1 g2 g3=>?_);exact YD
theorem F8(xs:List Int)(n0 b l:Nat)(v:Value)(W0:World)(A:Nat->Obj->Prop)(hs:bq (·<n0) W0 v xs)(hb:W0.heap[b]?=some (.cells #[v] 22 (0,0)))(hbn:b<n0)
  (J Jx:List Int->World->Prop)(W:World)(hW:Below n0 W0 W)
  (hY:∀pre (x:Int) W1,J pre W1->pre++[x]<+:xs->YieldAt Fence.wide 0 Tryz.prog l #[.int .i64 x] W1 fun e W'=>
   aM A n0 W1 W'/\((e=.returned (.bool true)/\J (pre++[x]) W')\/(e=.returned (.bool false)/\Jx (pre++[x]) W')))
  (h0:J [] W):
  Calls Tryz.prog 130 #[.func (.yield l) #[] #[],.pointer (some ⟨b,0,none⟩)] W fun e W'=>(∃v,e=.returned v)/\((∃ys,ys=xs/\J ys W')\/∃ys,Jx ys W'):=by
 have c0:=(one_cell ((hW.block b hbn).trans hb)).1;obtain⟨a,cap,rfl,hok,hc,hm⟩:=hs.form;have HS:=hid (fun(X:World) (hX:Below n0 W0 X)=>hs.keep (aD.aS hX (fun _ h=>h)));have Yd:=hid (And.intro hW h0);have HY:=hid hY;clear hY h0 hs hb hW;rw[<-callsIn_wide (n:=1)];refine callsIn_of_wp Tryz.func130 rfl trivial ?_ rfl;simp only[Tryz.ntmps130,List.size_toArray,List.length_cons,List.length_nil,Nat.reduceAdd,Nat.reduceSub,Array.replicate_succ,Array.replicate_zero,List.push_toArray,List.append_toArray,List.nil_append,List.cons_append];gi_wp2;clear c0;gi_loopw [7] (fun c wr=>∃k:Nat,k<=xs.length/\c=.int .i64 k/\Hid (Below n0 W0 wr/\J (xs.take k) wr)) (fun c _=>xs.length-(intOf c).toNat);case atStart=>exact⟨0,aB,rfl,hid ⟨Yd.out.1,by simpa using Yd.out.2⟩⟩
 case round=>
  obtain⟨k,hk,rfl,HR⟩:=hrel;by_cases hlt:k<xs.length
  ·obtain⟨u,hu1, -,mU⟩:=(HS.out wr HR.out.1).at hlt
   obtain rfl:u=.int .i64 xs[k]:=mU;have hk0:(0:Int)<=(k:Int):=aB
   have hk1:(k:Int)<(xs.length:Int):=aB
   have hts:xs.take (k+1)=xs.take k++[xs[k]]:=CY hlt;have Oa:=hid hts;have hpre:xs.take k++[xs[k]]<+:xs:=by rw[<-hts];exact List.take_prefix _ _
   obtain⟨fn,tmps,assign,body,K0,hR⟩:=YieldAt.gI (m':=0) rfl (HY.out _ xs[k] wr HR.out.2 hpre);have vU:=hid hR;clear hts hpre hR;generalize xs[k]=x0 at*;gi_wp2;refine(RoundIn.gI rfl vU.out).mono ?_;rintro e W2 ⟨ht2,hres⟩;have hk2:=HR.out.1.trans ht2.1;rw[<-Oa.out] at hres;rcases hres with⟨rfl,hj2⟩|⟨rfl,hj2⟩
   ·have H2:=hid (And.intro hk2 hj2)
    clear ht2 hk2 hj2 vU K0 Oa hu1;gi_wp2;go_roundw;case rel=>exact⟨k+1,aB,by go_num,H2⟩
    simp[intOf];omega
   ·have H2:=hid hj2
    clear ht2 hk2 hj2 vU K0 Oa hu1;exact Rf
  ·obtain rfl:xs.length=k:=by omega
   have H2:=hid HR.out.2;gi_wp2;go_end0;exact⟨⟨_,rfl⟩,.inl ⟨_,rfl,by simpa using H2.out⟩⟩
theorem F9(xs:List Int)(n0 nB b:Nat)(v:Value)(bA:Nat->Obj->Prop)(w:World)(hn0:n0<=w.heap.size)(hs:bq (·<n0) w v xs)(hb:w.heap[b]?=some (.cells #[v] 22 (0,0)))(hbn:b<n0):
  qO (α:=Int) Tryz.prog n0 nB 130 #[.pointer (some ⟨b,0,none⟩)] (fun x=> #[.int .i64 x]) (fun pre x _=>pre++[x]<+:xs) bA (fun _ _=>False) (fun ys _=>ys=xs) w:=by
 intro l J Jx W C4 hJ hJx hY h0;exact F8 xs n0 b l v w _ hs hb hbn J Jx W (C4.mono hn0) hY h0
theorem zG(a:Option Addr)(n c:Nat)(w:World):Calls Tryz.prog 93 #[.slice a n c] w fun e w'=>e=.returned (.func (.func 130) #[] #[.pointer (some ⟨w.heap.size,0,none⟩)])/\w'=w.alloc (.cells #[.slice a n c] 22):=by
 go_enter Tryz.func93,Tryz.ntmps93;go_wp2;go_ret;exact⟨rfl,rfl⟩
theorem qQ{A:Nat->Obj->Prop}{n0:Nat}{w w':World}{base:Nat}{e:TypeId}{size:Nat}{v:Value}{n:Nat}{us:List Value}(h:w.ownsRow base e size v n us)(ht:aM A n0 w w')(hA:∀b o,A b o->v.ownBlock=some b->book o):w'.ownsRow base e size v n us:=by
 refine⟨h.1,?_⟩;rcases h.2 with h2|⟨g,cap,cur,rfl,hb,hg,r⟩
 ·exact .inl h2
 ·exact .inr ⟨g,cap,cur,rfl,hb,ht.2 _ _ hg (fun ha=>by have:=hA _ _ ha rfl;simp[book] at this),r⟩
theorem zH{w:World}{base:Nat}{e:TypeId}{size:Nat}{v:Value}{n:Nat}{us:List Value}(h:w.ownsRow base e size v n us){b:Nat}{o:Obj}(hb:v.ownBlock=some b)(ho:w.heap[b]?=some o):¬book o:=by
 rcases h.2 with h2|⟨g,cap,cur,rfl, -,hg, -⟩
 ·rw[h2.1] at hb;cases hb
 ·obtain rfl:g=b:=mM hb
  rw[hg] at ho;cases ho;simp[book]
theorem bg.turn{A:Nat->Obj->Prop}{n0:Nat}{S:Nat->Prop}{w w':World}{v:Value}{xs:List Int}(h:bg S w v xs)(ht:aM A n0 w w')(hA:∀b o,A b o->v.ownBlock=some b->book o):bg S w' v xs:=⟨qQ h.1 ht hA,h.2⟩
theorem zI{A:Nat->Obj->Prop}{n0:Nat}{w w':World}{b:Nat}{c:Array Value}{e:TypeId}{f:Nat×Nat}(h:w.heap[b]?=some (.cells c e f))(ht:aM A n0 w w')(hA:∀o,A b o->book o):w'.heap[b]?=some (.cells c e f):=
 ht.2 _ _ h (fun ha=>by have:=hA _ ha;simp[book] at this)
theorem Bl(xs:List Int)(hxs:xs.length<=1000000)(b:Nat)(v:Value)(w:World)(hs:bq (·<w.heap.size) w v xs)(hb:w.heap[b]?=some (.cells #[v] 22 (0,0))):
  Calls Tryz.prog 161 #[.slice none 0 0,.func (.func 130) #[] #[.pointer (some ⟨b,0,none⟩)]] w fun e w'=>∃x,e=.returned x/\bg (w.heap.size<=·) w' x xs/\BL w w':=by
 have hbl:=aC hb;obtain⟨w1,hw1⟩:=bB (w.alloc (.cells #[.slice none 0 0] 22));have hb1:BL w w1:=Ab
 have hz1:w1.heap.size=w.heap.size+1:=jH
 have Ga:Hid (w1.heap[w.heap.size]?=some (.cells #[.slice none 0 0] 22 (0,0))):=hid CM;have Du:=hid (F9 xs w.heap.size w1.heap.size b v (fun x o=>w.heap.size<=x/\¬book o) w1 aB (hs.keep (aD.aS hb1 (fun _ h=>h))) ((hb1.block b hbl).trans hb) hbl);have HW1:=hid hw1;have bT:=hid hb1;have HZ:=hid hz1;clear hs hb hw1 hb1;rw[<-callsIn_wide (n:=5)];refine callsIn_of_wp_marks Tryz.func161 rfl trivial ?_ rfl;simp only[Tryz.ntmps161,List.size_toArray,List.length_cons,List.length_nil,Nat.reduceAdd,Nat.reduceSub,Array.replicate_succ,Array.replicate_zero,List.push_toArray,List.append_toArray,List.nil_append,List.cons_append];rw[wpIn_wide];clear hz1;go_wp2;rw[<-HW1.out];rw[<-wpIn_wide (n:=5)]
 refine mB (α:=Int) (n0:=w.heap.size) (gf:=130) rfl (bH Tryz.func130 (by kernel_rfl) rfl) (fun _=>rfl) Du.out (by have:=HZ.out;omega) (fun _ _ h=>h.elim) (fun _ _ h=>h.2)
  (fun pre Y=>∃u,Y.heap[w.heap.size]?=some (.cells #[u] 22 (0,0))/\bg (fun x=>w.heap.size<x) Y u pre/\BL w Y) (fun _ _=>False)
  (fun pre A B h ht=> ?hI) (fun _ _ _ h _=>h) (fun _ _ _ h _=>h) ?hstart ?fO ?hdone ?hstop
 case hI=>
  obtain⟨u,h1,h2,h3⟩:=h;exact⟨u,zI h1 ht (fun o ho=>ho.elim False.elim (fun h=>h.2)),h2.turn ht (fun _ _ ho _=>ho.elim False.elim (fun h=>h.2)),h3.trans ht.1⟩
 case hstart=>exact⟨_,Ga.out,bg.nil _ _,bT.out⟩
 case fO=>
  rintro l pre y Y hlr hI Vl;simp only[List.zip_toArray,List.zip_cons_cons,List.zip_nil_left];have HGp:=hid Vl;have HI:=hid hI;clear hI Vl;gi_wp2;refine⟨aM.refl _ _ _,fun Y2 ht2 hs2 hl2=>?_⟩;obtain⟨u,h1,h2,h3⟩:=HI.out;have h1':=zI h1 ht2 (fun o ho=>ho.2);have h2':=h2.turn ht2 (fun _ _ ho _=>ho.2);obtain⟨au,nu,cu,rfl⟩:∃a n c,u=.slice a n c:=by obtain⟨a,c,e,_⟩:=(bg.sl h2').form;exact⟨_,_,_,e⟩
  have c1:=(one_cell h1').1;have c1f:=(one_cell h1').2;have HC:=hid h1';have HI2:=hid h2';have bX:=hid (h3.trans ht2.1);have hyz:=aC h1'
  have hlen:pre.length+1<=1000000000:=by
   have:=HGp.out.length_le;simp at this;omega
  clear h1 h2 h3 h1' h2' ht2 hs2 hl2 HI;gi_wp2_with (gi_at_builtin;go_must (refine zF rfl _ _ rfl Tryz.rZ rfl HI2.out rfl hlen ?_));intro v' w8 Bo jD;have hc8:w8.heap[w.heap.size]?=some (.cells #[.slice au nu cu] 22 (0,0)):=(jD.block _ (fun e=>by have:=HI2.out.2 _ e.symm;omega) hyz).trans HC.out;obtain⟨a',n',c',rfl⟩:∃a n c,v'=.slice a n c:=Tr
  have hT8:aM (fun x o=>w.heap.size<=x/\¬book o) w.heap.size Y2 w8:=aM.dD jD aB (fun x hx=>by have:=HI2.out.2 _ hx.symm;omega) (fun x o hx ho=>⟨by have:=HI2.out.2 _ hx.symm;omega,zH HI2.out.1 hx.symm ho⟩);have Rl:aM (fun x o=>w.heap.size<=x/\¬book o) w.heap.size Y2 (w8.setCell ⟨w.heap.size,0,none⟩ (.slice a' n' c')):=aM.setCell (p:=⟨w.heap.size,0,none⟩) hT8 hc8 ⟨aH,xL⟩ aH _
  have hI9:bg (fun x=>w.heap.size<x) (w8.setCell ⟨w.heap.size,0,none⟩ (.slice a' n' c')) (.slice a' n' c') (pre++[y]):=by
   have hS:∀x,Grow (fun x=>w.heap.size<x) Y2.heap.size x->w.heap.size<x:=fun x hx=>hx.elim (fun h=>h.1) (fun h=>lg hyz h);refine aX.mono (aX.keep Bo (fun x hx hlt=>jQ _ ⟨w.heap.size,0,none⟩ _ _ (fun e=>?_))) (fun x _ hx=>hS x hx);have h1:=hS x hx;have h2:x=w.heap.size:=e;omega
  have HQ:Hid (QS (fun x o=>w.heap.size<=x/\¬book o) w.heap.size (fun pre Y=>∃u,Y.heap[w.heap.size]?=some (.cells #[u] 22 (0,0))/\bg (fun x=>w.heap.size<x) Y u pre/\BL w Y) (fun _ _=>False) (pre++[y]) Y2 .normal {tmps:=#[],defers:=[]} (w8.setCell ⟨w.heap.size,0,none⟩ (.slice a' n' c'))):=
   hid ⟨Rl,_,one_set _ hc8,hI9,bX.out.trans Rl.1⟩
  have c8:=(one_cell hc8).1;have c8f:=(one_cell hc8).2;clear Bo jD hc8 hT8 Rl c1 c1f;gi_wp2;exact HQ.out
 case hdone=>
  rintro D ys W hD rfl ⟨u,h1,h2,h3⟩ hk;obtain⟨au,nu,cu,rfl⟩:∃a n c,u=.slice a n c:=by obtain⟨a,c,e,_⟩:=(bg.sl h2).form;exact⟨_,_,_,e⟩
  have c1:=(one_cell h1).1;have HD:Hid (Marks w.heap.size W.heap.size [{target:=.collected D,args:=#[]}] W):=hid (Marks.push (Marks.nil _ w1.heap.size _) hD (by have:=HZ.out;omega) hk);have HE:Hid (∀w',aM (bF w.heap.size) w.heap.size W w'->bg (w.heap.size<=·) w' (.slice au nu cu) ys/\BL w w'):=hid (fun w' ht=>⟨aX.mono (h2.turn ht (fun _ _ ho _=>ho.2)) (fun x _ hx=>by have h9:w.heap.size<x:=hx;show w.heap.size<=x;omega),h3.trans ht.1⟩);clear h1 h2 h3 hk hD;go_wp2;refine kV (v:=.slice au nu cu) HD.out (fun w' ht=>⟨?_,?_⟩)
  ·simp[results,Tryz.results161,go_sem]
  ·obtain⟨k1,k2⟩:=HE.out w' ht
   exact⟨_,rfl,k1,k2⟩
 case hstop=>rintro _ _ _ _ h _;exact h.elim
abbrev adK(b:Nat):Value:=.func (.func 130) #[] #[.pointer (some ⟨b,0,none⟩)]
theorem Gb(xs:List Int)(hxs:xs.length<=1000000)(b:Nat)(v:Value)(w:World)(hs:bq (·<w.heap.size) w v xs)(hb:w.heap[b]?=some (.cells #[v] 22 (0,0))):
  Calls Tryz.prog 129 #[adK b] w fun e w'=>∃x,e=.returned x/\bg (w.heap.size<=·) w' x xs/\BL w w':=by
 have H:=hid (Bl xs hxs b v w hs hb);clear hs hb;go_enter Tryz.func129,Tryz.ntmps129;go_wp2_with fail;refine H.out.mono ?_;rintro e w' ⟨x,rfl,hI,hb⟩;obtain⟨a,c,rfl, -⟩:=(bg.sl hI).form;have HI:=hid hI;have HB:=hid hb;clear hI hb;go_wp2;go_ret;exact⟨_,rfl,HI.out,HB.out⟩
theorem zJ(xs:List Int)(hxs:xs.length<=1000000)(b:Nat)(v:Value)(w:World)(hs:bq (·<w.heap.size) w v xs)(hb:w.heap[b]?=some (.cells #[v] 22 (0,0))):
  Calls Tryz.prog 92 #[adK b] w fun e w'=>∃x,e=.returned x/\bg (w.heap.size<=·) w' x (Cz.fS Cz.dF xs)/\BL w w':=by
 have H:=hid (Gb xs hxs b v w hs hb);clear hs hb;go_enter Tryz.func92,Tryz.ntmps92;go_wp2_with fail;refine H.out.mono ?_;rintro e w1 ⟨x,rfl,hI,hb⟩;have HB:=hid hb;have HS:=hid (Cu _ xs hxs x w1 hI);have HO:=hid hI.2;obtain⟨a,c,rfl, -⟩:=(bg.sl hI).form;clear hI hb;go_wp2_with fail;refine HS.out.mono ?_;rintro e w2 ⟨rfl,tE,ht2⟩;have HI2:=hid tE;have bX:Hid (BL w w2):=hid (HB.out.trans (ht2.below HB.out.size (fun b hb=>HO.out b hb.symm)));clear tE ht2;go_wp2;go_ret;exact⟨_,rfl,HI2.out,bX.out⟩
theorem Gc(xs:List Int):Cz.cT Cz.dF (Cz.fS Cz.dF xs)=Cz.cT Cz.dF xs:=Cz.mC Cz.gL fun _=>(Cz.gH (c:=Cz.dF)).mem_iff
structure La(x:ah.cA)(W:ah.eE)(S:List (List Int))(sv wv uv:Value)(p:Nat)(B:Nat)(w:World):Prop where
 cell:∃ak ck al cl ar cr,sv=.agg #[.int .i64 x.aL,.slice ak x.aA.length ck,.slice al x.aP.length cl,.slice ar x.aR.length cr]/\w.heap[p]?=some (.cells #[.int .i64 x.aL,.slice ak x.aA.length ck,.slice al x.aP.length cl,.slice ar x.aR.length cr,wv,uv] 118 (0,0))
 tM:d9 (·<B) w sv x
 wj:bN (·<B) w wv W
 Ay:dr (·<B) w uv S
 pb:p<B
theorem La.keep{x:ah.cA}{W:ah.eE}{S:List (List Int)}{sv wv uv:Value}{p B:Nat}{w w':World}(h:La x W S sv wv uv p B w)(hb:Below B w w'):La x W S sv wv uv p B w' where
 cell:=by
  obtain⟨ak,ck,al,cl,ar,cr,h1,h2⟩:=h.cell;exact⟨ak,ck,al,cl,ar,cr,h1,(hb.block p h.pb).trans h2⟩
 tM:=h.tM.keep (aD.aS hb (fun _ h=>h))
 wj:=h.wj.keep (aD.aS hb (fun _ h=>h))
 Ay:=h.Ay.keep (aD.aS hb (fun _ h=>h))
 pb:=h.pb
theorem qR(x:ah.cA)(W:ah.eE)(S:List (List Int))(hS:S.length<=1000)(hr:∀r∈S,r.length<=1000)(sv wv uv:Value)(p B:Nat)(w:World)(hB:B<=w.heap.size)(h:La x W S sv wv uv p B w):
  Calls Tryz.prog 55 #[.pointer (some ⟨p,0,none⟩)] w fun e w'=>e=.returned (.int .i64 (Cz.diff S:Nat))/\BL w w':=by
 obtain⟨ak,ck,al,cl,ar,cr, -,hc⟩:=h.cell;obtain⟨au,cu,rfl,hok,hcap,hmax⟩:=h.Ay.form;have hsz:p<w.heap.size:=aC hc;have Xl:=hid h.Ay;have HR:=hid hr;have hc1:w.cell? ⟨p,5,none⟩=some (.slice au S.length cu):=by simp[World.cell?,hc]
 have HD:Hid (∀k,k<=S.length->Cz.diff (S.take k)<=1000*k):=hid (fun k hk=>by
  have key:∀l:List (List Int),(∀r∈l,r.length<=1000)->Cz.diff l<=1000*l.length:=by
   intro l;induction l with
   |nil=>intro _;simp[Cz.diff]
   |cons a l ih=>
    intro hl
    have h1:=ih fun r hr=>hl r (by simp[hr])
    have h2:=Cz.nQ (c:=Cz.dF) a
    have h3:=hl a bp
    simp only[Cz.diff,List.map_cons,List.sum_cons,List.length_cons] at*
    omega
  have h1:=key (S.take k) (fun r hr'=>hr r (List.mem_of_mem_take hr'));rw[LB] at h1;have:min k S.length=k:=aB
  rw[this] at h1;exact h1)
 have HDs:Hid (∀k (hk:k<S.length),Cz.diff (S.take (k+1))=Cz.diff (S.take k)+(Cz.cT Cz.dF S[k]).length):=hid (fun k hk=>by
  rw[CY hk];unfold Cz.diff;rw[List.map_append,List.sum_append];simp only[List.map_cons,List.map_nil,List.sum_cons,List.sum_nil,Nat.add_zero])
 clear h hr hc;go_enter Tryz.func55,Tryz.ntmps55;go_wp2;clear hc1;go_loopw [3,11] (fun n i wr=>∃k m:Nat,k<=S.length/\i=.int .i64 k/\n=.int .i64 (m:Int)/\m<=1000*k/\Hid (m=Cz.diff (S.take k))/\Hid (BL w wr)) (fun _ i _=>S.length-(intOf i).toNat);case atStart=>exact⟨0,0,aB,rfl,rfl,aB,hid (by simp[Cz.diff]),hid aF⟩
 case round=>
  obtain⟨k,m,hk,rfl,rfl,hm,HM,HB⟩:=hrel;by_cases hlt:k<S.length
  ·obtain⟨u,hu1,hu3,mU⟩:=(Xl.out.keep (aD.aS HB.out (fun b (hb:b<B)=>by omega))).at hlt
   obtain⟨Oo,Oq,rfl,wL, -, -⟩:=mU.form;have hk0:(0:Int)<=(k:Int):=aB
   have hk1:(k:Int)<(S.length:Int):=aB
   have hrl:S[k].length<=1000:=HR.out _ (gm _);have Be:=hid hrl;have Ba:=HB.out.size;have HU:Hid (bq (·<wr.heap.size) wr (.slice Oo S[k].length Oq) S[k]):=hid (bq.mono (S':=(·<wr.heap.size)) mU (fun b hb _=>hb));have tF:=hid (HDs.out k hlt);have hD2:=HD.out (k+1) hlt;rw[HDs.out k hlt,<-HM.out] at hD2;obtain⟨r,hrr⟩:=bB (S[k]);rw[<-hrr] at HU tF hu1 wL hrl hD2 Be;have HRR:=hid hrr;clear mU hrr;obtain⟨nr,nM⟩:=bB r.length;rw[<-nM] at HU hu1 wL hrl;have wg:=hid nM;obtain⟨dn,hdn⟩:=bB ((Cz.cT Cz.dF r).length);rw[<-hdn] at tF hD2;have HDn:=hid hdn;clear nM hdn;go_wp2_with fail;refine(zG _ _ _ _).mono ?_;rintro e w2 ⟨rfl,hw2⟩;have hb2:BL wr w2:=Zf
   have hz2:w2.heap.size=wr.heap.size+1:=by rw[hw2];simp
   have D4:=hid (zJ r (by have:=Be.out;omega) wr.heap.size _ w2 (bq.mono (S':=(·<w2.heap.size)) (HU.out.keep (aD.below hb2)) (fun b _ hb=>by have h9:b<wr.heap.size:=hb;omega)) Ot);have bX:=hid hb2;have adL:=bX.out.size;clear hw2 hb2 hz2;go_wp2_with fail;refine D4.out.mono ?_;rintro e w3 ⟨xv,rfl,Aw,hb3⟩;have HC:=hid (DC _ _ (by rw[(Cz.gH (c:=Cz.dF)).length_eq];have:=Be.out;omega) xv w3 Aw);have HO3:=hid Aw.2;obtain⟨a3,c3,rfl, -, -, -⟩:=(bg.sl Aw).form;have cE:=hid hb3;rw[zC _ (Cz.kY Cz.gL),Gc,<-HDn.out] at HC;clear Aw hb3 D4;go_wp2_with fail;refine HC.out.mono ?_;rintro e w4 ⟨a4,c4,rfl,rB⟩;have gK:Hid (BL w w4):=hid (HB.out.trans ((bX.out.trans ((cE.out.mono adL).trans (rB.below (Nat.le_trans adL cE.out.size) (fun b hb=>by have:=HO3.out b hb.symm;omega)))).mono Ba));clear rB HC;have Ua:Hid (m+dn=Cz.diff (S.take (k+1))):=hid (by rw[tF.out,<-HM.out]);clear tF HM;go_wp2;go_roundw;case rel=>exact⟨k+1,m+dn,aB,by go_num,by go_num,aB,Ua,gK⟩
   simp[intOf];omega
  ·obtain rfl:S.length=k:=by omega
   have HE:Hid (m=Cz.diff S):=hid (by rw[HM.out,List.take_length]);go_wp2;go_ret;exact⟨qU,HB.out⟩
def gX(B:Nat)(E:Nat->Prop)(w:World)(v:Value)(xs:List Cz.Row):Prop:=
 ∃us,w.ownsRow B 22 1 v xs.length us/\us.length=xs.length/\∀j (h1:j<us.length) (h2:j<xs.length),bq (fun b=>E b/\v.ownBlock≠some b) w us[j] xs[j]
theorem gX.nil(B:Nat)(E:Nat->Prop)(w:World):gX B E w (.slice none 0 0) []:=⟨[],World.ownsRow_nil _ _ _ _,rfl,fun j h=>absurd h bp⟩
theorem gX.lt{B:Nat}{E:Nat->Prop}{w:World}{v:Value}{xs:List Cz.Row}(h:gX B E w v xs):∀b,v.ownBlock=some b->B<=b/\b<w.heap.size:=by
 obtain⟨us,h1,_⟩:=h;exact fun b hb=>h1.lt b hb
theorem gX.kept{B:Nat}{E:Nat->Prop}{w w':World}{v:Value}{xs:List Cz.Row}(h:gX B E w v xs)(hk:∀b,b<w.heap.size->v.ownBlock=some b\/E b->w'.heap[b]?=w.heap[b]?):gX B E w' v xs:=by
 obtain⟨us,h1,h2,h3⟩:=h;exact⟨us,cQ (S:=fun b=>v.ownBlock=some b) h1 (fun b hb=>hb) (fun b hb hlt=>hk b hlt (.inl hb)),h2,fun j g1 g2=>(h3 j g1 g2).keep (fun b hb hlt=>hk b hlt (.inr hb.1))⟩
theorem gX.next{B:Nat}{E:Nat->Prop}{w w':World}{v:Value}{xs:List Cz.Row}(h:gX B E w v xs)(hb:BL w w'):gX B E w' v xs:=h.kept fun b hl _=>hb.block b hl
theorem gX.mono{B:Nat}{E E':Nat->Prop}{w:World}{v:Value}{xs:List Cz.Row}(h:gX B E w v xs)(hE:∀b,b<w.heap.size->E b->E' b):gX B E' w v xs:=by
 obtain⟨us,h1,h2,h3⟩:=h;exact⟨us,h1,h2,fun j g1 g2=>(h3 j g1 g2).mono (fun b hl hb=>⟨hE b hl hb.1,hb.2⟩)⟩
theorem gX.sl{B:Nat}{E:Nat->Prop}{w:World}{v:Value}{xs:List Cz.Row}(h:gX B E w v xs):eU (fun w u x=>bq (fun b=>E b/\v.ownBlock≠some b) w u x) (fun b=>v.ownBlock=some b) w v xs:=by
 obtain⟨us,g1,g2,g3⟩:=h;exact lF g1 (fun b hb=>hb) g2 g3
end Go.Proofs.YtibacilhkciihaaGreatDoor
namespace Go.Proofs.YtibacilhkciihaaGreatDoor
open Go.RowKit Go.Shelf Go.Lib Go.Sort
abbrev Jw(E:Nat->Prop)(w:World):={p:Value×Cz.Row // bq E w p.1 p.2/\p.1.oneCell'=true}
def dm{E:Nat->Prop}{w:World}(x:Jw E w):Value:=x.1.1
def cfR{E:Nat->Prop}{w:World}(x y:Jw E w):Int:=Cz.dA x.1.2 y.1.2
theorem ltR{E:Nat->Prop}{w:World}(x y:Jw E w):ltOf cfR x y=decide (Cz.dA x.1.2 y.1.2<0):=rfl
theorem swoR{E:Nat->Prop}{w:World}:SWO (ltOf (cfR (E:=E) (w:=w))) where
 irrefl x:=by rw[ltR,Cz.cZ.refl];rfl
 trans x y z h1 h2:=by rw[ltR] at*;exact decide_eq_true (Cz.cZ.trans _ _ _ (of_decide_eq_true h1) (of_decide_eq_true h2))
 ntrans x y z h1 h2:=by
  rw[ltR] at*;have a1:=of_decide_eq_false h1;have a2:=of_decide_eq_false h2;refine decide_eq_false fun h=>?_;by_cases e:Cz.dA x.1.2 y.1.2=0
  ·rw[Cz.cZ.eq _ _ e] at h;exact a2 h
  ·have b1:=Cz.cZ.anti x.1.2 y.1.2
   have b2:=Cz.cZ.anti y.1.2 x.1.2;exact a2 (Cz.cZ.trans _ _ _ aB h)
theorem aeZ{α:Type}[Inhabited α](enc:α->Value)(w:World)(g n:Nat)(d:Array α)(os:Array Obj){b:Nat}(hb:b<w.heap.size)(hne:b≠g):(sortWorld enc w g 0 n d os).heap[b]?=w.heap[b]?:=by
 unfold sortWorld;rw[heap_grow_old _ _ Em];unfold putRow mapBlock;simp only[Array.getElem?_modify,heap_ahead];rw[if_neg (Ne.symm hne)]
theorem ae1{α:Type}[Inhabited α](enc:α->Value)(w:World)(g n:Nat)(d:Array α)(os:Array Obj){c:Array Value}{e:TypeId}{fr:Nat×Nat}(h:w.heap[g]?=some (.cells c e fr)):(sortWorld enc w g 0 n d os).heap[g]?=some (.cells (putCells enc 0 d c) e fr):=by
 have hb:=(Array.getElem?_eq_some_iff.1 h).1;unfold sortWorld;rw[heap_grow_old _ _ Em];unfold putRow mapBlock;simp only[Array.getElem?_modify,heap_ahead,if_true,h];rfl
theorem ae0{α:Type}[Inhabited α](enc:α->Value)(w:World)(g n:Nat)(d:Array α)(os:Array Obj):Turns (·=g) w (sortWorld enc w g 0 n d os):=
 ⟨rfl,rfl,rfl,by simp[sortWorld],fun b hb hlt=>aeZ enc w g n d os hlt hb⟩
theorem Vz{E:Nat->Prop}{w:World}:∀(us:List Value) (xs:List Cz.Row),us.length=xs.length->(∀j (h1:j<us.length) (h2:j<xs.length),bq E w us[j] xs[j])->∃dl:List (Jw E w),dl.map (fun x=>x.1.1)=us/\dl.map (fun x=>x.1.2)=xs
 |[],[],_,_=>⟨[],rfl,rfl⟩
 |u::us,x::xs,hl,h=>by
  obtain⟨dl,e1,e2⟩:=Vz us xs (by simpa using hl) (fun j h1 h2=>by
   have:=h (j+1) AF (by simpa using h2);simpa using this)
  have h0:bq E w u x:=h 0 bp bp;have h1:u.oneCell'=true:=by obtain⟨a,cap,e, -⟩:=h0.form;rw[e];rfl
  exact⟨⟨(u,x),h0,h1⟩::dl,by simp[e1],by simp[e2]⟩
 |[],_::_,h,_=>by simp at h
 |_::_,[],h,_=>by simp at h
theorem RV{p:Prop}(h:p:=by
  have hj':j<dl.length:=mP
  have ej:dl.toArray[j]! =dl[j]:=abO
  rw[ej,Nat.zero_add]
  constructor
  ·simp[World.cell?,hg,hcur j hj']
  ·simp[World.frozen?,hg]):p:=h
theorem RW{p:Prop}(h:p:=by
  have:us[j]?=some (dm dl[j]):=zT79
  rw[<-RU,List.getElem?_take,if_pos aB] at this
  simpa using this):p:=h
theorem M8(B:Nat)(E:Nat->Prop)(w:World)(a:Option Addr)(l c:Nat)(xs:List Cz.Row)(h:gX B E w (.slice a l c) xs)(hn:xs.length<=1000000000):
  Calls Tryz.prog 88 #[.slice a l c,.func (.func 63) #[] #[]] w fun e w'=>e=.returned (.tuple #[])/\∃ys,ys.Perm xs/\ys.Pairwise (fun a b=>¬Cz.dA b a<0)/\gX B E w' (.slice a l c) ys/\Turns (fun b=>(Value.slice a l c).ownBlock=some b) w w':=by
 obtain⟨us,⟨h1,h1'⟩,h2,h3⟩:=h;rcases h1' with⟨h0,h00⟩|⟨g,cap,cur,he,hbg,hg,hroom,hcm,hsz,RU⟩
 ·cases h0
  obtain rfl:xs=[]:=by
   exact List.eq_nil_of_length_eq_zero h00
  have hS:=AnyF.slices_SortFunc_none (P:=Tryz.prog) (ρ:=Tryz.rL) {Tryz.Jt with} none 0 (.func (.func 63) #[] #[]) w;refine Calls.mono hS ?_;rintro e w' ⟨rfl,rfl⟩;exact⟨rfl,[],List.Perm.refl _,List.Pairwise.nil,gX.nil _ _ _,Turns.refl _ _⟩
 ·cases he
  obtain⟨E',hE'⟩:∃E':Nat->Prop,E'=fun b=>E b/\(Value.slice (some ⟨g,0,none⟩) xs.length c).ownBlock≠some b:=⟨_,rfl⟩;rw[<-hE'] at h3;have YE:∀b,E' b->b≠g:=fun b hb e=>by rw[hE'] at hb;exact hb.2 tL
  obtain⟨dl,e1,e2⟩:=Vz us xs h2 h3;have hdl:dl.length=xs.length:=by rw[<-e2,Bp]
  have hlt:=(Array.getElem?_eq_some_iff.1 hg).1;by_cases hx0:xs.length=0
  ·obtain rfl:xs=[]:=List.eq_nil_of_length_eq_zero hx0
   have hS:=AnyF.slices_SortFunc_none (P:=Tryz.prog) (ρ:=Tryz.rL) {Tryz.Jt with} (some ⟨g,0,none⟩) c (.func (.func 63) #[] #[]) w;refine Calls.mono hS ?_;rintro e w' ⟨rfl,rfl⟩;exact⟨rfl,[],List.Perm.refl _,List.Pairwise.nil,⟨us,⟨h1,.inr ⟨g,c,cur,rfl,hbg,hg,hroom,hcm,hsz,RU⟩⟩,h2,fun j g1 g2=>absurd g2 bp⟩,Turns.refl _ _⟩
  haveI:Inhabited (Jw E' w):=⟨dl[0]' aB⟩
  have hcur:∀j (h:j<dl.length),cur[j]?=some (dm dl[j]):=fun j h=>by
   exact RW
  have hH:Holds dm w g 0 dl.toArray:=fun j hj=>by
   exact RV
  have hcmp:CmpLays1 Tryz.prog 63 #[] (dm (E:=E') (w:=w)) cfR g 0 dl.toArray.size w:=fun m os dk hs x y=>by
   have hk:aD E' w (sortWorld dm w g 0 m dk os):=fun b hb hlt=>aeZ dm w g m dk os hlt (YE b hb);refine Calls.mono (oH x.1.2 y.1.2 x.1.1 y.1.1 E' E' (sortWorld dm w g 0 m dk os) (bq.keep x.2.1 hk) (bq.keep y.2.1 hk)) ?_;rintro e w' ⟨h1,rfl⟩;exact⟨h1,0,#[],by rw[grow_empty];rfl⟩
  have hS:=Any.slices_SortFunc Tryz.Jt (dm (E:=E') (w:=w)) (fun x=>x.2.2) cfR swoR 63 #[] g 0 c dl.toArray w (bH Tryz.func63 (by kernel_rfl) rfl) hcmp hH hlt lC;have U7:dl.toArray.size=xs.length:=by simp[hdl]
  rw[U7] at hS;refine Calls.mono hS ?_;rintro e w' ⟨rfl,d',n,os,⟨p1, -,p3⟩,hsort,rfl⟩;rw[U7] at p1;have x1:d'.extract 0 xs.length=d':=by rw[<-p1];simp
  have x2:dl.toArray.extract 0 xs.length=dl.toArray:=by rw[<-U7];simp
  rw[x1,x2] at p3;have hk:aD E' w (sortWorld dm w g 0 n d' os):=fun b hb hlt=>aeZ dm w g n d' os hlt (YE b hb);have hlen:d'.toList.length=xs.length:=by simpa using p1
  refine⟨rfl,d'.toList.map (fun x=>x.1.2),?_,?_,?_,?_⟩
  ·have:=p3.map (fun x=>x.1.2)
   rw[<-e2];simpa using this
  ·rw[List.pairwise_iff_getElem]
   intro i j hi hj hij;have hi':i<d'.size:=Eh
   have hj':j<d'.size:=mP
   have:=hsort i j (Nat.zero_le _) hij aB;rw[ltR,getElem!_pos d' i hi',getElem!_pos d' j hj'] at this;have:=of_decide_eq_false this;simpa using this
  ·refine⟨d'.toList.map (fun x=>x.1.1),⟨bp,.inr ⟨g,c,putCells dm 0 d' cur,by simp[hlen],hbg,ae1 dm w g n d' os hg,by simp[p1];omega,hcm,by simp[putCells,hsz],?_⟩⟩,bp,fun j k1 k2=>?_⟩
   ·apply List.ext_getElem?
    intro j;rw[List.getElem?_take];simp only[Bp,Array.length_toList,Nat.mul_one,putCells,Array.getElem?_toList,Array.getElem?_mapIdx,List.getElem?_map];by_cases hj:j<d'.size
    ·have Yg:j<cur.size:=by rw[hsz];omega
     rw[if_pos hj,Array.getElem?_eq_getElem Yg,Array.getElem?_eq_getElem hj];simp[hj,dm,getElem!_pos]
    ·rw[if_neg hj,Array.getElem?_eq_none aB]
     rfl
   ·simp only[List.getElem_map]
    have:=bq.keep (d'.toList[j]'(by simpa using k1)).2.1 hk;exact bq.mono this (fun b _ hb=>by rw[hE'] at hb;exact hb)
  ·have:=ae0 (dm (E:=E') (w:=w)) w g n d' os
   exact YC
end Go.Proofs.YtibacilhkciihaaGreatDoor
namespace Go.Proofs.YtibacilhkciihaaGreatDoor
open Go.RowKit
def jf(x:ah.cA)(k j:Nat):Int:=if (ah.fd x k j).kind=0 then -1 else if (ah.fd x k j).kind=1 then ah.dI x k j else -2
def aO(x:ah.cA):Cz.fT:=(List.range x.aA.length).map fun(k:Nat)=>(List.range (ah.kd x k).aG.length).map fun(j:Nat)=>jf x k j
theorem kR(x:ah.cA):(aO x).length=x.aA.length:=by simp[aO]
theorem Lb(x:ah.cA){k:Nat}(hk:k<x.aA.length):(aO x).getD k []=(List.range (ah.kd x k).aG.length).map fun(j:Nat)=>jf x k j:=by
 unfold aO;exact Cz.dB _ _ _ hk
theorem dc(x:ah.cA){k:Nat}(hk:k<x.aA.length):((aO x).getD k []).length=(ah.kd x k).aG.length:=by
 rw[Lb x hk];simp
theorem oI(x:ah.cA){k j:Nat}(hk:k<x.aA.length)(hj:j<(ah.kd x k).aG.length):Cz.fk (aO x) k j=jf x k j:=by
 unfold Cz.fk;rw[Lb x hk];exact Cz.dB _ _ _ hj
theorem RX(x:ah.cA)(k j:Nat): -2<=Cz.fk (aO x) k j:=by
 by_cases hk:k<x.aA.length
 ·by_cases hj:j<(ah.kd x k).aG.length
  ·rw[oI x hk hj]
   unfold jf;have:=ah.P7 x k j;split
   ·omega
   ·split<;>omega
  ·unfold Cz.fk
   rw[jm,List.getElem?_eq_none (by rw[dc x hk];omega)];simp
 ·unfold Cz.fk
  rw[jm (l:=aO x),List.getElem?_eq_none (by rw[kR];omega)];simp
theorem RY{x:ah.cA}{W:ah.eE}(h:ah.Jo x W):Cz.l7 (aO x) W where
 lk:=by rw[kR];exact h.len
 code:=RX x
 r k i hk hi:=by
  have hi':i<W[k].length:=Oh
  rw[dc x (by rw[<-h.len];exact hk)];unfold Cz.row;rw[Cz.aQ hk,Cz.aQ hi'];exact(h.rF k hk _ (gm hi')).1
 ref k i f hk hi hf hr:=by
  have hkx:k<x.aA.length:=by rw[<-h.len];exact hk
  have hi':i<W[k].length:=Oh
  rw[dc x hkx] at hf;rw[oI x hkx hf] at hr ⊢
  have h1:(ah.fd x k f).kind=1:=by
   unfold jf at hr;by_cases e0:(ah.fd x k f).kind=0
   ·rw[if_pos e0] at hr;omega
   ·by_cases e1:(ah.fd x k f).kind=1
    ·exact e1
    ·rw[if_neg e0,if_neg e1] at hr;omega
  have e:jf x k f=ah.dI x k f:=by unfold jf;rw[if_neg aB,if_pos h1]
  rw[e] at hr ⊢;obtain⟨h2,h3⟩:=h.rF k hk _ (gm hi');have hf':f<(W[k][i]).length:=by rw[h2];exact hf
  have h4:=(h3 f hf').1 h1;have hlt:=ah.tY x k f aB
  have hc:Cz.cell W k i f=(W[k][i])[f]:=by
   unfold Cz.cell Cz.row;rw[Cz.aQ hk,Cz.aQ hi',Cz.aQ hf']
  refine⟨aB,by rw[hc];exact h4.1,?_⟩;rw[hc];unfold Cz.len;have:=h4.2;unfold ah.fQ at this;omega
theorem Jy(x:ah.cA)(k j:Nat)(hk:k<x.aA.length)(hj:j<(ah.kd x k).aG.length)(ak al ar aw:Option Addr)(ck cl cr nw cw:Nat)(S:Nat->Prop)(w:World)
  (hv:d9 S w (.agg #[.int .i64 x.aL,.slice ak x.aA.length ck,.slice al x.aP.length cl,.slice ar x.aR.length cr]) x):
  Calls Tryz.prog 53 #[.agg #[.int .i64 x.aL,.slice ak x.aA.length ck,.slice al x.aP.length cl,.slice ar x.aR.length cr,.slice aw nw cw],.int .i64 (k:Int),.int .i64 (j:Int)] w fun e w'=>
   e=.returned (.bool (decide (Cz.fk (aO x) k j≠ -2)))/\BL w w':=by
 obtain⟨Om,JX,al',SI,Oo,Oq,he,hkk, -, -,hsk, -, -⟩:=hv.form;cases he;obtain⟨w1,hw1⟩:=bB (w.alloc (.cells #[.int .i64 x.aL,.slice ak x.aA.length ck,.slice al x.aP.length cl,.slice ar x.aR.length cr,.slice aw nw cw] 116));have hb1:BL w w1:=Ab
 have hc:w1.heap[w.heap.size]?=some (.cells #[.int .i64 x.aL,.slice ak x.aA.length ck,.slice al x.aP.length cl,.slice ar x.aR.length cr,.slice aw nw cw] 116 (0,0)):=CM
 have x1:w1.cell? ⟨w.heap.size,1,none⟩=some (.slice ak x.aA.length ck):=by simp[World.cell?,hc]
 obtain⟨RM, -, -, -, -,uf,y3,kT⟩:=(hkk.keep (aD.below hb1)).at hk;obtain⟨af,cf,rfl,P6, -, -⟩:=kT.form;have hj':j<x.aA[k].aG.length:=by rw[<-dU hk];exact hj
 obtain⟨-, -, -, -, -,f3, -⟩:=kT.at hj';rw[show x.aA[k].aG[j]=ah.fd x k j from (nA hk hj').symm] at f3
 have HF:Hid (∀fk,fk=(ah.fd x k j).kind->(Cz.fk (aO x) k j≠ -2↔fk=0\/fk=1)):=hid (by
  rintro fk rfl
  rw[oI x hk hj]
  unfold jf
  have:=ah.P7 x k j
  by_cases e0:(ah.fd x k j).kind=0
  ·rw[if_pos e0];simp[e0]
  ·rw[if_neg e0]
   by_cases e1:(ah.fd x k j).kind=1
   ·rw[if_pos e1];simp[e1];omega
   ·rw[if_neg e1];simp[e0,e1])
 obtain⟨fk,Dl⟩:=bB ((ah.fd x k j).kind);rw[<-Dl] at f3;have HE:=hid (HF.out fk Dl);obtain⟨nf,hnf⟩:=bB (x.aA[k].aG.length);rw[<-hnf] at y3 P6 hj';have hk0:(0:Int)<=k:=aB
 have hk1:(k:Int)<x.aA.length:=aB
 have hj0:(0:Int)<=j:=aB
 have hj1:(j:Int)<nf:=aB
 have HW:=hid hw1;have HB:=hid hb1;clear hv hkk kT Dl hnf hw1 hb1 hc HF;go_enter Tryz.func53,Tryz.ntmps53;go_upto_region 1 with fail;rw[<-HW.out];by_cases h0:fk=0
 ·have hb0:(fk==0)=true:=by simp[h0]
  have HR:Hid (decide (Cz.fk (aO x) k j≠ -2)=true):=hid (decide_eq_true (HE.out.2 (.inl h0)));clear h0;go_wp2;go_ret;exact⟨by rw[HR.out];rfl,HB.out⟩
 ·have hb0:(fk==0)=false:=by simp[h0]
  by_cases h1:fk=1
  ·have hb1:(fk==1)=true:=by simp[h1]
   have HR:Hid (decide (Cz.fk (aO x) k j≠ -2)=true):=hid (decide_eq_true (HE.out.2 (.inr h1)));clear h0 h1;go_wp2;go_ret;exact⟨by rw[HR.out];rfl,HB.out⟩
  ·have hb1:(fk==1)=false:=by simp[h1]
   have HR:Hid (decide (Cz.fk (aO x) k j≠ -2)=false):=hid (decide_eq_false (fun h=>(HE.out.1 h).elim h0 h1));clear h0 h1;go_wp2;go_ret;exact⟨by rw[HR.out];rfl,HB.out⟩
theorem zK(xs:List Cz.Row)(hx:xs.length<=100000)(v:Value)(w:World){E:Nat->Prop}(hE:∀b,E b->b<w.heap.size)(hv:dr E w v xs):
  Calls Tryz.prog 59 #[v] w fun e w'=>∃x,e=.returned x/\gX w.heap.size E w' x xs/\BL w w':=by
 have hv0:=hv;obtain⟨a,cap,rfl,hok,hcap,hmax⟩:=hv.form;clear hv;cases a with
 |none=>
  have hz:xs=[]:=by
   exact OO
  subst hz
  have hq:∀W,(binOp .eql 42 (.slice none 0 cap) (.slice none 0 0)).run Tryz.prog W=.ok (.bool true) W:=fun W=>Lib.run_eql_slice_nil W 42 22 none 0 cap 0 0 (by kernel_rfl)
  go_enter Tryz.func59,Tryz.ntmps59
  go_wp2
  go_ret
  exact⟨_,rfl,gX.nil _ _ _,aF⟩
 |some ad=>
  have hq:∀W,(binOp .eql 42 (.slice (some ad) xs.length cap) (.slice none 0 0)).run Tryz.prog W=.ok (.bool false) W:=fun W=>Lib.run_eql_slice_nil W 42 22 (some ad) xs.length cap 0 0 (by kernel_rfl)
  have hI:(w.alloc (.cells #[] 22)).ownsRow w.heap.size 22 1 (.slice (some ⟨w.heap.size,0,none⟩) 0 0) 0 []:=World.ownsRow_made w #[] 0 aH (Nat.zero_le _) bp
  have GR:dr E (w.alloc (.cells #[] 22)) (.slice (some ad) xs.length cap) xs:=dr.keep hv0 (aD.below (aF.alloc aH _))
  obtain⟨-,FI,us,l1,l2,l3⟩:=eU.news GR
  have h1c:∀u∈us,u.oneCell'=true:=fun u hu=>by
   obtain⟨i,hi,rfl⟩:=List.getElem_of_mem hu;obtain⟨a,c,e, -⟩:=(l3 i hi aB).form;rw[e];rfl
  have jB:=hid l3
  clear hv0 GR l3
  go_enter Tryz.func59,Tryz.ntmps59
  go_wp2_with (at_builtin;go_must (refine gB rfl _ _ rfl Tryz.uQ rfl hI (some ad) xs.length cap rfl FI us (by simpa using l1) l2 h1c aB bp ?_))
  intro v1 w1 g1 g2 g3
  have ht1:=Turns.fI (S:=fun b=>some b=(Value.slice (some ⟨w.heap.size,0,none⟩) 0 0).ownBlock) g2 fun b hb'=>hb'.symm
  have hb3:BL w w1:=(aF.alloc aH _).trans (ht1.below bp (fun b hb=>by simp[Value.ownBlock] at hb;omega))
  have hR:gX w.heap.size E w1 v1 xs:=by
   refine⟨us,J2,aB,fun j k1 k2=>?_⟩;have h3:=jB.out j k1 k2;refine bq.mono (bq.keep h3 (fun b hb0 hlt=>?_)) (fun b _ hb0=>⟨hb0,fun e=>?_⟩)
   ·have hb:=hE b hb0
    rw[ht1.block b (fun e=>by simp[Value.ownBlock] at e;omega) hlt]
   ·have hb:=hE b hb0
    rcases g3 with g3|g3
    ·rw[g3] at e;simp[Value.ownBlock] at e;omega
    ·rw[g3] at e;simp at e;omega
  have HR:=hid hR
  have HB:=hid hb3
  clear hI ht1 hq hb3 hR g1 g2 g3 l1 l2 h1c
  go_wp2
  go_ret
  exact⟨_,rfl,HR.out,HB.out⟩
theorem VA(o:List Nat)(n:Nat)(h:n∈o):Lib.idxOf (o.map fun(i:Nat)=>(i:Int)) n=(o.idxOf n:Nat):=by
 have key:∀(o:List Nat) (k:Nat),n∈o->Lib.idxFrom (o.map fun(i:Nat)=>(i:Int)) n k=((k+o.idxOf n:Nat):Int):=by
  intro o;induction o with
  |nil=>intro k h;cases h
  |cons a o ih=>
   intro k h
   rw[List.map_cons,List.idxOf_cons]
   unfold Lib.idxFrom
   by_cases e:a=n
   ·subst e;simp
   ·have e1:¬(a:Int)=(n:Int):=by omega
    have e2:(a==n)=false:=by simp[e]
    have hm:n∈o:=(kD.1 h).resolve_left (fun q=>e q.symm);rw[if_neg e1,e2,ih (k+1) hm];simp only[cond_false];omega
 have:=key o 0 h;unfold Lib.idxOf;rw[this];simp
theorem M9(xs:List Int)(hx:xs.length<=1000000)(y:Int)(v:Value)(S:Nat->Prop)(w:World)(hv:bq S w v xs):
  Calls Tryz.prog 60 #[v,.int .i64 y] w fun e w'=>e=.returned (.int .i64 (Lib.idxOf xs y))/\w=w':=by
 obtain⟨a,cap,rfl,hok,hcap,hmax⟩:=hv.form;by_cases h0:xs.length=0
 ·obtain rfl:xs=[]:=List.eq_nil_of_length_eq_zero h0
  exact(Any.slices_Index_int_empty Tryz.K8 a cap y w).mono fun _ _ h=>⟨h.1,h.2.symm⟩
 ·obtain⟨b,o,rfl⟩:=hok aB
  have:=Any.slices_Index_int Tryz.K8 b o xs.length cap xs y w aH aB (fun j hj=>by
   obtain⟨u,h1, -,h2⟩:=hv.at hj;obtain rfl:u=_:=h2;rw[Cz.aQ hj];simpa using h1)
  rw[List.take_length] at this;exact this.mono fun _ _ h=>⟨h.1,h.2.symm⟩
theorem nR{α:Type}(p:α->Bool):∀(l:List α),l.Pairwise (fun a b=>p b=true->p a=true)->l.countP p=(l.takeWhile p).length
 |[],_=>rfl
 |a::l,h=>by
  rw[List.pairwise_cons] at h;by_cases e:p a=true
  ·rw[List.countP_cons_of_pos e,List.takeWhile_cons_of_pos e,nR p l h.2];rfl
  ·rw[List.takeWhile_cons_of_neg e,List.length_nil,List.countP_eq_zero]
   intro x hx;rcases kD.1 hx with rfl|hx
   ·exact e
   ·exact fun hp=>e (h.1 x hx hp)
end Go.Proofs.YtibacilhkciihaaGreatDoor
namespace Go.Proofs.YtibacilhkciihaaGreatDoor
open Go.RowKit Go.Shelf Go.Lib Go.Sort
theorem Jz(B:Nat)(E:Nat->Prop)(w:World)(a:Option Addr)(l c:Nat)(xs:List Cz.Row)(h:gX B E w (.slice a l c) xs)(h0:0<xs.length)(hn:xs.length<=1000000000)(hs:xs.Pairwise (Cz.dA · ·<0))(y:Cz.Row)(v:Value)(T:Nat->Prop)(hy:bq T w v y)(hT:∀b,T b->(Value.slice a l c).ownBlock≠some b):
  Calls Tryz.prog 90 #[.slice a l c,v,.func (.func 63) #[] #[]] w fun e w'=>∃f,e=.returned (.tuple #[.int .i64 (Cz.pos Cz.dA xs y:Nat),.bool f])/\Turns (fun b=>(Value.slice a l c).ownBlock=some b) w w'/\gX B E w' (.slice a l c) xs:=by
 obtain⟨us,⟨h1,h1'⟩,h2,h3⟩:=h;rcases h1' with⟨-,h00⟩|⟨g,cap,cur,he,hbg,hg,hroom,hcm,hsz,RU⟩
 ·omega
 ·cases he
  obtain⟨E',hE'⟩:∃E':Nat->Prop,E'=fun b=>E b/\(Value.slice (some ⟨g,0,none⟩) xs.length c).ownBlock≠some b:=⟨_,rfl⟩;rw[<-hE'] at h3;have YE:∀b,E' b->b≠g:=fun b hb e=>by rw[hE'] at hb;exact hb.2 tL
  obtain⟨dl,e1,e2⟩:=Vz us xs h2 h3;have hdl:dl.length=xs.length:=by rw[<-e2,Bp]
  have hlt:=(Array.getElem?_eq_some_iff.1 hg).1;haveI:Inhabited (Jw E' w):=⟨dl[0]' aB⟩
  have hcur:∀j (h:j<dl.length),cur[j]?=some (dm dl[j]):=fun j h=>by
   exact RW
  have hH:Holds dm w g 0 dl.toArray:=fun j hj=>by
   exact RV
  have hTg:∀b,T b->b≠g:=fun b hb e=>hT b hb tL
  have hx:∀j (hj:j<dl.length),(dl[j]).1.2=xs[j]' aB:=fun j hj=>by
   have:(dl.map fun x=>x.1.2)[j]?=xs[j]?:=by rw[e2]
   rw[List.getElem?_map,lE hj,lE aB] at this;simpa using this
  have hcmp:CmpLaysT Tryz.prog 63 #[] (dm (E:=E') (w:=w)) v (fun x=>Cz.dA x.1.2 y) g 0 dl.toArray.size w:=fun m os dk hs x=>by
   have hk:aD E' w (sortWorld dm w g 0 m dk os):=fun b hb hlt=>dO dm w g m dk os hlt (YE b hb);have hk2:aD T w (sortWorld dm w g 0 m dk os):=fun b hb hlt=>dO dm w g m dk os hlt (hTg b hb);refine Calls.mono (oH x.1.2 y x.1.1 v E' T (sortWorld dm w g 0 m dk os) (bq.keep x.2.1 hk) (bq.keep hy hk2)) ?_;rintro e w' ⟨h1,rfl⟩;exact⟨h1,0,#[],by rw[grow_empty];rfl⟩
  have hmono:∀a b,a<=b->b<dl.toArray.size->Cz.dA (dl.toArray[b]!).1.2 y<0->Cz.dA (dl.toArray[a]!).1.2 y<0:=fun a b hab hb hlt=>by
   have hb':b<dl.length:=Em
   have ea:dl.toArray[a]! =dl[a]' aB:=by simp[getElem!_pos,show a<dl.length by omega]
   have eb:dl.toArray[b]! =dl[b]:=by simp[getElem!_pos,hb']
   rw[eb,hx] at hlt;rw[ea,hx];by_cases q:a=b
   ·subst q;exact hlt
   ·exact Cz.cZ.trans _ _ _ (List.pairwise_iff_getElem.1 hs a b aB aB aB) hlt
  have hS:=Any.slices_BinarySearchFunc Tryz.aaX (dm (E:=E') (w:=w)) (fun x=>x.2.2) v (fun x=>Cz.dA x.1.2 y) 63 #[] g 0 c dl.toArray w (bH Tryz.func63 (by kernel_rfl) rfl) hcmp hH hlt lC hmono
  have hcnt:dl.toArray.toList.countP (fun x=>decide (Cz.dA x.1.2 y<0))=Cz.pos Cz.dA xs y:=by
   unfold Cz.pos;rw[<-nR (fun z=>decide (Cz.dA z y<0)) xs (hs.imp fun {a b} h hb=>decide_eq_true (Cz.cZ.trans _ _ _ h (of_decide_eq_true hb))),<-e2,List.countP_map];rfl
  have U7:dl.toArray.size=xs.length:=by simp[hdl]
  rw[hcnt,U7] at hS;refine Calls.mono hS ?_;rintro e w' ⟨rfl,n,os,rfl⟩;have hk:aD E' w (sortWorld dm w g 0 n dl.toArray os):=fun b hb hlt=>dO dm w g n dl.toArray os hlt (YE b hb);have ht:=kK (dm (E:=E') (w:=w)) w g n dl.toArray os;refine⟨_,rfl,⟨ht.os,ht.tape,ht.output,ht.size,fun b hb hl=>ht.block b (fun e=>hb tL) hl⟩,us,⟨h1,.inr ⟨g,c,putCells dm 0 dl.toArray cur,rfl,hbg,mJ dm w g n dl.toArray os hg,hroom,hcm,by simp[putCells,hsz],?_⟩⟩,h2,fun j k1 k2=>?_⟩
  ·apply List.ext_getElem?
   intro j;rw[<-RU,List.getElem?_take,List.getElem?_take];simp only[Nat.mul_one,putCells,Array.getElem?_toList,Array.getElem?_mapIdx];by_cases hj:j<xs.length
   ·have Yg:j<cur.size:=by rw[hsz];omega
    have hjd:j<dl.length:=aB
    rw[if_pos hj,if_pos hj,hcur j hjd];simp[hjd,dm,getElem!_pos]
   ·rw[if_neg hj,if_neg hj]
  ·exact bq.mono (bq.keep (h3 j k1 k2) hk) (fun b _ hb=>by rw[hE'] at hb;exact hb)
end Go.Proofs.YtibacilhkciihaaGreatDoor
namespace Go.Proofs.YtibacilhkciihaaGreatDoor
open Go.RowKit Go.Shelf Go.Lib Go.Sort
theorem tu{α:Type}[Inhabited α](enc:α->Value)(w:World)(g n:Nat)(d:Array α){b:Nat}(hne:b≠g):(putRow enc (Sort.ahead w n) g 0 d).heap[b]?=w.heap[b]?:=by
 unfold putRow mapBlock;simp only[Array.getElem?_modify,heap_ahead];rw[if_neg (Ne.symm hne)]
theorem JA{α:Type}[Inhabited α](enc:α->Value)(w:World)(g n:Nat)(d:Array α){c:Array Value}{e:TypeId}{fr:Nat×Nat}(h:w.heap[g]?=some (.cells c e fr)):(putRow enc (Sort.ahead w n) g 0 d).heap[g]?=some (.cells (putCells enc 0 d c) e fr):=by
 unfold putRow mapBlock;simp only[Array.getElem?_modify,heap_ahead,if_true,h];rfl
theorem putRow_drewN{α:Type}[Inhabited α](enc:α->Value)(w:World)(g q n:Nat)(d:Array α):(putRow enc (Sort.ahead w q) g 0 d).drewN n=putRow enc (Sort.ahead w (q+n)) g 0 d:=by
 show putRow enc ((w.drewN q).drewN n) g 0 d=_
 rw[World.drewN_drewN];rfl
abbrev rM{E:Nat->Prop}{w:World}(d:Array (Jw E w)):Array Cz.Row:=d.map fun x=>x.1.2
theorem tA{E:Nat->Prop}{w:World}[Inhabited (Jw E w)](d:Array (Jw E w)){j:Nat}(h:j<d.size):(rM d)[j]! =(d[j]!).1.2:=by
 simp[rM,getElem!_pos,h]
theorem YF{p:Prop}(h:p:=by
  have:=range_map_get (rM d)
  rw[show (rM d).size=d.size by simp[rM]] at this
  rw[this,zTl (by simp[rM])]):p:=h
theorem DF(E:Nat->Prop)(w:World)[Inhabited (Jw E w)](g cap:Nat)(d:Array (Jw E w))(hE:∀b,E b->b≠g)(hH:Holds dm w g 0 d)(hsz:d.size<=1000000)(hcap:d.size<=cap):
  Calls Tryz.prog 89 #[.slice (some ⟨g,0,none⟩) d.size cap,.func (.func 32) #[] #[]] w fun e w'=>∃(q k:Nat) (dk:Array (Jw E w)),e=.returned (.slice (some ⟨g,0,none⟩) k cap)/\k<=d.size/\dk.size=d.size/\(rM dk).toList.take k=compactUpTo (rM d) d.size/\(w'=putRow dm (Sort.ahead w q) g 0 dk\/∃n,w'=(putRow dm (Sort.ahead w q) g 0 dk).setCells g k (List.replicate n (.slice none 0 0))):=by
 have HEq:=hid (fun(X:World) (hX:∀b,b≠g->X.heap[b]?=w.heap[b]?) (x y:Jw E w) (nq:Nat)=>(zA x.1.2 y.1.2 x.1.1 y.1.1 E E (X.drewN nq) (bq.keep x.2.1 (fun b hb hlt=>hX b (hE b hb))) (bq.keep y.2.1 (fun b hb hlt=>hX b (hE b hb)))).mono fun e w' h=>(⟨h.1,by obtain⟨m,hm⟩:=h.2;exact⟨nq+m,by rw[hm,World.drewN_drewN]⟩⟩:e=.returned (.bool (decide (x.1.2=y.1.2)))/\∃m,w'=X.drewN m));by_cases h2:d.size<2
 ·have HH:Hid (Holds dm w g 0 d):=hid hH
  clear hH;have h2':(d.size:Int)<2:=aB
  go_enter Tryz.func89,Tryz.ntmps89;go_wp2;go_ret;refine⟨0,d.size,d,rfl,aH,rfl,?_,.inl (putRow_self dm w g 0 d HH.out).symm⟩;rw[compactUpTo_all _ _ (fun j hj=>keeps_lt_one _ j aB)];exact YF
 ·have h2':¬(d.size:Int)<2:=by omega
  go_enter Tryz.func89,Tryz.ntmps89;go_wp2;go_loopw [5] (fun s wr=>∃k:Nat,1<=k/\k<=d.size/\s=.int .i64 k/\Hid (∃q,wr=w.drewN q)/\Hid (∀j,j<k->keeps (rM d) j=true)) (fun s _=>d.size-(intOf s).toNat);case atStart=>exact⟨1,aH,aB,rfl,hid ⟨0,rfl⟩,hid (keeps_lt_one _)⟩
  case round=>
   obtain⟨k,hk1,hk,rfl,HQ,HA⟩:=hrel
   have hHr:Holds dm wr g 0 d:=by
    obtain⟨q,hq⟩:=HQ.out;rw[hq];exact holds_ahead dm w q g 0 d hH
   have HHr:=hid hHr;by_cases hlt:k<d.size
   ·obtain⟨c1,f1⟩:=hHr k hlt
    obtain⟨c0,f0⟩:=hHr (k-1) aB;obtain⟨p,hp⟩:=bB (k-1:Nat);rw[<-hp,Nat.zero_add] at c0 f0;have HX:=hid (HEq.out wr (fun b hb=>by obtain⟨q,hq⟩:=HQ.out;rw[hq];rfl) d[k]! d[p]!)
    have HB:Hid (∀z,z=decide ((d[k]!).1.2=(d[p]!).1.2)->(z=true->keeps (rM d) k=false)/\(z=false->keeps (rM d) k=true)):=hid (by
     rintro z rfl
     have e1:=tA d hlt
     have e2:=tA d (j:=p) aB
     exact⟨fun h=>keeps_neg aB (by rw[<-hp,e1,e2];exact of_decide_eq_true h),fun h=>keeps_pos (by rw[<-hp,e1,e2];exact of_decide_eq_false h)⟩)
    obtain⟨z,hz⟩:=bB (decide ((d[k]!).1.2=(d[p]!).1.2));rw[<-hz] at HX;have HZ:=hid (HB.out z hz);have HH:Hid (Holds dm w g 0 d):=hid hH;have Ap:Hid (∀nq,Calls Tryz.prog 32 #[dm d[k]!,dm d[p]!] (wr.drewN nq) fun e w'=>e=.returned (.bool z)/\∃m,w'=wr.drewN m):=HX;rw[Nat.zero_add] at c1 f1;clear hH hHr hz HB HX;generalize dm d[k]! =u1 at*;generalize dm d[p]! =u0 at*;have hk0:(0:Int)<=k:=aB
    have hk1':(k:Int)<d.size:=aB
    have hkm0:(0:Int)<=(p:Int):=aB
    have hq1:IntKind.i64.wrap ((k:Int)-1)=(p:Int):=by rw[IntWalk.i64_in _ aB];omega
    have hkm1:(p:Int)<d.size:=aB
    have HP:=hid hp;clear hp;cases z with
    |false=>
     go_wp2
     go_quiet ((exact Ap.out _))
     go_wp2
     go_roundw
     case rel=>exact⟨k+1,aB,aB,by go_num,hid (by obtain⟨q,hq⟩:=HQ.out;rw[hq,World.drewN_drewN];exact⟨_,rfl⟩),hid (fun j hj=>by
      by_cases e:j=k
      ·subst e;exact HZ.out.2 trivial
      ·exact HA.out j aB)⟩
     case measure=>simp[intOf];omega
    |true=>
     have hks:¬(d.size:Int)<(k:Int):=aB
     go_wp2
     go_quiet ((exact Ap.out _))
     go_wp2
     clear c1 c0 f1 f0 Ap hq1 hkm0 hkm1 HP
     go_loopw [5,7] (fun s5 s7 w2=>∃(kk k2:Nat) (dk:Array (Jw E w)),s5=.int .i64 kk/\s7=.int .i64 k2/\1<=k2/\k+k2<=d.size/\kk<k+k2/\Hid (dk.size=d.size)/\Hid (∃q,w2=putRow dm (Sort.ahead w q) g 0 dk)/\Hid (CompInv (rM d) (k+k2) kk (rM dk))) (fun _ s7 _=>d.size-(k+(intOf s7).toNat))
     case atStart=>exact⟨k,1,d,rfl,rfl,aH,aB,aB,hid rfl,hid (by
      obtain⟨q,hq⟩:=HQ.out
      rw[hq,World.drewN_drewN]
      exact⟨_,(putRow_self dm (Sort.ahead w _) g 0 d (holds_ahead dm w _ g 0 d HH.out)).symm⟩),hid (CompInv.start HA.out (HZ.out.1 trivial))⟩
     case round=>
      obtain⟨kk,k2,dk,rfl,rfl,h1,hle,hkk,HDs,HW,HI⟩:=hrel;have hds:=HDs.out
      have hHk:Holds dm wr g 0 dk:=by
       obtain⟨q,hq⟩:=HW.out;rw[hq];exact holds_putRow dm _ g 0 d dk (holds_ahead dm w q g 0 d HH.out) hds
      by_cases hlt2:k+k2<d.size
      ·obtain⟨cm,fm⟩:=hHk (k+k2) aB
       obtain⟨cp,fp⟩:=hHk (k+k2-1) aB;obtain⟨ck,fk⟩:=hHk kk aB;obtain⟨p2,hp2⟩:=bB (k2-1:Nat);rw[show 0+(k+k2-1)=k+p2 by omega,show k+k2-1=k+p2 by omega] at cp;rw[Nat.zero_add] at cm ck fk;have HX:=hid (HEq.out wr (fun b hb=>by obtain⟨q,hq⟩:=HW.out;rw[hq];exact tu dm w g q dk hb) dk[k+k2]! dk[k+p2]!)
       have HB:Hid (∀z,z=decide ((dk[k+k2]!).1.2=(dk[k+p2]!).1.2)->(z=true->keeps (rM d) (k+k2)=false)/\(z=false->keeps (rM d) (k+k2)=true)):=hid (by
        rintro z rfl
        have e1:=tA dk (j:=k+k2) aB
        have e2:=tA dk (j:=k+p2) aB
        rw[HI.out.high _ aB] at e1 e2
        have e3:k+k2-1=k+p2:=aB
        exact⟨fun h=>keeps_neg aB (by rw[e3,e1,e2];exact of_decide_eq_true h),fun h=>keeps_pos (by rw[e3,e1,e2];exact of_decide_eq_false h)⟩)
       obtain⟨z,hz⟩:=bB (decide ((dk[k+k2]!).1.2=(dk[k+p2]!).1.2));rw[<-hz] at HX;have HZ2:=hid (HB.out z hz);have Ap:Hid (∀nq,Calls Tryz.prog 32 #[dm dk[k+k2]!,dm dk[k+p2]!] (wr.drewN nq) fun e w'=>e=.returned (.bool z)/\∃m,w'=wr.drewN m):=HX
       have vM:Hid (∀n,∃q,(wr.drewN n).setCell ⟨g,kk,none⟩ (dm dk[k+k2]!)=putRow dm (Sort.ahead w q) g 0 (dk.setIfInBounds kk dk[k+k2]!)):=hid (fun n=>by
        obtain⟨q,hq⟩:=HW.out;rw[hq];have:=putRow_set dm (Sort.ahead w (q+n)) g 0 dk kk dk[k+k2]! aB;rw[Nat.zero_add] at this;exact⟨q+n,by rw[<-this,show (putRow dm (Sort.ahead w q) g 0 dk).drewN n=putRow dm (Sort.ahead w (q+n)) g 0 dk from putRow_drewN dm w g q n dk]⟩)
       have HRw:Hid (rM (dk.setIfInBounds kk dk[k+k2]!)=(rM dk).setIfInBounds kk (rM d)[k+k2]!):=hid (by
        rw[<-HI.out.high (k+k2) aB,tA dk aB]
        simp[rM,Array.map_setIfInBounds])
       have HDs2:Hid ((dk.setIfInBounds kk dk[k+k2]!).size=d.size):=hid (by simp[hds]);have hp0:(0:Int)<=(p2:Int):=aB
       have Ta:IntKind.i64.wrap ((k2:Int)-1)=(p2:Int):=by rw[IntWalk.i64_in _ aB];omega
       have hs1:(k2:Int)<((d.size-k:Nat):Int):=aB
       have hp1:(p2:Int)<((d.size-k:Nat):Int):=aB
       have hk20:(0:Int)<=(k2:Int):=aB
       have Vo:(0:Int)<=(kk:Int):=aB
       have hkk1:(kk:Int)<d.size:=aB
       have Vw:=hid hp2;clear hHk hz HB HX fp hds hp2;obtain⟨a2,n2,c2,mU⟩:∃a n c,dm dk[k+k2]! =.slice a n c:=by obtain⟨a,c,e, -⟩:=(dk[k+k2]!).2.1.form;exact⟨a,_,c,e⟩
       rw[mU] at cm Ap vM;clear mU;generalize dm dk[k+p2]! =u3 at*;generalize dm dk[kk]! =u5 at*;cases z with
       |true=>
        go_wp2
        go_quiet ((exact Ap.out _))
        go_wp2
        go_roundw
        case rel=>exact⟨kk,k2+1,dk,rfl,by go_num,aB,aB,aB,HDs,hid (by
         obtain⟨q,hq⟩:=HW.out
         rw[hq,putRow_drewN]
         exact⟨_,rfl⟩),hid (HI.out.skip (HZ2.out.1 trivial))⟩
        case measure=>simp[intOf];omega
       |false=>
        go_wp2
        go_quiet ((exact Ap.out _))
        go_wp2
        go_roundw
        case rel=>exact⟨kk+1,k2+1,dk.setIfInBounds kk dk[k+k2]!,by go_num,by go_num,aB,aB,aB,HDs2,hid (vM.out _),hid (by
         rw[HRw.out]
         exact HI.out.keep (by simp[rM];omega) (HZ2.out.2 trivial))⟩
        case measure=>simp[intOf];omega
      ·have hend:k+k2=d.size:=by omega
       have hks2:¬(k2:Int)<((d.size-k:Nat):Int):=aB
       have Vo:(0:Int)<=(kk:Int):=aB
       have hkk1:¬(d.size:Int)<(kk:Int):=aB
       have Rt:¬(cap:Int)<(kk:Int):=aB
       have hcl:∀ty,(Builtin.clear_ #[42] ty #[.slice (some ⟨g,kk,none⟩) (d.size-kk) (cap-kk)]).run Tryz.prog wr=.ok (.tuple #[]) (wr.setCells g kk (List.replicate (d.size-kk) (.slice none 0 0))):=
        fun ty=>Lib.run_clear_slice wr 42 22 ty (.slice none 0 0) (by kernel_rfl) (fun _=>by kernel_rfl) rfl rfl g kk _ _ aB (fun j hj=>by have:=(hHk (kk+j) aB).1;rw[Nat.zero_add] at this;rw[this];rfl) (fun j hj=>by have:=(hHk (kk+j) aB).2;rw[Nat.zero_add] at this;exact this)
       have HRes:Hid ((rM dk).toList.take kk=compactUpTo (rM d) d.size):=hid (by
        have hI:=HI.out
        rw[hend] at hI
        apply List.ext_getElem?
        intro j
        rw[List.getElem?_take]
        by_cases hj:j<kk
        ·rw[if_pos hj,hI.low j hj]
         have h9:j<(rM dk).size:=by have:=hI.size;simp[rM] at*;omega
         rw[Array.getElem?_toList,Array.getElem?_eq_getElem h9,getElem!_pos (rM dk) j h9]
        ·rw[if_neg hj,List.getElem?_eq_none (by rw[hI.len];omega)])
       clear hHk hds;go_wp2;go_ret;obtain⟨q,hq⟩:=HW.out;exact⟨q,kk,rfl,aB,dk,HDs.out,by have:=HRes.out;simpa [rM] using this,.inr ⟨_,by rw[hq]⟩⟩
   ·obtain rfl:k=d.size:=by omega
    have HH:Hid (Holds dm w g 0 d):=hid hH;clear hH hHr;obtain⟨q,rfl⟩:=HQ.out;go_wp2;go_ret;refine⟨q,d.size,d,rfl,aH,rfl,?_,.inl (putRow_self dm (Sort.ahead w q) g 0 d (holds_ahead dm w q g 0 d HH.out)).symm⟩;rw[compactUpTo_all _ _ HA.out];exact YF
end Go.Proofs.YtibacilhkciihaaGreatDoor
namespace Go.Proofs.YtibacilhkciihaaGreatDoor
open Go.RowKit Go.Shelf Go.Lib Go.Sort
theorem tB{g:Nat}{e:TypeId}:∀(vs:List Value) (w:World) (c:Array Value) (k:Nat),w.heap[g]?=some (.cells c e (0,0))->
  ∃c',(w.setCells g k vs).heap[g]?=some (.cells c' e (0,0))/\c'.size=c.size/\(∀j,j<k->c'[j]?=c[j]?)/\Turns (·=g) w (w.setCells g k vs)
 |[],w,c,k,h=>⟨c,h,rfl,fun _ _=>rfl,Turns.refl _ _⟩
 |v::vs,w,c,k,h=>by
  obtain⟨c',h1,h2,h3,h4⟩:=tB vs (w.setCell ⟨g,k,none⟩ v) _ (k+1) (heap_setCell_same w g k c e v h);refine⟨c',h1,by rw[h2];simp,fun j hj=>?_,(Turns.setCell (S:=(·=g)) (Turns.refl _ w) ⟨g,k,none⟩ v rfl).trans h4⟩;rw[h3 j aB,Array.getElem?_setIfInBounds,if_neg aB]
theorem wZ(zs:List Cz.Row)(h:zs.Pairwise (fun a b=>¬Cz.dA b a<0)):compactUpTo zs.toArray zs.length=Cz.cT Cz.dA zs:=by
 have hle:∀i j (h1:i<zs.length) (h2:j<zs.length),i<j->¬Cz.dA zs[j] zs[i]<0:=fun i j h1 h2 hij=>List.pairwise_iff_getElem.1 h i j h1 h2 hij
 have hlt:∀a b:Cz.Row,¬Cz.dA b a<0->a≠b->Cz.dA a b<0:=fun a b h1 h2=>by
  have:=Cz.cZ.anti b a;have:=Cz.cZ.anti a b;have:Cz.dA a b≠0:=fun e=>h2 (Cz.cZ.eq _ _ e);omega
 have key:∀m,m<=zs.length->(compactUpTo zs.toArray m).Pairwise (Cz.dA · ·<0)/\∀x,x∈compactUpTo zs.toArray m↔x∈zs.take m:=by
  intro m;induction m with
  |zero=>intro _;simp[compactUpTo]
  |succ m ih=>
   intro hm
   obtain⟨h1,h2⟩:=ih aB
   have hg:zs.toArray[m]! =zs[m]:=by simp[getElem!_pos,show m<zs.length by omega]
   rw[compactUpTo_succ,CY aB]
   by_cases hk:keeps zs.toArray m=true
   ·rw[if_pos hk,hg]
    refine⟨List.pairwise_append.2 ⟨h1,bp,fun x hx y hy=>?_⟩,fun x=>by rw[List.mem_append,List.mem_append,h2]⟩;rw[mL.1 hy];obtain⟨i,hi,rfl⟩:=List.getElem_of_mem ((h2 x).1 hx);rw[LB] at hi;rw[List.getElem_take];have h3:m≠0:=aB
    have hg1:zs.toArray[m-1]! =zs[m-1]:=by simp[getElem!_pos,show m-1<zs.length by omega]
    have hne:zs[m]≠zs[m-1]:=by
     unfold keeps at hk;rw[hg,hg1] at hk;exact(of_decide_eq_true hk).resolve_left h3
    have h5:=hlt zs[m-1] zs[m] (hle (m-1) m aB aB aB) (Ne.symm hne);by_cases e:i=m-1
    ·subst e;exact h5
    ·have h6:=hle i (m-1) aB aB aB
     by_cases q:zs[i]=zs[m-1]
     ·rw[q];exact h5
     ·exact Cz.cZ.trans _ _ _ (hlt _ _ h6 q) h5
   ·rw[if_neg hk,List.append_nil]
    refine⟨h1,fun x=>?_⟩;rw[h2,List.mem_append,mL];refine⟨.inl,fun hx=>hx.elim id (fun hx=>?_)⟩;have h3:m≠0:=fun e=>hk (by simp[keeps,e]);have hg1:zs.toArray[m-1]! =zs[m-1]:=by simp[getElem!_pos,show m-1<zs.length by omega]
    exact YB
 obtain⟨h1,h2⟩:=key zs.length aH;rw[List.take_length] at h2;exact Cz.nI Cz.cZ h1 (Cz.gG Cz.cZ) fun x=>by rw[Cz.ja Cz.cZ];exact h2 x
theorem DH(B:Nat)(E:Nat->Prop)(w:World)(a:Option Addr)(l c:Nat)(xs:List Cz.Row)(h:gX B E w (.slice a l c) xs)(h0:0<xs.length)(hn:xs.length<=1000000)(hs:xs.Pairwise (fun a b=>¬Cz.dA b a<0)):
  Calls Tryz.prog 89 #[.slice a l c,.func (.func 32) #[] #[]] w fun e w'=>e=.returned (.slice a (Cz.cT Cz.dA xs).length c)/\gX B E w' (.slice a (Cz.cT Cz.dA xs).length c) (Cz.cT Cz.dA xs)/\Turns (fun b=>(Value.slice a l c).ownBlock=some b) w w':=by
 obtain⟨us,⟨h1,h1'⟩,h2,h3⟩:=h;rcases h1' with⟨-,h00⟩|⟨g,cap,cur,he,hbg,hg,hroom,hcm,hsz,RU⟩
 ·omega
 ·cases he
  obtain⟨E',hE'⟩:∃E':Nat->Prop,E'=fun b=>E b/\(Value.slice (some ⟨g,0,none⟩) xs.length c).ownBlock≠some b:=⟨_,rfl⟩;rw[<-hE'] at h3;have YE:∀b,E' b->b≠g:=fun b hb e=>by rw[hE'] at hb;exact hb.2 tL
  obtain⟨dl,e1,e2⟩:=Vz us xs h2 h3;have hdl:dl.length=xs.length:=by rw[<-e2,Bp]
  have hlt:=(Array.getElem?_eq_some_iff.1 hg).1;haveI:Inhabited (Jw E' w):=⟨dl[0]' aB⟩
  have hcur:∀j (h:j<dl.length),cur[j]?=some (dm dl[j]):=fun j h=>by
   exact RW
  have hH:Holds dm w g 0 dl.toArray:=fun j hj=>by
   exact RV
  have hS:=DF E' w g c dl.toArray YE hH (by simpa [hdl] using hn) (by simpa [hdl] using hroom);have U7:dl.toArray.size=xs.length:=by simp[hdl]
  have hrw:rM dl.toArray=xs.toArray:=by rw[<-e2];simp[rM]
  rw[U7,hrw,wZ xs hs] at hS;refine Calls.mono hS ?_;rintro e w' ⟨q,k,dk,rfl,hk,hdk,hres,hw⟩
  have hlk:k=(Cz.cT Cz.dA xs).length:=by
   have:=congrArg List.length hres;rw[LB] at this;simp only[rM,Array.length_toList,Array.size_map] at this;omega
  obtain⟨c',hc1,hc2,hc3,NY⟩:∃c',w'.heap[g]?=some (.cells c' 22 (0,0))/\c'.size=cur.size/\(∀j,j<k->c'[j]?=(putCells dm 0 dk cur)[j]?)/\Turns (·=g) w w':=by
   have hr:=JA dm w g q dk hg;have ht:Turns (·=g) w (putRow dm (Sort.ahead w q) g 0 dk):=⟨rfl,rfl,rfl,by simp[putRow,mapBlock],fun b hb hlt=>tu dm w g q dk hb⟩;rcases hw with rfl|⟨n,rfl⟩
   ·exact⟨_,hr,by simp[putCells],fun _ _=>rfl,ht⟩
   ·obtain⟨c',k1,k2,k3,k4⟩:=tB (List.replicate n (.slice none 0 0)) _ _ k hr
    exact⟨c',k1,by rw[k2];simp[putCells],k3,ht.trans k4⟩
  have hkE:aD E' w w':=fun b hb hlt=>NY.block b (YE b hb) hlt;rw[<-hlk];refine⟨rfl,⟨(dk.toList.take k).map (fun x=>x.1.1),⟨lC,.inr ⟨g,c,c',by simp[hlk],hbg,hc1,aB,hcm,by rw[hc2];exact hsz,?_⟩⟩,lC,fun j k1 k2=>?_⟩,⟨NY.os,NY.tape,NY.output,NY.size,fun b hb hl=>NY.block b (fun e=>hb tL) hl⟩⟩
  ·apply List.ext_getElem?
   intro j;rw[List.getElem?_take,<-hlk];by_cases hj:j<k
   ·have hjd:j<dk.size:=by omega
    have Yg:j<cur.size:=by rw[hsz];omega
    rw[if_pos aB,Array.getElem?_toList,hc3 j hj];simp[putCells,Yg,hjd,hj,dm,getElem!_pos]
   ·rw[if_neg aB,List.getElem?_eq_none lC]
  ·have hjd:j<dk.size:=by simp at k1;omega
   have e3:(Cz.cT Cz.dA xs)[j]=(dk[j]).1.2:=by
    have h9:((rM dk).toList.take k)[j]?=(Cz.cT Cz.dA xs)[j]?:=by rw[hres]
    rw[List.getElem?_take,if_pos aB,lE k2] at h9;simp[rM,hjd] at h9;exact h9.symm
   rw[e3];simp only[List.getElem_map,List.getElem_take,Array.getElem_toList];exact bq.mono (bq.keep (dk[j]).2.1 hkE) (fun b _ hb=>by rw[hE'] at hb;exact hb)
end Go.Proofs.YtibacilhkciihaaGreatDoor
namespace Go.Proofs.YtibacilhkciihaaGreatDoor
open Go.RowKit
def zeroCells(n:Nat):Array Value:=(List.replicate n (.int .i64 0)).toArray
theorem zL(n:Nat):madeCells (Value.int .i64 0).cells (n*1)=zeroCells n:=by
 apply Array.ext
 ·simp[madeCells,zeroCells]
 ·intro i h1 h2
  simp[madeCells,zeroCells,Value.cells,Nat.mod_one]
theorem Na{P:Program}{t e:TypeId}{b:Nat}(ht:P.underlying t=some (.slice e))(hi:(P.info? e).map (fun i=>(i.zero,i.size,i.bytes))=some (some (.int .i64 0),1,b))(hb:b<=1000)
  (n:Nat)(hn:n<=1000000)(w:World):
  (Instr.makeSlice t (.int .i64 (n:Int)) (.int .i64 (n:Int))).run P w=.ok (.slice (some ⟨w.heap.size,0,none⟩) n n) (w.alloc (.cells (zeroCells n) e)):=by
 obtain⟨i,h1,h2,h3,h4⟩:=info_parts hi
 have hy:(i.bytes:Int)*(n:Int)<=281474976710656:=by
  exact P8
 have hr:=run_make (P:=P) w t e i (.int .i64 0) ht h1 h2 .i64 .i64 (n:Int) (n:Int) aB aB hy aB;rw[h3,Int.toNat_natCast,zL] at hr;exact hr
theorem JB(w:World)(n:Nat)(hn:n<=1000000):bg (w.heap.size<=·) (w.alloc (.cells (zeroCells n) 3)) (.slice (some ⟨w.heap.size,0,none⟩) n n) (List.replicate n 0):=by
 refine⟨?_,fun b hb=>by simp[Value.ownBlock] at hb;omega⟩;rw[List.length_replicate];refine⟨bp,.inr ⟨w.heap.size,n,zeroCells n,rfl,Nat.zero_le _,heap_alloc_new w _,aH,xJ,by simp[zeroCells],?_⟩⟩;simp[zeroCells]
theorem bg.put{S:Nat->Prop}{w:World}{g n cap:Nat}{zs:List Int}(h:bg S w (.slice (some ⟨g,0,none⟩) n cap) zs)(hn:n=zs.length)(j:Nat)(y:Int):
  bg S (w.setCell ⟨g,j,none⟩ (.int .i64 y)) (.slice (some ⟨g,0,none⟩) n cap) (zs.set j y):=by
 subst hn;refine⟨?_,h.2⟩;rw[List.length_set,List.map_set];exact pu h.1 j _
theorem DI(a:Option Addr)(c:Nat)(v:Value)(w:World):Calls Tryz.prog 89 #[.slice a 0 c,v] w fun e w'=>e=.returned (.slice a 0 c)/\w=w':=by
 go_enter Tryz.func89,Tryz.ntmps89;go_wp2;go_ret;exact⟨rfl,rfl⟩
theorem DJ(B:Nat)(E:Nat->Prop)(w:World)(a:Option Addr)(c:Nat)(xs:List Cz.Row)(h:gX B E w (.slice a xs.length c) xs)(hn:xs.length<=1000000)(hs:xs.Pairwise (fun a b=>¬Cz.dA b a<0)):
  Calls Tryz.prog 89 #[.slice a xs.length c,.func (.func 32) #[] #[]] w fun e w'=>e=.returned (.slice a (Cz.cT Cz.dA xs).length c)/\gX B E w' (.slice a (Cz.cT Cz.dA xs).length c) (Cz.cT Cz.dA xs)/\Turns (fun b=>(Value.slice a xs.length c).ownBlock=some b) w w':=by
 by_cases h0:0<xs.length
 ·exact DH B E w a _ c xs h h0 hn hs
 ·obtain rfl:xs=[]:=List.eq_nil_of_length_eq_zero aB
  refine(DI a c _ w).mono ?_;rintro e w' ⟨rfl,rfl⟩;exact⟨rfl,h,Turns.refl _ _⟩
theorem gX.form{B:Nat}{E:Nat->Prop}{w:World}{v:Value}{xs:List Cz.Row}(h:gX B E w v xs):∃a c,v=.slice a xs.length c:=by
 obtain⟨a,c,e, -⟩:=(gX.sl h).form;exact⟨a,c,e⟩
end Go.Proofs.YtibacilhkciihaaGreatDoor
