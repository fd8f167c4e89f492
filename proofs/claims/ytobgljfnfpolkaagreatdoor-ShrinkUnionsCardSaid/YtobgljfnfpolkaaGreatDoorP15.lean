/- Part 15 of the walks and plain laws that the proof needs (packed). -/
import Derived.Test.YtobgljfnfpolkaaGreatDoorCards
import Derived.Test.YtobgljfnfpolkaaGreatDoorTie
import Derived.WalkKit
import Derived.ProofKit
import Derived.OpenShut
import Derived.Deep.DeepHandedRow
import Derived.Lib.LaidTab
import Derived.Stop.LaidErr
import Derived.MakeChecks
import Derived.LaidMore
import Derived.LaidSub
import Derived.Maps.OwnSet
import Derived.Test.YtobgljfnfpolkaaGreatDoorP5
import Derived.Test.YtobgljfnfpolkaaGreatDoorP9
import Derived.Test.YtobgljfnfpolkaaGreatDoorP14
set_option linter.all false
set_option maxRecDepth 100000
set_option maxHeartbeats 8000000
namespace Go.Proofs.YtobgljfnfpolkaaGreatDoor
open Go.RowKit
theorem MS{x:ah.bD}{W:ah.bK}(h:ah.yE x W){l:List Sub.S}(hl:aF.iD x W l):l.length<=64:=by
 refine Nat.le_trans hl.le ?_;have:2 ^ ah.total W<=2 ^ 6:=Nat.pow_le_pow_right (by omega) h.tot;omega
theorem wu:∀{W:ah.bK},∀r∈W,r.length<=ah.total W
 |[],r,h=>by simp at h
 |a::W,r,h=>by
  have e:ah.total (a::W)=a.length+ah.total W:=by simp[ah.total]
  rcases List.mem_cons.1 h with rfl|h
  ·omega
  ·have:=wu r h;omega
theorem Rb{N1 N2:Nat}{w:World}{ab:Option Addr}{K cb k i:Nat}{M:Sub.S}(hsf:gN (fun b=>N1<=b/\b<N2) w (.slice ab K cb) M)(hk:k<M.length)(hi:i<(M.getD k []).length):
  ∃gb gk ck,ab=some ⟨gb,0,none⟩/\(N1<=gk/\gk<N2)/\(∀V,Below w.heap.size w V->V.cell? ⟨gb,k,none⟩=some (.slice (some ⟨gk,0,none⟩) (M.getD k []).length ck))/\
   (∀V,Below w.heap.size w V->(∃x,V.cell? ⟨gk,i,none⟩=some (.bool x))/\V.frozen? ⟨gk,i,none⟩=false)/\∀V,Below w.heap.size w V->∀x,gN (fun b=>N1<=b/\b<N2) (V.setCell ⟨gk,i,none⟩ (.bool x)) (.slice ab K cb) (Sub.BS M k i x):=by
 obtain⟨uk,Sk,g',cap,e1,EN,kU,VP,abQ,hgs,hset⟩:=gD.inner cV hsf hk;rw[Sub.aR hk] at hi;obtain⟨gk,ck,rfl,Gg,hgl,hat⟩:=kU.sW (by omega);simp only[Value.slice.injEq] at e1;obtain⟨rfl, -,rfl⟩:=e1;refine⟨g',gk,ck,rfl,VP gk Gg,fun V hV=>?_,fun V hV=>?_,fun V hV x=>?_⟩
 ·rw[Sub.aR hk]
  exact(World.cell?_of_block (a:=⟨g',k,none⟩) (hV.block _ (World.block_lt_of_cell? w ⟨g',k,none⟩ EN))).trans EN
 ·obtain⟨⟨x,h1⟩,h2⟩:=hat i hi
  exact⟨⟨x,(World.cell?_of_block (a:=⟨gk,i,none⟩) (hV.block _ hgl)).trans h1⟩,(World.frozen?_of_block (a:=⟨gk,i,none⟩) (hV.block _ hgl)).trans h2⟩
 ·have h3:=hset (V.setCell ⟨gk,i,none⟩ (.bool x)) _ (fZ.set (cV.keep kU (aA.below hV)) rfl i x) (fun b hb hlt=>(Below.heap_setCell _ _ _ _ (show b≠gk from fun e=>hb.2 (e▸Gg))).trans (hV.block b hlt))
  rw[Sub.BS,Sub.aR hk];exact h3
theorem Rc{W:ah.bK}{P:Sub.S}(h:Sub.Fit (aF.shape W) P)(hW:∀r∈W,r.length<=100000):∀r∈P,r.length<=100000:=by
 intro r hr;obtain⟨k,hk,rfl⟩:=List.mem_iff_getElem.1 hr;have h1:=h.2 k;rw[Sub.aR hk,oH] at h1;rw[h1];have hk2:k<W.length:=by have:=h.1;simp[aF.shape] at this;omega
 rw[Sub.aR hk2];exact hW _ (List.getElem_mem _)
theorem unions_any(L L2:List Int)(hL:Fit L)(hK:Fit L2)(a b:Int)(ha1: -9223372036854775808<=a)(ha2:a<=9223372036854775807)(hb1: -9223372036854775808<=b)(hb2:b<=9223372036854775807)(v u:Value)(tb:Nat)(w:World)
  (hv:bO yQ w v L)(hu:bO yQ w u L2)(hlaid:LaidW w)(htab:TabC tb w):
  Calls Tryz.prog 9 #[v,u,.int .i64 a,.int .i64 b] w fun e w'=>e=.returned (.bool true)/\Below w.heap.size w w':=by
 have HA:=hid (And.intro ha1 ha2);have HBb:=hid (And.intro hb1 hb2);have HS:=hid (GQ L hL v w hv);have xC:=hid hlaid;have Yd:=hid htab;have PX:=hid (fun(X:World) (hX:Below w.heap.size w X)=>hu.keep (aA.below hX));have HK:=hid hK;clear ha1 ha2 hb1 hb2 hv hu hlaid htab hL hK;go_enter Tryz.func9,Tryz.ntmps9;go_wp2_with fail;refine HS.out.mono ?_;rintro e w1 ⟨sv,x,rfl,hg,Yx,ac4⟩;have aW:Hid (Below w.heap.size w w1):=hid ac4;obtain⟨ak,ck,al,cl,ar,cr,rfl, -⟩:=Yx.form;have hok:=ah.Sn hg;have Vv:=hid hok;have HSv:=hid Yx;have Nk:=hid (ah.Sh hg);have Bk:=hid (aF.qd (aF.qL hok).1);clear ac4 Yx hok hg HS;obtain⟨w2,hw2⟩:∃V,V=bE w1 x.version (.slice ak x.kinds.length ck) (.slice al x.lives.length cl) (.slice ar x.rules.length cr):=⟨_,rfl⟩;have bB:Hid (Below w1.heap.size w1 w2):=hid (by rw[hw2];exact aQ ..);have HX:Hid (∀W,Below w2.heap.size w2 W->W.heap[w1.heap.size]?=some (.cells #[.int .i64 x.version,.slice ak x.kinds.length ck,.slice al x.lives.length cl,.slice ar x.rules.length cr] 27 (0,0))):=hid (fun W hW=>(hW.block _ (by rw[hw2];simp[bE])).trans (by rw[hw2];exact bf ..));unfold bE at hw2;have HW2:=hid hw2;clear hw2;obtain⟨⟨y0,y1,y2,y3⟩, -⟩:=aO (HX.out w2 aj);go_upto_region 2 with fail;rw[<-HW2.out];have ac5:=adj aW bB.out;have Tg:=hid (K7 x Nk.out (by have:=Bk.out.1;omega) (fun k hk=>by have:=(aF.lS (Bk.out.2.2.2 k hk)).1;omega) L2 HK.out _ u _ _ w2 (HSv.out.keep (aA.below bB.out)) (PX.out w2 ac5.out));go_wp2_with fail;refine Tg.out.mono ?_;rintro e w3 ⟨uw,W,rfl,kW,hwf,hb3⟩;have HW3:=hid hwf.sl;have bG:Hid (Below w2.heap.size w2 w3):=hid hb3;have MT:=adj ac5 hb3;have Rq:=hid kW;have Ps:=hid (aF.Hp kW);clear hwf hb3 kW Tg PX y0 y1 y2 y3;obtain⟨aw,cw,rfl, -, -, -⟩:=HW3.out.form
 have VQ:Hid (l6 tb x W (.agg #[.int .i64 x.version,.slice ak x.kinds.length ck,.slice al x.lives.length cl,.slice ar x.rules.length cr]) (.slice aw W.length cw) w3.heap.size w3):=hid
  {vY:=eU.mono (HSv.out.keep (aA.below (bB.out.trans (bG.out.mono bB.out.size)))) (fun b h _=>h)
   sG:=dc.mono HW3.out (fun b h _=>h)
   laid:=xC.out.next MT.out
   tab:=Yd.out.below MT.out Yd.out.lt (by have:=xC.out.size;omega)
   tbB:=Nat.lt_of_lt_of_le Yd.out.lt MT.out.size
   size:=Nat.le_trans xC.out.size MT.out.size
   le:=aB}
 obtain⟨l,hl⟩:=aF.Jz x W;have Rf:=hid hl;have ud:Hid (ah.total W<=6):=hid Rq.out.tot;have Ej:Hid (W.length<=1000/\∀r∈W,r.length<=1000000):=hid ⟨by have h1:=Rq.out.len;have h2:=Bk.out.1;omega,fun r hr=>by have h1:=wu r hr;have h2:=ud.out;omega⟩;have Rg:=hid (MS Rq.out hl);have Ei:=hid (F3 x W l hl Vv.out Ps.out Ej.out (by have:=ud.out;omega) (by have:=Rg.out;omega) 400 _ _ tb _ w3 VQ.out);have KJ:=hid (fun(X:World) (hX:Below w3.heap.size w3 X)=>nM W Ej.out.1 Ej.out.2 _ _ X (VQ.out.next hX).sG);have sU:=hid (fun(X:World) t U (hX:Below w3.heap.size w3 X) (hs:aP U X t (iC W))=>iZ x W (iC W) (f9 Vv.out Ps.out (aF.iX W)) _ _ t U tb _ X (VQ.out.next hX) hs);clear hl;have Qe:=hid (fun(X:World) (hX:Below w3.heap.size w3 X)=>EW W (by have:=ud.out;omega) _ _ X (VQ.out.next hX).sG);obtain⟨K,hKw⟩:∃n,n=W.length:=⟨_,rfl⟩;rw[<-hKw] at Ei KJ sU Qe ⊢;have Gh:=hid hKw;clear hKw;obtain⟨⟨y0,y1,y2,y3⟩, -⟩:=aO (HX.out w3 bG.out);go_upto_region 3 with fail;go_wp2_with fail;refine Ei.out.mono ?_;rintro e w4 ⟨hb4,hres⟩;have dO:Hid (Below w3.heap.size w3 w4):=hid hb4;clear hb4 y0 y1 y2 y3 Ei
 have hres2:∃aa ca,e=.returned (.tuple #[.slice aa l.length ca,.int .i64 0])/\cW w3.heap.size (w3.heap.size<=·) w4 (.slice aa l.length ca) l:=by
  rcases hres with⟨h, -⟩|⟨-, -,⟨-,h⟩|⟨h, -⟩⟩
  ·omega
  ·exact h
  ·have:=Rg.out;omega
 clear hres;obtain⟨aa,ca,rfl,hrow⟩:=hres2
 have Zw:Hid (∀j (h:j<l.length),∃t,aP (·<w4.heap.size) w4 t l[j]/\∀X,Below w4.heap.size w4 X->X.cell? ⟨aY aa,bC aa+j,none⟩=some t):=hid (fun j h=>by
  obtain⟨t,h1,h2⟩:=hrow.sl.lW h;exact⟨t,aP.mono h1 (fun b hb _=>hb),fun X hX=>h2 X (aA.below hX)⟩)
 have hsl:dG aa l.length:=by
  obtain⟨_,_,e,h1, -⟩:=hrow.form;cases e;exact h1
 have Ji:=hid hsl;have Yr:Hid (∀V,Below w4.heap.size w4 V->V.heap[w1.heap.size]?=some (.cells #[.int .i64 x.version,.slice ak x.kinds.length ck,.slice al x.lives.length cl,.slice ar x.rules.length cr] 27 (0,0))):=hid (fun V hV=>HX.out V (bG.out.trans ((dO.out.trans (hV.mono dO.out.size)).mono bG.out.size)));clear hrow hsl;have h00:((0:Int) !=0)=false:=rfl;have Gv:=hid Rf.out.ne;obtain⟨m,hm⟩:∃m,m=l.length:=⟨_,rfl⟩;rw[<-hm] at Ji Rg ⊢;have HM:=hid hm;clear hm;go_upto_region 4 with fail;have vV:∀xh:Held (fun V=>Below w4.heap.size w4 V),xh.1.cell? ⟨w1.heap.size,0,none⟩=some (.int .i64 x.version):=fun xh=>(aO (Yr.out xh.1 xh.2)).1.1;have sD:∀xh:Held (fun V=>Below w4.heap.size w4 V),xh.1.cell? ⟨w1.heap.size,1,none⟩=some (.slice ak x.kinds.length ck):=fun xh=>(aO (Yr.out xh.1 xh.2)).1.2.1;have sE:∀xh:Held (fun V=>Below w4.heap.size w4 V),xh.1.cell? ⟨w1.heap.size,2,none⟩=some (.slice al x.lives.length cl):=fun xh=>(aO (Yr.out xh.1 xh.2)).1.2.2.1;have vW:∀xh:Held (fun V=>Below w4.heap.size w4 V),xh.1.cell? ⟨w1.heap.size,3,none⟩=some (.slice ar x.rules.length cr):=fun xh=>(aO (Yr.out xh.1 xh.2)).1.2.2.2;refine bF 9 (.quiet 0 (.quiet 1 (.quiet 2 (.one 3 (.one 4 (.quiet 5 (.quiet 6 (.quiet 7 (.quiet 8 .done))))))))) (fun V=>Below w4.heap.size w4 V) (by kernel_rfl) (by kernel_rfl) (below_drewN aj 1) ?_;have fS:Hid (Below w4.heap.size w4 (w4.drewN 1)):=hid (below_drewN aj 1);have dP:Hid (Below w3.heap.size w3 (w4.drewN 1)):=hid (below_drewN dO.out 1);generalize w4.drewN 1=w5 at*
 iterate 3
  refine ai rfl ?_
  intro hne
  go_big_quiet_step (fail)
  refine wpQuiet_nil ?_
  clear hne
 refine aH rfl ?_;go_wp2_with fail;refine(KJ.out w5 dP.out).mono ?_;rintro e w6 ⟨gf,rfl,hsf,lN⟩;have qJ:=adj fS lN;have jC:=adj dP lN;have ac6:=hid (sU.out w6 _ _ jC.out hsf.sl);clear hsf lN fS dP;go_wp2_with fail;refine aC (fun V=>Below w4.heap.size w4 V) (fun _ h=>h) qJ.out ?_;refine aH rfl ?_;go_wp2_with fail;refine ac6.out.mono ?_;rintro e w7 ⟨g,rfl,hsf,jM⟩;have zW:=adj qJ jM;have kN:=adj jC jM;have ac7:Hid (gN (w4.heap.size<=·) w7 (.slice (some ⟨g,0,none⟩) K K) (aF.bP x W)):=hid (bN.mono (S':=(w4.heap.size<=·)) hsf (fun b _ hb=>Nat.le_trans qJ.out.size hb));clear hsf jM qJ jC ac6;go_wp2_with fail;refine aC (fun V=>Below w4.heap.size w4 V) (fun _ h=>h) zW.out ?_
 iterate 4
  refine ai rfl ?_
  intro hne
  go_big_quiet_step (fail)
  refine wpQuiet_nil ?_
  clear hne
 refine aL ?_;try simp only[List.drop_succ_cons,List.drop_zero]
 clear vV sD sE vW;have HS7:=hid ac7.out.sl;have hm0:¬((m:Int)=0):=by have:=Gv.out;have:=HM.out;omega
 have M4:¬((400:Int)<(m:Int)):=by have:=Rg.out;omega
 have hm1:(0:Int)<(m:Int):=by omega
 have hmn:0<m:=by omega
 have hmo:(1:Int)<=(m:Int):=by omega
 have hmp:1<=m:=by omega
 have Ys:(m:Int)<=64:=by have:=Rg.out;omega
 have hmz:¬m=0:=by omega
 have hm2:(0:Int)<=(m:Int)-1:=by omega
 have Ec:(m:Int)-1<(m:Int):=by omega
 have hsl:dG aa m:=Ji.out;obtain⟨t0,ht0,hc0⟩:=Zw.out 0 Rf.out.ne;have hx0:w7.cell? ⟨aY aa,bC aa,none⟩=some t0:=hc0 w7 zW.out
 have TF:Hid (Calls Tryz.prog 38 #[t0] w7 fun e w'=>e=.returned (.int .i64 0)/\Below w7.heap.size w7 w'):=hid (by
  have:=nO (l[0]'Rf.out.ne) (by rw[Rf.out.first];omega) t0 _ w7 (aP.keep ht0 (aA.below zW.out))
  rw[Rf.out.first] at this
  exact this)
 clear ht0 hc0;go_wp2_with fail;refine TF.out.mono ?_;rintro e w8 ⟨rfl,mK⟩;have xE:=adj zW mK;have HS8:=hid (aP.keep HS7.out (aA.below mK));clear hx0 mK TF HS7 ac7;obtain⟨t9,vm,hc9⟩:=Zw.out (l.length-1) (by have:=Gv.out;omega);rw[Rf.out.last] at vm
 have hx9:w8.cell? ⟨aY aa,bC aa+((m:Int)-1).toNat,none⟩=some t9:=by
  rw[show ((m:Int)-1).toNat=l.length-1 by have:=HM.out;omega];exact hc9 w8 xE.out
 have hx9b:w8.cell? ⟨aY aa,bC aa+(m-1),none⟩=some t9:=by rw[HM.out];exact hc9 w8 xE.out
 have HSs:=hid (tP _ _ _ _ _ _ w8 (aP.keep vm (aA.below xE.out)) HS8.out);clear vm hc9;go_wp2_with fail;refine HSs.out.mono ?_;rintro e w9 ⟨z,rfl,hz,hd⟩;have hz1:z=true:=by simpa using hz
 have uo:=adj xE hd.below;subst hz1;clear hz hd hx9 hx9b HSs HS8;go_wp2;go_loopw [15] (fun i wr=>∃k:Nat,1<=k/\k<=m/\i=.int .i64 (k:Int)/\Hid (Below w4.heap.size w4 wr)) (fun i _=>m-(intOf i).toNat);case atStart=>exact⟨1,aB,by omega,rfl,uo⟩
 case round=>
  obtain⟨k,hk1,hk,rfl,iP⟩:=hrel;by_cases hlt:k<m
  ·have hj0:(0:Int)<=(k:Int)-1:=by omega
   have hj4:(1:Int)<=(k:Int):=by omega
   have hj1:(k:Int)-1<(m:Int):=by omega
   have hj2:(0:Int)<=(k:Int):=by omega
   have hj3:(k:Int)<(m:Int):=by omega
   have hkl:k<l.length:=by rw[<-HM.out];exact hlt
   have hkp:k-1<l.length:=by omega
   obtain⟨ta,hta,hca⟩:=Zw.out (k-1) hkp;obtain⟨tc,htc,hcc⟩:=Zw.out k hkl
   have hq1:∀xh:Held (fun V=>Below wr.heap.size wr V),xh.1.cell? ⟨aY aa,bC aa+((k:Int)-1).toNat,none⟩=some ta:=fun xh=>by
    rw[show ((k:Int)-1).toNat=k-1 by omega];exact hca _ (iP.out.trans (xh.2.mono iP.out.size))
   have Px:∀xh:Held (fun V=>Below wr.heap.size wr V),xh.1.cell? ⟨aY aa,bC aa+(k-1),none⟩=some ta:=fun xh=>hca _ (iP.out.trans (xh.2.mono iP.out.size));have xY:∀xh:Held (fun V=>Below wr.heap.size wr V),xh.1.cell? ⟨aY aa,bC aa+k,none⟩=some tc:=fun xh=>hcc _ (iP.out.trans (xh.2.mono iP.out.size))
   have HLe:Hid (∀X,Below w4.heap.size w4 X->Calls Tryz.prog 34 #[ta,tc] X fun e w'=>e=.returned (.bool true)/\Below X.heap.size X w'):=hid (fun X hX=>by
    have h1:=Rf.out.mem l[k-1]|>.1 (List.getElem_mem _);have h2:=Rf.out.mem l[k]|>.1 (List.getElem_mem _);have:=nQ (aF.shape W) l[k-1] l[k] h1.1 h2.1 (by have:=iE h1.1;have:=ud.out;omega) (by have:=iE h2.1;have:=ud.out;omega) (by have:=Ej.out.1;simpa [aF.shape] using (by omega:W.length<=1000000)) ta tc _ _ X (aP.keep hta (aA.below hX)) (aP.keep htc (aA.below hX));rw[aF.vQ Rf.out.sorted hkp hkl (by omega)] at this;exact this)
   clear hta htc hca hcc;go_upto_region 12 with fail;refine bF 9 (.quiet 0 (.quiet 1 (.quiet 2 (.quiet 3 (.quiet 4 (.quiet 5 (.quiet 6 (.quiet 7 (.quiet 8 .done))))))))) (fun V=>Below wr.heap.size wr V) (by kernel_rfl) (by kernel_rfl) (below_drewN aj 1) ?_;have HBq:Hid (Below w4.heap.size w4 (wr.drewN 1)):=hid (below_drewN iP.out 1);generalize wr.drewN 1=wq at*
   iterate 9
    refine ai rfl ?_
    intro hne
    go_big_quiet_step (fail)
    refine wpQuiet_nil ?_
    clear hne
   refine aL ?_;try simp only[List.drop_succ_cons,List.drop_zero]
   clear hq1 xY Px;go_wp2_with fail;refine(HLe.out wq HBq.out).mono ?_;rintro e wz ⟨rfl,hbz⟩;have su:=adj HBq hbz;clear hbz;go_wp2;go_roundw;case rel=>exact⟨k+1,by omega,by omega,by go_num,su⟩
   case measure=>simp[intOf];omega
  ·obtain rfl:m=k:=by omega
   clear hlt hk hk1 uo;have HLf:=hid Rf.out.mem;obtain⟨ia,hia,ac8⟩:∃n:Nat,around a (m:Int)=(n:Int)/\n<m:=⟨(around a m).toNat,by have:=mP a m (by omega);omega,by have:=mP a m (by omega);omega⟩;obtain⟨ib,hib,ac9⟩:∃n:Nat,around b (m:Int)=(n:Int)/\n<m:=⟨(around b m).toNat,by have:=mP b m (by omega);omega,by have:=mP b m (by omega);omega⟩
   have HRa:Hid (∀X,Calls Tryz.prog 13 #[.int .i64 a,.int .i64 (m:Int)] X fun e w'=>e=.returned (.int .i64 (ia:Int))/\X=w'):=hid (fun X=>by
    have:=rS a m X HA.out.1 HA.out.2 (by omega) (by omega);rw[hia] at this;exact this)
   have HRb:Hid (∀X,Calls Tryz.prog 13 #[.int .i64 b,.int .i64 (m:Int)] X fun e w'=>e=.returned (.int .i64 (ib:Int))/\X=w'):=hid (fun X=>by
    have:=rS b m X HBb.out.1 HBb.out.2 (by omega) (by omega);rw[hib] at this;exact this)
   clear hia hib;have i0:(0:Int)<=(ia:Int):=by omega
   have i1:(ia:Int)<(m:Int):=by omega
   have i2:(0:Int)<=(ib:Int):=by omega
   have i3:(ib:Int)<(m:Int):=by omega
   obtain⟨tp,htp,Wg⟩:=Zw.out ia (by rw[<-HM.out];exact ac8);obtain⟨tq,htq,hcq⟩:=Zw.out ib (by rw[<-HM.out];exact ac9);obtain⟨p,hp⟩:∃p,p=l[ia]'(by rw[<-HM.out];exact ac8):=⟨_,rfl⟩;obtain⟨q,hq⟩:∃q,q=l[ib]'(by rw[<-HM.out];exact ac9):=⟨_,rfl⟩;rw[<-hp] at htp;rw[<-hq] at htq;have HPm:Hid (p∈l):=hid (by rw[hp];exact List.getElem_mem _);have HQm:Hid (q∈l):=hid (by rw[hq];exact List.getElem_mem _);have HPf:=hid ((HLf.out p).1 HPm.out).1;have HQf:=hid ((HLf.out q).1 HQm.out).1;clear hp hq;have hxp:wr.cell? ⟨aY aa,bC aa+ia,none⟩=some tp:=Wg wr iP.out;have hxq:wr.cell? ⟨aY aa,bC aa+ib,none⟩=some tq:=hcq wr iP.out;have HTp:=hid (fun X (hX:Below w4.heap.size w4 X)=>aP.keep htp (aA.below hX));have TR:=hid (fun X (hX:Below w4.heap.size w4 X)=>aP.keep htq (aA.below hX));clear htp htq Wg hcq;go_wp2_with fail;refine(HRa.out wr).mono ?_;rintro e w' ⟨rfl,rfl⟩;go_wp2_with fail;refine(HRb.out wr).mono ?_;rintro e w' ⟨rfl,rfl⟩;clear HRa HRb;have Yq:=hid (EZ p (by have:=HPf.out.1;have h2:=Ej.out.1;simp[aF.shape] at this;omega) (Rc HPf.out (fun r hr=>by have:=wu r hr;have:=ud.out;omega)) tp _ wr (HTp.out wr iP.out));have hPl:p.length=K:=by have:=HPf.out.1;simp[aF.shape] at this;rw[Gh.out];exact this
   have HPl:=hid hPl;go_wp2_with fail;refine Yq.out.mono ?_;rintro e gX ⟨ub,rfl,hsf,DN⟩
   obtain⟨ab,cb,rfl⟩:∃ab cb,ub=.slice ab K cb:=by
    obtain⟨x1,x2,e, -⟩:=hsf.sl.form;exact⟨x1,x2,by rw[e,hPl]⟩
   have tX:=adj iP DN;have Rz:=hid (bN.mono (S':=fun b=>wr.heap.size<=b/\b<gX.heap.size) hsf (fun b h1 h2=>⟨h2,h1⟩));have vH:Hid (wr.heap.size<=gX.heap.size):=hid DN.size;have HZb:Hid (w4.heap.size<=wr.heap.size):=hid iP.out.size;clear DN hsf hPl hxp hxq Yq;have Jo:=hid (Qe.out gX (dO.out.trans (tX.out.mono dO.out.size)));go_wp2_with fail;refine Jo.out.mono ?_;rintro e qF ⟨ur,rfl,hat,sq⟩;have pT:=hid (yA.of hat);obtain⟨nr,sx⟩:∃n,n=(jc W).length:=⟨_,rfl⟩
   have hnr6:nr<=6:=by
    rw[sx];have:=vw W W.length aB;rw[List.take_length] at this;have h2:=ud.out;show (ji W W.length).length<=6
    omega
   obtain⟨ac,cc,rfl,hsr⟩:∃ac cc,ur=.slice ac nr cc/\dG ac nr:=by
    obtain⟨x1,x2,e,h1, -⟩:=hat.form;rw[<-sx] at e h1;exact⟨x1,x2,e,h1⟩
   have Gs:=hid sx;have Tp:=adj tX sq;have HZ11:Hid (gX.heap.size<=qF.heap.size):=hid sq.size;have UB:Hid (gN (fun b=>wr.heap.size<=b/\b<gX.heap.size) qF (.slice ab K cb) (yB W p q 0)):=hid (bN.keep Rz.out (aA.below sq));clear hat sx sq Rz Jo iP;obtain⟨N1,hN1⟩:∃n,n=wr.heap.size:=⟨_,rfl⟩;obtain⟨N2,Tl⟩:∃n,n=gX.heap.size:=⟨_,rfl⟩;rw[<-hN1] at UB vH;rw[<-Tl] at UB vH HZ11 pT;have HN1:Hid (w4.heap.size<=N1):=hid (by rw[hN1];exact HZb.out);clear hN1 Tl;go_wp2;go_loopw [20] (fun i wr=>∃n:Nat,n<=nr/\i=.int .i64 (n:Int)/\Hid (gN (fun b=>N1<=b/\b<N2) wr (.slice ab K cb) (yB W p q n))/\Hid (Turns (fun b=>N1<=b/\b<N2) qF wr)) (fun i _=>nr-(intOf i).toNat);case atStart=>exact⟨0,Nat.zero_le _,rfl,UB,hid (Turns.refl _ _)⟩
   case round=>
    obtain⟨n,hn,rfl,Rz,HT⟩:=hrel;have WO:Hid (Below w4.heap.size w4 wr):=hid (Tp.out.trans (HT.out.below Tp.out.size (fun b h=>Nat.le_trans HN1.out h.1)));by_cases hlt:n<nr
    ·have hjn:n<(jc W).length:=by rw[<-Gs.out];exact hlt
     obtain⟨k,i,hz,mg,yq⟩:=JK hjn;have HMf:=F7 (W:=W) (q:=q) HPf.out n;have hkM:k<(yB W p q n).length:=by rw[HMf.1];simpa [aF.shape] using mg
     have hiM:i<((yB W p q n).getD k []).length:=by rw[HMf.2,oH];exact yq
     obtain⟨gb,gk,ck,hab,hgk,hcell,hbit,hput⟩:=Rb Rz.out hkM hiM;have HMs:=hid (MP (q:=q) (p:=p) hjn hz);obtain⟨nb,hnb⟩:∃nb,nb=((yB W p q n).getD k []).length:=⟨_,rfl⟩;rw[<-hnb] at hcell hiM;have hkK:(k:Int)<(K:Int):=by have:=Gh.out;omega
     have hk0:(0:Int)<=(k:Int):=by omega
     have hi0:(0:Int)<=(i:Int):=by omega
     have hin:(i:Int)<(nb:Int):=by omega
     have hn0:(0:Int)<=(n:Int):=by omega
     have hn1:(n:Int)<(nr:Int):=by omega
     have HAy:Hid (yA N2 wr (.slice ac nr cc) (jc W)):=hid (pT.out.kept (fun b hb hl=>HT.out.block b (fun h=>by have h1:=(cG.lt pT.out b hb).1;have h2:=h.2;omega) hl))
     have VG:Hid (∀X,Below wr.heap.size wr X->X.cell? ⟨aY ac,bC ac+n*2,none⟩=some (.int .i64 (k:Int))/\X.cell? ⟨aY ac,bC ac+n*2+1,none⟩=some (.int .i64 (i:Int))):=hid (fun X hX=>by
      have:=(HAy.out.kept (fun b _ hl=>hX.block b hl)).cells hjn;rw[hz] at this;exact this)
     have Aj:Hid (∀X,Below wr.heap.size wr X->Calls Tryz.prog 40 #[tp,.agg #[.int .i64 (k:Int),.int .i64 (i:Int)]] X fun e w'=>e=.returned (.bool (Sub.keeps p k i))/\Below X.heap.size X w'):=hid (fun X hX=>Cz p k i tp _ X (HTp.out X (WO.out.trans (hX.mono WO.out.size))));have LX:Hid (∀X,Below wr.heap.size wr X->Calls Tryz.prog 40 #[tq,.agg #[.int .i64 (k:Int),.int .i64 (i:Int)]] X fun e w'=>e=.returned (.bool (Sub.keeps q k i))/\Below X.heap.size X w'):=hid (fun X hX=>Cz q k i tq _ X (TR.out X (WO.out.trans (hX.mono WO.out.size))));have ada:=hid hput;have adb:=hid hbit;have Tz:=hid hgk;have Bj:∀xh:Held (fun V=>Below wr.heap.size wr V),xh.1.cell? ⟨aY ac,bC ac+n*2,none⟩=some (.int .i64 (k:Int)):=fun xh=>(VG.out xh.1 xh.2).1;have hq1:∀xh:Held (fun V=>Below wr.heap.size wr V),xh.1.cell? ⟨aY ac,bC ac+n*2+1,none⟩=some (.int .i64 (i:Int)):=fun xh=>(VG.out xh.1 xh.2).2;have xY:∀xh:Held (fun V=>Below wr.heap.size wr V),xh.1.cell? ⟨gb,k,none⟩=some (.slice (some ⟨gk,0,none⟩) nb ck):=fun xh=>hcell xh.1 xh.2;clear hput hbit hcell hz mg yq hkM hiM HMf hgk hnb;subst hab;generalize Sub.keeps p k i=bp at*;generalize Sub.keeps q k i=bq at*;go_upto_region 21 with fail;refine bF 27 (.quiet 0 (.quiet 1 (.quiet 2 (.quiet 3 (.quiet 4 (.quiet 5 (.quiet 6 (.quiet 7 (.quiet 8 (.quiet 9 (.quiet 10 (.quiet 11 (.quiet 12 (.quiet 13 (.quiet 14 (.quiet 15 (.quiet 16 (.quiet 17 (.one 18 (.quiet 19 (.quiet 20 (.quiet 21 (.quiet 22 (.quiet 23 (.quiet 24 (.one 25 (.quiet 26 .done))))))))))))))))))))))))))) (fun V=>Below wr.heap.size wr V) (by kernel_rfl) (by kernel_rfl) (below_drewN aj 1) ?_;have HBq:Hid (Below wr.heap.size wr (wr.drewN 1)):=hid (below_drewN aj 1);generalize wr.drewN 1=wq at*
     iterate 18
      refine ai rfl ?_
      intro hne
      go_big_quiet_step (fail)
      refine wpQuiet_nil ?_
      clear hne
     refine aH rfl ?_;go_wp2_with fail;refine(Aj.out wq HBq.out).mono ?_;rintro e wz ⟨rfl,hbz⟩;have su:=adj HBq hbz;clear hbz HBq Aj;go_wp2_with fail;refine aC (fun V=>Below wr.heap.size wr V) (fun _ h=>h) su.out ?_;cases bp
     ·skip
      iterate 6
       refine ai rfl ?_
       intro hne
       go_big_quiet_step (fail)
       refine wpQuiet_nil ?_
       clear hne
      refine aH rfl ?_;go_wp2_with fail;refine(LX.out wz su.out).mono ?_;rintro e wz2 ⟨rfl,ade⟩;have KP:=adj su ade;clear ade;go_wp2_with fail;refine aC (fun V=>Below wr.heap.size wr V) (fun _ h=>h) KP.out ?_;refine ai rfl ?_;intro hne;go_big_quiet_step (fail);refine wpQuiet_nil ?_;clear hne;refine aL ?_;try simp only[List.drop_succ_cons,List.drop_zero]
      clear Bj hq1 xY;obtain⟨⟨xo,hs0⟩,hs1⟩:=adb.out wz2 KP.out;have Zx:Hid (gN (fun b=>N1<=b/\b<N2) (wz2.setCell ⟨gk,i,none⟩ (.bool bq)) (.slice (some ⟨gb,0,none⟩) K cb) (yB W p q (n+1))):=hid (by rw[HMs.out];exact ada.out wz2 KP.out _);have HT':Hid (Turns (fun b=>N1<=b/\b<N2) qF (wz2.setCell ⟨gk,i,none⟩ (.bool bq))):=hid ((HT.out.trans (Turns.aM KP.out)).setCell _ _ Tz.out);go_wp2;go_roundw;case rel=>exact⟨n+1,by omega,by go_num,Zx,HT'⟩
      case measure=>simp[intOf];omega
     ·have Zy:=su
      iterate 6
       refine ai rfl ?_
       intro hne
       go_big_quiet_step (fail)
       refine wpQuiet_nil ?_
       clear hne
      refine aH rfl ?_;go_wp2_with fail;refine aC (fun V=>Below wr.heap.size wr V) (fun _ h=>h) su.out ?_;refine ai rfl ?_;intro hne;go_big_quiet_step (fail);refine wpQuiet_nil ?_;clear hne;refine aL ?_;try simp only[List.drop_succ_cons,List.drop_zero]
      clear Bj hq1 xY;obtain⟨⟨xo,hs0⟩,hs1⟩:=adb.out wz Zy.out;have Zx:Hid (gN (fun b=>N1<=b/\b<N2) (wz.setCell ⟨gk,i,none⟩ (.bool true)) (.slice (some ⟨gb,0,none⟩) K cb) (yB W p q (n+1))):=hid (by rw[HMs.out];exact ada.out wz Zy.out _);have HT':Hid (Turns (fun b=>N1<=b/\b<N2) qF (wz.setCell ⟨gk,i,none⟩ (.bool true))):=hid ((HT.out.trans (Turns.aM Zy.out)).setCell _ _ Tz.out);go_wp2;go_roundw;case rel=>exact⟨n+1,by omega,by go_num,Zx,HT'⟩
      case measure=>simp[intOf];omega
    ·obtain rfl:nr=n:=by omega
     clear hn hlt
     have HUn:Hid (aP (fun b=>N1<=b/\b<N2) wr (.slice ab K cb) (Sub.union (aF.shape W) p q)):=hid (by
      have:=Rz.out.sl
      rw[Gs.out,Q8 HPf.out HQf.out] at this
      exact this)
     have HMem:Hid (Sub.union (aF.shape W) p q∈l):=hid (Rf.out.union HPm.out HQm.out);generalize Sub.union (aF.shape W) p q=U at*;have HWx:Hid (∀X,Below w4.heap.size w4 X->Below w.heap.size w X):=hid (fun X hX=>MT.out.trans ((dO.out.trans (hX.mono dO.out.size)).mono MT.out.size));have HLi:Hid (∀X,Below w4.heap.size w4 X->Calls Tryz.prog 17 #[] X fun e w'=>e=.returned (.bool true)/\Below X.heap.size X w'):=hid (fun X hX=>MR tb X (xC.out.next (HWx.out X hX)) (Yd.out.below (HWx.out X hX) Yd.out.lt (by have:=xC.out.size;omega)));clear Rz HT UB;go_wp2;generalize LY:wr=Wb at*;go_loopw [21] (fun i wr=>∃j:Nat,j<=m/\i=.int .i64 (j:Int)/\Hid (∀j' (h:j'<l.length),j'<j->l[j']≠U)/\Hid (Below Wb.heap.size Wb wr)) (fun i _=>m-(intOf i).toNat);case atStart=>exact⟨0,Nat.zero_le _,rfl,hid (fun _ _ h=>absurd h (by omega)),hid aj⟩
     case round=>
      obtain⟨j,hj,rfl,yd,Qm⟩:=hrel;have Zz:=adj WO Qm.out;by_cases hlt:j<m
      ·have hj0:(0:Int)<=(j:Int):=by omega
       have hj1:(j:Int)<(m:Int):=by omega
       have hjl:j<l.length:=by rw[<-HM.out];exact hlt
       obtain⟨tj,htj,hcj⟩:=Zw.out j hjl;have hxj:wr.cell? ⟨aY aa,bC aa+j,none⟩=some tj:=hcj wr Zz.out;have HSj:=hid (tP _ _ _ _ _ _ wr (aP.keep htj (aA.below Zz.out)) (aP.keep HUn.out (aA.below Qm.out)));clear htj hcj;go_wp2_with fail;refine HSj.out.mono ?_;rintro e wz ⟨z,rfl,hz,hd⟩;have su:=adj Qm hd.below;have ZA:=adj Zz hd.below;have HZ:=hid hz;clear hz hd hxj HSj;cases z
       ·have JF:Hid (∀j' (h:j'<l.length),j'<j+1->l[j']≠U):=hid (fun j' h h2=>by
         by_cases e:j'=j
         ·subst e
          intro e2;have:=HZ.out.2 e2;cases this
         ·exact yd.out j' h (by omega))
        go_wp2;go_roundw;case rel=>exact⟨j+1,by omega,by go_num,JF,su⟩
        case measure=>simp[intOf];omega
       ·go_wp2_with fail
        refine(HLi.out wz ZA.out).mono ?_;rintro e wv ⟨rfl,hbv⟩;have HBv:Hid (Below w.heap.size w wv):=hid ((HWx.out wz ZA.out).trans (hbv.mono (HWx.out wz ZA.out).size));clear hbv;go_wp2;go_ret;exact⟨rfl,HBv.out⟩
      ·exfalso
       obtain⟨j0,h0,e⟩:=List.mem_iff_getElem.1 HMem.out;exact yd.out j0 h0 (by have:=HM.out;omega) e
theorem own:ownKnob Tryz.prog.godebug=none:=by kernel_rfl
theorem laidOut:laidOutB Tryz.prog=true:=by kernel_rfl
def laidL:List (String×DataW Unit):=[("math/bits.deBruijn32tab",Rows.laid_math_bits_deBruijn32tab),("math/bits.deBruijn64tab",Rows.laid_math_bits_deBruijn64tab),("internal/strconv.uint64pow10",Rows.laid_internal_strconv_uint64pow10),("diorama/schema.words",Rows.laid_diorama_schema_words),("diorama/typing.checks",Rows.laid_diorama_typing_checks)]
theorem AO{W:World}(h:laidMetH Tryz.prog laidL W)(n:String)(d:DataW Unit)(hf:(laidL.filter fun x=>x.1==n)=[(n,d)])(hp:d.handleName?.isNone=true):laidMet Tryz.prog [(n,d)] W:=by
 have h1:=h.filter (fun x=>x.1==n);rw[hf,Go.MakeChecks.laidMetH_plain _ _ _ (by simp[hp])] at h1;exact h1
theorem AP{fuel:Nat}{t e:TypeId}{n:Nat}{cs:List Value}{ss:List (List UInt8)}{p:List MemPlace}{H:Type}{enc:TypeId×Value->H}{P:Program}{w:World}{base:Nat}{sp:Nat->Bool}{held:Bool}
  (ht:P.underlying t=some (.array n e))(he:P.underlying e=some .string)(hce:P.cellsOf e=1)(hct:P.cellsOf t=n)
  (h:DataW.trod enc P w base sp held fuel t cs=some (.agg (ss.map fun s=>.lit (.string s)),p)):∀(i:Nat) (s:List UInt8),ss[i]?=some s->cs[i]?=some (.string ⟨s.toArray⟩):=by
 cases fuel with
 |zero=>simp[DataW.trod] at h
 |succ fuel=>
  simp only[DataW.trod,ht,hce,hct,Nat.mul_one] at h
  split at h
  ·rename_i hl
   obtain⟨xs,hm,hx⟩:=Option.map_eq_some_iff.1 h
   have hxs:xs.map (·.1)=ss.map fun s=>(DataW.lit (.string s):DataW H):=by
    have:=congrArg Prod.fst hx;simpa using this
   have hxl:xs.length=n:=by simpa using Lib.mapM_length hm
   have hsl:ss.length=n:=by
    have:=congrArg List.length hxs;simp at this;omega
   intro i s hs
   have hi:i<n:=by
    have:=(List.getElem?_eq_some_iff.1 hs).1;omega
   obtain⟨b,hb,hf⟩:=Lib.mapM_at hm i i (by simp[hi]);obtain⟨z,hc,rfl,_⟩:=DataW.trod_string he hf
   have h1:cs[i]?=some (.string z):=by
    have:=congrArg (·[0]?) hc;simpa [List.getElem?_take,List.getElem?_drop] using this
   have h2:(xs.map (·.1))[i]?=some (DataW.lit (.string z.data.toList):DataW H):=by simp[hb]
   rw[hxs,List.getElem?_map,hs] at h2;simp only[Option.map_some,Option.some.injEq,DataW.lit.injEq,Lit.string.injEq] at h2;rw[h1,h2]
  ·cases h
theorem Rh{W:World}(h:laidMetH Tryz.prog laidL W):LaidW W where
 pow:=by
  have h1:=AO h "internal/strconv.uint64pow10" Rows.laid_internal_strconv_uint64pow10 (by kernel_rfl) (by kernel_rfl);exact Lib.tabIs_of_head (zs:=Lib.pow10Tab) (rest:=[]) Vw (by kernel_rfl:(Tryz.prog.globals[2]?).map (·.type)=some 338) (by kernel_rfl:Tryz.prog.underlying 338=some (.array 20 251)) (by kernel_rfl:Tryz.prog.underlying 251=some (.int .u64)) (by kernel_rfl) (by kernel_rfl) h1
 words k hk:=by
  have h1:=AO h "diorama/schema.words" Rows.laid_diorama_schema_words (by kernel_rfl) (by kernel_rfl);obtain⟨ps,⟨g',t',cs,fuel,p,q,hg',ht',hvar,hd,_,_⟩,_⟩:=h1;obtain rfl:=Option.some.inj ((show Tryz.prog.globalNamed "diorama/schema.words" =some 1 by kernel_rfl).symm.trans hg');obtain rfl:=Option.some.inj ((show (Tryz.prog.globals[1]?).map (·.type)=some 323 by kernel_rfl).symm.trans ht');have h2:=World.var?_cell hg' hvar k;rw[h2,<-Array.getElem?_toList];refine AP (n:=9) (e:=9) (ss:=[[107,101,121],[114,101,102],[110,117,109],[112,105,99,107],[100,97,121],[115,116,101,112],[115,117,109],[115,104,97,114,101],[99,111,112,121]]) (by kernel_rfl) (by kernel_rfl) (by kernel_rfl) (by kernel_rfl) hd k _ ?_;have:k=0\/k=1\/k=2\/k=3\/k=4\/k=5\/k=6\/k=7\/k=8:=by omega
  rcases this with rfl|rfl|rfl|rfl|rfl|rfl|rfl|rfl|rfl<;>rfl
 size:=by
  have h1:=AO h "math/bits.deBruijn64tab" Rows.laid_math_bits_deBruijn64tab (by kernel_rfl) (by kernel_rfl);obtain⟨ps,⟨g',t',cs,fuel,p,q,hg',ht',hvar,hd,_,_⟩,_⟩:=h1;obtain rfl:=Option.some.inj ((show Tryz.prog.globalNamed "math/bits.deBruijn64tab" =some 4 by kernel_rfl).symm.trans hg');have h2:=World.var?_cell hg' hvar 0
  have:4<W.heap.size:=by
   unfold World.var? at hvar;rw[hg'] at hvar;refine Nat.lt_of_not_le fun hle=>?_;simp[Array.getElem?_eq_none hle] at hvar
  omega
theorem UC{P:Program}{t f:TypeId}{fs:Array Field}(ht:P.underlying t=some (.struct fs))(hs1:fs.size=1)(hf0:(fs[0]?).map (fun x=>(x.type,x.offset))=some (f,0))(hc:P.cellsOf t=1)(hf:P.cellsOf f=1){H:Type}{enc:TypeId×Value->H}{w:World}{base:Nat}{sp:Nat->Bool}{held:Bool}{n:Nat}{v:Value}{d:DataW H}{ps:List MemPlace}
  (hv:v.formed P t=true)(h:DataW.trod enc P w base sp held n t v.cells.toList=some (.agg [d],ps)):∃c m q,v=.agg #[c]/\DataW.trod enc P w base sp held m f [c]=some (d,q):=by
 obtain⟨xs,m,rfl,hx,hl,hxl,hall⟩:=DataW.trod_struct ht h
 have hv':∃cs,v=.agg cs/\cs.size=1:=by
  cases v<;>simp[Value.formed,ht,hc] at hv;exact⟨_,rfl,hv⟩
 obtain⟨cs,rfl,hs⟩:=hv';obtain⟨c,rfl⟩:∃c,cs=#[c]:=Array.size_eq_one_iff.1 hs;obtain⟨fd,OP,Z7⟩:=Option.map_eq_some_iff.1 hf0;obtain⟨hft,hfo⟩:=Prod.mk.inj Z7;have h0:=hall 0 fd OP;rw[hft,hfo] at h0;obtain⟨y,hy⟩:∃y,xs=[y]:=List.length_eq_one_iff.1 (by omega);subst hy;simp[hf,Value.cells] at h0;have h1:=congrArg Prod.fst hx;simp at h1;exact⟨c,m,y.2,rfl,by rw[h0,h1]⟩
def F8(f:TypeId):TypeDesc->Bool
 | .struct fs=>decide (fs.size=1)&&decide ((fs[0]?).map (fun x=>(x.type,x.offset))=some (f,0))
 |_=>false
theorem MU:∃fs,Tryz.prog.underlying 238=some (.struct fs)/\fs.size=1/\(fs[0]?).map (fun x=>(x.type,x.offset))=some (237,0):=by
 have h:(Tryz.prog.underlying 238).map (F8 237)=some true:=by kernel_rfl
 obtain⟨d,hd,ho⟩:=Option.map_eq_some_iff.1 h;cases d<;>simp[F8] at ho;exact⟨_,hd,ho.1,by simpa using ho.2⟩
theorem UD{W:World}(h:laidMetH Tryz.prog laidL W):∃b,TabC b W:=by
 obtain⟨g,t,cs,fuel,p,hg,ht,hv,hd⟩:=h.funcs (n:= "diorama/typing.checks") (List.Mem.tail _ (List.Mem.tail _ (List.Mem.tail _ (List.Mem.tail _ (List.Mem.head _)))));obtain rfl:=Option.some.inj ((show Tryz.prog.globalNamed "diorama/typing.checks" =some 0 by kernel_rfl).symm.trans hg);obtain rfl:=Option.some.inj ((show (Tryz.prog.globals[0]?).map (·.type)=some 240 by kernel_rfl).symm.trans ht);have hu:Tryz.prog.underlying 240=some (.map 3 238):=by kernel_rfl
 rcases Go.WideElems.open_map hu hd with⟨-,e⟩|⟨b,es,clock,n,rfl,hcs,hb, -,F,e⟩
 ·cases congrArg Prod.fst e
 have e1:=congrArg Prod.fst e;simp only at e1;refine⟨b,?_,(Array.getElem?_eq_some_iff.1 hb).1,fun W' hW k h0 h8=>?_⟩
 ·have:=World.var?_cell hg hv 0
  rw[Array.eq_one_of_toList hcs] at this;simpa using this
 ·have hz:(zeroValue 238).run Tryz.prog W'=.ok (.agg #[.nilFunc]) W':=by kernel_rfl
  have hkey:keyOf Tryz.prog 3 (.int .i64 k)=some (.int .i64 k):=by
   have:k=0\/k=1\/k=2\/k=3\/k=4\/k=5\/k=6\/k=7\/k=8:=by omega
   rcases this with rfl|rfl|rfl|rfl|rfl|rfl|rfl|rfl|rfl<;>first
    |exact(by kernel_rfl:keyOf Tryz.prog 3 (.int .i64 0)=some (.int .i64 0))
    |exact(by kernel_rfl:keyOf Tryz.prog 3 (.int .i64 1)=some (.int .i64 1))
    |exact(by kernel_rfl:keyOf Tryz.prog 3 (.int .i64 2)=some (.int .i64 2))
    |exact(by kernel_rfl:keyOf Tryz.prog 3 (.int .i64 3)=some (.int .i64 3))
    |exact(by kernel_rfl:keyOf Tryz.prog 3 (.int .i64 4)=some (.int .i64 4))
    |exact(by kernel_rfl:keyOf Tryz.prog 3 (.int .i64 5)=some (.int .i64 5))
    |exact(by kernel_rfl:keyOf Tryz.prog 3 (.int .i64 6)=some (.int .i64 6))
    |exact(by kernel_rfl:keyOf Tryz.prog 3 (.int .i64 7)=some (.int .i64 7))
    |exact(by kernel_rfl:keyOf Tryz.prog 3 (.int .i64 8)=some (.int .i64 8))
  have hK:Maps.Keyed Tryz.prog 3:=Maps.int_keyed (by kernel_rfl:Tryz.prog.underlying 3=some (.int .i64));have hf:Tryz.prog.underlying 237=some (.func #[242] #[37] false):=by kernel_rfl
  rcases Maps.fit_look true hK hu hz (hW.trans hb) F hkey with⟨hrun,_,hat⟩|⟨e0,y,_,_,hrun,hRv,hat,_⟩
  ·rw[<-e1] at hat
   have no:yo k=none:=by
    have:=hat .nil;have:k=0\/k=1\/k=2\/k=3\/k=4\/k=5\/k=6\/k=7\/k=8:=by omega
    rcases this with rfl|rfl|rfl|rfl|rfl|rfl|rfl|rfl|rfl<;>first|rfl|(exfalso;cases hat .nil)
   rw[no];unfold LO;rw[no];exact hrun
  ·rw[<-e1] at hat
   unfold Go.WideElems.elemAt at hRv;split at hRv
   ·rename_i hfm
    obtain⟨fs,hfs,h1,h2⟩:=MU
    have at_:∀(b0:UInt8) (r:List UInt8) (fo:Nat),y.1=.agg [.held (b0::r)]->((List.range Tryz.prog.funcs.size).filter fun f=>(Tryz.prog.funcs[f]?).any (·.name.toUTF8.data.toList==b0::r))=[fo]->e0.val=.agg #[.func (.func fo) #[] #[]]:=fun b0 r fo hy hone=>by
     obtain⟨c,m,q,hv,hc⟩:=UC hfs h1 h2 (by kernel_rfl) (by kernel_rfl) hfm (hRv.trans (by rw[<-hy]));rw[hv,func_of_trod hf hone hc]
    have:k=0\/k=1\/k=2\/k=3\/k=4\/k=5\/k=6\/k=7\/k=8:=by omega
    rcases this with rfl|rfl|rfl|rfl|rfl|rfl|rfl|rfl|rfl
    ·have hv:=at_ 100 [105,111,114,97,109,97,47,116,121,112,105,110,103,46,99,104,101,99,107,115,36,49] 276 (hat .nil).symm (by kernel_rfl)
     rw[hv] at hrun;exact hrun
    ·have hv:=at_ 100 [105,111,114,97,109,97,47,116,121,112,105,110,103,46,99,104,101,99,107,115,36,50] 277 (hat .nil).symm (by kernel_rfl)
     rw[hv] at hrun;exact hrun
    ·exfalso
     have g1:=hat .nil;have g2:=hat (.lit (.bool true));rw[<-g1] at g2;cases g2
    ·exfalso
     have g1:=hat .nil;have g2:=hat (.lit (.bool true));rw[<-g1] at g2;cases g2
    ·have hv:=at_ 100 [105,111,114,97,109,97,47,116,121,112,105,110,103,46,99,104,101,99,107,115,36,51] 278 (hat .nil).symm (by kernel_rfl)
     rw[hv] at hrun;exact hrun
    ·have hv:=at_ 100 [105,111,114,97,109,97,47,116,121,112,105,110,103,46,99,104,101,99,107,115,36,52] 279 (hat .nil).symm (by kernel_rfl)
     rw[hv] at hrun;exact hrun
    ·have hv:=at_ 100 [105,111,114,97,109,97,47,116,121,112,105,110,103,46,99,104,101,99,107,115,36,53] 281 (hat .nil).symm (by kernel_rfl)
     rw[hv] at hrun;exact hrun
    ·have hv:=at_ 100 [105,111,114,97,109,97,47,116,121,112,105,110,103,46,99,104,101,99,107,115,36,54] 282 (hat .nil).symm (by kernel_rfl)
     rw[hv] at hrun;exact hrun
    ·have hv:=at_ 100 [105,111,114,97,109,97,47,116,121,112,105,110,103,46,99,104,101,99,107,115,36,55] 284 (hat .nil).symm (by kernel_rfl)
     rw[hv] at hrun;exact hrun
   ·cases hRv
theorem laidT_of{W:World}(h:laidMetH Tryz.prog laidL W):LaidW W/\∃b,TabC b W:=⟨Rh h,UD h⟩
noncomputable def laidWorld (os:Os):World:=World.doorLaid Tryz.prog 76 os
theorem wf_bounds{n:Int}(h:(Lit.int .i64 n).wf=true): -9223372036854775808<=n/\n<=9223372036854775807:=by
 simp[Lit.wf,IntKind.min,IntKind.max,IntKind.signed,IntKind.bits] at h;omega
theorem Ri{α:Type}{l:List α}{i:Nat}{d:α}(h:i<l.length):l.getD i d=l[i]:=by
 rw[List.getD_eq_getElem?_getD,List.getElem?_eq_getElem h,Option.getD_some]
theorem row_ints{w:World}{a:Option Addr}{len cap:Nat}{zs:List Int}
  (h:(a=none/\len=0/\cap=0/\zs=[])\/∃x,a=some x/\len<=cap/\cap<=maxLen/\zs.length=cap/\(∀i,i<zs.length->w.cell? (x.add i)=some (.int .i64 (zs.getD i 0)))/\∀n∈zs,(Lit.int .i64 n).wf=true):
  bO yQ w (.slice a len cap) (zs.take len)/\Fit (zs.take len):=by
 rcases h with⟨rfl,rfl,rfl,rfl⟩|⟨x,rfl,h1,h2,h3,h4,h5⟩
 ·exact⟨eX.nil _ _ _,fun x hx=>by simp at hx⟩
 ·have hl:(zs.take len).length=len:=by rw[List.length_take];omega
  refine⟨⟨some x,cap,by rw[hl],fun h0=>?_,by omega,h2,fun _=>trivial,fun j hj=>?_⟩,fun n hn=>?_⟩
  ·obtain⟨b,o,e,_⟩:=ints_at h4 (by omega)
   exact⟨b,o,by rw[e]⟩
  ·obtain⟨b,o,e,hc⟩:=ints_at h4 (by omega)
   subst e;refine⟨_,hc j (by omega),?_⟩;rw[List.getElem_take,Ri (by omega)]
  ·exact wf_bounds (h5 n (List.mem_of_mem_take hn))
end Go.Proofs.YtobgljfnfpolkaaGreatDoor
