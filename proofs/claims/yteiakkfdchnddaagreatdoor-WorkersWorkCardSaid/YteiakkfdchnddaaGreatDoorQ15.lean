/- Part 15 of the walks and plain laws that the proof needs (packed). -/
import Derived.BigQuiet
import Derived.Deep.DeepCutAuto
import Derived.Deep.QuietTactic
import Derived.Test.YteiakkfdchnddaaGreatDoorQ1
import Derived.Test.YteiakkfdchnddaaGreatDoorQ3
import Derived.Test.YteiakkfdchnddaaGreatDoorQ7
import Derived.Test.YteiakkfdchnddaaGreatDoorQ10
import Derived.Test.YteiakkfdchnddaaGreatDoorQ12
import Derived.Test.YteiakkfdchnddaaGreatDoorQ14
set_option linter.all false
set_option maxRecDepth 100000
set_option maxHeartbeats 8000000
namespace Go.Proofs.YteiakkfdchnddaaGreatDoor
open Go.RowKit
theorem Tryz.appE:jW Tryz.prog 45 51 3 24:=gE (z:=.agg #[.int .i64 0,.int .i64 0,.int .i64 0]) (by kernel_rfl) (by kernel_rfl) rfl aC aC
def EvV(_:Nat->Prop)(_:World)(us:List Value)(e:Int×Int×Int):Prop:=us=[.int .i64 e.1,.int .i64 e.2.1,.int .i64 e.2.2]
theorem tS:cD EvV:=⟨fun h _=>h,fun h _=>h⟩
abbrev EvF(B:Nat):=bC 3 EvV (fun _=>False) B 51
theorem EvF.ats{B:Nat}{w:World}{a:Option Addr}{n c:Nat}{yR:List (Int×Int×Int)}(h:EvF B w (.slice a n c) yR){X:World}(hX:∀b,B<=b->b<w.heap.size->X.heap[b]?=w.heap[b]?){j:Nat}(hj:j<yR.length):
  X.cell? ⟨bD a,bJ a+j*3,none⟩=some (.int .i64 yR[j].1)/\X.cell? ⟨bD a,bJ a+j*3+1,none⟩=some (.int .i64 yR[j].2.1)/\X.cell? ⟨bD a,bJ a+j*3+2,none⟩=some (.int .i64 yR[j].2.2):=by
 have h1:=bC.sl (T:=(B<=·)) tS (h.keep tS (fun b hb hl=>by
  rcases hb with hb|hb
  ·exact hb.elim
  ·exact hX b (bC.lt h b hb).1 hl)) (fun _ _ hb=>hb.elim) (fun b hb=>(bC.lt h b hb).1)
 obtain⟨-,us, -,h3,h4⟩:=dO.at h1 hj;obtain rfl:us=_:=h4;exact⟨h3 0 _ rfl,h3 1 _ rfl,h3 2 _ rfl⟩
theorem QT{a b c:Int}:∀u∈[Value.int .i64 a,.int .i64 b,.int .i64 c],u.oneCell'=true:=by
 intro u hu;simp only[kM,vE,or_false] at hu;rcases hu with rfl|rfl|rfl<;>rfl
theorem Ab{w:World}{F:Nat}{x0 x1 x2:Value}{t:TypeId}(h:w.heap[F]?=some (.cells #[x0,x1,x2] t (0,0))):
  w.cell? ⟨F,0,none⟩=some x0/\w.cell? ⟨F,1,none⟩=some x1/\w.cell? ⟨F,2,none⟩=some x2:=⟨(aF h 0).trans rfl,(aF h 1).trans rfl,(aF h 2).trans rfl⟩
theorem qO{b:Nat}{wr V:World}{K:Nat}{x0 x1 x2:Value}{t:TypeId}(ht:Turns (·=b) wr V)(hK:wr.heap.size<=K)(h:V.heap[K]?=some (.cells #[x0,x1,x2] t (0,0)))(a c d:Int)(hb:wr.heap.size<=b:=by exact aH):
  (((V.setCell ⟨K,0,none⟩ (.int .i64 a)).setCell ⟨K,1,none⟩ (.int .i64 c)).setCell ⟨K,2,none⟩ (.int .i64 d)).heap[K]?=some (.cells #[.int .i64 a,.int .i64 c,.int .i64 d] t (0,0))/\wr.heap.size<=K/\
   BL wr (((V.setCell ⟨K,0,none⟩ (.int .i64 a)).setCell ⟨K,1,none⟩ (.int .i64 c)).setCell ⟨K,2,none⟩ (.int .i64 d)):=
 ⟨heap_setCell_same _ K 2 _ _ _ (heap_setCell_same _ K 1 _ _ _ (heap_setCell_same _ K 0 _ _ _ h)),hK,(((ht.below aH (fun y hy=>by subst hy;exact hb)).setCell (p:=⟨K,0,none⟩) hK _).setCell (p:=⟨K,1,none⟩) hK _).setCell (p:=⟨K,2,none⟩) hK _⟩
theorem Oa(l:List Int)(i:Int)(h0:0<=i)(h1:i<l.length):∃x,((l.map (Value.int .i64)).toArray:Array Value)[i.toNat]?=some (.int .i64 x):=⟨l[i.toNat]' aC,by simp⟩
theorem Fu{p:Prop}(h:p:=by
  go_wp2
  go_meet
  case rel=>exact⟨_,_,_,_,rfl,hid HE.out.1,hid HE.out.2.1,hid HE.out.2.2⟩):p:=h
theorem abQ{p:Prop}(h:p:=by
  go_wp2
  go_ret
  first|exact⟨_,rfl,yR,HO.out,by rw[mZ.out];exact hn6,HB.out⟩|exact⟨_,yR,rfl,HO.out,by rw[mZ.out];exact hn6,HB.out⟩):p:=h
theorem C4(L:List Int)(hL:Fit L)(v:Value)(S:Nat->Prop)(w:World)(hv:cH S w v L):
  Calls Tryz.prog 11 #[v,.int .i64 3] w fun e w'=>∃u yR,e=.returned u/\EvF w.heap.size w' u yR/\yR.length<=60/\BL w w':=by
 obtain⟨a,cap,rfl,hok, -,hmx⟩:=hv.form;have HV:=hid (fun(i:Nat) X (hX:BL w X)=>Bc L hL _ (i:Int) 1048576 S X (hv.keep (aB.below hX)) aC aC aC);obtain⟨m,hm⟩:=aV L.length;rw[<-hm] at HV hok ⊢;clear hm hv hL;go_enter Tryz.func11,Tryz.ntmps11;go_wp2;go_loopw [5,6] (fun l ii wr=>∃(n:Nat) (am:Option Addr) (cm:Nat) (yR:List (Int×Int×Int)),n<=60/\n<=m/\l=.slice am n cm/\ii=.int .i64 (n:Int)/\Hid (yR.length=n)/\Hid (EvF w.heap.size wr (.slice am n cm) yR)/\Hid (BL w wr)) (fun _ ii _=>m-(intOf ii).toNat);case atStart=>exact⟨0,none,0,[],by omega,by omega,rfl,rfl,hid rfl,hid (bC.nil _ _ _ _ _ _),hid ay⟩
 case round=>
  obtain⟨n,am,cm,yR,hn6,hn,rfl,rfl,mZ,HO,HB⟩:=hrel;have hn0:(0:Int)<=(n:Int):=by omega
  by_cases hlt:n<m
  ·have hn1:(n:Int)<(m:Int):=by omega
   by_cases h60:n<60
   ·have hn2:(n:Int)<60:=by omega
    have HA:=hid (HV.out n wr HB.out);have hkl:=xV L n 1048576 aC;rw[Int.toNat_natCast] at HA;generalize Q6 L n 1048576=kk at*;obtain⟨hk0,hk1⟩:=hkl;go_wp2_with fail;refine HA.out.mono ?_;rintro e w' ⟨rfl,rfl⟩;clear HA;go_upto_region 6 with fail;go_cut [8] from 22 to 37 (fun p wx=>∃g,∃x y z:Int,p=.pointer (some ⟨g,0,none⟩)/\Hid (wx.heap[g]?=some (.cells #[.int .i64 x,.int .i64 y,.int .i64 z] 51 (0,0)))/\Hid (wr.heap.size<=g)/\Hid (BL wr wx))
    case first=>
     have h12a:0<=kk / 16 % 12:=by omega
     have h12b:kk / 16 % 12<12:=by omega
     have h4a:0<=kk / 192 % 4:=by omega
     have h4b:kk / 192 % 4<4:=by omega
     obtain⟨NA,ahx⟩:=Oa [0,0,1,1,1,2,2,2,3,4,5,5] (kk / 16 % 12) h12a (by simpa using h12b);obtain⟨x4,yd⟩:=Oa [0,0,1,7] (kk / 192 % 4) h4a (by simpa using h4b);have WA:=hid ahx;have HX4:=hid yd;clear ahx yd;have dF:=hid (RG.start wr.heap.size wr);obtain⟨V0,rY⟩:=aV (wr.drewN 1);refine cE 17 (.quiet 0 (.quiet 1 (.quiet 2 (.quiet 4 (.quiet 5 (.quiet 6 (.quiet 10 (.quiet 11 (.quiet 12 (.three 3 9 16 (.quiet 7 (.quiet 8 (.two 9 16 (.quiet 13 (.quiet 14 (.quiet 15 (.one 16 .done)))) (.one 9 (.quiet 13 (.quiet 14 (.quiet 15 .done))))))) (.quiet 13 (.quiet 14 (.two 3 16 (.quiet 7 (.quiet 8 (.quiet 15 (.one 16 .done)))) (.one 3 (.quiet 7 (.quiet 8 (.quiet 15 .done))))))) (.two 3 9 (.quiet 7 (.quiet 8 (.one 9 (.quiet 13 (.quiet 14 (.quiet 15 .done)))))) (.quiet 13 (.quiet 14 (.one 3 (.quiet 7 (.quiet 8 (.quiet 15 .done))))))))))))))))) (RG wr.heap.size wr []) lN (by kernel_rfl) dF.out ?_;rw[<-rY] at dF ⊢;clear rY
     iterate 9 refine eB ?_
     refine rV rfl rfl rfl ?p1 ?p2 ?p3
     case p1=>
      go_wp2;obtain⟨V4,WW⟩:=aV (V0.alloc (.cells #[.int .i64 0,.int .i64 0,.int .i64 1,.int .i64 1,.int .i64 1,.int .i64 2,.int .i64 2,.int .i64 2,.int .i64 3,.int .i64 4,.int .i64 5,.int .i64 5] 3));have DI:=hid (dF.out.alloc #[.int .i64 0,.int .i64 0,.int .i64 1,.int .i64 1,.int .i64 1,.int .i64 2,.int .i64 2,.int .i64 2,.int .i64 3,.int .i64 4,.int .i64 5,.int .i64 5] 3);rw[<-WW] at DI ⊢;refine aD (RG wr.heap.size wr [(V0.heap.size,#[.int .i64 0,.int .i64 0,.int .i64 1,.int .i64 1,.int .i64 1,.int .i64 2,.int .i64 2,.int .i64 2,.int .i64 3,.int .i64 4,.int .i64 5,.int .i64 5],3)]) (fun _ h=>h.tail) DI.out ?_;clear WW;refine aL rfl ?_;intro hne;have hq:dI (some ⟨V0.heap.size,0,none⟩) 12:=fun _=>⟨_,_,rfl⟩;go_big_quiet_step (fail);refine fS ?_;clear hne hq;refine aL rfl ?_;intro hne;have hq:∀x1:Held (RG wr.heap.size wr [(V0.heap.size,#[.int .i64 0,.int .i64 0,.int .i64 1,.int .i64 1,.int .i64 1,.int .i64 2,.int .i64 2,.int .i64 2,.int .i64 3,.int .i64 4,.int .i64 5,.int .i64 5],3)]),x1.1.cell? ⟨V0.heap.size,(kk / 16 % 12).toNat,none⟩=some (.int .i64 NA):=fun x1=>RG.cell x1 V0.heap.size #[.int .i64 0,.int .i64 0,.int .i64 1,.int .i64 1,.int .i64 1,.int .i64 2,.int .i64 2,.int .i64 2,.int .i64 3,.int .i64 4,.int .i64 5,.int .i64 5] 3 aZ WA.out;go_big_quiet_step (fail);refine fS ?_;clear hne hq;refine dG rfl rfl ?p5 ?p6
      case p5=>
       go_wp2;obtain⟨V7,hV7⟩:=aV (V4.alloc (.cells #[.int .i64 0,.int .i64 0,.int .i64 1,.int .i64 7] 3));have FH:=hid (DI.out.alloc #[.int .i64 0,.int .i64 0,.int .i64 1,.int .i64 7] 3);rw[<-hV7] at FH ⊢;refine aD (RG wr.heap.size wr [(V4.heap.size,#[.int .i64 0,.int .i64 0,.int .i64 1,.int .i64 7],3),(V0.heap.size,#[.int .i64 0,.int .i64 0,.int .i64 1,.int .i64 1,.int .i64 1,.int .i64 2,.int .i64 2,.int .i64 2,.int .i64 3,.int .i64 4,.int .i64 5,.int .i64 5],3)]) (fun _ h=>h.tail) FH.out ?_;clear hV7;refine aL rfl ?_;intro hne;have hq:dI (some ⟨V4.heap.size,0,none⟩) 4:=fun _=>⟨_,_,rfl⟩;go_big_quiet_step (fail);refine fS ?_;clear hne hq;refine aL rfl ?_;intro hne;have hq:∀x1:Held (RG wr.heap.size wr [(V4.heap.size,#[.int .i64 0,.int .i64 0,.int .i64 1,.int .i64 7],3),(V0.heap.size,#[.int .i64 0,.int .i64 0,.int .i64 1,.int .i64 1,.int .i64 1,.int .i64 2,.int .i64 2,.int .i64 2,.int .i64 3,.int .i64 4,.int .i64 5,.int .i64 5],3)]),x1.1.cell? ⟨V4.heap.size,(kk / 192 % 4).toNat,none⟩=some (.int .i64 x4):=fun x1=>RG.cell x1 V4.heap.size #[.int .i64 0,.int .i64 0,.int .i64 1,.int .i64 7] 3 aZ HX4.out;go_big_quiet_step (fail);refine fS ?_;clear hne hq;refine eB ?_;refine aM rfl ?_;go_wp2;obtain⟨V8,WX⟩:=aV (V7.alloc (.cells #[.int .i64 0,.int .i64 0,.int .i64 0] 51));have uU:=hid (FH.out.alloc #[.int .i64 0,.int .i64 0,.int .i64 0] 51);rw[<-WX] at uU ⊢;refine aD (RG wr.heap.size wr [(V7.heap.size,#[.int .i64 0,.int .i64 0,.int .i64 0],51),(V4.heap.size,#[.int .i64 0,.int .i64 0,.int .i64 1,.int .i64 7],3),(V0.heap.size,#[.int .i64 0,.int .i64 0,.int .i64 1,.int .i64 1,.int .i64 1,.int .i64 2,.int .i64 2,.int .i64 2,.int .i64 3,.int .i64 4,.int .i64 5,.int .i64 5],3)]) (fun _ h=>h.tail) uU.out ?_;clear WX;refine aT ?_;try simp only[iW,iX]
       have hk:=uU.out.blocks (V7.heap.size,#[.int .i64 0,.int .i64 0,.int .i64 0],51) aZ;obtain⟨b0,b1,b2⟩:=Ab hk.2;have bz:=bh hk.2;have HE:=hid (qO uU.out.turn hk.1 hk.2 (kk % 3) NA x4);clear hk uU;exact Fu
      case p6=>
       go_wp2;obtain⟨V9,hV9⟩:=aV (V4.alloc (.cells #[.int .i64 0,.int .i64 0,.int .i64 0] 51));have Hf:=hid (DI.out.alloc #[.int .i64 0,.int .i64 0,.int .i64 0] 51);rw[<-hV9] at Hf ⊢;refine aD (RG wr.heap.size wr [(V4.heap.size,#[.int .i64 0,.int .i64 0,.int .i64 0],51),(V0.heap.size,#[.int .i64 0,.int .i64 0,.int .i64 1,.int .i64 1,.int .i64 1,.int .i64 2,.int .i64 2,.int .i64 2,.int .i64 3,.int .i64 4,.int .i64 5,.int .i64 5],3)]) (fun _ h=>h.tail) Hf.out ?_;clear hV9;refine aM rfl ?_;go_wp2;obtain⟨V10,ahy⟩:=aV (V9.alloc (.cells #[.int .i64 0,.int .i64 0,.int .i64 1,.int .i64 7] 3));have qY:=hid (Hf.out.alloc #[.int .i64 0,.int .i64 0,.int .i64 1,.int .i64 7] 3);rw[<-ahy] at qY ⊢;refine aD (RG wr.heap.size wr [(V9.heap.size,#[.int .i64 0,.int .i64 0,.int .i64 1,.int .i64 7],3),(V4.heap.size,#[.int .i64 0,.int .i64 0,.int .i64 0],51),(V0.heap.size,#[.int .i64 0,.int .i64 0,.int .i64 1,.int .i64 1,.int .i64 1,.int .i64 2,.int .i64 2,.int .i64 2,.int .i64 3,.int .i64 4,.int .i64 5,.int .i64 5],3)]) (fun _ h=>h.tail) qY.out ?_;clear ahy;refine aL rfl ?_;intro hne;have hq:dI (some ⟨V9.heap.size,0,none⟩) 4:=fun _=>⟨_,_,rfl⟩;go_big_quiet_step (fail);refine fS ?_;clear hne hq;refine aL rfl ?_;intro hne;have hq:∀x1:Held (RG wr.heap.size wr [(V9.heap.size,#[.int .i64 0,.int .i64 0,.int .i64 1,.int .i64 7],3),(V4.heap.size,#[.int .i64 0,.int .i64 0,.int .i64 0],51),(V0.heap.size,#[.int .i64 0,.int .i64 0,.int .i64 1,.int .i64 1,.int .i64 1,.int .i64 2,.int .i64 2,.int .i64 2,.int .i64 3,.int .i64 4,.int .i64 5,.int .i64 5],3)]),x1.1.cell? ⟨V9.heap.size,(kk / 192 % 4).toNat,none⟩=some (.int .i64 x4):=fun x1=>RG.cell x1 V9.heap.size #[.int .i64 0,.int .i64 0,.int .i64 1,.int .i64 7] 3 aZ HX4.out;go_big_quiet_step (fail);refine fS ?_;clear hne hq;refine eB ?_;refine aT ?_;try simp only[iW,iX]
       have hk:=qY.out.blocks (V4.heap.size,#[.int .i64 0,.int .i64 0,.int .i64 0],51) aZ;obtain⟨b0,b1,b2⟩:=Ab hk.2;have bz:=bh hk.2;have HE:=hid (qO qY.out.turn hk.1 hk.2 (kk % 3) NA x4);clear hk qY;exact Fu
     case p2=>
      go_wp2;obtain⟨yj,ahz⟩:=aV (V0.alloc (.cells #[.int .i64 0,.int .i64 0,.int .i64 1,.int .i64 7] 3));have zu:=hid (dF.out.alloc #[.int .i64 0,.int .i64 0,.int .i64 1,.int .i64 7] 3);rw[<-ahz] at zu ⊢;refine aD (RG wr.heap.size wr [(V0.heap.size,#[.int .i64 0,.int .i64 0,.int .i64 1,.int .i64 7],3)]) (fun _ h=>h.tail) zu.out ?_;clear ahz;refine aL rfl ?_;intro hne;have hq:dI (some ⟨V0.heap.size,0,none⟩) 4:=fun _=>⟨_,_,rfl⟩;go_big_quiet_step (fail);refine fS ?_;clear hne hq;refine aL rfl ?_;intro hne;have hq:∀x1:Held (RG wr.heap.size wr [(V0.heap.size,#[.int .i64 0,.int .i64 0,.int .i64 1,.int .i64 7],3)]),x1.1.cell? ⟨V0.heap.size,(kk / 192 % 4).toNat,none⟩=some (.int .i64 x4):=fun x1=>RG.cell x1 V0.heap.size #[.int .i64 0,.int .i64 0,.int .i64 1,.int .i64 7] 3 aZ HX4.out;go_big_quiet_step (fail);refine fS ?_;clear hne hq;refine dG rfl rfl ?p12 ?p13
      case p12=>
       go_wp2;obtain⟨XZ,Sn⟩:=aV (yj.alloc (.cells #[.int .i64 0,.int .i64 0,.int .i64 1,.int .i64 1,.int .i64 1,.int .i64 2,.int .i64 2,.int .i64 2,.int .i64 3,.int .i64 4,.int .i64 5,.int .i64 5] 3));have Bn:=hid (zu.out.alloc #[.int .i64 0,.int .i64 0,.int .i64 1,.int .i64 1,.int .i64 1,.int .i64 2,.int .i64 2,.int .i64 2,.int .i64 3,.int .i64 4,.int .i64 5,.int .i64 5] 3);rw[<-Sn] at Bn ⊢;refine aD (RG wr.heap.size wr [(yj.heap.size,#[.int .i64 0,.int .i64 0,.int .i64 1,.int .i64 1,.int .i64 1,.int .i64 2,.int .i64 2,.int .i64 2,.int .i64 3,.int .i64 4,.int .i64 5,.int .i64 5],3),(V0.heap.size,#[.int .i64 0,.int .i64 0,.int .i64 1,.int .i64 7],3)]) (fun _ h=>h.tail) Bn.out ?_;clear Sn;refine aL rfl ?_;intro hne;have hq:dI (some ⟨yj.heap.size,0,none⟩) 12:=fun _=>⟨_,_,rfl⟩;go_big_quiet_step (fail);refine fS ?_;clear hne hq;refine aL rfl ?_;intro hne;have hq:∀x1:Held (RG wr.heap.size wr [(yj.heap.size,#[.int .i64 0,.int .i64 0,.int .i64 1,.int .i64 1,.int .i64 1,.int .i64 2,.int .i64 2,.int .i64 2,.int .i64 3,.int .i64 4,.int .i64 5,.int .i64 5],3),(V0.heap.size,#[.int .i64 0,.int .i64 0,.int .i64 1,.int .i64 7],3)]),x1.1.cell? ⟨yj.heap.size,(kk / 16 % 12).toNat,none⟩=some (.int .i64 NA):=fun x1=>RG.cell x1 yj.heap.size #[.int .i64 0,.int .i64 0,.int .i64 1,.int .i64 1,.int .i64 1,.int .i64 2,.int .i64 2,.int .i64 2,.int .i64 3,.int .i64 4,.int .i64 5,.int .i64 5] 3 aZ WA.out;go_big_quiet_step (fail);refine fS ?_;clear hne hq;refine eB ?_;refine aM rfl ?_;go_wp2;obtain⟨V15,Sr⟩:=aV (XZ.alloc (.cells #[.int .i64 0,.int .i64 0,.int .i64 0] 51));have pE:=hid (Bn.out.alloc #[.int .i64 0,.int .i64 0,.int .i64 0] 51);rw[<-Sr] at pE ⊢;refine aD (RG wr.heap.size wr [(XZ.heap.size,#[.int .i64 0,.int .i64 0,.int .i64 0],51),(yj.heap.size,#[.int .i64 0,.int .i64 0,.int .i64 1,.int .i64 1,.int .i64 1,.int .i64 2,.int .i64 2,.int .i64 2,.int .i64 3,.int .i64 4,.int .i64 5,.int .i64 5],3),(V0.heap.size,#[.int .i64 0,.int .i64 0,.int .i64 1,.int .i64 7],3)]) (fun _ h=>h.tail) pE.out ?_;clear Sr;refine aT ?_;try simp only[iW,iX]
       have hk:=pE.out.blocks (XZ.heap.size,#[.int .i64 0,.int .i64 0,.int .i64 0],51) aZ;obtain⟨b0,b1,b2⟩:=Ab hk.2;have bz:=bh hk.2;have HE:=hid (qO pE.out.turn hk.1 hk.2 (kk % 3) NA x4);clear hk pE;exact Fu
      case p13=>
       go_wp2;obtain⟨OM,Sw⟩:=aV (yj.alloc (.cells #[.int .i64 0,.int .i64 0,.int .i64 0] 51));have Bo:=hid (zu.out.alloc #[.int .i64 0,.int .i64 0,.int .i64 0] 51);rw[<-Sw] at Bo ⊢;refine aD (RG wr.heap.size wr [(yj.heap.size,#[.int .i64 0,.int .i64 0,.int .i64 0],51),(V0.heap.size,#[.int .i64 0,.int .i64 0,.int .i64 1,.int .i64 7],3)]) (fun _ h=>h.tail) Bo.out ?_;clear Sw;refine aM rfl ?_;go_wp2;obtain⟨V17,Sz⟩:=aV (OM.alloc (.cells #[.int .i64 0,.int .i64 0,.int .i64 1,.int .i64 1,.int .i64 1,.int .i64 2,.int .i64 2,.int .i64 2,.int .i64 3,.int .i64 4,.int .i64 5,.int .i64 5] 3));have pF:=hid (Bo.out.alloc #[.int .i64 0,.int .i64 0,.int .i64 1,.int .i64 1,.int .i64 1,.int .i64 2,.int .i64 2,.int .i64 2,.int .i64 3,.int .i64 4,.int .i64 5,.int .i64 5] 3);rw[<-Sz] at pF ⊢;refine aD (RG wr.heap.size wr [(OM.heap.size,#[.int .i64 0,.int .i64 0,.int .i64 1,.int .i64 1,.int .i64 1,.int .i64 2,.int .i64 2,.int .i64 2,.int .i64 3,.int .i64 4,.int .i64 5,.int .i64 5],3),(yj.heap.size,#[.int .i64 0,.int .i64 0,.int .i64 0],51),(V0.heap.size,#[.int .i64 0,.int .i64 0,.int .i64 1,.int .i64 7],3)]) (fun _ h=>h.tail) pF.out ?_;clear Sz;refine aL rfl ?_;intro hne;have hq:dI (some ⟨OM.heap.size,0,none⟩) 12:=fun _=>⟨_,_,rfl⟩;go_big_quiet_step (fail);refine fS ?_;clear hne hq;refine aL rfl ?_;intro hne;have hq:∀x1:Held (RG wr.heap.size wr [(OM.heap.size,#[.int .i64 0,.int .i64 0,.int .i64 1,.int .i64 1,.int .i64 1,.int .i64 2,.int .i64 2,.int .i64 2,.int .i64 3,.int .i64 4,.int .i64 5,.int .i64 5],3),(yj.heap.size,#[.int .i64 0,.int .i64 0,.int .i64 0],51),(V0.heap.size,#[.int .i64 0,.int .i64 0,.int .i64 1,.int .i64 7],3)]),x1.1.cell? ⟨OM.heap.size,(kk / 16 % 12).toNat,none⟩=some (.int .i64 NA):=fun x1=>RG.cell x1 OM.heap.size #[.int .i64 0,.int .i64 0,.int .i64 1,.int .i64 1,.int .i64 1,.int .i64 2,.int .i64 2,.int .i64 2,.int .i64 3,.int .i64 4,.int .i64 5,.int .i64 5] 3 aZ WA.out;go_big_quiet_step (fail);refine fS ?_;clear hne hq;refine eB ?_;refine aT ?_;try simp only[iW,iX]
       have hk:=pF.out.blocks (yj.heap.size,#[.int .i64 0,.int .i64 0,.int .i64 0],51) aZ;obtain⟨b0,b1,b2⟩:=Ab hk.2;have bz:=bh hk.2;have HE:=hid (qO pF.out.turn hk.1 hk.2 (kk % 3) NA x4);clear hk pF;exact Fu
     case p3=>
      go_wp2;obtain⟨AP,SB⟩:=aV (V0.alloc (.cells #[.int .i64 0,.int .i64 0,.int .i64 0] 51));have uy:=hid (dF.out.alloc #[.int .i64 0,.int .i64 0,.int .i64 0] 51);rw[<-SB] at uy ⊢;refine aD (RG wr.heap.size wr [(V0.heap.size,#[.int .i64 0,.int .i64 0,.int .i64 0],51)]) (fun _ h=>h.tail) uy.out ?_;clear SB;refine dG rfl rfl ?p19 ?p20
      case p19=>
       go_wp2;obtain⟨V21,SC⟩:=aV (AP.alloc (.cells #[.int .i64 0,.int .i64 0,.int .i64 1,.int .i64 1,.int .i64 1,.int .i64 2,.int .i64 2,.int .i64 2,.int .i64 3,.int .i64 4,.int .i64 5,.int .i64 5] 3));have zw:=hid (uy.out.alloc #[.int .i64 0,.int .i64 0,.int .i64 1,.int .i64 1,.int .i64 1,.int .i64 2,.int .i64 2,.int .i64 2,.int .i64 3,.int .i64 4,.int .i64 5,.int .i64 5] 3);rw[<-SC] at zw ⊢;refine aD (RG wr.heap.size wr [(AP.heap.size,#[.int .i64 0,.int .i64 0,.int .i64 1,.int .i64 1,.int .i64 1,.int .i64 2,.int .i64 2,.int .i64 2,.int .i64 3,.int .i64 4,.int .i64 5,.int .i64 5],3),(V0.heap.size,#[.int .i64 0,.int .i64 0,.int .i64 0],51)]) (fun _ h=>h.tail) zw.out ?_;clear SC;refine aL rfl ?_;intro hne;have hq:dI (some ⟨AP.heap.size,0,none⟩) 12:=fun _=>⟨_,_,rfl⟩;go_big_quiet_step (fail);refine fS ?_;clear hne hq;refine aL rfl ?_;intro hne;have hq:∀x1:Held (RG wr.heap.size wr [(AP.heap.size,#[.int .i64 0,.int .i64 0,.int .i64 1,.int .i64 1,.int .i64 1,.int .i64 2,.int .i64 2,.int .i64 2,.int .i64 3,.int .i64 4,.int .i64 5,.int .i64 5],3),(V0.heap.size,#[.int .i64 0,.int .i64 0,.int .i64 0],51)]),x1.1.cell? ⟨AP.heap.size,(kk / 16 % 12).toNat,none⟩=some (.int .i64 NA):=fun x1=>RG.cell x1 AP.heap.size #[.int .i64 0,.int .i64 0,.int .i64 1,.int .i64 1,.int .i64 1,.int .i64 2,.int .i64 2,.int .i64 2,.int .i64 3,.int .i64 4,.int .i64 5,.int .i64 5] 3 aZ WA.out;go_big_quiet_step (fail);refine fS ?_;clear hne hq;refine aM rfl ?_;go_wp2;obtain⟨V22,ahA⟩:=aV (V21.alloc (.cells #[.int .i64 0,.int .i64 0,.int .i64 1,.int .i64 7] 3));have qZ:=hid (zw.out.alloc #[.int .i64 0,.int .i64 0,.int .i64 1,.int .i64 7] 3);rw[<-ahA] at qZ ⊢;refine aD (RG wr.heap.size wr [(V21.heap.size,#[.int .i64 0,.int .i64 0,.int .i64 1,.int .i64 7],3),(AP.heap.size,#[.int .i64 0,.int .i64 0,.int .i64 1,.int .i64 1,.int .i64 1,.int .i64 2,.int .i64 2,.int .i64 2,.int .i64 3,.int .i64 4,.int .i64 5,.int .i64 5],3),(V0.heap.size,#[.int .i64 0,.int .i64 0,.int .i64 0],51)]) (fun _ h=>h.tail) qZ.out ?_;clear ahA;refine aL rfl ?_;intro hne;have hq:dI (some ⟨V21.heap.size,0,none⟩) 4:=fun _=>⟨_,_,rfl⟩;go_big_quiet_step (fail);refine fS ?_;clear hne hq;refine aL rfl ?_;intro hne;have hq:∀x1:Held (RG wr.heap.size wr [(V21.heap.size,#[.int .i64 0,.int .i64 0,.int .i64 1,.int .i64 7],3),(AP.heap.size,#[.int .i64 0,.int .i64 0,.int .i64 1,.int .i64 1,.int .i64 1,.int .i64 2,.int .i64 2,.int .i64 2,.int .i64 3,.int .i64 4,.int .i64 5,.int .i64 5],3),(V0.heap.size,#[.int .i64 0,.int .i64 0,.int .i64 0],51)]),x1.1.cell? ⟨V21.heap.size,(kk / 192 % 4).toNat,none⟩=some (.int .i64 x4):=fun x1=>RG.cell x1 V21.heap.size #[.int .i64 0,.int .i64 0,.int .i64 1,.int .i64 7] 3 aZ HX4.out;go_big_quiet_step (fail);refine fS ?_;clear hne hq;refine eB ?_;refine aT ?_;try simp only[iW,iX]
       have hk:=qZ.out.blocks (V0.heap.size,#[.int .i64 0,.int .i64 0,.int .i64 0],51) aZ;obtain⟨b0,b1,b2⟩:=Ab hk.2;have bz:=bh hk.2;have HE:=hid (qO qZ.out.turn hk.1 hk.2 (kk % 3) NA x4);clear hk qZ;exact Fu
      case p20=>
       go_wp2;obtain⟨OO,ahB⟩:=aV (AP.alloc (.cells #[.int .i64 0,.int .i64 0,.int .i64 1,.int .i64 7] 3));have Em:=hid (uy.out.alloc #[.int .i64 0,.int .i64 0,.int .i64 1,.int .i64 7] 3);rw[<-ahB] at Em ⊢;refine aD (RG wr.heap.size wr [(AP.heap.size,#[.int .i64 0,.int .i64 0,.int .i64 1,.int .i64 7],3),(V0.heap.size,#[.int .i64 0,.int .i64 0,.int .i64 0],51)]) (fun _ h=>h.tail) Em.out ?_;clear ahB;refine aL rfl ?_;intro hne;have hq:dI (some ⟨AP.heap.size,0,none⟩) 4:=fun _=>⟨_,_,rfl⟩;go_big_quiet_step (fail);refine fS ?_;clear hne hq;refine aL rfl ?_;intro hne;have hq:∀x1:Held (RG wr.heap.size wr [(AP.heap.size,#[.int .i64 0,.int .i64 0,.int .i64 1,.int .i64 7],3),(V0.heap.size,#[.int .i64 0,.int .i64 0,.int .i64 0],51)]),x1.1.cell? ⟨AP.heap.size,(kk / 192 % 4).toNat,none⟩=some (.int .i64 x4):=fun x1=>RG.cell x1 AP.heap.size #[.int .i64 0,.int .i64 0,.int .i64 1,.int .i64 7] 3 aZ HX4.out;go_big_quiet_step (fail);refine fS ?_;clear hne hq;refine aM rfl ?_;go_wp2;obtain⟨V24,SF⟩:=aV (OO.alloc (.cells #[.int .i64 0,.int .i64 0,.int .i64 1,.int .i64 1,.int .i64 1,.int .i64 2,.int .i64 2,.int .i64 2,.int .i64 3,.int .i64 4,.int .i64 5,.int .i64 5] 3));have pG:=hid (Em.out.alloc #[.int .i64 0,.int .i64 0,.int .i64 1,.int .i64 1,.int .i64 1,.int .i64 2,.int .i64 2,.int .i64 2,.int .i64 3,.int .i64 4,.int .i64 5,.int .i64 5] 3);rw[<-SF] at pG ⊢;refine aD (RG wr.heap.size wr [(OO.heap.size,#[.int .i64 0,.int .i64 0,.int .i64 1,.int .i64 1,.int .i64 1,.int .i64 2,.int .i64 2,.int .i64 2,.int .i64 3,.int .i64 4,.int .i64 5,.int .i64 5],3),(AP.heap.size,#[.int .i64 0,.int .i64 0,.int .i64 1,.int .i64 7],3),(V0.heap.size,#[.int .i64 0,.int .i64 0,.int .i64 0],51)]) (fun _ h=>h.tail) pG.out ?_;clear SF;refine aL rfl ?_;intro hne;have hq:dI (some ⟨OO.heap.size,0,none⟩) 12:=fun _=>⟨_,_,rfl⟩;go_big_quiet_step (fail);refine fS ?_;clear hne hq;refine aL rfl ?_;intro hne;have hq:∀x1:Held (RG wr.heap.size wr [(OO.heap.size,#[.int .i64 0,.int .i64 0,.int .i64 1,.int .i64 1,.int .i64 1,.int .i64 2,.int .i64 2,.int .i64 2,.int .i64 3,.int .i64 4,.int .i64 5,.int .i64 5],3),(AP.heap.size,#[.int .i64 0,.int .i64 0,.int .i64 1,.int .i64 7],3),(V0.heap.size,#[.int .i64 0,.int .i64 0,.int .i64 0],51)]),x1.1.cell? ⟨OO.heap.size,(kk / 16 % 12).toNat,none⟩=some (.int .i64 NA):=fun x1=>RG.cell x1 OO.heap.size #[.int .i64 0,.int .i64 0,.int .i64 1,.int .i64 1,.int .i64 1,.int .i64 2,.int .i64 2,.int .i64 2,.int .i64 3,.int .i64 4,.int .i64 5,.int .i64 5] 3 aZ WA.out;go_big_quiet_step (fail);refine fS ?_;clear hne hq;refine eB ?_;refine aT ?_;try simp only[iW,iX]
       have hk:=pG.out.blocks (V0.heap.size,#[.int .i64 0,.int .i64 0,.int .i64 0],51) aZ;obtain⟨b0,b1,b2⟩:=Ab hk.2;have bz:=bh hk.2;have HE:=hid (qO pG.out.turn hk.1 hk.2 (kk % 3) NA x4);clear hk pG;exact Fu
    case rest=>
     obtain⟨g,x,y,z,rfl,HE,HG,HBc⟩:=hcut;go_upto_if 41 with fail;go_cut [] from 42 to 55 (fun wx=>∃x y z:Int,Hid (wx.heap[g]?=some (.cells #[.int .i64 x,.int .i64 y,.int .i64 z] 51 (0,0)))/\Hid (BL wr wx))
     case first=>
      by_cases hz:kk / 768 % 40=0
      ·have h5a:0<=kk / 45 % 4:=by omega
       have h5b:kk / 45 % 4<4:=by omega
       have h5c:0<=kk % 5/\kk % 5<5:=by omega
       have h5d:0<=kk / 5 % 9/\kk / 5 % 9<9:=by omega
       have hw1:IntKind.i64.wrap (kk % 5-2)=kk % 5-2:=IntWalk.i64_in _ aC;have hw2:IntKind.i64.wrap (kk / 5 % 9-1)=kk / 5 % 9-1:=IntWalk.i64_in _ aC
       obtain⟨x5,hx5⟩:∃x5,([.int .i64 (-1),.int .i64 0,.int .i64 1000,.int .i64 1001]:List Value)[(kk / 45 % 4).toNat]' mV=.int .i64 x5:=by
        have:(kk / 45 % 4)=0\/(kk / 45 % 4)=1\/(kk / 45 % 4)=2\/(kk / 45 % 4)=3:=by omega
        rcases this with h|h|h|h<;>simp[h]
       have hsl:dI (some ⟨wc.heap.size,0,none⟩) 4:=fun _=>⟨_,_,rfl⟩;have hk:=aY (.cells #[.int .i64 (-1),.int .i64 0,.int .i64 1000,.int .i64 1001] 3) HE.out;have hb:BL wr (wc.alloc (.cells #[.int .i64 (-1),.int .i64 0,.int .i64 1000,.int .i64 1001] 3)):=HBc.out.alloc HBc.out.size _;have HE2:=hid (qO (b:=wr.heap.size) (Turns.aQ hb) HG.out hk (kk % 5-2) (kk / 5 % 9-1) x5);obtain⟨b0,b1,b2⟩:=Ab hk;have bz:=bh hk;clear hk hb;go_wp2;go_meet;case rel=>exact⟨_,_,_,hid HE2.out.1,hid HE2.out.2.2⟩
      ·go_wp2
       go_meet;case rel=>exact⟨_,_,_,HE,HBc⟩
     case rest=>
      obtain⟨x,y,z,HE,HBd⟩:=hcut;clear HBc;obtain⟨b0,b1,b2⟩:=Ab HE.out;have jI:yR.length+1<=1000000000:=by have:=mZ.out;omega
      have hbz:w.heap.size<=wc.heap.size:=Nat.le_trans HB.out.size HBd.out.size;have Qi:Hid (EvF w.heap.size wc (.slice am n cm) yR):=hid (HO.out.keep tS (fun b hb hl=>HBd.out.block b hl));go_wp2_with (at_builtin;go_must (refine cF tS rfl _ _ rfl Tryz.appE rfl Qi.out (us:=[.int .i64 x,.int .i64 y,.int .i64 z]) rfl rfl rfl ⟨x,y,z⟩ rfl QT jI hbz ?_));intro v' w6 how ht hn'
      obtain⟨a',c',rfl⟩:∃a' c',v'=.slice a' (n+1) c':=by
       obtain⟨a1,c1,e, -⟩:=how.form;exact⟨a1,c1,by rw[e,rG,mZ.out];rfl⟩
      have wR:=hid how;have eC:Hid ((yR++[(x,y,z)]).length=n+1):=hid (by rw[rG,mZ.out];rfl);have bK:Hid (BL w w6):=hid ((cO HB.out HBd.out).trans (ht.below hbz (fun b hb=>(bC.lt Qi.out b hb.symm).1)));clear how ht hn' jI hbz Qi b0 b1 b2;go_wp2;go_roundw;case rel=>exact⟨n+1,a',c',_,by omega,by omega,by go_num,by go_num,eC,wR,bK⟩
      simp[intOf];omega
   ·have hn2:¬(n:Int)<60:=by omega
    exact abQ
  ·obtain rfl:n=m:=by omega
   exact abQ
def QU(x:ah.bF)(ak al ar:Option Addr)(ck cl cr:Nat)(u pv:Value)(n c:Int)(ts:Value):Array Value:=
 #[.int .i64 x.aI,.slice ak x.ai.length ck,.slice al x.aN.length cl,.slice ar x.aO.length cr,u,pv,.int .i64 n,.int .i64 c,ts]
structure C5(tb:Nat)(x:ah.bF)(W:ah.cG)(p:List Vm.Ins)(l:List Sub.S)(ak al ar:Option Addr)(ck cl cr:Nat)(u pv:Value)(aa:Option Addr)(B lo hi:Nat)(w:World):Prop where
 arg:sS tb x W (.agg #[.int .i64 x.aI,.slice ak x.ai.length ck,.slice al x.aN.length cl,.slice ar x.aO.length cr]) u B w
 prg:kF (fun y=>y<B\/(lo<=y/\y<hi)) w pv p
 tsk:∀j (h:j<l.length),∃t,cQ (fun y=>lo<=y/\y<hi) w t l[j]/\∀X,aB (fun y=>lo<=y/\y<hi) w X->X.cell? ⟨bD aa,bJ aa+j,none⟩=some t
 sl:dI aa l.length
 lt:B<=lo/\lo<=hi/\hi<=w.heap.size
theorem C5.turn{tb:Nat}{x:ah.bF}{W:ah.cG}{p:List Vm.Ins}{l:List Sub.S}{ak al ar:Option Addr}{ck cl cr:Nat}{u pv:Value}{aa:Option Addr}{B lo hi:Nat}{w w':World}{S:Nat->Prop}(h:C5 tb x W p l ak al ar ck cl cr u pv aa B lo hi w)(ht:Turns S w w')(hS:∀y,S y->B<=y/\¬(lo<=y/\y<hi)):C5 tb x W p l ak al ar ck cl cr u pv aa B lo hi w':=by
 have hb:Below B w w':=ht.below h.arg.le (fun y hy=>(hS y hy).1);have hk:aB (fun y=>lo<=y/\y<hi) w w':=ht.keep (fun y hy hs=>(hS y hs).2 hy);refine⟨h.arg.keep hb,h.prg.keep (ht.keep (fun y hy hs=>by have:=hS y hs;omega)),fun j hj=>?_,h.sl,h.lt.1,h.lt.2.1,Nat.le_trans h.lt.2.2 ht.size⟩;obtain⟨t,h1,h2⟩:=h.tsk j hj;exact⟨t,h1.keep hk,fun X hX=>h2 X (fun y hy hl=>(hX y hy (XO hl ht.size)).trans (hk y hy hl))⟩
theorem C5.next{tb:Nat}{x:ah.bF}{W:ah.cG}{p:List Vm.Ins}{l:List Sub.S}{ak al ar:Option Addr}{ck cl cr:Nat}{u pv:Value}{aa:Option Addr}{B lo hi:Nat}{w w':World}(h:C5 tb x W p l ak al ar ck cl cr u pv aa B lo hi w)(hb:BL w w'):C5 tb x W p l ak al ar ck cl cr u pv aa B lo hi w':=
 h.turn (S:=fun _=>False) (Turns.aQ hb) (fun _ h=>h.elim)
theorem abR{p:Prop}(h:p:=by
  have HBe:=aJ bK fF.out
  rcases HEr.out with h0|h0
  ·subst h0
   have NG:Hid (cd=r1):=hid (by rw[J4.out,if_pos rfl]);go_wp2;go_ret;exact⟨by rw[NG.out];rfl,HBe.out⟩
  ·subst h0
   have NG:Hid (cd= -1):=hid (by rw[J4.out,if_neg aC]);go_wp2;go_ret;exact⟨by rw[NG.out];rfl,HBe.out⟩):p:=h
theorem WB{tb:Nat}{x:ah.bF}{W:ah.cG}{p:List Vm.Ins}{l:List Sub.S}{ak al ar:Option Addr}{ck cl cr:Nat}{u pv:Value}{aa:Option Addr}{B lo hi:Nat}(n c:Int)(hn:yP n)(q:Nat)(hq:q<l.length)
  (hc:aR.kC x W l[q]=0)(hval:Sub.valid (aR.wr x W) l[q]=true)(mr:ZT x W)
  (AF:(Vm.lZ x (aR.ji x W l[q]) p n).2.2=0\/(Vm.lZ x (aR.ji x W l[q]) p n).2.2=23)(jb ca:Nat)(w:World)(hJ:C5 tb x W p l ak al ar ck cl cr u pv aa B lo hi w)
  (hj:w.heap[jb]?=some (.cells (QU x ak al ar ck cl cr u pv n c (.slice aa l.length ca)) 73 (0,0))):
  Calls Tryz.prog 60 #[.pointer (some ⟨jb,0,none⟩),.int .i64 (q:Int)] w fun e w'=>e=.returned (.int .i64 (aR.NK x W p n l[q]))/\BL w w':=by
 have HFp:=hid (aR.T9 (x:=x) (W:=aR.ji x W l[q]) (QR hc) (aR.P8 (iD hc).1 hval));obtain⟨t,ht,hct⟩:=hJ.tsk q hq;have Us:Hid (∀X,BL w X->X.cell? ⟨bD aa,bJ aa+q,none⟩=some t):=hid (fun X hX=>hct X (aB.below hX));have HWd:=hid (fun(X:World) (hX:BL w X)=>Mc x W l[q] hc hval mr _ u t _ tb B X (hJ.arg.next hX) (cQ.keep ht (aB.below hX)));have HRn:=hid (fun(X:World) (r:Value) (S:Nat->Prop) (hX:BL w X) (hr:cZ S X r (aR.ji x W l[q]))=>Nr x (aR.ji x W l[q]) p n hn.1 hn.2 HFp.out.len HFp.out.qv 70 _ _ r _ pv _ _ X (hJ.arg.next hX).Cv (hJ.prg.keep (aB.below hX)) (Uu (aR.ji x W l[q]) r S X hr));have J4:Hid (aR.NK x W p n l[q]=if (Vm.lZ x (aR.ji x W l[q]) p n).2.2=0 then (Vm.lZ x (aR.ji x W l[q]) p n).1 else -1):=hid rfl;have hsl:=hJ.sl;have Dk:(0:Int)<=(q:Int):=by omega
 have hq1:(q:Int)<(l.length:Int):=by omega
 obtain⟨at',ct,rfl, -, -, -⟩:=ht.form;obtain⟨aw,cw,rfl, -, -, -⟩:=hJ.arg.A5.form;obtain⟨ap,cp,rfl, -, -, -⟩:=hJ.prg.form;have HX:Hid (∀X,BL w X->X.heap[jb]?=some (.cells (QU x ak al ar ck cl cr (.slice aw W.length cw) (.slice ap p.length cp) n c (.slice aa l.length ca)) 73 (0,0))):=hid (fun X hX=>(hX.block _ (aj hj)).trans hj)
 have HY:Hid (∀X,BL w X->X.cell? ⟨jb,0,none⟩=some (.int .i64 x.aI)/\X.cell? ⟨jb,1,none⟩=some (.slice ak x.ai.length ck)/\X.cell? ⟨jb,2,none⟩=some (.slice al x.aN.length cl)/\X.cell? ⟨jb,3,none⟩=some (.slice ar x.aO.length cr)/\X.cell? ⟨jb,4,none⟩=some (.slice aw W.length cw)/\X.cell? ⟨jb,5,none⟩=some (.slice ap p.length cp)/\X.cell? ⟨jb,6,none⟩=some (.int .i64 n)/\X.cell? ⟨jb,8,none⟩=some (.slice aa l.length ca)):=hid (fun X hX=>by
  have h:=HX.out X hX;exact⟨aF h 0,aF h 1,aF h 2,aF h 3,aF h 4,aF h 5,aF h 6,aF h 8⟩)
 generalize aR.NK x W p n l[q]=cd at*;generalize Vm.lZ x (aR.ji x W l[q]) p n=rr at*;obtain⟨r1,r2,r3⟩:=rr;simp only at J4 AF;have HEr:=hid AF;generalize aR.ji x W l[q]=W2 at*;clear ht hct hJ hc hval mr hn AF hj;generalize (l[q]).length=lq at*;clear HX;generalize l.length=ml at*;have l8:=dL w ⟨jb,0,none⟩ (.int .i64 x.aI) fun xh=>(HY.out xh.1 (xh.2)).1;have kL:=dL w ⟨jb,1,none⟩ (.slice ak x.ai.length ck) fun xh=>(HY.out xh.1 (xh.2)).2.1;have l9:=dL w ⟨jb,2,none⟩ (.slice al x.aN.length cl) fun xh=>(HY.out xh.1 (xh.2)).2.2.1;have mR:=dL w ⟨jb,3,none⟩ (.slice ar x.aO.length cr) fun xh=>(HY.out xh.1 (xh.2)).2.2.2.1;have ZV:=dL w ⟨jb,4,none⟩ (.slice aw W.length cw) fun xh=>(HY.out xh.1 (xh.2)).2.2.2.2.1;have ZW:=dL w ⟨jb,5,none⟩ (.slice ap p.length cp) fun xh=>(HY.out xh.1 (xh.2)).2.2.2.2.2.1;have ZX:=dL w ⟨jb,6,none⟩ (.int .i64 n) fun xh=>(HY.out xh.1 (xh.2)).2.2.2.2.2.2.1;have ZY:=dL w ⟨jb,8,none⟩ (.slice aa ml ca) fun xh=>(HY.out xh.1 (xh.2)).2.2.2.2.2.2.2;have hq1':=dL w ⟨bD aa,bJ aa+q,none⟩ (.slice at' lq ct) fun xh=>Us.out xh.1 xh.2;go_enter Tryz.func60,Tryz.ntmps60;go_upto_region 1 with fail;refine sQ w 20 (.quiet 0 (.quiet 1 (.quiet 2 (.quiet 3 (.quiet 4 (.quiet 5 (.quiet 6 (.quiet 7 (.quiet 8 (.quiet 9 (.quiet 10 (.quiet 11 (.quiet 12 (.quiet 13 (.quiet 14 (.one 15 (.quiet 16 (.quiet 17 (.quiet 18 (.quiet 19 .done)))))))))))))))))))) lN (by kernel_rfl) fun wq iK=>?_
 iterate 15 refine eB ?_
 refine aM rfl ?_;go_wp2_with fail;refine(HWd.out wq iK.out).mono ?_;rintro e w2 ⟨r,rfl,hwf,hb2⟩;have bK:=aJ iK hb2;have Dm:=hid (fun X (hX:BL w2 X)=>HRn.out X r _ (cO bK.out hX) (cZ.keep hwf.sl (aB.below hX)));obtain⟨a2,l2,c2,rfl⟩:∃a l c,r=.slice a l c:=by obtain⟨a,c,e, -⟩:=hwf.sl.form;exact⟨_,_,_,e⟩
 go_wp2_with fail;refine aD (BL w) (fun _ h=>h) bK.out ?_
 iterate 4 refine eB ?_
 refine aT ?_;try simp only[iW,iX]
 clear hwf hb2 l8 kL l9 mR ZV ZW ZX ZY hq1' iK;have l8:=dL w2 ⟨jb,0,none⟩ (.int .i64 x.aI) fun xh=>(HY.out xh.1 (cO bK.out xh.2)).1;have kL:=dL w2 ⟨jb,1,none⟩ (.slice ak x.ai.length ck) fun xh=>(HY.out xh.1 (cO bK.out xh.2)).2.1;have l9:=dL w2 ⟨jb,2,none⟩ (.slice al x.aN.length cl) fun xh=>(HY.out xh.1 (cO bK.out xh.2)).2.2.1;have mR:=dL w2 ⟨jb,3,none⟩ (.slice ar x.aO.length cr) fun xh=>(HY.out xh.1 (cO bK.out xh.2)).2.2.2.1;have ZV:=dL w2 ⟨jb,4,none⟩ (.slice aw W.length cw) fun xh=>(HY.out xh.1 (cO bK.out xh.2)).2.2.2.2.1;have ZW:=dL w2 ⟨jb,5,none⟩ (.slice ap p.length cp) fun xh=>(HY.out xh.1 (cO bK.out xh.2)).2.2.2.2.2.1;have ZX:=dL w2 ⟨jb,6,none⟩ (.int .i64 n) fun xh=>(HY.out xh.1 (cO bK.out xh.2)).2.2.2.2.2.2.1;have ZY:=dL w2 ⟨jb,8,none⟩ (.slice aa ml ca) fun xh=>(HY.out xh.1 (cO bK.out xh.2)).2.2.2.2.2.2.2;go_upto_region 4 with fail;refine sQ w2 21 (.quiet 0 (.quiet 1 (.quiet 2 (.quiet 3 (.quiet 4 (.quiet 5 (.quiet 6 (.quiet 7 (.quiet 8 (.quiet 9 (.quiet 10 (.quiet 11 (.quiet 12 (.quiet 13 (.quiet 14 (.two 15 19 (.quiet 16 (.quiet 17 (.quiet 18 (.one 19 (.one 20 .done))))) (.one 15 (.quiet 16 (.quiet 17 (.quiet 18 (.one 20 .done))))))))))))))))))))) lN (by kernel_rfl) fun wq iK=>?_
 iterate 15 refine eB ?_
 refine dG rfl rfl ?pA ?pB
 case pA=>
  go_wp2_with fail;refine(Dm.out wq iK.out).mono ?_;rintro e w3 ⟨rfl,hb3⟩;have bZ:=aJ iK hb3;have gj:Hid (BL wq w3):=hid hb3;clear hb3;go_wp2_with fail;refine aD (BL w2) (fun _ h=>h) bZ.out ?_
  iterate 3 refine eB ?_
  refine aM rfl ?_;go_wp2;obtain⟨w4,hv⟩:=aV (w3.alloc (.cells #[.int .i64 0,.int .i64 0] 66));have QV:Hid (Below w2.heap.size w2 w4):=hid (by rw[hv];exact(bZ.out).alloc (bZ.out).size _);have JK:Hid (w4.heap[w3.heap.size]?=some (.cells #[.int .i64 0,.int .i64 0] 66 (0,0))):=hid (by rw[hv];exact aP _ _ rfl);rw[<-hv];refine aD (BL w2) (fun _ h=>h) QV.out ?_;clear hv;refine aM rfl ?_;have c0:w4.cell? ⟨w3.heap.size,0,none⟩=some (.int .i64 0):=(aF JK.out 0).trans rfl;have c1:w4.cell? ⟨w3.heap.size,1,none⟩=some (.int .i64 0):=(aF JK.out 1).trans rfl;have f0:=bh JK.out 0;have f1:=bh JK.out 1;have HR5:=hid (oy JK.out (.int .i64 r1) (.int .i64 r2));have fF:=hid (((QV.out).setCell (p:=⟨w3.heap.size,0,none⟩) (bZ.out.size) (.int .i64 r1)).setCell (p:=⟨w3.heap.size,1,none⟩) (bZ.out.size) (.int .i64 r2));go_wp2_with fail;refine aD (BL w2) (fun _ h=>h) fF.out ?_;generalize (w4.setCell ⟨w3.heap.size,0,none⟩ (.int .i64 r1)).setCell ⟨w3.heap.size,1,none⟩ (.int .i64 r2)=w5 at*;refine aT ?_;try simp only[iW,iX]
  clear c0 c1 f0 f1 l8 kL l9 mR ZV ZW ZX ZY;have c0:w5.cell? ⟨w3.heap.size,0,none⟩=some (.int .i64 r1):=(aF HR5.out 0).trans rfl;exact abR
 case pB=>
  go_wp2;obtain⟨w4,hv⟩:=aV (wq.alloc (.cells #[.int .i64 0,.int .i64 0] 66));have QV:Hid (Below w2.heap.size w2 w4):=hid (by rw[hv];exact(iK.out).alloc (iK.out).size _);have JK:Hid (w4.heap[wq.heap.size]?=some (.cells #[.int .i64 0,.int .i64 0] 66 (0,0))):=hid (by rw[hv];exact aP _ _ rfl);rw[<-hv];refine aD (BL w2) (fun _ h=>h) QV.out ?_;clear hv;refine aM rfl ?_;go_wp2_with fail;refine(Dm.out w4 QV.out).mono ?_;rintro e w3 ⟨rfl,hb3⟩;have bZ:=aJ QV hb3;have gj:Hid (BL w4 w3):=hid hb3;clear hb3;go_wp2_with fail;refine aD (BL w2) (fun _ h=>h) bZ.out ?_;have WC:Hid (w3.heap[wq.heap.size]?=some (.cells #[.int .i64 0,.int .i64 0] 66 (0,0))):=hid ((gj.out.block _ (aj JK.out)).trans JK.out)
  iterate 3 refine eB ?_
  refine aM rfl ?_;have c0:w3.cell? ⟨wq.heap.size,0,none⟩=some (.int .i64 0):=(aF WC.out 0).trans rfl;have c1:w3.cell? ⟨wq.heap.size,1,none⟩=some (.int .i64 0):=(aF WC.out 1).trans rfl;have f0:=bh WC.out 0;have f1:=bh WC.out 1;have HR5:=hid (oy WC.out (.int .i64 r1) (.int .i64 r2));have fF:=hid (((bZ.out).setCell (p:=⟨wq.heap.size,0,none⟩) (iK.out.size) (.int .i64 r1)).setCell (p:=⟨wq.heap.size,1,none⟩) (iK.out.size) (.int .i64 r2));go_wp2_with fail;refine aD (BL w2) (fun _ h=>h) fF.out ?_;generalize (w3.setCell ⟨wq.heap.size,0,none⟩ (.int .i64 r1)).setCell ⟨wq.heap.size,1,none⟩ (.int .i64 r2)=w5 at*;refine aT ?_;try simp only[iW,iX]
  clear c0 c1 f0 f1 l8 kL l9 mR ZV ZW ZX ZY;have c0:w5.cell? ⟨wq.heap.size,0,none⟩=some (.int .i64 r1):=(aF HR5.out 0).trans rfl;exact abR
theorem Turns.front{S:Nat->Prop}{w X w':World}(h:BL w X)(k:Turns S X w'):Turns S w w':=(Turns.aQ h).trans k
theorem WD{b jb gb gw cb cw:Nat}{J:Array Value}{B:Nat}{s:Wk.Pl}{n m:Nat}(i k t:Int)(c:Int)(f:Int->Int)(w:World)(h:bO b jb gb gw cb cw J B s w)(ho:Wk.Ok n m s)(hr:s.runs<=1000000/\s.cW<=1000000)(hn:n<=1000000)(hm:m<=1000000)
  (hc:∀X:World,X.heap[jb]?=some (.cells J 73 (0,0))->X.cell? ⟨jb,7,none⟩=some (.int .i64 c))
  (hrun:∀X,BL w X->∀q:Nat,q<n->CB 60 #[.pointer (some ⟨jb,0,none⟩),.int .i64 (q:Int)] X (.int .i64 (f (q:Int)))):
  Calls Tryz.prog 12 #[.pointer (some ⟨b,0,none⟩),.agg #[.int .i64 i,.int .i64 k,.int .i64 t]] w fun e w'=>e=.returned (.int .i64 (Wk.bM c f s i k t).2)/\bO b jb gb gw cb cw J B (Wk.bM c f s i k t).1 w'/\Turns (bL b gb gw) w w':=by
 have hbl:=ho.bl;have hwl:=ho.wl;by_cases hb:Wk.vH s i k t
 ·have e:Wk.bM c f s i k t=(s,1):=by unfold Wk.bM;rw[if_pos hb]
  rw[e];exact(Wz i k t w h hb).mono fun e w' g=>⟨g.1,h.below g.2,Turns.aQ g.2⟩
 ·obtain⟨hk,hi0,hi1,Ag⟩:=Wk.A8 hb
  obtain⟨q,rfl⟩:∃q:Nat,i=(q:Int):=⟨i.toNat,by omega⟩;have hq:q<s.ws.length:=by omega
  have ewk:Wk.bU s (q:Int)=s.ws[q]:=by unfold Wk.bU;rw[Int.toNat_natCast,Sub.aX hq]
  have htk:=ho.tk q aC aC;rw[ewk] at htk
  have hfin:∀(r:Wk.Pl×Int),Wk.bM c f s q k t=r->∀{e:Ending} {w':World},(∃z X,BL w X/\e=.returned (.int .i64 z)/\(z=r.2/\bO b jb gb gw cb cw J B r.1 w'/\Turns (bL b gb gw) X w'))->
    e=.returned (.int .i64 (Wk.bM c f s q k t).2)/\bO b jb gb gw cb cw J B (Wk.bM c f s q k t).1 w'/\Turns (bL b gb gw) w w':=by
   rintro r er e w' ⟨z,X,h1,rfl,rfl,h2,h3⟩;rw[er];exact⟨rfl,h2,h3.front h1⟩
  have hcase:k=0\/k=1\/k=2\/k=3\/k=4\/k=5:=by omega
  rcases hcase with rfl|rfl|rfl|rfl|rfl|rfl
  ·exact(step_take q t w h hq aC _ (fun X hX=>(QF q 0 t X (h.below hX) hq c hc aC).mono fun e w' g=>⟨_,g.1,rfl,g.2⟩)).mono fun e w' g=>hfin (Wk.kO c s q) (by unfold Wk.bM;rw[if_neg hb,if_pos rfl]) g
  ·exact(JH q t w h hq aC _ (fun X hX=>(MC q 1 t X (h.below hX) hq f ⟨ho.rn.1,hr.1⟩ aC (fun Y hY p hp=>hrun Y (cO hX hY) p aC)).mono fun e w' g=>⟨_,g.1,rfl,g.2⟩)).mono fun e w' g=>hfin (Wk.gV f s q) (by unfold Wk.bM;rw[if_neg hb,if_neg aC,if_pos rfl]) g
  ·exact(QO q t w h hq aC _ (fun X hX=>(Wy q 2 t X (h.below hX) hq ⟨ho.rn.2,hr.2⟩ aC).mono fun e w' g=>⟨_,g.1,rfl,g.2⟩)).mono fun e w' g=>hfin (Wk.mh s q) (by unfold Wk.bM;rw[if_neg hb,if_neg aC,if_neg aC,if_pos rfl]) g
  ·exact(Mz q t w h hq aC _ (fun X hX=>(Mw q 3 t X (h.below hX) hq ⟨ho.rn.2,hr.2⟩ aC).mono fun e w' g=>⟨_,g.1,rfl,g.2⟩)).mono fun e w' g=>hfin (Wk.mC s q) (by unfold Wk.bM;rw[if_neg hb,if_neg aC,if_neg aC,if_neg aC,if_pos rfl]) g
  ·exact(MB q t w h hq aC _ (fun X hX=>(QH q 4 t X (h.below hX) hq).mono fun e w' g=>⟨_,g.1,rfl,g.2⟩)).mono fun e w' g=>hfin (Wk.nT s q) (by unfold Wk.bM;rw[if_neg hb,if_neg aC,if_neg aC,if_neg aC,if_neg aC,if_pos rfl]) g
  ·exact(JI q t w h hq aC (Ag rfl) _ (fun X hX=>(Mx q 5 t X (h.below hX) hq aC).mono fun e w' g=>⟨_,g.1,rfl,g.2⟩)).mono fun e w' g=>hfin (Wk.eE s q t) (by unfold Wk.bM;rw[if_neg hb,if_neg aC,if_neg aC,if_neg aC,if_neg aC,if_neg aC]) g
structure QW(w:World)(b jb gb:Nat)(J:Array Value)(ml:Nat)(X:World):Prop where
 below:BL w X
 job:X.heap[jb]?=some (.cells J 73 (0,0))
 book:X.heap[gb]?=some (.cells ((List.replicate ml [Value.bool false,.int .i64 0,.int .i64 (-1)]).flatten).toArray 77 (0,0))
 ptr:X.heap[b]?=some (.cells #[.pointer (some ⟨jb,0,none⟩),.slice (some ⟨gb,0,none⟩) ml ml,.slice none 0 0,.int .i64 0,.int .i64 0] 80 (0,0))
 le:w.heap.size<=jb/\w.heap.size<=gb/\w.heap.size<=b
theorem QW.mk1{w V:World}{jb gb ml:Nat}{J:Array Value}(hb:BL w V)(hj:V.heap[jb]?=some (.cells J 73 (0,0)))(hg:V.heap[gb]?=some (.cells ((List.replicate ml [Value.bool false,.int .i64 0,.int .i64 (-1)]).flatten).toArray 77 (0,0)))(h1:w.heap.size<=jb)(h2:w.heap.size<=gb):
  QW w V.heap.size jb gb J ml (V.alloc (.cells #[.pointer (some ⟨jb,0,none⟩),.slice (some ⟨gb,0,none⟩) ml ml,.slice none 0 0,.int .i64 0,.int .i64 0] 80)):=
 ⟨hb.alloc hb.size _,aY _ hj,aY _ hg,aP _ _ rfl,h1,h2,hb.size⟩
theorem C6{w:World}{a b:Nat}{x y:Array Value}{t u:TypeId}(h:w.heap[a]?=some (.cells x t (0,0)))(g:w.heap[b]?=some (.cells y u (0,0)))(e:t≠u):a≠b:=fun hab=>by
 subst hab;rw[h] at g;exact e (by simpa using congrArg (fun o=>match o with|some (Obj.cells _ t _)=>t|_=>0) g)
theorem Gq(x:ah.bF)(W:ah.cG)(p:List Vm.Ins)(l:List Sub.S)(hl:aR.oA x W l)(hok:ah.okB x=true)(hfit:aR.eM x W=true)(xR:W.length<=1000/\∀r∈W,r.length<=1000000)(htot:ah.total W<=100000)(hll:l.length<=400)
  (n:Int)(hn:yP n)(AF:(Vm.lZ x W p n).2.2=0\/(Vm.lZ x W p n).2.2=23)(c:Int)(hc1:1<=c)(hc2:c<=251)(m:Nat)(hm1:1<=m)(hm2:m<=16)
  (ak al ar:Option Addr)(ck cl cr:Nat)(aw ap:Option Addr)(cw cp:Nat)(tb B lo:Nat)(w:World)(ha:sS tb x W (.agg #[.int .i64 x.aI,.slice ak x.ai.length ck,.slice al x.aN.length cl,.slice ar x.aO.length cr]) (.slice aw W.length cw) B w)(hlo:B<=lo/\lo<=w.heap.size)(hp:kF (fun y=>y<B\/lo<=y) w (.slice ap p.length cp) p):
  Calls Tryz.prog 7 #[.agg #[.int .i64 x.aI,.slice ak x.ai.length ck,.slice al x.aN.length cl,.slice ar x.aO.length cr],.slice aw W.length cw,.slice ap p.length cp,.int .i64 n,.int .i64 c,.int .i64 (m:Int)] w fun e w'=>∃b jb gb gw aa ca hi,
   e=.returned (.tuple #[.pointer (some ⟨b,0,none⟩),.int .i64 0])/\bO b jb gb gw l.length m (QU x ak al ar ck cl cr (.slice aw W.length cw) (.slice ap p.length cp) n c (.slice aa l.length ca)) hi ⟨List.replicate l.length Wk.zeroE,List.replicate m Wk.idle,0,0⟩ w'/\
   C5 tb x W p l ak al ar ck cl cr (.slice aw W.length cw) (.slice ap p.length cp) aa B lo hi w'/\w.heap.size<=hi/\hi<=jb/\BL w w':=by
 have Mi:=hid xR;have tY:=hid (iD (jF hok hfit (aR.l6 W))).1;have Gs:=hid hll;obtain⟨w1,hw1⟩:=aV (di w x.aI (.slice ak x.ai.length ck) (.slice al x.aN.length cl) (.slice ar x.aO.length cr));have bf:=r9 hw1;have HX:=wv hw1;unfold di at hw1;have HW1:=hid hw1;clear hw1;have HFu:=hid (fun(X:World) (hX:BL w X)=>yI W Mi.out.1 Mi.out.2 _ _ X (ha.next hX).A5);have NQ:=hid (fun(X:World) t U (hX:BL w X) (hs:cQ U X t (kV W))=>oP x W (kV W) (jF hok hfit (aR.l6 W)) _ _ t U tb B X (ha.next hX) hs);have Me:=hid (fun(X:World) (hX:BL w X)=>CJ x W l hl hok hfit xR htot aC 400 _ _ tb B X (ha.next hX));have HRn:=hid (fun(X:World) (hX:BL w X)=>Nr x W p n hn.1 hn.2 tY.out.len tY.out.qv 70 _ _ _ _ _ _ _ X (ha.next hX).Cv (hp.keep (aB.below hX)) (Uu W _ _ X (ha.next hX).A5));have HJb:=hid (fun(X:World) (hX:BL w X)=>And.intro (ha.next hX) (hp.keep (aB.below hX)));have HLo0:=hid hlo;have ZH:=hid (fun(hi:Nat) (hh:w.heap.size<=hi)=>dO.mono (S':=fun y=>y<B\/(lo<=y/\y<hi)) aC cB hp (fun b hl hb=>by omega));have HEr:=hid AF;generalize Vm.lZ x W p n=rr at*;obtain⟨r1,r2,r3⟩:=rr;simp only at HEr;obtain⟨K,hK⟩:=aV W.length;obtain⟨np,hnp⟩:=aV p.length;rw[<-hK] at HFu NQ Me HRn HJb ⊢;rw[<-hnp] at HRn HJb ZH ⊢;clear hK hnp hlo ha hp hl hok hfit xR htot hn AF hll;go_enter Tryz.func7,Tryz.ntmps7;go_upto_region 1 with fail;rw[<-HW1.out];obtain⟨l8,kL,l9,mR⟩:=MJ HX.out;refine dU 9 (.quiet 0 (.quiet 1 (.quiet 2 (.one 3 (.one 4 (.quiet 5 (.quiet 6 (.quiet 7 (.quiet 8 .done))))))))) (BL w1) lN (by kernel_rfl) (aG ay 1) ?_;have eC:Hid (BL w1 (w1.drewN 1)):=hid (aG ay 1);have bK:Hid (BL w (w1.drewN 1)):=hid (aG bf.out 1);generalize w1.drewN 1=w2 at*
 iterate 3 refine eB ?_
 refine aM rfl ?_;go_wp2_with fail;refine(HFu.out w2 bK.out).mono ?_;rintro e w3 ⟨gf,rfl,hsf,hb3⟩;have gj:=aJ eC hb3;have bZ:=aJ bK hb3;have Js:=hid (NQ.out w3 _ _ bZ.out hsf.sl);clear hsf hb3 eC bK;go_wp2_with fail;refine aD (BL w1) (fun _ h=>h) gj.out ?_;refine aM rfl ?_;go_wp2_with fail;refine Js.out.mono ?_;rintro e w4 ⟨g,rfl, -,hb4⟩;have jM:=aJ gj hb4;have f9:=aJ bZ hb4;clear hb4 gj bZ Js;go_wp2_with fail;refine aD (BL w1) (fun _ h=>h) jM.out ?_
 iterate 4 refine eB ?_
 refine aT ?_;try simp only[iW,iX]
 clear l8 kL l9 mR;obtain⟨⟨y0,y1,y2,y3⟩, -⟩:=aW (HX.out w4 jM.out);go_wp2_with fail;refine(HRn.out w4 f9.out).mono ?_;rintro e w5 ⟨rfl,jR⟩;obtain⟨w6,ni⟩:=aV (w5.alloc (.cells #[.int .i64 r1,.int .i64 r2] 66));have tX:BL w4 w6:=by rw[ni];exact jR.alloc jR.size _
 have BW:=aJ jM tX;have jS:=aJ f9 tX;have ET:=hid ni;clear jR tX ni y0 y1 y2 y3;go_upto_region 5 with fail;rw[<-ET.out];go_cut [47] from 42 to 47 (fun q wx=>q=.bool false/\w6=wx)
 case first=>
  rcases HEr.out with h0|h0
  ·subst h0
   go_wp2;go_meet;case rel=>exact⟨rfl,rfl⟩
  ·subst h0
   go_wp2;go_meet;case rel=>exact⟨rfl,rfl⟩
 case rest=>
  obtain⟨rfl,rfl⟩:=hcut;obtain⟨⟨y0,y1,y2,y3⟩, -⟩:=aW (HX.out w6 BW.out);have hcA:¬c<1:=by omega
  have hcB:¬251<c:=by omega
  go_wp2_with fail;refine(Me.out w6 jS.out).mono ?_;rintro e w7 ⟨mr,hres⟩
  obtain⟨aa,ca,rfl,hrow⟩:∃aa ca,e=.returned (.tuple #[.slice aa l.length ca,.int .i64 0])/\fD w6.heap.size (w6.heap.size<=·) w7 (.slice aa l.length ca) l:=by
   rcases hres with⟨h, -⟩|⟨-, -,⟨-,h⟩|⟨h, -⟩⟩
   ·omega
   ·exact h
   ·have:=Gs.out;omega
  have Dt:=aJ BW mr;have lM:=aJ jS mr;have HS7:Hid (w6.heap.size<=w7.heap.size):=hid mr.size
  have HTs:Hid (∀j (h:j<l.length),∃t,cQ (fun y=>w6.heap.size<=y/\y<w7.heap.size) w7 t l[j]/\∀X,aB (fun y=>w6.heap.size<=y/\y<w7.heap.size) w7 X->X.cell? ⟨bD aa,bJ aa+j,none⟩=some t):=hid (fun j h=>by
   obtain⟨t,h1,h2⟩:=hrow.sl.rA h;exact⟨t,cQ.mono h1 (fun b hb hE=>⟨hE.1,hb⟩),fun X hX=>h2 X (fun y hy hl=>hX y (hrow.lt y hy) hl)⟩)
  have NP:Hid (dI aa l.length):=hid (by
   obtain⟨_,_,e,h1, -⟩:=hrow.form
   cases e
   exact h1)
  clear mr hres hrow y0 y1 y2 y3;obtain⟨ml,hml⟩:=aV l.length;have HMl:=hid hml;rw[<-hml];have hml4:ml<=400:=by have:=Gs.out;omega
  clear hml;have hmA:¬(m:Int)<1:=by omega
  have hmB:¬16<(m:Int):=by omega
  have HRp:=hid (fun(X:World) (g:Nat) (h:X.heap[g]?=some (.cells #[.bool false,.int .i64 0,.int .i64 (-1)] 77 (0,0)))=>JA [.bool false,.int .i64 0,.int .i64 (-1)] rfl (by simp[Value.oneCell']) ml aC g X (fun i u hu=>(aF h i).trans (by simpa using hu)));go_upto_region 14 with fail;go_cut [20] from 70 to 84 (fun q wx=>∃b jb gb,q=.pointer (some ⟨b,0,none⟩)/\Hid (QW w7 b jb gb (QU x ak al ar ck cl cr (.slice aw K cw) (.slice ap np cp) n c (.slice aa ml ca)) ml wx))
  case first=>
   have l8:=dL w7 ⟨w.heap.size,0,none⟩ (.int .i64 x.aI) fun xh=>(aW (HX.out xh.1 (cO Dt.out xh.2))).1.1;have kL:=dL w7 ⟨w.heap.size,1,none⟩ (.slice ak x.ai.length ck) fun xh=>(aW (HX.out xh.1 (cO Dt.out xh.2))).1.2.1;have l9:=dL w7 ⟨w.heap.size,2,none⟩ (.slice al x.aN.length cl) fun xh=>(aW (HX.out xh.1 (cO Dt.out xh.2))).1.2.2.1;have mR:=dL w7 ⟨w.heap.size,3,none⟩ (.slice ar x.aO.length cr) fun xh=>(aW (HX.out xh.1 (cO Dt.out xh.2))).1.2.2.2;refine dU 13 (.quiet 0 (.quiet 1 (.quiet 2 (.quiet 3 (.quiet 4 (.quiet 5 (.quiet 6 (.quiet 8 (.quiet 10 (.quiet 11 (.two 7 9 (.one 9 (.one 12 .done)) (.two 7 12 (.one 12 .done) (.one 7 .done))))))))))))) (BL w7) lN (by kernel_rfl) (aG ay 1) ?_;have Z0:Hid (BL w7 (w7.drewN 1)):=hid (aG ay 1);have ahC:=Z0;generalize w7.drewN 1=wq at*
   iterate 10 refine eB ?_
   clear l8 kL l9 mR;refine dG rfl rfl ?pA ?pB
   case pA=>
    go_wp2;obtain⟨V1,hV1⟩:=aV (wq.alloc (.cells #[.int .i64 x.aI,.slice ak x.ai.length ck,.slice al x.aN.length cl,.slice ar x.aO.length cr,.slice aw K cw,.slice ap np cp,.int .i64 n,.int .i64 c,.slice aa ml ca] 73));have aey:BL wq V1:=by rw[hV1];exact ay.alloc aH _
    have HLV1:=aJ ahC aey;have HCV1:Hid (BL V1 V1):=hid ay;have HBV1:=aJ Z0 aey;have ahD:Hid (V1.heap[wq.heap.size]?=some (.cells #[.int .i64 x.aI,.slice ak x.ai.length ck,.slice al x.aN.length cl,.slice ar x.aO.length cr,.slice aw K cw,.slice ap np cp,.int .i64 n,.int .i64 c,.slice aa ml ca] 73 (0,0))):=hid (by rw[hV1];exact aP _ _ rfl);rw[<-hV1];refine aD (BL V1) (fun X h=>cO HLV1.out h) ay ?_;clear hV1 aey;refine aM rfl ?_;go_wp2;obtain⟨V2,hV2⟩:=aV (V1.alloc (.cells #[.bool false,.int .i64 0,.int .i64 (-1)] 77));have Z5:BL V1 V2:=by rw[hV2];exact ay.alloc aH _
    have HLV2:=aJ HCV1 Z5;have HCV2:Hid (BL V2 V2):=hid ay;have ahE:=aJ HBV1 Z5;have ahF:Hid (V2.heap[wq.heap.size]?=some (.cells #[.int .i64 x.aI,.slice ak x.ai.length ck,.slice al x.aN.length cl,.slice ar x.aO.length cr,.slice aw K cw,.slice ap np cp,.int .i64 n,.int .i64 c,.slice aa ml ca] 73 (0,0))):=hid ((Z5.block _ (aj ahD.out)).trans ahD.out);have aez:Hid (V2.heap[V1.heap.size]?=some (.cells #[.bool false,.int .i64 0,.int .i64 (-1)] 77 (0,0))):=hid (by rw[hV2];exact aP _ _ rfl);rw[<-hV2];refine aD (BL V2) (fun X h=>cO HLV2.out h) ay ?_;clear hV2 Z5;refine aM rfl ?_;go_wp2_with fail;refine(HRp.out V2 _ aez.out).mono ?_;rintro e V3 ⟨gbV3,rfl,abS,abT,WE⟩;have HLV3:=aJ HCV2 WE;have HCV3:Hid (BL V3 V3):=hid ay;have HBV3:=aJ ahE WE;have Tt:=hid abT;have HGe:Hid (w7.heap.size<=gbV3):=hid (Nat.le_trans ahE.out.size abS);have HJV3:Hid (V3.heap[wq.heap.size]?=some (.cells #[.int .i64 x.aI,.slice ak x.ai.length ck,.slice al x.aN.length cl,.slice ar x.aO.length cr,.slice aw K cw,.slice ap np cp,.int .i64 n,.int .i64 c,.slice aa ml ca] 73 (0,0))):=hid ((WE.block _ (aj ahF.out)).trans ahF.out);have HEV3:Hid (V3.heap[V1.heap.size]?=some (.cells #[.bool false,.int .i64 0,.int .i64 (-1)] 77 (0,0))):=hid ((WE.block _ (aj aez.out)).trans aez.out);go_wp2_with fail;refine aD (BL V3) (fun X h=>cO HLV3.out h) ay ?_;clear WE abS abT;refine aT ?_;try simp only[iW,iX]
    have HN:=hid (QW.mk1 HBV3.out HJV3.out Tt.out Z0.out.size HGe.out);go_wp2;go_meet;case rel=>exact⟨_,_,_,rfl,HN⟩
   case pB=>
    go_wp2;obtain⟨V4,WW⟩:=aV (wq.alloc (.cells #[.bool false,.int .i64 0,.int .i64 (-1)] 77));have aeA:BL wq V4:=by rw[WW];exact ay.alloc aH _
    have HLV4:=aJ ahC aeA;have ahG:Hid (BL V4 V4):=hid ay;have Z6:=aJ Z0 aeA;have WG:Hid (V4.heap[wq.heap.size]?=some (.cells #[.bool false,.int .i64 0,.int .i64 (-1)] 77 (0,0))):=hid (by rw[WW];exact aP _ _ rfl);rw[<-WW];refine aD (BL V4) (fun X h=>cO HLV4.out h) ay ?_;clear WW aeA;refine dG rfl rfl ?pC ?pD
    case pC=>
     go_wp2;obtain⟨V5,hV5⟩:=aV (V4.alloc (.cells #[.int .i64 x.aI,.slice ak x.ai.length ck,.slice al x.aN.length cl,.slice ar x.aO.length cr,.slice aw K cw,.slice ap np cp,.int .i64 n,.int .i64 c,.slice aa ml ca] 73));have Z7:BL V4 V5:=by rw[hV5];exact ay.alloc aH _
     have HLV5:=aJ ahG Z7;have HCV5:Hid (BL V5 V5):=hid ay;have ahH:=aJ Z6 Z7;have aeB:Hid (V5.heap[wq.heap.size]?=some (.cells #[.bool false,.int .i64 0,.int .i64 (-1)] 77 (0,0))):=hid ((Z7.block _ (aj WG.out)).trans WG.out);have ahI:Hid (V5.heap[V4.heap.size]?=some (.cells #[.int .i64 x.aI,.slice ak x.ai.length ck,.slice al x.aN.length cl,.slice ar x.aO.length cr,.slice aw K cw,.slice ap np cp,.int .i64 n,.int .i64 c,.slice aa ml ca] 73 (0,0))):=hid (by rw[hV5];exact aP _ _ rfl);rw[<-hV5];refine aD (BL V5) (fun X h=>cO HLV5.out h) ay ?_;clear hV5 Z7;refine aM rfl ?_;go_wp2_with fail;refine(HRp.out V5 _ aeB.out).mono ?_;rintro e V6 ⟨gbV6,rfl,abU,abV,WH⟩;have HLV6:=aJ HCV5 WH;have HCV6:Hid (BL V6 V6):=hid ay;have HBV6:=aJ ahH WH;have HGV6:=hid abV;have HGe:Hid (w7.heap.size<=gbV6):=hid (Nat.le_trans ahH.out.size abU);have HEV6:Hid (V6.heap[wq.heap.size]?=some (.cells #[.bool false,.int .i64 0,.int .i64 (-1)] 77 (0,0))):=hid ((WH.block _ (aj aeB.out)).trans aeB.out);have HJV6:Hid (V6.heap[V4.heap.size]?=some (.cells #[.int .i64 x.aI,.slice ak x.ai.length ck,.slice al x.aN.length cl,.slice ar x.aO.length cr,.slice aw K cw,.slice ap np cp,.int .i64 n,.int .i64 c,.slice aa ml ca] 73 (0,0))):=hid ((WH.block _ (aj ahI.out)).trans ahI.out);go_wp2_with fail;refine aD (BL V6) (fun X h=>cO HLV6.out h) ay ?_;clear WH abU abV;refine aT ?_;try simp only[iW,iX]
     have HN:=hid (QW.mk1 HBV6.out HJV6.out HGV6.out Z6.out.size HGe.out);go_wp2;go_meet;case rel=>exact⟨_,_,_,rfl,HN⟩
    case pD=>
     go_wp2_with fail;refine(HRp.out V4 _ WG.out).mono ?_;rintro e V7 ⟨ahJ,rfl,abW,abX,Z9⟩;have HLV7:=aJ ahG Z9;have HCV7:Hid (BL V7 V7):=hid ay;have ahK:=aJ Z6 Z9;have FH:=hid abX;have HGe:Hid (w7.heap.size<=ahJ):=hid (Nat.le_trans Z6.out.size abW);have ahL:Hid (V7.heap[wq.heap.size]?=some (.cells #[.bool false,.int .i64 0,.int .i64 (-1)] 77 (0,0))):=hid ((Z9.block _ (aj WG.out)).trans WG.out);go_wp2_with fail;refine aD (BL V7) (fun X h=>cO HLV7.out h) ay ?_;clear Z9 abW abX;refine aM rfl ?_;go_wp2;obtain⟨V8,WX⟩:=aV (V7.alloc (.cells #[.int .i64 x.aI,.slice ak x.ai.length ck,.slice al x.aN.length cl,.slice ar x.aO.length cr,.slice aw K cw,.slice ap np cp,.int .i64 n,.int .i64 c,.slice aa ml ca] 73));have WI:BL V7 V8:=by rw[WX];exact ay.alloc aH _
     have HLV8:=aJ HCV7 WI;have HCV8:Hid (BL V8 V8):=hid ay;have HBV8:=aJ ahK WI;have HEV8:Hid (V8.heap[wq.heap.size]?=some (.cells #[.bool false,.int .i64 0,.int .i64 (-1)] 77 (0,0))):=hid ((WI.block _ (aj ahL.out)).trans ahL.out);have uU:Hid (V8.heap[ahJ]?=some (.cells ((List.replicate ml [Value.bool false,.int .i64 0,.int .i64 (-1)]).flatten).toArray 77 (0,0))):=hid ((WI.block _ (aj FH.out)).trans FH.out);have HJV8:Hid (V8.heap[V7.heap.size]?=some (.cells #[.int .i64 x.aI,.slice ak x.ai.length ck,.slice al x.aN.length cl,.slice ar x.aO.length cr,.slice aw K cw,.slice ap np cp,.int .i64 n,.int .i64 c,.slice aa ml ca] 73 (0,0))):=hid (by rw[WX];exact aP _ _ rfl);rw[<-WX];refine aD (BL V8) (fun X h=>cO HLV8.out h) ay ?_;clear WX WI;refine aT ?_;try simp only[iW,iX]
     have HN:=hid (QW.mk1 HBV8.out HJV8.out uU.out ahK.out.size HGe.out);go_wp2;go_meet;case rel=>exact⟨_,_,_,rfl,HN⟩
  case rest=>
   obtain⟨b,jb,gb,rfl,HN⟩:=hcut;have HBc:=aJ lM HN.out.below;have HRw:=hid (fun(X:World) (g:Nat) (h:X.heap[g]?=some (.cells #[.int .i64 (-1),.bool false,.int .i64 0,.int .i64 (-1),.int .i64 0] 85 (0,0)))=>JC [.int .i64 (-1),.bool false,.int .i64 0,.int .i64 (-1),.int .i64 0] rfl (by simp[Value.oneCell']) m aC g X (fun i u hu=>(aF h i).trans (by simpa using hu)));go_wp2_with fail;refine(JF wc).mono ?_;rintro e w8 ⟨rfl,oU⟩;have EY:Hid (BL wc (w8.alloc (.cells #[.int .i64 (-1),.bool false,.int .i64 0,.int .i64 (-1),.int .i64 0] 85))):=hid (oU.alloc oU.size _);have U3:Hid (wc.heap.size<=w8.heap.size):=hid oU.size;clear oU;go_wp2_with fail;refine(HRw.out _ w8.heap.size (aP _ _ rfl)).mono ?_;rintro e w9 ⟨gw,rfl,hge,hgw,Bm⟩;have HLw:=aJ EY Bm;have RF:Hid (w9.heap[b]?=some (.cells #[.pointer (some ⟨jb,0,none⟩),.slice (some ⟨gb,0,none⟩) ml ml,.slice none 0 0,.int .i64 0,.int .i64 0] 80 (0,0))):=hid ((HLw.out.block _ (aj HN.out.ptr)).trans HN.out.ptr);have HGe:Hid (wc.heap.size<=gw):=hid (Nat.le_trans U3.out (Nat.le_trans aZ hge));have HG9:=hid hgw;clear hge hgw Bm EY U3;obtain⟨⟨p0,p1,p2,p3,p4⟩,pz⟩:=mL RF.out
   have pH:Hid (∀z,z=.slice (some ⟨gw,0,none⟩) m m->bO b jb gb gw ml m (QU x ak al ar ck cl cr (.slice aw K cw) (.slice ap np cp) n c (.slice aa ml ca)) w7.heap.size ⟨List.replicate ml Wk.zeroE,List.replicate m Wk.idle,0,0⟩ (w9.setCell ⟨b,2,none⟩ z)/\BL w (w9.setCell ⟨b,2,none⟩ z)/\BL w7 (w9.setCell ⟨b,2,none⟩ z)):=hid (fun z hz=>by
    subst hz;have hjl:=aj HN.out.job;have hgl:=aj HN.out.book;have hbl:=aj HN.out.ptr;have hle:=HN.out.le;have n1:b≠gb:=C6 HN.out.ptr HN.out.book qg;have n2:jb≠b:=C6 HN.out.job HN.out.ptr qg;have n3:jb≠gb:=C6 HN.out.job HN.out.book qg;have hgw:=HGe.out;have mr:BL w7 w9:=HN.out.below.trans (HLw.out.mono HN.out.below.size);refine⟨⟨?_,(nZ w9 _ _ jb n2).trans ((HLw.out.block _ hjl).trans HN.out.job),?_,?_,⟨n1,by omega,by omega⟩,⟨n2,n3,by omega⟩,hle.2.2,hle.2.1,by omega⟩,(cO lM.out mr).setCell (p:=⟨b,2,none⟩) (by have:=lM.out.size;show w.heap.size<=b;omega) _,mr.setCell (p:=⟨b,2,none⟩) hle.2.2 _⟩
    ·have:=heap_setCell_same w9 b 2 _ _ (.slice (some ⟨gw,0,none⟩) m m) RF.out
     simpa [List.length_replicate] using this
    ·simp only[List.length_replicate]
     exact tR (List.replicate ml [Value.bool false,.int .i64 0,.int .i64 (-1)]) ((nZ w9 _ _ gb (fun h=>n1 h.symm)).trans ((HLw.out.block _ hgl).trans HN.out.book)) hle.2.1 aZ aZ (by simp<;>omega) (by simp<;>omega) (fun j h1 h2=>by
      rw[List.getElem_replicate,List.getElem_replicate];rfl)
    ·simp only[List.length_replicate]
     exact tR (List.replicate m [Value.int .i64 (-1),.bool false,.int .i64 0,.int .i64 (-1),.int .i64 0]) ((nZ w9 _ _ gw (by show gw≠b;omega)).trans HG9.out) aC aZ aZ (by simp<;>omega) (by simp<;>omega) (fun j h1 h2=>by
      rw[List.getElem_replicate,List.getElem_replicate];rfl))
   have HJf:Hid (∀X,BL w7 X->C5 tb x W p l ak al ar ck cl cr (.slice aw K cw) (.slice ap np cp) aa B lo w7.heap.size X):=hid (fun X hX=>by
    have h1:=HJb.out w7 lM.out;have h0:=HJb.out w ay;have h2:=jS.out.size;have h3:=HLo0.out;have h4:=HS7.out;refine C5.next ⟨h1.1,dO.keep cB (ZH.out w7.heap.size lM.out.size) (aB.below lM.out),fun j hj=>?_,NP.out,h3.1,by omega,aH⟩ hX;obtain⟨t,g1,g2⟩:=HTs.out j hj;exact⟨t,cQ.mono g1 (fun b _ hb=>⟨by have:=hb.1;omega,hb.2⟩),fun Y hY=>g2 Y (fun y hy hl=>hY y ⟨by have:=hy.1;omega,hy.2⟩ hl)⟩)
   have HLo:Hid (w.heap.size<=w7.heap.size/\w7.heap.size<=jb):=hid ⟨lM.out.size,HN.out.le.1⟩;go_wp2;go_ret2;try rw[<-HMl.out]
   exact⟨_,_,_,_,_,_,_,rfl,(pH.out _ rfl).1,HJf.out _ (pH.out _ rfl).2.2,HLo.out.1,HLo.out.2,(pH.out _ rfl).2.1⟩
def fI(x:ah.bF)(W:ah.cG)(p:List Vm.Ins)(n:Int)(l:List Sub.S):Int->Int:=fun q=>aR.NK x W p n (l.getD q.toNat [])
structure vD(x:ah.bF)(W:ah.cG)(p:List Vm.Ins)(l:List Sub.S)(n:Int):Prop where
 chk:∀s∈l,aR.kC x W s=0/\Sub.valid (aR.wr x W) s=true
 b7:ZT x W
 err:∀W',(Vm.lZ x W' p n).2.2=0\/(Vm.lZ x W' p n).2.2=23
 num:yP n
 len:l.length<=400
structure PS(tb:Nat)(x:ah.bF)(W:ah.cG)(p:List Vm.Ins)(l:List Sub.S)(n c:Int)(m B b jb gb gw lo hi:Nat)(s:Wk.Pl)(X:World):Prop where
 ex:∃ak al ar ck cl cr u pv aa ca cb cw,bO b jb gb gw cb cw (QU x ak al ar ck cl cr u pv n c (.slice aa l.length ca)) hi s X/\C5 tb x W p l ak al ar ck cl cr u pv aa B lo hi X
 ok:Wk.Ok l.length m s
 le:hi<=jb
section
variable {tb:Nat} {x:ah.bF} {W:ah.cG} {p:List Vm.Ins} {l:List Sub.S} {n c:Int} {m B b jb gb gw lo hi:Nat} {s:Wk.Pl}
theorem PS.turn{S:Nat->Prop}{X Y:World}(h:PS tb x W p l n c m B b jb gb gw lo hi s X)(ht:Turns S X Y)(hS:∀y,S y->B<=y/\¬(lo<=y/\y<hi)/\y≠b/\y≠jb/\y≠gb/\y≠gw):PS tb x W p l n c m B b jb gb gw lo hi s Y:=by
 obtain⟨ak,al,ar,ck,cl,cr,u,pv,aa,ca,cb,cw,h1,h2⟩:=h.ex;refine⟨⟨ak,al,ar,ck,cl,cr,u,pv,aa,ca,cb,cw,h1.kept (fun y hy hl=>ht.block y (fun hs=>?_) hl),h2.turn ht (fun y hy=>⟨(hS y hy).1,(hS y hy).2.1⟩)⟩,h.ok,h.le⟩;obtain⟨-, -,g1,g2,g3,g4⟩:=hS y hs;rcases hy with e|e|e|e
 ·exact g1 e
 ·exact g2 e
 ·exact g3 e
 ·exact g4 e
theorem PS.next{X Y:World}(h:PS tb x W p l n c m B b jb gb gw lo hi s X)(hb:BL X Y):PS tb x W p l n c m B b jb gb gw lo hi s Y:=h.turn (S:=fun _=>False) (Turns.aQ hb) (fun _ h=>h.elim)
theorem PS.le3{X:World}(h:PS tb x W p l n c m B b jb gb gw lo hi s X):(hi<=b/\hi<=gb/\hi<=gw)/\B<=lo/\lo<=hi:=by
 obtain⟨ak,al,ar,ck,cl,cr,u,pv,aa,ca,cb,cw,h1,h2⟩:=h.ex;exact⟨⟨h1.ne.2.2.1,h1.ne.2.2.2.1,h1.ne.2.2.2.2⟩,h2.lt.1,h2.lt.2.1⟩
theorem PS.N8{X:World}(h:PS tb x W p l n c m B b jb gb gw lo hi s X):(∀y,bL b gb gw y->y<X.heap.size)/\jb<X.heap.size:=by
 obtain⟨ak,al,ar,ck,cl,cr,u,pv,aa,ca,cb,cw,h1,h2⟩:=h.ex;exact⟨h1.N8,aj h1.job⟩
theorem qd(i k t:Int)(w:World)(hT:vD x W p l n)(h:PS tb x W p l n c m B b jb gb gw lo hi s w)(hr:s.runs<=1000000/\s.cW<=1000000)(hm:m<=1000):
  Calls Tryz.prog 12 #[.pointer (some ⟨b,0,none⟩),.agg #[.int .i64 i,.int .i64 k,.int .i64 t]] w fun e w'=>e=.returned (.int .i64 (Wk.bM c (fI x W p n l) s i k t).2)/\PS tb x W p l n c m B b jb gb gw lo hi (Wk.bM c (fI x W p n l) s i k t).1 w'/\Turns (bL b gb gw) w w':=by
 obtain⟨ak,al,ar,ck,cl,cr,u,pv,aa,ca,cb,cw,h1,h2⟩:=h.ex;have hl:=hT.len;refine(WD i k t c (fI x W p n l) w h1 h.ok hr aC aC (fun X hX=>aF hX 7) (fun X hX q hq=>?_)).mono fun e w' g=>⟨g.1,⟨⟨ak,al,ar,ck,cl,cr,u,pv,aa,ca,cb,cw,g.2.1,h2.turn g.2.2 (fun y hy=>?_)⟩,(h.ok.step i k t).1,h.le⟩,g.2.2⟩
 ·have hm:=hT.chk l[q] (gY hq)
  have:=WB n c hT.num q hq hm.1 hm.2 hT.b7 (hT.err _) jb ca X (h2.next hX) ((hX.block _ (aj h1.job)).trans h1.job);unfold fI;rw[Int.toNat_natCast,Sub.aX hq];exact this
 ·have h3:=h.le3
  rcases hy with rfl|rfl|rfl<;>omega
theorem yS(w:World)(hT:vD x W p l n)(h:PS tb x W p l n c m B b jb gb gw lo hi s w):
  Calls Tryz.prog 14 #[.pointer (some ⟨b,0,none⟩)] w fun e w'=>e=.returned (.bool (Wk.mI c s))/\BL w w':=by
 obtain⟨ak,al,ar,ck,cl,cr,u,pv,aa,ca,cb,cw,h1,h2⟩:=h.ex;exact Ww w h1 c (fun X hX=>aF hX 7) (by have:=h.ok.bl;have:=hT.len;omega)
theorem yT(w:World)(h:PS tb x W p l n c m B b jb gb gw lo hi s w):
  Calls Tryz.prog 16 #[.pointer (some ⟨b,0,none⟩)] w fun e w'=>e=.returned (.tuple #[.int .i64 s.runs,.int .i64 s.cW])/\BL w w':=by
 obtain⟨ak,al,ar,ck,cl,cr,u,pv,aa,ca,cb,cw,h1,h2⟩:=h.ex;exact Wx w h1
def iJ(c:Int)(f:Int->Int)(i:Int):Wk.Pl->List Int->Wk.Pl×Bool
 |s,[]=>(s,true)
 |s,k::ks=>if (Wk.bM c f s i k 0).2=0 then iJ c f i (Wk.bM c f s i k 0).1 ks else ((Wk.bM c f s i k 0).1,false)
theorem C8(i:Int)(ks:List Int)(hk:ks.length<=10)(v:Value)(w:World)(hT:vD x W p l n)(h:PS tb x W p l n c m B b jb gb gw lo hi s w)(hr:s.runs<=900000/\s.cW<=900000)(hm:m<=1000)(hv:cH (fun y=>¬bL b gb gw y) w v ks):
  Calls Tryz.prog 15 #[.pointer (some ⟨b,0,none⟩),.int .i64 i,v] w fun e w'=>e=.returned (.bool (iJ c (fI x W p n l) i s ks).2)/\PS tb x W p l n c m B b jb gb gw lo hi (iJ c (fI x W p n l) i s ks).1 w'/\Turns (bL b gb gw) w w':=by
 obtain⟨a,cap,rfl,hok, -, -⟩:=hv.form;have HV:=hid (fun(X:World) (hX:Turns (bL b gb gw) w X)=>hv.keep (hX.keep (fun _ h=>h)));have rJ:=hid (fun(i k t:Int) (s':Wk.Pl) (X:World) (h':PS tb x W p l n c m B b jb gb gw lo hi s' X) hr'=>qd i k t X hT h' hr' hm);have HP:=hid h;obtain⟨N,hN⟩:=aV ks.length;rw[<-hN] at HV hok hk ⊢;have HN:=hid hN;have HR:=hid hr;generalize fI x W p n l=f at*;have HI:Hid (∀s':Wk.Pl,Wk.Ok l.length m s'->∀i k t,Wk.Inc s' (Wk.bM c f s' i k t).1):=hid (fun s' h' i k t=>(h'.step i k t).2);clear hv h hN hr hT;go_enter Tryz.func15,Tryz.ntmps15;go_wp2;go_loopw [7] (fun ii wr=>∃(j:Nat) (sj:Wk.Pl),j<=N/\ii=.int .i64 (j:Int)/\Hid (iJ c f i s ks=iJ c f i sj (ks.drop j))/\Hid (PS tb x W p l n c m B b jb gb gw lo hi sj wr)/\Hid (Turns (bL b gb gw) w wr)/\Hid (sj.runs<=s.runs+j/\sj.cW<=s.cW+j)) (fun ii _=>N-(intOf ii).toNat);case atStart=>exact⟨0,s,Nat.zero_le _,rfl,hid rfl,HP,hid (Turns.refl _ _),hid aC⟩
 case round=>
  obtain⟨j,sj,hj,rfl,HE,RH,WJ,XD⟩:=hrel;by_cases hlt:j<N
  ·have hj0:(0:Int)<=(j:Int):=by omega
   have hj1:(j:Int)<(N:Int):=by omega
   have hjl:j<ks.length:=by rw[<-HN.out];exact hlt
   obtain⟨u,hu, -,rfl⟩:=(HV.out wr WJ.out).at hjl;have HD:Hid (ks.drop j=ks[j]::ks.drop (j+1)):=hid (List.drop_eq_getElem_cons hjl);generalize ks[j]=k at*;clear hjl;have HS:=hid (rJ.out i k 0 sj wr RH.out (by have:=XD.out;have:=HR.out;omega));have HIn:=hid (HI.out sj RH.out.ok i k 0);have HU:Hid (iJ c f i s ks=if (Wk.bM c f sj i k 0).2=0 then iJ c f i (Wk.bM c f sj i k 0).1 (ks.drop (j+1)) else ((Wk.bM c f sj i k 0).1,false)):=hid (by rw[HE.out,HD.out];rfl);generalize Wk.bM c f sj i k 0=r at*;obtain⟨s2,z⟩:=r;simp only at HU HS HIn;go_wp2_with fail;refine HS.out.mono ?_;rintro e w2 ⟨rfl,hps,hts⟩;have GA:=hid hps;have qt:=hid (WJ.out.trans hts);clear hps hts HS;by_cases hz:z=0
   ·subst hz
    have HE2:Hid (iJ c f i s ks=iJ c f i s2 (ks.drop (j+1))):=hid (by rw[HU.out,if_pos rfl]);have Dm:Hid (s2.runs<=s.runs+(j+1:Nat)/\s2.cW<=s.cW+(j+1:Nat)):=hid (by have h1:=HIn.out;have h2:=XD.out;unfold Wk.Inc at h1;omega);go_wp2;go_roundw;case rel=>exact⟨j+1,s2,by omega,by go_num,HE2,GA,qt,Dm⟩
    simp[intOf];omega
   ·have HE2:Hid (iJ c f i s ks=(s2,false)):=hid (by rw[HU.out,if_neg hz])
    have Xb:(z==0)=false:=by simpa using hz
    go_wp2;go_ret;rw[HE2.out];exact⟨rfl,GA.out,qt.out⟩
  ·obtain rfl:N=j:=by omega
   have HE2:Hid (iJ c f i s ks=(sj,true)):=hid (by rw[HE.out,List.drop_of_length_le XG];rfl);go_wp2;go_ret;rw[HE2.out];exact⟨rfl,RH.out,WJ.out⟩
end
theorem QX{w:World}{g:Nat}{x y z u a b:Value}{tmps:Array Value}(h:w.heap[g]?=some (.cells #[x,y,z,u] 27 (0,0)))(hp:tmps[6]?=some (.pointer (some ⟨g,0,none⟩)))(hq:tmps[7]?=some a)(hr:tmps[8]?=some b):
  (results Tryz.f5 tmps).run Tryz.prog w=.ok (.tuple #[.agg #[x,y,z,u],a,b]) w:=by
 obtain⟨⟨h0,h1,h2,h3⟩, -⟩:=aW h;simp[results,Tryz.results5,go_sem,hp,hq,hr,h0,h1,h2,h3]
theorem aeC{S:Nat->Prop}{w:World}{v:Value}{p:List Vm.Ins}{g:Nat}{t:TypeId}{z:Int}{s u:Value}(h:kF S w v p)(hg:w.heap[g]?=some (.cells #[.int .i64 z,.slice none 0 0,s,u] t (0,0))):kF (fun y=>S y/\y≠g) w v p:=by
 obtain⟨a,cap,rfl,h1,h2,h3,h4,h5⟩:=h;refine⟨a,cap,rfl,h1,h2,h3,fun h0=>⟨h4 h0,fun e=>?_⟩,h5⟩;obtain⟨us, -,hu,rfl⟩:=h5 0 h0;have c1:=hu 1 _ rfl;have c3:=hu 3 _ rfl;rw[e,aF hg] at c1 c3;have hlt:=(Array.getElem?_eq_some_iff.1 c3).1;simp at hlt;have hs0:bJ a=0:=by omega
 rw[hs0] at c1;simp at c1
def abY(w:World)(e:Ending)(w':World):Prop:=∃sv uw pv x W p,e=.returned (.tuple #[sv,uw,pv])/\ah.zo x/\fA (w.heap.size<=·) w' sv x/\ah.tF x W/\cZ (w.heap.size<=·) w' uw W/\Vm.sZ x p/\kF (·<w'.heap.size) w' pv p/\BL w w'
theorem JL(L L2 L3:List Int)(hL:Fit L)(hK:Fit L2)(hP:Fit L3)(v u q:Value)(w:World)(hv:cH mJ w v L)(hu:cH mJ w u L2)(hq:cH mJ w q L3):
  Calls Tryz.prog 5 #[v,u,q] w (abY w):=by
 have HU:=hid (fun(X:World) (hX:BL w X)=>hu.keep (aB.below hX));have HQ:=hid (fun(X:World) (hX:BL w X)=>hq.keep (aB.below hX));obtain⟨w1,hw1⟩:=aV (w.alloc (.cells #[.int .i64 0,.slice none 0 0,.slice none 0 0,.slice none 0 0] 27));have hb1:BL w w1:=by rw[hw1];exact ay.alloc aH _
 have bf:=hid hb1;have DQ:Hid (w1.heap[w.heap.size]?=some (.cells #[.int .i64 0,.slice none 0 0,.slice none 0 0,.slice none 0 0] 27 (0,0))):=hid RM;have HS:=hid (Kt L hL v w1 (hv.keep (aB.below hb1)));have HZ1:Hid (w1.heap.size=w.heap.size+1):=hid tr;have HK:=hid hK;have HP:=hid hP;have HW1:=hid hw1;clear hw1 hb1 hv hu hq hL hK hP;go_enter Tryz.func5,Tryz.ntmps5;go_upto_region 1 with fail;rw[<-HW1.out];go_wp2_with fail;refine HS.out.mono ?_;rintro e w2 ⟨sv,x,rfl,hg,DW,hb2⟩;obtain⟨ak,ck,al,cl,ar,cr,rfl, -⟩:=DW.form;obtain⟨w3,hw3⟩:=aV (di w2 x.aI (.slice ak x.ai.length ck) (.slice al x.aN.length cl) (.slice ar x.aO.length cr));have hb3:BL w2 w3:=by rw[hw3];exact dZ ..
 have gj:Hid (BL w1 w3):=hid (cO hb2 hb3);have HX:=wv hw3;have Zk:=hid (fun(X:World) (hX:BL w3 X)=>DW.keep (aB.below (cO hb3 hX)));have HGd:=hid hg;have Dg:=hid (aR.jT (aR.kW (ah.AX hg)).1);unfold di at hw3;have HW3:=hid hw3;clear hg DW hb2 hb3 hw3 HS;go_upto_region 2 with fail;rw[<-HW3.out];have HSm:=hid (fun(X:World) (hX:BL w3 X)=>OZ x (ah.Nl HGd.out) (by have:=Dg.out.1;omega) (fun k hk=>by have:=(aR.kX (Dg.out.2.2.2 k hk)).1;omega) L2 HK.out _ u _ _ X (Zk.out X hX) (HU.out X (cO bf.out (cO gj.out hX))));have HPg:=hid (fun(X:World) (hX:BL w3 X)=>Ju x (ZU HGd.out) (ah.Nl HGd.out) L3 HP.out _ q _ _ X (Zk.out X hX) (HQ.out X (cO bf.out (cO gj.out hX))));obtain⟨l8,kL,l9,mR⟩:=MJ HX.out;refine sQ w3 7 (.quiet 0 (.quiet 1 (.quiet 2 (.quiet 4 (.quiet 5 (.one 3 (.one 6 .done))))))) lN (by kernel_rfl) fun wq iK=>?_
 iterate 5 refine eB ?_
 refine aM rfl ?_;go_wp2_with fail;refine(HSm.out wq iK.out).mono ?_;rintro e w4 ⟨uw,W,rfl,jI,hwf,hb4⟩;have f9:=aJ iK hb4;have HSo:=hid jI;have HWf:Hid (cZ (w3.heap.size<=·) w4 uw W):=hid (cZ.mono hwf.sl (fun b _ (h:wq.heap.size<=b)=>Nat.le_trans iK.out.size h));obtain⟨aw,cw,rfl, -, -, -⟩:=hwf.sl.form;clear jI hwf hb4;go_wp2_with fail;refine aD (BL w3) (fun _ h=>h) f9.out ?_;refine aM rfl ?_;go_wp2_with fail;refine(HPg.out w4 f9.out).mono ?_;rintro e w5 ⟨pv,p,rfl,RI,hpv,jR⟩;have fF:=aJ f9 jR;have HWf5:Hid (cZ (w3.heap.size<=·) w5 (.slice aw W.length cw) W):=hid (cZ.keep HWf.out (aB.below jR));have HGp:=hid RI;have qP:=aJ gj fF.out;have Al:Hid (w5.heap[w.heap.size]?=some (.cells #[.int .i64 0,.slice none 0 0,.slice none 0 0,.slice none 0 0] 27 (0,0))):=hid ((qP.out.block _ (aj DQ.out)).trans DQ.out);have HPv:=hid (aeC hpv Al.out);obtain⟨ap,cp,rfl, -, -, -⟩:=hpv.form;clear RI hpv jR;go_wp2_with fail;refine aD (BL w3) (fun _ h=>h) fF.out ?_;refine aT ?_;try simp only[iW,iX]
 clear l8 kL l9 mR;obtain⟨⟨z0,z1,z2,z3⟩,zf⟩:=aW Al.out;have ye:=hid (DA Al.out (.int .i64 x.aI) (.slice ak x.ai.length ck) (.slice al x.aN.length cl) (.slice ar x.aO.length cr))
 have pH:Hid (∀X,Turns (·=w.heap.size) w5 X->fA (w.heap.size<=·) X (.agg #[.int .i64 x.aI,.slice ak x.ai.length ck,.slice al x.aN.length cl,.slice ar x.aO.length cr]) x/\cZ (w.heap.size<=·) X (.slice aw W.length cw) W/\kF (·<X.heap.size) X (.slice ap p.length cp) p/\BL w X):=hid (fun X ht=>by
  have z1:=HZ1.out;have zl:=gj.out.size;refine⟨fA.mono ((Zk.out w5 fF.out).keep (ht.keep (fun b hb e=>?_))) (fun b _ hb=>?_),cZ.mono (cZ.keep HWf5.out (ht.keep (fun b hb e=>?_))) (fun b _ hb=>?_),dO.mono aC cB (dO.keep cB HPv.out (ht.keep (fun b hb e=>hb.2 e))) (fun b hl _=>hl),?_⟩
  ·have:w1.heap.size<=b:=hb
   omega
  ·have:w1.heap.size<=b:=hb
   show w.heap.size<=b
   omega
  ·have:w3.heap.size<=b:=hb
   omega
  ·have:w3.heap.size<=b:=hb
   show w.heap.size<=b
   omega
  ·exact(cO bf.out qP.out).trans (ht.below (by have:=qP.out.size;omega) (fun b e=>Nat.le_of_eq e.symm)))
 go_wp2;refine bodyPost_ret (QX ye.out.1 rfl rfl rfl) rfl ?_;have h:=pH.out _ ye.out.2;unfold abY;exact⟨_,_,_,x,W,p,rfl,HGd.out,h.1,HSo.out,h.2.1,HGp.out,h.2.2.1,h.2.2.2⟩
theorem QY{w:World}{g:Nat}{x y z u e:Value}{tmps:Array Value}(h:w.heap[g]?=some (.cells #[x,y,z,u] 98 (0,0)))(hp:tmps[2]?=some (.pointer (some ⟨g,0,none⟩)))(hq:tmps[3]?=some e):
  (results Tryz.f27 tmps).run Tryz.prog w=.ok (.tuple #[.agg #[x,y,z,u],e]) w:=by
 obtain⟨⟨h0,h1,h2,h3⟩, -⟩:=aW h;simp[results,Tryz.results27,go_sem,hp,hq,h0,h1,h2,h3]
def ResP(l0:Sub.S)(c:Int)(w:World)(e:Ending)(w':World):Prop:=∃t,e=.returned (.tuple #[.agg #[t,.int .i64 c,.slice none 0 0,.slice none 0 0],.int .i64 0])/\cQ mJ w' t l0/\BL w w'
theorem JM{tb:Nat}{x:ah.bF}{W:ah.cG}{p:List Vm.Ins}{l:List Sub.S}{n c:Int}{m B b jb gb gw lo hi:Nat}{s:Wk.Pl}(w:World)(hT:vD x W p l n)(h:PS tb x W p l n c m B b jb gb gw lo hi s w)(hd:Wk.mI c s=true)(hl:0<l.length)(h0:(Wk.ent s 0).code=c):
  Calls Tryz.prog 27 #[.pointer (some ⟨b,0,none⟩)] w (ResP l[0] c w):=by
 have HP:=hid (fun(X:World) (hX:BL w X)=>h.next hX);have HD:=hid (fun(X:World) (hX:BL w X)=>yS X hT (h.next hX));rw[hd] at HD;obtain⟨ak,al,ar,ck,cl,cr,u,pv,aa,ca,cb,cw,h1,h2⟩:=h.ex;have hbl:=h.ok.bl;have hb0:0<s.book.length:=by omega
 have he0:s.book[0].code=c:=by
  have:Wk.ent s 0=s.book[0]:=by unfold Wk.ent;rw[Int.toNat_zero,Sub.aX hb0]
  rw[<-this];exact h0
 have HB:=hid (fun(X:World) (hX:BL w X)=>(h1.below hX).mU hb0);have Vr:=hid (fun(X:World) (hX:BL w X)=>(h1.below hX).eV);have HJ:=hid (fun(X:World) (hX:BL w X)=>(hX.block _ (aj h1.job)).trans h1.job);obtain⟨t,ht,hct⟩:=h2.tsk 0 hl;have Av:=hid (fun(X:World) (hX:BL w X)=>hct X (aB.below hX));have Zk:=hid (fun(X:World) (hX:BL w X)=>cQ.mono (S':=mJ) (cQ.keep ht (aB.below hX)) (fun _ _ _=>trivial));have hsl:=h2.sl;obtain⟨at',ct,rfl, -, -, -⟩:=ht.form;generalize hs0:s.book[0]=en at*;obtain⟨kn,co,le⟩:=en;simp only at he0 HB;subst he0;have hln:∀(n:Nat),n=s.book.length->(0:Int)<n:=fun n hn=>by omega
 obtain⟨nb,hnb⟩:=aV s.book.length;have hn1:=hln nb hnb;have hn2:0<nb:=by omega
 rw[<-hnb] at Vr;obtain⟨ml,hml⟩:=aV l.length;have hm1:(0:Int)<(ml:Int):=by omega
 have hm2:0<ml:=by omega
 rw[<-hml] at HJ hsl;generalize l[0]=l0 at*;generalize l0.length=l0n at*;clear h h1 h2 hd hbl hb0 hs0 hct ht hl hT hln hnb hml;obtain⟨w1,hw1⟩:=aV (w.alloc (.cells #[.slice none 0 0,.int .i64 0,.slice none 0 0,.slice none 0 0] 98));have bf:Hid (Below w.heap.size w w1):=hid ud;have DQ:Hid (w1.heap[w.heap.size]?=some (.cells #[.slice none 0 0,.int .i64 0,.slice none 0 0,.slice none 0 0] 98 (0,0))):=hid RM;have HW1:=hid hw1;clear hw1;go_enter Tryz.func27,Tryz.ntmps27;go_upto_region 1 with fail;rw[<-HW1.out];go_wp2_with fail;refine(HD.out w1 bf.out).mono ?_;rintro e w2 ⟨rfl,hb2⟩;have eC:Hid (BL w1 w2):=hid hb2;have bK:=aJ bf hb2;clear hb2;obtain⟨w3,hw3⟩:=aV (w2.alloc (.cells #[.slice none 0 0,.int .i64 co,.slice none 0 0,.slice none 0 0] 98));have gj:Hid (Below w2.heap.size w2 w3):=hid (by rw[hw3];exact ay.alloc aH _);have bZ:=aJ bK gj.out;have ND:Hid (w3.heap[w2.heap.size]?=some (.cells #[.slice none 0 0,.int .i64 co,.slice none 0 0,.slice none 0 0] 98 (0,0))):=hid acd;have rH:Hid (w3.heap[w.heap.size]?=some (.cells #[.slice none 0 0,.int .i64 0,.slice none 0 0,.slice none 0 0] 98 (0,0))):=hid ((gj.out.block _ (XO (aj DQ.out) eC.out.size)).trans ((eC.out.block _ (aj DQ.out)).trans DQ.out));have HZ:Hid (w.heap.size<=w2.heap.size/\w.heap.size≠w2.heap.size):=hid ⟨bK.out.size,by have:=aj DQ.out;have:=eC.out.size;omega⟩;have HW3:=hid hw3;clear hw3;obtain⟨y0,y1,y2,y3,y4⟩:=Vr.out w2 bK.out;have j7:=aF (HJ.out w2 bK.out) 4;have j7:w2.cell? ⟨jb,7,none⟩=some (.int .i64 co):=aF (HJ.out w2 bK.out) 7;go_upto_region 4 with fail;rw[<-HW3.out];clear y0 y1 y2 y3 y4 j7;obtain⟨y0,y1,y2,y3,y4⟩:=Vr.out w3 bZ.out;go_wp2;go_loopw [24] (fun ii wr=>ii=.int .i64 0/\w3=wr) (fun _ _=>0);case atStart=>exact⟨rfl,rfl⟩
 case round=>
  obtain⟨rfl,rfl⟩:=hrel;obtain⟨x0,x1,x2⟩:=HB.out w3 bZ.out;simp only[Nat.zero_mul,Nat.zero_add] at x0 x1 x2;obtain⟨w4,hw4⟩:=aV (w3.alloc (.cells #[.bool kn,.int .i64 co,.int .i64 le] 77));have jM:Hid (Below w3.heap.size w3 w4):=hid (by rw[hw4];exact ay.alloc aH _);have f9:=aJ bZ jM.out;have HE4:Hid (w4.heap[w3.heap.size]?=some (.cells #[.bool kn,.int .i64 co,.int .i64 le] 77 (0,0))):=hid (by rw[hw4];exact aP _ _ rfl);have EW:Hid (w4.heap[w2.heap.size]?=some (.cells #[.slice none 0 0,.int .i64 co,.slice none 0 0,.slice none 0 0] 98 (0,0))):=hid ((jM.out.block _ (aj ND.out)).trans ND.out);have FY:Hid (w4.heap[w.heap.size]?=some (.cells #[.slice none 0 0,.int .i64 0,.slice none 0 0,.slice none 0 0] 98 (0,0))):=hid ((jM.out.block _ (aj rH.out)).trans rH.out);have Dq:=hid hw4;clear hw4;go_upto_region 7 with fail;rw[<-Dq.out];clear x0 x1 x2 y0 y1 y2 y3 y4;have e1:w4.cell? ⟨w3.heap.size,1,none⟩=some (.int .i64 co):=aF HE4.out 1;obtain⟨y0,y1,y2,y3,y4⟩:=Vr.out w4 f9.out;have j7:w4.cell? ⟨jb,7,none⟩=some (.int .i64 co):=aF (HJ.out w4 f9.out) 7;go_quiet (fail);have iK:Hid (∀n,BL w4 (w4.drewN n)):=hid (fun n=>aG ay n);clear y0 y1 y2 y3 y4 j7 e1;generalize hq:w4.drewN _=w5;have jQ:Hid (BL w4 w5):=hid (hq▸iK.out _);have fF:=aJ f9 jQ.out;have I5:Hid (w5.heap[w2.heap.size]?=some (.cells #[.slice none 0 0,.int .i64 co,.slice none 0 0,.slice none 0 0] 98 (0,0))):=hid ((jQ.out.block _ (aj EW.out)).trans EW.out);have Al:Hid (w5.heap[w.heap.size]?=some (.cells #[.slice none 0 0,.int .i64 0,.slice none 0 0,.slice none 0 0] 98 (0,0))):=hid ((jQ.out.block _ (aj FY.out)).trans FY.out);clear hq iK;obtain⟨y0,y1,y2,y3,y4⟩:=Vr.out w5 fF.out;have j8:w5.cell? ⟨jb,8,none⟩=some (.slice aa ml ca):=aF (HJ.out w5 fF.out) 8;have tk:w5.cell? ⟨bD aa,bJ aa,none⟩=some (.slice at' l0n ct):=Av.out w5 fF.out;obtain⟨⟨c0,c1,c2,c3⟩,cz⟩:=aW I5.out;have Lz:Hid ((w5.setCell ⟨w2.heap.size,0,none⟩ (.slice at' l0n ct)).heap[w2.heap.size]?=some (.cells #[.slice at' l0n ct,.int .i64 co,.slice none 0 0,.slice none 0 0] 98 (0,0))):=hid (heap_setCell_same w5 w2.heap.size 0 _ _ _ I5.out);have Nt:Hid ((w5.setCell ⟨w2.heap.size,0,none⟩ (.slice at' l0n ct)).heap[w.heap.size]?=some (.cells #[.slice none 0 0,.int .i64 0,.slice none 0 0,.slice none 0 0] 98 (0,0))):=hid ((nZ w5 _ _ _ HZ.out.2).trans Al.out);have jS:Hid (BL w (w5.setCell ⟨w2.heap.size,0,none⟩ (.slice at' l0n ct))):=hid (fF.out.setCell (p:=⟨w2.heap.size,0,none⟩) HZ.out.1 _);go_upto_region 9 with fail;generalize w5.setCell ⟨w2.heap.size,0,none⟩ (.slice at' l0n ct)=w6 at*;clear y0 y1 y2 y3 y4 j8 tk c0 c1 c2 c3 cz;obtain⟨⟨c0,c1,c2,c3⟩, -⟩:=aW Lz.out;obtain⟨⟨d0,d1,d2,d3⟩,dz⟩:=aW Nt.out;have ye:=hid (DA Nt.out (.slice at' l0n ct) (.int .i64 co) (.slice none 0 0) (.slice none 0 0))
  have pH:Hid (∀X,Turns (·=w.heap.size) w6 X->cQ mJ X (.slice at' l0n ct) l0/\BL w X):=hid (fun X ht=>by
   have hb:BL w X:=jS.out.trans (ht.below jS.out.size (fun b e=>Nat.le_of_eq e.symm));exact⟨Zk.out X hb,hb⟩)
  go_wp2;refine bodyPost_ret (QY ye.out.1 rfl rfl) rfl ?_;exact⟨_,rfl,pH.out _ ye.out.2⟩
def xL:ah.bF:=⟨0,[⟨⟨#[97]⟩,0,9,[⟨⟨#[105,100]⟩,ah.nil,ah.nil,0,0,0,[],[]⟩]⟩],[],[]⟩
def wL:ah.cG:=[[[0]]]
def pL:List Vm.Ins:=[⟨4,1,0,0⟩,⟨8,1,0,3⟩,⟨0,0,0,0⟩,⟨0,3,0,0⟩]
def lL:List Sub.S:=[[[false]],[[true]]]
theorem okL:ah.okB xL=true:=by kernel_rfl
theorem ahM:aR.eM xL wL=true:=by kernel_rfl
theorem aeD:aR.cN xL=[]:=by kernel_rfl
theorem aeE(t:Sub.S):Sub.valid (aR.wr xL wL) t=true:=by
 rw[Sub.kT];intro k i _;unfold aR.wr aR.wrong;rw[aeD];rfl
theorem MF:aR.oA xL wL lL where
 sorted:=by unfold Sub.Sorted;decide
 mem t:=by
  constructor
  ·intro h
   refine⟨?_,aeE t⟩;have hf:∀a:Bool,Sub.Fit (aR.shape wL) [[a]]:=fun a=>⟨rfl,fun k=>by cases k<;>rfl⟩;simp only[lL,kM,vE,or_false] at h;rcases h with rfl|rfl<;>exact hf _
  ·rintro ⟨⟨h1,h2⟩, -⟩
   have h3:=h2 0;match t,h1,h3 with
   |[[a]],_,_=>cases a<;>simp[lL]
theorem fdL(k j:Int):(ah.fd xL k j).kind=0:=by
 have hz:∀f:ah.dh,f=⟨⟨#[105,100]⟩,ah.nil,ah.nil,0,0,0,[],[]⟩\/f=ah.vQ->f.kind=0:=fun f h=>by
  rcases h with rfl|rfl<;>rfl
 refine hz _ ?_
 have hk:ah.kd xL k=⟨⟨#[97]⟩,0,9,[⟨⟨#[105,100]⟩,ah.nil,ah.nil,0,0,0,[],[]⟩]⟩\/ah.kd xL k=ah.G6:=by
  unfold ah.kd xL;cases k.toNat with
  |zero=>exact .inl rfl
  |succ n=>exact .inr rfl
 unfold ah.fd;rcases hk with e|e<;>rw[e]
 ·cases j.toNat with
  |zero=>exact .inl rfl
  |succ n=>exact .inr rfl
 ·exact .inr rfl
theorem ahN:ZT xL wL:=fun k i j h=>by rw[fdL] at h;cases h
theorem wsL:wL.length<=1000/\∀r∈wL,r.length<=1000000:=⟨by decide,by decide⟩
theorem Fv:vD xL wL pL lL 100 where
 chk s hs:=⟨jF okL ahM ((MF.mem s).1 hs).1,((MF.mem s).1 hs).2⟩
 b7:=ahN
 err W':=Vm.CY (x:=xL) (p:=pL) (by kernel_rfl) (by kernel_rfl) W' aC
 num:=by unfold yP;omega
 len:=by decide
abbrev fL:Int->Int:=fI xL wL pL 100 lL
def s0L:Wk.Pl:=⟨List.replicate lL.length Wk.zeroE,List.replicate 2 Wk.idle,0,0⟩
def s1L:Wk.Pl:=⟨[⟨false,0,0⟩,Wk.zeroE],[⟨0,false,0, -1,0⟩,Wk.idle],0,0⟩
def s2L:Wk.Pl:=⟨[⟨false,0,0⟩,⟨false,0,1⟩],[⟨0,false,0, -1,0⟩,⟨1,false,0, -1,0⟩],0,0⟩
def s3L:Wk.Pl:=⟨[⟨true,3, -1⟩,⟨false,0,1⟩],[⟨-1,false,3,0,3⟩,⟨1,false,0, -1,0⟩],1,0⟩
def s4L:Wk.Pl:=⟨[⟨true,3, -1⟩,⟨true,0, -1⟩],[⟨-1,false,3,0,3⟩,⟨-1,false,0,1,0⟩],2,1⟩
theorem st1:iJ 3 fL 0 s0L [0]=(s1L,true):=by kernel_rfl
theorem st2:iJ 3 fL 1 s1L [0]=(s2L,true):=by kernel_rfl
theorem st2b:Wk.bM 3 fL s2L 0 0 0=(s2L,8):=by kernel_rfl
theorem dn2:Wk.mI 3 s2L=false:=by kernel_rfl
theorem st3:iJ 3 fL 0 s2L [1,2]=(s3L,true):=by kernel_rfl
theorem dn3:Wk.mI 3 s3L=true:=by kernel_rfl
theorem st4:iJ 3 fL 1 s3L [1,2,3]=(s4L,true):=by kernel_rfl
theorem dn4:Wk.mI 3 s4L=true:=by kernel_rfl
theorem st4b:Wk.bM 3 fL s4L 0 0 0=(s4L,6):=by kernel_rfl
theorem schL{S:Nat->Prop}{w:World}{g h:Nat}(h1:w.heap[g]?=some (.cells #[.string ⟨#[105,100]⟩,.string ah.nil,.string ah.nil,.int .i64 0,.int .i64 0,.int .i64 0,.slice none 0 0,.slice none 0 0] 92 (0,0)))
  (h2:w.heap[h]?=some (.cells #[.string ⟨#[97]⟩,.int .i64 0,.int .i64 9,.slice (some ⟨g,0,none⟩) 1 1] 95 (0,0)))(hg:S g)(hh:S h):
  fA S w (.agg #[.int .i64 0,.slice (some ⟨h,0,none⟩) 1 1,.slice none 0 0,.slice none 0 0]) xL:=by
 have f1:dJ S w (.slice (some ⟨g,0,none⟩) 1 1) [⟨⟨#[105,100]⟩,ah.nil,ah.nil,0,0,0,[],[]⟩]:=
  mW (α:=ah.dh) (R:=jX S) (n:=8) [[.string ⟨#[105,100]⟩,.string ah.nil,.string ah.nil,.int .i64 0,.int .i64 0,.int .i64 0,.slice none 0 0,.slice none 0 0]] h1 rfl rfl (fun us h=>by rw[nU.1 h];rfl) aZ hg (fun j a1 a2=>by
   obtain rfl:j=0:=by simpa using a1
   exact⟨_,_,rfl,gQ.nil _ _ _,gQ.nil _ _ _⟩)
 have k1:gJ S w (.slice (some ⟨h,0,none⟩) 1 1) [⟨⟨#[97]⟩,0,9,[⟨⟨#[105,100]⟩,ah.nil,ah.nil,0,0,0,[],[]⟩]⟩]:=
  mW (α:=ah.eZ) (R:=DF S) (n:=4) [[.string ⟨#[97]⟩,.int .i64 0,.int .i64 9,.slice (some ⟨g,0,none⟩) 1 1]] h2 rfl rfl (fun us h=>by rw[nU.1 h];rfl) aZ hh (fun j a1 a2=>by
   obtain rfl:j=0:=by simpa using a1
   exact⟨_,rfl,f1⟩)
 exact⟨_,_,_,rfl,k1,dO.nil _ _ _ _,dO.nil _ _ _ _⟩
theorem yU{α:Type}{R:World->Value->α->Prop}{S:Nat->Prop}{w:World}{g:Nat}{v:Value}{y:α}{t:TypeId}(h:w.heap[g]?=some (.cells #[v] t (0,0)))(hS:S g)(hR:R w v y):gQ R S w (.slice (some ⟨g,0,none⟩) 1 1) [y]:=
 xW (vs:=[v]) h rfl rfl aZ hS (fun j a1 a2=>by
  match j,a1 with
  |0,_=>exact hR)
theorem wldL{S:Nat->Prop}{w:World}{g0 g1 g2:Nat}{t0 t1 t2:TypeId}(h0:w.heap[g0]?=some (.cells #[.int .i64 0] t0 (0,0)))(h1:w.heap[g1]?=some (.cells #[.slice (some ⟨g0,0,none⟩) 1 1] t1 (0,0)))(h2:w.heap[g2]?=some (.cells #[.slice (some ⟨g1,0,none⟩) 1 1] t2 (0,0)))
  (s0:S g0)(s1:S g1)(s2:S g2):cZ S w (.slice (some ⟨g2,0,none⟩) 1 1) wL:=
 yU h2 s2 (yU h1 s1 (yU h0 s0 rfl))
theorem prgL{S:Nat->Prop}{w:World}{g:Nat}{t:TypeId}(h:w.heap[g]?=some (.cells #[.int .i64 4,.int .i64 1,.int .i64 0,.int .i64 0,.int .i64 8,.int .i64 1,.int .i64 0,.int .i64 3,.int .i64 0,.int .i64 0,.int .i64 0,.int .i64 0,.int .i64 0,.int .i64 3,.int .i64 0,.int .i64 0] t (0,0)))(hs:S g):
  kF S w (.slice (some ⟨g,0,none⟩) 4 4) pL:=by
 refine mW (xs:=pL) [[.int .i64 4,.int .i64 1,.int .i64 0,.int .i64 0],[.int .i64 8,.int .i64 1,.int .i64 0,.int .i64 3],[.int .i64 0,.int .i64 0,.int .i64 0,.int .i64 0],[.int .i64 0,.int .i64 3,.int .i64 0,.int .i64 0]] h rfl rfl aZ (by simp[pL]) hs (fun j a1 a2=>?_);match j,a1 with
 |0,_=>rfl
 |1,_=>rfl
 |2,_=>rfl
 |3,_=>rfl
theorem Ob{S:Nat->Prop}{w:World}(xs:List Int)(h1:xs.length<=1000){m:Nat}(hm:xs.length=m)(hS:S w.heap.size):cH S (w.alloc (.cells (xs.map (Value.int .i64)).toArray 3)) (.slice (some ⟨w.heap.size,0,none⟩) m m) xs:=
 xW (aP _ _ rfl) hm aZ h1 hS (fun j a1 a2=>by simp)
theorem C9(tb:Nat)(w:World)(hlaid:LaidW w)(htab:TabC tb w):
  Calls Tryz.prog 10 #[] w fun e w'=>e=.returned (.bool true)/\BL w w':=by
 obtain⟨w3,hw3⟩:=aV ((((((((w.alloc (.cells #[.string ⟨#[105,100]⟩,.string ⟨#[]⟩,.string ⟨#[]⟩,.int .i64 0,.int .i64 0,.int .i64 0,.slice none 0 0,.slice none 0 0] 92)).alloc (.cells #[.string ⟨#[97]⟩,.int .i64 0,.int .i64 9,.slice (some ⟨w.heap.size,0,none⟩) 1 1] 95)).alloc (.cells #[.int .i64 0,.slice (some ⟨w.heap.size+1,0,none⟩) 1 1,.slice none 0 0,.slice none 0 0] 27)).alloc (.cells #[.int .i64 4,.int .i64 1,.int .i64 0,.int .i64 0,.int .i64 8,.int .i64 1,.int .i64 0,.int .i64 3,.int .i64 0,.int .i64 0,.int .i64 0,.int .i64 0,.int .i64 0,.int .i64 3,.int .i64 0,.int .i64 0] 89)).alloc (.cells #[.int .i64 0] 3)).alloc (.cells #[.slice (some ⟨w.heap.size+1+1+1+1,0,none⟩) 1 1] 22)).alloc (.cells #[.slice (some ⟨w.heap.size+1+1+1+1+1,0,none⟩) 1 1] 96)));have hs3:w3.heap.size=w.heap.size+7:=by rw[hw3];simp
 have hb3:BL w w3:=by
  rw[hw3];exact((((((ay.alloc aH _).alloc aZ _).alloc mV _).alloc mV _).alloc mV _).alloc mV _).alloc mV _
 have f0:w3.heap[w.heap.size]?=some (.cells #[.string ⟨#[105,100]⟩,.string ⟨#[]⟩,.string ⟨#[]⟩,.int .i64 0,.int .i64 0,.int .i64 0,.slice none 0 0,.slice none 0 0] 92 (0,0)):=by rw[hw3];exact aY _ (aY _ (aY _ (aY _ (aY _ (aY _ (aP _ _ aZ))))))
 have f1:w3.heap[w.heap.size+1]?=some (.cells #[.string ⟨#[97]⟩,.int .i64 0,.int .i64 9,.slice (some ⟨w.heap.size,0,none⟩) 1 1] 95 (0,0)):=by rw[hw3];exact aY _ (aY _ (aY _ (aY _ (aY _ (aP _ _ aZ)))))
 have f2:w3.heap[w.heap.size+1+1]?=some (.cells #[.int .i64 0,.slice (some ⟨w.heap.size+1,0,none⟩) 1 1,.slice none 0 0,.slice none 0 0] 27 (0,0)):=by rw[hw3];exact aY _ (aY _ (aY _ (aY _ (aP _ _ aZ))))
 have f3:w3.heap[w.heap.size+1+1+1]?=some (.cells #[.int .i64 4,.int .i64 1,.int .i64 0,.int .i64 0,.int .i64 8,.int .i64 1,.int .i64 0,.int .i64 3,.int .i64 0,.int .i64 0,.int .i64 0,.int .i64 0,.int .i64 0,.int .i64 3,.int .i64 0,.int .i64 0] 89 (0,0)):=by rw[hw3];exact aY _ (aY _ (aY _ (aP _ _ aZ)))
 have f4:w3.heap[w.heap.size+1+1+1+1]?=some (.cells #[.int .i64 0] 3 (0,0)):=by rw[hw3];exact aY _ (aY _ (aP _ _ aZ))
 have f5:w3.heap[w.heap.size+1+1+1+1+1]?=some (.cells #[.slice (some ⟨w.heap.size+1+1+1+1,0,none⟩) 1 1] 22 (0,0)):=by rw[hw3];exact aY _ (aP _ _ aZ)
 have f6:w3.heap[w.heap.size+1+1+1+1+1+1]?=some (.cells #[.slice (some ⟨w.heap.size+1+1+1+1+1,0,none⟩) 1 1] 96 (0,0)):=by rw[hw3];exact aP _ _ aZ
 have bZ:=hid hb3;have HBox:Hid (∀X,BL w3 X->X.heap[w.heap.size+1+1]?=some (.cells #[.int .i64 0,.slice (some ⟨w.heap.size+1,0,none⟩) 1 1,.slice none 0 0,.slice none 0 0] 27 (0,0))):=hid (fun X hX=>(hX.block _ aC).trans f2)
 have HA:Hid (sS tb xL wL (.agg #[.int .i64 0,.slice (some ⟨w.heap.size+1,0,none⟩) 1 1,.slice none 0 0,.slice none 0 0]) (.slice (some ⟨w.heap.size+1+1+1+1+1+1,0,none⟩) 1 1) w3.heap.size w3):=hid
  {Cv:=schL f0 f1 aC aC
   A5:=wldL f4 f5 f6 aC aC aC
   laid:=hlaid.next hb3
   tab:=htab.below hb3 htab.lt (by have:=hlaid.size;omega)
   tbB:=XO htab.lt hb3.size
   size:=Nat.le_trans hlaid.size hb3.size
   le:=aH}
 have WK:Hid (CP 7 #[.agg #[.int .i64 0,.slice (some ⟨w.heap.size+1,0,none⟩) 1 1,.slice none 0 0,.slice none 0 0],.slice (some ⟨w.heap.size+1+1+1+1+1+1,0,none⟩) 1 1,.slice (some ⟨w.heap.size+1+1+1,0,none⟩) 4 4,.int .i64 100,.int .i64 3,.int .i64 2] w3 fun e w'=>∃b jb gb gw hi,e=.returned (.tuple #[.pointer (some ⟨b,0,none⟩),.int .i64 0])/\PS tb xL wL pL lL 100 3 2 w3.heap.size b jb gb gw w3.heap.size hi s0L w'/\w3.heap.size<=hi/\BL w3 w'):=hid (by
  refine(Gq xL wL pL lL MF okL ahM wsL qg qg 100 Fv.num (Fv.err _) 3 aC aC 2 aC aC _ _ _ _ _ _ (some ⟨w.heap.size+1+1+1+1+1+1,0,none⟩) (some ⟨w.heap.size+1+1+1,0,none⟩) 1 4 tb w3.heap.size w3.heap.size w3 HA.out ⟨aH,aH⟩ (dO.mono aC cB (prgL (S:=(·<w3.heap.size)) f3 aC) (fun b _ hb=>.inl hb))).mono ?_
  rintro e w' ⟨b,jb,gb,gw,aa,ca,hi,rfl,g1,g2,g3,g4,g5⟩
  exact⟨b,jb,gb,gw,hi,rfl,⟨⟨_,_,_,_,_,_,_,_,_,_,_,_,g1,g2⟩,Wk.xJ _ _,g4⟩,g3,g5⟩)
 clear f0 f1 f2 f3 f4 f5 f6 hs3 hb3 hlaid htab HA;have HW3:=hid hw3;clear hw3;obtain⟨⟨y0,y1,y2,y3⟩, -⟩:=aW (HBox.out w3 ay);go_enter Tryz.func10,Tryz.ntmps10;go_wp2_with fail;rw[show (⟨#[]⟩:ByteArray)=ah.nil from rfl] at*;rw[<-HW3.out];refine WK.out.mono ?_;rintro e w4 ⟨b,jb,gb,gw,hi,rfl,hps,hhi,hb4⟩;have f9:Hid (BL w3 w4):=hid hb4;have Xg:=hid hps
 have My:Hid (∀y,bL b gb gw y->w3.heap.size<=y/\y<w4.heap.size):=hid (fun y hy=>⟨by
  have h1:=hps.le3.1
  rcases hy with rfl|rfl|rfl<;>omega,hps.N8.1 y hy⟩)
 clear hhi hb4 hps y0 y1 y2 y3 WK;have HSs:=hid (fun(i:Int) (ks:List Int) (hk:ks.length<=10) (v:Value) (s':Wk.Pl) (X:World) (h':PS tb xL wL pL lL 100 3 2 w3.heap.size b jb gb gw w3.heap.size hi s' X) hr' hv=>C8 i ks hk v X Fv h' hr' aC hv);have rJ:=hid (fun(i k t:Int) (s':Wk.Pl) (X:World) (h':PS tb xL wL pL lL 100 3 2 w3.heap.size b jb gb gw w3.heap.size hi s' X) hr'=>qd i k t X Fv h' hr' aC);have HDn:=hid (fun(s':Wk.Pl) (X:World) (h':PS tb xL wL pL lL 100 3 2 w3.heap.size b jb gb gw w3.heap.size hi s' X)=>yS X Fv h');have AB:=hid (fun(s':Wk.Pl) (X:World) (h':PS tb xL wL pL lL 100 3 2 w3.heap.size b jb gb gw w3.heap.size hi s' X)=>yT X h');have IJ:=hid (fun(X:World) (h':PS tb xL wL pL lL 100 3 2 w3.heap.size b jb gb gw w3.heap.size hi s4L X)=>JM X Fv h' dn4 qg qg);have HZ4:Hid (w4.heap.size<=w4.heap.size):=hid aH;have hba:BL w4 (w4.alloc (.cells #[.int .i64 0] 3)):=ay.alloc aH _;have A7:=aJ f9 hba;have HS:=hid (HSs.out 0 [0] qg (.slice (some ⟨w4.heap.size,0,none⟩) 1 1) s0L _ (Xg.out.next hba) qg (Ob [0] qg rfl (fun hy=>by have h1:=My.out _ hy;have h2:=HZ4.out;omega)));rw[st1] at HS;simp only at HS;clear hba;go_wp2_with fail;refine HS.out.mono ?_;rintro e w5 ⟨rfl,hps,hts⟩;have Nw:=hid hps;have fF:Hid (BL w3 w5):=hid (A7.out.trans (hts.below A7.out.size (fun y hy=>(My.out y hy).1)));have HZ5:Hid (w4.heap.size<=w5.heap.size):=hid (Nat.le_trans HZ4.out (Nat.le_trans aZ hts.size));clear hps hts HS A7;have hba:BL w5 (w5.alloc (.cells #[.int .i64 0] 3)):=ay.alloc aH _;have A7:=aJ fF hba;have HS:=hid (HSs.out 1 [0] qg (.slice (some ⟨w5.heap.size,0,none⟩) 1 1) s1L _ (Nw.out.next hba) qg (Ob [0] qg rfl (fun hy=>by have h1:=My.out _ hy;have h2:=HZ5.out;omega)));rw[st2] at HS;simp only at HS;clear hba;go_wp2_with fail;refine HS.out.mono ?_;rintro e w6 ⟨rfl,hps,hts⟩;have IK:=hid hps;have jS:Hid (BL w3 w6):=hid (A7.out.trans (hts.below A7.out.size (fun y hy=>(My.out y hy).1)));have Xq:Hid (w4.heap.size<=w6.heap.size):=hid (Nat.le_trans HZ5.out (Nat.le_trans aZ hts.size));clear hps hts HS A7;have HS:=hid (rJ.out 0 0 0 s2L w6 IK.out qg);rw[st2b] at HS;simp only at HS;go_wp2_with fail;refine HS.out.mono ?_;rintro e w7 ⟨rfl,hps,hts⟩;have K7:=hid hps;have lM:Hid (BL w3 w7):=hid (jS.out.trans (hts.below jS.out.size (fun y hy=>(My.out y hy).1)));have HZ7:Hid (w4.heap.size<=w7.heap.size):=hid (Nat.le_trans Xq.out hts.size);clear hps hts HS;have HS:=hid (HDn.out s2L w7 K7.out);rw[dn2] at HS;go_wp2_with fail;refine HS.out.mono ?_;rintro e w8 ⟨rfl,hbr⟩;have GJ:=hid (K7.out.next hbr);have oT:=aJ lM hbr;have U3:Hid (w4.heap.size<=w8.heap.size):=hid (Nat.le_trans HZ7.out hbr.size);clear hbr HS;have hba:BL w8 (w8.alloc (.cells #[.int .i64 1,.int .i64 2] 3)):=ay.alloc aH _;have A7:=aJ oT hba;have HS:=hid (HSs.out 0 [1,2] qg (.slice (some ⟨w8.heap.size,0,none⟩) 2 2) s2L _ (GJ.out.next hba) qg (Ob [1,2] qg rfl (fun hy=>by have h1:=My.out _ hy;have h2:=U3.out;omega)));rw[st3] at HS;simp only at HS;clear hba;go_wp2_with fail;refine HS.out.mono ?_;rintro e w9 ⟨rfl,hps,hts⟩;have RF:=hid hps;have Bv:Hid (BL w3 w9):=hid (A7.out.trans (hts.below A7.out.size (fun y hy=>(My.out y hy).1)));have HZ9:Hid (w4.heap.size<=w9.heap.size):=hid (Nat.le_trans U3.out (Nat.le_trans aZ hts.size));clear hps hts HS A7;have HS:=hid (HDn.out s3L w9 RF.out);rw[dn3] at HS;go_wp2_with fail;refine HS.out.mono ?_;rintro e oh ⟨rfl,hbr⟩;have WL:=hid (RF.out.next hbr);have BU:=aJ Bv hbr;have yD:Hid (w4.heap.size<=oh.heap.size):=hid (Nat.le_trans HZ9.out hbr.size);clear hbr HS;have hba:BL oh (oh.alloc (.cells #[.int .i64 1,.int .i64 2,.int .i64 3] 3)):=ay.alloc aH _;have A7:=aJ BU hba;have HS:=hid (HSs.out 1 [1,2,3] qg (.slice (some ⟨oh.heap.size,0,none⟩) 3 3) s3L _ (WL.out.next hba) qg (Ob [1,2,3] qg rfl (fun hy=>by have h1:=My.out _ hy;have h2:=yD.out;omega)));rw[st4] at HS;simp only at HS;clear hba;go_wp2_with fail;refine HS.out.mono ?_;rintro e Tw ⟨rfl,hps,hts⟩;have ahO:=hid hps;have adD:Hid (BL w3 Tw):=hid (A7.out.trans (hts.below A7.out.size (fun y hy=>(My.out y hy).1)));have HZ11:Hid (w4.heap.size<=Tw.heap.size):=hid (Nat.le_trans yD.out (Nat.le_trans aZ hts.size));clear hps hts HS A7;have HS:=hid (IJ.out Tw ahO.out);go_wp2_with fail;refine HS.out.mono ?_;rintro e wr ⟨t,rfl,DW,hbr⟩;have DW:cQ mJ wr t [[false]]:=DW;obtain⟨at',ct,rfl⟩:∃a c,t=.slice a 1 c:=by obtain⟨a,c,e, -⟩:=DW.form;exact⟨a,c,e⟩
 have qC:=aJ adD hbr;have ZH:=hid (ahO.out.next hbr);have Zk:=hid (fun(X:World) (hX:BL wr X)=>DW.keep (aB.below hX));have HZr:Hid (w4.heap.size<=wr.heap.size):=hid (Nat.le_trans HZ11.out hbr.size);clear hbr HS DW;obtain⟨wc,hwc⟩:=aV (wr.alloc (.cells #[.slice at' 1 ct,.int .i64 3,.slice none 0 0,.slice none 0 0] 98));have hbc:BL wr wc:=by rw[hwc];exact ay.alloc aH _
 have HBc:Hid (BL wr wc):=hid hbc;have HBc3:=aJ qC hbc;have HPc:=hid (ZH.out.next hbc);have HCc:Hid (∀X,BL wc X->X.heap[wr.heap.size]?=some (.cells #[.slice at' 1 ct,.int .i64 3,.slice none 0 0,.slice none 0 0] 98 (0,0))):=hid (fun X hX=>(hX.block _ (by rw[hwc];simp)).trans (by rw[hwc];exact aP _ _ rfl));have HWc:=hid hwc;have HS:=hid (AB.out s4L wc HPc.out);clear hwc hbc;go_upto_region 9 with fail;rw[<-HWc.out];go_wp2_with fail;refine HS.out.mono ?_;rintro e wd ⟨rfl,hbd⟩;have HBd:Hid (BL wc wd):=hid hbd;have HBd3:=aJ HBc3 hbd;have HPd:=hid (HPc.out.next hbd);have Xk:=hid (Dr.yM [[false]] qg (.slice at' 1 ct) _ wd (Zk.out wd (cO HBc.out hbd)));rw[show Sub.size [[false]]=0 from rfl] at Xk;obtain⟨⟨c0,c1,c2,c3⟩, -⟩:=aW (HCc.out wd hbd);clear hbd HS;go_wp2_with fail;refine Xk.out.mono ?_;rintro e wf ⟨rfl,hbf⟩;have hbf:=hbf.toB;have ahP:=aJ HBd3 hbf;have HPf:=hid (HPd.out.next hbf);clear hbf Xk c0 c1 c2 c3;have HS:=hid (rJ.out 0 0 0 s4L wf HPf.out qg);rw[st4b] at HS;simp only at HS;go_wp2_with fail;refine HS.out.mono ?_;rintro e wg ⟨rfl, -,hts⟩;have Kx:Hid (BL w3 wg):=hid (ahP.out.trans (hts.below ahP.out.size (fun y hy=>(My.out y hy).1)));clear hts HS;go_wp2;go_ret;exact⟨rfl,cO bZ.out Kx.out⟩
theorem Wk.Calm.rounds{n m:Nat}{c:Int}{f:Int->Int}{s:Wk.Pl}{i:Int}(h:Wk.Calm n m s)(hi:0<=i/\i<m)(hd:Wk.mI c s=false):∃s',iJ c f i s [0,1,2]=(s',true)/\Wk.Calm n m s'/\Wk.unk s'+1=Wk.unk s/\s'.runs<=s.runs+3/\s'.cW<=s.cW+3:=by
 obtain⟨h1,h2,h3,h4,h5⟩:=h.round (f:=f) hi hd;have o1:=h.ok.step (c:=c) (f:=f) i 0 0;have o2:=o1.1.step (c:=c) (f:=f) i 1 0;have o3:=o2.1.step (c:=c) (f:=f) i 2 0;unfold Wk.Inc at o1 o2 o3;refine⟨_,?_,h4,h5,by omega,by omega⟩;unfold iJ;rw[if_pos h1];unfold iJ;rw[if_pos h2];unfold iJ;rw[if_pos h3];rfl
theorem Gr{S:Nat->Prop}{B:Nat}{e:TypeId}{w:World}{v:Value}{p:List Vm.Ins}(h:bC 4 sG S B e w v p):kF (B<=·) w v p:=by
 obtain⟨jB,h1,h2,h3,h4⟩:=h;have g:bC 4 sG (fun _=>False) B e w v p:=⟨jB,h1,h2,h3,h4⟩;exact bC.sl cB g (fun _ _ hb=>hb.elim) (fun b hb=>(bC.lt g b hb).1)
theorem abZ{p:Prop}(h:p:=by
  have HSe:=hid (rJ.out (i0:Int) 0 0 sk we HPe.out RN)
  rw[Wk.Calm.Ws HCm.out aC HD.out] at HSe
  simp only at HSe
  clear hbe Xe
  go_wp2_with fail
  refine HSe.out.mono ?_
  rintro e wf ⟨rfl, -,hts⟩
  have HBf:Hid (BL w wf):=hid (WM.out.trans ((HTe.out.trans hts).below WM.out.size (fun y hy=>(RE.out y hy).2)))
  clear hts HSe
  go_wp2_with fail
  refine(HLi.out wf HBf.out).mono ?_
  rintro e wg ⟨rfl,hbg⟩
  have Kx:=aJ HBf hbg
  clear hbg
  go_wp2
  go_ret
  exact⟨rfl,Kx.out⟩):p:=h
theorem goon_any(L L2 L3 L4:List Int)(hL:Fit L)(hK:Fit L2)(hP:Fit L3)(hE:Fit L4)(code:Int)(hc1: -9223372036854775808<=code)(hc2:code<=9223372036854775807)(who:Int)(hw1: -9223372036854775808<=who)(hw2:who<=9223372036854775807)(v u q v4:Value)(tb:Nat)(w:World)
  (hv:cH mJ w v L)(hu:cH mJ w u L2)(hq:cH mJ w q L3)(hv4:cH mJ w v4 L4)(hlaid:LaidW w)(htab:TabC tb w):
  Calls Tryz.prog 3 #[v,u,q,.int .i64 code,v4,.int .i64 who] w fun e w'=>e=.returned (.bool true)/\BL w w':=by
 have HWh:=hid (And.intro hw1 hw2);clear hw1 hw2;have HM:=hid (JL L L2 L3 hL hK hP v u q w hv hu hq);have HSc:=hid (fun(X:World) (hX:BL w X)=>C4 L4 hE v4 _ X (hv4.keep (aB.below hX)));have ZF:=hid (And.intro hc1 hc2);have HLi:Hid (∀X,BL w X->CB 10 #[] X (.bool true)):=hid (fun X hX=>C9 tb X (hlaid.next hX) (htab.below hX htab.lt (by have:=hlaid.size;omega)));have xS:=hid hlaid;have YX:=hid htab;clear hc1 hc2 hv hu hq hv4 hlaid htab hL hK hP hE;go_enter Tryz.func3,Tryz.ntmps3;go_wp2_with fail;refine HM.out.mono ?_;rintro e w1 ⟨sv,uw,pv,x,W,p,rfl,hg,DW,jI,hwf,RI,hpv,hb1⟩;obtain⟨ak,ck,al,cl,ar,cr,rfl, -⟩:=DW.form;obtain⟨aw,cw,rfl, -, -, -⟩:=hwf.form;obtain⟨w2,hw2⟩:=aV (di w1 x.aI (.slice ak x.ai.length ck) (.slice al x.aN.length cl) (.slice ar x.aO.length cr));have hb2:BL w1 w2:=by rw[hw2];exact dZ ..
 have bK:Hid (BL w w2):=hid (cO hb1 hb2);have HX:Hid (∀X,BL w2 X->X.heap[w1.heap.size]?=some (.cells #[.int .i64 x.aI,.slice ak x.ai.length ck,.slice al x.aN.length cl,.slice ar x.aO.length cr] 27 (0,0))):=hid (fun X hX=>(hX.block _ (by rw[hw2];simp[di])).trans (by rw[hw2];exact fE ..));have hok:=ah.AX hg;have Dg:=hid (aR.jT (aR.kW hok).1);have hTo:=jI.tot;obtain⟨l,hl⟩:=aR.CH x W;have Vh:=Ft jI hl;have Mi:Hid (W.length<=1000/\∀r∈W,r.length<=1000000):=hid ⟨by have h1:=jI.len;have h2:=Dg.out.1;omega,fun r hr=>by have h1:=yQ r hr;omega⟩
 have HT:Hid (vD x W p l 400):=hid
  {chk:=fun s hs=>⟨jF hok (aR.qz jI) ((hl.mem s).1 hs).1,((hl.mem s).1 hs).2⟩
   b7:=CZ jI
   err:=fun W'=>Vm.CY RI.valid RI.named W' aC
   num:=by unfold yP;omega
   len:=by omega}
 have L0:Hid (sS tb x W (.agg #[.int .i64 x.aI,.slice ak x.ai.length ck,.slice al x.aN.length cl,.slice ar x.aO.length cr]) (.slice aw W.length cw) w2.heap.size w2):=hid
  {Cv:=fA.mono (DW.keep (aB.below hb2)) (fun b h _=>h)
   A5:=cZ.mono (cZ.keep hwf (aB.below hb2)) (fun b h _=>h)
   laid:=xS.out.next bK.out
   tab:=YX.out.below bK.out YX.out.lt (by have:=xS.out.size;omega)
   tbB:=XO YX.out.lt bK.out.size
   size:=Nat.le_trans xS.out.size bK.out.size
   le:=aH}
 have HOw:=hid (fun(X:World) (hX:BL w2 X)=>NU p (by have:=RI.len;omega) pv _ X (kF.keep hpv (aB.below (cO hb2 hX))));obtain⟨ap,cp,rfl, -, -, -⟩:=hpv.form;have hfit:=aR.qz jI;have AF:=HT.out.err W
 have WK:Hid (∀(X:World) (lo:Nat) (po:Value) (nn:Int),BL w2 X->w2.heap.size<=lo->lo<=X.heap.size->1<=nn/\nn<=251->kF (lo<=·) X po p->
   Calls Tryz.prog 7 #[.agg #[.int .i64 x.aI,.slice ak x.ai.length ck,.slice al x.aN.length cl,.slice ar x.aO.length cr],.slice aw W.length cw,po,.int .i64 400,.int .i64 nn,.int .i64 3] X fun e w'=>∃b jb gb gw hi,e=.returned (.tuple #[.pointer (some ⟨b,0,none⟩),.int .i64 0])/\
    PS tb x W p l 400 nn 3 w2.heap.size b jb gb gw lo hi ⟨List.replicate l.length Wk.zeroE,List.replicate 3 Wk.idle,0,0⟩ w'/\X.heap.size<=hi/\BL X w'):=hid (fun X lo po nn hX h1 h2 hn hp=>by
  obtain⟨a1,c1,rfl, -⟩:=hp.form;refine(Gq x W p l hl hok hfit Mi.out aC aC 400 HT.out.num AF nn hn.1 hn.2 3 aC aC ak al ar ck cl cr aw a1 cw c1 tb w2.heap.size lo X (L0.out.next hX) ⟨h1,h2⟩ (dO.mono aC cB hp (fun b _ hb=>.inr hb))).mono ?_;rintro e w' ⟨b,jb,gb,gw,aa,ca,hi,rfl,g1,g2,g3,g4,g5⟩;exact⟨b,jb,gb,gw,hi,rfl,⟨⟨_,_,_,_,_,_,_,_,_,_,_,_,g1,g2⟩,Wk.xJ _ _,g4⟩,g3,g5⟩)
 have Me:Hid (∀X,BL w2 X->CP 9 #[.agg #[.int .i64 x.aI,.slice ak x.ai.length ck,.slice al x.aN.length cl,.slice ar x.aO.length cr],.slice aw W.length cw,.int .i64 400] X fun e w'=>BL X w'/\∃aa ca,e=.returned (.tuple #[.slice aa l.length ca,.int .i64 0])):=hid (fun X hX=>
  (CJ x W l hl hok hfit Mi.out aC aC 400 _ _ tb _ X (L0.out.next hX)).mono (fun e w' h=>⟨h.1,by
   rcases h.2 with⟨h, -⟩|⟨-, -,⟨-,a,c,h, -⟩|⟨h, -⟩⟩
   ·omega
   ·exact⟨a,c,h⟩
   ·omega⟩))
 have aeF:=hid Vh;have HAc:=hid (fun(c:Int) (X:World) (h1: -9223372036854775808<=c) h2=>uP c 3 X h1 h2 aC aC);unfold di at hw2;have HW2:=hid hw2;clear hg DW jI hwf RI hpv hb1 hb2 hok hTo hl Vh hfit AF hw2 HM;go_upto_region 2 with fail;rw[<-HW2.out];obtain⟨c0,hc0,hc3⟩:∃n:Nat,around code 3=(n:Int)/\n<3:=⟨(around code 3).toNat,by have:=kP code 3 aC;omega,by have:=kP code 3 aC;omega⟩;have uG:=hid (HAc.out code w2 ZF.out.1 ZF.out.2);rw[hc0] at uG;clear hc0 ZF;go_wp2_with fail;refine uG.out.mono ?_;rintro e w' ⟨rfl,rfl⟩;clear uG;go_upto_region 3 with fail;obtain⟨nn,hnn⟩:=aV (1+(c0:Int):Int);rw[<-hnn];have Vl:Hid (1<=nn/\nn<=251):=hid aC;clear hnn hc3;obtain⟨K,hKw⟩:=aV W.length;obtain⟨np,hnp⟩:=aV p.length;rw[<-hKw] at WK Me ⊢;rw[<-hnp] at HOw ⊢;clear hKw hnp;have l8:=dL w2 ⟨w1.heap.size,0,none⟩ (.int .i64 x.aI) fun xh=>(aW (HX.out xh.1 (xh.2))).1.1;have kL:=dL w2 ⟨w1.heap.size,1,none⟩ (.slice ak x.ai.length ck) fun xh=>(aW (HX.out xh.1 (xh.2))).1.2.1;have l9:=dL w2 ⟨w1.heap.size,2,none⟩ (.slice al x.aN.length cl) fun xh=>(aW (HX.out xh.1 (xh.2))).1.2.2.1;have mR:=dL w2 ⟨w1.heap.size,3,none⟩ (.slice ar x.aO.length cr) fun xh=>(aW (HX.out xh.1 (xh.2))).1.2.2.2;refine sQ w2 10 (.quiet 0 (.quiet 1 (.quiet 2 (.quiet 4 (.one 3 (.one 5 (.quiet 6 (.quiet 7 (.quiet 8 (.quiet 9 .done)))))))))) lN (by kernel_rfl) fun Dw iK=>?_
 iterate 4 refine eB ?_
 refine aM rfl ?_;go_wp2_with fail;refine(HOw.out Dw (iK.out)).mono ?_;rintro e wop ⟨po,rfl,hpo,K8⟩;have JN:=aJ iK K8;have NX:Hid (kF (Dw.heap.size<=·) wop po p):=hid (Gr hpo);have Rh:=hid (WK.out wop Dw.heap.size po nn (JN.out) (iK.out.size) K8.size Vl.out NX.out);obtain⟨a1,n1,c1,rfl⟩:∃a n c,po=.slice a n c:=by obtain⟨a,c,e, -⟩:=NX.out.form;exact⟨_,_,_,e⟩
 clear hpo K8 NX;go_wp2_with fail;refine aD (BL w2) (fun _ h=>h) JN.out ?_;refine aM rfl ?_;go_wp2_with fail;refine Rh.out.mono ?_;rintro e w5 ⟨bp,Oc,rK,rL,J8,rfl,hps,hhi,VZ⟩;have qP:=aJ JN VZ;have MG:=hid hps;have HHp:Hid (w2.heap.size<=J8/\w2.heap.size<=Dw.heap.size):=hid ⟨Nat.le_trans JN.out.size hhi,iK.out.size⟩;clear hps hhi VZ Rh;go_wp2_with fail;refine aD (BL w2) (fun _ h=>h) qP.out ?_
 iterate 4 refine eB ?_
 refine aT ?_;try simp only[iW,iX]
 clear l8 kL l9 mR JN iK;obtain⟨⟨y0,y1,y2,y3⟩, -⟩:=aW (HX.out w5 qP.out);go_wp2_with fail;refine(Me.out w5 qP.out).mono ?_;rintro e w6 ⟨tX,aa,ca,rfl⟩;have jS:=aJ qP tX;have IK:=hid (MG.out.next tX);clear tX y0 y1 y2 y3 Me WK HOw;obtain⟨ml,hml⟩:=aV l.length;rw[<-hml] at IK ⊢;have HMl:=hid hml;have Zh:ml<=64:=by have:=aeF.out;omega
 clear hml;have WN:=aJ bK jS.out;go_wp2_with fail;refine(HSc.out w6 WN.out).mono ?_;rintro e w7 ⟨ue,yR,rfl,hev,hen,mr⟩;obtain⟨ae,ce,rfl,hse, -⟩:=hev.form;have K7:=hid (IK.out.next mr);have WM:=aJ WN mr;have HEv:=hid (fun(X:World) (hX:∀b,w6.heap.size<=b->b<w7.heap.size->X.heap[b]?=w7.heap[b]?) (j:Nat) (hj:j<yR.length)=>EvF.ats hev hX hj)
 have RE:Hid (∀y,bL bp rK rL y->y<w6.heap.size/\w.heap.size<=y):=hid (fun y hy=>⟨IK.out.N8.1 y hy,by
  have h1:=IK.out.le3.1
  have h2:=HHp.out
  have h3:=bK.out.size
  rcases hy with rfl|rfl|rfl<;>omega⟩)
 have rJ:=hid (fun(i k t:Int) (s':Wk.Pl) (X:World) (h':PS tb x W p l 400 nn 3 w2.heap.size bp Oc rK rL Dw.heap.size J8 s' X) hr'=>qd i k t X HT.out h' hr' aC);have HDn:=hid (fun(s':Wk.Pl) (X:World) (h':PS tb x W p l 400 nn 3 w2.heap.size bp Oc rK rL Dw.heap.size J8 s' X)=>yS X HT.out h');have HSs:=hid (fun(i:Int) (ks:List Int) (hk:ks.length<=10) (v:Value) (s':Wk.Pl) (X:World) (h':PS tb x W p l 400 nn 3 w2.heap.size bp Oc rK rL Dw.heap.size J8 s' X) hr' hv=>C8 i ks hk v X HT.out h' hr' aC hv);obtain⟨N,hN⟩:=aV yR.length;rw[<-hN] at hse hen ⊢;have HN:=hid hN;have HB67:Hid (w6.heap.size<=w7.heap.size):=hid mr.size;generalize fI x W p 400 l=f at*;clear hev mr hN HSc;go_wp2;go_loopw [22] (fun ii wr=>∃(j:Nat) (sj:Wk.Pl),j<=N/\ii=.int .i64 (j:Int)/\Hid (PS tb x W p l 400 nn 3 w2.heap.size bp Oc rK rL Dw.heap.size J8 sj wr)/\Hid (Turns (bL bp rK rL) w7 wr)/\Hid (sj.runs<=j/\sj.cW<=j)) (fun ii _=>N-(intOf ii).toNat);case atStart=>exact⟨0,_,Nat.zero_le _,rfl,K7,hid (Turns.refl _ _),hid aZ⟩
 case round=>
  obtain⟨j,sj,hj,rfl,RH,WJ,XD⟩:=hrel;by_cases hlt:j<N
  ·have hj0:(0:Int)<=(j:Int):=by omega
   have hj1:(j:Int)<(N:Int):=by omega
   have hjl:j<yR.length:=by rw[<-HN.out];exact hlt
   obtain⟨x0,x1,x2⟩:=HEv.out wr (fun b h1 h2=>WJ.out.block b (fun hs=>by have:=(RE.out b hs).1;omega) h2) j hjl;generalize yR[j]=ev at*;obtain⟨e0,e1,e2⟩:=ev;simp only at x0 x1 x2;clear hjl;go_wp2_with fail;refine(yO e0 e1 e2 wr).mono ?_;rintro e w8 ⟨rfl,oU⟩;have GJ:=hid (RH.out.next oU);have F6:Hid (Turns (bL bp rK rL) w7 w8):=hid (WJ.out.trans (Turns.aQ oU));have WO:=hid (rJ.out e0 e1 e2 sj w8 GJ.out RQ);have Q0:=hid (RH.out.ok.step (c:=nn) (f:=f) e0 e1 e2).2;generalize Wk.bM nn f sj e0 e1 e2=r at*;obtain⟨s2,z⟩:=r;simp only at WO Q0;clear oU x0 x1 x2;go_wp2_with fail;refine WO.out.mono ?_;rintro e w9 ⟨rfl,hps,hts⟩;have RF:=hid hps;have GF:=hid (F6.out.trans hts);have Bq:Hid (s2.runs<=(j+1:Nat)/\s2.cW<=(j+1:Nat)):=hid aeR;clear hps hts WO;go_wp2;go_roundw;case rel=>exact⟨j+1,s2,by omega,by go_num,RF,GF,Bq⟩
   simp[intOf];omega
  ·obtain rfl:N=j:=by omega
   have Xl:Hid (Wk.Cleared l.length 3 ((0:Nat):Int) sj):=hid RH.out.ok.cleared;have Ur:Hid (sj.runs<=60+3*((0:Nat):Int)/\sj.cW<=60+3*((0:Nat):Int)):=hid RQ;generalize wr=wa at*;go_wp2;go_loopw [23] (fun ii wr=>∃(k:Nat) (sk:Wk.Pl),k<=3/\ii=.int .i64 (k:Int)/\Hid (PS tb x W p l 400 nn 3 w2.heap.size bp Oc rK rL Dw.heap.size J8 sk wr)/\Hid (Turns (bL bp rK rL) w7 wr)/\Hid (Wk.Cleared l.length 3 (k:Int) sk)/\Hid (sk.runs<=60+3*(k:Int)/\sk.cW<=60+3*(k:Int))) (fun ii _=>3-(intOf ii).toNat);case atStart=>exact⟨0,sj,by omega,rfl,RH,WJ,Xl,Ur⟩
   case round=>
    obtain⟨k,sk,hk,rfl,Rp,Av,I9,HRk⟩:=hrel;by_cases hlt:k<3
    ·have hk0:(0:Int)<=(k:Int):=by omega
     have hk1:(k:Int)<3:=by omega
     have Ro:=hid (I9.out.next (c:=nn) (f:=f) hk0 hk1);have WO:=hid (rJ.out (k:Int) 5 5 sk wr Rp.out RN);have Q0:=hid (Rp.out.ok.step (c:=nn) (f:=f) (k:Int) 5 5).2;generalize Wk.bM nn f sk (k:Int) 5 5=r at*;obtain⟨s1,z1⟩:=r;simp only at WO Q0 Ro;go_wp2_with fail;refine WO.out.mono ?_;rintro e w8 ⟨rfl,hps,hts⟩;have GJ:=hid hps;have F6:=hid (Av.out.trans hts);have WY:Hid (s1.runs<=61+3*(k:Int)/\s1.cW<=61+3*(k:Int)):=hid (by have h1:=Q0.out;have h2:=HRk.out;unfold Wk.Inc at h1;omega);clear hps hts WO;have Od:=hid (rJ.out (k:Int) 4 0 s1 w8 GJ.out (by have:=WY.out;omega));have HI9:=hid (GJ.out.ok.step (c:=nn) (f:=f) (k:Int) 4 0).2;generalize Wk.bM nn f s1 (k:Int) 4 0=r at*;obtain⟨s2,z2⟩:=r;simp only at Od HI9 Ro;obtain⟨hz2,Eo,hcl⟩:=Ro.out;subst hz2;have HZ3:=hid Eo;have HCl:Hid (Wk.Cleared l.length 3 ((k+1:Nat):Int) s2):=hid (by have:=hcl;simpa using this);clear Eo hcl Ro;go_wp2_with fail;refine Od.out.mono ?_;rintro e w9 ⟨rfl,hps,hts⟩;have RF:=hid hps;have GF:=hid (F6.out.trans hts);have Bq:Hid (s2.runs<=60+3*((k+1:Nat):Int)/\s2.cW<=60+3*((k+1:Nat):Int)):=hid (by have h1:=HI9.out;have h2:=WY.out;unfold Wk.Inc at h1;omega);clear hps hts Od;have aac:=hid (rJ.out (k:Int) 5 0 s2 w9 RF.out (by have:=Bq.out;omega));rw[HZ3.out] at aac;simp only at aac;go_wp2_with fail;refine aac.out.mono ?_;rintro e oh ⟨rfl,hps,hts⟩;have WL:=hid hps;have Gb:=hid (GF.out.trans hts);clear hps hts aac;go_wp2;go_roundw;case rel=>exact⟨k+1,s2,by omega,by go_num,WL,Gb,HCl,Bq⟩
     simp[intOf];omega
    ·obtain rfl:k=3:=by omega
     have HCm:=hid I9.out.calm;obtain⟨i0,hi0,hi3⟩:∃n:Nat,around who 3=(n:Int)/\n<3:=⟨(around who 3).toNat,by have:=kP who 3 aC;omega,by have:=kP who 3 aC;omega⟩;have HA:=hid (HAc.out who wr HWh.out.1 HWh.out.2);rw[hi0] at HA;have HU0:Hid (Wk.unk sk+0<=ml):=hid (by have h1:=Wk.aer HCm.out.ok;have h2:=HMl.out;omega);have Ns:Hid (sk.runs<=70+3*((0:Nat):Int)/\sk.cW<=70+3*((0:Nat):Int)):=hid RN;clear hi0;go_wp2_with fail;refine HA.out.mono ?_;rintro e w' ⟨rfl,rfl⟩;clear HA;generalize wr=wb at*;go_wp2;go_loopw [25] (fun ii wr=>∃(k:Nat) (sk:Wk.Pl),k<=ml/\ii=.int .i64 (k:Int)/\Hid (PS tb x W p l 400 nn 3 w2.heap.size bp Oc rK rL Dw.heap.size J8 sk wr)/\Hid (Turns (bL bp rK rL) w7 wr)/\Hid (Wk.Calm l.length 3 sk)/\Hid (Wk.unk sk+k<=ml)/\Hid (sk.runs<=70+3*(k:Int)/\sk.cW<=70+3*(k:Int))) (fun ii _=>ml-(intOf ii).toNat);case atStart=>exact⟨0,sk,Nat.zero_le _,rfl,Rp,Av,HCm,HU0,Ns⟩
     case round=>
      clear Rp Av I9 HRk HCm HU0 Ns;obtain⟨k,sk,hk,rfl,Rp,Av,HCm,YU,HRk⟩:=hrel;by_cases hlt:k<ml
      ·have hk0:(0:Int)<=(k:Int):=by omega
       have hk1:(k:Int)<(ml:Int):=by omega
       have HD0:=hid (HDn.out sk wr Rp.out);obtain⟨d,hd⟩:=aV (Wk.mI nn sk);rw[<-hd] at HD0;have HD:=hid hd.symm;clear hd;go_wp2_with fail;refine HD0.out.mono ?_;rintro e w8 ⟨rfl,oU⟩;have GJ:=hid (Rp.out.next oU);have F6:Hid (Turns (bL bp rK rL) w7 w8):=hid (Av.out.trans (Turns.aQ oU));clear oU HD0;cases d
       ·obtain⟨s2,e2,hc2,lF,AJ⟩:=HCm.out.rounds (c:=nn) (f:=f) (i:=(i0:Int)) aC HD.out
        have NG:=hid hc2;have JV:Hid (Wk.unk s2+(k+1)<=ml):=hid (by have:=YU.out;omega);have Dm:Hid (s2.runs<=70+3*((k+1:Nat):Int)/\s2.cW<=70+3*((k+1:Nat):Int)):=hid RN;have Bm:BL w8 (w8.alloc (.cells #[.int .i64 0,.int .i64 1,.int .i64 2] 3)):=ay.alloc aH _;have GF:Hid (Turns (bL bp rK rL) w7 (w8.alloc (.cells #[.int .i64 0,.int .i64 1,.int .i64 2] 3))):=hid (F6.out.trans (Turns.aQ Bm))
        have Od:=hid (HSs.out (i0:Int) [0,1,2] aZ (.slice (some ⟨w8.heap.size,0,none⟩) 3 3) sk _ (GJ.out.next Bm) RN (xW (vs:=[.int .i64 0,.int .i64 1,.int .i64 2]) (aP _ _ rfl) rfl rfl aZ (fun hy=>by
         have h1:=(RE.out _ hy).1;have h2:=F6.out.size;have h3:=HB67.out;omega) (fun j h1 h2=>by
         match j,h1 with
         |0,_=>rfl
         |1,_=>rfl
         |2,_=>rfl)))
        rw[e2] at Od;simp only at Od;clear hc2 lF AJ e2 Bm;go_wp2_with fail;refine Od.out.mono ?_;rintro e oh ⟨rfl,hps,hts⟩;have WL:=hid hps;have Gb:=hid (GF.out.trans hts);clear hps hts Od;go_wp2;go_roundw;case rel=>exact⟨k+1,s2,by omega,by go_num,WL,Gb,NG,JV,Dm⟩
        simp[intOf];omega
       ·have Xe:=hid (HDn.out sk w8 GJ.out)
        rw[HD.out] at Xe;go_wp2_with fail;refine Xe.out.mono ?_;rintro e we ⟨rfl,hbe⟩;have HPe:=hid (GJ.out.next hbe);have HTe:Hid (Turns (bL bp rK rL) w7 we):=hid (F6.out.trans (Turns.aQ hbe));exact abZ
      ·obtain rfl:ml=k:=by omega
       have HD:Hid (Wk.mI nn sk=true):=hid (Wk.Wr (by have:=YU.out;omega));have Xe:=hid (HDn.out sk wr Rp.out);rw[HD.out] at Xe;go_wp2_with fail;refine Xe.out.mono ?_;rintro e we ⟨rfl,hbe⟩;have HPe:=hid (Rp.out.next hbe);have HTe:Hid (Turns (bL bp rK rL) w7 we):=hid (Av.out.trans (Turns.aQ hbe));exact abZ
end Go.Proofs.YteiakkfdchnddaaGreatDoor
