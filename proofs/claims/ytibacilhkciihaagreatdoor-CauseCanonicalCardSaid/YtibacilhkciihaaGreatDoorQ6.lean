/- Part 6 of the walks and plain laws that the proof needs (packed). -/
import Derived.Deep.DeepCutAuto
import Derived.Deep.LoopGhost
import Derived.Test.YtibacilhkciihaaGreatDoorQ1
import Derived.Test.YtibacilhkciihaaGreatDoorQ3
import Derived.Test.YtibacilhkciihaaGreatDoorQ4
import Derived.Test.YtibacilhkciihaaGreatDoorQ5
set_option linter.all false
set_option maxRecDepth 100000
set_option maxHeartbeats 8000000
namespace Go.Proofs.YtibacilhkciihaaGreatDoor
open Go.RowKit
def acH(r:ah.tQ):Array Value:=#[.string r.name,.string r.kind,.string r.a,.string r.b,.int .i64 r.n]
def acI(b N:Nat)(k:ah.dZ)(w:World)(e:Ending)(w':World):Prop:=
 (∃r bd,e=.returned (.tuple #[.agg (acH r),.bool bd])/\(bd=true->ah.xZ k r))/\gq w' b (N+5)/\Turns (·=b) w w'
theorem qi{w:World}{g:Nat}{x0 x1 x2 x3 x4 bd:Value}{tmps:Array Value}(h:w.heap[g]?=some (.cells #[x0,x1,x2,x3,x4] 61 (0,0)))(hp:tmps[4]?=some (.pointer (some ⟨g,0,none⟩)))(hq:tmps[5]?=some bd):
  (results Tryz.f15 tmps).run Tryz.prog w=.ok (.tuple #[.agg #[x0,x1,x2,x3,x4],bd]) w:=by
 obtain⟨⟨h0,h1,h2,h3,h4⟩, -⟩:=mE h;simp[results,Tryz.results15,go_sem,hp,hq,h0,h1,h2,h3,h4]
theorem PV(b N:Nat)(hN:N<=80000)(w:World)(hm:gq w b N)(k:ah.dZ)(uf:Value)(hf:dh (fun x=>b<x) w uf k.aG)(hs:∀f∈k.aG,ah.fD f)(hn:1<=k.name.size):
  Calls Tryz.prog 15 #[.pointer (some ⟨b,0,none⟩),.agg (kH k uf).toArray] w (acI b N k w):=by
 obtain⟨au,cu,rfl,hsk, -, -⟩:=hf.form;obtain⟨nm,lo,hi,fs⟩:=k;simp only at hf hs hn hsk;have HM:=hid hm;have HS:=hid hs;have NW:b<w.heap.size:=hm.lt;obtain⟨W1,hW1⟩:=bB ((w.alloc (.cells #[.string nm,.int .i64 lo,.int .i64 hi,.slice au fs.length cu] 49)).alloc (.cells #[.string {data:=#[]},.string {data:=#[]},.string {data:=#[]},.string {data:=#[]},.int .i64 0] 61));have bT:Hid (Below w.heap.size w W1):=hid (by rw[hW1];exact(aF.alloc aH _).alloc bp _);have HK:Hid (W1.heap[w.heap.size]?=some (.cells #[.string nm,.int .i64 lo,.int .i64 hi,.slice au fs.length cu] 49 (0,0))):=hid (by rw[hW1];exact bG _ (aW w _ rfl));have HR:Hid (W1.heap[w.heap.size+1]?=some (.cells #[.string ah.nil,.string ah.nil,.string ah.nil,.string ah.nil,.int .i64 0] 61 (0,0))):=hid (by rw[hW1];exact aW _ _ bp);have HF:Hid (dh (fun x=>b<x) W1 (.slice au fs.length cu) fs):=hid (hf.keep (aD.below bT.out));have DW:Hid (gq W1 b N):=hid (hm.keep (aD.below bT.out));obtain⟨⟨k0, -, -,k3⟩, -⟩:=bC HK.out;obtain⟨i1,hi1⟩:=bB (ah.AQ fs ah.kG);obtain⟨i2,hi2⟩:=bB (ah.AQ fs ah.gT);have H1:=hid (xB fs ah.kG (.slice au fs.length cu) (fun x=>b<x) W1 HF.out);have H2:=hid (xB fs ah.gT (.slice au fs.length cu) (fun x=>b<x) W1 HF.out);rw[<-hi1] at H1;rw[<-hi2] at H2;have HI1:=hid hi1;have HI2:=hid hi2;have hkb:w.heap.size≠b:=aB
 have hrb:w.heap.size+1≠b:=aB
 simp only[kH];clear hm hf hs hi1 hi2;go_enter Tryz.func15,Tryz.ntmps15;go_upto_region 1 with fail;rw[<-hW1];have HW:=hid hW1;clear hW1;go_wp2_with fail;refine H1.out.mono ?_;rintro e w' ⟨rfl,rfl⟩;go_wp2_with fail;refine H2.out.mono ?_;rintro e w' ⟨rfl,rfl⟩;go_upto_region 3 with fail;go_cut [21] from 15 to 21 (fun q wx=>∃bd:Bool,q=.bool bd/\Hid (bd=true->0<=i1)/\Hid (RG b W1 [] wx)/\Hid (gq wx b (N+1)))
 case first=>
  by_cases h10:0<=i1
  ·have HX:=hid h10
   go_wp2_with fail;refine(bE 3 aB aB b N aB _ DW.out).mono ?_;rintro e W2 ⟨t,rfl,ED,EF,hm2,ht2, -⟩;have HG:=hid ((RG.refl b W1).take (by have:=bT.out.size;omega) ht2);have tF:=hid hm2;clear hm2 ht2;go_wp2;go_meet;case rel=>exact⟨_,rfl,hid (fun _=>HX.out),HG,tF⟩
  ·go_wp2
   go_meet;case rel=>exact⟨false,rfl,hid (fun h=>by cases h),hid (RG.refl b W1),hid (DW.out.mono aB)⟩
 case rest=>
  obtain⟨bd,rfl,ZG,HG,tF⟩:=hcut;have ny:Hid (b<wc.heap.size):=hid tF.out.lt;have c0:wc.cell? ⟨w.heap.size,0,none⟩=some (.string nm):=(bC (HG.out.block hkb HK.out)).1.1;have c3:wc.cell? ⟨w.heap.size,3,none⟩=some (.slice au fs.length cu):=(bC (HG.out.block hkb HK.out)).1.2.2.2;have hnm:(1:Int)<=nm.size:=aB
  clear k0 k3;cases bd with
  |true=>
   have HX:=hid (ZG.out rfl)
   go_upto_region 4 with fail
   have dG:=hid (RG.start b wc)
   have eM:=hid (tF.out.keep (aD.below (aI aF 1)))
   obtain⟨V0,sD⟩:=bB (wc.drewN 1)
   refine aZ 9 (.quiet 0 (.quiet 1 (.quiet 2 (.quiet 3 (.quiet 4 (.quiet 5 (.quiet 6 (.one 7 (.quiet 8 .done))))))))) (RG b wc []) oL (by kernel_rfl) dG.out ?_
   rw[<-sD] at dG eM ⊢
   clear sD
   refine fE ?_
   refine aV rfl ?_
   intro hne
   have hq:∀xh:Held (RG b wc []),xh.1.cell? ⟨w.heap.size,0,none⟩=some (.string nm):=fun xh=>RG.old xh hkb c0
   go_big_quiet_step (fail)
   refine iL ?_
   clear hne hq
   iterate 3 refine fE ?_
   refine aV rfl ?_
   intro hne
   have hq:∀xh:Held (RG b wc []),xh.1.cell? ⟨w.heap.size,0,none⟩=some (.string nm):=fun xh=>RG.old xh hkb c0
   go_big_quiet_step (fail)
   refine iL ?_
   clear hne hq
   refine fE ?_
   refine aT rfl ?_
   go_wp2_with fail
   refine(bE 8 aB aB b (N+1) aB _ eM.out).mono ?_
   rintro e V1 ⟨t',rfl,iz,kL,hm',ht', -⟩
   have ZJ:=hid (dG.out.take ny.out ht')
   have HMV1:=hid hm'
   clear hm' ht' dG eM
   go_wp2
   refine aJ (RG b wc []) (fun _ h=>h) ZJ.out ?_
   refine aV rfl ?_
   intro hne
   have hq:IntKind.i64.wrap (t'-2)=t'-2:=IntWalk.i64_in _ aB
   go_big_quiet_step (fail)
   refine iL ?_
   clear hne hq
   refine bh ?_
   try simp only[jZ,jP]
   have hR:=ZJ.out.block hrb (HG.out.block hrb HR.out)
   have PW:=TR hR (.string (ah.J9++nm.extract 0 1)) (.string nm) (.string ah.kG) (.string ah.j9) (.int .i64 (t'-2))
   obtain⟨⟨z0,z1,z2,z3,z4⟩,zf⟩:=mE hR
   have wQ:=hid PW
   clear hR PW
   go_wp2
   refine bodyPost_ret (qi wQ.out.1 rfl rfl) rfl ⟨⟨⟨ah.J9++nm.extract 0 1,nm,ah.kG,ah.j9,t'-2⟩,true,rfl,fun _=>.inl ⟨t'-2,aB,aB,by have:=HX.out;rw[HI1.out] at this;exact this,rfl⟩⟩,?_,?_⟩
   ·exact(HMV1.out.mono aB).keep (aD.fF wQ.out.2 (fun x hx e=>by omega))
   ·exact(((Turns.aS bT.out).trans HG.out.turn).trans ZJ.out.turn).into wQ.out.2 (fun x hx e=>by omega)
  |false=>
   rcases ah.iy (fun f:ah.cD=>decide (f.name=ah.gT)) fs with⟨hc1, -⟩|⟨ci,hci,hc1, -, -⟩
   ·have oo:i2= -1:=HI2.out.trans hc1
    subst oo;clear hc1;have hR:=HG.out.block hrb HR.out;have PW:=TR hR (.string ah.nil) (.string ah.nil) (.string ah.nil) (.string ah.nil) (.int .i64 0);obtain⟨⟨z0,z1,z2,z3,z4⟩,zf⟩:=mE hR;have wQ:=hid PW;clear hR PW;go_wp2;refine bodyPost_ret (qi wQ.out.1 rfl rfl) rfl ⟨⟨⟨ah.nil,ah.nil,ah.nil,ah.nil,0⟩,false,rfl,fun h=>by cases h⟩,?_,?_⟩
    ·exact(tF.out.mono aB).keep (aD.fF wQ.out.2 (fun x hx e=>by omega))
    ·exact((Turns.aS bT.out).trans HG.out.turn).into wQ.out.2 (fun x hx e=>by omega)
   ·have oo:i2=(ci:Int):=HI2.out.trans hc1
    have HX:Hid (0<=i2):=hid aB;subst oo;clear hc1;have PD:¬(ci:Int)<0:=aB
    have hci1:(ci:Int)<fs.length:=aB
    have hci2:(0:Int)<=ci:=aB
    have hF:=HF.out.keep (aD.fF HG.out.turn (fun x hx e=>by have:b<x:=hx;omega));obtain⟨-,hbu,f0,f1,f2,f3,f4,f5,uw,ug,f6,f7,hfw,hfg⟩:=hF.at hci;obtain⟨aw,cw,rfl, -, -, -⟩:=hfw.form;obtain⟨ag,cg,rfl, -, -, -⟩:=hfg.form;obtain⟨ff,Am⟩:=bB (fs[ci]);have rQ:ah.fD ff:=by rw[Am];exact HS.out _ (gm _)
    obtain⟨s1,s2,s3,s4⟩:=rQ;rw[<-Am] at f0 f1 f2 f3 f4 f5 f6 f7;clear hF Am hfw hfg hbu;go_upto_region 8 with fail;obtain⟨W3,hW3⟩:=bB (wc.alloc (.cells #[.string ff.name,.string ff.of,.string ff.up,.int .i64 ff.kind,.int .i64 ff.lo,.int .i64 ff.hi,.slice aw ff.cB.length cw,.slice ag ff.bO.length cg] 46));have HT0:Hid (Turns (·=b) wc W3):=hid (by rw[hW3];exact(Turns.refl _ _).alloc _);have EU:Hid (W3.heap[wc.heap.size]?=some (.cells #[.string ff.name,.string ff.of,.string ff.up,.int .i64 ff.kind,.int .i64 ff.lo,.int .i64 ff.hi,.slice aw ff.cB.length cw,.slice ag ff.bO.length cg] 46 (0,0))):=hid (by rw[hW3];exact aW wc _ rfl);have TY:Hid (gq W3 b (N+1)):=hid (tF.out.keep (aD.fF (S:=fun x=>x<=b) (T:=fun x=>wc.heap.size<=x) (by rw[hW3];exact Turns.aS (aF.alloc aH _)) (fun x hx e=>by have:=ny.out;omega)));rw[<-hW3];clear hW3 f0 f1 f2 f3 f4 f5 f6 f7;go_wp2_with fail;refine(bE 2 aB aB b (N+1) aB _ TY.out).mono ?_;rintro e W4 ⟨t,rfl,ED,EF,WE,rB, -⟩;have Gz:Hid (Turns (·=b) wc W4):=hid (HT0.out.trans rB);have NX:wc.heap.size≠b:=by have:=ny.out;omega
    have SQ:=(rB.block wc.heap.size NX (aC EU.out)).trans EU.out;obtain⟨⟨-, -, -, -,g4,g5, -, -⟩, -⟩:=dK SQ;have HR3:=hid ((Gz.out.block (w.heap.size+1) hrb (aC (HG.out.block hrb HR.out))).trans (HG.out.block hrb HR.out));have c0:W4.cell? ⟨w.heap.size,0,none⟩=some (.string nm):=(bC ((Gz.out.block w.heap.size hkb (aC (HG.out.block hkb HK.out))).trans (HG.out.block hkb HK.out))).1.1;have WG:=hid WE;have ny:Hid (b<W4.heap.size):=hid WG.out.lt;clear WE rB SQ HT0 EU TY;by_cases ht0:t=0
    ·subst ht0
     go_upto_region 9 with fail;have dG:=hid (RG.start b W4);have eM:=hid (WG.out.keep (aD.below (aI aF 1)));obtain⟨V0,sD⟩:=bB (W4.drewN 1);refine aZ 11 (.quiet 0 (.quiet 1 (.quiet 2 (.quiet 3 (.quiet 4 (.quiet 5 (.quiet 6 (.quiet 7 (.quiet 8 (.one 9 (.quiet 10 .done))))))))))) (RG b W4 []) oL (by kernel_rfl) dG.out ?_;rw[<-sD] at dG eM ⊢;clear sD;refine fE ?_;refine aV rfl ?_;intro hne;have hq:∀xh:Held (RG b W4 []),xh.1.cell? ⟨w.heap.size,0,none⟩=some (.string nm):=fun xh=>RG.old xh hkb c0;go_big_quiet_step (fail);refine iL ?_;clear hne hq
     iterate 3 refine fE ?_
     refine aV rfl ?_;intro hne;have hq:∀xh:Held (RG b W4 []),xh.1.cell? ⟨w.heap.size,0,none⟩=some (.string nm):=fun xh=>RG.old xh hkb c0;go_big_quiet_step (fail);refine iL ?_;clear hne hq;refine fE ?_;refine aV rfl ?_;intro hne;have hq:∀xh:Held (RG b W4 []),xh.1.cell? ⟨wc.heap.size,4,none⟩=some (.int .i64 ff.lo):=fun xh=>RG.old xh NX g4;go_big_quiet_step (fail);refine iL ?_;clear hne hq;refine fE ?_;refine aT rfl ?_;go_wp2_with fail;refine(bE 12 aB aB b (N+2) aB _ eM.out).mono ?_;rintro e V2 ⟨t',rfl,iz,kL,hm',ht', -⟩;have ZK:=hid (dG.out.take ny.out ht');have HMV2:=hid hm';clear hm' ht' dG eM;go_wp2;refine aJ (RG b W4 []) (fun _ h=>h) ZK.out ?_;refine aV rfl ?_;intro hne;have hq:IntKind.i64.wrap (ff.lo+t')=ff.lo+t':=IntWalk.i64_in _ aB;go_big_quiet_step (fail);refine iL ?_;clear hne hq;refine bh ?_;try simp only[jZ,jP]
     have hR:=ZK.out.block hrb (HR3.out);have PW:=TR hR (.string (ah.Ka++nm.extract 0 1)) (.string nm) (.string ah.gT) (.string ah.nil) (.int .i64 (ff.lo+t'));obtain⟨⟨z0,z1,z2,z3,z4⟩,zf⟩:=mE hR;have wQ:=hid PW;clear hR PW;go_wp2;refine bodyPost_ret (qi wQ.out.1 rfl rfl) rfl ⟨⟨⟨ah.Ka++nm.extract 0 1,nm,ah.gT,ah.nil,ff.lo+t'⟩,true,rfl,fun _=>.inr ⟨ff.lo+t',aB,aB,by have:=HX.out;rw[HI2.out] at this;exact this,.inl rfl⟩⟩,?_,?_⟩
     ·exact(HMV2.out.mono aB).keep (aD.fF wQ.out.2 (fun x hx e=>by omega))
     ·exact(((Turns.aS bT.out).trans HG.out.turn).trans ((Gz.out).trans ZK.out.turn)).into wQ.out.2 (fun x hx e=>by omega)
    ·have hb0:(t==0)=false:=nU ht0
     clear ht0;go_upto_region 10 with fail;have dG:=hid (RG.start b W4);have eM:=hid (WG.out.keep (aD.below (aI aF 1)));obtain⟨V0,sD⟩:=bB (W4.drewN 1);refine aZ 11 (.quiet 0 (.quiet 1 (.quiet 2 (.quiet 3 (.quiet 4 (.quiet 5 (.quiet 6 (.quiet 8 (.quiet 9 (.one 7 (.quiet 10 .done))))))))))) (RG b W4 []) oL (by kernel_rfl) dG.out ?_;rw[<-sD] at dG eM ⊢;clear sD;refine fE ?_;refine aV rfl ?_;intro hne;have hq:∀xh:Held (RG b W4 []),xh.1.cell? ⟨w.heap.size,0,none⟩=some (.string nm):=fun xh=>RG.old xh hkb c0;go_big_quiet_step (fail);refine iL ?_;clear hne hq
     iterate 3 refine fE ?_
     refine aV rfl ?_;intro hne;have hq:∀xh:Held (RG b W4 []),xh.1.cell? ⟨w.heap.size,0,none⟩=some (.string nm):=fun xh=>RG.old xh hkb c0;go_big_quiet_step (fail);refine iL ?_;clear hne hq
     iterate 2 refine fE ?_
     refine aV rfl ?_;intro hne;have hq:∀xh:Held (RG b W4 []),xh.1.cell? ⟨wc.heap.size,5,none⟩=some (.int .i64 ff.hi):=fun xh=>RG.old xh NX g5;go_big_quiet_step (fail);refine iL ?_;clear hne hq;refine aT rfl ?_;go_wp2_with fail;refine(bE 12 aB aB b (N+2) aB _ eM.out).mono ?_;rintro e V3 ⟨t',rfl,iz,kL,hm',ht', -⟩;have ZL:=hid (dG.out.take ny.out ht');have HMV3:=hid hm';clear hm' ht' dG eM;go_wp2;refine aJ (RG b W4 []) (fun _ h=>h) ZL.out ?_;refine aV rfl ?_;intro hne;have hq:IntKind.i64.wrap (t'-ff.hi)=t'-ff.hi:=IntWalk.i64_in _ aB;go_big_quiet_step (fail);refine iL ?_;clear hne hq;refine bh ?_;try simp only[jZ,jP]
     have hR:=ZL.out.block hrb (HR3.out);have PW:=TR hR (.string (ah.CZ++nm.extract 0 1)) (.string nm) (.string ah.nil) (.string ah.gT) (.int .i64 (t'-ff.hi));obtain⟨⟨z0,z1,z2,z3,z4⟩,zf⟩:=mE hR;have wQ:=hid PW;clear hR PW;go_wp2;refine bodyPost_ret (qi wQ.out.1 rfl rfl) rfl ⟨⟨⟨ah.CZ++nm.extract 0 1,nm,ah.nil,ah.gT,t'-ff.hi⟩,true,rfl,fun _=>.inr ⟨t'-ff.hi,aB,aB,by have:=HX.out;rw[HI2.out] at this;exact this,.inr rfl⟩⟩,?_,?_⟩
     ·exact(HMV3.out.mono aB).keep (aD.fF wQ.out.2 (fun x hx e=>by omega))
     ·exact(((Turns.aS bT.out).trans HG.out.turn).trans ((Gz.out).trans ZL.out.turn)).into wQ.out.2 (fun x hx e=>by omega)
theorem Tryz.ZM:jh Tryz.prog 23 49 4 56:=ji (z:=.agg #[.string ⟨#[]⟩,.int .i64 0,.int .i64 0,.slice none 0 0]) (by kernel_rfl) (by kernel_rfl) rfl aB aB
theorem Tryz.ZN:jh Tryz.prog 24 58 3 64:=ji (z:=.agg #[.string ⟨#[]⟩,.slice none 0 0,.slice none 0 0]) (by kernel_rfl) (by kernel_rfl) rfl aB aB
theorem Tryz.ZO:jh Tryz.prog 25 61 5 72:=ji (z:=.agg #[.string ⟨#[]⟩,.string ⟨#[]⟩,.string ⟨#[]⟩,.string ⟨#[]⟩,.int .i64 0]) (by kernel_rfl) (by kernel_rfl) rfl aB aB
theorem Tryz.G8:jh Tryz.prog 56 59 2 16:=ji (z:=.agg #[.int .i64 0,.int .i64 0]) (by kernel_rfl) (by kernel_rfl) rfl aB aB
theorem eU.take{α:Type}{R:World->Value->α->Prop}{S:Nat->Prop}{w:World}{a:Option Addr}{n c:Nat}{xs:List α}(h:eU R S w (.slice a n c) xs){m:Nat}(hm:m<=xs.length):eU R S w (.slice a m c) (xs.take m):=by
 obtain⟨a',c',he,h1,h2,h3,h4,h5⟩:=h;cases he;have hl:(xs.take m).length=m:=by rw[LB];omega
 refine⟨a,c,by rw[hl],fun h0=>h1 aB,aB,h3,fun h0=>h4 aB,fun j hj=>?_⟩;obtain⟨u,hu,hr⟩:=h5 j aB;exact⟨u,hu,by rw[List.getElem_take];exact hr⟩
structure SS(b N X:Nat)(ver:Int)(w0:World)(vK:Value)(ks:List ah.dZ)(W:World):Prop where
 mO:gq W b N
 own:cU 4 AU (fun x=>b<x/\x≠X) (X+1) 49 W vK ks
 res:W.heap[w0.heap.size]?=some (.cells #[.int .i64 0,.slice none 0 0,.slice none 0 0,.slice none 0 0] 27 (0,0))
 below:BL w0 W
 rb:w0.heap.size<b
 bx:b<X
theorem SS.grow{b N N' X:Nat}{ver:Int}{w0 W W':World}{vK:Value}{ks:List ah.dZ}(h:SS b N X ver w0 vK ks W)(ht:Turns (·=b) W W')(hm:gq W' b N'):SS b N' X ver w0 vK ks W':=by
 have h1:=h.rb;have h2:=h.bx;have h3:=h.below.size;refine⟨hm,h.own.keep cC (aD.fF ht (fun x hx e=>?_)),?_,h.below.trans (ht.below h3 (fun x hx=>by omega)),h1,h2⟩
 ·rcases hx with hx|hx
  ·have:=hx.1;omega
  ·have:=(h.own.lt x hx).1;omega
 ·rw[ht.block _ Lw (aC h.res)];exact h.res
theorem Uk{S:Nat->Prop}{w:World}{k:ah.dZ}{uf:Value}(h:dh S w uf k.aG):∀u∈kH k uf,u.oneCell'=true:=by
 obtain⟨a,c,rfl, -⟩:=h.form;intro u hu;simp only[kH,kD,GI,or_false] at hu;rcases hu with rfl|rfl|rfl|rfl<;>rfl
structure LO(b N X Lf St q:Nat)(xc:Array Value)(Wo:World)(mv:List (Int×Int))(am:Option Addr)(cm:Nat)(W:World):Prop where
 mO:gq W b N
 turn:Turns (fun x=>x=b\/x=X) Wo W
 qB:W.heap[X]?=some (.cells xc 27 (0,0))
 sts:W.heap[St]?=some (.cells (ah.om.map Value.string).toArray 9 (0,0))
 box:W.heap[Lf]?=some (.cells #[.string ah.oN,.slice (some ⟨St,0,none⟩) q 4,.slice am mv.length cm] 58 (0,0))
 own:cU 2 TU (fun _=>False) (Lf+1) 59 W (.slice am mv.length cm) mv
 rng:∀m∈mv,0<=m.1/\m.1<q/\0<=m.2/\m.2<q
 bl:b<X
 xl:X<Wo.heap.size
 sl:Wo.heap.size<=St
 ll:St<Lf
theorem LO.grow{b N N' X Lf St q:Nat}{xc:Array Value}{Wo W W':World}{mv:List (Int×Int)}{am:Option Addr}{cm:Nat}(h:LO b N X Lf St q xc Wo mv am cm W)(ht:Turns (·=b) W W')(hm:gq W' b N'):LO b N' X Lf St q xc Wo mv am cm W':=by
 have h1:=h.bl;have h2:=h.xl;have h3:=h.sl;have h4:=h.ll;refine⟨hm,h.turn.trans (ht.mono fun x _ e=>.inl e),?_,?_,?_,h.own.keep eZ (aD.fF ht (fun x hx e=>?_)),h.rng,h1,h2,h3,h4⟩
 ·rw[ht.block _ Lw (aC h.qB)];exact h.qB
 ·rw[ht.block _ Lw (aC h.sts)];exact h.sts
 ·rw[ht.block _ Lw (aC h.box)];exact h.box
 ·rcases hx with hx|hx
  ·exact hx
  ·have:=(h.own.lt x hx).1;omega
theorem LO.app{b N X Lf St q:Nat}{xc:Array Value}{Wo W V:World}{mv:List (Int×Int)}{am a':Option Addr}{cm n' c':Nat}(h:LO b N X Lf St q xc Wo mv am cm W){m:Int×Int}(hr:0<=m.1/\m.1<q/\0<=m.2/\m.2<q)
  (how:cU 2 TU (fun _=>False) (Lf+1) 59 V (.slice a' n' c') (mv++[m]))(hn:n'=(mv++[m]).length)(ht:Turns (fun x=>some x=(Value.slice am mv.length cm).ownBlock) W V):
  LO b N X Lf St q xc Wo (mv++[m]) a' c' (V.setCell ⟨Lf,2,none⟩ (.slice a' n' c')):=by
 subst hn;have h1:=h.bl;have h2:=h.xl;have h3:=h.sl;have h4:=h.ll;have hw:=h.turn.size;have ho:∀x,some x=(Value.slice am mv.length cm).ownBlock->Lf<x:=fun x e=>by have:=(h.own.lt x e.symm).1;omega
 have e1:∀x,x≠Lf->(V.setCell ⟨Lf,2,none⟩ (.slice a' (mv++[m]).length c')).heap[x]?=V.heap[x]?:=fun x hx=>jQ _ _ _ _ hx;have e2:∀x,x<=Lf->x<W.heap.size->V.heap[x]?=W.heap[x]?:=fun x hx hl=>ht.block x (fun e=>by have:=ho x e;omega) hl;refine⟨(h.mO.keep (ht.keep (fun x hx e=>by have:=ho x e;omega))).keep (fun x hx _=>e1 x aB),?_,?_,?_,?_,?_,fun y hy=>?_,h1,h2,h3,h4⟩
 ·exact(h.turn.into ht (fun x hx e=>by have:=ho x e;omega)).setCell_new _ _ (by show _<=Lf;omega)
 ·exact(e1 _ aB).trans ((e2 _ aB (aC h.qB)).trans h.qB)
 ·exact(e1 _ aB).trans ((e2 _ aB (aC h.sts)).trans h.sts)
 ·exact heap_setCell_same V Lf 2 _ _ _ ((e2 _ aB (aC h.box)).trans h.box)
 ·exact how.keep eZ (fun x hx _=>e1 x (by
   rcases hx with hx|hx
   ·exact hx.elim
   ·have:=(how.lt x hx).1;omega))
 ·rcases List.mem_append.1 hy with hy|hy
  ·exact h.rng y hy
  ·rw[mL.1 hy];exact hr
theorem Dd{x y:Int}:∀u∈[Value.int .i64 x,.int .i64 y],u.oneCell'=true:=by
 intro u hu;simp only[kD,GI,or_false] at hu;rcases hu with rfl|rfl<;>rfl
theorem LP{w:World}{F:Nat}{x0 x1 x2:Value}{t:TypeId}(h:w.heap[F]?=some (.cells #[x0,x1,x2] t (0,0))):
  (w.cell? ⟨F,0,none⟩=some x0/\w.cell? ⟨F,1,none⟩=some x1/\w.cell? ⟨F,2,none⟩=some x2)/\∀i,w.frozen? ⟨F,i,none⟩=false:=
 ⟨⟨aN h 0,aN h 1,aN h 2⟩,dJ h⟩
theorem Ul{s:ah.Nm}{a1 a2:Option Addr}{n1 n2 c1 c2:Nat}:∀u∈[Value.string s,.slice a1 n1 c1,.slice a2 n2 c2],u.oneCell'=true:=by
 intro u hu;simp only[kD,GI,or_false] at hu;rcases hu with rfl|rfl|rfl<;>rfl
structure RS(b N X:Nat)(Wo W8:World)(ver vK vL:Value)(lf:ah.DV)(ks:List ah.dZ)(j:Nat)(ar:Option Addr)(cr:Nat)(rs:List ah.tQ)(W:World):Prop where
 mO:gq W b N
 turn:Turns (fun x=>x=b\/x=X) Wo W
 qB:W.heap[X]?=some (.cells #[ver,vK,vL,.slice ar rs.length cr] 27 (0,0))
 life:sA (fun x=>Wo.heap.size<=x/\x<W8.heap.size) W vL [lf]
 own:cU 5 TV (fun _=>False) W8.heap.size 61 W (.slice ar rs.length cr) rs
 ok:ah.mo ks j rs
 bl:b<X
 xl:X<Wo.heap.size
 wl:Wo.heap.size<=W8.heap.size
 wsz:W8.heap.size<=W.heap.size
theorem RS.grow{b N N' X:Nat}{Wo W8 W W':World}{ver vK vL:Value}{lf:ah.DV}{ks:List ah.dZ}{j:Nat}{ar:Option Addr}{cr:Nat}{rs:List ah.tQ}(h:RS b N X Wo W8 ver vK vL lf ks j ar cr rs W)(ht:Turns (·=b) W W')(hm:gq W' b N'):
  RS b N' X Wo W8 ver vK vL lf ks j ar cr rs W':=by
 have h1:=h.bl;have h2:=h.xl;have h3:=h.wl;refine⟨hm,h.turn.trans (ht.mono fun x _ e=>.inl e),?_,dQ.keep cW h.life (aD.fF ht (fun x hx e=>by have:=hx.1;omega)),h.own.keep fe (aD.fF ht (fun x hx e=>?_)),h.ok,h1,h2,h3,Nat.le_trans h.wsz ht.size⟩
 ·rw[ht.block _ Lw (aC h.qB)];exact h.qB
 ·rcases hx with hx|hx
  ·exact hx
  ·have:=(h.own.lt x hx).1;omega
theorem RS.skip{b N X:Nat}{Wo W8 W:World}{ver vK vL:Value}{lf:ah.DV}{ks:List ah.dZ}{j:Nat}{ar:Option Addr}{cr:Nat}{rs:List ah.tQ}(h:RS b N X Wo W8 ver vK vL lf ks j ar cr rs W):RS b N X Wo W8 ver vK vL lf ks (j+1) ar cr rs W:=
 {h with ok:=.skip j rs h.ok}
theorem RS.app{b N X:Nat}{Wo W8 W V:World}{ver vK vL:Value}{lf:ah.DV}{ks:List ah.dZ}{j:Nat}{ar a':Option Addr}{cr n' c':Nat}{rs:List ah.tQ}(h:RS b N X Wo W8 ver vK vL lf ks j ar cr rs W)(hj:j<ks.length){r:ah.tQ}(hr:ah.xZ ks[j] r)
  (how:cU 5 TV (fun _=>False) W8.heap.size 61 V (.slice a' n' c') (rs++[r]))(hn:n'=(rs++[r]).length)(ht:Turns (fun x=>some x=(Value.slice ar rs.length cr).ownBlock) W V):
  RS b N X Wo W8 ver vK vL lf ks (j+1) a' c' (rs++[r]) (V.setCell ⟨X,3,none⟩ (.slice a' n' c')):=by
 subst hn;have h1:=h.bl;have h2:=h.xl;have h3:=h.wl;have ho:∀x,some x=(Value.slice ar rs.length cr).ownBlock->W8.heap.size<=x:=fun x e=>(h.own.lt x e.symm).1;have e1:∀x,x≠X->(V.setCell ⟨X,3,none⟩ (.slice a' (rs++[r]).length c')).heap[x]?=V.heap[x]?:=fun x hx=>jQ _ _ _ _ hx;refine⟨(h.mO.keep (ht.keep (fun x hx e=>by have:=ho x e;omega))).keep (fun x hx _=>e1 x aB),?_,?_,?_,?_,.take j rs r hj h.ok hr,h1,h2,h3,?_⟩
 ·exact(h.turn.into ht (fun x hx e=>by have:=ho x e;omega)).trans (((Turns.refl (·=X) V).setCell ⟨X,3,none⟩ _ rfl).mono fun x _ e=>.inr e)
 ·exact heap_setCell_same V X 3 #[ver,vK,vL,.slice ar rs.length cr] _ _ ((ht.block X (fun e=>by have:=ho X e;omega) (aC h.qB)).trans h.qB)
 ·exact dQ.keep cW (dQ.keep cW h.life (ht.keep (fun x hx e=>by have:=ho x e;have:=hx.2;omega))) (fun x hx _=>e1 x (by have:=hx.1;omega))
 ·exact how.keep fe (fun x hx _=>e1 x (by
   rcases hx with hx|hx
   ·exact hx.elim
   ·have:=(how.lt x hx).1;omega))
 ·have:=ht.size;have:=h.wsz;simp only[World.size_setCell];omega
theorem Um{a b c d:ah.Nm}{n:Int}:∀u∈[Value.string a,.string b,.string c,.string d,.int .i64 n],u.oneCell'=true:=by
 intro u hu;simp only[kD,GI,or_false] at hu;rcases hu with rfl|rfl|rfl|rfl|rfl<;>rfl
theorem vq{w:World}{g:Nat}{x y z u:Value}{tmps:Array Value}(h:w.heap[g]?=some (.cells #[x,y,z,u] 27 (0,0)))(hp:tmps[2]?=some (.pointer (some ⟨g,0,none⟩))):
  (results Tryz.f4 tmps).run Tryz.prog w=.ok (.agg #[x,y,z,u]) w:=by
 obtain⟨⟨h0,h1,h2,h3⟩, -⟩:=bC h;simp[results,Tryz.results4,go_sem,hp,h0,h1,h2,h3]
def Ku(w:World)(e:Ending)(w':World):Prop:=∃v x,e=.returned v/\ah.Bt x/\d9 (w.heap.size<=·) w' v x/\BL w w'
theorem Xi{p:Prop}(h:p:=by
  rw[<-rD] at hLS
  have h6L:=(ht.block Lf (fun e=>by have:=(HL.out.own.lt Lf e.symm).1;omega) (aC HL.out.box)).trans HL.out.box
  obtain⟨⟨-, -,d2⟩,dz⟩:=LP h6L
  have dz2:=dz 2
  have iE:=hid hl2
  clear how ht hn h6L dz rD hl2 lz l2
  go_wp2
  go_meet
  case rel=>exact⟨ZP,a',c',hid Ls,hLS⟩):p:=h
theorem Xj{p:Prop}(h:p:=by
  have hb0:(t==0)=false:=nU ht0
  clear ht0
  go_wp2
  go_meet
  case rel=>exact⟨mv,am,cm,hid aB,HL⟩):p:=h
theorem G9(L:List Int)(hL:Fit L)(v:Value)(w:World)(hv:bq nV w v L):
  Calls Tryz.prog 4 #[v] w (Ku w):=by
 obtain⟨a,cap,rfl,hok,hcap,hmax⟩:=hv.form;have HV:=hid hv;have HL:=hid hL;clear hv hL;go_enter Tryz.func4,Tryz.ntmps4;go_upto_region 1 with fail;go_cut [3] from 3 to 19 (fun p wx=>∃b,p=.pointer (some ⟨b,0,none⟩)/\Hid (b=w.heap.size+1)/\Hid (gq wx b 0)/\Hid (wx.heap[w.heap.size]?=some (.cells #[.int .i64 0,.slice none 0 0,.slice none 0 0,.slice none 0 0] 27 (0,0)))/\Hid (wx.heap.size=w.heap.size+2)/\Hid (BL w wx))
 case first=>
  have HX:Hid (∀n,n<=L.length->gq ((w.alloc (.cells #[.int .i64 0,.slice none 0 0,.slice none 0 0,.slice none 0 0] 27)).alloc (.cells #[.slice a n cap,.int .i64 0] 53)) (w.heap.size+1) 0):=hid (fun n hn=>
   ⟨.slice a n cap,L.take n,0,aW _ _ bp,(bq.mono (S':=fun x=>x<w.heap.size+1) (eU.take HV.out hn) (fun x hx _=>by omega)).keep (aD.below ((aF.alloc aH _).alloc bp _)),fun x hx=>HL.out x (List.mem_of_mem_take hx),aB,aB⟩)
  have HB:Hid (∀o,BL w ((w.alloc (.cells #[.int .i64 0,.slice none 0 0,.slice none 0 0,.slice none 0 0] 27)).alloc o)):=hid (fun o=>(aF.alloc aH _).alloc bp _);by_cases h:(200:Int)<L.length
  ·go_wp2
   go_meet;case rel=>exact⟨_,rfl,hid rfl,hid (HX.out 200 aB),hid (bG _ (aW w _ rfl)),hid bp,hid (HB.out _)⟩
  ·go_wp2
   go_meet;case rel=>exact⟨_,rfl,hid rfl,hid (HX.out L.length aH),hid (bG _ (aW w _ rfl)),hid bp,hid (HB.out _)⟩
 case rest=>
  obtain⟨b,rfl,Hb,HM,HR,HZ,HB⟩:=hcut;go_wp2_with fail;refine(bE 4 aB aB b 0 aB _ HM.out).mono ?_;rintro e w1 ⟨ver,rfl,aeW,aeX,hm1,ht1, -⟩;have hbl:=hm1.lt;go_upto_region 3 with fail;have NW:=Hb.out;obtain⟨W1,hW1⟩:=bB (w1.alloc (.cells #[.int .i64 ver,.slice none 0 0,.slice none 0 0,.slice none 0 0] 27));have jO:Hid (W1.heap[w1.heap.size]?=some (.cells #[.int .i64 ver,.slice none 0 0,.slice none 0 0,.slice none 0 0] 27 (0,0))):=hid (by rw[hW1];exact aW w1 _ rfl)
  have HSS:Hid (SS b 1 w1.heap.size ver w (.slice none 0 0) [] W1):=hid (by
   have h1:BL w w1:=HB.out.trans (ht1.below (by have:=HZ.out;omega) (fun x hx=>by omega))
   refine⟨?_,cU.nil _ _ _ _ _ _,?_,?_,aB,hbl⟩
   ·rw[hW1];exact(hm1.mono aB).keep (aD.below (aF.alloc aH _))
   ·rw[hW1];refine bG _ ?_
    rw[ht1.block _ Lw (aC HR.out)];exact HR.out
   ·rw[hW1];exact h1.alloc h1.size _)
  rw[<-hW1];obtain⟨X,hX⟩:=bB w1.heap.size;rw[<-hX] at jO HSS ⊢;clear hW1 hX hm1 ht1 HM HR HZ HB NW hbl;go_wp2_with fail;refine(bE 3 aB aB b 1 aB _ HSS.out.mO).mono ?_;rintro e w2 ⟨t,rfl,ED,EF,hm2,ht2, -⟩;have HSS2:=hid (HSS.out.grow ht2 hm2);have HBX2:Hid (w2.heap[X]?=some (.cells #[.int .i64 ver,.slice none 0 0,.slice none 0 0,.slice none 0 0] 27 (0,0))):=hid ((ht2.block X (by have:=HSS.out.bx;show ¬X=b;omega) (aC jO.out)).trans jO.out);clear hm2 ht2 HSS jO;obtain⟨n,hn⟩:∃n:Nat,1+t=(n:Int):=⟨(1+t).toNat,aB⟩;have hn1:1<=n:=aB
  have hn3:n<=3:=aB
  have HN:=hid hn;clear hn;go_wp2;rw[HN.out];clear HN ED EF;go_loopw [6] (fun i wr=>∃ks aK cK,i=.int .i64 ((ks.length:Nat):Int)/\ks.length<=n/\Hid (ah.Af ks)/\Hid (SS b (2+100*ks.length) X ver w (.slice aK ks.length cK) ks wr)/\Hid (wr.heap[X]?=some (.cells #[.int .i64 ver,.slice aK ks.length cK,.slice none 0 0,.slice none 0 0] 27 (0,0)))) (fun i _=>n-(intOf i).toNat);case atStart=>exact⟨[],none,0,rfl,bp,hid .nil,HSS2,HBX2⟩
  case round=>
   obtain⟨ks,aK,cK,rfl,hkn,HG,HS,HX⟩:=hrel;by_cases hlt:ks.length<n
   ·have PX:(ks.length:Int)<n:=by omega
    have hbX:=HS.out.bx;have hg:=HG.out.good;have TG:Hid (∀k∈ks,k.aG.length<=1000000):=hid (fun k hk=>by have:=(hg.2.1 k hk).len;omega);obtain⟨⟨-,x1, -, -⟩, -⟩:=bC HX.out;clear hg;go_upto_region 7 with fail;refine aZ 7 (.quiet 0 (.quiet 1 (.quiet 2 (.quiet 3 (.quiet 4 (.one 5 (.one 6 .done))))))) (iG X #[.int .i64 ver,.slice aK ks.length cK,.slice none 0 0,.slice none 0 0] 27) oL (by kernel_rfl) HX.out ?_;refine fE ?_;refine aV rfl ?_;intro hne;have hq:∀xh:Held (iG X #[.int .i64 ver,.slice aK ks.length cK,.slice none 0 0,.slice none 0 0] 27),xh.1.cell? ⟨X,1,none⟩=some (.slice aK ks.length cK):=fun xh=>aN xh.2 1;go_big_quiet_step (fail);refine iL ?_;clear hne hq
    iterate 2 refine fE ?_
    refine aV rfl ?_;intro hne;have hq:∀xh:Held (iG X #[.int .i64 ver,.slice aK ks.length cK,.slice none 0 0,.slice none 0 0] 27),xh.1.cell? ⟨X,1,none⟩=some (.slice aK ks.length cK):=fun xh=>aN xh.2 1;go_big_quiet_step (fail);refine iL ?_;clear hne hq;refine aT rfl ?_;go_wp2_with fail;refine(O7 b (2+100*ks.length) (X+1) aB _ (HS.out.mO.keep (aD.below (aI aF 1))) aK cK ks aB TG.out (fun x=>b<x/\x≠X) (fun x hx=>hx.1) (HS.out.own.below cC (aI aF 1)) aB).mono ?_;rintro e w3 ⟨ks',k,uf,rfl,hk,hfl,ho,Ez,ht3⟩;simp only[kH];have hX3:w3.heap[X]?=some (.cells #[.int .i64 ver,.slice aK ks.length cK,.slice none 0 0,.slice none 0 0] 27 (0,0)):=(ht3.block X (fun h=>h.elim (fun h=>by omega) (fun h=>by have:=(HS.out.own.lt X h).1;omega)) (aC HX.out)).trans HX.out;have LQ:=hid hX3;have HK:=hid hk;have ho:=ho.J5 cC (S':=fun x=>b<x/\x≠X) (fun x _ hx=>hx.elim id (fun h=>by have h1:wr.heap.size<=x:=h;have h2:=HS.out.mO.lt;have h3:=aC HX.out;exact⟨aB,aB⟩));have HO:=hid ho
    have LN:Hid (dh (fun x=>(b<x/\x≠X)/\some x≠(Value.slice aK ks.length cK).ownBlock) w3 uf k.aG):=hid (hfl.mono (fun x hx h=>by
     have h1:wr.heap.size<=x:=h;have h2:=HS.out.mO.lt;have h3:=aC HX.out;exact⟨⟨aB,aB⟩,fun e=>by have:=(HS.out.own.lt x e.symm).2;omega⟩))
    have He:Hid (SS b (2+100*ks.length+100) X ver w (.slice aK ks.length cK) ks' w3):=hid (by
     have h1:=HS.out.rb
     have h3:=HS.out.below.size
     refine⟨Ez,ho,?_,?_,h1,hbX⟩
     ·rw[ht3.block _ (fun h=>h.elim (fun h=>by omega) (fun h=>by have:=(HS.out.own.lt _ h).1;omega)) (by exact aC HS.out.res)];exact HS.out.res
     ·exact(aI HS.out.below 1).trans (ht3.below h3 (fun x hx=>hx.elim (fun h=>by omega) (fun h=>by have:=(HS.out.own.lt x h).1;omega))))
    have HLK:Hid (ks'.length=ks.length):=hid hk.le.2.2;clear hk hfl ho Ez ht3 hX3 x1;go_wp2;refine aJ (iG X #[.int .i64 ver,.slice aK ks.length cK,.slice none 0 0,.slice none 0 0] 27) (fun _ h=>h) LQ.out ?_;refine aT rfl ?_;go_wp2;refine aJ (iG X #[.int .i64 ver,.slice aK ks.length cK,.slice none 0 0,.slice none 0 0] 27) (fun _ h=>h) (bG _ LQ.out) ?_;refine bh ?_;try simp only[jZ,jP]
    go_wp2_with (at_builtin;go_must (refine di cC rfl _ _ rfl Tryz.ZM rfl HO.out (us:=kH k uf) rfl rfl rfl k ⟨uf,rfl,LN.out⟩ (Uk LN.out) (by have:=HLK.out;omega) (by have:=aC LQ.out;omega) ?_));intro v' w4 PY rB hn4;obtain⟨a',c',hv', -⟩:=PY.form;obtain⟨k4,hk4⟩:=bB (ks'++[k]);rw[<-hk4] at PY hv';have hl4:k4.length=ks.length+1:=by rw[hk4];simp[HLK.out]
    subst hv';have h4X:=(rB.block X (fun e=>by have:=(HO.out.lt X e.symm).1;omega) (aC LQ.out)).trans LQ.out;have h5X:(w4.setCell ⟨X,1,none⟩ (.slice a' k4.length c')).heap[X]?=some (.cells #[.int .i64 ver,.slice a' k4.length c',.slice none 0 0,.slice none 0 0] 27 (0,0)):=heap_setCell_same _ X 1 _ _ _ h4X;have HX5:=hid h5X
    have wQ:Hid (SS b (2+100*k4.length) X ver w (.slice a' k4.length c') k4 (w4.setCell ⟨X,1,none⟩ (.slice a' k4.length c'))):=hid (by
     have e1:∀x,x≠X->(w4.setCell ⟨X,1,none⟩ (.slice a' k4.length c')).heap[x]?=w4.heap[x]?:=fun x hx=>jQ _ _ _ _ hx
     have h1:=He.out.rb
     have h3:=He.out.below.size
     refine⟨?_,PY.keep cC (fun x hx hlt=>e1 x ?_),?_,?_,h1,hbX⟩
     ·exact((He.out.mO.keep (rB.keep (fun x hx e=>by have:=(HO.out.lt x e.symm).1;omega))).keep (fun x hx _=>e1 x aB)).mono (by rw[hl4];omega)
     ·rcases hx with hx|hx
      ·exact hx.2
      ·have:=(PY.lt x hx).1;omega
     ·exact(e1 _ aB).trans ((rB.block _ (fun e=>by have:=(HO.out.lt _ e.symm).1;omega) (aC He.out.res)).trans He.out.res)
     ·exact(He.out.below.trans (rB.below h3 (fun x hx=>by have:=(HO.out.lt x hx.symm).1;omega))).setCell (by show _<=X;omega) _)
    have HG5:Hid (ah.Af k4):=hid (by rw[hk4];exact .snoc ks ks' k HG.out HK.out);obtain⟨⟨-,d1, -, -⟩,dz⟩:=bC h4X;have dz1:=dz 1;have lW:=hid hl4;clear PY rB hn4 hk4 h4X h5X dz hl4 HO LN He HLK TG HK HG HS HX;go_wp2;go_roundw;case rel=>exact⟨k4,a',c',by rw[lW.out];go_num,by have:=lW.out;omega,HG5,wQ,HX5⟩
    simp[intOf];omega
   ·have PX:¬(ks.length:Int)<n:=by omega
    have hkn2:n=ks.length:=aB
    subst hkn2;clear hkn hlt PX;obtain⟨Wo,rfl⟩:=bB wr;have hbX:=HS.out.bx;have hXl:=aC HX.out;go_wp2_with fail;refine(bE 3 aB aB b (2+100*ks.length) aB _ (HS.out.mO.keep (aD.below (aF.alloc aH _)))).mono ?_;rintro e w5 ⟨t,rfl,ED,EF,GW,yd, -⟩;obtain⟨q0,rfl⟩:∃q0:Nat,t=(q0:Int):=⟨t.toNat,aB⟩;obtain⟨xc,hxc⟩:=bB (#[.int .i64 ver,.slice aK ks.length cK,.slice none 0 0,.slice none 0 0]:Array Value);have C8:=hid hxc
    have hL0:∀q,q=2+q0->LO b (2+100*ks.length+1) X w5.heap.size Wo.heap.size q xc Wo [] none 0 (w5.alloc (.cells #[.string ah.oN,.slice (some ⟨Wo.heap.size,0,none⟩) q 4,.slice none 0 0] 58)):=fun q hq=>by
     have hst:w5.heap[Wo.heap.size]?=some (.cells (ah.om.map Value.string).toArray 9 (0,0)):=(yd.block Wo.heap.size (by have:=HS.out.mO.lt;show ¬_=b;omega) bp).trans (TQ Wo _);have tH:Turns (·=b) Wo w5:=((Turns.refl _ Wo).alloc _).trans yd;refine⟨GW.keep (aD.below (aF.alloc aH _)),(tH.mono fun x _ e=>.inl e).alloc _,bG _ ?_,bG _ hst,aW _ _ rfl,cU.nil _ _ _ _ _ _,fun _ h=>absurd h bp,hbX,hXl,aH,aC hst⟩;rw[tH.block X (by show ¬X=b;omega) hXl,C8.out];exact HX.out
    have Xk:=hid hL0;clear GW yd hL0 hxc;go_upto_region 10 with fail;have Ta:2<=2+q0:=aB
    have WB:2+q0<=4:=aB
    have HLf:=hid (Xk.out (2+q0) rfl);generalize 2+q0=q at*;clear Xk ED EF;obtain⟨Lf,hLf⟩:=bB w5.heap.size;rw[<-hLf] at HLf ⊢;clear hLf;go_wp2;go_loopw [9] (fun i wr=>∃mv am cm,i=.int .i64 ((mv.length:Nat):Int)/\mv.length+1<=q/\Hid (LO b (2+100*ks.length+1) X Lf Wo.heap.size q xc Wo mv am cm wr)) (fun i _=>q-(intOf i).toNat);case atStart=>exact⟨[],none,0,rfl,lC,HLf⟩
    case round=>
     obtain⟨mv,am,cm,rfl,hmq,HL⟩:=hrel;by_cases hlt2:mv.length+1<q
     ·have hlt3:(mv.length:Int)+1<q:=by omega
      have PZ:(mv.length:Int)<q:=aB
      obtain⟨⟨-, -,l2⟩,lz⟩:=LP HL.out.box;go_wp2_with (at_builtin;go_must (refine di eZ rfl _ _ rfl Tryz.G8 rfl HL.out.own (us:=[.int .i64 (mv.length:Int),.int .i64 ((mv.length:Int)+1)]) rfl rfl rfl ((mv.length:Int),(mv.length:Int)+1) rfl Dd aB Zg ?_));intro v' w6 how ht hn;obtain⟨ZP,rD⟩:=bB (mv++[((mv.length:Int),(mv.length:Int)+1)]);have hl2:ZP.length=mv.length+1:=by rw[rD];simp
      obtain⟨a',c',hv', -⟩:=how.form;rw[<-rD] at hv';subst hv';have hLS:=hid (LO.app HL.out (m:=((mv.length:Int),(mv.length:Int)+1)) ⟨bp,PZ,lC,hlt3⟩ how (by rw[<-rD]) ht);rw[<-rD] at hLS;have h6L:=(ht.block Lf (fun e=>by have:=(HL.out.own.lt Lf e.symm).1;omega) (aC HL.out.box)).trans HL.out.box;obtain⟨⟨-, -,d2⟩,dz⟩:=LP h6L;have dz2:=dz 2;have iE:=hid hl2;clear how ht hn h6L dz rD hl2 lz l2;go_wp2;go_roundw;case rel=>exact⟨ZP,a',c',by rw[iE.out];go_num,Ls,hLS⟩
      simp[intOf];omega
     ·have hlt3:¬(mv.length:Int)+1<q:=by omega
      have hml:mv.length<=3:=aB
      clear hlt2 hmq;go_wp2_with fail;refine(bE 2 aB aB b (2+100*ks.length+1) aB _ HL.out.mO).mono ?_;rintro e W7 ⟨t,rfl,ED,EF,OZ,ye, -⟩;have HL:=hid (HL.out.grow ye OZ);clear OZ ye;go_upto_if 65 with fail;go_cut [] from 66 to 71 (fun wx=>∃mv am cm,Hid (mv.length<=4)/\Hid (LO b (2+100*ks.length+2) X Lf Wo.heap.size q xc Wo mv am cm wx))
      case first=>
       by_cases ht0:t=0
       ·subst ht0
        obtain⟨⟨-, -,l2⟩,lz⟩:=LP HL.out.box;go_wp2_with (at_builtin;go_must (refine di eZ rfl _ _ rfl Tryz.G8 rfl HL.out.own (us:=[.int .i64 1,.int .i64 0]) rfl rfl rfl (1,0) rfl Dd aB Zg ?_));intro v' w6 how ht hn;obtain⟨ZP,rD⟩:=bB (mv++[(1,0)]);have hl2:ZP.length=mv.length+1:=by rw[rD];simp
        obtain⟨a',c',hv', -⟩:=how.form;rw[<-rD] at hv';subst hv';have hLS:=hid (LO.app HL.out (m:=(1,0)) ⟨bp,lC,bp,lC⟩ how (by rw[<-rD]) ht);exact Xi
       ·exact Xj
      case rest=>
       clear HL hml;obtain⟨mv,am,cm,Hml,HL⟩:=hcut;have hml:=Hml.out;go_wp2_with fail;refine(bE 3 aB aB b (2+100*ks.length+2) aB _ HL.out.mO).mono ?_;rintro e W7 ⟨t,rfl,ED,EF,OZ,ye, -⟩;have HL:=hid (HL.out.grow ye OZ);clear OZ ye;go_upto_if 74 with fail;go_cut [] from 75 to 83 (fun wx=>∃mv am cm,Hid (mv.length<=5)/\Hid (LO b (2+100*ks.length+3) X Lf Wo.heap.size q xc Wo mv am cm wx))
       case first=>
        by_cases ht0:t=0
        ·subst ht0
         obtain⟨⟨-, -,l2⟩,lz⟩:=LP HL.out.box;go_wp2_with (at_builtin;go_must (refine di eZ rfl _ _ rfl Tryz.G8 rfl HL.out.own (us:=[.int .i64 0,.int .i64 ((q:Int)-1)]) rfl rfl rfl (0,(q:Int)-1) rfl Dd aB Zg ?_));intro v' w6 how ht hn;obtain⟨ZP,rD⟩:=bB (mv++[(0,(q:Int)-1)]);have hl2:ZP.length=mv.length+1:=by rw[rD];simp
         obtain⟨a',c',hv', -⟩:=how.form;rw[<-rD] at hv';subst hv';have hLS:=hid (LO.app HL.out (m:=(0,(q:Int)-1)) ⟨by show (0:Int)<=0;omega,by show (0:Int)<q;omega,by show (0:Int)<=(q:Int)-1;omega,by show (q:Int)-1<q;omega⟩ how (by rw[<-rD]) ht);exact Xi
        ·exact Xj
       case rest=>
        clear HL hml Hml;obtain⟨mv,am,cm,Hml,HL⟩:=hcut;obtain⟨⟨l0,l1,l2⟩, -⟩:=LP HL.out.box;have hxb:=HL.out.qB;rw[C8.out] at hxb;obtain⟨⟨x0,x1,x2,x3⟩,xz⟩:=bC hxb;obtain⟨lf,hlf⟩:=bB (⟨ah.oN,ah.om.take q,mv⟩:ah.DV)
        have hLV:Zr (fun x=>Wo.heap.size<=x/\some x≠(Value.slice none 0 0).ownBlock) wc [.string ah.oN,.slice (some ⟨Wo.heap.size,0,none⟩) q 4,.slice am mv.length cm] lf:=by
         rw[hlf];refine⟨_,_,rfl,Bz HL.out.sts ⟨aH,by simp[Value.ownBlock]⟩ WB rfl fH,HL.out.own.sl eZ (fun x _ h=>h.elim) (fun x hx=>⟨?_,by simp[Value.ownBlock]⟩)⟩;have h1:=(HL.out.own.lt x hx).1;have h2:=HL.out.ll;omega
        have HLV:=hid hLV;have HLF:=hid hlf;clear hLV hlf hxb xz;go_wp2_with (at_builtin;go_must (refine di (v:=.slice none 0 0) (S:=fun x=>Wo.heap.size<=x) (B:=Wo.heap.size) cW rfl _ _ rfl Tryz.ZN rfl (cU.nil _ _ _ _ _ _) (us:=[.string ah.oN,.slice (some ⟨Wo.heap.size,0,none⟩) q 4,.slice am mv.length cm]) rfl rfl rfl lf HLV.out Ul bp (by have:=aC HL.out.sts;omega) ?_));intro v' w6 how ht hn;obtain⟨a',c',hv', -⟩:=how.form;have hv2:v'=.slice a' 1 c':=hv';clear hv';subst hv2;have ZQ:=(ht.block X (by simp[Value.ownBlock]) (aC HL.out.qB)).trans HL.out.qB;rw[C8.out] at ZQ;obtain⟨⟨-, -,d2, -⟩,dz⟩:=bC ZQ;have dz2:=dz 2;obtain⟨W8,Uh⟩:=bB (w6.setCell ⟨X,2,none⟩ (.slice a' 1 c'));have h8X:W8.heap[X]?=some (.cells #[.int .i64 ver,.slice aK ks.length cK,.slice a' 1 c',.slice none 0 0] 27 (0,0)):=by rw[Uh];exact heap_setCell_same w6 X 2 _ _ _ ZQ
        have h8e:∀x,x≠X->W8.heap[x]?=w6.heap[x]?:=fun x hx=>by rw[Uh];exact jQ _ _ _ _ hx
        have h8m:gq W8 b (2+100*ks.length+3):=(HL.out.mO.keep (ht.keep (fun x _ e=>by simp[Value.ownBlock] at e))).keep (fun x hx _=>h8e x aB)
        have h8t:Turns (fun x=>x=b\/x=X) Wo W8:=by
         rw[Uh];exact(HL.out.turn.into ht (fun x _ e=>by simp[Value.ownBlock] at e)).trans (((Turns.refl (·=X) w6).setCell ⟨X,2,none⟩ _ rfl).mono fun x _ e=>.inr e)
        have h8l:sA (fun x=>Wo.heap.size<=x/\x<W8.heap.size) W8 (.slice a' 1 c') [lf]:=by
         have h1:=how.sl cW (T:=fun x=>Wo.heap.size<=x/\x<w6.heap.size) (fun x hx h=>⟨h,hx⟩) (fun x hx=>⟨(how.lt x hx).1,(how.lt x hx).2⟩);have h2:W8.heap.size=w6.heap.size:=by rw[Uh];simp
         rw[h2];exact dQ.keep cW h1 (fun x hx _=>h8e x aB)
        have H8:=hid (And.intro h8X (And.intro h8m (And.intro h8t h8l)));clear how ht hn ZQ dz h8X h8e h8m h8t h8l l0 l1 l2 x0 x1 x3;go_upto_region 19 with fail;rw[<-Uh];have Un:=hid HL.out.rng;clear Uh dz2 d2 x2 HL;go_wp2;go_loopw [10] (fun i wr=>∃j:Nat,∃rs ar cr,i=.int .i64 j/\j<=ks.length/\rs.length<=2/\Hid (RS b (2+100*ks.length+3+10*j) X Wo W8 (.int .i64 ver) (.slice aK ks.length cK) (.slice a' 1 c') lf ks j ar cr rs wr)) (fun i _=>ks.length-(intOf i).toNat)
        case atStart=>
         exact⟨0,[],none,0,rfl,aB,bp,hid ⟨H8.out.2.1.mono aB,H8.out.2.2.1,H8.out.1,H8.out.2.2.2,cU.nil _ _ _ _ _ _,.nil,hbX,hXl,H8.out.2.2.1.size,aH⟩⟩
        case round=>
         obtain⟨j,rs,ar,cr,rfl,hj,Ad,GF⟩:=hrel;obtain⟨⟨x0,x1,x2,x3⟩,xz⟩:=bC GF.out.qB
         have HKO:Hid (cU 4 AU (fun x=>b<x/\x≠X) (X+1) 49 wr (.slice aK ks.length cK) ks):=hid (HS.out.own.keep cC (aD.fF GF.out.turn (fun x hx e=>by
          rcases hx with hx|hx
          ·have:=hx.1;have:=hx.2;omega
          ·have:=(HS.out.own.lt x hx).1;omega)))
         by_cases hc:j<ks.length/\rs.length<2
         ·obtain⟨hc1,hc2⟩:=hc
          have hc3:(j:Int)<ks.length:=aB
          have NY:(rs.length:Int)<2:=aB
          have hj0:(0:Int)<=j:=aB
          have Uo:=HKO.out.sl cC (T:=fun x=>b<x) (fun x _ h=>h.1) (fun x hx=>by have:=(HKO.out.lt x hx).1;omega)
          have acJ:dX aK ks.length:=by
           obtain⟨_,_,e,h,_⟩:=Uo.form;cases e;exact h
          obtain⟨-, -,c0,c1,c2,uf,c3,hfl⟩:=gU.at Uo hc1;obtain⟨kd,hkd⟩:=bB (ks[j]);rw[<-hkd] at c0 c1 c2 hfl;have hgd:=HG.out.good;have HKS:Hid (∀f∈kd.aG,ah.fD f):=hid (by rw[hkd];exact(hgd.2.1 _ (gm _)).small)
          have HKN:Hid (1<=kd.name.size):=hid (by
           rw[hkd,hgd.2.2 j hc1]
           have:j=0\/j=1\/j=2:=by have:=hgd.1;omega
           rcases this with h|h|h<;>rw[h]<;>decide)
          have LN:=hid hfl;have LK:=hid hkd;clear Uo hfl hgd hkd;go_wp2_with fail;refine(PV b (2+100*ks.length+3+10*j) aB wr GF.out.mO kd uf LN.out HKS.out HKN.out).mono ?_;rintro e w9 ⟨⟨r,bd,rfl,hr⟩,hm9,qK⟩;simp only[acH];have Da:=hid (GF.out.grow qK (hm9.mono (N':=2+100*ks.length+3+10*(j+1)) aB));have HR:=hid hr;clear hr hm9 qK c0 c1 c2 c3 x0 x1 x2 x3 xz GF HKO LN HKS HKN;cases bd with
          |true=>
           have HRK:=hid (HR.out rfl)
           go_upto_region 24 with fail
           obtain⟨W10,AX⟩:=bB (w9.alloc (.cells #[.string r.name,.string r.kind,.string r.a,.string r.b,.int .i64 r.n] 61))
           have Hf:BL w9 W10:=by rw[AX];exact aF.alloc aH _
           have yw:=hid (Da.out.grow (Turns.aS Hf) (Da.out.mO.keep (aD.below Hf)))
           have h10:W10.heap[w9.heap.size]?=some (.cells #[.string r.name,.string r.kind,.string r.a,.string r.b,.int .i64 r.n] 61 (0,0)):=by rw[AX];exact aW w9 _ rfl
           obtain⟨⟨y0,y1,y2,y3,y4⟩, -⟩:=mE h10
           obtain⟨⟨-, -, -,x3⟩, -⟩:=bC yw.out.qB
           rw[<-AX]
           clear AX Hf h10
           go_wp2_with (at_builtin;go_must (refine di fe rfl _ _ rfl Tryz.ZO rfl yw.out.own (us:=[.string r.name,.string r.kind,.string r.a,.string r.b,.int .i64 r.n]) rfl rfl rfl r rfl Um aB (by have:=yw.out.life;have:=yw.out.wsz;omega) ?_))
           intro v' AY how ht hn
           obtain⟨rs2,P4⟩:=bB (rs++[r])
           have hl2:rs2.length=rs.length+1:=by rw[P4];simp
           obtain⟨a2,c2,hv', -⟩:=how.form
           rw[<-P4] at hv'
           subst hv'
           have acK:=hid (RS.app yw.out hc1 (by rw[<-LK.out];exact HRK.out) how (by rw[<-P4]) ht)
           rw[<-P4] at acK
           have ZQ:=(ht.block X (fun e=>by have:=(yw.out.own.lt X e.symm).1;have:=yw.out.wl;omega) (aC yw.out.qB)).trans yw.out.qB
           obtain⟨⟨-, -, -,d3⟩,dz⟩:=bC ZQ
           have Po:=dz 3
           have iE:=hid hl2
           clear how ht hn ZQ dz P4 hl2 x3
           go_wp2
           go_roundw
           case rel=>exact⟨j+1,rs2,a2,c2,by go_num,aB,Ls,acK⟩
           simp[intOf];omega
          |false=>
           have yw:=hid (Da.out.grow (W':=w9.alloc (.cells #[.string r.name,.string r.kind,.string r.a,.string r.b,.int .i64 r.n] 61)) (Turns.aS (aF.alloc aH _)) (Da.out.mO.keep (aD.below (aF.alloc aH _)))).skip
           go_wp2
           go_roundw
           case rel=>exact⟨j+1,rs,ar,cr,by go_num,aB,Ad,yw⟩
           simp[intOf];omega
         ·have hRz:wr.heap[w.heap.size]?=some (.cells #[.int .i64 0,.slice none 0 0,.slice none 0 0,.slice none 0 0] 27 (0,0)):=by
           have h1:=HS.out.rb
           rw[GF.out.turn.block w.heap.size (by show ¬(_=b\/_=X);omega) (aC HS.out.res)];exact HS.out.res
          have LG:=hid (Et hRz (.int .i64 ver) (.slice aK ks.length cK) (.slice a' 1 c') (.slice ar rs.length cr));obtain⟨⟨z0,z1,z2,z3⟩,zf⟩:=bC hRz
          have EV:Hid (Ku w (.returned (.agg #[.int .i64 ver,.slice aK ks.length cK,.slice a' 1 c',.slice ar rs.length cr])) ((((wr.setCell ⟨w.heap.size,0,none⟩ (.int .i64 ver)).setCell ⟨w.heap.size,1,none⟩ (.slice aK ks.length cK)).setCell ⟨w.heap.size,2,none⟩ (.slice a' 1 c')).setCell ⟨w.heap.size,3,none⟩ (.slice ar rs.length cr))):=hid (by
           have h1:=HS.out.rb
           have h2:=GF.out.xl
           have h3:=GF.out.wl
           have h4:=HS.out.below.size
           have h6:=HS.out.mO.lt
           refine⟨_,⟨ver,ks,[lf],rs⟩,rfl,⟨⟨by show 0<=ver;omega,by show ver<=3;omega⟩,HG.out,hn1,⟨lf,rfl,?_⟩,⟨j,hj,GF.out.ok,Ad⟩⟩,d9.mono (S:=fun x=>w.heap.size<x) (d9.keep (w:=wr) ⟨_,_,_,rfl,?_,?_,?_⟩ (aD.fF LG.out.2 (fun x hx e=>by omega))) (fun x _ hx=>by omega),?_⟩
           ·rw[HLF.out]
            exact⟨rfl,q,Ta,WB,rfl,by have:=Hml.out;show mv.length<=6;omega,Un.out⟩
           ·exact HKO.out.sl cC (fun x _ h=>by have:=h.1;omega) (fun x hx=>by have:=(HKO.out.lt x hx).1;omega)
           ·exact dQ.mono aB cW GF.out.life (fun x _ h=>by have:=h.1;omega)
           ·exact GF.out.own.sl fe (fun x _ h=>h.elim) (fun x hx=>by have:=(GF.out.own.lt x hx).1;omega)
           ·have h5:BL w wr:=HS.out.below.trans (GF.out.turn.below h4 (fun x hx=>by rcases hx with h|h<;>omega))
            exact h5.trans (LG.out.2.below h5.size (fun x hx=>by omega)))
          by_cases hc1:(j:Int)<ks.length
          ·have hc2:¬(rs.length:Int)<2:=by omega
           clear hc hRz;go_wp2;refine bodyPost_ret (vq LG.out.1 rfl) rfl EV.out
          ·clear hc hRz
           go_wp2;refine bodyPost_ret (vq LG.out.1 rfl) rfl EV.out
def dP(w:World)(ver:Int)(uk ul ur:Value):World:=w.alloc (.cells #[.int .i64 ver,uk,ul,ur] 27)
theorem iV(w:World)(ver:Int)(uk ul ur:Value):BL w (dP w ver uk ul ur):=aF.alloc aH _
theorem gA(w:World)(ver:Int)(uk ul ur:Value):(dP w ver uk ul ur).heap[w.heap.size]?=some (.cells #[.int .i64 ver,uk,ul,ur] 27 (0,0)):=TQ w _
theorem d9.form{S:Nat->Prop}{w:World}{v:Value}{x:ah.cA}(h:d9 S w v x):
  ∃ak ck al cl ar cr,v=.agg #[.int .i64 x.aL,.slice ak x.aA.length ck,.slice al x.aP.length cl,.slice ar x.aR.length cr]/\gU S w (.slice ak x.aA.length ck) x.aA/\sA S w (.slice al x.aP.length cl) x.aP/\uY S w (.slice ar x.aR.length cr) x.aR/\
   dX ak x.aA.length/\dX al x.aP.length/\dX ar x.aR.length:=by
 obtain⟨uk,ul,ur,rfl,h1,h2,h3⟩:=h;obtain⟨ak,ck,rfl,s1, -⟩:=h1.form;obtain⟨al,cl,rfl,s2, -⟩:=h2.form;obtain⟨ar,cr,rfl,s3, -⟩:=h3.form;exact⟨ak,ck,al,cl,ar,cr,rfl,h1,h2,h3,s1,s2,s3⟩
theorem dU{x:ah.cA}{i:Nat}(h:i<x.aA.length):ah.kd x i=x.aA[i]:=by
 unfold ah.kd;rw[Int.toNat_natCast,jm,lE h];rfl
theorem nA{x:ah.cA}{i j:Nat}(h:i<x.aA.length)(h2:j<x.aA[i].aG.length):ah.fd x i j=x.aA[i].aG[j]:=by
 unfold ah.fd;rw[dU h,Int.toNat_natCast,jm,lE h2];rfl
theorem LS(x:ah.cA)(s:ByteArray)(v:Value)(S:Nat->Prop)(w:World)(hv:d9 S w v x):
  Calls Tryz.prog 40 #[v,.string s] w fun e w'=>e=.returned (.int .i64 (ah.cL x s))/\BL w w':=by
 obtain⟨ak,ck,al,cl,ar,cr,rfl,hk, -, -,hsk, -, -⟩:=hv.form;have HB:=hid (iV w x.aL (.slice ak x.aA.length ck) (.slice al x.aP.length cl) (.slice ar x.aR.length cr));have HK:=hid (hk.keep (aD.below HB.out));obtain⟨⟨-,b1, -, -⟩, -⟩:=bC (gA w x.aL (.slice ak x.aA.length ck) (.slice al x.aP.length cl) (.slice ar x.aR.length cr));obtain⟨W,hW⟩:=bB (dP w x.aL (.slice ak x.aA.length ck) (.slice al x.aP.length cl) (.slice ar x.aR.length cr));rw[<-hW] at HB HK b1;unfold dP at hW;have HW:=hid hW
 have hbd:x.aA.length<=9223372036854775807:=by
  obtain⟨_,_,e,_,h1,h2⟩:=hk.form;cases e;omega
 clear hv hk hW;go_enter Tryz.func40,Tryz.ntmps40;go_wp2;rw[<-HW.out];clear HW;go_loop [5] (fun i=>∃k:Nat,k<=x.aA.length/\i=.int .i64 k/\Hid (∀j (h:j<x.aA.length),j<k->decide (x.aA[j].name=s)=false)) (fun i=>x.aA.length-(intOf i).toNat);case atStart=>exact⟨0,aB,rfl,hid (fun _ _ h=>absurd h aB)⟩
 case round=>
  obtain⟨k,hk,rfl,hpre⟩:=hrel;by_cases hlt:k<x.aA.length
  ·obtain⟨-, -,c0, -⟩:=HK.out.at hlt
   have hk0:(0:Int)<=k:=aB
   have hk1:(k:Int)<x.aA.length:=aB
   by_cases he:x.aA[k].name=s
   ·have HA:Hid (ah.cL x s=(k:Int)):=hid (by
     have:=ah.mh (p:=fun f:ah.dZ=>decide (f.name=s)) (i:=0) hlt hpre.out (decide_eq_true he)
     rw[Nat.zero_add] at this
     exact this)
    have ht:=TW he;generalize x.aA[k].name=nm at*;clear he;go_wp2;go_ret;exact⟨fV HA.out.symm,HB.out⟩
   ·have HA:Hid (∀j (h:j<x.aA.length),j<k+1->decide (x.aA[j].name=s)=false):=hid (fun j hj hjk=>by
     by_cases e:j=k
     ·subst e;exact decide_eq_false he
     ·exact hpre.out j hj aB)
    have ht:=TX he;generalize x.aA[k].name=nm at*;clear he;go_wp2;go_round;case rel=>exact⟨k+1,aB,by go_num,HA⟩
    simp[intOf];omega
  ·have HA:Hid (ah.cL x s= -1):=hid (ah.lm (fun j hj=>hpre.out j hj aB))
   go_wp2;go_ret;exact⟨fV HA.out.symm,HB.out⟩
theorem Hg(k:ah.dZ)(s:ByteArray)(uf:Value)(S:Nat->Prop)(w:World)(hv:dh S w uf k.aG)(cs:Array Value)(hcs:cs=(kH k uf).toArray):
  Calls Tryz.prog 39 #[.agg cs,.string s] w fun e w'=>e=.returned (.int .i64 (ah.bJ k s))/\BL w w':=by
 subst hcs;obtain⟨a,cap,rfl,hok,hcap,hmax⟩:=hv.form;have HB:Hid (BL w (w.alloc (.cells #[.string k.name,.int .i64 k.lo,.int .i64 k.hi,.slice a k.aG.length cap] 49))):=hid (aF.alloc aH _);have HF:=hid (hv.keep (aD.below HB.out));simp only[kH];clear hv;go_enter Tryz.func39,Tryz.ntmps39;go_wp2;go_loop [5] (fun i=>∃j:Nat,j<=k.aG.length/\i=.int .i64 j/\Hid (∀m (h:m<k.aG.length),m<j->decide (k.aG[m].name=s)=false)) (fun i=>k.aG.length-(intOf i).toNat);case atStart=>exact⟨0,aB,rfl,hid (fun _ _ h=>absurd h aB)⟩
 case round=>
  obtain⟨j,hj,rfl,hpre⟩:=hrel;by_cases hlt:j<k.aG.length
  ·obtain⟨-, -,c0, -⟩:=HF.out.at hlt
   have hk0:(0:Int)<=j:=aB
   have hk1:(j:Int)<k.aG.length:=aB
   by_cases he:k.aG[j].name=s
   ·have HA:Hid (ah.bJ k s=(j:Int)):=hid (by
     have:=ah.mh (p:=fun f:ah.cD=>decide (f.name=s)) (i:=0) hlt hpre.out (decide_eq_true he)
     rw[Nat.zero_add] at this
     exact this)
    have ht:=TW he;generalize k.aG[j].name=nm at*;clear he;go_wp2;go_ret;exact⟨fV HA.out.symm,HB.out⟩
   ·have HA:Hid (∀m (h:m<k.aG.length),m<j+1->decide (k.aG[m].name=s)=false):=hid (fun m hm hmj=>by
     by_cases e:m=j
     ·subst e;exact decide_eq_false he
     ·exact hpre.out m hm aB)
    have ht:=TX he;generalize k.aG[j].name=nm at*;clear he;go_wp2;go_round;case rel=>exact⟨j+1,aB,by go_num,HA⟩
    simp[intOf];omega
  ·have HA:Hid (ah.bJ k s= -1):=hid (ah.lm (fun m hm=>hpre.out m hm aB))
   go_wp2;go_ret;exact⟨fV HA.out.symm,HB.out⟩
theorem Kv{p:Prop}(h:p:=by
  go_enter Tryz.func38,Tryz.ntmps38
  go_wp2
  go_ret
  exact⟨mS HA.out.symm,HB.out⟩):p:=h
theorem P5(x:ah.cA)(i j:Int)(v:Value)(S:Nat->Prop)(w:World)(hv:d9 S w v x):
  Calls Tryz.prog 38 #[v,.int .i64 i,.int .i64 j] w fun e w'=>e=.returned (.bool (ah.hasB x i j))/\BL w w':=by
 obtain⟨ak,ck,al,cl,ar,cr,rfl,hk, -, -,hsk, -, -⟩:=hv.form;have HB:=hid (iV w x.aL (.slice ak x.aA.length ck) (.slice al x.aP.length cl) (.slice ar x.aR.length cr));have HK:=hid (hk.keep (aD.below HB.out));obtain⟨⟨-,b1, -, -⟩, -⟩:=bC (gA w x.aL (.slice ak x.aA.length ck) (.slice al x.aP.length cl) (.slice ar x.aR.length cr));unfold dP at HB HK b1;clear hv hk;by_cases h1:i<0
 ·have HA:Hid (ah.hasB x i j=false):=hid Wu
  exact Kv
 ·by_cases h2:(x.aA.length:Int)<=i
  ·have HA:Hid (ah.hasB x i j=false):=hid (by unfold ah.hasB;rw[decide_eq_false (show ¬i<x.aA.length by omega)];simp)
   exact Kv
  ·by_cases h3:j<0
   ·have HA:Hid (ah.hasB x i j=false):=hid Wt
    exact Kv
   ·obtain⟨m,rfl⟩:∃m:Nat,i=(m:Int):=⟨i.toNat,aB⟩
    have hm:m<x.aA.length:=aB
    have hm0:(0:Int)<=m:=aB
    have hm1:(m:Int)<x.aA.length:=aB
    have HA:Hid (ah.hasB x m j=decide (j<(x.aA[m].aG.length:Int))):=hid (by
     unfold ah.hasB
     rw[decide_eq_true hm0,decide_eq_true hm1,decide_eq_true (show 0<=j by omega),dU hm];rfl)
    obtain⟨-, -, -, -, -,uf,c3,hf⟩:=HK.out.at hm;obtain⟨a,cap,rfl, -, -, -⟩:=hf.form;clear hf;exact Kv
theorem Uq{x:ah.cA}{i j:Nat}(h:i<x.aA.length)(h2:j<x.aA[i].aG.length):ah.hasB x i j=true:=by
 unfold ah.hasB;rw[dU h];simp;omega
theorem EW{x:ah.cA}{i j:Int}(h:ah.hasB x i j=true):∃m n:Nat,i=m/\j=n/\∃hm:m<x.aA.length,n<x.aA[m].aG.length:=by
 unfold ah.hasB at h;simp only[pF,qZ] at h;obtain⟨⟨⟨h1,h2⟩,h3⟩,h4⟩:=h;have hm:i.toNat<x.aA.length:=aB
 have e:i=(i.toNat:Int):=aB
 rw[e,dU hm] at h4;exact⟨i.toNat,j.toNat,e,aB,hm,aB⟩
theorem Kw(x:ah.cA)(i j:Int)(v:Value)(S:Nat->Prop)(w:World)(hv:d9 S w v x)(hi: -1000000<=i/\i<=1000000)(hj: -1000000<=j/\j<=1000000):
    Calls Tryz.prog 17 #[v,.int .i64 i,.int .i64 j] w fun e w'=>e=.returned (.int .i64 (ah.dI x i j))/\BL w w':=by
  have hv0:=hv
  obtain⟨ak,ck,al,cl,ar,cr,rfl,hk, -, -,hsk, -, -⟩:=hv.form
  have HB:=hid (iV w x.aL (.slice ak x.aA.length ck) (.slice al x.aP.length cl) (.slice ar x.aR.length cr))
  have hbc:=gA w x.aL (.slice ak x.aA.length ck) (.slice al x.aP.length cl) (.slice ar x.aR.length cr)
  obtain⟨W,hW⟩:=bB (dP w x.aL (.slice ak x.aA.length ck) (.slice al x.aP.length cl) (.slice ar x.aR.length cr))
  rw[<-hW] at HB hbc
  have NZ:=hid hbc
  have Xl:=hid (hv0.keep (aD.below HB.out))
  have HK:=hid (hk.keep (aD.below HB.out))
  unfold dP at hW
  have HW:=hid hW
  obtain⟨⟨b0,b1,b2,b3⟩, -⟩:=bC hbc
  clear hv hv0 hk hW hbc
  have hi':=hi
  have hj':=hj
  go_enter Tryz.func17,Tryz.ntmps17
  go_upto_region 1 with fail
  rw[<-HW.out]
  clear HW
  go_wp2_with fail
  refine(P5 x i j _ S W Xl.out).mono ?_
  rintro e w1 ⟨rfl,hb1⟩
  have bT:=aU HB hb1
  have BJ:=hid (HK.out.keep (aD.below hb1))
  have Hh:=hid ((hb1.block _ (aC NZ.out)).trans NZ.out)
  have acL:=hid (Xl.out.keep (aD.below hb1))
  obtain⟨⟨b0,b1,b2,b3⟩, -⟩:=bC Hh.out
  clear hb1 HK NZ Xl HB
  cases hh:ah.hasB x i j with
  |false=>
    have HA:Hid (ah.dI x i j= -1):=hid (by unfold ah.dI;rw[hh];rfl)
    clear hh
    go_wp2
    go_ret
    exact⟨fV HA.out.symm,bT.out⟩
  |true=>
    obtain⟨m,n,rfl,rfl,hm,hn⟩:=EW hh
    have hm0:(0:Int)<=m:=aB
    have hm1:(m:Int)<x.aA.length:=aB
    have hn0:(0:Int)<=n:=aB
    have hn1:(n:Int)<x.aA[m].aG.length:=aB
    obtain⟨-, -,k0,k1,k2,uf,k3,hf⟩:=BJ.out.at hm
    obtain⟨af,cf,rfl,P6, -, -⟩:=hf.form
    obtain⟨-, -,f0,f1,f2,f3,f4,f5,uw,ug,f6,f7,hfw,hfg⟩:=hf.at hn
    obtain⟨aw,cw,rfl, -, -, -⟩:=hfw.form
    obtain⟨ag,cg,rfl, -, -, -⟩:=hfg.form
    have HF:=hid hf
    have rC:=hid k3
    obtain⟨f,hfx⟩:=bB (x.aA[m].aG[n])
    rw[<-hfx] at f0 f1 f2 f3 f4 f5 f6 f7
    have HFX:=hid hfx
    clear hfx
    go_upto_region 4 with fail
    obtain⟨W2,hW2⟩:=bB (w1.alloc (.cells #[.string f.name,.string f.of,.string f.up,.int .i64 f.kind,.int .i64 f.lo,.int .i64 f.hi,.slice aw f.cB.length cw,.slice ag f.bO.length cg] 46))
    have bX:Hid (Below w1.heap.size w1 W2):=hid (by rw[hW2];exact aF.alloc aH _)
    have DZ:Hid (W2.heap[w1.heap.size]?=some (.cells #[.string f.name,.string f.of,.string f.up,.int .i64 f.kind,.int .i64 f.lo,.int .i64 f.hi,.slice aw f.cB.length cw,.slice ag f.bO.length cg] 46 (0,0))):=hid (by rw[hW2];exact aW w1 _ rfl)
    rw[<-hW2]
    clear hW2 f0 f1 f2 f3 f4 f5 f6 f7 hfw hfg k0 k1 k2 k3 b0 b1 b2 b3 hf
    have HU:Hid (ah.dI x m n=if f.kind=7\/f.kind=8 then (if ah.hasB x m (ah.bJ x.aA[m] f.up)=true/\ah.bJ x.aA[m] f.up<n/\(ah.fd x m (ah.bJ x.aA[m] f.up)).kind=1 then ah.pH x m (ah.fd x m (ah.bJ x.aA[m] f.up)) else -1) else if f.kind=1 then ah.pH x m f else -1):=hid (by
      unfold ah.dI
      rw[if_pos hh,nA hm hn,dU hm,HFX.out])
    obtain⟨⟨p0,p1,p2,p3,p4,p5,p6,p7⟩,pz⟩:=dK DZ.out
    have hz1:=bC ((bX.out.block _ (aC Hh.out)).trans Hh.out)
    obtain⟨⟨z0,z1,z2,z3⟩, -⟩:=hz1
    have Uo:=BJ.out.keep (aD.below bX.out)
    obtain⟨-, -,y0,y1,y2,uf',y3,hf'⟩:=Uo.at hm
    have huf:uf'=.slice af x.aA[m].aG.length cf:=by
      have:=BJ.out.at hm
      obtain⟨hl, -, -, -, -,uf2,k3, -⟩:=this
      have h9:=y3
      rw[bX.out.cell (p:=⟨bL ak,bP ak+m*4+3,none⟩) hl] at h9
      exact(mM (h9.symm.trans (rC.out)))
    subst huf
    have Ws:=hid hf'
    clear Uo hf'
    go_cut [31] from 24 to 31 (fun q wx=>∃bd:Bool,q=.bool bd/\Hid (bd=decide (f.kind=7\/f.kind=8))/\W2=wx)
    case first=>
      by_cases h7:f.kind=7
      · have oV:=Lx h7
        have HD:Hid (true=decide (f.kind=7\/f.kind=8)):=hid (by simp[h7])
        clear h7
        go_wp2
        go_meet
        case rel=>exact⟨true,rfl,HD,rfl⟩
      · have oV:=nU h7
        by_cases h8:f.kind=8
        · have lZ:=Lx h8
          have HD:Hid (true=decide (f.kind=7\/f.kind=8)):=hid (by simp[h8])
          clear h7 h8
          go_wp2
          go_meet
          case rel=>exact⟨true,rfl,HD,rfl⟩
        · have lZ:=nU h8
          have HD:Hid (false=decide (f.kind=7\/f.kind=8)):=hid (by simp[h7,h8])
          clear h7 h8
          go_wp2
          go_meet
          case rel=>exact⟨false,rfl,HD,rfl⟩
    case rest=>
     obtain⟨bd,rfl,HD,rfl⟩:=hcut;go_upto_if 31 with fail;go_cut [] from 8 to 55 (fun wx=>∃g uw ug,Hid (wx.heap[w1.heap.size]?=some (.cells #[.string g.name,.string g.of,.string g.up,.int .i64 g.kind,.int .i64 g.lo,.int .i64 g.hi,uw,ug] 46 (0,0)))/\Hid (ah.dI x m n=if g.kind=1 then ah.pH x m g else -1)/\Hid (BL w1 wx))
     case first=>
      cases bd with
      |false=>
        have LU:=hid (HU.out.trans (if_neg (fun h=>by have:=HD.out;rw[decide_eq_true h] at this;cases this)))
        clear HU HD
        go_wp2
        go_meet
        case rel=>exact⟨f,_,_,DZ,LU,bX⟩
      |true=>
        have LU:=hid (HU.out.trans (if_pos (decide_eq_true_iff.1 HD.out.symm)))
        clear HU HD
        go_upto_region 5 with fail
        refine aZ 7 (.quiet 0 (.quiet 1 (.quiet 2 (.quiet 3 (.quiet 4 (.quiet 5 (.quiet 6 .done))))))) (From (fun _=>False) W2) oL (by kernel_rfl) (show From (fun _=>False) W2 (W2.drewN 1) from (Turns.refl _ _).drewN 1) ?_
        refine fE ?_
        refine aV rfl ?_
        intro hne
        have hq:∀xh:Held (From (fun _=>False) W2),xh.1.cell? ⟨w.heap.size,1,none⟩=some (.slice ak x.aA.length ck):=fun xh=>From.cell xh id z1
        go_big_quiet_step (fail)
        refine iL ?_
        clear hne hq
        iterate 2 refine fE ?_
        refine aV rfl ?_
        intro hne
        have h0:∀xh:Held (From (fun _=>False) W2),xh.1.cell? ⟨bL ak,bP ak+m*4,none⟩=some (.string x.aA[m].name):=fun xh=>From.cell xh id y0
        have h1:∀xh:Held (From (fun _=>False) W2),xh.1.cell? ⟨bL ak,bP ak+m*4+1,none⟩=some (.int .i64 x.aA[m].lo):=fun xh=>From.cell xh id y1
        have h2:∀xh:Held (From (fun _=>False) W2),xh.1.cell? ⟨bL ak,bP ak+m*4+2,none⟩=some (.int .i64 x.aA[m].hi):=fun xh=>From.cell xh id y2
        have h3:∀xh:Held (From (fun _=>False) W2),xh.1.cell? ⟨bL ak,bP ak+m*4+3,none⟩=some (.slice af x.aA[m].aG.length cf):=fun xh=>From.cell xh id y3
        go_big_quiet_step (fail)
        refine iL ?_
        clear hne h0 h1 h2 h3
        refine fE ?_
        refine aV rfl ?_
        intro hne
        have hq:∀xh:Held (From (fun _=>False) W2),xh.1.cell? ⟨w1.heap.size,2,none⟩=some (.string f.up):=fun xh=>From.cell xh id p2
        go_big_quiet_step (fail)
        refine iL ?_
        clear hne hq
        refine bh ?_
        try simp only[jZ,jP]
        go_wp2_with fail
        refine(Hg x.aA[m] f.up (.slice af x.aA[m].aG.length cf) S (W2.drewN 1) (Ws.out.keep (aD.below (aI aF 1))) _ rfl).mono ?_
        rintro e w3 ⟨rfl,hb3⟩
        have cE:Hid (BL w1 w3):=hid ((aI bX.out 1).trans (hb3.mono bX.out.size))
        have EU:=hid ((hb3.block _ (aC DZ.out)).trans DZ.out)
        obtain⟨u,hu⟩:=bB (ah.bJ x.aA[m] f.up)
        rw[<-hu] at LU ⊢
        have HUU:=hid hu
        clear hb3 hu p0 p1 p2 p3 p4 p5 p6 p7 pz z0 z1 z2 z3 y0 y1 y2 y3 DZ bX
        rcases ah.iy (fun f':ah.cD=>decide (f'.name=f.up)) x.aA[m].aG with⟨hc1, -⟩|⟨ci,hci,hc1, -, -⟩
        · have oo:u= -1:=HUU.out.trans hc1
          subst oo
          have HA:Hid (ah.dI x m n= -1):=hid (LU.out.trans (if_neg (fun h=>by
            have h9:=h.1
            unfold ah.hasB at h9
            simp at h9)))
          clear hc1 LU
          go_wp2
          go_ret
          exact⟨fV HA.out.symm,cG bT.out cE.out⟩
        · have oo:u=(ci:Int):=HUU.out.trans hc1
          subst oo
          clear hc1
          have PD:¬(ci:Int)<0:=aB
          by_cases hlt:ci<n
          · have PX:¬(n:Int)<=ci:=by omega
            have hci2:(0:Int)<=ci:=aB
            have hci3:(ci:Int)<x.aA[m].aG.length:=aB
            have HH:Hid (ah.dI x m n=if (x.aA[m].aG[ci]).kind=1 then ah.pH x m x.aA[m].aG[ci] else -1):=hid (by
              rw[LU.out,nA hm hci,Uq hm hci]
              have:(ci:Int)<n:=aB
              simp[this])
            have hz1:=bC ((cE.out.block _ (aC Hh.out)).trans Hh.out)
            obtain⟨⟨z0,z1,z2,z3⟩, -⟩:=hz1
            obtain⟨⟨p0,p1,p2,p3,p4,p5,p6,p7⟩,pz⟩:=dK EU.out
            have q0:=pz 0
            have q1:=pz 1
            have q2:=pz 2
            have q3:=pz 3
            have q4:=pz 4
            have q5:=pz 5
            have q6:=pz 6
            have q7:=pz 7
            have Uo:=BJ.out.keep (aD.below cE.out)
            obtain⟨hl4, -, -, -, -,uf',y3,hf'⟩:=Uo.at hm
            have huf:uf'=.slice af x.aA[m].aG.length cf:=by
              have hl:bL ak<w1.heap.size:=(BJ.out.at hm).1
              have h9:=y3
              rw[cE.out.cell (p:=⟨bL ak,bP ak+m*4+3,none⟩) hl] at h9
              exact(mM (h9.symm.trans (rC.out)))
            subst huf
            obtain⟨-, -,f0,f1,f2,f3,f4,f5,uw,ug,f6,f7,hfw,hfg⟩:=hf'.at hci
            obtain⟨ZR,ZS,rfl, -, -, -⟩:=hfw.form
            obtain⟨OY,NR,rfl, -, -, -⟩:=hfg.form
            obtain⟨g,hg⟩:=bB (x.aA[m].aG[ci])
            rw[<-hg] at f0 f1 f2 f3 f4 f5 f6 f7 HH
            clear Uo hf' hfw hfg hg LU hl4 pz
            have h8:=hid (GS EU.out (.string g.name) (.string g.of) (.string g.up) (.int .i64 g.kind) (.int .i64 g.lo) (.int .i64 g.hi) (.slice ZR g.cB.length ZS) (.slice OY g.bO.length NR))
            go_wp2
            go_meet
            case rel=>exact⟨g,_,_,hid h8.out.1,HH,hid (cE.out.trans (h8.out.2.below cE.out.size (fun x hx=>by omega)))⟩
          · have PX:(n:Int)<=ci:=by omega
            have HA:Hid (ah.dI x m n= -1):=hid (LU.out.trans (if_neg (fun h=>by have:=h.2.1;omega)))
            clear LU
            go_wp2
            go_ret
            exact⟨fV HA.out.symm,cG bT.out cE.out⟩
     case rest=>
       obtain⟨g,uw,ug,HG,HUg,Xm⟩:=hcut
       obtain⟨⟨p0,p1,p2,p3,p4,p5,p6,p7⟩, -⟩:=dK HG.out
       have hz1:=bC ((Xm.out.block _ (aC Hh.out)).trans Hh.out)
       obtain⟨⟨z0,z1,z2,z3⟩, -⟩:=hz1
       have Xn:=hid (acL.out.keep (aD.below Xm.out))
       have HBF:=aU bT Xm.out
       clear y0 y1 y2 y3 DZ bX HU HD Ws HF hh acL
       by_cases hk1:g.kind=1
       · have hb1:(g.kind !=1)=false:=OH hk1
         have HA:=hid (HUg.out.trans (if_pos hk1))
         clear hk1 HUg
         go_wp2_with fail
         refine(LS x g.of _ S wc Xn.out).mono ?_
         rintro e w4 ⟨rfl,hb4⟩
         have HBL:=aU HBF hb4
         unfold ah.pH at HA
         generalize ah.cL x g.of=ki at*
         clear hb4 p0 p1 p2 p3 p4 p5 p6 p7 z0 z1 z2 z3
         by_cases hki:ki<(m:Int)
         · have tX:=hid (HA.out.trans (if_pos hki))
           have hki2:¬(m:Int)<=ki:=aB
           go_wp2
           go_ret
           exact⟨fV tX.out.symm,HBL.out⟩
         · have tX:=hid (HA.out.trans (if_neg hki))
           have hki2:(m:Int)<=ki:=aB
           go_wp2
           go_ret
           exact⟨fV tX.out.symm,HBL.out⟩
       · have hb1:(g.kind !=1)=true:=GL hk1
         have HA:=hid (HUg.out.trans (if_neg hk1))
         clear hk1 HUg
         go_wp2
         go_ret
         exact⟨fV HA.out.symm,HBF.out⟩
theorem Hl{w w1:World}{v:Int}{a b c:Value}(h:w1=dP w v a b c):Hid (∀W,Below w1.heap.size w1 W->W.heap[w.heap.size]?=some (.cells #[.int .i64 v,a,b,c] 27 (0,0))):=hid (fun W hW=>(hW.block _ (by rw[h];simp[dP])).trans (by rw[h];exact gA ..))
theorem wS{w w1:World}{v:Int}{a b c:Value}(h:w1=dP w v a b c):Hid (Below w.heap.size w w1):=hid (by rw[h];exact iV ..)
end Go.Proofs.YtibacilhkciihaaGreatDoor
namespace Go.Proofs.YtibacilhkciihaaGreatDoor.ah
abbrev eE:=List (List (List Int))
def fQ(W:eE)(u:Int):Nat:=(W.getD u.toNat []).length
def BK(x:cA)(k:Nat)(W:eE)(r:List Int):Prop:=
 r.length=(kd x k).aG.length/\∀(j:Nat) (h:j<r.length),((fd x k j).kind=1->0<=r[j]/\r[j]<fQ W (dI x k j))/\ -100<=r[j]/\r[j]<=100
def total(W:eE):Nat:=(W.map List.length).sum
def mH(x:cA):Prop:=∀(k j:Nat),k<x.aA.length->j<(kd x k).aG.length->(fd x k j).kind=1->0<=dI x k j
theorem Kx(x:cA)(i:Int)(f:cD)(h:0<=i):pH x i f<i:=by
 unfold pH;split
 ·assumption
 ·omega
theorem tY(x:cA)(i j:Int)(h:0<=i):dI x i j<i:=by
 unfold dI;split
 ·simp only
  split
  ·split
   ·exact Kx x i _ h
   ·omega
  ·split
   ·exact Kx x i _ h
   ·omega
 ·omega
theorem iI{α:Type}(p:α->Bool):∀(l:List α) (i:Nat), -1<=fK p l i
 |[],_=>by unfold fK;omega
 |x::l,i=>by
  unfold fK;split
  ·omega
  ·exact iI p l (i+1)
theorem Ky(x:cA)(i:Int)(f:cD): -1<=pH x i f:=by
 unfold pH;split
 ·exact iI _ _ _
 ·omega
theorem P7(x:cA)(i j:Int): -1<=dI x i j:=by
 unfold dI;split
 ·simp only
  split
  ·split
   ·exact Ky x i _
   ·omega
  ·split
   ·exact Ky x i _
   ·omega
 ·omega
theorem LV{W:eE}{k:Nat}(hk:k<W.length)(rows:List (List Int)):total (W.set k rows)+W[k].length=total W+rows.length:=by
 unfold total;induction W generalizing k with
 |nil=>simp at hk
 |cons a W ih=>
  cases k with
  |zero=>simp;omega
  |succ k=>
   have:=ih (k:=k) wK
   simp at this ⊢
   omega
theorem LW{W:eE}{k:Nat}{u:Int}(rows:List (List Int))(h0:0<=u)(h:u<k):fQ (W.set k rows) u=fQ W u:=by
 unfold fQ;rw[jm,jm,List.getElem?_set_ne aB]
end Go.Proofs.YtibacilhkciihaaGreatDoor.ah
namespace Go.Proofs.YtibacilhkciihaaGreatDoor
open Go.RowKit
def gb(n:Nat):Array Value:=(List.replicate n (.slice none 0 0)).toArray
theorem AZ(n:Nat):madeCells (Value.slice none 0 0).cells (n*1)=gb n:=by
 apply Array.ext
 ·simp[madeCells,gb]
 ·intro i h1 h2
  simp[madeCells,gb,Value.cells,Nat.mod_one]
theorem P8{p:Prop}(h:p:=by
  have h:i.bytes*n<=1000*1000000:=Nat.mul_le_mul aB hn
  have:((i.bytes*n:Nat):Int)<=281474976710656:=aB
  rwa [Int.natCast_mul] at this):p:=h
theorem qj{P:Program}{t e:TypeId}{b:Nat}(ht:P.underlying t=some (.slice e))(hi:(P.info? e).map (fun i=>(i.zero,i.size,i.bytes))=some (some (.slice none 0 0),1,b))(hb:b<=1000)
  (n:Nat)(hn:n<=1000000)(w:World):
  (Instr.makeSlice t (.int .i64 (n:Int)) (.int .i64 (n:Int))).run P w=.ok (.slice (some ⟨w.heap.size,0,none⟩) n n) (w.alloc (.cells (gb n) e)):=by
 obtain⟨i,h1,h2,h3,h4⟩:=info_parts hi
 have hy:(i.bytes:Int)*(n:Int)<=281474976710656:=by
  exact P8
 have hr:=run_make (P:=P) w t e i (.slice none 0 0) ht h1 h2 .i64 .i64 (n:Int) (n:Int) aB aB hy aB;rw[h3,Int.toNat_natCast,AZ] at hr;exact hr
theorem Xo{p:Prop}(h:p:=by
  rw[List.length_replicate]
  refine⟨bp,.inr ⟨w.heap.size,n,gb n,rfl,Nat.zero_le _,heap_alloc_new w _,aH,xJ,by simp[gb],?_⟩⟩
  simp[gb]):p:=h
theorem vA(w:World)(n:Nat)(hn:n<=1000000):bU (w.heap.size<=·) (w.alloc (.cells (gb n) 42)) (.slice (some ⟨w.heap.size,0,none⟩) n n) (List.replicate n []):=by
 refine⟨fun b hb=>by simp[Value.ownBlock] at hb;omega,List.replicate n (.slice none 0 0),fun _=>0,?_,bp,fun j h1 h2=>?_⟩
 ·exact Xo
 ·simp only[List.getElem_replicate]
  exact gZ.nil _ _ _ _
theorem EX(l:List Int)(hl:Fit l)(v:Value)(i:Int)(most:Int)(S:Nat->Prop)(w:World)(hv:bq S w v l)(h3:1<=most)(h4:most<=1000000)(hi:0<=i):
  Calls Tryz.prog 16 #[v,.int .i64 i,.int .i64 most] w fun e w'=>∃z:Int,e=.returned (.int .i64 z)/\0<=z/\z<most/\w=w':=
 (OI l hl v i most S w hv h3 (Int.le_trans h4 aB) hi).mono fun _ _ h=>⟨_,h.1,(GQ l _ _ h3).1,(GQ l _ _ h3).2,h.2⟩
end Go.Proofs.YtibacilhkciihaaGreatDoor
namespace Go.Proofs.YtibacilhkciihaaGreatDoor.ah
def jc(f:cD):Prop:=cV f=true/\bZ f<=100
theorem Kz:∀(k f n:Nat),n<10 ^ (k+1)->xT f n<=k+1
 |_,0,_,_=>by unfold xT;omega
 |0,f+1,n,h=>by unfold xT;rw[if_pos lD];omega
 |k+1,f+1,n,h=>by
  unfold xT;split
  ·omega
  ·have:=Kz k f (n / 10) (by rw[Nat.div_lt_iff_lt_mul aB];rw[Nat.pow_succ] at h;omega)
   omega
theorem eF{n:Int}(h0: -1000000<n)(h1:n<1000000):dx n<=7:=by
 unfold dx;have:=Kz 5 40 n.natAbs lC;split<;>omega
theorem pT{n a b:Int}(h0:a<=n)(h1:n<=b):qA n a b=true:=by
 simp[qA,h0,h1]
theorem nC{lo hi a b:Int}(h0:a<=lo)(h1:lo<=hi)(h2:hi<=b):fJ lo hi a b=true:=by
 simp[fJ,h0,h1,h2]
theorem nD{s:Nm}(h:s.size<=12):dR s<=12:=by
 unfold dR;split<;>omega
theorem gE{s:Nm}(h:aY s=true):s.size<=12:=by
 unfold aY at h;simp only[pF,qZ] at h;omega
theorem P9{nm:Nm}{lo hi:Int}(hn:aY nm=true)(h:Ord lo hi):jc ⟨nm,nil,nil,2,lo,hi,[],[]⟩:=by
 obtain⟨h1,h2,h3⟩:=h;refine⟨?_,?_⟩
 ·have e:fJ lo hi (-1048576) 1048576=true:=nC aB h2 aB
  simp[cV,mg,lG,e,hn]
 ·have d1:=eF (n:=lo) aB aB
  have d2:=eF (n:=hi) aB aB;have es:=gE hn;simp[bZ,qH];omega
theorem Qa{nm o:Nm}{lo hi:Int}(hn:aY nm=true)(ho:o=nil\/aY o=true)(h:Ord lo hi):jc ⟨nm,o,nil,4,lo,hi,[],[]⟩:=by
 obtain⟨h1,h2,h3⟩:=h;have e:fJ lo hi (-1048576) 1048576=true:=nC aB h2 aB;have d1:=eF (n:=lo) aB aB;have d2:=eF (n:=hi) aB aB;have es:=gE hn
 have eo:dR o<=12:=by
  rcases ho with rfl|ho
  ·decide
  ·exact nD (gE ho)
 refine⟨?_,?_⟩
 ·rcases ho with rfl|ho
  ·simp[cV,mg,lG,e,hn]
  ·simp[cV,mg,lG,e,hn,ho]
 ·simp[bZ,qH];omega
theorem Ur{lo hi:Int}(h0:0<=lo)(h1:lo<=hi)(h2:hi<=10):jc (mG lo hi):=by
 have e:fJ lo hi 0 32=true:=nC h0 h1 aB;have d1:=eF (n:=lo) aB aB;have d2:=eF (n:=hi) aB aB;have en:aY oe=true:=fH
 have eo:aY oN=true:=fH
 have es:oe.size=5:=rfl;have e2:dR oN<=12:=fH
 refine⟨?_,?_⟩
 ·simp[cV,mg,lG,mG,e,en,eo]
 ·simp[bZ,mG,qH,es];omega
theorem acM{a:Int}(h0: -3<=a)(h1:a<=100):jc (pK a):=by
 have e:qA a (-1048576) 1048576=true:=pT aB aB;have d1:=eF (n:=a) aB aB;have en:aY SN=true:=fH
 have es:SN.size=2:=rfl;refine⟨?_,?_⟩
 ·simp[cV,mg,lG,pK,e,en]
 ·simp[bZ,pK,qH,es];omega
theorem Xp{nm o:Nm}{lo hi:Int}(hn:aY nm=true)(ho:aY o=true)(h0:0<=lo)(h1:lo<=hi)(h2:hi<=100):jc ⟨nm,o,nil,1,lo,hi,[],[]⟩:=by
 have e:fJ lo hi 0 65536=true:=nC h0 h1 aB;have d1:=eF (n:=lo) aB aB;have d2:=eF (n:=hi) aB aB;have es:=gE hn;have eo:dR o<=12:=nD (gE ho);refine⟨?_,?_⟩
 ·simp[cV,mg,lG,e,hn,ho]
 ·simp[bZ,qH];omega
theorem Qb{s:Nm}(hs:aY s=true):jc (oO s):=by
 have en:aY xY=true:=fH
 have eu:aY sx=true:=fH
 have e1:xY.size=4:=rfl;have e2:sx.size=2:=rfl;have es:=gE hs;refine⟨?_,?_⟩
 ·simp[cV,mg,lG,oO,en,eu,hs]
 ·simp[bZ,oO,qH,e1,e2];omega
theorem Qc{lo hi:Int}(h0:0<=lo)(h1:lo<=hi)(h2:hi<=20):jc (lH lo hi):=by
 have e:fJ lo hi 0 1048576=true:=nC h0 h1 aB;have d1:=eF (n:=lo) aB aB;have d2:=eF (n:=hi) aB aB;have en:aY uT=true:=fH
 have eu:aY sx=true:=fH
 have et:aY eG=true:=fH
 have e1:uT.size=4:=rfl;have e2:sx.size=2:=rfl;have e3:eG.size=5:=rfl;refine⟨?_,?_⟩
 ·simp[cV,mg,lG,lH,en,eu,et,e]
 ·simp[bZ,lH,qH,e1,e2,e3];omega
theorem Us{s:Nm}(hs:aY s=true):jc (fN s):=by
 have en:aY eG=true:=fH
 have e1:eG.size=5:=rfl;have es:=gE hs;refine⟨?_,?_⟩
 ·simp[cV,mg,lG,fN,en,hs]
 ·simp[bZ,fN,qH,e1];omega
theorem BM:∀(ws:List Nm) (gs:List Int),(∀w∈ws,w.size<=12)->(∀g∈gs,0<=g/\g<=5)->jo ws gs<=21*ws.length
 |[],gs,_,_=>by cases gs<;>simp[jo]
 |w::ws,[],_,_=>by simp[jo]
 |w::ws,g::gs,hw,hg=>by
  have h1:=hw w bp;have h2:=hg g bp;have h3:=BM ws gs (fun x hx=>hw x CQ) (fun x hx=>hg x CQ);have h4:=eF (n:=g) aB aB;simp[jo];omega
theorem acN{n:Nat}{gs:List Int}(h1:1<=n)(h2:n<=3)(hl:gs.length=n)(hg:∀g∈gs,0<=g/\g<=5)(hs:0<rq gs):jc (AO (fW.take n) gs):=by
 have hlen:(fW.take n).length=n:=by simp[fW];omega
 have hw:∀w∈fW.take n,aY w=true:=by
  intro w hw;have:=List.mem_of_mem_take hw;have e:fW.all aY=true:=fH
  exact List.all_eq_true.1 e w this
 have en:aY wO=true:=fH
 have e1:wO.size=3:=rfl;have hne:gs≠[]:=by intro h;rw[h] at hl;simp at hl;omega
 refine⟨?_,?_⟩
 ·have hp:jR (fW.take n) gs=true:=by
   have a1:gs.all (fun n=>qA n 0 1048576)=true:=List.all_eq_true.2 fun g hx=>pT (hg g hx).1 (by have:=(hg g hx).2;omega)
   have a2:qA (fW.take n).length 1 12=true:=pT aB aB
   have a3:(fW.take n).all aY=true:=List.all_eq_true.2 hw
   unfold jR
   rw[a1,a2,a3]
   simp[hs,hlen,hl]
  simp[cV,mg,lG,AO,en,hp]
 ·have hp:=BM (fW.take n) gs (fun w hx=>gE (hw w hx)) hg
  rw[hlen] at hp;have d:=eF (n:=(n:Int)) aB aB;simp only[bZ,AO,qH,e1,hlen];simp;omega
theorem dL.v{l:List cD}(h:dL l):∀f∈l,jc f:=by
 have e1:aY gT=true:=fH
 have e2:aY mX=true:=fH
 have e3:aY uU=true:=fH
 have e4:aY kG=true:=fH
 have e5:aY j9=true:=fH
 intro f hf;cases h with
 |none=>simp at hf
 |size lo hi h=>simp at hf;subst hf;exact P9 e1 h
 |tag n gs h1 h2 h3 h4 h5=>simp at hf;subst hf;exact acN h1 h2 h3 h4 h5
 |born lo hi lo' hi' h h'=>
  rcases (by simpa using hf:f=pI lo hi\/f=qI lo' hi') with rfl|rfl
  ·exact Qa e2 (.inl rfl) h
  ·exact Qa e3 (.inr e2) h'
 |state lo hi h1 h2 h3=>simp at hf;subst hf;exact Ur h1 h2 h3
 |low lo hi lo' hi' h h'=>
  rcases (by simpa using hf:f=AP lo hi\/f=pJ lo' hi') with rfl|rfl
  ·exact P9 e4 h
  ·exact P9 e5 h'
def Cop(f:cD):Prop:=f.kind=2\/f.kind=3\/f.kind=4\/f.kind=5\/f.kind=8
def fs(ks:List dZ)(i:Nat):List cD:=(iR ks i).aG
def Up(ks:List dZ)(i j u:Nat):Prop:=u<i/\∃j' g,j'<j/\(fs ks i)[j']?=some g/\g.name=sx/\g.kind=1/\g.of=bQ u
structure A1(ks:List dZ)(i j:Nat)(f:cD):Prop where
 val:jc f
 ref:f.kind=1->∃u,u<i/\f.of=bQ u
 time:f.kind=4->f.of=nil\/∃j' g,j'<j/\(fs ks i)[j']?=some g/\g.name=f.of/\g.kind=4
 life:f.kind=5->f.of=oN
 sum:f.kind=6->f.name=eG/\∃o j' g,i<o/\o<ks.length/\f.of=bQ o/\(fs ks o)[j']?=some g/\g.kind=7/\Up ks o j' i
 part:f.kind=7->f.name=uT/\f.of=eG/\f.up=sx/\∃u,Up ks i j u/\∃t,t∈fs ks u/\t.name=eG/\t.kind=6/\t.of=bQ i
 same:f.kind=8->f.up=sx/\∃u,Up ks i j u/\∃t,t∈fs ks u/\t.name=f.of/\Cop t
structure LX(ks:List dZ)(i:Nat):Prop where
 span:0<=(iR ks i).lo/\(iR ks i).lo<=(iR ks i).hi/\(iR ks i).hi<=20
 nodup:((fs ks i).map cD.name).Nodup
 head:∃f l,fs ks i=f::l/\f.kind=0/\∀g∈l,g.kind≠0
 lead:∀j f,(fs ks i)[j]?=some f->A1 ks i j f
def Ext(ks ks':List dZ):Prop:=ks.length<=ks'.length/\∀i,i<ks.length->∃l,fs ks' i=fs ks i++l
theorem Ext.get{ks ks':List dZ}(h:Ext ks ks'){i j:Nat}{f:cD}(hi:i<ks.length)(hf:(fs ks i)[j]?=some f):(fs ks' i)[j]?=some f:=by
 obtain⟨l,e⟩:=h.2 i hi;rw[e,List.getElem?_append_left (by have:=List.getElem?_eq_some_iff.1 hf;obtain⟨h,_⟩:=this;exact h)];exact hf
theorem Ext.mem{ks ks':List dZ}(h:Ext ks ks'){i:Nat}{f:cD}(hi:i<ks.length)(hf:f∈fs ks i):f∈fs ks' i:=by
 obtain⟨l,e⟩:=h.2 i hi;rw[e];exact List.mem_append_left _ hf
theorem Up.ext{ks ks':List dZ}(h:Ext ks ks'){i j u:Nat}(hi:i<ks.length)(hu:Up ks i j u):Up ks' i j u:=by
 obtain⟨h1,j',g,h2,h3,h4⟩:=hu;exact⟨h1,j',g,h2,h.get hi h3,h4⟩
theorem A1.ext{ks ks':List dZ}(h:Ext ks ks'){i j:Nat}{f:cD}(hi:i<ks.length)(hl:A1 ks i j f):A1 ks' i j f where
 val:=hl.val
 ref:=hl.ref
 time:=fun e=>by
  rcases hl.time e with h1|⟨j',g,h1,h2,h3⟩
  ·exact .inl h1
  ·exact .inr ⟨j',g,h1,h.get hi h2,h3⟩
 life:=hl.life
 sum:=fun e=>by
  obtain⟨h1,o,j',g,h2,h3,h4,h5,h6,h7⟩:=hl.sum e;exact⟨h1,o,j',g,h2,lg h3 h.1,h4,h.get h3 h5,h6,h7.ext h h3⟩
 part:=fun e=>by
  obtain⟨h1,h2,h3,u,h4,t,h5,h6⟩:=hl.part e;exact⟨h1,h2,h3,u,h4.ext h hi,t,h.mem J3 h5,h6⟩
 same:=fun e=>by
  obtain⟨h1,u,h4,t,h5,h6⟩:=hl.same e;exact⟨h1,u,h4.ext h hi,t,h.mem J3 h5,h6⟩
theorem xC{α:Type}{a b:List α}{j:Nat}{f:α}(h:(a++b)[j]?=some f):a[j]?=some f\/∃j',j=a.length+j'/\b[j']?=some f:=by
 by_cases hj:j<a.length
 ·rw[List.getElem?_append_left hj] at h;exact .inl h
 ·rw[List.getElem?_append_right aB] at h
  exact .inr ⟨j-a.length,aB,h⟩
theorem sG{f:cD}(h:cV f=true):0<=f.kind/\f.kind<=8:=by
 unfold cV lG at h;simp only[pF] at h;have h2:=h.2
 iterate 9
  split at h2;· omega
 exact absurd h2 bp
theorem ZT{f:cD}(h:cV f=true)(hc:sy f):Cop f:=by
 have h1:=sG h;obtain⟨c0,c1,c6,c7⟩:=hc;unfold Cop;omega
theorem pU{i:Nat}(h:i<3):aY (bQ i)=true:=by
 have e:∀i:Fin 3,aY (bQ i.1)=true:=fH
 exact e ⟨i,h⟩
theorem nE{ks:List dZ}{i j:Nat}{f:cD}(hv:jc f)(h:f.kind=0\/f.kind=2\/f.kind=3):A1 ks i j f where
 val:=hv
 ref:=fun e=>by omega
 time:=fun e=>by omega
 life:=fun e=>by omega
 sum:=fun e=>by omega
 part:=fun e=>by omega
 same:=fun e=>by omega
theorem dL.lead{ks:List dZ}{i:Nat}{l pre post:List cD}(h:dL l)(he:fs ks i=pre++(l++post)):∀(j:Nat) (f:cD),l[j]?=some f->A1 ks i (pre.length+j) f:=by
 intro j f hf;have hv:=h.v f (List.mem_of_getElem? hf);cases h with
 |none=>simp at hf
 |size lo hi h=>
  have:f=Br lo hi:=TA
  subst this;exact nE hv (.inr (.inl rfl))
 |tag n gs h1 h2 h3 h4 h5=>
  have:f=AO (fW.take n) gs:=TA
  subst this;exact nE hv (.inr (.inr rfl))
 |born lo hi lo' hi' h h'=>
  have e0:f.kind=4:=by
   rcases (by simpa using List.mem_of_getElem? hf:f=pI lo hi\/f=qI lo' hi') with rfl|rfl<;>rfl
  refine⟨hv,fun e=>by omega,fun _=>?_,fun e=>by omega,fun e=>by omega,fun e=>by omega,fun e=>by omega⟩
  match j,hf with
  |0,hf=>simp at hf;subst hf;exact .inl rfl
  |1,hf=>
   simp at hf;subst hf
   refine .inr ⟨pre.length,pI lo hi,aB,?_,rfl,rfl⟩
   rw[he,List.getElem?_append_right aB];simp
  |j+2,hf=>simp at hf
 |state lo hi h1 h2 h3=>
  have:f=mG lo hi:=TA
  subst this
  have e0:(mG lo hi).kind=5:=rfl
  exact⟨hv,fun e=>by omega,fun e=>by omega,fun _=>rfl,fun e=>by omega,fun e=>by omega,fun e=>by omega⟩
 |low lo hi lo' hi' h h'=>
  rcases (by simpa using List.mem_of_getElem? hf:f=AP lo hi\/f=pJ lo' hi') with rfl|rfl<;>exact nE hv (.inr (.inl rfl))
theorem dL.names{l:List cD}(h:dL l):l.map cD.name=[]\/l.map cD.name=[gT]\/l.map cD.name=[wO]\/l.map cD.name=[mX,uU]\/l.map cD.name=[oe]\/l.map cD.name=[kG,j9]:=by
 cases h<;>simp[Br,AO,pI,qI,mG,AP,pJ]
theorem dL.kind{l:List cD}(h:dL l):∀f∈l,f.kind≠0:=by
 intro f hf;cases h with
 |none=>simp at hf
 |size lo hi h=>simp at hf;subst hf;show (2:Int)≠0;decide
 |tag n gs h1 h2 h3 h4 h5=>simp at hf;subst hf;show (3:Int)≠0;decide
 |born lo hi lo' hi' h h'=>rcases (by simpa using hf:f=pI lo hi\/f=qI lo' hi') with rfl|rfl<;>(show (4:Int)≠0;decide)
 |state lo hi h1 h2 h3=>simp at hf;subst hf;show (5:Int)≠0;decide
 |low lo hi lo' hi' h h'=>rcases (by simpa using hf:f=AP lo hi\/f=pJ lo' hi') with rfl|rfl<;>(show (2:Int)≠0;decide)
def iW:List Nm:=[SN,sx,xY,uT,nBy]
def Ho:List Nm:=[gT,wO,mX,uU,oe,kG,j9]
theorem Ut:∀a∈iW,∀b∈Ho,a≠b:=fH
theorem Df{p q a:List cD}(hp:dL p)(hs:mY (a++p) q):((p++q).map cD.name).Nodup:=by
 rcases hs with rfl|⟨hq,hh⟩
 ·rw[List.append_nil]
  rcases hp.names with e|e|e|e|e|e<;>rw[e]<;>decide
 ·have hn:∀x,(q.map cD.name).head?=some x->x∉p.map cD.name:=by
   intro x hx hm
   rw[List.head?_map] at hx
   obtain⟨f,hf,rfl⟩:=Option.map_eq_some_iff.1 hx
   obtain⟨g,hg,e⟩:=List.mem_map.1 hm
   exact hh f hf g (List.mem_append_right _ hg) e
  rw[List.map_append];have hpn:=hp.names;have hqn:=hq.names;generalize p.map cD.name=P at*;generalize q.map cD.name=Q at*;rcases hpn with rfl|rfl|rfl|rfl|rfl|rfl<;>rcases hqn with rfl|rfl|rfl|rfl|rfl|rfl<;>first|decide|exact(hn _ rfl bp).elim
theorem dL.qA{l:List cD}(h:dL l):∀n∈l.map cD.name,n∈Ho:=by
 rcases h.names with e|e|e|e|e|e<;>rw[e]<;>simp[Ho]
structure acO(L:List dZ)(n:Nat)(h:List cD):Prop where
 lead:∀j f,h[j]?=some f->A1 L n j f
 head:∃f l,h=f::l/\f.kind=0/\∀g∈l,g.kind≠0
 names:h.map cD.name∈[[SN],[SN,sx],[SN,sx,xY],[SN,sx,uT],[SN,sx,xY,uT]]
theorem acP{ks ks':List dZ}{k:dZ}{h post:List cD}(ho:oh ks k.name ks' h)(hn:ks.length<=2)(hk:k.name=bQ ks.length)(hks:∀i,i<ks.length->(iR ks i).name=bQ i)
  (hv:∀(i j:Nat) (f:cD),i<ks.length->(fs ks i)[j]?=some f->jc f)(hx:Ext ks (ks'++[k]))(hl':ks'.length=ks.length)
  (hu:∀i,i<ks.length->fs (ks'++[k]) i=fs ks' i)(he:fs (ks'++[k]) ks.length=h++post):acO (ks'++[k]) ks.length h:=by
 obtain⟨a,h1,h2,⟨_,_,rfl⟩|⟨t,ht,lo,hi,s,p,h3,h4,h5,h6,hs,hp,rfl⟩⟩:=ho
 ·refine⟨fun j f hf=>?_,⟨_,_,rfl,rfl,bp⟩,by simp[pK]⟩
  have:f=pK a:=TA
  subst this;exact nE (acM h1 h2) (.inl rfl)
 ·rw[hks t ht] at he ⊢
  have hU:∀j,2<=j->Up (ks'++[k]) ks.length j t:=fun j hj=>⟨ht,1,uW (bQ t) lo hi,aB,by rw[he];rfl,rfl,rfl,rfl⟩
  have vS:∀f∈s,jc f/\f.kind=8/\∀j,2<=j->A1 (ks'++[k]) ks.length j f:=by
   intro f hf;rcases hs with rfl|⟨c,hc,hcc,rfl⟩
   ·simp at hf
   ·have hm:(iR ks t).aG[c]∈fs ks t:=gm hc
    have hv1:=hv t c _ ht (lE hc)
    have hnm:aY (iR ks t).aG[c].name=true:=by
     have:=hv1.1;unfold cV at this;simp only[pF] at this;exact this.1.1
    rw[mL.1 hf];have e0:(oO (iR ks t).aG[c].name).kind=8:=rfl;refine⟨Qb hnm,e0,fun j hj=>⟨Qb hnm,fun e=>by omega,fun e=>by omega,fun e=>by omega,fun e=>by omega,fun e=>by omega,fun _=>⟨rfl,t,hU j hj,_,hx.mem ht hm,rfl,ZT hv1.1 hcc⟩⟩⟩
  have vP:∀f∈p,jc f/\f.kind=7/\∀j,2<=j->A1 (ks'++[k]) ks.length j f:=by
   intro f hf;rcases hp with⟨rfl,_⟩|⟨lo',hi',q1,q2,q3,rfl,q4,q5⟩
   ·simp at hf
   ·rw[mL.1 hf]
    have e0:(lH lo' hi').kind=7:=rfl;refine⟨Qc q1 q2 q3,e0,fun j hj=>⟨Qc q1 q2 q3,fun e=>by omega,fun e=>by omega,fun e=>by omega,fun e=>by omega,fun _=>⟨rfl,rfl,rfl,t,hU j hj,fN k.name,?_,rfl,rfl,hk⟩,fun e=>by omega⟩⟩;rw[hu t ht,q5];show _∈((ks.set t (eC (iR ks t) k.name)).getD t J6).aG
    rw[jm,List.getElem?_set_self ht];simp[eC]
  have nS:s.map cD.name=[]\/s.map cD.name=[xY]:=by
   rcases hs with rfl|⟨c,hc,hcc,rfl⟩
   ·exact .inl rfl
   ·exact .inr rfl
  have nP:p.map cD.name=[]\/p.map cD.name=[uT]:=by
   rcases hp with⟨rfl,_⟩|⟨lo',hi',q1,q2,q3,rfl,q4,q5⟩
   ·exact .inl rfl
   ·exact .inr rfl
  have vO:jc (uW (bQ t) lo hi):=Xp fH (pU aB) h3 aB aB;refine⟨fun j f hf=>?_,⟨_,_,rfl,rfl,?_⟩,?_⟩
  ·match j,hf with
   |0,hf=>simp at hf;subst hf;exact nE (acM h1 h2) (.inl rfl)
   |1,hf=>
    simp at hf;subst hf
    have e0:(uW (bQ t) lo hi).kind=1:=rfl
    exact⟨vO,fun _=>⟨t,ht,rfl⟩,fun e=>by omega,fun e=>by omega,fun e=>by omega,fun e=>by omega,fun e=>by omega⟩
   |j+2,hf=>
    have hm:f∈s++p:=List.mem_of_getElem? GJ
    rcases List.mem_append.1 hm with hm|hm
    ·exact(vS f hm).2.2 _ aB
    ·exact(vP f hm).2.2 _ aB
  ·intro g hg
   rcases kD.1 hg with rfl|hg
   ·show (1:Int)≠0;decide
   ·rcases List.mem_append.1 hg with hm|hm
    ·have:=(vS g hm).2.1;omega
    ·have:=(vP g hm).2.1;omega
  ·rw[List.map_cons,List.map_cons,List.map_append]
   rcases nS with e1|e1<;>rcases nP with e2|e2<;>rw[e1,e2]<;>simp[pK,uW]
theorem Qd{ks ks':List dZ}{k:dZ}(hk:pM ks ks' k)(hks:∀i,i<ks.length->(iR ks i).name=bQ i)
  (hv:∀(i j:Nat) (f:cD),i<ks.length->(fs ks i)[j]?=some f->jc f)(hx:Ext ks (ks'++[k]))(hl':ks'.length=ks.length)
  (hu:∀i,i<ks.length->fs (ks'++[k]) i=fs ks' i)(he:iR (ks'++[k]) ks.length=k):LX (ks'++[k]) ks.length:=by
 obtain⟨hn,hkn,s1,s2,s3,h,y,p,q,ho,hy,hp,hq,hf⟩:=hk
 have Am:fs (ks'++[k]) ks.length=h++(y++(p++q)):=by
  show (iR (ks'++[k]) ks.length).aG=_
  rw[he,hf];simp
 have hG:=acP ho hn hkn hks hv hx hl' hu Am
 have nY:y.map cD.name=[]\/y.map cD.name=[nBy]:=by
  rcases hy with rfl|⟨_,rfl⟩
  ·exact .inl rfl
  ·exact .inr rfl
 have lY:∀f∈y,f.kind≠0/\∀j,A1 (ks'++[k]) ks.length j f:=by
  intro f hfy;rcases hy with rfl|⟨h1,rfl⟩
  ·simp at hfy
  ·have hh:ks=[]->False:=by intro e;rw[hl',e] at h1;exact absurd h1 bp
   have hpos:0<ks.length:=aB
   have hnm:(iR ks' 0).name=bQ 0:=by
    have h3:iR (ks'++[k]) 0=iR ks' 0:=by
     unfold iR;rw[jm,jm,List.getElem?_append_left aB]
    rcases ho with⟨_,_,_,⟨e,_⟩|⟨t,ht,_,_,_,pp,_,_,_,_,_,hpp,_⟩⟩
    ·exact(hh e).elim
    ·rcases hpp with⟨_,rfl⟩|⟨_,_,_,_,_,_,_,rfl⟩
     ·exact hks 0 hpos
     ·rw[iR,jm,List.getElem?_set]
      split
      ·rename_i e0
       subst e0;simp[eC,hks 0 hpos]
      ·rw[<-jm]
       exact hks 0 hpos
   rw[hnm] at hfy;rw[mL.1 hfy];have e0:(OP (bQ 0)).kind=1:=rfl;have vB:jc (OP (bQ 0)):=Xp fH (pU aB) aB aB aB;exact⟨aB,fun j=>⟨vB,fun _=>⟨0,hpos,rfl⟩,fun e=>by omega,fun e=>by omega,fun e=>by omega,fun e=>by omega,fun e=>by omega⟩⟩
 refine⟨by rw[he];exact⟨s1,s2,s3⟩,?_,?_,?_⟩
 ·rw[Am,<-List.append_assoc,List.map_append,List.nodup_append]
  refine⟨?_,Df hp hq,fun a ha b hb=>Ut a ?_ b ?_⟩
  ·rw[List.map_append]
   have:=hG.names;simp only[kD,List.mem_nil_iff,or_false] at this;rcases this with e|e|e|e|e<;>rcases nY with e2|e2<;>rw[e,e2]<;>decide
  ·rw[List.map_append] at ha
   have:=hG.names;simp only[kD,List.mem_nil_iff,or_false] at this;rcases List.mem_append.1 ha with ha|ha
   ·have hA:∀n,n∈h.map cD.name->n∈iW:=by
     rcases this with e|e|e|e|e<;>rw[e]<;>simp[iW]
    exact hA a ha
   ·rcases nY with e|e<;>rw[e] at ha<;>simp at ha;simp[ha,iW]
  ·rw[List.map_append] at hb
   rcases List.mem_append.1 hb with hb|hb
   ·exact hp.qA b hb
   ·exact hq.plain.qA b hb
 ·obtain⟨f,l,rfl,h1,h2⟩:=hG.head
  refine⟨f,l++(y++(p++q)),Am,h1,fun g hg=>?_⟩;simp only[List.mem_append] at hg;rcases hg with hg|hg|hg|hg
  ·exact h2 g hg
  ·exact(lY g hg).1
  ·exact hp.kind g hg
  ·exact hq.plain.kind g hg
 ·intro j f hj
  rw[Am] at hj;rcases xC hj with k1|⟨j1,e1,k1⟩
  ·exact hG.lead j f k1
  ·rcases xC k1 with k2|⟨j2,e2,k2⟩
   ·exact(lY f (List.mem_of_getElem? k2)).2 _
   ·rcases xC k2 with k3|⟨j3,e3,k3⟩
    ·have:=hp.lead (pre:=h++y) (post:=q) (by rw[Am];simp) j2 f k3
     rw[xP,Nat.add_assoc,<-e2,<-e1] at this;exact this
    ·have:=hq.plain.lead (pre:=h++y++p) (post:=[]) (by rw[Am];simp) j3 f k3
     rw[xP,xP,Nat.add_assoc,Nat.add_assoc,<-e3,<-e2,<-e1] at this;exact this
theorem Qe{ks ks':List dZ}{k:dZ}(hk:pM ks ks' k)(hi:∀i,i<ks.length->LX ks i)(hx:Ext ks (ks'++[k]))(hl':ks'.length=ks.length)
  (hks:∀i,i<ks.length->(iR ks i).name=bQ i)
  (he:iR (ks'++[k]) ks.length=k)(hu:∀i,i<ks.length->iR (ks'++[k]) i=iR ks' i):∀i,i<ks.length->LX (ks'++[k]) i:=by
 intro i hi0;have hI:=hi i hi0;obtain⟨hn,hkn,s1,s2,s3,h,y,p,q,ho,hy,hp,hq,hf⟩:=hk
 have keep:iR ks' i=iR ks i->LX (ks'++[k]) i:=by
  intro e
  have e2:fs (ks'++[k]) i=fs ks i:=by
   show (iR _ i).aG=_
   rw[hu i hi0,e];rfl
  refine⟨by rw[hu i hi0,e];exact hI.span,by rw[e2];exact hI.nodup,by rw[e2];exact hI.head,fun j f hj=>?_⟩;rw[e2] at hj;exact(hI.lead j f hj).ext hx hi0
 obtain⟨a,h1,h2,⟨_,rfl,_⟩|⟨t,ht,lo,hi',s,pp,h3,h4,h5,h6,hs,hpp,hh⟩⟩:=ho
 ·exact keep rfl
 ·rcases hpp with⟨_,rfl⟩|⟨lo',hi2,q1,q2,q3,hpa,q4,q5⟩
  ·exact keep rfl
  ·by_cases hit:i=t
   ·subst hit
    have e1:iR ks' i=eC (iR ks i) k.name:=by
     rw[q5,iR,jm,List.getElem?_set_self ht];rfl
    have e2:fs (ks'++[k]) i=fs ks i++[fN k.name]:=by
     show (iR _ i).aG=_
     rw[hu i hi0,e1];rfl
    refine⟨by rw[hu i hi0,e1];exact hI.span,?_,?_,fun j f hj=>?_⟩
    ·rw[e2,List.map_append,List.nodup_append]
     refine⟨hI.nodup,bp,fun x hx y hy=>?_⟩;obtain⟨g,hg,rfl⟩:=List.mem_map.1 hx;have:y=eG:=by simpa [fN] using hy
     subst this;exact q4 g hg
    ·obtain⟨f,l,e3,h7,h8⟩:=hI.head
     refine⟨f,l++[fN k.name],by rw[e2,e3];rfl,h7,fun g hg=>?_⟩;rcases List.mem_append.1 hg with hg|hg
     ·exact h8 g hg
     ·rw[mL.1 hg];show (6:Int)≠0;decide
    ·rw[e2] at hj
     rcases xC hj with k1|⟨j1,ej,k1⟩
     ·exact(hI.lead j f k1).ext hx hi0
     ·have:f=fN k.name:=by simpa using List.mem_of_getElem? k1
      subst this;have vT:jc (fN k.name):=Us (by rw[hkn];exact pU aB);have e0:(fN k.name).kind=6:=rfl
      have Am:fs (ks'++[k]) ks.length=pK a::uW (iR ks i).name lo hi'::(s++(lH lo' hi2::(y++(p++q)))):=by
       show (iR (ks'++[k]) ks.length).aG=_
       rw[he,hf,hh,hpa];simp
      refine⟨vT,fun e=>by omega,fun e=>by omega,fun e=>by omega,fun _=>⟨rfl,ks.length,s.length+2,lH lo' hi2,hi0,by simp[hl'],hkn,?_,rfl,hi0,1,uW (iR ks i).name lo hi',aB,by rw[Am];rfl,rfl,rfl,hks i hi0⟩,fun e=>by omega,fun e=>by omega⟩;rw[Am];simp
   ·exact keep (by
     rw[q5,iR,jm,List.getElem?_set_ne (fun e=>hit e.symm),<-jm];rfl)
theorem Af.inv{ks:List dZ}(h:Af ks):∀i,i<ks.length->LX ks i:=by
 induction h with
 |nil=>intro i hi;exact absurd hi bp
 |snoc ks ks' k hg hk ih=>
  have hgd:=hg.good
  have hl':=hk.le.2.2
  have hks:∀i,i<ks.length->(iR ks i).name=bQ i:=fun i hi=>by
   rw[iR,jm,lE hi];exact hgd.2.2 i hi
  have hu:∀i,i<ks.length->iR (ks'++[k]) i=iR ks' i:=fun i hi=>by
   unfold iR;rw[jm,jm,List.getElem?_append_left aB]
  have he:iR (ks'++[k]) ks.length=k:=by
   unfold iR;rw[jm,List.getElem?_append_right aB,hl',Nat.sub_self];rfl
  have hx:Ext ks (ks'++[k]):=⟨by simp[hl'],fun i hi=>by
   show ∃l,(iR _ i).aG=(iR ks i).aG++l
   rw[hu i hi];rcases hk.old with rfl|⟨t,ht,_,rfl⟩
   ·exact⟨[],bp⟩
   ·by_cases e:i=t
    ·subst e
     exact⟨[fN k.name],by rw[iR,jm,List.getElem?_set_self ht,iR,jm,lE ht];rfl⟩
    ·exact⟨[],by rw[iR,jm,List.getElem?_set_ne (fun h=>e h.symm),<-jm,List.append_nil];rfl⟩⟩
  intro i hi
  by_cases hin:i<ks.length
  ·exact Qe hk ih hx hl' hks he hu i hin
  ·have e:i=ks.length:=by simp[hl'] at hi;omega
   subst e;exact Qd hk hks (fun i j f hi hf=>((ih i hi).lead j f hf).val) hx hl' (fun i hi=>by show (iR _ i).aG=_;rw[hu i hi];rfl) he
end Go.Proofs.YtibacilhkciihaaGreatDoor.ah
namespace Go.Proofs.YtibacilhkciihaaGreatDoor.ah
theorem tZ(x:cA)(i:Nat):kd x i=iR x.aA i:=rfl
theorem nF{x:cA}{i j:Nat}{f:cD}(h:(fs x.aA i)[j]?=some f):fd x i j=f:=by
 show (fs x.aA i).getD j uS=f
 rw[jm,h];rfl
theorem nG{α:Type}{l:List α}{j:Nat}{f:α}(h:l[j]?=some f):j<l.length:=(List.getElem?_eq_some_iff.1 h).1
theorem pV{x:cA}{i j:Nat}(hi:i<x.aA.length)(hj:j<(fs x.aA i).length):hasB x i j=true:=by
 have hj':j<(kd x (i:Int)).aG.length:=hj;simp[hasB,hi,hj']
theorem jK{ks:List dZ}{i j:Nat}{f:cD}(hI:LX ks i)(hf:(fs ks i)[j]?=some f):bJ (iR ks i) f.name=j:=by
 obtain⟨hj,e⟩:=List.getElem?_eq_some_iff.1 hf
 have:=mh (p:=fun g:cD=>decide (g.name=f.name)) (l:=fs ks i) (i:=0) hj (fun j' h' hlt=>by
  have hp:=List.pairwise_iff_getElem.1 hI.nodup j' j (by simpa using h') mP hlt;simp only[List.getElem_map] at hp;rw[e] at hp;exact decide_eq_false hp) (by rw[e];simp)
 simpa [bJ,fs] using this
theorem LY{i j:Nat}(hi:i<3)(hj:j<3)(h:bQ i=bQ j):i=j:=by
 have e:∀a b:Fin 3,bQ a.1=bQ b.1->a=b:=fH
 exact congrArg Fin.val (e ⟨i,hi⟩ ⟨j,hj⟩ h)
theorem pW{x:cA}(hg:Af x.aA){u:Nat}(hu:u<x.aA.length):cL x (bQ u)=u:=by
 obtain⟨g1, -,g3⟩:=hg.good
 have:=mh (p:=fun k:dZ=>decide (k.name=bQ u)) (l:=x.aA) (i:=0) hu (fun j' h' hlt=>by
  rw[g3 j' h'];refine decide_eq_false fun e=>?_;have:=LY aB aB e;omega) (by rw[g3 u hu];simp)
 simpa [cL] using this
theorem KA{x:cA}(hg:Af x.aA){i u:Nat}{f:cD}(hu:u<i)(hi:i<x.aA.length)(h:f.of=bQ u):pH x i f=u:=by
 unfold pH;rw[h,pW hg aB,if_pos aB]
theorem KC{x:cA}(hg:Af x.aA){i j u:Nat}{f:cD}(hi:i<x.aA.length)(hf:(fs x.aA i)[j]?=some f)(hk:f.kind=1)(hu:u<i)(h:f.of=bQ u):dI x i j=u:=by
 unfold dI;rw[if_pos (pV hi (nG hf))];simp only[nF hf];rw[if_neg aB,if_pos hk];exact KA hg hu hi h
theorem Hp{x:cA}(hg:Af x.aA){i j u:Nat}{f:cD}(hi:i<x.aA.length)(hf:(fs x.aA i)[j]?=some f)(hk:f.kind=7\/f.kind=8)(he:f.up=sx)(hu:Up x.aA i j u):dI x i j=u:=by
 obtain⟨h1,j',g,h2,h3,h4,h5,h6⟩:=hu;have hI:=hg.inv i hi;have e1:bJ (kd x (i:Int)) sx=j':=by rw[tZ,<-h4];exact jK hI h3
 unfold dI;rw[if_pos (pV hi (nG hf))];simp only[nF hf];rw[if_pos hk,he,e1,if_pos ⟨pV hi (nG h3),aB,by rw[nF h3];exact h5⟩,nF h3];exact KA hg h1 hi h6
theorem Uu{x:cA}(h:Bt x):mH x:=by
 intro k j hk hj h1;have hf:(fs x.aA k)[j]?=some (fs x.aA k)[j]:=lE hj;have e:=nF hf;have hl:=(h.aA.inv k hk).lead j _ hf;rw[e] at h1;obtain⟨u,h2,h3⟩:=hl.ref h1;rw[KC h.aA hk hf h1 h2 h3];omega
theorem KE{x:cA}(hg:Af x.aA){i j u:Nat}{f t:cD}(hu:u<x.aA.length)(hup:dI x i j=u)(ht:t∈fs x.aA u)(hn:t.name=f.of):xU x i j f=some t:=by
 obtain⟨j',hj',e⟩:=List.getElem_of_mem ht;have hf:(fs x.aA u)[j']?=some t:=by rw[lE hj',e]
 have e1:bJ (kd x (u:Int)) f.of=j':=by rw[tZ,<-hn];exact jK (hg.inv u hu) hf
 unfold xU;rw[hup,if_neg aB,e1,if_pos (pV hu hj'),nF hf]
theorem filter_one{l:List Int}(hn:l.Nodup){p:Int->Bool}{a:Int}(ha:a∈l)(hp:∀b∈l,p b=true↔b=a):(l.filter p).length=1:=by
 have e:l.filter p=l.filter (fun b=>b==a):=List.filter_congr fun b hb=>by
  have:=hp b hb;by_cases e:b=a
  ·rw[this.2 e];simp[e]
  ·have h0:p b=false:=by
    cases hpb:p b
    ·rfl
    ·exact absurd (this.1 hpb) e
   rw[h0];simp[e]
 rw[e];clear e hp;induction l with
 |nil=>simp at ha
 |cons b l ih=>
  rw[List.nodup_cons] at hn
  rcases kD.1 ha with rfl|ha
  ·have:l.filter (fun b=>b==a)=[]:=List.filter_eq_nil_iff.2 fun c hc h=>by
    have:c=a:=lD
    subst this;exact hn.1 hc
   simp[this]
  ·have hb:¬(b==a)=true:=fun h=>by
    have:b=a:=lD
    subst this;exact hn.1 ha
   rw[List.filter_cons,if_neg hb];exact ih hn.2 ha
theorem LZ{x:cA}(hg:Af x.aA){i o j:Nat}{g:cD}(ho:o<x.aA.length)(hf:(fs x.aA o)[j]?=some g)(hk:g.kind=7)(hu:Up x.aA o j i):(sj x i o eG).length=1:=by
 have hI:=hg.inv o ho;have hj:=nG hf;have hl:=(hI.lead j g hf).part hk;unfold sj;refine filter_one (a:=(j:Int)) ?_ ?_ ?_
 ·rw[List.Nodup,List.pairwise_map]
  exact List.Pairwise.imp (fun h=>by omega) List.nodup_range
 ·exact List.mem_map.2 ⟨j,List.mem_range.2 hj,rfl⟩
 ·intro b hb
  obtain⟨j2,hj2,rfl⟩:=List.mem_map.1 hb;have hj2:j2<(fs x.aA o).length:=List.mem_range.1 hj2;have hf2:(fs x.aA o)[j2]?=some (fs x.aA o)[j2]:=lE hj2;constructor
  ·intro hp
   rw[nF hf2] at hp;simp only[pF,qZ] at hp;have h2:=((hI.lead j2 _ hf2).part hp.1.1).1;have e1:=jK hI hf2;have e2:=jK hI hf;rw[h2] at e1;rw[hl.1] at e2;rw[<-e1,<-e2]
  ·intro e
   have e:j2=j:=aB
   subst e;rw[nF hf,Hp hg ho hf (.inl hk) hl.2.2.1 hu];simp[hk,hl.2.1]
theorem Qf{x:cA}(h:Bt x){i j:Nat}(hi:i<x.aA.length)(hj:j<(kd x i).aG.length):nZ x i j=0:=by
 have hg:=h.aA;have hI:=hg.inv i hi;have hf:(fs x.aA i)[j]?=some (fs x.aA i)[j]:=lE hj;generalize (fs x.aA i)[j]=f at hf;have hl:=hI.lead j f hf;unfold nZ;rw[nF hf,tZ,jK hI hf,if_neg aB];unfold xV;simp only[nF hf];have hk:=sG hl.val.1;split
 ·rename_i e
  rw[if_neg];intro hp;obtain⟨f0,l,e1,e2,e3⟩:=hI.head;rw[e1] at hf;match j,hf,hp with
  |0,_,hp=>exact absurd hp bp
  |j+1,hf,_=>exact e3 f (List.mem_of_getElem? GJ) e
 split
 ·rename_i e
  obtain⟨u,h2,h3⟩:=hl.ref e;rw[KC hg hi hf e h2 h3,if_neg aB]
 split
 ·rename_i e
  rw[if_neg];rintro ⟨h1,h2⟩;rcases hl.time e with h3|⟨j',g,h3,h4,h5,h6⟩
  ·exact h1 h3
  ·rw[tZ,<-h5,jK hI h4,nF h4] at h2
   omega
 split
 ·rename_i e
  rw[hl.life e,if_pos];obtain⟨l,h1,h2⟩:=h.aP;simp[J7,h1,h2.1]
 split
 ·rename_i e
  obtain⟨h1,o,j',g,h2,h3,h4,h5,h6,h7⟩:=hl.sum e
  have e1:iP x i f=o:=by
   unfold iP;rw[h4,pW hg h3,if_pos ⟨e,aB⟩]
  have e4:iQ x i f=sj x i o f.name:=by unfold iQ;rw[e1,if_neg aB]
  rw[e1,if_neg aB,e4,h1,LZ hg h3 h5 h6 h7,if_neg bp]
 split
 ·rename_i e
  obtain⟨h1,h2,h3,u,h4,t,h5,h6,h7,h8⟩:=hl.part e;have e1:=Hp hg hi hf (.inl e) h3 h4;have e2:xU x i j f=some t:=KE hg J3 e1 h5 (by rw[h6,h2]);have e3:mW x i j f=t:=by unfold mW;rw[e2];rfl
  rw[e1,if_neg aB,if_neg];rintro (h9|h9|h9)
  ·rw[e2] at h9;exact absurd h9 bp
  ·rw[e3] at h9;exact h9 h7
  ·rw[e3,h8,pW hg hi] at h9;exact h9 rfl
 split
 ·rename_i e
  obtain⟨h3,u,h4,t,h5,h6,h7⟩:=hl.same e;have e1:=Hp hg hi hf (.inr e) h3 h4;have e2:xU x i j f=some t:=KE hg J3 e1 h5 h6;have e3:mW x i j f=t:=by unfold mW;rw[e2];rfl
  rw[e1,if_neg aB,if_neg];rintro (h9|h9)
  ·rw[e2] at h9;exact absurd h9 bp
  ·rw[e3] at h9;exact h9 h7
 rfl
theorem Uv{x:cA}(h:Bt x){i:Nat}(hi:i<x.aA.length):xW x i=0:=by
 have hg:=h.aA;have hn:=hg.good.2.2 i hi
 have e:(kd x (i:Int)).name=bQ i:=by
  rw[tZ,iR,jm,lE hi];exact hn
 obtain⟨f0,l,e1,e2,e3⟩:=(hg.inv i hi).head;have hf:(fs x.aA i)[0]?=some f0:=by rw[e1];rfl
 have h0:fd x i 0=f0:=nF (j:=0) hf;unfold xW;rw[e,pW hg hi,if_neg aB,h0,if_neg];rintro (h9|h9)
 ·have:=nG hf
  have h9:(fs x.aA i).length=0:=h9;omega
 ·exact h9 e2
def BN(l:List cD):Prop:=∀f∈l,((f.name=kG\/f.name=j9\/f.name=gT)->f.kind=2)/\(f.name=kG->∃g∈l,g.name=j9)
theorem ud{l:List cD}(h:∀n∈l.map cD.name,n∈eG::iW):BN l:=by
 have hd:∀a∈eG::iW,a≠kG/\a≠j9/\a≠gT:=fH
 intro f hf;obtain⟨h1,h2,h3⟩:=hd f.name (h _ (List.mem_map_of_mem hf));exact⟨fun e=>by rcases e with e|e|e<;>contradiction,fun e=>absurd e h1⟩
theorem ql{a b:List cD}(ha:BN a)(hb:BN b):BN (a++b):=by
 intro f hf;rcases List.mem_append.1 hf with hf|hf
 ·exact⟨(ha f hf).1,fun e=>by obtain⟨g,h1,h2⟩:=(ha f hf).2 e;exact⟨g,List.mem_append_left _ h1,h2⟩⟩
 ·exact⟨(hb f hf).1,fun e=>by obtain⟨g,h1,h2⟩:=(hb f hf).2 e;exact⟨g,List.mem_append_right _ h1,h2⟩⟩
theorem dL.num{l:List cD}(h:dL l):BN l:=by
 intro f hf;cases h with
 |none=>simp at hf
 |size lo hi h=>simp at hf;subst hf;exact⟨fun _=>rfl,fun e=>absurd e (by show gT≠kG;decide)⟩
 |tag n gs h1 h2 h3 h4 h5=>simp at hf;subst hf;exact⟨fun e=>absurd e (by show ¬(wO=kG\/wO=j9\/wO=gT);decide),fun e=>absurd e (by show wO≠kG;decide)⟩
 |born lo hi lo' hi' h h'=>
  rcases (by simpa using hf:f=pI lo hi\/f=qI lo' hi') with rfl|rfl
  ·exact⟨fun e=>absurd e (by show ¬(mX=kG\/mX=j9\/mX=gT);decide),fun e=>absurd e (by show mX≠kG;decide)⟩
  ·exact⟨fun e=>absurd e (by show ¬(uU=kG\/uU=j9\/uU=gT);decide),fun e=>absurd e (by show uU≠kG;decide)⟩
 |state lo hi h1 h2 h3=>simp at hf;subst hf;exact⟨fun e=>absurd e (by show ¬(oe=kG\/oe=j9\/oe=gT);decide),fun e=>absurd e (by show oe≠kG;decide)⟩
 |low lo hi lo' hi' h h'=>
  rcases (by simpa using hf:f=AP lo hi\/f=pJ lo' hi') with rfl|rfl
  ·exact⟨fun _=>rfl,fun _=>⟨pJ lo' hi',bp,rfl⟩⟩
  ·exact⟨fun _=>rfl,fun e=>absurd e (by show j9≠kG;decide)⟩
theorem og.far{k:dZ}{l:List cD}(h:og k l):∀n∈l.map cD.name,n∈eG::iW:=by
 rcases h with rfl|⟨c,hc,_,rfl⟩<;>simp[iW,oO]
theorem tR.far{ks:List dZ}{tgt:Nat}{nm:Nm}{ks':List dZ}{l:List cD}(h:tR ks tgt nm ks' l):∀n∈l.map cD.name,n∈eG::iW:=by
 rcases h with⟨rfl,_⟩|⟨lo',hi',q1,q2,q3,rfl,q4,q5⟩<;>simp[iW,lH]
theorem oh.far{ks:List dZ}{nm:Nm}{ks':List dZ}{l:List cD}(h:oh ks nm ks' l):∀n∈l.map cD.name,n∈eG::iW:=by
 obtain⟨a,h1,h2,⟨_,_,rfl⟩|⟨t,ht,lo,hi,s,p,h3,h4,h5,h6,hs,hp,rfl⟩⟩:=h
 ·simp[iW,pK]
 ·intro n hn
  simp only[List.map_cons,List.map_append,kD,List.mem_append] at hn;rcases hn with rfl|rfl|hn|hn
  ·simp[iW,pK]
  ·simp[iW,uW]
  ·exact hs.far n hn
  ·exact hp.far n hn
theorem Af.num{ks:List dZ}(h:Af ks):∀k∈ks,BN k.aG:=by
 induction h with
 |nil=>intro k hk;simp at hk
 |snoc ks ks' k hg hk ih=>
  intro y hy
  rcases List.mem_append.1 hy with hy|hy
  ·rcases hk.old with rfl|⟨t,ht,_,rfl⟩
   ·exact ih y hy
   ·rcases List.mem_or_eq_of_mem_set hy with hy|rfl
    ·exact ih y hy
    ·exact ql (ih _ (gm ht)) (ud (by simp[fN]))
  ·rw[mL.1 hy]
   obtain⟨_,_,_,_,_,a,y,p,q,ha,hy,hp,hq,hf⟩:=hk;rw[hf];refine ql (ql (ql (ud ha.far) (ud ?_)) hp.num) hq.plain.num;rcases hy with rfl|⟨_,rfl⟩<;>simp[iW,OP]
end Go.Proofs.YtibacilhkciihaaGreatDoor.ah
namespace Go.Proofs.YtibacilhkciihaaGreatDoor.ah
def ZU(c k:Nat):Nm:=[J9,Ka,CZ].getD c nil++(bQ k).extract 0 1
theorem ZV{c k c' k':Nat}(hc:c<3)(hk:k<3)(hc':c'<3)(hk':k'<3)(h:k≠k'):ZU c k≠ZU c' k':=by
 have e:∀c k c' k':Fin 3,k≠k'->ZU c.1 k.1≠ZU c'.1 k'.1:=fH
 exact e ⟨c,hc⟩ ⟨k,hk⟩ ⟨c',hc'⟩ ⟨k',hk'⟩ (fun h2=>h (congrArg Fin.val h2))
theorem ZW{c k:Nat}(hc:c<3)(hk:k<3):aY (ZU c k)=true:=by
 have e:∀c k:Fin 3,aY (ZU c.1 k.1)=true:=fH
 exact e ⟨c,hc⟩ ⟨k,hk⟩
structure ZX(ks:List dZ)(k:Nat)(r:tQ):Prop where
 lt:k<ks.length
 name:∃c,c<3/\r.name=ZU c k
 kind:r.kind=bQ k
 n: -200000<=r.n/\r.n<=200000
 a:r.a=nil\/(aY r.a=true/\∃f∈fs ks k,f.name=r.a/\f.kind=2)
 b:r.b=nil\/(aY r.b=true/\∃f∈fs ks k,f.name=r.b/\f.kind=2)
 ab:r.a≠r.b
theorem EY{l:List cD}{s:Nm}(h:0<=AQ l s):∃f∈l,f.name=s:=by
 rcases iy (fun f:cD=>decide (f.name=s)) l with⟨h1,_⟩|⟨k,hk,_,h2,_⟩
 ·have h:0<=fK (fun f:cD=>decide (f.name=s)) l 0:=h
  omega
 ·exact⟨l[k],gm hk,by simpa using h2⟩
theorem rulG{ks:List dZ}(hg:Af ks){k:Nat}(hk:k<ks.length){r:tQ}(h:xZ ks[k] r):ZX ks k r:=by
 obtain⟨g1, -,g3⟩:=hg.good;have eL:aY kG=true:=fH
 have eH:aY j9=true:=fH
 have eS:aY gT=true:=fH
 have hn:=g3 k hk;have hN:=hg.num _ (gm hk)
 have ef:fs ks k=ks[k].aG:=by
  show (iR ks k).aG=_
  rw[iR,jm,lE hk];rfl
 rw[<-ef] at hN;unfold xZ at h;rw[hn,<-ef] at h;rcases h with⟨n,n1,n2,h1,rfl⟩|⟨n,n1,n2,h1,h2⟩
 ·obtain⟨f,f1,f2⟩:=EY h1
  obtain⟨g,g1,g2⟩:=(hN f f1).2 f2;exact⟨hk,⟨0,aB,rfl⟩,rfl,⟨by show -200000<=n;omega,by show n<=200000;omega⟩,.inr ⟨eL,f,f1,f2,(hN f f1).1 (.inl f2)⟩,.inr ⟨eH,g,g1,g2,(hN g g1).1 (.inr (.inl g2))⟩,by show kG≠j9;decide⟩
 ·obtain⟨f,f1,f2⟩:=EY h1
  have fk:=(hN f f1).1 (.inr (.inr f2));rcases h2 with rfl|rfl
  ·exact⟨hk,⟨1,aB,rfl⟩,rfl,⟨n1,n2⟩,.inr ⟨eS,f,f1,f2,fk⟩,.inl rfl,by show gT≠nil;decide⟩
  ·exact⟨hk,⟨2,aB,rfl⟩,rfl,⟨n1,n2⟩,.inl rfl,.inr ⟨eS,f,f1,f2,fk⟩,by show nil≠gT;decide⟩
theorem Qg{ks:List dZ}(hg:Af ks){n:Nat}{rs:List tQ}(h:mo ks n rs):(∀r∈rs,∃k,k<n/\ZX ks k r)/\rs.Pairwise (fun r s=>r.name≠s.name):=by
 have hl:=hg.good.1;induction h with
 |nil=>exact⟨fun _ h=>absurd h bp,List.Pairwise.nil⟩
 |skip i rs h ih=>exact⟨fun r hr=>by obtain⟨k,h1,h2⟩:=ih.1 r hr;exact⟨k,aB,h2⟩,ih.2⟩
 |take i rs r hi h hr ih=>
  have hG:=rulG hg hi hr
  refine⟨fun r' hr'=>?_,?_⟩
  ·rcases List.mem_append.1 hr' with hr'|hr'
   ·obtain⟨k,h1,h2⟩:=ih.1 r' hr';exact⟨k,aB,h2⟩
   ·rw[mL.1 hr'];exact⟨i,aB,hG⟩
  ·rw[List.pairwise_append]
   refine⟨ih.2,List.pairwise_singleton _ _,fun a ha b hb=>?_⟩;rw[mL.1 hb];obtain⟨k,h1,h2⟩:=ih.1 a ha;obtain⟨c,h3,h4⟩:=h2.name;obtain⟨c',h5,h6⟩:=hG.name;rw[h4,h6];have:=h2.lt;exact ZV h3 aB h5 aB aB
theorem EZ{x:cA}(hg:Af x.aA){k:Nat}(hk:k<x.aA.length){s:Nm}(h:s=nil\/∃f∈fs x.aA k,f.name=s/\f.kind=2):sq x k s=(false,false):=by
 unfold sq;by_cases e:s=nil\/(k:Int)<0
 ·rw[if_pos e]
 ·rw[if_neg e]
  rcases h with h|⟨f,h1,h2,h3⟩
  ·exact absurd (.inl h) e
  ·obtain⟨j,hj,rfl⟩:=List.getElem_of_mem h1
   have hf:(fs x.aA k)[j]?=some (fs x.aA k)[j]:=lE hj;have e1:bJ (kd x (k:Int)) s=j:=by rw[tZ,<-h2];exact jK (hg.inv k hk) hf
   have e2:(fd x k j).kind=2:=by rw[nF hf];exact h3
   simp[e1,pV hk hj,e2]
theorem Uw{x:cA}(h:Bt x){i:Nat}(hi:i<x.aR.length):xX x i=0:=by
 obtain⟨n, -,h2, -⟩:=h.aR;obtain⟨h3,h4⟩:=Qg h.aA h2;have e:rl x i=x.aR[i]:=by rw[rl,jm,lE hi];rfl
 obtain⟨k, -,h5⟩:=h3 _ (gm hi);have ea:=EZ h.aA h5.lt (h5.a.imp id And.right);have eb:=EZ h.aA h5.lt (h5.b.imp id And.right);have ek:cL x x.aR[i].kind=k:=by rw[h5.kind];exact pW h.aA h5.lt
 have et:¬(x.aR.take i).any (fun s=>decide (s.name=x.aR[i].name))=true:=by
  intro ht;obtain⟨s,h6,h7⟩:=List.any_eq_true.1 ht;obtain⟨j,hj,rfl⟩:=List.getElem_of_mem h6;rw[List.getElem_take] at h7;rw[LB] at hj;exact List.pairwise_iff_getElem.1 h4 j i aB hi aB (by simpa using h7)
 unfold xX;simp only[e];rw[if_neg et,ek,ea,eb,if_neg bp,if_neg bp,if_neg h5.ab]
theorem qm{α:Type}{g:α->Nat}{b:Nat}:∀(l:List α),(∀x∈l,g x<=b)->bK g l<=b*l.length:=by
 have:∀(l:List α) (n:Nat),(∀x∈l,g x<=b)->l.foldl (fun n x=>n+g x) n<=n+b*l.length:=by
  intro l;induction l with
  |nil=>intro n _;simp
  |cons x l ih=>
   intro n h
   have h1:=h x bp
   have h2:=ih (n+g x) (fun y hy=>h y (by simp[hy]))
   simp only[List.foldl_cons,List.length_cons,Nat.mul_succ]
   omega
 intro l h;have:=this l 0 h;unfold bK;omega
theorem Hq{n:Nat}:∀s∈om.take n,aY s=true:=by
 have e:om.all aY=true:=fH
 intro s hs;exact List.all_eq_true.1 e s (List.mem_of_mem_take hs)
theorem Hr{l:DV}(h:OU l):r9 l=true/\jq l<=400:=by
 obtain⟨h1,n,h2,h3,h4,h5,h6⟩:=h;have hl:l.dw.length=n:=by rw[h4,LB];have:om.length=4:=rfl;omega
 have hs:∀s∈l.dw,aY s=true:=by rw[h4];exact Hq
 have eN:aY oN=true:=fH
 have e4:oN.size=4:=rfl;refine⟨?_,?_⟩
 ·have a1:qA l.dw.length 1 12=true:=pT aB aB
  have a2:l.dw.all aY=true:=List.all_eq_true.2 hs
  have a3:l.iw.all (xS l.dw.length)=true:=List.all_eq_true.2 fun m hm=>by
   obtain⟨m1,m2,m3,m4⟩:=h6 m hm;unfold xS;rw[pT m1 aB,pT m3 aB];rfl
  unfold r9;rw[h1,eN,a1,a2,a3];simp;omega
 ·have b1:bK (fun s:Nm=>1+s.size) l.dw<=13*l.dw.length:=qm _ fun s hs'=>by have:=gE (hs s hs');omega
  have b2:bK (fun m:Int×Int=>4+(1+dx m.1)+(1+dx m.2)+1) l.iw<=21*l.iw.length:=qm _ fun m hm=>by
   obtain⟨m1,m2,m3,m4⟩:=h6 m hm;have d1:=eF (n:=m.1) aB aB;have d2:=eF (n:=m.2) aB aB;omega
  have b3:=eF (n:=(l.dw.length:Int)) aB aB;unfold jq;rw[h1,e4];omega
theorem Hs{x:cA}(hg:Af x.aA){i:Nat}(hi:i<x.aA.length):oM x.aA[i]=true/\gQ x.aA[i]<=1200:=by
 obtain⟨g1,g2,g3⟩:=hg.good;have hI:=hg.inv i hi;have hn:=g3 i hi;have hl:=(g2 _ (gm hi)).len
 have hv:∀f∈x.aA[i].aG,jc f:=by
  intro f hf
  have ef:fs x.aA i=x.aA[i].aG:=by
   show (iR x.aA i).aG=_
   rw[iR,jm,lE hi];rfl
  rw[<-ef] at hf;obtain⟨j,hj,e⟩:=List.getElem_of_mem hf;exact(hI.lead j f (by rw[lE hj,e])).val
 have es:iR x.aA i=x.aA[i]:=by rw[iR,jm,lE hi];rfl
 obtain⟨s1,s2,s3⟩:=hI.span;rw[es] at s1 s2 s3;have hnm:=pU (i:=i) aB;refine⟨?_,?_⟩
 ·have a1:x.aA[i].aG.all cV=true:=List.all_eq_true.2 fun f hf=>(hv f hf).1
  unfold oM;rw[hn,hnm,nC s1 s2 aB,a1];simp[hl]
 ·have b1:bK bZ x.aA[i].aG<=100*x.aA[i].aG.length:=qm _ fun f hf=>(hv f hf).2
  have b2:=eF (n:=x.aA[i].lo) aB aB;have b3:=eF (n:=x.aA[i].hi) aB aB;have b4:=gE hnm;unfold gQ;rw[hn];omega
theorem Ht{ks:List dZ}{k:Nat}{r:tQ}(hl:ks.length<=3)(h:ZX ks k r):si r=true/\kM r<=100:=by
 obtain⟨lt,⟨c,hc,hn⟩,hk,⟨n1,n2⟩,ha,hb,hab⟩:=h;have e1:=ZW (c:=c) (k:=k) hc aB;have e2:=pU (i:=k) aB;have ea:(decide (r.a=nil)||aY r.a)=true:=by rcases ha with h|h<;>simp[h]
 have eb:(decide (r.b=nil)||aY r.b)=true:=by rcases hb with h|h<;>simp[h]
 have ec:(decide (r.a=nil)&&decide (r.b=nil))=false:=by
  by_cases h1:r.a=nil
  ·have:r.b≠nil:=fun h2=>hab (h1.trans h2.symm)
   simp[this]
  ·simp[h1]
 have fa:dR r.a<=12:=by
  rcases ha with h|h
  ·rw[h];decide
  ·exact nD (gE h.1)
 have fb:dR r.b<=12:=by
  rcases hb with h|h
  ·rw[h];decide
  ·exact nD (gE h.1)
 refine⟨?_,?_⟩
 ·unfold si
  rw[hn,hk,e1,e2,ea,eb,ec,pT aB aB];rfl
 ·have d:=eF (n:=r.n) aB aB
  have s1:=gE e1;have s2:=gE e2;unfold kM;rw[hn,hk];omega
theorem Ux{x:cA}(h:Bt x):okB x=true:=by
 obtain⟨g1,g2,g3⟩:=h.aA.good;obtain⟨n, -,h2,h5⟩:=h.aR;obtain⟨h3,h4⟩:=Qg h.aA h2;obtain⟨l,hl,hL⟩:=h.aP;have hv:=h.aL
 have vk:∀k∈x.aA,oM k=true/\gQ k<=1200:=fun k hk=>by
  obtain⟨i,hi,rfl⟩:=List.getElem_of_mem hk;exact Hs h.aA hi
 have vr:∀r∈x.aR,si r=true/\kM r<=100:=fun r hr=>by
  obtain⟨k,_,h6⟩:=h3 r hr;exact Ht g1 h6
 have vl:∀y∈x.aP,r9 y=true/\jq y<=400:=fun y hy=>by
  rw[hl] at hy;rw[mL.1 hy];exact Hr hL
 have hll:x.aP.length=1:=by rw[hl];rfl
 have c1:pG x=true:=by
  unfold pG;rw[pT hv.1 aB,List.all_eq_true.2 fun k hk=>(vk k hk).1,List.all_eq_true.2 fun k hk=>(vr k hk).1,List.all_eq_true.2 fun k hk=>(vl k hk).1];simp;omega
 have c2:¬8192<Eu x:=by
  have b1:=qm (g:=gQ) x.aA fun k hk=>(vk k hk).2;have b2:=qm (g:=jq) x.aP fun k hk=>(vl k hk).2;have b3:=qm (g:=kM) x.aR fun k hk=>(vr k hk).2;have b4:=eF (n:=x.aL) aB aB;unfold Eu;omega
 have c3:nX x=0:=by unfold nX;rw[if_pos c1,if_neg c2]
 have c4:(List.range x.aP.length).all (fun i=>decide (Ev x i=0))=true:=by
  rw[hll];have:Ev x 0=0:=by unfold Ev;rw[if_neg bp]
  simp[List.range_succ,this]
 have c5:((List.range x.aA.length).all fun i:Nat=>decide (xW x i=0)&&(List.range (kd x i).aG.length).all fun j:Nat=>decide (nZ x i j=0))=true:=by
  refine List.all_eq_true.2 fun i hi=>?_;have hi:=List.mem_range.1 hi;rw[Uv h hi];simp only[decide_true,Bool.true_and];refine List.all_eq_true.2 fun j hj=>?_;rw[Qf h hi (List.mem_range.1 hj)];rfl
 have c6:(List.range x.aR.length).all (fun i=>decide (xX x i=0))=true:=by
  refine List.all_eq_true.2 fun i hi=>?_;rw[Uw h (List.mem_range.1 hi)];rfl
 unfold okB;rw[c3,c4,c5,c6];rfl
end Go.Proofs.YtibacilhkciihaaGreatDoor.ah
