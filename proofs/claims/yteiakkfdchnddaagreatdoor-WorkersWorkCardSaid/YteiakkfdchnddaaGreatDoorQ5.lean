/- Part 5 of the walks and plain laws that the proof needs (packed). -/
import Derived.Deep.DeepCutAuto
import Derived.Deep.LoopGhost
import Derived.Test.YteiakkfdchnddaaGreatDoorQ1
import Derived.Test.YteiakkfdchnddaaGreatDoorQ2
import Derived.Test.YteiakkfdchnddaaGreatDoorQ3
import Derived.Test.YteiakkfdchnddaaGreatDoorQ4
set_option linter.all false
set_option maxRecDepth 100000
set_option maxHeartbeats 8000000
namespace Go.Proofs.YteiakkfdchnddaaGreatDoor
open Go.RowKit
def afu(r:ah.xX):Array Value:=#[.string r.name,.string r.kind,.string r.a,.string r.b,.int .i64 r.n]
def afv(b N:Nat)(k:ah.eZ)(w:World)(e:Ending)(w':World):Prop:=
 (∃r bd,e=.returned (.tuple #[.agg (afu r),.bool bd])/\(bd=true->ah.Bl k r))/\iB w' b (N+5)/\Turns (·=b) w w'
theorem tE{w:World}{g:Nat}{x0 x1 x2 x3 x4 bd:Value}{tmps:Array Value}(h:w.heap[g]?=some (.cells #[x0,x1,x2,x3,x4] 119 (0,0)))(hp:tmps[4]?=some (.pointer (some ⟨g,0,none⟩)))(hq:tmps[5]?=some bd):
  (results Tryz.f40 tmps).run Tryz.prog w=.ok (.tuple #[.agg #[x0,x1,x2,x3,x4],bd]) w:=by
 obtain⟨⟨h0,h1,h2,h3,h4⟩, -⟩:=mL h;simp[results,Tryz.results40,go_sem,hp,hq,h0,h1,h2,h3,h4]
theorem Tr(b N:Nat)(hN:N<=80000)(w:World)(hm:iB w b N)(k:ah.eZ)(uf:Value)(hf:dJ (fun x=>b<x) w uf k.aA)(hs:∀f∈k.aA,ah.gA f)(hn:1<=k.name.size):
  Calls Tryz.prog 40 #[.pointer (some ⟨b,0,none⟩),.agg (lU k uf).toArray] w (afv b N k w):=by
 obtain⟨au,cu,rfl,hsk, -, -⟩:=hf.form;obtain⟨nm,lo,hi,fs⟩:=k;simp only at hf hs hn hsk;have HM:=hid hm;have HS:=hid hs;have hbw:b<w.heap.size:=hm.lt;obtain⟨W1,hW1⟩:=aV ((w.alloc (.cells #[.string nm,.int .i64 lo,.int .i64 hi,.slice au fs.length cu] 95)).alloc (.cells #[.string {data:=#[]},.string {data:=#[]},.string {data:=#[]},.string {data:=#[]},.int .i64 0] 119));have bf:Hid (Below w.heap.size w W1):=hid (by rw[hW1];exact(ay.alloc aH _).alloc aZ _);have HK:Hid (W1.heap[w.heap.size]?=some (.cells #[.string nm,.int .i64 lo,.int .i64 hi,.slice au fs.length cu] 95 (0,0))):=hid (by rw[hW1];exact aY _ (aP w _ rfl));have HR:Hid (W1.heap[w.heap.size+1]?=some (.cells #[.string ah.nil,.string ah.nil,.string ah.nil,.string ah.nil,.int .i64 0] 119 (0,0))):=hid (by rw[hW1];exact aP _ _ aZ);have HF:Hid (dJ (fun x=>b<x) W1 (.slice au fs.length cu) fs):=hid (hf.keep (aB.below bf.out));have Gw:Hid (iB W1 b N):=hid (hm.keep (aB.below bf.out));obtain⟨⟨k0, -, -,k3⟩, -⟩:=aW HK.out;obtain⟨i1,hi1⟩:=aV (ah.DE fs ah.mw);obtain⟨i2,hi2⟩:=aV (ah.DE fs ah.iP);have H1:=hid (AO fs ah.mw (.slice au fs.length cu) (fun x=>b<x) W1 HF.out);have H2:=hid (AO fs ah.iP (.slice au fs.length cu) (fun x=>b<x) W1 HF.out);rw[<-hi1] at H1;rw[<-hi2] at H2;have HI1:=hid hi1;have HI2:=hid hi2;have hkb:w.heap.size≠b:=by omega
 have hrb:w.heap.size+1≠b:=by omega
 simp only[lU];clear hm hf hs hi1 hi2;go_enter Tryz.func40,Tryz.ntmps40;go_upto_region 1 with fail;rw[<-hW1];have HW:=hid hW1;clear hW1;go_wp2_with fail;refine H1.out.mono ?_;rintro e w' ⟨rfl,rfl⟩;go_wp2_with fail;refine H2.out.mono ?_;rintro e w' ⟨rfl,rfl⟩;go_upto_region 3 with fail;go_cut [21] from 15 to 21 (fun q wx=>∃bd:Bool,q=.bool bd/\Hid (bd=true->0<=i1)/\Hid (RG b W1 [] wx)/\Hid (iB wx b (N+1)))
 case first=>
  by_cases h10:0<=i1
  ·have HX:=hid h10
   go_wp2_with fail;refine(bn 3 aC aC b N aC _ Gw.out).mono ?_;rintro e W2 ⟨t,rfl,Hl,Ho,hm2,ht2, -⟩;have HG:=hid ((RG.refl b W1).take (by have:=bf.out.size;omega) ht2);have yc:=hid hm2;clear hm2 ht2;go_wp2;go_meet;case rel=>exact⟨_,rfl,hid (fun _=>HX.out),HG,yc⟩
  ·go_wp2
   go_meet;case rel=>exact⟨false,rfl,hid (fun h=>by cases h),hid (RG.refl b W1),hid (Gw.out.mono aC)⟩
 case rest=>
  obtain⟨bd,rfl,HBD,HG,yc⟩:=hcut;have py:Hid (b<wc.heap.size):=hid yc.out.lt;have c0:wc.cell? ⟨w.heap.size,0,none⟩=some (.string nm):=(aW (HG.out.block hkb HK.out)).1.1;have c3:wc.cell? ⟨w.heap.size,3,none⟩=some (.slice au fs.length cu):=(aW (HG.out.block hkb HK.out)).1.2.2.2;have hnm:(1:Int)<=nm.size:=by omega
  clear k0 k3;cases bd with
  |true=>
   have HX:=hid (HBD.out rfl)
   go_upto_region 4 with fail
   have dF:=hid (RG.start b wc)
   have fJ:=hid (yc.out.keep (aB.below (aG ay 1)))
   obtain⟨V0,rY⟩:=aV (wc.drewN 1)
   refine cE 9 (.quiet 0 (.quiet 1 (.quiet 2 (.quiet 3 (.quiet 4 (.quiet 5 (.quiet 6 (.one 7 (.quiet 8 .done))))))))) (RG b wc []) lN (by kernel_rfl) dF.out ?_
   rw[<-rY] at dF fJ ⊢
   clear rY
   refine eB ?_
   refine aL rfl ?_
   intro hne
   have hq:∀xh:Held (RG b wc []),xh.1.cell? ⟨w.heap.size,0,none⟩=some (.string nm):=fun xh=>RG.old xh hkb c0
   go_big_quiet_step (fail)
   refine fS ?_
   clear hne hq
   iterate 3 refine eB ?_
   refine aL rfl ?_
   intro hne
   have hq:∀xh:Held (RG b wc []),xh.1.cell? ⟨w.heap.size,0,none⟩=some (.string nm):=fun xh=>RG.old xh hkb c0
   go_big_quiet_step (fail)
   refine fS ?_
   clear hne hq
   refine eB ?_
   refine aM rfl ?_
   go_wp2_with fail
   refine(bn 8 aC aC b (N+1) aC _ fJ.out).mono ?_
   rintro e V1 ⟨t',rfl,jf,mD,hm',ht', -⟩
   have acD:=hid (dF.out.take py.out ht')
   have HMV1:=hid hm'
   clear hm' ht' dF fJ
   go_wp2
   refine aD (RG b wc []) (fun _ h=>h) acD.out ?_
   refine aL rfl ?_
   intro hne
   have hq:IntKind.i64.wrap (t'-2)=t'-2:=IntWalk.i64_in _ aC
   go_big_quiet_step (fail)
   refine fS ?_
   clear hne hq
   refine aT ?_
   try simp only[iW,iX]
   have hR:=acD.out.block hrb (HG.out.block hrb HR.out)
   have Ts:=XP hR (.string (ah.MN++nm.extract 0 1)) (.string nm) (.string ah.mw) (.string ah.lT) (.int .i64 (t'-2))
   obtain⟨⟨z0,z1,z2,z3,z4⟩,zf⟩:=mL hR
   have yg:=hid Ts
   clear hR Ts
   go_wp2
   refine bodyPost_ret (tE yg.out.1 rfl rfl) rfl ⟨⟨⟨ah.MN++nm.extract 0 1,nm,ah.mw,ah.lT,t'-2⟩,true,rfl,fun _=>.inl ⟨t'-2,by omega,by omega,by have:=HX.out;rw[HI1.out] at this;exact this,rfl⟩⟩,?_,?_⟩
   ·exact(HMV1.out.mono aC).keep (aB.gB yg.out.2 (fun x hx e=>by omega))
   ·exact(((Turns.aQ bf.out).trans HG.out.turn).trans acD.out.turn).into yg.out.2 (fun x hx e=>by omega)
  |false=>
   rcases ah.iE (fun f:ah.dh=>decide (f.name=ah.iP)) fs with⟨hc1, -⟩|⟨ci,hci,hc1, -, -⟩
   ·have qu:i2= -1:=HI2.out.trans hc1
    subst qu;clear hc1;have hR:=HG.out.block hrb HR.out;have Ts:=XP hR (.string ah.nil) (.string ah.nil) (.string ah.nil) (.string ah.nil) (.int .i64 0);obtain⟨⟨z0,z1,z2,z3,z4⟩,zf⟩:=mL hR;have yg:=hid Ts;clear hR Ts;go_wp2;refine bodyPost_ret (tE yg.out.1 rfl rfl) rfl ⟨⟨⟨ah.nil,ah.nil,ah.nil,ah.nil,0⟩,false,rfl,fun h=>by cases h⟩,?_,?_⟩
    ·exact(yc.out.mono aC).keep (aB.gB yg.out.2 (fun x hx e=>by omega))
    ·exact((Turns.aQ bf.out).trans HG.out.turn).into yg.out.2 (fun x hx e=>by omega)
   ·have qu:i2=(ci:Int):=HI2.out.trans hc1
    have HX:Hid (0<=i2):=hid aC;subst qu;clear hc1;have Tf:¬(ci:Int)<0:=by omega
    have hci1:(ci:Int)<fs.length:=by omega
    have hci2:(0:Int)<=ci:=by omega
    have hF:=HF.out.keep (aB.gB HG.out.turn (fun x hx e=>by have:b<x:=hx;omega));obtain⟨-,hbu,f0,f1,f2,f3,f4,f5,uw,ug,f6,f7,hfw,hfg⟩:=hF.at hci;obtain⟨aw,cw,rfl, -, -, -⟩:=hfw.form;obtain⟨ag,cg,rfl, -, -, -⟩:=hfg.form;obtain⟨ff,Ai⟩:=aV (fs[ci]);have jI:ah.gA ff:=by rw[Ai];exact HS.out _ (gY _)
    obtain⟨s1,s2,s3,s4⟩:=jI;rw[<-Ai] at f0 f1 f2 f3 f4 f5 f6 f7;clear hF Ai hfw hfg hbu;go_upto_region 8 with fail;obtain⟨W3,hW3⟩:=aV (wc.alloc (.cells #[.string ff.name,.string ff.of,.string ff.up,.int .i64 ff.kind,.int .i64 ff.lo,.int .i64 ff.hi,.slice aw ff.dc.length cw,.slice ag ff.bX.length cg] 92));have HT0:Hid (Turns (·=b) wc W3):=hid (by rw[hW3];exact(Turns.refl _ _).alloc _);have Na:Hid (W3.heap[wc.heap.size]?=some (.cells #[.string ff.name,.string ff.of,.string ff.up,.int .i64 ff.kind,.int .i64 ff.lo,.int .i64 ff.hi,.slice aw ff.dc.length cw,.slice ag ff.bX.length cg] 92 (0,0))):=hid (by rw[hW3];exact aP wc _ rfl);have XV:Hid (iB W3 b (N+1)):=hid (yc.out.keep (aB.gB (S:=fun x=>x<=b) (T:=fun x=>wc.heap.size<=x) (by rw[hW3];exact Turns.aQ (ay.alloc aH _)) (fun x hx e=>by have:=py.out;omega)));rw[<-hW3];clear hW3 f0 f1 f2 f3 f4 f5 f6 f7;go_wp2_with fail;refine(bn 2 aC aC b (N+1) aC _ XV.out).mono ?_;rintro e W4 ⟨t,rfl,Hl,Ho,R8,zq, -⟩;have Dd:Hid (Turns (·=b) wc W4):=hid (HT0.out.trans zq);have AQ:wc.heap.size≠b:=by have:=py.out;omega
    have WS:=(zq.block wc.heap.size AQ (aj Na.out)).trans Na.out;obtain⟨⟨-, -, -, -,g4,g5, -, -⟩, -⟩:=dY WS;have HR3:=hid ((Dd.out.block (w.heap.size+1) hrb (aj (HG.out.block hrb HR.out))).trans (HG.out.block hrb HR.out));have c0:W4.cell? ⟨w.heap.size,0,none⟩=some (.string nm):=(aW ((Dd.out.block w.heap.size hkb (aj (HG.out.block hkb HK.out))).trans (HG.out.block hkb HK.out))).1.1;have WT:=hid R8;have py:Hid (b<W4.heap.size):=hid WT.out.lt;clear R8 zq WS HT0 Na XV;by_cases ht0:t=0
    ·subst ht0
     go_upto_region 9 with fail;have dF:=hid (RG.start b W4);have fJ:=hid (WT.out.keep (aB.below (aG ay 1)));obtain⟨V0,rY⟩:=aV (W4.drewN 1);refine cE 11 (.quiet 0 (.quiet 1 (.quiet 2 (.quiet 3 (.quiet 4 (.quiet 5 (.quiet 6 (.quiet 7 (.quiet 8 (.one 9 (.quiet 10 .done))))))))))) (RG b W4 []) lN (by kernel_rfl) dF.out ?_;rw[<-rY] at dF fJ ⊢;clear rY;refine eB ?_;refine aL rfl ?_;intro hne;have hq:∀xh:Held (RG b W4 []),xh.1.cell? ⟨w.heap.size,0,none⟩=some (.string nm):=fun xh=>RG.old xh hkb c0;go_big_quiet_step (fail);refine fS ?_;clear hne hq
     iterate 3 refine eB ?_
     refine aL rfl ?_;intro hne;have hq:∀xh:Held (RG b W4 []),xh.1.cell? ⟨w.heap.size,0,none⟩=some (.string nm):=fun xh=>RG.old xh hkb c0;go_big_quiet_step (fail);refine fS ?_;clear hne hq;refine eB ?_;refine aL rfl ?_;intro hne;have hq:∀xh:Held (RG b W4 []),xh.1.cell? ⟨wc.heap.size,4,none⟩=some (.int .i64 ff.lo):=fun xh=>RG.old xh AQ g4;go_big_quiet_step (fail);refine fS ?_;clear hne hq;refine eB ?_;refine aM rfl ?_;go_wp2_with fail;refine(bn 12 aC aC b (N+2) aC _ fJ.out).mono ?_;rintro e V2 ⟨t',rfl,jf,mD,hm',ht', -⟩;have acE:=hid (dF.out.take py.out ht');have HMV2:=hid hm';clear hm' ht' dF fJ;go_wp2;refine aD (RG b W4 []) (fun _ h=>h) acE.out ?_;refine aL rfl ?_;intro hne;have hq:IntKind.i64.wrap (ff.lo+t')=ff.lo+t':=IntWalk.i64_in _ aC;go_big_quiet_step (fail);refine fS ?_;clear hne hq;refine aT ?_;try simp only[iW,iX]
     have hR:=acE.out.block hrb (HR3.out);have Ts:=XP hR (.string (ah.MO++nm.extract 0 1)) (.string nm) (.string ah.iP) (.string ah.nil) (.int .i64 (ff.lo+t'));obtain⟨⟨z0,z1,z2,z3,z4⟩,zf⟩:=mL hR;have yg:=hid Ts;clear hR Ts;go_wp2;refine bodyPost_ret (tE yg.out.1 rfl rfl) rfl ⟨⟨⟨ah.MO++nm.extract 0 1,nm,ah.iP,ah.nil,ff.lo+t'⟩,true,rfl,fun _=>.inr ⟨ff.lo+t',by omega,by omega,by have:=HX.out;rw[HI2.out] at this;exact this,.inl rfl⟩⟩,?_,?_⟩
     ·exact(HMV2.out.mono aC).keep (aB.gB yg.out.2 (fun x hx e=>by omega))
     ·exact(((Turns.aQ bf.out).trans HG.out.turn).trans ((Dd.out).trans acE.out.turn)).into yg.out.2 (fun x hx e=>by omega)
    ·have hb0:(t==0)=false:=GW ht0
     clear ht0;go_upto_region 10 with fail;have dF:=hid (RG.start b W4);have fJ:=hid (WT.out.keep (aB.below (aG ay 1)));obtain⟨V0,rY⟩:=aV (W4.drewN 1);refine cE 11 (.quiet 0 (.quiet 1 (.quiet 2 (.quiet 3 (.quiet 4 (.quiet 5 (.quiet 6 (.quiet 8 (.quiet 9 (.one 7 (.quiet 10 .done))))))))))) (RG b W4 []) lN (by kernel_rfl) dF.out ?_;rw[<-rY] at dF fJ ⊢;clear rY;refine eB ?_;refine aL rfl ?_;intro hne;have hq:∀xh:Held (RG b W4 []),xh.1.cell? ⟨w.heap.size,0,none⟩=some (.string nm):=fun xh=>RG.old xh hkb c0;go_big_quiet_step (fail);refine fS ?_;clear hne hq
     iterate 3 refine eB ?_
     refine aL rfl ?_;intro hne;have hq:∀xh:Held (RG b W4 []),xh.1.cell? ⟨w.heap.size,0,none⟩=some (.string nm):=fun xh=>RG.old xh hkb c0;go_big_quiet_step (fail);refine fS ?_;clear hne hq
     iterate 2 refine eB ?_
     refine aL rfl ?_;intro hne;have hq:∀xh:Held (RG b W4 []),xh.1.cell? ⟨wc.heap.size,5,none⟩=some (.int .i64 ff.hi):=fun xh=>RG.old xh AQ g5;go_big_quiet_step (fail);refine fS ?_;clear hne hq;refine aM rfl ?_;go_wp2_with fail;refine(bn 12 aC aC b (N+2) aC _ fJ.out).mono ?_;rintro e V3 ⟨t',rfl,jf,mD,hm',ht', -⟩;have Tt:=hid (dF.out.take py.out ht');have HMV3:=hid hm';clear hm' ht' dF fJ;go_wp2;refine aD (RG b W4 []) (fun _ h=>h) Tt.out ?_;refine aL rfl ?_;intro hne;have hq:IntKind.i64.wrap (t'-ff.hi)=t'-ff.hi:=IntWalk.i64_in _ aC;go_big_quiet_step (fail);refine fS ?_;clear hne hq;refine aT ?_;try simp only[iW,iX]
     have hR:=Tt.out.block hrb (HR3.out);have Ts:=XP hR (.string (ah.FE++nm.extract 0 1)) (.string nm) (.string ah.nil) (.string ah.iP) (.int .i64 (t'-ff.hi));obtain⟨⟨z0,z1,z2,z3,z4⟩,zf⟩:=mL hR;have yg:=hid Ts;clear hR Ts;go_wp2;refine bodyPost_ret (tE yg.out.1 rfl rfl) rfl ⟨⟨⟨ah.FE++nm.extract 0 1,nm,ah.nil,ah.iP,t'-ff.hi⟩,true,rfl,fun _=>.inr ⟨t'-ff.hi,by omega,by omega,by have:=HX.out;rw[HI2.out] at this;exact this,.inr rfl⟩⟩,?_,?_⟩
     ·exact(HMV3.out.mono aC).keep (aB.gB yg.out.2 (fun x hx e=>by omega))
     ·exact(((Turns.aQ bf.out).trans HG.out.turn).trans ((Dd.out).trans Tt.out.turn)).into yg.out.2 (fun x hx e=>by omega)
theorem Tryz.acF:jW Tryz.prog 23 95 4 56:=gE (z:=.agg #[.string ⟨#[]⟩,.int .i64 0,.int .i64 0,.slice none 0 0]) (by kernel_rfl) (by kernel_rfl) rfl aC aC
theorem Tryz.acG:jW Tryz.prog 24 116 3 64:=gE (z:=.agg #[.string ⟨#[]⟩,.slice none 0 0,.slice none 0 0]) (by kernel_rfl) (by kernel_rfl) rfl aC aC
theorem Tryz.acH:jW Tryz.prog 25 119 5 72:=gE (z:=.agg #[.string ⟨#[]⟩,.string ⟨#[]⟩,.string ⟨#[]⟩,.string ⟨#[]⟩,.int .i64 0]) (by kernel_rfl) (by kernel_rfl) rfl aC aC
theorem Tryz.Ks:jW Tryz.prog 114 117 2 16:=gE (z:=.agg #[.int .i64 0,.int .i64 0]) (by kernel_rfl) (by kernel_rfl) rfl aC aC
theorem gQ.take{α:Type}{R:World->Value->α->Prop}{S:Nat->Prop}{w:World}{a:Option Addr}{n c:Nat}{xs:List α}(h:gQ R S w (.slice a n c) xs){m:Nat}(hm:m<=xs.length):gQ R S w (.slice a m c) (xs.take m):=by
 obtain⟨a',c',he,h1,h2,h3,h4,h5⟩:=h;cases he;have hl:(xs.take m).length=m:=by rw[OD];omega
 refine⟨a,c,by rw[hl],fun h0=>h1 aC,by omega,h3,fun h0=>h4 aC,fun j hj=>?_⟩;obtain⟨u,hu,hr⟩:=h5 j aC;exact⟨u,hu,by rw[List.getElem_take];exact hr⟩
structure SS(b N X:Nat)(ver:Int)(w0:World)(vK:Value)(ks:List ah.eZ)(W:World):Prop where
 oR:iB W b N
 own:bC 4 DF (fun x=>b<x/\x≠X) (X+1) 95 W vK ks
 res:W.heap[w0.heap.size]?=some (.cells #[.int .i64 0,.slice none 0 0,.slice none 0 0,.slice none 0 0] 27 (0,0))
 below:BL w0 W
 rb:w0.heap.size<b
 bx:b<X
theorem SS.grow{b N N' X:Nat}{ver:Int}{w0 W W':World}{vK:Value}{ks:List ah.eZ}(h:SS b N X ver w0 vK ks W)(ht:Turns (·=b) W W')(hm:iB W' b N'):SS b N' X ver w0 vK ks W':=by
 have h1:=h.rb;have h2:=h.bx;have h3:=h.below.size;refine⟨hm,h.own.keep cT (aB.gB ht (fun x hx e=>?_)),?_,h.below.trans (ht.below h3 (fun x hx=>by omega)),h1,h2⟩
 ·rcases hx with hx|hx
  ·have:=hx.1;omega
  ·have:=(h.own.lt x hx).1;omega
 ·rw[ht.block _ Ow (aj h.res)];exact h.res
theorem X5{S:Nat->Prop}{w:World}{k:ah.eZ}{uf:Value}(h:dJ S w uf k.aA):∀u∈lU k uf,u.oneCell'=true:=by
 obtain⟨a,c,rfl, -⟩:=h.form;intro u hu;simp only[lU,kM,vE,or_false] at hu;rcases hu with rfl|rfl|rfl|rfl<;>rfl
structure OV(b N X Lf St q:Nat)(xc:Array Value)(Wo:World)(mv:List (Int×Int))(am:Option Addr)(cm:Nat)(W:World):Prop where
 oR:iB W b N
 turn:Turns (fun x=>x=b\/x=X) Wo W
 tV:W.heap[X]?=some (.cells xc 27 (0,0))
 sts:W.heap[St]?=some (.cells (ah.qq.map Value.string).toArray 9 (0,0))
 box:W.heap[Lf]?=some (.cells #[.string ah.qV,.slice (some ⟨St,0,none⟩) q 4,.slice am mv.length cm] 116 (0,0))
 own:bC 2 OE (fun _=>False) (Lf+1) 117 W (.slice am mv.length cm) mv
 rng:∀m∈mv,0<=m.1/\m.1<q/\0<=m.2/\m.2<q
 bl:b<X
 xl:X<Wo.heap.size
 sl:Wo.heap.size<=St
 ll:St<Lf
theorem OV.grow{b N N' X Lf St q:Nat}{xc:Array Value}{Wo W W':World}{mv:List (Int×Int)}{am:Option Addr}{cm:Nat}(h:OV b N X Lf St q xc Wo mv am cm W)(ht:Turns (·=b) W W')(hm:iB W' b N'):OV b N' X Lf St q xc Wo mv am cm W':=by
 have h1:=h.bl;have h2:=h.xl;have h3:=h.sl;have h4:=h.ll;refine⟨hm,h.turn.trans (ht.mono fun x _ e=>.inl e),?_,?_,?_,h.own.keep eA (aB.gB ht (fun x hx e=>?_)),h.rng,h1,h2,h3,h4⟩
 ·rw[ht.block _ Ow (aj h.tV)];exact h.tV
 ·rw[ht.block _ Ow (aj h.sts)];exact h.sts
 ·rw[ht.block _ Ow (aj h.box)];exact h.box
 ·rcases hx with hx|hx
  ·exact hx
  ·have:=(h.own.lt x hx).1;omega
theorem OV.app{b N X Lf St q:Nat}{xc:Array Value}{Wo W V:World}{mv:List (Int×Int)}{am a':Option Addr}{cm n' c':Nat}(h:OV b N X Lf St q xc Wo mv am cm W){m:Int×Int}(hr:0<=m.1/\m.1<q/\0<=m.2/\m.2<q)
  (how:bC 2 OE (fun _=>False) (Lf+1) 117 V (.slice a' n' c') (mv++[m]))(hn:n'=(mv++[m]).length)(ht:Turns (fun x=>some x=(Value.slice am mv.length cm).ownBlock) W V):
  OV b N X Lf St q xc Wo (mv++[m]) a' c' (V.setCell ⟨Lf,2,none⟩ (.slice a' n' c')):=by
 subst hn;have h1:=h.bl;have h2:=h.xl;have h3:=h.sl;have h4:=h.ll;have hw:=h.turn.size;have ho:∀x,some x=(Value.slice am mv.length cm).ownBlock->Lf<x:=fun x e=>by have:=(h.own.lt x e.symm).1;omega
 have e1:∀x,x≠Lf->(V.setCell ⟨Lf,2,none⟩ (.slice a' (mv++[m]).length c')).heap[x]?=V.heap[x]?:=fun x hx=>nZ _ _ _ _ hx;have e2:∀x,x<=Lf->x<W.heap.size->V.heap[x]?=W.heap[x]?:=fun x hx hl=>ht.block x (fun e=>by have:=ho x e;omega) hl;refine⟨(h.oR.keep (ht.keep (fun x hx e=>by have:=ho x e;omega))).keep (fun x hx _=>e1 x aC),?_,?_,?_,?_,?_,fun y hy=>?_,h1,h2,h3,h4⟩
 ·exact(h.turn.into ht (fun x hx e=>by have:=ho x e;omega)).setCell_new _ _ (by show _<=Lf;omega)
 ·exact(e1 _ aC).trans ((e2 _ aC (aj h.tV)).trans h.tV)
 ·exact(e1 _ aC).trans ((e2 _ aC (aj h.sts)).trans h.sts)
 ·exact heap_setCell_same V Lf 2 _ _ _ ((e2 _ aC (aj h.box)).trans h.box)
 ·exact how.keep eA (fun x hx _=>e1 x (by
   rcases hx with hx|hx
   ·exact hx.elim
   ·have:=(how.lt x hx).1;omega))
 ·rcases List.mem_append.1 hy with hy|hy
  ·exact h.rng y hy
  ·rw[nU.1 hy];exact hr
theorem AU{x y:Int}:∀u∈[Value.int .i64 x,.int .i64 y],u.oneCell'=true:=by
 intro u hu;simp only[kM,vE,or_false] at hu;rcases hu with rfl|rfl<;>rfl
theorem OW{w:World}{F:Nat}{x0 x1 x2:Value}{t:TypeId}(h:w.heap[F]?=some (.cells #[x0,x1,x2] t (0,0))):
  (w.cell? ⟨F,0,none⟩=some x0/\w.cell? ⟨F,1,none⟩=some x1/\w.cell? ⟨F,2,none⟩=some x2)/\∀i,w.frozen? ⟨F,i,none⟩=false:=
 ⟨⟨aF h 0,aF h 1,aF h 2⟩,bh h⟩
theorem X6{s:ah.Nm}{a1 a2:Option Addr}{n1 n2 c1 c2:Nat}:∀u∈[Value.string s,.slice a1 n1 c1,.slice a2 n2 c2],u.oneCell'=true:=by
 intro u hu;simp only[kM,vE,or_false] at hu;rcases hu with rfl|rfl|rfl<;>rfl
structure RS(b N X:Nat)(Wo W8:World)(ver vK vL:Value)(lf:ah.Gv)(ks:List ah.eZ)(j:Nat)(ar:Option Addr)(cr:Nat)(rs:List ah.xX)(W:World):Prop where
 oR:iB W b N
 turn:Turns (fun x=>x=b\/x=X) Wo W
 tV:W.heap[X]?=some (.cells #[ver,vK,vL,.slice ar rs.length cr] 27 (0,0))
 life:ux (fun x=>Wo.heap.size<=x/\x<W8.heap.size) W vL [lf]
 own:bC 5 XS (fun _=>False) W8.heap.size 119 W (.slice ar rs.length cr) rs
 ok:ah.ox ks j rs
 bl:b<X
 xl:X<Wo.heap.size
 wl:Wo.heap.size<=W8.heap.size
 wsz:W8.heap.size<=W.heap.size
theorem RS.grow{b N N' X:Nat}{Wo W8 W W':World}{ver vK vL:Value}{lf:ah.Gv}{ks:List ah.eZ}{j:Nat}{ar:Option Addr}{cr:Nat}{rs:List ah.xX}(h:RS b N X Wo W8 ver vK vL lf ks j ar cr rs W)(ht:Turns (·=b) W W')(hm:iB W' b N'):
  RS b N' X Wo W8 ver vK vL lf ks j ar cr rs W':=by
 have h1:=h.bl;have h2:=h.xl;have h3:=h.wl;refine⟨hm,h.turn.trans (ht.mono fun x _ e=>.inl e),?_,dO.keep dn h.life (aB.gB ht (fun x hx e=>by have:=hx.1;omega)),h.own.keep eT (aB.gB ht (fun x hx e=>?_)),h.ok,h1,h2,h3,Nat.le_trans h.wsz ht.size⟩
 ·rw[ht.block _ Ow (aj h.tV)];exact h.tV
 ·rcases hx with hx|hx
  ·exact hx
  ·have:=(h.own.lt x hx).1;omega
theorem RS.skip{b N X:Nat}{Wo W8 W:World}{ver vK vL:Value}{lf:ah.Gv}{ks:List ah.eZ}{j:Nat}{ar:Option Addr}{cr:Nat}{rs:List ah.xX}(h:RS b N X Wo W8 ver vK vL lf ks j ar cr rs W):RS b N X Wo W8 ver vK vL lf ks (j+1) ar cr rs W:=
 {h with ok:=.skip j rs h.ok}
theorem RS.app{b N X:Nat}{Wo W8 W V:World}{ver vK vL:Value}{lf:ah.Gv}{ks:List ah.eZ}{j:Nat}{ar a':Option Addr}{cr n' c':Nat}{rs:List ah.xX}(h:RS b N X Wo W8 ver vK vL lf ks j ar cr rs W)(hj:j<ks.length){r:ah.xX}(hr:ah.Bl ks[j] r)
  (how:bC 5 XS (fun _=>False) W8.heap.size 119 V (.slice a' n' c') (rs++[r]))(hn:n'=(rs++[r]).length)(ht:Turns (fun x=>some x=(Value.slice ar rs.length cr).ownBlock) W V):
  RS b N X Wo W8 ver vK vL lf ks (j+1) a' c' (rs++[r]) (V.setCell ⟨X,3,none⟩ (.slice a' n' c')):=by
 subst hn;have h1:=h.bl;have h2:=h.xl;have h3:=h.wl;have ho:∀x,some x=(Value.slice ar rs.length cr).ownBlock->W8.heap.size<=x:=fun x e=>(h.own.lt x e.symm).1;have e1:∀x,x≠X->(V.setCell ⟨X,3,none⟩ (.slice a' (rs++[r]).length c')).heap[x]?=V.heap[x]?:=fun x hx=>nZ _ _ _ _ hx;refine⟨(h.oR.keep (ht.keep (fun x hx e=>by have:=ho x e;omega))).keep (fun x hx _=>e1 x aC),?_,?_,?_,?_,.take j rs r hj h.ok hr,h1,h2,h3,?_⟩
 ·exact(h.turn.into ht (fun x hx e=>by have:=ho x e;omega)).trans (((Turns.refl (·=X) V).setCell ⟨X,3,none⟩ _ rfl).mono fun x _ e=>.inr e)
 ·exact heap_setCell_same V X 3 #[ver,vK,vL,.slice ar rs.length cr] _ _ ((ht.block X (fun e=>by have:=ho X e;omega) (aj h.tV)).trans h.tV)
 ·exact dO.keep dn (dO.keep dn h.life (ht.keep (fun x hx e=>by have:=ho x e;have:=hx.2;omega))) (fun x hx _=>e1 x (by have:=hx.1;omega))
 ·exact how.keep eT (fun x hx _=>e1 x (by
   rcases hx with hx|hx
   ·exact hx.elim
   ·have:=(how.lt x hx).1;omega))
 ·have:=ht.size;have:=h.wsz;simp only[World.size_setCell];omega
theorem X7{a b c d:ah.Nm}{n:Int}:∀u∈[Value.string a,.string b,.string c,.string d,.int .i64 n],u.oneCell'=true:=by
 intro u hu;simp only[kM,vE,or_false] at hu;rcases hu with rfl|rfl|rfl|rfl|rfl<;>rfl
theorem zB{w:World}{g:Nat}{x y z u:Value}{tmps:Array Value}(h:w.heap[g]?=some (.cells #[x,y,z,u] 27 (0,0)))(hp:tmps[2]?=some (.pointer (some ⟨g,0,none⟩))):
  (results Tryz.f17 tmps).run Tryz.prog w=.ok (.agg #[x,y,z,u]) w:=by
 obtain⟨⟨h0,h1,h2,h3⟩, -⟩:=aW h;simp[results,Tryz.results17,go_sem,hp,h0,h1,h2,h3]
def Nb(w:World)(e:Ending)(w':World):Prop:=∃v x,e=.returned v/\ah.zo x/\fA (w.heap.size<=·) w' v x/\BL w w'
theorem aaI{p:Prop}(h:p:=by
  rw[<-uV] at hLS
  have h6L:=(ht.block Lf (fun e=>by have:=(HL.out.own.lt Lf e.symm).1;omega) (aj HL.out.box)).trans HL.out.box
  obtain⟨⟨-, -,d2⟩,dz⟩:=OW h6L
  have dz2:=dz 2
  have eC:=hid hl2
  clear how ht hn h6L dz uV hl2 lz l2
  go_wp2
  go_meet
  case rel=>exact⟨mv2,a',c',hid (by have:=eC.out;omega),hLS⟩):p:=h
theorem aaJ{p:Prop}(h:p:=by
  have hb0:(t==0)=false:=GW ht0
  clear ht0
  go_wp2
  go_meet
  case rel=>exact⟨mv,am,cm,hid aC,HL⟩):p:=h
theorem Kt(L:List Int)(hL:Fit L)(v:Value)(w:World)(hv:cH mJ w v L):
  Calls Tryz.prog 17 #[v] w (Nb w):=by
 obtain⟨a,cap,rfl,hok,hcap,hmax⟩:=hv.form;have HV:=hid hv;have HL:=hid hL;clear hv hL;go_enter Tryz.func17,Tryz.ntmps17;go_upto_region 1 with fail;go_cut [3] from 3 to 19 (fun p wx=>∃b,p=.pointer (some ⟨b,0,none⟩)/\Hid (b=w.heap.size+1)/\Hid (iB wx b 0)/\Hid (wx.heap[w.heap.size]?=some (.cells #[.int .i64 0,.slice none 0 0,.slice none 0 0,.slice none 0 0] 27 (0,0)))/\Hid (wx.heap.size=w.heap.size+2)/\Hid (BL w wx))
 case first=>
  have HX:Hid (∀n,n<=L.length->iB ((w.alloc (.cells #[.int .i64 0,.slice none 0 0,.slice none 0 0,.slice none 0 0] 27)).alloc (.cells #[.slice a n cap,.int .i64 0] 111)) (w.heap.size+1) 0):=hid (fun n hn=>
   ⟨.slice a n cap,L.take n,0,aP _ _ aZ,(cH.mono (S':=fun x=>x<w.heap.size+1) (gQ.take HV.out hn) (fun x hx _=>by omega)).keep (aB.below ((ay.alloc aH _).alloc aZ _)),fun x hx=>HL.out x (List.mem_of_mem_take hx),by omega,by omega⟩)
  have HB:Hid (∀o,BL w ((w.alloc (.cells #[.int .i64 0,.slice none 0 0,.slice none 0 0,.slice none 0 0] 27)).alloc o)):=hid (fun o=>(ay.alloc aH _).alloc aZ _);by_cases h:(200:Int)<L.length
  ·go_wp2
   go_meet;case rel=>exact⟨_,rfl,hid rfl,hid (HX.out 200 aC),hid (aY _ (aP w _ rfl)),hid aZ,hid (HB.out _)⟩
  ·go_wp2
   go_meet;case rel=>exact⟨_,rfl,hid rfl,hid (HX.out L.length aH),hid (aY _ (aP w _ rfl)),hid aZ,hid (HB.out _)⟩
 case rest=>
  obtain⟨b,rfl,Hb,HM,HR,HZ,HB⟩:=hcut;go_wp2_with fail;refine(bn 4 aC aC b 0 aC _ HM.out).mono ?_;rintro e w1 ⟨ver,rfl,ahS,ahT,hm1,ht1, -⟩;have hbl:=hm1.lt;go_upto_region 3 with fail;have hbw:=Hb.out;obtain⟨W1,hW1⟩:=aV (w1.alloc (.cells #[.int .i64 ver,.slice none 0 0,.slice none 0 0,.slice none 0 0] 27));have lD:Hid (W1.heap[w1.heap.size]?=some (.cells #[.int .i64 ver,.slice none 0 0,.slice none 0 0,.slice none 0 0] 27 (0,0))):=hid (by rw[hW1];exact aP w1 _ rfl)
  have HSS:Hid (SS b 1 w1.heap.size ver w (.slice none 0 0) [] W1):=hid (by
   have h1:BL w w1:=HB.out.trans (ht1.below (by have:=HZ.out;omega) (fun x hx=>by omega))
   refine⟨?_,bC.nil _ _ _ _ _ _,?_,?_,by omega,hbl⟩
   ·rw[hW1];exact(hm1.mono aC).keep (aB.below (ay.alloc aH _))
   ·rw[hW1];refine aY _ ?_
    rw[ht1.block _ Ow (aj HR.out)];exact HR.out
   ·rw[hW1];exact h1.alloc h1.size _)
  rw[<-hW1];obtain⟨X,hX⟩:=aV w1.heap.size;rw[<-hX] at lD HSS ⊢;clear hW1 hX hm1 ht1 HM HR HZ HB hbw hbl;go_wp2_with fail;refine(bn 3 aC aC b 1 aC _ HSS.out.oR).mono ?_;rintro e w2 ⟨t,rfl,Hl,Ho,hm2,ht2, -⟩;have HSS2:=hid (HSS.out.grow ht2 hm2);have HBX2:Hid (w2.heap[X]?=some (.cells #[.int .i64 ver,.slice none 0 0,.slice none 0 0,.slice none 0 0] 27 (0,0))):=hid ((ht2.block X (by have:=HSS.out.bx;show ¬X=b;omega) (aj lD.out)).trans lD.out);clear hm2 ht2 HSS lD;obtain⟨n,hn⟩:∃n:Nat,1+t=(n:Int):=⟨(1+t).toNat,by omega⟩;have hn1:1<=n:=by omega
  have hn3:n<=3:=by omega
  have HN:=hid hn;clear hn;go_wp2;rw[HN.out];clear HN Hl Ho;go_loopw [6] (fun i wr=>∃ks aK cK,i=.int .i64 ((ks.length:Nat):Int)/\ks.length<=n/\Hid (ah.Db ks)/\Hid (SS b (2+100*ks.length) X ver w (.slice aK ks.length cK) ks wr)/\Hid (wr.heap[X]?=some (.cells #[.int .i64 ver,.slice aK ks.length cK,.slice none 0 0,.slice none 0 0] 27 (0,0)))) (fun i _=>n-(intOf i).toNat);case atStart=>exact⟨[],none,0,rfl,by simp,hid .nil,HSS2,HBX2⟩
  case round=>
   obtain⟨ks,aK,cK,rfl,hkn,HG,HS,HX⟩:=hrel;by_cases hlt:ks.length<n
   ·have X8:(ks.length:Int)<n:=by omega
    have hbX:=HS.out.bx;have hg:=HG.out.good;have Xa:Hid (∀k∈ks,k.aA.length<=1000000):=hid (fun k hk=>by have:=(hg.2.1 k hk).len;omega);obtain⟨⟨-,x1, -, -⟩, -⟩:=aW HX.out;clear hg;go_upto_region 7 with fail;refine cE 7 (.quiet 0 (.quiet 1 (.quiet 2 (.quiet 3 (.quiet 4 (.one 5 (.one 6 .done))))))) (jm X #[.int .i64 ver,.slice aK ks.length cK,.slice none 0 0,.slice none 0 0] 27) lN (by kernel_rfl) HX.out ?_;refine eB ?_;refine aL rfl ?_;intro hne;have hq:∀xh:Held (jm X #[.int .i64 ver,.slice aK ks.length cK,.slice none 0 0,.slice none 0 0] 27),xh.1.cell? ⟨X,1,none⟩=some (.slice aK ks.length cK):=fun xh=>aF xh.2 1;go_big_quiet_step (fail);refine fS ?_;clear hne hq
    iterate 2 refine eB ?_
    refine aL rfl ?_;intro hne;have hq:∀xh:Held (jm X #[.int .i64 ver,.slice aK ks.length cK,.slice none 0 0,.slice none 0 0] 27),xh.1.cell? ⟨X,1,none⟩=some (.slice aK ks.length cK):=fun xh=>aF xh.2 1;go_big_quiet_step (fail);refine fS ?_;clear hne hq;refine aM rfl ?_;go_wp2_with fail;refine(Sl b (2+100*ks.length) (X+1) aC _ (HS.out.oR.keep (aB.below (aG ay 1))) aK cK ks aC Xa.out (fun x=>b<x/\x≠X) (fun x hx=>hx.1) (HS.out.own.below cT (aG ay 1)) aC).mono ?_;rintro e w3 ⟨ks',k,uf,rfl,hk,hfl,ho,He,ht3⟩;simp only[lU];have hX3:w3.heap[X]?=some (.cells #[.int .i64 ver,.slice aK ks.length cK,.slice none 0 0,.slice none 0 0] 27 (0,0)):=(ht3.block X (fun h=>h.elim (fun h=>by omega) (fun h=>by have:=(HS.out.own.lt X h).1;omega)) (aj HX.out)).trans HX.out;have OX:=hid hX3;have HK:=hid hk;have ho:=ho.MI cT (S':=fun x=>b<x/\x≠X) (fun x _ hx=>hx.elim id (fun h=>by have h1:wr.heap.size<=x:=h;have h2:=HS.out.oR.lt;have h3:=aj HX.out;exact⟨by omega,by omega⟩));have HO:=hid ho
    have OU:Hid (dJ (fun x=>(b<x/\x≠X)/\some x≠(Value.slice aK ks.length cK).ownBlock) w3 uf k.aA):=hid (hfl.mono (fun x hx h=>by
     have h1:wr.heap.size<=x:=h;have h2:=HS.out.oR.lt;have h3:=aj HX.out;exact⟨⟨by omega,by omega⟩,fun e=>by have:=(HS.out.own.lt x e.symm).2;omega⟩))
    have Ku:Hid (SS b (2+100*ks.length+100) X ver w (.slice aK ks.length cK) ks' w3):=hid (by
     have h1:=HS.out.rb
     have h3:=HS.out.below.size
     refine⟨He,ho,?_,?_,h1,hbX⟩
     ·rw[ht3.block _ (fun h=>h.elim (fun h=>by omega) (fun h=>by have:=(HS.out.own.lt _ h).1;omega)) (by exact aj HS.out.res)];exact HS.out.res
     ·exact(aG HS.out.below 1).trans (ht3.below h3 (fun x hx=>hx.elim (fun h=>by omega) (fun h=>by have:=(HS.out.own.lt x h).1;omega))))
    have HLK:Hid (ks'.length=ks.length):=hid hk.le.2.2;clear hk hfl ho He ht3 hX3 x1;go_wp2;refine aD (jm X #[.int .i64 ver,.slice aK ks.length cK,.slice none 0 0,.slice none 0 0] 27) (fun _ h=>h) OX.out ?_;refine aM rfl ?_;go_wp2;refine aD (jm X #[.int .i64 ver,.slice aK ks.length cK,.slice none 0 0,.slice none 0 0] 27) (fun _ h=>h) (aY _ OX.out) ?_;refine aT ?_;try simp only[iW,iX]
    go_wp2_with (at_builtin;go_must (refine cF cT rfl _ _ rfl Tryz.acF rfl HO.out (us:=lU k uf) rfl rfl rfl k ⟨uf,rfl,OU.out⟩ (X5 OU.out) (by have:=HLK.out;omega) (by have:=aj OX.out;omega) ?_));intro v' w4 Tv zq hn4;obtain⟨a',c',hv', -⟩:=Tv.form;obtain⟨k4,hk4⟩:=aV (ks'++[k]);rw[<-hk4] at Tv hv';have hl4:k4.length=ks.length+1:=by rw[hk4];simp[HLK.out]
    subst hv';have h4X:=(zq.block X (fun e=>by have:=(HO.out.lt X e.symm).1;omega) (aj OX.out)).trans OX.out;have h5X:(w4.setCell ⟨X,1,none⟩ (.slice a' k4.length c')).heap[X]?=some (.cells #[.int .i64 ver,.slice a' k4.length c',.slice none 0 0,.slice none 0 0] 27 (0,0)):=heap_setCell_same _ X 1 _ _ _ h4X;have HX5:=hid h5X
    have yg:Hid (SS b (2+100*k4.length) X ver w (.slice a' k4.length c') k4 (w4.setCell ⟨X,1,none⟩ (.slice a' k4.length c'))):=hid (by
     have e1:∀x,x≠X->(w4.setCell ⟨X,1,none⟩ (.slice a' k4.length c')).heap[x]?=w4.heap[x]?:=fun x hx=>nZ _ _ _ _ hx
     have h1:=Ku.out.rb
     have h3:=Ku.out.below.size
     refine⟨?_,Tv.keep cT (fun x hx hlt=>e1 x ?_),?_,?_,h1,hbX⟩
     ·exact((Ku.out.oR.keep (zq.keep (fun x hx e=>by have:=(HO.out.lt x e.symm).1;omega))).keep (fun x hx _=>e1 x aC)).mono (by rw[hl4];omega)
     ·rcases hx with hx|hx
      ·exact hx.2
      ·have:=(Tv.lt x hx).1;omega
     ·exact(e1 _ aC).trans ((zq.block _ (fun e=>by have:=(HO.out.lt _ e.symm).1;omega) (aj Ku.out.res)).trans Ku.out.res)
     ·exact(Ku.out.below.trans (zq.below h3 (fun x hx=>by have:=(HO.out.lt x hx.symm).1;omega))).setCell (by show _<=X;omega) _)
    have Al:Hid (ah.Db k4):=hid (by rw[hk4];exact .snoc ks ks' k HG.out HK.out);obtain⟨⟨-,d1, -, -⟩,dz⟩:=aW h4X;have dz1:=dz 1;have jM:=hid hl4;clear Tv zq hn4 hk4 h4X h5X dz hl4 HO OU Ku HLK Xa HK HG HS HX;go_wp2;go_roundw;case rel=>exact⟨k4,a',c',by rw[jM.out];go_num,by have:=jM.out;omega,Al,yg,HX5⟩
    simp[intOf];omega
   ·have X8:¬(ks.length:Int)<n:=by omega
    have hkn2:n=ks.length:=by omega
    subst hkn2;clear hkn hlt X8;obtain⟨Wo,rfl⟩:=aV wr;have hbX:=HS.out.bx;have hXl:=aj HX.out;go_wp2_with fail;refine(bn 3 aC aC b (2+100*ks.length) aC _ (HS.out.oR.keep (aB.below (ay.alloc aH _)))).mono ?_;rintro e w5 ⟨t,rfl,Hl,Ho,Kk,Ag, -⟩;obtain⟨q0,rfl⟩:∃q0:Nat,t=(q0:Int):=⟨t.toNat,by omega⟩;obtain⟨xc,hxc⟩:=aV (#[.int .i64 ver,.slice aK ks.length cK,.slice none 0 0,.slice none 0 0]:Array Value);have FI:=hid hxc
    have hL0:∀q,q=2+q0->OV b (2+100*ks.length+1) X w5.heap.size Wo.heap.size q xc Wo [] none 0 (w5.alloc (.cells #[.string ah.qV,.slice (some ⟨Wo.heap.size,0,none⟩) q 4,.slice none 0 0] 116)):=fun q hq=>by
     have hst:w5.heap[Wo.heap.size]?=some (.cells (ah.qq.map Value.string).toArray 9 (0,0)):=(Ag.block Wo.heap.size (by have:=HS.out.oR.lt;show ¬_=b;omega) aZ).trans (JO Wo _);have Aj:Turns (·=b) Wo w5:=((Turns.refl _ Wo).alloc _).trans Ag;refine⟨Kk.keep (aB.below (ay.alloc aH _)),(Aj.mono fun x _ e=>.inl e).alloc _,aY _ ?_,aY _ hst,aP _ _ rfl,bC.nil _ _ _ _ _ _,fun _ h=>absurd h aZ,hbX,hXl,aH,aj hst⟩;rw[Aj.block X (by show ¬X=b;omega) hXl,FI.out];exact HX.out
    have HL0:=hid hL0;clear Kk Ag hL0 hxc;go_upto_region 10 with fail;have uE:2<=2+q0:=by omega
    have MJ:2+q0<=4:=by omega
    have HLf:=hid (HL0.out (2+q0) rfl);generalize 2+q0=q at*;clear HL0 Hl Ho;obtain⟨Lf,hLf⟩:=aV w5.heap.size;rw[<-hLf] at HLf ⊢;clear hLf;go_wp2;go_loopw [9] (fun i wr=>∃mv am cm,i=.int .i64 ((mv.length:Nat):Int)/\mv.length+1<=q/\Hid (OV b (2+100*ks.length+1) X Lf Wo.heap.size q xc Wo mv am cm wr)) (fun i _=>q-(intOf i).toNat);case atStart=>exact⟨[],none,0,rfl,by simp;omega,HLf⟩
    case round=>
     obtain⟨mv,am,cm,rfl,hmq,HL⟩:=hrel;by_cases hlt2:mv.length+1<q
     ·have hlt3:(mv.length:Int)+1<q:=by omega
      have acI:(mv.length:Int)<q:=by omega
      obtain⟨⟨-, -,l2⟩,lz⟩:=OW HL.out.box;go_wp2_with (at_builtin;go_must (refine cF eA rfl _ _ rfl Tryz.Ks rfl HL.out.own (us:=[.int .i64 (mv.length:Int),.int .i64 ((mv.length:Int)+1)]) rfl rfl rfl ((mv.length:Int),(mv.length:Int)+1) rfl AU aC ab8 ?_));intro v' w6 how ht hn;obtain⟨mv2,uV⟩:=aV (mv++[((mv.length:Int),(mv.length:Int)+1)]);have hl2:mv2.length=mv.length+1:=by rw[uV];simp
      obtain⟨a',c',hv', -⟩:=how.form;rw[<-uV] at hv';subst hv';have hLS:=hid (OV.app HL.out (m:=((mv.length:Int),(mv.length:Int)+1)) ⟨by simp,acI,by simp;omega,hlt3⟩ how (by rw[<-uV]) ht);rw[<-uV] at hLS;have h6L:=(ht.block Lf (fun e=>by have:=(HL.out.own.lt Lf e.symm).1;omega) (aj HL.out.box)).trans HL.out.box;obtain⟨⟨-, -,d2⟩,dz⟩:=OW h6L;have dz2:=dz 2;have eC:=hid hl2;clear how ht hn h6L dz uV hl2 lz l2;go_wp2;go_roundw;case rel=>exact⟨mv2,a',c',by rw[eC.out];go_num,by have:=eC.out;omega,hLS⟩
      simp[intOf];omega
     ·have hlt3:¬(mv.length:Int)+1<q:=by omega
      have hml:mv.length<=3:=by omega
      clear hlt2 hmq;go_wp2_with fail;refine(bn 2 aC aC b (2+100*ks.length+1) aC _ HL.out.oR).mono ?_;rintro e W7 ⟨t,rfl,Hl,Ho,OG,rI, -⟩;have HL:=hid (HL.out.grow rI OG);clear OG rI;go_upto_if 65 with fail;go_cut [] from 66 to 71 (fun wx=>∃mv am cm,Hid (mv.length<=4)/\Hid (OV b (2+100*ks.length+2) X Lf Wo.heap.size q xc Wo mv am cm wx))
      case first=>
       by_cases ht0:t=0
       ·subst ht0
        obtain⟨⟨-, -,l2⟩,lz⟩:=OW HL.out.box;go_wp2_with (at_builtin;go_must (refine cF eA rfl _ _ rfl Tryz.Ks rfl HL.out.own (us:=[.int .i64 1,.int .i64 0]) rfl rfl rfl (1,0) rfl AU aC ab8 ?_));intro v' w6 how ht hn;obtain⟨mv2,uV⟩:=aV (mv++[(1,0)]);have hl2:mv2.length=mv.length+1:=by rw[uV];simp
        obtain⟨a',c',hv', -⟩:=how.form;rw[<-uV] at hv';subst hv';have hLS:=hid (OV.app HL.out (m:=(1,0)) ⟨by simp,by simp;omega,by simp,by simp;omega⟩ how (by rw[<-uV]) ht);exact aaI
       ·exact aaJ
      case rest=>
       clear HL hml;obtain⟨mv,am,cm,Hml,HL⟩:=hcut;have hml:=Hml.out;go_wp2_with fail;refine(bn 3 aC aC b (2+100*ks.length+2) aC _ HL.out.oR).mono ?_;rintro e W7 ⟨t,rfl,Hl,Ho,OG,rI, -⟩;have HL:=hid (HL.out.grow rI OG);clear OG rI;go_upto_if 74 with fail;go_cut [] from 75 to 83 (fun wx=>∃mv am cm,Hid (mv.length<=5)/\Hid (OV b (2+100*ks.length+3) X Lf Wo.heap.size q xc Wo mv am cm wx))
       case first=>
        by_cases ht0:t=0
        ·subst ht0
         obtain⟨⟨-, -,l2⟩,lz⟩:=OW HL.out.box;go_wp2_with (at_builtin;go_must (refine cF eA rfl _ _ rfl Tryz.Ks rfl HL.out.own (us:=[.int .i64 0,.int .i64 ((q:Int)-1)]) rfl rfl rfl (0,(q:Int)-1) rfl AU aC ab8 ?_));intro v' w6 how ht hn;obtain⟨mv2,uV⟩:=aV (mv++[(0,(q:Int)-1)]);have hl2:mv2.length=mv.length+1:=by rw[uV];simp
         obtain⟨a',c',hv', -⟩:=how.form;rw[<-uV] at hv';subst hv';have hLS:=hid (OV.app HL.out (m:=(0,(q:Int)-1)) ⟨by show (0:Int)<=0;omega,by show (0:Int)<q;omega,by show (0:Int)<=(q:Int)-1;omega,by show (q:Int)-1<q;omega⟩ how (by rw[<-uV]) ht);exact aaI
        ·exact aaJ
       case rest=>
        clear HL hml Hml;obtain⟨mv,am,cm,Hml,HL⟩:=hcut;obtain⟨⟨l0,l1,l2⟩, -⟩:=OW HL.out.box;have Rb:=HL.out.tV;rw[FI.out] at Rb;obtain⟨⟨x0,x1,x2,x3⟩,xz⟩:=aW Rb;obtain⟨lf,hlf⟩:=aV (⟨ah.qV,ah.qq.take q,mv⟩:ah.Gv)
        have hLV:acr (fun x=>Wo.heap.size<=x/\some x≠(Value.slice none 0 0).ownBlock) wc [.string ah.qV,.slice (some ⟨Wo.heap.size,0,none⟩) q 4,.slice am mv.length cm] lf:=by
         rw[hlf];refine⟨_,_,rfl,Eh HL.out.sts ⟨aH,by simp[Value.ownBlock]⟩ MJ rfl qg,HL.out.own.sl eA (fun x _ h=>h.elim) (fun x hx=>⟨?_,by simp[Value.ownBlock]⟩)⟩;have h1:=(HL.out.own.lt x hx).1;have h2:=HL.out.ll;omega
        have HLV:=hid hLV;have HLF:=hid hlf;clear hLV hlf Rb xz;go_wp2_with (at_builtin;go_must (refine cF (v:=.slice none 0 0) (S:=fun x=>Wo.heap.size<=x) (B:=Wo.heap.size) dn rfl _ _ rfl Tryz.acG rfl (bC.nil _ _ _ _ _ _) (us:=[.string ah.qV,.slice (some ⟨Wo.heap.size,0,none⟩) q 4,.slice am mv.length cm]) rfl rfl rfl lf HLV.out X6 aZ (by have:=aj HL.out.sts;omega) ?_));intro v' w6 how ht hn;obtain⟨a',c',hv', -⟩:=how.form;have hv2:v'=.slice a' 1 c':=hv';clear hv';subst hv2;have h6X:=(ht.block X (by simp[Value.ownBlock]) (aj HL.out.tV)).trans HL.out.tV;rw[FI.out] at h6X;obtain⟨⟨-, -,d2, -⟩,dz⟩:=aW h6X;have dz2:=dz 2;obtain⟨W8,X4⟩:=aV (w6.setCell ⟨X,2,none⟩ (.slice a' 1 c'));have h8X:W8.heap[X]?=some (.cells #[.int .i64 ver,.slice aK ks.length cK,.slice a' 1 c',.slice none 0 0] 27 (0,0)):=by rw[X4];exact heap_setCell_same w6 X 2 _ _ _ h6X
        have h8e:∀x,x≠X->W8.heap[x]?=w6.heap[x]?:=fun x hx=>by rw[X4];exact nZ _ _ _ _ hx
        have h8m:iB W8 b (2+100*ks.length+3):=(HL.out.oR.keep (ht.keep (fun x _ e=>by simp[Value.ownBlock] at e))).keep (fun x hx _=>h8e x aC)
        have h8t:Turns (fun x=>x=b\/x=X) Wo W8:=by
         rw[X4];exact(HL.out.turn.into ht (fun x _ e=>by simp[Value.ownBlock] at e)).trans (((Turns.refl (·=X) w6).setCell ⟨X,2,none⟩ _ rfl).mono fun x _ e=>.inr e)
        have h8l:ux (fun x=>Wo.heap.size<=x/\x<W8.heap.size) W8 (.slice a' 1 c') [lf]:=by
         have h1:=how.sl dn (T:=fun x=>Wo.heap.size<=x/\x<w6.heap.size) (fun x hx h=>⟨h,hx⟩) (fun x hx=>⟨(how.lt x hx).1,(how.lt x hx).2⟩);have h2:W8.heap.size=w6.heap.size:=by rw[X4];simp
         rw[h2];exact dO.keep dn h1 (fun x hx _=>h8e x aC)
        have H8:=hid (And.intro h8X (And.intro h8m (And.intro h8t h8l)));clear how ht hn h6X dz h8X h8e h8m h8t h8l l0 l1 l2 x0 x1 x3;go_upto_region 19 with fail;rw[<-X4];have HRng:=hid HL.out.rng;clear X4 dz2 d2 x2 HL;go_wp2;go_loopw [10] (fun i wr=>∃j:Nat,∃rs ar cr,i=.int .i64 j/\j<=ks.length/\rs.length<=2/\Hid (RS b (2+100*ks.length+3+10*j) X Wo W8 (.int .i64 ver) (.slice aK ks.length cK) (.slice a' 1 c') lf ks j ar cr rs wr)) (fun i _=>ks.length-(intOf i).toNat)
        case atStart=>
         exact⟨0,[],none,0,rfl,by omega,by simp,hid ⟨H8.out.2.1.mono aC,H8.out.2.2.1,H8.out.1,H8.out.2.2.2,bC.nil _ _ _ _ _ _,.nil,hbX,hXl,H8.out.2.2.1.size,aH⟩⟩
        case round=>
         obtain⟨j,rs,ar,cr,rfl,hj,AJ,DK⟩:=hrel;obtain⟨⟨x0,x1,x2,x3⟩,xz⟩:=aW DK.out.tV
         have HKO:Hid (bC 4 DF (fun x=>b<x/\x≠X) (X+1) 95 wr (.slice aK ks.length cK) ks):=hid (HS.out.own.keep cT (aB.gB DK.out.turn (fun x hx e=>by
          rcases hx with hx|hx
          ·have:=hx.1;have:=hx.2;omega
          ·have:=(HS.out.own.lt x hx).1;omega)))
         by_cases hc:j<ks.length/\rs.length<2
         ·obtain⟨hc1,hc2⟩:=hc
          have hc3:(j:Int)<ks.length:=by omega
          have hc4:(rs.length:Int)<2:=by omega
          have hj0:(0:Int)<=j:=by omega
          have X9:=HKO.out.sl cT (T:=fun x=>b<x) (fun x _ h=>h.1) (fun x hx=>by have:=(HKO.out.lt x hx).1;omega)
          have hskK:dI aK ks.length:=by
           obtain⟨_,_,e,h,_⟩:=X9.form;cases e;exact h
          obtain⟨-, -,c0,c1,c2,uf,c3,hfl⟩:=gJ.at X9 hc1;obtain⟨kd,hkd⟩:=aV (ks[j]);rw[<-hkd] at c0 c1 c2 hfl;have hgd:=HG.out.good;have HKS:Hid (∀f∈kd.aA,ah.gA f):=hid (by rw[hkd];exact(hgd.2.1 _ (gY _)).small)
          have HKN:Hid (1<=kd.name.size):=hid (by
           rw[hkd,hgd.2.2 j hc1]
           have:j=0\/j=1\/j=2:=by have:=hgd.1;omega
           rcases this with h|h|h<;>rw[h]<;>decide)
          have OU:=hid hfl;have OP:=hid hkd;clear X9 hfl hgd hkd;go_wp2_with fail;refine(Tr b (2+100*ks.length+3+10*j) aC wr DK.out.oR kd uf OU.out HKS.out HKN.out).mono ?_;rintro e w9 ⟨⟨r,bd,rfl,hr⟩,hm9,Bt⟩;simp only[afu];have Bq:=hid (DK.out.grow Bt (hm9.mono (N':=2+100*ks.length+3+10*(j+1)) aC));have HR:=hid hr;clear hr hm9 Bt c0 c1 c2 c3 x0 x1 x2 x3 xz DK HKO OU HKS HKN;cases bd with
          |true=>
           have HRK:=hid (HR.out rfl)
           go_upto_region 24 with fail
           obtain⟨W10,Ya⟩:=aV (w9.alloc (.cells #[.string r.name,.string r.kind,.string r.a,.string r.b,.int .i64 r.n] 119))
           have acJ:BL w9 W10:=by rw[Ya];exact ay.alloc aH _
           have Bu:=hid (Bq.out.grow (Turns.aQ acJ) (Bq.out.oR.keep (aB.below acJ)))
           have h10:W10.heap[w9.heap.size]?=some (.cells #[.string r.name,.string r.kind,.string r.a,.string r.b,.int .i64 r.n] 119 (0,0)):=by rw[Ya];exact aP w9 _ rfl
           obtain⟨⟨y0,y1,y2,y3,y4⟩, -⟩:=mL h10
           obtain⟨⟨-, -, -,x3⟩, -⟩:=aW Bu.out.tV
           rw[<-Ya]
           clear Ya acJ h10
           go_wp2_with (at_builtin;go_must (refine cF eT rfl _ _ rfl Tryz.acH rfl Bu.out.own (us:=[.string r.name,.string r.kind,.string r.a,.string r.b,.int .i64 r.n]) rfl rfl rfl r rfl X7 aC (by have:=Bu.out.life;have:=Bu.out.wsz;omega) ?_))
           intro v' Tw how ht hn
           obtain⟨rs2,Tx⟩:=aV (rs++[r])
           have hl2:rs2.length=rs.length+1:=by rw[Tx];simp
           obtain⟨a2,c2,hv', -⟩:=how.form
           rw[<-Tx] at hv'
           subst hv'
           have afw:=hid (RS.app Bu.out hc1 (by rw[<-OP.out];exact HRK.out) how (by rw[<-Tx]) ht)
           rw[<-Tx] at afw
           have h6X:=(ht.block X (fun e=>by have:=(Bu.out.own.lt X e.symm).1;have:=Bu.out.wl;omega) (aj Bu.out.tV)).trans Bu.out.tV
           obtain⟨⟨-, -, -,d3⟩,dz⟩:=aW h6X
           have SK:=dz 3
           have eC:=hid hl2
           clear how ht hn h6X dz Tx hl2 x3
           go_wp2
           go_roundw
           case rel=>exact⟨j+1,rs2,a2,c2,by go_num,by omega,by have:=eC.out;omega,afw⟩
           simp[intOf];omega
          |false=>
           have Bu:=hid (Bq.out.grow (W':=w9.alloc (.cells #[.string r.name,.string r.kind,.string r.a,.string r.b,.int .i64 r.n] 119)) (Turns.aQ (ay.alloc aH _)) (Bq.out.oR.keep (aB.below (ay.alloc aH _)))).skip
           go_wp2
           go_roundw
           case rel=>exact⟨j+1,rs,ar,cr,by go_num,by omega,AJ,Bu⟩
           simp[intOf];omega
         ·have hRz:wr.heap[w.heap.size]?=some (.cells #[.int .i64 0,.slice none 0 0,.slice none 0 0,.slice none 0 0] 27 (0,0)):=by
           have h1:=HS.out.rb
           rw[DK.out.turn.block w.heap.size (by show ¬(_=b\/_=X);omega) (aj HS.out.res)];exact HS.out.res
          have ye:=hid (DA hRz (.int .i64 ver) (.slice aK ks.length cK) (.slice a' 1 c') (.slice ar rs.length cr));obtain⟨⟨z0,z1,z2,z3⟩,zf⟩:=aW hRz
          have pH:Hid (Nb w (.returned (.agg #[.int .i64 ver,.slice aK ks.length cK,.slice a' 1 c',.slice ar rs.length cr])) ((((wr.setCell ⟨w.heap.size,0,none⟩ (.int .i64 ver)).setCell ⟨w.heap.size,1,none⟩ (.slice aK ks.length cK)).setCell ⟨w.heap.size,2,none⟩ (.slice a' 1 c')).setCell ⟨w.heap.size,3,none⟩ (.slice ar rs.length cr))):=hid (by
           have h1:=HS.out.rb
           have h2:=DK.out.xl
           have h3:=DK.out.wl
           have h4:=HS.out.below.size
           have h6:=HS.out.oR.lt
           refine⟨_,⟨ver,ks,[lf],rs⟩,rfl,⟨⟨by show 0<=ver;omega,by show ver<=3;omega⟩,HG.out,hn1,⟨lf,rfl,?_⟩,⟨j,hj,DK.out.ok,AJ⟩⟩,fA.mono (S:=fun x=>w.heap.size<x) (fA.keep (w:=wr) ⟨_,_,_,rfl,?_,?_,?_⟩ (aB.gB ye.out.2 (fun x hx e=>by omega))) (fun x _ hx=>by omega),?_⟩
           ·rw[HLF.out]
            exact⟨rfl,q,uE,MJ,rfl,by have:=Hml.out;show mv.length<=6;omega,HRng.out⟩
           ·exact HKO.out.sl cT (fun x _ h=>by have:=h.1;omega) (fun x hx=>by have:=(HKO.out.lt x hx).1;omega)
           ·exact dO.mono aC dn DK.out.life (fun x _ h=>by have:=h.1;omega)
           ·exact DK.out.own.sl eT (fun x _ h=>h.elim) (fun x hx=>by have:=(DK.out.own.lt x hx).1;omega)
           ·have h5:BL w wr:=HS.out.below.trans (DK.out.turn.below h4 (fun x hx=>by rcases hx with h|h<;>omega))
            exact h5.trans (ye.out.2.below h5.size (fun x hx=>by omega)))
          by_cases hc1:(j:Int)<ks.length
          ·have hc2:¬(rs.length:Int)<2:=by omega
           clear hc hRz;go_wp2;refine bodyPost_ret (zB ye.out.1 rfl) rfl pH.out
          ·clear hc hRz
           go_wp2;refine bodyPost_ret (zB ye.out.1 rfl) rfl pH.out
def di(w:World)(ver:Int)(uk ul ur:Value):World:=w.alloc (.cells #[.int .i64 ver,uk,ul,ur] 27)
theorem dZ(w:World)(ver:Int)(uk ul ur:Value):BL w (di w ver uk ul ur):=ay.alloc aH _
theorem fE(w:World)(ver:Int)(uk ul ur:Value):(di w ver uk ul ur).heap[w.heap.size]?=some (.cells #[.int .i64 ver,uk,ul,ur] 27 (0,0)):=JO w _
theorem fA.form{S:Nat->Prop}{w:World}{v:Value}{x:ah.bF}(h:fA S w v x):
  ∃ak ck al cl ar cr,v=.agg #[.int .i64 x.aI,.slice ak x.ai.length ck,.slice al x.aN.length cl,.slice ar x.aO.length cr]/\gJ S w (.slice ak x.ai.length ck) x.ai/\ux S w (.slice al x.aN.length cl) x.aN/\vY S w (.slice ar x.aO.length cr) x.aO/\
   dI ak x.ai.length/\dI al x.aN.length/\dI ar x.aO.length:=by
 obtain⟨uk,ul,ur,rfl,h1,h2,h3⟩:=h;obtain⟨ak,ck,rfl,s1, -⟩:=h1.form;obtain⟨al,cl,rfl,s2, -⟩:=h2.form;obtain⟨ar,cr,rfl,s3, -⟩:=h3.form;exact⟨ak,ck,al,cl,ar,cr,rfl,h1,h2,h3,s1,s2,s3⟩
theorem gm{x:ah.bF}{i:Nat}(h:i<x.ai.length):ah.kd x i=x.ai[i]:=by
 unfold ah.kd;rw[Int.toNat_natCast,jA,kK h];rfl
theorem uF{x:ah.bF}{i j:Nat}(h:i<x.ai.length)(h2:j<x.ai[i].aA.length):ah.fd x i j=x.ai[i].aA[j]:=by
 unfold ah.fd;rw[gm h,Int.toNat_natCast,jA,kK h2];rfl
theorem OY(x:ah.bF)(s:ByteArray)(v:Value)(S:Nat->Prop)(w:World)(hv:fA S w v x):
  Calls Tryz.prog 67 #[v,.string s] w fun e w'=>e=.returned (.int .i64 (ah.cU x s))/\BL w w':=by
 obtain⟨ak,ck,al,cl,ar,cr,rfl,hk, -, -,hsk, -, -⟩:=hv.form;have HB:=hid (dZ w x.aI (.slice ak x.ai.length ck) (.slice al x.aN.length cl) (.slice ar x.aO.length cr));have HK:=hid (hk.keep (aB.below HB.out));obtain⟨⟨-,b1, -, -⟩, -⟩:=aW (fE w x.aI (.slice ak x.ai.length ck) (.slice al x.aN.length cl) (.slice ar x.aO.length cr));obtain⟨W,hW⟩:=aV (di w x.aI (.slice ak x.ai.length ck) (.slice al x.aN.length cl) (.slice ar x.aO.length cr));rw[<-hW] at HB HK b1;unfold di at hW;have HW:=hid hW
 have hbd:x.ai.length<=9223372036854775807:=by
  obtain⟨_,_,e,_,h1,h2⟩:=hk.form;cases e;omega
 clear hv hk hW;go_enter Tryz.func67,Tryz.ntmps67;go_wp2;rw[<-HW.out];clear HW;go_loop [5] (fun i=>∃k:Nat,k<=x.ai.length/\i=.int .i64 k/\Hid (∀j (h:j<x.ai.length),j<k->decide (x.ai[j].name=s)=false)) (fun i=>x.ai.length-(intOf i).toNat);case atStart=>exact⟨0,by omega,rfl,hid (fun _ _ h=>absurd h aC)⟩
 case round=>
  obtain⟨k,hk,rfl,hpre⟩:=hrel;by_cases hlt:k<x.ai.length
  ·obtain⟨-, -,c0, -⟩:=HK.out.at hlt
   have hk0:(0:Int)<=k:=by omega
   have hk1:(k:Int)<x.ai.length:=by omega
   by_cases he:x.ai[k].name=s
   ·have HA:Hid (ah.cU x s=(k:Int)):=hid (by
     have:=ah.ow (p:=fun f:ah.eZ=>decide (f.name=s)) (i:=0) hlt hpre.out (decide_eq_true he)
     rw[Nat.zero_add] at this
     exact this)
    have ht:=XT he;generalize x.ai[k].name=nm at*;clear he;go_wp2;go_ret;exact⟨gT HA.out.symm,HB.out⟩
   ·have HA:Hid (∀j (h:j<x.ai.length),j<k+1->decide (x.ai[j].name=s)=false):=hid (fun j hj hjk=>by
     by_cases e:j=k
     ·subst e;exact decide_eq_false he
     ·exact hpre.out j hj aC)
    have ht:=XU he;generalize x.ai[k].name=nm at*;clear he;go_wp2;go_round;case rel=>exact⟨k+1,by omega,by go_num,HA⟩
    simp[intOf];omega
  ·have HA:Hid (ah.cU x s= -1):=hid (ah.mX (fun j hj=>hpre.out j hj aC))
   go_wp2;go_ret;exact⟨gT HA.out.symm,HB.out⟩
theorem Kv(k:ah.eZ)(s:ByteArray)(uf:Value)(S:Nat->Prop)(w:World)(hv:dJ S w uf k.aA)(cs:Array Value)(hcs:cs=(lU k uf).toArray):
  Calls Tryz.prog 66 #[.agg cs,.string s] w fun e w'=>e=.returned (.int .i64 (ah.bB k s))/\BL w w':=by
 subst hcs;obtain⟨a,cap,rfl,hok,hcap,hmax⟩:=hv.form;have HB:Hid (BL w (w.alloc (.cells #[.string k.name,.int .i64 k.lo,.int .i64 k.hi,.slice a k.aA.length cap] 95))):=hid (ay.alloc aH _);have HF:=hid (hv.keep (aB.below HB.out));simp only[lU];clear hv;go_enter Tryz.func66,Tryz.ntmps66;go_wp2;go_loop [5] (fun i=>∃j:Nat,j<=k.aA.length/\i=.int .i64 j/\Hid (∀m (h:m<k.aA.length),m<j->decide (k.aA[m].name=s)=false)) (fun i=>k.aA.length-(intOf i).toNat);case atStart=>exact⟨0,by omega,rfl,hid (fun _ _ h=>absurd h aC)⟩
 case round=>
  obtain⟨j,hj,rfl,hpre⟩:=hrel;by_cases hlt:j<k.aA.length
  ·obtain⟨-, -,c0, -⟩:=HF.out.at hlt
   have hk0:(0:Int)<=j:=by omega
   have hk1:(j:Int)<k.aA.length:=by omega
   by_cases he:k.aA[j].name=s
   ·have HA:Hid (ah.bB k s=(j:Int)):=hid (by
     have:=ah.ow (p:=fun f:ah.dh=>decide (f.name=s)) (i:=0) hlt hpre.out (decide_eq_true he)
     rw[Nat.zero_add] at this
     exact this)
    have ht:=XT he;generalize k.aA[j].name=nm at*;clear he;go_wp2;go_ret;exact⟨gT HA.out.symm,HB.out⟩
   ·have HA:Hid (∀m (h:m<k.aA.length),m<j+1->decide (k.aA[m].name=s)=false):=hid (fun m hm hmj=>by
     by_cases e:m=j
     ·subst e;exact decide_eq_false he
     ·exact hpre.out m hm aC)
    have ht:=XU he;generalize k.aA[j].name=nm at*;clear he;go_wp2;go_round;case rel=>exact⟨j+1,by omega,by go_num,HA⟩
    simp[intOf];omega
  ·have HA:Hid (ah.bB k s= -1):=hid (ah.mX (fun m hm=>hpre.out m hm aC))
   go_wp2;go_ret;exact⟨gT HA.out.symm,HB.out⟩
theorem Nc{p:Prop}(h:p:=by
  go_enter Tryz.func65,Tryz.ntmps65
  go_wp2
  go_ret
  exact⟨GX HA.out.symm,HB.out⟩):p:=h
theorem Tz(x:ah.bF)(i j:Int)(v:Value)(S:Nat->Prop)(w:World)(hv:fA S w v x):
  Calls Tryz.prog 65 #[v,.int .i64 i,.int .i64 j] w fun e w'=>e=.returned (.bool (ah.hasB x i j))/\BL w w':=by
 obtain⟨ak,ck,al,cl,ar,cr,rfl,hk, -, -,hsk, -, -⟩:=hv.form;have HB:=hid (dZ w x.aI (.slice ak x.ai.length ck) (.slice al x.aN.length cl) (.slice ar x.aO.length cr));have HK:=hid (hk.keep (aB.below HB.out));obtain⟨⟨-,b1, -, -⟩, -⟩:=aW (fE w x.aI (.slice ak x.ai.length ck) (.slice al x.aN.length cl) (.slice ar x.aO.length cr));unfold di at HB HK b1;clear hv hk;by_cases h1:i<0
 ·have HA:Hid (ah.hasB x i j=false):=hid aeQ
  exact Nc
 ·by_cases h2:(x.ai.length:Int)<=i
  ·have HA:Hid (ah.hasB x i j=false):=hid (by unfold ah.hasB;rw[decide_eq_false (show ¬i<x.ai.length by omega)];simp)
   exact Nc
  ·by_cases h3:j<0
   ·have HA:Hid (ah.hasB x i j=false):=hid aeN
    exact Nc
   ·obtain⟨m,rfl⟩:∃m:Nat,i=(m:Int):=⟨i.toNat,by omega⟩
    have hm:m<x.ai.length:=by omega
    have hm0:(0:Int)<=m:=by omega
    have hm1:(m:Int)<x.ai.length:=by omega
    have HA:Hid (ah.hasB x m j=decide (j<(x.ai[m].aA.length:Int))):=hid (by
     unfold ah.hasB
     rw[decide_eq_true hm0,decide_eq_true hm1,decide_eq_true (show 0<=j by omega),gm hm];rfl)
    obtain⟨-, -, -, -, -,uf,c3,hf⟩:=HK.out.at hm;obtain⟨a,cap,rfl, -, -, -⟩:=hf.form;clear hf;exact Nc
theorem Yb{x:ah.bF}{i j:Nat}(h:i<x.ai.length)(h2:j<x.ai[i].aA.length):ah.hasB x i j=true:=by
 unfold ah.hasB;rw[gm h];simp;omega
theorem Ib{x:ah.bF}{i j:Int}(h:ah.hasB x i j=true):∃m n:Nat,i=m/\j=n/\∃hm:m<x.ai.length,n<x.ai[m].aA.length:=by
 unfold ah.hasB at h;simp only[kJ,lE] at h;obtain⟨⟨⟨h1,h2⟩,h3⟩,h4⟩:=h;have hm:i.toNat<x.ai.length:=by omega
 have e:i=(i.toNat:Int):=by omega
 rw[e,gm hm] at h4;exact⟨i.toNat,j.toNat,e,by omega,hm,by omega⟩
theorem FL(x:ah.bF)(i j:Int)(v:Value)(S:Nat->Prop)(w:World)(hv:fA S w v x)(hi: -1000000<=i/\i<=1000000)(hj: -1000000<=j/\j<=1000000):
    Calls Tryz.prog 41 #[v,.int .i64 i,.int .i64 j] w fun e w'=>e=.returned (.int .i64 (ah.dV x i j))/\BL w w':=by
  have hv0:=hv
  obtain⟨ak,ck,al,cl,ar,cr,rfl,hk, -, -,hsk, -, -⟩:=hv.form
  have HB:=hid (dZ w x.aI (.slice ak x.ai.length ck) (.slice al x.aN.length cl) (.slice ar x.aO.length cr))
  have hbc:=fE w x.aI (.slice ak x.ai.length ck) (.slice al x.aN.length cl) (.slice ar x.aO.length cr)
  obtain⟨W,hW⟩:=aV (di w x.aI (.slice ak x.ai.length ck) (.slice al x.aN.length cl) (.slice ar x.aO.length cr))
  rw[<-hW] at HB hbc
  have Rj:=hid hbc
  have HSV:=hid (hv0.keep (aB.below HB.out))
  have HK:=hid (hk.keep (aB.below HB.out))
  unfold di at hW
  have HW:=hid hW
  obtain⟨⟨b0,b1,b2,b3⟩, -⟩:=aW hbc
  clear hv hv0 hk hW hbc
  have hi':=hi
  have hj':=hj
  go_enter Tryz.func41,Tryz.ntmps41
  go_upto_region 1 with fail
  rw[<-HW.out]
  clear HW
  go_wp2_with fail
  refine(Tz x i j _ S W HSV.out).mono ?_
  rintro e w1 ⟨rfl,hb1⟩
  have bf:=aJ HB hb1
  have Gz:=hid (HK.out.keep (aB.below hb1))
  have Kw:=hid ((hb1.block _ (aj Rj.out)).trans Rj.out)
  have afx:=hid (HSV.out.keep (aB.below hb1))
  obtain⟨⟨b0,b1,b2,b3⟩, -⟩:=aW Kw.out
  clear hb1 HK Rj HSV HB
  cases hh:ah.hasB x i j with
  |false=>
    have HA:Hid (ah.dV x i j= -1):=hid (by unfold ah.dV;rw[hh];rfl)
    clear hh
    go_wp2
    go_ret
    exact⟨gT HA.out.symm,bf.out⟩
  |true=>
    obtain⟨m,n,rfl,rfl,hm,hn⟩:=Ib hh
    have hm0:(0:Int)<=m:=by omega
    have hm1:(m:Int)<x.ai.length:=by omega
    have hn0:(0:Int)<=n:=by omega
    have hn1:(n:Int)<x.ai[m].aA.length:=by omega
    obtain⟨-, -,k0,k1,k2,uf,k3,hf⟩:=Gz.out.at hm
    obtain⟨af,cf,rfl,acK, -, -⟩:=hf.form
    obtain⟨-, -,f0,f1,f2,f3,f4,f5,uw,ug,f6,f7,hfw,hfg⟩:=hf.at hn
    obtain⟨aw,cw,rfl, -, -, -⟩:=hfw.form
    obtain⟨ag,cg,rfl, -, -, -⟩:=hfg.form
    have HF:=hid hf
    have uD:=hid k3
    obtain⟨f,hfx⟩:=aV (x.ai[m].aA[n])
    rw[<-hfx] at f0 f1 f2 f3 f4 f5 f6 f7
    have HFX:=hid hfx
    clear hfx
    go_upto_region 4 with fail
    obtain⟨W2,hW2⟩:=aV (w1.alloc (.cells #[.string f.name,.string f.of,.string f.up,.int .i64 f.kind,.int .i64 f.lo,.int .i64 f.hi,.slice aw f.dc.length cw,.slice ag f.bX.length cg] 92))
    have bK:Hid (Below w1.heap.size w1 W2):=hid (by rw[hW2];exact ay.alloc aH _)
    have D9:Hid (W2.heap[w1.heap.size]?=some (.cells #[.string f.name,.string f.of,.string f.up,.int .i64 f.kind,.int .i64 f.lo,.int .i64 f.hi,.slice aw f.dc.length cw,.slice ag f.bX.length cg] 92 (0,0))):=hid (by rw[hW2];exact aP w1 _ rfl)
    rw[<-hW2]
    clear hW2 f0 f1 f2 f3 f4 f5 f6 f7 hfw hfg k0 k1 k2 k3 b0 b1 b2 b3 hf
    have HU:Hid (ah.dV x m n=if f.kind=7\/f.kind=8 then (if ah.hasB x m (ah.bB x.ai[m] f.up)=true/\ah.bB x.ai[m] f.up<n/\(ah.fd x m (ah.bB x.ai[m] f.up)).kind=1 then ah.tU x m (ah.fd x m (ah.bB x.ai[m] f.up)) else -1) else if f.kind=1 then ah.tU x m f else -1):=hid (by
      unfold ah.dV
      rw[if_pos hh,uF hm hn,gm hm,HFX.out])
    obtain⟨⟨p0,p1,p2,p3,p4,p5,p6,p7⟩,pz⟩:=dY D9.out
    have hz1:=aW ((bK.out.block _ (aj Kw.out)).trans Kw.out)
    obtain⟨⟨z0,z1,z2,z3⟩, -⟩:=hz1
    have X9:=Gz.out.keep (aB.below bK.out)
    obtain⟨-, -,y0,y1,y2,uf',y3,hf'⟩:=X9.at hm
    have huf:uf'=.slice af x.ai[m].aA.length cf:=by
      have:=Gz.out.at hm
      obtain⟨hl, -, -, -, -,uf2,k3, -⟩:=this
      have h9:=y3
      rw[bK.out.cell (p:=⟨bD ak,bJ ak+m*4+3,none⟩) hl] at h9
      exact(qf (h9.symm.trans (uD.out)))
    subst huf
    have HFS:=hid hf'
    clear X9 hf'
    go_cut [31] from 24 to 31 (fun q wx=>∃bd:Bool,q=.bool bd/\Hid (bd=decide (f.kind=7\/f.kind=8))/\W2=wx)
    case first=>
      by_cases h7:f.kind=7
      · have mr:=aeU h7
        have HD:Hid (true=decide (f.kind=7\/f.kind=8)):=hid (by simp[h7])
        clear h7
        go_wp2
        go_meet
        case rel=>exact⟨true,rfl,HD,rfl⟩
      · have mr:=GW h7
        by_cases h8:f.kind=8
        · have oU:=aeU h8
          have HD:Hid (true=decide (f.kind=7\/f.kind=8)):=hid (by simp[h8])
          clear h7 h8
          go_wp2
          go_meet
          case rel=>exact⟨true,rfl,HD,rfl⟩
        · have oU:=GW h8
          have HD:Hid (false=decide (f.kind=7\/f.kind=8)):=hid (by simp[h7,h8])
          clear h7 h8
          go_wp2
          go_meet
          case rel=>exact⟨false,rfl,HD,rfl⟩
    case rest=>
     obtain⟨bd,rfl,HD,rfl⟩:=hcut;go_upto_if 31 with fail;go_cut [] from 8 to 55 (fun wx=>∃g uw ug,Hid (wx.heap[w1.heap.size]?=some (.cells #[.string g.name,.string g.of,.string g.up,.int .i64 g.kind,.int .i64 g.lo,.int .i64 g.hi,uw,ug] 92 (0,0)))/\Hid (ah.dV x m n=if g.kind=1 then ah.tU x m g else -1)/\Hid (BL w1 wx))
     case first=>
      cases bd with
      |false=>
        have JV:=hid (HU.out.trans (if_neg (fun h=>by have:=HD.out;rw[decide_eq_true h] at this;cases this)))
        clear HU HD
        go_wp2
        go_meet
        case rel=>exact⟨f,_,_,D9,JV,bK⟩
      |true=>
        have JV:=hid (HU.out.trans (if_pos (decide_eq_true_iff.1 HD.out.symm)))
        clear HU HD
        go_upto_region 5 with fail
        refine cE 7 (.quiet 0 (.quiet 1 (.quiet 2 (.quiet 3 (.quiet 4 (.quiet 5 (.quiet 6 .done))))))) (From (fun _=>False) W2) lN (by kernel_rfl) (show From (fun _=>False) W2 (W2.drewN 1) from (Turns.refl _ _).drewN 1) ?_
        refine eB ?_
        refine aL rfl ?_
        intro hne
        have hq:∀xh:Held (From (fun _=>False) W2),xh.1.cell? ⟨w.heap.size,1,none⟩=some (.slice ak x.ai.length ck):=fun xh=>From.cell xh id z1
        go_big_quiet_step (fail)
        refine fS ?_
        clear hne hq
        iterate 2 refine eB ?_
        refine aL rfl ?_
        intro hne
        have h0:∀xh:Held (From (fun _=>False) W2),xh.1.cell? ⟨bD ak,bJ ak+m*4,none⟩=some (.string x.ai[m].name):=fun xh=>From.cell xh id y0
        have h1:∀xh:Held (From (fun _=>False) W2),xh.1.cell? ⟨bD ak,bJ ak+m*4+1,none⟩=some (.int .i64 x.ai[m].lo):=fun xh=>From.cell xh id y1
        have h2:∀xh:Held (From (fun _=>False) W2),xh.1.cell? ⟨bD ak,bJ ak+m*4+2,none⟩=some (.int .i64 x.ai[m].hi):=fun xh=>From.cell xh id y2
        have h3:∀xh:Held (From (fun _=>False) W2),xh.1.cell? ⟨bD ak,bJ ak+m*4+3,none⟩=some (.slice af x.ai[m].aA.length cf):=fun xh=>From.cell xh id y3
        go_big_quiet_step (fail)
        refine fS ?_
        clear hne h0 h1 h2 h3
        refine eB ?_
        refine aL rfl ?_
        intro hne
        have hq:∀xh:Held (From (fun _=>False) W2),xh.1.cell? ⟨w1.heap.size,2,none⟩=some (.string f.up):=fun xh=>From.cell xh id p2
        go_big_quiet_step (fail)
        refine fS ?_
        clear hne hq
        refine aT ?_
        try simp only[iW,iX]
        go_wp2_with fail
        refine(Kv x.ai[m] f.up (.slice af x.ai[m].aA.length cf) S (W2.drewN 1) (HFS.out.keep (aB.below (aG ay 1))) _ rfl).mono ?_
        rintro e w3 ⟨rfl,hb3⟩
        have bZ:Hid (BL w1 w3):=hid ((aG bK.out 1).trans (hb3.mono bK.out.size))
        have Na:=hid ((hb3.block _ (aj D9.out)).trans D9.out)
        obtain⟨u,hu⟩:=aV (ah.bB x.ai[m] f.up)
        rw[<-hu] at JV ⊢
        have HUU:=hid hu
        clear hb3 hu p0 p1 p2 p3 p4 p5 p6 p7 pz z0 z1 z2 z3 y0 y1 y2 y3 D9 bK
        rcases ah.iE (fun f':ah.dh=>decide (f'.name=f.up)) x.ai[m].aA with⟨hc1, -⟩|⟨ci,hci,hc1, -, -⟩
        · have qu:u= -1:=HUU.out.trans hc1
          subst qu
          have HA:Hid (ah.dV x m n= -1):=hid (JV.out.trans (if_neg (fun h=>by
            have h9:=h.1
            unfold ah.hasB at h9
            simp at h9)))
          clear hc1 JV
          go_wp2
          go_ret
          exact⟨gT HA.out.symm,cO bf.out bZ.out⟩
        · have qu:u=(ci:Int):=HUU.out.trans hc1
          subst qu
          clear hc1
          have Tf:¬(ci:Int)<0:=by omega
          by_cases hlt:ci<n
          · have X8:¬(n:Int)<=ci:=by omega
            have hci2:(0:Int)<=ci:=by omega
            have hci3:(ci:Int)<x.ai[m].aA.length:=by omega
            have HH:Hid (ah.dV x m n=if (x.ai[m].aA[ci]).kind=1 then ah.tU x m x.ai[m].aA[ci] else -1):=hid (by
              rw[JV.out,uF hm hci,Yb hm hci]
              have:(ci:Int)<n:=by omega
              simp[this])
            have hz1:=aW ((bZ.out.block _ (aj Kw.out)).trans Kw.out)
            obtain⟨⟨z0,z1,z2,z3⟩, -⟩:=hz1
            obtain⟨⟨p0,p1,p2,p3,p4,p5,p6,p7⟩,pz⟩:=dY Na.out
            have q0:=pz 0
            have q1:=pz 1
            have q2:=pz 2
            have q3:=pz 3
            have q4:=pz 4
            have q5:=pz 5
            have q6:=pz 6
            have q7:=pz 7
            have X9:=Gz.out.keep (aB.below bZ.out)
            obtain⟨hl4, -, -, -, -,uf',y3,hf'⟩:=X9.at hm
            have huf:uf'=.slice af x.ai[m].aA.length cf:=by
              have hl:bD ak<w1.heap.size:=(Gz.out.at hm).1
              have h9:=y3
              rw[bZ.out.cell (p:=⟨bD ak,bJ ak+m*4+3,none⟩) hl] at h9
              exact(qf (h9.symm.trans (uD.out)))
            subst huf
            obtain⟨-, -,f0,f1,f2,f3,f4,f5,uw,ug,f6,f7,hfw,hfg⟩:=hf'.at hci
            obtain⟨aw',cw',rfl, -, -, -⟩:=hfw.form
            obtain⟨R7,Q9,rfl, -, -, -⟩:=hfg.form
            obtain⟨g,hg⟩:=aV (x.ai[m].aA[ci])
            rw[<-hg] at f0 f1 f2 f3 f4 f5 f6 f7 HH
            clear X9 hf' hfw hfg hg JV hl4 pz
            have h8:=hid (Kh Na.out (.string g.name) (.string g.of) (.string g.up) (.int .i64 g.kind) (.int .i64 g.lo) (.int .i64 g.hi) (.slice aw' g.dc.length cw') (.slice R7 g.bX.length Q9))
            go_wp2
            go_meet
            case rel=>exact⟨g,_,_,hid h8.out.1,HH,hid (bZ.out.trans (h8.out.2.below bZ.out.size (fun x hx=>by omega)))⟩
          · have X8:(n:Int)<=ci:=by omega
            have HA:Hid (ah.dV x m n= -1):=hid (JV.out.trans (if_neg (fun h=>by have:=h.2.1;omega)))
            clear JV
            go_wp2
            go_ret
            exact⟨gT HA.out.symm,cO bf.out bZ.out⟩
     case rest=>
       obtain⟨g,uw,ug,HG,HUg,Kx⟩:=hcut
       obtain⟨⟨p0,p1,p2,p3,p4,p5,p6,p7⟩, -⟩:=dY HG.out
       have hz1:=aW ((Kx.out.block _ (aj Kw.out)).trans Kw.out)
       obtain⟨⟨z0,z1,z2,z3⟩, -⟩:=hz1
       have HSg:=hid (afx.out.keep (aB.below Kx.out))
       have HBF:=aJ bf Kx.out
       clear y0 y1 y2 y3 D9 bK HU HD HFS HF hh afx
       by_cases hk1:g.kind=1
       · have hb1:(g.kind !=1)=false:=bneF hk1
         have HA:=hid (HUg.out.trans (if_pos hk1))
         clear hk1 HUg
         go_wp2_with fail
         refine(OY x g.of _ S wc HSg.out).mono ?_
         rintro e w4 ⟨rfl,hb4⟩
         have HBL:=aJ HBF hb4
         unfold ah.tU at HA
         generalize ah.cU x g.of=ki at*
         clear hb4 p0 p1 p2 p3 p4 p5 p6 p7 z0 z1 z2 z3
         by_cases hki:ki<(m:Int)
         · have uG:=hid (HA.out.trans (if_pos hki))
           have hki2:¬(m:Int)<=ki:=by omega
           go_wp2
           go_ret
           exact⟨gT uG.out.symm,HBL.out⟩
         · have uG:=hid (HA.out.trans (if_neg hki))
           have hki2:(m:Int)<=ki:=by omega
           go_wp2
           go_ret
           exact⟨gT uG.out.symm,HBL.out⟩
       · have hb1:(g.kind !=1)=true:=Oz hk1
         have HA:=hid (HUg.out.trans (if_neg hk1))
         clear hk1 HUg
         go_wp2
         go_ret
         exact⟨gT HA.out.symm,HBF.out⟩
theorem wv{w w1:World}{v:Int}{a b c:Value}(h:w1=di w v a b c):Hid (∀W,Below w1.heap.size w1 W->W.heap[w.heap.size]?=some (.cells #[.int .i64 v,a,b,c] 27 (0,0))):=hid (fun W hW=>(hW.block _ (by rw[h];simp[di])).trans (by rw[h];exact fE ..))
theorem r9{w w1:World}{v:Int}{a b c:Value}(h:w1=di w v a b c):Hid (Below w.heap.size w w1):=hid (by rw[h];exact dZ ..)
end Go.Proofs.YteiakkfdchnddaaGreatDoor
namespace Go.Proofs.YteiakkfdchnddaaGreatDoor.ah
abbrev cG:=List (List (List Int))
def fW(W:cG)(u:Int):Nat:=(W.getD u.toNat []).length
def Ep(x:bF)(k:Nat)(W:cG)(r:List Int):Prop:=
 r.length=(kd x k).aA.length/\∀(j:Nat) (h:j<r.length),((fd x k j).kind=1->0<=r[j]/\r[j]<fW W (dV x k j))/\ -100<=r[j]/\r[j]<=100
def total(W:cG):Nat:=(W.map List.length).sum
structure tF(x:bF)(W:cG):Prop where
 len:W.length=x.ai.length
 tot:total W<=6
 qv:∀(k:Nat) (h:k<W.length),∀r∈W[k],Ep x k W r
def FM(x:bF):Prop:=∀(k j:Nat),k<x.ai.length->j<(kd x k).aA.length->(fd x k j).kind=1->0<=dV x k j
theorem Nd(x:bF)(i:Int)(f:dh)(h:0<=i):tU x i f<i:=by
 unfold tU;split
 ·assumption
 ·omega
theorem uW(x:bF)(i j:Int)(h:0<=i):dV x i j<i:=by
 unfold dV;split
 ·simp only
  split
  ·split
   ·exact Nd x i _ h
   ·omega
  ·split
   ·exact Nd x i _ h
   ·omega
 ·omega
theorem jq{α:Type}(p:α->Bool):∀(l:List α) (i:Nat), -1<=fV p l i
 |[],_=>by unfold fV;omega
 |x::l,i=>by
  unfold fV;split
  ·omega
  ·exact jq p l (i+1)
structure tW(x:bF)(k:Nat)(W:cG):Prop where
 len:W.length=x.ai.length
 tot:total W<=6
 qv:∀(i:Nat) (h:i<W.length),∀r∈W[i],Ep x i W r
 rest:∀(i:Nat) (h:i<W.length),k<=i->W[i]=[]
theorem Er(n:Nat):total (List.replicate n [])=0:=by
 unfold total;simp
theorem tW.zero(x:bF):tW x 0 (List.replicate x.ai.length []):=
 ⟨by simp,by rw[Er];omega,fun i h r hr=>by simp at hr,fun i h _=>by simp⟩
theorem pI{W:cG}{k:Nat}(hk:k<W.length)(rows:List (List Int)):total (W.set k rows)+W[k].length=total W+rows.length:=by
 unfold total;induction W generalizing k with
 |nil=>simp at hk
 |cons a W ih=>
  cases k with
  |zero=>simp;omega
  |succ k=>
   have:=ih (k:=k) (by simpa using hk)
   simp at this ⊢
   omega
theorem Es{W:cG}{k:Nat}{u:Int}(rows:List (List Int))(h0:0<=u)(h:u<k):fW (W.set k rows) u=fW W u:=by
 unfold fW;rw[jA,jA,List.getElem?_set_ne aC]
theorem tW.snoc{x:bF}{k:Nat}{W:cG}(hu:FM x){rows:List (List Int)}(hk:k<W.length)(h:tW x (k+1) (W.set k rows)){r:List Int}(hr:Ep x k W r)(ht:total (W.set k rows)+1<=6):tW x (k+1) (W.set k (rows++[r])):=by
 have e1:=h.len;rw[List.length_set] at e1;have t1:=pI hk rows;have t2:=pI hk (rows++[r]);simp only[rG,List.length_cons,List.length_nil] at t2
 have conv:∀(i:Nat) (hi:i<W.length) (r':List Int),Ep x i (W.set k rows) r'->i<=k->Ep x i (W.set k (rows++[r])) r':=fun i hi r' ⟨h1,h2⟩ hik=>by
  refine⟨h1,fun j hj=>⟨fun hR=>?_,(h2 j hj).2⟩⟩;have h3:=(h2 j hj).1 hR;have h4:=hu i j aC aC hR;have h5:=uW x i j aC;rw[Es _ h4 aC] at h3 ⊢;exact h3
 refine⟨by rw[List.length_set];exact e1,by omega,fun i hi r' hr'=>?_,fun i hi hki=>?_⟩
 ·rw[List.length_set] at hi
  by_cases e:k=i
  ·subst e
   rw[List.getElem_set_self] at hr';rcases List.mem_append.1 hr' with hr'|hr'
   ·exact conv k hi r' (h.qv k XC r' (by rw[List.getElem_set_self];exact hr')) aH
   ·rw[nU.1 hr']
    obtain⟨h1,h2⟩:=hr;refine⟨h1,fun j hj=>⟨fun hR=>?_,(h2 j hj).2⟩⟩;have h3:=(h2 j hj).1 hR;have h4:=hu k j aC aC hR;have h5:=uW x k j aC;rw[Es _ h4 aC];exact h3
  ·rw[List.getElem_set_ne e] at hr'
   by_cases hik:i<=k
   ·exact conv i hi r' (h.qv i XC r' (by rw[List.getElem_set_ne e];exact hr')) hik
   ·have:=h.rest i XC aC
    rw[List.getElem_set_ne e] at this;rw[this] at hr';simp at hr'
 ·rw[List.length_set] at hi
  rw[List.getElem_set_ne aC];have:=h.rest i XC hki;rwa [List.getElem_set_ne aC] at this
theorem tW.next{x:bF}{k:Nat}{W:cG}(h:tW x k W):tW x (k+1) W:=⟨h.len,h.tot,h.qv,fun i hi hk=>h.rest i hi aC⟩
theorem tW.done{x:bF}{k:Nat}{W:cG}(h:tW x k W):tF x W:=⟨h.len,h.tot,h.qv⟩
end Go.Proofs.YteiakkfdchnddaaGreatDoor.ah
namespace Go.Proofs.YteiakkfdchnddaaGreatDoor
open Go.RowKit
def iw(n:Nat):Array Value:=(List.replicate n (.slice none 0 0)).toArray
theorem DL(n:Nat):madeCells (Value.slice none 0 0).cells (n*1)=iw n:=by
 apply Array.ext
 ·simp[madeCells,iw]
 ·intro i h1 h2
  simp[madeCells,iw,Value.cells,Nat.mod_one]
theorem TA{p:Prop}(h:p:=by
  have h:i.bytes*n<=1000*1000000:=Nat.mul_le_mul aC hn
  have:((i.bytes*n:Nat):Int)<=281474976710656:=by omega
  rwa [Int.natCast_mul] at this):p:=h
theorem tG{P:Program}{t e:TypeId}{b:Nat}(ht:P.underlying t=some (.slice e))(hi:(P.info? e).map (fun i=>(i.zero,i.size,i.bytes))=some (some (.slice none 0 0),1,b))(hb:b<=1000)
  (n:Nat)(hn:n<=1000000)(w:World):
  (Instr.makeSlice t (.int .i64 (n:Int)) (.int .i64 (n:Int))).run P w=.ok (.slice (some ⟨w.heap.size,0,none⟩) n n) (w.alloc (.cells (iw n) e)):=by
 obtain⟨i,h1,h2,h3,h4⟩:=info_parts hi
 have hy:(i.bytes:Int)*(n:Int)<=281474976710656:=by
  exact TA
 have hr:=run_make (P:=P) w t e i (.slice none 0 0) ht h1 h2 .i64 .i64 (n:Int) (n:Int) aC aC hy aC;rw[h3,Int.toNat_natCast,DL] at hr;exact hr
theorem aaK{p:Prop}(h:p:=by
  rw[List.length_replicate]
  refine⟨by simp,.inr ⟨w.heap.size,n,iw n,rfl,Nat.zero_le _,heap_alloc_new w _,aH,by unfold maxLen;omega,by simp[iw],?_⟩⟩
  simp[iw]):p:=h
theorem zC(w:World)(n:Nat)(hn:n<=1000000):bY (w.heap.size<=·) (w.alloc (.cells (iw n) 96)) (.slice (some ⟨w.heap.size,0,none⟩) n n) (List.replicate n []):=by
 refine⟨fun b hb=>by simp[Value.ownBlock] at hb;omega,List.replicate n (.slice none 0 0),fun _=>0,?_,by simp,fun j h1 h2=>?_⟩
 ·exact aaK
 ·simp only[List.getElem_replicate]
  exact iM.nil _ _ _ _
theorem TB(l:List Int)(hl:Fit l)(v:Value)(i:Int)(most:Int)(S:Nat->Prop)(w:World)(hv:cH S w v l)(h3:1<=most)(h4:most<=1000000)(hi:0<=i):
  Calls Tryz.prog 29 #[v,.int .i64 i,.int .i64 most] w fun e w'=>∃z:Int,e=.returned (.int .i64 z)/\0<=z/\z<most/\w=w':=
 (Bc l hl v i most S w hv h3 (Int.le_trans h4 aC) hi).mono fun _ _ h=>⟨_,h.1,(xV l _ _ h3).1,(xV l _ _ h3).2,h.2⟩
def acL(x:ah.bF)(w:World)(e:Ending)(w':World):Prop:=∃v W,e=.returned v/\ah.tF x W/\bY (w.heap.size<=·) w' v W/\BL w w'
theorem Ic{p:Prop}(h:p:=by
  simp only[Value.slice.injEq,Option.some.injEq,Addr.mk.injEq] at e1
  exact e1.1.1):p:=h
theorem OZ(x:ah.bF)(hx:ah.FM x)(hk:x.ai.length<=10)(hf:∀k∈x.ai,k.aA.length<=20)(L:List Int)(hL:Fit L)(v u:Value)(S T:Nat->Prop)(w:World)(hv:fA S w v x)(hu:cH T w u L):
  Calls Tryz.prog 18 #[v,u] w (acL x w):=by
 obtain⟨ak,ck,al,cl,ar,cr,rfl,hkk, -, -,hsk, -, -⟩:=hv.form;obtain⟨au,cu,rfl,hsu,hcu,hmu⟩:=hu.form;obtain⟨W1,hW1⟩:=aV (di w x.aI (.slice ak x.ai.length ck) (.slice al x.aN.length cl) (.slice ar x.aO.length cr));have bf:=hid (dZ w x.aI (.slice ak x.ai.length ck) (.slice al x.aN.length cl) (.slice ar x.aO.length cr));have Rj:=hid (fE w x.aI (.slice ak x.ai.length ck) (.slice al x.aN.length cl) (.slice ar x.aO.length cr));rw[<-hW1] at bf Rj;have HSV:=hid (fA.mono (S':=fun b=>b<w.heap.size+1) hv (fun b hb _=>by omega)|>.keep (aB.below bf.out));have HKV:=hid (gJ.mono (S':=fun b=>b<w.heap.size+1) hkk (fun b hb _=>by omega)|>.keep (aB.below bf.out));have HUV:=hid (cH.mono (S':=fun b=>b<w.heap.size+1) hu (fun b hb _=>by omega)|>.keep (aB.below bf.out));unfold di at hW1;have HW1:=hid hW1;have HX:=hid hx;have HF:=hid hf;have HL:=hid hL;have hz1:W1.heap.size=w.heap.size+1:=by rw[hW1];simp
 have HZ1:=hid hz1;clear hv hkk hu hW1 hx hf hL hz1;have hmk:=fun W=>tG (P:=Tryz.prog) (t:=29) (e:=96) (b:=24) (by kernel_rfl) (by kernel_rfl) aC x.ai.length aC W;obtain⟨⟨b0,b1,b2,b3⟩, -⟩:=aW Rj.out;go_enter Tryz.func18,Tryz.ntmps18;go_upto_region 1 with fail;rw[<-HW1.out];go_wp2;clear hmk b0 b1 b2 b3;obtain⟨g0,hg0⟩:=aV W1.heap.size;have HG0:Hid (g0=W1.heap.size):=hid hg0;have HO0:Hid (bY (W1.heap.size<=·) (W1.alloc (.cells (iw x.ai.length) 96)) (.slice (some ⟨g0,0,none⟩) x.ai.length x.ai.length) (List.replicate x.ai.length [])):=hid (by rw[hg0];exact zC W1 _ aC);rw[<-hg0];clear hg0
 go_loopw [6,7,8] (fun at_ many kk wr=>∃(k a:Nat) (W:ah.cG),k<=x.ai.length/\a<=1000*k/\at_=.int .i64 (a:Int)/\many=.int .i64 ((ah.total W:Nat):Int)/\kk=.int .i64 (k:Int)/\Hid (ah.tW x k W)/\Hid (bY (W1.heap.size<=·) wr (.slice (some ⟨g0,0,none⟩) x.ai.length x.ai.length) W)/\Hid (BL W1 wr))
  (fun _ _ kk _=>x.ai.length-(intOf kk).toNat)
 case atStart=>exact⟨0,0,List.replicate x.ai.length [],by omega,by omega,rfl,by rw[ah.Er];rfl,rfl,hid (ah.tW.zero x),HO0,hid (ay.alloc aH _)⟩
 case round=>
  obtain⟨k,a,W,hkl,hal,rfl,rfl,rfl,HU,HO,HB⟩:=hrel;obtain⟨wo,rfl⟩:=aV (wr:World);have hzz:=HB.out.size;have h0z:=HZ1.out;have c1:=(aW ((HB.out.block _ (aj Rj.out)).trans Rj.out)).1.2.1;by_cases hlt:k<x.ai.length
  ·have hk0:(0:Int)<=k:=by omega
   have hk1:(k:Int)<x.ai.length:=by omega
   have xP:=HU.out.tot;have hat:=xV L a 5 aC;have nF:=hid (Bc L HL.out (.slice au L.length cu) a 5 (·<w.heap.size+1) wo (HUV.out.keep (aB.aQ HB.out (fun b hb=>by have h9:b<w.heap.size+1:=hb;omega))) aC aC aC);rw[Int.toNat_natCast] at nF;generalize hT:ah.total W=tt at*;have TD:=hid hT;clear hT;generalize Q6 L a 5=t at*;obtain⟨hat0,hat5⟩:=hat;go_upto_region 7 with fail;go_cut [9] from 27 to 32 (fun n wx=>∃m:Nat,n=.int .i64 (m:Int)/\Hid (m+tt<=6)/\wo=wx)
   case first=>
    go_wp2_with fail;refine nF.out.mono ?_;rintro e w' ⟨rfl,rfl⟩;by_cases hmn:6-(tt:Int)<t
    ·obtain⟨m,hm⟩:∃m:Nat,6-(tt:Int)=(m:Int):=⟨6-tt,by omega⟩
     have HM:=hid hm;have hmt:m+tt<=6:=by omega
     clear hm;go_wp2;go_meet;case rel=>exact⟨m,by rw[HM.out],hid hmt,rfl⟩
    ·obtain⟨m,hm⟩:∃m:Nat,t=(m:Int):=⟨t.toNat,by omega⟩
     subst hm;have hmt:m+tt<=6:=by omega
     go_wp2;go_meet;case rel=>exact⟨m,rfl,hid hmt,rfl⟩
   case rest=>
    obtain⟨m0,rfl,HM,rfl⟩:=hcut;clear nF hat0 hat5;have xQ:=HM.out;obtain⟨Yc, -, -, -, -,uf,y3,oK⟩:=HKV.out.at hlt;obtain⟨af,cf,rfl,acK, -, -⟩:=oK.form;obtain⟨nf,hnf⟩:=aV (x.ai[k].aA.length);have hnf20:nf<=20:=by rw[hnf];exact HF.out _ (gY _)
    rw[<-hnf] at y3;have HNF:=hid hnf;have HFK:=hid oK;have hskf2:dI af nf:=by rw[HNF.out];exact acK
    have HY3:=hid y3;clear acK;have y3:=(HB.out.cell (p:=⟨bD ak,bJ ak+k*4+3,none⟩) Yc).trans HY3.out;clear oK hnf;go_wp2;go_loopw [9,10] (fun n f w2=>∃m f':Nat,m<=m0/\f'<=nf/\n=.int .i64 (m:Int)/\f=.int .i64 (f':Int)/\Hid (0<m->∀j:Nat,j<f'->(ah.fd x k j).kind=1->0<ah.fW W (ah.dV x k j))/\Hid (BL wo w2)) (fun _ f _=>nf-(intOf f).toNat);case atStart=>exact⟨m0,0,aH,by omega,rfl,rfl,hid (fun _ j h=>absurd h aC),hid ay⟩
    case round=>
     obtain⟨m,f',hmm,Ai,rfl,rfl,HP,bK⟩:=hrel;have HBW:=aJ HB bK.out;have hz9:=HBW.out.size;obtain⟨⟨x0,x1,x2,x3⟩, -⟩:=aW ((HBW.out.block _ (aj Rj.out)).trans Rj.out);have y3':=(HBW.out.cell (p:=⟨bD ak,bJ ak+k*4+3,none⟩) Yc).trans HY3.out;by_cases hfl:f'<nf
     ·have hfl1:(f':Int)<nf:=by omega
      have hf0:(0:Int)<=f':=by omega
      go_wp2_with fail;refine(FL x k f' _ (·<w.heap.size+1) wr (HSV.out.keep (aB.aQ HBW.out (fun b hb=>by have h9:b<w.heap.size+1:=hb;omega))) ⟨by omega,by omega⟩ ⟨by omega,by omega⟩).mono ?_;rintro e w3 ⟨rfl,hb3⟩;have bZ:=aJ bK hb3;have Nf:=ah.uW x k f' aC;obtain⟨up,hup⟩:=aV (ah.dV x k f');rw[<-hup] at Nf ⊢;have HUP:=hid hup;clear hb3 hup x0 x1 x2 x3 y3';by_cases hu0:0<=up
      ·obtain⟨q,rfl⟩:∃q:Nat,up=(q:Int):=⟨up.toNat,by omega⟩
       have hqW:q<W.length:=by rw[HU.out.len];omega
       have hq1:(q:Int)<x.ai.length:=by omega
       have hO3:=bY.sl (cC.keep HO.out (aB.below bZ.out));obtain⟨uq,cq, -,hrq⟩:=gQ.at hO3 hqW;obtain⟨aq,cpq,rfl, -, -, -⟩:=hrq.form;simp only[gZ,ig,Nat.zero_add] at cq
       have hle:W[q].length=ah.fW W (ah.dV x k f'):=by
        rw[<-HUP.out,ah.fW,Int.toNat_natCast,jA,kK hqW];rfl
       have HLE:=hid hle;have hskq:dI (some ⟨g0,0,none⟩) x.ai.length:=fun _=>⟨_,_,rfl⟩;clear hO3 hrq hle;by_cases hz:W[q].length=0
       ·have Xb:((W[q].length:Int)==0)=true:=by simp[hz]
        clear hz;generalize W[q].length=lq at*;go_wp2;go_roundw;case rel=>exact⟨0,f'+1,by omega,by omega,rfl,by go_num,hid (fun h=>absurd h aC),bZ⟩
        simp[intOf];omega
       ·have Xb:((W[q].length:Int)==0)=false:=GW aC
        have hpos:0<W[q].length:=by omega
        have GA:Hid (0<m->∀j:Nat,j<f'+1->(ah.fd x k j).kind=1->0<ah.fW W (ah.dV x k j)):=hid (fun h j hj hR=>by
         by_cases e:j=f'
         ·subst e;rw[<-HLE.out];exact hpos
         ·exact HP.out h j aC hR)
        clear hz hpos;generalize W[q].length=lq at*;go_wp2;go_roundw;case rel=>exact⟨m,f'+1,hmm,by omega,rfl,by go_num,GA,bZ⟩
        simp[intOf];omega
      ·have GA:Hid (0<m->∀j:Nat,j<f'+1->(ah.fd x k j).kind=1->0<ah.fW W (ah.dV x k j)):=hid (fun h j hj hR=>by
        by_cases e:j=f'
        ·subst e
         have h1:=HX.out k j hlt (by rw[gm hlt,<-HNF.out];exact hfl) hR;rw[<-HUP.out] at h1;omega
        ·exact HP.out h j aC hR)
       go_wp2;go_roundw;case rel=>exact⟨m,f'+1,hmm,by omega,rfl,by go_num,GA,bZ⟩
       simp[intOf];omega
     ·have hff2:nf=f':=by omega
      subst hff2;clear hfl Ai;obtain⟨wm,rfl⟩:=aV (wr:World);have oL:k<W.length:=by rw[HU.out.len];exact hlt
      have hWk:W.set k []=W:=by
       have:=HU.out.rest k oL aH;rw[<-this];exact List.set_getElem_self oL
      have HOm:Hid (bY (W1.heap.size<=·) wm (.slice (some ⟨g0,0,none⟩) x.ai.length x.ai.length) (W.set k [])):=hid (by rw[hWk];exact cC.keep HO.out (aB.below bK.out));have HUm:Hid (ah.tW x (k+1) (W.set k [])):=hid (by rw[hWk];exact HU.out.next);have hTm:tt+([]:List (List Int)).length=ah.total (W.set k []):=by rw[hWk,TD.out];simp
      have HTm:=hid hTm;clear hWk hTm;go_wp2;clear x0 x1 x2 x3 y3'
      go_loopw [6,7,12] (fun at_ many ii w3=>∃(a' mn:Nat) (rows:List (List Int)),rows.length<=m/\a'<=1000*k+1+100*rows.length/\mn<=10000/\at_=.int .i64 (a':Int)/\many=.int .i64 (mn:Int)/\ii=.int .i64 ((rows.length:Nat):Int)/\Hid (mn=tt+rows.length)/\Hid (tt+rows.length=ah.total (W.set k rows))/\Hid (ah.tW x (k+1) (W.set k rows))/\
       Hid (bY (W1.heap.size<=·) w3 (.slice (some ⟨g0,0,none⟩) x.ai.length x.ai.length) (W.set k rows))/\Hid (BL W1 w3)) (fun _ _ ii _=>m-(intOf ii).toNat)
      case atStart=>exact⟨a+1,tt,[],by simp,by simp;omega,by omega,by go_num,rfl,rfl,hid aZ,HTm,HUm,HOm,HBW⟩
      case round=>
       obtain⟨a',mn,rows,hrm,ha',hmn,rfl,rfl,rfl,HMN,Dd,HU3,Xc,bZ⟩:=hrel;obtain⟨wi,rfl⟩:=aV (wr:World);have Eo:=bZ.out.size;by_cases him:rows.length<m
       ·have him1:(rows.length:Int)<m:=by omega
        have hm1:0<m:=by omega
        have Ng:w.heap.size<wi.heap.size:=by omega
        have y4:=(bZ.out.cell (p:=⟨bD ak,bJ ak+k*4+3,none⟩) Yc).trans HY3.out;go_wp2
        go_loopw [6,13,14] (fun at_ rv ff w4=>∃(a4:Nat) (r:List Int) (ra:Option Addr) (rc:Nat),r.length<=nf/\a4<=a'+r.length/\at_=.int .i64 (a4:Int)/\rv=.slice ra r.length rc/\ff=.int .i64 ((r.length:Nat):Int)/\Hid (dr (wi.heap.size<=·) w4 (.slice ra r.length rc) r)/\
         Hid (∀(j:Nat) (h:j<r.length),((ah.fd x k j).kind=1->0<=r[j]/\r[j]<ah.fW W (ah.dV x k j))/\ -100<=r[j]/\r[j]<=100)/\Hid (BL wi w4)) (fun _ _ ff _=>nf-(intOf ff).toNat)
        case atStart=>exact⟨a',[],none,0,by simp,by simp,rfl,rfl,rfl,hid (dr.nil _ _),hid (fun j h=>absurd h aZ),hid ay⟩
        case round=>
         obtain⟨a4,r,ra,rc,hrn,ha4,rfl,rfl,rfl,HI,Ky,f9⟩:=hrel;have Rk:=f9.out.size;have TF:=aJ bZ f9.out;obtain⟨⟨x0,x1,x2,x3⟩, -⟩:=aW ((TF.out.block _ (aj Rj.out)).trans Rj.out);have y5:=(TF.out.cell (p:=⟨bD ak,bJ ak+k*4+3,none⟩) Yc).trans HY3.out;by_cases hrf:r.length<nf
         ·have hrf1:(r.length:Int)<nf:=by omega
          have TG:=(HFK.out.keep (aB.aQ TF.out (fun b hb=>by have h9:b<w.heap.size+1:=hb;omega))).at (j:=r.length) (by rw[<-HNF.out];exact hrf);obtain⟨-, -, -, -, -,f3, -⟩:=TG;have HFD:Hid (x.ai[k].aA[r.length]'(by rw[<-HNF.out];exact hrf)=ah.fd x k r.length):=hid (uF hlt (by rw[<-HNF.out];exact hrf)).symm;rw[HFD.out] at f3;go_upto_region 23 with fail;go_cut [15] from 74 to 81 (fun q wx=>∃vv:Int,q=.int .i64 vv/\Hid (-2<=vv/\vv<=9)/\wr=wx)
          case first=>
           have hU4:=HUV.out.keep (aB.aQ TF.out (fun b hb=>by have h9:b<w.heap.size+1:=hb;omega));have HU4:=hid hU4;clear hU4 f3;by_cases hL1:(L.length:Int)<1
           all_goals
            go_wp2_with fail
            refine(TB L HL.out (.slice au L.length cu) _ 12 (·<w.heap.size+1) wr HU4.out aC aC (by first|omega|exact Int.emod_nonneg _ aC)).mono ?_
            rintro e w' ⟨z,rfl,z0,z1,rfl⟩
            go_wp2
            go_meet
            case rel=>exact⟨_,rfl,hid ⟨by omega,by omega⟩,rfl⟩
          case rest=>
           obtain⟨vv,rfl,HVV,rfl⟩:=hcut;have hvv:=HVV.out;obtain⟨hvv1,hvv2⟩:=hvv;have hrl:=hrf;have DM:Hid (∀fk,fk=(ah.fd x k r.length).kind->fk=(ah.fd x k r.length).kind):=hid (fun _ h=>h);obtain⟨fk,oK⟩:=aV ((ah.fd x k r.length).kind);rw[<-oK] at f3;have JW:=hid oK;clear oK DM;go_upto_if 94 with fail;go_cut [15] from 95 to 107 (fun q wx=>∃vv:Int,q=.int .i64 vv/\Hid ((fk=1->0<=vv/\vv<ah.fW W (ah.dV x k r.length))/\ -100<=vv/\vv<=100)/\Hid (BL wr wx))
           case first=>
            by_cases Yd:fk=1
            ·subst Yd
             have hup:=ah.uW x k r.length aC;have acM:0<=ah.dV x k r.length:=HX.out k r.length hlt (by rw[gm hlt,<-HNF.out];exact hrf) JW.out.symm;have hpos:=HP.out hm1 r.length hrf JW.out.symm;go_wp2_with fail;refine(FL x k r.length _ (·<w.heap.size+1) wr (HSV.out.keep (aB.aQ TF.out (fun b hb=>by have h9:b<w.heap.size+1:=hb;omega))) ⟨by omega,by omega⟩ ⟨by omega,by omega⟩).mono ?_;rintro e w6 ⟨rfl,tX⟩;have jS:=hid tX;obtain⟨q,hq⟩:∃q:Nat,ah.dV x k r.length=(q:Int):=⟨(ah.dV x k r.length).toNat,by omega⟩;have HQ:=hid hq;rw[hq] at hup acM hpos ⊢;have hqk:q<k:=by omega
             have hq1:(q:Int)<x.ai.length:=by omega
             have hqW:q<(W.set k rows).length:=by rw[List.length_set];omega
             have hO6:=bY.sl (cC.keep Xc.out (aB.below (cO f9.out tX)));obtain⟨uq,cq, -,hrq⟩:=gQ.at hO6 hqW;obtain⟨aq,cpq,rfl, -, -, -⟩:=hrq.form;simp only[gZ,ig,Nat.zero_add] at cq
             have hle:(W.set k rows)[q].length=ah.fW W (q:Int):=by
              rw[List.getElem_set_ne aC,ah.fW,Int.toNat_natCast,jA,kK aC];rfl
             have hskq:dI (some ⟨g0,0,none⟩) x.ai.length:=fun _=>⟨_,_,rfl⟩;rw[hle] at cq;clear hO6 hrq hle tX hq f3 y5 x0 x1 x2 x3;obtain⟨lq,hlq⟩:=aV (ah.fW W (q:Int));rw[<-hlq] at cq hpos;have HLQ:=hid hlq;clear hlq;have hlq1:¬(lq:Int)<1:=by omega
             have hlq2:(1:Int)<=lq:=by omega
             have hq00:¬(q:Int)<0:=by omega
             have hmd:=Int.emod_lt_of_pos (vv+2) (show (0:Int)<lq by omega);have afy:=Int.emod_nonneg (vv+2) (show (lq:Int)≠0 by omega)
             have hmd2:(vv+2) % (lq:Int)<=vv+2:=by
              have h1:=Int.emod_add_mul_ediv (vv+2) lq;have h2:=Int.mul_nonneg (show (0:Int)<=lq by omega) (Int.ediv_nonneg (show 0<=vv+2 by omega) (show (0:Int)<=lq by omega));omega
             have HV:Hid ((1=(1:Int)->0<=(vv+2) % (lq:Int)/\(vv+2) % (lq:Int)<ah.fW W (ah.dV x k r.length))/\ -100<=(vv+2) % (lq:Int)/\(vv+2) % (lq:Int)<=100):=hid ⟨fun _=>⟨afy,by rw[HQ.out,<-HLQ.out];exact hmd⟩,by omega,by omega⟩;clear hmd afy hmd2;go_wp2;go_meet;case rel=>exact⟨_,rfl,HV,jS⟩
            ·have hbf:(fk==1)=false:=GW Yd
             have HNR:Hid (¬fk=1):=hid Yd;clear Yd;go_wp2;go_meet;case rel=>exact⟨vv,rfl,hid ⟨fun h=>absurd h HNR.out,by omega,by omega⟩,hid ay⟩
           case rest=>
            clear hvv1 hvv2 HVV f3 y5 x0 x1 x2 x3;obtain⟨vv,rfl,HVV,lM⟩:=hcut;have HI7:=hid (bP.keep HI.out (aB.below lM.out));have hz7:=lM.out.size;go_wp2_with (at_builtin;go_must (refine lQ rfl _ _ rfl Tryz.MH rfl HI7.out (ay.alloc aH _) rfl (tA mJ wc _ vv rfl trivial) aC ?_));intro v' w8 Ye Dj;obtain⟨r2,AJ⟩:=aV (r++[vv]);rw[<-AJ] at Ye;have hl2:r2.length=r.length+1:=by rw[AJ];simp
            obtain⟨a2,c2,rfl, -, -, -⟩:=(dr.sl Ye).form;have Q0:Hid (dr (wi.heap.size<=·) w8 (.slice a2 r2.length c2) r2):=hid (bP.mono Ye (fun b _ hb=>gX aC b hb));have oT:Hid (BL wi w8):=hid (((cO f9.out lM.out).alloc aC _).trans (Dj.below mV (fun b hb=>HI7.out.2 b hb.symm)))
            have WY:Hid (∀(j:Nat) (h:j<r2.length),((ah.fd x k j).kind=1->0<=r2[j]/\r2[j]<ah.fW W (ah.dV x k j))/\ -100<=r2[j]/\r2[j]<=100):=hid (fun j hj=>by
             subst AJ;by_cases Yf:j<r.length
             ·rw[RW Yf];exact Ky.out j Yf
             ·have e:j=r.length:=by omega
              subst e;rw[XM aH];simp only[Nat.sub_self,List.getElem_cons_zero];rw[<-JW.out];exact HVV.out)
            have eC:=hid hl2;clear Ye Dj AJ hl2 HI7 Ky HI HVV lM;go_wp2;go_roundw;case rel=>exact⟨a4+1,r2,a2,c2,by have:=eC.out;omega,by have:=eC.out;omega,by go_num,rfl,by rw[eC.out];go_num,Q0,WY,oT⟩
            simp[intOf];have:=eC.out;omega
         ·have acN:r.length=nf:=by omega
          have HRK:Hid (ah.Ep x k W r):=hid ⟨by rw[acN,gm hlt,HNF.out],Ky.out⟩;have HRN:=hid acN;clear acN;have hkX:k<(W.set k rows).length:=by rw[List.length_set];exact oL
          obtain⟨g,Yg,uu,TT,e1,e2,e3,O1,hcg,hfg,GD,Nh, -,hback⟩:=iM.borrow gF Xc.out k hkX
          have hgg:g0=g:=by
           exact Ic
          subst hgg;rw[List.getElem_set_self] at GD;obtain⟨ag,cg,rfl, -, -, -⟩:=(lP.sl GD).form;have hgl:g0<wi.heap.size:=xN wi ⟨g0,k,none⟩ hcg;have hcg2:=(f9.out.cell (p:=⟨g0,k,none⟩) hgl).trans hcg;have HRg:=hid GD;have Rl:=hid (fun w2 u'=>hback w2 u' (rows++[r]));have afz:=hid Nh;have acO:dI (some ⟨g0,0,none⟩) x.ai.length:=fun _=>⟨_,_,rfl⟩;have oU:=f9.out;clear e1 e2 e3 GD Nh hback hcg hfg;go_wp2_with (at_builtin;go_must (refine vI bP rfl _ _ rfl Tryz.aae rfl HRg.out oU rfl r HI.out rfl aC ?_));intro v' w9 hR9 Bt;obtain⟨rw2,Yh⟩:=aV (rows++[r]);have HBk2:=Rl.out w9 v' ((Turns.aQ oU).trans (Bt.mono fun b _ hb=>HRg.out.1 b hb.symm)) hR9;obtain⟨k1,k2,k3,k4⟩:=HBk2;rw[List.set_set,<-Yh] at k3;have hl2:rw2.length=rows.length+1:=by rw[Yh];simp
          have uD:Hid (bY (W1.heap.size<=·) (w9.setCell ⟨g0,k,none⟩ v') (.slice (some ⟨g0,0,none⟩) x.ai.length x.ai.length) (W.set k rw2)):=hid (cC.mono k3 (fun b _ hb=>gX Eo b hb))
          have Bv:Hid (BL W1 (w9.setCell ⟨g0,k,none⟩ v')):=hid (bZ.out.trans (k4.below Eo (fun b hb=>by
           rcases hb with hb|hb
           ·exact(afz.out b hb).1
           ·rw[hb];exact O1)))
          have GF:Hid (tt+rw2.length=ah.total (W.set k rw2)):=hid (by
           have t1:=ah.pI oL rows
           have t2:=ah.pI oL rw2
           have t3:=Dd.out
           omega)
          have HU9:Hid (ah.tW x (k+1) (W.set k rw2)):=hid (by
           rw[Yh]
           exact ah.tW.snoc HX.out oL HU3.out HRK.out (by have t3:=Dd.out;omega))
          obtain⟨av,lv,cv,rfl⟩:∃a l c,v'=.slice a l c:=by obtain⟨a,c,e,_⟩:=(lP.sl hR9).form;exact⟨_,_,_,e⟩
          have eC:=hid hl2;clear hR9 Bt k3 k4 Yh hl2 Rl HRg afz Dd HU3 Xc HI Ky;go_wp2;go_roundw;case rel=>exact⟨a4,mn+1,rw2,by have:=eC.out;omega,by have:=eC.out;have:=HRN.out;omega,by have:=HMN.out;omega,rfl,by go_num,by rw[eC.out];go_num,hid (by have:=eC.out;have:=HMN.out;omega),GF,HU9,uD,Bv⟩
          simp[intOf];have:=eC.out;omega
       ·clear y3
        go_wp2;go_roundw;case rel=>exact⟨k+1,a',W.set k rows,by omega,by omega,rfl,by rw[<-Dd.out,HMN.out],by go_num,HU3,Xc,bZ⟩
        simp[intOf];omega
  ·have hkk:k=x.ai.length:=by omega
   go_wp2;go_ret;exact⟨_,W,rfl,HU.out.done,cC.mono HO.out (fun b _ hb=>by have h9:W1.heap.size<=b:=hb;show w.heap.size<=b;omega),bf.out.trans (HB.out.mono aC)⟩
end Go.Proofs.YteiakkfdchnddaaGreatDoor
namespace Go.Proofs.YteiakkfdchnddaaGreatDoor.ah
def jX(f:dh):Prop:=dB f=true/\cL f<=100
theorem Ni:∀(k f n:Nat),n<10 ^ (k+1)->Bg f n<=k+1
 |_,0,_,_=>by unfold Bg;omega
 |0,f+1,n,h=>by unfold Bg;rw[if_pos uO];omega
 |k+1,f+1,n,h=>by
  unfold Bg;split
  ·omega
  ·have:=Ni k f (n / 10) (by rw[Nat.div_lt_iff_lt_mul aC];rw[Nat.pow_succ] at h;omega)
   omega
theorem fC{n:Int}(h0: -1000000<n)(h1:n<1000000):dQ n<=7:=by
 unfold dQ;have:=Ni 5 40 n.natAbs mV;split<;>omega
theorem su{n a b:Int}(h0:a<=n)(h1:n<=b):tT n a b=true:=by
 simp[tT,h0,h1]
theorem pJ{lo hi a b:Int}(h0:a<=lo)(h1:lo<=hi)(h2:hi<=b):gI lo hi a b=true:=by
 simp[gI,h0,h1,h2]
theorem pK{s:Nm}(h:s.size<=12):eP s<=12:=by
 unfold eP;split<;>omega
theorem iF{s:Nm}(h:aU s=true):s.size<=12:=by
 unfold aU at h;simp only[kJ,lE] at h;omega
theorem TH{nm:Nm}{lo hi:Int}(hn:aU nm=true)(h:Ord lo hi):jX ⟨nm,nil,nil,2,lo,hi,[],[]⟩:=by
 obtain⟨h1,h2,h3⟩:=h;refine⟨?_,?_⟩
 ·have e:gI lo hi (-1048576) 1048576=true:=pJ aC h2 aC
  simp[dB,ou,nC,e,hn]
 ·have d1:=fC (n:=lo) aC aC
  have d2:=fC (n:=hi) aC aC;have es:=iF hn;simp[cL,uj];omega
theorem TI{nm o:Nm}{lo hi:Int}(hn:aU nm=true)(ho:o=nil\/aU o=true)(h:Ord lo hi):jX ⟨nm,o,nil,4,lo,hi,[],[]⟩:=by
 obtain⟨h1,h2,h3⟩:=h;have e:gI lo hi (-1048576) 1048576=true:=pJ aC h2 aC;have d1:=fC (n:=lo) aC aC;have d2:=fC (n:=hi) aC aC;have es:=iF hn
 have eo:eP o<=12:=by
  rcases ho with rfl|ho
  ·decide
  ·exact pK (iF ho)
 refine⟨?_,?_⟩
 ·rcases ho with rfl|ho
  ·simp[dB,ou,nC,e,hn]
  ·simp[dB,ou,nC,e,hn,ho]
 ·simp[cL,uj];omega
theorem Yi{lo hi:Int}(h0:0<=lo)(h1:lo<=hi)(h2:hi<=10):jX (oJ lo hi):=by
 have e:gI lo hi 0 32=true:=pJ h0 h1 aC;have d1:=fC (n:=lo) aC aC;have d2:=fC (n:=hi) aC aC;have en:aU qm=true:=by decide
 have eo:aU qV=true:=by decide
 have es:qm.size=5:=rfl;have e2:eP qV<=12:=by decide
 refine⟨?_,?_⟩
 ·simp[dB,ou,nC,oJ,e,en,eo]
 ·simp[cL,oJ,uj,es];omega
theorem afA{a:Int}(h0: -3<=a)(h1:a<=100):jX (xO a):=by
 have e:tT a (-1048576) 1048576=true:=su aC aC;have d1:=fC (n:=a) aC aC;have en:aU XQ=true:=by decide
 have es:XQ.size=2:=rfl;refine⟨?_,?_⟩
 ·simp[dB,ou,nC,xO,e,en]
 ·simp[cL,xO,uj,es];omega
theorem aaL{nm o:Nm}{lo hi:Int}(hn:aU nm=true)(ho:aU o=true)(h0:0<=lo)(h1:lo<=hi)(h2:hi<=100):jX ⟨nm,o,nil,1,lo,hi,[],[]⟩:=by
 have e:gI lo hi 0 65536=true:=pJ h0 h1 aC;have d1:=fC (n:=lo) aC aC;have d2:=fC (n:=hi) aC aC;have es:=iF hn;have eo:eP o<=12:=pK (iF ho);refine⟨?_,?_⟩
 ·simp[dB,ou,nC,e,hn,ho]
 ·simp[cL,uj];omega
theorem TJ{s:Nm}(hs:aU s=true):jX (qW s):=by
 have en:aU Bk=true:=by decide
 have eu:aU vW=true:=by decide
 have e1:Bk.size=4:=rfl;have e2:vW.size=2:=rfl;have es:=iF hs;refine⟨?_,?_⟩
 ·simp[dB,ou,nC,qW,en,eu,hs]
 ·simp[cL,qW,uj,e1,e2];omega
theorem TK{lo hi:Int}(h0:0<=lo)(h1:lo<=hi)(h2:hi<=20):jX (nD lo hi):=by
 have e:gI lo hi 0 1048576=true:=pJ h0 h1 aC;have d1:=fC (n:=lo) aC aC;have d2:=fC (n:=hi) aC aC;have en:aU zi=true:=by decide
 have eu:aU vW=true:=by decide
 have et:aU fH=true:=by decide
 have e1:zi.size=4:=rfl;have e2:vW.size=2:=rfl;have e3:fH.size=5:=rfl;refine⟨?_,?_⟩
 ·simp[dB,ou,nC,nD,en,eu,et,e]
 ·simp[cL,nD,uj,e1,e2,e3];omega
theorem Yj{s:Nm}(hs:aU s=true):jX (gL s):=by
 have en:aU fH=true:=by decide
 have e1:fH.size=5:=rfl;have es:=iF hs;refine⟨?_,?_⟩
 ·simp[dB,ou,nC,gL,en,hs]
 ·simp[cL,gL,uj,e1];omega
theorem Et:∀(ws:List Nm) (gs:List Int),(∀w∈ws,w.size<=12)->(∀g∈gs,0<=g/\g<=5)->kr ws gs<=21*ws.length
 |[],gs,_,_=>by cases gs<;>simp[kr]
 |w::ws,[],_,_=>by simp[kr]
 |w::ws,g::gs,hw,hg=>by
  have h1:=hw w aZ;have h2:=hg g aZ;have h3:=Et ws gs (fun x hx=>hw x (by simp[hx])) (fun x hx=>hg x (by simp[hx]));have h4:=fC (n:=g) aC aC;simp[kr];omega
theorem afB{n:Nat}{gs:List Int}(h1:1<=n)(h2:n<=3)(hl:gs.length=n)(hg:∀g∈gs,0<=g/\g<=5)(hs:0<uT gs):jX (DB (gU.take n) gs):=by
 have hlen:(gU.take n).length=n:=by simp[gU];omega
 have hw:∀w∈gU.take n,aU w=true:=by
  intro w hw;have:=List.mem_of_mem_take hw;have e:gU.all aU=true:=by decide
  exact List.all_eq_true.1 e w this
 have en:aU Af=true:=by decide
 have e1:Af.size=3:=rfl;have hne:gs≠[]:=by intro h;rw[h] at hl;simp at hl;omega
 refine⟨?_,?_⟩
 ·have hp:lG (gU.take n) gs=true:=by
   have a1:gs.all (fun n=>tT n 0 1048576)=true:=List.all_eq_true.2 fun g hx=>su (hg g hx).1 (by have:=(hg g hx).2;omega)
   have a2:tT (gU.take n).length 1 12=true:=su aC aC
   have a3:(gU.take n).all aU=true:=List.all_eq_true.2 hw
   unfold lG
   rw[a1,a2,a3]
   simp[hs,hlen,hl]
  simp[dB,ou,nC,DB,en,hp]
 ·have hp:=Et (gU.take n) gs (fun w hx=>iF (hw w hx)) hg
  rw[hlen] at hp;have d:=fC (n:=(n:Int)) aC aC;simp only[cL,DB,uj,e1,hlen];simp;omega
theorem ez.v{l:List dh}(h:ez l):∀f∈l,jX f:=by
 have e1:aU iP=true:=by decide
 have e2:aU pq=true:=by decide
 have e3:aU zj=true:=by decide
 have e4:aU mw=true:=by decide
 have e5:aU lT=true:=by decide
 intro f hf;cases h with
 |none=>simp at hf
 |size lo hi h=>simp at hf;subst hf;exact TH e1 h
 |tag n gs h1 h2 h3 h4 h5=>simp at hf;subst hf;exact afB h1 h2 h3 h4 h5
 |born lo hi lo' hi' h h'=>
  rcases (by simpa using hf:f=rQ lo hi\/f=um lo' hi') with rfl|rfl
  ·exact TI e2 (.inl rfl) h
  ·exact TI e3 (.inr e2) h'
 |state lo hi h1 h2 h3=>simp at hf;subst hf;exact Yi h1 h2 h3
 |low lo hi lo' hi' h h'=>
  rcases (by simpa using hf:f=DC lo hi\/f=rR lo' hi') with rfl|rfl
  ·exact TH e4 h
  ·exact TH e5 h'
def Cop(f:dh):Prop:=f.kind=2\/f.kind=3\/f.kind=4\/f.kind=5\/f.kind=8
def fs(ks:List eZ)(i:Nat):List dh:=(jC ks i).aA
def Up(ks:List eZ)(i j u:Nat):Prop:=u<i/\∃j' g,j'<j/\(fs ks i)[j']?=some g/\g.name=vW/\g.kind=1/\g.of=bT u
structure DN(ks:List eZ)(i j:Nat)(f:dh):Prop where
 val:jX f
 ref:f.kind=1->∃u,u<i/\f.of=bT u
 time:f.kind=4->f.of=nil\/∃j' g,j'<j/\(fs ks i)[j']?=some g/\g.name=f.of/\g.kind=4
 life:f.kind=5->f.of=qV
 sum:f.kind=6->f.name=fH/\∃o j' g,i<o/\o<ks.length/\f.of=bT o/\(fs ks o)[j']?=some g/\g.kind=7/\Up ks o j' i
 part:f.kind=7->f.name=zi/\f.of=fH/\f.up=vW/\∃u,Up ks i j u/\∃t,t∈fs ks u/\t.name=fH/\t.kind=6/\t.of=bT i
 same:f.kind=8->f.up=vW/\∃u,Up ks i j u/\∃t,t∈fs ks u/\t.name=f.of/\Cop t
structure O2(ks:List eZ)(i:Nat):Prop where
 span:0<=(jC ks i).lo/\(jC ks i).lo<=(jC ks i).hi/\(jC ks i).hi<=20
 nodup:((fs ks i).map dh.name).Nodup
 head:∃f l,fs ks i=f::l/\f.kind=0/\∀g∈l,g.kind≠0
 lead:∀j f,(fs ks i)[j]?=some f->DN ks i j f
def Ext(ks ks':List eZ):Prop:=ks.length<=ks'.length/\∀i,i<ks.length->∃l,fs ks' i=fs ks i++l
theorem Ext.get{ks ks':List eZ}(h:Ext ks ks'){i j:Nat}{f:dh}(hi:i<ks.length)(hf:(fs ks i)[j]?=some f):(fs ks' i)[j]?=some f:=by
 obtain⟨l,e⟩:=h.2 i hi;rw[e,List.getElem?_append_left (by have:=List.getElem?_eq_some_iff.1 hf;obtain⟨h,_⟩:=this;exact h)];exact hf
theorem Ext.mem{ks ks':List eZ}(h:Ext ks ks'){i:Nat}{f:dh}(hi:i<ks.length)(hf:f∈fs ks i):f∈fs ks' i:=by
 obtain⟨l,e⟩:=h.2 i hi;rw[e];exact List.mem_append_left _ hf
theorem Up.ext{ks ks':List eZ}(h:Ext ks ks'){i j u:Nat}(hi:i<ks.length)(hu:Up ks i j u):Up ks' i j u:=by
 obtain⟨h1,j',g,h2,h3,h4⟩:=hu;exact⟨h1,j',g,h2,h.get hi h3,h4⟩
theorem DN.ext{ks ks':List eZ}(h:Ext ks ks'){i j:Nat}{f:dh}(hi:i<ks.length)(hl:DN ks i j f):DN ks' i j f where
 val:=hl.val
 ref:=hl.ref
 time:=fun e=>by
  rcases hl.time e with h1|⟨j',g,h1,h2,h3⟩
  ·exact .inl h1
  ·exact .inr ⟨j',g,h1,h.get hi h2,h3⟩
 life:=hl.life
 sum:=fun e=>by
  obtain⟨h1,o,j',g,h2,h3,h4,h5,h6,h7⟩:=hl.sum e;exact⟨h1,o,j',g,h2,XO h3 h.1,h4,h.get h3 h5,h6,h7.ext h h3⟩
 part:=fun e=>by
  obtain⟨h1,h2,h3,u,h4,t,h5,h6⟩:=hl.part e;exact⟨h1,h2,h3,u,h4.ext h hi,t,h.mem (by have:=h4.1;omega) h5,h6⟩
 same:=fun e=>by
  obtain⟨h1,u,h4,t,h5,h6⟩:=hl.same e;exact⟨h1,u,h4.ext h hi,t,h.mem (by have:=h4.1;omega) h5,h6⟩
theorem AV{α:Type}{a b:List α}{j:Nat}{f:α}(h:(a++b)[j]?=some f):a[j]?=some f\/∃j',j=a.length+j'/\b[j']?=some f:=by
 by_cases hj:j<a.length
 ·rw[List.getElem?_append_left hj] at h;exact .inl h
 ·rw[List.getElem?_append_right aC] at h
  exact .inr ⟨j-a.length,by omega,h⟩
theorem wA{f:dh}(h:dB f=true):0<=f.kind/\f.kind<=8:=by
 unfold dB nC at h;simp only[kJ] at h;have h2:=h.2
 iterate 9
  split at h2;· omega
 exact absurd h2 aZ
theorem acP{f:dh}(h:dB f=true)(hc:vX f):Cop f:=by
 have h1:=wA h;obtain⟨c0,c1,c6,c7⟩:=hc;unfold Cop;omega
theorem sx{i:Nat}(h:i<3):aU (bT i)=true:=by
 have e:∀i:Fin 3,aU (bT i.1)=true:=by decide
 exact e ⟨i,h⟩
theorem pM{ks:List eZ}{i j:Nat}{f:dh}(hv:jX f)(h:f.kind=0\/f.kind=2\/f.kind=3):DN ks i j f where
 val:=hv
 ref:=fun e=>by omega
 time:=fun e=>by omega
 life:=fun e=>by omega
 sum:=fun e=>by omega
 part:=fun e=>by omega
 same:=fun e=>by omega
theorem ez.lead{ks:List eZ}{i:Nat}{l pre post:List dh}(h:ez l)(he:fs ks i=pre++(l++post)):∀(j:Nat) (f:dh),l[j]?=some f->DN ks i (pre.length+j) f:=by
 intro j f hf;have hv:=h.v f (List.mem_of_getElem? hf);cases h with
 |none=>simp at hf
 |size lo hi h=>
  have:f=Eb lo hi:=by simpa using List.mem_of_getElem? hf
  subst this;exact pM hv (.inr (.inl rfl))
 |tag n gs h1 h2 h3 h4 h5=>
  have:f=DB (gU.take n) gs:=by simpa using List.mem_of_getElem? hf
  subst this;exact pM hv (.inr (.inr rfl))
 |born lo hi lo' hi' h h'=>
  have e0:f.kind=4:=by
   rcases (by simpa using List.mem_of_getElem? hf:f=rQ lo hi\/f=um lo' hi') with rfl|rfl<;>rfl
  refine⟨hv,fun e=>by omega,fun _=>?_,fun e=>by omega,fun e=>by omega,fun e=>by omega,fun e=>by omega⟩
  match j,hf with
  |0,hf=>simp at hf;subst hf;exact .inl rfl
  |1,hf=>
   simp at hf;subst hf
   refine .inr ⟨pre.length,rQ lo hi,by omega,?_,rfl,rfl⟩
   rw[he,List.getElem?_append_right aC];simp
  |j+2,hf=>simp at hf
 |state lo hi h1 h2 h3=>
  have:f=oJ lo hi:=by simpa using List.mem_of_getElem? hf
  subst this
  have e0:(oJ lo hi).kind=5:=rfl
  exact⟨hv,fun e=>by omega,fun e=>by omega,fun _=>rfl,fun e=>by omega,fun e=>by omega,fun e=>by omega⟩
 |low lo hi lo' hi' h h'=>
  rcases (by simpa using List.mem_of_getElem? hf:f=DC lo hi\/f=rR lo' hi') with rfl|rfl<;>exact pM hv (.inr (.inl rfl))
theorem ez.names{l:List dh}(h:ez l):l.map dh.name=[]\/l.map dh.name=[iP]\/l.map dh.name=[Af]\/l.map dh.name=[pq,zj]\/l.map dh.name=[qm]\/l.map dh.name=[mw,lT]:=by
 cases h<;>simp[Eb,DB,rQ,um,oJ,DC,rR]
theorem ez.kind{l:List dh}(h:ez l):∀f∈l,f.kind≠0:=by
 intro f hf;cases h with
 |none=>simp at hf
 |size lo hi h=>simp at hf;subst hf;show (2:Int)≠0;decide
 |tag n gs h1 h2 h3 h4 h5=>simp at hf;subst hf;show (3:Int)≠0;decide
 |born lo hi lo' hi' h h'=>rcases (by simpa using hf:f=rQ lo hi\/f=um lo' hi') with rfl|rfl<;>(show (4:Int)≠0;decide)
 |state lo hi h1 h2 h3=>simp at hf;subst hf;show (5:Int)≠0;decide
 |low lo hi lo' hi' h h'=>rcases (by simpa using hf:f=DC lo hi\/f=rR lo' hi') with rfl|rfl<;>(show (2:Int)≠0;decide)
def jN:List Nm:=[XQ,vW,Bk,zi,nBy]
def Kz:List Nm:=[iP,Af,pq,zj,qm,mw,lT]
theorem Yk:∀a∈jN,∀b∈Kz,a≠b:=by decide
theorem FO{p q a:List dh}(hp:ez p)(hs:pu (a++p) q):((p++q).map dh.name).Nodup:=by
 rcases hs with rfl|⟨hq,hh⟩
 ·rw[List.append_nil]
  rcases hp.names with e|e|e|e|e|e<;>rw[e]<;>decide
 ·have hn:∀x,(q.map dh.name).head?=some x->x∉p.map dh.name:=by
   intro x hx hm
   rw[List.head?_map] at hx
   obtain⟨f,hf,rfl⟩:=Option.map_eq_some_iff.1 hx
   obtain⟨g,hg,e⟩:=List.mem_map.1 hm
   exact hh f hf g (List.mem_append_right _ hg) e
  rw[List.map_append];have hpn:=hp.names;have hqn:=hq.names;generalize p.map dh.name=P at*;generalize q.map dh.name=Q at*;rcases hpn with rfl|rfl|rfl|rfl|rfl|rfl<;>rcases hqn with rfl|rfl|rfl|rfl|rfl|rfl<;>first|decide|exact(hn _ rfl aZ).elim
theorem ez.tT{l:List dh}(h:ez l):∀n∈l.map dh.name,n∈Kz:=by
 rcases h.names with e|e|e|e|e|e<;>rw[e]<;>simp[Kz]
structure afC(L:List eZ)(n:Nat)(h:List dh):Prop where
 lead:∀j f,h[j]?=some f->DN L n j f
 head:∃f l,h=f::l/\f.kind=0/\∀g∈l,g.kind≠0
 names:h.map dh.name∈[[XQ],[XQ,vW],[XQ,vW,Bk],[XQ,vW,zi],[XQ,vW,Bk,zi]]
theorem afD{ks ks':List eZ}{k:eZ}{h post:List dh}(ho:qp ks k.name ks' h)(hn:ks.length<=2)(hk:k.name=bT ks.length)(hks:∀i,i<ks.length->(jC ks i).name=bT i)
  (hv:∀(i j:Nat) (f:dh),i<ks.length->(fs ks i)[j]?=some f->jX f)(hx:Ext ks (ks'++[k]))(hl':ks'.length=ks.length)
  (hu:∀i,i<ks.length->fs (ks'++[k]) i=fs ks' i)(he:fs (ks'++[k]) ks.length=h++post):afC (ks'++[k]) ks.length h:=by
 obtain⟨a,h1,h2,⟨_,_,rfl⟩|⟨t,ht,lo,hi,s,p,h3,h4,h5,h6,hs,hp,rfl⟩⟩:=ho
 ·refine⟨fun j f hf=>?_,⟨_,_,rfl,rfl,by simp⟩,by simp[xO]⟩
  have:f=xO a:=by simpa using List.mem_of_getElem? hf
  subst this;exact pM (afA h1 h2) (.inl rfl)
 ·rw[hks t ht] at he ⊢
  have hU:∀j,2<=j->Up (ks'++[k]) ks.length j t:=fun j hj=>⟨ht,1,Da (bT t) lo hi,by omega,by rw[he];rfl,rfl,rfl,rfl⟩
  have vS:∀f∈s,jX f/\f.kind=8/\∀j,2<=j->DN (ks'++[k]) ks.length j f:=by
   intro f hf;rcases hs with rfl|⟨c,hc,hcc,rfl⟩
   ·simp at hf
   ·have hm:(jC ks t).aA[c]∈fs ks t:=gY hc
    have hv1:=hv t c _ ht (kK hc)
    have hnm:aU (jC ks t).aA[c].name=true:=by
     have:=hv1.1;unfold dB at this;simp only[kJ] at this;exact this.1.1
    rw[nU.1 hf];have e0:(qW (jC ks t).aA[c].name).kind=8:=rfl;refine⟨TJ hnm,e0,fun j hj=>⟨TJ hnm,fun e=>by omega,fun e=>by omega,fun e=>by omega,fun e=>by omega,fun e=>by omega,fun _=>⟨rfl,t,hU j hj,_,hx.mem ht hm,rfl,acP hv1.1 hcc⟩⟩⟩
  have vP:∀f∈p,jX f/\f.kind=7/\∀j,2<=j->DN (ks'++[k]) ks.length j f:=by
   intro f hf;rcases hp with⟨rfl,_⟩|⟨lo',hi',q1,q2,q3,rfl,q4,q5⟩
   ·simp at hf
   ·rw[nU.1 hf]
    have e0:(nD lo' hi').kind=7:=rfl;refine⟨TK q1 q2 q3,e0,fun j hj=>⟨TK q1 q2 q3,fun e=>by omega,fun e=>by omega,fun e=>by omega,fun e=>by omega,fun _=>⟨rfl,rfl,rfl,t,hU j hj,gL k.name,?_,rfl,rfl,hk⟩,fun e=>by omega⟩⟩;rw[hu t ht,q5];show _∈((ks.set t (fB (jC ks t) k.name)).getD t G6).aA
    rw[jA,List.getElem?_set_self ht];simp[fB]
  have nS:s.map dh.name=[]\/s.map dh.name=[Bk]:=by
   rcases hs with rfl|⟨c,hc,hcc,rfl⟩
   ·exact .inl rfl
   ·exact .inr rfl
  have nP:p.map dh.name=[]\/p.map dh.name=[zi]:=by
   rcases hp with⟨rfl,_⟩|⟨lo',hi',q1,q2,q3,rfl,q4,q5⟩
   ·exact .inl rfl
   ·exact .inr rfl
  have vO:jX (Da (bT t) lo hi):=aaL qg (sx aC) h3 aC aC;refine⟨fun j f hf=>?_,⟨_,_,rfl,rfl,?_⟩,?_⟩
  ·match j,hf with
   |0,hf=>simp at hf;subst hf;exact pM (afA h1 h2) (.inl rfl)
   |1,hf=>
    simp at hf;subst hf
    have e0:(Da (bT t) lo hi).kind=1:=rfl
    exact⟨vO,fun _=>⟨t,ht,rfl⟩,fun e=>by omega,fun e=>by omega,fun e=>by omega,fun e=>by omega,fun e=>by omega⟩
   |j+2,hf=>
    have hm:f∈s++p:=List.mem_of_getElem? (by simpa using hf)
    rcases List.mem_append.1 hm with hm|hm
    ·exact(vS f hm).2.2 _ aC
    ·exact(vP f hm).2.2 _ aC
  ·intro g hg
   rcases kM.1 hg with rfl|hg
   ·show (1:Int)≠0;decide
   ·rcases List.mem_append.1 hg with hm|hm
    ·have:=(vS g hm).2.1;omega
    ·have:=(vP g hm).2.1;omega
  ·rw[List.map_cons,List.map_cons,List.map_append]
   rcases nS with e1|e1<;>rcases nP with e2|e2<;>rw[e1,e2]<;>simp[xO,Da]
theorem TL{ks ks':List eZ}{k:eZ}(hk:rS ks ks' k)(hks:∀i,i<ks.length->(jC ks i).name=bT i)
  (hv:∀(i j:Nat) (f:dh),i<ks.length->(fs ks i)[j]?=some f->jX f)(hx:Ext ks (ks'++[k]))(hl':ks'.length=ks.length)
  (hu:∀i,i<ks.length->fs (ks'++[k]) i=fs ks' i)(he:jC (ks'++[k]) ks.length=k):O2 (ks'++[k]) ks.length:=by
 obtain⟨hn,hkn,s1,s2,s3,h,y,p,q,ho,hy,hp,hq,hf⟩:=hk
 have Ai:fs (ks'++[k]) ks.length=h++(y++(p++q)):=by
  show (jC (ks'++[k]) ks.length).aA=_
  rw[he,hf];simp
 have hG:=afD ho hn hkn hks hv hx hl' hu Ai
 have nY:y.map dh.name=[]\/y.map dh.name=[nBy]:=by
  rcases hy with rfl|⟨_,rfl⟩
  ·exact .inl rfl
  ·exact .inr rfl
 have lY:∀f∈y,f.kind≠0/\∀j,DN (ks'++[k]) ks.length j f:=by
  intro f hfy;rcases hy with rfl|⟨h1,rfl⟩
  ·simp at hfy
  ·have hh:ks=[]->False:=by intro e;rw[hl',e] at h1;exact absurd h1 aZ
   have hpos:0<ks.length:=by omega
   have hnm:(jC ks' 0).name=bT 0:=by
    have h3:jC (ks'++[k]) 0=jC ks' 0:=by
     unfold jC;rw[jA,jA,List.getElem?_append_left aC]
    rcases ho with⟨_,_,_,⟨e,_⟩|⟨t,ht,_,_,_,pp,_,_,_,_,_,hpp,_⟩⟩
    ·exact(hh e).elim
    ·rcases hpp with⟨_,rfl⟩|⟨_,_,_,_,_,_,_,rfl⟩
     ·exact hks 0 hpos
     ·rw[jC,jA,List.getElem?_set]
      split
      ·rename_i e0
       subst e0;simp[fB,hks 0 hpos]
      ·rw[<-jA]
       exact hks 0 hpos
   rw[hnm] at hfy;rw[nU.1 hfy];have e0:(RX (bT 0)).kind=1:=rfl;have vB:jX (RX (bT 0)):=aaL qg (sx aC) aC aC aC;exact⟨by omega,fun j=>⟨vB,fun _=>⟨0,hpos,rfl⟩,fun e=>by omega,fun e=>by omega,fun e=>by omega,fun e=>by omega,fun e=>by omega⟩⟩
 refine⟨by rw[he];exact⟨s1,s2,s3⟩,?_,?_,?_⟩
 ·rw[Ai,<-List.append_assoc,List.map_append,List.nodup_append]
  refine⟨?_,FO hp hq,fun a ha b hb=>Yk a ?_ b ?_⟩
  ·rw[List.map_append]
   have:=hG.names;simp only[kM,List.mem_nil_iff,or_false] at this;rcases this with e|e|e|e|e<;>rcases nY with e2|e2<;>rw[e,e2]<;>decide
  ·rw[List.map_append] at ha
   have:=hG.names;simp only[kM,List.mem_nil_iff,or_false] at this;rcases List.mem_append.1 ha with ha|ha
   ·have hA:∀n,n∈h.map dh.name->n∈jN:=by
     rcases this with e|e|e|e|e<;>rw[e]<;>simp[jN]
    exact hA a ha
   ·rcases nY with e|e<;>rw[e] at ha<;>simp at ha;simp[ha,jN]
  ·rw[List.map_append] at hb
   rcases List.mem_append.1 hb with hb|hb
   ·exact hp.tT b hb
   ·exact hq.plain.tT b hb
 ·obtain⟨f,l,rfl,h1,h2⟩:=hG.head
  refine⟨f,l++(y++(p++q)),Ai,h1,fun g hg=>?_⟩;simp only[List.mem_append] at hg;rcases hg with hg|hg|hg|hg
  ·exact h2 g hg
  ·exact(lY g hg).1
  ·exact hp.kind g hg
  ·exact hq.plain.kind g hg
 ·intro j f hj
  rw[Ai] at hj;rcases AV hj with k1|⟨j1,e1,k1⟩
  ·exact hG.lead j f k1
  ·rcases AV k1 with k2|⟨j2,e2,k2⟩
   ·exact(lY f (List.mem_of_getElem? k2)).2 _
   ·rcases AV k2 with k3|⟨j3,e3,k3⟩
    ·have:=hp.lead (pre:=h++y) (post:=q) (by rw[Ai];simp) j2 f k3
     rw[rG,Nat.add_assoc,<-e2,<-e1] at this;exact this
    ·have:=hq.plain.lead (pre:=h++y++p) (post:=[]) (by rw[Ai];simp) j3 f k3
     rw[rG,rG,Nat.add_assoc,Nat.add_assoc,<-e3,<-e2,<-e1] at this;exact this
theorem TM{ks ks':List eZ}{k:eZ}(hk:rS ks ks' k)(hi:∀i,i<ks.length->O2 ks i)(hx:Ext ks (ks'++[k]))(hl':ks'.length=ks.length)
  (hks:∀i,i<ks.length->(jC ks i).name=bT i)
  (he:jC (ks'++[k]) ks.length=k)(hu:∀i,i<ks.length->jC (ks'++[k]) i=jC ks' i):∀i,i<ks.length->O2 (ks'++[k]) i:=by
 intro i hi0;have hI:=hi i hi0;obtain⟨hn,hkn,s1,s2,s3,h,y,p,q,ho,hy,hp,hq,hf⟩:=hk
 have keep:jC ks' i=jC ks i->O2 (ks'++[k]) i:=by
  intro e
  have e2:fs (ks'++[k]) i=fs ks i:=by
   show (jC _ i).aA=_
   rw[hu i hi0,e];rfl
  refine⟨by rw[hu i hi0,e];exact hI.span,by rw[e2];exact hI.nodup,by rw[e2];exact hI.head,fun j f hj=>?_⟩;rw[e2] at hj;exact(hI.lead j f hj).ext hx hi0
 obtain⟨a,h1,h2,⟨_,rfl,_⟩|⟨t,ht,lo,hi',s,pp,h3,h4,h5,h6,hs,hpp,hh⟩⟩:=ho
 ·exact keep rfl
 ·rcases hpp with⟨_,rfl⟩|⟨lo',hi2,q1,q2,q3,hpa,q4,q5⟩
  ·exact keep rfl
  ·by_cases hit:i=t
   ·subst hit
    have e1:jC ks' i=fB (jC ks i) k.name:=by
     rw[q5,jC,jA,List.getElem?_set_self ht];rfl
    have e2:fs (ks'++[k]) i=fs ks i++[gL k.name]:=by
     show (jC _ i).aA=_
     rw[hu i hi0,e1];rfl
    refine⟨by rw[hu i hi0,e1];exact hI.span,?_,?_,fun j f hj=>?_⟩
    ·rw[e2,List.map_append,List.nodup_append]
     refine⟨hI.nodup,by simp,fun x hx y hy=>?_⟩;obtain⟨g,hg,rfl⟩:=List.mem_map.1 hx;have:y=fH:=by simpa [gL] using hy
     subst this;exact q4 g hg
    ·obtain⟨f,l,e3,h7,h8⟩:=hI.head
     refine⟨f,l++[gL k.name],by rw[e2,e3];rfl,h7,fun g hg=>?_⟩;rcases List.mem_append.1 hg with hg|hg
     ·exact h8 g hg
     ·rw[nU.1 hg];show (6:Int)≠0;decide
    ·rw[e2] at hj
     rcases AV hj with k1|⟨j1,ej,k1⟩
     ·exact(hI.lead j f k1).ext hx hi0
     ·have:f=gL k.name:=by simpa using List.mem_of_getElem? k1
      subst this;have vT:jX (gL k.name):=Yj (by rw[hkn];exact sx aC);have e0:(gL k.name).kind=6:=rfl
      have Ai:fs (ks'++[k]) ks.length=xO a::Da (jC ks i).name lo hi'::(s++(nD lo' hi2::(y++(p++q)))):=by
       show (jC (ks'++[k]) ks.length).aA=_
       rw[he,hf,hh,hpa];simp
      refine⟨vT,fun e=>by omega,fun e=>by omega,fun e=>by omega,fun _=>⟨rfl,ks.length,s.length+2,nD lo' hi2,hi0,by simp[hl'],hkn,?_,rfl,hi0,1,Da (jC ks i).name lo hi',by omega,by rw[Ai];rfl,rfl,rfl,hks i hi0⟩,fun e=>by omega,fun e=>by omega⟩;rw[Ai];simp
   ·exact keep (by
     rw[q5,jC,jA,List.getElem?_set_ne (fun e=>hit e.symm),<-jA];rfl)
theorem Db.inv{ks:List eZ}(h:Db ks):∀i,i<ks.length->O2 ks i:=by
 induction h with
 |nil=>intro i hi;exact absurd hi aZ
 |snoc ks ks' k hg hk ih=>
  have hgd:=hg.good
  have hl':=hk.le.2.2
  have hks:∀i,i<ks.length->(jC ks i).name=bT i:=fun i hi=>by
   rw[jC,jA,kK hi];exact hgd.2.2 i hi
  have hu:∀i,i<ks.length->jC (ks'++[k]) i=jC ks' i:=fun i hi=>by
   unfold jC;rw[jA,jA,List.getElem?_append_left aC]
  have he:jC (ks'++[k]) ks.length=k:=by
   unfold jC;rw[jA,List.getElem?_append_right aC,hl',Nat.sub_self];rfl
  have hx:Ext ks (ks'++[k]):=⟨by simp[hl'],fun i hi=>by
   show ∃l,(jC _ i).aA=(jC ks i).aA++l
   rw[hu i hi];rcases hk.old with rfl|⟨t,ht,_,rfl⟩
   ·exact⟨[],by simp⟩
   ·by_cases e:i=t
    ·subst e
     exact⟨[gL k.name],by rw[jC,jA,List.getElem?_set_self ht,jC,jA,kK ht];rfl⟩
    ·exact⟨[],by rw[jC,jA,List.getElem?_set_ne (fun h=>e h.symm),<-jA,List.append_nil];rfl⟩⟩
  intro i hi
  by_cases hin:i<ks.length
  ·exact TM hk ih hx hl' hks he hu i hin
  ·have e:i=ks.length:=by simp[hl'] at hi;omega
   subst e;exact TL hk hks (fun i j f hi hf=>((ih i hi).lead j f hf).val) hx hl' (fun i hi=>by show (jC _ i).aA=_;rw[hu i hi];rfl) he
end Go.Proofs.YteiakkfdchnddaaGreatDoor.ah
