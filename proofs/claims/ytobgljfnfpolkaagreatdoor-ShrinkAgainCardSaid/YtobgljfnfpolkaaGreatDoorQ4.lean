/- Part 4 of the walks and plain laws that the proof needs (packed). -/
import Derived.Deep.DeepCutAuto
import Derived.Deep.LoopGhost
import Derived.Test.YtobgljfnfpolkaaGreatDoorQ1
import Derived.Test.YtobgljfnfpolkaaGreatDoorQ2
import Derived.Test.YtobgljfnfpolkaaGreatDoorQ3
set_option linter.all false
set_option maxRecDepth 100000
set_option maxHeartbeats 8000000
namespace Go.Proofs.YtobgljfnfpolkaaGreatDoor
open Go.RowKit
def aaU(r:ah.uY):Array Value:=#[.string r.name,.string r.kind,.string r.a,.string r.b,.int .i64 r.n]
def aaV(b N:Nat)(k:ah.dZ)(w:World)(e:Ending)(w':World):Prop:=
 (∃r bd,e=.returned (.tuple #[.agg (aaU r),.bool bd])/\(bd=true->ah.yZ k r))/\gj w' b (N+5)/\Turns (·=b) w w'
theorem qE{w:World}{g:Nat}{x0 x1 x2 x3 x4 bd:Value}{tmps:Array Value}(h:w.heap[g]?=some (.cells #[x0,x1,x2,x3,x4] 110 (0,0)))(hp:tmps[4]?=some (.pointer (some ⟨g,0,none⟩)))(hq:tmps[5]?=some bd):
  (results Tryz.f47 tmps).run Tryz.prog w=.ok (.tuple #[.agg #[x0,x1,x2,x3,x4],bd]) w:=by
 obtain⟨⟨h0,h1,h2,h3,h4⟩, -⟩:=mh h;simp[results,Tryz.results47,go_sem,hp,hq,h0,h1,h2,h3,h4]
theorem OE(b N:Nat)(hN:N<=80000)(w:World)(hm:gj w b N)(k:ah.dZ)(uf:Value)(hf:dh (fun x=>b<x) w uf k.af4)(hs:∀f∈k.af4,ah.fe f)(hn:1<=k.name.size):
  Calls Tryz.prog 47 #[.pointer (some ⟨b,0,none⟩),.agg (kC k uf).toArray] w (aaV b N k w):=by
 obtain⟨au,cu,rfl,hsk, -, -⟩:=hf.form;obtain⟨nm,lo,hi,fs⟩:=k;simp only at hf hs hn hsk;have HM:=hid hm;have HS:=hid hs;have ZO:b<w.heap.size:=hm.lt;obtain⟨W1,hW1⟩:=nmE ((w.alloc (.cells #[.string nm,.int .i64 lo,.int .i64 hi,.slice au fs.length cu] 102)).alloc (.cells #[.string {data:=#[]},.string {data:=#[]},.string {data:=#[]},.string {data:=#[]},.int .i64 0] 110));have aW:Hid (Below w.heap.size w W1):=hid (by rw[hW1];exact(aj.alloc aB _).alloc (by simp) _);have HK:Hid (W1.heap[w.heap.size]?=some (.cells #[.string nm,.int .i64 lo,.int .i64 hi,.slice au fs.length cu] 102 (0,0))):=hid (by rw[hW1];exact aG _ (aD w _ rfl));have HR:Hid (W1.heap[w.heap.size+1]?=some (.cells #[.string ah.nil,.string ah.nil,.string ah.nil,.string ah.nil,.int .i64 0] 110 (0,0))):=hid (by rw[hW1];exact aD _ _ (by simp));have HF:Hid (dh (fun x=>b<x) W1 (.slice au fs.length cu) fs):=hid (hf.keep (aA.below aW.out));have Bf:Hid (gj W1 b N):=hid (hm.keep (aA.below aW.out));obtain⟨⟨k0, -, -,k3⟩, -⟩:=aO HK.out;obtain⟨i1,hi1⟩:=nmE (ah.Bd fs ah.kM);obtain⟨i2,hi2⟩:=nmE (ah.Bd fs ah.gT);have H1:=hid (yC fs ah.kM (.slice au fs.length cu) (fun x=>b<x) W1 HF.out);have H2:=hid (yC fs ah.gT (.slice au fs.length cu) (fun x=>b<x) W1 HF.out);rw[<-hi1] at H1;rw[<-hi2] at H2;have HI1:=hid hi1;have HI2:=hid hi2;have hkb:w.heap.size≠b:=by omega
 have hrb:w.heap.size+1≠b:=by omega
 simp only[kC];clear hm hf hs hi1 hi2;go_enter Tryz.func47,Tryz.ntmps47;go_upto_region 1 with fail;rw[<-hW1];have HW:=hid hW1;clear hW1;go_wp2_with fail;refine H1.out.mono ?_;rintro e w' ⟨rfl,rfl⟩;go_wp2_with fail;refine H2.out.mono ?_;rintro e w' ⟨rfl,rfl⟩;go_upto_region 3 with fail;go_cut [21] from 15 to 21 (fun q wx=>∃bd:Bool,q=.bool bd/\Hid (bd=true->0<=i1)/\Hid (RG b W1 [] wx)/\Hid (gj wx b (N+1)))
 case first=>
  by_cases h10:0<=i1
  ·have HX:=hid h10
   go_wp2_with fail;refine(aV 3 (by omega) (by omega) b N (by omega) _ Bf.out).mono ?_;rintro e W2 ⟨t,rfl,EA,EB,hm2,ht2, -⟩;have HG:=hid ((RG.refl b W1).take (by have:=aW.out.size;omega) ht2);have vf:=hid hm2;clear hm2 ht2;go_wp2;go_meet;case rel=>exact⟨_,rfl,hid (fun _=>HX.out),HG,vf⟩
  ·go_wp2
   go_meet;case rel=>exact⟨false,rfl,hid (fun h=>by cases h),hid (RG.refl b W1),hid (Bf.out.mono (by omega))⟩
 case rest=>
  obtain⟨bd,rfl,WK,HG,vf⟩:=hcut;have mW:Hid (b<wc.heap.size):=hid vf.out.lt;have c0:wc.cell? ⟨w.heap.size,0,none⟩=some (.string nm):=(aO (HG.out.block hkb HK.out)).1.1;have c3:wc.cell? ⟨w.heap.size,3,none⟩=some (.slice au fs.length cu):=(aO (HG.out.block hkb HK.out)).1.2.2.2;have hnm:(1:Int)<=nm.size:=by omega
  clear k0 k3;cases bd with
  |true=>
   have HX:=hid (WK.out rfl)
   go_upto_region 4 with fail
   have di:=hid (RG.start b wc)
   have eB:=hid (vf.out.keep (aA.below (af5 aj 1)))
   obtain⟨V0,rF⟩:=nmE (wc.drewN 1)
   refine bU 9 (.quiet 0 (.quiet 1 (.quiet 2 (.quiet 3 (.quiet 4 (.quiet 5 (.quiet 6 (.one 7 (.quiet 8 .done))))))))) (RG b wc []) mxT (by kernel_rfl) di.out ?_
   rw[<-rF] at di eB ⊢
   clear rF
   refine ai rfl ?_
   intro hne
   go_big_quiet_step (fail)
   refine zWq ?_
   clear hne
   refine ai rfl ?_
   intro hne
   have hq:∀xh:Held (RG b wc []),xh.1.cell? ⟨w.heap.size,0,none⟩=some (.string nm):=fun xh=>RG.old xh hkb c0
   go_big_quiet_step (fail)
   refine zWq ?_
   clear hne hq
   iterate 3
    refine ai rfl ?_
    intro hne
    go_big_quiet_step (fail)
    refine zWq ?_
    clear hne
   refine ai rfl ?_
   intro hne
   have hq:∀xh:Held (RG b wc []),xh.1.cell? ⟨w.heap.size,0,none⟩=some (.string nm):=fun xh=>RG.old xh hkb c0
   go_big_quiet_step (fail)
   refine zWq ?_
   clear hne hq
   refine ai rfl ?_
   intro hne
   go_big_quiet_step (fail)
   refine zWq ?_
   clear hne
   refine aH rfl ?_
   go_wp2_with fail
   refine(aV 8 (by omega) (by omega) b (N+1) (by omega) _ eB.out).mono ?_
   rintro e V1 ⟨t',rfl,iy,iz,hm',ht', -⟩
   have WQ:=hid (di.out.take mW.out ht')
   have HMV1:=hid hm'
   clear hm' ht' di eB
   go_wp2
   refine aC (RG b wc []) (fun _ h=>h) WQ.out ?_
   refine ai rfl ?_
   intro hne
   have hq:IntKind.i64.wrap (t'-2)=t'-2:=IntWalk.i64_in _ (by omega)
   go_big_quiet_step (fail)
   refine zWq ?_
   clear hne hq
   refine aL ?_
   try simp only[zDs,zDz]
   have hR:=WQ.out.block hrb (HG.out.block hrb HR.out)
   have OG:=RE hR (.string (ah.JU++nm.extract 0 1)) (.string nm) (.string ah.kM) (.string ah.kA) (.int .i64 (t'-2))
   obtain⟨⟨z0,z1,z2,z3,z4⟩,zf⟩:=mh hR
   have qY:=hid OG
   clear hR OG
   go_wp2
   refine bodyPost_ret (qE qY.out.1 rfl rfl) rfl ⟨⟨⟨ah.JU++nm.extract 0 1,nm,ah.kM,ah.kA,t'-2⟩,true,rfl,fun _=>.inl ⟨t'-2,by omega,by omega,by have:=HX.out;rw[HI1.out] at this;exact this,rfl⟩⟩,?_,?_⟩
   ·exact(HMV1.out.mono (by omega)).keep (aA.fA qY.out.2 (fun x hx e=>by omega))
   ·exact(((Turns.aM aW.out).trans HG.out.turn).trans WQ.out.turn).into qY.out.2 (fun x hx e=>by omega)
  |false=>
   rcases ah.gE (fun f:ah.cA=>decide (f.name=ah.gT)) fs with⟨hc1, -⟩|⟨ci,hci,hc1, -, -⟩
   ·have oq:i2= -1:=HI2.out.trans hc1
    subst oq;clear hc1;have hR:=HG.out.block hrb HR.out;have OG:=RE hR (.string ah.nil) (.string ah.nil) (.string ah.nil) (.string ah.nil) (.int .i64 0);obtain⟨⟨z0,z1,z2,z3,z4⟩,zf⟩:=mh hR;have qY:=hid OG;clear hR OG;go_wp2;refine bodyPost_ret (qE qY.out.1 rfl rfl) rfl ⟨⟨⟨ah.nil,ah.nil,ah.nil,ah.nil,0⟩,false,rfl,fun h=>by cases h⟩,?_,?_⟩
    ·exact(vf.out.mono (by omega)).keep (aA.fA qY.out.2 (fun x hx e=>by omega))
    ·exact((Turns.aM aW.out).trans HG.out.turn).into qY.out.2 (fun x hx e=>by omega)
   ·have oq:i2=(ci:Int):=HI2.out.trans hc1
    have HX:Hid (0<=i2):=hid (by omega);subst oq;clear hc1;have Oq:¬(ci:Int)<0:=by omega
    have hci1:(ci:Int)<fs.length:=by omega
    have hci2:(0:Int)<=ci:=by omega
    have hF:=HF.out.keep (aA.fA HG.out.turn (fun x hx e=>by have:b<x:=hx;omega));obtain⟨-,hbu,f0,f1,f2,f3,f4,f5,uw,ug,f6,f7,hfw,hfg⟩:=hF.at hci;obtain⟨aw,cw,rfl, -, -, -⟩:=hfw.form;obtain⟨ag,cg,rfl, -, -, -⟩:=hfg.form;obtain⟨ff,A1⟩:=nmE (fs[ci]);have kW:ah.fe ff:=by rw[A1];exact HS.out _ (zGm _)
    obtain⟨s1,s2,s3,s4⟩:=kW;rw[<-A1] at f0 f1 f2 f3 f4 f5 f6 f7;clear hF A1 hfw hfg hbu;go_upto_region 8 with fail;obtain⟨W3,hW3⟩:=nmE (wc.alloc (.cells #[.string ff.name,.string ff.of,.string ff.up,.int .i64 ff.kind,.int .i64 ff.lo,.int .i64 ff.hi,.slice aw ff.agb.length cw,.slice ag ff.aga.length cg] 117));have HT0:Hid (Turns (·=b) wc W3):=hid (by rw[hW3];exact(Turns.refl _ _).alloc _);have Kg:Hid (W3.heap[wc.heap.size]?=some (.cells #[.string ff.name,.string ff.of,.string ff.up,.int .i64 ff.kind,.int .i64 ff.lo,.int .i64 ff.hi,.slice aw ff.agb.length cw,.slice ag ff.aga.length cg] 117 (0,0))):=hid (by rw[hW3];exact aD wc _ rfl);have RL:Hid (gj W3 b (N+1)):=hid (vf.out.keep (aA.fA (S:=fun x=>x<=b) (T:=fun x=>wc.heap.size<=x) (by rw[hW3];exact Turns.aM (aj.alloc aB _)) (fun x hx e=>by have:=mW.out;omega)));rw[<-hW3];clear hW3 f0 f1 f2 f3 f4 f5 f6 f7;go_wp2_with fail;refine(aV 2 (by omega) (by omega) b (N+1) (by omega) _ RL.out).mono ?_;rintro e W4 ⟨t,rfl,EA,EB,M4,zh, -⟩;have xV:Hid (Turns (·=b) wc W4):=hid (HT0.out.trans zh);have wO:wc.heap.size≠b:=by have:=mW.out;omega
    have Rl:=(zh.block wc.heap.size wO (ay Kg.out)).trans Kg.out;obtain⟨⟨-, -, -, -,g4,g5, -, -⟩, -⟩:=dn Rl;have HR3:=hid ((xV.out.block (w.heap.size+1) hrb (ay (HG.out.block hrb HR.out))).trans (HG.out.block hrb HR.out));have c0:W4.cell? ⟨w.heap.size,0,none⟩=some (.string nm):=(aO ((xV.out.block w.heap.size hkb (ay (HG.out.block hkb HK.out))).trans (HG.out.block hkb HK.out))).1.1;have Rm:=hid M4;have mW:Hid (b<W4.heap.size):=hid Rm.out.lt;clear M4 zh Rl HT0 Kg RL;by_cases ht0:t=0
    ·subst ht0
     go_upto_region 9 with fail;have di:=hid (RG.start b W4);have eB:=hid (Rm.out.keep (aA.below (af5 aj 1)));obtain⟨V0,rF⟩:=nmE (W4.drewN 1);refine bU 11 (.quiet 0 (.quiet 1 (.quiet 2 (.quiet 3 (.quiet 4 (.quiet 5 (.quiet 6 (.quiet 7 (.quiet 8 (.one 9 (.quiet 10 .done))))))))))) (RG b W4 []) mxT (by kernel_rfl) di.out ?_;rw[<-rF] at di eB ⊢;clear rF;refine ai rfl ?_;intro hne;go_big_quiet_step (fail);refine zWq ?_;clear hne;refine ai rfl ?_;intro hne;have hq:∀xh:Held (RG b W4 []),xh.1.cell? ⟨w.heap.size,0,none⟩=some (.string nm):=fun xh=>RG.old xh hkb c0;go_big_quiet_step (fail);refine zWq ?_;clear hne hq
     iterate 3
      refine ai rfl ?_
      intro hne
      go_big_quiet_step (fail)
      refine zWq ?_
      clear hne
     refine ai rfl ?_;intro hne;have hq:∀xh:Held (RG b W4 []),xh.1.cell? ⟨w.heap.size,0,none⟩=some (.string nm):=fun xh=>RG.old xh hkb c0;go_big_quiet_step (fail);refine zWq ?_;clear hne hq;refine ai rfl ?_;intro hne;go_big_quiet_step (fail);refine zWq ?_;clear hne;refine ai rfl ?_;intro hne;have hq:∀xh:Held (RG b W4 []),xh.1.cell? ⟨wc.heap.size,4,none⟩=some (.int .i64 ff.lo):=fun xh=>RG.old xh wO g4;go_big_quiet_step (fail);refine zWq ?_;clear hne hq;refine ai rfl ?_;intro hne;go_big_quiet_step (fail);refine zWq ?_;clear hne;refine aH rfl ?_;go_wp2_with fail;refine(aV 12 (by omega) (by omega) b (N+2) (by omega) _ eB.out).mono ?_;rintro e V2 ⟨t',rfl,iy,iz,hm',ht', -⟩;have WR:=hid (di.out.take mW.out ht');have HMV2:=hid hm';clear hm' ht' di eB;go_wp2;refine aC (RG b W4 []) (fun _ h=>h) WR.out ?_;refine ai rfl ?_;intro hne;have hq:IntKind.i64.wrap (ff.lo+t')=ff.lo+t':=IntWalk.i64_in _ (by omega);go_big_quiet_step (fail);refine zWq ?_;clear hne hq;refine aL ?_;try simp only[zDs,zDz]
     have hR:=WR.out.block hrb (HR3.out);have OG:=RE hR (.string (ah.JV++nm.extract 0 1)) (.string nm) (.string ah.gT) (.string ah.nil) (.int .i64 (ff.lo+t'));obtain⟨⟨z0,z1,z2,z3,z4⟩,zf⟩:=mh hR;have qY:=hid OG;clear hR OG;go_wp2;refine bodyPost_ret (qE qY.out.1 rfl rfl) rfl ⟨⟨⟨ah.JV++nm.extract 0 1,nm,ah.gT,ah.nil,ff.lo+t'⟩,true,rfl,fun _=>.inr ⟨ff.lo+t',by omega,by omega,by have:=HX.out;rw[HI2.out] at this;exact this,.inl rfl⟩⟩,?_,?_⟩
     ·exact(HMV2.out.mono (by omega)).keep (aA.fA qY.out.2 (fun x hx e=>by omega))
     ·exact(((Turns.aM aW.out).trans HG.out.turn).trans ((xV.out).trans WR.out.turn)).into qY.out.2 (fun x hx e=>by omega)
    ·have hb0:(t==0)=false:=Dl ht0
     clear ht0;go_upto_region 10 with fail;have di:=hid (RG.start b W4);have eB:=hid (Rm.out.keep (aA.below (af5 aj 1)));obtain⟨V0,rF⟩:=nmE (W4.drewN 1);refine bU 11 (.quiet 0 (.quiet 1 (.quiet 2 (.quiet 3 (.quiet 4 (.quiet 5 (.quiet 6 (.quiet 8 (.quiet 9 (.one 7 (.quiet 10 .done))))))))))) (RG b W4 []) mxT (by kernel_rfl) di.out ?_;rw[<-rF] at di eB ⊢;clear rF;refine ai rfl ?_;intro hne;go_big_quiet_step (fail);refine zWq ?_;clear hne;refine ai rfl ?_;intro hne;have hq:∀xh:Held (RG b W4 []),xh.1.cell? ⟨w.heap.size,0,none⟩=some (.string nm):=fun xh=>RG.old xh hkb c0;go_big_quiet_step (fail);refine zWq ?_;clear hne hq
     iterate 3
      refine ai rfl ?_
      intro hne
      go_big_quiet_step (fail)
      refine zWq ?_
      clear hne
     refine ai rfl ?_;intro hne;have hq:∀xh:Held (RG b W4 []),xh.1.cell? ⟨w.heap.size,0,none⟩=some (.string nm):=fun xh=>RG.old xh hkb c0;go_big_quiet_step (fail);refine zWq ?_;clear hne hq
     iterate 2
      refine ai rfl ?_
      intro hne
      go_big_quiet_step (fail)
      refine zWq ?_
      clear hne
     refine ai rfl ?_;intro hne;have hq:∀xh:Held (RG b W4 []),xh.1.cell? ⟨wc.heap.size,5,none⟩=some (.int .i64 ff.hi):=fun xh=>RG.old xh wO g5;go_big_quiet_step (fail);refine zWq ?_;clear hne hq;refine aH rfl ?_;go_wp2_with fail;refine(aV 12 (by omega) (by omega) b (N+2) (by omega) _ eB.out).mono ?_;rintro e V3 ⟨t',rfl,iy,iz,hm',ht', -⟩;have WS:=hid (di.out.take mW.out ht');have HMV3:=hid hm';clear hm' ht' di eB;go_wp2;refine aC (RG b W4 []) (fun _ h=>h) WS.out ?_;refine ai rfl ?_;intro hne;have hq:IntKind.i64.wrap (t'-ff.hi)=t'-ff.hi:=IntWalk.i64_in _ (by omega);go_big_quiet_step (fail);refine zWq ?_;clear hne hq;refine aL ?_;try simp only[zDs,zDz]
     have hR:=WS.out.block hrb (HR3.out);have OG:=RE hR (.string (ah.Dt++nm.extract 0 1)) (.string nm) (.string ah.nil) (.string ah.gT) (.int .i64 (t'-ff.hi));obtain⟨⟨z0,z1,z2,z3,z4⟩,zf⟩:=mh hR;have qY:=hid OG;clear hR OG;go_wp2;refine bodyPost_ret (qE qY.out.1 rfl rfl) rfl ⟨⟨⟨ah.Dt++nm.extract 0 1,nm,ah.nil,ah.gT,t'-ff.hi⟩,true,rfl,fun _=>.inr ⟨t'-ff.hi,by omega,by omega,by have:=HX.out;rw[HI2.out] at this;exact this,.inr rfl⟩⟩,?_,?_⟩
     ·exact(HMV3.out.mono (by omega)).keep (aA.fA qY.out.2 (fun x hx e=>by omega))
     ·exact(((Turns.aM aW.out).trans HG.out.turn).trans ((xV.out).trans WS.out.turn)).into qY.out.2 (fun x hx e=>by omega)
theorem Tryz.WT:jt Tryz.prog 23 102 4 56:=gA (z:=.agg #[.string ⟨#[]⟩,.int .i64 0,.int .i64 0,.slice none 0 0]) (by kernel_rfl) (by kernel_rfl) rfl (by omega) (by omega)
theorem Tryz.WU:jt Tryz.prog 24 107 3 64:=gA (z:=.agg #[.string ⟨#[]⟩,.slice none 0 0,.slice none 0 0]) (by kernel_rfl) (by kernel_rfl) rfl (by omega) (by omega)
theorem Tryz.WV:jt Tryz.prog 25 110 5 72:=gA (z:=.agg #[.string ⟨#[]⟩,.string ⟨#[]⟩,.string ⟨#[]⟩,.string ⟨#[]⟩,.int .i64 0]) (by kernel_rfl) (by kernel_rfl) rfl (by omega) (by omega)
theorem Tryz.GN:jt Tryz.prog 105 108 2 16:=gA (z:=.agg #[.int .i64 0,.int .i64 0]) (by kernel_rfl) (by kernel_rfl) rfl (by omega) (by omega)
theorem eX.take{α:Type}{R:World->Value->α->Prop}{S:Nat->Prop}{w:World}{a:Option Addr}{n c:Nat}{xs:List α}(h:eX R S w (.slice a n c) xs){m:Nat}(hm:m<=xs.length):eX R S w (.slice a m c) (xs.take m):=by
 obtain⟨a',c',he,h1,h2,h3,h4,h5⟩:=h;cases he;have hl:(xs.take m).length=m:=by rw[zLt];omega
 refine⟨a,c,by rw[hl],fun h0=>h1 (by omega),by omega,h3,fun h0=>h4 (by omega),fun j hj=>?_⟩;obtain⟨u,hu,hr⟩:=h5 j (by omega);exact⟨u,hu,by rw[List.getElem_take];exact hr⟩
structure SS(b N X:Nat)(ver:Int)(w0:World)(vK:Value)(ks:List ah.dZ)(W:World):Prop where
 mJ:gj W b N
 own:cG 4 Be (fun x=>b<x/\x≠X) (X+1) 102 W vK ks
 res:W.heap[w0.heap.size]?=some (.cells #[.int .i64 0,.slice none 0 0,.slice none 0 0,.slice none 0 0] 27 (0,0))
 below:BL w0 W
 rb:w0.heap.size<b
 bx:b<X
theorem SS.grow{b N N' X:Nat}{ver:Int}{w0 W W':World}{vK:Value}{ks:List ah.dZ}(h:SS b N X ver w0 vK ks W)(ht:Turns (·=b) W W')(hm:gj W' b N'):SS b N' X ver w0 vK ks W':=by
 have h1:=h.rb;have h2:=h.bx;have h3:=h.below.size;refine⟨hm,h.own.keep bY (aA.fA ht (fun x hx e=>?_)),?_,h.below.trans (ht.below h3 (fun x hx=>by omega)),h1,h2⟩
 ·rcases hx with hx|hx
  ·have:=hx.1;omega
  ·have:=(h.own.lt x hx).1;omega
 ·rw[ht.block _ (by show ¬_=b;omega) (ay h.res)];exact h.res
theorem RT{S:Nat->Prop}{w:World}{k:ah.dZ}{uf:Value}(h:dh S w uf k.af4):∀u∈kC k uf,u.oneCell'=true:=by
 obtain⟨a,c,rfl, -⟩:=h.form;intro u hu;simp only[kC,zMc,zNn,or_false] at hu;rcases hu with rfl|rfl|rfl|rfl<;>rfl
structure K4(b N X Lf St q:Nat)(xc:Array Value)(Wo:World)(mv:List (Int×Int))(am:Option Addr)(cm:Nat)(W:World):Prop where
 mJ:gj W b N
 turn:Turns (fun x=>x=b\/x=X) Wo W
 qZ:W.heap[X]?=some (.cells xc 27 (0,0))
 ZP:W.heap[St]?=some (.cells (ah.om.map Value.string).toArray 9 (0,0))
 box:W.heap[Lf]?=some (.cells #[.string ah.oL,.slice (some ⟨St,0,none⟩) q 4,.slice am mv.length cm] 107 (0,0))
 own:cG 2 KV (fun _=>False) (Lf+1) 108 W (.slice am mv.length cm) mv
 rng:∀m∈mv,0<=m.1/\m.1<q/\0<=m.2/\m.2<q
 bl:b<X
 xl:X<Wo.heap.size
 sl:Wo.heap.size<=St
 ll:St<Lf
theorem K4.grow{b N N' X Lf St q:Nat}{xc:Array Value}{Wo W W':World}{mv:List (Int×Int)}{am:Option Addr}{cm:Nat}(h:K4 b N X Lf St q xc Wo mv am cm W)(ht:Turns (·=b) W W')(hm:gj W' b N'):K4 b N' X Lf St q xc Wo mv am cm W':=by
 have h1:=h.bl;have h2:=h.xl;have h3:=h.sl;have h4:=h.ll;refine⟨hm,h.turn.trans (ht.mono fun x _ e=>.inl e),?_,?_,?_,h.own.keep dx (aA.fA ht (fun x hx e=>?_)),h.rng,h1,h2,h3,h4⟩
 ·rw[ht.block _ (by show ¬_=b;omega) (ay h.qZ)];exact h.qZ
 ·rw[ht.block _ (by show ¬_=b;omega) (ay h.ZP)];exact h.ZP
 ·rw[ht.block _ (by show ¬_=b;omega) (ay h.box)];exact h.box
 ·rcases hx with hx|hx
  ·exact hx
  ·have:=(h.own.lt x hx).1;omega
theorem K4.app{b N X Lf St q:Nat}{xc:Array Value}{Wo W V:World}{mv:List (Int×Int)}{am a':Option Addr}{cm n' c':Nat}(h:K4 b N X Lf St q xc Wo mv am cm W){m:Int×Int}(hr:0<=m.1/\m.1<q/\0<=m.2/\m.2<q)
  (how:cG 2 KV (fun _=>False) (Lf+1) 108 V (.slice a' n' c') (mv++[m]))(hn:n'=(mv++[m]).length)(ht:Turns (fun x=>some x=(Value.slice am mv.length cm).ownBlock) W V):
  K4 b N X Lf St q xc Wo (mv++[m]) a' c' (V.setCell ⟨Lf,2,none⟩ (.slice a' n' c')):=by
 subst hn;have h1:=h.bl;have h2:=h.xl;have h3:=h.sl;have h4:=h.ll;have hw:=h.turn.size;have ho:∀x,some x=(Value.slice am mv.length cm).ownBlock->Lf<x:=fun x e=>by have:=(h.own.lt x e.symm).1;omega
 have e1:∀x,x≠Lf->(V.setCell ⟨Lf,2,none⟩ (.slice a' (mv++[m]).length c')).heap[x]?=V.heap[x]?:=fun x hx=>zBh _ _ _ _ hx;have e2:∀x,x<=Lf->x<W.heap.size->V.heap[x]?=W.heap[x]?:=fun x hx hl=>ht.block x (fun e=>by have:=ho x e;omega) hl;refine⟨(h.mJ.keep (ht.keep (fun x hx e=>by have:=ho x e;omega))).keep (fun x hx _=>e1 x (by omega)),?_,?_,?_,?_,?_,fun y hy=>?_,h1,h2,h3,h4⟩
 ·exact(h.turn.into ht (fun x hx e=>by have:=ho x e;omega)).setCell_new _ _ (by show _<=Lf;omega)
 ·exact(e1 _ (by omega)).trans ((e2 _ (by omega) (ay h.qZ)).trans h.qZ)
 ·exact(e1 _ (by omega)).trans ((e2 _ (by omega) (ay h.ZP)).trans h.ZP)
 ·exact heap_setCell_same V Lf 2 _ _ _ ((e2 _ (by omega) (ay h.box)).trans h.box)
 ·exact how.keep dx (fun x hx _=>e1 x (by
   rcases hx with hx|hx
   ·exact hx.elim
   ·have:=(how.lt x hx).1;omega))
 ·rcases List.mem_append.1 hy with hy|hy
  ·exact h.rng y hy
  ·rw[zMs.1 hy];exact hr
theorem tH{x y:Int}:∀u∈[Value.int .i64 x,.int .i64 y],u.oneCell'=true:=by
 intro u hu;simp only[zMc,zNn,or_false] at hu;rcases hu with rfl|rfl<;>rfl
theorem GP{w:World}{F:Nat}{x0 x1 x2:Value}{t:TypeId}(h:w.heap[F]?=some (.cells #[x0,x1,x2] t (0,0))):
  (w.cell? ⟨F,0,none⟩=some x0/\w.cell? ⟨F,1,none⟩=some x1/\w.cell? ⟨F,2,none⟩=some x2)/\∀i,w.frozen? ⟨F,i,none⟩=false:=
 ⟨⟨aI h 0,aI h 1,aI h 2⟩,bh h⟩
theorem RU{s:ah.Nm}{a1 a2:Option Addr}{n1 n2 c1 c2:Nat}:∀u∈[Value.string s,.slice a1 n1 c1,.slice a2 n2 c2],u.oneCell'=true:=by
 intro u hu;simp only[zMc,zNn,or_false] at hu;rcases hu with rfl|rfl|rfl<;>rfl
structure RS(b N X:Nat)(Wo W8:World)(ver vK vL:Value)(lf:ah.Eb)(ks:List ah.dZ)(j:Nat)(ar:Option Addr)(cr:Nat)(rs:List ah.uY)(W:World):Prop where
 mJ:gj W b N
 turn:Turns (fun x=>x=b\/x=X) Wo W
 qZ:W.heap[X]?=some (.cells #[ver,vK,vL,.slice ar rs.length cr] 27 (0,0))
 life:rE (fun x=>Wo.heap.size<=x/\x<W8.heap.size) W vL [lf]
 own:cG 5 RI (fun _=>False) W8.heap.size 110 W (.slice ar rs.length cr) rs
 ok:ah.mA ks j rs
 bl:b<X
 xl:X<Wo.heap.size
 wl:Wo.heap.size<=W8.heap.size
 wsz:W8.heap.size<=W.heap.size
theorem RS.grow{b N N' X:Nat}{Wo W8 W W':World}{ver vK vL:Value}{lf:ah.Eb}{ks:List ah.dZ}{j:Nat}{ar:Option Addr}{cr:Nat}{rs:List ah.uY}(h:RS b N X Wo W8 ver vK vL lf ks j ar cr rs W)(ht:Turns (·=b) W W')(hm:gj W' b N'):
  RS b N' X Wo W8 ver vK vL lf ks j ar cr rs W':=by
 have h1:=h.bl;have h2:=h.xl;have h3:=h.wl;refine⟨hm,h.turn.trans (ht.mono fun x _ e=>.inl e),?_,dA.keep cE h.life (aA.fA ht (fun x hx e=>by have:=hx.1;omega)),h.own.keep dS (aA.fA ht (fun x hx e=>?_)),h.ok,h1,h2,h3,Nat.le_trans h.wsz ht.size⟩
 ·rw[ht.block _ (by show ¬_=b;omega) (ay h.qZ)];exact h.qZ
 ·rcases hx with hx|hx
  ·exact hx
  ·have:=(h.own.lt x hx).1;omega
theorem RS.skip{b N X:Nat}{Wo W8 W:World}{ver vK vL:Value}{lf:ah.Eb}{ks:List ah.dZ}{j:Nat}{ar:Option Addr}{cr:Nat}{rs:List ah.uY}(h:RS b N X Wo W8 ver vK vL lf ks j ar cr rs W):RS b N X Wo W8 ver vK vL lf ks (j+1) ar cr rs W:=
 {h with ok:=.skip j rs h.ok}
theorem RS.app{b N X:Nat}{Wo W8 W V:World}{ver vK vL:Value}{lf:ah.Eb}{ks:List ah.dZ}{j:Nat}{ar a':Option Addr}{cr n' c':Nat}{rs:List ah.uY}(h:RS b N X Wo W8 ver vK vL lf ks j ar cr rs W)(hj:j<ks.length){r:ah.uY}(hr:ah.yZ ks[j] r)
  (how:cG 5 RI (fun _=>False) W8.heap.size 110 V (.slice a' n' c') (rs++[r]))(hn:n'=(rs++[r]).length)(ht:Turns (fun x=>some x=(Value.slice ar rs.length cr).ownBlock) W V):
  RS b N X Wo W8 ver vK vL lf ks (j+1) a' c' (rs++[r]) (V.setCell ⟨X,3,none⟩ (.slice a' n' c')):=by
 subst hn;have h1:=h.bl;have h2:=h.xl;have h3:=h.wl;have ho:∀x,some x=(Value.slice ar rs.length cr).ownBlock->W8.heap.size<=x:=fun x e=>(h.own.lt x e.symm).1;have e1:∀x,x≠X->(V.setCell ⟨X,3,none⟩ (.slice a' (rs++[r]).length c')).heap[x]?=V.heap[x]?:=fun x hx=>zBh _ _ _ _ hx;refine⟨(h.mJ.keep (ht.keep (fun x hx e=>by have:=ho x e;omega))).keep (fun x hx _=>e1 x (by omega)),?_,?_,?_,?_,.take j rs r hj h.ok hr,h1,h2,h3,?_⟩
 ·exact(h.turn.into ht (fun x hx e=>by have:=ho x e;omega)).trans (((Turns.refl (·=X) V).setCell ⟨X,3,none⟩ _ rfl).mono fun x _ e=>.inr e)
 ·exact heap_setCell_same V X 3 #[ver,vK,vL,.slice ar rs.length cr] _ _ ((ht.block X (fun e=>by have:=ho X e;omega) (ay h.qZ)).trans h.qZ)
 ·exact dA.keep cE (dA.keep cE h.life (ht.keep (fun x hx e=>by have:=ho x e;have:=hx.2;omega))) (fun x hx _=>e1 x (by have:=hx.1;omega))
 ·exact how.keep dS (fun x hx _=>e1 x (by
   rcases hx with hx|hx
   ·exact hx.elim
   ·have:=(how.lt x hx).1;omega))
 ·have:=ht.size;have:=h.wsz;simp only[World.size_setCell];omega
theorem RV{a b c d:ah.Nm}{n:Int}:∀u∈[Value.string a,.string b,.string c,.string d,.int .i64 n],u.oneCell'=true:=by
 intro u hu;simp only[zMc,zNn,or_false] at hu;rcases hu with rfl|rfl|rfl|rfl|rfl<;>rfl
theorem wP{w:World}{g:Nat}{x y z u:Value}{tmps:Array Value}(h:w.heap[g]?=some (.cells #[x,y,z,u] 27 (0,0)))(hp:tmps[2]?=some (.pointer (some ⟨g,0,none⟩))):
  (results Tryz.f10 tmps).run Tryz.prog w=.ok (.agg #[x,y,z,u]) w:=by
 obtain⟨⟨h0,h1,h2,h3⟩, -⟩:=aO h;simp[results,Tryz.results10,go_sem,hp,h0,h1,h2,h3]
def Kh(w:World)(e:Ending)(w':World):Prop:=∃v x,e=.returned v/\ah.BX x/\eU (w.heap.size<=·) w' v x/\BL w w'
theorem GQ(L:List Int)(hL:Fit L)(v:Value)(w:World)(hv:bO yQ w v L):
  Calls Tryz.prog 10 #[v] w (Kh w):=by
 obtain⟨a,cap,rfl,hok,hcap,hmax⟩:=hv.form;have HV:=hid hv;have HL:=hid hL;clear hv hL;go_enter Tryz.func10,Tryz.ntmps10;go_upto_region 1 with fail;go_cut [3] from 3 to 19 (fun p wx=>∃b,p=.pointer (some ⟨b,0,none⟩)/\Hid (b=w.heap.size+1)/\Hid (gj wx b 0)/\Hid (wx.heap[w.heap.size]?=some (.cells #[.int .i64 0,.slice none 0 0,.slice none 0 0,.slice none 0 0] 27 (0,0)))/\Hid (wx.heap.size=w.heap.size+2)/\Hid (BL w wx))
 case first=>
  have HX:Hid (∀n,n<=L.length->gj ((w.alloc (.cells #[.int .i64 0,.slice none 0 0,.slice none 0 0,.slice none 0 0] 27)).alloc (.cells #[.slice a n cap,.int .i64 0] 98)) (w.heap.size+1) 0):=hid (fun n hn=>
   ⟨.slice a n cap,L.take n,0,aD _ _ (by simp),(bO.mono (S':=fun x=>x<w.heap.size+1) (eX.take HV.out hn) (fun x hx _=>by omega)).keep (aA.below ((aj.alloc aB _).alloc (by simp) _)),fun x hx=>HL.out x (List.mem_of_mem_take hx),by omega,by omega⟩)
  have HB:Hid (∀o,BL w ((w.alloc (.cells #[.int .i64 0,.slice none 0 0,.slice none 0 0,.slice none 0 0] 27)).alloc o)):=hid (fun o=>(aj.alloc aB _).alloc (by simp) _);by_cases h:(200:Int)<L.length
  ·go_wp2
   go_meet;case rel=>exact⟨_,rfl,hid rfl,hid (HX.out 200 (by omega)),hid (aG _ (aD w _ rfl)),hid (by simp),hid (HB.out _)⟩
  ·go_wp2
   go_meet;case rel=>exact⟨_,rfl,hid rfl,hid (HX.out L.length aB),hid (aG _ (aD w _ rfl)),hid (by simp),hid (HB.out _)⟩
 case rest=>
  obtain⟨b,rfl,Hb,HM,HR,HZ,HB⟩:=hcut;go_wp2_with fail;refine(aV 4 (by omega) (by omega) b 0 (by omega) _ HM.out).mono ?_;rintro e w1 ⟨ver,rfl,adg,adh,hm1,ht1, -⟩;have hbl:=hm1.lt;go_upto_region 3 with fail;have ZO:=Hb.out;obtain⟨W1,hW1⟩:=nmE (w1.alloc (.cells #[.int .i64 ver,.slice none 0 0,.slice none 0 0,.slice none 0 0] 27));have jq:Hid (W1.heap[w1.heap.size]?=some (.cells #[.int .i64 ver,.slice none 0 0,.slice none 0 0,.slice none 0 0] 27 (0,0))):=hid (by rw[hW1];exact aD w1 _ rfl)
  have HSS:Hid (SS b 1 w1.heap.size ver w (.slice none 0 0) [] W1):=hid (by
   have h1:BL w w1:=HB.out.trans (ht1.below (by have:=HZ.out;omega) (fun x hx=>by omega))
   refine⟨?_,cG.nil _ _ _ _ _ _,?_,?_,by omega,hbl⟩
   ·rw[hW1];exact(hm1.mono (by omega)).keep (aA.below (aj.alloc aB _))
   ·rw[hW1];refine aG _ ?_
    rw[ht1.block _ (by show ¬_=b;omega) (ay HR.out)];exact HR.out
   ·rw[hW1];exact h1.alloc h1.size _)
  rw[<-hW1];obtain⟨X,hX⟩:=nmE w1.heap.size;rw[<-hX] at jq HSS ⊢;clear hW1 hX hm1 ht1 HM HR HZ HB ZO hbl;go_wp2_with fail;refine(aV 3 (by omega) (by omega) b 1 (by omega) _ HSS.out.mJ).mono ?_;rintro e w2 ⟨t,rfl,EA,EB,hm2,ht2, -⟩;have HSS2:=hid (HSS.out.grow ht2 hm2);have HBX2:Hid (w2.heap[X]?=some (.cells #[.int .i64 ver,.slice none 0 0,.slice none 0 0,.slice none 0 0] 27 (0,0))):=hid ((ht2.block X (by have:=HSS.out.bx;show ¬X=b;omega) (ay jq.out)).trans jq.out);clear hm2 ht2 HSS jq;obtain⟨n,hn⟩:∃n:Nat,1+t=(n:Int):=⟨(1+t).toNat,by omega⟩;have hn1:1<=n:=by omega
  have hn3:n<=3:=by omega
  have HN:=hid hn;clear hn;go_wp2;rw[HN.out];clear HN EA EB;go_loopw [6] (fun i wr=>∃ks aK cK,i=.int .i64 ((ks.length:Nat):Int)/\ks.length<=n/\Hid (ah.AU ks)/\Hid (SS b (2+100*ks.length) X ver w (.slice aK ks.length cK) ks wr)/\Hid (wr.heap[X]?=some (.cells #[.int .i64 ver,.slice aK ks.length cK,.slice none 0 0,.slice none 0 0] 27 (0,0)))) (fun i _=>n-(intOf i).toNat);case atStart=>exact⟨[],none,0,rfl,by simp,hid .nil,HSS2,HBX2⟩
  case round=>
   obtain⟨ks,aK,cK,rfl,hkn,HG,HS,HX⟩:=hrel;by_cases hlt:ks.length<n
   ·have RW:(ks.length:Int)<n:=by omega
    have hbX:=HS.out.bx;have hg:=HG.out.good;have Ro:Hid (∀k∈ks,k.af4.length<=1000000):=hid (fun k hk=>by have:=(hg.2.1 k hk).len;omega);obtain⟨⟨-,x1, -, -⟩, -⟩:=aO HX.out;clear hg;go_upto_region 7 with fail;refine bU 7 (.quiet 0 (.quiet 1 (.quiet 2 (.quiet 3 (.quiet 4 (.one 5 (.one 6 .done))))))) (iG X #[.int .i64 ver,.slice aK ks.length cK,.slice none 0 0,.slice none 0 0] 27) mxT (by kernel_rfl) HX.out ?_;refine ai rfl ?_;intro hne;go_big_quiet_step (fail);refine zWq ?_;clear hne;refine ai rfl ?_;intro hne;have hq:∀xh:Held (iG X #[.int .i64 ver,.slice aK ks.length cK,.slice none 0 0,.slice none 0 0] 27),xh.1.cell? ⟨X,1,none⟩=some (.slice aK ks.length cK):=fun xh=>aI xh.2 1;go_big_quiet_step (fail);refine zWq ?_;clear hne hq
    iterate 2
     refine ai rfl ?_
     intro hne
     go_big_quiet_step (fail)
     refine zWq ?_
     clear hne
    refine ai rfl ?_;intro hne;have hq:∀xh:Held (iG X #[.int .i64 ver,.slice aK ks.length cK,.slice none 0 0,.slice none 0 0] 27),xh.1.cell? ⟨X,1,none⟩=some (.slice aK ks.length cK):=fun xh=>aI xh.2 1;go_big_quiet_step (fail);refine zWq ?_;clear hne hq;refine aH rfl ?_;go_wp2_with fail;refine(NJ b (2+100*ks.length) (X+1) (by omega) _ (HS.out.mJ.keep (aA.below (af5 aj 1))) aK cK ks (by omega) Ro.out (fun x=>b<x/\x≠X) (fun x hx=>hx.1) (HS.out.own.below bY (af5 aj 1)) (by omega)).mono ?_;rintro e w3 ⟨ks',k,uf,rfl,hk,hfl,ho,Ec,ht3⟩;simp only[kC];have ZQ:w3.heap[X]?=some (.cells #[.int .i64 ver,.slice aK ks.length cK,.slice none 0 0,.slice none 0 0] 27 (0,0)):=(ht3.block X (fun h=>h.elim (fun h=>by omega) (fun h=>by have:=(HS.out.own.lt X h).1;omega)) (ay HX.out)).trans HX.out;have K5:=hid ZQ;have HK:=hid hk;have ho:=ho.JQ bY (S':=fun x=>b<x/\x≠X) (fun x _ hx=>hx.elim id (fun h=>by have h1:wr.heap.size<=x:=h;have h2:=HS.out.mJ.lt;have h3:=ay HX.out;exact⟨by omega,by omega⟩));have HO:=hid ho
    have K3:Hid (dh (fun x=>(b<x/\x≠X)/\some x≠(Value.slice aK ks.length cK).ownBlock) w3 uf k.af4):=hid (hfl.mono (fun x hx h=>by
     have h1:wr.heap.size<=x:=h;have h2:=HS.out.mJ.lt;have h3:=ay HX.out;exact⟨⟨by omega,by omega⟩,fun e=>by have:=(HS.out.own.lt x e.symm).2;omega⟩))
    have GR:Hid (SS b (2+100*ks.length+100) X ver w (.slice aK ks.length cK) ks' w3):=hid (by
     have h1:=HS.out.rb
     have h3:=HS.out.below.size
     refine⟨Ec,ho,?_,?_,h1,hbX⟩
     ·rw[ht3.block _ (fun h=>h.elim (fun h=>by omega) (fun h=>by have:=(HS.out.own.lt _ h).1;omega)) (by exact ay HS.out.res)];exact HS.out.res
     ·exact(af5 HS.out.below 1).trans (ht3.below h3 (fun x hx=>hx.elim (fun h=>by omega) (fun h=>by have:=(HS.out.own.lt x h).1;omega))))
    have HLK:Hid (ks'.length=ks.length):=hid hk.le.2.2;clear hk hfl ho Ec ht3 ZQ x1;go_wp2;refine aC (iG X #[.int .i64 ver,.slice aK ks.length cK,.slice none 0 0,.slice none 0 0] 27) (fun _ h=>h) K5.out ?_;refine aH rfl ?_;go_wp2;refine aC (iG X #[.int .i64 ver,.slice aK ks.length cK,.slice none 0 0,.slice none 0 0] 27) (fun _ h=>h) (aG _ K5.out) ?_;refine aL ?_;try simp only[zDs,zDz]
    go_wp2_with (at_builtin;go_must (refine cD bY rfl _ _ rfl Tryz.WT rfl HO.out (us:=kC k uf) rfl rfl rfl k ⟨uf,rfl,K3.out⟩ (RT K3.out) (by have:=HLK.out;omega) (by have:=ay K5.out;omega) ?_));intro v' w4 OH zh hn4;obtain⟨a',c',hv', -⟩:=OH.form;obtain⟨k4,hk4⟩:=nmE (ks'++[k]);rw[<-hk4] at OH hv';have hl4:k4.length=ks.length+1:=by rw[hk4];simp[HLK.out]
    subst hv';have h4X:=(zh.block X (fun e=>by have:=(HO.out.lt X e.symm).1;omega) (ay K5.out)).trans K5.out;have h5X:(w4.setCell ⟨X,1,none⟩ (.slice a' k4.length c')).heap[X]?=some (.cells #[.int .i64 ver,.slice a' k4.length c',.slice none 0 0,.slice none 0 0] 27 (0,0)):=heap_setCell_same _ X 1 _ _ _ h4X;have ZR:=hid h5X
    have qY:Hid (SS b (2+100*k4.length) X ver w (.slice a' k4.length c') k4 (w4.setCell ⟨X,1,none⟩ (.slice a' k4.length c'))):=hid (by
     have e1:∀x,x≠X->(w4.setCell ⟨X,1,none⟩ (.slice a' k4.length c')).heap[x]?=w4.heap[x]?:=fun x hx=>zBh _ _ _ _ hx
     have h1:=GR.out.rb
     have h3:=GR.out.below.size
     refine⟨?_,OH.keep bY (fun x hx hlt=>e1 x ?_),?_,?_,h1,hbX⟩
     ·exact((GR.out.mJ.keep (zh.keep (fun x hx e=>by have:=(HO.out.lt x e.symm).1;omega))).keep (fun x hx _=>e1 x (by omega))).mono (by rw[hl4];omega)
     ·rcases hx with hx|hx
      ·exact hx.2
      ·have:=(OH.lt x hx).1;omega
     ·exact(e1 _ (by omega)).trans ((zh.block _ (fun e=>by have:=(HO.out.lt _ e.symm).1;omega) (ay GR.out.res)).trans GR.out.res)
     ·exact(GR.out.below.trans (zh.below h3 (fun x hx=>by have:=(HO.out.lt x hx.symm).1;omega))).setCell (by show _<=X;omega) _)
    have zo:Hid (ah.AU k4):=hid (by rw[hk4];exact .snoc ks ks' k HG.out HK.out);obtain⟨⟨-,d1, -, -⟩,dz⟩:=aO h4X;have dz1:=dz 1;have iQ:=hid hl4;clear OH zh hn4 hk4 h4X h5X dz hl4 HO K3 GR HLK Ro HK HG HS HX;go_wp2;go_roundw;case rel=>exact⟨k4,a',c',by rw[iQ.out];go_num,by have:=iQ.out;omega,zo,qY,ZR⟩
    simp[intOf];omega
   ·have RW:¬(ks.length:Int)<n:=by omega
    have hkn2:n=ks.length:=by omega
    subst hkn2;clear hkn hlt RW;obtain⟨Wo,rfl⟩:=nmE wr;have hbX:=HS.out.bx;have hXl:=ay HX.out;go_wp2_with fail;refine(aV 3 (by omega) (by omega) b (2+100*ks.length) (by omega) _ (HS.out.mJ.keep (aA.below (aj.alloc aB _)))).mono ?_;rintro e w5 ⟨t,rfl,EA,EB,Ga,ze, -⟩;obtain⟨q0,rfl⟩:∃q0:Nat,t=(q0:Int):=⟨t.toNat,by omega⟩;obtain⟨xc,hxc⟩:=nmE (#[.int .i64 ver,.slice aK ks.length cK,.slice none 0 0,.slice none 0 0]:Array Value);have Dx:=hid hxc
    have hL0:∀q,q=2+q0->K4 b (2+100*ks.length+1) X w5.heap.size Wo.heap.size q xc Wo [] none 0 (w5.alloc (.cells #[.string ah.oL,.slice (some ⟨Wo.heap.size,0,none⟩) q 4,.slice none 0 0] 107)):=fun q hq=>by
     have hst:w5.heap[Wo.heap.size]?=some (.cells (ah.om.map Value.string).toArray 9 (0,0)):=(ze.block Wo.heap.size (by have:=HS.out.mJ.lt;show ¬_=b;omega) (by simp)).trans (zAn Wo _);have xW:Turns (·=b) Wo w5:=((Turns.refl _ Wo).alloc _).trans ze;refine⟨Ga.keep (aA.below (aj.alloc aB _)),(xW.mono fun x _ e=>.inl e).alloc _,aG _ ?_,aG _ hst,aD _ _ rfl,cG.nil _ _ _ _ _ _,fun _ h=>absurd h (by simp),hbX,hXl,aB,ay hst⟩;rw[xW.block X (by show ¬X=b;omega) hXl,Dx.out];exact HX.out
    have ZS:=hid hL0;clear Ga ze hL0 hxc;go_upto_region 10 with fail;have xY:2<=2+q0:=by omega
    have M9:2+q0<=4:=by omega
    have HLf:=hid (ZS.out (2+q0) rfl);generalize 2+q0=q at*;clear ZS EA EB;obtain⟨Lf,hLf⟩:=nmE w5.heap.size;rw[<-hLf] at HLf ⊢;clear hLf;go_wp2;go_loopw [9] (fun i wr=>∃mv am cm,i=.int .i64 ((mv.length:Nat):Int)/\mv.length+1<=q/\Hid (K4 b (2+100*ks.length+1) X Lf Wo.heap.size q xc Wo mv am cm wr)) (fun i _=>q-(intOf i).toNat);case atStart=>exact⟨[],none,0,rfl,by simp;omega,HLf⟩
    case round=>
     obtain⟨mv,am,cm,rfl,hmq,HL⟩:=hrel;by_cases hlt2:mv.length+1<q
     ·have hlt3:(mv.length:Int)+1<q:=by omega
      have OI:(mv.length:Int)<q:=by omega
      obtain⟨⟨-, -,l2⟩,lz⟩:=GP HL.out.box;go_wp2_with (at_builtin;go_must (refine cD dx rfl _ _ rfl Tryz.GN rfl HL.out.own (us:=[.int .i64 (mv.length:Int),.int .i64 ((mv.length:Int)+1)]) rfl rfl rfl ((mv.length:Int),(mv.length:Int)+1) rfl tH (by omega) (by have:=ay HL.out.box;omega) ?_));intro v' w6 how ht hn;obtain⟨Vh,pS⟩:=nmE (mv++[((mv.length:Int),(mv.length:Int)+1)]);have hl2:Vh.length=mv.length+1:=by rw[pS];simp
      obtain⟨a',c',hv', -⟩:=how.form;rw[<-pS] at hv';subst hv';have Vi:=hid (K4.app HL.out (m:=((mv.length:Int),(mv.length:Int)+1)) ⟨by simp,OI,by simp;omega,hlt3⟩ how (by rw[<-pS]) ht);rw[<-pS] at Vi;have Vj:=(ht.block Lf (fun e=>by have:=(HL.out.own.lt Lf e.symm).1;omega) (ay HL.out.box)).trans HL.out.box;obtain⟨⟨-, -,d2⟩,dz⟩:=GP Vj;have dz2:=dz 2;have cU:=hid hl2;clear how ht hn Vj dz pS hl2 lz l2;go_wp2;go_roundw;case rel=>exact⟨Vh,a',c',by rw[cU.out];go_num,by have:=cU.out;omega,Vi⟩
      simp[intOf];omega
     ·have hlt3:¬(mv.length:Int)+1<q:=by omega
      have hml:mv.length<=3:=by omega
      clear hlt2 hmq;go_wp2_with fail;refine(aV 2 (by omega) (by omega) b (2+100*ks.length+1) (by omega) _ HL.out.mJ).mono ?_;rintro e W7 ⟨t,rfl,EA,EB,NE,qX, -⟩;have HL:=hid (HL.out.grow qX NE);clear NE qX;go_upto_if 65 with fail;go_cut [] from 66 to 71 (fun wx=>∃mv am cm,Hid (mv.length<=4)/\Hid (K4 b (2+100*ks.length+2) X Lf Wo.heap.size q xc Wo mv am cm wx))
      case first=>
       by_cases ht0:t=0
       ·subst ht0
        obtain⟨⟨-, -,l2⟩,lz⟩:=GP HL.out.box;go_wp2_with (at_builtin;go_must (refine cD dx rfl _ _ rfl Tryz.GN rfl HL.out.own (us:=[.int .i64 1,.int .i64 0]) rfl rfl rfl (1,0) rfl tH (by omega) (by have:=ay HL.out.box;omega) ?_));intro v' w6 how ht hn;obtain⟨Vh,pS⟩:=nmE (mv++[(1,0)]);have hl2:Vh.length=mv.length+1:=by rw[pS];simp
        obtain⟨a',c',hv', -⟩:=how.form;rw[<-pS] at hv';subst hv';have Vi:=hid (K4.app HL.out (m:=(1,0)) ⟨by simp,by simp;omega,by simp,by simp;omega⟩ how (by rw[<-pS]) ht);rw[<-pS] at Vi;have Vj:=(ht.block Lf (fun e=>by have:=(HL.out.own.lt Lf e.symm).1;omega) (ay HL.out.box)).trans HL.out.box;obtain⟨⟨-, -,d2⟩,dz⟩:=GP Vj;have dz2:=dz 2;have cU:=hid hl2;clear how ht hn Vj dz pS hl2 lz l2;go_wp2;go_meet;case rel=>exact⟨Vh,a',c',hid (by have:=cU.out;omega),Vi⟩
       ·have hb0:(t==0)=false:=Dl ht0
        clear ht0;go_wp2;go_meet;case rel=>exact⟨mv,am,cm,hid (by omega),HL⟩
      case rest=>
       clear HL hml;obtain⟨mv,am,cm,Hml,HL⟩:=hcut;have hml:=Hml.out;go_wp2_with fail;refine(aV 3 (by omega) (by omega) b (2+100*ks.length+2) (by omega) _ HL.out.mJ).mono ?_;rintro e W7 ⟨t,rfl,EA,EB,NE,qX, -⟩;have HL:=hid (HL.out.grow qX NE);clear NE qX;go_upto_if 74 with fail;go_cut [] from 75 to 83 (fun wx=>∃mv am cm,Hid (mv.length<=5)/\Hid (K4 b (2+100*ks.length+3) X Lf Wo.heap.size q xc Wo mv am cm wx))
       case first=>
        by_cases ht0:t=0
        ·subst ht0
         obtain⟨⟨-, -,l2⟩,lz⟩:=GP HL.out.box;go_wp2_with (at_builtin;go_must (refine cD dx rfl _ _ rfl Tryz.GN rfl HL.out.own (us:=[.int .i64 0,.int .i64 ((q:Int)-1)]) rfl rfl rfl (0,(q:Int)-1) rfl tH (by omega) (by have:=ay HL.out.box;omega) ?_));intro v' w6 how ht hn;obtain⟨Vh,pS⟩:=nmE (mv++[(0,(q:Int)-1)]);have hl2:Vh.length=mv.length+1:=by rw[pS];simp
         obtain⟨a',c',hv', -⟩:=how.form;rw[<-pS] at hv';subst hv';have Vi:=hid (K4.app HL.out (m:=(0,(q:Int)-1)) ⟨by show (0:Int)<=0;omega,by show (0:Int)<q;omega,by show (0:Int)<=(q:Int)-1;omega,by show (q:Int)-1<q;omega⟩ how (by rw[<-pS]) ht);rw[<-pS] at Vi;have Vj:=(ht.block Lf (fun e=>by have:=(HL.out.own.lt Lf e.symm).1;omega) (ay HL.out.box)).trans HL.out.box;obtain⟨⟨-, -,d2⟩,dz⟩:=GP Vj;have dz2:=dz 2;have cU:=hid hl2;clear how ht hn Vj dz pS hl2 lz l2;go_wp2;go_meet;case rel=>exact⟨Vh,a',c',hid (by have:=cU.out;omega),Vi⟩
        ·have hb0:(t==0)=false:=Dl ht0
         clear ht0;go_wp2;go_meet;case rel=>exact⟨mv,am,cm,hid (by omega),HL⟩
       case rest=>
        clear HL hml Hml;obtain⟨mv,am,cm,Hml,HL⟩:=hcut;obtain⟨⟨l0,l1,l2⟩, -⟩:=GP HL.out.box;have M5:=HL.out.qZ;rw[Dx.out] at M5;obtain⟨⟨x0,x1,x2,x3⟩,xz⟩:=aO M5;obtain⟨lf,hlf⟩:=nmE (⟨ah.oL,ah.om.take q,mv⟩:ah.Eb)
        have hLV:Ww (fun x=>Wo.heap.size<=x/\some x≠(Value.slice none 0 0).ownBlock) wc [.string ah.oL,.slice (some ⟨Wo.heap.size,0,none⟩) q 4,.slice am mv.length cm] lf:=by
         rw[hlf];refine⟨_,_,rfl,Cc HL.out.ZP ⟨aB,by simp[Value.ownBlock]⟩ M9 rfl (by decide),HL.out.own.sl dx (fun x _ h=>h.elim) (fun x hx=>⟨?_,by simp[Value.ownBlock]⟩)⟩;have h1:=(HL.out.own.lt x hx).1;have h2:=HL.out.ll;omega
        have HLV:=hid hLV;have HLF:=hid hlf;clear hLV hlf M5 xz;go_wp2_with (at_builtin;go_must (refine cD (v:=.slice none 0 0) (S:=fun x=>Wo.heap.size<=x) (B:=Wo.heap.size) cE rfl _ _ rfl Tryz.WU rfl (cG.nil _ _ _ _ _ _) (us:=[.string ah.oL,.slice (some ⟨Wo.heap.size,0,none⟩) q 4,.slice am mv.length cm]) rfl rfl rfl lf HLV.out RU (by simp) (by have:=ay HL.out.ZP;omega) ?_));intro v' w6 how ht hn;obtain⟨a',c',hv', -⟩:=how.form;have hv2:v'=.slice a' 1 c':=hv';clear hv';subst hv2;have WW:=(ht.block X (by simp[Value.ownBlock]) (ay HL.out.qZ)).trans HL.out.qZ;rw[Dx.out] at WW;obtain⟨⟨-, -,d2, -⟩,dz⟩:=aO WW;have dz2:=dz 2;obtain⟨W8,RQ⟩:=nmE (w6.setCell ⟨X,2,none⟩ (.slice a' 1 c'));have h8X:W8.heap[X]?=some (.cells #[.int .i64 ver,.slice aK ks.length cK,.slice a' 1 c',.slice none 0 0] 27 (0,0)):=by rw[RQ];exact heap_setCell_same w6 X 2 _ _ _ WW
        have h8e:∀x,x≠X->W8.heap[x]?=w6.heap[x]?:=fun x hx=>by rw[RQ];exact zBh _ _ _ _ hx
        have h8m:gj W8 b (2+100*ks.length+3):=(HL.out.mJ.keep (ht.keep (fun x _ e=>by simp[Value.ownBlock] at e))).keep (fun x hx _=>h8e x (by omega))
        have h8t:Turns (fun x=>x=b\/x=X) Wo W8:=by
         rw[RQ];exact(HL.out.turn.into ht (fun x _ e=>by simp[Value.ownBlock] at e)).trans (((Turns.refl (·=X) w6).setCell ⟨X,2,none⟩ _ rfl).mono fun x _ e=>.inr e)
        have h8l:rE (fun x=>Wo.heap.size<=x/\x<W8.heap.size) W8 (.slice a' 1 c') [lf]:=by
         have h1:=how.sl cE (T:=fun x=>Wo.heap.size<=x/\x<w6.heap.size) (fun x hx h=>⟨h,hx⟩) (fun x hx=>⟨(how.lt x hx).1,(how.lt x hx).2⟩);have h2:W8.heap.size=w6.heap.size:=by rw[RQ];simp
         rw[h2];exact dA.keep cE h1 (fun x hx _=>h8e x (by omega))
        have H8:=hid (And.intro h8X (And.intro h8m (And.intro h8t h8l)));clear how ht hn WW dz h8X h8e h8m h8t h8l l0 l1 l2 x0 x1 x3;go_upto_region 19 with fail;rw[<-RQ];have HRng:=hid HL.out.rng;clear RQ dz2 d2 x2 HL;go_wp2;go_loopw [10] (fun i wr=>∃j:Nat,∃rs ar cr,i=.int .i64 j/\j<=ks.length/\rs.length<=2/\Hid (RS b (2+100*ks.length+3+10*j) X Wo W8 (.int .i64 ver) (.slice aK ks.length cK) (.slice a' 1 c') lf ks j ar cr rs wr)) (fun i _=>ks.length-(intOf i).toNat)
        case atStart=>
         exact⟨0,[],none,0,rfl,by omega,by simp,hid ⟨H8.out.2.1.mono (by omega),H8.out.2.2.1,H8.out.1,H8.out.2.2.2,cG.nil _ _ _ _ _ _,.nil,hbX,hXl,H8.out.2.2.1.size,aB⟩⟩
        case round=>
         obtain⟨j,rs,ar,cr,rfl,hj,xR,Bl⟩:=hrel;obtain⟨⟨x0,x1,x2,x3⟩,xz⟩:=aO Bl.out.qZ
         have HKO:Hid (cG 4 Be (fun x=>b<x/\x≠X) (X+1) 102 wr (.slice aK ks.length cK) ks):=hid (HS.out.own.keep bY (aA.fA Bl.out.turn (fun x hx e=>by
          rcases hx with hx|hx
          ·have:=hx.1;have:=hx.2;omega
          ·have:=(HS.out.own.lt x hx).1;omega)))
         by_cases hc:j<ks.length/\rs.length<2
         ·obtain⟨hc1,hc2⟩:=hc
          have hc3:(j:Int)<ks.length:=by omega
          have hc4:(rs.length:Int)<2:=by omega
          have hj0:(0:Int)<=j:=by omega
          have RX:=HKO.out.sl bY (T:=fun x=>b<x) (fun x _ h=>h.1) (fun x hx=>by have:=(HKO.out.lt x hx).1;omega)
          have hskK:dG aK ks.length:=by
           obtain⟨_,_,e,h,_⟩:=RX.form;cases e;exact h
          obtain⟨-, -,c0,c1,c2,uf,c3,hfl⟩:=fV.at RX hc1;obtain⟨kd,hkd⟩:=nmE (ks[j]);rw[<-hkd] at c0 c1 c2 hfl;have hgd:=HG.out.good;have HKS:Hid (∀f∈kd.af4,ah.fe f):=hid (by rw[hkd];exact(hgd.2.1 _ (zGm _)).small)
          have HKN:Hid (1<=kd.name.size):=hid (by
           rw[hkd,hgd.2.2 j hc1]
           have:j=0\/j=1\/j=2:=by have:=hgd.1;omega
           rcases this with h|h|h<;>rw[h]<;>decide)
          have K3:=hid hfl;have KZ:=hid hkd;clear RX hfl hgd hkd;go_wp2_with fail;refine(OE b (2+100*ks.length+3+10*j) (by omega) wr Bl.out.mJ kd uf K3.out HKS.out HKN.out).mono ?_;rintro e w9 ⟨⟨r,bd,rfl,hr⟩,hm9,vm⟩;simp only[aaU];have Dy:=hid (Bl.out.grow vm (hm9.mono (N':=2+100*ks.length+3+10*(j+1)) (by omega)));have HR:=hid hr;clear hr hm9 vm c0 c1 c2 c3 x0 x1 x2 x3 xz Bl HKO K3 HKS HKN;cases bd with
          |true=>
           have HRK:=hid (HR.out rfl)
           go_upto_region 24 with fail
           obtain⟨W10,RY⟩:=nmE (w9.alloc (.cells #[.string r.name,.string r.kind,.string r.a,.string r.b,.int .i64 r.n] 110))
           have WX:BL w9 W10:=by rw[RY];exact aj.alloc aB _
           have zq:=hid (Dy.out.grow (Turns.aM WX) (Dy.out.mJ.keep (aA.below WX)))
           have h10:W10.heap[w9.heap.size]?=some (.cells #[.string r.name,.string r.kind,.string r.a,.string r.b,.int .i64 r.n] 110 (0,0)):=by rw[RY];exact aD w9 _ rfl
           obtain⟨⟨y0,y1,y2,y3,y4⟩, -⟩:=mh h10
           obtain⟨⟨-, -, -,x3⟩, -⟩:=aO zq.out.qZ
           rw[<-RY]
           clear RY WX h10
           go_wp2_with (at_builtin;go_must (refine cD dS rfl _ _ rfl Tryz.WV rfl zq.out.own (us:=[.string r.name,.string r.kind,.string r.a,.string r.b,.int .i64 r.n]) rfl rfl rfl r rfl RV (by omega) (by have:=zq.out.life;have:=zq.out.wsz;omega) ?_))
           intro v' qF how ht hn
           obtain⟨rs2,OJ⟩:=nmE (rs++[r])
           have hl2:rs2.length=rs.length+1:=by rw[OJ];simp
           obtain⟨a2,c2,hv', -⟩:=how.form
           rw[<-OJ] at hv'
           subst hv'
           have aaW:=hid (RS.app zq.out hc1 (by rw[<-KZ.out];exact HRK.out) how (by rw[<-OJ]) ht)
           rw[<-OJ] at aaW
           have WW:=(ht.block X (fun e=>by have:=(zq.out.own.lt X e.symm).1;have:=zq.out.wl;omega) (ay zq.out.qZ)).trans zq.out.qZ
           obtain⟨⟨-, -, -,d3⟩,dz⟩:=aO WW
           have NZ:=dz 3
           have cU:=hid hl2
           clear how ht hn WW dz OJ hl2 x3
           go_wp2
           go_roundw
           case rel=>exact⟨j+1,rs2,a2,c2,by go_num,by omega,by have:=cU.out;omega,aaW⟩
           simp[intOf];omega
          |false=>
           have zq:=hid (Dy.out.grow (W':=w9.alloc (.cells #[.string r.name,.string r.kind,.string r.a,.string r.b,.int .i64 r.n] 110)) (Turns.aM (aj.alloc aB _)) (Dy.out.mJ.keep (aA.below (aj.alloc aB _)))).skip
           go_wp2
           go_roundw
           case rel=>exact⟨j+1,rs,ar,cr,by go_num,by omega,xR,zq⟩
           simp[intOf];omega
         ·have hRz:wr.heap[w.heap.size]?=some (.cells #[.int .i64 0,.slice none 0 0,.slice none 0 0,.slice none 0 0] 27 (0,0)):=by
           have h1:=HS.out.rb
           rw[Bl.out.turn.block w.heap.size (by show ¬(_=b\/_=X);omega) (ay HS.out.res)];exact HS.out.res
          have Gb:=hid (Ba hRz (.int .i64 ver) (.slice aK ks.length cK) (.slice a' 1 c') (.slice ar rs.length cr));obtain⟨⟨z0,z1,z2,z3⟩,zf⟩:=aO hRz
          have xZ:Hid (Kh w (.returned (.agg #[.int .i64 ver,.slice aK ks.length cK,.slice a' 1 c',.slice ar rs.length cr])) ((((wr.setCell ⟨w.heap.size,0,none⟩ (.int .i64 ver)).setCell ⟨w.heap.size,1,none⟩ (.slice aK ks.length cK)).setCell ⟨w.heap.size,2,none⟩ (.slice a' 1 c')).setCell ⟨w.heap.size,3,none⟩ (.slice ar rs.length cr))):=hid (by
           have h1:=HS.out.rb
           have h2:=Bl.out.xl
           have h3:=Bl.out.wl
           have h4:=HS.out.below.size
           have h6:=HS.out.mJ.lt
           refine⟨_,⟨ver,ks,[lf],rs⟩,rfl,⟨⟨by show 0<=ver;omega,by show ver<=3;omega⟩,HG.out,hn1,⟨lf,rfl,?_⟩,⟨j,hj,Bl.out.ok,xR⟩⟩,eU.mono (S:=fun x=>w.heap.size<x) (eU.keep (w:=wr) ⟨_,_,_,rfl,?_,?_,?_⟩ (aA.fA Gb.out.2 (fun x hx e=>by omega))) (fun x _ hx=>by omega),?_⟩
           ·rw[HLF.out]
            exact⟨rfl,q,xY,M9,rfl,by have:=Hml.out;show mv.length<=6;omega,HRng.out⟩
           ·exact HKO.out.sl bY (fun x _ h=>by have:=h.1;omega) (fun x hx=>by have:=(HKO.out.lt x hx).1;omega)
           ·exact dA.mono (by omega) cE Bl.out.life (fun x _ h=>by have:=h.1;omega)
           ·exact Bl.out.own.sl dS (fun x _ h=>h.elim) (fun x hx=>by have:=(Bl.out.own.lt x hx).1;omega)
           ·have h5:BL w wr:=HS.out.below.trans (Bl.out.turn.below h4 (fun x hx=>by rcases hx with h|h<;>omega))
            exact h5.trans (Gb.out.2.below h5.size (fun x hx=>by omega)))
          by_cases hc1:(j:Int)<ks.length
          ·have hc2:¬(rs.length:Int)<2:=by omega
           clear hc hRz;go_wp2;refine bodyPost_ret (wP Gb.out.1 rfl) rfl xZ.out
          ·clear hc hRz
           go_wp2;refine bodyPost_ret (wP Gb.out.1 rfl) rfl xZ.out
def bE(w:World)(ver:Int)(uk ul ur:Value):World:=w.alloc (.cells #[.int .i64 ver,uk,ul,ur] 27)
theorem aQ(w:World)(ver:Int)(uk ul ur:Value):BL w (bE w ver uk ul ur):=aj.alloc aB _
theorem bf(w:World)(ver:Int)(uk ul ur:Value):(bE w ver uk ul ur).heap[w.heap.size]?=some (.cells #[.int .i64 ver,uk,ul,ur] 27 (0,0)):=zAn w _
theorem eU.form{S:Nat->Prop}{w:World}{v:Value}{x:ah.bD}(h:eU S w v x):
  ∃ak ck al cl ar cr,v=.agg #[.int .i64 x.af6,.slice ak x.af3.length ck,.slice al x.af7.length cl,.slice ar x.af8.length cr]/\fV S w (.slice ak x.af3.length ck) x.af3/\rE S w (.slice al x.af7.length cl) x.af7/\tA S w (.slice ar x.af8.length cr) x.af8/\
   dG ak x.af3.length/\dG al x.af7.length/\dG ar x.af8.length:=by
 obtain⟨uk,ul,ur,rfl,h1,h2,h3⟩:=h;obtain⟨ak,ck,rfl,s1, -⟩:=h1.form;obtain⟨al,cl,rfl,s2, -⟩:=h2.form;obtain⟨ar,cr,rfl,s3, -⟩:=h3.form;exact⟨ak,ck,al,cl,ar,cr,rfl,h1,h2,h3,s1,s2,s3⟩
theorem fM{x:ah.bD}{i:Nat}(h:i<x.af3.length):ah.kd x i=x.af3[i]:=by
 unfold ah.kd;rw[Int.toNat_natCast,zGd,zEg h];rfl
theorem rI{x:ah.bD}{i j:Nat}(h:i<x.af3.length)(h2:j<x.af3[i].af4.length):ah.fd x i j=x.af3[i].af4[j]:=by
 unfold ah.fd;rw[fM h,Int.toNat_natCast,zGd,zEg h2];rfl
theorem K6(x:ah.bD)(s:ByteArray)(v:Value)(S:Nat->Prop)(w:World)(hv:eU S w v x):
  Calls Tryz.prog 82 #[v,.string s] w fun e w'=>e=.returned (.int .i64 (ah.bZ x s))/\BL w w':=by
 obtain⟨ak,ck,al,cl,ar,cr,rfl,hk, -, -,hsk, -, -⟩:=hv.form;have HB:=hid (aQ w x.af6 (.slice ak x.af3.length ck) (.slice al x.af7.length cl) (.slice ar x.af8.length cr));have HK:=hid (hk.keep (aA.below HB.out));obtain⟨⟨-,b1, -, -⟩, -⟩:=aO (bf w x.af6 (.slice ak x.af3.length ck) (.slice al x.af7.length cl) (.slice ar x.af8.length cr));obtain⟨W,hW⟩:=nmE (bE w x.af6 (.slice ak x.af3.length ck) (.slice al x.af7.length cl) (.slice ar x.af8.length cr));rw[<-hW] at HB HK b1;unfold bE at hW;have HW:=hid hW
 have hbd:x.af3.length<=9223372036854775807:=by
  obtain⟨_,_,e,_,h1,h2⟩:=hk.form;cases e;omega
 clear hv hk hW;go_enter Tryz.func82,Tryz.ntmps82;go_wp2;rw[<-HW.out];clear HW;go_loop [5] (fun i=>∃k:Nat,k<=x.af3.length/\i=.int .i64 k/\Hid (∀j (h:j<x.af3.length),j<k->decide (x.af3[j].name=s)=false)) (fun i=>x.af3.length-(intOf i).toNat);case atStart=>exact⟨0,by omega,rfl,hid (fun _ _ h=>absurd h (by omega))⟩
 case round=>
  obtain⟨k,hk,rfl,hpre⟩:=hrel;by_cases hlt:k<x.af3.length
  ·obtain⟨-, -,c0, -⟩:=HK.out.at hlt
   have hk0:(0:Int)<=k:=by omega
   have hk1:(k:Int)<x.af3.length:=by omega
   by_cases he:x.af3[k].name=s
   ·have HA:Hid (ah.bZ x s=(k:Int)):=hid (by
     have:=ah.fQ (p:=fun f:ah.dZ=>decide (f.name=s)) (i:=0) hlt hpre.out (decide_eq_true he)
     rw[Nat.zero_add] at this
     exact this)
    have ht:=RJ he;generalize x.af3[k].name=nm at*;clear he;go_wp2;go_ret;exact⟨fO HA.out.symm,HB.out⟩
   ·have HA:Hid (∀j (h:j<x.af3.length),j<k+1->decide (x.af3[j].name=s)=false):=hid (fun j hj hjk=>by
     by_cases e:j=k
     ·subst e;exact decide_eq_false he
     ·exact hpre.out j hj (by omega))
    have ht:=RK he;generalize x.af3[k].name=nm at*;clear he;go_wp2;go_round;case rel=>exact⟨k+1,by omega,by go_num,HA⟩
    simp[intOf];omega
  ·have HA:Hid (ah.bZ x s= -1):=hid (ah.d9 (fun j hj=>hpre.out j hj (by omega)))
   go_wp2;go_ret;exact⟨fO HA.out.symm,HB.out⟩
theorem GS(k:ah.dZ)(s:ByteArray)(uf:Value)(S:Nat->Prop)(w:World)(hv:dh S w uf k.af4)(cs:Array Value)(hcs:cs=(kC k uf).toArray):
  Calls Tryz.prog 81 #[.agg cs,.string s] w fun e w'=>e=.returned (.int .i64 (ah.aX k s))/\BL w w':=by
 subst hcs;obtain⟨a,cap,rfl,hok,hcap,hmax⟩:=hv.form;have HB:Hid (BL w (w.alloc (.cells #[.string k.name,.int .i64 k.lo,.int .i64 k.hi,.slice a k.af4.length cap] 102))):=hid (aj.alloc aB _);have HF:=hid (hv.keep (aA.below HB.out));simp only[kC];clear hv;go_enter Tryz.func81,Tryz.ntmps81;go_wp2;go_loop [5] (fun i=>∃j:Nat,j<=k.af4.length/\i=.int .i64 j/\Hid (∀m (h:m<k.af4.length),m<j->decide (k.af4[m].name=s)=false)) (fun i=>k.af4.length-(intOf i).toNat);case atStart=>exact⟨0,by omega,rfl,hid (fun _ _ h=>absurd h (by omega))⟩
 case round=>
  obtain⟨j,hj,rfl,hpre⟩:=hrel;by_cases hlt:j<k.af4.length
  ·obtain⟨-, -,c0, -⟩:=HF.out.at hlt
   have hk0:(0:Int)<=j:=by omega
   have hk1:(j:Int)<k.af4.length:=by omega
   by_cases he:k.af4[j].name=s
   ·have HA:Hid (ah.aX k s=(j:Int)):=hid (by
     have:=ah.fQ (p:=fun f:ah.cA=>decide (f.name=s)) (i:=0) hlt hpre.out (decide_eq_true he)
     rw[Nat.zero_add] at this
     exact this)
    have ht:=RJ he;generalize k.af4[j].name=nm at*;clear he;go_wp2;go_ret;exact⟨fO HA.out.symm,HB.out⟩
   ·have HA:Hid (∀m (h:m<k.af4.length),m<j+1->decide (k.af4[m].name=s)=false):=hid (fun m hm hmj=>by
     by_cases e:m=j
     ·subst e;exact decide_eq_false he
     ·exact hpre.out m hm (by omega))
    have ht:=RK he;generalize k.af4[j].name=nm at*;clear he;go_wp2;go_round;case rel=>exact⟨j+1,by omega,by go_num,HA⟩
    simp[intOf];omega
  ·have HA:Hid (ah.aX k s= -1):=hid (ah.d9 (fun m hm=>hpre.out m hm (by omega)))
   go_wp2;go_ret;exact⟨fO HA.out.symm,HB.out⟩
theorem OL(x:ah.bD)(i j:Int)(v:Value)(S:Nat->Prop)(w:World)(hv:eU S w v x):
  Calls Tryz.prog 80 #[v,.int .i64 i,.int .i64 j] w fun e w'=>e=.returned (.bool (ah.hasB x i j))/\BL w w':=by
 obtain⟨ak,ck,al,cl,ar,cr,rfl,hk, -, -,hsk, -, -⟩:=hv.form;have HB:=hid (aQ w x.af6 (.slice ak x.af3.length ck) (.slice al x.af7.length cl) (.slice ar x.af8.length cr));have HK:=hid (hk.keep (aA.below HB.out));obtain⟨⟨-,b1, -, -⟩, -⟩:=aO (bf w x.af6 (.slice ak x.af3.length ck) (.slice al x.af7.length cl) (.slice ar x.af8.length cr));unfold bE at HB HK b1;clear hv hk;by_cases h1:i<0
 ·have HA:Hid (ah.hasB x i j=false):=hid (by unfold ah.hasB;rw[decide_eq_false (show ¬0<=i by omega)];rfl)
  go_enter Tryz.func80,Tryz.ntmps80;go_wp2;go_ret;exact⟨fT HA.out.symm,HB.out⟩
 ·by_cases h2:(x.af3.length:Int)<=i
  ·have HA:Hid (ah.hasB x i j=false):=hid (by unfold ah.hasB;rw[decide_eq_false (show ¬i<x.af3.length by omega)];simp)
   go_enter Tryz.func80,Tryz.ntmps80;go_wp2;go_ret;exact⟨fT HA.out.symm,HB.out⟩
  ·by_cases h3:j<0
   ·have HA:Hid (ah.hasB x i j=false):=hid (by unfold ah.hasB;rw[decide_eq_false (show ¬0<=j by omega)];simp)
    go_enter Tryz.func80,Tryz.ntmps80;go_wp2;go_ret;exact⟨fT HA.out.symm,HB.out⟩
   ·obtain⟨m,rfl⟩:∃m:Nat,i=(m:Int):=⟨i.toNat,by omega⟩
    have hm:m<x.af3.length:=by omega
    have hm0:(0:Int)<=m:=by omega
    have hm1:(m:Int)<x.af3.length:=by omega
    have HA:Hid (ah.hasB x m j=decide (j<(x.af3[m].af4.length:Int))):=hid (by
     unfold ah.hasB
     rw[decide_eq_true hm0,decide_eq_true hm1,decide_eq_true (show 0<=j by omega),fM hm];rfl)
    obtain⟨-, -, -, -, -,uf,c3,hf⟩:=HK.out.at hm;obtain⟨a,cap,rfl, -, -, -⟩:=hf.form;clear hf;go_enter Tryz.func80,Tryz.ntmps80;go_wp2;go_ret;exact⟨fT HA.out.symm,HB.out⟩
theorem RZ{x:ah.bD}{i j:Nat}(h:i<x.af3.length)(h2:j<x.af3[i].af4.length):ah.hasB x i j=true:=by
 unfold ah.hasB;rw[fM h];simp;omega
theorem ER{x:ah.bD}{i j:Int}(h:ah.hasB x i j=true):∃m n:Nat,i=m/\j=n/\∃hm:m<x.af3.length,n<x.af3[m].af4.length:=by
 unfold ah.hasB at h;simp only[zBa,zDt] at h;obtain⟨⟨⟨h1,h2⟩,h3⟩,h4⟩:=h;have hm:i.toNat<x.af3.length:=by omega
 have e:i=(i.toNat:Int):=by omega
 rw[e,fM hm] at h4;exact⟨i.toNat,j.toNat,e,by omega,hm,by omega⟩
theorem Ki(x:ah.bD)(i j:Int)(v:Value)(S:Nat->Prop)(w:World)(hv:eU S w v x)(hi: -1000000<=i/\i<=1000000)(hj: -1000000<=j/\j<=1000000):
    Calls Tryz.prog 49 #[v,.int .i64 i,.int .i64 j] w fun e w'=>e=.returned (.int .i64 (ah.dB x i j))/\BL w w':=by
  have hv0:=hv
  obtain⟨ak,ck,al,cl,ar,cr,rfl,hk, -, -,hsk, -, -⟩:=hv.form
  have HB:=hid (aQ w x.af6 (.slice ak x.af3.length ck) (.slice al x.af7.length cl) (.slice ar x.af8.length cr))
  have hbc:=bf w x.af6 (.slice ak x.af3.length ck) (.slice al x.af7.length cl) (.slice ar x.af8.length cr)
  obtain⟨W,hW⟩:=nmE (bE w x.af6 (.slice ak x.af3.length ck) (.slice al x.af7.length cl) (.slice ar x.af8.length cr))
  rw[<-hW] at HB hbc
  have Ge:=hid hbc
  have ZT:=hid (hv0.keep (aA.below HB.out))
  have HK:=hid (hk.keep (aA.below HB.out))
  unfold bE at hW
  have HW:=hid hW
  obtain⟨⟨b0,b1,b2,b3⟩, -⟩:=aO hbc
  clear hv hv0 hk hW hbc
  have hi':=hi
  have hj':=hj
  go_enter Tryz.func49,Tryz.ntmps49
  go_upto_region 1 with fail
  rw[<-HW.out]
  clear HW
  go_wp2_with fail
  refine(OL x i j _ S W ZT.out).mono ?_
  rintro e w1 ⟨rfl,hb1⟩
  have aW:=bq HB hb1
  have Bh:=hid (HK.out.keep (aA.below hb1))
  have GU:=hid ((hb1.block _ (ay Ge.out)).trans Ge.out)
  have aaX:=hid (ZT.out.keep (aA.below hb1))
  obtain⟨⟨b0,b1,b2,b3⟩, -⟩:=aO GU.out
  clear hb1 HK Ge ZT HB
  cases hh:ah.hasB x i j with
  |false=>
    have HA:Hid (ah.dB x i j= -1):=hid (by unfold ah.dB;rw[hh];rfl)
    clear hh
    go_wp2
    go_ret
    exact⟨fO HA.out.symm,aW.out⟩
  |true=>
    obtain⟨m,n,rfl,rfl,hm,hn⟩:=ER hh
    have hm0:(0:Int)<=m:=by omega
    have hm1:(m:Int)<x.af3.length:=by omega
    have hn0:(0:Int)<=n:=by omega
    have hn1:(n:Int)<x.af3[m].af4.length:=by omega
    obtain⟨-, -,k0,k1,k2,uf,k3,hf⟩:=Bh.out.at hm
    obtain⟨af,cf,rfl,WY, -, -⟩:=hf.form
    obtain⟨-, -,f0,f1,f2,f3,f4,f5,uw,ug,f6,f7,hfw,hfg⟩:=hf.at hn
    obtain⟨aw,cw,rfl, -, -, -⟩:=hfw.form
    obtain⟨ag,cg,rfl, -, -, -⟩:=hfg.form
    have HF:=hid hf
    have rH:=hid k3
    obtain⟨f,hfx⟩:=nmE (x.af3[m].af4[n])
    rw[<-hfx] at f0 f1 f2 f3 f4 f5 f6 f7
    have HFX:=hid hfx
    clear hfx
    go_upto_region 4 with fail
    obtain⟨W2,hW2⟩:=nmE (w1.alloc (.cells #[.string f.name,.string f.of,.string f.up,.int .i64 f.kind,.int .i64 f.lo,.int .i64 f.hi,.slice aw f.agb.length cw,.slice ag f.aga.length cg] 117))
    have bB:Hid (Below w1.heap.size w1 W2):=hid (by rw[hW2];exact aj.alloc aB _)
    have uU:Hid (W2.heap[w1.heap.size]?=some (.cells #[.string f.name,.string f.of,.string f.up,.int .i64 f.kind,.int .i64 f.lo,.int .i64 f.hi,.slice aw f.agb.length cw,.slice ag f.aga.length cg] 117 (0,0))):=hid (by rw[hW2];exact aD w1 _ rfl)
    rw[<-hW2]
    clear hW2 f0 f1 f2 f3 f4 f5 f6 f7 hfw hfg k0 k1 k2 k3 b0 b1 b2 b3 hf
    have HU:Hid (ah.dB x m n=if f.kind=7\/f.kind=8 then (if ah.hasB x m (ah.aX x.af3[m] f.up)=true/\ah.aX x.af3[m] f.up<n/\(ah.fd x m (ah.aX x.af3[m] f.up)).kind=1 then ah.qW x m (ah.fd x m (ah.aX x.af3[m] f.up)) else -1) else if f.kind=1 then ah.qW x m f else -1):=hid (by
      unfold ah.dB
      rw[if_pos hh,rI hm hn,fM hm,HFX.out])
    obtain⟨⟨p0,p1,p2,p3,p4,p5,p6,p7⟩,pz⟩:=dn uU.out
    have hz1:=aO ((bB.out.block _ (ay GU.out)).trans GU.out)
    obtain⟨⟨z0,z1,z2,z3⟩, -⟩:=hz1
    have RX:=Bh.out.keep (aA.below bB.out)
    obtain⟨-, -,y0,y1,y2,uf',y3,hf'⟩:=RX.at hm
    have huf:uf'=.slice af x.af3[m].af4.length cf:=by
      have:=Bh.out.at hm
      obtain⟨hl, -, -, -, -,uf2,k3, -⟩:=this
      have h9:=y3
      rw[bB.out.cell (p:=⟨aY ak,bC ak+m*4+3,none⟩) hl] at h9
      exact(zSi (h9.symm.trans (rH.out)))
    subst huf
    have Rn:=hid hf'
    clear RX hf'
    go_cut [31] from 24 to 31 (fun q wx=>∃bd:Bool,q=.bool bd/\Hid (bd=decide (f.kind=7\/f.kind=8))/\W2=wx)
    case first=>
      by_cases h7:f.kind=7
      · have jM:=aac h7
        have HD:Hid (true=decide (f.kind=7\/f.kind=8)):=hid (by simp[h7])
        clear h7
        go_wp2
        go_meet
        case rel=>exact⟨true,rfl,HD,rfl⟩
      · have jM:=Dl h7
        by_cases h8:f.kind=8
        · have mK:=aac h8
          have HD:Hid (true=decide (f.kind=7\/f.kind=8)):=hid (by simp[h8])
          clear h7 h8
          go_wp2
          go_meet
          case rel=>exact⟨true,rfl,HD,rfl⟩
        · have mK:=Dl h8
          have HD:Hid (false=decide (f.kind=7\/f.kind=8)):=hid (by simp[h7,h8])
          clear h7 h8
          go_wp2
          go_meet
          case rel=>exact⟨false,rfl,HD,rfl⟩
    case rest=>
     obtain⟨bd,rfl,HD,rfl⟩:=hcut;go_upto_if 31 with fail;go_cut [] from 8 to 55 (fun wx=>∃g uw ug,Hid (wx.heap[w1.heap.size]?=some (.cells #[.string g.name,.string g.of,.string g.up,.int .i64 g.kind,.int .i64 g.lo,.int .i64 g.hi,uw,ug] 117 (0,0)))/\Hid (ah.dB x m n=if g.kind=1 then ah.qW x m g else -1)/\Hid (BL w1 wx))
     case first=>
      cases bd with
      |false=>
        have A6:=hid (HU.out.trans (if_neg (fun h=>by have:=HD.out;rw[decide_eq_true h] at this;cases this)))
        clear HU HD
        go_wp2
        go_meet
        case rel=>exact⟨f,_,_,uU,A6,bB⟩
      |true=>
        have A6:=hid (HU.out.trans (if_pos (decide_eq_true_iff.1 HD.out.symm)))
        clear HU HD
        go_upto_region 5 with fail
        refine bU 7 (.quiet 0 (.quiet 1 (.quiet 2 (.quiet 3 (.quiet 4 (.quiet 5 (.quiet 6 .done))))))) (From (fun _=>False) W2) mxT (by kernel_rfl) (show From (fun _=>False) W2 (W2.drewN 1) from (Turns.refl _ _).drewN 1) ?_
        refine ai rfl ?_
        intro hne
        go_big_quiet_step (fail)
        refine zWq ?_
        clear hne
        refine ai rfl ?_
        intro hne
        have hq:∀xh:Held (From (fun _=>False) W2),xh.1.cell? ⟨w.heap.size,1,none⟩=some (.slice ak x.af3.length ck):=fun xh=>From.cell xh id z1
        go_big_quiet_step (fail)
        refine zWq ?_
        clear hne hq
        iterate 2
          refine ai rfl ?_
          intro hne
          go_big_quiet_step (fail)
          refine zWq ?_
          clear hne
        refine ai rfl ?_
        intro hne
        have h0:∀xh:Held (From (fun _=>False) W2),xh.1.cell? ⟨aY ak,bC ak+m*4,none⟩=some (.string x.af3[m].name):=fun xh=>From.cell xh id y0
        have h1:∀xh:Held (From (fun _=>False) W2),xh.1.cell? ⟨aY ak,bC ak+m*4+1,none⟩=some (.int .i64 x.af3[m].lo):=fun xh=>From.cell xh id y1
        have h2:∀xh:Held (From (fun _=>False) W2),xh.1.cell? ⟨aY ak,bC ak+m*4+2,none⟩=some (.int .i64 x.af3[m].hi):=fun xh=>From.cell xh id y2
        have h3:∀xh:Held (From (fun _=>False) W2),xh.1.cell? ⟨aY ak,bC ak+m*4+3,none⟩=some (.slice af x.af3[m].af4.length cf):=fun xh=>From.cell xh id y3
        go_big_quiet_step (fail)
        refine zWq ?_
        clear hne h0 h1 h2 h3
        refine ai rfl ?_
        intro hne
        go_big_quiet_step (fail)
        refine zWq ?_
        clear hne
        refine ai rfl ?_
        intro hne
        have hq:∀xh:Held (From (fun _=>False) W2),xh.1.cell? ⟨w1.heap.size,2,none⟩=some (.string f.up):=fun xh=>From.cell xh id p2
        go_big_quiet_step (fail)
        refine zWq ?_
        clear hne hq
        refine aL ?_
        try simp only[zDs,zDz]
        go_wp2_with fail
        refine(GS x.af3[m] f.up (.slice af x.af3[m].af4.length cf) S (W2.drewN 1) (Rn.out.keep (aA.below (af5 aj 1))) _ rfl).mono ?_
        rintro e w3 ⟨rfl,hb3⟩
        have bG:Hid (BL w1 w3):=hid ((af5 bB.out 1).trans (hb3.mono bB.out.size))
        have Kg:=hid ((hb3.block _ (ay uU.out)).trans uU.out)
        obtain⟨u,hu⟩:=nmE (ah.aX x.af3[m] f.up)
        rw[<-hu] at A6 ⊢
        have HUU:=hid hu
        clear hb3 hu p0 p1 p2 p3 p4 p5 p6 p7 pz z0 z1 z2 z3 y0 y1 y2 y3 uU bB
        rcases ah.gE (fun f':ah.cA=>decide (f'.name=f.up)) x.af3[m].af4 with⟨hc1, -⟩|⟨ci,hci,hc1, -, -⟩
        · have oq:u= -1:=HUU.out.trans hc1
          subst oq
          have HA:Hid (ah.dB x m n= -1):=hid (A6.out.trans (if_neg (fun h=>by
            have h9:=h.1
            unfold ah.hasB at h9
            simp at h9)))
          clear hc1 A6
          go_wp2
          go_ret
          exact⟨fO HA.out.symm,tnB aW.out bG.out⟩
        · have oq:u=(ci:Int):=HUU.out.trans hc1
          subst oq
          clear hc1
          have Oq:¬(ci:Int)<0:=by omega
          by_cases hlt:ci<n
          · have RW:¬(n:Int)<=ci:=by omega
            have hci2:(0:Int)<=ci:=by omega
            have hci3:(ci:Int)<x.af3[m].af4.length:=by omega
            have HH:Hid (ah.dB x m n=if (x.af3[m].af4[ci]).kind=1 then ah.qW x m x.af3[m].af4[ci] else -1):=hid (by
              rw[A6.out,rI hm hci,RZ hm hci]
              have:(ci:Int)<n:=by omega
              simp[this])
            have hz1:=aO ((bG.out.block _ (ay GU.out)).trans GU.out)
            obtain⟨⟨z0,z1,z2,z3⟩, -⟩:=hz1
            obtain⟨⟨p0,p1,p2,p3,p4,p5,p6,p7⟩,pz⟩:=dn Kg.out
            have q0:=pz 0
            have q1:=pz 1
            have q2:=pz 2
            have q3:=pz 3
            have q4:=pz 4
            have q5:=pz 5
            have q6:=pz 6
            have q7:=pz 7
            have RX:=Bh.out.keep (aA.below bG.out)
            obtain⟨hl4, -, -, -, -,uf',y3,hf'⟩:=RX.at hm
            have huf:uf'=.slice af x.af3[m].af4.length cf:=by
              have hl:aY ak<w1.heap.size:=(Bh.out.at hm).1
              have h9:=y3
              rw[bG.out.cell (p:=⟨aY ak,bC ak+m*4+3,none⟩) hl] at h9
              exact(zSi (h9.symm.trans (rH.out)))
            subst huf
            obtain⟨-, -,f0,f1,f2,f3,f4,f5,uw,ug,f6,f7,hfw,hfg⟩:=hf'.at hci
            obtain⟨WZ,W9,rfl, -, -, -⟩:=hfw.form
            obtain⟨ND,MX,rfl, -, -, -⟩:=hfg.form
            obtain⟨g,hg⟩:=nmE (x.af3[m].af4[ci])
            rw[<-hg] at f0 f1 f2 f3 f4 f5 f6 f7 HH
            clear RX hf' hfw hfg hg A6 hl4 pz
            have h8:=hid (Gz Kg.out (.string g.name) (.string g.of) (.string g.up) (.int .i64 g.kind) (.int .i64 g.lo) (.int .i64 g.hi) (.slice WZ g.agb.length W9) (.slice ND g.aga.length MX))
            go_wp2
            go_meet
            case rel=>exact⟨g,_,_,hid h8.out.1,HH,hid (bG.out.trans (h8.out.2.below bG.out.size (fun x hx=>by omega)))⟩
          · have RW:(n:Int)<=ci:=by omega
            have HA:Hid (ah.dB x m n= -1):=hid (A6.out.trans (if_neg (fun h=>by have:=h.2.1;omega)))
            clear A6
            go_wp2
            go_ret
            exact⟨fO HA.out.symm,tnB aW.out bG.out⟩
     case rest=>
       obtain⟨g,uw,ug,HG,HUg,R3⟩:=hcut
       obtain⟨⟨p0,p1,p2,p3,p4,p5,p6,p7⟩, -⟩:=dn HG.out
       have hz1:=aO ((R3.out.block _ (ay GU.out)).trans GU.out)
       obtain⟨⟨z0,z1,z2,z3⟩, -⟩:=hz1
       have R4:=hid (aaX.out.keep (aA.below R3.out))
       have HBF:=bq aW R3.out
       clear y0 y1 y2 y3 uU bB HU HD Rn HF hh aaX
       by_cases hk1:g.kind=1
       · have hb1:(g.kind !=1)=false:=bneF hk1
         have HA:=hid (HUg.out.trans (if_pos hk1))
         clear hk1 HUg
         go_wp2_with fail
         refine(K6 x g.of _ S wc R4.out).mono ?_
         rintro e w4 ⟨rfl,hb4⟩
         have HBL:=bq HBF hb4
         unfold ah.qW at HA
         generalize ah.bZ x g.of=ki at*
         clear hb4 p0 p1 p2 p3 p4 p5 p6 p7 z0 z1 z2 z3
         by_cases hki:ki<(m:Int)
         · have A7:=hid (HA.out.trans (if_pos hki))
           have hki2:¬(m:Int)<=ki:=by omega
           go_wp2
           go_ret
           exact⟨fO A7.out.symm,HBL.out⟩
         · have A7:=hid (HA.out.trans (if_neg hki))
           have hki2:(m:Int)<=ki:=by omega
           go_wp2
           go_ret
           exact⟨fO A7.out.symm,HBL.out⟩
       · have hb1:(g.kind !=1)=true:=Nq hk1
         have HA:=hid (HUg.out.trans (if_neg hk1))
         clear hk1 HUg
         go_wp2
         go_ret
         exact⟨fO HA.out.symm,HBF.out⟩
theorem afY{w w1:World}{v:Int}{a b c:Value}(h:w1=bE w v a b c):Hid (∀W,Below w1.heap.size w1 W->W.heap[w.heap.size]?=some (.cells #[.int .i64 v,a,b,c] 27 (0,0))):=hid (fun W hW=>(hW.block _ (by rw[h];simp[bE])).trans (by rw[h];exact bf ..))
theorem afX{w w1:World}{v:Int}{a b c:Value}(h:w1=bE w v a b c):Hid (Below w.heap.size w w1):=hid (by rw[h];exact aQ ..)
end Go.Proofs.YtobgljfnfpolkaaGreatDoor
namespace Go.Proofs.YtobgljfnfpolkaaGreatDoor.ah
abbrev bK:=List (List (List Int))
def eV(W:bK)(u:Int):Nat:=(W.getD u.toNat []).length
def Ci(x:bD)(k:Nat)(W:bK)(r:List Int):Prop:=
 r.length=(kd x k).af4.length/\∀(j:Nat) (h:j<r.length),((fd x k j).kind=1->0<=r[j]/\r[j]<eV W (dB x k j))/\ -100<=r[j]/\r[j]<=100
def total(W:bK):Nat:=(W.map List.length).sum
structure yE(x:bD)(W:bK):Prop where
 len:W.length=x.af3.length
 tot:total W<=6
 jc:∀(k:Nat) (h:k<W.length),∀r∈W[k],Ci x k W r
def GV(x:bD):Prop:=∀(k j:Nat),k<x.af3.length->j<(kd x k).af4.length->(fd x k j).kind=1->0<=dB x k j
theorem Kj(x:bD)(i:Int)(f:cA)(h:0<=i):qW x i f<i:=by
 unfold qW;split
 ·assumption
 ·omega
theorem vo(x:bD)(i j:Int)(h:0<=i):dB x i j<i:=by
 unfold dB;split
 ·simp only
  split
  ·split
   ·exact Kj x i _ h
   ·omega
  ·split
   ·exact Kj x i _ h
   ·omega
 ·omega
theorem iI{α:Type}(p:α->Bool):∀(l:List α) (i:Nat), -1<=dw p l i
 |[],_=>by unfold dw;omega
 |x::l,i=>by
  unfold dw;split
  ·omega
  ·exact iI p l (i+1)
structure q9(x:bD)(k:Nat)(W:bK):Prop where
 len:W.length=x.af3.length
 tot:total W<=6
 jc:∀(i:Nat) (h:i<W.length),∀r∈W[i],Ci x i W r
 rest:∀(i:Nat) (h:i<W.length),k<=i->W[i]=[]
theorem Cj(n:Nat):total (List.replicate n [])=0:=by
 unfold total;simp
theorem q9.zero(x:bD):q9 x 0 (List.replicate x.af3.length []):=
 ⟨by simp,by rw[Cj];omega,fun i h r hr=>by simp at hr,fun i h _=>by simp⟩
theorem mX{W:bK}{k:Nat}(hk:k<W.length)(rows:List (List Int)):total (W.set k rows)+W[k].length=total W+rows.length:=by
 unfold total;induction W generalizing k with
 |nil=>simp at hk
 |cons a W ih=>
  cases k with
  |zero=>simp;omega
  |succ k=>
   have:=ih (k:=k) (by simpa using hk)
   simp at this ⊢
   omega
theorem Ck{W:bK}{k:Nat}{u:Int}(rows:List (List Int))(h0:0<=u)(h:u<k):eV (W.set k rows) u=eV W u:=by
 unfold eV;rw[zGd,zGd,List.getElem?_set_ne (by omega)]
theorem q9.snoc{x:bD}{k:Nat}{W:bK}(hu:GV x){rows:List (List Int)}(hk:k<W.length)(h:q9 x (k+1) (W.set k rows)){r:List Int}(hr:Ci x k W r)(ht:total (W.set k rows)+1<=6):q9 x (k+1) (W.set k (rows++[r])):=by
 have e1:=h.len;rw[List.length_set] at e1;have t1:=mX hk rows;have t2:=mX hk (rows++[r]);simp only[zLa,List.length_cons,List.length_nil] at t2
 have conv:∀(i:Nat) (hi:i<W.length) (r':List Int),Ci x i (W.set k rows) r'->i<=k->Ci x i (W.set k (rows++[r])) r':=fun i hi r' ⟨h1,h2⟩ hik=>by
  refine⟨h1,fun j hj=>⟨fun hR=>?_,(h2 j hj).2⟩⟩;have h3:=(h2 j hj).1 hR;have h4:=hu i j (by omega) (by omega) hR;have h5:=vo x i j (by omega);rw[Ck _ h4 (by omega)] at h3 ⊢;exact h3
 refine⟨by rw[List.length_set];exact e1,by omega,fun i hi r' hr'=>?_,fun i hi hki=>?_⟩
 ·rw[List.length_set] at hi
  by_cases e:k=i
  ·subst e
   rw[List.getElem_set_self] at hr';rcases List.mem_append.1 hr' with hr'|hr'
   ·exact conv k hi r' (h.jc k (by rw[List.length_set];exact hi) r' (by rw[List.getElem_set_self];exact hr')) aB
   ·rw[zMs.1 hr']
    obtain⟨h1,h2⟩:=hr;refine⟨h1,fun j hj=>⟨fun hR=>?_,(h2 j hj).2⟩⟩;have h3:=(h2 j hj).1 hR;have h4:=hu k j (by omega) (by omega) hR;have h5:=vo x k j (by omega);rw[Ck _ h4 (by omega)];exact h3
  ·rw[List.getElem_set_ne e] at hr'
   by_cases hik:i<=k
   ·exact conv i hi r' (h.jc i (by rw[List.length_set];exact hi) r' (by rw[List.getElem_set_ne e];exact hr')) hik
   ·have:=h.rest i (by rw[List.length_set];exact hi) (by omega)
    rw[List.getElem_set_ne e] at this;rw[this] at hr';simp at hr'
 ·rw[List.length_set] at hi
  rw[List.getElem_set_ne (by omega)];have:=h.rest i (by rw[List.length_set];exact hi) hki;rwa [List.getElem_set_ne (by omega)] at this
theorem q9.next{x:bD}{k:Nat}{W:bK}(h:q9 x k W):q9 x (k+1) W:=⟨h.len,h.tot,h.jc,fun i hi hk=>h.rest i hi (by omega)⟩
theorem q9.done{x:bD}{k:Nat}{W:bK}(h:q9 x k W):yE x W:=⟨h.len,h.tot,h.jc⟩
end Go.Proofs.YtobgljfnfpolkaaGreatDoor.ah
namespace Go.Proofs.YtobgljfnfpolkaaGreatDoor
open Go.RowKit
def eC(n:Nat):Array Value:=(List.replicate n (.slice none 0 0)).toArray
theorem Bm(n:Nat):madeCells (Value.slice none 0 0).cells (n*1)=eC n:=by
 apply Array.ext
 ·simp[madeCells,eC]
 ·intro i h1 h2
  simp[madeCells,eC,Value.cells,Nat.mod_one]
theorem qG{P:Program}{t e:TypeId}{b:Nat}(ht:P.underlying t=some (.slice e))(hi:(P.info? e).map (fun i=>(i.zero,i.size,i.bytes))=some (some (.slice none 0 0),1,b))(hb:b<=1000)
  (n:Nat)(hn:n<=1000000)(w:World):
  (Instr.makeSlice t (.int .i64 (n:Int)) (.int .i64 (n:Int))).run P w=.ok (.slice (some ⟨w.heap.size,0,none⟩) n n) (w.alloc (.cells (eC n) e)):=by
 obtain⟨i,h1,h2,h3,h4⟩:=info_parts hi
 have hy:(i.bytes:Int)*(n:Int)<=281474976710656:=by
  have h:i.bytes*n<=1000*1000000:=Nat.mul_le_mul (by omega) hn;have:((i.bytes*n:Nat):Int)<=281474976710656:=by omega
  rwa [Int.natCast_mul] at this
 have hr:=run_make (P:=P) w t e i (.slice none 0 0) ht h1 h2 .i64 .i64 (n:Int) (n:Int) (by omega) (by omega) hy (by omega);rw[h3,Int.toNat_natCast,Bm] at hr;exact hr
theorem wQ(w:World)(n:Nat)(hn:n<=1000000):bL (w.heap.size<=·) (w.alloc (.cells (eC n) 115)) (.slice (some ⟨w.heap.size,0,none⟩) n n) (List.replicate n []):=by
 refine⟨fun b hb=>by simp[Value.ownBlock] at hb;omega,List.replicate n (.slice none 0 0),fun _=>0,?_,by simp,fun j h1 h2=>?_⟩
 ·rw[List.length_replicate]
  refine⟨by simp,.inr ⟨w.heap.size,n,eC n,rfl,Nat.zero_le _,heap_alloc_new w _,aB,by unfold maxLen;omega,by simp[eC],?_⟩⟩;simp[eC]
 ·simp only[List.getElem_replicate]
  exact gD.nil _ _ _ _
theorem OM(l:List Int)(hl:Fit l)(v:Value)(i:Int)(most:Int)(S:Nat->Prop)(w:World)(hv:bO S w v l)(h3:1<=most)(h4:most<=1000000)(hi:0<=i):
  Calls Tryz.prog 48 #[v,.int .i64 i,.int .i64 most] w fun e w'=>∃z:Int,e=.returned (.int .i64 z)/\0<=z/\z<most/\w=w':=
 (Gy l hl v i most S w hv h3 h4 hi).mono fun _ _ h=>⟨_,h.1,(Dm l _ _ h3).1,(Dm l _ _ h3).2,h.2⟩
def Xa(x:ah.bD)(w:World)(e:Ending)(w':World):Prop:=∃v W,e=.returned v/\ah.yE x W/\bL (w.heap.size<=·) w' v W/\BL w w'
theorem K7(x:ah.bD)(hx:ah.GV x)(hk:x.af3.length<=10)(hf:∀k∈x.af3,k.af4.length<=20)(L:List Int)(hL:Fit L)(v u:Value)(S T:Nat->Prop)(w:World)(hv:eU S w v x)(hu:bO T w u L):
  Calls Tryz.prog 11 #[v,u] w (Xa x w):=by
 obtain⟨ak,ck,al,cl,ar,cr,rfl,hkk, -, -,hsk, -, -⟩:=hv.form;obtain⟨au,cu,rfl,hsu,hcu,hmu⟩:=hu.form;obtain⟨W1,hW1⟩:=nmE (bE w x.af6 (.slice ak x.af3.length ck) (.slice al x.af7.length cl) (.slice ar x.af8.length cr));have aW:=hid (aQ w x.af6 (.slice ak x.af3.length ck) (.slice al x.af7.length cl) (.slice ar x.af8.length cr));have Ge:=hid (bf w x.af6 (.slice ak x.af3.length ck) (.slice al x.af7.length cl) (.slice ar x.af8.length cr));rw[<-hW1] at aW Ge;have ZT:=hid (eU.mono (S':=fun b=>b<w.heap.size+1) hv (fun b hb _=>by omega)|>.keep (aA.below aW.out));have HKV:=hid (fV.mono (S':=fun b=>b<w.heap.size+1) hkk (fun b hb _=>by omega)|>.keep (aA.below aW.out));have HUV:=hid (bO.mono (S':=fun b=>b<w.heap.size+1) hu (fun b hb _=>by omega)|>.keep (aA.below aW.out));unfold bE at hW1;have HW1:=hid hW1;have HX:=hid hx;have HF:=hid hf;have HL:=hid hL;have hz1:W1.heap.size=w.heap.size+1:=by rw[hW1];simp
 have R5:=hid hz1;clear hv hkk hu hW1 hx hf hL hz1;have hmk:=fun W=>qG (P:=Tryz.prog) (t:=30) (e:=115) (b:=24) (by kernel_rfl) (by kernel_rfl) (by omega) x.af3.length (by omega) W;obtain⟨⟨b0,b1,b2,b3⟩, -⟩:=aO Ge.out;go_enter Tryz.func11,Tryz.ntmps11;go_upto_region 1 with fail;rw[<-HW1.out];go_wp2;clear hmk b0 b1 b2 b3;obtain⟨g0,hg0⟩:=nmE W1.heap.size;have HG0:Hid (g0=W1.heap.size):=hid hg0;have HO0:Hid (bL (W1.heap.size<=·) (W1.alloc (.cells (eC x.af3.length) 115)) (.slice (some ⟨g0,0,none⟩) x.af3.length x.af3.length) (List.replicate x.af3.length [])):=hid (by rw[hg0];exact wQ W1 _ (by omega));rw[<-hg0];clear hg0
 go_loopw [6,7,8] (fun at_ many kk wr=>∃(k a:Nat) (W:ah.bK),k<=x.af3.length/\a<=1000*k/\at_=.int .i64 (a:Int)/\many=.int .i64 ((ah.total W:Nat):Int)/\kk=.int .i64 (k:Int)/\Hid (ah.q9 x k W)/\Hid (bL (W1.heap.size<=·) wr (.slice (some ⟨g0,0,none⟩) x.af3.length x.af3.length) W)/\Hid (BL W1 wr))
  (fun _ _ kk _=>x.af3.length-(intOf kk).toNat)
 case atStart=>exact⟨0,0,List.replicate x.af3.length [],by omega,by omega,rfl,by rw[ah.Cj];rfl,rfl,hid (ah.q9.zero x),HO0,hid (aj.alloc aB _)⟩
 case round=>
  obtain⟨k,a,W,hkl,hal,rfl,rfl,rfl,HU,HO,HB⟩:=hrel;obtain⟨wo,rfl⟩:=nmE (wr:World);have hzz:=HB.out.size;have h0z:=R5.out;have c1:=(aO ((HB.out.block _ (ay Ge.out)).trans Ge.out)).1.2.1;by_cases hlt:k<x.af3.length
  ·have hk0:(0:Int)<=k:=by omega
   have hk1:(k:Int)<x.af3.length:=by omega
   have pM:=HU.out.tot;have hat:=Dm L a 5 (by omega);have pT:=hid (Gy L HL.out (.slice au L.length cu) a 5 (·<w.heap.size+1) wo (HUV.out.keep (aA.aM HB.out (fun b hb=>by have h9:b<w.heap.size+1:=hb;omega))) (by omega) (by omega) (by omega));rw[Int.toNat_natCast] at pT;generalize hT:ah.total W=tt at*;have K8:=hid hT;clear hT;generalize Rj L a 5=t at*;obtain⟨hat0,hat5⟩:=hat;go_upto_region 7 with fail;go_cut [9] from 27 to 32 (fun n wx=>∃m:Nat,n=.int .i64 (m:Int)/\Hid (m+tt<=6)/\wo=wx)
   case first=>
    go_wp2_with fail;refine pT.out.mono ?_;rintro e w' ⟨rfl,rfl⟩;by_cases hmn:6-(tt:Int)<t
    ·obtain⟨m,hm⟩:∃m:Nat,6-(tt:Int)=(m:Int):=⟨6-tt,by omega⟩
     have HM:=hid hm;have Xb:m+tt<=6:=by omega
     clear hm;go_wp2;go_meet;case rel=>exact⟨m,by rw[HM.out],hid Xb,rfl⟩
    ·obtain⟨m,hm⟩:∃m:Nat,t=(m:Int):=⟨t.toNat,by omega⟩
     subst hm;have Xb:m+tt<=6:=by omega
     go_wp2;go_meet;case rel=>exact⟨m,rfl,hid Xb,rfl⟩
   case rest=>
    obtain⟨m0,rfl,HM,rfl⟩:=hcut;clear pT hat0 hat5;have AV:=HM.out;obtain⟨R6, -, -, -, -,uf,y3,nU⟩:=HKV.out.at hlt;obtain⟨af,cf,rfl,WY, -, -⟩:=nU.form;obtain⟨nf,hnf⟩:=nmE (x.af3[k].af4.length);have hnf20:nf<=20:=by rw[hnf];exact HF.out _ (zGm _)
    rw[<-hnf] at y3;have Xc:=hid hnf;have HFK:=hid nU;have hskf2:dG af nf:=by rw[Xc.out];exact WY
    have HY3:=hid y3;clear WY;have y3:=(HB.out.cell (p:=⟨aY ak,bC ak+k*4+3,none⟩) R6).trans HY3.out;clear nU hnf;go_wp2;go_loopw [9,10] (fun n f w2=>∃m f':Nat,m<=m0/\f'<=nf/\n=.int .i64 (m:Int)/\f=.int .i64 (f':Int)/\Hid (0<m->∀j:Nat,j<f'->(ah.fd x k j).kind=1->0<ah.eV W (ah.dB x k j))/\Hid (BL wo w2)) (fun _ f _=>nf-(intOf f).toNat);case atStart=>exact⟨m0,0,aB,by omega,rfl,rfl,hid (fun _ j h=>absurd h (by omega)),hid aj⟩
    case round=>
     obtain⟨m,f',hmm,A1,rfl,rfl,HP,bB⟩:=hrel;have HBW:=bq HB bB.out;have hz9:=HBW.out.size;obtain⟨⟨x0,x1,x2,x3⟩, -⟩:=aO ((HBW.out.block _ (ay Ge.out)).trans Ge.out);have y3':=(HBW.out.cell (p:=⟨aY ak,bC ak+k*4+3,none⟩) R6).trans HY3.out;by_cases hfl:f'<nf
     ·have hfl1:(f':Int)<nf:=by omega
      have hf0:(0:Int)<=f':=by omega
      go_wp2_with fail;refine(Ki x k f' _ (·<w.heap.size+1) wr (ZT.out.keep (aA.aM HBW.out (fun b hb=>by have h9:b<w.heap.size+1:=hb;omega))) ⟨by omega,by omega⟩ ⟨by omega,by omega⟩).mono ?_;rintro e w3 ⟨rfl,hb3⟩;have bG:=bq bB hb3;have Kk:=ah.vo x k f' (by omega);obtain⟨up,hup⟩:=nmE (ah.dB x k f');rw[<-hup] at Kk ⊢;have HUP:=hid hup;clear hb3 hup x0 x1 x2 x3 y3';by_cases hu0:0<=up
      ·obtain⟨q,rfl⟩:∃q:Nat,up=(q:Int):=⟨up.toNat,by omega⟩
       have Xd:q<W.length:=by rw[HU.out.len];omega
       have hq1:(q:Int)<x.af3.length:=by omega
       have hO3:=bL.sl (bM.keep HO.out (aA.below bG.out));obtain⟨uq,cq, -,hrq⟩:=eX.at hO3 Xd;obtain⟨aq,cpq,rfl, -, -, -⟩:=hrq.form;simp only[fC,fD,Nat.zero_add] at cq
       have hle:W[q].length=ah.eV W (ah.dB x k f'):=by
        rw[<-HUP.out,ah.eV,Int.toNat_natCast,zGd,zEg Xd];rfl
       have HLE:=hid hle;have hskq:dG (some ⟨g0,0,none⟩) x.af3.length:=fun _=>⟨_,_,rfl⟩;clear hO3 hrq hle;by_cases hz:W[q].length=0
       ·have Xe:((W[q].length:Int)==0)=true:=by simp[hz]
        clear hz;generalize W[q].length=lq at*;go_wp2;go_roundw;case rel=>exact⟨0,f'+1,by omega,by omega,rfl,by go_num,hid (fun h=>absurd h (by omega)),bG⟩
        simp[intOf];omega
       ·have Xe:((W[q].length:Int)==0)=false:=Dl (by omega)
        have hpos:0<W[q].length:=by omega
        have ES:Hid (0<m->∀j:Nat,j<f'+1->(ah.fd x k j).kind=1->0<ah.eV W (ah.dB x k j)):=hid (fun h j hj hR=>by
         by_cases e:j=f'
         ·subst e;rw[<-HLE.out];exact hpos
         ·exact HP.out h j (by omega) hR)
        clear hz hpos;generalize W[q].length=lq at*;go_wp2;go_roundw;case rel=>exact⟨m,f'+1,hmm,by omega,rfl,by go_num,ES,bG⟩
        simp[intOf];omega
      ·have ES:Hid (0<m->∀j:Nat,j<f'+1->(ah.fd x k j).kind=1->0<ah.eV W (ah.dB x k j)):=hid (fun h j hj hR=>by
        by_cases e:j=f'
        ·subst e
         have h1:=HX.out k j hlt (by rw[fM hlt,<-Xc.out];exact hfl) hR;rw[<-HUP.out] at h1;omega
        ·exact HP.out h j (by omega) hR)
       go_wp2;go_roundw;case rel=>exact⟨m,f'+1,hmm,by omega,rfl,by go_num,ES,bG⟩
       simp[intOf];omega
     ·have hff2:nf=f':=by omega
      subst hff2;clear hfl A1;obtain⟨wm,rfl⟩:=nmE (wr:World);have mg:k<W.length:=by rw[HU.out.len];exact hlt
      have hWk:W.set k []=W:=by
       have:=HU.out.rest k mg aB;rw[<-this];exact List.set_getElem_self mg
      have HOm:Hid (bL (W1.heap.size<=·) wm (.slice (some ⟨g0,0,none⟩) x.af3.length x.af3.length) (W.set k [])):=hid (by rw[hWk];exact bM.keep HO.out (aA.below bB.out));have HUm:Hid (ah.q9 x (k+1) (W.set k [])):=hid (by rw[hWk];exact HU.out.next);have hTm:tt+([]:List (List Int)).length=ah.total (W.set k []):=by rw[hWk,K8.out];simp
      have HTm:=hid hTm;clear hWk hTm;go_wp2;clear x0 x1 x2 x3 y3'
      go_loopw [6,7,12] (fun at_ many ii w3=>∃(a' mn:Nat) (rows:List (List Int)),rows.length<=m/\a'<=1000*k+1+100*rows.length/\mn<=10000/\at_=.int .i64 (a':Int)/\many=.int .i64 (mn:Int)/\ii=.int .i64 ((rows.length:Nat):Int)/\Hid (mn=tt+rows.length)/\Hid (tt+rows.length=ah.total (W.set k rows))/\Hid (ah.q9 x (k+1) (W.set k rows))/\
       Hid (bL (W1.heap.size<=·) w3 (.slice (some ⟨g0,0,none⟩) x.af3.length x.af3.length) (W.set k rows))/\Hid (BL W1 w3)) (fun _ _ ii _=>m-(intOf ii).toNat)
      case atStart=>exact⟨a+1,tt,[],by simp,by simp;omega,by omega,by go_num,rfl,rfl,hid (by simp),HTm,HUm,HOm,HBW⟩
      case round=>
       obtain⟨a',mn,rows,hrm,ha',hmn,rfl,rfl,rfl,HMN,xV,Xf,HO3,bG⟩:=hrel;obtain⟨wi,rfl⟩:=nmE (wr:World);have A5:=bG.out.size;by_cases him:rows.length<m
       ·have him1:(rows.length:Int)<m:=by omega
        have hm1:0<m:=by omega
        have Na:w.heap.size<wi.heap.size:=by omega
        have y4:=(bG.out.cell (p:=⟨aY ak,bC ak+k*4+3,none⟩) R6).trans HY3.out;go_wp2
        go_loopw [6,13,14] (fun at_ rv ff w4=>∃(a4:Nat) (r:List Int) (ra:Option Addr) (rc:Nat),r.length<=nf/\a4<=a'+r.length/\at_=.int .i64 (a4:Int)/\rv=.slice ra r.length rc/\ff=.int .i64 ((r.length:Nat):Int)/\Hid (cF (wi.heap.size<=·) w4 (.slice ra r.length rc) r)/\
         Hid (∀(j:Nat) (h:j<r.length),((ah.fd x k j).kind=1->0<=r[j]/\r[j]<ah.eV W (ah.dB x k j))/\ -100<=r[j]/\r[j]<=100)/\Hid (BL wi w4)) (fun _ _ ff _=>nf-(intOf ff).toNat)
        case atStart=>exact⟨a',[],none,0,by simp,by simp,rfl,rfl,rfl,hid (cF.nil _ _),hid (fun j h=>absurd h (by simp)),hid aj⟩
        case round=>
         obtain⟨a4,r,ra,rc,hrn,ha4,rfl,rfl,rfl,HI,Gf,dO⟩:=hrel;have Nb:=dO.out.size;have OO:=bq bG dO.out;obtain⟨⟨x0,x1,x2,x3⟩, -⟩:=aO ((OO.out.block _ (ay Ge.out)).trans Ge.out);have y5:=(OO.out.cell (p:=⟨aY ak,bC ak+k*4+3,none⟩) R6).trans HY3.out;by_cases hrf:r.length<nf
         ·have hrf1:(r.length:Int)<nf:=by omega
          have OP:=(HFK.out.keep (aA.aM OO.out (fun b hb=>by have h9:b<w.heap.size+1:=hb;omega))).at (j:=r.length) (by rw[<-Xc.out];exact hrf);obtain⟨-, -, -, -, -,f3, -⟩:=OP;have HFD:Hid (x.af3[k].af4[r.length]'(by rw[<-Xc.out];exact hrf)=ah.fd x k r.length):=hid (rI hlt (by rw[<-Xc.out];exact hrf)).symm;rw[HFD.out] at f3;go_upto_region 23 with fail;go_cut [15] from 74 to 81 (fun q wx=>∃vv:Int,q=.int .i64 vv/\Hid (-2<=vv/\vv<=9)/\wr=wx)
          case first=>
           have hU4:=HUV.out.keep (aA.aM OO.out (fun b hb=>by have h9:b<w.heap.size+1:=hb;omega));have HU4:=hid hU4;clear hU4 f3;by_cases hL1:(L.length:Int)<1
           all_goals
            go_wp2_with fail
            refine(OM L HL.out (.slice au L.length cu) _ 12 (·<w.heap.size+1) wr HU4.out (by omega) (by omega) (by first|omega|exact Int.emod_nonneg _ (by omega))).mono ?_
            rintro e w' ⟨z,rfl,z0,z1,rfl⟩
            go_wp2
            go_meet
            case rel=>exact⟨_,rfl,hid ⟨by omega,by omega⟩,rfl⟩
          case rest=>
           obtain⟨vv,rfl,HVV,rfl⟩:=hcut;have hvv:=HVV.out;obtain⟨hvv1,hvv2⟩:=hvv;have hrl:=hrf;have Bn:Hid (∀fk,fk=(ah.fd x k r.length).kind->fk=(ah.fd x k r.length).kind):=hid (fun _ h=>h);obtain⟨fk,nU⟩:=nmE ((ah.fd x k r.length).kind);rw[<-nU] at f3;have Kl:=hid nU;clear nU Bn;go_upto_if 94 with fail;go_cut [15] from 95 to 107 (fun q wx=>∃vv:Int,q=.int .i64 vv/\Hid ((fk=1->0<=vv/\vv<ah.eV W (ah.dB x k r.length))/\ -100<=vv/\vv<=100)/\Hid (BL wr wx))
           case first=>
            by_cases R7:fk=1
            ·subst R7
             have hup:=ah.vo x k r.length (by omega);have afd:0<=ah.dB x k r.length:=HX.out k r.length hlt (by rw[fM hlt,<-Xc.out];exact hrf) Kl.out.symm;have hpos:=HP.out hm1 r.length hrf Kl.out.symm;go_wp2_with fail;refine(Ki x k r.length _ (·<w.heap.size+1) wr (ZT.out.keep (aA.aM OO.out (fun b hb=>by have h9:b<w.heap.size+1:=hb;omega))) ⟨by omega,by omega⟩ ⟨by omega,by omega⟩).mono ?_;rintro e w6 ⟨rfl,lN⟩;have jC:=hid lN;obtain⟨q,hq⟩:∃q:Nat,ah.dB x k r.length=(q:Int):=⟨(ah.dB x k r.length).toNat,by omega⟩;have HQ:=hid hq;rw[hq] at hup afd hpos ⊢;have hqk:q<k:=by omega
             have hq1:(q:Int)<x.af3.length:=by omega
             have Xd:q<(W.set k rows).length:=by rw[List.length_set];omega
             have hO6:=bL.sl (bM.keep HO3.out (aA.below (tnB dO.out lN)));obtain⟨uq,cq, -,hrq⟩:=eX.at hO6 Xd;obtain⟨aq,cpq,rfl, -, -, -⟩:=hrq.form;simp only[fC,fD,Nat.zero_add] at cq
             have hle:(W.set k rows)[q].length=ah.eV W (q:Int):=by
              rw[List.getElem_set_ne (by omega),ah.eV,Int.toNat_natCast,zGd,zEg (by omega)];rfl
             have hskq:dG (some ⟨g0,0,none⟩) x.af3.length:=fun _=>⟨_,_,rfl⟩;rw[hle] at cq;clear hO6 hrq hle lN hq f3 y5 x0 x1 x2 x3;obtain⟨lq,hlq⟩:=nmE (ah.eV W (q:Int));rw[<-hlq] at cq hpos;have HLQ:=hid hlq;clear hlq;have hlq1:¬(lq:Int)<1:=by omega
             have hlq2:(1:Int)<=lq:=by omega
             have hq00:¬(q:Int)<0:=by omega
             have hmd:=Int.emod_lt_of_pos (vv+2) (show (0:Int)<lq by omega);have aaY:=Int.emod_nonneg (vv+2) (show (lq:Int)≠0 by omega)
             have hmd2:(vv+2) % (lq:Int)<=vv+2:=by
              have h1:=Int.emod_add_mul_ediv (vv+2) lq;have h2:=Int.mul_nonneg (show (0:Int)<=lq by omega) (Int.ediv_nonneg (show 0<=vv+2 by omega) (show (0:Int)<=lq by omega));omega
             have HV:Hid ((1=(1:Int)->0<=(vv+2) % (lq:Int)/\(vv+2) % (lq:Int)<ah.eV W (ah.dB x k r.length))/\ -100<=(vv+2) % (lq:Int)/\(vv+2) % (lq:Int)<=100):=hid ⟨fun _=>⟨aaY,by rw[HQ.out,<-HLQ.out];exact hmd⟩,by omega,by omega⟩;clear hmd aaY hmd2;go_wp2;go_meet;case rel=>exact⟨_,rfl,HV,jC⟩
            ·have hbf:(fk==1)=false:=Dl R7
             have HNR:Hid (¬fk=1):=hid R7;clear R7;go_wp2;go_meet;case rel=>exact⟨vv,rfl,hid ⟨fun h=>absurd h HNR.out,by omega,by omega⟩,hid aj⟩
           case rest=>
            clear hvv1 hvv2 HVV f3 y5 x0 x1 x2 x3;obtain⟨vv,rfl,HVV,kN⟩:=hcut;have HI7:=hid (bg.keep HI.out (aA.below kN.out));have hz7:=kN.out.size;go_wp2_with (at_builtin;go_must (refine gZ rfl _ _ rfl Tryz.Nr rfl HI7.out (aj.alloc aB _) rfl (lF yQ wc _ vv rfl trivial) (by omega) ?_));intro v' w8 hI8 A4;obtain⟨r2,xR⟩:=nmE (r++[vv]);rw[<-xR] at hI8;have hl2:r2.length=r.length+1:=by rw[xR];simp
            obtain⟨a2,c2,rfl, -, -, -⟩:=(cF.sl hI8).form;have HI8:Hid (cF (wi.heap.size<=·) w8 (.slice a2 r2.length c2) r2):=hid (bg.mono hI8 (fun b _ hb=>eO (by omega) b hb));have lP:Hid (BL wi w8):=hid (((tnB dO.out kN.out).alloc (by omega) _).trans (A4.below (by simp;omega) (fun b hb=>HI7.out.2 b hb.symm)))
            have WJ:Hid (∀(j:Nat) (h:j<r2.length),((ah.fd x k j).kind=1->0<=r2[j]/\r2[j]<ah.eV W (ah.dB x k j))/\ -100<=r2[j]/\r2[j]<=100):=hid (fun j hj=>by
             subst xR;by_cases K9:j<r.length
             ·rw[zAl K9];exact Gf.out j K9
             ·have e:j=r.length:=by omega
              subst e;rw[zAr aB];simp only[Nat.sub_self,List.getElem_cons_zero];rw[<-Kl.out];exact HVV.out)
            have cU:=hid hl2;clear hI8 A4 xR hl2 HI7 Gf HI HVV kN;go_wp2;go_roundw;case rel=>exact⟨a4+1,r2,a2,c2,by have:=cU.out;omega,by have:=cU.out;omega,by go_num,rfl,by rw[cU.out];go_num,HI8,WJ,lP⟩
            simp[intOf];have:=cU.out;omega
         ·have Xg:r.length=nf:=by omega
          have HRK:Hid (ah.Ci x k W r):=hid ⟨by rw[Xg,fM hlt,Xc.out],Gf.out⟩;have HRN:=hid Xg;clear Xg;have hkX:k<(W.set k rows).length:=by rw[List.length_set];exact mg
          obtain⟨g,R8,uu,TT,e1,e2,e3,Gg,hcg,hfg,Ee,ET, -,hback⟩:=gD.borrow fE HO3.out k hkX
          have hgg:g0=g:=by
           simp only[Value.slice.injEq,Option.some.injEq,Addr.mk.injEq] at e1;exact e1.1.1
          subst hgg;rw[List.getElem_set_self] at Ee;obtain⟨ag,cg,rfl, -, -, -⟩:=(ko.sl Ee).form;have hgl:g0<wi.heap.size:=zBl wi ⟨g0,k,none⟩ hcg;have hcg2:=(dO.out.cell (p:=⟨g0,k,none⟩) hgl).trans hcg;have ZU:=hid Ee;have OQ:=hid (fun w2 u'=>hback w2 u' (rows++[r]));have aaZ:=hid ET;have Xh:dG (some ⟨g0,0,none⟩) x.af3.length:=fun _=>⟨_,_,rfl⟩;have mK:=dO.out;clear e1 e2 e3 Ee ET hback hcg hfg;go_wp2_with (at_builtin;go_must (refine nV bg rfl _ _ rfl Tryz.UE rfl ZU.out mK rfl r HI.out rfl (by omega) ?_));intro v' w9 hR9 vm;obtain⟨Xi,R9⟩:=nmE (rows++[r]);have HBk2:=OQ.out w9 v' ((Turns.aM mK).trans (vm.mono fun b _ hb=>ZU.out.1 b hb.symm)) hR9;obtain⟨k1,k2,k3,k4⟩:=HBk2;rw[List.set_set,<-R9] at k3;have hl2:Xi.length=rows.length+1:=by rw[R9];simp
          have rH:Hid (bL (W1.heap.size<=·) (w9.setCell ⟨g0,k,none⟩ v') (.slice (some ⟨g0,0,none⟩) x.af3.length x.af3.length) (W.set k Xi)):=hid (bM.mono k3 (fun b _ hb=>eO A5 b hb))
          have uV:Hid (BL W1 (w9.setCell ⟨g0,k,none⟩ v')):=hid (bG.out.trans (k4.below A5 (fun b hb=>by
           rcases hb with hb|hb
           ·exact(aaZ.out b hb).1
           ·rw[hb];exact Gg)))
          have Sb:Hid (tt+Xi.length=ah.total (W.set k Xi)):=hid (by
           have t1:=ah.mX mg rows
           have t2:=ah.mX mg Xi
           have t3:=xV.out
           omega)
          have HU9:Hid (ah.q9 x (k+1) (W.set k Xi)):=hid (by
           rw[R9]
           exact ah.q9.snoc HX.out mg Xf.out HRK.out (by have t3:=xV.out;omega))
          obtain⟨av,lv,cv,rfl⟩:∃a l c,v'=.slice a l c:=by obtain⟨a,c,e,_⟩:=(ko.sl hR9).form;exact⟨_,_,_,e⟩
          have cU:=hid hl2;clear hR9 vm k3 k4 R9 hl2 OQ ZU aaZ xV Xf HO3 HI Gf;go_wp2;go_roundw;case rel=>exact⟨a4,mn+1,Xi,by have:=cU.out;omega,by have:=cU.out;have:=HRN.out;omega,by have:=HMN.out;omega,rfl,by go_num,by rw[cU.out];go_num,hid (by have:=cU.out;have:=HMN.out;omega),Sb,HU9,rH,uV⟩
          simp[intOf];have:=cU.out;omega
       ·clear y3
        go_wp2;go_roundw;case rel=>exact⟨k+1,a',W.set k rows,by omega,by omega,rfl,by rw[<-xV.out,HMN.out],by go_num,Xf,HO3,bG⟩
        simp[intOf];omega
  ·have hkk:k=x.af3.length:=by omega
   go_wp2;go_ret;exact⟨_,W,rfl,HU.out.done,bM.mono HO.out (fun b _ hb=>by have h9:W1.heap.size<=b:=hb;show w.heap.size<=b;omega),aW.out.trans (HB.out.mono (by omega))⟩
end Go.Proofs.YtobgljfnfpolkaaGreatDoor
