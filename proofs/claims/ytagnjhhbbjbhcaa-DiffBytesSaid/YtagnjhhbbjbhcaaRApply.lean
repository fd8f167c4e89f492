/- Apply of the reference. -/
import Derived.Test.YtagnjhhbbjbhcaaFits2
namespace Go.Proofs.Ytagnjhhbbjbhcaa
open Go.RowKit

theorem rfits_mid {l n : Nat} {W : List (List (List Int))} (hM : MidW l n W) (hl : l ≤ 6) (hn : n ≤ 100000) (c : Chg) (hc : c.values.length ≤ 100000) (ad : Option Addr) (cap : Nat) (S T' : Nat → Prop) (w : World) (aa : Option Addr) (ca : Nat)
    (hw : WorldF S w (.slice aa l ca) W) (hu : IntsV T' w (.slice ad c.values.length cap) c.values) :
    Calls Try.prog 42 #[.slice aa l ca, c.val (.slice ad c.values.length cap)] w fun e w' => e = .returned (.int .i64 (fitsE W c)) ∧ Below w.heap.size w w' := by
  obtain ⟨h1, rfl, h3⟩ := hM
  exact rfits_any W h1 hl (fun rows hr => by have := h3 rows hr; omega) c hc ad cap S T' w aa ca hw.sl hu

set_option maxRecDepth 100000 in
set_option maxHeartbeats 8000000 in
theorem rapply_any (V : List (List (List Int))) (hV : Small V) (cs : List Chg) (hcs : cs.length ≤ 100000) (hcv : ∀ c ∈ cs, c.values.length ≤ 100000) (u v : Value) (S T : Nat → Prop) (w : World) (hu : WorldV S w u V) (hv : ChV T w v cs) :
    Calls Try.prog 23 #[u, v] w fun e w' => ∃ x, e = .returned (.tuple #[x, .int .i64 (applyL V cs).1]) ∧ WorldV AnyB w' x (applyL V cs).2 ∧ Below w.heap.size w w' := by
  have hSh := shapedR_any V hV u S w hu
  have HSh := hid hSh
  clear hSh
  have hCp := fun n => copy_any V hV u S (w.drewN n) (hu.keep (KeepS.below (below_drewN (Below.refl _ _) n)))
  have HCp := hid hCp
  clear hCp
  have hv0 := hv
  obtain ⟨a, cap, rfl, hok, hcap, hmax⟩ := hu.form
  obtain ⟨ac, capc, rfl, hokc, hcapc, hmaxc⟩ := hv.form
  clear hu hv
  have hn := hV.1
  by_cases hsh : ShapedW V
  · have HA : Hid (applyL V cs = if 8192 < cs.length then (4, []) else if (runC V cs).1 ≠ 0 then ((runC V cs).1, []) else if 512 < total (runC V cs).2 then (4, []) else runC V cs) := hid (by unfold applyL; rw [if_neg (fun h => h hsh)])
    have hV6 := hsh.2.1
    have hV0 : MidW V.length 512 V := ⟨hsh.even, rfl, fun rows hr => (shaped_kind hsh hr).1⟩
    have HV := hid hV0
    clear hV0
    rw [decide_eq_true hsh] at HSh
    clear hsh
    go_enter Try.func23, Try.ntmps23
    go_wp2_with fail
    refine HSh.out.mono ?_
    rintro e w1 ⟨rfl, n1, rfl⟩
    by_cases h8 : 8192 < cs.length
    · have h8' : (8192 : Int) < cs.length := by omega
      have HA2 := hid (HA.out.trans (if_pos h8))
      clear HA h8
      go_wp2
      go_ret2
      exact ⟨.slice none 0 0, by rw [HA2.out]; rfl, by rw [HA2.out]; exact SlV.nil _ _ _, below_drewN (Below.refl _ _) n1⟩
    · have h8' : (cs.length : Int) ≤ 8192 := by omega
      have HA2 := hid (HA.out.trans (if_neg h8))
      clear HA h8
      go_wp2_with fail
      refine (HCp.out n1).mono ?_
      rintro e w2 ⟨x, rfl, hx, hb2⟩
      have hb : Below w.heap.size w w2 := (below_drewN (Below.refl _ _) n1).trans hb2
      have hx2 : WorldF (w.heap.size ≤ ·) w2 x V := hx
      obtain ⟨aw, cw, rfl, hokw, hcapw, hmaxw⟩ := hx2.sl.form
      have HO := hid hx2
      have HB := hid hb
      clear hx hx2 hb hb2
      go_wp2
      go_loopw [7] (fun i wr => ∃ (k : Nat) (W : List (List (List Int))), k ≤ cs.length ∧ i = .int .i64 k ∧ Hid (runC V cs = runC W (cs.drop k)) ∧ Hid (MidW V.length (512 + k) W) ∧ Hid (WorldF (w.heap.size ≤ ·) wr (.slice aw V.length cw) W) ∧ Below w.heap.size w wr) (fun i _ => cs.length - (intOf i).toNat)
      case atStart => exact ⟨0, V, by omega, rfl, hid rfl, HV, HO, HB.out⟩
      case round =>
        obtain ⟨k, W, hk, rfl, HRun, HMid, HW, hb2⟩ := hrel
        by_cases hlt : k < cs.length
        · have hv1 : ChV T wr (.slice ac cs.length capc) cs := hv0.keep (KeepS.below hb2)
          obtain ⟨hbk, -, c0, c1, c2, c3, c4, ul, c5, hul⟩ := hv1.at hlt
          have hcl := hcv _ (List.getElem_mem hlt)
          have HRun2 : Hid (runC V cs = if fitsE W cs[k] ≠ 0 then (fitsE W cs[k], W) else runC (doC W cs[k]) (cs.drop (k + 1))) := hid (by rw [HRun.out, List.drop_eq_getElem_cons hlt]; rfl)
          have HStep : Hid (fitsE W cs[k] = 0 → MidW V.length (512 + k + 1) (doC W cs[k])) := hid (fun h => HMid.out.step h)
          have HOk : Hid (fitsE W cs[k] = 0 → _) := hid (fun h => fits_ok h)
          generalize cs[k] = c at *
          have HC := fun ad cap w' => hid (rfits_mid HMid.out hV6 (by omega) c hcl ad cap (w.heap.size ≤ ·) T w' aw cw)
          obtain ⟨q1, q2, q3, q4, q5, vs⟩ := c
          simp only at c0 c1 c2 c3 c4 hul
          have hul0 := hul
          obtain ⟨al, cl, rfl, -, -, -⟩ := hul.form
          have HUL := hid hul0
          clear hul hul0 hv1
          have hk0 : (0 : Int) ≤ k := by omega
          have hk1 : (k : Int) < cs.length := by omega
          simp only [Chg.val] at HC
          go_wp2_with fail
          have hz2 := hb2.size
          have hA0 : Below wr.heap.size wr (wr.alloc (.cells #[.int .i64 q1, .int .i64 q2, .int .i64 q3, .int .i64 q4, .int .i64 q5, .slice al vs.length cl] 73)) := (Below.refl _ _).alloc (Nat.le_refl _) _
          refine ((HC al cl _).out (steady_worldF.keep HW.out (KeepS.below hA0)) (HUL.out.keep (KeepS.below hA0))).mono ?_
          rintro e w3 ⟨rfl, hbf⟩
          have hbx := (hbf.block wr.heap.size (by simp)).trans (World.alloc_heap_new _ _)
          have hb03 : Below wr.heap.size wr w3 := hA0.trans (hbf.mono (by simp))
          have hszx := (Array.getElem?_eq_some_iff.1 hbx).1
          have b0 : w3.cell? ⟨wr.heap.size, 0, none⟩ = some (.int .i64 q1) := by simp [World.cell?, hbx]
          have b1 : w3.cell? ⟨wr.heap.size, 1, none⟩ = some (.int .i64 q2) := by simp [World.cell?, hbx]
          have b2 : w3.cell? ⟨wr.heap.size, 2, none⟩ = some (.int .i64 q3) := by simp [World.cell?, hbx]
          have b4 : w3.cell? ⟨wr.heap.size, 4, none⟩ = some (.int .i64 q5) := by simp [World.cell?, hbx]
          have b5 : w3.cell? ⟨wr.heap.size, 5, none⟩ = some (.slice al vs.length cl) := by simp [World.cell?, hbx]
          have hb3 : Below w.heap.size w w3 := hb2.trans (hb03.mono hz2)
          have hWl0 := HMid.out.2.1
          have hW3 : WorldF (fun b => w.heap.size ≤ b ∧ b < wr.heap.size) w3 (.slice aw W.length cw) W := by
            rw [hWl0]
            exact steady_worldF.keep (steady_worldF.mono HW.out (fun b hb h => ⟨h, hb⟩)) (KeepS.below hb03)
          have HWL := hid hWl0
          clear hWl0
          have HW3 := hid hW3
          have HUL3 := hid (HUL.out.keep (KeepS.below hb03))
          clear hA0 hbf hbx hW3 HC HW HUL hb2 c0 c1 c2 c3 c4 c5
          generalize hD : doC W ⟨q1, q2, q3, q4, q5, vs⟩ = W' at *
          have HD := hid hD
          clear hD
          generalize fitsE W ⟨q1, q2, q3, q4, q5, vs⟩ = ee at *
          by_cases he : ee = 0
          · subst he
            have HM4 : Hid (MidW V.length (512 + (k + 1)) W') := hid (HStep.out rfl)
            have HR4 : Hid (runC V cs = runC W' (cs.drop (k + 1))) := hid (by rw [HRun2.out, if_neg (fun h => h rfl)])
            obtain ⟨hfm, kn, hkn, hq1, hcase⟩ := HOk.out rfl
            have hq1' : q1 = (kn : Int) := hq1
            subst hq1'
            clear hq1
            clear HOk HRun2 HStep HRun hfm
            have hrl : W[kn].length ≤ 100000 := by have := HMid.out.2.2 _ (List.getElem_mem hkn); omega
            obtain ⟨ak, ck, hck, hbk, hokk, hmk, hmax2, hrV⟩ := kind_at HW3.out.sl hkn
            obtain ⟨g, capg, u, T1, e1, e2, e3, hSg, hcg, hfg, hRg, hT, hback1, hback⟩ := OwnF.borrow steady_rowsF HW3.out kn hkn
            have hki : (kn : Int) < V.length := by have := HWL.out; omega
            have hki0 : (0 : Int) ≤ (kn : Int) := by omega
            cases e1
            simp only [slb_some, slo_some, Nat.zero_add] at hck hbk
            have eu : u = .slice ak W[kn].length ck := by rw [hck] at hcg; exact (Option.some.inj hcg).symm
            subst eu
            clear hcg
            rcases hcase with ⟨rfl, rfl, hdo⟩ | ⟨p, rfl, hpm, rfl, hdo⟩ | ⟨fn, p, rfl, rfl, hp, hf0, hdo⟩
            · have HDo := hid hdo
              have HB := hid (fun w2 u' => hback w2 u' (W[kn] ++ [vs]))
              have HR := hid hRg
              have HT := hid hT
              have HRL := hid (rfl : W[kn].length = W[kn].length)
              clear hdo hback hback1 hRg hT hrV
              generalize hrows : W[kn] = rows at *
              clear hrows
              generalize hmr : rows.length = m at *
              have HM := hid hmr
              clear hmr HRL
              have hBg : g < wr.heap.size := hSg.2
              have hzz : wr.heap.size < w3.heap.size := hszx
              go_wp2
              refine wp_region_held 14 [(true, 0), (true, 1), (true, 2), (true, 3), (true, 4), (true, 5), (true, 6), (true, 7), (true, 9), (true, 10), (false, 8), (false, 11), (false, 12), (false, 13)]
                (fun W => W.cell? ⟨wr.heap.size, 0, none⟩ = some (.int .i64 kn) ∧ W.cell? ⟨wr.heap.size, 5, none⟩ = some (.slice al vs.length cl) ∧ W.cell? ⟨g, kn, none⟩ = some (.slice ak m ck)) (by kernel_rfl) (by kernel_rfl) ⟨b0, b5, hck⟩ ?_
              intro hne
              have hx0 : ∀ x : Held (fun W => W.cell? ⟨wr.heap.size, 0, none⟩ = some (.int .i64 kn) ∧ W.cell? ⟨wr.heap.size, 5, none⟩ = some (.slice al vs.length cl) ∧ W.cell? ⟨g, kn, none⟩ = some (.slice ak m ck)), x.1.cell? ⟨wr.heap.size, 0, none⟩ = some (.int .i64 kn) := fun x => x.2.1
              have hx5 : ∀ x : Held (fun W => W.cell? ⟨wr.heap.size, 0, none⟩ = some (.int .i64 kn) ∧ W.cell? ⟨wr.heap.size, 5, none⟩ = some (.slice al vs.length cl) ∧ W.cell? ⟨g, kn, none⟩ = some (.slice ak m ck)), x.1.cell? ⟨wr.heap.size, 5, none⟩ = some (.slice al vs.length cl) := fun x => x.2.2.1
              have hxg : ∀ x : Held (fun W => W.cell? ⟨wr.heap.size, 0, none⟩ = some (.int .i64 kn) ∧ W.cell? ⟨wr.heap.size, 5, none⟩ = some (.slice al vs.length cl) ∧ W.cell? ⟨g, kn, none⟩ = some (.slice ak m ck)), x.1.cell? ⟨g, kn, none⟩ = some (.slice ak m ck) := fun x => x.2.2.2
              refine wpSteps_pre 8 (by decide) ?_
              simp only [List.take_succ_cons, List.take_zero]
              repeat (go_big_quiet_step (fail))
              refine wpQuiet_nil ?_
              refine wpSteps_quiet rfl ?_
              repeat (go_big_quiet_step (fail))
              refine wpQuiet_nil ?_
              refine wpSteps_quiet rfl ?_
              repeat (go_big_quiet_step (fail))
              refine wpQuiet_nil ?_
              clear hx0 hx5 hxg hne
              have hA4 : Below w3.heap.size w3 ((w3.drewN 1).alloc (.cells #[] 3)) := (below_drewN (Below.refl _ _) 1).alloc (Nat.le_refl _) _
              have hI : IntsF (w3.heap.size ≤ ·) ((w3.drewN 1).alloc (.cells #[] 3)) (.slice (some ⟨w3.heap.size, 0, none⟩) 0 0) [] :=
                ⟨World.ownsRow_made (w3.drewN 1) #[] 0 (Nat.zero_le _) (Nat.zero_le _) (by simp), fun b hb => by simp [Value.ownBlock] at hb; omega⟩
              refine wpSteps_one rfl ?_
              go_wp2
              generalize hW4 : World.alloc _ _ = w4 at *
              clear hW4
              refine qn_mk ⟨InHeld.of ⟨cell_later hA4 b0, cell_later hA4 b5, cell_later hA4 hck⟩, ?_⟩
              refine wpSteps_one rfl ?_
              refine wpList_appI rfl _ _ rfl Try.app22 rfl hI (Below.refl _ _) rfl (HUL3.out.keep (KeepS.below hA4)) (by simp; omega) ?_
              intro v5 w5 hI5 ht5
              have hI5' : IntsF (w3.heap.size ≤ ·) w5 v5 vs := by
                have := steady_intsF.mono hI5 (fun b _ hb => grow_from hA4.size b hb)
                simpa using this
              have hA5 : Below w3.heap.size w3 w5 := hA4.trans (ht5.below hA4.size (fun b hb => Nat.le_of_eq (Option.some.inj hb).symm))
              clear hI hI5 ht5 hA4
              have hsl := hI5'.sl
              obtain ⟨av, cv, rfl, -, -, -⟩ := hsl.form
              have HI := hid hI5'
              clear hsl hI5'
              have b05 := cell_later hA5 b0
              have b55 := cell_later hA5 b5
              have bg5 := cell_later hA5 hck
              have hz5 := hA5.size
              go_wp2
              refine qn_mk ⟨InHeld.of ⟨b05, b55, bg5⟩, ?_⟩
              refine wpSteps_one rfl ?_
              go_wp2
              have hA6 : Below w5.heap.size w5 (w5.alloc (.cells #[.slice av vs.length cv] 22)) := (Below.refl _ _).alloc (Nat.le_refl _) _
              have b06 := cell_later hA6 b05
              have b56 := cell_later hA6 b55
              have bg6 := cell_later hA6 bg5
              refine qn_mk ⟨InHeld.of ⟨b06, b56, bg6⟩, ?_⟩
              clear b06 b56 bg6 hA6
              refine wpSteps_one rfl ?_
              refine wpList_appF1 steady_intsF rfl _ _ rfl Try.app63 rfl HR.out hA5 rfl vs HI.out rfl (by have := HM.out; omega) ?_
              intro v' w6 hR6 ht6
              obtain ⟨av', lv', cv', rfl⟩ : ∃ a l c, v' = .slice a l c := by obtain ⟨a, c, e, _⟩ := (RowsF.sl hR6).form; exact ⟨_, _, _, e⟩
              have hneB : some wr.heap.size ≠ (Value.slice ak m ck).ownBlock := fun e => by have := (HT.out _ (HR.out.1 _ e.symm)).1.2; omega
              have hneg : some g ≠ (Value.slice ak m ck).ownBlock := fun e => (HT.out _ (HR.out.1 _ e.symm)).2.1 rfl
              have b06 : w6.cell? ⟨wr.heap.size, 0, none⟩ = some (.int .i64 kn) := by
                rw [World.cell?_of_block (w := w5) (a := ⟨wr.heap.size, 0, none⟩) (ht6.block _ hneB (by show wr.heap.size < w5.heap.size; omega))]; exact b05
              have b56 : w6.cell? ⟨wr.heap.size, 5, none⟩ = some (.slice al vs.length cl) := by
                rw [World.cell?_of_block (w := w5) (a := ⟨wr.heap.size, 5, none⟩) (ht6.block _ hneB (by show wr.heap.size < w5.heap.size; omega))]; exact b55
              have htT : Turns T1 w3 w6 := (Turns.of_below hA5).trans (ht6.mono fun b _ hb => HR.out.1 b hb.symm)
              obtain ⟨k1, k2, k3, k4⟩ := HB.out w6 _ htT hR6
              have K3 : Hid (WorldF (w.heap.size ≤ ·) (w6.setCell ⟨g, kn, none⟩ (.slice av' lv' cv')) (.slice (some ⟨g, 0, none⟩) V.length cw) W') := hid (by
                rw [HDo.out, ← HWL.out]
                exact steady_worldF.mono k3 (fun b _ h => by rcases h with h | h; exact h.1.1; have := hb3.size; omega))
              have K4 : Hid (Below w.heap.size w (w6.setCell ⟨g, kn, none⟩ (.slice av' lv' cv'))) := hid (hb3.trans (k4.below hb3.size (fun b hb => by
                rcases hb with hb | hb
                · exact (HT.out b hb).1.1
                · rw [hb]; exact hSg.1)))
              clear k3 k4 hR6 ht6 hneB hneg HI htT b05 b55 bg5 b0 b1 b2 b4 b5 hck HB HR HT
              go_wp2
              refine qn_mk ⟨InHeld.of ⟨b06, b56, k1⟩, ?_⟩
              refine wpSteps_done ?_
              clear b06 b56
              go_wp2
              go_roundw
              case rel => exact ⟨k + 1, W', by omega, by go_num, HR4, HM4, K3, K4.out⟩
              case measure => simp [intOf]; omega
            · have HDo := hid hdo
              have hR2 := (steady_rowsF.mono (S' := Grow T1 w3.heap.size) hRg (fun b hb h => .inl ⟨h, hb⟩)).take (show p < W[kn].length by omega)
              have HB := hid (fun w2 u' => hback w2 u' (W[kn].take p))
              have HR := hid hR2
              have HT := hid hT
              clear hdo hback hback1 hRg hT hrV hR2
              generalize W[kn].take p = rows' at *
              generalize W[kn].length = m at *
              have hBg : g < wr.heap.size := hSg.2
              have hp0 : (0 : Int) ≤ p := by omega
              have hp1 : p ≤ ck := by omega
              have hp2 : (p : Int) ≤ (ck : Int) := by omega
              have HPM := hid hpm
              clear hpm
              go_wp2
              refine wp_region_quiet_tail 12 (by kernel_rfl) (by kernel_rfl) ?_
              simp only [List.take_succ_cons, List.take_zero, List.drop_succ_cons, List.drop_zero]
              repeat (go_big_quiet_step (fail))
              refine wpQuiet_nil ?_
              have hdr : Below w3.heap.size w3 (w3.drewN 1) := below_drewN (Below.refl _ _) 1
              obtain ⟨k1, k2, k3, k4⟩ := HB.out (w3.drewN 1) _ (Turns.of_below hdr) (steady_rowsF.keep HR.out (KeepS.below hdr))
              have K3 : Hid (WorldF (w.heap.size ≤ ·) ((w3.drewN 1).setCell ⟨g, kn, none⟩ (.slice ak p ck)) (.slice (some ⟨g, 0, none⟩) V.length cw) W') := hid (by
                rw [HDo.out, ← HWL.out]
                exact steady_worldF.mono k3 (fun b _ h => by rcases h with h | h; exact h.1.1; have := hb3.size; omega))
              have K4 : Hid (Below w.heap.size w ((w3.drewN 1).setCell ⟨g, kn, none⟩ (.slice ak p ck))) := hid (hb3.trans (k4.below hb3.size (fun b hb => by
                rcases hb with hb | hb
                · exact (HT.out b hb).1.1
                · rw [hb]; exact hSg.1)))
              clear k3 k4 HB HR HT hdr
              go_wp2
              go_roundw
              case rel => exact ⟨k + 1, W', by omega, by go_num, HR4, HM4, K3, K4.out⟩
              case measure => simp [intOf]; omega
            · have hev := HMid.out.1 _ (List.getElem_mem hkn)
              have hevp := hev _ (List.getElem_mem hp)
              have hf : fn < W[kn][p].length := by omega
              have hf10 : W[kn][p].length ≤ 10 := hevp.2.1
              rw [getD_eq hp] at hdo
              obtain ⟨g2, cap2, u2, T2, r1, r2, r3, hTg2, hcg2, hfg2, hRg2, hT2, hback2, -⟩ := OwnF.borrow steady_intsF hRg p hp
              obtain ⟨g3, cap3, q1', q2', q3', q4', q5', q6⟩ := IntsF.set hRg2 hf
              have hg2b : g2 < w3.heap.size := (hT _ hTg2).2.2
              subst q1'
              cases r1
              have hfin : ∀ w2, Below w3.heap.size w3 w2 → WorldF (w.heap.size ≤ ·) (w2.setCell ⟨g3, fn, none⟩ (.int .i64 q5)) (.slice (some ⟨g, 0, none⟩) V.length cw) W' ∧ Below w.heap.size w (w2.setCell ⟨g3, fn, none⟩ (.int .i64 q5)) := by
                intro w2 hb
                obtain ⟨f1, f2⟩ := q6 w2 q5 hb
                have f3 := f2.mono (S' := T1) (fun b _ hb => (hT2 b hb).1)
                have f4 := hback1 _ _ f3 (hback2 _ _ f2 (steady_intsF.mono f1 (fun b _ h => by
                  by_cases hlt : b < w3.heap.size
                  · exact .inl ⟨h, hlt⟩
                  · exact .inr (by omega))))
                refine ⟨?_, hb3.trans (f3.below hb3.size (fun b hb => (hT b hb).1.1))⟩
                rw [hdo, ← HWL.out]
                exact steady_worldF.mono f4 (fun b _ h => by rcases h with h | h; exact h.1.1; have := hb3.size; omega)
              have HFin := hid hfin
              obtain ⟨ov, hov⟩ : ∃ ov, w3.cell? ⟨g3, fn, none⟩ = some (.int .i64 ov) := ⟨_, q4'⟩
              have hok3 : Slok (some ⟨g3, 0, none⟩ : Option Addr) W[kn][p].length := fun _ => ⟨_, _, rfl⟩
              clear hfin hback hback1 hback2 q6 hRg hRg2 hT hT2 hrV hdo hev hevp hf0 q4' hTg2
              have hBg : g < wr.heap.size := hSg.2
              generalize W[kn][p].length = mp at *
              generalize W[kn].length = m at *
              have g1 : (0 : Int) ≤ p := by omega
              have g2' : (p : Int) < m := by omega
              have g3' : (0 : Int) ≤ fn := by omega
              have g4 : (fn : Int) < mp := by omega
              have e1 : ((fn : Int) == -1) = false := beqF (by omega)
              have e2 : ((fn : Int) == -2) = false := beqF (by omega)
              go_wp2
              refine wp_region_quiet_tail 14 (by kernel_rfl) (by kernel_rfl) ?_
              simp only [List.take_succ_cons, List.take_zero, List.drop_succ_cons, List.drop_zero]
              repeat (go_big_quiet_step (fail))
              refine wpQuiet_nil ?_
              obtain ⟨F1, F2⟩ := HFin.out (w3.drewN 1) (below_drewN (Below.refl _ _) 1)
              have K1 := hid F1
              have K2 := hid F2
              clear F1 F2 HFin
              go_wp2
              go_roundw
              case rel => exact ⟨k + 1, W', by omega, by go_num, HR4, HM4, K1, K2.out⟩
              case measure => simp [intOf]; omega
          · have hd : (ee != 0) = true := bneT he
            have HR4 : Hid (runC V cs = (ee, W)) := hid (by rw [HRun2.out, if_pos he])
            have HA3 : Hid (applyL V cs = (ee, [])) := hid (by rw [HA2.out, HR4.out, if_pos he])
            clear he
            go_wp2
            go_ret2
            exact ⟨.slice none 0 0, by rw [HA3.out]; rfl, by rw [HA3.out]; exact SlV.nil _ _ _, hb3⟩
        · obtain rfl : k = cs.length := by omega
          have HA3 : Hid (applyL V cs = if 512 < total W then (4, []) else (0, W)) := hid (by
            rw [HA2.out, HRun.out, List.drop_length]; rfl)
          have hWl := HMid.out.2.1
          have hWt := HMid.out.total
          have hWr := HMid.out.2.2
          have hwv := (WorldF.sl HW.out)
          have hWV := hid hwv
          rw [← hWl] at hWV hV6 hn
          have hWl' := hid hWl
          have hlr : ∀ j, (h : j < W.length) → W[j].length ≤ 100000 := fun j h => by have := hWr _ (List.getElem_mem h); omega
          have hLR := hid hlr
          have hLT : Hid (∀ j, j ≤ W.length → total (W.take j) ≤ 100000 * j) := hid (fun j hj => by
            have h := total_mul (n := 100000) (W.take j) (fun rows hr => by have := hWr _ (List.mem_of_mem_take hr); omega)
            rw [List.length_take] at h
            have e : min j W.length = j := by omega
            rw [e] at h
            exact h)
          clear hlr hwv hWr HW HMid hWt
          obtain ⟨wo2, rfl⟩ : ∃ wo2 : World, wo2 = wr := ⟨_, rfl⟩
          go_wp2
          go_loopw [10, 11] (fun t i w2 => ∃ k : Nat, k ≤ W.length ∧ i = .int .i64 k ∧ t = .int .i64 (total (W.take k)) ∧ w2 = wo2) (fun _ i _ => W.length - (intOf i).toNat)
          case atStart => exact ⟨0, by omega, rfl, by simp [total], rfl⟩
          case round =>
            obtain ⟨k, hk, rfl, rfl, rfl⟩ := hrel
            have h1 := hLT.out k hk
            have hWl := hWl'.out
            by_cases hlt : k < W.length
            · obtain ⟨ak, ck, hck, hbk, hokk, hmk, hmax2, -⟩ := kind_at hWV.out hlt
              have h2 := hLR.out k hlt
              have HT := hid (total_succ hlt)
              have hkv : (k : Int) < V.length := by omega
              have hkn : k < V.length := by omega
              generalize total (W.take k) = t at *
              generalize W[k].length = m at *
              clear hWl
              go_wp2
              go_roundw
              case rel => exact ⟨k + 1, by omega, by go_num, by rw [HT.out]; go_num, trivial⟩
              case measure => simp [intOf]; omega
            · obtain rfl : k = W.length := by omega
              rw [List.take_length] at h1 ⊢
              have hge : ¬ (W.length : Int) < V.length := by omega
              have hge2 : ¬ W.length < V.length := by omega
              have HWf : Hid (WorldV AnyB wr (.slice aw V.length cw) W) := hid (by
                have h := hWV.out; rw [hWl] at h; exact WorldV.mono h (fun _ _ _ => trivial))
              clear hWl hWV
              have HT := hid (rfl : total W = total W)
              by_cases h5 : 512 < total W
              · have HA4 := hid (HA3.out.trans (if_pos h5))
                have h5' : (512 : Int) < total W := by omega
                clear h5
                generalize total W = t at *
                go_wp2
                go_ret2
                exact ⟨.slice none 0 0, by rw [HA4.out]; rfl, by rw [HA4.out]; exact SlV.nil _ _ _, hb2⟩
              · have HA4 := hid (HA3.out.trans (if_neg h5))
                have h5' : (total W : Int) ≤ 512 := by omega
                clear h5
                generalize total W = t at *
                go_wp2
                go_ret2
                exact ⟨_, by rw [HA4.out]; rfl, by rw [HA4.out]; exact HWf.out, hb2⟩
  · have HA2 : Hid (applyL V cs = (2, [])) := hid (by unfold applyL; rw [if_pos hsh])
    rw [decide_eq_false hsh] at HSh
    clear hsh
    go_enter Try.func23, Try.ntmps23
    go_wp2_with fail
    refine HSh.out.mono ?_
    rintro e w1 ⟨rfl, n1, rfl⟩
    go_wp2
    go_ret2
    exact ⟨.slice none 0 0, by rw [HA2.out]; rfl, by rw [HA2.out]; exact SlV.nil _ _ _, below_drewN (Below.refl _ _) n1⟩

end Go.Proofs.Ytagnjhhbbjbhcaa
