/- odd: a world with something changed: the walk. -/
import Derived.Test.YtagnjhhbbjbhcaaOdd
namespace Go.Proofs.Ytagnjhhbbjbhcaa
open Go.RowKit

set_option maxRecDepth 100000 in
set_option maxHeartbeats 8000000 in
theorem odd_any (W : List (List (List Int))) (hW : Tiny W) (p1 p2 p3 : Int) (a1 : -9223372036854775808 ≤ p1) (a2 : p1 ≤ 9223372036854775807) (b1 : -9223372036854775808 ≤ p2) (b2 : p2 ≤ 9223372036854775807) (c1 : -9223372036854775808 ≤ p3) (c2 : p3 ≤ 9223372036854775807)
    (u : Value) (S : Nat → Prop) (w : World) (hu : WorldV S w u W) :
    Calls Try.prog 11 #[u, .int .i64 p1, .int .i64 p2, .int .i64 p3] w fun e w' => ∃ x, e = .returned x ∧ ∃ W', Small W' ∧ WorldV AnyB w' x W' ∧ Below w.heap.size w w' := by
  have HC := hid (copy_any W hW.small u S w hu)
  have hW1 := hW.1
  have HW := hid hW
  clear hu hW
  go_enter Try.func11, Try.ntmps11
  go_wp2_with fail
  refine HC.out.mono ?_
  rintro e w1 ⟨x, rfl, hx, hb1⟩
  have hz1 := hb1.size
  obtain ⟨aa, cg, e1, hoka, hcg1, hcg2⟩ := (WorldF.sl hx).form
  subst e1
  have HX := hid hx
  clear hx
  rcases Nat.eq_zero_or_pos W.length with h0 | h0
  · -- no kinds
    obtain rfl : W = [] := List.eq_nil_of_length_eq_zero h0
    simp only [List.length_nil] at HX hoka hcg1 ⊢
    clear h0
    go_wp2_with (at_builtin; go_must (refine wpList_appF1 steady_rowsF rfl _ _ rfl Try.app25 rfl HX.out (((Below.refl _ _).alloc (Nat.le_refl _) _).alloc (by simp) _) (by exact congrArg (fun b => Value.slice (some ⟨b, 0, none⟩) 1 1) (show w1.heap.size + 1 + 1 = ((w1.alloc (.cells #[.int .i64 p3] 3)).alloc (.cells #[.slice (some ⟨w1.heap.size, 0, none⟩) 1 1] 22)).heap.size by simp)) [[p3]] (rowsF_one (b := w1.heap.size) (c := w1.heap.size + 1) [p3] (heap_step _ (heap_new _ _ rfl)) (by simp) (heap_new _ _ (by simp)) (Nat.le_refl _) (by omega) (by omega)) rfl (by simp) ?_))
    intro v' w4 hR4 ht4
    have hv := WorldV.mono (S' := AnyB) (WorldF.sl hR4) (fun _ _ _ => trivial)
    obtain ⟨av', lv', cv', rfl⟩ : ∃ a l c, v' = .slice a l c := by obtain ⟨a, c, e, _⟩ := hv.form; exact ⟨_, _, _, e⟩
    have HV := hid hv
    have hb4 : Below w.heap.size w w4 := (hb1.trans (((((Below.refl _ _).alloc (Nat.le_refl _) _).alloc (by simp) _) : Below w1.heap.size w1 ((w1.alloc (.cells #[.int .i64 p3] 3)).alloc (.cells #[.slice (some ⟨w1.heap.size, 0, none⟩) 1 1] 22))).mono hz1)).trans (ht4.below (by simp; omega) (fun b hb => HX.out.1 b hb.symm))
    clear hv hR4 ht4
    go_wp2
    go_ret
    exact ⟨_, rfl, _, ⟨by simp, by simp⟩, HV.out, hb4⟩
  · have hlen : (0 : Int) < W.length := by omega
    have hne : ((W.length : Int) == 0) = false := beqF (by omega)
    go_wp2_with fail
    refine (around_any p1 W.length _ a1 a2 (by omega) (by omega)).mono ?_
    rintro e w' ⟨rfl, rfl⟩
    have hk := around_lt p1 W.length (by omega)
    generalize around p1 W.length = kz at *
    obtain ⟨k, rfl⟩ := Int.eq_ofNat_of_zero_le hk.1
    have hkl : k < W.length := by omega
    go_wp2_with fail
    refine (around_any p2 6 _ b1 b2 (by omega) (by omega)).mono ?_
    rintro e w' ⟨rfl, rfl⟩
    have hh := around_lt p2 6 (by omega)
    generalize around p2 6 = hv at *
    have hr := HW.out.2 _ (List.getElem_mem hkl)
    obtain ⟨g0, ak, ck, T1, e1, hBg, hbg, hcg, hfg, hokk, hmk, hmax2, hRg, hT, hback⟩ := kind_b rfl hz1 HX.out hkl
    subst e1
    have hrl := hr.1
    have HR := hid hr.2
    have HRg := hid hRg
    have HT := hid hT
    have HB := hid hback
    have HL := hid (rfl : W[k].length = W[k].length)
    clear hr hRg hT hback
    generalize hrows : W[k] = rows at *
    have HSet : Hid (∀ R : List (List Int), R.length ≤ 100000 → (∀ r ∈ R, r.length ≤ 100000) → Small (W.set k R)) := hid (fun R h1 h2 => HW.out.set ⟨h1, h2⟩)
    have hcase : hv = 0 ∨ hv = 1 ∨ hv = 2 ∨ hv = 3 ∨ hv = 4 ∨ hv = 5 := by omega
    rcases hcase with rfl | rfl | rfl | rfl | rfl | rfl
    · have hz := around_lt p3 12 (by omega)
      obtain ⟨z, hzz⟩ := Int.eq_ofNat_of_zero_le hz.1
      have HZ := hid hzz
      have hz12 : z < 12 := by omega
      clear hzz hz
      have hmk := fun W => run_mkZero (P := Try.prog) (t := 22) (e := 3) (b := 8) (by kernel_rfl) (by kernel_rfl) (by omega) z (by omega) W
      have hk0 : (0 : Int) ≤ k := by omega
      have hk1 : (k : Int) < W.length := by omega
      go_wp2
      refine wp_region_held 11 [(true, 0), (true, 1), (true, 2), (true, 3), (true, 4), (true, 5), (true, 6), (false, 7), (false, 8), (false, 9), (false, 10)]
        (fun W => W.cell? ⟨g0, k, none⟩ = some (.slice ak rows.length ck)) (by kernel_rfl) (by kernel_rfl) hcg ?_
      intro hne
      refine wpSteps_pre 7 (by decide) ?_
      simp only [List.take_succ_cons, List.take_zero]
      have hx0 : ∀ x : Held (fun W => W.cell? ⟨g0, k, none⟩ = some (.slice ak rows.length ck)), x.1.cell? ⟨g0, k, none⟩ = some (.slice ak rows.length ck) := fun x => x.2
      repeat (go_big_quiet_step (fail))
      refine wpQuiet_nil ?_
      refine wpSteps_one rfl ?_
      clear hx0 hne
      go_wp2_with fail
      refine (around_any p3 12 _ c1 c2 (by omega) (by omega)).mono ?_
      rintro e w' ⟨rfl, rfl⟩
      rw [HZ.out]
      go_wp2
      refine qn_mk ⟨InHeld.of hcg, ?_⟩
      refine wpSteps_one rfl ?_
      go_wp2
      have hI : IntsF (fun b => w1.heap.size ≤ b) ((w1.drewN 1).alloc (.cells (zeroCells z) 3)) (.slice (some ⟨w1.heap.size, 0, none⟩) z z) (List.replicate z 0) := made_zero (w1.drewN 1) z (by omega)
      have hb2 : Below w1.heap.size w1 ((w1.drewN 1).alloc (.cells (zeroCells z) 3)) := (below_drewN (Below.refl _ _) 1).alloc (Nat.le_refl _) _
      have hc2 : ((w1.drewN 1).alloc (.cells (zeroCells z) 3)).cell? ⟨g0, k, none⟩ = some (.slice ak rows.length ck) := cell_later hb2 hcg
      generalize hW2 : World.alloc _ _ = w2 at *
      clear hW2 hmk
      refine qn_mk ⟨InHeld.of hc2, ?_⟩
      refine wpSteps_one rfl ?_
      go_wp2
      have hc3 : (w2.alloc (.cells #[.slice (some ⟨w1.heap.size, 0, none⟩) z z] 22)).cell? ⟨g0, k, none⟩ = some (.slice ak rows.length ck) := cell_later ((Below.refl _ _).alloc (Nat.le_refl _) _) hc2
      refine qn_mk ⟨InHeld.of hc3, ?_⟩
      clear hc3
      refine wpSteps_one rfl ?_
      go_wp2_with (at_builtin; go_must (refine wpList_appF1 steady_intsF rfl _ _ rfl Try.app63 rfl HRg.out hb2 rfl (List.replicate z 0) hI rfl (by omega) ?_))
      intro v' w4 hR4 ht4
      obtain ⟨av', lv', cv', rfl⟩ : ∃ a l c, v' = .slice a l c := by obtain ⟨a, c, e, _⟩ := (RowsF.sl hR4).form; exact ⟨_, _, _, e⟩
      have htT : Turns T1 w1 w4 := (Turns.of_below hb2).trans (ht4.mono fun b _ hb => HRg.out.1 b hb.symm)
      obtain ⟨k1, k2, k3, k4⟩ := HB.out w4 _ (rows ++ [List.replicate z 0]) htT hR4
      have K3 := hid (WorldV.mono (S' := AnyB) (WorldF.sl k3) (fun _ _ _ => trivial))
      have K4 := hid (hb1.trans (k4.mono (Nat.le_refl _)))
      have K5 := hid (HSet.out (rows ++ [List.replicate z 0]) (by simp; omega) (fun r hr => by
        rcases List.mem_append.1 hr with hr | hr
        · have := HR.out r hr; omega
        · rw [List.mem_singleton.1 hr]; simp; omega))
      clear k3 k4 HB HRg hR4 ht4 hc2 hI htT
      go_wp2
      refine qn_mk ⟨InHeld.of k1, ?_⟩
      refine wpSteps_done ?_
      clear hcg hfg
      go_wp2
      go_ret
      exact ⟨_, rfl, _, K5.out, K3.out, K4.out⟩
    · go_wp2_with (at_builtin; go_must (refine wpList_appF steady_rowsF rfl _ _ rfl Try.app25 rfl HX.out ((Below.refl _ _).alloc (Nat.le_refl _) _) rfl (fun _ => ⟨_, _, rfl⟩) [.slice none 0 0, .slice none 0 0, .slice none 0 0, .slice none 0 0] rfl (news_alloc w1 #[.slice none 0 0, .slice none 0 0, .slice none 0 0, .slice none 0 0] 63) (by simp [Value.oneCell']) [[], [], [], []] rfl (fun _ => 0) (fun i h1 h2 => by
        have h3 : i = 0 ∨ i = 1 ∨ i = 2 ∨ i = 3 := by simp at h1; omega
        rcases h3 with rfl | rfl | rfl | rfl <;> exact OwnF.nil _ _ _ _) (by omega) ?_))
      intro v' w4 hR4 ht4
      obtain ⟨av', lv', cv', rfl⟩ : ∃ a l c, v' = .slice a l c := by obtain ⟨a, c, e, _⟩ := (WorldF.sl hR4).form; exact ⟨_, _, _, e⟩
      have K3 := hid (WorldV.mono (S' := AnyB) (WorldF.sl hR4) (fun _ _ _ => trivial))
      have K4 : Hid (Below w.heap.size w w4) := hid ((hb1.alloc hz1 _).trans (ht4.below (by simp; omega) (fun b hb => by simp [Value.ownBlock] at hb; omega)))
      have K5 : Hid (Small (W ++ [[], [], [], []])) := hid ⟨by simp; omega, fun rows hr => by
        rcases List.mem_append.1 hr with hr | hr
        · exact HW.out.small.2 rows hr
        · simp at hr; subst hr; simp⟩
      clear hR4 ht4 HB HRg
      go_wp2
      go_ret
      exact ⟨_, rfl, _, K5.out, K3.out, K4.out⟩
    · have hx := WorldV.mono (S' := AnyB) (WorldF.sl (OwnF.take HX.out hkl)) (fun _ _ _ => trivial)
      have K3 := hid hx
      have K5 : Hid (Small (W.take k)) := hid ⟨by rw [List.length_take]; omega, fun rows hr => HW.out.small.2 rows (List.mem_of_mem_take hr)⟩
      have hk0 : (0 : Int) ≤ k := by omega
      have hk1 : (k : Int) < W.length := by omega
      clear hx HB HRg
      go_wp2
      go_ret
      exact ⟨_, rfl, _, K5.out, K3.out, hb1⟩
    · have hz := around_lt p3 5 (by omega)
      obtain ⟨z, hzz⟩ := Int.eq_ofNat_of_zero_le hz.1
      have HZ := hid hzz
      have hz12 : z < 5 := by omega
      clear hzz hz
      have hk0 : (0 : Int) ≤ k := by omega
      have hk1 : (k : Int) < W.length := by omega
      have HX0 : Hid (WorldF (w.heap.size ≤ ·) w1 (.slice (some ⟨g0, 0, none⟩) W.length cg) (W.set k (rows ++ List.replicate 0 [1]))) := hid (by
        have e : W.set k (rows ++ List.replicate 0 [1]) = W := by rw [List.replicate_zero, List.append_nil, ← hrows]; exact List.set_getElem_self _
        rw [e]; exact HX.out)
      clear hcg hfg HB HRg hrows
      go_wp2
      go_loopw [11] (fun i wr => ∃ q : Nat, q ≤ 514 ∧ i = .int .i64 q ∧ Hid (WorldF (w.heap.size ≤ ·) wr (.slice (some ⟨g0, 0, none⟩) W.length cg) (W.set k (rows ++ List.replicate q [1]))) ∧ Below w.heap.size w wr) (fun i _ => 514 - (intOf i).toNat)
      case atStart => exact ⟨0, by omega, rfl, HX0, hb1⟩
      case round =>
        obtain ⟨q, hq, rfl, HX1, hb⟩ := hrel
        go_wp2_with fail
        refine (around_any p3 5 _ c1 c2 (by omega) (by omega)).mono ?_
        rintro e w' ⟨rfl, rfl⟩
        rw [HZ.out]
        by_cases hlt : q < 509 + z
        · have hkX : k < (W.set k (rows ++ List.replicate q [1])).length := by simpa using hkl
          obtain ⟨g, ak', ck', T2, e1, hBg', hbg', hcg', hfg', hokk', hmk', hmax', hRg', hT', hback'⟩ := kind_b (by simp) hb.size HX1.out hkX
          have hgg : g0 = g := by cases e1; rfl
          subst hgg
          rw [List.getElem_set_self] at hRg'
          simp only [List.getElem_set_self] at hcg' hokk' hmk' hback'
          have hlq : (rows ++ List.replicate q [1]).length ≤ 2000 := by simp; omega
          have HRg' := hid hRg'
          have HT' := hid hT'
          have HB' := hid (fun w2 u' => hback' w2 u' (rows ++ List.replicate (q + 1) [1]))
          have HSS : Hid ((rows ++ List.replicate q [1]) ++ [[1]] = rows ++ List.replicate (q + 1) [1]) := hid (by rw [List.append_assoc, ← List.replicate_succ'])
          rw [List.set_set] at HB'
          clear hRg' hT' hback' hokk' hmk'
          generalize rows ++ List.replicate q [1] = R1 at *
          have hI := intsF_blk (S := fun b => wr.heap.size ≤ b) (w := wr.alloc (.cells #[.int .i64 1] 3)) (b := wr.heap.size) [1] (heap_new _ _ rfl) (by simp) (Nat.le_refl _)
          have hb2 : Below wr.heap.size wr (wr.alloc (.cells #[.int .i64 1] 3)) := (Below.refl _ _).alloc (Nat.le_refl _) _
          go_wp2_with (at_builtin; go_must (refine wpList_appF1 steady_intsF rfl _ _ rfl Try.app63 rfl HRg'.out hb2 (by exact congrArg (fun b => Value.slice (some ⟨b, 0, none⟩) 1 1) (show wr.heap.size + 1 = (wr.alloc (.cells #[.int .i64 1] 3)).heap.size by simp)) [1] hI rfl (by omega) ?_))
          intro v' w4 hR4 ht4
          obtain ⟨av', lv', cv', rfl⟩ : ∃ a l c, v' = .slice a l c := by obtain ⟨a, c, e, _⟩ := (RowsF.sl hR4).form; exact ⟨_, _, _, e⟩
          have htT : Turns T2 wr w4 := (Turns.of_below hb2).trans (ht4.mono fun b _ hb => HRg'.out.1 b hb.symm)
          rw [HSS.out] at hR4
          obtain ⟨k1, k2, k3, k4⟩ := HB'.out w4 _ htT hR4
          have K3 := hid k3
          have K4 : Hid (Below w.heap.size w (w4.setCell ⟨g0, k, none⟩ (.slice av' lv' cv'))) := hid (hb.trans (k4.mono (Nat.le_refl _)))
          clear k3 k4 HB' HRg' hR4 ht4 hI htT hcg' hfg'
          go_wp2
          go_roundw
          case rel => exact ⟨q + 1, by omega, by go_num, K3, K4.out⟩
          case measure => simp [intOf]; omega
        · have K3 := hid (WorldV.mono (S' := AnyB) (WorldF.sl HX1.out) (fun _ _ _ => trivial))
          have K5 : Hid (Small (W.set k (rows ++ List.replicate q [1]))) := hid (HSet.out _ (by simp; omega) (fun r hr => by
            rcases List.mem_append.1 hr with hr | hr
            · have := HR.out r hr; omega
            · rw [(List.mem_replicate.1 hr).2]; simp))
          go_wp2
          go_ret
          exact ⟨_, rfl, _, K5.out, K3.out, hb⟩
    · have hr1 := rowsF_one (S := Grow T1 w1.heap.size) (w := (w1.alloc (.cells #[] 3)).alloc (.cells #[.slice (some ⟨w1.heap.size, 0, none⟩) 0 0] 22)) (b := w1.heap.size) (c := w1.heap.size + 1) [] (heap_step _ (heap_new _ _ rfl)) (by simp) (heap_new _ _ (by simp)) (.inr (Nat.le_refl _)) (.inr (by omega)) (by omega)
      obtain ⟨k1, k2, k3, k4⟩ := HB.out _ _ _ (Turns.of_below (((Below.refl _ _).alloc (Nat.le_refl _) _).alloc (by simp) _)) hr1
      rw [World.setCell_alloc_past _ _ _ _ (by simp; omega), World.setCell_alloc_past _ _ _ _ hbg] at k3 k4
      have K3 := hid (WorldV.mono (S' := AnyB) (WorldF.sl k3) (fun _ _ _ => trivial))
      have K4 := hid (hb1.trans (k4.mono (Nat.le_refl _)))
      have K5 := hid (HSet.out [[]] (by simp) (by simp))
      clear k3 k4 HB HRg hr1
      go_wp2
      go_ret
      exact ⟨_, rfl, _, K5.out, by simpa using K3.out, K4.out⟩
    · obtain ⟨k1, k2, k3, k4⟩ := HB.out w1 (.slice none 0 0) [] (Turns.refl _ _) (OwnF.nil _ _ _ _)
      have K3 := hid (WorldV.mono (S' := AnyB) (WorldF.sl k3) (fun _ _ _ => trivial))
      have K4 := hid (hb1.trans (k4.mono (Nat.le_refl _)))
      have K5 := hid (HSet.out [] (by simp) (by simp))
      clear k3 k4 HB HRg
      go_wp2
      go_ret
      exact ⟨_, rfl, _, K5.out, by simpa using K3.out, K4.out⟩

end Go.Proofs.Ytagnjhhbbjbhcaa
