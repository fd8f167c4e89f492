/- Near: a world of the same shape. -/
import Derived.Test.YtagnjhhbbjbhcaaBorrow
import Derived.Test.YtagnjhhbbjbhcaaQG
import Derived.Test.YtagnjhhbbjbhcaaApTool
namespace Go.Proofs.Ytagnjhhbbjbhcaa
open Go.RowKit

set_option maxRecDepth 100000 in
set_option maxHeartbeats 8000000 in
theorem near_any (W : List (List (List Int))) (s l : List Int) (hW : ShapeW s W) (hs : ShapeOk s) (hs1 : 0 < s.length) (hl : Fit l) (u v y : Value) (S T U : Nat → Prop) (w : World) (hu : WorldV S w u W) (hv : IntsV T w v s) (hy : IntsV U w y l) :
    Calls Try.prog 10 #[u, v, y] w fun e w' => ∃ x W', e = .returned x ∧ WorldF (w.heap.size ≤ ·) w' x W' ∧ ShapeW s W' ∧ Below w.heap.size w w' := by
  have HC := hid (copy_any W (hW.small hs) u S w hu)
  obtain ⟨sa, cs, rfl, hoks, hcs, hmaxs⟩ := hv.form
  obtain ⟨al, cl, rfl, hokl, hcl, hmaxl⟩ := hy.form
  have hs3 := hs.1
  have HSV := hid hv
  have HY := hid hy
  have HW := hid hW
  have HSO := hid hs
  clear hv hy hW hs hu
  go_enter Try.func10, Try.ntmps10
  go_wp2_with fail
  refine HC.out.mono ?_
  rintro e w1 ⟨x, rfl, hx, hb1⟩
  have hxl : W.length = s.length := HW.out.1
  obtain ⟨aa, cg, e1, -, hcg1, hcg2⟩ := (WorldF.sl hx).form
  subst e1
  rw [hxl] at hx hcg1 ⊢
  obtain ⟨g0, -, -, -, rfl, -⟩ := kind_b hxl hb1.size hx (k := 0) (by omega)
  have HX := hid hx
  clear hx hxl
  go_wp2
  go_loopw [8] (fun i wr => ∃ (q : Nat) (V : List (List (List Int))), q ≤ 4 ∧ i = .int .i64 q ∧ Hid (ShapeW s V) ∧ Hid (WorldF (w.heap.size ≤ ·) wr (.slice (some ⟨g0, 0, none⟩) s.length cg) V) ∧ Below w.heap.size w wr) (fun i _ => 4 - (intOf i).toNat)
  case atStart => exact ⟨0, W, by omega, rfl, HW, HX, hb1⟩
  case round =>
    obtain ⟨q, V, hq, rfl, HV, HX2, hb⟩ := hrel
    have hnl : (0 : Int) < s.length := by omega
    by_cases h1 : 3 * q + 2 < l.length
    · by_cases h2 : q < 4
      · have hVl : V.length = s.length := HV.out.1
        have hv1 : IntsV T wr (.slice sa s.length cs) s := HSV.out.keep (KeepS.below hb)
        have hy1 : IntsV U wr (.slice al l.length cl) l := HY.out.keep (KeepS.below hb)
        go_wp2_with fail
        refine (at_any l hl _ _ _ U wr hy1 (by omega) (by omega) (by omega)).mono ?_
        rintro e w' ⟨rfl, rfl⟩
        have hk := atI_lt l ((3 * (q : Int)).toNat) s.length (by omega)
        obtain ⟨k, hkk⟩ := Int.eq_ofNat_of_zero_le hk.1
        rw [hkk] at hk ⊢
        have hks : k < s.length := by omega
        clear hk hkk
        obtain ⟨g, ak, ck, T1, e1, hBg, hbg, hcg, hfg, hokk, hmk, hmax2, hRg, hT, hback⟩ := kind_b hVl hb.size HX2.out (k := k) (by omega)
        cases e1
        have hVk := HV.out.2 k (by omega)
        have hm6 := hVk.1
        have HVK := hid hVk.2
        have HRg := hid hRg
        have HT := hid hT
        have HB := hid hback
        clear hVk hRg hT hback
        go_wp2_with fail
        refine (at_any l hl _ _ _ U wr hy1 (by omega) (by omega) (by omega)).mono ?_
        rintro e w' ⟨rfl, rfl⟩
        have hh := atI_lt l ((3 * (q : Int) + 1).toNat) 6 (by omega)
        generalize atI l ((3 * (q : Int) + 1).toNat) 6 = hv at *
        have hsk : s.getD k 0 ∈ s := by rw [getD_eq hks]; exact List.getElem_mem _
        have hsk4 := HSO.out.2 _ hsk
        obtain ⟨c, hc⟩ := Int.eq_ofNat_of_zero_le (show 0 ≤ s.getD k 0 by omega)
        have HVK2 : Hid (∀ r ∈ V[k], r.length = c ∧ ∀ x ∈ r, 0 ≤ x ∧ x < 3) := hid (fun r hr => ⟨by have := (HVK.out r hr).1; omega, (HVK.out r hr).2⟩)
        have HSet : Hid (∀ R : List (List Int), R.length ≤ 6 → (∀ r ∈ R, r.length = c ∧ ∀ x ∈ r, 0 ≤ x ∧ x < 3) → ShapeW s (V.set k R)) := hid (fun R h3 h4 => HV.out.set ⟨h3, fun r hr => ⟨by rw [hc, (h4 r hr).1], (h4 r hr).2⟩⟩)
        have hc14 : 1 ≤ c ∧ c ≤ 4 := by omega
        have hsc := hv1.cell rfl hks
        rw [hc] at hsc
        have HVk : Hid (k < V.length) := hid (by omega)
        clear hsk hsk4 hc HVK
        have hcase : (hv = 0 ∧ 0 < V[k].length) ∨ (hv = 1 ∧ V[k].length < 6) ∨ (0 < V[k].length ∧ ((hv = 1 ∧ V[k].length = 6) ∨ 2 ≤ hv)) ∨ (V[k].length = 0 ∧ (hv = 0 ∨ 2 ≤ hv)) := by omega
        rcases hcase with ⟨rfl, hm⟩ | ⟨rfl, hm⟩ | ⟨hm, hcc⟩ | ⟨hm, hcc⟩
        · obtain ⟨p, hp⟩ : ∃ p, V[k].length = p + 1 := ⟨V[k].length - 1, by omega⟩
          have hR2 := (steady_rowsF.mono (S' := Grow T1 wr.heap.size) HRg.out (fun b hb h => .inl ⟨h, hb⟩)).take (show p < V[k].length by omega)
          obtain ⟨-, -, b3, b4⟩ := HB.out wr _ _ (Turns.refl _ _) hR2
          have B3 := hid b3
          have B4 := hid (hb.trans (b4.mono (Nat.le_refl _)))
          have B5 := hid (HSet.out (V[k].take p) (by rw [List.length_take]; omega) (fun r hr => HVK2.out r (List.mem_of_mem_take hr)))
          clear b3 b4 hR2 HB HRg HSet HVK2 HT
          generalize V.set k (V[k].take p) = V' at *
          generalize V[k].length = m at *
          subst hp
          have g2 : (p : Int) < ((p + 1 : Nat) : Int) := by omega
          have g3 : (0 : Int) < (p : Int) + 1 := by omega
          go_wp2
          go_roundw
          case rel => exact ⟨q + 1, V', by omega, by go_num, B5, B3, B4.out⟩
          case measure => simp [intOf]; omega
        · generalize hml : V[k].length = m at *
          have HML := hid hml
          clear hml
          have dm6 : decide ((m : Int) < 6) = true := decide_eq_true (by omega)
          obtain ⟨z, hz⟩ : ∃ z, z = atI l ((3 * (q : Int) + 2).toNat) 3 := ⟨_, rfl⟩
          have hz3 : 0 ≤ z ∧ z < 3 := by rw [hz]; exact atI_lt _ _ 3 (by omega)
          have HZ := hid hz
          clear hz
          obtain ⟨wo, rfl⟩ : ∃ wo : World, wo = wr := ⟨_, rfl⟩
          have hkl : (k : Int) < s.length := by omega
          go_wp2
          go_loopw [12, 13] (fun x i w2 => ∃ f : Nat, f ≤ c ∧ i = .int .i64 f ∧ Hid (IntsF (wo.heap.size ≤ ·) w2 x (List.replicate f z)) ∧ Below wo.heap.size wo w2) (fun _ i _ => c - (intOf i).toNat)
          case atStart => exact ⟨0, by omega, rfl, hid (IntsF.nil _ _), Below.refl _ _⟩
          case round =>
            obtain ⟨f, hf, rfl, HIr, hb3⟩ := hrel
            have hsc3 := cell_later hb3 hsc
            by_cases hlt : f < c
            · have hy3 : IntsV U wr (.slice al l.length cl) l := hy1.keep (KeepS.below hb3)
              have HRep : Hid (List.replicate f z ++ [z] = List.replicate (f + 1) z) := hid (by rw [List.replicate_succ']; )
              go_wp2_with fail
              refine (at_any l hl _ _ _ U wr hy3 (by omega) (by omega) (by omega)).mono ?_
              rintro e w' ⟨rfl, rfl⟩
              rw [← HZ.out]
              have hal : Below wr.heap.size wr (wr.alloc (.cells #[.int .i64 z] 3)) := (Below.refl _ _).alloc (Nat.le_refl _) _
              go_wp2_with (at_builtin; go_must (refine wpList_appI rfl _ _ rfl Try.app22 rfl HIr.out hal rfl (ints_one wr z _) (by simp; omega) ?_))
              intro v' w3 hI3 ht3
              have HI3 : Hid (IntsF (wo.heap.size ≤ ·) w3 v' (List.replicate (f + 1) z)) := hid (by rw [← HRep.out]; exact steady_intsF.mono hI3 (fun b _ h => grow_from hb3.size b h))
              have hb4 : Below wo.heap.size wo w3 := (hb3.trans (hal.mono hb3.size)).trans (ht3.below (by have := hb3.size; simp; omega) (fun b hb => HIr.out.2 b hb.symm))
              clear hI3 ht3 hal HIr hb3 hsc3 hy3
              go_wp2
              go_roundw
              case rel => exact ⟨f + 1, by omega, by go_num, HI3, hb4⟩
              case measure => simp [intOf]; omega
            · obtain rfl : f = c := by omega
              have hcg3 := cell_later hb3 hcg
              obtain ⟨ar, cr, er, -⟩ := HIr.out.sl.form
              rw [List.length_replicate] at er
              subst er
              have hlr : (List.replicate f z).length ≤ 4 := by simp; omega
              go_wp2_with (at_builtin; go_must (refine wpList_appF1 steady_intsF rfl _ _ rfl Try.app63 rfl HRg.out hb3 rfl (List.replicate f z) HIr.out rfl (by have := HML.out; omega) ?_))
              intro v' w4 hR4 ht4
              obtain ⟨av', lv', cv', rfl⟩ : ∃ a l c, v' = .slice a l c := by obtain ⟨a, c, e, _⟩ := (RowsF.sl hR4).form; exact ⟨_, _, _, e⟩
              have htT : Turns T1 wo w4 := (Turns.of_below hb3).trans (ht4.mono fun b _ hb => HRg.out.1 b hb.symm)
              obtain ⟨b1, b2, b3, b4⟩ := HB.out w4 _ _ htT hR4
              have B3 := hid b3
              have B4 := hid (hb.trans (b4.mono (Nat.le_refl _)))
              have B5 : Hid (ShapeW s (V.set k (V[k] ++ [List.replicate f z]))) := hid (HSet.out _ (by rw [List.length_append, List.length_singleton, HML.out]; omega) (fun r hr => by
                rcases List.mem_append.1 hr with hr | hr
                · exact HVK2.out r hr
                · rw [List.mem_singleton.1 hr]; exact ⟨by simp, fun x hx => by rw [(List.mem_replicate.1 hx).2]; exact hz3⟩))
              clear b3 b4 hR4 ht4 htT HB HRg HSet HVK2 HT HIr hsc3 hcg hfg hcg3
              generalize V.set k (V[k] ++ [List.replicate f z]) = V' at *
              go_wp2
              go_roundw
              case rel => exact ⟨q + 1, V', by omega, by go_num, B5, B3, B4.out⟩
              case measure => simp [intOf]; omega
        · have hkV : k < V.length := HVk.out
          have hj := atI_lt l ((3 * (q : Int) + 2).toNat) V[k].length (by omega)
          obtain ⟨j, hjj⟩ := Int.eq_ofNat_of_zero_le hj.1
          have hjm : j < V[k].length := by omega
          have hrc := (HVK2.out _ (List.getElem_mem hjm)).1
          have hfc := atI_lt l ((3 * (q : Int) + 2).toNat) c (by omega)
          obtain ⟨fn, hff⟩ := Int.eq_ofNat_of_zero_le hfc.1
          have hfr : fn < V[k][j].length := by omega
          obtain ⟨g, g2, g3, ck', cp, v1, v2, v3, v4, v5, v6, v7, v8, v9, v10, v11, v12, v13⟩ := val_b hVl hb.size HX2.out hkV hjm hfr
          cases v1
          have hx := hcg.symm.trans v5
          cases hx
          have hz := atI_lt l ((3 * (q : Int) + 2).toNat) 12 (by omega)
          obtain ⟨z, hzz⟩ := Int.eq_ofNat_of_zero_le hz.1
          have hz12 : z < 12 := by omega
          have B5 : Hid (ShapeW s (V.set k (V[k].set j (V[k][j].set fn ((z : Int) / 4))))) := hid (HSet.out _ (by rw [List.length_set]; omega) (fun r hr => by
            rcases mem_set hr with rfl | hr
            · refine ⟨by rw [List.length_set]; exact hrc, fun x hx => ?_⟩
              rcases mem_set hx with rfl | hx
              · omega
              · exact (HVK2.out _ (List.getElem_mem hjm)).2 x hx
            · exact HVK2.out r hr))
          have HJ := hid hjj
          have HF := hid hff
          have HZ := hid hzz
          have HV13 := hid (fun w2 hb => v13 w2 ((z : Int) / 4) hb)
          rw [hrc] at v8 v9
          have hd1 : (hv == 0) = false := beqF (by omega)
          have hcc' : (hv = 1 ∧ decide ((V[k].length : Int) < 6) = false) ∨ (hv == 1) = false := by
            rcases hcc with h | h
            · exact .inl ⟨h.1, decide_eq_false (by omega)⟩
            · exact .inr (beqF (by omega))
          have hm' : (0 : Int) < V[k].length := by omega
          have hjm' : (j : Int) < V[k].length := by omega
          have hj0 : (0 : Int) ≤ j := by omega
          have hfc' : (fn : Int) < c := by omega
          have hf0 : (0 : Int) ≤ fn := by omega
          have hks' : (k : Int) < s.length := by omega
          have hk0 : (0 : Int) ≤ k := by omega
          obtain ⟨ov, hov⟩ : ∃ ov, wr.cell? ⟨g3, fn, none⟩ = some (.int .i64 ov) := ⟨_, v11⟩
          clear hjj hff hzz hj hfc hz v13 hcc HB HRg HSet HVK2 HT hfr hrc v11
          generalize V.set k (V[k].set j (V[k][j].set fn ((z : Int) / 4))) = V' at *
          generalize V[k].length = m at *
          rcases hcc' with ⟨rfl, hd2⟩ | hd2
          all_goals
            go_wp2_with fail
            refine (at_any l hl _ _ _ U wr hy1 (by omega) (by omega) (by omega)).mono ?_
            rintro e w' ⟨rfl, rfl⟩
            rw [HJ.out]
            go_wp2_with fail
            refine (at_any l hl _ _ _ U wr hy1 (by omega) (by omega) (by omega)).mono ?_
            rintro e w' ⟨rfl, rfl⟩
            rw [HF.out]
            go_wp2
            have hg := Grew.cell (w := wr)
            refine wp_region_grewS 14 [(true, 0), (true, 1), (true, 2), (true, 3), (true, 4), (true, 5), (true, 6), (true, 7), (true, 8), (true, 9), (true, 10), (true, 11), (false, 12), (true, 13)] (by kernel_rfl) (by kernel_rfl) ?_
            refine wpSteps_pre 12 (by decide) ?_
            simp only [List.take_succ_cons, List.take_zero]
            repeat (go_big_quiet_step (fail))
            refine wpQuiet_nil ?_
            refine wpSteps_one rfl ?_
            clear hg
            go_wp2_with fail
            refine (at_any l hl _ _ _ U _ (hy1.keep (KeepS.below (below_drewN (Below.refl _ _) 1))) (by omega) (by omega) (by omega)).mono ?_
            rintro e w' ⟨rfl, rfl⟩
            rw [HZ.out]
            go_wp2
            refine qn_mk ⟨InGrew.of (below_drewN (Below.refl _ _) 1), ?_⟩
            refine wpSteps_quiet rfl ?_
            repeat (go_big_quiet_step (fail))
            refine wpQuiet_nil ?_
            refine wpSteps_done ?_
            obtain ⟨F1, F2⟩ := HV13.out (wr.drewN 1) (below_drewN (Below.refl _ _) 1)
            have K1 := hid F1
            have K2 := hid (hb.trans (F2.mono (Nat.le_refl _)))
            clear F1 F2
            go_wp2
            go_roundw
            case rel => exact ⟨q + 1, V', by omega, by go_num, B5, K1, K2.out⟩
            case measure => simp [intOf]; omega
        · have hm0 : (V[k].length : Int) = 0 := by omega
          have d1 : decide ((0 : Int) < (V[k].length : Int)) = false := decide_eq_false (by omega)
          have d2 : decide (0 < V[k].length) = false := decide_eq_false (by omega)
          have HM := hid hm
          clear hm hm0 HB HRg HT HSet
          rcases hcc with rfl | hcc
          · generalize V[k].length = m at *
            go_wp2
            go_roundw
            case rel => exact ⟨q + 1, V, by omega, by go_num, HV, HX2, hb⟩
            case measure => simp [intOf]; omega
          · have d3 : (hv == 0) = false := beqF (by omega)
            have d4 : (hv == 1) = false := beqF (by omega)
            generalize V[k].length = m at *
            go_wp2
            go_roundw
            case rel => exact ⟨q + 1, V, by omega, by go_num, HV, HX2, hb⟩
            case measure => simp [intOf]; omega
      · have HR := hid (WorldF.sl HX2.out)
        go_wp2
        go_ret
        exact ⟨_, rfl, V, HX2.out, HV.out, hb⟩
    · go_wp2
      go_ret
      exact ⟨_, rfl, V, HX2.out, HV.out, hb⟩

end Go.Proofs.Ytagnjhhbbjbhcaa
