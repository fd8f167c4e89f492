/- DiffLeads: for all arguments it returns true. -/
import Derived.Test.YtagnjhhbbjbhcaaFinds
import Derived.Test.YtagnjhhbbjbhcaaPTurn
namespace Go.Proofs.Ytagnjhhbbjbhcaa
open Go.RowKit

theorem shapeW_shaped {s : List Int} {W : List Rows1} (h : ShapeW s W) (hs : ShapeOk s) : ShapedW W := by
  refine ⟨fun rows hr r hr' => ?_, by have := h.1; have := hs.1; omega, ?_⟩
  · obtain ⟨k, hk, rfl⟩ := List.getElem_of_mem hr
    obtain ⟨h1, h2⟩ := h.2 k hk
    have h3 := (h2 r hr').1
    have h4 : s.getD k 0 ∈ s := by rw [getD_eq (by have := h.1; omega)]; exact List.getElem_mem _
    have h5 := hs.2 _ h4
    have h0 : 0 < W[k].length := by
      rcases Nat.eq_zero_or_pos W[k].length with h0 | h0
      · rw [List.eq_nil_of_length_eq_zero h0] at hr'; cases hr'
      · exact h0
    have h6 := (h2 _ (List.getElem_mem h0)).1
    refine ⟨by omega, by omega, ?_⟩
    rw [headD_eq [] h0]
    omega
  · have h1 := total_mul (n := 6) W (fun rows hr => by
      obtain ⟨k, hk, rfl⟩ := List.getElem_of_mem hr
      exact (h.2 k hk).1)
    have := h.1
    have := hs.1
    omega

theorem shapeW_ok {s : List Int} {A B : List Rows1} (hA : ShapeW s A) (hB : ShapeW s B) (hs : ShapeOk s) : diffOk A B := by
  refine ⟨shapeW_shaped hA hs, shapeW_shaped hB hs, by rw [hA.1, hB.1], fun k hk h1 h2 => ?_⟩
  have hkB : k < B.length := by have := hA.1; have := hB.1; omega
  rw [getD_eq hk] at h1 ⊢
  rw [getD_eq hkB] at h2 ⊢
  rw [headD_eq [] h1, headD_eq [] h2]
  have e1 := ((hA.2 k hk).2 _ (List.getElem_mem h1)).1
  have e2 := ((hB.2 k hkB).2 _ (List.getElem_mem h2)).1
  omega

theorem shapeW_total {s : List Int} {A : List Rows1} (h : ShapeW s A) (hs : ShapeOk s) : total A ≤ 512 := (shapeW_shaped h hs).2.2

theorem diffC_len_small {s : List Int} {A B : List Rows1} (hA : ShapeW s A) (hB : ShapeW s B) (hs : ShapeOk s) : (diffC A B).length ≤ 300 := by
  unfold diffC
  rw [if_pos (shapeW_ok hA hB hs)]
  have h3 : A.length = B.length := by rw [hA.1, hB.1]
  have h4 := hs.1
  have h5 := flatMap_len (n := A.length) (b := 80) (f := fun k : Nat => kindDiff (k : Int) (A.getD k []) (B.getD k [])) (fun k hk => by
    have ha := hA.2 k hk
    have hb := hB.2 k (by omega)
    have h10 := (shapeW_shaped hA hs).1 A[k] (List.getElem_mem hk)
    rw [getD_eq hk, getD_eq (show k < B.length by omega)]
    have h6 := bestM_len (kind := (k : Int)) (a := A[k]) (b := B[k]) (fun r hr => (h10 r hr).2.1) (min A[k].length B[k].length) (by omega)
    unfold kindDiff
    omega)
  unfold diffL
  have := hA.1
  omega

theorem getD_mem_or {α : Type} {xs : List α} {i : Nat} {d : α} : xs.getD i d ∈ xs ∨ xs.getD i d = d := by
  by_cases h : i < xs.length
  · rw [getD_eq h]; exact .inl (List.getElem_mem h)
  · right; rw [List.getD_eq_getElem?_getD, List.getElem?_eq_none (by omega)]; rfl

theorem listL_values {kind : Int} {a b : Rows1} {m n : Nat} (ha : ∀ r ∈ a, r.length ≤ n) (hb : ∀ r ∈ b, r.length ≤ n) : ∀ c ∈ listL kind a b m, c.values.length ≤ n := by
  intro c hc
  unfold listL at hc
  rcases List.mem_append.1 hc with hc | hc
  · rcases List.mem_append.1 hc with hc | hc
    · unfold sets at hc
      obtain ⟨i, _, hc⟩ := List.mem_flatMap.1 hc
      unfold setR at hc
      obtain ⟨k, _, hc⟩ := List.mem_filterMap.1 hc
      unfold setAt at hc
      split at hc
      · cases hc
      · cases hc; simp
    · unfold takes at hc
      obtain ⟨i, _, rfl⟩ := List.mem_map.1 hc
      unfold takeC
      simp only
      rcases getD_mem_or (xs := a) (i := a.length - 1 - i) (d := []) with h | h
      · exact ha _ h
      · rw [h]; simp
  · unfold adds at hc
    obtain ⟨i, _, rfl⟩ := List.mem_map.1 hc
    unfold addC
    simp only
    rcases getD_mem_or (xs := b) (i := m + i) (d := []) with h | h
    · exact hb _ h
    · rw [h]; simp

theorem diffC_values (A B : List Rows1) : ∀ c ∈ diffC A B, c.values.length ≤ 100000 := by
  intro c hc
  unfold diffC at hc
  split at hc
  · rename_i h
    unfold diffL at hc
    obtain ⟨k, hk, hc⟩ := List.mem_flatMap.1 hc
    have hkA : k < A.length := List.mem_range.1 hk
    have hkB : k < B.length := by have := h.2.2.1; omega
    rw [getD_eq hkA, getD_eq hkB, (kindDiff_eq _ _ _).1] at hc
    have := listL_values (n := 10) (fun r hr => (h.1.1 _ (List.getElem_mem hkA) r hr).2.1) (fun r hr => (h.2.1.1 _ (List.getElem_mem hkB) r hr).2.1) c hc
    omega
  · cases hc
theorem turnL_values {cs : List Chg} {n : Nat} (h : ∀ c ∈ cs, c.values.length ≤ n) : ∀ c ∈ turnL cs, c.values.length ≤ n := by
  intro c hc
  unfold turnL at hc
  rw [List.mem_reverse] at hc
  obtain ⟨d, hd, rfl⟩ := List.mem_map.1 hc
  exact h d hd
theorem turnL_len (cs : List Chg) : (turnL cs).length = cs.length := by simp [turnL]

set_option maxRecDepth 100000 in
set_option maxHeartbeats 8000000 in
theorem leads_any (l m : List Int) (hl : Fit l) (hm : Fit m) (al am : Option Addr) (nl nm cl cm : Nat) (w : World) (vl : IntsV AnyB w (.slice al nl cl) l) (vm : IntsV AnyB w (.slice am nm cm) m) :
    Calls Try.prog 4 #[.slice al nl cl, .slice am nm cm] w fun e w' => e = .returned (.bool true) ∧ Below w.heap.size w w' := by
  have sl := shapeL_ok l
  have A0 := worldL_shape (shapeL l) l sl
  have B0 := worldL_shape (shapeL l) m sl
  go_enter Try.func4, Try.ntmps4
  go_wp2_with fail
  refine (shape_any l hl _ _ w vl).mono ?_
  rintro e w1 ⟨s, rfl, hs, b1⟩
  have hs' := IntsV.mono (S' := AnyB) hs (fun _ _ _ => trivial)
  obtain ⟨as_, cs_, rfl, -, -, -⟩ := hs'.form
  have vl1 : IntsV AnyB w1 _ l := vl.keep (KeepS.below b1)
  go_wp2_with fail
  refine (world_any (shapeL l) sl l hl _ _ _ _ w1 hs' vl1).mono ?_
  rintro e w2 ⟨va, rfl, ha, b2⟩
  have hA2 := WorldV.mono (S' := AnyB) ha (fun _ _ _ => trivial)
  have b02 : Below w.heap.size w w2 := b1.trans (b2.mono b1.size)
  have hs2 := IntsV.keep hs' (KeepS.below b2)
  have vm2 : IntsV AnyB w2 _ m := vm.keep (KeepS.below b02)
  clear vl vl1 vm hs hs' ha b1 b2
  go_wp2_with fail
  refine (world_any (shapeL l) sl m hm _ _ _ _ w2 hs2 vm2).mono ?_
  rintro e w3 ⟨vb, rfl, hb, b3⟩
  have hB3 := WorldV.mono (S' := AnyB) hb (fun _ _ _ => trivial)
  have hA3 := WorldV.keep hA2 (KeepS.below b3)
  have b03 : Below w.heap.size w w3 := b02.trans (b3.mono b02.size)
  clear hA2 hs2 vm2 hb b3 b02
  generalize worldL (shapeL l) l = A at *
  generalize worldL (shapeL l) m = B at *
  have hok := shapeW_ok A0 B0 sl
  have hok2 := diffOk_symm hok
  have hokA := shapeW_ok A0 A0 sl
  have hSA := A0.small sl
  have hSB := B0.small sl
  have hlen := diffC_len_small A0 B0 sl
  have E1 : Hid (diffE A B = 0) := hid (by unfold diffE; rw [if_pos hok])
  have E2 : Hid (diffE B A = 0) := hid (by unfold diffE; rw [if_pos hok2])
  have E3 : Hid (diffE A A = 0) := hid (by unfold diffE; rw [if_pos hokA])
  have L1 : Hid (applyL A (diffC A B) = (0, B)) := hid (applyL_run hok.1 (by omega) (diff_leads hok) (shapeW_total B0 sl))
  have L2 : Hid (applyL B (turnL (diffC A B)) = (0, A)) := hid (applyL_run hok.2.1 (by rw [turnL_len]; omega) (run_back hok.1.mid (diff_leads hok)) (shapeW_total A0 sl))
  have L3 : Hid ((diffC B A).length = (diffC A B).length) := hid (diff_len_symm hok).symm
  have L4 : Hid ((diffC A A).length = 0) := hid (by rw [diffC_self]; rfl)
  have hval := diffC_values A B
  have HVal := hid hval
  clear hok hok2 hokA hval A0 B0 sl
  obtain ⟨xa, ya, rfl, -⟩ := hA3.form
  obtain ⟨xb, yb, rfl, -⟩ := hB3.form
  -- c
  go_wp2_with fail
  refine (pdiff_any A B hSA hSB _ _ AnyB AnyB w3 hA3 hB3).mono ?_
  rintro e w4 ⟨z1, rfl, hz1, b4⟩
  rw [E1.out]
  have hA4 := WorldV.keep hA3 (KeepS.below b4)
  have hB4 := WorldV.keep hB3 (KeepS.below b4)
  have b04 : Below w.heap.size w w4 := b03.trans (b4.mono b03.size)
  obtain ⟨p1, q1, rfl, -⟩ := hz1.form
  clear hA3 hB3 b4 b03
  -- d
  go_wp2_with fail
  refine (pdiff_any B A hSB hSA _ _ AnyB AnyB w4 hB4 hA4).mono ?_
  rintro e w5 ⟨z2, rfl, hz2, b5⟩
  rw [E2.out]
  have hA5 := WorldV.keep hA4 (KeepS.below b5)
  have hB5 := WorldV.keep hB4 (KeepS.below b5)
  have hz15 := ChV.keep hz1 (KeepS.below b5)
  have b05 : Below w.heap.size w w5 := b04.trans (b5.mono b04.size)
  obtain ⟨p2, q2, ez2, -⟩ := hz2.form
  rw [L3.out] at ez2
  subst ez2
  clear hA4 hB4 hz1 b5 b04 hz2
  -- none
  go_wp2_with fail
  refine (pdiff_any A A hSA hSA _ _ AnyB AnyB w5 hA5 hA5).mono ?_
  rintro e w6 ⟨z3, rfl, hz3, b6⟩
  rw [E3.out]
  have hA6 := WorldV.keep hA5 (KeepS.below b6)
  have hB6 := WorldV.keep hB5 (KeepS.below b6)
  have hz16 := ChV.keep hz15 (KeepS.below b6)
  have b06 : Below w.heap.size w w6 := b05.trans (b6.mono b05.size)
  obtain ⟨p3, q3, ez3, -⟩ := hz3.form
  rw [L4.out] at ez3
  subst ez3
  clear hA5 hB5 hz15 b6 b05 hz3
  -- x
  go_wp2_with fail
  refine (applyP_any A hSA (diffC A B) (by omega) HVal.out _ _ AnyB AnyB w6 hA6 hz16).mono ?_
  rintro e w7 ⟨z4, rfl, hz4, b7⟩
  rw [L1.out] at hz4
  rw [L1.out]
  have hA7 := WorldV.keep hA6 (KeepS.below b7)
  have hB7 := WorldV.keep hB6 (KeepS.below b7)
  have hz17 := ChV.keep hz16 (KeepS.below b7)
  have b07 : Below w.heap.size w w7 := b06.trans (b7.mono b06.size)
  clear hA6 hB6 hz16 b7 b06
  -- turn
  go_wp2_with fail
  refine (pturn_any (diffC A B) (by omega) HVal.out _ AnyB w7 hz17).mono ?_
  rintro e w8 ⟨z5, rfl, hz5, b8⟩
  have hA8 := WorldV.keep hA7 (KeepS.below b8)
  have hB8 := WorldV.keep hB7 (KeepS.below b8)
  have hz48 := WorldV.keep hz4 (KeepS.below b8)
  have b08 : Below w.heap.size w w8 := b07.trans (b8.mono b07.size)
  clear hA7 hB7 hz17 hz4 b8 b07
  -- y
  go_wp2_with fail
  refine (applyP_any B hSB (turnL (diffC A B)) (by rw [turnL_len]; omega) (turnL_values HVal.out) _ _ AnyB AnyB w8 hB8 hz5).mono ?_
  rintro e w9 ⟨z6, rfl, hz6, b9⟩
  rw [L2.out] at hz6
  rw [L2.out]
  have hA9 := WorldV.keep hA8 (KeepS.below b9)
  have hB9 := WorldV.keep hB8 (KeepS.below b9)
  have hz49 := WorldV.keep hz48 (KeepS.below b9)
  have b09 : Below w.heap.size w w9 := b08.trans (b9.mono b08.size)
  clear hA8 hB8 hz48 b9 b08 hz5
  have hcc : (((diffC A B).length : Int) == ((diffC A B).length : Int)) = true := beqT rfl
  go_wp2_with fail
  refine (sameWorld_any B B _ _ AnyB AnyB w9 hz49 hB9).mono ?_
  rintro e w10 ⟨rfl, b10⟩
  rw [decide_eq_true (rfl : B = B)]
  have hA10 := WorldV.keep hA9 (KeepS.below b10)
  have hz610 := WorldV.keep hz6 (KeepS.below b10)
  have b010 : Below w.heap.size w w10 := b09.trans (b10.mono b09.size)
  clear hA9 hB9 hz49 hz6 b10 b09
  go_wp2_with fail
  refine (sameWorld_any A A _ _ AnyB AnyB w10 hz610 hA10).mono ?_
  rintro e w11 ⟨rfl, b11⟩
  rw [decide_eq_true (rfl : A = A)]
  have b011 : Below w.heap.size w w11 := b010.trans (b11.mono b010.size)
  clear hA10 hz610 b11 b010
  go_wp2_with fail
  refine (lives_any w11).mono ?_
  rintro e w12 ⟨rfl, b12⟩
  have b012 : Below w.heap.size w w12 := b011.trans (b12.mono b011.size)
  clear b12
  go_wp2
  go_ret
  exact ⟨rfl, b012⟩

end Go.Proofs.Ytagnjhhbbjbhcaa
