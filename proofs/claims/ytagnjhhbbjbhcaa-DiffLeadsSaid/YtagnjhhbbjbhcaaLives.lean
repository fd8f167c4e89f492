/- The examples that every statement looks at. -/
import Derived.Test.YtagnjhhbbjbhcaaLit
import Derived.Test.YtagnjhhbbjbhcaaPDiff
import Derived.Test.YtagnjhhbbjbhcaaPlain
namespace Go.Proofs.Ytagnjhhbbjbhcaa
open Go.RowKit

instance (V : List (List (List Int))) : Decidable (Small V) := by unfold Small; exact inferInstance
theorem small_of (V : List (List (List Int))) (h : V.length ≤ 100000 ∧ ∀ rows ∈ V, rows.length ≤ 100000 ∧ ∀ r ∈ rows, r.length ≤ 100000) : Small V := h

set_option maxRecDepth 100000 in
set_option maxHeartbeats 4000000 in
theorem lives_any (w : World) : Calls Try.prog 16 #[] w fun e w' => e = .returned (.bool true) ∧ Below w.heap.size w w' := by
  go_enter Try.func16, Try.ntmps16
  go_wp2_with fail
  generalize hW : World.alloc _ _ = w1
  have hA : WorldV AnyB w1 (.slice (some ⟨w.heap.size + 1 + 1 + 1, 0, none⟩) 1 1) liA := by
    rw [← hW]; exact (lit2 w _ rfl [1, 2] [3, 4] (by decide) (by decide) _ _ _ _).1.keep (KeepS.below (lit3 _ _ (by simp) [1, 5] [3, 4] [6, 7] (by decide) (by decide) (by decide) _ _ _ _ _).2)
  have hB : WorldV AnyB w1 (.slice (some ⟨w.heap.size + 1 + 1 + 1 + 1 + 1 + 1 + 1 + 1, 0, none⟩) 1 1) liB := by
    rw [← hW]; exact (lit3 _ _ (by simp) [1, 5] [3, 4] [6, 7] (by decide) (by decide) (by decide) _ _ _ _ _).1
  have hb1 : Below w.heap.size w w1 := by
    rw [← hW]; exact (lit2 w _ rfl [1, 2] [3, 4] (by decide) (by decide) _ _ _ _).2.trans ((lit3 _ _ (by simp) [1, 5] [3, 4] [6, 7] (by decide) (by decide) (by decide) _ _ _ _ _).2.mono (by simp; omega))
  clear hW
  refine (pdiff_any liA liB (by decide) (by decide) _ _ AnyB AnyB w1 hA hB).mono ?_
  rintro e w2 ⟨x1, rfl, hx1, hb2⟩
  rw [li_diff1.1] at hx1
  rw [li_diff1.2]
  obtain ⟨a1, c1, rfl⟩ : ∃ a c, x1 = .slice a 2 c := by obtain ⟨a, c, e, _⟩ := hx1.form; exact ⟨a, c, e⟩
  have hA2 : WorldV AnyB w2 (.slice (some ⟨w.heap.size + 1 + 1 + 1, 0, none⟩) 1 1) liA := hA.keep (KeepS.below hb2)
  have hB2 : WorldV AnyB w2 (.slice (some ⟨w.heap.size + 1 + 1 + 1 + 1 + 1 + 1 + 1 + 1, 0, none⟩) 1 1) liB := hB.keep (KeepS.below hb2)
  have hbb2 := hb1.trans (hb2.mono hb1.size)
  clear hA hB hb1 hb2
  go_wp2_with fail
  refine (applyP_any liA (by decide) wantL (by decide) (by decide) _ _ AnyB AnyB w2 hA2 hx1).mono ?_
  rintro e w3 ⟨x2, rfl, hx2, hb3⟩
  rw [li_apply] at hx2
  rw [li_apply]
  obtain ⟨a2, c2, rfl⟩ : ∃ a c, x2 = .slice a 1 c := by obtain ⟨a, c, e, _⟩ := hx2.form; exact ⟨a, c, e⟩
  have hA3 : WorldV AnyB w3 (.slice (some ⟨w.heap.size + 1 + 1 + 1, 0, none⟩) 1 1) liA := hA2.keep (KeepS.below hb3)
  have hB3 : WorldV AnyB w3 (.slice (some ⟨w.heap.size + 1 + 1 + 1 + 1 + 1 + 1 + 1 + 1, 0, none⟩) 1 1) liB := hB2.keep (KeepS.below hb3)
  have hx13 : ChV AnyB w3 (.slice a1 2 c1) wantL := hx1.keep (KeepS.below hb3)
  have hbb3 := hbb2.trans (hb3.mono hbb2.size)
  clear hA2 hB2 hx1 hbb2 hb3
  go_wp2_with fail
  generalize hW : World.alloc _ _ = w4
  have hb4 : Below w3.heap.size w3 w4 := by rw [← hW]; exact (lit2 w3 _ rfl [1, 2] [5, 6] (by decide) (by decide) _ _ _ _).2
  have hC : WorldV AnyB w4 (.slice (some ⟨w3.heap.size + 1 + 1 + 1, 0, none⟩) 1 1) liC := by rw [← hW]; exact (lit2 w3 _ rfl [1, 2] [5, 6] (by decide) (by decide) _ _ _ _).1
  clear hW
  refine (pdiff_any liA liC (by decide) (by decide) _ _ AnyB AnyB w4 (hA3.keep (KeepS.below hb4)) hC).mono ?_
  rintro e w5 ⟨x3, rfl, hx3, hb5⟩
  rw [li_diff2.1] at hx3
  rw [li_diff2.2]
  obtain ⟨a3, c3, rfl⟩ : ∃ a c, x3 = .slice a 2 c := by obtain ⟨a, c, e, _⟩ := hx3.form; exact ⟨a, c, e⟩
  have hb35 : Below w3.heap.size w3 w5 := hb4.trans (hb5.mono hb4.size)
  have hB5 : WorldV AnyB w5 (.slice (some ⟨w.heap.size + 1 + 1 + 1 + 1 + 1 + 1 + 1 + 1, 0, none⟩) 1 1) liB := hB3.keep (KeepS.below hb35)
  have hx15 : ChV AnyB w5 (.slice a1 2 c1) wantL := hx13.keep (KeepS.below hb35)
  have hx25 : WorldV AnyB w5 (.slice a2 1 c2) liB := WorldV.keep hx2 (KeepS.below hb35)
  have hbb5 := hbb3.trans (hb35.mono hbb3.size)
  clear hA3 hB3 hx13 hx2 hbb3 hb35 hC hb4 hb5
  go_wp2_with fail
  generalize hW : World.alloc _ _ = w6
  have hD : WorldV AnyB w6 (.slice (some ⟨w5.heap.size + 1 + 1 + 1, 0, none⟩) 1 1) liD := by
    rw [← hW]; exact (lit2 w5 _ rfl [1, 2, 3] [4, 5, 6] (by decide) (by decide) _ _ _ _).1.keep (KeepS.below (lit2 _ _ (by simp) [1, 2, 3] [7, 8, 9] (by decide) (by decide) _ _ _ _).2)
  have hE : WorldV AnyB w6 (.slice (some ⟨w5.heap.size + 1 + 1 + 1 + 1 + 1 + 1 + 1, 0, none⟩) 1 1) liE := by
    rw [← hW]; exact (lit2 _ _ (by simp) [1, 2, 3] [7, 8, 9] (by decide) (by decide) _ _ _ _).1
  have hb6 : Below w5.heap.size w5 w6 := by
    rw [← hW]; exact (lit2 w5 _ rfl [1, 2, 3] [4, 5, 6] (by decide) (by decide) _ _ _ _).2.trans ((lit2 _ _ (by simp) [1, 2, 3] [7, 8, 9] (by decide) (by decide) _ _ _ _).2.mono (by simp; omega))
  clear hW
  refine (pdiff_any liD liE (by decide) (by decide) _ _ AnyB AnyB w6 hD hE).mono ?_
  rintro e w7 ⟨x4, rfl, hx4, hb7⟩
  rw [li_diff3.1] at hx4
  rw [li_diff3.2]
  obtain ⟨a4, c4, rfl⟩ : ∃ a c, x4 = .slice a 2 c := by obtain ⟨a, c, e, _⟩ := hx4.form; exact ⟨a, c, e⟩
  have hb57 : Below w5.heap.size w5 w7 := hb6.trans (hb7.mono hb6.size)
  have hB7 : WorldV AnyB w7 (.slice (some ⟨w.heap.size + 1 + 1 + 1 + 1 + 1 + 1 + 1 + 1, 0, none⟩) 1 1) liB := hB5.keep (KeepS.below hb57)
  have hx17 : ChV AnyB w7 (.slice a1 2 c1) wantL := hx15.keep (KeepS.below hb57)
  have hx27 : WorldV AnyB w7 (.slice a2 1 c2) liB := hx25.keep (KeepS.below hb57)
  have hx37 : ChV AnyB w7 (.slice a3 2 c3) _ := hx3.keep (KeepS.below hb57)
  have hbb7 := hbb5.trans (hb57.mono hbb5.size)
  clear hB5 hx15 hx25 hx3 hbb5 hb57 hD hE hb6 hb7
  go_wp2_with fail
  refine (sameWorld_any liB liB _ _ AnyB AnyB w7 hx27 hB7).mono ?_
  rintro e w8 ⟨rfl, hb8⟩
  rw [decide_eq_true (rfl : liB = liB)]
  have hx18 : ChV AnyB w8 (.slice a1 2 c1) wantL := hx17.keep (KeepS.below hb8)
  have hx38 : ChV AnyB w8 (.slice a3 2 c3) _ := hx37.keep (KeepS.below hb8)
  have hx48 : ChV AnyB w8 (.slice a4 2 c4) _ := hx4.keep (KeepS.below hb8)
  have hbb8 := hbb7.trans (hb8.mono hbb7.size)
  clear hx17 hx37 hx4 hx27 hB7 hbb7 hb8
  go_wp2_with fail
  generalize hW : World.alloc _ _ = w9
  have hV9 : ChV AnyB w9 (.slice (some ⟨w8.heap.size + 1, 0, none⟩) 2 2) wantL := by rw [← hW]; exact (lit_want w8 _ _).1
  have hb9 : Below w8.heap.size w8 w9 := by rw [← hW]; exact (lit_want w8 _ _).2
  clear hW
  refine (plain_any wantL (by decide) _ AnyB w9 (hx18.keep (KeepS.below hb9))).mono ?_
  rintro e w10 ⟨x5, rfl, hx5, hb10⟩
  obtain ⟨a5, c5, rfl⟩ : ∃ a c, x5 = .slice a 2 c := by obtain ⟨a, c, e, _⟩ := hx5.form; exact ⟨a, c, e⟩
  have hV10 := hV9.keep (KeepS.below hb10)
  have hb810 : Below w8.heap.size w8 w10 := hb9.trans (hb10.mono hb9.size)
  have hx310 : ChV AnyB w10 (.slice a3 2 c3) _ := hx38.keep (KeepS.below hb810)
  have hx410 : ChV AnyB w10 (.slice a4 2 c4) _ := hx48.keep (KeepS.below hb810)
  have hbb10 := hbb8.trans (hb810.mono hbb8.size)
  clear hx18 hx38 hx48 hbb8 hb810 hb9 hb10 hV9
  go_wp2_with fail
  refine (sameAll_any wantL wantL _ _ AnyB AnyB w10 hx5 hV10).mono ?_
  rintro e w11 ⟨rfl, hb11⟩
  rw [decide_eq_true (rfl : wantL = wantL)]
  have hx311 : ChV AnyB w11 (.slice a3 2 c3) [⟨0, 1, 0, 3, 5, []⟩, ⟨0, 1, 1, 4, 6, []⟩] := hx310.keep (KeepS.below hb11)
  have hx411 : ChV AnyB w11 (.slice a4 2 c4) [⟨0, 1, -2, 0, 0, [4, 5, 6]⟩, ⟨0, 1, -1, 0, 0, [7, 8, 9]⟩] := hx410.keep (KeepS.below hb11)
  have hbb11 := hbb10.trans (hb11.mono hbb10.size)
  have ho3 : Slok a3 2 := by obtain ⟨a, c, e, h, _⟩ := hx311.form; cases e; exact h
  have ho4 : Slok a4 2 := by obtain ⟨a, c, e, h, _⟩ := hx411.form; cases e; exact h
  obtain ⟨-, -, -, -, m0, -⟩ := hx311.at (j := 0) (by decide)
  obtain ⟨-, -, -, -, m1, -⟩ := hx311.at (j := 1) (by decide)
  obtain ⟨-, -, -, -, n0, -⟩ := hx411.at (j := 0) (by decide)
  obtain ⟨-, -, -, -, n1, -⟩ := hx411.at (j := 1) (by decide)
  simp only [List.getElem_cons_zero, List.getElem_cons_succ, Nat.zero_mul, Nat.one_mul, Nat.add_zero, Nat.add_assoc, Nat.reduceAdd] at m0 m1 n0 n1
  clear hx310 hx410 hx311 hx411 hx5 hV10 hbb10 hb11
  go_wp2
  go_ret
  exact ⟨rfl, hbb11⟩

end Go.Proofs.Ytagnjhhbbjbhcaa
