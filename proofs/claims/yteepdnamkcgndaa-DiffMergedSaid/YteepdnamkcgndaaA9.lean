/- The examples that every statement looks at. A world of the call's own, from block B on: one kind is borrowed and stored anew; one value is set. Near: a world of the same shape. -/
import Derived.Test.YteepdnamkcgndaaA8
import Derived.Test.YteepdnamkcgndaaPDiff
import Derived.Test.YteepdnamkcgndaaA2
import Derived.Test.YteepdnamkcgndaaA7
import Derived.Test.YteepdnamkcgndaaA1
import Derived.Test.YteepdnamkcgndaaA6
namespace Go.Proofs.Yteepdnamkcgndaa
open Go.RowKit

instance (V : List (List (List Int))) : Decidable (Small V) := by unfold Small; exact inferInstance
theorem small_of (V : List (List (List Int))) (h : V.length ≤ 100000 ∧ ∀ rows ∈ V, rows.length ≤ 100000 ∧ ∀ r ∈ rows, r.length ≤ 100000) : Small V := h

set_option maxRecDepth 100000 in
set_option maxHeartbeats 4000000 in
theorem lives_any (w : World) : Calls Try.prog 15 #[] w fun e w' => e = .returned (.bool true) ∧ Below w.heap.size w w' := by
  go_enter Try.func15, Try.ntmps15
  go_wp2_with fail
  generalize hW : World.alloc _ _ = w1
  have hA : WorldV AnyB w1 (.slice (some ⟨w.heap.size + 1 + 1 + 1, 0, none⟩) 1 1) liA := by
    rw [← hW]; exact (lit2 w _ rfl [1, 2] [3, 4] (by decide) (by decide) _ _ _ _).1.keep (KeepS.below (lit3 _ _ (by simp) [1, 5] [3, 4] [6, 7] (by decide) (by decide) (by decide) _ _ _ _ _).2)
  have hB : WorldV AnyB w1 (.slice (some ⟨w.heap.size + 1 + 1 + 1 + 1 + 1 + 1 + 1 + 1, 0, none⟩) 1 1) liB := by
    rw [← hW]; exact (lit3 _ _ (by simp) [1, 5] [3, 4] [6, 7] (by decide) (by decide) (by decide) _ _ _ _ _).1
  have hb1 : Below w.heap.size w w1 := by
    rw [← hW]; exact (lit2 w _ rfl [1, 2] [3, 4] (by decide) (by decide) _ _ _ _).2.trans ((lit3 _ _ (by simp) [1, 5] [3, 4] [6, 7] (by decide) (by decide) (by decide) _ _ _ _ _).2.mono (by simp; omega))
  clear hW
  refine (pdiff_any liA liB (by decide) (by decide) _ _ AnyB AnyB w1 hA hB).mono ?_
  rintro e w2 ⟨x1, rfl, hx1, hb2⟩
  rw [li_diff1.1] at hx1
  rw [li_diff1.2]
  obtain ⟨a1, c1, rfl⟩ : ∃ a c, x1 = .slice a 2 c := by obtain ⟨a, c, e, _⟩ := hx1.form; exact ⟨a, c, e⟩
  have hA2 : WorldV AnyB w2 (.slice (some ⟨w.heap.size + 1 + 1 + 1, 0, none⟩) 1 1) liA := hA.keep (KeepS.below hb2)
  have hB2 : WorldV AnyB w2 (.slice (some ⟨w.heap.size + 1 + 1 + 1 + 1 + 1 + 1 + 1 + 1, 0, none⟩) 1 1) liB := hB.keep (KeepS.below hb2)
  have hbb2 := hb1.trans (hb2.mono hb1.size)
  clear hA hB hb1 hb2
  go_wp2_with fail
  refine (applyP_any liA (by decide) wantL (by decide) (by decide) _ _ AnyB AnyB w2 hA2 hx1).mono ?_
  rintro e w3 ⟨x2, rfl, hx2, hb3⟩
  rw [li_apply] at hx2
  rw [li_apply]
  obtain ⟨a2, c2, rfl⟩ : ∃ a c, x2 = .slice a 1 c := by obtain ⟨a, c, e, _⟩ := hx2.form; exact ⟨a, c, e⟩
  have hA3 : WorldV AnyB w3 (.slice (some ⟨w.heap.size + 1 + 1 + 1, 0, none⟩) 1 1) liA := hA2.keep (KeepS.below hb3)
  have hB3 : WorldV AnyB w3 (.slice (some ⟨w.heap.size + 1 + 1 + 1 + 1 + 1 + 1 + 1 + 1, 0, none⟩) 1 1) liB := hB2.keep (KeepS.below hb3)
  have hx13 : ChV AnyB w3 (.slice a1 2 c1) wantL := hx1.keep (KeepS.below hb3)
  have hbb3 := hbb2.trans (hb3.mono hbb2.size)
  clear hA2 hB2 hx1 hbb2 hb3
  go_wp2_with fail
  generalize hW : World.alloc _ _ = w4
  have hb4 : Below w3.heap.size w3 w4 := by rw [← hW]; exact (lit2 w3 _ rfl [1, 2] [5, 6] (by decide) (by decide) _ _ _ _).2
  have hC : WorldV AnyB w4 (.slice (some ⟨w3.heap.size + 1 + 1 + 1, 0, none⟩) 1 1) liC := by rw [← hW]; exact (lit2 w3 _ rfl [1, 2] [5, 6] (by decide) (by decide) _ _ _ _).1
  clear hW
  refine (pdiff_any liA liC (by decide) (by decide) _ _ AnyB AnyB w4 (hA3.keep (KeepS.below hb4)) hC).mono ?_
  rintro e w5 ⟨x3, rfl, hx3, hb5⟩
  rw [li_diff2.1] at hx3
  rw [li_diff2.2]
  obtain ⟨a3, c3, rfl⟩ : ∃ a c, x3 = .slice a 2 c := by obtain ⟨a, c, e, _⟩ := hx3.form; exact ⟨a, c, e⟩
  have hb35 : Below w3.heap.size w3 w5 := hb4.trans (hb5.mono hb4.size)
  have hB5 : WorldV AnyB w5 (.slice (some ⟨w.heap.size + 1 + 1 + 1 + 1 + 1 + 1 + 1 + 1, 0, none⟩) 1 1) liB := hB3.keep (KeepS.below hb35)
  have hx15 : ChV AnyB w5 (.slice a1 2 c1) wantL := hx13.keep (KeepS.below hb35)
  have hx25 : WorldV AnyB w5 (.slice a2 1 c2) liB := WorldV.keep hx2 (KeepS.below hb35)
  have hbb5 := hbb3.trans (hb35.mono hbb3.size)
  clear hA3 hB3 hx13 hx2 hbb3 hb35 hC hb4 hb5
  go_wp2_with fail
  generalize hW : World.alloc _ _ = w6
  have hD : WorldV AnyB w6 (.slice (some ⟨w5.heap.size + 1 + 1 + 1, 0, none⟩) 1 1) liD := by
    rw [← hW]; exact (lit2 w5 _ rfl [1, 2, 3] [4, 5, 6] (by decide) (by decide) _ _ _ _).1.keep (KeepS.below (lit2 _ _ (by simp) [1, 2, 3] [7, 8, 9] (by decide) (by decide) _ _ _ _).2)
  have hE : WorldV AnyB w6 (.slice (some ⟨w5.heap.size + 1 + 1 + 1 + 1 + 1 + 1 + 1, 0, none⟩) 1 1) liE := by
    rw [← hW]; exact (lit2 _ _ (by simp) [1, 2, 3] [7, 8, 9] (by decide) (by decide) _ _ _ _).1
  have hb6 : Below w5.heap.size w5 w6 := by
    rw [← hW]; exact (lit2 w5 _ rfl [1, 2, 3] [4, 5, 6] (by decide) (by decide) _ _ _ _).2.trans ((lit2 _ _ (by simp) [1, 2, 3] [7, 8, 9] (by decide) (by decide) _ _ _ _).2.mono (by simp; omega))
  clear hW
  refine (pdiff_any liD liE (by decide) (by decide) _ _ AnyB AnyB w6 hD hE).mono ?_
  rintro e w7 ⟨x4, rfl, hx4, hb7⟩
  rw [li_diff3.1] at hx4
  rw [li_diff3.2]
  obtain ⟨a4, c4, rfl⟩ : ∃ a c, x4 = .slice a 2 c := by obtain ⟨a, c, e, _⟩ := hx4.form; exact ⟨a, c, e⟩
  have hb57 : Below w5.heap.size w5 w7 := hb6.trans (hb7.mono hb6.size)
  have hB7 : WorldV AnyB w7 (.slice (some ⟨w.heap.size + 1 + 1 + 1 + 1 + 1 + 1 + 1 + 1, 0, none⟩) 1 1) liB := hB5.keep (KeepS.below hb57)
  have hx17 : ChV AnyB w7 (.slice a1 2 c1) wantL := hx15.keep (KeepS.below hb57)
  have hx27 : WorldV AnyB w7 (.slice a2 1 c2) liB := hx25.keep (KeepS.below hb57)
  have hx37 : ChV AnyB w7 (.slice a3 2 c3) _ := hx3.keep (KeepS.below hb57)
  have hbb7 := hbb5.trans (hb57.mono hbb5.size)
  clear hB5 hx15 hx25 hx3 hbb5 hb57 hD hE hb6 hb7
  go_wp2_with fail
  refine (sameWorld_any liB liB _ _ AnyB AnyB w7 hx27 hB7).mono ?_
  rintro e w8 ⟨rfl, hb8⟩
  rw [decide_eq_true (rfl : liB = liB)]
  have hx18 : ChV AnyB w8 (.slice a1 2 c1) wantL := hx17.keep (KeepS.below hb8)
  have hx38 : ChV AnyB w8 (.slice a3 2 c3) _ := hx37.keep (KeepS.below hb8)
  have hx48 : ChV AnyB w8 (.slice a4 2 c4) _ := hx4.keep (KeepS.below hb8)
  have hbb8 := hbb7.trans (hb8.mono hbb7.size)
  clear hx17 hx37 hx4 hx27 hB7 hbb7 hb8
  go_wp2_with fail
  generalize hW : World.alloc _ _ = w9
  have hV9 : ChV AnyB w9 (.slice (some ⟨w8.heap.size + 1, 0, none⟩) 2 2) wantL := by rw [← hW]; exact (lit_want w8 _ _).1
  have hb9 : Below w8.heap.size w8 w9 := by rw [← hW]; exact (lit_want w8 _ _).2
  clear hW
  refine (plain_any wantL (by decide) _ AnyB w9 (hx18.keep (KeepS.below hb9))).mono ?_
  rintro e w10 ⟨x5, rfl, hx5, hb10⟩
  obtain ⟨a5, c5, rfl⟩ : ∃ a c, x5 = .slice a 2 c := by obtain ⟨a, c, e, _⟩ := hx5.form; exact ⟨a, c, e⟩
  have hV10 := hV9.keep (KeepS.below hb10)
  have hb810 : Below w8.heap.size w8 w10 := hb9.trans (hb10.mono hb9.size)
  have hx310 : ChV AnyB w10 (.slice a3 2 c3) _ := hx38.keep (KeepS.below hb810)
  have hx410 : ChV AnyB w10 (.slice a4 2 c4) _ := hx48.keep (KeepS.below hb810)
  have hbb10 := hbb8.trans (hb810.mono hbb8.size)
  clear hx18 hx38 hx48 hbb8 hb810 hb9 hb10 hV9
  go_wp2_with fail
  refine (sameAll_any wantL wantL _ _ AnyB AnyB w10 hx5 hV10).mono ?_
  rintro e w11 ⟨rfl, hb11⟩
  rw [decide_eq_true (rfl : wantL = wantL)]
  have hx311 : ChV AnyB w11 (.slice a3 2 c3) [⟨0, 1, 0, 3, 5, []⟩, ⟨0, 1, 1, 4, 6, []⟩] := hx310.keep (KeepS.below hb11)
  have hx411 : ChV AnyB w11 (.slice a4 2 c4) [⟨0, 1, -2, 0, 0, [4, 5, 6]⟩, ⟨0, 1, -1, 0, 0, [7, 8, 9]⟩] := hx410.keep (KeepS.below hb11)
  have hbb11 := hbb10.trans (hb11.mono hbb10.size)
  have ho3 : Slok a3 2 := by obtain ⟨a, c, e, h, _⟩ := hx311.form; cases e; exact h
  have ho4 : Slok a4 2 := by obtain ⟨a, c, e, h, _⟩ := hx411.form; cases e; exact h
  obtain ⟨-, -, -, -, m0, -⟩ := hx311.at (j := 0) (by decide)
  obtain ⟨-, -, -, -, m1, -⟩ := hx311.at (j := 1) (by decide)
  obtain ⟨-, -, -, -, n0, -⟩ := hx411.at (j := 0) (by decide)
  obtain ⟨-, -, -, -, n1, -⟩ := hx411.at (j := 1) (by decide)
  simp only [List.getElem_cons_zero, List.getElem_cons_succ, Nat.zero_mul, Nat.one_mul, Nat.add_zero, Nat.add_assoc, Nat.reduceAdd] at m0 m1 n0 n1
  clear hx310 hx410 hx311 hx411 hx5 hV10 hbb10 hb11
  go_wp2
  go_ret
  exact ⟨rfl, hbb11⟩

end Go.Proofs.Yteepdnamkcgndaa

namespace Go.Proofs.Yteepdnamkcgndaa
open Go.RowKit

/-- One kind: its slice, and what a store of another one does. -/
theorem kind_b {B : Nat} {w : World} {aa : Option Addr} {ca : Nat} {W : List (List (List Int))} {n : Nat} (hn : W.length = n) (hB : B ≤ w.heap.size) (hw : WorldF (B ≤ ·) w (.slice aa n ca) W) {k : Nat} (hk : k < W.length) :
    ∃ g ak ck T, aa = some ⟨g, 0, none⟩ ∧ B ≤ g ∧ g < w.heap.size ∧ w.cell? ⟨g, k, none⟩ = some (.slice ak W[k].length ck) ∧ w.frozen? ⟨g, k, none⟩ = false ∧ Slok ak W[k].length ∧ W[k].length ≤ ck ∧ ck ≤ 9223372036854775807 ∧
      RowsF T w (.slice ak W[k].length ck) W[k] ∧ (∀ b, T b → B ≤ b ∧ b ≠ g ∧ b < w.heap.size) ∧
      (∀ w2 u' R, Turns T w w2 → RowsF (Grow T w.heap.size) w2 u' R → w2.cell? ⟨g, k, none⟩ = some (.slice ak W[k].length ck) ∧ w2.frozen? ⟨g, k, none⟩ = false ∧
        WorldF (B ≤ ·) (w2.setCell ⟨g, k, none⟩ u') (.slice aa n ca) (W.set k R) ∧ Below B w (w2.setCell ⟨g, k, none⟩ u')) := by
  subst hn
  obtain ⟨ak, ck, hck, hbk, hokk, hmk, hmax2, hrV⟩ := kind_at hw.sl hk
  obtain ⟨g, capg, u, T, e1, e2, e3, hSg, hcg, hfg, hRg, hT, -, hback⟩ := OwnF.borrow steady_rowsF hw k hk
  cases e1
  simp only [slb_some, slo_some, Nat.zero_add] at hck hbk
  have eu : u = .slice ak W[k].length ck := by rw [hck] at hcg; exact (Option.some.inj hcg).symm
  subst eu
  refine ⟨g, ak, ck, T, rfl, hSg, hbk, hck, hfg, hokk, hmk, hmax2, hRg, hT, fun w2 u' R ht hr => ?_⟩
  obtain ⟨h1, h2, h3, h4⟩ := hback w2 u' R ht hr
  exact ⟨h1, h2, steady_worldF.mono h3 (fun b _ h => grow_from hB b h), h4.below hB (fun b hb => by rcases hb with hb | hb; exact (hT b hb).1; rw [hb]; exact hSg)⟩

/-- One value: its cell, and what a store does. -/
theorem val_b {B : Nat} {w : World} {aa : Option Addr} {ca : Nat} {W : List (List (List Int))} {n : Nat} (hn : W.length = n) (hB : B ≤ w.heap.size) (hw : WorldF (B ≤ ·) w (.slice aa n ca) W) {k : Nat} (hk : k < W.length) {p f : Nat} (hp : p < W[k].length) (hf : f < W[k][p].length) :
    ∃ g g2 g3 ck cp, aa = some ⟨g, 0, none⟩ ∧ g < w.heap.size ∧ g2 < w.heap.size ∧ g3 < w.heap.size ∧ w.cell? ⟨g, k, none⟩ = some (.slice (some ⟨g2, 0, none⟩) W[k].length ck) ∧ W[k].length ≤ ck ∧ ck ≤ 9223372036854775807 ∧
      w.cell? ⟨g2, p, none⟩ = some (.slice (some ⟨g3, 0, none⟩) W[k][p].length cp) ∧ W[k][p].length ≤ cp ∧ cp ≤ 9223372036854775807 ∧ w.cell? ⟨g3, f, none⟩ = some (.int .i64 W[k][p][f]) ∧ w.frozen? ⟨g3, f, none⟩ = false ∧
      (∀ w2 x, Below w.heap.size w w2 → WorldF (B ≤ ·) (w2.setCell ⟨g3, f, none⟩ (.int .i64 x)) (.slice aa n ca) (W.set k (W[k].set p (W[k][p].set f x))) ∧ Below B w (w2.setCell ⟨g3, f, none⟩ (.int .i64 x))) := by
  subst hn
  obtain ⟨ak, ck, hck, hbk, hokk, hmk, hmax2, hrV⟩ := kind_at hw.sl hk
  obtain ⟨ar, cr, hcr, hbr, hokr, hmr, hmaxr, hrr⟩ := row_at hrV hp
  obtain ⟨g, capg, u, T, e1, e2, e3, hSg, hcg, hfg, hRg, hT, hback, -⟩ := OwnF.borrow steady_rowsF hw k hk
  cases e1
  simp only [slb_some, slo_some, Nat.zero_add] at hck hbk
  have eu : u = .slice ak W[k].length ck := by rw [hck] at hcg; exact (Option.some.inj hcg).symm
  subst eu
  obtain ⟨g2, cap2, u2, T2, r1, r2, r3, hTg2, hcg2, hfg2, hRg2, hT2, hback2, -⟩ := OwnF.borrow steady_intsF hRg p hp
  cases r1
  simp only [slb_some, slo_some, Nat.zero_add] at hcr hbr
  have eu2 : u2 = .slice ar W[k][p].length cr := by rw [hcr] at hcg2; exact (Option.some.inj hcg2).symm
  subst eu2
  obtain ⟨g3, cap3, q1, q2, q3, q4, q5, q6⟩ := IntsF.set hRg2 hf
  cases q1
  refine ⟨g, g2, g3, ck, cr, rfl, hbk, hbr, q3, hck, hmk, hmax2, hcr, hmr, hmaxr, q4, q5, fun w2 x hb => ?_⟩
  obtain ⟨f1, f2⟩ := q6 w2 x hb
  have f3 := f2.mono (S' := T) (fun b _ hb => (hT2 b hb).1)
  have f4 := hback _ _ f3 (hback2 _ _ f2 (steady_intsF.mono f1 (fun b _ h => by
      by_cases hlt : b < w.heap.size
      · exact .inl ⟨h, hlt⟩
      · exact .inr (by omega))))
  exact ⟨steady_worldF.mono f4 (fun b _ h => grow_from hB b h), f3.below hB (fun b hb => (hT b hb).1)⟩

/-- A block of one number that was just built. -/
theorem ints_one (w : World) (x : Int) (t : TypeId) : IntsV AnyB (w.alloc (.cells #[.int .i64 x] t)) (.slice (some ⟨w.heap.size, 0, none⟩) 1 1) [x] := by
  refine ⟨_, _, rfl, fun _ => ⟨_, _, rfl⟩, Nat.le_refl _, by unfold maxLen; omega, fun _ => trivial, fun j hj => ⟨.int .i64 x, ?_, ?_⟩⟩
  · obtain rfl : j = 0 := by simp at hj; omega
    rw [slb_some, slo_some, Nat.zero_add, World.cell?_alloc_new]
    rfl
  · obtain rfl : j = 0 := by simp at hj; omega
    rfl

/-- The worlds of a shape: up to six records of a kind, small values. -/
def ShapeW (s : List Int) (W : List (List (List Int))) : Prop :=
  W.length = s.length ∧ ∀ k (h : k < W.length), W[k].length ≤ 6 ∧ ∀ r ∈ W[k], (r.length : Int) = s.getD k 0 ∧ ∀ x ∈ r, 0 ≤ x ∧ x < 3

theorem ShapeW.set {s : List Int} {W : List (List (List Int))} (h : ShapeW s W) {k : Nat} {R : List (List Int)} (hR : R.length ≤ 6 ∧ ∀ r ∈ R, (r.length : Int) = s.getD k 0 ∧ ∀ x ∈ r, 0 ≤ x ∧ x < 3) : ShapeW s (W.set k R) := by
  refine ⟨by rw [List.length_set]; exact h.1, fun i hi => ?_⟩
  rw [List.getElem_set]
  split
  · rename_i e; subst e; exact hR
  · exact h.2 i (by simpa using hi)

theorem ShapeW.small {s : List Int} {W : List (List (List Int))} (h : ShapeW s W) (hs : ShapeOk s) : Small W := by
  refine ⟨by have := h.1; have := hs.1; omega, fun rows hr => ?_⟩
  obtain ⟨k, hk, rfl⟩ := List.getElem_of_mem hr
  obtain ⟨h1, h2⟩ := h.2 k hk
  refine ⟨by omega, fun r hr => ?_⟩
  have h3 := (h2 r hr).1
  have h4 : s.getD k 0 ∈ s := by rw [getD_eq (by have := h.1; omega)]; exact List.getElem_mem _
  have := hs.2 _ h4
  omega

theorem worldL_shape (s l : List Int) (hs : ShapeOk s) : ShapeW s (worldL s l) := by
  refine ⟨by simp [worldL], fun k hk => ?_⟩
  have hk' : k < s.length := by simpa [worldL] using hk
  have e : (worldL s l)[k] = kindL l (17 * k) (s.getD k 0).toNat := by simp [worldL]
  rw [e]
  have h5 := atI_lt l (17 * k) 5 (by omega)
  refine ⟨by simp [kindL]; omega, fun r hr => ?_⟩
  unfold kindL at hr
  obtain ⟨i, _, rfl⟩ := List.mem_map.1 hr
  have h4 : s.getD k 0 ∈ s := by rw [getD_eq hk']; exact List.getElem_mem _
  have h6 := hs.2 _ h4
  refine ⟨by unfold recL; rw [List.length_map, List.length_range]; omega, fun x hx => ?_⟩
  unfold recL at hx
  obtain ⟨f, _, rfl⟩ := List.mem_map.1 hx
  exact atI_lt _ _ 3 (by omega)

theorem shapeL_pos (l : List Int) : 0 < (shapeL l).length := by unfold shapeL; simp; omega

end Go.Proofs.Yteepdnamkcgndaa

namespace Go.Proofs.Yteepdnamkcgndaa
open Go.RowKit

set_option maxRecDepth 100000 in
set_option maxHeartbeats 8000000 in
theorem near_any (W : List (List (List Int))) (s l : List Int) (hW : ShapeW s W) (hs : ShapeOk s) (hs1 : 0 < s.length) (hl : Fit l) (u v y : Value) (S T U : Nat → Prop) (w : World) (hu : WorldV S w u W) (hv : IntsV T w v s) (hy : IntsV U w y l) :
    Calls Try.prog 8 #[u, v, y] w fun e w' => ∃ x W', e = .returned x ∧ WorldF (w.heap.size ≤ ·) w' x W' ∧ ShapeW s W' ∧ Below w.heap.size w w' := by
  have HC := hid (copy_any W (hW.small hs) u S w hu)
  obtain ⟨sa, cs, rfl, hoks, hcs, hmaxs⟩ := hv.form
  obtain ⟨al, cl, rfl, hokl, hcl, hmaxl⟩ := hy.form
  have hs3 := hs.1
  have HSV := hid hv
  have HY := hid hy
  have HW := hid hW
  have HSO := hid hs
  clear hv hy hW hs hu
  go_enter Try.func8, Try.ntmps8
  go_wp2_with fail
  refine HC.out.mono ?_
  rintro e w1 ⟨x, rfl, hx, hb1⟩
  have hxl : W.length = s.length := HW.out.1
  obtain ⟨aa, cg, e1, -, hcg1, hcg2⟩ := (WorldF.sl hx).form
  subst e1
  rw [hxl] at hx hcg1 ⊢
  obtain ⟨g0, -, -, -, rfl, -⟩ := kind_b hxl hb1.size hx (k := 0) (by omega)
  have HX := hid hx
  clear hx hxl
  go_wp2
  go_loopw [8] (fun i wr => ∃ (q : Nat) (V : List (List (List Int))), q ≤ 4 ∧ i = .int .i64 q ∧ Hid (ShapeW s V) ∧ Hid (WorldF (w.heap.size ≤ ·) wr (.slice (some ⟨g0, 0, none⟩) s.length cg) V) ∧ Below w.heap.size w wr) (fun i _ => 4 - (intOf i).toNat)
  case atStart => exact ⟨0, W, by omega, rfl, HW, HX, hb1⟩
  case round =>
    obtain ⟨q, V, hq, rfl, HV, HX2, hb⟩ := hrel
    have hnl : (0 : Int) < s.length := by omega
    by_cases h1 : 3 * q + 2 < l.length
    · by_cases h2 : q < 4
      · have hVl : V.length = s.length := HV.out.1
        have hv1 : IntsV T wr (.slice sa s.length cs) s := HSV.out.keep (KeepS.below hb)
        have hy1 : IntsV U wr (.slice al l.length cl) l := HY.out.keep (KeepS.below hb)
        go_wp2_with fail
        refine (at_any l hl _ _ _ U wr hy1 (by omega) (by omega) (by omega)).mono ?_
        rintro e w' ⟨rfl, rfl⟩
        have hk := atI_lt l ((3 * (q : Int)).toNat) s.length (by omega)
        obtain ⟨k, hkk⟩ := Int.eq_ofNat_of_zero_le hk.1
        rw [hkk] at hk ⊢
        have hks : k < s.length := by omega
        clear hk hkk
        obtain ⟨g, ak, ck, T1, e1, hBg, hbg, hcg, hfg, hokk, hmk, hmax2, hRg, hT, hback⟩ := kind_b hVl hb.size HX2.out (k := k) (by omega)
        cases e1
        have hVk := HV.out.2 k (by omega)
        have hm6 := hVk.1
        have HVK := hid hVk.2
        have HRg := hid hRg
        have HT := hid hT
        have HB := hid hback
        clear hVk hRg hT hback
        go_wp2_with fail
        refine (at_any l hl _ _ _ U wr hy1 (by omega) (by omega) (by omega)).mono ?_
        rintro e w' ⟨rfl, rfl⟩
        have hh := atI_lt l ((3 * (q : Int) + 1).toNat) 6 (by omega)
        generalize atI l ((3 * (q : Int) + 1).toNat) 6 = hv at *
        have hsk : s.getD k 0 ∈ s := by rw [getD_eq hks]; exact List.getElem_mem _
        have hsk4 := HSO.out.2 _ hsk
        obtain ⟨c, hc⟩ := Int.eq_ofNat_of_zero_le (show 0 ≤ s.getD k 0 by omega)
        have HVK2 : Hid (∀ r ∈ V[k], r.length = c ∧ ∀ x ∈ r, 0 ≤ x ∧ x < 3) := hid (fun r hr => ⟨by have := (HVK.out r hr).1; omega, (HVK.out r hr).2⟩)
        have HSet : Hid (∀ R : List (List Int), R.length ≤ 6 → (∀ r ∈ R, r.length = c ∧ ∀ x ∈ r, 0 ≤ x ∧ x < 3) → ShapeW s (V.set k R)) := hid (fun R h3 h4 => HV.out.set ⟨h3, fun r hr => ⟨by rw [hc, (h4 r hr).1], (h4 r hr).2⟩⟩)
        have hc14 : 1 ≤ c ∧ c ≤ 4 := by omega
        have hsc := hv1.cell rfl hks
        rw [hc] at hsc
        have HVk : Hid (k < V.length) := hid (by omega)
        clear hsk hsk4 hc HVK
        have hcase : (hv = 0 ∧ 0 < V[k].length) ∨ (hv = 1 ∧ V[k].length < 6) ∨ (0 < V[k].length ∧ ((hv = 1 ∧ V[k].length = 6) ∨ 2 ≤ hv)) ∨ (V[k].length = 0 ∧ (hv = 0 ∨ 2 ≤ hv)) := by omega
        rcases hcase with ⟨rfl, hm⟩ | ⟨rfl, hm⟩ | ⟨hm, hcc⟩ | ⟨hm, hcc⟩
        · obtain ⟨p, hp⟩ : ∃ p, V[k].length = p + 1 := ⟨V[k].length - 1, by omega⟩
          have hR2 := (steady_rowsF.mono (S' := Grow T1 wr.heap.size) HRg.out (fun b hb h => .inl ⟨h, hb⟩)).take (show p < V[k].length by omega)
          obtain ⟨-, -, b3, b4⟩ := HB.out wr _ _ (Turns.refl _ _) hR2
          have B3 := hid b3
          have B4 := hid (hb.trans (b4.mono (Nat.le_refl _)))
          have B5 := hid (HSet.out (V[k].take p) (by rw [List.length_take]; omega) (fun r hr => HVK2.out r (List.mem_of_mem_take hr)))
          clear b3 b4 hR2 HB HRg HSet HVK2 HT
          generalize V.set k (V[k].take p) = V' at *
          generalize V[k].length = m at *
          subst hp
          have g2 : (p : Int) < ((p + 1 : Nat) : Int) := by omega
          have g3 : (0 : Int) < (p : Int) + 1 := by omega
          go_wp2
          go_roundw
          case rel => exact ⟨q + 1, V', by omega, by go_num, B5, B3, B4.out⟩
          case measure => simp [intOf]; omega
        · generalize hml : V[k].length = m at *
          have HML := hid hml
          clear hml
          have dm6 : decide ((m : Int) < 6) = true := decide_eq_true (by omega)
          obtain ⟨z, hz⟩ : ∃ z, z = atI l ((3 * (q : Int) + 2).toNat) 3 := ⟨_, rfl⟩
          have hz3 : 0 ≤ z ∧ z < 3 := by rw [hz]; exact atI_lt _ _ 3 (by omega)
          have HZ := hid hz
          clear hz
          obtain ⟨wo, rfl⟩ : ∃ wo : World, wo = wr := ⟨_, rfl⟩
          have hkl : (k : Int) < s.length := by omega
          go_wp2
          go_loopw [12, 13] (fun x i w2 => ∃ f : Nat, f ≤ c ∧ i = .int .i64 f ∧ Hid (IntsF (wo.heap.size ≤ ·) w2 x (List.replicate f z)) ∧ Below wo.heap.size wo w2) (fun _ i _ => c - (intOf i).toNat)
          case atStart => exact ⟨0, by omega, rfl, hid (IntsF.nil _ _), Below.refl _ _⟩
          case round =>
            obtain ⟨f, hf, rfl, HIr, hb3⟩ := hrel
            have hsc3 := cell_later hb3 hsc
            by_cases hlt : f < c
            · have hy3 : IntsV U wr (.slice al l.length cl) l := hy1.keep (KeepS.below hb3)
              have HRep : Hid (List.replicate f z ++ [z] = List.replicate (f + 1) z) := hid (by rw [List.replicate_succ']; )
              go_wp2_with fail
              refine (at_any l hl _ _ _ U wr hy3 (by omega) (by omega) (by omega)).mono ?_
              rintro e w' ⟨rfl, rfl⟩
              rw [← HZ.out]
              have hal : Below wr.heap.size wr (wr.alloc (.cells #[.int .i64 z] 3)) := (Below.refl _ _).alloc (Nat.le_refl _) _
              go_wp2_with (at_builtin; go_must (refine wpList_appI rfl _ _ rfl Try.app22 rfl HIr.out hal rfl (ints_one wr z _) (by simp; omega) ?_))
              intro v' w3 hI3 ht3
              have HI3 : Hid (IntsF (wo.heap.size ≤ ·) w3 v' (List.replicate (f + 1) z)) := hid (by rw [← HRep.out]; exact steady_intsF.mono hI3 (fun b _ h => grow_from hb3.size b h))
              have hb4 : Below wo.heap.size wo w3 := (hb3.trans (hal.mono hb3.size)).trans (ht3.below (by have := hb3.size; simp; omega) (fun b hb => HIr.out.2 b hb.symm))
              clear hI3 ht3 hal HIr hb3 hsc3 hy3
              go_wp2
              go_roundw
              case rel => exact ⟨f + 1, by omega, by go_num, HI3, hb4⟩
              case measure => simp [intOf]; omega
            · obtain rfl : f = c := by omega
              have hcg3 := cell_later hb3 hcg
              obtain ⟨ar, cr, er, -⟩ := HIr.out.sl.form
              rw [List.length_replicate] at er
              subst er
              have hlr : (List.replicate f z).length ≤ 4 := by simp; omega
              go_wp2_with (at_builtin; go_must (refine wpList_appF1 steady_intsF rfl _ _ rfl Try.app63 rfl HRg.out hb3 rfl (List.replicate f z) HIr.out rfl (by have := HML.out; omega) ?_))
              intro v' w4 hR4 ht4
              obtain ⟨av', lv', cv', rfl⟩ : ∃ a l c, v' = .slice a l c := by obtain ⟨a, c, e, _⟩ := (RowsF.sl hR4).form; exact ⟨_, _, _, e⟩
              have htT : Turns T1 wo w4 := (Turns.of_below hb3).trans (ht4.mono fun b _ hb => HRg.out.1 b hb.symm)
              obtain ⟨b1, b2, b3, b4⟩ := HB.out w4 _ _ htT hR4
              have B3 := hid b3
              have B4 := hid (hb.trans (b4.mono (Nat.le_refl _)))
              have B5 : Hid (ShapeW s (V.set k (V[k] ++ [List.replicate f z]))) := hid (HSet.out _ (by rw [List.length_append, List.length_singleton, HML.out]; omega) (fun r hr => by
                rcases List.mem_append.1 hr with hr | hr
                · exact HVK2.out r hr
                · rw [List.mem_singleton.1 hr]; exact ⟨by simp, fun x hx => by rw [(List.mem_replicate.1 hx).2]; exact hz3⟩))
              clear b3 b4 hR4 ht4 htT HB HRg HSet HVK2 HT HIr hsc3 hcg hfg hcg3
              generalize V.set k (V[k] ++ [List.replicate f z]) = V' at *
              go_wp2
              go_roundw
              case rel => exact ⟨q + 1, V', by omega, by go_num, B5, B3, B4.out⟩
              case measure => simp [intOf]; omega
        · have hkV : k < V.length := HVk.out
          have hj := atI_lt l ((3 * (q : Int) + 2).toNat) V[k].length (by omega)
          obtain ⟨j, hjj⟩ := Int.eq_ofNat_of_zero_le hj.1
          have hjm : j < V[k].length := by omega
          have hrc := (HVK2.out _ (List.getElem_mem hjm)).1
          have hfc := atI_lt l ((3 * (q : Int) + 2).toNat) c (by omega)
          obtain ⟨fn, hff⟩ := Int.eq_ofNat_of_zero_le hfc.1
          have hfr : fn < V[k][j].length := by omega
          obtain ⟨g, g2, g3, ck', cp, v1, v2, v3, v4, v5, v6, v7, v8, v9, v10, v11, v12, v13⟩ := val_b hVl hb.size HX2.out hkV hjm hfr
          cases v1
          have hx := hcg.symm.trans v5
          cases hx
          have hz := atI_lt l ((3 * (q : Int) + 2).toNat) 12 (by omega)
          obtain ⟨z, hzz⟩ := Int.eq_ofNat_of_zero_le hz.1
          have hz12 : z < 12 := by omega
          have B5 : Hid (ShapeW s (V.set k (V[k].set j (V[k][j].set fn ((z : Int) / 4))))) := hid (HSet.out _ (by rw [List.length_set]; omega) (fun r hr => by
            rcases mem_set hr with rfl | hr
            · refine ⟨by rw [List.length_set]; exact hrc, fun x hx => ?_⟩
              rcases mem_set hx with rfl | hx
              · omega
              · exact (HVK2.out _ (List.getElem_mem hjm)).2 x hx
            · exact HVK2.out r hr))
          have HJ := hid hjj
          have HF := hid hff
          have HZ := hid hzz
          have HV13 := hid (fun w2 hb => v13 w2 ((z : Int) / 4) hb)
          rw [hrc] at v8 v9
          have hd1 : (hv == 0) = false := beqF (by omega)
          have hcc' : (hv = 1 ∧ decide ((V[k].length : Int) < 6) = false) ∨ (hv == 1) = false := by
            rcases hcc with h | h
            · exact .inl ⟨h.1, decide_eq_false (by omega)⟩
            · exact .inr (beqF (by omega))
          have hm' : (0 : Int) < V[k].length := by omega
          have hjm' : (j : Int) < V[k].length := by omega
          have hj0 : (0 : Int) ≤ j := by omega
          have hfc' : (fn : Int) < c := by omega
          have hf0 : (0 : Int) ≤ fn := by omega
          have hks' : (k : Int) < s.length := by omega
          have hk0 : (0 : Int) ≤ k := by omega
          obtain ⟨ov, hov⟩ : ∃ ov, wr.cell? ⟨g3, fn, none⟩ = some (.int .i64 ov) := ⟨_, v11⟩
          clear hjj hff hzz hj hfc hz v13 hcc HB HRg HSet HVK2 HT hfr hrc v11
          generalize V.set k (V[k].set j (V[k][j].set fn ((z : Int) / 4))) = V' at *
          generalize V[k].length = m at *
          rcases hcc' with ⟨rfl, hd2⟩ | hd2
          all_goals
            go_wp2_with fail
            refine (at_any l hl _ _ _ U wr hy1 (by omega) (by omega) (by omega)).mono ?_
            rintro e w' ⟨rfl, rfl⟩
            rw [HJ.out]
            go_wp2_with fail
            refine (at_any l hl _ _ _ U wr hy1 (by omega) (by omega) (by omega)).mono ?_
            rintro e w' ⟨rfl, rfl⟩
            rw [HF.out]
            go_wp2
            have hg := Grew.cell (w := wr)
            refine wp_region_grewS 14 [(true, 0), (true, 1), (true, 2), (true, 3), (true, 4), (true, 5), (true, 6), (true, 7), (true, 8), (true, 9), (true, 10), (true, 11), (false, 12), (true, 13)] (by kernel_rfl) (by kernel_rfl) ?_
            refine wpSteps_pre 12 (by decide) ?_
            simp only [List.take_succ_cons, List.take_zero]
            repeat (go_big_quiet_step (fail))
            refine wpQuiet_nil ?_
            refine wpSteps_one rfl ?_
            clear hg
            go_wp2_with fail
            refine (at_any l hl _ _ _ U _ (hy1.keep (KeepS.below (below_drewN (Below.refl _ _) 1))) (by omega) (by omega) (by omega)).mono ?_
            rintro e w' ⟨rfl, rfl⟩
            rw [HZ.out]
            go_wp2
            refine qn_mk ⟨InGrew.of (below_drewN (Below.refl _ _) 1), ?_⟩
            refine wpSteps_quiet rfl ?_
            repeat (go_big_quiet_step (fail))
            refine wpQuiet_nil ?_
            refine wpSteps_done ?_
            obtain ⟨F1, F2⟩ := HV13.out (wr.drewN 1) (below_drewN (Below.refl _ _) 1)
            have K1 := hid F1
            have K2 := hid (hb.trans (F2.mono (Nat.le_refl _)))
            clear F1 F2
            go_wp2
            go_roundw
            case rel => exact ⟨q + 1, V', by omega, by go_num, B5, K1, K2.out⟩
            case measure => simp [intOf]; omega
        · have hm0 : (V[k].length : Int) = 0 := by omega
          have d1 : decide ((0 : Int) < (V[k].length : Int)) = false := decide_eq_false (by omega)
          have d2 : decide (0 < V[k].length) = false := decide_eq_false (by omega)
          have HM := hid hm
          clear hm hm0 HB HRg HT HSet
          rcases hcc with rfl | hcc
          · generalize V[k].length = m at *
            go_wp2
            go_roundw
            case rel => exact ⟨q + 1, V, by omega, by go_num, HV, HX2, hb⟩
            case measure => simp [intOf]; omega
          · have d3 : (hv == 0) = false := beqF (by omega)
            have d4 : (hv == 1) = false := beqF (by omega)
            generalize V[k].length = m at *
            go_wp2
            go_roundw
            case rel => exact ⟨q + 1, V, by omega, by go_num, HV, HX2, hb⟩
            case measure => simp [intOf]; omega
      · have HR := hid (WorldF.sl HX2.out)
        go_wp2
        go_ret
        exact ⟨_, rfl, V, HX2.out, HV.out, hb⟩
    · go_wp2
      go_ret
      exact ⟨_, rfl, V, HX2.out, HV.out, hb⟩

end Go.Proofs.Yteepdnamkcgndaa
