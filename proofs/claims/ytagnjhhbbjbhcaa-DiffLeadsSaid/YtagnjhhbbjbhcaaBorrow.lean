/- A world of the call's own, from block B on: one kind is borrowed and stored anew; one value is set. -/
import Derived.Test.YtagnjhhbbjbhcaaPApply7
import Derived.Test.YtagnjhhbbjbhcaaGen
namespace Go.Proofs.Ytagnjhhbbjbhcaa
open Go.RowKit

/-- One kind: its slice, and what a store of another one does. -/
theorem kind_b {B : Nat} {w : World} {aa : Option Addr} {ca : Nat} {W : List (List (List Int))} {n : Nat} (hn : W.length = n) (hB : B ≤ w.heap.size) (hw : WorldF (B ≤ ·) w (.slice aa n ca) W) {k : Nat} (hk : k < W.length) :
    ∃ g ak ck T, aa = some ⟨g, 0, none⟩ ∧ B ≤ g ∧ g < w.heap.size ∧ w.cell? ⟨g, k, none⟩ = some (.slice ak W[k].length ck) ∧ w.frozen? ⟨g, k, none⟩ = false ∧ Slok ak W[k].length ∧ W[k].length ≤ ck ∧ ck ≤ 9223372036854775807 ∧
      RowsF T w (.slice ak W[k].length ck) W[k] ∧ (∀ b, T b → B ≤ b ∧ b ≠ g ∧ b < w.heap.size) ∧
      (∀ w2 u' R, Turns T w w2 → RowsF (Grow T w.heap.size) w2 u' R → w2.cell? ⟨g, k, none⟩ = some (.slice ak W[k].length ck) ∧ w2.frozen? ⟨g, k, none⟩ = false ∧
        WorldF (B ≤ ·) (w2.setCell ⟨g, k, none⟩ u') (.slice aa n ca) (W.set k R) ∧ Below B w (w2.setCell ⟨g, k, none⟩ u')) := by
  subst hn
  obtain ⟨ak, ck, hck, hbk, hokk, hmk, hmax2, hrV⟩ := kind_at hw.sl hk
  obtain ⟨g, capg, u, T, e1, e2, e3, hSg, hcg, hfg, hRg, hT, -, hback⟩ := OwnF.borrow steady_rowsF hw k hk
  cases e1
  simp only [slb_some, slo_some, Nat.zero_add] at hck hbk
  have eu : u = .slice ak W[k].length ck := by rw [hck] at hcg; exact (Option.some.inj hcg).symm
  subst eu
  refine ⟨g, ak, ck, T, rfl, hSg, hbk, hck, hfg, hokk, hmk, hmax2, hRg, hT, fun w2 u' R ht hr => ?_⟩
  obtain ⟨h1, h2, h3, h4⟩ := hback w2 u' R ht hr
  exact ⟨h1, h2, steady_worldF.mono h3 (fun b _ h => grow_from hB b h), h4.below hB (fun b hb => by rcases hb with hb | hb; exact (hT b hb).1; rw [hb]; exact hSg)⟩

/-- One value: its cell, and what a store does. -/
theorem val_b {B : Nat} {w : World} {aa : Option Addr} {ca : Nat} {W : List (List (List Int))} {n : Nat} (hn : W.length = n) (hB : B ≤ w.heap.size) (hw : WorldF (B ≤ ·) w (.slice aa n ca) W) {k : Nat} (hk : k < W.length) {p f : Nat} (hp : p < W[k].length) (hf : f < W[k][p].length) :
    ∃ g g2 g3 ck cp, aa = some ⟨g, 0, none⟩ ∧ g < w.heap.size ∧ g2 < w.heap.size ∧ g3 < w.heap.size ∧ w.cell? ⟨g, k, none⟩ = some (.slice (some ⟨g2, 0, none⟩) W[k].length ck) ∧ W[k].length ≤ ck ∧ ck ≤ 9223372036854775807 ∧
      w.cell? ⟨g2, p, none⟩ = some (.slice (some ⟨g3, 0, none⟩) W[k][p].length cp) ∧ W[k][p].length ≤ cp ∧ cp ≤ 9223372036854775807 ∧ w.cell? ⟨g3, f, none⟩ = some (.int .i64 W[k][p][f]) ∧ w.frozen? ⟨g3, f, none⟩ = false ∧
      (∀ w2 x, Below w.heap.size w w2 → WorldF (B ≤ ·) (w2.setCell ⟨g3, f, none⟩ (.int .i64 x)) (.slice aa n ca) (W.set k (W[k].set p (W[k][p].set f x))) ∧ Below B w (w2.setCell ⟨g3, f, none⟩ (.int .i64 x))) := by
  subst hn
  obtain ⟨ak, ck, hck, hbk, hokk, hmk, hmax2, hrV⟩ := kind_at hw.sl hk
  obtain ⟨ar, cr, hcr, hbr, hokr, hmr, hmaxr, hrr⟩ := row_at hrV hp
  obtain ⟨g, capg, u, T, e1, e2, e3, hSg, hcg, hfg, hRg, hT, hback, -⟩ := OwnF.borrow steady_rowsF hw k hk
  cases e1
  simp only [slb_some, slo_some, Nat.zero_add] at hck hbk
  have eu : u = .slice ak W[k].length ck := by rw [hck] at hcg; exact (Option.some.inj hcg).symm
  subst eu
  obtain ⟨g2, cap2, u2, T2, r1, r2, r3, hTg2, hcg2, hfg2, hRg2, hT2, hback2, -⟩ := OwnF.borrow steady_intsF hRg p hp
  cases r1
  simp only [slb_some, slo_some, Nat.zero_add] at hcr hbr
  have eu2 : u2 = .slice ar W[k][p].length cr := by rw [hcr] at hcg2; exact (Option.some.inj hcg2).symm
  subst eu2
  obtain ⟨g3, cap3, q1, q2, q3, q4, q5, q6⟩ := IntsF.set hRg2 hf
  cases q1
  refine ⟨g, g2, g3, ck, cr, rfl, hbk, hbr, q3, hck, hmk, hmax2, hcr, hmr, hmaxr, q4, q5, fun w2 x hb => ?_⟩
  obtain ⟨f1, f2⟩ := q6 w2 x hb
  have f3 := f2.mono (S' := T) (fun b _ hb => (hT2 b hb).1)
  have f4 := hback _ _ f3 (hback2 _ _ f2 (steady_intsF.mono f1 (fun b _ h => by
      by_cases hlt : b < w.heap.size
      · exact .inl ⟨h, hlt⟩
      · exact .inr (by omega))))
  exact ⟨steady_worldF.mono f4 (fun b _ h => grow_from hB b h), f3.below hB (fun b hb => (hT b hb).1)⟩

/-- A block of one number that was just built. -/
theorem ints_one (w : World) (x : Int) (t : TypeId) : IntsV AnyB (w.alloc (.cells #[.int .i64 x] t)) (.slice (some ⟨w.heap.size, 0, none⟩) 1 1) [x] := by
  refine ⟨_, _, rfl, fun _ => ⟨_, _, rfl⟩, Nat.le_refl _, by unfold maxLen; omega, fun _ => trivial, fun j hj => ⟨.int .i64 x, ?_, ?_⟩⟩
  · obtain rfl : j = 0 := by simp at hj; omega
    rw [slb_some, slo_some, Nat.zero_add, World.cell?_alloc_new]
    rfl
  · obtain rfl : j = 0 := by simp at hj; omega
    rfl

/-- The worlds of a shape: up to six records of a kind, small values. -/
def ShapeW (s : List Int) (W : List (List (List Int))) : Prop :=
  W.length = s.length ∧ ∀ k (h : k < W.length), W[k].length ≤ 6 ∧ ∀ r ∈ W[k], (r.length : Int) = s.getD k 0 ∧ ∀ x ∈ r, 0 ≤ x ∧ x < 3

theorem ShapeW.set {s : List Int} {W : List (List (List Int))} (h : ShapeW s W) {k : Nat} {R : List (List Int)} (hR : R.length ≤ 6 ∧ ∀ r ∈ R, (r.length : Int) = s.getD k 0 ∧ ∀ x ∈ r, 0 ≤ x ∧ x < 3) : ShapeW s (W.set k R) := by
  refine ⟨by rw [List.length_set]; exact h.1, fun i hi => ?_⟩
  rw [List.getElem_set]
  split
  · rename_i e; subst e; exact hR
  · exact h.2 i (by simpa using hi)

theorem ShapeW.small {s : List Int} {W : List (List (List Int))} (h : ShapeW s W) (hs : ShapeOk s) : Small W := by
  refine ⟨by have := h.1; have := hs.1; omega, fun rows hr => ?_⟩
  obtain ⟨k, hk, rfl⟩ := List.getElem_of_mem hr
  obtain ⟨h1, h2⟩ := h.2 k hk
  refine ⟨by omega, fun r hr => ?_⟩
  have h3 := (h2 r hr).1
  have h4 : s.getD k 0 ∈ s := by rw [getD_eq (by have := h.1; omega)]; exact List.getElem_mem _
  have := hs.2 _ h4
  omega

theorem worldL_shape (s l : List Int) (hs : ShapeOk s) : ShapeW s (worldL s l) := by
  refine ⟨by simp [worldL], fun k hk => ?_⟩
  have hk' : k < s.length := by simpa [worldL] using hk
  have e : (worldL s l)[k] = kindL l (17 * k) (s.getD k 0).toNat := by simp [worldL]
  rw [e]
  have h5 := atI_lt l (17 * k) 5 (by omega)
  refine ⟨by simp [kindL]; omega, fun r hr => ?_⟩
  unfold kindL at hr
  obtain ⟨i, _, rfl⟩ := List.mem_map.1 hr
  have h4 : s.getD k 0 ∈ s := by rw [getD_eq hk']; exact List.getElem_mem _
  have h6 := hs.2 _ h4
  refine ⟨by unfold recL; rw [List.length_map, List.length_range]; omega, fun x hx => ?_⟩
  unfold recL at hx
  obtain ⟨f, _, rfl⟩ := List.mem_map.1 hx
  exact atI_lt _ _ 3 (by omega)

theorem shapeL_pos (l : List Int) : 0 < (shapeL l).length := by unfold shapeL; simp; omega

end Go.Proofs.Ytagnjhhbbjbhcaa
