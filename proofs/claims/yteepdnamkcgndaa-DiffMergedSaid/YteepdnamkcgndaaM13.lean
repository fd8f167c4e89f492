/- Rows of changes of the call's own that are written in place; good changes. Bent: a list of changes with one thing altered. Plain laws of lists of small changes; the way over a third world is no shorter; worlds that Apply makes are small. -/
import Derived.Test.YteepdnamkcgndaaM10
import Derived.Test.YteepdnamkcgndaaA11
import Derived.Test.YteepdnamkcgndaaA4
import Derived.Test.YteepdnamkcgndaaA6
import Derived.Test.YteepdnamkcgndaaA2
namespace Go.Proofs.Yteepdnamkcgndaa
open Go.RowKit

theorem shapeW_shaped {s : List Int} {W : List Rows1} (h : ShapeW s W) (hs : ShapeOk s) : ShapedW W := by
  refine ⟨fun rows hr r hr' => ?_, by have := h.1; have := hs.1; omega, ?_⟩
  · obtain ⟨k, hk, rfl⟩ := List.getElem_of_mem hr
    obtain ⟨h1, h2⟩ := h.2 k hk
    have h3 := (h2 r hr').1
    have h4 : s.getD k 0 ∈ s := by rw [getD_eq (by have := h.1; omega)]; exact List.getElem_mem _
    have h5 := hs.2 _ h4
    have h0 : 0 < W[k].length := by
      rcases Nat.eq_zero_or_pos W[k].length with h0 | h0
      · rw [List.eq_nil_of_length_eq_zero h0] at hr'; cases hr'
      · exact h0
    have h6 := (h2 _ (List.getElem_mem h0)).1
    refine ⟨by omega, by omega, ?_⟩
    rw [headD_eq [] h0]
    omega
  · have h1 := total_mul (n := 6) W (fun rows hr => by
      obtain ⟨k, hk, rfl⟩ := List.getElem_of_mem hr
      exact (h.2 k hk).1)
    have := h.1
    have := hs.1
    omega

theorem shapeW_ok {s : List Int} {A B : List Rows1} (hA : ShapeW s A) (hB : ShapeW s B) (hs : ShapeOk s) : diffOk A B := by
  refine ⟨shapeW_shaped hA hs, shapeW_shaped hB hs, by rw [hA.1, hB.1], fun k hk h1 h2 => ?_⟩
  have hkB : k < B.length := by have := hA.1; have := hB.1; omega
  rw [getD_eq hk] at h1 ⊢
  rw [getD_eq hkB] at h2 ⊢
  rw [headD_eq [] h1, headD_eq [] h2]
  have e1 := ((hA.2 k hk).2 _ (List.getElem_mem h1)).1
  have e2 := ((hB.2 k hkB).2 _ (List.getElem_mem h2)).1
  omega

theorem shapeW_total {s : List Int} {A : List Rows1} (h : ShapeW s A) (hs : ShapeOk s) : total A ≤ 512 := (shapeW_shaped h hs).2.2

theorem diffC_len_small {s : List Int} {A B : List Rows1} (hA : ShapeW s A) (hB : ShapeW s B) (hs : ShapeOk s) : (diffC A B).length ≤ 300 := by
  unfold diffC
  rw [if_pos (shapeW_ok hA hB hs)]
  have h3 : A.length = B.length := by rw [hA.1, hB.1]
  have h4 := hs.1
  have h5 := flatMap_len (n := A.length) (b := 80) (f := fun k : Nat => kindDiff (k : Int) (A.getD k []) (B.getD k [])) (fun k hk => by
    have ha := hA.2 k hk
    have hb := hB.2 k (by omega)
    have h10 := (shapeW_shaped hA hs).1 A[k] (List.getElem_mem hk)
    rw [getD_eq hk, getD_eq (show k < B.length by omega)]
    have h6 := bestM_len (kind := (k : Int)) (a := A[k]) (b := B[k]) (fun r hr => (h10 r hr).2.1) (min A[k].length B[k].length) (by omega)
    unfold kindDiff
    omega)
  unfold diffL
  have := hA.1
  omega

theorem getD_mem_or {α : Type} {xs : List α} {i : Nat} {d : α} : xs.getD i d ∈ xs ∨ xs.getD i d = d := by
  by_cases h : i < xs.length
  · rw [getD_eq h]; exact .inl (List.getElem_mem h)
  · right; rw [List.getD_eq_getElem?_getD, List.getElem?_eq_none (by omega)]; rfl

theorem listL_values {kind : Int} {a b : Rows1} {m n : Nat} (ha : ∀ r ∈ a, r.length ≤ n) (hb : ∀ r ∈ b, r.length ≤ n) : ∀ c ∈ listL kind a b m, c.values.length ≤ n := by
  intro c hc
  unfold listL at hc
  rcases List.mem_append.1 hc with hc | hc
  · rcases List.mem_append.1 hc with hc | hc
    · unfold sets at hc
      obtain ⟨i, _, hc⟩ := List.mem_flatMap.1 hc
      unfold setR at hc
      obtain ⟨k, _, hc⟩ := List.mem_filterMap.1 hc
      unfold setAt at hc
      split at hc
      · cases hc
      · cases hc; simp
    · unfold takes at hc
      obtain ⟨i, _, rfl⟩ := List.mem_map.1 hc
      unfold takeC
      simp only
      rcases getD_mem_or (xs := a) (i := a.length - 1 - i) (d := []) with h | h
      · exact ha _ h
      · rw [h]; simp
  · unfold adds at hc
    obtain ⟨i, _, rfl⟩ := List.mem_map.1 hc
    unfold addC
    simp only
    rcases getD_mem_or (xs := b) (i := m + i) (d := []) with h | h
    · exact hb _ h
    · rw [h]; simp

theorem diffC_values (A B : List Rows1) : ∀ c ∈ diffC A B, c.values.length ≤ 100000 := by
  intro c hc
  unfold diffC at hc
  split at hc
  · rename_i h
    unfold diffL at hc
    obtain ⟨k, hk, hc⟩ := List.mem_flatMap.1 hc
    have hkA : k < A.length := List.mem_range.1 hk
    have hkB : k < B.length := by have := h.2.2.1; omega
    rw [getD_eq hkA, getD_eq hkB, (kindDiff_eq _ _ _).1] at hc
    have := listL_values (n := 10) (fun r hr => (h.1.1 _ (List.getElem_mem hkA) r hr).2.1) (fun r hr => (h.2.1.1 _ (List.getElem_mem hkB) r hr).2.1) c hc
    omega
  · cases hc
theorem turnL_values {cs : List Chg} {n : Nat} (h : ∀ c ∈ cs, c.values.length ≤ n) : ∀ c ∈ turnL cs, c.values.length ≤ n := by
  intro c hc
  unfold turnL at hc
  rw [List.mem_reverse] at hc
  obtain ⟨d, hd, rfl⟩ := List.mem_map.1 hc
  exact h d hd
theorem turnL_len (cs : List Chg) : (turnL cs).length = cs.length := by simp [turnL]

end Go.Proofs.Yteepdnamkcgndaa

namespace Go.Proofs.Yteepdnamkcgndaa
open Go.RowKit

/-- A cell of an owned row is written, whatever the size of an element. -/
theorem ownsRow_setN {w : World} {base size : Nat} {e : TypeId} {g n cap : Nat} {us : List Value} (h : w.ownsRow base e size (.slice (some ⟨g, 0, none⟩) n cap) n us) (j : Nat) (u : Value) :
    (w.setCell ⟨g, j, none⟩ u).ownsRow base e size (.slice (some ⟨g, 0, none⟩) n cap) n (us.set j u) := by
  obtain ⟨h1, h2⟩ := h
  refine ⟨by simpa using h1, ?_⟩
  rcases h2 with ⟨h2, _⟩ | ⟨g', cap', cur, hv, hb, hg, hn, hc, hs, ht⟩
  · cases h2
  · cases hv
    refine .inr ⟨g, cap, cur.setIfInBounds j u, rfl, hb, heap_setCell_same w g j cur e u hg, hn, hc, by simpa using hs, ?_⟩
    rw [Array.toList_setIfInBounds, ← ht]
    exact List.take_set ..

/-- An owned row of at least one change: its slice, its cells. -/
theorem ownsRow_form6 {w : World} {base : Nat} {e : TypeId} {v : Value} {n : Nat} {us : List Value} (h : w.ownsRow base e 6 v n us) (hn : 0 < n) :
    ∃ g cap, v = .slice (some ⟨g, 0, none⟩) n cap ∧ base ≤ g ∧ g < w.heap.size ∧ n ≤ cap ∧ cap ≤ maxLen ∧ ∀ j (hj : j < us.length), w.cell? ⟨g, j, none⟩ = some us[j] ∧ w.frozen? ⟨g, j, none⟩ = false := by
  obtain ⟨h1, h2⟩ := h
  rcases h2 with ⟨_, h2⟩ | ⟨g, cap, cur, hv, hb, hg, hn, hc, hs, ht⟩
  · omega
  · refine ⟨g, cap, hv, hb, (Array.getElem?_eq_some_iff.1 hg).1, hn, hc, fun j hj => ⟨?_, frozen_of_row w g j cur e hg⟩⟩
    rw [cell_of_row w g j cur e (0, 0) hg]
    have h3 : us[j]? = some us[j] := List.getElem?_eq_getElem hj
    rw [← h3, ← ht, List.getElem?_take, if_pos (by omega)]
    simp

theorem flatC_get (cs : List Chg) (us : List Value) (h : us.length = cs.length) (q : Nat) : (flatC cs us)[q]? = if hq : q / 6 < cs.length then (cs[q / 6].cells (us[q / 6]'(by omega)))[q % 6]? else none := by
  by_cases hq : q / 6 < cs.length
  · rw [dif_pos hq]
    have := flatC_at cs us (q / 6) hq (by omega) (q % 6) (by omega)
    rw [show q / 6 * 6 + q % 6 = q by omega] at this
    exact this
  · rw [dif_neg hq]
    refine List.getElem?_eq_none ?_
    rw [flatC_len cs us h]
    omega

/-- One field of a change is set. -/
theorem flatC_set1 (cs : List Chg) (us : List Value) (h : us.length = cs.length) {k i : Nat} (hk : k < cs.length) (hi : i < 6) (c' : Chg) (u' x : Value) (hc : c'.cells u' = (cs[k].cells (us[k]'(by omega))).set i x) :
    flatC (cs.set k c') (us.set k u') = (flatC cs us).set (k * 6 + i) x := by
  refine List.ext_getElem? (fun q => ?_)
  rw [flatC_get _ _ (by simp [h]), List.getElem?_set]
  simp only [List.length_set]
  have hlen := flatC_len cs us h
  by_cases hq : q / 6 < cs.length
  · rw [dif_pos hq]
    by_cases hqk : k = q / 6
    · subst hqk
      simp only [List.getElem_set_self]
      rw [hc, List.getElem?_set]
      have hl6 : (cs[q / 6].cells (us[q / 6]'(by omega))).length = 6 := rfl
      by_cases hqi : q % 6 = i
      · rw [if_pos hqi.symm, if_pos (by omega), if_pos (by omega), if_pos (by omega)]
      · rw [if_neg (fun e => hqi e.symm), if_neg (by omega), flatC_get cs us h, dif_pos hq]
    · simp only [List.getElem_set_ne hqk]
      rw [if_neg (by omega), flatC_get cs us h, dif_pos hq]
  · rw [dif_neg hq]
    by_cases hqk : k * 6 + i = q
    · omega
    · rw [if_neg hqk, flatC_get cs us h, dif_neg hq]

/-- A row of changes after its block alone has turned. -/
theorem OwnC.put {B : Nat} {e : TypeId} {w : World} {g n cap : Nat} {cs : List Chg} {us : List Value} (h1 : w.ownsRow B e 6 (.slice (some ⟨g, 0, none⟩) n cap) n (flatC cs us)) (h2 : us.length = cs.length)
    (h3 : ∀ j (h1 : j < us.length) (h2 : j < cs.length), IntsV (fun b => True ∧ some b ≠ some g) w us[j] cs[j].values) {k i : Nat} (hk : k < cs.length) (hi : i < 6) (c' : Chg) (u' x : Value)
    (hc : c'.cells u' = (cs[k].cells (us[k]'(by omega))).set i x) (hu : IntsV (fun b => True ∧ some b ≠ some g) w u' c'.values) :
    (w.setCell ⟨g, k * 6 + i, none⟩ x).ownsRow B e 6 (.slice (some ⟨g, 0, none⟩) n cap) n (flatC (cs.set k c') (us.set k u')) ∧ (us.set k u').length = (cs.set k c').length ∧
      ∀ j (h1 : j < (us.set k u').length) (h2 : j < (cs.set k c').length), IntsV (fun b => True ∧ some b ≠ some g) (w.setCell ⟨g, k * 6 + i, none⟩ x) (us.set k u')[j] (cs.set k c')[j].values := by
  refine ⟨by rw [flatC_set1 cs us h2 hk hi c' u' x hc]; exact ownsRow_setN h1 _ _, by simpa using h2, fun j g1 g2 => ?_⟩
  have hk2 : KeepS (fun b => True ∧ some b ≠ some g) w (w.setCell ⟨g, k * 6 + i, none⟩ x) := fun b hb _ => Below.heap_setCell _ _ _ _ (fun e => hb.2 (by rw [e]))
  by_cases e : k = j
  · subst e
    simp only [List.getElem_set_self]
    exact hu.keep hk2
  · simp only [List.getElem_set_ne e]
    exact (h3 j (by simpa using g1) (by simpa using g2)).keep hk2

/-- One of the first five fields of a change of an owned row is written. -/
theorem OwnC.setInt {B : Nat} {e : TypeId} {w : World} {g n cap : Nat} {cs : List Chg} (h : OwnC (fun _ => True) B e w (.slice (some ⟨g, 0, none⟩) n cap) cs) {k i : Nat} (hk : k < cs.length) (hi : i < 6) (c' : Chg) (x : Value)
    (hc : ∀ u, c'.cells u = (cs[k].cells u).set i x) (hv : c'.values = cs[k].values) :
    OwnC (fun _ => True) B e (w.setCell ⟨g, k * 6 + i, none⟩ x) (.slice (some ⟨g, 0, none⟩) n cap) (cs.set k c') := by
  obtain ⟨us, h1, h2, h3⟩ := h
  have hn : n = cs.length := by
    rcases h1.2 with ⟨q, _⟩ | ⟨_, _, _, q, _⟩
    · cases q
    · cases q; rfl
  subst hn
  obtain ⟨g1, g2, g3⟩ := OwnC.put h1 h2 h3 hk hi c' (us[k]'(by omega)) x (hc _) (by rw [hv]; exact h3 k (by omega) hk)
  exact ⟨_, by rw [List.length_set]; exact g1, g2, g3⟩

/-- The values of a change of an owned row are written. -/
theorem OwnC.setVal {B : Nat} {e : TypeId} {w : World} {g n cap : Nat} {cs : List Chg} (h : OwnC (fun _ => True) B e w (.slice (some ⟨g, 0, none⟩) n cap) cs) {k : Nat} (hk : k < cs.length) (vs : List Int) (x : Value)
    (hx : IntsV (fun b => True ∧ some b ≠ some g) w x vs) :
    OwnC (fun _ => True) B e (w.setCell ⟨g, k * 6 + 5, none⟩ x) (.slice (some ⟨g, 0, none⟩) n cap) (cs.set k { cs[k] with values := vs }) := by
  obtain ⟨us, h1, h2, h3⟩ := h
  have hn : n = cs.length := by
    rcases h1.2 with ⟨q, _⟩ | ⟨_, _, _, q, _⟩
    · cases q
    · cases q; rfl
  subst hn
  obtain ⟨g1, g2, g3⟩ := OwnC.put h1 h2 h3 hk (show 5 < 6 by omega) { cs[k] with values := vs } x x (by simp [Chg.cells]) hx
  exact ⟨_, by rw [List.length_set]; exact g1, g2, g3⟩

/-- A whole change of an owned row is written. -/
theorem OwnC.setAll {B : Nat} {e : TypeId} {w : World} {g n cap : Nat} {cs : List Chg} (h : OwnC (fun _ => True) B e w (.slice (some ⟨g, 0, none⟩) n cap) cs) {k : Nat} (hk : k < cs.length) (c : Chg) (u : Value)
    (hu : IntsV (fun b => True ∧ some b ≠ some g) w u c.values) :
    OwnC (fun _ => True) B e ((((((w.setCell ⟨g, k * 6, none⟩ (.int .i64 c.kind)).setCell ⟨g, k * 6 + 1, none⟩ (.int .i64 c.index)).setCell ⟨g, k * 6 + 2, none⟩ (.int .i64 c.field)).setCell ⟨g, k * 6 + 3, none⟩ (.int .i64 c.old)).setCell ⟨g, k * 6 + 4, none⟩ (.int .i64 c.new)).setCell ⟨g, k * 6 + 5, none⟩ u)
      (.slice (some ⟨g, 0, none⟩) n cap) (cs.set k c) := by
  have h0 := h.setInt (i := 0) hk (by omega) { cs[k] with kind := c.kind } (.int .i64 c.kind) (fun _ => rfl) rfl
  have h1 := h0.setInt (i := 1) (k := k) (by simpa using hk) (by omega) { cs[k] with kind := c.kind, index := c.index } (.int .i64 c.index) (fun _ => by simp [Chg.cells]) (by simp)
  rw [List.set_set] at h1
  have h2 := h1.setInt (i := 2) (k := k) (by simpa using hk) (by omega) { cs[k] with kind := c.kind, index := c.index, field := c.field } (.int .i64 c.field) (fun _ => by simp [Chg.cells]) (by simp)
  rw [List.set_set] at h2
  have h3 := h2.setInt (i := 3) (k := k) (by simpa using hk) (by omega) { cs[k] with kind := c.kind, index := c.index, field := c.field, old := c.old } (.int .i64 c.old) (fun _ => by simp [Chg.cells]) (by simp)
  rw [List.set_set] at h3
  have h4 := h3.setInt (i := 4) (k := k) (by simpa using hk) (by omega) { cs[k] with kind := c.kind, index := c.index, field := c.field, old := c.old, new := c.new } (.int .i64 c.new) (fun _ => by simp [Chg.cells]) (by simp)
  rw [List.set_set] at h4
  have h5 := h4.setVal (k := k) (by simpa using hk) c.values u (hu.keep (fun b hb _ => by
    have e : ∀ (W : World) (p : Nat) (x : Value), (W.setCell ⟨g, p, none⟩ x).heap[b]? = W.heap[b]? := fun W p x => Below.heap_setCell _ _ _ _ (fun e => hb.2 (by rw [e]))
    simp only [e]))
  rw [List.set_set] at h5
  simpa using h5

/-- What lies beside an owned row stays where a whole change of it is written. -/
theorem keep_setAll {w : World} {g p : Nat} {x0 x1 x2 x3 x4 x5 : Value} : KeepS (fun b => True ∧ some b ≠ some g) w ((((((w.setCell ⟨g, p, none⟩ x0).setCell ⟨g, p + 1, none⟩ x1).setCell ⟨g, p + 2, none⟩ x2).setCell ⟨g, p + 3, none⟩ x3).setCell ⟨g, p + 4, none⟩ x4).setCell ⟨g, p + 5, none⟩ x5) := fun b hb _ => by
  have e : ∀ (W : World) (p : Nat) (x : Value), (W.setCell ⟨g, p, none⟩ x).heap[b]? = W.heap[b]? := fun W p x => Below.heap_setCell _ _ _ _ (fun e => hb.2 (by rw [e]))
  simp only [e]

/-- The first changes of an owned row. -/
theorem OwnC.take {S : Nat → Prop} {B : Nat} {e : TypeId} {w : World} {g n cap : Nat} {cs : List Chg} (h : OwnC S B e w (.slice (some ⟨g, 0, none⟩) n cap) cs) {k : Nat} (hk : k ≤ cs.length) :
    OwnC S B e w (.slice (some ⟨g, 0, none⟩) k cap) (cs.take k) := by
  obtain ⟨us, ⟨h1, h2⟩, h3, h4⟩ := h
  have hf : flatC (cs.take k) (us.take k) = (flatC cs us).take (k * 6) := by
    refine List.ext_getElem? (fun q => ?_)
    rw [flatC_get _ _ (by simp [h3]), List.getElem?_take, flatC_get cs us h3]
    simp only [List.length_take, List.getElem_take]
    by_cases hq : q < k * 6
    · rw [if_pos hq]
      by_cases hq2 : q / 6 < cs.length
      · rw [dif_pos (by omega), dif_pos hq2]
      · rw [dif_neg (by omega), dif_neg hq2]
    · rw [if_neg hq, dif_neg (by omega)]
  refine ⟨us.take k, ⟨?_, ?_⟩, by simp [h3], fun j g1 g2 => ?_⟩
  · rw [hf, List.length_take, h1, List.length_take]
    have : k * 6 ≤ cs.length * 6 := Nat.mul_le_mul_right _ hk
    omega
  · rcases h2 with ⟨q, _⟩ | ⟨g', cap', cur, hv, hb, hg, hn, hc, hs, ht⟩
    · cases q
    · cases hv
      have hlk : (cs.take k).length = k := by rw [List.length_take]; omega
      refine .inr ⟨g, cap, cur, by rw [hlk], hb, hg, by omega, hc, hs, ?_⟩
      rw [hf, hlk, ← ht, List.take_take]
      congr 1
      have : k * 6 ≤ cs.length * 6 := Nat.mul_le_mul_right _ hk
      omega
  · simp only [List.getElem_take]
    exact h4 j (by simp at g1; omega) (by simp at g2; omega)

theorem flatC_drop (cs : List Chg) (us : List Value) (h : us.length = cs.length) (k : Nat) : flatC (cs.drop k) (us.drop k) = (flatC cs us).drop (k * 6) := by
  refine List.ext_getElem? (fun q => ?_)
  rw [flatC_get _ _ (by simp [h]), List.getElem?_drop, flatC_get cs us h]
  simp only [List.length_drop, List.getElem_drop]
  have e1 : (k * 6 + q) / 6 = k + q / 6 := by omega
  have e2 : (k * 6 + q) % 6 = q % 6 := by omega
  simp only [e1, e2]
  by_cases hq : q / 6 < cs.length - k
  · rw [dif_pos hq, dif_pos (by omega)]
  · rw [dif_neg hq, dif_neg (by omega)]

/-- What an append of the changes of an owned row from k on asks of it. -/
theorem OwnC.news {S : Nat → Prop} {B : Nat} {e : TypeId} {w : World} {g n cap : Nat} {cs : List Chg} (h : OwnC S B e w (.slice (some ⟨g, 0, none⟩) n cap) cs) (k : Nat) :
    ∃ us' : List Value, us'.length = (cs.drop k).length ∧ (∀ j u, (flatC (cs.drop k) us')[j]? = some u → w.cell? ⟨g, k * 6 + j, none⟩ = some u) ∧ (∀ u ∈ us', u.oneCell' = true) ∧
      ∀ j (h1 : j < us'.length) (h2 : j < (cs.drop k).length), IntsV (fun b => S b ∧ some b ≠ some g) w us'[j] (cs.drop k)[j].values := by
  obtain ⟨us, ⟨h1, h2⟩, h3, h4⟩ := h
  rcases h2 with ⟨q, _⟩ | ⟨g', cap', cur, hv, hb, hg, hn, hc, hs, ht⟩
  · cases q
  · cases hv
    have hi : ∀ j (g1 : j < (us.drop k).length) (g2 : j < (cs.drop k).length), IntsV (fun b => S b ∧ some b ≠ some g) w (us.drop k)[j] (cs.drop k)[j].values := fun j g1 g2 => by
      simp only [List.getElem_drop]
      exact h4 (k + j) (by simp at g1; omega) (by simp at g2; omega)
    refine ⟨us.drop k, by simp [h3], fun j u hu => ?_, fun u hu => ?_, hi⟩
    · rw [flatC_drop cs us h3, List.getElem?_drop] at hu
      rw [cell_of_row w g _ cur e (0, 0) hg, ← hu, ← ht, List.getElem?_take]
      have := (List.getElem?_eq_some_iff.1 hu).1
      rw [if_pos (by rw [h1] at this; omega)]
      simp
    · obtain ⟨j, hj, rfl⟩ := List.getElem_of_mem hu
      obtain ⟨a, cap, e1, _⟩ := hi j hj (by simp at hj ⊢; omega)
      rw [e1]
      rfl

/-- An owned row of at least one change: its slice; a change's cells can be written. -/
theorem OwnC.form6 {S : Nat → Prop} {B : Nat} {e : TypeId} {w : World} {v : Value} {cs : List Chg} (h : OwnC S B e w v cs) (hn : 0 < cs.length) :
    ∃ g cap, v = .slice (some ⟨g, 0, none⟩) cs.length cap ∧ B ≤ g ∧ g < w.heap.size ∧ cs.length ≤ cap ∧ cap ≤ maxLen ∧ ∀ k (hk : k < cs.length), ∃ u, IntsV (fun b => S b ∧ some b ≠ some g) w u cs[k].values ∧ ∀ i, i < 6 → w.cell? ⟨g, k * 6 + i, none⟩ = (cs[k].cells u)[i]? ∧ w.frozen? ⟨g, k * 6 + i, none⟩ = false := by
  obtain ⟨us, h1, h2, h3⟩ := h
  obtain ⟨g, cap, hv, hb, hg, hn, hc, hcell⟩ := ownsRow_form6 h1 hn
  refine ⟨g, cap, hv, hb, hg, hn, hc, fun k hk => ⟨us[k]'(by omega), by have := h3 k (by omega) hk; rw [hv] at this; exact this, fun i hi => ?_⟩⟩
  have hlen := flatC_len cs us h2
  have h4 := hcell (k * 6 + i) (by omega)
  rw [← flatC_at cs us k hk (by omega) i hi, List.getElem?_eq_getElem (by omega)]
  exact h4

end Go.Proofs.Yteepdnamkcgndaa

namespace Go.Proofs.Yteepdnamkcgndaa
open Go.RowKit

/-- Small numbers. -/
def Lil (l : List Int) : Prop := ∀ x ∈ l, -1000 ≤ x ∧ x ≤ 1000
/-- A change of small numbers. -/
structure GoodC (c : Chg) : Prop where
  ints : Lil [c.kind, c.index, c.field, c.old, c.new]
  vals : Lil c.values
  len : c.values.length ≤ 11
def GoodL (cs : List Chg) : Prop := ∀ c ∈ cs, GoodC c

theorem GoodL.set {cs : List Chg} (h : GoodL cs) {k : Nat} {c : Chg} (hc : GoodC c) : GoodL (cs.set k c) := by
  intro d hd
  rcases mem_set hd with rfl | hd
  · exact hc
  · exact h d hd

theorem lil5 {a b c d e : Int} : Lil [a, b, c, d, e] ↔ (-1000 ≤ a ∧ a ≤ 1000) ∧ (-1000 ≤ b ∧ b ≤ 1000) ∧ (-1000 ≤ c ∧ c ≤ 1000) ∧ (-1000 ≤ d ∧ d ≤ 1000) ∧ (-1000 ≤ e ∧ e ≤ 1000) := by
  simp [Lil]

set_option maxRecDepth 100000 in
set_option maxHeartbeats 8000000 in
theorem bent_any (cs : List Chg) (hcs : cs.length ≤ 100000) (hg : GoodL cs) (p1 p2 p3 : Int) (a1 : -9223372036854775808 ≤ p1) (a2 : p1 ≤ 9223372036854775807) (b1 : -9223372036854775808 ≤ p2) (b2 : p2 ≤ 9223372036854775807) (c1 : -9223372036854775808 ≤ p3) (c2 : p3 ≤ 9223372036854775807)
    (u : Value) (S : Nat → Prop) (w : World) (hu : ChV S w u cs) :
    Calls Try.prog 9 #[u, .int .i64 p1, .int .i64 p2, .int .i64 p3] w fun e w' => ∃ x, e = .returned x ∧ ∃ cs', ChV AnyB w' x cs' ∧ cs'.length ≤ cs.length + 1 ∧ GoodL cs' ∧ Below w.heap.size w w' := by
  have hu0 : ChV (· < w.heap.size) w u cs := hu.mono (fun b hb _ => hb)
  obtain ⟨aa, cap, rfl, hok, hcap, hmax⟩ := hu.form
  obtain ⟨-, -, us, hul, hnews, hone, hus⟩ := hu0.news
  have HG := hid hg
  have HN := hid hnews
  have HO := hid hone
  have HUS := hid hus
  clear hu hu0 hnews hone hus hg
  go_enter Try.func9, Try.ntmps9
  go_wp2_with (at_builtin; go_must (refine wpList_appC rfl _ _ rfl Try.app34 rfl (OwnC.nil AnyB w.heap.size 54 w) rfl hok cs us hul rfl HN.out HO.out (fun j h1 h2 => (HUS.out j h1 h2).mono (fun b _ _ => ⟨trivial, fun e => by cases e⟩)) (by simp; omega) (Nat.le_refl _) ?_))
  intro v1 w1 hown ht1
  have hown : OwnC AnyB w.heap.size 54 w1 v1 cs := hown
  have hb1 : Below w.heap.size w w1 := ht1.below (Nat.le_refl _) (fun b hb => by simp [Value.ownBlock] at hb)
  clear ht1 HN HO HUS hul
  have HOW := hid hown
  have H1 := hid hb1
  rcases Nat.eq_zero_or_pos cs.length with h0 | h0
  · obtain rfl : cs = [] := List.eq_nil_of_length_eq_zero h0
    obtain ⟨av, cv, rfl, -⟩ := hown.sl.form
    simp only [List.length_nil] at HOW hok hcap ⊢
    clear hown hb1
    have hn := around_lt p3 5 (by omega)
    go_wp2_with fail
    refine (around_any p3 5 _ c1 c2 (by omega) (by omega)).mono ?_
    rintro e w' ⟨rfl, rfl⟩
    generalize around p3 5 = n at *
    go_wp2_with (at_builtin; go_must (refine wpList_appC1 rfl _ _ rfl Try.app34 rfl HOW.out rfl ⟨0, 0, n - 3, 0, 0, []⟩ (.slice none 0 0) rfl rfl (SlV.nil _ _ _) (by simp) H1.out.size ?_))
    intro v2 w2 hown2 ht2
    have hv2 := ChV.mono (S' := AnyB) hown2.sl (fun _ _ _ => trivial)
    obtain ⟨av2, lv2, cv2, rfl⟩ : ∃ a l c, v2 = .slice a l c := by obtain ⟨a, c, e, _⟩ := hv2.form; exact ⟨_, _, _, e⟩
    have HV2 := hid hv2
    have hb2 : Below w.heap.size w w2 := H1.out.trans (ht2.below H1.out.size (fun b hb => (HOW.out.lt b hb).1))
    have HB2 := hid hb2
    clear hown2 ht2 hv2 hb2
    go_wp2
    go_ret
    exact ⟨_, rfl, _, HV2.out, by simp, fun c hc => by
      obtain rfl := List.mem_singleton.1 hc
      exact ⟨lil5.2 (by simp only; omega), fun x hx => by simp at hx, by simp⟩, HB2.out⟩
  · obtain ⟨g, cg, rfl, hgB, hgw, hcg1, hcg2, hcell⟩ := hown.form6 h0
    clear hown hb1
    have hk := around_lt p1 cs.length (by omega)
    have hne : ((cs.length : Int) == 0) = false := beqF (by omega)
    go_wp2_with fail
    refine (around_any p1 cs.length _ a1 a2 (by omega) (by omega)).mono ?_
    rintro e w' ⟨rfl, rfl⟩
    generalize around p1 cs.length = kz at *
    obtain ⟨k, rfl⟩ := Int.eq_ofNat_of_zero_le hk.1
    have hkl : k < cs.length := by omega
    have hn6 := around_lt p3 6 (by omega)
    go_wp2_with fail
    refine (around_any p3 6 _ c1 c2 (by omega) (by omega)).mono ?_
    rintro e w' ⟨rfl, rfl⟩
    have hh := around_lt p2 9 (by omega)
    generalize hnn : around p3 6 = n at *
    have HN := hid hnn
    clear hnn
    go_wp2_with fail
    refine (around_any p2 9 _ b1 b2 (by omega) (by omega)).mono ?_
    rintro e w' ⟨rfl, rfl⟩
    generalize around p2 9 = hw at *
    obtain ⟨u, hu, hc6⟩ := hcell k hkl
    obtain ⟨x0, f0⟩ := hc6 0 (by omega)
    obtain ⟨x1, f1⟩ := hc6 1 (by omega)
    obtain ⟨x2, f2⟩ := hc6 2 (by omega)
    obtain ⟨x3, f3⟩ := hc6 3 (by omega)
    obtain ⟨x4, f4⟩ := hc6 4 (by omega)
    obtain ⟨x5, f5⟩ := hc6 5 (by omega)
    simp only [Chg.cells, List.getElem?_cons_zero, List.getElem?_cons_succ, Nat.add_zero] at x0 x1 x2 x3 x4 x5 f0 f1 f2 f3 f4 f5
    have HU := hid hu
    have HC := hid hcell
    clear hcell hc6 hu
    obtain ⟨au, lu, cu, rfl⟩ : ∃ a l c, u = .slice a l c := by obtain ⟨a, c, e, _⟩ := HU.out.form; exact ⟨_, _, _, e⟩
    have HS : Hid (∀ (i : Nat) (c' : Chg) (x : Value), i < 6 → (∀ u, c'.cells u = (cs[k].cells u).set i x) → c'.values = cs[k].values → GoodC c' →
        ChV AnyB (w1.setCell ⟨g, k * 6 + i, none⟩ x) (.slice (some ⟨g, 0, none⟩) cs.length cg) (cs.set k c') ∧ (cs.set k c').length ≤ cs.length + 1 ∧ GoodL (cs.set k c') ∧ Below w.heap.size w (w1.setCell ⟨g, k * 6 + i, none⟩ x)) := hid (fun i c' x hi h1 h2 h3 => by
      have h4 := HOW.out.setInt (i := i) hkl hi c' x h1 h2
      have h5 := ChV.mono (S' := AnyB) h4.sl (fun _ _ _ => trivial)
      exact ⟨h5, by simp, HG.out.set h3, H1.out.setCell (by simpa using hgB) _⟩)
    have HG1 := hid (HG.out _ (List.getElem_mem hkl))
    have hk0 : (0 : Int) ≤ k := by omega
    have hk1 : (k : Int) < cs.length := by omega
    have hcase : hw = 0 ∨ hw = 1 ∨ hw = 2 ∨ hw = 3 ∨ hw = 4 ∨ hw = 5 ∨ hw = 6 ∨ hw = 7 ∨ hw = 8 := by omega
    rcases hcase with rfl | rfl | rfl | rfl | rfl | rfl | rfl | rfl | rfl
    · have K := hid (HS.out 0 { cs[k] with kind := n - 2 } (.int .i64 (n - 2)) (by omega) (fun _ => rfl) rfl ⟨lil5.2 (by have := lil5.1 HG1.out.ints; simp only; omega), HG1.out.vals, HG1.out.len⟩)
      go_wp2
      go_ret
      exact ⟨_, rfl, _, K.out⟩
    · have K := hid (HS.out 1 { cs[k] with index := n - 2 } (.int .i64 (n - 2)) (by omega) (fun _ => rfl) rfl ⟨lil5.2 (by have := lil5.1 HG1.out.ints; simp only; omega), HG1.out.vals, HG1.out.len⟩)
      go_wp2
      go_ret
      exact ⟨_, rfl, _, K.out⟩
    · have K := hid (HS.out 2 { cs[k] with field := n - 2 } (.int .i64 (n - 2)) (by omega) (fun _ => rfl) rfl ⟨lil5.2 (by have := lil5.1 HG1.out.ints; simp only; omega), HG1.out.vals, HG1.out.len⟩)
      go_wp2
      go_ret
      exact ⟨_, rfl, _, K.out⟩
    · have K := hid (HS.out 3 { cs[k] with old := n - 2 } (.int .i64 (n - 2)) (by omega) (fun _ => rfl) rfl ⟨lil5.2 (by have := lil5.1 HG1.out.ints; simp only; omega), HG1.out.vals, HG1.out.len⟩)
      go_wp2
      go_ret
      exact ⟨_, rfl, _, K.out⟩
    · have K := hid (HS.out 4 { cs[k] with new := n - 2 } (.int .i64 (n - 2)) (by omega) (fun _ => rfl) rfl ⟨lil5.2 (by have := lil5.1 HG1.out.ints; simp only; omega), HG1.out.vals, HG1.out.len⟩)
      go_wp2
      go_ret
      exact ⟨_, rfl, _, K.out⟩
    · have HV : Hid (∀ (A : Obj) (N z : Nat), N = w1.heap.size + 1 → z ≤ 11 → ChV AnyB (((w1.setCell ⟨g, k * 6 + 5, none⟩ (.slice (some ⟨N, 0, none⟩) z z)).alloc A).alloc (.cells (zeroCells z) 3)) (.slice (some ⟨g, 0, none⟩) cs.length cg) (cs.set k { cs[k] with values := List.replicate z 0 }) ∧
          (cs.set k { cs[k] with values := List.replicate z 0 }).length ≤ cs.length + 1 ∧ GoodL (cs.set k { cs[k] with values := List.replicate z 0 }) ∧ Below w.heap.size w (((w1.setCell ⟨g, k * 6 + 5, none⟩ (.slice (some ⟨N, 0, none⟩) z z)).alloc A).alloc (.cells (zeroCells z) 3))) := hid (fun A N z hN hz => by
        subst hN
        rw [← World.setCell_alloc_past _ _ _ _ hgw, ← World.setCell_alloc_past _ _ _ _ (by simp; omega)]
        have hb2 : Below w1.heap.size w1 ((w1.alloc A).alloc (.cells (zeroCells z) 3)) := ((Below.refl _ _).alloc (Nat.le_refl _) _).alloc (by simp) _
        have h1 := made_zero (w1.alloc A) z (by omega)
        have e1 : (w1.alloc A).heap.size = w1.heap.size + 1 := by simp
        rw [e1] at h1
        have h4 := (HOW.out.below hb2).setVal hkl (List.replicate z 0) _ (h1.sl.mono (fun b _ hb => ⟨trivial, fun e => by have := Option.some.inj e; omega⟩))
        refine ⟨ChV.mono (S' := AnyB) h4.sl (fun _ _ _ => trivial), by simp, HG.out.set ⟨HG1.out.ints, fun x hx => ?_, by simp; omega⟩, (H1.out.trans (hb2.mono H1.out.size)).setCell (by simpa using hgB) _⟩
        simp only [List.mem_replicate] at hx
        omega)
      have hn : n = 0 ∨ n = 1 ∨ n = 2 ∨ n = 3 ∨ n = 4 ∨ n = 5 := by omega
      rcases hn with rfl | rfl | rfl | rfl | rfl | rfl
      · have hmk : ∀ W : World, (Instr.makeSlice 22 (.int .i64 0) (.int .i64 0)).run Try.prog W = .ok (.slice (some ⟨W.heap.size, 0, none⟩) 0 0) (W.alloc (.cells (zeroCells 0) 3)) := fun W => run_mkZero (P := Try.prog) (t := 22) (e := 3) (b := 8) (by kernel_rfl) (by kernel_rfl) (by omega) 0 (by omega) W
        have K := hid (fun A N hN => HV.out A N 0 hN (by omega))
        go_wp2_with fail
        refine (around_any p3 6 _ c1 c2 (by omega) (by omega)).mono ?_
        rintro e w' ⟨rfl, rfl⟩
        rw [HN.out]
        go_wp2
        go_ret
        exact ⟨_, rfl, _, K.out _ _ (by simp)⟩
      · have hmk : ∀ W : World, (Instr.makeSlice 22 (.int .i64 1) (.int .i64 1)).run Try.prog W = .ok (.slice (some ⟨W.heap.size, 0, none⟩) 1 1) (W.alloc (.cells (zeroCells 1) 3)) := fun W => run_mkZero (P := Try.prog) (t := 22) (e := 3) (b := 8) (by kernel_rfl) (by kernel_rfl) (by omega) 1 (by omega) W
        have K := hid (fun A N hN => HV.out A N 1 hN (by omega))
        go_wp2_with fail
        refine (around_any p3 6 _ c1 c2 (by omega) (by omega)).mono ?_
        rintro e w' ⟨rfl, rfl⟩
        rw [HN.out]
        go_wp2
        go_ret
        exact ⟨_, rfl, _, K.out _ _ (by simp)⟩
      · have hmk : ∀ W : World, (Instr.makeSlice 22 (.int .i64 2) (.int .i64 2)).run Try.prog W = .ok (.slice (some ⟨W.heap.size, 0, none⟩) 2 2) (W.alloc (.cells (zeroCells 2) 3)) := fun W => run_mkZero (P := Try.prog) (t := 22) (e := 3) (b := 8) (by kernel_rfl) (by kernel_rfl) (by omega) 2 (by omega) W
        have K := hid (fun A N hN => HV.out A N 2 hN (by omega))
        go_wp2_with fail
        refine (around_any p3 6 _ c1 c2 (by omega) (by omega)).mono ?_
        rintro e w' ⟨rfl, rfl⟩
        rw [HN.out]
        go_wp2
        go_ret
        exact ⟨_, rfl, _, K.out _ _ (by simp)⟩
      · have hmk : ∀ W : World, (Instr.makeSlice 22 (.int .i64 3) (.int .i64 3)).run Try.prog W = .ok (.slice (some ⟨W.heap.size, 0, none⟩) 3 3) (W.alloc (.cells (zeroCells 3) 3)) := fun W => run_mkZero (P := Try.prog) (t := 22) (e := 3) (b := 8) (by kernel_rfl) (by kernel_rfl) (by omega) 3 (by omega) W
        have K := hid (fun A N hN => HV.out A N 3 hN (by omega))
        go_wp2_with fail
        refine (around_any p3 6 _ c1 c2 (by omega) (by omega)).mono ?_
        rintro e w' ⟨rfl, rfl⟩
        rw [HN.out]
        go_wp2
        go_ret
        exact ⟨_, rfl, _, K.out _ _ (by simp)⟩
      · have hmk : ∀ W : World, (Instr.makeSlice 22 (.int .i64 10) (.int .i64 10)).run Try.prog W = .ok (.slice (some ⟨W.heap.size, 0, none⟩) 10 10) (W.alloc (.cells (zeroCells 10) 3)) := fun W => run_mkZero (P := Try.prog) (t := 22) (e := 3) (b := 8) (by kernel_rfl) (by kernel_rfl) (by omega) 10 (by omega) W
        have K := hid (fun A N hN => HV.out A N 10 hN (by omega))
        go_wp2_with fail
        refine (around_any p3 6 _ c1 c2 (by omega) (by omega)).mono ?_
        rintro e w' ⟨rfl, rfl⟩
        rw [HN.out]
        go_wp2
        go_ret
        exact ⟨_, rfl, _, K.out _ _ (by simp)⟩
      · have hmk : ∀ W : World, (Instr.makeSlice 22 (.int .i64 11) (.int .i64 11)).run Try.prog W = .ok (.slice (some ⟨W.heap.size, 0, none⟩) 11 11) (W.alloc (.cells (zeroCells 11) 3)) := fun W => run_mkZero (P := Try.prog) (t := 22) (e := 3) (b := 8) (by kernel_rfl) (by kernel_rfl) (by omega) 11 (by omega) W
        have K := hid (fun A N hN => HV.out A N 11 hN (by omega))
        go_wp2_with fail
        refine (around_any p3 6 _ c1 c2 (by omega) (by omega)).mono ?_
        rintro e w' ⟨rfl, rfl⟩
        rw [HN.out]
        go_wp2
        go_ret
        exact ⟨_, rfl, _, K.out _ _ (by simp)⟩
    · have hk2 : (k : Int) ≤ cg := by omega
      have hk3 : (k : Int) + 1 ≤ cs.length := by omega
      go_wp2
      refine wp_region_quiet_tail 7 (by kernel_rfl) (by kernel_rfl) ?_
      simp only [List.take_succ_cons, List.take_zero, List.drop_succ_cons, List.drop_zero]
      repeat (go_big_quiet_step (fail))
      refine wpQuiet_nil ?_
      obtain ⟨us', e1, e2, e3, e4⟩ := HOW.out.news (k + 1)
      have E2 := hid e2
      have E3 := hid e3
      have E4 := hid e4
      have hb2 : Below w1.heap.size w1 (w1.drewN 1) := below_drewN (Below.refl _ _) 1
      have hlen : (cs.drop (k + 1)).length = cs.length - (k + 1) := List.length_drop
      have htk : (cs.take k).length = k := by rw [List.length_take]; omega
      obtain ⟨o', ho, hoo⟩ : ∃ o', (if cg = k + 1 then (some ⟨g, 0, none⟩ : Option Addr) else some ⟨g, (k + 1) * 6, none⟩) = some ⟨g, o', none⟩ ∧ (cs.length = k + 1 ∨ o' = (k + 1) * 6) := by
        split
        · exact ⟨0, rfl, .inl (by omega)⟩
        · exact ⟨_, rfl, .inr rfl⟩
      have hnw : ∀ j u, (flatC (cs.drop (k + 1)) us')[j]? = some u → (w1.drewN 1).cell? ⟨g, o' + j, none⟩ = some u := fun j u hu => by
        rcases hoo with hoo | rfl
        · have h5 := (List.getElem?_eq_some_iff.1 hu).1
          rw [flatC_len _ _ e1, hlen] at h5
          omega
        · exact cell_later hb2 (e2 j u hu)
      have HNW := hid hnw
      clear e2 e3 e4 hoo hnw
      simp only [ho]
      go_wp2_with (at_builtin; go_must (refine wpList_appC rfl _ _ rfl Try.app34 rfl ((HOW.out.take (show k ≤ cs.length by omega)).below hb2) rfl (fun _ => ⟨_, _, rfl⟩) (cs.drop (k + 1)) us' e1 hlen HNW.out E3.out (fun j h1 h2 => (E4.out j h1 h2).keep (KeepS.below hb2)) (by omega) H1.out.size ?_))
      intro v2 w2 hown2 ht2
      have hv2 := ChV.mono (S' := AnyB) hown2.sl (fun _ _ _ => trivial)
      obtain ⟨av2, lv2, cv2, rfl⟩ : ∃ a l c, v2 = .slice a l c := by obtain ⟨a, c, e, _⟩ := hv2.form; exact ⟨_, _, _, e⟩
      have HV2 := hid hv2
      have hb3 : Below w.heap.size w w2 := (H1.out.trans (hb2.mono H1.out.size)).trans (ht2.below (by have := hb2.size; have := H1.out.size; omega) (fun b hb => by obtain rfl := (Option.some.inj hb : b = g); exact hgB))
      have HB2 := hid hb3
      clear hown2 ht2 hv2 hb3
      go_wp2
      go_ret
      exact ⟨_, rfl, _, HV2.out, by simp; omega, fun c hc => by
        rcases List.mem_append.1 hc with hc | hc
        · exact HG.out c (List.mem_of_mem_take hc)
        · exact HG.out c (List.mem_of_mem_drop hc), HB2.out⟩
    · go_wp2_with (at_builtin; go_must (refine wpList_appC1 rfl _ _ rfl Try.app34 rfl HOW.out rfl cs[k] (.slice au lu cu) rfl rfl HU.out (by omega) H1.out.size ?_))
      intro v2 w2 hown2 ht2
      have hv2 := ChV.mono (S' := AnyB) hown2.sl (fun _ _ _ => trivial)
      obtain ⟨av2, lv2, cv2, rfl⟩ : ∃ a l c, v2 = .slice a l c := by obtain ⟨a, c, e, _⟩ := hv2.form; exact ⟨_, _, _, e⟩
      have HV2 := hid hv2
      have hb2 : Below w.heap.size w w2 := H1.out.trans (ht2.below H1.out.size (fun b hb => (HOW.out.lt b hb).1))
      have HB2 := hid hb2
      clear hown2 ht2 hv2 hb2
      go_wp2
      go_ret
      exact ⟨_, rfl, _, HV2.out, by simp, fun c hc => by
        rcases List.mem_append.1 hc with hc | hc
        · exact HG.out c hc
        · rw [List.mem_singleton.1 hc]; exact HG1.out, HB2.out⟩
    · by_cases hlast : k + 1 < cs.length
      · obtain ⟨u', hu', hc6⟩ := HC.out (k + 1) hlast
        obtain ⟨au', lu', cu', rfl⟩ : ∃ a l c, u' = .slice a l c := by obtain ⟨a, c, e, _⟩ := hu'.form; exact ⟨_, _, _, e⟩
        obtain ⟨y0, q0⟩ := hc6 0 (by omega)
        obtain ⟨y1, q1⟩ := hc6 1 (by omega)
        obtain ⟨y2, q2⟩ := hc6 2 (by omega)
        obtain ⟨y3, q3⟩ := hc6 3 (by omega)
        obtain ⟨y4, q4⟩ := hc6 4 (by omega)
        obtain ⟨y5, q5⟩ := hc6 5 (by omega)
        simp only [Chg.cells, List.getElem?_cons_zero, List.getElem?_cons_succ, Nat.add_zero] at y0 y1 y2 y3 y4 y5 q0 q1 q2 q3 q4 q5
        have hl' : decide ((k : Int) + 1 < cs.length) = true := decide_eq_true (by omega)
        have hl1 : (k : Int) + 1 < cs.length := by omega
        have hl0 : (0 : Int) ≤ (k : Int) + 1 := by omega
        clear hc6
        have h1 := HOW.out.setAll hkl cs[k + 1] (.slice au' lu' cu') hu'
        have h2 := h1.setAll (k := k + 1) (by simpa using hlast) cs[k] (.slice au lu cu) (HU.out.keep keep_setAll)
        have K1 : Hid (GoodL ((cs.set k cs[k + 1]).set (k + 1) cs[k])) := hid ((HG.out.set (HG.out _ (List.getElem_mem hlast))).set HG1.out)
        have K2 := hid h2
        clear h1 h2 hu'
        go_wp2
        go_ret
        have hz : ∀ {W : World}, Below w.heap.size w W → ∀ p x, Below w.heap.size w (W.setCell ⟨g, p, none⟩ x) := fun h p x => h.setCell (by simpa using hgB) x
        have ha : ∀ {W : World}, Below w.heap.size w W → ∀ o, Below w.heap.size w (W.alloc o) := fun h o => h.alloc h.size o
        refine ⟨_, rfl, _, ChV.mono (S' := AnyB) (OwnC.below K2.out ((Below.refl _ _).alloc (Nat.le_refl _) _)).sl (fun _ _ _ => trivial), by simp, K1.out, ha (hz (hz (hz (hz (hz (hz (hz (hz (hz (hz (hz (hz H1.out _ _) _ _) _ _) _ _) _ _) _ _) _ _) _ _) _ _) _ _) _ _) _ _) _⟩
      · have hl' : decide ((k : Int) + 1 < cs.length) = false := decide_eq_false (by omega)
        have K := hid (ChV.mono (S' := AnyB) HOW.out.sl (fun _ _ _ => trivial))
        go_wp2
        go_ret
        exact ⟨_, rfl, cs, K.out, by omega, HG.out, H1.out⟩

end Go.Proofs.Yteepdnamkcgndaa

namespace Go.Proofs.Yteepdnamkcgndaa
open Go.RowKit

/-- Records of small numbers. -/
def Tin (a : Rows1) : Prop := a.length ≤ 6 ∧ ∀ r ∈ a, r.length ≤ 10 ∧ ∀ x ∈ r, 0 ≤ x ∧ x < 3

theorem Tin.row {a : Rows1} (h : Tin a) (i : Nat) : (a.getD i []).length ≤ 10 ∧ ∀ x ∈ a.getD i [], 0 ≤ x ∧ x < 3 := by
  rcases getD_mem_or (xs := a) (i := i) (d := []) with h1 | h1
  · exact h.2 _ h1
  · rw [h1]; exact ⟨by simp, fun x hx => by simp at hx⟩
theorem Tin.val {a : Rows1} (h : Tin a) (i k : Nat) : 0 ≤ (a.getD i []).getD k 0 ∧ (a.getD i []).getD k 0 < 3 := by
  rcases getD_mem_or (xs := a.getD i []) (i := k) (d := 0) with h1 | h1
  · exact (h.row i).2 _ h1
  · rw [h1]; omega

theorem listL_good {kind : Int} {a b : Rows1} {m : Nat} (hk : 0 ≤ kind ∧ kind ≤ 100) (ha : Tin a) (hb : Tin b) (hm : m ≤ a.length) : GoodL (listL kind a b m) := by
  intro c hc
  have ha6 := ha.1
  have hb6 := hb.1
  have hrow : ∀ {a : Rows1}, Tin a → ∀ i, Lil (a.getD i []) ∧ (a.getD i []).length ≤ 11 := fun h i =>
    ⟨fun x hx => by have := (h.row i).2 x hx; omega, by have := (h.row i).1; omega⟩
  unfold listL at hc
  rcases List.mem_append.1 hc with hc | hc
  · rcases List.mem_append.1 hc with hc | hc
    · unfold sets at hc
      obtain ⟨i, hi, hc⟩ := List.mem_flatMap.1 hc
      have hi := List.mem_range.1 hi
      unfold setR at hc
      obtain ⟨k, hk2, hc⟩ := List.mem_filterMap.1 hc
      have hk2 := List.mem_range.1 hk2
      unfold setAt at hc
      split at hc
      · cases hc
      · cases hc
        have h1 := ha.val i k
        have h2 := hb.val i k
        have h3 := (ha.row i).1
        exact ⟨lil5.2 (by simp only; omega), fun x hx => by simp at hx, by simp⟩
    · unfold takes at hc
      obtain ⟨i, hi, rfl⟩ := List.mem_map.1 hc
      have hi := List.mem_range.1 hi
      exact ⟨lil5.2 (by simp only [takeC]; omega), (hrow ha _).1, (hrow ha _).2⟩
  · unfold adds at hc
    obtain ⟨i, hi, rfl⟩ := List.mem_map.1 hc
    have hi := List.mem_range.1 hi
    exact ⟨lil5.2 (by simp only [addC]; omega), (hrow hb _).1, (hrow hb _).2⟩

theorem ShapeW.tin {s : List Int} {W : List Rows1} (h : ShapeW s W) (hs : ShapeOk s) {k : Nat} (hk : k < W.length) : Tin W[k] := by
  obtain ⟨h1, h2⟩ := h.2 k hk
  refine ⟨h1, fun r hr => ⟨?_, (h2 r hr).2⟩⟩
  have h3 := (h2 r hr).1
  have h4 : s.getD k 0 ∈ s := by rw [getD_eq (by have := h.1; omega)]; exact List.getElem_mem _
  have h5 := hs.2 _ h4
  omega

theorem diffC_good {s : List Int} {A B : List Rows1} (hA : ShapeW s A) (hB : ShapeW s B) (hs : ShapeOk s) : GoodL (diffC A B) := by
  intro c hc
  unfold diffC at hc
  split at hc
  · unfold diffL at hc
    obtain ⟨k, hk, hc⟩ := List.mem_flatMap.1 hc
    have hkA : k < A.length := List.mem_range.1 hk
    have hkB : k < B.length := by have := hA.1; have := hB.1; omega
    have h1 := hA.1
    have h2 := hs.1
    rw [getD_eq hkA, getD_eq hkB, (kindDiff_eq _ _ _).1] at hc
    exact listL_good (by omega) (hA.tin hs hkA) (hB.tin hs hkB) (kindDiff_eq (k : Int) _ _).2.1 c hc
  · cases hc

theorem turnL_good {cs : List Chg} (h : GoodL cs) : GoodL (turnL cs) := by
  intro c hc
  unfold turnL at hc
  rw [List.mem_reverse] at hc
  obtain ⟨d, hd, rfl⟩ := List.mem_map.1 hc
  have h1 := h d hd
  have h2 := lil5.1 h1.ints
  refine ⟨lil5.2 ?_, h1.vals, h1.len⟩
  unfold turnC
  simp only
  split
  · omega
  · split <;> omega
theorem GoodL.append {cs ds : List Chg} (h1 : GoodL cs) (h2 : GoodL ds) : GoodL (cs ++ ds) := by
  intro c hc
  rcases List.mem_append.1 hc with h | h
  · exact h1 c h
  · exact h2 c h
theorem GoodL.values {cs : List Chg} (h : GoodL cs) : ∀ c ∈ cs, c.values.length ≤ 100000 := fun c hc => by have := (h c hc).len; omega

theorem diff_tri {A B C : List Rows1} (h1 : diffOk A B) (h2 : diffOk B C) : (diffC A C).length ≤ (diffC A B).length + (diffC B C).length := by
  have := diff_fewest (Run.append (diff_leads h1) (diff_leads h2))
  rw [List.length_append] at this
  exact this

theorem applyL_small {V W : List Rows1} {cs : List Chg} (h : applyL V cs = (0, W)) (hcs : cs.length ≤ 10000) : Small W := by
  obtain ⟨h1, h2, h3⟩ := applyL_ok h
  have h4 := h1.mid.run h2
  have h5 := h1.2.1
  refine ⟨by rw [h4.2.1]; omega, fun rows hr => ⟨by have := h4.2.2 rows hr; omega, fun r hr' => ?_⟩⟩
  have := (h4.1 rows hr r hr').2.1
  omega

/-- An empty row that was just made. -/
theorem OwnC.empty (S : Nat → Prop) (B : Nat) (e : TypeId) (w : World) (N : Nat) (hN : N = w.heap.size) (hB : B ≤ w.heap.size) : OwnC S B e (w.alloc (.cells #[] e)) (.slice (some ⟨N, 0, none⟩) 0 0) [] := by
  subst hN
  exact ⟨[], ⟨rfl, .inr ⟨w.heap.size, 0, #[], rfl, hB, World.alloc_heap_new _ _, Nat.le_refl _, by unfold maxLen; omega, rfl, rfl⟩⟩, rfl, fun j h => absurd h (by simp)⟩

end Go.Proofs.Yteepdnamkcgndaa
