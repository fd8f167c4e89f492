/- What a run of changes keeps; a world that is made of empty kinds. -/
import Derived.Test.YtagnjhhbbjbhcaaPApply7
import Derived.Laws.MakeOwn
namespace Go.Proofs.Ytagnjhhbbjbhcaa
open Go.RowKit

/-- A world between two changes: even records, at most n of a kind. -/
def MidW (l n : Nat) (V : List (List (List Int))) : Prop := EvenW V ∧ V.length = l ∧ ∀ rows ∈ V, rows.length ≤ n

theorem mem_set {α : Type} {xs : List α} {i : Nat} {x y : α} (h : y ∈ xs.set i x) : y = x ∨ y ∈ xs := by
  rcases List.mem_or_eq_of_mem_set h with h | h
  · exact .inr h
  · exact .inl h

theorem MidW.step {l n : Nat} {V : List (List (List Int))} (h : MidW l n V) {c : Chg} (hf : fitsE V c = 0) : MidW l (n + 1) (doC V c) := by
  obtain ⟨h1, h2, h3⟩ := h
  unfold fitsE at hf
  split at hf
  · exact absurd hf (by decide)
  rename_i hn
  have hfm : FormedC c := by
    by_cases h : FormedC c
    · exact h
    · exact absurd (.inl h) hn
  have hnm : ¬ MisC V c := fun h => hn (.inr h)
  split at hf
  · exact absurd hf (by decide)
  rename_i hk
  have hkc : KnownC V c := by
    by_cases h : KnownC V c
    · exact h
    · exact absurd h hk
  have hkl : c.kind.toNat < V.length := by have := hkc.1; have := hkc.2; omega
  have hrows : rowsC V c = V[c.kind.toNat] := getD_eq hkl
  have hmem : rowsC V c ∈ V := by rw [hrows]; exact List.getElem_mem hkl
  have hev := h1 _ hmem
  have hlen := h3 _ hmem
  -- the new kind
  have key : ∀ R : List (List Int), (∀ r ∈ R, 1 ≤ r.length ∧ r.length ≤ 10 ∧ r.length = (R.headD []).length) → R.length ≤ n + 1 → MidW l (n + 1) (V.set c.kind.toNat R) := by
    intro R hR hRl
    refine ⟨fun rows hr => ?_, by simpa using h2, fun rows hr => ?_⟩
    · rcases mem_set hr with rfl | hr
      · exact hR
      · exact h1 rows hr
    · rcases mem_set hr with rfl | hr
      · exact hRl
      · have := h3 rows hr; omega
  unfold doC
  by_cases e1 : c.field = -1
  · rw [if_pos e1]
    have hv : 1 ≤ c.values.length ∧ c.values.length ≤ 10 := by
      have h := hfm; unfold FormedC at h; rw [if_neg (by omega)] at h; exact h.2.2.2
    refine key _ (fun r hr => ?_) (by rw [List.length_append, List.length_singleton]; omega)
    rcases Nat.eq_zero_or_pos (rowsC V c).length with h0 | h0
    · have h00 : rowsC V c = [] := List.eq_nil_of_length_eq_zero h0
      rw [h00] at hr ⊢
      simp at hr
      subst hr
      exact ⟨hv.1, hv.2, rfl⟩
    · have hhd : ((rowsC V c ++ [c.values]).headD []) = (rowsC V c).headD [] := by
        generalize rowsC V c = R at h0
        cases R with
        | nil => simp at h0
        | cons x xs => rfl
      rw [hhd]
      rcases List.mem_append.1 hr with hr | hr
      · exact hev r hr
      · rw [List.mem_singleton.1 hr]
        refine ⟨hv.1, hv.2, ?_⟩
        by_cases h : c.values.length = ((rowsC V c).headD []).length
        · exact h
        · exact absurd ⟨by omega, hkc, h0, h⟩ hnm
  · rw [if_neg e1]
    by_cases e2 : c.field = -2
    · rw [if_pos e2]
      refine key _ (fun r hr => ?_) (by rw [List.length_take]; omega)
      have hhd : ((rowsC V c).take c.index.toNat).headD [] = (rowsC V c).headD [] := by
        generalize c.index.toNat = q at hr
        generalize rowsC V c = R at hr
        cases q with
        | zero => simp at hr
        | succ q => cases R with
          | nil => rfl
          | cons x xs => rfl
      rw [hhd]
      exact hev r (List.mem_of_mem_take hr)
    · rw [if_neg e2]
      rw [if_neg e1, if_neg e2] at hf
      split at hf
      · exact absurd hf (by decide)
      rename_i hi
      have hil : c.index.toNat < (rowsC V c).length := by omega
      have hq := hev _ (List.getElem_mem hil)
      rw [getD_eq hil]
      have hhd : (((rowsC V c).set c.index.toNat ((rowsC V c)[c.index.toNat].set c.field.toNat c.new)).headD []).length = ((rowsC V c).headD []).length := by
        rw [headD_eq [] (show 0 < ((rowsC V c).set c.index.toNat ((rowsC V c)[c.index.toNat].set c.field.toNat c.new)).length by rw [List.length_set]; omega), headD_eq [] (show 0 < (rowsC V c).length by omega)]
        by_cases h0 : c.index.toNat = 0
        · simp [h0]
        · rw [List.getElem_set_ne h0]
      refine key _ (fun r hr => ?_) (by rw [List.length_set]; omega)
      rw [hhd]
      rcases mem_set hr with rfl | hr
      · simp only [List.length_set]; exact hq
      · exact hev r hr

theorem total_mul {n : Nat} : ∀ V : List (List (List Int)), (∀ rows ∈ V, rows.length ≤ n) → total V ≤ n * V.length
  | [], _ => by simp [total]
  | r :: V, h3 => by
    have h1 := total_mul V (fun x hx => h3 x (List.mem_cons_of_mem _ hx))
    have h2 := h3 r (List.mem_cons_self ..)
    unfold total at h1 ⊢
    rw [List.map_cons, List.sum_cons, List.length_cons, Nat.mul_add, Nat.mul_one]
    omega
theorem MidW.total {l n : Nat} {V : List (List (List Int))} (h : MidW l n V) : total V ≤ n * l := by
  obtain ⟨-, h2, h3⟩ := h
  subst h2
  exact total_mul V h3

/-- The cells of n nil slices. -/
def nilCells (n : Nat) : Array Value := (List.replicate n (.slice none 0 0)).toArray
theorem madeCells_nil (n : Nat) : madeCells (Value.slice none 0 0).cells (n * 1) = nilCells n := by
  apply Array.ext
  · simp [madeCells, nilCells]
  · intro i h1 h2
    simp [madeCells, nilCells, Value.cells, Nat.mod_one]

/-- 'make(T, n)' of elements that are nil slices. -/
theorem run_mkNil {P : Program} {t e : TypeId} {b : Nat} (ht : P.underlying t = some (.slice e)) (hi : (P.info? e).map (fun i => (i.zero, i.size, i.bytes)) = some (some (.slice none 0 0), 1, b)) (hb : b ≤ 1000)
    (n : Nat) (hn : n ≤ 1000000) (w : World) :
    (Instr.makeSlice t (.int .i64 (n : Int)) (.int .i64 (n : Int))).run P w = .ok (.slice (some ⟨w.heap.size, 0, none⟩) n n) (w.alloc (.cells (nilCells n) e)) := by
  obtain ⟨i, h1, h2, h3, h4⟩ := info_parts hi
  have hy : (i.bytes : Int) * (n : Int) ≤ 281474976710656 := by
    have h : i.bytes * n ≤ 1000 * 1000000 := Nat.mul_le_mul (by omega) hn
    have : ((i.bytes * n : Nat) : Int) ≤ 281474976710656 := by omega
    rwa [Int.natCast_mul] at this
  have hr := run_make (P := P) w t e i (.slice none 0 0) ht h1 h2 .i64 .i64 (n : Int) (n : Int) (by omega) (by omega) hy (by omega)
  rw [h3, Int.toNat_natCast, madeCells_nil] at hr
  exact hr

theorem made_worldF (w : World) (n : Nat) (hn : n ≤ 1000000) : WorldF (w.heap.size ≤ ·) (w.alloc (.cells (nilCells n) 63)) (.slice (some ⟨w.heap.size, 0, none⟩) n n) (List.replicate n []) := by
  refine ⟨fun b hb => by simp [Value.ownBlock] at hb; omega, List.replicate n (.slice none 0 0), fun _ => 0, ?_, by simp, fun j h1 h2 => ?_⟩
  · rw [List.length_replicate]
    refine ⟨by simp, .inr ⟨w.heap.size, n, nilCells n, rfl, Nat.zero_le _, heap_alloc_new w _, Nat.le_refl _, by unfold maxLen; omega, by simp [nilCells], ?_⟩⟩
    simp [nilCells]
  · simp only [List.getElem_replicate]
    exact OwnF.nil _ _ _ _

end Go.Proofs.Ytagnjhhbbjbhcaa
