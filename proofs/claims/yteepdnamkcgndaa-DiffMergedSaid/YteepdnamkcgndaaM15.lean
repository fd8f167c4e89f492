/- Plain laws for join and Merge of the program. -/
import Derived.Test.YteepdnamkcgndaaM9
import Derived.Lib.SlicesCompact
namespace Go.Proofs.Yteepdnamkcgndaa
open Go.RowKit

theorem compact_inv (d : Array Int) (n : Nat) (hs : ∀ i j, i ≤ j → j < n → d[i]! ≤ d[j]!) : ∀ m, m ≤ n → (Lib.compactUpTo d m).Pairwise (· < ·) ∧ (∀ x ∈ Lib.compactUpTo d m, ∃ j, j < m ∧ d[j]! = x) ∧ ∀ j, j < m → d[j]! ∈ Lib.compactUpTo d m
  | 0, _ => ⟨by simp [Lib.compactUpTo], fun x h => by simp [Lib.compactUpTo] at h, fun j h => by omega⟩
  | m + 1, hm => by
    obtain ⟨h1, h2, h3⟩ := compact_inv d n hs m (by omega)
    rw [Lib.compactUpTo_succ]
    by_cases hk : Lib.keeps d m = true
    · rw [if_pos hk]
      have hlt : ∀ x ∈ Lib.compactUpTo d m, x < d[m]! := fun x hx => by
        obtain ⟨j, hj, rfl⟩ := h2 x hx
        unfold Lib.keeps at hk
        rw [decide_eq_true_eq] at hk
        have g1 := hs j (m - 1) (by omega) (by omega)
        have g2 := hs (m - 1) m (by omega) (by omega)
        rcases hk with hk | hk
        · omega
        · have : d[m]! ≠ d[m - 1]! := hk
          omega
      refine ⟨List.pairwise_append.2 ⟨h1, by simp, fun a ha b hb => ?_⟩, fun x hx => ?_, fun j hj => ?_⟩
      · rw [List.mem_singleton.1 hb]; exact hlt a ha
      · rcases List.mem_append.1 hx with hx | hx
        · obtain ⟨j, hj, e⟩ := h2 x hx
          exact ⟨j, by omega, e⟩
        · exact ⟨m, by omega, (List.mem_singleton.1 hx).symm⟩
      · by_cases e : j = m
        · subst e; simp
        · exact List.mem_append.2 (.inl (h3 j (by omega)))
    · rw [if_neg hk, List.append_nil]
      refine ⟨h1, fun x hx => ?_, fun j hj => ?_⟩
      · obtain ⟨j, hj, e⟩ := h2 x hx
        exact ⟨j, by omega, e⟩
      · by_cases e : j = m
        · subst e
          unfold Lib.keeps at hk
          rw [decide_eq_true_eq, not_or] at hk
          have : d[j]! = d[j - 1]! := by
            by_cases h : d[j]! = d[j - 1]!
            · exact h
            · exact absurd h hk.2
          rw [this]
          exact h3 _ (by have := hk.1; omega)
        · exact h3 j (by omega)
theorem compact_sorted (zs : List Int) (h : zs.Pairwise (· ≤ ·)) : (Lib.compact zs).Pairwise (· < ·) ∧ ∀ x, x ∈ Lib.compact zs ↔ x ∈ zs := by
  have hg : ∀ j (h : j < zs.length), zs.toArray[j]! = zs[j] := fun j hj => by simp [getElem!_pos, hj]
  obtain ⟨h1, h2, h3⟩ := compact_inv zs.toArray zs.length (fun i j hij hj => by
    rw [hg i (by omega), hg j hj]
    by_cases e : i = j
    · subst e; exact Int.le_refl _
    · exact List.pairwise_iff_getElem.1 h i j (by omega) hj (by omega)) zs.length (Nat.le_refl _)
  refine ⟨h1, fun x => ⟨fun hx => ?_, fun hx => ?_⟩⟩
  · obtain ⟨j, hj, e⟩ := h2 x hx
    rw [hg j hj] at e
    rw [← e]; exact List.getElem_mem _
  · obtain ⟨j, hj, rfl⟩ := List.getElem_of_mem hx
    have := h3 j hj
    rw [hg j hj] at this
    exact this
theorem sortInt (zs : List Int) : (zs.mergeSort fun x y => decide (x ≤ y)).Pairwise (· ≤ ·) ∧ ∀ x, x ∈ (zs.mergeSort fun x y => decide (x ≤ y)) ↔ x ∈ zs := by
  refine ⟨?_, fun x => List.mem_mergeSort⟩
  have := List.pairwise_mergeSort (le := fun x y : Int => decide (x ≤ y)) (fun a b c h1 h2 => by simp at *; omega) (fun a b => by simp; omega) zs
  exact this.imp (fun h => by simpa using h)

/-! join. -/
theorem newS_snoc {us bs : List Chg} {k : Nat} (hk : k < bs.length) : Mer.newS us (bs.take (k + 1)) = Mer.newS us (bs.take k) ++ (if (us.find? (Mer.placeEq bs[k])).isNone = true then [bs[k]] else []) := by
  unfold Mer.newS
  rw [← take_snoc hk, List.filter_append]
  congr 1
  by_cases h : (us.find? (Mer.placeEq bs[k])).isNone = true
  · rw [if_pos h, List.filter_cons, if_pos h]; rfl
  · rw [if_neg h, List.filter_cons, if_neg h]; rfl
theorem okS_snoc {us bs : List Chg} {k : Nat} (hk : k < bs.length) (h : Mer.okS us (bs.take k) = true) (h2 : ∀ d, us.find? (Mer.placeEq bs[k]) = some d → bs[k] = d) : Mer.okS us (bs.take (k + 1)) = true := by
  unfold Mer.okS at h ⊢
  rw [← take_snoc hk, List.all_append, h, Bool.true_and]
  rw [List.all_cons, List.all_nil, Bool.and_true]
  cases hf : us.find? (Mer.placeEq bs[k]) with
  | none => rfl
  | some d => exact decide_eq_true (h2 d hf)
theorem okS_bad {us bs : List Chg} {k : Nat} (hk : k < bs.length) {d : Chg} (hf : us.find? (Mer.placeEq bs[k]) = some d) (hne : bs[k] ≠ d) : Mer.okS us bs = false := by
  rw [Bool.eq_false_iff]
  intro h
  have := List.all_eq_true.1 h bs[k] (List.getElem_mem hk)
  rw [hf] at this
  exact hne (of_decide_eq_true this)
theorem newS_len (us bs : List Chg) : (Mer.newS us bs).length ≤ bs.length := List.length_filter_le _ _
theorem newS_good {us bs : List Chg} (h : GoodL bs) : GoodL (Mer.newS us bs) := fun c hc => h c (List.mem_filter.1 hc).1

theorem lastK_below {S R : List Chg} (hs : S.Pairwise Mer.leS) (hg : GoodL S) : lastK S R = true ↔ Mer.belowJ S R := by
  unfold lastK
  split
  · rename_i h0
    rw [decide_eq_true_eq, leastL_lt]
    constructor
    · rintro ⟨-, h⟩ s hsm r hr
      obtain ⟨i, hi, rfl⟩ := List.getElem_of_mem hsm
      have h1 := h r hr
      by_cases e : i = S.length - 1
      · subst e; exact h1
      · have := List.pairwise_iff_getElem.1 hs i (S.length - 1) hi (by omega) (by omega)
        unfold Mer.leS at this
        omega
    · intro h
      have hm := List.getElem_mem (show S.length - 1 < S.length by omega)
      exact ⟨by have := (lil5.1 (hg _ hm).ints).2.1; omega, fun r hr => h _ hm r hr⟩
  · rename_i h0
    obtain rfl : S = [] := List.eq_nil_of_length_eq_zero (by omega)
    exact ⟨fun _ s h => by simp at h, fun _ => rfl⟩

end Go.Proofs.Yteepdnamkcgndaa
