/- The plain law of changes: the way back, and the fewest changes. -/
import Derived.Test.YtagnjhhbbjbhcaaLaw
namespace Go.Proofs.Ytagnjhhbbjbhcaa
open Go.RowKit

theorem shaped_even {W : List Rows1} (h : ShapedW W) {rows : Rows1} (hr : rows ∈ W) : EvenR rows := fun r hr' => by
  have := shaped_kind h hr
  exact ⟨(this.2 r hr').2.1, (this.2 r hr').1, (this.2 r hr').2.2⟩

theorem listL_kind {kind : Int} {a b : Rows1} {m : Nat} : ∀ c ∈ listL kind a b m, c.kind = kind := by
  intro c hc
  unfold listL at hc
  rcases List.mem_append.1 hc with hc | hc
  · rcases List.mem_append.1 hc with hc | hc
    · unfold sets at hc
      obtain ⟨i, _, hc⟩ := List.mem_flatMap.1 hc
      unfold setR at hc
      obtain ⟨k, _, hc⟩ := List.mem_filterMap.1 hc
      unfold setAt at hc
      split at hc
      · cases hc
      · cases hc; rfl
    · unfold takes at hc
      obtain ⟨i, _, rfl⟩ := List.mem_map.1 hc
      rfl
  · unfold adds at hc
    obtain ⟨i, _, rfl⟩ := List.mem_map.1 hc
    rfl

/-- **Leads.** -/
theorem diff_run {A B : List Rows1} (h : diffOk A B) : ∀ n, n ≤ A.length → Run A (diffL A B n) (mix B A n)
  | 0, _ => by
    have e : diffL A B 0 = [] := by unfold diffL; simp
    rw [e, mix_zero]
    exact Run.nil A
  | n + 1, hn => by
    have ih := diff_run h n (by omega)
    have hA : n < A.length := by omega
    have hB : n < B.length := by have := h.2.2.1; omega
    rw [diffL_succ]
    refine Run.append ih ?_
    have hm := mix_len (xs := B) (ys := A) (n := n) (by omega) (by omega)
    have hk := kindDiff_eq (n : Int) A[n] B[n]
    rw [getD_eq hA, getD_eq hB, hk.1, ← mix_set hB hA]
    refine RunR.lift (a := A[n]) (by omega) (mix_ge (by omega) (by omega) (Nat.le_refl _) (by omega)) listL_kind ?_
    have hf := h.2.2.2 n hA
    rw [getD_eq hA, getD_eq hB] at hf
    exact list_run (shaped_even h.1 (List.getElem_mem hA)) (shaped_even h.2.1 (List.getElem_mem hB)) hf hk.2.1 hk.2.2

theorem diff_leads {A B : List Rows1} (h : diffOk A B) : Run A (diffC A B) B := by
  have := diff_run h A.length (Nat.le_refl _)
  rw [mix_all h.2.2.1.symm] at this
  unfold diffC
  rw [if_pos h]
  exact this

/-- A change turned around. -/
def turnC (c : Chg) : Chg := ⟨c.kind, c.index, if c.field = -1 then -2 else if c.field = -2 then -1 else c.field, c.new, c.old, c.values⟩
def turnL (cs : List Chg) : List Chg := (cs.map turnC).reverse

theorem back_one {a : Rows1} {c : Chg} (ha : EvenR a) (h : fitsR a c) : fitsR (doR a c) (turnC c) ∧ doR (doR a c) (turnC c) = a := by
  obtain ⟨k, i, f, o, nw, vs⟩ := c
  obtain ⟨hf, h⟩ := h
  rcases h with ⟨h1, h2, h3⟩ | ⟨h1, h2, h3, h4, h5⟩ | ⟨h1, h2, h3, h4, h5⟩
  · simp only at h1 h2 h3
    subst h1 h3
    obtain ⟨rfl, rfl, hv1, hv2⟩ := formed_inv hf (by decide)
    have hd : doR a ⟨k, a.length, -1, 0, 0, vs⟩ = a ++ [vs] := rfl
    rw [hd]
    have hh : ((a ++ [vs]).headD []).length = vs.length := by
      cases a with
      | nil => rfl
      | cons x xs => exact (h2 (by simp)).symm
    refine ⟨⟨formed_neg (f := -2) (by decide) hv1 hv2, .inr (.inl ⟨rfl, by simp, hh.symm, by simp [turnC], ?_⟩)⟩, ?_⟩
    · simp only [turnC, Int.toNat_natCast]
      rw [getD_eq (by simp)]
      simp
    · unfold doR turnC
      simp only
      rw [if_pos trivial, if_neg (by decide), if_pos rfl, Int.toNat_natCast]
      simp
  · simp only at h1 h2 h3 h4 h5
    subst h1
    obtain ⟨rfl, rfl, hv1, hv2⟩ := formed_inv hf (by decide)
    obtain ⟨p, hp⟩ : ∃ p, a.length = p + 1 := ⟨a.length - 1, by omega⟩
    obtain rfl : i = (p : Int) := by omega
    simp only [Int.toNat_natCast] at h5
    have hd : doR a ⟨k, p, -2, 0, 0, vs⟩ = a.take p := by unfold doR; simp only; rw [if_neg (by decide), if_pos trivial, Int.toNat_natCast]
    rw [hd]
    have e1 : turnC ⟨k, p, -2, 0, 0, vs⟩ = ⟨k, p, -1, 0, 0, vs⟩ := rfl
    rw [e1]
    refine ⟨⟨formed_neg (by decide) hv1 hv2, .inl ⟨rfl, fun h0 => ?_, by simp only [List.length_take]; omega⟩⟩, ?_⟩
    · rw [List.length_take] at h0
      rw [headD_take (by omega)]
      exact h3
    · unfold doR
      simp only
      rw [if_pos trivial, ← h5, getD_eq (by omega), ← List.take_succ_eq_append_getElem (by omega), ← hp, List.take_length]
  · simp only at h1 h2 h3 h4 h5
    have n1 : ¬ f = -1 := by omega
    have n2 : ¬ f = -2 := by omega
    have hi : i.toNat < a.length := by omega
    have hr := ha _ (List.getElem_mem hi)
    have hg : a.getD i.toNat [] = a[i.toNat] := getD_eq hi
    rw [hg] at h5
    have hfl : f.toNat < a[i.toNat].length := by omega
    have hd : doR a ⟨k, i, f, o, nw, vs⟩ = a.set i.toNat (a[i.toNat].set f.toNat nw) := by unfold doR; simp only; rw [if_neg n1, if_neg n2, hg]
    rw [hd]
    have e1 : turnC ⟨k, i, f, o, nw, vs⟩ = ⟨k, i, f, nw, o, vs⟩ := by unfold turnC; simp only; rw [if_neg n1, if_neg n2]
    rw [e1]
    have hg2 : (a.set i.toNat (a[i.toNat].set f.toNat nw)).getD i.toNat [] = a[i.toNat].set f.toNat nw := by rw [getD_eq (by simpa using hi)]; simp
    refine ⟨⟨by unfold FormedC at hf ⊢; simp only at hf ⊢; rw [if_pos h1] at hf ⊢; exact hf, .inr (.inr ⟨h1, h2, by simpa using h3, ?_, ?_⟩)⟩, ?_⟩
    · show f < _
      rw [headD_eq [] (show 0 < (a.set i.toNat (a[i.toNat].set f.toNat nw)).length by rw [List.length_set]; omega)]
      rw [headD_eq [] (show 0 < a.length by omega)] at h4
      by_cases h0 : i.toNat = 0
      · rw [List.getElem_set, if_pos h0, List.length_set]; simp only [h0]; exact h4
      · rw [List.getElem_set, if_neg h0]; exact h4
    · simp only
      rw [hg2, getD_eq (by simpa using hfl)]
      simp
    · unfold doR
      simp only
      rw [if_neg n1, if_neg n2, hg2, List.set_set, List.set_set, ← h5, getD_eq hfl, List.set_getElem_self, List.set_getElem_self]

theorem doC_eq (V : List Rows1) (c : Chg) : doC V c = V.set c.kind.toNat (doR (rowsC V c) c) := rfl

/-- **The way back.** -/
theorem run_back : ∀ {cs : List Chg} {l n : Nat} {V W : List Rows1}, MidW l n V → Run V cs W → Run W (turnL cs) V
  | [], _, _, V, W, _, h => by
    have e : V = W := congrArg Prod.snd h
    subst e; exact Run.nil V
  | c :: cs, l, n, V, W, hV, h => by
    obtain ⟨hf, h2⟩ := h.inv
    have hV1 := hV.step hf
    have ih := run_back hV1 h2
    have e : turnL (c :: cs) = turnL cs ++ [turnC c] := by unfold turnL; simp
    rw [e]
    refine Run.append ih ?_
    have hkn := fits_known hf
    have hkl : c.kind.toNat < V.length := by have := hkn.1; have := hkn.2; omega
    have hr : rowsC V c = V[c.kind.toNat] := getD_eq hkl
    have hev : EvenR (rowsC V c) := by rw [hr]; exact hV.1 _ (List.getElem_mem hkl)
    obtain ⟨b1, b2⟩ := back_one hev ((fits_iff hkn).1 hf)
    have hr2 : rowsC (doC V c) (turnC c) = doR (rowsC V c) c := by
      show (doC V c).getD c.kind.toNat [] = _
      rw [doC_eq, getD_eq (by simpa using hkl)]
      simp
    have hkn2 : KnownC (doC V c) (turnC c) := ⟨hkn.1, by rw [doC_eq, List.length_set]; exact hkn.2⟩
    have hd : doC (doC V c) (turnC c) = V := by
      rw [doC_eq, hr2, b2, doC_eq, hr]
      show (V.set c.kind.toNat _).set c.kind.toNat _ = V
      rw [List.set_set, List.set_getElem_self]
    refine Run.cons ((fits_iff hkn2).2 (by rw [hr2]; exact b1)) ?_
    rw [hd]
    exact Run.nil V

theorem ShapedW.mid {V : List Rows1} (h : ShapedW V) : MidW V.length 512 V := ⟨h.even, rfl, fun rows hr => (shaped_kind h hr).1⟩

theorem MidW.run : ∀ {cs : List Chg} {l n : Nat} {V W : List Rows1}, MidW l n V → Run V cs W → MidW l (n + cs.length) W
  | [], l, n, V, W, hV, h => by
    have e : V = W := congrArg Prod.snd h
    subst e; exact hV
  | c :: cs, l, n, V, W, hV, h => by
    have := MidW.run (hV.step h.inv.1) h.inv.2
    rw [List.length_cons, show n + (cs.length + 1) = n + 1 + cs.length by omega]
    exact this

/-- What Apply returns behind a run. -/
theorem applyL_run {V W : List Rows1} {cs : List Chg} (hV : ShapedW V) (hcs : cs.length ≤ 8192) (h : Run V cs W) (ht : total W ≤ 512) : applyL V cs = (0, W) := by
  unfold applyL
  unfold Run at h
  rw [if_neg (fun q => q hV), if_neg (by omega), h]
  simp only
  rw [if_neg (by simp), if_neg (by omega)]
theorem applyL_ok {V W : List Rows1} {cs : List Chg} (h : applyL V cs = (0, W)) : ShapedW V ∧ Run V cs W ∧ total W ≤ 512 := by
  unfold applyL at h
  split at h
  · exact absurd (congrArg Prod.fst h) (by first | (show ¬ (2 : Int) = 0; decide) | (show ¬ (4 : Int) = 0; decide))
  · rename_i h1
    split at h
    · exact absurd (congrArg Prod.fst h) (by first | (show ¬ (2 : Int) = 0; decide) | (show ¬ (4 : Int) = 0; decide))
    · split at h
      · rename_i h2; exact absurd (congrArg Prod.fst h) h2
      · split at h
        · exact absurd (congrArg Prod.fst h) (by first | (show ¬ (2 : Int) = 0; decide) | (show ¬ (4 : Int) = 0; decide))
        · rename_i h3
          have hv : ShapedW V := by
            by_cases q : ShapedW V
            · exact q
            · exact absurd q h1
          rw [h] at h3
          exact ⟨hv, h, by simp only at h3; omega⟩

/-! ### The fewest -/

theorem bestM_min {kind : Int} {a b : Rows1} {m : Nat} : ∀ n, m ≤ n → (bestM kind a b n).length ≤ (listL kind a b m).length
  | 0, h => by
    obtain rfl : m = 0 := by omega
    exact Nat.le_refl _
  | n + 1, h => by
    unfold bestM
    by_cases e : m = n + 1
    · subst e
      split
      · exact Nat.le_refl _
      · omega
    · have := bestM_min (kind := kind) (a := a) (b := b) n (show m ≤ n by omega)
      split
      · omega
      · exact this

theorem cost_le {kind : Int} {a b : Rows1} {m : Nat} (h1 : m ≤ a.length) (h2 : m ≤ b.length) : (kindDiff kind a b).length ≤ setsN a b m + a.length + b.length - 2 * m := by
  rw [← listL_length h1 h2 (kind := kind)]
  exact bestM_min _ (by omega)
theorem cost_eq (kind : Int) (a b : Rows1) : ∃ m, m ≤ a.length ∧ m ≤ b.length ∧ (kindDiff kind a b).length = setsN a b m + a.length + b.length - 2 * m := by
  obtain ⟨h1, h2, h3⟩ := kindDiff_eq kind a b
  exact ⟨sameL a b, h2, h3, by rw [h1, listL_length h2 h3]⟩

def cnt (r s : List Int) (n : Nat) : Nat := ((List.range n).filterMap (setAt 0 0 r s)).length
theorem cnt_succ (r s : List Int) (n : Nat) : cnt r s (n + 1) = cnt r s n + (if r.getD n 0 = s.getD n 0 then 0 else 1) := by
  unfold cnt
  rw [List.range_succ, List.filterMap_append, List.length_append]
  congr 1
  by_cases h : r.getD n 0 = s.getD n 0
  · have e : setAt 0 0 r s n = none := by unfold setAt; rw [if_pos h]
    rw [if_pos h, List.filterMap_cons, e]; rfl
  · have e : setAt 0 0 r s n = some ⟨0, 0, n, r.getD n 0, s.getD n 0, []⟩ := by unfold setAt; rw [if_neg h]
    rw [if_neg h, List.filterMap_cons, e]; rfl
theorem setsN_cnt (a b : Rows1) (m : Nat) : setsN a b (m + 1) = setsN a b m + cnt (a.getD m []) (b.getD m []) (a.getD m []).length := setsN_succ a b m
theorem setsN_zero (a b : Rows1) : setsN a b 0 = 0 := rfl

theorem setsN_congr {a b b' : Rows1} : ∀ m, (∀ i, i < m → b.getD i [] = b'.getD i []) → setsN a b m = setsN a b' m
  | 0, _ => rfl
  | m + 1, h => by rw [setsN_cnt, setsN_cnt, setsN_congr m (fun i hi => h i (by omega)), h m (by omega)]

theorem cnt_set (r s : List Int) (f : Nat) (v : Int) : ∀ n, cnt r (s.set f v) n ≤ cnt r s n + (if f < n then 1 else 0)
  | 0 => by simp [cnt]
  | n + 1 => by
    have ih := cnt_set r s f v n
    rw [cnt_succ, cnt_succ]
    by_cases e : f = n
    · subst e
      rw [if_neg (Nat.lt_irrefl _)] at ih
      have h1 : (if r.getD f 0 = (s.set f v).getD f 0 then 0 else 1) ≤ 1 := by split <;> omega
      generalize (if r.getD f 0 = (s.set f v).getD f 0 then 0 else 1) = q1 at *
      generalize (if r.getD f 0 = s.getD f 0 then 0 else 1) = q2 at *
      rw [if_pos (Nat.lt_succ_self _)]
      omega
    · have hg : (s.set f v).getD n 0 = s.getD n 0 := by
        rw [List.getD_eq_getElem?_getD, List.getD_eq_getElem?_getD, List.getElem?_set_ne e]
      rw [hg]
      generalize (if r.getD n 0 = s.getD n 0 then 0 else 1) = q at *
      by_cases h : f < n
      · rw [if_pos h] at ih; rw [if_pos (by omega)]; omega
      · rw [if_neg h] at ih; rw [if_neg (by omega)]; omega

theorem setsN_set {a b : Rows1} {i f : Nat} {v : Int} : ∀ m, setsN a (b.set i ((b.getD i []).set f v)) m ≤ setsN a b m + (if i < m then 1 else 0)
  | 0 => by simp [setsN_zero]
  | m + 1 => by
    have ih := setsN_set (a := a) (b := b) (i := i) (f := f) (v := v) m
    rw [setsN_cnt, setsN_cnt]
    by_cases e : i = m
    · subst e
      rw [if_neg (Nat.lt_irrefl _)] at ih
      rw [if_pos (Nat.lt_succ_self _)]
      by_cases hi : i < b.length
      · have hg : (b.set i ((b.getD i []).set f v)).getD i [] = (b.getD i []).set f v := by rw [getD_eq (by simpa using hi)]; simp
        rw [hg]
        have := cnt_set (a.getD i []) (b.getD i []) f v (a.getD i []).length
        split at this <;> omega
      · rw [List.set_eq_of_length_le (by omega)] at ih ⊢
        omega
    · have hg : (b.set i ((b.getD i []).set f v)).getD m [] = b.getD m [] := by
        simp only [List.getD_eq_getElem?_getD, List.getElem?_set_ne e]
      rw [hg]
      by_cases h : i < m
      · rw [if_pos h] at ih; rw [if_pos (by omega)]; omega
      · rw [if_neg h] at ih; rw [if_neg (by omega)]; omega

theorem setsN_mono (a b : Rows1) (m : Nat) : setsN a b m ≤ setsN a b (m + 1) := by rw [setsN_cnt]; omega

/-- One change makes the way at most one change longer. -/
theorem cost_step {kind : Int} {a b : Rows1} {c : Chg} (h : fitsR b c) : (kindDiff kind a (doR b c)).length ≤ (kindDiff kind a b).length + 1 := by
  obtain ⟨m, h1, h2, h3⟩ := cost_eq kind a b
  obtain ⟨-, h⟩ := h
  rcases h with ⟨e1, e2, e3⟩ | ⟨e1, e2, e3, e4, e5⟩ | ⟨e1, e2, e3, e4, e5⟩
  · have hd : doR b c = b ++ [c.values] := by unfold doR; rw [if_pos e1]
    rw [hd]
    have := cost_le (kind := kind) (a := a) (b := b ++ [c.values]) (m := m) h1 (by simp; omega)
    rw [← setsN_congr (b := b) m (fun i hi => by rw [getD_eq (by omega), getD_eq (by simp; omega), List.getElem_append_left (by omega)])] at this
    simp only [List.length_append, List.length_singleton] at this
    omega
  · have hi : c.index.toNat = b.length - 1 := by omega
    have hd : doR b c = b.take (b.length - 1) := by unfold doR; rw [if_neg (by omega), if_pos e1, hi]
    rw [hd]
    by_cases hm : m ≤ b.length - 1
    · have := cost_le (kind := kind) (a := a) (b := b.take (b.length - 1)) (m := m) h1 (by simp; omega)
      rw [← setsN_congr (b := b) m (fun i hi => by rw [getD_eq (by omega), getD_eq (by simp; omega), List.getElem_take])] at this
      simp only [List.length_take] at this
      omega
    · obtain ⟨q, rfl⟩ : ∃ q, m = q + 1 := ⟨m - 1, by omega⟩
      have := cost_le (kind := kind) (a := a) (b := b.take (b.length - 1)) (m := q) (by omega) (by simp; omega)
      rw [← setsN_congr (b := b) q (fun i hi => by rw [getD_eq (by omega), getD_eq (by simp; omega), List.getElem_take])] at this
      simp only [List.length_take] at this
      have h5 := setsN_mono a b q
      omega
  · have hd : doR b c = b.set c.index.toNat ((b.getD c.index.toNat []).set c.field.toNat c.new) := by unfold doR; rw [if_neg (by omega), if_neg (by omega)]
    rw [hd]
    have := cost_le (kind := kind) (a := a) (b := b.set c.index.toNat ((b.getD c.index.toNat []).set c.field.toNat c.new)) (m := m) h1 (by simpa using h2)
    have h5 := setsN_set (a := a) (b := b) (i := c.index.toNat) (f := c.field.toNat) (v := c.new) m
    simp only [List.length_set] at this
    split at h5 <;> omega

theorem diffL_step {A V : List Rows1} {k : Nat} {R : Rows1} (h : ∀ kind : Int, (kindDiff kind (A.getD k []) R).length ≤ (kindDiff kind (A.getD k []) (V.getD k [])).length + 1) (hk : k < V.length) : ∀ n, (diffL A (V.set k R) n).length ≤ (diffL A V n).length + (if k < n then 1 else 0)
  | 0 => by simp [diffL]
  | n + 1 => by
    have ih := diffL_step h hk n
    rw [diffL_succ, diffL_succ, List.length_append, List.length_append]
    by_cases e : k = n
    · subst e
      have hg : (V.set k R).getD k [] = R := by rw [getD_eq (by simpa using hk)]; simp
      rw [if_neg (Nat.lt_irrefl _)] at ih
      rw [if_pos (Nat.lt_succ_self _), hg]
      have := h k
      omega
    · have hg : (V.set k R).getD n [] = V.getD n [] := by
        rw [List.getD_eq_getElem?_getD, List.getD_eq_getElem?_getD, List.getElem?_set_ne e]
      rw [hg]
      by_cases h2 : k < n
      · rw [if_pos h2] at ih; rw [if_pos (by omega)]; omega
      · rw [if_neg h2] at ih; rw [if_neg (by omega)]; omega

theorem fewest_run {A : List Rows1} : ∀ {cs : List Chg} {V W : List Rows1}, Run V cs W → (diffL A W A.length).length ≤ (diffL A V A.length).length + cs.length
  | [], V, W, h => by
    have e : V = W := congrArg Prod.snd h
    subst e; omega
  | c :: cs, V, W, h => by
    obtain ⟨hf, h2⟩ := h.inv
    have ih := fewest_run (A := A) h2
    have hkn := fits_known hf
    have hkl : c.kind.toNat < V.length := by have := hkn.1; have := hkn.2; omega
    have h3 := diffL_step (A := A) (V := V) (k := c.kind.toNat) (R := doR (rowsC V c) c) (fun kind => cost_step ((fits_iff hkn).1 hf)) hkl A.length
    rw [← doC_eq] at h3
    rw [List.length_cons]
    split at h3 <;> omega

theorem cost_self (kind : Int) (a : Rows1) : kindDiff kind a a = [] := by
  have h := cost_le (kind := kind) (a := a) (b := a) (m := a.length) (Nat.le_refl _) (Nat.le_refl _)
  have h2 : ∀ m, setsN a a m = 0 := by
    intro m
    induction m with
    | zero => rfl
    | succ m ih =>
      rw [setsN_cnt, ih]
      have : ∀ (r : List Int) n, cnt r r n = 0 := fun r n => by
        induction n with
        | zero => rfl
        | succ n ih => rw [cnt_succ, ih, if_pos rfl]
      rw [this]
  rw [h2] at h
  exact List.eq_nil_of_length_eq_zero (by omega)

theorem diffL_self (A : List Rows1) : ∀ n, diffL A A n = []
  | 0 => by simp [diffL]
  | n + 1 => by rw [diffL_succ, diffL_self A n, cost_self]; rfl

/-- **Fewest.** -/
theorem diff_fewest {A W : List Rows1} {cs : List Chg} (h : Run A cs W) : (diffC A W).length ≤ cs.length := by
  unfold diffC
  split
  · have := fewest_run (A := A) h
    rw [diffL_self, List.length_nil, Nat.zero_add] at this
    exact this
  · simp

theorem diffC_self (A : List Rows1) : diffC A A = [] := by
  unfold diffC
  split
  · exact diffL_self A _
  · rfl

theorem fitsK_symm {a b : Rows1} (h : fitsK a b) : fitsK b a := fun h1 h2 => (h h2 h1).symm
theorem diffOk_symm {A B : List Rows1} (h : diffOk A B) : diffOk B A :=
  ⟨h.2.1, h.1, h.2.2.1.symm, fun k hk => fitsK_symm (h.2.2.2 k (by have := h.2.2.1; omega))⟩
/-- Both ways take as many changes. -/
theorem diff_len_symm {A B : List Rows1} (h : diffOk A B) : (diffC A B).length = (diffC B A).length := by
  have h1 := diff_fewest (run_back h.1.mid (diff_leads h))
  have h2 := diff_fewest (run_back h.2.1.mid (diff_leads (diffOk_symm h)))
  unfold turnL at h1 h2
  simp only [List.length_reverse, List.length_map] at h1 h2
  omega

end Go.Proofs.Ytagnjhhbbjbhcaa
