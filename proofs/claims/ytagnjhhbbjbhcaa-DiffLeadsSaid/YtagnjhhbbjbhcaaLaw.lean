/- The plain law of changes, in lists: what a run of changes leads to, its way back, and the fewest changes. -/
import Derived.Test.YtagnjhhbbjbhcaaApTool
import Derived.Test.YtagnjhhbbjbhcaaPSame
namespace Go.Proofs.Ytagnjhhbbjbhcaa
open Go.RowKit

abbrev Rows1 := List (List Int)

/-- The changes lead from a world to another one. -/
def Run (V : List Rows1) (cs : List Chg) (W : List Rows1) : Prop := runC V cs = (0, W)
theorem Run.nil (V : List Rows1) : Run V [] V := rfl
theorem Run.cons {V W : List Rows1} {c : Chg} {cs : List Chg} (hf : fitsE V c = 0) (h : Run (doC V c) cs W) : Run V (c :: cs) W := by
  unfold Run
  rw [runC, if_neg (fun h => h hf)]
  exact h
theorem Run.inv {V W : List Rows1} {c : Chg} {cs : List Chg} (h : Run V (c :: cs) W) : fitsE V c = 0 ∧ Run (doC V c) cs W := by
  unfold Run at h
  rw [runC] at h
  by_cases hf : fitsE V c = 0
  · rw [if_neg (fun h => h hf)] at h; exact ⟨hf, h⟩
  · rw [if_pos hf] at h
    exact absurd (congrArg Prod.fst h) hf
theorem Run.append : ∀ {cs : List Chg} {V W : List Rows1} {ds : List Chg} {X : List Rows1}, Run V cs W → Run W ds X → Run V (cs ++ ds) X
  | [], V, W, ds, X, h, h2 => by
    have e : V = W := congrArg Prod.snd h
    subst e; exact h2
  | c :: cs, V, W, ds, X, h, h2 => Run.cons h.inv.1 (Run.append h.inv.2 h2)

/-- A change fits the records of its kind. -/
def fitsR (a : Rows1) (c : Chg) : Prop :=
  FormedC c ∧ ((c.field = -1 ∧ (0 < a.length → c.values.length = (a.headD []).length) ∧ c.index = a.length) ∨
    (c.field = -2 ∧ 0 < a.length ∧ c.values.length = (a.headD []).length ∧ c.index = (a.length : Int) - 1 ∧ a.getD c.index.toNat [] = c.values) ∨
    (0 ≤ c.field ∧ 0 ≤ c.index ∧ c.index < a.length ∧ c.field < (a.headD []).length ∧ (a.getD c.index.toNat []).getD c.field.toNat 0 = c.old))
/-- The records behind it. -/
def doR (a : Rows1) (c : Chg) : Rows1 :=
  if c.field = -1 then a ++ [c.values] else if c.field = -2 then a.take c.index.toNat else a.set c.index.toNat ((a.getD c.index.toNat []).set c.field.toNat c.new)

theorem formed_neg {k i f : Int} {vs : List Int} (hf : f = -1 ∨ f = -2) (h1 : 1 ≤ vs.length) (h2 : vs.length ≤ 10) : FormedC ⟨k, i, f, 0, 0, vs⟩ := by
  unfold FormedC
  show if (0 : Int) ≤ f then _ else _
  rw [if_neg (by omega)]
  exact ⟨by show -2 ≤ f; omega, rfl, rfl, h1, h2⟩
theorem formed_inv {k i f o n : Int} {vs : List Int} (h : FormedC ⟨k, i, f, o, n, vs⟩) (hf : f < 0) : o = 0 ∧ n = 0 ∧ 1 ≤ vs.length ∧ vs.length ≤ 10 := by
  unfold FormedC at h
  have h' : if (0 : Int) ≤ f then vs.length = 0 else -2 ≤ f ∧ o = 0 ∧ n = 0 ∧ 1 ≤ vs.length ∧ vs.length ≤ 10 := h
  rw [if_neg (by omega)] at h'
  exact h'.2

theorem fits_known {V : List Rows1} {c : Chg} (h : fitsE V c = 0) : KnownC V c := by
  unfold fitsE at h
  split at h
  · exact absurd h (by decide)
  · split at h
    · exact absurd h (by decide)
    · rename_i hk
      by_cases hc : KnownC V c
      · exact hc
      · exact absurd hc hk

theorem fits_iff {V : List Rows1} {c : Chg} (hk : KnownC V c) : fitsE V c = 0 ↔ fitsR (rowsC V c) c := by
  unfold fitsE fitsR
  by_cases hf : FormedC c
  · by_cases hm : MisC V c
    · rw [if_pos (.inr hm)]
      refine ⟨fun h => absurd h (by decide), fun h => ?_⟩
      obtain ⟨h1, _, h2, h3⟩ := hm
      rcases h.2 with h | h | h
      · exact absurd (h.2.1 h2) h3
      · exact absurd h.2.2.1 h3
      · omega
    · rw [if_neg (by rintro (h | h); exact h hf; exact hm h), if_neg (fun h => h hk)]
      have hm' : ∀ (h1 : c.field < 0) (h2 : 0 < (rowsC V c).length), c.values.length = ((rowsC V c).headD []).length := fun h1 h2 => by
        by_cases h : c.values.length = ((rowsC V c).headD []).length
        · exact h
        · exact absurd ⟨h1, hk, h2, h⟩ hm
      generalize rowsC V c = a at *
      have hr : -2 ≤ c.field := by
        unfold FormedC at hf
        by_cases h0 : 0 ≤ c.field
        · omega
        · rw [if_neg h0] at hf; exact hf.1
      by_cases e1 : c.field = -1
      · rw [if_pos e1]
        refine ⟨fun h => ⟨hf, .inl ⟨e1, fun h2 => hm' (by omega) h2, ?_⟩⟩, fun h => ?_⟩
        · by_cases h1 : c.index = a.length
          · exact h1
          · rw [if_pos h1] at h; exact absurd h (by decide)
        · rcases h.2 with h | h | h
          · rw [if_neg (fun h2 => h2 h.2.2)]
          · omega
          · omega
      · rw [if_neg e1]
        by_cases e2 : c.field = -2
        · rw [if_pos e2]
          refine ⟨fun h => ⟨hf, .inr (.inl ⟨e2, ?_⟩)⟩, fun h => ?_⟩
          · by_cases h1 : a.length = 0 ∨ c.index ≠ a.length - 1
            · rw [if_pos h1] at h; exact absurd h (by decide)
            · rw [if_neg h1] at h
              by_cases h2 : a.getD c.index.toNat [] = c.values
              · exact ⟨by omega, hm' (by omega) (by omega), by omega, h2⟩
              · rw [if_pos h2] at h; exact absurd h (by decide)
          · rcases h.2 with h | h | h
            · omega
            · rw [if_neg (by omega), if_neg (fun h2 => h2 h.2.2.2.2)]
            · omega
        · rw [if_neg e2]
          refine ⟨fun h => ⟨hf, .inr (.inr ?_)⟩, fun h => ?_⟩
          · by_cases h1 : c.index < 0 ∨ (a.length : Int) ≤ c.index ∨ ((a.headD []).length : Int) ≤ c.field
            · rw [if_pos h1] at h; exact absurd h (by decide)
            · rw [if_neg h1] at h
              by_cases h2 : (a.getD c.index.toNat []).getD c.field.toNat 0 = c.old
              · exact ⟨by omega, by omega, by omega, by omega, h2⟩
              · rw [if_pos h2] at h; exact absurd h (by decide)
          · rcases h.2 with h | h | h
            · omega
            · omega
            · rw [if_neg (by omega), if_neg (fun h2 => h2 h.2.2.2.2)]
  · rw [if_pos (.inl hf)]
    exact ⟨fun h => absurd h (by decide), fun h => absurd h.1 hf⟩

/-- A run within one kind. -/
def RunR : Rows1 → List Chg → Rows1 → Prop
  | a, [], b => a = b
  | a, c :: cs, b => fitsR a c ∧ RunR (doR a c) cs b
theorem RunR.append : ∀ {cs : List Chg} {a b d : Rows1} {ds : List Chg}, RunR a cs b → RunR b ds d → RunR a (cs ++ ds) d
  | [], a, b, d, ds, h, h2 => by
    have e : a = b := h
    subst e; exact h2
  | c :: cs, a, b, d, ds, h, h2 => ⟨h.1, RunR.append h.2 h2⟩
theorem RunR.one {a : Rows1} {c : Chg} (h : fitsR a c) : RunR a [c] (doR a c) := ⟨h, rfl⟩

theorem RunR.lift {k : Nat} : ∀ {cs : List Chg} {V : List Rows1} {a b : Rows1} (hk : k < V.length), V[k] = a → (∀ c ∈ cs, c.kind = k) → RunR a cs b → Run V cs (V.set k b)
  | [], V, a, b, hk, ha, _, h => by
    have e : a = b := h
    subst e ha
    rw [List.set_getElem_self]
    exact Run.nil V
  | c :: cs, V, a, b, hk, ha, hc, h => by
    have hck := hc c (List.mem_cons_self ..)
    have hkn : KnownC V c := ⟨by omega, by omega⟩
    have e0 : c.kind.toNat = k := by omega
    have hr : rowsC V c = a := by
      show V.getD c.kind.toNat [] = a
      rw [e0, getD_eq hk, ha]
    have hd : doC V c = V.set k (doR a c) := by unfold doC doR; rw [hr, e0]
    refine Run.cons ((fits_iff hkn).2 (by rw [hr]; exact h.1)) ?_
    rw [hd]
    have := RunR.lift (k := k) (cs := cs) (V := V.set k (doR a c)) (a := doR a c) (b := b) (by simpa using hk) (by simp) (fun d hd => hc d (List.mem_cons_of_mem _ hd)) h.2
    rwa [List.set_set] at this

/-- The first n of xs, then ys. -/
def mix {α : Type} (xs ys : List α) (n : Nat) : List α := xs.take n ++ ys.drop n
section
variable {α : Type} {xs ys : List α} {n : Nat}
theorem mix_zero : mix xs ys 0 = ys := by simp [mix]
theorem mix_len (h1 : n ≤ xs.length) (h2 : n ≤ ys.length) : (mix xs ys n).length = ys.length := by simp [mix]; omega
theorem mix_lt {i : Nat} (h1 : n ≤ xs.length) (h2 : n ≤ ys.length) (hi : i < n) (hl : i < (mix xs ys n).length) : (mix xs ys n)[i] = xs[i]'(by omega) :=
  (@List.getElem_append_left _ i (xs.take n) (ys.drop n) (by simp; omega) hl).trans (by simp)
theorem mix_ge {i : Nat} (h1 : n ≤ xs.length) (h2 : n ≤ ys.length) (hi : n ≤ i) (hl : i < (mix xs ys n).length) : (mix xs ys n)[i] = ys[i]'(by rw [mix_len h1 h2] at hl; exact hl) := by
  refine (@List.getElem_append_right _ (xs.take n) (ys.drop n) i (by simp; omega) hl).trans ?_
  simp only [List.getElem_drop, List.length_take]
  congr 1
  omega
theorem mix_set (h1 : n < xs.length) (h2 : n < ys.length) : (mix xs ys n).set n xs[n] = mix xs ys (n + 1) := by
  refine List.ext_getElem (by rw [List.length_set, mix_len (by omega) (by omega), mix_len (by omega) (by omega)]) (fun i g1 g2 => ?_)
  rw [List.getElem_set]
  split
  · rename_i e; subst e; rw [mix_lt (by omega) (by omega) (by omega)]
  · by_cases hi : i < n
    · rw [mix_lt (by omega) (by omega) hi, mix_lt (by omega) (by omega) (by omega)]
    · rw [mix_ge (by omega) (by omega) (by omega), mix_ge (by omega) (by omega) (by omega)]
theorem mix_same (h1 : n < xs.length) (h2 : n < ys.length) (e : xs[n] = ys[n]) : mix xs ys n = mix xs ys (n + 1) := by
  rw [← mix_set h1 h2, e]
  have h3 : n < (mix xs ys n).length := by rw [mix_len (by omega) (by omega)]; exact h2
  have h4 := mix_ge (xs := xs) (ys := ys) (n := n) (i := n) (by omega) (by omega) (Nat.le_refl _) h3
  rw [← h4, List.set_getElem_self]
theorem mix_all (h : xs.length = ys.length) : mix xs ys ys.length = xs := by unfold mix; rw [← h, List.take_length, h, List.drop_length, List.append_nil]
end

theorem headD_take {α : Type} {xs : List α} {d : α} {n : Nat} (h : 0 < n) : (xs.take n).headD d = xs.headD d := by
  cases n with
  | zero => omega
  | succ n => cases xs <;> rfl

/-- The rows of a kind are even. -/
def EvenR (a : Rows1) : Prop := ∀ r ∈ a, 1 ≤ r.length ∧ r.length ≤ 10 ∧ r.length = (a.headD []).length

theorem set_row {kind i : Int} {X : Rows1} {r s : List Int} (hi : 0 ≤ i) (hX : i.toNat < X.length) (hr : X[i.toNat] = r) (hl : r.length = s.length) (hh : (X.headD []).length = r.length) : ∀ n, n ≤ r.length →
    RunR X ((List.range n).filterMap (setAt kind i r s)) (X.set i.toNat (mix s r n))
  | 0, _ => by
    show X = _
    rw [mix_zero, ← hr, List.set_getElem_self]
  | n + 1, hn => by
    have ih := set_row (kind := kind) hi hX hr hl hh n (by omega)
    have hrn : n < r.length := by omega
    have hsn : n < s.length := by omega
    by_cases e : r.getD n 0 = s.getD n 0
    · rw [← filt_succ_none (f := setAt kind i r s) (k := n) (by unfold setAt; rw [if_pos e]), ← mix_same hsn hrn (by rw [getD_eq hrn, getD_eq hsn] at e; exact e.symm)]
      exact ih
    · rw [← filt_succ_some (f := setAt kind i r s) (k := n) (c := ⟨kind, i, n, r.getD n 0, s.getD n 0, []⟩) (by unfold setAt; rw [if_neg e])]
      refine RunR.append ih ?_
      have hm := mix_len (xs := s) (ys := r) (n := n) (by omega) (by omega)
      have hX' : i.toNat < (X.set i.toNat (mix s r n)).length := by simpa using hX
      have hg : (X.set i.toNat (mix s r n)).getD i.toNat [] = mix s r n := by rw [getD_eq hX']; simp
      have hfit : fitsR (X.set i.toNat (mix s r n)) ⟨kind, i, n, r.getD n 0, s.getD n 0, []⟩ := by
        refine ⟨by unfold FormedC; simp, .inr (.inr ⟨by simp, hi, by simp; omega, ?_, ?_⟩)⟩
        · show ((n : Nat) : Int) < _
          have : ((X.set i.toNat (mix s r n)).headD []).length = r.length := by
            rw [headD_eq [] (show 0 < (X.set i.toNat (mix s r n)).length by simp; omega)]
            by_cases h0 : i.toNat = 0
            · rw [List.getElem_set]; rw [if_pos h0]; exact hm
            · rw [List.getElem_set, if_neg h0, ← headD_eq [] (show 0 < X.length by omega)]; exact hh
          omega
        · simp only [Int.toNat_natCast]
          rw [hg, getD_eq (by omega), getD_eq hrn, mix_ge (by omega) (by omega) (Nat.le_refl _)]
      have hdo : doR (X.set i.toNat (mix s r n)) ⟨kind, i, n, r.getD n 0, s.getD n 0, []⟩ = X.set i.toNat (mix s r (n + 1)) := by
        unfold doR
        simp only
        rw [if_neg (by omega), if_neg (by omega), hg, List.set_set, Int.toNat_natCast, getD_eq hsn, mix_set hsn hrn]
      rw [← hdo]
      exact RunR.one hfit

theorem sets_run {kind : Int} {a b : Rows1} (ha : EvenR a) (hb : EvenR b) (hf : fitsK a b) : ∀ m, m ≤ a.length → m ≤ b.length → RunR a (sets kind a b m) (mix b a m)
  | 0, _, _ => by show a = _; rw [mix_zero]
  | m + 1, h1, h2 => by
    have ih := sets_run (kind := kind) ha hb hf m (by omega) (by omega)
    rw [sets_succ]
    refine RunR.append ih ?_
    have hml := mix_len (xs := b) (ys := a) (n := m) (by omega) (by omega)
    have hrow : (mix b a m)[(m : Int).toNat]'(by simp only [Int.toNat_natCast]; omega) = a.getD m [] := by
      simp only [Int.toNat_natCast]
      rw [mix_ge (by omega) (by omega) (Nat.le_refl _), getD_eq (by omega)]
    have e1 := ha a[m] (List.getElem_mem _)
    have e2 := hb b[m] (List.getElem_mem _)
    have e3 := hf (by omega) (by omega)
    have hl : (a.getD m []).length = (b.getD m []).length := by rw [getD_eq (by omega), getD_eq (by omega)]; omega
    have hh : ((mix b a m).headD []).length = (a.getD m []).length := by
      rw [headD_eq [] (show 0 < (mix b a m).length by omega), getD_eq (show m < a.length by omega)]
      by_cases h0 : 0 < m
      · rw [mix_lt (by omega) (by omega) h0, ← headD_eq [] (show 0 < b.length by omega)]; omega
      · rw [mix_ge (by omega) (by omega) (by omega), ← headD_eq [] (show 0 < a.length by omega)]; omega
    have := set_row (kind := kind) (i := (m : Int)) (X := mix b a m) (r := a.getD m []) (s := b.getD m []) (by omega) (by simp only [Int.toNat_natCast]; omega) hrow hl hh (a.getD m []).length (Nat.le_refl _)
    simp only [Int.toNat_natCast] at this
    rw [mix_all hl.symm, getD_eq (show m < b.length by omega), mix_set (by omega) (by omega)] at this
    unfold setR
    rw [getD_eq (show m < b.length by omega)]
    exact this

theorem takes_run {kind : Int} {a : Rows1} {X : Rows1} {m : Nat} (ha : EvenR a) (hX : X.length = a.length) (hXa : ∀ i (h1 : i < a.length), m ≤ i → X.getD i [] = a.getD i []) (hh : 0 < a.length → (X.headD []).length = (a.headD []).length) : ∀ j, j + m ≤ a.length →
    RunR X ((List.range j).map fun j => takeC kind a (a.length - 1 - j)) (X.take (X.length - j))
  | 0, _ => by show X = _; simp
  | j + 1, hj => by
    have ih := takes_run (kind := kind) ha hX hXa hh j (by omega)
    rw [← range_snoc]
    refine RunR.append ih ?_
    have hi : a.length - 1 - j < a.length := by omega
    have hv := ha (a.getD (a.length - 1 - j) []) (by rw [getD_eq hi]; exact List.getElem_mem _)
    have hlen : (X.take (X.length - j)).length = a.length - j := by rw [List.length_take]; omega
    have hg : (X.take (X.length - j)).getD (a.length - 1 - j) [] = a.getD (a.length - 1 - j) [] := by
      rw [getD_eq (by omega), List.getElem_take, ← hXa _ hi (by omega), getD_eq]
    have hfit : fitsR (X.take (X.length - j)) (takeC kind a (a.length - 1 - j)) := by
      unfold takeC
      refine ⟨formed_neg (by decide) hv.1 hv.2.1, .inr (.inl ⟨rfl, by omega, ?_, by simp only; omega, ?_⟩)⟩
      · simp only
        rw [headD_take (by omega), hh (by omega)]
        exact hv.2.2
      · simp only [Int.toNat_natCast]
        exact hg
    have hdo : doR (X.take (X.length - j)) (takeC kind a (a.length - 1 - j)) = X.take (X.length - (j + 1)) := by
      unfold doR takeC
      simp only
      rw [if_neg (by decide), if_pos trivial, Int.toNat_natCast, List.take_take]
      congr 1
      omega
    rw [← hdo]
    exact RunR.one hfit

theorem adds_run {kind : Int} {b : Rows1} (hb : EvenR b) {m : Nat} (hm : m ≤ b.length) : ∀ j, m + j ≤ b.length → RunR (b.take m) ((List.range j).map fun j => addC kind b (m + j)) (b.take (m + j))
  | 0, _ => rfl
  | j + 1, hj => by
    have ih := adds_run (kind := kind) hb hm j (by omega)
    rw [← range_snoc]
    refine RunR.append ih ?_
    have hi : m + j < b.length := by omega
    have hv := hb (b.getD (m + j) []) (by rw [getD_eq hi]; exact List.getElem_mem _)
    have hlen : (b.take (m + j)).length = m + j := by rw [List.length_take]; omega
    have hfit : fitsR (b.take (m + j)) (addC kind b (m + j)) := by
      unfold addC
      refine ⟨formed_neg (by decide) hv.1 hv.2.1, .inl ⟨rfl, fun h0 => ?_, by simp only; omega⟩⟩
      simp only
      rw [headD_take (by omega)]
      exact hv.2.2
    have hdo : doR (b.take (m + j)) (addC kind b (m + j)) = b.take (m + (j + 1)) := by
      unfold doR addC
      simp only
      rw [if_pos trivial, getD_eq hi, ← Nat.add_assoc, List.take_succ_eq_append_getElem hi]
    rw [← hdo]
    exact RunR.one hfit

theorem list_run {kind : Int} {a b : Rows1} (ha : EvenR a) (hb : EvenR b) (hf : fitsK a b) {m : Nat} (h1 : m ≤ a.length) (h2 : m ≤ b.length) : RunR a (listL kind a b m) b := by
  unfold listL
  have hl := mix_len (xs := b) (ys := a) h2 h1
  refine RunR.append (RunR.append (sets_run ha hb hf m h1 h2) (takes_run (m := m) ha hl (fun i g1 g2 => ?_) (fun h0 => ?_) (a.length - m) (by omega))) ?_
  · rw [getD_eq (by omega), getD_eq g1, mix_ge (by omega) (by omega) g2]
  · rw [headD_eq [] (show 0 < (mix b a m).length by omega)]
    by_cases hm : 0 < m
    · rw [mix_lt (by omega) (by omega) hm, ← headD_eq [] (show 0 < b.length by omega)]
      exact (hf h0 (by omega)).symm
    · rw [mix_ge (by omega) (by omega) (by omega), headD_eq [] h0]
  · have e : (mix b a m).take ((mix b a m).length - (a.length - m)) = b.take m := by
      rw [hl, show a.length - (a.length - m) = m by omega]
      unfold mix
      rw [List.take_append_of_le_length (by simp; omega), List.take_take, Nat.min_self]
    rw [e]
    have := adds_run (kind := kind) hb h2 (b.length - m) (by omega)
    rw [show m + (b.length - m) = b.length by omega, List.take_length] at this
    exact this

end Go.Proofs.Ytagnjhhbbjbhcaa
