/- The plain law of changes, in lists: what a run of changes leads to, its way back, and the fewest changes. The plain law of changes: the way back, and the fewest changes. -/
import Derived.Test.YteepdnamkcgndaaA8
import Derived.Test.YteepdnamkcgndaaA3
namespace Go.Proofs.Yteepdnamkcgndaa
open Go.RowKit

abbrev Rows1 := List (List Int)

/-- The changes lead from a world to another one. -/
def Run (V : List Rows1) (cs : List Chg) (W : List Rows1) : Prop := runC V cs = (0, W)
theorem Run.nil (V : List Rows1) : Run V [] V := rfl
theorem Run.cons {V W : List Rows1} {c : Chg} {cs : List Chg} (hf : fitsE V c = 0) (h : Run (doC V c) cs W) : Run V (c :: cs) W := by
  unfold Run
  rw [runC, if_neg (fun h => h hf)]
  exact h
theorem Run.inv {V W : List Rows1} {c : Chg} {cs : List Chg} (h : Run V (c :: cs) W) : fitsE V c = 0 ∧ Run (doC V c) cs W := by
  unfold Run at h
  rw [runC] at h
  by_cases hf : fitsE V c = 0
  · rw [if_neg (fun h => h hf)] at h; exact ⟨hf, h⟩
  · rw [if_pos hf] at h
    exact absurd (congrArg Prod.fst h) hf
theorem Run.append : ∀ {cs : List Chg} {V W : List Rows1} {ds : List Chg} {X : List Rows1}, Run V cs W → Run W ds X → Run V (cs ++ ds) X
  | [], V, W, ds, X, h, h2 => by
    have e : V = W := congrArg Prod.snd h
    subst e; exact h2
  | c :: cs, V, W, ds, X, h, h2 => Run.cons h.inv.1 (Run.append h.inv.2 h2)

/-- A change fits the records of its kind. -/
def fitsR (a : Rows1) (c : Chg) : Prop :=
  FormedC c ∧ ((c.field = -1 ∧ (0 < a.length → c.values.length = (a.headD []).length) ∧ c.index = a.length) ∨
    (c.field = -2 ∧ 0 < a.length ∧ c.values.length = (a.headD []).length ∧ c.index = (a.length : Int) - 1 ∧ a.getD c.index.toNat [] = c.values) ∨
    (0 ≤ c.field ∧ 0 ≤ c.index ∧ c.index < a.length ∧ c.field < (a.headD []).length ∧ (a.getD c.index.toNat []).getD c.field.toNat 0 = c.old))
/-- The records behind it. -/
def doR (a : Rows1) (c : Chg) : Rows1 :=
  if c.field = -1 then a ++ [c.values] else if c.field = -2 then a.take c.index.toNat else a.set c.index.toNat ((a.getD c.index.toNat []).set c.field.toNat c.new)

theorem formed_neg {k i f : Int} {vs : List Int} (hf : f = -1 ∨ f = -2) (h1 : 1 ≤ vs.length) (h2 : vs.length ≤ 10) : FormedC ⟨k, i, f, 0, 0, vs⟩ := by
  unfold FormedC
  show if (0 : Int) ≤ f then _ else _
  rw [if_neg (by omega)]
  exact ⟨by show -2 ≤ f; omega, rfl, rfl, h1, h2⟩
theorem formed_inv {k i f o n : Int} {vs : List Int} (h : FormedC ⟨k, i, f, o, n, vs⟩) (hf : f < 0) : o = 0 ∧ n = 0 ∧ 1 ≤ vs.length ∧ vs.length ≤ 10 := by
  unfold FormedC at h
  have h' : if (0 : Int) ≤ f then vs.length = 0 else -2 ≤ f ∧ o = 0 ∧ n = 0 ∧ 1 ≤ vs.length ∧ vs.length ≤ 10 := h
  rw [if_neg (by omega)] at h'
  exact h'.2

theorem fits_known {V : List Rows1} {c : Chg} (h : fitsE V c = 0) : KnownC V c := by
  unfold fitsE at h
  split at h
  · exact absurd h (by decide)
  · split at h
    · exact absurd h (by decide)
    · rename_i hk
      by_cases hc : KnownC V c
      · exact hc
      · exact absurd hc hk

theorem fits_iff {V : List Rows1} {c : Chg} (hk : KnownC V c) : fitsE V c = 0 ↔ fitsR (rowsC V c) c := by
  unfold fitsE fitsR
  by_cases hf : FormedC c
  · by_cases hm : MisC V c
    · rw [if_pos (.inr hm)]
      refine ⟨fun h => absurd h (by decide), fun h => ?_⟩
      obtain ⟨h1, _, h2, h3⟩ := hm
      rcases h.2 with h | h | h
      · exact absurd (h.2.1 h2) h3
      · exact absurd h.2.2.1 h3
      · omega
    · rw [if_neg (by rintro (h | h); exact h hf; exact hm h), if_neg (fun h => h hk)]
      have hm' : ∀ (h1 : c.field < 0) (h2 : 0 < (rowsC V c).length), c.values.length = ((rowsC V c).headD []).length := fun h1 h2 => by
        by_cases h : c.values.length = ((rowsC V c).headD []).length
        · exact h
        · exact absurd ⟨h1, hk, h2, h⟩ hm
      generalize rowsC V c = a at *
      have hr : -2 ≤ c.field := by
        unfold FormedC at hf
        by_cases h0 : 0 ≤ c.field
        · omega
        · rw [if_neg h0] at hf; exact hf.1
      by_cases e1 : c.field = -1
      · rw [if_pos e1]
        refine ⟨fun h => ⟨hf, .inl ⟨e1, fun h2 => hm' (by omega) h2, ?_⟩⟩, fun h => ?_⟩
        · by_cases h1 : c.index = a.length
          · exact h1
          · rw [if_pos h1] at h; exact absurd h (by decide)
        · rcases h.2 with h | h | h
          · rw [if_neg (fun h2 => h2 h.2.2)]
          · omega
          · omega
      · rw [if_neg e1]
        by_cases e2 : c.field = -2
        · rw [if_pos e2]
          refine ⟨fun h => ⟨hf, .inr (.inl ⟨e2, ?_⟩)⟩, fun h => ?_⟩
          · by_cases h1 : a.length = 0 ∨ c.index ≠ a.length - 1
            · rw [if_pos h1] at h; exact absurd h (by decide)
            · rw [if_neg h1] at h
              by_cases h2 : a.getD c.index.toNat [] = c.values
              · exact ⟨by omega, hm' (by omega) (by omega), by omega, h2⟩
              · rw [if_pos h2] at h; exact absurd h (by decide)
          · rcases h.2 with h | h | h
            · omega
            · rw [if_neg (by omega), if_neg (fun h2 => h2 h.2.2.2.2)]
            · omega
        · rw [if_neg e2]
          refine ⟨fun h => ⟨hf, .inr (.inr ?_)⟩, fun h => ?_⟩
          · by_cases h1 : c.index < 0 ∨ (a.length : Int) ≤ c.index ∨ ((a.headD []).length : Int) ≤ c.field
            · rw [if_pos h1] at h; exact absurd h (by decide)
            · rw [if_neg h1] at h
              by_cases h2 : (a.getD c.index.toNat []).getD c.field.toNat 0 = c.old
              · exact ⟨by omega, by omega, by omega, by omega, h2⟩
              · rw [if_pos h2] at h; exact absurd h (by decide)
          · rcases h.2 with h | h | h
            · omega
            · omega
            · rw [if_neg (by omega), if_neg (fun h2 => h2 h.2.2.2.2)]
  · rw [if_pos (.inl hf)]
    exact ⟨fun h => absurd h (by decide), fun h => absurd h.1 hf⟩

/-- A run within one kind. -/
def RunR : Rows1 → List Chg → Rows1 → Prop
  | a, [], b => a = b
  | a, c :: cs, b => fitsR a c ∧ RunR (doR a c) cs b
theorem RunR.append : ∀ {cs : List Chg} {a b d : Rows1} {ds : List Chg}, RunR a cs b → RunR b ds d → RunR a (cs ++ ds) d
  | [], a, b, d, ds, h, h2 => by
    have e : a = b := h
    subst e; exact h2
  | c :: cs, a, b, d, ds, h, h2 => ⟨h.1, RunR.append h.2 h2⟩
theorem RunR.one {a : Rows1} {c : Chg} (h : fitsR a c) : RunR a [c] (doR a c) := ⟨h, rfl⟩

theorem RunR.lift {k : Nat} : ∀ {cs : List Chg} {V : List Rows1} {a b : Rows1} (hk : k < V.length), V[k] = a → (∀ c ∈ cs, c.kind = k) → RunR a cs b → Run V cs (V.set k b)
  | [], V, a, b, hk, ha, _, h => by
    have e : a = b := h
    subst e ha
    rw [List.set_getElem_self]
    exact Run.nil V
  | c :: cs, V, a, b, hk, ha, hc, h => by
    have hck := hc c (List.mem_cons_self ..)
    have hkn : KnownC V c := ⟨by omega, by omega⟩
    have e0 : c.kind.toNat = k := by omega
    have hr : rowsC V c = a := by
      show V.getD c.kind.toNat [] = a
      rw [e0, getD_eq hk, ha]
    have hd : doC V c = V.set k (doR a c) := by unfold doC doR; rw [hr, e0]
    refine Run.cons ((fits_iff hkn).2 (by rw [hr]; exact h.1)) ?_
    rw [hd]
    have := RunR.lift (k := k) (cs := cs) (V := V.set k (doR a c)) (a := doR a c) (b := b) (by simpa using hk) (by simp) (fun d hd => hc d (List.mem_cons_of_mem _ hd)) h.2
    rwa [List.set_set] at this

/-- The first n of xs, then ys. -/
def mix {α : Type} (xs ys : List α) (n : Nat) : List α := xs.take n ++ ys.drop n
section
variable {α : Type} {xs ys : List α} {n : Nat}
theorem mix_zero : mix xs ys 0 = ys := by simp [mix]
theorem mix_len (h1 : n ≤ xs.length) (h2 : n ≤ ys.length) : (mix xs ys n).length = ys.length := by simp [mix]; omega
theorem mix_lt {i : Nat} (h1 : n ≤ xs.length) (_h2 : n ≤ ys.length) (hi : i < n) (hl : i < (mix xs ys n).length) : (mix xs ys n)[i] = xs[i]'(by omega) :=
  (@List.getElem_append_left _ i (xs.take n) (ys.drop n) (by simp; omega) hl).trans (by simp)
theorem mix_ge {i : Nat} (h1 : n ≤ xs.length) (h2 : n ≤ ys.length) (hi : n ≤ i) (hl : i < (mix xs ys n).length) : (mix xs ys n)[i] = ys[i]'(by rw [mix_len h1 h2] at hl; exact hl) := by
  refine (@List.getElem_append_right _ (xs.take n) (ys.drop n) i (by simp; omega) hl).trans ?_
  simp only [List.getElem_drop, List.length_take]
  congr 1
  omega
theorem mix_set (h1 : n < xs.length) (h2 : n < ys.length) : (mix xs ys n).set n xs[n] = mix xs ys (n + 1) := by
  refine List.ext_getElem (by rw [List.length_set, mix_len (by omega) (by omega), mix_len (by omega) (by omega)]) (fun i g1 g2 => ?_)
  rw [List.getElem_set]
  split
  · rename_i e; subst e; rw [mix_lt (by omega) (by omega) (by omega)]
  · by_cases hi : i < n
    · rw [mix_lt (by omega) (by omega) hi, mix_lt (by omega) (by omega) (by omega)]
    · rw [mix_ge (by omega) (by omega) (by omega), mix_ge (by omega) (by omega) (by omega)]
theorem mix_same (h1 : n < xs.length) (h2 : n < ys.length) (e : xs[n] = ys[n]) : mix xs ys n = mix xs ys (n + 1) := by
  rw [← mix_set h1 h2, e]
  have h3 : n < (mix xs ys n).length := by rw [mix_len (by omega) (by omega)]; exact h2
  have h4 := mix_ge (xs := xs) (ys := ys) (n := n) (i := n) (by omega) (by omega) (Nat.le_refl _) h3
  rw [← h4, List.set_getElem_self]
theorem mix_all (h : xs.length = ys.length) : mix xs ys ys.length = xs := by unfold mix; rw [← h, List.take_length, h, List.drop_length, List.append_nil]
end

theorem headD_take {α : Type} {xs : List α} {d : α} {n : Nat} (h : 0 < n) : (xs.take n).headD d = xs.headD d := by
  cases n with
  | zero => omega
  | succ n => cases xs <;> rfl

/-- The rows of a kind are even. -/
def EvenR (a : Rows1) : Prop := ∀ r ∈ a, 1 ≤ r.length ∧ r.length ≤ 10 ∧ r.length = (a.headD []).length

theorem set_row {kind i : Int} {X : Rows1} {r s : List Int} (hi : 0 ≤ i) (hX : i.toNat < X.length) (hr : X[i.toNat] = r) (hl : r.length = s.length) (hh : (X.headD []).length = r.length) : ∀ n, n ≤ r.length →
    RunR X ((List.range n).filterMap (setAt kind i r s)) (X.set i.toNat (mix s r n))
  | 0, _ => by
    show X = _
    rw [mix_zero, ← hr, List.set_getElem_self]
  | n + 1, hn => by
    have ih := set_row (kind := kind) hi hX hr hl hh n (by omega)
    have hrn : n < r.length := by omega
    have hsn : n < s.length := by omega
    by_cases e : r.getD n 0 = s.getD n 0
    · rw [← filt_succ_none (f := setAt kind i r s) (k := n) (by unfold setAt; rw [if_pos e]), ← mix_same hsn hrn (by rw [getD_eq hrn, getD_eq hsn] at e; exact e.symm)]
      exact ih
    · rw [← filt_succ_some (f := setAt kind i r s) (k := n) (c := ⟨kind, i, n, r.getD n 0, s.getD n 0, []⟩) (by unfold setAt; rw [if_neg e])]
      refine RunR.append ih ?_
      have hm := mix_len (xs := s) (ys := r) (n := n) (by omega) (by omega)
      have hX' : i.toNat < (X.set i.toNat (mix s r n)).length := by simpa using hX
      have hg : (X.set i.toNat (mix s r n)).getD i.toNat [] = mix s r n := by rw [getD_eq hX']; simp
      have hfit : fitsR (X.set i.toNat (mix s r n)) ⟨kind, i, n, r.getD n 0, s.getD n 0, []⟩ := by
        refine ⟨by unfold FormedC; simp, .inr (.inr ⟨by simp, hi, by simp; omega, ?_, ?_⟩)⟩
        · show ((n : Nat) : Int) < _
          have : ((X.set i.toNat (mix s r n)).headD []).length = r.length := by
            rw [headD_eq [] (show 0 < (X.set i.toNat (mix s r n)).length by simp; omega)]
            by_cases h0 : i.toNat = 0
            · rw [List.getElem_set]; rw [if_pos h0]; exact hm
            · rw [List.getElem_set, if_neg h0, ← headD_eq [] (show 0 < X.length by omega)]; exact hh
          omega
        · simp only [Int.toNat_natCast]
          rw [hg, getD_eq (by omega), getD_eq hrn, mix_ge (by omega) (by omega) (Nat.le_refl _)]
      have hdo : doR (X.set i.toNat (mix s r n)) ⟨kind, i, n, r.getD n 0, s.getD n 0, []⟩ = X.set i.toNat (mix s r (n + 1)) := by
        unfold doR
        simp only
        rw [if_neg (by omega), if_neg (by omega), hg, List.set_set, Int.toNat_natCast, getD_eq hsn, mix_set hsn hrn]
      rw [← hdo]
      exact RunR.one hfit

theorem sets_run {kind : Int} {a b : Rows1} (ha : EvenR a) (hb : EvenR b) (hf : fitsK a b) : ∀ m, m ≤ a.length → m ≤ b.length → RunR a (sets kind a b m) (mix b a m)
  | 0, _, _ => by show a = _; rw [mix_zero]
  | m + 1, h1, h2 => by
    have ih := sets_run (kind := kind) ha hb hf m (by omega) (by omega)
    rw [sets_succ]
    refine RunR.append ih ?_
    have hml := mix_len (xs := b) (ys := a) (n := m) (by omega) (by omega)
    have hrow : (mix b a m)[(m : Int).toNat]'(by simp only [Int.toNat_natCast]; omega) = a.getD m [] := by
      simp only [Int.toNat_natCast]
      rw [mix_ge (by omega) (by omega) (Nat.le_refl _), getD_eq (by omega)]
    have e1 := ha a[m] (List.getElem_mem _)
    have e2 := hb b[m] (List.getElem_mem _)
    have e3 := hf (by omega) (by omega)
    have hl : (a.getD m []).length = (b.getD m []).length := by rw [getD_eq (by omega), getD_eq (by omega)]; omega
    have hh : ((mix b a m).headD []).length = (a.getD m []).length := by
      rw [headD_eq [] (show 0 < (mix b a m).length by omega), getD_eq (show m < a.length by omega)]
      by_cases h0 : 0 < m
      · rw [mix_lt (by omega) (by omega) h0, ← headD_eq [] (show 0 < b.length by omega)]; omega
      · rw [mix_ge (by omega) (by omega) (by omega), ← headD_eq [] (show 0 < a.length by omega)]; omega
    have := set_row (kind := kind) (i := (m : Int)) (X := mix b a m) (r := a.getD m []) (s := b.getD m []) (by omega) (by simp only [Int.toNat_natCast]; omega) hrow hl hh (a.getD m []).length (Nat.le_refl _)
    simp only [Int.toNat_natCast] at this
    rw [mix_all hl.symm, getD_eq (show m < b.length by omega), mix_set (by omega) (by omega)] at this
    unfold setR
    rw [getD_eq (show m < b.length by omega)]
    exact this

theorem takes_run {kind : Int} {a : Rows1} {X : Rows1} {m : Nat} (ha : EvenR a) (hX : X.length = a.length) (hXa : ∀ i (_h1 : i < a.length), m ≤ i → X.getD i [] = a.getD i []) (hh : 0 < a.length → (X.headD []).length = (a.headD []).length) : ∀ j, j + m ≤ a.length →
    RunR X ((List.range j).map fun j => takeC kind a (a.length - 1 - j)) (X.take (X.length - j))
  | 0, _ => by show X = _; simp
  | j + 1, hj => by
    have ih := takes_run (kind := kind) ha hX hXa hh j (by omega)
    rw [← range_snoc]
    refine RunR.append ih ?_
    have hi : a.length - 1 - j < a.length := by omega
    have hv := ha (a.getD (a.length - 1 - j) []) (by rw [getD_eq hi]; exact List.getElem_mem _)
    have hlen : (X.take (X.length - j)).length = a.length - j := by rw [List.length_take]; omega
    have hg : (X.take (X.length - j)).getD (a.length - 1 - j) [] = a.getD (a.length - 1 - j) [] := by
      rw [getD_eq (by omega), List.getElem_take, ← hXa _ hi (by omega), getD_eq]
    have hfit : fitsR (X.take (X.length - j)) (takeC kind a (a.length - 1 - j)) := by
      unfold takeC
      refine ⟨formed_neg (by decide) hv.1 hv.2.1, .inr (.inl ⟨rfl, by omega, ?_, by simp only; omega, ?_⟩)⟩
      · simp only
        rw [headD_take (by omega), hh (by omega)]
        exact hv.2.2
      · simp only [Int.toNat_natCast]
        exact hg
    have hdo : doR (X.take (X.length - j)) (takeC kind a (a.length - 1 - j)) = X.take (X.length - (j + 1)) := by
      unfold doR takeC
      simp only
      rw [if_neg (by decide), if_pos trivial, Int.toNat_natCast, List.take_take]
      congr 1
      omega
    rw [← hdo]
    exact RunR.one hfit

theorem adds_run {kind : Int} {b : Rows1} (hb : EvenR b) {m : Nat} (hm : m ≤ b.length) : ∀ j, m + j ≤ b.length → RunR (b.take m) ((List.range j).map fun j => addC kind b (m + j)) (b.take (m + j))
  | 0, _ => rfl
  | j + 1, hj => by
    have ih := adds_run (kind := kind) hb hm j (by omega)
    rw [← range_snoc]
    refine RunR.append ih ?_
    have hi : m + j < b.length := by omega
    have hv := hb (b.getD (m + j) []) (by rw [getD_eq hi]; exact List.getElem_mem _)
    have hlen : (b.take (m + j)).length = m + j := by rw [List.length_take]; omega
    have hfit : fitsR (b.take (m + j)) (addC kind b (m + j)) := by
      unfold addC
      refine ⟨formed_neg (by decide) hv.1 hv.2.1, .inl ⟨rfl, fun h0 => ?_, by simp only; omega⟩⟩
      simp only
      rw [headD_take (by omega)]
      exact hv.2.2
    have hdo : doR (b.take (m + j)) (addC kind b (m + j)) = b.take (m + (j + 1)) := by
      unfold doR addC
      simp only
      rw [if_pos trivial, getD_eq hi, ← Nat.add_assoc, List.take_succ_eq_append_getElem hi]
    rw [← hdo]
    exact RunR.one hfit

theorem list_run {kind : Int} {a b : Rows1} (ha : EvenR a) (hb : EvenR b) (hf : fitsK a b) {m : Nat} (h1 : m ≤ a.length) (h2 : m ≤ b.length) : RunR a (listL kind a b m) b := by
  unfold listL
  have hl := mix_len (xs := b) (ys := a) h2 h1
  refine RunR.append (RunR.append (sets_run ha hb hf m h1 h2) (takes_run (m := m) ha hl (fun i g1 g2 => ?_) (fun h0 => ?_) (a.length - m) (by omega))) ?_
  · rw [getD_eq (by omega), getD_eq g1, mix_ge (by omega) (by omega) g2]
  · rw [headD_eq [] (show 0 < (mix b a m).length by omega)]
    by_cases hm : 0 < m
    · rw [mix_lt (by omega) (by omega) hm, ← headD_eq [] (show 0 < b.length by omega)]
      exact (hf h0 (by omega)).symm
    · rw [mix_ge (by omega) (by omega) (by omega), headD_eq [] h0]
  · have e : (mix b a m).take ((mix b a m).length - (a.length - m)) = b.take m := by
      rw [hl, show a.length - (a.length - m) = m by omega]
      unfold mix
      rw [List.take_append_of_le_length (by simp; omega), List.take_take, Nat.min_self]
    rw [e]
    have := adds_run (kind := kind) hb h2 (b.length - m) (by omega)
    rw [show m + (b.length - m) = b.length by omega, List.take_length] at this
    exact this

end Go.Proofs.Yteepdnamkcgndaa

namespace Go.Proofs.Yteepdnamkcgndaa
open Go.RowKit

theorem shaped_even {W : List Rows1} (h : ShapedW W) {rows : Rows1} (hr : rows ∈ W) : EvenR rows := fun r hr' => by
  have := shaped_kind h hr
  exact ⟨(this.2 r hr').2.1, (this.2 r hr').1, (this.2 r hr').2.2⟩

theorem listL_kind {kind : Int} {a b : Rows1} {m : Nat} : ∀ c ∈ listL kind a b m, c.kind = kind := by
  intro c hc
  unfold listL at hc
  rcases List.mem_append.1 hc with hc | hc
  · rcases List.mem_append.1 hc with hc | hc
    · unfold sets at hc
      obtain ⟨i, _, hc⟩ := List.mem_flatMap.1 hc
      unfold setR at hc
      obtain ⟨k, _, hc⟩ := List.mem_filterMap.1 hc
      unfold setAt at hc
      split at hc
      · cases hc
      · cases hc; rfl
    · unfold takes at hc
      obtain ⟨i, _, rfl⟩ := List.mem_map.1 hc
      rfl
  · unfold adds at hc
    obtain ⟨i, _, rfl⟩ := List.mem_map.1 hc
    rfl

/-- **Leads.** -/
theorem diff_run {A B : List Rows1} (h : diffOk A B) : ∀ n, n ≤ A.length → Run A (diffL A B n) (mix B A n)
  | 0, _ => by
    have e : diffL A B 0 = [] := by unfold diffL; simp
    rw [e, mix_zero]
    exact Run.nil A
  | n + 1, hn => by
    have ih := diff_run h n (by omega)
    have hA : n < A.length := by omega
    have hB : n < B.length := by have := h.2.2.1; omega
    rw [diffL_succ]
    refine Run.append ih ?_
    have hm := mix_len (xs := B) (ys := A) (n := n) (by omega) (by omega)
    have hk := kindDiff_eq (n : Int) A[n] B[n]
    rw [getD_eq hA, getD_eq hB, hk.1, ← mix_set hB hA]
    refine RunR.lift (a := A[n]) (by omega) (mix_ge (by omega) (by omega) (Nat.le_refl _) (by omega)) listL_kind ?_
    have hf := h.2.2.2 n hA
    rw [getD_eq hA, getD_eq hB] at hf
    exact list_run (shaped_even h.1 (List.getElem_mem hA)) (shaped_even h.2.1 (List.getElem_mem hB)) hf hk.2.1 hk.2.2

theorem diff_leads {A B : List Rows1} (h : diffOk A B) : Run A (diffC A B) B := by
  have := diff_run h A.length (Nat.le_refl _)
  rw [mix_all h.2.2.1.symm] at this
  unfold diffC
  rw [if_pos h]
  exact this

/-- A change turned around. -/
def turnC (c : Chg) : Chg := ⟨c.kind, c.index, if c.field = -1 then -2 else if c.field = -2 then -1 else c.field, c.new, c.old, c.values⟩
def turnL (cs : List Chg) : List Chg := (cs.map turnC).reverse

theorem back_one {a : Rows1} {c : Chg} (ha : EvenR a) (h : fitsR a c) : fitsR (doR a c) (turnC c) ∧ doR (doR a c) (turnC c) = a := by
  obtain ⟨k, i, f, o, nw, vs⟩ := c
  obtain ⟨hf, h⟩ := h
  rcases h with ⟨h1, h2, h3⟩ | ⟨h1, h2, h3, h4, h5⟩ | ⟨h1, h2, h3, h4, h5⟩
  · simp only at h1 h2 h3
    subst h1 h3
    obtain ⟨rfl, rfl, hv1, hv2⟩ := formed_inv hf (by decide)
    have hd : doR a ⟨k, a.length, -1, 0, 0, vs⟩ = a ++ [vs] := rfl
    rw [hd]
    have hh : ((a ++ [vs]).headD []).length = vs.length := by
      cases a with
      | nil => rfl
      | cons x xs => exact (h2 (by simp)).symm
    refine ⟨⟨formed_neg (f := -2) (by decide) hv1 hv2, .inr (.inl ⟨rfl, by simp, hh.symm, by simp [turnC], ?_⟩)⟩, ?_⟩
    · simp only [turnC, Int.toNat_natCast]
      rw [getD_eq (by simp)]
      simp
    · unfold doR turnC
      simp only
      rw [if_pos trivial, if_neg (by decide), if_pos rfl, Int.toNat_natCast]
      simp
  · simp only at h1 h2 h3 h4 h5
    subst h1
    obtain ⟨rfl, rfl, hv1, hv2⟩ := formed_inv hf (by decide)
    obtain ⟨p, hp⟩ : ∃ p, a.length = p + 1 := ⟨a.length - 1, by omega⟩
    obtain rfl : i = (p : Int) := by omega
    simp only [Int.toNat_natCast] at h5
    have hd : doR a ⟨k, p, -2, 0, 0, vs⟩ = a.take p := by unfold doR; simp only; rw [if_neg (by decide), if_pos trivial, Int.toNat_natCast]
    rw [hd]
    have e1 : turnC ⟨k, p, -2, 0, 0, vs⟩ = ⟨k, p, -1, 0, 0, vs⟩ := rfl
    rw [e1]
    refine ⟨⟨formed_neg (by decide) hv1 hv2, .inl ⟨rfl, fun h0 => ?_, by simp only [List.length_take]; omega⟩⟩, ?_⟩
    · rw [List.length_take] at h0
      rw [headD_take (by omega)]
      exact h3
    · unfold doR
      simp only
      rw [if_pos trivial, ← h5, getD_eq (by omega), ← List.take_succ_eq_append_getElem (by omega), ← hp, List.take_length]
  · simp only at h1 h2 h3 h4 h5
    have n1 : ¬ f = -1 := by omega
    have n2 : ¬ f = -2 := by omega
    have hi : i.toNat < a.length := by omega
    have hr := ha _ (List.getElem_mem hi)
    have hg : a.getD i.toNat [] = a[i.toNat] := getD_eq hi
    rw [hg] at h5
    have hfl : f.toNat < a[i.toNat].length := by omega
    have hd : doR a ⟨k, i, f, o, nw, vs⟩ = a.set i.toNat (a[i.toNat].set f.toNat nw) := by unfold doR; simp only; rw [if_neg n1, if_neg n2, hg]
    rw [hd]
    have e1 : turnC ⟨k, i, f, o, nw, vs⟩ = ⟨k, i, f, nw, o, vs⟩ := by unfold turnC; simp only; rw [if_neg n1, if_neg n2]
    rw [e1]
    have hg2 : (a.set i.toNat (a[i.toNat].set f.toNat nw)).getD i.toNat [] = a[i.toNat].set f.toNat nw := by rw [getD_eq (by simpa using hi)]; simp
    refine ⟨⟨by unfold FormedC at hf ⊢; simp only at hf ⊢; rw [if_pos h1] at hf ⊢; exact hf, .inr (.inr ⟨h1, h2, by simpa using h3, ?_, ?_⟩)⟩, ?_⟩
    · show f < _
      rw [headD_eq [] (show 0 < (a.set i.toNat (a[i.toNat].set f.toNat nw)).length by rw [List.length_set]; omega)]
      rw [headD_eq [] (show 0 < a.length by omega)] at h4
      by_cases h0 : i.toNat = 0
      · rw [List.getElem_set, if_pos h0, List.length_set]; simp only [h0]; exact h4
      · rw [List.getElem_set, if_neg h0]; exact h4
    · simp only
      rw [hg2, getD_eq (by simpa using hfl)]
      simp
    · unfold doR
      simp only
      rw [if_neg n1, if_neg n2, hg2, List.set_set, List.set_set, ← h5, getD_eq hfl, List.set_getElem_self, List.set_getElem_self]

theorem doC_eq (V : List Rows1) (c : Chg) : doC V c = V.set c.kind.toNat (doR (rowsC V c) c) := rfl

/-- **The way back.** -/
theorem run_back : ∀ {cs : List Chg} {l n : Nat} {V W : List Rows1}, MidW l n V → Run V cs W → Run W (turnL cs) V
  | [], _, _, V, W, _, h => by
    have e : V = W := congrArg Prod.snd h
    subst e; exact Run.nil V
  | c :: cs, l, n, V, W, hV, h => by
    obtain ⟨hf, h2⟩ := h.inv
    have hV1 := hV.step hf
    have ih := run_back hV1 h2
    have e : turnL (c :: cs) = turnL cs ++ [turnC c] := by unfold turnL; simp
    rw [e]
    refine Run.append ih ?_
    have hkn := fits_known hf
    have hkl : c.kind.toNat < V.length := by have := hkn.1; have := hkn.2; omega
    have hr : rowsC V c = V[c.kind.toNat] := getD_eq hkl
    have hev : EvenR (rowsC V c) := by rw [hr]; exact hV.1 _ (List.getElem_mem hkl)
    obtain ⟨b1, b2⟩ := back_one hev ((fits_iff hkn).1 hf)
    have hr2 : rowsC (doC V c) (turnC c) = doR (rowsC V c) c := by
      show (doC V c).getD c.kind.toNat [] = _
      rw [doC_eq, getD_eq (by simpa using hkl)]
      simp
    have hkn2 : KnownC (doC V c) (turnC c) := ⟨hkn.1, by rw [doC_eq, List.length_set]; exact hkn.2⟩
    have hd : doC (doC V c) (turnC c) = V := by
      rw [doC_eq, hr2, b2, doC_eq, hr]
      show (V.set c.kind.toNat _).set c.kind.toNat _ = V
      rw [List.set_set, List.set_getElem_self]
    refine Run.cons ((fits_iff hkn2).2 (by rw [hr2]; exact b1)) ?_
    rw [hd]
    exact Run.nil V

theorem ShapedW.mid {V : List Rows1} (h : ShapedW V) : MidW V.length 512 V := ⟨h.even, rfl, fun _rows hr => (shaped_kind h hr).1⟩

theorem MidW.run : ∀ {cs : List Chg} {l n : Nat} {V W : List Rows1}, MidW l n V → Run V cs W → MidW l (n + cs.length) W
  | [], l, n, V, W, hV, h => by
    have e : V = W := congrArg Prod.snd h
    subst e; exact hV
  | c :: cs, l, n, V, W, hV, h => by
    have := MidW.run (hV.step h.inv.1) h.inv.2
    rw [List.length_cons, show n + (cs.length + 1) = n + 1 + cs.length by omega]
    exact this

/-- What Apply returns behind a run. -/
theorem applyL_run {V W : List Rows1} {cs : List Chg} (hV : ShapedW V) (hcs : cs.length ≤ 8192) (h : Run V cs W) (ht : total W ≤ 512) : applyL V cs = (0, W) := by
  unfold applyL
  unfold Run at h
  rw [if_neg (fun q => q hV), if_neg (by omega), h]
  simp only
  rw [if_neg (by simp), if_neg (by omega)]
theorem applyL_ok {V W : List Rows1} {cs : List Chg} (h : applyL V cs = (0, W)) : ShapedW V ∧ Run V cs W ∧ total W ≤ 512 := by
  unfold applyL at h
  split at h
  · exact absurd (congrArg Prod.fst h) (by first | (show ¬ (2 : Int) = 0; decide) | (show ¬ (4 : Int) = 0; decide))
  · rename_i h1
    split at h
    · exact absurd (congrArg Prod.fst h) (by first | (show ¬ (2 : Int) = 0; decide) | (show ¬ (4 : Int) = 0; decide))
    · split at h
      · rename_i h2; exact absurd (congrArg Prod.fst h) h2
      · split at h
        · exact absurd (congrArg Prod.fst h) (by first | (show ¬ (2 : Int) = 0; decide) | (show ¬ (4 : Int) = 0; decide))
        · rename_i h3
          have hv : ShapedW V := by
            by_cases q : ShapedW V
            · exact q
            · exact absurd q h1
          rw [h] at h3
          exact ⟨hv, h, by simp only at h3; omega⟩

/-! ### The fewest -/

theorem bestM_min {kind : Int} {a b : Rows1} {m : Nat} : ∀ n, m ≤ n → (bestM kind a b n).length ≤ (listL kind a b m).length
  | 0, h => by
    obtain rfl : m = 0 := by omega
    exact Nat.le_refl _
  | n + 1, h => by
    unfold bestM
    by_cases e : m = n + 1
    · subst e
      split
      · exact Nat.le_refl _
      · omega
    · have := bestM_min (kind := kind) (a := a) (b := b) n (show m ≤ n by omega)
      split
      · omega
      · exact this

theorem cost_le {kind : Int} {a b : Rows1} {m : Nat} (h1 : m ≤ a.length) (h2 : m ≤ b.length) : (kindDiff kind a b).length ≤ setsN a b m + a.length + b.length - 2 * m := by
  rw [← listL_length h1 h2 (kind := kind)]
  exact bestM_min _ (by omega)
theorem cost_eq (kind : Int) (a b : Rows1) : ∃ m, m ≤ a.length ∧ m ≤ b.length ∧ (kindDiff kind a b).length = setsN a b m + a.length + b.length - 2 * m := by
  obtain ⟨h1, h2, h3⟩ := kindDiff_eq kind a b
  exact ⟨sameL a b, h2, h3, by rw [h1, listL_length h2 h3]⟩

def cnt (r s : List Int) (n : Nat) : Nat := ((List.range n).filterMap (setAt 0 0 r s)).length
theorem cnt_succ (r s : List Int) (n : Nat) : cnt r s (n + 1) = cnt r s n + (if r.getD n 0 = s.getD n 0 then 0 else 1) := by
  unfold cnt
  rw [List.range_succ, List.filterMap_append, List.length_append]
  congr 1
  by_cases h : r.getD n 0 = s.getD n 0
  · have e : setAt 0 0 r s n = none := by unfold setAt; rw [if_pos h]
    rw [if_pos h, List.filterMap_cons, e]; rfl
  · have e : setAt 0 0 r s n = some ⟨0, 0, n, r.getD n 0, s.getD n 0, []⟩ := by unfold setAt; rw [if_neg h]
    rw [if_neg h, List.filterMap_cons, e]; rfl
theorem setsN_cnt (a b : Rows1) (m : Nat) : setsN a b (m + 1) = setsN a b m + cnt (a.getD m []) (b.getD m []) (a.getD m []).length := setsN_succ a b m
theorem setsN_zero (a b : Rows1) : setsN a b 0 = 0 := rfl

theorem setsN_congr {a b b' : Rows1} : ∀ m, (∀ i, i < m → b.getD i [] = b'.getD i []) → setsN a b m = setsN a b' m
  | 0, _ => rfl
  | m + 1, h => by rw [setsN_cnt, setsN_cnt, setsN_congr m (fun i hi => h i (by omega)), h m (by omega)]

theorem cnt_set (r s : List Int) (f : Nat) (v : Int) : ∀ n, cnt r (s.set f v) n ≤ cnt r s n + (if f < n then 1 else 0)
  | 0 => by simp [cnt]
  | n + 1 => by
    have ih := cnt_set r s f v n
    rw [cnt_succ, cnt_succ]
    by_cases e : f = n
    · subst e
      rw [if_neg (Nat.lt_irrefl _)] at ih
      have h1 : (if r.getD f 0 = (s.set f v).getD f 0 then 0 else 1) ≤ 1 := by split <;> omega
      generalize (if r.getD f 0 = (s.set f v).getD f 0 then 0 else 1) = q1 at *
      generalize (if r.getD f 0 = s.getD f 0 then 0 else 1) = q2 at *
      rw [if_pos (Nat.lt_succ_self _)]
      omega
    · have hg : (s.set f v).getD n 0 = s.getD n 0 := by
        rw [List.getD_eq_getElem?_getD, List.getD_eq_getElem?_getD, List.getElem?_set_ne e]
      rw [hg]
      generalize (if r.getD n 0 = s.getD n 0 then 0 else 1) = q at *
      by_cases h : f < n
      · rw [if_pos h] at ih; rw [if_pos (by omega)]; omega
      · rw [if_neg h] at ih; rw [if_neg (by omega)]; omega

theorem setsN_set {a b : Rows1} {i f : Nat} {v : Int} : ∀ m, setsN a (b.set i ((b.getD i []).set f v)) m ≤ setsN a b m + (if i < m then 1 else 0)
  | 0 => by simp [setsN_zero]
  | m + 1 => by
    have ih := setsN_set (a := a) (b := b) (i := i) (f := f) (v := v) m
    rw [setsN_cnt, setsN_cnt]
    by_cases e : i = m
    · subst e
      rw [if_neg (Nat.lt_irrefl _)] at ih
      rw [if_pos (Nat.lt_succ_self _)]
      by_cases hi : i < b.length
      · have hg : (b.set i ((b.getD i []).set f v)).getD i [] = (b.getD i []).set f v := by rw [getD_eq (by simpa using hi)]; simp
        rw [hg]
        have := cnt_set (a.getD i []) (b.getD i []) f v (a.getD i []).length
        split at this <;> omega
      · rw [List.set_eq_of_length_le (by omega)] at ih ⊢
        omega
    · have hg : (b.set i ((b.getD i []).set f v)).getD m [] = b.getD m [] := by
        simp only [List.getD_eq_getElem?_getD, List.getElem?_set_ne e]
      rw [hg]
      by_cases h : i < m
      · rw [if_pos h] at ih; rw [if_pos (by omega)]; omega
      · rw [if_neg h] at ih; rw [if_neg (by omega)]; omega

theorem setsN_mono (a b : Rows1) (m : Nat) : setsN a b m ≤ setsN a b (m + 1) := by rw [setsN_cnt]; omega

/-- One change makes the way at most one change longer. -/
theorem cost_step {kind : Int} {a b : Rows1} {c : Chg} (h : fitsR b c) : (kindDiff kind a (doR b c)).length ≤ (kindDiff kind a b).length + 1 := by
  obtain ⟨m, h1, h2, h3⟩ := cost_eq kind a b
  obtain ⟨-, h⟩ := h
  rcases h with ⟨e1, e2, e3⟩ | ⟨e1, e2, e3, e4, e5⟩ | ⟨e1, e2, e3, e4, e5⟩
  · have hd : doR b c = b ++ [c.values] := by unfold doR; rw [if_pos e1]
    rw [hd]
    have := cost_le (kind := kind) (a := a) (b := b ++ [c.values]) (m := m) h1 (by simp; omega)
    rw [← setsN_congr (b := b) m (fun i hi => by rw [getD_eq (by omega), getD_eq (by simp; omega), List.getElem_append_left (by omega)])] at this
    simp only [List.length_append, List.length_singleton] at this
    omega
  · have hi : c.index.toNat = b.length - 1 := by omega
    have hd : doR b c = b.take (b.length - 1) := by unfold doR; rw [if_neg (by omega), if_pos e1, hi]
    rw [hd]
    by_cases hm : m ≤ b.length - 1
    · have := cost_le (kind := kind) (a := a) (b := b.take (b.length - 1)) (m := m) h1 (by simp; omega)
      rw [← setsN_congr (b := b) m (fun i hi => by rw [getD_eq (by omega), getD_eq (by simp; omega), List.getElem_take])] at this
      simp only [List.length_take] at this
      omega
    · obtain ⟨q, rfl⟩ : ∃ q, m = q + 1 := ⟨m - 1, by omega⟩
      have := cost_le (kind := kind) (a := a) (b := b.take (b.length - 1)) (m := q) (by omega) (by simp; omega)
      rw [← setsN_congr (b := b) q (fun i hi => by rw [getD_eq (by omega), getD_eq (by simp; omega), List.getElem_take])] at this
      simp only [List.length_take] at this
      have h5 := setsN_mono a b q
      omega
  · have hd : doR b c = b.set c.index.toNat ((b.getD c.index.toNat []).set c.field.toNat c.new) := by unfold doR; rw [if_neg (by omega), if_neg (by omega)]
    rw [hd]
    have := cost_le (kind := kind) (a := a) (b := b.set c.index.toNat ((b.getD c.index.toNat []).set c.field.toNat c.new)) (m := m) h1 (by simpa using h2)
    have h5 := setsN_set (a := a) (b := b) (i := c.index.toNat) (f := c.field.toNat) (v := c.new) m
    simp only [List.length_set] at this
    split at h5 <;> omega

theorem diffL_step {A V : List Rows1} {k : Nat} {R : Rows1} (h : ∀ kind : Int, (kindDiff kind (A.getD k []) R).length ≤ (kindDiff kind (A.getD k []) (V.getD k [])).length + 1) (hk : k < V.length) : ∀ n, (diffL A (V.set k R) n).length ≤ (diffL A V n).length + (if k < n then 1 else 0)
  | 0 => by simp [diffL]
  | n + 1 => by
    have ih := diffL_step h hk n
    rw [diffL_succ, diffL_succ, List.length_append, List.length_append]
    by_cases e : k = n
    · subst e
      have hg : (V.set k R).getD k [] = R := by rw [getD_eq (by simpa using hk)]; simp
      rw [if_neg (Nat.lt_irrefl _)] at ih
      rw [if_pos (Nat.lt_succ_self _), hg]
      have := h k
      omega
    · have hg : (V.set k R).getD n [] = V.getD n [] := by
        rw [List.getD_eq_getElem?_getD, List.getD_eq_getElem?_getD, List.getElem?_set_ne e]
      rw [hg]
      by_cases h2 : k < n
      · rw [if_pos h2] at ih; rw [if_pos (by omega)]; omega
      · rw [if_neg h2] at ih; rw [if_neg (by omega)]; omega

theorem fewest_run {A : List Rows1} : ∀ {cs : List Chg} {V W : List Rows1}, Run V cs W → (diffL A W A.length).length ≤ (diffL A V A.length).length + cs.length
  | [], V, W, h => by
    have e : V = W := congrArg Prod.snd h
    subst e; omega
  | c :: cs, V, W, h => by
    obtain ⟨hf, h2⟩ := h.inv
    have ih := fewest_run (A := A) h2
    have hkn := fits_known hf
    have hkl : c.kind.toNat < V.length := by have := hkn.1; have := hkn.2; omega
    have h3 := diffL_step (A := A) (V := V) (k := c.kind.toNat) (R := doR (rowsC V c) c) (fun kind => cost_step ((fits_iff hkn).1 hf)) hkl A.length
    rw [← doC_eq] at h3
    rw [List.length_cons]
    split at h3 <;> omega

theorem cost_self (kind : Int) (a : Rows1) : kindDiff kind a a = [] := by
  have h := cost_le (kind := kind) (a := a) (b := a) (m := a.length) (Nat.le_refl _) (Nat.le_refl _)
  have h2 : ∀ m, setsN a a m = 0 := by
    intro m
    induction m with
    | zero => rfl
    | succ m ih =>
      rw [setsN_cnt, ih]
      have : ∀ (r : List Int) n, cnt r r n = 0 := fun r n => by
        induction n with
        | zero => rfl
        | succ n ih => rw [cnt_succ, ih, if_pos rfl]
      rw [this]
  rw [h2] at h
  exact List.eq_nil_of_length_eq_zero (by omega)

theorem diffL_self (A : List Rows1) : ∀ n, diffL A A n = []
  | 0 => by simp [diffL]
  | n + 1 => by rw [diffL_succ, diffL_self A n, cost_self]; rfl

/-- **Fewest.** -/
theorem diff_fewest {A W : List Rows1} {cs : List Chg} (h : Run A cs W) : (diffC A W).length ≤ cs.length := by
  unfold diffC
  split
  · have := fewest_run (A := A) h
    rw [diffL_self, List.length_nil, Nat.zero_add] at this
    exact this
  · simp

theorem diffC_self (A : List Rows1) : diffC A A = [] := by
  unfold diffC
  split
  · exact diffL_self A _
  · rfl

theorem fitsK_symm {a b : Rows1} (h : fitsK a b) : fitsK b a := fun h1 h2 => (h h2 h1).symm
theorem diffOk_symm {A B : List Rows1} (h : diffOk A B) : diffOk B A :=
  ⟨h.2.1, h.1, h.2.2.1.symm, fun k hk => fitsK_symm (h.2.2.2 k (by have := h.2.2.1; omega))⟩
/-- Both ways take as many changes. -/
theorem diff_len_symm {A B : List Rows1} (h : diffOk A B) : (diffC A B).length = (diffC B A).length := by
  have h1 := diff_fewest (run_back h.1.mid (diff_leads h))
  have h2 := diff_fewest (run_back h.2.1.mid (diff_leads (diffOk_symm h)))
  unfold turnL at h1 h2
  simp only [List.length_reverse, List.length_map] at h1 h2
  omega

end Go.Proofs.Yteepdnamkcgndaa
