/- What the merged changes of two authors lead to: the plain law of DiffMerged. -/
import Derived.Test.YteepdnamkcgndaaM22
namespace Go.Proofs.Yteepdnamkcgndaa
open Go.RowKit

/-! Who changed a value gives it. -/
def mixR (r s t : List Int) : List Int := (List.range r.length).map fun v => if s.getD v 0 = r.getD v 0 then t.getD v 0 else s.getD v 0
theorem mixR_len (r s t : List Int) : (mixR r s t).length = r.length := by simp [mixR]
theorem mixR_at {r s t : List Int} {v : Nat} (h : v < r.length) : (mixR r s t).getD v 0 = if s.getD v 0 = r.getD v 0 then t.getD v 0 else s.getD v 0 := by
  rw [getD_eq (by rw [mixR_len]; exact h)]
  simp only [mixR, List.getElem_map, List.getElem_range]
def mixK (w p q src : Rows1) (mx : Nat) : Rows1 := ((List.range mx).map fun i => mixR (w.getD i []) (p.getD i []) (q.getD i [])) ++ src.drop mx
theorem mixK_len {w p q src : Rows1} {mx : Nat} (h : mx ≤ src.length) : (mixK w p q src mx).length = src.length := by
  unfold mixK
  simp only [List.length_append, List.length_map, List.length_range, List.length_drop]
  omega
theorem mixK_lt {w p q src : Rows1} {mx i : Nat} (h : i < mx) : (mixK w p q src mx).getD i [] = mixR (w.getD i []) (p.getD i []) (q.getD i []) := by
  unfold mixK
  rw [List.getD_eq_getElem?_getD, List.getElem?_append_left (by simpa using h), List.getElem?_map, List.getElem?_range h]
  rfl
theorem mixK_ge {w p q src : Rows1} {mx i : Nat} (h : mx ≤ i) : (mixK w p q src mx).getD i [] = src.getD i [] := by
  unfold mixK
  rw [List.getD_eq_getElem?_getD, List.getElem?_append_right (by simpa using h), List.getElem?_drop, List.getD_eq_getElem?_getD]
  simp only [List.length_map, List.length_range]
  rw [show mx + (i - mx) = i by omega]
theorem mixK_mem {w p q src : Rows1} {mx : Nat} {r : List Int} (h : r ∈ mixK w p q src mx) : (∃ i, i < mx ∧ r = mixR (w.getD i []) (p.getD i []) (q.getD i [])) ∨ r ∈ src := by
  unfold mixK at h
  rcases List.mem_append.1 h with h | h
  · simp only [List.mem_map, List.mem_range] at h
    obtain ⟨i, hi, rfl⟩ := h
    exact .inl ⟨i, hi, rfl⟩
  · exact .inr (List.mem_of_mem_drop h)

theorem isSet_set (k i : Int) (f : Nat) (o n : Int) : Mer.isSet ⟨k, i, f, o, n, []⟩ = true := by unfold Mer.isSet; simp
theorem clash_low {a b : List Chg} (h : Mer.clashR a b = false) {x y : Chg} (hx : x ∈ a) (hy : y ∈ b) (hk : x.kind = y.kind) (sx : Mer.isSet x = false) (sy : Mer.isSet y = true) : y.index < x.index := by
  have := no_clash h hx hy
  unfold Mer.clash1 at this
  simpa [hk, sx, sy] using this

/-- The changes of a kind that do not clash. -/
structure JoinK (k : Int) (w p q : Rows1) (m n : Nat) : Prop where
  m1 : m ≤ w.length
  m2 : m ≤ p.length
  n1 : n ≤ w.length
  n2 : n ≤ q.length
  same : ∀ i f, i < m → i < n → f < (w.getD i []).length → (w.getD i []).getD f 0 ≠ (p.getD i []).getD f 0 → (w.getD i []).getD f 0 ≠ (q.getD i []).getD f 0 → (p.getD i []).getD f 0 = (q.getD i []).getD f 0
  rest : restL k w p m = [] ∨ restL k w q n = [] ∨ restL k w p m = restL k w q n
  low1 : restL k w p m ≠ [] → ∀ i f, i < n → f < (w.getD i []).length → (w.getD i []).getD f 0 ≠ (q.getD i []).getD f 0 → i < m
  low2 : restL k w q n ≠ [] → ∀ i f, i < m → f < (w.getD i []).length → (w.getD i []).getD f 0 ≠ (p.getD i []).getD f 0 → i < n
theorem set_gen {W P : List Rows1} {m : Nat → Nat} {N k : Nat} (hk : k < N) {i f : Nat} (hi : i < m k) (hf : f < ((W.getD k []).getD i []).length) (hp : ((W.getD k []).getD i []).getD f 0 ≠ ((P.getD k []).getD i []).getD f 0) :
    (⟨k, i, f, ((W.getD k []).getD i []).getD f 0, ((P.getD k []).getD i []).getD f 0, []⟩ : Chg) ∈ genL W P m N :=
  mem_genL.2 ⟨k, hk, by rw [listL_eq]; exact List.mem_append.2 (.inl (mem_sets.2 ⟨i, f, hi, hf, hp, rfl⟩))⟩
theorem rest_gen {W P : List Rows1} {m : Nat → Nat} {N k : Nat} (hk : k < N) {c : Chg} (hc : c ∈ restL (k : Int) (W.getD k []) (P.getD k []) (m k)) : c ∈ genL W P m N :=
  mem_genL.2 ⟨k, hk, by rw [listL_eq]; exact List.mem_append.2 (.inr hc)⟩
theorem joinK_of {W P Q : List Rows1} {m n : Nat → Nat} {N : Nat} (h : Mer.clashR (genL W P m N) (genL W Q n N) = false) {k : Nat} (hk : k < N)
    (m1 : m k ≤ (W.getD k []).length) (m2 : m k ≤ (P.getD k []).length) (n1 : n k ≤ (W.getD k []).length) (n2 : n k ≤ (Q.getD k []).length) : JoinK (k : Int) (W.getD k []) (P.getD k []) (Q.getD k []) (m k) (n k) where
  m1 := m1
  m2 := m2
  n1 := n1
  n2 := n2
  same i f hi hj hf hp hq := by
    have := (cf_of h).sets _ (set_gen hk hi hf hp) _ (set_gen hk hj hf hq) (isSet_set _ _ _ _ _) (isSet_set _ _ _ _ _) rfl rfl rfl
    exact congrArg Chg.new this
  rest := by
    have := (cf_of h).rest k
    rwa [ofR_genL W P m k false N hk, ofR_genL W Q n k false N hk, ofR_listL_false, ofR_listL_false] at this
  low1 hr i f hi hf hq := by
    obtain ⟨c, hc, hci⟩ := rest_least hr
    have := clash_low h (rest_gen hk hc) (set_gen hk hi hf hq) (rest_isSet c hc).1 (rest_isSet c hc).2 (isSet_set _ _ _ _ _)
    rw [hci] at this
    have h2 : (i : Int) < (m k : Nat) := this
    omega
  low2 hr i f hi hf hp := by
    obtain ⟨c, hc, hci⟩ := rest_least hr
    have := clash_low ((clashR_symm _ _).trans h) (rest_gen hk hc) (set_gen hk hi hf hp) (rest_isSet c hc).1 (rest_isSet c hc).2 (isSet_set _ _ _ _ _)
    rw [hci] at this
    have h2 : (i : Int) < (n k : Nat) := this
    omega
theorem rest_eq {k : Int} {w p q : Rows1} {m n : Nat} (hm2 : m ≤ p.length) (hn2 : n ≤ q.length) (h : restL k w p m = restL k w q n) (hne : restL k w p m ≠ []) :
    m = n ∧ p.length = q.length ∧ ∀ i, m ≤ i → p.getD i [] = q.getD i [] := by
  have hmn : m = n := by
    obtain ⟨c, hc, hci⟩ := rest_least hne
    obtain ⟨d, hd, hdi⟩ := rest_least (h ▸ hne)
    have g1 := rest_index c (h ▸ hc)
    have g2 := rest_index d (h ▸ hd)
    omega
  subst hmn
  have ha : adds k p m = adds k q m := by
    unfold restL at h
    exact List.append_cancel_left h
  have hl : p.length = q.length := by
    have := congrArg List.length ha
    simp only [adds, List.length_map, List.length_range] at this
    omega
  refine ⟨rfl, hl, fun i hi => ?_⟩
  by_cases g : i < p.length
  · have h1 : addC k p i ∈ adds k q m := by rw [← ha]; exact mem_adds.2 ⟨i, hi, g, rfl⟩
    obtain ⟨j, _, _, hj⟩ := mem_adds.1 h1
    unfold addC at hj
    injection hj with _ h2 _ _ _ h3
    have : i = j := by omega
    rw [this] at h3 ⊢
    exact h3
  · rw [getD_ge (by omega), getD_ge (by omega)]

/-- What two changes of a kind are together. -/
structure MixAt (k : Int) (w p q src : Rows1) (m n mx : Nat) : Prop where
  h1 : mx ≤ src.length
  h2 : mx ≤ w.length
  h3 : mx ≤ m
  h4 : mx ≤ n
  lowP : ∀ i f, i < m → f < (w.getD i []).length → (w.getD i []).getD f 0 ≠ (p.getD i []).getD f 0 → i < mx
  lowQ : ∀ i f, i < n → f < (w.getD i []).length → (w.getD i []).getD f 0 ≠ (q.getD i []).getD f 0 → i < mx
  rest : ∀ c, c ∈ restL k w src mx ↔ c ∈ restL k w p m ∨ c ∈ restL k w q n
  isrc : src = p ∨ src = q
  len : src.length = if p.length = w.length then q.length else p.length
  val : ∀ j v, mx ≤ j → j < w.length → j < p.length → j < q.length → v < (w.getD j []).length → (src.getD j []).getD v 0 = if (p.getD j []).getD v 0 = (w.getD j []).getD v 0 then (q.getD j []).getD v 0 else (p.getD j []).getD v 0
def srcK (w p q : Rows1) (m : Nat) : Rows1 := if w.length ≤ m ∧ p.length ≤ m then q else p
def mxK (w p : Rows1) (m n : Nat) : Nat := if w.length ≤ m ∧ p.length ≤ m then n else m
theorem mixAt_of {k : Int} {w p q : Rows1} {m n : Nat} (h : JoinK k w p q m n) : MixAt k w p q (srcK w p q m) m n (mxK w p m n) := by
  have m1 := h.m1
  have m2 := h.m2
  have n1 := h.n1
  have n2 := h.n2
  unfold srcK mxK
  by_cases g : w.length ≤ m ∧ p.length ≤ m
  · rw [if_pos g, if_pos g]
    have hr : restL k w p m = [] := rest_nil.2 g
    have lowP : ∀ i f, i < m → f < (w.getD i []).length → (w.getD i []).getD f 0 ≠ (p.getD i []).getD f 0 → i < n := fun i f hi hf hp => by
      by_cases hq : restL k w q n = []
      · have := rest_nil.1 hq
        omega
      · exact h.low2 hq i f hi hf hp
    exact {
      h1 := n2
      h2 := n1
      h3 := by omega
      h4 := Nat.le_refl _
      lowP := lowP
      lowQ := fun i f hi _ _ => hi
      rest := fun c => by rw [hr]; simp
      isrc := .inr rfl
      len := by rw [if_pos (by omega)]
      val := fun j v hj hw hp hq hv => by
        by_cases e : (p.getD j []).getD v 0 = (w.getD j []).getD v 0
        · rw [if_pos e]
        · have := lowP j v (by omega) hv (fun q => e q.symm)
          omega }
  · rw [if_neg g, if_neg g]
    have hne : restL k w p m ≠ [] := fun e => g (rest_nil.1 e)
    rcases h.rest with r | r | r
    · exact absurd r hne
    · have hq := rest_nil.1 r
      exact {
        h1 := m2
        h2 := m1
        h3 := Nat.le_refl _
        h4 := by omega
        lowP := fun i f hi _ _ => hi
        lowQ := h.low1 hne
        rest := fun c => by rw [r]; simp
        isrc := .inl rfl
        len := by
          split
          · omega
          · rfl
        val := fun j v hj hw hp hq' hv => by
          by_cases e : (p.getD j []).getD v 0 = (w.getD j []).getD v 0
          · rw [if_pos e, e]
            by_cases e2 : (w.getD j []).getD v 0 = (q.getD j []).getD v 0
            · exact e2
            · have := h.low1 hne j v (by omega) hv e2
              omega
          · rw [if_neg e] }
    · obtain ⟨e1, e2, e3⟩ := rest_eq m2 n2 r hne
      subst e1
      exact {
        h1 := m2
        h2 := m1
        h3 := Nat.le_refl _
        h4 := Nat.le_refl _
        lowP := fun i f hi _ _ => hi
        lowQ := fun i f hi _ _ => hi
        rest := fun c => by rw [← r]; simp
        isrc := .inl rfl
        len := by
          split
          · exact e2
          · rfl
        val := fun j v hj hw hp hq' hv => by
          rw [e3 j hj]
          split <;> rfl }

theorem rest_mix {k : Int} {w p q src : Rows1} {mx : Nat} (h : mx ≤ src.length) : restL k w (mixK w p q src mx) mx = restL k w src mx := by
  unfold restL adds
  rw [mixK_len h]
  congr 1
  refine List.map_congr_left fun j _ => ?_
  unfold addC
  rw [mixK_ge (by omega)]
theorem mix_mem {k : Int} {w p q src : Rows1} {m n mx : Nat} (h : JoinK k w p q m n) (x : MixAt k w p q src m n mx) (c : Chg) : c ∈ listL k w (mixK w p q src mx) mx ↔ c ∈ listL k w p m ∨ c ∈ listL k w q n := by
  have hsets : c ∈ sets k w (mixK w p q src mx) mx ↔ c ∈ sets k w p m ∨ c ∈ sets k w q n := by
    rw [mem_sets, mem_sets, mem_sets]
    have h3 := x.h3
    have h4 := x.h4
    constructor
    · rintro ⟨i, f, hi, hf, hne, rfl⟩
      rw [mixK_lt hi, mixR_at hf] at hne ⊢
      by_cases e : (p.getD i []).getD f 0 = (w.getD i []).getD f 0
      · rw [if_pos e] at hne ⊢
        exact .inr ⟨i, f, by omega, hf, hne, rfl⟩
      · rw [if_neg e] at hne ⊢
        exact .inl ⟨i, f, by omega, hf, hne, rfl⟩
    · rintro (⟨i, f, hi, hf, hne, rfl⟩ | ⟨i, f, hi, hf, hne, rfl⟩)
      · have hi' := x.lowP i f hi hf hne
        refine ⟨i, f, hi', hf, ?_⟩
        rw [mixK_lt hi', mixR_at hf, if_neg (fun e => hne e.symm)]
        exact ⟨hne, rfl⟩
      · have hi' := x.lowQ i f hi hf hne
        refine ⟨i, f, hi', hf, ?_⟩
        rw [mixK_lt hi', mixR_at hf]
        by_cases e : (p.getD i []).getD f 0 = (w.getD i []).getD f 0
        · rw [if_pos e]
          exact ⟨hne, rfl⟩
        · rw [if_neg e, h.same i f (by omega) hi hf (fun e' => e e'.symm) hne]
          exact ⟨hne, rfl⟩
  rw [listL_eq, listL_eq, listL_eq, List.mem_append, List.mem_append, List.mem_append, hsets, rest_mix x.h1, x.rest]
  constructor
  · rintro ((h | h) | (h | h))
    · exact .inl (.inl h)
    · exact .inr (.inl h)
    · exact .inl (.inr h)
    · exact .inr (.inr h)
  · rintro ((h | h) | (h | h))
    · exact .inl (.inl h)
    · exact .inr (.inl h)
    · exact .inl (.inr h)
    · exact .inr (.inr h)

/-! Worlds. -/
def mixX (W P Q : List Rows1) (m n : Nat → Nat) (k : Nat) : Rows1 := mixK (W.getD k []) (P.getD k []) (Q.getD k []) (srcK (W.getD k []) (P.getD k []) (Q.getD k []) (m k)) (mxK (W.getD k []) (P.getD k []) (m k) (n k))
def mixW (W P Q : List Rows1) (m n : Nat → Nat) : List Rows1 := (List.range W.length).map (mixX W P Q m n)
theorem mixW_len (W P Q : List Rows1) (m n : Nat → Nat) : (mixW W P Q m n).length = W.length := by simp [mixW]
theorem mixW_at {W P Q : List Rows1} {m n : Nat → Nat} {k : Nat} (h : k < W.length) : (mixW W P Q m n).getD k [] = mixX W P Q m n k := by
  rw [getD_eq (by rw [mixW_len]; exact h)]
  simp only [mixW, List.getElem_map, List.getElem_range]
theorem shapeW_getD {s : List Int} {W : List Rows1} (h : ShapeW s W) {k : Nat} (hk : k < W.length) : (W.getD k []).length ≤ 6 ∧ ∀ r ∈ W.getD k [], (r.length : Int) = s.getD k 0 ∧ ∀ x ∈ r, 0 ≤ x ∧ x < 3 := by
  rw [getD_eq hk]; exact h.2 k hk
theorem row_val {r : List Int} (h : ∀ x ∈ r, 0 ≤ x ∧ x < 3) (v : Nat) : 0 ≤ r.getD v 0 ∧ r.getD v 0 < 3 := by
  rcases getD_mem_or (xs := r) (i := v) (d := 0) with h1 | h1
  · exact h _ h1
  · rw [h1]; omega
theorem kind_val {a : Rows1} (h : ∀ r ∈ a, ∀ x ∈ r, 0 ≤ x ∧ x < 3) (i v : Nat) : 0 ≤ (a.getD i []).getD v 0 ∧ (a.getD i []).getD v 0 < 3 := by
  rcases getD_mem_or (xs := a) (i := i) (d := []) with h1 | h1
  · exact row_val (h _ h1) v
  · rw [h1]; simp
theorem mixW_shape {s : List Int} {W P Q : List Rows1} {m n : Nat → Nat} (hW : ShapeW s W) (hP : ShapeW s P) (hQ : ShapeW s Q) (hx : ∀ k, k < W.length → MixAt (k : Int) (W.getD k []) (P.getD k []) (Q.getD k []) (srcK (W.getD k []) (P.getD k []) (Q.getD k []) (m k)) (m k) (n k) (mxK (W.getD k []) (P.getD k []) (m k) (n k))) : ShapeW s (mixW W P Q m n) := by
  refine ⟨by rw [mixW_len]; exact hW.1, fun k hk => ?_⟩
  rw [mixW_len] at hk
  have hkp : k < P.length := by rw [hP.1, ← hW.1]; exact hk
  have hkq : k < Q.length := by rw [hQ.1, ← hW.1]; exact hk
  have sw := shapeW_getD hW hk
  have sp := shapeW_getD hP hkp
  have sq := shapeW_getD hQ hkq
  have hm := hx k hk
  have e : (mixW W P Q m n)[k]'(by rw [mixW_len]; exact hk) = mixX W P Q m n k := by rw [← mixW_at hk, getD_eq (by rw [mixW_len]; exact hk)]
  rw [e]
  unfold mixX
  have hsrc : (srcK (W.getD k []) (P.getD k []) (Q.getD k []) (m k)).length ≤ 6 ∧ ∀ r ∈ srcK (W.getD k []) (P.getD k []) (Q.getD k []) (m k), (r.length : Int) = s.getD k 0 ∧ ∀ x ∈ r, 0 ≤ x ∧ x < 3 := by
    rcases hm.isrc with g | g
    · rw [g]; exact sp
    · rw [g]; exact sq
  refine ⟨by rw [mixK_len hm.h1]; exact hsrc.1, fun r hr => ?_⟩
  rcases mixK_mem hr with ⟨i, hi, rfl⟩ | hr
  · have hil : i < (W.getD k []).length := Nat.lt_of_lt_of_le hi hm.h2
    rw [mixR_len]
    refine ⟨(sw.2 _ (by rw [getD_eq hil]; exact List.getElem_mem hil)).1, fun x hx => ?_⟩
    unfold mixR at hx
    simp only [List.mem_map, List.mem_range] at hx
    obtain ⟨v, _, rfl⟩ := hx
    split
    · exact kind_val (fun r hr => (sq.2 r hr).2) i v
    · exact kind_val (fun r hr => (sp.2 r hr).2) i v
  · exact hsrc.2 r hr

/-- What is asked of what merged changes lead to. -/
structure Merged (W P Q X : List Rows1) (k : Nat) : Prop where
  len : (X.getD k []).length = if (P.getD k []).length = (W.getD k []).length then (Q.getD k []).length else (P.getD k []).length
  row : ∀ j, j < (X.getD k []).length → j < (W.getD k []).length → ((X.getD k []).getD j []).length = ((W.getD k []).getD j []).length
  val : ∀ j v, j < (X.getD k []).length → j < (W.getD k []).length → j < (P.getD k []).length → j < (Q.getD k []).length → v < ((W.getD k []).getD j []).length →
    ((X.getD k []).getD j []).getD v 0 = if ((P.getD k []).getD j []).getD v 0 = ((W.getD k []).getD j []).getD v 0 then ((Q.getD k []).getD j []).getD v 0 else ((P.getD k []).getD j []).getD v 0
theorem merged_leads {s : List Int} {W P Q : List Rows1} (hs : ShapeOk s) (hW : ShapeW s W) (hP : ShapeW s P) (hQ : ShapeW s Q) (hc : Mer.clashR (diffC W P) (diffC W Q) = false) :
    ∃ X, ShapeW s X ∧ Run W (Mer.togetherR (diffC W P) (diffC W Q)) X ∧ ∀ k, k < W.length → Merged W P Q X k := by
  have o1 := shapeW_ok hW hP hs
  have o2 := shapeW_ok hW hQ hs
  have g1 := genOk_diff o1
  have g2 := genOk_diff o2
  have p1 := gen_plain g1 W.length
  have p2 := gen_plain g2 W.length
  rw [diffC_gen o1, diffC_gen o2] at hc ⊢
  generalize (fun k => sameL (W.getD k []) (P.getD k [])) = m at *
  generalize (fun k => sameL (W.getD k []) (Q.getD k [])) = n at *
  have hJ : ∀ k, k < W.length → JoinK (k : Int) (W.getD k []) (P.getD k []) (Q.getD k []) (m k) (n k) := fun k hk => joinK_of hc hk (g1.le1 k) (g1.le2 k) (g2.le1 k) (g2.le2 k)
  have hX : ∀ k, k < W.length → MixAt (k : Int) (W.getD k []) (P.getD k []) (Q.getD k []) (srcK (W.getD k []) (P.getD k []) (Q.getD k []) (m k)) (m k) (n k) (mxK (W.getD k []) (P.getD k []) (m k) (n k)) := fun k hk => mixAt_of (hJ k hk)
  have hS := mixW_shape hW hP hQ hX
  have o3 := shapeW_ok hW hS hs
  obtain ⟨mx, hmx⟩ : ∃ mx : Nat → Nat, mx = fun k => if k < W.length then mxK (W.getD k []) (P.getD k []) (m k) (n k) else 0 := ⟨_, rfl⟩
  have hmk : ∀ k, k < W.length → mx k = mxK (W.getD k []) (P.getD k []) (m k) (n k) := fun k hk => by rw [hmx]; simp only [if_pos hk]
  have hm0 : ∀ k, ¬ k < W.length → mx k = 0 := fun k hk => by rw [hmx]; simp only [if_neg hk]
  have g3 : GenOk W (mixW W P Q m n) mx := genOk_of o3 (fun k => by
      by_cases hk : k < W.length
      · rw [hmk k hk]; exact (hX k hk).h2
      · rw [hm0 k hk]; exact Nat.zero_le _) (fun k => by
      by_cases hk : k < W.length
      · rw [hmk k hk, mixW_at hk]
        unfold mixX
        rw [mixK_len (hX k hk).h1]
        exact (hX k hk).h1
      · rw [hm0 k hk]; exact Nat.zero_le _)
  have p3 := gen_plain g3 W.length
  have lt1 := Mer.plainP_lt ((Mer.plain_eq _).trans p1)
  have lt2 := Mer.plainP_lt ((Mer.plain_eq _).trans p2)
  have lt3 := Mer.plainP_lt ((Mer.plain_eq _).trans p3)
  have heq : Mer.togetherR (genL W P m W.length) (genL W Q n W.length) = genL W (mixW W P Q m n) mx W.length := by
    refine Mer.sorted_eq _ _ (Mer.together_sorted _ _ lt1 lt2 (cf_of hc)) lt3 fun c => ?_
    rw [Mer.together_mem, mem_genL, mem_genL, mem_genL]
    have key : ∀ k, k < W.length → (c ∈ listL (k : Int) (W.getD k []) ((mixW W P Q m n).getD k []) (mx k) ↔ c ∈ listL (k : Int) (W.getD k []) (P.getD k []) (m k) ∨ c ∈ listL (k : Int) (W.getD k []) (Q.getD k []) (n k)) := fun k hk => by
      rw [hmk k hk, mixW_at hk]
      exact mix_mem (hJ k hk) (hX k hk) c
    constructor
    · rintro (⟨k, hk, h⟩ | ⟨k, hk, h⟩)
      · exact ⟨k, hk, (key k hk).2 (.inl h)⟩
      · exact ⟨k, hk, (key k hk).2 (.inr h)⟩
    · rintro ⟨k, hk, h⟩
      rcases (key k hk).1 h with h | h
      · exact .inl ⟨k, hk, h⟩
      · exact .inr ⟨k, hk, h⟩
  refine ⟨mixW W P Q m n, hS, ?_, fun k hk => ?_⟩
  · rw [heq]
    exact gen_leads g3
  · have hx := hX k hk
    have hsk := shapeW_getD hS (show k < (mixW W P Q m n).length by rw [mixW_len]; exact hk)
    have sw := shapeW_getD hW hk
    refine ⟨?_, fun j hj hjw => ?_, fun j v hj hjw hjp hjq hv => ?_⟩
    · rw [mixW_at hk]
      unfold mixX
      rw [mixK_len hx.h1]
      exact hx.len
    · have e1 := (hsk.2 _ (show ((mixW W P Q m n).getD k []).getD j [] ∈ (mixW W P Q m n).getD k [] by rw [getD_eq hj]; exact List.getElem_mem hj)).1
      have e2 := (sw.2 _ (show (W.getD k []).getD j [] ∈ W.getD k [] by rw [getD_eq hjw]; exact List.getElem_mem hjw)).1
      omega
    · rw [mixW_at hk]
      unfold mixX
      by_cases g : j < mxK (W.getD k []) (P.getD k []) (m k) (n k)
      · rw [mixK_lt g, mixR_at hv]
      · rw [mixK_ge (by omega)]
        exact hx.val j v (by omega) hjw hjp hjq hv

theorem together_len (a b : List Chg) : (Mer.togetherR a b).length ≤ a.length + b.length := by
  fun_induction Mer.togetherR a b with
  | case1 b => simp
  | case2 x a => simp
  | case3 a y b ih => simp; omega
  | case4 x a y b h1 h2 ih => simp at ih ⊢; omega
  | case5 x a y b h1 h2 ih => simp at ih ⊢; omega
/-- What Merge answers to the changes of two authors. -/
theorem merge_cases {s : List Int} {W P Q : List Rows1} (hs : ShapeOk s) (hW : ShapeW s W) (hP : ShapeW s P) (hQ : ShapeW s Q) :
    (mergeE (diffC W Q) (diffC W P) = mergeE (diffC W P) (diffC W Q) ∧ mergeL (diffC W Q) (diffC W P) = mergeL (diffC W P) (diffC W Q)) ∧
      ((mergeL (diffC W P) (diffC W Q)).length ≤ 600 ∧ ∀ c ∈ mergeL (diffC W P) (diffC W Q), c.values.length ≤ 100000) ∧
      (mergeE (diffC W P) (diffC W Q) = 14 ∨ mergeE (diffC W P) (diffC W Q) = 0 ∧ ∃ X, ShapeW s X ∧ applyL W (mergeL (diffC W P) (diffC W Q)) = (0, X) ∧ ∀ k, k < W.length → Merged W P Q X k) := by
  have p1 : Mer.plainR (diffC W P) = true := by
    rw [diffC_gen (shapeW_ok hW hP hs)]
    exact gen_plain (genOk_diff (shapeW_ok hW hP hs)) _
  have p2 : Mer.plainR (diffC W Q) = true := by
    rw [diffC_gen (shapeW_ok hW hQ hs)]
    exact gen_plain (genOk_diff (shapeW_ok hW hQ hs)) _
  have l1 := diffC_len_small hW hP hs
  have l2 := diffC_len_small hW hQ hs
  have g1 := diffC_good hW hP hs
  have g2 := diffC_good hW hQ hs
  have hlen := together_len (diffC W P) (diffC W Q)
  have hm := merge_symm p1 p2
  refine ⟨⟨hm.1.symm, hm.2.symm⟩, ?_⟩
  cases hc : Mer.clashR (diffC W P) (diffC W Q)
  · have eE : mergeE (diffC W P) (diffC W Q) = 0 := by unfold mergeE; rw [p1, p2, hc]; rfl
    have eL : mergeL (diffC W P) (diffC W Q) = Mer.togetherR (diffC W P) (diffC W Q) := by unfold mergeL; rw [p1, p2, hc]; rfl
    rw [eE, eL]
    refine ⟨⟨by omega, fun c hc => ?_⟩, .inr ⟨rfl, ?_⟩⟩
    · rcases (Mer.together_mem ..).1 hc with h | h
      · have := (g1 c h).len; omega
      · have := (g2 c h).len; omega
    · obtain ⟨X, hX, hr, hall⟩ := merged_leads hs hW hP hQ hc
      exact ⟨X, hX, applyL_run (shapeW_shaped hW hs) (by omega) hr (shapeW_total hX hs), hall⟩
  · have eE : mergeE (diffC W P) (diffC W Q) = 14 := by unfold mergeE; rw [p1, p2, hc]; rfl
    have eL : mergeL (diffC W P) (diffC W Q) = [] := by unfold mergeL; rw [p1, p2, hc]; rfl
    rw [eE, eL]
    exact ⟨⟨by simp, fun c hc => by simp at hc⟩, .inl rfl⟩
theorem shape_row {s : List Int} {A B : List Rows1} (hA : ShapeW s A) (hB : ShapeW s B) {k : Nat} (hk : k < A.length) {j : Nat} (h1 : j < (A.getD k []).length) (h2 : j < (B.getD k []).length) : ((B.getD k []).getD j []).length = ((A.getD k []).getD j []).length := by
  have e1 := ((shapeW_getD hA hk).2 _ (show (A.getD k []).getD j [] ∈ A.getD k [] by rw [getD_eq h1]; exact List.getElem_mem h1)).1
  have e2 := ((shapeW_getD hB (show k < B.length by rw [hB.1, ← hA.1]; exact hk)).2 _ (show (B.getD k []).getD j [] ∈ B.getD k [] by rw [getD_eq h2]; exact List.getElem_mem h2)).1
  omega

end Go.Proofs.Yteepdnamkcgndaa
