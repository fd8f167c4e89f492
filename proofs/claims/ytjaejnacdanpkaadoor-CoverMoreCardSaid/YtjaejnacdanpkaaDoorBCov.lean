/- The plain law of layer 28: rows, combinations, what is left out, what shows it, and the rows that are found. The plain law of layer 28, second part: what Check asks, what the greedy choice gives, why a set of forbidden combinations is the least, and the least number of rows. The plain law of layer 28, third part: how many combinations have values at the same features. -/
import Derived.Test.YtjaejnacdanpkaaDoorRows
namespace Go.Proofs.YtjaejnacdanpkaaDoor
namespace Cov

/-- A row has a combination. -/
def has (a b : List Int) : Bool := (a.zip b).all fun p => decide (p.2 < 0 ∨ p.1 = p.2)
/-- How many values a combination has. -/
def vals (c : List Int) : Nat := (c.filter fun x => decide (0 ≤ x)).length
/-- All rows, in order. -/
def rowsC : List Nat → List (List Int)
  | [] => [[]]
  | n :: ns => (List.range n).flatMap fun (v : Nat) => (rowsC ns).map fun r => (v : Int) :: r
/-- All combinations, in order. -/
def allG : List Nat → List (List Int)
  | [] => [[]]
  | n :: ns => (List.range (n + 1)).flatMap fun (v : Nat) => (allG ns).map fun r => ((v : Int) - 1) :: r
def allowed (F : List (List Int)) (r : List Int) : Bool := !(F.any fun c => has r c)
def inR (rows : List (List Int)) (c : List Int) : Bool := rows.any fun r => has r c

/-- The rows that are filled in: n: how many values; whether the place is open; what stands there if it is not. -/
def fillS : List (Nat × Bool × Int) → List (List Int)
  | [] => [[]]
  | (n, true, _) :: r => (List.range n).flatMap fun (v : Nat) => (fillS r).map fun l => (v : Int) :: l
  | (_, false, x) :: r => (fillS r).map fun l => x :: l

/-- A combination of the sizes. -/
def comboB : List Nat → List Int → Bool
  | [], [] => true
  | n :: ns, x :: xs => decide (-1 ≤ x ∧ x < n) && comboB ns xs
  | _, _ => false
def rowB : List Nat → List Int → Bool
  | [], [] => true
  | n :: ns, x :: xs => decide (0 ≤ x ∧ x < n) && rowB ns xs
  | _, _ => false

theorem has_cons (x y : Int) (a b : List Int) : has (x :: a) (y :: b) = (decide (y < 0 ∨ x = y) && has a b) := by simp [has]

theorem mem_rowsC : ∀ (ns : List Nat) (r : List Int), r ∈ rowsC ns ↔ rowB ns r = true
  | [], r => by cases r <;> simp [rowsC, rowB]
  | n :: ns, r => by
    cases r with
    | nil => simp [rowsC, rowB]
    | cons x r =>
      simp only [rowsC, List.mem_flatMap, List.mem_range, List.mem_map, List.cons.injEq, rowB, Bool.and_eq_true, decide_eq_true_eq]
      constructor
      · rintro ⟨v, hv, l, hl, rfl, rfl⟩
        exact ⟨by omega, (mem_rowsC ns l).1 hl⟩
      · rintro ⟨⟨h1, h2⟩, h3⟩
        exact ⟨x.toNat, by omega, r, (mem_rowsC ns r).2 h3, by omega, rfl⟩
theorem mem_allG : ∀ (ns : List Nat) (r : List Int), r ∈ allG ns ↔ comboB ns r = true
  | [], r => by cases r <;> simp [allG, comboB]
  | n :: ns, r => by
    cases r with
    | nil => simp [allG, comboB]
    | cons x r =>
      simp only [allG, List.mem_flatMap, List.mem_range, List.mem_map, List.cons.injEq, comboB, Bool.and_eq_true, decide_eq_true_eq]
      constructor
      · rintro ⟨v, hv, l, hl, rfl, rfl⟩
        exact ⟨by omega, (mem_allG ns l).1 hl⟩
      · rintro ⟨⟨h1, h2⟩, h3⟩
        exact ⟨(x + 1).toNat, by omega, r, (mem_allG ns r).2 h3, by omega, rfl⟩

/-- The rows that go on from a combination. -/
def openC (ns : List Nat) (c : List Int) : List (Nat × Bool × Int) := (ns.zip c).map fun p => (p.1, decide (p.2 = -1), p.2)

theorem filter_range_one (n : Nat) (y : Nat) (hy : y < n) (f : Nat → List (List Int)) : ((List.range n).filter fun v => decide (v = y)).flatMap f = f y := by
  have : (List.range n).filter (fun v => decide (v = y)) = [y] := by
    induction n with
    | zero => omega
    | succ n ih =>
      rw [List.range_succ, List.filter_append]
      by_cases h : y = n
      · subst h
        have : (List.range y).filter (fun v => decide (v = y)) = [] := by
          rw [List.filter_eq_nil_iff]; intro a ha; simp at ha; simp; omega
        rw [this]; simp
      · rw [ih (by omega)]; simp; omega
  rw [this]; simp

theorem flatMap_filter_nil {α β : Type} (p : α → Bool) (f : α → List β) : ∀ l : List α, (∀ x ∈ l, p x = false → f x = []) → l.flatMap f = (l.filter p).flatMap f
  | [], _ => rfl
  | x :: l, h => by
    have ih := flatMap_filter_nil p f l (fun y hy => h y (List.mem_cons_of_mem _ hy))
    rw [List.flatMap_cons, List.filter_cons, ih]
    cases hp : p x with
    | true => simp
    | false => rw [h x (List.mem_cons_self ..) hp]; simp

/-- What the program lists from a combination are the rows that have it. -/
theorem fill_rows : ∀ (ns : List Nat) (c : List Int), comboB ns c = true → fillS (openC ns c) = (rowsC ns).filter fun r => has r c
  | [], [], _ => by simp [openC, fillS, rowsC, has]
  | [], _ :: _, h => by simp [comboB] at h
  | _ :: _, [], h => by simp [comboB] at h
  | n :: ns, y :: c, h => by
    simp only [comboB, Bool.and_eq_true, decide_eq_true_eq] at h
    obtain ⟨⟨h1, h2⟩, h3⟩ := h
    have ih := fill_rows ns c h3
    have e : ∀ v : Nat, (((rowsC ns).map fun r => (v : Int) :: r).filter fun r => has r (y :: c)) = if (y < 0 ∨ (v : Int) = y) then ((rowsC ns).filter fun r => has r c).map fun r => (v : Int) :: r else [] := by
      intro v
      rw [List.filter_map]
      split
      · rename_i hv
        congr 1
        refine List.filter_congr fun r _ => ?_
        simp [has_cons, hv]
      · rename_i hv
        have : (rowsC ns).filter ((fun r => has r (y :: c)) ∘ fun r => (v : Int) :: r) = [] := by
          rw [List.filter_eq_nil_iff]; intro r _; simp [has_cons, hv]
        rw [this]; rfl
    have e2 : (rowsC (n :: ns)).filter (fun r => has r (y :: c)) = (List.range n).flatMap fun (v : Nat) => if (y < 0 ∨ (v : Int) = y) then ((rowsC ns).filter fun r => has r c).map fun r => (v : Int) :: r else [] := by
      show ((List.range n).flatMap fun (v : Nat) => (rowsC ns).map fun r => (v : Int) :: r).filter _ = _
      rw [List.filter_flatMap]
      congr 1
      funext v
      exact e v
    rw [e2]
    by_cases hy : y = -1
    · subst hy
      show fillS ((n, true, -1) :: openC ns c) = _
      unfold fillS
      rw [ih]
      congr 1
    · have ho : openC (n :: ns) (y :: c) = (n, false, y) :: openC ns c := by simp [openC, hy]
      rw [ho]
      unfold fillS
      rw [ih]
      obtain ⟨m, rfl⟩ := Int.eq_ofNat_of_zero_le (show 0 ≤ y by omega)
      rw [flatMap_filter_nil (fun v => decide (v = m))]
      · rw [filter_range_one n m (by omega)]
        rw [if_pos (.inr rfl)]
      · intro v _ hv
        have hv' : ¬ v = m := by simpa using hv
        rw [if_neg (by omega)]


/-- What a row has at the features of a set. -/
def maskC : List Int → Nat → List Int
  | [], _ => []
  | x :: r, s => (if s % 2 = 1 then x else -1) :: maskC r (s / 2)
/-- How many of the first n features a set has. -/
def pop : Nat → Nat → Nat
  | 0, _ => 0
  | n + 1, s => s % 2 + pop n (s / 2)
/-- The set of the features for which a combination has a value. -/
def supp : List Int → Nat
  | [] => 0
  | x :: c => (if 0 ≤ x then 1 else 0) + 2 * supp c
/-- The sets of t of n features, in order. -/
def masks (n t : Nat) : List Nat := (List.range (2 ^ n)).filter fun s => decide (pop n s = t)

theorem maskC_len : ∀ (r : List Int) (s : Nat), (maskC r s).length = r.length
  | [], _ => rfl
  | _ :: r, s => by simp [maskC, maskC_len r]
theorem supp_lt : ∀ c : List Int, supp c < 2 ^ c.length
  | [] => by simp [supp]
  | x :: c => by
    have := supp_lt c
    simp only [supp, List.length_cons, Nat.pow_succ]
    split <;> omega
theorem vals_cons (x : Int) (c : List Int) : vals (x :: c) = (if 0 ≤ x then 1 else 0) + vals c := by
  unfold vals
  rw [List.filter_cons]
  split
  · rename_i h; rw [if_pos (by simpa using h)]; simp; omega
  · rename_i h; rw [if_neg (by simpa using h)]; simp
theorem pop_supp : ∀ c : List Int, pop c.length (supp c) = vals c
  | [] => rfl
  | x :: c => by
    rw [vals_cons]
    simp only [List.length_cons, pop, supp]
    have e1 : ((if 0 ≤ x then 1 else 0) + 2 * supp c) % 2 = if 0 ≤ x then 1 else 0 := by split <;> omega
    have e2 : ((if 0 ≤ x then 1 else 0) + 2 * supp c) / 2 = supp c := by split <;> omega
    rw [e1, e2, pop_supp c]
theorem supp_mask : ∀ (ns : List Nat) (r : List Int), rowB ns r = true → ∀ s, s < 2 ^ ns.length → supp (maskC r s) = s
  | [], [], _, s, hs => by simp at hs; simp [maskC, supp, hs]
  | n :: ns, x :: r, h, s, hs => by
    simp only [rowB, Bool.and_eq_true, decide_eq_true_eq] at h
    simp only [List.length_cons, Nat.pow_succ] at hs
    have ih := supp_mask ns r h.2 (s / 2) (by omega)
    simp only [maskC, supp, ih]
    by_cases h2 : s % 2 = 1
    · rw [if_pos h2, if_pos h.1.1]; omega
    · rw [if_neg h2]; simp; omega
  | [], _ :: _, h, _, _ => by simp [rowB] at h
  | _ :: _, [], h, _, _ => by simp [rowB] at h
theorem has_mask : ∀ (r : List Int) (s : Nat), has r (maskC r s) = true
  | [], _ => rfl
  | x :: r, s => by
    simp only [maskC, has_cons, has_mask r (s / 2), Bool.and_true, decide_eq_true_eq]
    split
    · exact .inr rfl
    · exact .inl (by decide)
theorem comboB_len : ∀ (ns : List Nat) (c : List Int), comboB ns c = true → c.length = ns.length
  | [], [], _ => rfl
  | n :: ns, x :: c, h => by simp only [comboB, Bool.and_eq_true] at h; simp [comboB_len ns c h.2]
  | [], _ :: _, h => by simp [comboB] at h
  | _ :: _, [], h => by simp [comboB] at h
theorem rowB_combo : ∀ (ns : List Nat) (r : List Int), rowB ns r = true → comboB ns r = true
  | [], [], _ => rfl
  | n :: ns, x :: r, h => by
    simp only [rowB, comboB, Bool.and_eq_true, decide_eq_true_eq] at h ⊢
    exact ⟨by omega, rowB_combo ns r h.2⟩
  | [], _ :: _, h => by simp [rowB] at h
  | _ :: _, [], h => by simp [rowB] at h
theorem mask_combo : ∀ (ns : List Nat) (r : List Int) (s : Nat), rowB ns r = true → comboB ns (maskC r s) = true
  | [], [], _, _ => rfl
  | n :: ns, x :: r, s, h => by
    simp only [rowB, Bool.and_eq_true, decide_eq_true_eq] at h
    simp only [maskC, comboB, Bool.and_eq_true, decide_eq_true_eq]
    refine ⟨?_, mask_combo ns r _ h.2⟩
    split <;> omega
  | [], _ :: _, _, h => by simp [rowB] at h
  | _ :: _, [], _, h => by simp [rowB] at h
/-- A combination that a row has is what the row has at its features. -/
theorem mask_supp : ∀ (ns : List Nat) (r c : List Int), rowB ns r = true → comboB ns c = true → has r c = true → maskC r (supp c) = c
  | [], [], [], _, _, _ => rfl
  | n :: ns, x :: r, y :: c, h1, h2, h3 => by
    simp only [rowB, Bool.and_eq_true, decide_eq_true_eq] at h1
    simp only [comboB, Bool.and_eq_true, decide_eq_true_eq] at h2
    simp only [has_cons, Bool.and_eq_true, decide_eq_true_eq] at h3
    have ih := mask_supp ns r c h1.2 h2.2 h3.2
    have e3 : supp (y :: c) / 2 = supp c := by simp only [supp]; split <;> omega
    show (if supp (y :: c) % 2 = 1 then x else -1) :: maskC r (supp (y :: c) / 2) = y :: c
    rw [e3, ih]
    by_cases hy : 0 ≤ y
    · have e1 : supp (y :: c) % 2 = 1 := by simp only [supp]; rw [if_pos hy]; omega
      rw [if_pos e1]
      rcases h3.1 with h | h
      · omega
      · rw [h]
    · have e1 : ¬ supp (y :: c) % 2 = 1 := by simp only [supp]; rw [if_neg hy]; omega
      rw [if_neg e1]
      congr 1
      omega
  | [], _ :: _, _, h, _, _ => by simp [rowB] at h
  | _ :: _, [], _, h, _, _ => by simp [rowB] at h
  | [], [], _ :: _, _, h, _ => by simp [comboB] at h
  | _ :: _, _ :: _, [], _, h, _ => by simp [comboB] at h

/-- The parts of a row at the sets of t features are the combinations of t that it has. -/
theorem mem_parts {ns : List Nat} {r : List Int} (h : rowB ns r = true) (t : Nat) (c : List Int) :
    c ∈ (masks ns.length t).map (maskC r) ↔ comboB ns c = true ∧ vals c = t ∧ has r c = true := by
  have hr := comboB_len ns r (rowB_combo ns r h)
  constructor
  · intro hc
    obtain ⟨s, hs, rfl⟩ := List.mem_map.1 hc
    unfold masks at hs
    obtain ⟨h1, h2⟩ := List.mem_filter.1 hs
    simp only [List.mem_range, decide_eq_true_eq] at h1 h2
    refine ⟨mask_combo ns r s h, ?_, has_mask r s⟩
    rw [← pop_supp, maskC_len, hr, supp_mask ns r h s h1, h2]
  · rintro ⟨h1, h2, h3⟩
    have hl := comboB_len ns c h1
    refine List.mem_map.2 ⟨supp c, List.mem_filter.2 ⟨List.mem_range.2 (by rw [← hl]; exact supp_lt c), ?_⟩, mask_supp ns r c h h1 h3⟩
    rw [decide_eq_true_eq, ← hl, pop_supp, h2]
theorem nodup_range (n : Nat) : (List.range n).Nodup := List.nodup_range
theorem nodup_parts {ns : List Nat} {r : List Int} (h : rowB ns r = true) (t : Nat) : ((masks ns.length t).map (maskC r)).Nodup := by
  have h1 : (masks ns.length t).Nodup := List.Pairwise.filter _ List.nodup_range
  refine List.Pairwise.map (R := fun a b => a ≠ b ∧ a < 2 ^ ns.length ∧ b < 2 ^ ns.length) _ (fun a b ⟨h2, h3, h4⟩ e => h2 ?_) ?_
  · rw [← supp_mask ns r h a h3, ← supp_mask ns r h b h4, e]
  · refine List.Pairwise.imp_of_mem (fun {a b} ha hb hab => ⟨hab, ?_, ?_⟩) h1
    · unfold masks at ha; exact List.mem_range.1 (List.mem_filter.1 ha).1
    · unfold masks at hb; exact List.mem_range.1 (List.mem_filter.1 hb).1

/-- Lists without repetition that have the same elements are equally long. -/
theorem len_of_mem {α : Type} [DecidableEq α] : ∀ (l m : List α), l.Nodup → m.Nodup → (∀ x, x ∈ l ↔ x ∈ m) → l.length = m.length
  | [], m, _, _, h => by
    cases m with
    | nil => rfl
    | cons y m => exact absurd ((h y).2 (List.mem_cons_self ..)) (by simp)
  | x :: l, m, hl, hm, h => by
    have hx : x ∈ m := (h x).1 (List.mem_cons_self ..)
    have hl' := List.nodup_cons.1 hl
    have ih := len_of_mem l (m.erase x) hl'.2 (hm.erase x) (fun y => by
      rw [hm.mem_erase_iff]
      constructor
      · intro hy
        exact ⟨fun e => hl'.1 (e ▸ hy), (h y).1 (List.mem_cons_of_mem _ hy)⟩
      · rintro ⟨h1, h2⟩
        rcases List.mem_cons.1 ((h y).2 h2) with h3 | h3
        · exact absurd h3 h1
        · exact h3)
    rw [List.length_cons, ih, List.length_erase_of_mem hx]
    have := List.length_pos_of_mem hx
    omega

/-- How many of the open combinations a row has, counted by its parts. -/
theorem count_parts {ns : List Nat} {r : List Int} (h : rowB ns r = true) (t : Nat) (op : List (List Int)) (hop : op.Nodup) (hc : ∀ c ∈ op, comboB ns c = true ∧ vals c = t) :
    ((masks ns.length t).filter fun s => decide (maskC r s ∈ op)).length = (op.filter fun c => has r c).length := by
  have e : ((masks ns.length t).filter fun s => decide (maskC r s ∈ op)).length = (((masks ns.length t).map (maskC r)).filter fun c => decide (c ∈ op)).length := by
    rw [List.filter_map, List.length_map]; rfl
  rw [e]
  refine len_of_mem _ _ ((nodup_parts h t).filter _) (hop.filter _) (fun c => ?_)
  rw [List.mem_filter, List.mem_filter, mem_parts h, decide_eq_true_eq]
  constructor
  · rintro ⟨⟨_, _, h3⟩, h4⟩; exact ⟨h4, h3⟩
  · rintro ⟨h1, h2⟩; exact ⟨⟨(hc c h1).1, (hc c h1).2, h2⟩, h1⟩


/-- The order of combinations: by the first place at which they part. -/
def ltL : List Int → List Int → Bool
  | [], [] => false
  | [], _ :: _ => true
  | _ :: _, [] => false
  | x :: a, y :: b => decide (x < y) || (decide (x = y) && ltL a b)

theorem ltL_irrefl : ∀ a : List Int, ltL a a = false
  | [] => rfl
  | x :: a => by simp [ltL, ltL_irrefl a]
theorem ltL_trans : ∀ a b c : List Int, ltL a b = true → ltL b c = true → ltL a c = true
  | [], [], _, h, _ => by simp [ltL] at h
  | [], _ :: _, [], _, h => by simp [ltL] at h
  | [], _ :: _, _ :: _, _, _ => rfl
  | _ :: _, [], _, h, _ => by simp [ltL] at h
  | _ :: _, _ :: _, [], _, h => by simp [ltL] at h
  | x :: a, y :: b, z :: c, h1, h2 => by
    simp only [ltL, Bool.or_eq_true, decide_eq_true_eq, Bool.and_eq_true] at h1 h2 ⊢
    rcases h1 with h1 | ⟨h1, h1'⟩
    · rcases h2 with h2 | ⟨h2, _⟩
      · exact .inl (by omega)
      · exact .inl (by omega)
    · rcases h2 with h2 | ⟨h2, h2'⟩
      · exact .inl (by omega)
      · exact .inr ⟨by omega, ltL_trans a b c h1' h2'⟩
theorem ltL_total : ∀ a b : List Int, ltL a b = true ∨ a = b ∨ ltL b a = true
  | [], [] => .inr (.inl rfl)
  | [], _ :: _ => .inl rfl
  | _ :: _, [] => .inr (.inr rfl)
  | x :: a, y :: b => by
    simp only [ltL, Bool.or_eq_true, decide_eq_true_eq, Bool.and_eq_true, List.cons.injEq]
    rcases ltL_total a b with h | h | h <;> by_cases h1 : x < y <;> by_cases h2 : x = y <;> simp_all <;> omega

/-- Sorted lists with the same elements are equal. -/
theorem sorted_unique : ∀ (l m : List (List Int)), l.Pairwise (fun a b => ltL a b = true) → m.Pairwise (fun a b => ltL a b = true) → (∀ x, x ∈ l ↔ x ∈ m) → l = m
  | [], [], _, _, _ => rfl
  | [], y :: m, _, _, h => absurd ((h y).2 (List.mem_cons_self ..)) (by simp)
  | x :: l, [], _, _, h => absurd ((h x).1 (List.mem_cons_self ..)) (by simp)
  | x :: l, y :: m, hl, hm, h => by
    obtain ⟨hl1, hl2⟩ := List.pairwise_cons.1 hl
    obtain ⟨hm1, hm2⟩ := List.pairwise_cons.1 hm
    have hxy : x = y := by
      rcases List.mem_cons.1 ((h x).1 (List.mem_cons_self ..)) with h1 | h1
      · exact h1
      · rcases List.mem_cons.1 ((h y).2 (List.mem_cons_self ..)) with h2 | h2
        · exact h2.symm
        · have h3 := ltL_trans _ _ _ (hm1 x h1) (hl1 y h2)
          rw [ltL_irrefl] at h3
          exact absurd h3 (by decide)
    subst hxy
    have hx1 : x ∉ l := fun hx => by have := hl1 x hx; rw [ltL_irrefl] at this; exact absurd this (by decide)
    have hx2 : x ∉ m := fun hx => by have := hm1 x hx; rw [ltL_irrefl] at this; exact absurd this (by decide)
    rw [sorted_unique l m hl2 hm2 (fun z => ?_)]
    have hz := h z
    simp only [List.mem_cons] at hz
    by_cases e : z = x
    · subst e; exact ⟨fun h => absurd h hx1, fun h => absurd h hx2⟩
    · simpa [e] using hz

theorem pairwise_flatMap_range (f : Nat → List (List Int)) (R : List Int → List Int → Prop) : ∀ n, (∀ v, v < n → (f v).Pairwise R) → (∀ v u, v < u → u < n → ∀ a ∈ f v, ∀ b ∈ f u, R a b) → ((List.range n).flatMap f).Pairwise R
  | 0, _, _ => by simp
  | n + 1, h1, h2 => by
    rw [List.range_succ, List.flatMap_append]
    refine List.pairwise_append.2 ⟨pairwise_flatMap_range f R n (fun v hv => h1 v (by omega)) (fun v u hvu hu => h2 v u hvu (by omega)), by simpa using h1 n (by omega), fun a ha b hb => ?_⟩
    obtain ⟨v, hv, ha⟩ := List.mem_flatMap.1 ha
    have hb' : b ∈ f n := by simpa using hb
    exact h2 v n (List.mem_range.1 hv) (by omega) a ha b hb'
theorem allG_sorted : ∀ ns : List Nat, (allG ns).Pairwise (fun a b => ltL a b = true)
  | [] => by simp [allG]
  | n :: ns => by
    unfold allG
    refine pairwise_flatMap_range _ _ _ (fun v _ => ?_) (fun v u hvu _ a ha b hb => ?_)
    · refine List.Pairwise.map _ (fun a b h => ?_) (allG_sorted ns)
      simp [ltL, h]
    · obtain ⟨a', _, rfl⟩ := List.mem_map.1 ha
      obtain ⟨b', _, rfl⟩ := List.mem_map.1 hb
      simp only [ltL, Bool.or_eq_true, decide_eq_true_eq]
      exact .inl (by omega)
theorem rowsC_sorted : ∀ ns : List Nat, (rowsC ns).Pairwise (fun a b => ltL a b = true)
  | [] => by simp [rowsC]
  | n :: ns => by
    unfold rowsC
    refine pairwise_flatMap_range _ _ _ (fun v _ => ?_) (fun v u hvu _ a ha b hb => ?_)
    · refine List.Pairwise.map _ (fun a b h => ?_) (rowsC_sorted ns)
      simp [ltL, h]
    · obtain ⟨a', _, rfl⟩ := List.mem_map.1 ha
      obtain ⟨b', _, rfl⟩ := List.mem_map.1 hb
      simp only [ltL, Bool.or_eq_true, decide_eq_true_eq]
      exact .inl (by omega)
theorem nodup_of_sorted {l : List (List Int)} (h : l.Pairwise (fun a b => ltL a b = true)) : l.Nodup :=
  h.imp (fun {a b} hab e => by subst e; rw [ltL_irrefl] at hab; exact absurd hab (by decide))

/-- The combinations of t. -/
def asked (ns : List Nat) (t : Nat) : List (List Int) := (allG ns).filter fun c => decide (vals c = t)
theorem mem_asked {ns : List Nat} {t : Nat} {c : List Int} : c ∈ asked ns t ↔ comboB ns c = true ∧ vals c = t := by
  unfold asked; rw [List.mem_filter, mem_allG, decide_eq_true_eq]
theorem asked_sorted (ns : List Nat) (t : Nat) : (asked ns t).Pairwise (fun a b => ltL a b = true) := (allG_sorted ns).filter _

/-- The combinations with values at a set's features. -/
def openM : List Nat → Nat → List (Nat × Bool × Int)
  | [], _ => []
  | n :: ns, s => (n, decide (s % 2 = 1), -1) :: openM ns (s / 2)
theorem mem_fillM : ∀ (ns : List Nat) (s : Nat), s < 2 ^ ns.length → ∀ c, c ∈ fillS (openM ns s) ↔ comboB ns c = true ∧ supp c = s
  | [], s, hs, c => by
    simp at hs
    cases c <;> simp [openM, fillS, comboB, supp, hs]
  | n :: ns, s, hs, c => by
    simp only [List.length_cons, Nat.pow_succ] at hs
    have ih := mem_fillM ns (s / 2) (by omega)
    by_cases h2 : s % 2 = 1
    · have e : openM (n :: ns) s = (n, true, -1) :: openM ns (s / 2) := by simp [openM, h2]
      rw [e]
      unfold fillS
      cases c with
      | nil => simp [comboB]
      | cons x c =>
        simp only [List.mem_flatMap, List.mem_range, List.mem_map, List.cons.injEq, comboB, Bool.and_eq_true, decide_eq_true_eq]
        constructor
        · rintro ⟨v, hv, l, hl, rfl, rfl⟩
          obtain ⟨i1, i2⟩ := (ih l).1 hl
          refine ⟨⟨by omega, i1⟩, ?_⟩
          simp only [supp]
          rw [if_pos (by omega)]
          omega
        · rintro ⟨⟨h3, h4⟩, h5⟩
          simp only [supp] at h5
          have hx : 0 ≤ x := by
            by_cases hx : 0 ≤ x
            · exact hx
            · rw [if_neg hx] at h5; omega
          rw [if_pos hx] at h5
          exact ⟨x.toNat, by omega, c, (ih c).2 ⟨h4, by omega⟩, by omega, rfl⟩
    · have e : openM (n :: ns) s = (n, false, -1) :: openM ns (s / 2) := by simp [openM, h2]
      rw [e]
      unfold fillS
      cases c with
      | nil => simp [comboB]
      | cons x c =>
        simp only [List.mem_map, List.cons.injEq, comboB, Bool.and_eq_true, decide_eq_true_eq]
        constructor
        · rintro ⟨l, hl, rfl, rfl⟩
          obtain ⟨i1, i2⟩ := (ih l).1 hl
          refine ⟨⟨by omega, i1⟩, ?_⟩
          simp only [supp]
          rw [if_neg (by decide)]
          omega
        · rintro ⟨⟨h3, h4⟩, h5⟩
          simp only [supp] at h5
          have hx : ¬ 0 ≤ x := by
            intro hx
            rw [if_pos hx] at h5
            omega
          rw [if_neg hx] at h5
          exact ⟨c, (ih c).2 ⟨h4, by omega⟩, by omega, rfl⟩

/-- What the program lists ahead of sorting. -/
def listM (ns : List Nat) (t : Nat) (p : List Int → Bool) : List (List Int) := (masks ns.length t).flatMap fun s => (fillS (openM ns s)).filter fun c => !p c
theorem mem_listM {ns : List Nat} {t : Nat} {p : List Int → Bool} {c : List Int} : c ∈ listM ns t p ↔ c ∈ (asked ns t).filter fun c => !p c := by
  unfold listM
  rw [List.mem_flatMap, List.mem_filter, mem_asked]
  constructor
  · rintro ⟨s, hs, hc⟩
    obtain ⟨hc, hp⟩ := List.mem_filter.1 hc
    unfold masks at hs
    obtain ⟨h1, h2⟩ := List.mem_filter.1 hs
    simp only [List.mem_range, decide_eq_true_eq] at h1 h2
    obtain ⟨h3, h4⟩ := (mem_fillM ns s h1 c).1 hc
    refine ⟨⟨h3, ?_⟩, hp⟩
    rw [← pop_supp, comboB_len ns c h3, h4, h2]
  · rintro ⟨⟨h1, h2⟩, hp⟩
    have hl := comboB_len ns c h1
    have hlt : supp c < 2 ^ ns.length := by rw [← hl]; exact supp_lt c
    refine ⟨supp c, List.mem_filter.2 ⟨List.mem_range.2 hlt, ?_⟩, List.mem_filter.2 ⟨(mem_fillM ns _ hlt c).2 ⟨h1, rfl⟩, hp⟩⟩
    rw [decide_eq_true_eq, ← hl, pop_supp, h2]


theorem fillS_sorted : ∀ l : List (Nat × Bool × Int), (fillS l).Pairwise (fun a b => ltL a b = true)
  | [] => by simp [fillS]
  | (n, true, _) :: r => by
    unfold fillS
    refine pairwise_flatMap_range _ _ _ (fun v _ => ?_) (fun v u hvu _ a ha b hb => ?_)
    · refine List.Pairwise.map _ (fun a b h => ?_) (fillS_sorted r)
      simp [ltL, h]
    · obtain ⟨a', _, rfl⟩ := List.mem_map.1 ha
      obtain ⟨b', _, rfl⟩ := List.mem_map.1 hb
      simp only [ltL, Bool.or_eq_true, decide_eq_true_eq]
      exact .inl (by omega)
  | (_, false, _) :: r => by
    unfold fillS
    refine List.Pairwise.map _ (fun a b h => ?_) (fillS_sorted r)
    simp [ltL, h]
theorem nodup_flatMap {α β : Type} (f : α → List β) : ∀ l : List α, l.Nodup → (∀ x ∈ l, (f x).Nodup) → (∀ x ∈ l, ∀ y ∈ l, x ≠ y → ∀ a ∈ f x, a ∉ f y) → (l.flatMap f).Nodup
  | [], _, _, _ => by simp
  | x :: l, hl, h1, h2 => by
    obtain ⟨h3, h4⟩ := List.nodup_cons.1 hl
    rw [List.flatMap_cons]
    refine List.nodup_append.2 ⟨h1 x (List.mem_cons_self ..), nodup_flatMap f l h4 (fun y hy => h1 y (List.mem_cons_of_mem _ hy)) (fun y hy z hz => h2 y (List.mem_cons_of_mem _ hy) z (List.mem_cons_of_mem _ hz)), fun a ha b hb e => ?_⟩
    subst e
    obtain ⟨y, hy, hay⟩ := List.mem_flatMap.1 hb
    exact h2 x (List.mem_cons_self ..) y (List.mem_cons_of_mem _ hy) (fun e => h3 (e ▸ hy)) a ha hay
theorem nodup_listM (ns : List Nat) (t : Nat) (p : List Int → Bool) : (listM ns t p).Nodup := by
  unfold listM
  refine nodup_flatMap _ _ (List.Pairwise.filter _ List.nodup_range) (fun s _ => List.Pairwise.filter _ (nodup_of_sorted (fillS_sorted _))) (fun s hs u hu hsu c hc hc' => hsu ?_)
  unfold masks at hs hu
  have hs1 := List.mem_range.1 (List.mem_filter.1 hs).1
  have hu1 := List.mem_range.1 (List.mem_filter.1 hu).1
  rw [← ((mem_fillM ns s hs1 c).1 (List.mem_filter.1 hc).1).2, ← ((mem_fillM ns u hu1 c).1 (List.mem_filter.1 hc').1).2]
/-- Sorting what the program lists gives the combinations in order. -/
theorem sorted_listM {ns : List Nat} {t : Nat} {p : List Int → Bool} {l : List (List Int)} (hp : l.Perm (listM ns t p)) (hs : l.Pairwise (fun a b => ltL b a = false)) : l = (asked ns t).filter fun c => !p c := by
  refine sorted_unique _ _ ?_ ((asked_sorted ns t).filter _) (fun x => (hp.mem_iff).trans mem_listM)
  have hn : l.Nodup := hp.nodup_iff.2 (nodup_listM ns t p)
  refine List.Pairwise.imp₂ (R := fun a b => ltL b a = false) (S := fun a b => a ≠ b) (fun a b h1 h2 => ?_) hs hn
  rcases ltL_total a b with h | h | h
  · exact h
  · exact absurd h h2
  · rw [h1] at h; exact absurd h (by decide)

/-- The combinations that an allowed row has, and the others. -/
def okRows (ns : List Nat) (F : List (List Int)) : List (List Int) := (rowsC ns).filter fun r => allowed F r
def leftL (ns : List Nat) (F : List (List Int)) (t : Nat) : List (List Int) := (asked ns t).filter fun c => !inR (okRows ns F) c
def openL (ns : List Nat) (F : List (List Int)) (t : Nat) : List (List Int) := (asked ns t).filter fun c => inR (okRows ns F) c

/-- The first row that has the most open combinations; how many. -/
def bestL (op : List (List Int)) : List (List Int) → Nat → Nat × Int → Nat × Int
  | [], _, b => b
  | r :: rs, i, b => bestL op rs (i + 1) (if b.2 < ((op.filter fun c => has r c).length : Int) then (i, ((op.filter fun c => has r c).length : Int)) else b)
/-- Again and again a row that has the most open combinations. -/
def greedy (rows : List (List Int)) : Nat → List (List Int) → List (List Int)
  | 0, _ => []
  | n + 1, op => if op = [] then [] else
      let b := rows.getD (bestL op rows 0 (0, -1)).1 []
      b :: greedy rows n (op.filter fun c => !has b c)
def coverRows (ns : List Nat) (F : List (List Int)) (t : Nat) : List (List Int) := greedy (okRows ns F) (openL ns F t).length (openL ns F t)

theorem bestL_ge (op : List (List Int)) : ∀ (rs : List (List Int)) (i : Nat) (b : Nat × Int), b.2 ≤ (bestL op rs i b).2 ∧ ∀ r ∈ rs, ((op.filter fun c => has r c).length : Int) ≤ (bestL op rs i b).2
  | [], _, b => ⟨Int.le_refl _, fun r h => absurd h (by simp)⟩
  | r :: rs, i, b => by
    unfold bestL
    obtain ⟨h1, h2⟩ := bestL_ge op rs (i + 1) (if b.2 < ((op.filter fun c => has r c).length : Int) then (i, ((op.filter fun c => has r c).length : Int)) else b)
    by_cases hb : b.2 < ((op.filter fun c => has r c).length : Int)
    · rw [if_pos hb] at h1 h2 ⊢
      simp only at h1
      refine ⟨by omega, fun x hx => ?_⟩
      rcases List.mem_cons.1 hx with rfl | hx
      · exact h1
      · exact h2 x hx
    · rw [if_neg hb] at h1 h2 ⊢
      refine ⟨h1, fun x hx => ?_⟩
      rcases List.mem_cons.1 hx with rfl | hx
      · omega
      · exact h2 x hx
theorem bestL_at (op : List (List Int)) (all : List (List Int)) : ∀ (rs : List (List Int)) (i : Nat) (b : Nat × Int), all.drop i = rs → (b.2 = -1 ∧ b.1 = 0 ∨ b.1 < all.length ∧ b.2 = ((op.filter fun c => has (all.getD b.1 []) c).length : Int)) →
    let x := bestL op rs i b
    (x.2 = -1 ∧ x.1 = 0 ∨ x.1 < all.length ∧ x.2 = ((op.filter fun c => has (all.getD x.1 []) c).length : Int))
  | [], _, b, _, h => h
  | r :: rs, i, b, hd, h => by
    have hi : i < all.length := by
      have := congrArg List.length hd
      rw [List.length_drop, List.length_cons] at this
      omega
    have hr : all.getD i [] = r := by
      rw [List.getD_eq_getElem?_getD, ← List.head?_drop, hd]; rfl
    have hd' : all.drop (i + 1) = rs := by rw [← List.drop_drop, hd]; rfl
    unfold bestL
    refine bestL_at op all rs (i + 1) _ hd' ?_
    split
    · right; exact ⟨hi, by rw [hr]⟩
    · exact h


/-- The elements of a set, from k on. -/
def idx : Nat → Nat → Nat → List Int
  | _, 0, _ => []
  | k, n + 1, s => (if s % 2 = 1 then [(k : Int)] else []) ++ idx (k + 1) n (s / 2)
/-- The increasing lists of j numbers from k on, in order. -/
def comb : Nat → Nat → Nat → List (List Int)
  | _, _, 0 => [[]]
  | _, 0, _ + 1 => []
  | k, n + 1, j + 1 => ((comb (k + 1) n j).map fun l => (k : Int) :: l) ++ comb (k + 1) n (j + 1)
/-- The order of sets: by how many there are, then by the first place at which they part. -/
def ltS (a b : List Int) : Bool := decide (a.length < b.length) || (decide (a.length = b.length) && ltL a b)
theorem ltS_irrefl (a : List Int) : ltS a a = false := by simp [ltS, ltL_irrefl]
theorem ltS_trans {a b c : List Int} (h1 : ltS a b = true) (h2 : ltS b c = true) : ltS a c = true := by
  simp only [ltS, Bool.or_eq_true, decide_eq_true_eq, Bool.and_eq_true] at h1 h2 ⊢
  rcases h1 with h1 | ⟨h1, h1'⟩ <;> rcases h2 with h2 | ⟨h2, h2'⟩
  · exact .inl (by omega)
  · exact .inl (by omega)
  · exact .inl (by omega)
  · exact .inr ⟨by omega, ltL_trans _ _ _ h1' h2'⟩
theorem ltS_total (a b : List Int) : ltS a b = true ∨ a = b ∨ ltS b a = true := by
  simp only [ltS, Bool.or_eq_true, decide_eq_true_eq, Bool.and_eq_true]
  rcases ltL_total a b with h | h | h
  · by_cases h1 : a.length < b.length
    · exact .inl (.inl h1)
    · by_cases h2 : a.length = b.length
      · exact .inl (.inr ⟨h2, h⟩)
      · exact .inr (.inr (.inl (by omega)))
  · exact .inr (.inl h)
  · by_cases h1 : b.length < a.length
    · exact .inr (.inr (.inl h1))
    · by_cases h2 : b.length = a.length
      · exact .inr (.inr (.inr ⟨h2, h⟩))
      · exact .inl (.inl (by omega))

theorem idx_len : ∀ (k n s : Nat), (idx k n s).length = pop n s
  | _, 0, _ => rfl
  | k, n + 1, s => by
    simp only [idx, pop, List.length_append, idx_len (k + 1) n (s / 2)]
    split <;> simp <;> omega
theorem pop_le : ∀ n s : Nat, pop n s ≤ n
  | 0, _ => Nat.le_refl _
  | n + 1, s => by have := pop_le n (s / 2); simp only [pop]; omega
theorem mem_comb : ∀ (k n j : Nat) (l : List Int), l ∈ comb k n j ↔ ∃ s, s < 2 ^ n ∧ idx k n s = l ∧ l.length = j
  | k, 0, 0, l => by
    simp only [comb, List.mem_singleton]
    constructor
    · rintro rfl; exact ⟨0, by simp, rfl, rfl⟩
    · rintro ⟨s, _, h, _⟩; exact h.symm
  | k, 0, j + 1, l => by
    simp only [comb, List.not_mem_nil, false_iff]
    rintro ⟨s, _, rfl, h2⟩
    simp [idx] at h2
  | k, n + 1, 0, l => by
    simp only [comb, List.mem_singleton]
    constructor
    · rintro rfl
      refine ⟨0, Nat.pow_pos (by omega), ?_, rfl⟩
      have : ∀ n k, idx k n 0 = [] := by
        intro n
        induction n with
        | zero => intro k; rfl
        | succ n ih => intro k; simp [idx, ih]
      exact this _ _
    · rintro ⟨s, _, _, h⟩; exact List.eq_nil_of_length_eq_zero h
  | k, n + 1, j + 1, l => by
    simp only [comb, List.mem_append, List.mem_map]
    constructor
    · rintro (⟨m, hm, rfl⟩ | hm)
      · obtain ⟨s, h1, h2, h3⟩ := (mem_comb (k + 1) n j m).1 hm
        refine ⟨2 * s + 1, by rw [Nat.pow_succ]; omega, ?_, by simp [h3]⟩
        simp only [idx]
        rw [if_pos (by omega), show (2 * s + 1) / 2 = s by omega, h2]; rfl
      · obtain ⟨s, h1, h2, h3⟩ := (mem_comb (k + 1) n (j + 1) l).1 hm
        refine ⟨2 * s, by rw [Nat.pow_succ]; omega, ?_, h3⟩
        simp only [idx]
        rw [if_neg (by omega), show 2 * s / 2 = s by omega, h2]; rfl
    · rintro ⟨s, h1, h2, h3⟩
      rw [Nat.pow_succ] at h1
      simp only [idx] at h2
      by_cases hs : s % 2 = 1
      · rw [if_pos hs] at h2
        left
        refine ⟨idx (k + 1) n (s / 2), (mem_comb (k + 1) n j _).2 ⟨s / 2, by omega, rfl, ?_⟩, h2⟩
        rw [← h2] at h3; simpa using h3
      · rw [if_neg hs] at h2
        right
        exact (mem_comb (k + 1) n (j + 1) l).2 ⟨s / 2, by omega, by simpa using h2, h3⟩
theorem idx_ge : ∀ (k n s : Nat), ∀ x ∈ idx k n s, (k : Int) ≤ x ∧ x < k + n
  | k, 0, s, x, h => by simp [idx] at h
  | k, n + 1, s, x, h => by
    simp only [idx, List.mem_append] at h
    rcases h with h | h
    · split at h
      · rw [List.mem_singleton.1 h]; omega
      · simp at h
    · have := idx_ge (k + 1) n (s / 2) x h; omega
theorem comb_sorted : ∀ (k n j : Nat), (comb k n j).Pairwise (fun a b => ltL a b = true)
  | _, _, 0 => by simp [comb]
  | _, 0, _ + 1 => by simp [comb]
  | k, n + 1, j + 1 => by
    simp only [comb]
    refine List.pairwise_append.2 ⟨List.Pairwise.map _ (fun a b h => by simp [ltL, h]) (comb_sorted (k + 1) n j), comb_sorted (k + 1) n (j + 1), fun a ha b hb => ?_⟩
    obtain ⟨a', _, rfl⟩ := List.mem_map.1 ha
    obtain ⟨s, _, hs, hl⟩ := (mem_comb (k + 1) n (j + 1) b).1 hb
    cases b with
    | nil => simp at hl
    | cons y b =>
      have := idx_ge (k + 1) n s y (by rw [hs]; exact List.mem_cons_self ..)
      simp only [ltL, Bool.or_eq_true, decide_eq_true_eq]
      exact .inl (by omega)
/-- All increasing lists below n, in the order of sets. -/
def sets (n : Nat) : List (List Int) := (List.range (n + 1)).flatMap (comb 0 n)
theorem mem_sets {n : Nat} {l : List Int} : l ∈ sets n ↔ ∃ s, s < 2 ^ n ∧ idx 0 n s = l := by
  unfold sets
  rw [List.mem_flatMap]
  constructor
  · rintro ⟨j, _, h⟩
    obtain ⟨s, h1, h2, _⟩ := (mem_comb 0 n j l).1 h
    exact ⟨s, h1, h2⟩
  · rintro ⟨s, h1, h2⟩
    have hl : l.length = pop n s := by rw [← h2, idx_len]
    exact ⟨l.length, List.mem_range.2 (by have := pop_le n s; omega), (mem_comb 0 n _ l).2 ⟨s, h1, h2, rfl⟩⟩
theorem sets_sorted (n : Nat) : (sets n).Pairwise (fun a b => ltS a b = true) := by
  unfold sets
  refine pairwise_flatMap_range _ _ _ (fun j _ => ?_) (fun j i hji _ a ha b hb => ?_)
  · refine List.Pairwise.imp_of_mem (fun {a b} ha hb h => ?_) (comb_sorted 0 n j)
    obtain ⟨_, _, _, h1⟩ := (mem_comb 0 n j a).1 ha
    obtain ⟨_, _, _, h2⟩ := (mem_comb 0 n j b).1 hb
    simp [ltS, h, h1, h2]
  · obtain ⟨_, _, _, h1⟩ := (mem_comb 0 n j a).1 ha
    obtain ⟨_, _, _, h2⟩ := (mem_comb 0 n i b).1 hb
    simp only [ltS, Bool.or_eq_true, decide_eq_true_eq]
    exact .inl (by omega)

/-- The least of a list for which something holds. -/
def Least (q : List Int → Bool) (M : List Int → Prop) : Option (List Int) → Prop
  | none => ∀ y, M y → q y = false
  | some x => M x ∧ q x = true ∧ ∀ y, M y → q y = true → y = x ∨ ltS x y = true
theorem Least.unique {q : List Int → Bool} {M M' : List Int → Prop} {a b : Option (List Int)} (h1 : Least q M a) (h2 : Least q M' b) (hM : ∀ x, M x ↔ M' x) : a = b := by
  cases a with
  | none => cases b with
    | none => rfl
    | some y =>
      have := h1 y ((hM y).2 h2.1)
      rw [h2.2.1] at this
      exact absurd this (by decide)
  | some x => cases b with
    | none =>
      have := h2 x ((hM x).1 h1.1)
      rw [h1.2.1] at this
      exact absurd this (by decide)
    | some y =>
      rcases h1.2.2 y ((hM y).2 h2.1) h2.2.1 with h | h
      · rw [h]
      · rcases h2.2.2 x ((hM x).1 h1.1) h1.2.1 with h' | h'
        · rw [h']
        · have := ltS_trans h h'
          rw [ltS_irrefl] at this
          exact absurd this (by decide)
theorem least_find (q : List Int → Bool) : ∀ l : List (List Int), l.Pairwise (fun a b => ltS a b = true) → Least q (· ∈ l) (l.find? q)
  | [], _ => fun y h => absurd h (by simp)
  | x :: l, h => by
    obtain ⟨h1, h2⟩ := List.pairwise_cons.1 h
    have ih := least_find q l h2
    cases hq : q x with
    | true =>
      rw [List.find?_cons_of_pos hq]
      refine ⟨List.mem_cons_self .., hq, fun y hy _ => ?_⟩
      rcases List.mem_cons.1 hy with rfl | hy
      · exact .inl rfl
      · exact .inr (h1 y hy)
    | false =>
      rw [List.find?_cons_of_neg (by rw [hq]; decide)]
      revert ih
      cases l.find? q with
      | none =>
        intro ih y hy
        rcases List.mem_cons.1 hy with rfl | hy
        · exact hq
        · exact ih y hy
      | some z =>
        rintro ⟨i1, i2, i3⟩
        refine ⟨List.mem_cons_of_mem _ i1, i2, fun y hy hqy => ?_⟩
        rcases List.mem_cons.1 hy with rfl | hy
        · rw [hq] at hqy; exact absurd hqy (by decide)
        · exact i3 y hy hqy

/-- One step of the program's search. -/
def whyStep (q : List Int → Bool) (m : Nat) (b : Option (List Int)) (s : Nat) : Option (List Int) :=
  match b with
  | none => if q (idx 0 m s) then some (idx 0 m s) else none
  | some p => if p.length < pop m s ∨ q (idx 0 m s) = false then some p else if pop m s < p.length ∨ ltL (idx 0 m s) p = true then some (idx 0 m s) else some p
theorem least_fold (q : List Int → Bool) (m : Nat) : ∀ n, Least q (fun y => ∃ s, s < n ∧ idx 0 m s = y) ((List.range n).foldl (whyStep q m) none)
  | 0 => by rintro y ⟨s, hs, _⟩; omega
  | n + 1 => by
    have ih := least_fold q m n
    rw [List.range_succ, List.foldl_append]
    simp only [List.foldl_cons, List.foldl_nil]
    revert ih
    cases (List.range n).foldl (whyStep q m) none with
    | none =>
      intro ih
      simp only [whyStep]
      cases hq : q (idx 0 m n) with
      | true =>
        refine ⟨⟨n, by omega, rfl⟩, hq, ?_⟩
        rintro y ⟨s, hs, rfl⟩ hy
        by_cases e : s = n
        · subst e; exact .inl rfl
        · have := ih _ ⟨s, by omega, rfl⟩; rw [hy] at this; exact absurd this (by decide)
      | false =>
        rintro y ⟨s, hs, rfl⟩
        by_cases e : s = n
        · subst e; exact hq
        · exact ih _ ⟨s, by omega, rfl⟩
    | some p =>
      rintro ⟨⟨s0, i0, i1⟩, i2, i3⟩
      simp only [whyStep]
      by_cases h1 : p.length < pop m n ∨ q (idx 0 m n) = false
      · rw [if_pos h1]
        refine ⟨⟨s0, by omega, i1⟩, i2, ?_⟩
        rintro y ⟨s, hs, rfl⟩ hy
        by_cases e : s = n
        · subst e
          rcases h1 with h1 | h1
          · right; simp only [ltS, Bool.or_eq_true, decide_eq_true_eq, idx_len]; exact .inl h1
          · rw [h1] at hy; exact absurd hy (by decide)
        · exact i3 _ ⟨s, by omega, rfl⟩ hy
      · rw [if_neg h1]
        have hq : q (idx 0 m n) = true := by cases h : q (idx 0 m n) <;> simp_all
        by_cases h2 : pop m n < p.length ∨ ltL (idx 0 m n) p = true
        · rw [if_pos h2]
          have hlt : ltS (idx 0 m n) p = true := by
            simp only [ltS, Bool.or_eq_true, decide_eq_true_eq, Bool.and_eq_true, idx_len]
            by_cases h3 : pop m n < p.length
            · exact .inl h3
            · rcases h2 with h2 | h2
              · exact absurd h2 h3
              · exact .inr ⟨by omega, h2⟩
          refine ⟨⟨n, by omega, rfl⟩, hq, ?_⟩
          rintro y ⟨s, hs, rfl⟩ hy
          by_cases e : s = n
          · subst e; exact .inl rfl
          · rcases i3 _ ⟨s, by omega, rfl⟩ hy with h | h
            · rw [h]; exact .inr hlt
            · exact .inr (ltS_trans hlt h)
        · rw [if_neg h2]
          refine ⟨⟨s0, by omega, i1⟩, i2, ?_⟩
          rintro y ⟨s, hs, rfl⟩ hy
          by_cases e : s = n
          · subst e
            rcases ltS_total (idx 0 m s) p with h | h | h
            · exfalso
              simp only [ltS, Bool.or_eq_true, decide_eq_true_eq, Bool.and_eq_true, idx_len] at h
              rcases h with h | h
              · exact h2 (.inl h)
              · exact h2 (.inr h.2)
            · exact .inl h
            · exact .inr h
          · exact i3 _ ⟨s, by omega, rfl⟩ hy
/-- The program's search finds what the reference finds. -/
theorem why_eq (q : List Int → Bool) (m : Nat) : (List.range (2 ^ m)).foldl (whyStep q m) none = (sets m).find? q :=
  Least.unique (least_fold q m (2 ^ m)) (least_find q _ (sets_sorted m)) (fun _ => mem_sets.symm)


theorem best_ok {op rows : List (List Int)} (h0 : op ≠ []) (hin : ∀ c ∈ op, inR rows c = true) :
    (bestL op rows 0 (0, -1)).1 < rows.length ∧ (op.filter fun c => has (rows.getD (bestL op rows 0 (0, -1)).1 []) c) ≠ [] := by
  obtain ⟨c, hc⟩ : ∃ c, c ∈ op := by cases op with | nil => exact absurd rfl h0 | cons x l => exact ⟨x, List.mem_cons_self ..⟩
  obtain ⟨r, hr, hrc⟩ := List.any_eq_true.1 (hin c hc)
  have h1 := (bestL_ge op rows 0 (0, -1)).2 r hr
  have hpos : 0 < (op.filter fun c => has r c).length := List.length_pos_of_mem (List.mem_filter.2 ⟨hc, hrc⟩)
  rcases bestL_at op rows rows 0 (0, -1) rfl (.inl ⟨rfl, rfl⟩) with ⟨h2, _⟩ | ⟨h2, h3⟩
  · omega
  · refine ⟨h2, fun e => ?_⟩
    rw [e] at h3
    simp at h3
    omega
theorem filter_split {α : Type} (p : α → Bool) : ∀ l : List α, (l.filter p).length + (l.filter fun x => !p x).length = l.length
  | [] => rfl
  | x :: l => by
    have := filter_split p l
    cases hp : p x <;> simp [hp] <;> omega
theorem best_less {op rows : List (List Int)} (h0 : op ≠ []) (hin : ∀ c ∈ op, inR rows c = true) :
    (op.filter fun c => !has (rows.getD (bestL op rows 0 (0, -1)).1 []) c).length < op.length := by
  have h1 := (best_ok h0 hin).2
  have h2 := filter_split (fun c => has (rows.getD (bestL op rows 0 (0, -1)).1 []) c) op
  have h3 : 0 < (op.filter fun c => has (rows.getD (bestL op rows 0 (0, -1)).1 []) c).length := by
    cases h : (op.filter fun c => has (rows.getD (bestL op rows 0 (0, -1)).1 []) c) with
    | nil => exact absurd h h1
    | cons x l => simp
  omega
/-- Any number of rounds that is enough gives the same rows. -/
theorem greedy_fuel {rows : List (List Int)} : ∀ (n m : Nat) (op : List (List Int)), op.length ≤ n → op.length ≤ m → (∀ c ∈ op, inR rows c = true) → greedy rows n op = greedy rows m op
  | 0, m, op, hn, _, _ => by
    obtain rfl : op = [] := List.eq_nil_of_length_eq_zero (by omega)
    cases m <;> simp [greedy]
  | n + 1, 0, op, _, hm, _ => by
    obtain rfl : op = [] := List.eq_nil_of_length_eq_zero (by omega)
    simp [greedy]
  | n + 1, m + 1, op, hn, hm, hin => by
    unfold greedy
    by_cases h0 : op = []
    · rw [if_pos h0, if_pos h0]
    · rw [if_neg h0, if_neg h0]
      have hl := best_less h0 hin
      simp only
      rw [greedy_fuel n m _ (by omega) (by omega) (fun c hc => hin c (List.mem_filter.1 hc).1)]
theorem greedy_cons {rows op : List (List Int)} (h0 : op ≠ []) (hin : ∀ c ∈ op, inR rows c = true) :
    greedy rows op.length op = rows.getD (bestL op rows 0 (0, -1)).1 [] :: greedy rows (op.filter fun c => !has (rows.getD (bestL op rows 0 (0, -1)).1 []) c).length (op.filter fun c => !has (rows.getD (bestL op rows 0 (0, -1)).1 []) c) := by
  have hl := best_less h0 hin
  have hpos : op.length = (op.length - 1) + 1 := by omega
  rw [hpos]
  show (if op = [] then [] else _) = _
  rw [if_neg h0]
  simp only
  rw [greedy_fuel (op.length - 1) _ _ (by omega) (Nat.le_refl _) (fun c hc => hin c (List.mem_filter.1 hc).1)]

/-- Whether some forbidden combinations show that one is not possible. -/
def showsB (ns : List Nat) (F : List (List Int)) (c : List Int) (set : List Int) : Bool :=
  ((rowsC ns).filter fun r => has r c).all fun r => set.any fun k => has r (F.getD k.toNat [])
def whyL (ns : List Nat) (F : List (List Int)) (c : List Int) : List Int := ((sets F.length).find? (showsB ns F c)).getD []

/-- How many open combinations have values at the same features, at most. -/
def leastL (op : List (List Int)) : Nat := (op.map fun c => (op.filter fun d => decide (supp d = supp c)).length).foldl max 0

theorem foldl_max_ge : ∀ (l : List Nat) (a : Nat), a ≤ l.foldl max a ∧ ∀ x ∈ l, x ≤ l.foldl max a
  | [], a => ⟨Nat.le_refl _, fun x h => absurd h (by simp)⟩
  | y :: l, a => by
    obtain ⟨h1, h2⟩ := foldl_max_ge l (max a y)
    simp only [List.foldl_cons]
    refine ⟨by omega, fun x hx => ?_⟩
    rcases List.mem_cons.1 hx with rfl | hx
    · omega
    · exact h2 x hx
theorem foldl_max_le : ∀ (l : List Nat) (a b : Nat), a ≤ b → (∀ x ∈ l, x ≤ b) → l.foldl max a ≤ b
  | [], _, _, h, _ => h
  | y :: l, a, b, h, hx => by
    simp only [List.foldl_cons]
    exact foldl_max_le l (max a y) b (by have := hx y (List.mem_cons_self ..); omega) (fun x h => hx x (List.mem_cons_of_mem _ h))
theorem foldl_max_mem : ∀ (l : List Nat) (a : Nat), l.foldl max a = a ∨ l.foldl max a ∈ l
  | [], _ => .inl rfl
  | y :: l, a => by
    simp only [List.foldl_cons]
    rcases foldl_max_mem l (max a y) with h | h
    · by_cases hy : a ≤ y
      · right; rw [h]; have : max a y = y := by omega
        rw [this]; exact List.mem_cons_self ..
      · left; rw [h]; omega
    · exact .inr (List.mem_cons_of_mem _ h)


end Cov
end Go.Proofs.YtjaejnacdanpkaaDoor

namespace Go.Proofs.YtjaejnacdanpkaaDoor
namespace Cov

/-- Rising indices below m, from p on. -/
def ris (m : Nat) : Int → List Int → Bool
  | _, [] => true
  | p, x :: l => decide (p < x) && (decide (x < m) && ris m x l)

theorem ris_mono {m : Nat} {p q : Int} (h : q ≤ p) : ∀ {l : List Int}, ris m p l = true → ris m q l = true
  | [], _ => rfl
  | x :: l, hl => by
    simp only [ris, Bool.and_eq_true, decide_eq_true_eq] at hl ⊢
    exact ⟨by omega, hl.2⟩
theorem ris_idx : ∀ (n k s : Nat) (p : Int) (m : Nat), p < k → k + n ≤ m → ris m p (idx k n s) = true
  | 0, _, _, _, _, _, _ => rfl
  | n + 1, k, s, p, m, hp, hm => by
    unfold idx
    split
    · show (decide (p < k) && (decide ((k : Int) < m) && ris m k (idx (k + 1) n (s / 2)))) = true
      rw [ris_idx n (k + 1) (s / 2) k m (by omega) (by omega)]
      simp only [Bool.and_true, Bool.and_eq_true, decide_eq_true_eq]
      omega
    · exact ris_idx n (k + 1) (s / 2) p m (by omega) (by omega)
theorem idx_zero : ∀ n k : Nat, idx k n 0 = []
  | 0, _ => rfl
  | n + 1, k => by unfold idx; simp [idx_zero n (k + 1)]
theorem idx_of_ris : ∀ (n k : Nat) (p : Int) (l : List Int), (k : Int) - 1 ≤ p → ris (k + n) p l = true → ∃ s, s < 2 ^ n ∧ idx k n s = l
  | 0, k, p, [], _, _ => ⟨0, by omega, rfl⟩
  | 0, k, p, x :: l, hp, h => by
    simp only [ris, Bool.and_eq_true, decide_eq_true_eq] at h
    omega
  | n + 1, k, p, [], _, _ => ⟨0, Nat.pos_of_ne_zero (by simp), idx_zero _ _⟩
  | n + 1, k, p, x :: l, hp, h => by
    simp only [ris, Bool.and_eq_true, decide_eq_true_eq] at h
    obtain ⟨h1, h2, h3⟩ := h
    by_cases hx : x = k
    · subst hx
      obtain ⟨s, hs, e⟩ := idx_of_ris n (k + 1) k l (by omega) (by rw [show k + 1 + n = k + (n + 1) by omega]; exact h3)
      refine ⟨2 * s + 1, by rw [Nat.pow_succ]; omega, ?_⟩
      unfold idx
      rw [if_pos (by omega), show (2 * s + 1) / 2 = s by omega, e]; rfl
    · obtain ⟨s, hs, e⟩ := idx_of_ris n (k + 1) k (x :: l) (by omega) (by
        rw [show k + 1 + n = k + (n + 1) by omega]
        simp only [ris, Bool.and_eq_true, decide_eq_true_eq]
        exact ⟨by omega, h2, h3⟩)
      refine ⟨2 * s, by rw [Nat.pow_succ]; omega, ?_⟩
      unfold idx
      rw [if_neg (by omega), show (2 * s) / 2 = s by omega, e]; rfl
theorem mem_sets_ris {m : Nat} {l : List Int} : l ∈ sets m ↔ ris m (-1) l = true := by
  rw [mem_sets]
  constructor
  · rintro ⟨s, _, rfl⟩
    exact ris_idx m 0 s (-1) m (by omega) (by omega)
  · intro h
    exact idx_of_ris m 0 (-1) l (by omega) (by rw [Nat.zero_add]; exact h)
theorem ris_erase {m : Nat} : ∀ (l : List Int) (k : Nat) (p : Int), ris m p l = true → ris m p (l.eraseIdx k) = true
  | [], _, _, _ => rfl
  | x :: l, 0, p, h => by
    simp only [ris, Bool.and_eq_true, decide_eq_true_eq] at h
    exact ris_mono (by omega) h.2.2
  | x :: l, k + 1, p, h => by
    simp only [ris, Bool.and_eq_true, decide_eq_true_eq] at h
    simp only [List.eraseIdx_cons_succ, ris, Bool.and_eq_true, decide_eq_true_eq]
    exact ⟨h.1, h.2.1, ris_erase l k x h.2.2⟩
theorem ris_range {m : Nat} : ∀ (l : List Int) (p : Int), -1 ≤ p → ris m p l = true → ∀ x ∈ l, 0 ≤ x ∧ x < m
  | [], _, _, _, x, h => absurd h (by simp)
  | y :: l, p, hp, h, x, hx => by
    simp only [ris, Bool.and_eq_true, decide_eq_true_eq] at h
    rcases List.mem_cons.1 hx with rfl | hx
    · omega
    · exact ris_range l y (by omega) h.2.2 x hx

theorem vals_le : ∀ c : List Int, vals c ≤ c.length := fun _ => List.length_filter_le _ _
theorem rowB_eq : ∀ (ns : List Nat) (r : List Int), rowB ns r = (comboB ns r && decide (vals r = ns.length))
  | [], [] => rfl
  | [], _ :: _ => rfl
  | _ :: _, [] => rfl
  | n :: ns, x :: r => by
    simp only [rowB, comboB]
    rw [rowB_eq ns r, vals_cons]
    rw [Bool.eq_iff_iff]
    simp only [Bool.and_eq_true, decide_eq_true_eq, List.length_cons]
    constructor
    · rintro ⟨h1, h2, h3⟩
      rw [if_pos h1.1]
      exact ⟨⟨by omega, h2⟩, by omega⟩
    · rintro ⟨⟨h1, h2⟩, h3⟩
      have h4 := vals_le r
      have h5 := comboB_len ns r h2
      by_cases hx : 0 ≤ x
      · rw [if_pos hx] at h3
        exact ⟨by omega, h2, by omega⟩
      · rw [if_neg hx] at h3
        omega
theorem rowB_eq' (ns : List Nat) (r : List Int) : rowB ns r = (comboB ns r && decide ((ns.length : Int) ≤ vals r)) := by
  rw [rowB_eq, Bool.eq_iff_iff]
  simp only [Bool.and_eq_true, decide_eq_true_eq]
  constructor
  · rintro ⟨h1, h2⟩; exact ⟨h1, by omega⟩
  · rintro ⟨h1, h2⟩
    have h4 := vals_le r
    have h5 := comboB_len ns r h1
    exact ⟨h1, by omega⟩

/-- The element ahead of one. -/
def prevOf (l : List (List Int)) (i : Nat) : Option (List Int) := if i = 0 then none else l[i - 1]?
def ltO : Option (List Int) → List Int → Bool
  | none, _ => true
  | some a, c => ltL a c
/-- Whether a combination that is left out is right. -/
def oneOK (ns : List Nat) (F : List (List Int)) (t : Nat) (p : Option (List Int)) (c y : List Int) : Bool :=
  comboB ns c && (decide (vals c = t) && (ris F.length (-1) y && (ltO p c && showsB ns F c y)))
def leftOK (ns : List Nat) (F : List (List Int)) (t : Nat) (left why : List (List Int)) : Bool :=
  (List.range left.length).all fun i => oneOK ns F t (prevOf left i) (left.getD i []) (why.getD i [])
def coveredB (ns : List Nat) (t : Nat) (rows left : List (List Int)) : Bool := (asked ns t).all fun c => decide (c ∈ left) || inR rows c
/-- Whether rows, combinations left out and what shows them are right. -/
def checkB (ns : List Nat) (F : List (List Int)) (t : Nat) (rows left why : List (List Int)) : Bool :=
  (rows.all fun r => rowB ns r && allowed F r) && (decide (left.length = why.length) && (leftOK ns F t left why && coveredB ns t rows left))

/-- What is left of the combinations, when some were met. -/
theorem covered_iff (ns : List Nat) (t : Nat) (rows left S : List (List Int)) (hr : ∀ r ∈ rows, rowB ns r = true)
    (hS : ∀ c, c ∈ S ↔ (∃ r ∈ rows, c ∈ (masks ns.length t).map (maskC r)) ∨ c ∈ left) :
    ((asked ns t).filter fun c => !decide (c ∈ S)).length = 0 ↔ coveredB ns t rows left = true := by
  rw [List.length_eq_zero_iff, List.filter_eq_nil_iff]
  unfold coveredB
  rw [List.all_eq_true]
  refine forall_congr' fun c => forall_congr' fun hc => ?_
  obtain ⟨h1, h2⟩ := mem_asked.1 hc
  simp only [Bool.not_eq_true', decide_eq_false_iff_not, Decidable.not_not, Bool.or_eq_true, decide_eq_true_eq]
  rw [hS]
  constructor
  · rintro (⟨r, h3, h4⟩ | h)
    · exact .inr (List.any_eq_true.2 ⟨r, h3, ((mem_parts (hr r h3) t c).1 h4).2.2⟩)
    · exact .inl h
  · rintro (h | h)
    · exact .inr h
    · obtain ⟨r, h3, h4⟩ := List.any_eq_true.1 h
      exact .inl ⟨r, h3, (mem_parts (hr r h3) t c).2 ⟨h1, h2, h4⟩⟩

/-! What the greedy choice gives. -/
theorem greedy_sub {rows : List (List Int)} : ∀ (n : Nat) (op : List (List Int)), (∀ c ∈ op, inR rows c = true) → ∀ r ∈ greedy rows n op, r ∈ rows
  | 0, _, _, r, h => by simp [greedy] at h
  | n + 1, op, hin, r, h => by
    unfold greedy at h
    by_cases h0 : op = []
    · rw [if_pos h0] at h; simp at h
    · rw [if_neg h0] at h
      rcases List.mem_cons.1 h with rfl | h
      · have := (best_ok h0 hin).1
        rw [List.getD_eq_getElem?_getD, List.getElem?_eq_getElem this]
        exact List.getElem_mem _
      · exact greedy_sub n _ (fun c hc => hin c (List.mem_filter.1 hc).1) r h
theorem greedy_covers {rows : List (List Int)} : ∀ (n : Nat) (op : List (List Int)), op.length ≤ n → (∀ c ∈ op, inR rows c = true) → ∀ c ∈ op, inR (greedy rows n op) c = true
  | 0, op, hn, _, c, hc => by
    have := List.length_pos_of_mem hc
    omega
  | n + 1, op, hn, hin, c, hc => by
    unfold greedy
    have h0 : op ≠ [] := List.ne_nil_of_mem hc
    rw [if_neg h0]
    show (has _ c || inR _ c) = true
    cases hb : has (rows.getD (bestL op rows 0 (0, -1)).1 []) c with
    | true => rfl
    | false =>
      rw [Bool.false_or]
      have hl := best_less h0 hin
      exact greedy_covers n _ (by omega) (fun c hc => hin c (List.mem_filter.1 hc).1) c (List.mem_filter.2 ⟨hc, by rw [hb]; rfl⟩)
theorem greedy_new {rows : List (List Int)} : ∀ (n : Nat) (op : List (List Int)), (∀ c ∈ op, inR rows c = true) → ∀ i (h : i < (greedy rows n op).length), ∃ c ∈ op, has (greedy rows n op)[i] c = true ∧ inR ((greedy rows n op).take i) c = false
  | 0, op, _, i, h => by simp [greedy] at h
  | n + 1, op, hin, i, h => by
    by_cases h0 : op = []
    · unfold greedy at h; rw [if_pos h0] at h; simp at h
    · have e : greedy rows (n + 1) op = rows.getD (bestL op rows 0 (0, -1)).1 [] :: greedy rows n (op.filter fun c => !has (rows.getD (bestL op rows 0 (0, -1)).1 []) c) := by
        conv => lhs; unfold greedy
        rw [if_neg h0]
      simp only [e] at h ⊢
      cases i with
      | zero =>
        obtain ⟨c, hc⟩ := List.exists_mem_of_ne_nil _ (best_ok h0 hin).2
        exact ⟨c, (List.mem_filter.1 hc).1, (List.mem_filter.1 hc).2, rfl⟩
      | succ i =>
        obtain ⟨c, hc, h1, h2⟩ := greedy_new n (op.filter fun c => !has (rows.getD (bestL op rows 0 (0, -1)).1 []) c) (fun c hc => hin c (List.mem_filter.1 hc).1) i (by simpa using h)
        obtain ⟨h3, h4⟩ := List.mem_filter.1 hc
        refine ⟨c, h3, h1, ?_⟩
        show (has _ c || inR _ c) = false
        rw [h2, Bool.or_false]
        simpa using h4

theorem open_in (ns : List Nat) (F : List (List Int)) (t : Nat) : ∀ c ∈ openL ns F t, inR (okRows ns F) c = true := fun _ hc => (List.mem_filter.1 hc).2
theorem coverRows_ok (ns : List Nat) (F : List (List Int)) (t : Nat) : ∀ r ∈ coverRows ns F t, rowB ns r = true ∧ allowed F r = true := fun r hr => by
  have := greedy_sub _ _ (open_in ns F t) r hr
  exact ⟨(mem_rowsC ns r).1 (List.mem_filter.1 this).1, (List.mem_filter.1 this).2⟩
theorem coverRows_new (ns : List Nat) (F : List (List Int)) (t : Nat) (i : Nat) (h : i < (coverRows ns F t).length) :
    ∃ c ∈ asked ns t, has (coverRows ns F t)[i] c = true ∧ inR ((coverRows ns F t).take i) c = false := by
  obtain ⟨c, hc, h1⟩ := greedy_new _ _ (open_in ns F t) i h
  exact ⟨c, (List.mem_filter.1 hc).1, h1⟩
theorem coverRows_all (ns : List Nat) (F : List (List Int)) (t : Nat) : ∀ c ∈ openL ns F t, inR (coverRows ns F t) c = true :=
  greedy_covers _ _ (Nat.le_refl _) (open_in ns F t)

/-! What shows that a combination is not possible. -/
theorem left_iff {ns : List Nat} {F : List (List Int)} {t : Nat} {c : List Int} : c ∈ leftL ns F t ↔ (comboB ns c = true ∧ vals c = t) ∧ ∀ r, rowB ns r = true → allowed F r = true → has r c = false := by
  unfold leftL
  rw [List.mem_filter, mem_asked, Bool.not_eq_true']
  refine and_congr_right fun _ => ?_
  unfold inR okRows
  rw [List.any_eq_false]
  constructor
  · intro h r h1 h2
    have := h r (List.mem_filter.2 ⟨(mem_rowsC ns r).2 h1, h2⟩)
    simpa using this
  · intro h r hr
    obtain ⟨h1, h2⟩ := List.mem_filter.1 hr
    rw [h r ((mem_rowsC ns r).1 h1) h2]
    decide
theorem idx_full : ∀ (n k : Nat), ∀ x, k ≤ x → x < k + n → (x : Int) ∈ idx k n (2 ^ n - 1)
  | 0, _, x, h1, h2 => absurd h2 (by omega)
  | n + 1, k, x, h1, h2 => by
    have hp : 0 < 2 ^ n := Nat.pos_of_ne_zero (by simp)
    unfold idx
    rw [if_pos (by rw [Nat.pow_succ]; omega), show (2 ^ (n + 1) - 1) / 2 = 2 ^ n - 1 by rw [Nat.pow_succ]; omega]
    by_cases e : x = k
    · subst e; simp
    · exact List.mem_append_right _ (idx_full n (k + 1) x (by omega) (by omega))
theorem why_least (ns : List Nat) (F : List (List Int)) (t : Nat) (c : List Int) (h : c ∈ leftL ns F t) :
    whyL ns F c ∈ sets F.length ∧ showsB ns F c (whyL ns F c) = true ∧ ∀ y ∈ sets F.length, showsB ns F c y = true → y = whyL ns F c ∨ ltS (whyL ns F c) y = true := by
  have hl := least_find (showsB ns F c) (sets F.length) (sets_sorted F.length)
  have hfull : idx 0 F.length (2 ^ F.length - 1) ∈ sets F.length := mem_sets.2 ⟨_, Nat.sub_lt (Nat.pos_of_ne_zero (by simp)) (by omega), rfl⟩
  have hq : showsB ns F c (idx 0 F.length (2 ^ F.length - 1)) = true := by
    unfold showsB
    rw [List.all_eq_true]
    intro r hr
    obtain ⟨h1, h2⟩ := List.mem_filter.1 hr
    have h3 := (left_iff.1 h).2 r ((mem_rowsC ns r).1 h1)
    cases ha : allowed F r with
    | true => rw [h3 ha] at h2; exact absurd h2 (by decide)
    | false =>
      unfold allowed at ha
      rw [Bool.not_eq_false'] at ha
      obtain ⟨f, hf, hrf⟩ := List.any_eq_true.1 ha
      obtain ⟨k, hk, e⟩ := List.getElem_of_mem hf
      refine List.any_eq_true.2 ⟨(k : Int), idx_full F.length 0 k (by omega) (by omega), ?_⟩
      rw [Int.toNat_natCast, List.getD_eq_getElem?_getD, List.getElem?_eq_getElem hk, Option.getD_some, e]
      exact hrf
  unfold whyL
  cases hf : (sets F.length).find? (showsB ns F c) with
  | none =>
    rw [hf] at hl
    have := hl _ hfull
    rw [hq] at this
    exact absurd this (by decide)
  | some y =>
    rw [hf] at hl
    exact hl
/-- Without one of those that show it, the others do not. -/
theorem why_min (ns : List Nat) (F : List (List Int)) (t : Nat) (c : List Int) (h : c ∈ leftL ns F t) (k : Nat) (hk : k < (whyL ns F c).length) :
    c ∉ leftL ns (((whyL ns F c).eraseIdx k).map fun j => F.getD j.toNat []) t := by
  obtain ⟨h1, h2, h3⟩ := why_least ns F t c h
  have he : (whyL ns F c).eraseIdx k ∈ sets F.length := mem_sets_ris.2 (ris_erase _ _ _ (mem_sets_ris.1 h1))
  have hlen : ((whyL ns F c).eraseIdx k).length < (whyL ns F c).length := by rw [List.length_eraseIdx_of_lt hk]; omega
  have hno : showsB ns F c ((whyL ns F c).eraseIdx k) = false := by
    cases hs : showsB ns F c ((whyL ns F c).eraseIdx k) with
    | false => rfl
    | true =>
      rcases h3 _ he hs with e | e
      · rw [e] at hlen; omega
      · simp only [ltS, Bool.or_eq_true, decide_eq_true_eq, Bool.and_eq_true] at e
        omega
  intro hc
  obtain ⟨_, hc2⟩ := left_iff.1 hc
  unfold showsB at hno
  rw [List.all_eq_false] at hno
  obtain ⟨r, hr, hr2⟩ := hno
  obtain ⟨h4, h5⟩ := List.mem_filter.1 hr
  have h6 := hc2 r ((mem_rowsC ns r).1 h4) (by
    unfold allowed
    rw [List.any_map, Bool.not_eq_true']
    rw [Bool.not_eq_true] at hr2
    exact hr2)
  rw [h6] at h5
  exact absurd h5 (by decide)

/-- What Cover returns is accepted. -/
theorem check_cover (ns : List Nat) (F : List (List Int)) (t : Nat) : checkB ns F t (coverRows ns F t) (leftL ns F t) ((leftL ns F t).map (whyL ns F)) = true := by
  unfold checkB
  rw [Bool.and_eq_true, Bool.and_eq_true, Bool.and_eq_true]
  refine ⟨?_, by simp, ?_, ?_⟩
  · rw [List.all_eq_true]
    intro r hr
    obtain ⟨h1, h2⟩ := coverRows_ok ns F t r hr
    rw [h1, h2]; rfl
  · unfold leftOK
    rw [List.all_eq_true]
    intro i hi
    rw [List.mem_range] at hi
    have hm := List.getElem_mem hi
    obtain ⟨⟨h1, h2⟩, _⟩ := left_iff.1 hm
    obtain ⟨h3, h4, _⟩ := why_least ns F t _ hm
    have e1 : (leftL ns F t).getD i [] = (leftL ns F t)[i] := by rw [List.getD_eq_getElem?_getD, List.getElem?_eq_getElem hi]; rfl
    have e2 : ((leftL ns F t).map (whyL ns F)).getD i [] = whyL ns F (leftL ns F t)[i] := by rw [List.getD_eq_getElem?_getD, List.getElem?_map, List.getElem?_eq_getElem hi]; rfl
    rw [e1, e2]
    unfold oneOK
    rw [h1, mem_sets_ris.1 h3, h4, Bool.true_and, Bool.true_and, Bool.and_true, Bool.and_eq_true, decide_eq_true_eq]
    refine ⟨h2, ?_⟩
    unfold prevOf
    by_cases h0 : i = 0
    · rw [if_pos h0]; rfl
    · rw [if_neg h0, List.getElem?_eq_getElem (by omega)]
      have hs : (leftL ns F t).Pairwise (fun a b => ltL a b = true) := (asked_sorted ns t).filter _
      exact List.pairwise_iff_getElem.1 hs (i - 1) i (by omega) hi (by omega)
  · unfold coveredB
    rw [List.all_eq_true]
    intro c hc
    cases hi : inR (okRows ns F) c with
    | true => rw [coverRows_all ns F t c (List.mem_filter.2 ⟨hc, hi⟩), Bool.or_true]
    | false =>
      have : c ∈ leftL ns F t := List.mem_filter.2 ⟨hc, by rw [hi]; rfl⟩
      rw [decide_eq_true this]; rfl

theorem nodup_le {α : Type} [DecidableEq α] : ∀ (l m : List α), l.Nodup → (∀ x ∈ l, x ∈ m) → l.length ≤ m.length
  | [], _, _, _ => Nat.zero_le _
  | x :: l, m, hl, h => by
    obtain ⟨hx, hl'⟩ := List.nodup_cons.1 hl
    have hxm := h x (List.mem_cons_self ..)
    have := nodup_le l (m.erase x) hl' (fun y hy => by
      have hne : y ≠ x := fun e => hx (e ▸ hy)
      exact (List.mem_erase_of_ne hne).2 (h y (List.mem_cons_of_mem _ hy)))
    rw [List.length_erase_of_mem hxm] at this
    have hp := List.length_pos_of_mem hxm
    simp only [List.length_cons]
    omega
theorem open_nodup (ns : List Nat) (F : List (List Int)) (t : Nat) : (openL ns F t).Nodup := List.Pairwise.filter _ (nodup_of_sorted (asked_sorted ns t))
/-- There are at least so many rows. -/
theorem least_le (ns : List Nat) (F : List (List Int)) (t : Nat) : leastL (openL ns F t) ≤ (coverRows ns F t).length := by
  refine foldl_max_le _ 0 _ (Nat.zero_le _) fun x hx => ?_
  obtain ⟨c, hc, rfl⟩ := List.mem_map.1 hx
  have := nodup_le ((openL ns F t).filter fun d => decide (supp d = supp c)) ((coverRows ns F t).map fun r => maskC r (supp c)) ((open_nodup ns F t).filter _) (fun d hd => by
    obtain ⟨h1, h2⟩ := List.mem_filter.1 hd
    rw [decide_eq_true_eq] at h2
    obtain ⟨r, hr, hrd⟩ := List.any_eq_true.1 (coverRows_all ns F t d h1)
    refine List.mem_map.2 ⟨r, hr, ?_⟩
    rw [← h2]
    exact mask_supp ns r d (coverRows_ok ns F t r hr).1 (mem_asked.1 (List.mem_filter.1 h1).1).1 hrd)
  rwa [List.length_map] at this

/-! More forbidden combinations, and none. -/
theorem allowed_append (F G : List (List Int)) (r : List Int) (h : allowed (F ++ G) r = true) : allowed F r = true := by
  unfold allowed at h ⊢
  rw [List.any_append, Bool.not_or, Bool.and_eq_true] at h
  exact h.1
theorem left_more (ns : List Nat) (F G : List (List Int)) (t : Nat) : ∀ c ∈ leftL ns F t, c ∈ leftL ns (F ++ G) t := fun _ hc => by
  rw [left_iff] at hc ⊢
  exact ⟨hc.1, fun r h1 h2 => hc.2 r h1 (allowed_append F G r h2)⟩
/-- A combination filled with noughts. -/
def fillR (c : List Int) : List Int := c.map fun x => if x < 0 then 0 else x
theorem fill_row : ∀ (ns : List Nat) (c : List Int), (∀ n ∈ ns, 0 < n) → comboB ns c = true → rowB ns (fillR c) = true ∧ has (fillR c) c = true
  | [], [], _, _ => ⟨rfl, rfl⟩
  | n :: ns, x :: c, hn, h => by
    simp only [comboB, Bool.and_eq_true, decide_eq_true_eq] at h
    obtain ⟨h1, h2⟩ := fill_row ns c (fun m hm => hn m (List.mem_cons_of_mem _ hm)) h.2
    have hp := hn n (List.mem_cons_self ..)
    constructor
    · show (decide _ && rowB ns (fillR c)) = true
      rw [h1, Bool.and_true, decide_eq_true_eq]
      dsimp only
      split <;> omega
    · show has ((if x < 0 then 0 else x) :: fillR c) (x :: c) = true
      rw [has_cons, h2, Bool.and_true, decide_eq_true_eq]
      split <;> simp [*]
  | [], _ :: _, _, h => by simp [comboB] at h
  | _ :: _, [], _, h => by simp [comboB] at h
theorem left_none (ns : List Nat) (hn : ∀ n ∈ ns, 0 < n) (t : Nat) : leftL ns [] t = [] := by
  rw [List.eq_nil_iff_forall_not_mem]
  intro c hc
  rw [left_iff] at hc
  obtain ⟨h1, h2⟩ := fill_row ns c hn hc.1.1
  have := hc.2 _ h1 rfl
  rw [h2] at this
  exact absurd this (by decide)
theorem open_none (ns : List Nat) (hn : ∀ n ∈ ns, 0 < n) (t : Nat) : openL ns [] t = asked ns t := by
  unfold openL
  rw [List.filter_eq_self]
  intro c hc
  obtain ⟨h1, h2⟩ := fill_row ns c hn (mem_asked.1 hc).1
  exact List.any_eq_true.2 ⟨fillR c, List.mem_filter.2 ⟨(mem_rowsC _ _).2 h1, rfl⟩, h2⟩

/-- The product of the sizes of a set's features. -/
def prodS : List Nat → Nat → Nat
  | [], _ => 1
  | n :: ns, s => (if s % 2 = 1 then n else 1) * prodS ns (s / 2)
theorem len_fillM : ∀ (ns : List Nat) (s : Nat), (fillS (openM ns s)).length = prodS ns s
  | [], _ => rfl
  | n :: ns, s => by
    unfold openM prodS
    by_cases h : s % 2 = 1
    · rw [decide_eq_true h, if_pos h]
      unfold fillS
      rw [List.length_flatMap]
      simp only [List.length_map, len_fillM ns (s / 2)]
      rw [List.map_const', List.sum_replicate_nat, List.length_range]
    · rw [decide_eq_false h, if_neg h]
      unfold fillS
      rw [List.length_map, len_fillM ns (s / 2), Nat.one_mul]
theorem supp_pos : ∀ (ns : List Nat), (∀ n ∈ ns, 0 < n) → ∀ s, s < 2 ^ ns.length → 0 < prodS ns s
  | [], _, _, _ => Nat.one_pos
  | n :: ns, hn, s, hs => by
    unfold prodS
    have h1 := supp_pos ns (fun m hm => hn m (List.mem_cons_of_mem _ hm)) (s / 2) (by rw [List.length_cons, Nat.pow_succ] at hs; omega)
    have h2 := hn n (List.mem_cons_self ..)
    refine Nat.mul_pos ?_ h1
    split
    · exact h2
    · exact Nat.one_pos
/-- Without forbidden combinations: the greatest product of t sizes. -/
theorem least_none (ns : List Nat) (hn : ∀ n ∈ ns, 0 < n) (t : Nat) : leastL (openL ns [] t) = ((masks ns.length t).map (prodS ns)).foldl max 0 := by
  rw [open_none ns hn]
  have hcount : ∀ c ∈ asked ns t, ((asked ns t).filter fun d => decide (supp d = supp c)).length = prodS ns (supp c) := fun c hc => by
    obtain ⟨h1, h2⟩ := mem_asked.1 hc
    have hl := comboB_len ns c h1
    have hs : supp c < 2 ^ ns.length := by rw [← hl]; exact supp_lt c
    rw [← len_fillM]
    refine len_of_mem _ _ ((nodup_of_sorted (asked_sorted ns t)).filter _) (nodup_of_sorted (fillS_sorted _)) (fun d => ?_)
    rw [List.mem_filter, mem_fillM ns _ hs, mem_asked, decide_eq_true_eq]
    constructor
    · rintro ⟨⟨h3, _⟩, h5⟩; exact ⟨h3, h5⟩
    · rintro ⟨h3, h5⟩
      refine ⟨⟨h3, ?_⟩, h5⟩
      rw [← pop_supp, h5, comboB_len ns d h3, ← hl, pop_supp, h2]
  refine Nat.le_antisymm (foldl_max_le _ 0 _ (Nat.zero_le _) fun x hx => ?_) (foldl_max_le _ 0 _ (Nat.zero_le _) fun x hx => ?_)
  · obtain ⟨c, hc, rfl⟩ := List.mem_map.1 hx
    rw [hcount c hc]
    refine (foldl_max_ge _ 0).2 _ (List.mem_map.2 ⟨supp c, List.mem_filter.2 ⟨List.mem_range.2 ?_, ?_⟩, rfl⟩)
    · rw [← comboB_len ns c (mem_asked.1 hc).1]; exact supp_lt c
    · rw [decide_eq_true_eq, ← comboB_len ns c (mem_asked.1 hc).1, pop_supp, (mem_asked.1 hc).2]
  · obtain ⟨s, hs, rfl⟩ := List.mem_map.1 hx
    obtain ⟨h1, h2⟩ := List.mem_filter.1 hs
    rw [List.mem_range] at h1
    rw [decide_eq_true_eq] at h2
    have hp := supp_pos ns hn s h1
    rw [← len_fillM] at hp
    obtain ⟨c, hc⟩ := List.exists_mem_of_length_pos hp
    obtain ⟨h3, h4⟩ := (mem_fillM ns s h1 c).1 hc
    have ha : c ∈ asked ns t := mem_asked.2 ⟨h3, by rw [← pop_supp, h4, comboB_len ns c h3, h2]⟩
    refine (foldl_max_ge _ 0).2 _ (List.mem_map.2 ⟨c, ha, ?_⟩)
    rw [hcount c ha, h4]

end Cov
end Go.Proofs.YtjaejnacdanpkaaDoor

namespace Go.Proofs.YtjaejnacdanpkaaDoor
namespace Cov

/-- How many of some combinations have values at the features of one. -/
def cntS (l : List (List Int)) (c : List Int) : Nat := (l.filter fun d => decide (supp d = supp c)).length
theorem leastL_def (l : List (List Int)) : leastL l = (l.map (cntS l)).foldl max 0 := rfl
theorem cntS_le {l : List (List Int)} {c : List Int} (h : c ∈ l) : cntS l c ≤ leastL l := (foldl_max_ge _ 0).2 _ (List.mem_map.2 ⟨c, h, rfl⟩)
theorem leastL_le {l : List (List Int)} {b : Nat} (h : ∀ c ∈ l, cntS l c ≤ b) : leastL l ≤ b := foldl_max_le _ 0 b (Nat.zero_le _) fun x hx => by
  obtain ⟨c, hc, rfl⟩ := List.mem_map.1 hx
  exact h c hc
theorem cntS_snoc (l : List (List Int)) (c x : List Int) : cntS (l ++ [c]) x = cntS l x + (if supp c = supp x then 1 else 0) := by
  unfold cntS
  rw [List.filter_append, List.length_append]
  simp only [List.filter_cons, List.filter_nil, decide_eq_true_eq]
  split <;> rfl
theorem cntS_eq {l : List (List Int)} {c x : List Int} (h : supp c = supp x) : cntS l c = cntS l x := by unfold cntS; rw [h]
theorem leastL_snoc (l : List (List Int)) (c : List Int) : leastL (l ++ [c]) = max (leastL l) (cntS l c + 1) := by
  refine Nat.le_antisymm (leastL_le fun x hx => ?_) (Nat.max_le.2 ⟨leastL_le fun x hx => ?_, ?_⟩)
  · rw [cntS_snoc]
    by_cases hs : supp c = supp x
    · rw [if_pos hs, cntS_eq hs]; omega
    · rw [if_neg hs]
      rcases List.mem_append.1 hx with hx | hx
      · have := cntS_le hx; omega
      · rw [List.mem_singleton.1 hx] at hs; exact absurd rfl hs
  · have := cntS_le (List.mem_append_left [c] hx)
    rw [cntS_snoc] at this
    omega
  · have := cntS_le (List.mem_append_right l (List.mem_singleton.2 (rfl : c = c)))
    rw [cntS_snoc, if_pos rfl] at this
    exact this
theorem cntS_perm {l m : List (List Int)} (hl : l.Nodup) (hm : m.Nodup) (h : ∀ x, x ∈ l ↔ x ∈ m) (c : List Int) : cntS l c = cntS m c :=
  len_of_mem _ _ (hl.filter _) (hm.filter _) fun x => by rw [List.mem_filter, List.mem_filter, h]
theorem leastL_perm {l m : List (List Int)} (hl : l.Nodup) (hm : m.Nodup) (h : ∀ x, x ∈ l ↔ x ∈ m) : leastL l = leastL m :=
  Nat.le_antisymm (leastL_le fun c hc => by rw [cntS_perm hl hm h]; exact cntS_le ((h c).1 hc)) (leastL_le fun c hc => by rw [← cntS_perm hl hm h]; exact cntS_le ((h c).2 hc))

/-- Whether two combinations have values at the same ones of the first j features. -/
def sameP (c d : List Int) (j : Nat) : Bool := (List.range j).all fun i => decide (0 ≤ c.getD i 0) == decide (0 ≤ d.getD i 0)
theorem sameP_succ (c d : List Int) (j : Nat) : sameP c d (j + 1) = (sameP c d j && (decide (0 ≤ c.getD j 0) == decide (0 ≤ d.getD j 0))) := by
  unfold sameP
  rw [List.range_succ, List.all_append]
  simp
theorem sameP_supp : ∀ (c d : List Int), c.length = d.length → sameP c d c.length = decide (supp d = supp c)
  | [], [], _ => rfl
  | x :: c, y :: d, h => by
    have ih := sameP_supp c d (by simpa using h)
    unfold sameP at ih ⊢
    rw [List.length_cons, List.range_succ_eq_map, List.all_cons, List.all_map]
    have e : ((List.range c.length).all ((fun i => decide (0 ≤ (x :: c).getD i 0) == decide (0 ≤ (y :: d).getD i 0)) ∘ Nat.succ)) = ((List.range c.length).all fun i => decide (0 ≤ c.getD i 0) == decide (0 ≤ d.getD i 0)) := rfl
    rw [e, ih]
    show ((decide (0 ≤ x) == decide (0 ≤ y)) && _) = _
    rw [Bool.eq_iff_iff, Bool.and_eq_true, decide_eq_true_eq, decide_eq_true_eq]
    simp only [supp]
    by_cases hx : 0 ≤ x <;> by_cases hy : 0 ≤ y <;> simp [hx, hy] <;> omega
  | [], _ :: _, h => by simp at h
  | _ :: _, [], h => by simp at h
/-- How many of some combinations have values at the features of one and are possible. -/
def cntA (A K : List (List Int)) (c : List Int) : Nat := (K.filter fun d => sameP c d c.length && inR A d).length
theorem cntA_eq (A K : List (List Int)) (c : List Int) (h : ∀ d ∈ K, c.length = d.length) : cntA A K c = cntS (K.filter fun d => inR A d) c := by
  unfold cntA cntS
  rw [List.filter_filter]
  congr 1
  refine List.filter_congr fun d hd => ?_
  rw [sameP_supp c d (h d hd)]
theorem least_asked (A K : List (List Int)) (h : ∀ c ∈ K, ∀ d ∈ K, c.length = d.length) : (K.map (cntA A K)).foldl max 0 = leastL (K.filter fun d => inR A d) := by
  have e : K.map (cntA A K) = K.map (cntS (K.filter fun d => inR A d)) := List.map_congr_left fun c hc => cntA_eq A K c (h c hc)
  rw [e]
  refine Nat.le_antisymm (foldl_max_le _ 0 _ (Nat.zero_le _) fun x hx => ?_) (leastL_le fun c hc => (foldl_max_ge _ 0).2 _ (List.mem_map.2 ⟨c, (List.mem_filter.1 hc).1, rfl⟩))
  obtain ⟨c, hc, rfl⟩ := List.mem_map.1 hx
  by_cases h0 : cntS (K.filter fun d => inR A d) c = 0
  · rw [h0]; exact Nat.zero_le _
  · unfold cntS at h0
    obtain ⟨d, hd⟩ := List.exists_mem_of_length_pos (Nat.pos_of_ne_zero h0)
    obtain ⟨h1, h2⟩ := List.mem_filter.1 hd
    rw [decide_eq_true_eq] at h2
    rw [← cntS_eq h2]
    exact cntS_le h1

end Cov
end Go.Proofs.YtjaejnacdanpkaaDoor
