/- The plain law of Merge: what package diff's Merge returns is what the reference's Merge returns. -/
import Derived.Test.YteepdnamkcgndaaA2
namespace Go.Proofs.Yteepdnamkcgndaa.Mer

/-- The fields of a change go together. -/
def formedB (c : Chg) : Bool :=
  if 0 ≤ c.field then decide (c.values.length = 0)
  else decide (-2 ≤ c.field) && (decide (c.old = 0) && (decide (c.new = 0) && (decide (1 ≤ c.values.length) && decide (c.values.length ≤ 10))))
def isSet (c : Chg) : Bool := decide (0 ≤ c.field)

/-! The reference. -/
def ofR (l : List Chg) (k : Int) (s : Bool) : List Chg := l.filter fun c => decide (c.kind = k) && (isSet c == s)
def afterB (a b : Chg) : Bool := decide (b.index < a.index) || (decide (a.index = b.index) && decide (b.field < a.field))
def tailOk (a b : Chg) : Bool :=
  decide (a.values.length = b.values.length) &&
    (if b.field = -2 then decide (a.field = -2) && decide (b.index = a.index - 1)
     else if a.field = -2 then decide (b.index = a.index) else decide (b.index = a.index + 1))
/-- Each two neighbours fit. -/
def chainB (R : Chg → Chg → Bool) : List Chg → Bool
  | [] => true
  | [_] => true
  | a :: b :: l => R a b && chainB R (b :: l)
def belowB (sets rest : List Chg) : Bool := sets.all fun s => rest.all fun r => decide (s.index < r.index)
def orderR (a b : Chg) : Bool := !(decide (b.kind < a.kind) || (decide (b.kind = a.kind) && (isSet b && !isSet a)))
def plainR (l : List Chg) : Bool :=
  (l.all fun c => decide (0 ≤ c.kind) && (decide (0 ≤ c.index) && formedB c)) && (chainB orderR l &&
    (l.all fun c => chainB (fun a b => afterB b a) (ofR l c.kind true) && (chainB tailOk (ofR l c.kind false) && belowB (ofR l c.kind true) (ofR l c.kind false))))

/-! The program. -/
def nextB (a b : Chg) : Bool :=
  if isSet a && isSet b then decide (a.index < b.index) || (decide (a.index = b.index) && decide (a.field < b.field))
  else if isSet a then true
  else if isSet b then false
  else if a.field = -2 ∧ b.field = -2 then decide (b.index = a.index - 1)
  else if a.field = -2 then decide (b.index = a.index)
  else decide (b.field = -1) && decide (b.index = a.index + 1)
def orderP (a b : Chg) : Bool := !(decide (b.kind < a.kind) || (decide (b.kind = a.kind) && !nextB a b))
/-- The changes of a kind that are no sets are of one length. -/
def sizesB (l : List Chg) : Bool := l.all fun c => l.all fun d => isSet c || (isSet d || (!decide (c.kind = d.kind) || decide (c.values.length = d.values.length)))
/-- The last set of a kind stands before all that is taken or added. -/
def lastB (l : List Chg) : Bool := l.all fun c => l.all fun d => !isSet c || (isSet d || (!decide (c.kind = d.kind) || decide (c.index < d.index)))
def plainP (l : List Chg) : Bool :=
  (l.all fun c => decide (0 ≤ c.kind) && (decide (0 ≤ c.index) && formedB c)) && (chainB orderP l && (sizesB l && lastB l))

theorem formed_field {c : Chg} (h : formedB c = true) (hs : isSet c = false) : c.field = -1 ∨ c.field = -2 := by
  unfold formedB at h
  unfold isSet at hs
  rw [decide_eq_false_iff_not] at hs
  rw [if_neg hs] at h
  simp only [Bool.and_eq_true, decide_eq_true_eq] at h
  omega

theorem chain_tail {R : Chg → Chg → Bool} {a : Chg} {l : List Chg} (h : chainB R (a :: l) = true) : chainB R l = true := by
  cases l with
  | nil => rfl
  | cons b l => simp only [chainB, Bool.and_eq_true] at h; exact h.2
theorem chain_head {R : Chg → Chg → Bool} {a b : Chg} {l : List Chg} (h : chainB R (a :: b :: l) = true) : R a b = true := by
  simp only [chainB, Bool.and_eq_true] at h; exact h.1
theorem orderR_iff {a b : Chg} : orderR a b = true ↔ a.kind ≤ b.kind ∧ (b.kind = a.kind → isSet b = true → isSet a = true) := by
  unfold orderR
  rw [Bool.not_eq_true', Bool.or_eq_false_iff, decide_eq_false_iff_not]
  constructor
  · rintro ⟨h1, h2⟩
    refine ⟨by omega, fun hk hs => ?_⟩
    cases ha : isSet a with
    | true => rfl
    | false => rw [hs, ha, decide_eq_true hk] at h2; cases h2
  · rintro ⟨h1, h2⟩
    refine ⟨by omega, ?_⟩
    by_cases hk : b.kind = a.kind
    · cases hs : isSet b with
      | true => rw [h2 hk hs]; simp
      | false => simp
    · simp [hk]
/-- Behind a change no kind comes that is less; and no set of its kind, if it is none. -/
theorem order_all : ∀ (l : List Chg) (a : Chg), chainB orderR (a :: l) = true → ∀ c ∈ l, a.kind ≤ c.kind ∧ (c.kind = a.kind → isSet c = true → isSet a = true)
  | [], _, _, c, hc => by simp at hc
  | b :: l, a, h, c, hc => by
    have h1 := orderR_iff.1 (chain_head h)
    rcases List.mem_cons.1 hc with rfl | hc
    · exact h1
    · have ih := order_all l b (chain_tail h) c hc
      refine ⟨by omega, fun hk hs => ?_⟩
      have hb : b.kind = a.kind := by omega
      exact h1.2 hb (ih.2 (by omega) hs)
/-- The parts of a list that begins with a change. -/
theorem ofR_cons (a : Chg) (l : List Chg) (k : Int) (s : Bool) : ofR (a :: l) k s = if a.kind = k ∧ isSet a = s then a :: ofR l k s else ofR l k s := by
  unfold ofR
  rw [List.filter_cons]
  by_cases hk : a.kind = k
  · cases isSet a <;> cases s <;> simp [hk]
  · simp [hk]
theorem ofR_mem {l : List Chg} {k : Int} {s : Bool} {c : Chg} : c ∈ ofR l k s ↔ c ∈ l ∧ c.kind = k ∧ isSet c = s := by
  unfold ofR
  rw [List.mem_filter]
  constructor
  · rintro ⟨h1, h2⟩
    simp only [Bool.and_eq_true, decide_eq_true_eq, beq_iff_eq] at h2
    exact ⟨h1, h2⟩
  · rintro ⟨h1, h2, h3⟩
    exact ⟨h1, by simp [h2, h3]⟩
/-- Of the first change's own part, what follows begins with the next change, or is nothing. -/
theorem ofR_next (a b : Chg) (l : List Chg) (h : chainB orderR (a :: b :: l) = true) :
    (b.kind = a.kind ∧ isSet b = isSet a ∧ ofR (b :: l) a.kind (isSet a) = b :: ofR l a.kind (isSet a)) ∨ (¬ (b.kind = a.kind ∧ isSet b = isSet a) ∧ ofR (b :: l) a.kind (isSet a) = []) := by
  by_cases hb : b.kind = a.kind ∧ isSet b = isSet a
  · exact .inl ⟨hb.1, hb.2, by rw [ofR_cons, if_pos hb]⟩
  · refine .inr ⟨hb, List.eq_nil_iff_forall_not_mem.2 fun c hc => ?_⟩
    rw [ofR_mem] at hc
    obtain ⟨hm, hk, hs⟩ := hc
    have h1 := orderR_iff.1 (chain_head h)
    rcases List.mem_cons.1 hm with rfl | hm
    · exact hb ⟨hk, hs⟩
    · have h2 := order_all l b (chain_tail h) c hm
      have hkb : b.kind = a.kind := by omega
      cases ha : isSet a with
      | true =>
        rw [ha] at hs hb
        exact hb ⟨hkb, h2.2 (by omega) hs⟩
      | false =>
        rw [ha] at hs hb
        cases hbs : isSet b with
        | true => have := h1.2 hkb hbs; rw [ha] at this; cases this
        | false => exact hb ⟨hkb, hbs⟩

/-- What is asked of two neighbours of one part. -/
def pairB (a b : Chg) : Bool := if isSet a = true then afterB b a else tailOk a b
theorem chain_parts {R : Chg → Chg → Bool} : ∀ (l : List Chg), chainB orderR l = true →
    ((∀ k s, chainB R (ofR l k s) = true) ↔ chainB (fun a b => !(decide (b.kind = a.kind) && (isSet b == isSet a)) || R a b) l = true)
  | [], _ => by simp [ofR, chainB]
  | [a], _ => by
    constructor
    · intro _; rfl
    · intro _ k s
      rw [ofR_cons]
      split <;> rfl
  | a :: b :: l, h => by
    have ih := chain_parts (R := R) (b :: l) (chain_tail h)
    have hn := ofR_next a b l h
    show _ ↔ ((!(decide (b.kind = a.kind) && (isSet b == isSet a)) || R a b) && chainB _ (b :: l)) = true
    rw [Bool.and_eq_true, ← ih]
    constructor
    · intro hc
      refine ⟨?_, fun k s => ?_⟩
      · rcases hn with ⟨h1, h2, h3⟩ | ⟨h1, -⟩
        · have := hc a.kind (isSet a)
          rw [ofR_cons, if_pos ⟨rfl, rfl⟩, h3] at this
          rw [chain_head this]; simp
        · have : (decide (b.kind = a.kind) && (isSet b == isSet a)) = false := by
            rw [Bool.eq_false_iff]
            intro hh
            simp only [Bool.and_eq_true, decide_eq_true_eq, beq_iff_eq] at hh
            exact h1 hh
          rw [this]; rfl
      · have := hc k s
        rw [ofR_cons] at this
        split at this
        · exact chain_tail this
        · exact this
    · rintro ⟨h1, h2⟩ k s
      rw [ofR_cons]
      split
      · rename_i hks
        obtain ⟨rfl, rfl⟩ := hks
        rcases hn with ⟨g1, g2, g3⟩ | ⟨-, g2⟩
        · have h3 := h2 a.kind (isSet a)
          rw [g3] at h3 ⊢
          simp only [chainB, Bool.and_eq_true]
          refine ⟨?_, h3⟩
          rw [g1, g2] at h1
          simpa using h1
        · rw [g2]; rfl
      · exact h2 k s

theorem chain_congr {R R' : Chg → Chg → Bool} : ∀ (l : List Chg), (∀ a ∈ l, ∀ b ∈ l, R a b = R' a b) → chainB R l = chainB R' l
  | [], _ => rfl
  | [_], _ => rfl
  | a :: b :: l, h => by
    have ih := chain_congr (b :: l) (fun x hx y hy => h x (List.mem_cons_of_mem _ hx) y (List.mem_cons_of_mem _ hy))
    simp only [chainB] at ih ⊢
    rw [h a (List.mem_cons_self ..) b (List.mem_cons_of_mem _ (List.mem_cons_self ..)), ih]
theorem chain_and {R R' : Chg → Chg → Bool} : ∀ (l : List Chg), chainB (fun a b => R a b && R' a b) l = (chainB R l && chainB R' l)
  | [] => rfl
  | [_] => rfl
  | a :: b :: l => by
    have ih := chain_and (R := R) (R' := R') (b :: l)
    simp only [chainB] at ih ⊢
    rw [ih]
    cases R a b <;> cases R' a b <;> simp
/-- Neighbours of one length: all are of one length. -/
theorem chain_len : ∀ (l : List Chg), chainB (fun a b => decide (a.values.length = b.values.length)) l = true ↔ ∀ a ∈ l, ∀ b ∈ l, a.values.length = b.values.length
  | [] => by simp [chainB]
  | [a] => by simp [chainB]
  | a :: b :: l => by
    have ih := chain_len (b :: l)
    simp only [chainB, Bool.and_eq_true, decide_eq_true_eq] at ih ⊢
    rw [ih]
    constructor
    · rintro ⟨h1, h2⟩ x hx y hy
      have hb : ∀ x ∈ a :: b :: l, x.values.length = b.values.length := fun x hx => by
        rcases List.mem_cons.1 hx with rfl | hx
        · exact h1
        · exact h2 x hx b (List.mem_cons_self ..)
      rw [hb x hx, hb y hy]
    · intro h
      exact ⟨h a (List.mem_cons_self ..) b (List.mem_cons_of_mem _ (List.mem_cons_self ..)), fun x hx y hy => h x (List.mem_cons_of_mem _ hx) y (List.mem_cons_of_mem _ hy)⟩

theorem orderP_eq (a b : Chg) : orderP a b = (orderR a b && (!(decide (b.kind = a.kind) && (isSet b == isSet a)) || nextB a b)) := by
  unfold orderP orderR nextB
  by_cases h1 : b.kind < a.kind
  · simp [h1]
  · by_cases h2 : b.kind = a.kind
    · cases ha : isSet a <;> cases hb : isSet b <;> simp [h2]
    · simp [h1, h2]
theorem nextB_set {a b : Chg} (ha : isSet a = true) (hb : isSet b = true) : nextB a b = afterB b a := by
  unfold nextB afterB
  rw [ha, hb]
  simp only [Bool.and_self, if_true]
  congr 2
  exact decide_eq_decide.2 ⟨fun h => h.symm, fun h => h.symm⟩
theorem tailOk_eq {a b : Chg} (ha : isSet a = false) (hb : isSet b = false) (fa : formedB a = true) (fb : formedB b = true) : tailOk a b = (decide (a.values.length = b.values.length) && nextB a b) := by
  have ga := formed_field fa ha
  have gb := formed_field fb hb
  unfold tailOk nextB
  rw [ha, hb]
  rcases ga with ga | ga <;> rcases gb with gb | gb <;> simp [ga, gb]

theorem plain_eq (l : List Chg) : plainP l = plainR l := by
  unfold plainP plainR
  cases hbase : (l.all fun c => decide (0 ≤ c.kind) && (decide (0 ≤ c.index) && formedB c)) with
  | false => rfl
  | true =>
    have hform : ∀ c ∈ l, formedB c = true := fun c hc => by
      have := List.all_eq_true.1 hbase c hc
      simp only [Bool.and_eq_true] at this
      exact this.2.2
    rw [Bool.true_and, Bool.true_and]
    have e1 : chainB orderP l = (chainB orderR l && chainB (fun a b => !(decide (b.kind = a.kind) && (isSet b == isSet a)) || nextB a b) l) := by
      rw [← chain_and]
      exact chain_congr l (fun a _ b _ => orderP_eq a b)
    rw [e1]
    cases hR : chainB orderR l with
    | false => rfl
    | true =>
      rw [Bool.true_and, Bool.true_and]
      have hp := chain_parts (R := nextB) l hR
      rw [Bool.eq_iff_iff, Bool.and_eq_true, Bool.and_eq_true, ← hp, List.all_eq_true]
      have hset : ∀ k, chainB (fun a b => afterB b a) (ofR l k true) = chainB nextB (ofR l k true) := fun k =>
        chain_congr _ (fun a ha b hb => (nextB_set (ofR_mem.1 ha).2.2 (ofR_mem.1 hb).2.2).symm)
      have hrest : ∀ k, chainB tailOk (ofR l k false) = (chainB (fun a b => decide (a.values.length = b.values.length)) (ofR l k false) && chainB nextB (ofR l k false)) := fun k => by
        rw [← chain_and]
        exact chain_congr _ (fun a ha b hb => tailOk_eq (ofR_mem.1 ha).2.2 (ofR_mem.1 hb).2.2 (hform a (ofR_mem.1 ha).1) (hform b (ofR_mem.1 hb).1))
      constructor
      · rintro ⟨h1, h2, h3⟩ c hc
        rw [hset, hrest]
        simp only [Bool.and_eq_true]
        refine ⟨h1 _ _, ⟨(chain_len _).2 fun a ha b hb => ?_, h1 _ _⟩, ?_⟩
        · rw [ofR_mem] at ha hb
          have := List.all_eq_true.1 (List.all_eq_true.1 h2 a ha.1) b hb.1
          simpa [ha.2.2, hb.2.2, ha.2.1, hb.2.1] using this
        · unfold belowB
          refine List.all_eq_true.2 fun a ha => List.all_eq_true.2 fun b hb => ?_
          rw [ofR_mem] at ha hb
          have := List.all_eq_true.1 (List.all_eq_true.1 h3 a ha.1) b hb.1
          simpa [ha.2.2, hb.2.2, ha.2.1, hb.2.1] using this
      · intro h
        have hc : ∀ c ∈ l, chainB nextB (ofR l c.kind true) = true ∧ (chainB (fun a b => decide (a.values.length = b.values.length)) (ofR l c.kind false) = true ∧ chainB nextB (ofR l c.kind false) = true) ∧ belowB (ofR l c.kind true) (ofR l c.kind false) = true := fun c hc => by
          have := h c hc
          rw [hset, hrest] at this
          simpa only [Bool.and_eq_true] using this
        refine ⟨fun k s => ?_, ?_, ?_⟩
        · cases ho : ofR l k s with
          | nil => rfl
          | cons c t =>
            have hm : c ∈ ofR l k s := by rw [ho]; exact List.mem_cons_self ..
            rw [ofR_mem] at hm
            obtain ⟨h1, ⟨_, h2⟩, _⟩ := hc c hm.1
            rw [← ho]
            cases s with
            | true => rw [← hm.2.1]; exact h1
            | false => rw [← hm.2.1]; exact h2
        · refine List.all_eq_true.2 fun a ha => List.all_eq_true.2 fun b hb => ?_
          cases sa : isSet a with
          | true => rfl
          | false =>
            cases sb : isSet b with
            | true => rfl
            | false =>
              by_cases hk : a.kind = b.kind
              · have := (chain_len _).1 (hc a ha).2.1.1 a (ofR_mem.2 ⟨ha, rfl, sa⟩) b (ofR_mem.2 ⟨hb, hk.symm, sb⟩)
                simp [this]
              · simp [hk]
        · refine List.all_eq_true.2 fun a ha => List.all_eq_true.2 fun b hb => ?_
          cases sa : isSet a with
          | false => rfl
          | true =>
            cases sb : isSet b with
            | true => rfl
            | false =>
              by_cases hk : a.kind = b.kind
              · have h1 := (hc a ha).2.2
                unfold belowB at h1
                have := List.all_eq_true.1 (List.all_eq_true.1 h1 a (ofR_mem.2 ⟨ha, rfl, sa⟩)) b (ofR_mem.2 ⟨hb, hk.symm, sb⟩)
                rw [decide_eq_true_eq] at this
                simp [this]
              · simp [hk]


/-! The order in which plain changes stand. -/
def ltC (x y : Chg) : Prop :=
  x.kind < y.kind ∨ x.kind = y.kind ∧
    ((isSet x = true ∧ isSet y = true ∧ (x.index < y.index ∨ x.index = y.index ∧ x.field < y.field)) ∨
     (isSet x = true ∧ isSet y = false) ∨
     (isSet x = false ∧ isSet y = false ∧
       ((x.field = -2 ∧ y.field = -2 ∧ y.index < x.index) ∨ (x.field = -2 ∧ y.field ≠ -2) ∨ (x.field ≠ -2 ∧ y.field ≠ -2 ∧ x.index < y.index))))
theorem ltC_irr (x : Chg) : ¬ ltC x x := by
  unfold ltC
  intro h
  rcases h with h | ⟨-, ⟨-, -, h⟩ | ⟨h1, h2⟩ | ⟨-, -, h⟩⟩
  · omega
  · omega
  · rw [h1] at h2; cases h2
  · omega
theorem ltC_trans {x y z : Chg} (h1 : ltC x y) (h2 : ltC y z) : ltC x z := by
  unfold ltC at h1 h2 ⊢
  cases hx : isSet x <;> cases hy : isSet y <;> cases hz : isSet z <;> simp [hx, hy, hz] at h1 h2 ⊢ <;> omega

theorem afterB_iff {a b : Chg} : afterB b a = true ↔ a.index < b.index ∨ a.index = b.index ∧ a.field < b.field := by
  unfold afterB
  simp only [Bool.or_eq_true, Bool.and_eq_true, decide_eq_true_eq]
  constructor
  · rintro (h | ⟨h1, h2⟩)
    · exact .inl h
    · exact .inr ⟨h1.symm, h2⟩
  · rintro (h | ⟨h1, h2⟩)
    · exact .inl h
    · exact .inr ⟨h1.symm, h2⟩
theorem orderP_lt {a b : Chg} (fa : formedB a = true) (fb : formedB b = true) (h : orderP a b = true) : ltC a b := by
  rw [orderP_eq, Bool.and_eq_true] at h
  obtain ⟨h1, h2⟩ := h
  rw [orderR_iff] at h1
  unfold ltC
  by_cases hk : b.kind = a.kind
  · right
    refine ⟨hk.symm, ?_⟩
    have h3 := h1.2 hk
    cases ha : isSet a with
    | true =>
      cases hb : isSet b with
      | true =>
        left
        refine ⟨rfl, rfl, ?_⟩
        rw [nextB_set ha hb, ha, hb] at h2
        rw [← afterB_iff]
        simpa [hk] using h2
      | false => right; left; exact ⟨rfl, rfl⟩
    | false =>
      cases hb : isSet b with
      | true => rw [ha] at h3; cases h3 hb
      | false =>
        right; right
        refine ⟨rfl, rfl, ?_⟩
        have ga := formed_field fa ha
        have gb := formed_field fb hb
        unfold nextB at h2
        rcases ga with ga | ga <;> rcases gb with gb | gb <;> simp [ha, hb, hk, ga, gb] at h2 ⊢ <;> omega
  · left
    have := h1.1
    omega

theorem plainP_form {l : List Chg} (h : plainP l = true) : ∀ c ∈ l, 0 ≤ c.kind ∧ 0 ≤ c.index ∧ formedB c = true := fun c hc => by
  unfold plainP at h
  simp only [Bool.and_eq_true] at h
  have := List.all_eq_true.1 h.1 c hc
  simpa only [Bool.and_eq_true, decide_eq_true_eq] using this
theorem chain_lt : ∀ (l : List Chg), (∀ c ∈ l, formedB c = true) → chainB orderP l = true → l.Pairwise ltC
  | [], _, _ => List.Pairwise.nil
  | [a], _, _ => by simp
  | a :: b :: l, hf, h => by
    have ih := chain_lt (b :: l) (fun c hc => hf c (List.mem_cons_of_mem _ hc)) (chain_tail h)
    have h1 := orderP_lt (hf a (List.mem_cons_self ..)) (hf b (List.mem_cons_of_mem _ (List.mem_cons_self ..))) (chain_head h)
    refine List.Pairwise.cons (fun c hc => ?_) ih
    rcases List.mem_cons.1 hc with rfl | hc
    · exact h1
    · exact ltC_trans h1 ((List.pairwise_cons.1 ih).1 c hc)
theorem plainP_lt {l : List Chg} (h : plainP l = true) : l.Pairwise ltC := by
  have hf := plainP_form h
  unfold plainP at h
  simp only [Bool.and_eq_true] at h
  exact chain_lt l (fun c hc => (hf c hc).2.2) h.2.1
theorem plainP_last {l : List Chg} (h : plainP l = true) {c d : Chg} (hc : c ∈ l) (hd : d ∈ l) (sc : isSet c = true) (sd : isSet d = false) (hk : c.kind = d.kind) : c.index < d.index := by
  unfold plainP at h
  simp only [Bool.and_eq_true] at h
  have := List.all_eq_true.1 (List.all_eq_true.1 h.2.2.2 c hc) d hd
  simpa [sc, sd, hk] using this

/-- Two lists in order that have the same members are one. -/
theorem sorted_eq : ∀ (l m : List Chg), l.Pairwise ltC → m.Pairwise ltC → (∀ c, c ∈ l ↔ c ∈ m) → l = m
  | [], [], _, _, _ => rfl
  | [], y :: m, _, _, h => by have := (h y).2 (List.mem_cons_self ..); simp at this
  | x :: l, [], _, _, h => by have := (h x).1 (List.mem_cons_self ..); simp at this
  | x :: l, y :: m, hl, hm, h => by
    rw [List.pairwise_cons] at hl hm
    have hxy : x = y := by
      rcases List.mem_cons.1 ((h x).1 (List.mem_cons_self ..)) with hx | hx
      · exact hx
      · rcases List.mem_cons.1 ((h y).2 (List.mem_cons_self ..)) with hy | hy
        · exact hy.symm
        · exact absurd (ltC_trans (hl.1 y hy) (hm.1 x hx)) (ltC_irr _)
    subst hxy
    rw [sorted_eq l m hl.2 hm.2 fun c => ?_]
    constructor
    · intro hc
      rcases List.mem_cons.1 ((h c).1 (List.mem_cons_of_mem _ hc)) with rfl | hc'
      · exact absurd (hl.1 _ hc) (ltC_irr _)
      · exact hc'
    · intro hc
      rcases List.mem_cons.1 ((h c).2 (List.mem_cons_of_mem _ hc)) with rfl | hc'
      · exact absurd (hm.1 _ hc) (ltC_irr _)
      · exact hc'

/-! The reference's Merge. -/
def clash1 (a b : List Chg) (x y : Chg) : Bool :=
  decide (x.kind = y.kind) &&
    ((isSet x && (isSet y && (decide (x.index = y.index) && (decide (x.field = y.field) && !decide (x = y))))) ||
     (((!isSet x) && ((!isSet y) && !decide (ofR a x.kind false = ofR b x.kind false))) ||
      (((!isSet x) && (isSet y && decide (x.index ≤ y.index))) || (isSet x && ((!isSet y) && decide (y.index ≤ x.index))))))
def clashR (a b : List Chg) : Bool := a.any fun x => b.any fun y => clash1 a b x y
def firstB (x y : Chg) : Bool := if x.kind = y.kind then !isSet y || (isSet x && afterB y x) else decide (x.kind < y.kind)
def togetherR : List Chg → List Chg → List Chg
  | [], b => b
  | x :: a, [] => x :: a
  | x :: a, y :: b =>
    if x = y then x :: togetherR a b
    else if firstB x y = true then x :: togetherR a (y :: b)
    else y :: togetherR (x :: a) b
termination_by a b => a.length + b.length

theorem together_mem (a b : List Chg) (c : Chg) : c ∈ togetherR a b ↔ c ∈ a ∨ c ∈ b := by
  fun_induction togetherR a b with
  | case1 b => simp
  | case2 x a => simp
  | case3 a y b ih => simp only [List.mem_cons, ih]; grind
  | case4 x a y b h1 h2 ih => simp only [List.mem_cons, ih]; grind
  | case5 x a y b h1 h2 ih => simp only [List.mem_cons, ih]; grind

/-- What lists that do not clash have in common. -/
structure CF (a b : List Chg) : Prop where
  rest : ∀ k, ofR a k false = [] ∨ ofR b k false = [] ∨ ofR a k false = ofR b k false
  sets : ∀ x ∈ a, ∀ y ∈ b, isSet x = true → isSet y = true → x.kind = y.kind → x.index = y.index → x.field = y.field → x = y

theorem first_lt {x y : Chg} {a b : List Chg} (h : CF (x :: a) (y :: b)) (hn : x ≠ y) (hf : firstB x y = true) : ltC x y := by
  unfold firstB at hf
  unfold ltC
  by_cases hk : x.kind = y.kind
  · rw [if_pos hk] at hf
    right
    refine ⟨hk, ?_⟩
    cases hx : isSet x with
    | true =>
      cases hy : isSet y with
      | true =>
        left
        rw [hx, hy] at hf
        exact ⟨rfl, rfl, afterB_iff.1 (by simpa using hf)⟩
      | false => right; left; exact ⟨rfl, rfl⟩
    | false =>
      cases hy : isSet y with
      | true => rw [hx, hy] at hf; cases hf
      | false =>
        exfalso
        have e1 : ofR (x :: a) x.kind false = x :: ofR a x.kind false := by rw [ofR_cons, if_pos ⟨rfl, hx⟩]
        have e2 : ofR (y :: b) x.kind false = y :: ofR b x.kind false := by rw [ofR_cons, if_pos ⟨hk.symm, hy⟩]
        rcases h.rest x.kind with h | h | h
        · rw [e1] at h; cases h
        · rw [e2] at h; cases h
        · rw [e1, e2] at h; exact hn (List.cons.inj h).1
  · rw [if_neg hk, decide_eq_true_eq] at hf
    exact .inl hf
theorem first_gt {x y : Chg} {a b : List Chg} (h : CF (x :: a) (y :: b)) (hn : x ≠ y) (hf : ¬ firstB x y = true) : ltC y x := by
  rw [Bool.not_eq_true] at hf
  unfold firstB at hf
  unfold ltC
  by_cases hk : x.kind = y.kind
  · rw [if_pos hk] at hf
    right
    refine ⟨hk.symm, ?_⟩
    cases hy : isSet y with
    | false => rw [hy] at hf; cases hf
    | true =>
      cases hx : isSet x with
      | false => right; left; exact ⟨rfl, rfl⟩
      | true =>
        left
        rw [hx, hy] at hf
        have hg : ¬ (x.index < y.index ∨ x.index = y.index ∧ x.field < y.field) := by
          rw [← afterB_iff]
          rw [Bool.not_eq_true]
          simpa using hf
        refine ⟨rfl, rfl, ?_⟩
        by_cases he : x.index = y.index ∧ x.field = y.field
        · exact absurd (h.sets x (List.mem_cons_self ..) y (List.mem_cons_self ..) hx hy hk he.1 he.2) hn
        · omega
  · rw [if_neg hk, decide_eq_false_iff_not] at hf
    exact .inl (by omega)

/-- Of a kind that is less than all of a list there is none in it. -/
theorem ofR_none {l : List Chg} {k : Int} {s : Bool} (h : ∀ c ∈ l, k < c.kind) : ofR l k s = [] :=
  List.eq_nil_iff_forall_not_mem.2 fun c hc => by
    rw [ofR_mem] at hc
    have := h c hc.1
    omega
theorem lt_kind {x y : Chg} (h : ltC x y) : x.kind ≤ y.kind := by
  unfold ltC at h
  rcases h with h | ⟨h, -⟩ <;> omega

theorem CF.symm {a b : List Chg} (h : CF a b) : CF b a where
  rest k := by
    rcases h.rest k with g | g | g
    · exact .inr (.inl g)
    · exact .inl g
    · exact .inr (.inr g.symm)
  sets x hx y hy sx sy hk hi hf := (h.sets y hy x hx sy sx hk.symm hi.symm hf.symm).symm
theorem CF.both {x : Chg} {a b : List Chg} (h : CF (x :: a) (x :: b)) : CF a b where
  rest k := by
    have := h.rest k
    rw [ofR_cons, ofR_cons] at this
    split at this
    · rcases this with g | g | g
      · cases g
      · cases g
      · exact .inr (.inr (List.cons.inj g).2)
    · exact this
  sets y hy z hz := h.sets y (List.mem_cons_of_mem _ hy) z (List.mem_cons_of_mem _ hz)
theorem CF.left {x y : Chg} {a b : List Chg} (h : CF (x :: a) (y :: b)) (hn : x ≠ y) (hb : (y :: b).Pairwise ltC) (hf : ltC x y) : CF a (y :: b) where
  rest k := by
    have h1 := h.rest k
    rw [ofR_cons x] at h1
    split at h1
    · rename_i hk
      obtain ⟨rfl, hs⟩ := hk
      rcases h1 with g | g | g
      · cases g
      · exact .inr (.inl g)
      · exfalso
        have hm : x ∈ ofR (y :: b) x.kind false := by rw [← g]; exact List.mem_cons_self ..
        rw [ofR_mem] at hm
        rcases List.mem_cons.1 hm.1 with e | hm'
        · exact hn e
        · exact ltC_irr _ (ltC_trans hf ((List.pairwise_cons.1 hb).1 x hm'))
    · exact h1
  sets u hu z hz := h.sets u (List.mem_cons_of_mem _ hu) z hz

theorem together_sorted (a b : List Chg) (ha : a.Pairwise ltC) (hb : b.Pairwise ltC) (h : CF a b) : (togetherR a b).Pairwise ltC := by
  fun_induction togetherR a b with
  | case1 b => exact hb
  | case2 x a => exact ha
  | case3 a y b ih =>
    rw [List.pairwise_cons] at ha hb
    refine List.Pairwise.cons (fun c hc => ?_) (ih ha.2 hb.2 h.both)
    rcases (together_mem ..).1 hc with hc | hc
    · exact ha.1 c hc
    · exact hb.1 c hc
  | case4 x a y b h1 h2 ih =>
    have hl := first_lt h h1 h2
    refine List.Pairwise.cons (fun c hc => ?_) (ih (List.pairwise_cons.1 ha).2 hb (h.left h1 hb hl))
    rcases (together_mem ..).1 hc with hc | hc
    · exact (List.pairwise_cons.1 ha).1 c hc
    · rcases List.mem_cons.1 hc with rfl | hc
      · exact hl
      · exact ltC_trans hl ((List.pairwise_cons.1 hb).1 c hc)
  | case5 x a y b h1 h2 ih =>
    have hl := first_gt h h1 h2
    refine List.Pairwise.cons (fun c hc => ?_) (ih ha (List.pairwise_cons.1 hb).2 (CF.symm (h.symm.left (Ne.symm h1) ha hl)))
    rcases (together_mem ..).1 hc with hc | hc
    · rcases List.mem_cons.1 hc with rfl | hc
      · exact hl
      · exact ltC_trans hl ((List.pairwise_cons.1 ha).1 c hc)
    · exact (List.pairwise_cons.1 hb).1 c hc


/-! The program's Merge, for each kind by itself. -/
def placeEq (c d : Chg) : Bool := decide (c.index = d.index) && decide (c.field = d.field)
/-- What of the second list stands at a place of its own. -/
def newS (us bs : List Chg) : List Chg := bs.filter fun c => (us.find? (placeEq c)).isNone
/-- What of the second list stands at a place of the first one's is the same change. -/
def okS (us bs : List Chg) : Bool := bs.all fun c => match us.find? (placeEq c) with | none => true | some d => decide (c = d)
def leS (x y : Chg) : Prop := x.index < y.index ∨ x.index = y.index ∧ x.field ≤ y.field
structure SortS (S t : List Chg) : Prop where
  perm : S.Perm t
  sorted : S.Pairwise leS
def restJ (a b : List Chg) (k : Int) : List Chg := if ofR a k false = [] then ofR b k false else ofR a k false
def setsJ (a b : List Chg) (k : Int) : List Chg := ofR a k true ++ newS (ofR a k true) (ofR b k true)
def restOk (a b : List Chg) (k : Int) : Prop := ofR a k false = [] ∨ ofR b k false = [] ∨ ofR a k false = ofR b k false
def belowJ (S R : List Chg) : Prop := ∀ s ∈ S, ∀ r ∈ R, s.index < r.index
/-- The parts of a kind are joined. -/
structure JoinP (a b : List Chg) (k : Int) (S : List Chg) : Prop where
  rest : restOk a b k
  ok : okS (ofR a k true) (ofR b k true) = true
  sort : SortS S (setsJ a b k)
  below : belowJ S (restJ a b k)
/-- The parts of a kind clash. -/
def JoinF (a b : List Chg) (k : Int) : Prop :=
  ¬ restOk a b k ∨ okS (ofR a k true) (ofR b k true) = false ∨ ∃ S, SortS S (setsJ a b k) ∧ ¬ belowJ S (restJ a b k)
/-- What the kinds give, one behind the other. -/
def Outs (a b : List Chg) : List Int → List Chg → Prop
  | [], out => out = []
  | k :: ks, out => ∃ S o, JoinP a b k S ∧ Outs a b ks o ∧ out = S ++ restJ a b k ++ o

theorem outs_snoc {a b : List Chg} {k : Int} {S : List Chg} : ∀ (ks : List Int) (o : List Chg), Outs a b ks o → JoinP a b k S → Outs a b (ks ++ [k]) (o ++ (S ++ restJ a b k))
  | [], o, h, hj => by
    cases (h : o = [])
    exact ⟨S, [], hj, rfl, by simp⟩
  | k' :: ks, o, ⟨S', o', h1, h2, h3⟩, hj => by
    subst h3
    exact ⟨S', _, h1, outs_snoc ks o' h2 hj, by simp⟩

theorem newS_mem {us bs : List Chg} {c : Chg} (h : okS us bs = true) : (c ∈ us ∨ c ∈ newS us bs) ↔ (c ∈ us ∨ c ∈ bs) := by
  unfold newS
  rw [List.mem_filter]
  constructor
  · rintro (h | h)
    · exact .inl h
    · exact .inr h.1
  · rintro (h1 | h1)
    · exact .inl h1
    · have h2 := List.all_eq_true.1 h c h1
      cases hf : us.find? (placeEq c) with
      | none => exact .inr ⟨h1, by simp⟩
      | some d =>
        rw [hf] at h2
        have hcd : c = d := of_decide_eq_true h2
        subst hcd
        exact .inl (List.mem_of_find?_eq_some hf)
theorem setsJ_mem {a b : List Chg} {k : Int} {c : Chg} (h : okS (ofR a k true) (ofR b k true) = true) : c ∈ setsJ a b k ↔ (c ∈ a ∨ c ∈ b) ∧ c.kind = k ∧ isSet c = true := by
  unfold setsJ
  rw [List.mem_append, newS_mem h, ofR_mem, ofR_mem]
  constructor
  · rintro (h | h)
    · exact ⟨.inl h.1, h.2⟩
    · exact ⟨.inr h.1, h.2⟩
  · rintro ⟨h1 | h1, h2⟩
    · exact .inl ⟨h1, h2⟩
    · exact .inr ⟨h1, h2⟩
theorem setsJ_sub {a b : List Chg} {k : Int} {c : Chg} (h : c ∈ setsJ a b k) : (c ∈ a ∨ c ∈ b) ∧ c.kind = k ∧ isSet c = true := by
  unfold setsJ newS at h
  rw [List.mem_append, List.mem_filter, ofR_mem, ofR_mem] at h
  rcases h with h | h
  · exact ⟨.inl h.1, h.2⟩
  · exact ⟨.inr h.1.1, h.1.2⟩
theorem restJ_mem {a b : List Chg} {k : Int} {c : Chg} (h : restOk a b k) : c ∈ restJ a b k ↔ (c ∈ a ∨ c ∈ b) ∧ c.kind = k ∧ isSet c = false := by
  have e : ∀ l : List Chg, c ∈ ofR l k false ↔ c ∈ l ∧ c.kind = k ∧ isSet c = false := fun l => ofR_mem
  have key : c ∈ restJ a b k ↔ c ∈ ofR a k false ∨ c ∈ ofR b k false := by
    unfold restJ
    rcases h with h | h | h
    · rw [if_pos h, h]; simp
    · rw [h]
      split
      · rename_i h'; rw [h']; simp
      · simp
    · rw [← h]
      split <;> simp
  rw [key, e, e]
  constructor
  · rintro (h | h)
    · exact ⟨.inl h.1, h.2⟩
    · exact ⟨.inr h.1, h.2⟩
  · rintro ⟨h1 | h1, h2⟩
    · exact .inl ⟨h1, h2⟩
    · exact .inr ⟨h1, h2⟩
theorem restJ_sub {a b : List Chg} {k : Int} {c : Chg} (h : c ∈ restJ a b k) : (c ∈ a ∨ c ∈ b) ∧ c.kind = k ∧ isSet c = false := by
  unfold restJ at h
  split at h
  · rw [ofR_mem] at h; exact ⟨.inr h.1, h.2⟩
  · rw [ofR_mem] at h; exact ⟨.inl h.1, h.2⟩

theorem ofR_lt {l : List Chg} (h : l.Pairwise ltC) (k : Int) (s : Bool) : (ofR l k s).Pairwise ltC := by
  unfold ofR
  exact h.filter _
theorem ltC_place {x y : Chg} (h : ltC x y) (hk : x.kind = y.kind) (hx : isSet x = true) (hy : isSet y = true) : x.index < y.index ∨ x.index = y.index ∧ x.field < y.field := by
  unfold ltC at h
  simp only [hk, hx, hy] at h
  simpa using h
def apart (x y : Chg) : Prop := ¬ (x.index = y.index ∧ x.field = y.field)
theorem setsJ_apart {a b : List Chg} {k : Int} (ha : a.Pairwise ltC) (hb : b.Pairwise ltC) : (setsJ a b k).Pairwise apart := by
  have hp : ∀ l : List Chg, l.Pairwise ltC → (ofR l k true).Pairwise apart := fun l hl => by
    refine (ofR_lt hl k true).imp_of_mem fun {x y} hx hy h => ?_
    rw [ofR_mem] at hx hy
    have := ltC_place h (hx.2.1.trans hy.2.1.symm) hx.2.2 hy.2.2
    unfold apart
    omega
  unfold setsJ
  rw [List.pairwise_append]
  refine ⟨hp a ha, (hp b hb).filter _, fun x hx y hy => ?_⟩
  unfold newS at hy
  rw [List.mem_filter] at hy
  have h1 := hy.2
  rw [Option.isNone_iff_eq_none, List.find?_eq_none] at h1
  have h2 := h1 x hx
  unfold placeEq at h2
  unfold apart
  simp only [Bool.and_eq_true, decide_eq_true_eq] at h2
  omega
theorem sort_lt {a b : List Chg} {k : Int} {S : List Chg} (ha : a.Pairwise ltC) (hb : b.Pairwise ltC) (h : SortS S (setsJ a b k)) : S.Pairwise ltC := by
  have h1 : S.Pairwise apart := (h.perm.pairwise_iff (fun {x y} (hxy : apart x y) => show apart y x by unfold apart at hxy ⊢; omega)).2 (setsJ_apart ha hb)
  have h2 := h1.and h.sorted
  refine h2.imp_of_mem fun {x y} hx hy hxy => ?_
  have mx := setsJ_sub (h.perm.mem_iff.1 hx)
  have my := setsJ_sub (h.perm.mem_iff.1 hy)
  unfold ltC
  refine .inr ⟨mx.2.1.trans my.2.1.symm, .inl ⟨mx.2.2, my.2.2, ?_⟩⟩
  have := hxy.1
  have := hxy.2
  unfold apart leS at *
  omega
theorem join_lt {a b : List Chg} {k : Int} {S : List Chg} (ha : a.Pairwise ltC) (hb : b.Pairwise ltC) (h : JoinP a b k S) : (S ++ restJ a b k).Pairwise ltC := by
  rw [List.pairwise_append]
  refine ⟨sort_lt ha hb h.sort, ?_, fun x hx y hy => ?_⟩
  · unfold restJ
    split
    · exact ofR_lt hb _ _
    · exact ofR_lt ha _ _
  · have mx := setsJ_sub (h.sort.perm.mem_iff.1 hx)
    have my := restJ_sub hy
    exact .inr ⟨mx.2.1.trans my.2.1.symm, .inr (.inl ⟨mx.2.2, my.2.2⟩)⟩
theorem join_mem {a b : List Chg} {k : Int} {S : List Chg} (h : JoinP a b k S) (c : Chg) : c ∈ S ++ restJ a b k ↔ (c ∈ a ∨ c ∈ b) ∧ c.kind = k := by
  rw [List.mem_append, h.sort.perm.mem_iff, setsJ_mem h.ok, restJ_mem h.rest]
  cases isSet c <;> simp

theorem outs_mem {a b : List Chg} : ∀ (ks : List Int) (o : List Chg), Outs a b ks o → ∀ c, c ∈ o ↔ (c ∈ a ∨ c ∈ b) ∧ c.kind ∈ ks
  | [], o, h, c => by cases (h : o = []); simp
  | k :: ks, o, ⟨S, o', h1, h2, h3⟩, c => by
    subst h3
    rw [List.mem_append, join_mem h1, outs_mem ks o' h2, List.mem_cons]
    constructor
    · rintro (h | h)
      · exact ⟨h.1, .inl h.2⟩
      · exact ⟨h.1, .inr h.2⟩
    · rintro ⟨h, h' | h'⟩
      · exact .inl ⟨h, h'⟩
      · exact .inr ⟨h, h'⟩
theorem outs_lt {a b : List Chg} (ha : a.Pairwise ltC) (hb : b.Pairwise ltC) : ∀ (ks : List Int) (o : List Chg), ks.Pairwise (· < ·) → Outs a b ks o → o.Pairwise ltC
  | [], o, _, h => by cases (h : o = []); exact List.Pairwise.nil
  | k :: ks, o, hk, ⟨S, o', h1, h2, h3⟩ => by
    subst h3
    rw [List.pairwise_cons] at hk
    rw [List.pairwise_append]
    refine ⟨join_lt ha hb h1, outs_lt ha hb ks o' hk.2 h2, fun x hx y hy => ?_⟩
    have mx := (join_mem h1 x).1 hx
    have my := (outs_mem ks o' h2 y).1 hy
    exact .inl (by rw [mx.2]; exact hk.1 _ my.2)
theorem outs_join {a b : List Chg} : ∀ (ks : List Int) (o : List Chg), Outs a b ks o → ∀ k ∈ ks, ∃ S, JoinP a b k S
  | [], _, _, k, hk => by simp at hk
  | k' :: ks, o, ⟨S, o', h1, h2, _⟩, k, hk => by
    rcases List.mem_cons.1 hk with rfl | hk
    · exact ⟨S, h1⟩
    · exact outs_join ks o' h2 k hk

/-- Changes of one list that stand at one place are one. -/
theorem find_place {l : List Chg} (h : l.Pairwise apart) {c d : Chg} (hd : d ∈ l) (hp : placeEq c d = true) : l.find? (placeEq c) = some d := by
  induction l with
  | nil => simp at hd
  | cons x l ih =>
    rw [List.pairwise_cons] at h
    rcases List.mem_cons.1 hd with rfl | hd
    · rw [List.find?_cons, hp]
    · have : placeEq c x = false := by
        rw [Bool.eq_false_iff]
        intro hx
        have := h.1 d hd
        unfold placeEq at hx hp
        unfold apart at this
        simp only [Bool.and_eq_true, decide_eq_true_eq] at hx hp
        omega
      rw [List.find?_cons, this]
      exact ih h.2 hd

theorem join_cf {a b : List Chg} (ha : a.Pairwise ltC) (ks : List Int) (hks : ∀ k, k ∈ ks ↔ ∃ c, (c ∈ a ∨ c ∈ b) ∧ c.kind = k) (hj : ∀ k ∈ ks, ∃ S, JoinP a b k S) : CF a b where
  rest k := by
    by_cases hk : k ∈ ks
    · obtain ⟨S, h⟩ := hj k hk
      exact h.rest
    · refine .inl (List.eq_nil_iff_forall_not_mem.2 fun c hc => ?_)
      rw [ofR_mem] at hc
      exact hk ((hks k).2 ⟨c, .inl hc.1, hc.2.1⟩)
  sets x hx y hy sx sy hk hi hf := by
    obtain ⟨S, h⟩ := hj x.kind ((hks _).2 ⟨x, .inl hx, rfl⟩)
    have hy' : y ∈ ofR b x.kind true := ofR_mem.2 ⟨hy, hk.symm, sy⟩
    have hx' : x ∈ ofR a x.kind true := ofR_mem.2 ⟨hx, rfl, sx⟩
    have h1 := List.all_eq_true.1 h.ok y hy'
    have hap : (ofR a x.kind true).Pairwise apart := by
      refine (ofR_lt ha x.kind true).imp_of_mem fun {u v} hu hv h => ?_
      rw [ofR_mem] at hu hv
      have := ltC_place h (hu.2.1.trans hv.2.1.symm) hu.2.2 hv.2.2
      unfold apart
      omega
    rw [find_place hap hx' (by unfold placeEq; simp [hi, hf])] at h1
    exact (of_decide_eq_true h1 : y = x).symm

theorem clash_false {a b : List Chg} (ha : a.Pairwise ltC) (ks : List Int) (hks : ∀ k, k ∈ ks ↔ ∃ c, (c ∈ a ∨ c ∈ b) ∧ c.kind = k) (hj : ∀ k ∈ ks, ∃ S, JoinP a b k S) : clashR a b = false := by
  have hcf := join_cf ha ks hks hj
  rw [Bool.eq_false_iff]
  intro h
  unfold clashR at h
  rw [List.any_eq_true] at h
  obtain ⟨x, hx, h⟩ := h
  rw [List.any_eq_true] at h
  obtain ⟨y, hy, h⟩ := h
  unfold clash1 at h
  simp only [Bool.and_eq_true, Bool.or_eq_true, decide_eq_true_eq, Bool.not_eq_true', decide_eq_false_iff_not] at h
  obtain ⟨hk, h⟩ := h
  obtain ⟨S, hS⟩ := hj x.kind ((hks _).2 ⟨x, .inl hx, rfl⟩)
  have inS : ∀ c, (c ∈ a ∨ c ∈ b) → c.kind = x.kind → isSet c = true → c ∈ S := fun c h1 h2 h3 => hS.sort.perm.mem_iff.2 ((setsJ_mem hS.ok).2 ⟨h1, h2, h3⟩)
  have inR : ∀ c, (c ∈ a ∨ c ∈ b) → c.kind = x.kind → isSet c = false → c ∈ restJ a b x.kind := fun c h1 h2 h3 => (restJ_mem hS.rest).2 ⟨h1, h2, h3⟩
  rcases h with ⟨sx, sy, hi, hf, hn⟩ | ⟨sx, sy, hn⟩ | ⟨sx, sy, hi⟩ | ⟨sx, sy, hi⟩
  · exact hn (hcf.sets x hx y hy sx sy hk hi hf)
  · rcases hcf.rest x.kind with g | g | g
    · have : x ∈ ofR a x.kind false := ofR_mem.2 ⟨hx, rfl, sx⟩
      rw [g] at this; simp at this
    · have : y ∈ ofR b x.kind false := ofR_mem.2 ⟨hy, hk.symm, sy⟩
      rw [g] at this; simp at this
    · exact hn g
  · have := hS.below y (inS y (.inr hy) hk.symm sy) x (inR x (.inl hx) rfl sx)
    omega
  · have := hS.below x (inS x (.inl hx) rfl sx) y (inR y (.inr hy) hk.symm sy)
    omega

/-- All kinds are joined: the lists don't clash, and what comes is what the reference gives. -/
theorem merge_ok {a b : List Chg} (ha : plainP a = true) (hb : plainP b = true) {ks : List Int} {o : List Chg} (hk : ks.Pairwise (· < ·)) (hks : ∀ k, k ∈ ks ↔ ∃ c, (c ∈ a ∨ c ∈ b) ∧ c.kind = k) (ho : Outs a b ks o) :
    clashR a b = false ∧ o = togetherR a b := by
  have pa := plainP_lt ha
  have pb := plainP_lt hb
  have hj := outs_join ks o ho
  refine ⟨clash_false pa ks hks hj, ?_⟩
  refine sorted_eq _ _ (outs_lt pa pb ks o hk ho) (together_sorted a b pa pb (join_cf pa ks hks hj)) fun c => ?_
  rw [outs_mem ks o ho, together_mem, hks]
  constructor
  · exact fun h => h.1
  · exact fun h => ⟨h, c, h, rfl⟩
/-- A kind whose parts clash: the lists clash. -/
theorem merge_clash {a b : List Chg} (ha : plainP a = true) (hb : plainP b = true) {k : Int} (h : JoinF a b k) : clashR a b = true := by
  have mk : ∀ x ∈ a, ∀ y ∈ b, clash1 a b x y = true → clashR a b = true := fun x hx y hy h => by
    unfold clashR
    rw [List.any_eq_true]
    exact ⟨x, hx, List.any_eq_true.2 ⟨y, hy, h⟩⟩
  rcases h with h | h | ⟨S, hs, h⟩
  · unfold restOk at h
    simp only [not_or] at h
    obtain ⟨h1, h2, h3⟩ := h
    obtain ⟨x, hx⟩ := List.exists_mem_of_ne_nil _ h1
    obtain ⟨y, hy⟩ := List.exists_mem_of_ne_nil _ h2
    rw [ofR_mem] at hx hy
    refine mk x hx.1 y hy.1 ?_
    unfold clash1
    rw [hx.2.2, hy.2.2, hx.2.1, hy.2.1]
    simp [h3]
  · unfold okS at h
    rw [← Bool.not_eq_true, List.all_eq_true] at h
    simp only [Classical.not_forall] at h
    obtain ⟨c, hc, h⟩ := h
    cases hf : (ofR a k true).find? (placeEq c) with
    | none => rw [hf] at h; exact absurd rfl h
    | some d =>
      rw [hf] at h
      have hd := List.mem_of_find?_eq_some hf
      have hp := List.find?_some hf
      rw [ofR_mem] at hc hd
      unfold placeEq at hp
      simp only [Bool.and_eq_true, decide_eq_true_eq] at hp
      refine mk d hd.1 c hc.1 ?_
      have hn : ¬ d = c := fun e => h (by simp [e])
      unfold clash1
      rw [hd.2.2, hc.2.2, hd.2.1, hc.2.1]
      simp [hp.1, hp.2, hn]
  · unfold belowJ at h
    simp only [Classical.not_forall] at h
    obtain ⟨s, hs', r, hr, h⟩ := h
    have ms := setsJ_sub (hs.perm.mem_iff.1 hs')
    have mr := restJ_sub hr
    have hle : r.index ≤ s.index := by omega
    have hkk : s.kind = r.kind := ms.2.1.trans mr.2.1.symm
    rcases ms.1 with m1 | m1
    · rcases mr.1 with m2 | m2
      · exact absurd (plainP_last ha m1 m2 ms.2.2 mr.2.2 hkk) h
      · refine mk s m1 r m2 ?_
        unfold clash1
        rw [ms.2.2, mr.2.2]
        simp [hkk, hle]
    · rcases mr.1 with m2 | m2
      · refine mk r m2 s m1 ?_
        unfold clash1
        rw [ms.2.2, mr.2.2]
        simp [hkk, hle]
      · exact absurd (plainP_last hb m1 m2 ms.2.2 mr.2.2 hkk) h

end Go.Proofs.Yteepdnamkcgndaa.Mer
