/- The changes of worlds are plain. What merged changes lead to: the plain law of DiffMerged. -/
import Derived.Test.YteepdnamkcgndaaM20
import Derived.Test.YteepdnamkcgndaaA11
import Derived.Test.YteepdnamkcgndaaM13
namespace Go.Proofs.Yteepdnamkcgndaa
open Go.RowKit

/-! The changes between worlds, up to any records. -/
def genL (A B : List Rows1) (m : Nat → Nat) (n : Nat) : List Chg := (List.range n).flatMap fun k : Nat => listL (k : Int) (A.getD k []) (B.getD k []) (m k)
theorem genL_succ (A B : List Rows1) (m : Nat → Nat) (n : Nat) : genL A B m (n + 1) = genL A B m n ++ listL n (A.getD n []) (B.getD n []) (m n) := by
  unfold genL; rw [List.range_succ, List.flatMap_append]; simp
theorem genL_zero (A B : List Rows1) (m : Nat → Nat) : genL A B m 0 = [] := by simp [genL]
theorem diffC_gen {A B : List Rows1} (h : diffOk A B) : diffC A B = genL A B (fun k => sameL (A.getD k []) (B.getD k [])) A.length := by
  unfold diffC
  rw [if_pos h]
  unfold diffL genL
  congr 1
  funext k
  exact (kindDiff_eq _ _ _).1
structure GenOk (A B : List Rows1) (m : Nat → Nat) : Prop where
  len : A.length = B.length
  even1 : ∀ k, EvenR (A.getD k [])
  even2 : ∀ k, EvenR (B.getD k [])
  fits : ∀ k, fitsK (A.getD k []) (B.getD k [])
  le1 : ∀ k, m k ≤ (A.getD k []).length
  le2 : ∀ k, m k ≤ (B.getD k []).length
theorem getD_ge {α : Type} {xs : List α} {i : Nat} {d : α} (h : xs.length ≤ i) : xs.getD i d = d := by rw [List.getD_eq_getElem?_getD, List.getElem?_eq_none h]; rfl
theorem evenR_getD {A : List Rows1} (h : ShapedW A) (k : Nat) : EvenR (A.getD k []) := by
  rcases getD_mem_or (xs := A) (i := k) (d := []) with h1 | h1
  · exact shaped_even h h1
  · rw [h1]; intro r hr; simp at hr
theorem genOk_of {A B : List Rows1} (h : diffOk A B) {m : Nat → Nat} (h1 : ∀ k, m k ≤ (A.getD k []).length) (h2 : ∀ k, m k ≤ (B.getD k []).length) : GenOk A B m := by
  refine ⟨h.2.2.1, evenR_getD h.1, evenR_getD h.2.1, fun k => ?_, h1, h2⟩
  by_cases hk : k < A.length
  · exact h.2.2.2 k hk
  · intro g1
    rw [getD_ge (by omega)] at g1
    simp at g1
theorem genOk_diff {A B : List Rows1} (h : diffOk A B) : GenOk A B (fun k => sameL (A.getD k []) (B.getD k [])) :=
  genOk_of h (fun _ => (kindDiff_eq 0 _ _).2.1) (fun _ => (kindDiff_eq 0 _ _).2.2)

/-- What takes and adds records. -/
def restL (kind : Int) (a b : Rows1) (m : Nat) : List Chg := takes kind a m ++ adds kind b m
theorem listL_eq (kind : Int) (a b : Rows1) (m : Nat) : listL kind a b m = sets kind a b m ++ restL kind a b m := by unfold listL restL; rw [List.append_assoc]
theorem mem_sets {kind : Int} {a b : Rows1} {m : Nat} {c : Chg} : c ∈ sets kind a b m ↔ ∃ i f : Nat, i < m ∧ f < (a.getD i []).length ∧ (a.getD i []).getD f 0 ≠ (b.getD i []).getD f 0 ∧ c = ⟨kind, i, f, (a.getD i []).getD f 0, (b.getD i []).getD f 0, []⟩ := by
  unfold sets setR setAt
  simp only [List.mem_flatMap, List.mem_range, List.mem_filterMap]
  constructor
  · rintro ⟨i, hi, f, hf, hc⟩
    split at hc
    · cases hc
    · rename_i hne
      exact ⟨i, f, hi, hf, hne, (Option.some.inj hc).symm⟩
  · rintro ⟨i, f, hi, hf, hne, rfl⟩
    exact ⟨i, hi, f, hf, by rw [if_neg hne]⟩
theorem mem_takes {kind : Int} {a : Rows1} {m : Nat} {c : Chg} : c ∈ takes kind a m ↔ ∃ i : Nat, m ≤ i ∧ i < a.length ∧ c = takeC kind a i := by
  unfold takes
  simp only [List.mem_map, List.mem_range]
  constructor
  · rintro ⟨j, hj, rfl⟩
    exact ⟨a.length - 1 - j, by omega, by omega, rfl⟩
  · rintro ⟨i, h1, h2, rfl⟩
    exact ⟨a.length - 1 - i, by omega, by rw [show a.length - 1 - (a.length - 1 - i) = i by omega]⟩
theorem mem_adds {kind : Int} {b : Rows1} {m : Nat} {c : Chg} : c ∈ adds kind b m ↔ ∃ i : Nat, m ≤ i ∧ i < b.length ∧ c = addC kind b i := by
  unfold adds
  simp only [List.mem_map, List.mem_range]
  constructor
  · rintro ⟨j, hj, rfl⟩
    exact ⟨m + j, by omega, by omega, rfl⟩
  · rintro ⟨i, h1, h2, rfl⟩
    exact ⟨i - m, by omega, by rw [show m + (i - m) = i by omega]⟩
theorem sets_isSet {kind : Int} {a b : Rows1} {m : Nat} : ∀ c ∈ sets kind a b m, c.kind = kind ∧ Mer.isSet c = true := fun c hc => by
  obtain ⟨i, f, _, _, _, rfl⟩ := mem_sets.1 hc
  exact ⟨rfl, by unfold Mer.isSet; simp⟩
theorem rest_isSet {kind : Int} {a b : Rows1} {m : Nat} : ∀ c ∈ restL kind a b m, c.kind = kind ∧ Mer.isSet c = false := fun c hc => by
  rcases List.mem_append.1 hc with hc | hc
  · obtain ⟨i, _, _, rfl⟩ := mem_takes.1 hc
    exact ⟨rfl, by unfold Mer.isSet takeC; simp⟩
  · obtain ⟨i, _, _, rfl⟩ := mem_adds.1 hc
    exact ⟨rfl, by unfold Mer.isSet addC; simp⟩
theorem rest_index {kind : Int} {a b : Rows1} {m : Nat} : ∀ c ∈ restL kind a b m, (m : Int) ≤ c.index := fun c hc => by
  rcases List.mem_append.1 hc with hc | hc
  · obtain ⟨i, _, _, rfl⟩ := mem_takes.1 hc
    show (m : Int) ≤ (i : Int)
    omega
  · obtain ⟨i, _, _, rfl⟩ := mem_adds.1 hc
    show (m : Int) ≤ (i : Int)
    omega
/-- If there are any, one of them stands at m. -/
theorem rest_least {kind : Int} {a b : Rows1} {m : Nat} (h : restL kind a b m ≠ []) : ∃ c ∈ restL kind a b m, c.index = m := by
  by_cases h1 : m < a.length
  · exact ⟨takeC kind a m, List.mem_append.2 (.inl (mem_takes.2 ⟨m, Nat.le_refl _, h1, rfl⟩)), rfl⟩
  · by_cases h2 : m < b.length
    · exact ⟨addC kind b m, List.mem_append.2 (.inr (mem_adds.2 ⟨m, Nat.le_refl _, h2, rfl⟩)), rfl⟩
    · refine absurd ?_ h
      unfold restL takes adds
      rw [show a.length - m = 0 by omega, show b.length - m = 0 by omega]
      rfl
theorem rest_nil {kind : Int} {a b : Rows1} {m : Nat} : restL kind a b m = [] ↔ a.length ≤ m ∧ b.length ≤ m := by
  constructor
  · intro h
    constructor
    · by_cases h1 : m < a.length
      · have : takeC kind a m ∈ restL kind a b m := List.mem_append.2 (.inl (mem_takes.2 ⟨m, Nat.le_refl _, h1, rfl⟩))
        rw [h] at this; simp at this
      · omega
    · by_cases h2 : m < b.length
      · have : addC kind b m ∈ restL kind a b m := List.mem_append.2 (.inr (mem_adds.2 ⟨m, Nat.le_refl _, h2, rfl⟩))
        rw [h] at this; simp at this
      · omega
  · rintro ⟨h1, h2⟩
    unfold restL takes adds
    rw [show a.length - m = 0 by omega, show b.length - m = 0 by omega]
    rfl

theorem ofR_append (l l' : List Chg) (k : Int) (s : Bool) : Mer.ofR (l ++ l') k s = Mer.ofR l k s ++ Mer.ofR l' k s := by unfold Mer.ofR; rw [List.filter_append]
theorem ofR_all {l : List Chg} {k : Int} {s : Bool} (h : ∀ c ∈ l, c.kind = k ∧ Mer.isSet c = s) : Mer.ofR l k s = l := by
  unfold Mer.ofR
  exact List.filter_eq_self.2 (fun c hc => by simp [(h c hc).1, (h c hc).2])
theorem ofR_off {l : List Chg} {k : Int} {s : Bool} (h : ∀ c ∈ l, ¬ (c.kind = k ∧ Mer.isSet c = s)) : Mer.ofR l k s = [] := by
  rw [List.eq_nil_iff_forall_not_mem]
  intro c hc
  obtain ⟨h1, h2, h3⟩ := Mer.ofR_mem.1 hc
  exact h c h1 ⟨h2, h3⟩
theorem ofR_listL_true (kind : Int) (a b : Rows1) (m : Nat) : Mer.ofR (listL kind a b m) kind true = sets kind a b m := by
  rw [listL_eq, ofR_append, ofR_all sets_isSet, ofR_off (fun c hc h => by rw [(rest_isSet c hc).2] at h; cases h.2), List.append_nil]
theorem ofR_listL_false (kind : Int) (a b : Rows1) (m : Nat) : Mer.ofR (listL kind a b m) kind false = restL kind a b m := by
  rw [listL_eq, ofR_append, ofR_all rest_isSet, ofR_off (fun c hc h => by rw [(sets_isSet c hc).2] at h; cases h.2), List.nil_append]
theorem mem_genL {A B : List Rows1} {m : Nat → Nat} {n : Nat} {c : Chg} : c ∈ genL A B m n ↔ ∃ k, k < n ∧ c ∈ listL (k : Int) (A.getD k []) (B.getD k []) (m k) := by
  unfold genL
  simp only [List.mem_flatMap, List.mem_range]
theorem genL_kind {A B : List Rows1} {m : Nat → Nat} {n : Nat} : ∀ c ∈ genL A B m n, 0 ≤ c.kind ∧ c.kind < n := fun c hc => by
  obtain ⟨k, hk, hc⟩ := mem_genL.1 hc
  rw [listL_kind c hc]; omega
theorem ofR_genL (A B : List Rows1) (m : Nat → Nat) (k : Nat) (s : Bool) : ∀ n, k < n → Mer.ofR (genL A B m n) k s = Mer.ofR (listL (k : Int) (A.getD k []) (B.getD k []) (m k)) k s
  | 0, h => by omega
  | n + 1, h => by
    rw [genL_succ, ofR_append]
    by_cases e : k = n
    · subst e
      rw [ofR_off (l := genL A B m k) (fun c hc g => by have := (genL_kind c hc).2; omega), List.nil_append]
    · rw [ofR_genL A B m k s n (by omega), ofR_off (l := listL (n : Int) _ _ _) (fun c hc g => by have := listL_kind c hc; omega), List.append_nil]

theorem chain_of {R : Chg → Chg → Bool} {l : List Chg} (h : l.Pairwise fun a b => R a b = true) : Mer.chainB R l = true :=
  chain_all.2 fun j hj => List.pairwise_iff_getElem.1 h j (j + 1) (by omega) hj (by omega)
theorem setR_sorted (kind i : Int) (r s : List Int) : (setR kind i r s).Pairwise fun x y => Mer.afterB y x = true := by
  unfold setR
  rw [List.pairwise_filterMap]
  refine List.pairwise_lt_range.imp (fun {f g} hfg x hx y hy => ?_)
  unfold setAt at hx hy
  split at hx
  · cases hx
  · split at hy
    · cases hy
    · cases hx
      cases hy
      unfold Mer.afterB
      simp
      omega
theorem setR_index {kind i : Int} {r s : List Int} : ∀ c ∈ setR kind i r s, c.index = i := fun c hc => by
  unfold setR at hc
  obtain ⟨f, _, hc⟩ := List.mem_filterMap.1 hc
  unfold setAt at hc
  split at hc
  · cases hc
  · cases hc; rfl
theorem sets_sorted (kind : Int) (a b : Rows1) : ∀ m, (sets kind a b m).Pairwise fun x y => Mer.afterB y x = true
  | 0 => by simp [sets]
  | m + 1 => by
    rw [sets_succ]
    refine List.pairwise_append.2 ⟨sets_sorted kind a b m, setR_sorted _ _ _ _, fun x hx y hy => ?_⟩
    obtain ⟨i, f, hi, _, _, rfl⟩ := mem_sets.1 hx
    have h2 := setR_index y hy
    unfold Mer.afterB
    rw [h2]
    simp
    omega
theorem even_len {a : Rows1} (h : EvenR a) {i : Nat} (hi : i < a.length) : 1 ≤ (a.getD i []).length ∧ (a.getD i []).length ≤ 10 ∧ (a.getD i []).length = (a.headD []).length := by
  rw [getD_eq hi]
  exact h _ (List.getElem_mem hi)
theorem rest_chain {kind : Int} {a b : Rows1} (ha : EvenR a) (hb : EvenR b) (hf : fitsK a b) {m : Nat} (h1 : m ≤ a.length) (h2 : m ≤ b.length) : Mer.chainB Mer.tailOk (restL kind a b m) = true := by
  have hlen : ∀ i j, i < a.length → j < b.length → (a.getD i []).length = (b.getD j []).length := fun i j hi hj => by
    rw [(even_len ha hi).2.2, (even_len hb hj).2.2, hf (by omega) (by omega)]
  refine chain_all.2 fun j hj => ?_
  have hT : (takes kind a m).length = a.length - m := by simp [takes]
  have hA : (adds kind b m).length = b.length - m := by simp [adds]
  unfold restL at hj ⊢
  rw [List.length_append, hT, hA] at hj
  by_cases g1 : j + 1 < a.length - m
  · rw [List.getElem_append_left (by rw [hT]; omega), List.getElem_append_left (by rw [hT]; omega)]
    simp only [takes, List.getElem_map, List.getElem_range]
    unfold Mer.tailOk takeC
    simp only
    rw [(even_len ha (show a.length - 1 - j < a.length by omega)).2.2, (even_len ha (show a.length - 1 - (j + 1) < a.length by omega)).2.2]
    simp
    omega
  · by_cases g2 : j < a.length - m
    · rw [List.getElem_append_left (by rw [hT]; omega), List.getElem_append_right (by rw [hT]; omega)]
      simp only [takes, adds, List.getElem_map, List.getElem_range]
      unfold Mer.tailOk takeC addC
      simp only
      rw [hlen _ _ (show a.length - 1 - j < a.length by omega) (show m + (j + 1 - (a.length - m)) < b.length by omega)]
      simp
      omega
    · rw [List.getElem_append_right (by rw [hT]; omega), List.getElem_append_right (by rw [hT]; omega)]
      simp only [adds, List.getElem_map, List.getElem_range, hT]
      unfold Mer.tailOk addC
      simp only
      rw [(even_len hb (show m + (j - (a.length - m)) < b.length by omega)).2.2, (even_len hb (show m + (j + 1 - (a.length - m)) < b.length by omega)).2.2]
      simp
      omega
theorem base_rest {k i f : Int} {r : List Int} (hk : 0 ≤ k) (hi : 0 ≤ i) (hf : f = -2 ∨ f = -1) (h1 : 1 ≤ r.length) (h2 : r.length ≤ 10) : baseB ⟨k, i, f, 0, 0, r⟩ = true := by
  unfold baseB Mer.formedB
  have g1 : ¬ 0 ≤ f := by omega
  have g2 : -2 ≤ f := by omega
  simp [hk, hi, g1, g2]
  omega
theorem base_set {k i f o n : Int} (hk : 0 ≤ k) (hi : 0 ≤ i) (hf : 0 ≤ f) : baseB ⟨k, i, f, o, n, []⟩ = true := by
  unfold baseB Mer.formedB
  simp [hk, hi, hf]
theorem listL_base {kind : Int} (hk : 0 ≤ kind) {a b : Rows1} (ha : EvenR a) (hb : EvenR b) {m : Nat} : ∀ c ∈ listL kind a b m, baseB c = true := fun c hc => by
  rw [listL_eq] at hc
  rcases List.mem_append.1 hc with hc | hc
  · obtain ⟨i, f, _, _, _, rfl⟩ := mem_sets.1 hc
    exact base_set hk (by omega) (by omega)
  · rcases List.mem_append.1 hc with hc | hc
    · obtain ⟨i, _, hi, rfl⟩ := mem_takes.1 hc
      obtain ⟨h1, h2, -⟩ := even_len ha hi
      exact base_rest hk (by omega) (.inl rfl) h1 h2
    · obtain ⟨i, _, hi, rfl⟩ := mem_adds.1 hc
      obtain ⟨h1, h2, -⟩ := even_len hb hi
      exact base_rest hk (by omega) (.inr rfl) h1 h2
theorem listL_order (kind : Int) (a b : Rows1) (m : Nat) : (listL kind a b m).Pairwise fun x y => Mer.orderR x y = true := by
  rw [listL_eq]
  refine List.pairwise_append.2 ⟨?_, ?_, fun x hx y hy => ?_⟩
  · exact List.pairwise_of_forall_mem_list (fun x hx y hy => Mer.orderR_iff.2 ⟨by rw [(sets_isSet x hx).1, (sets_isSet y hy).1]; exact Int.le_refl _, fun _ _ => (sets_isSet x hx).2⟩)
  · exact List.pairwise_of_forall_mem_list (fun x hx y hy => Mer.orderR_iff.2 ⟨by rw [(rest_isSet x hx).1, (rest_isSet y hy).1]; exact Int.le_refl _, fun _ h => by rw [(rest_isSet y hy).2] at h; cases h⟩)
  · exact Mer.orderR_iff.2 ⟨by rw [(sets_isSet x hx).1, (rest_isSet y hy).1]; exact Int.le_refl _, fun _ _ => (sets_isSet x hx).2⟩
theorem genL_order (A B : List Rows1) (m : Nat → Nat) : ∀ n, (genL A B m n).Pairwise fun x y => Mer.orderR x y = true
  | 0 => by rw [genL_zero]; exact List.Pairwise.nil
  | n + 1 => by
    rw [genL_succ]
    exact List.pairwise_append.2 ⟨genL_order A B m n, listL_order _ _ _ _, fun x hx y hy => orderR_more (by have := (genL_kind x hx).2; rw [listL_kind y hy]; omega)⟩
theorem gen_plain {A B : List Rows1} {m : Nat → Nat} (h : GenOk A B m) (n : Nat) : Mer.plainR (genL A B m n) = true := by
  rw [plainR_eq, chain_of (genL_order A B m n), Bool.true_and, Bool.and_eq_true]
  constructor
  · refine List.all_eq_true.2 fun c hc => ?_
    obtain ⟨k, hk, hc⟩ := mem_genL.1 hc
    exact listL_base (by omega) (h.even1 k) (h.even2 k) c hc
  · refine List.all_eq_true.2 fun c hc => ?_
    obtain ⟨k, hk, hc⟩ := mem_genL.1 hc
    rw [listL_kind c hc]
    unfold partB
    rw [ofR_genL A B m k true n hk, ofR_genL A B m k false n hk, ofR_listL_true, ofR_listL_false, chain_of (sets_sorted _ _ _ _), rest_chain (h.even1 k) (h.even2 k) (h.fits k) (h.le1 k) (h.le2 k), Bool.true_and, Bool.true_and]
    unfold Mer.belowB
    refine List.all_eq_true.2 fun s hs => List.all_eq_true.2 fun r hr => decide_eq_true ?_
    obtain ⟨i, f, hi, _, _, rfl⟩ := mem_sets.1 hs
    have := rest_index r hr
    show (i : Int) < r.index
    omega
theorem gen_run {A B : List Rows1} {m : Nat → Nat} (h : GenOk A B m) : ∀ n, n ≤ A.length → Run A (genL A B m n) (mix B A n)
  | 0, _ => by rw [genL_zero, mix_zero]; exact Run.nil A
  | n + 1, hn => by
    have ih := gen_run h n (by omega)
    have hA : n < A.length := by omega
    have hB : n < B.length := by have := h.len; omega
    rw [genL_succ]
    refine Run.append ih ?_
    have hm := mix_len (xs := B) (ys := A) (n := n) (by omega) (by omega)
    rw [← mix_set hB hA]
    have e1 : A.getD n [] = A[n] := getD_eq hA
    have e2 : B.getD n [] = B[n] := getD_eq hB
    refine RunR.lift (a := A[n]) (by omega) (mix_ge (by omega) (by omega) (Nat.le_refl _) (by omega)) listL_kind ?_
    have h1 := h.even1 n
    have h2 := h.even2 n
    have h3 := h.fits n
    have h4 := h.le1 n
    have h5 := h.le2 n
    rw [e1] at h1 h3 h4
    rw [e2] at h2 h3 h5
    rw [e1, e2]
    exact list_run h1 h2 h3 h4 h5
theorem gen_leads {A B : List Rows1} {m : Nat → Nat} (h : GenOk A B m) : Run A (genL A B m A.length) B := by
  have := gen_run h A.length (Nat.le_refl _)
  rw [mix_all h.len.symm] at this
  exact this

/-! Merge knows no order of its authors. -/
theorem clash1_symm {a b : List Chg} {x y : Chg} (h : Mer.clash1 a b x y = true) : Mer.clash1 b a y x = true := by
  unfold Mer.clash1 at h ⊢
  simp only [Bool.and_eq_true, Bool.or_eq_true, decide_eq_true_eq, Bool.not_eq_true', decide_eq_false_iff_not] at h ⊢
  obtain ⟨hk, h⟩ := h
  refine ⟨hk.symm, ?_⟩
  rcases h with ⟨sx, sy, hi, hf, hn⟩ | ⟨sx, sy, hn⟩ | ⟨sx, sy, hi⟩ | ⟨sx, sy, hi⟩
  · exact .inl ⟨sy, sx, hi.symm, hf.symm, fun e => hn e.symm⟩
  · exact .inr (.inl ⟨sy, sx, fun e => hn (by rw [hk]; exact e.symm)⟩)
  · exact .inr (.inr (.inr ⟨sy, sx, hi⟩))
  · exact .inr (.inr (.inl ⟨sy, sx, hi⟩))
theorem clashR_symm (a b : List Chg) : Mer.clashR a b = Mer.clashR b a := by
  have h : ∀ a b : List Chg, Mer.clashR a b = true → Mer.clashR b a = true := fun a b h => by
    unfold Mer.clashR at h ⊢
    obtain ⟨x, hx, h⟩ := List.any_eq_true.1 h
    obtain ⟨y, hy, h⟩ := List.any_eq_true.1 h
    exact List.any_eq_true.2 ⟨y, hy, List.any_eq_true.2 ⟨x, hx, clash1_symm h⟩⟩
  cases h1 : Mer.clashR a b
  · cases h2 : Mer.clashR b a
    · rfl
    · rw [h b a h2] at h1; cases h1
  · exact (h a b h1).symm
theorem no_clash {a b : List Chg} (h : Mer.clashR a b = false) {x y : Chg} (hx : x ∈ a) (hy : y ∈ b) : Mer.clash1 a b x y = false := by
  cases h1 : Mer.clash1 a b x y
  · rfl
  · have : Mer.clashR a b = true := by
      unfold Mer.clashR
      exact List.any_eq_true.2 ⟨x, hx, List.any_eq_true.2 ⟨y, hy, h1⟩⟩
    rw [this] at h; cases h
theorem cf_of {a b : List Chg} (h : Mer.clashR a b = false) : Mer.CF a b where
  rest k := by
    by_cases h1 : Mer.ofR a k false = []
    · exact .inl h1
    · by_cases h2 : Mer.ofR b k false = []
      · exact .inr (.inl h2)
      · refine .inr (.inr ?_)
        obtain ⟨x, hx⟩ := List.exists_mem_of_ne_nil _ h1
        obtain ⟨y, hy⟩ := List.exists_mem_of_ne_nil _ h2
        obtain ⟨hxa, hxk, hxs⟩ := Mer.ofR_mem.1 hx
        obtain ⟨hyb, hyk, hys⟩ := Mer.ofR_mem.1 hy
        have := no_clash h hxa hyb
        unfold Mer.clash1 at this
        simp [hxk, hyk, hxs, hys] at this
        exact this
  sets x hx y hy sx sy hk hi hf := by
    have := no_clash h hx hy
    unfold Mer.clash1 at this
    simp [hk, sx, sy, hi, hf] at this
    exact this
theorem together_symm {a b : List Chg} (ha : Mer.plainP a = true) (hb : Mer.plainP b = true) (h : Mer.clashR a b = false) : Mer.togetherR a b = Mer.togetherR b a := by
  have pa := Mer.plainP_lt ha
  have pb := Mer.plainP_lt hb
  refine Mer.sorted_eq _ _ (Mer.together_sorted a b pa pb (cf_of h)) (Mer.together_sorted b a pb pa (cf_of h).symm) fun c => ?_
  rw [Mer.together_mem, Mer.together_mem, or_comm]
theorem merge_symm {a b : List Chg} (ha : Mer.plainR a = true) (hb : Mer.plainR b = true) : mergeE a b = mergeE b a ∧ mergeL a b = mergeL b a := by
  unfold mergeE mergeL
  rw [ha, hb, clashR_symm b a]
  cases h : Mer.clashR a b
  · refine ⟨rfl, ?_⟩
    simp
    exact together_symm ((Mer.plain_eq a).trans ha) ((Mer.plain_eq b).trans hb) h
  · exact ⟨rfl, rfl⟩

end Go.Proofs.Yteepdnamkcgndaa
