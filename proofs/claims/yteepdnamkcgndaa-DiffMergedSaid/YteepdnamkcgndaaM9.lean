/- What the program's plain holds in its maps; its law, piece by piece. -/
import Derived.Test.YteepdnamkcgndaaM8
namespace Go.Proofs.Yteepdnamkcgndaa
open Go.RowKit

theorem plainP_eq (l : List Chg) : Mer.plainP l = (l.all baseB && (Mer.chainB Mer.orderP l && (Mer.sizesB l && Mer.lastB l))) := rfl
def BaseTo (cs : List Chg) (k : Nat) : Prop := ∀ j (h : j < cs.length), j < k → baseB cs[j] = true
theorem BaseTo.next {cs : List Chg} {k : Nat} (h : BaseTo cs k) (hk : k < cs.length) (hb : baseB cs[k] = true) : BaseTo cs (k + 1) := fun j hj hl => by
  by_cases e : j = k
  · subst e; exact hb
  · exact h j hj (by omega)
theorem pp_base {cs : List Chg} {k : Nat} (hk : k < cs.length) (h : baseB cs[k] = false) : Mer.plainP cs = false := by
  rw [plainP_eq]
  have : cs.all baseB = false := by
    rw [Bool.eq_false_iff]
    intro h'
    rw [List.all_eq_true.1 h' _ (List.getElem_mem hk)] at h
    cases h
  rw [this]; rfl
theorem pp_order {cs : List Chg} {k : Nat} (h1 : 1 ≤ k) (hk : k < cs.length) (h : Mer.orderP cs[k - 1] cs[k] = false) : Mer.plainP cs = false := by
  rw [plainP_eq, chain_bad h1 hk h]
  cases cs.all baseB <;> rfl
theorem pp_sizes {cs : List Chg} (h : Mer.sizesB cs = false) : Mer.plainP cs = false := by
  rw [plainP_eq, h]
  cases cs.all baseB <;> cases Mer.chainB Mer.orderP cs <;> rfl
theorem pp_last {cs : List Chg} (h : Mer.lastB cs = false) : Mer.plainP cs = false := by
  rw [plainP_eq, h]
  cases cs.all baseB <;> cases Mer.chainB Mer.orderP cs <;> cases Mer.sizesB cs <;> rfl
theorem pp_all {cs : List Chg} {k : Nat} (hk : cs.length ≤ k) (h1 : BaseTo cs k) (h2 : ChainTo Mer.orderP cs k) (h3 : Mer.sizesB cs = true) (h4 : Mer.lastB cs = true) : Mer.plainP cs = true := by
  rw [plainP_eq, h2.last hk, h3, h4]
  have e1 : cs.all baseB = true := List.all_eq_true.2 fun c hc => by
    obtain ⟨j, hj, rfl⟩ := List.getElem_of_mem hc
    exact h1 j hj (by omega)
  rw [e1]; rfl

theorem orderP_kind {a b : Chg} (h : b.kind < a.kind) : Mer.orderP a b = false := by unfold Mer.orderP; simp [h]
theorem orderP_more {a b : Chg} (h : a.kind < b.kind) : Mer.orderP a b = true := by
  unfold Mer.orderP
  rw [decide_eq_false (by omega), decide_eq_false (show ¬ b.kind = a.kind by omega)]
  rfl
theorem orderP_same {a b : Chg} (h : b.kind = a.kind) : Mer.orderP a b = Mer.nextB a b := by
  unfold Mer.orderP
  rw [decide_eq_false (by omega), decide_eq_true h]
  simp

/-! Sizes. -/
def SizesTo (cs : List Chg) (k : Nat) : Prop := ∀ c ∈ cs.take k, ∀ d ∈ cs.take k, Mer.isSet c = false → Mer.isSet d = false → c.kind = d.kind → c.values.length = d.values.length
theorem SizesTo.zero (cs : List Chg) : SizesTo cs 0 := fun c hc => by simp at hc
theorem SizesTo.last {cs : List Chg} {k : Nat} (h : SizesTo cs k) (hk : cs.length ≤ k) : Mer.sizesB cs = true := by
  unfold SizesTo at h
  rw [List.take_of_length_le hk] at h
  unfold Mer.sizesB
  refine List.all_eq_true.2 fun c hc => List.all_eq_true.2 fun d hd => ?_
  cases h1 : Mer.isSet c
  · cases h2 : Mer.isSet d
    · by_cases h3 : c.kind = d.kind
      · simp [h3, h c hc d hd h1 h2 h3]
      · simp [h3]
    · simp
  · simp
theorem ofR_head_mem {l : List Chg} {j : Int} {s : Bool} {d : Chg} (h : (Mer.ofR l j s).head? = some d) : d ∈ l ∧ d.kind = j ∧ Mer.isSet d = s :=
  Mer.ofR_mem.1 (List.mem_of_mem_head? (by rw [h]; rfl))
theorem SizesTo.set {cs : List Chg} {k : Nat} (h : SizesTo cs k) (hk : k < cs.length) (hs : Mer.isSet cs[k] = true) : SizesTo cs (k + 1) := by
  intro c hc d hd h1 h2 h3
  rw [← take_snoc hk, List.mem_append, List.mem_singleton] at hc hd
  rcases hc with hc | rfl
  · rcases hd with hd | rfl
    · exact h c hc d hd h1 h2 h3
    · rw [hs] at h2; cases h2
  · rw [hs] at h1; cases h1
theorem SizesTo.new {cs : List Chg} {k : Nat} (h : SizesTo cs k) (hk : k < cs.length) (hs : (Mer.ofR (cs.take k) cs[k].kind false).head? = none) : SizesTo cs (k + 1) := by
  have hn : ∀ d ∈ cs.take k, Mer.isSet d = false → d.kind = cs[k].kind → False := fun d hd h1 h2 => by
    have : d ∈ Mer.ofR (cs.take k) cs[k].kind false := Mer.ofR_mem.2 ⟨hd, h2, h1⟩
    rw [List.head?_eq_none_iff.1 hs] at this
    simp at this
  intro c hc d hd h1 h2 h3
  rw [← take_snoc hk, List.mem_append, List.mem_singleton] at hc hd
  rcases hc with hc | rfl
  · rcases hd with hd | rfl
    · exact h c hc d hd h1 h2 h3
    · exact (hn c hc h1 h3).elim
  · rcases hd with hd | rfl
    · exact (hn d hd h2 h3.symm).elim
    · rfl
theorem SizesTo.old {cs : List Chg} {k : Nat} (h : SizesTo cs k) (hk : k < cs.length) {e : Chg} (hs : (Mer.ofR (cs.take k) cs[k].kind false).head? = some e) (hl : e.values.length = cs[k].values.length) : SizesTo cs (k + 1) := by
  obtain ⟨e1, e2, e3⟩ := ofR_head_mem hs
  intro c hc d hd h1 h2 h3
  rw [← take_snoc hk, List.mem_append, List.mem_singleton] at hc hd
  rcases hc with hc | rfl
  · rcases hd with hd | rfl
    · exact h c hc d hd h1 h2 h3
    · rw [h c hc e e1 h1 e3 (h3.trans e2.symm), hl]
  · rcases hd with hd | rfl
    · rw [h d hd e e1 h2 e3 (h3.symm.trans e2.symm), hl]
    · rfl
theorem sizes_bad {cs : List Chg} {k : Nat} (hk : k < cs.length) {e : Chg} (hs : (Mer.ofR (cs.take k) cs[k].kind false).head? = some e) (hc : Mer.isSet cs[k] = false) (hl : e.values.length ≠ cs[k].values.length) : Mer.sizesB cs = false := by
  obtain ⟨e1, e2, e3⟩ := ofR_head_mem hs
  rw [Bool.eq_false_iff]
  intro h
  unfold Mer.sizesB at h
  have := List.all_eq_true.1 (List.all_eq_true.1 h e (List.mem_of_mem_take e1)) cs[k] (List.getElem_mem hk)
  simp [e3, hc, e2, hl] at this

/-! The last set of a kind. -/
theorem foldl_min (l : List Chg) : ∀ (a x : Int), x < l.foldl (fun n c => min n c.index) a ↔ x < a ∧ ∀ c ∈ l, x < c.index := by
  induction l with
  | nil => simp
  | cons c l ih =>
    intro a x
    rw [List.foldl_cons, ih]
    simp only [List.mem_cons, forall_eq_or_imp, Int.lt_min, and_assoc]
theorem leastL_lt {l : List Chg} {x : Int} : x < leastL l ↔ x < 9223372036854775807 ∧ ∀ c ∈ l, x < c.index := foldl_min l _ _
def lastK (S R : List Chg) : Bool := if h : 0 < S.length then decide (S[S.length - 1].index < leastL R) else true
theorem lastB_iff {cs : List Chg} (hg : GoodL cs) (hb : BaseTo cs cs.length) (ho : ChainTo Mer.orderP cs cs.length) : Mer.lastB cs = true ↔ ∀ c ∈ cs, lastK (Mer.ofR cs c.kind true) (Mer.ofR cs c.kind false) = true := by
  have hf : ∀ c ∈ cs, Mer.formedB c = true := fun c hc => by
    obtain ⟨j, hj, rfl⟩ := List.getElem_of_mem hc
    have := hb j hj hj
    unfold baseB at this
    simp only [Bool.and_eq_true] at this
    exact this.2.2
  have hlt := Mer.chain_lt cs hf (ho.last (Nat.le_refl _))
  constructor
  · intro h c hc
    unfold lastK
    split
    · rename_i h0
      rw [decide_eq_true_eq, leastL_lt]
      have hm := Mer.ofR_mem.1 (List.getElem_mem (show (Mer.ofR cs c.kind true).length - 1 < (Mer.ofR cs c.kind true).length by omega))
      refine ⟨by have := (lil5.1 (hg _ hm.1).ints).2.1; omega, fun d hd => ?_⟩
      have hd := Mer.ofR_mem.1 hd
      have := List.all_eq_true.1 (List.all_eq_true.1 h _ hm.1) d hd.1
      simpa [hm.2.2, hd.2.2, hm.2.1, hd.2.1] using this
    · rfl
  · intro h
    refine List.all_eq_true.2 fun c hc => List.all_eq_true.2 fun d hd => ?_
    cases h1 : Mer.isSet c
    · simp
    · cases h2 : Mer.isSet d
      · by_cases h3 : c.kind = d.kind
        · have hk := h c hc
          have hcm : c ∈ Mer.ofR cs c.kind true := Mer.ofR_mem.2 ⟨hc, rfl, h1⟩
          obtain ⟨i, hi, he⟩ := List.getElem_of_mem hcm
          unfold lastK at hk
          rw [dif_pos (by omega), decide_eq_true_eq, leastL_lt] at hk
          have hdk := hk.2 d (Mer.ofR_mem.2 ⟨hd, h3.symm, h2⟩)
          have hle : c.index ≤ (Mer.ofR cs c.kind true)[(Mer.ofR cs c.kind true).length - 1].index := by
            by_cases e : i = (Mer.ofR cs c.kind true).length - 1
            · subst e
              rw [he]
              exact Int.le_refl _
            · have hp := List.pairwise_iff_getElem.1 (Mer.ofR_lt hlt c.kind true) i ((Mer.ofR cs c.kind true).length - 1) hi (by omega) (by omega)
              have hm := Mer.ofR_mem.1 (List.getElem_mem (show (Mer.ofR cs c.kind true).length - 1 < (Mer.ofR cs c.kind true).length by omega))
              rw [he] at hp
              have := Mer.ltC_place hp hm.2.1.symm h1 hm.2.2
              omega
          simp [h3]
          omega
        · simp [h3]
      · simp

/-! What the maps hold. -/
def partF (cs : List Chg) (k : Nat) (pt : Int → Bool → Value) : Int → Option Value := fun j => if (cs.take k).any (fun c => decide (c.kind = j)) then some (.agg #[pt j true, pt j false]) else none
def sizeF (cs : List Chg) (k : Nat) : Int → Option Value := fun j => (Mer.ofR (cs.take k) j false).head?.map fun c => .int .i64 c.values.length
/-- The parts of a kind with one change more. -/
def putP (pt : Int → Bool → Value) (k : Int) (s : Bool) (v : Value) : Int → Bool → Value := fun j s' => if j = k ∧ s' = s then v else pt j s'

/-- The first k changes stand in the maps b4 (the parts) and b5 (the sizes). -/
structure PInv (w : World) (b4 b5 : Nat) (cs : List Chg) (k : Nat) (pt : Int → Bool → Value) (W : World) : Prop where
  below : Below w.heap.size w W
  map : MapI W b4 k (partF cs k pt)
  size : ∃ n, n ≤ k ∧ MapI W b5 n (sizeF cs k)
  ne : b4 ≠ b5 ∧ w.heap.size ≤ b4 ∧ w.heap.size ≤ b5
  own : ∀ j s, OwnC (· < w.heap.size) w.heap.size 59 W (pt j s) (Mer.ofR (cs.take k) j s)
  apart : ∀ j s j' s' b, (pt j s).ownBlock = some b → (pt j' s').ownBlock = some b → j = j' ∧ s = s'
  blank : ∀ j s, Mer.ofR (cs.take k) j s = [] → pt j s = .slice none 0 0
  base : BaseTo cs k
  order : ChainTo Mer.orderP cs k
  sizes : SizesTo cs k

theorem OwnC.cells {S : Nat → Prop} {B : Nat} {e : TypeId} {w : World} {v : Value} {cs : List Chg} (h : OwnC S B e w v cs) {b : Nat} (hb : v.ownBlock = some b) : ∃ cur, w.heap[b]? = some (.cells cur e (0, 0)) := by
  obtain ⟨us, ⟨_, h2⟩, _⟩ := h
  rcases h2 with ⟨rfl, _⟩ | ⟨g, cap, cur, rfl, _, hg, _⟩
  · cases hb
  · simp only [Value.ownBlock, Option.some.injEq] at hb
    subst hb
    exact ⟨cur, hg⟩
theorem MapI.not_own {S : Nat → Prop} {B n b : Nat} {e : TypeId} {w : World} {v : Value} {cs : List Chg} {f : Int → Option Value} (hm : MapI w b n f) (h : OwnC S B e w v cs) : v.ownBlock ≠ some b := fun hb => by
  obtain ⟨cur, h1⟩ := h.cells hb
  obtain ⟨es, cl, h2⟩ := hm.obj
  rw [h1] at h2
  cases h2
/-- It stays where its own block and those of its values stay. -/
theorem OwnC.keepOwn {S : Nat → Prop} {B : Nat} {e : TypeId} {w w' : World} {v : Value} {cs : List Chg} (h : OwnC S B e w v cs) (hk : ∀ b, (S b ∨ some b = v.ownBlock) → b < w.heap.size → w'.heap[b]? = w.heap[b]?) : OwnC S B e w' v cs := by
  have hlt := h.lt
  obtain ⟨us, ⟨h1, h1'⟩, h2, h3⟩ := h
  refine ⟨us, ⟨h1, ?_⟩, h2, fun j g1 g2 => (h3 j g1 g2).keep (fun b hb hl => hk b (.inl hb.1) hl)⟩
  rcases h1' with h1' | ⟨g, cap, cur, rfl, hb, hg, r⟩
  · exact .inl h1'
  · exact .inr ⟨g, cap, cur, rfl, hb, (hk g (.inr rfl) (hlt g rfl).2).trans hg, r⟩
theorem PInv.keep {w W W' : World} {b4 b5 : Nat} {cs : List Chg} {k : Nat} {pt : Int → Bool → Value} (h : PInv w b4 b5 cs k pt W) (hb : Below W.heap.size W W') : PInv w b4 b5 cs k pt W' where
  below := h.below.trans (hb.mono h.below.size)
  map := h.map.keep (hb.block _ h.map.lt)
  size := by
    obtain ⟨n, h1, h2⟩ := h.size
    exact ⟨n, h1, h2.keep (hb.block _ h2.lt)⟩
  ne := h.ne
  own := fun j s => (h.own j s).below hb
  apart := h.apart
  blank := h.blank
  base := h.base
  order := h.order
  sizes := h.sizes

theorem PInv.step {w W W' : World} {b4 b5 : Nat} {cs : List Chg} {k : Nat} {pt : Int → Bool → Value} (h : PInv w b4 b5 cs k pt W) (hk : k < cs.length) {v' : Value} {s : Bool} (hs : Mer.isSet cs[k] = s)
    (ht : Turns (fun b => b = b4 ∨ b = b5 ∨ some b = (pt cs[k].kind s).ownBlock) W W')
    (hown : OwnC (· < w.heap.size) w.heap.size 59 W' v' (Mer.ofR (cs.take k) cs[k].kind s ++ [cs[k]]))
    (hfr : v'.ownBlock = (pt cs[k].kind s).ownBlock ∨ ∀ b, v'.ownBlock = some b → W.heap.size ≤ b)
    (hmap : MapI W' b4 (k + 1) (putF (partF cs k pt) cs[k].kind (.agg #[putP pt cs[k].kind s v' cs[k].kind true, putP pt cs[k].kind s v' cs[k].kind false])))
    (hsize : ∃ n, n ≤ k + 1 ∧ MapI W' b5 n (sizeF cs (k + 1))) (h1 : baseB cs[k] = true) (h2 : ChainTo Mer.orderP cs (k + 1)) (h3 : SizesTo cs (k + 1)) :
    PInv w b4 b5 cs (k + 1) (putP pt cs[k].kind s v') W' := by
  have hof : ∀ j s', Mer.ofR (cs.take (k + 1)) j s' = if cs[k].kind = j ∧ Mer.isSet cs[k] = s' then Mer.ofR (cs.take k) j s' ++ [cs[k]] else Mer.ofR (cs.take k) j s' := fun j s' => by rw [← take_snoc hk, ofR_snoc]
  have hb : ∀ b, some b = (pt cs[k].kind s).ownBlock → w.heap.size ≤ b ∧ b < W.heap.size := fun b hb => (h.own _ _).lt b hb
  refine ⟨h.below.trans (ht.below h.below.size (fun b hb' => ?_)), hmap.congr (fun j _ => ?_), hsize, h.ne, fun j s' => ?_, fun j s1 j' s2 b e1 e2 => ?_, fun j s' hn => ?_, h.base.next hk h1, h2, h3⟩
  · rcases hb' with rfl | rfl | hb'
    · exact h.ne.2.1
    · exact h.ne.2.2
    · exact (hb b hb').1
  · unfold putF partF
    have hany : (cs.take (k + 1)).any (fun c => decide (c.kind = j)) = ((cs.take k).any (fun c => decide (c.kind = j)) || decide (cs[k].kind = j)) := by
      rw [← take_snoc hk, List.any_append]; simp
    rw [hany]
    by_cases e : j = cs[k].kind
    · subst e
      simp
    · have e' : ¬ cs[k].kind = j := fun h => e h.symm
      simp only [if_neg e, decide_eq_false e', Bool.or_false]
      unfold putP
      simp [e]
  · rw [hof]
    unfold putP
    by_cases e : j = cs[k].kind ∧ s' = s
    · obtain ⟨rfl, rfl⟩ := e
      simp only [hs, and_self, if_true]
      exact hown
    · rw [if_neg e, if_neg (fun h => e ⟨h.1.symm, h.2.symm.trans hs⟩)]
      refine (h.own j s').keepOwn (fun b hb' hlt => ht.block b ?_ hlt)
      rintro (rfl | rfl | hc)
      · rcases hb' with hb' | hb'
        · have := h.ne.2.1; omega
        · exact h.map.not_own (h.own j s') hb'.symm
      · obtain ⟨n, _, hm⟩ := h.size
        rcases hb' with hb' | hb'
        · have := h.ne.2.2; omega
        · exact hm.not_own (h.own j s') hb'.symm
      · rcases hb' with hb' | hb'
        · have := (hb b hc).1; omega
        · exact e (h.apart _ _ _ _ b hb'.symm hc.symm)
  · have hold : ∀ j s b, (pt j s).ownBlock = some b → b < W.heap.size := fun j s b e => ((h.own j s).lt b e.symm).2
    unfold putP at e1 e2
    by_cases g1 : j = cs[k].kind ∧ s1 = s <;> by_cases g2 : j' = cs[k].kind ∧ s2 = s
    · exact ⟨g1.1.trans g2.1.symm, g1.2.trans g2.2.symm⟩
    · rw [if_pos g1] at e1
      rw [if_neg g2] at e2
      rcases hfr with hfr | hfr
      · rw [hfr] at e1
        have := h.apart _ _ _ _ b e1 e2
        exact ⟨g1.1.trans this.1, g1.2.trans this.2⟩
      · have h4 := hfr b e1
        have h5 := hold _ _ _ e2
        omega
    · rw [if_neg g1] at e1
      rw [if_pos g2] at e2
      rcases hfr with hfr | hfr
      · rw [hfr] at e2
        have := h.apart _ _ _ _ b e1 e2
        exact ⟨this.1.trans g2.1.symm, this.2.trans g2.2.symm⟩
      · have h4 := hfr b e2
        have h5 := hold _ _ _ e1
        omega
    · rw [if_neg g1] at e1
      rw [if_neg g2] at e2
      exact h.apart _ _ _ _ b e1 e2
  · rw [hof] at hn
    unfold putP
    by_cases e : j = cs[k].kind ∧ s' = s
    · obtain ⟨rfl, rfl⟩ := e
      rw [if_pos ⟨rfl, hs⟩] at hn
      simp at hn
    · rw [if_neg (fun h => e ⟨h.1.symm, h.2.symm.trans hs⟩)] at hn
      rw [if_neg e]
      exact h.blank j s' hn

theorem PInv.stepC {w W W' : World} {b4 b5 : Nat} {cs : List Chg} {k : Nat} {pt : Int → Bool → Value} (h : PInv w b4 b5 cs k pt W) (hk : k < cs.length) {c : Chg} (hc : cs[k] = c) {v' : Value} {s : Bool} (hs : Mer.isSet c = s)
    (ht : Turns (fun b => b = b4 ∨ b = b5 ∨ some b = (pt c.kind s).ownBlock) W W')
    (hown : OwnC (· < w.heap.size) w.heap.size 59 W' v' (Mer.ofR (cs.take k) c.kind s ++ [c]))
    (hfr : v'.ownBlock = (pt c.kind s).ownBlock ∨ ∀ b, v'.ownBlock = some b → W.heap.size ≤ b)
    (hmap : MapI W' b4 (k + 1) (putF (partF cs k pt) c.kind (.agg #[putP pt c.kind s v' c.kind true, putP pt c.kind s v' c.kind false])))
    (hsize : ∃ n, n ≤ k + 1 ∧ MapI W' b5 n (sizeF cs (k + 1))) (h1 : baseB c = true) (h2 : ChainTo Mer.orderP cs (k + 1)) (h3 : SizesTo cs (k + 1)) :
    PInv w b4 b5 cs (k + 1) (putP pt c.kind s v') W' := by
  subst hc
  exact h.step hk hs ht hown hfr hmap hsize h1 h2 h3
theorem sizeF_set {cs : List Chg} {k : Nat} (hk : k < cs.length) {c : Chg} (hc : cs[k] = c) (hs : Mer.isSet c = true) : sizeF cs (k + 1) = sizeF cs k := by
  subst hc
  funext j
  unfold sizeF
  rw [← take_snoc hk, ofR_snoc, if_neg (fun h => by rw [hs] at h; cases h.2)]
theorem sizeF_rest {cs : List Chg} {k : Nat} (hk : k < cs.length) {c : Chg} (hc : cs[k] = c) (hs : Mer.isSet c = false) (hl : ∀ d, (Mer.ofR (cs.take k) c.kind false).head? = some d → d.values.length = c.values.length) : sizeF cs (k + 1) = putF (sizeF cs k) c.kind (.int .i64 c.values.length) := by
  subst hc
  funext j
  unfold putF
  unfold sizeF
  rw [← take_snoc hk, ofR_snoc]
  by_cases e : j = cs[k].kind
  · subst e
    rw [if_pos ⟨rfl, hs⟩, if_pos rfl, List.head?_append]
    cases hh : (Mer.ofR (cs.take k) cs[k].kind false).head? with
    | none => rfl
    | some d => simp [hl d hh]
  · rw [if_neg (fun h => e h.1.symm), if_neg e]

/-- The map of the parts stays while a part grows. -/
theorem PInv.map5 {w wc wa w4 W5 : World} {b4 b5 : Nat} {cs : List Chg} {k : Nat} {pt : Int → Bool → Value} (H : PInv w b4 b5 cs k pt wc) (k0 : Int) (s : Bool)
    (T1 : Turns (fun b => b = b5) wc wa) (T4 : Turns (fun b => some b = (pt k0 s).ownBlock) wa w4) (K5 : ∀ b, b ≠ wc.heap.size → W5.heap[b]? = w4.heap[b]?) : MapI W5 b4 k (partF cs k pt) := by
  have hl := H.map.lt
  refine H.map.keep ?_
  rw [K5 _ (Nat.ne_of_lt hl), T4.block _ (fun hb => H.map.not_own (H.own k0 s) hb.symm) (Nat.lt_of_lt_of_le hl T1.size), T1.block _ H.ne.1 hl]
theorem PInv.finish {w wc wa w4 W5 w6 : World} {b4 b5 : Nat} {cs : List Chg} {k : Nat} {pt : Int → Bool → Value} (H : PInv w b4 b5 cs k pt wc) (hk : k < cs.length) {c : Chg} (hc : cs[k] = c) {v' : Value} {s : Bool} (hs : Mer.isSet c = s)
    (T1 : Turns (fun b => b = b5) wc wa) (hlt : wc.heap.size < wa.heap.size) (T4 : Turns (fun b => some b = (pt c.kind s).ownBlock) wa w4)
    (F4 : v'.ownBlock = (pt c.kind s).ownBlock ∨ ∀ b, v'.ownBlock = some b → wa.heap.size ≤ b)
    (O4 : OwnC (· < w.heap.size) w.heap.size 59 w4 v' (Mer.ofR (cs.take k) c.kind s ++ [c]))
    (K5 : ∀ b, b ≠ wc.heap.size → W5.heap[b]? = w4.heap[b]?) (T5 : Turns (fun b => b = wc.heap.size) w4 W5) (T6 : Turns (· = b4) W5 w6)
    {val : Value} (M6 : MapI w6 b4 (k + 1) (putF (partF cs k pt) c.kind val)) (hval : val = .agg #[putP pt c.kind s v' c.kind true, putP pt c.kind s v' c.kind false])
    (hsz : ∃ n, n ≤ k + 1 ∧ MapI wa b5 n (sizeF cs (k + 1))) (h1 : baseB c = true) (h2 : ChainTo Mer.orderP cs (k + 1)) (h3 : SizesTo cs (k + 1)) :
    PInv w b4 b5 cs (k + 1) (putP pt c.kind s v') w6 := by
  have hl4 := H.map.lt
  have m5 := H.map5 c.kind s T1 T4 K5
  have m4 : MapI w4 b4 k (partF cs k pt) := m5.keep (K5 _ (Nat.ne_of_lt hl4)).symm
  have hob : ∀ b, some b = (pt c.kind s).ownBlock → w.heap.size ≤ b ∧ b < wc.heap.size := fun b hb => (H.own _ _).lt b hb
  refine H.stepC hk hc hs ?_ ?_ ?_ (by rw [← hval]; exact M6) ?_ h1 h2 h3
  · refine Turns.mono (S := fun b => (b = b4 ∨ b = b5 ∨ some b = (pt c.kind s).ownBlock) ∨ b = wc.heap.size) ?_ (fun b hlt h => h.resolve_right (by omega))
    exact (((T1.mono (fun b _ h => .inl (.inr (.inl h)))).trans (T4.mono (fun b _ h => .inl (.inr (.inr h))))).trans (T5.mono (fun b _ h => .inr h))).trans (T6.mono (fun b _ h => .inl (.inl h)))
  · refine O4.keepOwn (fun b hb hlt4 => ?_)
    have hb4 : b ≠ b4 := by
      rintro rfl
      rcases hb with hb | hb
      · have := H.ne.2.1; omega
      · exact m4.not_own O4 hb.symm
    have hbc : b ≠ wc.heap.size := by
      rintro rfl
      rcases hb with hb | hb
      · have := H.below.size; omega
      · rcases F4 with F4 | F4
        · have := (hob _ (hb.trans F4)).2; omega
        · have := F4 _ hb.symm; omega
    rw [T6.block b hb4 (Nat.lt_of_lt_of_le hlt4 T5.size), K5 b hbc]
  · rcases F4 with F4 | F4
    · exact .inl F4
    · exact .inr (fun b hb => Nat.le_trans (Nat.le_of_lt hlt) (F4 b hb))
  · obtain ⟨n, hn, hm⟩ := hsz
    refine ⟨n, hn, hm.keep ?_⟩
    obtain ⟨n0, _, hm0⟩ := H.size
    have hl5 := hm0.lt
    rw [T6.block _ (Ne.symm H.ne.1) (Nat.lt_of_lt_of_le (Nat.lt_of_lt_of_le (Nat.lt_of_lt_of_le hl5 T1.size) T4.size) T5.size), K5 _ (Nat.ne_of_lt hl5), T4.block _ (fun hb => hm0.not_own (H.own c.kind s) hb.symm) (Nat.lt_of_lt_of_le hl5 T1.size)]

end Go.Proofs.Yteepdnamkcgndaa
