/- Regions that draw their order, by a schedule: operations that only read, taken in an order of ours; then operations one behind the other; then those that wait for all. -/
import Derived.Test.YtagnjhhbbjbhcaaDraw
namespace Go.Proofs.Ytagnjhhbbjbhcaa
open Go.RowKit

section
variable {P : Program} {ops : Array Oper} {md : Region.Mode} {C : World → Prop}

/-- Operations taken by a schedule: (true, i): operation i only reads, in every world of C; (false, i): it is the only one that can come, and leaves a world of C. -/
def wpSteps (P : Program) (ops : Array Oper) (C : World → Prop) (R : Act → World → Prop) (l : List Oper) : List (Bool × Nat) → Act → World → Prop
  | [], a, w => R a w
  | (true, i) :: s, a, w => match l[i]? with
    | some o => wpQuiet P ops C (fun a' => wpSteps P ops C R l s a' w) [o] a
    | none => False
  | (false, i) :: s, a, w => match l[i]? with
    | some o => wpList P ops (QN fun a' w' => C w' ∧ wpSteps P ops C R l s a' w') [o] a w
    | none => False

def Region.schedB (md : Region.Mode) (ops : Array Oper) (n : Nat) : List (Bool × Nat) → Array Bool → Bool
  | [], listed => Region.seqB md ops (ops.size - n) n listed
  | (false, c) :: s, listed => decide (Region.ready md ops listed = [c]) && decide (c < n) && Region.schedB md ops n s (listed.setIfInBounds c true)
  | (true, q) :: s, listed => (Region.ready md ops listed).contains q && Region.free md ops listed q && decide (q < n) && ((ops[q]?).map (fun o => quietOp o.op)).getD false && Region.schedB md ops n s (listed.setIfInBounds q true)

/-- The Bool of the law. -/
def Region.schedTailB (md : Region.Mode) (ops : Array Oper) (n : Nat) (s : List (Bool × Nat)) : Bool :=
  Region.noSelect ops && decide (n < ops.size) && Region.sinkB md ops n && Region.chainB md ops n && decide (s.length = n) && Region.schedB md ops n s (Array.replicate ops.size false)

theorem wpAnyH_sched {n : Nat} {Lq : Act → World → Prop} (hsel : Region.noSelect ops = true) (hs : Region.sinkB md ops n = true) (hc : Region.chainB md ops n = true) (hn : n < ops.size) :
    ∀ (s : List (Bool × Nat)) (listed : Array Bool) (a : Act) (w : World), C w → HeadInv md ops n listed → Region.schedB md ops n s listed = true → wpSteps P ops C Lq ops.toList s a w →
    wpAnyH P md ops C n (fun listed' a' w' => Region.seqB md ops (ops.size - n) n listed' = true ∧ Lq a' w') s.length listed a w
  | (true, k) :: s, listed, a, w, hC, inv, hB, h => by
    simp only [Region.schedB, Bool.and_eq_true, decide_eq_true_eq] at hB
    obtain ⟨⟨⟨⟨hr, hf⟩, hkn⟩, hq⟩, hB⟩ := hB
    have hks : k < ops.size := by omega
    obtain ⟨o, h0⟩ : ∃ o, ops[k]? = some o := ⟨ops[k], by simp [hks]⟩
    have h0' : ops.toList[k]? = some o := by simpa using h0
    simp only [wpSteps, h0'] at h
    have hqo : quietOp o.op = true := by rw [h0] at hq; simpa using hq
    rw [List.length_cons]
    unfold wpQuiet at h
    split at h
    · rename_i hw
      obtain ⟨v, h1, h2⟩ := h
      have hy : YieldsC P ops C o v a := .inl ⟨hw, fun w1 hC1 => by
        have g := h1 w1 hC1
        unfold Oper.quietAt at g
        generalize hr1 : (execOp a.eval o).run P w1 = r at g ⊢
        cases r with
        | ok nx w2 =>
          cases nx with
          | value u => obtain ⟨e1, e2⟩ := g; rw [e1, e2]
          | _ => exact absurd hr1 (quietOp_noEnter hqo (by intro v; simp))
        | halt x w2 => exact g.elim⟩
      exact wpAnyH_take h0 hsel hs hc hn hkn (fun listed' a' w' hL => seqB_ge hL.1 (Nat.le_refl _)) hC inv hf hr hy
        (wpAnyH_sched hsel hs hc hn s _ _ w hC (inv.set (by simpa using hr) hkn) hB h2)
    · rename_i hw
      exact wpAnyH_take h0 hsel hs hc hn hkn (fun listed' a' w' hL => seqB_ge hL.1 (Nat.le_refl _)) hC inv hf hr (.inr ⟨by simpa using hw, rfl⟩)
        (wpAnyH_sched hsel hs hc hn s _ _ w hC (inv.set (by simpa using hr) hkn) hB h)
  | (false, k) :: s, listed, a, w, hC, inv, hB, h => by
    simp only [Region.schedB, Bool.and_eq_true, decide_eq_true_eq] at hB
    obtain ⟨⟨hr, hkn⟩, hB⟩ := hB
    have hks : k < ops.size := by omega
    obtain ⟨o, h0⟩ : ∃ o, ops[k]? = some o := ⟨ops[k], by simp [hks]⟩
    have h0' : ops.toList[k]? = some o := by simpa using h0
    simp only [wpSteps, h0'] at h
    rw [List.length_cons]
    refine ⟨by rw [hr]; simp, fun i hi => ?_⟩
    rw [hr] at hi
    obtain rfl : i = k := by simpa using hi
    refine ⟨hkn, hOp_mono (fun a' w' hC' h3 => ?_) (wpOp_of_list h0 h)⟩
    exact wpAnyH_sched hsel hs hc hn s _ _ w' hC' (inv.set (by rw [hr]; simp) hkn) hB h3
  | [], listed, a, w, hC, inv, hB, h => by
    simp only [Region.schedB] at hB
    exact ⟨hB, h⟩

/-- **The law.** -/
theorem wp_region_sched {id : Nat} {Q : Exit → Act → World → Prop} {a : Act} {w : World} {l : List Oper} (n : Nat) (s : List (Bool × Nat)) (C : World → Prop) (hm : P.follows .mixedOrders = true) (hB : Region.schedTailB .any l.toArray n s = true) (hC : C (w.drewN 1))
    (h : wpSteps P l.toArray C (fun a' w' => wpList P l.toArray Q (l.drop n) a' w') l s a (w.drewN 1)) : (Code.region id l.toArray true).wp P Q a w := by
  simp only [Region.schedTailB, Bool.and_eq_true, decide_eq_true_eq] at hB
  obtain ⟨⟨⟨⟨⟨hsel, hn⟩, hs⟩, hc⟩, hqn⟩, hlex⟩ := hB
  have inv0 : HeadInv .any l.toArray n (Array.replicate l.toArray.size false) :=
    ⟨by simp, fun j oj _ hl => (by rw [getD_replicate_false] at hl; cases hl), fun t _ ht => getD_in (by simpa using ht) (getD_replicate_false _ _)⟩
  have H := wpAnyH_sched (md := .any) (Lq := fun a' w' => wpList P l.toArray Q (l.drop n) a' w') hsel hs hc hn s _ a _ hC inv0 hlex (by simpa using h)
  refine wp_region_any hm ?_
  have hdl : (l.drop n).length = l.toArray.size - n := by simp
  have := wpAny_of_headH (Q' := Q) (g := l.toArray.size - n) (fun listed a' w' hL => by
    have := wpAny_of_seq (md := .any) (Q' := Q) (l.drop n) n listed a' w' (fun j => by simp [List.getElem?_drop]) (by rw [hdl]; exact hL.1) hL.2
    rwa [hdl] at this) _ _ _ _ H
  rw [hqn, show n + (l.toArray.size - n) = l.toArray.size by omega] at this
  exact this

end

/-- The worlds of which φ holds. -/
def Held (φ : World → Prop) : Type := { W : World // φ W }
/-- The class of these worlds. -/
def InHeld (φ : World → Prop) : World → Prop := fun W => ∃ x : Held φ, W = x.1
theorem InHeld.of {φ : World → Prop} {W : World} (h : φ W) : InHeld φ W := ⟨⟨W, h⟩, rfl⟩

/-- The law at the worlds of which φ holds. -/
theorem wp_region_held {P : Program} {id : Nat} {Q : Exit → Act → World → Prop} {a : Act} {w : World} {l : List Oper} (n : Nat) (s : List (Bool × Nat)) (φ : World → Prop) (hm : P.follows .mixedOrders = true) (hB : Region.schedTailB .any l.toArray n s = true) (hφ : φ (w.drewN 1))
    (h : Nonempty (Held φ) → wpSteps P l.toArray (fun W => ∃ x : Held φ, W = x.1) (fun a' w' => wpList P l.toArray Q (l.drop n) a' w') l s a (w.drewN 1)) : (Code.region id l.toArray true).wp P Q a w :=
  wp_region_sched n s (InHeld φ) hm hB (.of hφ) (h ⟨⟨_, hφ⟩⟩)

/-- The law at the worlds that have grown out of w. -/
theorem wp_region_grewS {P : Program} {id : Nat} {Q : Exit → Act → World → Prop} {a : Act} {w : World} {l : List Oper} (n : Nat) (s : List (Bool × Nat)) (hm : P.follows .mixedOrders = true) (hB : Region.schedTailB .any l.toArray n s = true)
    (h : wpSteps P l.toArray (fun W => ∃ x : Grew w, W = x.1) (fun a' w' => wpList P l.toArray Q (l.drop n) a' w') l s a (w.drewN 1)) : (Code.region id l.toArray true).wp P Q a w :=
  wp_region_sched n s (InGrew w) hm hB (.of ⟨rfl, rfl, rfl, Nat.le_refl _, fun _ _ => rfl⟩) h

/-- A run of steps that only read. -/
theorem wpSteps_quiet {P : Program} {ops : Array Oper} {C : World → Prop} {R : Act → World → Prop} {l : List Oper} {i : Nat} {s : List (Bool × Nat)} {a : Act} {w : World} {o : Oper} (ho : l[i]? = some o)
    (h : wpQuiet P ops C (fun a' => wpSteps P ops C R l s a' w) [o] a) : wpSteps P ops C R l ((true, i) :: s) a w := by
  simp only [wpSteps, ho]; exact h
theorem wpSteps_one {P : Program} {ops : Array Oper} {C : World → Prop} {R : Act → World → Prop} {l : List Oper} {i : Nat} {s : List (Bool × Nat)} {a : Act} {w : World} {o : Oper} (ho : l[i]? = some o)
    (h : wpList P ops (QN fun a' w' => C w' ∧ wpSteps P ops C R l s a' w') [o] a w) : wpSteps P ops C R l ((false, i) :: s) a w := by
  simp only [wpSteps, ho]; exact h
theorem wpSteps_done {P : Program} {ops : Array Oper} {C : World → Prop} {R : Act → World → Prop} {l : List Oper} {a : Act} {w : World} (h : R a w) : wpSteps P ops C R l [] a w := h

end Go.Proofs.Ytagnjhhbbjbhcaa
