/- Regions that draw their order, by a schedule: operations that only read, taken in an order of ours; then operations one behind the other; then those that wait for all. slices.Equal at []int. formed, Equal. What applying changes does, in lists. Regions that draw their order, whose own operations only read, and whose callees may make memory: one walk in the order of the text, at the worlds that have grown out of w. -/
import Derived.Test.YteepdnamkcgndaaA2
import Derived.Test.YteepdnamkcgndaaA1
import Derived.Test.YteepdnamkcgndaaPDiff
namespace Go.Proofs.Yteepdnamkcgndaa
open Go.RowKit

section
variable {P : Program} {ops : Array Oper} {md : Region.Mode} {C : World → Prop}

/-- Operations taken by a schedule: (true, i): operation i only reads, in every world of C; (false, i): it is the only one that can come, and leaves a world of C. -/
def wpSteps (P : Program) (ops : Array Oper) (C : World → Prop) (R : Act → World → Prop) (l : List Oper) : List (Bool × Nat) → Act → World → Prop
  | [], a, w => R a w
  | (true, i) :: s, a, w => match l[i]? with
    | some o => wpQuiet P ops C (fun a' => wpSteps P ops C R l s a' w) [o] a
    | none => False
  | (false, i) :: s, a, w => match l[i]? with
    | some o => wpList P ops (QN fun a' w' => C w' ∧ wpSteps P ops C R l s a' w') [o] a w
    | none => False

def Region.schedB (md : Region.Mode) (ops : Array Oper) (n : Nat) : List (Bool × Nat) → Array Bool → Bool
  | [], listed => Region.seqB md ops (ops.size - n) n listed
  | (false, c) :: s, listed => decide (Region.ready md ops listed = [c]) && decide (c < n) && Region.schedB md ops n s (listed.setIfInBounds c true)
  | (true, q) :: s, listed => (Region.ready md ops listed).contains q && Region.free md ops listed q && decide (q < n) && ((ops[q]?).map (fun o => quietOp o.op)).getD false && Region.schedB md ops n s (listed.setIfInBounds q true)

/-- The Bool of the law. -/
def Region.schedTailB (md : Region.Mode) (ops : Array Oper) (n : Nat) (s : List (Bool × Nat)) : Bool :=
  Region.noSelect ops && decide (n < ops.size) && Region.sinkB md ops n && Region.chainB md ops n && decide (s.length = n) && Region.schedB md ops n s (Array.replicate ops.size false)

theorem wpAnyH_sched {n : Nat} {Lq : Act → World → Prop} (hsel : Region.noSelect ops = true) (hs : Region.sinkB md ops n = true) (hc : Region.chainB md ops n = true) (hn : n < ops.size) :
    ∀ (s : List (Bool × Nat)) (listed : Array Bool) (a : Act) (w : World), C w → HeadInv md ops n listed → Region.schedB md ops n s listed = true → wpSteps P ops C Lq ops.toList s a w →
    wpAnyH P md ops C n (fun listed' a' w' => Region.seqB md ops (ops.size - n) n listed' = true ∧ Lq a' w') s.length listed a w
  | (true, k) :: s, listed, a, w, hC, inv, hB, h => by
    simp only [Region.schedB, Bool.and_eq_true, decide_eq_true_eq] at hB
    obtain ⟨⟨⟨⟨hr, hf⟩, hkn⟩, hq⟩, hB⟩ := hB
    have hks : k < ops.size := by omega
    obtain ⟨o, h0⟩ : ∃ o, ops[k]? = some o := ⟨ops[k], by simp [hks]⟩
    have h0' : ops.toList[k]? = some o := by simpa using h0
    simp only [wpSteps, h0'] at h
    have hqo : quietOp o.op = true := by rw [h0] at hq; simpa using hq
    rw [List.length_cons]
    unfold wpQuiet at h
    split at h
    · rename_i hw
      obtain ⟨v, h1, h2⟩ := h
      have hy : YieldsC P ops C o v a := .inl ⟨hw, fun w1 hC1 => by
        have g := h1 w1 hC1
        unfold Oper.quietAt at g
        generalize hr1 : (execOp a.eval o).run P w1 = r at g ⊢
        cases r with
        | ok nx w2 =>
          cases nx with
          | value u => obtain ⟨e1, e2⟩ := g; rw [e1, e2]
          | _ => exact absurd hr1 (quietOp_noEnter hqo (by intro v; simp))
        | halt x w2 => exact g.elim⟩
      exact wpAnyH_take h0 hsel hs hc hn hkn (fun listed' a' w' hL => seqB_ge hL.1 (Nat.le_refl _)) hC inv hf hr hy
        (wpAnyH_sched hsel hs hc hn s _ _ w hC (inv.set (by simpa using hr) hkn) hB h2)
    · rename_i hw
      exact wpAnyH_take h0 hsel hs hc hn hkn (fun listed' a' w' hL => seqB_ge hL.1 (Nat.le_refl _)) hC inv hf hr (.inr ⟨by simpa using hw, rfl⟩)
        (wpAnyH_sched hsel hs hc hn s _ _ w hC (inv.set (by simpa using hr) hkn) hB h)
  | (false, k) :: s, listed, a, w, hC, inv, hB, h => by
    simp only [Region.schedB, Bool.and_eq_true, decide_eq_true_eq] at hB
    obtain ⟨⟨hr, hkn⟩, hB⟩ := hB
    have hks : k < ops.size := by omega
    obtain ⟨o, h0⟩ : ∃ o, ops[k]? = some o := ⟨ops[k], by simp [hks]⟩
    have h0' : ops.toList[k]? = some o := by simpa using h0
    simp only [wpSteps, h0'] at h
    rw [List.length_cons]
    refine ⟨by rw [hr]; simp, fun i hi => ?_⟩
    rw [hr] at hi
    obtain rfl : i = k := by simpa using hi
    refine ⟨hkn, hOp_mono (fun a' w' hC' h3 => ?_) (wpOp_of_list h0 h)⟩
    exact wpAnyH_sched hsel hs hc hn s _ _ w' hC' (inv.set (by rw [hr]; simp) hkn) hB h3
  | [], listed, a, w, hC, inv, hB, h => by
    simp only [Region.schedB] at hB
    exact ⟨hB, h⟩

/-- **The law.** -/
theorem wp_region_sched {id : Nat} {Q : Exit → Act → World → Prop} {a : Act} {w : World} {l : List Oper} (n : Nat) (s : List (Bool × Nat)) (C : World → Prop) (hm : P.follows .mixedOrders = true) (hB : Region.schedTailB .any l.toArray n s = true) (hC : C (w.drewN 1))
    (h : wpSteps P l.toArray C (fun a' w' => wpList P l.toArray Q (l.drop n) a' w') l s a (w.drewN 1)) : (Code.region id l.toArray true).wp P Q a w := by
  simp only [Region.schedTailB, Bool.and_eq_true, decide_eq_true_eq] at hB
  obtain ⟨⟨⟨⟨⟨hsel, hn⟩, hs⟩, hc⟩, hqn⟩, hlex⟩ := hB
  have inv0 : HeadInv .any l.toArray n (Array.replicate l.toArray.size false) :=
    ⟨by simp, fun j oj _ hl => (by rw [getD_replicate_false] at hl; cases hl), fun t _ ht => getD_in (by simpa using ht) (getD_replicate_false _ _)⟩
  have H := wpAnyH_sched (md := .any) (Lq := fun a' w' => wpList P l.toArray Q (l.drop n) a' w') hsel hs hc hn s _ a _ hC inv0 hlex (by simpa using h)
  refine wp_region_any hm ?_
  have hdl : (l.drop n).length = l.toArray.size - n := by simp
  have := wpAny_of_headH (Q' := Q) (g := l.toArray.size - n) (fun listed a' w' hL => by
    have := wpAny_of_seq (md := .any) (Q' := Q) (l.drop n) n listed a' w' (fun j => by simp [List.getElem?_drop]) (by rw [hdl]; exact hL.1) hL.2
    rwa [hdl] at this) _ _ _ _ H
  rw [hqn, show n + (l.toArray.size - n) = l.toArray.size by omega] at this
  exact this

end

/-- The worlds of which φ holds. -/
def Held (φ : World → Prop) : Type := { W : World // φ W }
/-- The class of these worlds. -/
def InHeld (φ : World → Prop) : World → Prop := fun W => ∃ x : Held φ, W = x.1
theorem InHeld.of {φ : World → Prop} {W : World} (h : φ W) : InHeld φ W := ⟨⟨W, h⟩, rfl⟩

/-- The law at the worlds of which φ holds. -/
theorem wp_region_held {P : Program} {id : Nat} {Q : Exit → Act → World → Prop} {a : Act} {w : World} {l : List Oper} (n : Nat) (s : List (Bool × Nat)) (φ : World → Prop) (hm : P.follows .mixedOrders = true) (hB : Region.schedTailB .any l.toArray n s = true) (hφ : φ (w.drewN 1))
    (h : Nonempty (Held φ) → wpSteps P l.toArray (fun W => ∃ x : Held φ, W = x.1) (fun a' w' => wpList P l.toArray Q (l.drop n) a' w') l s a (w.drewN 1)) : (Code.region id l.toArray true).wp P Q a w :=
  wp_region_sched n s (InHeld φ) hm hB (.of hφ) (h ⟨⟨_, hφ⟩⟩)

/-- The law at the worlds that have grown out of w. -/
theorem wp_region_grewS {P : Program} {id : Nat} {Q : Exit → Act → World → Prop} {a : Act} {w : World} {l : List Oper} (n : Nat) (s : List (Bool × Nat)) (hm : P.follows .mixedOrders = true) (hB : Region.schedTailB .any l.toArray n s = true)
    (h : wpSteps P l.toArray (fun W => ∃ x : Grew w, W = x.1) (fun a' w' => wpList P l.toArray Q (l.drop n) a' w') l s a (w.drewN 1)) : (Code.region id l.toArray true).wp P Q a w :=
  wp_region_sched n s (InGrew w) hm hB (.of ⟨rfl, rfl, rfl, Nat.le_refl _, fun _ _ => rfl⟩) h

/-- A run of steps that only read. -/
theorem wpSteps_quiet {P : Program} {ops : Array Oper} {C : World → Prop} {R : Act → World → Prop} {l : List Oper} {i : Nat} {s : List (Bool × Nat)} {a : Act} {w : World} {o : Oper} (ho : l[i]? = some o)
    (h : wpQuiet P ops C (fun a' => wpSteps P ops C R l s a' w) [o] a) : wpSteps P ops C R l ((true, i) :: s) a w := by
  simp only [wpSteps, ho]; exact h
theorem wpSteps_one {P : Program} {ops : Array Oper} {C : World → Prop} {R : Act → World → Prop} {l : List Oper} {i : Nat} {s : List (Bool × Nat)} {a : Act} {w : World} {o : Oper} (ho : l[i]? = some o)
    (h : wpList P ops (QN fun a' w' => C w' ∧ wpSteps P ops C R l s a' w') [o] a w) : wpSteps P ops C R l ((false, i) :: s) a w := by
  simp only [wpSteps, ho]; exact h
theorem wpSteps_done {P : Program} {ops : Array Oper} {C : World → Prop} {R : Act → World → Prop} {l : List Oper} {a : Act} {w : World} (h : R a w) : wpSteps P ops C R l [] a w := h

end Go.Proofs.Yteepdnamkcgndaa

namespace Go.Proofs.Yteepdnamkcgndaa
open Go.RowKit

set_option maxHeartbeats 400000 in
theorem equal_any (xs ys : List Int) (u v : Value) (S T : Nat → Prop) (w : World) (hu : IntsV S w u xs) (hv : IntsV T w v ys) :
    Calls Try.prog 60 #[u, v] w fun e w' => e = .returned (.bool (decide (xs = ys))) ∧ ∃ n, w' = w.drewN n := by
  obtain ⟨a, cap, rfl, hok, hcap, hmax, hS, hcell⟩ := hu
  obtain ⟨a', cap', rfl, hok', hcap', hmax', hS', hcell'⟩ := hv
  clear hS hS'
  unfold maxLen at hmax hmax'
  by_cases hl : xs.length = ys.length
  · have hl2 : ((xs.length : Int) != (ys.length : Int)) = false := by simp [hl]
    have hl3 : xs.length ≤ ys.length := by omega
    have HL := hid hl
    clear hl
    go_enter Try.func60, Try.ntmps60
    go_wp2
    go_loopw [13] (fun i wr => ∃ k : Nat, k ≤ xs.length ∧ i = .int .i64 k ∧ Hid (xs.take k = ys.take k) ∧ ∃ n, wr = w.drewN n) (fun i _ => xs.length - (intOf i).toNat)
    case atStart => exact ⟨0, Nat.zero_le _, rfl, hid rfl, 0, rfl⟩
    case round =>
      obtain ⟨k, hk, rfl, hpre, n, rfl⟩ := hrel
      by_cases hlt : k < xs.length
      · obtain ⟨x, hx, hx2⟩ := hcell k hlt
        obtain ⟨y, hy, hy2⟩ := hcell' k (by omega)
        obtain ⟨x0, hx0⟩ : ∃ x0, x0 = xs[k] := ⟨_, rfl⟩
        obtain ⟨y0, hy0⟩ : ∃ y0, y0 = ys[k] := ⟨_, rfl⟩
        rw [← hx0] at hx2
        rw [← hy0] at hy2
        subst hx2; subst hy2
        have hk0 : (0 : Int) ≤ (k : Int) := by omega
        have hk1 : (k : Int) < (xs.length : Int) := by omega
        have hk2 : (k : Int) < (ys.length : Int) := by omega
        have HX := hid hx0
        have HY := hid hy0
        clear hx0 hy0
        by_cases hxy : x0 = y0
        · subst hxy
          go_wp2
          go_quiet (fail)
          go_wp2
          go_roundw
          case rel => exact ⟨k + 1, by omega, by go_num, hid (take_eq_succ hlt (by omega) hpre.out (HX.out.symm.trans HY.out)), _, rfl⟩
          case measure => simp [intOf]; omega
        · have hb : (x0 != y0) = true := by simpa using hxy
          have hne : xs ≠ ys := by
            intro e
            subst e
            exact hxy (HX.out.trans HY.out.symm)
          have HN := hid hne
          clear hxy hne
          go_wp2
          go_quiet (fail)
          go_wp2
          go_ret
          exact ⟨ret_bool (decide_eq_false HN.out).symm, by rw [World.drewN_drewN]; exact ⟨_, rfl⟩⟩
      · go_wp2
        go_ret
        exact ⟨ret_bool (decide_eq_true (same_prefix HL.out (by omega) hpre.out)).symm, _, rfl⟩
  · have hl2 : ((xs.length : Int) != (ys.length : Int)) = true := by simpa using (by omega : (xs.length : Int) ≠ ys.length)
    rw [decide_eq_false (fun e => hl (by rw [e]))]
    clear hl
    go_enter Try.func60, Try.ntmps60
    go_wp2
    go_ret
    exact ⟨rfl, 0, rfl⟩

end Go.Proofs.Yteepdnamkcgndaa

namespace Go.Proofs.Yteepdnamkcgndaa
open Go.RowKit

/-- A change is of a form that Apply takes. -/
def FormedC (c : Chg) : Prop := if 0 ≤ c.field then c.values.length = 0 else -2 ≤ c.field ∧ c.old = 0 ∧ c.new = 0 ∧ 1 ≤ c.values.length ∧ c.values.length ≤ 10
instance (c : Chg) : Decidable (FormedC c) := by unfold FormedC; exact inferInstance

set_option maxHeartbeats 1000000 in
theorem formed_any (c : Chg) (a : Option Addr) (cap : Nat) (w : World) :
    Calls Try.prog 38 #[c.val (.slice a c.values.length cap)] w fun e w' => e = .returned (.bool (decide (FormedC c))) ∧ Below w.heap.size w w' := by
  obtain ⟨k, i, f, o, n, xs⟩ := c
  simp only [Chg.val]
  have hA : Below w.heap.size w (w.alloc (.cells #[.int .i64 k, .int .i64 i, .int .i64 f, .int .i64 o, .int .i64 n, .slice a xs.length cap] 59)) := (Below.refl _ _).alloc (Nat.le_refl _) _
  have HA := hid hA
  clear hA
  by_cases h0 : 0 ≤ f
  · have HR : Hid (decide (FormedC ⟨k, i, f, o, n, xs⟩) = decide (xs.length = 0)) := hid (by unfold FormedC; simp only [if_pos h0])
    go_enter Try.func38, Try.ntmps38
    go_wp2
    go_ret
    exact ⟨ret_bool (HR.out.trans (by by_cases h : xs.length = 0 <;> simp [h])).symm, HA.out⟩
  · have hlt : f < 0 := by omega
    have HR : Hid (decide (FormedC ⟨k, i, f, o, n, xs⟩) = decide (-2 ≤ f ∧ o = 0 ∧ n = 0 ∧ 1 ≤ xs.length ∧ xs.length ≤ 10)) := hid (by unfold FormedC; simp only [if_neg h0])
    by_cases h1 : -2 ≤ f
    · by_cases h2 : o = 0
      · by_cases h3 : n = 0
        · by_cases h4 : 1 ≤ xs.length
          · by_cases h5 : xs.length ≤ 10
            · have HE := hid (decide_eq_true (show -2 ≤ f ∧ o = 0 ∧ n = 0 ∧ 1 ≤ xs.length ∧ xs.length ≤ 10 from ⟨h1, h2, h3, h4, h5⟩))
              subst h2 h3
              go_enter Try.func38, Try.ntmps38
              go_wp2
              go_ret
              exact ⟨ret_bool ((HR.out.trans HE.out).trans (by simp; omega)).symm, HA.out⟩
            · have HE := hid (decide_eq_false (show ¬ (-2 ≤ f ∧ o = 0 ∧ n = 0 ∧ 1 ≤ xs.length ∧ xs.length ≤ 10) from fun h => h5 h.2.2.2.2))
              subst h2 h3
              go_enter Try.func38, Try.ntmps38
              go_wp2
              go_ret
              exact ⟨ret_bool ((HR.out.trans HE.out).trans (by simp; omega)).symm, HA.out⟩
          · have HE := hid (decide_eq_false (show ¬ (-2 ≤ f ∧ o = 0 ∧ n = 0 ∧ 1 ≤ xs.length ∧ xs.length ≤ 10) from fun h => h4 h.2.2.2.1))
            subst h2 h3
            have h6 : ¬ (1 : Int) ≤ xs.length := by omega
            go_enter Try.func38, Try.ntmps38
            go_wp2
            go_ret
            exact ⟨ret_bool (HR.out.trans HE.out).symm, HA.out⟩
        · have HE := hid (decide_eq_false (show ¬ (-2 ≤ f ∧ o = 0 ∧ n = 0 ∧ 1 ≤ xs.length ∧ xs.length ≤ 10) from fun h => h3 h.2.2.1))
          subst h2
          have h6 : (n == 0) = false := beqF h3
          go_enter Try.func38, Try.ntmps38
          go_wp2
          go_ret
          exact ⟨ret_bool (HR.out.trans HE.out).symm, HA.out⟩
      · have HE := hid (decide_eq_false (show ¬ (-2 ≤ f ∧ o = 0 ∧ n = 0 ∧ 1 ≤ xs.length ∧ xs.length ≤ 10) from fun h => h2 h.2.1))
        have h6 : (o == 0) = false := beqF h2
        go_enter Try.func38, Try.ntmps38
        go_wp2
        go_ret
        exact ⟨ret_bool (HR.out.trans HE.out).symm, HA.out⟩
    · have HE := hid (decide_eq_false (show ¬ (-2 ≤ f ∧ o = 0 ∧ n = 0 ∧ 1 ≤ xs.length ∧ xs.length ≤ 10) from fun h => h1 h.1))
      go_enter Try.func38, Try.ntmps38
      go_wp2
      go_ret
      exact ⟨ret_bool (HR.out.trans HE.out).symm, HA.out⟩

end Go.Proofs.Yteepdnamkcgndaa

namespace Go.Proofs.Yteepdnamkcgndaa
open Go.RowKit

/-- The records of a change's kind. -/
abbrev rowsC (V : List (List (List Int))) (c : Chg) : List (List Int) := V.getD c.kind.toNat []
/-- The kind of a change is one of the world's. -/
def KnownC (V : List (List (List Int))) (c : Chg) : Prop := 0 ≤ c.kind ∧ c.kind < V.length
instance (V : List (List (List Int))) (c : Chg) : Decidable (KnownC V c) := by unfold KnownC; exact inferInstance
/-- A change that takes or adds a record has as many values as the records of its kind. -/
def MisC (V : List (List (List Int))) (c : Chg) : Prop := c.field < 0 ∧ KnownC V c ∧ 0 < (rowsC V c).length ∧ c.values.length ≠ ((rowsC V c).headD []).length
instance (V : List (List (List Int))) (c : Chg) : Decidable (MisC V c) := by unfold MisC; exact inferInstance
/-- The error of a change at a world. -/
def fitsE (V : List (List (List Int))) (c : Chg) : Int :=
  if ¬ FormedC c ∨ MisC V c then 2
  else if ¬ KnownC V c then 5
  else if c.field = -1 then (if c.index ≠ (rowsC V c).length then 5 else 0)
  else if c.field = -2 then (if (rowsC V c).length = 0 ∨ c.index ≠ (rowsC V c).length - 1 then 5 else if (rowsC V c).getD c.index.toNat [] ≠ c.values then 16 else 0)
  else if c.index < 0 ∨ ((rowsC V c).length : Int) ≤ c.index ∨ (((rowsC V c).headD []).length : Int) ≤ c.field then 5
  else if ((rowsC V c).getD c.index.toNat []).getD c.field.toNat 0 ≠ c.old then 16 else 0
/-- The world behind a change that fits. -/
def doC (V : List (List (List Int))) (c : Chg) : List (List (List Int)) :=
  V.set c.kind.toNat (if c.field = -1 then rowsC V c ++ [c.values] else if c.field = -2 then (rowsC V c).take c.index.toNat
    else (rowsC V c).set c.index.toNat (((rowsC V c).getD c.index.toNat []).set c.field.toNat c.new))
/-- The changes one behind the other: the error, and the world. -/
def runC : List (List (List Int)) → List Chg → Int × List (List (List Int))
  | V, [] => (0, V)
  | V, c :: cs => if fitsE V c ≠ 0 then (fitsE V c, V) else runC (doC V c) cs
/-- What Apply returns. -/
def applyL (V : List (List (List Int))) (cs : List Chg) : Int × List (List (List Int)) :=
  if ¬ ShapedW V then (2, []) else if 8192 < cs.length then (4, []) else
    if (runC V cs).1 ≠ 0 then ((runC V cs).1, []) else if 512 < total (runC V cs).2 then (4, []) else runC V cs

/-- The records of a kind are of one length, of 1 to 10 values. -/
def EvenW (V : List (List (List Int))) : Prop := ∀ rows ∈ V, ∀ r ∈ rows, 1 ≤ r.length ∧ r.length ≤ 10 ∧ r.length = (rows.headD []).length

theorem ShapedW.even {V : List (List (List Int))} (h : ShapedW V) : EvenW V := fun rows hr r hr' => h.1 rows hr r hr'

end Go.Proofs.Yteepdnamkcgndaa

namespace Go.Proofs.Yteepdnamkcgndaa
open Go.RowKit

theorem wp_region_quietG {P : Program} {id : Nat} {Q : Exit → Act → World → Prop} {a : Act} {w : World} {l : List Oper} (hm : P.follows .mixedOrders = true) (hB : Region.lexB .any l.toArray = true)
    (h : wpQuiet P l.toArray (fun W => ∃ x : Grew w, W = x.1) (fun a' => ∀ w', (∃ x : Grew w, w' = x.1) → Q .normal a' w') l a) : (Code.region id l.toArray true).wp P Q a w :=
  wp_region_quiet (C := fun W => ∃ x : Grew w, W = x.1) hm hB ⟨⟨w.drewN 1, (below_drewN (Below.refl _ _) 1)⟩, rfl⟩ (by simpa using h)

theorem grew_below {w w' : World} (h : ∃ x : Grew w, w' = x.1) : Below w.heap.size w w' := by
  obtain ⟨x, rfl⟩ := h
  exact x.2

/-- A callee that makes memory, in a world that has grown. -/
theorem Calls.grew_of {P : Program} {f : FuncId} {args : Array Value} {w : World} {x : Grew w} {v : Value}
    (h : Calls P f args x.1 fun e w' => e = .returned v ∧ Below x.1.heap.size x.1 w') : Calls P f args x.1 fun e w'' => e = .returned v ∧ ∃ y : Grew w, w'' = y.1 :=
  h.mono fun _ w' ⟨he, hb⟩ => ⟨he, ⟨w', x.2.trans (hb.mono x.2.size)⟩, rfl⟩

/-- A run of quiet steps at once. -/
theorem wpSteps_run {P : Program} {ops : Array Oper} {C : World → Prop} {R : Act → World → Prop} {l : List Oper} {w : World} {s : List (Bool × Nat)} : ∀ (is : List Nat) (a : Act), (∀ i ∈ is, i < l.length) →
    wpQuiet P ops C (fun a' => wpSteps P ops C R l s a' w) (is.filterMap (fun i => l[i]?)) a → wpSteps P ops C R l (is.map (fun i => (true, i)) ++ s) a w
  | [], _, _, h => h
  | i :: is, a, hl, h => by
    have hi : i < l.length := hl i (List.mem_cons_self ..)
    have ho : l[i]? = some l[i] := List.getElem?_eq_getElem hi
    have ih := fun a => wpSteps_run (P := P) (ops := ops) (C := C) (R := R) (w := w) (s := s) is a (fun j hj => hl j (List.mem_cons_of_mem _ hj))
    rw [List.filterMap_cons, ho] at h
    refine wpSteps_quiet ho ?_
    show wpQuiet P ops C _ [l[i]] a
    unfold wpQuiet at h ⊢
    split
    · rename_i hw
      rw [if_pos hw] at h
      exact Oper.quiet_mono (fun a' h' => ih a' h') h
    · rename_i hw
      rw [if_neg hw] at h
      exact ih _ h

theorem filterMap_range_take {α : Type} (l : List α) : ∀ n, n ≤ l.length → (List.range n).filterMap (fun i => l[i]?) = l.take n
  | 0, _ => by simp
  | n + 1, h => by
    rw [List.range_succ, List.filterMap_append, filterMap_range_take l n (by omega), List.take_succ_eq_append_getElem (show n < l.length by omega)]
    simp [List.getElem?_eq_getElem (show n < l.length by omega)]

/-- The first n operations, all quiet, at once. -/
theorem wpSteps_pre {P : Program} {ops : Array Oper} {C : World → Prop} {R : Act → World → Prop} {l : List Oper} {w : World} {s : List (Bool × Nat)} (n : Nat) (hn : n ≤ l.length) {a : Act}
    (h : wpQuiet P ops C (fun a' => wpSteps P ops C R l s a' w) (l.take n) a) : wpSteps P ops C R l ((List.range n).map (fun i => (true, i)) ++ s) a w :=
  wpSteps_run (List.range n) a (fun i hi => by have := List.mem_range.1 hi; omega) (by rw [filterMap_range_take l n hn]; exact h)

end Go.Proofs.Yteepdnamkcgndaa
