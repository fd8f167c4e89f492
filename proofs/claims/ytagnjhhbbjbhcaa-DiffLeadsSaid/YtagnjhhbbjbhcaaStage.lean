/- Regions that draw their order in two stages: all operations of the second wait for all of the first; each stage has a class of worlds of its own. -/
import Derived.Test.YtagnjhhbbjbhcaaRegIn
namespace Go.Proofs.Ytagnjhhbbjbhcaa
open Go.RowKit

section
variable {P : Program} {ops : Array Oper} {md : Region.Mode} {C : World → Prop}

/-- The operations from n on wait for all others. -/
def Region.phaseB (md : Region.Mode) (ops : Array Oper) (n : Nat) : Bool :=
  (List.range ops.size).all fun t => decide (t < n) || (List.range n).all fun i => Region.waitsFor md ops t i

theorem phase_waits {n : Nat} {listed : Array Bool} (hp : Region.phaseB md ops n = true) {i : Nat} (hi : i < n) (hun : listed.getD i true = false) {t : Nat} (hr : t ∈ Region.ready md ops listed) : t < n := by
  obtain ⟨_, ot, hot, hall⟩ := mem_ready.1 hr
  have htlt : t < ops.size := (Array.getElem?_eq_some_iff.1 hot).1
  have h1 := List.all_eq_true.1 hp t (List.mem_range.2 htlt)
  simp only [Bool.or_eq_true, decide_eq_true_eq] at h1
  rcases h1 with h1 | h1
  · exact h1
  · have h2 := List.all_eq_true.1 h1 i (List.mem_range.2 hi)
    obtain ⟨o', ho', e, he, hb, hon⟩ := Region.waitsFor_spec h2
    have : o' = ot := Option.some.inj (ho'.symm.trans hot)
    subst this
    have h3 := hall e he hb
    rw [hon, getD_both hun] at h3
    cases h3

/-- What is known of the listed operations within a stage that begins behind n0: those of the stage's end are not listed. -/
theorem wpAnyH_firstP {n i : Nat} {oi : Oper} {v : Value} {L : Array Bool → Act → World → Prop} (hi : ops[i]? = some oi) (hsel : ∀ (j : Nat) (o : Oper) cs b, ops[j]? = some o → o.op ≠ .select cs b)
    (hp : Region.phaseB md ops n = true) (hin : i < n)
    (hdone : ∀ listed a w, L listed a w → ∀ j ∈ Region.ready md ops listed, n ≤ j) :
    ∀ (f : Nat) (listed : Array Bool) (a : Act) (w : World), C w →
      (∀ j oj, ops[j]? = some oj → j ≠ i → listed.getD j true = false → (∀ e ∈ oj.after, Region.binds md e = true → e.on ≠ i) → oi.apart ops oj = true) →
      i ∈ Region.ready md ops listed → YieldsC P ops C oi v a →
      wpAnyH P md ops C n L f (listed.setIfInBounds i true) (a.put oi.dst v) w → wpAnyH P md ops C n L (f + 1) listed a w := by
  intro f
  induction f with
  | zero =>
    intro listed a w hCw _ hr hy H
    have hun := (mem_ready.1 hr).1
    refine ⟨fun h => (by rw [h] at hr; cases hr), fun j hj => ?_⟩
    have hjn : j < n := phase_waits hp hin hun hj
    refine ⟨hjn, ?_⟩
    by_cases hji : j = i
    · subst hji; exact hy.wpOp hi hCw ⟨hCw, H⟩
    · have := hdone _ _ _ H j (ready_mono hj hji)
      omega
  | succ f ih =>
    intro listed a w hCw hfree hr hy H
    have hun := (mem_ready.1 hr).1
    refine ⟨fun h => (by rw [h] at hr; cases hr), fun j hj => ?_⟩
    have hjn : j < n := phase_waits hp hin hun hj
    refine ⟨hjn, ?_⟩
    by_cases hji : j = i
    · subst hji; exact hy.wpOp hi hCw ⟨hCw, H⟩
    · have h1 := (H.2 j (ready_mono hj hji)).2
      obtain ⟨hjun, oj, hoj, hall⟩ := mem_ready.1 hj
      have hnot : ∀ e ∈ oj.after, Region.binds md e = true → e.on ≠ i := fun e he hb heq => by
        have h1 := hall e he hb
        rw [heq, getD_both hun] at h1
        cases h1
      have h2 := hOp_put hoj (hfree j oj hoj hji hjun hnot) (fun cs b => hsel i oi cs b hi) (fun cs b => hsel j oj cs b hoj) hy h1
      have hfree' : ∀ k ok, ops[k]? = some ok → k ≠ i → (listed.setIfInBounds j true).getD k true = false →
          (∀ e ∈ ok.after, Region.binds md e = true → e.on ≠ i) → oi.apart ops ok = true := fun k ok hk hki hun hno => by
        refine hfree k ok hk hki ?_ hno
        by_cases hjk : j = k
        · subst hjk; exact hjun
        · rw [getD_set_ne true hjk] at hun; exact hun
      refine hOp_mono (fun a' w' hCw' h3 => ih (listed.setIfInBounds j true) a' w' hCw' hfree' (ready_mono hr (Ne.symm hji)) h3.1 ?_) h2
      rw [Array.setIfInBounds_comm _ _ hji]
      exact h3.2

/-- The Bool of a stage: its schedule leads from 'listed' to 'goal'. -/
def Region.stageB (md : Region.Mode) (ops : Array Oper) (n : Nat) (goal : Array Bool) : List (Bool × Nat) → Array Bool → Bool
  | [], listed => decide (listed = goal)
  | (false, c) :: s, listed => decide (Region.ready md ops listed = [c]) && decide (c < n) && Region.stageB md ops n goal s (listed.setIfInBounds c true)
  | (true, q) :: s, listed => (Region.ready md ops listed).contains q && Region.free md ops listed q && decide (q < n) && ((ops[q]?).map (fun o => quietOp o.op)).getD false && Region.stageB md ops n goal s (listed.setIfInBounds q true)

theorem wpAnyH_stage {n : Nat} {goal : Array Bool} {Lq : Act → World → Prop} (hsel : Region.noSelect ops = true) (hp : Region.phaseB md ops n = true) (hdone : ∀ j ∈ Region.ready md ops goal, n ≤ j) :
    ∀ (s : List (Bool × Nat)) (listed : Array Bool) (a : Act) (w : World), C w → Region.stageB md ops n goal s listed = true → wpSteps P ops C Lq ops.toList s a w →
    wpAnyH P md ops C n (fun listed' a' w' => listed' = goal ∧ Lq a' w') s.length listed a w
  | (true, k) :: s, listed, a, w, hC, hB, h => by
    simp only [Region.stageB, Bool.and_eq_true, decide_eq_true_eq] at hB
    obtain ⟨⟨⟨⟨hr, hf⟩, hkn⟩, hq⟩, hB⟩ := hB
    obtain ⟨_, o, h0, _⟩ := mem_ready.1 (by simpa using hr : k ∈ Region.ready md ops listed)
    have h0' : ops.toList[k]? = some o := by simpa using h0
    simp only [wpSteps, h0'] at h
    have hqo : quietOp o.op = true := by rw [h0] at hq; simpa using hq
    rw [List.length_cons]
    unfold wpQuiet at h
    split at h
    · rename_i hw
      obtain ⟨v, h1, h2⟩ := h
      have hy : YieldsC P ops C o v a := .inl ⟨hw, fun w1 hC1 => by
        have g := h1 w1 hC1
        unfold Oper.quietAt at g
        generalize hr1 : (execOp a.eval o).run P w1 = r at g ⊢
        cases r with
        | ok nx w2 =>
          cases nx with
          | value u => obtain ⟨e1, e2⟩ := g; rw [e1, e2]
          | _ => exact absurd hr1 (quietOp_noEnter hqo (by intro v; simp))
        | halt x w2 => exact g.elim⟩
      exact wpAnyH_firstP h0 (Region.noSelect_spec hsel) hp hkn (fun listed' a' w' hL => by rw [hL.1]; exact hdone) _ listed a w hC (Region.free_spec h0 hf) (by simpa using hr) hy
        (wpAnyH_stage hsel hp hdone s _ _ w hC hB h2)
    · rename_i hw
      exact wpAnyH_firstP h0 (Region.noSelect_spec hsel) hp hkn (fun listed' a' w' hL => by rw [hL.1]; exact hdone) _ listed a w hC (Region.free_spec h0 hf) (by simpa using hr) (.inr ⟨by simpa using hw, rfl⟩)
        (wpAnyH_stage hsel hp hdone s _ _ w hC hB h)
  | (false, k) :: s, listed, a, w, hC, hB, h => by
    simp only [Region.stageB, Bool.and_eq_true, decide_eq_true_eq] at hB
    obtain ⟨⟨hr, hkn⟩, hB⟩ := hB
    obtain ⟨_, o, h0, _⟩ := mem_ready.1 (by rw [hr]; simp : k ∈ Region.ready md ops listed)
    have h0' : ops.toList[k]? = some o := by simpa using h0
    simp only [wpSteps, h0'] at h
    rw [List.length_cons]
    refine ⟨by rw [hr]; simp, fun i hi => ?_⟩
    rw [hr] at hi
    obtain rfl : i = k := by simpa using hi
    refine ⟨hkn, hOp_mono (fun a' w' hC' h3 => ?_) (wpOp_of_list h0 h)⟩
    exact wpAnyH_stage hsel hp hdone s _ _ w' hC' hB h3
  | [], listed, a, w, hC, hB, h => by
    simp only [Region.stageB, decide_eq_true_eq] at hB
    exact ⟨hB, h⟩

def Region.maskA (ops : Array Oper) (n : Nat) : Array Bool := ((List.range ops.size).map fun i => decide (i < n)).toArray
/-- The Bool of the law: a first stage of n operations; then a second one with its tail from m on. -/
def Region.twoB (md : Region.Mode) (ops : Array Oper) (n : Nat) (s : List (Bool × Nat)) (m : Nat) (s2 : List (Bool × Nat)) : Bool :=
  Region.noSelect ops && decide (m < ops.size) && Region.phaseB md ops n && decide (s.length = n) && Region.stageB md ops n (Region.maskA ops n) s (Array.replicate ops.size false) &&
  (Region.ready md ops (Region.maskA ops n)).all (fun j => decide (n ≤ j)) &&
  (List.range n).all (fun j => match ops[j]? with | some o => o.after.all (fun e => !Region.binds md e || decide (e.on < n)) | none => true) && decide (n ≤ m) &&
  Region.sinkB md ops m && Region.chainB md ops m && decide (s2.length = m - n) && Region.schedB md ops m s2 (Region.maskA ops n)

theorem mask_size {n : Nat} : (Region.maskA ops n).size = ops.size := by simp [Region.maskA]
theorem mask_getD {n j : Nat} {d : Bool} (h : j < ops.size) : (Region.maskA ops n).getD j d = decide (j < n) := by
  simp [Region.maskA, h]

theorem any_two {Q : Exit → Act → World → Prop} {a : Act} {w : World} {l : List Oper} {C2 : World → Prop} (n : Nat) (s : List (Bool × Nat)) (m : Nat) (s2 : List (Bool × Nat)) (hB : Region.twoB .any l.toArray n s m s2 = true) (hC : C w)
    (h : wpSteps P l.toArray C (fun a' w' => C2 w' ∧ wpSteps P l.toArray C2 (fun a' w' => wpList P l.toArray Q (l.drop m) a' w') l s2 a' w') l s a w) : wpAny P .any l.toArray Q l.toArray.size (Array.replicate l.toArray.size false) a w := by
  simp only [Region.twoB, Bool.and_eq_true, decide_eq_true_eq] at hB
  obtain ⟨⟨⟨⟨⟨⟨⟨⟨⟨⟨⟨hsel, hm⟩, hph⟩, hsl⟩, hst⟩, hrd⟩, hcl⟩, hnm⟩, hs⟩, hc⟩, hqn⟩, hlex⟩ := hB
  have hdone : ∀ j ∈ Region.ready .any l.toArray (Region.maskA l.toArray n), n ≤ j := fun j hj => by
    have := List.all_eq_true.1 hrd j hj
    simpa using this
  have inv0 : HeadInv .any l.toArray m (Region.maskA l.toArray n) := by
    refine ⟨mask_size, fun j oj hj hl e he hb => ?_, fun t ht ht' => ?_⟩
    · have hjs : j < l.toArray.size := (Array.getElem?_eq_some_iff.1 hj).1
      rw [mask_getD hjs] at hl
      have hjn : j < n := by simpa using hl
      have h1 := List.all_eq_true.1 hcl j (List.mem_range.2 hjn)
      rw [hj] at h1
      have h2 := Array.all_eq_true_iff_forall_mem.1 h1 e he
      simp only [hb, Bool.not_true, Bool.false_or, decide_eq_true_eq] at h2
      have : e.on < l.toArray.size := by omega
      rw [mask_getD this]
      simpa using h2
    · rw [mask_getD ht']
      simp
      omega
  have H := wpAnyH_stage (C := C) (md := .any) (Lq := fun a' w' => C2 w' ∧ wpSteps P l.toArray C2 (fun a' w' => wpList P l.toArray Q (l.drop m) a' w') l s2 a' w') hsel hph hdone s _ a w hC hst (by simpa using h)
  have hdl : (l.drop m).length = l.toArray.size - m := by simp
  have := wpAny_of_headH (Q' := Q) (g := l.toArray.size - n) (fun listed a' w' hL => by
    obtain ⟨rfl, hC2, hL⟩ := hL
    have H2 := wpAnyH_sched (C := C2) (md := .any) (Lq := fun a' w' => wpList P l.toArray Q (l.drop m) a' w') hsel hs hc hm s2 _ a' _ hC2 inv0 hlex (by simpa using hL)
    have := wpAny_of_headH (Q' := Q) (g := l.toArray.size - m) (fun listed a' w' hL => by
      have := wpAny_of_seq (md := .any) (Q' := Q) (l.drop m) m listed a' w' (fun j => by simp [List.getElem?_drop]) (by rw [hdl]; exact hL.1) hL.2
      rwa [hdl] at this) _ _ _ _ H2
    rw [hqn, show m - n + (l.toArray.size - m) = l.toArray.size - n by omega] at this
    exact this) _ _ _ _ H
  rw [hsl, show n + (l.toArray.size - n) = l.toArray.size by omega] at this
  exact this

/-- **The law of two stages.** -/
theorem wp_region_two {id : Nat} {Q : Exit → Act → World → Prop} {a : Act} {w : World} {l : List Oper} (n : Nat) (s : List (Bool × Nat)) (m : Nat) (s2 : List (Bool × Nat)) (φ φ2 : World → Prop) (hm : P.follows .mixedOrders = true) (hB : Region.twoB .any l.toArray n s m s2 = true) (hφ : φ (w.drewN 1))
    (h : Nonempty (Held φ) → wpSteps P l.toArray (fun W => ∃ x : Held φ, W = x.1) (fun a' w' => φ2 w' ∧ (Nonempty (Held φ2) → wpSteps P l.toArray (fun W => ∃ x : Held φ2, W = x.1) (fun a' w' => wpList P l.toArray Q (l.drop m) a' w') l s2 a' w')) l s a (w.drewN 1)) : (Code.region id l.toArray true).wp P Q a w :=
  wp_region_any hm (any_two (C := fun W => ∃ x : Held φ, W = x.1) (C2 := fun W => ∃ x : Held φ2, W = x.1) n s m s2 hB ⟨⟨_, hφ⟩, rfl⟩ (wpSteps_mono (fun _ w' h => ⟨⟨⟨w', h.1⟩, rfl⟩, h.2 ⟨⟨w', h.1⟩⟩⟩) (h ⟨⟨_, hφ⟩⟩)))
/-- .. in a round. -/
theorem wpIn_region_two {lp nf : Nat} {id : Nat} {Q : Exit → Act → World → Prop} {a : Act} {w : World} {l : List Oper} (n : Nat) (s : List (Bool × Nat)) (m : Nat) (s2 : List (Bool × Nat)) (φ φ2 : World → Prop) (hm : P.follows .mixedOrders = true) (hB : Region.twoB .any l.toArray n s m s2 = true) (hp : Region.plainB l.toArray = true) (hφ : φ (w.drewN 1))
    (h : Nonempty (Held φ) → ∀ K : Act → World → Prop, (∀ a' w', Q .normal a' w' → K a' w') → wpSteps P l.toArray (fun W => ∃ x : Held φ, W = x.1) (fun a' w' => φ2 w' ∧ (Nonempty (Held φ2) → wpSteps P l.toArray (fun W => ∃ x : Held φ2, W = x.1) (fun a' w' => wpList P l.toArray (QN K) (l.drop m) a' w') l s2 a' w')) l s a (w.drewN 1)) : (Code.region id l.toArray true).wpIn (Fence.wide.inRound lp) nf P Q a w :=
  wpIn_region_any hm (any_in (K2 := fun a w => Q .normal a w) (Region.plain_spec hp) (fun _ _ h => h) _ _ _ _
    (any_two (C := fun W => ∃ x : Held φ, W = x.1) (C2 := fun W => ∃ x : Held φ2, W = x.1) n s m s2 hB ⟨⟨_, hφ⟩, rfl⟩ (wpSteps_mono (fun _ w' h => ⟨⟨⟨w', h.1⟩, rfl⟩, h.2 ⟨⟨w', h.1⟩⟩⟩) (h ⟨⟨_, hφ⟩⟩ _ (fun _ _ h => h)))))
end

end Go.Proofs.Ytagnjhhbbjbhcaa
