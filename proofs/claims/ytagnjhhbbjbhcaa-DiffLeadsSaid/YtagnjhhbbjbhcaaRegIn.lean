/- Regions that draw their order, in a round of a range over a function: what holds outside of a fence holds within the wide one. -/
import Derived.Test.YtagnjhhbbjbhcaaRange
import Derived.Test.YtagnjhhbbjbhcaaQG
import Derived.OrdersIn
namespace Go.Proofs.Ytagnjhhbbjbhcaa
open Go.RowKit

section
variable {P : Program} {ops : Array Oper} {md : Region.Mode} {lp n : Nat}

theorem callsIn_wideR {f : FuncId} {args : Array Value} {w : World} {R : Ending → World → Prop} : CallsIn (Fence.wide.inRound lp) n P f args w R ↔ Calls P f args w R := callsIn_wide (n := n)

/-- No operation defers a call, or asks for a row. -/
def plainOp : Op → Bool
  | .defer .. => false
  | _ => true

theorem op_in {o : Oper} {a : Act} {w : World} {K K2 : Act → World → Prop} {Q2 : Exit → Act → World → Prop} (hd : plainOp o.op = true) (h : o.wp P a w K (QN K2)) : o.wpIn (Fence.wide.inRound lp) n P a w K Q2 := by
  have hs : Oper.semAt (Fence.wide.inRound lp).round a.eval o = execOp a.eval o := Oper.semAt_eq _ _ _ (fun c e => by rw [e] at hd; simp [plainOp] at hd)
  unfold Oper.wpIn
  refine ⟨fun _ _ => trivial, ?_⟩
  rw [hs]
  unfold Oper.wp at h
  generalize (execOp a.eval o).run P w = r at *
  cases r with
  | ok x w' =>
    cases x with
    | value v => exact h
    | skip => exact h
    | defer d => exact h
    | enter f args =>
      refine ⟨fun h => by simp [Fence.wide] at h, callsIn_wideR.2 (Calls.mono h ?_)⟩
      intro e w'' he
      cases e with
      | returned v => exact he
      | panicked c => exact he.elim
      | outgrown => exact absurd he letsOut_QN
    | row row args =>
      refine ⟨fun h => by simp [Fence.wide] at h, fun c cs _ => ?_⟩
      obtain ⟨v, w2, h1, h2⟩ := h c cs
      exact ⟨v, w2, h1, stepsIn_wide.2 h2⟩
    | _ => exact h.elim
  | halt x w' =>
    cases x <;> first | exact h.elim | exact (show False from h).elim

theorem opi_in {i : Nat} {a : Act} {w : World} {K K' K2 : Act → World → Prop} {Q2 : Exit → Act → World → Prop} (hd : ∀ o, ops[i]? = some o → plainOp o.op = true) (hK : ∀ a w, K a w → K' a w) (h : wpOp P ops (QN K2) i K a w) : wpOpIn (Fence.wide.inRound lp) n P ops Q2 i K' a w := by
  refine wpOpIn_mono hK ?_
  unfold wpOp at h
  unfold wpOpIn
  split
  · rename_i ho; simp only [ho] at h; exact h
  · rename_i o ho
    simp only [ho] at h
    split
    · rename_i hw
      rw [if_pos hw] at h
      rcases h with h | ⟨_, h⟩
      · exact op_in (hd o ho) h
      · exact absurd h letsOut_QN
    · rename_i hw
      rw [if_neg hw] at h
      exact ⟨fun _ _ => trivial, h⟩

theorem any_in {K2 : Act → World → Prop} {Q2 : Exit → Act → World → Prop} (hd : ∀ (i : Nat) (o : Oper), ops[i]? = some o → plainOp o.op = true) (hK : ∀ a w, K2 a w → Q2 .normal a w) : ∀ (f : Nat) (listed : Array Bool) (a : Act) (w : World),
    wpAny P md ops (QN K2) f listed a w → wpAnyIn (Fence.wide.inRound lp) n P md ops Q2 f listed a w
  | 0, _, _, _, h => ⟨h.1, hK _ _ h.2⟩
  | f + 1, listed, a, w, h => ⟨fun h0 => hK _ _ (h.1 h0), fun i hi => opi_in (hd i) (fun a w h => any_in hd hK f _ a w h) (h.2 i hi)⟩

def Region.plainB (ops : Array Oper) : Bool := ops.all fun o => plainOp o.op
theorem Region.plain_spec {ops : Array Oper} (h : Region.plainB ops = true) : ∀ (i : Nat) (o : Oper), ops[i]? = some o → plainOp o.op = true := by
  intro i o ho
  unfold Region.plainB at h
  obtain ⟨hlt, e⟩ := Array.getElem?_eq_some_iff.1 ho
  rw [← e]
  exact Array.all_eq_true.1 h i hlt

theorem list1_mono {o : Oper} {a : Act} {w : World} {K K' : Act → World → Prop} (h : ∀ a w, K a w → K' a w) (hk : wpList P ops (QN K) [o] a w) : wpList P ops (QN K') [o] a w := by
  unfold wpList at hk ⊢
  split
  · rename_i hw
    rw [if_pos hw] at hk
    rcases hk with hk | ⟨_, hk⟩
    · refine .inl (wp_exit (Q := QN K) (fun _ _ _ hf => hf.elim) (fun hl => absurd hl letsOut_QN) ?_)
      exact Oper.wp_mono (fun a' w' h' => h a' w' h') hk
    · exact absurd hk letsOut_QN
  · rename_i hw
    rw [if_neg hw] at hk
    exact h _ _ hk

theorem wpSteps_mono {C : World → Prop} {R R' : Act → World → Prop} {l : List Oper} (h : ∀ a w, R a w → R' a w) : ∀ {s : List (Bool × Nat)} {a : Act} {w : World}, wpSteps P ops C R l s a w → wpSteps P ops C R' l s a w
  | [], a, w, hk => h a w hk
  | (true, i) :: s, a, w, hk => by
    unfold wpSteps at hk ⊢
    split at hk
    · unfold wpQuiet at hk ⊢
      split
      · rename_i hw
        rw [if_pos hw] at hk
        exact Oper.quiet_mono (fun a h2 => wpSteps_mono h h2) hk
      · rename_i hw
        rw [if_neg hw] at hk
        exact wpSteps_mono h hk
    · exact hk.elim
  | (false, i) :: s, a, w, hk => by
    unfold wpSteps at hk ⊢
    split at hk
    · exact list1_mono (fun a w h2 => ⟨h2.1, wpSteps_mono h h2.2⟩) hk
    · exact hk.elim

/-- The order of a schedule, as a wpAny. -/
theorem any_sched {Q : Exit → Act → World → Prop} {a : Act} {w : World} {l : List Oper} {C : World → Prop} (m : Nat) (s : List (Bool × Nat)) (hB : Region.schedTailB .any l.toArray m s = true) (hC : C w)
    (h : wpSteps P l.toArray C (fun a' w' => wpList P l.toArray Q (l.drop m) a' w') l s a w) : wpAny P .any l.toArray Q l.toArray.size (Array.replicate l.toArray.size false) a w := by
  simp only [Region.schedTailB, Bool.and_eq_true, decide_eq_true_eq] at hB
  obtain ⟨⟨⟨⟨⟨hsel, hn⟩, hs⟩, hc⟩, hqn⟩, hlex⟩ := hB
  have inv0 : HeadInv .any l.toArray m (Array.replicate l.toArray.size false) :=
    ⟨by simp, fun j oj _ hl => (by rw [getD_replicate_false] at hl; cases hl), fun t _ ht => getD_in (by simpa using ht) (getD_replicate_false _ _)⟩
  have H := wpAnyH_sched (md := .any) (Lq := fun a' w' => wpList P l.toArray Q (l.drop m) a' w') hsel hs hc hn s _ a _ hC inv0 hlex (by simpa using h)
  have hdl : (l.drop m).length = l.toArray.size - m := by simp
  have := wpAny_of_headH (Q' := Q) (g := l.toArray.size - m) (fun listed a' w' hL => by
    have := wpAny_of_seq (md := .any) (Q' := Q) (l.drop m) m listed a' w' (fun j => by simp [List.getElem?_drop]) (by rw [hdl]; exact hL.1) hL.2
    rwa [hdl] at this) _ _ _ _ H
  rw [hqn, show m + (l.toArray.size - m) = l.toArray.size by omega] at this
  exact this

/-- **The law in a round.** The region itself is walked outside of the fence. -/
theorem wpIn_region_held {id : Nat} {Q : Exit → Act → World → Prop} {a : Act} {w : World} {l : List Oper} (m : Nat) (s : List (Bool × Nat)) (φ : World → Prop) (hm : P.follows .mixedOrders = true) (hB : Region.schedTailB .any l.toArray m s = true) (hp : Region.plainB l.toArray = true) (hφ : φ (w.drewN 1))
    (h : Nonempty (Held φ) → ∀ K : Act → World → Prop, (∀ a' w', Q .normal a' w' → K a' w') → wpSteps P l.toArray (fun W => ∃ x : Held φ, W = x.1) (fun a' w' => wpList P l.toArray (QN K) (l.drop m) a' w') l s a (w.drewN 1)) : (Code.region id l.toArray true).wpIn (Fence.wide.inRound lp) n P Q a w :=
  wpIn_region_any hm (any_in (K2 := fun a w => Q .normal a w) (Region.plain_spec hp) (fun _ _ h => h) _ _ _ _
    (any_sched (C := fun W => ∃ x : Held φ, W = x.1) m s hB ⟨⟨_, hφ⟩, rfl⟩ (h ⟨⟨_, hφ⟩⟩ _ (fun _ _ h => h))))
end

end Go.Proofs.Ytagnjhhbbjbhcaa
