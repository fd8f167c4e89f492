/- Regions in a round of a range over a function. Iterators whose rounds may say no more; ranges within rounds. fill of the program: the iterator over the combinations that go on from one. fill and rows of the program: what they return, as iterators. rows of the program: the iterator over the rows that have a combination. -/
import Derived.Test.YtjaejnacdanpkaaDoorB7
import Derived.OrdersIn
import Derived.Test.YtjaejnacdanpkaaDoorB3
import Derived.Test.YtjaejnacdanpkaaDoorBCov
namespace Go.Proofs.YtjaejnacdanpkaaDoor
open Go.RowKit

section
variable {P : Program} {ops : Array Oper} {md : Region.Mode} {lp n : Nat}

theorem callsIn_wideR {f : FuncId} {args : Array Value} {w : World} {R : Ending → World → Prop} : CallsIn (Fence.wide.inRound lp) n P f args w R ↔ Calls P f args w R := callsIn_wide (n := n)

/-- No operation defers a call, or asks for a row. -/
def plainOp : Op → Bool
  | .defer .. => false
  | _ => true

theorem op_in {o : Oper} {a : Act} {w : World} {K K2 : Act → World → Prop} {Q2 : Exit → Act → World → Prop} (hd : plainOp o.op = true) (h : o.wp P a w K (QN K2)) : o.wpIn (Fence.wide.inRound lp) n P a w K Q2 := by
  have hs : Oper.semAt (Fence.wide.inRound lp).round a.eval o = execOp a.eval o := Oper.semAt_eq _ _ _ (fun c e => by rw [e] at hd; simp [plainOp] at hd)
  unfold Oper.wpIn
  refine ⟨fun _ _ => trivial, ?_⟩
  rw [hs]
  unfold Oper.wp at h
  generalize (execOp a.eval o).run P w = r at *
  cases r with
  | ok x w' =>
    cases x with
    | value v => exact h
    | skip => exact h
    | defer d => exact h
    | enter f args =>
      refine ⟨fun h => by simp [Fence.wide] at h, callsIn_wideR.2 (Calls.mono h ?_)⟩
      intro e w'' he
      cases e with
      | returned v => exact he
      | panicked c => exact he.elim
      | outgrown => exact absurd he letsOut_QN
    | row row args =>
      refine ⟨fun h => by simp [Fence.wide] at h, fun c cs _ => ?_⟩
      obtain ⟨v, w2, h1, h2⟩ := h c cs
      exact ⟨v, w2, h1, stepsIn_wide.2 h2⟩
    | _ => exact h.elim
  | halt x w' =>
    cases x <;> first | exact h.elim | exact (show False from h).elim

theorem opi_in {i : Nat} {a : Act} {w : World} {K K' K2 : Act → World → Prop} {Q2 : Exit → Act → World → Prop} (hd : ∀ o, ops[i]? = some o → plainOp o.op = true) (hK : ∀ a w, K a w → K' a w) (h : wpOp P ops (QN K2) i K a w) : wpOpIn (Fence.wide.inRound lp) n P ops Q2 i K' a w := by
  refine wpOpIn_mono hK ?_
  unfold wpOp at h
  unfold wpOpIn
  split
  · rename_i ho; simp only [ho] at h; exact h
  · rename_i o ho
    simp only [ho] at h
    split
    · rename_i hw
      rw [if_pos hw] at h
      rcases h with h | ⟨_, h⟩
      · exact op_in (hd o ho) h
      · exact absurd h letsOut_QN
    · rename_i hw
      rw [if_neg hw] at h
      exact ⟨fun _ _ => trivial, h⟩

theorem any_in {K2 : Act → World → Prop} {Q2 : Exit → Act → World → Prop} (hd : ∀ (i : Nat) (o : Oper), ops[i]? = some o → plainOp o.op = true) (hK : ∀ a w, K2 a w → Q2 .normal a w) : ∀ (f : Nat) (listed : Array Bool) (a : Act) (w : World),
    wpAny P md ops (QN K2) f listed a w → wpAnyIn (Fence.wide.inRound lp) n P md ops Q2 f listed a w
  | 0, _, _, _, h => ⟨h.1, hK _ _ h.2⟩
  | f + 1, _listed, _a, _w, h => ⟨fun h0 => hK _ _ (h.1 h0), fun i hi => opi_in (hd i) (fun a w h => any_in hd hK f _ a w h) (h.2 i hi)⟩

def Region.plainB (ops : Array Oper) : Bool := ops.all fun o => plainOp o.op
theorem Region.plain_spec {ops : Array Oper} (h : Region.plainB ops = true) : ∀ (i : Nat) (o : Oper), ops[i]? = some o → plainOp o.op = true := by
  intro i o ho
  unfold Region.plainB at h
  obtain ⟨hlt, e⟩ := Array.getElem?_eq_some_iff.1 ho
  rw [← e]
  exact Array.all_eq_true.1 h i hlt

theorem list1_mono {o : Oper} {a : Act} {w : World} {K K' : Act → World → Prop} (h : ∀ a w, K a w → K' a w) (hk : wpList P ops (QN K) [o] a w) : wpList P ops (QN K') [o] a w := by
  unfold wpList at hk ⊢
  split
  · rename_i hw
    rw [if_pos hw] at hk
    rcases hk with hk | ⟨_, hk⟩
    · refine .inl (wp_exit (Q := QN K) (fun _ _ _ hf => hf.elim) (fun hl => absurd hl letsOut_QN) ?_)
      exact Oper.wp_mono (fun a' w' h' => h a' w' h') hk
    · exact absurd hk letsOut_QN
  · rename_i hw
    rw [if_neg hw] at hk
    exact h _ _ hk

theorem wpSteps_mono {C : World → Prop} {R R' : Act → World → Prop} {l : List Oper} (h : ∀ a w, R a w → R' a w) : ∀ {s : List (Bool × Nat)} {a : Act} {w : World}, wpSteps P ops C R l s a w → wpSteps P ops C R' l s a w
  | [], a, w, hk => h a w hk
  | (true, i) :: s, a, w, hk => by
    unfold wpSteps at hk ⊢
    split at hk
    · unfold wpQuiet at hk ⊢
      split
      · rename_i hw
        rw [if_pos hw] at hk
        exact Oper.quiet_mono (fun a h2 => wpSteps_mono h h2) hk
      · rename_i hw
        rw [if_neg hw] at hk
        exact wpSteps_mono h hk
    · exact hk.elim
  | (false, i) :: s, a, w, hk => by
    unfold wpSteps at hk ⊢
    split at hk
    · exact list1_mono (fun a w h2 => ⟨h2.1, wpSteps_mono h h2.2⟩) hk
    · exact hk.elim

/-- The order of a schedule, as a wpAny. -/
theorem any_sched {Q : Exit → Act → World → Prop} {a : Act} {w : World} {l : List Oper} {C : World → Prop} (m : Nat) (s : List (Bool × Nat)) (hB : Region.schedTailB .any l.toArray m s = true) (hC : C w)
    (h : wpSteps P l.toArray C (fun a' w' => wpList P l.toArray Q (l.drop m) a' w') l s a w) : wpAny P .any l.toArray Q l.toArray.size (Array.replicate l.toArray.size false) a w := by
  simp only [Region.schedTailB, Bool.and_eq_true, decide_eq_true_eq] at hB
  obtain ⟨⟨⟨⟨⟨hsel, hn⟩, hs⟩, hc⟩, hqn⟩, hlex⟩ := hB
  have inv0 : HeadInv .any l.toArray m (Array.replicate l.toArray.size false) :=
    ⟨by simp, fun j oj _ hl => (by rw [getD_replicate_false] at hl; cases hl), fun t _ ht => getD_in (by simpa using ht) (getD_replicate_false _ _)⟩
  have H := wpAnyH_sched (md := .any) (Lq := fun a' w' => wpList P l.toArray Q (l.drop m) a' w') hsel hs hc hn s _ a _ hC inv0 hlex (by simpa using h)
  have hdl : (l.drop m).length = l.toArray.size - m := by simp
  have := wpAny_of_headH (Q' := Q) (g := l.toArray.size - m) (fun listed a' w' hL => by
    have := wpAny_of_seq (md := .any) (Q' := Q) (l.drop m) m listed a' w' (fun j => by simp [List.getElem?_drop]) (by rw [hdl]; exact hL.1) hL.2
    rwa [hdl] at this) _ _ _ _ H
  rw [hqn, show m + (l.toArray.size - m) = l.toArray.size by omega] at this
  exact this

/-- **The law in a round.** The region itself is walked outside of the fence. -/
theorem wpIn_region_held {id : Nat} {Q : Exit → Act → World → Prop} {a : Act} {w : World} {l : List Oper} (m : Nat) (s : List (Bool × Nat)) (φ : World → Prop) (hm : P.follows .mixedOrders = true) (hB : Region.schedTailB .any l.toArray m s = true) (hp : Region.plainB l.toArray = true) (hφ : φ (w.drewN 1))
    (h : Nonempty (Held φ) → ∀ K : Act → World → Prop, (∀ a' w', Q .normal a' w' → K a' w') → wpSteps P l.toArray (fun W => ∃ x : Held φ, W = x.1) (fun a' w' => wpList P l.toArray (QN K) (l.drop m) a' w') l s a (w.drewN 1)) : (Code.region id l.toArray true).wpIn (Fence.wide.inRound lp) n P Q a w :=
  wpIn_region_any hm (any_in (K2 := fun a w => Q .normal a w) (Region.plain_spec hp) (fun _ _ h => h) _ _ _ _
    (any_sched (C := fun W => ∃ x : Held φ, W = x.1) m s hB ⟨⟨_, hφ⟩, rfl⟩ (h ⟨⟨_, hφ⟩⟩ _ (fun _ _ h => h))))
end


end Go.Proofs.YtjaejnacdanpkaaDoor

namespace Go.Proofs.YtjaejnacdanpkaaDoor
open Go.RowKit

/-- The marks that a function's ranges have left, in blocks below nB. -/
def Marks (n0 nB : Nat) (ds : List Deferred) (w : World) : Prop :=
  ∃ Ds : List Nat, ds = Ds.map (fun D => { target := .collected D, args := #[] }) ∧ Ds.Nodup ∧ ∀ D ∈ Ds, n0 ≤ D ∧ D < nB ∧ w.heap[D]? = some (.deferred (some []))

theorem Marks.nil (n0 nB : Nat) (w : World) : Marks n0 nB [] w := ⟨[], rfl, List.nodup_nil, fun D h => absurd h (by simp)⟩
theorem Marks.mono {n0 nB nB' : Nat} {ds : List Deferred} {w : World} (h : Marks n0 nB ds w) (hn : nB ≤ nB') : Marks n0 nB' ds w := by
  obtain ⟨Ds, h1, h2, h3⟩ := h
  exact ⟨Ds, h1, h2, fun D hD => ⟨(h3 D hD).1, Nat.lt_of_lt_of_le (h3 D hD).2.1 hn, (h3 D hD).2.2⟩⟩
theorem Marks.turn {A : Nat → Obj → Prop} {n0 n1 nB : Nat} {ds : List Deferred} {w w' : World} (h : Marks n0 nB ds w) (ht : TurnT A n1 w w') (hA : ∀ b o, b < nB → A b o → ¬ book o) : Marks n0 nB ds w' := by
  obtain ⟨Ds, h1, h2, h3⟩ := h
  exact ⟨Ds, h1, h2, fun D hD => ⟨(h3 D hD).1, (h3 D hD).2.1, ht.2 _ _ (h3 D hD).2.2 (fun ha => hA _ _ (h3 D hD).2.1 ha trivial)⟩⟩
theorem Marks.push {n0 nB : Nat} {ds : List Deferred} {w : World} (h : Marks n0 nB ds w) {D : Nat} (hD : nB ≤ D) (hn : n0 ≤ D) (hk : w.heap[D]? = some (.deferred (some []))) :
    Marks n0 w.heap.size ({ target := .collected D, args := #[] } :: ds) w := by
  obtain ⟨Ds, h1, h2, h3⟩ := h
  have hlt := (Array.getElem?_eq_some_iff.1 hk).1
  refine ⟨D :: Ds, by rw [h1]; rfl, List.nodup_cons.2 ⟨fun hm => ?_, h2⟩, fun E hE => ?_⟩
  · have := (h3 D hm).2.1
    omega
  · rcases List.mem_cons.1 hE with rfl | hE
    · exact ⟨hn, hlt, hk⟩
    · exact ⟨(h3 E hE).1, by have := (h3 E hE).2.1; omega, (h3 E hE).2.2⟩


/-- The way out past the marks. -/
theorem leaves_marksV {P : Program} {n n0 : Nat} {fn : Func} {tmps : Array Value} {R : Ending → World → Prop} {v : Value} : ∀ (Ds : List Nat) (w : World), Ds.Nodup → (∀ D ∈ Ds, n0 ≤ D ∧ w.heap[D]? = some (.deferred (some []))) →
    (∀ w', TurnT (isBook n0) n0 w w' → (results fn tmps).run P w' = .ok v w' ∧ R (.returned v) w') → LeavesInM Fence.wide n P fn tmps R (Ds.map (fun D => { target := .collected D, args := #[] })) .returning w
  | [], w, _, _, h => ⟨_, (h w (TurnT.refl _ _ _)).1, (h w (TurnT.refl _ _ _)).2⟩
  | D :: Ds, w, hn, hD, h => by
    obtain ⟨hnd, hns⟩ := List.nodup_cons.1 hn
    have hk := (hD D List.mem_cons_self)
    have ht : TurnT (isBook n0) n0 w (w.putObj D (.deferred none)) := TurnT.putObj _ hk.2 ⟨hk.1, trivial⟩ hk.1
    refine ⟨by simp, .inl ⟨D, _, rfl, run_takeDeferred hk.2, ?_⟩⟩
    refine leaves_marksV Ds _ hns (fun E hE => ⟨(hD E (List.mem_cons_of_mem _ hE)).1, ?_⟩) (fun w' h' => h w' (ht.trans h'))
    have hne : E ≠ D := fun e => hnd (e ▸ hE)
    exact (World.putObj_heap_other hne).trans (hD E (List.mem_cons_of_mem _ hE)).2
theorem leave_marksV {P : Program} {n n0 : Nat} {fn : Func} {tmps : Array Value} {ds : List Deferred} {w : World} {R : Ending → World → Prop} {v : Value} {nB : Nat} (hm : Marks n0 nB ds w)
    (h : ∀ w', TurnT (isBook n0) n0 w w' → (results fn tmps).run P w' = .ok v w' ∧ R (.returned v) w') : bodyPostM Fence.wide n P fn R .ret { tmps, defers := ds } w := by
  obtain ⟨Ds, rfl, hnd, hD⟩ := hm
  exact leaves_marksV Ds w hnd (fun D h => ⟨(hD D h).1, (hD D h).2.2⟩) h

/-- What an iterator promises; a round may say 'no more'. -/
def IterS {α : Type} (P : Program) (n0 nB gf : Nat) (lb : Array Value) (encs : α → Array Value) (G : List α → α → World → Prop) (bA iA : Nat → Obj → Prop) (S : List α → World → Prop) (w : World) : Prop :=
  ∀ (l : Nat) (J Jx : List α → World → Prop) (W : World), Below w.heap.size w W →
    (∀ pre A B, J pre A → TurnT iA n0 A B → J pre B) → (∀ pre A B, Jx pre A → TurnT iA n0 A B → Jx pre B) →
    (∀ pre x W1, J pre W1 → G pre x W1 → YieldAt Fence.wide 0 P l (encs x) W1 fun e W' =>
      TurnT (fun b o => bA b o ∨ isBook nB b o) n0 W1 W' ∧ ((e = .returned (.bool true) ∧ J (pre ++ [x]) W') ∨ (e = .returned (.bool false) ∧ Jx (pre ++ [x]) W'))) →
    J [] W → Calls P gf (#[.func (.yield l) #[] #[]] ++ lb) W fun e W' => (∃ v, e = .returned v) ∧ ((∃ xs, S xs W' ∧ J xs W') ∨ ∃ xs, Jx xs W')

/-- How a round's body ends. -/
def QS {α : Type} (bA : Nat → Obj → Prop) (n0 : Nat) (I Ix : List α → World → Prop) (xs : List α) (W : World) : Exit → Act → World → Prop
  | .normal, _, W3 => TurnT bA n0 W W3 ∧ I xs W3
  | .ret, _, W3 => TurnT bA n0 W W3 ∧ Ix xs W3
  | _, _, _ => False

/-- The record of a loop. -/
abbrev mkRec (fn : FuncId) (tmps : Array Value) (ps : Array Tmp) (assign body : Code) (dfr : Nat) (st : LoopState) (pe : Option Code) : Loop :=
  { state := st, pending := pe, fn, tmps, params := ps, assign, body, defers := dfr }

theorem range_core {P : Program} {α : Type} {n0 nB : Nat} {ps : Array Tmp} {assign body : Code} {fn : FuncId} {tmps : Array Value} {dfr l gf : Nat} {lb : Array Value} {w W1 : World}
    {encs : α → Array Value} (hps : ∀ x, (encs x).size = ps.size) {G : List α → α → World → Prop} {bA iA : Nat → Obj → Prop} {S : List α → World → Prop} (hseq : IterS P n0 nB gf lb encs G bA iA S w)
    (hb1 : Below w.heap.size w W1) (hL1 : W1.heap[l]? = some (.loop (mkRec fn tmps ps assign body dfr .ready none))) (hlB : nB ≤ l) (hn : n0 ≤ nB) (hiA : ∀ b o, iA b o → ¬ book o) (hbA : ∀ b o, bA b o → ¬ book o)
    (I Ix : List α → World → Prop) (hI : ∀ pre A B, I pre A → TurnT (fun b o => iA b o ∨ isBook nB b o) n0 A B → I pre B) (hIx : ∀ pre A B, Ix pre A → TurnT (fun b o => iA b o ∨ isBook nB b o) n0 A B → Ix pre B)
    (hS : ∀ xs A B, S xs A → TurnT (isBook nB) n0 A B → S xs B)
    (E : World → Prop) (hE : ∀ (A : Nat → Obj → Prop) X Y, (∀ b o, A b o → ¬ book o) → TurnT A n0 X Y → E X → E Y) (hEl : ∀ X o, E X → E (X.putObj l o)) (h0 : I [] W1) (hE0 : E W1)
    (hround : ∀ pre x W, W.heap[l]? = some (.loop (mkRec fn tmps ps assign body dfr .ready none)) → I pre W → G pre x W → assign.wpIn (Fence.wide.inRound l) 0 P (Exit.then (fun a₁ W1 => TurnT bA n0 W W1 ∧ ∀ W2, TurnT (isBook nB) n0 W1 W2 → W2.heap.size = W1.heap.size → (∃ r, W2.heap[l]? = some (.loop r)) →
        body.wpIn (Fence.wide.inRound l) 0 P (QS bA n0 I Ix (pre ++ [x]) W2) a₁ W2) (fun _ _ _ => False))
      { tmps := (ps.zip (encs x)).foldl (fun t (p, v) => t.setIfInBounds p v) tmps, defers := [] } W) :
    Calls P gf (#[.func (.yield l) #[] #[]] ++ lb) W1 fun e W2 => (∃ v, e = .returned v) ∧ ∃ jump W4, (Instr.endLoop l).run P W2 = .ok jump W4 ∧ E W4 ∧
      ((jump = none ∧ ∃ xs, S xs W4 ∧ I xs W4) ∨ (jump = some .ret ∧ ∃ xs, Ix xs W4)) := by
  obtain ⟨rec, hrec⟩ : ∃ rec : LoopState → Option Code → Loop, rec = mkRec fn tmps ps assign body dfr := ⟨_, rfl⟩
  rw [← hrec] at hL1
  have keepL : ∀ {A : Nat → Obj → Prop} {X Y : World} {st : LoopState} {pe : Option Code}, (∀ b o, A b o → ¬ book o) → TurnT A n0 X Y → X.heap[l]? = some (.loop (rec st pe)) → Y.heap[l]? = some (.loop (rec st pe)) :=
    fun hA ht hl => ht.2 _ _ hl (fun h => hA _ _ h trivial)
  have putT : ∀ {X : World} {o : Obj} (o' : Obj), X.heap[l]? = some o → book o → TurnT (isBook nB) n0 X (X.putObj l o') := fun o' h hb => TurnT.putObj _ h ⟨hlB, hb⟩ (by omega)
  refine (hseq l (fun pre W => I pre W ∧ W.heap[l]? = some (.loop (rec .ready none)) ∧ E W) (fun pre W => Ix pre W ∧ W.heap[l]? = some (.loop (rec .done (some .ret))) ∧ E W) W1 hb1
    (fun pre A B hj ht => ⟨hI _ _ _ hj.1 (ht.mono fun b o h => .inl h), keepL hiA ht hj.2.1, hE _ _ _ hiA ht hj.2.2⟩) (fun pre A B hj ht => ⟨hIx _ _ _ hj.1 (ht.mono fun b o h => .inl h), keepL hiA ht hj.2.1, hE _ _ _ hiA ht hj.2.2⟩) ?_ ⟨h0, hL1, hE0⟩).mono ?_
  · rintro pre x W ⟨hi, hl, hE1⟩ hG
    have hy := run_yield (P := P) (args := encs x) hl (by rw [hrec]; exact hps x)
    rw [hrec] at hy
    refine ⟨fn, _, assign, body, hy, roundIn_of_wpIn trivial (wpIn_mono (hround pre x W (by rw [hl, hrec]) hi hG) ?_)⟩
    rintro e a1 W2 hp
    cases e with
    | normal =>
      obtain ⟨ht1, hbody⟩ := hp
      have hl2 := keepL hbA ht1 hl
      have hE2 := hE _ _ _ hbA ht1 hE1
      have hlt2 : l < W2.heap.size := (Array.getElem?_eq_some_iff.1 hl2).1
      have hput : TurnT (isBook nB) n0 W2 (W2.putObj l (.loop (rec .busy none))) := putT _ hl2 trivial
      have hbr : (Instr.beginRound l).run P W2 = .ok () (W2.putObj l (.loop (rec .busy none))) := by
        have := run_beginRound (P := P) hl2 (by rw [hrec]); rw [hrec] at this ⊢; exact this
      have hl3 : (W2.putObj l (.loop (rec .busy none))).heap[l]? = some (.loop (rec .busy none)) := World.putObj_heap_same hlt2
      refine ⟨_, hbr, wpIn_mono (hbody _ hput (by simp) ⟨_, hl3⟩) ?_⟩
      rintro e a3 W3 hq
      have fin : ∀ (I' : List α → World → Prop) (hI' : ∀ pre A B, I' pre A → TurnT (fun b o => iA b o ∨ isBook nB b o) n0 A B → I' pre B) (jp : Option Code), TurnT bA n0 (W2.putObj l (.loop (rec .busy none))) W3 ∧ I' (pre ++ [x]) W3 →
          (Instr.endRound l jp).run P W3 = .ok (.bool jp.isNone) (W3.putObj l (.loop (rec (if jp.isNone then .ready else .done) jp))) ∧
          I' (pre ++ [x]) (W3.putObj l (.loop (rec (if jp.isNone then .ready else .done) jp))) ∧
          (W3.putObj l (.loop (rec (if jp.isNone then .ready else .done) jp))).heap[l]? = some (.loop (rec (if jp.isNone then .ready else .done) jp)) ∧
          E (W3.putObj l (.loop (rec (if jp.isNone then .ready else .done) jp))) ∧
          TurnT (fun b o => bA b o ∨ isBook nB b o) n0 W (W3.putObj l (.loop (rec (if jp.isNone then .ready else .done) jp))) := by
        rintro I' hI' jp ⟨ht3, hi3⟩
        have hl4 := keepL hbA ht3 hl3
        have hlt4 : l < W3.heap.size := (Array.getElem?_eq_some_iff.1 hl4).1
        have hend : (Instr.endRound l jp).run P W3 = .ok (.bool jp.isNone) (W3.putObj l (.loop (rec (if jp.isNone then .ready else .done) jp))) := by
          have := run_endRound (P := P) jp hl4; rw [hrec] at this ⊢; exact this
        have hput2 : TurnT (isBook nB) n0 W3 (W3.putObj l (.loop (rec (if jp.isNone then .ready else .done) jp))) := putT _ hl4 trivial
        exact ⟨hend, hI' _ _ _ hi3 (hput2.mono fun b o h => .inr h), World.putObj_heap_same hlt4, hEl _ _ (hE _ _ _ hbA ht3 (hEl _ _ hE2)),
          (((ht1.mono fun b o h => .inl h).trans (hput.mono fun b o h => .inr h)).trans (ht3.mono fun b o h => .inl h)).trans (hput2.mono fun b o h => .inr h)⟩
      cases e with
      | normal =>
        obtain ⟨h1, h2, h3, h4, h5⟩ := fin I hI none hq
        exact ⟨_, _, h1, h5, .inl ⟨rfl, h2, h3, h4⟩⟩
      | ret =>
        obtain ⟨h1, h2, h3, h4, h5⟩ := fin Ix hIx (some .ret) hq
        exact ⟨_, _, h1, h5, .inr ⟨rfl, h2, h3, h4⟩⟩
      | _ => exact hq.elim
    | _ => exact hp.elim
  · rintro e W2 ⟨hv, h⟩
    refine ⟨hv, ?_⟩
    rcases h with ⟨xs, hSx, hi, hl, hE2⟩ | ⟨xs, hi, hl, hE2⟩
    · have hend := run_endLoop (P := P) hl (by rw [hrec]; simp)
      have hput : ∀ o', TurnT (isBook nB) n0 W2 (W2.putObj l o') := fun o' => putT o' hl trivial
      exact ⟨_, _, hend, hEl _ _ hE2, .inl ⟨by rw [hrec], xs, hS _ _ _ hSx (hput _), hI _ _ _ hi ((hput _).mono fun b o h => .inr h)⟩⟩
    · have hend := run_endLoop (P := P) hl (by rw [hrec]; simp)
      have hput : ∀ o', TurnT (isBook nB) n0 W2 (W2.putObj l o') := fun o' => putT o' hl trivial
      exact ⟨_, _, hend, hEl _ _ hE2, .inr ⟨by rw [hrec], xs, hIx _ _ _ hi ((hput _).mono fun b o h => .inr h)⟩⟩

/-- **The statement, outermost.** -/
theorem wpIn_rangeS {P : Program} {α : Type} {n n0 : Nat} {g : Operand} {ps : Array Tmp} {assign body : Code} {Q : Exit → Act → World → Prop} {a : Act} {w : World}
    {gf : Nat} {lb : Array Value} (hg : a.eval g = .func (.func gf) #[] lb) (eg : ∀ args w, (callFunc gf args).run P w = .ok (.enter gf args) w)
    {encs : α → Array Value} (hps : ∀ x, (encs x).size = ps.size) {G : List α → α → World → Prop} {bA iA : Nat → Obj → Prop} {S : List α → World → Prop} (hseq : IterS P n0 w.heap.size gf lb encs G bA iA S w)
    (hn0 : n0 ≤ w.heap.size) (hiA : ∀ b o, iA b o → ¬ book o) (hbA : ∀ b o, bA b o → ¬ book o)
    (I Ix : List α → World → Prop) (hI : ∀ pre A B, I pre A → TurnT (fun b o => iA b o ∨ isBook w.heap.size b o) n0 A B → I pre B) (hIx : ∀ pre A B, Ix pre A → TurnT (fun b o => iA b o ∨ isBook w.heap.size b o) n0 A B → Ix pre B)
    (hS : ∀ xs A B, S xs A → TurnT (isBook w.heap.size) n0 A B → S xs B) (h0 : I [] w)
    (hround : ∀ l pre x W, (∃ r, W.heap[l]? = some (.loop r)) → I pre W → G pre x W → assign.wpIn (Fence.wide.inRound l) 0 P (Exit.then (fun a₁ W1 => TurnT bA n0 W W1 ∧ ∀ W2, TurnT (isBook w.heap.size) n0 W1 W2 → W2.heap.size = W1.heap.size → (∃ r, W2.heap[l]? = some (.loop r)) →
        body.wpIn (Fence.wide.inRound l) 0 P (QS bA n0 I Ix (pre ++ [x]) W2) a₁ W2) (fun _ _ _ => False))
      { tmps := (ps.zip (encs x)).foldl (fun t (p, v) => t.setIfInBounds p v) a.tmps, defers := [] } W)
    (hdone : ∀ D xs W, w.heap.size ≤ D → S xs W → I xs W → W.heap[D]? = some (.deferred (some [])) → Q .normal { a with defers := { target := .collected D, args := #[] } :: a.defers } W)
    (hstop : ∀ D xs W, w.heap.size ≤ D → Ix xs W → W.heap[D]? = some (.deferred (some [])) → Q .ret { a with defers := { target := .collected D, args := #[] } :: a.defers } W) :
    (Code.rangeFunc g ps assign body).wpIn Fence.wide n P Q a w := by
  refine wpIn_rangeFunc ?_
  intro fn hfn
  obtain ⟨W1, hW1⟩ : ∃ W1, (w.alloc (.deferred (some []))).alloc (.loop (mkRec fn a.tmps ps assign body w.heap.size .ready none)) = W1 := ⟨_, rfl⟩
  have hL1 : W1.heap[w.heap.size + 1]? = some (.loop (mkRec fn a.tmps ps assign body w.heap.size .ready none)) := by
    rw [← hW1]; have := World.alloc_heap_new (w.alloc (.deferred (some []))) (.loop (mkRec fn a.tmps ps assign body w.heap.size .ready none)); rwa [World.size_alloc] at this
  have hK1 : W1.heap[w.heap.size]? = some (.deferred (some [])) := by
    rw [← hW1]; exact (Below.heap_alloc _ _ _ (by simp)).trans (World.alloc_heap_new w _)
  have hb1 : Below w.heap.size w W1 := by rw [← hW1]; exact ((Below.refl _ w).alloc (Nat.le_refl _) _).alloc (by simp) _
  have hI1 : I [] W1 := hI _ _ _ h0 (by rw [← hW1]; exact ((TurnT.refl _ n0 w).alloc hn0 _).alloc hn0 _)
  refine ⟨w.heap.size + 1, [{ target := .collected w.heap.size, args := #[] }], W1, { target := .fn (.func gf) lb, args := #[.func (.yield (w.heap.size + 1)) #[] #[]] }, W1, gf,
    #[.func (.yield (w.heap.size + 1)) #[] #[]] ++ lb, W1, ?_, ?_, fun _ _ => trivial, ?_, fun h => by simp [Fence.wide] at h, ?_⟩
  · rw [← hW1]; exact run_enterLoop_outer _ _ _ _ _
  · simp only [resolve, hg]
    simp [go_sem]
  · simp [invoke, go_sem, eg]
  · rw [callsIn_wide]
    refine (range_core (l := w.heap.size + 1) hps hseq hb1 hL1 (by omega) hn0 hiA hbA I Ix hI hIx hS (fun W => W.heap[w.heap.size]? = some (.deferred (some []))) (fun A X Y hA ht h => ht.2 _ _ h (fun h => hA _ _ h trivial))
      (fun X o h => (World.putObj_heap_other (by omega)).trans h) hI1 hK1 (fun pre x W hl => hround (w.heap.size + 1) pre x W ⟨_, hl⟩)).mono ?_
    rintro e W2 ⟨⟨v, rfl⟩, jump, W4, hend, hE, h⟩
    refine ⟨jump, W4, hend, ?_⟩
    rcases h with ⟨rfl, xs, h1, h2⟩ | ⟨rfl, xs, h1⟩
    · exact hdone _ xs _ (Nat.le_refl _) h1 h2 hE
    · exact wpIn_ret (hstop _ xs _ (Nat.le_refl _) h1 hE)

/-- **The statement within a round.** -/
theorem wpIn_rangeN {P : Program} {α : Type} {n n0 l0 : Nat} {g : Operand} {ps : Array Tmp} {assign body : Code} {Q : Exit → Act → World → Prop} {a : Act} {w : World} (hl0 : ∃ r, w.heap[l0]? = some (.loop r))
    {gf : Nat} {lb : Array Value} (hg : a.eval g = .func (.func gf) #[] lb) (eg : ∀ args w, (callFunc gf args).run P w = .ok (.enter gf args) w)
    {encs : α → Array Value} (hps : ∀ x, (encs x).size = ps.size) {G : List α → α → World → Prop} {bA iA : Nat → Obj → Prop} {S : List α → World → Prop} (hseq : IterS P n0 w.heap.size gf lb encs G bA iA S w)
    (hn0 : n0 ≤ w.heap.size) (hiA : ∀ b o, iA b o → ¬ book o) (hbA : ∀ b o, bA b o → ¬ book o)
    (I Ix : List α → World → Prop) (hI : ∀ pre A B, I pre A → TurnT (fun b o => iA b o ∨ isBook w.heap.size b o) n0 A B → I pre B) (hIx : ∀ pre A B, Ix pre A → TurnT (fun b o => iA b o ∨ isBook w.heap.size b o) n0 A B → Ix pre B)
    (hS : ∀ xs A B, S xs A → TurnT (isBook w.heap.size) n0 A B → S xs B) (h0 : I [] w)
    (hround : ∀ l pre x W, (∃ r, W.heap[l]? = some (.loop r)) → I pre W → G pre x W → assign.wpIn (Fence.wide.inRound l) 0 P (Exit.then (fun a₁ W1 => TurnT bA n0 W W1 ∧ ∀ W2, TurnT (isBook w.heap.size) n0 W1 W2 → W2.heap.size = W1.heap.size → (∃ r, W2.heap[l]? = some (.loop r)) →
        body.wpIn (Fence.wide.inRound l) 0 P (QS bA n0 I Ix (pre ++ [x]) W2) a₁ W2) (fun _ _ _ => False))
      { tmps := (ps.zip (encs x)).foldl (fun t (p, v) => t.setIfInBounds p v) a.tmps, defers := [] } W)
    (hdone : ∀ xs W, S xs W → I xs W → Q .normal a W)
    (hstop : ∀ xs W, Ix xs W → Q .ret a W) :
    (Code.rangeFunc g ps assign body).wpIn (Fence.wide.inRound l0) n P Q a w := by
  refine wpIn_rangeFunc ?_
  intro fn hfn
  obtain ⟨r0, hr0⟩ := hl0
  obtain ⟨W1, hW1⟩ : ∃ W1, w.alloc (.loop (mkRec fn a.tmps ps assign body r0.defers .ready none)) = W1 := ⟨_, rfl⟩
  have hL1 : W1.heap[w.heap.size]? = some (.loop (mkRec fn a.tmps ps assign body r0.defers .ready none)) := by rw [← hW1]; exact World.alloc_heap_new _ _
  have hb1 : Below w.heap.size w W1 := by rw [← hW1]; exact (Below.refl _ w).alloc (Nat.le_refl _) _
  have hI1 : I [] W1 := hI _ _ _ h0 (by rw [← hW1]; exact (TurnT.refl _ n0 w).alloc hn0 _)
  refine ⟨w.heap.size, [], W1, { target := .fn (.func gf) lb, args := #[.func (.yield w.heap.size) #[] #[]] }, W1, gf,
    #[.func (.yield w.heap.size) #[] #[]] ++ lb, W1, ?_, ?_, fun _ _ => trivial, ?_, fun h => by simp [Fence.wide, Fence.inRound] at h, ?_⟩
  · rw [← hW1]; exact run_enterLoop_inner hr0 _ _ _ _ _
  · simp only [resolve, hg]
    simp [go_sem]
  · simp [invoke, go_sem, eg]
  · rw [callsIn_wideR]
    refine (range_core (l := w.heap.size) hps hseq hb1 hL1 (Nat.le_refl _) hn0 hiA hbA I Ix hI hIx hS (fun _ => True) (fun _ _ _ _ _ _ => trivial)
      (fun _ _ _ => trivial) hI1 trivial (fun pre x W hl => hround w.heap.size pre x W ⟨_, hl⟩)).mono ?_
    rintro e W2 ⟨⟨v, rfl⟩, jump, W4, hend, -, h⟩
    refine ⟨jump, W4, hend, ?_⟩
    rcases h with ⟨rfl, xs, h1, h2⟩ | ⟨rfl, xs, h1⟩
    · exact hdone xs _ h1 h2
    · exact wpIn_ret (hstop xs _ h1)

end Go.Proofs.YtjaejnacdanpkaaDoor

namespace Go.Proofs.YtjaejnacdanpkaaDoor
open Go.RowKit

/-- What the iterator's boxes hold. -/
structure FillB (W : World) (bN bO bF bP g len cap : Nat) (ov : Value) (sa : Option Addr) (sl sc : Nat) (fv tv : Value) : Prop where
  hN : W.heap[bN]? = some (.cells #[.slice (some ⟨g, 0, none⟩) len cap] 22 (0, 0))
  hO : W.heap[bO]? = some (.cells #[ov] 82 (0, 0))
  hF : W.heap[bF]? = some (.cells #[.func (.func 76) #[] #[.pointer (some ⟨bN, 0, none⟩), .pointer (some ⟨bO, 0, none⟩), .pointer (some ⟨bF, 0, none⟩), .pointer (some ⟨bP, 0, none⟩)]] 99 (0, 0))
  hP : W.heap[bP]? = some (.cells #[.slice sa sl sc, fv, tv] 57 (0, 0))

/-- The list that is filled in. -/
def NowIs (g len cap : Nat) (W : World) (xs : List Int) : Prop := W.ownsRow 0 3 1 (.slice (some ⟨g, 0, none⟩) len cap) len (xs.map (Value.int .i64))

theorem TurnT.keepS {A : Nat → Obj → Prop} {n0 : Nat} {W W' : World} {S : Nat → Prop} (h : TurnT A n0 W W') (hS : ∀ b o, S b → W.heap[b]? = some o → ¬ A b o) : KeepS S W W' := fun b hb hlt => by
  have := h.2 b W.heap[b] (Array.getElem?_eq_getElem hlt) (hS b _ hb (Array.getElem?_eq_getElem hlt))
  rw [this, Array.getElem?_eq_getElem hlt]

theorem NowIs.keep {g len cap : Nat} {W W' : World} {xs : List Int} (h : NowIs g len cap W xs) (hk : W'.heap[g]? = W.heap[g]?) : NowIs g len cap W' xs :=
  ownsRow_keep (S := fun b => b = g) h (fun b hb => by simpa [Value.ownBlock] using hb.symm) (fun b hb _ => by rw [hb]; exact hk)
theorem NowIs.obj {g len cap : Nat} {W : World} {xs : List Int} (h : NowIs g len cap W xs) : ∃ c, W.heap[g]? = some (.cells c 3 (0, 0)) := by
  rcases h.2 with ⟨h2, _⟩ | ⟨g', cap', cur, hv, hb, hg, _⟩
  · cases h2
  · cases hv; exact ⟨_, hg⟩

theorem NowIs.at {g len cap : Nat} {W : World} {xs : List Int} (h : NowIs g len cap W xs) {j : Nat} (hj : j < xs.length) : W.cell? ⟨g, j, none⟩ = some (.int .i64 xs[j]) ∧ W.frozen? ⟨g, j, none⟩ = false := by
  have hl : (xs.map (Value.int .i64)).length = len := by simpa using h.1
  rw [List.length_map] at hl
  obtain ⟨g', cap', hv, _, _, _, h2⟩ := ownsRow_form h (by omega)
  cases hv
  have := h2 j (by simpa using hj)
  simpa using this
theorem NowIs.set {g len cap : Nat} {W : World} {xs : List Int} (h : NowIs g len cap W xs) (j : Nat) (x : Int) : NowIs g len cap (W.setCell ⟨g, j, none⟩ (.int .i64 x)) (xs.set j x) := by
  have := ownsRow_set h j (.int .i64 x)
  unfold NowIs
  rw [List.map_set]
  exact this
theorem NowIs.size {g len cap : Nat} {W : World} {xs : List Int} (h : NowIs g len cap W xs) : g < W.heap.size := by
  obtain ⟨c, hc⟩ := h.obj
  exact (Array.getElem?_eq_some_iff.1 hc).1
theorem set_mid (a r : List Int) (y x : Int) (i : Nat) (h : a.length = i) : (a ++ y :: r).set i x = a ++ x :: r := by
  subst h; simp

/-- One block of the list. -/
def blkF (r : List (Nat × Bool × Int)) (a : List Int) (v : Nat) : List (List Int) := (Cov.fillS r).map fun l => a ++ ((v : Int) :: l)
def donF (r : List (Nat × Bool × Int)) (a : List Int) (pre : List (List Int)) (v : Nat) : List (List Int) := pre ++ (List.range v).flatMap (blkF r a)
theorem donF_zero (r : List (Nat × Bool × Int)) (a : List Int) (pre : List (List Int)) : donF r a pre 0 = pre := by simp [donF]
theorem donF_succ (r : List (Nat × Bool × Int)) (a : List Int) (pre : List (List Int)) (v : Nat) : donF r a pre v ++ (Cov.fillS r).map (fun l => (a ++ [(v : Int)]) ++ l) = donF r a pre (v + 1) := by
  unfold donF
  rw [List.range_succ, List.flatMap_append, List.append_assoc]
  simp [blkF]
theorem donF_all (n : Nat) (x : Int) (r : List (Nat × Bool × Int)) (a : List Int) (pre : List (List Int)) : pre ++ (Cov.fillS ((n, true, x) :: r)).map (fun l => a ++ l) = donF r a pre n := by
  have e : Cov.fillS ((n, true, x) :: r) = (List.range n).flatMap fun (v : Nat) => (Cov.fillS r).map fun l => (v : Int) :: l := by rw [Cov.fillS]
  unfold donF
  rw [e, List.map_flatMap]
  congr 2
  funext v
  simp [blkF, List.map_map, Function.comp_def]
theorem donF_pre (r : List (Nat × Bool × Int)) (a : List Int) (pre : List (List Int)) {v n : Nat} (h : v ≤ n) : donF r a pre v <+: donF r a pre n := by
  obtain ⟨k, rfl⟩ : ∃ k, n = v + k := ⟨n - v, by omega⟩
  clear h
  induction k with
  | zero => exact List.prefix_refl _
  | succ k ih =>
    rw [← Nat.add_assoc, ← donF_succ]
    exact ih.trans (List.prefix_append _ _)
theorem fill_off (n : Nat) (x : Int) (r : List (Nat × Bool × Int)) (a : List Int) : (Cov.fillS ((n, false, x) :: r)).map (fun l => a ++ l) = (Cov.fillS r).map (fun l => (a ++ [x]) ++ l) := by
  have e : Cov.fillS ((n, false, x) :: r) = (Cov.fillS r).map fun l => x :: l := by rw [Cov.fillS]
  rw [e]
  simp [List.map_map, Function.comp_def]

/-- How fill$1 ends. -/
def FillPost (A : Nat → Obj → Prop) (n0 g len cap : Nat) (J Jx : List (List Int) → World → Prop) (all : List (List Int)) (now : List Int) (W : World) (e : Ending) (W' : World) : Prop :=
  TurnT A n0 W W' ∧ ((e = .returned (.bool true) ∧ J all W' ∧ NowIs g len cap W' now) ∨ (e = .returned (.bool false) ∧ ∃ xs, Jx xs W'))

set_option maxRecDepth 100000 in
set_option maxHeartbeats 4000000 in
theorem fill_at (ops : List (Nat × Bool × Int)) (hops : ∀ o ∈ ops, o.1 ≤ 8) (hlen : ops.length ≤ 8) (all : List (List Int)) (n0 nB bN bO bF bP g cap l fo : Nat) (lbo : Array Value) (sa : Option Addr) (sc : Nat) (fv tv : Value)
    (hg0 : n0 ≤ g) (bA : Nat → Obj → Prop) (hbAg : ∀ c fr, ¬ bA g (.cells c 3 fr)) (Kp : World → Prop)
    (hKp : ∀ X Y, Kp X → TurnT (fun b o => (bA b o ∨ isBook nB b o) ∨ b = g) n0 X Y → Kp Y)
    (hK1 : ∀ X, Kp X → FillB X bN bO bF bP g ops.length cap (.func (.func fo) #[] lbo) sa ops.length sc fv tv)
    (hK2 : ∀ X, Kp X → IntsV AnyB X (.slice sa ops.length sc) (szI (ops.map (·.1))))
    (ego : ∀ args w, (callFunc fo args).run Tryd.prog w = .ok (.enter fo args) w)
    (hK3 : ∀ X, Kp X → ∀ i (h : i < ops.length), Calls Tryd.prog fo (#[.int .i64 i] ++ lbo) X fun e w' => e = .returned (.bool ops[i].2.1) ∧ ∃ m, w' = X.drewN m)
    (J Jx : List (List Int) → World → Prop) (hJ : ∀ pre X Y, J pre X → TurnT (fun b o => b = g ∧ ¬ book o) n0 X Y → J pre Y)
    (hY : ∀ pre x W1, J pre W1 → (pre ++ [x] <+: all ∧ NowIs g ops.length cap W1 x) → YieldAt Fence.wide 0 Tryd.prog l #[.slice (some ⟨g, 0, none⟩) ops.length cap] W1 fun e W' =>
      TurnT (fun b o => bA b o ∨ isBook nB b o) n0 W1 W' ∧ ((e = .returned (.bool true) ∧ J (pre ++ [x]) W') ∨ (e = .returned (.bool false) ∧ Jx (pre ++ [x]) W'))) :
    ∀ (k i : Nat) (a : List Int) (pre : List (List Int)) (W : World), i + k = ops.length → a.length = i → pre ++ (Cov.fillS (ops.drop i)).map (fun l => a ++ l) <+: all → Kp W → J pre W → NowIs g ops.length cap W (a ++ (ops.drop i).map (·.2.2)) →
      Calls Tryd.prog 76 #[.int .i64 i, .func (.yield l) #[] #[], .pointer (some ⟨bN, 0, none⟩), .pointer (some ⟨bO, 0, none⟩), .pointer (some ⟨bF, 0, none⟩), .pointer (some ⟨bP, 0, none⟩)] W
        (FillPost (fun b o => (bA b o ∨ isBook nB b o) ∨ b = g) n0 g ops.length cap J Jx (pre ++ (Cov.fillS (ops.drop i)).map (fun l => a ++ l)) (a ++ (ops.drop i).map (·.2.2)) W)
  | 0, i, a, pre, W, hik, hai, hpre, hkp, hj, hnow => by
    obtain rfl : i = ops.length := by omega
    have hfb := hK1 W hkp
    have c0 := (one_cell hfb.hN).1
    have hd : ops.drop ops.length = [] := List.drop_length
    rw [hd] at hpre hnow ⊢
    have e1 : (Cov.fillS []).map (fun l => a ++ l) = [a] := by simp [Cov.fillS]
    rw [e1] at hpre ⊢
    simp only [List.map_nil, List.append_nil] at hnow ⊢
    obtain ⟨fn, tmps, assign, body, hyy, hR⟩ := hY pre a W hj ⟨hpre, hnow⟩
    have HR := hid hR
    have HN := hid hnow
    clear hpre hkp hj hnow hR hfb hY hK1 hK2 hK3 hKp hJ ego hd e1 hik hai
    rw [← callsIn_wide (n := 1)]
    refine callsIn_of_wp Tryd.func76 rfl trivial ?_ rfl
    simp only [Tryd.ntmps76, List.size_toArray, List.length_cons, List.length_nil, Nat.reduceAdd, Nat.reduceSub, Array.replicate_succ, Array.replicate_zero, List.push_toArray, List.append_toArray, List.nil_append, List.cons_append]
    gi_wp2
    refine (RoundIn.anyDepth rfl HR.out).mono ?_
    rintro e W2 ⟨ht, hres⟩
    have ht2 := ht.mono (A' := fun b o => (bA b o ∨ isBook nB b o) ∨ b = g) (fun b o h => .inl h)
    have HN2 : Hid (NowIs g ops.length cap W2 a) := hid (by
      obtain ⟨c, hc⟩ := HN.out.obj
      exact HN.out.keep ((ht.2 _ _ hc (by
        rintro (h | h)
        · exact hbAg _ _ h
        · simp [isBook, book] at h)).trans hc.symm))
    rcases hres with ⟨rfl, hj2⟩ | ⟨rfl, hj2⟩
    · have HP : Hid (FillPost (fun b o => (bA b o ∨ isBook nB b o) ∨ b = g) n0 g ops.length cap J Jx (pre ++ [a]) a W (.returned (.bool true)) W2) := hid ⟨ht2, .inl ⟨rfl, hj2, HN2.out⟩⟩
      clear ht hj2 ht2 HN2 HN HR hyy
      gi_wp2
      go_ret
      exact HP.out
    · have HP : Hid (FillPost (fun b o => (bA b o ∨ isBook nB b o) ∨ b = g) n0 g ops.length cap J Jx (pre ++ [a]) a W (.returned (.bool false)) W2) := hid ⟨ht2, .inr ⟨rfl, _, hj2⟩⟩
      clear ht hj2 ht2 HN2 HN HR hyy
      gi_wp2
      go_ret
      exact HP.out
  | k + 1, i, a, pre, W, hik, hai, hpre, hkp, hj, hnow => by
    have hil : i < ops.length := by omega
    obtain ⟨⟨n, op, x⟩, hop⟩ : ∃ o, o = ops[i] := ⟨_, rfl⟩
    have hdr : ops.drop i = (n, op, x) :: ops.drop (i + 1) := by rw [hop]; exact List.drop_eq_getElem_cons hil
    have hfb := hK1 W hkp
    have c0 := (one_cell hfb.hN).1
    have c1 := (one_cell hfb.hO).1
    have c2 := (one_cell hfb.hF).1
    have HOpen := hid (hK3 W hkp i hil)
    rw [← hop] at HOpen
    have HIH := hid (fill_at ops hops hlen all n0 nB bN bO bF bP g cap l fo lbo sa sc fv tv hg0 bA hbAg Kp hKp hK1 hK2 ego hK3 J Jx hJ hY k (i + 1))
    rw [hdr] at hpre hnow ⊢
    have HN := hid hnow
    have hi0 : (0 : Int) ≤ i := by omega
    have hil' : (i : Int) < ops.length := by omega
    have hop' := hid hop
    have hdr' := hid hdr
    have hpre' := hid hpre
    clear hnow hfb hY hop hdr hpre
    have hcast : ((i + 1 : Nat) : Int) = (i : Int) + 1 := by omega
    rw [hcast] at HIH
    have hal : (a ++ [x]).length = i + 1 := by simp [hai]
    have hnn := HN.out
    rw [List.map_cons] at hnn
    have hxl : i < (a ++ x :: (ops.drop (i + 1)).map (·.2.2)).length := by simp [hai]
    have hx := hnn.at hxl
    have hxe : (a ++ x :: (ops.drop (i + 1)).map (·.2.2))[i] = x := by subst hai; simp
    rw [hxe] at hx
    have hgs := hnn.size
    have HNN := hid hnn
    have HA := hid hal
    clear hcast hal hnn hxl hxe
    cases op with
    | false =>
      rw [← callsIn_wide (n := 1)]
      refine callsIn_of_wp Tryd.func76 rfl trivial ?_ rfl
      simp only [Tryd.ntmps76, List.size_toArray, List.length_cons, List.length_nil, Nat.reduceAdd, Nat.reduceSub, Array.replicate_succ, Array.replicate_zero, List.push_toArray, List.append_toArray, List.nil_append, List.cons_append]
      gi_wp2
      refine ⟨trivial, callsIn_wide.2 (HOpen.out.mono ?_)⟩
      rintro e w' ⟨rfl, m, hW'⟩
      have htW : TurnT (fun b o => (bA b o ∨ isBook nB b o) ∨ b = g) n0 W w' := by rw [hW']; exact (TurnT.refl _ _ _).drewN m
      have hkp' : Kp w' := hKp _ _ hkp htW
      have hj' : J pre w' := hJ _ _ _ hj (by rw [hW']; exact (TurnT.refl _ _ _).drewN m)
      have hnn' : NowIs g ops.length cap w' (a ++ x :: (ops.drop (i + 1)).map (·.2.2)) := HNN.out.keep (by rw [hW']; rfl)
      have c0 := (one_cell (hK1 w' hkp').hN).1
      have c1 := (one_cell (hK1 w' hkp').hO).1
      have c2 := (one_cell (hK1 w' hkp').hF).1
      have HW' := hid hW'
      clear hW'
      gi_wp2
      have hoff := fill_off n x (ops.drop (i + 1)) a
      refine ⟨trivial, callsIn_wide.2 ((HIH.out (a ++ [x]) pre w' (by omega) HA.out (by have := hpre'.out; rw [hoff] at this; exact this) hkp' hj' (by simpa using hnn')).mono ?_)⟩
      rintro e W2 ⟨ht0, hres⟩
      have ht := htW.trans ht0
      rw [← hoff] at hres
      have e2 : a ++ [x] ++ (ops.drop (i + 1)).map (·.2.2) = a ++ (((n, false, x) :: ops.drop (i + 1)).map (·.2.2)) := by simp
      rw [e2] at hres
      have HP : Hid (FillPost (fun b o => (bA b o ∨ isBook nB b o) ∨ b = g) n0 g ops.length cap J Jx (pre ++ (Cov.fillS ((n, false, x) :: ops.drop (i + 1))).map (fun l => a ++ l)) (a ++ ((n, false, x) :: ops.drop (i + 1)).map (·.2.2)) W e W2) := hid ⟨ht, hres⟩
      have he : (∃ b, e = .returned (.bool b)) := by rcases hres with ⟨h, _⟩ | ⟨h, _⟩ <;> exact ⟨_, h⟩
      obtain ⟨b, rfl⟩ := he
      clear ht hres hoff e2 HIH HNN HN hpre' HA
      gi_wp2
      go_ret
      exact HP.out
    | true =>
      have hsz := hK2 W hkp
      obtain ⟨u, hcs, -, hu⟩ := hsz.at (j := i) (by simpa using hil)
      have hui : (szI (ops.map (·.1)))[i]'(by simpa using hil) = (n : Int) := by simp [← hop'.out]
      rw [hui] at hu
      subst hu
      have c3 := cell_of_row _ _ 0 _ _ (0, 0) (hK1 W hkp).hP
      simp only [List.getElem?_toArray, List.getElem?_cons_zero] at c3
      obtain ⟨sa', sc', es, hok, -, -⟩ := hsz.form
      have hszl : (szI (ops.map (·.1))).length = ops.length := by simp
      rw [hszl] at es hok
      cases es
      have hn8 : n ≤ 8 := by have := hops _ (List.getElem_mem hil); rw [← hop'.out] at this; exact this
      clear hsz hui
      have hall : pre ++ (Cov.fillS ((n, true, x) :: ops.drop (i + 1))).map (fun l => a ++ l) = donF (ops.drop (i + 1)) a pre n := donF_all n x (ops.drop (i + 1)) a pre
      rw [hall]
      have hpre2 := hpre'.out
      rw [hall] at hpre2
      have HPRE := hid hpre2
      clear hall hpre2 hpre'
      rw [← callsIn_wide (n := 1)]
      refine callsIn_of_wp Tryd.func76 rfl trivial ?_ rfl
      simp only [Tryd.ntmps76, List.size_toArray, List.length_cons, List.length_nil, Nat.reduceAdd, Nat.reduceSub, Array.replicate_succ, Array.replicate_zero, List.push_toArray, List.append_toArray, List.nil_append, List.cons_append]
      gi_wp2
      refine ⟨trivial, callsIn_wide.2 (HOpen.out.mono ?_)⟩
      rintro e w' ⟨rfl, m, hW'⟩
      have htW : TurnT (fun b o => (bA b o ∨ isBook nB b o) ∨ b = g) n0 W w' := by rw [hW']; exact (TurnT.refl _ _ _).drewN m
      have hkp' : Kp w' := hKp _ _ hkp htW
      have hj' : J pre w' := hJ _ _ _ hj (by rw [hW']; exact (TurnT.refl _ _ _).drewN m)
      have hnn' : NowIs g ops.length cap w' (a ++ x :: (ops.drop (i + 1)).map (·.2.2)) := HNN.out.keep (by rw [hW']; rfl)
      have HS0 : Hid (Kp w' ∧ J (donF (ops.drop (i + 1)) a pre 0) w' ∧ NowIs g ops.length cap w' (a ++ x :: (ops.drop (i + 1)).map (·.2.2)) ∧ TurnT (fun b o => (bA b o ∨ isBook nB b o) ∨ b = g) n0 W w') := hid ⟨hkp', by rw [donF_zero]; exact hj', hnn', htW⟩
      have hxf0 := hx.1
      have c0' := (one_cell (hK1 w' hkp').hN).1
      have c1' := (one_cell (hK1 w' hkp').hO).1
      have c2' := (one_cell (hK1 w' hkp').hF).1
      have kc : ∀ {p v}, W.cell? p = some v → w'.cell? p = some v := fun h => by rw [hW']; exact h
      have c3' := kc c3
      have hcs' := kc hcs
      have hxf := kc hxf0
      clear kc hW' c0 c1 c2 c3 hcs hxf0 hx hkp hj htW hkp' hj' hnn'
      gi_wp2
      clear HNN c0' c1' c2' c3' hcs' hxf
      gi_loopw [36] (fun c wr => ∃ v : Nat, v ≤ n ∧ c = .int .i64 v ∧ ∃ y : Int, Hid (Kp wr ∧ J (donF (ops.drop (i + 1)) a pre v) wr ∧ NowIs g ops.length cap wr (a ++ y :: (ops.drop (i + 1)).map (·.2.2)) ∧ TurnT (fun b o => (bA b o ∨ isBook nB b o) ∨ b = g) n0 W wr)) (fun c _ => n - (intOf c).toNat)
      case atStart => exact ⟨0, by omega, rfl, x, HS0⟩
      case round =>
        obtain ⟨v, hv, rfl, y, HS⟩ := hrel
        obtain ⟨hkp, hj, hnow, htt⟩ := HS.out
        have c0 := (one_cell (hK1 wr hkp).hN).1
        have hyl : i < (a ++ y :: (ops.drop (i + 1)).map (·.2.2)).length := by simp [hai]
        have hx := hnow.at hyl
        obtain ⟨hx1, hf⟩ := hx
        have hgs := hnow.size
        by_cases hlt : v < n
        · have hlt' : (v : Int) < n := by omega
          have hv0 : (0 : Int) ≤ v := by omega
          obtain ⟨c, hc⟩ := hnow.obj
          have T1 : TurnT (fun b o => b = g ∧ ¬ book o) n0 wr (wr.setCell ⟨g, i, none⟩ (.int .i64 v)) := TurnT.setCell (TurnT.refl _ _ _) (p := ⟨g, i, none⟩) hc ⟨rfl, by simp [book]⟩ hg0 _
          have T2 := T1.mono (A' := fun b o => (bA b o ∨ isBook nB b o) ∨ b = g) (fun b o h => .inr h.1)
          have hkp2 := hKp _ _ hkp T2
          have c2 := (one_cell (hK1 _ hkp2).hF).1
          have H2 : Hid (Kp (wr.setCell ⟨g, i, none⟩ (.int .i64 v)) ∧ J (donF (ops.drop (i + 1)) a pre v) (wr.setCell ⟨g, i, none⟩ (.int .i64 v)) ∧ NowIs g ops.length cap (wr.setCell ⟨g, i, none⟩ (.int .i64 v)) (a ++ (v : Int) :: (ops.drop (i + 1)).map (·.2.2)) ∧ TurnT (fun b o => (bA b o ∨ isBook nB b o) ∨ b = g) n0 W (wr.setCell ⟨g, i, none⟩ (.int .i64 v))) :=
            hid ⟨hkp2, hJ _ _ _ hj T1, by have := hnow.set i v; rw [set_mid _ _ _ _ _ hai] at this; exact this, htt.trans T2⟩
          clear hkp hj hnow htt T1 T2 hkp2 HS
          gi_wp2
          generalize hW3 : wr.setCell ⟨g, i, none⟩ (.int .i64 v) = W3 at *
          clear hW3 c2 hx1 hf hc
          obtain ⟨k1, k2, k3, k4⟩ := H2.out
          have hsucc := donF_succ (ops.drop (i + 1)) a pre v
          refine ⟨trivial, callsIn_wide.2 ((HIH.out (a ++ [(v : Int)]) (donF (ops.drop (i + 1)) a pre v) W3 (by omega) (by simp [hai]) (by rw [hsucc]; exact (donF_pre _ _ _ hlt).trans HPRE.out) k1 k2 (by simpa using k3)).mono ?_)⟩
          rintro e W4 ⟨ht, hres⟩
          rw [hsucc] at hres
          have e2 : a ++ [(v : Int)] ++ (ops.drop (i + 1)).map (·.2.2) = a ++ (v : Int) :: (ops.drop (i + 1)).map (·.2.2) := by simp
          rw [e2] at hres
          have htt4 := k4.trans ht
          have hkp4 := hKp _ _ k1 ht
          rcases hres with ⟨rfl, hj4, hn4⟩ | ⟨rfl, hj4⟩
          · have H4 := hid (And.intro hkp4 (And.intro hj4 (And.intro hn4 htt4)))
            clear ht hsucc e2 htt4 hkp4 hj4 hn4 k1 k2 k3 k4 H2 HIH
            gi_wp2
            go_roundw
            case rel => exact ⟨v + 1, by omega, by go_num, v, H4⟩
            case measure => simp [intOf]; omega
          · have HP : Hid (FillPost (fun b o => (bA b o ∨ isBook nB b o) ∨ b = g) n0 g ops.length cap J Jx (donF (ops.drop (i + 1)) a pre n) (a ++ ((n, true, x) :: ops.drop (i + 1)).map (·.2.2)) W (.returned (.bool false)) W4) := hid ⟨htt4, .inr ⟨rfl, hj4⟩⟩
            clear ht hsucc e2 htt4 hkp4 hj4 k1 k2 k3 k4 H2 HIH
            gi_wp2
            go_ret
            exact HP.out
        · obtain rfl : v = n := by omega
          obtain ⟨c, hc⟩ := hnow.obj
          have T1 : TurnT (fun b o => b = g ∧ ¬ book o) n0 wr (wr.setCell ⟨g, i, none⟩ (.int .i64 x)) := TurnT.setCell (TurnT.refl _ _ _) (p := ⟨g, i, none⟩) hc ⟨rfl, by simp [book]⟩ hg0 _
          have T2 := T1.mono (A' := fun b o => (bA b o ∨ isBook nB b o) ∨ b = g) (fun b o h => .inr h.1)
          have HP : Hid (FillPost (fun b o => (bA b o ∨ isBook nB b o) ∨ b = g) n0 g ops.length cap J Jx (donF (ops.drop (i + 1)) a pre v) (a ++ ((v, true, x) :: ops.drop (i + 1)).map (·.2.2)) W (.returned (.bool true)) (wr.setCell ⟨g, i, none⟩ (.int .i64 x))) := hid ⟨htt.trans T2, .inl ⟨rfl, hJ _ _ _ hj T1, by
            have := hnow.set i x; rw [set_mid _ _ _ _ _ hai] at this; exact this⟩⟩
          clear hkp hj hnow htt T1 T2 HS HIH
          gi_wp2
          go_ret
          exact HP.out

end Go.Proofs.YtjaejnacdanpkaaDoor

namespace Go.Proofs.YtjaejnacdanpkaaDoor
open Go.RowKit

set_option maxRecDepth 100000 in
set_option maxHeartbeats 1000000 in
/-- The iterator itself. -/
theorem fill2_any (bF l : Nat) (i0 : Array Value) (R : World → Prop) (W : World) (hF : W.heap[bF]? = some (.cells #[.func (.func 76) #[] i0] 99 (0, 0)))
    (h : Calls Tryd.prog 76 (#[.int .i64 0, .func (.yield l) #[] #[]] ++ i0) W fun e W' => (∃ v, e = .returned v) ∧ R W') :
    Calls Tryd.prog 77 #[.func (.yield l) #[] #[], .pointer (some ⟨bF, 0, none⟩)] W fun e W' => (∃ v, e = .returned v) ∧ R W' := by
  have c0 := (one_cell hF).1
  have H := hid h
  clear hF h
  rw [← callsIn_wide (n := 1)]
  refine callsIn_of_wp Tryd.func77 rfl trivial ?_ rfl
  simp only [Tryd.ntmps77, List.size_toArray, List.length_cons, List.length_nil, Nat.reduceAdd, Nat.reduceSub, Array.replicate_succ, Array.replicate_zero, List.push_toArray, List.append_toArray, List.nil_append, List.cons_append]
  gi_wp2
  refine ⟨trivial, callsIn_wide.2 (H.out.mono ?_)⟩
  rintro e W2 ⟨⟨v, rfl⟩, hR⟩
  have HR := hid hR
  clear hR H
  gi_wp2
  go_end0
  exact ⟨⟨_, rfl⟩, HR.out⟩

theorem FillB.turn {A : Nat → Obj → Prop} {n0 : Nat} {W W' : World} {bN bO bF bP g len cap : Nat} {ov : Value} {sa : Option Addr} {sl sc : Nat} {fv tv : Value} (h : FillB W bN bO bF bP g len cap ov sa sl sc fv tv) (ht : TurnT A n0 W W')
    (hA : ∀ b c t fr, (b = bN ∨ b = bO ∨ b = bF ∨ b = bP) → t ≠ 3 → ¬ A b (.cells c t fr)) : FillB W' bN bO bF bP g len cap ov sa sl sc fv tv :=
  ⟨ht.2 _ _ h.hN (hA _ _ _ _ (by simp) (by decide)), ht.2 _ _ h.hO (hA _ _ _ _ (by simp) (by decide)), ht.2 _ _ h.hF (hA _ _ _ _ (by simp) (by decide)), ht.2 _ _ h.hP (hA _ _ _ _ (by simp) (by decide))⟩

/-- **What fill returns is an iterator.** -/
theorem fill_iter (ops : List (Nat × Bool × Int)) (hops : ∀ o ∈ ops, o.1 ≤ 8) (hlen : ops.length ≤ 8) (n0 nB bN bO bF bP g cap fo : Nat) (lbo : Array Value) (sa : Option Addr) (sc : Nat) (fv tv : Value) (w : World) (hn0 : n0 ≤ w.heap.size)
    (hg0 : n0 ≤ g) (bA : Nat → Obj → Prop) (hbA : ∀ b o, (b = bN ∨ b = bO ∨ b = bF ∨ b = bP ∨ b = g) → ¬ bA b o)
    (hfb : FillB w bN bO bF bP g ops.length cap (.func (.func fo) #[] lbo) sa ops.length sc fv tv) (hnow : NowIs g ops.length cap w (ops.map (·.2.2)))
    (hsz : IntsV (· < n0) w (.slice sa ops.length sc) (szI (ops.map (·.1))))
    (ego : ∀ args w, (callFunc fo args).run Tryd.prog w = .ok (.enter fo args) w)
    (hop : ∀ X, TurnT (fun b o => (bA b o ∨ isBook nB b o) ∨ b = g) n0 w X → ∀ i (h : i < ops.length), Calls Tryd.prog fo (#[.int .i64 i] ++ lbo) X fun e w' => e = .returned (.bool ops[i].2.1) ∧ ∃ m, w' = X.drewN m) :
    IterS (α := List Int) Tryd.prog n0 nB 77 #[.pointer (some ⟨bF, 0, none⟩)] (fun _ => #[.slice (some ⟨g, 0, none⟩) ops.length cap])
      (fun pre x W => pre ++ [x] <+: Cov.fillS ops ∧ NowIs g ops.length cap W x) bA (fun b o => b = g ∧ ¬ book o) (fun xs _ => xs = Cov.fillS ops) w := by
  intro l J Jx W hb hJ hJx hY h0
  have hne : ∀ {b : Nat} {c : Array Value} {t : TypeId} {fr : Nat × Nat}, w.heap[b]? = some (.cells c t fr) → t ≠ 3 → b ≠ g := by
    rintro b c t fr h1 h2 rfl
    obtain ⟨c', h3⟩ := hnow.obj
    rw [h1] at h3
    cases h3
    exact h2 rfl
  have hAz : ∀ b c t fr, (b = bN ∨ b = bO ∨ b = bF ∨ b = bP) → t ≠ 3 → ¬ ((bA b (.cells c t fr) ∨ isBook nB b (.cells c t fr)) ∨ b = g) := by
    rintro b c t fr hb ht ((h | h) | h)
    · exact hbA b _ (by rcases hb with h | h | h | h <;> simp [h]) h
    · simp [isBook, book] at h
    · rcases hb with rfl | rfl | rfl | rfl
      · exact hne hfb.hN (by decide) h
      · exact hne hfb.hO (by decide) h
      · exact hne hfb.hF (by decide) h
      · exact hne hfb.hP (by decide) h
  have hk0 : TurnT (fun b o => (bA b o ∨ isBook nB b o) ∨ b = g) n0 w W := TurnT.of_below hb hn0
  have hfW := hfb.turn hk0 hAz
  have hnW : NowIs g ops.length cap W (ops.map (·.2.2)) := hnow.keep (hb.block g hnow.size)
  refine fill2_any bF l _ (fun W' => (∃ xs, xs = Cov.fillS ops ∧ J xs W') ∨ ∃ xs, Jx xs W') W hfW.hF ?_
  have H := fill_at ops hops hlen (Cov.fillS ops) n0 nB bN bO bF bP g cap l fo lbo sa sc fv tv hg0 bA (fun c fr => hbA _ _ (by simp)) (fun X => TurnT (fun b o => (bA b o ∨ isBook nB b o) ∨ b = g) n0 w X) (fun X Y h1 h2 => h1.trans h2)
    (fun X h => hfb.turn h hAz) (fun X h => IntsV.mono (IntsV.keep hsz (KeepS.of_below h.1 (fun _ h => h))) (fun _ _ _ => trivial)) ego hop J Jx hJ hY ops.length 0 [] [] W (by omega) rfl (by simp) hk0 h0 (by simpa using hnW)
  refine Calls.mono H ?_
  rintro e W' ⟨_, h⟩
  simp only [List.drop_zero, List.nil_append, List.map_id'] at h
  rcases h with ⟨rfl, hj, _⟩ | ⟨rfl, hj⟩
  · exact ⟨⟨_, rfl⟩, .inl ⟨_, rfl, hj⟩⟩
  · exact ⟨⟨_, rfl⟩, .inr hj⟩

@[go_sem] theorem run_store_func {P : Program} {w : World} {a : Addr} {m : Mode} (f : Fn) (i l : Array Value) : (store a (.func f i l) m).run P w = stored P w a (.func f i l) m := run_store P w a _ m rfl

set_option maxRecDepth 100000 in
set_option maxHeartbeats 1000000 in
theorem fill_any (c : List Int) (hc0 : 0 < c.length) (hc8 : c.length ≤ 8) (sa : Option Addr) (sl sc : Nat) (fv tv cv ov : Value) (hfv : ∃ a n k, fv = .slice a n k) (htv : ∃ t, tv = .int .i64 t) (hov : ∃ f i l, ov = .func f i l) (S : Nat → Prop) (w : World) (hcv : IntsV S w cv c) :
    Calls Tryd.prog 59 #[.agg #[.slice sa sl sc, fv, tv], cv, ov] w fun e w' => ∃ bN bO bF bP g cap, e = .returned (.func (.func 77) #[] #[.pointer (some ⟨bF, 0, none⟩)]) ∧
      FillB w' bN bO bF bP g c.length cap ov sa sl sc fv tv ∧ NowIs g c.length cap w' c ∧ Below w.heap.size w w' ∧ (w.heap.size ≤ bN ∧ w.heap.size ≤ bO ∧ w.heap.size ≤ bF ∧ w.heap.size ≤ bP ∧ w.heap.size ≤ g) := by
  obtain ⟨fa, fl, fc, rfl⟩ := hfv
  obtain ⟨t, rfl⟩ := htv
  obtain ⟨of, oi, ol, rfl⟩ := hov
  obtain ⟨a, cap, rfl, -, -, -⟩ := hcv.form
  have hb1 : Below w.heap.size w ((w.alloc (.cells #[.slice sa sl sc, .slice fa fl fc, .int .i64 t] 57)).alloc (.cells #[.func of oi ol] 82)) := ((Below.refl _ _).alloc (Nat.le_refl _) _).alloc (by simp) _
  have HP : Hid (((w.alloc (.cells #[.slice sa sl sc, .slice fa fl fc, .int .i64 t] 57)).alloc (.cells #[.func of oi ol] 82)).heap[w.heap.size]? = some (.cells #[.slice sa sl sc, .slice fa fl fc, .int .i64 t] 57 (0, 0))) := hid (heap_step _ (heap_new _ _ rfl))
  have HO : Hid (((w.alloc (.cells #[.slice sa sl sc, .slice fa fl fc, .int .i64 t] 57)).alloc (.cells #[.func of oi ol] 82)).heap[w.heap.size + 1]? = some (.cells #[.func of oi ol] 82 (0, 0))) := hid (heap_new _ _ (by simp))
  have HC := hid (IntsV.keep hcv (KeepS.below hb1))
  have HB1 := hid hb1
  have hsz1 : ((w.alloc (.cells #[.slice sa sl sc, .slice fa fl fc, .int .i64 t] 57)).alloc (.cells #[.func of oi ol] 82)).heap.size = w.heap.size + 2 := by simp
  have HS1 := hid hsz1
  clear hcv hb1 hsz1
  go_enter Tryd.func59, Tryd.ntmps59
  go_wp2_with fail
  generalize hW1 : (w.alloc (.cells #[.slice sa sl sc, .slice fa fl fc, .int .i64 t] 57)).alloc (.cells #[.func of oi ol] 82) = W1 at *
  refine (clone_any c (by omega) _ S W1 HC.out).mono ?_
  rintro e w2 ⟨x, rfl, hx, hb2⟩
  obtain ⟨g, cg, rfl, h1, h2, -, -⟩ := ownsRow_form hx.1 hc0
  have hgB : W1.heap.size ≤ g := hx.2 g rfl
  have HN := hid (show NowIs g c.length cg w2 c from hx.1)
  have hs1 := HS1.out
  have hs2 := hb2.size
  have HB2 := hid hb2
  clear hx hb2 hW1 HC
  go_wp2
  generalize hV : Value.func (Fn.func 76) #[] _ = V at *
  have hbA : Below w2.heap.size w2 ((w2.alloc (.cells #[.slice (some ⟨g, 0, none⟩) c.length cg] 22)).alloc (.cells #[V] 99)) := ((Below.refl _ _).alloc (Nat.le_refl _) _).alloc (by simp) _
  have hN2 : ((w2.alloc (.cells #[.slice (some ⟨g, 0, none⟩) c.length cg] 22)).alloc (.cells #[V] 99)).heap[w2.heap.size]? = some (.cells #[.slice (some ⟨g, 0, none⟩) c.length cg] 22 (0, 0)) := heap_step _ (heap_new _ _ rfl)
  have hF1 : ((w2.alloc (.cells #[.slice (some ⟨g, 0, none⟩) c.length cg] 22)).alloc (.cells #[V] 99)).heap[w2.heap.size + 1]? = some (.cells #[V] 99 (0, 0)) := heap_new _ _ (by simp)
  have k2 := HB2.out
  have hgs := HN.out.size
  go_ret
  refine ⟨w2.heap.size, w.heap.size + 1, w2.heap.size + 1, w.heap.size, g, cg, rfl, ⟨hN2, ?_, ?_, ?_⟩, HN.out.keep (hbA.block g hgs), ?_, by omega, by omega, by omega, by omega, by omega⟩
  · exact (hbA.block _ (by omega)).trans ((k2.block _ (by omega)).trans HO.out)
  · rw [hF1, ← hV]
  · exact (hbA.block _ (by omega)).trans ((k2.block _ (by omega)).trans HP.out)
  · exact HB1.out.trans ((k2.trans (hbA.mono hs2)).mono (by omega))

end Go.Proofs.YtjaejnacdanpkaaDoor

namespace Go.Proofs.YtjaejnacdanpkaaDoor
open Go.RowKit

theorem rows1_any (c : List Int) (i : Nat) (hi : i < c.length) (cv : Value) (S : Nat → Prop) (bC : Nat) (W : World) (hb : W.heap[bC]? = some (.cells #[cv] 22 (0, 0))) (hc : IntsV S W cv c) :
    Calls Tryd.prog 74 #[.int .i64 i, .pointer (some ⟨bC, 0, none⟩)] W fun e w' => e = .returned (.bool (decide (c[i] = -1))) ∧ W = w' := by
  obtain ⟨a, cap, rfl, hok, hcap, hmax⟩ := hc.form
  obtain ⟨u, hu, -, rfl⟩ := hc.at hi
  have c0 := (one_cell hb).1
  have hi0 : (0 : Int) ≤ i := by omega
  have hi1 : (i : Int) < c.length := by omega
  generalize c[i] = x at *
  clear hc hb
  go_enter Tryd.func74, Tryd.ntmps74
  go_wp2
  go_ret
  exact ⟨by first | rfl | (congr 2), rfl⟩

set_option maxRecDepth 100000 in
set_option maxHeartbeats 1000000 in
theorem prows_any (c : List Int) (hc0 : 0 < c.length) (hc8 : c.length ≤ 8) (sa : Option Addr) (sl sc : Nat) (fv tv cv : Value) (hfv : ∃ a n k, fv = .slice a n k) (htv : ∃ t, tv = .int .i64 t) (S : Nat → Prop) (w : World) (hcv : IntsV S w cv c) :
    Calls Tryd.prog 57 #[.agg #[.slice sa sl sc, fv, tv], cv] w fun e w' => ∃ bN bO bF bP g cap bC, e = .returned (.func (.func 77) #[] #[.pointer (some ⟨bF, 0, none⟩)]) ∧
      FillB w' bN bO bF bP g c.length cap (.func (.func 74) #[] #[.pointer (some ⟨bC, 0, none⟩)]) sa sl sc fv tv ∧ NowIs g c.length cap w' c ∧ Below w.heap.size w w' ∧ (w.heap.size ≤ bN ∧ w.heap.size ≤ bO ∧ w.heap.size ≤ bF ∧ w.heap.size ≤ bP ∧ w.heap.size ≤ g) ∧
      w.heap.size ≤ bC ∧ w'.heap[bC]? = some (.cells #[cv] 22 (0, 0)) := by
  obtain ⟨fa, fl, fc, rfl⟩ := hfv
  obtain ⟨t, rfl⟩ := htv
  obtain ⟨a, cap, rfl, -, -, -⟩ := hcv.form
  have hb1 : Below w.heap.size w ((w.alloc (.cells #[.slice sa sl sc, .slice fa fl fc, .int .i64 t] 57)).alloc (.cells #[.slice a c.length cap] 22)) := ((Below.refl _ _).alloc (Nat.le_refl _) _).alloc (by simp) _
  have HC := hid (heap_new (k := w.heap.size + 1) (w.alloc (.cells #[.slice sa sl sc, .slice fa fl fc, .int .i64 t] 57)) (.cells #[.slice a c.length cap] 22) (by simp))
  have HP0 : ((w.alloc (.cells #[.slice sa sl sc, .slice fa fl fc, .int .i64 t] 57)).alloc (.cells #[.slice a c.length cap] 22)).heap[w.heap.size]? = some (.cells #[.slice sa sl sc, .slice fa fl fc, .int .i64 t] 57 (0, 0)) := heap_step _ (heap_new _ _ rfl)
  have hsz1 : ((w.alloc (.cells #[.slice sa sl sc, .slice fa fl fc, .int .i64 t] 57)).alloc (.cells #[.slice a c.length cap] 22)).heap.size = w.heap.size + 2 := by simp
  have HF := hid (fill_any c hc0 hc8 sa sl sc (.slice fa fl fc) (.int .i64 t) (.slice a c.length cap) (.func (.func 74) #[] #[.pointer (some ⟨w.heap.size + 1, 0, none⟩)]) ⟨_, _, _, rfl⟩ ⟨_, rfl⟩ ⟨_, _, _, rfl⟩ S _ (IntsV.keep hcv (KeepS.below hb1)))
  have HB1 := hid hb1
  have HS1 := hid hsz1
  clear hcv hb1 hsz1 HP0
  go_enter Tryd.func57, Tryd.ntmps57
  go_wp2_with fail
  refine HF.out.mono ?_
  rintro e w2 ⟨bN, bO, bF, bP, g, cg, rfl, h1, h2, h3, h4⟩
  have H1 := hid h1
  have H2 := hid h2
  have hs := HS1.out
  have hn2 : w2.heap[w.heap.size + 1]? = some (.cells #[.slice a c.length cap] 22 (0, 0)) := (h3.block _ (by omega)).trans HC.out
  have H3 := hid (HB1.out.trans (h3.mono (by omega)))
  have HN := hid hn2
  clear h1 h2 h3 HF HC hn2
  go_wp2
  go_ret
  exact ⟨bN, bO, bF, bP, g, cg, _, rfl, H1.out, H2.out, H3.out, ⟨by omega, by omega, by omega, by omega, by omega⟩, by omega, HN.out⟩

end Go.Proofs.YtjaejnacdanpkaaDoor
