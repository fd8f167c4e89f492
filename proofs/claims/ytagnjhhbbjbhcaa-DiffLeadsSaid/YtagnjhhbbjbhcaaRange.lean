/- A range over a function: what the iterator and the body may turn is said by the kinds of the objects. -/
import Derived.Test.YtagnjhhbbjbhcaaDraw
import Derived.Test.YtagnjhhbbjbhcaaTree
import Derived.RangeFuncNested
import Derived.RangeFuncBound
import Derived.RangeFuncCalls
import Derived.RangeFuncLeaves
import Derived.OwnWalkIn
import Derived.TacticsInMore
import Derived.LoopNIn
import Derived.LoopIn
namespace Go.Proofs.Ytagnjhhbbjbhcaa
open Go.RowKit

/-- Only objects of the kind A are turned, and nothing below n0. -/
def TurnT (A : Nat → Obj → Prop) (n0 : Nat) (W W' : World) : Prop := Below n0 W W' ∧ ∀ (b : Nat) (o : Obj), W.heap[b]? = some o → ¬ A b o → W'.heap[b]? = some o

theorem TurnT.refl (A : Nat → Obj → Prop) (n0 : Nat) (W : World) : TurnT A n0 W W := ⟨Below.refl _ _, fun _ _ h _ => h⟩
theorem TurnT.trans {A : Nat → Obj → Prop} {n0 : Nat} {W W1 W2 : World} (h : TurnT A n0 W W1) (k : TurnT A n0 W1 W2) : TurnT A n0 W W2 :=
  ⟨h.1.trans k.1, fun b o hb ha => k.2 b o (h.2 b o hb ha) ha⟩
theorem TurnT.mono {A A' : Nat → Obj → Prop} {n0 : Nat} {W W1 : World} (h : TurnT A n0 W W1) (hA : ∀ b o, A b o → A' b o) : TurnT A' n0 W W1 :=
  ⟨h.1, fun b o hb ha => h.2 b o hb (fun h => ha (hA b o h))⟩
theorem TurnT.putObj {A : Nat → Obj → Prop} {n0 : Nat} {W : World} {l : Nat} {o : Obj} (o' : Obj) (h : W.heap[l]? = some o) (ha : A l o) (hn : n0 ≤ l) : TurnT A n0 W (W.putObj l o') := by
  have hlt : l < W.heap.size := (Array.getElem?_eq_some_iff.1 h).1
  refine ⟨(Below.refl n0 W).grown (grownBy_putObj' W l o') (by omega) (fun k e => by cases e; omega), fun b o2 hb ha2 => ?_⟩
  by_cases e : b = l
  · subst e; rw [h] at hb; cases hb; exact absurd ha ha2
  · exact (World.putObj_heap_other e).trans hb
theorem TurnT.alloc {A : Nat → Obj → Prop} {n0 : Nat} {W W1 : World} (h : TurnT A n0 W W1) (hn : n0 ≤ W.heap.size) (o : Obj) : TurnT A n0 W (W1.alloc o) :=
  ⟨h.1.alloc (Nat.le_trans hn h.1.size) o, fun b o2 hb ha => (Below.heap_alloc W1 o b (Array.getElem?_eq_some_iff.1 (h.2 b o2 hb ha)).1).trans (h.2 b o2 hb ha)⟩
theorem TurnT.drewN {A : Nat → Obj → Prop} {n0 : Nat} {W W1 : World} (h : TurnT A n0 W W1) (m : Nat) : TurnT A n0 W (W1.drewN m) := ⟨below_drewN h.1 m, h.2⟩
theorem TurnT.setCell {A : Nat → Obj → Prop} {n0 : Nat} {W W1 : World} (h : TurnT A n0 W W1) {p : Addr} {o : Obj} (hp : W1.heap[p.block]? = some o) (ha : A p.block o) (hn : n0 ≤ p.block) (v : Value) : TurnT A n0 W (W1.setCell p v) := by
  refine h.trans ⟨(Below.refl _ _).setCell hn v, fun b o2 hb ha2 => ?_⟩
  by_cases e : b = p.block
  · subst e; rw [hp] at hb; cases hb; exact absurd ha ha2
  · exact (Below.heap_setCell _ _ _ _ e).trans hb
theorem TurnT.grown {A : Nat → Obj → Prop} {n0 : Nat} {W W1 W2 : World} {S : Nat → Prop} (h : TurnT A n0 W W1) (hn : n0 ≤ W.heap.size) (hg : Turns S W1 W2) (hS : ∀ b, S b → n0 ≤ b ∧ ∀ o, W1.heap[b]? = some o → A b o) : TurnT A n0 W W2 := by
  refine h.trans ⟨hg.below (Nat.le_trans hn h.1.size) (fun b hb => (hS b hb).1), fun b o hb ha => ?_⟩
  rw [hg.block b (fun hs => ha ((hS b hs).2 o hb)) (Array.getElem?_eq_some_iff.1 hb).1]
  exact hb

/-- The loop's own book. -/
def book : Obj → Prop
  | .loop _ => True
  | .deferred _ => True
  | _ => False
/-- The book of a loop that begins where nB blocks lie. -/
def isBook (nB : Nat) : Nat → Obj → Prop := fun b o => nB ≤ b ∧ book o
/-- Cells of the types of T. -/
def ofT (T : List TypeId) : Obj → Prop
  | .cells _ t _ => t ∈ T
  | _ => False
def cellsOf (T : List TypeId) : Nat → Obj → Prop := fun _ o => ofT T o
theorem cellsOf_book {T : List TypeId} (b : Nat) (o : Obj) (h : cellsOf T b o) : ¬ book o := by cases o <;> simp_all [cellsOf, ofT, book]

theorem TurnT.cell {A : Nat → Obj → Prop} {n0 : Nat} {W W1 : World} (h : TurnT A n0 W W1) {p : Addr} {v : Value} {c : Array Value} {t : TypeId} {fr : Nat × Nat} (hp : W.heap[p.block]? = some (.cells c t fr)) (ha : ¬ A p.block (.cells c t fr)) (hc : W.cell? p = some v) : W1.cell? p = some v := by
  rw [World.cell?_of_block (w := W) (by rw [h.2 _ _ hp ha, hp])]; exact hc

/-- What an iterator promises: it hands the x's of some xs to yield, one behind the other; J is what holds between two rounds. -/
def IterG {α : Type} (P : Program) (n n0 nB gf : Nat) (lb : Array Value) (encs : α → Array Value) (G : List α → α → World → Prop) (bA iA : Nat → Obj → Prop) (S : List α → World → Prop) (w : World) : Prop :=
  ∀ (l : Nat) (J : List α → World → Prop) (W : World), Below w.heap.size w W → (∀ pre A B, J pre A → TurnT iA n0 A B → J pre B) →
    (∀ pre x W1, J pre W1 → G pre x W1 → YieldAt Fence.wide (n - 1) P l (encs x) W1 fun e W' => e = .returned (.bool true) ∧ J (pre ++ [x]) W' ∧ TurnT (fun b o => bA b o ∨ isBook nB b o) n0 W1 W') →
    J [] W → CallsIn Fence.wide n P gf (#[.func (.yield l) #[] #[]] ++ lb) W fun e W' => (∃ v, e = .returned v) ∧ ∃ xs, S xs W' ∧ J xs W'

/-- **The law of the statement.** The body goes on in every round. -/
theorem wpIn_range {P : Program} {α : Type} {n n0 : Nat} {g : Operand} {ps : Array Tmp} {assign body : Code} {Q : Exit → Act → World → Prop} {a : Act} {w : World}
    {gf : Nat} {lb : Array Value} (hg : a.eval g = .func (.func gf) #[] lb) (eg : ∀ args w, (callFunc gf args).run P w = .ok (.enter gf args) w)
    {encs : α → Array Value} (hps : ∀ x, (encs x).size = ps.size) {G : List α → α → World → Prop} {bA iA : Nat → Obj → Prop} {S : List α → World → Prop} (hseq : IterG P (n - 1) n0 w.heap.size gf lb encs G bA iA S w)
    (hn0 : n0 ≤ w.heap.size) (hiA : ∀ b o, iA b o → ¬ book o) (hbA : ∀ b o, bA b o → ¬ book o)
    (I : List α → World → Prop) (hI : ∀ pre A B, I pre A → TurnT (fun b o => iA b o ∨ isBook w.heap.size b o) n0 A B → I pre B) (hS : ∀ xs A B, S xs A → TurnT (isBook w.heap.size) n0 A B → S xs B) (h0 : I [] w)
    (hround : ∀ l pre x W, w.heap.size ≤ W.heap.size → I pre W → G pre x W → assign.wpIn (Fence.wide.inRound l) (n - 1 - 1) P (Exit.then (fun a₁ W1 => TurnT bA n0 W W1 ∧ ∀ W2, TurnT (isBook w.heap.size) n0 W1 W2 → W2.heap.size = W1.heap.size →
        body.wpIn (Fence.wide.inRound l) (n - 1 - 1) P (QN fun _ W3 => TurnT bA n0 W2 W3 ∧ I (pre ++ [x]) W3) a₁ W2) (fun _ _ _ => False))
      { tmps := (ps.zip (encs x)).foldl (fun t (p, v) => t.setIfInBounds p v) a.tmps, defers := [] } W)
    (hdone : ∀ D xs W, w.heap.size ≤ D → S xs W → I xs W → W.heap[D]? = some (.deferred (some [])) → Q .normal { a with defers := { target := .collected D, args := #[] } :: a.defers } W) :
    (Code.rangeFunc g ps assign body).wpIn Fence.wide n P Q a w := by
  refine wpIn_rangeFunc ?_
  intro fn hfn
  obtain ⟨rec, hrec⟩ : ∃ rec : LoopState → Option Code → Loop, rec = fun st pe => { state := st, pending := pe, fn, tmps := a.tmps, params := ps, assign, body, defers := w.heap.size } := ⟨_, rfl⟩
  obtain ⟨W1, hW1⟩ : ∃ W1, (w.alloc (.deferred (some []))).alloc (.loop (rec .ready none)) = W1 := ⟨_, rfl⟩
  have hL1 : W1.heap[w.heap.size + 1]? = some (.loop (rec .ready none)) := by
    rw [← hW1]; have := World.alloc_heap_new (w.alloc (.deferred (some []))) (.loop (rec .ready none)); rwa [World.size_alloc] at this
  have hK1 : W1.heap[w.heap.size]? = some (.deferred (some [])) := by
    rw [← hW1]; exact (Below.heap_alloc _ _ _ (by simp)).trans (World.alloc_heap_new w _)
  have hb1 : Below w.heap.size w W1 := by rw [← hW1]; exact ((Below.refl _ w).alloc (Nat.le_refl _) _).alloc (by simp) _
  have hI1 : I [] W1 := hI _ _ _ h0 (by rw [← hW1]; exact ((TurnT.refl _ n0 w).alloc hn0 _).alloc hn0 _)
  refine ⟨w.heap.size + 1, [{ target := .collected w.heap.size, args := #[] }], W1, { target := .fn (.func gf) lb, args := #[.func (.yield (w.heap.size + 1)) #[] #[]] }, W1, gf,
    #[.func (.yield (w.heap.size + 1)) #[] #[]] ++ lb, W1, ?_, ?_, fun _ _ => trivial, ?_, fun h => by simp [Fence.wide] at h, ?_⟩
  · rw [← hW1, hrec]; exact run_enterLoop_outer _ _ _ _ _
  · simp only [resolve, hg]
    simp [go_sem]
  · simp [invoke, go_sem, eg]
  · have keepL : ∀ {A : Nat → Obj → Prop} {X Y : World} {st : LoopState} {pe : Option Code}, (∀ b o, A b o → ¬ book o) → TurnT A n0 X Y → X.heap[w.heap.size + 1]? = some (.loop (rec st pe)) → Y.heap[w.heap.size + 1]? = some (.loop (rec st pe)) :=
      fun hA ht hl => ht.2 _ _ hl (fun h => hA _ _ h trivial)
    have keepD : ∀ {A : Nat → Obj → Prop} {X Y : World}, (∀ b o, A b o → ¬ book o) → TurnT A n0 X Y → X.heap[w.heap.size]? = some (.deferred (some [])) → Y.heap[w.heap.size]? = some (.deferred (some [])) :=
      fun hA ht hl => ht.2 _ _ hl (fun h => hA _ _ h trivial)
    refine (hseq (w.heap.size + 1) (fun pre W => I pre W ∧ W.heap[w.heap.size + 1]? = some (.loop (rec .ready none)) ∧ W.heap[w.heap.size]? = some (.deferred (some []))) W1 hb1
      (fun pre A B hj ht => ⟨hI _ _ _ hj.1 (ht.mono fun b o h => .inl h), keepL hiA ht hj.2.1, keepD hiA ht hj.2.2⟩) ?_ ⟨hI1, hL1, hK1⟩).mono ?_
    · rintro pre x W ⟨hi, hl, hk⟩ hG
      have hlt : w.heap.size + 1 < W.heap.size := (Array.getElem?_eq_some_iff.1 hl).1
      have hy := run_yield (P := P) (args := encs x) hl (by rw [hrec]; exact hps x)
      rw [hrec] at hy
      refine ⟨fn, _, assign, body, hy, roundIn_of_wpIn hfn (wpIn_mono (hround _ pre x W (by omega) hi hG) ?_)⟩
      rintro e a1 W2 hp
      cases e with
      | normal =>
        obtain ⟨ht1, hbody⟩ := hp
        have hl2 := keepL hbA ht1 hl
        have hk2 := keepD hbA ht1 hk
        have hlt2 : w.heap.size + 1 < W2.heap.size := (Array.getElem?_eq_some_iff.1 hl2).1
        have hput : TurnT (isBook w.heap.size) n0 W2 (W2.putObj (w.heap.size + 1) (.loop (rec .busy none))) := TurnT.putObj _ hl2 ⟨by omega, trivial⟩ (by omega)
        have hbr : (Instr.beginRound (w.heap.size + 1)).run P W2 = .ok () (W2.putObj (w.heap.size + 1) (.loop (rec .busy none))) := by
          have := run_beginRound (P := P) hl2 (by rw [hrec]); rw [hrec] at this ⊢; exact this
        have hl3 : (W2.putObj (w.heap.size + 1) (.loop (rec .busy none))).heap[w.heap.size + 1]? = some (.loop (rec .busy none)) := World.putObj_heap_same hlt2
        have hk3 : (W2.putObj (w.heap.size + 1) (.loop (rec .busy none))).heap[w.heap.size]? = some (.deferred (some [])) := (World.putObj_heap_other (by omega)).trans hk2
        refine ⟨_, hbr, wpIn_mono (hbody _ hput (by simp)) ?_⟩
        rintro e a3 W3 hq
        cases e with
        | normal =>
          obtain ⟨ht3, hi3⟩ := hq
          have hl4 := keepL hbA ht3 hl3
          have hk4 := keepD hbA ht3 hk3
          have hlt4 : w.heap.size + 1 < W3.heap.size := (Array.getElem?_eq_some_iff.1 hl4).1
          have hend : (Instr.endRound (w.heap.size + 1) none).run P W3 = .ok (.bool true) (W3.putObj (w.heap.size + 1) (.loop (rec .ready none))) := by
            have := run_endRound (P := P) none hl4; rw [hrec] at this ⊢; exact this
          have hput2 : TurnT (isBook w.heap.size) n0 W3 (W3.putObj (w.heap.size + 1) (.loop (rec .ready none))) := TurnT.putObj _ hl4 ⟨by omega, trivial⟩ (by omega)
          exact ⟨_, _, hend, rfl, ⟨hI _ _ _ hi3 (hput2.mono fun b o h => .inr h), World.putObj_heap_same hlt4, (World.putObj_heap_other (by omega)).trans hk4⟩,
            (((ht1.mono fun b o h => .inl h).trans (hput.mono fun b o h => .inr h)).trans (ht3.mono fun b o h => .inl h)).trans (hput2.mono fun b o h => .inr h)⟩
        | _ => exact hq.elim
      | _ => exact hp.elim
    · rintro e W2 ⟨⟨v, rfl⟩, xs, hSx, hi, hl, hk⟩
      have hlt : w.heap.size + 1 < W2.heap.size := (Array.getElem?_eq_some_iff.1 hl).1
      have hend := run_endLoop (P := P) hl (by rw [hrec]; simp)
      have hput : ∀ o', TurnT (isBook w.heap.size) n0 W2 (W2.putObj (w.heap.size + 1) o') := fun o' => TurnT.putObj o' hl ⟨by omega, trivial⟩ (by omega)
      refine ⟨none, _, by rw [hrec] at hend; exact hend, ?_⟩
      exact hdone _ xs _ (Nat.le_refl _) (hS _ _ _ hSx (hput _)) (hI _ _ _ hi ((hput _).mono fun b o h => .inr h)) ((World.putObj_heap_other (by omega)).trans hk)

end Go.Proofs.Ytagnjhhbbjbhcaa
