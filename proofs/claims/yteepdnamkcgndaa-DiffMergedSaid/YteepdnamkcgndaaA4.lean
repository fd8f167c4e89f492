/- A range over a function: what the iterator and the body may turn is said by the kinds of the objects. The closure that hands a change on. The iterator over the changes of a kind. What the program's Diff wants beside: rows of changes under a range's turns; the marks of its loops. -/
import Derived.Test.YteepdnamkcgndaaA2
import Derived.Test.YteepdnamkcgndaaA1
import Derived.RangeFuncNested
import Derived.RangeFuncBound
import Derived.RangeFuncCalls
import Derived.RangeFuncLeaves
import Derived.OwnWalkIn
import Derived.TacticsInMore
import Derived.LoopNIn
import Derived.LoopIn
import Derived.Test.YteepdnamkcgndaaA3
namespace Go.Proofs.Yteepdnamkcgndaa
open Go.RowKit

/-- Only objects of the kind A are turned, and nothing below n0. -/
def TurnT (A : Nat → Obj → Prop) (n0 : Nat) (W W' : World) : Prop := Below n0 W W' ∧ ∀ (b : Nat) (o : Obj), W.heap[b]? = some o → ¬ A b o → W'.heap[b]? = some o

theorem TurnT.refl (A : Nat → Obj → Prop) (n0 : Nat) (W : World) : TurnT A n0 W W := ⟨Below.refl _ _, fun _ _ h _ => h⟩
theorem TurnT.trans {A : Nat → Obj → Prop} {n0 : Nat} {W W1 W2 : World} (h : TurnT A n0 W W1) (k : TurnT A n0 W1 W2) : TurnT A n0 W W2 :=
  ⟨h.1.trans k.1, fun b o hb ha => k.2 b o (h.2 b o hb ha) ha⟩
theorem TurnT.mono {A A' : Nat → Obj → Prop} {n0 : Nat} {W W1 : World} (h : TurnT A n0 W W1) (hA : ∀ b o, A b o → A' b o) : TurnT A' n0 W W1 :=
  ⟨h.1, fun b o hb ha => h.2 b o hb (fun h => ha (hA b o h))⟩
theorem TurnT.putObj {A : Nat → Obj → Prop} {n0 : Nat} {W : World} {l : Nat} {o : Obj} (o' : Obj) (h : W.heap[l]? = some o) (ha : A l o) (hn : n0 ≤ l) : TurnT A n0 W (W.putObj l o') := by
  have hlt : l < W.heap.size := (Array.getElem?_eq_some_iff.1 h).1
  refine ⟨(Below.refl n0 W).grown (grownBy_putObj' W l o') (by omega) (fun k e => by cases e; omega), fun b o2 hb ha2 => ?_⟩
  by_cases e : b = l
  · subst e; rw [h] at hb; cases hb; exact absurd ha ha2
  · exact (World.putObj_heap_other e).trans hb
theorem TurnT.alloc {A : Nat → Obj → Prop} {n0 : Nat} {W W1 : World} (h : TurnT A n0 W W1) (hn : n0 ≤ W.heap.size) (o : Obj) : TurnT A n0 W (W1.alloc o) :=
  ⟨h.1.alloc (Nat.le_trans hn h.1.size) o, fun b o2 hb ha => (Below.heap_alloc W1 o b (Array.getElem?_eq_some_iff.1 (h.2 b o2 hb ha)).1).trans (h.2 b o2 hb ha)⟩
theorem TurnT.drewN {A : Nat → Obj → Prop} {n0 : Nat} {W W1 : World} (h : TurnT A n0 W W1) (m : Nat) : TurnT A n0 W (W1.drewN m) := ⟨below_drewN h.1 m, h.2⟩
theorem TurnT.setCell {A : Nat → Obj → Prop} {n0 : Nat} {W W1 : World} (h : TurnT A n0 W W1) {p : Addr} {o : Obj} (hp : W1.heap[p.block]? = some o) (ha : A p.block o) (hn : n0 ≤ p.block) (v : Value) : TurnT A n0 W (W1.setCell p v) := by
  refine h.trans ⟨(Below.refl _ _).setCell hn v, fun b o2 hb ha2 => ?_⟩
  by_cases e : b = p.block
  · subst e; rw [hp] at hb; cases hb; exact absurd ha ha2
  · exact (Below.heap_setCell _ _ _ _ e).trans hb
theorem TurnT.grown {A : Nat → Obj → Prop} {n0 : Nat} {W W1 W2 : World} {S : Nat → Prop} (h : TurnT A n0 W W1) (hn : n0 ≤ W.heap.size) (hg : Turns S W1 W2) (hS : ∀ b, S b → n0 ≤ b ∧ ∀ o, W1.heap[b]? = some o → A b o) : TurnT A n0 W W2 := by
  refine h.trans ⟨hg.below (Nat.le_trans hn h.1.size) (fun b hb => (hS b hb).1), fun b o hb ha => ?_⟩
  rw [hg.block b (fun hs => ha ((hS b hs).2 o hb)) (Array.getElem?_eq_some_iff.1 hb).1]
  exact hb

/-- The loop's own book. -/
def book : Obj → Prop
  | .loop _ => True
  | .deferred _ => True
  | _ => False
/-- The book of a loop that begins where nB blocks lie. -/
def isBook (nB : Nat) : Nat → Obj → Prop := fun b o => nB ≤ b ∧ book o
/-- Cells of the types of T. -/
def ofT (T : List TypeId) : Obj → Prop
  | .cells _ t _ => t ∈ T
  | _ => False
def cellsOf (T : List TypeId) : Nat → Obj → Prop := fun _ o => ofT T o
theorem cellsOf_book {T : List TypeId} (b : Nat) (o : Obj) (h : cellsOf T b o) : ¬ book o := by cases o <;> simp_all [cellsOf, ofT, book]

theorem TurnT.cell {A : Nat → Obj → Prop} {n0 : Nat} {W W1 : World} (h : TurnT A n0 W W1) {p : Addr} {v : Value} {c : Array Value} {t : TypeId} {fr : Nat × Nat} (hp : W.heap[p.block]? = some (.cells c t fr)) (ha : ¬ A p.block (.cells c t fr)) (hc : W.cell? p = some v) : W1.cell? p = some v := by
  rw [World.cell?_of_block (w := W) (by rw [h.2 _ _ hp ha, hp])]; exact hc

/-- What an iterator promises: it hands the x's of some xs to yield, one behind the other; J is what holds between two rounds. -/
def IterG {α : Type} (P : Program) (n n0 nB gf : Nat) (lb : Array Value) (encs : α → Array Value) (G : List α → α → World → Prop) (bA iA : Nat → Obj → Prop) (S : List α → World → Prop) (w : World) : Prop :=
  ∀ (l : Nat) (J : List α → World → Prop) (W : World), Below w.heap.size w W → (∀ pre A B, J pre A → TurnT iA n0 A B → J pre B) →
    (∀ pre x W1, J pre W1 → G pre x W1 → YieldAt Fence.wide (n - 1) P l (encs x) W1 fun e W' => e = .returned (.bool true) ∧ J (pre ++ [x]) W' ∧ TurnT (fun b o => bA b o ∨ isBook nB b o) n0 W1 W') →
    J [] W → CallsIn Fence.wide n P gf (#[.func (.yield l) #[] #[]] ++ lb) W fun e W' => (∃ v, e = .returned v) ∧ ∃ xs, S xs W' ∧ J xs W'

/-- **The law of the statement.** The body goes on in every round. -/
theorem wpIn_range {P : Program} {α : Type} {n n0 : Nat} {g : Operand} {ps : Array Tmp} {assign body : Code} {Q : Exit → Act → World → Prop} {a : Act} {w : World}
    {gf : Nat} {lb : Array Value} (hg : a.eval g = .func (.func gf) #[] lb) (eg : ∀ args w, (callFunc gf args).run P w = .ok (.enter gf args) w)
    {encs : α → Array Value} (hps : ∀ x, (encs x).size = ps.size) {G : List α → α → World → Prop} {bA iA : Nat → Obj → Prop} {S : List α → World → Prop} (hseq : IterG P (n - 1) n0 w.heap.size gf lb encs G bA iA S w)
    (hn0 : n0 ≤ w.heap.size) (hiA : ∀ b o, iA b o → ¬ book o) (hbA : ∀ b o, bA b o → ¬ book o)
    (I : List α → World → Prop) (hI : ∀ pre A B, I pre A → TurnT (fun b o => iA b o ∨ isBook w.heap.size b o) n0 A B → I pre B) (hS : ∀ xs A B, S xs A → TurnT (isBook w.heap.size) n0 A B → S xs B) (h0 : I [] w)
    (hround : ∀ l pre x W, w.heap.size ≤ W.heap.size → I pre W → G pre x W → assign.wpIn (Fence.wide.inRound l) (n - 1 - 1) P (Exit.then (fun a₁ W1 => TurnT bA n0 W W1 ∧ ∀ W2, TurnT (isBook w.heap.size) n0 W1 W2 → W2.heap.size = W1.heap.size →
        body.wpIn (Fence.wide.inRound l) (n - 1 - 1) P (QN fun _ W3 => TurnT bA n0 W2 W3 ∧ I (pre ++ [x]) W3) a₁ W2) (fun _ _ _ => False))
      { tmps := (ps.zip (encs x)).foldl (fun t (p, v) => t.setIfInBounds p v) a.tmps, defers := [] } W)
    (hdone : ∀ D xs W, w.heap.size ≤ D → S xs W → I xs W → W.heap[D]? = some (.deferred (some [])) → Q .normal { a with defers := { target := .collected D, args := #[] } :: a.defers } W) :
    (Code.rangeFunc g ps assign body).wpIn Fence.wide n P Q a w := by
  refine wpIn_rangeFunc ?_
  intro fn hfn
  obtain ⟨rec, hrec⟩ : ∃ rec : LoopState → Option Code → Loop, rec = fun st pe => { state := st, pending := pe, fn, tmps := a.tmps, params := ps, assign, body, defers := w.heap.size } := ⟨_, rfl⟩
  obtain ⟨W1, hW1⟩ : ∃ W1, (w.alloc (.deferred (some []))).alloc (.loop (rec .ready none)) = W1 := ⟨_, rfl⟩
  have hL1 : W1.heap[w.heap.size + 1]? = some (.loop (rec .ready none)) := by
    rw [← hW1]; have := World.alloc_heap_new (w.alloc (.deferred (some []))) (.loop (rec .ready none)); rwa [World.size_alloc] at this
  have hK1 : W1.heap[w.heap.size]? = some (.deferred (some [])) := by
    rw [← hW1]; exact (Below.heap_alloc _ _ _ (by simp)).trans (World.alloc_heap_new w _)
  have hb1 : Below w.heap.size w W1 := by rw [← hW1]; exact ((Below.refl _ w).alloc (Nat.le_refl _) _).alloc (by simp) _
  have hI1 : I [] W1 := hI _ _ _ h0 (by rw [← hW1]; exact ((TurnT.refl _ n0 w).alloc hn0 _).alloc hn0 _)
  refine ⟨w.heap.size + 1, [{ target := .collected w.heap.size, args := #[] }], W1, { target := .fn (.func gf) lb, args := #[.func (.yield (w.heap.size + 1)) #[] #[]] }, W1, gf,
    #[.func (.yield (w.heap.size + 1)) #[] #[]] ++ lb, W1, ?_, ?_, fun _ _ => trivial, ?_, fun h => by simp [Fence.wide] at h, ?_⟩
  · rw [← hW1, hrec]; exact run_enterLoop_outer _ _ _ _ _
  · simp only [resolve, hg]
    simp [go_sem]
  · simp [invoke, go_sem, eg]
  · have keepL : ∀ {A : Nat → Obj → Prop} {X Y : World} {st : LoopState} {pe : Option Code}, (∀ b o, A b o → ¬ book o) → TurnT A n0 X Y → X.heap[w.heap.size + 1]? = some (.loop (rec st pe)) → Y.heap[w.heap.size + 1]? = some (.loop (rec st pe)) :=
      fun hA ht hl => ht.2 _ _ hl (fun h => hA _ _ h trivial)
    have keepD : ∀ {A : Nat → Obj → Prop} {X Y : World}, (∀ b o, A b o → ¬ book o) → TurnT A n0 X Y → X.heap[w.heap.size]? = some (.deferred (some [])) → Y.heap[w.heap.size]? = some (.deferred (some [])) :=
      fun hA ht hl => ht.2 _ _ hl (fun h => hA _ _ h trivial)
    refine (hseq (w.heap.size + 1) (fun pre W => I pre W ∧ W.heap[w.heap.size + 1]? = some (.loop (rec .ready none)) ∧ W.heap[w.heap.size]? = some (.deferred (some []))) W1 hb1
      (fun pre A B hj ht => ⟨hI _ _ _ hj.1 (ht.mono fun b o h => .inl h), keepL hiA ht hj.2.1, keepD hiA ht hj.2.2⟩) ?_ ⟨hI1, hL1, hK1⟩).mono ?_
    · rintro pre x W ⟨hi, hl, hk⟩ hG
      have hlt : w.heap.size + 1 < W.heap.size := (Array.getElem?_eq_some_iff.1 hl).1
      have hy := run_yield (P := P) (args := encs x) hl (by rw [hrec]; exact hps x)
      rw [hrec] at hy
      refine ⟨fn, _, assign, body, hy, roundIn_of_wpIn hfn (wpIn_mono (hround _ pre x W (by omega) hi hG) ?_)⟩
      rintro e a1 W2 hp
      cases e with
      | normal =>
        obtain ⟨ht1, hbody⟩ := hp
        have hl2 := keepL hbA ht1 hl
        have hk2 := keepD hbA ht1 hk
        have hlt2 : w.heap.size + 1 < W2.heap.size := (Array.getElem?_eq_some_iff.1 hl2).1
        have hput : TurnT (isBook w.heap.size) n0 W2 (W2.putObj (w.heap.size + 1) (.loop (rec .busy none))) := TurnT.putObj _ hl2 ⟨by omega, trivial⟩ (by omega)
        have hbr : (Instr.beginRound (w.heap.size + 1)).run P W2 = .ok () (W2.putObj (w.heap.size + 1) (.loop (rec .busy none))) := by
          have := run_beginRound (P := P) hl2 (by rw [hrec]); rw [hrec] at this ⊢; exact this
        have hl3 : (W2.putObj (w.heap.size + 1) (.loop (rec .busy none))).heap[w.heap.size + 1]? = some (.loop (rec .busy none)) := World.putObj_heap_same hlt2
        have hk3 : (W2.putObj (w.heap.size + 1) (.loop (rec .busy none))).heap[w.heap.size]? = some (.deferred (some [])) := (World.putObj_heap_other (by omega)).trans hk2
        refine ⟨_, hbr, wpIn_mono (hbody _ hput (by simp)) ?_⟩
        rintro e a3 W3 hq
        cases e with
        | normal =>
          obtain ⟨ht3, hi3⟩ := hq
          have hl4 := keepL hbA ht3 hl3
          have hk4 := keepD hbA ht3 hk3
          have hlt4 : w.heap.size + 1 < W3.heap.size := (Array.getElem?_eq_some_iff.1 hl4).1
          have hend : (Instr.endRound (w.heap.size + 1) none).run P W3 = .ok (.bool true) (W3.putObj (w.heap.size + 1) (.loop (rec .ready none))) := by
            have := run_endRound (P := P) none hl4; rw [hrec] at this ⊢; exact this
          have hput2 : TurnT (isBook w.heap.size) n0 W3 (W3.putObj (w.heap.size + 1) (.loop (rec .ready none))) := TurnT.putObj _ hl4 ⟨by omega, trivial⟩ (by omega)
          exact ⟨_, _, hend, rfl, ⟨hI _ _ _ hi3 (hput2.mono fun b o h => .inr h), World.putObj_heap_same hlt4, (World.putObj_heap_other (by omega)).trans hk4⟩,
            (((ht1.mono fun b o h => .inl h).trans (hput.mono fun b o h => .inr h)).trans (ht3.mono fun b o h => .inl h)).trans (hput2.mono fun b o h => .inr h)⟩
        | _ => exact hq.elim
      | _ => exact hp.elim
    · rintro e W2 ⟨⟨v, rfl⟩, xs, hSx, hi, hl, hk⟩
      have hlt : w.heap.size + 1 < W2.heap.size := (Array.getElem?_eq_some_iff.1 hl).1
      have hend := run_endLoop (P := P) hl (by rw [hrec]; simp)
      have hput : ∀ o', TurnT (isBook w.heap.size) n0 W2 (W2.putObj (w.heap.size + 1) o') := fun o' => TurnT.putObj o' hl ⟨by omega, trivial⟩ (by omega)
      refine ⟨none, _, by rw [hrec] at hend; exact hend, ?_⟩
      exact hdone _ xs _ (Nat.le_refl _) (hS _ _ _ hSx (hput _)) (hI _ _ _ hi ((hput _).mono fun b o h => .inr h)) ((World.putObj_heap_other (by omega)).trans hk)

end Go.Proofs.Yteepdnamkcgndaa

namespace Go.Proofs.Yteepdnamkcgndaa
open Go.RowKit

attribute [local go_sem] Oper.semAt_some

theorem room_none {F : Fence} (hd : F.depth = none) (k : Nat) : F.room k := fun d h => by rw [hd] at h; cases h
theorem RoundIn.anyDepth {F : Fence} (hd : F.depth = none) {m m' : Nat} {P : Program} {l : Nat} {f : FuncId} {tmps : Array Value} {assign body : Code} {w : World} {R : Ending → World → Prop}
    (h : RoundIn F m P l f tmps assign body w R) : RoundIn F m' P l f tmps assign body w R := ⟨h.1, fun c cs _ => h.2 c cs (room_none hd _)⟩
theorem YieldAt.anyDepth {F : Fence} (hd : F.depth = none) {m : Nat} (m' : Nat) {P : Program} {l : Nat} {args : Array Value} {W : World} {R : Ending → World → Prop} (h : YieldAt F m P l args W R) : YieldAt F m' P l args W R := by
  obtain ⟨fn, tmps, assign, body, hy, hR⟩ := h
  exact ⟨fn, tmps, assign, body, hy, RoundIn.anyDepth hd hR⟩

/-- A box of one cell. -/
theorem one_cell {W : World} {B : Nat} {t : TypeId} {v : Value} (h : W.heap[B]? = some (.cells #[v] t (0, 0))) : W.cell? ⟨B, 0, none⟩ = some v ∧ W.frozen? ⟨B, 0, none⟩ = false := by
  constructor <;> simp [World.cell?, World.frozen?, h]
theorem one_set {W : World} {B : Nat} {t : TypeId} {v : Value} (v' : Value) (h : W.heap[B]? = some (.cells #[v] t (0, 0))) : (W.setCell ⟨B, 0, none⟩ v').heap[B]? = some (.cells #[v'] t (0, 0)) := by
  obtain ⟨hlt, hk⟩ := Array.getElem?_eq_some_iff.1 h
  show (W.heap.modify B _)[B]? = _
  rw [Array.getElem?_eq_getElem (by rw [Array.size_modify]; exact hlt), Array.getElem_modify_self, hk]
  rfl

/-- What the body of a range over changes may turn. -/
abbrev bodyT : Nat → Obj → Prop := cellsOf [34, 59]
/-- What the iterator over changes may turn. -/
abbrev iterT : Nat → Obj → Prop := cellsOf [4]
/-- A call of yield. -/
abbrev saidT (nB : Nat) : Nat → Obj → Prop := fun b o => (bodyT b o ∨ isBook nB b o) ∨ iterT b o

set_option maxHeartbeats 2000000 in
theorem say_any (l n0 nB Bm By n : Nat) (c : Chg) (a : Option Addr) (nn cap : Nat) (J J' : World → Prop) (w : World)
    (hm : w.heap[Bm]? = some (.cells #[.bool true] 4 (0, 0))) (hy : w.heap[By]? = some (.cells #[.func (.yield l) #[] #[]] 88 (0, 0)))
    (hn0 : n0 ≤ Bm) (hsz : n0 ≤ w.heap.size) (hJ : J w) (hJt : ∀ A B, J A → TurnT iterT n0 A B → J B) (hJt' : ∀ A B, J' A → TurnT iterT n0 A B → J' B)
    (hY : ∀ W, J W → YieldAt Fence.wide n Try.prog l #[c.val (.slice a nn cap)] W fun e W' => e = .returned (.bool true) ∧ J' W' ∧ TurnT (fun b o => bodyT b o ∨ isBook nB b o) n0 W W') :
    Calls Try.prog 59 #[c.val (.slice a nn cap), .pointer (some ⟨Bm, 0, none⟩), .pointer (some ⟨By, 0, none⟩)] w fun e w' =>
      (∃ v, e = .returned v) ∧ J' w' ∧ TurnT (saidT nB) n0 w w' ∧ w'.heap[Bm]? = some (.cells #[.bool true] 4 (0, 0)) := by
  obtain ⟨k, i, f, o, nw, xs⟩ := c
  simp only [Chg.val] at hY ⊢
  rw [← callsIn_wide (n := n + 1)]
  have hA0 : TurnT (fun _ _ => False) n0 w (w.alloc (.cells #[.int .i64 k, .int .i64 i, .int .i64 f, .int .i64 o, .int .i64 nw, .slice a nn cap] 59)) := (TurnT.refl _ _ _).alloc hsz _
  have hA := hA0.mono (A' := iterT) (fun _ _ h => h.elim)
  obtain ⟨fn, tmps, assign, body, hyy, hR⟩ := YieldAt.anyDepth (m' := n + 1 - 1) rfl (hY _ (hJt _ _ hJ hA))
  have hmc := (one_cell hm).1
  have hyc := (one_cell hy).1
  have hlm : Bm < w.heap.size := (Array.getElem?_eq_some_iff.1 hm).1
  have hly : By < w.heap.size := (Array.getElem?_eq_some_iff.1 hy).1
  refine callsIn_of_wp Try.func59 rfl trivial ?_ rfl
  simp only [Try.ntmps59, List.size_toArray, List.length_cons, List.length_nil, Nat.reduceAdd, Nat.reduceSub, Array.replicate_succ, Array.replicate_zero, List.push_toArray, List.append_toArray, List.nil_append, List.cons_append]
  gi_wp2
  refine hR.mono ?_
  rintro e W2 ⟨rfl, hj2, ht2⟩
  have hm2 : W2.heap[Bm]? = some (.cells #[.bool true] 4 (0, 0)) := ht2.2 _ _ (hA0.2 _ _ hm id) (by simp [cellsOf, ofT, isBook, book])
  have hm3 := one_cell hm2
  have hmc2 := hm3.1
  have hmf2 := hm3.2
  have hT : TurnT iterT n0 W2 (W2.setCell ⟨Bm, 0, none⟩ (.bool true)) := TurnT.setCell (TurnT.refl _ _ _) hm2 (by simp [cellsOf, ofT]) hn0 _
  gi_wp2
  go_end0
  exact ⟨⟨_, rfl⟩, hJt' _ _ hj2 hT, ((hA.mono fun _ _ h => .inr h).trans (ht2.mono fun _ _ h => .inl h)).trans (hT.mono fun _ _ h => .inr h), one_set _ hm2⟩

/-- A change that yield is handed. -/
abbrev Chx := Chg × Option Addr × Nat
abbrev Chx.sl (x : Chx) : Value := .slice x.2.1 x.1.values.length x.2.2
abbrev Chx.enc (x : Chx) : Array Value := #[x.1.val x.sl]
abbrev chs (xs : List Chx) : List Chg := xs.map fun x => x.1
theorem chs_len (xs : List Chx) : (chs xs).length = xs.length := by simp [chs]
/-- Its values lie in a row of its own. -/
abbrev Chx.ok (n0 : Nat) (pre : List Chx) (x : Chx) (W : World) : Prop := pre.length < 7000 ∧ IntsF (n0 ≤ ·) W x.sl x.1.values

theorem IntsF.turn {S : Nat → Prop} {A : Nat → Obj → Prop} {n0 : Nat} {W W' : World} {v : Value} {xs : List Int} (h : IntsF S W v xs) (ht : TurnT A n0 W W') (hA : ∀ b c fr, ¬ A b (.cells c 3 fr)) : IntsF S W' v xs := by
  refine ⟨⟨h.1.1, ?_⟩, h.2⟩
  rcases h.1.2 with h2 | ⟨g, cap, cur, e, hb, hg, r⟩
  · exact .inl h2
  · exact .inr ⟨g, cap, cur, e, hb, ht.2 _ _ hg (hA _ _ _), r⟩

theorem TurnT.of_below {A : Nat → Obj → Prop} {n0 : Nat} {w w' : World} (h : Below w.heap.size w w') (hn : n0 ≤ w.heap.size) : TurnT A n0 w w' :=
  ⟨h.mono hn, fun b _ hb _ => (h.block b (Array.getElem?_eq_some_iff.1 hb).1).trans hb⟩

/-- What holds between two calls of yield. -/
structure ItI (l n0 nB Bm By : Nat) (J : List Chx → World → Prop) (W0 : World) (xs : List Chx) (w : World) : Prop where
  more : w.heap[Bm]? = some (.cells #[.bool true] 4 (0, 0))
  yield : w.heap[By]? = some (.cells #[.func (.yield l) #[] #[]] 88 (0, 0))
  inv : J xs w
  turn : TurnT (saidT nB) n0 W0 w
  size : n0 ≤ w.heap.size

theorem ItI.still {l n0 nB Bm By : Nat} {J : List Chx → World → Prop} {W0 : World} {xs : List Chx} {w w' : World} (h : ItI l n0 nB Bm By J W0 xs w) (hJt : ∀ pre A B, J pre A → TurnT iterT n0 A B → J pre B) (ht : TurnT (fun _ _ => False) n0 w w') : ItI l n0 nB Bm By J W0 xs w' :=
  ⟨ht.2 _ _ h.more id, ht.2 _ _ h.yield id, hJt _ _ _ h.inv (ht.mono fun _ _ h => h.elim), h.turn.trans (ht.mono fun _ _ h => h.elim), Nat.le_trans h.size ht.1.size⟩

theorem ItI.say {l n0 nB Bm By n : Nat} {J : List Chx → World → Prop} {W0 : World} {xs : List Chx} {w : World} (h : ItI l n0 nB Bm By J W0 xs w) (hn0 : n0 ≤ Bm)
    (hJt : ∀ pre A B, J pre A → TurnT iterT n0 A B → J pre B)
    (hY : ∀ pre x W, J pre W → Chx.ok n0 pre x W → YieldAt Fence.wide n Try.prog l (Chx.enc x) W fun e W' => e = .returned (.bool true) ∧ J (pre ++ [x]) W' ∧ TurnT (fun b o => bodyT b o ∨ isBook nB b o) n0 W W')
    (hlen : xs.length < 7000) (c : Chg) (a : Option Addr) (cap : Nat) (hc : IntsF (n0 ≤ ·) w (.slice a c.values.length cap) c.values) :
    Calls Try.prog 59 #[c.val (.slice a c.values.length cap), .pointer (some ⟨Bm, 0, none⟩), .pointer (some ⟨By, 0, none⟩)] w fun e w' =>
      (∃ v, e = .returned v) ∧ ItI l n0 nB Bm By J W0 (xs ++ [(c, a, cap)]) w' ∧ TurnT (saidT nB) n0 w w' := by
  refine (say_any l n0 nB Bm By n c a c.values.length cap (fun W => J xs W ∧ Chx.ok n0 xs (c, a, cap) W) (J (xs ++ [(c, a, cap)])) w h.more h.yield hn0 h.size ⟨h.inv, hlen, hc⟩
    (fun A B hj ht => ⟨hJt _ _ _ hj.1 ht, hj.2.1, IntsF.turn hj.2.2 ht (by simp [cellsOf, ofT])⟩) (hJt _) (fun W hj => hY _ _ _ hj.1 hj.2)).mono ?_
  rintro e w' ⟨hv, hj, ht, hm⟩
  exact ⟨hv, ⟨hm, ht.2 _ _ h.yield (by simp [cellsOf, ofT, isBook, book]), hj, h.turn.trans ht, Nat.le_trans h.size ht.1.size⟩, ht⟩

end Go.Proofs.Yteepdnamkcgndaa

namespace Go.Proofs.Yteepdnamkcgndaa
open Go.RowKit

theorem box_cell {A : Nat → Obj → Prop} {n0 : Nat} {W W1 : World} (ht : TurnT A n0 W W1) {B : Nat} {v : Value} {t : TypeId} (h : W.heap[B]? = some (.cells #[v] t (0, 0))) (ha : ¬ A B (.cells #[v] t (0, 0))) : W1.cell? ⟨B, 0, none⟩ = some v :=
  (one_cell (ht.2 _ _ h ha)).1

set_option maxRecDepth 100000 in
set_option maxHeartbeats 4000000 in
theorem iter_any (kind : Int) (a b : List (List Int)) (m : Nat) (hm1 : m ≤ a.length) (hm2 : m ≤ b.length) (ha : a.length ≤ 512) (hb : b.length ≤ 512) (ha10 : ∀ r ∈ a, r.length ≤ 10) (hb10 : ∀ r ∈ b, r.length ≤ 10)
    (hab : ∀ i (h1 : i < a.length) (h2 : i < b.length), a[i].length ≤ b[i].length) (n0 nB Pm Pa Pb Pk l n : Nat) (va vb : Value) (S : Nat → Prop) (hS : ∀ b, S b → b < n0) (J : List Chx → World → Prop) (w : World)
    (hsz : n0 ≤ w.heap.size) (hu : RowsV S w va a) (hv : RowsV S w vb b)
    (bm : w.heap[Pm]? = some (.cells #[.int .i64 m] 3 (0, 0))) (ba : w.heap[Pa]? = some (.cells #[va] 46 (0, 0))) (bb : w.heap[Pb]? = some (.cells #[vb] 46 (0, 0))) (bk : w.heap[Pk]? = some (.cells #[.int .i64 kind] 3 (0, 0)))
    (hJt : ∀ pre A B, J pre A → TurnT iterT n0 A B → J pre B)
    (hY : ∀ pre x W, J pre W → Chx.ok n0 pre x W → YieldAt Fence.wide n Try.prog l (Chx.enc x) W fun e W' => e = .returned (.bool true) ∧ J (pre ++ [x]) W' ∧ TurnT (fun b o => bodyT b o ∨ isBook nB b o) n0 W W') (h0 : J [] w) :
    Calls Try.prog 58 #[.func (.yield l) #[] #[], .pointer (some ⟨Pm, 0, none⟩), .pointer (some ⟨Pa, 0, none⟩), .pointer (some ⟨Pb, 0, none⟩), .pointer (some ⟨Pk, 0, none⟩)] w fun e w' =>
      (∃ v, e = .returned v) ∧ ∃ xs : List Chx, chs xs = listL kind a b m ∧ J xs w' := by
  have hu0 := hu
  have hv0 := hv
  obtain ⟨aa, ca, rfl, hoka, hcapa, hmaxa⟩ := hu.form
  obtain ⟨ab, cb, rfl, hokb, hcapb, hmaxb⟩ := hv.form
  clear hu hv
  have Cm : ∀ W1, TurnT (saidT nB) n0 w W1 → W1.cell? ⟨Pm, 0, none⟩ = some (.int .i64 m) := fun W1 h => box_cell h bm (by simp [cellsOf, ofT, isBook, book])
  have Ca : ∀ W1, TurnT (saidT nB) n0 w W1 → W1.cell? ⟨Pa, 0, none⟩ = some (.slice aa a.length ca) := fun W1 h => box_cell h ba (by simp [cellsOf, ofT, isBook, book])
  have Cb : ∀ W1, TurnT (saidT nB) n0 w W1 → W1.cell? ⟨Pb, 0, none⟩ = some (.slice ab b.length cb) := fun W1 h => box_cell h bb (by simp [cellsOf, ofT, isBook, book])
  have Ck : ∀ W1, TurnT (saidT nB) n0 w W1 → W1.cell? ⟨Pk, 0, none⟩ = some (.int .i64 kind) := fun W1 h => box_cell h bk (by simp [cellsOf, ofT, isBook, book])
  have Ru : ∀ W1, TurnT (saidT nB) n0 w W1 → RowsV S W1 (.slice aa a.length ca) a := fun W1 h => hu0.keep (KeepS.of_below h.1 hS)
  have Rv : ∀ W1, TurnT (saidT nB) n0 w W1 → RowsV S W1 (.slice ab b.length cb) b := fun W1 h => hv0.keep (KeepS.of_below h.1 hS)
  have hI0 : ItI l n0 nB (w.heap.size + 1) w.heap.size J w [] ((w.alloc (.cells #[.func (.yield l) #[] #[]] 88)).alloc (.cells #[.bool true] 4)) := by
    have ht0 : TurnT (fun _ _ => False) n0 w (w.alloc (.cells #[.func (.yield l) #[] #[]] 88)) := (TurnT.refl _ _ _).alloc hsz _
    have ht1 : TurnT (fun _ _ => False) n0 (w.alloc (.cells #[.func (.yield l) #[] #[]] 88)) ((w.alloc (.cells #[.func (.yield l) #[] #[]] 88)).alloc (.cells #[.bool true] 4)) := (TurnT.refl _ _ _).alloc (by simp; omega) _
    have hy0 := World.alloc_heap_new w (.cells #[.func (.yield l) #[] #[]] 88)
    have hm0 := World.alloc_heap_new (w.alloc (.cells #[.func (.yield l) #[] #[]] 88)) (.cells #[.bool true] 4)
    rw [World.size_alloc] at hm0
    have ht := ht0.trans ht1
    exact ⟨hm0, ht1.2 _ _ hy0 id, hJt _ _ _ h0 (ht.mono fun _ _ h => h.elim), ht.mono fun _ _ h => h.elim, Nat.le_trans hsz ht.1.size⟩
  have hn0 : n0 ≤ w.heap.size + 1 := by omega
  have cm0 := Cm _ hI0.turn
  have HI0 := hid hI0
  clear hI0
  have hS0 : (0 : Int) ≤ m := by omega
  have HSay := hid (fun (n0l : Unit) (xs : List Chx) (w1 : World) (h : ItI l n0 nB (w.heap.size + 1) w.heap.size J w xs w1) (hlen : xs.length < 7000) (c : Chg) (ad : Option Addr) (cap : Nat) (hc : IntsF (n0 ≤ ·) w1 (.slice ad c.values.length cap) c.values) => h.say hn0 hJt hY hlen c ad cap hc)
  have HStill := hid (fun (xs : List Chx) (w1 w2 : World) (h : ItI l n0 nB (w.heap.size + 1) w.heap.size J w xs w1) (ht : TurnT (fun _ _ => False) n0 w1 w2) => h.still hJt ht)
  have HY := hid hY
  have HJt := hid hJt
  clear hY hJt
  have HCm := hid Cm
  have HCa := hid Ca
  have HCb := hid Cb
  have HCk := hid Ck
  have HRu := hid Ru
  have HRv := hid Rv
  have Hbm := hid bm
  have Hba := hid ba
  have Hbb := hid bb
  have Hbk := hid bk
  have Hu0 := hid hu0
  have Hv0 := hid hv0
  clear Cm Ca Cb Ck Ru Rv bm ba bb bk h0 hu0 hv0
  go_enter Try.func58, Try.ntmps58
  go_wp2
  go_loopw [15] (fun i wr => ∃ k : Nat, k ≤ m ∧ i = .int .i64 k ∧ ∃ xs, chs xs = sets kind a b k ∧ Hid (ItI l n0 nB (w.heap.size + 1) w.heap.size J w xs wr)) (fun i _ => m - (intOf i).toNat)
  case atStart => exact ⟨0, by omega, rfl, [], by simp [sets], HI0⟩
  case round =>
    obtain ⟨i, hi, rfl, xs, hxs, hI⟩ := hrel
    clear HI0
    by_cases hlt : i < m
    · have hia : i < a.length := by omega
      have hib : i < b.length := by omega
      have hab1 := hab i hia hib
      have HT := hid (sets_succ kind a b i)
      rw [getD_eq hia, getD_eq hib] at HT
      have hca := HCa.out _ hI.out.turn
      obtain ⟨ur, hcr, hbr, hrr⟩ := (HRu.out _ hI.out.turn).at hia
      have hli : (sets kind a b i).length ≤ 10 * i := sets_len kind a b ha10 i
      have hr10 := ha10 _ (List.getElem_mem hia)
      have HBI := hid (show ∀ W1, TurnT (saidT nB) n0 w W1 → ∃ ur, W1.cell? ⟨slb ab, slo ab + i, none⟩ = some ur ∧ IntsV S W1 ur b[i] from fun W1 h => by
        obtain ⟨u, h1, h2, h3⟩ := (HRv.out _ h).at hib
        exact ⟨u, h1, h3⟩)
      generalize sets kind a b i = pre at *
      generalize a[i] = r at *
      generalize b[i] = s at *
      have hrr0 := hrr
      obtain ⟨ar, cr, rfl, hokr, hcapr, hmaxr⟩ := hrr.form
      clear hrr
      have hi0 : (0 : Int) ≤ i := by omega
      have hi1 : (i : Int) < a.length := by omega
      have hi2 : (i : Int) < b.length := by omega
      obtain ⟨wo, rfl⟩ : ∃ wo : World, wo = wr := ⟨_, rfl⟩
      have HRR : Hid (∀ W1, TurnT (saidT nB) n0 wo W1 → IntsV S W1 (.slice ar r.length cr) r) := hid (fun W1 h => hrr0.keep (KeepS.of_below h.1 hS))
      go_wp2
      go_loopw [23] (fun jj w2 => ∃ k : Nat, k ≤ r.length ∧ jj = .int .i64 k ∧ ∃ xs, chs xs = pre ++ (List.range k).filterMap (setAt kind i r s) ∧ Hid (ItI l n0 nB (w.heap.size + 1) w.heap.size J w xs w2 ∧ TurnT (saidT nB) n0 wo w2)) (fun jj _ => r.length - (intOf jj).toNat)
      case atStart => exact ⟨0, by omega, rfl, xs, by simpa using hxs, hid ⟨hI.out, TurnT.refl _ _ _⟩⟩
      case round =>
        obtain ⟨k, hk, rfl, ys, hys, hJ⟩ := hrel
        by_cases hkr : k < r.length
        · obtain ⟨ub, hcb, hrb⟩ := HBI.out _ hJ.out.1.turn
          have hrr2 := HRR.out _ hJ.out.2
          have hsr2 := hrb
          obtain ⟨br, dr, rfl, hoks, hcaps, hmaxs⟩ := hrb.form
          clear hrb
          obtain ⟨x1, hx1, hbx, hx2⟩ := SlV.at hrr2 hkr
          obtain ⟨y1, hy1, hby, hy2⟩ := SlV.at hsr2 (show k < s.length by omega)
          have hcB := HCb.out _ hJ.out.1.turn
          have hf : setAt kind i r s k = if r[k] = s[k]'(by omega) then none else some ⟨kind, i, k, r[k], s[k]'(by omega), []⟩ := by
            unfold setAt; rw [getD_eq hkr, getD_eq (show k < s.length by omega)]
          have hlen : ys.length < 7000 := by
            have h1 := List.length_filterMap_le (setAt kind i r s) (List.range k)
            have h2 := chs_len ys
            rw [hys, List.length_append] at h2
            simp only [List.length_range] at h1
            omega
          generalize r[k] = x at *
          generalize s[k]'(by omega) = y at *
          subst hx2; subst hy2
          have hk0 : (0 : Int) ≤ k := by omega
          have hk1 : (k : Int) < r.length := by omega
          have hk2 : (k : Int) < s.length := by omega
          clear hrr2 hsr2
          by_cases hxy : x = y
          · have HE := hid (filt_succ_none (f := setAt kind i r s) (k := k) (by rw [hf, if_pos hxy]))
            have hd : (y != x) = false := bneF hxy.symm
            rw [HE.out] at hys
            clear hf HE hxy
            go_wp2
            go_roundw
            case rel => exact ⟨k + 1, by omega, by go_num, ys, hys, hJ⟩
            case measure => simp [intOf]; omega
          · have HE := hid (filt_succ_some (f := setAt kind i r s) (k := k) (by rw [hf, if_neg hxy]))
            have hd : (y != x) = true := bneT (fun e => hxy e.symm)
            have hck := HCk.out _ hJ.out.1.turn
            clear hf hxy
            go_wp2
            refine wp_region_quiet_tail 13 (by kernel_rfl) (by kernel_rfl) ?_
            simp only [List.take_succ_cons, List.take_zero, List.drop_succ_cons, List.drop_zero]
            repeat (go_big_quiet_step (fail))
            refine wpQuiet_nil ?_
            go_wp2_with fail
            refine (HSay.out () ys _ (HStill.out ys wr _ hJ.out.1 ((TurnT.refl _ _ _).drewN _)) hlen ⟨kind, i, k, x, y, []⟩ none 0 (IntsF.nil _ _)).mono ?_
            rintro e w3 ⟨⟨v, rfl⟩, hI3, ht3⟩
            have HJ3 := hid (show ItI l n0 nB (w.heap.size + 1) w.heap.size J w (ys ++ [(⟨kind, i, k, x, y, []⟩, none, 0)]) w3 ∧ TurnT (saidT nB) n0 wo w3 from ⟨hI3, hJ.out.2.trans ((((TurnT.refl _ _ _).drewN _).trans ht3))⟩)
            have hys3 : chs (ys ++ [(⟨kind, i, k, x, y, []⟩, none, 0)]) = pre ++ (List.range (k + 1)).filterMap (setAt kind i r s) := by
              rw [← HE.out, ← List.append_assoc, ← hys]; simp [chs]
            clear hI3 ht3 hx1 hy1 hcB hck HE
            go_wp2
            go_roundw
            case rel => exact ⟨k + 1, by omega, by go_num, _, hys3, HJ3⟩
            case measure => simp [intOf]; omega
        · obtain rfl : k = r.length := by omega
          have hys3 : chs ys = sets kind a b (i + 1) := by rw [HT.out]; exact hys
          go_wp2
          go_roundw
          case rel => exact ⟨i + 1, by omega, by go_num, ys, hys3, hid hJ.out.1⟩
          case measure => simp [intOf]; omega
    · obtain rfl : i = m := by omega
      have HL : Hid (listL kind a b i = sets kind a b i ++ takes kind a i ++ adds kind b i) := hid rfl
      have hca := HCa.out _ hI.out.turn
      have hli := sets_len kind a b ha10 i
      generalize sets kind a b i = pre at *
      obtain ⟨wo, rfl⟩ : ∃ wo : World, wo = wr := ⟨_, rfl⟩
      go_wp2
      go_loopw [11] (fun i' w2 => ∃ j : Nat, j ≤ a.length - i ∧ i' = .int .i64 ((a.length : Int) - 1 - j) ∧ ∃ xs, chs xs = pre ++ (List.range j).map (fun j => takeC kind a (a.length - 1 - j)) ∧ Hid (ItI l n0 nB (w.heap.size + 1) w.heap.size J w xs w2)) (fun i' _ => (intOf i' + 1 - (i : Int)).toNat)
      case atStart => exact ⟨0, by omega, by simp, xs, by simpa using hxs, hI⟩
      case round =>
        obtain ⟨j, hj, rfl, ys, hys, hJ⟩ := hrel
        have hcm := HCm.out _ hJ.out.turn
        by_cases hlj : j < a.length - i
        · obtain ⟨p, hp⟩ : ∃ p : Nat, p + 1 + j = a.length := ⟨a.length - 1 - j, by omega⟩
          have hpa : p < a.length := by omega
          have hpi : i ≤ p := by omega
          have hpz : (a.length : Int) - 1 - j = (p : Int) := by omega
          obtain ⟨ur, hcr, hbr, hrr⟩ := (HRu.out _ hJ.out.turn).at hpa
          have hr10 := ha10 _ (List.getElem_mem hpa)
          have hHT : takeC kind a (a.length - 1 - j) = ⟨kind, p, -2, 0, 0, a[p]⟩ := by
            unfold takeC; rw [show a.length - 1 - j = p from by omega, getD_eq hpa]
          have HT := hid (range_snoc (fun j => takeC kind a (a.length - 1 - j)) j)
          rw [hHT] at HT
          rw [hpz]
          have HP := hid hp
          clear hHT hp hpz
          have hlen : ys.length < 7000 := by
            have h2 := chs_len ys
            rw [hys, List.length_append] at h2
            simp at h2
            omega
          generalize ((List.range j).map fun j => takeC kind a (a.length - 1 - j)) = us at *
          generalize a[p] = r at *
          have hrr0 := hrr
          obtain ⟨ar, cr, rfl, -, -, -⟩ := hrr.form
          have hrl : r.length ≤ 100000 := by omega
          clear hrr
          have hck := HCk.out _ hJ.out.turn
          have hcA := HCa.out _ hJ.out.turn
          have hp0 : (0 : Int) ≤ p := by omega
          have hp1 : (p : Int) < a.length := by omega
          have hp2 : (i : Int) ≤ p := by omega
          go_wp2
          have hPk : Pk < wr.heap.size := World.block_lt_of_cell? wr _ hck
          have hPa : Pa < wr.heap.size := World.block_lt_of_cell? wr _ hcA
          have hg := Grew.cell (w := wr)
          refine wp_region_grew 7 2 (by kernel_rfl) (by kernel_rfl) ?_
          simp only [List.take_succ_cons, List.take_zero, List.drop_succ_cons, List.drop_zero, Nat.reduceAdd]
          repeat (go_big_quiet_step (fail))
          refine wpQuiet_nil ?_
          unfold wpChain
          go_wp2_with fail
          refine (clone_any r hrl _ S _ (hrr0.keep (KeepS.below (below_drewN (Below.refl _ _) 1)))).mono ?_
          rintro e w2 ⟨x, rfl, hx, hb2⟩
          have hb3 : Below wr.heap.size wr w2 := (below_drewN (Below.refl _ _) 1).trans hb2
          have hx0 : IntsF (n0 ≤ ·) w2 x r := steady_intsF.mono hx (fun b _ h => Nat.le_trans hJ.out.size h)
          obtain ⟨ax, cx, rfl, -, -, -⟩ := (IntsF.sl hx0).form
          have hJ2 := HStill.out ys wr w2 hJ.out (TurnT.of_below hb3 hJ.out.size)
          clear hx hb2
          go_wp2
          refine qn_mk ⟨InGrew.of hb3, ?_⟩
          unfold wpChain
          go_wp2
          refine qn_mk ⟨InGrew.of hb3, ?_⟩
          unfold wpChain
          go_wp2_with fail
          refine (HSay.out () ys w2 hJ2 hlen ⟨kind, p, -2, 0, 0, r⟩ ax cx hx0).mono ?_
          rintro e w3 ⟨⟨v, rfl⟩, hI3, ht3⟩
          have hys3 : chs (ys ++ [(⟨kind, p, -2, 0, 0, r⟩, ax, cx)]) = pre ++ (List.range (j + 1)).map (fun j => takeC kind a (a.length - 1 - j)) := by
            rw [← HT.out, ← List.append_assoc, ← hys]; simp [chs]
          have HI3 := hid hI3
          clear hI3 ht3 hx0 hJ2 hb3 hg
          go_wp2
          go_roundw
          case rel => exact ⟨j + 1, by omega, by have := HP.out; congr 1; omega, _, hys3, HI3⟩
          case measure => simp [intOf]; omega
        · have hjz : (a.length : Int) - 1 - j < i := by omega
          have HE : Hid (takes kind a i = (List.range j).map fun j => takeC kind a (a.length - 1 - j)) := hid (by unfold takes; rw [show a.length - i = j from by omega])
          rw [← HE.out] at hys
          clear HE
          have hlt2 : (takes kind a i).length ≤ 512 := by unfold takes; simp; omega
          generalize takes kind a i = tks at *
          obtain ⟨wm, rfl⟩ : ∃ wm : World, wm = wr := ⟨_, rfl⟩
          go_wp2
          go_loopw [12] (fun i' w2 => ∃ q : Nat, q ≤ b.length - i ∧ i' = .int .i64 ((i : Int) + q) ∧ ∃ xs, chs xs = pre ++ tks ++ (List.range q).map (fun j => addC kind b (i + j)) ∧ Hid (ItI l n0 nB (w.heap.size + 1) w.heap.size J w xs w2)) (fun i' _ => ((b.length : Int) - intOf i').toNat)
          case atStart => exact ⟨0, by omega, by simp, ys, by simpa using hys, hJ⟩
          case round =>
            obtain ⟨q, hq, rfl, zs, hzs, hK⟩ := hrel
            have hcB := HCb.out _ hK.out.turn
            by_cases hlq : q < b.length - i
            · obtain ⟨p, hp⟩ : ∃ p : Nat, p = i + q := ⟨i + q, rfl⟩
              have hpb : p < b.length := by omega
              have hpz : (i : Int) + q = (p : Int) := by omega
              obtain ⟨vr, hdr, hbr, hsr⟩ := (HRv.out _ hK.out.turn).at hpb
              have hs10 := hb10 _ (List.getElem_mem hpb)
              have hHT : addC kind b (i + q) = ⟨kind, p, -1, 0, 0, b[p]⟩ := by
                unfold addC; rw [← hp, getD_eq hpb]
              have HT := hid (range_snoc (fun j => addC kind b (i + j)) q)
              rw [hHT] at HT
              rw [hpz]
              have HP := hid hp
              clear hHT hp hpz
              have hlen : zs.length < 7000 := by
                have h2 := chs_len zs
                rw [hzs, List.length_append, List.length_append] at h2
                simp at h2
                omega
              generalize b[p] = r at *
              have hrr0 := hsr
              obtain ⟨ar, cr, rfl, -, -, -⟩ := hsr.form
              have hrl : r.length ≤ 100000 := by omega
              clear hsr
              have hck := HCk.out _ hK.out.turn
              have hp0 : (0 : Int) ≤ p := by omega
              have hp1 : (p : Int) < b.length := by omega
              go_wp2
              have hPk : Pk < wr.heap.size := World.block_lt_of_cell? wr _ hck
              have hPb : Pb < wr.heap.size := World.block_lt_of_cell? wr _ hcB
              have hg := Grew.cell (w := wr)
              refine wp_region_grew 7 2 (by kernel_rfl) (by kernel_rfl) ?_
              simp only [List.take_succ_cons, List.take_zero, List.drop_succ_cons, List.drop_zero, Nat.reduceAdd]
              repeat (go_big_quiet_step (fail))
              refine wpQuiet_nil ?_
              unfold wpChain
              go_wp2_with fail
              refine (clone_any r hrl _ S _ (hrr0.keep (KeepS.below (below_drewN (Below.refl _ _) 1)))).mono ?_
              rintro e w2 ⟨x, rfl, hx, hb2⟩
              have hb3 : Below wr.heap.size wr w2 := (below_drewN (Below.refl _ _) 1).trans hb2
              have hx0 : IntsF (n0 ≤ ·) w2 x r := steady_intsF.mono hx (fun b _ h => Nat.le_trans hK.out.size h)
              obtain ⟨ax, cx, rfl, -, -, -⟩ := (IntsF.sl hx0).form
              have hJ2 := HStill.out zs wr w2 hK.out (TurnT.of_below hb3 hK.out.size)
              clear hx hb2
              go_wp2
              refine qn_mk ⟨InGrew.of hb3, ?_⟩
              unfold wpChain
              go_wp2
              refine qn_mk ⟨InGrew.of hb3, ?_⟩
              unfold wpChain
              go_wp2_with fail
              refine (HSay.out () zs w2 hJ2 hlen ⟨kind, p, -1, 0, 0, r⟩ ax cx hx0).mono ?_
              rintro e w3 ⟨⟨v, rfl⟩, hI3, ht3⟩
              have hzs3 : chs (zs ++ [(⟨kind, p, -1, 0, 0, r⟩, ax, cx)]) = pre ++ tks ++ (List.range (q + 1)).map (fun j => addC kind b (i + j)) := by
                rw [← HT.out, ← List.append_assoc, ← hzs]; simp [chs]
              have HI3 := hid hI3
              clear hI3 ht3 hx0 hJ2 hb3 hg
              go_wp2
              go_roundw
              case rel => exact ⟨q + 1, by omega, by have := HP.out; congr 1; omega, _, hzs3, HI3⟩
              case measure => simp [intOf]; omega
            · have hqz : (b.length : Int) ≤ (i : Int) + q := by omega
              have HE : Hid (adds kind b i = (List.range q).map fun j => addC kind b (i + j)) := hid (by unfold adds; rw [show b.length - i = q from by omega])
              have hend : chs zs = listL kind a b i := by rw [HL.out, HE.out]; exact hzs
              go_wp2
              go_end0
              exact ⟨⟨_, rfl⟩, zs, hend, hK.out.inv⟩

end Go.Proofs.Yteepdnamkcgndaa

namespace Go.Proofs.Yteepdnamkcgndaa
open Go.RowKit

/-- b is a row of numbers. -/
def intB (w : World) (b : Nat) : Prop := ∃ c fr, w.heap[b]? = some (.cells c 3 fr)

theorem IntsV.turnI {A : Nat → Obj → Prop} {n0 : Nat} {w w' : World} {v : Value} {xs : List Int} {B : Option Nat} (h : IntsV (fun b => intB w b ∧ some b ≠ B) w v xs) (ht : TurnT A n0 w w') (hA : ∀ b c fr, ¬ A b (.cells c 3 fr)) :
    IntsV (fun b => intB w' b ∧ some b ≠ B) w' v xs := by
  have h1 := IntsV.keep (w' := w') h (fun b hb hlt => by
    obtain ⟨⟨c, fr, e⟩, _⟩ := hb
    rw [e]; exact ht.2 _ _ e (hA _ _ _))
  refine IntsV.mono h1 (fun b _ hb => ⟨?_, hb.2⟩)
  obtain ⟨⟨c, fr, e⟩, _⟩ := hb
  exact ⟨c, fr, ht.2 _ _ e (hA _ _ _)⟩

/-- A row of changes stays where rows of changes and of numbers stay. -/
theorem OwnC.turn {A : Nat → Obj → Prop} {n0 B : Nat} {e : TypeId} {w w' : World} {v : Value} {cs : List Chg} (h : OwnC (intB w) B e w v cs) (ht : TurnT A n0 w w')
    (hA : ∀ b c fr, ¬ A b (.cells c 3 fr)) (hE : ∀ b c fr, ¬ A b (.cells c e fr)) : OwnC (intB w') B e w' v cs := by
  obtain ⟨us, ⟨g1, g2⟩, h2, h3⟩ := h
  refine ⟨us, ⟨g1, ?_⟩, h2, fun j k1 k2 => (h3 j k1 k2).turnI ht hA⟩
  rcases g2 with g2 | ⟨g, cap, cur, ev, hb, hg, r⟩
  · exact .inl g2
  · exact .inr ⟨g, cap, cur, ev, hb, ht.2 _ _ hg (hE _ _ _), r⟩

/-- The row's own block holds changes. -/
theorem OwnC.block {S : Nat → Prop} {B : Nat} {e : TypeId} {w : World} {v : Value} {cs : List Chg} (h : OwnC S B e w v cs) {b : Nat} (hb : some b = v.ownBlock) : ∃ c fr, w.heap[b]? = some (.cells c e fr) := by
  obtain ⟨us, ⟨g1, g2⟩, h2, h3⟩ := h
  rcases g2 with ⟨rfl, _⟩ | ⟨g, cap, cur, rfl, _, hg, r⟩
  · simp [Value.ownBlock] at hb
  · simp only [Value.ownBlock] at hb
    cases hb
    exact ⟨_, _, hg⟩

theorem IntsF.zoneI {S : Nat → Prop} {w : World} {v : Value} {xs : List Int} {B : Option Nat} (h : IntsF S w v xs) (hB : ∀ b, B = some b → ∃ c fr t, t ≠ 3 ∧ w.heap[b]? = some (.cells c t fr)) : IntsV (fun b => intB w b ∧ some b ≠ B) w v xs := by
  have h1 : IntsF (fun b => v.ownBlock = some b) w v xs := ⟨h.1, fun _ h => h⟩
  refine IntsV.mono h1.sl (fun b _ hb => ?_)
  have hi : intB w b := by
    rcases h.1.2 with ⟨rfl, _⟩ | ⟨g, cap, cur, rfl, _, hg, _⟩
    · simp [Value.ownBlock] at hb
    · simp only [Value.ownBlock] at hb
      cases hb
      exact ⟨_, _, hg⟩
  refine ⟨hi, fun e => ?_⟩
  obtain ⟨c, fr, e1⟩ := hi
  obtain ⟨c', fr', t, hne, e2⟩ := hB b e.symm
  rw [e1] at e2
  cases e2
  exact hne rfl

/-- Behind an append the row's zone is told in the new world. -/
theorem OwnC.zone {B : Nat} {e : TypeId} {w w' : World} {v v' : Value} {cs cs' : List Chg} (h : OwnC (intB w) B e w v cs) (he : e ≠ 3) (h' : OwnC (intB w) B e w' v' cs') (ht : Turns (fun b => some b = v.ownBlock) w w') : OwnC (intB w') B e w' v' cs' := by
  obtain ⟨us, g1, g2, g3⟩ := h'
  refine ⟨us, g1, g2, fun j k1 k2 => IntsV.mono (g3 j k1 k2) (fun b _ hb => ⟨?_, hb.2⟩)⟩
  obtain ⟨⟨c, fr, e1⟩, _⟩ := hb
  refine ⟨c, fr, ?_⟩
  rw [ht.block b (fun h1 => ?_) (Array.getElem?_eq_some_iff.1 e1).1]
  · exact e1
  · obtain ⟨c', fr', e2⟩ := h.block h1
    rw [e1] at e2
    cases e2
    exact he rfl

/-- The marks that a function's ranges have left, in blocks below nB. -/
def Marks (n0 nB : Nat) (ds : List Deferred) (w : World) : Prop :=
  ∃ Ds : List Nat, ds = Ds.map (fun D => { target := .collected D, args := #[] }) ∧ Ds.Nodup ∧ ∀ D ∈ Ds, n0 ≤ D ∧ D < nB ∧ w.heap[D]? = some (.deferred (some []))

theorem Marks.nil (n0 nB : Nat) (w : World) : Marks n0 nB [] w := ⟨[], rfl, List.nodup_nil, fun D h => absurd h (by simp)⟩
theorem Marks.mono {n0 nB nB' : Nat} {ds : List Deferred} {w : World} (h : Marks n0 nB ds w) (hn : nB ≤ nB') : Marks n0 nB' ds w := by
  obtain ⟨Ds, h1, h2, h3⟩ := h
  exact ⟨Ds, h1, h2, fun D hD => ⟨(h3 D hD).1, Nat.lt_of_lt_of_le (h3 D hD).2.1 hn, (h3 D hD).2.2⟩⟩
theorem Marks.turn {A : Nat → Obj → Prop} {n0 n1 nB : Nat} {ds : List Deferred} {w w' : World} (h : Marks n0 nB ds w) (ht : TurnT A n1 w w') (hA : ∀ b o, b < nB → A b o → ¬ book o) : Marks n0 nB ds w' := by
  obtain ⟨Ds, h1, h2, h3⟩ := h
  exact ⟨Ds, h1, h2, fun D hD => ⟨(h3 D hD).1, (h3 D hD).2.1, ht.2 _ _ (h3 D hD).2.2 (fun ha => hA _ _ (h3 D hD).2.1 ha trivial)⟩⟩
theorem Marks.push {n0 nB : Nat} {ds : List Deferred} {w : World} (h : Marks n0 nB ds w) {D : Nat} (hD : nB ≤ D) (hn : n0 ≤ D) (hk : w.heap[D]? = some (.deferred (some []))) :
    Marks n0 w.heap.size ({ target := .collected D, args := #[] } :: ds) w := by
  obtain ⟨Ds, h1, h2, h3⟩ := h
  have hlt := (Array.getElem?_eq_some_iff.1 hk).1
  refine ⟨D :: Ds, by rw [h1]; rfl, List.nodup_cons.2 ⟨fun hm => ?_, h2⟩, fun E hE => ?_⟩
  · have := (h3 D hm).2.1
    omega
  · rcases List.mem_cons.1 hE with rfl | hE
    · exact ⟨hn, hlt, hk⟩
    · exact ⟨(h3 E hE).1, by have := (h3 E hE).2.1; omega, (h3 E hE).2.2⟩

/-- The way out past the marks. -/
theorem leaves_marks {P : Program} {n n0 : Nat} {fn : Func} {tmps : Array Value} {R : Ending → World → Prop} {t u : Tmp} (hfn : fn.results = #[.tmp t, .tmp u]) : ∀ (Ds : List Nat) (w : World), Ds.Nodup → (∀ D ∈ Ds, n0 ≤ D ∧ w.heap[D]? = some (.deferred (some []))) →
    (∀ w', TurnT (isBook n0) n0 w w' → R (.returned (.tuple #[tmps.getD t undef, tmps.getD u undef])) w') → LeavesInM Fence.wide n P fn tmps R (Ds.map (fun D => { target := .collected D, args := #[] })) .returning w
  | [], w, _, _, h => ⟨_, results_tmp2 hfn _ _ _, h w (TurnT.refl _ _ _)⟩
  | D :: Ds, w, hn, hD, h => by
    obtain ⟨hnd, hns⟩ := List.nodup_cons.1 hn
    have hk := (hD D List.mem_cons_self)
    have ht : TurnT (isBook n0) n0 w (w.putObj D (.deferred none)) := TurnT.putObj _ hk.2 ⟨hk.1, trivial⟩ hk.1
    refine ⟨by simp, .inl ⟨D, _, rfl, run_takeDeferred hk.2, ?_⟩⟩
    refine leaves_marks hfn Ds _ hns (fun E hE => ⟨(hD E (List.mem_cons_of_mem _ hE)).1, ?_⟩) (fun w' h' => h w' (ht.trans h'))
    have hne : E ≠ D := fun e => hnd (e ▸ hE)
    exact (World.putObj_heap_other hne).trans (hD E (List.mem_cons_of_mem _ hE)).2

theorem leave_marks {P : Program} {n n0 : Nat} {fn : Func} {tmps : Array Value} {ds : List Deferred} {w : World} {R : Ending → World → Prop} {t u : Tmp} (hfn : fn.results = #[.tmp t, .tmp u]) {nB : Nat} (hm : Marks n0 nB ds w)
    (h : ∀ w', TurnT (isBook n0) n0 w w' → R (.returned (.tuple #[tmps.getD t undef, tmps.getD u undef])) w') : bodyPostM Fence.wide n P fn R .ret { tmps, defers := ds } w := by
  obtain ⟨Ds, rfl, hnd, hD⟩ := hm
  exact leaves_marks hfn Ds w hnd (fun D h => ⟨(hD D h).1, (hD D h).2.2⟩) h

theorem heap_step {W : World} {k : Nat} {v : Obj} (o : Obj) (h : W.heap[k]? = some v) : (W.alloc o).heap[k]? = some v :=
  (Below.heap_alloc _ _ _ (Array.getElem?_eq_some_iff.1 h).1).trans h
theorem heap_new {k : Nat} (W : World) (o : Obj) (h : k = W.heap.size) : (W.alloc o).heap[k]? = some o := by
  rw [h]; exact World.alloc_heap_new _ _

section
variable {P : Program} {t e : TypeId} {bytes : Nat} {w : World}

/-- 'append(s, x...)' of changes, as it runs. -/
theorem run_appC (ty : TypeId) (hT : AppT P t e 6 bytes)
    {S : Nat → Prop} {B : Nat} {v : Value} {cs : List Chg} (hown : OwnC S B e w v cs)
    {ao : Option Addr} {m c : Nat} (hok : Slok ao m) (ds : List Chg) (us' : List Value) (hl : us'.length = ds.length) (hm : ds.length = m)
    (hnews : ∀ j u, (flatC ds us')[j]? = some u → w.cell? ⟨slb ao, slo ao + j, none⟩ = some u) (h1 : ∀ u ∈ us', u.oneCell' = true)
    (hu : ∀ j (h1 : j < us'.length) (h2 : j < ds.length), IntsV (fun b => S b ∧ some b ≠ v.ownBlock) w us'[j] ds[j].values)
    (hsmall : cs.length + m ≤ 1000000000) (hbase : B ≤ w.heap.size) :
    ∃ v' w', (Builtin.append_ #[t, t] ty #[v, .slice ao m c]).run P w = .ok v' w' ∧ OwnC S B e w' v' (cs ++ ds) ∧ Turns (fun b => some b = v.ownBlock) w w' := by
  obtain ⟨us, f1, f2, f3⟩ := hown
  have h1' : ∀ u ∈ flatC ds us', u.oneCell' = true := by
    intro u hu'
    unfold flatC at hu'
    obtain ⟨l, hl1, hl2⟩ := List.mem_flatten.1 hu'
    obtain ⟨i, hi, rfl⟩ := List.getElem_of_mem hl1
    rw [List.getElem_zipWith] at hl2
    simp only [Chg.cells, List.mem_cons, List.not_mem_nil, or_false] at hl2
    rcases hl2 with h | h | h | h | h | h <;> rw [h]
    all_goals first | rfl | exact h1 _ (List.getElem_mem _)
  obtain ⟨v', w', hr, g1, g2, g3⟩ := run_app ty hT f1 ao m c hok (flatC ds us') (by rw [flatC_len ds us' hl, hm]) hnews h1' hsmall hbase
  refine ⟨v', w', hr, ⟨us ++ us', ?_, ?_, fun j k1 k2 => ?_⟩, Turns.of_grown g2 fun b hb' => hb'.symm⟩
  · rw [flatC_append cs ds us us' f2, List.length_append, hm]; exact g1
  · simp [f2, hl]
  · have other : ∀ {u y}, IntsV (fun b => S b ∧ some b ≠ v.ownBlock) w u y → IntsV (fun b => S b ∧ some b ≠ v'.ownBlock) w' u y := by
      intro u y hr
      have r1 := IntsV.mono (S' := fun b => (S b ∧ some b ≠ v.ownBlock) ∧ b < w.heap.size) hr (fun b hlt hb' => ⟨hb', hlt⟩)
      have r2 := IntsV.keep (w' := w') r1 (fun b hb' _ => g2.block b hb'.2 hb'.1.2)
      refine IntsV.mono r2 (fun b _ hb' => ⟨hb'.1.1, ?_⟩)
      rcases g3 with g3 | g3
      · rw [g3]; exact hb'.1.2
      · rw [g3]; intro e'; have := Option.some.inj e'; omega
    by_cases hj : j < us.length
    · rw [List.getElem_append_left hj, List.getElem_append_left (by omega)]
      exact other (f3 j hj (by omega))
    · have k1' : j < us.length + us'.length := by simpa using k1
      have k2' : j < cs.length + ds.length := by simpa using k2
      rw [List.getElem_append_right (by omega), List.getElem_append_right (by omega)]
      have e1 : j - us.length = j - cs.length := by omega
      have hr := hu (j - us.length) (by omega) (by omega)
      simp only [e1] at hr ⊢
      exact other hr

/-- 'append(s, Change{..})' within a fence. -/
theorem wpListIn_appC1 {F : Fence} {nf : Nat} {ops : Array Oper} {rest : List Oper} {o : Oper} {a : Act} {Q : Exit → Act → World → Prop} (hgd : o.guard = none) (s x : Operand)
    (ho : o.op = .call { callee := .builtin .append, args := #[s, x], argTypes := #[t, t] }) (hT : AppT P t e 6 bytes)
    {S : Nat → Prop} {B : Nat} {v : Value} {cs : List Chg} (hs : a.eval s = v) (hown : OwnC S B e w v cs)
    {e' : TypeId} (hx : a.eval x = .slice (some ⟨w.heap.size, 0, none⟩) 1 1) (c : Chg) (u : Value) {cells : Array Value} (hcells : cells = (c.cells u).toArray) (h1 : u.oneCell' = true)
    (hu : IntsV (fun b => S b ∧ some b ≠ v.ownBlock) w u c.values)
    (hsmall : cs.length + 1 ≤ 1000000000) (hbase : B ≤ w.heap.size)
    (h : ∀ v' w', OwnC S B e w' v' (cs ++ [c]) → Turns (fun b => some b = v.ownBlock) w w' → wpListIn F nf P ops Q rest (a.put o.dst v') w') :
    wpListIn F nf P ops Q (o :: rest) a (w.alloc (.cells cells e')) := by
  subst hcells
  have ha : Below w.heap.size w (w.alloc (.cells (c.cells u).toArray e')) := (Below.refl _ _).alloc (Nat.le_refl _) _
  have hf : flatC [c] [u] = c.cells u := by simp [flatC]
  obtain ⟨v', w', hr, g1, g2⟩ := run_appC (P := P) (w := w.alloc (.cells (c.cells u).toArray e')) o.type hT (hown.below ha) (ao := some ⟨w.heap.size, 0, none⟩) (m := 1) (c := 1) (fun _ => ⟨_, _, rfl⟩) [c] [u] rfl rfl
    (by rw [hf]; exact news_alloc w (c.cells u).toArray e') (by simpa using h1) (by
      intro j g1 g2
      obtain rfl : j = 0 := by simp at g1; omega
      exact hu.keep (KeepS.below ha)) hsmall (by simp; omega)
  refine wpListIn_plain hgd fun K hK' => ?_
  unfold Oper.wpIn
  refine ⟨?_, ?_⟩
  · simp [Oper.about, ho, resolve, Target.leads, Sem.run_pure]
  · rw [Oper.semAt_plain F _ _ (by rw [ho]; intro c hc'; cases hc')]
    simp [execOp, ho, resolve, invoke, builtin, hs, hx, hr, Result.andThen]
    exact hK' _ _ (h v' w' g1 ((Turns.of_below ha).trans ⟨g2.os, g2.tape, g2.output, g2.size, g2.block⟩))
end

/-- A function of the program's own is entered. -/
theorem fn_enters {P : Program} {f : FuncId} {fn : Func} {c : Code} (hf : P.funcs[f]? = some fn) (hn : (fn.name == "runtime.NumGoroutine") = false) (hb : fn.body = some c) (args : Array Value) (w : World) : (callFunc f args).run P w = .ok (.enter f args) w := by
  have hne : fn.name ≠ "runtime.NumGoroutine" := fun e => by simp [e] at hn
  simp [callFunc, hf, hne, hb, mark]

/-- changes: the iterator over the changes of a kind. -/
theorem changes_any (kind m : Int) (aa ab : Option Addr) (la ca lb cb : Nat) (w : World) :
    Calls Try.prog 35 #[.int .i64 kind, .slice aa la ca, .slice ab lb cb, .int .i64 m] w fun e w' =>
      e = .returned (.func (.func 58) #[] #[.pointer (some ⟨w.heap.size + 3, 0, none⟩), .pointer (some ⟨w.heap.size + 1, 0, none⟩), .pointer (some ⟨w.heap.size + 2, 0, none⟩), .pointer (some ⟨w.heap.size, 0, none⟩)]) ∧
      Below w.heap.size w w' ∧ w'.heap[w.heap.size]? = some (.cells #[.int .i64 kind] 3 (0, 0)) ∧ w'.heap[w.heap.size + 1]? = some (.cells #[.slice aa la ca] 46 (0, 0)) ∧
      w'.heap[w.heap.size + 2]? = some (.cells #[.slice ab lb cb] 46 (0, 0)) ∧ w'.heap[w.heap.size + 3]? = some (.cells #[.int .i64 m] 3 (0, 0)) := by
  go_enter Try.func35, Try.ntmps35
  go_wp2
  go_ret
  refine ⟨rfl, ?_, ?_, ?_, ?_, ?_⟩
  · exact ((((Below.refl _ w).alloc (Nat.le_refl _) _).alloc (by simp) _).alloc (by simp; omega) _).alloc (by simp; omega) _
  · exact heap_step _ (heap_step _ (heap_step _ (World.alloc_heap_new _ _)))
  · exact heap_step _ (heap_step _ (heap_new _ _ (by simp)))
  · exact heap_step _ (heap_new _ _ (by simp))
  · exact heap_new _ _ (by simp)

end Go.Proofs.Yteepdnamkcgndaa
