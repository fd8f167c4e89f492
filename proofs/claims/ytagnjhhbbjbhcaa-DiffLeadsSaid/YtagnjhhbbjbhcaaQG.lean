/- Regions that draw their order, whose own operations only read, and whose callees may make memory: one walk in the order of the text, at the worlds that have grown out of w. -/
import Derived.Test.YtagnjhhbbjbhcaaSched
namespace Go.Proofs.Ytagnjhhbbjbhcaa
open Go.RowKit

theorem wp_region_quietG {P : Program} {id : Nat} {Q : Exit → Act → World → Prop} {a : Act} {w : World} {l : List Oper} (hm : P.follows .mixedOrders = true) (hB : Region.lexB .any l.toArray = true)
    (h : wpQuiet P l.toArray (fun W => ∃ x : Grew w, W = x.1) (fun a' => ∀ w', (∃ x : Grew w, w' = x.1) → Q .normal a' w') l a) : (Code.region id l.toArray true).wp P Q a w :=
  wp_region_quiet (C := fun W => ∃ x : Grew w, W = x.1) hm hB ⟨⟨w.drewN 1, (below_drewN (Below.refl _ _) 1)⟩, rfl⟩ (by simpa using h)

theorem grew_below {w w' : World} (h : ∃ x : Grew w, w' = x.1) : Below w.heap.size w w' := by
  obtain ⟨x, rfl⟩ := h
  exact x.2

/-- A callee that makes memory, in a world that has grown. -/
theorem Calls.grew_of {P : Program} {f : FuncId} {args : Array Value} {w : World} {x : Grew w} {v : Value}
    (h : Calls P f args x.1 fun e w' => e = .returned v ∧ Below x.1.heap.size x.1 w') : Calls P f args x.1 fun e w'' => e = .returned v ∧ ∃ y : Grew w, w'' = y.1 :=
  h.mono fun _ w' ⟨he, hb⟩ => ⟨he, ⟨w', x.2.trans (hb.mono x.2.size)⟩, rfl⟩

/-- A run of quiet steps at once. -/
theorem wpSteps_run {P : Program} {ops : Array Oper} {C : World → Prop} {R : Act → World → Prop} {l : List Oper} {w : World} {s : List (Bool × Nat)} : ∀ (is : List Nat) (a : Act), (∀ i ∈ is, i < l.length) →
    wpQuiet P ops C (fun a' => wpSteps P ops C R l s a' w) (is.filterMap (fun i => l[i]?)) a → wpSteps P ops C R l (is.map (fun i => (true, i)) ++ s) a w
  | [], _, _, h => h
  | i :: is, a, hl, h => by
    have hi : i < l.length := hl i (List.mem_cons_self ..)
    have ho : l[i]? = some l[i] := List.getElem?_eq_getElem hi
    have ih := fun a => wpSteps_run (P := P) (ops := ops) (C := C) (R := R) (w := w) (s := s) is a (fun j hj => hl j (List.mem_cons_of_mem _ hj))
    rw [List.filterMap_cons, ho] at h
    refine wpSteps_quiet ho ?_
    show wpQuiet P ops C _ [l[i]] a
    unfold wpQuiet at h ⊢
    split
    · rename_i hw
      rw [if_pos hw] at h
      exact Oper.quiet_mono (fun a' h' => ih a' h') h
    · rename_i hw
      rw [if_neg hw] at h
      exact ih _ h

theorem filterMap_range_take {α : Type} (l : List α) : ∀ n, n ≤ l.length → (List.range n).filterMap (fun i => l[i]?) = l.take n
  | 0, _ => by simp
  | n + 1, h => by
    rw [List.range_succ, List.filterMap_append, filterMap_range_take l n (by omega), List.take_succ_eq_append_getElem (show n < l.length by omega)]
    simp [List.getElem?_eq_getElem (show n < l.length by omega)]

/-- The first n operations, all quiet, at once. -/
theorem wpSteps_pre {P : Program} {ops : Array Oper} {C : World → Prop} {R : Act → World → Prop} {l : List Oper} {w : World} {s : List (Bool × Nat)} (n : Nat) (hn : n ≤ l.length) {a : Act}
    (h : wpQuiet P ops C (fun a' => wpSteps P ops C R l s a' w) (l.take n) a) : wpSteps P ops C R l ((List.range n).map (fun i => (true, i)) ++ s) a w :=
  wpSteps_run (List.range n) a (fun i hi => by have := List.mem_range.1 hi; omega) (by rw [filterMap_range_take l n hn]; exact h)

end Go.Proofs.Ytagnjhhbbjbhcaa
