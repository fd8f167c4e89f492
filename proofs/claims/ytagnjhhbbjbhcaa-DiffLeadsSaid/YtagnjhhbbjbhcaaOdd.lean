/- odd: a world with something changed. -/
import Derived.Test.YtagnjhhbbjbhcaaBorrow
import Derived.Test.YtagnjhhbbjbhcaaQG
import Derived.Test.YtagnjhhbbjbhcaaApTool
import Derived.Test.YtagnjhhbbjbhcaaPTool
namespace Go.Proofs.Ytagnjhhbbjbhcaa
open Go.RowKit

/-- No part of a world is longer than 1000. -/
def Tiny (W : List (List (List Int))) : Prop := W.length ≤ 1000 ∧ ∀ rows ∈ W, rows.length ≤ 1000 ∧ ∀ r ∈ rows, r.length ≤ 1000
theorem Tiny.small {W : List (List (List Int))} (h : Tiny W) : Small W :=
  ⟨by have := h.1; omega, fun rows hr => ⟨by have := (h.2 rows hr).1; omega, fun r hr' => by have := (h.2 rows hr).2 r hr'; omega⟩⟩
theorem Tiny.set {W : List (List (List Int))} (h : Tiny W) {k : Nat} {R : List (List Int)} (hR : R.length ≤ 100000 ∧ ∀ r ∈ R, r.length ≤ 100000) : Small (W.set k R) := by
  refine ⟨by rw [List.length_set]; have := h.1; omega, fun rows hr => ?_⟩
  rcases mem_set hr with rfl | hr
  · exact hR
  · exact h.small.2 rows hr

/-- A block that was just built is a row of the call's own. -/
theorem ownsRow_blk {w : World} {b : Nat} {t : TypeId} (us : List Value) (h : w.heap[b]? = some (.cells us.toArray t (0, 0))) (hs : us.length ≤ 100000) : w.ownsRow 0 t 1 (.slice (some ⟨b, 0, none⟩) us.length us.length) us.length us :=
  ⟨by simp, .inr ⟨b, us.length, us.toArray, rfl, Nat.zero_le _, h, Nat.le_refl _, by unfold maxLen; omega, by simp, by simp⟩⟩
theorem intsF_blk {S : Nat → Prop} {w : World} {b : Nat} (xs : List Int) (h : w.heap[b]? = some (.cells (xs.map (Value.int .i64)).toArray 3 (0, 0))) (hs : xs.length ≤ 100000) (hb : S b) : IntsF S w (.slice (some ⟨b, 0, none⟩) xs.length xs.length) xs := by
  have h1 := ownsRow_blk (xs.map (Value.int .i64)) h (by simpa using hs)
  simp only [List.length_map] at h1
  exact ⟨h1, fun b' hb' => by simp [Value.ownBlock] at hb'; exact hb' ▸ hb⟩
/-- One record. -/
theorem rowsF_one {S : Nat → Prop} {w : World} {b c : Nat} (xs : List Int) (hx : w.heap[b]? = some (.cells (xs.map (Value.int .i64)).toArray 3 (0, 0))) (hs : xs.length ≤ 100000)
    (h : w.heap[c]? = some (.cells #[.slice (some ⟨b, 0, none⟩) xs.length xs.length] 22 (0, 0))) (hb : S b) (hc : S c) (hbc : b ≠ c) : RowsF S w (.slice (some ⟨c, 0, none⟩) 1 1) [xs] := by
  refine ⟨fun b' hb' => by simp [Value.ownBlock] at hb'; exact hb' ▸ hc, [.slice (some ⟨b, 0, none⟩) xs.length xs.length], fun _ => 0, ownsRow_blk [_] h (by simp), rfl, fun j h1 h2 => ?_⟩
  obtain rfl : j = 0 := by simp at h1; omega
  refine intsF_blk xs hx hs ⟨hb, fun e => ?_, rfl⟩
  simp [Value.ownBlock] at e
  exact hbc e

def zeroCells (n : Nat) : Array Value := ((List.replicate n (0 : Int)).map (Value.int .i64)).toArray
theorem madeCells_zero (n : Nat) : madeCells (Value.int .i64 0).cells (n * 1) = zeroCells n := by
  apply Array.ext
  · simp [madeCells, zeroCells]
  · intro i h1 h2
    simp [madeCells, zeroCells, Value.cells, Nat.mod_one]
/-- 'make([]int, n)'. -/
theorem run_mkZero {P : Program} {t e : TypeId} {b : Nat} (ht : P.underlying t = some (.slice e)) (hi : (P.info? e).map (fun i => (i.zero, i.size, i.bytes)) = some (some (.int .i64 0), 1, b)) (hb : b ≤ 1000)
    (n : Nat) (hn : n ≤ 1000000) (w : World) :
    (Instr.makeSlice t (.int .i64 (n : Int)) (.int .i64 (n : Int))).run P w = .ok (.slice (some ⟨w.heap.size, 0, none⟩) n n) (w.alloc (.cells (zeroCells n) e)) := by
  obtain ⟨i, h1, h2, h3, h4⟩ := info_parts hi
  have hy : (i.bytes : Int) * (n : Int) ≤ 281474976710656 := by
    have h : i.bytes * n ≤ 1000 * 1000000 := Nat.mul_le_mul (by omega) hn
    have : ((i.bytes * n : Nat) : Int) ≤ 281474976710656 := by omega
    rwa [Int.natCast_mul] at this
  have hr := run_make (P := P) w t e i (.int .i64 0) ht h1 h2 .i64 .i64 (n : Int) (n : Int) (by omega) (by omega) hy (by omega)
  rw [h3, Int.toNat_natCast, madeCells_zero] at hr
  exact hr
theorem made_zero (w : World) (n : Nat) (hn : n ≤ 100000) : IntsF (fun b => w.heap.size ≤ b) (w.alloc (.cells (zeroCells n) 3)) (.slice (some ⟨w.heap.size, 0, none⟩) n n) (List.replicate n 0) := by
  have h := intsF_blk (S := fun b => w.heap.size ≤ b) (w := w.alloc (.cells (zeroCells n) 3)) (b := w.heap.size) (List.replicate n 0) (heap_new _ _ rfl) (by simpa using hn) (Nat.le_refl _)
  simpa using h

end Go.Proofs.Ytagnjhhbbjbhcaa
