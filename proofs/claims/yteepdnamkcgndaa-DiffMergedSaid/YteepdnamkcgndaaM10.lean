/- Tiny worlds; rows of the call's own; lists of changes are short. (XA10 without odd and DiffFinds.) -/
import Derived.Test.YteepdnamkcgndaaA9
import Derived.Test.YteepdnamkcgndaaA6
import Derived.Test.YteepdnamkcgndaaA8
import Derived.Test.YteepdnamkcgndaaA4
import Derived.Test.YteepdnamkcgndaaA3
import Derived.ProofKit
import Derived.OpenShut
namespace Go.Proofs.Yteepdnamkcgndaa
open Go.RowKit

/-- No part of a world is longer than 1000. -/
def Tiny (W : List (List (List Int))) : Prop := W.length ≤ 1000 ∧ ∀ rows ∈ W, rows.length ≤ 1000 ∧ ∀ r ∈ rows, r.length ≤ 1000
theorem Tiny.small {W : List (List (List Int))} (h : Tiny W) : Small W :=
  ⟨by have := h.1; omega, fun rows hr => ⟨by have := (h.2 rows hr).1; omega, fun r hr' => by have := (h.2 rows hr).2 r hr'; omega⟩⟩
theorem Tiny.set {W : List (List (List Int))} (h : Tiny W) {k : Nat} {R : List (List Int)} (hR : R.length ≤ 100000 ∧ ∀ r ∈ R, r.length ≤ 100000) : Small (W.set k R) := by
  refine ⟨by rw [List.length_set]; have := h.1; omega, fun rows hr => ?_⟩
  rcases mem_set hr with rfl | hr
  · exact hR
  · exact h.small.2 rows hr

/-- A block that was just built is a row of the call's own. -/
theorem ownsRow_blk {w : World} {b : Nat} {t : TypeId} (us : List Value) (h : w.heap[b]? = some (.cells us.toArray t (0, 0))) (hs : us.length ≤ 100000) : w.ownsRow 0 t 1 (.slice (some ⟨b, 0, none⟩) us.length us.length) us.length us :=
  ⟨by simp, .inr ⟨b, us.length, us.toArray, rfl, Nat.zero_le _, h, Nat.le_refl _, by unfold maxLen; omega, by simp, by simp⟩⟩
theorem intsF_blk {S : Nat → Prop} {w : World} {b : Nat} (xs : List Int) (h : w.heap[b]? = some (.cells (xs.map (Value.int .i64)).toArray 3 (0, 0))) (hs : xs.length ≤ 100000) (hb : S b) : IntsF S w (.slice (some ⟨b, 0, none⟩) xs.length xs.length) xs := by
  have h1 := ownsRow_blk (xs.map (Value.int .i64)) h (by simpa using hs)
  simp only [List.length_map] at h1
  exact ⟨h1, fun b' hb' => by simp [Value.ownBlock] at hb'; exact hb' ▸ hb⟩
/-- One record. -/
theorem rowsF_one {S : Nat → Prop} {w : World} {b c : Nat} (xs : List Int) (hx : w.heap[b]? = some (.cells (xs.map (Value.int .i64)).toArray 3 (0, 0))) (hs : xs.length ≤ 100000)
    (h : w.heap[c]? = some (.cells #[.slice (some ⟨b, 0, none⟩) xs.length xs.length] 22 (0, 0))) (hb : S b) (hc : S c) (hbc : b ≠ c) : RowsF S w (.slice (some ⟨c, 0, none⟩) 1 1) [xs] := by
  refine ⟨fun b' hb' => by simp [Value.ownBlock] at hb'; exact hb' ▸ hc, [.slice (some ⟨b, 0, none⟩) xs.length xs.length], fun _ => 0, ownsRow_blk [_] h (by simp), rfl, fun j h1 h2 => ?_⟩
  obtain rfl : j = 0 := by simp at h1; omega
  refine intsF_blk xs hx hs ⟨hb, fun e => ?_, rfl⟩
  simp [Value.ownBlock] at e
  exact hbc e

def zeroCells (n : Nat) : Array Value := ((List.replicate n (0 : Int)).map (Value.int .i64)).toArray
theorem madeCells_zero (n : Nat) : madeCells (Value.int .i64 0).cells (n * 1) = zeroCells n := by
  apply Array.ext
  · simp [madeCells, zeroCells]
  · intro i h1 h2
    simp [madeCells, zeroCells, Value.cells, Nat.mod_one]
/-- 'make([]int, n)'. -/
theorem run_mkZero {P : Program} {t e : TypeId} {b : Nat} (ht : P.underlying t = some (.slice e)) (hi : (P.info? e).map (fun i => (i.zero, i.size, i.bytes)) = some (some (.int .i64 0), 1, b)) (hb : b ≤ 1000)
    (n : Nat) (hn : n ≤ 1000000) (w : World) :
    (Instr.makeSlice t (.int .i64 (n : Int)) (.int .i64 (n : Int))).run P w = .ok (.slice (some ⟨w.heap.size, 0, none⟩) n n) (w.alloc (.cells (zeroCells n) e)) := by
  obtain ⟨i, h1, h2, h3, h4⟩ := info_parts hi
  have hy : (i.bytes : Int) * (n : Int) ≤ 281474976710656 := by
    have h : i.bytes * n ≤ 1000 * 1000000 := Nat.mul_le_mul (by omega) hn
    have : ((i.bytes * n : Nat) : Int) ≤ 281474976710656 := by omega
    rwa [Int.natCast_mul] at this
  have hr := run_make (P := P) w t e i (.int .i64 0) ht h1 h2 .i64 .i64 (n : Int) (n : Int) (by omega) (by omega) hy (by omega)
  rw [h3, Int.toNat_natCast, madeCells_zero] at hr
  exact hr
theorem made_zero (w : World) (n : Nat) (hn : n ≤ 100000) : IntsF (fun b => w.heap.size ≤ b) (w.alloc (.cells (zeroCells n) 3)) (.slice (some ⟨w.heap.size, 0, none⟩) n n) (List.replicate n 0) := by
  have h := intsF_blk (S := fun b => w.heap.size ≤ b) (w := w.alloc (.cells (zeroCells n) 3)) (b := w.heap.size) (List.replicate n 0) (heap_new _ _ rfl) (by simpa using hn) (Nat.le_refl _)
  simpa using h

end Go.Proofs.Yteepdnamkcgndaa

namespace Go.Proofs.Yteepdnamkcgndaa
open Go.RowKit

theorem wf_bounds {n : Int} (h : (Lit.int .i64 n).wf = true) : -9223372036854775808 ≤ n ∧ n ≤ 9223372036854775807 := by
  simp [Lit.wf, IntKind.min, IntKind.max, IntKind.signed, IntKind.bits] at h
  omega

/-- A slice of integers that came in, as the shell of a row's proof tells it. -/
theorem row_ints {w : World} {a : Option Addr} {len cap : Nat} {zs : List Int}
    (h : (a = none ∧ len = 0 ∧ cap = 0 ∧ zs = []) ∨ ∃ x, a = some x ∧ len ≤ cap ∧ cap ≤ maxLen ∧ zs.length = cap ∧ (∀ i, i < zs.length → w.cell? (x.add i) = some (.int .i64 (zs.getD i 0))) ∧ ∀ n ∈ zs, (Lit.int .i64 n).wf = true) :
    IntsV AnyB w (.slice a len cap) (zs.take len) ∧ Fit (zs.take len) := by
  rcases h with ⟨rfl, rfl, rfl, rfl⟩ | ⟨x, rfl, h1, h2, h3, h4, h5⟩
  · exact ⟨SlV.nil _ _ _, fun x hx => by simp at hx⟩
  · have hl : (zs.take len).length = len := by rw [List.length_take]; omega
    refine ⟨⟨some x, cap, by rw [hl], fun h0 => ?_, by omega, h2, fun _ => trivial, fun j hj => ?_⟩, fun n hn => ?_⟩
    · obtain ⟨b, o, e, _⟩ := ints_at h4 (by omega)
      exact ⟨b, o, by rw [e]⟩
    · obtain ⟨b, o, e, hc⟩ := ints_at h4 (by omega)
      subst e
      refine ⟨_, hc j (by omega), ?_⟩
      rw [List.getElem_take, getD_eq (by omega)]
    · exact wf_bounds (h5 n (List.mem_of_mem_take hn))

theorem ShapeW.tiny {s : List Int} {W : List (List (List Int))} (h : ShapeW s W) (hs : ShapeOk s) : Tiny W := by
  refine ⟨by have := h.1; have := hs.1; omega, fun rows hr => ?_⟩
  obtain ⟨k, hk, rfl⟩ := List.getElem_of_mem hr
  obtain ⟨h1, h2⟩ := h.2 k hk
  refine ⟨by omega, fun r hr => ?_⟩
  have h3 := (h2 r hr).1
  have h4 : s.getD k 0 ∈ s := by rw [getD_eq (by have := h.1; omega)]; exact List.getElem_mem _
  have := hs.2 _ h4
  omega

theorem flatMap_len {n b : Nat} {f : Nat → List Chg} (h : ∀ k, k < n → (f k).length ≤ b) : ((List.range n).flatMap f).length ≤ n * b := by
  induction n with
  | zero => simp
  | succ n ih =>
    have h1 := ih (fun k hk => h k (by omega))
    have h2 := h n (by omega)
    rw [List.range_succ, List.flatMap_append, List.length_append]
    simp only [List.flatMap_cons, List.flatMap_nil, List.append_nil]
    rw [Nat.add_mul]
    omega

theorem diffC_len (A B : List (List (List Int))) : (diffC A B).length ≤ 40000 := by
  unfold diffC
  split
  · rename_i h
    obtain ⟨h1, h2, h3, _⟩ := h
    have h4 := h1.2.1
    have h5 := flatMap_len (n := A.length) (b := 6144) (f := fun k : Nat => kindDiff (k : Int) (A.getD k []) (B.getD k [])) (fun k hk => by
      have ha := shaped_kind h1 (List.getElem_mem hk)
      have hb := shaped_kind h2 (List.getElem_mem (show k < B.length by omega))
      rw [getD_eq hk, getD_eq (show k < B.length by omega)]
      have h6 := bestM_len (kind := (k : Int)) (a := A[k]) (b := B[k]) (fun r hr => (ha.2 r hr).1) (min A[k].length B[k].length) (by omega)
      unfold kindDiff
      omega)
    unfold diffL
    omega
  · simp

theorem lit6 (w : World) (t : TypeId) {va vb vc vd ve vf : Value} {A B C D E F : List (List (List Int))} (hA : WorldV AnyB w va A) (hB : WorldV AnyB w vb B) (hC : WorldV AnyB w vc C) (hD : WorldV AnyB w vd D) (hE : WorldV AnyB w ve E) (hF : WorldV AnyB w vf F) :
    SlV (WorldV AnyB) AnyB (w.alloc (.cells #[va, vb, vc, vd, ve, vf] t)) (.slice (some ⟨w.heap.size, 0, none⟩) 6 6) [A, B, C, D, E, F] := by
  have hb : Below w.heap.size w (w.alloc (.cells #[va, vb, vc, vd, ve, vf] t)) := (Below.refl _ _).alloc (Nat.le_refl _) _
  refine sl_blk [va, vb, vc, vd, ve, vf] [A, B, C, D, E, F] (heap_new _ _ rfl) rfl (by simp) (fun j g1 g2 => ?_)
  match j, g1 with
  | 0, _ => exact hA.keep (KeepS.below hb)
  | 1, _ => exact hB.keep (KeepS.below hb)
  | 2, _ => exact hC.keep (KeepS.below hb)
  | 3, _ => exact hD.keep (KeepS.below hb)
  | 4, _ => exact hE.keep (KeepS.below hb)
  | 5, _ => exact hF.keep (KeepS.below hb)

end Go.Proofs.Yteepdnamkcgndaa
