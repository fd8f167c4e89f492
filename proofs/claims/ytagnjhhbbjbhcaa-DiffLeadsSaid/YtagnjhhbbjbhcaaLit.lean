/- Worlds and changes that are written out. -/
import Derived.Test.YtagnjhhbbjbhcaaPApply
import Derived.Test.YtagnjhhbbjbhcaaPTool
import Derived.Test.YtagnjhhbbjbhcaaSameW
import Derived.Test.YtagnjhhbbjbhcaaSameAll
namespace Go.Proofs.Ytagnjhhbbjbhcaa
open Go.RowKit

/-- A block that was just built reads as a slice. -/
theorem sl_blk {α : Type} {R : World → Value → α → Prop} {w : World} {b : Nat} {t : TypeId} (us : List Value) (xs : List α) (h : w.heap[b]? = some (.cells us.toArray t (0, 0))) (hl : us.length = xs.length) (hs : xs.length ≤ 100000)
    (hR : ∀ j (h1 : j < us.length) (h2 : j < xs.length), R w us[j] xs[j]) : SlV R AnyB w (.slice (some ⟨b, 0, none⟩) xs.length xs.length) xs := by
  refine ⟨_, _, rfl, fun _ => ⟨_, _, rfl⟩, Nat.le_refl _, by unfold maxLen; omega, fun _ => trivial, fun j hj => ⟨us[j]'(by omega), ?_, hR j (by omega) hj⟩⟩
  rw [slb_some, slo_some, Nat.zero_add, cell_of_row w b j us.toArray t (0, 0) h]
  simp

theorem ints_blk {w : World} {b : Nat} {t : TypeId} (xs : List Int) (h : w.heap[b]? = some (.cells (xs.map (Value.int .i64)).toArray t (0, 0))) (hs : xs.length ≤ 100000) : IntsV AnyB w (.slice (some ⟨b, 0, none⟩) xs.length xs.length) xs :=
  sl_blk (xs.map (Value.int .i64)) xs h (by simp) hs (fun j h1 h2 => by simp)

/-- A block of changes that was just built. -/
theorem ch_blk {w : World} {b : Nat} {t : TypeId} (cs : List Chg) (us : List Value) (h : w.heap[b]? = some (.cells (flatC cs us).toArray t (0, 0))) (hl : us.length = cs.length) (hs : cs.length ≤ 100000)
    (hR : ∀ j (h1 : j < us.length) (h2 : j < cs.length), IntsV AnyB w us[j] cs[j].values) : ChV AnyB w (.slice (some ⟨b, 0, none⟩) cs.length cs.length) cs := by
  refine ⟨_, _, rfl, fun _ => ⟨_, _, rfl⟩, Nat.le_refl _, by unfold maxLen; omega, fun _ => trivial, fun j hj => ⟨us[j]'(by omega), fun i x hx => ?_, hR j (by omega) hj⟩⟩
  have hi : i < 6 := by
    have := (List.getElem?_eq_some_iff.1 hx).1
    exact this
  rw [slb_some, slo_some, Nat.zero_add, cell_of_row w b _ (flatC cs us).toArray t (0, 0) h, ← hx, ← flatC_at cs us j hj (by omega) i hi]
  simp

/-- Two records. -/
theorem lit2 (w : World) (N : Nat) (hN : N = w.heap.size) (r s : List Int) (hr : r.length ≤ 10) (hs : s.length ≤ 10) (t1 t2 t3 t4 : TypeId) :
    WorldV AnyB ((((w.alloc (.cells (r.map (Value.int .i64)).toArray t1)).alloc (.cells (s.map (Value.int .i64)).toArray t2)).alloc (.cells #[.slice (some ⟨N, 0, none⟩) r.length r.length, .slice (some ⟨N + 1, 0, none⟩) s.length s.length] t3)).alloc (.cells #[.slice (some ⟨N + 1 + 1, 0, none⟩) 2 2] t4))
        (.slice (some ⟨N + 1 + 1 + 1, 0, none⟩) 1 1) [[r, s]] ∧
      Below w.heap.size w ((((w.alloc (.cells (r.map (Value.int .i64)).toArray t1)).alloc (.cells (s.map (Value.int .i64)).toArray t2)).alloc (.cells #[.slice (some ⟨N, 0, none⟩) r.length r.length, .slice (some ⟨N + 1, 0, none⟩) s.length s.length] t3)).alloc (.cells #[.slice (some ⟨N + 1 + 1, 0, none⟩) 2 2] t4)) := by
  subst hN
  refine ⟨?_, ((((Below.refl _ _).alloc (Nat.le_refl _) _).alloc (by simp) _).alloc (by simp; omega) _).alloc (by simp; omega) _⟩
  generalize hw : ((((w.alloc (.cells (r.map (Value.int .i64)).toArray t1)).alloc (.cells (s.map (Value.int .i64)).toArray t2)).alloc (.cells #[.slice (some ⟨w.heap.size, 0, none⟩) r.length r.length, .slice (some ⟨w.heap.size + 1, 0, none⟩) s.length s.length] t3)).alloc (.cells #[.slice (some ⟨w.heap.size + 1 + 1, 0, none⟩) 2 2] t4)) = w1
  have h0 : w1.heap[w.heap.size]? = some (.cells (r.map (Value.int .i64)).toArray t1 (0, 0)) := by
    subst hw; exact heap_step _ (heap_step _ (heap_step _ (heap_new _ _ rfl)))
  have h1 : w1.heap[w.heap.size + 1]? = some (.cells (s.map (Value.int .i64)).toArray t2 (0, 0)) := by
    subst hw; exact heap_step _ (heap_step _ (heap_new _ _ (by simp)))
  have h2 : w1.heap[w.heap.size + 1 + 1]? = some (.cells #[.slice (some ⟨w.heap.size, 0, none⟩) r.length r.length, .slice (some ⟨w.heap.size + 1, 0, none⟩) s.length s.length] t3 (0, 0)) := by
    subst hw; exact heap_step _ (heap_new _ _ (by simp))
  have h3 : w1.heap[w.heap.size + 1 + 1 + 1]? = some (.cells #[.slice (some ⟨w.heap.size + 1 + 1, 0, none⟩) 2 2] t4 (0, 0)) := by
    subst hw; exact heap_new _ _ (by simp)
  clear hw
  refine sl_blk [_] [[r, s]] h3 rfl (by simp) (fun j g1 g2 => ?_)
  obtain rfl : j = 0 := by simp at g1; omega
  refine sl_blk [_, _] [r, s] h2 rfl (by simp) (fun j g1 g2 => ?_)
  match j, g1 with
  | 0, _ => exact ints_blk r h0 (by omega)
  | 1, _ => exact ints_blk s h1 (by omega)

/-- Three records. -/
theorem lit3 (w : World) (N : Nat) (hN : N = w.heap.size) (r s q : List Int) (hr : r.length ≤ 10) (hs : s.length ≤ 10) (hq : q.length ≤ 10) (t1 t2 t3 t4 t5 : TypeId) :
    WorldV AnyB (((((w.alloc (.cells (r.map (Value.int .i64)).toArray t1)).alloc (.cells (s.map (Value.int .i64)).toArray t2)).alloc (.cells (q.map (Value.int .i64)).toArray t3)).alloc (.cells #[.slice (some ⟨N, 0, none⟩) r.length r.length, .slice (some ⟨N + 1, 0, none⟩) s.length s.length, .slice (some ⟨N + 1 + 1, 0, none⟩) q.length q.length] t4)).alloc (.cells #[.slice (some ⟨N + 1 + 1 + 1, 0, none⟩) 3 3] t5))
        (.slice (some ⟨N + 1 + 1 + 1 + 1, 0, none⟩) 1 1) [[r, s, q]] ∧
      Below w.heap.size w (((((w.alloc (.cells (r.map (Value.int .i64)).toArray t1)).alloc (.cells (s.map (Value.int .i64)).toArray t2)).alloc (.cells (q.map (Value.int .i64)).toArray t3)).alloc (.cells #[.slice (some ⟨N, 0, none⟩) r.length r.length, .slice (some ⟨N + 1, 0, none⟩) s.length s.length, .slice (some ⟨N + 1 + 1, 0, none⟩) q.length q.length] t4)).alloc (.cells #[.slice (some ⟨N + 1 + 1 + 1, 0, none⟩) 3 3] t5)) := by
  subst hN
  refine ⟨?_, (((((Below.refl _ _).alloc (Nat.le_refl _) _).alloc (by simp) _).alloc (by simp; omega) _).alloc (by simp; omega) _).alloc (by simp; omega) _⟩
  generalize hw : (((((w.alloc (.cells (r.map (Value.int .i64)).toArray t1)).alloc (.cells (s.map (Value.int .i64)).toArray t2)).alloc (.cells (q.map (Value.int .i64)).toArray t3)).alloc (.cells #[.slice (some ⟨w.heap.size, 0, none⟩) r.length r.length, .slice (some ⟨w.heap.size + 1, 0, none⟩) s.length s.length, .slice (some ⟨w.heap.size + 1 + 1, 0, none⟩) q.length q.length] t4)).alloc (.cells #[.slice (some ⟨w.heap.size + 1 + 1 + 1, 0, none⟩) 3 3] t5)) = w1
  have h0 : w1.heap[w.heap.size]? = some (.cells (r.map (Value.int .i64)).toArray t1 (0, 0)) := by
    subst hw; exact heap_step _ (heap_step _ (heap_step _ (heap_step _ (heap_new _ _ rfl))))
  have h1 : w1.heap[w.heap.size + 1]? = some (.cells (s.map (Value.int .i64)).toArray t2 (0, 0)) := by
    subst hw; exact heap_step _ (heap_step _ (heap_step _ (heap_new _ _ (by simp))))
  have h2 : w1.heap[w.heap.size + 1 + 1]? = some (.cells (q.map (Value.int .i64)).toArray t3 (0, 0)) := by
    subst hw; exact heap_step _ (heap_step _ (heap_new _ _ (by simp)))
  have h3 : w1.heap[w.heap.size + 1 + 1 + 1]? = some (.cells #[.slice (some ⟨w.heap.size, 0, none⟩) r.length r.length, .slice (some ⟨w.heap.size + 1, 0, none⟩) s.length s.length, .slice (some ⟨w.heap.size + 1 + 1, 0, none⟩) q.length q.length] t4 (0, 0)) := by
    subst hw; exact heap_step _ (heap_new _ _ (by simp))
  have h4 : w1.heap[w.heap.size + 1 + 1 + 1 + 1]? = some (.cells #[.slice (some ⟨w.heap.size + 1 + 1 + 1, 0, none⟩) 3 3] t5 (0, 0)) := by
    subst hw; exact heap_new _ _ (by simp)
  clear hw
  refine sl_blk [_] [[r, s, q]] h4 rfl (by simp) (fun j g1 g2 => ?_)
  obtain rfl : j = 0 := by simp at g1; omega
  refine sl_blk [_, _, _] [r, s, q] h3 rfl (by simp) (fun j g1 g2 => ?_)
  match j, g1 with
  | 0, _ => exact ints_blk r h0 (by omega)
  | 1, _ => exact ints_blk s h1 (by omega)
  | 2, _ => exact ints_blk q h2 (by omega)

def liA : List (List (List Int)) := [[[1, 2], [3, 4]]]
def liB : List (List (List Int)) := [[[1, 5], [3, 4], [6, 7]]]
def liC : List (List (List Int)) := [[[1, 2], [5, 6]]]
def liD : List (List (List Int)) := [[[1, 2, 3], [4, 5, 6]]]
def liE : List (List (List Int)) := [[[1, 2, 3], [7, 8, 9]]]
def wantL : List Chg := [⟨0, 0, 1, 2, 5, []⟩, ⟨0, 2, -1, 0, 0, [6, 7]⟩]
theorem lit_want (w : World) (t1 t2 : TypeId) : ChV AnyB ((w.alloc (.cells #[.int .i64 6, .int .i64 7] t1)).alloc (.cells #[.int .i64 0, .int .i64 0, .int .i64 1, .int .i64 2, .int .i64 5, .slice none 0 0, .int .i64 0, .int .i64 2, .int .i64 (-1), .int .i64 0, .int .i64 0, .slice (some ⟨w.heap.size, 0, none⟩) 2 2] t2))
      (.slice (some ⟨w.heap.size + 1, 0, none⟩) 2 2) wantL ∧ Below w.heap.size w ((w.alloc (.cells #[.int .i64 6, .int .i64 7] t1)).alloc (.cells #[.int .i64 0, .int .i64 0, .int .i64 1, .int .i64 2, .int .i64 5, .slice none 0 0, .int .i64 0, .int .i64 2, .int .i64 (-1), .int .i64 0, .int .i64 0, .slice (some ⟨w.heap.size, 0, none⟩) 2 2] t2)) := by
  refine ⟨?_, ((Below.refl _ _).alloc (Nat.le_refl _) _).alloc (by simp) _⟩
  refine ch_blk wantL [.slice none 0 0, .slice (some ⟨w.heap.size, 0, none⟩) 2 2] (heap_new _ _ (by simp)) rfl (by decide) (fun j g1 g2 => ?_)
  match j, g1 with
  | 0, _ => exact SlV.nil _ _ _
  | 1, _ => exact ints_blk [6, 7] (heap_step _ (heap_new _ _ rfl)) (by decide)
theorem li_diff1 : diffC liA liB = wantL ∧ diffE liA liB = 0 := by decide
theorem li_apply : applyL liA wantL = (0, liB) := by decide
theorem li_diff2 : diffC liA liC = [⟨0, 1, 0, 3, 5, []⟩, ⟨0, 1, 1, 4, 6, []⟩] ∧ diffE liA liC = 0 := by decide
theorem li_diff3 : diffC liD liE = [⟨0, 1, -2, 0, 0, [4, 5, 6]⟩, ⟨0, 1, -1, 0, 0, [7, 8, 9]⟩] ∧ diffE liD liE = 0 := by decide

end Go.Proofs.Ytagnjhhbbjbhcaa
