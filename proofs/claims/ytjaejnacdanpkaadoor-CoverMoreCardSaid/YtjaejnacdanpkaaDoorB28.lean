/- The elements of a set, one behind the other; keys. keyOf of the program. part of the program. -/
import Derived.Test.YtjaejnacdanpkaaDoorB21
import Derived.Laws.CopyOwn
namespace Go.Proofs.YtjaejnacdanpkaaDoor
open Go.RowKit

theorem idx_all2 : ∀ a b : Fin 64, 64 * a.val + b.val = 0 ∨ (Cov.idx 0 12 (64 * a.val + b.val) = (Lib.ctz 64 (64 * a.val + b.val) : Int) :: Cov.idx 0 12 ((64 * a.val + b.val) &&& (64 * a.val + b.val - 1)) ∧ ((64 * a.val + b.val) &&& (64 * a.val + b.val - 1)) < 64 * a.val + b.val ∧ Lib.ctz 64 (64 * a.val + b.val) < 12) := by decide +kernel
theorem idx_step (s : Nat) (h : s < 4096) (h0 : s ≠ 0) : Cov.idx 0 12 s = (Lib.ctz 64 s : Int) :: Cov.idx 0 12 (s &&& (s - 1)) ∧ (s &&& (s - 1)) < s ∧ Lib.ctz 64 s < 12 := by
  have := idx_all2 ⟨s / 64, by omega⟩ ⟨s % 64, by omega⟩
  simp only at this
  rw [show 64 * (s / 64) + s % 64 = s by omega] at this
  exact this.resolve_left h0
theorem idx_zero : ∀ (k n : Nat), Cov.idx k n 0 = []
  | _, 0 => rfl
  | k, n + 1 => by simp [Cov.idx, idx_zero (k + 1) n]
theorem idx_more : ∀ (n j k s : Nat), s < 2 ^ n → Cov.idx k (n + j) s = Cov.idx k n s
  | 0, j, k, s, h => by
    have : s = 0 := by simpa using h
    subst this
    rw [idx_zero, idx_zero]
  | n + 1, j, k, s, h => by
    rw [show n + 1 + j = (n + j) + 1 by omega]
    simp only [Cov.idx]
    rw [idx_more n j (k + 1) (s / 2) (by rw [Nat.pow_succ] at h; omega)]
theorem idx12 {n s : Nat} (hn : n ≤ 12) (h : s < 2 ^ n) : Cov.idx 0 12 s = Cov.idx 0 n s := by
  have := idx_more n (12 - n) 0 s h
  rwa [show n + (12 - n) = 12 by omega] at this

/-- A key: eight numbers. -/
def keyL (c : List Int) : List Int := c ++ List.replicate (8 - c.length) (-1)
def keyV (c : List Int) : Value := .agg ((keyL c).map (Value.int .i64)).toArray
theorem keyL_len (c : List Int) (h : c.length ≤ 8) : (keyL c).length = 8 := by simp [keyL]; omega
theorem eight {α : Type} (l : List α) (h : l.length = 8) : ∃ a b c d e f g i, l = [a, b, c, d, e, f, g, i] := by
  match l, h with
  | [a, b, c, d, e, f, g, i], _ => exact ⟨a, b, c, d, e, f, g, i, rfl⟩

/-- The numbers of a row at some places, laid over a key. -/
def layL (row : List Int) (out : List Int) (l : List Int) : List Int := l.foldl (fun o i => o.set i.toNat (row.getD i.toNat 0)) out
theorem lay_mask : ∀ (r p pre suf : List Int) (s : Nat), p.length = pre.length → layL (p ++ r) (pre ++ (List.replicate r.length (-1) ++ suf)) (Cov.idx pre.length r.length s) = pre ++ (Cov.maskC r s ++ suf)
  | [], p, pre, suf, s, _ => by simp [Cov.idx, layL, Cov.maskC]
  | x :: r, p, pre, suf, s, h => by
    simp only [List.length_cons, Cov.idx, Cov.maskC]
    have ih := fun y => lay_mask r (p ++ [x]) (pre ++ [y]) suf (s / 2) (by simp [h])
    simp only [List.append_assoc, List.singleton_append, List.length_append, List.length_singleton] at ih
    by_cases hs : s % 2 = 1
    · rw [if_pos hs, if_pos hs]
      have e1 : (pre ++ (List.replicate (r.length + 1) (-1) ++ suf)).set pre.length x = pre ++ x :: (List.replicate r.length (-1) ++ suf) := by
        rw [List.replicate_succ]; simp
      have e2 : (p ++ x :: r).getD pre.length 0 = x := by
        rw [← h]; simp
      show layL (p ++ x :: r) (pre ++ (List.replicate (r.length + 1) (-1) ++ suf)) ((pre.length : Int) :: Cov.idx (pre.length + 1) r.length (s / 2)) = _
      unfold layL
      rw [List.foldl_cons]
      simp only [Int.toNat_natCast]
      rw [e2, e1]
      have := ih x
      unfold layL at this
      rw [this]
      simp
    · rw [if_neg hs, if_neg hs, List.nil_append, List.replicate_succ]
      have := ih (-1)
      simp only [List.cons_append] at this ⊢
      rw [this]
theorem lay_key (row : List Int) (h : row.length ≤ 8) (s : Nat) (hs : s < 2 ^ row.length) : layL row (List.replicate 8 (-1)) (Cov.idx 0 12 s) = keyL (Cov.maskC row s) := by
  have := lay_mask row [] [] (List.replicate (8 - row.length) (-1)) s rfl
  simp only [List.nil_append, List.length_nil] at this
  rw [idx12 (by omega) hs]
  rw [List.replicate_append_replicate, show row.length + (8 - row.length) = 8 by omega] at this
  rw [this]
  unfold keyL
  rw [Cov.maskC_len]

theorem dec_and (s : Nat) (h : s < 4096) (h0 : s ≠ 0) : bits .and .u64 (s : Int) ((s : Int) - 1) = ((s &&& (s - 1) : Nat) : Int) := by
  rw [show (s : Int) - 1 = ((s - 1 : Nat) : Int) by omega]
  exact bits_and_u64_nat s (s - 1) (by omega) (by omega)

end Go.Proofs.YtjaejnacdanpkaaDoor

namespace Go.Proofs.YtjaejnacdanpkaaDoor
open Go.RowKit

theorem set8 {w : World} {g : Nat} {t : TypeId} {z0 z1 z2 z3 z4 z5 z6 z7 : Value} (x0 x1 x2 x3 x4 x5 x6 x7 : Int) (h : w.heap[g]? = some (.cells #[z0, z1, z2, z3, z4, z5, z6, z7] t (0, 0))) :
    ((((((((w.setCell ⟨g, 0, none⟩ (.int .i64 x0)).setCell ⟨g, 1, none⟩ (.int .i64 x1)).setCell ⟨g, 2, none⟩ (.int .i64 x2)).setCell ⟨g, 3, none⟩ (.int .i64 x3)).setCell ⟨g, 4, none⟩ (.int .i64 x4)).setCell ⟨g, 5, none⟩ (.int .i64 x5)).setCell ⟨g, 6, none⟩ (.int .i64 x6)).setCell ⟨g, 7, none⟩ (.int .i64 x7)).heap[g]? = some (.cells #[.int .i64 x0, .int .i64 x1, .int .i64 x2, .int .i64 x3, .int .i64 x4, .int .i64 x5, .int .i64 x6, .int .i64 x7] t (0, 0)) := by
  have h0 : (w.setCell ⟨g, 0, none⟩ (.int .i64 x0)).heap[g]? = some (.cells #[.int .i64 x0, z1, z2, z3, z4, z5, z6, z7] t (0, 0)) := by simpa using heap_setCell_same _ g 0 _ _ (.int .i64 x0) h
  have h1 : ((w.setCell ⟨g, 0, none⟩ (.int .i64 x0)).setCell ⟨g, 1, none⟩ (.int .i64 x1)).heap[g]? = some (.cells #[.int .i64 x0, .int .i64 x1, z2, z3, z4, z5, z6, z7] t (0, 0)) := by simpa using heap_setCell_same _ g 1 _ _ (.int .i64 x1) h0
  have h2 : (((w.setCell ⟨g, 0, none⟩ (.int .i64 x0)).setCell ⟨g, 1, none⟩ (.int .i64 x1)).setCell ⟨g, 2, none⟩ (.int .i64 x2)).heap[g]? = some (.cells #[.int .i64 x0, .int .i64 x1, .int .i64 x2, z3, z4, z5, z6, z7] t (0, 0)) := by simpa using heap_setCell_same _ g 2 _ _ (.int .i64 x2) h1
  have h3 : ((((w.setCell ⟨g, 0, none⟩ (.int .i64 x0)).setCell ⟨g, 1, none⟩ (.int .i64 x1)).setCell ⟨g, 2, none⟩ (.int .i64 x2)).setCell ⟨g, 3, none⟩ (.int .i64 x3)).heap[g]? = some (.cells #[.int .i64 x0, .int .i64 x1, .int .i64 x2, .int .i64 x3, z4, z5, z6, z7] t (0, 0)) := by simpa using heap_setCell_same _ g 3 _ _ (.int .i64 x3) h2
  have h4 : (((((w.setCell ⟨g, 0, none⟩ (.int .i64 x0)).setCell ⟨g, 1, none⟩ (.int .i64 x1)).setCell ⟨g, 2, none⟩ (.int .i64 x2)).setCell ⟨g, 3, none⟩ (.int .i64 x3)).setCell ⟨g, 4, none⟩ (.int .i64 x4)).heap[g]? = some (.cells #[.int .i64 x0, .int .i64 x1, .int .i64 x2, .int .i64 x3, .int .i64 x4, z5, z6, z7] t (0, 0)) := by simpa using heap_setCell_same _ g 4 _ _ (.int .i64 x4) h3
  have h5 : ((((((w.setCell ⟨g, 0, none⟩ (.int .i64 x0)).setCell ⟨g, 1, none⟩ (.int .i64 x1)).setCell ⟨g, 2, none⟩ (.int .i64 x2)).setCell ⟨g, 3, none⟩ (.int .i64 x3)).setCell ⟨g, 4, none⟩ (.int .i64 x4)).setCell ⟨g, 5, none⟩ (.int .i64 x5)).heap[g]? = some (.cells #[.int .i64 x0, .int .i64 x1, .int .i64 x2, .int .i64 x3, .int .i64 x4, .int .i64 x5, z6, z7] t (0, 0)) := by simpa using heap_setCell_same _ g 5 _ _ (.int .i64 x5) h4
  have h6 : (((((((w.setCell ⟨g, 0, none⟩ (.int .i64 x0)).setCell ⟨g, 1, none⟩ (.int .i64 x1)).setCell ⟨g, 2, none⟩ (.int .i64 x2)).setCell ⟨g, 3, none⟩ (.int .i64 x3)).setCell ⟨g, 4, none⟩ (.int .i64 x4)).setCell ⟨g, 5, none⟩ (.int .i64 x5)).setCell ⟨g, 6, none⟩ (.int .i64 x6)).heap[g]? = some (.cells #[.int .i64 x0, .int .i64 x1, .int .i64 x2, .int .i64 x3, .int .i64 x4, .int .i64 x5, .int .i64 x6, z7] t (0, 0)) := by simpa using heap_setCell_same _ g 6 _ _ (.int .i64 x6) h5
  have h7 : ((((((((w.setCell ⟨g, 0, none⟩ (.int .i64 x0)).setCell ⟨g, 1, none⟩ (.int .i64 x1)).setCell ⟨g, 2, none⟩ (.int .i64 x2)).setCell ⟨g, 3, none⟩ (.int .i64 x3)).setCell ⟨g, 4, none⟩ (.int .i64 x4)).setCell ⟨g, 5, none⟩ (.int .i64 x5)).setCell ⟨g, 6, none⟩ (.int .i64 x6)).setCell ⟨g, 7, none⟩ (.int .i64 x7)).heap[g]? = some (.cells #[.int .i64 x0, .int .i64 x1, .int .i64 x2, .int .i64 x3, .int .i64 x4, .int .i64 x5, .int .i64 x6, .int .i64 x7] t (0, 0)) := by simpa using heap_setCell_same _ g 7 _ _ (.int .i64 x7) h6
  exact h7
theorem set8_below {w : World} {g B : Nat} (x0 x1 x2 x3 x4 x5 x6 x7 : Int) (h : B ≤ g) : Below B w ((((((((w.setCell ⟨g, 0, none⟩ (.int .i64 x0)).setCell ⟨g, 1, none⟩ (.int .i64 x1)).setCell ⟨g, 2, none⟩ (.int .i64 x2)).setCell ⟨g, 3, none⟩ (.int .i64 x3)).setCell ⟨g, 4, none⟩ (.int .i64 x4)).setCell ⟨g, 5, none⟩ (.int .i64 x5)).setCell ⟨g, 6, none⟩ (.int .i64 x6)).setCell ⟨g, 7, none⟩ (.int .i64 x7)) :=
  (((((((((Below.refl _ _).setCell h _).setCell h _).setCell h _).setCell h _).setCell h _).setCell h _).setCell h _).setCell h _)
/-- A key in a result's cells. -/
theorem load_key {w : World} {g : Nat} {x0 x1 x2 x3 x4 x5 x6 x7 : Int} {tmps : Array Value} (h : w.heap[g]? = some (.cells #[.int .i64 x0, .int .i64 x1, .int .i64 x2, .int .i64 x3, .int .i64 x4, .int .i64 x5, .int .i64 x6, .int .i64 x7] 69 (0, 0))) (hp : tmps[2]? = some (.pointer (some ⟨g, 0, none⟩))) :
    (results Tryd.f49 tmps).run Tryd.prog w = .ok (.agg #[.int .i64 x0, .int .i64 x1, .int .i64 x2, .int .i64 x3, .int .i64 x4, .int .i64 x5, .int .i64 x6, .int .i64 x7]) w := by
  have g0 := cell_of_row _ _ 0 _ _ (0, 0) h
  have g1 := cell_of_row _ _ 1 _ _ (0, 0) h
  have g2 := cell_of_row _ _ 2 _ _ (0, 0) h
  have g3 := cell_of_row _ _ 3 _ _ (0, 0) h
  have g4 := cell_of_row _ _ 4 _ _ (0, 0) h
  have g5 := cell_of_row _ _ 5 _ _ (0, 0) h
  have g6 := cell_of_row _ _ 6 _ _ (0, 0) h
  have g7 := cell_of_row _ _ 7 _ _ (0, 0) h
  simp only [List.getElem?_toArray, List.getElem?_cons_zero, List.getElem?_cons_succ] at g0 g1 g2 g3 g4 g5 g6 g7
  simp [results, Tryd.results49, go_sem, hp, g0, g1, g2, g3, g4, g5, g6, g7]

theorem addr_add (b o j : Nat) : (⟨b, o, none⟩ : Addr).add j = ⟨b, o + j, none⟩ := by
  unfold Addr.add
  split
  · rename_i h; subst h; rfl
  · rfl

/-- The cells of a key while it is laid. -/
def kArr : Nat → Array Value
  | 0 => #[.int .i64 0, .int .i64 0, .int .i64 0, .int .i64 0, .int .i64 0, .int .i64 0, .int .i64 0, .int .i64 0]
  | 1 => #[.int .i64 (-1), .int .i64 0, .int .i64 0, .int .i64 0, .int .i64 0, .int .i64 0, .int .i64 0, .int .i64 0]
  | 2 => #[.int .i64 (-1), .int .i64 (-1), .int .i64 0, .int .i64 0, .int .i64 0, .int .i64 0, .int .i64 0, .int .i64 0]
  | 3 => #[.int .i64 (-1), .int .i64 (-1), .int .i64 (-1), .int .i64 0, .int .i64 0, .int .i64 0, .int .i64 0, .int .i64 0]
  | 4 => #[.int .i64 (-1), .int .i64 (-1), .int .i64 (-1), .int .i64 (-1), .int .i64 0, .int .i64 0, .int .i64 0, .int .i64 0]
  | 5 => #[.int .i64 (-1), .int .i64 (-1), .int .i64 (-1), .int .i64 (-1), .int .i64 (-1), .int .i64 0, .int .i64 0, .int .i64 0]
  | 6 => #[.int .i64 (-1), .int .i64 (-1), .int .i64 (-1), .int .i64 (-1), .int .i64 (-1), .int .i64 (-1), .int .i64 0, .int .i64 0]
  | 7 => #[.int .i64 (-1), .int .i64 (-1), .int .i64 (-1), .int .i64 (-1), .int .i64 (-1), .int .i64 (-1), .int .i64 (-1), .int .i64 0]
  | 8 => #[.int .i64 (-1), .int .i64 (-1), .int .i64 (-1), .int .i64 (-1), .int .i64 (-1), .int .i64 (-1), .int .i64 (-1), .int .i64 (-1)]
  | _ => #[]

set_option maxRecDepth 100000 in
set_option maxHeartbeats 4000000 in
theorem keyOf_any (c : List Int) (hc : c.length ≤ 8) (v : Value) (S : Nat → Prop) (w : World) (hv : IntsV S w v c) :
    Calls Tryd.prog 49 #[v] w fun e w' => e = .returned (keyV c) ∧ Below w.heap.size w w' := by
  have hv0 : IntsV (· < w.heap.size) w v c := IntsV.mono hv (fun b h _ => h)
  obtain ⟨a, cap, rfl, hok, hcap, hmax⟩ := hv.form
  have HV := hid hv0
  clear hv hv0
  go_enter Tryd.func49, Tryd.ntmps49
  go_wp2
  go_loopw [5] (fun i wr => ∃ k : Nat, k ≤ 8 ∧ i = .int .i64 k ∧ wr = (w.alloc (.cells (kArr 0) 69)).alloc (.cells (kArr k) 69)) (fun i _ => 8 - (intOf i).toNat)
  case atStart => exact ⟨0, by omega, rfl, rfl⟩
  case round =>
    obtain ⟨k, hk, rfl, rfl⟩ := hrel
    obtain rfl | rfl | rfl | rfl | rfl | rfl | rfl | rfl | rfl : k = 0 ∨ k = 1 ∨ k = 2 ∨ k = 3 ∨ k = 4 ∨ k = 5 ∨ k = 6 ∨ k = 7 ∨ k = 8 := by omega
    · simp only [kArr]
      go_wp2
      go_roundw
      case rel => exact ⟨1, by omega, rfl, rfl⟩
      case measure => simp [intOf]
    · simp only [kArr]
      go_wp2
      go_roundw
      case rel => exact ⟨2, by omega, rfl, rfl⟩
      case measure => simp [intOf]
    · simp only [kArr]
      go_wp2
      go_roundw
      case rel => exact ⟨3, by omega, rfl, rfl⟩
      case measure => simp [intOf]
    · simp only [kArr]
      go_wp2
      go_roundw
      case rel => exact ⟨4, by omega, rfl, rfl⟩
      case measure => simp [intOf]
    · simp only [kArr]
      go_wp2
      go_roundw
      case rel => exact ⟨5, by omega, rfl, rfl⟩
      case measure => simp [intOf]
    · simp only [kArr]
      go_wp2
      go_roundw
      case rel => exact ⟨6, by omega, rfl, rfl⟩
      case measure => simp [intOf]
    · simp only [kArr]
      go_wp2
      go_roundw
      case rel => exact ⟨7, by omega, rfl, rfl⟩
      case measure => simp [intOf]
    · simp only [kArr]
      go_wp2
      go_roundw
      case rel => exact ⟨8, by omega, rfl, rfl⟩
      case measure => simp [intOf]
    simp only [kArr]
    have hb0 : Below w.heap.size w ((w.alloc (.cells #[.int .i64 0, .int .i64 0, .int .i64 0, .int .i64 0, .int .i64 0, .int .i64 0, .int .i64 0, .int .i64 0] 69)).alloc (.cells #[.int .i64 (-1), .int .i64 (-1), .int .i64 (-1), .int .i64 (-1), .int .i64 (-1), .int .i64 (-1), .int .i64 (-1), .int .i64 (-1)] 69)) := ((Below.refl _ _).alloc (Nat.le_refl _) _).alloc (by simp) _
    have HZ0 := hid (heap_step (.cells #[.int .i64 (-1), .int .i64 (-1), .int .i64 (-1), .int .i64 (-1), .int .i64 (-1), .int .i64 (-1), .int .i64 (-1), .int .i64 (-1)] 69) (heap_new (k := w.heap.size) w (.cells #[.int .i64 0, .int .i64 0, .int .i64 0, .int .i64 0, .int .i64 0, .int .i64 0, .int .i64 0, .int .i64 0] 69) rfl))
    have HG := hid (heap_new (k := w.heap.size + 1) (w.alloc (.cells #[.int .i64 0, .int .i64 0, .int .i64 0, .int .i64 0, .int .i64 0, .int .i64 0, .int .i64 0, .int .i64 0] 69)) (.cells #[.int .i64 (-1), .int .i64 (-1), .int .i64 (-1), .int .i64 (-1), .int .i64 (-1), .int .i64 (-1), .int .i64 (-1), .int .i64 (-1)] 69) (by simp))
    have HVW := hid (IntsV.keep HV.out (KeepS.below hb0))
    have HB0 := hid hb0
    clear hb0
    have HPos : Hid (0 < (c.map (Value.int .i64)).length → ∃ ad, a = some ad ∧ ∀ j v, (c.map (Value.int .i64))[j]? = some v → ((w.alloc (.cells #[.int .i64 0, .int .i64 0, .int .i64 0, .int .i64 0, .int .i64 0, .int .i64 0, .int .i64 0, .int .i64 0] 69)).alloc (.cells #[.int .i64 (-1), .int .i64 (-1), .int .i64 (-1), .int .i64 (-1), .int .i64 (-1), .int .i64 (-1), .int .i64 (-1), .int .i64 (-1)] 69)).cell? (ad.add j) = some v) := hid (fun h0 => by
      obtain ⟨b, o, rfl⟩ := hok (by simpa using h0)
      refine ⟨_, rfl, fun j v hj => ?_⟩
      rw [List.getElem?_map] at hj
      obtain ⟨x, hx, rfl⟩ := Option.map_eq_some_iff.1 hj
      obtain ⟨hlt, hx⟩ := List.getElem?_eq_some_iff.1 hx
      obtain ⟨u, hu, -, hu2⟩ := HVW.out.at hlt
      rw [hu2, hx] at hu
      rw [addr_add]
      exact hu)
    generalize hWW : (w.alloc (.cells #[.int .i64 0, .int .i64 0, .int .i64 0, .int .i64 0, .int .i64 0, .int .i64 0, .int .i64 0, .int .i64 0] 69)).alloc (.cells #[.int .i64 (-1), .int .i64 (-1), .int .i64 (-1), .int .i64 (-1), .int .i64 (-1), .int .i64 (-1), .int .i64 (-1), .int .i64 (-1)] 69) = W at *
    clear hWW
    go_wp2_with (refine wpList_copy_splice (o := ⟨some 13, _, _, _, _, _⟩) rfl (.tmp 11) (.tmp 12) 22 22 rfl 3 (by kernel_rfl) (by kernel_rfl) (some ⟨w.heap.size + 1, 0, none⟩) a 8 8 c.length cap rfl rfl (w.heap.size + 1) 0 (List.replicate 8 (.int .i64 (-1))) 69 HG.out (c.map (Value.int .i64)) (by rw [List.length_map]; exact (Nat.min_eq_left hc).symm) (fun h0 => ⟨rfl, HPos.out h0⟩) (by simp; omega) (by simp [Value.oneCell']) (w.heap.size + 1) W (Below.refl _ _) (Nat.le_refl _) ?_)
    intro w2 HG2 hB2
    have hz2 : w2.heap[w.heap.size]? = some (.cells #[.int .i64 0, .int .i64 0, .int .i64 0, .int .i64 0, .int .i64 0, .int .i64 0, .int .i64 0, .int .i64 0] 69 (0, 0)) := (hB2.block _ (by omega)).trans HZ0.out
    have hsp : splice ([.int .i64 (-1), .int .i64 (-1), .int .i64 (-1), .int .i64 (-1), .int .i64 (-1), .int .i64 (-1), .int .i64 (-1), .int .i64 (-1)] : List Value) 0 (c.map (Value.int .i64)) = (keyL c).map (Value.int .i64) := by
      rw [show ([.int .i64 (-1), .int .i64 (-1), .int .i64 (-1), .int .i64 (-1), .int .i64 (-1), .int .i64 (-1), .int .i64 (-1), .int .i64 (-1)] : List Value) = List.replicate 8 (.int .i64 (-1)) from rfl]
      unfold splice keyL
      rw [List.take_zero, List.nil_append, Nat.zero_add, List.length_map, List.drop_replicate, List.map_append, List.map_replicate]
    have hg2 := HG2.out
    rw [hsp] at hg2
    obtain ⟨x0, x1, x2, x3, x4, x5, x6, x7, he⟩ := eight (keyL c) (keyL_len c hc)
    have HKV : Hid (keyV c = .agg #[.int .i64 x0, .int .i64 x1, .int .i64 x2, .int .i64 x3, .int .i64 x4, .int .i64 x5, .int .i64 x6, .int .i64 x7]) := hid (by unfold keyV; rw [he]; rfl)
    rw [he] at hg2
    simp only [List.map_cons, List.map_nil] at hg2
    have g0 := cell_of_row _ _ 0 _ _ (0, 0) hg2
    have g1 := cell_of_row _ _ 1 _ _ (0, 0) hg2
    have g2 := cell_of_row _ _ 2 _ _ (0, 0) hg2
    have g3 := cell_of_row _ _ 3 _ _ (0, 0) hg2
    have g4 := cell_of_row _ _ 4 _ _ (0, 0) hg2
    have g5 := cell_of_row _ _ 5 _ _ (0, 0) hg2
    have g6 := cell_of_row _ _ 6 _ _ (0, 0) hg2
    have g7 := cell_of_row _ _ 7 _ _ (0, 0) hg2
    simp only [List.getElem?_toArray, List.getElem?_cons_zero, List.getElem?_cons_succ] at g0 g1 g2 g3 g4 g5 g6 g7
    have z0 := cell_of_row _ _ 0 _ _ (0, 0) hz2
    have f0 := frozen_of_row _ _ 0 _ _ hz2
    have z1 := cell_of_row _ _ 1 _ _ (0, 0) hz2
    have f1 := frozen_of_row _ _ 1 _ _ hz2
    have z2 := cell_of_row _ _ 2 _ _ (0, 0) hz2
    have f2 := frozen_of_row _ _ 2 _ _ hz2
    have z3 := cell_of_row _ _ 3 _ _ (0, 0) hz2
    have f3 := frozen_of_row _ _ 3 _ _ hz2
    have z4 := cell_of_row _ _ 4 _ _ (0, 0) hz2
    have f4 := frozen_of_row _ _ 4 _ _ hz2
    have z5 := cell_of_row _ _ 5 _ _ (0, 0) hz2
    have f5 := frozen_of_row _ _ 5 _ _ hz2
    have z6 := cell_of_row _ _ 6 _ _ (0, 0) hz2
    have f6 := frozen_of_row _ _ 6 _ _ hz2
    have z7 := cell_of_row _ _ 7 _ _ (0, 0) hz2
    have f7 := frozen_of_row _ _ 7 _ _ hz2
    simp only [List.getElem?_toArray, List.getElem?_cons_zero, List.getElem?_cons_succ] at z0 z1 z2 z3 z4 z5 z6 z7
    have HW2 := hid (HB0.out.trans (hB2.mono (by omega)))
    have HZ2 := hid hz2
    clear hsp he hg2 HG2 hB2 hz2 HVW HPos HG HZ0 HB0
    go_wp2
    refine bodyPost_ret (load_key (set8 x0 x1 x2 x3 x4 x5 x6 x7 HZ2.out) rfl) rfl ⟨by rw [HKV.out], HW2.out.trans (set8_below x0 x1 x2 x3 x4 x5 x6 x7 (Nat.le_refl _))⟩

end Go.Proofs.YtjaejnacdanpkaaDoor

namespace Go.Proofs.YtjaejnacdanpkaaDoor
open Go.RowKit

theorem load_part {w : World} {g : Nat} {x0 x1 x2 x3 x4 x5 x6 x7 : Int} {tmps : Array Value} (h : w.heap[g]? = some (.cells #[.int .i64 x0, .int .i64 x1, .int .i64 x2, .int .i64 x3, .int .i64 x4, .int .i64 x5, .int .i64 x6, .int .i64 x7] 69 (0, 0))) (hp : tmps[4]? = some (.pointer (some ⟨g, 0, none⟩))) :
    (results Tryd.f37 tmps).run Tryd.prog w = .ok (.agg #[.int .i64 x0, .int .i64 x1, .int .i64 x2, .int .i64 x3, .int .i64 x4, .int .i64 x5, .int .i64 x6, .int .i64 x7]) w := by
  have g0 := cell_of_row _ _ 0 _ _ (0, 0) h
  have g1 := cell_of_row _ _ 1 _ _ (0, 0) h
  have g2 := cell_of_row _ _ 2 _ _ (0, 0) h
  have g3 := cell_of_row _ _ 3 _ _ (0, 0) h
  have g4 := cell_of_row _ _ 4 _ _ (0, 0) h
  have g5 := cell_of_row _ _ 5 _ _ (0, 0) h
  have g6 := cell_of_row _ _ 6 _ _ (0, 0) h
  have g7 := cell_of_row _ _ 7 _ _ (0, 0) h
  simp only [List.getElem?_toArray, List.getElem?_cons_zero, List.getElem?_cons_succ] at g0 g1 g2 g3 g4 g5 g6 g7
  simp [results, Tryd.results37, go_sem, hp, g0, g1, g2, g3, g4, g5, g6, g7]

theorem layL_cons (row out : List Int) (i : Nat) (l : List Int) (h : i < row.length) : layL row out ((i : Int) :: l) = layL row (out.set i row[i]) l := by
  show layL row (out.set (i : Int).toNat (row.getD (i : Int).toNat 0)) l = _
  rw [Int.toNat_natCast, List.getD_eq_getElem?_getD, List.getElem?_eq_getElem h]; rfl

set_option maxRecDepth 100000 in
set_option maxHeartbeats 4000000 in
theorem part_any (row : List Int) (hr : row.length ≤ 8) (s : Nat) (hs : s < 2 ^ row.length) (v : Value) (S : Nat → Prop) (w : World) (hv : IntsV S w v row) (hT : TabD w) :
    Calls Tryd.prog 37 #[v, .int .u64 s] w fun e w' => e = .returned (keyV (Cov.maskC row s)) ∧ Below w.heap.size w w' := by
  have hv0 : IntsV (· < w.heap.size) w v row := IntsV.mono hv (fun b h _ => h)
  obtain ⟨a, cap, rfl, hok, hcap, hmax⟩ := hv.form
  have HV := hid hv0
  have h256 : 2 ^ row.length ≤ 256 := Nat.le_trans (Nat.pow_le_pow_right (by omega) hr) (by decide)
  have HFin := hid (lay_key row hr s hs)
  have hml : (Cov.maskC row s).length ≤ 8 := by rw [Cov.maskC_len]; exact hr
  have HTab := hid hT
  have HGE := hid (fun s' (h : s' < 2 ^ row.length) i l (h2 : Cov.idx 0 12 s' = i :: l) => by
    have := Cov.idx_ge 0 row.length s' i (by rw [← idx12 (by omega) h, h2]; exact List.mem_cons_self ..)
    exact (show 0 ≤ i ∧ i < (row.length : Int) by omega))
  have hA : Below w.heap.size w (w.alloc (.cells #[.int .i64 0, .int .i64 0, .int .i64 0, .int .i64 0, .int .i64 0, .int .i64 0, .int .i64 0, .int .i64 0] 69)) := (Below.refl _ _).alloc (Nat.le_refl _) _
  have HZ0 := hid (heap_new (k := w.heap.size) w (.cells #[.int .i64 0, .int .i64 0, .int .i64 0, .int .i64 0, .int .i64 0, .int .i64 0, .int .i64 0, .int .i64 0] 69) rfl)
  have HKey := hid (keyOf_any [] (by simp) (.slice none 0 0) AnyB (w.alloc (.cells #[.int .i64 0, .int .i64 0, .int .i64 0, .int .i64 0, .int .i64 0, .int .i64 0, .int .i64 0, .int .i64 0] 69)) (SlV.nil _ _ _))
  have hk0 : keyV [] = .agg #[.int .i64 (-1), .int .i64 (-1), .int .i64 (-1), .int .i64 (-1), .int .i64 (-1), .int .i64 (-1), .int .i64 (-1), .int .i64 (-1)] := rfl
  rw [hk0] at HKey
  have HA := hid hA
  have hs1 : (w.alloc (.cells #[.int .i64 0, .int .i64 0, .int .i64 0, .int .i64 0, .int .i64 0, .int .i64 0, .int .i64 0, .int .i64 0] 69)).heap.size = w.heap.size + 1 := by simp
  have HS1 := hid hs1
  clear hv hv0 hT hA hk0 hs1
  generalize Cov.maskC row s = fin at *
  generalize 2 ^ row.length = M at *
  go_enter Tryd.func37, Tryd.ntmps37
  go_wp2_with fail
  generalize hW : w.alloc (.cells #[.int .i64 0, .int .i64 0, .int .i64 0, .int .i64 0, .int .i64 0, .int .i64 0, .int .i64 0, .int .i64 0] 69) = W at *
  clear hW
  refine HKey.out.mono ?_
  rintro e w2 ⟨rfl, hb2⟩
  have hsz2 : w.heap.size + 1 ≤ w2.heap.size := by have := hb2.size; rw [HS1.out] at this; exact this
  have HB2 := hid hb2
  clear hb2 HKey
  go_wp2
  have hw3 : Below w2.heap.size w2 (w2.alloc (.cells #[.int .i64 (-1), .int .i64 (-1), .int .i64 (-1), .int .i64 (-1), .int .i64 (-1), .int .i64 (-1), .int .i64 (-1), .int .i64 (-1)] 69)) := (Below.refl _ _).alloc (Nat.le_refl _) _
  have hn5 : (w2.alloc (.cells #[.int .i64 (-1), .int .i64 (-1), .int .i64 (-1), .int .i64 (-1), .int .i64 (-1), .int .i64 (-1), .int .i64 (-1), .int .i64 (-1)] 69)).heap[w2.heap.size]? = some (.cells #[.int .i64 (-1), .int .i64 (-1), .int .i64 (-1), .int .i64 (-1), .int .i64 (-1), .int .i64 (-1), .int .i64 (-1), .int .i64 (-1)] 69 (0, 0)) := heap_new _ _ rfl
  have hs3 : (w2.alloc (.cells #[.int .i64 (-1), .int .i64 (-1), .int .i64 (-1), .int .i64 (-1), .int .i64 (-1), .int .i64 (-1), .int .i64 (-1), .int .i64 (-1)] 69)).heap.size = w2.heap.size + 1 := by simp
  have HW3 := hid hw3
  have HN5 := hid hn5
  have HS3 := hid hs3
  clear hw3 hn5 hs3
  generalize hW3 : w2.alloc (.cells #[.int .i64 (-1), .int .i64 (-1), .int .i64 (-1), .int .i64 (-1), .int .i64 (-1), .int .i64 (-1), .int .i64 (-1), .int .i64 (-1)] 69) = w3 at *
  clear hW3
  have hbb : Below w.heap.size w w2 := HA.out.trans (HB2.out.mono (by rw [HS1.out]; omega))
  have HWW := hid (fun X (h : Below w2.heap.size w3 X) => hbb.trans ((HW3.out.trans h).mono (by omega)))
  have HZ2 := hid (fun X (h : Below w2.heap.size w3 X) => ((HW3.out.trans h).block w.heap.size (by omega)).trans ((HB2.out.block w.heap.size (by rw [HS1.out]; omega)).trans HZ0.out))
  clear hbb
  go_loopw [6] (fun c wr => ∃ k : Nat, k < M ∧ c = .int .u64 k ∧ ∃ out : List Int, Hid (out.length = 8 ∧ layL row out (Cov.idx 0 12 k) = keyL fin ∧ wr.heap[w2.heap.size]? = some (.cells (out.map (Value.int .i64)).toArray 69 (0, 0)) ∧ Below w2.heap.size w3 wr)) (fun c _ => (intOf c).toNat)
  case atStart => exact ⟨s, hs, rfl, List.replicate 8 (-1), hid ⟨rfl, HFin.out, HN5.out, Below.refl _ _⟩⟩
  case round =>
    obtain ⟨k, hk, rfl, out, HO⟩ := hrel
    obtain ⟨ho1, ho2, ho3, ho4⟩ := HO.out
    by_cases h0 : k = 0
    · subst h0
      rw [idx_zero] at ho2
      have hoe : out = keyL fin := ho2
      obtain ⟨x0, x1, x2, x3, x4, x5, x6, x7, he⟩ := eight (keyL fin) (keyL_len fin hml)
      have HKV : Hid (keyV fin = .agg #[.int .i64 x0, .int .i64 x1, .int .i64 x2, .int .i64 x3, .int .i64 x4, .int .i64 x5, .int .i64 x6, .int .i64 x7]) := hid (by unfold keyV; rw [he]; rfl)
      have hgo := ho3
      rw [hoe, he] at hgo
      simp only [List.map_cons, List.map_nil] at hgo
      have g0 := cell_of_row _ _ 0 _ _ (0, 0) hgo
      have g1 := cell_of_row _ _ 1 _ _ (0, 0) hgo
      have g2 := cell_of_row _ _ 2 _ _ (0, 0) hgo
      have g3 := cell_of_row _ _ 3 _ _ (0, 0) hgo
      have g4 := cell_of_row _ _ 4 _ _ (0, 0) hgo
      have g5 := cell_of_row _ _ 5 _ _ (0, 0) hgo
      have g6 := cell_of_row _ _ 6 _ _ (0, 0) hgo
      have g7 := cell_of_row _ _ 7 _ _ (0, 0) hgo
      simp only [List.getElem?_toArray, List.getElem?_cons_zero, List.getElem?_cons_succ] at g0 g1 g2 g3 g4 g5 g6 g7
      have hz2 := HZ2.out wr ho4
      have z0 := cell_of_row _ _ 0 _ _ (0, 0) hz2
      have f0 := frozen_of_row _ _ 0 _ _ hz2
      have z1 := cell_of_row _ _ 1 _ _ (0, 0) hz2
      have f1 := frozen_of_row _ _ 1 _ _ hz2
      have z2 := cell_of_row _ _ 2 _ _ (0, 0) hz2
      have f2 := frozen_of_row _ _ 2 _ _ hz2
      have z3 := cell_of_row _ _ 3 _ _ (0, 0) hz2
      have f3 := frozen_of_row _ _ 3 _ _ hz2
      have z4 := cell_of_row _ _ 4 _ _ (0, 0) hz2
      have f4 := frozen_of_row _ _ 4 _ _ hz2
      have z5 := cell_of_row _ _ 5 _ _ (0, 0) hz2
      have f5 := frozen_of_row _ _ 5 _ _ hz2
      have z6 := cell_of_row _ _ 6 _ _ (0, 0) hz2
      have f6 := frozen_of_row _ _ 6 _ _ hz2
      have z7 := cell_of_row _ _ 7 _ _ (0, 0) hz2
      have f7 := frozen_of_row _ _ 7 _ _ hz2
      simp only [List.getElem?_toArray, List.getElem?_cons_zero, List.getElem?_cons_succ] at z0 z1 z2 z3 z4 z5 z6 z7
      have hne : w.heap.size ≠ w2.heap.size := by omega
      have HZW := hid hz2
      have HWr := hid (HWW.out wr ho4)
      clear ho1 ho2 ho3 ho4 hoe he hgo hz2 HO
      go_wp2
      refine bodyPost_ret (load_part (set8 x0 x1 x2 x3 x4 x5 x6 x7 HZW.out) rfl) rfl ⟨by rw [HKV.out], HWr.out.trans (set8_below x0 x1 x2 x3 x4 x5 x6 x7 (Nat.le_refl _))⟩
    · obtain ⟨i1, i2, i3⟩ := idx_step k (by omega) h0
      have hge := HGE.out k hk _ _ i1
      have hil : Lib.ctz 64 k < row.length := by omega
      rw [i1, layL_cons row out _ _ hil] at ho2
      have HTz := hid (fun X (h : TabD X) => tz_any k (by omega) h0 X h)
      have hTX : TabD wr := HTab.out.below (HWW.out wr ho4) HTab.out.lt
      obtain ⟨u, hcu, -, rfl⟩ := (IntsV.keep HV.out (KeepS.below (HWW.out wr ho4))).at hil
      have d1 : ((k : Int) != 0) = true := bneT (by omega)
      have hand := dec_and k (by omega) h0
      have hk1 : (1 : Int) ≤ k := by omega
      have hk2 : (k : Int) ≤ 256 := by omega
      have HTX := hid hTX
      clear i1 hge hTX
      generalize k &&& (k - 1) = k2 at *
      generalize hrx : row[Lib.ctz 64 k] = x at *
      generalize Lib.ctz 64 k = i at *
      have hi8 : i < 8 := by omega
      have hi0 : (0 : Int) ≤ i := by omega
      have hi9 : (i : Int) < 8 := by omega
      have hir : (i : Int) < row.length := by omega
      obtain ⟨y, hcell⟩ : ∃ y, wr.cell? ⟨w2.heap.size, i, none⟩ = some (.int .i64 y) := by
        rw [cell_of_row _ _ i _ _ (0, 0) ho3]
        exact ⟨out[i]'(by omega), by simp [ho1, hi8]⟩
      have hfr := frozen_of_row _ _ i _ _ ho3
      have HN : Hid ((out.set i x).length = 8 ∧ layL row (out.set i x) (Cov.idx 0 12 k2) = keyL fin ∧ (wr.setCell ⟨w2.heap.size, i, none⟩ (.int .i64 x)).heap[w2.heap.size]? = some (.cells ((out.set i x).map (Value.int .i64)).toArray 69 (0, 0)) ∧ Below w2.heap.size w3 (wr.setCell ⟨w2.heap.size, i, none⟩ (.int .i64 x))) := hid ⟨by simp [ho1], ho2, by
        have := heap_setCell_same wr _ i _ _ (.int .i64 x) ho3
        rw [this, List.map_set]
        simp, ho4.setCell (Nat.le_refl _) _⟩
      clear ho1 ho2 ho3 ho4 HO hrx
      go_wp2_with fail
      refine (HTz.out _ HTX.out).mono ?_
      rintro e w' ⟨rfl, rfl⟩
      go_wp2
      go_roundw
      case rel => exact ⟨k2, by omega, rfl, _, HN⟩
      case measure => simp [intOf]; omega

end Go.Proofs.YtjaejnacdanpkaaDoor
