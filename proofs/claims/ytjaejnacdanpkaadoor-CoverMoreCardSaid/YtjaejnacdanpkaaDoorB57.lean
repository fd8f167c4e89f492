/- Cover, Check and Least, of the program and of the reference, at all problems. lives: the documented example. -/
import Derived.Test.YtjaejnacdanpkaaDoorB46
import Derived.Test.YtjaejnacdanpkaaDoorC50
import Derived.Test.YtjaejnacdanpkaaDoorC53
import Derived.Test.YtjaejnacdanpkaaDoorC51
import Derived.Test.YtjaejnacdanpkaaDoorB3
import Derived.Test.YtjaejnacdanpkaaDoorB54
namespace Go.Proofs.YtjaejnacdanpkaaDoor
open Go.RowKit

/-- What Cover, Check and Least return. -/
def cR (sz : List Int) (F : List (List Int)) (t : Int) : List (List Int) := if validE sz F t = 0 then Cov.coverRows (nats sz) F t.toNat else []
def cL (sz : List Int) (F : List (List Int)) (t : Int) : List (List Int) := if validE sz F t = 0 then Cov.leftL (nats sz) F t.toNat else []
def cW (sz : List Int) (F : List (List Int)) (t : Int) : List (List Int) := if validE sz F t = 0 then (Cov.leftL (nats sz) F t.toNat).map (Cov.whyL (nats sz) F) else []
def cC (sz : List Int) (F : List (List Int)) (t : Int) (rows left why : List (List Int)) : Int := if validE sz F t = 0 then chkE (nats sz) F t.toNat rows left why else validE sz F t
def cM (sz : List Int) (F : List (List Int)) (t : Int) : Int := if validE sz F t = 0 then (Cov.leastL (Cov.openL (nats sz) F t.toNat) : Nat) else 0
theorem nats_len (sz : List Int) : (nats sz).length = sz.length := by simp [nats]

theorem cL_len (sz : List Int) (F : List (List Int)) (t : Int) : (cL sz F t).length ≤ 50000000 := by
  unfold cL
  split
  · rename_i hv
    obtain ⟨h1, h2, ho⟩ := ok_of_valid sz F t hv
    refine Nat.le_trans (List.length_filter_le _ _) (Nat.le_trans (List.length_filter_le _ _) (Nat.le_trans (allP_size true (nats sz) ho.le) ?_))
    exact Nat.le_trans (Nat.pow_le_pow_right (by omega) ho.len) (by decide)
  · simp

theorem ints_blk {w : World} {b : Nat} {T : TypeId} (xs : List Int) (h : w.heap[b]? = some (.cells (xs.map (Value.int .i64)).toArray T (0, 0))) (hn : xs.length ≤ 100000) : IntsV AnyB w (.slice (some ⟨b, 0, none⟩) xs.length xs.length) xs := by
  refine ⟨some ⟨b, 0, none⟩, xs.length, rfl, fun _ => ⟨_, _, rfl⟩, Nat.le_refl _, by unfold maxLen; omega, fun _ => trivial, fun j hj => ⟨.int .i64 xs[j], ?_, rfl⟩⟩
  simp only [slb_some, slo_some, Nat.zero_add]
  rw [cell_of_row w b j _ T (0, 0) h]
  simp [hj]
theorem rows_blk {w : World} {b : Nat} {T : TypeId} (us : List Value) (xs : List (List Int)) (h : w.heap[b]? = some (.cells us.toArray T (0, 0))) (hl : us.length = xs.length) (hn : xs.length ≤ 100000)
    (hr : ∀ j (h1 : j < us.length) (h2 : j < xs.length), IntsV AnyB w us[j] xs[j]) : RowsV AnyB w (.slice (some ⟨b, 0, none⟩) xs.length xs.length) xs := by
  refine ⟨some ⟨b, 0, none⟩, xs.length, rfl, fun _ => ⟨_, _, rfl⟩, Nat.le_refl _, by unfold maxLen; omega, fun _ => trivial, fun j hj => ⟨us[j]'(by omega), ?_, hr j (by omega) hj⟩⟩
  simp only [slb_some, slo_some, Nat.zero_add]
  rw [cell_of_row w b j _ T (0, 0) h]
  simp [hl, hj]

theorem pcover_any (sz : List Int) (hszl : sz.length ≤ 100) (F : List (List Int)) (t : Int) (sv fv : Value) (S T : Nat → Prop) (w : World) (hs : IntsV S w sv sz) (hf : RowsV T w fv F) (hT : TabD w) :
    Calls Tryd.prog 11 #[sv, fv, .int .i64 t] w fun e w' => ∃ x y z, e = .returned (.tuple #[x, y, z, .int .i64 (validE sz F t)]) ∧ RowsV AnyB w' x (cR sz F t) ∧ RowsV AnyB w' y (cL sz F t) ∧ RowsV AnyB w' z (cW sz F t) ∧ Below w.heap.size w w' := by
  obtain ⟨sa, sc, rfl, -, -, -⟩ := hs.form
  obtain ⟨fa, fc, rfl, -, -, -⟩ := hf.form
  by_cases hv : validE sz F t = 0
  · obtain ⟨h1, h2, ho⟩ := ok_of_valid sz F t hv
    have h := pcover_ok (nats sz) ho.le ho.pos ho.len F ho.gaps ho.few t.toNat (by have := ho.t; omega) (by rw [← h1, ← h2]; exact hv) sa sc fa fc S T w (by rw [nats_len, ← h1]; exact hs) hf hT
    rw [nats_len, ← h2] at h
    refine h.mono ?_
    rintro e w' ⟨x, y, z, rfl, g1, g2, g3, g4⟩
    refine ⟨x, y, z, by rw [hv], ?_, ?_, ?_, g4⟩
    · unfold cR; rw [if_pos hv]; exact g1
    · unfold cL; rw [if_pos hv]; exact g2
    · unfold cW; rw [if_pos hv]; exact g3
  · refine (pcover_err sz (by omega) F t hv sa sc fa fc S T w hs hf).mono ?_
    rintro e w' ⟨rfl, hb⟩
    refine ⟨_, _, _, rfl, ?_, ?_, ?_, hb⟩
    · unfold cR; rw [if_neg hv]; exact SlV.nil _ _ _
    · unfold cL; rw [if_neg hv]; exact SlV.nil _ _ _
    · unfold cW; rw [if_neg hv]; exact SlV.nil _ _ _

theorem rcover_any (sz : List Int) (hszl : sz.length ≤ 100) (F : List (List Int)) (hFl : F.length ≤ 100) (hFe : ∀ c ∈ F, c.length ≤ 100) (t : Int) (sv fv : Value) (S T : Nat → Prop) (w : World) (hs : IntsV S w sv sz) (hf : RowsV T w fv F) :
    Calls Tryd.prog 13 #[.agg #[sv, fv, .int .i64 t]] w fun e w' => ∃ x y z, e = .returned (.tuple #[x, y, z, .int .i64 (validE sz F t)]) ∧ RowsV AnyB w' x (cR sz F t) ∧ RowsV AnyB w' y (cL sz F t) ∧ RowsV AnyB w' z (cW sz F t) ∧ Below w.heap.size w w' := by
  obtain ⟨sa, sc, rfl, -, -, -⟩ := hs.form
  obtain ⟨fa, fc, rfl, -, -, -⟩ := hf.form
  by_cases hv : validE sz F t = 0
  · obtain ⟨h1, h2, ho⟩ := ok_of_valid sz F t hv
    have h := rcover_ok (nats sz) ho.le ho.len F (fun c hc => (ho.gaps c hc).1) ho.few t.toNat (by rw [← h1, ← h2]; exact hv) sa sc fa fc S T w (by rw [nats_len, ← h1]; exact hs) hf
    rw [nats_len, ← h2] at h
    refine h.mono ?_
    rintro e w' ⟨x, y, z, rfl, g1, g2, g3, g4⟩
    refine ⟨x, y, z, by rw [hv], ?_, ?_, ?_, g4⟩
    · unfold cR; rw [if_pos hv]; exact g1
    · unfold cL; rw [if_pos hv]; exact g2
    · unfold cW; rw [if_pos hv]; exact g3
  · refine (rcover_err sz (by omega) F (by omega) (fun c hc => by have := hFe c hc; omega) t hv sa sc fa fc S T w hs hf).mono ?_
    rintro e w' ⟨rfl, hb⟩
    refine ⟨_, _, _, rfl, ?_, ?_, ?_, hb⟩
    · unfold cR; rw [if_neg hv]; exact SlV.nil _ _ _
    · unfold cL; rw [if_neg hv]; exact SlV.nil _ _ _
    · unfold cW; rw [if_neg hv]; exact SlV.nil _ _ _

theorem pcheck_any (sz : List Int) (hszl : sz.length ≤ 100) (F : List (List Int)) (t : Int) (rows left why : List (List Int)) (sv fv vr vl vw : Value) (S T S3 S4 S5 : Nat → Prop) (w : World) (hs : IntsV S w sv sz) (hf : RowsV T w fv F)
    (hr : RowsV S3 w vr rows) (hlf : RowsV S4 w vl left) (hwy : RowsV S5 w vw why) (hT : TabD w) :
    Calls Tryd.prog 18 #[sv, fv, .int .i64 t, vr, vl, vw] w fun e w' => e = .returned (.int .i64 (cC sz F t rows left why)) ∧ Below w.heap.size w w' := by
  obtain ⟨sa, sc, rfl, -, -, -⟩ := hs.form
  obtain ⟨fa, fc, rfl, -, -, -⟩ := hf.form
  by_cases hv : validE sz F t = 0
  · obtain ⟨h1, h2, ho⟩ := ok_of_valid sz F t hv
    have h := pcheck_ok (nats sz) F t.toNat ho (by rw [← h1, ← h2]; exact hv) rows left why vr vl vw sa sc fa fc S T S3 S4 S5 w (by rw [nats_len, ← h1]; exact hs) hf hr hlf hwy hT
    rw [nats_len, ← h2] at h
    unfold cC
    rw [if_pos hv]
    exact h
  · unfold cC
    rw [if_neg hv]
    exact pcheck_err sz (by omega) F t hv sa sc fa fc vr vl vw S T w hs hf

theorem rcheck_any (sz : List Int) (hszl : sz.length ≤ 100) (F : List (List Int)) (hFl : F.length ≤ 100) (hFe : ∀ c ∈ F, c.length ≤ 100) (t : Int) (rows left why : List (List Int)) (sv fv vr vl vw : Value) (S T S3 S4 S5 : Nat → Prop) (w : World) (hs : IntsV S w sv sz) (hf : RowsV T w fv F)
    (hr : RowsV S3 w vr rows) (hlf : RowsV S4 w vl left) (hwy : RowsV S5 w vw why) :
    Calls Tryd.prog 19 #[.agg #[sv, fv, .int .i64 t], vr, vl, vw] w fun e w' => e = .returned (.int .i64 (cC sz F t rows left why)) ∧ Below w.heap.size w w' := by
  obtain ⟨sa, sc, rfl, -, -, -⟩ := hs.form
  obtain ⟨fa, fc, rfl, -, -, -⟩ := hf.form
  by_cases hv : validE sz F t = 0
  · obtain ⟨h1, h2, ho⟩ := ok_of_valid sz F t hv
    have h := rcheck_ok (nats sz) F t.toNat ho (by rw [← h1, ← h2]; exact hv) rows left why vr vl vw sa sc fa fc S T S3 S4 S5 w (by rw [nats_len, ← h1]; exact hs) hf hr hlf hwy
    rw [nats_len, ← h2] at h
    unfold cC
    rw [if_pos hv]
    exact h
  · unfold cC
    rw [if_neg hv]
    exact rcheck_err sz (by omega) F (by omega) (fun c hc => by have := hFe c hc; omega) t hv sa sc fa fc vr vl vw S T w hs hf

theorem pleast_all (sz : List Int) (hszl : sz.length ≤ 100) (F : List (List Int)) (t : Int) (sv fv : Value) (S T : Nat → Prop) (w : World) (hs : IntsV S w sv sz) (hf : RowsV T w fv F) (hT : TabD w) :
    Calls Tryd.prog 20 #[sv, fv, .int .i64 t] w fun e w' => e = .returned (.tuple #[.int .i64 (cM sz F t), .int .i64 (validE sz F t)]) ∧ Below w.heap.size w w' := by
  obtain ⟨sa, sc, rfl, -, -, -⟩ := hs.form
  obtain ⟨fa, fc, rfl, -, -, -⟩ := hf.form
  by_cases hv : validE sz F t = 0
  · obtain ⟨h1, h2, ho⟩ := ok_of_valid sz F t hv
    have h := pleast_any (nats sz) ho.le ho.pos ho.len F ho.gaps ho.few t.toNat (by have := ho.t; omega) (by rw [← h1, ← h2]; exact hv) sa sc fa fc S T w (by rw [nats_len, ← h1]; exact hs) hf hT
    rw [nats_len, ← h2] at h
    unfold cM
    rw [if_pos hv, hv]
    exact h
  · unfold cM
    rw [if_neg hv]
    exact pleast_err sz (by omega) F t hv sa sc fa fc S T w hs hf

theorem rleast_all (sz : List Int) (hszl : sz.length ≤ 100) (F : List (List Int)) (hFl : F.length ≤ 100) (hFe : ∀ c ∈ F, c.length ≤ 100) (t : Int) (sv fv : Value) (S T : Nat → Prop) (w : World) (hs : IntsV S w sv sz) (hf : RowsV T w fv F) :
    Calls Tryd.prog 21 #[.agg #[sv, fv, .int .i64 t]] w fun e w' => e = .returned (.tuple #[.int .i64 (cM sz F t), .int .i64 (validE sz F t)]) ∧ Below w.heap.size w w' := by
  obtain ⟨sa, sc, rfl, -, -, -⟩ := hs.form
  obtain ⟨fa, fc, rfl, -, -, -⟩ := hf.form
  by_cases hv : validE sz F t = 0
  · obtain ⟨h1, h2, ho⟩ := ok_of_valid sz F t hv
    have h := rleast_ok (nats sz) F t.toNat ho (by rw [← h1, ← h2]; exact hv) sa sc fa fc S T w (by rw [nats_len, ← h1]; exact hs) hf
    rw [nats_len, ← h2] at h
    unfold cM
    rw [if_pos hv, hv]
    exact h
  · unfold cM
    rw [if_neg hv]
    exact rleast_err sz (by omega) F (by omega) (fun c hc => by have := hFe c hc; omega) t hv sa sc fa fc S T w hs hf

end Go.Proofs.YtjaejnacdanpkaaDoor

namespace Go.Proofs.YtjaejnacdanpkaaDoor
open Go.RowKit

attribute [local go_sem] Oper.semAt_some

theorem ex_valid : validE [2, 2, 2] [[0, 0, -1]] 2 = 0 := by decide
theorem ex_rows : cR [2, 2, 2] [[0, 0, -1]] 2 = [[0, 1, 0], [1, 0, 0], [1, 1, 1], [0, 1, 1], [1, 0, 1]] := by kernel_rfl
theorem ex_left : cL [2, 2, 2] [[0, 0, -1]] 2 = [[0, 0, -1]] := by kernel_rfl
theorem ex_why : cW [2, 2, 2] [[0, 0, -1]] 2 = [[0]] := by kernel_rfl
theorem ex_least : cM [2, 2, 2] [[0, 0, -1]] 2 = 4 := by kernel_rfl
theorem ex_check : cC [2, 2, 2] [[0, 0, -1]] 2 [[0, 1, 0], [1, 0, 0], [1, 1, 1], [0, 1, 1], [1, 0, 1]] [[0, 0, -1]] [[0]] = 0 := by kernel_rfl
theorem ex_check1 : cC [2, 2, 2] [[0, 0, -1]] 2 [[1, 0, 0], [1, 1, 1], [0, 1, 1], [1, 0, 1]] [[0, 0, -1]] [[0]] = 15 := by kernel_rfl
theorem ex_check2 : cC [] [] 2 [] [] [] = 1 := by kernel_rfl

/-- The lists of the example, as they are laid in memory. -/
def exRW (w : World) : World := (((((w.alloc (.cells #[.int .i64 0, .int .i64 1, .int .i64 0] 3)).alloc (.cells #[.int .i64 1, .int .i64 0, .int .i64 0] 3)).alloc (.cells #[.int .i64 1, .int .i64 1, .int .i64 1] 3)).alloc (.cells #[.int .i64 0, .int .i64 1, .int .i64 1] 3)).alloc (.cells #[.int .i64 1, .int .i64 0, .int .i64 1] 3)).alloc
  (.cells #[.slice (some ⟨w.heap.size, 0, none⟩) 3 3, .slice (some ⟨w.heap.size + 1, 0, none⟩) 3 3, .slice (some ⟨w.heap.size + 2, 0, none⟩) 3 3, .slice (some ⟨w.heap.size + 3, 0, none⟩) 3 3, .slice (some ⟨w.heap.size + 4, 0, none⟩) 3 3] 22)
theorem exR_below (w : World) : Below w.heap.size w (exRW w) :=
  ((((((Below.refl _ _).alloc (Nat.le_refl _) _).alloc (by simp) _).alloc (by simp; omega) _).alloc (by simp; omega) _).alloc (by simp; omega) _).alloc (by simp; omega) _
theorem exR (w : World) : RowsV AnyB (exRW w) (.slice (some ⟨w.heap.size + 5, 0, none⟩) 5 5) [[0, 1, 0], [1, 0, 0], [1, 1, 1], [0, 1, 1], [1, 0, 1]] := by
  unfold exRW
  refine rows_blk [.slice (some ⟨w.heap.size, 0, none⟩) 3 3, .slice (some ⟨w.heap.size + 1, 0, none⟩) 3 3, .slice (some ⟨w.heap.size + 2, 0, none⟩) 3 3, .slice (some ⟨w.heap.size + 3, 0, none⟩) 3 3, .slice (some ⟨w.heap.size + 4, 0, none⟩) 3 3] [[0, 1, 0], [1, 0, 0], [1, 1, 1], [0, 1, 1], [1, 0, 1]] (heap_new _ _ (by simp)) rfl (by decide) (fun j h1 h2 => ?_)
  have h5 : j = 0 ∨ j = 1 ∨ j = 2 ∨ j = 3 ∨ j = 4 := by simp at h2; omega
  rcases h5 with rfl | rfl | rfl | rfl | rfl
  · exact ints_blk [0, 1, 0] (heap_step _ (heap_step _ (heap_step _ (heap_step _ (heap_step _ (heap_new _ _ rfl)))))) (by decide)
  · exact ints_blk [1, 0, 0] (heap_step _ (heap_step _ (heap_step _ (heap_step _ (heap_new _ _ (by simp)))))) (by decide)
  · exact ints_blk [1, 1, 1] (heap_step _ (heap_step _ (heap_step _ (heap_new _ _ (by simp))))) (by decide)
  · exact ints_blk [0, 1, 1] (heap_step _ (heap_step _ (heap_new _ _ (by simp)))) (by decide)
  · exact ints_blk [1, 0, 1] (heap_step _ (heap_new _ _ (by simp))) (by decide)
def exLW (w : World) : World := (w.alloc (.cells #[.int .i64 0, .int .i64 0, .int .i64 (-1)] 3)).alloc (.cells #[.slice (some ⟨w.heap.size, 0, none⟩) 3 3] 22)
theorem exL_below (w : World) : Below w.heap.size w (exLW w) := ((Below.refl _ _).alloc (Nat.le_refl _) _).alloc (by simp) _
theorem exL (w : World) : RowsV AnyB (exLW w) (.slice (some ⟨w.heap.size + 1, 0, none⟩) 1 1) [[0, 0, -1]] := by
  unfold exLW
  refine rows_blk [.slice (some ⟨w.heap.size, 0, none⟩) 3 3] [[0, 0, -1]] (heap_new _ _ (by simp)) rfl (by decide) (fun j h1 h2 => ?_)
  obtain rfl : j = 0 := by simp at h2; omega
  exact ints_blk [0, 0, -1] (heap_step _ (heap_new _ _ rfl)) (by decide)

theorem OwnO.any {B : Nat} {e : TypeId} {w : World} {v : Value} {xs : List (List Int)} (h : OwnO (fun S => IntsV S) B e w v xs) : RowsV AnyB w v xs :=
  SlV.mono (OwnO.sl steady_ints h) (fun _ _ _ => trivial) (fun _ _ h => IntsV.mono h (fun _ _ _ => trivial))

set_option maxRecDepth 100000 in
set_option maxHeartbeats 4000000 in
theorem lives_any (w : World) (hT : TabD w) : Calls Tryd.prog 16 #[] w fun e w' => e = .returned (.bool true) ∧ Below w.heap.size w w' := by
  have hA1 : Below w.heap.size w (w.alloc (.cells #[.int .i64 2, .int .i64 2, .int .i64 2] 3)) := (Below.refl _ _).alloc (Nat.le_refl _) _
  have hA2 : Below w.heap.size w (((w.alloc (.cells #[.int .i64 2, .int .i64 2, .int .i64 2] 3)).alloc (.cells #[.int .i64 0, .int .i64 0, .int .i64 (-1)] 3)).alloc (.cells #[.slice (some ⟨w.heap.size + 1, 0, none⟩) 3 3] 53)) := (hA1.alloc (by simp) _).alloc (by simp; omega) _
  have d0 : (((w.alloc (.cells #[.int .i64 2, .int .i64 2, .int .i64 2] 3)).alloc (.cells #[.int .i64 0, .int .i64 0, .int .i64 (-1)] 3)).alloc (.cells #[.slice (some ⟨w.heap.size + 1, 0, none⟩) 3 3] 53)).heap[w.heap.size]? = some (.cells (([2, 2, 2] : List Int).map (Value.int .i64)).toArray 3 (0, 0)) := heap_step _ (heap_step _ (heap_new _ _ rfl))
  have d1 : (((w.alloc (.cells #[.int .i64 2, .int .i64 2, .int .i64 2] 3)).alloc (.cells #[.int .i64 0, .int .i64 0, .int .i64 (-1)] 3)).alloc (.cells #[.slice (some ⟨w.heap.size + 1, 0, none⟩) 3 3] 53)).heap[w.heap.size + 1]? = some (.cells (([0, 0, -1] : List Int).map (Value.int .i64)).toArray 3 (0, 0)) := heap_step _ (heap_new _ _ (by simp))
  have d2 : (((w.alloc (.cells #[.int .i64 2, .int .i64 2, .int .i64 2] 3)).alloc (.cells #[.int .i64 0, .int .i64 0, .int .i64 (-1)] 3)).alloc (.cells #[.slice (some ⟨w.heap.size + 1, 0, none⟩) 3 3] 53)).heap[w.heap.size + 2]? = some (.cells ([.slice (some ⟨w.heap.size + 1, 0, none⟩) 3 3] : List Value).toArray 53 (0, 0)) := heap_new _ _ (by simp)
  go_enter Tryd.func16, Tryd.ntmps16
  go_wp2_with fail
  generalize World.alloc (World.alloc (World.alloc w _) _) _ = W3 at *
  have HS := hid (ints_blk [2, 2, 2] d0 (by decide))
  have HF := hid (rows_blk _ [[0, 0, -1]] d2 rfl (by decide) (fun j h1 h2 => by
    obtain rfl : j = 0 := by simp at h2; omega
    exact ints_blk [0, 0, -1] d1 (by decide)))
  have HT := hid (hT.below hA2 hT.lt)
  have HA2 := hid hA2
  clear d0 d1 d2 hA1 hA2
  refine (pcover_any [2, 2, 2] (by decide) [[0, 0, -1]] 2 _ _ AnyB AnyB W3 HS.out HF.out HT.out).mono ?_
  rintro e w4 ⟨x, y, z, rfl, hx, hy, hz, hb4⟩
  rw [ex_rows] at hx
  rw [ex_left] at hy
  rw [ex_why] at hz
  rw [ex_valid]
  obtain ⟨xa, xc, rfl, hxok, hxcap, hxmax⟩ := hx.form
  obtain ⟨ya, yc, rfl, -, -, -⟩ := hy.form
  obtain ⟨za, zc, rfl, -, -, -⟩ := hz.form
  have HX := hid hx
  have HY := hid hy
  have HZ := hid hz
  have HB4 := hid hb4
  clear hx hy hz hb4 hT
  go_wp2_with fail
  refine (pleast_all [2, 2, 2] (by decide) [[0, 0, -1]] 2 _ _ AnyB AnyB w4 (HS.out.keep (KeepS.below HB4.out)) (HF.out.keep (KeepS.below HB4.out)) (HT.out.below HB4.out HT.out.lt)).mono ?_
  rintro e w5 ⟨rfl, hb5⟩
  rw [ex_valid, ex_least]
  have HB5 := hid (HB4.out.trans (hb5.mono HB4.out.size))
  have HX5 := hid (HX.out.keep (KeepS.below hb5))
  have HY5 := hid (HY.out.keep (KeepS.below hb5))
  have HZ5 := hid (HZ.out.keep (KeepS.below hb5))
  have HS5 := hid ((HS.out.keep (KeepS.below HB4.out)).keep (KeepS.below hb5))
  have HF5 := hid ((HF.out.keep (KeepS.below HB4.out)).keep (KeepS.below hb5))
  have HT5 := hid (HT.out.below (HB4.out.trans (hb5.mono HB4.out.size)) HT.out.lt)
  clear hb5
  have HL5 := hid (exR w5)
  have HLb := hid (exR_below w5)
  unfold exRW at HL5 HLb
  go_wp2_with fail
  generalize World.alloc (World.alloc _ _) _ = W6 at *
  refine (sameRows_any _ _ _ _ AnyB AnyB W6 (HX5.out.keep (KeepS.below HLb.out)) HL5.out).mono ?_
  rintro e w' ⟨rfl, n6, rfl⟩
  have hT6 : (decide (([[0, 1, 0], [1, 0, 0], [1, 1, 1], [0, 1, 1], [1, 0, 1]] : List (List Int)) = [[0, 1, 0], [1, 0, 0], [1, 1, 1], [0, 1, 1], [1, 0, 1]])) = true := decide_eq_true rfl
  rw [hT6]
  clear hT6
  have HB6 := hid (below_drewN HLb.out n6)
  generalize W6.drewN n6 = W7 at *
  go_wp2_with fail
  have HB57 := hid HB6.out
  refine (plain_any [[0, 0, -1]] (by decide) _ AnyB W7 (HY5.out.keep (KeepS.below HB6.out))).mono ?_
  rintro e w8 ⟨x8, rfl, ho8, hb8⟩
  have HO8 := hid ho8.any
  obtain ⟨oa, oc, rfl, -, -, -⟩ := ho8.any.form
  have HB8 := hid (HB6.out.trans (hb8.mono HB6.out.size))
  have HM5 := hid (exL w8)
  have HMb := hid (exL_below w8)
  unfold exLW at HM5 HMb
  clear ho8 hb8
  go_wp2_with fail
  generalize World.alloc (World.alloc _ _) _ = W9 at *
  refine (sameRows_any _ _ _ _ AnyB AnyB W9 (HO8.out.keep (KeepS.below HMb.out)) HM5.out).mono ?_
  rintro e w' ⟨rfl, n9, rfl⟩
  have hT6 : (decide (([[0, 0, -1]] : List (List Int)) = [[0, 0, -1]])) = true := decide_eq_true rfl
  rw [hT6]
  clear hT6
  have HB9 := hid (HB8.out.trans ((below_drewN HMb.out n9).mono HB8.out.size))
  generalize W9.drewN n9 = W10 at *
  have HN5 := hid (row_one (w := W10) 0)
  have HNb : Hid (Below W10.heap.size W10 ((W10.alloc (.cells #[.int .i64 0] 3)).alloc (.cells #[.slice (some ⟨W10.heap.size, 0, none⟩) 1 1] 22))) := hid (((Below.refl _ _).alloc (Nat.le_refl _) _).alloc (by simp) _)
  go_wp2_with fail
  generalize World.alloc (World.alloc _ _) _ = W11 at *
  have HB11 := hid (HB9.out.trans (HNb.out.mono HB9.out.size))
  refine (sameRows_any _ _ _ _ AnyB AnyB W11 (HZ5.out.keep (KeepS.below HB11.out)) HN5.out).mono ?_
  rintro e w' ⟨rfl, n11, rfl⟩
  have hT6 : (decide (([[0]] : List (List Int)) = [[0]])) = true := decide_eq_true rfl
  rw [hT6]
  clear hT6
  have HB12 := hid (below_drewN HB11.out n11)
  generalize W11.drewN n11 = W12 at *
  have hs1 := slice_from xa 5 xc 0 (by omega)
  have hp := hid (SlV.part HX5.out (show 1 ≤ 5 by omega) (by decide))
  obtain ⟨pa, pc, he⟩ : ∃ pa pc, sliced xa (0 + 1) 5 xc 1 = .slice pa 4 pc := by unfold sliced; exact ⟨_, _, rfl⟩
  have he2 : sliced xa 1 5 xc 1 = .slice pa 4 pc := he
  rw [he] at hs1
  rw [he2] at hp
  have hs2 : ∀ X, (Instr.slice 23 (.slice xa 5 xc) (some (.int .i64 1)) none none).run Tryd.prog X = .ok (.slice pa 4 pc) X := hs1
  clear hs1 he he2
  go_wp2_with fail
  have HS12 := hid (HS5.out.keep (KeepS.below HB12.out))
  have HF12 := hid (HF5.out.keep (KeepS.below HB12.out))
  have HY12 := hid (HY5.out.keep (KeepS.below HB12.out))
  have HZ12 := hid (HZ5.out.keep (KeepS.below HB12.out))
  have HT12 := hid (HT5.out.below HB12.out HT5.out.lt)
  have HP12 := hid (RowsV.keep hp.out (KeepS.below HB12.out))
  refine (pcheck_any [2, 2, 2] (by decide) [[0, 0, -1]] 2 _ _ _ _ _ _ _ _ AnyB AnyB AnyB AnyB AnyB W12 HS12.out HF12.out (HX5.out.keep (KeepS.below HB12.out)) HY12.out HZ12.out HT12.out).mono ?_
  rintro e w13 ⟨rfl, hb13⟩
  rw [ex_check]
  have HB13 := hid hb13
  clear hb13
  go_wp2_with fail
  refine (pcheck_any [2, 2, 2] (by decide) [[0, 0, -1]] 2 _ _ _ _ _ _ _ _ AnyB AnyB AnyB AnyB AnyB w13 (HS12.out.keep (KeepS.below HB13.out)) (HF12.out.keep (KeepS.below HB13.out)) (RowsV.keep HP12.out (KeepS.below HB13.out)) (HY12.out.keep (KeepS.below HB13.out)) (HZ12.out.keep (KeepS.below HB13.out)) (HT12.out.below HB13.out HT12.out.lt)).mono ?_
  rintro e w14 ⟨rfl, hb14⟩
  have h15 : cC [2, 2, 2] [[0, 0, -1]] 2 (List.drop 1 (List.take 5 [[0, 1, 0], [1, 0, 0], [1, 1, 1], [0, 1, 1], [1, 0, 1]])) [[0, 0, -1]] [[0]] = 15 := ex_check1
  rw [h15]
  have HB14 := hid (HB13.out.trans (hb14.mono HB13.out.size))
  clear hb14 h15
  go_wp2_with fail
  refine (pcheck_any [] (by decide) [] 2 [] [] [] _ _ _ _ _ AnyB AnyB AnyB AnyB AnyB w14 (SlV.nil _ _ _) (SlV.nil _ _ _) (SlV.nil _ _ _) (SlV.nil _ _ _) (SlV.nil _ _ _) (HT12.out.below HB14.out HT12.out.lt)).mono ?_
  rintro e w15 ⟨rfl, hb15⟩
  rw [ex_check2]
  have h5 := HA2.out.trans (HB5.out.mono HA2.out.size)
  have h6 := h5.trans (HB12.out.mono h5.size)
  have h7 := h6.trans (HB14.out.mono h6.size)
  have h8 := h7.trans (hb15.mono h7.size)
  have HE := hid h8
  clear h5 h6 h7 h8 hb15
  go_wp2
  go_ret
  exact ⟨rfl, HE.out⟩

end Go.Proofs.YtjaejnacdanpkaaDoor
