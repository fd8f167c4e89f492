/- Repeat and empty. Compare; indices and set of the program. indices and set of the program. -/
import Derived.Test.YtjaejnacdanpkaaDoorB28
import Derived.Test.YtjaejnacdanpkaaDoorB3
namespace Go.Proofs.YtjaejnacdanpkaaDoor
open Go.RowKit

set_option maxHeartbeats 1000000 in
theorem mul64_one (n : Nat) (hn : n ≤ 8) (w : World) : Calls Tryd.prog 97 #[.int .u64 1, .int .u64 n] w fun e w' => e = .returned (.tuple #[.int .u64 0, .int .u64 n]) ∧ w = w' := by
  have hm1 : bits .and .u64 1 4294967295 = 1 := by decide
  have hm0 : bits .and .u64 0 4294967295 = 0 := by decide
  have hmn : bits .and .u64 (n : Int) 4294967295 = n := by
    have h := bits_and_u64_nat n 4294967295 (by omega) (by omega)
    have e : n &&& 4294967295 = n % 4294967296 := Nat.and_two_pow_sub_one_eq_mod n 32
    rw [e, Nat.mod_eq_of_lt (by omega)] at h
    exact h
  have hd : (n : Int) / 4294967296 = 0 := by omega
  have hw : IntKind.u64.wrap (n : Int) = n := by rw [IntKind.wrap_u64]; omega
  have hw0 : IntKind.u64.wrap 0 = 0 := by decide
  go_enter Tryd.func97, Tryd.ntmps97
  go_wp2
  go_ret2
  exact ⟨rfl, rfl⟩

theorem mul_one' (n : Nat) (hn : n ≤ 8) (w : World) : Calls Tryd.prog 85 #[.int .u64 1, .int .u64 n] w fun e w' => e = .returned (.tuple #[.int .u64 0, .int .u64 n]) ∧ w = w' := by
  go_enter Tryd.func85, Tryd.ntmps85
  go_wp2_with (go_at_call 97; refine (mul64_one n hn _).mono ?_; rintro e w' ⟨rfl, rfl⟩)
  go_ret2
  exact ⟨rfl, rfl⟩

def zeroCells (n : Nat) : Array Value := ((List.replicate n (0 : Int)).map (Value.int .i64)).toArray
theorem madeCells_zero (n : Nat) : madeCells (Value.int .i64 0).cells (n * 1) = zeroCells n := by
  apply Array.ext
  · simp [madeCells, zeroCells]
  · intro i h1 h2
    simp [madeCells, zeroCells, Value.cells, Nat.mod_one]
/-- 'make([]int, n)'. -/
theorem run_mkZero {P : Program} {t e : TypeId} {b : Nat} (ht : P.underlying t = some (.slice e)) (hi : (P.info? e).map (fun i => (i.zero, i.size, i.bytes)) = some (some (.int .i64 0), 1, b)) (hb : b ≤ 1000)
    (n : Nat) (hn : n ≤ 1000000) (w : World) :
    (Instr.makeSlice t (.int .i64 (n : Int)) (.int .i64 (n : Int))).run P w = .ok (.slice (some ⟨w.heap.size, 0, none⟩) n n) (w.alloc (.cells (zeroCells n) e)) := by
  obtain ⟨i, h1, h2, h3, h4⟩ := info_parts hi
  have hy : (i.bytes : Int) * (n : Int) ≤ 281474976710656 := by
    have h : i.bytes * n ≤ 1000 * 1000000 := Nat.mul_le_mul (by omega) hn
    have : ((i.bytes * n : Nat) : Int) ≤ 281474976710656 := by omega
    rwa [Int.natCast_mul] at this
  have hr := run_make (P := P) w t e i (.int .i64 0) ht h1 h2 .i64 .i64 (n : Int) (n : Int) (by omega) (by omega) hy (by omega)
  rw [h3, Int.toNat_natCast, madeCells_zero] at hr
  exact hr

/-- The first m of n numbers are laid. -/
def repL (n m : Nat) : List Int := List.replicate m (-1) ++ List.replicate (n - m) 0
theorem repL_len (n m : Nat) (h : m ≤ n) : (repL n m).length = n := by simp [repL]; omega
theorem repL_splice (n m c : Nat) (_h : m + c ≤ n) : splice ((repL n m).map (Value.int .i64)) m ((List.replicate c (-1)).map (Value.int .i64)) = (repL n (m + c)).map (Value.int .i64) := by
  have e1 : (repL n m).take m = List.replicate m (-1) := by unfold repL; simp
  have e2 : (repL n m).drop (m + c) = List.replicate (n - (m + c)) 0 := by
    unfold repL
    rw [List.drop_append, List.drop_of_length_le (by simp)]
    simp
    omega
  unfold splice
  rw [← List.map_take, List.length_map, List.length_replicate, ← List.map_drop, ← List.map_append, ← List.map_append, e1, e2]
  congr 1
  unfold repL
  rw [← List.append_assoc, List.replicate_append_replicate]
theorem repL_at (n m i : Nat) (h : i < m) (hm : m ≤ n) : (repL n m)[i]'(by rw [repL_len n m hm]; omega) = -1 := by
  unfold repL
  rw [List.getElem_append_left (by simpa using h)]
  simp

set_option maxRecDepth 100000 in
set_option maxHeartbeats 4000000 in
theorem repeat_any (n : Nat) (hn0 : 1 ≤ n) (hn : n ≤ 8) (b : Nat) (w : World) (hc : w.cell? ⟨b, 0, none⟩ = some (.int .i64 (-1))) :
    Calls Tryd.prog 75 #[.slice (some ⟨b, 0, none⟩) 1 1, .int .i64 n] w fun e w' => ∃ x, e = .returned x ∧ IntsF (w.heap.size ≤ ·) w' x (List.replicate n (-1)) ∧ Below w.heap.size w w' := by
  have hmk := fun W => run_mkZero (P := Tryd.prog) (t := 22) (e := 3) (b := 8) (by kernel_rfl) (by kernel_rfl) (by omega) n (by omega) W
  have HMul := hid (fun W => mul_one' n hn W)
  have hwn : IntKind.u64.wrap (n : Int) = n := by rw [IntKind.wrap_u64]; omega
  have hn1 : (1 : Int) ≤ n := by omega
  have hn8 : (n : Int) ≤ 8 := by omega
  have HG0 := hid (heap_new (k := w.heap.size) w (.cells (zeroCells n) 3) rfl)
  have hcW : (w.alloc (.cells (zeroCells n) 3)).cell? ⟨b, 0, none⟩ = some (.int .i64 (-1)) := cell_later ((Below.refl _ _).alloc (Nat.le_refl _) _) hc
  have HCW := hid hcW
  have hb0 : Below w.heap.size w (w.alloc (.cells (zeroCells n) 3)) := (Below.refl _ _).alloc (Nat.le_refl _) _
  have HB0 := hid hb0
  have hz : (repL n 0).map (Value.int .i64) = (List.replicate n (0 : Int)).map (Value.int .i64) := by simp [repL]
  have HZ : Hid (zeroCells n = ((repL n 0).map (Value.int .i64)).toArray) := hid (by rw [hz]; rfl)
  clear hcW hb0 hc hz
  go_enter Tryd.func75, Tryd.ntmps75
  have d1 : decide ((n : Int) < 0) = false := decide_eq_false (by omega)
  have d2 : decide (9223372036854775807 < (n : Int)) = false := decide_eq_false (by omega)
  have HG1 : Hid ((w.alloc (.cells (zeroCells n) 3)).heap[w.heap.size]? = some (.cells ((repL n 0).map (Value.int .i64)).toArray 3 (0, 0))) := hid (by rw [HG0.out, HZ.out])
  go_wp2_with (first
    | (go_at_call 85; refine (HMul.out _).mono ?_; rintro e w' ⟨rfl, rfl⟩)
    | (refine wpList_copy_splice (o := ⟨some 33, _, _, _, _, _⟩) rfl (.tmp 31) (.tmp 32) 22 22 rfl 3 (by kernel_rfl) (by kernel_rfl) (some ⟨w.heap.size, 0, none⟩) (some ⟨b, 0, none⟩) n n 1 1 rfl rfl w.heap.size 0 ((repL n 0).map (Value.int .i64)) 3 HG1.out ((List.replicate 1 (-1)).map (Value.int .i64)) (by simp only [List.length_map, List.length_replicate]; exact (Nat.min_eq_left hn0).symm)
        (fun _ => ⟨rfl, _, rfl, fun j v hj => by
          have h0 : j = 0 := by
            have := (List.getElem?_eq_some_iff.1 hj).1
            simp at this
            omega
          subst h0
          have hv : Value.int .i64 (-1) = v := by simpa using hj
          rw [← hv]
          exact HCW.out⟩) (by simp [repL_len n 0 (Nat.zero_le _)]; omega) (by simp [Value.oneCell']) w.heap.size w HB0.out (Nat.le_refl _) ?_))
  intro w2 HG2 hB2
  have hg2 := HG2.out
  have hs1 : splice ((repL n 0).map (Value.int .i64)) 0 [Value.int .i64 (-1)] = (repL n 1).map (Value.int .i64) := repL_splice n 0 1 (by omega)
  rw [hs1] at hg2
  have HI := hid (And.intro hg2 hB2)
  clear hg2 hB2 HG2 hs1 hmk HMul
  go_wp2
  go_loopw [8] (fun c wr => ∃ m : Nat, 1 ≤ m ∧ m ≤ n ∧ c = .int .i64 m ∧ Hid (wr.heap[w.heap.size]? = some (.cells ((repL n m).map (Value.int .i64)).toArray 3 (0, 0)) ∧ Below w.heap.size w wr)) (fun c _ => n - (intOf c).toNat)
  case atStart => exact ⟨1, by omega, hn0, rfl, HI⟩
  case round =>
    obtain ⟨m, hm1, hm2, rfl, HM⟩ := hrel
    by_cases hlt : m < n
    · have hlt' : (m : Int) < n := by omega
      have hm0 : (0 : Int) ≤ m := by omega
      obtain ⟨c, hc⟩ : ∃ c, c = min (n - m) m := ⟨_, rfl⟩
      obtain ⟨cs, hcs⟩ : ∃ cs, cs = (List.replicate c (-1)).map (Value.int .i64) := ⟨_, rfl⟩
      have hcl : cs.length = c := by rw [hcs]; simp
      have HN : Hid (splice ((repL n m).map (Value.int .i64)) m cs = (repL n (m + c)).map (Value.int .i64)) := hid (by rw [hcs]; exact repL_splice n m c (by omega))
      have HSrc : Hid (∀ j v, cs[j]? = some v → wr.cell? ((⟨w.heap.size, 0, none⟩ : Addr).add j) = some v) := hid (fun j v hj => by
        rw [hcs, List.getElem?_map, List.getElem?_replicate] at hj
        have hjc : j < c := by
          by_cases h : j < c
          · exact h
          · rw [if_neg h] at hj; simp at hj
        rw [if_pos hjc] at hj
        have hv : Value.int .i64 (-1) = v := by simpa using hj
        rw [← hv, addr_add, cell_of_row _ _ _ _ _ (0, 0) HM.out.1]
        have hl := repL_len n m hm2
        have h1 := repL_at n m j (by omega) hm2
        simp only [Nat.zero_add, List.getElem?_toArray, List.getElem?_map]
        rw [List.getElem?_eq_getElem (by omega), h1]; rfl)
      have hone : ∀ v ∈ cs, v.oneCell' = true := by rw [hcs]; simp [Value.oneCell']
      have HOne := hid hone
      have HCL := hid hcl
      have HCC := hid hc
      have hc1 : m + c ≤ n := by omega
      have hc2 : 1 ≤ c := by omega
      clear hcs hcl hone hc
      go_wp2
      refine wp_region_held 8 [(true, 0), (true, 1), (true, 2), (true, 3), (true, 4), (true, 5), (true, 6), (false, 7)] (fun _ => True) (by kernel_rfl) (by kernel_rfl) trivial ?_
      intro hne
      refine wpSteps_pre 7 (by decide) ?_
      simp only [List.take_succ_cons, List.take_zero]
      repeat (go_big_quiet_step (fail))
      refine wpQuiet_nil ?_
      refine wpSteps_one rfl ?_
      refine wpList_copy_splice rfl (.tmp 41) (.tmp 44) 22 22 rfl 3 (by kernel_rfl) (by kernel_rfl) (some ⟨w.heap.size, m, none⟩) (some ⟨w.heap.size, 0, none⟩) (n - m) (n - m) m n rfl rfl w.heap.size m ((repL n m).map (Value.int .i64)) 3 HM.out.1 cs (by rw [HCL.out, HCC.out]; exact Nat.min_comm _ _)
        (fun _ => ⟨rfl, _, rfl, fun j v hj => HSrc.out j v hj⟩) (by rw [List.length_map, repL_len n m hm2, HCL.out]; exact hc1) HOne.out w.heap.size w (below_drewN HM.out.2 1) (Nat.le_refl _) ?_
      intro w4 HG4 hB4
      have hg4 := HG4.out
      rw [HN.out] at hg4
      have HI4 := hid (And.intro hg4 hB4)
      have hgc : goInt cs.length = .int .i64 (c : Int) := by rw [HCL.out]; rfl
      rw [hgc]
      clear hg4 hB4 HG4 HM HSrc HOne HN HCL hgc
      go_wp2
      refine qn_mk ⟨InHeld.of trivial, ?_⟩
      refine wpSteps_done ?_
      go_wp2
      go_roundw
      case rel => exact ⟨m + c, by omega, by omega, by go_num, HI4⟩
      case measure => simp [intOf]; omega
    · obtain rfl : m = n := by omega
      have hfin : (repL m m).map (Value.int .i64) = (List.replicate m (-1)).map (Value.int .i64) := by simp [repL]
      have h1 := HM.out.1
      rw [hfin] at h1
      have hB := HM.out.2
      have HR : Hid (IntsF (w.heap.size ≤ ·) wr (.slice (some ⟨w.heap.size, 0, none⟩) m m) (List.replicate m (-1))) := hid ⟨by
        refine ⟨by simp, .inr ⟨w.heap.size, m, _, by simp, Nat.zero_le _, h1, ?_, ?_, ?_, ?_⟩⟩
        · simp
        · unfold maxLen; omega
        · simp
        · simp, fun b' hb' => by simp [Value.ownBlock] at hb'; omega⟩
      have HB := hid hB
      clear hfin h1 hB HM
      go_wp2
      go_ret
      exact ⟨_, rfl, HR.out, HB.out⟩

theorem empty_any (n : Nat) (hn0 : 1 ≤ n) (hn : n ≤ 8) (sa : Option Addr) (sc : Nat) (fv tv : Value) (hfv : ∃ a n k, fv = .slice a n k) (htv : ∃ t, tv = .int .i64 t) (w : World) :
    Calls Tryd.prog 58 #[.agg #[.slice sa n sc, fv, tv]] w fun e w' => ∃ x, e = .returned x ∧ IntsF (w.heap.size ≤ ·) w' x (List.replicate n (-1)) ∧ Below w.heap.size w w' := by
  obtain ⟨fa, fl, fc, rfl⟩ := hfv
  obtain ⟨t, rfl⟩ := htv
  have hb : Below w.heap.size w ((w.alloc (.cells #[.slice sa n sc, .slice fa fl fc, .int .i64 t] 57)).alloc (.cells #[.int .i64 (-1)] 3)) := ((Below.refl _ _).alloc (Nat.le_refl _) _).alloc (by simp) _
  have hc := (one_cell (heap_new (k := w.heap.size + 1) (w.alloc (.cells #[.slice sa n sc, .slice fa fl fc, .int .i64 t] 57)) (.cells #[.int .i64 (-1)] 3) (by simp))).1
  have HR := hid (repeat_any n hn0 hn (w.heap.size + 1) _ hc)
  have HB := hid hb
  have HS : Hid (((w.alloc (.cells #[.slice sa n sc, .slice fa fl fc, .int .i64 t] 57)).alloc (.cells #[.int .i64 (-1)] 3)).heap.size = w.heap.size + 2) := hid (by simp)
  clear hb hc
  go_enter Tryd.func58, Tryd.ntmps58
  go_wp2_with fail
  refine HR.out.mono ?_
  rintro e w2 ⟨x, rfl, hx, hb2⟩
  have hs := HS.out
  have HX := hid (steady_intsF.mono hx (fun b _ (hb : _ ≤ b) => by show w.heap.size ≤ b; omega))
  have HB2 := hid (HB.out.trans (hb2.mono (by omega)))
  clear hx hb2
  go_wp2
  go_ret
  exact ⟨_, rfl, HX.out, HB2.out⟩

end Go.Proofs.YtjaejnacdanpkaaDoor

namespace Go.Proofs.YtjaejnacdanpkaaDoor
open Go.RowKit

def cmpI (x y : Int) : Int := if x < y then -1 else if y < x then 1 else 0
/-- How two lists compare. -/
def cmpL (a b : List Int) : Int := if Cov.ltL a b = true then -1 else if a = b then 0 else 1
theorem cmpL_cons (x y : Int) (a b : List Int) (h : x ≠ y) : cmpL (x :: a) (y :: b) = cmpI x y := by
  unfold cmpL cmpI
  simp only [Cov.ltL, Bool.or_eq_true, decide_eq_true_eq, Bool.and_eq_true, List.cons.injEq]
  by_cases h1 : x < y
  · rw [if_pos (.inl h1), if_pos h1]
  · rw [if_neg (by omega), if_neg h1, if_neg (by omega), if_pos (by omega)]
theorem cmpL_cons_nil (x : Int) (l : List Int) : cmpL (x :: l) [] = 1 := by
  unfold cmpL Cov.ltL
  rw [if_neg (by decide), if_neg (by simp)]
theorem cmpL_take (xs ys : List Int) (k : Nat) (h : xs.take k = ys.take k) (h1 : k ≤ xs.length) (h2 : k ≤ ys.length) : cmpL xs ys = cmpL (xs.drop k) (ys.drop k) := by
  unfold cmpL
  rw [ltL_take xs ys k h h1 h2]
  congr 1
  have : (xs = ys) ↔ (xs.drop k = ys.drop k) := by
    constructor
    · intro h; rw [h]
    · intro h3
      rw [← List.take_append_drop k xs, ← List.take_append_drop k ys, h, h3]
  simp only [this]
theorem cmpL_neg (a b : List Int) : decide (cmpL a b < 0) = Cov.ltL a b := by
  unfold cmpL
  cases h : Cov.ltL a b with
  | true => rfl
  | false =>
    rw [if_neg (by decide)]
    split <;> rfl
theorem cmpL_ge (a b : List Int) : decide (0 ≤ cmpL a b) = !Cov.ltL a b := by
  unfold cmpL
  cases h : Cov.ltL a b with
  | true => rfl
  | false =>
    rw [if_neg (by decide)]
    split <;> rfl

theorem isNaN_any (x : Int) (w : World) : Calls Tryd.prog 84 #[.int .i64 x] w fun e w' => e = .returned (.bool false) ∧ w = w' := by
  have d : (x != x) = false := bneF rfl
  go_enter Tryd.func84, Tryd.ntmps84
  go_wp2
  go_ret
  exact ⟨rfl, rfl⟩
theorem cmpI_any (x y : Int) (w : World) : Calls Tryd.prog 71 #[.int .i64 x, .int .i64 y] w fun e w' => e = .returned (.int .i64 (cmpI x y)) ∧ w = w' := by
  by_cases h1 : x < y
  · have d1 : decide (x < y) = true := decide_eq_true h1
    have HR : Hid (cmpI x y = -1) := hid (by unfold cmpI; rw [if_pos h1])
    go_enter Tryd.func71, Tryd.ntmps71
    go_wp2_with (go_at_call 84; refine (isNaN_any _ _).mono ?_; rintro e w' ⟨rfl, rfl⟩)
    go_ret
    exact ⟨ret_int HR.out.symm, rfl⟩
  · have d1 : decide (x < y) = false := decide_eq_false h1
    by_cases h2 : y < x
    · have d2 : decide (y < x) = true := decide_eq_true h2
      have HR : Hid (cmpI x y = 1) := hid (by unfold cmpI; rw [if_neg h1, if_pos h2])
      go_enter Tryd.func71, Tryd.ntmps71
      go_wp2_with (go_at_call 84; refine (isNaN_any _ _).mono ?_; rintro e w' ⟨rfl, rfl⟩)
      go_ret
      exact ⟨ret_int HR.out.symm, rfl⟩
    · have d2 : decide (y < x) = false := decide_eq_false h2
      have HR : Hid (cmpI x y = 0) := hid (by unfold cmpI; rw [if_neg h1, if_neg h2])
      go_enter Tryd.func71, Tryd.ntmps71
      go_wp2_with (go_at_call 84; refine (isNaN_any _ _).mono ?_; rintro e w' ⟨rfl, rfl⟩)
      go_ret
      exact ⟨ret_int HR.out.symm, rfl⟩

set_option maxHeartbeats 1000000 in
theorem cmpInts_any (xs ys : List Int) (u v : Value) (S T : Nat → Prop) (w : World) (hu : IntsV S w u xs) (hv : IntsV T w v ys) :
    Calls Tryd.prog 65 #[u, v] w fun e w' => e = .returned (.int .i64 (cmpL xs ys)) ∧ w = w' := by
  obtain ⟨a, cap, rfl, hok, hcap, hmax, hS, hcell⟩ := hu
  obtain ⟨a', cap', rfl, hok', hcap', hmax', hS', hcell'⟩ := hv
  clear hS hS'
  unfold maxLen at hmax hmax'
  go_enter Tryd.func65, Tryd.ntmps65
  go_wp2
  go_loop [11] (fun i => ∃ k : Nat, k ≤ xs.length ∧ i = .int .i64 k ∧ k ≤ ys.length ∧ Hid (xs.take k = ys.take k)) (fun i => xs.length - (intOf i).toNat)
  case atStart => exact ⟨0, Nat.zero_le _, rfl, Nat.zero_le _, hid rfl⟩
  case round =>
    obtain ⟨k, hk, rfl, hk', hpre⟩ := hrel
    have HL := hid (cmpL_take xs ys k hpre.out hk hk')
    by_cases hlt : k < xs.length
    · have d1 : decide ((k : Int) < xs.length) = true := decide_eq_true (by omega)
      obtain ⟨x, hx, hx2⟩ := hcell k hlt
      by_cases hlt' : k < ys.length
      · have d2 : decide ((ys.length : Int) ≤ k) = false := decide_eq_false (by omega)
        have d2' : decide (ys.length ≤ k) = false := decide_eq_false (by omega)
        obtain ⟨y, hy, hy2⟩ := hcell' k hlt'
        have HT : Hid (xs[k] = ys[k] → xs.take (k + 1) = ys.take (k + 1)) := hid (take_eq_succ' hlt hlt' hpre.out)
        have HL2 : Hid (xs[k] ≠ ys[k] → cmpL xs ys = cmpI xs[k] ys[k]) := hid (fun h => by
          rw [HL.out, List.drop_eq_getElem_cons hlt, List.drop_eq_getElem_cons hlt', cmpL_cons _ _ _ _ h])
        have HC := hid (fun W => cmpI_any xs[k] ys[k] W)
        generalize xs[k] = x0 at *
        generalize ys[k] = y0 at *
        subst hx2; subst hy2
        have hk0 : (0 : Int) ≤ (k : Int) := by omega
        have hk1 : (k : Int) < (xs.length : Int) := by omega
        have hk2 : (k : Int) < (ys.length : Int) := by omega
        clear HL
        by_cases hxy : x0 = y0
        · have HT2 := hid (HT.out hxy)
          have h0 : cmpI x0 y0 = 0 := by subst hxy; simp [cmpI]
          rw [h0] at HC
          clear HT HL2 h0 hxy
          go_wp2_with fail
          refine (HC.out _).mono ?_
          rintro e w' ⟨rfl, rfl⟩
          go_wp2
          go_round
          case rel => exact ⟨k + 1, by omega, by go_num, by omega, HT2⟩
          case measure => simp [intOf]; omega
        · have HR := hid (HL2.out hxy)
          have h0 : cmpI x0 y0 ≠ 0 := by unfold cmpI; split <;> (try split) <;> omega
          generalize cmpI x0 y0 = c at *
          have d3 : (c != 0) = true := bneT h0
          clear HT HL2 hxy
          go_wp2_with fail
          refine (HC.out _).mono ?_
          rintro e w' ⟨rfl, rfl⟩
          go_wp2
          go_ret
          exact ⟨ret_int HR.out.symm, rfl⟩
      · have d2 : decide ((ys.length : Int) ≤ k) = true := decide_eq_true (by omega)
        have d2' : decide (ys.length ≤ k) = true := decide_eq_true (by omega)
        have HR : Hid (cmpL xs ys = 1) := hid (by
          rw [HL.out, show ys.drop k = [] from List.drop_eq_nil_of_le (by omega), List.drop_eq_getElem_cons hlt]
          exact cmpL_cons_nil _ _)
        have hk0 : (0 : Int) ≤ (k : Int) := by omega
        have hk1 : (k : Int) < (xs.length : Int) := by omega
        subst hx2
        clear HL
        go_wp2
        go_ret
        exact ⟨ret_int HR.out.symm, rfl⟩
    · obtain rfl : k = xs.length := by omega
      have HE : Hid (xs.drop xs.length = []) := hid List.drop_length
      by_cases hlt' : xs.length < ys.length
      · have d2 : decide ((xs.length : Int) < ys.length) = true := decide_eq_true (by omega)
        have d2' : decide (xs.length < ys.length) = true := decide_eq_true hlt'
        have HR : Hid (cmpL xs ys = -1) := hid (by
          rw [HL.out, HE.out, List.drop_eq_getElem_cons hlt']
          simp [cmpL, Cov.ltL])
        clear HL
        go_wp2
        go_ret
        exact ⟨ret_int HR.out.symm, rfl⟩
      · have d2 : decide ((xs.length : Int) < ys.length) = false := decide_eq_false (by omega)
        have d2' : decide (xs.length < ys.length) = false := decide_eq_false hlt'
        have HR : Hid (cmpL xs ys = 0) := hid (by
          rw [HL.out, HE.out, show ys.drop xs.length = [] from List.drop_eq_nil_of_le (by omega)]
          simp [cmpL, Cov.ltL])
        clear HL
        go_wp2
        go_ret
        exact ⟨ret_int HR.out.symm, rfl⟩

set_option maxHeartbeats 1000000 in
theorem cmpCombo_any (xs ys : List Int) (u v : Value) (S T : Nat → Prop) (w : World) (hu : IntsV S w u xs) (hv : IntsV T w v ys) :
    Calls Tryd.prog 47 #[u, v] w fun e w' => e = .returned (.int .i64 (cmpL xs ys)) ∧ w = w' := by
  obtain ⟨a, cap, rfl, hok, hcap, hmax, hS, hcell⟩ := hu
  obtain ⟨a', cap', rfl, hok', hcap', hmax', hS', hcell'⟩ := hv
  clear hS hS'
  unfold maxLen at hmax hmax'
  go_enter Tryd.func47, Tryd.ntmps47
  go_wp2
  go_loop [11] (fun i => ∃ k : Nat, k ≤ xs.length ∧ i = .int .i64 k ∧ k ≤ ys.length ∧ Hid (xs.take k = ys.take k)) (fun i => xs.length - (intOf i).toNat)
  case atStart => exact ⟨0, Nat.zero_le _, rfl, Nat.zero_le _, hid rfl⟩
  case round =>
    obtain ⟨k, hk, rfl, hk', hpre⟩ := hrel
    have HL := hid (cmpL_take xs ys k hpre.out hk hk')
    by_cases hlt : k < xs.length
    · have d1 : decide ((k : Int) < xs.length) = true := decide_eq_true (by omega)
      obtain ⟨x, hx, hx2⟩ := hcell k hlt
      by_cases hlt' : k < ys.length
      · have d2 : decide ((ys.length : Int) ≤ k) = false := decide_eq_false (by omega)
        have d2' : decide (ys.length ≤ k) = false := decide_eq_false (by omega)
        obtain ⟨y, hy, hy2⟩ := hcell' k hlt'
        have HT : Hid (xs[k] = ys[k] → xs.take (k + 1) = ys.take (k + 1)) := hid (take_eq_succ' hlt hlt' hpre.out)
        have HL2 : Hid (xs[k] ≠ ys[k] → cmpL xs ys = cmpI xs[k] ys[k]) := hid (fun h => by
          rw [HL.out, List.drop_eq_getElem_cons hlt, List.drop_eq_getElem_cons hlt', cmpL_cons _ _ _ _ h])
        have HC := hid (fun W => cmpI_any xs[k] ys[k] W)
        generalize xs[k] = x0 at *
        generalize ys[k] = y0 at *
        subst hx2; subst hy2
        have hk0 : (0 : Int) ≤ (k : Int) := by omega
        have hk1 : (k : Int) < (xs.length : Int) := by omega
        have hk2 : (k : Int) < (ys.length : Int) := by omega
        clear HL
        by_cases hxy : x0 = y0
        · have HT2 := hid (HT.out hxy)
          have h0 : cmpI x0 y0 = 0 := by subst hxy; simp [cmpI]
          rw [h0] at HC
          clear HT HL2 h0 hxy
          go_wp2_with fail
          refine (HC.out _).mono ?_
          rintro e w' ⟨rfl, rfl⟩
          go_wp2
          go_round
          case rel => exact ⟨k + 1, by omega, by go_num, by omega, HT2⟩
          case measure => simp [intOf]; omega
        · have HR := hid (HL2.out hxy)
          have h0 : cmpI x0 y0 ≠ 0 := by unfold cmpI; split <;> (try split) <;> omega
          generalize cmpI x0 y0 = c at *
          have d3 : (c != 0) = true := bneT h0
          clear HT HL2 hxy
          go_wp2_with fail
          refine (HC.out _).mono ?_
          rintro e w' ⟨rfl, rfl⟩
          go_wp2
          go_ret
          exact ⟨ret_int HR.out.symm, rfl⟩
      · have d2 : decide ((ys.length : Int) ≤ k) = true := decide_eq_true (by omega)
        have d2' : decide (ys.length ≤ k) = true := decide_eq_true (by omega)
        have HR : Hid (cmpL xs ys = 1) := hid (by
          rw [HL.out, show ys.drop k = [] from List.drop_eq_nil_of_le (by omega), List.drop_eq_getElem_cons hlt]
          exact cmpL_cons_nil _ _)
        have hk0 : (0 : Int) ≤ (k : Int) := by omega
        have hk1 : (k : Int) < (xs.length : Int) := by omega
        subst hx2
        clear HL
        go_wp2
        go_ret
        exact ⟨ret_int HR.out.symm, rfl⟩
    · obtain rfl : k = xs.length := by omega
      have HE : Hid (xs.drop xs.length = []) := hid List.drop_length
      by_cases hlt' : xs.length < ys.length
      · have d2 : decide ((xs.length : Int) < ys.length) = true := decide_eq_true (by omega)
        have d2' : decide (xs.length < ys.length) = true := decide_eq_true hlt'
        have HR : Hid (cmpL xs ys = -1) := hid (by
          rw [HL.out, HE.out, List.drop_eq_getElem_cons hlt']
          simp [cmpL, Cov.ltL])
        clear HL
        go_wp2
        go_ret
        exact ⟨ret_int HR.out.symm, rfl⟩
      · have d2 : decide ((xs.length : Int) < ys.length) = false := decide_eq_false (by omega)
        have d2' : decide (xs.length < ys.length) = false := decide_eq_false hlt'
        have HR : Hid (cmpL xs ys = 0) := hid (by
          rw [HL.out, HE.out, show ys.drop xs.length = [] from List.drop_eq_nil_of_le (by omega)]
          simp [cmpL, Cov.ltL])
        clear HL
        go_wp2
        go_ret
        exact ⟨ret_int HR.out.symm, rfl⟩


end Go.Proofs.YtjaejnacdanpkaaDoor

namespace Go.Proofs.YtjaejnacdanpkaaDoor
open Go.RowKit

set_option maxRecDepth 100000 in
set_option maxHeartbeats 1000000 in
theorem indices_any (s : Nat) (hs : s < 4096) (w : World) (hT : TabD w) :
    Calls Tryd.prog 64 #[.int .u64 s] w fun e w' => ∃ x, e = .returned x ∧ IntsV (w.heap.size ≤ ·) w' x (Cov.idx 0 12 s) ∧ Below w.heap.size w w' := by
  have HTab := hid hT
  have hle : (Cov.idx 0 12 s).length ≤ 12 := by rw [Cov.idx_len]; exact Cov.pop_le 12 s
  clear hT
  obtain ⟨fin, hfin⟩ : ∃ fin, Cov.idx 0 12 s = fin := ⟨_, rfl⟩
  rw [hfin] at hle ⊢
  have HFin := hid hfin
  clear hfin
  go_enter Tryd.func64, Tryd.ntmps64
  go_wp2
  go_loopw [0, 3] (fun c v wr => ∃ k : Nat, k < 4096 ∧ c = .int .u64 k ∧ ∃ out : List Int, Hid (out ++ Cov.idx 0 12 k = fin) ∧ Hid (OwnV (fun _ _ u (x : Int) => u = .int .i64 x) w.heap.size 3 wr v out ∧ Below w.heap.size w wr)) (fun c _ _ => (intOf c).toNat)
  case atStart => exact ⟨s, hs, rfl, [], hid (by simpa using HFin.out), hid ⟨OwnV.nil _ _ _ _, Below.refl _ _⟩⟩
  case round =>
    obtain ⟨k, hk, rfl, out, hout, HO⟩ := hrel
    by_cases h0 : k = 0
    · subst h0
      have ho := hout.out
      rw [idx_zero, List.append_nil] at ho
      have HR := hid (show IntsV (w.heap.size ≤ ·) wr u3 fin by rw [← ho]; exact OwnV.sl steady_int HO.out.1)
      have HB := hid HO.out.2
      clear ho HO hout
      go_wp2
      go_ret
      exact ⟨_, rfl, HR.out, HB.out⟩
    · obtain ⟨i1, i2, i3⟩ := idx_step k hk h0
      have hol := hout.out
      rw [i1] at hol
      have hlen : out.length ≤ 12 := by have := congrArg List.length hol; simp at this; omega
      have HN : Hid ((out ++ [(Lib.ctz 64 k : Int)]) ++ Cov.idx 0 12 (k &&& (k - 1)) = fin) := hid (by simpa using hol)
      have HTz := hid (fun X (h : TabD X) => tz_any k (by omega) h0 X h)
      have HTX := hid (HTab.out.below HO.out.2 HTab.out.lt)
      have d1 : ((k : Int) != 0) = true := bneT (by omega)
      have hand := dec_and k hk h0
      have hk1 : (1 : Int) ≤ k := by omega
      have hk2 : (k : Int) ≤ 4096 := by omega
      have hown := HO.out.1
      have hbb := HO.out.2
      have hsz := hbb.size
      clear i1 hol hout HO
      generalize k &&& (k - 1) = k2 at *
      generalize Lib.ctz 64 k = i at *
      go_wp2_with fail
      refine (HTz.out _ HTX.out).mono ?_
      rintro e w' ⟨rfl, rfl⟩
      go_wp2_with (at_builtin; go_must (refine wpList_app1 steady_int rfl _ _ rfl Tryd.app22 rfl hown rfl (i : Int) rfl rfl (by omega) hsz hbb (Nat.le_refl _) ?_))
      intro v' w' hown' hb' _
      have HO2 := hid (And.intro hown' hb')
      clear hown hbb hown' hb'
      go_wp2
      go_roundw
      case rel => exact ⟨k2, by omega, rfl, _, HN, HO2⟩
      case measure => simp [intOf]; omega

/-- Rising indices below m, from p on. -/
def risF (m : Nat) : Int → List Int → Bool
  | _, [] => true
  | p, x :: l => decide (p < x) && (decide (x < m) && risF m x l)
theorem idx_add : ∀ (x n k s : Nat), s < 2 ^ x → x < n → Cov.idx k n (s + 2 ^ x) = Cov.idx k x s ++ [((k + x : Nat) : Int)]
  | 0, 0, _, _, _, h => absurd h (by omega)
  | 0, n + 1, k, s, hs, _ => by
    have : s = 0 := by simpa using hs
    subst this
    simp [Cov.idx, idx_zero]
  | x + 1, 0, _, _, _, h => absurd h (by omega)
  | x + 1, n + 1, k, s, hs, h => by
    rw [Nat.pow_succ] at hs ⊢
    have e1 : (s + 2 ^ x * 2) % 2 = s % 2 := by omega
    have e2 : (s + 2 ^ x * 2) / 2 = s / 2 + 2 ^ x := by omega
    simp only [Cov.idx]
    rw [e1, e2, idx_add x n (k + 1) (s / 2) (by omega) (by omega), List.append_assoc]
    congr 3
    omega
theorem or_add (s x : Nat) (h : s < 2 ^ x) : s ||| 2 ^ x = s + 2 ^ x := by
  have := Nat.two_pow_add_eq_or_of_lt h 1
  rw [Nat.mul_one] at this
  rw [Nat.or_comm, ← this, Nat.add_comm]

/-- What set returns. -/
def SetP (m : Nat) (l : List Int) (w : World) (e : Ending) (w' : World) : Prop :=
  Below w.heap.size w w' ∧ ((risF m (-1) l = true ∧ ∃ s, s < 2 ^ m ∧ Cov.idx 0 12 s = l ∧ e = .returned (.tuple #[.int .u64 (s : Nat), .bool true])) ∨ (risF m (-1) l = false ∧ e = .returned (.tuple #[.int .u64 0, .bool false])))

set_option maxRecDepth 100000 in
set_option maxHeartbeats 2000000 in
theorem pset_any (m : Nat) (hm : m ≤ 12) (l : List Int) (sv tv lv : Value) (hsv : ∃ a n k, sv = .slice a n k) (htv : ∃ t, tv = .int .i64 t) (fa : Option Addr) (fc : Nat) (S : Nat → Prop) (w : World) (hl : IntsV S w lv l) :
    Calls Tryd.prog 45 #[.agg #[sv, .slice fa m fc, tv], lv] w (SetP m l w) := by
  obtain ⟨sa, sl, sc, rfl⟩ := hsv
  obtain ⟨t, rfl⟩ := htv
  have hb0 : Below w.heap.size w (w.alloc (.cells #[.slice sa sl sc, .slice fa m fc, .int .i64 t] 57)) := (Below.refl _ _).alloc (Nat.le_refl _) _
  have bx1 : (w.alloc (.cells #[.slice sa sl sc, .slice fa m fc, .int .i64 t] 57)).cell? ⟨w.heap.size, 1, none⟩ = some (.slice fa m fc) := by rw [cell_of_row _ _ 1 _ _ (0, 0) (World.alloc_heap_new w _)]; rfl
  have hl0 := IntsV.keep hl (KeepS.below hb0)
  obtain ⟨a, cap, rfl, hok, hcap, hmax⟩ := hl.form
  have HL := hid hl0
  have HB := hid hb0
  clear hl hl0 hb0
  go_enter Tryd.func45, Tryd.ntmps45
  go_wp2
  generalize hW : w.alloc (.cells #[.slice sa sl sc, .slice fa m fc, .int .i64 t] 57) = W at *
  clear hW
  go_loop [6, 11] (fun o i => ∃ (k s : Nat) (p : Int), k ≤ l.length ∧ i = .int .i64 k ∧ o = .int .u64 s ∧ -1 ≤ p ∧ s < 2 ^ (p + 1).toNat ∧ p < m ∧ Hid (k = 0 → p = -1) ∧ Hid (∀ (h0 : 0 < k) (h : k - 1 < l.length), l[k - 1] = p) ∧ Hid (Cov.idx 0 12 s = l.take k ∧ risF m (-1) l = risF m p (l.drop k))) (fun _ i => l.length - (intOf i).toNat)
  case atStart => exact ⟨0, 0, -1, by omega, rfl, rfl, by omega, by decide, by omega, hid (fun _ => rfl), hid (fun h => absurd h (by omega)), hid ⟨by rw [idx_zero]; rfl, rfl⟩⟩
  case round =>
    obtain ⟨k, s, p, hk, rfl, rfl, hp1, hp2, hpm, HK0, HK1, HS⟩ := hrel
    have hsm : s < 2 ^ m := Nat.lt_of_lt_of_le hp2 (Nat.pow_le_pow_right (by omega) (by omega))
    have hs12 : s < 4096 := Nat.lt_of_lt_of_le hsm (Nat.le_trans (Nat.pow_le_pow_right (by omega) hm) (by decide))
    by_cases hlt : k < l.length
    · obtain ⟨u, hc, hbk, rfl⟩ := HL.out.at hlt
      have HD : Hid (risF m (-1) l = (decide (p < l[k]) && (decide (l[k] < m) && risF m l[k] (l.drop (k + 1))))) := hid (by
        rw [HS.out.2, List.drop_eq_getElem_cons hlt]; rfl)
      have HT : Hid (l.take (k + 1) = l.take k ++ [l[k]]) := hid (take_snoc hlt).symm
      have HLK : Hid (∀ (_h0 : 0 < k + 1) (h : k < l.length), l[k] = l[k]) := hid (fun _ _ => rfl)
      obtain ⟨x, hx⟩ : ∃ x, l[k] = x := ⟨_, rfl⟩
      have HX2 := hid (fun (h : k + 1 - 1 < l.length) => (show l[k + 1 - 1] = x from by simpa using hx))
      rw [hx] at HD HT hc
      clear hx HLK
      have hk0 : (0 : Int) ≤ k := by omega
      have hk1 : (k : Int) < l.length := by omega
      have fin : ∀ b, risF m (-1) l = b → Hid (risF m (-1) l = b) := fun b h => hid h
      by_cases h1 : x < 0
      · have HR := fin false (by rw [HD.out, decide_eq_false (by omega)]; rfl)
        have d1 : decide (x < 0) = true := decide_eq_true h1
        clear fin HD HT HX2 HS HK0 HK1
        go_wp2
        go_ret2
        exact ⟨HB.out, .inr ⟨HR.out, rfl⟩⟩
      · have d1 : decide (x < 0) = false := decide_eq_false h1
        by_cases h2 : (m : Int) ≤ x
        · have HR := fin false (by rw [HD.out, decide_eq_false (show ¬ x < (m : Int) by omega)]; simp)
          have d2 : decide ((m : Int) ≤ x) = true := decide_eq_true h2
          clear fin HD HT HX2 HS HK0 HK1
          go_wp2
          go_ret2
          exact ⟨HB.out, .inr ⟨HR.out, rfl⟩⟩
        · have d2 : decide ((m : Int) ≤ x) = false := decide_eq_false h2
          obtain ⟨j, rfl⟩ := Int.eq_ofNat_of_zero_le (show 0 ≤ x by omega)
          have step : p < (j : Int) → Hid ((j : Int) < m ∧ (s ||| 2 ^ j) < 2 ^ ((j : Int) + 1).toNat ∧ Hid (Cov.idx 0 12 (s ||| 2 ^ j) = l.take (k + 1) ∧ risF m (-1) l = risF m (j : Int) (l.drop (k + 1)))) := fun hpx => hid (by
            have hsx : s < 2 ^ j := Nat.lt_of_lt_of_le hp2 (Nat.pow_le_pow_right (by omega) (by omega))
            refine ⟨by omega, ?_, hid ⟨?_, ?_⟩⟩
            · rw [or_add s j hsx, show ((j : Int) + 1).toNat = j + 1 by omega, Nat.pow_succ]; omega
            · rw [or_add s j hsx, idx_add j 12 0 s hsx (by omega), ← idx12 (by omega) hsx, HS.out.1, HT.out]; simp
            · rw [HD.out, decide_eq_true hpx, decide_eq_true (by omega)]; rfl)
          have hsh : IntKind.u64.wrap ((2 : Int) ^ j) = ((2 ^ j : Nat) : Int) := by
            have e : ((2 : Int) ^ j) = ((2 ^ j : Nat) : Int) := by push_cast; rfl
            have h4 : 2 ^ j < 4096 := Nat.lt_of_lt_of_le (Nat.pow_lt_pow_right (by omega) (show j < 12 by omega)) (by decide)
            rw [e]
            generalize 2 ^ j = q at *
            rw [IntKind.wrap_u64]
            omega
          have hor : bits .or .u64 (s : Int) ((2 ^ j : Nat) : Int) = ((s ||| 2 ^ j : Nat) : Int) := by
            have h4 : 2 ^ j < 4096 := Nat.lt_of_lt_of_le (Nat.pow_lt_pow_right (by omega) (show j < 12 by omega)) (by decide)
            exact bits_or_u64_nat s (2 ^ j) (by omega) (by omega)
          have hjj : j < 64 := by omega
          obtain ⟨Q, hQ⟩ : ∃ Q, Q = 2 ^ j := ⟨_, rfl⟩
          rw [← hQ] at hsh hor step
          obtain ⟨O, hO⟩ : ∃ O, O = s ||| Q := ⟨_, rfl⟩
          rw [← hO] at hor step
          clear hQ hO HT
          by_cases h3 : 0 < k
          · have hk3 : (0 : Int) < k := by omega
            have d3 : decide ((0 : Int) < k) = true := decide_eq_true hk3
            have d3' : decide (0 < k) = true := decide_eq_true h3
            have hkl : k - 1 < l.length := by omega
            obtain ⟨u', hc', hbk', hu'⟩ := HL.out.at hkl
            rw [HK1.out h3 hkl] at hu'
            subst hu'
            have htn : ((k : Int) - 1).toNat = k - 1 := by omega
            have hix : ∀ X, (Instr.indexAt 22 (.slice a l.length cap) (.int .i64 ((k : Int) - 1))).run Tryd.prog X = .ok (.pointer (some ⟨slb a, slo a + (k - 1), none⟩)) X := fun X => by
              have h := run_indexAt_var (P := Tryd.prog) X 22 a l.length cap .i64 ((k : Int) - 1) (by kernel_rfl) hok (by omega) (by omega)
              have hs1 : (sizeOf (Tryd.prog.elem 22)).run Tryd.prog X = .ok 1 X := rfl
              rw [h, hs1, htn]
              simp [Result.andThen]
            by_cases h4 : (j : Int) ≤ p
            · have HR := fin false (by rw [HD.out, decide_eq_false (by omega)]; rfl)
              have d4 : decide ((j : Int) ≤ p) = true := decide_eq_true h4
              clear fin HD HX2 HS HK0 HK1 step
              go_wp2
              go_ret2
              exact ⟨HB.out, .inr ⟨HR.out, rfl⟩⟩
            · have d4 : decide ((j : Int) ≤ p) = false := decide_eq_false h4
              have HN := step (by omega)
              clear fin HD HS HK0 HK1 step
              go_wp2
              go_round
              case rel => exact ⟨k + 1, O, j, by omega, by go_num, rfl, by omega, HN.out.2.1, HN.out.1, hid (fun h => absurd h (by omega)), hid (fun _ h => HX2.out h), HN.out.2.2⟩
              case measure => simp [intOf]; omega
          · have hk3 : ¬ (0 : Int) < k := by omega
            have d3 : decide ((0 : Int) < k) = false := decide_eq_false hk3
            have d3' : decide (0 < k) = false := decide_eq_false h3
            have hpe := HK0.out (by omega)
            have HN := step (by omega)
            clear fin HD HS HK0 HK1 step hpe
            go_wp2
            go_round
            case rel => exact ⟨k + 1, O, j, by omega, by go_num, rfl, by omega, HN.out.2.1, HN.out.1, hid (fun h => absurd h (by omega)), hid (fun _ h => HX2.out h), HN.out.2.2⟩
            case measure => simp [intOf]; omega
    · obtain rfl : k = l.length := by omega
      have HR : Hid (Cov.idx 0 12 s = l ∧ risF m (-1) l = true) := hid (by
        have h := HS.out
        rw [List.take_length, List.drop_length] at h
        exact h)
      have HSM := hid hsm
      clear HS HK0 HK1 hp2 hsm
      go_wp2
      go_ret2
      exact ⟨HB.out, .inl ⟨HR.out.2, s, HSM.out, HR.out.1, rfl⟩⟩

end Go.Proofs.YtjaejnacdanpkaaDoor
