/- has, values, ContainsFunc and allowed of the program. ContainsFunc where the test makes memory, and over numbers. allowed and isCombo of the program. valid of the program. -/
import Derived.Test.YtjaejnacdanpkaaDoorB21
import Derived.Test.YtjaejnacdanpkaaDoorB3
import Derived.Test.YtjaejnacdanpkaaDoorB12
namespace Go.Proofs.YtjaejnacdanpkaaDoor
open Go.RowKit

set_option maxHeartbeats 1000000 in
theorem phas_any (xs ys : List Int) (hl : xs.length = ys.length) (hg : ∀ y ∈ ys, -1 ≤ y) (u v : Value) (S T : Nat → Prop) (w : World) (hu : IntsV S w u xs) (hv : IntsV T w v ys) :
    Calls Tryd.prog 70 #[u, v] w fun e w' => e = .returned (.bool (Cov.has xs ys)) ∧ w = w' := by
  obtain ⟨a, cap, rfl, hok, hcap, hmax, hS, hcell⟩ := hu
  obtain ⟨a', cap', rfl, hok', hcap', hmax', hS', hcell'⟩ := hv
  clear hS hS'
  unfold maxLen at hmax hmax'
  have HI := hid (has_iff xs ys hl)
  have hlx : ∀ k, k < ys.length → k < xs.length := fun k h => by omega
  have HLX := hid hlx
  have HG := hid hg
  clear hl hlx hg
  go_enter Tryd.func70, Tryd.ntmps70
  go_wp2
  go_loop [9] (fun i => ∃ k : Nat, k ≤ ys.length ∧ i = .int .i64 k ∧ Hid (∀ i (h : i < ys.length) (h' : i < xs.length), i < k → ys[i] < 0 ∨ xs[i] = ys[i])) (fun i => ys.length - (intOf i).toNat)
  case atStart => exact ⟨0, Nat.zero_le _, rfl, hid (fun i _ _ h => by omega)⟩
  case round =>
    obtain ⟨k, hk, rfl, hpre⟩ := hrel
    by_cases hlt : k < ys.length
    · have hltx := HLX.out k hlt
      obtain ⟨x, hx, hx2⟩ := hcell k hltx
      obtain ⟨y, hy, hy2⟩ := hcell' k hlt
      have hg0 := HG.out _ (List.getElem_mem hlt)
      have HS : Hid ((ys[k] < 0 ∨ xs[k] = ys[k]) → ∀ i (h : i < ys.length) (h' : i < xs.length), i < k + 1 → ys[i] < 0 ∨ xs[i] = ys[i]) := hid (fun h0 i h h' hi => by
        by_cases e : i = k
        · subst e; exact h0
        · exact hpre.out i h h' (by omega))
      have HN : Hid (¬ (ys[k] < 0 ∨ xs[k] = ys[k]) → Cov.has xs ys = false) := hid (fun h0 => by
        cases hh : Cov.has xs ys with
        | false => rfl
        | true => exact absurd (HI.out.1 hh k hlt hltx) h0)
      generalize xs[k] = x0 at *
      generalize ys[k] = y0 at *
      subst hx2; subst hy2
      have hk0 : (0 : Int) ≤ (k : Int) := by omega
      have hk1 : (k : Int) < (xs.length : Int) := by omega
      have hk2 : (k : Int) < (ys.length : Int) := by omega
      by_cases hy0 : y0 < 0
      · obtain rfl : y0 = -1 := by omega
        have HS2 := hid (HS.out (.inl hy0))
        clear HS HN hy0 hg0
        go_wp2
        go_round
        case rel => exact ⟨k + 1, by omega, by go_num, HS2⟩
        case measure => simp [intOf]; omega
      · have d1 : (y0 != -1) = true := bneT (by omega)
        by_cases hxy : x0 = y0
        · subst hxy
          have d2 : (x0 != x0) = false := bneF rfl
          have HS2 := hid (HS.out (.inr rfl))
          clear HS HN
          go_wp2
          go_round
          case rel => exact ⟨k + 1, by omega, by go_num, HS2⟩
          case measure => simp [intOf]; omega
        · have d2 : (x0 != y0) = true := bneT hxy
          have HN2 := hid (HN.out (by omega))
          clear HS HN hxy
          go_wp2
          go_ret
          exact ⟨ret_bool HN2.out.symm, rfl⟩
    · have hT : Hid (Cov.has xs ys = true) := hid (HI.out.2 (fun i h h' => hpre.out i h h' (by omega)))
      clear hpre
      go_wp2
      go_ret
      exact ⟨ret_bool hT.out.symm, rfl⟩

set_option maxHeartbeats 1000000 in
theorem pvalues_any (xs : List Int) (hl : xs.length ≤ 100000) (hg : ∀ x ∈ xs, -1 ≤ x) (u : Value) (S : Nat → Prop) (w : World) (hu : IntsV S w u xs) :
    Calls Tryd.prog 46 #[u] w fun e w' => e = .returned (.int .i64 (Cov.vals xs)) ∧ w = w' := by
  obtain ⟨a, cap, rfl, hok, hcap, hmax, hS, hcell⟩ := hu
  clear hS
  have HG := hid hg
  clear hg
  go_enter Tryd.func46, Tryd.ntmps46
  go_wp2
  go_loop [3, 8] (fun n i => ∃ k t : Nat, k ≤ xs.length ∧ i = .int .i64 k ∧ n = .int .i64 t ∧ t ≤ k ∧ Hid (t = Cov.vals (xs.take k))) (fun _ i => xs.length - (intOf i).toNat)
  case atStart => exact ⟨0, 0, by omega, rfl, rfl, by omega, hid rfl⟩
  case round =>
    obtain ⟨k, t, hk, rfl, rfl, htk, ht⟩ := hrel
    by_cases hlt : k < xs.length
    · obtain ⟨x, hx, hx2⟩ := hcell k hlt
      have hg0 := HG.out _ (List.getElem_mem hlt)
      have HV := hid (vals_take xs k hlt)
      generalize xs[k] = x0 at *
      subst hx2
      have hk0 : (0 : Int) ≤ (k : Int) := by omega
      have hk1 : (k : Int) < (xs.length : Int) := by omega
      by_cases hx0 : 0 ≤ x0
      · have d1 : (x0 != -1) = true := bneT (by omega)
        have HV2 := hid (HV.out.trans (by rw [if_pos hx0]))
        clear HV
        go_wp2
        go_round
        case rel => exact ⟨k + 1, t + 1, by omega, by go_num, by go_num, by omega, hid (by rw [HV2.out, ht.out])⟩
        case measure => simp [intOf]; omega
      · obtain rfl : x0 = -1 := by omega
        have HV2 := hid (HV.out.trans (by rw [if_neg hx0]))
        clear HV hx0 hg0
        go_wp2
        go_round
        case rel => exact ⟨k + 1, t, by omega, by go_num, rfl, by omega, hid (by rw [HV2.out, ht.out]; rfl)⟩
        case measure => simp [intOf]; omega
    · obtain rfl : k = xs.length := by omega
      have hte := ht.out
      rw [List.take_length] at hte
      have HT := hid hte
      clear hte ht
      go_wp2
      go_ret
      exact ⟨ret_int (by rw [HT.out]), rfl⟩

/-- How IndexFunc ends. -/
def IdxP (b : Bool) (w : World) (e : Ending) (w' : World) : Prop := ∃ z : Int, e = .returned (.int .i64 z) ∧ -1 ≤ z ∧ z ≤ 9223372036854775807 ∧ decide (0 ≤ z) = b ∧ w = w'

set_option maxHeartbeats 1000000 in
theorem pindexR_any (F : List (List Int)) (p : List Int → Bool) (v : Value) (T : Nat → Prop) (w : World) (hv : RowsV T w v F) (fo : Nat) (lb : Array Value) (ego : ∀ args w, (callFunc fo args).run Tryd.prog w = .ok (.enter fo args) w)
    (hp : ∀ j (h : j < F.length) u, IntsV T w u F[j] → Calls Tryd.prog fo (#[u] ++ lb) w fun e w' => e = .returned (.bool (p F[j])) ∧ w = w') :
    Calls Tryd.prog 73 #[v, .func (.func fo) #[] lb] w (IdxP (F.any p) w) := by
  obtain ⟨a, cap, rfl, hok, hcap, hmax, hS, hcell⟩ := hv
  clear hS
  unfold maxLen at hmax
  have HP := hid hp
  clear hp
  go_enter Tryd.func73, Tryd.ntmps73
  go_wp2
  go_loop [8] (fun i => ∃ k : Nat, k ≤ F.length ∧ i = .int .i64 k ∧ Hid ((F.take k).any p = false)) (fun i => F.length - (intOf i).toNat)
  case atStart => exact ⟨0, Nat.zero_le _, rfl, hid (by simp)⟩
  case round =>
    obtain ⟨k, hk, rfl, hpre⟩ := hrel
    by_cases hlt : k < F.length
    · obtain ⟨x, hx, hx2⟩ := hcell k hlt
      obtain ⟨ax, cx, rfl, -, -, -⟩ := hx2.form
      have HC := hid (HP.out k hlt _ hx2)
      have HT := hid (any_take p F k hlt)
      have HA : Hid (p F[k] = true → F.any p = true) := hid (fun h => List.any_eq_true.2 ⟨_, List.getElem_mem hlt, h⟩)
      generalize F[k] = c at *
      have hk0 : (0 : Int) ≤ (k : Int) := by omega
      have hk1 : (k : Int) < (F.length : Int) := by omega
      clear hx2
      cases hpc : p c with
      | true =>
        rw [hpc] at HC
        have HA2 := hid (HA.out hpc)
        clear hpc HT HA
        go_wp2_with fail
        refine HC.out.mono ?_
        rintro e w' ⟨rfl, rfl⟩
        go_wp2
        go_ret
        exact ⟨k, rfl, by omega, by omega, by rw [HA2.out]; simp, rfl⟩
      | false =>
        rw [hpc] at HC
        have HT2 : Hid ((F.take (k + 1)).any p = false) := hid (by rw [HT.out, hpre.out, hpc]; rfl)
        clear hpc HT HA
        go_wp2_with fail
        refine HC.out.mono ?_
        rintro e w' ⟨rfl, rfl⟩
        go_wp2
        go_round
        case rel => exact ⟨k + 1, by omega, by go_num, HT2⟩
        case measure => simp [intOf]; omega
    · obtain rfl : k = F.length := by omega
      rw [List.take_length] at hpre
      go_wp2
      go_ret
      exact ⟨-1, rfl, by omega, by omega, by rw [hpre.out]; simp, rfl⟩

theorem pcontR_any (F : List (List Int)) (p : List Int → Bool) (v : Value) (T : Nat → Prop) (w : World) (hv : RowsV T w v F) (fo : Nat) (lb : Array Value) (ego : ∀ args w, (callFunc fo args).run Tryd.prog w = .ok (.enter fo args) w)
    (hp : ∀ j (h : j < F.length) u, IntsV T w u F[j] → Calls Tryd.prog fo (#[u] ++ lb) w fun e w' => e = .returned (.bool (p F[j])) ∧ w = w') :
    Calls Tryd.prog 55 #[v, .func (.func fo) #[] lb] w fun e w' => e = .returned (.bool (F.any p)) ∧ w = w' := by
  have H := hid (pindexR_any F p v T w hv fo lb ego hp)
  obtain ⟨a, cap, rfl, -, -, -⟩ := hv.form
  clear hv hp
  go_enter Tryd.func55, Tryd.ntmps55
  go_wp2_with fail
  refine H.out.mono ?_
  rintro e w' ⟨z, rfl, hz1, hz2, hz3, rfl⟩
  have HZ := hid hz3
  clear hz3
  go_wp2
  go_ret
  exact ⟨ret_bool HZ.out, rfl⟩

end Go.Proofs.YtjaejnacdanpkaaDoor

namespace Go.Proofs.YtjaejnacdanpkaaDoor
open Go.RowKit

/-- How IndexFunc ends. -/
def IdxB (b : Bool) (w : World) (e : Ending) (w' : World) : Prop := ∃ z : Int, e = .returned (.int .i64 z) ∧ -1 ≤ z ∧ z ≤ 9223372036854775807 ∧ decide (0 ≤ z) = b ∧ Below w.heap.size w w'

set_option maxHeartbeats 1000000 in
theorem pindexB_any (F : List (List Int)) (p : List Int → Bool) (v : Value) (T : Nat → Prop) (w : World) (hv : RowsV T w v F) (fo : Nat) (lb : Array Value) (ego : ∀ args w, (callFunc fo args).run Tryd.prog w = .ok (.enter fo args) w)
    (hp : ∀ X, Below w.heap.size w X → ∀ j (h : j < F.length) u, IntsV T X u F[j] → Calls Tryd.prog fo (#[u] ++ lb) X fun e w' => e = .returned (.bool (p F[j])) ∧ Below X.heap.size X w') :
    Calls Tryd.prog 73 #[v, .func (.func fo) #[] lb] w (IdxB (F.any p) w) := by
  have HV := hid hv
  obtain ⟨a, cap, rfl, hok, hcap, hmax⟩ := hv.form
  clear hv
  have HP := hid hp
  clear hp
  go_enter Tryd.func73, Tryd.ntmps73
  go_wp2
  go_loopw [8] (fun i wr => ∃ k : Nat, k ≤ F.length ∧ i = .int .i64 k ∧ Hid ((F.take k).any p = false) ∧ Hid (Below w.heap.size w wr)) (fun i _ => F.length - (intOf i).toNat)
  case atStart => exact ⟨0, Nat.zero_le _, rfl, hid (by simp), hid (Below.refl _ _)⟩
  case round =>
    obtain ⟨k, hk, rfl, hpre, hb⟩ := hrel
    by_cases hlt : k < F.length
    · obtain ⟨x, hx, -, hx2⟩ := (RowsV.keep HV.out (KeepS.below hb.out)).at hlt
      obtain ⟨ax, cx, rfl, -, -, -⟩ := hx2.form
      have HC := hid (HP.out wr hb.out k hlt _ hx2)
      have HT := hid (any_take p F k hlt)
      have HA : Hid (p F[k] = true → F.any p = true) := hid (fun h => List.any_eq_true.2 ⟨_, List.getElem_mem hlt, h⟩)
      generalize F[k] = c at *
      have hk0 : (0 : Int) ≤ (k : Int) := by omega
      have hk1 : (k : Int) < (F.length : Int) := by omega
      clear hx2
      cases hpc : p c with
      | true =>
        rw [hpc] at HC
        have HA2 := hid (HA.out hpc)
        clear hpc HT HA
        go_wp2_with fail
        refine HC.out.mono ?_
        rintro e w' ⟨rfl, hb2⟩
        have HB2 := hid (hb.out.trans (hb2.mono hb.out.size))
        clear hb2
        go_wp2
        go_ret
        exact ⟨k, rfl, by omega, by omega, by rw [HA2.out]; simp, HB2.out⟩
      | false =>
        rw [hpc] at HC
        have HT2 : Hid ((F.take (k + 1)).any p = false) := hid (by rw [HT.out, hpre.out, hpc]; rfl)
        clear hpc HT HA
        go_wp2_with fail
        refine HC.out.mono ?_
        rintro e w' ⟨rfl, hb2⟩
        have HB2 := hid (hb.out.trans (hb2.mono hb.out.size))
        clear hb2
        go_wp2
        go_roundw
        case rel => exact ⟨k + 1, by omega, by go_num, HT2, HB2⟩
        case measure => simp [intOf]; omega
    · obtain rfl : k = F.length := by omega
      rw [List.take_length] at hpre
      go_wp2
      go_ret
      exact ⟨-1, rfl, by omega, by omega, by rw [hpre.out]; simp, hb.out⟩

theorem pcontB_any (F : List (List Int)) (p : List Int → Bool) (v : Value) (T : Nat → Prop) (w : World) (hv : RowsV T w v F) (fo : Nat) (lb : Array Value) (ego : ∀ args w, (callFunc fo args).run Tryd.prog w = .ok (.enter fo args) w)
    (hp : ∀ X, Below w.heap.size w X → ∀ j (h : j < F.length) u, IntsV T X u F[j] → Calls Tryd.prog fo (#[u] ++ lb) X fun e w' => e = .returned (.bool (p F[j])) ∧ Below X.heap.size X w') :
    Calls Tryd.prog 55 #[v, .func (.func fo) #[] lb] w fun e w' => e = .returned (.bool (F.any p)) ∧ Below w.heap.size w w' := by
  have H := hid (pindexB_any F p v T w hv fo lb ego hp)
  obtain ⟨a, cap, rfl, -, -, -⟩ := hv.form
  clear hv hp
  go_enter Tryd.func55, Tryd.ntmps55
  go_wp2_with fail
  refine H.out.mono ?_
  rintro e w' ⟨z, rfl, hz1, hz2, hz3, hb⟩
  have HZ := hid hz3
  have HB := hid hb
  clear hz3 hb
  go_wp2
  go_ret
  exact ⟨ret_bool HZ.out, HB.out⟩

set_option maxHeartbeats 1000000 in
theorem pindexI_any (F : List Int) (p : Int → Bool) (v : Value) (T : Nat → Prop) (w : World) (hv : IntsV T w v F) (fo : Nat) (lb : Array Value) (ego : ∀ args w, (callFunc fo args).run Tryd.prog w = .ok (.enter fo args) w)
    (hp : ∀ j (h : j < F.length), Calls Tryd.prog fo (#[.int .i64 F[j]] ++ lb) w fun e w' => e = .returned (.bool (p F[j])) ∧ w = w') :
    Calls Tryd.prog 72 #[v, .func (.func fo) #[] lb] w (IdxP (F.any p) w) := by
  obtain ⟨a, cap, rfl, hok, hcap, hmax, hS, hcell⟩ := hv
  clear hS
  unfold maxLen at hmax
  have HP := hid hp
  clear hp
  go_enter Tryd.func72, Tryd.ntmps72
  go_wp2
  go_loop [8] (fun i => ∃ k : Nat, k ≤ F.length ∧ i = .int .i64 k ∧ Hid ((F.take k).any p = false)) (fun i => F.length - (intOf i).toNat)
  case atStart => exact ⟨0, Nat.zero_le _, rfl, hid (by simp)⟩
  case round =>
    obtain ⟨k, hk, rfl, hpre⟩ := hrel
    by_cases hlt : k < F.length
    · obtain ⟨x, hx, hx2⟩ := hcell k hlt
      subst hx2
      have HC := hid (HP.out k hlt)
      have HT := hid (any_take p F k hlt)
      have HA : Hid (p F[k] = true → F.any p = true) := hid (fun h => List.any_eq_true.2 ⟨_, List.getElem_mem hlt, h⟩)
      generalize F[k] = c at *
      have hk0 : (0 : Int) ≤ (k : Int) := by omega
      have hk1 : (k : Int) < (F.length : Int) := by omega
      cases hpc : p c with
      | true =>
        rw [hpc] at HC
        have HA2 := hid (HA.out hpc)
        clear hpc HT HA
        go_wp2_with fail
        refine HC.out.mono ?_
        rintro e w' ⟨rfl, rfl⟩
        go_wp2
        go_ret
        exact ⟨k, rfl, by omega, by omega, by rw [HA2.out]; simp, rfl⟩
      | false =>
        rw [hpc] at HC
        have HT2 : Hid ((F.take (k + 1)).any p = false) := hid (by rw [HT.out, hpre.out, hpc]; rfl)
        clear hpc HT HA
        go_wp2_with fail
        refine HC.out.mono ?_
        rintro e w' ⟨rfl, rfl⟩
        go_wp2
        go_round
        case rel => exact ⟨k + 1, by omega, by go_num, HT2⟩
        case measure => simp [intOf]; omega
    · obtain rfl : k = F.length := by omega
      rw [List.take_length] at hpre
      go_wp2
      go_ret
      exact ⟨-1, rfl, by omega, by omega, by rw [hpre.out]; simp, rfl⟩

theorem pcontI_any (F : List Int) (p : Int → Bool) (v : Value) (T : Nat → Prop) (w : World) (hv : IntsV T w v F) (fo : Nat) (lb : Array Value) (ego : ∀ args w, (callFunc fo args).run Tryd.prog w = .ok (.enter fo args) w)
    (hp : ∀ j (h : j < F.length), Calls Tryd.prog fo (#[.int .i64 F[j]] ++ lb) w fun e w' => e = .returned (.bool (p F[j])) ∧ w = w') :
    Calls Tryd.prog 53 #[v, .func (.func fo) #[] lb] w fun e w' => e = .returned (.bool (F.any p)) ∧ w = w' := by
  have H := hid (pindexI_any F p v T w hv fo lb ego hp)
  obtain ⟨a, cap, rfl, -, -, -⟩ := hv.form
  clear hv hp
  go_enter Tryd.func53, Tryd.ntmps53
  go_wp2_with fail
  refine H.out.mono ?_
  rintro e w' ⟨z, rfl, hz1, hz2, hz3, rfl⟩
  have HZ := hid hz3
  clear hz3
  go_wp2
  go_ret
  exact ⟨ret_bool HZ.out, rfl⟩


/-- A function of the program's own is entered. -/
theorem fn_enters {P : Program} {f : FuncId} {fn : Func} {c : Code} (hf : P.funcs[f]? = some fn) (hn : (fn.name == "runtime.NumGoroutine") = false) (hb : fn.body = some c) (args : Array Value) (w : World) : (callFunc f args).run P w = .ok (.enter f args) w := by
  have hne : fn.name ≠ "runtime.NumGoroutine" := fun e => by simp [e] at hn
  simp [callFunc, hf, hne, hb, mark]

theorem allowed1_any (r c : List Int) (hl : r.length = c.length) (hg : ∀ y ∈ c, -1 ≤ y) (rv u : Value) (S T : Nat → Prop) (bR : Nat) (W : World) (hb : W.heap[bR]? = some (.cells #[rv] 22 (0, 0))) (hr : IntsV S W rv r) (hc : IntsV T W u c) :
    Calls Tryd.prog 69 #[u, .pointer (some ⟨bR, 0, none⟩)] W fun e w' => e = .returned (.bool (Cov.has r c)) ∧ W = w' := by
  have H := hid (phas_any r c hl hg rv u S T W hr hc)
  obtain ⟨a, cap, rfl, -, -, -⟩ := hr.form
  obtain ⟨a', cap', rfl, -, -, -⟩ := hc.form
  have c0 := (one_cell hb).1
  clear hr hc hb hl hg
  go_enter Tryd.func69, Tryd.ntmps69
  go_wp2_with fail
  refine H.out.mono ?_
  rintro e w' ⟨rfl, rfl⟩
  go_wp2
  go_ret
  exact ⟨rfl, rfl⟩

/-- The combinations of a problem. -/
def GapsF (n : Nat) (F : List (List Int)) : Prop := ∀ c ∈ F, c.length = n ∧ ∀ y ∈ c, -1 ≤ y

theorem pallowed_any (F : List (List Int)) (r : List Int) (hF : GapsF r.length F) (sv tv rv : Value) (hsv : ∃ a n k, sv = .slice a n k) (htv : ∃ t, tv = .int .i64 t) (fa : Option Addr) (fc : Nat) (S T : Nat → Prop) (w : World)
    (hf : RowsV T w (.slice fa F.length fc) F) (hr : IntsV S w rv r) :
    Calls Tryd.prog 44 #[.agg #[sv, .slice fa F.length fc, tv], rv] w fun e w' => e = .returned (.bool (Cov.allowed F r)) ∧ Below w.heap.size w w' := by
  obtain ⟨sa, sl, sc, rfl⟩ := hsv
  obtain ⟨t, rfl⟩ := htv
  obtain ⟨a, cap, rfl, -, -, -⟩ := hr.form
  have hb1 : Below w.heap.size w ((w.alloc (.cells #[.slice sa sl sc, .slice fa F.length fc, .int .i64 t] 57)).alloc (.cells #[.slice a r.length cap] 22)) := ((Below.refl _ _).alloc (Nat.le_refl _) _).alloc (by simp) _
  have hn := heap_new (k := w.heap.size + 1) (w.alloc (.cells #[.slice sa sl sc, .slice fa F.length fc, .int .i64 t] 57)) (.cells #[.slice a r.length cap] 22) (by simp)
  have H := hid (pcontB_any F (fun c => Cov.has r c) (.slice fa F.length fc) T _ (hf.keep (KeepS.below hb1)) 69 #[.pointer (some ⟨w.heap.size + 1, 0, none⟩)] (fn_enters Tryd.func69 (by kernel_rfl) rfl)
    (fun X hX j hj u hu => (allowed1_any r F[j] (hF _ (List.getElem_mem hj)).1.symm (hF _ (List.getElem_mem hj)).2 (.slice a r.length cap) u S T (w.heap.size + 1) X ((hX.block _ (by simp)).trans hn) ((hr.keep (KeepS.below hb1)).keep (KeepS.below hX)) hu).mono fun e w' h => ⟨h.1, by rw [← h.2]; exact Below.refl _ _⟩))
  have HB1 := hid hb1
  clear hb1 hn hf hr
  go_enter Tryd.func44, Tryd.ntmps44
  go_wp2_with fail
  refine H.out.mono ?_
  rintro e w' ⟨rfl, hb⟩
  have HB := hid (HB1.out.trans (hb.mono (by simp only [World.size_alloc]; omega)))
  clear hb
  go_wp2
  go_ret
  exact ⟨rfl, HB.out⟩

set_option maxRecDepth 100000 in
set_option maxHeartbeats 2000000 in
theorem pcombo_any (least : Int) (ns : List Nat) (c : List Int) (_hn : ns.length ≤ 100000) (hns : ∀ n ∈ ns, n ≤ 100000) (sa : Option Addr) (sc : Nat) (fv tv v : Value) (fa : Option Addr) (fl fc : Nat) (t : Int) (hfv : fv = .slice fa fl fc) (htv : tv = .int .i64 t) (S T : Nat → Prop) (w : World)
    (hs : IntsV S w (.slice sa ns.length sc) (szI ns)) (hv : IntsV T w v c) :
    Calls Tryd.prog 43 #[.agg #[.slice sa ns.length sc, fv, tv], v, .int .i64 least] w fun e w' => e = .returned (.bool (Cov.comboB ns c && decide (least ≤ (Cov.vals c : Int)))) ∧ Below w.heap.size w w' := by
  subst hfv htv
  have hv0 := hv
  obtain ⟨av, cv, rfl, hokv, hcapv, hmaxv⟩ := hv.form
  obtain ⟨sa', sc', es, hoks, hcaps, hmaxs⟩ := hs.form
  rw [List.length_map] at es hoks hcaps
  cases es
  clear hv
  have hb0 : Below w.heap.size w (w.alloc (.cells #[.slice sa ns.length sc, .slice fa fl fc, .int .i64 t] 57)) := (Below.refl _ _).alloc (Nat.le_refl _) _
  have HB := hid hb0
  clear hb0
  by_cases hl : c.length = ns.length
  · have hl2 : ((c.length : Int) != (ns.length : Int)) = false := bneF (by omega)
    have HI := hid (comboB_iff ns c hl)
    have HL := hid hl
    clear hl
    go_enter Tryd.func43, Tryd.ntmps43
    go_wp2
    go_loopw [7, 18] (fun m i wr => ∃ k tv : Nat, k ≤ c.length ∧ i = .int .i64 k ∧ m = .int .i64 tv ∧ tv ≤ k ∧ Hid (tv = Cov.vals (c.take k)) ∧ Hid (∀ i (h : i < c.length) (h' : i < ns.length), i < k → -1 ≤ c[i] ∧ c[i] < (ns[i] : Int)) ∧ ∃ n, wr = (w.alloc (.cells #[.slice sa ns.length sc, .slice fa fl fc, .int .i64 t] 57)).drewN n) (fun _ i _ => c.length - (intOf i).toNat)
    case atStart => exact ⟨0, 0, by omega, rfl, rfl, by omega, hid rfl, hid (fun i _ _ h => by omega), 0, rfl⟩
    case round =>
      obtain ⟨k, tv, hk, rfl, rfl, htk, ht, hpre, n, rfl⟩ := hrel
      by_cases hlt : k < c.length
      · have hlt2 : k < ns.length := by have := HL.out; omega
        obtain ⟨x, hc, hbk, hx⟩ := hv0.at hlt
        obtain ⟨y, hcs, hbs, hy⟩ := hs.at (j := k) (by rw [List.length_map]; exact hlt2)
        rw [List.getElem_map] at hy
        have hnb := hns _ (List.getElem_mem hlt2)
        have HV := hid (vals_take c k hlt)
        have HS : Hid (-1 ≤ c[k] ∧ c[k] < (ns[k] : Int) → ∀ i (h : i < c.length) (h' : i < ns.length), i < k + 1 → -1 ≤ c[i] ∧ c[i] < (ns[i] : Int)) := hid (fun h0 i h h' hi => by
          by_cases e : i = k
          · subst e; exact h0
          · exact hpre.out i h h' (by omega))
        have HN : Hid (¬ (-1 ≤ c[k] ∧ c[k] < (ns[k] : Int)) → Cov.comboB ns c = false) := hid (fun h0 => by
          cases hh : Cov.comboB ns c with
          | false => rfl
          | true => exact absurd (HI.out.1 hh k hlt hlt2) h0)
        generalize c[k] = x0 at *
        generalize ns[k] = n0 at *
        subst hx; subst hy
        have hk0 : (0 : Int) ≤ (k : Int) := by omega
        have hk1 : (k : Int) < (c.length : Int) := by omega
        have hk2 : (k : Int) < (ns.length : Int) := by omega
        have hvl : Cov.vals c ≤ c.length := List.length_filter_le _ _
        by_cases h1 : x0 < -1
        · have d1 : decide (x0 < -1) = true := decide_eq_true h1
          have HN2 := hid (HN.out (by omega))
          clear HS HN HV
          go_wp2
          go_ret
          exact ⟨ret_bool (by rw [HN2.out]; rfl), below_drewN HB.out _⟩
        · have d1 : decide (x0 < -1) = false := decide_eq_false h1
          by_cases h2 : (n0 : Int) ≤ x0
          · have d2 : decide ((n0 : Int) ≤ x0) = true := decide_eq_true h2
            have HN2 := hid (HN.out (by omega))
            clear HS HN HV
            go_wp2
            go_ret
            exact ⟨ret_bool (by rw [HN2.out]; rfl), below_drewN HB.out _⟩
          · have d2 : decide ((n0 : Int) ≤ x0) = false := decide_eq_false h2
            have HS2 := hid (HS.out (by omega))
            clear HS HN
            by_cases hx0 : 0 ≤ x0
            · have d3 : (x0 != -1) = true := bneT (by omega)
              have HV2 := hid (HV.out.trans (by rw [if_pos hx0]))
              clear HV
              go_wp2
              go_roundw
              case rel => exact ⟨k + 1, tv + 1, by omega, by go_num, by go_num, by omega, hid (by rw [HV2.out, ht.out]), HS2, _, rfl⟩
              case measure => simp [intOf]; omega
            · obtain rfl : x0 = -1 := by omega
              have HV2 := hid (HV.out.trans (by rw [if_neg hx0]))
              clear HV hx0 d1 h1
              go_wp2
              go_roundw
              case rel => exact ⟨k + 1, tv, by omega, by go_num, rfl, by omega, hid (by rw [HV2.out, ht.out]; rfl), HS2, _, rfl⟩
              case measure => simp [intOf]; omega
      · obtain rfl : k = c.length := by omega
        have hT : Hid (Cov.comboB ns c = true) := hid (HI.out.2 (fun i h h' => hpre.out i h h' (by omega)))
        have hte := ht.out
        rw [List.take_length] at hte
        have HT := hid hte
        clear hpre hte ht
        go_wp2
        go_ret
        exact ⟨ret_bool (by rw [hT.out, ← HT.out]; rfl), below_drewN HB.out _⟩
  · have hl2 : ((c.length : Int) != (ns.length : Int)) = true := bneT (by omega)
    have hF : Hid (Cov.comboB ns c = false) := hid (by
      cases hh : Cov.comboB ns c with
      | false => rfl
      | true => exact absurd (Cov.comboB_len ns c hh) hl)
    clear hl
    go_enter Tryd.func43, Tryd.ntmps43
    go_wp2
    go_ret
    exact ⟨ret_bool (by rw [hF.out]; rfl), HB.out⟩

end Go.Proofs.YtjaejnacdanpkaaDoor

namespace Go.Proofs.YtjaejnacdanpkaaDoor
open Go.RowKit

theorem valid1_any (x : Int) (w : World) : Calls Tryd.prog 54 #[.int .i64 x] w fun e w' => e = .returned (.bool (badS x)) ∧ w = w' := by
  have hb : badS x = (decide (x < 1) || decide (8 < x)) := rfl
  have HB := hid hb
  clear hb
  by_cases h1 : x < 1
  · have d1 : decide (x < 1) = true := decide_eq_true h1
    have HE : Hid (badS x = true) := hid (by rw [HB.out, d1]; rfl)
    go_enter Tryd.func54, Tryd.ntmps54
    go_wp2
    go_ret
    exact ⟨ret_bool HE.out.symm, rfl⟩
  · have d1 : decide (x < 1) = false := decide_eq_false h1
    by_cases h2 : 8 < x
    · have d2 : decide (8 < x) = true := decide_eq_true h2
      have HE : Hid (badS x = true) := hid (by rw [HB.out, d2, Bool.or_true])
      go_enter Tryd.func54, Tryd.ntmps54
      go_wp2
      go_ret
      exact ⟨ret_bool HE.out.symm, rfl⟩
    · have d2 : decide (8 < x) = false := decide_eq_false h2
      have HE : Hid (badS x = false) := hid (by rw [HB.out, d1, d2]; rfl)
      go_enter Tryd.func54, Tryd.ntmps54
      go_wp2
      go_ret
      exact ⟨ret_bool HE.out.symm, rfl⟩

theorem valid2_any (ns : List Nat) (hn : ns.length ≤ 100000) (hns : ∀ n ∈ ns, n ≤ 100000) (c : List Int) (sa : Option Addr) (sc : Nat) (fa : Option Addr) (fl fc : Nat) (t : Int) (u : Value) (S T : Nat → Prop) (bP : Nat) (W : World)
    (hb : W.heap[bP]? = some (.cells #[.slice sa ns.length sc, .slice fa fl fc, .int .i64 t] 57 (0, 0))) (hs : IntsV S W (.slice sa ns.length sc) (szI ns)) (hc : IntsV T W u c) :
    Calls Tryd.prog 56 #[u, .pointer (some ⟨bP, 0, none⟩)] W fun e w' => e = .returned (.bool (badC ns c)) ∧ Below W.heap.size W w' := by
  have H := hid (pcombo_any 1 ns c hn hns sa sc (.slice fa fl fc) (.int .i64 t) u fa fl fc t rfl rfl S T W hs hc)
  obtain ⟨a, cap, rfl, -, -, -⟩ := hc.form
  have c0 := cell_of_row _ _ 0 _ _ (0, 0) hb
  have c1 := cell_of_row _ _ 1 _ _ (0, 0) hb
  have c2 := cell_of_row _ _ 2 _ _ (0, 0) hb
  simp only [List.getElem?_toArray, List.getElem?_cons_zero, List.getElem?_cons_succ] at c0 c1 c2
  have HE : Hid ((!(Cov.comboB ns c && decide ((1 : Int) ≤ (Cov.vals c : Int)))) = badC ns c) := hid (by
    unfold badC
    rw [Bool.not_and]
    congr 1
    by_cases h : Cov.vals c = 0
    · simp [h]
    · rw [decide_eq_false h, decide_eq_true (by omega)]; rfl)
  generalize (Cov.comboB ns c && decide ((1 : Int) ≤ (Cov.vals c : Int))) = b at *
  clear hs hc hb
  go_enter Tryd.func56, Tryd.ntmps56
  go_wp2_with fail
  refine H.out.mono ?_
  rintro e w' ⟨rfl, hb⟩
  have HB := hid hb
  clear hb
  go_wp2
  go_ret
  exact ⟨ret_bool HE.out, HB.out⟩

/-- The program's product. -/
def progP (sz : List Int) : Int := sz.foldl (fun p n => if p ≤ 4096 then p * n else p) 1
theorem progP_snoc (sz : List Int) (k : Nat) (h : k < sz.length) : progP (sz.take (k + 1)) = (if progP (sz.take k) ≤ 4096 then progP (sz.take k) * sz[k] else progP (sz.take k)) := by
  unfold progP
  rw [← take_snoc h, List.foldl_append]
  rfl
theorem progP_le : ∀ (sz : List Int), (∀ s ∈ sz, 1 ≤ s ∧ s ≤ 8) → ∀ p : Int, 1 ≤ p → p ≤ 32768 → 1 ≤ sz.foldl (fun p n => if p ≤ 4096 then p * n else p) p ∧ sz.foldl (fun p n => if p ≤ 4096 then p * n else p) p ≤ 32768
  | [], _, p, h1, h2 => ⟨h1, h2⟩
  | s :: sz, h, p, h1, h2 => by
    have hs := h s (List.mem_cons_self ..)
    simp only [List.foldl_cons]
    refine progP_le sz (fun x hx => h x (List.mem_cons_of_mem _ hx)) _ ?_ ?_
    · split
      · have := Int.mul_le_mul h1 hs.1 (by omega) (by omega); omega
      · exact h1
    · split
      · rename_i hp; have := Int.mul_le_mul hp hs.2 (by omega) (by omega); omega
      · exact h2
theorem progP_min : ∀ (sz : List Int), (∀ s ∈ sz, 1 ≤ s) → ∀ p r : Int, 1 ≤ p → r = min p 4097 → sz.foldl (fun p s => min (p * s) 4097) r = min (sz.foldl (fun p n => if p ≤ 4096 then p * n else p) p) 4097
  | [], _, p, r, _, h2 => h2
  | s :: sz, h, p, r, h1, h2 => by
    have hs := h s (List.mem_cons_self ..)
    simp only [List.foldl_cons]
    have h3 := Int.mul_le_mul h1 hs (by omega) (by omega)
    refine progP_min sz (fun x hx => h x (List.mem_cons_of_mem _ hx)) _ _ ?_ ?_
    · split <;> omega
    · split
      · rename_i hp
        rw [h2, show min p 4097 = p by omega]
      · rename_i hp
        rw [h2, show min p 4097 = 4097 by omega]
        have h4 := Int.mul_le_mul (show (4097 : Int) ≤ 4097 by omega) hs (by omega) (by omega)
        omega

set_option maxRecDepth 100000 in
set_option maxHeartbeats 4000000 in
theorem pvalid_wrong (sz : List Int) (hwr : wrongB sz = true) (F : List (List Int)) (t : Int) (sa : Option Addr) (sc : Nat) (fa : Option Addr) (fc : Nat) (S T : Nat → Prop) (w : World)
    (hs : IntsV S w (.slice sa sz.length sc) sz) (hf : RowsV T w (.slice fa F.length fc) F) :
    Calls Tryd.prog 32 #[.agg #[.slice sa sz.length sc, .slice fa F.length fc, .int .i64 t]] w fun e w' => e = .returned (.int .i64 (validE sz F t)) ∧ Below w.heap.size w w' := by
  have hA0 : Below w.heap.size w (w.alloc (.cells #[.slice sa sz.length sc, .slice fa F.length fc, .int .i64 t] 57)) := (Below.refl _ _).alloc (Nat.le_refl _) _
  obtain ⟨sa', sc', es, hoks, hcaps, hmaxs⟩ := hs.form
  cases es
  obtain ⟨fa', fc', ef, hokf, hcapf, hmaxf⟩ := hf.form
  cases ef
  have hb0 : (w.alloc (.cells #[.slice sa sz.length sc, .slice fa F.length fc, .int .i64 t] 57)).heap[w.heap.size]? = some (.cells #[.slice sa sz.length sc, .slice fa F.length fc, .int .i64 t] 57 (0, 0)) := World.alloc_heap_new w _
  have bx0 : (w.alloc (.cells #[.slice sa sz.length sc, .slice fa F.length fc, .int .i64 t] 57)).cell? ⟨w.heap.size, 0, none⟩ = some (.slice sa sz.length sc) := by rw [cell_of_row _ _ 0 _ _ (0, 0) hb0]; rfl
  have bx1 : (w.alloc (.cells #[.slice sa sz.length sc, .slice fa F.length fc, .int .i64 t] 57)).cell? ⟨w.heap.size, 1, none⟩ = some (.slice fa F.length fc) := by rw [cell_of_row _ _ 1 _ _ (0, 0) hb0]; rfl
  have hzb : w.heap.size < (w.alloc (.cells #[.slice sa sz.length sc, .slice fa F.length fc, .int .i64 t] 57)).heap.size := by simp
  have hS0 := IntsV.keep hs (KeepS.below hA0)
  have HA0 := hid hA0
  have HL4 : Hid (limB sz F = true → validE sz F t = 4) := hid (fun h => by unfold validE; rw [if_pos h])
  have HL1 : Hid (limB sz F = false → validE sz F t = 1) := hid (fun h => by unfold validE; rw [if_neg (by rw [h]; decide), if_pos (by unfold argB; rw [hwr]; rfl)])
  have HLim : Hid (limB sz F = (decide (8 < sz.length) || decide (12 < F.length))) := hid (by unfold limB prodV; rw [hwr]; simp)
  have HWR := hid hwr
  have HCI := hid (pcontI_any sz badS (.slice sa sz.length sc) S _ hS0 54 #[] (fn_enters Tryd.func54 (by kernel_rfl) rfl) (fun j hj => valid1_any sz[j] _))
  clear hA0 hs hf hb0 hwr
  have hz : sz.length = 0 ∨ (sz.length ≠ 0 ∧ sz.any badS = true) := by
    have := HWR.out
    unfold wrongB at this
    by_cases h : sz.length = 0
    · exact .inl h
    · rw [decide_eq_false h, Bool.false_or] at this; exact .inr ⟨h, this⟩
  rcases hz with hz | ⟨hz, hany⟩
  · have z0 : ((sz.length : Int) == 0) = true := beqT (by omega)
    clear hz HCI
    go_enter Tryd.func32, Tryd.ntmps32
    go_wp2
    generalize hW : w.alloc (.cells #[.slice sa sz.length sc, .slice fa F.length fc, .int .i64 t] 57) = W at *
    have HS0 := hid hS0
    clear hW z0 hS0
    go_loop [4, 19] (fun p i => ∃ k : Nat, k ≤ sz.length ∧ i = .int .i64 k ∧ p = .int .i64 1) (fun _ i => sz.length - (intOf i).toNat)
    case atStart => exact ⟨0, by omega, rfl, rfl⟩
    case round =>
      obtain ⟨k, hk, rfl, rfl⟩ := hrel
      by_cases hlt : k < sz.length
      · obtain ⟨u, hc, hbk, rfl⟩ := HS0.out.at hlt
        generalize sz[k] = x at *
        have hk0 : (0 : Int) ≤ k := by omega
        have hk1 : (k : Int) < sz.length := by omega
        go_wp2
        go_round
        case rel => exact ⟨k + 1, by omega, by go_num, rfl⟩
        case measure => simp [intOf]; omega
      · obtain rfl : k = sz.length := by omega
        by_cases g1 : 8 < sz.length
        · have HE := hid (HL4.out (by rw [HLim.out, decide_eq_true g1]; rfl))
          have g1' : decide (8 < (sz.length : Int)) = true := decide_eq_true (by omega)
          clear HL4 HL1 HLim
          go_wp2
          go_ret
          exact ⟨ret_int HE.out.symm, HA0.out⟩
        · have g1' : decide (8 < (sz.length : Int)) = false := decide_eq_false (by omega)
          by_cases g2 : 12 < F.length
          · have HE := hid (HL4.out (by rw [HLim.out, decide_eq_true g2, Bool.or_true]))
            have g2' : decide (12 < (F.length : Int)) = true := decide_eq_true (by omega)
            clear HL4 HL1 HLim
            go_wp2
            go_ret
            exact ⟨ret_int HE.out.symm, HA0.out⟩
          · have HE := hid (HL1.out (by rw [HLim.out, decide_eq_false g1, decide_eq_false g2]; rfl))
            have g2' : decide (12 < (F.length : Int)) = false := decide_eq_false (by omega)
            clear HL4 HL1 HLim
            go_wp2
            go_ret
            exact ⟨ret_int HE.out.symm, HA0.out⟩
  · have z0 : ((sz.length : Int) == 0) = false := beqF (by omega)
    rw [hany] at HCI
    clear hz hany
    go_enter Tryd.func32, Tryd.ntmps32
    go_wp2_with fail
    refine HCI.out.mono ?_
    rintro e w' ⟨rfl, rfl⟩
    go_wp2
    clear HCI
    generalize hW : w.alloc (.cells #[.slice sa sz.length sc, .slice fa F.length fc, .int .i64 t] 57) = W at *
    have HS0 := hid hS0
    clear hW z0 hS0
    go_loop [4, 19] (fun p i => ∃ k : Nat, k ≤ sz.length ∧ i = .int .i64 k ∧ p = .int .i64 1) (fun _ i => sz.length - (intOf i).toNat)
    case atStart => exact ⟨0, by omega, rfl, rfl⟩
    case round =>
      obtain ⟨k, hk, rfl, rfl⟩ := hrel
      by_cases hlt : k < sz.length
      · obtain ⟨u, hc, hbk, rfl⟩ := HS0.out.at hlt
        generalize sz[k] = x at *
        have hk0 : (0 : Int) ≤ k := by omega
        have hk1 : (k : Int) < sz.length := by omega
        go_wp2
        go_round
        case rel => exact ⟨k + 1, by omega, by go_num, rfl⟩
        case measure => simp [intOf]; omega
      · obtain rfl : k = sz.length := by omega
        by_cases g1 : 8 < sz.length
        · have HE := hid (HL4.out (by rw [HLim.out, decide_eq_true g1]; rfl))
          have g1' : decide (8 < (sz.length : Int)) = true := decide_eq_true (by omega)
          clear HL4 HL1 HLim
          go_wp2
          go_ret
          exact ⟨ret_int HE.out.symm, HA0.out⟩
        · have g1' : decide (8 < (sz.length : Int)) = false := decide_eq_false (by omega)
          by_cases g2 : 12 < F.length
          · have HE := hid (HL4.out (by rw [HLim.out, decide_eq_true g2, Bool.or_true]))
            have g2' : decide (12 < (F.length : Int)) = true := decide_eq_true (by omega)
            clear HL4 HL1 HLim
            go_wp2
            go_ret
            exact ⟨ret_int HE.out.symm, HA0.out⟩
          · have HE := hid (HL1.out (by rw [HLim.out, decide_eq_false g1, decide_eq_false g2]; rfl))
            have g2' : decide (12 < (F.length : Int)) = false := decide_eq_false (by omega)
            clear HL4 HL1 HLim
            go_wp2
            go_ret
            exact ⟨ret_int HE.out.symm, HA0.out⟩

set_option maxRecDepth 100000 in
set_option maxHeartbeats 4000000 in
theorem pvalid_right (sz : List Int) (hwr : wrongB sz = false) (hszl : sz.length ≤ 100000) (F : List (List Int)) (t : Int) (sa : Option Addr) (sc : Nat) (fa : Option Addr) (fc : Nat) (S T : Nat → Prop) (w : World)
    (hs : IntsV S w (.slice sa sz.length sc) sz) (hf : RowsV T w (.slice fa F.length fc) F) :
    Calls Tryd.prog 32 #[.agg #[.slice sa sz.length sc, .slice fa F.length fc, .int .i64 t]] w fun e w' => e = .returned (.int .i64 (validE sz F t)) ∧ Below w.heap.size w w' := by
  have hA0 : Below w.heap.size w (w.alloc (.cells #[.slice sa sz.length sc, .slice fa F.length fc, .int .i64 t] 57)) := (Below.refl _ _).alloc (Nat.le_refl _) _
  obtain ⟨sa', sc', es, hoks, hcaps, hmaxs⟩ := hs.form
  cases es
  obtain ⟨fa', fc', ef, hokf, hcapf, hmaxf⟩ := hf.form
  cases ef
  have hb0 : (w.alloc (.cells #[.slice sa sz.length sc, .slice fa F.length fc, .int .i64 t] 57)).heap[w.heap.size]? = some (.cells #[.slice sa sz.length sc, .slice fa F.length fc, .int .i64 t] 57 (0, 0)) := World.alloc_heap_new w _
  have bx0 : (w.alloc (.cells #[.slice sa sz.length sc, .slice fa F.length fc, .int .i64 t] 57)).cell? ⟨w.heap.size, 0, none⟩ = some (.slice sa sz.length sc) := by rw [cell_of_row _ _ 0 _ _ (0, 0) hb0]; rfl
  have bx1 : (w.alloc (.cells #[.slice sa sz.length sc, .slice fa F.length fc, .int .i64 t] 57)).cell? ⟨w.heap.size, 1, none⟩ = some (.slice fa F.length fc) := by rw [cell_of_row _ _ 1 _ _ (0, 0) hb0]; rfl
  have hzb : w.heap.size < (w.alloc (.cells #[.slice sa sz.length sc, .slice fa F.length fc, .int .i64 t] 57)).heap.size := by simp
  have hS0 := IntsV.keep hs (KeepS.below hA0)
  have hWs : Hid ((w.alloc (.cells #[.slice sa sz.length sc, .slice fa F.length fc, .int .i64 t] 57)).heap.size = w.heap.size + 1) := hid (by simp)
  have HA0 := hid hA0
  have bx2 : (w.alloc (.cells #[.slice sa sz.length sc, .slice fa F.length fc, .int .i64 t] 57)).cell? ⟨w.heap.size, 2, none⟩ = some (.int .i64 t) := by rw [cell_of_row _ _ 2 _ _ (0, 0) hb0]; rfl
  have hsz0 : sz.length ≠ 0 ∧ sz.any badS = false := by
    unfold wrongB at hwr
    simp only [Bool.or_eq_false_iff, decide_eq_false_iff_not] at hwr
    exact hwr
  have hsr : ∀ s ∈ sz, 1 ≤ s ∧ s ≤ 8 := fun s hsm => by
    have h := hsz0.2
    rw [List.any_eq_false] at h
    have := h s hsm
    unfold badS at this
    simp at this
    omega
  have hprod : prodV sz = min (progP sz) 4097 := by
    unfold prodV
    rw [hwr]
    simp only [Bool.false_eq_true, if_false]
    exact progP_min sz (fun s h => (hsr s h).1) 1 1 (by omega) (by omega)
  have hszI := szI_nats hwr
  have hnl : (nats sz).length = sz.length := by simp [nats]
  have HL4 : Hid (limB sz F = true → validE sz F t = 4) := hid (fun h => by unfold validE; rw [if_pos h])
  have HL1 : Hid (limB sz F = false → argB sz t = true → validE sz F t = 1) := hid (fun h h2 => by unfold validE; rw [if_neg (by rw [h]; decide), if_pos h2])
  have HL0 : Hid (limB sz F = false → argB sz t = false → validE sz F t = if F.any (badC (nats sz)) = true then 1 else 0) := hid (fun h h2 => by unfold validE; rw [if_neg (by rw [h]; decide), if_neg (by rw [h2]; decide)])
  have HLim : Hid (limB sz F = (decide (8 < sz.length) || (decide (12 < F.length) || decide (4096 < progP sz)))) := hid (by
    unfold limB
    rw [hprod]
    congr 2
    by_cases h : 4096 < progP sz
    · rw [decide_eq_true h, decide_eq_true (by omega)]
    · rw [decide_eq_false h, decide_eq_false (by omega)])
  have HArg : Hid (argB sz t = (decide (t < 2) || (decide (3 < t) || decide ((sz.length : Int) < t)))) := hid (by unfold argB; rw [hwr]; rfl)
  have HPL := hid (fun k (hk : k ≤ sz.length) => progP_le (sz.take k) (fun s h => hsr s (List.mem_of_mem_take h)) 1 (by omega) (by omega))
  have HCI := hid (pcontI_any sz badS (.slice sa sz.length sc) S _ hS0 54 #[] (fn_enters Tryd.func54 (by kernel_rfl) rfl) (fun j hj => valid1_any sz[j] _))
  rw [hsz0.2] at HCI
  have HCR := hid (pcontB_any F (badC (nats sz)) (.slice fa F.length fc) T _ (RowsV.keep hf (KeepS.below hA0)) 56 #[.pointer (some ⟨w.heap.size, 0, none⟩)] (fn_enters Tryd.func56 (by kernel_rfl) rfl)
    (fun X hX j hj u hu => valid2_any (nats sz) (by rw [hnl]; exact hszl) (fun n hn => by
        obtain ⟨s, h1, h2⟩ := List.mem_map.1 hn
        have := hsr s h1
        omega) F[j] sa sc fa F.length fc t u S T w.heap.size X (by rw [hnl]; exact (hX.block _ (by simp)).trans hb0) (by rw [hszI, hnl]; exact hS0.keep (KeepS.below hX)) hu))
  have HSR := hid hsr
  have z0 : ((sz.length : Int) == 0) = false := beqF (by omega)
  clear hA0 hs hf hb0 hwr hsz0 hsr hprod hszI hnl
  go_enter Tryd.func32, Tryd.ntmps32
  go_wp2_with fail
  refine HCI.out.mono ?_
  rintro e w' ⟨rfl, rfl⟩
  go_wp2
  generalize hW : w.alloc (.cells #[.slice sa sz.length sc, .slice fa F.length fc, .int .i64 t] 57) = W at *
  have HS0 := hid hS0
  clear hW z0 hS0 HCI
  go_loop [4, 19] (fun p i => ∃ (k : Nat) (q : Int), k ≤ sz.length ∧ i = .int .i64 k ∧ p = .int .i64 q ∧ 1 ≤ q ∧ q ≤ 32768 ∧ Hid (q = progP (sz.take k))) (fun _ i => sz.length - (intOf i).toNat)
  case atStart => exact ⟨0, 1, by omega, rfl, rfl, by omega, by omega, hid rfl⟩
  case round =>
    obtain ⟨k, q, hk, rfl, rfl, hq1, hq2, hq⟩ := hrel
    by_cases hlt : k < sz.length
    · obtain ⟨u, hc, hbk, rfl⟩ := HS0.out.at hlt
      have hx := HSR.out _ (List.getElem_mem hlt)
      have HT := hid (progP_snoc sz k hlt)
      have hpl := HPL.out (k + 1) hlt
      have HPL1 : Hid (1 ≤ progP (sz.take (k + 1)) ∧ progP (sz.take (k + 1)) ≤ 32768) := hid hpl
      clear hpl
      generalize sz[k] = x at *
      obtain ⟨hx1, hx2⟩ := hx
      have hk0 : (0 : Int) ≤ k := by omega
      have hk1 : (k : Int) < sz.length := by omega
      by_cases g : q ≤ 4096
      · have d1 : decide (q ≤ 4096) = true := decide_eq_true g
        have HN : Hid (q * x = progP (sz.take (k + 1))) := hid (by rw [HT.out, ← hq.out, if_pos g])
        have hm1 : 1 ≤ q * x := by rw [HN.out]; exact HPL1.out.1
        have hm2 : q * x ≤ 32768 := by rw [HN.out]; exact HPL1.out.2
        clear HT HPL1
        go_wp2
        go_round
        case rel => exact ⟨k + 1, q * x, by omega, by go_num, rfl, hm1, hm2, HN⟩
        case measure => simp [intOf]; omega
      · have d1 : decide (q ≤ 4096) = false := decide_eq_false g
        have HN : Hid (q = progP (sz.take (k + 1))) := hid (by rw [HT.out, ← hq.out, if_neg g])
        clear HT HPL1
        go_wp2
        go_round
        case rel => exact ⟨k + 1, q, by omega, by go_num, rfl, hq1, hq2, HN⟩
        case measure => simp [intOf]; omega
    · obtain rfl : k = sz.length := by omega
      have hqe := hq.out
      rw [List.take_length] at hqe
      have HQ := hid hqe
      clear hqe hq HPL
      by_cases g1 : 8 < sz.length
      · have HE := hid (HL4.out (by rw [HLim.out, decide_eq_true g1]; rfl))
        have g1' : decide (8 < (sz.length : Int)) = true := decide_eq_true (by omega)
        clear HL4 HL1 HL0 HLim HArg HCR
        go_wp2
        go_ret
        exact ⟨ret_int HE.out.symm, HA0.out⟩
      · have g1' : decide (8 < (sz.length : Int)) = false := decide_eq_false (by omega)
        by_cases g2 : 12 < F.length
        · have HE := hid (HL4.out (by rw [HLim.out, decide_eq_true g2, Bool.true_or, Bool.or_true]))
          have g2' : decide (12 < (F.length : Int)) = true := decide_eq_true (by omega)
          clear HL4 HL1 HL0 HLim HArg HCR
          go_wp2
          go_ret
          exact ⟨ret_int HE.out.symm, HA0.out⟩
        · have g2' : decide (12 < (F.length : Int)) = false := decide_eq_false (by omega)
          by_cases g3 : 4096 < q
          · have HE := hid (HL4.out (by rw [HLim.out, ← HQ.out, decide_eq_true g3, Bool.or_true, Bool.or_true]))
            have g3' : decide (4096 < q) = true := decide_eq_true (by omega)
            clear HL4 HL1 HL0 HLim HArg HCR
            go_wp2
            go_ret
            exact ⟨ret_int HE.out.symm, HA0.out⟩
          · have g3' : decide (4096 < q) = false := decide_eq_false (by omega)
            have HLF : Hid (limB sz F = false) := hid (by rw [HLim.out, ← HQ.out, decide_eq_false g1, decide_eq_false g2, decide_eq_false g3]; rfl)
            by_cases h1 : t < 2
            · have HE := hid (HL1.out HLF.out (by rw [HArg.out, decide_eq_true h1]; rfl))
              have h1' : decide (t < 2) = true := decide_eq_true (by omega)
              clear HL4 HL1 HL0 HLim HArg HCR
              go_wp2
              go_ret
              exact ⟨ret_int HE.out.symm, HA0.out⟩
            · have h1' : decide (t < 2) = false := decide_eq_false (by omega)
              by_cases h2 : 3 < t
              · have HE := hid (HL1.out HLF.out (by rw [HArg.out, decide_eq_true h2, Bool.true_or, Bool.or_true]))
                have h2' : decide (3 < t) = true := decide_eq_true (by omega)
                clear HL4 HL1 HL0 HLim HArg HCR
                go_wp2
                go_ret
                exact ⟨ret_int HE.out.symm, HA0.out⟩
              · have h2' : decide (3 < t) = false := decide_eq_false (by omega)
                by_cases h3 : (sz.length : Int) < t
                · have HE := hid (HL1.out HLF.out (by rw [HArg.out, decide_eq_true h3, Bool.or_true, Bool.or_true]))
                  have h3' : decide ((sz.length : Int) < t) = true := decide_eq_true (by omega)
                  clear HL4 HL1 HL0 HLim HArg HCR
                  go_wp2
                  go_ret
                  exact ⟨ret_int HE.out.symm, HA0.out⟩
                · have h3' : decide ((sz.length : Int) < t) = false := decide_eq_false (by omega)
                  have HE := hid (HL0.out HLF.out (by rw [HArg.out, decide_eq_false h1, decide_eq_false h2, decide_eq_false h3]; rfl))
                  clear HL4 HL1 HL0 HLim HArg
                  generalize F.any (badC (nats sz)) = b at *
                  have hW1 : W.heap.size = w.heap.size + 1 := hWs.out
                  cases b with
                  | true =>
                    go_wp2_with fail
                    refine HCR.out.mono ?_
                    rintro e w2 ⟨rfl, hb⟩
                    have HB := hid (HA0.out.trans (hb.mono (by omega)))
                    clear hb HCR
                    go_wp2
                    go_ret
                    exact ⟨ret_int (by rw [HE.out]; rfl), HB.out⟩
                  | false =>
                    go_wp2_with fail
                    refine HCR.out.mono ?_
                    rintro e w2 ⟨rfl, hb⟩
                    have HB := hid (HA0.out.trans (hb.mono (by omega)))
                    clear hb HCR
                    go_wp2
                    go_ret
                    exact ⟨ret_int (by rw [HE.out]; rfl), HB.out⟩

theorem pvalid_any (sz : List Int) (hszl : sz.length ≤ 100000) (F : List (List Int)) (t : Int) (sa : Option Addr) (sc : Nat) (fa : Option Addr) (fc : Nat) (S T : Nat → Prop) (w : World)
    (hs : IntsV S w (.slice sa sz.length sc) sz) (hf : RowsV T w (.slice fa F.length fc) F) :
    Calls Tryd.prog 32 #[.agg #[.slice sa sz.length sc, .slice fa F.length fc, .int .i64 t]] w fun e w' => e = .returned (.int .i64 (validE sz F t)) ∧ Below w.heap.size w w' := by
  cases h : wrongB sz with
  | true => exact pvalid_wrong sz h F t sa sc fa fc S T w hs hf
  | false => exact pvalid_right sz h hszl F t sa sc fa fc S T w hs hf

end Go.Proofs.YtjaejnacdanpkaaDoor
