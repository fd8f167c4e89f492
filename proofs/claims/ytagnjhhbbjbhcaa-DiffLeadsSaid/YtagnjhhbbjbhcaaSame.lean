/- SameInts: two slices of numbers are compared. -/
import Derived.Test.YtagnjhhbbjbhcaaLeaf
namespace Go.Proofs.Ytagnjhhbbjbhcaa
open Go.RowKit

theorem same_prefix {xs ys : List Int} {k : Nat} (hl : xs.length = ys.length) (hk : k = xs.length) (h : xs.take k = ys.take k) : xs = ys := by
  have e1 : xs.take xs.length = xs := List.take_length
  have e2 : ys.take ys.length = ys := List.take_length
  rw [hk] at h
  rw [← e1, h, hl, e2]

theorem take_eq_succ {xs ys : List Int} {k : Nat} (hx : k < xs.length) (hy : k < ys.length) (h : xs.take k = ys.take k) (e : xs[k] = ys[k]) : xs.take (k + 1) = ys.take (k + 1) := by
  rw [List.take_succ_eq_append_getElem hx, List.take_succ_eq_append_getElem hy, h, e]

set_option maxHeartbeats 400000 in
theorem sameInts_any (xs ys : List Int) (u v : Value) (S T : Nat → Prop) (w : World) (hu : IntsV S w u xs) (hv : IntsV T w v ys) :
    Calls Try.prog 29 #[u, v] w fun e w' => e = .returned (.bool (decide (xs = ys))) ∧ ∃ n, w' = w.drewN n := by
  obtain ⟨a, cap, rfl, hok, hcap, hmax, hS, hcell⟩ := hu
  obtain ⟨a', cap', rfl, hok', hcap', hmax', hS', hcell'⟩ := hv
  clear hS hS'
  unfold maxLen at hmax hmax'
  by_cases hl : xs.length = ys.length
  · have hl2 : ((xs.length : Int) != (ys.length : Int)) = false := by simp [hl]
    have hl3 : xs.length ≤ ys.length := by omega
    have HL := hid hl
    clear hl
    go_enter Try.func29, Try.ntmps29
    go_wp2
    go_loopw [5] (fun i wr => ∃ k : Nat, k ≤ xs.length ∧ i = .int .i64 k ∧ Hid (xs.take k = ys.take k) ∧ ∃ n, wr = w.drewN n) (fun i _ => xs.length - (intOf i).toNat)
    case atStart => exact ⟨0, Nat.zero_le _, rfl, hid rfl, 0, rfl⟩
    case round =>
      obtain ⟨k, hk, rfl, hpre, n, rfl⟩ := hrel
      by_cases hlt : k < xs.length
      · obtain ⟨x, hx, hx2⟩ := hcell k hlt
        obtain ⟨y, hy, hy2⟩ := hcell' k (by omega)
        obtain ⟨x0, hx0⟩ : ∃ x0, x0 = xs[k] := ⟨_, rfl⟩
        obtain ⟨y0, hy0⟩ : ∃ y0, y0 = ys[k] := ⟨_, rfl⟩
        rw [← hx0] at hx2
        rw [← hy0] at hy2
        subst hx2; subst hy2
        have hk0 : (0 : Int) ≤ (k : Int) := by omega
        have hk1 : (k : Int) < (xs.length : Int) := by omega
        have hk2 : (k : Int) < (ys.length : Int) := by omega
        have HX := hid hx0
        have HY := hid hy0
        clear hx0 hy0
        by_cases hxy : x0 = y0
        · subst hxy
          go_wp2
          go_quiet (fail)
          go_wp2
          go_roundw
          case rel => exact ⟨k + 1, by omega, by go_num, hid (take_eq_succ hlt (by omega) hpre.out (HX.out.symm.trans HY.out)), _, rfl⟩
          case measure => simp [intOf]; omega
        · have hb : (x0 != y0) = true := by simpa using hxy
          have hne : xs ≠ ys := by
            intro e
            subst e
            exact hxy (HX.out.trans HY.out.symm)
          have HN := hid hne
          clear hxy hne
          go_wp2
          go_quiet (fail)
          go_wp2
          go_ret
          exact ⟨ret_bool (decide_eq_false HN.out).symm, by rw [World.drewN_drewN]; exact ⟨_, rfl⟩⟩
      · go_wp2
        go_ret
        exact ⟨ret_bool (decide_eq_true (same_prefix HL.out (by omega) hpre.out)).symm, _, rfl⟩
  · have hl2 : ((xs.length : Int) != (ys.length : Int)) = true := by simpa using (by omega : (xs.length : Int) ≠ ys.length)
    rw [decide_eq_false (fun e => hl (by rw [e]))]
    clear hl
    go_enter Try.func29, Try.ntmps29
    go_wp2
    go_ret
    exact ⟨rfl, 0, rfl⟩

end Go.Proofs.Ytagnjhhbbjbhcaa
