/- SameAll: two lists of changes are compared. -/
import Derived.Test.YtagnjhhbbjbhcaaSameC
namespace Go.Proofs.Ytagnjhhbbjbhcaa
open Go.RowKit

theorem same_prefix' {α : Type} {xs ys : List α} {k : Nat} (hl : xs.length = ys.length) (hk : k = xs.length) (h : xs.take k = ys.take k) : xs = ys := by
  have e1 : xs.take xs.length = xs := List.take_length
  have e2 : ys.take ys.length = ys := List.take_length
  rw [hk] at h
  rw [← e1, h, hl, e2]
theorem take_eq_succ' {α : Type} {xs ys : List α} {k : Nat} (hx : k < xs.length) (hy : k < ys.length) (h : xs.take k = ys.take k) (e : xs[k] = ys[k]) : xs.take (k + 1) = ys.take (k + 1) := by
  rw [List.take_succ_eq_append_getElem hx, List.take_succ_eq_append_getElem hy, h, e]

set_option maxHeartbeats 1000000 in
theorem sameAll_any (cs ds : List Chg) (u v : Value) (S T : Nat → Prop) (w : World) (hu : ChV S w u cs) (hv : ChV T w v ds) :
    Calls Try.prog 14 #[u, v] w fun e w' => e = .returned (.bool (decide (cs = ds))) ∧ Below w.heap.size w w' := by
  have hu0 := hu
  have hv0 := hv
  obtain ⟨a, cap, rfl, hok, hcap, hmax⟩ := hu.form
  obtain ⟨a', cap', rfl, hok', hcap', hmax'⟩ := hv.form
  clear hu hv
  by_cases hl : cs.length = ds.length
  · have hl2 : ((cs.length : Int) != (ds.length : Int)) = false := by simp [hl]
    have hl3 : cs.length ≤ ds.length := by omega
    have HL := hid hl
    clear hl
    go_enter Try.func14, Try.ntmps14
    go_wp2
    go_loopw [5] (fun i wr => ∃ k : Nat, k ≤ cs.length ∧ i = .int .i64 k ∧ Hid (cs.take k = ds.take k) ∧ Below w.heap.size w wr) (fun i _ => cs.length - (intOf i).toNat)
    case atStart => exact ⟨0, Nat.zero_le _, rfl, hid rfl, Below.refl _ _⟩
    case round =>
      obtain ⟨k, hk, rfl, hpre, hb⟩ := hrel
      by_cases hlt : k < cs.length
      · have hlt' : k < ds.length := by omega
        have hu1 : ChV S wr (.slice a cs.length cap) cs := hu0.keep (KeepS.below hb)
        have hv1 : ChV T wr (.slice a' ds.length cap') ds := hv0.keep (KeepS.below hb)
        obtain ⟨hbk, -, c0, c1, c2, c3, c4, ul, c5, hul⟩ := hu1.at hlt
        obtain ⟨hbk', -, d0, d1, d2, d3, d4, vl, d5, hvl⟩ := hv1.at hlt'
        have HE : Hid (cs[k] = ds[k] → cs.take (k + 1) = ds.take (k + 1)) := hid (take_eq_succ' hlt hlt' hpre.out)
        have HN : Hid (cs[k] ≠ ds[k] → ¬ cs = ds) := hid (fun h e => h (by subst e; rfl))
        generalize cs[k] = c at *
        generalize ds[k] = d at *
        have hk0 : (0 : Int) ≤ k := by omega
        have hk1 : (k : Int) < cs.length := by omega
        have hk2 : (k : Int) < ds.length := by omega
        have hb1 : Below wr.heap.size wr (wr.drewN 1) := below_drewN (Below.refl _ _) 1
        have HS := hid (sameC_any c d ul vl S T (wr.drewN 1) (IntsV.keep hul (KeepS.below hb1)) (IntsV.keep hvl (KeepS.below hb1)))
        obtain ⟨al, cl, rfl, -, -, -⟩ := hul.form
        obtain ⟨al', cl', rfl, -, -, -⟩ := hvl.form
        clear hul hvl hb1
        by_cases hcd : c = d
        · have HT := hid (HE.out hcd)
          have HD := hid (decide_eq_true hcd)
          clear hcd HE HN
          go_wp2
          refine wp_region_quiet_tail 8 (by kernel_rfl) (by kernel_rfl) ?_
          simp only [List.take_succ_cons, List.take_zero, List.drop_succ_cons, List.drop_zero]
          repeat (go_big_quiet_step (fail))
          refine wpQuiet_nil ?_
          go_wp2_with fail
          refine HS.out.mono ?_
          rintro e w' ⟨rfl, hb2⟩
          rw [HD.out]
          have hb3 : Below w.heap.size w w' := (below_drewN hb 1).trans (hb2.mono (by simp; exact hb.size))
          clear hb2 hb hu1 hv1 c0 c1 c2 c3 c4 c5 d0 d1 d2 d3 d4 d5
          go_wp2
          go_roundw
          case rel => exact ⟨k + 1, by omega, by go_num, HT, hb3⟩
          case measure => simp [intOf]; omega
        · have HT := hid (HN.out hcd)
          have HD := hid (decide_eq_false hcd)
          clear hcd HE HN
          go_wp2
          refine wp_region_quiet_tail 8 (by kernel_rfl) (by kernel_rfl) ?_
          simp only [List.take_succ_cons, List.take_zero, List.drop_succ_cons, List.drop_zero]
          repeat (go_big_quiet_step (fail))
          refine wpQuiet_nil ?_
          go_wp2_with fail
          refine HS.out.mono ?_
          rintro e w' ⟨rfl, hb2⟩
          rw [HD.out]
          have hb3 : Below w.heap.size w w' := (below_drewN hb 1).trans (hb2.mono (by simp; exact hb.size))
          clear hb2 hb hu1 hv1 c0 c1 c2 c3 c4 c5 d0 d1 d2 d3 d4 d5
          go_wp2
          go_ret
          exact ⟨ret_bool (decide_eq_false HT.out).symm, hb3⟩
      · have HT := hid (same_prefix' HL.out (by omega) hpre.out)
        go_wp2
        go_ret
        exact ⟨ret_bool (decide_eq_true HT.out).symm, hb⟩
  · have hl2 : ((cs.length : Int) != (ds.length : Int)) = true := bneT (by omega)
    have HD := hid (decide_eq_false (p := cs = ds) (fun e => hl (by rw [e])))
    clear hl
    go_enter Try.func14, Try.ntmps14
    go_wp2
    go_ret
    exact ⟨ret_bool HD.out.symm, Below.refl _ _⟩

end Go.Proofs.Ytagnjhhbbjbhcaa
