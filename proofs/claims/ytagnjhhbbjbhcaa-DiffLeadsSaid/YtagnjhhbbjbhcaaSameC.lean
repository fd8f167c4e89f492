/- Same, SameAll: changes are compared. -/
import Derived.Test.YtagnjhhbbjbhcaaChg
namespace Go.Proofs.Ytagnjhhbbjbhcaa
open Go.RowKit

/-- A change as a value. -/
abbrev Chg.val (c : Chg) (u : Value) : Value := .agg #[.int .i64 c.kind, .int .i64 c.index, .int .i64 c.field, .int .i64 c.old, .int .i64 c.new, u]

set_option maxHeartbeats 1000000 in
theorem sameC_any (c d : Chg) (u v : Value) (S T : Nat → Prop) (w : World) (hu : IntsV S w u c.values) (hv : IntsV T w v d.values) :
    Calls Try.prog 38 #[c.val u, d.val v] w fun e w' => e = .returned (.bool (decide (c = d))) ∧ Below w.heap.size w w' := by
  obtain ⟨k, i, f, o, n, xs⟩ := c
  obtain ⟨k', i', f', o', n', ys⟩ := d
  simp only at hu hv
  have hu0 := hu
  have hv0 := hv
  obtain ⟨a, cap, rfl, -, -, -⟩ := hu.form
  obtain ⟨a', cap', rfl, -, -, -⟩ := hv.form
  clear hu hv
  have hA : Below w.heap.size w ((w.alloc (.cells #[.int .i64 k, .int .i64 i, .int .i64 f, .int .i64 o, .int .i64 n, .slice a xs.length cap] 73)).alloc (.cells #[.int .i64 k', .int .i64 i', .int .i64 f', .int .i64 o', .int .i64 n', .slice a' ys.length cap'] 73)) :=
    ((Below.refl _ _).alloc (Nat.le_refl _) _).alloc (by simp) _
  by_cases h1 : k = k'
  · by_cases h2 : i = i'
    · by_cases h3 : f = f'
      · by_cases h4 : o = o'
        · by_cases h5 : n = n'
          · subst h1 h2 h3 h4 h5
            have hs := sameInts_any xs ys _ _ S T _ (IntsV.keep hu0 (KeepS.below hA)) (IntsV.keep hv0 (KeepS.below hA))
            have HD : Hid (decide ((⟨k, i, f, o, n, xs⟩ : Chg) = ⟨k, i, f, o, n, ys⟩) = decide (xs = ys)) := hid (by simp)
            have HS := hid hs
            have HA := hid hA
            clear hs hA
            go_enter Try.func38, Try.ntmps38
            go_wp2_with (go_at_call 29; refine HS.out.mono ?_; rintro e w' ⟨rfl, nn, rfl⟩)
            go_ret
            exact ⟨ret_bool HD.out.symm, below_drewN HA.out _⟩
          · have HD := hid (decide_eq_false (p := (⟨k, i, f, o, n, xs⟩ : Chg) = ⟨k', i', f', o', n', ys⟩) (by intro h; injection h; contradiction))
            have g5 : (n == n') = false := beqF h5
            subst h1 h2 h3 h4
            have HA := hid hA
            clear hA h5
            go_enter Try.func38, Try.ntmps38
            go_wp2
            go_ret
            exact ⟨ret_bool HD.out.symm, HA.out⟩
        · have HD := hid (decide_eq_false (p := (⟨k, i, f, o, n, xs⟩ : Chg) = ⟨k', i', f', o', n', ys⟩) (by intro h; injection h; contradiction))
          have g4 : (o == o') = false := beqF h4
          subst h1 h2 h3
          have HA := hid hA
          clear hA h4
          go_enter Try.func38, Try.ntmps38
          go_wp2
          go_ret
          exact ⟨ret_bool HD.out.symm, HA.out⟩
      · have HD := hid (decide_eq_false (p := (⟨k, i, f, o, n, xs⟩ : Chg) = ⟨k', i', f', o', n', ys⟩) (by intro h; injection h; contradiction))
        have g3 : (f == f') = false := beqF h3
        subst h1 h2
        have HA := hid hA
        clear hA h3
        go_enter Try.func38, Try.ntmps38
        go_wp2
        go_ret
        exact ⟨ret_bool HD.out.symm, HA.out⟩
    · have HD := hid (decide_eq_false (p := (⟨k, i, f, o, n, xs⟩ : Chg) = ⟨k', i', f', o', n', ys⟩) (by intro h; injection h; contradiction))
      have g2 : (i == i') = false := beqF h2
      subst h1
      have HA := hid hA
      clear hA h2
      go_enter Try.func38, Try.ntmps38
      go_wp2
      go_ret
      exact ⟨ret_bool HD.out.symm, HA.out⟩
  · have HD := hid (decide_eq_false (p := (⟨k, i, f, o, n, xs⟩ : Chg) = ⟨k', i', f', o', n', ys⟩) (by intro h; injection h; contradiction))
    have g1 : (k == k') = false := beqF h1
    have HA := hid hA
    clear hA h1
    go_enter Try.func38, Try.ntmps38
    go_wp2
    go_ret
    exact ⟨ret_bool HD.out.symm, HA.out⟩

end Go.Proofs.Ytagnjhhbbjbhcaa
