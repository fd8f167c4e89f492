/- formed, Equal. -/
import Derived.Test.YtagnjhhbbjbhcaaPDiff
import Derived.Test.YtagnjhhbbjbhcaaSched
namespace Go.Proofs.Ytagnjhhbbjbhcaa
open Go.RowKit

/-- A change is of a form that Apply takes. -/
def FormedC (c : Chg) : Prop := if 0 ≤ c.field then c.values.length = 0 else -2 ≤ c.field ∧ c.old = 0 ∧ c.new = 0 ∧ 1 ≤ c.values.length ∧ c.values.length ≤ 10
instance (c : Chg) : Decidable (FormedC c) := by unfold FormedC; exact inferInstance

set_option maxHeartbeats 1000000 in
theorem formed_any (c : Chg) (a : Option Addr) (cap : Nat) (w : World) :
    Calls Try.prog 54 #[c.val (.slice a c.values.length cap)] w fun e w' => e = .returned (.bool (decide (FormedC c))) ∧ Below w.heap.size w w' := by
  obtain ⟨k, i, f, o, n, xs⟩ := c
  simp only [Chg.val]
  have hA : Below w.heap.size w (w.alloc (.cells #[.int .i64 k, .int .i64 i, .int .i64 f, .int .i64 o, .int .i64 n, .slice a xs.length cap] 61)) := (Below.refl _ _).alloc (Nat.le_refl _) _
  have HA := hid hA
  clear hA
  by_cases h0 : 0 ≤ f
  · have HR : Hid (decide (FormedC ⟨k, i, f, o, n, xs⟩) = decide (xs.length = 0)) := hid (by unfold FormedC; simp only [if_pos h0])
    go_enter Try.func54, Try.ntmps54
    go_wp2
    go_ret
    exact ⟨ret_bool (HR.out.trans (by by_cases h : xs.length = 0 <;> simp [h])).symm, HA.out⟩
  · have hlt : f < 0 := by omega
    have HR : Hid (decide (FormedC ⟨k, i, f, o, n, xs⟩) = decide (-2 ≤ f ∧ o = 0 ∧ n = 0 ∧ 1 ≤ xs.length ∧ xs.length ≤ 10)) := hid (by unfold FormedC; simp only [if_neg h0])
    by_cases h1 : -2 ≤ f
    · by_cases h2 : o = 0
      · by_cases h3 : n = 0
        · by_cases h4 : 1 ≤ xs.length
          · by_cases h5 : xs.length ≤ 10
            · have HE := hid (decide_eq_true (show -2 ≤ f ∧ o = 0 ∧ n = 0 ∧ 1 ≤ xs.length ∧ xs.length ≤ 10 from ⟨h1, h2, h3, h4, h5⟩))
              subst h2 h3
              go_enter Try.func54, Try.ntmps54
              go_wp2
              go_ret
              exact ⟨ret_bool ((HR.out.trans HE.out).trans (by simp; omega)).symm, HA.out⟩
            · have HE := hid (decide_eq_false (show ¬ (-2 ≤ f ∧ o = 0 ∧ n = 0 ∧ 1 ≤ xs.length ∧ xs.length ≤ 10) from fun h => h5 h.2.2.2.2))
              subst h2 h3
              go_enter Try.func54, Try.ntmps54
              go_wp2
              go_ret
              exact ⟨ret_bool ((HR.out.trans HE.out).trans (by simp; omega)).symm, HA.out⟩
          · have HE := hid (decide_eq_false (show ¬ (-2 ≤ f ∧ o = 0 ∧ n = 0 ∧ 1 ≤ xs.length ∧ xs.length ≤ 10) from fun h => h4 h.2.2.2.1))
            subst h2 h3
            have h6 : ¬ (1 : Int) ≤ xs.length := by omega
            go_enter Try.func54, Try.ntmps54
            go_wp2
            go_ret
            exact ⟨ret_bool (HR.out.trans HE.out).symm, HA.out⟩
        · have HE := hid (decide_eq_false (show ¬ (-2 ≤ f ∧ o = 0 ∧ n = 0 ∧ 1 ≤ xs.length ∧ xs.length ≤ 10) from fun h => h3 h.2.2.1))
          subst h2
          have h6 : (n == 0) = false := beqF h3
          go_enter Try.func54, Try.ntmps54
          go_wp2
          go_ret
          exact ⟨ret_bool (HR.out.trans HE.out).symm, HA.out⟩
      · have HE := hid (decide_eq_false (show ¬ (-2 ≤ f ∧ o = 0 ∧ n = 0 ∧ 1 ≤ xs.length ∧ xs.length ≤ 10) from fun h => h2 h.2.1))
        have h6 : (o == 0) = false := beqF h2
        go_enter Try.func54, Try.ntmps54
        go_wp2
        go_ret
        exact ⟨ret_bool (HR.out.trans HE.out).symm, HA.out⟩
    · have HE := hid (decide_eq_false (show ¬ (-2 ≤ f ∧ o = 0 ∧ n = 0 ∧ 1 ≤ xs.length ∧ xs.length ≤ 10) from fun h => h1 h.1))
      go_enter Try.func54, Try.ntmps54
      go_wp2
      go_ret
      exact ⟨ret_bool (HR.out.trans HE.out).symm, HA.out⟩

end Go.Proofs.Ytagnjhhbbjbhcaa
