/- The reference's Formed; the program's equal, place and next. -/
import Derived.Test.YteepdnamkcgndaaA6
import Derived.Test.YteepdnamkcgndaaM2
namespace Go.Proofs.Yteepdnamkcgndaa
open Go.RowKit

theorem formedB_eq (c : Chg) : Mer.formedB c = decide (FormedC c) := by
  unfold Mer.formedB FormedC
  split
  · rfl
  · by_cases h1 : -2 ≤ c.field <;> by_cases h2 : c.old = 0 <;> by_cases h3 : c.new = 0 <;> by_cases h4 : 1 ≤ c.values.length <;> by_cases h5 : c.values.length ≤ 10 <;> simp [h1, h2, h3, h4, h5]

set_option maxHeartbeats 1000000 in
theorem rformed_any (c : Chg) (a : Option Addr) (cap : Nat) (w : World) :
    Calls Try.prog 51 #[c.val (.slice a c.values.length cap)] w fun e w' => e = .returned (.bool (decide (FormedC c))) ∧ Below w.heap.size w w' := by
  obtain ⟨k, i, f, o, n, xs⟩ := c
  simp only [Chg.val]
  have hA : Below w.heap.size w (w.alloc (.cells #[.int .i64 k, .int .i64 i, .int .i64 f, .int .i64 o, .int .i64 n, .slice a xs.length cap] 54)) := (Below.refl _ _).alloc (Nat.le_refl _) _
  have HA := hid hA
  clear hA
  by_cases h0 : 0 ≤ f
  · have HR : Hid (decide (FormedC ⟨k, i, f, o, n, xs⟩) = decide (xs.length = 0)) := hid (by unfold FormedC; simp only [if_pos h0])
    go_enter Try.func51, Try.ntmps51
    go_wp2
    go_ret
    exact ⟨ret_bool (HR.out.trans (by by_cases h : xs.length = 0 <;> simp [h])).symm, HA.out⟩
  · have hlt : f < 0 := by omega
    have HR : Hid (decide (FormedC ⟨k, i, f, o, n, xs⟩) = decide (-2 ≤ f ∧ o = 0 ∧ n = 0 ∧ 1 ≤ xs.length ∧ xs.length ≤ 10)) := hid (by unfold FormedC; simp only [if_neg h0])
    by_cases h1 : -2 ≤ f
    · by_cases h2 : o = 0
      · by_cases h3 : n = 0
        · by_cases h4 : 1 ≤ xs.length
          · by_cases h5 : xs.length ≤ 10
            · have HE := hid (decide_eq_true (show -2 ≤ f ∧ o = 0 ∧ n = 0 ∧ 1 ≤ xs.length ∧ xs.length ≤ 10 from ⟨h1, h2, h3, h4, h5⟩))
              subst h2 h3
              go_enter Try.func51, Try.ntmps51
              go_wp2
              go_ret
              exact ⟨ret_bool ((HR.out.trans HE.out).trans (by simp; omega)).symm, HA.out⟩
            · have HE := hid (decide_eq_false (show ¬ (-2 ≤ f ∧ o = 0 ∧ n = 0 ∧ 1 ≤ xs.length ∧ xs.length ≤ 10) from fun h => h5 h.2.2.2.2))
              subst h2 h3
              go_enter Try.func51, Try.ntmps51
              go_wp2
              go_ret
              exact ⟨ret_bool ((HR.out.trans HE.out).trans (by simp; omega)).symm, HA.out⟩
          · have HE := hid (decide_eq_false (show ¬ (-2 ≤ f ∧ o = 0 ∧ n = 0 ∧ 1 ≤ xs.length ∧ xs.length ≤ 10) from fun h => h4 h.2.2.2.1))
            subst h2 h3
            have h6 : ¬ (1 : Int) ≤ xs.length := by omega
            go_enter Try.func51, Try.ntmps51
            go_wp2
            go_ret
            exact ⟨ret_bool (HR.out.trans HE.out).symm, HA.out⟩
        · have HE := hid (decide_eq_false (show ¬ (-2 ≤ f ∧ o = 0 ∧ n = 0 ∧ 1 ≤ xs.length ∧ xs.length ≤ 10) from fun h => h3 h.2.2.1))
          subst h2
          have h6 : (n == 0) = false := beqF h3
          go_enter Try.func51, Try.ntmps51
          go_wp2
          go_ret
          exact ⟨ret_bool (HR.out.trans HE.out).symm, HA.out⟩
      · have HE := hid (decide_eq_false (show ¬ (-2 ≤ f ∧ o = 0 ∧ n = 0 ∧ 1 ≤ xs.length ∧ xs.length ≤ 10) from fun h => h2 h.2.1))
        have h6 : (o == 0) = false := beqF h2
        go_enter Try.func51, Try.ntmps51
        go_wp2
        go_ret
        exact ⟨ret_bool (HR.out.trans HE.out).symm, HA.out⟩
    · have HE := hid (decide_eq_false (show ¬ (-2 ≤ f ∧ o = 0 ∧ n = 0 ∧ 1 ≤ xs.length ∧ xs.length ≤ 10) from fun h => h1 h.1))
      go_enter Try.func51, Try.ntmps51
      go_wp2
      go_ret
      exact ⟨ret_bool (HR.out.trans HE.out).symm, HA.out⟩

set_option maxHeartbeats 1000000 in
theorem pequal_any (c d : Chg) (u v : Value) (S T : Nat → Prop) (w : World) (hu : IntsV S w u c.values) (hv : IntsV T w v d.values) :
    Calls Try.prog 45 #[c.val u, d.val v] w fun e w' => e = .returned (.bool (decide (c = d))) ∧ Below w.heap.size w w' := by
  obtain ⟨k, i, f, o, n, xs⟩ := c
  obtain ⟨k', i', f', o', n', ys⟩ := d
  simp only at hu hv
  have hu0 := hu
  have hv0 := hv
  obtain ⟨a, cap, rfl, -, -, -⟩ := hu.form
  obtain ⟨a', cap', rfl, -, -, -⟩ := hv.form
  clear hu hv
  have hA : Below w.heap.size w ((w.alloc (.cells #[.int .i64 k, .int .i64 i, .int .i64 f, .int .i64 o, .int .i64 n, .slice a xs.length cap] 59)).alloc (.cells #[.int .i64 k', .int .i64 i', .int .i64 f', .int .i64 o', .int .i64 n', .slice a' ys.length cap'] 59)) :=
    ((Below.refl _ _).alloc (Nat.le_refl _) _).alloc (by simp) _
  by_cases h1 : k = k'
  · by_cases h2 : i = i'
    · by_cases h3 : f = f'
      · by_cases h4 : o = o'
        · by_cases h5 : n = n'
          · subst h1 h2 h3 h4 h5
            have hs := equal_any xs ys _ _ S T _ (IntsV.keep hu0 (KeepS.below hA)) (IntsV.keep hv0 (KeepS.below hA))
            have HD : Hid (decide ((⟨k, i, f, o, n, xs⟩ : Chg) = ⟨k, i, f, o, n, ys⟩) = decide (xs = ys)) := hid (by simp)
            have HS := hid hs
            have HA := hid hA
            clear hs hA
            go_enter Try.func45, Try.ntmps45
            go_wp2_with (go_at_call 60; refine HS.out.mono ?_; rintro e w' ⟨rfl, nn, rfl⟩)
            go_ret
            exact ⟨ret_bool HD.out.symm, below_drewN HA.out _⟩
          · have HD := hid (decide_eq_false (p := (⟨k, i, f, o, n, xs⟩ : Chg) = ⟨k', i', f', o', n', ys⟩) (by intro h; injection h; contradiction))
            have g5 : (n == n') = false := beqF h5
            subst h1 h2 h3 h4
            have HA := hid hA
            clear hA h5
            go_enter Try.func45, Try.ntmps45
            go_wp2
            go_ret
            exact ⟨ret_bool HD.out.symm, HA.out⟩
        · have HD := hid (decide_eq_false (p := (⟨k, i, f, o, n, xs⟩ : Chg) = ⟨k', i', f', o', n', ys⟩) (by intro h; injection h; contradiction))
          have g4 : (o == o') = false := beqF h4
          subst h1 h2 h3
          have HA := hid hA
          clear hA h4
          go_enter Try.func45, Try.ntmps45
          go_wp2
          go_ret
          exact ⟨ret_bool HD.out.symm, HA.out⟩
      · have HD := hid (decide_eq_false (p := (⟨k, i, f, o, n, xs⟩ : Chg) = ⟨k', i', f', o', n', ys⟩) (by intro h; injection h; contradiction))
        have g3 : (f == f') = false := beqF h3
        subst h1 h2
        have HA := hid hA
        clear hA h3
        go_enter Try.func45, Try.ntmps45
        go_wp2
        go_ret
        exact ⟨ret_bool HD.out.symm, HA.out⟩
    · have HD := hid (decide_eq_false (p := (⟨k, i, f, o, n, xs⟩ : Chg) = ⟨k', i', f', o', n', ys⟩) (by intro h; injection h; contradiction))
      have g2 : (i == i') = false := beqF h2
      subst h1
      have HA := hid hA
      clear hA h2
      go_enter Try.func45, Try.ntmps45
      go_wp2
      go_ret
      exact ⟨ret_bool HD.out.symm, HA.out⟩
  · have HD := hid (decide_eq_false (p := (⟨k, i, f, o, n, xs⟩ : Chg) = ⟨k', i', f', o', n', ys⟩) (by intro h; injection h; contradiction))
    have g1 : (k == k') = false := beqF h1
    have HA := hid hA
    clear hA h1
    go_enter Try.func45, Try.ntmps45
    go_wp2
    go_ret
    exact ⟨ret_bool HD.out.symm, HA.out⟩

/-- The place of a change against another one's. -/
def placeI (c d : Chg) : Int := if c.index = d.index then c.field - d.field else c.index - d.index

set_option maxHeartbeats 1000000 in
theorem place_any (c d : Chg) (hc1 : -1000 ≤ c.index ∧ c.index ≤ 1000) (hc2 : -1000 ≤ c.field ∧ c.field ≤ 1000) (hd1 : -1000 ≤ d.index ∧ d.index ≤ 1000) (hd2 : -1000 ≤ d.field ∧ d.field ≤ 1000) (a a' : Option Addr) (n n' cap cap' : Nat) (w : World) :
    Calls Try.prog 49 #[c.val (.slice a n cap), d.val (.slice a' n' cap')] w fun e w' => e = .returned (.int .i64 (placeI c d)) ∧ w' = (w.alloc (.cells #[.int .i64 c.kind, .int .i64 c.index, .int .i64 c.field, .int .i64 c.old, .int .i64 c.new, .slice a n cap] 59)).alloc (.cells #[.int .i64 d.kind, .int .i64 d.index, .int .i64 d.field, .int .i64 d.old, .int .i64 d.new, .slice a' n' cap'] 59) := by
  obtain ⟨k, i, f, o, m, xs⟩ := c
  obtain ⟨k', i', f', o', m', ys⟩ := d
  simp only [Chg.val] at *
  obtain ⟨s1, s2⟩ := hc1
  obtain ⟨s3, s4⟩ := hc2
  obtain ⟨s5, s6⟩ := hd1
  obtain ⟨s7, s8⟩ := hd2
  by_cases h : i = i'
  · have HR : Hid (placeI ⟨k, i, f, o, m, xs⟩ ⟨k', i', f', o', m', ys⟩ = f - f') := hid (by unfold placeI; simp [h])
    have g : (i != i') = false := by simp [h]
    have H := hid h
    clear h
    go_enter Try.func49, Try.ntmps49
    go_wp2
    go_ret
    exact ⟨by rw [HR.out]; rfl, rfl⟩
  · have HR : Hid (placeI ⟨k, i, f, o, m, xs⟩ ⟨k', i', f', o', m', ys⟩ = i - i') := hid (by unfold placeI; simp [h])
    have g : (i != i') = true := bneT h
    clear h
    go_enter Try.func49, Try.ntmps49
    go_wp2
    go_ret
    exact ⟨by rw [HR.out]; rfl, rfl⟩

set_option linter.unusedSimpArgs false in
set_option maxRecDepth 100000 in
set_option maxHeartbeats 4000000 in
theorem next_any (c d : Chg) (hc1 : -1000 ≤ c.index ∧ c.index ≤ 1000) (a a' : Option Addr) (n n' cap cap' : Nat) (w : World) :
    Calls Try.prog 39 #[c.val (.slice a n cap), d.val (.slice a' n' cap')] w fun e w' => e = .returned (.bool (Mer.nextB c d)) ∧ Below w.heap.size w w' := by
  obtain ⟨k, i, f, o, m, xs⟩ := c
  obtain ⟨k', i', f', o', m', ys⟩ := d
  simp only [Chg.val] at *
  obtain ⟨s1, s2⟩ := hc1
  have hA : Below w.heap.size w ((w.alloc (.cells #[.int .i64 k, .int .i64 i, .int .i64 f, .int .i64 o, .int .i64 m, .slice a n cap] 59)).alloc (.cells #[.int .i64 k', .int .i64 i', .int .i64 f', .int .i64 o', .int .i64 m', .slice a' n' cap'] 59)) :=
    ((Below.refl _ _).alloc (Nat.le_refl _) _).alloc (by simp) _
  have HA := hid hA
  clear hA
  by_cases h0 : 0 ≤ f
  · skip
    by_cases h0' : 0 ≤ f'
    · skip
      by_cases h1 : i < i'
      · skip
        have HR : Hid (Mer.nextB ⟨k, i, f, o, m, xs⟩ ⟨k', i', f', o', m', ys⟩ = true) := hid (by unfold Mer.nextB Mer.isSet; simp [h0, h0', h1])
        go_enter Try.func39, Try.ntmps39
        go_wp2
        go_ret
        exact ⟨ret_bool HR.out.symm, HA.out⟩
      · skip
        by_cases h2 : i = i'
        · have gh2 : (i == i') = true := by simp [h2]
          by_cases h3 : f < f'
          · skip
            have HR : Hid (Mer.nextB ⟨k, i, f, o, m, xs⟩ ⟨k', i', f', o', m', ys⟩ = true) := hid (by unfold Mer.nextB Mer.isSet; simp [h0, h0', h2, h3])
            clear h2
            go_enter Try.func39, Try.ntmps39
            go_wp2
            go_ret
            exact ⟨ret_bool HR.out.symm, HA.out⟩
          · skip
            have HR : Hid (Mer.nextB ⟨k, i, f, o, m, xs⟩ ⟨k', i', f', o', m', ys⟩ = false) := hid (by unfold Mer.nextB Mer.isSet; simp [h0, h0', h2, h3]; try omega)
            clear h2
            go_enter Try.func39, Try.ntmps39
            go_wp2
            go_ret
            exact ⟨ret_bool HR.out.symm, HA.out⟩
        · have gh2 : (i == i') = false := beqF h2
          have HR : Hid (Mer.nextB ⟨k, i, f, o, m, xs⟩ ⟨k', i', f', o', m', ys⟩ = false) := hid (by unfold Mer.nextB Mer.isSet; simp [h0, h0', h1, h2]; try omega)
          clear h2
          go_enter Try.func39, Try.ntmps39
          go_wp2
          go_ret
          exact ⟨ret_bool HR.out.symm, HA.out⟩
    · skip
      have g0 : f' < 0 := by omega
      have HR : Hid (Mer.nextB ⟨k, i, f, o, m, xs⟩ ⟨k', i', f', o', m', ys⟩ = true) := hid (by unfold Mer.nextB Mer.isSet; simp [h0, h0'])
      go_enter Try.func39, Try.ntmps39
      go_wp2
      go_ret
      exact ⟨ret_bool HR.out.symm, HA.out⟩
  · skip
    have g0 : f < 0 := by omega
    by_cases h0' : 0 ≤ f'
    · skip
      have HR : Hid (Mer.nextB ⟨k, i, f, o, m, xs⟩ ⟨k', i', f', o', m', ys⟩ = false) := hid (by unfold Mer.nextB Mer.isSet; simp [h0, h0'])
      go_enter Try.func39, Try.ntmps39
      go_wp2
      go_ret
      exact ⟨ret_bool HR.out.symm, HA.out⟩
    · skip
      have g0' : f' < 0 := by omega
      by_cases h3 : f = -2
      · have gh3 : (f == -2) = true := by simp [h3]
        by_cases h4 : f' = -2
        · have gh4 : (f' == -2) = true := by simp [h4]
          by_cases h5 : i' = i - 1
          · have gh5 : (i' == i - 1) = true := by simp [h5]
            have HR : Hid (Mer.nextB ⟨k, i, f, o, m, xs⟩ ⟨k', i', f', o', m', ys⟩ = true) := hid (by unfold Mer.nextB Mer.isSet; simp [h0, h0', h3, h4, h5])
            clear h3 h4 h5
            go_enter Try.func39, Try.ntmps39
            go_wp2
            go_ret
            exact ⟨ret_bool HR.out.symm, HA.out⟩
          · have gh5 : (i' == i - 1) = false := beqF h5
            have HR : Hid (Mer.nextB ⟨k, i, f, o, m, xs⟩ ⟨k', i', f', o', m', ys⟩ = false) := hid (by unfold Mer.nextB Mer.isSet; simp [h0, h0', h3, h4, h5])
            clear h3 h4 h5
            go_enter Try.func39, Try.ntmps39
            go_wp2
            go_ret
            exact ⟨ret_bool HR.out.symm, HA.out⟩
        · have gh4 : (f' == -2) = false := beqF h4
          by_cases h5 : i' = i
          · have gh5 : (i' == i) = true := by simp [h5]
            have HR : Hid (Mer.nextB ⟨k, i, f, o, m, xs⟩ ⟨k', i', f', o', m', ys⟩ = true) := hid (by unfold Mer.nextB Mer.isSet; simp [h0, h0', h3, h4, h5])
            clear h3 h4 h5
            go_enter Try.func39, Try.ntmps39
            go_wp2
            go_ret
            exact ⟨ret_bool HR.out.symm, HA.out⟩
          · have gh5 : (i' == i) = false := beqF h5
            have HR : Hid (Mer.nextB ⟨k, i, f, o, m, xs⟩ ⟨k', i', f', o', m', ys⟩ = false) := hid (by unfold Mer.nextB Mer.isSet; simp [h0, h0', h3, h4, h5])
            clear h3 h4 h5
            go_enter Try.func39, Try.ntmps39
            go_wp2
            go_ret
            exact ⟨ret_bool HR.out.symm, HA.out⟩
      · have gh3 : (f == -2) = false := beqF h3
        by_cases h4 : f' = -1
        · have gh4 : (f' == -1) = true := by simp [h4]
          by_cases h5 : i' = i + 1
          · have gh5 : (i' == i + 1) = true := by simp [h5]
            have HR : Hid (Mer.nextB ⟨k, i, f, o, m, xs⟩ ⟨k', i', f', o', m', ys⟩ = true) := hid (by unfold Mer.nextB Mer.isSet; simp [h0, h0', h3, h4, h5])
            clear h3 h4 h5
            go_enter Try.func39, Try.ntmps39
            go_wp2
            go_ret
            exact ⟨ret_bool HR.out.symm, HA.out⟩
          · have gh5 : (i' == i + 1) = false := beqF h5
            have HR : Hid (Mer.nextB ⟨k, i, f, o, m, xs⟩ ⟨k', i', f', o', m', ys⟩ = false) := hid (by unfold Mer.nextB Mer.isSet; simp [h0, h0', h3, h4, h5])
            clear h3 h4 h5
            go_enter Try.func39, Try.ntmps39
            go_wp2
            go_ret
            exact ⟨ret_bool HR.out.symm, HA.out⟩
        · have gh4 : (f' == -1) = false := beqF h4
          have HR : Hid (Mer.nextB ⟨k, i, f, o, m, xs⟩ ⟨k', i', f', o', m', ys⟩ = false) := hid (by unfold Mer.nextB Mer.isSet; simp [h0, h0', h3, h4])
          clear h3 h4
          go_enter Try.func39, Try.ntmps39
          go_wp2
          go_ret
          exact ⟨ret_bool HR.out.symm, HA.out⟩

end Go.Proofs.Yteepdnamkcgndaa
