/- slices.Clone at []int. -/
import Derived.Test.YtagnjhhbbjbhcaaCopy
namespace Go.Proofs.Ytagnjhhbbjbhcaa
open Go.RowKit

set_option maxHeartbeats 1000000 in
theorem clone_any (xs : List Int) (hx : xs.length ≤ 100000) (v : Value) (S : Nat → Prop) (w : World) (hv : IntsV S w v xs) :
    Calls Try.prog 39 #[v] w fun e w' => ∃ x, e = .returned x ∧ IntsF (w.heap.size ≤ ·) w' x xs ∧ Below w.heap.size w w' := by
  have hv0 := hv
  obtain ⟨a, cap, rfl, hok, hcap, hmax⟩ := hv.form
  clear hv
  cases a with
  | none =>
    have hz : xs = [] := by
      rcases Nat.eq_zero_or_pos xs.length with h | h
      · exact List.eq_nil_of_length_eq_zero h
      · obtain ⟨b, o, e⟩ := hok h; cases e
    subst hz
    have hq : ∀ W, (binOp .eql 22 (.slice none 0 cap) (.slice none 0 0)).run Try.prog W = .ok (.bool true) W := fun W => Lib.run_eql_slice_nil W 22 3 none 0 cap 0 0 (by kernel_rfl)
    go_enter Try.func39, Try.ntmps39
    go_wp2
    go_ret
    exact ⟨_, rfl, IntsF.nil _ _, Below.refl _ _⟩
  | some ad =>
    have hq : ∀ W, (binOp .eql 22 (.slice (some ad) xs.length cap) (.slice none 0 0)).run Try.prog W = .ok (.bool false) W := fun W => Lib.run_eql_slice_nil W 22 3 (some ad) xs.length cap 0 0 (by kernel_rfl)
    have hI : IntsF (w.heap.size ≤ ·) (w.alloc (.cells #[] 3)) (.slice (some ⟨w.heap.size, 0, none⟩) 0 0) [] :=
      ⟨World.ownsRow_made w #[] 0 (Nat.zero_le _) (Nat.zero_le _) (by simp), fun b hb => by simp [Value.ownBlock] at hb; omega⟩
    have hrr1 : IntsV S (w.alloc (.cells #[] 3)) (.slice (some ad) xs.length cap) xs := IntsV.keep hv0 (KeepS.below ((Below.refl _ _).alloc (Nat.le_refl _) _))
    go_enter Try.func39, Try.ntmps39
    go_wp2_with (at_builtin; go_must (refine wpList_appI rfl _ _ rfl Try.app22 rfl hI (Below.refl _ _) rfl hrr1 (by simp; omega) ?_))
    intro v1 w1 hI1 ht1
    have hI2 : IntsF (w.heap.size ≤ ·) w1 v1 xs := by
      have := steady_intsF.mono hI1 (fun b _ hb => grow_from (by simp) b hb)
      simpa using this
    have hb3 : Below w.heap.size w w1 := ((Below.refl _ _).alloc (Nat.le_refl _) _).trans (ht1.below (by simp) (fun b hb => by simp [Value.ownBlock] at hb; omega))
    clear hI hI1 hrr1 ht1 hq
    go_wp2
    go_ret
    exact ⟨_, rfl, hI2, hb3⟩

end Go.Proofs.Ytagnjhhbbjbhcaa
