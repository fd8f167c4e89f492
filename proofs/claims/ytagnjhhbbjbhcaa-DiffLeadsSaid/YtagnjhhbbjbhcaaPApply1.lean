/- apply of the program. -/
import Derived.Test.YtagnjhhbbjbhcaaSpecA
import Derived.Test.YtagnjhhbbjbhcaaQG
namespace Go.Proofs.Ytagnjhhbbjbhcaa
open Go.RowKit

set_option maxRecDepth 100000 in
set_option maxHeartbeats 4000000 in
theorem apply1_bad (V : List (List (List Int))) (c : Chg) (ad : Option Addr) (cap : Nat) (S T : Nat → Prop) (w : World) (aa : Option Addr) (ca : Nat)
    (hV : V.length ≤ 6) (hfm : ¬ FormedC c) :
    Calls Try.prog 40 #[.slice aa V.length ca, c.val (.slice ad c.values.length cap)] w fun e w' => e = .returned (.int .i64 2) ∧ Below w.heap.size w w' := by
  have hF := formed_any c ad cap
  rw [decide_eq_false hfm] at hF
  have HF := hid hF
  clear hF hfm
  obtain ⟨k, i, f, o, nw, xs⟩ := c
  simp only [Chg.val] at HF ⊢
  have hkn : (0 ≤ k ∧ k < V.length) ∨ k < 0 ∨ (0 ≤ k ∧ ¬ k < V.length) := by omega
  rcases hkn with ⟨hk0, hk1⟩ | hk0 | ⟨hk0, hk1⟩
  all_goals
    go_enter Try.func40, Try.ntmps40
    go_wp2
    have hg := Grew.cell (w := w.alloc (.cells #[.int .i64 k, .int .i64 i, .int .i64 f, .int .i64 o, .int .i64 nw, .slice ad xs.length cap] 61))
    refine wp_region_quietG (by kernel_rfl) (by kernel_rfl) ?_
    repeat (go_big_quiet_step ((refine Calls.grew_of (HF.out _))))
    refine wpQuiet_nil ?_
    intro w2 hx
    have hb2 := grew_below hx
    clear hx
    have hb4 : Below w.heap.size w w2 := ((Below.refl _ _).alloc (Nat.le_refl _) _).trans (hb2.mono (by simp))
    clear hg
    go_wp2
    go_ret
    exact ⟨rfl, hb4⟩

end Go.Proofs.Ytagnjhhbbjbhcaa
