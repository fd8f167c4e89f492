/- Leaf functions of the references: Around, At, SameInts. -/
import Derived.Test.YtagnjhhbbjbhcaaRep
import Derived.BigQuiet
import Derived.Deep.QuietTactic
namespace Go.Proofs.Ytagnjhhbbjbhcaa
open Go.RowKit

def around (n most : Int) : Int := if most < 1 then 0 else (if n < 0 then -(n + 1) else n) % most

theorem around_neg {n most : Int} (h3 : 1 ≤ most) (hn : n < 0) : -((n + 1).tmod most) = around n most := by
  unfold around; rw [if_neg (by omega), if_pos hn, ← Int.neg_tmod, Int.tmod_eq_emod_of_nonneg (by omega)]
theorem around_pos {n most : Int} (h3 : 1 ≤ most) (hn : 0 ≤ n) : n % most = around n most := by
  unfold around; rw [if_neg (by omega), if_neg (by omega)]
theorem around_lt (n most : Int) (h3 : 1 ≤ most) : 0 ≤ around n most ∧ around n most < most := by
  unfold around; rw [if_neg (by omega)]
  exact ⟨Int.emod_nonneg _ (by omega), Int.emod_lt_of_pos _ (by omega)⟩
theorem ret_int {k : IntKind} {a b : Int} (h : a = b) : Ending.returned (.int k a) = .returned (.int k b) := by rw [h]
theorem ret_bool {a b : Bool} (h : a = b) : Ending.returned (.bool a) = .returned (.bool b) := by rw [h]

set_option maxHeartbeats 400000 in
theorem around_any (n most : Int) (w : World) (h1 : -9223372036854775808 ≤ n) (h2 : n ≤ 9223372036854775807) (h3 : 1 ≤ most) (h4 : most ≤ 1000000) :
    Calls Try.prog 32 #[.int .i64 n, .int .i64 most] w fun e w' => e = .returned (.int .i64 (around n most)) ∧ w = w' := by
  by_cases hn : n < 0
  · go_enter Try.func32, Try.ntmps32
    go_wp2
    go_ret
    exact ⟨ret_int (around_neg h3 hn), rfl⟩
  · go_enter Try.func32, Try.ntmps32
    go_wp2
    go_ret
    exact ⟨ret_int (around_pos h3 (by omega)), rfl⟩

/-- The number that At makes of an element (0 after the end). -/
def atI (l : List Int) (i : Nat) (most : Int) : Int := if i < l.length then around (l.getD i 0) most else 0
theorem atI_lt (l : List Int) (i : Nat) (most : Int) (h3 : 1 ≤ most) : 0 ≤ atI l i most ∧ atI l i most < most := by
  unfold atI; split
  · exact around_lt _ _ h3
  · omega

/-- The numbers of a list fit int. -/
def Fit (l : List Int) : Prop := ∀ x ∈ l, -9223372036854775808 ≤ x ∧ x ≤ 9223372036854775807

set_option maxHeartbeats 400000 in
theorem at_any (l : List Int) (hl : Fit l) (v : Value) (i : Int) (most : Int) (S : Nat → Prop) (w : World) (hv : IntsV S w v l) (h3 : 1 ≤ most) (h4 : most ≤ 1000000) (hi : 0 ≤ i) :
    Calls Try.prog 30 #[v, .int .i64 i, .int .i64 most] w fun e w' => e = .returned (.int .i64 (atI l i.toNat most)) ∧ w = w' := by
  obtain ⟨a, cap, rfl, hok, hcap, hmax, hS, hcell⟩ := hv
  clear hS
  by_cases hlt : i < l.length
  · obtain ⟨u, hu, rfl⟩ := hcell i.toNat (by omega)
    have hb := hl _ (List.getElem_mem (l := l) (n := i.toNat) (by omega))
    have e1 : around l[i.toNat] most = atI l i.toNat most := by unfold atI; rw [if_pos (by omega), List.getD_eq_getElem?_getD, List.getElem?_eq_getElem (by omega)]; rfl
    obtain ⟨x, hx⟩ : ∃ x, x = l[i.toNat] := ⟨_, rfl⟩
    rw [← hx] at e1 hu hb
    rw [← e1]
    clear e1 hx hcell
    generalize l.length = n at *
    go_enter Try.func30, Try.ntmps30
    go_wp2_with (go_at_call 32; refine (around_any _ _ _ (by omega) (by omega) (by omega) (by omega)).mono ?_; rintro e w' ⟨rfl, rfl⟩)
    go_ret
    exact ⟨rfl, rfl⟩
  · have e1 : atI l i.toNat most = 0 := by unfold atI; rw [if_neg (by omega)]
    rw [e1]
    clear e1 hcell
    generalize l.length = n at *
    go_enter Try.func30, Try.ntmps30
    go_wp2
    go_ret
    exact ⟨rfl, rfl⟩

end Go.Proofs.Ytagnjhhbbjbhcaa
