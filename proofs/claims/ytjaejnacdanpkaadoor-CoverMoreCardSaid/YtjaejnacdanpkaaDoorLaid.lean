/- What the rows list: the two tables of package math/bits; a world for the witness. -/
import Derived.Test.YtjaejnacdanpkaaDoorB21
import Derived.Test.YtjaejnacdanpkaaDoorB46
import Derived.Test.YtjaejnacdanpkaaDoorCards
import Derived.Test.YtjaejnacdanpkaaDoorTie
import Derived.WalkKit
import Derived.ProofKit
import Derived.OpenShut
import Derived.Deep.DeepHandedRow
import Derived.Lib.LaidTab
import Derived.Stop.LaidErr
import Derived.MakeChecks
namespace Go.Proofs.YtjaejnacdanpkaaDoor
open Go.RowKit

theorem own : ownKnob Tryd.prog.godebug = none := by kernel_rfl
theorem laidOut : laidOutB Tryd.prog = true := by kernel_rfl
theorem g64 : Tryd.prog.globalNamed "math/bits.deBruijn64tab" = some 1 := by kernel_rfl
theorem g64Type : (Tryd.prog.globals[1]?).map (·.type) = some 116 := by kernel_rfl
theorem cells64 : Tryd.prog.cellsOf 116 = 64 := by kernel_rfl
theorem cells8 : Tryd.prog.cellsOf 5 = 1 := by kernel_rfl

/-- What the list gives. -/
theorem tabD_of_laid {W : World} (h : laidMetH Tryd.prog [("math/bits.deBruijn32tab", Rows.laid_math_bits_deBruijn32tab), ("math/bits.deBruijn64tab", Rows.laid_math_bits_deBruijn64tab)] W) : TabD W := by
  have h1 : laidMet Tryd.prog [("math/bits.deBruijn32tab", Rows.laid_math_bits_deBruijn32tab), ("math/bits.deBruijn64tab", Rows.laid_math_bits_deBruijn64tab)] W := by
    rw [← Go.MakeChecks.laidMetH_plain Tryd.prog _ W (by kernel_rfl)]; exact h
  have h2 : laidMet Tryd.prog (("math/bits.deBruijn64tab", Lib.tabData .u8 (Lib.deBruijn64tab.map Int.ofNat)) :: []) W := h1.tail
  have hT := Lib.tabIs_of_head g64 g64Type (by kernel_rfl : Tryd.prog.underlying 116 = some (.array 64 5)) (by kernel_rfl : Tryd.prog.underlying 5 = some (.int .u8)) cells8 cells64 h2
  intro j hj
  have := hT.cell g64 j (by simpa using hj)
  rw [this]
  simp [List.getD_eq_getElem?_getD, hj]

/-- A table's block with its numbers. -/
def fillT (cs : List Nat) : Obj → Obj
  | .cells _ t fr => .cells (cs.map fun n => Value.int .u8 (Int.ofNat n)).toArray t fr
  | o => o
/-- A world for the witness: the settled one, the tables holding what their initialisers lay. -/
noncomputable def laidWorld (os : Os) : World :=
  { World.holding Tryd.prog os ⟨#[], #[], []⟩ with heap := ((World.holding Tryd.prog os ⟨#[], #[], []⟩).heap.modify 0 (fillT Lib.deBruijn32tab)).modify 1 (fillT Lib.deBruijn64tab) }

theorem wf_bounds {n : Int} (h : (Lit.int .i64 n).wf = true) : -9223372036854775808 ≤ n ∧ n ≤ 9223372036854775807 := by
  simp [Lit.wf, IntKind.min, IntKind.max, IntKind.signed, IntKind.bits] at h
  omega

/-- A slice of integers that came in, as the shell of a row's proof tells it. -/
theorem row_ints {w : World} {a : Option Addr} {len cap : Nat} {zs : List Int}
    (h : (a = none ∧ len = 0 ∧ cap = 0 ∧ zs = []) ∨ ∃ x, a = some x ∧ len ≤ cap ∧ cap ≤ maxLen ∧ zs.length = cap ∧ (∀ i, i < zs.length → w.cell? (x.add i) = some (.int .i64 (zs.getD i 0))) ∧ ∀ n ∈ zs, (Lit.int .i64 n).wf = true) :
    IntsV AnyB w (.slice a len cap) (zs.take len) ∧ Fit (zs.take len) := by
  rcases h with ⟨rfl, rfl, rfl, rfl⟩ | ⟨x, rfl, h1, h2, h3, h4, h5⟩
  · exact ⟨SlV.nil _ _ _, fun x hx => by simp at hx⟩
  · have hl : (zs.take len).length = len := by rw [List.length_take]; omega
    refine ⟨⟨some x, cap, by rw [hl], fun h0 => ?_, by omega, h2, fun _ => trivial, fun j hj => ?_⟩, fun n hn => ?_⟩
    · obtain ⟨b, o, e, _⟩ := ints_at h4 (by omega)
      exact ⟨b, o, by rw [e]⟩
    · obtain ⟨b, o, e, hc⟩ := ints_at h4 (by omega)
      subst e
      refine ⟨_, hc j (by omega), ?_⟩
      rw [List.getElem_take, getD_at (by omega)]
    · exact wf_bounds (h5 n (List.mem_of_mem_take hn))

end Go.Proofs.YtjaejnacdanpkaaDoor
