/-
  No cell of these rows narrows 'for every input' (looked for: loops, veiled, ifaces, maps, wideKeys, modest, calm, conditions, laid).
  DERIVED. THE GIVEN ROWS OF THIS SEAT. 2 by the template 'for every input the law returns true; each argument reads behind the call as it read before'; 0 by the template 'total and deterministic' (their statements: YteepdnamkcgndaaTotals.lean).
  GIVEN WITH THE SEED: the statements are not yours to turn. If you find one false, say at which input.
  Laid BY PROGRAM, IN A SANDBOX (cutbox-rows.mjs): the forced cells as the released guide's own fill.sh prints them over the translation cca4efc6aadc18f5… (all of the seat's roots in one cut). By AI agents, Wed Nov 11 2026. No macro, syntax, notation, axiom, sorry.
-/
import Derived.Test.YteepdnamkcgndaaChecked
import GoSem.Claim
import GoSem.ClaimJoined
import GoSem.ClaimMapViews
import Derived.JoinedTies
import Derived.KernelRfl
namespace Go.Proofs.Yteepdnamkcgndaa
/- THE CELL 'sum', in the pinned program and in every row, IS THE sha256 OF THE DUMP (.gsa) THAT YteepdnamkcgndaaProg.lean LOADS. Nothing in Lean hashes anything: it is a label: what it is worth is what the hold of that sum in a sandbox is worth. -/
noncomputable def Try.pinned : Pinned := { name := "yteepdnamkcgndaa", sum := "cca4efc6aadc18f5d112db54b607fa5185a931347297d31dd33433c1dfa06e06", checked := Try.checked }
namespace Rows
def none {H : Type} : Left H := { results := [], args := [] }

/-- 'dioramalaw36.DiffMerges': WHATEVER THE INPUT: true; the input reads as it did. -/
def diffMergesSpec : ChangeSpec := { name := "diffMerges", fn := fun _ => fun
  | [d1, d2, d3, d4, d5, d6] => { results := [.lit (.bool true)], args := [d1, d2, d3, d4, d5, d6] }
  | _ => none }
def diffMergesRow : OpenClaim := { program := "yteepdnamkcgndaa", sum := "cca4efc6aadc18f5d112db54b607fa5185a931347297d31dd33433c1dfa06e06", func := "diorama/dioramalaw36.DiffMerges", spec := "diffMerges", unfollowed := true, recurses := true, apart := false }
def DiffMergesSaid : Prop := diffMergesRow.holds Try.pinned (OpenSpec.ofChange diffMergesSpec)

/-- ITS FALSE NEIGHBOUR: 'it returns false'. Refute it at one input. -/
def diffMergesWrong : ChangeSpec := { name := "diffMerges", fn := fun _ => fun
  | [d1, d2, d3, d4, d5, d6] => { results := [.lit (.bool false)], args := [d1, d2, d3, d4, d5, d6] }
  | _ => none }
def DiffMergesWrongFalsely : Prop := diffMergesRow.holds Try.pinned (OpenSpec.ofChange diffMergesWrong)

/-- 'dioramalaw36.DiffMerged': WHATEVER THE INPUT: true; the input reads as it did. -/
def diffMergedSpec : ChangeSpec := { name := "diffMerged", fn := fun _ => fun
  | [d1, d2, d3] => { results := [.lit (.bool true)], args := [d1, d2, d3] }
  | _ => none }
def diffMergedRow : OpenClaim := { program := "yteepdnamkcgndaa", sum := "cca4efc6aadc18f5d112db54b607fa5185a931347297d31dd33433c1dfa06e06", func := "diorama/dioramalaw36.DiffMerged", spec := "diffMerged", unfollowed := true, recurses := true, apart := false }
def DiffMergedSaid : Prop := diffMergedRow.holds Try.pinned (OpenSpec.ofChange diffMergedSpec)

/-- ITS FALSE NEIGHBOUR: 'it returns false'. Refute it at one input. -/
def diffMergedWrong : ChangeSpec := { name := "diffMerged", fn := fun _ => fun
  | [d1, d2, d3] => { results := [.lit (.bool false)], args := [d1, d2, d3] }
  | _ => none }
def DiffMergedWrongFalsely : Prop := diffMergedRow.holds Try.pinned (OpenSpec.ofChange diffMergedWrong)

/- THE SECOND FORM. 'bulk': how many values and letters a reading holds, each counted each time it is reached (what is shared counts as often as it is met; a slice's spare places count too). A statement '..UptoSaid' is the law's where the arguments, and the package variables that the reading takes, are together of bulk at most 1048576: NARROWER than '..Said'. Prove '..Said' where nothing that the law and all that it calls make is longer than what came in: it says more and counts as full. Else prove '..UptoSaid'. A law counts once. -/
mutual
def uptoBulk {H : Type} : DataW H → Nat
  | .lit (.string bytes) => bytes.length + 1
  | .lit _ => 1
  | .nil => 1
  | .ptr d => uptoBulk d + 1
  | .slice elems spare => uptoBulkAll elems + uptoBulkAll spare + 1
  | .agg parts => uptoBulkAll parts + 1
  | .iface _ d => uptoBulk d + 1
  | .map entries => uptoBulkEntries entries + 1
  | .held _ => 1
def uptoBulkAll {H : Type} : List (DataW H) → Nat
  | [] => 0
  | d :: r => uptoBulk d + uptoBulkAll r
def uptoBulkEntries {H : Type} : List (Lit × DataW H) → Nat
  | [] => 0
  | x :: r => uptoBulkEntry x + uptoBulkEntries r
def uptoBulkEntry {H : Type} : Lit × DataW H → Nat
  | (.string bytes, d) => bytes.length + uptoBulk d + 1
  | (_, d) => uptoBulk d + 1
 end
def uptoSmall : (H : Type) → List (DataW H) → Bool := fun _ ds => decide (uptoBulkAll ds ≤ 1048576)
def OpenSpec.upto (s : _root_.Go.ChangeSpec) : _root_.Go.OpenSpec := { _root_.Go.OpenSpec.ofChange s with cond := some uptoSmall }

/-- 'dioramalaw36.DiffMerges', WHERE WHAT IT READS IS OF BULK AT MOST 1048576: true; the input reads as it did. -/
def diffMergesUptoRow : OpenClaim := { program := "yteepdnamkcgndaa", sum := "cca4efc6aadc18f5d112db54b607fa5185a931347297d31dd33433c1dfa06e06", func := "diorama/dioramalaw36.DiffMerges", spec := "diffMerges", unfollowed := true, recurses := true, apart := false, narrowed := true }
def DiffMergesUptoSaid : Prop := diffMergesUptoRow.holds Try.pinned (OpenSpec.upto diffMergesSpec)

/-- 'dioramalaw36.DiffMerged', WHERE WHAT IT READS IS OF BULK AT MOST 1048576: true; the input reads as it did. -/
def diffMergedUptoRow : OpenClaim := { program := "yteepdnamkcgndaa", sum := "cca4efc6aadc18f5d112db54b607fa5185a931347297d31dd33433c1dfa06e06", func := "diorama/dioramalaw36.DiffMerged", spec := "diffMerged", unfollowed := true, recurses := true, apart := false, narrowed := true }
def DiffMergedUptoSaid : Prop := diffMergedUptoRow.holds Try.pinned (OpenSpec.upto diffMergedSpec)

end Rows
end Go.Proofs.Yteepdnamkcgndaa
