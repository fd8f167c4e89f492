/-
  DERIVED. GIVEN WITH THE SEED: THE CARDS: each row of YteiakkfdchnddaaGreatDoorRows.lean that lists a variable, with what it lists TIED to the program's text (the seventh form; the later family's looks); each row that meets fmt, with fmt's text TOLD by the authors' own Lean function (tested against real Go, not proved from fmt's source: count such statements apart). THE CARD IS WHAT COUNTS. Prove the row's statement (the work); the ties are given (YteiakkfdchnddaaGreatDoorTie.lean); close each card by the builder's one call (the guide's Derived/Test/ToyasCard.lean, 'card_holds'). Laid BY PROGRAM, IN A SANDBOX (cutbox-door.mjs). By AI agents, Wed Nov 11 2026. No macro, syntax, notation, axiom, sorry.
-/
import Derived.Test.YteiakkfdchnddaaGreatDoorRows
import GoSem.ClaimSeven
namespace Go.Proofs.YteiakkfdchnddaaGreatDoor
namespace Rows

/-- THE TIED CARD OF 'dioramalaw33.WorkersGoOn'. -/
def workersGoOnCard : Claim7 := { stood := { row := workersGoOnRow, standIns := [], harness := (true, "a699c2f60216036daf15d089313a9ad606c11947898f656530728e6266fc1921"), looks := true }, kinds := [], alts := [], laidByText := true, laidKinds := [.data, .data, .data, .widerDeep, .funcs], laidTests := true, laidLooks := .later }
def WorkersGoOnCardSaid : Prop := Claim7.holds Tryz.pinned (.plain (OpenSpec.ofChange workersGoOnSpec)) workersGoOnCard

/-- THE TIED CARD OF 'dioramalaw33.WorkersWork'. -/
def workersWorkCard : Claim7 := { stood := { row := workersWorkRow, standIns := [], harness := (true, "a699c2f60216036daf15d089313a9ad606c11947898f656530728e6266fc1921"), looks := true }, kinds := [], alts := [], laidByText := true, laidKinds := [.data, .data, .data, .widerDeep, .funcs], laidTests := true, laidLooks := .later }
def WorkersWorkCardSaid : Prop := Claim7.holds Tryz.pinned (.plain (OpenSpec.ofChange workersWorkSpec)) workersWorkCard

/-- THE SECOND FORM's CARD OF 'dioramalaw33.WorkersGoOn'. -/
def workersGoOnUptoCard : Claim7 := { stood := { row := workersGoOnUptoRow, standIns := [], harness := (true, "a699c2f60216036daf15d089313a9ad606c11947898f656530728e6266fc1921"), looks := true }, kinds := [], alts := [], laidByText := true, laidKinds := [.data, .data, .data, .widerDeep, .funcs], laidTests := true, laidLooks := .later }
def WorkersGoOnUptoCardSaid : Prop := Claim7.holds Tryz.pinned (.plain (OpenSpec.upto workersGoOnSpec)) workersGoOnUptoCard

/-- THE SECOND FORM's CARD OF 'dioramalaw33.WorkersWork'. -/
def workersWorkUptoCard : Claim7 := { stood := { row := workersWorkUptoRow, standIns := [], harness := (true, "a699c2f60216036daf15d089313a9ad606c11947898f656530728e6266fc1921"), looks := true }, kinds := [], alts := [], laidByText := true, laidKinds := [.data, .data, .data, .widerDeep, .funcs], laidTests := true, laidLooks := .later }
def WorkersWorkUptoCardSaid : Prop := Claim7.holds Tryz.pinned (.plain (OpenSpec.upto workersWorkSpec)) workersWorkUptoCard
end Rows
end Go.Proofs.YteiakkfdchnddaaGreatDoor
