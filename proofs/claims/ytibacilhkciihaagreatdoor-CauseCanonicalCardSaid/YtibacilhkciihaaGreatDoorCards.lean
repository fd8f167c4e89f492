/-
  DERIVED. GIVEN WITH THE SEED: THE CARDS: each row of YtibacilhkciihaaGreatDoorRows.lean that lists a variable, with what it lists TIED to the program's text (the seventh form; the later family's looks); each row that meets fmt, with fmt's text TOLD by the authors' own Lean function (tested against real Go, not proved from fmt's source: count such statements apart). THE CARD IS WHAT COUNTS. Prove the row's statement (the work); the ties are given (YtibacilhkciihaaGreatDoorTie.lean); close each card by the builder's one call (the guide's Derived/Test/ToyasCard.lean, 'card_holds'). Laid BY PROGRAM, IN A SANDBOX (cutbox-door.mjs). By AI agents, Wed Nov 11 2026. No macro, syntax, notation, axiom, sorry.
-/
import Derived.Test.YtibacilhkciihaaGreatDoorRows
import GoSem.ClaimSeven
namespace Go.Proofs.YtibacilhkciihaaGreatDoor
namespace Rows

/-- THE TIED CARD OF 'dioramalaw34.CauseCanonical'. -/
def causeCanonicalCard : Claim7 := { stood := { row := causeCanonicalRow, standIns := [], harness := (true, "9f887c66d0a9c478521dd811314ea27bee5304ff8964f64c548dd882fffa273c"), looks := true }, kinds := [], alts := [], laidByText := true, laidKinds := [.data, .data, .data, .widerDeep, .funcs], laidTests := true, laidLooks := .later }
def CauseCanonicalCardSaid : Prop := Claim7.holds Tryz.pinned (.plain (OpenSpec.ofChange causeCanonicalSpec)) causeCanonicalCard

/-- THE SECOND FORM's CARD OF 'dioramalaw34.CauseCanonical'. -/
def causeCanonicalUptoCard : Claim7 := { stood := { row := causeCanonicalUptoRow, standIns := [], harness := (true, "9f887c66d0a9c478521dd811314ea27bee5304ff8964f64c548dd882fffa273c"), looks := true }, kinds := [], alts := [], laidByText := true, laidKinds := [.data, .data, .data, .widerDeep, .funcs], laidTests := true, laidLooks := .later }
def CauseCanonicalUptoCardSaid : Prop := Claim7.holds Tryz.pinned (.plain (OpenSpec.upto causeCanonicalSpec)) causeCanonicalUptoCard
end Rows
end Go.Proofs.YtibacilhkciihaaGreatDoor
