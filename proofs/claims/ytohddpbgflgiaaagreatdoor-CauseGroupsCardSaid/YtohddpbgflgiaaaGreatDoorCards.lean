/-
  DERIVED. GIVEN WITH THE SEED: THE CARDS: each row of YtohddpbgflgiaaaGreatDoorRows.lean that lists a variable, with what it lists TIED to the program's text (the seventh form; the later family's looks); each row that meets fmt, with fmt's text TOLD by the authors' own Lean function (tested against real Go, not proved from fmt's source: count such statements apart). THE CARD IS WHAT COUNTS. Prove the row's statement (the work); the ties are given (YtohddpbgflgiaaaGreatDoorTie.lean); close each card by the builder's one call (the guide's Derived/Test/ToyasCard.lean, 'card_holds'). Laid BY PROGRAM, IN A SANDBOX (cutbox-door.mjs). By AI agents, Wed Nov 11 2026. No macro, syntax, notation, axiom, sorry.
-/
import Derived.Test.YtohddpbgflgiaaaGreatDoorRows
import GoSem.ClaimSeven
namespace Go.Proofs.YtohddpbgflgiaaaGreatDoor
namespace Rows

/-- THE TIED CARD OF 'dioramalaw34.CauseAlike'. -/
def causeAlikeCard : Claim7 := { stood := { row := causeAlikeRow, standIns := [], harness := (true, "6996b09d66c3977fdfb5f5e419084a0c69ca626ead183945b21e5dc8f238b5c9"), looks := true }, kinds := [], alts := [], laidByText := true, laidKinds := [.data, .data, .data, .widerDeep, .funcs], laidTests := true, laidLooks := .later }
def CauseAlikeCardSaid : Prop := Claim7.holds Tryz.pinned (.plain (OpenSpec.ofChange causeAlikeSpec)) causeAlikeCard

/-- THE TIED CARD OF 'dioramalaw34.CauseGroups'. -/
def causeGroupsCard : Claim7 := { stood := { row := causeGroupsRow, standIns := [], harness := (true, "6996b09d66c3977fdfb5f5e419084a0c69ca626ead183945b21e5dc8f238b5c9"), looks := true }, kinds := [], alts := [], laidByText := true, laidKinds := [.data, .data, .data, .widerDeep, .funcs], laidTests := true, laidLooks := .later }
def CauseGroupsCardSaid : Prop := Claim7.holds Tryz.pinned (.plain (OpenSpec.ofChange causeGroupsSpec)) causeGroupsCard

/-- THE SECOND FORM's CARD OF 'dioramalaw34.CauseAlike'. -/
def causeAlikeUptoCard : Claim7 := { stood := { row := causeAlikeUptoRow, standIns := [], harness := (true, "6996b09d66c3977fdfb5f5e419084a0c69ca626ead183945b21e5dc8f238b5c9"), looks := true }, kinds := [], alts := [], laidByText := true, laidKinds := [.data, .data, .data, .widerDeep, .funcs], laidTests := true, laidLooks := .later }
def CauseAlikeUptoCardSaid : Prop := Claim7.holds Tryz.pinned (.plain (OpenSpec.upto causeAlikeSpec)) causeAlikeUptoCard

/-- THE SECOND FORM's CARD OF 'dioramalaw34.CauseGroups'. -/
def causeGroupsUptoCard : Claim7 := { stood := { row := causeGroupsUptoRow, standIns := [], harness := (true, "6996b09d66c3977fdfb5f5e419084a0c69ca626ead183945b21e5dc8f238b5c9"), looks := true }, kinds := [], alts := [], laidByText := true, laidKinds := [.data, .data, .data, .widerDeep, .funcs], laidTests := true, laidLooks := .later }
def CauseGroupsUptoCardSaid : Prop := Claim7.holds Tryz.pinned (.plain (OpenSpec.upto causeGroupsSpec)) causeGroupsUptoCard
end Rows
end Go.Proofs.YtohddpbgflgiaaaGreatDoor
