/-
  DERIVED. GIVEN WITH THE SEED: THE CARDS: each row of YtobgljfnfpolkaaGreatDoorRows.lean that lists a variable, with what it lists TIED to the program's text (the seventh form; the later family's looks); each row that meets fmt, with fmt's text TOLD by the authors' own Lean function (tested against real Go, not proved from fmt's source: count such statements apart). THE CARD IS WHAT COUNTS. Prove the row's statement (the work); the ties are given (YtobgljfnfpolkaaGreatDoorTie.lean); close each card by the builder's one call (the guide's Derived/Test/ToyasCard.lean, 'card_holds'). Laid BY PROGRAM, IN A SANDBOX (cutbox-door.mjs). By AI agents, Wed Nov 11 2026. No macro, syntax, notation, axiom, sorry.
-/
import Derived.Test.YtobgljfnfpolkaaGreatDoorRows
import GoSem.ClaimSeven
namespace Go.Proofs.YtobgljfnfpolkaaGreatDoor
namespace Rows

/-- THE TIED CARD OF 'dioramalaw32.ShrinkAll'. -/
def shrinkAllCard : Claim7 := { stood := { row := shrinkAllRow, standIns := [], harness := (true, "bd1d1847d1d0159c01b6ecff0b2ce8a0756735ac594e7dc4f353825ae0cf7cd0"), looks := true }, kinds := [], alts := [], laidByText := true, laidKinds := [.data, .data, .data, .widerDeep, .funcs], laidTests := true, laidLooks := .later }
def ShrinkAllCardSaid : Prop := Claim7.holds Tryz.pinned (.plain (OpenSpec.ofChange shrinkAllSpec)) shrinkAllCard

/-- THE TIED CARD OF 'dioramalaw32.ShrinkSmallest'. -/
def shrinkSmallestCard : Claim7 := { stood := { row := shrinkSmallestRow, standIns := [], harness := (true, "bd1d1847d1d0159c01b6ecff0b2ce8a0756735ac594e7dc4f353825ae0cf7cd0"), looks := true }, kinds := [], alts := [], laidByText := true, laidKinds := [.data, .data, .data, .widerDeep, .funcs], laidTests := true, laidLooks := .later }
def ShrinkSmallestCardSaid : Prop := Claim7.holds Tryz.pinned (.plain (OpenSpec.ofChange shrinkSmallestSpec)) shrinkSmallestCard

/-- THE TIED CARD OF 'dioramalaw32.ShrinkFast'. -/
def shrinkFastCard : Claim7 := { stood := { row := shrinkFastRow, standIns := [], harness := (true, "bd1d1847d1d0159c01b6ecff0b2ce8a0756735ac594e7dc4f353825ae0cf7cd0"), looks := true }, kinds := [], alts := [], laidByText := true, laidKinds := [.data, .data, .data, .widerDeep, .funcs], laidTests := true, laidLooks := .later }
def ShrinkFastCardSaid : Prop := Claim7.holds Tryz.pinned (.plain (OpenSpec.ofChange shrinkFastSpec)) shrinkFastCard

/-- THE TIED CARD OF 'dioramalaw32.ShrinkLeast'. -/
def shrinkLeastCard : Claim7 := { stood := { row := shrinkLeastRow, standIns := [], harness := (true, "bd1d1847d1d0159c01b6ecff0b2ce8a0756735ac594e7dc4f353825ae0cf7cd0"), looks := true }, kinds := [], alts := [], laidByText := true, laidKinds := [.data, .data, .data, .widerDeep, .funcs], laidTests := true, laidLooks := .later }
def ShrinkLeastCardSaid : Prop := Claim7.holds Tryz.pinned (.plain (OpenSpec.ofChange shrinkLeastSpec)) shrinkLeastCard

/-- THE TIED CARD OF 'dioramalaw32.ShrinkRecords'. -/
def shrinkRecordsCard : Claim7 := { stood := { row := shrinkRecordsRow, standIns := [], harness := (true, "bd1d1847d1d0159c01b6ecff0b2ce8a0756735ac594e7dc4f353825ae0cf7cd0"), looks := true }, kinds := [], alts := [], laidByText := true, laidKinds := [.data, .data, .data, .widerDeep, .funcs], laidTests := true, laidLooks := .later }
def ShrinkRecordsCardSaid : Prop := Claim7.holds Tryz.pinned (.plain (OpenSpec.ofChange shrinkRecordsSpec)) shrinkRecordsCard

/-- THE TIED CARD OF 'dioramalaw32.ShrinkAgain'. -/
def shrinkAgainCard : Claim7 := { stood := { row := shrinkAgainRow, standIns := [], harness := (true, "bd1d1847d1d0159c01b6ecff0b2ce8a0756735ac594e7dc4f353825ae0cf7cd0"), looks := true }, kinds := [], alts := [], laidByText := true, laidKinds := [.data, .data, .data, .widerDeep, .funcs], laidTests := true, laidLooks := .later }
def ShrinkAgainCardSaid : Prop := Claim7.holds Tryz.pinned (.plain (OpenSpec.ofChange shrinkAgainSpec)) shrinkAgainCard

/-- THE TIED CARD OF 'dioramalaw32.ShrinkUnions'. -/
def shrinkUnionsCard : Claim7 := { stood := { row := shrinkUnionsRow, standIns := [], harness := (true, "bd1d1847d1d0159c01b6ecff0b2ce8a0756735ac594e7dc4f353825ae0cf7cd0"), looks := true }, kinds := [], alts := [], laidByText := true, laidKinds := [.data, .data, .data, .widerDeep, .funcs], laidTests := true, laidLooks := .later }
def ShrinkUnionsCardSaid : Prop := Claim7.holds Tryz.pinned (.plain (OpenSpec.ofChange shrinkUnionsSpec)) shrinkUnionsCard

/-- THE SECOND FORM's CARD OF 'dioramalaw32.ShrinkAll'. -/
def shrinkAllUptoCard : Claim7 := { stood := { row := shrinkAllUptoRow, standIns := [], harness := (true, "bd1d1847d1d0159c01b6ecff0b2ce8a0756735ac594e7dc4f353825ae0cf7cd0"), looks := true }, kinds := [], alts := [], laidByText := true, laidKinds := [.data, .data, .data, .widerDeep, .funcs], laidTests := true, laidLooks := .later }
def ShrinkAllUptoCardSaid : Prop := Claim7.holds Tryz.pinned (.plain (OpenSpec.upto shrinkAllSpec)) shrinkAllUptoCard

/-- THE SECOND FORM's CARD OF 'dioramalaw32.ShrinkSmallest'. -/
def shrinkSmallestUptoCard : Claim7 := { stood := { row := shrinkSmallestUptoRow, standIns := [], harness := (true, "bd1d1847d1d0159c01b6ecff0b2ce8a0756735ac594e7dc4f353825ae0cf7cd0"), looks := true }, kinds := [], alts := [], laidByText := true, laidKinds := [.data, .data, .data, .widerDeep, .funcs], laidTests := true, laidLooks := .later }
def ShrinkSmallestUptoCardSaid : Prop := Claim7.holds Tryz.pinned (.plain (OpenSpec.upto shrinkSmallestSpec)) shrinkSmallestUptoCard

/-- THE SECOND FORM's CARD OF 'dioramalaw32.ShrinkFast'. -/
def shrinkFastUptoCard : Claim7 := { stood := { row := shrinkFastUptoRow, standIns := [], harness := (true, "bd1d1847d1d0159c01b6ecff0b2ce8a0756735ac594e7dc4f353825ae0cf7cd0"), looks := true }, kinds := [], alts := [], laidByText := true, laidKinds := [.data, .data, .data, .widerDeep, .funcs], laidTests := true, laidLooks := .later }
def ShrinkFastUptoCardSaid : Prop := Claim7.holds Tryz.pinned (.plain (OpenSpec.upto shrinkFastSpec)) shrinkFastUptoCard

/-- THE SECOND FORM's CARD OF 'dioramalaw32.ShrinkLeast'. -/
def shrinkLeastUptoCard : Claim7 := { stood := { row := shrinkLeastUptoRow, standIns := [], harness := (true, "bd1d1847d1d0159c01b6ecff0b2ce8a0756735ac594e7dc4f353825ae0cf7cd0"), looks := true }, kinds := [], alts := [], laidByText := true, laidKinds := [.data, .data, .data, .widerDeep, .funcs], laidTests := true, laidLooks := .later }
def ShrinkLeastUptoCardSaid : Prop := Claim7.holds Tryz.pinned (.plain (OpenSpec.upto shrinkLeastSpec)) shrinkLeastUptoCard

/-- THE SECOND FORM's CARD OF 'dioramalaw32.ShrinkRecords'. -/
def shrinkRecordsUptoCard : Claim7 := { stood := { row := shrinkRecordsUptoRow, standIns := [], harness := (true, "bd1d1847d1d0159c01b6ecff0b2ce8a0756735ac594e7dc4f353825ae0cf7cd0"), looks := true }, kinds := [], alts := [], laidByText := true, laidKinds := [.data, .data, .data, .widerDeep, .funcs], laidTests := true, laidLooks := .later }
def ShrinkRecordsUptoCardSaid : Prop := Claim7.holds Tryz.pinned (.plain (OpenSpec.upto shrinkRecordsSpec)) shrinkRecordsUptoCard

/-- THE SECOND FORM's CARD OF 'dioramalaw32.ShrinkAgain'. -/
def shrinkAgainUptoCard : Claim7 := { stood := { row := shrinkAgainUptoRow, standIns := [], harness := (true, "bd1d1847d1d0159c01b6ecff0b2ce8a0756735ac594e7dc4f353825ae0cf7cd0"), looks := true }, kinds := [], alts := [], laidByText := true, laidKinds := [.data, .data, .data, .widerDeep, .funcs], laidTests := true, laidLooks := .later }
def ShrinkAgainUptoCardSaid : Prop := Claim7.holds Tryz.pinned (.plain (OpenSpec.upto shrinkAgainSpec)) shrinkAgainUptoCard

/-- THE SECOND FORM's CARD OF 'dioramalaw32.ShrinkUnions'. -/
def shrinkUnionsUptoCard : Claim7 := { stood := { row := shrinkUnionsUptoRow, standIns := [], harness := (true, "bd1d1847d1d0159c01b6ecff0b2ce8a0756735ac594e7dc4f353825ae0cf7cd0"), looks := true }, kinds := [], alts := [], laidByText := true, laidKinds := [.data, .data, .data, .widerDeep, .funcs], laidTests := true, laidLooks := .later }
def ShrinkUnionsUptoCardSaid : Prop := Claim7.holds Tryz.pinned (.plain (OpenSpec.upto shrinkUnionsSpec)) shrinkUnionsUptoCard
end Rows
end Go.Proofs.YtobgljfnfpolkaaGreatDoor
