/-
  DERIVED. GIVEN WITH THE SEED: THE CARDS: each row of YtjaejnacdanpkaaDoorRows.lean that lists a variable, with what it lists TIED to the program's text (the seventh form; the later family's looks); each row that meets fmt, with fmt's text TOLD by the authors' own Lean function (tested against real Go, not proved from fmt's source: count such statements apart). THE CARD IS WHAT COUNTS. Prove the row's statement (the work); the ties are given (YtjaejnacdanpkaaDoorTie.lean); close each card by the builder's one call (the guide's Derived/Test/ToyasCard.lean, 'card_holds'). Laid BY PROGRAM, IN A SANDBOX (cutbox-door.mjs). By AI agents, Wed Nov 11 2026. No macro, syntax, notation, axiom, sorry.
-/
import Derived.Test.YtjaejnacdanpkaaDoorRows
import GoSem.ClaimSeven
namespace Go.Proofs.YtjaejnacdanpkaaDoor
namespace Rows

/-- THE TIED CARD OF 'dioramalaw28.CoverRows'. -/
def coverRowsCard : Claim7 := { stood := { row := coverRowsRow, standIns := [], harness := (true, "90a6c194a6ac7cf8e5f76da99cfc2cb496c95dac1931b6b452f00edff0d328a2"), looks := false }, kinds := [], alts := [], laidByText := true, laidKinds := [.data, .data], laidTests := true, laidLooks := .later }
def CoverRowsCardSaid : Prop := Claim7.holds Tryd.pinned (.plain (OpenSpec.ofChange coverRowsSpec)) coverRowsCard

/-- THE TIED CARD OF 'dioramalaw28.CoverChecks'. -/
def coverChecksCard : Claim7 := { stood := { row := coverChecksRow, standIns := [], harness := (true, "90a6c194a6ac7cf8e5f76da99cfc2cb496c95dac1931b6b452f00edff0d328a2"), looks := false }, kinds := [], alts := [], laidByText := true, laidKinds := [.data, .data], laidTests := true, laidLooks := .later }
def CoverChecksCardSaid : Prop := Claim7.holds Tryd.pinned (.plain (OpenSpec.ofChange coverChecksSpec)) coverChecksCard

/-- THE TIED CARD OF 'dioramalaw28.CoverLeast'. -/
def coverLeastCard : Claim7 := { stood := { row := coverLeastRow, standIns := [], harness := (true, "90a6c194a6ac7cf8e5f76da99cfc2cb496c95dac1931b6b452f00edff0d328a2"), looks := false }, kinds := [], alts := [], laidByText := true, laidKinds := [.data, .data], laidTests := true, laidLooks := .later }
def CoverLeastCardSaid : Prop := Claim7.holds Tryd.pinned (.plain (OpenSpec.ofChange coverLeastSpec)) coverLeastCard

/-- THE TIED CARD OF 'dioramalaw28.CoverNew'. -/
def coverNewCard : Claim7 := { stood := { row := coverNewRow, standIns := [], harness := (true, "90a6c194a6ac7cf8e5f76da99cfc2cb496c95dac1931b6b452f00edff0d328a2"), looks := false }, kinds := [], alts := [], laidByText := true, laidKinds := [.data, .data], laidTests := true, laidLooks := .later }
def CoverNewCardSaid : Prop := Claim7.holds Tryd.pinned (.plain (OpenSpec.ofChange coverNewSpec)) coverNewCard

/-- THE TIED CARD OF 'dioramalaw28.CoverForbidden'. -/
def coverForbiddenCard : Claim7 := { stood := { row := coverForbiddenRow, standIns := [], harness := (true, "90a6c194a6ac7cf8e5f76da99cfc2cb496c95dac1931b6b452f00edff0d328a2"), looks := false }, kinds := [], alts := [], laidByText := true, laidKinds := [.data, .data], laidTests := true, laidLooks := .later }
def CoverForbiddenCardSaid : Prop := Claim7.holds Tryd.pinned (.plain (OpenSpec.ofChange coverForbiddenSpec)) coverForbiddenCard

/-- THE TIED CARD OF 'dioramalaw28.CoverMore'. -/
def coverMoreCard : Claim7 := { stood := { row := coverMoreRow, standIns := [], harness := (true, "90a6c194a6ac7cf8e5f76da99cfc2cb496c95dac1931b6b452f00edff0d328a2"), looks := false }, kinds := [], alts := [], laidByText := true, laidKinds := [.data, .data], laidTests := true, laidLooks := .later }
def CoverMoreCardSaid : Prop := Claim7.holds Tryd.pinned (.plain (OpenSpec.ofChange coverMoreSpec)) coverMoreCard

/-- THE SECOND FORM's CARD OF 'dioramalaw28.CoverRows'. -/
def coverRowsUptoCard : Claim7 := { stood := { row := coverRowsUptoRow, standIns := [], harness := (true, "90a6c194a6ac7cf8e5f76da99cfc2cb496c95dac1931b6b452f00edff0d328a2"), looks := false }, kinds := [], alts := [], laidByText := true, laidKinds := [.data, .data], laidTests := true, laidLooks := .later }
def CoverRowsUptoCardSaid : Prop := Claim7.holds Tryd.pinned (.plain (OpenSpec.upto coverRowsSpec)) coverRowsUptoCard

/-- THE SECOND FORM's CARD OF 'dioramalaw28.CoverChecks'. -/
def coverChecksUptoCard : Claim7 := { stood := { row := coverChecksUptoRow, standIns := [], harness := (true, "90a6c194a6ac7cf8e5f76da99cfc2cb496c95dac1931b6b452f00edff0d328a2"), looks := false }, kinds := [], alts := [], laidByText := true, laidKinds := [.data, .data], laidTests := true, laidLooks := .later }
def CoverChecksUptoCardSaid : Prop := Claim7.holds Tryd.pinned (.plain (OpenSpec.upto coverChecksSpec)) coverChecksUptoCard

/-- THE SECOND FORM's CARD OF 'dioramalaw28.CoverLeast'. -/
def coverLeastUptoCard : Claim7 := { stood := { row := coverLeastUptoRow, standIns := [], harness := (true, "90a6c194a6ac7cf8e5f76da99cfc2cb496c95dac1931b6b452f00edff0d328a2"), looks := false }, kinds := [], alts := [], laidByText := true, laidKinds := [.data, .data], laidTests := true, laidLooks := .later }
def CoverLeastUptoCardSaid : Prop := Claim7.holds Tryd.pinned (.plain (OpenSpec.upto coverLeastSpec)) coverLeastUptoCard

/-- THE SECOND FORM's CARD OF 'dioramalaw28.CoverNew'. -/
def coverNewUptoCard : Claim7 := { stood := { row := coverNewUptoRow, standIns := [], harness := (true, "90a6c194a6ac7cf8e5f76da99cfc2cb496c95dac1931b6b452f00edff0d328a2"), looks := false }, kinds := [], alts := [], laidByText := true, laidKinds := [.data, .data], laidTests := true, laidLooks := .later }
def CoverNewUptoCardSaid : Prop := Claim7.holds Tryd.pinned (.plain (OpenSpec.upto coverNewSpec)) coverNewUptoCard

/-- THE SECOND FORM's CARD OF 'dioramalaw28.CoverForbidden'. -/
def coverForbiddenUptoCard : Claim7 := { stood := { row := coverForbiddenUptoRow, standIns := [], harness := (true, "90a6c194a6ac7cf8e5f76da99cfc2cb496c95dac1931b6b452f00edff0d328a2"), looks := false }, kinds := [], alts := [], laidByText := true, laidKinds := [.data, .data], laidTests := true, laidLooks := .later }
def CoverForbiddenUptoCardSaid : Prop := Claim7.holds Tryd.pinned (.plain (OpenSpec.upto coverForbiddenSpec)) coverForbiddenUptoCard

/-- THE SECOND FORM's CARD OF 'dioramalaw28.CoverMore'. -/
def coverMoreUptoCard : Claim7 := { stood := { row := coverMoreUptoRow, standIns := [], harness := (true, "90a6c194a6ac7cf8e5f76da99cfc2cb496c95dac1931b6b452f00edff0d328a2"), looks := false }, kinds := [], alts := [], laidByText := true, laidKinds := [.data, .data], laidTests := true, laidLooks := .later }
def CoverMoreUptoCardSaid : Prop := Claim7.holds Tryd.pinned (.plain (OpenSpec.upto coverMoreSpec)) coverMoreUptoCard
end Rows
end Go.Proofs.YtjaejnacdanpkaaDoor
