/-
  DERIVED. GIVEN WITH THE SEED: THE CARDS: each row of YtgfhbomiljhjpaaGreatDoorRows.lean that lists a variable, with what it lists TIED to the program's text (the seventh form; the later family's looks); each row that meets fmt, with fmt's text TOLD by the authors' own Lean function (tested against real Go, not proved from fmt's source: count such statements apart). THE CARD IS WHAT COUNTS. Prove the row's statement (the work); the ties are given (YtgfhbomiljhjpaaGreatDoorTie.lean); close each card by the builder's one call (the guide's Derived/Test/ToyasCard.lean, 'card_holds'). Laid BY PROGRAM, IN A SANDBOX (cutbox-door.mjs). By AI agents, Wed Nov 11 2026. No macro, syntax, notation, axiom, sorry.
-/
import Derived.Test.YtgfhbomiljhjpaaGreatDoorRows
import GoSem.ClaimSeven
namespace Go.Proofs.YtgfhbomiljhjpaaGreatDoor
namespace Rows

/-- THE TIED CARD OF 'chaperonlaw25.VerifyTells'. -/
def verifyTellsCard : Claim7 := { stood := { row := verifyTellsRow, standIns := [], harness := (true, "f01ddcb1b5ffb4f27842f4474a922c1b2230233d72edb1036b6946990c34df59"), looks := false }, kinds := [], alts := [], laidByText := true, laidKinds := [.data, .listed, .data, .pinned], laidTests := true, laidLooks := .later }
def VerifyTellsCardSaid : Prop := Claim7.holds Tryz.pinned (.plain (OpenSpec.ofChange verifyTellsSpec)) verifyTellsCard

/-- THE TIED CARD OF 'chaperonlaw25.VerifyStates'. -/
def verifyStatesCard : Claim7 := { stood := { row := verifyStatesRow, standIns := [], harness := (true, "f01ddcb1b5ffb4f27842f4474a922c1b2230233d72edb1036b6946990c34df59"), looks := false }, kinds := [], alts := [], laidByText := true, laidKinds := [.data, .listed, .data, .pinned], laidTests := true, laidLooks := .later }
def VerifyStatesCardSaid : Prop := Claim7.holds Tryz.pinned (.plain (OpenSpec.ofChange verifyStatesSpec)) verifyStatesCard

/-- THE TIED CARD OF 'chaperonlaw25.VerifyDead'. -/
def verifyDeadCard : Claim7 := { stood := { row := verifyDeadRow, standIns := [], harness := (true, "f01ddcb1b5ffb4f27842f4474a922c1b2230233d72edb1036b6946990c34df59"), looks := false }, kinds := [], alts := [], laidByText := true, laidKinds := [.data, .listed, .data, .pinned], laidTests := true, laidLooks := .later }
def VerifyDeadCardSaid : Prop := Claim7.holds Tryz.pinned (.plain (OpenSpec.ofChange verifyDeadSpec)) verifyDeadCard

/-- THE TIED CARD OF 'chaperonlaw25.VerifyClosed'. -/
def verifyClosedCard : Claim7 := { stood := { row := verifyClosedRow, standIns := [], harness := (true, "f01ddcb1b5ffb4f27842f4474a922c1b2230233d72edb1036b6946990c34df59"), looks := false }, kinds := [], alts := [], laidByText := true, laidKinds := [.data, .listed, .data, .pinned], laidTests := true, laidLooks := .later }
def VerifyClosedCardSaid : Prop := Claim7.holds Tryz.pinned (.plain (OpenSpec.ofChange verifyClosedSpec)) verifyClosedCard

/-- THE SECOND FORM's CARD OF 'chaperonlaw25.VerifyTells'. -/
def verifyTellsUptoCard : Claim7 := { stood := { row := verifyTellsUptoRow, standIns := [], harness := (true, "f01ddcb1b5ffb4f27842f4474a922c1b2230233d72edb1036b6946990c34df59"), looks := false }, kinds := [], alts := [], laidByText := true, laidKinds := [.data, .listed, .data, .pinned], laidTests := true, laidLooks := .later }
def VerifyTellsUptoCardSaid : Prop := Claim7.holds Tryz.pinned (.plain (OpenSpec.upto verifyTellsSpec)) verifyTellsUptoCard

/-- THE SECOND FORM's CARD OF 'chaperonlaw25.VerifyStates'. -/
def verifyStatesUptoCard : Claim7 := { stood := { row := verifyStatesUptoRow, standIns := [], harness := (true, "f01ddcb1b5ffb4f27842f4474a922c1b2230233d72edb1036b6946990c34df59"), looks := false }, kinds := [], alts := [], laidByText := true, laidKinds := [.data, .listed, .data, .pinned], laidTests := true, laidLooks := .later }
def VerifyStatesUptoCardSaid : Prop := Claim7.holds Tryz.pinned (.plain (OpenSpec.upto verifyStatesSpec)) verifyStatesUptoCard

/-- THE SECOND FORM's CARD OF 'chaperonlaw25.VerifyDead'. -/
def verifyDeadUptoCard : Claim7 := { stood := { row := verifyDeadUptoRow, standIns := [], harness := (true, "f01ddcb1b5ffb4f27842f4474a922c1b2230233d72edb1036b6946990c34df59"), looks := false }, kinds := [], alts := [], laidByText := true, laidKinds := [.data, .listed, .data, .pinned], laidTests := true, laidLooks := .later }
def VerifyDeadUptoCardSaid : Prop := Claim7.holds Tryz.pinned (.plain (OpenSpec.upto verifyDeadSpec)) verifyDeadUptoCard

/-- THE SECOND FORM's CARD OF 'chaperonlaw25.VerifyClosed'. -/
def verifyClosedUptoCard : Claim7 := { stood := { row := verifyClosedUptoRow, standIns := [], harness := (true, "f01ddcb1b5ffb4f27842f4474a922c1b2230233d72edb1036b6946990c34df59"), looks := false }, kinds := [], alts := [], laidByText := true, laidKinds := [.data, .listed, .data, .pinned], laidTests := true, laidLooks := .later }
def VerifyClosedUptoCardSaid : Prop := Claim7.holds Tryz.pinned (.plain (OpenSpec.upto verifyClosedSpec)) verifyClosedUptoCard
end Rows
end Go.Proofs.YtgfhbomiljhjpaaGreatDoor
