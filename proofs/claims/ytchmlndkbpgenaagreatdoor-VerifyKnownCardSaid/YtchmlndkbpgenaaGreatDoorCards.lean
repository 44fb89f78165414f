/-
  DERIVED. GIVEN WITH THE SEED: THE CARDS: each row of YtchmlndkbpgenaaGreatDoorRows.lean that lists a variable, with what it lists TIED to the program's text (the seventh form; the later family's looks); each row that meets fmt, with fmt's text TOLD by the authors' own Lean function (tested against real Go, not proved from fmt's source: count such statements apart). THE CARD IS WHAT COUNTS. Prove the row's statement (the work); the ties are given (YtchmlndkbpgenaaGreatDoorTie.lean); close each card by the builder's one call (the guide's Derived/Test/ToyasCard.lean, 'card_holds'). Laid BY PROGRAM, IN A SANDBOX (cutbox-door.mjs). By AI agents, Wed Nov 11 2026. No macro, syntax, notation, axiom, sorry.
-/
import Derived.Test.YtchmlndkbpgenaaGreatDoorRows
import GoSem.ClaimSeven
namespace Go.Proofs.YtchmlndkbpgenaaGreatDoor
namespace Rows

/-- THE TIED CARD OF 'chaperonlaw25.VerifyKnown'. -/
def verifyKnownCard : Claim7 := { stood := { row := verifyKnownRow, standIns := [], harness := (true, "83f87da0350ff073ed8e255f8c1391475bdb0d8c6f84b7101cba31912f5b4b86"), looks := false }, kinds := [], alts := [], laidByText := true, laidKinds := [.data, .listed, .data, .pinned], laidTests := true, laidLooks := .later }
def VerifyKnownCardSaid : Prop := Claim7.holds Tryz.pinned (.plain (OpenSpec.ofChange verifyKnownSpec)) verifyKnownCard

/-- THE SECOND FORM's CARD OF 'chaperonlaw25.VerifyKnown'. -/
def verifyKnownUptoCard : Claim7 := { stood := { row := verifyKnownUptoRow, standIns := [], harness := (true, "83f87da0350ff073ed8e255f8c1391475bdb0d8c6f84b7101cba31912f5b4b86"), looks := false }, kinds := [], alts := [], laidByText := true, laidKinds := [.data, .listed, .data, .pinned], laidTests := true, laidLooks := .later }
def VerifyKnownUptoCardSaid : Prop := Claim7.holds Tryz.pinned (.plain (OpenSpec.upto verifyKnownSpec)) verifyKnownUptoCard
end Rows
end Go.Proofs.YtchmlndkbpgenaaGreatDoor
