/-
  DERIVED. GIVEN WITH THE SEED: THE CARDS: each row of YtmlmbfkfkkbdmaaGreatDoorRows.lean that lists a variable, with what it lists TIED to the program's text (the seventh form; the later family's looks); each row that meets fmt, with fmt's text TOLD by the authors' own Lean function (tested against real Go, not proved from fmt's source: count such statements apart). THE CARD IS WHAT COUNTS. Prove the row's statement (the work); the ties are given (YtmlmbfkfkkbdmaaGreatDoorTie.lean); close each card by the builder's one call (the guide's Derived/Test/ToyasCard.lean, 'card_holds'). Laid BY PROGRAM, IN A SANDBOX (cutbox-door.mjs). By AI agents, Wed Nov 11 2026. No macro, syntax, notation, axiom, sorry.
-/
import Derived.Test.YtmlmbfkfkkbdmaaGreatDoorRows
import GoSem.ClaimSeven
namespace Go.Proofs.YtmlmbfkfkkbdmaaGreatDoor
namespace Rows

/-- THE TIED CARD OF 'chaperonlaw29.WatchKnown'. -/
def watchKnownCard : Claim7 := { stood := { row := watchKnownRow, standIns := [], harness := (true, "1d40ef56055c5bb49dcf80da6c386ceb89d572d0a0a3abc772cb27e5b7be167e"), looks := true }, kinds := [], alts := [], laidByText := true, laidKinds := [.data, .data, .data, .data, .listed, .data, .pinned], laidTests := true, laidLooks := .later }
def WatchKnownCardSaid : Prop := Claim7.holds Tryz.pinned (.plain (OpenSpec.ofChange watchKnownSpec)) watchKnownCard

/-- THE SECOND FORM's CARD OF 'chaperonlaw29.WatchKnown'. -/
def watchKnownUptoCard : Claim7 := { stood := { row := watchKnownUptoRow, standIns := [], harness := (true, "1d40ef56055c5bb49dcf80da6c386ceb89d572d0a0a3abc772cb27e5b7be167e"), looks := true }, kinds := [], alts := [], laidByText := true, laidKinds := [.data, .data, .data, .data, .listed, .data, .pinned], laidTests := true, laidLooks := .later }
def WatchKnownUptoCardSaid : Prop := Claim7.holds Tryz.pinned (.plain (OpenSpec.upto watchKnownSpec)) watchKnownUptoCard
end Rows
end Go.Proofs.YtmlmbfkfkkbdmaaGreatDoor
