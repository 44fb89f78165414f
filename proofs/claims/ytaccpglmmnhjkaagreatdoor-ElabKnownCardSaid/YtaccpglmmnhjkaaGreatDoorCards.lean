/-
  DERIVED. GIVEN WITH THE SEED: THE CARDS: each row of YtaccpglmmnhjkaaGreatDoorRows.lean that lists a variable, with what it lists TIED to the program's text (the seventh form; the later family's looks); each row that meets fmt, with fmt's text TOLD by the authors' own Lean function (tested against real Go, not proved from fmt's source: count such statements apart). THE CARD IS WHAT COUNTS. Prove the row's statement (the work); the ties are given (YtaccpglmmnhjkaaGreatDoorTie.lean); close each card by the builder's one call (the guide's Derived/Test/ToyasCard.lean, 'card_holds'). Laid BY PROGRAM, IN A SANDBOX (cutbox-door.mjs). By AI agents, Wed Nov 11 2026. No macro, syntax, notation, axiom, sorry.
-/
import Derived.Test.YtaccpglmmnhjkaaGreatDoorRows
import GoSem.ClaimSeven
namespace Go.Proofs.YtaccpglmmnhjkaaGreatDoor
namespace Rows

/-- THE TIED CARD OF 'chaperonlaw17.ElabKnown'. -/
def elabKnownCard : Claim7 := { stood := { row := elabKnownRow, standIns := [], harness := (true, "001581e6b3f267a734c23a8f5e9a9a9fef06034da4eff3278a0f89688b61fb5f"), looks := true }, kinds := [], alts := [], laidByText := true, laidKinds := [.data, .listed, .data, .pinned], laidTests := true, laidLooks := .later }
def ElabKnownCardSaid : Prop := Claim7.holds Tryz.pinned (.plain (OpenSpec.ofChange elabKnownSpec)) elabKnownCard

/-- THE SECOND FORM's CARD OF 'chaperonlaw17.ElabKnown'. -/
def elabKnownUptoCard : Claim7 := { stood := { row := elabKnownUptoRow, standIns := [], harness := (true, "001581e6b3f267a734c23a8f5e9a9a9fef06034da4eff3278a0f89688b61fb5f"), looks := true }, kinds := [], alts := [], laidByText := true, laidKinds := [.data, .listed, .data, .pinned], laidTests := true, laidLooks := .later }
def ElabKnownUptoCardSaid : Prop := Claim7.holds Tryz.pinned (.plain (OpenSpec.upto elabKnownSpec)) elabKnownUptoCard
end Rows
end Go.Proofs.YtaccpglmmnhjkaaGreatDoor
