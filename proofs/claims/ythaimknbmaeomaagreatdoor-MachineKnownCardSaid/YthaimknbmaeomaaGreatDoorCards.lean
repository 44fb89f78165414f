/-
  DERIVED. GIVEN WITH THE SEED: THE CARDS: each row of YthaimknbmaeomaaGreatDoorRows.lean that lists a variable, with what it lists TIED to the program's text (the seventh form; the later family's looks); each row that meets fmt, with fmt's text TOLD by the authors' own Lean function (tested against real Go, not proved from fmt's source: count such statements apart). THE CARD IS WHAT COUNTS. Prove the row's statement (the work); the ties are given (YthaimknbmaeomaaGreatDoorTie.lean); close each card by the builder's one call (the guide's Derived/Test/ToyasCard.lean, 'card_holds'). Laid BY PROGRAM, IN A SANDBOX (cutbox-door.mjs). By AI agents, Wed Nov 11 2026. No macro, syntax, notation, axiom, sorry.
-/
import Derived.Test.YthaimknbmaeomaaGreatDoorRows
import GoSem.ClaimSeven
namespace Go.Proofs.YthaimknbmaeomaaGreatDoor
namespace Rows

/-- THE TIED CARD OF 'chaperonlaw27.MachineKnown'. -/
def machineKnownCard : Claim7 := { stood := { row := machineKnownRow, standIns := [], harness := (true, "112820bd7f7b9a18f005cb6687bb3fcb270f0702fa0bccee78b4431ec7cb7200"), looks := true }, kinds := [], alts := [], laidByText := true, laidKinds := [.data, .data, .data, .data, .listed, .data, .pinned], laidTests := true, laidLooks := .later }
def MachineKnownCardSaid : Prop := Claim7.holds Tryz.pinned (.plain (OpenSpec.ofChange machineKnownSpec)) machineKnownCard

/-- THE SECOND FORM's CARD OF 'chaperonlaw27.MachineKnown'. -/
def machineKnownUptoCard : Claim7 := { stood := { row := machineKnownUptoRow, standIns := [], harness := (true, "112820bd7f7b9a18f005cb6687bb3fcb270f0702fa0bccee78b4431ec7cb7200"), looks := true }, kinds := [], alts := [], laidByText := true, laidKinds := [.data, .data, .data, .data, .listed, .data, .pinned], laidTests := true, laidLooks := .later }
def MachineKnownUptoCardSaid : Prop := Claim7.holds Tryz.pinned (.plain (OpenSpec.upto machineKnownSpec)) machineKnownUptoCard
end Rows
end Go.Proofs.YthaimknbmaeomaaGreatDoor
