/-
  DERIVED. GIVEN WITH THE SEED: THE CARDS: each row of YtomcfcljdjnhgaaGreatDoorRows.lean that lists a variable, with what it lists TIED to the program's text (the seventh form; the later family's looks); each row that meets fmt, with fmt's text TOLD by the authors' own Lean function (tested against real Go, not proved from fmt's source: count such statements apart). THE CARD IS WHAT COUNTS. Prove the row's statement (the work); the ties are given (YtomcfcljdjnhgaaGreatDoorTie.lean); close each card by the builder's one call (the guide's Derived/Test/ToyasCard.lean, 'card_holds'). Laid BY PROGRAM, IN A SANDBOX (cutbox-door.mjs). By AI agents, Wed Nov 11 2026. No macro, syntax, notation, axiom, sorry.
-/
import Derived.Test.YtomcfcljdjnhgaaGreatDoorRows
import GoSem.ClaimSeven
namespace Go.Proofs.YtomcfcljdjnhgaaGreatDoor
namespace Rows

/-- THE TIED CARD OF 'chaperonlaw18.TypedKnown'. -/
def typedKnownCard : Claim7 := { stood := { row := typedKnownRow, standIns := [], harness := (true, "74577142c74e218da00ae51847c9ed014117ed1eb3a4d2379e9612b0632a9491"), looks := true }, kinds := [], alts := [], laidByText := true, laidKinds := [.data, .handle, .listed, .data, .pinned], laidTests := true, laidLooks := .later }
def TypedKnownCardSaid : Prop := Claim7.holds Tryz.pinned (.plain (OpenSpec.ofChange typedKnownSpec)) typedKnownCard

/-- THE TIED CARD OF 'chaperonlaw23.GenKnown'. -/
def genKnownCard : Claim7 := { stood := { row := genKnownRow, standIns := [], harness := (true, "74577142c74e218da00ae51847c9ed014117ed1eb3a4d2379e9612b0632a9491"), looks := true }, kinds := [], alts := [], laidByText := true, laidKinds := [.data, .handle, .listed, .data, .pinned], laidTests := true, laidLooks := .later }
def GenKnownCardSaid : Prop := Claim7.holds Tryz.pinned (.plain (OpenSpec.ofChange genKnownSpec)) genKnownCard

/-- THE SECOND FORM's CARD OF 'chaperonlaw18.TypedKnown'. -/
def typedKnownUptoCard : Claim7 := { stood := { row := typedKnownUptoRow, standIns := [], harness := (true, "74577142c74e218da00ae51847c9ed014117ed1eb3a4d2379e9612b0632a9491"), looks := true }, kinds := [], alts := [], laidByText := true, laidKinds := [.data, .handle, .listed, .data, .pinned], laidTests := true, laidLooks := .later }
def TypedKnownUptoCardSaid : Prop := Claim7.holds Tryz.pinned (.plain (OpenSpec.upto typedKnownSpec)) typedKnownUptoCard

/-- THE SECOND FORM's CARD OF 'chaperonlaw23.GenKnown'. -/
def genKnownUptoCard : Claim7 := { stood := { row := genKnownUptoRow, standIns := [], harness := (true, "74577142c74e218da00ae51847c9ed014117ed1eb3a4d2379e9612b0632a9491"), looks := true }, kinds := [], alts := [], laidByText := true, laidKinds := [.data, .handle, .listed, .data, .pinned], laidTests := true, laidLooks := .later }
def GenKnownUptoCardSaid : Prop := Claim7.holds Tryz.pinned (.plain (OpenSpec.upto genKnownSpec)) genKnownUptoCard
end Rows
end Go.Proofs.YtomcfcljdjnhgaaGreatDoor
