/- A closed fact of the row: its cell named is what the program forces. -/
import Derived.Test.YthaimknbmaeomaaGreatDoorRows
namespace Go.Proofs.YthaimknbmaeomaaGreatDoor
open Go
theorem jf4 : (Rows.machineKnownRow.named == Tryz.pinned.checked.prog.varsNamed 3) = true := by kernel_rfl
end Go.Proofs.YthaimknbmaeomaaGreatDoor
