/- A closed fact of the row: its cell recurses is what the program forces. -/
import Derived.Test.YthaimknbmaeomaaGreatDoorRows
namespace Go.Proofs.YthaimknbmaeomaaGreatDoor
open Go
theorem jf3 : (Rows.machineKnownRow.recurses == Tryz.pinned.checked.prog.recurses 3) = true := by kernel_rfl
end Go.Proofs.YthaimknbmaeomaaGreatDoor
