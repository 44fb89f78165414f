/- A closed fact of the row: its cell inPlace is what the program forces. -/
import Derived.Test.YthaimknbmaeomaaGreatDoorRows
namespace Go.Proofs.YthaimknbmaeomaaGreatDoor
open Go
theorem jf1 : (Rows.machineKnownRow.inPlace == Tryz.pinned.checked.prog.inPlace 3) = true := by kernel_rfl
end Go.Proofs.YthaimknbmaeomaaGreatDoor
