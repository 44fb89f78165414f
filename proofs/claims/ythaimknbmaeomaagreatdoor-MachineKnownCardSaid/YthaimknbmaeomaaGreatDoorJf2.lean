/- A closed fact of the row: its cell unfollowed is what the program forces. -/
import Derived.Test.YthaimknbmaeomaaGreatDoorRows
namespace Go.Proofs.YthaimknbmaeomaaGreatDoor
open Go
theorem jf2 : (Rows.machineKnownRow.unfollowed == Tryz.pinned.checked.prog.unfollowed 3) = true := by kernel_rfl
end Go.Proofs.YthaimknbmaeomaaGreatDoor
