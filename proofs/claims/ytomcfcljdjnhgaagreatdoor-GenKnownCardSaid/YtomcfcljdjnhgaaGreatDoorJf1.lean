/- A closed fact of the row: its cell inPlace is what the program forces. No condition. -/
import Derived.Test.YtomcfcljdjnhgaaGreatDoorRows
namespace Go.Proofs.YtomcfcljdjnhgaaGreatDoor
open Go
theorem jf1 : (Rows.genKnownRow.inPlace == Tryz.pinned.checked.prog.inPlace 4) = true := by kernel_rfl
end Go.Proofs.YtomcfcljdjnhgaaGreatDoor
