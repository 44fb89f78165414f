/- A closed fact of the row: its cell named is what the program forces. No condition. -/
import Derived.Test.YtomcfcljdjnhgaaGreatDoorRows
namespace Go.Proofs.YtomcfcljdjnhgaaGreatDoor
open Go
theorem jf4 : (Rows.genKnownRow.named == Tryz.pinned.checked.prog.varsNamed 4) = true := by kernel_rfl
end Go.Proofs.YtomcfcljdjnhgaaGreatDoor
