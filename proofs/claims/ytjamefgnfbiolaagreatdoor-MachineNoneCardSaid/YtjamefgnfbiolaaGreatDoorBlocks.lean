/- What the variables hold when the call begins. -/
import Derived.Test.YtjamefgnfbiolaaGreatDoorVaiA
import Derived.Test.YtjamefgnfbiolaaGreatDoorProg
import Derived.KernelRfl
namespace Go.Proofs.YtjamefgnfbiolaaGreatDoor
open Go Go.Proofs.Vai
def tab0 : List Int := [0, 0, 0, 0, 0, 0, 0, 0, 0, 1, 1, 1, 1, 1, 0, 0, 0, 0, 0, 0, 0, 0, 0, 0, 0, 0, 0, 0, 0, 0, 0, 0, 1, 0, 0, 0, 0, 0, 0, 0, 0, 0, 0, 0, 0, 0, 0, 0, 0, 0, 0, 0, 0, 0, 0, 0, 0, 0, 0, 0, 0, 0, 0, 0, 0, 0, 0, 0, 0, 0, 0, 0, 0, 0, 0, 0, 0, 0, 0, 0, 0, 0, 0, 0, 0, 0, 0, 0, 0, 0, 0, 0, 0, 0, 0, 0, 0, 0, 0, 0, 0, 0, 0, 0, 0, 0, 0, 0, 0, 0, 0, 0, 0, 0, 0, 0, 0, 0, 0, 0, 0, 0, 0, 0, 0, 0, 0, 0, 0, 0, 0, 0, 0, 0, 0, 0, 0, 0, 0, 0, 0, 0, 0, 0, 0, 0, 0, 0, 0, 0, 0, 0, 0, 0, 0, 0, 0, 0, 0, 0, 0, 0, 0, 0, 0, 0, 0, 0, 0, 0, 0, 0, 0, 0, 0, 0, 0, 0, 0, 0, 0, 0, 0, 0, 0, 0, 0, 0, 0, 0, 0, 0, 0, 0, 0, 0, 0, 0, 0, 0, 0, 0, 0, 0, 0, 0, 0, 0, 0, 0, 0, 0, 0, 0, 0, 0, 0, 0, 0, 0, 0, 0, 0, 0, 0, 0, 0, 0, 0, 0, 0, 0, 0, 0, 0, 0, 0, 0, 0, 0, 0, 0, 0, 0, 0, 0, 0, 0, 0, 0, 0, 0, 0, 0, 0, 0]
noncomputable def blocks : List ABlk := [.cells false 0 256 (.of (tab0.map fun z => .int .u8 z)), .cells false 0 0 (.few []), .cells false 0 0 (.few []), .cells false 0 0 (.few []), .cells false 0 0 (.few []), .cells false 0 0 (.few []), .cells false 0 0 (.few []), .cells false 0 0 (.few []), .cells false 0 0 (.few []), .cells false 0 0 (.few [])]
end Go.Proofs.YtjamefgnfbiolaaGreatDoor
