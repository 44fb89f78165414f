/- How the interpreter begins and what it is asked. -/
import Derived.Test.YtchmlndkbpgenaaGreatDoorVaiCore
namespace Go.Proofs.Vai
open Go

/-- Has it come back with 'true'? -/
def isT : Option Out → Bool
  | some (.fin (.returned (.bool b)) _ _) => b
  | _ => false

/-- The state when the call begins: the variables' blocks, one by one. -/
noncomputable def vstart (bs : List ABlk) : St := ⟨setTrB bs .nil 0, pos bs.length⟩
where
  setTrB : List ABlk → Tr ABlk → Nat → Tr ABlk
    | [], t, _ => t
    | b :: bs, t, n => setTrB bs (t.set (pos n) b) (n + 1)
end Go.Proofs.Vai
