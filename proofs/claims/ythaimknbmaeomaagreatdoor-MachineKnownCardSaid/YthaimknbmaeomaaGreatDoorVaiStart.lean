/- How the interpreter begins and what it is asked. -/
import Derived.Test.YthaimknbmaeomaaGreatDoorVaiCore
namespace Go.Proofs.Vai
open Go

/-- Has it come back with 'true'? -/
def isT : Option Out → Bool
  | some (.fin (.returned (.bool b)) _ _) => b
  | _ => false

noncomputable def setTrB : List ABlk → Nat → Tr ABlk → Tr ABlk
  | [], _, t => t
  | b :: bs, n, t => setTrB bs (n + 1) (t.set (pos n) b)
/-- The state when the call begins: the variables' blocks, one by one. -/
noncomputable def vstart (bs : List ABlk) : St := ⟨setTrB bs 0 .nil, pos bs.length⟩
/-- The rows that the arguments lie over; the arguments, over these rows, from number k on. -/
noncomputable def rowsOf (ps : List PArg) : List ABlk :=
  @List.rec PArg (fun _ => List ABlk) [] (fun p _ ih => @PArg.rec (fun _ => List ABlk) (fun _ => ih) (fun _ l => .cells false 0 l.length (.of l) :: ih) p) ps
noncomputable def argsOf (ps : List PArg) : Nat → List AV :=
  @List.rec PArg (fun _ => Nat → List AV) (fun _ => []) (fun p _ ih k => @PArg.rec (fun _ => List AV) (fun v => v :: ih k) (fun n _ => .slice (pos k) 0 n false false :: ih (Nat.succ k)) p) ps
/-- Has it come back with v? -/
noncomputable def isFlat (v : AV) (o : Option Out) : Bool :=
  match o with
  | some (.fin (.returned v') _ _) => eqAV 6 v' v
  | _ => false
/-- Has it come back with a pointer to a new row of just these cells? -/
noncomputable def isRow (t : TypeId) (l : List AV) (o : Option Out) : Bool :=
  match o with
  | some (.fin (.returned (.ptr b 0)) _ s) => (match s.h.get b with
    | some (.cells true t' len c) => Nat.beq t' t && Nat.beq len l.length && (match c.sub 0 len with | some l' => eqL (eqAV 6) l' l | none => false)
    | _ => false)
  | _ => false
end Go.Proofs.Vai
