/- No function of the program starts a goroutine. No condition. -/
import Derived.Test.YtgfhbomiljhjpaaGreatDoorRows
import GoSem.ClaimSeven
namespace Go.Proofs.YtgfhbomiljhjpaaGreatDoor
open Go
theorem goes_none {P : Program} (h : P.funcs.toList.any Func.goes = false) (f : FuncId) : P.goes f = false := by
  have hg : ∀ g : FuncId, (P.funcs[g]?).any Func.goes = false := fun g => by
    cases hf : P.funcs[g]? with
    | none => rfl
    | some fn => exact Bool.eq_false_iff.2 (List.any_eq_false.1 h fn (by have := Array.mem_of_getElem? hf; simpa using this))
  unfold Program.goes
  rw [Bool.or_eq_false_iff]
  refine ⟨?_, ?_⟩
  · rw [Bool.eq_false_iff]
    intro h1
    simp only [hg] at h1
    simp at h1
  · rw [← Array.any_toList, h, Bool.and_false]
theorem noGo : Tryz.pinned.checked.prog.funcs.toList.any Func.goes = false := by kernel_rfl
theorem cf2 : false = Rows.verifyDeadRow.goesBy Tryz.pinned.checked.prog := by
  unfold OpenClaim.goesBy Program.goesAt Program.goesFrom
  cases hf : Tryz.pinned.checked.prog.funcNamed Rows.verifyDeadRow.func with
  | none => rfl
  | some f => simp only [Option.any_some, goes_none noGo]; rfl
end Go.Proofs.YtgfhbomiljhjpaaGreatDoor
