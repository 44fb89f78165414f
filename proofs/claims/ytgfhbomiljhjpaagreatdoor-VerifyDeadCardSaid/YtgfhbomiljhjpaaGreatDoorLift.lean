/- The law VerifyDead answers true: its row, lifted (conditions: the row's own: the listed variables begin as the program's text lays them). -/
import Derived.Test.YtgfhbomiljhjpaaGreatDoorLD
import Derived.Test.YtgfhbomiljhjpaaGreatDoorRows
namespace Go.Proofs.YtgfhbomiljhjpaaGreatDoor
open Go Go.Proofs.Sai Go.ChangeShapes Go.WideShapes Go.ChangeAt Go.RowKit
theorem own : ownKnob Tryz.prog.godebug = none := by kernel_rfl
theorem block0 {W : World} (h : laidMetH Tryz.prog Rows.verifyDeadRow.laid W) : y5 W 0 (.cells false 0 256 (.of (P1.map fun z => .int .u8 z))) :=
  Hx (name := "strings.asciiSpace") (t := 243) (e := 5) (n := 256) h (by rw [show (Lib.tabData .u8 P1 : DataW Unit) = Rows.laid_strings_asciiSpace by kernel_rfl]; simp [Rows.verifyDeadRow]) (by kernel_rfl) (by kernel_rfl) (by kernel_rfl) (by kernel_rfl) (by kernel_rfl) (by kernel_rfl) (by kernel_rfl) 0
theorem base (W : World) (ho : W.ShapedOpen Tryz.prog) (h : laidMetH Tryz.prog Rows.verifyDeadRow.laid W) : ke bs W := by
  refine ⟨Nat.le_trans (Nat.le_of_eq (show bs.length = Tryz.prog.globals.size by kernel_rfl)) (Hw ho (by kernel_rfl)), fun g bU hb => ?_⟩
  unfold bs at hb
  match g, hb with
  | 0, hb => cases hb; exact block0 h
  | 1, hb => cases hb; exact i7 _ _
  | 2, hb => cases hb; exact i7 _ _
  | 3, hb => cases hb; exact i7 _ _
  | 4, hb => cases hb; exact i7 _ _
  | 5, hb => cases hb; exact i7 _ _
  | g + 6, hb => cases hb
theorem pars : Tryz.f5.params = #[27, 3, 45] := by kernel_rfl
set_option maxRecDepth 20000 in
attribute [local irreducible] Tryz.prog in
theorem calls (W : World) (base0 : Nat) (args : Array Value) {H : Type} {enc : TypeId × Value → H} (ds : List (DataW H)) (p : List MemPlace) (ho : W.ShapedOpen Tryz.prog) (h : laidMetH Tryz.prog Rows.verifyDeadRow.laid W)
    (hok : ∀ (j : Nat) t v, Tryz.f5.params[j]? = some t → args[j]? = some v → Value.okWide Tryz.prog W .any base0 t v) (hA : DataW.TrodAll enc Tryz.prog W 0 (fun _ => true) true Tryz.f5.params.toList args.toList ds p) (hS : ∀ (j : Nat) (t : TypeId) (d : DataW H), Tryz.f5.params.toList[j]? = some t → ds[j]? = some d → ∀ n ∈ d.weights Tryz.prog t, n ≤ reachBytes) :
    Calls Tryz.prog 5 args W fun e w' => e = .returned (.bool true) ∧ Below W.heap.size W w' := by
  rw [pars] at hok hA hS
  exact EA (base W ho h) hok hA hS
set_option maxRecDepth 100000 in
theorem lifted (os : Os) (started : os.Started) (H : Type) (enc : TypeId × Value → H) :
    ReturnsInHanded {} Tryz.checked os 5 .any (fun w args => (Rows.verifyDeadSpec.pre enc Tryz.prog Tryz.f5 [] false w args ∧ laidMetH Tryz.prog Rows.verifyDeadRow.laid w) ∧ sizedMet enc Tryz.prog Tryz.f5 (OpenSpec.ofChange Rows.verifyDeadSpec) false w args)
      (Rows.verifyDeadSpec.post enc Tryz.prog Tryz.f5 false true false false) :=
  Co (C := Tryz.checked) (t := 4) own started (by kernel_rfl) Tryz.func5 (by kernel_rfl) (by kernel_rfl) (by kernel_rfl) (by kernel_rfl) rfl (fun _ ds h => by match ds, (h.trans (by kernel_rfl) : ds.length = 3) with | [d, e, f], _ => rfl)
    (ChangeSpec.witness_shaped (enc := enc) (C := Tryz.checked) (os := os) (X := fun w _ => laidMetH Tryz.prog Rows.verifyDeadRow.laid w) false (World.laidAll Tryz.prog os Rows.verifyDeadRow.laid) #[.agg #[.slice none 0 0, .slice none 0 0, .slice none 0 0, .slice none 0 0], .int .i64 0, .slice none 0 0] 8 (World.laidAll_os _ _ _)
      (World.shaped_of_ZipB (by kernel_rfl) (by kernel_rfl)) (by kernel_rfl) (by kernel_rfl) (by kernel_rfl)
      (by rw [MakeChecks.laidMetH_plain _ _ _ (by kernel_rfl)]; exact laidMet_laidAll _ (by kernel_rfl) (by kernel_rfl)))
    fun W base0 args ds p ho h hok hA hS => calls W base0 args ds p ho h hok hA hS
end Go.Proofs.YtgfhbomiljhjpaaGreatDoor
