/- The law WatchKnown answers true: its row, lifted (conditions: the row's own: the listed variables begin as the program's text lays them). -/
import Derived.Test.YtmlmbfkfkkbdmaaGreatDoorRan
import Derived.Test.YtmlmbfkfkkbdmaaGreatDoorBlocks
import Derived.Test.YtmlmbfkfkkbdmaaGreatDoorVaiG
import Derived.Test.YtmlmbfkfkkbdmaaGreatDoorRows
namespace Go.Proofs.YtmlmbfkfkkbdmaaGreatDoor
open Go Go.Proofs.Vai Go.ChangeShapes Go.WideShapes Go.ChangeAt Go.RowKit
noncomputable instance : Env := envUnit blocks
theorem own : ownKnob Tryz.prog.godebug = none := by kernel_rfl
theorem noNum : NoNum Tryz.prog := noNum_of (by kernel_rfl)
theorem baseOK : BaseOK Tryz.prog blocks := ⟨rfl, by kernel_rfl, fun _ h => h⟩
theorem orcOK : OrcOK Tryz.prog (orcOf []) := orcOf_ok (fun x hx => absurd hx List.not_mem_nil)
theorem block0 {W : World} (h : laidMetH Tryz.prog Rows.watchKnownRow.laid W) : holdsB W 0 (.cells false 0 256 (.of (tab0.map fun z => .int .u8 z))) :=
  tab_holds (name := "strings.asciiSpace") (t := 311) (e := 5) (n := 256) h (by kernel_rfl) (by rw [show (Lib.tabData .u8 tab0 : DataW Unit) = Rows.laid_strings_asciiSpace by kernel_rfl]; simp [Rows.watchKnownRow]) (by kernel_rfl) (by kernel_rfl) (by kernel_rfl) (by kernel_rfl) (by kernel_rfl) (by kernel_rfl) (by kernel_rfl) 0
theorem calls (W : World) (ho : W.ShapedOpen Tryz.prog) (h : laidMetH Tryz.prog Rows.watchKnownRow.laid W) : Calls Tryz.prog 3 #[] W fun e w' => e = .returned (.bool true) ∧ Below W.heap.size W w' := by
  refine calls_true (us := []) noNum baseOK orcOK ran ⟨Nat.le_trans (Nat.le_of_eq (show blocks.length = Tryz.prog.globals.size by kernel_rfl)) (open_size ho (by kernel_rfl)), fun g blk hb => ?_⟩ .nil
  unfold blocks at hb
  match g, hb with
  | 0, hb => cases hb; exact block0 h
  | 1, hb => cases hb; exact none_holds _ _
  | 2, hb => cases hb; exact none_holds _ _
  | 3, hb => cases hb; exact none_holds _ _
  | 4, hb => cases hb; exact none_holds _ _
  | 5, hb => cases hb; exact none_holds _ _
  | 6, hb => cases hb; exact none_holds _ _
  | 7, hb => cases hb; exact none_holds _ _
  | 8, hb => cases hb; exact none_holds _ _
  | 9, hb => cases hb; exact none_holds _ _
  | g + 10, hb => cases hb
set_option maxRecDepth 100000 in
theorem lifted (os : Os) (started : os.Started) (H : Type) (enc : TypeId × Value → H) :
    ReturnsInHanded {} Tryz.checked os 3 .any (fun w args => (Rows.watchKnownSpec.pre enc Tryz.prog Tryz.f3 [] false w args ∧ laidMetH Tryz.prog Rows.watchKnownRow.laid w) ∧ sizedMet enc Tryz.prog Tryz.f3 (OpenSpec.ofChange Rows.watchKnownSpec) false w args)
      (Rows.watchKnownSpec.post enc Tryz.prog Tryz.f3 false true false false) :=
  lifted_of (C := Tryz.checked) (t := 4) own started (by kernel_rfl) Tryz.func3 (by kernel_rfl) (by kernel_rfl) (by kernel_rfl) rfl (fun _ => rfl)
    (ChangeSpec.witness_shaped (enc := enc) (C := Tryz.checked) (os := os) (X := fun w _ => laidMetH Tryz.prog Rows.watchKnownRow.laid w) false (World.laidAll Tryz.prog os Rows.watchKnownRow.laid) #[] 8 (World.laidAll_os _ _ _)
      (World.shaped_of_ZipB (by kernel_rfl) (by kernel_rfl)) (by kernel_rfl) (by kernel_rfl) (by kernel_rfl)
      (by rw [MakeChecks.laidMetH_plain _ _ _ (by kernel_rfl)]; exact laidMet_laidAll _ (by kernel_rfl) (by kernel_rfl)))
    calls
end Go.Proofs.YtmlmbfkfkkbdmaaGreatDoor
