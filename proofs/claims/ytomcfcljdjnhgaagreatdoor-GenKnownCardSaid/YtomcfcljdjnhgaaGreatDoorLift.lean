/- The law GenKnown answers true: its row, lifted (conditions: the row's own: the listed variables begin as the program's text lays them). -/
import Derived.Test.YtomcfcljdjnhgaaGreatDoorRan
import Derived.Test.YtomcfcljdjnhgaaGreatDoorKnown
import Derived.Test.YtomcfcljdjnhgaaGreatDoorRows
namespace Go.Proofs.YtomcfcljdjnhgaaGreatDoor
open Go Go.Proofs.Vai Go.ChangeShapes Go.WideShapes Go.ChangeAt Go.RowKit
theorem own : ownKnob Tryz.prog.godebug = none := by kernel_rfl
theorem block2 {W : World} (h : laidMetH Tryz.prog Rows.genKnownRow.laid W) : holdsB W 2 (.cells false 0 256 (.of (tab2.map fun z => .int .u8 z))) :=
  tab_holds (name := "strings.asciiSpace") (t := 325) (e := 5) (n := 256) h (by rw [show (Lib.tabData .u8 tab2 : DataW Unit) = Rows.laid_strings_asciiSpace by kernel_rfl]; simp [Rows.genKnownRow]) (by kernel_rfl) (by kernel_rfl) (by kernel_rfl) (by kernel_rfl) (by kernel_rfl) (by kernel_rfl) (by kernel_rfl) 0
theorem handle {W : World} (h : laidMetH Tryz.prog Rows.genKnownRow.laid W) : W.cell? ⟨0, 0, none⟩ = some (.iface 224 (.agg #[.pointer (some ⟨8, 100, none⟩)])) := by
  have := handle_cell (name := "errors.errorType") (d := .iface "internal/reflectlite.rtype" (.agg [.ptr (.lit (.string [101, 114, 114, 111, 114]))])) h (by simp [Rows.genKnownRow, Rows.laid_errors_errorType]) rfl rfl (g := 0) (u := 224) (ty := 100) (by kernel_rfl) (by kernel_rfl) (by kernel_rfl)
  rwa [show typeHandle Tryz.prog 100 = .pointer (some ⟨8, 100, none⟩) by kernel_rfl] at this
theorem calls (W : World) (ho : W.ShapedOpen Tryz.prog) (h : laidMetH Tryz.prog Rows.genKnownRow.laid W) : Calls Tryz.prog 4 #[] W fun e w' => e = .returned (.bool true) ∧ Below W.heap.size W w' := by
  refine calls_true (us := []) noNum baseOK orcOK ran ⟨⟨Nat.le_trans (Nat.le_of_eq (show blocks.length = Tryz.prog.globals.size by kernel_rfl)) (open_size ho (by kernel_rfl)), fun g blk hb => ?_⟩, handle h⟩ .nil
  unfold blocks at hb
  match g, hb with
  | 0, hb => cases hb; exact none_holds _ _
  | 1, hb => cases hb; exact none_holds _ _
  | 2, hb => cases hb; exact block2 h
  | 3, hb => cases hb; exact none_holds _ _
  | 4, hb => cases hb; exact none_holds _ _
  | 5, hb => cases hb; exact none_holds _ _
  | 6, hb => cases hb; exact none_holds _ _
  | 7, hb => cases hb; exact none_holds _ _
  | g + 8, hb => cases hb
set_option maxRecDepth 100000 in
theorem lifted (os : Os) (started : os.Started) (H : Type) (enc : TypeId × Value → H) :
    ReturnsInHanded {} Tryz.checked os 4 .any (fun w args => (Rows.genKnownSpec.pre enc Tryz.prog Tryz.f4 [] false w args ∧ laidMetH Tryz.prog Rows.genKnownRow.laid w) ∧ sizedMet enc Tryz.prog Tryz.f4 (OpenSpec.ofChange Rows.genKnownSpec) false w args)
      (Rows.genKnownSpec.post enc Tryz.prog Tryz.f4 false true false false) :=
  lifted_of (C := Tryz.checked) (t := 4) own started (by kernel_rfl) Tryz.func4 (by kernel_rfl) (by kernel_rfl) (by kernel_rfl) rfl (fun _ => rfl)
    (ChangeSpec.witness_shaped (enc := enc) (C := Tryz.checked) (os := os) (X := fun w _ => laidMetH Tryz.prog Rows.genKnownRow.laid w) false (handW Tryz.prog os Rows.genKnownRow.laid 0 (.iface 224 (.agg #[typeHandle Tryz.prog 100]))) #[] 8 (handW_os _ _ _ _ _)
      (World.shaped_of_ZipB (by kernel_rfl) (by kernel_rfl)) (by kernel_rfl) (by kernel_rfl) (by kernel_rfl)
      (laidMetH_handW _ (by kernel_rfl) (by kernel_rfl) (by kernel_rfl)))
    calls
end Go.Proofs.YtomcfcljdjnhgaaGreatDoor
