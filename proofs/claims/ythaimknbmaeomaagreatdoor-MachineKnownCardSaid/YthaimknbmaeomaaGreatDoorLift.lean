/- The law MachineKnown answers true: its row, lifted (conditions: the row's own: the listed variables begin as the program's text lays them). -/
import Derived.Test.YthaimknbmaeomaaGreatDoorRan
import Derived.Test.YthaimknbmaeomaaGreatDoorBlocks
import Derived.Test.YthaimknbmaeomaaGreatDoorRan0
import Derived.Test.YthaimknbmaeomaaGreatDoorRan1
import Derived.Test.YthaimknbmaeomaaGreatDoorRan2
import Derived.Test.YthaimknbmaeomaaGreatDoorRan5
import Derived.Test.YthaimknbmaeomaaGreatDoorRan6
import Derived.Test.YthaimknbmaeomaaGreatDoorRan7
import Derived.Test.YthaimknbmaeomaaGreatDoorVaiRow
import Derived.Test.YthaimknbmaeomaaGreatDoorRows
namespace Go.Proofs.YthaimknbmaeomaaGreatDoor
open Go Go.Proofs.Vai Go.ChangeShapes Go.WideShapes Go.ChangeAt Go.RowKit
noncomputable instance : Env := envUnit blocks
theorem own : ownKnob Tryz.prog.godebug = none := by kernel_rfl
theorem noNum : NoNum Tryz.prog := noNum_of (by kernel_rfl)
theorem baseOK : BaseOK Tryz.prog blocks := ⟨rfl, by kernel_rfl, fun _ h => h⟩
theorem known0 : Known Tryz.prog k0 :=
  known_row (k := 4) noNum baseOK (orcOf_ok (fun x hx => absurd hx List.not_mem_nil)) (by kernel_rfl) (by kernel_rfl) (by kernel_rfl) ran0
theorem known1 : Known Tryz.prog k1 :=
  known_flat (k := 4) noNum baseOK (orcOf_ok (fun x hx => by
    simp only [List.mem_cons, List.not_mem_nil, or_false] at hx
    rcases hx with rfl
    · exact known0)) (by kernel_rfl) (by kernel_rfl) ran1
theorem known2 : Known Tryz.prog k2 :=
  known_flat (k := 4) noNum baseOK (orcOf_ok (fun x hx => by
    simp only [List.mem_cons, List.not_mem_nil, or_false] at hx
    rcases hx with rfl
    · exact known0)) (by kernel_rfl) (by kernel_rfl) ran2
theorem known3 : Known Tryz.prog k3 :=
  known_flat (k := 4) noNum baseOK (orcOf_ok (fun x hx => by
    simp only [List.mem_cons, List.not_mem_nil, or_false] at hx
    rcases hx with rfl
    · exact known0)) (by kernel_rfl) (by kernel_rfl) ran3
theorem known4 : Known Tryz.prog k4 :=
  known_flat (k := 4) noNum baseOK (orcOf_ok (fun x hx => by
    simp only [List.mem_cons, List.not_mem_nil, or_false] at hx
    rcases hx with rfl
    · exact known0)) (by kernel_rfl) (by kernel_rfl) ran4
theorem known5 : Known Tryz.prog k5 :=
  known_flat (k := 4) noNum baseOK (orcOf_ok (fun x hx => by
    simp only [List.mem_cons, List.not_mem_nil, or_false] at hx
    rcases hx with rfl
    · exact known0)) (by kernel_rfl) (by kernel_rfl) ran5
theorem known6 : Known Tryz.prog k6 :=
  known_flat (k := 4) noNum baseOK (orcOf_ok (fun x hx => by
    simp only [List.mem_cons, List.not_mem_nil, or_false] at hx
    rcases hx with rfl
    · exact known0)) (by kernel_rfl) (by kernel_rfl) ran6
theorem known7 : Known Tryz.prog k7 :=
  known_flat (k := 4) noNum baseOK (orcOf_ok (fun x hx => by
    simp only [List.mem_cons, List.not_mem_nil, or_false] at hx
    rcases hx with rfl
    · exact known0)) (by kernel_rfl) (by kernel_rfl) ran7
theorem orcOK : OrcOK Tryz.prog (orcOf [k0, k1, k2, k3, k4, k5, k6, k7]) := orcOf_ok (fun x hx => by
    simp only [List.mem_cons, List.not_mem_nil, or_false] at hx
    rcases hx with rfl | rfl | rfl | rfl | rfl | rfl | rfl | rfl
    · exact known0
    · exact known1
    · exact known2
    · exact known3
    · exact known4
    · exact known5
    · exact known6
    · exact known7)
theorem block0 {W : World} (h : laidMetH Tryz.prog Rows.machineKnownRow.laid W) : holdsB W 0 (.cells false 0 256 (.of (tab0.map fun z => .int .u8 z))) :=
  tab_holds (name := "strings.asciiSpace") (t := 297) (e := 5) (n := 256) h (by kernel_rfl) (by rw [show (Lib.tabData .u8 tab0 : DataW Unit) = Rows.laid_strings_asciiSpace by kernel_rfl]; simp [Rows.machineKnownRow]) (by kernel_rfl) (by kernel_rfl) (by kernel_rfl) (by kernel_rfl) (by kernel_rfl) (by kernel_rfl) (by kernel_rfl) 0
theorem calls (W : World) (ho : W.ShapedOpen Tryz.prog) (h : laidMetH Tryz.prog Rows.machineKnownRow.laid W) : Calls Tryz.prog 3 #[] W fun e w' => e = .returned (.bool true) ∧ Below W.heap.size W w' := by
  refine calls_true (us := []) noNum baseOK orcOK ran ⟨Nat.le_trans (Nat.le_of_eq (show blocks.length = Tryz.prog.globals.size by kernel_rfl)) (open_size ho (by kernel_rfl)), fun g blk hb => ?_⟩ .nil
  unfold blocks at hb
  match g, hb with
  | 0, hb => cases hb; exact block0 h
  | 1, hb => cases hb; exact none_holds _ _
  | 2, hb => cases hb; exact none_holds _ _
  | 3, hb => cases hb; exact none_holds _ _
  | 4, hb => cases hb; exact none_holds _ _
  | 5, hb => cases hb; exact none_holds _ _
  | 6, hb => cases hb; exact none_holds _ _
  | 7, hb => cases hb; exact none_holds _ _
  | 8, hb => cases hb; exact none_holds _ _
  | 9, hb => cases hb; exact none_holds _ _
  | g + 10, hb => cases hb
set_option maxRecDepth 100000 in
theorem lifted (os : Os) (started : os.Started) (H : Type) (enc : TypeId × Value → H) :
    ReturnsInHanded {} Tryz.checked os 3 .any (fun w args => (Rows.machineKnownSpec.pre enc Tryz.prog Tryz.f3 [] false w args ∧ laidMetH Tryz.prog Rows.machineKnownRow.laid w) ∧ sizedMet enc Tryz.prog Tryz.f3 (OpenSpec.ofChange Rows.machineKnownSpec) false w args)
      (Rows.machineKnownSpec.post enc Tryz.prog Tryz.f3 false true false false) :=
  lifted_of (C := Tryz.checked) (t := 4) own started (by kernel_rfl) Tryz.func3 (by kernel_rfl) (by kernel_rfl) (by kernel_rfl) rfl (fun _ => rfl)
    (ChangeSpec.witness_shaped (enc := enc) (C := Tryz.checked) (os := os) (X := fun w _ => laidMetH Tryz.prog Rows.machineKnownRow.laid w) false (World.laidAll Tryz.prog os Rows.machineKnownRow.laid) #[] 8 (World.laidAll_os _ _ _)
      (World.shaped_of_ZipB (by kernel_rfl) (by kernel_rfl)) (by kernel_rfl) (by kernel_rfl) (by kernel_rfl)
      (by rw [MakeChecks.laidMetH_plain _ _ _ (by kernel_rfl)]; exact laidMet_laidAll _ (by kernel_rfl) (by kernel_rfl)))
    calls
end Go.Proofs.YthaimknbmaeomaaGreatDoor
