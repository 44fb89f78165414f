/- The law ElabKnown answers true: its row, and the tied card (conditions: the row's own: the listed variables begin as the program's text lays them). -/
import Derived.Test.YtaccpglmmnhjkaaGreatDoorRan
import Derived.Test.YtaccpglmmnhjkaaGreatDoorBlocks
import Derived.Test.YtaccpglmmnhjkaaGreatDoorRan0
import Derived.Test.YtaccpglmmnhjkaaGreatDoorRan1
import Derived.Test.YtaccpglmmnhjkaaGreatDoorVaiRow
import Derived.Test.YtaccpglmmnhjkaaGreatDoorTie
import Derived.Test.YtaccpglmmnhjkaaGreatDoorCards
namespace Go.Proofs.YtaccpglmmnhjkaaGreatDoor
open Go Go.Proofs.Vai Go.ChangeShapes Go.WideShapes Go.ChangeAt Go.RowKit
noncomputable instance : Env := envUnit blocks
theorem own : ownKnob Tryz.prog.godebug = none := by kernel_rfl
theorem noNum : NoNum Tryz.prog := noNum_of (by kernel_rfl)
theorem baseOK : BaseOK Tryz.prog blocks := ⟨rfl, by kernel_rfl, fun _ h => h⟩
theorem known0 : Known Tryz.prog k0 :=
  known_row (k := 4) noNum baseOK (orcOf_ok (fun x hx => absurd hx List.not_mem_nil)) (by kernel_rfl) (by kernel_rfl) (by kernel_rfl) ran0
theorem known1 : Known Tryz.prog k1 :=
  known_flat (k := 4) noNum baseOK (orcOf_ok (fun x hx => by
    simp only [List.mem_cons, List.not_mem_nil, or_false] at hx
    rcases hx with rfl
    · exact known0)) (by kernel_rfl) (by kernel_rfl) ran1
theorem orcOK : OrcOK Tryz.prog (orcOf [k0, k1]) := orcOf_ok (fun x hx => by
    simp only [List.mem_cons, List.not_mem_nil, or_false] at hx
    rcases hx with rfl | rfl
    · exact known0
    · exact known1)
theorem block0 {W : World} (h : laidMetH Tryz.prog Rows.elabKnownRow.laid W) : holdsB W 0 (.cells false 0 256 (.of (tab0.map fun z => .int .u8 z))) :=
  tab_holds (name := "strings.asciiSpace") (t := 201) (e := 5) (n := 256) h (by kernel_rfl) (by rw [show (Lib.tabData .u8 tab0 : DataW Unit) = Rows.laid_strings_asciiSpace by kernel_rfl]; simp [Rows.elabKnownRow]) (by kernel_rfl) (by kernel_rfl) (by kernel_rfl) (by kernel_rfl) (by kernel_rfl) (by kernel_rfl) (by kernel_rfl) 0
theorem calls (W : World) (ho : W.ShapedOpen Tryz.prog) (h : laidMetH Tryz.prog Rows.elabKnownRow.laid W) : Calls Tryz.prog 3 #[] W fun e w' => e = .returned (.bool true) ∧ Below W.heap.size W w' := by
  refine calls_true (us := []) noNum baseOK orcOK ran ⟨Nat.le_trans (Nat.le_of_eq (show blocks.length = Tryz.prog.globals.size by kernel_rfl)) (open_size ho (by kernel_rfl)), fun g blk hb => ?_⟩ .nil
  unfold blocks at hb
  match g, hb with
  | 0, hb => cases hb; exact block0 h
  | 1, hb => cases hb; exact none_holds _ _
  | 2, hb => cases hb; exact none_holds _ _
  | 3, hb => cases hb; exact none_holds _ _
  | 4, hb => cases hb; exact none_holds _ _
  | 5, hb => cases hb; exact none_holds _ _
  | 6, hb => cases hb; exact none_holds _ _
  | g + 7, hb => cases hb
set_option maxRecDepth 100000 in
theorem lifted (os : Os) (started : os.Started) (H : Type) (enc : TypeId × Value → H) :
    ReturnsInHanded {} Tryz.checked os 3 .any (fun w args => (Rows.elabKnownSpec.pre enc Tryz.prog Tryz.f3 [] false w args ∧ laidMetH Tryz.prog Rows.elabKnownRow.laid w) ∧ sizedMet enc Tryz.prog Tryz.f3 (OpenSpec.ofChange Rows.elabKnownSpec) false w args)
      (Rows.elabKnownSpec.post enc Tryz.prog Tryz.f3 false true false false) :=
  lifted_of (C := Tryz.checked) (t := 4) own started (by kernel_rfl) Tryz.func3 (by kernel_rfl) (by kernel_rfl) (by kernel_rfl) rfl (fun _ => rfl)
    (ChangeSpec.witness_shaped (enc := enc) (C := Tryz.checked) (os := os) (X := fun w _ => laidMetH Tryz.prog Rows.elabKnownRow.laid w) false (World.laidAll Tryz.prog os Rows.elabKnownRow.laid) #[] 8 (World.laidAll_os _ _ _)
      (World.shaped_of_ZipB (by kernel_rfl) (by kernel_rfl)) (by kernel_rfl) (by kernel_rfl) (by kernel_rfl)
      (by rw [MakeChecks.laidMetH_plain _ _ _ (by kernel_rfl)]; exact laidMet_laidAll _ (by kernel_rfl) (by kernel_rfl)))
    calls
theorem holds : Rows.ElabKnownSaid :=
  OpenClaim.holds_of_wide 3 Tryz.f3 rfl rfl rfl rfl rfl rfl rfl ⟨rfl, rfl, rfl, rfl, rfl⟩ rfl rfl rfl rfl rfl (by kernel_rfl) Tryz.func3 (by kernel_rfl)
    (of_decide_eq_true (by kernel_rfl)) (by unfold Func.isWrapper; first | (rw [if_pos (by decide +kernel)]; kernel_rfl) | (rw [if_neg (by decide +kernel)]; exact ⟨rfl, rfl⟩))
    (fun os started H enc _ => lifted os started H enc)
theorem card_holds : Rows.ElabKnownCardSaid :=
  Claim7.holds_tied_plain_at .later [] [.data, .listed, .data, .pinned] true (true, "001581e6b3f267a734c23a8f5e9a9a9fef06034da4eff3278a0f89688b61fb5f") true holds (fun _ h => by cases h) (by kernel_rfl) (fun _ h => by cases h) elabKnown_row_tie rfl ⟨rfl, rfl⟩ (by kernel_rfl) rfl
    (fun f fn hf hfn => by
      obtain rfl : f = 3 := Option.some.inj ((show Tryz.prog.funcNamed "chaperon/chaperonlaw17.ElabKnown" = some 3 by kernel_rfl).symm.trans hf) |>.symm
      obtain rfl : fn = Tryz.f3 := (Option.some.inj (Tryz.func3.symm.trans hfn)).symm
      exact ⟨by kernel_rfl, fun j t ht => by
        rw [show Tryz.f3.params = #[] by kernel_rfl] at ht
        simp at ht⟩)
    (by kernel_rfl)
end Go.Proofs.YtaccpglmmnhjkaaGreatDoor
