/- The law VerifyKnown answers true: its row, and the tied card (conditions: the row's own: the listed variables begin as the program's text lays them). -/
import Derived.Test.YtchmlndkbpgenaaGreatDoorRan
import Derived.Test.YtchmlndkbpgenaaGreatDoorVaiRow
import Derived.Test.YtchmlndkbpgenaaGreatDoorTie
import Derived.Test.YtchmlndkbpgenaaGreatDoorCards
namespace Go.Proofs.YtchmlndkbpgenaaGreatDoor
open Go Go.Proofs.Vai Go.ChangeShapes Go.WideShapes Go.ChangeAt Go.RowKit
theorem own : ownKnob Tryz.prog.godebug = none := by kernel_rfl
theorem noNum : NoNum Tryz.prog := noNum_of (by kernel_rfl)
theorem block0 {W : World} (h : laidMetH Tryz.prog Rows.verifyKnownRow.laid W) : holdsB W 0 (.cells false 0 256 (.of (tab0.map fun z => .int .u8 z))) :=
  tab_holds (name := "strings.asciiSpace") (t := 236) (e := 5) (n := 256) h (by kernel_rfl) (by rw [show (Lib.tabData .u8 tab0 : DataW Unit) = Rows.laid_strings_asciiSpace by kernel_rfl]; simp [Rows.verifyKnownRow]) (by kernel_rfl) (by kernel_rfl) (by kernel_rfl) (by kernel_rfl) (by kernel_rfl) (by kernel_rfl) (by kernel_rfl) 0
theorem calls (W : World) (ho : W.ShapedOpen Tryz.prog) (h : laidMetH Tryz.prog Rows.verifyKnownRow.laid W) : Calls Tryz.prog 3 #[] W fun e w' => e = .returned (.bool true) ∧ Below W.heap.size W w' := by
  refine calls_true noNum ran (start_sr (bs := blocks) (by kernel_rfl) (open_size ho (by kernel_rfl)) fun g blk hb => ?_)
  unfold blocks at hb
  match g, hb with
  | 0, hb => cases hb; exact block0 h
  | 1, hb => cases hb; exact none_holds _ _
  | 2, hb => cases hb; exact none_holds _ _
  | 3, hb => cases hb; exact none_holds _ _
  | 4, hb => cases hb; exact none_holds _ _
  | 5, hb => cases hb; exact none_holds _ _
  | g + 6, hb => cases hb
set_option maxRecDepth 100000 in
theorem lifted (os : Os) (started : os.Started) (H : Type) (enc : TypeId × Value → H) :
    ReturnsInHanded {} Tryz.checked os 3 .any (fun w args => (Rows.verifyKnownSpec.pre enc Tryz.prog Tryz.f3 [] false w args ∧ laidMetH Tryz.prog Rows.verifyKnownRow.laid w) ∧ sizedMet enc Tryz.prog Tryz.f3 (OpenSpec.ofChange Rows.verifyKnownSpec) false w args)
      (Rows.verifyKnownSpec.post enc Tryz.prog Tryz.f3 false true false false) :=
  lifted_of (C := Tryz.checked) (t := 4) own started (by kernel_rfl) Tryz.func3 (by kernel_rfl) (by kernel_rfl) (by kernel_rfl) rfl (fun _ => rfl)
    (ChangeSpec.witness_shaped (enc := enc) (C := Tryz.checked) (os := os) (X := fun w _ => laidMetH Tryz.prog Rows.verifyKnownRow.laid w) false (World.laidAll Tryz.prog os Rows.verifyKnownRow.laid) #[] 8 (World.laidAll_os _ _ _)
      (World.shaped_of_ZipB (by kernel_rfl) (by kernel_rfl)) (by kernel_rfl) (by kernel_rfl) (by kernel_rfl)
      (by rw [MakeChecks.laidMetH_plain _ _ _ (by kernel_rfl)]; exact laidMet_laidAll _ (by kernel_rfl) (by kernel_rfl)))
    calls
theorem holds : Rows.VerifyKnownSaid :=
  OpenClaim.holds_of_wide 3 Tryz.f3 rfl rfl rfl rfl rfl rfl rfl ⟨rfl, rfl, rfl, rfl, rfl⟩ rfl rfl rfl rfl rfl (by kernel_rfl) Tryz.func3 (by kernel_rfl)
    (of_decide_eq_true (by kernel_rfl)) (by unfold Func.isWrapper; first | (rw [if_pos (by decide +kernel)]; kernel_rfl) | (rw [if_neg (by decide +kernel)]; exact ⟨rfl, rfl⟩))
    (fun os started H enc _ => lifted os started H enc)
theorem card_holds : Rows.VerifyKnownCardSaid :=
  Claim7.holds_tied_plain_at .later [] [.data, .listed, .data, .pinned] true (true, "83f87da0350ff073ed8e255f8c1391475bdb0d8c6f84b7101cba31912f5b4b86") false holds (fun _ h => by cases h) (by kernel_rfl) (fun _ h => by cases h) verifyKnown_row_tie rfl ⟨rfl, rfl⟩ (by kernel_rfl) rfl
    (fun f fn hf hfn => by
      obtain rfl : f = 3 := Option.some.inj ((show Tryz.prog.funcNamed "chaperon/chaperonlaw25.VerifyKnown" = some 3 by kernel_rfl).symm.trans hf) |>.symm
      obtain rfl : fn = Tryz.f3 := (Option.some.inj (Tryz.func3.symm.trans hfn)).symm
      exact ⟨by kernel_rfl, fun j t ht => by
        rw [show Tryz.f3.params = #[] by kernel_rfl] at ht
        simp at ht⟩)
    (by kernel_rfl)
end Go.Proofs.YtchmlndkbpgenaaGreatDoor
