/- The law MachineNone answers true: its row, lifted (conditions: the row's own: the listed variables begin as the program's text lays them). -/
import Derived.Test.YtjamefgnfbiolaaGreatDoorRan
import Derived.Test.YtjamefgnfbiolaaGreatDoorKnown
import Derived.Test.YtjamefgnfbiolaaGreatDoorRows
namespace Go.Proofs.YtjamefgnfbiolaaGreatDoor
open Go Go.Proofs.Vai Go.ChangeShapes Go.WideShapes Go.ChangeAt Go.RowKit
theorem own : ownKnob Tryz.prog.godebug = none := by kernel_rfl
theorem block0 {W : World} (h : laidMetH Tryz.prog Rows.machineNoneRow.laid W) : holdsB W 0 (.cells false 0 256 (.of (tab0.map fun z => .int .u8 z))) :=
  tab_holds (name := "strings.asciiSpace") (t := 305) (e := 5) (n := 256) h (by rw [show (Lib.tabData .u8 tab0 : DataW Unit) = Rows.laid_strings_asciiSpace by kernel_rfl]; simp [Rows.machineNoneRow]) (by kernel_rfl) (by kernel_rfl) (by kernel_rfl) (by kernel_rfl) (by kernel_rfl) (by kernel_rfl) (by kernel_rfl) 0
theorem base (W : World) (ho : W.ShapedOpen Tryz.prog) (h : laidMetH Tryz.prog Rows.machineNoneRow.laid W) : baseW blocks W := by
  refine ⟨Nat.le_trans (Nat.le_of_eq (show blocks.length = Tryz.prog.globals.size by kernel_rfl)) (open_size ho (by kernel_rfl)), fun g blk hb => ?_⟩
  unfold blocks at hb
  match g, hb with
  | 0, hb => cases hb; exact block0 h
  | 1, hb => cases hb; exact none_holds _ _
  | 2, hb => cases hb; exact none_holds _ _
  | 3, hb => cases hb; exact none_holds _ _
  | 4, hb => cases hb; exact none_holds _ _
  | 5, hb => cases hb; exact none_holds _ _
  | 6, hb => cases hb; exact none_holds _ _
  | 7, hb => cases hb; exact none_holds _ _
  | 8, hb => cases hb; exact none_holds _ _
  | 9, hb => cases hb; exact none_holds _ _
  | g + 10, hb => cases hb
set_option maxRecDepth 100000 in
theorem calls (W : World) (base0 : Nat) (args : Array Value) {H : Type} {enc : TypeId × Value → H} (ds : List (DataW H)) (p : List MemPlace) (ho : W.ShapedOpen Tryz.prog) (h : laidMetH Tryz.prog Rows.machineNoneRow.laid W)
    (hok : ∀ (j : Nat) t v, Tryz.f3.params[j]? = some t → args[j]? = some v → Value.okWide Tryz.prog W .any base0 t v) (hA : DataW.TrodAll enc Tryz.prog W 0 (fun _ => true) true Tryz.f3.params.toList args.toList ds p) :
    Calls Tryz.prog 3 args W fun e w' => e = .returned (.bool true) ∧ Below W.heap.size W w' := by
  have hb := base W ho h
  obtain ⟨v, rfl⟩ := args_one_of (args := args) (by rw [(trodAll_len hA).1, show Tryz.f3.params = #[3] by kernel_rfl]; rfl)
  obtain ⟨n, rfl⟩ := okWide_int (k := .i64) (t := 3) (by kernel_rfl) (hok 0 3 v (by rw [show Tryz.f3.params = #[3] by kernel_rfl]; rfl) rfl)
  letI : Env := envInt n blocks
  have baseOK : BaseOK Tryz.prog blocks := ⟨rfl, by kernel_rfl, fun _ h => h⟩
  by_cases hn : n ≤ 0
  · refine calls_true (us := [.int .i64 n]) noNum baseOK (orcOK0 baseOK) ran0r hb (.cons _ _ _ _ ?_ .nil)
    have := VR.sym (P := Tryz.prog) (μ := globI Tryz.prog) 1
    rwa [show Env.val 1 = .int .i64 n from by show Value.int .i64 (min n 0) = _; rw [Int.min_eq_left hn]] at this
  · refine calls_true (us := [.int .i64 n]) noNum baseOK (orcOK1 baseOK) ran1r hb (.cons _ _ _ _ ?_ .nil)
    have := VR.sym (P := Tryz.prog) (μ := globI Tryz.prog) 2
    rwa [show Env.val 2 = .int .i64 n from by show Value.int .i64 (max n 1) = _; rw [Int.max_eq_left (by omega)]] at this
set_option maxRecDepth 100000 in
theorem lifted (os : Os) (started : os.Started) (H : Type) (enc : TypeId × Value → H) :
    ReturnsInHanded {} Tryz.checked os 3 .any (fun w args => (Rows.machineNoneSpec.pre enc Tryz.prog Tryz.f3 [] false w args ∧ laidMetH Tryz.prog Rows.machineNoneRow.laid w) ∧ sizedMet enc Tryz.prog Tryz.f3 (OpenSpec.ofChange Rows.machineNoneSpec) false w args)
      (Rows.machineNoneSpec.post enc Tryz.prog Tryz.f3 false true false false) :=
  lifted_args (C := Tryz.checked) (t := 4) own started (by kernel_rfl) Tryz.func3 (by kernel_rfl) (by kernel_rfl) (by kernel_rfl) (by kernel_rfl) rfl (fun _ ds h => by obtain ⟨d, rfl⟩ : ∃ d, ds = [d] := List.length_eq_one_iff.1 (h.trans (by kernel_rfl)); rfl)
    (ChangeSpec.witness_shaped (enc := enc) (C := Tryz.checked) (os := os) (X := fun w _ => laidMetH Tryz.prog Rows.machineNoneRow.laid w) false (World.laidAll Tryz.prog os Rows.machineNoneRow.laid) #[.int .i64 0] 8 (World.laidAll_os _ _ _)
      (World.shaped_of_ZipB (by kernel_rfl) (by kernel_rfl)) (by kernel_rfl) (by kernel_rfl) (by kernel_rfl)
      (by rw [MakeChecks.laidMetH_plain _ _ _ (by kernel_rfl)]; exact laidMet_laidAll _ (by kernel_rfl) (by kernel_rfl)))
    fun W base0 args ds p ho h hok hA => calls W base0 args ds p ho h hok hA
end Go.Proofs.YtjamefgnfbiolaaGreatDoor
