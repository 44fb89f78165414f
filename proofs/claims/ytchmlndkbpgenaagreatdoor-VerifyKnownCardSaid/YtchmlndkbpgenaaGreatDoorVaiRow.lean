/- A law without parameters that the interpreter answers: how its call runs, and its row. -/
import Derived.Test.YtchmlndkbpgenaaGreatDoorVaiDrawP
import Derived.Test.YtchmlndkbpgenaaGreatDoorVaiStart
import Derived.ProofKit
import Derived.OpenShut
import Derived.LaidMore
import Derived.Lay
import Derived.SevenTiedAt
import Derived.Stop.Joined
import Derived.Lib.LaidTab
set_option linter.unusedVariables false
namespace Go.Proofs.Vai
open Go Go.RowKit Go.ChangeShapes Go.WideShapes Go.ChangeAt

section
variable {P : Program} {w : World}
theorem setTrB_get : ∀ (bs : List ABlk) (t : Tr ABlk) (n : Nat) (x : Pos), (vstart.setTrB bs t n).get x = if n ≤ x.toNat ∧ x.toNat < n + bs.length then bs[x.toNat - n]? else t.get x
  | [], t, n, x => by
    rw [if_neg (by simp only [List.length_nil]; omega)]
    rfl
  | b :: bs, t, n, x => by
    show (vstart.setTrB bs (t.set (pos n) b) (n + 1)).get x = _
    rw [setTrB_get bs, get_set]
    by_cases h : n + 1 ≤ x.toNat ∧ x.toNat < n + 1 + bs.length
    · rw [if_pos h, if_pos (by simp only [List.length_cons]; omega), show x.toNat - n = (x.toNat - (n + 1)) + 1 from by omega]
      rfl
    · rw [if_neg h]
      by_cases hx : pos n = x
      · subst hx
        rw [if_pos rfl, if_pos (by rw [pos_toNat]; simp only [List.length_cons]; omega), pos_toNat, Nat.sub_self]
        rfl
      · have : x.toNat ≠ n := fun e => hx (by rw [← e, pos_of])
        rw [if_neg hx, if_neg (by simp only [List.length_cons]; omega)]
/-- The variables lie where they lie. -/
def globI (P : Program) : Inj := fun b => if b.toNat < P.globals.size then some ⟨⟨b.toNat, 0, none⟩, none⟩ else none
theorem globI_some {b : Pos} {e : Ent} (h : globI P b = some e) : b.toNat < P.globals.size ∧ e = ⟨⟨b.toNat, 0, none⟩, none⟩ := by
  unfold globI at h
  split at h
  · rename_i hl; cases h; exact ⟨hl, rfl⟩
  · cases h
/-- What a variable's block holds, as the interpreter takes it. -/
def holdsB (w : World) (g : Nat) (blk : ABlk) : Prop :=
  ∃ t len c, blk = .cells false t len c ∧ ∀ i, i < len → ∃ av v, c.get i = some av ∧ w.cell? ⟨g, i, none⟩ = some v ∧ av.one = true ∧ ∀ (P : Program) (μ : Inj), VR P μ av v
theorem start_sr {bs : List ABlk} (hn : bs.length = P.globals.size) (hsz : P.globals.size ≤ w.heap.size) (hb : ∀ g blk, bs[g]? = some blk → holdsB w g blk) : SR P w.heap.size (globI P) (vstart bs) w := by
  refine ⟨fun b e he => ?_, fun b b' e e' k k' he he' _ _ _ _ hN _ => ?_, fun b e he => ?_, Nat.le_refl _, fun g hg => ?_⟩
  · obtain ⟨hl, rfl⟩ := globI_some he
    have hl' : b.toNat < bs.length := by omega
    have hget : bs[b.toNat]? = some bs[b.toNat] := List.getElem?_eq_getElem hl'
    refine ⟨bs[b.toNat], ?_, ?_⟩
    · show (vstart.setTrB bs .nil 0).get b = _
      rw [setTrB_get, if_pos (by omega), Nat.sub_zero, hget]
    · obtain ⟨t, len, c, hc, hcells⟩ := hb _ _ hget
      rw [hc]
      refine ⟨rfl, Nat.lt_of_lt_of_le hl hsz, fun i hi => ?_⟩
      obtain ⟨av, v, h1, h2, h3, h4⟩ := hcells i hi
      refine ⟨av, v, h1, ?_, h4 P _, h3⟩
      rw [← h2]
      show w.cell? (Addr.add ⟨b.toNat, 0, none⟩ i) = _
      by_cases hi0 : i = 0
      · subst hi0; simp [Addr.add]
      · simp [Addr.add, hi0]
  · obtain ⟨hl, rfl⟩ := globI_some he
    have hN : w.heap.size ≤ b.toNat := hN
    omega
  · obtain ⟨hl, rfl⟩ := globI_some he
    show b.toNat < (pos bs.length).toNat
    rw [pos_toNat]
    omega
  · unfold globI
    rw [pos_toNat, if_pos hg]
/-- HOW IT RUNS. -/
theorem calls_true (hP : NoNum P) {f : FuncId} {n : Nat} {σ : St} (hrun : isT (run P n (.call f [] none) AAct.none σ) = true) {N : Nat} {μ : Inj} (hs : SR P N μ σ w) :
    Calls P f #[] w fun e w' => e = .returned (.bool true) ∧ Below N w w' := by
  intro cs
  cases hr : run P n (.call f [] none) AAct.none σ with
  | none => rw [hr] at hrun; cases hrun
  | some o =>
    rw [hr] at hrun
    cases o with
    | «at» => cases hrun
    | fin e rc s' =>
      cases e with
      | panicked c => cases hrun
      | returned v =>
        have hv : v = .bool true := by
          cases v <;> first | (cases hrun; done) | skip
          rename_i b
          have : b = true := hrun
          rw [this]
        subst hv
        obtain ⟨μ', w', u', V, fr, hg, _, hV, hst, hfn, hk, hgo⟩ := ((run_all hP n).call _ _ _ _ _ _ hr).2 μ w (.norm cs) .run [] hs .nil (.norm _ _)
        have hVt : V = .bool true := by cases hV; rfl
        subst hVt
        exact ⟨.returned (.bool true), w', fr, ⟨rfl, hg.ev.below hs.hN⟩, hst, hfn, hgo.1, hgo.2.1, hk, hgo.2.2⟩

/-- What is asked of the program beside the run: closed facts. -/
theorem noNum_of (h : (P.funcs.toList.all fun fn => !(fn.name == "runtime.NumGoroutine")) = true) : NoNum P := fun f fn hf => by
  have := List.all_eq_true.1 h fn (by have := Array.mem_of_getElem? hf; simpa using this)
  simpa using this
theorem open_size {P : Program} {w : World} (h : w.ShapedOpen P) (hb : decide (P.globals.size < (begin P (fun _ _ => 0) default).world.heap.size) = true) : P.globals.size ≤ w.heap.size := by
  obtain ⟨o, _, ho, _⟩ := h.2 P.globals.size (Nat.le_refl _) (of_decide_eq_true hb)
  exact Nat.le_of_lt (Array.getElem?_eq_some_iff.1 ho).1
end

section
variable {P : Program} {w : World}
theorem laid_reads : ∀ {l : List (String × DataW Unit)} {ps : List MemPlace}, DataW.LaidVars P w l ps → ∀ n d, (n, d) ∈ l →
    ∃ g t cs fuel p, P.globalNamed n = some g ∧ (P.globals[g]?).map (·.type) = some t ∧ w.var? P n = some cs ∧ DataW.trod (fun _ => ()) P w 0 (fun _ => true) false fuel t cs.toList = some (d, p)
  | [], _, _, _, _, hm => by cases hm
  | (n', d') :: r, ps, h, n, d, hm => by
    obtain ⟨g, t, cs, fuel, p, q, h1, h2, h3, h4, h5, _⟩ := h
    rcases List.mem_cons.1 hm with e | e
    · cases e
      exact ⟨g, t, cs, fuel, p, h1, h2, h3, h4⟩
    · exact laid_reads h5 n d e
/-- AN ARRAY OF INTEGERS THAT THE ROW LISTS. -/
theorem tab_holds {laid : List (String × DataW Unit)} (h : laidMetH P laid w) (hp : (laid.all fun x => x.2.handleName?.isNone) = true) {name : String} {k : IntKind} {zs : List Int} (hm : (name, Lib.tabData k zs) ∈ laid) {g t e : Nat} {n : Nat}
    (hg : P.globalNamed name = some g) (ht : (P.globals[g]?).map (·.type) = some t) (hu : P.underlying t = some (.array n e)) (he : P.underlying e = some (.int k)) (hce : P.cellsOf e = 1) (hct : P.cellsOf t = n) {m : Nat} (hlen : m = zs.length) (t' : TypeId) :
    holdsB w g (.cells false t' m (.of (zs.map fun z => .int k z))) := by
  rw [MakeChecks.laidMetH_plain _ _ _ hp] at h
  obtain ⟨ps, hv, _⟩ := h
  obtain ⟨g', t'', cs, fuel, p, h1, h2, h3, h4⟩ := laid_reads hv _ _ hm
  obtain rfl := Option.some.inj (hg.symm.trans h1)
  obtain rfl := Option.some.inj (ht.symm.trans h2)
  have hcs := Lib.cells_of_tab hu he hce hct h4
  refine ⟨t', m, _, rfl, fun i hi => ?_⟩
  have hi' : i < zs.length := by omega
  refine ⟨.int k zs[i], .int k zs[i], by rw [Cs.of_get]; simp [hi'], ?_, rfl, fun _ _ => .int _ _⟩
  rw [World.var?_cell h1 h3 i]
  have : cs.toList[i]? = some (.int k zs[i]) := by rw [hcs]; simp [hi']
  simpa using this
/-- A variable that is not looked at. -/
theorem none_holds (g : Nat) (t : TypeId) : holdsB w g (.cells false t 0 (.few [])) := ⟨t, 0, _, rfl, fun i hi => absurd hi (Nat.not_lt_zero i)⟩
end

section
variable {H : Type} {enc : TypeId × Value → H}
/-- THE ROW OF A LAW WITHOUT PARAMETERS, LIFTED. -/
theorem lifted_of {C : Checked} {os : Os} {f : FuncId} {fn : Func} {s : ChangeSpec} {conds : List PathCond} {handsOn : Bool} {laid : List (String × DataW Unit)} {t : TypeId}
    (own : ownKnob C.prog.godebug = none) (started : os.Started) (noInit : C.prog.inits.idxOf? f = none) (hfn : C.prog.funcs[f]? = some fn) (hps : fn.params = #[]) (hrs : fn.resultTypes = #[t]) (ht : C.prog.underlying t = some .bool) (hvars : s.vars = [])
    (hspec : ∀ H : Type, s.fn H [] = { results := [.lit (.bool true)], args := [], vars := [] })
    (witness : ∃ (w : World) (tape : Tape) (i : Input), w.os = os ∧ (w.forCall tape i).Shaped C.prog ∧ i.vars = [] ∧ Input.okWide C.prog (w.forCall tape i) .any w.heap.size f i ∧
      ((s.pre enc C.prog fn conds false (w.forCall tape i).memory i.args ∧ laidMetH C.prog laid (w.forCall tape i).memory) ∧ sizedMet enc C.prog fn (OpenSpec.ofChange s) false (w.forCall tape i).memory i.args) ∧ ({} : Assume).holds C.prog (lone (Frame.enter C.prog f i.args .normal) [] (w.forCall tape i)))
    (hcalls : ∀ w : World, w.ShapedOpen C.prog → laidMetH C.prog laid w → Calls C.prog f #[] w fun e w' => e = .returned (.bool true) ∧ Below w.heap.size w w') :
    ReturnsInHanded {} C os f .any (fun w args => (s.pre enc C.prog fn conds false w args ∧ laidMetH C.prog laid w) ∧ sizedMet enc C.prog fn (OpenSpec.ofChange s) false w args) (s.post enc C.prog fn false true handsOn false) := by
  refine returnsInHanded_of_calls own started noInit witness ?_
  intro w tape i _ hshape _ hok hpre hholds
  obtain ⟨⟨⟨ds, gs, before, hw, hc⟩, hx⟩, hz⟩ := hpre
  have hw' := DataW.Whole.of_heap (w' := w.forCall tape i) (by rfl) hw
  have hx' : laidMetH C.prog laid (w.forCall tape i) := hx.of_heap (by rfl)
  have hw0 := hw'
  obtain ⟨p, q, hA, hV, rfl, _, _⟩ := hw'
  rw [hps] at hA
  rw [hvars] at hV
  obtain ⟨rfl, rfl⟩ := trodVars_none hV
  have hargs : i.args = #[] ∧ ds = [] ∧ p = [] := by
    generalize hal : i.args.toList = al at hA
    cases al with
    | nil =>
      cases ds with
      | nil => exact ⟨by rw [← Array.toList_inj]; exact hal, rfl, hA⟩
      | cons d ds => exact hA.elim
    | cons a al => cases ds <;> exact hA.elim
  obtain ⟨ha, rfl, rfl⟩ := hargs
  rw [ha] at hw0 ⊢
  refine (hcalls _ hshape hx').mono fun e W' ⟨he, hb⟩ => ?_
  subst he
  refine ChangeSpec.post_blind ⟨[], [], [] ++ [], [], [], [], hw0, ?_, ?_, ?_, hb.frame _, fun h => by cases h⟩
  · rw [show ([] : List (DataW H)) ++ [] = [] from rfl, hspec, hrs]
    exact trodAll_mk1 (shut_bool ht _)
  · rw [show ([] : List (DataW H)) ++ [] = [] from rfl, hspec, hps]
    exact trodAll_mk0
  · rw [show ([] : List (DataW H)) ++ [] = [] from rfl, hspec, hvars]
    rfl
end
end Go.Proofs.Vai
