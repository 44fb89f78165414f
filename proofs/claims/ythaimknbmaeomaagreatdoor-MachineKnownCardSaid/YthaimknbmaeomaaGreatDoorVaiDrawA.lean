/- Drawn regions, first part: what an operation of a class looks at. -/
import Derived.Test.YthaimknbmaeomaaGreatDoorVaiRunE
set_option linter.unusedVariables false
set_option linter.unusedSimpArgs false
set_option linter.unusedSectionVars false
namespace Go.Proofs.Vai
open Go Go.RowKit
variable [Env]

/-- It looks at no state. -/
def PU (f : St → Option ARes) : Prop := ∃ F : Option AV, ∀ s, f s = omap F fun v => .val v s
/-- It keeps the state. -/
def RE (f : St → Option ARes) : Prop := ∀ s x, f s = some x → ∃ v, x = .val v s

theorem PU.none : PU fun _ => Option.none := ⟨Option.none, fun _ => rfl⟩
theorem PU.val (v : AV) : PU fun s => some (.val v s) := ⟨some v, fun _ => rfl⟩
theorem PU.obind {α : Type} (o : Option α) {g : α → St → Option ARes} (h : ∀ x, PU (g x)) : PU fun s => Vai.obind o fun x => g x s := by
  cases o with
  | none => exact PU.none
  | some x => exact h x
theorem PU.omap {α : Type} (o : Option α) (g : α → AV) : PU fun s => Vai.omap o fun x => .val (g x) s := by
  cases o with
  | none => exact PU.none
  | some x => exact PU.val _
theorem PU.cnd (b : Bool) {f g : St → Option ARes} (h : PU f) (k : PU g) : PU fun s => Vai.cnd b (f s) (g s) := by cases b <;> assumption
theorem PU.re {f : St → Option ARes} (h : PU f) : RE f := by
  intro s x hx
  obtain ⟨F, hF⟩ := h
  rw [hF] at hx
  obtain ⟨v, _, rfl⟩ := omap_some.1 hx
  exact ⟨v, rfl⟩
theorem PU.any {f : St → Option ARes} (h : PU f) {s : St} {v : AV} {s' : St} (hx : f s = some (.val v s')) (s₂ : St) : f s₂ = some (.val v s₂) := by
  obtain ⟨F, hF⟩ := h
  rw [hF] at hx ⊢
  obtain ⟨u, rfl, hu⟩ := omap_some.1 hx
  cases hu
  rfl
theorem RE.obind {α : Type} (o : Option α) {g : α → St → Option ARes} (h : ∀ x, RE (g x)) : RE fun s => Vai.obind o fun x => g x s := by
  cases o with
  | none => intro s x h; cases h
  | some x => exact h x
theorem RE.obindS {α : Type} (o : St → Option α) {g : α → St → Option ARes} (h : ∀ x, RE (g x)) : RE fun s => Vai.obind (o s) fun x => g x s := by
  intro s x hx
  obtain ⟨y, _, hx⟩ := obind_some.1 hx
  exact h y s x hx
theorem RE.omapS {α : Type} (o : St → Option α) (g : α → AV) : RE fun s => Vai.omap (o s) fun x => .val (g x) s := by
  intro s x hx
  obtain ⟨y, _, rfl⟩ := omap_some.1 hx
  exact ⟨_, rfl⟩
theorem RE.cnd (b : Bool) {f g : St → Option ARes} (h : RE f) (k : RE g) : RE fun s => Vai.cnd b (f s) (g s) := by cases b <;> assumption
theorem RE.none : RE fun _ => Option.none := fun s x h => by cases h

section
variable (P : Program) (a : AAct)
theorem pu_intOp (op : BinOp) (k : IntKind) (x y : Int) : PU fun s => intOpA op k x y s := by
  cases op <;> first | exact PU.none | exact PU.val _ | exact PU.cnd _ PU.none (PU.val _)
theorem pu_sh (op : BinOp) (k : IntKind) (x y : Int) : PU fun s => shOpA op k x y s := by
  cases y with
  | ofNat n => cases op <;> first | exact PU.none | exact PU.val _
  | negSucc n => exact PU.none
theorem pu_float (op : BinOp) (k : FloatKind) (x y : Nat) : PU fun s => floatOpA op k x y s := by
  cases op <;> first | exact PU.none | exact PU.val _ | exact PU.omap _ _
theorem pu_str (op : BinOp) (x y : List Nat) : PU fun s => strOpA op x y s := by
  cases op <;> first | exact PU.none | exact PU.val _ | exact PU.cnd _ (PU.val _) PU.none
theorem pu_eq (c : Bool) (t : TypeId) (op : BinOp) (x y : AV) : PU fun s => eqOpA P c t op x y s := by
  cases op <;> first | exact PU.none | exact PU.omap _ _
theorem pu_bin (op : BinOp) (t : TypeId) (c : Bool) (x y : AV) : PU fun s => binA P c op t s x y := by
  cases x with
  | int k n => cases y with
    | int k' m => exact PU.cnd _ (pu_sh op k n m) (PU.cnd _ (pu_intOp op k n m) PU.none)
    | _ => exact PU.none
  | float k n => cases y with
    | float k' m => exact PU.cnd _ (pu_float op k n m) PU.none
    | _ => exact PU.none
  | str n => cases y with
    | str m => exact pu_str op n m
    | _ => exact PU.none
  | _ => exact pu_eq P c t op _ y
theorem pu_slice (t : TypeId) (x : AV) (lo hi mx : Option AV) : PU fun s => sliceA P t x lo hi mx s := by
  unfold sliceA
  refine PU.obind _ fun l => ?_
  cases P.underlying t with
  | none => exact PU.none
  | some d => cases d <;> first | exact PU.none | skip
              · cases x <;> first | exact PU.none | exact PU.obind _ fun h => PU.cnd _ (PU.cnd _ (PU.val _) PU.none) PU.none
              · refine PU.obind _ fun z => ?_
                cases x <;> first | exact PU.none | exact PU.obind _ fun h => PU.obind _ fun m => PU.cnd _ (PU.val _) PU.none | exact PU.obind _ fun h => PU.cnd _ (PU.val _) PU.none
              · refine PU.obind _ fun z => ?_
                cases x <;> first | exact PU.none | exact PU.obind _ fun h => PU.cnd _ (PU.val _) PU.none
theorem pu_assert (t : TypeId) (ok : Bool) (v : AV) : PU fun s => oAssert P t ok s v := by
  refine PU.cnd _ PU.none ?_
  cases v <;> first | exact PU.none | exact PU.cnd _ (PU.omap _ _) PU.none | exact PU.cnd _ (PU.val _) (PU.cnd _ (PU.omap _ _) PU.none)
theorem pu_minmax (ats : List TypeId) (args : List AV) : (PU fun s => bMin P ats args s) ∧ PU fun s => bMax P ats args s := by
  constructor
  · unfold bMin; split <;> first | exact PU.val _ | exact PU.none
  · unfold bMax; split <;> first | exact PU.val _ | exact PU.none
/-- CLASS 4. -/
theorem pu_op {op : Op} (h : clsO P op = 4) : PU fun s => opA op P a s := by
  cases op <;> first | (cases h; done) | skip
  case move x => exact PU.omap _ _
  case assign x => exact PU.omap _ _
  case pick c x y =>
    refine PU.obind _ fun v => ?_
    cases v <;> first | exact PU.none | exact PU.omap _ _
  case build t ps => exact PU.obind _ fun vs => PU.omap _ _
  case nilCheck x =>
    refine PU.obind _ fun v => ?_
    cases v <;> first | exact PU.none | exact PU.val _
  case binOp op t x y _ => exact PU.obind _ fun v => PU.obind _ fun u => pu_bin P op t _ v u
  case unOp op _ x => exact PU.obind _ fun v => PU.omap _ _
  case convert s d x =>
    exfalso
    simp only [clsO] at h
    split at h <;> cases h
  case makeInterface t x => exact PU.cnd _ PU.none (PU.omap _ _)
  case makeFunc fn f c => cases fn <;> first | exact PU.none | exact PU.obind _ fun b => PU.omap _ _
  case slice t x lo hi mx => exact PU.obind _ fun v => PU.obind _ fun lo => PU.obind _ fun hi => PU.obind _ fun mx => pu_slice P t v lo hi mx
  case fieldAddr t x f =>
    refine PU.obind _ fun v => ?_
    cases v <;> first | exact PU.none | exact PU.obind _ fun f => PU.obind _ fun z => PU.cnd _ PU.none (PU.val _)
  case field t x f =>
    refine PU.obind _ fun v => ?_
    cases v <;> first | exact PU.none | exact PU.obind _ fun f => PU.omap _ _
  case indexAddr t x i =>
    refine PU.obind _ fun v => PU.obind _ fun j => ?_
    unfold oIndexAddr
    split
    · split
      · cases v <;> first | exact PU.none | exact PU.cnd _ (PU.omap _ _) PU.none
      · cases v <;> first | exact PU.none | exact PU.cnd _ (PU.omap _ _) PU.none
      · exact PU.none
    · exact PU.none
  case index t x i =>
    refine PU.obind _ fun v => PU.obind _ fun j => ?_
    unfold oIndex
    split
    · split
      · cases v <;> first | exact PU.none | exact PU.cnd _ (PU.obind _ fun z => PU.omap _ _) PU.none
      · cases v <;> first | exact PU.none | exact PU.omap _ _
      · exact PU.none
    · exact PU.none
  case typeAssert x s t ok => exact PU.obind _ fun v => pu_assert P t ok v
  case extract x i =>
    refine PU.obind _ fun v => ?_
    cases v <;> first | exact PU.none | exact PU.omap _ _
  case call c =>
    refine PU.obind _ fun args => ?_
    simp only [clsO] at h
    split at h <;> first | (cases h; done) | skip
    · rename_i hc; rw [hc]; exact (pu_minmax P c.argTypes.toList args).1
    · rename_i hc; rw [hc]; exact (pu_minmax P c.argTypes.toList args).2
/-- CLASS 0. -/
theorem re_op {op : Op} (h : clsO P op = 0) : RE fun s => opA op P a s := by
  cases op <;> first | (cases h; done) | skip
  case load t x =>
    refine RE.obind _ fun v => ?_
    cases v <;> first | exact RE.none | exact RE.omapS (fun s => s.load P t _ _) _
  case convert s d x =>
    refine RE.obind _ fun v => RE.obind _ fun us => ?_
    have bytes : RE fun s' => Vai.obind (elemT P s) fun e => convBytes P e v s' := by
      refine RE.obind _ fun e => RE.cnd _ ?_ RE.none
      cases v <;> first | exact RE.none | exact (PU.val _).re | exact RE.obindS (fun s' => s'.cells _ _ _) fun cs => (PU.omap _ _).re
    simp only [clsO] at h
    cases hd : P.underlying d with
    | none => exact RE.none
    | some ud =>
      rw [hd] at h
      cases ud <;> first | (cases h; done) | exact RE.none | skip
      · cases v <;> first | exact RE.none | exact (PU.val _).re
      · cases v <;> first | exact RE.none | exact (PU.val _).re | exact (PU.cnd _ (PU.val _) PU.none).re
      · cases v <;> first | exact bytes | exact (PU.val _).re | skip
        rename_i n
        cases n with
        | ofNat n => exact (PU.cnd _ (PU.val _) PU.none).re
        | negSucc n => exact bytes
  case lookup t x k ok =>
    refine RE.obind _ fun m => RE.obind _ fun k => ?_
    refine RE.obindS (fun s => mapEs s m) fun es => RE.obind _ fun q => RE.cnd _ (RE.obind _ fun o => ?_) RE.none
    cases o with
    | none => exact (PU.omap _ _).re
    | some v => exact (PU.val _).re
  case call c =>
    refine RE.obind _ fun args => ?_
    simp only [clsO] at h
    split at h <;> first | (cases h; done) | skip
    rename_i hc
    rw [hc]
    show RE fun s => bLen P c.argTypes.toList args s
    unfold bLen
    split
    · split
      · exact RE.omapS (fun s => lenA P _ s _) _
      · exact RE.none
    · exact RE.none

/-- CLASS 1: one row, that hangs on no heap. -/
def Lays (op : Op) : Prop := ∀ s x, opA op P a s = some x → ∃ (v : Pos → AV) (blk : ABlk), isDead blk = false ∧ x = .val (v s.n) (s.push blk) ∧ ∀ s', opA op P a s' = some (.val (v s'.n) (s'.push blk))
theorem lays_op {op : Op} (h : clsO P op = 1) : Lays P a op := by
  intro s x hx
  cases op <;> first | (cases h; done) | skip
  case convert s d x => exfalso; simp only [clsO] at h; split at h <;> cases h
  case call c => exfalso; simp only [clsO] at h; split at h <;> cases h
  case alloc t =>
    obtain ⟨z, hz, hx⟩ := obind_some.1 (show Vai.obind (zeroT P t) (fun z => Vai.cnd (ones z.cells) (some (ARes.val (.ptr s.n 0) (s.row t z.cells))) none) = some x from hx)
    obtain ⟨ho, hx⟩ := cnd_none.1 hx
    cases hx
    refine ⟨fun n => .ptr n 0, _, rfl, rfl, fun s' => ?_⟩
    show Vai.obind (zeroT P t) (fun z => Vai.cnd (ones z.cells) (some (ARes.val (.ptr s'.n 0) (s'.row t z.cells))) none) = _
    rw [hz]
    show Vai.cnd (ones z.cells) _ _ = _
    rw [ho]
    rfl
  case box t y =>
    obtain ⟨z, hz, hx⟩ := obind_some.1 (show Vai.obind (a.eval P y) (fun v => Vai.cnd (ones v.cells) (some (ARes.val (.ptr s.n 0) (s.row t v.cells))) none) = some x from hx)
    obtain ⟨ho, hx⟩ := cnd_none.1 hx
    cases hx
    refine ⟨fun n => .ptr n 0, _, rfl, rfl, fun s' => ?_⟩
    show Vai.obind (a.eval P y) (fun v => Vai.cnd (ones v.cells) (some (ARes.val (.ptr s'.n 0) (s'.row t v.cells))) none) = _
    rw [hz]
    show Vai.cnd (ones z.cells) _ _ = _
    rw [ho]
    rfl
  case buildSlice t n ps =>
    obtain ⟨vs, hvs, hx⟩ := obind_some.1 (show Vai.obind (evals P a (ps.toList.map (·.2))) (fun vs => buildSliceA P t n (ps.toList.map (·.1)) vs s) = some x from hx)
    obtain ⟨e, he, hx⟩ := obind_some.1 hx
    obtain ⟨zs, hzs, hx⟩ := obind_some.1 hx
    obtain ⟨cs, hcs, rfl⟩ := omap_some.1 hx
    refine ⟨fun m => .slice m 0 n true true, _, rfl, rfl, fun s' => ?_⟩
    show Vai.obind (evals P a (ps.toList.map (·.2))) (fun vs => Vai.obind (elemT P t) fun e => Vai.obind (planS P e n (ps.toList.map (·.1))) fun zs => Vai.omap (joinA zs vs) fun cs => ARes.val (.slice s'.n 0 n true true) (s'.row e cs)) = _
    rw [hvs]
    show Vai.obind (elemT P t) _ = _
    rw [he]
    show Vai.obind (planS P e n (ps.toList.map (·.1))) _ = _
    rw [hzs]
    show Vai.omap (joinA zs vs) _ = _
    rw [hcs]
    rfl
  case makeMap t r =>
    cases r with
    | none => cases hx; exact ⟨fun n => .map n, _, rfl, rfl, fun s' => rfl⟩
    | some y => cases hx
  case makeSlice t l c =>
    obtain ⟨lv, hl, hx⟩ := obind_some.1 hx
    obtain ⟨cv, hc, hx⟩ := obind_some.1 hx
    obtain ⟨ln, hln, hx⟩ := obind_some.1 hx
    obtain ⟨cn, hcn, hx⟩ := obind_some.1 hx
    obtain ⟨e, he, hx⟩ := obind_some.1 hx
    obtain ⟨by_, hby, hx⟩ := obind_some.1 hx
    obtain ⟨sz, hsz, hx⟩ := obind_some.1 hx
    obtain ⟨z, hz, hx⟩ := obind_some.1 hx
    obtain ⟨hb, hx⟩ := cnd_none.1 hx
    cases hx
    refine ⟨fun m => .slice m 0 ln (Nat.beq ln cn) true, _, rfl, rfl, fun s' => ?_⟩
    show Vai.obind (a.eval P l) _ = _
    rw [hl]
    show Vai.obind (a.eval P c) _ = _
    rw [hc]
    show Vai.obind (natA lv) _ = _
    rw [hln]
    show Vai.obind (natA cv) _ = _
    rw [hcn]
    show Vai.obind (elemT P t) _ = _
    rw [he]
    show Vai.obind (bytesT P e) _ = _
    rw [hby]
    show Vai.obind (sizeT P e) _ = _
    rw [hsz]
    show Vai.obind (zeroT P e) _ = _
    rw [hz]
    show Vai.cnd _ _ _ = _
    rw [hb]
    rfl
end
end Go.Proofs.Vai
