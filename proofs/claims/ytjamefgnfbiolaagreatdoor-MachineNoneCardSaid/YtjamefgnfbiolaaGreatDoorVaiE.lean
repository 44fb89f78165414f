/- The verified interpreter, part E. -/
import Derived.Test.YtjamefgnfbiolaaGreatDoorVaiD
import Derived.Orders
set_option linter.unusedVariables false
set_option linter.unusedSimpArgs false
set_option linter.unusedSectionVars false
/- Drawn regions, first part: what an operation of a class looks at. -/
namespace Go.Proofs.Vai
open Go Go.RowKit
variable [Env]

/-- It looks at no state. -/
def PU (f : St → Option ARes) : Prop := ∃ F : Option AV, ∀ s, f s = omap F fun v => .val v s
/-- It keeps the state. -/
def RE (f : St → Option ARes) : Prop := ∀ s x, f s = some x → ∃ v, x = .val v s

theorem PU.none : PU fun _ => Option.none := ⟨Option.none, fun _ => rfl⟩
theorem PU.val (v : AV) : PU fun s => some (.val v s) := ⟨some v, fun _ => rfl⟩
theorem PU.obind {α : Type} (o : Option α) {g : α → St → Option ARes} (h : ∀ x, PU (g x)) : PU fun s => Vai.obind o fun x => g x s := by
  cases o with
  | none => exact PU.none
  | some x => exact h x
theorem PU.omap {α : Type} (o : Option α) (g : α → AV) : PU fun s => Vai.omap o fun x => .val (g x) s := by
  cases o with
  | none => exact PU.none
  | some x => exact PU.val _
theorem PU.cnd (b : Bool) {f g : St → Option ARes} (h : PU f) (k : PU g) : PU fun s => Vai.cnd b (f s) (g s) := by cases b <;> assumption
theorem PU.re {f : St → Option ARes} (h : PU f) : RE f := by
  intro s x hx
  obtain ⟨F, hF⟩ := h
  rw [hF] at hx
  obtain ⟨v, _, rfl⟩ := omap_some.1 hx
  exact ⟨v, rfl⟩
theorem PU.any {f : St → Option ARes} (h : PU f) {s : St} {v : AV} {s' : St} (hx : f s = some (.val v s')) (s₂ : St) : f s₂ = some (.val v s₂) := by
  obtain ⟨F, hF⟩ := h
  rw [hF] at hx ⊢
  obtain ⟨u, rfl, hu⟩ := omap_some.1 hx
  cases hu
  rfl
theorem RE.obind {α : Type} (o : Option α) {g : α → St → Option ARes} (h : ∀ x, RE (g x)) : RE fun s => Vai.obind o fun x => g x s := by
  cases o with
  | none => intro s x h; cases h
  | some x => exact h x
theorem RE.obindS {α : Type} (o : St → Option α) {g : α → St → Option ARes} (h : ∀ x, RE (g x)) : RE fun s => Vai.obind (o s) fun x => g x s := by
  intro s x hx
  obtain ⟨y, _, hx⟩ := obind_some.1 hx
  exact h y s x hx
theorem RE.omapS {α : Type} (o : St → Option α) (g : α → AV) : RE fun s => Vai.omap (o s) fun x => .val (g x) s := by
  intro s x hx
  obtain ⟨y, _, rfl⟩ := omap_some.1 hx
  exact ⟨_, rfl⟩
theorem RE.cnd (b : Bool) {f g : St → Option ARes} (h : RE f) (k : RE g) : RE fun s => Vai.cnd b (f s) (g s) := by cases b <;> assumption
theorem RE.none : RE fun _ => Option.none := fun s x h => by cases h

section
variable (P : Program) (a : AAct)
theorem pu_intOp (op : BinOp) (k : IntKind) (x y : Int) : PU fun s => intOpA op k x y s := by
  cases op <;> first | exact PU.none | exact PU.val _ | exact PU.cnd _ PU.none (PU.val _)
theorem pu_sh (op : BinOp) (k : IntKind) (x y : Int) : PU fun s => shOpA op k x y s := by
  cases y with
  | ofNat n => cases op <;> first | exact PU.none | exact PU.val _
  | negSucc n => exact PU.none
theorem pu_float (op : BinOp) (k : FloatKind) (x y : Nat) : PU fun s => floatOpA op k x y s := by
  cases op <;> first | exact PU.none | exact PU.val _ | exact PU.omap _ _
theorem pu_str (op : BinOp) (x y : List Nat) : PU fun s => strOpA op x y s := by
  cases op <;> first | exact PU.none | exact PU.val _ | exact PU.cnd _ (PU.val _) PU.none
theorem pu_eq (c : Bool) (t : TypeId) (op : BinOp) (x y : AV) : PU fun s => eqOpA P c t op x y s := by
  cases op <;> first | exact PU.none | exact PU.omap _ _
theorem pu_sym (op : BinOp) (k : IntKind) (a : Int) (i : Nat) : (PU fun s => symLss op k a i s) ∧ PU fun s => symGtr op k a i s := by
  constructor
  · cases op <;> first | exact PU.none | exact PU.cnd _ (PU.omap _ _) PU.none
  · cases op <;> first | exact PU.none | exact PU.cnd _ (PU.omap _ _) PU.none
theorem pu_bin (op : BinOp) (t : TypeId) (c : Bool) (x y : AV) : PU fun s => binA P c op t s x y := by
  cases x with
  | int k n => cases y with
    | int k' m => exact PU.cnd _ (pu_sh op k n m) (PU.cnd _ (pu_intOp op k n m) PU.none)
    | sym i => exact (pu_sym op k n i).1
    | _ => exact PU.none
  | float k n => cases y with
    | float k' m => exact PU.cnd _ (pu_float op k n m) PU.none
    | _ => exact PU.none
  | str n => cases y with
    | str m => exact pu_str op n m
    | _ => exact PU.none
  | sym i => cases y with
    | int k n => exact (pu_sym op k n i).2
    | _ => exact PU.none
  | _ => exact pu_eq P c t op _ y
theorem pu_slice (t : TypeId) (x : AV) (lo hi mx : Option AV) : PU fun s => sliceA P t x lo hi mx s := by
  unfold sliceA
  refine PU.obind _ fun l => ?_
  cases P.underlying t with
  | none => exact PU.none
  | some d => cases d <;> first | exact PU.none | skip
              · cases x <;> first | exact PU.none | exact PU.obind _ fun h => PU.cnd _ (PU.cnd _ (PU.val _) PU.none) PU.none
              · refine PU.obind _ fun z => ?_
                cases x <;> first | exact PU.none | exact PU.obind _ fun h => PU.obind _ fun m => PU.cnd _ (PU.val _) PU.none | exact PU.obind _ fun h => PU.cnd _ (PU.val _) PU.none
              · refine PU.obind _ fun z => ?_
                cases x <;> first | exact PU.none | exact PU.obind _ fun h => PU.cnd _ (PU.val _) PU.none
theorem pu_assert (t : TypeId) (ok : Bool) (v : AV) : PU fun s => oAssert P t ok s v := by
  refine PU.cnd _ PU.none ?_
  cases v <;> first | exact PU.none | exact PU.cnd _ (PU.omap _ _) PU.none | exact PU.cnd _ (PU.val _) (PU.cnd _ (PU.omap _ _) PU.none)
theorem pu_minmax (ats : List TypeId) (args : List AV) : (PU fun s => bMin P ats args s) ∧ PU fun s => bMax P ats args s := by
  constructor
  · unfold bMin; split <;> first | exact PU.val _ | exact PU.none
  · unfold bMax; split <;> first | exact PU.val _ | exact PU.none
/-- CLASS 4. -/
theorem pu_op {op : Op} (h : clsO P op = 4) : PU fun s => opA op P a s := by
  cases op <;> first | (cases h; done) | skip
  case move x => exact PU.omap _ _
  case assign x => exact PU.omap _ _
  case pick c x y =>
    refine PU.obind _ fun v => ?_
    cases v <;> first | exact PU.none | exact PU.omap _ _
  case build t ps => exact PU.obind _ fun vs => PU.omap _ _
  case nilCheck x =>
    refine PU.obind _ fun v => ?_
    cases v <;> first | exact PU.none | exact PU.val _
  case binOp op t x y _ => exact PU.obind _ fun v => PU.obind _ fun u => pu_bin P op t _ v u
  case unOp op _ x => exact PU.obind _ fun v => PU.omap _ _
  case convert s d x =>
    exfalso
    simp only [clsO] at h
    split at h <;> cases h
  case makeInterface t x => exact PU.cnd _ PU.none (PU.omap _ _)
  case makeFunc fn f c => cases fn <;> first | exact PU.none | exact PU.obind _ fun b => PU.omap _ _
  case slice t x lo hi mx => exact PU.obind _ fun v => PU.obind _ fun lo => PU.obind _ fun hi => PU.obind _ fun mx => pu_slice P t v lo hi mx
  case fieldAddr t x f =>
    refine PU.obind _ fun v => ?_
    cases v <;> first | exact PU.none | exact PU.obind _ fun f => PU.obind _ fun z => PU.cnd _ PU.none (PU.val _)
  case field t x f =>
    refine PU.obind _ fun v => ?_
    cases v <;> first | exact PU.none | exact PU.obind _ fun f => PU.omap _ _
  case indexAddr t x i =>
    refine PU.obind _ fun v => PU.obind _ fun j => ?_
    unfold oIndexAddr
    split
    · split
      · cases v <;> first | exact PU.none | exact PU.cnd _ (PU.omap _ _) PU.none
      · cases v <;> first | exact PU.none | exact PU.cnd _ (PU.omap _ _) PU.none
      · exact PU.none
    · exact PU.none
  case index t x i =>
    refine PU.obind _ fun v => PU.obind _ fun j => ?_
    unfold oIndex
    split
    · split
      · cases v <;> first | exact PU.none | exact PU.cnd _ (PU.obind _ fun z => PU.omap _ _) PU.none
      · cases v <;> first | exact PU.none | exact PU.omap _ _
      · exact PU.none
    · exact PU.none
  case typeAssert x s t ok => exact PU.obind _ fun v => pu_assert P t ok v
  case extract x i =>
    refine PU.obind _ fun v => ?_
    cases v <;> first | exact PU.none | exact PU.omap _ _
  case call c =>
    refine PU.obind _ fun args => ?_
    simp only [clsO] at h
    split at h <;> first | (cases h; done) | skip
    · rename_i hc; rw [hc]; exact (pu_minmax P c.argTypes.toList args).1
    · rename_i hc; rw [hc]; exact (pu_minmax P c.argTypes.toList args).2
/-- CLASS 0. -/
theorem re_op {op : Op} (h : clsO P op = 0) : RE fun s => opA op P a s := by
  cases op <;> first | (cases h; done) | skip
  case load t x =>
    refine RE.obind _ fun v => ?_
    cases v <;> first | exact RE.none | exact RE.omapS (fun s => s.load P t _ _) _
  case convert s d x =>
    refine RE.obind _ fun v => RE.obind _ fun us => ?_
    have bytes : RE fun s' => Vai.obind (elemT P s) fun e => convBytes P e v s' := by
      refine RE.obind _ fun e => RE.cnd _ ?_ RE.none
      cases v <;> first | exact RE.none | exact (PU.val _).re | exact RE.obindS (fun s' => s'.cells _ _ _) fun cs => (PU.omap _ _).re
    simp only [clsO] at h
    cases hd : P.underlying d with
    | none => exact RE.none
    | some ud =>
      rw [hd] at h
      cases ud <;> first | (cases h; done) | exact RE.none | skip
      · cases v <;> first | exact RE.none | exact (PU.val _).re
      · cases v <;> first | exact RE.none | exact (PU.val _).re | exact (PU.cnd _ (PU.val _) PU.none).re
      · cases v <;> first | exact bytes | exact (PU.val _).re | skip
        rename_i n
        cases n with
        | ofNat n => exact (PU.cnd _ (PU.val _) PU.none).re
        | negSucc n => exact bytes
  case lookup t x k ok =>
    refine RE.obind _ fun m => RE.obind _ fun k => ?_
    refine RE.obindS (fun s => mapEs s m) fun es => RE.obind _ fun q => RE.cnd _ (RE.obind _ fun o => ?_) RE.none
    cases o with
    | none => exact (PU.omap _ _).re
    | some v => exact (PU.val _).re
  case call c =>
    refine RE.obind _ fun args => ?_
    simp only [clsO] at h
    split at h <;> first | (cases h; done) | skip
    rename_i hc
    rw [hc]
    show RE fun s => bLen P c.argTypes.toList args s
    unfold bLen
    split
    · split
      · refine RE.cnd _ ?_ RE.none
        split
        · exact (PU.val _).re
        · exact RE.none
      · exact RE.omapS (fun s => lenA P _ s _) _
      · exact RE.none
    · exact RE.none

/-- CLASS 1: one row, that hangs on no heap. -/
def Lays (op : Op) : Prop := ∀ s x, opA op P a s = some x → ∃ (v : Pos → AV) (blk : ABlk), isDead blk = false ∧ x = .val (v s.n) (s.push blk) ∧ ∀ s', opA op P a s' = some (.val (v s'.n) (s'.push blk))
theorem lays_op {op : Op} (h : clsO P op = 1) : Lays P a op := by
  intro s x hx
  cases op <;> first | (cases h; done) | skip
  case convert s d x => exfalso; simp only [clsO] at h; split at h <;> cases h
  case call c => exfalso; simp only [clsO] at h; split at h <;> cases h
  case alloc t =>
    obtain ⟨z, hz, hx⟩ := obind_some.1 (show Vai.obind (zeroT P t) (fun z => Vai.cnd (ones z.cells) (some (ARes.val (.ptr s.n 0) (s.row t z.cells))) none) = some x from hx)
    obtain ⟨ho, hx⟩ := cnd_none.1 hx
    cases hx
    refine ⟨fun n => .ptr n 0, _, rfl, rfl, fun s' => ?_⟩
    show Vai.obind (zeroT P t) (fun z => Vai.cnd (ones z.cells) (some (ARes.val (.ptr s'.n 0) (s'.row t z.cells))) none) = _
    rw [hz]
    show Vai.cnd (ones z.cells) _ _ = _
    rw [ho]
    rfl
  case box t y =>
    obtain ⟨z, hz, hx⟩ := obind_some.1 (show Vai.obind (a.eval P y) (fun v => Vai.cnd (ones v.cells) (some (ARes.val (.ptr s.n 0) (s.row t v.cells))) none) = some x from hx)
    obtain ⟨ho, hx⟩ := cnd_none.1 hx
    cases hx
    refine ⟨fun n => .ptr n 0, _, rfl, rfl, fun s' => ?_⟩
    show Vai.obind (a.eval P y) (fun v => Vai.cnd (ones v.cells) (some (ARes.val (.ptr s'.n 0) (s'.row t v.cells))) none) = _
    rw [hz]
    show Vai.cnd (ones z.cells) _ _ = _
    rw [ho]
    rfl
  case buildSlice t n ps =>
    obtain ⟨vs, hvs, hx⟩ := obind_some.1 (show Vai.obind (evals P a (ps.toList.map (·.2))) (fun vs => buildSliceA P t n (ps.toList.map (·.1)) vs s) = some x from hx)
    obtain ⟨e, he, hx⟩ := obind_some.1 hx
    obtain ⟨zs, hzs, hx⟩ := obind_some.1 hx
    obtain ⟨cs, hcs, rfl⟩ := omap_some.1 hx
    refine ⟨fun m => .slice m 0 n true true, _, rfl, rfl, fun s' => ?_⟩
    show Vai.obind (evals P a (ps.toList.map (·.2))) (fun vs => Vai.obind (elemT P t) fun e => Vai.obind (planS P e n (ps.toList.map (·.1))) fun zs => Vai.omap (joinA zs vs) fun cs => ARes.val (.slice s'.n 0 n true true) (s'.row e cs)) = _
    rw [hvs]
    show Vai.obind (elemT P t) _ = _
    rw [he]
    show Vai.obind (planS P e n (ps.toList.map (·.1))) _ = _
    rw [hzs]
    show Vai.omap (joinA zs vs) _ = _
    rw [hcs]
    rfl
  case makeMap t r =>
    cases r with
    | none => cases hx; exact ⟨fun n => .map n, _, rfl, rfl, fun s' => rfl⟩
    | some y => cases hx
  case makeSlice t l c =>
    obtain ⟨lv, hl, hx⟩ := obind_some.1 hx
    obtain ⟨cv, hc, hx⟩ := obind_some.1 hx
    obtain ⟨ln, hln, hx⟩ := obind_some.1 hx
    obtain ⟨cn, hcn, hx⟩ := obind_some.1 hx
    obtain ⟨e, he, hx⟩ := obind_some.1 hx
    obtain ⟨by_, hby, hx⟩ := obind_some.1 hx
    obtain ⟨sz, hsz, hx⟩ := obind_some.1 hx
    obtain ⟨z, hz, hx⟩ := obind_some.1 hx
    obtain ⟨hb, hx⟩ := cnd_none.1 hx
    cases hx
    refine ⟨fun m => .slice m 0 ln (Nat.beq ln cn) true, _, rfl, rfl, fun s' => ?_⟩
    show Vai.obind (a.eval P l) _ = _
    rw [hl]
    show Vai.obind (a.eval P c) _ = _
    rw [hc]
    show Vai.obind (natA lv) _ = _
    rw [hln]
    show Vai.obind (natA cv) _ = _
    rw [hcn]
    show Vai.obind (elemT P t) _ = _
    rw [he]
    show Vai.obind (bytesT P e) _ = _
    rw [hby]
    show Vai.obind (sizeT P e) _ = _
    rw [hsz]
    show Vai.obind (zeroT P e) _ = _
    rw [hz]
    show Vai.cnd _ _ _ = _
    rw [hb]
    rfl
end
end Go.Proofs.Vai
/- Drawn regions, second part: operations hang on their operands; equal values; what is checked. -/
namespace Go.Proofs.Vai
open Go Go.RowKit
variable [Env]

section
variable {P : Program}

theorem evals_congr {a a' : AAct} : ∀ {l : List Operand}, (∀ x ∈ l, a.eval P x = a'.eval P x) → evals P a l = evals P a' l
  | [], _ => rfl
  | x :: l, h => by
    show obind (a.eval P x) (fun v => obind (evals P a l) fun vs => some (v :: vs)) = obind (a'.eval P x) (fun v => obind (evals P a' l) fun vs => some (v :: vs))
    rw [h x (List.mem_cons_self ..), evals_congr fun y hy => h y (List.mem_cons_of_mem _ hy)]
theorem evalO_congr {a a' : AAct} {x : Option Operand} (h : ∀ y, x = some y → a.eval P y = a'.eval P y) : evalO P a x = evalO P a' x := by
  cases x with
  | none => rfl
  | some y =>
    show omap (a.eval P y) some = omap (a'.eval P y) some
    rw [h y rfl]
theorem opA_congr {op : Op} {a a' : AAct} {s : St} (h : ∀ x ∈ op.operands, a.eval P x = a'.eval P x) : opA op P a s = opA op P a' s := by
  cases op <;> simp only [Op.operands] at h
  case move x => show dMove x P a s = dMove x P a' s; unfold dMove; rw [h x (by simp)]
  case assign x => show dMove x P a s = dMove x P a' s; unfold dMove; rw [h x (by simp)]
  case pick c x y => show dPick c x y P a s = dPick c x y P a' s; unfold dPick; rw [h c (by simp), h x (by simp), h y (by simp)]
  case alloc t => rfl
  case box t x => show dBox t x P a s = dBox t x P a' s; unfold dBox; rw [h x (by simp)]
  case build t ps => show dBuild t ps P a s = dBuild t ps P a' s; unfold dBuild; rw [evals_congr fun x hx => h x (by simpa using hx)]
  case buildSlice t n ps => show dBuildSlice t n ps P a s = dBuildSlice t n ps P a' s; unfold dBuildSlice; rw [evals_congr fun x hx => h x (by simpa using hx)]
  case load t x => show dLoad t x P a s = dLoad t x P a' s; unfold dLoad; rw [h x (by simp)]
  case store t x y => show dStore t x y P a s = dStore t x y P a' s; unfold dStore; rw [h x (by simp), h y (by simp)]
  case nilCheck x => show dNilCheck x P a s = dNilCheck x P a' s; unfold dNilCheck; rw [h x (by simp)]
  case binOp op t x y _ => show dBin op t x y P a s = dBin op t x y P a' s; unfold dBin; rw [h x (by simp), h y (by simp)]
  case unOp op _ x => show dUn op x P a s = dUn op x P a' s; unfold dUn; rw [h x (by simp)]
  case convert sr d x => show dConv sr d x P a s = dConv sr d x P a' s; unfold dConv; rw [h x (by simp)]
  case makeInterface t x => show dIface t x P a s = dIface t x P a' s; unfold dIface; rw [h x (by simp)]
  case makeFunc fn f c =>
    cases fn <;> first | rfl | skip
    rename_i g
    show obind (evals P a f.toList) (fun b => omap (evals P a c.toList) fun c => ARes.val (.func g b c) s) = obind (evals P a' f.toList) (fun b => omap (evals P a' c.toList) fun c => ARes.val (.func g b c) s)
    rw [evals_congr (l := f.toList) fun x hx => h x (by simp at hx ⊢; exact .inl hx), evals_congr (l := c.toList) fun x hx => h x (by simp at hx ⊢; exact .inr hx)]
  case makeMap t r =>
    cases r with
    | none => rfl
    | some x => rfl
  case makeSlice t l c => show dMakeSlice t l c P a s = dMakeSlice t l c P a' s; unfold dMakeSlice; rw [h l (by simp), h c (by simp)]
  case slice t x lo hi mx =>
    show dSlice t x lo hi mx P a s = dSlice t x lo hi mx P a' s
    unfold dSlice
    rw [h x (by simp), evalO_congr (x := lo) fun y hy => h y (by subst hy; simp), evalO_congr (x := hi) fun y hy => h y (by subst hy; simp), evalO_congr (x := mx) fun y hy => h y (by subst hy; simp)]
  case fieldAddr t x f => show dFieldAddr t x f P a s = dFieldAddr t x f P a' s; unfold dFieldAddr; rw [h x (by simp)]
  case field t x f => show dField t x f P a s = dField t x f P a' s; unfold dField; rw [h x (by simp)]
  case indexAddr t x i => show dIndexAddr t x i P a s = dIndexAddr t x i P a' s; unfold dIndexAddr; rw [h x (by simp), h i (by simp)]
  case index t x i => show dIndex t x i P a s = dIndex t x i P a' s; unfold dIndex; rw [h x (by simp), h i (by simp)]
  case lookup t x k ok => show dLookup t x k ok P a s = dLookup t x k ok P a' s; unfold dLookup; rw [h x (by simp), h k (by simp)]
  case mapUpdate t m k x => show dMapUpdate t m k x P a s = dMapUpdate t m k x P a' s; unfold dMapUpdate; rw [h m (by simp), h k (by simp), h x (by simp)]
  case insert t m k x => show dMapUpdate t m k x P a s = dMapUpdate t m k x P a' s; unfold dMapUpdate; rw [h m (by simp), h k (by simp), h x (by simp)]
  case range t x => show dRange t x P a s = dRange t x P a' s; unfold dRange; rw [h x (by simp)]
  case next x str => show dNext x str P a s = dNext x str P a' s; unfold dNext; rw [h x (by simp)]
  case typeAssert x xt t ok => show dAssert x t ok P a s = dAssert x t ok P a' s; unfold dAssert; rw [h x (by simp)]
  case extract x i => show dExtract x i P a s = dExtract x i P a' s; unfold dExtract; rw [h x (by simp)]
  case panic x => show dPanic x P a s = dPanic x P a' s; unfold dPanic; rw [h x (by simp)]
  case call c =>
    have hargs : evals P a c.args.toList = evals P a' c.args.toList := evals_congr fun x hx => h x (by simp [Call.operands]; simp at hx; exact .inr hx)
    show dCall c P a s = dCall c P a' s
    unfold dCall
    rw [hargs]
    congr 1
    funext args
    cases hc : c.callee with
    | value f =>
      show obind (a.eval P f) (oCall P args s) = obind (a'.eval P f) (oCall P args s)
      rw [h f (by simp [Call.operands, hc])]
    | builtin b => rfl
    | invoke _ _ => rfl
  case defer c =>
    have hargs : evals P a c.args.toList = evals P a' c.args.toList := evals_congr fun x hx => h x (by simp [Call.operands]; simp at hx; exact .inr hx)
    show dDefer c P a s = dDefer c P a' s
    unfold dDefer
    rw [hargs]
    congr 1
    funext args
    cases hc : c.callee with
    | value f =>
      show obind (a.eval P f) (oDefer args s) = obind (a'.eval P f) (oDefer args s)
      rw [h f (by simp [Call.operands, hc])]
    | builtin b => rfl
    | invoke _ _ => rfl
  all_goals rfl

/-! ### Equal values -/
theorem eqL_eq {r : AV → AV → Bool} (hr : ∀ x y, r x y = true → x = y) : ∀ {xs ys : List AV}, eqL r xs ys = true → xs = ys
  | [], [], _ => rfl
  | [], _ :: _, h => by cases h
  | _ :: _, [], h => by cases h
  | x :: xs, y :: ys, h => by
    replace h : cnd (r x y) (eqL r xs ys) false = true := h
    cases hc : r x y with
    | false => rw [hc] at h; cases h
    | true =>
      rw [hc] at h
      rw [hr x y hc, eqL_eq hr (show eqL r xs ys = true from h)]
theorem eqAV_eq : ∀ (n : Nat) (x y : AV), eqAV n x y = true → x = y := by
  intro n
  induction n with
  | zero => intro x y h; cases h
  | succ n ih =>
    intro x y h
    replace h : eqAVB (eqAV n) x y = true := h
    unfold eqAVB at h
    cases x <;> cases y <;> first | rfl | (cases h; done) | skip
    all_goals try simp only [Bool.and_eq_true] at h
    · rw [eq_of_beq h]
    · rw [eqK_eq, eqI_eq] at h; rw [of_decide_eq_true h.1, eq_of_beq h.2]
    · rw [of_decide_eq_true h.1, Nat.eq_of_beq_eq_true h.2]
    · rw [eqS_eq] at h; rw [eq_of_beq h]
    · rw [eqP_eq h.1, Nat.eq_of_beq_eq_true h.2]
    · obtain ⟨⟨⟨⟨h1, h2⟩, h3⟩, h4⟩, h5⟩ := h
      rw [eqP_eq h1, Nat.eq_of_beq_eq_true h2, Nat.eq_of_beq_eq_true h3, eq_of_beq h4, eq_of_beq h5]
    · rw [eqP_eq h]
    · obtain ⟨⟨h1, h2⟩, h3⟩ := h
      rw [show _ = _ from Nat.eq_of_beq_eq_true h1, eqL_eq ih h2, eqL_eq ih h3]
    · rw [eqP_eq h]
    · rw [show _ = _ from Nat.eq_of_beq_eq_true h.1, ih _ _ h.2]
    · rw [eqL_eq ih h]
    · rw [eqL_eq ih h]
    · rw [Nat.eq_of_beq_eq_true h]
end
end Go.Proofs.Vai
/- Drawn regions, third part: what the static check says. -/
namespace Go.Proofs.Vai
open Go Go.RowKit
variable [Env]

section
variable {P : Program}

theorem aheadOne_bit (done : List Nat) (i j : Nat) : ∀ es : List Edge, Nat.testBit (aheadOne done i es) j = true → ∃ e ∈ es, Region.binds .any e = true ∧ e.on < i ∧ (e.on = j ∨ Nat.testBit (done.getD (i - 1 - e.on) 0) j = true)
  | [], h => by simp [aheadOne] at h
  | e :: es, h => by
    unfold aheadOne at h
    cases hc : (Region.binds .any e && Nat.blt e.on i) with
    | false =>
      rw [hc] at h
      obtain ⟨e', he', h'⟩ := aheadOne_bit done i j es h
      exact ⟨e', List.mem_cons_of_mem _ he', h'⟩
    | true =>
      rw [hc, cond_true] at h
      rw [Bool.and_eq_true] at hc
      have hlt : e.on < i := by simpa [Nat.blt_eq] using hc.2
      have h : Nat.testBit (((1 <<< e.on) ||| done.getD (i - 1 - e.on) 0) ||| aheadOne done i es) j = true := h
      rw [Nat.testBit_or, Nat.testBit_or, Bool.or_eq_true, Bool.or_eq_true] at h
      rcases h with (h | h) | h
      · refine ⟨e, List.mem_cons_self .., hc.1, hlt, .inl ?_⟩
        rw [Nat.one_shiftLeft, Nat.testBit_two_pow] at h
        exact of_decide_eq_true h
      · exact ⟨e, List.mem_cons_self .., hc.1, hlt, .inr h⟩
      · obtain ⟨e', he', h'⟩ := aheadOne_bit done i j es h
        exact ⟨e', List.mem_cons_of_mem _ he', h'⟩
theorem aheadGo_spec : ∀ (l : List Oper) (done : List Nat) (i : Nat), done.length = i → ∃ rest, aheadGo l done i = done.reverse ++ rest ∧ rest.length = l.length ∧
    ∀ k o, l[k]? = some o → (done.reverse ++ rest).getD (i + k) 0 = aheadOne ((done.reverse ++ rest).take (i + k)).reverse (i + k) o.after.toList
  | [], done, i, h => ⟨[], by simp [aheadGo], rfl, fun k o hk => by simp at hk⟩
  | o :: l, done, i, h => by
    obtain ⟨rest, h1, h2, h3⟩ := aheadGo_spec l (aheadOne done i o.after.toList :: done) (i + 1) (by simp [h])
    refine ⟨aheadOne done i o.after.toList :: rest, by unfold aheadGo; rw [h1]; simp, by simp [h2], fun k o' hk => ?_⟩
    have e : done.reverse ++ aheadOne done i o.after.toList :: rest = (aheadOne done i o.after.toList :: done).reverse ++ rest := by simp
    cases k with
    | zero =>
      simp at hk
      subst hk
      have hl : done.reverse.length = i := by simp [h]
      rw [Nat.add_zero, List.getD_eq_getElem?_getD, List.getElem?_append_right (by omega), hl]
      simp only [Nat.sub_self, List.getElem?_cons_zero, Option.getD_some]
      rw [← hl, List.take_left, List.reverse_reverse]
    | succ k =>
      rw [e, show i + (k + 1) = i + 1 + k from by omega]
      exact h3 k o' (by simpa using hk)
/-- What stands ahead, stands ahead by an edge or by way of one. -/
theorem bit_edge {ops : List Oper} {i j : Nat} {o : Oper} (ho : ops[i]? = some o) (h : bit (ahead ops) i j = true) : ∃ e ∈ o.after.toList, Region.binds .any e = true ∧ e.on < i ∧ (e.on = j ∨ bit (ahead ops) e.on j = true) := by
  obtain ⟨rest, h1, h2, h3⟩ := aheadGo_spec ops [] 0 rfl
  have hA : ahead ops = rest := by unfold ahead; rw [h1]; simp
  have := h3 i o ho
  simp only [List.reverse_nil, List.nil_append, Nat.zero_add] at this
  unfold bit at h ⊢
  rw [hA] at h ⊢
  rw [this] at h
  obtain ⟨e, he, hb, hlt, hor⟩ := aheadOne_bit _ _ _ _ h
  refine ⟨e, he, hb, hlt, hor.imp id fun hq => ?_⟩
  have hil : i < rest.length := by rw [h2]; exact (List.getElem?_eq_some_iff.1 ho).1
  rw [List.getD_eq_getElem?_getD, List.getElem?_reverse (by simp; omega)] at hq
  simp only [List.length_take, Nat.min_eq_left (Nat.le_of_lt hil)] at hq
  rw [List.getElem?_take, if_pos (by omega), show i - 1 - (i - 1 - e.on) = e.on from by omega] at hq
  rw [List.getD_eq_getElem?_getD]
  exact hq
theorem bit_none {ops : List Oper} {i j : Nat} (ho : ops[i]? = none) : bit (ahead ops) i j = false := by
  obtain ⟨rest, h1, h2, h3⟩ := aheadGo_spec ops [] 0 rfl
  have hA : ahead ops = rest := by unfold ahead; rw [h1]; simp
  unfold bit
  rw [hA, List.getD_eq_getElem?_getD, List.getElem?_eq_none (by rw [h2]; exact List.getElem?_eq_none_iff.1 ho)]
  simp
theorem bit_lt {ops : List Oper} : ∀ (i j : Nat), bit (ahead ops) i j = true → j < i := by
  intro i
  induction i using Nat.strongRecOn with
  | _ i ih =>
    intro j h
    cases ho : ops[i]? with
    | none => rw [bit_none ho] at h; cases h
    | some o =>
      obtain ⟨e, _, _, hlt, rfl | hb⟩ := bit_edge ho h
      · exact hlt
      · exact Nat.lt_trans (ih e.on hlt j hb) hlt

/-- The static check, as facts. -/
structure Fit (P : Program) (ops : List Oper) : Prop where
  dst : ∀ (i j : Nat) (o o' : Oper) (d : Tmp), i < j → ops[i]? = some o → ops[j]? = some o' → o.dst = some d → o'.dst ≠ some d
  reads : ∀ (i : Nat) (o : Oper) (t : Tmp), ops[i]? = some o → t ∈ tmpsO o.op.operands.toList → ∀ (j : Nat) (o' : Oper), ops[j]? = some o' → o'.dst = some t → bit (ahead ops) i j = true ∨ bit (ahead ops) j i = true
  guard : ∀ (i : Nat) (o : Oper) (g : Nat × Bool), ops[i]? = some o → o.guard = some g → bit (ahead ops) i g.1 = true
  cls : ∀ (i : Nat) (o : Oper), ops[i]? = some o → clsO P o.op ≠ 3
  text : ∀ (i : Nat) (o : Oper), ops[i]? = some o → ∀ e ∈ o.after.toList, Region.binds .text e = true → e.on < i
  heavy : ∀ (i j : Nat) (o o' : Oper), i < j → ops[i]? = some o → ops[j]? = some o' → clsO P o.op = 2 → clsO P o'.op = 2 → bit (ahead ops) j i = true
  gc : departsA ops = true → ∃ ρ : Nat → Nat, ∀ (i : Nat) (o : Oper), ops[i]? = some o → ∀ e ∈ o.after.toList, Region.binds .gc e = true → e.on < ops.length ∧ ρ e.on < ρ i

theorem dstFree_spec {d : Tmp} : ∀ {l : List Oper}, dstFree d l = true → ∀ (j : Nat) (o : Oper), l[j]? = some o → o.dst ≠ some d
  | [], _, j, o, h => by simp at h
  | p :: l, hf, j, o, h => by
    unfold dstFree at hf
    rw [Bool.and_eq_true] at hf
    cases j with
    | zero =>
      simp at h
      subst h
      intro e
      rw [e] at hf
      simp at hf
    | succ j => exact dstFree_spec hf.2 j o (by simpa using h)
theorem dstsOk_spec : ∀ {l : List Oper}, dstsOk l = true → ∀ (i j : Nat) (o o' : Oper) (d : Tmp), i < j → l[i]? = some o → l[j]? = some o' → o.dst = some d → o'.dst ≠ some d
  | [], _, i, j, o, o', d, hij, h, _, _ => by simp at h
  | p :: l, hf, i, j, o, o', d, hij, h, h', hd => by
    unfold dstsOk at hf
    rw [Bool.and_eq_true] at hf
    cases i with
    | zero =>
      simp at h
      subst h
      rw [hd] at hf
      cases j with
      | zero => omega
      | succ j => exact dstFree_spec hf.1 j o' (by simpa using h')
    | succ i => cases j with
      | zero => omega
      | succ j => exact dstsOk_spec hf.2 i j o o' d (by omega) (by simpa using h) (by simpa using h') hd
theorem readOk_spec {b : List Nat} {i : Nat} {t : Tmp} : ∀ {l : List Oper} {j : Nat}, readOk b i t l j = true → ∀ (k : Nat) (o : Oper), l[k]? = some o → o.dst = some t → bit b i (j + k) = true ∨ bit b (j + k) i = true
  | [], _, _, k, o, h, _ => by simp at h
  | p :: l, j, hf, k, o, h, hd => by
    unfold readOk at hf
    rw [Bool.and_eq_true] at hf
    cases k with
    | zero =>
      simp at h
      subst h
      rw [hd] at hf
      simpa [Bool.or_eq_true] using hf.1
    | succ k =>
      have := readOk_spec hf.2 k o (by simpa using h) hd
      rwa [show j + 1 + k = j + (k + 1) from by omega] at this
theorem heavyOk_spec {b : List Nat} {j : Nat} : ∀ {l : List Oper} {i : Nat}, heavyOk P b j l i = true → ∀ (k : Nat) (o : Oper), l[k]? = some o → i + k < j → clsO P o.op = 2 → bit b j (i + k) = true
  | [], _, _, k, o, h, _, _ => by simp at h
  | p :: l, i, hf, k, o, h, hlt, hc => by
    unfold heavyOk at hf
    rw [Bool.and_eq_true] at hf
    cases k with
    | zero =>
      simp at h
      subst h
      have : (Nat.blt i j && Nat.beq (clsO P p.op) 2) = true := by
        rw [hc]
        simp only [Bool.and_eq_true]
        exact ⟨by simpa [Nat.blt_eq] using hlt, rfl⟩
      rw [this] at hf
      simpa using hf.1
    | succ k =>
      have := heavyOk_spec hf.2 k o (by simpa using h) (by omega) hc
      rwa [show i + 1 + k = i + (k + 1) from by omega] at this
theorem opsOk_spec {b : List Nat} {all : List Oper} : ∀ {l : List Oper} {i : Nat}, opsOk P b all l i = true → ∀ (k : Nat) (o : Oper), l[k]? = some o →
    (∀ t ∈ tmpsO o.op.operands.toList, readOk b (i + k) t all 0 = true) ∧ (∀ g, o.guard = some g → bit b (i + k) g.1 = true) ∧ clsO P o.op ≠ 3 ∧ (∀ e ∈ o.after.toList, Region.binds .text e = true → e.on < i + k) ∧
      (clsO P o.op = 2 → heavyOk P b (i + k) all 0 = true)
  | [], _, _, k, o, h => by simp at h
  | p :: l, i, hf, k, o, h => by
    unfold opsOk at hf
    simp only [Bool.and_eq_true] at hf
    obtain ⟨⟨⟨⟨⟨h1, h2⟩, h3⟩, h4⟩, h5⟩, h6⟩ := hf
    cases k with
    | zero =>
      simp at h
      subst h
      refine ⟨fun t ht => List.all_eq_true.1 h1 t ht, fun g hg => ?_, fun hc => ?_, fun e he hb => ?_, fun hc => ?_⟩
      · rw [hg] at h2; exact h2
      · rw [hc] at h3; cases h3
      · have := List.all_eq_true.1 h4 e he
        rw [hb] at this
        simpa [Nat.blt_eq] using this
      · rw [hc] at h5; exact h5
    | succ k =>
      have := opsOk_spec h6 k o (by simpa using h)
      rwa [show i + 1 + k = i + (k + 1) from by omega] at this
theorem gcOk_spec {n : Nat} {R : List Nat} : ∀ {l : List Oper} {i : Nat}, gcOk n R l i = true → ∀ (k : Nat) (o : Oper), l[k]? = some o → ∀ e ∈ o.after.toList, Region.binds .gc e = true → e.on < n ∧ posIn e.on R < posIn (i + k) R
  | [], _, _, k, o, h => by simp at h
  | p :: l, i, hf, k, o, h => by
    intro e he hb
    unfold gcOk at hf
    rw [Bool.and_eq_true] at hf
    cases k with
    | zero =>
      simp at h
      subst h
      have := List.all_eq_true.1 hf.1 e he
      rw [hb] at this
      simpa [Nat.blt_eq] using this
    | succ k =>
      have := gcOk_spec hf.2 k o (by simpa using h) e he hb
      rwa [show i + 1 + k = i + (k + 1) from by omega] at this
theorem fit_of {ops : List Oper} (h : drawOk P ops = true) : Fit P ops := by
  unfold drawOk at h
  rw [Bool.and_eq_true, Bool.and_eq_true] at h
  obtain ⟨⟨h1, h2⟩, h3⟩ := h
  have hs := fun k o ho => opsOk_spec h2 k o ho
  simp only [Nat.zero_add] at hs
  refine ⟨dstsOk_spec h1, fun i o t ho ht j o' ho' hd => ?_, fun i o g ho hg => (hs i o ho).2.1 g hg, fun i o ho => (hs i o ho).2.2.1, fun i o ho e he hb => (hs i o ho).2.2.2.1 e he hb, fun i j o o' hij ho ho' hc hc' => ?_, fun hd => ?_⟩
  · have := readOk_spec ((hs i o ho).1 t ht) j o' ho' hd
    simpa using this
  · have := heavyOk_spec ((hs j o' ho').2.2.2.2 hc') i o ho (by omega) hc
    simpa using this
  · rw [hd, cond_true] at h3
    refine ⟨fun i => posIn i (Region.linearise .gc ops.toArray 0), fun i o ho e he hb => ?_⟩
    have := gcOk_spec h3 i o ho e he hb
    simpa using this
end
end Go.Proofs.Vai
/- Drawn regions, fourth part: what has been seen in the text's order. -/
namespace Go.Proofs.Vai
open Go Go.RowKit
variable [Env]

section
variable {P : Program}

theorem toN_eq (p : Pos) : toN p = p.toNat := by
  induction p with
  | one => rfl
  | o p ih => show Nat.succ (2 * toN p) = 2 * p.toNat + 1; rw [ih]
  | i p ih => show Nat.succ (Nat.succ (2 * toN p)) = 2 * p.toNat + 2; rw [ih]
/-- What one operation came to. -/
inductive StepC (P : Program) (r : Rec) (o : Oper) (a : AAct) (s : St) : Bool → AV → St → Prop
  | no : StepC P r o a s false .undef s
  | val (v : AV) (s1 : St) (h : opA o.op P a s = some (.val v s1)) : StepC P r o a s true v s1
  | skip (s1 : St) (h : opA o.op P a s = some (.skip s1)) : StepC P r o a s true .undef s1
  | enter (f : FuncId) (args : List AV) (s0 : St) (v : AV) (rc : Option AMode) (s1 : St) (h : opA o.op P a s = some (.enter f args s0)) (hr : r (.call f args none) a s0 = some (.fin (.returned v) rc s1)) : StepC P r o a s true v s1
  | round (l : Pos) (args : List AV) (s0 : St) (v : AV) (rc : Option AMode) (s1 : St) (h : opA o.op P a s = some (.round l args s0)) (hr : r (.round l args) a s0 = some (.fin (.returned v) rc s1)) : StepC P r o a s true v s1
/-- What has been seen, by number; B: what is never done. -/
structure Trc (P : Program) (r : Rec) (all l : List Oper) (i : Nat) (tels : List Tel) (A : Nat → AAct) (S : Nat → St) (B : Nat → Bool) : Prop where
  len : tels.length = l.length
  tel : ∀ (k : Nat) (t : Tel), tels[k]? = some t → l[k]? = some t.o ∧ t.i = i + k ∧ t.a = A k ∧ t.s = S k ∧ (B k = false → wantedA all (A k) t.o.guard = some t.w) ∧
    ((B k = false → StepC P r t.o (A k) (S k) t.w t.v (S (k + 1))) ∧ (B k = true → t.w = false ∧ t.v = .undef ∧ S (k + 1) = S k)) ∧
    (S k).n.toNat ≤ (S (k + 1)).n.toNat ∧ (A k).put t.o.dst t.v = some (A (k + 1))
theorem drawPut_some {o : Oper} {k : Nat → AAct → St → Option Tq} {i : Nat} {a : AAct} {s : St} {w : Bool} {v : AV} {s' : St} {q : Tq} (h : drawPut o k i a s w v s' = some q) :
    s.n.toNat ≤ s'.n.toNat ∧ ∃ a' q', a.put o.dst v = some a' ∧ k (i + 1) a' s' = some q' ∧ q = (⟨i, o, a, s, w, v⟩ :: q'.1, q'.2) := by
  obtain ⟨h1, h2⟩ := cnd_none.1 h
  rw [toN_eq, toN_eq] at h1
  obtain ⟨a', h3, h4⟩ := obind_some.1 h2
  obtain ⟨q', h5, h6⟩ := omap_some.1 h4
  exact ⟨Nat.le_of_ble_eq_true h1, a', q', h3, h5, h6.symm⟩
/-- One operation that panics. -/
inductive PanC (P : Program) (r : Rec) (o : Oper) (a : AAct) (s : St) : AChain → St → Prop
  | enter (f : FuncId) (args : List AV) (s0 : St) (c : AChain) (rc : Option AMode) (s1 : St) (h : opA o.op P a s = some (.enter f args s0)) (hr : r (.call f args none) a s0 = some (.fin (.panicked c) rc s1)) : PanC P r o a s c s1
  | round (l : Pos) (args : List AV) (s0 : St) (c : AChain) (rc : Option AMode) (s1 : St) (h : opA o.op P a s = some (.round l args s0)) (hr : r (.round l args) a s0 = some (.fin (.panicked c) rc s1)) : PanC P r o a s c s1
theorem drawFin_some {o : Oper} {k : Nat → AAct → St → Option Tq} {i : Nat} {a : AAct} {s : St} {x : Out} {q : Tq} (h : drawFin o k i a s x = some q) :
    (∃ v rc s', x = .fin (.returned v) rc s' ∧ drawPut o k i a s true v s' = some q) ∨ ∃ c rc s', x = .fin (.panicked c) rc s' ∧ q = ([], .pan o a s c s') := by
  cases x with
  | «at» => cases h
  | fin e rc s' => cases e with
    | returned v => exact .inl ⟨v, rc, s', rfl, h⟩
    | panicked c => cases h; exact .inr ⟨c, rc, s', rfl, rfl⟩
/-- Where what has been seen ends. -/
def EndC (P : Program) (r : Rec) (all l : List Oper) (n : Nat) (A : Nat → AAct) (S : Nat → St) : DEnd → Prop
  | .done a s => n = l.length ∧ A n = a ∧ S n = s
  | .pan o a s c s1 => l[n]? = some o ∧ A n = a ∧ S n = s ∧ wantedA all (A n) o.guard = some true ∧ PanC P r o (A n) (S n) c s1
theorem drawOps_trc {r : Rec} {all : List Oper} : ∀ (l : List Oper) (i : Nat) (a : AAct) (s : St) (q : Tq), drawOps P all r l i a s = some q →
    ∃ A S, A 0 = a ∧ S 0 = s ∧ q.1.length ≤ l.length ∧ EndC P r all l q.1.length A S q.2 ∧ Trc P r all (l.take q.1.length) i q.1 A S fun _ => false
  | [], i, a, s, q, h => by
    cases h
    exact ⟨fun _ => a, fun _ => s, rfl, rfl, Nat.le_refl _, ⟨rfl, rfl, rfl⟩, rfl, fun k t h => by simp at h⟩
  | o :: l, i, a, s, q, h => by
    obtain ⟨w, hw, h⟩ := obind_some.1 (show obind (wantedA all a o.guard) (drawOp P r o (drawOps P all r l) i a s) = some q from h)
    have key : (∃ v s1, StepC P r o a s w v s1 ∧ drawPut o (drawOps P all r l) i a s w v s1 = some q) ∨ ∃ c s1, w = true ∧ PanC P r o a s c s1 ∧ q = ([], .pan o a s c s1) := by
      cases w with
      | false => exact .inl ⟨.undef, s, .no, h⟩
      | true =>
        obtain ⟨x, hx, h⟩ := obind_some.1 (show obind (opA o.op P a s) (drawRes r o (drawOps P all r l) i a s) = some q from h)
        cases x with
        | val v s1 => exact .inl ⟨v, s1, .val v s1 hx, h⟩
        | skip s1 => exact .inl ⟨.undef, s1, .skip s1 hx, h⟩
        | enter f args s0 =>
          obtain ⟨y, hy, h⟩ := obind_some.1 (show obind (r (.call f args none) a s0) (drawFin o (drawOps P all r l) i a s) = some q from h)
          rcases drawFin_some h with ⟨v, rc, s1, rfl, hk⟩ | ⟨c, rc, s1, rfl, hk⟩
          · exact .inl ⟨v, s1, .enter f args s0 v rc s1 hx hy, hk⟩
          · exact .inr ⟨c, s1, rfl, .enter f args s0 c rc s1 hx hy, hk⟩
        | round lp args s0 =>
          obtain ⟨y, hy, h⟩ := obind_some.1 (show obind (r (.round lp args) a s0) (drawFin o (drawOps P all r l) i a s) = some q from h)
          rcases drawFin_some h with ⟨v, rc, s1, rfl, hk⟩ | ⟨c, rc, s1, rfl, hk⟩
          · exact .inl ⟨v, s1, .round lp args s0 v rc s1 hx hy, hk⟩
          · exact .inr ⟨c, s1, rfl, .round lp args s0 c rc s1 hx hy, hk⟩
        | _ => cases h
    rcases key with ⟨v, s1, hst, hp⟩ | ⟨c, s1, rfl, hpan, rfl⟩
    · obtain ⟨hle, a', q', h3, h5, rfl⟩ := drawPut_some hp
      obtain ⟨A, S, rfl, rfl, hlen, hE, hT⟩ := drawOps_trc l (i + 1) a' s1 q' h5
      refine ⟨fun k => match k with | 0 => a | k + 1 => A k, fun k => match k with | 0 => s | k + 1 => S k, rfl, rfl, Nat.succ_le_succ hlen, ?_, ?_⟩
      · show EndC P r all (o :: l) (q'.1.length + 1) _ _ q'.2
        cases hq2 : q'.2 with
        | done a2 s2 => rw [hq2] at hE; exact ⟨congrArg (· + 1) hE.1, hE.2⟩
        | pan o2 a2 s2 c2 s3 => rw [hq2] at hE; exact ⟨(by rw [List.getElem?_cons_succ]; exact hE.1), hE.2⟩
      · show Trc P r all (o :: l.take q'.1.length) i _ _ _ _
        refine ⟨congrArg (· + 1) hT.len, fun k t ht => ?_⟩
        cases k with
        | zero =>
          simp at ht
          subst ht
          exact ⟨rfl, rfl, rfl, rfl, fun _ => hw, ⟨fun _ => hst, fun h => by cases h⟩, hle, h3⟩
        | succ k =>
          obtain ⟨g1, g2, g3, g4, g5, g6, g7, g8⟩ := hT.tel k t (by simpa using ht)
          exact ⟨by simpa using g1, by omega, g3, g4, g5, g6, g7, g8⟩
    · exact ⟨fun _ => a, fun _ => s, rfl, rfl, Nat.zero_le _, ⟨rfl, rfl, rfl, hw, hpan⟩, rfl, fun k t h => by simp at h⟩

/-! ### The activation, by number -/
theorem put_facts {a a' : AAct} {d : Option Tmp} {v : AV} (h : a.put d v = some a') : a'.n = a.n ∧ a'.defers = a.defers ∧ a'.rc = a.rc ∧ (∀ t, a'.tmp t = if d = some t then v else a.tmp t) ∧ ∀ t, d = some t → t < a.n := by
  cases d with
  | none => cases h; exact ⟨rfl, rfl, rfl, fun t => by simp, fun t h => by cases h⟩
  | some d =>
    obtain ⟨tm, n, df, rc⟩ := a
    obtain ⟨h1, h2⟩ := cnd_none.1 (show cnd (Nat.ble (Nat.succ d) n) (some (AAct.mk (tm.set (pos d) v) n df rc)) none = some a' from h)
    cases h2
    refine ⟨rfl, rfl, rfl, fun t => ?_, fun t ht => by cases ht; exact Nat.le_of_ble_eq_true h1⟩
    show orUndef ((tm.set (pos d) v).get (pos t)) = if some d = some t then v else orUndef (tm.get (pos t))
    by_cases hdt : d = t
    · subst hdt; rw [get_set_same, if_pos rfl]; rfl
    · rw [get_set_ne _ _ (fun e => hdt (pos_inj e)), if_neg (fun e => hdt (Option.some.inj e))]
section
variable {r : Rec} {ops : List Oper} {tels : List Tel} {A : Nat → AAct} {S : Nat → St} {B : Nat → Bool}
theorem Trc.get (hT : Trc P r ops ops 0 tels A S B) {k : Nat} (hk : k < ops.length) : ∃ t, tels[k]? = some t := ⟨_, List.getElem?_eq_getElem (by rw [hT.len]; exact hk)⟩
theorem Trc.lt (hT : Trc P r ops ops 0 tels A S B) {k : Nat} {t : Tel} (h : tels[k]? = some t) : k < ops.length := by rw [← hT.len]; exact (List.getElem?_eq_some_iff.1 h).1
theorem Trc.same (hT : Trc P r ops ops 0 tels A S B) : ∀ k, k ≤ ops.length → (A k).n = (A 0).n ∧ (A k).defers = (A 0).defers ∧ (A k).rc = (A 0).rc := by
  intro k
  induction k with
  | zero => intro _; exact ⟨rfl, rfl, rfl⟩
  | succ k ih =>
    intro hk
    obtain ⟨t, ht⟩ := hT.get (k := k) (by omega)
    obtain ⟨h1, h2, h3, _⟩ := put_facts (hT.tel k t ht).2.2.2.2.2.2.2
    obtain ⟨g1, g2, g3⟩ := ih (by omega)
    exact ⟨h1.trans g1, h2.trans g2, h3.trans g3⟩
/-- What no operation ahead has written is as it was. -/
theorem Trc.old (hT : Trc P r ops ops 0 tels A S B) {t : Tmp} : ∀ k, k ≤ ops.length → (∀ j o, j < k → ops[j]? = some o → o.dst ≠ some t) → (A k).tmp t = (A 0).tmp t := by
  intro k
  induction k with
  | zero => intro _ _; rfl
  | succ k ih =>
    intro hk hn
    obtain ⟨x, hx⟩ := hT.get (k := k) (by omega)
    have hp := hT.tel k x hx
    obtain ⟨_, _, _, h4, _⟩ := put_facts hp.2.2.2.2.2.2.2
    rw [h4 t, if_neg (hn k x.o (by omega) hp.1)]
    exact ih (by omega) fun j o hj ho => hn j o (by omega) ho
/-- What one has written stays. -/
theorem Trc.new (hF : Fit P ops) (hT : Trc P r ops ops 0 tels A S B) {t : Tmp} {j : Nat} {x : Tel} (hx : tels[j]? = some x) (hd : x.o.dst = some t) : ∀ k, j < k → k ≤ ops.length → (A k).tmp t = x.v := by
  intro k
  induction k with
  | zero => intro h _; omega
  | succ k ih =>
    intro hj hk
    obtain ⟨y, hy⟩ := hT.get (k := k) (by omega)
    have hp := hT.tel k y hy
    obtain ⟨_, _, _, h4, _⟩ := put_facts hp.2.2.2.2.2.2.2
    rw [h4 t]
    by_cases hjk : j = k
    · subst hjk
      rw [hx] at hy
      cases hy
      rw [if_pos hd]
    · rw [if_neg (hF.dst j k x.o y.o t (by omega) (hT.tel j x hx).1 hp.1 hd)]
      exact ih (by omega) (by omega)
/-- The counter goes up. -/
theorem Trc.mono (hT : Trc P r ops ops 0 tels A S B) {j k : Nat} (hjk : j ≤ k) (hk : k ≤ ops.length) : (S j).n.toNat ≤ (S k).n.toNat := by
  induction k with
  | zero => have : j = 0 := by omega
            subst this; exact Nat.le_refl _
  | succ k ih =>
    by_cases h : j = k + 1
    · subst h; exact Nat.le_refl _
    · obtain ⟨t, ht⟩ := hT.get (k := k) (by omega)
      exact Nat.le_trans (ih (by omega) (by omega)) (hT.tel k t ht).2.2.2.2.2.2.1
theorem cls_all (P : Program) (op : Op) : clsO P op = 0 ∨ clsO P op = 1 ∨ clsO P op = 2 ∨ clsO P op = 3 ∨ clsO P op = 4 := by
  unfold clsO
  split <;> (try split) <;> simp
/-- What a light operation does to the state. -/
theorem Trc.light (hF : Fit P ops) (hT : Trc P r ops ops 0 tels A S B) {j : Nat} {y : Tel} (hy : tels[j]? = some y) (hc : clsO P y.o.op ≠ 2) :
    (y.w = true ∧ clsO P y.o.op = 1 ∧ ∃ blk, isDead blk = false ∧ S (j + 1) = (S j).push blk) ∨ (¬ (y.w = true ∧ clsO P y.o.op = 1) ∧ S (j + 1) = S j) := by
  obtain ⟨ho, _, _, _, _, hst, _⟩ := hT.tel j y hy
  have h3 := hF.cls j y.o ho
  have key : ∀ x, opA y.o.op P (A j) (S j) = some x → (clsO P y.o.op = 1 ∧ ∃ v blk, isDead blk = false ∧ x = .val v ((S j).push blk)) ∨ (clsO P y.o.op ≠ 1 ∧ ∃ v, x = .val v (S j)) := by
    intro x hx
    rcases cls_all P y.o.op with h | h | h | h | h
    · obtain ⟨v, e⟩ := re_op P (A j) h (S j) x hx
      exact .inr ⟨by rw [h]; decide, v, e⟩
    · obtain ⟨v, blk, h2, h3, _⟩ := lays_op P (A j) h (S j) x hx
      exact .inl ⟨h, _, blk, h2, h3⟩
    · exact absurd h hc
    · exact absurd h h3
    · obtain ⟨v, e⟩ := (pu_op P (A j) h).re (S j) x hx
      exact .inr ⟨by rw [h]; decide, v, e⟩
  cases hB : B j with
  | true => obtain ⟨e1, _, e2⟩ := hst.2 hB; exact .inr ⟨fun q => (by rw [e1] at q; exact absurd q.1 (by decide)), e2⟩
  | false =>
  replace hst := hst.1 hB
  generalize hyw : y.w = yw at hst
  generalize y.v = yv at hst
  generalize S (j + 1) = sj at hst ⊢
  cases hst with
  | no => exact .inr ⟨(fun q => absurd q.1 (by decide)), rfl⟩
  | val _ _ hq =>
    rcases key _ hq with ⟨h1, v, blk, h2, e⟩ | ⟨h1, v, e⟩
    · cases e; exact .inl ⟨rfl, h1, blk, h2, rfl⟩
    · cases e; exact .inr ⟨fun q => h1 q.2, rfl⟩
  | skip _ hq => rcases key _ hq with ⟨h1, v, blk, h2, e⟩ | ⟨h1, v, e⟩ <;> cases e
  | enter f args s0 v rc s1 hq _ => rcases key _ hq with ⟨h1, v, blk, h2, e⟩ | ⟨h1, v, e⟩ <;> cases e
  | round l args s0 v rc s1 hq _ => rcases key _ hq with ⟨h1, v, blk, h2, e⟩ | ⟨h1, v, e⟩ <;> cases e
theorem Trc.lays (hF : Fit P ops) (hT : Trc P r ops ops 0 tels A S B) {j : Nat} {y : Tel} (hy : tels[j]? = some y) (hw : y.w = true) (hc : clsO P y.o.op = 1) : (S (j + 1)).n.toNat = (S j).n.toNat + 1 := by
  rcases hT.light hF hy (by rw [hc]; decide) with ⟨_, _, blk, _, e⟩ | ⟨h, _⟩
  · rw [e, push_n, Pos.toNat_succ]
  · exact absurd ⟨hw, hc⟩ h
end
end
end Go.Proofs.Vai
/- Drawn regions, fifth part: operations that look at no state, and those that lay one row. -/
namespace Go.Proofs.Vai
open Go Go.RowKit
variable [Env]

section
variable {P : Program} {N : Nat}

/-! ### A state of trivial blocks -/
noncomputable def ghostT (f : Nat → ABlk) : Nat → Tr ABlk
  | 0 => .nil
  | m + 1 => (ghostT f m).set (pos m) (f m)
theorem pos_of (b : Pos) : pos b.toNat = b := Pos.toNat_inj (pos_toNat _)
theorem ghostT_get (f : Nat → ABlk) (b : Pos) : ∀ m, (ghostT f m).get b = if b.toNat < m then some (f b.toNat) else none
  | 0 => by rw [if_neg (by omega)]; exact get_nil b
  | m + 1 => by
    show ((ghostT f m).set (pos m) (f m)).get b = _
    rw [get_set, ghostT_get f b m]
    by_cases h : pos m = b
    · have : b.toNat = m := by rw [← h, pos_toNat]
      rw [if_pos h, if_pos (by omega), this]
    · have : b.toNat ≠ m := fun e => h (by rw [← e, pos_of])
      rw [if_neg h]
      by_cases h2 : b.toNat < m
      · rw [if_pos h2, if_pos (by omega)]
      · rw [if_neg h2, if_neg (by omega)]
/-- Where a map's blocks lie. -/
structure Places (P : Program) (N : Nat) (μ : Inj) (w : World) (m : Nat) : Prop where
  dom : ∀ b e, μ b = some e → b.toNat < m
  lies : ∀ b e, μ b = some e → e.a.block < w.heap.size ∧ ((e.own = none ∧ e.a.block < N) ∨ N ≤ e.a.block)
  glob : ∀ g, g < P.globals.size → μ (pos g) = some ⟨⟨g, 0, none⟩, none⟩
  hN : N ≤ w.heap.size
  hn : Env.n ≤ N
  base : Env.base w
noncomputable def ghostB (N : Nat) (μ : Inj) (k : Nat) : ABlk :=
  match μ (pos k) with
  | some e => if e.a.block < N then .cells false 0 0 (.few []) else .dead
  | none => .dead
noncomputable def ghost (N : Nat) (μ : Inj) (m : Nat) : St := ⟨ghostT (ghostB N μ) m, pos m⟩
theorem Places.sr {μ : Inj} {w : World} {m : Nat} (h : Places P N μ w m) : SR P N μ (ghost N μ m) w := by
  have hb : ∀ b e, μ b = some e → (ghost N μ m).h.get b = some (if e.a.block < N then .cells false 0 0 (.few []) else .dead) := by
    intro b e he
    show (ghostT (ghostB N μ) m).get b = _
    rw [ghostT_get, if_pos (h.dom b e he)]
    unfold ghostB
    rw [pos_of, he]
  refine ⟨fun b e he => ⟨_, hb b e he, ?_⟩, ?_, fun b e he => ?_, h.hN, h.glob, h.hn, h.base⟩
  · obtain ⟨h1, h2⟩ := h.lies b e he
    by_cases hlt : e.a.block < N
    · rw [if_pos hlt]
      rcases h2 with ⟨h3, _⟩ | h3
      · exact ⟨h3, h1, fun i hi => absurd hi (Nat.not_lt_zero i)⟩
      · omega
    · rw [if_neg hlt]
      exact ⟨by omega, h1⟩
  · intro b b' e e' k k' he he' hk hk' hd hd' hN heq
    rw [hb b e he] at hk
    rw [if_neg (by omega)] at hk
    cases hk
    cases hd
  · show b.toNat < (pos m).toNat
    rw [pos_toNat]
    exact h.dom b e he
theorem SR.places {μ : Inj} {σ : St} {w : World} (h : SR P N μ σ w) : Places P N μ w σ.n.toNat := by
  refine ⟨h.lt, fun b e he => ?_, h.glob, h.hN, h.hn, h.base⟩
  obtain ⟨k, _, hbr⟩ := h.blk b e he
  refine ⟨hbr.lt, ?_⟩
  cases k with
  | cells own t len c => cases own with
    | true => obtain ⟨g, sz, cur, rfl, hN, _⟩ := hbr; exact .inr hN
    | false =>
      by_cases hlt : e.a.block < N
      · exact .inl ⟨hbr.1, hlt⟩
      · exact .inr (by omega)
  | map es => obtain ⟨g, en, cl, rfl, hN, _⟩ := hbr; exact .inr hN
  | siter s p => obtain ⟨g, bs, rfl, hN, _⟩ := hbr; exact .inr hN
  | loop lp => obtain ⟨g, r, rfl, hN, _⟩ := hbr; exact .inr hN
  | deferred d => obtain ⟨g, rfl, hN, _⟩ := hbr; exact .inr hN
  | dead => exact .inr hbr.1
  | mit m => obtain ⟨g, rfl, hN, _⟩ := hbr; exact .inr hN
  | frozen o => obtain ⟨g, rfl, hN, _⟩ := hbr; exact .inr hN

/-! ### Without the rows' sizes -/
def bare (μ : Inj) : Inj := fun b => (μ b).map fun e => ⟨e.a, none⟩
theorem bare_some {μ : Inj} {b : Pos} {e : Ent} (h : μ b = some e) : bare μ b = some ⟨e.a, none⟩ := by unfold bare; rw [h]; rfl
mutual
theorem VR.bare {μ : Inj} : ∀ {v : AV} {u : Value}, VR P μ v u → VR P (bare μ) v u
  | _, _, .bool b => .bool b
  | _, _, .int k n => .int k n
  | _, _, .float k n => .float k n
  | _, _, .str l s h => .str l s h
  | _, _, .ptr b o e h => .ptr b o ⟨e.a, none⟩ (bare_some h)
  | _, _, .nilptr => .nilptr
  | _, _, .slice b o n lim wh e ad c h had hn hm hl hc => .slice b o n lim wh ⟨e.a, none⟩ ad c (bare_some h) had hn hm hl (fun _ _ sz t hx => by cases hx)
  | _, _, .nilslice => .nilslice
  | _, _, .map b e h => .map b ⟨e.a, none⟩ (bare_some h)
  | _, _, .nilmap => .nilmap
  | _, _, .func f a b F C h1 h2 => .func f a b F C (VRs.bare h1) (VRs.bare h2)
  | _, _, .yield b e h => .yield b ⟨e.a, none⟩ (bare_some h)
  | _, _, .nilfunc => .nilfunc
  | _, _, .iface t v u h => .iface t v u (VR.bare h)
  | _, _, .niliface => .niliface
  | _, _, .agg cs C h ho => .agg cs C (VRs.bare h) ho
  | _, _, .tuple cs C h => .tuple cs C (VRs.bare h)
  | _, _, .bad v => .bad v
  | _, _, .sym i => .sym i
theorem VRs.bare {μ : Inj} : ∀ {v : List AV} {u : List Value}, VRs P μ v u → VRs P (bare μ) v u
  | _, _, .nil => .nil
  | _, _, .cons v u vs us h k => .cons v u vs us (VR.bare h) (VRs.bare k)
end
theorem DR.bare {μ : Inj} {d : ADef} {c : Deferred} (h : DR P μ d c) : DR P (bare μ) d c := by
  cases h with
  | fn f cap args C A hc ha => exact .fn f cap args C A hc.bare ha.bare
  | collected b e h => exact .collected b ⟨e.a, none⟩ (bare_some h)
theorem DRs.bare {μ : Inj} {d : List ADef} {c : List Deferred} (h : DRs P μ d c) : DRs P (bare μ) d c := by
  induction h with
  | nil => exact .nil
  | cons d c ds cs h _ ih => exact .cons d c _ _ h.bare ih
theorem AR.bare {μ : Inj} {a : AAct} {ca : Act} (h : AR P μ a ca) : AR P (bare μ) a ca := ⟨fun t => (h.tm t).bare, h.size, h.defers.bare⟩
theorem Places.bare {μ : Inj} {w : World} {m : Nat} (h : Places P N μ w m) : Places P w.heap.size (bare μ) w m := by
  have hb : ∀ b e, Vai.bare μ b = some e → ∃ e', μ b = some e' ∧ e = ⟨e'.a, none⟩ := by
    intro b e he
    obtain ⟨e', h1, h2⟩ := Option.map_eq_some_iff.1 he
    exact ⟨e', h1, h2.symm⟩
  refine ⟨fun b e he => ?_, fun b e he => ?_, fun g hg => bare_some (h.glob g hg), Nat.le_refl _, Nat.le_trans h.hn h.hN, h.base⟩
  · obtain ⟨e', h1, rfl⟩ := hb b e he; exact h.dom b e' h1
  · obtain ⟨e', h1, rfl⟩ := hb b e he
    exact ⟨(h.lies b e' h1).1, .inl ⟨rfl, (h.lies b e' h1).1⟩⟩

/-- Nothing that was there has turned. -/
structure Kept (w w' : World) : Prop where
  os : w'.os = w.os
  tape : w'.tape = w.tape
  output : w'.output = w.output
  size : w.heap.size ≤ w'.heap.size
  same : ∀ k, k < w.heap.size → w'.heap[k]? = w.heap[k]?
/-- CLASS 4. -/
theorem pure_sound (hP : NoNum P) {o : Oper} (h4 : clsO P o.op = 4) {a : AAct} {ca : Act} {μ : Inj} {w : World} {m : Nat} {v : AV} {s s1 : St} (hx : opA o.op P a s = some (.val v s1)) (ha : AR P μ a ca) (hp : Places P N μ w m) :
    ∃ u w', (execOp ca.eval o).run P w = .ok (.value u) w' ∧ VR P μ v u ∧ Kept w w' := by
  have hpu := pu_op P a h4
  obtain ⟨μ₁, u, w', hrun, hg, hv⟩ := opA_sound hP hp.sr ha (hpu.any hx (ghost N μ m))
  obtain ⟨μ₂, u₂, w₂, hrun₂, hg₂, _⟩ := opA_sound hP hp.bare.sr ha.bare (hpu.any hx (ghost w.heap.size (bare μ) m))
  rw [hrun] at hrun₂
  cases hrun₂
  refine ⟨u, w', hrun, hv.mono fun b e he => ?_, hg₂.ev.os, hg₂.ev.tape, hg₂.ev.output, hg₂.ev.size, fun k hk => hg₂.ev.same k hk (.inl hk)⟩
  rcases hg.fresh b e he with h | h
  · exact h
  · have := hg.sr.lt b e he
    omega
end
end Go.Proofs.Vai
/- Drawn regions, sixth part: operations that lay one row. -/
namespace Go.Proofs.Vai
open Go Go.RowKit
variable [Env]

section
variable {P : Program} {N : Nat}

/-- What laying one row is, wherever the row comes to lie. -/
structure Lay (P : Program) (N : Nat) (μ : Inj) (o : Oper) (a : AAct) (ca : Act) (v : Pos → AV) (blk : ABlk) (obj : Obj) (U : Nat → Value) (own : Option (Nat × TypeId)) : Prop where
  alive : isDead blk = false
  says : ∀ s, opA o.op P a s = some (.val (v s.n) (s.push blk))
  run : ∀ w : World, (execOp ca.eval o).run P w = .ok (.value (U w.heap.size)) (w.alloc obj)
  br : ∀ (g : Nat) (w' : World) (μ' : Inj), Sub μ μ' → N ≤ g → w'.heap[g]? = some obj → BR P N μ' w' blk ⟨⟨g, 0, none⟩, own⟩
  val : ∀ (n : Pos) (g : Nat) (μ' : Inj), μ' n = some ⟨⟨g, 0, none⟩, own⟩ → VR P μ' (v n) (U g)

theorem row_br {μ : Inj} {t : TypeId} {vs : List AV} {us : Array Value} (hv : VRs P μ vs us.toList) (ho : ones vs = true) (g : Nat) (w' : World) (μ' : Inj) (hs : Sub μ μ') (hN : N ≤ g) (hg : w'.heap[g]? = some (.cells us t (0, 0))) :
    BR P N μ' w' (.cells true t vs.length (.of vs)) ⟨⟨g, 0, none⟩, some (us.size, t)⟩ := by
  have hl : vs.length = us.size := by simpa using hv.length
  refine ⟨g, us.size, us, rfl, hN, hg, rfl, by omega, fun i hi => ?_⟩
  obtain ⟨v, hvi⟩ : ∃ v, vs[i]? = some v := ⟨vs[i], List.getElem?_eq_getElem hi⟩
  obtain ⟨u, hu, hr⟩ := hv.get hvi
  exact ⟨v, u, by rw [Cs.of_get]; exact hvi, by simpa using hu, hr.mono hs, ones_get ho hvi⟩
theorem ptr_at {μ' : Inj} {n : Pos} {g : Nat} {own : Option (Nat × TypeId)} (h : μ' n = some ⟨⟨g, 0, none⟩, own⟩) : VR P μ' (.ptr n 0) (.pointer (some ⟨g, 0, none⟩)) := by
  have := VR.ptr (P := P) (μ := μ') n 0 _ h
  simpa [add_nil] using this

theorem lay_sound {μ : Inj} {σ : St} {w : World} {o : Oper} (h1 : clsO P o.op = 1) {a : AAct} {ca : Act} (hs : SR P N μ σ w) (ha : AR P μ a ca) {s : St} {x : ARes} (hx : opA o.op P a s = some x) :
    ∃ v blk obj U own, Lay P N μ o a ca v blk obj U own := by
  cases ho : o.op <;> rw [ho] at h1 hx <;> first | (cases h1; done) | skip
  case convert s d x => exfalso; simp only [clsO] at h1; split at h1 <;> cases h1
  case call c => exfalso; simp only [clsO] at h1; split at h1 <;> cases h1
  case alloc t =>
    obtain ⟨z, hz, hx⟩ := obind_some.1 (show Vai.obind (zeroT P t) (fun z => Vai.cnd (ones z.cells) (some (ARes.val (.ptr s.n 0) (s.row t z.cells))) none) = some x from hx)
    obtain ⟨hon, hx⟩ := cnd_none.1 hx
    obtain ⟨zv, _, hzv, i, hi, hzz⟩ := zeroT_run (μ := μ) hz w
    have hrun : ∀ w : World, (zeroValue t).run P w = .ok zv w := fun w => by simp [zeroValue, run_info hi, hzz]
    refine ⟨fun n => .ptr n 0, .cells true t z.cells.length (.of z.cells), .cells zv.cells t (0, 0), fun g => .pointer (some ⟨g, 0, none⟩), some (zv.cells.size, t), rfl, fun s' => ?_, fun w => ?_, ?_, fun n g μ' h => ptr_at h⟩
    · rw [ho]
      show Vai.obind (zeroT P t) (fun z => Vai.cnd (ones z.cells) (some (ARes.val (.ptr s'.n 0) (s'.row t z.cells))) none) = _
      rw [hz]
      show Vai.cnd (ones z.cells) _ _ = _
      rw [hon]
      rfl
    · unfold execOp
      simp only [ho]
      simp [Instr.alloc, hrun, newVar, newRow]
    · exact row_br (hzv.cells (ones_cells_ne hon)) hon
  case box t y =>
    obtain ⟨z, hz, hx⟩ := obind_some.1 (show Vai.obind (a.eval P y) (fun v => Vai.cnd (ones v.cells) (some (ARes.val (.ptr s.n 0) (s.row t v.cells))) none) = some x from hx)
    obtain ⟨hon, hx⟩ := cnd_none.1 hx
    have hzv := ha.eval hs hz
    refine ⟨fun n => .ptr n 0, .cells true t z.cells.length (.of z.cells), .cells (ca.eval y).cells t (0, 0), fun g => .pointer (some ⟨g, 0, none⟩), some ((ca.eval y).cells.size, t), rfl, fun s' => ?_, fun w => ?_, ?_, fun n g μ' h => ptr_at h⟩
    · rw [ho]
      show Vai.obind (a.eval P y) (fun v => Vai.cnd (ones v.cells) (some (ARes.val (.ptr s'.n 0) (s'.row t v.cells))) none) = _
      rw [hz]
      show Vai.cnd (ones z.cells) _ _ = _
      rw [hon]
      rfl
    · unfold execOp
      simp only [ho]
      simp [Instr.box, newVar, newRow]
    · exact row_br (hzv.cells (ones_cells_ne hon)) hon
  case makeMap t r =>
    cases r with
    | some y => cases hx
    | none =>
      refine ⟨fun n => .map n, .map [], .map #[] 0, fun g => .map (some g), none, rfl, fun s' => by rw [ho]; rfl, fun w => ?_, fun g w' μ' hsub hN hg => ⟨g, #[], 0, rfl, hN, hg, EP.nil, Born.nil⟩, fun n g μ' h => .map n _ h⟩
      unfold execOp
      simp only [ho]
      simp [Instr.makeMap]
  case buildSlice t n ps =>
    obtain ⟨vs, hvs, hx⟩ := obind_some.1 (show Vai.obind (evals P a (ps.toList.map (·.2))) (fun vs => buildSliceA P t n (ps.toList.map (·.1)) vs s) = some x from hx)
    obtain ⟨e, he, hx⟩ := obind_some.1 hx
    obtain ⟨zs, hzs, hx⟩ := obind_some.1 hx
    obtain ⟨cs, hcs, rfl⟩ := omap_some.1 hx
    have hvv := ha.evals hs hvs
    have he' := elemT_some he
    have hzs0 := hzs
    unfold planS at hzs
    split at hzs
    · rename_i ie hie
      cases hc : (ie.zero.isSome && Nat.ble n 16777216 && Nat.ble (n * ie.size) 16777216) with
      | false => rw [hc] at hzs; cases hzs
      | true =>
        rw [hc, cond_true] at hzs
        simp only [Bool.and_eq_true] at hc
        obtain ⟨⟨hz, hn⟩, hns⟩ := hc
        have hn := Nat.le_of_ble_eq_true hn
        have hns := Nat.le_of_ble_eq_true hns
        obtain ⟨z, hz⟩ := Option.isSome_iff_exists.1 hz
        have hul : ((ps.toList.map (·.2)).map ca.eval).length = (ps.toList.map (·.1)).length := by simp
        have hrun : ∃ R, (∀ w : World, (Instr.buildSlice t n (ps.map fun (i, x) => (i, ca.eval x))).run P w = .ok (.slice (some ⟨w.heap.size, 0, none⟩) n n) (w.alloc (.cells R.toArray e))) ∧ VRs P μ cs R ∧ ones cs = true ∧ R.length = n * ie.size := by
          by_cases h0 : n * ie.size = 0
          · obtain ⟨R, q1, q2, q3, q4⟩ := fill_plan (P := P) (μ := μ) _ _ _ 0 zs vs _ cs ((Array.range (n * ie.size)).map ((#[] : Array Value)[· % (#[] : Array Value).size]!)) hzs hcs hvv (by simp) hul
            refine ⟨R, fun w => ?_, q2, q3, by omega⟩
            rw [← parts_zip] at q1
            simp only [List.take_zero, List.nil_append] at q1
            simp [Instr.buildSlice, run_underlying he', sizeOf, typeInfo, hie, h0, newRow] at q1 ⊢
            simp [q1]
          · obtain ⟨R, q1, q2, q3, q4⟩ := fill_plan (P := P) (μ := μ) _ _ _ 0 zs vs _ cs ((Array.range (n * ie.size)).map (z.cells[· % z.cells.size]!)) hzs hcs hvv (by simp) hul
            refine ⟨R, fun w => ?_, q2, q3, by omega⟩
            rw [← parts_zip] at q1
            have hns' : ¬ n * ie.size > 2 ^ 24 := by omega
            simp only [List.take_zero, List.nil_append] at q1
            simp only [Instr.buildSlice, run_underlying he', sizeOf, typeInfo, zeroValue, hie, hz, hns', h0, newRow, Sem.run_bind, Result.andThen_ok, run_program, Sem.run_pure, if_false, q1]
            rfl
        obtain ⟨R, hrun, q2, q3, q4⟩ := hrun
        refine ⟨fun m => .slice m 0 n true true, .cells true e cs.length (.of cs), .cells R.toArray e (0, 0), fun g => .slice (some ⟨g, 0, none⟩) n n, some (R.toArray.size, e), rfl, fun s' => ?_, fun w => ?_, ?_, fun m g μ' h => ?_⟩
        · rw [ho]
          show Vai.obind (evals P a (ps.toList.map (·.2))) (fun vs => Vai.obind (elemT P t) fun e => Vai.obind (planS P e n (ps.toList.map (·.1))) fun zs => Vai.omap (joinA zs vs) fun cs => ARes.val (.slice s'.n 0 n true true) (s'.row e cs)) = _
          rw [hvs]
          show Vai.obind (elemT P t) _ = _
          rw [he]
          show Vai.obind (planS P e n (ps.toList.map (·.1))) _ = _
          rw [hzs0]
          show Vai.omap (joinA zs vs) _ = _
          rw [hcs]
          rfl
        · unfold execOp
          simp only [ho]
          simp [hrun]
        · exact row_br (us := R.toArray) (by simpa using q2) q3
        · refine .slice m 0 n true true _ _ n h (.inl (by rw [add_nil])) (Nat.le_refl n) (by simp only [maxLen]; omega) (fun _ => rfl) (fun _ _ sz t h => ?_)
          cases h
          rw [show P.cellsOf e = ie.size from by simp [Program.cellsOf, hie]]
          simpa using q4.symm
    · cases hzs
  case makeSlice t l c =>
    obtain ⟨lv, hl, hx⟩ := obind_some.1 hx
    obtain ⟨cv, hc, hx⟩ := obind_some.1 hx
    obtain ⟨ln, hln, hx⟩ := obind_some.1 hx
    obtain ⟨cn, hcn, hx⟩ := obind_some.1 hx
    obtain ⟨e, he, hx⟩ := obind_some.1 hx
    obtain ⟨by_, hby, hx⟩ := obind_some.1 hx
    obtain ⟨sz, hsz, hx⟩ := obind_some.1 hx
    obtain ⟨z, hz, hx⟩ := obind_some.1 hx
    obtain ⟨hb, hx⟩ := cnd_none.1 hx
    have hb0 := hb
    simp only [Bool.and_eq_true] at hb
    obtain ⟨⟨⟨⟨b1, b2⟩, b3⟩, b4⟩, b5⟩ := hb
    have hlv := ha.eval hs hl
    have hcv := ha.eval hs hc
    obtain rfl := natA_some hln
    obtain rfl := natA_some hcn
    have b1 : ln ≤ cn := Nat.le_of_ble_eq_true b1
    have b2 : cn * by_ ≤ 140737488355328 := Nat.le_of_ble_eq_true b2
    have b3 : cn ≤ 1000000 := Nat.le_of_ble_eq_true b3
    have b5 : z.cells.length = sz := Nat.eq_of_beq_eq_true b5
    obtain ⟨zv, _, hzv, i, hi, hzz⟩ := zeroT_run (μ := μ) hz w
    have he' := elemT_some he
    obtain ⟨i', hi', rfl⟩ := bytesT_info hby
    rw [hi] at hi'
    cases hi'
    have hsi : i.size = sz := by unfold sizeT at hsz; rw [hi] at hsz; cases hsz; rfl
    have hzc := hzv.cells (ones_cells_ne b4)
    have hzs : zv.cells.size = sz := by rw [← b5]; simpa using hzc.length.symm
    have hrun : ∀ w : World, (Instr.makeSlice t (.int .i64 (Int.ofNat ln)) (.int .i64 (Int.ofNat cn))).run P w = .ok (.slice (some ⟨w.heap.size, 0, none⟩) ln cn) (w.alloc (.cells (madeCells zv.cells (cn * zv.cells.size)) e)) := fun w => by
      have hrun := run_make (P := P) w t e i zv he' hi hzz .i64 .i64 (Int.ofNat ln) (Int.ofNat cn) (Int.natCast_nonneg _) (Int.ofNat_le.2 b1)
        (by rw [Nat.mul_comm] at b2
            have hq : ((i.bytes * cn : Nat) : Int) ≤ ((140737488355328 : Nat) : Int) := Int.ofNat_le.2 b2
            rw [Int.natCast_mul] at hq
            exact Int.le_trans hq (by decide)) (by show ((cn : Nat) : Int) ≤ _; omega)
      simp only [Int.ofNat_eq_natCast, Int.toNat_natCast] at hrun
      rw [hsi, ← hzs] at hrun
      exact hrun
    have hX : ca.eval l = .int .i64 (Int.ofNat ln) := by
      generalize ca.eval l = X at hlv
      cases hlv
      rfl
    have hY : ca.eval c = .int .i64 (Int.ofNat cn) := by
      generalize ca.eval c = Y at hcv
      cases hcv
      rfl
    refine ⟨fun m => .slice m 0 ln (Nat.beq ln cn) true, .cells true e (repl z.cells cn).length (.of (repl z.cells cn)), .cells (madeCells zv.cells (cn * zv.cells.size)) e (0, 0), fun g => .slice (some ⟨g, 0, none⟩) ln cn, some ((madeCells zv.cells (cn * zv.cells.size)).size, e), rfl, fun s' => ?_, fun w => ?_, ?_, fun m g μ' h => ?_⟩
    · rw [ho]
      have e1 : opA (.makeSlice t l c) P a s' = oMakeSlice P t ln cn s' := by
        show Vai.obind (a.eval P l) (fun l => Vai.obind (a.eval P c) fun c => Vai.obind (natA l) fun l => Vai.obind (natA c) fun c => oMakeSlice P t l c s') = _
        rw [hl, hc]
        rfl
      rw [e1]
      show Vai.obind (elemT P t) _ = _
      rw [he]
      show Vai.obind (bytesT P e) _ = _
      rw [hby]
      show Vai.obind (sizeT P e) _ = _
      rw [hsz]
      show Vai.obind (zeroT P e) _ = _
      rw [hz]
      show Vai.cnd _ _ _ = _
      rw [hb0]
      rfl
    · unfold execOp
      simp only [ho, hX, hY, Sem.run_bind, hrun w, Result.andThen_ok]
      rfl
    · exact row_br (repl_made hzc cn) (ones_repl b4 cn)
    · refine .slice m 0 ln (Nat.beq ln cn) true _ _ cn h (.inl (by rw [add_nil])) b1 (by simp only [maxLen]; omega) (fun h => (Nat.eq_of_beq_eq_true h).symm) (fun _ _ sz' t' h' => ?_)
      cases h'
      rw [sizeT_cells hsz, size_madeCells, hzs]
end
end Go.Proofs.Vai
/- Drawn regions, seventh part: the order that is drawn. -/
namespace Go.Proofs.Vai
open Go Go.RowKit
variable [Env]

section
variable {P : Program}

/-- Every edge that binds points to what has a lower rank. -/
def Ranked (m : Region.Mode) (ops : Array Oper) : Prop := ∃ ρ : Nat → Nat, ∀ (i : Nat) (o : Oper), ops[i]? = some o → ∀ e ∈ o.after, Region.binds m e = true → e.on < ops.size ∧ ρ e.on < ρ i
theorem ready_some {m : Region.Mode} {ops : Array Oper} {listed : Array Bool} (hsz : listed.size = ops.size) {ρ : Nat → Nat} (hρ : ∀ (i : Nat) (o : Oper), ops[i]? = some o → ∀ e ∈ o.after, Region.binds m e = true → e.on < ops.size ∧ ρ e.on < ρ i) :
    ∀ (r i : Nat), ρ i = r → i < ops.size → listed.getD i true = false → Region.ready m ops listed ≠ [] := by
  intro r
  induction r using Nat.strongRecOn with
  | _ r ih =>
    intro i hr hi hl
    have ho : ops[i]? = some ops[i] := Array.getElem?_eq_getElem hi
    by_cases hall : ∀ e ∈ (ops[i]).after, Region.binds m e = true → listed.getD e.on false = true
    · intro hn
      have : i ∈ Region.ready m ops listed := mem_ready.2 ⟨hl, _, ho, hall⟩
      rw [hn] at this
      cases this
    · have : ∃ e, e ∈ (ops[i]).after ∧ Region.binds m e = true ∧ listed.getD e.on false = false := by
        apply Classical.byContradiction
        intro hne
        refine hall fun e he hb => ?_
        cases hq : listed.getD e.on false with
        | true => rfl
        | false => exact absurd ⟨e, he, hb, hq⟩ hne
      obtain ⟨e, he, hb, hq⟩ := this
      obtain ⟨h1, h2⟩ := hρ i _ ho e he hb
      refine ih (ρ e.on) (by omega) e.on rfl h1 ?_
      rw [Array.getD_eq_getD_getElem?, Array.getElem?_eq_getElem (by omega)] at hq ⊢
      simpa using hq
def unlisted (listed : Array Bool) : Nat := (listed.toList.filter (! ·)).length
theorem unlisted_set {listed : Array Bool} {i : Nat} (h : listed.getD i true = false) : unlisted (listed.setIfInBounds i true) + 1 = unlisted listed := by
  have hi : i < listed.size := by
    rcases Nat.lt_or_ge i listed.size with h' | h'
    · exact h'
    · rw [Array.getD_eq_getD_getElem?, Array.getElem?_eq_none h'] at h; cases h
  have hv : listed[i] = false := by
    rw [Array.getD_eq_getD_getElem?, Array.getElem?_eq_getElem hi] at h
    simpa using h
  have key : ∀ (l : List Bool) (i : Nat), l[i]? = some false → ((l.set i true).filter (! ·)).length + 1 = (l.filter (! ·)).length := by
    intro l
    induction l with
    | nil => intro i h; simp at h
    | cons b l ih =>
      intro i h
      cases i with
      | zero => simp at h; subst h; simp
      | succ i =>
        have := ih i (by simpa using h)
        cases b <;> simp at this ⊢ <;> omega
  unfold unlisted
  rw [Array.toList_setIfInBounds]
  exact key _ _ (by rw [Array.getElem?_toList, Array.getElem?_eq_getElem hi, hv])
theorem unlisted_zero {listed : Array Bool} (h : unlisted listed = 0) {i : Nat} (hi : i < listed.size) : listed.getD i true = true := by
  cases hq : listed.getD i true with
  | true => rfl
  | false => have := unlisted_set hq; omega
theorem unlisted_pos {listed : Array Bool} (h : unlisted listed ≠ 0) : ∃ i, i < listed.size ∧ listed.getD i true = false := by
  have : ∃ x, x ∈ listed.toList.filter (! ·) := by
    unfold unlisted at h
    cases hl : listed.toList.filter (! ·) with
    | nil => rw [hl] at h; exact absurd rfl h
    | cons x l => exact ⟨x, by simp⟩
  obtain ⟨x, hx⟩ := this
  rw [List.mem_filter] at hx
  obtain ⟨i, hi, hxi⟩ := List.getElem_of_mem hx.1
  refine ⟨i, by simpa using hi, ?_⟩
  rw [Array.getD_eq_getD_getElem?, Array.getElem?_eq_getElem (by simpa using hi)]
  have h2 : x = false := by simpa using hx.2
  subst h2
  simpa using hxi
/-- The operations one by one, in the order that is drawn. -/
theorem draw_loop {m : Region.Mode} {ops : Array Oper} (hR : Ranked m ops) {b : Frame} {k : List Item} {cs : List Frame} {I : Array Bool → Act → World → Prop}
    (hstep : ∀ (listed : Array Bool) (ca : Act) (w : World) (i : Nat), I listed ca w → i ∈ Region.ready m ops listed → ∀ rest, ∃ ca' w', Steps P (lone (b.atR ca (.inRegion ops (i :: rest) :: k)) cs w) (lone (b.atR ca' (.inRegion ops rest :: k)) cs w') ∧ I (listed.setIfInBounds i true) ca' w') :
    ∀ (fuel t : Nat) (listed : Array Bool) (ca : Act) (w : World), listed.size = ops.size → unlisted listed = fuel → I listed ca w →
      ∃ listed' ca' w', (∀ i, i < ops.size → listed'.getD i true = true) ∧ I listed' ca' w' ∧ Steps P (lone (b.atR ca (.inRegion ops (Region.linearise.go m ops fuel t listed []) :: k)) cs w) (lone (b.atR ca' k) cs w') := by
  obtain ⟨ρ, hρ⟩ := hR
  intro fuel
  induction fuel with
  | zero =>
    intro t listed ca w hsz hun hI
    exact ⟨listed, ca, w, fun i hi => unlisted_zero hun (by omega), hI, .one stepR_region_end⟩
  | succ fuel ih =>
    intro t listed ca w hsz hun hI
    obtain ⟨i0, hi0, hl0⟩ := unlisted_pos (listed := listed) (by omega)
    have hne := ready_some hsz hρ (ρ i0) i0 rfl (by omega) hl0
    have hlen : 0 < (Region.ready m ops listed).length := List.length_pos_iff.2 hne
    have hget : (Region.ready m ops listed)[t % (Region.ready m ops listed).length]? = some ((Region.ready m ops listed)[t % (Region.ready m ops listed).length]'(Nat.mod_lt _ hlen)) := List.getElem?_eq_getElem _
    generalize hi : (Region.ready m ops listed)[t % (Region.ready m ops listed).length]'(Nat.mod_lt _ hlen) = i at hget
    have hmem : i ∈ Region.ready m ops listed := by rw [← hi]; exact List.getElem_mem _
    have hgo : Region.linearise.go m ops (fuel + 1) t listed [] = i :: Region.linearise.go m ops fuel (t / (Region.ready m ops listed).length) (listed.setIfInBounds i true) [] := by
      show (match (Region.ready m ops listed)[t % (Region.ready m ops listed).length]? with | some i => Region.linearise.go m ops fuel (t / (Region.ready m ops listed).length) (listed.setIfInBounds i true) [i] | none => [].reverse) = _
      rw [hget]
      show Region.linearise.go m ops fuel (t / (Region.ready m ops listed).length) (listed.setIfInBounds i true) [i] = _
      rw [linearise_go_acc]
      rfl
    rw [hgo]
    obtain ⟨ca₁, w₁, hs, hI₁⟩ := hstep listed ca w i hI hmem (Region.linearise.go m ops fuel (t / (Region.ready m ops listed).length) (listed.setIfInBounds i true) [])
    have hun₁ := unlisted_set (mem_ready.1 hmem).1
    obtain ⟨listed', ca', w', h1, h2, h3⟩ := ih (t / (Region.ready m ops listed).length) (listed.setIfInBounds i true) ca₁ w₁ (by simpa using hsz) (by omega) hI₁
    exact ⟨listed', ca', w', h1, h2, hs.trans h3⟩
end
end Go.Proofs.Vai
/- Drawn regions, eighth part: the schedule; what stands ahead, on; the maps of some names. -/
namespace Go.Proofs.Vai
open Go Go.RowKit
variable [Env]

section
variable {P : Program}

theorem binds_text {e : Edge} (h : Region.binds .any e = true) : Region.binds .text e = true := by
  unfold Region.binds at *
  cases he : e.ground <;> rw [he] at h <;> first | rfl | cases h
theorem binds_gc {e : Edge} (h : Region.binds .any e = true) : Region.binds .gc e = true := by
  unfold Region.binds at *
  cases he : e.ground <;> rw [he] at h <;> first | rfl | cases h
theorem departs_eq (ops : Array Oper) : departsA ops.toList = Region.departs ops := by
  unfold departsA Region.departs
  rw [← Array.any_toList]
  congr 1
  funext o
  rw [← Array.any_toList]
theorem sched_of {ops : Array Oper} (hF : Fit P ops.toList) (mixed : Bool) (t : Nat) : ∃ m t', Region.schedule mixed ops t = Region.linearise m ops t' ∧ Ranked m ops ∧ ∀ e, Region.binds .any e = true → Region.binds m e = true := by
  have htext : Ranked .text ops := by
    refine ⟨id, fun i o ho e he hb => ?_⟩
    have hlt := hF.text i o (by simpa using ho) e (by simpa using he) hb
    have hi : i < ops.size := (Array.getElem?_eq_some_iff.1 ho).1
    exact ⟨by omega, hlt⟩
  have hany : Ranked .any ops := by
    obtain ⟨ρ, h⟩ := htext
    exact ⟨ρ, fun i o ho e he hb => h i o ho e he (binds_text hb)⟩
  unfold Region.schedule
  cases hc : (mixed || !Region.departs ops) with
  | true => exact ⟨.any, t, by simp, hany, fun e h => h⟩
  | false =>
    simp only [Bool.false_eq_true, if_false]
    rw [Bool.or_eq_false_iff] at hc
    have hd : departsA ops.toList = true := by rw [departs_eq]; simpa using hc.2
    cases ht : (t % 2 == 0) with
    | true => exact ⟨.text, t / 2, by simp, htext, fun e h => binds_text h⟩
    | false =>
      obtain ⟨ρ, h⟩ := hF.gc hd
      refine ⟨.gc, t / 2, by simp, ⟨ρ, fun i o ho e he hb => ?_⟩, fun e h => binds_gc h⟩
      have := h i o (by simpa using ho) e (by simpa using he) hb
      simpa using this

/-! ### What stands ahead, on -/
theorem aheadOne_mem (done : List Nat) (i j : Nat) : ∀ es : List Edge, (∃ e ∈ es, Region.binds .any e = true ∧ e.on < i ∧ (e.on = j ∨ Nat.testBit (done.getD (i - 1 - e.on) 0) j = true)) → Nat.testBit (aheadOne done i es) j = true
  | [], h => by obtain ⟨e, he, _⟩ := h; cases he
  | e :: es, h => by
    obtain ⟨e', he', hb, hlt, hor⟩ := h
    unfold aheadOne
    cases hc : (Region.binds .any e && Nat.blt e.on i) with
    | false =>
      rw [cond_false]
      refine aheadOne_mem done i j es ⟨e', ?_, hb, hlt, hor⟩
      cases he' with
      | head =>
        rw [Bool.and_eq_false_iff] at hc
        rcases hc with hc | hc
        · rw [hb] at hc; cases hc
        · have : Nat.blt e.on i = true := by simpa [Nat.blt_eq] using hlt
          rw [this] at hc; cases hc
      | tail _ h => exact h
    | true =>
      rw [cond_true]
      show Nat.testBit (((1 <<< e.on) ||| done.getD (i - 1 - e.on) 0) ||| aheadOne done i es) j = true
      rw [Nat.testBit_or, Nat.testBit_or, Bool.or_eq_true, Bool.or_eq_true]
      cases he' with
      | head =>
        rcases hor with h | h
        · left; left
          rw [Nat.one_shiftLeft, Nat.testBit_two_pow]
          exact decide_eq_true h
        · left; right; exact h
      | tail _ h => right; exact aheadOne_mem done i j es ⟨e', h, hb, hlt, hor⟩
theorem edge_bit {ops : List Oper} {i j : Nat} {o : Oper} (ho : ops[i]? = some o) {e : Edge} (he : e ∈ o.after.toList) (hb : Region.binds .any e = true) (hlt : e.on < i) (hor : e.on = j ∨ bit (ahead ops) e.on j = true) : bit (ahead ops) i j = true := by
  obtain ⟨rest, h1, h2, h3⟩ := aheadGo_spec ops [] 0 rfl
  have hA : ahead ops = rest := by unfold ahead; rw [h1]; simp
  have := h3 i o ho
  simp only [List.reverse_nil, List.nil_append, Nat.zero_add] at this
  unfold bit at hor ⊢
  rw [hA] at hor ⊢
  rw [this]
  refine aheadOne_mem _ _ _ _ ⟨e, he, hb, hlt, hor.imp id fun hq => ?_⟩
  have hil : i < rest.length := by rw [h2]; exact (List.getElem?_eq_some_iff.1 ho).1
  rw [List.getD_eq_getElem?_getD, List.getElem?_reverse (by simp; omega)]
  simp only [List.length_take, Nat.min_eq_left (Nat.le_of_lt hil)]
  rw [List.getElem?_take, if_pos (by omega), show i - 1 - (i - 1 - e.on) = e.on from by omega]
  rw [List.getD_eq_getElem?_getD] at hq
  exact hq
theorem bit_trans {ops : List Oper} : ∀ (a b c : Nat), bit (ahead ops) a b = true → bit (ahead ops) b c = true → bit (ahead ops) a c = true := by
  intro a
  induction a using Nat.strongRecOn with
  | _ a ih =>
    intro b c h k
    cases ho : ops[a]? with
    | none => rw [bit_none ho] at h; cases h
    | some o =>
      obtain ⟨e, he, hb, hlt, rfl | hq⟩ := bit_edge ho h
      · exact edge_bit ho he hb hlt (.inr k)
      · exact edge_bit ho he hb hlt (.inr (ih e.on hlt b c hq k))

/-! ### Maps of some names -/
open Classical in
/-- The map, of the names that p takes. -/
noncomputable def resP (μ : Inj) (p : Pos → Prop) : Inj := fun b => if p b then μ b else none
theorem resP_some {μ : Inj} {p : Pos → Prop} {b : Pos} {e : Ent} : resP μ p b = some e ↔ p b ∧ μ b = some e := by
  unfold resP
  by_cases h : p b
  · rw [if_pos h]; exact ⟨fun q => ⟨h, q⟩, fun q => q.2⟩
  · rw [if_neg h]; exact ⟨(fun q => by cases q), fun q => absurd q.1 h⟩
theorem resP_sub {μ μ' : Inj} {p q : Pos → Prop} (h : ∀ b e, p b → μ b = some e → q b ∧ μ' b = some e) : Sub (resP μ p) (resP μ' q) := fun b e hb => by
  obtain ⟨h1, h2⟩ := resP_some.1 hb
  exact resP_some.2 (h b e h1 h2)
end
end Go.Proofs.Vai
