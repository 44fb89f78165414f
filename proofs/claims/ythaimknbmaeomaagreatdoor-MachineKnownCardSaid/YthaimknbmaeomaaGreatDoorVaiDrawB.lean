/- Drawn regions, second part: operations hang on their operands; equal values; what is checked. -/
import Derived.Test.YthaimknbmaeomaaGreatDoorVaiDrawA
set_option linter.unusedVariables false
set_option linter.unusedSimpArgs false
set_option linter.unusedSectionVars false
namespace Go.Proofs.Vai
open Go Go.RowKit
variable [Env]

section
variable {P : Program}

theorem evals_congr {a a' : AAct} : ∀ {l : List Operand}, (∀ x ∈ l, a.eval P x = a'.eval P x) → evals P a l = evals P a' l
  | [], _ => rfl
  | x :: l, h => by
    show obind (a.eval P x) (fun v => obind (evals P a l) fun vs => some (v :: vs)) = obind (a'.eval P x) (fun v => obind (evals P a' l) fun vs => some (v :: vs))
    rw [h x (List.mem_cons_self ..), evals_congr fun y hy => h y (List.mem_cons_of_mem _ hy)]
theorem evalO_congr {a a' : AAct} {x : Option Operand} (h : ∀ y, x = some y → a.eval P y = a'.eval P y) : evalO P a x = evalO P a' x := by
  cases x with
  | none => rfl
  | some y =>
    show omap (a.eval P y) some = omap (a'.eval P y) some
    rw [h y rfl]
theorem opA_congr {op : Op} {a a' : AAct} {s : St} (h : ∀ x ∈ op.operands, a.eval P x = a'.eval P x) : opA op P a s = opA op P a' s := by
  cases op <;> simp only [Op.operands] at h
  case move x => show dMove x P a s = dMove x P a' s; unfold dMove; rw [h x (by simp)]
  case assign x => show dMove x P a s = dMove x P a' s; unfold dMove; rw [h x (by simp)]
  case pick c x y => show dPick c x y P a s = dPick c x y P a' s; unfold dPick; rw [h c (by simp), h x (by simp), h y (by simp)]
  case alloc t => rfl
  case box t x => show dBox t x P a s = dBox t x P a' s; unfold dBox; rw [h x (by simp)]
  case build t ps => show dBuild t ps P a s = dBuild t ps P a' s; unfold dBuild; rw [evals_congr fun x hx => h x (by simpa using hx)]
  case buildSlice t n ps => show dBuildSlice t n ps P a s = dBuildSlice t n ps P a' s; unfold dBuildSlice; rw [evals_congr fun x hx => h x (by simpa using hx)]
  case load t x => show dLoad t x P a s = dLoad t x P a' s; unfold dLoad; rw [h x (by simp)]
  case store t x y => show dStore t x y P a s = dStore t x y P a' s; unfold dStore; rw [h x (by simp), h y (by simp)]
  case nilCheck x => show dNilCheck x P a s = dNilCheck x P a' s; unfold dNilCheck; rw [h x (by simp)]
  case binOp op t x y _ => show dBin op t x y P a s = dBin op t x y P a' s; unfold dBin; rw [h x (by simp), h y (by simp)]
  case unOp op _ x => show dUn op x P a s = dUn op x P a' s; unfold dUn; rw [h x (by simp)]
  case convert sr d x => show dConv sr d x P a s = dConv sr d x P a' s; unfold dConv; rw [h x (by simp)]
  case makeInterface t x => show dIface t x P a s = dIface t x P a' s; unfold dIface; rw [h x (by simp)]
  case makeFunc fn f c =>
    cases fn <;> first | rfl | skip
    rename_i g
    show obind (evals P a f.toList) (fun b => omap (evals P a c.toList) fun c => ARes.val (.func g b c) s) = obind (evals P a' f.toList) (fun b => omap (evals P a' c.toList) fun c => ARes.val (.func g b c) s)
    rw [evals_congr (l := f.toList) fun x hx => h x (by simp at hx ⊢; exact .inl hx), evals_congr (l := c.toList) fun x hx => h x (by simp at hx ⊢; exact .inr hx)]
  case makeMap t r =>
    cases r with
    | none => rfl
    | some x => rfl
  case makeSlice t l c => show dMakeSlice t l c P a s = dMakeSlice t l c P a' s; unfold dMakeSlice; rw [h l (by simp), h c (by simp)]
  case slice t x lo hi mx =>
    show dSlice t x lo hi mx P a s = dSlice t x lo hi mx P a' s
    unfold dSlice
    rw [h x (by simp), evalO_congr (x := lo) fun y hy => h y (by subst hy; simp), evalO_congr (x := hi) fun y hy => h y (by subst hy; simp), evalO_congr (x := mx) fun y hy => h y (by subst hy; simp)]
  case fieldAddr t x f => show dFieldAddr t x f P a s = dFieldAddr t x f P a' s; unfold dFieldAddr; rw [h x (by simp)]
  case field t x f => show dField t x f P a s = dField t x f P a' s; unfold dField; rw [h x (by simp)]
  case indexAddr t x i => show dIndexAddr t x i P a s = dIndexAddr t x i P a' s; unfold dIndexAddr; rw [h x (by simp), h i (by simp)]
  case index t x i => show dIndex t x i P a s = dIndex t x i P a' s; unfold dIndex; rw [h x (by simp), h i (by simp)]
  case lookup t x k ok => show dLookup t x k ok P a s = dLookup t x k ok P a' s; unfold dLookup; rw [h x (by simp), h k (by simp)]
  case mapUpdate t m k x => show dMapUpdate t m k x P a s = dMapUpdate t m k x P a' s; unfold dMapUpdate; rw [h m (by simp), h k (by simp), h x (by simp)]
  case insert t m k x => show dMapUpdate t m k x P a s = dMapUpdate t m k x P a' s; unfold dMapUpdate; rw [h m (by simp), h k (by simp), h x (by simp)]
  case range t x => show dRange t x P a s = dRange t x P a' s; unfold dRange; rw [h x (by simp)]
  case next x str => show dNext x str P a s = dNext x str P a' s; unfold dNext; rw [h x (by simp)]
  case typeAssert x xt t ok => show dAssert x t ok P a s = dAssert x t ok P a' s; unfold dAssert; rw [h x (by simp)]
  case extract x i => show dExtract x i P a s = dExtract x i P a' s; unfold dExtract; rw [h x (by simp)]
  case panic x => show dPanic x P a s = dPanic x P a' s; unfold dPanic; rw [h x (by simp)]
  case call c =>
    have hargs : evals P a c.args.toList = evals P a' c.args.toList := evals_congr fun x hx => h x (by simp [Call.operands]; simp at hx; exact .inr hx)
    show dCall c P a s = dCall c P a' s
    unfold dCall
    rw [hargs]
    congr 1
    funext args
    cases hc : c.callee with
    | value f =>
      show obind (a.eval P f) (oCall P args s) = obind (a'.eval P f) (oCall P args s)
      rw [h f (by simp [Call.operands, hc])]
    | builtin b => rfl
    | invoke _ _ => rfl
  case defer c =>
    have hargs : evals P a c.args.toList = evals P a' c.args.toList := evals_congr fun x hx => h x (by simp [Call.operands]; simp at hx; exact .inr hx)
    show dDefer c P a s = dDefer c P a' s
    unfold dDefer
    rw [hargs]
    congr 1
    funext args
    cases hc : c.callee with
    | value f =>
      show obind (a.eval P f) (oDefer args s) = obind (a'.eval P f) (oDefer args s)
      rw [h f (by simp [Call.operands, hc])]
    | builtin b => rfl
    | invoke _ _ => rfl
  all_goals rfl

/-! ### Equal values -/
theorem eqP_eq : ∀ {p q : Pos}, eqP p q = true → p = q
  | .one, .one, _ => rfl
  | .one, .o _, h => by cases h
  | .one, .i _, h => by cases h
  | .o _, .one, h => by cases h
  | .o p, .o q, h => by rw [eqP_eq (show eqP p q = true from h)]
  | .o _, .i _, h => by cases h
  | .i _, .one, h => by cases h
  | .i _, .o _, h => by cases h
  | .i p, .i q, h => by rw [eqP_eq (show eqP p q = true from h)]
theorem eqL_eq {r : AV → AV → Bool} (hr : ∀ x y, r x y = true → x = y) : ∀ {xs ys : List AV}, eqL r xs ys = true → xs = ys
  | [], [], _ => rfl
  | [], _ :: _, h => by cases h
  | _ :: _, [], h => by cases h
  | x :: xs, y :: ys, h => by
    replace h : cnd (r x y) (eqL r xs ys) false = true := h
    cases hc : r x y with
    | false => rw [hc] at h; cases h
    | true =>
      rw [hc] at h
      rw [hr x y hc, eqL_eq hr (show eqL r xs ys = true from h)]
theorem eqAV_eq : ∀ (n : Nat) (x y : AV), eqAV n x y = true → x = y := by
  intro n
  induction n with
  | zero => intro x y h; cases h
  | succ n ih =>
    intro x y h
    replace h : eqAVB (eqAV n) x y = true := h
    unfold eqAVB at h
    cases x <;> cases y <;> first | rfl | (cases h; done) | skip
    all_goals try simp only [Bool.and_eq_true] at h
    · rw [eq_of_beq h]
    · rw [eqK_eq, eqI_eq] at h; rw [of_decide_eq_true h.1, eq_of_beq h.2]
    · rw [of_decide_eq_true h.1, Nat.eq_of_beq_eq_true h.2]
    · rw [eqS_eq] at h; rw [eq_of_beq h]
    · rw [eqP_eq h.1, Nat.eq_of_beq_eq_true h.2]
    · obtain ⟨⟨⟨⟨h1, h2⟩, h3⟩, h4⟩, h5⟩ := h
      rw [eqP_eq h1, Nat.eq_of_beq_eq_true h2, Nat.eq_of_beq_eq_true h3, eq_of_beq h4, eq_of_beq h5]
    · rw [eqP_eq h]
    · obtain ⟨⟨h1, h2⟩, h3⟩ := h
      rw [show _ = _ from Nat.eq_of_beq_eq_true h1, eqL_eq ih h2, eqL_eq ih h3]
    · rw [eqP_eq h]
    · rw [show _ = _ from Nat.eq_of_beq_eq_true h.1, ih _ _ h.2]
    · rw [eqL_eq ih h]
    · rw [eqL_eq ih h]
    · rw [Nat.eq_of_beq_eq_true h]
end
end Go.Proofs.Vai
