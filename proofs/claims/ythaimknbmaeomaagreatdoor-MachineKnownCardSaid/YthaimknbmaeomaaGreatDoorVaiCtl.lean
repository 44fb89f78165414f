/- Control: what a job comes to in the machine. -/
import Derived.Test.YthaimknbmaeomaaGreatDoorVaiOpsJ
import Derived.AtR
import Derived.Defers
import Derived.RangeFuncRecord
import Derived.Recover
set_option linter.unusedVariables false
set_option linter.unusedSimpArgs false
set_option linter.unusedSectionVars false
namespace Go.Proofs.Vai
open Go Go.RowKit
variable [Env]

inductive ChR (P : Program) (μ : Inj) : AChain → List PanicEntry → Prop
  | nil : ChR P μ [] []
  | cons (v : AV) (r : Bool) (V : Value) (c : AChain) (C : List PanicEntry) (h : VR P μ v V) (hs : ChR P μ c C) : ChR P μ ((v, r) :: c) ({ v := V, recovered := r } :: C)
inductive MR (P : Program) (μ : Inj) : AMode → FrameMode → Prop
  | returning : MR P μ .returning .returning
  | panicking (c : AChain) (C : List PanicEntry) (h : ChR P μ c C) : MR P μ (.panicking c) (.panicking C)
/-- Who stands behind a frame: its callers; for a deferred call: the frame that leaves, whose mode may turn. -/
inductive Cx where
  | norm (cs : List Frame)
  | dfr (c₀ : Frame) (cs₀ : List Frame)
def Cx.cs : Cx → FrameMode → List Frame
  | .norm cs, _ => cs
  | .dfr c₀ cs₀, u => { c₀ with mode := u } :: cs₀
def Cx.kind : Cx → CallKind
  | .norm _ => .normal
  | .dfr _ _ => .deferred
inductive RR (P : Program) (μ : Inj) : Cx → Option AMode → FrameMode → Prop
  | norm (cs : List Frame) (u : FrameMode) : RR P μ (.norm cs) none u
  | dfr (c₀ : Frame) (cs₀ : List Frame) (m : AMode) (u : FrameMode) (h : MR P μ m u) : RR P μ (.dfr c₀ cs₀) (some m) u
inductive RdR (μ : Inj) : Option Pos → Option Nat → Prop
  | none : RdR μ none none
  | some (l : Pos) (g : Nat) (h : μ l = some ⟨⟨g, 0, none⟩, none⟩) : RdR μ (some l) (some g)
theorem ChR.mono {P : Program} {μ μ' : Inj} (hs : Sub μ μ') {c : AChain} {C : List PanicEntry} (h : ChR P μ c C) : ChR P μ' c C := by
  induction h with
  | nil => exact .nil
  | cons v r V c C h _ ih => exact .cons v r V c C (h.mono hs) ih
theorem MR.mono {P : Program} {μ μ' : Inj} (hs : Sub μ μ') {m : AMode} {u : FrameMode} (h : MR P μ m u) : MR P μ' m u := by
  cases h with
  | returning => exact .returning
  | panicking c C h => exact .panicking c C (h.mono hs)
theorem RR.mono {P : Program} {μ μ' : Inj} (hs : Sub μ μ') {X : Cx} {m : Option AMode} {u : FrameMode} (h : RR P μ X m u) : RR P μ' X m u := by
  cases h with
  | norm cs u => exact .norm cs u
  | dfr c₀ cs₀ m u h => exact .dfr c₀ cs₀ m u (h.mono hs)
theorem RdR.mono {μ μ' : Inj} (hs : Sub μ μ') {rd : Option Pos} {ro : Option Nat} (h : RdR μ rd ro) : RdR μ' rd ro := by
  cases h with
  | none => exact .none
  | some l g h => exact .some l g (hs _ _ h)
theorem ChR.append {P : Program} {μ : Inj} {c d : AChain} {C D : List PanicEntry} (h : ChR P μ c C) (k : ChR P μ d D) : ChR P μ (c ++ d) (C ++ D) := by
  induction h with
  | nil => exact k
  | cons v r V c C h _ ih => exact .cons v r V _ _ h ih
theorem MR.settle {P : Program} {μ : Inj} {m : AMode} {u : FrameMode} (h : MR P μ m u) : MR P μ (settleA m) (settle u) := by
  cases h with
  | returning => exact .returning
  | panicking c C h =>
    cases h with
    | nil => exact .panicking _ _ .nil
    | cons v r V c C hv hs =>
      cases r with
      | false => exact .panicking _ _ (.cons v false V c C hv hs)
      | true =>
        have : C.dropWhile (!·.goexit) = [] := by
          clear hv
          induction hs with
          | nil => rfl
          | cons v r V c C h _ ih => simpa using ih
        show MR P μ .returning (match C.dropWhile (!·.goexit) with | [] => .returning | rest => .panicking rest)
        rw [this]
        exact .returning
theorem MR.raised {P : Program} {μ : Inj} {m : AMode} {u : FrameMode} {c : AChain} {C : List PanicEntry} (h : MR P μ m u) (hc : ChR P μ c C) : MR P μ (raisedA m c) (raised u C) := by
  cases h with
  | returning => exact .panicking _ _ hc
  | panicking d D h => exact .panicking _ _ (hc.append h)
theorem MR.ne_run {P : Program} {μ : Inj} {m : AMode} {u : FrameMode} (h : MR P μ m u) : u ≠ .run := by cases h <;> simp

section
variable (P : Program) (N : Nat)
/-- How a piece of code is left. -/
def AtE (b : Frame) (X : Cx) (k : List Item) (m : Machine) (μ' : Inj) (ca' : Act) (u' : FrameMode) (w' : World) : AExit → Prop
  | .normal => Steps P m (lone (b.atR ca' k) (X.cs u') w')
  | .exit id => ∃ k1, exitTo id k1 = exitTo id k ∧ Steps P m (lone (b.atR ca' (.code (.exit id) :: k1)) (X.cs u') w')
  | .ret => ∃ k1, Steps P m (lone (b.atR ca' (.code .ret :: k1)) (X.cs u') w')
  | .panic c => ∃ k1 C, ChR P μ' c C ∧ Steps P m (lone ((b.atR ca' k1).raise C) (X.cs u') w')
def At (b : Frame) (X : Cx) (k : List Item) (m : Machine) (μ : Inj) (σ : St) (w : World) : Out → Prop
  | .at e a' s' => ∃ μ' w' ca' u', Goes P N μ σ w μ' s' w' ∧ AR P μ' a' ca' ∧ RR P μ' X a'.rc u' ∧ AtE P b X k m μ' ca' u' w' e
  | .fin .. => False
/-- How a call ends, told at its frame. -/
def Ended (X : Cx) (f : FuncId) (m : Machine) (μ : Inj) (σ : St) (w : World) : Out → Prop
  | .fin (.returned v) rc' s' => ∃ μ' w' u' V fr, Goes P N μ σ w μ' s' w' ∧ RR P μ' X rc' u' ∧ VR P μ' v V ∧ Steps P m (lone fr (X.cs u') w') ∧ fr.fn = f ∧ fr.kind = X.kind ∧ fr.going P w' (.returned V)
  | .fin (.panicked c) rc' s' => ∃ μ' w' u' C fr, Goes P N μ σ w μ' s' w' ∧ RR P μ' X rc' u' ∧ ChR P μ' c C ∧ Steps P m (lone fr (X.cs u') w') ∧ fr.fn = f ∧ fr.kind = X.kind ∧ fr.going P w' (.panicked C)
  | .at .. => False
/-- How a call ends, told at the caller. -/
def Back (c : Frame) (cs : List Frame) (m : Machine) (μ : Inj) (σ : St) (w : World) : Out → Prop
  | .fin (.returned v) _ s' => ∃ μ' w' V, Goes P N μ σ w μ' s' w' ∧ VR P μ' v V ∧ Steps P m (lone (c.finish V) cs w')
  | .fin (.panicked ch) _ s' => ∃ μ' w' C, Goes P N μ σ w μ' s' w' ∧ ChR P μ' ch C ∧ Steps P m (lone (c.raise C) cs w')
  | .at .. => False
structure RecOK (r : Rec) : Prop where
  loop : ∀ rd c a s o, r (.loop rd c) a s = some o → ∀ μ w b X u k ca, SR P N μ s w → AR P μ a ca → RR P μ X a.rc u → b.kind = X.kind → RdR μ rd b.roundOf → (∃ fn, P.funcs[b.fn]? = some fn) →
    ∀ m, Go.step P m = .next (lone (b.atR ca (.code c :: .inLoop c :: k)) (X.cs u) w) → At P N b X k m μ s w o
  call : ∀ f args rc a s o, r (.call f args rc) a s = some o → (∃ fn c, P.funcs[f]? = some fn ∧ fn.body = some c) ∧ ∀ μ w X u us, SR P N μ s w → VRs P μ args us → RR P μ X rc u →
    Ended P N X f (lone (Frame.enter P f us.toArray X.kind) (X.cs u) w) μ s w o
  leave : ∀ fn m a s o, r (.leave fn m) a s = some o → ∀ μ w X u fr, SR P N μ s w → TR P μ a.tm fr.tmps → DRs P μ a.defers fr.defers → RR P μ X a.rc u → fr.kind = X.kind → P.funcs[fr.fn]? = some fn → MR P μ m fr.mode →
    Ended P N X fr.fn (lone fr (X.cs u) w) μ s w o
  round : ∀ l args a s o, r (.round l args) a s = some o → ∀ μ w us e, SR P N μ s w → VRs P μ args us → μ l = some e →
    ∃ fn tmps assign body, (Instr.yield e.a.block us.toArray).run P w = .ok (.round e.a.block fn tmps assign body) w ∧ ∀ c cs, Back P N c cs (lone (Frame.round e.a.block fn tmps assign body .normal) (c :: cs) w) μ s w o
end

section
variable {P : Program} {N : Nat}
theorem At.pre {b : Frame} {X : Cx} {k : List Item} {m m₁ : Machine} {μ μ₁ : Inj} {σ σ₁ : St} {w w₁ : World} {o : Out} (hs : Steps P m m₁) (hg : Goes P N μ σ w μ₁ σ₁ w₁) (h : At P N b X k m₁ μ₁ σ₁ w₁ o) : At P N b X k m μ σ w o := by
  cases o with
  | fin => exact h.elim
  | «at» e a' s' =>
    obtain ⟨μ', w', ca', u', h1, h2, h3, h4⟩ := h
    refine ⟨μ', w', ca', u', hg.trans h1, h2, h3, ?_⟩
    cases e with
    | normal => exact hs.trans h4
    | exit id => obtain ⟨k1, h5, h6⟩ := h4; exact ⟨k1, h5, hs.trans h6⟩
    | ret => obtain ⟨k1, h6⟩ := h4; exact ⟨k1, hs.trans h6⟩
    | panic c => obtain ⟨k1, C, h5, h6⟩ := h4; exact ⟨k1, C, h5, hs.trans h6⟩
theorem Ended.pre {X : Cx} {f : FuncId} {m m₁ : Machine} {μ μ₁ : Inj} {σ σ₁ : St} {w w₁ : World} {o : Out} (hs : Steps P m m₁) (hg : Goes P N μ σ w μ₁ σ₁ w₁) (h : Ended P N X f m₁ μ₁ σ₁ w₁ o) : Ended P N X f m μ σ w o := by
  cases o with
  | «at» => exact h.elim
  | fin e rc' s' =>
    cases e with
    | returned v => obtain ⟨μ', w', u', V, fr, h1, h2, h3, h4, h5⟩ := h; exact ⟨μ', w', u', V, fr, hg.trans h1, h2, h3, hs.trans h4, h5⟩
    | panicked c => obtain ⟨μ', w', u', V, fr, h1, h2, h3, h4, h5⟩ := h; exact ⟨μ', w', u', V, fr, hg.trans h1, h2, h3, hs.trans h4, h5⟩
theorem Ended.back {c : Frame} {cs : List Frame} {f : FuncId} {m : Machine} {μ : Inj} {σ : St} {w : World} {o : Out} (h : Ended P N (.norm (c :: cs)) f m μ σ w o) : Back P N c cs m μ σ w o := by
  cases o with
  | «at» => exact h.elim
  | fin e rc' s' =>
    cases e with
    | returned v =>
      obtain ⟨μ', w', u', V, fr, h1, h2, h3, h4, h5, h6, h7⟩ := h
      exact ⟨μ', w', V, h1, h3, h4.trans (.one (step_leave_returned ⟨h7.1, h7.2.1, h6, h7.2.2⟩))⟩
    | panicked ch =>
      obtain ⟨μ', w', u', C, fr, h1, h2, h3, h4, h5, h6, h7⟩ := h
      exact ⟨μ', w', C, h1, h3, h4.trans (.one (step_leave_panicked ⟨h7.1, h7.2.1, h7.2.2⟩))⟩

/-! ### Steps of one operation -/
section step
variable {b : Frame} {a : Act} {k : List Item} {cs : List Frame} {w w' : World} {ops : Array Oper} {i : Nat} {rest : List Nat} {o : Oper}
theorem step_val (ho : ops[i]? = some o) (hw : Region.wanted o (yielded ops a.tmps) = true) {u : Value} (h : (o.semAt b.roundOf a.eval).run P w = .ok (.value u) w') :
    Go.step P (lone (b.atR a (.inRegion ops (i :: rest) :: k)) cs w) = .next (lone (b.atR (a.put o.dst u) (.inRegion ops rest :: k)) cs w') := by
  have e : (ops[i]?).bind (·.dst) = o.dst := by rw [ho]; rfl
  rw [← e, ← Frame.finish_atR]
  exact step_lone_go (by rw [stepGR_op ho hw]; simp [stepG.apply, Sem.runT_eq, h])
theorem step_skp (ho : ops[i]? = some o) (hw : Region.wanted o (yielded ops a.tmps) = true) (h : (o.semAt b.roundOf a.eval).run P w = .ok .skip w') :
    Go.step P (lone (b.atR a (.inRegion ops (i :: rest) :: k)) cs w) = .next (lone (b.atR (a.put o.dst undef) (.inRegion ops rest :: k)) cs w') := by
  have e : (ops[i]?).bind (·.dst) = o.dst := by rw [ho]; rfl
  rw [← e, ← Frame.finish_atR]
  exact step_lone_go (by rw [stepGR_op ho hw]; simp [stepG.apply, Sem.runT_eq, h])
theorem step_enter (ho : ops[i]? = some o) (hw : Region.wanted o (yielded ops a.tmps) = true) {f : FuncId} {args : Array Value} (h : (o.semAt b.roundOf a.eval).run P w = .ok (.enter f args) w') :
    Go.step P (lone (b.atR a (.inRegion ops (i :: rest) :: k)) cs w) = .next (lone (Frame.enter P f args .normal) (b.atR a (.inRegion ops (i :: rest) :: k) :: cs) w') :=
  step_lone_go (by rw [stepGR_op ho hw]; simp [stepG.apply, Sem.runT_eq, h, Frame.atR])
theorem step_round (ho : ops[i]? = some o) (hw : Region.wanted o (yielded ops a.tmps) = true) {g : Nat} {f : FuncId} {tmps : Array Value} {as bd : Code} (h : (o.semAt b.roundOf a.eval).run P w = .ok (.round g f tmps as bd) w') :
    Go.step P (lone (b.atR a (.inRegion ops (i :: rest) :: k)) cs w) = .next (lone (Frame.round g f tmps as bd .normal) (b.atR a (.inRegion ops (i :: rest) :: k) :: cs) w') :=
  step_lone_go (by rw [stepGR_op ho hw]; simp [stepG.apply, Sem.runT_eq, h])
theorem step_dfr (hro : b.roundOf = none) (ho : ops[i]? = some o) (hw : Region.wanted o (yielded ops a.tmps) = true) {d : Deferred} (h : (execOp a.eval o).run P w = .ok (.defer d) w') :
    Go.step P (lone (b.atR a (.inRegion ops (i :: rest) :: k)) cs w) = .next (lone (b.atR ({ a with defers := d :: a.defers }.put o.dst undef) (.inRegion ops rest :: k)) cs w') := by
  have e : (ops[i]?).bind (·.dst) = o.dst := by rw [ho]; rfl
  rw [← e, ← Frame.finish_atR]
  exact step_lone_go (by rw [stepGR_op ho hw, hro, Oper.semAt_none]; simp [stepG.apply, Sem.runT_eq, h, Frame.atR])
theorem step_pnc (ho : ops[i]? = some o) (hw : Region.wanted o (yielded ops a.tmps) = true) {v : Value} (h : (o.semAt b.roundOf a.eval).run P w = .halt (.panic v) w') :
    Go.step P (lone (b.atR a (.inRegion ops (i :: rest) :: k)) cs w) = .next (lone ((b.atR a (.inRegion ops (i :: rest) :: k)).raise [{ v, recovered := false }]) cs w') :=
  step_lone_go (by rw [stepGR_op ho hw]; simp [stepG.apply, Sem.runT_eq, h])
theorem step_rec (hro : b.roundOf = none) (ho : ops[i]? = some o) (hw : Region.wanted o (yielded ops a.tmps) = true) (h : (execOp a.eval o).run P w = .ok .recover w') :
    Go.step P (lone (b.atR a (.inRegion ops (i :: rest) :: k)) cs w) =
      match tryRecover (b.atR a (.inRegion ops (i :: rest) :: k)) cs with
      | some (v, cs') => .next (lone (b.atR (a.put o.dst v) (.inRegion ops rest :: k)) cs' w')
      | none => .next (lone (b.atR (a.put o.dst .nilIface) (.inRegion ops rest :: k)) cs w') := by
  have e : (ops[i]?).bind (·.dst) = o.dst := by rw [ho]; rfl
  rw [← e]
  simp only [← Frame.finish_atR]
  have hr : (b.atR a (.inRegion ops (i :: rest) :: k)).roundOf = none := hro
  cases ht : tryRecover (b.atR a (.inRegion ops (i :: rest) :: k)) cs with
  | none => exact step_lone_go (by rw [stepGR_op ho hw, hro, Oper.semAt_none]; simp [stepG.apply, Sem.runT_eq, h, hr, ht])
  | some q => exact step_lone_go (by rw [stepGR_op ho hw, hro, Oper.semAt_none]; simp [stepG.apply, Sem.runT_eq, h, hr, ht])
end step
end
end Go.Proofs.Vai
