/- Control: the operations of a region that is not drawn. -/
import Derived.Test.YthaimknbmaeomaaGreatDoorVaiCtl
set_option linter.unusedVariables false
set_option linter.unusedSimpArgs false
set_option linter.unusedSectionVars false
namespace Go.Proofs.Vai
open Go Go.RowKit
variable [Env]

section
variable {P : Program} {N : Nat}

theorem opA_notDefer {op : Op} {a : AAct} {s : St} {x : ARes} (h : opA op P a s = some x) (hx : ∀ d s', x ≠ .defer d s') : ∀ c, op ≠ .defer c := by
  rintro c rfl
  obtain ⟨args, _, h⟩ := obind_some.1 (show dDefer c P a s = some x from h)
  cases hc : c.callee with
  | value f =>
    rw [hc] at h
    obtain ⟨v, _, h⟩ := obind_some.1 h
    cases v with
    | func g first cap => cases h; exact hx _ _ rfl
    | _ => cases h
  | _ => rw [hc] at h; cases h
theorem isBoolA_run {want r : Bool} {v : AV} {V : Value} {μ : Inj} (h : isBoolA want v = some r) (hv : VR P μ v V) : (∃ b, V = .bool b ∧ r = (b == want)) ∨ (V = undef ∧ r = false) := by
  unfold isBoolA at h
  split at h
  · cases h; cases hv; exact .inl ⟨_, rfl, rfl⟩
  · cases h
    cases hv with
    | tuple _ C hC => cases hC; exact .inr ⟨rfl, rfl⟩
  · cases h
theorem wanted_ok {ops : Array Oper} {o : Oper} {a : AAct} {ca : Act} {μ : Inj} {r : Bool} (ha : AR P μ a ca) (h : wantedA ops.toList a o.guard = some r) : Region.wanted o (yielded ops ca.tmps) = r := by
  unfold Region.wanted
  cases hg : o.guard with
  | none => rw [hg] at h; cases h; rfl
  | some g =>
    rw [hg] at h
    obtain ⟨j, want⟩ := g
    obtain ⟨p, hp, h⟩ := obind_some.1 (show obind (ops.toList[j]?) (fun p => obind p.dst fun d => isBoolA want (a.tmp d)) = some r from h)
    obtain ⟨d, hd, h⟩ := obind_some.1 h
    have hpj : ops[j]? = some p := by simpa using hp
    have hv := ha.tm d
    simp only
    have hy : yielded ops ca.tmps j = match ca.tmps[d]? with | some (.bool b) => some b | _ => none := by
      unfold yielded
      rw [hpj]
      simp only [Option.bind_some, hd]
      cases ca.tmps[d]? with
      | none => rfl
      | some q => cases q <;> rfl
    rw [hy]
    rcases isBoolA_run h hv with ⟨b, h1, rfl⟩ | ⟨h1, rfl⟩
    · have : ca.tmps[d]? = some (.bool b) := by
        rw [Array.getD_eq_getD_getElem?] at h1
        cases hq : ca.tmps[d]? with
        | none => rw [hq] at h1; cases h1
        | some q => rw [hq] at h1; exact congrArg some h1
      rw [this]
      cases b <;> cases want <;> rfl
    · have : ca.tmps[d]? = none ∨ ca.tmps[d]? = some undef := by
        rw [Array.getD_eq_getD_getElem?] at h1
        cases hq : ca.tmps[d]? with
        | none => exact .inl rfl
        | some q => rw [hq] at h1; exact .inr (congrArg some h1)
      rcases this with h | h <;> rw [h] <;> rfl

/-- What goes on with an operation's value. -/
def GoesOn (P : Program) (N : Nat) (rd : Option Pos) (K : Kt) (b : Frame) (X : Cx) (k : List Item) (todo : List Item) : Prop :=
  ∀ a s o, K a s = some o → ∀ μ w u ca, SR P N μ s w → AR P μ a ca → RR P μ X a.rc u → RdR μ rd b.roundOf → At P N b X k (lone (b.atR ca todo) (X.cs u) w) μ s w o
theorem GoesOn.put {rd : Option Pos} {K : Kt} {b : Frame} {X : Cx} {k todo : List Item} (hK : GoesOn P N rd K b X k todo) {d : Option Tmp} {v : AV} {a : AAct} {s : St} {o : Out} (h : putK d v K a s = some o)
    {m : Machine} {μ₀ μ : Inj} {σ₀ : St} {w₀ w : World} {u : FrameMode} {ca : Act} {V : Value} (hg : Goes P N μ₀ σ₀ w₀ μ s w) (ha : AR P μ a ca) (hX : RR P μ X a.rc u) (hrd : RdR μ rd b.roundOf) (hv : VR P μ v V)
    (hs : Steps P m (lone (b.atR (ca.put d V) todo) (X.cs u) w)) : At P N b X k m μ₀ σ₀ w₀ o := by
  obtain ⟨a', ha', h⟩ := obind_some.1 h
  obtain ⟨h1, h2⟩ := ha.put hv ha'
  exact (hK a' s o h μ w u _ hg.sr h1 (h2 ▸ hX) hrd).pre hs hg

theorem undef_rel {μ : Inj} : VR P μ .undef undef := .tuple [] [] .nil
theorem setDefers_tm (a : AAct) (ds : List ADef) : (a.setDefers ds).tm = a.tm ∧ (a.setDefers ds).n = a.n ∧ (a.setDefers ds).defers = ds ∧ (a.setDefers ds).rc = a.rc := by cases a; exact ⟨rfl, rfl, rfl, rfl⟩
theorem setRc_tm (a : AAct) (m : Option AMode) : (a.setRc m).tm = a.tm ∧ (a.setRc m).n = a.n ∧ (a.setRc m).defers = a.defers ∧ (a.setRc m).rc = m := by cases a; exact ⟨rfl, rfl, rfl, rfl⟩

/-- A call's end, told at the caller, and on. -/
theorem fin_sound {rd : Option Pos} {K : Kt} {b : Frame} {X : Cx} {k : List Item} {ops : Array Oper} {i : Nat} {rest : List Nat} {p : Oper} (hp : ops[i]? = some p) (hK : GoesOn P N rd K b X k (.inRegion ops rest :: k)) {a : AAct} {q o : Out} (h : finThen p.dst K a q = some o)
    {m m₁ : Machine} {μ : Inj} {σ : St} {w : World} {u : FrameMode} {ca : Act} (ha : AR P μ a ca) (hX : RR P μ X a.rc u) (hrd : RdR μ rd b.roundOf) (hs : Steps P m m₁)
    (hb : Back P N (b.atR ca (.inRegion ops (i :: rest) :: k)) (X.cs u) m₁ μ σ w q) : At P N b X k m μ σ w o := by
  cases q with
  | «at» => exact hb.elim
  | fin e rc s =>
    cases e with
    | returned v =>
      obtain ⟨μ', w', V, hg, hv, hst⟩ := hb
      rw [Frame.finish_atR, show (ops[i]?).bind (·.dst) = p.dst from by rw [hp]; rfl] at hst
      exact hK.put (show putK p.dst v K a s = some o from h) hg (ha.mono hg.ext.sub) (hX.mono hg.ext.sub) (hrd.mono hg.ext.sub) hv (hs.trans hst)
    | panicked c =>
      obtain ⟨μ', w', C, hg, hc, hst⟩ := hb
      cases h
      exact ⟨μ', w', ca, u, hg, ha.mono hg.ext.sub, hX.mono hg.ext.sub, _, C, hc, hs.trans hst⟩

theorem noneI {μ : Inj} {ro : Option Nat} (h : RdR μ none ro) : ro = none := by cases h; rfl
theorem res_sound (hP : NoNum P) {r : Rec} (hr : RecOK P N r) {rd : Option Pos} {K : Kt} {b : Frame} {X : Cx} {k : List Item} {ops : Array Oper} {i : Nat} {rest : List Nat} {p : Oper} (hp : ops[i]? = some p) (hK : GoesOn P N rd K b X k (.inRegion ops rest :: k))
    {a : AAct} {s : St} {x : ARes} {o : Out} (hx : opA p.op P a s = some x) (h : resThen rd r p.dst K a x = some o) {μ : Inj} {w : World} {u : FrameMode} {ca : Act}
    (hsr : SR P N μ s w) (ha : AR P μ a ca) (hX : RR P μ X a.rc u) (hk : b.kind = X.kind) (hrd : RdR μ rd b.roundOf) (hw : Region.wanted p (yielded ops ca.tmps) = true) :
    At P N b X k (lone (b.atR ca (.inRegion ops (i :: rest) :: k)) (X.cs u) w) μ s w o := by
  have hn := opA_sound hP hsr ha hx
  have hsem : (∀ d s', x ≠ .defer d s') → p.semAt b.roundOf ca.eval = execOp ca.eval p := fun h => Oper.semAt_eq _ _ _ (opA_notDefer hx h)
  cases x with
  | val v s' =>
    obtain ⟨μ', V, w', hres, hg, hv⟩ := hn
    exact hK.put h hg (ha.mono hg.ext.sub) (hX.mono hg.ext.sub) (hrd.mono hg.ext.sub) hv (.one (step_val hp hw (by rw [hsem (by simp)]; exact hres)))
  | skip s' =>
    obtain ⟨μ', w', hres, hg⟩ := hn
    exact hK.put h hg (ha.mono hg.ext.sub) (hX.mono hg.ext.sub) (hrd.mono hg.ext.sub) undef_rel (.one (step_skp hp hw (by rw [hsem (by simp)]; exact hres)))
  | enter f args s' =>
    obtain ⟨us, hres, rfl, hargs⟩ := hn
    obtain ⟨q, hq, h⟩ := obind_some.1 h
    have hb := ((hr.call f args none a s' q hq).2 μ w (.norm (b.atR ca (.inRegion ops (i :: rest) :: k) :: X.cs u)) .run us hsr hargs (.norm _ _)).back
    exact fin_sound hp hK h ha hX hrd (.one (step_enter hp hw (by rw [hsem (by simp)]; exact hres))) hb
  | round l args s' =>
    obtain ⟨e, us, hl, hres, rfl, hargs⟩ := hn
    obtain ⟨q, hq, h⟩ := obind_some.1 h
    obtain ⟨fn, tmps, as, bd, hy, hb⟩ := hr.round l args a s' q hq μ w us e hsr hargs hl
    exact fin_sound hp hK h ha hX hrd (.one (step_round hp hw (by rw [hsem (by simp), hres]; exact hy))) (hb _ _)
  | defer d s' =>
    obtain ⟨c, hres, rfl, hd⟩ := hn
    cases rd with
    | some l => cases h
    | none =>
    have hro := noneI hrd
    obtain ⟨e1, e2, e3, e4⟩ := setDefers_tm a (d :: a.defers)
    have ha' : AR P μ (a.setDefers (d :: a.defers)) { ca with defers := c :: ca.defers } := ⟨e1 ▸ ha.tm, e2 ▸ ha.size, e3 ▸ .cons d c _ _ hd ha.defers⟩
    have h' : putK p.dst .undef K (a.setDefers (d :: a.defers)) s' = some o := h
    exact hK.put h' hsr.stay ha' (e4 ▸ hX) hrd undef_rel (.one (step_dfr hro hp hw hres))
  | recover s' =>
    obtain ⟨hres, rfl⟩ := hn
    cases rd with
    | some l => cases h
    | none =>
    have hro := noneI hrd
    have h : recoverA p.dst K a s' a.rc = some o := h
    have hst := step_rec (k := k) (cs := X.cs u) (rest := rest) hro hp hw hres
    have none_ : tryRecover (b.atR ca (.inRegion ops (i :: rest) :: k)) (X.cs u) = none → putK p.dst .niliface K a s' = some o → At P N b X k (lone (b.atR ca (.inRegion ops (i :: rest) :: k)) (X.cs u) w) μ s' w o := by
      intro ht h
      rw [ht] at hst
      exact hK.put h hsr.stay ha hX hrd .niliface (.one hst)
    have hX0 := hX
    generalize hrc : a.rc = rc at h hX0
    cases hX0 with
    | norm cs =>
      have hkn : b.kind = .normal := hk
      exact none_ (by cases cs <;> simp [tryRecover, Frame.atR, hkn, Cx.cs]) h
    | dfr c₀ cs₀ m _ hm =>
      have hkd : (b.atR ca (.inRegion ops (i :: rest) :: k)).kind = .deferred := hk
      rw [tryRecover_deferred hkd] at none_ hst
      cases hm with
      | returning => exact none_ rfl h
      | panicking c C hc => cases hc with
        | nil => exact none_ rfl h
        | cons v r V c C hv hs => cases r with
          | true => exact none_ rfl h
          | false =>
            obtain ⟨e1, e2, e3, e4⟩ := setRc_tm a (some (.panicking ((v, true) :: c)))
            have ha' : AR P μ (a.setRc (some (.panicking ((v, true) :: c)))) ca := ⟨e1 ▸ ha.tm, e2 ▸ ha.size, e3 ▸ ha.defers⟩
            have h' : putK p.dst v K (a.setRc (some (.panicking ((v, true) :: c)))) s' = some o := h
            have hX' : RR P μ (.dfr c₀ cs₀) (a.setRc (some (.panicking ((v, true) :: c)))).rc (.panicking ({ v := V, recovered := true } :: C)) := by
              rw [e4]
              exact .dfr c₀ cs₀ _ _ (.panicking _ _ (.cons v true V c C hv hs))
            exact hK.put h' hsr.stay ha' hX' hrd hv (.one hst)
  | panic v s' =>
    obtain ⟨V, hres, rfl, hv⟩ := hn
    cases h
    exact ⟨μ, w, ca, u, hsr.stay, ha, hX, _, _, .cons v false V [] [] hv .nil, .one (step_pnc hp hw (by rw [hsem (by simp)]; exact hres))⟩
end
end Go.Proofs.Vai
