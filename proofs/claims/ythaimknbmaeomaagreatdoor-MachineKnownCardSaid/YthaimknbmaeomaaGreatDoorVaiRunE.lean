/- Control: rounds; THE WHOLE. -/
import Derived.Test.YthaimknbmaeomaaGreatDoorVaiRunD
set_option linter.unusedVariables false
set_option linter.unusedSimpArgs false
set_option linter.unusedSectionVars false
namespace Go.Proofs.Vai
open Go Go.RowKit
variable [Env]

section
variable {P : Program} {N : Nat}

theorem allLt_cons {n t : Nat} {l : List Tmp} (h : allLt n (t :: l) = true) : t < n ∧ allLt n l = true := by
  replace h : cnd (Nat.ble (Nat.succ t) n) (allLt n l) false = true := h
  cases hb : Nat.ble (Nat.succ t) n with
  | true => rw [hb] at h; exact ⟨Nat.le_of_ble_eq_true hb, h⟩
  | false => rw [hb] at h; cases h
/-- yield's arguments in the parameters. -/
theorem setTms_rel {μ : Inj} : ∀ (ps : List Tmp) (vs : List AV) (us : List Value) (tm : Tr AV) (tmps : Array Value) (n : Nat), TR P μ tm tmps → tmps.size = n → allLt n ps = true → VRs P μ vs us →
    TR P μ (setTms ps vs tm) ((ps.zip us).foldl (fun tmps (p : Tmp × Value) => tmps.setIfInBounds p.1 p.2) tmps) ∧ ((ps.zip us).foldl (fun tmps (p : Tmp × Value) => tmps.setIfInBounds p.1 p.2) tmps).size = n
  | [], vs, us, tm, tmps, n, ht, hn, ha, hv => ⟨ht, hn⟩
  | p :: ps, vs, us, tm, tmps, n, ht, hn, ha, hv => by
    cases hv with
    | nil => exact ⟨ht, hn⟩
    | cons v u vs us hv hvs =>
      obtain ⟨h1, h2⟩ := allLt_cons ha
      refine setTms_rel ps vs us (tm.set (pos p) v) (tmps.setIfInBounds p u) n (fun t => ?_) (by simpa using hn) h2 hvs
      by_cases htp : p = t
      · subst htp
        rw [get_set_same]
        have hp : p < tmps.size := hn.symm ▸ h1
        simpa [orUndef, Array.getD_eq_getD_getElem?, hp] using hv
      · rw [get_set_ne _ _ (fun e => htp (pos_inj e))]
        have := ht t
        simpa [Array.getD_eq_getD_getElem?, Array.getElem?_setIfInBounds_ne htp] using this
theorem endRound_sound {μ : Inj} {s : St} {w : World} (hs : SR P N μ s w) {l : Pos} {e : Ent} (hl : μ l = some e) {j : Option Code} {o : Out} (h : endRoundA l j s = some o) :
    ∃ w', (Instr.endRound e.a.block j).run P w = .ok (.bool j.isNone) w' ∧ ∀ (c : Frame) (cs : List Frame) (m : Machine), Steps P m (lone (c.finish (.bool j.isNone)) cs w') → Back P N c cs m μ s w o := by
  obtain ⟨lp, hlp, rfl⟩ := omap_some.1 h
  obtain ⟨hk, g, r, rfl, hN, hg, hLR⟩ := hs.loopAt hl hlp
  have hr := run_endRound (P := P) j hg
  have hG := hs.setLoop hl hk hN hg (hLR.with (match j with | none => .ready | some _ => .done) j)
  refine ⟨_, hr, fun c cs m hst => ⟨μ, _, _, ?_, .bool j.isNone, hst⟩⟩
  cases j <;> exact hG
theorem round_sound {r : Rec} (hr : RecOK P N r) (hcode : ∀ c, CodeOK P N r c) {l : Pos} {args : List AV} {s : St} {o : Out} (h : jRound P l args r s = some o) {μ : Inj} {w : World} {us : List Value} {e : Ent} (hs : SR P N μ s w) (ha : VRs P μ args us) (hl : μ l = some e) :
    ∃ fn tmps assign body, (Instr.yield e.a.block us.toArray).run P w = .ok (.round e.a.block fn tmps assign body) w ∧ ∀ c cs, Back P N c cs (lone (Frame.round e.a.block fn tmps assign body .normal) (c :: cs) w) μ s w o := by
  obtain ⟨lp, hlp, h⟩ := obind_some.1 h
  obtain ⟨hc, h⟩ := cnd_none.1 (show cnd (Nat.beq args.length lp.params.length && allLt lp.n lp.params) (obind (jCode P lp.assign (some l) r (.mk (setTms lp.params args lp.tm) lp.n [] none) s) (onlyNormal (beginRoundA P l lp.body r))) none = some o from h)
  rw [Bool.and_eq_true] at hc
  obtain ⟨hc1, hc2⟩ := hc
  obtain ⟨q, hq, h⟩ := obind_some.1 h
  obtain ⟨hk, g, rr, rfl, hN, hg, hLR⟩ := hs.loopAt hl hlp
  have hps : us.toArray.size = rr.params.size := by
    have h1 := ha.length
    have h2 : args.length = lp.params.length := Nat.eq_of_beq_eq_true hc1
    have h3 := congrArg List.length hLR.params
    simp at h3 ⊢
    omega
  have hy := run_yield (P := P) hg hps
  refine ⟨_, _, _, _, hy, fun c cs => ?_⟩
  let b : Frame := { fn := rr.fn, tmps := #[], todo := [], defers := [], mode := .run, kind := .normal, roundOf := some g }
  have hzip : (rr.params.zip us.toArray).foldl (fun tmps (p : Tmp × Value) => tmps.setIfInBounds p.1 p.2) rr.tmps = (lp.params.zip us).foldl (fun tmps (p : Tmp × Value) => tmps.setIfInBounds p.1 p.2) rr.tmps := by
    rw [← Array.foldl_toList, Array.toList_zip, hLR.params]
  obtain ⟨ht, hn⟩ := setTms_rel lp.params args us lp.tm rr.tmps lp.n hLR.tmps hLR.size hc2 ha
  have hA : AR P μ (.mk (setTms lp.params args lp.tm) lp.n [] none) { tmps := (rr.params.zip us.toArray).foldl (fun tmps (p : Tmp × Value) => tmps.setIfInBounds p.1 p.2) rr.tmps, defers := [] } :=
    ⟨by rw [hzip]; exact ht, by rw [hzip]; exact hn, .nil⟩
  have hfr : Frame.round g rr.fn ((rr.params.zip us.toArray).foldl (fun tmps (p : Tmp × Value) => tmps.setIfInBounds p.1 p.2) rr.tmps) rr.assign rr.body .normal =
      b.atR { tmps := (rr.params.zip us.toArray).foldl (fun tmps (p : Tmp × Value) => tmps.setIfInBounds p.1 p.2) rr.tmps, defers := [] } [.code lp.assign, .beginRound, .code lp.body] := by
    rw [← hLR.assign, ← hLR.body]
    rfl
  have h1 := hcode lp.assign (some l) _ s q hq μ w b (.norm (c :: cs)) .run [.beginRound, .code lp.body] _ hs hA (.norm _ _) rfl (.some l g hl) hLR.fn
  rw [← hfr] at h1
  cases q with
  | fin => exact h1.elim
  | «at» x a₁ s₁ =>
    cases x with
    | exit id => cases h
    | ret => cases h
    | panic ch => cases h
    | normal =>
      obtain ⟨μ₁, w₁, ca₁, u₁, hg₁, ha₁, hX₁, hst₁⟩ := h1
      obtain ⟨lp₁, hlp₁, h⟩ := obind_some.1 (show obind (s₁.loop l) (fun lp₁ => cnd lp₁.ready (obind (jCode P lp.body (some l) r a₁ (s₁.put l (.loop (lp₁.with .busy lp₁.pending)))) (roundEnd l)) none) = some o from h)
      obtain ⟨hrd, h⟩ := cnd_none.1 h
      obtain ⟨q₂, hq₂, h⟩ := obind_some.1 h
      have hl₁ := hg₁.ext.sub _ _ hl
      obtain ⟨hk₁, g', r₁, he, hN₁, hh₁, hLR₁⟩ := hg₁.sr.loopAt hl₁ hlp₁
      cases he
      have hG := hg₁.sr.setLoop hl₁ hk₁ hN₁ hh₁ (hLR₁.with .busy lp₁.pending)
      have hbr := run_beginRound (P := P) hh₁ (by rw [hLR₁.state]; exact ready_is hrd)
      rw [show ({ r₁ with state := .busy } : Loop) = { r₁ with state := .busy, pending := lp₁.pending } from by rw [← hLR₁.pending]] at hbr
      have hs2 := stepR_beginRound (b := b) (a := ca₁) (k := [.code lp.body]) (cs := c :: cs) rfl hbr
      have hX₂ : RR P μ₁ (.norm (c :: cs)) a₁.rc .run := by
        generalize a₁.rc = x at hX₁
        cases hX₁
        exact .norm _ _
      have h2 := hcode lp.body (some l) a₁ _ q₂ hq₂ μ₁ _ b (.norm (c :: cs)) .run [] ca₁ hG.sr ha₁ hX₂ rfl (.some l g hl₁) hLR.fn
      have hgo := hg₁.trans hG
      have pre : ∀ {m₁ : Machine} {μ₂ : Inj} {σ₂ : St} {w₂ : World}, Goes P N μ₁ (s₁.put l (.loop (lp₁.with .busy lp₁.pending))) (w₁.putObj g (.loop { r₁ with state := .busy, pending := lp₁.pending })) μ₂ σ₂ w₂ →
          Steps P (lone (b.atR ca₁ [.code lp.body]) (c :: cs) (w₁.putObj g (.loop { r₁ with state := .busy, pending := lp₁.pending }))) m₁ → Back P N c cs m₁ μ₂ σ₂ w₂ o →
          Back P N c cs (lone (Frame.round g rr.fn ((rr.params.zip us.toArray).foldl (fun tmps (p : Tmp × Value) => tmps.setIfInBounds p.1 p.2) rr.tmps) rr.assign rr.body .normal) (c :: cs) w) μ s w o := by
        intro m₁ μ₂ σ₂ w₂ hg₂ hst hb
        have hall := Steps.trans hst₁ (.head hs2 hst)
        cases o with
        | «at» => exact hb.elim
        | fin ee rc s' =>
          cases ee with
          | returned v => obtain ⟨μ', w', V, q1, q2, q3⟩ := hb; exact ⟨μ', w', V, (hgo.trans hg₂).trans q1, q2, hall.trans q3⟩
          | panicked ch => obtain ⟨μ', w', C, q1, q2, q3⟩ := hb; exact ⟨μ', w', C, (hgo.trans hg₂).trans q1, q2, hall.trans q3⟩
      cases q₂ with
      | fin => exact h2.elim
      | «at» x a₂ s₂ =>
        obtain ⟨μ₂, w₂, ca₂, u₂, hg₂, ha₂, hX₃, hst₂⟩ := h2
        have hl₂ := hg₂.ext.sub _ _ hl₁
        cases x with
        | normal =>
          obtain ⟨w', hrun, hb⟩ := endRound_sound hg₂.sr hl₂ (show endRoundA l none s₂ = some o from h)
          exact pre hg₂ hst₂ (hb c cs _ (.one (stepR_round_end rfl rfl hrun)))
        | ret =>
          obtain ⟨k1, hst₂⟩ := hst₂
          obtain ⟨w', hrun, hb⟩ := endRound_sound hg₂.sr hl₂ (show endRoundA l (some .ret) s₂ = some o from h)
          exact pre hg₂ hst₂ (hb c cs _ (.one (stepR_round_ret rfl rfl hrun)))
        | exit id =>
          obtain ⟨k1, hx, hst₂⟩ := hst₂
          obtain ⟨w', hrun, hb⟩ := endRound_sound hg₂.sr hl₂ (show endRoundA l (some (.exit id)) s₂ = some o from h)
          exact pre hg₂ hst₂ (hb c cs _ (.one (stepR_round_exit rfl rfl hx hrun)))
        | panic ch =>
          obtain ⟨k1, C, hc, hst₂⟩ := hst₂
          replace h : @List.rec ADef (fun _ => Option Out) (some (.fin (.panicked ch) none s₂)) (fun _ _ _ => none) a₂.defers = some o := h
          cases hda : a₂.defers with
          | cons d ds => rw [hda] at h; cases h
          | nil =>
            rw [hda] at h
            cases h
            have hcd : ca₂.defers = [] := by
              have := ha₂.defers
              rw [hda] at this
              generalize ca₂.defers = x at this
              cases this
              rfl
            refine pre hg₂ hst₂ ⟨μ₂, w₂, C, hg₂.sr.stay, hc, .one (step_leave_panicked ⟨rfl, hcd, hLR.fn⟩)⟩

/-- A drawn region is told by whoever can. -/
def Drawn (P : Program) (N : Nat) : Prop := ∀ r, RecOK P N r → ∀ id ops, CodeOK P N r (.region id ops true)
/-- The calls that are known come to what is known. -/
def OrcOK (P : Program) (orc : Orc) : Prop := ∀ f args s x, orc f args s = some x → (∃ fn c, P.funcs[f]? = some fn ∧ fn.body = some c) ∧
  ∀ N μ w cs us, SR P N μ s w → VRs P μ args us → Ended P N (.norm cs) f (lone (Frame.enter P f us.toArray .normal) cs w) μ s w (x.out s)
theorem orcTry_some {rc : Option AMode} {s : St} {els : Option Out} {o : Option ORes} {r : Out} (h : orcTry rc s els o = some r) : (∃ x, o = some x ∧ rc = none ∧ r = x.out s) ∨ els = some r := by
  cases o with
  | none => exact .inr h
  | some x => cases rc with
    | none => exact .inl ⟨x, rfl, rfl, (Option.some.inj h).symm⟩
    | some m => exact .inr h
/-- THE WHOLE: what the interpreter says, the machine does. -/
theorem run_sound (hP : NoNum P) (hdraw : Drawn P N) {orc : Orc} (ho : OrcOK P orc) : ∀ n, RecOK P N (run P orc n) := by
  intro n
  induction n with
  | zero =>
    exact ⟨(fun _ _ _ _ _ h => by cases h), (fun _ _ _ _ _ _ h => by cases h), (fun _ _ _ _ _ h => by cases h), (fun _ _ _ _ _ h => by cases h)⟩
  | succ n ih =>
    have hcode := code_sound hP ih (hdraw _ ih)
    refine ⟨?_, ?_, ?_, ?_⟩
    · intro rd c a s o h μ w b X u k ca hs ha hX hk hrd hf m hm
      obtain ⟨o₁, h1, h2⟩ := obind_some.1 (show obind (jCode P c rd (run P orc n) a s) (thenO (run P orc n (.loop rd c))) = some o from h)
      have := hcode c rd a s o₁ h1 μ w b X u (.inLoop c :: k) ca hs ha hX hk hrd hf
      exact (At.bind (k := k) this (fun id => rfl) h2 fun a' s' μ₁ w₁ u₁ ca₁ hg ha' hX' hK => ih.loop rd c a' s' o hK μ₁ w₁ b X u₁ k ca₁ hg.sr ha' hX' hk (hrd.mono hg.ext.sub) hf _ stepR_inLoop).pre (.one hm) hs.stay
    · intro f args rc a s o h
      rcases orcTry_some (show orcTry rc s (jCall P f args rc (run P orc n) s) (orc f args s) = some o from h) with ⟨x, hx, rfl, rfl⟩ | h
      · obtain ⟨h1, h2⟩ := ho f args s x hx
        refine ⟨h1, fun μ w X u us hs ha hX => ?_⟩
        cases hX with
        | norm cs u => exact h2 N μ w cs us hs ha
      · exact call_sound hP ih (hdraw _ ih) h
    · intro fn m a s o h μ w X u fr hs ht hd hX hk hf hm
      exact leave_sound hP ih (show jLeave P fn m (run P orc n) a s = some o from h) hs ht hd hX hk hf hm
    · intro l args a s o h μ w us e hs ha hl
      exact round_sound ih hcode (show jRound P l args (run P orc n) s = some o from h) hs ha hl
end
end Go.Proofs.Vai
