/- Control: calls; the way out; rounds; THE WHOLE. -/
import Derived.Test.YthaimknbmaeomaaGreatDoorVaiRunC
set_option linter.unusedVariables false
set_option linter.unusedSimpArgs false
set_option linter.unusedSectionVars false
namespace Go.Proofs.Vai
open Go Go.RowKit
variable [Env]

section
variable {P : Program} {N : Nat}

/-! ### Results -/
def resV (tmps : Array Value) : ResultVar → Sem Value
  | .tmp t => pure (tmps.getD t undef)
  | .cell x t => do loadVar t (← asAddr (tmps.getD x undef))
theorem resOne_run {μ : Inj} {s : St} {w : World} {a : AAct} {tmps : Array Value} (hs : SR P N μ s w) (ht : TR P μ a.tm tmps) {r : ResultVar} {v : AV} (h : resOne P a s r = some v) :
    ∃ V, (resV tmps r).run P w = .ok V w ∧ VR P μ v V := by
  cases r with
  | tmp t => cases h; exact ⟨_, rfl, ht t⟩
  | cell x t =>
    have hx : VR P μ (a.tmp x) (tmps.getD x undef) := ht x
    replace h : resCell P t s (a.tmp x) = some v := h
    show ∃ V, (do loadVar t (← asAddr (tmps.getD x undef)) : Sem Value).run P w = .ok V w ∧ VR P μ v V
    generalize a.tmp x = ax at *
    generalize tmps.getD x undef = X at *
    cases ax with
    | ptr b o => cases hx with
      | ptr _ _ e he =>
        obtain ⟨V, hrun, hv, _⟩ := hs.load he h
        exact ⟨V, by simp [asAddr, hrun], hv⟩
    | _ => cases h
theorem resA_run {μ : Inj} {s : St} {w : World} {a : AAct} {tmps : Array Value} (hs : SR P N μ s w) (ht : TR P μ a.tm tmps) : ∀ {rs : List ResultVar} {vs : List AV}, resA P a s rs = some vs →
    ∃ Vs, (rs.mapM (resV tmps)).run P w = .ok Vs w ∧ VRs P μ vs Vs := by
  intro rs
  induction rs with
  | nil => intro vs h; cases h; exact ⟨[], rfl, .nil⟩
  | cons r rs ih =>
    intro vs h
    obtain ⟨v, hv, h⟩ := obind_some.1 (show obind (resOne P a s r) (fun v => omap (resA P a s rs) (v :: ·)) = some vs from h)
    obtain ⟨vs', hvs, rfl⟩ := omap_some.1 h
    obtain ⟨V, h1, h2⟩ := resOne_run hs ht hv
    obtain ⟨Vs, h3, h4⟩ := ih hvs
    refine ⟨V :: Vs, ?_, .cons _ _ _ _ h2 h4⟩
    rw [List.mapM_cons]
    simp only [Sem.run_bind, h1, h3, Result.andThen_ok, Sem.run_pure]
theorem results_run {μ : Inj} {s : St} {w : World} {a : AAct} {tmps : Array Value} {fn : Func} {v : AV} (hs : SR P N μ s w) (ht : TR P μ a.tm tmps) (h : resultsA P fn a s = some v) :
    ∃ V, (results fn tmps).run P w = .ok V w ∧ VR P μ v V := by
  obtain ⟨vs, hvs, rfl⟩ := omap_some.1 h
  obtain ⟨Vs, h1, h2⟩ := resA_run hs ht hvs
  have h1' : (fn.results.mapM (resV tmps)).run P w = .ok Vs.toArray w := by
    rw [Array.mapM_eq_mapM_toList]
    simp [h1]
  refine ⟨if h : Vs.toArray.size = 1 then Vs.toArray[0] else .tuple Vs.toArray, ?_, ?_⟩
  · have e : results fn tmps = (do let vs ← fn.results.mapM (resV tmps); pure (if h : vs.size = 1 then vs[0] else .tuple vs)) := by
      unfold results
      congr 2
    rw [e]
    simp only [Sem.run_bind, h1', Result.andThen_ok, Sem.run_pure]
  · cases h2 with
    | nil => exact .tuple [] [] .nil
    | cons v u vs us hv hs' => cases hs' with
      | nil => exact hv
      | cons v' u' vs' us' hv' hs'' =>
        have : ¬ (u :: u' :: us').toArray.size = 1 := by simp
        rw [dif_neg this]
        exact .tuple _ _ (.cons _ _ _ _ hv (.cons _ _ _ _ hv' hs''))

theorem isRun {r : AMode} {μ : Inj} {u : FrameMode} (h : MR P μ r u) : u ≠ .run := h.ne_run
/-- The way out. -/
theorem leave_sound (hP : NoNum P) {r : Rec} (hr : RecOK P N r) {fn : Func} {m : AMode} {a : AAct} {s : St} {o : Out} (h : jLeave P fn m r a s = some o) {μ : Inj} {w : World} {X : Cx} {u : FrameMode} {fr : Frame}
    (hs : SR P N μ s w) (ht : TR P μ a.tm fr.tmps) (hd : DRs P μ a.defers fr.defers) (hX : RR P μ X a.rc u) (hk : fr.kind = X.kind) (hf : P.funcs[fr.fn]? = some fn) (hm : MR P μ m fr.mode) :
    Ended P N X fr.fn (lone fr (X.cs u) w) μ s w o := by
  unfold jLeave at h
  cases hda : a.defers with
  | nil =>
    rw [hda] at h hd
    replace h : leaveEnd P fn a s m = some o := h
    have hdn : fr.defers = [] := by
      generalize fr.defers = x at hd
      cases hd
      rfl
    generalize hmode : fr.mode = md at hm
    cases hm with
    | returning =>
      obtain ⟨v, hv, rfl⟩ := omap_some.1 (show omap (resultsA P fn a s) (fun v => Out.fin (.returned v) a.rc s) = some o from h)
      obtain ⟨V, h1, h2⟩ := results_run hs ht hv
      exact ⟨μ, w, u, V, fr, hs.stay, hX, h2, .refl _ _, rfl, hk, hmode, hdn, fn, hf, h1⟩
    | panicking c C hc =>
      cases h
      exact ⟨μ, w, u, C, fr, hs.stay, hX, hc, .refl _ _, rfl, hk, hmode, hdn, fn, hf⟩
  | cons d ds =>
    rw [hda] at h hd
    replace h : leaveOne fn m r (a.setDefers ds) d.args s d.target = some o := h
    obtain ⟨e1, e2, e3, e4⟩ := setDefers_tm a ds
    generalize hfd : fr.defers = FD at hd
    cases hd with
    | cons _ c _ cs hdc hds =>
      cases hdc with
      | fn f cap args C A hc ha =>
        obtain ⟨q, hq, h⟩ := obind_some.1 (show obind (r (.call f (args ++ cap) (some m)) (a.setDefers ds) s) (leftDef fn r (a.setDefers ds)) = some o from h)
        obtain ⟨⟨fn', c', hfn, hbody⟩, hends⟩ := hr.call _ _ _ _ _ _ hq
        have hn : ¬ fn'.name = "runtime.NumGoroutine" := fun e => by have := hP f fn' hfn; rw [e] at this; simp at this
        have hinv : (invoke (.fn (.func f) C.toArray) A.toArray).run P w = .ok (.enter f (A ++ C).toArray) w := by
          simp [invoke, callFunc, hfn, hn, hbody]
        have hstep := step_defer (cs := X.cs u) hm.ne_run hfd rfl hinv
        have hE := hends μ w (.dfr { fr with defers := cs } (X.cs u)) fr.mode (A ++ C) hs (ha.append hc) (.dfr _ _ _ _ hm)
        cases q with
        | «at» => exact hE.elim
        | fin e rc' s' =>
          cases e with
          | returned v =>
            obtain ⟨μ', w', u', V, fr', hg, hR, hv, hst, hfn', hk', hgo⟩ := hE
            generalize hrc : rc' = rc'' at hR
            cases hR with
            | dfr _ _ m' _ hm' =>
              subst hrc
              replace h : r (.leave fn (settleA m')) (a.setDefers ds) s' = some o := h
              have h2 := step_going_returned (c := { { fr with defers := cs } with mode := u' }) (cs := X.cs u) hk' hgo
              have := hr.leave fn (settleA m') (a.setDefers ds) s' o h μ' w' X u { { { fr with defers := cs } with mode := u' } with mode := settle u' } hg.sr (e1 ▸ ht.mono hg.ext.sub) (e3 ▸ hds.mono hg.ext.sub) (e4 ▸ hX.mono hg.ext.sub) hk hf hm'.settle
              exact this.pre (.head hstep (hst.trans (.one h2))) hg
          | panicked ch =>
            obtain ⟨μ', w', u', C', fr', hg, hR, hv, hst, hfn', hk', hgo⟩ := hE
            generalize hrc : rc' = rc'' at hR
            cases hR with
            | dfr _ _ m' _ hm' =>
              subst hrc
              replace h : r (.leave fn (raisedA m' ch)) (a.setDefers ds) s' = some o := h
              have h2 := step_going_panicked (c := { { fr with defers := cs } with mode := u' }) (cs := X.cs u) hgo
              have := hr.leave fn (raisedA m' ch) (a.setDefers ds) s' o h μ' w' X u { { { fr with defers := cs } with mode := u' } with mode := raised u' C' } hg.sr (e1 ▸ ht.mono hg.ext.sub) (e3 ▸ hds.mono hg.ext.sub) (e4 ▸ hX.mono hg.ext.sub) hk hf (hm'.raised hv)
              exact this.pre (.head hstep (hst.trans (.one h2))) hg
      | collected b e he =>
        obtain ⟨bl, hbl, h⟩ := obind_some.1 (show obind (s.h.get b) (takeDef fn m b r (a.setDefers ds) s) = some o from h)
        obtain ⟨k', hk', hbr⟩ := hs.blk b e he
        rw [hbl] at hk'
        cases hk'
        cases bl with
        | deferred t => cases t with
          | true =>
            replace h : r (.leave fn m) (a.setDefers ds) (s.put b (.deferred false)) = some o := h
            obtain ⟨g, rfl, hN, hg⟩ := hbr
            have hlt : g < w.heap.size := (Array.getElem?_eq_some_iff.1 hg).1
            have hG : Goes P N μ s w μ (s.put b (.deferred false)) (w.putObj g (.deferred none)) := by
              refine hs.turned he hbl rfl hN ⟨rfl, rfl, rfl, by simp, fun k _ hne => ?_⟩ ⟨g, rfl, hN, World.putObj_heap_same hlt⟩
              exact World.putObj_heap_other fun e => hne (by rw [e])
            have hstep := step_collected (cs := X.cs u) hm.ne_run hfd rfl (run_takeDeferred (P := P) hg)
            have := hr.leave fn m (a.setDefers ds) _ o h μ _ X u { fr with defers := cs } hG.sr (e1 ▸ ht) (e3 ▸ hds) (e4 ▸ hX) hk hf hm
            exact this.pre (.one hstep) hG
          | false => cases h
        | _ => cases h

/-! ### Calls -/
theorem args_tm {μ : Inj} {args : List AV} {us : List Value} (h : VRs P μ args us) (n : Nat) : TR P μ (setTr args .nil 0) (us.toArray ++ Array.replicate (n - us.length) undef) := by
  intro t
  rw [setTr_get]
  simp only [Nat.zero_le, true_and, Nat.zero_add, Nat.sub_zero]
  have hl := h.length
  by_cases ht : t < args.length
  · rw [if_pos ht]
    obtain ⟨u, hu, hv⟩ := h.get (List.getElem?_eq_getElem ht)
    rw [List.getElem?_eq_getElem ht]
    have : (us.toArray ++ Array.replicate (n - us.length) undef).getD t undef = u := by
      rw [Array.getD_eq_getD_getElem?, Array.getElem?_append_left (by simp; omega)]
      simp [hu]
    rw [this]
    exact hv
  · rw [if_neg ht, get_nil]
    have : (us.toArray ++ Array.replicate (n - us.length) undef).getD t undef = undef := by
      rw [Array.getD_eq_getD_getElem?, Array.getElem?_append_right (by simp; omega)]
      cases hq : (Array.replicate (n - us.length) undef)[t - us.toArray.size]? with
      | none => rfl
      | some q =>
        obtain ⟨_, hq'⟩ := Array.getElem?_eq_some_iff.1 hq
        simp at hq'
        rw [← hq']; rfl
    rw [this]
    exact undef_rel
theorem call_sound (hP : NoNum P) {r : Rec} (hr : RecOK P N r) (hdraw : ∀ id ops, CodeOK P N r (.region id ops true)) {f : FuncId} {args : List AV} {rc : Option AMode} {s : St} {o : Out} (h : jCall P f args rc r s = some o) :
    (∃ fn c, P.funcs[f]? = some fn ∧ fn.body = some c) ∧ ∀ μ w X u us, SR P N μ s w → VRs P μ args us → RR P μ X rc u → Ended P N X f (lone (Frame.enter P f us.toArray X.kind) (X.cs u) w) μ s w o := by
  obtain ⟨fn, hf, h⟩ := obind_some.1 h
  obtain ⟨c, hb, h⟩ := obind_some.1 h
  refine ⟨⟨fn, c, hf, hb⟩, fun μ w X u us hs ha hX => ?_⟩
  obtain ⟨q, hq, h⟩ := obind_some.1 h
  let b : Frame := { fn := f, tmps := #[], todo := [], defers := [], mode := .run, kind := X.kind }
  have henter : Frame.enter P f us.toArray X.kind = b.atR { tmps := us.toArray ++ Array.replicate (fn.ntmps - us.length) undef, defers := [] } [.code c] := by
    simp [Frame.enter, Frame.atR, hf, hb, b]
  have hl := ha.length
  have hA : AR P μ (.mk (setTr args .nil 0) (Nat.max fn.ntmps args.length) [] rc) { tmps := us.toArray ++ Array.replicate (fn.ntmps - us.length) undef, defers := [] } :=
    ⟨args_tm ha _, by simp only [Array.size_append, List.size_toArray, Array.size_replicate, hl]; show us.length + (fn.ntmps - us.length) = max fn.ntmps us.length; omega, .nil⟩
  have := code_sound hP hr hdraw c none _ s q hq μ w b X u [] _ hs hA hX rfl .none ⟨fn, hf⟩
  rw [henter]
  cases q with
  | fin => exact this.elim
  | «at» e a' s' =>
    obtain ⟨μ', w', ca', u', hg, ha', hX', hst⟩ := this
    cases e with
    | normal =>
      have hl := hr.leave fn .returning a' s' o h μ' w' X u' { b.atR ca' [] with mode := .returning } hg.sr ha'.tm ha'.defers hX' rfl hf .returning
      exact hl.pre (Steps.trans hst (.one (stepR_end rfl))) hg
    | exit id => cases h
    | ret =>
      obtain ⟨k1, hst⟩ := hst
      have hl := hr.leave fn .returning a' s' o h μ' w' X u' { b.atR ca' (.code .ret :: k1) with mode := .returning } hg.sr ha'.tm ha'.defers hX' rfl hf .returning
      exact hl.pre (Steps.trans hst (.one (stepR_ret rfl))) hg
    | panic ch =>
      obtain ⟨k1, C, hc, hst⟩ := hst
      have hl := hr.leave fn (.panicking ch) a' s' o h μ' w' X u' { b.atR ca' k1 with mode := .panicking C } hg.sr ha'.tm ha'.defers hX' rfl hf (.panicking _ _ hc)
      exact hl.pre hst hg
end
end Go.Proofs.Vai
