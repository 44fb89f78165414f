/- Control: a range over a function; calls; the way out; rounds; THE WHOLE. -/
import Derived.Test.YthaimknbmaeomaaGreatDoorVaiRunB
set_option linter.unusedVariables false
set_option linter.unusedSimpArgs false
set_option linter.unusedSectionVars false
namespace Go.Proofs.Vai
open Go Go.RowKit
variable [Env]

section
variable {P : Program} {N : Nat}

/-! ### A range over a function -/
theorem jump_at {a : AAct} {s : St} {j : Option Code} {o : Out} (h : jumpA a s j = some o) {b : Frame} {X : Cx} {k : List Item} {m : Machine} {μ₀ μ : Inj} {σ₀ : St} {w₀ w : World} {u : FrameMode} {ca : Act}
    (hg : Goes P N μ₀ σ₀ w₀ μ s w) (ha : AR P μ a ca) (hX : RR P μ X a.rc u) (hs : Steps P m (lone (b.atR ca ((j.map Item.code).toList ++ k)) (X.cs u) w)) : At P N b X k m μ₀ σ₀ w₀ o := by
  cases j with
  | none => cases h; exact ⟨μ, w, ca, u, hg, ha, hX, hs⟩
  | some c =>
    cases c <;> first | (cases h; done) | skip
    · cases h; exact ⟨μ, w, ca, u, hg, ha, hX, k, rfl, hs⟩
    · cases h; exact ⟨μ, w, ca, u, hg, ha, hX, k, hs⟩
theorem LR.with {μ : Inj} {lp : ALoop} {r : Loop} (h : LR P μ lp r) (st : LoopState) (p : Option Code) : LR P μ (lp.with st p) { r with state := st, pending := p } :=
  ⟨rfl, rfl, h.tmps, h.size, h.params, h.assign, h.body, h.fn, h.defers⟩
theorem busy_no {lp : ALoop} (h : lp.busy = false) : lp.state ≠ .busy := by
  intro e
  unfold ALoop.busy at h
  rw [e] at h
  cases h
theorem ready_is {lp : ALoop} (h : lp.ready = true) : lp.state = .ready := by
  unfold ALoop.ready at h
  split at h
  · assumption
  · cases h
theorem code_range {r : Rec} (hP : NoNum P) (hr : RecOK P N r) {f : Operand} {ps : Array Tmp} {assign body : Code} : CodeOK P N r (.rangeFunc f ps assign body) := by
  intro rd a s o h μ w b X u k ca hs ha hX hk hrd hf
  obtain ⟨v, hv, h1⟩ := obind_some.1 (show obind (a.eval P f) (rangeV ps assign body rd r a s) = some o from h)
  have hx := ha.eval hs hv
  clear h
  cases v with
  | func g first cap =>
    obtain ⟨⟨d, mark, s₁⟩, hq, h2⟩ := obind_some.1 (show obind (enterLoopA s rd) (rangeIn first cap g ps assign body r a) = some o from h1)
    obtain ⟨q, hcall, h3⟩ := obind_some.1 (show obind (r (.call g (first ++ (.yield s₁.n :: cap)) none) a (s₁.push (.loop { state := .ready, pending := none, tm := a.tm, n := a.n, params := ps.toList, assign, body, defers := d }))) (endRangeA s₁.n (a.setDefers (mark ++ a.defers))) = some o from h2)
    clear h1 h2
    -- the block for the deferred calls
    have hin : ∃ μ₁ w₁ B M, Goes P N μ s w μ₁ s₁ w₁ ∧ (∃ e, μ₁ d = some e ∧ e.a.block = B) ∧ DRs P μ₁ mark M ∧
        (Instr.enterLoop b.fn ca.tmps ps assign body b.roundOf).run P w = .ok (w₁.heap.size, M) (w₁.alloc (.loop { state := .ready, pending := none, fn := b.fn, tmps := ca.tmps, params := ps, assign, body, defers := B })) := by
      cases rd with
      | none =>
        cases hq
        have hro := noneI hrd
        have hg : Goes P N μ s w (upd μ s.n ⟨⟨w.heap.size, 0, none⟩, none⟩) (s.push (.deferred true)) (w.alloc (.deferred (some []))) :=
          hs.laid (World.grownBy_alloc w _ none) (Nat.le_refl _) ⟨w.heap.size, rfl, hs.hN, heap_alloc_new w _⟩
        refine ⟨_, _, w.heap.size, _, hg, ⟨_, upd_n _ _ _, rfl⟩, .cons _ _ _ _ (.collected s.n _ (upd_n _ _ _)) .nil, ?_⟩
        rw [hro, run_enterLoop_outer]
        simp
      | some l =>
        obtain ⟨lp, hlp, hq⟩ := omap_some.1 (show omap (s.loop l) (fun r => (r.defers, [], s)) = some (d, mark, s₁) from hq)
        cases hq
        generalize hro : b.roundOf = ro at *
        cases hrd with
        | some _ gl hl =>
          obtain ⟨_, g', rr, he, hN', hg', hLR⟩ := hs.loopAt hl hlp
          cases he
          obtain ⟨e, he, hb⟩ := hLR.defers
          refine ⟨μ, w, rr.defers, [], hs.stay, ⟨e, he, hb.symm⟩, .nil, ?_⟩
          unfold Instr.enterLoop
          simp only [Sem.run_bind, run_getLoop hg', Result.andThen_ok, Sem.run_pure, run_newObj_alloc]
    obtain ⟨μ₁, w₁, B, M, hg₁, ⟨e, he, hB⟩, hM, hen⟩ := hin
    -- the record
    have hg₂ : Goes P N μ₁ s₁ w₁ (upd μ₁ s₁.n ⟨⟨w₁.heap.size, 0, none⟩, none⟩) (s₁.push (.loop { state := .ready, pending := none, tm := a.tm, n := a.n, params := ps.toList, assign, body, defers := d }))
        (w₁.alloc (.loop { state := .ready, pending := none, fn := b.fn, tmps := ca.tmps, params := ps, assign, body, defers := B })) := by
      have hsub := sub_upd (μ := μ₁) (b := s₁.n) (e := ⟨⟨w₁.heap.size, 0, none⟩, none⟩) (.inl hg₁.sr.fresh)
      refine hg₁.sr.laid (World.grownBy_alloc w₁ _ none) (Nat.le_refl _) ⟨w₁.heap.size, _, rfl, hg₁.sr.hN, heap_alloc_new w₁ _, ?_⟩
      exact ⟨rfl, rfl, (ha.tm.mono hg₁.ext.sub).mono hsub, ha.size, rfl, rfl, rfl, hf, e, hsub _ _ he, hB.symm⟩
    have hg := hg₁.trans hg₂
    have hx' := hx.mono hg.ext.sub
    have hrd' := hrd.mono hg.ext.sub
    generalize hw₂ : w₁.alloc (.loop { state := .ready, pending := none, fn := b.fn, tmps := ca.tmps, params := ps, assign, body, defers := B }) = w₂ at *
    generalize hμ₂ : upd μ₁ s₁.n ⟨⟨w₁.heap.size, 0, none⟩, none⟩ = μ₂ at *
    have hl : μ₂ s₁.n = some ⟨⟨w₁.heap.size, 0, none⟩, none⟩ := by rw [← hμ₂]; exact upd_n _ _ _
    generalize hF : ca.eval f = F at *
    cases hx' with
    | func _ _ _ Fi C h1 h2 =>
    obtain ⟨⟨fn, c, hfn, hbody⟩, hends⟩ := hr.call _ _ _ _ _ _ hcall
    have hargs : VRs P μ₂ (first ++ (.yield s₁.n :: cap)) (Fi ++ (.func (.yield w₁.heap.size) #[] #[] :: C)) := h1.append (.cons _ _ _ _ (.yield s₁.n _ hl) h2)
    obtain ⟨e1, e2, e3, e4⟩ := setDefers_tm a (mark ++ a.defers)
    have dapp : ∀ {x y : List ADef} {cx cy : List Deferred}, DRs P μ₂ x cx → DRs P μ₂ y cy → DRs P μ₂ (x ++ y) (cx ++ cy) := by
      intro x y cx cy hx hy
      induction hx with
      | nil => exact hy
      | cons d c ds cs h _ ih => exact .cons d c _ _ h ih
    have ha' : AR P μ₂ (a.setDefers (mark ++ a.defers)) { ca with defers := M ++ ca.defers } :=
      ⟨e1 ▸ ha.tm.mono hg.ext.sub, e2 ▸ ha.size, e3 ▸ dapp (hM.mono hg₂.ext.sub) (ha.defers.mono hg.ext.sub)⟩
    have hX' : RR P μ₂ X (a.setDefers (mark ++ a.defers)).rc u := e4 ▸ hX.mono hg.ext.sub
    have hback := (hends μ₂ w₂ (.norm (b.atR { ca with defers := M ++ ca.defers } (.inRangeFunc w₁.heap.size :: k) :: X.cs u)) .run _ hg.sr hargs (.norm _ _)).back
    have hstep : Go.step P (lone (b.atR ca (.code (.rangeFunc f ps assign body) :: k)) (X.cs u) w) =
        .next (lone (Frame.enter P g (Fi ++ (.func (.yield w₁.heap.size) #[] #[] :: C)).toArray .normal) (b.atR { ca with defers := M ++ ca.defers } (.inRangeFunc w₁.heap.size :: k) :: X.cs u) w₂) := by
      refine stepR_rangeFunc (d := { target := .fn (.func g) C.toArray, args := Fi.toArray ++ #[.func (.yield w₁.heap.size) #[] #[]] }) (w₁' := w₂) hen ?_ ?_
      · show (Deferred.ofValue (ca.eval f) (#[Operand.const (.func (.yield w₁.heap.size) #[] #[])].map ca.eval) : Sem Deferred).run P w₂ = _
        rw [hF]
        simp [Deferred.ofValue, Act.eval]
      · have hn : ¬ fn.name = "runtime.NumGoroutine" := fun e => by have := hP g fn hfn; rw [e] at this; simp at this
        simp [invoke, callFunc, hfn, hn, hbody]
    cases q with
    | «at» => exact hback.elim
    | fin ee rc s₃ =>
      cases ee with
      | returned v =>
        obtain ⟨μ₃, w₃, V, hg₃, hv, hst⟩ := hback
        rw [finish_atR_inRangeFunc] at hst
        obtain ⟨lp, hlp, h4⟩ := obind_some.1 (show obind (s₃.loop s₁.n) (fun lp => cnd lp.busy none (jumpA (a.setDefers (mark ++ a.defers)) (s₃.put s₁.n (.loop (lp.with .exhausted lp.pending))) lp.pending)) = some o from h3)
        obtain ⟨hbz, h5⟩ := cnd_none'.1 h4
        have hl₃ := hg₃.ext.sub _ _ hl
        obtain ⟨hk₃, g', rr, he', hN', hg', hLR⟩ := hg₃.sr.loopAt hl₃ hlp
        cases he'
        have hg₄ := hg₃.sr.setLoop hl₃ hk₃ hN' hg' (hLR.with .exhausted lp.pending)
        have hend := run_endLoop (P := P) hg' (by rw [hLR.state]; exact busy_no hbz)
        rw [hLR.pending] at hend
        have hsub := hg₃.ext.sub
        exact jump_at h5 ((hg.trans hg₃).trans hg₄) (ha'.mono hsub) (hX'.mono hsub) (.head hstep (hst.trans (.one (stepR_endRangeFunc (by rw [hend, ← hLR.pending])))))
      | panicked c =>
        obtain ⟨μ₃, w₃, C', hg₃, hc, hst⟩ := hback
        cases h3
        exact ⟨μ₃, w₃, _, u, hg.trans hg₃, ha'.mono hg₃.ext.sub, hX'.mono hg₃.ext.sub, _, C', hc, .head hstep hst⟩
  | _ => cases h1

/-- ALL CODE. -/
theorem code_sound (hP : NoNum P) {r : Rec} (hr : RecOK P N r) (hdraw : ∀ id ops, CodeOK P N r (.region id ops true)) : ∀ c : Code, CodeOK P N r c := by
  intro c
  induction c with
  | skip => exact code_skip
  | region id ops draw => cases draw with
    | true => exact hdraw id ops
    | false => exact code_region hP hr
  | seq x y hx hy => exact code_seq hx hy
  | cond c x y hx hy => exact code_cond hx hy
  | block id c hc => exact code_block hc
  | loop c _ => exact code_loop hr
  | rangeFunc f ps as bd _ _ => exact code_range hP hr
  | exit id => exact code_exit
  | scope c hc => exact code_scope hc
  | label l => exact code_label
  | goto l => intro rd a s o h; cases h
  | ret => exact code_ret
  | refuse y => intro rd a s o h; cases h
end
end Go.Proofs.Vai
