/- Drawn regions, sixteenth part: THE WHOLE. -/
import Derived.Test.YthaimknbmaeomaaGreatDoorVaiDrawO
set_option linter.unusedVariables false
set_option linter.unusedSimpArgs false
set_option linter.unusedSectionVars false
namespace Go.Proofs.Vai
open Go Go.RowKit
variable [Env]

section
variable {P : Program} {N : Nat}
theorem eqBlk_eq {x y : ABlk} (h : eqBlk x y = true) : x = y := by
  unfold eqBlk at h
  split at h
  · split at h
    · simp only [Bool.and_eq_true] at h
      obtain ⟨⟨h1, h2⟩, h3⟩ := h
      rw [Nat.eq_of_beq_eq_true h1, Nat.eq_of_beq_eq_true h2, eqL_eq (eqAV_eq 12) h3]
    · cases h
  · split at h
    · rfl
    · cases h
  · cases h
theorem eqOB_eq {x y : Option ABlk} (h : eqOB x y = true) {b : ABlk} (hx : x = some b) : y = some b := by
  subst hx
  cases y with
  | none => cases h
  | some y => rw [eqBlk_eq (x := b) (y := y) h]
/-- A guard, its temporary alone. -/
theorem wanted_at {ops : Array Oper} {o : Oper} {a : AAct} {ca : Act} {μ : Inj} {r : Bool} (hv : ∀ (g : Nat × Bool) (p : Oper) (d : Tmp), o.guard = some g → ops[g.1]? = some p → p.dst = some d → VR P μ (a.tmp d) (ca.tmps.getD d undef)) (h : wantedA ops.toList a o.guard = some r) :
    Region.wanted o (yielded ops ca.tmps) = r := by
  unfold Region.wanted
  cases hg : o.guard with
  | none => rw [hg] at h; cases h; rfl
  | some g =>
    rw [hg] at h
    obtain ⟨j, want⟩ := g
    obtain ⟨p, hp, h⟩ := obind_some.1 (show obind (ops.toList[j]?) (fun p => obind p.dst fun d => isBoolA want (a.tmp d)) = some r from h)
    obtain ⟨d, hd, h⟩ := obind_some.1 h
    have hpj : ops[j]? = some p := by simpa using hp
    have hv := hv _ p d hg hpj hd
    simp only
    have hy : yielded ops ca.tmps j = match ca.tmps[d]? with | some (.bool b) => some b | _ => none := by
      unfold yielded
      rw [hpj]
      simp only [Option.bind_some, hd]
      cases ca.tmps[d]? with
      | none => rfl
      | some q => cases q <;> rfl
    rw [hy]
    rcases isBoolA_run h hv with ⟨b, h1, rfl⟩ | ⟨h1, rfl⟩
    · have : ca.tmps[d]? = some (.bool b) := by
        rw [Array.getD_eq_getD_getElem?] at h1
        cases hq : ca.tmps[d]? with
        | none => rw [hq] at h1; cases h1
        | some q => rw [hq] at h1; exact congrArg some h1
      rw [this]
      cases b <;> cases want <;> rfl
    · have : ca.tmps[d]? = none ∨ ca.tmps[d]? = some undef := by
        rw [Array.getD_eq_getD_getElem?] at h1
        cases hq : ca.tmps[d]? with
        | none => exact .inl rfl
        | some q => rw [hq] at h1; exact .inr (congrArg some h1)
      rcases this with h | h <;> rw [h] <;> rfl
section
variable {r : Rec} {ops : Array Oper} {tels : List Tel} {A : Nat → AAct} {S : Nat → St} {B : Nat → Bool} {μ₀ μ : Inj} {w₀ w : World} {D : Nat → Bool} {h : Nat} {ca : Act}
/-- A wanted heavy operation, in the machine. -/
theorem heavy_run (hP : NoNum P) (hr : RecOK P N r) {ops : Array Oper} {q : Nat} {o : Oper} (ho : ops[q]? = some o) {a a' : AAct} {s s1 : St} {v : AV} (hst : StepC P r o a s true v s1) (hsame : ∀ s, opA o.op P a' s = opA o.op P a s) {ν : Inj} (hsr : SR P N ν s w) (ha : AR P ν a' ca)
    {b : Frame} {cs : List Frame} {k : List Item} {rest : List Nat} (hw : Region.wanted o (yielded ops ca.tmps) = true) :
    ∃ μ₁ w₁ V, Goes P N ν s w μ₁ s1 w₁ ∧ VR P μ₁ v V ∧ Steps P (lone (b.atR ca (.inRegion ops (q :: rest) :: k)) cs w) (lone (b.atR (ca.put o.dst V) (.inRegion ops rest :: k)) cs w₁) := by
  have hsem : ∀ {x}, opA o.op P a' s = some x → (∀ d s', x ≠ .defer d s') → o.semAt b.roundOf ca.eval = execOp ca.eval o := fun hx h => Oper.semAt_eq _ _ _ (opA_notDefer hx h)
  have fin : ∀ {m₁ : Machine} {v : AV} {rc : Option AMode} {s1 : St}, Steps P (lone (b.atR ca (.inRegion ops (q :: rest) :: k)) cs w) m₁ → Back P N (b.atR ca (.inRegion ops (q :: rest) :: k)) cs m₁ ν s w (.fin (.returned v) rc s1) →
      ∃ μ₁ w₁ V, Goes P N ν s w μ₁ s1 w₁ ∧ VR P μ₁ v V ∧ Steps P (lone (b.atR ca (.inRegion ops (q :: rest) :: k)) cs w) (lone (b.atR (ca.put o.dst V) (.inRegion ops rest :: k)) cs w₁) := by
    intro m₁ v rc s1 hs hb
    obtain ⟨μ', w', V, hg, hv, hst⟩ := hb
    rw [Frame.finish_atR, show (ops[q]?).bind (·.dst) = o.dst from by rw [ho]; rfl] at hst
    exact ⟨μ', w', V, hg, hv, hs.trans hst⟩
  cases hst with
  | val _ _ hx =>
    rw [← hsame] at hx
    obtain ⟨μ', V, w', hres, hg, hv⟩ := opA_sound hP hsr ha hx
    exact ⟨μ', w', V, hg, hv, .one (step_val ho hw (by rw [hsem hx (by simp)]; exact hres))⟩
  | skip _ hx =>
    rw [← hsame] at hx
    obtain ⟨μ', w', hres, hg⟩ := opA_sound hP hsr ha hx
    exact ⟨μ', w', undef, hg, undef_rel, .one (step_skp ho hw (by rw [hsem hx (by simp)]; exact hres))⟩
  | enter f args s0 v rc s1 hx hq =>
    rw [← hsame] at hx
    obtain ⟨us, hres, rfl, hargs⟩ := opA_sound hP hsr ha hx
    have hb := ((hr.call f args none a s0 _ hq).2 ν w (.norm (b.atR ca (.inRegion ops (q :: rest) :: k) :: cs)) .run us hsr hargs (.norm _ _)).back
    exact fin (.one (step_enter ho hw (by rw [hsem hx (by simp)]; exact hres))) hb
  | round l args s0 v rc s1 hx hq =>
    rw [← hsame] at hx
    obtain ⟨e, us, hl, hres, rfl, hargs⟩ := opA_sound hP hsr ha hx
    obtain ⟨fn, tmps, as, bd, hy, hb⟩ := hr.round l args a s0 _ hq ν w us e hsr hargs hl
    exact fin (.one (step_round ho hw (by rw [hsem hx (by simp), hres]; exact hy))) (hb _ _)
/-- ONE STEP, whichever operation is ready. -/
theorem Inv.step (hP : NoNum P) (hr : RecOK P N r) (hF : Fit P ops.toList) (hT : Trc P r ops.toList ops.toList 0 tels A S B) {hs : List (Nat × Tr ABlk)} (hchk : drawChk P (ahead ops.toList) (clsL P ops.toList 0) hs tels = true) (hhead : (h, (S h).h) ∈ hs)
    (hI : Inv P N ops.toList tels A S μ₀ w₀ D h μ ca w) {q : Nat} {t : Tel} (hq : tels[q]? = some t) (hB : B q = false) (hD : D q = false) (hdone : ∀ j, bit (ahead ops.toList) q j = true → D j = true) (b : Frame) (cs : List Frame) (k : List Item) (rest : List Nat) :
    ∃ μ' h' ca' w', Steps P (lone (b.atR ca (.inRegion ops (q :: rest) :: k)) cs w) (lone (b.atR ca' (.inRegion ops rest :: k)) cs w') ∧ Inv P N ops.toList tels A S μ₀ w₀ (andD D q) h' μ' ca' w' := by
  obtain ⟨hqo, hti, htA, htS, htw, hst, hle, hput⟩ := hT.tel q t hq
  replace htw := htw hB
  replace hst := hst.1 hB
  have hql := hT.lt hq
  have ho : ops[q]? = some t.o := by simpa using hqo
  have hmem : t ∈ tels := List.mem_of_getElem? hq
  have htiq : t.i = q := by omega
  -- the guard
  have hwant : Region.wanted t.o (yielded ops ca.tmps) = t.w := by
    refine wanted_at (P := P) (μ := resP μ (nmOf P ops.toList tels S h q)) (a := A q) (fun g p d hg hp hd => ?_) htw
    have hbit := hF.guard q t.o g hqo hg
    have hgq := bit_lt q g.1 hbit
    obtain ⟨y, hy⟩ := hT.get (k := g.1) (by omega)
    have hyo : y.o = p := by
      have h1 := (hT.tel g.1 y hy).1
      have h2 : ops.toList[g.1]? = some p := by simpa using hp
      rw [h2] at h1
      exact (Option.some.inj h1).symm
    rw [hT.new hF hy (by rw [hyo]; exact hd) q hgq (Nat.le_of_lt hql)]
    refine (hI.done g.1 y d (hdone g.1 hbit) hy (by rw [hyo]; exact hd)).mono (resP_sub fun b e hb he => ⟨?_, he⟩)
    rcases hb with hb | ⟨i, h1, rfl | h2⟩
    · exact .inl hb
    · exact .inr ⟨_, h1, .inr hbit⟩
    · exact .inr ⟨i, h1, .inr (bit_trans q g.1 i hbit h2)⟩
  -- a heavy one is the next
  have hheavy : clsO P t.o.op = 2 → q = h := by
    intro hc
    rcases Nat.lt_trichotomy q h with hl | hl | hl
    · have := (hI.hvy q t.o hqo hc).2 hl
      rw [hD] at this; cases this
    · exact hl
    · have hhl : h < ops.toList.length := by omega
      have hho : ops.toList[h]? = some ops.toList[h] := List.getElem?_eq_getElem hhl
      obtain ⟨h1, h2⟩ := hI.nxt _ hho
      have := hdone h (hF.heavy h q _ t.o hl hho hqo h1 hc)
      rw [h2] at this; cases this
  have hmay : mayBe (ahead ops.toList) t.i h (clsL P ops.toList 0) = true := by
    rw [htiq]
    refine mayBe_of fun x hx hcx => ?_
    obtain ⟨o, g1, hco⟩ := clsL_of hx
    rw [hcx] at hco
    have hcy := hco.symm
    generalize x.1 = e at g1
    refine ⟨fun hb => (hI.hvy e o g1 hcy).1 (hdone e hb), fun hb => ?_⟩
    rcases Nat.lt_or_ge e h with hl | hl
    · have := hI.down e q ((hI.hvy e o g1 hcy).2 hl) hb
      rw [hD] at this; cases this
    · exact hl
  have hsemN : ∀ {x}, opA t.o.op P (A q) (S q) = some x → (∀ d s', x ≠ .defer d s') → t.o.semAt b.roundOf ca.eval = execOp ca.eval t.o := fun hx h => Oper.semAt_eq _ _ _ (opA_notDefer hx h)
  cases hw : t.w with
  | false =>
    have hskip : Steps P (lone (b.atR ca (.inRegion ops (q :: rest) :: k)) cs w) (lone (b.atR (ca.put t.o.dst undef) (.inRegion ops rest :: k)) cs w) := by
      have := stepR_op_skip (P := P) (b := b) (a := ca) (k := k) (cs := cs) (w := w) (ops := ops) (i := q) (rest := rest) (by rw [ho]; simp [hwant, hw])
      rw [show (ops[q]?).bind (·.dst) = t.o.dst from by rw [ho]; rfl] at this
      exact .one this
    have hv : t.v = .undef ∧ S (q + 1) = S q := by
      rw [hw] at hst
      generalize t.v = tv at hst
      generalize S (q + 1) = sq at hst
      cases hst
      exact ⟨rfl, rfl⟩
    by_cases hc : clsO P t.o.op = 2
    · have := hheavy hc
      subst this
      obtain ⟨μ', h', hI'⟩ := hI.heavy hF hT hq hdone hc (μ₁ := resP μ (nmB S q)) (w₁ := w) (u := undef) (by rw [hv.2]; exact hI.sr.stay) (by rw [hv.1]; exact undef_rel)
      exact ⟨μ', h', _, _, hskip, hI'⟩
    · exact ⟨μ, h, _, _, hskip, hI.idle hF hT hq hD hdone hc hw hv.1⟩
  | true =>
    have hspec := drawChk_spec hchk t hmem hw
    rw [hw] at hst hwant
    have stp : ∀ {u : Value} {w' : World}, (execOp ca.eval t.o).run P w = .ok (.value u) w' → ∀ {x}, opA t.o.op P (A q) (S q) = some x → (∀ d s', x ≠ .defer d s') →
        Steps P (lone (b.atR ca (.inRegion ops (q :: rest) :: k)) cs w) (lone (b.atR (ca.put t.o.dst u) (.inRegion ops rest :: k)) cs w') := fun h1 _ hx hn => .one (step_val ho hwant (by rw [hsemN hx hn]; exact h1))
    rcases cls_all P t.o.op with hc | hc | hc | hc | hc
    · -- a read
      obtain ⟨hlb, hat⟩ := chkHeads_spec (hspec.1 hc) _ hhead hmay
      obtain ⟨u, w', h1, h2⟩ := hI.read hP hF hT hq hD hdone hw hc (fun j y hy hcy hb => by
        exact laidBy_spec hlb _ (clsL_mem (P := P) (hT.tel j y hy).1) hcy (by rw [htiq]; exact hb)) hat
      have hx : ∃ v, opA t.o.op P (A q) (S q) = some (.val v (S q)) := by
        generalize t.v = tv at hst
        generalize S (q + 1) = sq at hst
        cases hst with
        | val _ _ hx => obtain ⟨v, e, _⟩ := he_op P (A q) hc (S q).h (S q).n _ hx; cases e; exact ⟨_, hx⟩
        | skip _ hx => obtain ⟨v, e, _⟩ := he_op P (A q) hc (S q).h (S q).n _ hx; cases e
        | enter f args s0 v rc s1 hx _ => obtain ⟨v, e, _⟩ := he_op P (A q) hc (S q).h (S q).n _ hx; cases e
        | round l args s0 v rc s1 hx _ => obtain ⟨v, e, _⟩ := he_op P (A q) hc (S q).h (S q).n _ hx; cases e
      obtain ⟨v, hx⟩ := hx
      exact ⟨μ, h, _, _, stp h1 hx (by simp), h2⟩
    · -- a row
      have hx : opA t.o.op P (A q) (S q) = some (.val t.v (S (q + 1))) := by
        generalize t.v = tv at hst
        generalize S (q + 1) = sq at hst
        cases hst with
        | val _ _ hx => exact hx
        | skip _ hx => obtain ⟨v, blk, _, e, _⟩ := lays_op P (A q) hc (S q) _ hx; cases e
        | enter f args s0 v rc s1 hx _ => obtain ⟨v, blk, _, e, _⟩ := lays_op P (A q) hc (S q) _ hx; cases e
        | round l args s0 v rc s1 hx _ => obtain ⟨v, blk, _, e, _⟩ := lays_op P (A q) hc (S q) _ hx; cases e
      have hrow : q < h → ∀ blk, S (q + 1) = (S q).push blk → (S h).h.get (S q).n = some blk := by
        intro hlt blk hpush
        have hlay := hspec.2 hc
        unfold chkLay at hlay
        rw [htA, htS, hx] at hlay
        have hr := chkRow_spec (show chkRow (ahead ops.toList) (clsL P ops.toList 0) t.i (S q).n (S (q + 1)) _ = true from hlay) _ hhead (by rw [htiq]; exact hlt) hmay
        rw [htiq] at hr
        rcases hr with hr | hr
        · have key : ∀ d, q + 1 + d ≤ h → (S (q + 1 + d)).h.get (S q).n = some blk := by
            intro d
            induction d with
            | zero => intro _; rw [Nat.add_zero, hpush, push_get, if_pos rfl]
            | succ d ih =>
              intro hd
              have ih := ih (by omega)
              generalize hjd : q + 1 + d = j at ih
              have hle := hI.hle
              obtain ⟨y, hy⟩ := hT.get (k := j) (by omega)
              obtain ⟨hyo, hyi, _⟩ := hT.tel j y hy
              have hc2 : clsO P y.o.op ≠ 2 := fun e => by
                have : h ≤ j := calm_spec hr _ (clsL_mem (P := P) hyo) e (show q < j by omega)
                omega
              rw [show q + 1 + (d + 1) = j + 1 from by omega]
              rcases hT.light hF hy hc2 with ⟨_, _, blk', _, e⟩ | ⟨_, e⟩
              · rw [e, push_get, if_neg (fun e => ?_)]
                · exact ih
                · have h1 := hT.mono (j := q + 1) (k := j) (by omega) (by omega)
                  have h2 : (S (q + 1)).n.toNat = (S q).n.toNat + 1 := by rw [hpush, push_n, Pos.toNat_succ]
                  rw [e] at h1
                  omega
              · rw [e]; exact ih
          have := key (h - (q + 1)) (by omega)
          rwa [show q + 1 + (h - (q + 1)) = h from by omega] at this
        · refine eqOB_eq hr ?_
          rw [hpush, push_get, if_pos rfl]
      obtain ⟨μ', u, w', h1, h2⟩ := hI.lay hF hT hq hD hdone hw hc hx hrow
      exact ⟨μ', h, _, _, stp h1 hx (by simp), h2⟩
    · -- a heavy one
      have := hheavy hc
      subst this
      obtain ⟨a', ha, hsame⟩ := hI.mask hF hT hq hdone
      have hsub : Sub (resP μ (nmIn P ops.toList tels S q q)) (resP μ (nmB S q)) := resP_sub fun b e hb he => ⟨by
        rcases hb with hb | ⟨i, ⟨y, h1, h2, h3, rfl⟩, hbi⟩
        · exact hb
        · have := bit_lt q i hbi
          have := hT.mono (j := i + 1) (k := q) (by omega) (by omega)
          have := hT.lays hF h1 h2 h3
          show (S i).n.toNat < (S q).n.toNat
          omega, he⟩
      obtain ⟨μ₁, w₁, V, hg, hv, hsteps⟩ := heavy_run hP hr ho hst hsame hI.sr (ha.mono hsub) (b := b) (cs := cs) (k := k) (rest := rest) hwant
      obtain ⟨μ', h', hI'⟩ := hI.heavy hF hT hq hdone hc hg hv
      exact ⟨μ', h', _, _, hsteps, hI'⟩
    · exact absurd hc (hF.cls q t.o hqo)
    · -- nothing of the state
      have hx : ∃ s1, opA t.o.op P (A q) (S q) = some (.val t.v s1) := by
        generalize t.v = tv at hst
        generalize S (q + 1) = sq at hst
        cases hst with
        | val _ _ hx => exact ⟨_, hx⟩
        | skip _ hx => obtain ⟨v, e⟩ := (pu_op P (A q) hc).re (S q) _ hx; cases e
        | enter f args s0 v rc s1 hx _ => obtain ⟨v, e⟩ := (pu_op P (A q) hc).re (S q) _ hx; cases e
        | round l args s0 v rc s1 hx _ => obtain ⟨v, e⟩ := (pu_op P (A q) hc).re (S q) _ hx; cases e
      obtain ⟨s1, hx⟩ := hx
      obtain ⟨u, w', h1, h2⟩ := hI.pure hP hF hT hq hD hdone hc hx
      exact ⟨μ, h, _, _, stp h1 hx (by simp), h2⟩
/-- Where it begins. -/
theorem inv_start (hF : Fit P ops.toList) (hT : Trc P r ops.toList ops.toList 0 tels A S B) (hs : SR P N μ₀ (S 0) w₀) (ha : AR P μ₀ (A 0) ca) : ∃ h, Inv P N ops.toList tels A S μ₀ w₀ (fun _ => false) h μ₀ ca w₀ := by
  obtain ⟨h, _, hh2, hh3, hh4⟩ := next_head P ops.toList _ 0 rfl (Nat.zero_le _)
  have hres : ∀ j, j ≤ ops.toList.length → resP μ₀ (nmB S j) = μ₀ := fun j hj => by
    funext b
    unfold resP
    by_cases hb : nmB S j b
    · rw [if_pos hb]
    · rw [if_neg hb]
      cases hm : μ₀ b with
      | none => rfl
      | some e => exact absurd (Nat.lt_of_lt_of_le (hs.lt b e hm) (hT.mono (Nat.zero_le _) hj)) hb
  have along : ∀ j, j ≤ h → SR P N μ₀ (S j) w₀ := by
    intro j
    induction j with
    | zero => intro _; exact hs
    | succ j ih =>
      intro hj
      have ih := ih (by omega)
      obtain ⟨y, hy⟩ := hT.get (k := j) (by omega)
      rcases hT.light hF hy (hh4 j y.o (Nat.zero_le _) (by omega) (hT.tel j y hy).1) with ⟨_, _, blk, _, e⟩ | ⟨_, e⟩
      · rw [e]; exact ih.pushNo
      · rw [e]; exact ih
  refine ⟨h, (fun i hi => absurd hi (by simp)), (fun i j hi => absurd hi (by simp)), hh2, fun o ho => ⟨hh3 o ho, rfl⟩, fun e o ho hc => ⟨(fun q => absurd q (by simp)), fun q => absurd hc (hh4 e o (Nat.zero_le _) q ho)⟩, ha.size, ?_, (fun i t d hi => absurd hi (by simp)), fun d _ => ?_, ?_, (fun j t hj => absurd hj (by simp)),
    fun b e hb => .inl (Nat.lt_of_lt_of_le (hs.lt b e hb) (hT.mono (Nat.zero_le _) hh2)), fun j t _ ht _ _ => ?_, Ev.refl _ _ _, Ext.refl _ _, fun b e hb => .inl hb⟩
  · rw [hres 0 (Nat.zero_le _)]; exact ha.defers
  · rw [hres 0 (Nat.zero_le _)]; exact ha.tm d
  · rw [hres h hh2]; exact along h (Nat.le_refl _)
  · cases hm : μ₀ (S j).n with
    | none => rfl
    | some e =>
      have := hs.lt _ _ hm
      have := hT.mono (j := 0) (k := j) (Nat.zero_le _) (Nat.le_of_lt (hT.lt ht))
      omega
/-- Where it ends. -/
theorem Inv.end (hF : Fit P ops.toList) (hT : Trc P r ops.toList ops.toList 0 tels A S B) (hs : SR P N μ₀ (S 0) w₀) (hI : Inv P N ops.toList tels A S μ₀ w₀ D h μ ca w) (hall : ∀ i, i < ops.size → D i = true) :
    Goes P N μ₀ (S 0) w₀ μ (S ops.toList.length) w ∧ AR P μ (A ops.toList.length) ca := by
  have hh : h = ops.toList.length := by
    rcases Nat.lt_or_ge h ops.toList.length with hl | hl
    · have := (hI.nxt _ (List.getElem?_eq_getElem hl)).2
      rw [hall h (by simpa using hl)] at this
      cases this
    · exact Nat.le_antisymm hI.hle hl
  have hlt : ∀ b e, μ b = some e → nmB S h b := fun b e hb => by
    rcases hI.dom b e hb with q | ⟨j, _, q, y, hy, _⟩
    · exact q
    · have := hT.lt hy; omega
  have hres : resP μ (nmB S h) = μ := by
    funext b
    unfold resP
    by_cases hb : nmB S h b
    · rw [if_pos hb]
    · rw [if_neg hb]
      cases hm : μ b with
      | none => rfl
      | some e => exact absurd (hlt b e hm) hb
  have hsr := hI.sr
  rw [hres, hh] at hsr
  have hany : ∀ (p : Pos → Prop), Sub (resP μ p) μ := fun p b e hb => (resP_some.1 hb).2
  obtain ⟨e1, e2, e3⟩ := hT.same ops.toList.length (Nat.le_refl _)
  refine ⟨⟨hI.ext, hI.fresh, hT.mono (Nat.zero_le _) (Nat.le_refl _), hI.ev, hsr⟩, ⟨fun d => ?_, by rw [e1]; exact hI.size, by rw [e2]; exact hI.dfr.mono (hany _)⟩⟩
  show VR P μ ((A ops.toList.length).tmp d) _
  by_cases hw : ∃ (j : Nat) (o : Oper), ops.toList[j]? = some o ∧ o.dst = some d
  · obtain ⟨j, o, hj, hd⟩ := hw
    have hjl : j < ops.toList.length := (List.getElem?_eq_some_iff.1 hj).1
    obtain ⟨y, hy⟩ := hT.get hjl
    have hyo : y.o = o := by
      have := (hT.tel j y hy).1
      rw [hj] at this
      exact (Option.some.inj this).symm
    subst hyo
    rw [hT.new hF hy hd _ hjl (Nat.le_refl _)]
    exact (hI.done j y d (hall j (by simpa using hjl)) hy hd).mono (hany _)
  · have hn : ∀ (i : Nat) (o : Oper), ops.toList[i]? = some o → o.dst ≠ some d := fun i o ho hd => hw ⟨i, o, ho, hd⟩
    rw [hT.old _ (Nat.le_refl _) fun j o _ ho => hn j o ho]
    exact (hI.old d hn).mono (hany _)
end
end
end Go.Proofs.Vai
