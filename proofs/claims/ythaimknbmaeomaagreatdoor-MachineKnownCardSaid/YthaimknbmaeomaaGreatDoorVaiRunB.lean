/- Control: pieces of code. -/
import Derived.Test.YthaimknbmaeomaaGreatDoorVaiRunA
set_option linter.unusedVariables false
set_option linter.unusedSimpArgs false
set_option linter.unusedSectionVars false
namespace Go.Proofs.Vai
open Go Go.RowKit
variable [Env]

section
variable {P : Program} {N : Nat}

theorem ops_sound (hP : NoNum P) {r : Rec} (hr : RecOK P N r) (ops : Array Oper) {rd : Option Pos} {b : Frame} {X : Cx} {k : List Item} (hk : b.kind = X.kind) : ∀ (l : List Oper) (i : Nat), ops.toList.drop i = l →
    GoesOn P N rd (jOps P ops.toList l rd r) b X k (.inRegion ops (List.range' i l.length) :: k) := by
  intro l
  induction l with
  | nil =>
    intro i _ a s o h μ w u ca hs ha hX hrd
    cases h
    exact ⟨μ, w, ca, u, hs.stay, ha, hX, .one stepR_region_end⟩
  | cons p l ih =>
    intro i hd a s o h μ w u ca hs ha hX hrd
    have hp : ops[i]? = some p := by
      have : (ops.toList.drop i)[0]? = some p := by rw [hd]; rfl
      simpa using this
    have hd' : ops.toList.drop (i + 1) = l := by
      rw [← List.drop_drop, hd]; rfl
    have hK := ih (i + 1) hd'
    rw [show List.range' i (p :: l).length = i :: List.range' (i + 1) l.length from rfl]
    obtain ⟨b', hb', h⟩ := obind_some.1 (show obind (wantedA ops.toList a p.guard) (jOp P rd r p (jOps P ops.toList l rd r) a s) = some o from h)
    have hw := wanted_ok ha hb'
    cases b' with
    | true =>
      obtain ⟨x, hx, h⟩ := obind_some.1 (show obind (opA p.op P a s) (resThen rd r p.dst (jOps P ops.toList l rd r) a) = some o from h)
      exact res_sound hP hr hp hK hx h hs ha hX hk hrd hw
    | false =>
      have hskip := stepR_op_skip (P := P) (b := b) (a := ca) (k := k) (cs := X.cs u) (w := w) (ops := ops) (i := i) (rest := List.range' (i + 1) l.length) (by rw [hp]; exact hw)
      rw [show (ops[i]?).bind (·.dst) = p.dst from by rw [hp]; rfl] at hskip
      exact hK.put (show putK p.dst .undef (jOps P ops.toList l rd r) a s = some o from h) hs.stay ha hX hrd undef_rel (.one hskip)

def CodeOK (P : Program) (N : Nat) (r : Rec) (c : Code) : Prop :=
  ∀ rd a s o, jCode P c rd r a s = some o → ∀ μ w b X u k ca, SR P N μ s w → AR P μ a ca → RR P μ X a.rc u → b.kind = X.kind → RdR μ rd b.roundOf → (∃ fn, P.funcs[b.fn]? = some fn) →
    At P N b X k (lone (b.atR ca (.code c :: k)) (X.cs u) w) μ s w o

/-- One piece, and what is behind it. -/
theorem At.bind {b : Frame} {X : Cx} {k k' : List Item} {m : Machine} {μ : Inj} {σ : St} {w : World} {o₁ o : Out} (h : At P N b X k' m μ σ w o₁) (hx : ∀ id, exitTo id k' = exitTo id k) {K : Kt} (ht : thenO K o₁ = some o)
    (hK : ∀ a s μ₁ w₁ u ca, Goes P N μ σ w μ₁ s w₁ → AR P μ₁ a ca → RR P μ₁ X a.rc u → K a s = some o → At P N b X k (lone (b.atR ca k') (X.cs u) w₁) μ₁ s w₁ o) : At P N b X k m μ σ w o := by
  cases o₁ with
  | fin => exact h.elim
  | «at» e a' s' =>
    obtain ⟨μ', w', ca', u', h1, h2, h3, h4⟩ := h
    cases e with
    | normal => exact (hK a' s' μ' w' u' ca' h1 h2 h3 ht).pre h4 h1
    | exit id => cases ht; obtain ⟨k1, h5, h6⟩ := h4; exact ⟨μ', w', ca', u', h1, h2, h3, k1, h5.trans (hx id), h6⟩
    | ret => cases ht; exact ⟨μ', w', ca', u', h1, h2, h3, h4⟩
    | panic c => cases ht; exact ⟨μ', w', ca', u', h1, h2, h3, h4⟩

theorem stepR_scope {b : Frame} {a : Act} {k : List Item} {cs : List Frame} {w : World} {c : Code} : Go.step P (lone (b.atR a (.code (.scope c) :: k)) cs w) = .next (lone (b.atR a (.code c :: .inScope c :: k)) cs w) :=
  step_lone_go (by simp [stepG, stepG.exec, Frame.atR])
theorem stepR_inScope {b : Frame} {a : Act} {k : List Item} {cs : List Frame} {w : World} {c : Code} : Go.step P (lone (b.atR a (.inScope c :: k)) cs w) = .next (lone (b.atR a k) cs w) :=
  step_lone_go (by simp [stepG, stepG.exec, Frame.atR])

theorem isLoop_eq {k : ABlk} {lp : ALoop} (h : isLoop k = some lp) : k = .loop lp := by cases k <;> first | (cases h; rfl) | cases h
theorem SR.loopAt {μ : Inj} {s : St} {w : World} (h : SR P N μ s w) {l : Pos} {e : Ent} {lp : ALoop} (hl : μ l = some e) (hlp : s.loop l = some lp) :
    s.h.get l = some (.loop lp) ∧ ∃ g r, e = ⟨⟨g, 0, none⟩, none⟩ ∧ N ≤ g ∧ w.heap[g]? = some (.loop r) ∧ LR P μ lp r := by
  obtain ⟨k, hk, hi⟩ := obind_some.1 hlp
  obtain rfl := isLoop_eq hi
  obtain ⟨k', hk', hbr⟩ := h.blk l e hl
  rw [hk] at hk'
  cases hk'
  exact ⟨hk, hbr⟩
/-- A loop's record is turned. -/
theorem SR.setLoop {μ : Inj} {s : St} {w : World} (h : SR P N μ s w) {l : Pos} {g : Nat} {lp lp' : ALoop} {r r' : Loop} (hl : μ l = some ⟨⟨g, 0, none⟩, none⟩) (hk : s.h.get l = some (.loop lp)) (hN : N ≤ g) (hg : w.heap[g]? = some (.loop r)) (hr : LR P μ lp' r') :
    Goes P N μ s w μ (s.put l (.loop lp')) (w.putObj g (.loop r')) := by
  have hlt : g < w.heap.size := (Array.getElem?_eq_some_iff.1 hg).1
  refine h.turned hl hk rfl hN ⟨rfl, rfl, rfl, by simp, fun k _ hne => ?_⟩ ⟨g, r', rfl, hN, World.putObj_heap_same hlt, hr⟩
  exact World.putObj_heap_other fun e => hne (by rw [e])

theorem code_seq {r : Rec} {x y : Code} (hx : CodeOK P N r x) (hy : CodeOK P N r y) : CodeOK P N r (.seq x y) := by
  intro rd a s o h μ w b X u k ca hs ha hX hk hrd hf
  obtain ⟨o₁, h1, h2⟩ := obind_some.1 (show obind (jCode P x rd r a s) (thenO (jCode P y rd r)) = some o from h)
  have := hx rd a s o₁ h1 μ w b X u (.code y :: k) ca hs ha hX hk hrd hf
  exact (At.bind (k := k) this (fun id => rfl) h2 fun a' s' μ₁ w₁ u₁ ca₁ hg ha' hX' hK => hy rd a' s' o hK μ₁ w₁ b X u₁ k ca₁ hg.sr ha' hX' hk (hrd.mono hg.ext.sub) hf).pre (.one stepR_seq) hs.stay
theorem code_scope {r : Rec} {x : Code} (hx : CodeOK P N r x) : CodeOK P N r (.scope x) := by
  intro rd a s o h μ w b X u k ca hs ha hX hk hrd hf
  have := hx rd a s o h μ w b X u (.inScope x :: k) ca hs ha hX hk hrd hf
  cases o with
  | fin => exact this.elim
  | «at» e a' s' =>
    obtain ⟨μ', w', ca', u', h1, h2, h3, h4⟩ := this
    refine ⟨μ', w', ca', u', h1, h2, h3, ?_⟩
    cases e with
    | normal => exact .head stepR_scope (h4.trans (.one stepR_inScope))
    | exit id => obtain ⟨k1, h5, h6⟩ := h4; exact ⟨k1, h5, .head stepR_scope h6⟩
    | ret => obtain ⟨k1, h6⟩ := h4; exact ⟨k1, .head stepR_scope h6⟩
    | panic c => obtain ⟨k1, C, h5, h6⟩ := h4; exact ⟨k1, C, h5, .head stepR_scope h6⟩
theorem code_cond {r : Rec} {c : Operand} {x y : Code} (hx : CodeOK P N r x) (hy : CodeOK P N r y) : CodeOK P N r (.cond c x y) := by
  intro rd a s o h μ w b X u k ca hs ha hX hk hrd hf
  obtain ⟨v, hv, h2⟩ := obind_some.1 (show obind (a.eval P c) (pickC (jCode P x rd r a s) (jCode P y rd r a s)) = some o from h)
  have hc := ha.eval hs hv
  generalize hcv : ca.eval c = cv at *
  cases v with
  | bool t =>
    cases hc
    cases t with
    | true => exact (hx rd a s o h2 μ w b X u k ca hs ha hX hk hrd hf).pre (.one (stepR_cond hcv)) hs.stay
    | false => exact (hy rd a s o h2 μ w b X u k ca hs ha hX hk hrd hf).pre (.one (stepR_cond hcv)) hs.stay
  | _ => cases h2
theorem code_block {r : Rec} {id : Nat} {x : Code} (hx : CodeOK P N r x) : CodeOK P N r (.block id x) := by
  intro rd a s o h μ w b X u k ca hs ha hX hk hrd hf
  obtain ⟨o₁, h1, h2⟩ := obind_some.1 (show obind (jCode P x rd r a s) (inBlockO id) = some o from h)
  have := hx rd a s o₁ h1 μ w b X u (.inBlock id :: k) ca hs ha hX hk hrd hf
  cases o₁ with
  | fin => exact this.elim
  | «at» e a' s' =>
    obtain ⟨μ', w', ca', u', q1, q2, q3, q4⟩ := this
    cases e with
    | normal => cases h2; exact ⟨μ', w', ca', u', q1, q2, q3, .head stepR_block (q4.trans (.one stepR_inBlock))⟩
    | exit id' =>
      obtain ⟨k1, h5, h6⟩ := q4
      have h2 : cnd (Nat.beq id' id) (some (Out.at .normal a' s')) (some (.at (.exit id') a' s')) = some o := h2
      cases hb : Nat.beq id' id with
      | true =>
        rw [hb] at h2
        cases h2
        obtain rfl : id' = id := Nat.eq_of_beq_eq_true hb
        rw [show exitTo id' (.inBlock id' :: k) = some k from by simp [exitTo]] at h5
        exact ⟨μ', w', ca', u', q1, q2, q3, .head stepR_block (h6.trans (.one (stepR_exit h5)))⟩
      | false =>
        rw [hb] at h2
        cases h2
        have hne : ¬ id = id' := fun e => by subst e; simp at hb
        rw [show exitTo id' (.inBlock id :: k) = exitTo id' k from by simp [exitTo, hne]] at h5
        exact ⟨μ', w', ca', u', q1, q2, q3, k1, h5, .head stepR_block h6⟩
    | ret => cases h2; obtain ⟨k1, h6⟩ := q4; exact ⟨μ', w', ca', u', q1, q2, q3, k1, .head stepR_block h6⟩
    | panic c => cases h2; obtain ⟨k1, C, h5, h6⟩ := q4; exact ⟨μ', w', ca', u', q1, q2, q3, k1, C, h5, .head stepR_block h6⟩
theorem code_loop {r : Rec} (hr : RecOK P N r) {x : Code} : CodeOK P N r (.loop x) := by
  intro rd a s o h μ w b X u k ca hs ha hX hk hrd hf
  exact hr.loop rd x a s o h μ w b X u k ca hs ha hX hk hrd hf _ stepR_loop
theorem code_exit {r : Rec} {id : Nat} : CodeOK P N r (.exit id) := by
  intro rd a s o h μ w b X u k ca hs ha hX hk hrd hf
  cases h
  exact ⟨μ, w, ca, u, hs.stay, ha, hX, k, rfl, .refl _ _⟩
theorem code_ret {r : Rec} : CodeOK P N r .ret := by
  intro rd a s o h μ w b X u k ca hs ha hX hk hrd hf
  cases h
  exact ⟨μ, w, ca, u, hs.stay, ha, hX, k, .refl _ _⟩
theorem code_skip {r : Rec} : CodeOK P N r .skip := by
  intro rd a s o h μ w b X u k ca hs ha hX hk hrd hf
  cases h
  exact ⟨μ, w, ca, u, hs.stay, ha, hX, .one stepR_skip⟩
theorem code_label {r : Rec} {l : Nat} : CodeOK P N r (.label l) := by
  intro rd a s o h μ w b X u k ca hs ha hX hk hrd hf
  cases h
  exact ⟨μ, w, ca, u, hs.stay, ha, hX, .one stepR_label⟩
theorem code_region (hP : NoNum P) {r : Rec} (hr : RecOK P N r) {id : Nat} {ops : Array Oper} : CodeOK P N r (.region id ops false) := by
  intro rd a s o h μ w b X u k ca hs ha hX hk hrd hf
  have := ops_sound hP hr ops (rd := rd) (k := k) hk ops.toList 0 (by simp) a s o h μ w u ca hs ha hX hrd
  refine At.pre (.one stepR_region) hs.stay ?_
  rw [List.range_eq_range']
  simpa using this
end
end Go.Proofs.Vai
