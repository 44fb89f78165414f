/- Drawn regions, fourteenth part: a read. -/
import Derived.Test.YthaimknbmaeomaaGreatDoorVaiDrawM
set_option linter.unusedVariables false
set_option linter.unusedSimpArgs false
set_option linter.unusedSectionVars false
namespace Go.Proofs.Vai
open Go Go.RowKit
variable [Env]

/-- It looks at the heap alone, and keeps the state. -/
def HE (f : St → Option ARes) : Prop := ∀ h n x, f ⟨h, n⟩ = some x → ∃ v, x = .val v ⟨h, n⟩ ∧ ∀ n', f ⟨h, n'⟩ = some (.val v ⟨h, n'⟩)
/-- It looks at the heap alone. -/
def HO {α : Type} (o : St → Option α) : Prop := ∀ h n n', o ⟨h, n⟩ = o ⟨h, n'⟩
theorem PU.he {f : St → Option ARes} (h : PU f) : HE f := by
  intro s n x hx
  obtain ⟨F, hF⟩ := h
  rw [hF] at hx
  obtain ⟨v, rfl, rfl⟩ := omap_some.1 hx
  exact ⟨v, rfl, fun n' => by rw [hF]⟩
theorem HE.none : HE fun _ => Option.none := fun h n x hx => by cases hx
theorem HE.obind {α : Type} (o : Option α) {g : α → St → Option ARes} (h : ∀ x, HE (g x)) : HE fun s => Vai.obind o fun x => g x s := by
  cases o with
  | none => exact HE.none
  | some x => exact h x
theorem HE.obindS {α : Type} {o : St → Option α} (ho : HO o) {g : α → St → Option ARes} (h : ∀ x, HE (g x)) : HE fun s => Vai.obind (o s) fun x => g x s := by
  intro s n x hx
  obtain ⟨y, hy, hx⟩ := obind_some.1 hx
  obtain ⟨v, e, hv⟩ := h y s n x hx
  refine ⟨v, e, fun n' => ?_⟩
  have : o ⟨s, n'⟩ = some y := by rw [← hy]; exact ho s n' n
  show Vai.obind (o ⟨s, n'⟩) _ = _
  rw [this]
  exact hv n'
theorem HE.omapS {α : Type} {o : St → Option α} (ho : HO o) (g : α → AV) : HE fun s => Vai.omap (o s) fun x => .val (g x) s := by
  intro s n x hx
  obtain ⟨y, hy, rfl⟩ := omap_some.1 hx
  refine ⟨g y, rfl, fun n' => ?_⟩
  have : o ⟨s, n'⟩ = some y := by rw [← hy]; exact ho s n' n
  show Vai.omap (o ⟨s, n'⟩) _ = _
  rw [this]
theorem HE.cnd (b : Bool) {f g : St → Option ARes} (h : HE f) (k : HE g) : HE fun s => Vai.cnd b (f s) (g s) := by cases b <;> assumption
section
variable (P : Program) (a : AAct)
theorem ho_load (t : TypeId) (b : Pos) (o : Nat) : HO fun s => s.load P t b o := fun h n n' => rfl
theorem ho_cells (b : Pos) (o k : Nat) : HO fun s => s.cells b o k := fun h n n' => rfl
theorem ho_es (m : AV) : HO fun s => mapEs s m := fun h n n' => by unfold mapEs; cases m <;> rfl
theorem ho_len (t : TypeId) (x : AV) : HO fun s => lenA P t s x := fun h n n' => by unfold lenA; cases x <;> rfl
/-- CLASS 0. -/
theorem he_op {op : Op} (h : clsO P op = 0) : HE fun s => opA op P a s := by
  cases op <;> first | (cases h; done) | skip
  case load t x =>
    refine HE.obind _ fun v => ?_
    cases v <;> first | exact HE.none | exact HE.omapS (ho_load P t _ _) _
  case convert s d x =>
    refine HE.obind _ fun v => HE.obind _ fun us => ?_
    have bytes : HE fun s' => Vai.obind (elemT P s) fun e => convBytes P e v s' := by
      refine HE.obind _ fun e => HE.cnd _ ?_ HE.none
      cases v <;> first | exact HE.none | exact (PU.val _).he | exact HE.obindS (ho_cells _ _ _) fun cs => (PU.omap _ _).he
    simp only [clsO] at h
    cases hd : P.underlying d with
    | none => exact HE.none
    | some ud =>
      rw [hd] at h
      cases ud <;> first | (cases h; done) | exact HE.none | skip
      · cases v <;> first | exact HE.none | exact (PU.val _).he
      · cases v <;> first | exact HE.none | exact (PU.val _).he | exact (PU.cnd _ (PU.val _) PU.none).he
      · cases v <;> first | exact bytes | exact (PU.val _).he | skip
        rename_i n
        cases n with
        | ofNat n => exact (PU.cnd _ (PU.val _) PU.none).he
        | negSucc n => exact bytes
  case lookup t x k ok =>
    refine HE.obind _ fun m => HE.obind _ fun k => ?_
    refine HE.obindS (ho_es m) fun es => HE.obind _ fun q => HE.cnd _ (HE.obind _ fun o => ?_) HE.none
    cases o with
    | none => exact (PU.omap _ _).he
    | some v => exact (PU.val _).he
  case call c =>
    refine HE.obind _ fun args => ?_
    simp only [clsO] at h
    split at h <;> first | (cases h; done) | skip
    rename_i hc
    rw [hc]
    show HE fun s => bLen P c.argTypes.toList args s
    unfold bLen
    split
    · split
      · exact HE.omapS (ho_len P _ _) _
      · exact HE.none
    · exact HE.none
end

section
variable {P : Program} {N : Nat} {r : Rec} {ops : List Oper} {tels : List Tel} {A : Nat → AAct} {S : Nat → St} {B : Nat → Bool} {μ₀ μ : Inj} {w₀ w : World} {D : Nat → Bool} {h : Nat} {ca : Act}
/-- What the world may do. -/
theorem Inv.evTrans (hI : Inv P N ops tels A S μ₀ w₀ D h μ ca w) {w' : World} (hev : Ev N (resP μ (nmB S h)) w w') : Ev N μ₀ w₀ w' := by
  refine ⟨hev.os.trans hI.ev.os, hev.tape.trans hI.ev.tape, hev.output.trans hI.ev.output, Nat.le_trans hI.ev.size hev.size, fun k hk hc => ?_⟩
  refine (hev.same k (Nat.lt_of_lt_of_le hk hI.ev.size) ?_).trans (hI.ev.same k hk hc)
  rcases hc with hc | hc
  · exact .inl hc
  · refine .inr fun b e hb hne => ?_
    obtain ⟨_, hb⟩ := resP_some.1 hb
    rcases hI.ext.new b e hb with h1 | ⟨b₀, e₀, h1, h2⟩
    · omega
    · exact hc b₀ e₀ h1 (h2.trans hne)
/-- What is pending stays as it lies. -/
theorem Inv.pendSame (hT : Trc P r ops ops 0 tels A S B) (hI : Inv P N ops tels A S μ₀ w₀ D h μ ca w) {w' : World} (hev : Ev N (resP μ (nmB S h)) w w') {j : Nat} (hj : j ≤ ops.length) (hhj : h ≤ j) {blk : ABlk} {e : Ent} {ν : Inj}
    (p4 : BR P N ν w blk e) (p6 : ∀ b' e', b' ≠ (S j).n → μ b' = some e' → e'.a.block ≠ e.a.block) : w'.heap[e.a.block]? = w.heap[e.a.block]? := by
  refine hev.same _ p4.lt (.inr fun b e' hb => ?_)
  obtain ⟨h1, h2⟩ := resP_some.1 hb
  refine p6 b e' (fun hn => ?_) h2
  have := hT.mono hhj hj
  rw [hn] at h1
  have h1 : (S j).n.toNat < (S h).n.toNat := h1
  omega
/-- AN OPERATION THAT KEEPS THE STATE, whatever it does to the world. -/
theorem Inv.mild (hF : Fit P ops) (hT : Trc P r ops ops 0 tels A S B) (hI : Inv P N ops tels A S μ₀ w₀ D h μ ca w) {q : Nat} {t : Tel} (hq : tels[q]? = some t) (hD : D q = false) (hdone : ∀ j, bit (ahead ops) q j = true → D j = true)
    (hc : clsO P t.o.op ≠ 2) (hl : t.w = true → clsO P t.o.op ≠ 1) {u : Value} {w' : World} (hu : VR P (resP μ (nmOf P ops tels S h q)) t.v u)
    (hsr : SR P N (resP μ (nmB S h)) (S h) w') (hev : Ev N (resP μ (nmB S h)) w w') :
    Inv P N ops tels A S μ₀ w₀ (andD D q) h μ (ca.put t.o.dst u) w' := by
  have hqo := (hT.tel q t hq).1
  obtain ⟨h1, h2⟩ := hI.temps hF hT hq hD (Sub.refl μ) (Nat.le_refl _) hu
  refine ⟨fun i hi => ?_, fun i j hi hb => ?_, hI.hle, fun o ho => ?_, fun e o ho hh => ?_, by rw [put_size]; exact hI.size, by rw [put_dfr]; exact hI.dfr, h1, h2, hsr, fun j y hj hhj hy hw hcl => ?_, fun b e hb => ?_, fun j y hj hy hw hcl => ?_, hI.evTrans hev, hI.ext, hI.fresh⟩
  · by_cases hiq : i = q
    · subst hiq; exact hT.lt hq
    · rw [andD_ne D hiq] at hi; exact hI.lt i hi
  · by_cases hiq : i = q
    · subst hiq; exact andD_mono (hdone j hb)
    · rw [andD_ne D hiq] at hi; exact andD_mono (hI.down i j hi hb)
  · obtain ⟨g1, g2⟩ := hI.nxt o ho
    refine ⟨g1, ?_⟩
    have hne : h ≠ q := fun e => by subst e; rw [hqo] at ho; cases ho; exact hc g1
    rw [andD_ne D hne]; exact g2
  · have hne : e ≠ q := fun e' => by subst e'; rw [hqo] at ho; cases ho; exact hc hh
    rw [andD_ne D hne]
    exact hI.hvy e o ho hh
  · have hne : j ≠ q := fun e' => by subst e'; rw [hq] at hy; cases hy; exact hl hw hcl
    rw [andD_ne D hne] at hj
    obtain ⟨e, blk, p1, p2, p3, p4, p5, p6⟩ := hI.pend j y hj hhj hy hw hcl
    exact ⟨e, blk, p1, p2, p3, p4.keep (Sub.refl _) hev.size fun _ => hI.pendSame hT hev (Nat.le_of_lt (hT.lt hy)) (Nat.le_of_lt hhj) p4 p6, p5, p6⟩
  · rcases hI.dom b e hb with hb' | ⟨j, q1, q2, q3⟩
    · exact .inl hb'
    · exact .inr ⟨j, andD_mono q1, q2, q3⟩
  · have hne : j ≠ q := fun e' => by subst e'; rw [andD_same] at hj; cases hj
    rw [andD_ne D hne] at hj
    exact hI.undone j y hj hy hw hcl
theorem sameRes_val {v : AV} {x : ARes} (h : sameRes v x = true) : ∃ s, x = .val v s := by
  cases x with
  | val u s => exact ⟨s, by rw [eqAV_eq 12 u v h]⟩
  | _ => cases h
/-- A READ. -/
theorem Inv.read (hP : NoNum P) (hF : Fit P ops) (hT : Trc P r ops ops 0 tels A S B) (hI : Inv P N ops tels A S μ₀ w₀ D h μ ca w) {q : Nat} {t : Tel} (hq : tels[q]? = some t) (hD : D q = false) (hdone : ∀ j, bit (ahead ops) q j = true → D j = true)
    (hw : t.w = true) (hc : clsO P t.o.op = 0) (hlb : ∀ j y, tels[j]? = some y → clsO P y.o.op = 1 → bit (ahead ops) q j = true → j < h) (hat : chkAtHead P t.o t.a t.s t.v (S h).h = true) :
    ∃ u w', (execOp ca.eval t.o).run P w = .ok (.value u) w' ∧ Inv P N ops tels A S μ₀ w₀ (andD D q) h μ (ca.put t.o.dst u) w' := by
  obtain ⟨a', ha, hsame⟩ := hI.mask hF hT hq hdone
  obtain ⟨_, _, htA, htS, _⟩ := hT.tel q t hq
  -- the value, at the head
  have hval : opA t.o.op P a' (S h) = some (.val t.v (S h)) := by
    unfold chkAtHead at hat
    cases hx : opA t.o.op P t.a ⟨(S h).h, t.s.n⟩ with
    | none => rw [hx] at hat; cases hat
    | some x =>
      rw [hx] at hat
      obtain ⟨s, rfl⟩ := sameRes_val (show sameRes t.v x = true from hat)
      obtain ⟨v, e, hv⟩ := he_op P t.a hc (S h).h t.s.n _ hx
      cases e
      rw [hsame, ← htA]
      exact hv (S h).n
  -- the activation, where the names of the state are
  have hsub : Sub (resP μ (nmIn P ops tels S h q)) (resP μ (nmB S h)) := resP_sub fun b e hb he => ⟨by
    rcases hb with hb | ⟨i, ⟨y, h1, h2, h3, rfl⟩, hbi⟩
    · exact hb
    · have hlt := hlb i y h1 h3 hbi
      have := hT.mono (j := i + 1) (k := h) (by omega) hI.hle
      have hn2 := hT.lays hF h1 h2 h3
      show (S i).n.toNat < (S h).n.toNat
      omega, he⟩
  obtain ⟨μ', u, w', hrun, hg, hv⟩ := opA_sound hP hI.sr (ha.mono hsub) hval
  have hμ : Sub μ' (resP μ (nmB S h)) := fun b e hb => by
    rcases hg.fresh b e hb with q | q
    · exact q
    · have := hg.sr.lt b e hb; omega
  have heq : μ' = resP μ (nmB S h) := by
    funext b
    cases hb : μ' b with
    | some e => exact (hμ b e hb).symm
    | none =>
      cases hb' : resP μ (nmB S h) b with
      | none => rfl
      | some e => rw [hg.ext.sub b e hb'] at hb; cases hb
  subst heq
  exact ⟨u, w', hrun, hI.mild hF hT hq hD hdone (by rw [hc]; decide) (fun _ => by rw [hc]; decide) (hv.mono (resP_sub fun b e hb he => ⟨.inl hb, he⟩)) hg.sr hg.ev⟩
end
end Go.Proofs.Vai
