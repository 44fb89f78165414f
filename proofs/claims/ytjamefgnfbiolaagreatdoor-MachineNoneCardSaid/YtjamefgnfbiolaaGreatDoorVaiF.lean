/- The verified interpreter, part F. -/
import Derived.Test.YtjamefgnfbiolaaGreatDoorVaiE
set_option linter.unusedVariables false
set_option linter.unusedSimpArgs false
set_option linter.unusedSectionVars false
/- Drawn regions, ninth part: where the machine stands, having done some of the operations. -/
namespace Go.Proofs.Vai
open Go Go.RowKit
variable [Env]

section
variable {P : Program} {N : Nat}

/-- Is b the name of the row that operation i lays? -/
def LaysAt (P : Program) (tels : List Tel) (S : Nat → St) (i : Nat) (b : Pos) : Prop := ∃ t, tels[i]? = some t ∧ t.w = true ∧ clsO P t.o.op = 1 ∧ b = (S i).n
/-- The names that operation j's operands may bear, when h is the next heavy one. -/
def nmIn (P : Program) (ops : List Oper) (tels : List Tel) (S : Nat → St) (h j : Nat) : Pos → Prop := fun b => b.toNat < (S h).n.toNat ∨ ∃ i, LaysAt P tels S i b ∧ bit (ahead ops) j i = true
/-- The names that its value may bear. -/
def nmOf (P : Program) (ops : List Oper) (tels : List Tel) (S : Nat → St) (h j : Nat) : Pos → Prop := fun b => b.toNat < (S h).n.toNat ∨ ∃ i, LaysAt P tels S i b ∧ (i = j ∨ bit (ahead ops) j i = true)
def nmB (S : Nat → St) (h : Nat) : Pos → Prop := fun b => b.toNat < (S h).n.toNat

structure Inv (P : Program) (N : Nat) (ops : List Oper) (tels : List Tel) (A : Nat → AAct) (S : Nat → St) (μ₀ : Inj) (w₀ : World) (D : Nat → Bool) (h : Nat) (μ : Inj) (ca : Act) (w : World) : Prop where
  lt : ∀ i, D i = true → i < ops.length
  down : ∀ i j, D i = true → bit (ahead ops) i j = true → D j = true
  hle : h ≤ ops.length
  nxt : ∀ o, ops[h]? = some o → clsO P o.op = 2 ∧ D h = false
  hvy : ∀ e o, ops[e]? = some o → clsO P o.op = 2 → (D e = true ↔ e < h)
  size : ca.tmps.size = (A 0).n
  dfr : DRs P (resP μ (nmB S 0)) (A 0).defers ca.defers
  done : ∀ i t d, D i = true → tels[i]? = some t → t.o.dst = some d → VR P (resP μ (nmOf P ops tels S h i)) t.v (ca.tmps.getD d undef)
  old : ∀ d, (∀ (i : Nat) (o : Oper), ops[i]? = some o → o.dst = some d → D i = false) → VR P (resP μ (nmB S 0)) ((A 0).tmp d) (ca.tmps.getD d undef)
  sr : SR P N (resP μ (nmB S h)) (S h) w
  pend : ∀ j t, D j = true → h < j → tels[j]? = some t → t.w = true → clsO P t.o.op = 1 → ∃ e blk, μ (S j).n = some e ∧ S (j + 1) = (S j).push blk ∧ isDead blk = false ∧ BR P N (resP μ (nmOf P ops tels S h j)) w blk e ∧ N ≤ e.a.block ∧
    ∀ b' e', b' ≠ (S j).n → μ b' = some e' → e'.a.block ≠ e.a.block
  dom : ∀ b e, μ b = some e → b.toNat < (S h).n.toNat ∨ ∃ j, D j = true ∧ h < j ∧ LaysAt P tels S j b
  undone : ∀ j t, D j = false → tels[j]? = some t → t.w = true → clsO P t.o.op = 1 → μ (S j).n = none
  ev : Ev N μ₀ w₀ w
  ext : Ext μ₀ μ w₀
  fresh : ∀ b e, μ b = some e → μ₀ b = some e ∨ (S 0).n.toNat ≤ b.toNat

theorem mem_tmpsO {t : Tmp} : ∀ {l : List Operand}, Operand.tmp t ∈ l → t ∈ tmpsO l
  | x :: l, h => by
    cases h with
    | head => exact List.mem_cons_self ..
    | tail _ h =>
      have := mem_tmpsO h
      cases x <;> first | exact List.mem_cons_of_mem _ this | exact this
def above : List Tmp → Nat
  | [] => 0
  | t :: l => t + above l + 1
theorem lt_above {t : Tmp} : ∀ {l : List Tmp}, t ∈ l → t < above l
  | x :: l, h => by
    cases h with
    | head => exact Nat.lt_succ_of_le (Nat.le_add_right t (above l))
    | tail _ h => exact Nat.lt_of_lt_of_le (lt_above h) (Nat.le_succ_of_le (Nat.le_add_left (above l) x))
section
variable {r : Rec} {ops : List Oper} {tels : List Tel} {A : Nat → AAct} {S : Nat → St} {B : Nat → Bool} {μ₀ μ : Inj} {w₀ w : World} {D : Nat → Bool} {h : Nat} {ca : Act}
theorem nmB_le (hT : Trc P r ops ops 0 tels A S B) (hle : h ≤ ops.length) : Sub (resP μ (nmB S 0)) (resP μ (nmB S h)) :=
  resP_sub fun b e hb he => ⟨Nat.lt_of_lt_of_le hb (hT.mono (Nat.zero_le _) hle), he⟩
/-- An operation whose writers ahead are done: its operands, and nothing else of the activation. -/
theorem Inv.mask (hF : Fit P ops) (hT : Trc P r ops ops 0 tels A S B) (hI : Inv P N ops tels A S μ₀ w₀ D h μ ca w) {q : Nat} {t : Tel} (hq : tels[q]? = some t) (hDq : D q = false) (hdone : ∀ j, bit (ahead ops) q j = true → D j = true) :
    ∃ a', AR P (resP μ (nmIn P ops tels S h q)) a' ca ∧ ∀ s, opA t.o.op P a' s = opA t.o.op P (A q) s := by
  have hqo := (hT.tel q t hq).1
  have hql := hT.lt hq
  obtain ⟨e1, e2, e3⟩ := hT.same q (Nat.le_of_lt hql)
  have hsub0 : Sub (resP μ (nmB S 0)) (resP μ (nmIn P ops tels S h q)) := resP_sub fun b e hb he => ⟨.inl (Nat.lt_of_lt_of_le hb (hT.mono (Nat.zero_le _) hI.hle)), he⟩
  -- an operand
  have hop : ∀ x, x ∈ tmpsO t.o.op.operands.toList → VR P (resP μ (nmIn P ops tels S h q)) ((A q).tmp x) (ca.tmps.getD x undef) := by
    intro x hx
    by_cases hw : ∃ (j : Nat) (o : Oper), ops[j]? = some o ∧ o.dst = some x
    · obtain ⟨j, o, hj, hd⟩ := hw
      rcases hF.reads q t.o x hqo hx j o hj hd with hb | hb
      case inr =>
        -- its writer comes behind it
        have hqj := bit_lt j q hb
        rw [hT.old q (Nat.le_of_lt hql) fun i o' hi ho' hd' => hF.dst i j o' o x (by omega) ho' hj hd' hd]
        refine (hI.old x fun i o' ho' hd' => ?_).mono hsub0
        have hij : i = j := by
          rcases Nat.lt_trichotomy i j with hl | hl | hl
          · exact absurd hd (hF.dst i j o' o x hl ho' hj hd')
          · exact hl
          · exact absurd hd' (hF.dst j i o o' x hl hj ho' hd)
        subst hij
        cases hDi : D i with
        | false => rfl
        | true =>
          have := hI.down i q hDi hb
          rw [hDq] at this
          cases this
      have hjq := bit_lt q j hb
      obtain ⟨y, hy⟩ := hT.get (k := j) (by omega)
      have hyo : y.o = o := by
        have := (hT.tel j y hy).1
        rw [hj] at this
        exact (Option.some.inj this).symm
      subst hyo
      rw [hT.new hF hy hd q hjq (Nat.le_of_lt hql)]
      refine (hI.done j y x (hdone j hb) hy hd).mono (resP_sub fun b e hb' he => ⟨?_, he⟩)
      rcases hb' with hb' | ⟨i, hi, rfl | hbi⟩
      · exact .inl hb'
      · exact .inr ⟨i, hi, hb⟩
      · exact .inr ⟨i, hi, bit_trans q j i hb hbi⟩
    · have hn : ∀ (i : Nat) (o : Oper), ops[i]? = some o → o.dst ≠ some x := fun i o ho hd => hw ⟨i, o, ho, hd⟩
      rw [hT.old q (Nat.le_of_lt hql) fun j o _ ho => hn j o ho]
      exact (hI.old x fun i o ho hd => absurd hd (hn i o ho)).mono hsub0
  let m := ca.tmps.size + above (tmpsO t.o.op.operands.toList)
  let f : Nat → AV := fun x => if x ∈ tmpsO t.o.op.operands.toList then (A q).tmp x else .bad
  have hget : ∀ x, orUndef ((setTr ((List.range m).map f) .nil 0).get (pos x)) = if x < m then f x else .undef := by
    intro x
    rw [setTr_get]
    by_cases hx : x < m
    · rw [if_pos ⟨Nat.zero_le _, by simpa using hx⟩, if_pos hx]
      simp [hx, orUndef]
    · rw [if_neg (by simp; omega), if_neg hx, get_nil]
      rfl
  refine ⟨⟨setTr ((List.range m).map f) .nil 0, (A q).n, (A q).defers, (A q).rc⟩, ⟨fun x => ?_, by rw [hI.size, ← e1], by rw [e2]; exact hI.dfr.mono hsub0⟩, fun s => opA_congr fun x hx => ?_⟩
  · show VR P _ (orUndef ((setTr ((List.range m).map f) .nil 0).get (pos x))) _
    rw [hget]
    by_cases hx : x < m
    · rw [if_pos hx]
      show VR P _ (if x ∈ tmpsO t.o.op.operands.toList then (A q).tmp x else .bad) _
      by_cases hm : x ∈ tmpsO t.o.op.operands.toList
      · rw [if_pos hm]; exact hop x hm
      · rw [if_neg hm]; exact .bad _
    · rw [if_neg hx]
      have : ca.tmps.getD x undef = undef := by
        rw [Array.getD_eq_getD_getElem?, Array.getElem?_eq_none (by omega)]; rfl
      rw [this]
      exact undef_rel
  · cases x with
    | tmp x =>
      have hm := mem_tmpsO (show Operand.tmp x ∈ t.o.op.operands.toList by simpa using hx)
      have hxm : x < m := Nat.lt_of_lt_of_le (lt_above hm) (Nat.le_add_left _ _)
      show some (orUndef ((setTr ((List.range m).map f) .nil 0).get (pos x))) = some ((A q).tmp x)
      rw [hget, if_pos hxm]
      show some (if x ∈ tmpsO t.o.op.operands.toList then (A q).tmp x else .bad) = _
      rw [if_pos hm]
    | const v => rfl
    | global g => rfl
    | func f => rfl
end
end
end Go.Proofs.Vai
/- Drawn regions, tenth part: an operation that turns nothing. -/
namespace Go.Proofs.Vai
open Go Go.RowKit
variable [Env]

section
variable {P : Program} {N : Nat}

theorem SR.kept {μ : Inj} {σ : St} {w w' : World} (h : SR P N μ σ w) (hk : Kept w w') : SR P N μ σ w' :=
  ⟨fun b e he => let ⟨k, h1, h2⟩ := h.blk b e he; ⟨k, h1, h2.keep (Sub.refl _) hk.size fun _ => hk.same _ h2.lt⟩, h.inj, h.lt, Nat.le_trans h.hN hk.size, h.glob, h.hn, Env.keep w w' hk.size (fun k hk' => hk.same k (by have := h.hn; have := h.hN; omega)) h.base⟩
def andD (D : Nat → Bool) (q : Nat) : Nat → Bool := fun i => if i = q then true else D i
theorem andD_same (D : Nat → Bool) (q : Nat) : andD D q q = true := if_pos rfl
theorem andD_ne (D : Nat → Bool) {q i : Nat} (h : i ≠ q) : andD D q i = D i := if_neg h
theorem andD_mono {D : Nat → Bool} {q i : Nat} (h : D i = true) : andD D q i = true := by
  by_cases hi : i = q
  · rw [hi]; exact andD_same D q
  · rw [andD_ne D hi]; exact h
theorem put_getD {ca : Act} {dst : Option Tmp} {u : Value} {d : Tmp} (hlt : ∀ x, dst = some x → x < ca.tmps.size) : (ca.put dst u).tmps.getD d undef = if dst = some d then u else ca.tmps.getD d undef := by
  cases dst with
  | none => rfl
  | some x =>
    show (ca.tmps.setIfInBounds x u).getD d undef = _
    by_cases hx : x = d
    · subst hx
      have := hlt x rfl
      rw [if_pos rfl]
      simp [Array.getD_eq_getD_getElem?, this]
    · rw [if_neg (fun e => hx (Option.some.inj e))]
      simp [Array.getD_eq_getD_getElem?, Array.getElem?_setIfInBounds_ne hx]
theorem put_size (ca : Act) (dst : Option Tmp) (u : Value) : (ca.put dst u).tmps.size = ca.tmps.size := by
  cases dst with
  | none => rfl
  | some x => exact Array.size_setIfInBounds
theorem put_dfr (ca : Act) (dst : Option Tmp) (u : Value) : (ca.put dst u).defers = ca.defers := by cases dst <;> rfl
section
variable {r : Rec} {ops : List Oper} {tels : List Tel} {A : Nat → AAct} {S : Nat → St} {B : Nat → Bool} {μ₀ μ : Inj} {w₀ w : World} {D : Nat → Bool} {h : Nat} {ca : Act}
theorem Inv.dstLt (hT : Trc P r ops ops 0 tels A S B) (hI : Inv P N ops tels A S μ₀ w₀ D h μ ca w) {q : Nat} {t : Tel} (hq : tels[q]? = some t) : ∀ x, t.o.dst = some x → x < ca.tmps.size := by
  intro x hx
  have hp := (put_facts (hT.tel q t hq).2.2.2.2.2.2.2).2.2.2.2 x hx
  rw [(hT.same q (Nat.le_of_lt (hT.lt hq))).1, ← hI.size] at hp
  exact hp
/-- The temporaries behind operation q, whatever has become of the map. -/
theorem Inv.temps (hF : Fit P ops) (hT : Trc P r ops ops 0 tels A S B) (hI : Inv P N ops tels A S μ₀ w₀ D h μ ca w) {q : Nat} {t : Tel} (hq : tels[q]? = some t) (hD : D q = false) {u : Value} {μ' : Inj} {h' : Nat} (hs : Sub μ μ') (hh : (S h).n.toNat ≤ (S h').n.toNat)
    (hu : VR P (resP μ' (nmOf P ops tels S h' q)) t.v u) :
    (∀ i y d, andD D q i = true → tels[i]? = some y → y.o.dst = some d → VR P (resP μ' (nmOf P ops tels S h' i)) y.v ((ca.put t.o.dst u).tmps.getD d undef)) ∧
    ∀ d, (∀ (i : Nat) (o : Oper), ops[i]? = some o → o.dst = some d → andD D q i = false) → VR P (resP μ' (nmB S 0)) ((A 0).tmp d) ((ca.put t.o.dst u).tmps.getD d undef) := by
  have hqo := (hT.tel q t hq).1
  refine ⟨fun i y d hi hy hd => ?_, fun d hn => ?_⟩
  · rw [put_getD (hI.dstLt hT hq)]
    by_cases hiq : i = q
    · subst hiq
      rw [hq] at hy
      cases hy
      rw [if_pos hd]
      exact hu
    · rw [andD_ne D hiq] at hi
      have hyo := (hT.tel i y hy).1
      rw [if_neg (fun e => by
        rcases Nat.lt_or_gt_of_ne hiq with hl | hl
        · exact hF.dst i q y.o t.o d hl hyo hqo hd e
        · exact hF.dst q i t.o y.o d hl hqo hyo e hd)]
      refine (hI.done i y d hi hy hd).mono (resP_sub fun b e hb he => ⟨hb.imp (fun q => Nat.lt_of_lt_of_le q hh) id, hs b e he⟩)
  · rw [put_getD (hI.dstLt hT hq), if_neg (fun e => by have := hn q t.o hqo e; rw [andD_same] at this; cases this)]
    refine (hI.old d fun i o ho hd => ?_).mono (resP_sub fun b e hb he => ⟨hb, hs b e he⟩)
    have h1 := hn i o ho hd
    by_cases hiq : i = q
    · rw [hiq]; exact hD
    · rwa [andD_ne D hiq] at h1
/-- AN OPERATION THAT TURNS NOTHING: not wanted, of class 4, a read. -/
theorem Inv.light (hF : Fit P ops) (hT : Trc P r ops ops 0 tels A S B) (hI : Inv P N ops tels A S μ₀ w₀ D h μ ca w) {q : Nat} {t : Tel} (hq : tels[q]? = some t) (hD : D q = false) (hdone : ∀ j, bit (ahead ops) q j = true → D j = true)
    (hc : clsO P t.o.op ≠ 2) (hl : t.w = true → clsO P t.o.op ≠ 1) {u : Value} {w' : World} (hu : VR P (resP μ (nmOf P ops tels S h q)) t.v u) (hk : Kept w w') :
    Inv P N ops tels A S μ₀ w₀ (andD D q) h μ (ca.put t.o.dst u) w' := by
  have hqo := (hT.tel q t hq).1
  obtain ⟨h1, h2⟩ := hI.temps hF hT hq hD (Sub.refl μ) (Nat.le_refl _) hu
  refine ⟨fun i hi => ?_, fun i j hi hb => ?_, hI.hle, fun o ho => ?_, fun e o ho hh => ?_, by rw [put_size]; exact hI.size, by rw [put_dfr]; exact hI.dfr, h1, h2, hI.sr.kept hk, fun j y hj hhj hy hw hcl => ?_, fun b e hb => ?_, fun j y hj hy hw hcl => ?_, ?_, hI.ext, hI.fresh⟩
  · by_cases hiq : i = q
    · subst hiq; exact hT.lt hq
    · rw [andD_ne D hiq] at hi; exact hI.lt i hi
  · by_cases hiq : i = q
    · subst hiq; exact andD_mono (hdone j hb)
    · rw [andD_ne D hiq] at hi; exact andD_mono (hI.down i j hi hb)
  · obtain ⟨g1, g2⟩ := hI.nxt o ho
    refine ⟨g1, ?_⟩
    have hne : h ≠ q := fun e => by subst e; rw [hqo] at ho; cases ho; exact hc g1
    rw [andD_ne D hne]; exact g2
  · have hne : e ≠ q := fun e' => by subst e'; rw [hqo] at ho; cases ho; exact hc hh
    rw [andD_ne D hne]
    exact hI.hvy e o ho hh
  · have hne : j ≠ q := fun e' => by subst e'; rw [hq] at hy; cases hy; exact hl hw hcl
    rw [andD_ne D hne] at hj
    obtain ⟨e, blk, p1, p2, p3, p4, p5, p6⟩ := hI.pend j y hj hhj hy hw hcl
    exact ⟨e, blk, p1, p2, p3, p4.keep (Sub.refl _) hk.size fun _ => hk.same _ p4.lt, p5, p6⟩
  · rcases hI.dom b e hb with hb' | ⟨j, q1, q2, q3⟩
    · exact .inl hb'
    · exact .inr ⟨j, andD_mono q1, q2, q3⟩
  · have hne : j ≠ q := fun e' => by subst e'; rw [andD_same] at hj; cases hj
    rw [andD_ne D hne] at hj
    exact hI.undone j y hj hy hw hcl
  · exact ⟨hk.os.trans hI.ev.os, hk.tape.trans hI.ev.tape, hk.output.trans hI.ev.output, Nat.le_trans hI.ev.size hk.size, fun k hk1 hk2 => (hk.same k (Nat.lt_of_lt_of_le hk1 hI.ev.size)).trans (hI.ev.same k hk1 hk2)⟩
end
end
end Go.Proofs.Vai
/- Drawn regions, eleventh part: what the second evaluations say. -/
namespace Go.Proofs.Vai
open Go Go.RowKit
variable [Env]

section
variable {P : Program}

theorem cnd_and {b c : Bool} (h : cnd b c false = true) : b = true ∧ c = true := by cases b <;> simp_all [cnd]
theorem drawChk_spec {b : List Nat} {cl : List (Nat × Nat)} {hs : List (Nat × Tr ABlk)} : ∀ {l : List Tel}, drawChk P b cl hs l = true → ∀ t ∈ l, t.w = true →
    (clsO P t.o.op = 0 → chkHeads P b cl t.i t.o t.a t.s t.v hs = true) ∧ (clsO P t.o.op = 1 → chkLay P b cl t.i t.o t.a t.s hs = true)
  | [], _, t, ht, _ => absurd ht List.not_mem_nil
  | x :: l, h, t, ht, hw => by
    replace h : cnd x.w (cnd (Nat.beq (clsO P x.o.op) 0) (cnd (chkHeads P b cl x.i x.o x.a x.s x.v hs) (drawChk P b cl hs l) false) (cnd (Nat.beq (clsO P x.o.op) 1) (cnd (chkLay P b cl x.i x.o x.a x.s hs) (drawChk P b cl hs l) false) (drawChk P b cl hs l))) (drawChk P b cl hs l) = true := h
    have hrest : drawChk P b cl hs l = true := by
      cases hxw : x.w with
      | false => rw [hxw] at h; exact h
      | true =>
        rw [hxw] at h
        replace h : cnd (Nat.beq (clsO P x.o.op) 0) (cnd (chkHeads P b cl x.i x.o x.a x.s x.v hs) (drawChk P b cl hs l) false) (cnd (Nat.beq (clsO P x.o.op) 1) (cnd (chkLay P b cl x.i x.o x.a x.s hs) (drawChk P b cl hs l) false) (drawChk P b cl hs l)) = true := h
        cases h0 : Nat.beq (clsO P x.o.op) 0 with
        | true => rw [h0] at h; exact (cnd_and h).2
        | false =>
          rw [h0] at h
          replace h : cnd (Nat.beq (clsO P x.o.op) 1) (cnd (chkLay P b cl x.i x.o x.a x.s hs) (drawChk P b cl hs l) false) (drawChk P b cl hs l) = true := h
          cases h1 : Nat.beq (clsO P x.o.op) 1 with
          | true => rw [h1] at h; exact (cnd_and h).2
          | false => rw [h1] at h; exact h
    cases ht with
    | tail _ ht => exact drawChk_spec hrest t ht hw
    | head =>
      rw [hw] at h
      replace h : cnd (Nat.beq (clsO P x.o.op) 0) (cnd (chkHeads P b cl x.i x.o x.a x.s x.v hs) (drawChk P b cl hs l) false) (cnd (Nat.beq (clsO P x.o.op) 1) (cnd (chkLay P b cl x.i x.o x.a x.s hs) (drawChk P b cl hs l) false) (drawChk P b cl hs l)) = true := h
      refine ⟨fun hc => ?_, fun hc => ?_⟩
      · rw [hc] at h; exact (cnd_and h).1
      · rw [hc] at h; exact (cnd_and h).1
theorem chkHeads_spec {b : List Nat} {cl : List (Nat × Nat)} {i : Nat} {o : Oper} {a : AAct} {s : St} {v : AV} : ∀ {hs : List (Nat × Tr ABlk)}, chkHeads P b cl i o a s v hs = true → ∀ h ∈ hs, mayBe b i h.1 cl = true → laidBy b i h.1 cl = true ∧ chkAtHead P o a s v h.2 = true
  | x :: hs, hc, h, hm, hb => by
    replace hc : cnd (mayBe b i x.1 cl) (cnd (laidBy b i x.1 cl) (cnd (chkAtHead P o a s v x.2) (chkHeads P b cl i o a s v hs) false) false) (chkHeads P b cl i o a s v hs) = true := hc
    cases hm with
    | head =>
      rw [hb] at hc
      obtain ⟨h1, h2⟩ := cnd_and (b := laidBy b i x.1 cl) hc
      exact ⟨h1, (cnd_and h2).1⟩
    | tail _ hm =>
      cases hq : mayBe b i x.1 cl with
      | true =>
        rw [hq] at hc
        obtain ⟨h1, h2⟩ := cnd_and (b := laidBy b i x.1 cl) hc
        exact chkHeads_spec (cnd_and h2).2 h hm hb
      | false => rw [hq] at hc; exact chkHeads_spec hc h hm hb
theorem chkRow_spec {b : List Nat} {cl : List (Nat × Nat)} {i : Nat} {n : Pos} {s : St} : ∀ {hs : List (Nat × Tr ABlk)}, chkRow b cl i n s hs = true → ∀ h ∈ hs, i < h.1 → mayBe b i h.1 cl = true → calm i h.1 cl = true ∨ eqOB (s.h.get n) (h.2.get n) = true
  | x :: hs, hc, h, hm, hlt, hb => by
    replace hc : cnd (Nat.blt i x.1) (cnd (mayBe b i x.1 cl) (cnd (cnd (calm i x.1 cl) true (eqOB (s.h.get n) (x.2.get n))) (chkRow b cl i n s hs) false) (chkRow b cl i n s hs)) (chkRow b cl i n s hs) = true := hc
    have hrest : chkRow b cl i n s hs = true := by
      cases h1 : Nat.blt i x.1 with
      | false => rw [h1] at hc; exact hc
      | true =>
        rw [h1] at hc
        replace hc : cnd (mayBe b i x.1 cl) (cnd (cnd (calm i x.1 cl) true (eqOB (s.h.get n) (x.2.get n))) (chkRow b cl i n s hs) false) (chkRow b cl i n s hs) = true := hc
        cases h2 : mayBe b i x.1 cl with
        | false => rw [h2] at hc; exact hc
        | true => rw [h2] at hc; exact (cnd_and hc).2
    cases hm with
    | tail _ hm => exact chkRow_spec hrest h hm hlt hb
    | head =>
      have h1 : Nat.blt i x.1 = true := by simpa [Nat.blt_eq] using hlt
      rw [h1] at hc
      replace hc : cnd (mayBe b i x.1 cl) (cnd (cnd (calm i x.1 cl) true (eqOB (s.h.get n) (x.2.get n))) (chkRow b cl i n s hs) false) (chkRow b cl i n s hs) = true := hc
      rw [hb] at hc
      have h2 := (cnd_and hc).1
      cases h3 : calm i x.1 cl with
      | true => exact .inl rfl
      | false => rw [h3] at h2; exact .inr h2
theorem calm_spec {i h : Nat} : ∀ {l : List (Nat × Nat)}, calm i h l = true → ∀ x ∈ l, x.2 = 2 → i < x.1 → h ≤ x.1
  | [], _, x, hx, _, _ => absurd hx List.not_mem_nil
  | y :: l, hl, x, hx, hc, hi => by
    replace hl : cnd (Nat.beq y.2 2) (cnd (cnd (Nat.blt i y.1) (Nat.ble h y.1) true) (calm i h l) false) (calm i h l) = true := hl
    have hrest : calm i h l = true := by
      cases h1 : Nat.beq y.2 2 with
      | false => rw [h1] at hl; exact hl
      | true => rw [h1] at hl; exact (cnd_and hl).2
    cases hx with
    | tail _ hx => exact calm_spec hrest x hx hc hi
    | head =>
      rw [hc] at hl
      have h2 := (cnd_and (show cnd (cnd (Nat.blt i y.1) (Nat.ble h y.1) true) (calm i h l) false = true from hl)).1
      rw [show Nat.blt i y.1 = true by simpa [Nat.blt_eq] using hi] at h2
      exact Nat.le_of_ble_eq_true h2
theorem mayBe_of {b : List Nat} {i h : Nat} : ∀ {l : List (Nat × Nat)}, (∀ x ∈ l, x.2 = 2 → (bit b i x.1 = true → x.1 < h) ∧ (bit b x.1 i = true → h ≤ x.1)) → mayBe b i h l = true
  | [], _ => rfl
  | x :: l, hl => by
    show cnd (Nat.beq x.2 2) (cnd (cnd (bit b i x.1) (Nat.blt x.1 h) true) (cnd (cnd (bit b x.1 i) (Nat.ble h x.1) true) (mayBe b i h l) false) false) (mayBe b i h l) = true
    have ih := mayBe_of (b := b) (i := i) (h := h) (l := l) fun y hy => hl y (List.mem_cons_of_mem _ hy)
    cases hc : Nat.beq x.2 2 with
    | false => exact ih
    | true =>
      obtain ⟨h1, h2⟩ := hl x (List.mem_cons_self ..) (Nat.eq_of_beq_eq_true hc)
      have e1 : cnd (bit b i x.1) (Nat.blt x.1 h) true = true := by
        cases hb : bit b i x.1 with
        | false => rfl
        | true => show Nat.blt x.1 h = true; simpa [Nat.blt_eq] using h1 hb
      have e2 : cnd (bit b x.1 i) (Nat.ble h x.1) true = true := by
        cases hb : bit b x.1 i with
        | false => rfl
        | true => exact Nat.ble_eq_true_of_le (h2 hb)
      show cnd (cnd (bit b i x.1) (Nat.blt x.1 h) true) (cnd (cnd (bit b x.1 i) (Nat.ble h x.1) true) (mayBe b i h l) false) false = true
      rw [e1]
      show cnd (cnd (bit b x.1 i) (Nat.ble h x.1) true) (mayBe b i h l) false = true
      rw [e2]
      exact ih
theorem laidBy_spec {b : List Nat} {i h : Nat} : ∀ {l : List (Nat × Nat)}, laidBy b i h l = true → ∀ x ∈ l, x.2 = 1 → bit b i x.1 = true → x.1 < h
  | [], _, x, hx, _, _ => absurd hx List.not_mem_nil
  | y :: l, hl, x, hx, hc, hb => by
    replace hl : cnd (Nat.beq y.2 1) (cnd (cnd (bit b i y.1) (Nat.blt y.1 h) true) (laidBy b i h l) false) (laidBy b i h l) = true := hl
    have hrest : laidBy b i h l = true := by
      cases h1 : Nat.beq y.2 1 with
      | false => rw [h1] at hl; exact hl
      | true => rw [h1] at hl; exact (cnd_and hl).2
    cases hx with
    | tail _ hx => exact laidBy_spec hrest x hx hc hb
    | head =>
      rw [hc] at hl
      have h2 := (cnd_and (show cnd (cnd (bit b i y.1) (Nat.blt y.1 h) true) (laidBy b i h l) false = true from hl)).1
      rw [hb] at h2
      simpa [Nat.blt_eq] using h2
theorem clsL_get : ∀ (l : List Oper) (i k : Nat), (clsL P l i)[k]? = (l[k]?).map fun o => (i + k, clsO P o.op)
  | [], i, k => by simp [clsL]
  | o :: l, i, k => by
    have e : clsL P (o :: l) i = (i, clsO P o.op) :: clsL P l (Nat.succ i) := rfl
    rw [e]
    cases k with
    | zero => rfl
    | succ k =>
      rw [List.getElem?_cons_succ, List.getElem?_cons_succ, clsL_get l (Nat.succ i) k]
      rw [show Nat.succ i + k = i + (k + 1) by omega]
theorem clsL_mem {l : List Oper} {k : Nat} {o : Oper} (h : l[k]? = some o) : (k, clsO P o.op) ∈ clsL P l 0 := by
  refine List.mem_of_getElem? (i := k) ?_
  rw [clsL_get, h, Nat.zero_add]
  rfl
theorem clsL_of {l : List Oper} {x : Nat × Nat} (h : x ∈ clsL P l 0) : ∃ o, l[x.1]? = some o ∧ x.2 = clsO P o.op := by
  obtain ⟨k, hk⟩ := List.mem_iff_getElem?.1 h
  rw [clsL_get] at hk
  obtain ⟨o, ho, rfl⟩ := Option.map_eq_some_iff.1 hk
  exact ⟨o, by rw [Nat.zero_add]; exact ho, rfl⟩
theorem heads_mem {n : Nat} {s : St} : ∀ {l : List Tel}, (n, s.h) ∈ heads P n s l ∧ ∀ t ∈ l, clsO P t.o.op = 2 → (t.i, t.s.h) ∈ heads P n s l
  | [] => ⟨List.mem_cons_self .., fun t ht => absurd ht List.not_mem_nil⟩
  | x :: l => by
    obtain ⟨h1, h2⟩ := heads_mem (n := n) (s := s) (l := l)
    have e : heads P n s (x :: l) = cnd (Nat.beq (clsO P x.o.op) 2) ((x.i, x.s.h) :: heads P n s l) (heads P n s l) := rfl
    rw [e]
    cases hc : Nat.beq (clsO P x.o.op) 2 with
    | true =>
      refine ⟨List.mem_cons_of_mem _ h1, fun t ht hcl => ?_⟩
      cases ht with
      | head => exact List.mem_cons_self ..
      | tail _ ht => exact List.mem_cons_of_mem _ (h2 t ht hcl)
    | false =>
      refine ⟨h1, fun t ht hcl => ?_⟩
      cases ht with
      | head => rw [hcl] at hc; cases hc
      | tail _ ht => exact h2 t ht hcl
end
end Go.Proofs.Vai
/- Drawn regions, twelfth part: an operation of class 4, one that is not wanted. -/
namespace Go.Proofs.Vai
open Go Go.RowKit
variable [Env]

section
variable {P : Program} {N : Nat} {r : Rec} {ops : List Oper} {tels : List Tel} {A : Nat → AAct} {S : Nat → St} {B : Nat → Bool} {μ₀ μ : Inj} {w₀ w : World} {D : Nat → Bool} {h : Nat} {ca : Act}
theorem Inv.places (hT : Trc P r ops ops 0 tels A S B) (hI : Inv P N ops tels A S μ₀ w₀ D h μ ca w) : Places P N μ w (S ops.length).n.toNat := by
  have key : ∀ b e, μ b = some e → (b.toNat < (S h).n.toNat ∧ resP μ (nmB S h) b = some e) ∨ ∃ j t blk, tels[j]? = some t ∧ b = (S j).n ∧ S (j + 1) = (S j).push blk ∧ BR P N (resP μ (nmOf P ops tels S h j)) w blk e ∧ N ≤ e.a.block := by
    intro b e he
    rcases hI.dom b e he with hb | ⟨j, h1, h2, t, h3, h4, h5, rfl⟩
    · exact .inl ⟨hb, resP_some.2 ⟨hb, he⟩⟩
    · obtain ⟨e', blk, p1, p2, p3, p4, p5, _⟩ := hI.pend j t h1 h2 h3 h4 h5
      rw [he] at p1
      cases p1
      exact .inr ⟨j, t, blk, h3, rfl, p2, p4, p5⟩
  refine ⟨fun b e he => ?_, fun b e he => ?_, fun g hg => (resP_some.1 (hI.sr.glob g hg)).2, hI.sr.hN, hI.sr.hn, hI.sr.base⟩
  · rcases key b e he with ⟨hb, _⟩ | ⟨j, t, blk, h1, rfl, h2, _⟩
    · exact Nat.lt_of_lt_of_le hb (hT.mono hI.hle (Nat.le_refl _))
    · have hj := hT.lt h1
      have : (S (j + 1)).n.toNat = (S j).n.toNat + 1 := by rw [h2, push_n, Pos.toNat_succ]
      have := hT.mono (j := j + 1) (k := ops.length) (by omega) (Nat.le_refl _)
      omega
  · rcases key b e he with ⟨_, hb⟩ | ⟨j, t, blk, h1, rfl, h2, h3, h4⟩
    · exact hI.sr.places.lies b e hb
    · exact ⟨h3.lt, .inr h4⟩
theorem Places.sub {m : Nat} (hp : Places P N μ w m) {p : Pos → Prop} (hg : ∀ g, g < P.globals.size → p (pos g)) : Places P N (resP μ p) w m :=
  ⟨fun b e he => hp.dom b e (resP_some.1 he).2, fun b e he => hp.lies b e (resP_some.1 he).2, fun g h => resP_some.2 ⟨hg g h, hp.glob g h⟩, hp.hN, hp.hn, hp.base⟩
/-- A STEP OF CLASS 4. -/
theorem Inv.pure (hP : NoNum P) (hF : Fit P ops) (hT : Trc P r ops ops 0 tels A S B) (hI : Inv P N ops tels A S μ₀ w₀ D h μ ca w) {q : Nat} {t : Tel} (hq : tels[q]? = some t) (hD : D q = false) (hdone : ∀ j, bit (ahead ops) q j = true → D j = true)
    (hc : clsO P t.o.op = 4) {s1 : St} (hx : opA t.o.op P (A q) (S q) = some (.val t.v s1)) :
    ∃ u w', (execOp ca.eval t.o).run P w = .ok (.value u) w' ∧ Inv P N ops tels A S μ₀ w₀ (andD D q) h μ (ca.put t.o.dst u) w' := by
  obtain ⟨a', ha, hsame⟩ := hI.mask hF hT hq hD hdone
  have hg : ∀ g, g < P.globals.size → nmIn P ops tels S h q (pos g) := fun g hg => .inl (resP_some.1 (hI.sr.glob g hg)).1
  obtain ⟨u, w', h1, h2, h3⟩ := pure_sound hP hc (by rw [hsame]; exact hx) ha ((hI.places hT).sub hg)
  refine ⟨u, w', h1, hI.light hF hT hq hD hdone (by rw [hc]; decide) (fun _ => by rw [hc]; decide) (h2.mono (resP_sub fun b e hb he => ⟨?_, he⟩)) h3⟩
  rcases hb with hb | ⟨i, h4, h5⟩
  · exact .inl hb
  · exact .inr ⟨i, h4, .inr h5⟩
/-- What is not wanted. -/
theorem Inv.idle (hF : Fit P ops) (hT : Trc P r ops ops 0 tels A S B) (hI : Inv P N ops tels A S μ₀ w₀ D h μ ca w) {q : Nat} {t : Tel} (hq : tels[q]? = some t) (hD : D q = false) (hdone : ∀ j, bit (ahead ops) q j = true → D j = true)
    (hc : clsO P t.o.op ≠ 2) (hw : t.w = false) (hv : t.v = .undef) : Inv P N ops tels A S μ₀ w₀ (andD D q) h μ (ca.put t.o.dst undef) w :=
  hI.light hF hT hq hD hdone hc (fun e => by rw [hw] at e; cases e) (by rw [hv]; exact undef_rel) ⟨rfl, rfl, rfl, Nat.le_refl _, fun _ _ => rfl⟩
end
end Go.Proofs.Vai
/- Drawn regions, thirteenth part: a row that is laid late, or early. -/
namespace Go.Proofs.Vai
open Go Go.RowKit
variable [Env]

section
variable {P : Program} {N : Nat}
theorem kept_alloc (w : World) (obj : Obj) : Kept w (w.alloc obj) := ⟨rfl, rfl, rfl, by simp, fun k hk => by rw [heap_alloc_old w obj hk]⟩
theorem SR.late {μ : Inj} {σ : St} {w : World} {obj : Obj} {b : Pos} {blk : ABlk} {e : Ent} (h : SR P N μ σ w) (hb : μ b = none) (hlt : b.toNat < σ.n.toNat) (hget : σ.h.get b = some blk) (he : e.a.block = w.heap.size)
    (hbr : BR P N (upd μ b e) (w.alloc obj) blk e) : SR P N (upd μ b e) σ (w.alloc obj) := by
  have hsub : Sub μ (upd μ b e) := sub_upd (.inl hb)
  have hk := h.kept (kept_alloc w obj)
  have hpl : ∀ x ex, μ x = some ex → ex.a.block < w.heap.size := fun x ex hx => let ⟨k, _, h2⟩ := h.blk x ex hx; h2.lt
  refine ⟨fun x ex hx => ?_, ?_, fun x ex hx => ?_, hk.hN, fun g hg => hsub _ _ (h.glob g hg), hk.hn, hk.base⟩
  · by_cases hxb : x = b
    · subst hxb
      rw [upd_same] at hx
      cases hx
      exact ⟨blk, hget, hbr⟩
    · rw [upd_ne μ e hxb] at hx
      obtain ⟨k, h1, h2⟩ := hk.blk x ex hx
      exact ⟨k, h1, h2.keep hsub (Nat.le_refl _) fun _ => rfl⟩
  · intro x y ex ey kx ky hx hy gx gy dx dy hN hxy
    by_cases hxb : x = b
    · by_cases hyb : y = b
      · rw [hxb, hyb]
      · subst hxb
        rw [upd_same] at hx
        cases hx
        rw [upd_ne μ e hyb] at hy
        have := hpl y ey hy
        omega
    · rw [upd_ne μ e hxb] at hx
      by_cases hyb : y = b
      · subst hyb
        rw [upd_same] at hy
        cases hy
        have := hpl x ex hx
        omega
      · rw [upd_ne μ e hyb] at hy
        exact h.inj x y ex ey kx ky hx hy gx gy dx dy hN hxy
  · by_cases hxb : x = b
    · subst hxb; exact hlt
    · rw [upd_ne μ e hxb] at hx
      exact h.lt x ex hx
theorem resP_upd {μ : Inj} {b : Pos} {e : Ent} {p : Pos → Prop} (h : p b) : resP (upd μ b e) p = upd (resP μ p) b e := by
  funext x
  unfold resP upd
  by_cases hx : x = b
  · subst hx; simp [h]
  · simp [hx]
theorem resP_upd_no {μ : Inj} {b : Pos} {e : Ent} {p : Pos → Prop} (h : ¬ p b) : resP (upd μ b e) p = resP μ p := by
  funext x
  unfold resP upd
  by_cases hx : x = b
  · subst hx; simp [h]
  · simp [hx]
section
variable {r : Rec} {ops : List Oper} {tels : List Tel} {A : Nat → AAct} {S : Nat → St} {B : Nat → Bool} {μ₀ μ : Inj} {w₀ w : World} {D : Nat → Bool} {h : Nat} {ca : Act}
/-- A STEP OF CLASS 1. -/
theorem Inv.lay (hF : Fit P ops) (hT : Trc P r ops ops 0 tels A S B) (hI : Inv P N ops tels A S μ₀ w₀ D h μ ca w) {q : Nat} {t : Tel} (hq : tels[q]? = some t) (hD : D q = false) (hdone : ∀ j, bit (ahead ops) q j = true → D j = true)
    (hw : t.w = true) (hc : clsO P t.o.op = 1) (hx : opA t.o.op P (A q) (S q) = some (.val t.v (S (q + 1)))) (hrow : q < h → ∀ blk, S (q + 1) = (S q).push blk → (S h).h.get (S q).n = some blk) :
    ∃ μ' u w', (execOp ca.eval t.o).run P w = .ok (.value u) w' ∧ Inv P N ops tels A S μ₀ w₀ (andD D q) h μ' (ca.put t.o.dst u) w' := by
  obtain ⟨a', ha, hsame⟩ := hI.mask hF hT hq hD hdone
  have hg : ∀ g, g < P.globals.size → nmIn P ops tels S h q (pos g) := fun g hg => .inl (resP_some.1 (hI.sr.glob g hg)).1
  have hqo := (hT.tel q t hq).1
  have hql := hT.lt hq
  obtain ⟨v, blk, obj, U, own, hL⟩ := lay_sound hc ((hI.places hT).sub hg).sr ha (by rw [hsame]; exact hx)
  have hsays := hL.says (S q)
  rw [hsame, hx] at hsays
  obtain ⟨hv, hpush⟩ : t.v = v (S q).n ∧ S (q + 1) = (S q).push blk := by
    have := Option.some.inj hsays
    injection this with h1 h2
    exact ⟨h1, h2⟩
  have hnone := hI.undone q t hD hq hw hc
  have hsub : Sub μ (upd μ (S q).n ⟨⟨w.heap.size, 0, none⟩, own⟩) := sub_upd (.inl hnone)
  have hn1 : (S (q + 1)).n.toNat = (S q).n.toNat + 1 := by rw [hpush, push_n, Pos.toNat_succ]
  have hqh : q ≠ h := fun e => by
    subst e
    have := (hI.nxt t.o hqo).1
    rw [hc] at this
    cases this
  have hpl : ∀ x ex, μ x = some ex → ex.a.block < w.heap.size := fun x ex hx => ((hI.places hT).lies x ex hx).1
  have hNw : N ≤ w.heap.size := hI.sr.hN
  have hnm : nmOf P ops tels S h q (S q).n := .inr ⟨q, ⟨t, hq, hw, hc, rfl⟩, .inl rfl⟩
  have hu : VR P (resP (upd μ (S q).n ⟨⟨w.heap.size, 0, none⟩, own⟩) (nmOf P ops tels S h q)) t.v (U w.heap.size) := by
    rw [hv]
    exact hL.val _ _ _ (resP_some.2 ⟨hnm, upd_n _ _ _⟩)
  have hbr : ∀ (p : Pos → Prop), (∀ b, nmIn P ops tels S h q b → p b) → BR P N (resP (upd μ (S q).n ⟨⟨w.heap.size, 0, none⟩, own⟩) p) (w.alloc obj) blk ⟨⟨w.heap.size, 0, none⟩, own⟩ := fun p hp =>
    hL.br _ _ _ (resP_sub fun b e hb he => ⟨hp b hb, hsub b e he⟩) hNw (heap_alloc_new w obj)
  obtain ⟨h1, h2⟩ := hI.temps hF hT hq hD hsub (Nat.le_refl _) hu
  refine ⟨upd μ (S q).n ⟨⟨w.heap.size, 0, none⟩, own⟩, U w.heap.size, w.alloc obj, hL.run w, ?_⟩
  have hk := kept_alloc w obj
  refine ⟨fun i hi => ?_, fun i j hi hb => ?_, hI.hle, fun o ho => ?_, fun e o ho hh => ?_, by rw [put_size]; exact hI.size, ?_, h1, h2, ?_, fun j y hj hhj hy hwy hcl => ?_, fun b e hb => ?_, fun j y hj hy hwy hcl => ?_, ?_, ?_, ?_⟩
  · by_cases hiq : i = q
    · subst hiq; exact hql
    · rw [andD_ne D hiq] at hi; exact hI.lt i hi
  · by_cases hiq : i = q
    · subst hiq; exact andD_mono (hdone j hb)
    · rw [andD_ne D hiq] at hi; exact andD_mono (hI.down i j hi hb)
  · obtain ⟨g1, g2⟩ := hI.nxt o ho
    exact ⟨g1, by rw [andD_ne D (Ne.symm hqh)]; exact g2⟩
  · have hne : e ≠ q := fun e' => by subst e'; rw [hqo] at ho; cases ho; rw [hc] at hh; cases hh
    rw [andD_ne D hne]
    exact hI.hvy e o ho hh
  · rw [put_dfr]
    exact hI.dfr.mono (resP_sub fun b e hb he => ⟨hb, hsub b e he⟩)
  · by_cases hlt : q < h
    · have hb : nmB S h (S q).n := by
        have := hT.mono (j := q + 1) (k := h) (by omega) hI.hle
        show (S q).n.toNat < (S h).n.toNat
        omega
      rw [resP_upd hb]
      refine hI.sr.late ?_ hb (hrow hlt blk hpush) rfl ?_
      · unfold resP; rw [if_pos hb]; exact hnone
      · rw [← resP_upd hb]
        refine hbr _ fun b hb' => ?_
        rcases hb' with hb' | ⟨i, ⟨y, q1, q2, q3, rfl⟩, hbi⟩
        · exact hb'
        · have hiq := bit_lt q i hbi
          have := hT.mono (j := i) (k := q) (by omega) (by omega)
          show (S i).n.toNat < (S h).n.toNat
          have hb : (S q).n.toNat < (S h).n.toNat := hb
          omega
    · have hb : ¬ nmB S h (S q).n := fun hb => by
        have := hT.mono (j := h) (k := q) (by omega) (by omega)
        have hb : (S q).n.toNat < (S h).n.toNat := hb
        omega
      rw [resP_upd_no hb]
      exact hI.sr.kept hk
  · by_cases hjq : j = q
    · subst hjq
      refine ⟨_, blk, upd_n _ _ _, hpush, hL.alive, hbr _ fun b hb => hb.imp id fun ⟨i, h4, h5⟩ => ⟨i, h4, .inr h5⟩, hNw, fun b' e' hne hb' => ?_⟩
      rw [upd_ne _ _ hne] at hb'
      exact Nat.ne_of_lt (hpl b' e' hb')
    · rw [andD_ne D hjq] at hj
      obtain ⟨e, blk', p1, p2, p3, p4, p5, p6⟩ := hI.pend j y hj hhj hy hwy hcl
      refine ⟨e, blk', hsub _ _ p1, p2, p3, p4.keep (resP_sub fun b e hb he => ⟨hb, hsub b e he⟩) hk.size (fun _ => hk.same _ p4.lt), p5, fun b' e' hne hb' => ?_⟩
      by_cases hbq : b' = (S q).n
      · subst hbq
        rw [upd_same] at hb'
        cases hb'
        exact Nat.ne_of_gt p4.lt
      · rw [upd_ne _ _ hbq] at hb'
        exact p6 b' e' hne hb'
  · by_cases hbq : b = (S q).n
    · subst hbq
      by_cases hlt : q < h
      · left
        have := hT.mono (j := q + 1) (k := h) (by omega) hI.hle
        omega
      · exact .inr ⟨q, andD_same D q, by omega, t, hq, hw, hc, rfl⟩
    · rw [upd_ne _ _ hbq] at hb
      rcases hI.dom b e hb with hb' | ⟨j, q1, q2, q3⟩
      · exact .inl hb'
      · exact .inr ⟨j, andD_mono q1, q2, q3⟩
  · have hne : j ≠ q := fun e' => by subst e'; rw [andD_same] at hj; cases hj
    rw [andD_ne D hne] at hj
    have hnn : (S j).n ≠ (S q).n := by
      intro he
      rcases Nat.lt_or_gt_of_ne hne with hl | hl
      · have hn2 := hT.lays hF hy hwy hcl
        have := hT.mono (j := j + 1) (k := q) (by omega) (by omega)
        rw [he] at hn2
        omega
      · have := hT.mono (j := q + 1) (k := j) (by omega) (Nat.le_of_lt (hT.lt hy))
        rw [he] at this
        omega
    rw [upd_ne _ _ hnn]
    exact hI.undone j y hj hy hwy hcl
  · exact ⟨hI.ev.os, hI.ev.tape, hI.ev.output, Nat.le_trans hI.ev.size hk.size, fun k hk1 hk2 => (hk.same k (Nat.lt_of_lt_of_le hk1 hI.ev.size)).trans (hI.ev.same k hk1 hk2)⟩
  · refine ⟨hI.ext.sub.trans hsub, fun b e hb => ?_⟩
    by_cases hbq : b = (S q).n
    · subst hbq
      rw [upd_same] at hb
      cases hb
      exact .inl hI.ev.size
    · rw [upd_ne _ _ hbq] at hb
      exact hI.ext.new b e hb
  · intro b e hb
    by_cases hbq : b = (S q).n
    · subst hbq
      exact .inr (hT.mono (Nat.zero_le _) (Nat.le_of_lt hql))
    · rw [upd_ne _ _ hbq] at hb
      exact hI.fresh b e hb
end
end
end Go.Proofs.Vai
/- Drawn regions, fourteenth part: a read. -/
namespace Go.Proofs.Vai
open Go Go.RowKit
variable [Env]

/-- It looks at the heap alone, and keeps the state. -/
def HE (f : St → Option ARes) : Prop := ∀ h n x, f ⟨h, n⟩ = some x → ∃ v, x = .val v ⟨h, n⟩ ∧ ∀ n', f ⟨h, n'⟩ = some (.val v ⟨h, n'⟩)
/-- It looks at the heap alone. -/
def HO {α : Type} (o : St → Option α) : Prop := ∀ h n n', o ⟨h, n⟩ = o ⟨h, n'⟩
theorem PU.he {f : St → Option ARes} (h : PU f) : HE f := by
  intro s n x hx
  obtain ⟨F, hF⟩ := h
  rw [hF] at hx
  obtain ⟨v, rfl, rfl⟩ := omap_some.1 hx
  exact ⟨v, rfl, fun n' => by rw [hF]⟩
theorem HE.none : HE fun _ => Option.none := fun h n x hx => by cases hx
theorem HE.obind {α : Type} (o : Option α) {g : α → St → Option ARes} (h : ∀ x, HE (g x)) : HE fun s => Vai.obind o fun x => g x s := by
  cases o with
  | none => exact HE.none
  | some x => exact h x
theorem HE.obindS {α : Type} {o : St → Option α} (ho : HO o) {g : α → St → Option ARes} (h : ∀ x, HE (g x)) : HE fun s => Vai.obind (o s) fun x => g x s := by
  intro s n x hx
  obtain ⟨y, hy, hx⟩ := obind_some.1 hx
  obtain ⟨v, e, hv⟩ := h y s n x hx
  refine ⟨v, e, fun n' => ?_⟩
  have : o ⟨s, n'⟩ = some y := by rw [← hy]; exact ho s n' n
  show Vai.obind (o ⟨s, n'⟩) _ = _
  rw [this]
  exact hv n'
theorem HE.omapS {α : Type} {o : St → Option α} (ho : HO o) (g : α → AV) : HE fun s => Vai.omap (o s) fun x => .val (g x) s := by
  intro s n x hx
  obtain ⟨y, hy, rfl⟩ := omap_some.1 hx
  refine ⟨g y, rfl, fun n' => ?_⟩
  have : o ⟨s, n'⟩ = some y := by rw [← hy]; exact ho s n' n
  show Vai.omap (o ⟨s, n'⟩) _ = _
  rw [this]
theorem HE.cnd (b : Bool) {f g : St → Option ARes} (h : HE f) (k : HE g) : HE fun s => Vai.cnd b (f s) (g s) := by cases b <;> assumption
section
variable (P : Program) (a : AAct)
theorem ho_load (t : TypeId) (b : Pos) (o : Nat) : HO fun s => s.load P t b o := fun h n n' => rfl
theorem ho_cells (b : Pos) (o k : Nat) : HO fun s => s.cells b o k := fun h n n' => rfl
theorem ho_es (m : AV) : HO fun s => mapEs s m := fun h n n' => by unfold mapEs; cases m <;> rfl
theorem ho_len (t : TypeId) (x : AV) : HO fun s => lenA P t s x := fun h n n' => by unfold lenA; cases x <;> rfl
/-- CLASS 0. -/
theorem he_op {op : Op} (h : clsO P op = 0) : HE fun s => opA op P a s := by
  cases op <;> first | (cases h; done) | skip
  case load t x =>
    refine HE.obind _ fun v => ?_
    cases v <;> first | exact HE.none | exact HE.omapS (ho_load P t _ _) _
  case convert s d x =>
    refine HE.obind _ fun v => HE.obind _ fun us => ?_
    have bytes : HE fun s' => Vai.obind (elemT P s) fun e => convBytes P e v s' := by
      refine HE.obind _ fun e => HE.cnd _ ?_ HE.none
      cases v <;> first | exact HE.none | exact (PU.val _).he | exact HE.obindS (ho_cells _ _ _) fun cs => (PU.omap _ _).he
    simp only [clsO] at h
    cases hd : P.underlying d with
    | none => exact HE.none
    | some ud =>
      rw [hd] at h
      cases ud <;> first | (cases h; done) | exact HE.none | skip
      · cases v <;> first | exact HE.none | exact (PU.val _).he
      · cases v <;> first | exact HE.none | exact (PU.val _).he | exact (PU.cnd _ (PU.val _) PU.none).he
      · cases v <;> first | exact bytes | exact (PU.val _).he | skip
        rename_i n
        cases n with
        | ofNat n => exact (PU.cnd _ (PU.val _) PU.none).he
        | negSucc n => exact bytes
  case lookup t x k ok =>
    refine HE.obind _ fun m => HE.obind _ fun k => ?_
    refine HE.obindS (ho_es m) fun es => HE.obind _ fun q => HE.cnd _ (HE.obind _ fun o => ?_) HE.none
    cases o with
    | none => exact (PU.omap _ _).he
    | some v => exact (PU.val _).he
  case call c =>
    refine HE.obind _ fun args => ?_
    simp only [clsO] at h
    split at h <;> first | (cases h; done) | skip
    rename_i hc
    rw [hc]
    show HE fun s => bLen P c.argTypes.toList args s
    unfold bLen
    split
    · split
      · refine HE.cnd _ ?_ HE.none
        split
        · exact (PU.val _).he
        · exact HE.none
      · exact HE.omapS (ho_len P _ _) _
      · exact HE.none
    · exact HE.none
end

section
variable {P : Program} {N : Nat} {r : Rec} {ops : List Oper} {tels : List Tel} {A : Nat → AAct} {S : Nat → St} {B : Nat → Bool} {μ₀ μ : Inj} {w₀ w : World} {D : Nat → Bool} {h : Nat} {ca : Act}
/-- What the world may do. -/
theorem Inv.evTrans (hI : Inv P N ops tels A S μ₀ w₀ D h μ ca w) {w' : World} (hev : Ev N (resP μ (nmB S h)) w w') : Ev N μ₀ w₀ w' := by
  refine ⟨hev.os.trans hI.ev.os, hev.tape.trans hI.ev.tape, hev.output.trans hI.ev.output, Nat.le_trans hI.ev.size hev.size, fun k hk hc => ?_⟩
  refine (hev.same k (Nat.lt_of_lt_of_le hk hI.ev.size) ?_).trans (hI.ev.same k hk hc)
  rcases hc with hc | hc
  · exact .inl hc
  · refine .inr fun b e hb hne => ?_
    obtain ⟨_, hb⟩ := resP_some.1 hb
    rcases hI.ext.new b e hb with h1 | ⟨b₀, e₀, h1, h2⟩
    · omega
    · exact hc b₀ e₀ h1 (h2.trans hne)
/-- What is pending stays as it lies. -/
theorem Inv.pendSame (hT : Trc P r ops ops 0 tels A S B) (hI : Inv P N ops tels A S μ₀ w₀ D h μ ca w) {w' : World} (hev : Ev N (resP μ (nmB S h)) w w') {j : Nat} (hj : j ≤ ops.length) (hhj : h ≤ j) {blk : ABlk} {e : Ent} {ν : Inj}
    (p4 : BR P N ν w blk e) (p6 : ∀ b' e', b' ≠ (S j).n → μ b' = some e' → e'.a.block ≠ e.a.block) : w'.heap[e.a.block]? = w.heap[e.a.block]? := by
  refine hev.same _ p4.lt (.inr fun b e' hb => ?_)
  obtain ⟨h1, h2⟩ := resP_some.1 hb
  refine p6 b e' (fun hn => ?_) h2
  have := hT.mono hhj hj
  rw [hn] at h1
  have h1 : (S j).n.toNat < (S h).n.toNat := h1
  omega
/-- AN OPERATION THAT KEEPS THE STATE, whatever it does to the world. -/
theorem Inv.mild (hF : Fit P ops) (hT : Trc P r ops ops 0 tels A S B) (hI : Inv P N ops tels A S μ₀ w₀ D h μ ca w) {q : Nat} {t : Tel} (hq : tels[q]? = some t) (hD : D q = false) (hdone : ∀ j, bit (ahead ops) q j = true → D j = true)
    (hc : clsO P t.o.op ≠ 2) (hl : t.w = true → clsO P t.o.op ≠ 1) {u : Value} {w' : World} (hu : VR P (resP μ (nmOf P ops tels S h q)) t.v u)
    (hsr : SR P N (resP μ (nmB S h)) (S h) w') (hev : Ev N (resP μ (nmB S h)) w w') :
    Inv P N ops tels A S μ₀ w₀ (andD D q) h μ (ca.put t.o.dst u) w' := by
  have hqo := (hT.tel q t hq).1
  obtain ⟨h1, h2⟩ := hI.temps hF hT hq hD (Sub.refl μ) (Nat.le_refl _) hu
  refine ⟨fun i hi => ?_, fun i j hi hb => ?_, hI.hle, fun o ho => ?_, fun e o ho hh => ?_, by rw [put_size]; exact hI.size, by rw [put_dfr]; exact hI.dfr, h1, h2, hsr, fun j y hj hhj hy hw hcl => ?_, fun b e hb => ?_, fun j y hj hy hw hcl => ?_, hI.evTrans hev, hI.ext, hI.fresh⟩
  · by_cases hiq : i = q
    · subst hiq; exact hT.lt hq
    · rw [andD_ne D hiq] at hi; exact hI.lt i hi
  · by_cases hiq : i = q
    · subst hiq; exact andD_mono (hdone j hb)
    · rw [andD_ne D hiq] at hi; exact andD_mono (hI.down i j hi hb)
  · obtain ⟨g1, g2⟩ := hI.nxt o ho
    refine ⟨g1, ?_⟩
    have hne : h ≠ q := fun e => by subst e; rw [hqo] at ho; cases ho; exact hc g1
    rw [andD_ne D hne]; exact g2
  · have hne : e ≠ q := fun e' => by subst e'; rw [hqo] at ho; cases ho; exact hc hh
    rw [andD_ne D hne]
    exact hI.hvy e o ho hh
  · have hne : j ≠ q := fun e' => by subst e'; rw [hq] at hy; cases hy; exact hl hw hcl
    rw [andD_ne D hne] at hj
    obtain ⟨e, blk, p1, p2, p3, p4, p5, p6⟩ := hI.pend j y hj hhj hy hw hcl
    exact ⟨e, blk, p1, p2, p3, p4.keep (Sub.refl _) hev.size fun _ => hI.pendSame hT hev (Nat.le_of_lt (hT.lt hy)) (Nat.le_of_lt hhj) p4 p6, p5, p6⟩
  · rcases hI.dom b e hb with hb' | ⟨j, q1, q2, q3⟩
    · exact .inl hb'
    · exact .inr ⟨j, andD_mono q1, q2, q3⟩
  · have hne : j ≠ q := fun e' => by subst e'; rw [andD_same] at hj; cases hj
    rw [andD_ne D hne] at hj
    exact hI.undone j y hj hy hw hcl
theorem sameRes_val {v : AV} {x : ARes} (h : sameRes v x = true) : ∃ s, x = .val v s := by
  cases x with
  | val u s => exact ⟨s, by rw [eqAV_eq 12 u v h]⟩
  | _ => cases h
/-- A READ. -/
theorem Inv.read (hP : NoNum P) (hF : Fit P ops) (hT : Trc P r ops ops 0 tels A S B) (hI : Inv P N ops tels A S μ₀ w₀ D h μ ca w) {q : Nat} {t : Tel} (hq : tels[q]? = some t) (hD : D q = false) (hdone : ∀ j, bit (ahead ops) q j = true → D j = true)
    (hw : t.w = true) (hc : clsO P t.o.op = 0) (hlb : ∀ j y, tels[j]? = some y → clsO P y.o.op = 1 → bit (ahead ops) q j = true → j < h) (hat : chkAtHead P t.o t.a t.s t.v (S h).h = true) :
    ∃ u w', (execOp ca.eval t.o).run P w = .ok (.value u) w' ∧ Inv P N ops tels A S μ₀ w₀ (andD D q) h μ (ca.put t.o.dst u) w' := by
  obtain ⟨a', ha, hsame⟩ := hI.mask hF hT hq hD hdone
  obtain ⟨_, _, htA, htS, _⟩ := hT.tel q t hq
  -- the value, at the head
  have hval : opA t.o.op P a' (S h) = some (.val t.v (S h)) := by
    unfold chkAtHead at hat
    cases hx : opA t.o.op P t.a ⟨(S h).h, t.s.n⟩ with
    | none => rw [hx] at hat; cases hat
    | some x =>
      rw [hx] at hat
      obtain ⟨s, rfl⟩ := sameRes_val (show sameRes t.v x = true from hat)
      obtain ⟨v, e, hv⟩ := he_op P t.a hc (S h).h t.s.n _ hx
      cases e
      rw [hsame, ← htA]
      exact hv (S h).n
  -- the activation, where the names of the state are
  have hsub : Sub (resP μ (nmIn P ops tels S h q)) (resP μ (nmB S h)) := resP_sub fun b e hb he => ⟨by
    rcases hb with hb | ⟨i, ⟨y, h1, h2, h3, rfl⟩, hbi⟩
    · exact hb
    · have hlt := hlb i y h1 h3 hbi
      have := hT.mono (j := i + 1) (k := h) (by omega) hI.hle
      have hn2 := hT.lays hF h1 h2 h3
      show (S i).n.toNat < (S h).n.toNat
      omega, he⟩
  obtain ⟨μ', u, w', hrun, hg, hv⟩ := opA_sound hP hI.sr (ha.mono hsub) hval
  have hμ : Sub μ' (resP μ (nmB S h)) := fun b e hb => by
    rcases hg.fresh b e hb with q | q
    · exact q
    · have := hg.sr.lt b e hb; omega
  have heq : μ' = resP μ (nmB S h) := by
    funext b
    cases hb : μ' b with
    | some e => exact (hμ b e hb).symm
    | none =>
      cases hb' : resP μ (nmB S h) b with
      | none => rfl
      | some e => rw [hg.ext.sub b e hb'] at hb; cases hb
  subst heq
  exact ⟨u, w', hrun, hI.mild hF hT hq hD hdone (by rw [hc]; decide) (fun _ => by rw [hc]; decide) (hv.mono (resP_sub fun b e hb he => ⟨.inl hb, he⟩)) hg.sr hg.ev⟩
end
end Go.Proofs.Vai
/- Drawn regions, fifteenth part: a heavy operation. -/
namespace Go.Proofs.Vai
open Go Go.RowKit
variable [Env]

section
variable {P : Program} {N : Nat}
theorem next_head (P : Program) (ops : List Oper) : ∀ d h, ops.length - h = d → h ≤ ops.length → ∃ h', h ≤ h' ∧ h' ≤ ops.length ∧ (∀ o, ops[h']? = some o → clsO P o.op = 2) ∧ ∀ e o, h ≤ e → e < h' → ops[e]? = some o → clsO P o.op ≠ 2 := by
  intro d
  induction d with
  | zero =>
    intro h hd hle
    refine ⟨h, Nat.le_refl _, hle, fun o ho => ?_, fun e o h1 h2 => by omega⟩
    have := (List.getElem?_eq_some_iff.1 ho).1
    omega
  | succ d ih =>
    intro h hd hle
    have hlt : h < ops.length := by omega
    have ho : ops[h]? = some ops[h] := List.getElem?_eq_getElem hlt
    by_cases hc : clsO P (ops[h]).op = 2
    · exact ⟨h, Nat.le_refl _, hle, fun o h' => by rw [ho] at h'; cases h'; exact hc, fun e o h1 h2 => by omega⟩
    · obtain ⟨h', h1, h2, h3, h4⟩ := ih (h + 1) (by omega) (by omega)
      refine ⟨h', by omega, h2, h3, fun e o g1 g2 g3 => ?_⟩
      by_cases he : e = h
      · subst he; rw [ho] at g3; cases g3; exact hc
      · exact h4 e o (by omega) g2 g3
theorem SR.pushed {ν : Inj} {σ : St} {w : World} {blk : ABlk} {e : Ent} (h : SR P N ν σ w) (hb : BR P N (upd ν σ.n e) w blk e) (hp : ∀ b' e', ν b' = some e' → e'.a.block ≠ e.a.block) : SR P N (upd ν σ.n e) (σ.push blk) w := by
  have hsub : Sub ν (upd ν σ.n e) := sub_upd (.inl h.fresh)
  have hn : (σ.push blk).n.toNat = σ.n.toNat + 1 := by rw [push_n, Pos.toNat_succ]
  refine ⟨fun x ex hx => ?_, ?_, fun x ex hx => ?_, h.hN, fun g hg => hsub _ _ (h.glob g hg), h.hn, h.base⟩
  · by_cases hxb : x = σ.n
    · subst hxb
      rw [upd_same] at hx
      cases hx
      exact ⟨blk, by rw [push_get, if_pos rfl], hb⟩
    · rw [upd_ne ν e hxb] at hx
      obtain ⟨k, h1, h2⟩ := h.blk x ex hx
      exact ⟨k, by rw [push_get, if_neg (Ne.symm hxb)]; exact h1, h2.keep hsub (Nat.le_refl _) fun _ => rfl⟩
  · intro x y ex ey kx ky hx hy gx gy dx dy hN hxy
    by_cases hxb : x = σ.n
    · by_cases hyb : y = σ.n
      · rw [hxb, hyb]
      · subst hxb
        rw [upd_same] at hx
        cases hx
        rw [upd_ne ν e hyb] at hy
        exact absurd hxy.symm (hp y ey hy)
    · rw [upd_ne ν e hxb] at hx
      by_cases hyb : y = σ.n
      · subst hyb
        rw [upd_same] at hy
        cases hy
        exact absurd hxy (hp x ex hx)
      · rw [upd_ne ν e hyb] at hy
        rw [push_get, if_neg (Ne.symm hxb)] at gx
        rw [push_get, if_neg (Ne.symm hyb)] at gy
        exact h.inj x y ex ey kx ky hx hy gx gy dx dy hN hxy
  · rw [hn]
    by_cases hxb : x = σ.n
    · subst hxb; omega
    · rw [upd_ne ν e hxb] at hx
      have := h.lt x ex hx
      omega
theorem SR.pushNo {ν : Inj} {σ : St} {w : World} {blk : ABlk} (h : SR P N ν σ w) : SR P N ν (σ.push blk) w := by
  have hn : (σ.push blk).n.toNat = σ.n.toNat + 1 := by rw [push_n, Pos.toNat_succ]
  have hne : ∀ x ex, ν x = some ex → σ.n ≠ x := fun x ex hx e => by have := h.fresh; rw [e, hx] at this; cases this
  refine ⟨fun x ex hx => ?_, fun x y ex ey kx ky hx hy gx gy => ?_, fun x ex hx => (by have := h.lt x ex hx; omega), h.hN, h.glob, h.hn, h.base⟩
  · obtain ⟨k, h1, h2⟩ := h.blk x ex hx
    exact ⟨k, by rw [push_get, if_neg (hne x ex hx)]; exact h1, h2⟩
  · rw [push_get, if_neg (hne x ex hx)] at gx
    rw [push_get, if_neg (hne y ey hy)] at gy
    exact h.inj x y ex ey kx ky hx hy gx gy
section
variable {r : Rec} {ops : List Oper} {tels : List Tel} {A : Nat → AAct} {S : Nat → St} {B : Nat → Bool} {μ₀ μ : Inj} {w₀ w : World} {D : Nat → Bool} {h : Nat} {ca : Act}
/-- Low names as the one says, the others as the other. -/
def joinI (n : Nat) (μ₁ μ : Inj) : Inj := fun b => if b.toNat < n then μ₁ b else μ b
theorem joinI_lo {n : Nat} {μ₁ μ : Inj} {b : Pos} (h : b.toNat < n) : joinI n μ₁ μ b = μ₁ b := if_pos h
theorem joinI_hi {n : Nat} {μ₁ μ : Inj} {b : Pos} (h : n ≤ b.toNat) : joinI n μ₁ μ b = μ b := if_neg (Nat.not_lt.2 h)

/-- A HEAVY OPERATION: the next one; then on to the one behind it. -/
theorem Inv.heavy (hF : Fit P ops) (hT : Trc P r ops ops 0 tels A S B) (hI : Inv P N ops tels A S μ₀ w₀ D h μ ca w) {t : Tel} (hq : tels[h]? = some t) (hdone : ∀ j, bit (ahead ops) h j = true → D j = true)
    (hc : clsO P t.o.op = 2) {μ₁ : Inj} {w₁ : World} {u : Value} (hg : Goes P N (resP μ (nmB S h)) (S h) w μ₁ (S (h + 1)) w₁) (hu : VR P μ₁ t.v u) :
    ∃ μ' h', Inv P N ops tels A S μ₀ w₀ (andD D h) h' μ' (ca.put t.o.dst u) w₁ := by
  obtain ⟨hqo, _⟩ := hT.tel h t hq
  have hql := hT.lt hq
  have hDh : D h = false := (hI.nxt t.o hqo).2
  obtain ⟨h', hh1, hh2, hh3, hh4⟩ := next_head P ops _ (h + 1) rfl (by omega)
  let μ' : Inj := joinI (S (h + 1)).n.toNat μ₁ μ
  have hSh : (S h).n.toNat ≤ (S (h + 1)).n.toNat := hg.le
  have hS' : (S (h + 1)).n.toNat ≤ (S h').n.toNat := hT.mono hh1 hh2
  have f1 : Sub μ₁ μ' := fun b e hb => by show joinI _ _ _ b = _; rw [joinI_lo (hg.sr.lt b e hb)]; exact hb
  -- a name that is pending
  have f0 : ∀ j, h < j → j ≤ ops.length → (S (h + 1)).n.toNat ≤ (S j).n.toNat := fun j hj hl => hT.mono hj hl
  have f2 : Sub μ μ' := fun b e hb => by
    rcases hI.dom b e hb with hlo | ⟨j, q1, q2, q3⟩
    · exact f1 b e (hg.ext.sub b e (resP_some.2 ⟨hlo, hb⟩))
    · obtain ⟨y, q3, q4, q5, rfl⟩ := q3
      show joinI _ _ _ _ = _
      rw [joinI_hi (f0 j q2 (Nat.le_of_lt (hT.lt q3)))]
      exact hb
  have f3 : resP μ' (nmB S (h + 1)) = μ₁ := by
    funext b
    unfold resP
    by_cases hb : nmB S (h + 1) b
    · rw [if_pos hb]; exact joinI_lo hb
    · rw [if_neg hb]
      cases hb' : μ₁ b with
      | none => rfl
      | some e => exact absurd (hg.sr.lt b e hb') hb
  -- where the new map's blocks lie
  have f4 : ∀ b e, μ₁ b = some e → w.heap.size ≤ e.a.block ∨ ∃ b₀ e₀, b₀.toNat < (S h).n.toNat ∧ μ b₀ = some e₀ ∧ e₀.a.block = e.a.block := fun b e hb => by
    rcases hg.ext.new b e hb with q | ⟨b₀, e₀, q1, q2⟩
    · exact .inl q
    · obtain ⟨q3, q4⟩ := resP_some.1 q1
      exact .inr ⟨b₀, e₀, q3, q4, q2⟩
  have fp : ∀ j y, D j = true → h < j → tels[j]? = some y → y.w = true → clsO P y.o.op = 1 → ∃ e blk, μ' (S j).n = some e ∧ S (j + 1) = (S j).push blk ∧ isDead blk = false ∧ BR P N (resP μ' (nmOf P ops tels S h j)) w₁ blk e ∧ N ≤ e.a.block ∧
      ∀ b' e', b' ≠ (S j).n → μ' b' = some e' → e'.a.block ≠ e.a.block := by
    intro j y hj hhj hy hw hcl
    obtain ⟨e, blk, p1, p2, p3, p4, p5, p6⟩ := hI.pend j y hj hhj hy hw hcl
    have hjl := hT.lt hy
    have hne : ∀ b₀ e₀, b₀.toNat < (S h).n.toNat → μ b₀ = some e₀ → e₀.a.block ≠ e.a.block := fun b₀ e₀ hlo hb => p6 b₀ e₀ (fun e => by
      have := f0 j hhj (Nat.le_of_lt hjl)
      rw [e] at hlo
      omega) hb
    refine ⟨e, blk, f2 _ _ p1, p2, p3, p4.keep (resP_sub fun b e hb he => ⟨hb, f2 b e he⟩) hg.ev.size fun _ => hI.pendSame hT hg.ev (Nat.le_of_lt hjl) (Nat.le_of_lt hhj) p4 p6, p5, fun b' e' hn hb' => ?_⟩
    by_cases hlo : b'.toNat < (S (h + 1)).n.toNat
    · replace hb' : joinI _ _ _ b' = _ := hb'
      rw [joinI_lo hlo] at hb'
      rcases f4 b' e' hb' with q | ⟨b₀, e₀, q1, q2, q3⟩
      · have := p4.lt; omega
      · rw [← q3]; exact hne b₀ e₀ q1 q2
    · replace hb' : joinI _ _ _ b' = _ := hb'
      rw [joinI_hi (Nat.not_lt.1 hlo)] at hb'
      exact p6 b' e' hn hb'
  have fu : ∀ j y, andD D h j = false → tels[j]? = some y → y.w = true → clsO P y.o.op = 1 → μ' (S j).n = none := by
    intro j y hj hy hw hcl
    have hjh : j ≠ h := fun e => by subst e; rw [andD_same] at hj; cases hj
    rw [andD_ne D hjh] at hj
    have hno := hI.undone j y hj hy hw hcl
    show joinI _ _ _ _ = _
    by_cases hlt : j < h
    · have := hT.mono (j := j + 1) (k := h) hlt (Nat.le_of_lt hql)
      have hl1 := hT.lays hF hy hw hcl
      rw [joinI_lo (by omega)]
      cases hb : μ₁ (S j).n with
      | none => rfl
      | some e =>
        rcases hg.fresh _ e hb with q | q
        · rw [(resP_some.1 q).2] at hno; cases hno
        · omega
    · rw [joinI_hi (f0 j (by omega) (Nat.le_of_lt (hT.lt hy)))]
      exact hno
  -- on to the next
  have along : ∀ d, h + 1 + d ≤ h' → SR P N (resP μ' (nmB S (h + 1 + d))) (S (h + 1 + d)) w₁ := by
    intro d
    induction d with
    | zero => intro _; rw [Nat.add_zero, f3]; exact hg.sr
    | succ d ih =>
      intro hd
      have ih := ih (by omega)
      generalize hjd : h + 1 + d = j at ih
      have hjl : j < ops.length := by omega
      obtain ⟨y, hy⟩ := hT.get hjl
      have hyo := (hT.tel j y hy).1
      rw [show h + 1 + (d + 1) = j + 1 from by omega]
      rcases hT.light hF hy (hh4 j y.o (by omega) (by omega) hyo) with ⟨hyw, hyc, blk, hdd, e⟩ | ⟨_, e⟩
      · rw [e]
        have hnn : (S (j + 1)).n.toNat = (S j).n.toNat + 1 := hT.lays hF hy hyw hyc
        cases hDj : D j with
        | true =>
          obtain ⟨en, blk', p1, p2, p3, p4, p5, p6⟩ := fp j y hDj (by omega) hy hyw hyc
          have hbb : blk' = blk := by
            rw [e] at p2
            have := congrArg (fun s => s.h.get (S j).n) p2
            simp only [push_get, if_true] at this
            exact (Option.some.inj this).symm
          subst hbb
          have hre : resP μ' (nmB S (j + 1)) = upd (resP μ' (nmB S j)) (S j).n en := by
            funext b
            by_cases hb : b = (S j).n
            · subst hb
              rw [upd_same]
              exact resP_some.2 ⟨by show (S j).n.toNat < _; omega, p1⟩
            · rw [upd_ne _ _ hb]
              unfold resP
              have : nmB S (j + 1) b ↔ nmB S j b := by
                show b.toNat < _ ↔ b.toNat < _
                have : b.toNat ≠ (S j).n.toNat := fun e => hb (Pos.toNat_inj e)
                omega
              by_cases hb2 : nmB S j b
              · rw [if_pos hb2, if_pos (this.2 hb2)]
              · rw [if_neg hb2, if_neg (fun q => hb2 (this.1 q))]
          rw [hre]
          refine ih.pushed ?_ fun b' e' hb' => ?_
          · rw [← hre]
            refine p4.keep (resP_sub fun b e hb he => ⟨?_, he⟩) (Nat.le_refl _) fun _ => rfl
            show b.toNat < _
            have hhj := hT.mono (j := h) (k := j) (by omega) (by omega)
            rcases hb with hb | ⟨i, ⟨yi, _, _, _, rfl⟩, rfl | hbi⟩
            · omega
            · omega
            · have := hT.mono (j := i) (k := j) (Nat.le_of_lt (bit_lt j i hbi)) (by omega)
              omega
          · obtain ⟨q1, q2⟩ := resP_some.1 hb'
            refine p6 b' e' (fun e => ?_) q2
            rw [e] at q1
            exact Nat.lt_irrefl _ q1
        | false =>
          have hno := fu j y (by rw [andD_ne D (by omega)]; exact hDj) hy hyw hyc
          have hre : resP μ' (nmB S (j + 1)) = resP μ' (nmB S j) := by
            funext b
            unfold resP
            by_cases hb : b = (S j).n
            · subst hb
              by_cases hb2 : nmB S j (S j).n
              · exact absurd hb2 (Nat.lt_irrefl _)
              · rw [if_neg hb2]
                split
                · exact hno
                · rfl
            · have : nmB S (j + 1) b ↔ nmB S j b := by
                show b.toNat < _ ↔ b.toNat < _
                have : b.toNat ≠ (S j).n.toNat := fun e => hb (Pos.toNat_inj e)
                omega
              by_cases hb2 : nmB S j b
              · rw [if_pos hb2, if_pos (this.2 hb2)]
              · rw [if_neg hb2, if_neg (fun q => hb2 (this.1 q))]
          rw [hre]
          exact ih.pushNo
      · have hre : resP μ' (nmB S (j + 1)) = resP μ' (nmB S j) := by unfold nmB; rw [e]
        rw [hre, e]
        exact ih
  have hsr' : SR P N (resP μ' (nmB S h')) (S h') w₁ := by
    have := along (h' - (h + 1)) (by omega)
    rwa [show h + 1 + (h' - (h + 1)) = h' from by omega] at this
  have hle0 : (S 0).n.toNat ≤ (S h).n.toNat := hT.mono (Nat.zero_le _) hI.hle
  have hu' : VR P (resP μ' (nmOf P ops tels S h' h)) t.v u := hu.mono fun b e hb => resP_some.2 ⟨.inl (Nat.lt_of_lt_of_le (hg.sr.lt b e hb) hS'), f1 b e hb⟩
  obtain ⟨h1, h2⟩ := hI.temps hF hT hq hDh f2 (Nat.le_trans hSh hS') hu'
  refine ⟨μ', h', fun i hi => ?_, fun i j hi hb => ?_, hh2, fun o ho => ⟨hh3 o ho, ?_⟩, fun e o ho hcl => ?_, by rw [put_size]; exact hI.size, by rw [put_dfr]; exact hI.dfr.mono (resP_sub fun b e hb he => ⟨hb, f2 b e he⟩), h1, h2, hsr',
    fun j y hj hhj hy hw hcl => ?_, fun b e hb => ?_, fu, hI.evTrans hg.ev, ⟨hI.ext.sub.trans f2, fun b e hb => ?_⟩, fun b e hb => ?_⟩
  · by_cases hih : i = h
    · subst hih; exact hql
    · rw [andD_ne D hih] at hi; exact hI.lt i hi
  · by_cases hih : i = h
    · subst hih; exact andD_mono (hdone j hb)
    · rw [andD_ne D hih] at hi; exact andD_mono (hI.down i j hi hb)
  · have hlt : h' < ops.length := (List.getElem?_eq_some_iff.1 ho).1
    rw [andD_ne D (by omega)]
    cases hD' : D h' with
    | false => rfl
    | true => have := (hI.hvy h' o ho (hh3 o ho)).1 hD'; omega
  · by_cases heh : e = h
    · subst heh; rw [andD_same]; exact ⟨fun _ => by omega, fun _ => rfl⟩
    · rw [andD_ne D heh, hI.hvy e o ho hcl]
      constructor
      · intro q; omega
      · intro q
        rcases Nat.lt_or_ge e h with q' | q'
        · exact q'
        · exact absurd hcl (hh4 e o (by omega) q ho)
  · have hjh : j ≠ h := by omega
    rw [andD_ne D hjh] at hj
    obtain ⟨e, blk, p1, p2, p3, p4, p5, p6⟩ := fp j y hj (by omega) hy hw hcl
    refine ⟨e, blk, p1, p2, p3, p4.keep (resP_sub fun b e hb he => ⟨hb.imp (fun q => ?_) id, he⟩) (Nat.le_refl _) fun _ => rfl, p5, p6⟩
    omega
  · by_cases hlo : b.toNat < (S (h + 1)).n.toNat
    · exact .inl (Nat.lt_of_lt_of_le hlo hS')
    · replace hb : joinI _ _ _ b = _ := hb
      rw [joinI_hi (Nat.not_lt.1 hlo)] at hb
      rcases hI.dom b e hb with q | ⟨j, q1, q2, q3⟩
      · omega
      · by_cases hjh : h' < j
        · exact .inr ⟨j, andD_mono q1, hjh, q3⟩
        · left
          obtain ⟨y, q3, q4, q5, rfl⟩ := q3
          have hl1 := hT.lays hF q3 q4 q5
          have hjne : j ≠ h' := fun e => by
            subst e
            have := hh3 y.o (hT.tel j y q3).1
            rw [q5] at this; cases this
          have := hT.mono (j := j + 1) (k := h') (by omega) hh2
          omega
  · by_cases hlo : b.toNat < (S (h + 1)).n.toNat
    · replace hb : joinI _ _ _ b = _ := hb
      rw [joinI_lo hlo] at hb
      rcases f4 b e hb with q | ⟨b₀, e₀, q1, q2, q3⟩
      · exact .inl (Nat.le_trans hI.ev.size q)
      · rcases hI.ext.new b₀ e₀ q2 with q | ⟨b₁, e₁, q4, q5⟩
        · exact .inl (q3 ▸ q)
        · exact .inr ⟨b₁, e₁, q4, q5.trans q3⟩
    · replace hb : joinI _ _ _ b = _ := hb
      rw [joinI_hi (Nat.not_lt.1 hlo)] at hb
      exact hI.ext.new b e hb
  · by_cases hlo : b.toNat < (S (h + 1)).n.toNat
    · replace hb : joinI _ _ _ b = _ := hb
      rw [joinI_lo hlo] at hb
      rcases hg.fresh b e hb with q | q
      · exact hI.fresh b e (resP_some.1 q).2
      · exact .inr (Nat.le_trans hle0 q)
    · replace hb : joinI _ _ _ b = _ := hb
      rw [joinI_hi (Nat.not_lt.1 hlo)] at hb
      exact hI.fresh b e hb
end
end
end Go.Proofs.Vai
/- Drawn regions, sixteenth part: THE WHOLE. -/
namespace Go.Proofs.Vai
open Go Go.RowKit
variable [Env]

section
variable {P : Program} {N : Nat}
theorem eqBlk_eq {x y : ABlk} (h : eqBlk x y = true) : x = y := by
  unfold eqBlk at h
  split at h
  · split at h
    · simp only [Bool.and_eq_true] at h
      obtain ⟨⟨h1, h2⟩, h3⟩ := h
      rw [Nat.eq_of_beq_eq_true h1, Nat.eq_of_beq_eq_true h2, eqL_eq (eqAV_eq 12) h3]
    · cases h
  · split at h
    · rfl
    · cases h
  · cases h
theorem eqOB_eq {x y : Option ABlk} (h : eqOB x y = true) {b : ABlk} (hx : x = some b) : y = some b := by
  subst hx
  cases y with
  | none => cases h
  | some y => rw [eqBlk_eq (x := b) (y := y) h]
/-- A guard, its temporary alone. -/
theorem wanted_at {ops : Array Oper} {o : Oper} {a : AAct} {ca : Act} {μ : Inj} {r : Bool} (hv : ∀ (g : Nat × Bool) (p : Oper) (d : Tmp), o.guard = some g → ops[g.1]? = some p → p.dst = some d → VR P μ (a.tmp d) (ca.tmps.getD d undef)) (h : wantedA ops.toList a o.guard = some r) :
    Region.wanted o (yielded ops ca.tmps) = r := by
  unfold Region.wanted
  cases hg : o.guard with
  | none => rw [hg] at h; cases h; rfl
  | some g =>
    rw [hg] at h
    obtain ⟨j, want⟩ := g
    obtain ⟨p, hp, h⟩ := obind_some.1 (show obind (ops.toList[j]?) (fun p => obind p.dst fun d => isBoolA want (a.tmp d)) = some r from h)
    obtain ⟨d, hd, h⟩ := obind_some.1 h
    have hpj : ops[j]? = some p := by simpa using hp
    have hv := hv _ p d hg hpj hd
    simp only
    have hy : yielded ops ca.tmps j = match ca.tmps[d]? with | some (.bool b) => some b | _ => none := by
      unfold yielded
      rw [hpj]
      simp only [Option.bind_some, hd]
      cases ca.tmps[d]? with
      | none => rfl
      | some q => cases q <;> rfl
    rw [hy]
    rcases isBoolA_run h hv with ⟨b, h1, rfl⟩ | ⟨h1, rfl⟩
    · have : ca.tmps[d]? = some (.bool b) := by
        rw [Array.getD_eq_getD_getElem?] at h1
        cases hq : ca.tmps[d]? with
        | none => rw [hq] at h1; cases h1
        | some q => rw [hq] at h1; exact congrArg some h1
      rw [this]
      cases b <;> cases want <;> rfl
    · have : ca.tmps[d]? = none ∨ ca.tmps[d]? = some undef := by
        rw [Array.getD_eq_getD_getElem?] at h1
        cases hq : ca.tmps[d]? with
        | none => exact .inl rfl
        | some q => rw [hq] at h1; exact .inr (congrArg some h1)
      rcases this with h | h <;> rw [h] <;> rfl
section
variable {r : Rec} {ops : Array Oper} {tels : List Tel} {A : Nat → AAct} {S : Nat → St} {B : Nat → Bool} {μ₀ μ : Inj} {w₀ w : World} {D : Nat → Bool} {h : Nat} {ca : Act}
/-- A wanted heavy operation, in the machine. -/
theorem heavy_run (hP : NoNum P) (hr : RecOK P N r) {ops : Array Oper} {q : Nat} {o : Oper} (ho : ops[q]? = some o) {a a' : AAct} {s s1 : St} {v : AV} (hst : StepC P r o a s true v s1) (hsame : ∀ s, opA o.op P a' s = opA o.op P a s) {ν : Inj} (hsr : SR P N ν s w) (ha : AR P ν a' ca)
    {b : Frame} {cs : List Frame} {k : List Item} {rest : List Nat} (hw : Region.wanted o (yielded ops ca.tmps) = true) :
    ∃ μ₁ w₁ V, Goes P N ν s w μ₁ s1 w₁ ∧ VR P μ₁ v V ∧ Steps P (lone (b.atR ca (.inRegion ops (q :: rest) :: k)) cs w) (lone (b.atR (ca.put o.dst V) (.inRegion ops rest :: k)) cs w₁) := by
  have hsem : ∀ {x}, opA o.op P a' s = some x → (∀ d s', x ≠ .defer d s') → o.semAt b.roundOf ca.eval = execOp ca.eval o := fun hx h => Oper.semAt_eq _ _ _ (opA_notDefer hx h)
  have fin : ∀ {m₁ : Machine} {v : AV} {rc : Option AMode} {s1 : St}, Steps P (lone (b.atR ca (.inRegion ops (q :: rest) :: k)) cs w) m₁ → Back P N (b.atR ca (.inRegion ops (q :: rest) :: k)) cs m₁ ν s w (.fin (.returned v) rc s1) →
      ∃ μ₁ w₁ V, Goes P N ν s w μ₁ s1 w₁ ∧ VR P μ₁ v V ∧ Steps P (lone (b.atR ca (.inRegion ops (q :: rest) :: k)) cs w) (lone (b.atR (ca.put o.dst V) (.inRegion ops rest :: k)) cs w₁) := by
    intro m₁ v rc s1 hs hb
    obtain ⟨μ', w', V, hg, hv, hst⟩ := hb
    rw [Frame.finish_atR, show (ops[q]?).bind (·.dst) = o.dst from by rw [ho]; rfl] at hst
    exact ⟨μ', w', V, hg, hv, hs.trans hst⟩
  cases hst with
  | val _ _ hx =>
    rw [← hsame] at hx
    obtain ⟨μ', V, w', hres, hg, hv⟩ := opA_sound hP hsr ha hx
    exact ⟨μ', w', V, hg, hv, .one (step_val ho hw (by rw [hsem hx (by simp)]; exact hres))⟩
  | skip _ hx =>
    rw [← hsame] at hx
    obtain ⟨μ', w', hres, hg⟩ := opA_sound hP hsr ha hx
    exact ⟨μ', w', undef, hg, undef_rel, .one (step_skp ho hw (by rw [hsem hx (by simp)]; exact hres))⟩
  | enter f args s0 v rc s1 hx hq =>
    rw [← hsame] at hx
    obtain ⟨us, hres, rfl, hargs⟩ := opA_sound hP hsr ha hx
    have hb := ((hr.call f args none a s0 _ hq).2 ν w (.norm (b.atR ca (.inRegion ops (q :: rest) :: k) :: cs)) .run us hsr hargs (.norm _ _)).back
    exact fin (.one (step_enter ho hw (by rw [hsem hx (by simp)]; exact hres))) hb
  | round l args s0 v rc s1 hx hq =>
    rw [← hsame] at hx
    obtain ⟨e, us, hl, hres, rfl, hargs⟩ := opA_sound hP hsr ha hx
    obtain ⟨fn, tmps, as, bd, hy, hb⟩ := hr.round l args a s0 _ hq ν w us e hsr hargs hl
    exact fin (.one (step_round ho hw (by rw [hsem hx (by simp), hres]; exact hy))) (hb _ _)
/-- ONE STEP, whichever operation is ready. -/
theorem Inv.step (hP : NoNum P) (hr : RecOK P N r) (hF : Fit P ops.toList) (hT : Trc P r ops.toList ops.toList 0 tels A S B) {hs : List (Nat × Tr ABlk)} (hchk : drawChk P (ahead ops.toList) (clsL P ops.toList 0) hs tels = true) (hhead : (h, (S h).h) ∈ hs)
    (hI : Inv P N ops.toList tels A S μ₀ w₀ D h μ ca w) {q : Nat} {t : Tel} (hq : tels[q]? = some t) (hB : B q = false) (hD : D q = false) (hdone : ∀ j, bit (ahead ops.toList) q j = true → D j = true) (b : Frame) (cs : List Frame) (k : List Item) (rest : List Nat) :
    ∃ μ' h' ca' w', Steps P (lone (b.atR ca (.inRegion ops (q :: rest) :: k)) cs w) (lone (b.atR ca' (.inRegion ops rest :: k)) cs w') ∧ Inv P N ops.toList tels A S μ₀ w₀ (andD D q) h' μ' ca' w' := by
  obtain ⟨hqo, hti, htA, htS, htw, hst, hle, hput⟩ := hT.tel q t hq
  replace htw := htw hB
  replace hst := hst.1 hB
  have hql := hT.lt hq
  have ho : ops[q]? = some t.o := by simpa using hqo
  have hmem : t ∈ tels := List.mem_of_getElem? hq
  have htiq : t.i = q := by omega
  -- the guard
  have hwant : Region.wanted t.o (yielded ops ca.tmps) = t.w := by
    refine wanted_at (P := P) (μ := resP μ (nmOf P ops.toList tels S h q)) (a := A q) (fun g p d hg hp hd => ?_) htw
    have hbit := hF.guard q t.o g hqo hg
    have hgq := bit_lt q g.1 hbit
    obtain ⟨y, hy⟩ := hT.get (k := g.1) (by omega)
    have hyo : y.o = p := by
      have h1 := (hT.tel g.1 y hy).1
      have h2 : ops.toList[g.1]? = some p := by simpa using hp
      rw [h2] at h1
      exact (Option.some.inj h1).symm
    rw [hT.new hF hy (by rw [hyo]; exact hd) q hgq (Nat.le_of_lt hql)]
    refine (hI.done g.1 y d (hdone g.1 hbit) hy (by rw [hyo]; exact hd)).mono (resP_sub fun b e hb he => ⟨?_, he⟩)
    rcases hb with hb | ⟨i, h1, rfl | h2⟩
    · exact .inl hb
    · exact .inr ⟨_, h1, .inr hbit⟩
    · exact .inr ⟨i, h1, .inr (bit_trans q g.1 i hbit h2)⟩
  -- a heavy one is the next
  have hheavy : clsO P t.o.op = 2 → q = h := by
    intro hc
    rcases Nat.lt_trichotomy q h with hl | hl | hl
    · have := (hI.hvy q t.o hqo hc).2 hl
      rw [hD] at this; cases this
    · exact hl
    · have hhl : h < ops.toList.length := by omega
      have hho : ops.toList[h]? = some ops.toList[h] := List.getElem?_eq_getElem hhl
      obtain ⟨h1, h2⟩ := hI.nxt _ hho
      have := hdone h (hF.heavy h q _ t.o hl hho hqo h1 hc)
      rw [h2] at this; cases this
  have hmay : mayBe (ahead ops.toList) t.i h (clsL P ops.toList 0) = true := by
    rw [htiq]
    refine mayBe_of fun x hx hcx => ?_
    obtain ⟨o, g1, hco⟩ := clsL_of hx
    rw [hcx] at hco
    have hcy := hco.symm
    generalize x.1 = e at g1
    refine ⟨fun hb => (hI.hvy e o g1 hcy).1 (hdone e hb), fun hb => ?_⟩
    rcases Nat.lt_or_ge e h with hl | hl
    · have := hI.down e q ((hI.hvy e o g1 hcy).2 hl) hb
      rw [hD] at this; cases this
    · exact hl
  have hsemN : ∀ {x}, opA t.o.op P (A q) (S q) = some x → (∀ d s', x ≠ .defer d s') → t.o.semAt b.roundOf ca.eval = execOp ca.eval t.o := fun hx h => Oper.semAt_eq _ _ _ (opA_notDefer hx h)
  cases hw : t.w with
  | false =>
    have hskip : Steps P (lone (b.atR ca (.inRegion ops (q :: rest) :: k)) cs w) (lone (b.atR (ca.put t.o.dst undef) (.inRegion ops rest :: k)) cs w) := by
      have := stepR_op_skip (P := P) (b := b) (a := ca) (k := k) (cs := cs) (w := w) (ops := ops) (i := q) (rest := rest) (by rw [ho]; simp [hwant, hw])
      rw [show (ops[q]?).bind (·.dst) = t.o.dst from by rw [ho]; rfl] at this
      exact .one this
    have hv : t.v = .undef ∧ S (q + 1) = S q := by
      rw [hw] at hst
      generalize t.v = tv at hst
      generalize S (q + 1) = sq at hst
      cases hst
      exact ⟨rfl, rfl⟩
    by_cases hc : clsO P t.o.op = 2
    · have := hheavy hc
      subst this
      obtain ⟨μ', h', hI'⟩ := hI.heavy hF hT hq hdone hc (μ₁ := resP μ (nmB S q)) (w₁ := w) (u := undef) (by rw [hv.2]; exact hI.sr.stay) (by rw [hv.1]; exact undef_rel)
      exact ⟨μ', h', _, _, hskip, hI'⟩
    · exact ⟨μ, h, _, _, hskip, hI.idle hF hT hq hD hdone hc hw hv.1⟩
  | true =>
    have hspec := drawChk_spec hchk t hmem hw
    rw [hw] at hst hwant
    have stp : ∀ {u : Value} {w' : World}, (execOp ca.eval t.o).run P w = .ok (.value u) w' → ∀ {x}, opA t.o.op P (A q) (S q) = some x → (∀ d s', x ≠ .defer d s') →
        Steps P (lone (b.atR ca (.inRegion ops (q :: rest) :: k)) cs w) (lone (b.atR (ca.put t.o.dst u) (.inRegion ops rest :: k)) cs w') := fun h1 _ hx hn => .one (step_val ho hwant (by rw [hsemN hx hn]; exact h1))
    rcases cls_all P t.o.op with hc | hc | hc | hc | hc
    · -- a read
      obtain ⟨hlb, hat⟩ := chkHeads_spec (hspec.1 hc) _ hhead hmay
      obtain ⟨u, w', h1, h2⟩ := hI.read hP hF hT hq hD hdone hw hc (fun j y hy hcy hb => by
        exact laidBy_spec hlb _ (clsL_mem (P := P) (hT.tel j y hy).1) hcy (by rw [htiq]; exact hb)) hat
      have hx : ∃ v, opA t.o.op P (A q) (S q) = some (.val v (S q)) := by
        generalize t.v = tv at hst
        generalize S (q + 1) = sq at hst
        cases hst with
        | val _ _ hx => obtain ⟨v, e, _⟩ := he_op P (A q) hc (S q).h (S q).n _ hx; cases e; exact ⟨_, hx⟩
        | skip _ hx => obtain ⟨v, e, _⟩ := he_op P (A q) hc (S q).h (S q).n _ hx; cases e
        | enter f args s0 v rc s1 hx _ => obtain ⟨v, e, _⟩ := he_op P (A q) hc (S q).h (S q).n _ hx; cases e
        | round l args s0 v rc s1 hx _ => obtain ⟨v, e, _⟩ := he_op P (A q) hc (S q).h (S q).n _ hx; cases e
      obtain ⟨v, hx⟩ := hx
      exact ⟨μ, h, _, _, stp h1 hx (by simp), h2⟩
    · -- a row
      have hx : opA t.o.op P (A q) (S q) = some (.val t.v (S (q + 1))) := by
        generalize t.v = tv at hst
        generalize S (q + 1) = sq at hst
        cases hst with
        | val _ _ hx => exact hx
        | skip _ hx => obtain ⟨v, blk, _, e, _⟩ := lays_op P (A q) hc (S q) _ hx; cases e
        | enter f args s0 v rc s1 hx _ => obtain ⟨v, blk, _, e, _⟩ := lays_op P (A q) hc (S q) _ hx; cases e
        | round l args s0 v rc s1 hx _ => obtain ⟨v, blk, _, e, _⟩ := lays_op P (A q) hc (S q) _ hx; cases e
      have hrow : q < h → ∀ blk, S (q + 1) = (S q).push blk → (S h).h.get (S q).n = some blk := by
        intro hlt blk hpush
        have hlay := hspec.2 hc
        unfold chkLay at hlay
        rw [htA, htS, hx] at hlay
        have hr := chkRow_spec (show chkRow (ahead ops.toList) (clsL P ops.toList 0) t.i (S q).n (S (q + 1)) _ = true from hlay) _ hhead (by rw [htiq]; exact hlt) hmay
        rw [htiq] at hr
        rcases hr with hr | hr
        · have key : ∀ d, q + 1 + d ≤ h → (S (q + 1 + d)).h.get (S q).n = some blk := by
            intro d
            induction d with
            | zero => intro _; rw [Nat.add_zero, hpush, push_get, if_pos rfl]
            | succ d ih =>
              intro hd
              have ih := ih (by omega)
              generalize hjd : q + 1 + d = j at ih
              have hle := hI.hle
              obtain ⟨y, hy⟩ := hT.get (k := j) (by omega)
              obtain ⟨hyo, hyi, _⟩ := hT.tel j y hy
              have hc2 : clsO P y.o.op ≠ 2 := fun e => by
                have : h ≤ j := calm_spec hr _ (clsL_mem (P := P) hyo) e (show q < j by omega)
                omega
              rw [show q + 1 + (d + 1) = j + 1 from by omega]
              rcases hT.light hF hy hc2 with ⟨_, _, blk', _, e⟩ | ⟨_, e⟩
              · rw [e, push_get, if_neg (fun e => ?_)]
                · exact ih
                · have h1 := hT.mono (j := q + 1) (k := j) (by omega) (by omega)
                  have h2 : (S (q + 1)).n.toNat = (S q).n.toNat + 1 := by rw [hpush, push_n, Pos.toNat_succ]
                  rw [e] at h1
                  omega
              · rw [e]; exact ih
          have := key (h - (q + 1)) (by omega)
          rwa [show q + 1 + (h - (q + 1)) = h from by omega] at this
        · refine eqOB_eq hr ?_
          rw [hpush, push_get, if_pos rfl]
      obtain ⟨μ', u, w', h1, h2⟩ := hI.lay hF hT hq hD hdone hw hc hx hrow
      exact ⟨μ', h, _, _, stp h1 hx (by simp), h2⟩
    · -- a heavy one
      have := hheavy hc
      subst this
      obtain ⟨a', ha, hsame⟩ := hI.mask hF hT hq hD hdone
      have hsub : Sub (resP μ (nmIn P ops.toList tels S q q)) (resP μ (nmB S q)) := resP_sub fun b e hb he => ⟨by
        rcases hb with hb | ⟨i, ⟨y, h1, h2, h3, rfl⟩, hbi⟩
        · exact hb
        · have := bit_lt q i hbi
          have := hT.mono (j := i + 1) (k := q) (by omega) (by omega)
          have := hT.lays hF h1 h2 h3
          show (S i).n.toNat < (S q).n.toNat
          omega, he⟩
      obtain ⟨μ₁, w₁, V, hg, hv, hsteps⟩ := heavy_run hP hr ho hst hsame hI.sr (ha.mono hsub) (b := b) (cs := cs) (k := k) (rest := rest) hwant
      obtain ⟨μ', h', hI'⟩ := hI.heavy hF hT hq hdone hc hg hv
      exact ⟨μ', h', _, _, hsteps, hI'⟩
    · exact absurd hc (hF.cls q t.o hqo)
    · -- nothing of the state
      have hx : ∃ s1, opA t.o.op P (A q) (S q) = some (.val t.v s1) := by
        generalize t.v = tv at hst
        generalize S (q + 1) = sq at hst
        cases hst with
        | val _ _ hx => exact ⟨_, hx⟩
        | skip _ hx => obtain ⟨v, e⟩ := (pu_op P (A q) hc).re (S q) _ hx; cases e
        | enter f args s0 v rc s1 hx _ => obtain ⟨v, e⟩ := (pu_op P (A q) hc).re (S q) _ hx; cases e
        | round l args s0 v rc s1 hx _ => obtain ⟨v, e⟩ := (pu_op P (A q) hc).re (S q) _ hx; cases e
      obtain ⟨s1, hx⟩ := hx
      obtain ⟨u, w', h1, h2⟩ := hI.pure hP hF hT hq hD hdone hc hx
      exact ⟨μ, h, _, _, stp h1 hx (by simp), h2⟩
/-- Where it begins. -/
theorem inv_start (hF : Fit P ops.toList) (hT : Trc P r ops.toList ops.toList 0 tels A S B) (hs : SR P N μ₀ (S 0) w₀) (ha : AR P μ₀ (A 0) ca) : ∃ h, Inv P N ops.toList tels A S μ₀ w₀ (fun _ => false) h μ₀ ca w₀ := by
  obtain ⟨h, _, hh2, hh3, hh4⟩ := next_head P ops.toList _ 0 rfl (Nat.zero_le _)
  have hres : ∀ j, j ≤ ops.toList.length → resP μ₀ (nmB S j) = μ₀ := fun j hj => by
    funext b
    unfold resP
    by_cases hb : nmB S j b
    · rw [if_pos hb]
    · rw [if_neg hb]
      cases hm : μ₀ b with
      | none => rfl
      | some e => exact absurd (Nat.lt_of_lt_of_le (hs.lt b e hm) (hT.mono (Nat.zero_le _) hj)) hb
  have along : ∀ j, j ≤ h → SR P N μ₀ (S j) w₀ := by
    intro j
    induction j with
    | zero => intro _; exact hs
    | succ j ih =>
      intro hj
      have ih := ih (by omega)
      obtain ⟨y, hy⟩ := hT.get (k := j) (by omega)
      rcases hT.light hF hy (hh4 j y.o (Nat.zero_le _) (by omega) (hT.tel j y hy).1) with ⟨_, _, blk, _, e⟩ | ⟨_, e⟩
      · rw [e]; exact ih.pushNo
      · rw [e]; exact ih
  refine ⟨h, (fun i hi => absurd hi (by simp)), (fun i j hi => absurd hi (by simp)), hh2, fun o ho => ⟨hh3 o ho, rfl⟩, fun e o ho hc => ⟨(fun q => absurd q (by simp)), fun q => absurd hc (hh4 e o (Nat.zero_le _) q ho)⟩, ha.size, ?_, (fun i t d hi => absurd hi (by simp)), fun d _ => ?_, ?_, (fun j t hj => absurd hj (by simp)),
    fun b e hb => .inl (Nat.lt_of_lt_of_le (hs.lt b e hb) (hT.mono (Nat.zero_le _) hh2)), fun j t _ ht _ _ => ?_, Ev.refl _ _ _, Ext.refl _ _, fun b e hb => .inl hb⟩
  · rw [hres 0 (Nat.zero_le _)]; exact ha.defers
  · rw [hres 0 (Nat.zero_le _)]; exact ha.tm d
  · rw [hres h hh2]; exact along h (Nat.le_refl _)
  · cases hm : μ₀ (S j).n with
    | none => rfl
    | some e =>
      have := hs.lt _ _ hm
      have := hT.mono (j := 0) (k := j) (Nat.zero_le _) (Nat.le_of_lt (hT.lt ht))
      omega
/-- Where it ends. -/
theorem Inv.end (hF : Fit P ops.toList) (hT : Trc P r ops.toList ops.toList 0 tels A S B) (hs : SR P N μ₀ (S 0) w₀) (hI : Inv P N ops.toList tels A S μ₀ w₀ D h μ ca w) (hall : ∀ i, i < ops.size → D i = true) :
    Goes P N μ₀ (S 0) w₀ μ (S ops.toList.length) w ∧ AR P μ (A ops.toList.length) ca := by
  have hh : h = ops.toList.length := by
    rcases Nat.lt_or_ge h ops.toList.length with hl | hl
    · have := (hI.nxt _ (List.getElem?_eq_getElem hl)).2
      rw [hall h (by simpa using hl)] at this
      cases this
    · exact Nat.le_antisymm hI.hle hl
  have hlt : ∀ b e, μ b = some e → nmB S h b := fun b e hb => by
    rcases hI.dom b e hb with q | ⟨j, _, q, y, hy, _⟩
    · exact q
    · have := hT.lt hy; omega
  have hres : resP μ (nmB S h) = μ := by
    funext b
    unfold resP
    by_cases hb : nmB S h b
    · rw [if_pos hb]
    · rw [if_neg hb]
      cases hm : μ b with
      | none => rfl
      | some e => exact absurd (hlt b e hm) hb
  have hsr := hI.sr
  rw [hres, hh] at hsr
  have hany : ∀ (p : Pos → Prop), Sub (resP μ p) μ := fun p b e hb => (resP_some.1 hb).2
  obtain ⟨e1, e2, e3⟩ := hT.same ops.toList.length (Nat.le_refl _)
  refine ⟨⟨hI.ext, hI.fresh, hT.mono (Nat.zero_le _) (Nat.le_refl _), hI.ev, hsr⟩, ⟨fun d => ?_, by rw [e1]; exact hI.size, by rw [e2]; exact hI.dfr.mono (hany _)⟩⟩
  show VR P μ ((A ops.toList.length).tmp d) _
  by_cases hw : ∃ (j : Nat) (o : Oper), ops.toList[j]? = some o ∧ o.dst = some d
  · obtain ⟨j, o, hj, hd⟩ := hw
    have hjl : j < ops.toList.length := (List.getElem?_eq_some_iff.1 hj).1
    obtain ⟨y, hy⟩ := hT.get hjl
    have hyo : y.o = o := by
      have := (hT.tel j y hy).1
      rw [hj] at this
      exact (Option.some.inj this).symm
    subst hyo
    rw [hT.new hF hy hd _ hjl (Nat.le_refl _)]
    exact (hI.done j y d (hall j (by simpa using hjl)) hy hd).mono (hany _)
  · have hn : ∀ (i : Nat) (o : Oper), ops.toList[i]? = some o → o.dst ≠ some d := fun i o ho hd => hw ⟨i, o, ho, hd⟩
    rw [hT.old _ (Nat.le_refl _) fun j o _ ho => hn j o ho]
    exact (hI.old d fun i o ho hd => absurd hd (hn i o ho)).mono (hany _)
end
end
end Go.Proofs.Vai
/- Drawn regions, seventeenth part: one that panics; THE WHOLE. -/
namespace Go.Proofs.Vai
open Go Go.RowKit
variable [Env]

section
variable {P : Program} {N : Nat}
/-- The operations one by one, or to a way out. -/
theorem draw_loop2 {m : Region.Mode} {ops : Array Oper} (hR : Ranked m ops) {b : Frame} {k : List Item} {cs : List Frame} {I : Array Bool → Act → World → Prop} {Q : Machine → Prop}
    (hstep : ∀ (listed : Array Bool) (ca : Act) (w : World) (i : Nat), I listed ca w → i ∈ Region.ready m ops listed → ∀ rest,
      (∃ ca' w', Steps P (lone (b.atR ca (.inRegion ops (i :: rest) :: k)) cs w) (lone (b.atR ca' (.inRegion ops rest :: k)) cs w') ∧ I (listed.setIfInBounds i true) ca' w') ∨ ∃ m', Q m' ∧ Steps P (lone (b.atR ca (.inRegion ops (i :: rest) :: k)) cs w) m') :
    ∀ (fuel t : Nat) (listed : Array Bool) (ca : Act) (w : World), listed.size = ops.size → unlisted listed = fuel → I listed ca w →
      (∃ listed' ca' w', (∀ i, i < ops.size → listed'.getD i true = true) ∧ I listed' ca' w' ∧ Steps P (lone (b.atR ca (.inRegion ops (Region.linearise.go m ops fuel t listed []) :: k)) cs w) (lone (b.atR ca' k) cs w')) ∨
        ∃ m', Q m' ∧ Steps P (lone (b.atR ca (.inRegion ops (Region.linearise.go m ops fuel t listed []) :: k)) cs w) m' := by
  obtain ⟨ρ, hρ⟩ := hR
  intro fuel
  induction fuel with
  | zero =>
    intro t listed ca w hsz hun hI
    exact .inl ⟨listed, ca, w, fun i hi => unlisted_zero hun (by omega), hI, .one stepR_region_end⟩
  | succ fuel ih =>
    intro t listed ca w hsz hun hI
    obtain ⟨i0, hi0, hl0⟩ := unlisted_pos (listed := listed) (by omega)
    have hne := ready_some hsz hρ (ρ i0) i0 rfl (by omega) hl0
    have hlen : 0 < (Region.ready m ops listed).length := List.length_pos_iff.2 hne
    have hget : (Region.ready m ops listed)[t % (Region.ready m ops listed).length]? = some ((Region.ready m ops listed)[t % (Region.ready m ops listed).length]'(Nat.mod_lt _ hlen)) := List.getElem?_eq_getElem _
    generalize hi : (Region.ready m ops listed)[t % (Region.ready m ops listed).length]'(Nat.mod_lt _ hlen) = i at hget
    have hmem : i ∈ Region.ready m ops listed := by rw [← hi]; exact List.getElem_mem _
    have hgo : Region.linearise.go m ops (fuel + 1) t listed [] = i :: Region.linearise.go m ops fuel (t / (Region.ready m ops listed).length) (listed.setIfInBounds i true) [] := by
      show (match (Region.ready m ops listed)[t % (Region.ready m ops listed).length]? with | some i => Region.linearise.go m ops fuel (t / (Region.ready m ops listed).length) (listed.setIfInBounds i true) [i] | none => [].reverse) = _
      rw [hget]
      show Region.linearise.go m ops fuel (t / (Region.ready m ops listed).length) (listed.setIfInBounds i true) [i] = _
      rw [linearise_go_acc]
      rfl
    rw [hgo]
    rcases hstep listed ca w i hI hmem (Region.linearise.go m ops fuel (t / (Region.ready m ops listed).length) (listed.setIfInBounds i true) []) with ⟨ca₁, w₁, hs, hI₁⟩ | ⟨m', h1, h2⟩
    · have hun₁ := unlisted_set (mem_ready.1 hmem).1
      rcases ih (t / (Region.ready m ops listed).length) (listed.setIfInBounds i true) ca₁ w₁ (by simpa using hsz) (by omega) hI₁ with ⟨listed', ca', w', h1, h2, h3⟩ | ⟨m', h1, h2⟩
      · exact .inl ⟨listed', ca', w', h1, h2, hs.trans h3⟩
      · exact .inr ⟨m', h1, hs.trans h2⟩
    · exact .inr ⟨m', h1, h2⟩

/-! ### The trace behind one that panics -/
theorem panPut_some {o : Oper} {k : Nat → AAct → St → Option (List Tel)} {i : Nat} {a : AAct} {s : St} {w : Bool} {v : AV} {s' : St} {q : List Tel} (h : panPut o k i a s w v s' = some q) :
    s.n.toNat ≤ s'.n.toNat ∧ ∃ a' q', a.put o.dst v = some a' ∧ k (i + 1) a' s' = some q' ∧ q = ⟨i, o, a, s, w, v⟩ :: q' := by
  obtain ⟨h1, h2⟩ := cnd_none.1 h
  rw [toN_eq, toN_eq] at h1
  obtain ⟨a', h3, h4⟩ := obind_some.1 h2
  obtain ⟨q', h5, h6⟩ := omap_some.1 h4
  exact ⟨Nat.le_of_ble_eq_true h1, a', q', h3, h5, h6.symm⟩
def isB (b : List Nat) (n i : Nat) : Bool := Nat.beq i n || bit b i n
theorem panOps_trc {r : Rec} {all : List Oper} {b : List Nat} {n : Nat} : ∀ (l : List Oper) (i : Nat) (a : AAct) (s : St) (q : List Tel), panOps P all b n l i a s = some q →
    ∃ A S, A 0 = a ∧ S 0 = s ∧ Trc P r all l i q A S fun k => isB b n (i + k)
  | [], i, a, s, q, h => by
    cases h
    exact ⟨fun _ => a, fun _ => s, rfl, rfl, rfl, fun k t h => by simp at h⟩
  | o :: l, i, a, s, q, h => by
    replace h : cnd (isB b n i) (panPut o (panOps P all b n l) i a s false .undef s) (obind (wantedA all a o.guard) (panOp P o (panOps P all b n l) i a s)) = some q := h
    have key : ∃ w v s1, (isB b n i = false → wantedA all a o.guard = some w) ∧ ((isB b n i = false → StepC P r o a s w v s1) ∧ (isB b n i = true → w = false ∧ v = .undef ∧ s1 = s)) ∧ panPut o (panOps P all b n l) i a s w v s1 = some q := by
      cases hB : isB b n i with
      | true =>
        rw [hB] at h
        exact ⟨false, .undef, s, (fun e => by cases e), ⟨(fun e => by cases e), fun _ => ⟨rfl, rfl, rfl⟩⟩, h⟩
      | false =>
        rw [hB] at h
        obtain ⟨w, hw, h⟩ := obind_some.1 (show obind (wantedA all a o.guard) (panOp P o (panOps P all b n l) i a s) = some q from h)
        cases w with
        | false => exact ⟨false, .undef, s, fun _ => hw, ⟨fun _ => .no, (fun e => by cases e)⟩, h⟩
        | true =>
          obtain ⟨x, hx, h⟩ := obind_some.1 (show obind (opA o.op P a s) (panRes o (panOps P all b n l) i a s) = some q from h)
          cases x with
          | val v s1 => exact ⟨true, v, s1, fun _ => hw, ⟨fun _ => .val v s1 hx, (fun e => by cases e)⟩, h⟩
          | _ => cases h
    obtain ⟨w, v, s1, hw, hst, hp⟩ := key
    obtain ⟨hle, a', q', h3, h5, rfl⟩ := panPut_some hp
    obtain ⟨A, S, rfl, rfl, hT⟩ := panOps_trc l (i + 1) a' s1 q' h5
    refine ⟨fun k => match k with | 0 => a | k + 1 => A k, fun k => match k with | 0 => s | k + 1 => S k, rfl, rfl, congrArg (· + 1) hT.len, fun k t ht => ?_⟩
    cases k with
    | zero =>
      simp at ht
      subst ht
      exact ⟨rfl, rfl, rfl, rfl, hw, hst, hle, h3⟩
    | succ k =>
      obtain ⟨g1, g2, g3, g4, g5, g6, g7, g8⟩ := hT.tel k t (by simpa using ht)
      have e : i + (k + 1) = i + 1 + k := by omega
      refine ⟨by simpa using g1, by omega, g3, g4, ?_, ?_, g7, g8⟩
      · rw [e]; exact g5
      · rw [e]; exact g6
theorem Trc.append {r : Rec} {all l1 l2 : List Oper} {i : Nat} {t1 t2 : List Tel} {A1 A2 : Nat → AAct} {S1 S2 : Nat → St} {B : Nat → Bool} (h1 : Trc P r all l1 i t1 A1 S1 B) (h2 : Trc P r all l2 (i + l1.length) t2 A2 S2 fun k => B (l1.length + k))
    (hA : A1 l1.length = A2 0) (hS : S1 l1.length = S2 0) :
    Trc P r all (l1 ++ l2) i (t1 ++ t2) (fun k => if k < l1.length then A1 k else A2 (k - l1.length)) (fun k => if k < l1.length then S1 k else S2 (k - l1.length)) B := by
  refine ⟨by simp [h1.len, h2.len], fun k t ht => ?_⟩
  by_cases hk : k < l1.length
  · rw [List.getElem?_append_left (by rw [h1.len]; exact hk)] at ht
    obtain ⟨g1, g2, g3, g4, g5, g6, g7, g8⟩ := h1.tel k t ht
    have eA : (if k + 1 < l1.length then A1 (k + 1) else A2 (k + 1 - l1.length)) = A1 (k + 1) := by
      by_cases hk1 : k + 1 < l1.length
      · rw [if_pos hk1]
      · rw [if_neg hk1, show k + 1 = l1.length by omega, Nat.sub_self, hA]
    have eS : (if k + 1 < l1.length then S1 (k + 1) else S2 (k + 1 - l1.length)) = S1 (k + 1) := by
      by_cases hk1 : k + 1 < l1.length
      · rw [if_pos hk1]
      · rw [if_neg hk1, show k + 1 = l1.length by omega, Nat.sub_self, hS]
    simp only [if_pos hk, eA, eS]
    exact ⟨by rw [List.getElem?_append_left hk]; exact g1, g2, g3, g4, g5, g6, g7, g8⟩
  · rw [List.getElem?_append_right (by rw [h1.len]; omega), h1.len] at ht
    obtain ⟨g1, g2, g3, g4, g5, g6, g7, g8⟩ := h2.tel _ t ht
    have e1 : l1.length + (k - l1.length) = k := by omega
    have e2 : k + 1 - l1.length = k - l1.length + 1 := by omega
    simp only [e1] at g5 g6
    simp only [if_neg hk, if_neg (show ¬ k + 1 < l1.length by omega), e2]
    exact ⟨by rw [List.getElem?_append_right (by omega)]; exact g1, by omega, g3, g4, g5, g6, g7, g8⟩

/-! ### What is known no longer -/
theorem badT_get {d : Nat} : ∀ (l : List Oper) (t : Tr AV), (∃ o, o ∈ l ∧ o.dst = some d) ∧ (badT l t).get (pos d) = some .bad ∨ ((badT l t).get (pos d) = t.get (pos d) ∧ ∀ o ∈ l, o.dst ≠ some d)
  | [], t => .inr ⟨rfl, fun _ h => by cases h⟩
  | o :: l, t => by
    have key : badT (o :: l) t = badT l (@Option.rec Tmp (fun _ => Tr AV) t (fun d => t.set (pos d) .bad) o.dst) := rfl
    rw [key]
    rcases badT_get (d := d) l (@Option.rec Tmp (fun _ => Tr AV) t (fun d => t.set (pos d) .bad) o.dst) with ⟨⟨o', h1, h2⟩, h3⟩ | ⟨h1, h2⟩
    · exact .inl ⟨⟨o', List.mem_cons_of_mem _ h1, h2⟩, h3⟩
    · rw [h1]
      cases hd : o.dst with
      | none =>
        refine .inr ⟨rfl, fun o' ho => ?_⟩
        cases ho with
        | head => rw [hd]; exact fun e => by cases e
        | tail _ ho => exact h2 o' ho
      | some x =>
        by_cases hx : x = d
        · subst hx
          exact .inl ⟨⟨o, List.mem_cons_self .., hd⟩, get_set_same _ _ _⟩
        · refine .inr ⟨get_set_ne _ _ (fun e => hx (pos_inj e)), fun o' ho => ?_⟩
          cases ho with
          | head => rw [hd]; exact fun e => hx (Option.some.inj e)
          | tail _ ho => exact h2 o' ho

section
variable {r : Rec} {ops : Array Oper} {tels : List Tel} {A : Nat → AAct} {S : Nat → St} {B : Nat → Bool} {μ₀ μ : Inj} {w₀ w : World} {D : Nat → Bool} {h : Nat} {ca : Act}
theorem pan_heavy (hF : Fit P ops.toList) {o : Oper} {n : Nat} (ho : ops.toList[n]? = some o) {a : AAct} {s s1 : St} {c : AChain} (hp : PanC P r o a s c s1) : clsO P o.op = 2 := by
  have h3 := hF.cls n o ho
  have key : ∀ x, opA o.op P a s = some x → (∀ v s', x ≠ .val v s') → clsO P o.op = 2 := by
    intro x hx hn
    rcases cls_all P o.op with h | h | h | h | h
    · obtain ⟨v, e⟩ := re_op P a h s x hx; exact absurd e (hn _ _)
    · obtain ⟨v, blk, _, e, _⟩ := lays_op P a h s x hx; exact absurd e (hn _ _)
    · exact h
    · exact absurd h h3
    · obtain ⟨v, e⟩ := (pu_op P a h).re s x hx; exact absurd e (hn _ _)
  cases hp with
  | enter f args s0 c rc s1 hx _ => exact key _ hx (by simp)
  | round l args s0 c rc s1 hx _ => exact key _ hx (by simp)
/-- THE ONE THAT PANICS. -/
theorem Inv.panics (hP : NoNum P) (hr : RecOK P N r) (hF : Fit P ops.toList) (hT : Trc P r ops.toList ops.toList 0 tels A S B) (hs0 : SR P N μ₀ (S 0) w₀) (hI : Inv P N ops.toList tels A S μ₀ w₀ D h μ ca w) {t : Tel} (hq : tels[h]? = some t)
    (hdone : ∀ j, bit (ahead ops.toList) h j = true → D j = true) (hwt : wantedA ops.toList (A h) t.o.guard = some true) {c : AChain} {s1 : St} (hp : PanC P r t.o (A h) (S h) c s1) (b : Frame) (cs : List Frame) (k : List Item) (rest : List Nat) :
    ∃ μ₁ w₁ C k1, Goes P N μ₀ (S 0) w₀ μ₁ s1 w₁ ∧ AR P μ₁ (badA ops.toList (A h)) ca ∧ ChR P μ₁ c C ∧ Steps P (lone (b.atR ca (.inRegion ops (h :: rest) :: k)) cs w) (lone ((b.atR ca k1).raise C) cs w₁) := by
  obtain ⟨hqo, _⟩ := hT.tel h t hq
  have hql := hT.lt hq
  have ho : ops[h]? = some t.o := by simpa using hqo
  have hw : Region.wanted t.o (yielded ops ca.tmps) = true := by
    refine wanted_at (P := P) (μ := resP μ (nmOf P ops.toList tels S h h)) (a := A h) (fun g p d hg hp hd => ?_) hwt
    have hbit := hF.guard h t.o g hqo hg
    have hgq := bit_lt h g.1 hbit
    obtain ⟨y, hy⟩ := hT.get (k := g.1) (by omega)
    have hyo : y.o = p := by
      have h1 := (hT.tel g.1 y hy).1
      have h2 : ops.toList[g.1]? = some p := by simpa using hp
      rw [h2] at h1
      exact (Option.some.inj h1).symm
    rw [hT.new hF hy (by rw [hyo]; exact hd) h hgq (Nat.le_of_lt hql)]
    refine (hI.done g.1 y d (hdone g.1 hbit) hy (by rw [hyo]; exact hd)).mono (resP_sub fun b e hb he => ⟨?_, he⟩)
    rcases hb with hb | ⟨i, h1, rfl | h2⟩
    · exact .inl hb
    · exact .inr ⟨_, h1, .inr hbit⟩
    · exact .inr ⟨i, h1, .inr (bit_trans h g.1 i hbit h2)⟩
  obtain ⟨a', ha, hsame⟩ := hI.mask hF hT hq (hI.nxt t.o hqo).2 hdone
  have hsub : Sub (resP μ (nmIn P ops.toList tels S h h)) (resP μ (nmB S h)) := resP_sub fun b e hb he => ⟨by
    rcases hb with hb | ⟨i, ⟨y, h1, h2, h3, rfl⟩, hbi⟩
    · exact hb
    · have := bit_lt h i hbi
      have := hT.mono (j := i + 1) (k := h) (by omega) (by omega)
      have := hT.lays hF h1 h2 h3
      show (S i).n.toNat < (S h).n.toNat
      omega, he⟩
  replace ha := ha.mono hsub
  have hsem : ∀ {x}, opA t.o.op P a' (S h) = some x → (∀ d s', x ≠ .defer d s') → t.o.semAt b.roundOf ca.eval = execOp ca.eval t.o := fun hx h => Oper.semAt_eq _ _ _ (opA_notDefer hx h)
  have back : ∃ μ₁ w₁ C, Goes P N (resP μ (nmB S h)) (S h) w μ₁ s1 w₁ ∧ ChR P μ₁ c C ∧ Steps P (lone (b.atR ca (.inRegion ops (h :: rest) :: k)) cs w) (lone ((b.atR ca (.inRegion ops (h :: rest) :: k)).raise C) cs w₁) := by
    cases hp with
    | enter f args s0 c rc s1 hx hq =>
      rw [← hsame] at hx
      obtain ⟨us, hres, rfl, hargs⟩ := opA_sound hP hI.sr ha hx
      obtain ⟨μ', w', C, hg, hc, hst⟩ := ((hr.call f args none (A h) (S h) _ hq).2 (resP μ (nmB S h)) w (.norm (b.atR ca (.inRegion ops (h :: rest) :: k) :: cs)) .run us hI.sr hargs (.norm _ _)).back
      exact ⟨μ', w', C, hg, hc, .head (step_enter ho hw (by rw [hsem hx (by simp)]; exact hres)) hst⟩
    | round l args s0 c rc s1 hx hq =>
      rw [← hsame] at hx
      obtain ⟨e, us, hl, hres, rfl, hargs⟩ := opA_sound hP hI.sr ha hx
      obtain ⟨fn, tmps, as, bd, hy, hb⟩ := hr.round l args (A h) (S h) _ hq (resP μ (nmB S h)) w us e hI.sr hargs hl
      obtain ⟨μ', w', C, hg, hc, hst⟩ := hb (b.atR ca (.inRegion ops (h :: rest) :: k)) cs
      exact ⟨μ', w', C, hg, hc, .head (step_round ho hw (by rw [hsem hx (by simp), hres]; exact hy)) hst⟩
  obtain ⟨μ₁, w₁, C, hg, hc, hst⟩ := back
  have hle0 : (S 0).n.toNat ≤ (S h).n.toNat := hT.mono (Nat.zero_le _) (Nat.le_of_lt hql)
  have hs1 : Sub μ₀ μ₁ := fun b e hb => hg.ext.sub b e (resP_some.2 ⟨Nat.lt_of_lt_of_le (hs0.lt b e hb) hle0, hI.ext.sub b e hb⟩)
  have hsn : Sub (resP μ (nmB S 0)) μ₁ := fun b e hb => by
    obtain ⟨h1, h2⟩ := resP_some.1 hb
    exact hg.ext.sub b e (resP_some.2 ⟨Nat.lt_of_lt_of_le h1 hle0, h2⟩)
  obtain ⟨e1, e2, e3⟩ := hT.same h (Nat.le_of_lt hql)
  refine ⟨μ₁, w₁, C, _, ⟨⟨hs1, fun b e hb => ?_⟩, fun b e hb => ?_, Nat.le_trans hle0 hg.le, hI.evTrans hg.ev, hg.sr⟩, ⟨fun d => ?_, ?_, ?_⟩, hc, hst⟩
  · rcases hg.ext.new b e hb with q | ⟨b₀, e₀, q1, q2⟩
    · exact .inl (Nat.le_trans hI.ev.size q)
    · rcases hI.ext.new b₀ e₀ (resP_some.1 q1).2 with q | ⟨b₁, e₁, q3, q4⟩
      · exact .inl (q2 ▸ q)
      · exact .inr ⟨b₁, e₁, q3, q4.trans q2⟩
  · rcases hg.fresh b e hb with q | q
    · exact hI.fresh b e (resP_some.1 q).2
    · exact .inr (Nat.le_trans hle0 q)
  · have hget : (badA ops.toList (A h)).tm = badT ops.toList (A h).tm := by generalize A h = a; cases a; rfl
    rw [hget]
    rcases badT_get (d := d) ops.toList (A h).tm with ⟨_, e⟩ | ⟨e, hn⟩
    · rw [e]; exact .bad _
    · rw [e]
      have hn' : ∀ (i : Nat) (o : Oper), ops.toList[i]? = some o → o.dst ≠ some d := fun i o ho => hn o (List.mem_of_getElem? ho)
      have := hI.old d fun i o ho hd => absurd hd (hn' i o ho)
      rw [← hT.old h (Nat.le_of_lt hql) fun j o _ ho => hn' j o ho] at this
      exact this.mono hsn
  · have : (badA ops.toList (A h)).n = (A h).n := by generalize A h = a; cases a; rfl
    rw [this, e1]; exact hI.size
  · have : (badA ops.toList (A h)).defers = (A h).defers := by generalize A h = a; cases a; rfl
    rw [this, e2]; exact hI.dfr.mono hsn
end
theorem badA_rc (l : List Oper) (a : AAct) : (badA l a).rc = a.rc := by cases a; rfl
/-- A DRAWN REGION. -/
theorem drawn_all (hP : NoNum P) : Drawn P N := by
  intro r hr id ops rd a s o h μ w b X u k ca hs ha hX hk hrd hf
  obtain ⟨hok, h⟩ := cnd_none.1 (show cnd (drawOk P ops.toList) (obind (drawOps P ops.toList r ops.toList 0 a s) (drawEnd P ops.toList)) none = some o from h)
  obtain ⟨q, hq, hE⟩ := obind_some.1 h
  clear h
  have hF := fit_of hok
  obtain ⟨A, S, rfl, rfl, hlen, hEnd, hT0⟩ := drawOps_trc _ _ _ _ _ hq
  -- the draw
  let w₀ : World := { w with drawn := w.drawn + 1 }
  have hk0 : Kept w w₀ := ⟨rfl, rfl, rfl, Nat.le_refl _, fun _ _ => rfl⟩
  have hs0 : SR P N μ (S 0) w₀ := hs.kept hk0
  have hg0 : Goes P N μ (S 0) w μ (S 0) w₀ := ⟨Ext.refl _ _, fun _ _ h => .inl h, Nat.le_refl _, ⟨rfl, rfl, rfl, Nat.le_refl _, fun _ _ _ => rfl⟩, hs0⟩
  obtain ⟨m, t', hsch, hR, hbinds⟩ := sched_of hF (P.follows .mixedOrders) (w.tape w.drawn (.order b.fn id))
  have hempty : unlisted (Array.replicate ops.size false) = ops.size := by
    unfold unlisted
    simp
  have hstep0 : Steps P (lone (b.atR ca (.code (.region id ops true) :: k)) (X.cs u) w) (lone (b.atR ca (.inRegion ops (Region.linearise m ops t') :: k)) (X.cs u) w₀) := by
    rw [← hsch]
    exact .one stepR_region_draw
  have hD0 : ∀ i, false = (Array.replicate ops.size false).getD i false := fun i => by
    rw [Array.getD_eq_getD_getElem?]
    cases hx : (Array.replicate ops.size false)[i]? with
    | none => rfl
    | some x =>
      have := Array.mem_of_getElem? hx
      simp at this
      rw [this.2]; rfl
  -- what is ready
  have ready : ∀ {D : Nat → Bool} {tels : List Tel} {A : Nat → AAct} {S : Nat → St} {B : Nat → Bool} {h : Nat} {μ' : Inj} {ca : Act} {w : World} {listed : Array Bool} {i : Nat}, Trc P r ops.toList ops.toList 0 tels A S B → listed.size = ops.size → (∀ i, D i = listed.getD i false) →
      Inv P N ops.toList tels A S μ w₀ D h μ' ca w → i ∈ Region.ready m ops listed → ∃ t, tels[i]? = some t ∧ D i = false ∧ (∀ j, bit (ahead ops.toList) i j = true → D j = true) ∧ i < ops.size := by
    intro D tels A S B h μ' ca w listed i hT hsz hDl hI hready
    obtain ⟨hnl, o, ho, hedge⟩ := mem_ready.1 hready
    have hi : i < ops.size := (Array.getElem?_eq_some_iff.1 ho).1
    obtain ⟨t, ht⟩ := hT.get (k := i) (by simpa using hi)
    refine ⟨t, ht, ?_, fun j hb => ?_, hi⟩
    · rw [hDl]
      rw [Array.getD_eq_getD_getElem?, Array.getElem?_eq_getElem (by omega)] at hnl ⊢
      simpa using hnl
    · obtain ⟨e, he, hbi, hlt, hor⟩ := bit_edge (ops := ops.toList) (by simpa using ho) hb
      have hDe : D e.on = true := by rw [hDl]; exact hedge e (by simpa using he) (hbinds e hbi)
      rcases hor with rfl | hor
      · exact hDe
      · exact hI.down e.on j hDe hor
  have andD_l : ∀ {D : Nat → Bool} {listed : Array Bool} {i : Nat}, listed.size = ops.size → i < ops.size → (∀ i, D i = listed.getD i false) → ∀ j, andD D i j = (listed.setIfInBounds i true).getD j false := by
    intro D listed i hsz hi hDl j
    by_cases hj : j = i
    · subst hj
      rw [andD_same, Array.getD_eq_getD_getElem?, Array.getElem?_setIfInBounds_self_of_lt (by omega)]
      rfl
    · rw [andD_ne D hj, hDl, Array.getD_eq_getD_getElem?, Array.getD_eq_getD_getElem?, Array.getElem?_setIfInBounds_ne (Ne.symm hj)]
  cases hq2 : q.2 with
  | done a' s' =>
    rw [hq2] at hEnd
    obtain ⟨hn, hAn, hSn⟩ := hEnd
    have h : cnd (drawChk P (ahead ops.toList) (clsL P ops.toList 0) (heads P ops.toList.length s' q.1) q.1) (some (.at .normal a' s')) none = some o := by
      have h : drawEnd P ops.toList q = some o := hE
      unfold drawEnd at h
      rw [hq2] at h
      exact h
    obtain ⟨hchk, h⟩ := cnd_none.1 h
    cases h
    rw [hn] at hAn hSn
    rw [hn, List.take_length] at hT0
    have hT := hT0
    rw [← hSn] at hchk
    rw [← hAn, ← hSn]
    obtain ⟨h0, hI0⟩ := inv_start hF hT hs0 ha
    have hhead : ∀ {D : Nat → Bool} {h : Nat} {μ' : Inj} {ca : Act} {w : World}, Inv P N ops.toList q.1 A S μ w₀ D h μ' ca w → (h, (S h).h) ∈ heads P ops.toList.length (S ops.toList.length) q.1 := by
      intro D h μ' ca w hI
      obtain ⟨m1, m2⟩ := heads_mem (P := P) (n := ops.toList.length) (s := S ops.toList.length) (l := q.1)
      rcases Nat.lt_or_ge h ops.toList.length with hl | hl
      · obtain ⟨y, hy⟩ := hT.get hl
        obtain ⟨g1, g2, _, g4, _⟩ := hT.tel h y hy
        have := m2 y (List.mem_of_getElem? hy) (hI.nxt y.o g1).1
        rw [g4] at this
        rwa [show y.i = h from by omega] at this
      · have : h = ops.toList.length := Nat.le_antisymm hI.hle hl
        rw [this]
        exact m1
    obtain ⟨listed, ca', w', hall, ⟨hsz, D, h', μ', hDl, hI⟩, hsteps⟩ := draw_loop (P := P) hR (b := b) (k := k) (cs := X.cs u)
      (I := fun listed ca w => listed.size = ops.size ∧ ∃ D h μ', (∀ i, D i = listed.getD i false) ∧ Inv P N ops.toList q.1 A S μ w₀ D h μ' ca w)
      (fun listed ca w i hI hready rest => by
        obtain ⟨hsz, D, h, μ', hDl, hI⟩ := hI
        obtain ⟨t, ht, hD, hdone, hi⟩ := ready hT hsz hDl hI hready
        obtain ⟨μ₂, h₂, ca₂, w₂, hst, hI₂⟩ := hI.step hP hr hF hT hchk (hhead hI) ht rfl hD hdone b (X.cs u) k rest
        exact ⟨ca₂, w₂, hst, by simpa using hsz, andD D i, h₂, μ₂, andD_l hsz hi hDl, hI₂⟩)
      ops.size t' (Array.replicate ops.size false) ca w₀ (by simp) hempty ⟨by simp, _, h0, μ, hD0, hI0⟩
    obtain ⟨hg, hA⟩ := hI.end hF hT hs0 fun i hi => by
      rw [hDl, Array.getD_eq_getD_getElem?, Array.getElem?_eq_getElem (by omega)]
      have := hall i hi
      rw [Array.getD_eq_getD_getElem?, Array.getElem?_eq_getElem (by omega)] at this
      simpa using this
    have hrc := (hT.same ops.toList.length (Nat.le_refl _)).2.2
    exact ⟨μ', w', ca', u, hg0.trans hg, hA, by rw [hrc]; exact hX.mono hg.ext.sub, hstep0.trans hsteps⟩
  | pan p a' s' c s1 =>
    rw [hq2] at hEnd
    obtain ⟨hpn, hAn, hSn, hwn, hpc⟩ := hEnd
    generalize hnn : q.1.length = n at *
    have hnl : n < ops.toList.length := (List.getElem?_eq_some_iff.1 hpn).1
    have h : drawPan P ops.toList q.1 n a' s' c s1 = some o := by
      have h : drawEnd P ops.toList q = some o := hE
      unfold drawEnd at h
      rw [hq2] at h
      rw [← hnn]
      exact h
    obtain ⟨us, hus, h⟩ := obind_some.1 h
    obtain ⟨hchk, h⟩ := cnd_none.1 (show cnd (drawChk P (ahead ops.toList) (clsL P ops.toList 0) (heads P n s' q.1) (q.1 ++ us)) (some (.at (.panic c) (badA ops.toList a') s1)) none = some o from h)
    cases h
    obtain ⟨A2, S2, hA2, hS2, hT2⟩ := panOps_trc (r := r) _ _ _ _ _ hus
    have htl : (ops.toList.take n).length = n := by rw [List.length_take]; omega
    have hT1 : Trc P r ops.toList (ops.toList.take n) 0 q.1 A S (isB (ahead ops.toList) n) := by
      refine ⟨hT0.len, fun k t ht => ?_⟩
      obtain ⟨g1, g2, g3, g4, g5, g6, g7, g8⟩ := hT0.tel k t ht
      have hkn : k < n := by rw [← hnn]; exact (List.getElem?_eq_some_iff.1 ht).1
      have hB : isB (ahead ops.toList) n k = false := by
        unfold isB
        rw [Bool.or_eq_false_iff]
        refine ⟨by cases hb : Nat.beq k n with
        | false => rfl
        | true => have := Nat.eq_of_beq_eq_true hb; omega, ?_⟩
        cases hb : bit (ahead ops.toList) k n with
        | false => rfl
        | true => have := bit_lt k n hb; omega
      exact ⟨g1, g2, g3, g4, fun _ => g5 rfl, ⟨fun _ => g6.1 rfl, fun e => by rw [hB] at e; cases e⟩, g7, g8⟩
    have hT := hT1.append (l2 := ops.toList.drop n) (t2 := us) (A2 := A2) (S2 := S2) (by rw [htl, Nat.zero_add]; exact hT2) (by rw [htl, hA2, hAn]) (by rw [htl, hS2, hSn])
    rw [List.take_append_drop] at hT
    rw [htl] at hT
    generalize hAA : (fun k => if k < n then A k else A2 (k - n)) = AA at hT
    generalize hSS : (fun k => if k < n then S k else S2 (k - n)) = SS at hT
    have lo : ∀ k, k ≤ n → AA k = A k ∧ SS k = S k := fun k hk => by
      rw [← hAA, ← hSS]
      by_cases hkn : k < n
      · simp only [if_pos hkn, and_self]
      · have : k = n := by omega
        subst this
        simp only [Nat.lt_irrefl, if_false, Nat.sub_self, hA2, hS2, hAn, hSn, and_self]
    have hA0 := (lo 0 (Nat.zero_le _)).1
    have hS0 := (lo 0 (Nat.zero_le _)).2
    obtain ⟨hAnn, hSnn⟩ := lo n (Nat.le_refl _)
    rw [← hA0] at ha
    rw [← hS0] at hs0 hg0
    obtain ⟨h0, hI0⟩ := inv_start hF hT hs0 ha
    have hp2 := pan_heavy hF hpn hpc
    obtain ⟨tn, htn⟩ := hT.get hnl
    have htno : tn.o = p := by
      have := (hT.tel n tn htn).1
      rw [hpn] at this
      exact (Option.some.inj this).symm
    have hle : ∀ {D : Nat → Bool} {h : Nat} {μ' : Inj} {ca : Act} {w : World}, Inv P N ops.toList (q.1 ++ us) AA SS μ w₀ D h μ' ca w → D n = false → h ≤ n := by
      intro D h μ' ca w hI hDn
      rcases Nat.lt_or_ge n h with hl | hl
      · rw [(hI.hvy n p hpn hp2).2 hl] at hDn; cases hDn
      · exact hl
    have hhead : ∀ {D : Nat → Bool} {h : Nat} {μ' : Inj} {ca : Act} {w : World}, Inv P N ops.toList (q.1 ++ us) AA SS μ w₀ D h μ' ca w → D n = false → (h, (SS h).h) ∈ heads P n s' q.1 := by
      intro D h μ' ca w hI hDn
      obtain ⟨m1, m2⟩ := heads_mem (P := P) (n := n) (s := s') (l := q.1)
      have hhn := hle hI hDn
      rcases Nat.lt_or_ge h n with hl | hl
      · obtain ⟨y, hy⟩ : ∃ y, q.1[h]? = some y := ⟨_, List.getElem?_eq_getElem (by rw [hnn]; exact hl)⟩
        obtain ⟨g1, g2, _, g4, _⟩ := hT1.tel h y hy
        rw [List.getElem?_take, if_pos hl] at g1
        have := m2 y (List.mem_of_getElem? hy) (hI.nxt y.o g1).1
        rw [g4] at this
        rw [(lo h (Nat.le_of_lt hl)).2]
        rwa [show y.i = h from by omega] at this
      · have : h = n := Nat.le_antisymm hhn hl
        rw [this, hSnn, hSn]
        exact m1
    rcases draw_loop2 (P := P) hR (b := b) (k := k) (cs := X.cs u)
      (I := fun listed ca w => listed.size = ops.size ∧ ∃ D h μ', (∀ i, D i = listed.getD i false) ∧ D n = false ∧ Inv P N ops.toList (q.1 ++ us) AA SS μ w₀ D h μ' ca w)
      (Q := fun m' => ∃ μ₁ w₁ C k1 ca₁, Goes P N μ (SS 0) w₀ μ₁ s1 w₁ ∧ AR P μ₁ (badA ops.toList (A n)) ca₁ ∧ ChR P μ₁ c C ∧ m' = lone ((b.atR ca₁ k1).raise C) (X.cs u) w₁)
      (fun listed ca w i hI hready rest => by
        obtain ⟨hsz, D, e0, μ', hDl, hDn, hI⟩ := hI
        obtain ⟨t, ht, hD, hdone, hi⟩ := ready hT hsz hDl hI hready
        by_cases hin : i = n
        · subst hin
          have hh : i = e0 := by
            have := hle hI hDn
            rcases Nat.lt_or_ge e0 i with hl | hl
            · have hhl : e0 < ops.toList.length := by omega
              have hho : ops.toList[e0]? = some ops.toList[e0] := List.getElem?_eq_getElem hhl
              obtain ⟨h1, h2⟩ := hI.nxt _ hho
              have := hdone e0 (hF.heavy e0 i _ p hl hho hpn h1 hp2)
              rw [h2] at this; cases this
            · omega
          subst hh
          rw [ht] at htn
          cases htn
          obtain ⟨μ₁, w₁, C, k1, q1, q2, q3, q4⟩ := hI.panics hP hr hF hT hs0 ht hdone (by rw [htno, hAnn]; exact hwn) (by rw [htno, hAnn, hSnn]; exact hpc) b (X.cs u) k rest
          rw [hAnn] at q2
          exact .inr ⟨_, ⟨μ₁, w₁, C, k1, ca, q1, q2, q3, rfl⟩, q4⟩
        · have hB : isB (ahead ops.toList) n i = false := by
            unfold isB
            rw [Bool.or_eq_false_iff]
            refine ⟨by cases hb : Nat.beq i n with
            | false => rfl
            | true => exact absurd (Nat.eq_of_beq_eq_true hb) hin, ?_⟩
            cases hb : bit (ahead ops.toList) i n with
            | false => rfl
            | true => have := hdone n hb; rw [hDn] at this; cases this
          obtain ⟨μ₂, h₂, ca₂, w₂, hst, hI₂⟩ := hI.step hP hr hF hT hchk (hhead hI hDn) ht hB hD hdone b (X.cs u) k rest
          exact .inl ⟨ca₂, w₂, hst, by simpa using hsz, andD D i, h₂, μ₂, andD_l hsz hi hDl, by rw [andD_ne D (Ne.symm hin)]; exact hDn, hI₂⟩)
      ops.size t' (Array.replicate ops.size false) ca w₀ (by simp) hempty ⟨by simp, _, h0, μ, hD0, rfl, hI0⟩ with ⟨listed, ca', w', hall, ⟨hsz, D, h', μ', hDl, hDn, hI⟩, _⟩ | ⟨m', ⟨μ₁, w₁, C, k1, ca₁, q1, q2, q3, rfl⟩, hsteps⟩
    · exfalso
      have hns : n < ops.size := by simpa using hnl
      rw [hDl, Array.getD_eq_getD_getElem?, Array.getElem?_eq_getElem (by omega)] at hDn
      have := hall n hns
      rw [Array.getD_eq_getD_getElem?, Array.getElem?_eq_getElem (by omega)] at this
      simp at this hDn
      rw [this] at hDn
      cases hDn
    · rw [← hAn]
      refine ⟨μ₁, w₁, ca₁, u, ?_, q2, ?_, k1, C, q3, hstep0.trans hsteps⟩
      · rw [← hS0]; exact hg0.trans q1
      · rw [badA_rc, ← hAnn, (hT.same n (Nat.le_of_lt hnl)).2.2, hA0]
        exact hX.mono q1.ext.sub
theorem run_all (hP : NoNum P) {orc : Orc} (ho : OrcOK P orc) : ∀ n, RecOK P N (run P orc n) := run_sound hP (drawn_all hP) ho
end
end Go.Proofs.Vai
