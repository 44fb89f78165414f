/- Drawn regions, ninth part: where the machine stands, having done some of the operations. -/
import Derived.Test.YthaimknbmaeomaaGreatDoorVaiDrawH
set_option linter.unusedVariables false
set_option linter.unusedSimpArgs false
set_option linter.unusedSectionVars false
namespace Go.Proofs.Vai
open Go Go.RowKit
variable [Env]

section
variable {P : Program} {N : Nat}

/-- Is b the name of the row that operation i lays? -/
def LaysAt (P : Program) (tels : List Tel) (S : Nat → St) (i : Nat) (b : Pos) : Prop := ∃ t, tels[i]? = some t ∧ t.w = true ∧ clsO P t.o.op = 1 ∧ b = (S i).n
/-- The names that operation j's operands may bear, when h is the next heavy one. -/
def nmIn (P : Program) (ops : List Oper) (tels : List Tel) (S : Nat → St) (h j : Nat) : Pos → Prop := fun b => b.toNat < (S h).n.toNat ∨ ∃ i, LaysAt P tels S i b ∧ bit (ahead ops) j i = true
/-- The names that its value may bear. -/
def nmOf (P : Program) (ops : List Oper) (tels : List Tel) (S : Nat → St) (h j : Nat) : Pos → Prop := fun b => b.toNat < (S h).n.toNat ∨ ∃ i, LaysAt P tels S i b ∧ (i = j ∨ bit (ahead ops) j i = true)
def nmB (S : Nat → St) (h : Nat) : Pos → Prop := fun b => b.toNat < (S h).n.toNat

structure Inv (P : Program) (N : Nat) (ops : List Oper) (tels : List Tel) (A : Nat → AAct) (S : Nat → St) (μ₀ : Inj) (w₀ : World) (D : Nat → Bool) (h : Nat) (μ : Inj) (ca : Act) (w : World) : Prop where
  lt : ∀ i, D i = true → i < ops.length
  down : ∀ i j, D i = true → bit (ahead ops) i j = true → D j = true
  hle : h ≤ ops.length
  nxt : ∀ o, ops[h]? = some o → clsO P o.op = 2 ∧ D h = false
  hvy : ∀ e o, ops[e]? = some o → clsO P o.op = 2 → (D e = true ↔ e < h)
  size : ca.tmps.size = (A 0).n
  dfr : DRs P (resP μ (nmB S 0)) (A 0).defers ca.defers
  done : ∀ i t d, D i = true → tels[i]? = some t → t.o.dst = some d → VR P (resP μ (nmOf P ops tels S h i)) t.v (ca.tmps.getD d undef)
  old : ∀ d, (∀ (i : Nat) (o : Oper), ops[i]? = some o → o.dst ≠ some d) → VR P (resP μ (nmB S 0)) ((A 0).tmp d) (ca.tmps.getD d undef)
  sr : SR P N (resP μ (nmB S h)) (S h) w
  pend : ∀ j t, D j = true → h < j → tels[j]? = some t → t.w = true → clsO P t.o.op = 1 → ∃ e blk, μ (S j).n = some e ∧ S (j + 1) = (S j).push blk ∧ isDead blk = false ∧ BR P N (resP μ (nmOf P ops tels S h j)) w blk e ∧ N ≤ e.a.block ∧
    ∀ b' e', b' ≠ (S j).n → μ b' = some e' → e'.a.block ≠ e.a.block
  dom : ∀ b e, μ b = some e → b.toNat < (S h).n.toNat ∨ ∃ j, D j = true ∧ h < j ∧ LaysAt P tels S j b
  undone : ∀ j t, D j = false → tels[j]? = some t → t.w = true → clsO P t.o.op = 1 → μ (S j).n = none
  ev : Ev N μ₀ w₀ w
  ext : Ext μ₀ μ w₀
  fresh : ∀ b e, μ b = some e → μ₀ b = some e ∨ (S 0).n.toNat ≤ b.toNat

theorem mem_tmpsO {t : Tmp} : ∀ {l : List Operand}, Operand.tmp t ∈ l → t ∈ tmpsO l
  | x :: l, h => by
    cases h with
    | head => exact List.mem_cons_self ..
    | tail _ h =>
      have := mem_tmpsO h
      cases x <;> first | exact List.mem_cons_of_mem _ this | exact this
def above : List Tmp → Nat
  | [] => 0
  | t :: l => t + above l + 1
theorem lt_above {t : Tmp} : ∀ {l : List Tmp}, t ∈ l → t < above l
  | x :: l, h => by
    cases h with
    | head => exact Nat.lt_succ_of_le (Nat.le_add_right t (above l))
    | tail _ h => exact Nat.lt_of_lt_of_le (lt_above h) (Nat.le_succ_of_le (Nat.le_add_left (above l) x))
section
variable {r : Rec} {ops : List Oper} {tels : List Tel} {A : Nat → AAct} {S : Nat → St} {B : Nat → Bool} {μ₀ μ : Inj} {w₀ w : World} {D : Nat → Bool} {h : Nat} {ca : Act}
theorem nmB_le (hT : Trc P r ops ops 0 tels A S B) (hle : h ≤ ops.length) : Sub (resP μ (nmB S 0)) (resP μ (nmB S h)) :=
  resP_sub fun b e hb he => ⟨Nat.lt_of_lt_of_le hb (hT.mono (Nat.zero_le _) hle), he⟩
/-- An operation whose writers ahead are done: its operands, and nothing else of the activation. -/
theorem Inv.mask (hF : Fit P ops) (hT : Trc P r ops ops 0 tels A S B) (hI : Inv P N ops tels A S μ₀ w₀ D h μ ca w) {q : Nat} {t : Tel} (hq : tels[q]? = some t) (hdone : ∀ j, bit (ahead ops) q j = true → D j = true) :
    ∃ a', AR P (resP μ (nmIn P ops tels S h q)) a' ca ∧ ∀ s, opA t.o.op P a' s = opA t.o.op P (A q) s := by
  have hqo := (hT.tel q t hq).1
  have hql := hT.lt hq
  obtain ⟨e1, e2, e3⟩ := hT.same q (Nat.le_of_lt hql)
  have hsub0 : Sub (resP μ (nmB S 0)) (resP μ (nmIn P ops tels S h q)) := resP_sub fun b e hb he => ⟨.inl (Nat.lt_of_lt_of_le hb (hT.mono (Nat.zero_le _) hI.hle)), he⟩
  -- an operand
  have hop : ∀ x, x ∈ tmpsO t.o.op.operands.toList → VR P (resP μ (nmIn P ops tels S h q)) ((A q).tmp x) (ca.tmps.getD x undef) := by
    intro x hx
    by_cases hw : ∃ (j : Nat) (o : Oper), ops[j]? = some o ∧ o.dst = some x
    · obtain ⟨j, o, hj, hd⟩ := hw
      have hb := hF.reads q t.o x hqo hx j o hj hd
      have hjq := bit_lt q j hb
      obtain ⟨y, hy⟩ := hT.get (k := j) (by omega)
      have hyo : y.o = o := by
        have := (hT.tel j y hy).1
        rw [hj] at this
        exact (Option.some.inj this).symm
      subst hyo
      rw [hT.new hF hy hd q hjq (Nat.le_of_lt hql)]
      refine (hI.done j y x (hdone j hb) hy hd).mono (resP_sub fun b e hb' he => ⟨?_, he⟩)
      rcases hb' with hb' | ⟨i, hi, rfl | hbi⟩
      · exact .inl hb'
      · exact .inr ⟨i, hi, hb⟩
      · exact .inr ⟨i, hi, bit_trans q j i hb hbi⟩
    · have hn : ∀ (i : Nat) (o : Oper), ops[i]? = some o → o.dst ≠ some x := fun i o ho hd => hw ⟨i, o, ho, hd⟩
      rw [hT.old q (Nat.le_of_lt hql) fun j o _ ho => hn j o ho]
      exact (hI.old x hn).mono hsub0
  let m := ca.tmps.size + above (tmpsO t.o.op.operands.toList)
  let f : Nat → AV := fun x => if x ∈ tmpsO t.o.op.operands.toList then (A q).tmp x else .bad
  have hget : ∀ x, orUndef ((setTr ((List.range m).map f) .nil 0).get (pos x)) = if x < m then f x else .undef := by
    intro x
    rw [setTr_get]
    by_cases hx : x < m
    · rw [if_pos ⟨Nat.zero_le _, by simpa using hx⟩, if_pos hx]
      simp [hx, orUndef]
    · rw [if_neg (by simp; omega), if_neg hx, get_nil]
      rfl
  refine ⟨⟨setTr ((List.range m).map f) .nil 0, (A q).n, (A q).defers, (A q).rc⟩, ⟨fun x => ?_, by rw [hI.size, ← e1], by rw [e2]; exact hI.dfr.mono hsub0⟩, fun s => opA_congr fun x hx => ?_⟩
  · show VR P _ (orUndef ((setTr ((List.range m).map f) .nil 0).get (pos x))) _
    rw [hget]
    by_cases hx : x < m
    · rw [if_pos hx]
      show VR P _ (if x ∈ tmpsO t.o.op.operands.toList then (A q).tmp x else .bad) _
      by_cases hm : x ∈ tmpsO t.o.op.operands.toList
      · rw [if_pos hm]; exact hop x hm
      · rw [if_neg hm]; exact .bad _
    · rw [if_neg hx]
      have : ca.tmps.getD x undef = undef := by
        rw [Array.getD_eq_getD_getElem?, Array.getElem?_eq_none (by omega)]; rfl
      rw [this]
      exact undef_rel
  · cases x with
    | tmp x =>
      have hm := mem_tmpsO (show Operand.tmp x ∈ t.o.op.operands.toList by simpa using hx)
      have hxm : x < m := Nat.lt_of_lt_of_le (lt_above hm) (Nat.le_add_left _ _)
      show some (orUndef ((setTr ((List.range m).map f) .nil 0).get (pos x))) = some ((A q).tmp x)
      rw [hget, if_pos hxm]
      show some (if x ∈ tmpsO t.o.op.operands.toList then (A q).tmp x else .bad) = _
      rw [if_pos hm]
    | const v => rfl
    | global g => rfl
    | func f => rfl
end
end
end Go.Proofs.Vai
