/- Drawn regions, eighth part: the schedule; what stands ahead, on; the maps of some names. -/
import Derived.Test.YthaimknbmaeomaaGreatDoorVaiDrawG
set_option linter.unusedVariables false
set_option linter.unusedSimpArgs false
set_option linter.unusedSectionVars false
namespace Go.Proofs.Vai
open Go Go.RowKit
variable [Env]

section
variable {P : Program}

theorem binds_text {e : Edge} (h : Region.binds .any e = true) : Region.binds .text e = true := by
  unfold Region.binds at *
  cases he : e.ground <;> rw [he] at h <;> first | rfl | cases h
theorem binds_gc {e : Edge} (h : Region.binds .any e = true) : Region.binds .gc e = true := by
  unfold Region.binds at *
  cases he : e.ground <;> rw [he] at h <;> first | rfl | cases h
theorem departs_eq (ops : Array Oper) : departsA ops.toList = Region.departs ops := by
  unfold departsA Region.departs
  rw [← Array.any_toList]
  congr 1
  funext o
  rw [← Array.any_toList]
theorem sched_of {ops : Array Oper} (hF : Fit P ops.toList) (mixed : Bool) (t : Nat) : ∃ m t', Region.schedule mixed ops t = Region.linearise m ops t' ∧ Ranked m ops ∧ ∀ e, Region.binds .any e = true → Region.binds m e = true := by
  have htext : Ranked .text ops := by
    refine ⟨id, fun i o ho e he hb => ?_⟩
    have hlt := hF.text i o (by simpa using ho) e (by simpa using he) hb
    have hi : i < ops.size := (Array.getElem?_eq_some_iff.1 ho).1
    exact ⟨by omega, hlt⟩
  have hany : Ranked .any ops := by
    obtain ⟨ρ, h⟩ := htext
    exact ⟨ρ, fun i o ho e he hb => h i o ho e he (binds_text hb)⟩
  unfold Region.schedule
  cases hc : (mixed || !Region.departs ops) with
  | true => exact ⟨.any, t, by simp, hany, fun e h => h⟩
  | false =>
    simp only [Bool.false_eq_true, if_false]
    rw [Bool.or_eq_false_iff] at hc
    have hd : departsA ops.toList = true := by rw [departs_eq]; simpa using hc.2
    cases ht : (t % 2 == 0) with
    | true => exact ⟨.text, t / 2, by simp, htext, fun e h => binds_text h⟩
    | false =>
      obtain ⟨ρ, h⟩ := hF.gc hd
      refine ⟨.gc, t / 2, by simp, ⟨ρ, fun i o ho e he hb => ?_⟩, fun e h => binds_gc h⟩
      have := h i o (by simpa using ho) e (by simpa using he) hb
      simpa using this

/-! ### What stands ahead, on -/
theorem aheadOne_mem (done : List Nat) (i j : Nat) : ∀ es : List Edge, (∃ e ∈ es, Region.binds .any e = true ∧ e.on < i ∧ (e.on = j ∨ Nat.testBit (done.getD (i - 1 - e.on) 0) j = true)) → Nat.testBit (aheadOne done i es) j = true
  | [], h => by obtain ⟨e, he, _⟩ := h; cases he
  | e :: es, h => by
    obtain ⟨e', he', hb, hlt, hor⟩ := h
    unfold aheadOne
    cases hc : (Region.binds .any e && Nat.blt e.on i) with
    | false =>
      rw [cond_false]
      refine aheadOne_mem done i j es ⟨e', ?_, hb, hlt, hor⟩
      cases he' with
      | head =>
        rw [Bool.and_eq_false_iff] at hc
        rcases hc with hc | hc
        · rw [hb] at hc; cases hc
        · have : Nat.blt e.on i = true := by simpa [Nat.blt_eq] using hlt
          rw [this] at hc; cases hc
      | tail _ h => exact h
    | true =>
      rw [cond_true]
      show Nat.testBit (((1 <<< e.on) ||| done.getD (i - 1 - e.on) 0) ||| aheadOne done i es) j = true
      rw [Nat.testBit_or, Nat.testBit_or, Bool.or_eq_true, Bool.or_eq_true]
      cases he' with
      | head =>
        rcases hor with h | h
        · left; left
          rw [Nat.one_shiftLeft, Nat.testBit_two_pow]
          exact decide_eq_true h
        · left; right; exact h
      | tail _ h => right; exact aheadOne_mem done i j es ⟨e', h, hb, hlt, hor⟩
theorem edge_bit {ops : List Oper} {i j : Nat} {o : Oper} (ho : ops[i]? = some o) {e : Edge} (he : e ∈ o.after.toList) (hb : Region.binds .any e = true) (hlt : e.on < i) (hor : e.on = j ∨ bit (ahead ops) e.on j = true) : bit (ahead ops) i j = true := by
  obtain ⟨rest, h1, h2, h3⟩ := aheadGo_spec ops [] 0 rfl
  have hA : ahead ops = rest := by unfold ahead; rw [h1]; simp
  have := h3 i o ho
  simp only [List.reverse_nil, List.nil_append, Nat.zero_add] at this
  unfold bit at hor ⊢
  rw [hA] at hor ⊢
  rw [this]
  refine aheadOne_mem _ _ _ _ ⟨e, he, hb, hlt, hor.imp id fun hq => ?_⟩
  have hil : i < rest.length := by rw [h2]; exact (List.getElem?_eq_some_iff.1 ho).1
  rw [List.getD_eq_getElem?_getD, List.getElem?_reverse (by simp; omega)]
  simp only [List.length_take, Nat.min_eq_left (Nat.le_of_lt hil)]
  rw [List.getElem?_take, if_pos (by omega), show i - 1 - (i - 1 - e.on) = e.on from by omega]
  rw [List.getD_eq_getElem?_getD] at hq
  exact hq
theorem bit_trans {ops : List Oper} : ∀ (a b c : Nat), bit (ahead ops) a b = true → bit (ahead ops) b c = true → bit (ahead ops) a c = true := by
  intro a
  induction a using Nat.strongRecOn with
  | _ a ih =>
    intro b c h k
    cases ho : ops[a]? with
    | none => rw [bit_none ho] at h; cases h
    | some o =>
      obtain ⟨e, he, hb, hlt, rfl | hq⟩ := bit_edge ho h
      · exact edge_bit ho he hb hlt (.inr k)
      · exact edge_bit ho he hb hlt (.inr (ih e.on hlt b c hq k))

/-! ### Maps of some names -/
open Classical in
/-- The map, of the names that p takes. -/
noncomputable def resP (μ : Inj) (p : Pos → Prop) : Inj := fun b => if p b then μ b else none
theorem resP_some {μ : Inj} {p : Pos → Prop} {b : Pos} {e : Ent} : resP μ p b = some e ↔ p b ∧ μ b = some e := by
  unfold resP
  by_cases h : p b
  · rw [if_pos h]; exact ⟨fun q => ⟨h, q⟩, fun q => q.2⟩
  · rw [if_neg h]; exact ⟨(fun q => by cases q), fun q => absurd q.1 h⟩
theorem resP_sub {μ μ' : Inj} {p q : Pos → Prop} (h : ∀ b e, p b → μ b = some e → q b ∧ μ' b = some e) : Sub (resP μ p) (resP μ' q) := fun b e hb => by
  obtain ⟨h1, h2⟩ := resP_some.1 hb
  exact resP_some.2 (h b e h1 h2)
end
end Go.Proofs.Vai
