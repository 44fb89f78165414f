/- Drawn regions, third part: what the static check says. -/
import Derived.Test.YthaimknbmaeomaaGreatDoorVaiDrawB
set_option linter.unusedVariables false
set_option linter.unusedSimpArgs false
set_option linter.unusedSectionVars false
namespace Go.Proofs.Vai
open Go Go.RowKit
variable [Env]

section
variable {P : Program}

theorem aheadOne_bit (done : List Nat) (i j : Nat) : ∀ es : List Edge, Nat.testBit (aheadOne done i es) j = true → ∃ e ∈ es, Region.binds .any e = true ∧ e.on < i ∧ (e.on = j ∨ Nat.testBit (done.getD (i - 1 - e.on) 0) j = true)
  | [], h => by simp [aheadOne] at h
  | e :: es, h => by
    unfold aheadOne at h
    cases hc : (Region.binds .any e && Nat.blt e.on i) with
    | false =>
      rw [hc] at h
      obtain ⟨e', he', h'⟩ := aheadOne_bit done i j es h
      exact ⟨e', List.mem_cons_of_mem _ he', h'⟩
    | true =>
      rw [hc, cond_true] at h
      rw [Bool.and_eq_true] at hc
      have hlt : e.on < i := by simpa [Nat.blt_eq] using hc.2
      have h : Nat.testBit (((1 <<< e.on) ||| done.getD (i - 1 - e.on) 0) ||| aheadOne done i es) j = true := h
      rw [Nat.testBit_or, Nat.testBit_or, Bool.or_eq_true, Bool.or_eq_true] at h
      rcases h with (h | h) | h
      · refine ⟨e, List.mem_cons_self .., hc.1, hlt, .inl ?_⟩
        rw [Nat.one_shiftLeft, Nat.testBit_two_pow] at h
        exact of_decide_eq_true h
      · exact ⟨e, List.mem_cons_self .., hc.1, hlt, .inr h⟩
      · obtain ⟨e', he', h'⟩ := aheadOne_bit done i j es h
        exact ⟨e', List.mem_cons_of_mem _ he', h'⟩
theorem aheadGo_spec : ∀ (l : List Oper) (done : List Nat) (i : Nat), done.length = i → ∃ rest, aheadGo l done i = done.reverse ++ rest ∧ rest.length = l.length ∧
    ∀ k o, l[k]? = some o → (done.reverse ++ rest).getD (i + k) 0 = aheadOne ((done.reverse ++ rest).take (i + k)).reverse (i + k) o.after.toList
  | [], done, i, h => ⟨[], by simp [aheadGo], rfl, fun k o hk => by simp at hk⟩
  | o :: l, done, i, h => by
    obtain ⟨rest, h1, h2, h3⟩ := aheadGo_spec l (aheadOne done i o.after.toList :: done) (i + 1) (by simp [h])
    refine ⟨aheadOne done i o.after.toList :: rest, by unfold aheadGo; rw [h1]; simp, by simp [h2], fun k o' hk => ?_⟩
    have e : done.reverse ++ aheadOne done i o.after.toList :: rest = (aheadOne done i o.after.toList :: done).reverse ++ rest := by simp
    cases k with
    | zero =>
      simp at hk
      subst hk
      have hl : done.reverse.length = i := by simp [h]
      rw [Nat.add_zero, List.getD_eq_getElem?_getD, List.getElem?_append_right (by omega), hl]
      simp only [Nat.sub_self, List.getElem?_cons_zero, Option.getD_some]
      rw [← hl, List.take_left, List.reverse_reverse]
    | succ k =>
      rw [e, show i + (k + 1) = i + 1 + k from by omega]
      exact h3 k o' (by simpa using hk)
/-- What stands ahead, stands ahead by an edge or by way of one. -/
theorem bit_edge {ops : List Oper} {i j : Nat} {o : Oper} (ho : ops[i]? = some o) (h : bit (ahead ops) i j = true) : ∃ e ∈ o.after.toList, Region.binds .any e = true ∧ e.on < i ∧ (e.on = j ∨ bit (ahead ops) e.on j = true) := by
  obtain ⟨rest, h1, h2, h3⟩ := aheadGo_spec ops [] 0 rfl
  have hA : ahead ops = rest := by unfold ahead; rw [h1]; simp
  have := h3 i o ho
  simp only [List.reverse_nil, List.nil_append, Nat.zero_add] at this
  unfold bit at h ⊢
  rw [hA] at h ⊢
  rw [this] at h
  obtain ⟨e, he, hb, hlt, hor⟩ := aheadOne_bit _ _ _ _ h
  refine ⟨e, he, hb, hlt, hor.imp id fun hq => ?_⟩
  have hil : i < rest.length := by rw [h2]; exact (List.getElem?_eq_some_iff.1 ho).1
  rw [List.getD_eq_getElem?_getD, List.getElem?_reverse (by simp; omega)] at hq
  simp only [List.length_take, Nat.min_eq_left (Nat.le_of_lt hil)] at hq
  rw [List.getElem?_take, if_pos (by omega), show i - 1 - (i - 1 - e.on) = e.on from by omega] at hq
  rw [List.getD_eq_getElem?_getD]
  exact hq
theorem bit_none {ops : List Oper} {i j : Nat} (ho : ops[i]? = none) : bit (ahead ops) i j = false := by
  obtain ⟨rest, h1, h2, h3⟩ := aheadGo_spec ops [] 0 rfl
  have hA : ahead ops = rest := by unfold ahead; rw [h1]; simp
  unfold bit
  rw [hA, List.getD_eq_getElem?_getD, List.getElem?_eq_none (by rw [h2]; exact List.getElem?_eq_none_iff.1 ho)]
  simp
theorem bit_lt {ops : List Oper} : ∀ (i j : Nat), bit (ahead ops) i j = true → j < i := by
  intro i
  induction i using Nat.strongRecOn with
  | _ i ih =>
    intro j h
    cases ho : ops[i]? with
    | none => rw [bit_none ho] at h; cases h
    | some o =>
      obtain ⟨e, _, _, hlt, rfl | hb⟩ := bit_edge ho h
      · exact hlt
      · exact Nat.lt_trans (ih e.on hlt j hb) hlt

/-- The static check, as facts. -/
structure Fit (P : Program) (ops : List Oper) : Prop where
  dst : ∀ (i j : Nat) (o o' : Oper) (d : Tmp), i < j → ops[i]? = some o → ops[j]? = some o' → o.dst = some d → o'.dst ≠ some d
  reads : ∀ (i : Nat) (o : Oper) (t : Tmp), ops[i]? = some o → t ∈ tmpsO o.op.operands.toList → ∀ (j : Nat) (o' : Oper), ops[j]? = some o' → o'.dst = some t → bit (ahead ops) i j = true
  guard : ∀ (i : Nat) (o : Oper) (g : Nat × Bool), ops[i]? = some o → o.guard = some g → bit (ahead ops) i g.1 = true
  cls : ∀ (i : Nat) (o : Oper), ops[i]? = some o → clsO P o.op ≠ 3
  text : ∀ (i : Nat) (o : Oper), ops[i]? = some o → ∀ e ∈ o.after.toList, Region.binds .text e = true → e.on < i
  heavy : ∀ (i j : Nat) (o o' : Oper), i < j → ops[i]? = some o → ops[j]? = some o' → clsO P o.op = 2 → clsO P o'.op = 2 → bit (ahead ops) j i = true
  gc : departsA ops = true → ∃ ρ : Nat → Nat, ∀ (i : Nat) (o : Oper), ops[i]? = some o → ∀ e ∈ o.after.toList, Region.binds .gc e = true → e.on < ops.length ∧ ρ e.on < ρ i

theorem dstFree_spec {d : Tmp} : ∀ {l : List Oper}, dstFree d l = true → ∀ (j : Nat) (o : Oper), l[j]? = some o → o.dst ≠ some d
  | [], _, j, o, h => by simp at h
  | p :: l, hf, j, o, h => by
    unfold dstFree at hf
    rw [Bool.and_eq_true] at hf
    cases j with
    | zero =>
      simp at h
      subst h
      intro e
      rw [e] at hf
      simp at hf
    | succ j => exact dstFree_spec hf.2 j o (by simpa using h)
theorem dstsOk_spec : ∀ {l : List Oper}, dstsOk l = true → ∀ (i j : Nat) (o o' : Oper) (d : Tmp), i < j → l[i]? = some o → l[j]? = some o' → o.dst = some d → o'.dst ≠ some d
  | [], _, i, j, o, o', d, hij, h, _, _ => by simp at h
  | p :: l, hf, i, j, o, o', d, hij, h, h', hd => by
    unfold dstsOk at hf
    rw [Bool.and_eq_true] at hf
    cases i with
    | zero =>
      simp at h
      subst h
      rw [hd] at hf
      cases j with
      | zero => omega
      | succ j => exact dstFree_spec hf.1 j o' (by simpa using h')
    | succ i => cases j with
      | zero => omega
      | succ j => exact dstsOk_spec hf.2 i j o o' d (by omega) (by simpa using h) (by simpa using h') hd
theorem readOk_spec {b : List Nat} {i : Nat} {t : Tmp} : ∀ {l : List Oper} {j : Nat}, readOk b i t l j = true → ∀ (k : Nat) (o : Oper), l[k]? = some o → o.dst = some t → bit b i (j + k) = true
  | [], _, _, k, o, h, _ => by simp at h
  | p :: l, j, hf, k, o, h, hd => by
    unfold readOk at hf
    rw [Bool.and_eq_true] at hf
    cases k with
    | zero =>
      simp at h
      subst h
      rw [hd] at hf
      simpa using hf.1
    | succ k =>
      have := readOk_spec hf.2 k o (by simpa using h) hd
      rwa [show j + 1 + k = j + (k + 1) from by omega] at this
theorem heavyOk_spec {b : List Nat} {j : Nat} : ∀ {l : List Oper} {i : Nat}, heavyOk P b j l i = true → ∀ (k : Nat) (o : Oper), l[k]? = some o → i + k < j → clsO P o.op = 2 → bit b j (i + k) = true
  | [], _, _, k, o, h, _, _ => by simp at h
  | p :: l, i, hf, k, o, h, hlt, hc => by
    unfold heavyOk at hf
    rw [Bool.and_eq_true] at hf
    cases k with
    | zero =>
      simp at h
      subst h
      have : (Nat.blt i j && Nat.beq (clsO P p.op) 2) = true := by
        rw [hc]
        simp only [Bool.and_eq_true]
        exact ⟨by simpa [Nat.blt_eq] using hlt, rfl⟩
      rw [this] at hf
      simpa using hf.1
    | succ k =>
      have := heavyOk_spec hf.2 k o (by simpa using h) (by omega) hc
      rwa [show i + 1 + k = i + (k + 1) from by omega] at this
theorem opsOk_spec {b : List Nat} {all : List Oper} : ∀ {l : List Oper} {i : Nat}, opsOk P b all l i = true → ∀ (k : Nat) (o : Oper), l[k]? = some o →
    (∀ t ∈ tmpsO o.op.operands.toList, readOk b (i + k) t all 0 = true) ∧ (∀ g, o.guard = some g → bit b (i + k) g.1 = true) ∧ clsO P o.op ≠ 3 ∧ (∀ e ∈ o.after.toList, Region.binds .text e = true → e.on < i + k) ∧
      (clsO P o.op = 2 → heavyOk P b (i + k) all 0 = true)
  | [], _, _, k, o, h => by simp at h
  | p :: l, i, hf, k, o, h => by
    unfold opsOk at hf
    simp only [Bool.and_eq_true] at hf
    obtain ⟨⟨⟨⟨⟨h1, h2⟩, h3⟩, h4⟩, h5⟩, h6⟩ := hf
    cases k with
    | zero =>
      simp at h
      subst h
      refine ⟨fun t ht => List.all_eq_true.1 h1 t ht, fun g hg => ?_, fun hc => ?_, fun e he hb => ?_, fun hc => ?_⟩
      · rw [hg] at h2; exact h2
      · rw [hc] at h3; cases h3
      · have := List.all_eq_true.1 h4 e he
        rw [hb] at this
        simpa [Nat.blt_eq] using this
      · rw [hc] at h5; exact h5
    | succ k =>
      have := opsOk_spec h6 k o (by simpa using h)
      rwa [show i + 1 + k = i + (k + 1) from by omega] at this
theorem gcOk_spec {n : Nat} {R : List Nat} : ∀ {l : List Oper} {i : Nat}, gcOk n R l i = true → ∀ (k : Nat) (o : Oper), l[k]? = some o → ∀ e ∈ o.after.toList, Region.binds .gc e = true → e.on < n ∧ posIn e.on R < posIn (i + k) R
  | [], _, _, k, o, h => by simp at h
  | p :: l, i, hf, k, o, h => by
    intro e he hb
    unfold gcOk at hf
    rw [Bool.and_eq_true] at hf
    cases k with
    | zero =>
      simp at h
      subst h
      have := List.all_eq_true.1 hf.1 e he
      rw [hb] at this
      simpa [Nat.blt_eq] using this
    | succ k =>
      have := gcOk_spec hf.2 k o (by simpa using h) e he hb
      rwa [show i + 1 + k = i + (k + 1) from by omega] at this
theorem fit_of {ops : List Oper} (h : drawOk P ops = true) : Fit P ops := by
  unfold drawOk at h
  rw [Bool.and_eq_true, Bool.and_eq_true] at h
  obtain ⟨⟨h1, h2⟩, h3⟩ := h
  have hs := fun k o ho => opsOk_spec h2 k o ho
  simp only [Nat.zero_add] at hs
  refine ⟨dstsOk_spec h1, fun i o t ho ht j o' ho' hd => ?_, fun i o g ho hg => (hs i o ho).2.1 g hg, fun i o ho => (hs i o ho).2.2.1, fun i o ho e he hb => (hs i o ho).2.2.2.1 e he hb, fun i j o o' hij ho ho' hc hc' => ?_, fun hd => ?_⟩
  · have := readOk_spec ((hs i o ho).1 t ht) j o' ho' hd
    simpa using this
  · have := heavyOk_spec ((hs j o' ho').2.2.2.2 hc') i o ho (by omega) hc
    simpa using this
  · rw [hd, cond_true] at h3
    refine ⟨fun i => posIn i (Region.linearise .gc ops.toArray 0), fun i o ho e he hb => ?_⟩
    have := gcOk_spec h3 i o ho e he hb
    simpa using this
end
end Go.Proofs.Vai
