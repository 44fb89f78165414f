/- Drawn regions, eleventh part: what the second evaluations say. -/
import Derived.Test.YthaimknbmaeomaaGreatDoorVaiDrawJ
set_option linter.unusedVariables false
set_option linter.unusedSimpArgs false
set_option linter.unusedSectionVars false
namespace Go.Proofs.Vai
open Go Go.RowKit
variable [Env]

section
variable {P : Program}

theorem cnd_and {b c : Bool} (h : cnd b c false = true) : b = true ∧ c = true := by cases b <;> simp_all [cnd]
theorem drawChk_spec {b : List Nat} {cl : List (Nat × Nat)} {hs : List (Nat × Tr ABlk)} : ∀ {l : List Tel}, drawChk P b cl hs l = true → ∀ t ∈ l, t.w = true →
    (clsO P t.o.op = 0 → chkHeads P b cl t.i t.o t.a t.s t.v hs = true) ∧ (clsO P t.o.op = 1 → chkLay P b cl t.i t.o t.a t.s hs = true)
  | [], _, t, ht, _ => absurd ht List.not_mem_nil
  | x :: l, h, t, ht, hw => by
    replace h : cnd x.w (cnd (Nat.beq (clsO P x.o.op) 0) (cnd (chkHeads P b cl x.i x.o x.a x.s x.v hs) (drawChk P b cl hs l) false) (cnd (Nat.beq (clsO P x.o.op) 1) (cnd (chkLay P b cl x.i x.o x.a x.s hs) (drawChk P b cl hs l) false) (drawChk P b cl hs l))) (drawChk P b cl hs l) = true := h
    have hrest : drawChk P b cl hs l = true := by
      cases hxw : x.w with
      | false => rw [hxw] at h; exact h
      | true =>
        rw [hxw] at h
        replace h : cnd (Nat.beq (clsO P x.o.op) 0) (cnd (chkHeads P b cl x.i x.o x.a x.s x.v hs) (drawChk P b cl hs l) false) (cnd (Nat.beq (clsO P x.o.op) 1) (cnd (chkLay P b cl x.i x.o x.a x.s hs) (drawChk P b cl hs l) false) (drawChk P b cl hs l)) = true := h
        cases h0 : Nat.beq (clsO P x.o.op) 0 with
        | true => rw [h0] at h; exact (cnd_and h).2
        | false =>
          rw [h0] at h
          replace h : cnd (Nat.beq (clsO P x.o.op) 1) (cnd (chkLay P b cl x.i x.o x.a x.s hs) (drawChk P b cl hs l) false) (drawChk P b cl hs l) = true := h
          cases h1 : Nat.beq (clsO P x.o.op) 1 with
          | true => rw [h1] at h; exact (cnd_and h).2
          | false => rw [h1] at h; exact h
    cases ht with
    | tail _ ht => exact drawChk_spec hrest t ht hw
    | head =>
      rw [hw] at h
      replace h : cnd (Nat.beq (clsO P x.o.op) 0) (cnd (chkHeads P b cl x.i x.o x.a x.s x.v hs) (drawChk P b cl hs l) false) (cnd (Nat.beq (clsO P x.o.op) 1) (cnd (chkLay P b cl x.i x.o x.a x.s hs) (drawChk P b cl hs l) false) (drawChk P b cl hs l)) = true := h
      refine ⟨fun hc => ?_, fun hc => ?_⟩
      · rw [hc] at h; exact (cnd_and h).1
      · rw [hc] at h; exact (cnd_and h).1
theorem chkHeads_spec {b : List Nat} {cl : List (Nat × Nat)} {i : Nat} {o : Oper} {a : AAct} {s : St} {v : AV} : ∀ {hs : List (Nat × Tr ABlk)}, chkHeads P b cl i o a s v hs = true → ∀ h ∈ hs, mayBe b i h.1 cl = true → laidBy b i h.1 cl = true ∧ chkAtHead P o a s v h.2 = true
  | x :: hs, hc, h, hm, hb => by
    replace hc : cnd (mayBe b i x.1 cl) (cnd (laidBy b i x.1 cl) (cnd (chkAtHead P o a s v x.2) (chkHeads P b cl i o a s v hs) false) false) (chkHeads P b cl i o a s v hs) = true := hc
    cases hm with
    | head =>
      rw [hb] at hc
      obtain ⟨h1, h2⟩ := cnd_and (b := laidBy b i x.1 cl) hc
      exact ⟨h1, (cnd_and h2).1⟩
    | tail _ hm =>
      cases hq : mayBe b i x.1 cl with
      | true =>
        rw [hq] at hc
        obtain ⟨h1, h2⟩ := cnd_and (b := laidBy b i x.1 cl) hc
        exact chkHeads_spec (cnd_and h2).2 h hm hb
      | false => rw [hq] at hc; exact chkHeads_spec hc h hm hb
theorem chkRow_spec {b : List Nat} {cl : List (Nat × Nat)} {i : Nat} {n : Pos} {s : St} : ∀ {hs : List (Nat × Tr ABlk)}, chkRow b cl i n s hs = true → ∀ h ∈ hs, i < h.1 → mayBe b i h.1 cl = true → calm i h.1 cl = true ∨ eqOB (s.h.get n) (h.2.get n) = true
  | x :: hs, hc, h, hm, hlt, hb => by
    replace hc : cnd (Nat.blt i x.1) (cnd (mayBe b i x.1 cl) (cnd (cnd (calm i x.1 cl) true (eqOB (s.h.get n) (x.2.get n))) (chkRow b cl i n s hs) false) (chkRow b cl i n s hs)) (chkRow b cl i n s hs) = true := hc
    have hrest : chkRow b cl i n s hs = true := by
      cases h1 : Nat.blt i x.1 with
      | false => rw [h1] at hc; exact hc
      | true =>
        rw [h1] at hc
        replace hc : cnd (mayBe b i x.1 cl) (cnd (cnd (calm i x.1 cl) true (eqOB (s.h.get n) (x.2.get n))) (chkRow b cl i n s hs) false) (chkRow b cl i n s hs) = true := hc
        cases h2 : mayBe b i x.1 cl with
        | false => rw [h2] at hc; exact hc
        | true => rw [h2] at hc; exact (cnd_and hc).2
    cases hm with
    | tail _ hm => exact chkRow_spec hrest h hm hlt hb
    | head =>
      have h1 : Nat.blt i x.1 = true := by simpa [Nat.blt_eq] using hlt
      rw [h1] at hc
      replace hc : cnd (mayBe b i x.1 cl) (cnd (cnd (calm i x.1 cl) true (eqOB (s.h.get n) (x.2.get n))) (chkRow b cl i n s hs) false) (chkRow b cl i n s hs) = true := hc
      rw [hb] at hc
      have h2 := (cnd_and hc).1
      cases h3 : calm i x.1 cl with
      | true => exact .inl rfl
      | false => rw [h3] at h2; exact .inr h2
theorem calm_spec {i h : Nat} : ∀ {l : List (Nat × Nat)}, calm i h l = true → ∀ x ∈ l, x.2 = 2 → i < x.1 → h ≤ x.1
  | [], _, x, hx, _, _ => absurd hx List.not_mem_nil
  | y :: l, hl, x, hx, hc, hi => by
    replace hl : cnd (Nat.beq y.2 2) (cnd (cnd (Nat.blt i y.1) (Nat.ble h y.1) true) (calm i h l) false) (calm i h l) = true := hl
    have hrest : calm i h l = true := by
      cases h1 : Nat.beq y.2 2 with
      | false => rw [h1] at hl; exact hl
      | true => rw [h1] at hl; exact (cnd_and hl).2
    cases hx with
    | tail _ hx => exact calm_spec hrest x hx hc hi
    | head =>
      rw [hc] at hl
      have h2 := (cnd_and (show cnd (cnd (Nat.blt i y.1) (Nat.ble h y.1) true) (calm i h l) false = true from hl)).1
      rw [show Nat.blt i y.1 = true by simpa [Nat.blt_eq] using hi] at h2
      exact Nat.le_of_ble_eq_true h2
theorem mayBe_of {b : List Nat} {i h : Nat} : ∀ {l : List (Nat × Nat)}, (∀ x ∈ l, x.2 = 2 → (bit b i x.1 = true → x.1 < h) ∧ (bit b x.1 i = true → h ≤ x.1)) → mayBe b i h l = true
  | [], _ => rfl
  | x :: l, hl => by
    show cnd (Nat.beq x.2 2) (cnd (cnd (bit b i x.1) (Nat.blt x.1 h) true) (cnd (cnd (bit b x.1 i) (Nat.ble h x.1) true) (mayBe b i h l) false) false) (mayBe b i h l) = true
    have ih := mayBe_of (b := b) (i := i) (h := h) (l := l) fun y hy => hl y (List.mem_cons_of_mem _ hy)
    cases hc : Nat.beq x.2 2 with
    | false => exact ih
    | true =>
      obtain ⟨h1, h2⟩ := hl x (List.mem_cons_self ..) (Nat.eq_of_beq_eq_true hc)
      have e1 : cnd (bit b i x.1) (Nat.blt x.1 h) true = true := by
        cases hb : bit b i x.1 with
        | false => rfl
        | true => show Nat.blt x.1 h = true; simpa [Nat.blt_eq] using h1 hb
      have e2 : cnd (bit b x.1 i) (Nat.ble h x.1) true = true := by
        cases hb : bit b x.1 i with
        | false => rfl
        | true => exact Nat.ble_eq_true_of_le (h2 hb)
      show cnd (cnd (bit b i x.1) (Nat.blt x.1 h) true) (cnd (cnd (bit b x.1 i) (Nat.ble h x.1) true) (mayBe b i h l) false) false = true
      rw [e1]
      show cnd (cnd (bit b x.1 i) (Nat.ble h x.1) true) (mayBe b i h l) false = true
      rw [e2]
      exact ih
theorem laidBy_spec {b : List Nat} {i h : Nat} : ∀ {l : List (Nat × Nat)}, laidBy b i h l = true → ∀ x ∈ l, x.2 = 1 → bit b i x.1 = true → x.1 < h
  | [], _, x, hx, _, _ => absurd hx List.not_mem_nil
  | y :: l, hl, x, hx, hc, hb => by
    replace hl : cnd (Nat.beq y.2 1) (cnd (cnd (bit b i y.1) (Nat.blt y.1 h) true) (laidBy b i h l) false) (laidBy b i h l) = true := hl
    have hrest : laidBy b i h l = true := by
      cases h1 : Nat.beq y.2 1 with
      | false => rw [h1] at hl; exact hl
      | true => rw [h1] at hl; exact (cnd_and hl).2
    cases hx with
    | tail _ hx => exact laidBy_spec hrest x hx hc hb
    | head =>
      rw [hc] at hl
      have h2 := (cnd_and (show cnd (cnd (bit b i y.1) (Nat.blt y.1 h) true) (laidBy b i h l) false = true from hl)).1
      rw [hb] at h2
      simpa [Nat.blt_eq] using h2
theorem clsL_get : ∀ (l : List Oper) (i k : Nat), (clsL P l i)[k]? = (l[k]?).map fun o => (i + k, clsO P o.op)
  | [], i, k => by simp [clsL]
  | o :: l, i, k => by
    have e : clsL P (o :: l) i = (i, clsO P o.op) :: clsL P l (Nat.succ i) := rfl
    rw [e]
    cases k with
    | zero => rfl
    | succ k =>
      rw [List.getElem?_cons_succ, List.getElem?_cons_succ, clsL_get l (Nat.succ i) k]
      rw [show Nat.succ i + k = i + (k + 1) by omega]
theorem clsL_mem {l : List Oper} {k : Nat} {o : Oper} (h : l[k]? = some o) : (k, clsO P o.op) ∈ clsL P l 0 := by
  refine List.mem_of_getElem? (i := k) ?_
  rw [clsL_get, h, Nat.zero_add]
  rfl
theorem clsL_of {l : List Oper} {x : Nat × Nat} (h : x ∈ clsL P l 0) : ∃ o, l[x.1]? = some o ∧ x.2 = clsO P o.op := by
  obtain ⟨k, hk⟩ := List.mem_iff_getElem?.1 h
  rw [clsL_get] at hk
  obtain ⟨o, ho, rfl⟩ := Option.map_eq_some_iff.1 hk
  exact ⟨o, by rw [Nat.zero_add]; exact ho, rfl⟩
theorem heads_mem {n : Nat} {s : St} : ∀ {l : List Tel}, (n, s.h) ∈ heads P n s l ∧ ∀ t ∈ l, clsO P t.o.op = 2 → (t.i, t.s.h) ∈ heads P n s l
  | [] => ⟨List.mem_cons_self .., fun t ht => absurd ht List.not_mem_nil⟩
  | x :: l => by
    obtain ⟨h1, h2⟩ := heads_mem (n := n) (s := s) (l := l)
    have e : heads P n s (x :: l) = cnd (Nat.beq (clsO P x.o.op) 2) ((x.i, x.s.h) :: heads P n s l) (heads P n s l) := rfl
    rw [e]
    cases hc : Nat.beq (clsO P x.o.op) 2 with
    | true =>
      refine ⟨List.mem_cons_of_mem _ h1, fun t ht hcl => ?_⟩
      cases ht with
      | head => exact List.mem_cons_self ..
      | tail _ ht => exact List.mem_cons_of_mem _ (h2 t ht hcl)
    | false =>
      refine ⟨h1, fun t ht hcl => ?_⟩
      cases ht with
      | head => rw [hcl] at hc; cases hc
      | tail _ ht => exact h2 t ht hcl
end
end Go.Proofs.Vai
