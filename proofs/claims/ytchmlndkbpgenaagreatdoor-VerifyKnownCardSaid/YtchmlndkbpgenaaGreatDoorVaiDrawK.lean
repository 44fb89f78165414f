/- Drawn regions, eleventh part: what the second evaluations say. -/
import Derived.Test.YtchmlndkbpgenaaGreatDoorVaiDrawJ
set_option linter.unusedVariables false
namespace Go.Proofs.Vai
open Go Go.RowKit

section
variable {P : Program}

theorem cnd_and {b c : Bool} (h : cnd b c false = true) : b = true ∧ c = true := by cases b <;> simp_all [cnd]
theorem drawChk_spec {b : List Nat} {all : List Tel} {hs : List (Nat × Tr ABlk)} : ∀ {l : List Tel}, drawChk P b all hs l = true → ∀ t ∈ l, t.w = true → (clsO P t.o.op = 0 → chkHeads P b all t hs = true) ∧ (clsO P t.o.op = 1 → chkLay P b all t hs = true)
  | [], _, t, ht, _ => absurd ht List.not_mem_nil
  | x :: l, h, t, ht, hw => by
    replace h : cnd x.w (cnd (Nat.beq (clsO P x.o.op) 0) (cnd (chkHeads P b all x hs) (drawChk P b all hs l) false) (cnd (Nat.beq (clsO P x.o.op) 1) (cnd (chkLay P b all x hs) (drawChk P b all hs l) false) (drawChk P b all hs l))) (drawChk P b all hs l) = true := h
    have hrest : drawChk P b all hs l = true := by
      cases hxw : x.w with
      | false => rw [hxw] at h; exact h
      | true =>
        rw [hxw] at h
        replace h : cnd (Nat.beq (clsO P x.o.op) 0) (cnd (chkHeads P b all x hs) (drawChk P b all hs l) false) (cnd (Nat.beq (clsO P x.o.op) 1) (cnd (chkLay P b all x hs) (drawChk P b all hs l) false) (drawChk P b all hs l)) = true := h
        cases h0 : Nat.beq (clsO P x.o.op) 0 with
        | true => rw [h0] at h; exact (cnd_and h).2
        | false =>
          rw [h0] at h
          replace h : cnd (Nat.beq (clsO P x.o.op) 1) (cnd (chkLay P b all x hs) (drawChk P b all hs l) false) (drawChk P b all hs l) = true := h
          cases h1 : Nat.beq (clsO P x.o.op) 1 with
          | true => rw [h1] at h; exact (cnd_and h).2
          | false => rw [h1] at h; exact h
    cases ht with
    | tail _ ht => exact drawChk_spec hrest t ht hw
    | head =>
      rw [hw] at h
      replace h : cnd (Nat.beq (clsO P x.o.op) 0) (cnd (chkHeads P b all x hs) (drawChk P b all hs l) false) (cnd (Nat.beq (clsO P x.o.op) 1) (cnd (chkLay P b all x hs) (drawChk P b all hs l) false) (drawChk P b all hs l)) = true := h
      refine ⟨fun hc => ?_, fun hc => ?_⟩
      · rw [hc] at h; exact (cnd_and h).1
      · rw [hc] at h; exact (cnd_and h).1
theorem chkHeads_spec {b : List Nat} {all : List Tel} {t : Tel} : ∀ {hs : List (Nat × Tr ABlk)}, chkHeads P b all t hs = true → ∀ h ∈ hs, mayBe P b t.i h.1 all = true → laidBy P b t.i h.1 all = true ∧ chkAtHead P t h.2 = true
  | x :: hs, hc, h, hm, hb => by
    replace hc : cnd (mayBe P b t.i x.1 all) (cnd (laidBy P b t.i x.1 all) (cnd (chkAtHead P t x.2) (chkHeads P b all t hs) false) false) (chkHeads P b all t hs) = true := hc
    cases hm with
    | head =>
      rw [hb] at hc
      obtain ⟨h1, h2⟩ := cnd_and (b := laidBy P b t.i x.1 all) hc
      exact ⟨h1, (cnd_and h2).1⟩
    | tail _ hm =>
      cases hq : mayBe P b t.i x.1 all with
      | true =>
        rw [hq] at hc
        obtain ⟨h1, h2⟩ := cnd_and (b := laidBy P b t.i x.1 all) hc
        exact chkHeads_spec (cnd_and h2).2 h hm hb
      | false => rw [hq] at hc; exact chkHeads_spec hc h hm hb
theorem chkRow_spec {b : List Nat} {all : List Tel} {t : Tel} {s : St} : ∀ {hs : List (Nat × Tr ABlk)}, chkRow P b all t s hs = true → ∀ h ∈ hs, t.i < h.1 → mayBe P b t.i h.1 all = true → eqOB (s.h.get t.s.n) (h.2.get t.s.n) = true
  | x :: hs, hc, h, hm, hlt, hb => by
    replace hc : cnd (Nat.blt t.i x.1 && mayBe P b t.i x.1 all) (cnd (eqOB (s.h.get t.s.n) (x.2.get t.s.n)) (chkRow P b all t s hs) false) (chkRow P b all t s hs) = true := hc
    cases hm with
    | head =>
      have : (Nat.blt t.i x.1 && mayBe P b t.i x.1 all) = true := by rw [hb, Bool.and_true]; simpa [Nat.blt_eq] using hlt
      rw [this] at hc
      exact (cnd_and hc).1
    | tail _ hm =>
      cases hq : (Nat.blt t.i x.1 && mayBe P b t.i x.1 all) with
      | true => rw [hq] at hc; exact chkRow_spec (cnd_and hc).2 h hm hlt hb
      | false => rw [hq] at hc; exact chkRow_spec hc h hm hlt hb
theorem mayBe_of {b : List Nat} {i h : Nat} : ∀ {l : List Tel}, (∀ t ∈ l, clsO P t.o.op = 2 → (bit b i t.i = true → t.i < h) ∧ (bit b t.i i = true → h ≤ t.i)) → mayBe P b i h l = true
  | [], _ => rfl
  | t :: l, hl => by
    unfold mayBe
    rw [Bool.and_eq_true]
    refine ⟨?_, mayBe_of fun x hx => hl x (List.mem_cons_of_mem _ hx)⟩
    cases hc : Nat.beq (clsO P t.o.op) 2 with
    | false => rfl
    | true =>
      obtain ⟨h1, h2⟩ := hl t (List.mem_cons_self ..) (Nat.eq_of_beq_eq_true hc)
      rw [cond_true, Bool.and_eq_true]
      refine ⟨?_, ?_⟩
      · cases hb : bit b i t.i with
        | false => rfl
        | true => rw [cond_true]; simpa [Nat.blt_eq] using h1 hb
      · cases hb : bit b t.i i with
        | false => rfl
        | true => rw [cond_true]; exact Nat.ble_eq_true_of_le (h2 hb)
theorem laidBy_spec {b : List Nat} {i h : Nat} : ∀ {l : List Tel}, laidBy P b i h l = true → ∀ t ∈ l, clsO P t.o.op = 1 → bit b i t.i = true → t.i < h
  | [], _, t, ht, _, _ => absurd ht List.not_mem_nil
  | x :: l, hl, t, ht, hc, hb => by
    unfold laidBy at hl
    rw [Bool.and_eq_true] at hl
    cases ht with
    | head =>
      rw [hc, hb] at hl
      simpa [Nat.blt_eq] using hl.1
    | tail _ ht => exact laidBy_spec hl.2 t ht hc hb
theorem heads_mem {n : Nat} {s : St} : ∀ {l : List Tel}, (n, s.h) ∈ heads P n s l ∧ ∀ t ∈ l, clsO P t.o.op = 2 → (t.i, t.s.h) ∈ heads P n s l
  | [] => ⟨List.mem_cons_self .., fun t ht => absurd ht List.not_mem_nil⟩
  | x :: l => by
    obtain ⟨h1, h2⟩ := heads_mem (n := n) (s := s) (l := l)
    unfold heads
    cases hc : Nat.beq (clsO P x.o.op) 2 with
    | true =>
      refine ⟨List.mem_cons_of_mem _ h1, fun t ht hcl => ?_⟩
      cases ht with
      | head => exact List.mem_cons_self ..
      | tail _ ht => exact List.mem_cons_of_mem _ (h2 t ht hcl)
    | false =>
      refine ⟨h1, fun t ht hcl => ?_⟩
      cases ht with
      | head => rw [hcl] at hc; cases hc
      | tail _ ht => exact h2 t ht hcl
end
end Go.Proofs.Vai
