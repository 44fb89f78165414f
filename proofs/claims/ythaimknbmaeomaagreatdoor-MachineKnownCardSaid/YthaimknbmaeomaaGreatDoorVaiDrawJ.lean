/- Drawn regions, tenth part: an operation that turns nothing. -/
import Derived.Test.YthaimknbmaeomaaGreatDoorVaiDrawI
set_option linter.unusedVariables false
set_option linter.unusedSimpArgs false
set_option linter.unusedSectionVars false
namespace Go.Proofs.Vai
open Go Go.RowKit
variable [Env]

section
variable {P : Program} {N : Nat}

theorem SR.kept {μ : Inj} {σ : St} {w w' : World} (h : SR P N μ σ w) (hk : Kept w w') : SR P N μ σ w' :=
  ⟨fun b e he => let ⟨k, h1, h2⟩ := h.blk b e he; ⟨k, h1, h2.keep (Sub.refl _) hk.size fun _ => hk.same _ h2.lt⟩, h.inj, h.lt, Nat.le_trans h.hN hk.size, h.glob, h.hn, Env.keep w w' hk.size (fun k hk' => hk.same k (by have := h.hn; have := h.hN; omega)) h.base⟩
def andD (D : Nat → Bool) (q : Nat) : Nat → Bool := fun i => if i = q then true else D i
theorem andD_same (D : Nat → Bool) (q : Nat) : andD D q q = true := if_pos rfl
theorem andD_ne (D : Nat → Bool) {q i : Nat} (h : i ≠ q) : andD D q i = D i := if_neg h
theorem andD_mono {D : Nat → Bool} {q i : Nat} (h : D i = true) : andD D q i = true := by
  by_cases hi : i = q
  · rw [hi]; exact andD_same D q
  · rw [andD_ne D hi]; exact h
theorem put_getD {ca : Act} {dst : Option Tmp} {u : Value} {d : Tmp} (hlt : ∀ x, dst = some x → x < ca.tmps.size) : (ca.put dst u).tmps.getD d undef = if dst = some d then u else ca.tmps.getD d undef := by
  cases dst with
  | none => rfl
  | some x =>
    show (ca.tmps.setIfInBounds x u).getD d undef = _
    by_cases hx : x = d
    · subst hx
      have := hlt x rfl
      rw [if_pos rfl]
      simp [Array.getD_eq_getD_getElem?, this]
    · rw [if_neg (fun e => hx (Option.some.inj e))]
      simp [Array.getD_eq_getD_getElem?, Array.getElem?_setIfInBounds_ne hx]
theorem put_size (ca : Act) (dst : Option Tmp) (u : Value) : (ca.put dst u).tmps.size = ca.tmps.size := by
  cases dst with
  | none => rfl
  | some x => exact Array.size_setIfInBounds
theorem put_dfr (ca : Act) (dst : Option Tmp) (u : Value) : (ca.put dst u).defers = ca.defers := by cases dst <;> rfl
section
variable {r : Rec} {ops : List Oper} {tels : List Tel} {A : Nat → AAct} {S : Nat → St} {B : Nat → Bool} {μ₀ μ : Inj} {w₀ w : World} {D : Nat → Bool} {h : Nat} {ca : Act}
theorem Inv.dstLt (hT : Trc P r ops ops 0 tels A S B) (hI : Inv P N ops tels A S μ₀ w₀ D h μ ca w) {q : Nat} {t : Tel} (hq : tels[q]? = some t) : ∀ x, t.o.dst = some x → x < ca.tmps.size := by
  intro x hx
  have hp := (put_facts (hT.tel q t hq).2.2.2.2.2.2.2).2.2.2.2 x hx
  rw [(hT.same q (Nat.le_of_lt (hT.lt hq))).1, ← hI.size] at hp
  exact hp
/-- The temporaries behind operation q, whatever has become of the map. -/
theorem Inv.temps (hF : Fit P ops) (hT : Trc P r ops ops 0 tels A S B) (hI : Inv P N ops tels A S μ₀ w₀ D h μ ca w) {q : Nat} {t : Tel} (hq : tels[q]? = some t) (hD : D q = false) {u : Value} {μ' : Inj} {h' : Nat} (hs : Sub μ μ') (hh : (S h).n.toNat ≤ (S h').n.toNat)
    (hu : VR P (resP μ' (nmOf P ops tels S h' q)) t.v u) :
    (∀ i y d, andD D q i = true → tels[i]? = some y → y.o.dst = some d → VR P (resP μ' (nmOf P ops tels S h' i)) y.v ((ca.put t.o.dst u).tmps.getD d undef)) ∧
    ∀ d, (∀ (i : Nat) (o : Oper), ops[i]? = some o → o.dst ≠ some d) → VR P (resP μ' (nmB S 0)) ((A 0).tmp d) ((ca.put t.o.dst u).tmps.getD d undef) := by
  have hqo := (hT.tel q t hq).1
  refine ⟨fun i y d hi hy hd => ?_, fun d hn => ?_⟩
  · rw [put_getD (hI.dstLt hT hq)]
    by_cases hiq : i = q
    · subst hiq
      rw [hq] at hy
      cases hy
      rw [if_pos hd]
      exact hu
    · rw [andD_ne D hiq] at hi
      have hyo := (hT.tel i y hy).1
      rw [if_neg (fun e => by
        rcases Nat.lt_or_gt_of_ne hiq with hl | hl
        · exact hF.dst i q y.o t.o d hl hyo hqo hd e
        · exact hF.dst q i t.o y.o d hl hqo hyo e hd)]
      refine (hI.done i y d hi hy hd).mono (resP_sub fun b e hb he => ⟨hb.imp (fun q => Nat.lt_of_lt_of_le q hh) id, hs b e he⟩)
  · rw [put_getD (hI.dstLt hT hq), if_neg (hn q t.o hqo)]
    exact (hI.old d hn).mono (resP_sub fun b e hb he => ⟨hb, hs b e he⟩)
/-- AN OPERATION THAT TURNS NOTHING: not wanted, of class 4, a read. -/
theorem Inv.light (hF : Fit P ops) (hT : Trc P r ops ops 0 tels A S B) (hI : Inv P N ops tels A S μ₀ w₀ D h μ ca w) {q : Nat} {t : Tel} (hq : tels[q]? = some t) (hD : D q = false) (hdone : ∀ j, bit (ahead ops) q j = true → D j = true)
    (hc : clsO P t.o.op ≠ 2) (hl : t.w = true → clsO P t.o.op ≠ 1) {u : Value} {w' : World} (hu : VR P (resP μ (nmOf P ops tels S h q)) t.v u) (hk : Kept w w') :
    Inv P N ops tels A S μ₀ w₀ (andD D q) h μ (ca.put t.o.dst u) w' := by
  have hqo := (hT.tel q t hq).1
  obtain ⟨h1, h2⟩ := hI.temps hF hT hq hD (Sub.refl μ) (Nat.le_refl _) hu
  refine ⟨fun i hi => ?_, fun i j hi hb => ?_, hI.hle, fun o ho => ?_, fun e o ho hh => ?_, by rw [put_size]; exact hI.size, by rw [put_dfr]; exact hI.dfr, h1, h2, hI.sr.kept hk, fun j y hj hhj hy hw hcl => ?_, fun b e hb => ?_, fun j y hj hy hw hcl => ?_, ?_, hI.ext, hI.fresh⟩
  · by_cases hiq : i = q
    · subst hiq; exact hT.lt hq
    · rw [andD_ne D hiq] at hi; exact hI.lt i hi
  · by_cases hiq : i = q
    · subst hiq; exact andD_mono (hdone j hb)
    · rw [andD_ne D hiq] at hi; exact andD_mono (hI.down i j hi hb)
  · obtain ⟨g1, g2⟩ := hI.nxt o ho
    refine ⟨g1, ?_⟩
    have hne : h ≠ q := fun e => by subst e; rw [hqo] at ho; cases ho; exact hc g1
    rw [andD_ne D hne]; exact g2
  · have hne : e ≠ q := fun e' => by subst e'; rw [hqo] at ho; cases ho; exact hc hh
    rw [andD_ne D hne]
    exact hI.hvy e o ho hh
  · have hne : j ≠ q := fun e' => by subst e'; rw [hq] at hy; cases hy; exact hl hw hcl
    rw [andD_ne D hne] at hj
    obtain ⟨e, blk, p1, p2, p3, p4, p5, p6⟩ := hI.pend j y hj hhj hy hw hcl
    exact ⟨e, blk, p1, p2, p3, p4.keep (Sub.refl _) hk.size fun _ => hk.same _ p4.lt, p5, p6⟩
  · rcases hI.dom b e hb with hb' | ⟨j, q1, q2, q3⟩
    · exact .inl hb'
    · exact .inr ⟨j, andD_mono q1, q2, q3⟩
  · have hne : j ≠ q := fun e' => by subst e'; rw [andD_same] at hj; cases hj
    rw [andD_ne D hne] at hj
    exact hI.undone j y hj hy hw hcl
  · exact ⟨hk.os.trans hI.ev.os, hk.tape.trans hI.ev.tape, hk.output.trans hI.ev.output, Nat.le_trans hI.ev.size hk.size, fun k hk1 hk2 => (hk.same k (Nat.lt_of_lt_of_le hk1 hI.ev.size)).trans (hI.ev.same k hk1 hk2)⟩
end
end
end Go.Proofs.Vai
