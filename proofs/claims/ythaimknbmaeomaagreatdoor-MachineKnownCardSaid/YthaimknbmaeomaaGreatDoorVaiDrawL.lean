/- Drawn regions, twelfth part: an operation of class 4, one that is not wanted. -/
import Derived.Test.YthaimknbmaeomaaGreatDoorVaiDrawK
set_option linter.unusedVariables false
set_option linter.unusedSimpArgs false
set_option linter.unusedSectionVars false
namespace Go.Proofs.Vai
open Go Go.RowKit
variable [Env]

section
variable {P : Program} {N : Nat} {r : Rec} {ops : List Oper} {tels : List Tel} {A : Nat → AAct} {S : Nat → St} {B : Nat → Bool} {μ₀ μ : Inj} {w₀ w : World} {D : Nat → Bool} {h : Nat} {ca : Act}
theorem Inv.places (hT : Trc P r ops ops 0 tels A S B) (hI : Inv P N ops tels A S μ₀ w₀ D h μ ca w) : Places P N μ w (S ops.length).n.toNat := by
  have key : ∀ b e, μ b = some e → (b.toNat < (S h).n.toNat ∧ resP μ (nmB S h) b = some e) ∨ ∃ j t blk, tels[j]? = some t ∧ b = (S j).n ∧ S (j + 1) = (S j).push blk ∧ BR P N (resP μ (nmOf P ops tels S h j)) w blk e ∧ N ≤ e.a.block := by
    intro b e he
    rcases hI.dom b e he with hb | ⟨j, h1, h2, t, h3, h4, h5, rfl⟩
    · exact .inl ⟨hb, resP_some.2 ⟨hb, he⟩⟩
    · obtain ⟨e', blk, p1, p2, p3, p4, p5, _⟩ := hI.pend j t h1 h2 h3 h4 h5
      rw [he] at p1
      cases p1
      exact .inr ⟨j, t, blk, h3, rfl, p2, p4, p5⟩
  refine ⟨fun b e he => ?_, fun b e he => ?_, fun g hg => (resP_some.1 (hI.sr.glob g hg)).2, hI.sr.hN, hI.sr.hn, hI.sr.base⟩
  · rcases key b e he with ⟨hb, _⟩ | ⟨j, t, blk, h1, rfl, h2, _⟩
    · exact Nat.lt_of_lt_of_le hb (hT.mono hI.hle (Nat.le_refl _))
    · have hj := hT.lt h1
      have : (S (j + 1)).n.toNat = (S j).n.toNat + 1 := by rw [h2, push_n, Pos.toNat_succ]
      have := hT.mono (j := j + 1) (k := ops.length) (by omega) (Nat.le_refl _)
      omega
  · rcases key b e he with ⟨_, hb⟩ | ⟨j, t, blk, h1, rfl, h2, h3, h4⟩
    · exact hI.sr.places.lies b e hb
    · exact ⟨h3.lt, .inr h4⟩
theorem Places.sub {m : Nat} (hp : Places P N μ w m) {p : Pos → Prop} (hg : ∀ g, g < P.globals.size → p (pos g)) : Places P N (resP μ p) w m :=
  ⟨fun b e he => hp.dom b e (resP_some.1 he).2, fun b e he => hp.lies b e (resP_some.1 he).2, fun g h => resP_some.2 ⟨hg g h, hp.glob g h⟩, hp.hN, hp.hn, hp.base⟩
/-- A STEP OF CLASS 4. -/
theorem Inv.pure (hP : NoNum P) (hF : Fit P ops) (hT : Trc P r ops ops 0 tels A S B) (hI : Inv P N ops tels A S μ₀ w₀ D h μ ca w) {q : Nat} {t : Tel} (hq : tels[q]? = some t) (hD : D q = false) (hdone : ∀ j, bit (ahead ops) q j = true → D j = true)
    (hc : clsO P t.o.op = 4) {s1 : St} (hx : opA t.o.op P (A q) (S q) = some (.val t.v s1)) :
    ∃ u w', (execOp ca.eval t.o).run P w = .ok (.value u) w' ∧ Inv P N ops tels A S μ₀ w₀ (andD D q) h μ (ca.put t.o.dst u) w' := by
  obtain ⟨a', ha, hsame⟩ := hI.mask hF hT hq hdone
  have hg : ∀ g, g < P.globals.size → nmIn P ops tels S h q (pos g) := fun g hg => .inl (resP_some.1 (hI.sr.glob g hg)).1
  obtain ⟨u, w', h1, h2, h3⟩ := pure_sound hP hc (by rw [hsame]; exact hx) ha ((hI.places hT).sub hg)
  refine ⟨u, w', h1, hI.light hF hT hq hD hdone (by rw [hc]; decide) (fun _ => by rw [hc]; decide) (h2.mono (resP_sub fun b e hb he => ⟨?_, he⟩)) h3⟩
  rcases hb with hb | ⟨i, h4, h5⟩
  · exact .inl hb
  · exact .inr ⟨i, h4, .inr h5⟩
/-- What is not wanted. -/
theorem Inv.idle (hF : Fit P ops) (hT : Trc P r ops ops 0 tels A S B) (hI : Inv P N ops tels A S μ₀ w₀ D h μ ca w) {q : Nat} {t : Tel} (hq : tels[q]? = some t) (hD : D q = false) (hdone : ∀ j, bit (ahead ops) q j = true → D j = true)
    (hc : clsO P t.o.op ≠ 2) (hw : t.w = false) (hv : t.v = .undef) : Inv P N ops tels A S μ₀ w₀ (andD D q) h μ (ca.put t.o.dst undef) w :=
  hI.light hF hT hq hD hdone hc (fun e => by rw [hw] at e; cases e) (by rw [hv]; exact undef_rel) ⟨rfl, rfl, rfl, Nat.le_refl _, fun _ _ => rfl⟩
end
end Go.Proofs.Vai
