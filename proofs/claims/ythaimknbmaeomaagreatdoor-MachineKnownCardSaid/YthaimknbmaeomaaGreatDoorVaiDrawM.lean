/- Drawn regions, thirteenth part: a row that is laid late, or early. -/
import Derived.Test.YthaimknbmaeomaaGreatDoorVaiDrawL
set_option linter.unusedVariables false
set_option linter.unusedSimpArgs false
set_option linter.unusedSectionVars false
namespace Go.Proofs.Vai
open Go Go.RowKit
variable [Env]

section
variable {P : Program} {N : Nat}
theorem kept_alloc (w : World) (obj : Obj) : Kept w (w.alloc obj) := ⟨rfl, rfl, rfl, by simp, fun k hk => heap_alloc_old w obj k hk⟩
theorem SR.late {μ : Inj} {σ : St} {w : World} {obj : Obj} {b : Pos} {blk : ABlk} {e : Ent} (h : SR P N μ σ w) (hb : μ b = none) (hlt : b.toNat < σ.n.toNat) (hget : σ.h.get b = some blk) (he : e.a.block = w.heap.size)
    (hbr : BR P N (upd μ b e) (w.alloc obj) blk e) : SR P N (upd μ b e) σ (w.alloc obj) := by
  have hsub : Sub μ (upd μ b e) := sub_upd (.inl hb)
  have hk := h.kept (kept_alloc w obj)
  have hpl : ∀ x ex, μ x = some ex → ex.a.block < w.heap.size := fun x ex hx => let ⟨k, _, h2⟩ := h.blk x ex hx; h2.lt
  refine ⟨fun x ex hx => ?_, ?_, fun x ex hx => ?_, hk.hN, fun g hg => hsub _ _ (h.glob g hg), hk.hn, hk.base⟩
  · by_cases hxb : x = b
    · subst hxb
      rw [upd_same] at hx
      cases hx
      exact ⟨blk, hget, hbr⟩
    · rw [upd_ne μ e hxb] at hx
      obtain ⟨k, h1, h2⟩ := hk.blk x ex hx
      exact ⟨k, h1, h2.keep hsub (Nat.le_refl _) fun _ => rfl⟩
  · intro x y ex ey kx ky hx hy gx gy dx dy hN hxy
    by_cases hxb : x = b
    · by_cases hyb : y = b
      · rw [hxb, hyb]
      · subst hxb
        rw [upd_same] at hx
        cases hx
        rw [upd_ne μ e hyb] at hy
        have := hpl y ey hy
        omega
    · rw [upd_ne μ e hxb] at hx
      by_cases hyb : y = b
      · subst hyb
        rw [upd_same] at hy
        cases hy
        have := hpl x ex hx
        omega
      · rw [upd_ne μ e hyb] at hy
        exact h.inj x y ex ey kx ky hx hy gx gy dx dy hN hxy
  · by_cases hxb : x = b
    · subst hxb; exact hlt
    · rw [upd_ne μ e hxb] at hx
      exact h.lt x ex hx
theorem resP_upd {μ : Inj} {b : Pos} {e : Ent} {p : Pos → Prop} (h : p b) : resP (upd μ b e) p = upd (resP μ p) b e := by
  funext x
  unfold resP upd
  by_cases hx : x = b
  · subst hx; simp [h]
  · simp [hx]
theorem resP_upd_no {μ : Inj} {b : Pos} {e : Ent} {p : Pos → Prop} (h : ¬ p b) : resP (upd μ b e) p = resP μ p := by
  funext x
  unfold resP upd
  by_cases hx : x = b
  · subst hx; simp [h]
  · simp [hx]
section
variable {r : Rec} {ops : List Oper} {tels : List Tel} {A : Nat → AAct} {S : Nat → St} {B : Nat → Bool} {μ₀ μ : Inj} {w₀ w : World} {D : Nat → Bool} {h : Nat} {ca : Act}
/-- A STEP OF CLASS 1. -/
theorem Inv.lay (hF : Fit P ops) (hT : Trc P r ops ops 0 tels A S B) (hI : Inv P N ops tels A S μ₀ w₀ D h μ ca w) {q : Nat} {t : Tel} (hq : tels[q]? = some t) (hD : D q = false) (hdone : ∀ j, bit (ahead ops) q j = true → D j = true)
    (hw : t.w = true) (hc : clsO P t.o.op = 1) (hx : opA t.o.op P (A q) (S q) = some (.val t.v (S (q + 1)))) (hrow : q < h → ∀ blk, S (q + 1) = (S q).push blk → (S h).h.get (S q).n = some blk) :
    ∃ μ' u w', (execOp ca.eval t.o).run P w = .ok (.value u) w' ∧ Inv P N ops tels A S μ₀ w₀ (andD D q) h μ' (ca.put t.o.dst u) w' := by
  obtain ⟨a', ha, hsame⟩ := hI.mask hF hT hq hdone
  have hg : ∀ g, g < P.globals.size → nmIn P ops tels S h q (pos g) := fun g hg => .inl (resP_some.1 (hI.sr.glob g hg)).1
  have hqo := (hT.tel q t hq).1
  have hql := hT.lt hq
  obtain ⟨v, blk, obj, U, own, hL⟩ := lay_sound hc ((hI.places hT).sub hg).sr ha (by rw [hsame]; exact hx)
  have hsays := hL.says (S q)
  rw [hsame, hx] at hsays
  obtain ⟨hv, hpush⟩ : t.v = v (S q).n ∧ S (q + 1) = (S q).push blk := by
    have := Option.some.inj hsays
    injection this with h1 h2
    exact ⟨h1, h2⟩
  have hnone := hI.undone q t hD hq hw hc
  have hsub : Sub μ (upd μ (S q).n ⟨⟨w.heap.size, 0, none⟩, own⟩) := sub_upd (.inl hnone)
  have hn1 : (S (q + 1)).n.toNat = (S q).n.toNat + 1 := by rw [hpush, push_n, Pos.toNat_succ]
  have hqh : q ≠ h := fun e => by
    subst e
    have := (hI.nxt t.o hqo).1
    rw [hc] at this
    cases this
  have hpl : ∀ x ex, μ x = some ex → ex.a.block < w.heap.size := fun x ex hx => ((hI.places hT).lies x ex hx).1
  have hNw : N ≤ w.heap.size := hI.sr.hN
  have hnm : nmOf P ops tels S h q (S q).n := .inr ⟨q, ⟨t, hq, hw, hc, rfl⟩, .inl rfl⟩
  have hu : VR P (resP (upd μ (S q).n ⟨⟨w.heap.size, 0, none⟩, own⟩) (nmOf P ops tels S h q)) t.v (U w.heap.size) := by
    rw [hv]
    exact hL.val _ _ _ (resP_some.2 ⟨hnm, upd_n _ _ _⟩)
  have hbr : ∀ (p : Pos → Prop), (∀ b, nmIn P ops tels S h q b → p b) → BR P N (resP (upd μ (S q).n ⟨⟨w.heap.size, 0, none⟩, own⟩) p) (w.alloc obj) blk ⟨⟨w.heap.size, 0, none⟩, own⟩ := fun p hp =>
    hL.br _ _ _ (resP_sub fun b e hb he => ⟨hp b hb, hsub b e he⟩) hNw (heap_alloc_new w obj)
  obtain ⟨h1, h2⟩ := hI.temps hF hT hq hD hsub (Nat.le_refl _) hu
  refine ⟨upd μ (S q).n ⟨⟨w.heap.size, 0, none⟩, own⟩, U w.heap.size, w.alloc obj, hL.run w, ?_⟩
  have hk := kept_alloc w obj
  refine ⟨fun i hi => ?_, fun i j hi hb => ?_, hI.hle, fun o ho => ?_, fun e o ho hh => ?_, by rw [put_size]; exact hI.size, ?_, h1, h2, ?_, fun j y hj hhj hy hwy hcl => ?_, fun b e hb => ?_, fun j y hj hy hwy hcl => ?_, ?_, ?_, ?_⟩
  · by_cases hiq : i = q
    · subst hiq; exact hql
    · rw [andD_ne D hiq] at hi; exact hI.lt i hi
  · by_cases hiq : i = q
    · subst hiq; exact andD_mono (hdone j hb)
    · rw [andD_ne D hiq] at hi; exact andD_mono (hI.down i j hi hb)
  · obtain ⟨g1, g2⟩ := hI.nxt o ho
    exact ⟨g1, by rw [andD_ne D (Ne.symm hqh)]; exact g2⟩
  · have hne : e ≠ q := fun e' => by subst e'; rw [hqo] at ho; cases ho; rw [hc] at hh; cases hh
    rw [andD_ne D hne]
    exact hI.hvy e o ho hh
  · rw [put_dfr]
    exact hI.dfr.mono (resP_sub fun b e hb he => ⟨hb, hsub b e he⟩)
  · by_cases hlt : q < h
    · have hb : nmB S h (S q).n := by
        have := hT.mono (j := q + 1) (k := h) (by omega) hI.hle
        show (S q).n.toNat < (S h).n.toNat
        omega
      rw [resP_upd hb]
      refine hI.sr.late ?_ hb (hrow hlt blk hpush) rfl ?_
      · unfold resP; rw [if_pos hb]; exact hnone
      · rw [← resP_upd hb]
        refine hbr _ fun b hb' => ?_
        rcases hb' with hb' | ⟨i, ⟨y, q1, q2, q3, rfl⟩, hbi⟩
        · exact hb'
        · have hiq := bit_lt q i hbi
          have := hT.mono (j := i) (k := q) (by omega) (by omega)
          show (S i).n.toNat < (S h).n.toNat
          have hb : (S q).n.toNat < (S h).n.toNat := hb
          omega
    · have hb : ¬ nmB S h (S q).n := fun hb => by
        have := hT.mono (j := h) (k := q) (by omega) (by omega)
        have hb : (S q).n.toNat < (S h).n.toNat := hb
        omega
      rw [resP_upd_no hb]
      exact hI.sr.kept hk
  · by_cases hjq : j = q
    · subst hjq
      refine ⟨_, blk, upd_n _ _ _, hpush, hL.alive, hbr _ fun b hb => hb.imp id fun ⟨i, h4, h5⟩ => ⟨i, h4, .inr h5⟩, hNw, fun b' e' hne hb' => ?_⟩
      rw [upd_ne _ _ hne] at hb'
      exact Nat.ne_of_lt (hpl b' e' hb')
    · rw [andD_ne D hjq] at hj
      obtain ⟨e, blk', p1, p2, p3, p4, p5, p6⟩ := hI.pend j y hj hhj hy hwy hcl
      refine ⟨e, blk', hsub _ _ p1, p2, p3, p4.keep (resP_sub fun b e hb he => ⟨hb, hsub b e he⟩) hk.size (fun _ => hk.same _ p4.lt), p5, fun b' e' hne hb' => ?_⟩
      by_cases hbq : b' = (S q).n
      · subst hbq
        rw [upd_same] at hb'
        cases hb'
        exact Nat.ne_of_gt p4.lt
      · rw [upd_ne _ _ hbq] at hb'
        exact p6 b' e' hne hb'
  · by_cases hbq : b = (S q).n
    · subst hbq
      by_cases hlt : q < h
      · left
        have := hT.mono (j := q + 1) (k := h) (by omega) hI.hle
        omega
      · exact .inr ⟨q, andD_same D q, by omega, t, hq, hw, hc, rfl⟩
    · rw [upd_ne _ _ hbq] at hb
      rcases hI.dom b e hb with hb' | ⟨j, q1, q2, q3⟩
      · exact .inl hb'
      · exact .inr ⟨j, andD_mono q1, q2, q3⟩
  · have hne : j ≠ q := fun e' => by subst e'; rw [andD_same] at hj; cases hj
    rw [andD_ne D hne] at hj
    have hnn : (S j).n ≠ (S q).n := by
      intro he
      rcases Nat.lt_or_gt_of_ne hne with hl | hl
      · have hn2 := hT.lays hF hy hwy hcl
        have := hT.mono (j := j + 1) (k := q) (by omega) (by omega)
        rw [he] at hn2
        omega
      · have := hT.mono (j := q + 1) (k := j) (by omega) (Nat.le_of_lt (hT.lt hy))
        rw [he] at this
        omega
    rw [upd_ne _ _ hnn]
    exact hI.undone j y hj hy hwy hcl
  · exact ⟨hI.ev.os, hI.ev.tape, hI.ev.output, Nat.le_trans hI.ev.size hk.size, fun k hk1 hk2 => (hk.same k (Nat.lt_of_lt_of_le hk1 hI.ev.size)).trans (hI.ev.same k hk1 hk2)⟩
  · refine ⟨hI.ext.sub.trans hsub, fun b e hb => ?_⟩
    by_cases hbq : b = (S q).n
    · subst hbq
      rw [upd_same] at hb
      cases hb
      exact .inl hI.ev.size
    · rw [upd_ne _ _ hbq] at hb
      exact hI.ext.new b e hb
  · intro b e hb
    by_cases hbq : b = (S q).n
    · subst hbq
      exact .inr (hT.mono (Nat.zero_le _) (Nat.le_of_lt hql))
    · rw [upd_ne _ _ hbq] at hb
      exact hI.fresh b e hb
end
end
end Go.Proofs.Vai
