/- Drawn regions, fifteenth part: a heavy operation. -/
import Derived.Test.YthaimknbmaeomaaGreatDoorVaiDrawN
set_option linter.unusedVariables false
set_option linter.unusedSimpArgs false
set_option linter.unusedSectionVars false
namespace Go.Proofs.Vai
open Go Go.RowKit
variable [Env]

section
variable {P : Program} {N : Nat}
theorem next_head (P : Program) (ops : List Oper) : ∀ d h, ops.length - h = d → h ≤ ops.length → ∃ h', h ≤ h' ∧ h' ≤ ops.length ∧ (∀ o, ops[h']? = some o → clsO P o.op = 2) ∧ ∀ e o, h ≤ e → e < h' → ops[e]? = some o → clsO P o.op ≠ 2 := by
  intro d
  induction d with
  | zero =>
    intro h hd hle
    refine ⟨h, Nat.le_refl _, hle, fun o ho => ?_, fun e o h1 h2 => by omega⟩
    have := (List.getElem?_eq_some_iff.1 ho).1
    omega
  | succ d ih =>
    intro h hd hle
    have hlt : h < ops.length := by omega
    have ho : ops[h]? = some ops[h] := List.getElem?_eq_getElem hlt
    by_cases hc : clsO P (ops[h]).op = 2
    · exact ⟨h, Nat.le_refl _, hle, fun o h' => by rw [ho] at h'; cases h'; exact hc, fun e o h1 h2 => by omega⟩
    · obtain ⟨h', h1, h2, h3, h4⟩ := ih (h + 1) (by omega) (by omega)
      refine ⟨h', by omega, h2, h3, fun e o g1 g2 g3 => ?_⟩
      by_cases he : e = h
      · subst he; rw [ho] at g3; cases g3; exact hc
      · exact h4 e o (by omega) g2 g3
theorem SR.pushed {ν : Inj} {σ : St} {w : World} {blk : ABlk} {e : Ent} (h : SR P N ν σ w) (hb : BR P N (upd ν σ.n e) w blk e) (hp : ∀ b' e', ν b' = some e' → e'.a.block ≠ e.a.block) : SR P N (upd ν σ.n e) (σ.push blk) w := by
  have hsub : Sub ν (upd ν σ.n e) := sub_upd (.inl h.fresh)
  have hn : (σ.push blk).n.toNat = σ.n.toNat + 1 := by rw [push_n, Pos.toNat_succ]
  refine ⟨fun x ex hx => ?_, ?_, fun x ex hx => ?_, h.hN, fun g hg => hsub _ _ (h.glob g hg), h.hn, h.base⟩
  · by_cases hxb : x = σ.n
    · subst hxb
      rw [upd_same] at hx
      cases hx
      exact ⟨blk, by rw [push_get, if_pos rfl], hb⟩
    · rw [upd_ne ν e hxb] at hx
      obtain ⟨k, h1, h2⟩ := h.blk x ex hx
      exact ⟨k, by rw [push_get, if_neg (Ne.symm hxb)]; exact h1, h2.keep hsub (Nat.le_refl _) fun _ => rfl⟩
  · intro x y ex ey kx ky hx hy gx gy dx dy hN hxy
    by_cases hxb : x = σ.n
    · by_cases hyb : y = σ.n
      · rw [hxb, hyb]
      · subst hxb
        rw [upd_same] at hx
        cases hx
        rw [upd_ne ν e hyb] at hy
        exact absurd hxy.symm (hp y ey hy)
    · rw [upd_ne ν e hxb] at hx
      by_cases hyb : y = σ.n
      · subst hyb
        rw [upd_same] at hy
        cases hy
        exact absurd hxy (hp x ex hx)
      · rw [upd_ne ν e hyb] at hy
        rw [push_get, if_neg (Ne.symm hxb)] at gx
        rw [push_get, if_neg (Ne.symm hyb)] at gy
        exact h.inj x y ex ey kx ky hx hy gx gy dx dy hN hxy
  · rw [hn]
    by_cases hxb : x = σ.n
    · subst hxb; omega
    · rw [upd_ne ν e hxb] at hx
      have := h.lt x ex hx
      omega
theorem SR.pushNo {ν : Inj} {σ : St} {w : World} {blk : ABlk} (h : SR P N ν σ w) : SR P N ν (σ.push blk) w := by
  have hn : (σ.push blk).n.toNat = σ.n.toNat + 1 := by rw [push_n, Pos.toNat_succ]
  have hne : ∀ x ex, ν x = some ex → σ.n ≠ x := fun x ex hx e => by have := h.fresh; rw [e, hx] at this; cases this
  refine ⟨fun x ex hx => ?_, fun x y ex ey kx ky hx hy gx gy => ?_, fun x ex hx => (by have := h.lt x ex hx; omega), h.hN, h.glob, h.hn, h.base⟩
  · obtain ⟨k, h1, h2⟩ := h.blk x ex hx
    exact ⟨k, by rw [push_get, if_neg (hne x ex hx)]; exact h1, h2⟩
  · rw [push_get, if_neg (hne x ex hx)] at gx
    rw [push_get, if_neg (hne y ey hy)] at gy
    exact h.inj x y ex ey kx ky hx hy gx gy
section
variable {r : Rec} {ops : List Oper} {tels : List Tel} {A : Nat → AAct} {S : Nat → St} {B : Nat → Bool} {μ₀ μ : Inj} {w₀ w : World} {D : Nat → Bool} {h : Nat} {ca : Act}
/-- Low names as the one says, the others as the other. -/
def joinI (n : Nat) (μ₁ μ : Inj) : Inj := fun b => if b.toNat < n then μ₁ b else μ b
theorem joinI_lo {n : Nat} {μ₁ μ : Inj} {b : Pos} (h : b.toNat < n) : joinI n μ₁ μ b = μ₁ b := if_pos h
theorem joinI_hi {n : Nat} {μ₁ μ : Inj} {b : Pos} (h : n ≤ b.toNat) : joinI n μ₁ μ b = μ b := if_neg (Nat.not_lt.2 h)

/-- A HEAVY OPERATION: the next one; then on to the one behind it. -/
theorem Inv.heavy (hF : Fit P ops) (hT : Trc P r ops ops 0 tels A S B) (hI : Inv P N ops tels A S μ₀ w₀ D h μ ca w) {t : Tel} (hq : tels[h]? = some t) (hdone : ∀ j, bit (ahead ops) h j = true → D j = true)
    (hc : clsO P t.o.op = 2) {μ₁ : Inj} {w₁ : World} {u : Value} (hg : Goes P N (resP μ (nmB S h)) (S h) w μ₁ (S (h + 1)) w₁) (hu : VR P μ₁ t.v u) :
    ∃ μ' h', Inv P N ops tels A S μ₀ w₀ (andD D h) h' μ' (ca.put t.o.dst u) w₁ := by
  obtain ⟨hqo, _⟩ := hT.tel h t hq
  have hql := hT.lt hq
  have hDh : D h = false := (hI.nxt t.o hqo).2
  obtain ⟨h', hh1, hh2, hh3, hh4⟩ := next_head P ops _ (h + 1) rfl (by omega)
  let μ' : Inj := joinI (S (h + 1)).n.toNat μ₁ μ
  have hSh : (S h).n.toNat ≤ (S (h + 1)).n.toNat := hg.le
  have hS' : (S (h + 1)).n.toNat ≤ (S h').n.toNat := hT.mono hh1 hh2
  have f1 : Sub μ₁ μ' := fun b e hb => by show joinI _ _ _ b = _; rw [joinI_lo (hg.sr.lt b e hb)]; exact hb
  -- a name that is pending
  have f0 : ∀ j, h < j → j ≤ ops.length → (S (h + 1)).n.toNat ≤ (S j).n.toNat := fun j hj hl => hT.mono hj hl
  have f2 : Sub μ μ' := fun b e hb => by
    rcases hI.dom b e hb with hlo | ⟨j, q1, q2, q3⟩
    · exact f1 b e (hg.ext.sub b e (resP_some.2 ⟨hlo, hb⟩))
    · obtain ⟨y, q3, q4, q5, rfl⟩ := q3
      show joinI _ _ _ _ = _
      rw [joinI_hi (f0 j q2 (Nat.le_of_lt (hT.lt q3)))]
      exact hb
  have f3 : resP μ' (nmB S (h + 1)) = μ₁ := by
    funext b
    unfold resP
    by_cases hb : nmB S (h + 1) b
    · rw [if_pos hb]; exact joinI_lo hb
    · rw [if_neg hb]
      cases hb' : μ₁ b with
      | none => rfl
      | some e => exact absurd (hg.sr.lt b e hb') hb
  -- where the new map's blocks lie
  have f4 : ∀ b e, μ₁ b = some e → w.heap.size ≤ e.a.block ∨ ∃ b₀ e₀, b₀.toNat < (S h).n.toNat ∧ μ b₀ = some e₀ ∧ e₀.a.block = e.a.block := fun b e hb => by
    rcases hg.ext.new b e hb with q | ⟨b₀, e₀, q1, q2⟩
    · exact .inl q
    · obtain ⟨q3, q4⟩ := resP_some.1 q1
      exact .inr ⟨b₀, e₀, q3, q4, q2⟩
  have fp : ∀ j y, D j = true → h < j → tels[j]? = some y → y.w = true → clsO P y.o.op = 1 → ∃ e blk, μ' (S j).n = some e ∧ S (j + 1) = (S j).push blk ∧ isDead blk = false ∧ BR P N (resP μ' (nmOf P ops tels S h j)) w₁ blk e ∧ N ≤ e.a.block ∧
      ∀ b' e', b' ≠ (S j).n → μ' b' = some e' → e'.a.block ≠ e.a.block := by
    intro j y hj hhj hy hw hcl
    obtain ⟨e, blk, p1, p2, p3, p4, p5, p6⟩ := hI.pend j y hj hhj hy hw hcl
    have hjl := hT.lt hy
    have hne : ∀ b₀ e₀, b₀.toNat < (S h).n.toNat → μ b₀ = some e₀ → e₀.a.block ≠ e.a.block := fun b₀ e₀ hlo hb => p6 b₀ e₀ (fun e => by
      have := f0 j hhj (Nat.le_of_lt hjl)
      rw [e] at hlo
      omega) hb
    refine ⟨e, blk, f2 _ _ p1, p2, p3, p4.keep (resP_sub fun b e hb he => ⟨hb, f2 b e he⟩) hg.ev.size fun _ => hI.pendSame hT hg.ev (Nat.le_of_lt hjl) (Nat.le_of_lt hhj) p4 p6, p5, fun b' e' hn hb' => ?_⟩
    by_cases hlo : b'.toNat < (S (h + 1)).n.toNat
    · replace hb' : joinI _ _ _ b' = _ := hb'
      rw [joinI_lo hlo] at hb'
      rcases f4 b' e' hb' with q | ⟨b₀, e₀, q1, q2, q3⟩
      · have := p4.lt; omega
      · rw [← q3]; exact hne b₀ e₀ q1 q2
    · replace hb' : joinI _ _ _ b' = _ := hb'
      rw [joinI_hi (Nat.not_lt.1 hlo)] at hb'
      exact p6 b' e' hn hb'
  have fu : ∀ j y, andD D h j = false → tels[j]? = some y → y.w = true → clsO P y.o.op = 1 → μ' (S j).n = none := by
    intro j y hj hy hw hcl
    have hjh : j ≠ h := fun e => by subst e; rw [andD_same] at hj; cases hj
    rw [andD_ne D hjh] at hj
    have hno := hI.undone j y hj hy hw hcl
    show joinI _ _ _ _ = _
    by_cases hlt : j < h
    · have := hT.mono (j := j + 1) (k := h) hlt (Nat.le_of_lt hql)
      have hl1 := hT.lays hF hy hw hcl
      rw [joinI_lo (by omega)]
      cases hb : μ₁ (S j).n with
      | none => rfl
      | some e =>
        rcases hg.fresh _ e hb with q | q
        · rw [(resP_some.1 q).2] at hno; cases hno
        · omega
    · rw [joinI_hi (f0 j (by omega) (Nat.le_of_lt (hT.lt hy)))]
      exact hno
  -- on to the next
  have along : ∀ d, h + 1 + d ≤ h' → SR P N (resP μ' (nmB S (h + 1 + d))) (S (h + 1 + d)) w₁ := by
    intro d
    induction d with
    | zero => intro _; rw [Nat.add_zero, f3]; exact hg.sr
    | succ d ih =>
      intro hd
      have ih := ih (by omega)
      generalize hjd : h + 1 + d = j at ih
      have hjl : j < ops.length := by omega
      obtain ⟨y, hy⟩ := hT.get hjl
      have hyo := (hT.tel j y hy).1
      rw [show h + 1 + (d + 1) = j + 1 from by omega]
      rcases hT.light hF hy (hh4 j y.o (by omega) (by omega) hyo) with ⟨hyw, hyc, blk, hdd, e⟩ | ⟨_, e⟩
      · rw [e]
        have hnn : (S (j + 1)).n.toNat = (S j).n.toNat + 1 := hT.lays hF hy hyw hyc
        cases hDj : D j with
        | true =>
          obtain ⟨en, blk', p1, p2, p3, p4, p5, p6⟩ := fp j y hDj (by omega) hy hyw hyc
          have hbb : blk' = blk := by
            rw [e] at p2
            have := congrArg (fun s => s.h.get (S j).n) p2
            simp only [push_get, if_true] at this
            exact (Option.some.inj this).symm
          subst hbb
          have hre : resP μ' (nmB S (j + 1)) = upd (resP μ' (nmB S j)) (S j).n en := by
            funext b
            by_cases hb : b = (S j).n
            · subst hb
              rw [upd_same]
              exact resP_some.2 ⟨by show (S j).n.toNat < _; omega, p1⟩
            · rw [upd_ne _ _ hb]
              unfold resP
              have : nmB S (j + 1) b ↔ nmB S j b := by
                show b.toNat < _ ↔ b.toNat < _
                have : b.toNat ≠ (S j).n.toNat := fun e => hb (Pos.toNat_inj e)
                omega
              by_cases hb2 : nmB S j b
              · rw [if_pos hb2, if_pos (this.2 hb2)]
              · rw [if_neg hb2, if_neg (fun q => hb2 (this.1 q))]
          rw [hre]
          refine ih.pushed ?_ fun b' e' hb' => ?_
          · rw [← hre]
            refine p4.keep (resP_sub fun b e hb he => ⟨?_, he⟩) (Nat.le_refl _) fun _ => rfl
            show b.toNat < _
            have hhj := hT.mono (j := h) (k := j) (by omega) (by omega)
            rcases hb with hb | ⟨i, ⟨yi, _, _, _, rfl⟩, rfl | hbi⟩
            · omega
            · omega
            · have := hT.mono (j := i) (k := j) (Nat.le_of_lt (bit_lt j i hbi)) (by omega)
              omega
          · obtain ⟨q1, q2⟩ := resP_some.1 hb'
            refine p6 b' e' (fun e => ?_) q2
            rw [e] at q1
            exact Nat.lt_irrefl _ q1
        | false =>
          have hno := fu j y (by rw [andD_ne D (by omega)]; exact hDj) hy hyw hyc
          have hre : resP μ' (nmB S (j + 1)) = resP μ' (nmB S j) := by
            funext b
            unfold resP
            by_cases hb : b = (S j).n
            · subst hb
              by_cases hb2 : nmB S j (S j).n
              · exact absurd hb2 (Nat.lt_irrefl _)
              · rw [if_neg hb2]
                split
                · exact hno
                · rfl
            · have : nmB S (j + 1) b ↔ nmB S j b := by
                show b.toNat < _ ↔ b.toNat < _
                have : b.toNat ≠ (S j).n.toNat := fun e => hb (Pos.toNat_inj e)
                omega
              by_cases hb2 : nmB S j b
              · rw [if_pos hb2, if_pos (this.2 hb2)]
              · rw [if_neg hb2, if_neg (fun q => hb2 (this.1 q))]
          rw [hre]
          exact ih.pushNo
      · have hre : resP μ' (nmB S (j + 1)) = resP μ' (nmB S j) := by unfold nmB; rw [e]
        rw [hre, e]
        exact ih
  have hsr' : SR P N (resP μ' (nmB S h')) (S h') w₁ := by
    have := along (h' - (h + 1)) (by omega)
    rwa [show h + 1 + (h' - (h + 1)) = h' from by omega] at this
  have hle0 : (S 0).n.toNat ≤ (S h).n.toNat := hT.mono (Nat.zero_le _) hI.hle
  have hu' : VR P (resP μ' (nmOf P ops tels S h' h)) t.v u := hu.mono fun b e hb => resP_some.2 ⟨.inl (Nat.lt_of_lt_of_le (hg.sr.lt b e hb) hS'), f1 b e hb⟩
  obtain ⟨h1, h2⟩ := hI.temps hF hT hq hDh f2 (Nat.le_trans hSh hS') hu'
  refine ⟨μ', h', fun i hi => ?_, fun i j hi hb => ?_, hh2, fun o ho => ⟨hh3 o ho, ?_⟩, fun e o ho hcl => ?_, by rw [put_size]; exact hI.size, by rw [put_dfr]; exact hI.dfr.mono (resP_sub fun b e hb he => ⟨hb, f2 b e he⟩), h1, h2, hsr',
    fun j y hj hhj hy hw hcl => ?_, fun b e hb => ?_, fu, hI.evTrans hg.ev, ⟨hI.ext.sub.trans f2, fun b e hb => ?_⟩, fun b e hb => ?_⟩
  · by_cases hih : i = h
    · subst hih; exact hql
    · rw [andD_ne D hih] at hi; exact hI.lt i hi
  · by_cases hih : i = h
    · subst hih; exact andD_mono (hdone j hb)
    · rw [andD_ne D hih] at hi; exact andD_mono (hI.down i j hi hb)
  · have hlt : h' < ops.length := (List.getElem?_eq_some_iff.1 ho).1
    rw [andD_ne D (by omega)]
    cases hD' : D h' with
    | false => rfl
    | true => have := (hI.hvy h' o ho (hh3 o ho)).1 hD'; omega
  · by_cases heh : e = h
    · subst heh; rw [andD_same]; exact ⟨fun _ => by omega, fun _ => rfl⟩
    · rw [andD_ne D heh, hI.hvy e o ho hcl]
      constructor
      · intro q; omega
      · intro q
        rcases Nat.lt_or_ge e h with q' | q'
        · exact q'
        · exact absurd hcl (hh4 e o (by omega) q ho)
  · have hjh : j ≠ h := by omega
    rw [andD_ne D hjh] at hj
    obtain ⟨e, blk, p1, p2, p3, p4, p5, p6⟩ := fp j y hj (by omega) hy hw hcl
    refine ⟨e, blk, p1, p2, p3, p4.keep (resP_sub fun b e hb he => ⟨hb.imp (fun q => ?_) id, he⟩) (Nat.le_refl _) fun _ => rfl, p5, p6⟩
    omega
  · by_cases hlo : b.toNat < (S (h + 1)).n.toNat
    · exact .inl (Nat.lt_of_lt_of_le hlo hS')
    · replace hb : joinI _ _ _ b = _ := hb
      rw [joinI_hi (Nat.not_lt.1 hlo)] at hb
      rcases hI.dom b e hb with q | ⟨j, q1, q2, q3⟩
      · omega
      · by_cases hjh : h' < j
        · exact .inr ⟨j, andD_mono q1, hjh, q3⟩
        · left
          obtain ⟨y, q3, q4, q5, rfl⟩ := q3
          have hl1 := hT.lays hF q3 q4 q5
          have hjne : j ≠ h' := fun e => by
            subst e
            have := hh3 y.o (hT.tel j y q3).1
            rw [q5] at this; cases this
          have := hT.mono (j := j + 1) (k := h') (by omega) hh2
          omega
  · by_cases hlo : b.toNat < (S (h + 1)).n.toNat
    · replace hb : joinI _ _ _ b = _ := hb
      rw [joinI_lo hlo] at hb
      rcases f4 b e hb with q | ⟨b₀, e₀, q1, q2, q3⟩
      · exact .inl (Nat.le_trans hI.ev.size q)
      · rcases hI.ext.new b₀ e₀ q2 with q | ⟨b₁, e₁, q4, q5⟩
        · exact .inl (q3 ▸ q)
        · exact .inr ⟨b₁, e₁, q4, q5.trans q3⟩
    · replace hb : joinI _ _ _ b = _ := hb
      rw [joinI_hi (Nat.not_lt.1 hlo)] at hb
      exact hI.ext.new b e hb
  · by_cases hlo : b.toNat < (S (h + 1)).n.toNat
    · replace hb : joinI _ _ _ b = _ := hb
      rw [joinI_lo hlo] at hb
      rcases hg.fresh b e hb with q | q
      · exact hI.fresh b e (resP_some.1 q).2
      · exact .inr (Nat.le_trans hle0 q)
    · replace hb : joinI _ _ _ b = _ := hb
      rw [joinI_hi (Nat.not_lt.1 hlo)] at hb
      exact hI.fresh b e hb
end
end
end Go.Proofs.Vai
