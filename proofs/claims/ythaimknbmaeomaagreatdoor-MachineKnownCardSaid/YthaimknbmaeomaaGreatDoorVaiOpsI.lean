/- The operations, ninth part: append, copy, and the other builtins. -/
import Derived.Test.YthaimknbmaeomaaGreatDoorVaiOpsH
import Derived.Maps.AppendAt
set_option linter.unusedVariables false
set_option linter.unusedSimpArgs false
set_option linter.unusedSectionVars false
namespace Go.Proofs.Vai
open Go Go.RowKit Go.MapKept
variable [Env]

section
variable {P : Program} {N : Nat} {μ : Inj} {σ : St} {w : World} {a : AAct} {ca : Act}

/-- A row of the run's own, with room behind. -/
theorem SR.rowMore (h : SR P N μ σ w) {w' : World} {us' : Array Value} {t : TypeId} (hw : w'.heap = w.heap.push (.cells us' t (0, 0))) (hos : w'.os = w.os) (htp : w'.tape = w.tape) (hout : w'.output = w.output) {vs : List AV} {us : List Value} (hv : VRs P μ vs us) (ho : ones vs = true)
    (hu : us'.toList.take us.length = us) : Goes P N μ σ w (upd μ σ.n ⟨⟨w.heap.size, 0, none⟩, some (us'.size, t)⟩) (σ.row t vs) w' := by
  have hl : vs.length = us.length := hv.length
  have hle : us.length ≤ us'.size := by
    have := congrArg List.length hu
    simp at this
    omega
  refine h.laid ⟨hos, htp, hout, by rw [hw]; simp, fun k hk _ => by rw [hw, Array.getElem?_push, if_neg (by omega)]⟩ (Nat.le_refl _) ⟨w.heap.size, us'.size, us', rfl, h.hN, by rw [hw]; simp, rfl, by omega, fun i hi => ?_⟩
  obtain ⟨v, hvi⟩ : ∃ v, vs[i]? = some v := ⟨vs[i], List.getElem?_eq_getElem hi⟩
  obtain ⟨u, hu', hr⟩ := hv.get hvi
  refine ⟨v, u, by rw [Cs.of_get]; exact hvi, ?_, hr.mono (sub_upd (.inl h.fresh)), ones_get ho hvi⟩
  rw [← hu, List.getElem?_take, if_pos (by omega)] at hu'
  simpa using hu'

/-- What is appended lies there. -/
theorem SR.news (h : SR P N μ σ w) {z k : Nat} {y : AV} {Y : Value} {new : List AV} (hy : VR P μ y Y) (hn : newsA z σ y = some (k, new)) :
    ∃ us : List Value, VRs P μ new us ∧ ones new = true ∧ us.length = k * z ∧
      ((Y = .slice none 0 0 ∧ k = 0) ∨ ∃ ad c, Y = .slice (some ad) k c ∧ ∀ j u, us[j]? = some u → w.cell? (ad.add j) = some u) := by
  cases y with
  | nilslice => cases hn; cases hy; exact ⟨[], .nil, rfl, by simp, .inl ⟨rfl, rfl⟩⟩
  | slice b o n lim wh =>
    obtain ⟨cs, hcs, hq⟩ := omap_some.1 (show omap (σ.cells b o (Nat.mul n z)) (fun cs => (n, cs)) = some (k, new) from hn)
    cases hq
    cases hy with
    | slice _ _ _ _ _ en ad c he had hnc hm hl hc =>
      obtain ⟨h1, h2, us, h3, h4, h5⟩ := h.cellsAt he hcs
      refine ⟨us, h3, h2, h4, .inr ⟨ad, c, rfl, fun j u hj => ?_⟩⟩
      have hjl : j < us.length := (List.getElem?_eq_some_iff.1 hj).1
      rw [h4] at hjl
      have hn0 : 0 < k := by
        rcases Nat.eq_zero_or_pos k with h0 | h0
        · subst h0; simp at hjl
        · exact h0
      obtain rfl : ad = en.a.add o := had.elim id (fun h => by omega)
      rw [add_add, h5 j hjl]
      exact hj
  | _ => cases hn

theorem append_none {t ty e : TypeId} {z : Nat} {base : Option Addr} {n c : Nat} {Y : Value} (ht : P.underlying t = some (.slice e)) (hz : sizeT P e = some z) (hnc : n ≤ c) (hY : Y = .slice none 0 0 ∨ ∃ ad c', Y = .slice (some ad) 0 c') :
    (Builtin.append_ #[t, t] ty #[.slice base n c, Y]).run P w = .ok (.slice base n c) w := by
  rcases hY with rfl | ⟨ad, c', rfl⟩
  · cases base with
    | none => simp [Builtin.append_, run_underlying ht, sizeT_run hz, Builtin.lenOf, hnc, Builtin.firstCells]
    | some b => simp [Builtin.append_, run_underlying ht, sizeT_run hz, Builtin.lenOf, hnc, Builtin.firstCells, storeCells]
  · cases base with
    | none => simp [Builtin.append_, run_underlying ht, sizeT_run hz, Builtin.lenOf, hnc, Builtin.firstCells, loadCells, loadCellsFrom]
    | some b => simp [Builtin.append_, run_underlying ht, sizeT_run hz, Builtin.lenOf, hnc, Builtin.firstCells, loadCells, loadCellsFrom, storeCells]

/-- The old block is given up, one is laid where it lay, or behind all. -/
theorem SR.append (h : SR P N μ σ w) {w' : World} {b : Pos} {g sz : Nat} {t e : TypeId} {len : Nat} {c c' : Cs} {len' : Nat} (hb : μ b = some ⟨⟨g, 0, none⟩, some (sz, t)⟩) (hk : σ.h.get b = some (.cells true t len c)) (hN : N ≤ g) {g' : Nat} {cur : Array Value}
    (hg : w.grownBy w' (some g)) (hg' : g' = g ∨ g' = w.heap.size) (hcur : w'.heap[g']? = some (.cells cur e (0, 0))) (hlen : len' ≤ cur.size) (hcr : CR P μ c' len' (fun i => cur[i]?)) :
    Goes P N μ σ w (upd μ σ.n ⟨⟨g', 0, none⟩, some (cur.size, e)⟩) ((σ.put b .dead).push (.cells true e len' c')) w' := by
  have hbr : BR P N μ w (.cells true t len c) ⟨⟨g, 0, none⟩, some (sz, t)⟩ := by
    obtain ⟨k, h1, h2⟩ := h.blk b _ hb
    rw [hk] at h1; cases h1; exact h2
  have h1 : Goes P N μ σ w μ (σ.put b .dead) w := h.turned (k := .dead) hb hk rfl hN (grown_refl w _) ⟨hN, hbr.lt⟩
  have hsn : (σ.put b .dead).n = σ.n := put_n σ b .dead
  have hfr : μ σ.n = none := h.fresh
  have hne : ∀ x ex kx, x ≠ σ.n → μ x = some ex → (σ.put b .dead).h.get x = some kx → isDead kx = false → ex.a.block ≠ g := by
    intro x ex kx _ hx hkx hd he
    rw [put_get] at hkx
    by_cases hxb : b = x
    · subst hxb; rw [if_pos rfl] at hkx; cases hkx; cases hd
    · rw [if_neg hxb] at hkx
      exact hxb (h.inj b x _ ex _ kx hb hx hk hkx rfl hd hN he.symm)
  have h2 := h1.sr.turn (w' := w') (b := σ.n) (e := ⟨⟨g', 0, none⟩, some (cur.size, e)⟩) (k := .cells true e len' c') (σ' := (σ.put b .dead).push (.cells true e len' c')) (some g) hg
    (.inr ⟨hfr, by rw [hsn]; exact Nat.le_refl _, by
      rcases hg' with rfl | rfl
      · exact .inr ⟨b, _, hb, rfl⟩
      · exact .inl (Nat.le_refl _)⟩)
    (fun x => by rw [push_get, hsn]) (by rw [push_n, hsn, Pos.toNat_succ]; omega) (by rw [push_n, hsn, Pos.toNat_succ]; omega)
    ⟨g', cur.size, cur, rfl, hg'.elim (fun q => q ▸ hN) (fun q => q ▸ h.hN), hcur, rfl, hlen, hcr.mono (sub_upd (.inl hfr))⟩
    (fun g₁ hg₁ => by cases hg₁; exact ⟨hN, ⟨b, _, hb, rfl⟩, fun x ex kx hx hm hkx hd => hne x ex kx hx hm hkx hd⟩)
    (fun _ _ x ex kx hx hm hkx hd => by
      rcases hg' with rfl | rfl
      · exact hne x ex kx hx hm hkx hd
      · obtain ⟨k', _, q2⟩ := h1.sr.blk x ex hm
        have := q2.lt
        exact Nat.ne_of_lt this)
  exact h1.trans h2

theorem op_append {t : TypeId} {ty : TypeId} {x y : AV} {X Y : Value} {r : ARes} (h : SR P N μ σ w) (hx : VR P μ x X) (hy : VR P μ y Y) (hr : appendA P t x y σ = some r) :
    NR P N μ σ w r ((do pure (.value (← Builtin.append_ #[t, t] ty #[X, Y])) : Sem Next).run P w) := by
  obtain ⟨e, he, hr1⟩ := obind_some.1 hr
  obtain ⟨z, hz, hr2⟩ := obind_some.1 hr1
  obtain ⟨by_, hby, hr3⟩ := obind_some.1 hr2
  obtain ⟨zv, hzv, hr4⟩ := obind_some.1 hr3
  obtain ⟨⟨k, new⟩, hnew, hr5⟩ := obind_some.1 hr4
  obtain ⟨hb, hr6⟩ := cnd_none.1 hr5
  clear hr hr1 hr2 hr3 hr4 hr5
  simp only [Bool.and_eq_true] at hb
  obtain ⟨⟨⟨⟨b1, b2⟩, b3⟩, b4⟩, b5⟩ := hb
  have b1 : 1 ≤ z := Nat.le_of_ble_eq_true b1
  have b2 : zv.cells.length = z := Nat.eq_of_beq_eq_true b2
  have b4 : 1 ≤ by_ := Nat.le_of_ble_eq_true b4
  have b5 : (lenOf x + k) * by_ ≤ 35184372088832 := Nat.le_of_ble_eq_true b5
  have b6 : lenOf x + k ≤ 35184372088832 := Nat.le_trans (Nat.le_mul_of_pos_right _ b4) b5
  have hu := elemT_some he
  obtain ⟨Z, _, hZ, i, hi, hzz⟩ := zeroT_run (μ := μ) hzv w
  obtain ⟨i', hi', rfl⟩ := bytesT_info hby
  rw [hi] at hi'
  cases hi'
  have hsi : i.size = z := by unfold sizeT at hz; rw [hi] at hz; cases hz; rfl
  have hzc := hZ.cells (ones_cells_ne b3)
  have hzs : Z.cells.size = z := by rw [← b2]; simpa using hzc.length.symm
  obtain ⟨us, hus, hou, hul, hY⟩ := h.news hy hnew
  -- a new row
  have fresh : ∀ (n cap : Nat) (olds : List Value) (old : List AV), VRs P μ old olds → ones old = true → olds.length = n * z → n + k ≤ 35184372088832 → ∀ w', w' = w.drew.alloc (.cells (olds.toArray ++ us.toArray ++ Builtin.zeroCells Z.cells (grownCap w (n + k) cap e - (n + k))) e) →
      ∀ s : Sem Value, s.run P w = .ok (.slice (some ⟨w.heap.size, 0, none⟩) (n + k) (grownCap w (n + k) cap e)) w' →
      NR P N μ σ w (.val (.slice σ.n 0 (n + k) false true) (σ.row e (old ++ new))) ((do pure (.value (← s)) : Sem Next).run P w) := by
    intro n cap olds old ho1 ho2 hol hnk w' hw s hs
    subst hw
    have hge := grownCap_ge w (n + k) cap e
    have hle := grownCap_le_maxLen w (n + k) cap e (by simp only [maxLen]; omega)
    have hg := h.rowMore (w' := w.drew.alloc (.cells (olds.toArray ++ us.toArray ++ Builtin.zeroCells Z.cells (grownCap w (n + k) cap e - (n + k))) e))
      (us' := olds.toArray ++ us.toArray ++ Builtin.zeroCells Z.cells (grownCap w (n + k) cap e - (n + k))) (t := e) rfl rfl rfl rfl (ho1.append hus) (ones_append ho2 hou)
      (by simp only [Array.toList_append, List.append_assoc]; rw [← List.append_assoc]; exact List.take_left)
    refine hg.val hs ?_
    refine VR.slice σ.n 0 (n + k) false true _ _ _ (upd_n _ _ _) (.inl (by rw [add_nil])) hge hle (by simp) (fun _ _ sz t' hsz => ?_)
    cases hsz
    rw [sizeT_cells hz]
    simp only [Array.size_append, List.size_toArray, size_zeroCells, hzs, hol, hul, ← Nat.add_mul]
    congr 1
    omega
  replace hr6 : appendTo e z k new σ x = some r := hr6
  have hk0 : k = 0 → Y = .slice none 0 0 ∨ ∃ ad c', Y = .slice (some ad) 0 c' := by
    intro hk
    rcases hY with ⟨h1, _⟩ | ⟨ad, c, h1, _⟩
    · exact .inl h1
    · exact .inr ⟨ad, c, by rw [h1, hk]⟩
  have hk1 : k ≠ 0 → ∃ ad c, Y = .slice (some ad) k c ∧ ∀ j u, us[j]? = some u → w.cell? (ad.add j) = some u := by
    intro hk
    rcases hY with ⟨_, h1⟩ | h1
    · exact absurd h1 hk
    · exact h1
  cases x with
  | nilslice =>
    cases hx
    replace hr6 : cnd (Nat.beq k 0) (some (.val .nilslice σ)) (some (.val (.slice σ.n 0 k false true) (σ.row e new))) = some r := hr6
    cases hk : Nat.beq k 0 with
    | true =>
      rw [hk] at hr6
      cases hr6
      exact NR.value h (by simp only [Sem.run_bind, append_none hu hz (Nat.le_refl 0) (hk0 (Nat.eq_of_beq_eq_true hk)), Result.andThen_ok]; rfl) .nilslice
    | false =>
      rw [hk] at hr6
      cases hr6
      have hk : k ≠ 0 := fun q => by subst q; cases hk
      obtain ⟨ad, c, rfl, hcell⟩ := hk1 hk
      have hrun := run_append_nil (P := P) w t ty e i Z hu hi hzz ad k c us (by rw [hul, hsi]) hcell (by omega) (by simp [lenOf] at b6; omega) (by simp only [lenOf, Nat.zero_add] at b5; omega)
      have := fresh 0 0 [] [] .nil rfl (by simp) (by simpa [lenOf] using b6) _ rfl (Builtin.append_ #[t, t] ty #[.slice none 0 0, .slice (some ad) k c]) (by simpa using hrun)
      simpa using this
  | slice b o n lim wh =>
    replace hr6 : cnd (Nat.beq k 0) (some (.val (.slice b o n lim wh) σ))
      (cnd lim (omap (σ.cells b o (Nat.mul n z)) fun old => .val (.slice σ.n 0 (Nat.add n k) false true) (σ.row e (old ++ new)))
        (cnd (wh && Nat.beq o 0) (obind (σ.h.get b) (appendIn e b n k z new σ)) none)) = some r := hr6
    have hx0 := hx
    cases hx with
    | slice _ _ _ _ _ en ad c hen had hnc hmc hlim hc =>
    cases hk : Nat.beq k 0 with
    | true =>
      rw [hk] at hr6
      cases hr6
      exact NR.value h (by simp only [Sem.run_bind, append_none hu hz hnc (hk0 (Nat.eq_of_beq_eq_true hk)), Result.andThen_ok]; rfl) hx0
    | false =>
      rw [hk] at hr6
      have hk : k ≠ 0 := fun q => by subst q; cases hk
      obtain ⟨ady, cy, rfl, hcell⟩ := hk1 hk
      cases hl : lim with
      | true =>
        rw [hl] at hr6
        obtain ⟨old, hold, rfl⟩ := omap_some.1 (show omap (σ.cells b o (Nat.mul n z)) (fun old => ARes.val (.slice σ.n 0 (Nat.add n k) false true) (σ.row e (old ++ new))) = some r from hr6)
        obtain rfl := hlim hl
        obtain ⟨h1, h2, ous, h3, h4, h5⟩ := h.cellsAt hen hold
        have holds : ∀ j v, ous[j]? = some v → w.cell? (ad.add j) = some v := by
          intro j v hj
          have hjl : j < ous.length := (List.getElem?_eq_some_iff.1 hj).1
          rw [h4] at hjl
          have hn0 : 0 < c := by
            rcases Nat.eq_zero_or_pos c with h0 | h0
            · rw [h0] at hjl; simp at hjl
            · exact h0
          obtain rfl : ad = en.a.add o := had.elim id (fun h => by omega)
          rw [add_add, h5 j hjl]
          exact hj
        have h4' : ous.length = c * z := h4
        simp only [lenOf] at b5 b6
        have hrun := run_append_grow (P := P) w t ty e i Z hu hi hzz ad c c ous (by rw [h4', hsi]) holds ady k cy us (by rw [hul, hsi]) hcell (by omega) (by omega) (growslice_fits (by omega) (by omega))
        exact fresh c c ous old h3 h2 h4' b6 _ rfl _ hrun
      | false =>
        rw [hl] at hr6
        obtain ⟨hwo, hr7⟩ := cnd_none.1 (show cnd (wh && Nat.beq o 0) (obind (σ.h.get b) (appendIn e b n k z new σ)) none = some r from hr6)
        rw [Bool.and_eq_true] at hwo
        obtain ⟨hw, ho⟩ := hwo
        have ho : o = 0 := Nat.eq_of_beq_eq_true ho
        obtain ⟨bl, hbl, hr8⟩ := obind_some.1 hr7
        cases bl with
        | cells own e' len cs =>
          obtain ⟨hq, hr9⟩ := cnd_none.1 (show cnd (own && Nat.beq e' e && Nat.ble (Nat.mul n z) len) (some (ARes.val (.slice σ.n 0 (Nat.add n k) false true) ((σ.put b .dead).push (.cells true e (Nat.mul (Nat.add n k) z) (cs.grow (Nat.mul n z) new))))) none = some r from hr8)
          cases hr9
          simp only [Bool.and_eq_true] at hq
          obtain ⟨⟨hown, hee⟩, hnl⟩ := hq
          subst hown
          obtain rfl : e' = e := Nat.eq_of_beq_eq_true hee
          have hnl : n * z ≤ len := Nat.le_of_ble_eq_true hnl
          have hbr : BR P N μ w (.cells true e' len cs) en := by
            obtain ⟨k', q1, q2⟩ := h.blk b en hen
            rw [hbl] at q1; cases q1; exact q2
          obtain ⟨g, sz, cur, rfl, hN, h1, h2, h3, h4⟩ := hbr
          subst ho
          obtain rfl : ad = ⟨g, 0, none⟩ := by
            rcases had with h | ⟨_, h⟩
            · rw [h, add_nil]
            · exact absurd rfl h
          have hcz : c * z = sz := by rw [← sizeT_cells hz]; exact hc hw rfl sz e' rfl
          simp only [lenOf] at b5 b6
          have hsz : n * z ≤ cur.size := by omega
          have hown : w.ownsRow N e' z (.slice (some ⟨g, 0, none⟩) n c) n (cur.toList.take (n * z)) :=
            ⟨by simp; omega, .inr ⟨g, c, cur, rfl, hN, h1, hnc, hmc, by rw [h2, hcz], rfl⟩⟩
          have h1c : ∀ u ∈ us, u.oneCell' = true := by
            intro u hu'
            obtain ⟨j, hj⟩ := List.getElem?_of_mem hu'
            have hjl : j < new.length := by rw [hus.length]; exact (List.getElem?_eq_some_iff.1 hj).1
            obtain ⟨u', q1, q2⟩ := hus.get (List.getElem?_eq_getElem hjl)
            rw [hj] at q1; cases q1
            exact q2.one (ones_get hou (List.getElem?_eq_getElem hjl))
          obtain ⟨v', w', hrun, hown', hgr, hnil, hat⟩ := run_append_own_at (P := P) w N t ty e' i Z z i.bytes hu hi hzz hsi rfl hzs (by omega) _ n _ hown ady k cy us hul hcell h1c (by simp only [maxLen]; omega) (by omega) h.hN
          obtain ⟨hxl, hv' | ⟨g', cap', cur', rfl, hN', hh', hnc', hcm', hcs', htk⟩⟩ := hown'
          · omega
          · have hg' : g' = g ∨ g' = w.heap.size := by
              simp only [Value.ownBlock, Option.some.injEq] at hat
              exact hat
            have hcr : CR P μ (cs.grow (n * z) new) ((n + k) * z) (fun i => cur'[i]?) := by
              intro j hj
              have hgl : n * z + new.length = (n + k) * z := by rw [hus.length, hul, Nat.add_mul]
              have hget := Cs.grow_get (vs := new) hnl h4.isSome j (by omega)
              have hcj : cur'[j]? = (cur.toList.take (n * z) ++ us)[j]? := by
                rw [← htk, List.getElem?_take, if_pos hj]; simp
              show ∃ av v, (cs.grow (n * z) new).get j = some av ∧ cur'[j]? = some v ∧ VR P μ av v ∧ av.one = true
              rw [hget, hcj]
              by_cases hjn : j < n * z
              · rw [if_pos hjn, List.getElem?_append_left (by simp; omega), List.getElem?_take, if_pos hjn, Array.getElem?_toList]
                exact h4 j (by omega)
              · have hlt : (cur.toList.take (n * z)).length = n * z := by simp; omega
                rw [if_neg hjn, List.getElem?_append_right (by omega), hlt]
                have hvi : new[j - n * z]? = some (new[j - n * z]'(by omega)) := List.getElem?_eq_getElem (by omega)
                obtain ⟨u, q1, q2⟩ := hus.get hvi
                exact ⟨_, u, hvi, q1, q2, ones_get hou hvi⟩
            have hgo := h.append (w' := w') (len' := (n + k) * z) (c' := cs.grow (n * z) new) hen hbl hN hgr hg' hh' (by rw [hcs']; exact Nat.mul_le_mul_right _ hnc') hcr
            refine hgo.val hrun (VR.slice σ.n 0 (n + k) false true _ _ _ (upd_n _ _ _) (.inl (by rw [add_nil])) hnc' hcm' (by simp) (fun _ _ sz' t' hsz' => ?_))
            cases hsz'
            rw [sizeT_cells hz, hcs']
        | _ => cases hr8
  | _ => cases hr6
end
end Go.Proofs.Vai
