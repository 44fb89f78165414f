/- The operations, sixth part: make, slices of slices, iterators, type assertions, panics. -/
import Derived.Test.YthaimknbmaeomaaGreatDoorVaiOpsE
import Derived.Laws.RangeString
set_option linter.unusedVariables false
set_option linter.unusedSimpArgs false
set_option linter.unusedSectionVars false
namespace Go.Proofs.Vai
open Go Go.RowKit
variable [Env]

section
variable {P : Program} {N : Nat} {μ : Inj} {σ : St} {w : World} {a : AAct} {ca : Act}

theorem repl_length (z : List AV) : ∀ c, (repl z c).length = c * z.length
  | 0 => by simp [repl]
  | c + 1 => by simp [repl, repl_length z c, Nat.succ_mul, Nat.add_comm]
theorem repl_get (z : List AV) : ∀ (c i : Nat), i < c * z.length → (repl z c)[i]? = z[i % z.length]?
  | 0, i, h => by simp at h
  | c + 1, i, h => by
    unfold repl
    rw [Nat.succ_mul] at h
    by_cases hi : i < z.length
    · rw [List.getElem?_append_left hi, Nat.mod_eq_of_lt hi]
    · rw [List.getElem?_append_right (by omega), repl_get z c _ (by omega), ← Nat.mod_eq_sub_mod (by omega)]
theorem ones_repl {z : List AV} (h : ones z = true) : ∀ c, ones (repl z c) = true
  | 0 => rfl
  | c + 1 => ones_append h (ones_repl h c)
theorem repl_made {z : List AV} {Z : Array Value} (h : VRs P μ z Z.toList) (c : Nat) : VRs P μ (repl z c) (madeCells Z (c * Z.size)).toList := by
  have hl : z.length = Z.size := by simpa using h.length
  refine VRs.of_get (by rw [repl_length, hl]; simp [size_madeCells]) fun i v u hv hu => ?_
  have hi : i < c * z.length := by
    rw [← repl_length]
    exact (List.getElem?_eq_some_iff.1 hv).1
  have hz : 0 < z.length := by
    rcases Nat.eq_zero_or_pos z.length with h0 | h0
    · rw [h0] at hi; simp at hi
    · exact h0
  rw [repl_get z c i hi] at hv
  obtain ⟨u', hu', hr⟩ := h.get hv
  have hm : i % Z.size < Z.size := Nat.mod_lt _ (by omega)
  have : (madeCells Z (c * Z.size)).toList[i]? = some (Z[i % Z.size]'hm) := by
    simp [madeCells, ← hl, hi, List.getElem?_range]
    rw [getElem!_pos Z _ (by rw [hl]; exact hm)]
  rw [this] at hu
  cases hu
  rw [hl, Array.getElem?_toList, Array.getElem?_eq_getElem hm] at hu'
  cases hu'
  exact hr
theorem natA_some {v : AV} {n : Nat} (h : natA v = some n) : v = .int .i64 (Int.ofNat n) := by
  cases v with
  | int k m => cases k <;> first | (cases h; done) | (cases m <;> first | (cases h; rfl) | (cases h; done))
  | _ => cases h
theorem op_makeSlice {t : TypeId} {x y : Operand} {r : ARes} (h : SR P N μ σ w) (ha : AR P μ a ca) (hr : dMakeSlice t x y P a σ = some r) :
    NR P N μ σ w r ((do pure (.value (← Instr.makeSlice t (ca.eval x) (ca.eval y))) : Sem Next).run P w) := by
  obtain ⟨l, hl, hr1⟩ := obind_some.1 hr
  obtain ⟨c, hc, hr2⟩ := obind_some.1 hr1
  obtain ⟨ln, hln, hr3⟩ := obind_some.1 hr2
  obtain ⟨cn, hcn, hr4⟩ := obind_some.1 hr3
  obtain ⟨e, he, hr5⟩ := obind_some.1 hr4
  obtain ⟨by_, hby, hr6⟩ := obind_some.1 hr5
  obtain ⟨sz, hsz, hr7⟩ := obind_some.1 hr6
  obtain ⟨z, hz, hr8⟩ := obind_some.1 hr7
  obtain ⟨hb, hr9⟩ := cnd_none.1 hr8
  simp only [Bool.and_eq_true] at hb
  obtain ⟨⟨⟨⟨b1, b2⟩, b3⟩, b4⟩, b5⟩ := hb
  cases hr9
  clear hr hr1 hr2 hr3 hr4 hr5 hr6 hr7 hr8
  have hlv := ha.eval h hl
  have hcv := ha.eval h hc
  obtain rfl := natA_some hln
  obtain rfl := natA_some hcn
  generalize ca.eval x = X at *
  generalize ca.eval y = Y at *
  cases hlv
  cases hcv
  have b1 : ln ≤ cn := Nat.le_of_ble_eq_true b1
  have b2 : cn * by_ ≤ 140737488355328 := Nat.le_of_ble_eq_true b2
  have b3 : cn ≤ 1000000 := Nat.le_of_ble_eq_true b3
  have b5 : z.cells.length = sz := Nat.eq_of_beq_eq_true b5
  obtain ⟨zv, _, hzv, i, hi, hzz⟩ := zeroT_run (μ := μ) hz w
  have he := elemT_some he
  obtain ⟨i', hi', rfl⟩ := bytesT_info hby
  rw [hi] at hi'
  cases hi'
  have hsi : i.size = sz := by unfold sizeT at hsz; rw [hi] at hsz; cases hsz; rfl
  have hzc := hzv.cells (ones_cells_ne b4)
  have hzs : zv.cells.size = sz := by rw [← b5]; simpa using hzc.length.symm
  have hrun := run_make (P := P) w t e i zv he hi hzz .i64 .i64 (Int.ofNat ln) (Int.ofNat cn) (Int.natCast_nonneg _) (Int.ofNat_le.2 b1)
    (by rw [Nat.mul_comm] at b2
        have hq : ((i.bytes * cn : Nat) : Int) ≤ ((140737488355328 : Nat) : Int) := Int.ofNat_le.2 b2
        rw [Int.natCast_mul] at hq
        exact Int.le_trans hq (by decide)) (by show ((cn : Nat) : Int) ≤ _; omega)
  simp only [Int.ofNat_eq_natCast, Int.toNat_natCast] at hrun
  rw [hsi, ← hzs] at hrun
  have hg := h.row e (repl_made hzc cn) (ones_repl b4 cn)
  refine hg.val hrun ?_
  have := VR.slice (P := P) (μ := upd μ σ.n ⟨⟨w.heap.size, 0, none⟩, some ((madeCells zv.cells (cn * zv.cells.size)).size, e)⟩) σ.n 0 ln (Nat.beq ln cn) true _ _ cn (upd_n _ _ _) (.inl rfl) b1 (by simp only [maxLen]; omega)
    (fun h => (Nat.eq_of_beq_eq_true h).symm) (fun _ _ sz' t' h' => by cases h'; rw [sizeT_cells hsz, size_madeCells, hzs])
  simpa [add_nil] using this

/-! ### Slices of slices -/
theorem bound_run {n : Nat} {y : Nat} {code : BoundsCode} (h : n ≤ y) : (Instr.sliceBound (.int .i64 (n : Int)) y code).run P w = .ok n w := by
  have : (0 : Int) ≤ (n : Int) ∧ (n : Int) ≤ (y : Int) := by omega
  simp only [Instr.sliceBound, asIntOf, Sem.run_bind, Sem.run_pure, Result.andThen_ok, Int.ofNat_eq_natCast, if_pos this, Int.toNat_natCast]
/-- An operand that may be wanting, as the machine has it. -/
theorem natOr_some {d n : Nat} {v : Option AV} {x : Option Operand} (hn : natOr d v = some n) (hv : (v = none ∧ x = none) ∨ ∃ u y, v = some u ∧ x = some y ∧ VR P μ u (ca.eval y)) :
    (v = none ∧ x.map ca.eval = none ∧ n = d) ∨ (v.isSome = true ∧ x.map ca.eval = some (.int .i64 (Int.ofNat n))) := by
  rcases hv with ⟨rfl, rfl⟩ | ⟨u, y, rfl, rfl, hu⟩
  · cases hn; exact .inl ⟨rfl, rfl, rfl⟩
  · obtain rfl := natA_some (show natA u = some n from hn)
    refine .inr ⟨rfl, ?_⟩
    simp only [Option.map_some, Option.some.injEq]
    generalize ca.eval y = Y at *
    cases hu
    rfl
/-- The bounds; m: the third, or the capacity. -/
theorem bounds_run {isS : Bool} {len cap lo hi : Nat} {low high max : Option Value} (hlo : (low = none ∧ lo = 0) ∨ low = some (.int .i64 (Int.ofNat lo))) (hhi : (high = none ∧ max = none ∧ hi = len) ∨ high = some (.int .i64 (Int.ofNat hi)))
    (hmx : max = none ∨ max = some (.int .i64 (Int.ofNat hi))) (h1 : lo ≤ hi) (h2 : hi ≤ cap) :
    (Instr.sliceBounds isS len cap low high max).run P w = .ok (lo, hi, if max.isSome then hi else cap) w := by
  rcases hmx with rfl | rfl
  · rcases hhi with ⟨rfl, _, rfl⟩ | rfl
    · rcases hlo with ⟨rfl, rfl⟩ | rfl
      · simp [Instr.sliceBounds]
      · simp [Instr.sliceBounds, bound_run h1]
    · rcases hlo with ⟨rfl, rfl⟩ | rfl
      · simp [Instr.sliceBounds, bound_run h2]
      · simp [Instr.sliceBounds, bound_run h2, bound_run h1]
  · rcases hhi with ⟨_, h, _⟩ | rfl
    · cases h
    · rcases hlo with ⟨rfl, rfl⟩ | rfl
      · simp [Instr.sliceBounds, bound_run h2, bound_run (Nat.le_refl hi)]
      · simp [Instr.sliceBounds, bound_run h2, bound_run (Nat.le_refl hi), bound_run h1]
theorem slice_geo {o lo hi c z : Nat} {en : Ent} {ad : Addr} (had : ad = en.a.add o ∨ (c = 0 ∧ o ≠ 0)) (m : Nat) (hm : m ≤ c) (h1 : lo ≤ hi) (h2 : hi ≤ m) :
    (if m = lo then some ad else (some ad).map (·.add (lo * z))) = some (if m = lo then ad else ad.add (lo * z)) ∧
    ((if m = lo then ad else ad.add (lo * z)) = en.a.add (o + lo * z) ∨ (m - lo = 0 ∧ o + lo * z ≠ 0)) := by
  refine ⟨by split <;> rfl, ?_⟩
  by_cases he : m = lo
  · rw [if_pos he]
    by_cases hz : o + lo * z = 0
    · left
      have h0 : o = 0 := by omega
      rcases had with had | ⟨_, h⟩
      · rw [had, h0, show 0 + lo * z = 0 from by omega]
      · exact absurd h0 h
    · exact .inr ⟨by omega, hz⟩
  · rw [if_neg he]
    rcases had with had | ⟨hc, h⟩
    · left; rw [had, add_add]
    · omega
theorem op_slice {t : TypeId} {x : Operand} {lo hi mx : Option Operand} {r : ARes} (h : SR P N μ σ w) (ha : AR P μ a ca) (hr : dSlice t x lo hi mx P a σ = some r) :
    NR P N μ σ w r ((do pure (.value (← Instr.sliceAt t (ca.eval x) (lo.map ca.eval) (hi.map ca.eval) (mx.map ca.eval))) : Sem Next).run P w) := by
  obtain ⟨v, hv, hr1⟩ := obind_some.1 hr
  obtain ⟨vlo, hvlo, hr2⟩ := obind_some.1 hr1
  obtain ⟨vhi, hvhi, hr3⟩ := obind_some.1 hr2
  obtain ⟨vmx, hvmx, hr4⟩ := obind_some.1 hr3
  obtain ⟨l, hl, hr5⟩ := obind_some.1 hr4
  have hx := ha.eval h hv
  have qlo := ha.evalO h hvlo
  have qhi := ha.evalO h hvhi
  have qmx := ha.evalO h hvmx
  have qlo := natOr_some hl qlo
  have qlo' : ((lo.map ca.eval) = none ∧ l = 0) ∨ (lo.map ca.eval) = some (.int .i64 (Int.ofNat l)) := by
    rcases qlo with ⟨_, h1, h2⟩ | ⟨_, h1⟩
    · exact .inl ⟨h1, h2⟩
    · exact .inr h1
  clear hr hr1 hr2 hr3 hr4
  generalize ca.eval x = X at *
  split at hr5
  · rename_i hu
    cases v with
    | str s =>
      obtain ⟨hn, hhn, hr6⟩ := obind_some.1 hr5
      obtain ⟨hmn, hr7⟩ := cnd_none.1 hr6
      obtain ⟨hb, hr8⟩ := cnd_none.1 hr7
      cases hr8
      simp only [Bool.and_eq_true] at hb
      have b1 := Nat.le_of_ble_eq_true hb.1
      have b2 := Nat.le_of_ble_eq_true hb.2
      have hmx : mx.map ca.eval = none := by
        rcases qmx with ⟨_, rfl⟩ | ⟨_, _, rfl, _, _⟩
        · rfl
        · cases hmn
      cases hx with
      | str _ S hS =>
        subst hS
        have hsl : (S.data.toList.map (·.toNat)).length = S.size := by simp
        rw [hsl] at b2 hhn
        have qhi' : ((hi.map ca.eval) = none ∧ (none : Option Value) = none ∧ hn = S.size) ∨ (hi.map ca.eval) = some (.int .i64 (Int.ofNat hn)) := by
          rcases natOr_some hhn qhi with ⟨_, h1, h2⟩ | ⟨_, h1⟩
          · exact .inl ⟨h1, rfl, h2⟩
          · exact .inr h1
        have hbr := bounds_run (P := P) (w := w) (isS := false) (cap := S.size) qlo' qhi' (.inl rfl) b1 b2
        refine NR.value h (u := .string (S.extract l hn)) ?_ (.str _ _ ?_)
        · simp [Instr.sliceAt, Instr.slice, run_underlying hu, hmx, hbr]
        · simp [List.extract_eq_take_drop, List.map_drop, List.map_take, List.drop_take]
    | _ => cases hr5
  · rename_i e hu
    obtain ⟨z, hz, hr6⟩ := obind_some.1 hr5
    cases v with
    | slice b o n lim wh =>
      obtain ⟨hn, hhn, hr7⟩ := obind_some.1 hr6
      obtain ⟨m, hm, hr8⟩ := obind_some.1 hr7
      obtain ⟨hb, hr9⟩ := cnd_none.1 hr8
      cases hr9
      simp only [Bool.and_eq_true] at hb
      have b1 : l ≤ hn := Nat.le_of_ble_eq_true hb.1.1.1
      have b2 : hn ≤ n := Nat.le_of_ble_eq_true hb.1.1.2
      obtain rfl : m = hn := Nat.eq_of_beq_eq_true hb.1.2
      have hb4 := hb.2
      cases hx with
      | slice _ _ _ _ _ en ad c hen had hnc hmc hlim hc =>
        have qmx' : (vmx = none ∧ mx.map ca.eval = none) ∨ (vmx.isSome = true ∧ mx.map ca.eval = some (.int .i64 (Int.ofNat m))) := by
          rcases natOr_some hm qmx with ⟨h0, h1, h2⟩ | h1
          · exact .inl ⟨h0, h1⟩
          · exact .inr h1
        have qhi' : ((hi.map ca.eval) = none ∧ mx.map ca.eval = none ∧ m = n) ∨ (hi.map ca.eval) = some (.int .i64 (Int.ofNat m)) := by
          rcases natOr_some hhn qhi with ⟨h0, h1, h2⟩ | ⟨_, h1⟩
          · refine .inl ⟨h1, ?_, h2⟩
            rcases qmx' with ⟨_, h⟩ | ⟨h3, _⟩
            · exact h
            · subst h0
              cases vmx with
              | none => cases h3
              | some _ => cases hb4
          · exact .inr h1
        have hbr := bounds_run (P := P) (w := w) (isS := true) (len := n) (cap := c) qlo' qhi' (qmx'.elim (fun h => .inl h.2) fun h => .inr h.2) b1 (Nat.le_trans b2 hnc)
        have hM : ∃ M, (if (mx.map ca.eval).isSome = true then m else c) = M ∧ m ≤ M ∧ M ≤ c ∧ (vmx = none → M = c) ∧ (vmx.isSome = true → M = m) := by
          refine ⟨_, rfl, ?_, ?_, ?_, ?_⟩
          · split <;> omega
          · split <;> omega
          · intro h0
            rcases qmx' with ⟨_, h⟩ | ⟨h3, _⟩
            · rw [h]; rfl
            · rw [h0] at h3; cases h3
          · intro h0
            rcases qmx' with ⟨h3, _⟩ | ⟨_, h⟩
            · rw [h3] at h0; cases h0
            · rw [h]; rfl
        obtain ⟨M, hM, m1, m2, m3, m4⟩ := hM
        rw [hM] at hbr
        obtain ⟨g1, g2⟩ := slice_geo (lo := l) (hi := m) (z := z) had M m2 b1 m1
        refine NR.value h (u := .slice (some (if M = l then ad else ad.add (l * z))) (m - l) (M - l)) ?_ (.slice b (o + l * z) (m - l) _ _ en _ (M - l) hen g2 (by omega) (by omega) ?_ ?_)
        · simp only [Instr.sliceAt, Instr.slice, run_underlying hu, hbr, sizeT_run hz, Sem.run_bind, Sem.run_pure, Result.andThen_ok, g1]
        · intro hl
          cases vmx with
          | some _ => rw [m4 rfl]
          | none =>
            simp only [Option.isSome_none, Bool.false_or, Bool.and_eq_true] at hl
            rw [m3 rfl, hlim hl.1, Nat.eq_of_beq_eq_true hl.2]
        · intro hw ho sz t' hsz
          simp only [Bool.and_eq_true, Bool.or_eq_true] at hw
          have hc := hc hw.1.1 (by omega) sz t' hsz
          have hl0 : l = 0 := Nat.eq_of_beq_eq_true hw.1.2
          have hMc : M = c := by
            cases vmx with
            | none => exact m3 rfl
            | some _ =>
              rcases hw.2 with h2 | h2
              · cases h2
              · rw [m4 rfl, hlim h2.1, Nat.eq_of_beq_eq_true h2.2]
          rw [hMc, hl0, Nat.sub_zero]; exact hc
    | nilslice =>
      obtain ⟨hn, hhn, hr7⟩ := obind_some.1 hr6
      obtain ⟨m, hm, hr8⟩ := obind_some.1 hr7
      obtain ⟨hb, hr9⟩ := cnd_none.1 hr8
      cases hr9
      simp only [Bool.and_eq_true] at hb
      have b1 : l = 0 := Nat.eq_of_beq_eq_true hb.1.1.1
      have b2 : hn = 0 := Nat.eq_of_beq_eq_true hb.1.1.2
      have b3 : m = hn := Nat.eq_of_beq_eq_true hb.1.2
      have hb4 := hb.2
      subst b1
      subst b2
      subst b3
      have qmx' : (vmx = none ∧ mx.map ca.eval = none) ∨ (vmx.isSome = true ∧ mx.map ca.eval = some (.int .i64 (Int.ofNat 0))) := by
        rcases natOr_some hm qmx with ⟨h0, h1, h2⟩ | h1
        · exact .inl ⟨h0, h1⟩
        · exact .inr h1
      have qhi' : ((hi.map ca.eval) = none ∧ mx.map ca.eval = none ∧ 0 = 0) ∨ (hi.map ca.eval) = some (.int .i64 (Int.ofNat 0)) := by
        rcases natOr_some hhn qhi with ⟨h0, h1, h2⟩ | ⟨_, h1⟩
        · refine .inl ⟨h1, ?_, rfl⟩
          rcases qmx' with ⟨_, h⟩ | ⟨h3, _⟩
          · exact h
          · subst h0
            cases vmx with
            | none => cases h3
            | some _ => cases hb4
        · exact .inr h1
      have hbr := bounds_run (P := P) (w := w) (isS := true) (len := 0) (cap := 0) qlo' qhi' (qmx'.elim (fun h => .inl h.2) fun h => .inr h.2) (Nat.le_refl 0) (Nat.le_refl 0)
      cases hx
      refine NR.value h (u := .slice none 0 0) ?_ .nilslice
      simp [Instr.sliceAt, Instr.slice, run_underlying hu, hbr, sizeT_run hz]
    | _ => cases hr6
  · rename_i n e hu
    obtain ⟨z, hz, hr6⟩ := obind_some.1 hr5
    cases v with
    | ptr b o =>
      obtain ⟨hn, hhn, hr7⟩ := obind_some.1 hr6
      obtain ⟨hb, hr8⟩ := cnd_none.1 hr7
      cases hr8
      simp only [Bool.and_eq_true] at hb
      have b1 : l ≤ hn := Nat.le_of_ble_eq_true hb.1.1.1
      obtain rfl : hn = n := Nat.eq_of_beq_eq_true hb.1.1.2
      have b4 := Nat.le_of_ble_eq_true hb.2
      have hmx : mx.map ca.eval = none := by
        rcases qmx with ⟨_, rfl⟩ | ⟨_, _, rfl, _, _⟩
        · rfl
        · cases hb.1.2
      have qhi' : ((hi.map ca.eval) = none ∧ (none : Option Value) = none ∧ hn = hn) ∨ (hi.map ca.eval) = some (.int .i64 (Int.ofNat hn)) := by
        rcases natOr_some hhn qhi with ⟨_, h1, h2⟩ | ⟨_, h1⟩
        · exact .inl ⟨h1, rfl, h2⟩
        · exact .inr h1
      have hbr := bounds_run (P := P) (w := w) (isS := false) (len := hn) (cap := hn) qlo' qhi' (.inl rfl) b1 (Nat.le_refl _)
      cases hx with
      | ptr _ _ en hen =>
        obtain ⟨g1, g2⟩ := slice_geo (lo := l) (hi := hn) (z := z) (en := en) (c := hn) (ad := en.a.add o) (.inl rfl) hn (Nat.le_refl _) b1 (Nat.le_refl _)
        refine NR.value h (u := .slice (some (if hn = l then en.a.add o else (en.a.add o).add (l * z))) (hn - l) (hn - l)) ?_ (.slice b (o + l * z) (hn - l) true false en _ (hn - l) hen g2 (Nat.le_refl _) (by simp only [maxLen]; omega) (fun _ => rfl) (by simp))
        simp only [Instr.sliceAt, run_underlying hu, Instr.sureAddr, hmx, hbr, sizeT_run hz, Sem.run_bind, Sem.run_pure, Result.andThen_ok, Option.isSome_none, Bool.false_eq_true, if_false]
    | _ => cases hr6
  · cases hr5
end
end Go.Proofs.Vai
