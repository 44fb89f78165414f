/- The operations, fifth part: literals of structs, arrays and slices, make, slices of slices. -/
import Derived.Test.YthaimknbmaeomaaGreatDoorVaiOpsD
set_option linter.unusedVariables false
set_option linter.unusedSimpArgs false
set_option linter.unusedSectionVars false
namespace Go.Proofs.Vai
open Go Go.RowKit
variable [Env]

section
variable {P : Program} {N : Nat} {μ : Inj} {σ : St} {w : World} {a : AAct} {ca : Act}

/-! ### Literals -/
theorem setCells_list (off : Nat) (u : Array Value) (Z : Array Value) (h : off + u.size ≤ Z.size) :
    (u.zipIdx.foldl (fun cs (x : Value × Nat) => cs.setIfInBounds (off + x.2) x.1) Z).toList = Z.toList.take off ++ (u.toList ++ Z.toList.drop (off + u.size)) := by
  rw [← Array.foldl_toList, Array.toList_zipIdx]
  obtain ⟨h1, h2⟩ := Great.foldl_set off u.toList 0 Z
  apply List.ext_getElem?
  intro k
  rw [Array.getElem?_toList, h2 k]
  simp only [Nat.add_zero, Array.length_toList]
  by_cases hk : off ≤ k ∧ k < off + u.size ∧ k < Z.size
  · rw [if_pos hk]
    simp [List.getElem?_append, List.length_take, Nat.min_eq_left (show off ≤ Z.size by omega), show ¬ k < off by omega, show k - off < u.size by omega]
  · rw [if_neg hk]
    by_cases hlt : k < off
    · simp [List.getElem?_append, List.length_take, Nat.min_eq_left (show off ≤ Z.size by omega), hlt]
    · have : ¬ k - off < u.size := by omega
      simp [List.getElem?_append, List.length_take, Nat.min_eq_left (show off ≤ Z.size by omega), hlt, this, List.getElem?_drop]
      congr 1
      omega
theorem setCells_size (off : Nat) (u : Array Value) (Z : Array Value) : (u.zipIdx.foldl (fun cs (x : Value × Nat) => cs.setIfInBounds (off + x.2) x.1) Z).size = Z.size := by
  rw [← Array.foldl_toList, Array.toList_zipIdx]
  exact (Great.foldl_set off u.toList 0 Z).1
theorem addPart_some {z : Nat} {v : AV} {r' r : List AV} (h : addPart z r' v = some r) {u : Value} (hv : VR P μ v u) : v.cells.length = z ∧ ones v.cells = true ∧ r = v.cells ++ r' ∧ VRs P μ v.cells u.cells.toList := by
  have one : v.one = true → cnd (Nat.beq z 1) (some (v :: r')) none = some r → v ≠ .bad → v.cells = [v] → v.cells.length = z ∧ ones v.cells = true ∧ r = v.cells ++ r' ∧ VRs P μ v.cells u.cells.toList := by
    intro ho hq hb hc
    obtain ⟨h1, h2⟩ := cnd_none.1 hq
    cases h2
    have h1 := Nat.eq_of_beq_eq_true h1
    refine ⟨by rw [hc, h1]; rfl, by rw [hc, ones_eq]; simp [ho], by rw [hc]; rfl, hv.cells hb⟩
  cases v with
  | agg cs =>
    obtain ⟨h1, h2⟩ := cnd_none.1 h
    cases h2
    refine ⟨Nat.eq_of_beq_eq_true h1, ?_, rfl, hv.cells (by simp)⟩
    cases hv with | agg _ C hC ho => exact ho
  | tuple _ => cases h
  | bad => cases h
  | _ => exact one rfl h (by simp) rfl
theorem planL_le (place : Nat → Option (Nat × Nat)) (n : Nat) : ∀ (is : List Nat) (at_ : Nat) (zs : List Nat), planL place is at_ n = some zs → at_ ≤ n
  | [], at_, zs, h => by
    unfold planL at h
    cases hb : Nat.beq at_ n with
    | true => exact Nat.le_of_eq (Nat.eq_of_beq_eq_true hb)
    | false => rw [hb] at h; cases h
  | i :: is, at_, zs, h => by
    unfold planL at h
    split at h
    · rename_i p hp
      cases hb : Nat.beq p.1 at_ with
      | false => rw [hb] at h; cases h
      | true =>
        rw [hb, cond_true] at h
        split at h
        · rename_i r hr
          have := planL_le place n is _ _ hr
          omega
        · cases h
    · cases h
/-- Parts that stand one behind the other and are the whole. -/
theorem fill_plan (place : Nat → Option (Nat × Nat)) (n : Nat) : ∀ (is : List Nat) (at_ : Nat) (zs : List Nat) (vs : List AV) (us : List Value) (r : List AV) (Z : Array Value), planL place is at_ n = some zs → joinA zs vs = some r → VRs P μ vs us → Z.size = n → us.length = is.length →
    ∃ R, Instr.fill place Z (is.zip us) = some (Z.toList.take at_ ++ R).toArray ∧ VRs P μ r R ∧ ones r = true ∧ at_ + R.length = n
  | [], at_, zs, vs, us, r, Z, h, hj, hv, hz, hl => by
    unfold planL at h
    cases hb : Nat.beq at_ n with
    | false => rw [hb] at h; cases h
    | true =>
      rw [hb] at h
      cases h
      have hb := Nat.eq_of_beq_eq_true hb
      have : us = [] := List.eq_nil_of_length_eq_zero hl
      subst this
      cases hv
      cases hj
      refine ⟨[], ?_, .nil, rfl, by simpa using hb⟩
      simp only [List.zip_nil_left, Instr.fill, List.append_nil]
      rw [hb, ← hz, List.take_of_length_le (by simp)]
  | i :: is, at_, zs, vs, us, r, Z, h, hj, hv, hz, hl => by
    unfold planL at h
    split at h
    · rename_i p hp
      cases hb : Nat.beq p.1 at_ with
      | false => rw [hb] at h; cases h
      | true =>
        have hb' := Nat.eq_of_beq_eq_true hb
        rw [hb, cond_true] at h
        split at h
        · rename_i zs' hzs
          cases h
          cases hv with
          | nil => simp at hl
          | cons v u vs us hv hvs =>
            obtain ⟨r', hr', hj⟩ := obind_some.1 (show obind (joinA zs' vs) (fun r => addPart p.2 r v) = some r from hj)
            obtain ⟨h1, h2, rfl, h4⟩ := addPart_some hj hv
            have hle := planL_le place n is _ _ hzs
            have hu : u.cells.size = p.2 := by rw [← h1]; simpa using h4.length.symm
            have hlen : at_ + u.cells.size ≤ Z.size := by omega
            obtain ⟨R, q1, q2, q3, q4⟩ := fill_plan place n is (at_ + p.2) zs' vs us r' (u.cells.zipIdx.foldl (fun cs (x : Value × Nat) => cs.setIfInBounds (at_ + x.2) x.1) Z) hzs hr' hvs
              (by rw [setCells_size]; exact hz) (by simpa using hl)
            refine ⟨u.cells.toList ++ R, ?_, h4.append q2, ones_append h2 q3, by simp [hu]; omega⟩
            rw [List.zip_cons_cons]
            unfold Instr.fill
            rw [hp]
            simp only [hb']
            rw [if_neg (by simp; omega), q1, setCells_list at_ u.cells Z hlen]
            congr 2
            have e1 : (Z.toList.take at_ ++ u.cells.toList).length = at_ + p.2 := by simp; omega
            rw [← List.append_assoc, ← e1, List.take_left, List.append_assoc]
        · cases h
    · cases h
theorem fill_over (place : Nat → Option (Nat × Nat)) : ∀ (is : List Nat) (vs : List AV) (us : List Value) (z r : List AV) (Z : Array Value), fillA place z (is.zip vs) = some r → VRs P μ vs us → VRs P μ z Z.toList → ones z = true →
    ∃ R, Instr.fill place Z (is.zip us) = some R ∧ VRs P μ r R.toList ∧ ones r = true
  | [], vs, us, z, r, Z, h, hv, hz, ho => by
    simp only [List.zip_nil_left] at h ⊢
    cases h
    exact ⟨Z, rfl, hz, ho⟩
  | i :: is, vs, us, z, r, Z, h, hv, hz, ho => by
    cases hv with
    | nil => simp only [List.zip_nil_right] at h ⊢; cases h; exact ⟨Z, rfl, hz, ho⟩
    | cons v u vs us hv hvs =>
      rw [List.zip_cons_cons] at h ⊢
      unfold fillA at h
      obtain ⟨p, hp, h⟩ := obind_some.1 h
      obtain ⟨hc, h⟩ := cnd_none.1 h
      simp only [Bool.and_eq_true] at hc
      obtain ⟨⟨hc1, hc2⟩, hc3⟩ := hc
      have hc1 := Nat.eq_of_beq_eq_true hc1
      have hc2 : p.1 + p.2 ≤ z.length := Nat.le_of_ble_eq_true hc2
      have h4 := hv.cells (ones_cells_ne hc3)
      have hu : u.cells.size = p.2 := by rw [← hc1]; simpa using h4.length.symm
      have hzl : z.length = Z.size := by simpa using hz.length
      unfold Instr.fill
      rw [hp]
      simp only []
      rw [if_neg (by simp; omega)]
      rw [takeL_eq, dropL_eq] at h
      refine fill_over place is vs us _ r _ h hvs ?_ (ones_append (ones_take ho _) (ones_append hc3 (ones_drop ho _)))
      rw [setCells_list p.1 u.cells Z (by omega), hu]
      exact (hz.take _).append (h4.append (hz.drop _))
theorem parts_zip (ps : Array (Nat × Operand)) (f : Operand → Value) : (ps.map fun (i, x) => (i, f x)).toList = (ps.toList.map (·.1)).zip ((ps.toList.map (·.2)).map f) := by
  rw [Array.toList_map]
  induction ps.toList with
  | nil => rfl
  | cons p ps ih => simp [ih]
theorem op_build {t : TypeId} {ps : Array (Nat × Operand)} {r : ARes} (h : SR P N μ σ w) (ha : AR P μ a ca) (hr : dBuild t ps P a σ = some r) :
    NR P N μ σ w r ((do pure (.value (← Instr.build t (ps.map fun (i, x) => (i, ca.eval x)))) : Sem Next).run P w) := by
  obtain ⟨vs, hvs, hr⟩ := obind_some.1 hr
  obtain ⟨v, hv, rfl⟩ := omap_some.1 hr
  obtain ⟨cs, hcs, rfl⟩ := omap_some.1 hv
  have hvv := ha.evals h hvs
  have key : ∃ R : Array Value, P.built t (ps.map fun (i, x) => (i, ca.eval x)).toList = some R ∧ VRs P μ cs R.toList ∧ ones cs = true := by
    rw [parts_zip]
    generalize hus : (ps.toList.map (·.2)).map ca.eval = us at *
    have hul : us.length = (ps.toList.map (·.1)).length := by rw [← hus]; simp
    generalize ps.toList.map (·.1) = is at *
    cases hp : planT P t is with
    | some zs =>
      rw [hp] at hcs
      have hcs : joinA zs vs = some cs := hcs
      unfold planT at hp
      split at hp
      · rename_i it hit
        split at hp
        · rename_i z hz
          split at hp
          · rename_i fs hu
            split at hp
            · rename_i pl hpl
              obtain ⟨R, q1, q2, q3, _⟩ := fill_plan (P := P) (μ := μ) _ _ is 0 zs vs us cs z.cells hp hcs hvv rfl hul
              refine ⟨R.toArray, ?_, by simpa using q2, q3⟩
              unfold Program.built
              simp only [hit, hu, hz]
              rw [show fs.toList.mapM (fun f => (P.info? f.type).map fun i => (f.offset, i.size)) = some pl from hpl]
              simpa using q1
            · cases hp
          · rename_i m e hu
            split at hp
            · rename_i ie hie
              obtain ⟨R, q1, q2, q3, _⟩ := fill_plan (P := P) (μ := μ) _ _ is 0 zs vs us cs z.cells hp hcs hvv rfl hul
              refine ⟨R.toArray, ?_, by simpa using q2, q3⟩
              unfold Program.built
              simp only [hit, hu, hz, hie]
              simpa using q1
            · cases hp
          · cases hp
        · cases hp
      · cases hp
    | none =>
      rw [hp] at hcs
      have hcs : buildG P t (is.zip vs) = some cs := hcs
      obtain ⟨z, hz, hcs⟩ := obind_some.1 hcs
      obtain ⟨ho, hcs⟩ := cnd_none.1 hcs
      obtain ⟨zv, _, hzv, it, hit, hzz⟩ := zeroT_run (μ := μ) hz w
      have hzc := hzv.cells (ones_cells_ne ho)
      split at hcs
      · rename_i fs hu
        obtain ⟨pl, hpl, hcs⟩ := obind_some.1 hcs
        obtain ⟨R, q1, q2, q3⟩ := fill_over (P := P) (μ := μ) _ is vs us z.cells cs zv.cells hcs hvv hzc ho
        refine ⟨R, ?_, q2, q3⟩
        unfold Program.built
        simp only [hit, hu, hzz]
        rw [show fs.toList.mapM (fun f => (P.info? f.type).map fun i => (f.offset, i.size)) = some pl from hpl]
        exact q1
      · rename_i m e hu
        obtain ⟨n, hn, hcs⟩ := obind_some.1 hcs
        obtain ⟨R, q1, q2, q3⟩ := fill_over (P := P) (μ := μ) _ is vs us z.cells cs zv.cells hcs hvv hzc ho
        refine ⟨R, ?_, q2, q3⟩
        obtain ⟨ie, hie, rfl⟩ := Option.map_eq_some_iff.1 hn
        unfold Program.built
        simp only [hit, hu, hzz, hie]
        exact q1
      · cases hcs
  obtain ⟨R, h1, h2, h3⟩ := key
  exact NR.value h (by simp [run_build w t _ R h1]) (.agg cs R.toList h2 h3)
theorem op_buildSlice {t : TypeId} {n : Nat} {ps : Array (Nat × Operand)} {r : ARes} (h : SR P N μ σ w) (ha : AR P μ a ca) (hr : dBuildSlice t n ps P a σ = some r) :
    NR P N μ σ w r ((do pure (.value (← Instr.buildSlice t n (ps.map fun (i, x) => (i, ca.eval x)))) : Sem Next).run P w) := by
  obtain ⟨vs, hvs, hr⟩ := obind_some.1 hr
  obtain ⟨e, he, hr⟩ := obind_some.1 hr
  obtain ⟨zs, hzs, hr⟩ := obind_some.1 hr
  obtain ⟨cs, hcs, rfl⟩ := omap_some.1 hr
  have hvv := ha.evals h hvs
  have he := elemT_some he
  unfold planS at hzs
  split at hzs
  · rename_i ie hie
    cases hc : (ie.zero.isSome && Nat.ble n 16777216 && Nat.ble (n * ie.size) 16777216) with
    | false => rw [hc] at hzs; cases hzs
    | true =>
      rw [hc, cond_true] at hzs
      simp only [Bool.and_eq_true] at hc
      obtain ⟨⟨hz, hn⟩, hns⟩ := hc
      have hn := Nat.le_of_ble_eq_true hn
      have hns := Nat.le_of_ble_eq_true hns
      obtain ⟨z, hz⟩ := Option.isSome_iff_exists.1 hz
      have hul : ((ps.toList.map (·.2)).map ca.eval).length = (ps.toList.map (·.1)).length := by simp
      have hrun : ∃ R, (Instr.buildSlice t n (ps.map fun (i, x) => (i, ca.eval x))).run P w = .ok (.slice (some ⟨w.heap.size, 0, none⟩) n n) (w.alloc (.cells R.toArray e)) ∧ VRs P μ cs R ∧ ones cs = true ∧ R.length = n * ie.size := by
        by_cases h0 : n * ie.size = 0
        · obtain ⟨R, q1, q2, q3, q4⟩ := fill_plan (P := P) (μ := μ) _ _ _ 0 zs vs _ cs ((Array.range (n * ie.size)).map ((#[] : Array Value)[· % (#[] : Array Value).size]!)) hzs hcs hvv (by simp) hul
          refine ⟨R, ?_, q2, q3, by omega⟩
          rw [← parts_zip] at q1
          have hns' : ¬ n * ie.size > 2 ^ 24 := by omega
          simp only [List.take_zero, List.nil_append] at q1
          simp [Instr.buildSlice, run_underlying he, sizeOf, typeInfo, hie, h0, newRow] at q1 ⊢
          simp [q1]
        · obtain ⟨R, q1, q2, q3, q4⟩ := fill_plan (P := P) (μ := μ) _ _ _ 0 zs vs _ cs ((Array.range (n * ie.size)).map (z.cells[· % z.cells.size]!)) hzs hcs hvv (by simp) hul
          refine ⟨R, ?_, q2, q3, by omega⟩
          rw [← parts_zip] at q1
          have hns' : ¬ n * ie.size > 2 ^ 24 := by omega
          simp only [List.take_zero, List.nil_append] at q1
          simp only [Instr.buildSlice, run_underlying he, sizeOf, typeInfo, zeroValue, hie, hz, hns', h0, newRow, Sem.run_bind, Result.andThen_ok, run_program, Sem.run_pure, if_false, q1]
          rfl
      obtain ⟨R, hrun, q2, q3, q4⟩ := hrun
      have hg := h.row e (us := R.toArray) (by simpa using q2) q3
      refine hg.val hrun ?_
      have := VR.slice (P := P) (μ := upd μ σ.n ⟨⟨w.heap.size, 0, none⟩, some (R.toArray.size, e)⟩) σ.n 0 n true true _ _ n (upd_n _ _ _) (.inl rfl) (Nat.le_refl n) (by simp only [maxLen]; omega) (fun _ => rfl) (fun _ _ sz t h => by cases h; rw [show P.cellsOf e = ie.size from by simp [Program.cellsOf, hie]]; simpa using q4.symm)
      simpa [add_nil] using this
  · cases hzs
theorem op_makeMap {t : TypeId} {x : Option Operand} {r : ARes} (h : SR P N μ σ w) (hr : dMakeMap x P a σ = some r) :
    NR P N μ σ w r ((do pure (.value (← Instr.makeMap t (x.map ca.eval))) : Sem Next).run P w) := by
  cases x with
  | some x => cases hr
  | none =>
    cases hr
    have hg : Goes P N μ σ w (upd μ σ.n ⟨⟨w.heap.size, 0, none⟩, none⟩) (σ.push (.map [])) (w.alloc (.map #[] 0)) :=
      h.laid (World.grownBy_alloc w _ none) (Nat.le_refl _) ⟨w.heap.size, #[], 0, rfl, h.hN, heap_alloc_new w _, .nil⟩
    exact hg.val (by simp [Instr.makeMap]) (.map σ.n _ (upd_n _ _ _))
end
end Go.Proofs.Vai
