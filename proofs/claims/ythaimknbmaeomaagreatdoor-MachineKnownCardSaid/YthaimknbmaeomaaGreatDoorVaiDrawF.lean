/- Drawn regions, sixth part: operations that lay one row. -/
import Derived.Test.YthaimknbmaeomaaGreatDoorVaiDrawE
set_option linter.unusedVariables false
set_option linter.unusedSimpArgs false
set_option linter.unusedSectionVars false
namespace Go.Proofs.Vai
open Go Go.RowKit
variable [Env]

section
variable {P : Program} {N : Nat}

/-- What laying one row is, wherever the row comes to lie. -/
structure Lay (P : Program) (N : Nat) (μ : Inj) (o : Oper) (a : AAct) (ca : Act) (v : Pos → AV) (blk : ABlk) (obj : Obj) (U : Nat → Value) (own : Option (Nat × TypeId)) : Prop where
  alive : isDead blk = false
  says : ∀ s, opA o.op P a s = some (.val (v s.n) (s.push blk))
  run : ∀ w : World, (execOp ca.eval o).run P w = .ok (.value (U w.heap.size)) (w.alloc obj)
  br : ∀ (g : Nat) (w' : World) (μ' : Inj), Sub μ μ' → N ≤ g → w'.heap[g]? = some obj → BR P N μ' w' blk ⟨⟨g, 0, none⟩, own⟩
  val : ∀ (n : Pos) (g : Nat) (μ' : Inj), μ' n = some ⟨⟨g, 0, none⟩, own⟩ → VR P μ' (v n) (U g)

theorem row_br {μ : Inj} {t : TypeId} {vs : List AV} {us : Array Value} (hv : VRs P μ vs us.toList) (ho : ones vs = true) (g : Nat) (w' : World) (μ' : Inj) (hs : Sub μ μ') (hN : N ≤ g) (hg : w'.heap[g]? = some (.cells us t (0, 0))) :
    BR P N μ' w' (.cells true t vs.length (.of vs)) ⟨⟨g, 0, none⟩, some (us.size, t)⟩ := by
  have hl : vs.length = us.size := by simpa using hv.length
  refine ⟨g, us.size, us, rfl, hN, hg, rfl, by omega, fun i hi => ?_⟩
  obtain ⟨v, hvi⟩ : ∃ v, vs[i]? = some v := ⟨vs[i], List.getElem?_eq_getElem hi⟩
  obtain ⟨u, hu, hr⟩ := hv.get hvi
  exact ⟨v, u, by rw [Cs.of_get]; exact hvi, by simpa using hu, hr.mono hs, ones_get ho hvi⟩
theorem ptr_at {μ' : Inj} {n : Pos} {g : Nat} {own : Option (Nat × TypeId)} (h : μ' n = some ⟨⟨g, 0, none⟩, own⟩) : VR P μ' (.ptr n 0) (.pointer (some ⟨g, 0, none⟩)) := by
  have := VR.ptr (P := P) (μ := μ') n 0 _ h
  simpa [add_nil] using this

theorem lay_sound {μ : Inj} {σ : St} {w : World} {o : Oper} (h1 : clsO P o.op = 1) {a : AAct} {ca : Act} (hs : SR P N μ σ w) (ha : AR P μ a ca) {s : St} {x : ARes} (hx : opA o.op P a s = some x) :
    ∃ v blk obj U own, Lay P N μ o a ca v blk obj U own := by
  cases ho : o.op <;> rw [ho] at h1 hx <;> first | (cases h1; done) | skip
  case convert s d x => exfalso; simp only [clsO] at h1; split at h1 <;> cases h1
  case call c => exfalso; simp only [clsO] at h1; split at h1 <;> cases h1
  case alloc t =>
    obtain ⟨z, hz, hx⟩ := obind_some.1 (show Vai.obind (zeroT P t) (fun z => Vai.cnd (ones z.cells) (some (ARes.val (.ptr s.n 0) (s.row t z.cells))) none) = some x from hx)
    obtain ⟨hon, hx⟩ := cnd_none.1 hx
    obtain ⟨zv, _, hzv, i, hi, hzz⟩ := zeroT_run (μ := μ) hz w
    have hrun : ∀ w : World, (zeroValue t).run P w = .ok zv w := fun w => by simp [zeroValue, run_info hi, hzz]
    refine ⟨fun n => .ptr n 0, .cells true t z.cells.length (.of z.cells), .cells zv.cells t (0, 0), fun g => .pointer (some ⟨g, 0, none⟩), some (zv.cells.size, t), rfl, fun s' => ?_, fun w => ?_, ?_, fun n g μ' h => ptr_at h⟩
    · rw [ho]
      show Vai.obind (zeroT P t) (fun z => Vai.cnd (ones z.cells) (some (ARes.val (.ptr s'.n 0) (s'.row t z.cells))) none) = _
      rw [hz]
      show Vai.cnd (ones z.cells) _ _ = _
      rw [hon]
      rfl
    · unfold execOp
      simp only [ho]
      simp [Instr.alloc, hrun, newVar, newRow]
    · exact row_br (hzv.cells (ones_cells_ne hon)) hon
  case box t y =>
    obtain ⟨z, hz, hx⟩ := obind_some.1 (show Vai.obind (a.eval P y) (fun v => Vai.cnd (ones v.cells) (some (ARes.val (.ptr s.n 0) (s.row t v.cells))) none) = some x from hx)
    obtain ⟨hon, hx⟩ := cnd_none.1 hx
    have hzv := ha.eval hs hz
    refine ⟨fun n => .ptr n 0, .cells true t z.cells.length (.of z.cells), .cells (ca.eval y).cells t (0, 0), fun g => .pointer (some ⟨g, 0, none⟩), some ((ca.eval y).cells.size, t), rfl, fun s' => ?_, fun w => ?_, ?_, fun n g μ' h => ptr_at h⟩
    · rw [ho]
      show Vai.obind (a.eval P y) (fun v => Vai.cnd (ones v.cells) (some (ARes.val (.ptr s'.n 0) (s'.row t v.cells))) none) = _
      rw [hz]
      show Vai.cnd (ones z.cells) _ _ = _
      rw [hon]
      rfl
    · unfold execOp
      simp only [ho]
      simp [Instr.box, newVar, newRow]
    · exact row_br (hzv.cells (ones_cells_ne hon)) hon
  case makeMap t r =>
    cases r with
    | some y => cases hx
    | none =>
      refine ⟨fun n => .map n, .map [], .map #[] 0, fun g => .map (some g), none, rfl, fun s' => by rw [ho]; rfl, fun w => ?_, fun g w' μ' hsub hN hg => ⟨g, #[], 0, rfl, hN, hg, .nil⟩, fun n g μ' h => .map n _ h⟩
      unfold execOp
      simp only [ho]
      simp [Instr.makeMap]
  case buildSlice t n ps =>
    obtain ⟨vs, hvs, hx⟩ := obind_some.1 (show Vai.obind (evals P a (ps.toList.map (·.2))) (fun vs => buildSliceA P t n (ps.toList.map (·.1)) vs s) = some x from hx)
    obtain ⟨e, he, hx⟩ := obind_some.1 hx
    obtain ⟨zs, hzs, hx⟩ := obind_some.1 hx
    obtain ⟨cs, hcs, rfl⟩ := omap_some.1 hx
    have hvv := ha.evals hs hvs
    have he' := elemT_some he
    have hzs0 := hzs
    unfold planS at hzs
    split at hzs
    · rename_i ie hie
      cases hc : (ie.zero.isSome && Nat.ble n 16777216 && Nat.ble (n * ie.size) 16777216) with
      | false => rw [hc] at hzs; cases hzs
      | true =>
        rw [hc, cond_true] at hzs
        simp only [Bool.and_eq_true] at hc
        obtain ⟨⟨hz, hn⟩, hns⟩ := hc
        have hn := Nat.le_of_ble_eq_true hn
        have hns := Nat.le_of_ble_eq_true hns
        obtain ⟨z, hz⟩ := Option.isSome_iff_exists.1 hz
        have hul : ((ps.toList.map (·.2)).map ca.eval).length = (ps.toList.map (·.1)).length := by simp
        have hrun : ∃ R, (∀ w : World, (Instr.buildSlice t n (ps.map fun (i, x) => (i, ca.eval x))).run P w = .ok (.slice (some ⟨w.heap.size, 0, none⟩) n n) (w.alloc (.cells R.toArray e))) ∧ VRs P μ cs R ∧ ones cs = true ∧ R.length = n * ie.size := by
          by_cases h0 : n * ie.size = 0
          · obtain ⟨R, q1, q2, q3, q4⟩ := fill_plan (P := P) (μ := μ) _ _ _ 0 zs vs _ cs ((Array.range (n * ie.size)).map ((#[] : Array Value)[· % (#[] : Array Value).size]!)) hzs hcs hvv (by simp) hul
            refine ⟨R, fun w => ?_, q2, q3, by omega⟩
            rw [← parts_zip] at q1
            simp only [List.take_zero, List.nil_append] at q1
            simp [Instr.buildSlice, run_underlying he', sizeOf, typeInfo, hie, h0, newRow] at q1 ⊢
            simp [q1]
          · obtain ⟨R, q1, q2, q3, q4⟩ := fill_plan (P := P) (μ := μ) _ _ _ 0 zs vs _ cs ((Array.range (n * ie.size)).map (z.cells[· % z.cells.size]!)) hzs hcs hvv (by simp) hul
            refine ⟨R, fun w => ?_, q2, q3, by omega⟩
            rw [← parts_zip] at q1
            have hns' : ¬ n * ie.size > 2 ^ 24 := by omega
            simp only [List.take_zero, List.nil_append] at q1
            simp only [Instr.buildSlice, run_underlying he', sizeOf, typeInfo, zeroValue, hie, hz, hns', h0, newRow, Sem.run_bind, Result.andThen_ok, run_program, Sem.run_pure, if_false, q1]
            rfl
        obtain ⟨R, hrun, q2, q3, q4⟩ := hrun
        refine ⟨fun m => .slice m 0 n true true, .cells true e cs.length (.of cs), .cells R.toArray e (0, 0), fun g => .slice (some ⟨g, 0, none⟩) n n, some (R.toArray.size, e), rfl, fun s' => ?_, fun w => ?_, ?_, fun m g μ' h => ?_⟩
        · rw [ho]
          show Vai.obind (evals P a (ps.toList.map (·.2))) (fun vs => Vai.obind (elemT P t) fun e => Vai.obind (planS P e n (ps.toList.map (·.1))) fun zs => Vai.omap (joinA zs vs) fun cs => ARes.val (.slice s'.n 0 n true true) (s'.row e cs)) = _
          rw [hvs]
          show Vai.obind (elemT P t) _ = _
          rw [he]
          show Vai.obind (planS P e n (ps.toList.map (·.1))) _ = _
          rw [hzs0]
          show Vai.omap (joinA zs vs) _ = _
          rw [hcs]
          rfl
        · unfold execOp
          simp only [ho]
          simp [hrun]
        · exact row_br (us := R.toArray) (by simpa using q2) q3
        · refine .slice m 0 n true true _ _ n h (.inl (by rw [add_nil])) (Nat.le_refl n) (by simp only [maxLen]; omega) (fun _ => rfl) (fun _ _ sz t h => ?_)
          cases h
          rw [show P.cellsOf e = ie.size from by simp [Program.cellsOf, hie]]
          simpa using q4.symm
    · cases hzs
  case makeSlice t l c =>
    obtain ⟨lv, hl, hx⟩ := obind_some.1 hx
    obtain ⟨cv, hc, hx⟩ := obind_some.1 hx
    obtain ⟨ln, hln, hx⟩ := obind_some.1 hx
    obtain ⟨cn, hcn, hx⟩ := obind_some.1 hx
    obtain ⟨e, he, hx⟩ := obind_some.1 hx
    obtain ⟨by_, hby, hx⟩ := obind_some.1 hx
    obtain ⟨sz, hsz, hx⟩ := obind_some.1 hx
    obtain ⟨z, hz, hx⟩ := obind_some.1 hx
    obtain ⟨hb, hx⟩ := cnd_none.1 hx
    have hb0 := hb
    simp only [Bool.and_eq_true] at hb
    obtain ⟨⟨⟨⟨b1, b2⟩, b3⟩, b4⟩, b5⟩ := hb
    have hlv := ha.eval hs hl
    have hcv := ha.eval hs hc
    obtain rfl := natA_some hln
    obtain rfl := natA_some hcn
    have b1 : ln ≤ cn := Nat.le_of_ble_eq_true b1
    have b2 : cn * by_ ≤ 140737488355328 := Nat.le_of_ble_eq_true b2
    have b3 : cn ≤ 1000000 := Nat.le_of_ble_eq_true b3
    have b5 : z.cells.length = sz := Nat.eq_of_beq_eq_true b5
    obtain ⟨zv, _, hzv, i, hi, hzz⟩ := zeroT_run (μ := μ) hz w
    have he' := elemT_some he
    obtain ⟨i', hi', rfl⟩ := bytesT_info hby
    rw [hi] at hi'
    cases hi'
    have hsi : i.size = sz := by unfold sizeT at hsz; rw [hi] at hsz; cases hsz; rfl
    have hzc := hzv.cells (ones_cells_ne b4)
    have hzs : zv.cells.size = sz := by rw [← b5]; simpa using hzc.length.symm
    have hrun : ∀ w : World, (Instr.makeSlice t (.int .i64 (Int.ofNat ln)) (.int .i64 (Int.ofNat cn))).run P w = .ok (.slice (some ⟨w.heap.size, 0, none⟩) ln cn) (w.alloc (.cells (madeCells zv.cells (cn * zv.cells.size)) e)) := fun w => by
      have hrun := run_make (P := P) w t e i zv he' hi hzz .i64 .i64 (Int.ofNat ln) (Int.ofNat cn) (Int.natCast_nonneg _) (Int.ofNat_le.2 b1)
        (by rw [Nat.mul_comm] at b2
            have hq : ((i.bytes * cn : Nat) : Int) ≤ ((140737488355328 : Nat) : Int) := Int.ofNat_le.2 b2
            rw [Int.natCast_mul] at hq
            exact Int.le_trans hq (by decide)) (by show ((cn : Nat) : Int) ≤ _; omega)
      simp only [Int.ofNat_eq_natCast, Int.toNat_natCast] at hrun
      rw [hsi, ← hzs] at hrun
      exact hrun
    have hX : ca.eval l = .int .i64 (Int.ofNat ln) := by
      generalize ca.eval l = X at hlv
      cases hlv
      rfl
    have hY : ca.eval c = .int .i64 (Int.ofNat cn) := by
      generalize ca.eval c = Y at hcv
      cases hcv
      rfl
    refine ⟨fun m => .slice m 0 ln (Nat.beq ln cn) true, .cells true e (repl z.cells cn).length (.of (repl z.cells cn)), .cells (madeCells zv.cells (cn * zv.cells.size)) e (0, 0), fun g => .slice (some ⟨g, 0, none⟩) ln cn, some ((madeCells zv.cells (cn * zv.cells.size)).size, e), rfl, fun s' => ?_, fun w => ?_, ?_, fun m g μ' h => ?_⟩
    · rw [ho]
      have e1 : opA (.makeSlice t l c) P a s' = oMakeSlice P t ln cn s' := by
        show Vai.obind (a.eval P l) (fun l => Vai.obind (a.eval P c) fun c => Vai.obind (natA l) fun l => Vai.obind (natA c) fun c => oMakeSlice P t l c s') = _
        rw [hl, hc]
        rfl
      rw [e1]
      show Vai.obind (elemT P t) _ = _
      rw [he]
      show Vai.obind (bytesT P e) _ = _
      rw [hby]
      show Vai.obind (sizeT P e) _ = _
      rw [hsz]
      show Vai.obind (zeroT P e) _ = _
      rw [hz]
      show Vai.cnd _ _ _ = _
      rw [hb0]
      rfl
    · unfold execOp
      simp only [ho, hX, hY, Sem.run_bind, hrun w, Result.andThen_ok]
      rfl
    · exact row_br (repl_made hzc cn) (ones_repl b4 cn)
    · refine .slice m 0 ln (Nat.beq ln cn) true _ _ cn h (.inl (by rw [add_nil])) b1 (by simp only [maxLen]; omega) (fun h => (Nat.eq_of_beq_eq_true h).symm) (fun _ _ sz' t' h' => ?_)
      cases h'
      rw [sizeT_cells hsz, size_madeCells, hzs]
end
end Go.Proofs.Vai
