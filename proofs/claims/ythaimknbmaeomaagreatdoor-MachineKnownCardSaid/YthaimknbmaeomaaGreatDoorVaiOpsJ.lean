/- The operations, tenth part: the other builtins, type assertions, calls; ALL OPERATIONS. -/
import Derived.Test.YthaimknbmaeomaaGreatDoorVaiOpsI
import Derived.Lib.Bytealg
set_option linter.unusedVariables false
set_option linter.unusedSimpArgs false
set_option linter.unusedSectionVars false
namespace Go.Proofs.Vai
open Go Go.RowKit Go.MapKept
variable [Env]

section
variable {P : Program} {N : Nat} {μ : Inj} {σ : St} {w : World} {a : AAct} {ca : Act}

/-! ### Type assertions -/
theorem op_assert {x : Operand} {xt t : TypeId} {ok : Bool} {r : ARes} (h : SR P N μ σ w) (ha : AR P μ a ca) (hr : dAssert x t ok P a σ = some r) :
    NR P N μ σ w r ((do pure (.value (← Instr.typeAssert (ca.eval x) xt t ok)) : Sem Next).run P w) := by
  obtain ⟨v, hv, hr1⟩ := obind_some.1 hr
  obtain ⟨hi, hr2⟩ := cnd_none'.1 hr1
  have hx := ha.eval h hv
  clear hr hr1
  obtain ⟨d, hd, hn⟩ := isIfaceT_no hi
  generalize ca.eval x = X at *
  have fails : ∀ z, zeroT P t = some z → r = .val (.tuple [z, .bool false]) σ → ok = true → (∃ zv, (zeroValue t).run P w = .ok zv w ∧ VR P μ z zv ∧ ∀ u, u = Value.tuple #[zv, .bool false] → VR P μ (.tuple [z, .bool false]) u) := by
    intro z hz _ _
    obtain ⟨zv, hrun, hzv, _⟩ := zeroT_run (μ := μ) hz w
    exact ⟨zv, hrun, hzv, fun u hu => by rw [hu]; exact .tuple [z, .bool false] [zv, .bool false] (.cons _ _ _ _ hzv (.cons _ _ _ _ (.bool false) .nil))⟩
  cases v with
  | niliface =>
    cases hx
    obtain ⟨hok, hr3⟩ := cnd_none.1 (show cnd ok (omap (zeroT P t) fun z => ARes.val (.tuple [z, .bool false]) σ) none = some r from hr2)
    subst hok
    obtain ⟨z, hz, rfl⟩ := omap_some.1 hr3
    obtain ⟨zv, hrun, hzv, hu⟩ := fails z hz rfl rfl
    refine NR.value h ?_ (hu _ rfl)
    unfold Instr.typeAssert
    cases d <;> first | exact absurd rfl (hn _) | simp [run_underlying hd, hrun]
  | iface t' v =>
    cases hx with
    | iface _ _ V hV =>
    replace hr2 : cnd (Nat.beq t' t) (some (ARes.val (okV ok v true) σ)) (cnd ok (omap (zeroT P t) fun z => ARes.val (.tuple [z, .bool false]) σ) none) = some r := hr2
    cases hb : Nat.beq t' t with
    | true =>
      rw [hb] at hr2
      cases hr2
      obtain rfl : t' = t := Nat.eq_of_beq_eq_true hb
      refine NR.value h ?_ (okV_rel hV)
      unfold Instr.typeAssert
      cases d <;> first | exact absurd rfl (hn _) | simp [run_underlying hd]
    | false =>
      rw [hb] at hr2
      have hne : ¬ t' = t := fun e => by subst e; simp at hb
      obtain ⟨hok, hr3⟩ := cnd_none.1 (show cnd ok (omap (zeroT P t) fun z => ARes.val (.tuple [z, .bool false]) σ) none = some r from hr2)
      subst hok
      obtain ⟨z, hz, rfl⟩ := omap_some.1 hr3
      obtain ⟨zv, hrun, hzv, hu⟩ := fails z hz rfl rfl
      refine NR.value h ?_ (hu _ rfl)
      unfold Instr.typeAssert
      cases d <;> first | exact absurd rfl (hn _) | simp [run_underlying hd, hne, hrun]
  | _ => cases hr2
theorem op_panic {x : Operand} {r : ARes} (h : SR P N μ σ w) (ha : AR P μ a ca) (hr : dPanic x P a σ = some r) :
    NR P N μ σ w r ((do pure (.value (← Instr.panic (ca.eval x))) : Sem Next).run P w) := by
  obtain ⟨v, hv, hr1⟩ := obind_some.1 hr
  have hx := ha.eval h hv
  generalize ca.eval x = X at *
  cases v with
  | iface t v =>
    cases hr1
    have hx0 := hx
    cases hx with
    | iface _ _ V hV => exact ⟨_, rfl, rfl, hx0⟩
  | _ => cases hr1

/-! ### Builtins -/
theorem args_two {x y : AV} {A : List Value} (h : VRs P μ [x, y] A) : ∃ X Y, A = [X, Y] ∧ VR P μ x X ∧ VR P μ y Y := by
  cases h with | cons _ X _ _ hx h => cases h with | cons _ Y _ _ hy h => cases h; exact ⟨X, Y, rfl, hx, hy⟩
theorem args_one {x : AV} {A : List Value} (h : VRs P μ [x] A) : ∃ X, A = [X] ∧ VR P μ x X := by
  cases h with | cons _ X _ _ hx h => cases h; exact ⟨X, rfl, hx⟩
theorem ER.length {es : List (AV × AV)} {ms : List MapEntry} (h : ER P μ es ms) : es.length = ms.length := by
  induction h with
  | nil => rfl
  | cons _ _ _ _ _ _ _ _ ih => simp [ih]
theorem b_len {ats : Array TypeId} {ty : TypeId} {args : List AV} {A : List Value} {r : ARes} (h : SR P N μ σ w) (hA : VRs P μ args A) (hr : bLen P ats.toList args σ = some r) :
    NR P N μ σ w r ((do pure (.value (← Builtin.len_ ats ty A.toArray)) : Sem Next).run P w) := by
  unfold bLen at hr
  split at hr
  · rename_i t ts hts
    split at hr
    · rename_i x
      obtain ⟨n, hn, rfl⟩ := omap_some.1 hr
      obtain ⟨X, rfl, hx⟩ := args_one hA
      have h0 : ats[0]? = some t := by rw [← Array.getElem?_toList, hts]; rfl
      refine NR.value h (u := .int .i64 (Int.ofNat n)) ?_ (.int _ _)
      unfold Builtin.len_
      simp only [h0]
      unfold lenA at hn
      split at hn
      · rename_i hu
        cases x with
        | str l => cases hn; cases hx with | str _ s hs => subst hs; simp [run_underlying hu, goInt]
        | _ => cases hn
      · rename_i e hu
        cases x with
        | slice b o m lim wh => cases hn; cases hx; simp [run_underlying hu, goInt]
        | nilslice => cases hn; cases hx; simp [run_underlying hu, goInt]
        | _ => cases hn
      · rename_i m e hu
        cases hn
        simp [run_underlying hu, goInt]
      · rename_i hu
        obtain ⟨es, hes, rfl⟩ := omap_some.1 hn
        obtain ⟨ents, hE, ⟨rfl, rfl⟩ | ⟨g, clock, rfl, hg⟩⟩ := h.entries hx hes
        · have := hE.length
          simp at this
          subst this
          simp [run_underlying hu, goInt]
        · have hl : es.length = ents.size := by simpa using hE.length
          have hgo := MapKept.run_getObj_map (P := P) hg
          simp only [List.getElem?_toArray, List.getElem?_cons_zero, Sem.run_bind, run_underlying hu, Result.andThen_ok, hgo, Sem.run_pure, goInt, hl]
          rfl
      · cases hn
    · cases hr
  · cases hr
theorem b_delete {ats : Array TypeId} {ty : TypeId} {args : List AV} {A : List Value} {r : ARes} (h : SR P N μ σ w) (hA : VRs P μ args A) (hr : bDelete P ats.toList args σ = some r) :
    NR P N μ σ w r ((do pure (.value (← Builtin.delete_ ats ty A.toArray)) : Sem Next).run P w) := by
  unfold bDelete at hr
  split at hr
  · rename_i t ts hts
    split at hr
    · rename_i b k
      obtain ⟨q, hq, hr1⟩ := obind_some.1 hr
      obtain ⟨hc, hr2⟩ := cnd_none.1 hr1
      obtain ⟨es, hes, hr3⟩ := obind_some.1 hr2
      obtain ⟨es', hes', rfl⟩ := omap_some.1 hr3
      obtain ⟨M, K, rfl, hm, hk⟩ := args_two hA
      have h0 : ats[0]? = some t := by rw [← Array.getElem?_toList, hts]; rfl
      cases hm with
      | map _ e hb =>
        obtain ⟨hkb, g, ents, clock, rfl, hN, hg, he⟩ := h.mapAt hb hes
        have hu := mapT_some hq
        obtain ⟨d, hd⟩ := chkAt_ty (n := 7) hc
        have hchk := chkAt_run (em := ents.isEmpty) 8 10000 q.1 k K (by decide) hk hc w
        have hgo := MapKept.run_getObj_map (P := P) hg
        rcases del_spec (t := q.1) hk he hes' with ⟨hf, hE⟩ | ⟨j, v, hf, hj, hE⟩
        · have hfk := hf.run hd w
          refine (h.setMap hb hkb hN hg ents clock hE).val (u := .tuple #[]) ?_ (.tuple [] [] .nil)
          unfold Builtin.delete_
          simp only [h0, List.getElem?_toArray, List.getElem?_cons_zero, List.getElem?_cons_succ, Sem.run_bind, Sem.run_pure, Result.andThen_ok, run_underlying hu, hgo, hchk, hfk, MapKept.run_setObj_map _ hg]
        · have hfk := hf.run hd w
          have hj' : j < ents.size := by simpa using hj
          refine (h.setMap hb hkb hN hg (ents.eraseIdxIfInBounds j) clock (by simpa [Array.eraseIdxIfInBounds, hj'] using hE)).val (u := .tuple #[]) ?_ (.tuple [] [] .nil)
          unfold Builtin.delete_
          simp only [h0, List.getElem?_toArray, List.getElem?_cons_zero, List.getElem?_cons_succ, Sem.run_bind, Sem.run_pure, Result.andThen_ok, run_underlying hu, hgo, hchk, hfk, MapKept.run_setObj_map _ hg]
    · cases hr
  · cases hr
theorem b_copy {ats : Array TypeId} {ty : TypeId} {args : List AV} {A : List Value} {r : ARes} (h : SR P N μ σ w) (hA : VRs P μ args A) (hr : bCopy P ats.toList args σ = some r) :
    NR P N μ σ w r ((do pure (.value (← Builtin.copy_ ats ty A.toArray)) : Sem Next).run P w) := by
  unfold bCopy at hr
  split at hr
  · rename_i t ts hts
    obtain ⟨e, he, hr1⟩ := obind_some.1 hr
    obtain ⟨z, hz, hr2⟩ := obind_some.1 hr1
    split at hr2
    · rename_i b o n lim wh b' o' n' lim' wh'
      obtain ⟨cs, hcs, hr3⟩ := obind_some.1 hr2
      obtain ⟨σ', hst, rfl⟩ := omap_some.1 hr3
      obtain ⟨X, Y, rfl, hx, hy⟩ := args_two hA
      have h0 : ats[0]? = some t := by rw [← Array.getElem?_toList, hts]; rfl
      have hu := elemT_some he
      cases hx with
      | slice _ _ _ _ _ en ad c hen had hnc hmc hlim hc => cases hy with
        | slice _ _ _ _ _ en' ad' c' hen' had' hnc' hmc' hlim' hc' =>
          obtain ⟨h1, h2, us, h3, h4, h5⟩ := h.cellsAt hen' hcs
          obtain ⟨w', hrun, hg⟩ := h.store hen h3 hst
          have hload : (loadCells ad' (min n n' * z)).run P w = .ok us.toArray w := by
            refine run_loadCells (P := P) h4 fun j hj => ?_
            have hn0 : 0 < min n n' := by
              rcases Nat.eq_zero_or_pos (min n n') with h0 | h0
              · have hj : j < min n n' * z := hj
                rw [h0] at hj; simp at hj
              · exact h0
            obtain rfl : ad' = en'.a.add o' := had'.elim id (fun h => by omega)
            rw [add_add]
            exact h5 j hj
          have hstore : (storeCells ad us).run P w = .ok () w' := by
            by_cases hn0 : min n n' = 0
            · have : us = [] := by
                have h4 : us.length = min n n' * z := h4
                rw [hn0] at h4
                exact List.eq_nil_of_length_eq_zero (by simpa using h4)
              subst this
              simpa [storeCells] using hrun
            · obtain rfl : ad = en.a.add o := had.elim id (fun h => by omega)
              exact hrun
          refine hg.val (u := .int .i64 (Int.ofNat (min n n'))) ?_ (.int _ _)
          unfold Builtin.copy_
          have hmin : Nat.min n' n = min n n' := Nat.min_comm n' n
          simp only [h0, List.getElem?_toArray, List.getElem?_cons_zero, List.getElem?_cons_succ, Sem.run_bind, Sem.run_pure, Result.andThen_ok, run_underlying hu, Builtin.lenOf, sizeT_run hz, hmin, Builtin.firstCells, hload, hstore, goInt]
          rfl
    · cases hr2
  · cases hr
theorem b_minmax {ats : List TypeId} {tys : Array TypeId} {ty : TypeId} {args : List AV} {A : List Value} {r : ARes} (h : SR P N μ σ w) (hA : VRs P μ args A) :
    (bMin P ats args σ = some r → NR P N μ σ w r ((do pure (.value (← Builtin.min_ tys ty A.toArray)) : Sem Next).run P w)) ∧
    (bMax P ats args σ = some r → NR P N μ σ w r ((do pure (.value (← Builtin.max_ tys ty A.toArray)) : Sem Next).run P w)) := by
  constructor
  · intro hr
    unfold bMin at hr
    split at hr
    · rename_i x y
      cases hr
      obtain ⟨X, Y, rfl, hx, hy⟩ := args_two hA
      cases hx; cases hy
      refine NR.value h (u := .int .i64 (if y < x then y else x)) (by simp [Builtin.min_, Builtin.min2]) ?_
      rw [ltI_eq, cnd_eq]
      simp only [decide_eq_true_eq]
      exact .int _ _
    · cases hr
  · intro hr
    unfold bMax at hr
    split at hr
    · rename_i x y
      cases hr
      obtain ⟨X, Y, rfl, hx, hy⟩ := args_two hA
      cases hx; cases hy
      refine NR.value h (u := .int .i64 (if x < y then y else x)) (by simp [Builtin.max_, Builtin.max2]) ?_
      rw [ltI_eq, cnd_eq]
      simp only [decide_eq_true_eq]
      exact .int _ _
    · cases hr
theorem op_builtin {b : Builtin} {ats : Array TypeId} {ty : TypeId} {consts : Array Bool} {args : List AV} {A : List Value} {r : ARes} (h : SR P N μ σ w) (hA : VRs P μ args A) (hr : builtinA b P ats.toList args σ = some r) :
    NR P N μ σ w r ((builtin b ats ty consts A.toArray).run P w) := by
  cases b <;> first | (cases hr; done) | skip
  case append =>
    replace hr : bAppend P ats.toList args σ = some r := hr
    unfold bAppend at hr
    split at hr
    · rename_i t t' hts
      obtain ⟨ht, hr1⟩ := cnd_none.1 hr
      obtain rfl : t = t' := Nat.eq_of_beq_eq_true ht
      split at hr1
      · rename_i x y
        obtain ⟨X, Y, rfl, hx, hy⟩ := args_two hA
        have : ats = #[t, t] := Array.ext' (by simpa using hts)
        subst this
        exact op_append h hx hy hr1
      · cases hr1
    · cases hr
  case copy => exact b_copy h hA hr
  case delete => exact b_delete h hA hr
  case len => exact b_len h hA hr
  case max => exact (b_minmax (ats := ats.toList) h hA).2 hr
  case min => exact (b_minmax (ats := ats.toList) h hA).1 hr
  case panic =>
    replace hr : bPanic P ats.toList args σ = some r := hr
    unfold bPanic at hr
    split at hr
    · rename_i t v
      cases hr
      obtain ⟨X, rfl, hx⟩ := args_one hA
      have hx0 := hx
      cases hx with
      | iface _ _ V hV => exact ⟨_, rfl, rfl, hx0⟩
    · cases hr
  case recover => cases hr; exact ⟨rfl, rfl⟩

/-! ### Calls -/
/-- No function is the one that counts the goroutines. -/
def NoNum (P : Program) : Prop := ∀ (f : FuncId) (fn : Func), P.funcs[f]? = some fn → (fn.name == "runtime.NumGoroutine") = false
theorem ext_find {fn : Func} {n : String} {e : Array Value → Sem Value} (hn : fn.name = n) (h1 : Extern.allGenericRows.lookup n = none) (h2 : Extern.allTypedRows.lookup n = none) (h3 : Extern.allRows.lookup n = some e) : Extern.find fn = some e := by
  unfold Extern.find
  simp only [hn, h1, h2, h3]
  rfl
theorem ext_next {fn : Func} {n : String} (hn : fn.name = n) (ho : fn.origin = "") (h1 : Extern.allNextRows.lookup n = none) : Extern.findNext fn = none := by
  unfold Extern.findNext
  simp only [hn, ho, h1, show Extern.allNextRows.lookup "" = none by kernel_rfl]
  rfl
theorem byte_beq (x : UInt8) {c : Nat} (hc : c ≤ 255) : Nat.beq x.toNat c = (x == c.toUInt8) := by
  have h1 : (c.toUInt8).toNat = c := by
    show (UInt8.ofNat c).toNat = c
    rw [UInt8.toNat_ofNat']
    exact Nat.mod_eq_of_lt (by omega)
  by_cases h : x = c.toUInt8
  · subst h
    rw [h1]
    simp
  · have : x.toNat ≠ c := fun e => h (UInt8.toNat_inj.1 (by rw [h1]; exact e))
    rw [show (x == c.toUInt8) = false by simpa using h]
    cases hb : Nat.beq x.toNat c with
    | false => rfl
    | true => exact absurd (Nat.eq_of_beq_eq_true hb) this
theorem cntN_eq {c : Nat} (hc : c ≤ 255) : ∀ l : List UInt8, cntN c (l.map (·.toNat)) = Lib.countByte l c.toUInt8
  | [] => rfl
  | x :: l => by
    show cnd (Nat.beq x.toNat c) (Nat.succ (cntN c (l.map (·.toNat)))) (cntN c (l.map (·.toNat))) = _
    rw [byte_beq x hc, cntN_eq hc l]
    unfold Lib.countByte
    rw [List.count_cons]
    cases h : x == c.toUInt8 <;> simp [cnd]
theorem idxN_eq {c : Nat} (hc : c ≤ 255) : ∀ l : List UInt8, idxI (idxN c (l.map (·.toNat))) = Lib.indexByte l c.toUInt8
  | [] => rfl
  | x :: l => by
    have ih := idxN_eq hc l
    have e : idxN c ((x :: l).map (·.toNat)) = cnd (Nat.beq x.toNat c) (some 0) (omap (idxN c (l.map (·.toNat))) Nat.succ) := rfl
    rw [e, byte_beq x hc]
    unfold Lib.indexByte
    cases h : x == c.toUInt8 with
    | true => rfl
    | false =>
      simp only [Bool.false_eq_true, if_false]
      cases hi : idxN c (l.map (·.toNat)) with
      | none =>
        rw [hi] at ih
        rw [← ih]
        rfl
      | some n =>
        rw [hi] at ih
        rw [← ih]
        have h1 : (idxI (some n) == -1) = false := by
          show ((n : Int) == -1) = false
          rw [beq_eq_false_iff_ne]
          omega
        rw [h1]
        show ((Nat.succ n : Nat) : Int) = _
        show ((n + 1 : Nat) : Int) = (n : Int) + 1
        omega
theorem op_ext {f : FuncId} {fn : Func} {args : List AV} {A : List Value} {r : ARes} (h : SR P N μ σ w) (hf : P.funcs[f]? = some fn) (hb : fn.body = none) (hA : VRs P μ args A) (hr : extA fn args σ = some r) : NR P N μ σ w r ((callFunc f A.toArray).run P w) := by
  obtain ⟨ho, hr⟩ := cnd_none.1 (show cnd (fn.origin == "") (cnd (fn.name == "internal/bytealg.CountString") (extCount σ args) (cnd (fn.name == "internal/bytealg.IndexByteString") (extIndexByte σ args) none)) none = some r from hr)
  have ho : fn.origin = "" := by simpa using ho
  cases h1 : fn.name == "internal/bytealg.CountString" with
  | true =>
    have hn : fn.name = "internal/bytealg.CountString" := by simpa using h1
    rw [h1] at hr
    replace hr : extCount σ args = some r := hr
    unfold extCount at hr
    split at hr
    · rename_i l c hr0
      obtain ⟨hc, hr⟩ := cnd_none.1 hr
      cases hr
      have hc := Nat.le_of_ble_eq_true hc
      cases hA with
      | cons _ u _ us h1 h2 => cases h2 with
        | cons _ u2 _ us2 h3 h4 =>
          cases h4
          cases h1 with
          | str _ s hs => cases h3 with
            | int _ _ =>
              subst hs
              refine NR.value h (u := .int .i64 (cntN c (s.data.toList.map (·.toNat)))) ?_ (.int _ _)
              rw [run_callFunc_extern hf (by rw [hn]; decide) (by rw [hb]; rfl) (ext_next hn ho (by kernel_rfl)) (ext_find (e := Extern.BytealgCount.count) hn (by kernel_rfl) (by kernel_rfl) (by kernel_rfl)), Lib.run_countString, cntN_eq hc]
              rfl
    · cases hr
  | false =>
    rw [h1] at hr
    obtain ⟨h2, hr⟩ := cnd_none.1 (show cnd (fn.name == "internal/bytealg.IndexByteString") (extIndexByte σ args) none = some r from hr)
    have hn : fn.name = "internal/bytealg.IndexByteString" := by simpa using h2
    unfold extIndexByte at hr
    split at hr
    · rename_i l c hr0 hr1
      obtain ⟨hc, hr⟩ := cnd_none.1 hr
      cases hr
      have hc := Nat.le_of_ble_eq_true hc
      cases hA with
      | cons _ u _ us h1 h2 => cases h2 with
        | cons _ u2 _ us2 h3 h4 =>
          cases h4
          cases h1 with
          | str _ s hs => cases h3 with
            | int _ _ =>
              subst hs
              refine NR.value h (u := .int .i64 (idxI (idxN c (s.data.toList.map (·.toNat))))) ?_ (.int _ _)
              rw [run_callFunc_extern hf (by rw [hn]; decide) (by rw [hb]; rfl) (ext_next hn ho (by kernel_rfl)) (ext_find (e := Extern.BytealgIndexByte.indexByte) hn (by kernel_rfl) (by kernel_rfl) (by kernel_rfl)), Lib.run_indexByteString, idxN_eq hc]
              rfl
    · cases hr
theorem op_extern (hP : NoNum P) {f : FuncId} {args : List AV} {A : List Value} {r : ARes} (h : SR P N μ σ w) (hA : VRs P μ args A) (hr : externA P f args σ = some r) : NR P N μ σ w r ((callFunc f A.toArray).run P w) := by
  obtain ⟨fn, hf, hr1⟩ := obind_some.1 hr
  cases hb : fn.body with
  | none => rw [hb] at hr1; exact op_ext h hf hb hA hr1
  | some c =>
    rw [hb] at hr1
    cases hr1
    refine ⟨A, ?_, rfl, hA⟩
    have hn : ¬ fn.name = "runtime.NumGoroutine" := fun e => by have := hP f fn hf; rw [e] at this; simp at this
    unfold callFunc
    simp [hf, hn, hb]
theorem op_call (hP : NoNum P) {c : Call} {ty : TypeId} {r : ARes} (h : SR P N μ σ w) (ha : AR P μ a ca) (hr : dCall c P a σ = some r) :
    NR P N μ σ w r ((do let d ← resolve ca.eval c ty; invoke d.target d.args : Sem Next).run P w) := by
  obtain ⟨args, hargs, hr1⟩ := obind_some.1 hr
  have hA := ha.evals h hargs
  clear hr
  cases hc : c.callee with
  | builtin b =>
    rw [hc] at hr1
    have hb := op_builtin (ty := ty) (consts := c.args.map fun | .const _ => true | _ => false) h hA hr1
    unfold resolve
    simp only [hc, Sem.run_bind, Sem.run_pure, Result.andThen_ok, invoke, arr_eq ca]
    exact hb
  | value f =>
    rw [hc] at hr1
    obtain ⟨v, hv, hr2⟩ := obind_some.1 hr1
    have hx := ha.eval h hv
    unfold resolve
    simp only [hc]
    generalize ca.eval f = F at *
    cases v with
    | func g first cap => cases hx with
      | func _ _ _ F C h1 h2 =>
        have := op_extern hP (P := P) h (h1.append (hA.append h2)) hr2
        simp only [Deferred.ofValue, Sem.run_bind, Sem.run_pure, Result.andThen_ok, invoke, arr_eq ca]
        simpa [List.append_assoc] using this
    | yield b =>
      cases hr2
      cases hx with
      | yield _ e he =>
        refine ⟨e, _, he, ?_, rfl, hA⟩
        simp [Deferred.ofValue, invoke, arr_eq ca]
    | _ => cases hr2
  | invoke _ _ => rw [hc] at hr1; cases hr1
theorem op_defer {c : Call} {ty : TypeId} {r : ARes} (h : SR P N μ σ w) (ha : AR P μ a ca) (hr : dDefer c P a σ = some r) :
    NR P N μ σ w r ((do pure (.defer (← resolve ca.eval c ty)) : Sem Next).run P w) := by
  obtain ⟨args, hargs, hr1⟩ := obind_some.1 hr
  have hA := ha.evals h hargs
  clear hr
  cases hc : c.callee with
  | value f =>
    rw [hc] at hr1
    obtain ⟨v, hv, hr2⟩ := obind_some.1 hr1
    have hx := ha.eval h hv
    unfold resolve
    simp only [hc]
    generalize ca.eval f = F at *
    cases v with
    | func g first cap =>
      cases hr2
      cases hx with
      | func _ _ _ F C h1 h2 =>
        refine ⟨_, ?_, rfl, .fn g cap (first ++ args) C (F ++ (c.args.toList.map ca.eval)) h2 (h1.append hA)⟩
        simp [Deferred.ofValue, arr_eq ca]
    | _ => cases hr2
  | _ => rw [hc] at hr1; cases hr1

/-- ALL OPERATIONS: what the interpreter says of one, the machine does. -/
theorem opA_sound (hP : NoNum P) {o : Oper} {r : ARes} (h : SR P N μ σ w) (ha : AR P μ a ca) (hr : opA o.op P a σ = some r) : NR P N μ σ w r ((execOp ca.eval o).run P w) := by
  cases ho : o.op
  case nilCheck x => rw [ho] at hr; exact op_nilCheck h ha o ho hr
  all_goals
    rw [ho] at hr
    first | (cases hr; done) | skip
  all_goals
    unfold execOp
    simp only [ho]
  case move x => exact op_move h ha hr
  case assign x => exact op_move h ha hr
  case pick c x y => exact op_pick h ha hr
  case alloc t => exact op_alloc (a := a) h hr
  case box t x => exact op_box h ha hr
  case build t ps => exact op_build h ha hr
  case buildSlice t n ps => exact op_buildSlice h ha hr
  case load t x => exact op_load h ha hr
  case store t x y => exact op_store h ha hr
  case binOp op t x y _ => exact op_bin (t' := t) h ha hr
  case unOp op _ x => exact op_un h ha hr
  case convert s d x => exact op_conv h ha hr
  case makeInterface t x => exact op_iface h ha hr
  case makeFunc fn f c => exact op_func h ha hr
  case makeMap t r => exact op_makeMap (a := a) h hr
  case makeSlice t l c => exact op_makeSlice h ha hr
  case slice t x lo hi mx => exact op_slice h ha hr
  case fieldAddr t x f => exact op_fieldAddr h ha hr
  case field t x f => exact op_field h ha hr
  case indexAddr t x i => exact op_indexAddr h ha hr
  case index t x i => exact op_index h ha hr
  case lookup t x k ok => exact op_lookup h ha hr
  case mapUpdate t m k x => exact op_mapUpdate h ha hr
  case insert t m k x => exact op_mapUpdate h ha hr
  case range t x => exact op_range h ha hr
  case next x s => exact op_next h ha hr
  case typeAssert x t s ok => exact op_assert h ha hr
  case extract x i => exact op_extract h ha hr
  case call c => exact op_call hP h ha hr
  case defer c => exact op_defer h ha hr
  case panic x => exact op_panic h ha hr
end
end Go.Proofs.Vai
