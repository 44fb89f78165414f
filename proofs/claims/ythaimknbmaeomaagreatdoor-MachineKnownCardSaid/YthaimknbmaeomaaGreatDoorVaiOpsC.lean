/- The operations, third part: operations of two and of one, equality, changes of type. -/
import Derived.Test.YthaimknbmaeomaaGreatDoorVaiOpsB
import Derived.Laws.StructEq
import GoSem.Instr.Lookup
set_option linter.unusedVariables false
set_option linter.unusedSimpArgs false
set_option linter.unusedSectionVars false
namespace Go.Proofs.Vai
open Go Go.RowKit
variable [Env]

section
variable {P : Program} {N : Nat} {μ : Inj} {σ : St} {w : World} {a : AAct} {ca : Act}

theorem onK_some {t : TypeId} {k : Nat} {b r : Bool} (h : onK P t k b = some r) : kindT P t = k ∧ r = b := by
  obtain ⟨h1, h2⟩ := cnd_none.1 h
  exact ⟨Nat.eq_of_beq_eq_true h1, (Option.some.inj h2).symm⟩
theorem kind_cases {t : TypeId} {k : Nat} (h : kindT P t = k) (hk : k < 9) : ∃ d, P.underlying t = some d ∧
    ((k = 0 → d = .bool) ∧ (k = 1 → ∃ e, d = .pointer e) ∧ (k = 2 → ∃ e, d = .slice e) ∧ (k = 3 → ∃ a b, d = .map a b) ∧ (k = 4 → ∃ a b c, d = .func a b c) ∧ (k = 5 → ∃ a, d = .interface a) ∧
      (k = 6 → ∃ a, d = .struct a) ∧ (k = 7 → ∃ a, d = .int a) ∧ (k = 8 → d = .string)) := by
  unfold kindT at h
  split at h <;> subst h <;> first | (exact ⟨_, by assumption, by simp⟩) | omega
theorem plainFields_some {t : TypeId} {fs : List (TypeId × Nat)} (h : plainFields P t = some fs) :
    ∃ fa, P.underlying t = some (.struct fa) ∧ P.stoodInHeld t = false ∧ fs = fa.toList.map (fun f => (f.type, f.offset)) ∧ ∀ f ∈ fa.toList, f.name ≠ "_" := by
  unfold plainFields at h
  split at h
  · rename_i fa hu
    cases hc : (P.stoodInHeld t || fa.toList.any (fun f => f.name == "_")) with
    | true => rw [hc] at h; cases h
    | false =>
      rw [hc] at h
      cases h
      rw [Bool.or_eq_false_iff] at hc
      refine ⟨fa, hu, hc.1, rfl, fun f hf hn => ?_⟩
      have := List.any_eq_false.1 hc.2 f hf
      simp [hn] at this
  · cases h

theorem str_eq {s s' : ByteArray} : (s.toList == s'.toList) = (s.data.toList.map (·.toNat) == s'.data.toList.map (·.toNat)) := by
  rw [ByteArray.toList_eq, ByteArray.toList_eq]
  generalize s.data.toList = x
  generalize s'.data.toList = y
  induction x generalizing y with
  | nil => cases y <;> rfl
  | cons a x ih =>
    cases y with
    | nil => rfl
    | cons b y =>
      simp only [List.map_cons, List.cons_beq_cons, ih]
      congr 1
      rw [Bool.eq_iff_iff]
      simp [UInt8.toNat_inj]

/-- '==' of two values of a type. -/
theorem eqAt_run : ∀ (n d : Nat) (t : TypeId) (x y : AV) (X Y : Value) (b : Bool), n ≤ d → VR P μ x X → VR P μ y Y → eqAt P n t x y = some b → ∀ w : World, (Op.equalIn d t X Y).run P w = .ok b w := by
  intro n
  induction n with
  | zero => intro d t x y X Y b _ _ _ h; cases h
  | succ n ih =>
    intro d t x y X Y b hd hx hy h w
    obtain ⟨d, rfl⟩ : ∃ m, d = m + 1 := ⟨d - 1, by omega⟩
    replace h : eqB P (eqAt P n) t x y = some b := h
    unfold eqB at h
    cases x with
    | int j a => cases y with
      | int k c =>
        obtain ⟨h1, h2⟩ := cnd_none.1 h
        obtain ⟨h3, rfl⟩ := onK_some h2
        rw [eqK_eq] at h1
        have h1 := of_decide_eq_true h1
        subst h1
        obtain ⟨_, hu, _, _, _, _, _, _, _, h7, _⟩ := kind_cases h3 (by omega)
        obtain ⟨q, rfl⟩ := h7 rfl
        cases hx; cases hy
        rw [eqI_eq]
        exact run_equalIn_int w d t j q a c hu
      | _ => cases h
    | str a => cases y with
      | str c =>
        obtain ⟨h3, rfl⟩ := onK_some h
        obtain ⟨_, hu, _, _, _, _, _, _, _, _, h8⟩ := kind_cases h3 (by omega)
        have h8 := h8 rfl
        subst h8
        cases hx with
        | str _ s hs => cases hy with
          | str _ s' hs' =>
            subst hs; subst hs'
            rw [eqS_eq, ← str_eq]
            exact run_equalIn_string w d t s s' hu
      | _ => cases h
    | bool a => cases y with
      | bool c =>
        obtain ⟨h3, rfl⟩ := onK_some h
        obtain ⟨_, hu, h0, _⟩ := kind_cases h3 (by omega)
        have h0 := h0 rfl
        subst h0
        cases hx; cases hy
        exact run_equalIn_bool' w d t a c hu
      | _ => cases h
    | agg xs => cases y with
      | agg ys =>
        replace h := obind_some.1 h
        obtain ⟨fs, hfs, h⟩ := h
        obtain ⟨fa, hu, hst, rfl, hn⟩ := plainFields_some hfs
        cases hx with
        | agg _ X hX hox => cases hy with
          | agg _ Y hY hoy =>
            have hfo : P.fieldsOf t = fa := by simp [Program.fieldsOf, hu]
            rw [run_equalIn_agg w d t X.toArray Y.toArray (by rw [hfo]; exact hu) hst, hfo]
            generalize fa.toList = fl at h hn
            clear hfs hu hst hfo
            induction fl generalizing b with
            | nil => cases h; rfl
            | cons f fl ihf =>
              obtain ⟨p, hp, h⟩ := obind_some.1 (show obind (partA P f.type xs f.offset) (fun x => obind (partA P f.type ys f.offset) fun y => obind (eqAt P n f.type x y) fun b => cnd b (eqFs P (eqAt P n) xs ys (fl.map fun f => (f.type, f.offset))) (some false)) = some b from h)
              obtain ⟨q, hq, h⟩ := obind_some.1 h
              obtain ⟨c, hc, h⟩ := obind_some.1 h
              obtain ⟨u1, r1, v1⟩ := partA_run (w := w) hX hox hp
              obtain ⟨u2, r2, v2⟩ := partA_run (w := w) hY hoy hq
              have he := ih d f.type p q u1 u2 c (by omega) v1 v2 hc w
              simp only [Op.eqFields, if_pos (hn f (List.mem_cons_self ..)), Sem.run_bind, r1, r2, he, Result.andThen_ok]
              cases c with
              | true => simpa using ihf b h (fun f hf => hn f (List.mem_cons_of_mem _ hf))
              | false => cases h; simp
      | _ => cases h
    | nilptr => cases y with
      | nilptr =>
        obtain ⟨h3, rfl⟩ := onK_some h
        obtain ⟨_, hu, _, h1, _⟩ := kind_cases h3 (by omega)
        obtain ⟨e, rfl⟩ := h1 rfl
        cases hx; cases hy
        simp [Op.equalIn, run_underlying hu]
      | ptr c o =>
        obtain ⟨h3, rfl⟩ := onK_some h
        obtain ⟨_, hu, _, h1, _⟩ := kind_cases h3 (by omega)
        obtain ⟨e, rfl⟩ := h1 rfl
        cases hx; cases hy
        simp [Op.equalIn, run_underlying hu]
      | _ => cases h
    | ptr c o => cases y with
      | nilptr =>
        obtain ⟨h3, rfl⟩ := onK_some h
        obtain ⟨_, hu, _, h1, _⟩ := kind_cases h3 (by omega)
        obtain ⟨e, rfl⟩ := h1 rfl
        cases hx; cases hy
        simp [Op.equalIn, run_underlying hu]
      | _ => cases h
    | nilslice => cases y with
      | nilslice =>
        obtain ⟨h3, rfl⟩ := onK_some h
        obtain ⟨_, hu, _, _, h1, _⟩ := kind_cases h3 (by omega)
        obtain ⟨e, rfl⟩ := h1 rfl
        cases hx; cases hy
        simp [Op.equalIn, run_underlying hu]
      | slice c o m l wh =>
        obtain ⟨h3, rfl⟩ := onK_some h
        obtain ⟨_, hu, _, _, h1, _⟩ := kind_cases h3 (by omega)
        obtain ⟨e, rfl⟩ := h1 rfl
        cases hx; cases hy
        simp [Op.equalIn, run_underlying hu]
      | _ => cases h
    | slice c o m l wh => cases y with
      | nilslice =>
        obtain ⟨h3, rfl⟩ := onK_some h
        obtain ⟨_, hu, _, _, h1, _⟩ := kind_cases h3 (by omega)
        obtain ⟨e, rfl⟩ := h1 rfl
        cases hx; cases hy
        simp [Op.equalIn, run_underlying hu]
      | _ => cases h
    | nilmap => cases y with
      | nilmap =>
        obtain ⟨h3, rfl⟩ := onK_some h
        obtain ⟨_, hu, _, _, _, h1, _⟩ := kind_cases h3 (by omega)
        obtain ⟨e, f, rfl⟩ := h1 rfl
        cases hx; cases hy
        simp [Op.equalIn, run_underlying hu]
      | map c =>
        obtain ⟨h3, rfl⟩ := onK_some h
        obtain ⟨_, hu, _, _, _, h1, _⟩ := kind_cases h3 (by omega)
        obtain ⟨e, f, rfl⟩ := h1 rfl
        cases hx; cases hy
        simp [Op.equalIn, run_underlying hu]
      | _ => cases h
    | map c => cases y with
      | nilmap =>
        obtain ⟨h3, rfl⟩ := onK_some h
        obtain ⟨_, hu, _, _, _, h1, _⟩ := kind_cases h3 (by omega)
        obtain ⟨e, f, rfl⟩ := h1 rfl
        cases hx; cases hy
        simp [Op.equalIn, run_underlying hu]
      | _ => cases h
    | nilfunc => cases y with
      | nilfunc =>
        obtain ⟨h3, rfl⟩ := onK_some h
        obtain ⟨_, hu, _, _, _, _, h1, _⟩ := kind_cases h3 (by omega)
        obtain ⟨e, f, g, rfl⟩ := h1 rfl
        cases hx; cases hy
        simp [Op.equalIn, run_underlying hu]
      | func _ _ _ =>
        obtain ⟨h3, rfl⟩ := onK_some h
        obtain ⟨_, hu, _, _, _, _, h1, _⟩ := kind_cases h3 (by omega)
        obtain ⟨e, f, g, rfl⟩ := h1 rfl
        cases hx; cases hy
        simp [Op.equalIn, run_underlying hu]
      | yield _ =>
        obtain ⟨h3, rfl⟩ := onK_some h
        obtain ⟨_, hu, _, _, _, _, h1, _⟩ := kind_cases h3 (by omega)
        obtain ⟨e, f, g, rfl⟩ := h1 rfl
        cases hx; cases hy
        simp [Op.equalIn, run_underlying hu]
      | _ => cases h
    | func _ _ _ => cases y with
      | nilfunc =>
        obtain ⟨h3, rfl⟩ := onK_some h
        obtain ⟨_, hu, _, _, _, _, h1, _⟩ := kind_cases h3 (by omega)
        obtain ⟨e, f, g, rfl⟩ := h1 rfl
        cases hx; cases hy
        simp [Op.equalIn, run_underlying hu]
      | _ => cases h
    | yield _ => cases y with
      | nilfunc =>
        obtain ⟨h3, rfl⟩ := onK_some h
        obtain ⟨_, hu, _, _, _, _, h1, _⟩ := kind_cases h3 (by omega)
        obtain ⟨e, f, g, rfl⟩ := h1 rfl
        cases hx; cases hy
        simp [Op.equalIn, run_underlying hu]
      | _ => cases h
    | niliface => cases y with
      | iface _ _ =>
        obtain ⟨h3, rfl⟩ := onK_some h
        obtain ⟨_, hu, _, _, _, _, _, h1, _⟩ := kind_cases h3 (by omega)
        obtain ⟨e, rfl⟩ := h1 rfl
        cases hx; cases hy
        simp [Op.equalIn, run_underlying hu]
      | niliface =>
        obtain ⟨h3, rfl⟩ := onK_some h
        obtain ⟨_, hu, _, _, _, _, _, h1, _⟩ := kind_cases h3 (by omega)
        obtain ⟨e, rfl⟩ := h1 rfl
        cases hx; cases hy
        simp [Op.equalIn, run_underlying hu]
      | _ => cases h
    | iface _ _ => cases y with
      | niliface =>
        obtain ⟨h3, rfl⟩ := onK_some h
        obtain ⟨_, hu, _, _, _, _, _, h1, _⟩ := kind_cases h3 (by omega)
        obtain ⟨e, rfl⟩ := h1 rfl
        cases hx; cases hy
        simp [Op.equalIn, run_underlying hu]
      | _ => cases h
    | _ => cases h

theorem isNilI_eq {x : AV} (h : isNilI x = true) : x = .niliface := by cases x <;> first | rfl | cases h
theorem isAggA_eq {x : AV} (h : isAggA x = true) : ∃ cs, x = .agg cs := by cases x <;> first | exact ⟨_, rfl⟩ | cases h

/-- '==' and the guard ahead of it. -/
theorem eqT_run {c b : Bool} {op : BinOp} {t : TypeId} {x y : AV} {X Y : Value} {ox oy : Operand} (hop : op = .eql ∨ op = .neq) (hc : c = (isConstO ox || isConstO oy)) (hx : VR P μ x X) (hy : VR P μ y Y)
    (h : eqT P c t x y = some b) : (eqGuard op t ox oy X Y).run P w = .ok () w ∧ ∀ w' : World, (Op.equal t X Y).run P w' = .ok b w' := by
  have hop' : (!(op matches .eql | .neq)) = false := by rcases hop with rfl | rfl <;> rfl
  unfold eqT at h
  cases hn : (isNilI x && isNilI y) with
  | true =>
    rw [hn] at h
    obtain ⟨h1, h2⟩ := cnd_none.1 (show cnd c (onK P t 5 true) none = some b from h)
    rw [Bool.and_eq_true] at hn
    obtain rfl := isNilI_eq hn.1
    obtain rfl := isNilI_eq hn.2
    cases hx; cases hy
    obtain ⟨h3, rfl⟩ := onK_some h2
    obtain ⟨_, hu, _, _, _, _, _, h5, _⟩ := kind_cases h3 (by omega)
    obtain ⟨e, rfl⟩ := h5 rfl
    refine ⟨?_, eqAt_run (P := P) (μ := μ) 8 Op.maxDepth t .niliface .niliface _ _ true (by decide) .niliface .niliface h2⟩
    rw [hc, Bool.or_eq_true] at h1
    rcases hop with rfl | rfl <;> cases ox <;> first | rfl | (cases oy <;> first | rfl | (rcases h1 with h1 | h1 <;> cases h1))
  | false =>
    rw [hn] at h
    have h : cnd (isAggA x) (cnd (P.eqGuardType P.depth t) none (eqAt P 8 t x y)) (eqAt P 8 t x y) = some b := h
    cases ha : isAggA x with
    | true =>
      rw [ha] at h
      obtain ⟨h1, h2⟩ := cnd_none'.1 (show cnd (P.eqGuardType P.depth t) none (eqAt P 8 t x y) = some b from h)
      obtain ⟨cs, rfl⟩ := isAggA_eq ha
      have hrun := eqAt_run (P := P) (μ := μ) 8 Op.maxDepth t _ y X Y b (by decide) hx hy h2
      refine ⟨?_, hrun⟩
      cases hx with
      | agg _ C hC ho =>
        cases y with
        | agg ys => cases hy with | agg _ D hD ho2 => exact run_eqGuard_agg w op t ox oy _ _ h1
        | _ => cases h2
    | false =>
      rw [ha] at h
      have h : eqAt P 8 t x y = some b := h
      have hrun := eqAt_run (P := P) (μ := μ) 8 Op.maxDepth t x y X Y b (by decide) hx hy h
      refine ⟨?_, hrun⟩
      have hrun := hrun
      rcases hop with rfl | rfl
      all_goals
        unfold eqGuard
        cases hx <;> first | rfl | (cases ha; done) | (cases h; done) | skip
        all_goals (cases hy <;> first | rfl | (cases hn; done) | (cases h; done) | skip)

theorem bytesLess_eq {s s' : ByteArray} : Op.bytesLess s.toList s'.toList = lessA (s.data.toList.map (·.toNat)) (s'.data.toList.map (·.toNat)) := by
  rw [ByteArray.toList_eq, ByteArray.toList_eq]
  generalize s.data.toList = x
  generalize s'.data.toList = y
  induction x generalizing y with
  | nil => cases y <;> rfl
  | cons a x ih =>
    cases y with
    | nil => rfl
    | cons b y =>
      show (decide (a < b) || (a == b && Op.bytesLess x y)) = cnd (Nat.ble (Nat.succ a.toNat) b.toNat) true (cnd (Nat.beq a.toNat b.toNat) (lessA (x.map (·.toNat)) (y.map (·.toNat))) false)
      rw [ih, cnd_eq, cnd_eq]
      by_cases h1 : a < b
      · have : Nat.ble (Nat.succ a.toNat) b.toNat = true := Nat.ble_eq_true_of_le (UInt8.lt_iff_toNat_lt.1 h1)
        simp [h1, this]
      · have : ¬ Nat.ble (Nat.succ a.toNat) b.toNat = true := fun h => h1 (UInt8.lt_iff_toNat_lt.2 (Nat.le_of_ble_eq_true h))
        rw [if_neg this]
        by_cases h2 : a = b
        · subst h2; simp [h1]
        · have : ¬ Nat.beq a.toNat b.toNat = true := fun h => h2 (UInt8.toNat_inj.1 (Nat.eq_of_beq_eq_true h))
          simp [h1, h2, this]

theorem intOp_run {op : BinOp} {k : IntKind} {x y : Int} {r : ARes} (t : TypeId) (hs : isSh op = false) (hr : intOpA op k x y σ = some r) :
    ∃ v u, r = .val v σ ∧ (binOp op t (.int k x) (.int k y)).run P w = .ok u w ∧ VR P μ v u := by
  cases op <;> first | (cases hs; done) | (cases hr; done) | skip
  case quo =>
    obtain ⟨h1, h2⟩ := cnd_none'.1 hr
    cases h2
    rw [eqI_eq] at h1
    have h1 : ¬ y = 0 := by simpa using h1
    exact ⟨_, _, rfl, by (simp [binOp, Op.intDiv, h1]) <;> rfl, .int _ _⟩
  case rem =>
    obtain ⟨h1, h2⟩ := cnd_none'.1 hr
    cases h2
    rw [eqI_eq] at h1
    have h1 : ¬ y = 0 := by simpa using h1
    exact ⟨_, _, rfl, by (simp [binOp, Op.intDiv, h1]) <;> rfl, .int _ _⟩
  case add => cases hr; exact ⟨_, _, rfl, by (simp [binOp, Op.intArith]) <;> rfl, by rw [wrapA_eq]; exact .int _ _⟩
  case sub => cases hr; exact ⟨_, _, rfl, by (simp [binOp, Op.intArith]) <;> rfl, by rw [wrapA_eq]; exact .int _ _⟩
  case mul => cases hr; exact ⟨_, _, rfl, by (simp [binOp, Op.intArith]) <;> rfl, by rw [wrapA_eq]; exact .int _ _⟩
  case and => cases hr; exact ⟨_, _, rfl, by (simp [binOp, Op.intBits]) <;> rfl, .int _ _⟩
  case or => cases hr; exact ⟨_, _, rfl, by (simp [binOp, Op.intBits]) <;> rfl, .int _ _⟩
  case xor => cases hr; exact ⟨_, _, rfl, by (simp [binOp, Op.intBits]) <;> rfl, .int _ _⟩
  case eql => cases hr; exact ⟨_, _, rfl, by (simp [binOp, Op.intCmp]) <;> rfl, by rw [eqI_eq]; exact .bool _⟩
  case neq => cases hr; exact ⟨_, _, rfl, by (simp [binOp, Op.intCmp]) <;> rfl, by rw [eqI_eq]; exact .bool _⟩
  case lss => cases hr; exact ⟨_, _, rfl, by (simp [binOp, Op.intCmp]) <;> rfl, by rw [ltI_eq]; exact .bool _⟩
  case leq =>
    cases hr
    refine ⟨_, _, rfl, by (simp [binOp, Op.intCmp]) <;> rfl, ?_⟩
    rw [ltI_eq, show (!decide (y < x)) = decide (x ≤ y) from by rw [Bool.eq_iff_iff]; simp]
    exact .bool _
  case gtr => cases hr; exact ⟨_, _, rfl, by (simp [binOp, Op.intCmp]) <;> rfl, by rw [ltI_eq]; exact .bool _⟩
  case geq =>
    cases hr
    refine ⟨_, _, rfl, by (simp [binOp, Op.intCmp]) <;> rfl, ?_⟩
    rw [ltI_eq, show (!decide (x < y)) = decide (y ≤ x) from by rw [Bool.eq_iff_iff]; simp]
    exact .bool _
theorem floatOp_run {op : BinOp} {k : FloatKind} {x y : Nat} {r : ARes} (t : TypeId) (hr : floatOpA op k x y σ = some r) :
    ∃ v u, r = .val v σ ∧ (binOp op t (.float k x) (.float k y)).run P w = .ok u w ∧ VR P μ v u := by
  cases op <;> first | (cases hr; done) | skip
  case add => obtain ⟨q, h1, rfl⟩ := omap_some.1 hr; exact ⟨_, _, rfl, by (simp [binOp, Op.floatArith, h1]) <;> rfl, .float _ _⟩
  case sub => obtain ⟨q, h1, rfl⟩ := omap_some.1 hr; exact ⟨_, _, rfl, by (simp [binOp, Op.floatArith, h1]) <;> rfl, .float _ _⟩
  case mul => obtain ⟨q, h1, rfl⟩ := omap_some.1 hr; exact ⟨_, _, rfl, by (simp [binOp, Op.floatArith, h1]) <;> rfl, .float _ _⟩
  case quo => obtain ⟨q, h1, rfl⟩ := omap_some.1 hr; exact ⟨_, _, rfl, by (simp [binOp, Op.floatArith, h1]) <;> rfl, .float _ _⟩
  all_goals (cases hr; exact ⟨_, _, rfl, by (simp [binOp, Op.floatCmp]) <;> rfl, .bool _⟩)
theorem strOp_run {op : BinOp} {x y : List Nat} {X Y : ByteArray} {r : ARes} (t : TypeId) (hx : X.data.toList.map (·.toNat) = x) (hy : Y.data.toList.map (·.toNat) = y) (hr : strOpA op x y σ = some r) :
    ∃ v u, r = .val v σ ∧ (binOp op t (.string X) (.string Y)).run P w = .ok u w ∧ VR P μ v u := by
  subst hx; subst hy
  cases op <;> first | (cases hr; done) | skip
  case add =>
    obtain ⟨h1, h2⟩ := cnd_none.1 hr
    cases h2
    have h1 : X.size + Y.size ≤ 9223372036854775807 := by simpa using Nat.le_of_ble_eq_true h1
    refine ⟨_, .string (X ++ Y), rfl, ?_, .str _ _ (by simp)⟩
    have : ¬ ((X.size + Y.size : Nat) : Int) > IntKind.i64.max := by
      simp only [IntKind.max, IntKind.signed, IntKind.bits]
      simp
      omega
    simp only [binOp, Op.stringOp, if_neg this]
    rfl
  case eql => cases hr; rw [eqS_eq, ← str_eq]; exact ⟨_, _, rfl, rfl, .bool _⟩
  case neq => cases hr; rw [eqS_eq, ← str_eq]; exact ⟨_, _, rfl, rfl, .bool _⟩
  case lss => cases hr; rw [← bytesLess_eq]; exact ⟨_, _, rfl, rfl, .bool _⟩
  case leq => cases hr; rw [eqS_eq, ← str_eq, ← bytesLess_eq]; exact ⟨_, _, rfl, rfl, .bool _⟩
  case gtr => cases hr; rw [eqS_eq, ← str_eq, ← bytesLess_eq]; exact ⟨_, _, rfl, rfl, .bool _⟩
  case geq => cases hr; rw [← bytesLess_eq]; exact ⟨_, _, rfl, rfl, .bool _⟩

theorem noGuard {op : BinOp} {t : TypeId} {ox oy : Operand} {X Y : Value} (h1 : ∀ c, X ≠ .agg c) (h2 : X ≠ .nilIface) : (eqGuard op t ox oy X Y).run P w = .ok () w := by
  unfold eqGuard
  cases X <;> first | (exact absurd rfl (h1 _)) | (exact absurd rfl h2) | (split <;> first | rfl | (cases Y <;> rfl))
theorem op_bin {op : BinOp} {t t' : TypeId} {x y : Operand} {r : ARes} (h : SR P N μ σ w) (ha : AR P μ a ca) (hr : dBin op t x y P a σ = some r) :
    NR P N μ σ w r ((do pure (.value (← (do eqGuard op t x y (ca.eval x) (ca.eval y); binOp op t (ca.eval x) (ca.eval y)))) : Sem Next).run P w) := by
  obtain ⟨v, hv, hr⟩ := obind_some.1 hr
  obtain ⟨u, hu, hr⟩ := obind_some.1 hr
  have hx := ha.eval h hv
  have hy := ha.eval h hu
  generalize ca.eval x = X at *
  generalize ca.eval y = Y at *
  -- no guard where the operands are plain
  have fin : ∀ {v' : AV} {u' : Value}, (eqGuard op t x y X Y).run P w = .ok () w → r = .val v' σ → (binOp op t X Y).run P w = .ok u' w → VR P μ v' u' →
      NR P N μ σ w r ((do pure (.value (← (do eqGuard op t x y X Y; binOp op t X Y))) : Sem Next).run P w) := by
    intro v' u' hg he hb hvr
    subst he
    exact NR.value h (by simp [hg, hb]) hvr
  have viaEq : eqOpA P (isConstO x || isConstO y) t op v u σ = some r → (∀ k a, v ≠ .int k a) → (∀ k a, v ≠ .float k a) → (∀ s, v ≠ .str s) →
      NR P N μ σ w r ((do pure (.value (← (do eqGuard op t x y X Y; binOp op t X Y))) : Sem Next).run P w) := by
    intro he n1 n2 n3
    cases op <;> first | (cases he; done) | skip
    · obtain ⟨b, hb, rfl⟩ := omap_some.1 (show omap (eqT P (isConstO x || isConstO y) t v u) (fun b => ARes.val (.bool b) σ) = some r from he)
      obtain ⟨hg, hrun⟩ := eqT_run (w := w) (op := .eql) (ox := x) (oy := y) (.inl rfl) rfl hx hy hb
      refine fin hg rfl (u' := .bool b) ?_ (.bool b)
      have : binOp .eql t X Y = (do pure (.bool (← Op.equal t X Y))) := by
        cases hx <;> first | rfl | exact absurd rfl (n1 _ _) | exact absurd rfl (n2 _ _) | exact absurd rfl (n3 _) | (cases hb; done) | (cases hy <;> first | rfl | (cases hb; done))
      rw [this]
      simp [hrun]
    · obtain ⟨b, hb, rfl⟩ := omap_some.1 (show omap (eqT P (isConstO x || isConstO y) t v u) (fun b => ARes.val (.bool (!b)) σ) = some r from he)
      obtain ⟨hg, hrun⟩ := eqT_run (w := w) (op := .neq) (ox := x) (oy := y) (.inr rfl) rfl hx hy hb
      refine fin hg rfl (u' := .bool (!b)) ?_ (.bool (!b))
      have : binOp .neq t X Y = (do pure (.bool (!(← Op.equal t X Y)))) := by
        cases hx <;> first | rfl | exact absurd rfl (n1 _ _) | exact absurd rfl (n2 _ _) | exact absurd rfl (n3 _) | (cases hb; done) | (cases hy <;> first | rfl | (cases hb; done))
      rw [this]
      simp [hrun]
  unfold binA at hr
  cases v with
  | int k x' => cases u with
    | int k' y' =>
      simp only at hr
      cases hx; cases hy
      rw [cnd_eq] at hr
      split at hr
      · rename_i hs
        unfold shOpA at hr
        split at hr
        · rename_i n
          have hn : ¬ (Int.ofNat n < 0) := by simp only [Int.ofNat_eq_natCast]; omega
          cases op <;> first | (cases hs; done) | skip
          · cases hr
            exact fin (noGuard (by simp) (by simp)) rfl (u' := .int k (k.wrap (x' * 2 ^ (min n k.bits)))) (by simp [binOp, Op.shift]; intro hh; omega) (.int _ _)
          · cases hr
            exact fin (noGuard (by simp) (by simp)) rfl (u' := .int k (x'.fdiv (2 ^ (min n k.bits)))) (by simp [binOp, Op.shift]; intro hh; omega) (.int _ _)
        · cases hr
      · rename_i hs
        replace hr := cnd_none.1 hr
        obtain ⟨hk, hr⟩ := hr
        rw [eqK_eq] at hk
        have hk := of_decide_eq_true hk
        subst hk
        obtain ⟨v', u', e1, e2, e3⟩ := intOp_run (P := P) (μ := μ) (w := w) t (by simpa using hs) hr
        exact fin (noGuard (by simp) (by simp)) e1 e2 e3
    | _ => cases hr
  | float k x' => cases u with
    | float k' y' =>
      simp only at hr
      cases hx; cases hy
      replace hr := cnd_none.1 hr
      obtain ⟨hk, hr⟩ := hr
      have hk := of_decide_eq_true hk
      subst hk
      obtain ⟨v', u', e1, e2, e3⟩ := floatOp_run (P := P) (μ := μ) (w := w) t hr
      exact fin (noGuard (by simp) (by simp)) e1 e2 e3
    | _ => cases hr
  | str x' => cases u with
    | str y' =>
      simp only at hr
      cases hx with
      | str _ X hX => cases hy with
        | str _ Y hY =>
          obtain ⟨v', u', e1, e2, e3⟩ := strOp_run (P := P) (μ := μ) (w := w) t hX hY hr
          exact fin (noGuard (by simp) (by simp)) e1 e2 e3
    | _ => cases hr
  | _ => exact viaEq hr (by simp) (by simp) (by simp)

theorem op_un {op : UnOp} {x : Operand} {r : ARes} (h : SR P N μ σ w) (ha : AR P μ a ca) (hr : dUn op x P a σ = some r) :
    NR P N μ σ w r ((do pure (.value (← Op.unary op (ca.eval x))) : Sem Next).run P w) := by
  obtain ⟨v, hv, hr⟩ := obind_some.1 hr
  obtain ⟨u, hu, rfl⟩ := omap_some.1 hr
  have hx := ha.eval h hv
  generalize ca.eval x = X at *
  cases op <;> cases v <;> first | (cases hu; done) | skip
  all_goals cases hu
  all_goals cases hx
  · exact NR.value h (by simp [Op.unary, Op.intArith] <;> rfl) (.int _ _)
  · exact NR.value h (by simp [Op.unary] <;> rfl) (.float _ _)
  · exact NR.value h (by simp [Op.unary, Op.intBits] <;> rfl) (.int _ _)
  · exact NR.value h (by simp [Op.unary] <;> rfl) (.bool _)
end

end Go.Proofs.Vai
