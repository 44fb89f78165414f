/- The operations, seventh part: maps, iterators over strings, type assertions, panics. -/
import Derived.Test.YthaimknbmaeomaaGreatDoorVaiOpsF
import Derived.Laws.RangeString
import Derived.MapKept
set_option linter.unusedVariables false
set_option linter.unusedSimpArgs false
set_option linter.unusedSectionVars false
namespace Go.Proofs.Vai
open Go Go.RowKit Go.MapKept
variable [Env]

section
variable {P : Program} {N : Nat} {μ : Inj} {σ : St} {w : World} {a : AAct} {ca : Act}

/-! ### Keys -/
theorem sameC_eq {x y : AV} (h : sameC x y = true) : x = y := by
  unfold sameC at h
  cases x with
  | int j a => cases y with
    | int k b =>
      rw [Bool.and_eq_true, eqK_eq, eqI_eq] at h
      rw [of_decide_eq_true h.1, eq_of_beq h.2]
    | _ => cases h
  | str a => cases y with
    | str b =>
      replace h : eqS a b = true := h
      rw [eqS_eq] at h
      rw [eq_of_beq h]
    | _ => cases h
  | bool a => cases y with
    | bool b =>
      replace h : (a == b) = true := h
      rw [eq_of_beq h]
    | _ => cases h
  | _ => cases h
theorem sameCs_eq : ∀ {xs ys : List AV}, sameCs xs ys = true → xs = ys ∧ ∀ x ∈ xs, sameC x x = true
  | [], [], _ => ⟨rfl, by simp⟩
  | [], _ :: _, h => by cases h
  | _ :: _, [], h => by cases h
  | x :: xs, y :: ys, h => by
    have h : cnd (sameC x y) (sameCs xs ys) false = true := h
    cases hc : sameC x y with
    | false => rw [hc] at h; cases h
    | true =>
      rw [hc] at h
      obtain ⟨rfl, h2⟩ := sameCs_eq (show sameCs xs ys = true from h)
      obtain rfl := sameC_eq hc
      exact ⟨rfl, fun z hz => by cases hz with | head => exact hc | tail _ hz => exact h2 z hz⟩
theorem sameA_eq {x y : AV} (h : sameA x y = true) : x = y := by
  unfold sameA at h
  cases x with
  | agg xs => cases y with
    | agg ys => rw [(sameCs_eq h).1]
    | _ => cases h
  | _ => exact sameC_eq h
theorem str_inj {s s' : ByteArray} (h : s.data.toList.map (·.toNat) = s'.data.toList.map (·.toNat)) : s = s' := by
  have : s.data.toList = s'.data.toList := by
    have hinj : ∀ (x y : List UInt8), x.map (·.toNat) = y.map (·.toNat) → x = y := by
      intro x
      induction x with
      | nil => intro y h; cases y with | nil => rfl | cons _ _ => cases h
      | cons a x ih => intro y h; cases y with
        | nil => cases h
        | cons b y => simp at h; rw [UInt8.toNat_inj.1 h.1, ih y h.2]
    exact hinj _ _ h
  cases s; cases s'
  congr 1
  exact Array.ext' this
theorem sameC_unique {x : AV} (h : sameC x x = true) {X Y : Value} (hX : VR P μ x X) (hY : VR P μ x Y) : X = Y ∧ ∀ n, Instr.sameBits n X Y = true := by
  cases x with
  | int j a => cases hX; cases hY; exact ⟨rfl, fun n => by cases n <;> simp [Instr.sameBits]⟩
  | str a => cases hX with
    | str _ s hs => cases hY with
      | str _ s' hs' =>
        obtain rfl := str_inj (hs.trans hs'.symm)
        refine ⟨rfl, fun n => by cases n <;> simp [Instr.sameBits, bytes_beq]⟩
  | bool a => cases hX; cases hY; exact ⟨rfl, fun n => by cases n <;> simp [Instr.sameBits]⟩
  | _ => cases h
theorem sameA_plain {x : AV} (h : sameA x x = true) (hx : isAggA x = false) : sameC x x = true := by
  cases x <;> first | exact h | cases hx
theorem sameA_bits {x : AV} (h : sameA x x = true) {X Y : Value} (hX : VR P μ x X) (hY : VR P μ x Y) (n : Nat) : Instr.sameBits (n + 1) X Y = true := by
  cases hx : isAggA x with
  | false => exact (sameC_unique (sameA_plain h hx) hX hY).2 _
  | true =>
  obtain ⟨xs, rfl⟩ := isAggA_eq hx
  have h2 := (sameCs_eq (show sameCs xs xs = true from h)).2
  cases hX with
  | agg _ C hC _ => cases hY with
    | agg _ D hD _ =>
      have key : ∀ (xs : List AV) (C D : List Value), (∀ x ∈ xs, sameC x x = true) → VRs P μ xs C → VRs P μ xs D → C = D ∧ (C.zip D).all (fun (x, y) => Instr.sameBits n x y) = true := by
        intro xs
        induction xs with
        | nil => intro C D _ hC hD; cases hC; cases hD; exact ⟨rfl, rfl⟩
        | cons x xs ih =>
          intro C D h2 hC hD
          cases hC with
          | cons _ u _ us hv hvs => cases hD with
            | cons _ u' _ us' hv' hvs' =>
              obtain ⟨rfl, hb⟩ := sameC_unique (h2 x (List.mem_cons_self ..)) hv hv'
              obtain ⟨rfl, hr⟩ := ih us us' (fun z hz => h2 z (List.mem_cons_of_mem _ hz)) hvs hvs'
              exact ⟨rfl, by simp only [List.zip_cons_cons, List.all_cons, hb n, Bool.true_and]; exact hr⟩
      obtain ⟨rfl, h3⟩ := key xs C D h2 hC hD
      unfold Instr.sameBits
      rw [Bool.and_eq_true]
      exact ⟨by simp, h3⟩
theorem eqV_some {t : TypeId} {x y : AV} {b : Bool} (h : eqV P t x y = some b) : eqAt P 8 t x y = some b ∧ (b = true → x = y ∧ sameA x x = true) := by
  obtain ⟨c, hc, h⟩ := obind_some.1 h
  cases c with
  | true =>
    obtain ⟨h1, h2⟩ := cnd_none.1 (show cnd (sameA x y) (some true) none = some b from h)
    cases h2
    obtain rfl := sameA_eq h1
    exact ⟨hc, fun _ => ⟨rfl, h1⟩⟩
  | false => cases h; exact ⟨hc, fun h => by cases h⟩
theorem sameNow_eq {t : TypeId} {d : TypeDesc} {x y : AV} {X Y : Value} {b c : Bool} (hX : VR P μ x X) (hY : VR P μ y Y) (h : eqAt P 8 t x y = some b) (hs : Instr.sameNow d X Y = some c) : c = b := by
  have h : eqB P (eqAt P 7) t x y = some b := h
  unfold eqB at h
  cases x with
  | int j p => cases y with
    | int k q =>
      obtain ⟨h1, h2⟩ := cnd_none.1 h
      obtain ⟨_, rfl⟩ := onK_some h2
      cases hX; cases hY
      rw [eqK_eq] at h1
      have h1 := of_decide_eq_true h1
      cases d <;> first | (cases hs; done) | skip
      simp only [Instr.sameNow, if_pos h1] at hs
      cases hs
      rw [eqI_eq]
    | _ => cases h
  | str p => cases y with
    | str q =>
      obtain ⟨_, rfl⟩ := onK_some h
      cases hX with
      | str _ s hs1 => cases hY with
        | str _ s' hs2 =>
          subst hs1; subst hs2
          cases d <;> first | (cases hs; done) | skip
          cases hs
          rw [eqS_eq, ← str_eq]
          rw [Bool.eq_iff_iff]
          rw [bytes_beq, beq_iff_eq]
          refine ⟨fun h => by rw [h], fun h => ?_⟩
          rw [ByteArray.toList_eq, ByteArray.toList_eq] at h
          exact str_inj (by rw [h])
    | _ => cases h
  | bool p => cases y with
    | bool q =>
      obtain ⟨_, rfl⟩ := onK_some h
      cases hX; cases hY
      cases d <;> first | (cases hs; done) | skip
      cases hs; rfl
    | _ => cases h
  | agg _ => cases y with
    | agg _ => cases hX; cases hY; cases d <;> cases hs
    | _ => cases h
  | _ => first | (cases h; done) | (cases hX <;> cases d <;> cases hs)

/-- What a search of a map's entries comes to. -/
def Found (P : Program) (t : TypeId) (K : Value) (ms : List MapEntry) (r : Option (Nat × Value)) : Prop :=
  (∀ (i : Nat) (w : World), (Instr.findAsking t K ms i).run P w = .ok (r.map fun q => (i + q.1, q.2)) w) ∧
  ∀ (d : TypeDesc) (i : Nat) (q : Option (Nat × Value)), Instr.findNow d K ms i = some q → q = r.map fun q => (i + q.1, q.2)
theorem Found.nil (t : TypeId) (K : Value) : Found P t K [] none := ⟨fun i w => rfl, fun d i q h => by cases h; rfl⟩
theorem Found.here {t : TypeId} {K : Value} {k x : AV} {m : MapEntry} {ms : List MapEntry} (hk : VR P μ k K) (hx : VR P μ x m.key) (h : eqAt P 8 t k x = some true) : Found P t K (m :: ms) (some (0, m.val)) := by
  refine ⟨fun i w => ?_, fun d i q hq => ?_⟩
  · have := eqAt_run (P := P) (μ := μ) 8 Op.maxDepth t k x K m.key true (by decide) hk hx h w
    unfold Instr.findAsking
    simp only [Op.equal, Sem.run_bind, this, Result.andThen_ok]
    rfl
  · unfold Instr.findNow at hq
    split at hq
    · cases hq; rfl
    · rename_i hs; have := sameNow_eq hk hx h hs; cases this
    · cases hq
theorem Found.there {t : TypeId} {K : Value} {k x : AV} {m : MapEntry} {ms : List MapEntry} {r : Option (Nat × Value)} (hk : VR P μ k K) (hx : VR P μ x m.key) (h : eqAt P 8 t k x = some false) (hr : Found P t K ms r) :
    Found P t K (m :: ms) (r.map fun q => (q.1 + 1, q.2)) := by
  refine ⟨fun i w => ?_, fun d i q hq => ?_⟩
  · have := eqAt_run (P := P) (μ := μ) 8 Op.maxDepth t k x K m.key false (by decide) hk hx h w
    unfold Instr.findAsking
    simp only [Op.equal, Sem.run_bind, this, Result.andThen_ok, Bool.false_eq_true, if_false, hr.1 (i + 1) w]
    cases r with
    | none => rfl
    | some q => simp only [Option.map_some]; congr 3; omega
  · unfold Instr.findNow at hq
    split at hq
    · rename_i hs; have := sameNow_eq hk hx h hs; cases this
    · rw [hr.2 d (i + 1) q hq]
      cases r with
      | none => rfl
      | some q => simp only [Option.map_some]; congr 2; omega
    · cases hq
theorem Found.run {t : TypeId} {K : Value} {ms : List MapEntry} {r : Option (Nat × Value)} {d : TypeDesc} (h : Found P t K ms r) (hd : P.underlying t = some d) (w : World) : (Instr.findKey t K ms).run P w = .ok r w := by
  have e : (r.map fun q : Nat × Value => (0 + q.1, q.2)) = r := by cases r <;> simp
  unfold Instr.findKey
  simp only [Sem.run_bind, run_underlying hd, Result.andThen_ok]
  split
  · rename_i q hq
    rw [h.2 d 0 q hq, e]; rfl
  · rw [h.1 0 w, e]

theorem look_spec {t : TypeId} {k : AV} {K : Value} (hk : VR P μ k K) {es : List (AV × AV)} {ms : List MapEntry} (hm : ER P μ es ms) : ∀ {o : Option AV}, lookA P t k es = some o →
    (o = none ∧ Found P t K ms none) ∨ ∃ v j m, o = some v ∧ Found P t K ms (some (j, m.val)) ∧ ms[j]? = some m ∧ VR P μ v m.val := by
  induction hm with
  | nil => intro o h; cases h; exact .inl ⟨rfl, Found.nil t K⟩
  | cons x v m es ms hx hv hm ih =>
    intro o h
    obtain ⟨b, hb, h⟩ := obind_some.1 (show obind (eqV P t k x) (fun b => cnd b (some (some v)) (lookA P t k es)) = some o from h)
    obtain ⟨h1, h2⟩ := eqV_some hb
    cases b with
    | true => cases h; exact .inr ⟨v, 0, m, rfl, Found.here hk hx h1, rfl, hv⟩
    | false =>
      rcases ih (show lookA P t k es = some o from h) with ⟨rfl, hf⟩ | ⟨v', j, m', rfl, hf, hj, hv'⟩
      · exact .inl ⟨rfl, Found.there hk hx h1 hf⟩
      · exact .inr ⟨v', j + 1, m', rfl, Found.there hk hx h1 hf, by simpa using hj, hv'⟩
theorem upd_spec {t : TypeId} {k v : AV} {K V : Value} (hk : VR P μ k K) (hV : VR P μ v V) {es : List (AV × AV)} {ms : List MapEntry} (hm : ER P μ es ms) : ∀ {es' : List (AV × AV)}, updA P t k v es = some es' →
    (Found P t K ms none ∧ ∀ b, ER P μ es' (ms ++ [{ key := K, val := V, born := b }])) ∨
    ∃ j m, Found P t K ms (some (j, m.val)) ∧ ms[j]? = some m ∧ Instr.sameBits 10000 m.key K = true ∧ ER P μ es' (ms.modify j fun e => { e with key := K, val := V }) := by
  induction hm with
  | nil => intro es' h; cases h; exact .inl ⟨Found.nil t K, fun b => .cons k v _ [] [] hk hV .nil⟩
  | cons x y m es ms hx hy hm ih =>
    intro es' h
    obtain ⟨b, hb, h⟩ := obind_some.1 (show obind (eqV P t k x) (fun b => cnd b (some ((x, v) :: es)) (omap (updA P t k v es) ((x, y) :: ·))) = some es' from h)
    obtain ⟨h1, h2⟩ := eqV_some hb
    cases b with
    | true =>
      cases h
      obtain ⟨rfl, hs⟩ := h2 rfl
      exact .inr ⟨0, m, Found.here hk hx h1, rfl, sameA_bits hs hx hk 9999, .cons k v _ es ms hk hV hm⟩
    | false =>
      obtain ⟨es2, h3, rfl⟩ := omap_some.1 (show omap (updA P t k v es) ((x, y) :: ·) = some es' from h)
      rcases ih h3 with ⟨hf, hr⟩ | ⟨j, m', hf, hj, hbits, hr⟩
      · exact .inl ⟨Found.there hk hx h1 hf, fun b => .cons x y m _ _ hx hy (hr b)⟩
      · exact .inr ⟨j + 1, m', Found.there hk hx h1 hf, by simpa using hj, hbits, by simpa using ER.cons x y m _ _ hx hy hr⟩
theorem del_spec {t : TypeId} {k : AV} {K : Value} (hk : VR P μ k K) {es : List (AV × AV)} {ms : List MapEntry} (hm : ER P μ es ms) : ∀ {es' : List (AV × AV)}, delA P t k es = some es' →
    (Found P t K ms none ∧ ER P μ es' ms) ∨ ∃ j v, Found P t K ms (some (j, v)) ∧ j < ms.length ∧ ER P μ es' (ms.eraseIdx j) := by
  induction hm with
  | nil => intro es' h; cases h; exact .inl ⟨Found.nil t K, .nil⟩
  | cons x y m es ms hx hy hm ih =>
    intro es' h
    obtain ⟨b, hb, h⟩ := obind_some.1 (show obind (eqV P t k x) (fun b => cnd b (some es) (omap (delA P t k es) ((x, y) :: ·))) = some es' from h)
    obtain ⟨h1, h2⟩ := eqV_some hb
    cases b with
    | true => cases h; exact .inr ⟨0, m.val, Found.here hk hx h1, by simp, by simpa using hm⟩
    | false =>
      obtain ⟨es2, h3, rfl⟩ := omap_some.1 (show omap (delA P t k es) ((x, y) :: ·) = some es' from h)
      rcases ih h3 with ⟨hf, hr⟩ | ⟨j, v', hf, hj, hr⟩
      · exact .inl ⟨Found.there hk hx h1 hf, .cons x y m _ _ hx hy hr⟩
      · exact .inr ⟨j + 1, v', Found.there hk hx h1 hf, by simpa using hj, by simpa using ER.cons x y m _ _ hx hy hr⟩
end
end Go.Proofs.Vai
