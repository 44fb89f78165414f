/- Drawn regions, fourth part: what has been seen in the text's order. -/
import Derived.Test.YthaimknbmaeomaaGreatDoorVaiDrawC
set_option linter.unusedVariables false
set_option linter.unusedSimpArgs false
set_option linter.unusedSectionVars false
namespace Go.Proofs.Vai
open Go Go.RowKit
variable [Env]

section
variable {P : Program}

theorem toN_eq (p : Pos) : toN p = p.toNat := by
  induction p with
  | one => rfl
  | o p ih => show Nat.succ (2 * toN p) = 2 * p.toNat + 1; rw [ih]
  | i p ih => show Nat.succ (Nat.succ (2 * toN p)) = 2 * p.toNat + 2; rw [ih]
/-- What one operation came to. -/
inductive StepC (P : Program) (r : Rec) (o : Oper) (a : AAct) (s : St) : Bool → AV → St → Prop
  | no : StepC P r o a s false .undef s
  | val (v : AV) (s1 : St) (h : opA o.op P a s = some (.val v s1)) : StepC P r o a s true v s1
  | skip (s1 : St) (h : opA o.op P a s = some (.skip s1)) : StepC P r o a s true .undef s1
  | enter (f : FuncId) (args : List AV) (s0 : St) (v : AV) (rc : Option AMode) (s1 : St) (h : opA o.op P a s = some (.enter f args s0)) (hr : r (.call f args none) a s0 = some (.fin (.returned v) rc s1)) : StepC P r o a s true v s1
  | round (l : Pos) (args : List AV) (s0 : St) (v : AV) (rc : Option AMode) (s1 : St) (h : opA o.op P a s = some (.round l args s0)) (hr : r (.round l args) a s0 = some (.fin (.returned v) rc s1)) : StepC P r o a s true v s1
/-- What has been seen, by number; B: what is never done. -/
structure Trc (P : Program) (r : Rec) (all l : List Oper) (i : Nat) (tels : List Tel) (A : Nat → AAct) (S : Nat → St) (B : Nat → Bool) : Prop where
  len : tels.length = l.length
  tel : ∀ (k : Nat) (t : Tel), tels[k]? = some t → l[k]? = some t.o ∧ t.i = i + k ∧ t.a = A k ∧ t.s = S k ∧ (B k = false → wantedA all (A k) t.o.guard = some t.w) ∧
    ((B k = false → StepC P r t.o (A k) (S k) t.w t.v (S (k + 1))) ∧ (B k = true → t.w = false ∧ t.v = .undef ∧ S (k + 1) = S k)) ∧
    (S k).n.toNat ≤ (S (k + 1)).n.toNat ∧ (A k).put t.o.dst t.v = some (A (k + 1))
theorem drawPut_some {o : Oper} {k : Nat → AAct → St → Option Tq} {i : Nat} {a : AAct} {s : St} {w : Bool} {v : AV} {s' : St} {q : Tq} (h : drawPut o k i a s w v s' = some q) :
    s.n.toNat ≤ s'.n.toNat ∧ ∃ a' q', a.put o.dst v = some a' ∧ k (i + 1) a' s' = some q' ∧ q = (⟨i, o, a, s, w, v⟩ :: q'.1, q'.2) := by
  obtain ⟨h1, h2⟩ := cnd_none.1 h
  rw [toN_eq, toN_eq] at h1
  obtain ⟨a', h3, h4⟩ := obind_some.1 h2
  obtain ⟨q', h5, h6⟩ := omap_some.1 h4
  exact ⟨Nat.le_of_ble_eq_true h1, a', q', h3, h5, h6.symm⟩
/-- One operation that panics. -/
inductive PanC (P : Program) (r : Rec) (o : Oper) (a : AAct) (s : St) : AChain → St → Prop
  | enter (f : FuncId) (args : List AV) (s0 : St) (c : AChain) (rc : Option AMode) (s1 : St) (h : opA o.op P a s = some (.enter f args s0)) (hr : r (.call f args none) a s0 = some (.fin (.panicked c) rc s1)) : PanC P r o a s c s1
  | round (l : Pos) (args : List AV) (s0 : St) (c : AChain) (rc : Option AMode) (s1 : St) (h : opA o.op P a s = some (.round l args s0)) (hr : r (.round l args) a s0 = some (.fin (.panicked c) rc s1)) : PanC P r o a s c s1
theorem drawFin_some {o : Oper} {k : Nat → AAct → St → Option Tq} {i : Nat} {a : AAct} {s : St} {x : Out} {q : Tq} (h : drawFin o k i a s x = some q) :
    (∃ v rc s', x = .fin (.returned v) rc s' ∧ drawPut o k i a s true v s' = some q) ∨ ∃ c rc s', x = .fin (.panicked c) rc s' ∧ q = ([], .pan o a s c s') := by
  cases x with
  | «at» => cases h
  | fin e rc s' => cases e with
    | returned v => exact .inl ⟨v, rc, s', rfl, h⟩
    | panicked c => cases h; exact .inr ⟨c, rc, s', rfl, rfl⟩
/-- Where what has been seen ends. -/
def EndC (P : Program) (r : Rec) (all l : List Oper) (n : Nat) (A : Nat → AAct) (S : Nat → St) : DEnd → Prop
  | .done a s => n = l.length ∧ A n = a ∧ S n = s
  | .pan o a s c s1 => l[n]? = some o ∧ A n = a ∧ S n = s ∧ wantedA all (A n) o.guard = some true ∧ PanC P r o (A n) (S n) c s1
theorem drawOps_trc {r : Rec} {all : List Oper} : ∀ (l : List Oper) (i : Nat) (a : AAct) (s : St) (q : Tq), drawOps P all r l i a s = some q →
    ∃ A S, A 0 = a ∧ S 0 = s ∧ q.1.length ≤ l.length ∧ EndC P r all l q.1.length A S q.2 ∧ Trc P r all (l.take q.1.length) i q.1 A S fun _ => false
  | [], i, a, s, q, h => by
    cases h
    exact ⟨fun _ => a, fun _ => s, rfl, rfl, Nat.le_refl _, ⟨rfl, rfl, rfl⟩, rfl, fun k t h => by simp at h⟩
  | o :: l, i, a, s, q, h => by
    obtain ⟨w, hw, h⟩ := obind_some.1 (show obind (wantedA all a o.guard) (drawOp P r o (drawOps P all r l) i a s) = some q from h)
    have key : (∃ v s1, StepC P r o a s w v s1 ∧ drawPut o (drawOps P all r l) i a s w v s1 = some q) ∨ ∃ c s1, w = true ∧ PanC P r o a s c s1 ∧ q = ([], .pan o a s c s1) := by
      cases w with
      | false => exact .inl ⟨.undef, s, .no, h⟩
      | true =>
        obtain ⟨x, hx, h⟩ := obind_some.1 (show obind (opA o.op P a s) (drawRes r o (drawOps P all r l) i a s) = some q from h)
        cases x with
        | val v s1 => exact .inl ⟨v, s1, .val v s1 hx, h⟩
        | skip s1 => exact .inl ⟨.undef, s1, .skip s1 hx, h⟩
        | enter f args s0 =>
          obtain ⟨y, hy, h⟩ := obind_some.1 (show obind (r (.call f args none) a s0) (drawFin o (drawOps P all r l) i a s) = some q from h)
          rcases drawFin_some h with ⟨v, rc, s1, rfl, hk⟩ | ⟨c, rc, s1, rfl, hk⟩
          · exact .inl ⟨v, s1, .enter f args s0 v rc s1 hx hy, hk⟩
          · exact .inr ⟨c, s1, rfl, .enter f args s0 c rc s1 hx hy, hk⟩
        | round lp args s0 =>
          obtain ⟨y, hy, h⟩ := obind_some.1 (show obind (r (.round lp args) a s0) (drawFin o (drawOps P all r l) i a s) = some q from h)
          rcases drawFin_some h with ⟨v, rc, s1, rfl, hk⟩ | ⟨c, rc, s1, rfl, hk⟩
          · exact .inl ⟨v, s1, .round lp args s0 v rc s1 hx hy, hk⟩
          · exact .inr ⟨c, s1, rfl, .round lp args s0 c rc s1 hx hy, hk⟩
        | _ => cases h
    rcases key with ⟨v, s1, hst, hp⟩ | ⟨c, s1, rfl, hpan, rfl⟩
    · obtain ⟨hle, a', q', h3, h5, rfl⟩ := drawPut_some hp
      obtain ⟨A, S, rfl, rfl, hlen, hE, hT⟩ := drawOps_trc l (i + 1) a' s1 q' h5
      refine ⟨fun k => match k with | 0 => a | k + 1 => A k, fun k => match k with | 0 => s | k + 1 => S k, rfl, rfl, Nat.succ_le_succ hlen, ?_, ?_⟩
      · show EndC P r all (o :: l) (q'.1.length + 1) _ _ q'.2
        cases hq2 : q'.2 with
        | done a2 s2 => rw [hq2] at hE; exact ⟨congrArg (· + 1) hE.1, hE.2⟩
        | pan o2 a2 s2 c2 s3 => rw [hq2] at hE; exact ⟨(by rw [List.getElem?_cons_succ]; exact hE.1), hE.2⟩
      · show Trc P r all (o :: l.take q'.1.length) i _ _ _ _
        refine ⟨congrArg (· + 1) hT.len, fun k t ht => ?_⟩
        cases k with
        | zero =>
          simp at ht
          subst ht
          exact ⟨rfl, rfl, rfl, rfl, fun _ => hw, ⟨fun _ => hst, fun h => by cases h⟩, hle, h3⟩
        | succ k =>
          obtain ⟨g1, g2, g3, g4, g5, g6, g7, g8⟩ := hT.tel k t (by simpa using ht)
          exact ⟨by simpa using g1, by omega, g3, g4, g5, g6, g7, g8⟩
    · exact ⟨fun _ => a, fun _ => s, rfl, rfl, Nat.zero_le _, ⟨rfl, rfl, rfl, hw, hpan⟩, rfl, fun k t h => by simp at h⟩

/-! ### The activation, by number -/
theorem put_facts {a a' : AAct} {d : Option Tmp} {v : AV} (h : a.put d v = some a') : a'.n = a.n ∧ a'.defers = a.defers ∧ a'.rc = a.rc ∧ (∀ t, a'.tmp t = if d = some t then v else a.tmp t) ∧ ∀ t, d = some t → t < a.n := by
  cases d with
  | none => cases h; exact ⟨rfl, rfl, rfl, fun t => by simp, fun t h => by cases h⟩
  | some d =>
    obtain ⟨tm, n, df, rc⟩ := a
    obtain ⟨h1, h2⟩ := cnd_none.1 (show cnd (Nat.ble (Nat.succ d) n) (some (AAct.mk (tm.set (pos d) v) n df rc)) none = some a' from h)
    cases h2
    refine ⟨rfl, rfl, rfl, fun t => ?_, fun t ht => by cases ht; exact Nat.le_of_ble_eq_true h1⟩
    show orUndef ((tm.set (pos d) v).get (pos t)) = if some d = some t then v else orUndef (tm.get (pos t))
    by_cases hdt : d = t
    · subst hdt; rw [get_set_same, if_pos rfl]; rfl
    · rw [get_set_ne _ _ (fun e => hdt (pos_inj e)), if_neg (fun e => hdt (Option.some.inj e))]
section
variable {r : Rec} {ops : List Oper} {tels : List Tel} {A : Nat → AAct} {S : Nat → St} {B : Nat → Bool}
theorem Trc.get (hT : Trc P r ops ops 0 tels A S B) {k : Nat} (hk : k < ops.length) : ∃ t, tels[k]? = some t := ⟨_, List.getElem?_eq_getElem (by rw [hT.len]; exact hk)⟩
theorem Trc.lt (hT : Trc P r ops ops 0 tels A S B) {k : Nat} {t : Tel} (h : tels[k]? = some t) : k < ops.length := by rw [← hT.len]; exact (List.getElem?_eq_some_iff.1 h).1
theorem Trc.same (hT : Trc P r ops ops 0 tels A S B) : ∀ k, k ≤ ops.length → (A k).n = (A 0).n ∧ (A k).defers = (A 0).defers ∧ (A k).rc = (A 0).rc := by
  intro k
  induction k with
  | zero => intro _; exact ⟨rfl, rfl, rfl⟩
  | succ k ih =>
    intro hk
    obtain ⟨t, ht⟩ := hT.get (k := k) (by omega)
    obtain ⟨h1, h2, h3, _⟩ := put_facts (hT.tel k t ht).2.2.2.2.2.2.2
    obtain ⟨g1, g2, g3⟩ := ih (by omega)
    exact ⟨h1.trans g1, h2.trans g2, h3.trans g3⟩
/-- What no operation ahead has written is as it was. -/
theorem Trc.old (hT : Trc P r ops ops 0 tels A S B) {t : Tmp} : ∀ k, k ≤ ops.length → (∀ j o, j < k → ops[j]? = some o → o.dst ≠ some t) → (A k).tmp t = (A 0).tmp t := by
  intro k
  induction k with
  | zero => intro _ _; rfl
  | succ k ih =>
    intro hk hn
    obtain ⟨x, hx⟩ := hT.get (k := k) (by omega)
    have hp := hT.tel k x hx
    obtain ⟨_, _, _, h4, _⟩ := put_facts hp.2.2.2.2.2.2.2
    rw [h4 t, if_neg (hn k x.o (by omega) hp.1)]
    exact ih (by omega) fun j o hj ho => hn j o (by omega) ho
/-- What one has written stays. -/
theorem Trc.new (hF : Fit P ops) (hT : Trc P r ops ops 0 tels A S B) {t : Tmp} {j : Nat} {x : Tel} (hx : tels[j]? = some x) (hd : x.o.dst = some t) : ∀ k, j < k → k ≤ ops.length → (A k).tmp t = x.v := by
  intro k
  induction k with
  | zero => intro h _; omega
  | succ k ih =>
    intro hj hk
    obtain ⟨y, hy⟩ := hT.get (k := k) (by omega)
    have hp := hT.tel k y hy
    obtain ⟨_, _, _, h4, _⟩ := put_facts hp.2.2.2.2.2.2.2
    rw [h4 t]
    by_cases hjk : j = k
    · subst hjk
      rw [hx] at hy
      cases hy
      rw [if_pos hd]
    · rw [if_neg (hF.dst j k x.o y.o t (by omega) (hT.tel j x hx).1 hp.1 hd)]
      exact ih (by omega) (by omega)
/-- The counter goes up. -/
theorem Trc.mono (hT : Trc P r ops ops 0 tels A S B) {j k : Nat} (hjk : j ≤ k) (hk : k ≤ ops.length) : (S j).n.toNat ≤ (S k).n.toNat := by
  induction k with
  | zero => have : j = 0 := by omega
            subst this; exact Nat.le_refl _
  | succ k ih =>
    by_cases h : j = k + 1
    · subst h; exact Nat.le_refl _
    · obtain ⟨t, ht⟩ := hT.get (k := k) (by omega)
      exact Nat.le_trans (ih (by omega) (by omega)) (hT.tel k t ht).2.2.2.2.2.2.1
theorem cls_all (P : Program) (op : Op) : clsO P op = 0 ∨ clsO P op = 1 ∨ clsO P op = 2 ∨ clsO P op = 3 ∨ clsO P op = 4 := by
  unfold clsO
  split <;> (try split) <;> simp
/-- What a light operation does to the state. -/
theorem Trc.light (hF : Fit P ops) (hT : Trc P r ops ops 0 tels A S B) {j : Nat} {y : Tel} (hy : tels[j]? = some y) (hc : clsO P y.o.op ≠ 2) :
    (y.w = true ∧ clsO P y.o.op = 1 ∧ ∃ blk, isDead blk = false ∧ S (j + 1) = (S j).push blk) ∨ (¬ (y.w = true ∧ clsO P y.o.op = 1) ∧ S (j + 1) = S j) := by
  obtain ⟨ho, _, _, _, _, hst, _⟩ := hT.tel j y hy
  have h3 := hF.cls j y.o ho
  have key : ∀ x, opA y.o.op P (A j) (S j) = some x → (clsO P y.o.op = 1 ∧ ∃ v blk, isDead blk = false ∧ x = .val v ((S j).push blk)) ∨ (clsO P y.o.op ≠ 1 ∧ ∃ v, x = .val v (S j)) := by
    intro x hx
    rcases cls_all P y.o.op with h | h | h | h | h
    · obtain ⟨v, e⟩ := re_op P (A j) h (S j) x hx
      exact .inr ⟨by rw [h]; decide, v, e⟩
    · obtain ⟨v, blk, h2, h3, _⟩ := lays_op P (A j) h (S j) x hx
      exact .inl ⟨h, _, blk, h2, h3⟩
    · exact absurd h hc
    · exact absurd h h3
    · obtain ⟨v, e⟩ := (pu_op P (A j) h).re (S j) x hx
      exact .inr ⟨by rw [h]; decide, v, e⟩
  cases hB : B j with
  | true => obtain ⟨e1, _, e2⟩ := hst.2 hB; exact .inr ⟨fun q => (by rw [e1] at q; exact absurd q.1 (by decide)), e2⟩
  | false =>
  replace hst := hst.1 hB
  generalize hyw : y.w = yw at hst
  generalize y.v = yv at hst
  generalize S (j + 1) = sj at hst ⊢
  cases hst with
  | no => exact .inr ⟨(fun q => absurd q.1 (by decide)), rfl⟩
  | val _ _ hq =>
    rcases key _ hq with ⟨h1, v, blk, h2, e⟩ | ⟨h1, v, e⟩
    · cases e; exact .inl ⟨rfl, h1, blk, h2, rfl⟩
    · cases e; exact .inr ⟨fun q => h1 q.2, rfl⟩
  | skip _ hq => rcases key _ hq with ⟨h1, v, blk, h2, e⟩ | ⟨h1, v, e⟩ <;> cases e
  | enter f args s0 v rc s1 hq _ => rcases key _ hq with ⟨h1, v, blk, h2, e⟩ | ⟨h1, v, e⟩ <;> cases e
  | round l args s0 v rc s1 hq _ => rcases key _ hq with ⟨h1, v, blk, h2, e⟩ | ⟨h1, v, e⟩ <;> cases e
theorem Trc.lays (hF : Fit P ops) (hT : Trc P r ops ops 0 tels A S B) {j : Nat} {y : Tel} (hy : tels[j]? = some y) (hw : y.w = true) (hc : clsO P y.o.op = 1) : (S (j + 1)).n.toNat = (S j).n.toNat + 1 := by
  rcases hT.light hF hy (by rw [hc]; decide) with ⟨_, _, blk, _, e⟩ | ⟨h, _⟩
  · rw [e, push_n, Pos.toNat_succ]
  · exact absurd ⟨hw, hc⟩ h
end
end
end Go.Proofs.Vai
