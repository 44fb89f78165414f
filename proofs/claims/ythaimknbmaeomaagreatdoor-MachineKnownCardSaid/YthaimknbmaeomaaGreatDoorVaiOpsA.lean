/- The operations, first part: what each does in the machine, where the interpreter does it. -/
import Derived.Test.YthaimknbmaeomaaGreatDoorVaiRel
import Derived.Laws.Sem
import Derived.Laws.Entries
import Derived.Laws.NewBlocks
import Derived.ChangeKeysEq
set_option linter.unusedVariables false
set_option linter.unusedSimpArgs false
set_option linter.unusedSectionVars false
namespace Go.Proofs.Vai
open Go Go.RowKit
variable [Env]

/-! ### The types' facts -/
section
variable {P : Program}
theorem run_info {t : TypeId} {i : TypeInfo} (h : P.info? t = some i) (w : World) : (typeInfo t).run P w = .ok i w := by
  simp [typeInfo, h]
theorem sizeT_run {t : TypeId} {n : Nat} (h : sizeT P t = some n) (w : World) : (sizeOf t).run P w = .ok n w := by
  obtain ⟨i, hi, rfl⟩ := Option.map_eq_some_iff.1 h
  simp [sizeOf, run_info hi]
theorem sizeT_cells {t : TypeId} {n : Nat} (h : sizeT P t = some n) : P.cellsOf t = n := by
  unfold sizeT at h
  unfold Program.cellsOf
  rw [h]; rfl
theorem bytesT_info {t : TypeId} {n : Nat} (h : bytesT P t = some n) : ∃ i, P.info? t = some i ∧ i.bytes = n := by
  obtain ⟨i, hi, rfl⟩ := Option.map_eq_some_iff.1 h
  exact ⟨i, hi, rfl⟩
theorem aggT_run {t : TypeId} {g : Bool} (h : aggT P t = some g) (w : World) : (isAgg t).run P w = .ok g w := by
  obtain ⟨d, hd, rfl⟩ := Option.map_eq_some_iff.1 h
  unfold isAgg
  rw [Sem.run_bind, run_underlying hd, Result.andThen_ok]
  cases d <;> rfl
theorem elemT_some {t e : TypeId} (h : elemT P t = some e) : P.underlying t = some (.slice e) := by
  unfold elemT at h
  split at h
  · cases h; assumption
  · cases h
theorem fieldT_some {t : TypeId} {f : Nat} {fd : Field} (h : fieldT P t f = some fd) : ∃ fs, P.underlying t = some (.struct fs) ∧ fs[f]? = some fd := by
  unfold fieldT at h
  split at h
  · exact ⟨_, by assumption, h⟩
  · cases h
theorem mapT_some {t : TypeId} {q : TypeId × TypeId} (h : mapT P t = some q) : P.underlying t = some (.map q.1 q.2) := by
  unfold mapT at h
  split at h
  · cases h; assumption
  · cases h
theorem isU8T_some {e : TypeId} (h : isU8T P e = true) : P.underlying e = some (.int .u8) := by
  unfold isU8T at h
  split at h
  · assumption
  · cases h
theorem isStrT_some {e : TypeId} (h : isStrT P e = true) : P.underlying e = some .string := by
  unfold isStrT at h
  split at h
  · assumption
  · cases h
theorem isIfaceT_no {t : TypeId} (h : isIfaceT P t = false) : ∃ d, P.underlying t = some d ∧ ∀ ms, d ≠ .interface ms := by
  unfold isIfaceT at h
  split at h
  · cases h
  · cases h
  · rename_i x h1 h2
    cases hd : P.underlying t with
    | none => exact absurd hd h2
    | some d => exact ⟨d, rfl, fun ms e => h1 ms (by rw [hd, e])⟩
end

mutual
theorem toAV_sound {P : Program} {μ : Inj} : ∀ (c : Value) (v : AV), toAV c = some v → VR P μ v c
  | .bool b, v, h => by cases h; exact .bool b
  | .int k n, v, h => by cases h; exact .int k n
  | .float k b, v, h => by cases h; exact .float k b
  | .string s, v, h => by cases h; exact .str _ s rfl
  | .pointer none, v, h => by cases h; exact .nilptr
  | .slice none 0 0, v, h => by cases h; exact .nilslice
  | .map none, v, h => by cases h; exact .nilmap
  | .nilFunc, v, h => by cases h; exact .nilfunc
  | .nilIface, v, h => by cases h; exact .niliface
  | .agg ⟨cs⟩, v, h => by
    unfold toAV at h
    split at h
    · rename_i l hl
      cases ho : l.all AV.one with
      | false => rw [ho] at h; cases h
      | true =>
        rw [ho] at h
        cases h
        exact .agg l cs (toAVs_sound cs l hl) (by rw [ones_eq]; exact ho)
    · cases h
  | .tuple ⟨cs⟩, v, h => by
    unfold toAV at h
    split at h
    · rename_i l hl; cases h; exact .tuple l cs (toAVs_sound cs l hl)
    · cases h
  | .complex .., v, h => by cases h
  | .pointer (some _), v, h => by cases h
  | .slice (some _) _ _, v, h => by cases h
  | .slice none (_ + 1) _, v, h => by cases h
  | .slice none 0 (_ + 1), v, h => by cases h
  | .map (some _), v, h => by cases h
  | .chan _, v, h => by cases h
  | .func .., v, h => by cases h
  | .iface .., v, h => by cases h
theorem toAVs_sound {P : Program} {μ : Inj} : ∀ (cs : List Value) (l : List AV), toAVs cs = some l → VRs P μ l cs
  | [], l, h => by cases h; exact .nil
  | c :: cs, l, h => by
    unfold toAVs at h
    split at h
    · rename_i a ha
      split at h
      · rename_i as has
        cases h
        exact .cons a c as cs (toAV_sound c a ha) (toAVs_sound cs as has)
      · cases h
    · cases h
end

theorem zeroT_run {P : Program} {μ : Inj} {t : TypeId} {z : AV} (h : zeroT P t = some z) (w : World) : ∃ zv, (zeroValue t).run P w = .ok zv w ∧ VR P μ z zv ∧ ∃ i, P.info? t = some i ∧ i.zero = some zv := by
  obtain ⟨i, hi, h⟩ := Option.bind_eq_some_iff.1 h
  obtain ⟨zv, hz, h⟩ := Option.bind_eq_some_iff.1 h
  exact ⟨zv, by simp [zeroValue, run_info hi, hz], toAV_sound zv z h, i, hi, hz⟩

/-! ### The activation -/
inductive DR (P : Program) (μ : Inj) : ADef → Deferred → Prop
  | fn (f : FuncId) (cap args : List AV) (C A : List Value) (hc : VRs P μ cap C) (ha : VRs P μ args A) : DR P μ ⟨.fn f cap, args⟩ { target := .fn (.func f) C.toArray, args := A.toArray }
  | collected (b : Pos) (e : Ent) (h : μ b = some e) : DR P μ ⟨.collected b, []⟩ { target := .collected e.a.block, args := #[] }
inductive DRs (P : Program) (μ : Inj) : List ADef → List Deferred → Prop
  | nil : DRs P μ [] []
  | cons (d : ADef) (c : Deferred) (ds : List ADef) (cs : List Deferred) (h : DR P μ d c) (hs : DRs P μ ds cs) : DRs P μ (d :: ds) (c :: cs)
theorem DR.mono {P : Program} {μ μ' : Inj} (hs : Sub μ μ') {d : ADef} {c : Deferred} (h : DR P μ d c) : DR P μ' d c := by
  cases h with
  | fn f cap args C A hc ha => exact .fn f cap args C A (hc.mono hs) (ha.mono hs)
  | collected b e h => exact .collected b e (hs _ _ h)
theorem DRs.mono {P : Program} {μ μ' : Inj} (hs : Sub μ μ') {d : List ADef} {c : List Deferred} (h : DRs P μ d c) : DRs P μ' d c := by
  induction h with
  | nil => exact .nil
  | cons d c ds cs h _ ih => exact .cons d c ds cs (h.mono hs) ih
structure AR (P : Program) (μ : Inj) (a : AAct) (ca : Act) : Prop where
  tm : TR P μ a.tm ca.tmps
  size : ca.tmps.size = a.n
  defers : DRs P μ a.defers ca.defers
theorem AR.mono {P : Program} {μ μ' : Inj} (hs : Sub μ μ') {a : AAct} {ca : Act} (h : AR P μ a ca) : AR P μ' a ca := ⟨h.tm.mono hs, h.size, h.defers.mono hs⟩

section
variable {P : Program} {N : Nat} {μ : Inj} {σ : St} {w : World} {a : AAct} {ca : Act}
theorem AR.eval (h : AR P μ a ca) (hs : SR P N μ σ w) {x : Operand} {v : AV} (hv : a.eval P x = some v) : VR P μ v (ca.eval x) := by
  cases x with
  | tmp t => cases hv; exact h.tm t
  | const c => exact toAV_sound c v hv
  | global g =>
    obtain ⟨h1, h2⟩ := cnd_none.1 (show cnd (Nat.ble (Nat.succ g) P.globals.size) (some (AV.ptr (pos g) 0)) none = some v from hv)
    cases h2
    exact .ptr (pos g) 0 _ (hs.glob g (Nat.le_of_ble_eq_true h1))
  | func f => cases hv; exact .func f [] [] [] [] .nil .nil
theorem AR.evals (h : AR P μ a ca) (hs : SR P N μ σ w) {xs : List Operand} {vs : List AV} (hv : evals P a xs = some vs) : VRs P μ vs (xs.map ca.eval) := by
  induction xs generalizing vs with
  | nil => cases hv; exact .nil
  | cons x xs ih =>
    have hv : obind (a.eval P x) (fun v => obind (Vai.evals P a xs) fun vs => some (v :: vs)) = some vs := hv
    obtain ⟨v, h1, hv⟩ := obind_some.1 hv
    obtain ⟨us, h2, hv⟩ := obind_some.1 hv
    cases hv
    exact .cons _ _ _ _ (h.eval hs h1) (ih h2)
theorem AR.evalO (h : AR P μ a ca) (hs : SR P N μ σ w) {x : Option Operand} {v : Option AV} (hv : evalO P a x = some v) :
    (v = none ∧ x = none) ∨ ∃ u y, v = some u ∧ x = some y ∧ VR P μ u (ca.eval y) := by
  cases x with
  | none => cases hv; exact .inl ⟨rfl, rfl⟩
  | some x =>
    obtain ⟨u, h1, h2⟩ := omap_some.1 (show omap (a.eval P x) some = some v from hv)
    exact .inr ⟨u, x, h2.symm, rfl, h.eval hs h1⟩
theorem AR.put (h : AR P μ a ca) {d : Option Tmp} {v : AV} {u : Value} {a' : AAct} (hv : VR P μ v u) (hp : a.put d v = some a') : AR P μ a' (ca.put d u) ∧ a'.rc = a.rc := by
  cases d with
  | none => cases hp; exact ⟨h, rfl⟩
  | some d =>
    obtain ⟨tm, n, df, rc⟩ := a
    obtain ⟨h1, h2⟩ := cnd_none.1 (show cnd (Nat.ble (Nat.succ d) n) (some (AAct.mk (tm.set (pos d) v) n df rc)) none = some a' from hp)
    cases h2
    have hd : d < ca.tmps.size := by rw [h.size]; exact Nat.le_of_ble_eq_true h1
    refine ⟨⟨fun t => ?_, ?_, h.defers⟩, rfl⟩
    · show VR P μ (orUndef ((tm.set (pos d) v).get (pos t))) ((ca.tmps.setIfInBounds d u).getD t undef)
      by_cases ht : d = t
      · subst ht
        rw [get_set_same]
        show VR P μ v _
        simpa [Array.getD_eq_getD_getElem?, hd] using hv
      · rw [get_set_ne _ _ (fun e => ht (pos_inj e))]
        have := h.tm t
        simpa [Array.getD_eq_getD_getElem?, Array.getElem?_setIfInBounds_ne ht] using this
    · show (ca.tmps.setIfInBounds d u).size = n
      simpa using h.size
end

/-- What an operation comes to. -/
def NR (P : Program) (N : Nat) (μ : Inj) (σ : St) (w : World) (r : ARes) (res : Result Next) : Prop :=
  match r with
  | .val v σ' => ∃ μ' u w', res = .ok (.value u) w' ∧ Goes P N μ σ w μ' σ' w' ∧ VR P μ' v u
  | .skip σ' => ∃ μ' w', res = .ok .skip w' ∧ Goes P N μ σ w μ' σ' w'
  | .enter f args σ' => ∃ us, res = .ok (.enter f us.toArray) w ∧ σ' = σ ∧ VRs P μ args us
  | .round l args σ' => ∃ e us, μ l = some e ∧ res = (Instr.yield e.a.block us.toArray).run P w ∧ σ' = σ ∧ VRs P μ args us
  | .defer d σ' => ∃ c, res = .ok (.defer c) w ∧ σ' = σ ∧ DR P μ d c
  | .recover σ' => res = .ok .recover w ∧ σ' = σ
  | .panic v σ' => ∃ u, res = .halt (.panic u) w ∧ σ' = σ ∧ VR P μ v u

/-! ### Loads -/
section
variable {P : Program} {N : Nat} {μ : Inj} {σ : St} {w : World}
/-- The cells that a run of places holds. -/
theorem SR.cellsAt (h : SR P N μ σ w) {b : Pos} {o n : Nat} {vs : List AV} {e : Ent} (hb : μ b = some e) (hc : σ.cells b o n = some vs) :
    vs.length = n ∧ ones vs = true ∧ ∃ us, VRs P μ vs us ∧ us.length = n ∧ ∀ i, i < n → w.cell? (e.a.add (o + i)) = us[i]? := by
  obtain ⟨k, hk, hc⟩ := obind_some.1 hc
  obtain ⟨k', hk', hbr⟩ := h.blk b e hb
  rw [hk] at hk'
  cases hk'
  cases k with
  | cells own t len c =>
    obtain ⟨hle, hsub⟩ := cnd_none.1 (show cnd (Nat.ble (Nat.add o n) len) (c.sub o n) none = some vs from hc)
    have hle : o + n ≤ len := Nat.le_of_ble_eq_true hle
    have hcr : CR P μ c len (fun i => w.cell? (e.a.add i)) := by
      cases own with
      | false => exact hbr.2.2
      | true =>
        obtain ⟨g, sz, cur, rfl, _, h1, h2, h3, h4⟩ := hbr
        intro i hi
        obtain ⟨av, v, q1, q2, q3, q4⟩ := h4 i hi
        refine ⟨av, v, q1, ?_, q3, q4⟩
        have : (⟨g, 0, none⟩ : Addr).add i = ⟨g, i, none⟩ := by unfold Addr.add; split <;> simp_all
        simp only [this, World.cell?, h1]
        simpa using q2
    obtain ⟨hl, hg⟩ := Cs.sub_spec hsub hle hcr.isSome
    have hval : ∀ i, i < n → ∃ av v, vs[i]? = some av ∧ w.cell? (e.a.add (o + i)) = some v ∧ VR P μ av v ∧ av.one = true := fun i hi => by
      obtain ⟨av, v, q1, q2, q3, q4⟩ := hcr (o + i) (by omega)
      exact ⟨av, v, (hg i hi).symm.trans q1, q2, q3, q4⟩
    refine ⟨hl, ?_, (List.range n).map (fun i => (w.cell? (e.a.add (o + i))).getD undef), ?_, by simp, fun i hi => ?_⟩
    · rw [ones_eq]
      refine List.all_eq_true.2 fun x hx => ?_
      obtain ⟨i, hi, hxi⟩ := List.getElem_of_mem hx
      obtain ⟨av, v, q1, _, _, q4⟩ := hval i (hl ▸ hi)
      rw [List.getElem?_eq_getElem hi, hxi] at q1
      cases q1
      exact q4
    · refine VRs.of_get (by simp [hl]) fun i v u hv hu => ?_
      have hi : i < n := by
        rcases Nat.lt_or_ge i n with h | h
        · exact h
        · rw [List.getElem?_eq_none (by omega)] at hv; cases hv
      obtain ⟨av, v', q1, q2, q3, _⟩ := hval i hi
      rw [q1] at hv
      cases hv
      simp [hi, q2] at hu
      subst hu
      exact q3
    · obtain ⟨av, v, q1, q2, _, _⟩ := hval i hi
      simp [hi, q2]
  | map _ => cases hc
  | siter _ _ => cases hc
  | loop _ => cases hc
  | deferred _ => cases hc
  | dead => cases hc
theorem run_loadCellsFrom {P : Program} {w : World} (a : Addr) : ∀ (n i : Nat) (acc : Array Value) (us : List Value), us.length = n → (∀ j, j < n → w.cell? (a.add (i + j)) = us[j]?) →
    (loadCellsFrom a i n acc).run P w = .ok (acc ++ us.toArray) w
  | 0, i, acc, us, hl, hc => by
    have : us = [] := List.eq_nil_of_length_eq_zero hl
    subst this
    simp [loadCellsFrom]
  | n + 1, i, acc, us, hl, hc => by
    cases us with
    | nil => simp at hl
    | cons u us =>
      have h0 : w.cell? (a.add i) = some u := by simpa using hc 0 (by omega)
      have ih := run_loadCellsFrom (P := P) (w := w) a n (i + 1) (acc.push u) us (by simpa using hl) fun j hj => by
        have := hc (j + 1) (by omega)
        rw [show i + 1 + j = i + (j + 1) from by omega]
        simpa using this
      simp only [loadCellsFrom, Sem.run_bind, run_load, h0, Result.andThen_ok, ih]
      congr 1
      apply Array.ext'
      simp
theorem run_loadCells {a : Addr} {n : Nat} {us : List Value} (hl : us.length = n) (hc : ∀ j, j < n → w.cell? (a.add j) = us[j]?) : (loadCells a n).run P w = .ok us.toArray w := by
  have := run_loadCellsFrom (P := P) (w := w) a n 0 #[] us hl (by simpa using hc)
  simpa [loadCells] using this
theorem add_add (a : Addr) (o i : Nat) : (a.add o).add i = a.add (o + i) := by
  unfold Addr.add
  by_cases h1 : o = 0
  · subst h1; simp
  · by_cases h2 : i = 0
    · subst h2; simp [h1]
    · rw [if_neg h1, if_neg h2, if_neg (by omega)]; simp [Nat.add_assoc]
theorem SR.load (h : SR P N μ σ w) {t : TypeId} {b : Pos} {o : Nat} {v : AV} {e : Ent} (hb : μ b = some e) (hv : σ.load P t b o = some v) :
    ∃ u, (loadVar t (e.a.add o)).run P w = .ok u w ∧ VR P μ v u ∧ v ≠ .bad := by
  obtain ⟨g, hg, hv⟩ := obind_some.1 hv
  cases g with
  | true =>
    obtain ⟨n, hn, hv⟩ := obind_some.1 (show loadAgg P σ t b o = some v from hv)
    obtain ⟨vs, hvs, rfl⟩ := omap_some.1 hv
    obtain ⟨h1, h2, us, h3, h4, h5⟩ := h.cellsAt hb hvs
    refine ⟨.agg us.toArray, ?_, .agg vs us h3 h2, by simp⟩
    have := run_loadCells (P := P) (a := e.a.add o) h4 (fun j hj => by rw [add_add]; exact h5 j hj)
    simp [loadVar, aggT_run hg, sizeT_run hn, this]
  | false =>
    obtain ⟨k, hk, hv⟩ := obind_some.1 (show obind (σ.h.get b) (loadOne o) = some v from hv)
    cases k with
    | cells own t' len c =>
      obtain ⟨hle, hget⟩ := cnd_none.1 (show cnd (Nat.ble (Nat.succ o) len) (c.get o) none = some v from hv)
      have hle : o < len := Nat.le_of_ble_eq_true hle
      obtain ⟨k', hk', hbr⟩ := h.blk b e hb
      rw [hk] at hk'
      cases hk'
      have hcell : ∃ u, w.cell? (e.a.add o) = some u ∧ VR P μ v u ∧ v.one = true := by
        cases own with
        | false =>
          obtain ⟨av, u, q1, q2, q3, q4⟩ := hbr.2.2 o hle
          rw [hget] at q1
          cases q1
          exact ⟨u, q2, q3, q4⟩
        | true =>
          obtain ⟨g, sz, cur, rfl, _, p1, p2, p3, p4⟩ := hbr
          obtain ⟨av, u, q1, q2, q3, q4⟩ := p4 o hle
          rw [hget] at q1
          cases q1
          have : (⟨g, 0, none⟩ : Addr).add o = ⟨g, o, none⟩ := by unfold Addr.add; split <;> simp_all
          exact ⟨u, by simp only [this, World.cell?, p1]; simpa using q2, q3, q4⟩
      obtain ⟨u, q1, q2, q3⟩ := hcell
      exact ⟨u, by simp [loadVar, aggT_run hg, q1], q2, by rintro rfl; cases q3⟩
    | map _ => cases hv
    | siter _ _ => cases hv
    | loop _ => cases hv
    | deferred _ => cases hv
    | dead => cases hv
end

end Go.Proofs.Vai
