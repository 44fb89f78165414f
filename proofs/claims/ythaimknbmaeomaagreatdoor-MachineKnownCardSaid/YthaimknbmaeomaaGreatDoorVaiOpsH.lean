/- The operations, eighth part: maps, iterators over strings, type assertions, panics. -/
import Derived.Test.YthaimknbmaeomaaGreatDoorVaiOpsG
set_option linter.unusedVariables false
set_option linter.unusedSimpArgs false
set_option linter.unusedSectionVars false
namespace Go.Proofs.Vai
open Go Go.RowKit Go.MapKept
variable [Env]

section
variable {P : Program} {N : Nat} {μ : Inj} {σ : St} {w : World} {a : AAct} {ca : Act}

theorem isK_some {t : TypeId} {k : Nat} (h : isK P t k = true) : kindT P t = k := Nat.eq_of_beq_eq_true h
/-- What may be a key is one. -/
theorem chkAt_run (em : Bool) : ∀ (n d : Nat) (t : TypeId) (x : AV) (X : Value), n ≤ d → VR P μ x X → chkAt P n t x = true → ∀ w : World, (Instr.checkKey em d t X).run P w = .ok () w := by
  intro n
  induction n with
  | zero => intro d t x X _ _ h; cases h
  | succ n ih =>
    intro d t x X hd hx h w
    obtain ⟨d, rfl⟩ : ∃ m, d = m + 1 := ⟨d - 1, by omega⟩
    replace h : chkB P (chkAt P n) t x = true := h
    unfold chkB at h
    cases x with
    | int j a =>
      obtain ⟨_, hu, _, _, _, _, _, _, _, h7, _⟩ := kind_cases (isK_some h) (by omega)
      obtain ⟨q, rfl⟩ := h7 rfl
      cases hx
      simp [Instr.checkKey, run_underlying hu]
    | str a =>
      obtain ⟨_, hu, _, _, _, _, _, _, _, _, h8⟩ := kind_cases (isK_some h) (by omega)
      have h8 := h8 rfl
      subst h8
      cases hx
      simp [Instr.checkKey, run_underlying hu]
    | bool a =>
      obtain ⟨_, hu, h0, _⟩ := kind_cases (isK_some h) (by omega)
      have h0 := h0 rfl
      subst h0
      cases hx
      simp [Instr.checkKey, run_underlying hu]
    | agg xs =>
      replace h : @Option.rec (List (TypeId × Nat)) (fun _ => Bool) false (fun fs => chkFs P (chkAt P n) xs fs) (plainFields P t) = true := h
      cases hp : plainFields P t with
      | none => rw [hp] at h; cases h
      | some fs =>
        rw [hp] at h
        replace h : chkFs P (chkAt P n) xs fs = true := h
        obtain ⟨fa, hu, _, rfl, hn⟩ := plainFields_some hp
        cases hx with
        | agg _ C hC ho =>
          have key : ∀ (fl : List Field), chkFs P (chkAt P n) xs (fl.map fun f => (f.type, f.offset)) = true → (∀ f ∈ fl, f.name ≠ "_") →
              (forIn fl PUnit.unit (fun f (_ : PUnit) => if f.name ≠ "_" then (do Instr.checkKey em d f.type (← part f.type C.toArray f.offset); pure (ForInStep.yield PUnit.unit) : Sem (ForInStep PUnit)) else pure (ForInStep.yield PUnit.unit))).run P w = .ok PUnit.unit w := by
            intro fl
            induction fl with
            | nil => intro _ _; rfl
            | cons f fl ihf =>
              intro h hn
              replace h : @Option.rec AV (fun _ => Bool) false (fun x => cnd (chkAt P n f.type x) (chkFs P (chkAt P n) xs (fl.map fun f => (f.type, f.offset))) false) (partA P f.type xs f.offset) = true := h
              cases hpa : partA P f.type xs f.offset with
              | none => rw [hpa] at h; cases h
              | some p =>
                rw [hpa] at h
                replace h : cnd (chkAt P n f.type p) (chkFs P (chkAt P n) xs (fl.map fun f => (f.type, f.offset))) false = true := h
                cases hc : chkAt P n f.type p with
                | false => rw [hc] at h; cases h
                | true =>
                  rw [hc] at h
                  obtain ⟨u, hrun, hv⟩ := partA_run (w := w) hC ho hpa
                  have h1 := ih d f.type p u (by omega) hv hc w
                  have h2 := ihf h fun f hf => hn f (List.mem_cons_of_mem _ hf)
                  rw [List.forIn_cons]
                  simp only [if_pos (hn f (List.mem_cons_self ..)), Sem.run_bind, hrun, h1, Result.andThen_ok, Sem.run_pure]
                  exact h2
          have := key fa.toList h hn
          unfold Instr.checkKey
          simp only [Sem.run_bind, run_underlying hu, Result.andThen_ok]
          rw [← Array.forIn_toList]
          have h3 := this
          refine (congrArg (fun r => Result.andThen r fun _ w' => Sem.run P (pure ()) w') (?_ : _ = Result.ok PUnit.unit w)).trans rfl
          exact h3
    | _ => cases h

theorem chkAt_ty {n : Nat} {t : TypeId} {x : AV} (h : chkAt P (n + 1) t x = true) : ∃ d, P.underlying t = some d := by
  replace h : chkB P (chkAt P n) t x = true := h
  unfold chkB at h
  cases x with
  | int j a => obtain ⟨d, hu, _⟩ := kind_cases (isK_some h) (by omega); exact ⟨d, hu⟩
  | str a => obtain ⟨d, hu, _⟩ := kind_cases (isK_some h) (by omega); exact ⟨d, hu⟩
  | bool a => obtain ⟨d, hu, _⟩ := kind_cases (isK_some h) (by omega); exact ⟨d, hu⟩
  | agg xs =>
    replace h : @Option.rec (List (TypeId × Nat)) (fun _ => Bool) false (fun fs => chkFs P (chkAt P n) xs fs) (plainFields P t) = true := h
    cases hp : plainFields P t with
    | none => rw [hp] at h; cases h
    | some fs => obtain ⟨fa, hu, _⟩ := plainFields_some hp; exact ⟨_, hu⟩
  | _ => cases h
theorem isMap_eq {k : ABlk} {es : List (AV × AV)} (h : isMap k = some es) : k = .map es := by cases k <;> first | (cases h; rfl) | cases h
theorem SR.mapAt (h : SR P N μ σ w) {b : Pos} {e : Ent} {es : List (AV × AV)} (hb : μ b = some e) (hm : mapEs σ (.map b) = some es) :
    σ.h.get b = some (.map es) ∧ ∃ g ents clock, e = ⟨⟨g, 0, none⟩, none⟩ ∧ N ≤ g ∧ w.heap[g]? = some (.map ents clock) ∧ ER P μ es ents.toList := by
  obtain ⟨k, hk, hi⟩ := obind_some.1 (show obind (σ.h.get b) isMap = some es from hm)
  obtain rfl := isMap_eq hi
  obtain ⟨k', hk', hbr⟩ := h.blk b e hb
  rw [hk] at hk'
  cases hk'
  exact ⟨hk, hbr⟩
/-- What a map's value holds. -/
theorem SR.entries (h : SR P N μ σ w) {m : AV} {M : Value} {es : List (AV × AV)} (hx : VR P μ m M) (hm : mapEs σ m = some es) :
    ∃ ents : Array MapEntry, ER P μ es ents.toList ∧ ((M = .map none ∧ ents = #[]) ∨ ∃ g clock, M = .map (some g) ∧ w.heap[g]? = some (.map ents clock)) := by
  cases m with
  | nilmap => cases hm; cases hx; exact ⟨#[], .nil, .inl ⟨rfl, rfl⟩⟩
  | map b =>
    cases hx with
    | map _ e he =>
      obtain ⟨_, g, ents, clock, rfl, _, h1, h2⟩ := h.mapAt he hm
      exact ⟨ents, h2, .inr ⟨g, clock, rfl, h1⟩⟩
  | _ => cases hm
theorem okV_rel {ok b : Bool} {v : AV} {V : Value} (h : VR P μ v V) : VR P μ (okV ok v b) (if ok = true then .tuple #[V, .bool b] else V) := by
  cases ok with
  | true => exact .tuple [v, .bool b] [V, .bool b] (.cons _ _ _ _ h (.cons _ _ _ _ (.bool b) .nil))
  | false => exact h
theorem op_lookup {t : TypeId} {x k : Operand} {ok : Bool} {r : ARes} (h : SR P N μ σ w) (ha : AR P μ a ca) (hr : dLookup t x k ok P a σ = some r) :
    NR P N μ σ w r ((do pure (.value (← Instr.lookup t (ca.eval x) (ca.eval k) ok)) : Sem Next).run P w) := by
  obtain ⟨m, hm, hr1⟩ := obind_some.1 hr
  obtain ⟨kv, hkv, hr2⟩ := obind_some.1 hr1
  obtain ⟨es, hes, hr3⟩ := obind_some.1 hr2
  obtain ⟨q, hq, hr4⟩ := obind_some.1 hr3
  obtain ⟨hc, hr5⟩ := cnd_none.1 hr4
  obtain ⟨o, ho, hr6⟩ := obind_some.1 hr5
  have hx := ha.eval h hm
  have hk := ha.eval h hkv
  clear hr hr1 hr2 hr3 hr4 hr5
  generalize ca.eval x = X at *
  generalize ca.eval k = K at *
  have hu := mapT_some hq
  obtain ⟨ents, he, hM⟩ := h.entries hx hes
  obtain ⟨d, hd⟩ := chkAt_ty (n := 7) hc
  have hchk := chkAt_run (em := ents.isEmpty) 8 10000 q.1 kv K (by decide) hk hc w
  rcases look_spec (t := q.1) hk he ho with ⟨rfl, hf⟩ | ⟨v, j, m', rfl, hf, hj, hv⟩
  · obtain ⟨z, hz, rfl⟩ := omap_some.1 (show omap (zeroT P q.2) (fun v => ARes.val (okV ok v false) σ) = some r from hr6)
    obtain ⟨zv, hrun, hzv, _⟩ := zeroT_run (μ := μ) hz w
    refine NR.value h ?_ (okV_rel hzv)
    have hfk := hf.run hd w
    unfold Instr.lookup
    rcases hM with ⟨rfl, rfl⟩ | ⟨g, clock, rfl, hg⟩
    · simp only [Sem.run_bind, Sem.run_pure, Result.andThen_ok, run_underlying hu, hchk, hfk, hrun]
    · simp only [Sem.run_bind, Sem.run_pure, Result.andThen_ok, run_underlying hu, MapKept.run_getObj_map hg, hchk, hfk, hrun]
  · cases hr6
    refine NR.value h ?_ (okV_rel hv)
    have hfk := hf.run hd w
    unfold Instr.lookup
    rcases hM with ⟨rfl, rfl⟩ | ⟨g, clock, rfl, hg⟩
    · simp only [Sem.run_bind, Sem.run_pure, Result.andThen_ok, run_underlying hu, hchk, hfk]
    · simp only [Sem.run_bind, Sem.run_pure, Result.andThen_ok, run_underlying hu, MapKept.run_getObj_map hg, hchk, hfk]

/-- A map's block is turned. -/
theorem SR.setMap (h : SR P N μ σ w) {b : Pos} {es es' : List (AV × AV)} {g clock : Nat} {ents : Array MapEntry} (hb : μ b = some ⟨⟨g, 0, none⟩, none⟩) (hk : σ.h.get b = some (.map es)) (hN : N ≤ g) (hg : w.heap[g]? = some (.map ents clock))
    (ents' : Array MapEntry) (clock' : Nat) (he : ER P μ es' ents'.toList) : Goes P N μ σ w μ (σ.put b (.map es')) { w with heap := w.heap.setIfInBounds g (.map ents' clock') } := by
  have hlt : g < w.heap.size := (Array.getElem?_eq_some_iff.1 hg).1
  refine h.turned hb hk rfl hN ⟨rfl, rfl, rfl, by simp, fun k _ hne => ?_⟩ ⟨g, ents', clock', rfl, hN, by simp [hlt], he⟩
  have hne' : k ≠ g := fun e => hne (by rw [e])
  exact Array.getElem?_setIfInBounds_ne (Ne.symm hne')
theorem op_mapUpdate {t : TypeId} {m k x : Operand} {r : ARes} (h : SR P N μ σ w) (ha : AR P μ a ca) (hr : dMapUpdate t m k x P a σ = some r) :
    NR P N μ σ w r ((do Instr.mapUpdate t (ca.eval m) (ca.eval k) (ca.eval x); pure .skip : Sem Next).run P w) := by
  obtain ⟨kv, hkv, hr1⟩ := obind_some.1 hr
  obtain ⟨xv, hxv, hr2⟩ := obind_some.1 hr1
  obtain ⟨mv, hmv, hr3⟩ := obind_some.1 hr2
  have hk := ha.eval h hkv
  have hx := ha.eval h hxv
  have hm := ha.eval h hmv
  clear hr hr1 hr2
  generalize ca.eval m = M at *
  generalize ca.eval k = K at *
  generalize ca.eval x = X at *
  cases mv with
  | map b =>
    obtain ⟨q, hq, hr4⟩ := obind_some.1 hr3
    obtain ⟨hc, hr5⟩ := cnd_none.1 hr4
    obtain ⟨es, hes, hr6⟩ := obind_some.1 hr5
    obtain ⟨es', hes', rfl⟩ := omap_some.1 hr6
    clear hr3 hr4 hr5 hr6
    cases hm with
    | map _ e hb =>
      obtain ⟨hkb, g, ents, clock, rfl, hN, hg, he⟩ := h.mapAt hb hes
      have hu := mapT_some hq
      obtain ⟨d, hd⟩ := chkAt_ty (n := 7) hc
      have hchk := chkAt_run (em := false) 8 10000 q.1 kv K (by decide) hk hc w
      rcases upd_spec (t := q.1) hk hx he hes' with ⟨hf, hE⟩ | ⟨j, m', hf, hj, hbits, hE⟩
      · have hfk := hf.run hd w
        refine ⟨μ, _, ?_, h.setMap hb hkb hN hg (ents.push { key := K, val := X, born := clock }) (clock + 1) (by simpa using hE clock)⟩
        unfold Instr.mapUpdate
        simp only [Sem.run_bind, Sem.run_pure, Result.andThen_ok, run_underlying hu, MapKept.run_getObj_map hg, hchk, hfk, MapKept.run_setObj_map _ hg]
      · have hfk := hf.run hd w
        have hje : ents[j]? = some m' := by simpa using hj
        refine ⟨μ, _, ?_, h.setMap hb hkb hN hg (ents.modify j fun e => { e with key := K, val := X }) clock (by simpa using hE)⟩
        unfold Instr.mapUpdate Instr.keyThatStays
        simp only [Sem.run_bind, Sem.run_pure, Result.andThen_ok, run_underlying hu, MapKept.run_getObj_map hg, hchk, hfk, MapKept.run_setObj_map _ hg, hje, Option.map_some, Option.getD_some, hbits, if_true]
  | _ => cases hr3

/-! ### Iterators over strings -/
theorem op_range {t : TypeId} {x : Operand} {r : ARes} (h : SR P N μ σ w) (ha : AR P μ a ca) (hr : dRange t x P a σ = some r) :
    NR P N μ σ w r ((do pure (.value (← Instr.range t (ca.eval x))) : Sem Next).run P w) := by
  obtain ⟨v, hv, hr1⟩ := obind_some.1 hr
  have hx := ha.eval h hv
  clear hr
  generalize ca.eval x = X at *
  cases v with
  | str l =>
    obtain ⟨ht, hr2⟩ := cnd_none.1 hr1
    cases hr2
    have hu := isStrT_some ht
    cases hx with
    | str _ s hs =>
      have hg : Goes P N μ σ w (upd μ σ.n ⟨⟨w.heap.size, 0, none⟩, none⟩) (σ.push (.siter l 0)) (w.alloc (.stringIter s 0)) :=
        h.laid (World.grownBy_alloc w _ none) (Nat.le_refl _) ⟨w.heap.size, s, rfl, h.hN, heap_alloc_new w _, hs⟩
      refine hg.val (u := .pointer (some ⟨w.heap.size, 0, none⟩)) (by simp [Instr.range, run_underlying hu]) ?_
      have := VR.ptr (P := P) (μ := upd μ σ.n ⟨⟨w.heap.size, 0, none⟩, none⟩) σ.n 0 _ (upd_n _ _ _)
      simpa [add_nil] using this
  | _ => cases hr1
theorem op_next {x : Operand} {str : Bool} {ty : TypeId} {r : ARes} (h : SR P N μ σ w) (ha : AR P μ a ca) (hr : dNext x str P a σ = some r) :
    NR P N μ σ w r ((do pure (.value (← Instr.next (ca.eval x) str ty)) : Sem Next).run P w) := by
  obtain ⟨hs, hr1⟩ := cnd_none.1 hr
  subst hs
  obtain ⟨v, hv, hr2⟩ := obind_some.1 hr1
  have hx := ha.eval h hv
  clear hr hr1
  generalize ca.eval x = X at *
  cases v with
  | ptr b o => cases o with
    | succ o => cases hr2
    | zero =>
      obtain ⟨k, hk, hr3⟩ := obind_some.1 hr2
      cases hx with
      | ptr _ _ e he =>
        obtain ⟨k', hk', hbr⟩ := h.blk b e he
        rw [hk] at hk'
        cases hk'
        cases k with
        | siter l p =>
          obtain ⟨g, bs, rfl, hN, hg, hl⟩ := hbr
          have hgo : (getObj g).run P w = .ok (.stringIter bs p) w := by simp [getObj, Sem.run, hg]
          have hlen : l.length = bs.size := by rw [← hl]; simp
          rw [add_nil]
          unfold nextIn at hr3
          simp only at hr3
          split at hr3
          · rename_i hd
            cases hr3
            have hp : ¬ p < bs.size := by
              have := congrArg List.length hd
              simp at this
              omega
            refine NR.value h (u := .tuple #[.bool false]) ?_ (.tuple _ [_] (.cons _ _ _ _ (.bool false) .nil))
            simp [Instr.next, hgo, hp]
          · rename_i c rest hd
            obtain ⟨hc, hr4⟩ := cnd_none.1 hr3
            cases hr4
            have hc : c ≤ 127 := Nat.le_of_ble_eq_true hc
            have hp : p < bs.size := by
              have := congrArg List.length hd
              simp at this
              omega
            have hcb : (bs[p]'hp).toNat = c := by
              have h1 : l[p]? = some c := by
                have := congrArg (·[0]?) hd
                simpa using this
              rw [← hl] at h1
              simp at h1
              obtain ⟨b', hb', rfl⟩ := h1
              have h2 : bs.data[p]? = some (bs[p]'hp) := by
                rw [Array.getElem?_eq_getElem (by simpa using hp)]; rfl
              rw [h2] at hb'
              cases hb'
              rfl
            have hdec := decode_ascii bs p hp (by omega)
            have hlt : g < w.heap.size := (Array.getElem?_eq_some_iff.1 hg).1
            have hset : (setObj g (.stringIter bs (p + 1))).run P w = .ok () { w with heap := w.heap.setIfInBounds g (.stringIter bs (p + 1)) } := by simp [setObj, Sem.run, hg]
            have hG : Goes P N μ σ w μ (σ.put b (.siter l (p + 1))) { w with heap := w.heap.setIfInBounds g (.stringIter bs (p + 1)) } := by
              refine h.turned he hk rfl hN ⟨rfl, rfl, rfl, by simp, fun k _ hne => ?_⟩ ⟨g, bs, rfl, hN, by simp [hlt], hl⟩
              have hne' : k ≠ g := fun e => hne (by rw [e])
              exact Array.getElem?_setIfInBounds_ne (Ne.symm hne')
            refine hG.val (u := .tuple #[.bool true, .int .i64 (Int.ofNat p), .int .i32 (Int.ofNat c)]) ?_ (.tuple _ [_, _, _] (.cons _ _ _ _ (.bool true) (.cons _ _ _ _ (.int _ _) (.cons _ _ _ _ (.int _ _) .nil))))
            simp only [Instr.next, Sem.run_bind, Sem.run_pure, Result.andThen_ok, hgo, if_pos hp, hdec, hset, hcb]
            rfl
        | _ => cases hr3
  | _ => cases hr2
end
end Go.Proofs.Vai
