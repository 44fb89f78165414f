/- The operations, second part: new rows, stores, and what only computes. -/
import Derived.Test.YthaimknbmaeomaaGreatDoorVaiOpsA
set_option linter.unusedVariables false
set_option linter.unusedSimpArgs false
set_option linter.unusedSectionVars false
namespace Go.Proofs.Vai
open Go Go.RowKit
variable [Env]

section
variable {P : Program} {N : Nat} {μ : Inj} {σ : St} {w : World} {a : AAct} {ca : Act}

theorem grown_refl (w : World) (row : Option Nat) : w.grownBy w row := ⟨rfl, rfl, rfl, Nat.le_refl _, fun _ _ _ => rfl⟩
theorem grown_trans {w w' w'' : World} {row : Option Nat} (h : w.grownBy w' row) (k : w'.grownBy w'' row) : w.grownBy w'' row :=
  ⟨k.os.trans h.os, k.tape.trans h.tape, k.output.trans h.output, Nat.le_trans h.size k.size, fun i hi hne => (k.block i (Nat.lt_of_lt_of_le hi h.size) hne).trans (h.block i hi hne)⟩
theorem add_zero (g j : Nat) : (⟨g, 0, none⟩ : Addr).add j = ⟨g, j, none⟩ := by unfold Addr.add; split <;> simp_all
theorem add_nil (a : Addr) : a.add 0 = a := by simp [Addr.add]

/-- A row of the run's own is laid. -/
theorem SR.row (h : SR P N μ σ w) (t : TypeId) {vs : List AV} {us : Array Value} (hv : VRs P μ vs us.toList) (ho : ones vs = true) :
    Goes P N μ σ w (upd μ σ.n ⟨⟨w.heap.size, 0, none⟩, some (us.size, t)⟩) (σ.row t vs) (w.alloc (.cells us t)) := by
  have hl : vs.length = us.size := by simpa using hv.length
  refine h.laid (World.grownBy_alloc w _ none) (Nat.le_refl _) ⟨w.heap.size, us.size, us, rfl, h.hN, heap_alloc_new w _, rfl, by omega, fun i hi => ?_⟩
  obtain ⟨v, hvi⟩ : ∃ v, vs[i]? = some v := ⟨vs[i], List.getElem?_eq_getElem hi⟩
  obtain ⟨u, hu, hr⟩ := hv.get hvi
  exact ⟨v, u, by rw [Cs.of_get]; exact hvi, by simpa using hu, hr.mono (sub_upd (.inl h.fresh)), ones_get ho hvi⟩
theorem upd_n (μ : Inj) (b : Pos) (e : Ent) : upd μ b e b = some e := upd_same μ b e

/-- Two blocks of μ, one alive and of the run's own: one place, one block. -/
theorem SR.store (h : SR P N μ σ w) {b : Pos} {o : Nat} {vs : List AV} {us : List Value} {e : Ent} {σ' : St} (hb : μ b = some e) (hv : VRs P μ vs us) (hs : σ.store b o vs = some σ') :
    ∃ w', (storeCells (e.a.add o) us 0).run P w = .ok () w' ∧ Goes P N μ σ w μ σ' w' := by
  obtain ⟨ho, hs⟩ := cnd_none.1 hs
  obtain ⟨k, hk, hs⟩ := obind_some.1 hs
  obtain ⟨k', hk', hbr⟩ := h.blk b e hb
  rw [hk] at hk'
  cases hk'
  cases k with
  | cells own t len c =>
    obtain ⟨how, hs⟩ := cnd_none.1 (show cnd own (cnd (Nat.ble (Nat.add o vs.length) len) (some (σ.put b (.cells true t len (c.over o vs)))) none) none = some σ' from hs)
    subst how
    obtain ⟨hle, hs⟩ := cnd_none.1 hs
    have hle : o + vs.length ≤ len := Nat.le_of_ble_eq_true hle
    cases hs
    obtain ⟨g, sz, cur, rfl, hN, h1, h2, h3, h4⟩ := hbr
    have hlu : vs.length = us.length := hv.length
    -- the stores, one by one
    have key : ∀ (us : List Value) (i : Nat) (cur : Array Value) (w : World), w.heap[g]? = some (.cells cur t (0, 0)) → (∀ u ∈ us, u.oneCell' = true) → o + i + us.length ≤ cur.size →
        ∃ w' cur', (storeCells ((⟨g, 0, none⟩ : Addr).add o) us i).run P w = .ok () w' ∧ w.grownBy w' (some g) ∧ w'.heap[g]? = some (.cells cur' t (0, 0)) ∧ cur'.size = cur.size ∧
          ∀ j, cur'[j]? = if o + i ≤ j ∧ j < o + i + us.length then us[j - (o + i)]? else cur[j]? := by
      intro us
      induction us with
      | nil => intro i cur w hg _ _; exact ⟨w, cur, rfl, grown_refl w _, hg, rfl, fun j => by rw [if_neg (by simp)]⟩
      | cons u us ih =>
        intro i cur w hg h1 hl
        simp only [List.length_cons] at hl
        have ha : ((⟨g, 0, none⟩ : Addr).add o).add i = ⟨g, o + i, none⟩ := by rw [add_add, add_zero]
        have hcell : ∃ x, w.cell? ⟨g, o + i, none⟩ = some x := ⟨cur[o + i]'(by omega), by simp [World.cell?, hg, Array.getElem?_eq_getElem (show o + i < cur.size by omega)]⟩
        obtain ⟨x, hx⟩ := hcell
        have hfz : w.frozen? ⟨g, o + i, none⟩ = false := by simp [World.frozen?, hg]
        have hst : (Go.store (((⟨g, 0, none⟩ : Addr).add o).add i) u).run P w = .ok () (w.setCell ⟨g, o + i, none⟩ u) := by
          rw [ha, run_store P w _ u _ (h1 u (List.mem_cons_self ..)), hx]
          simp [hfz]
        have hlt : g < w.heap.size := (Array.getElem?_eq_some_iff.1 hg).1
        have hg' : (w.setCell ⟨g, o + i, none⟩ u).heap[g]? = some (.cells (cur.setIfInBounds (o + i) u) t (0, 0)) := by
          simp [World.setCell, Array.getElem?_modify, hg]
        obtain ⟨w', cur', r1, r2, r3, r4, r5⟩ := ih (i + 1) _ _ hg' (fun u hu => h1 u (List.mem_cons_of_mem _ hu)) (by simp; omega)
        have hgr : w.grownBy (w.setCell ⟨g, o + i, none⟩ u) (some g) := ⟨rfl, rfl, rfl, by simp [World.setCell], fun k hk hne => by
          simp only [World.setCell, Array.getElem?_modify]
          rw [if_neg (fun e => hne (by rw [e]))]⟩
        refine ⟨w', cur', by simp only [storeCells, Sem.run_bind, hst, Result.andThen_ok, r1], grown_trans hgr r2, r3, by simpa using r4, fun j => ?_⟩
        rw [r5 j]
        simp only [List.length_cons]
        by_cases hj : j = o + i
        · subst hj
          rw [if_neg (by omega), if_pos (by omega)]
          simp [show o + i < cur.size by omega]
        · by_cases hj2 : o + (i + 1) ≤ j ∧ j < o + (i + 1) + us.length
          · rw [if_pos hj2, if_pos (by omega), show j - (o + i) = (j - (o + (i + 1))) + 1 from by omega]
            rfl
          · rw [if_neg hj2, if_neg (by omega), Array.getElem?_setIfInBounds_ne (fun e => hj e.symm)]
    have hone : ∀ u ∈ us, u.oneCell' = true := fun u hu => by
      obtain ⟨i, hi, hui⟩ := List.getElem_of_mem hu
      have hvi : vs[i]? = some (vs[i]'(by omega)) := List.getElem?_eq_getElem (by omega)
      obtain ⟨u', hu', hr⟩ := hv.get hvi
      rw [List.getElem?_eq_getElem hi, hui] at hu'
      cases hu'
      exact hr.one (ones_get ho hvi)
    obtain ⟨w', cur', r1, r2, r3, r4, r5⟩ := key us 0 cur w h1 hone (by omega)
    refine ⟨w', r1, h.turned hb hk rfl hN r2 ⟨g, sz, cur', rfl, hN, r3, by omega, h3, fun i hi => ?_⟩⟩
    show ∃ av v, (c.over o vs).get i = some av ∧ cur'[i]? = some v ∧ VR P μ av v ∧ av.one = true
    rw [Cs.over_get hle h4.isSome i hi, r5 i]
    simp only [Nat.add_zero]
    rw [← hlu]
    by_cases hj : o ≤ i ∧ i < o + vs.length
    · rw [if_pos hj, if_pos hj]
      have hvi : vs[i - o]? = some (vs[i - o]'(by omega)) := List.getElem?_eq_getElem (by omega)
      obtain ⟨u, hu, hr⟩ := hv.get hvi
      exact ⟨_, u, hvi, hu, hr, ones_get ho hvi⟩
    · rw [if_neg hj, if_neg hj]
      exact h4 i hi
  | map _ => cases hs
  | siter _ _ => cases hs
  | loop _ => cases hs
  | deferred _ => cases hs
  | dead => cases hs

theorem NR.value {v : AV} {u : Value} {res : Result Next} (h : SR P N μ σ w) (hr : res = .ok (.value u) w) (hv : VR P μ v u) : NR P N μ σ w (.val v σ) res := ⟨μ, u, w, hr, h.stay, hv⟩

theorem map_eval (a : Act) (l : Array Operand) : (l.map a.eval).toList = l.toList.map a.eval := Array.toList_map ..
theorem arr_eq {l : Array Operand} (a : Act) : l.map a.eval = (l.toList.map a.eval).toArray := by apply Array.ext'; simp

/-! ### Operation by operation -/
theorem op_move {x : Operand} {r : ARes} (h : SR P N μ σ w) (ha : AR P μ a ca) (hr : dMove x P a σ = some r) : NR P N μ σ w r ((pure (.value (ca.eval x)) : Sem Next).run P w) := by
  obtain ⟨v, hv, rfl⟩ := omap_some.1 hr
  exact NR.value h rfl (ha.eval h hv)
theorem op_pick {c x y : Operand} {r : ARes} (h : SR P N μ σ w) (ha : AR P μ a ca) (hr : dPick c x y P a σ = some r) :
    NR P N μ σ w r ((do pure (.value (if ← asBool (ca.eval c) then ca.eval x else ca.eval y)) : Sem Next).run P w) := by
  obtain ⟨v, hv, hr⟩ := obind_some.1 hr
  have hc := ha.eval h hv
  cases v <;> first | (cases hr; done) | skip
  rename_i b
  generalize hcv : ca.eval c = cv at *
  cases hc
  obtain ⟨u, hu, rfl⟩ := omap_some.1 (show omap (cnd b (a.eval P x) (a.eval P y)) (fun v => ARes.val v σ) = some r from hr)
  cases b with
  | true => exact NR.value h (by simp [asBool]) (ha.eval h hu)
  | false => exact NR.value h (by simp [asBool]) (ha.eval h hu)
theorem op_alloc {t : TypeId} {r : ARes} (h : SR P N μ σ w) (hr : dAlloc t P a σ = some r) :
    NR P N μ σ w r ((do pure (.value (← Instr.alloc t true (.tuple #[]))) : Sem Next).run P w) := by
  obtain ⟨z, hz, hr⟩ := obind_some.1 hr
  obtain ⟨ho, hr⟩ := cnd_none.1 hr
  cases hr
  obtain ⟨zv, hrun, hzv, _⟩ := zeroT_run (μ := μ) hz w
  have hg := h.row t (hzv.cells (ones_cells_ne ho)) ho
  refine ⟨_, .pointer (some ⟨w.heap.size, 0, none⟩), _, ?_, hg, ?_⟩
  · simp [Instr.alloc, hrun, newVar, newRow]
  · have := VR.ptr (P := P) (μ := upd μ σ.n ⟨⟨w.heap.size, 0, none⟩, some (zv.cells.size, t)⟩) σ.n 0 _ (upd_n _ _ _)
    simpa [add_nil] using this
theorem op_box {t : TypeId} {x : Operand} {r : ARes} (h : SR P N μ σ w) (ha : AR P μ a ca) (hr : dBox t x P a σ = some r) :
    NR P N μ σ w r ((do pure (.value (← Instr.box t (ca.eval x))) : Sem Next).run P w) := by
  obtain ⟨v, hv, hr⟩ := obind_some.1 hr
  obtain ⟨ho, hr⟩ := cnd_none.1 hr
  cases hr
  have hvv := ha.eval h hv
  have hg := h.row t (hvv.cells (ones_cells_ne ho)) ho
  refine ⟨_, .pointer (some ⟨w.heap.size, 0, none⟩), _, ?_, hg, ?_⟩
  · simp [Instr.box, newVar, newRow]
  · have := VR.ptr (P := P) (μ := upd μ σ.n ⟨⟨w.heap.size, 0, none⟩, some ((ca.eval x).cells.size, t)⟩) σ.n 0 _ (upd_n _ _ _)
    simpa [add_nil] using this
theorem op_load {t : TypeId} {x : Operand} {r : ARes} (h : SR P N μ σ w) (ha : AR P μ a ca) (hr : dLoad t x P a σ = some r) :
    NR P N μ σ w r ((do pure (.value (← Instr.loadAt t (ca.eval x))) : Sem Next).run P w) := by
  obtain ⟨v, hv, hr⟩ := obind_some.1 hr
  have hx := ha.eval h hv
  generalize hcv : ca.eval x = cv at *
  cases v <;> first | (cases hr; done) | skip
  rename_i b o
  obtain ⟨u, hu, rfl⟩ := omap_some.1 (show omap (σ.load P t b o) (fun v => ARes.val v σ) = some r from hr)
  cases hx with
  | ptr _ _ e he =>
    obtain ⟨cu, hrun, hcu, _⟩ := h.load he hu
    exact NR.value h (by simp [Instr.loadAt, Instr.sureAddr, hrun]) hcu
theorem op_store {t : TypeId} {x y : Operand} {r : ARes} (h : SR P N μ σ w) (ha : AR P μ a ca) (hr : dStore t x y P a σ = some r) :
    NR P N μ σ w r ((do Instr.storeAt t (ca.eval x) (ca.eval y); pure .skip : Sem Next).run P w) := by
  obtain ⟨v, hv, hr⟩ := obind_some.1 hr
  obtain ⟨p, hp, hr⟩ := obind_some.1 hr
  have hvv := ha.eval h hv
  have hpp := ha.eval h hp
  generalize hcv : ca.eval x = cv at *
  cases p <;> first | (cases hr; done) | skip
  rename_i b o
  obtain ⟨n, hn, hr⟩ := obind_some.1 (show obind (sizeT P t) (fun n => cnd (Nat.beq v.cells.length n) (omap (σ.store b o v.cells) .skip) none) = some r from hr)
  obtain ⟨hl, hr⟩ := cnd_none.1 hr
  obtain ⟨σ', hst, rfl⟩ := omap_some.1 hr
  have hl : v.cells.length = n := Nat.eq_of_beq_eq_true hl
  cases hpp with
  | ptr _ _ e he =>
    have ho : ones v.cells = true := (cnd_none.1 hst).1
    have hcells := hvv.cells (ones_cells_ne ho)
    obtain ⟨w', hrun, hg⟩ := h.store he hcells hst
    refine ⟨μ, w', ?_, hg⟩
    have hsz : (ca.eval y).cells.size = n := by rw [← hl]; simpa using hcells.length.symm
    simp [Instr.storeAt, Instr.sureAddr, storeVar, sizeT_run hn, hsz, hrun]
theorem op_nilCheck {x : Operand} {r : ARes} (h : SR P N μ σ w) (ha : AR P μ a ca) (o : Oper) (ho : o.op = .nilCheck x) (hr : dNilCheck x P a σ = some r) :
    NR P N μ σ w r ((execOp ca.eval o).run P w) := by
  obtain ⟨v, hv, hr⟩ := obind_some.1 hr
  have hx := ha.eval h hv
  unfold execOp
  simp only [ho]
  generalize hcv : ca.eval x = cv at *
  cases v with
  | ptr b o => cases hr; cases hx with | ptr _ _ e he => exact NR.value h rfl (.ptr b o e he)
  | func f b c => cases hr; cases hx with | func _ _ _ F C h1 h2 => exact NR.value h rfl (.func f b c F C h1 h2)
  | yield b => cases hr; cases hx with | yield _ e he => exact NR.value h rfl (.yield b e he)
  | _ => cases hr
theorem op_iface {t : TypeId} {x : Operand} {r : ARes} (h : SR P N μ σ w) (ha : AR P μ a ca) (hr : dIface t x P a σ = some r) :
    NR P N μ σ w r ((do pure (.value (← Instr.makeInterface t (ca.eval x))) : Sem Next).run P w) := by
  obtain ⟨hi, hr⟩ := cnd_none'.1 hr
  obtain ⟨v, hv, rfl⟩ := omap_some.1 hr
  obtain ⟨d, hd, hn⟩ := isIfaceT_no hi
  refine NR.value h ?_ (.iface t v _ (ha.eval h hv))
  unfold Instr.makeInterface
  simp only [Sem.run_bind, run_underlying hd, Result.andThen_ok]
  cases d <;> first | rfl | exact absurd rfl (hn _)
theorem op_func {fn : Fn} {first cap : Array Operand} {r : ARes} (h : SR P N μ σ w) (ha : AR P μ a ca) (hr : dFunc fn first cap P a σ = some r) :
    NR P N μ σ w r ((do pure (.value (← Instr.makeFunc fn (first.map ca.eval) (cap.map ca.eval))) : Sem Next).run P w) := by
  cases fn <;> first | (cases hr; done) | skip
  rename_i f
  obtain ⟨b, hb, hr⟩ := obind_some.1 hr
  obtain ⟨c, hc, rfl⟩ := omap_some.1 hr
  refine NR.value h (by simp [Instr.makeFunc, arr_eq ca]) (.func f b c _ _ (ha.evals h hb) (ha.evals h hc))
theorem op_extract {x : Operand} {i : Nat} {r : ARes} (h : SR P N μ σ w) (ha : AR P μ a ca) (hr : dExtract x i P a σ = some r) :
    NR P N μ σ w r ((do pure (.value (← Instr.extract (ca.eval x) i)) : Sem Next).run P w) := by
  obtain ⟨v, hv, hr⟩ := obind_some.1 hr
  have hx := ha.eval h hv
  generalize hcv : ca.eval x = cv at *
  cases v <;> first | (cases hr; done) | skip
  rename_i vs
  obtain ⟨u, hu, rfl⟩ := omap_some.1 (show omap (nth vs i) (fun v => ARes.val v σ) = some r from hr)
  rw [nth_eq] at hu
  cases hx with
  | tuple _ C hC =>
    obtain ⟨cu, hcu, hvr⟩ := hC.get hu
    exact NR.value h (by simp [Instr.extract, hcu]) hvr
/-- A part of a value in cells. -/
theorem partA_run {t : TypeId} {cs : List AV} {C : List Value} {off : Nat} {v : AV} (hC : VRs P μ cs C) (ho : ones cs = true) (hp : partA P t cs off = some v) :
    ∃ u, (part t C.toArray off).run P w = .ok u w ∧ VR P μ v u := by
  obtain ⟨g, hg, hp⟩ := obind_some.1 hp
  cases g with
  | true =>
    obtain ⟨n, hn, hp⟩ := obind_some.1 (show obind (sizeT P t) (fun n => cnd (Nat.ble (Nat.add off n) cs.length) (some (AV.agg (takeL (dropL cs off) n))) none) = some v from hp)
    obtain ⟨hle, hp⟩ := cnd_none.1 hp
    cases hp
    rw [takeL_eq, dropL_eq]
    refine ⟨.agg ((C.drop off).take n).toArray, ?_, .agg _ _ ((hC.drop off).take n) (ones_take (ones_drop ho off) n)⟩
    simp only [part, Sem.run_bind, aggT_run hg, Result.andThen_ok, if_true, sizeT_run hn, Sem.run_pure]
    congr 2
    apply Array.ext'
    simp [List.extract_eq_take_drop]
  | false =>
    have hp : cs[off]? = some v := by rw [← nth_eq]; exact hp
    obtain ⟨u, hu, hv⟩ := hC.get hp
    refine ⟨u, ?_, hv⟩
    simp [part, aggT_run hg, hu]
theorem op_field {t : TypeId} {x : Operand} {f : Nat} {r : ARes} (h : SR P N μ σ w) (ha : AR P μ a ca) (hr : dField t x f P a σ = some r) :
    NR P N μ σ w r ((do pure (.value (← Instr.field t (ca.eval x) f)) : Sem Next).run P w) := by
  obtain ⟨v, hv, hr⟩ := obind_some.1 hr
  have hx := ha.eval h hv
  generalize hcv : ca.eval x = cv at *
  cases v <;> first | (cases hr; done) | skip
  rename_i cs
  obtain ⟨fd, hfd, hr⟩ := obind_some.1 (show obind (fieldT P t f) (fun f => omap (partA P f.type cs f.offset) fun v => ARes.val v σ) = some r from hr)
  obtain ⟨u, hu, rfl⟩ := omap_some.1 hr
  obtain ⟨fs, h1, h2⟩ := fieldT_some hfd
  cases hx with
  | agg _ C hC ho =>
    obtain ⟨cu, hrun, hvr⟩ := partA_run (w := w) hC ho hu
    exact NR.value h (by simp [Instr.field, run_underlying h1, h2, asAgg, hrun]) hvr
theorem op_fieldAddr {t : TypeId} {x : Operand} {f : Nat} {r : ARes} (h : SR P N μ σ w) (ha : AR P μ a ca) (hr : dFieldAddr t x f P a σ = some r) :
    NR P N μ σ w r ((do pure (.value (← Instr.fieldAt t (ca.eval x) f)) : Sem Next).run P w) := by
  obtain ⟨v, hv, hr⟩ := obind_some.1 hr
  have hx := ha.eval h hv
  generalize hcv : ca.eval x = cv at *
  cases v <;> first | (cases hr; done) | skip
  rename_i b o
  obtain ⟨fd, hfd, hr⟩ := obind_some.1 (show obind (fieldT P t f) (fun f => obind (sizeT P f.type) fun z => cnd (Nat.beq z 0) none (some (ARes.val (.ptr b (Nat.add o f.offset)) σ))) = some r from hr)
  obtain ⟨z, hz, hr⟩ := obind_some.1 hr
  obtain ⟨hz0, hr⟩ := cnd_none'.1 hr
  cases hr
  obtain ⟨fs, h1, h2⟩ := fieldT_some hfd
  have hz0 : z ≠ 0 := fun e => by subst e; cases hz0
  cases hx with
  | ptr _ _ e he =>
    refine NR.value h ?_ (.ptr b (o + fd.offset) e he)
    simp [Instr.fieldAt, run_underlying h1, h2, Instr.sureAddr, fieldPlace, sizeT_run hz, hz0, add_add]
theorem op_indexAddr {t : TypeId} {x i : Operand} {r : ARes} (h : SR P N μ σ w) (ha : AR P μ a ca) (hr : dIndexAddr t x i P a σ = some r) :
    NR P N μ σ w r ((do pure (.value (← Instr.indexAt t (ca.eval x) (ca.eval i))) : Sem Next).run P w) := by
  obtain ⟨v, hv, hr⟩ := obind_some.1 hr
  obtain ⟨j, hj, hr⟩ := obind_some.1 hr
  have hx := ha.eval h hv
  have hi := ha.eval h hj
  generalize hcv : ca.eval x = cv at *
  generalize hci : ca.eval i = ci at *
  cases j <;> first | (cases hr; done) | skip
  rename_i k n
  cases n with
  | negSucc n => cases hr
  | ofNat n =>
  cases hi
  unfold oIndexAddr at hr
  simp only at hr
  split at hr
  · rename_i e hu
    cases v with
    | slice b o m lim wh =>
      obtain ⟨hlt, hr⟩ := cnd_none.1 (show cnd (Nat.ble (Nat.succ n) m) (omap (sizeT P e) fun z => ARes.val (.ptr b (Nat.add o (Nat.mul n z))) σ) none = some r from hr)
      obtain ⟨z, hz, rfl⟩ := omap_some.1 hr
      have hlt : n < m := Nat.le_of_ble_eq_true hlt
      cases hx with
      | slice _ _ _ _ _ en ad c he had hn hm hl hc =>
        obtain rfl : ad = en.a.add o := had.elim id (fun h => by omega)
        refine NR.value h ?_ (.ptr b (o + n * z) en he)
        have h1 : (0 : Int) ≤ (n : Int) ∧ (n : Int) < (m : Int) := by omega
        simp only [Instr.indexAt, asIntOf, Sem.run_bind, Sem.run_pure, Result.andThen_ok, run_underlying hu, Int.ofNat_eq_natCast, if_pos h1, sizeT_run hz, Int.toNat_natCast, add_add]
    | _ => cases hr
  · rename_i m e hu
    cases v with
    | ptr b o =>
      obtain ⟨hlt, hr⟩ := cnd_none.1 (show cnd (Nat.ble (Nat.succ n) m) (omap (sizeT P e) fun z => ARes.val (.ptr b (Nat.add o (Nat.mul n z))) σ) none = some r from hr)
      obtain ⟨z, hz, rfl⟩ := omap_some.1 hr
      have hlt : n < m := Nat.le_of_ble_eq_true hlt
      cases hx with
      | ptr _ _ en he =>
        refine NR.value h ?_ (.ptr b (o + n * z) en he)
        have h1 : (0 : Int) ≤ (n : Int) ∧ (n : Int) < (m : Int) := by omega
        simp only [Instr.indexAt, asIntOf, Sem.run_bind, Sem.run_pure, Result.andThen_ok, run_underlying hu, Instr.sureAddr, Int.ofNat_eq_natCast, if_pos h1, sizeT_run hz, Int.toNat_natCast, add_add]
    | _ => cases hr
  · cases hr
theorem op_index {t : TypeId} {x i : Operand} {r : ARes} (h : SR P N μ σ w) (ha : AR P μ a ca) (hr : dIndex t x i P a σ = some r) :
    NR P N μ σ w r ((do pure (.value (← Instr.index t (ca.eval x) (ca.eval i))) : Sem Next).run P w) := by
  obtain ⟨v, hv, hr⟩ := obind_some.1 hr
  obtain ⟨j, hj, hr⟩ := obind_some.1 hr
  have hx := ha.eval h hv
  have hi := ha.eval h hj
  generalize hcv : ca.eval x = cv at *
  generalize hci : ca.eval i = ci at *
  cases j <;> first | (cases hr; done) | skip
  rename_i k n
  cases n with
  | negSucc n => cases hr
  | ofNat n =>
  cases hi
  unfold oIndex at hr
  simp only at hr
  split at hr
  · rename_i m e hu
    cases v with
    | agg cs =>
      obtain ⟨hlt, hr⟩ := cnd_none.1 (show cnd (Nat.ble (Nat.succ n) m) (obind (sizeT P e) fun z => omap (partA P e cs (Nat.mul n z)) fun v => ARes.val v σ) none = some r from hr)
      obtain ⟨z, hz, hr⟩ := obind_some.1 hr
      obtain ⟨u, hu2, rfl⟩ := omap_some.1 hr
      have hlt : n < m := Nat.le_of_ble_eq_true hlt
      cases hx with
      | agg _ C hC ho =>
        obtain ⟨cu, hrun, hvr⟩ := partA_run (w := w) hC ho hu2
        refine NR.value h ?_ hvr
        have h1 : (0 : Int) ≤ (n : Int) ∧ (n : Int) < (m : Int) := by omega
        have hrun : (part e C.toArray (n * z)).run P w = .ok cu w := hrun
        simp only [Instr.index, asIntOf, Sem.run_bind, Sem.run_pure, Result.andThen_ok, run_underlying hu, Int.ofNat_eq_natCast, if_pos h1, sizeT_run hz, Int.toNat_natCast, hrun]
    | _ => cases hr
  · rename_i hu
    cases v with
    | str l =>
      obtain ⟨c, hc, rfl⟩ := omap_some.1 (show omap (l[n]?) (fun c => ARes.val (.int .u8 (Int.ofNat c)) σ) = some r from hr)
      cases hx with
      | str _ s hs =>
        refine NR.value h ?_ (.int .u8 (Int.ofNat c))
        subst hs
        rw [List.getElem?_map] at hc
        obtain ⟨b, hb, rfl⟩ := Option.map_eq_some_iff.1 hc
        have hb' : s[n]? = some b := by
          have hlt : n < s.data.toList.length := (List.getElem?_eq_some_iff.1 hb).1
          have hlt' : n < s.size := by simpa using hlt
          rw [getElem?_pos s n hlt']
          rw [List.getElem?_eq_getElem hlt] at hb
          rw [← Option.some.inj hb]
          rfl
        simp only [Instr.index, asIntOf, Sem.run_bind, Sem.run_pure, Result.andThen_ok, run_underlying hu, Int.ofNat_eq_natCast, Int.toNat_natCast, Int.natCast_nonneg, if_true, hb']
    | _ => cases hr
  · cases hr
end

end Go.Proofs.Vai
