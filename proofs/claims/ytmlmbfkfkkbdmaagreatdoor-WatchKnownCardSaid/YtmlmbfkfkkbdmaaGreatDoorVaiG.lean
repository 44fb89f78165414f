/- The verified interpreter, part G. -/
import Derived.Test.YtmlmbfkfkkbdmaaGreatDoorVaiF
import Derived.ProofKit
import Derived.OpenShut
import Derived.LaidMore
import Derived.Lay
import Derived.SevenTiedAt
import Derived.Stop.Joined
import Derived.Lib.LaidTab
import Derived.Carry
set_option linter.unusedVariables false
set_option linter.unusedSimpArgs false
set_option linter.unusedSectionVars false
/- A law without parameters that the interpreter answers: how its call runs, and its row. -/
namespace Go.Proofs.Vai
open Go Go.RowKit Go.ChangeShapes Go.WideShapes Go.ChangeAt

/-- What a variable's block holds, as the interpreter takes it. -/
def holdsB (w : World) (g : Nat) (blk : ABlk) : Prop :=
  ∃ t len c, blk = .cells false t len c ∧ ∀ i, i < len → ∃ av v, c.get i = some av ∧ w.cell? ⟨g, i, none⟩ = some v ∧ av.one = true ∧ toAV v = some av
/-- What is known of the world: what the listed variables hold. -/
def baseW (bs : List ABlk) (w : World) : Prop := bs.length ≤ w.heap.size ∧ ∀ g blk, bs[g]? = some blk → holdsB w g blk
theorem baseW_keep (bs : List ABlk) {w w' : World} (hz : w.heap.size ≤ w'.heap.size) (hk : ∀ k, k < bs.length → w'.heap[k]? = w.heap[k]?) (h : baseW bs w) : baseW bs w' := by
  refine ⟨Nat.le_trans h.1 hz, fun g blk hg => ?_⟩
  obtain ⟨t, len, c, e, hc⟩ := h.2 g blk hg
  refine ⟨t, len, c, e, fun i hi => ?_⟩
  obtain ⟨av, v, h1, h2, h3, h4⟩ := hc i hi
  refine ⟨av, v, h1, ?_, h3, h4⟩
  rw [← h2]
  exact cell_same0 (hk g (List.getElem?_eq_some_iff.1 hg).1)
where
  cell_same0 {w w' : World} {a : Addr} (h : w'.heap[a.block]? = w.heap[a.block]?) : w'.cell? a = w.cell? a := by unfold World.cell?; rw [h]
/-- The unknown values, and what is known of the world. -/
@[reducible] def envOf (val : Nat → Value) (h1 : ∀ i, (val i).oneCell' = true) (h2 : ∀ i, (val i).cells = #[val i]) (bs : List ABlk) : Env :=
  ⟨val, h1, h2, bs.length, baseW bs, fun _ _ hz hk h => baseW_keep bs hz hk h⟩
/-- No unknown value. -/
@[reducible] def envUnit (bs : List ABlk) : Env := envOf (fun _ => .bool true) (fun _ => rfl) (fun _ => rfl) bs

section
variable [Env]
theorem setTrB_get : ∀ (bs : List ABlk) (t : Tr ABlk) (n : Nat) (x : Pos), (setTrB bs n t).get x = if n ≤ x.toNat ∧ x.toNat < n + bs.length then bs[x.toNat - n]? else t.get x
  | [], t, n, x => by
    rw [if_neg (by simp only [List.length_nil]; omega)]
    rfl
  | b :: bs, t, n, x => by
    show (setTrB bs (n + 1) (t.set (pos n) b)).get x = _
    rw [setTrB_get bs, get_set]
    by_cases h : n + 1 ≤ x.toNat ∧ x.toNat < n + 1 + bs.length
    · rw [if_pos h, if_pos (by simp only [List.length_cons]; omega), show x.toNat - n = (x.toNat - (n + 1)) + 1 from by omega]
      rfl
    · rw [if_neg h]
      by_cases hx : pos n = x
      · subst hx
        rw [if_pos rfl, if_pos (by rw [pos_toNat]; simp only [List.length_cons]; omega), pos_toNat, Nat.sub_self]
        rfl
      · have : x.toNat ≠ n := fun e => hx (by rw [← e, pos_of])
        rw [if_neg hx, if_neg (by simp only [List.length_cons]; omega)]
/-- The variables lie where they lie. -/
def globI (P : Program) : Inj := fun b => if b.toNat < P.globals.size then some ⟨⟨b.toNat, 0, none⟩, none⟩ else none
theorem globI_some {P : Program} {b : Pos} {e : Ent} (h : globI P b = some e) : b.toNat < P.globals.size ∧ e = ⟨⟨b.toNat, 0, none⟩, none⟩ := by
  unfold globI at h
  split at h
  · rename_i hl; cases h; exact ⟨hl, rfl⟩
  · cases h
end

section
variable [Env] {P : Program} {w : World}
/-- The program's variables are those that are known of. -/
def BaseOK (P : Program) (bs : List ABlk) : Prop := Env.n = bs.length ∧ bs.length = P.globals.size ∧ ∀ w, Env.base w → baseW bs w
/-- The variables, and rows of one's own beside them, wherever these lie. -/
def rowI (P : Program) (es : List Ent) : Inj := fun b => if b.toNat < P.globals.size then some ⟨⟨b.toNat, 0, none⟩, none⟩ else es[b.toNat - P.globals.size]?
theorem start_rows {bs rows : List ABlk} {es : List Ent} (hB : BaseOK P bs) (h : Env.base w) (hlen : es.length = rows.length) (hr : ∀ (i : Nat) (e : Ent) (blk : ABlk), es[i]? = some e → rows[i]? = some blk → BR P w.heap.size (rowI P es) w blk e ∧ e.a.block < w.heap.size) :
    SR P w.heap.size (rowI P es) (vstart (bs ++ rows)) w := by
  obtain ⟨hn0, hn, hb⟩ := hB
  obtain ⟨hsz, hb⟩ := hb w h
  have hcase : ∀ b e, rowI P es b = some e → (b.toNat < P.globals.size ∧ e = ⟨⟨b.toNat, 0, none⟩, none⟩) ∨ (P.globals.size ≤ b.toNat ∧ es[b.toNat - P.globals.size]? = some e) := by
    intro b e he
    unfold rowI at he
    split at he
    · rename_i hl; cases he; exact .inl ⟨hl, rfl⟩
    · exact .inr ⟨by omega, he⟩
  have hlt : ∀ b e, rowI P es b = some e → b.toNat < (bs ++ rows).length ∧ e.a.block < w.heap.size := by
    intro b e he
    rw [List.length_append]
    rcases hcase b e he with ⟨hl, rfl⟩ | ⟨hl, he⟩
    · exact ⟨by omega, by show b.toNat < w.heap.size; omega⟩
    · have hi := (List.getElem?_eq_some_iff.1 he).1
      obtain ⟨blk, hblk⟩ : ∃ blk, rows[b.toNat - P.globals.size]? = some blk := ⟨_, List.getElem?_eq_getElem (by omega)⟩
      exact ⟨by omega, (hr _ e blk he hblk).2⟩
  refine ⟨fun b e he => ?_, fun b b' e e' k k' he he' _ _ _ _ hN _ => ?_, fun b e he => ?_, Nat.le_refl _, fun g hg => ?_, by omega, h⟩
  · have hl' := (hlt b e he).1
    have hget : (vstart (bs ++ rows)).h.get b = (bs ++ rows)[b.toNat]? := by
      show (setTrB (bs ++ rows) 0 .nil).get b = _
      rw [setTrB_get, if_pos (by omega), Nat.sub_zero]
    rcases hcase b e he with ⟨hl, rfl⟩ | ⟨hl, he2⟩
    · have hlb : b.toNat < bs.length := by omega
      have hg2 : bs[b.toNat]? = some bs[b.toNat] := List.getElem?_eq_getElem hlb
      refine ⟨bs[b.toNat], by rw [hget, List.getElem?_append_left hlb, hg2], ?_⟩
      obtain ⟨t, len, c, hc, hcells⟩ := hb _ _ hg2
      rw [hc]
      refine ⟨rfl, Nat.lt_of_lt_of_le hlb hsz, fun i hi => ?_⟩
      obtain ⟨av, v, h1, h2, h3, h4⟩ := hcells i hi
      refine ⟨av, v, h1, ?_, toAV_sound v av h4, h3⟩
      rw [← h2]
      show w.cell? (Addr.add ⟨b.toNat, 0, none⟩ i) = _
      by_cases hi0 : i = 0
      · subst hi0; simp [Addr.add]
      · simp [Addr.add, hi0]
    · have hi := (List.getElem?_eq_some_iff.1 he2).1
      obtain ⟨blk, hblk⟩ : ∃ blk, rows[b.toNat - P.globals.size]? = some blk := ⟨_, List.getElem?_eq_getElem (by omega)⟩
      refine ⟨blk, ?_, (hr _ e blk he2 hblk).1⟩
      rw [hget, List.getElem?_append_right (by omega), hn]
      exact hblk
  · have := (hlt b e he).2
    omega
  · show b.toNat < (pos (bs ++ rows).length).toNat
    rw [pos_toNat]
    exact (hlt b e he).1
  · unfold rowI
    rw [pos_toNat, if_pos hg]
theorem rowI_nil : rowI P [] = globI P := by
  funext b
  unfold rowI globI
  split <;> rfl
theorem start_sr {bs : List ABlk} (hB : BaseOK P bs) (h : Env.base w) : SR P w.heap.size (globI P) (vstart bs) w := by
  have := start_rows (rows := []) (es := []) hB h rfl (fun i e blk he => by simp at he)
  rwa [rowI_nil, List.append_nil] at this

/-! ### Values without places -/
noncomputable def flatN (n : Nat) : AV → Bool := @Nat.rec (fun _ => AV → Bool) (fun _ => false) (fun _ ih v =>
  match v with
  | .bool _ => true
  | .int _ _ => true
  | .float _ _ => true
  | .str _ => true
  | .nilptr => true
  | .nilslice => true
  | .nilmap => true
  | .nilfunc => true
  | .niliface => true
  | .sym _ => true
  | .iface _ v => ih v
  | .agg cs => cs.all ih
  | .tuple cs => cs.all ih
  | _ => false) n
theorem VRs.flat {μ μ' : Inj} {f : AV → Bool} (hf : ∀ v u, f v = true → VR P μ v u → VR P μ' v u) : ∀ {vs : List AV} {us : List Value}, vs.all f = true → VRs P μ vs us → VRs P μ' vs us
  | [], _, _, h => by cases h; exact .nil
  | v :: vs, _, ha, h => by
    rw [List.all_cons, Bool.and_eq_true] at ha
    cases h with
    | cons _ u _ us h1 h2 => exact .cons v u vs us (hf v u ha.1 h1) (VRs.flat hf ha.2 h2)
theorem VR.flat {μ μ' : Inj} : ∀ (n : Nat) (v : AV) (u : Value), flatN n v = true → VR P μ v u → VR P μ' v u := by
  intro n
  induction n with
  | zero => intro v u h; cases h
  | succ n ih =>
    intro v u h hv
    cases hv <;> first | (cases h; done) | skip
    case bool b => exact .bool b
    case int k n => exact .int k n
    case float k n => exact .float k n
    case str l s hs => exact .str l s hs
    case nilptr => exact .nilptr
    case nilslice => exact .nilslice
    case nilmap => exact .nilmap
    case nilfunc => exact .nilfunc
    case iface t v u hv => exact .iface t v u (ih v u h hv)
    case niliface => exact .niliface
    case agg cs C hC ho => exact .agg cs C (VRs.flat ih h hC) ho
    case tuple cs C hC => exact .tuple cs C (VRs.flat ih h hC)
    case sym i => exact .sym i

/-! ### Calls that are known -/
def Known (P : Program) (x : FuncId × List PArg × ORes) : Prop := (∃ fn c, P.funcs[x.1]? = some fn ∧ fn.body = some c) ∧
  ∀ N μ s w cs args us, fitArgs s x.2.1 args = true → SR P N μ s w → VRs P μ args us → Ended P N (.norm cs) x.1 (lone (Frame.enter P x.1 us.toArray .normal) cs w) μ s w (x.2.2.out s)
theorem orcOf_ok : ∀ {l : List (FuncId × List PArg × ORes)}, (∀ x ∈ l, Known P x) → OrcOK P (orcOf l)
  | [], _ => fun f args s x h => by cases h
  | y :: l, hk => fun f args s x h => by
    replace h : cnd (Nat.beq y.1 f) (cnd (fitArgs s y.2.1 args) (some y.2.2) (orcOf l f args s)) (orcOf l f args s) = some x := h
    cases h1 : Nat.beq y.1 f with
    | false => rw [h1] at h; exact orcOf_ok (fun z hz => hk z (List.mem_cons_of_mem _ hz)) f args s x h
    | true =>
      rw [h1] at h
      replace h : cnd (fitArgs s y.2.1 args) (some y.2.2) (orcOf l f args s) = some x := h
      cases h2 : fitArgs s y.2.1 args with
      | false => rw [h2] at h; exact orcOf_ok (fun z hz => hk z (List.mem_cons_of_mem _ hz)) f args s x h
      | true =>
        rw [h2] at h
        cases h
        have e1 : y.1 = f := Nat.eq_of_beq_eq_true h1
        subst e1
        obtain ⟨q1, q2⟩ := hk y (List.mem_cons_self ..)
        exact ⟨q1, fun N μ w cs us => q2 N μ s w cs args us h2⟩
theorem noOrc_ok : OrcOK P noOrc := fun f args s x h => by cases h
mutual
/-- Are the arguments without places, but for their rows? -/
noncomputable def flatP (k : Nat) : PArg → Bool
  | .val v => flatN k v
  | .row _ l => flatPs k l
  | .agg l => flatPs k l
noncomputable def flatPs (k : Nat) : List PArg → Bool
  | [] => true
  | p :: ps => flatP k p && oneP p && flatPs k ps
noncomputable def oneP : PArg → Bool
  | .val v => v.one
  | .row _ _ => true
  | .agg _ => false
end
theorem lay_one : ∀ (ps : List PArg) (m k : Nat), flatPs k ps = true → ones (layArgs ps m).1 = true
  | [], m, k, _ => by rw [layArgs]; rfl
  | p :: ps, m, k, h => by
    rw [flatPs, Bool.and_eq_true, Bool.and_eq_true] at h
    rw [layArgs]
    show cnd (layArg p m).1.one (ones (layArgs ps (m + (layArg p m).2.length)).1) false = true
    have h1 : (layArg p m).1.one = true := by
      cases p with
      | val v => rw [layArg]; have := h.1.2; rw [oneP] at this; exact this
      | row n l => rw [layArg]; rfl
      | agg l => have := h.1.2; rw [oneP] at this; cases this
    rw [h1]
    exact lay_one ps _ k h.2
section
variable {N : Nat} {μ : Inj} {s : St}
mutual
/-- An argument's rows, found in the world. -/
theorem fit_arg (hs : SR P N μ s w) {k : Nat} : ∀ (p : PArg) (v : AV) (u : Value) (m : Nat), flatP k p = true → fitArg s p v = true → VR P μ v u →
    ∃ es : List Ent, es.length = (layArg p m).2.length ∧ ∀ ν : Inj, (∀ (i : Nat) (e : Ent), es[i]? = some e → ν (pos (m + i)) = some e) → VR P ν (layArg p m).1 u ∧
      ∀ (i : Nat) (e : Ent) (blk : ABlk), es[i]? = some e → (layArg p m).2[i]? = some blk → BR P w.heap.size ν w blk e ∧ e.a.block < w.heap.size
  | .val v', v, u, m, hfl, hf, hv => by
    rw [flatP] at hfl
    rw [fitArg] at hf
    have e := eqAV_eq 4 v' v hf
    subst e
    rw [layArg]
    exact ⟨[], rfl, fun ν hν => ⟨VR.flat k _ _ hfl hv, fun i e blk he => by simp at he⟩⟩
  | .agg l, v, u, m, hfl, hf, hv => by
    rw [flatP] at hfl
    rw [fitArg] at hf
    rw [layArg]
    cases hv <;> first | (cases hf; done) | skip
    case agg cs C hC ho =>
      obtain ⟨es, h1, h2⟩ := fit_args hs l cs C m hfl hf hC
      exact ⟨es, h1, fun ν hν => ⟨.agg _ _ (h2 ν hν).1 (lay_one l m k hfl), (h2 ν hν).2⟩⟩
  | .row n l, v, u, m, hfl, hf, hv => by
    rw [flatP] at hfl
    rw [fitArg] at hf
    rw [layArg]
    cases hv <;> first | (cases hf; done) | skip
    case slice b o n' lim wh e ad c he had hn hm hlim hc =>
      replace hf : cnd (Nat.beq o 0) (cnd (Nat.beq n' n) (@Option.rec (List AV) (fun _ => Bool) false (fun vs => fitArgs s l vs) (s.cells b 0 l.length)) false) false = true := hf
      obtain ⟨q1, q2⟩ := cnd_and hf
      obtain ⟨q2, q3⟩ := cnd_and q2
      have q1 : o = 0 := Nat.eq_of_beq_eq_true q1
      have q2 : n' = n := Nat.eq_of_beq_eq_true q2
      subst q1
      subst q2
      cases hcs : s.cells b 0 l.length with
      | none => rw [hcs] at q3; cases q3
      | some vs =>
        rw [hcs] at q3
        obtain ⟨hvl, _, us, r0, r1, r2⟩ := hs.cellsAt he hcs
        obtain ⟨es, h1, h2⟩ := fit_args hs l vs us m hfl q3 r0
        have hlt : e.a.block < w.heap.size := by obtain ⟨kb, _, hbr⟩ := hs.blk b e he; exact hbr.lt
        refine ⟨es ++ [⟨e.a, none⟩], by rw [List.length_append, List.length_append, h1]; rfl, fun ν hν => ?_⟩
        have hν1 : ∀ (i : Nat) (e : Ent), es[i]? = some e → ν (pos (m + i)) = some e := fun i e he => hν i e (by rw [List.getElem?_append_left (List.getElem?_eq_some_iff.1 he).1]; exact he)
        obtain ⟨h3, h4⟩ := h2 ν hν1
        have hown := hν es.length ⟨e.a, none⟩ (by simp)
        rw [h1] at hown
        refine ⟨.slice _ 0 n' false false ⟨e.a, none⟩ ad c hown ?_ hn hm (fun h => by cases h) (fun h => by cases h), fun i e' blk hi hblk => ?_⟩
        · rcases had with had | ⟨_, h0⟩
          · exact .inl had
          · exact absurd rfl h0
        · by_cases hil : i < es.length
          · rw [List.getElem?_append_left hil] at hi
            rw [List.getElem?_append_left (by rw [← h1]; exact hil)] at hblk
            exact h4 i e' blk hi hblk
          · rw [List.getElem?_append_right (by omega)] at hi
            rw [List.getElem?_append_right (by rw [← h1]; omega), ← h1] at hblk
            have hi0 : i - es.length = 0 := by
              have := (List.getElem?_eq_some_iff.1 hi).1
              simp at this
              omega
            rw [hi0] at hi hblk
            simp only [List.getElem?_cons_zero, Option.some.injEq] at hi hblk
            subst hi
            subst hblk
            refine ⟨⟨rfl, hlt, fun i hi => ?_⟩, hlt⟩
            have hi : i < (layArgs l m).1.length := hi
            have r3 : (layArgs l m).1[i]? = some (layArgs l m).1[i] := List.getElem?_eq_getElem hi
            obtain ⟨v, r4, r5⟩ := h3.get r3
            have hll : i < l.length := by
              have := (List.getElem?_eq_some_iff.1 r4).1
              omega
            have r6 := r2 i hll
            rw [Nat.zero_add, r4] at r6
            exact ⟨_, v, by rw [Cs.of_get]; exact r3, r6, r5, ones_get (lay_one l m k hfl) r3⟩
theorem fit_args (hs : SR P N μ s w) {k : Nat} : ∀ (ps : List PArg) (vs : List AV) (us : List Value) (m : Nat), flatPs k ps = true → fitArgs s ps vs = true → VRs P μ vs us →
    ∃ es : List Ent, es.length = (layArgs ps m).2.length ∧ ∀ ν : Inj, (∀ (i : Nat) (e : Ent), es[i]? = some e → ν (pos (m + i)) = some e) → VRs P ν (layArgs ps m).1 us ∧
      ∀ (i : Nat) (e : Ent) (blk : ABlk), es[i]? = some e → (layArgs ps m).2[i]? = some blk → BR P w.heap.size ν w blk e ∧ e.a.block < w.heap.size
  | [], vs, us, m, _, hf, ha => by
    rw [fitArgs] at hf
    rw [layArgs]
    cases vs with
    | nil => cases ha; exact ⟨[], rfl, fun ν _ => ⟨.nil, fun i e blk he => by simp at he⟩⟩
    | cons v vs => cases hf
  | p :: ps, vs, us, m, hfl, hf, ha => by
    rw [flatPs, Bool.and_eq_true, Bool.and_eq_true] at hfl
    rw [fitArgs] at hf
    rw [layArgs]
    cases vs with
    | nil => cases hf
    | cons v vs =>
      cases ha with
      | cons _ u _ us hv hvs =>
        replace hf : cnd (fitArg s p v) (fitArgs s ps vs) false = true := hf
        obtain ⟨hf1, hf2⟩ := cnd_and hf
        obtain ⟨es1, a1, a2⟩ := fit_arg hs p v u m hfl.1.1 hf1 hv
        obtain ⟨es2, b1, b2⟩ := fit_args hs ps vs us (m + (layArg p m).2.length) hfl.2 hf2 hvs
        refine ⟨es1 ++ es2, by rw [List.length_append, List.length_append, a1, b1], fun ν hν => ?_⟩
        obtain ⟨c1, c2⟩ := a2 ν fun i e he => hν i e (by rw [List.getElem?_append_left (List.getElem?_eq_some_iff.1 he).1]; exact he)
        obtain ⟨d1, d2⟩ := b2 ν fun i e he => by
          have := hν (es1.length + i) e (by rw [List.getElem?_append_right (by omega), Nat.add_sub_cancel_left]; exact he)
          rwa [← a1, Nat.add_assoc]
        refine ⟨.cons _ _ _ _ c1 d1, fun i e blk hi hblk => ?_⟩
        by_cases hil : i < es1.length
        · rw [List.getElem?_append_left hil] at hi
          rw [List.getElem?_append_left (by rw [← a1]; exact hil)] at hblk
          exact c2 i e blk hi hblk
        · rw [List.getElem?_append_right (by omega)] at hi
          rw [List.getElem?_append_right (by rw [← a1]; omega)] at hblk
          exact d2 _ e blk hi (by rw [a1]; exact hblk)
end
end
/-- The arguments of a call: of any number of cells each. -/
noncomputable def topP (k : Nat) : List PArg → Bool
  | [] => true
  | p :: ps => flatP k p && topP k ps
theorem fit_top {N : Nat} {μ : Inj} {s : St} (hs : SR P N μ s w) {k : Nat} : ∀ (ps : List PArg) (vs : List AV) (us : List Value) (m : Nat), topP k ps = true → fitArgs s ps vs = true → VRs P μ vs us →
    ∃ es : List Ent, es.length = (layArgs ps m).2.length ∧ ∀ ν : Inj, (∀ (i : Nat) (e : Ent), es[i]? = some e → ν (pos (m + i)) = some e) → VRs P ν (layArgs ps m).1 us ∧
      ∀ (i : Nat) (e : Ent) (blk : ABlk), es[i]? = some e → (layArgs ps m).2[i]? = some blk → BR P w.heap.size ν w blk e ∧ e.a.block < w.heap.size
  | [], vs, us, m, _, hf, ha => by
    rw [fitArgs] at hf
    rw [layArgs]
    cases vs with
    | nil => cases ha; exact ⟨[], rfl, fun ν _ => ⟨.nil, fun i e blk he => by simp at he⟩⟩
    | cons v vs => cases hf
  | p :: ps, vs, us, m, hfl, hf, ha => by
    rw [topP, Bool.and_eq_true] at hfl
    rw [fitArgs] at hf
    rw [layArgs]
    cases vs with
    | nil => cases hf
    | cons v vs =>
      cases ha with
      | cons _ u _ us hv hvs =>
        replace hf : cnd (fitArg s p v) (fitArgs s ps vs) false = true := hf
        obtain ⟨hf1, hf2⟩ := cnd_and hf
        obtain ⟨es1, a1, a2⟩ := fit_arg hs p v u m hfl.1 hf1 hv
        obtain ⟨es2, b1, b2⟩ := fit_top hs ps vs us (m + (layArg p m).2.length) hfl.2 hf2 hvs
        refine ⟨es1 ++ es2, by rw [List.length_append, List.length_append, a1, b1], fun ν hν => ?_⟩
        obtain ⟨c1, c2⟩ := a2 ν fun i e he => hν i e (by rw [List.getElem?_append_left (List.getElem?_eq_some_iff.1 he).1]; exact he)
        obtain ⟨d1, d2⟩ := b2 ν fun i e he => by
          have := hν (es1.length + i) e (by rw [List.getElem?_append_right (by omega), Nat.add_sub_cancel_left]; exact he)
          rwa [← a1, Nat.add_assoc]
        refine ⟨.cons _ _ _ _ c1 d1, fun i e blk hi hblk => ?_⟩
        by_cases hil : i < es1.length
        · rw [List.getElem?_append_left hil] at hi
          rw [List.getElem?_append_left (by rw [← a1]; exact hil)] at hblk
          exact c2 i e blk hi hblk
        · rw [List.getElem?_append_right (by omega)] at hi
          rw [List.getElem?_append_right (by rw [← a1]; omega)] at hblk
          exact d2 _ e blk hi (by rw [a1]; exact hblk)
/-- A run from the beginning, wherever it is made. -/
theorem from_start (hP : NoNum P) {bs : List ABlk} (hB : BaseOK P bs) {orc : Orc} (ho : OrcOK P orc) {f : FuncId} {ps : List PArg} {n k : Nat} (hfl : topP k ps = true) {v : AV} {rc : Option AMode} {s1 : St}
    (hr : run P orc n (.call f (layArgs ps bs.length).1 none) AAct.none (vstart (bs ++ (layArgs ps bs.length).2)) = some (.fin (.returned v) rc s1)) :
    (∃ fn c, P.funcs[f]? = some fn ∧ fn.body = some c) ∧ ∀ N μ s w cs args us, fitArgs s ps args = true → SR P N μ s w → VRs P μ args us →
      ∃ μ₀ μ' w' V fr, Goes P w.heap.size μ₀ (vstart (bs ++ (layArgs ps bs.length).2)) w μ' s1 w' ∧ Kept w w' ∧ VR P μ' v V ∧ Steps P (lone (Frame.enter P f us.toArray .normal) cs w) (lone fr cs w') ∧ fr.fn = f ∧ fr.kind = .normal ∧ fr.going P w' (.returned V) := by
  have hc := (run_all (N := 0) hP ho n).call _ _ _ _ _ _ hr
  refine ⟨hc.1, fun N μ s w cs args us hfit hs ha => ?_⟩
  obtain ⟨es, h1, h2⟩ := fit_top hs ps args us bs.length hfl hfit ha
  obtain ⟨hargs, h3⟩ := h2 (rowI P es) fun i e he => by
    unfold rowI
    rw [pos_toNat, hB.2.1, if_neg (by omega), Nat.add_sub_cancel_left]
    exact he
  have hsr := start_rows hB hs.base h1 h3
  obtain ⟨μ', w', u', V, fr, hg, _, hV, hst, hfn, hk, hgo⟩ := ((run_all (N := w.heap.size) hP ho n).call _ _ _ _ _ _ hr).2 (rowI P es) w (.norm cs) .run us hsr hargs (.norm _ _)
  exact ⟨_, μ', w', V, fr, hg, ⟨hg.ev.os, hg.ev.tape, hg.ev.output, hg.ev.size, fun j hj => hg.ev.same j hj (.inl hj)⟩, hV, hst, hfn, hk, hgo⟩
theorem known_flat (hP : NoNum P) {bs : List ABlk} (hB : BaseOK P bs) {orc : Orc} (ho : OrcOK P orc) {f : FuncId} {ps : List PArg} {n k : Nat} {v : AV} (hfl : topP k ps = true) (hv : flatN k v = true)
    (hr : isFlat v (run P orc n (.call f (layArgs ps bs.length).1 none) AAct.none (vstart (bs ++ (layArgs ps bs.length).2))) = true) : Known P (f, ps, .flat v) := by
  cases hr1 : run P orc n (.call f (layArgs ps bs.length).1 none) AAct.none (vstart (bs ++ (layArgs ps bs.length).2)) with
  | none => rw [hr1] at hr; cases hr
  | some o =>
    rw [hr1] at hr
    cases o with
    | «at» => cases hr
    | fin e rc s1 => cases e with
      | panicked c => cases hr
      | returned v' =>
        have e := eqAV_eq 6 v' v hr
        subst e
        obtain ⟨h1, h2⟩ := from_start hP hB ho hfl hr1
        refine ⟨h1, fun N μ s w cs args us hfit hs ha => ?_⟩
        obtain ⟨μ₀, μ', w', V, fr, hg, hk, hV, hst, hfn, hkd, hgo⟩ := h2 N μ s w cs args us hfit hs ha
        exact ⟨μ, w', .run, V, fr, ⟨Ext.refl _ _, fun _ _ h => .inl h, Nat.le_refl _, ⟨hk.os, hk.tape, hk.output, hk.size, fun j hj _ => hk.same j hj⟩, hs.kept hk⟩, .norm _ _, VR.flat k _ _ hv hV, hst, hfn, hkd, hgo⟩
theorem known_row (hP : NoNum P) {bs : List ABlk} (hB : BaseOK P bs) {orc : Orc} (ho : OrcOK P orc) {f : FuncId} {ps : List PArg} {n k : Nat} {t : TypeId} {l : List AV} (hfl : topP k ps = true) (hl : l.all (flatN k) = true) (hon : ones l = true)
    (hr : isRow t l (run P orc n (.call f (layArgs ps bs.length).1 none) AAct.none (vstart (bs ++ (layArgs ps bs.length).2))) = true) : Known P (f, ps, .ptr t l) := by
  cases hr1 : run P orc n (.call f (layArgs ps bs.length).1 none) AAct.none (vstart (bs ++ (layArgs ps bs.length).2)) with
  | none => rw [hr1] at hr; cases hr
  | some o =>
    rw [hr1] at hr
    unfold isRow at hr
    split at hr
    · rename_i b rc s1 heq
      cases heq
      split at hr
      · rename_i t' len c hget
        simp only [Bool.and_eq_true] at hr
        obtain ⟨⟨e1, e2⟩, e3⟩ := hr
        have e1 : t' = t := Nat.eq_of_beq_eq_true e1
        have e2 : len = l.length := Nat.eq_of_beq_eq_true e2
        subst e1
        split at e3
        · rename_i l' hsub
          have e3 := eqL_eq (eqAV_eq 6) e3
          subst e3
          obtain ⟨h1, h2⟩ := from_start hP hB ho hfl hr1
          refine ⟨h1, fun N μ s w cs args us hfit hs ha => ?_⟩
          obtain ⟨μ₀, μ', w', V, fr, hg, hk, hV, hst, hfn, hkd, hgo⟩ := h2 N μ s w cs args us hfit hs ha
          cases hV with
          | ptr _ _ e he =>
            obtain ⟨kb, hkb, hbr⟩ := hg.sr.blk b e he
            rw [hget] at hkb
            cases hkb
            obtain ⟨g, sz, cur, rfl, hN, hgh, hsz, hle, hcr⟩ := hbr
            have hN : w.heap.size ≤ g := hN
            have hlay := hs.laid (e := ⟨⟨g, 0, none⟩, some (sz, t')⟩) (k := .cells true t' l'.length (.of l')) (w' := w') ⟨hk.os, hk.tape, hk.output, hk.size, fun j hj _ => hk.same j hj⟩ hN (by
              refine ⟨g, sz, cur, rfl, Nat.le_trans hs.hN hN, hgh, hsz, by omega, fun i hi => ?_⟩
              obtain ⟨av, u, q1, q2, q3, q4⟩ := hcr i (by omega)
              have hli : l'[i]? = some av := by
                have := (Cs.sub_spec hsub (by omega : 0 + len ≤ len) (fun i hi => by obtain ⟨x, _, q1, _⟩ := hcr i hi; rw [q1]; rfl)).2 i (by omega)
                rw [Nat.zero_add, q1] at this
                exact this.symm
              refine ⟨av, u, by rw [Cs.of_get]; exact hli, q2, VR.flat k av u (List.all_eq_true.1 hl av (List.mem_of_getElem? hli)) q3, q4⟩)
            exact ⟨_, w', .run, _, fr, hlay, .norm _ _, by simpa [add_nil] using VR.ptr (P := P) s.n 0 _ (upd_n _ _ _), hst, hfn, hkd, hgo⟩
        · cases e3
      · cases hr
    · cases hr

/-- HOW IT RUNS. -/
theorem calls_true (hP : NoNum P) {bs : List ABlk} (hB : BaseOK P bs) {orc : Orc} (ho : OrcOK P orc) {f : FuncId} {args : List AV} {n : Nat} (hrun : isT (run P orc n (.call f args none) AAct.none (vstart bs)) = true) (h : Env.base w) {us : List Value} (ha : VRs P (globI P) args us) :
    Calls P f us.toArray w fun e w' => e = .returned (.bool true) ∧ Below w.heap.size w w' := by
  intro cs
  cases hr : run P orc n (.call f args none) AAct.none (vstart bs) with
  | none => rw [hr] at hrun; cases hrun
  | some o =>
    rw [hr] at hrun
    cases o with
    | «at» => cases hrun
    | fin e rc s' =>
      cases e with
      | panicked c => cases hrun
      | returned v =>
        have hv : v = .bool true := by
          cases v <;> first | (cases hrun; done) | skip
          rename_i b
          have : b = true := hrun
          rw [this]
        subst hv
        obtain ⟨μ', w', u', V, fr, hg, _, hV, hst, hfn, hk, hgo⟩ := ((run_all (N := w.heap.size) hP ho n).call _ _ _ _ _ _ hr).2 (globI P) w (.norm cs) .run us (start_sr hB h) ha (.norm _ _)
        have hVt : V = .bool true := by cases hV; rfl
        subst hVt
        exact ⟨.returned (.bool true), w', fr, ⟨rfl, hg.ev.below (Nat.le_refl _)⟩, hst, hfn, hgo.1, hgo.2.1, hk, hgo.2.2⟩
end

section
variable {P : Program} {w : World}
/-- What is asked of the program beside the run: closed facts. -/
theorem noNum_of (h : (P.funcs.toList.all fun fn => !(fn.name == "runtime.NumGoroutine")) = true) : NoNum P := fun f fn hf => by
  have := List.all_eq_true.1 h fn (by have := Array.mem_of_getElem? hf; simpa using this)
  simpa using this
theorem open_size {P : Program} {w : World} (h : w.ShapedOpen P) (hb : decide (P.globals.size < (begin P (fun _ _ => 0) default).world.heap.size) = true) : P.globals.size ≤ w.heap.size := by
  obtain ⟨o, _, ho, _⟩ := h.2 P.globals.size (Nat.le_refl _) (of_decide_eq_true hb)
  exact Nat.le_of_lt (Array.getElem?_eq_some_iff.1 ho).1
end

section
variable {P : Program} {w : World}
theorem laid_reads : ∀ {l : List (String × DataW Unit)} {ps : List MemPlace}, DataW.LaidVars P w l ps → ∀ n d, (n, d) ∈ l →
    ∃ g t cs fuel p, P.globalNamed n = some g ∧ (P.globals[g]?).map (·.type) = some t ∧ w.var? P n = some cs ∧ DataW.trod (fun _ => ()) P w 0 (fun _ => true) false fuel t cs.toList = some (d, p)
  | [], _, _, _, _, hm => by cases hm
  | (n', d') :: r, ps, h, n, d, hm => by
    obtain ⟨g, t, cs, fuel, p, q, h1, h2, h3, h4, h5, _⟩ := h
    rcases List.mem_cons.1 hm with e | e
    · cases e
      exact ⟨g, t, cs, fuel, p, h1, h2, h3, h4⟩
    · exact laid_reads h5 n d e
/-- AN ARRAY OF INTEGERS THAT THE ROW LISTS. -/
theorem tab_holds {laid : List (String × DataW Unit)} (h : laidMetH P laid w) (hp : (laid.all fun x => x.2.handleName?.isNone) = true) {name : String} {k : IntKind} {zs : List Int} (hm : (name, Lib.tabData k zs) ∈ laid) {g t e : Nat} {n : Nat}
    (hg : P.globalNamed name = some g) (ht : (P.globals[g]?).map (·.type) = some t) (hu : P.underlying t = some (.array n e)) (he : P.underlying e = some (.int k)) (hce : P.cellsOf e = 1) (hct : P.cellsOf t = n) {m : Nat} (hlen : m = zs.length) (t' : TypeId) :
    holdsB w g (.cells false t' m (.of (zs.map fun z => .int k z))) := by
  rw [MakeChecks.laidMetH_plain _ _ _ hp] at h
  obtain ⟨ps, hv, _⟩ := h
  obtain ⟨g', t'', cs, fuel, p, h1, h2, h3, h4⟩ := laid_reads hv _ _ hm
  obtain rfl := Option.some.inj (hg.symm.trans h1)
  obtain rfl := Option.some.inj (ht.symm.trans h2)
  have hcs := Lib.cells_of_tab hu he hce hct h4
  refine ⟨t', m, _, rfl, fun i hi => ?_⟩
  have hi' : i < zs.length := by omega
  refine ⟨.int k zs[i], .int k zs[i], by rw [Cs.of_get]; simp [hi'], ?_, rfl, rfl⟩
  rw [World.var?_cell h1 h3 i]
  have : cs.toList[i]? = some (.int k zs[i]) := by rw [hcs]; simp [hi']
  simpa using this
/-- A variable that is not looked at. -/
theorem none_holds (g : Nat) (t : TypeId) : holdsB w g (.cells false t 0 (.few [])) := ⟨t, 0, _, rfl, fun i hi => absurd hi (Nat.not_lt_zero i)⟩
end

section
variable {H : Type} {enc : TypeId × Value → H}
/-- THE ROW OF A LAW WITHOUT PARAMETERS, LIFTED. -/
theorem lifted_of {C : Checked} {os : Os} {f : FuncId} {fn : Func} {s : ChangeSpec} {conds : List PathCond} {handsOn : Bool} {laid : List (String × DataW Unit)} {t : TypeId}
    (own : ownKnob C.prog.godebug = none) (started : os.Started) (noInit : C.prog.inits.idxOf? f = none) (hfn : C.prog.funcs[f]? = some fn) (hps : fn.params = #[]) (hrs : fn.resultTypes = #[t]) (ht : C.prog.underlying t = some .bool) (hvars : s.vars = [])
    (hspec : ∀ H : Type, s.fn H [] = { results := [.lit (.bool true)], args := [], vars := [] })
    (witness : ∃ (w : World) (tape : Tape) (i : Input), w.os = os ∧ (w.forCall tape i).Shaped C.prog ∧ i.vars = [] ∧ Input.okWide C.prog (w.forCall tape i) .any w.heap.size f i ∧
      ((s.pre enc C.prog fn conds false (w.forCall tape i).memory i.args ∧ laidMetH C.prog laid (w.forCall tape i).memory) ∧ sizedMet enc C.prog fn (OpenSpec.ofChange s) false (w.forCall tape i).memory i.args) ∧ ({} : Assume).holds C.prog (lone (Frame.enter C.prog f i.args .normal) [] (w.forCall tape i)))
    (hcalls : ∀ w : World, w.ShapedOpen C.prog → laidMetH C.prog laid w → Calls C.prog f #[] w fun e w' => e = .returned (.bool true) ∧ Below w.heap.size w w') :
    ReturnsInHanded {} C os f .any (fun w args => (s.pre enc C.prog fn conds false w args ∧ laidMetH C.prog laid w) ∧ sizedMet enc C.prog fn (OpenSpec.ofChange s) false w args) (s.post enc C.prog fn false true handsOn false) := by
  refine returnsInHanded_of_calls own started noInit witness ?_
  intro w tape i _ hshape _ hok hpre hholds
  obtain ⟨⟨⟨ds, gs, before, hw, hc⟩, hx⟩, hz⟩ := hpre
  have hw' := DataW.Whole.of_heap (w' := w.forCall tape i) (by rfl) hw
  have hx' : laidMetH C.prog laid (w.forCall tape i) := hx.of_heap (by rfl)
  have hw0 := hw'
  obtain ⟨p, q, hA, hV, rfl, _, _⟩ := hw'
  rw [hps] at hA
  rw [hvars] at hV
  obtain ⟨rfl, rfl⟩ := trodVars_none hV
  have hargs : i.args = #[] ∧ ds = [] ∧ p = [] := by
    generalize hal : i.args.toList = al at hA
    cases al with
    | nil =>
      cases ds with
      | nil => exact ⟨by rw [← Array.toList_inj]; exact hal, rfl, hA⟩
      | cons d ds => exact hA.elim
    | cons a al => cases ds <;> exact hA.elim
  obtain ⟨ha, rfl, rfl⟩ := hargs
  rw [ha] at hw0 ⊢
  refine (hcalls _ hshape hx').mono fun e W' ⟨he, hb⟩ => ?_
  subst he
  refine ChangeSpec.post_blind ⟨[], [], [] ++ [], [], [], [], hw0, ?_, ?_, ?_, hb.frame _, fun h => by cases h⟩
  · rw [show ([] : List (DataW H)) ++ [] = [] from rfl, hspec, hrs]
    exact trodAll_mk1 (shut_bool ht _)
  · rw [show ([] : List (DataW H)) ++ [] = [] from rfl, hspec, hps]
    exact trodAll_mk0
  · rw [show ([] : List (DataW H)) ++ [] = [] from rfl, hspec, hvars]
    rfl
end
end Go.Proofs.Vai
/- Laws with parameters; calls that are known by a walk. -/
namespace Go.Proofs.Vai
open Go Go.RowKit Go.ChangeShapes Go.WideShapes Go.ChangeAt

section
variable [Env] {P : Program}
/-- A call that a walk has told. -/
theorem known_of_calls {f : FuncId} {ps : List PArg} {v : AV} (hb : ∃ fn c, P.funcs[f]? = some fn ∧ fn.body = some c)
    (h : ∀ (μ : Inj) (s : St) (args : List AV) (us : List Value) (w : World), fitArgs s ps args = true → VRs P μ args us → ∃ V, VR P μ v V ∧ Calls P f us.toArray w fun e w' => e = .returned V ∧ w' = w) : Known P (f, ps, .flat v) := by
  refine ⟨hb, fun N μ s w cs args us hfit hs ha => ?_⟩
  obtain ⟨V, hV, hc⟩ := h μ s args us w hfit ha
  obtain ⟨e, w', fr, ⟨rfl, rfl⟩, hst, hfn, hm, hd, hk, hr⟩ := hc cs
  exact ⟨μ, w', .run, V, fr, hs.stay, .norm _ _, hV, hst, hfn, hk, hm, hd, hr⟩
end

theorem trodAll_len {H : Type} {enc : TypeId × Value → H} {P : Program} {w : World} {base : Nat} {sp : Nat → Bool} {held : Bool} : ∀ {ts : List TypeId} {vs : List Value} {ds : List (DataW H)} {ps : List MemPlace}, DataW.TrodAll enc P w base sp held ts vs ds ps → vs.length = ts.length ∧ ds.length = ts.length
  | [], [], [], _, _ => ⟨rfl, rfl⟩
  | _ :: _, _ :: _, _ :: _, _, h => by
    obtain ⟨p, q, _, h2, _⟩ := h
    obtain ⟨e1, e2⟩ := trodAll_len h2
    exact ⟨by simp [e1], by simp [e2]⟩
  | [], _ :: _, _, _, h => h.elim
  | [], [], _ :: _, _, h => h.elim
  | _ :: _, [], _, _, h => h.elim
  | _ :: _, _ :: _, [], _, h => h.elim
/-- The arguments read behind the call as they did before. -/
theorem below_trodAll {H : Type} {enc : TypeId × Value → H} {P : Program} (hl : laidOutB P = true) {W W' : World} (hb : Below W.heap.size W W') : ∀ {ts : List TypeId} {vs : List Value} {ds : List (DataW H)} {ps : List MemPlace},
    (ts.all fun t => P.readableRec t && decide (t < P.types.size)) = true → DataW.TrodAll enc P W 0 (fun _ => true) true ts vs ds ps → (∀ x ∈ ps, x.block < W.heap.size) → DataW.TrodAll enc P W' 0 (fun b => decide (b < W.heap.size)) true ts vs ds ps
  | [], [], [], _, _, h, _ => h
  | t :: ts, v :: vs, d :: ds, ps, hr, h, hlt => by
    rw [List.all_cons, Bool.and_eq_true, Bool.and_eq_true] at hr
    obtain ⟨p, q, h1, h2, rfl⟩ := h
    exact ⟨p, q, Below.trod hl hr.1.1 (of_decide_eq_true hr.1.2) h1 hb (fun x hx => hlt x (List.mem_append_left _ hx)), below_trodAll hl hb hr.2 h2 (fun x hx => hlt x (List.mem_append_right _ hx)), rfl⟩
  | [], _ :: _, _, _, _, h, _ => h.elim
  | [], [], _ :: _, _, _, h, _ => h.elim
  | _ :: _, [], _, _, _, h, _ => h.elim
  | _ :: _, _ :: _, [], _, _, h, _ => h.elim

section
variable {H : Type} {enc : TypeId × Value → H}
/-- THE ROW OF A LAW WITH PARAMETERS, LIFTED. -/
theorem lifted_args {C : Checked} {os : Os} {f : FuncId} {fn : Func} {s : ChangeSpec} {conds : List PathCond} {handsOn : Bool} {laid : List (String × DataW Unit)} {t : TypeId}
    (own : ownKnob C.prog.godebug = none) (started : os.Started) (noInit : C.prog.inits.idxOf? f = none) (hfn : C.prog.funcs[f]? = some fn) (hl : laidOutB C.prog = true) (hps : (fn.params.toList.all fun t => C.prog.readableRec t && decide (t < C.prog.types.size)) = true)
    (hrs : fn.resultTypes = #[t]) (ht : C.prog.underlying t = some .bool) (hvars : s.vars = [])
    (hspec : ∀ (H : Type) (ds : List (DataW H)), ds.length = fn.params.toList.length → s.fn H ds = { results := [.lit (.bool true)], args := ds, vars := [] })
    (witness : ∃ (w : World) (tape : Tape) (i : Input), w.os = os ∧ (w.forCall tape i).Shaped C.prog ∧ i.vars = [] ∧ Input.okWide C.prog (w.forCall tape i) .any w.heap.size f i ∧
      ((s.pre enc C.prog fn conds false (w.forCall tape i).memory i.args ∧ laidMetH C.prog laid (w.forCall tape i).memory) ∧ sizedMet enc C.prog fn (OpenSpec.ofChange s) false (w.forCall tape i).memory i.args) ∧ ({} : Assume).holds C.prog (lone (Frame.enter C.prog f i.args .normal) [] (w.forCall tape i)))
    (hcalls : ∀ (w : World) (base : Nat) (args : Array Value) (ds : List (DataW H)) (p : List MemPlace), w.ShapedOpen C.prog → laidMetH C.prog laid w → (∀ (j : Nat) t v, fn.params[j]? = some t → args[j]? = some v → Value.okWide C.prog w .any base t v) →
      DataW.TrodAll enc C.prog w 0 (fun _ => true) true fn.params.toList args.toList ds p → Calls C.prog f args w fun e w' => e = .returned (.bool true) ∧ Below w.heap.size w w') :
    ReturnsInHanded {} C os f .any (fun w args => (s.pre enc C.prog fn conds false w args ∧ laidMetH C.prog laid w) ∧ sizedMet enc C.prog fn (OpenSpec.ofChange s) false w args) (s.post enc C.prog fn false true handsOn false) := by
  refine returnsInHanded_of_calls own started noInit witness ?_
  intro w tape i _ hshape _ hok hpre hholds
  obtain ⟨_, _, _, fn', hfn', _, _, _, _, hval⟩ := hok
  have e : fn' = fn := Option.some.inj (hfn'.symm.trans hfn)
  subst e
  obtain ⟨⟨⟨ds, gs, before, hw, hc⟩, hx⟩, hz⟩ := hpre
  have hw' := DataW.Whole.of_heap (w' := w.forCall tape i) (by rfl) hw
  have hx' : laidMetH C.prog laid (w.forCall tape i) := hx.of_heap (by rfl)
  have hlt : ∀ x ∈ before, x.block < (w.forCall tape i).heap.size := fun x hx => hw'.lt x hx
  have hw0 := hw'
  obtain ⟨p, q, hA, hV, rfl, _, _⟩ := hw'
  rw [hvars] at hV
  obtain ⟨rfl, rfl⟩ := trodVars_none hV
  have hlen := trodAll_len hA
  refine (hcalls _ _ i.args ds p hshape hx' hval hA).mono fun e W' ⟨he, hb⟩ => ?_
  subst he
  refine ChangeSpec.post_blind ⟨ds, [], p ++ [], [], p, [], hw0, ?_, ?_, ?_, hb.frame _, fun h => by cases h⟩
  · rw [List.append_nil, hspec H ds hlen.2, hrs]
    exact trodAll_mk1 (shut_bool ht _)
  · rw [List.append_nil, hspec H ds hlen.2]
    exact below_trodAll hl hb hps hA fun x hx => hlt x (List.mem_append_left _ hx)
  · rw [List.append_nil, hspec H ds hlen.2, hvars]
    rfl
end
end Go.Proofs.Vai
