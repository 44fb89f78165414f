/- The verified interpreter, part G. -/
import Derived.Test.YtjamefgnfbiolaaGreatDoorVaiF
import Derived.ProofKit
import Derived.OpenShut
import Derived.LaidMore
import Derived.Lay
import Derived.SevenTiedAt
import Derived.Stop.Joined
import Derived.Lib.LaidTab
import Derived.LaidHandle
import Derived.Carry
set_option linter.unusedVariables false
set_option linter.unusedSimpArgs false
set_option linter.unusedSectionVars false
/- A law without parameters that the interpreter answers: how its call runs, and its row. -/
namespace Go.Proofs.Vai
open Go Go.RowKit Go.ChangeShapes Go.WideShapes Go.ChangeAt

/-- What a variable's block holds, as the interpreter takes it. -/
def holdsB (w : World) (g : Nat) (blk : ABlk) : Prop :=
  ∃ t len c, blk = .cells false t len c ∧ ∀ i, i < len → ∃ av v, c.get i = some av ∧ w.cell? ⟨g, i, none⟩ = some v ∧ av.one = true ∧ toAV v = some av
/-- What is known of the world: what the listed variables hold. -/
def baseW (bs : List ABlk) (w : World) : Prop := bs.length ≤ w.heap.size ∧ ∀ g blk, bs[g]? = some blk → holdsB w g blk
theorem baseW_keep (bs : List ABlk) {w w' : World} (hz : w.heap.size ≤ w'.heap.size) (hk : ∀ k, k < bs.length → w'.heap[k]? = w.heap[k]?) (h : baseW bs w) : baseW bs w' := by
  refine ⟨Nat.le_trans h.1 hz, fun g blk hg => ?_⟩
  obtain ⟨t, len, c, e, hc⟩ := h.2 g blk hg
  refine ⟨t, len, c, e, fun i hi => ?_⟩
  obtain ⟨av, v, h1, h2, h3, h4⟩ := hc i hi
  refine ⟨av, v, h1, ?_, h3, h4⟩
  rw [← h2]
  exact cell_same0 (hk g (List.getElem?_eq_some_iff.1 hg).1)
where
  cell_same0 {w w' : World} {a : Addr} (h : w'.heap[a.block]? = w.heap[a.block]?) : w'.cell? a = w.cell? a := by unfold World.cell?; rw [h]
/-- The unknown values, and what is known of the world. -/
@[reducible] def envOf (val : Nat → Value) (h1 : ∀ i, (val i).oneCell' = true) (h2 : ∀ i, (val i).cells = #[val i]) (h3 : ∀ i, Knows (i % 8) (val i) (val (i + 2))) (bs : List ABlk) : Env :=
  ⟨val, h1, h2, h3, bs.length, baseW bs, fun _ _ hz hk h => baseW_keep bs hz hk h⟩
/-- An unknown value for each number. -/
def anyVal (k : Nat) : Value :=
  match k with
  | 1 => .int .i64 0
  | 2 => .int .i64 1
  | 3 => .string ⟨#[]⟩
  | 4 => .string ⟨Array.replicate 501 0⟩
  | 5 => .int .i64 0
  | 6 => .int .i64 501
  | _ => .bool true
theorem anyVal_cells (k : Nat) : (anyVal k).oneCell' = true ∧ (anyVal k).cells = #[anyVal k] := by
  unfold anyVal
  split <;> exact ⟨rfl, rfl⟩
theorem anyVal_knows (i : Nat) : Knows (i % 8) (anyVal (i % 8)) (anyVal ((i + 2) % 8)) := by
  have h : i % 8 < 8 := Nat.mod_lt _ (by omega)
  rw [Nat.add_mod]
  generalize i % 8 = k at *
  match k, h with
  | 0, _ => trivial
  | 1, _ => exact ⟨0, rfl, by omega⟩
  | 2, _ => exact ⟨1, rfl, by omega⟩
  | 3, _ => exact ⟨⟨#[]⟩, rfl, rfl⟩
  | 4, _ => exact ⟨⟨Array.replicate 501 0⟩, rfl, by show anyVal 6 = _; simp [anyVal, ByteArray.size]⟩
  | 5, _ => exact ⟨0, rfl, by omega⟩
  | 6, _ => exact ⟨501, rfl, by omega⟩
  | 7, _ => trivial
/-- No unknown value of the law's own. -/
@[reducible] def envUnit (bs : List ABlk) : Env := envOf (fun i => anyVal (i % 8)) (fun i => (anyVal_cells _).1) (fun i => (anyVal_cells _).2) anyVal_knows bs

section
variable [Env]
theorem setTrB_get : ∀ (bs : List ABlk) (t : Tr ABlk) (n : Nat) (x : Pos), (setTrB bs n t).get x = if n ≤ x.toNat ∧ x.toNat < n + bs.length then bs[x.toNat - n]? else t.get x
  | [], t, n, x => by
    rw [if_neg (by simp only [List.length_nil]; omega)]
    rfl
  | b :: bs, t, n, x => by
    show (setTrB bs (n + 1) (t.set (pos n) b)).get x = _
    rw [setTrB_get bs, get_set]
    by_cases h : n + 1 ≤ x.toNat ∧ x.toNat < n + 1 + bs.length
    · rw [if_pos h, if_pos (by simp only [List.length_cons]; omega), show x.toNat - n = (x.toNat - (n + 1)) + 1 from by omega]
      rfl
    · rw [if_neg h]
      by_cases hx : pos n = x
      · subst hx
        rw [if_pos rfl, if_pos (by rw [pos_toNat]; simp only [List.length_cons]; omega), pos_toNat, Nat.sub_self]
        rfl
      · have : x.toNat ≠ n := fun e => hx (by rw [← e, pos_of])
        rw [if_neg hx, if_neg (by simp only [List.length_cons]; omega)]
/-- The variables lie where they lie. -/
def globI (P : Program) : Inj := fun b => if b.toNat < P.globals.size then some ⟨⟨b.toNat, 0, none⟩, none⟩ else none
theorem globI_some {P : Program} {b : Pos} {e : Ent} (h : globI P b = some e) : b.toNat < P.globals.size ∧ e = ⟨⟨b.toNat, 0, none⟩, none⟩ := by
  unfold globI at h
  split at h
  · rename_i hl; cases h; exact ⟨hl, rfl⟩
  · cases h
end

section
variable [Env] {P : Program} {w : World}
/-- The program's variables are those that are known of. -/
def BaseOK (P : Program) (bs : List ABlk) : Prop := Env.n = bs.length ∧ bs.length = P.globals.size ∧ ∀ w, Env.base w → baseW bs w
/-- The variables, and rows of one's own beside them, wherever these lie. -/
def rowI (P : Program) (es : List Ent) : Inj := fun b => if b.toNat < P.globals.size then some ⟨⟨b.toNat, 0, none⟩, none⟩ else es[b.toNat - P.globals.size]?
theorem start_rows {bs rows : List ABlk} {es : List Ent} (hB : BaseOK P bs) (h : Env.base w) (hlen : es.length = rows.length) (hr : ∀ (i : Nat) (e : Ent) (blk : ABlk), es[i]? = some e → rows[i]? = some blk → BR P w.heap.size (rowI P es) w blk e ∧ e.a.block < w.heap.size) :
    SR P w.heap.size (rowI P es) (vstart (bs ++ rows)) w := by
  obtain ⟨hn0, hn, hb⟩ := hB
  obtain ⟨hsz, hb⟩ := hb w h
  have hcase : ∀ b e, rowI P es b = some e → (b.toNat < P.globals.size ∧ e = ⟨⟨b.toNat, 0, none⟩, none⟩) ∨ (P.globals.size ≤ b.toNat ∧ es[b.toNat - P.globals.size]? = some e) := by
    intro b e he
    unfold rowI at he
    split at he
    · rename_i hl; cases he; exact .inl ⟨hl, rfl⟩
    · exact .inr ⟨by omega, he⟩
  have hlt : ∀ b e, rowI P es b = some e → b.toNat < (bs ++ rows).length ∧ e.a.block < w.heap.size := by
    intro b e he
    rw [List.length_append]
    rcases hcase b e he with ⟨hl, rfl⟩ | ⟨hl, he⟩
    · exact ⟨by omega, by show b.toNat < w.heap.size; omega⟩
    · have hi := (List.getElem?_eq_some_iff.1 he).1
      obtain ⟨blk, hblk⟩ : ∃ blk, rows[b.toNat - P.globals.size]? = some blk := ⟨_, List.getElem?_eq_getElem (by omega)⟩
      exact ⟨by omega, (hr _ e blk he hblk).2⟩
  refine ⟨fun b e he => ?_, fun b b' e e' k k' he he' _ _ _ _ hN _ => ?_, fun b e he => ?_, Nat.le_refl _, fun g hg => ?_, by omega, h⟩
  · have hl' := (hlt b e he).1
    have hget : (vstart (bs ++ rows)).h.get b = (bs ++ rows)[b.toNat]? := by
      show (setTrB (bs ++ rows) 0 .nil).get b = _
      rw [setTrB_get, if_pos (by omega), Nat.sub_zero]
    rcases hcase b e he with ⟨hl, rfl⟩ | ⟨hl, he2⟩
    · have hlb : b.toNat < bs.length := by omega
      have hg2 : bs[b.toNat]? = some bs[b.toNat] := List.getElem?_eq_getElem hlb
      refine ⟨bs[b.toNat], by rw [hget, List.getElem?_append_left hlb, hg2], ?_⟩
      obtain ⟨t, len, c, hc, hcells⟩ := hb _ _ hg2
      rw [hc]
      refine ⟨rfl, Nat.lt_of_lt_of_le hlb hsz, fun i hi => ?_⟩
      obtain ⟨av, v, h1, h2, h3, h4⟩ := hcells i hi
      refine ⟨av, v, h1, ?_, toAV_sound v av h4, h3⟩
      rw [← h2]
      show w.cell? (Addr.add ⟨b.toNat, 0, none⟩ i) = _
      by_cases hi0 : i = 0
      · subst hi0; simp [Addr.add]
      · simp [Addr.add, hi0]
    · have hi := (List.getElem?_eq_some_iff.1 he2).1
      obtain ⟨blk, hblk⟩ : ∃ blk, rows[b.toNat - P.globals.size]? = some blk := ⟨_, List.getElem?_eq_getElem (by omega)⟩
      refine ⟨blk, ?_, (hr _ e blk he2 hblk).1⟩
      rw [hget, List.getElem?_append_right (by omega), hn]
      exact hblk
  · have := (hlt b e he).2
    omega
  · show b.toNat < (pos (bs ++ rows).length).toNat
    rw [pos_toNat]
    exact (hlt b e he).1
  · unfold rowI
    rw [pos_toNat, if_pos hg]
theorem rowI_nil : rowI P [] = globI P := by
  funext b
  unfold rowI globI
  split <;> rfl
theorem start_sr {bs : List ABlk} (hB : BaseOK P bs) (h : Env.base w) : SR P w.heap.size (globI P) (vstart bs) w := by
  have := start_rows (rows := []) (es := []) hB h rfl (fun i e blk he => by simp at he)
  rwa [rowI_nil, List.append_nil] at this

/-! ### Values without places -/
noncomputable def flatN (n : Nat) : AV → Bool := @Nat.rec (fun _ => AV → Bool) (fun _ => false) (fun _ ih v =>
  match v with
  | .bool _ => true
  | .int _ _ => true
  | .float _ _ => true
  | .str _ => true
  | .nilptr => true
  | .nilslice => true
  | .nilmap => true
  | .nilfunc => true
  | .niliface => true
  | .sym _ => true
  | .iface _ v => ih v
  | .agg cs => cs.all ih
  | .tuple cs => cs.all ih
  | _ => false) n
theorem VRs.flat {μ μ' : Inj} {f : AV → Bool} (hf : ∀ v u, f v = true → VR P μ v u → VR P μ' v u) : ∀ {vs : List AV} {us : List Value}, vs.all f = true → VRs P μ vs us → VRs P μ' vs us
  | [], _, _, h => by cases h; exact .nil
  | v :: vs, _, ha, h => by
    rw [List.all_cons, Bool.and_eq_true] at ha
    cases h with
    | cons _ u _ us h1 h2 => exact .cons v u vs us (hf v u ha.1 h1) (VRs.flat hf ha.2 h2)
theorem VR.flat {μ μ' : Inj} : ∀ (n : Nat) (v : AV) (u : Value), flatN n v = true → VR P μ v u → VR P μ' v u := by
  intro n
  induction n with
  | zero => intro v u h; cases h
  | succ n ih =>
    intro v u h hv
    cases hv <;> first | (cases h; done) | skip
    case bool b => exact .bool b
    case int k n => exact .int k n
    case float k n => exact .float k n
    case str l s hs => exact .str l s hs
    case nilptr => exact .nilptr
    case nilslice => exact .nilslice
    case nilmap => exact .nilmap
    case nilfunc => exact .nilfunc
    case iface t v u hv => exact .iface t v u (ih v u h hv)
    case niliface => exact .niliface
    case agg cs C hC ho => exact .agg cs C (VRs.flat ih h hC) ho
    case tuple cs C hC => exact .tuple cs C (VRs.flat ih h hC)
    case sym i => exact .sym i

/-! ### Calls that are known -/
def Known (P : Program) (x : FuncId × List PArg × ORes) : Prop := (∃ fn c, P.funcs[x.1]? = some fn ∧ fn.body = some c) ∧
  ∀ N μ s w cs args us, fitArgs s x.2.1 args = true → SR P N μ s w → VRs P μ args us → Ended P N (.norm cs) x.1 (lone (Frame.enter P x.1 us.toArray .normal) cs w) μ s w (x.2.2.out s)
theorem orcOf_ok : ∀ {l : List (FuncId × List PArg × ORes)}, (∀ x ∈ l, Known P x) → OrcOK P (orcOf l)
  | [], _ => fun f args s x h => by cases h
  | y :: l, hk => fun f args s x h => by
    replace h : cnd (Nat.beq y.1 f) (cnd (fitArgs s y.2.1 args) (some y.2.2) (orcOf l f args s)) (orcOf l f args s) = some x := h
    cases h1 : Nat.beq y.1 f with
    | false => rw [h1] at h; exact orcOf_ok (fun z hz => hk z (List.mem_cons_of_mem _ hz)) f args s x h
    | true =>
      rw [h1] at h
      replace h : cnd (fitArgs s y.2.1 args) (some y.2.2) (orcOf l f args s) = some x := h
      cases h2 : fitArgs s y.2.1 args with
      | false => rw [h2] at h; exact orcOf_ok (fun z hz => hk z (List.mem_cons_of_mem _ hz)) f args s x h
      | true =>
        rw [h2] at h
        cases h
        have e1 : y.1 = f := Nat.eq_of_beq_eq_true h1
        subst e1
        obtain ⟨q1, q2⟩ := hk y (List.mem_cons_self ..)
        exact ⟨q1, fun N μ w cs us => q2 N μ s w cs args us h2⟩
theorem noOrc_ok : OrcOK P noOrc := fun f args s x h => by cases h
mutual
/-- Are the arguments without places, but for their rows? -/
noncomputable def flatP (k : Nat) : PArg → Bool
  | .val v => flatN k v
  | .row _ l => flatPs k l
  | .agg l => flatPs k l
noncomputable def flatPs (k : Nat) : List PArg → Bool
  | [] => true
  | p :: ps => flatP k p && oneP p && flatPs k ps
noncomputable def oneP : PArg → Bool
  | .val v => v.one
  | .row _ _ => true
  | .agg _ => false
end
theorem lay_one : ∀ (ps : List PArg) (m k : Nat), flatPs k ps = true → ones (layArgs ps m).1 = true
  | [], m, k, _ => by rw [layArgs]; rfl
  | p :: ps, m, k, h => by
    rw [flatPs, Bool.and_eq_true, Bool.and_eq_true] at h
    rw [layArgs]
    show cnd (layArg p m).1.one (ones (layArgs ps (m + (layArg p m).2.length)).1) false = true
    have h1 : (layArg p m).1.one = true := by
      cases p with
      | val v => rw [layArg]; have := h.1.2; rw [oneP] at this; exact this
      | row n l => rw [layArg]; rfl
      | agg l => have := h.1.2; rw [oneP] at this; cases this
    rw [h1]
    exact lay_one ps _ k h.2
section
variable {N : Nat} {μ : Inj} {s : St}
mutual
/-- An argument's rows, found in the world. -/
theorem fit_arg (hs : SR P N μ s w) {k : Nat} : ∀ (p : PArg) (v : AV) (u : Value) (m : Nat), flatP k p = true → fitArg s p v = true → VR P μ v u →
    ∃ es : List Ent, es.length = (layArg p m).2.length ∧ ∀ ν : Inj, (∀ (i : Nat) (e : Ent), es[i]? = some e → ν (pos (m + i)) = some e) → VR P ν (layArg p m).1 u ∧
      ∀ (i : Nat) (e : Ent) (blk : ABlk), es[i]? = some e → (layArg p m).2[i]? = some blk → BR P w.heap.size ν w blk e ∧ e.a.block < w.heap.size
  | .val v', v, u, m, hfl, hf, hv => by
    rw [flatP] at hfl
    rw [fitArg] at hf
    have e := eqAV_eq 4 v' v hf
    subst e
    rw [layArg]
    exact ⟨[], rfl, fun ν hν => ⟨VR.flat k _ _ hfl hv, fun i e blk he => by simp at he⟩⟩
  | .agg l, v, u, m, hfl, hf, hv => by
    rw [flatP] at hfl
    rw [fitArg] at hf
    rw [layArg]
    cases hv <;> first | (cases hf; done) | skip
    case agg cs C hC ho =>
      obtain ⟨es, h1, h2⟩ := fit_args hs l cs C m hfl hf hC
      exact ⟨es, h1, fun ν hν => ⟨.agg _ _ (h2 ν hν).1 (lay_one l m k hfl), (h2 ν hν).2⟩⟩
  | .row n l, v, u, m, hfl, hf, hv => by
    rw [flatP] at hfl
    rw [fitArg] at hf
    rw [layArg]
    cases hv <;> first | (cases hf; done) | skip
    case slice b o n' lim wh e ad c he had hn hm hlim hc =>
      replace hf : cnd (Nat.beq o 0) (cnd (Nat.beq n' n) (@Option.rec (List AV) (fun _ => Bool) false (fun vs => fitArgs s l vs) (s.cells b 0 l.length)) false) false = true := hf
      obtain ⟨q1, q2⟩ := cnd_and hf
      obtain ⟨q2, q3⟩ := cnd_and q2
      have q1 : o = 0 := Nat.eq_of_beq_eq_true q1
      have q2 : n' = n := Nat.eq_of_beq_eq_true q2
      subst q1
      subst q2
      cases hcs : s.cells b 0 l.length with
      | none => rw [hcs] at q3; cases q3
      | some vs =>
        rw [hcs] at q3
        obtain ⟨hvl, _, us, r0, r1, r2⟩ := hs.cellsAt he hcs
        obtain ⟨es, h1, h2⟩ := fit_args hs l vs us m hfl q3 r0
        have hlt : e.a.block < w.heap.size := by obtain ⟨kb, _, hbr⟩ := hs.blk b e he; exact hbr.lt
        refine ⟨es ++ [⟨e.a, none⟩], by rw [List.length_append, List.length_append, h1]; rfl, fun ν hν => ?_⟩
        have hν1 : ∀ (i : Nat) (e : Ent), es[i]? = some e → ν (pos (m + i)) = some e := fun i e he => hν i e (by rw [List.getElem?_append_left (List.getElem?_eq_some_iff.1 he).1]; exact he)
        obtain ⟨h3, h4⟩ := h2 ν hν1
        have hown := hν es.length ⟨e.a, none⟩ (by simp)
        rw [h1] at hown
        refine ⟨.slice _ 0 n' false false ⟨e.a, none⟩ ad c hown ?_ hn hm (fun h => by cases h) (fun h => by cases h), fun i e' blk hi hblk => ?_⟩
        · rcases had with had | ⟨_, h0⟩
          · exact .inl had
          · exact absurd rfl h0
        · by_cases hil : i < es.length
          · rw [List.getElem?_append_left hil] at hi
            rw [List.getElem?_append_left (by rw [← h1]; exact hil)] at hblk
            exact h4 i e' blk hi hblk
          · rw [List.getElem?_append_right (by omega)] at hi
            rw [List.getElem?_append_right (by rw [← h1]; omega), ← h1] at hblk
            have hi0 : i - es.length = 0 := by
              have := (List.getElem?_eq_some_iff.1 hi).1
              simp at this
              omega
            rw [hi0] at hi hblk
            simp only [List.getElem?_cons_zero, Option.some.injEq] at hi hblk
            subst hi
            subst hblk
            refine ⟨⟨rfl, hlt, fun i hi => ?_⟩, hlt⟩
            have hi : i < (layArgs l m).1.length := hi
            have r3 : (layArgs l m).1[i]? = some (layArgs l m).1[i] := List.getElem?_eq_getElem hi
            obtain ⟨v, r4, r5⟩ := h3.get r3
            have hll : i < l.length := by
              have := (List.getElem?_eq_some_iff.1 r4).1
              omega
            have r6 := r2 i hll
            rw [Nat.zero_add, r4] at r6
            exact ⟨_, v, by rw [Cs.of_get]; exact r3, r6, r5, ones_get (lay_one l m k hfl) r3⟩
theorem fit_args (hs : SR P N μ s w) {k : Nat} : ∀ (ps : List PArg) (vs : List AV) (us : List Value) (m : Nat), flatPs k ps = true → fitArgs s ps vs = true → VRs P μ vs us →
    ∃ es : List Ent, es.length = (layArgs ps m).2.length ∧ ∀ ν : Inj, (∀ (i : Nat) (e : Ent), es[i]? = some e → ν (pos (m + i)) = some e) → VRs P ν (layArgs ps m).1 us ∧
      ∀ (i : Nat) (e : Ent) (blk : ABlk), es[i]? = some e → (layArgs ps m).2[i]? = some blk → BR P w.heap.size ν w blk e ∧ e.a.block < w.heap.size
  | [], vs, us, m, _, hf, ha => by
    rw [fitArgs] at hf
    rw [layArgs]
    cases vs with
    | nil => cases ha; exact ⟨[], rfl, fun ν _ => ⟨.nil, fun i e blk he => by simp at he⟩⟩
    | cons v vs => cases hf
  | p :: ps, vs, us, m, hfl, hf, ha => by
    rw [flatPs, Bool.and_eq_true, Bool.and_eq_true] at hfl
    rw [fitArgs] at hf
    rw [layArgs]
    cases vs with
    | nil => cases hf
    | cons v vs =>
      cases ha with
      | cons _ u _ us hv hvs =>
        replace hf : cnd (fitArg s p v) (fitArgs s ps vs) false = true := hf
        obtain ⟨hf1, hf2⟩ := cnd_and hf
        obtain ⟨es1, a1, a2⟩ := fit_arg hs p v u m hfl.1.1 hf1 hv
        obtain ⟨es2, b1, b2⟩ := fit_args hs ps vs us (m + (layArg p m).2.length) hfl.2 hf2 hvs
        refine ⟨es1 ++ es2, by rw [List.length_append, List.length_append, a1, b1], fun ν hν => ?_⟩
        obtain ⟨c1, c2⟩ := a2 ν fun i e he => hν i e (by rw [List.getElem?_append_left (List.getElem?_eq_some_iff.1 he).1]; exact he)
        obtain ⟨d1, d2⟩ := b2 ν fun i e he => by
          have := hν (es1.length + i) e (by rw [List.getElem?_append_right (by omega), Nat.add_sub_cancel_left]; exact he)
          rwa [← a1, Nat.add_assoc]
        refine ⟨.cons _ _ _ _ c1 d1, fun i e blk hi hblk => ?_⟩
        by_cases hil : i < es1.length
        · rw [List.getElem?_append_left hil] at hi
          rw [List.getElem?_append_left (by rw [← a1]; exact hil)] at hblk
          exact c2 i e blk hi hblk
        · rw [List.getElem?_append_right (by omega)] at hi
          rw [List.getElem?_append_right (by rw [← a1]; omega)] at hblk
          exact d2 _ e blk hi (by rw [a1]; exact hblk)
end
end
/-- The arguments of a call: of any number of cells each. -/
noncomputable def topP (k : Nat) : List PArg → Bool
  | [] => true
  | p :: ps => flatP k p && topP k ps
theorem fit_top {N : Nat} {μ : Inj} {s : St} (hs : SR P N μ s w) {k : Nat} : ∀ (ps : List PArg) (vs : List AV) (us : List Value) (m : Nat), topP k ps = true → fitArgs s ps vs = true → VRs P μ vs us →
    ∃ es : List Ent, es.length = (layArgs ps m).2.length ∧ ∀ ν : Inj, (∀ (i : Nat) (e : Ent), es[i]? = some e → ν (pos (m + i)) = some e) → VRs P ν (layArgs ps m).1 us ∧
      ∀ (i : Nat) (e : Ent) (blk : ABlk), es[i]? = some e → (layArgs ps m).2[i]? = some blk → BR P w.heap.size ν w blk e ∧ e.a.block < w.heap.size
  | [], vs, us, m, _, hf, ha => by
    rw [fitArgs] at hf
    rw [layArgs]
    cases vs with
    | nil => cases ha; exact ⟨[], rfl, fun ν _ => ⟨.nil, fun i e blk he => by simp at he⟩⟩
    | cons v vs => cases hf
  | p :: ps, vs, us, m, hfl, hf, ha => by
    rw [topP, Bool.and_eq_true] at hfl
    rw [fitArgs] at hf
    rw [layArgs]
    cases vs with
    | nil => cases hf
    | cons v vs =>
      cases ha with
      | cons _ u _ us hv hvs =>
        replace hf : cnd (fitArg s p v) (fitArgs s ps vs) false = true := hf
        obtain ⟨hf1, hf2⟩ := cnd_and hf
        obtain ⟨es1, a1, a2⟩ := fit_arg hs p v u m hfl.1 hf1 hv
        obtain ⟨es2, b1, b2⟩ := fit_top hs ps vs us (m + (layArg p m).2.length) hfl.2 hf2 hvs
        refine ⟨es1 ++ es2, by rw [List.length_append, List.length_append, a1, b1], fun ν hν => ?_⟩
        obtain ⟨c1, c2⟩ := a2 ν fun i e he => hν i e (by rw [List.getElem?_append_left (List.getElem?_eq_some_iff.1 he).1]; exact he)
        obtain ⟨d1, d2⟩ := b2 ν fun i e he => by
          have := hν (es1.length + i) e (by rw [List.getElem?_append_right (by omega), Nat.add_sub_cancel_left]; exact he)
          rwa [← a1, Nat.add_assoc]
        refine ⟨.cons _ _ _ _ c1 d1, fun i e blk hi hblk => ?_⟩
        by_cases hil : i < es1.length
        · rw [List.getElem?_append_left hil] at hi
          rw [List.getElem?_append_left (by rw [← a1]; exact hil)] at hblk
          exact c2 i e blk hi hblk
        · rw [List.getElem?_append_right (by omega)] at hi
          rw [List.getElem?_append_right (by rw [← a1]; omega)] at hblk
          exact d2 _ e blk hi (by rw [a1]; exact hblk)
/-- A run from the beginning, wherever it is made. -/
theorem from_start (hP : NoNum P) {bs : List ABlk} (hB : BaseOK P bs) {orc : Orc} (ho : OrcOK P orc) {f : FuncId} {ps : List PArg} {n k : Nat} (hfl : topP k ps = true) {v : AV} {rc : Option AMode} {s1 : St}
    (hr : run P orc n (.call f (layArgs ps bs.length).1 none) AAct.none (vstart (bs ++ (layArgs ps bs.length).2)) = some (.fin (.returned v) rc s1)) :
    (∃ fn c, P.funcs[f]? = some fn ∧ fn.body = some c) ∧ ∀ N μ s w cs args us, fitArgs s ps args = true → SR P N μ s w → VRs P μ args us →
      ∃ μ₀ μ' w' V fr, Goes P w.heap.size μ₀ (vstart (bs ++ (layArgs ps bs.length).2)) w μ' s1 w' ∧ Kept w w' ∧ VR P μ' v V ∧ Steps P (lone (Frame.enter P f us.toArray .normal) cs w) (lone fr cs w') ∧ fr.fn = f ∧ fr.kind = .normal ∧ fr.going P w' (.returned V) := by
  have hc := (run_all (N := 0) hP ho n).call _ _ _ _ _ _ hr
  refine ⟨hc.1, fun N μ s w cs args us hfit hs ha => ?_⟩
  obtain ⟨es, h1, h2⟩ := fit_top hs ps args us bs.length hfl hfit ha
  obtain ⟨hargs, h3⟩ := h2 (rowI P es) fun i e he => by
    unfold rowI
    rw [pos_toNat, hB.2.1, if_neg (by omega), Nat.add_sub_cancel_left]
    exact he
  have hsr := start_rows hB hs.base h1 h3
  obtain ⟨μ', w', u', V, fr, hg, _, hV, hst, hfn, hk, hgo⟩ := ((run_all (N := w.heap.size) hP ho n).call _ _ _ _ _ _ hr).2 (rowI P es) w (.norm cs) .run us hsr hargs (.norm _ _)
  exact ⟨_, μ', w', V, fr, hg, ⟨hg.ev.os, hg.ev.tape, hg.ev.output, hg.ev.size, fun j hj => hg.ev.same j hj (.inl hj)⟩, hV, hst, hfn, hk, hgo⟩
theorem known_flat (hP : NoNum P) {bs : List ABlk} (hB : BaseOK P bs) {orc : Orc} (ho : OrcOK P orc) {f : FuncId} {ps : List PArg} {n k : Nat} {v : AV} (hfl : topP k ps = true) (hv : flatN k v = true)
    (hr : isFlat v (run P orc n (.call f (layArgs ps bs.length).1 none) AAct.none (vstart (bs ++ (layArgs ps bs.length).2))) = true) : Known P (f, ps, .flat v) := by
  cases hr1 : run P orc n (.call f (layArgs ps bs.length).1 none) AAct.none (vstart (bs ++ (layArgs ps bs.length).2)) with
  | none => rw [hr1] at hr; cases hr
  | some o =>
    rw [hr1] at hr
    cases o with
    | «at» => cases hr
    | fin e rc s1 => cases e with
      | panicked c => cases hr
      | returned v' =>
        have e := eqAV_eq 6 v' v hr
        subst e
        obtain ⟨h1, h2⟩ := from_start hP hB ho hfl hr1
        refine ⟨h1, fun N μ s w cs args us hfit hs ha => ?_⟩
        obtain ⟨μ₀, μ', w', V, fr, hg, hk, hV, hst, hfn, hkd, hgo⟩ := h2 N μ s w cs args us hfit hs ha
        exact ⟨μ, w', .run, V, fr, ⟨Ext.refl _ _, fun _ _ h => .inl h, Nat.le_refl _, ⟨hk.os, hk.tape, hk.output, hk.size, fun j hj _ => hk.same j hj⟩, hs.kept hk⟩, .norm _ _, VR.flat k _ _ hv hV, hst, hfn, hkd, hgo⟩
theorem known_row (hP : NoNum P) {bs : List ABlk} (hB : BaseOK P bs) {orc : Orc} (ho : OrcOK P orc) {f : FuncId} {ps : List PArg} {n k : Nat} {t : TypeId} {l : List AV} (hfl : topP k ps = true) (hl : l.all (flatN k) = true) (hon : ones l = true)
    (hr : isRow t l (run P orc n (.call f (layArgs ps bs.length).1 none) AAct.none (vstart (bs ++ (layArgs ps bs.length).2))) = true) : Known P (f, ps, .ptr t l) := by
  cases hr1 : run P orc n (.call f (layArgs ps bs.length).1 none) AAct.none (vstart (bs ++ (layArgs ps bs.length).2)) with
  | none => rw [hr1] at hr; cases hr
  | some o =>
    rw [hr1] at hr
    unfold isRow at hr
    split at hr
    · rename_i b rc s1 heq
      cases heq
      split at hr
      · rename_i t' len c hget
        simp only [Bool.and_eq_true] at hr
        obtain ⟨⟨e1, e2⟩, e3⟩ := hr
        have e1 : t' = t := Nat.eq_of_beq_eq_true e1
        have e2 : len = l.length := Nat.eq_of_beq_eq_true e2
        subst e1
        split at e3
        · rename_i l' hsub
          have e3 := eqL_eq (eqAV_eq 6) e3
          subst e3
          obtain ⟨h1, h2⟩ := from_start hP hB ho hfl hr1
          refine ⟨h1, fun N μ s w cs args us hfit hs ha => ?_⟩
          obtain ⟨μ₀, μ', w', V, fr, hg, hk, hV, hst, hfn, hkd, hgo⟩ := h2 N μ s w cs args us hfit hs ha
          cases hV with
          | ptr _ _ e he =>
            obtain ⟨kb, hkb, hbr⟩ := hg.sr.blk b e he
            rw [hget] at hkb
            cases hkb
            obtain ⟨g, sz, cur, rfl, hN, hgh, hsz, hle, hcr⟩ := hbr
            have hN : w.heap.size ≤ g := hN
            have hlay := hs.laid (e := ⟨⟨g, 0, none⟩, some (sz, t')⟩) (k := .cells true t' l'.length (.of l')) (w' := w') ⟨hk.os, hk.tape, hk.output, hk.size, fun j hj _ => hk.same j hj⟩ hN (by
              refine ⟨g, sz, cur, rfl, Nat.le_trans hs.hN hN, hgh, hsz, by omega, fun i hi => ?_⟩
              obtain ⟨av, u, q1, q2, q3, q4⟩ := hcr i (by omega)
              have hli : l'[i]? = some av := by
                have := (Cs.sub_spec hsub (by omega : 0 + len ≤ len) (fun i hi => by obtain ⟨x, _, q1, _⟩ := hcr i hi; rw [q1]; rfl)).2 i (by omega)
                rw [Nat.zero_add, q1] at this
                exact this.symm
              refine ⟨av, u, by rw [Cs.of_get]; exact hli, q2, VR.flat k av u (List.all_eq_true.1 hl av (List.mem_of_getElem? hli)) q3, q4⟩)
            exact ⟨_, w', .run, _, fr, hlay, .norm _ _, by simpa [add_nil] using VR.ptr (P := P) s.n 0 _ (upd_n _ _ _), hst, hfn, hkd, hgo⟩
        · cases e3
      · cases hr
    · cases hr

/-- HOW IT RUNS. -/
theorem calls_true (hP : NoNum P) {bs : List ABlk} (hB : BaseOK P bs) {orc : Orc} (ho : OrcOK P orc) {f : FuncId} {args : List AV} {n : Nat} (hrun : isT (run P orc n (.call f args none) AAct.none (vstart bs)) = true) (h : Env.base w) {us : List Value} (ha : VRs P (globI P) args us) :
    Calls P f us.toArray w fun e w' => e = .returned (.bool true) ∧ Below w.heap.size w w' := by
  intro cs
  cases hr : run P orc n (.call f args none) AAct.none (vstart bs) with
  | none => rw [hr] at hrun; cases hrun
  | some o =>
    rw [hr] at hrun
    cases o with
    | «at» => cases hrun
    | fin e rc s' =>
      cases e with
      | panicked c => cases hrun
      | returned v =>
        have hv : v = .bool true := by
          cases v <;> first | (cases hrun; done) | skip
          rename_i b
          have : b = true := hrun
          rw [this]
        subst hv
        obtain ⟨μ', w', u', V, fr, hg, _, hV, hst, hfn, hk, hgo⟩ := ((run_all (N := w.heap.size) hP ho n).call _ _ _ _ _ _ hr).2 (globI P) w (.norm cs) .run us (start_sr hB h) ha (.norm _ _)
        have hVt : V = .bool true := by cases hV; rfl
        subst hVt
        exact ⟨.returned (.bool true), w', fr, ⟨rfl, hg.ev.below (Nat.le_refl _)⟩, hst, hfn, hgo.1, hgo.2.1, hk, hgo.2.2⟩
end

section
variable {P : Program} {w : World}
/-- What is asked of the program beside the run: closed facts. -/
theorem noNum_of (h : (P.funcs.toList.all fun fn => !(fn.name == "runtime.NumGoroutine")) = true) : NoNum P := fun f fn hf => by
  have := List.all_eq_true.1 h fn (by have := Array.mem_of_getElem? hf; simpa using this)
  simpa using this
theorem open_size {P : Program} {w : World} (h : w.ShapedOpen P) (hb : decide (P.globals.size < (begin P (fun _ _ => 0) default).world.heap.size) = true) : P.globals.size ≤ w.heap.size := by
  obtain ⟨o, _, ho, _⟩ := h.2 P.globals.size (Nat.le_refl _) (of_decide_eq_true hb)
  exact Nat.le_of_lt (Array.getElem?_eq_some_iff.1 ho).1
end

section
variable {P : Program} {w : World}
theorem laid_reads : ∀ {l : List (String × DataW Unit)} {ps : List MemPlace}, DataW.LaidVars P w l ps → ∀ n d, (n, d) ∈ l →
    ∃ g t cs fuel p, P.globalNamed n = some g ∧ (P.globals[g]?).map (·.type) = some t ∧ w.var? P n = some cs ∧ DataW.trod (fun _ => ()) P w 0 (fun _ => true) false fuel t cs.toList = some (d, p)
  | [], _, _, _, _, hm => by cases hm
  | (n', d') :: r, ps, h, n, d, hm => by
    obtain ⟨g, t, cs, fuel, p, q, h1, h2, h3, h4, h5, _⟩ := h
    rcases List.mem_cons.1 hm with e | e
    · cases e
      exact ⟨g, t, cs, fuel, p, h1, h2, h3, h4⟩
    · exact laid_reads h5 n d e
/-- AN ARRAY OF INTEGERS THAT THE ROW LISTS. -/
theorem laidMetH_part {laid : List (String × DataW Unit)} (h : laidMetH P laid w) : laidMet P (laid.filter fun x => x.2.handleName?.isNone) w := by
  unfold laidMetH at h
  split at h
  · rename_i hf
    have e : (laid.filter fun x => x.2.handleName?.isNone) = laid := by
      rw [List.filter_eq_self]
      intro x hx
      have := (List.filter_eq_nil_iff.1 hf) x hx
      cases hn : x.2.handleName? with
      | none => rfl
      | some s => rw [hn] at this; exact absurd rfl this
    rw [e]
    exact h
  · exact h.1
theorem tab_holds {laid : List (String × DataW Unit)} (h : laidMetH P laid w) {name : String} {k : IntKind} {zs : List Int} (hm : (name, Lib.tabData k zs) ∈ laid) {g t e : Nat} {n : Nat}
    (hg : P.globalNamed name = some g) (ht : (P.globals[g]?).map (·.type) = some t) (hu : P.underlying t = some (.array n e)) (he : P.underlying e = some (.int k)) (hce : P.cellsOf e = 1) (hct : P.cellsOf t = n) {m : Nat} (hlen : m = zs.length) (t' : TypeId) :
    holdsB w g (.cells false t' m (.of (zs.map fun z => .int k z))) := by
  obtain ⟨ps, hv, _⟩ := laidMetH_part h
  obtain ⟨g', t'', cs, fuel, p, h1, h2, h3, h4⟩ := laid_reads hv _ _ (List.mem_filter.2 ⟨hm, rfl⟩)
  obtain rfl := Option.some.inj (hg.symm.trans h1)
  obtain rfl := Option.some.inj (ht.symm.trans h2)
  have hcs := Lib.cells_of_tab hu he hce hct h4
  refine ⟨t', m, _, rfl, fun i hi => ?_⟩
  have hi' : i < zs.length := by omega
  refine ⟨.int k zs[i], .int k zs[i], by rw [Cs.of_get]; simp [hi'], ?_, rfl, rfl⟩
  rw [World.var?_cell h1 h3 i]
  have : cs.toList[i]? = some (.int k zs[i]) := by rw [hcs]; simp [hi']
  simpa using this
/-- A world in which the listed variables hold what is listed, one of them a type's handle. -/
noncomputable def handB (P : Program) (os : Os) (g : Nat) (v : Value) : World :=
  { World.holding P os ⟨#[], #[], []⟩ with heap := (World.holding P os ⟨#[], #[], []⟩).heap.modify g fun
      | .cells _ t fz => .cells #[v] t fz
      | o => o }
noncomputable def handW (P : Program) (os : Os) (laid : List (String × DataW Unit)) (g : Nat) (v : Value) : World := (handB P os g v).layVars P (laid.filter fun x => x.2.handleName?.isNone)
theorem handW_os (P : Program) (os : Os) (laid : List (String × DataW Unit)) (g : Nat) (v : Value) : (handW P os laid g v).os = os := (World.layVars_os _ _ _).trans rfl
theorem laidMetH_handW {P : Program} {os : Os} {laid : List (String × DataW Unit)} {g : Nat} {v : Value} (args : Array Value)
    (hf : (handB P os g v).layFits P (laid.filter fun x => x.2.handleName?.isNone) [] = true)
    (hi : (handB P os g v).layIfaces P (laid.filter fun x => x.2.handleName?.isNone) (handW P os laid g v) = true)
    (hh : (laid.filter fun x => x.2.handleName?.isSome).all (handleAtB P ((handW P os laid g v).forCall (fun _ _ => 0) ⟨#[], args, []⟩).memory) = true) :
    laidMetH P laid ((handW P os laid g v).forCall (fun _ _ => 0) ⟨#[], args, []⟩).memory := by
  refine laidMetH_of_parts ?_ hh
  generalize hl : (laid.filter fun x => x.2.handleName?.isNone) = l at *
  have e1 : (l.filter fun x => (l.map (·.1)).contains x.1) = l := List.filter_eq_self.2 fun x hx => List.contains_iff_mem.2 (List.mem_map.2 ⟨x, hx, rfl⟩)
  have e2 : (l.filter fun x => !(l.map (·.1)).contains x.1) = [] := List.filter_eq_nil_iff.2 fun x hx => by rw [List.contains_iff_mem.2 (List.mem_map.2 ⟨x, hx, rfl⟩)]; simp
  have h : laidMet P l (handW P os laid g v) := laidMet_layVars (w0 := handB P os g v) (l.map (·.1)) [] (by rw [e1]; unfold handW; rw [hl]) (by rw [e1]; exact hf) (by rw [e1]; exact hi) (by rw [e2]; exact LaidIn.none)
  exact h.of_heap (by simp [World.memory, World.forCall, Input.heap])
/-- A variable that is not looked at. -/
theorem none_holds (g : Nat) (t : TypeId) : holdsB w g (.cells false t 0 (.few [])) := ⟨t, 0, _, rfl, fun i hi => absurd hi (Nat.not_lt_zero i)⟩
end

section
variable {H : Type} {enc : TypeId × Value → H}
/-- THE ROW OF A LAW WITHOUT PARAMETERS, LIFTED. -/
theorem lifted_of {C : Checked} {os : Os} {f : FuncId} {fn : Func} {s : ChangeSpec} {conds : List PathCond} {handsOn : Bool} {laid : List (String × DataW Unit)} {t : TypeId}
    (own : ownKnob C.prog.godebug = none) (started : os.Started) (noInit : C.prog.inits.idxOf? f = none) (hfn : C.prog.funcs[f]? = some fn) (hps : fn.params = #[]) (hrs : fn.resultTypes = #[t]) (ht : C.prog.underlying t = some .bool) (hvars : s.vars = [])
    (hspec : ∀ H : Type, s.fn H [] = { results := [.lit (.bool true)], args := [], vars := [] })
    (witness : ∃ (w : World) (tape : Tape) (i : Input), w.os = os ∧ (w.forCall tape i).Shaped C.prog ∧ i.vars = [] ∧ Input.okWide C.prog (w.forCall tape i) .any w.heap.size f i ∧
      ((s.pre enc C.prog fn conds false (w.forCall tape i).memory i.args ∧ laidMetH C.prog laid (w.forCall tape i).memory) ∧ sizedMet enc C.prog fn (OpenSpec.ofChange s) false (w.forCall tape i).memory i.args) ∧ ({} : Assume).holds C.prog (lone (Frame.enter C.prog f i.args .normal) [] (w.forCall tape i)))
    (hcalls : ∀ w : World, w.ShapedOpen C.prog → laidMetH C.prog laid w → Calls C.prog f #[] w fun e w' => e = .returned (.bool true) ∧ Below w.heap.size w w') :
    ReturnsInHanded {} C os f .any (fun w args => (s.pre enc C.prog fn conds false w args ∧ laidMetH C.prog laid w) ∧ sizedMet enc C.prog fn (OpenSpec.ofChange s) false w args) (s.post enc C.prog fn false true handsOn false) := by
  refine returnsInHanded_of_calls own started noInit witness ?_
  intro w tape i _ hshape _ hok hpre hholds
  obtain ⟨⟨⟨ds, gs, before, hw, hc⟩, hx⟩, hz⟩ := hpre
  have hw' := DataW.Whole.of_heap (w' := w.forCall tape i) (by rfl) hw
  have hx' : laidMetH C.prog laid (w.forCall tape i) := hx.of_heap (by rfl)
  have hw0 := hw'
  obtain ⟨p, q, hA, hV, rfl, _, _⟩ := hw'
  rw [hps] at hA
  rw [hvars] at hV
  obtain ⟨rfl, rfl⟩ := trodVars_none hV
  have hargs : i.args = #[] ∧ ds = [] ∧ p = [] := by
    generalize hal : i.args.toList = al at hA
    cases al with
    | nil =>
      cases ds with
      | nil => exact ⟨by rw [← Array.toList_inj]; exact hal, rfl, hA⟩
      | cons d ds => exact hA.elim
    | cons a al => cases ds <;> exact hA.elim
  obtain ⟨ha, rfl, rfl⟩ := hargs
  rw [ha] at hw0 ⊢
  refine (hcalls _ hshape hx').mono fun e W' ⟨he, hb⟩ => ?_
  subst he
  refine ChangeSpec.post_blind ⟨[], [], [] ++ [], [], [], [], hw0, ?_, ?_, ?_, hb.frame _, fun h => by cases h⟩
  · rw [show ([] : List (DataW H)) ++ [] = [] from rfl, hspec, hrs]
    exact trodAll_mk1 (shut_bool ht _)
  · rw [show ([] : List (DataW H)) ++ [] = [] from rfl, hspec, hps]
    exact trodAll_mk0
  · rw [show ([] : List (DataW H)) ++ [] = [] from rfl, hspec, hvars]
    rfl
end
end Go.Proofs.Vai
/- Calls that are known to come to a value and new rows. -/
namespace Go.Proofs.Vai
open Go Go.RowKit

mutual
/-- Values without places, but for the rows; rows of values of one cell. -/
noncomputable def flatR (k : Nat) : PRes → Bool
  | .val v => flatN k v
  | .row _ _ _ _ _ l => flatRs k l && onesR l
  | .ptr _ l => flatRs k l && onesR l
  | .agg l => flatRs k l && onesR l
  | .tup l => flatRs k l
noncomputable def flatRs (k : Nat) : List PRes → Bool
  | [] => true
  | p :: ps => flatR k p && flatRs k ps
noncomputable def oneR : PRes → Bool
  | .val v => v.one
  | .row _ _ _ _ _ _ => true
  | .ptr _ _ => true
  | .agg _ => false
  | .tup _ => false
noncomputable def onesR : List PRes → Bool
  | [] => true
  | p :: ps => oneR p && onesR ps
end

section
variable [Env] {P : Program} {w : World}
theorem lay_oneR : ∀ (ps : List PRes) (m : Nat), onesR ps = true → ones (layRess ps m).1 = true
  | [], m, _ => by rw [layRess]; rfl
  | p :: ps, m, h => by
    rw [onesR, Bool.and_eq_true] at h
    rw [layRess]
    show cnd (layRes p m).1.one (ones (layRess ps (m + (layRes p m).2.length)).1) false = true
    have h1 : (layRes p m).1.one = true := by
      cases p with
      | val v => rw [layRes]; have := h.1; rw [oneR] at this; exact this
      | row t o n lim wh l => rw [layRes]; rfl
      | ptr t l => rw [layRes]; rfl
      | agg l => have := h.1; rw [oneR] at this; cases this
      | tup l => have := h.1; rw [oneR] at this; cases this
    rw [h1]
    exact lay_oneR ps _ h.2
theorem lay_len : ∀ (ps : List PRes) (m : Nat), (layRess ps m).1.length = ps.length
  | [], m => by rw [layRess]; rfl
  | p :: ps, m => by rw [layRess]; simp [lay_len ps]
theorem ownRow_some {s : St} {b : Pos} {t : TypeId} {n : Nat} {vs : List AV} (h : ownRow s b t n = some vs) : ∃ c, s.h.get b = some (.cells true t n c) ∧ c.sub 0 n = some vs := by
  unfold ownRow at h
  split at h
  · rename_i t' len c hg
    obtain ⟨h1, h2⟩ := cnd_none.1 h
    rw [Bool.and_eq_true] at h1
    rw [hg, Nat.eq_of_beq_eq_true h1.1, Nat.eq_of_beq_eq_true h1.2]
    exact ⟨c, rfl, h2⟩
  · cases h
theorem sliceParts_some {v : AV} {q : Pos × Nat × Nat × Bool × Bool} (h : sliceParts v = some q) : v = .slice q.1 q.2.1 q.2.2.1 q.2.2.2.1 q.2.2.2.2 := by
  unfold sliceParts at h
  split at h
  · cases h; rfl
  · cases h
theorem ptrPart_some {v : AV} {b : Pos} (h : ptrPart v = some b) : v = .ptr b 0 := by
  unfold ptrPart at h
  split at h
  · cases h; rfl
  · cases h
theorem tupPart_some {v : AV} {l : List AV} (h : tupPart v = some l) : v = .tuple l := by
  unfold tupPart at h
  split at h
  · cases h; rfl
  · cases h
theorem aggOf_some {v : AV} {l : List AV} (h : aggOfA v = some l) : v = .agg l := by
  unfold aggOfA at h
  split at h
  · cases h; rfl
  · cases h

section
variable {N : Nat} {μ : Inj} {s : St}
/-- Where rows lie: each in a block of the run's own. -/
def Lies (s : St) (μ : Inj) (ps : List Pos) (es : List Ent) : Prop :=
  ps.length = es.length ∧ ∀ (i : Nat) (e : Ent), es[i]? = some e → ∃ b t len c, ps[i]? = some b ∧ μ b = some e ∧ s.h.get b = some (.cells true t len c)
theorem Lies.nil : Lies s μ [] [] := ⟨rfl, fun i e h => by simp at h⟩
theorem Lies.append {ps qs : List Pos} {es fs : List Ent} (h : Lies s μ ps es) (k : Lies s μ qs fs) : Lies s μ (ps ++ qs) (es ++ fs) := by
  refine ⟨by rw [List.length_append, List.length_append, h.1, k.1], fun i e hi => ?_⟩
  by_cases hl : i < es.length
  · rw [List.getElem?_append_left hl] at hi
    obtain ⟨b, t, len, c, h1, h2⟩ := h.2 i e hi
    exact ⟨b, t, len, c, by rw [List.getElem?_append_left (by rw [h.1]; exact hl)]; exact h1, h2⟩
  · rw [List.getElem?_append_right (by omega)] at hi
    obtain ⟨b, t, len, c, h1, h2⟩ := k.2 _ e hi
    exact ⟨b, t, len, c, by rw [List.getElem?_append_right (by rw [h.1]; omega), h.1]; exact h1, h2⟩
theorem Lies.one {b : Pos} {e : Ent} {t : TypeId} {len : Nat} {c : Cs} (h1 : μ b = some e) (h2 : s.h.get b = some (.cells true t len c)) : Lies s μ [b] [e] := by
  refine ⟨rfl, fun i e' hi => ?_⟩
  cases i with
  | zero => simp at hi; subst hi; exact ⟨b, t, len, c, rfl, h1, h2⟩
  | succ i => simp at hi
/-- What is told of the rows of a value, wherever they are named. -/
def Told (P : Program) (N : Nat) (w : World) (es : List Ent) (m : Nat) (blks : List ABlk) (ν : Inj) : Prop :=
  ∀ (i : Nat) (e : Ent) (blk : ABlk), es[i]? = some e → blks[i]? = some blk → BR P N ν w blk e
theorem named_left {ν : Inj} {m : Nat} {es fs : List Ent} (h : ∀ (i : Nat) (e : Ent), (es ++ fs)[i]? = some e → ν (pos (m + i)) = some e) : ∀ (i : Nat) (e : Ent), es[i]? = some e → ν (pos (m + i)) = some e :=
  fun i e he => h i e (by rw [List.getElem?_append_left (List.getElem?_eq_some_iff.1 he).1]; exact he)
theorem named_right {ν : Inj} {m : Nat} {es fs : List Ent} (h : ∀ (i : Nat) (e : Ent), (es ++ fs)[i]? = some e → ν (pos (m + i)) = some e) : ∀ (i : Nat) (e : Ent), fs[i]? = some e → ν (pos (m + es.length + i)) = some e :=
  fun i e he => by
    have := h (es.length + i) e (by rw [List.getElem?_append_right (by omega), Nat.add_sub_cancel_left]; exact he)
    rwa [← Nat.add_assoc] at this
theorem Told.append {es fs : List Ent} {m m' : Nat} {a b : List ABlk} {ν : Inj} (h : Told P N w es m a ν) (hl : es.length = a.length) (k : Told P N w fs m' b ν) : Told P N w (es ++ fs) m (a ++ b) ν := by
  intro i e blk hi hb
  by_cases hil : i < es.length
  · rw [List.getElem?_append_left hil] at hi
    rw [List.getElem?_append_left (by omega)] at hb
    exact h i e blk hi hb
  · rw [List.getElem?_append_right (by omega)] at hi
    rw [List.getElem?_append_right (by omega), ← hl] at hb
    exact k _ e blk hi hb
theorem row_cells (hs : SR P N μ s w) {b : Pos} {e : Ent} {t : TypeId} {c : Cs} {n : Nat} {vs : List AV} (he : μ b = some e) (hg : s.h.get b = some (.cells true t n c)) (hsub : c.sub 0 n = some vs) :
    ∃ g cur, e = ⟨⟨g, 0, none⟩, some (cur.size, t)⟩ ∧ N ≤ g ∧ w.heap[g]? = some (.cells cur t (0, 0)) ∧ n ≤ cur.size ∧ VRs P μ vs (cur.toList.take n) := by
  obtain ⟨k, hk, hbr⟩ := hs.blk b e he
  rw [hg] at hk
  cases hk
  obtain ⟨g, sz, cur, rfl, hN, h1, h2, h3, h4⟩ := hbr
  subst h2
  obtain ⟨hcl, hcg⟩ := Cs.sub_spec hsub (by omega : 0 + n ≤ n) h4.isSome
  refine ⟨g, cur, rfl, hN, h1, h3, VRs.of_get (by rw [hcl]; simp; omega) fun i v u hv hu => ?_⟩
  have hi : i < n := by
    have := (List.getElem?_eq_some_iff.1 hv).1
    omega
  obtain ⟨av, v', r1, r2, r3, r4⟩ := h4 i hi
  have := hcg i hi
  rw [Nat.zero_add, r1, hv] at this
  cases this
  rw [List.getElem?_take, if_pos hi, Array.getElem?_toList] at hu
  have r2 : cur[i]? = some v' := r2
  rw [r2] at hu
  cases hu
  exact r3
/-- A row, told by what is told of its cells. -/
theorem told_row {l : List PRes} {m : Nat} {ν : Inj} {g : Nat} {cur : Array Value} {t : TypeId} (hN : N ≤ g) (h1 : w.heap[g]? = some (.cells cur t (0, 0))) (h3 : l.length ≤ cur.size) (hone : onesR l = true)
    (hν : VRs P ν (layRess l m).1 (cur.toList.take l.length)) : BR P N ν w (.cells true t (layRess l m).1.length (.of (layRess l m).1)) ⟨⟨g, 0, none⟩, some (cur.size, t)⟩ := by
  refine ⟨g, cur.size, cur, rfl, hN, h1, rfl, by rw [lay_len]; exact h3, fun i hi => ?_⟩
  have r3 : (layRess l m).1[i]? = some (layRess l m).1[i] := List.getElem?_eq_getElem hi
  obtain ⟨u, r4, r5⟩ := hν.get r3
  rw [lay_len] at hi
  rw [List.getElem?_take, if_pos hi, Array.getElem?_toList] at r4
  exact ⟨_, u, by rw [Cs.of_get]; exact r3, r4, r5, ones_get (lay_oneR l m hone) r3⟩
mutual
theorem match_res (hs : SR P N μ s w) {k : Nat} : ∀ (r : PRes) (v : AV) (u : Value) (m : Nat) (ps : List Pos), flatR k r = true → matchRes s r v = some ps → VR P μ v u →
    ∃ es : List Ent, es.length = (layRes r m).2.length ∧ Lies s μ ps es ∧ ∀ ν : Inj, (∀ (i : Nat) (e : Ent), es[i]? = some e → ν (pos (m + i)) = some e) → VR P ν (layRes r m).1 u ∧ Told P N w es m (layRes r m).2 ν
  | .val v', v, u, m, ps, hfl, hm, hv => by
    rw [flatR] at hfl
    rw [matchRes] at hm
    obtain ⟨h1, h2⟩ := cnd_none.1 hm
    cases h2
    obtain rfl := eqAV_eq 6 v' v h1
    rw [layRes]
    exact ⟨[], rfl, Lies.nil, fun ν _ => ⟨VR.flat k _ _ hfl hv, fun i e blk he => by simp at he⟩⟩
  | .agg l, v, u, m, ps, hfl, hm, hv => by
    rw [flatR, Bool.and_eq_true] at hfl
    rw [matchRes] at hm
    obtain ⟨vs, h1, h2⟩ := obind_some.1 hm
    obtain rfl := aggOf_some h1
    cases hv with
    | agg _ C hC ho =>
      obtain ⟨es, q1, q2, q3⟩ := match_ress hs l vs C m ps hfl.1 h2 hC
      rw [layRes]
      exact ⟨es, q1, q2, fun ν hν => ⟨.agg _ _ (q3 ν hν).1 (lay_oneR l m hfl.2), (q3 ν hν).2⟩⟩
  | .tup l, v, u, m, ps, hfl, hm, hv => by
    rw [flatR] at hfl
    rw [matchRes] at hm
    obtain ⟨vs, h1, h2⟩ := obind_some.1 hm
    obtain rfl := tupPart_some h1
    cases hv with
    | tuple _ C hC =>
      obtain ⟨es, q1, q2, q3⟩ := match_ress hs l vs C m ps hfl h2 hC
      rw [layRes]
      exact ⟨es, q1, q2, fun ν hν => ⟨.tuple _ _ (q3 ν hν).1, (q3 ν hν).2⟩⟩
  | .ptr t l, v, u, m, ps, hfl, hm, hv => by
    rw [flatR, Bool.and_eq_true] at hfl
    rw [matchRes] at hm
    obtain ⟨b, h1, h2⟩ := obind_some.1 hm
    obtain ⟨vs, h3, h4⟩ := obind_some.1 h2
    obtain ⟨qs, h5, rfl⟩ := omap_some.1 h4
    obtain rfl := ptrPart_some h1
    obtain ⟨c, hg, hsub⟩ := ownRow_some h3
    cases hv with
    | ptr _ _ e he =>
      obtain ⟨g, cur, rfl, hN, hgh, hle, hus⟩ := row_cells hs he hg hsub
      obtain ⟨es, q1, q2, q3⟩ := match_ress hs l vs _ m qs hfl.1 h5 hus
      rw [layRes]
      refine ⟨es ++ [⟨⟨g, 0, none⟩, some (cur.size, t)⟩], by rw [List.length_append, List.length_append, q1]; rfl, q2.append (.one he hg), fun ν hν => ?_⟩
      have hν1 := named_left hν
      have hνe := named_right hν 0 _ rfl
      rw [q1, Nat.add_zero] at hνe
      refine ⟨.ptr _ 0 _ hνe, (q3 ν hν1).2.append q1 (m' := m) fun i e' blk hi hb => ?_⟩
      cases i with
      | succ i => simp at hi
      | zero =>
        simp only [List.getElem?_cons_zero, Option.some.injEq] at hi hb
        subst hi
        subst hb
        exact told_row hN hgh hle hfl.2 (q3 ν hν1).1
  | .row t o n lim wh l, v, u, m, ps, hfl, hm, hv => by
    rw [flatR, Bool.and_eq_true] at hfl
    rw [matchRes] at hm
    obtain ⟨q, h1, h2⟩ := obind_some.1 hm
    obtain ⟨hc, h2⟩ := cnd_none.1 h2
    obtain ⟨vs, h3, h4⟩ := obind_some.1 h2
    obtain ⟨qs, h5, rfl⟩ := omap_some.1 h4
    obtain ⟨b, o', n', lim', wh'⟩ := q
    obtain rfl := sliceParts_some h1
    simp only [Bool.and_eq_true] at hc
    obtain ⟨⟨⟨c1, c2⟩, c3⟩, c4⟩ := hc
    obtain rfl : o' = o := Nat.eq_of_beq_eq_true c1
    obtain rfl : n' = n := Nat.eq_of_beq_eq_true c2
    obtain rfl : lim' = lim := eq_of_beq c3
    obtain rfl : wh' = wh := eq_of_beq c4
    obtain ⟨c, hg, hsub⟩ := ownRow_some h3
    cases hv with
    | slice _ _ _ _ _ e ad cap he had hn hmx hl hc =>
      obtain ⟨g, cur, rfl, hN, hgh, hle, hus⟩ := row_cells hs he hg hsub
      obtain ⟨es, q1, q2, q3⟩ := match_ress hs l vs _ m qs hfl.1 h5 hus
      rw [layRes]
      refine ⟨es ++ [⟨⟨g, 0, none⟩, some (cur.size, t)⟩], by rw [List.length_append, List.length_append, q1]; rfl, q2.append (.one he hg), fun ν hν => ?_⟩
      have hν1 := named_left hν
      have hνe := named_right hν 0 _ rfl
      rw [q1, Nat.add_zero] at hνe
      refine ⟨.slice _ o' n' lim' wh' _ ad cap hνe had hn hmx hl hc, (q3 ν hν1).2.append q1 (m' := m) fun i e' blk hi hb => ?_⟩
      cases i with
      | succ i => simp at hi
      | zero =>
        simp only [List.getElem?_cons_zero, Option.some.injEq] at hi hb
        subst hi
        subst hb
        exact told_row hN hgh hle hfl.2 (q3 ν hν1).1
theorem match_ress (hs : SR P N μ s w) {k : Nat} : ∀ (rs : List PRes) (vs : List AV) (us : List Value) (m : Nat) (ps : List Pos), flatRs k rs = true → matchRess s rs vs = some ps → VRs P μ vs us →
    ∃ es : List Ent, es.length = (layRess rs m).2.length ∧ Lies s μ ps es ∧ ∀ ν : Inj, (∀ (i : Nat) (e : Ent), es[i]? = some e → ν (pos (m + i)) = some e) → VRs P ν (layRess rs m).1 us ∧ Told P N w es m (layRess rs m).2 ν
  | [], vs, us, m, ps, hfl, hm, hv => by
    rw [matchRess] at hm
    cases vs with
    | cons v vs => cases hm
    | nil =>
      cases hm
      cases hv
      rw [layRess]
      exact ⟨[], rfl, Lies.nil, fun ν _ => ⟨.nil, fun i e blk he => by simp at he⟩⟩
  | r :: rs, vs, us, m, ps, hfl, hm, hv => by
    rw [flatRs, Bool.and_eq_true] at hfl
    rw [matchRess] at hm
    cases vs with
    | nil => cases hm
    | cons v vs =>
      obtain ⟨p1, h1, h2⟩ := obind_some.1 (show obind (matchRes s r v) (fun a => omap (matchRess s rs vs) fun b => a ++ b) = some ps from hm)
      obtain ⟨p2, h3, rfl⟩ := omap_some.1 h2
      cases hv with
      | cons _ u _ us hv hvs =>
        obtain ⟨es, q1, q2, q3⟩ := match_res hs r v u m p1 hfl.1 h1 hv
        obtain ⟨fs, t1, t2, t3⟩ := match_ress hs rs vs us (m + (layRes r m).2.length) p2 hfl.2 h3 hvs
        rw [layRess]
        refine ⟨es ++ fs, by rw [List.length_append, List.length_append, q1, t1], q2.append t2, fun ν hν => ?_⟩
        obtain ⟨c1, c2⟩ := q3 ν (named_left hν)
        obtain ⟨d1, d2⟩ := t3 ν fun i e he => by have := named_right hν i e he; rwa [q1] at this
        exact ⟨.cons _ _ _ _ c1 d1, c2.append q1 d2⟩
end

/-! ### Many rows at once -/
theorem BR.lower {N N' : Nat} {μ : Inj} {w : World} {k : ABlk} {e : Ent} (h : BR P N' μ w k e) (hN : N ≤ N') : BR P N μ w k e := by
  cases k with
  | cells own t len c => cases own with
    | true => obtain ⟨g, sz, cur, q1, q2, q3⟩ := h; exact ⟨g, sz, cur, q1, Nat.le_trans hN q2, q3⟩
    | false => exact h
  | map es => obtain ⟨g, en, cl, q1, q2, q3⟩ := h; exact ⟨g, en, cl, q1, Nat.le_trans hN q2, q3⟩
  | siter s p => obtain ⟨g, bs, q1, q2, q3⟩ := h; exact ⟨g, bs, q1, Nat.le_trans hN q2, q3⟩
  | loop lp => obtain ⟨g, r, q1, q2, q3⟩ := h; exact ⟨g, r, q1, Nat.le_trans hN q2, q3⟩
  | deferred d => obtain ⟨g, q1, q2, q3⟩ := h; exact ⟨g, q1, Nat.le_trans hN q2, q3⟩
  | dead => exact ⟨Nat.le_trans hN h.1, h.2⟩
  | mit m => obtain ⟨g, q1, q2, q3⟩ := h; exact ⟨g, q1, Nat.le_trans hN q2, q3⟩
  | frozen o => obtain ⟨g, q1, q2, q3⟩ := h; exact ⟨g, q1, Nat.le_trans hN q2, q3⟩
theorem pushes_n : ∀ (l : List ABlk) (s : St), (pushes l s).n.toNat = s.n.toNat + l.length
  | [], s => rfl
  | b :: l, s => by
    show (pushes l (s.push b)).n.toNat = _
    rw [pushes_n l, push_n, Pos.toNat_succ, List.length_cons]
    omega
theorem pushes_get : ∀ (l : List ABlk) (s : St) (x : Pos), (pushes l s).h.get x = if s.n.toNat ≤ x.toNat ∧ x.toNat < s.n.toNat + l.length then l[x.toNat - s.n.toNat]? else s.h.get x
  | [], s, x => by
    rw [if_neg (by simp only [List.length_nil]; omega)]
    rfl
  | b :: l, s, x => by
    show (pushes l (s.push b)).h.get x = _
    rw [pushes_get l, push_get, push_n, Pos.toNat_succ]
    by_cases h : s.n.toNat + 1 ≤ x.toNat ∧ x.toNat < s.n.toNat + 1 + l.length
    · rw [if_pos h, if_pos (by simp only [List.length_cons]; omega), show x.toNat - s.n.toNat = (x.toNat - (s.n.toNat + 1)) + 1 from by omega]
      rfl
    · rw [if_neg h]
      by_cases hx : s.n = x
      · subst hx
        rw [if_pos rfl, if_pos (by simp only [List.length_cons]; omega), Nat.sub_self]
        rfl
      · have : x.toNat ≠ s.n.toNat := fun e => hx (Pos.toNat_inj e.symm)
        rw [if_neg hx, if_neg (by simp only [List.length_cons]; omega)]
/-- New places' names. -/
def lateI (μ : Inj) (n : Nat) (es : List Ent) : Inj := fun b => if n ≤ b.toNat then es[b.toNat - n]? else μ b
theorem SR.lays {N : Nat} {μ : Inj} {s : St} {w' : World} (h : SR P N μ s w) (hk : Kept w w') {es : List Ent} {blks : List ABlk} (hlen : es.length = blks.length) (hnew : ∀ (i : Nat) (e : Ent), es[i]? = some e → w.heap.size ≤ e.a.block)
    (hdist : ∀ (i j : Nat) (e e' : Ent), es[i]? = some e → es[j]? = some e' → e.a.block = e'.a.block → i = j) (hbr : Told P N w' es 0 blks (lateI μ s.n.toNat es)) : Goes P N μ s w (lateI μ s.n.toNat es) (pushes blks s) w' := by
  have hold : ∀ b e, μ b = some e → lateI μ s.n.toNat es b = some e := fun b e hb => by
    unfold lateI
    rw [if_neg (by have := h.lt b e hb; omega)]
    exact hb
  have hcase : ∀ b e, lateI μ s.n.toNat es b = some e → (b.toNat < s.n.toNat ∧ μ b = some e) ∨ (s.n.toNat ≤ b.toNat ∧ es[b.toNat - s.n.toNat]? = some e) := fun b e hb => by
    unfold lateI at hb
    split at hb
    · rename_i hl; exact .inr ⟨hl, hb⟩
    · rename_i hl; exact .inl ⟨by omega, hb⟩
  have hsub : Sub μ (lateI μ s.n.toNat es) := hold
  have hlt : ∀ b e, μ b = some e → e.a.block < w.heap.size := fun b e hb => by obtain ⟨k, _, hbr⟩ := h.blk b e hb; exact hbr.lt
  refine ⟨⟨hsub, fun b e hb => ?_⟩, fun b e hb => ?_, by rw [pushes_n]; omega, ⟨hk.os, hk.tape, hk.output, hk.size, fun j hj _ => hk.same j hj⟩, ⟨fun b e hb => ?_, ?_, fun b e hb => ?_, Nat.le_trans h.hN hk.size, fun g hg => hold _ _ (h.glob g hg), h.hn,
    Env.keep w w' hk.size (fun j hj => hk.same j (by have := h.hn; have := h.hN; omega)) h.base⟩⟩
  · rcases hcase b e hb with ⟨_, hb⟩ | ⟨_, hb⟩
    · exact .inr ⟨b, e, hb, rfl⟩
    · exact .inl (hnew _ _ hb)
  · rcases hcase b e hb with ⟨_, hb⟩ | ⟨hl, _⟩
    · exact .inl hb
    · exact .inr hl
  · rcases hcase b e hb with ⟨hl, hb⟩ | ⟨hl, hb⟩
    · obtain ⟨k, h1, h2⟩ := h.blk b e hb
      exact ⟨k, by rw [pushes_get, if_neg (by omega)]; exact h1, h2.keep hsub hk.size fun _ => hk.same _ h2.lt⟩
    · have hi := (List.getElem?_eq_some_iff.1 hb).1
      obtain ⟨blk, hblk⟩ : ∃ blk, blks[b.toNat - s.n.toNat]? = some blk := ⟨_, List.getElem?_eq_getElem (by omega)⟩
      exact ⟨blk, by rw [pushes_get, if_pos (by omega)]; exact hblk, hbr _ e blk hb hblk⟩
  · intro b b' e e' k k' hb hb' hk1 hk2 hd hd' hN hee
    rcases hcase b e hb with ⟨hl, hb⟩ | ⟨hl, hb⟩
    · rcases hcase b' e' hb' with ⟨hl', hb'⟩ | ⟨hl', hb'⟩
      · rw [pushes_get, if_neg (by omega)] at hk1 hk2
        exact h.inj b b' e e' k k' hb hb' hk1 hk2 hd hd' hN hee
      · have := hlt b e hb
        have := hnew _ _ hb'
        omega
    · rcases hcase b' e' hb' with ⟨hl', hb'⟩ | ⟨hl', hb'⟩
      · have := hlt b' e' hb'
        have := hnew _ _ hb
        omega
      · have := hdist _ _ e e' hb hb' hee
        exact Pos.toNat_inj (by omega)
  · rw [pushes_n]
    rcases hcase b e hb with ⟨hl, hb⟩ | ⟨hl, hb⟩
    · omega
    · have := (List.getElem?_eq_some_iff.1 hb).1
      omega
theorem notIn_spec {b : Pos} : ∀ {l : List Pos}, notIn b l = true → b ∉ l
  | [], _ => List.not_mem_nil
  | c :: l, h => by
    obtain ⟨h1, h2⟩ := cnd_none'.1 (show cnd (eqP b c) none (some (notIn b l)) = some true by
      have h : cnd (eqP b c) false (notIn b l) = true := h
      cases hq : eqP b c with
      | true => rw [hq] at h; cases h
      | false => rw [hq] at h; exact congrArg some h)
    intro hm
    cases hm with
    | head => rw [eqP_self b] at h1; cases h1
    | tail _ hm => exact notIn_spec (Option.some.inj h2) hm
theorem apartP_spec : ∀ {l : List Pos}, apartP l = true → l.Nodup
  | [], _ => List.nodup_nil
  | b :: l, h => by
    obtain ⟨h1, h2⟩ := cnd_and (show cnd (notIn b l) (apartP l) false = true from h)
    exact List.nodup_cons.2 ⟨notIn_spec h1, apartP_spec h2⟩
theorem known_tree (hP : NoNum P) {bs : List ABlk} (hB : BaseOK P bs) {orc : Orc} (ho : OrcOK P orc) {f : FuncId} {ps : List PArg} {n k : Nat} {r : PRes} (hfl : topP k ps = true) (hr0 : flatR k r = true)
    (hr : isTree r (run P orc n (.call f (layArgs ps bs.length).1 none) AAct.none (vstart (bs ++ (layArgs ps bs.length).2))) = true) : Known P (f, ps, .tree r) := by
  cases hr1 : run P orc n (.call f (layArgs ps bs.length).1 none) AAct.none (vstart (bs ++ (layArgs ps bs.length).2)) with
  | none => rw [hr1] at hr; cases hr
  | some o =>
    rw [hr1] at hr
    unfold isTree at hr
    split at hr
    · rename_i v rc s1 heq
      cases heq
      split at hr
      · rename_i qs hm
        have hnd := apartP_spec hr
        obtain ⟨h1, h2⟩ := from_start hP hB ho hfl hr1
        refine ⟨h1, fun N μ s w cs args us hfit hs ha => ?_⟩
        obtain ⟨μ₀, μ', w', V, fr, hg, hk, hV, hst, hfn, hkd, hgo⟩ := h2 N μ s w cs args us hfit hs ha
        obtain ⟨es, q1, q2, q3⟩ := match_res hg.sr r v V (toN s.n) qs hr0 hm hV
        have hlate : ∀ (i : Nat) (e : Ent), es[i]? = some e → lateI μ s.n.toNat es (pos (toN s.n + i)) = some e := fun i e he => by
          unfold lateI
          rw [pos_toNat, toN_eq, if_pos (by omega), Nat.add_sub_cancel_left]
          exact he
        obtain ⟨r1, r2⟩ := q3 (lateI μ s.n.toNat es) hlate
        have hown : ∀ (i : Nat) (e : Ent), es[i]? = some e → ∃ b t len c, qs[i]? = some b ∧ μ' b = some e ∧ s1.h.get b = some (.cells true t len c) ∧ w.heap.size ≤ e.a.block := fun i e he => by
          obtain ⟨b, t, len, c, b1, b2, b3⟩ := q2.2 i e he
          obtain ⟨kb, hkb, hbr⟩ := hg.sr.blk b e b2
          rw [b3] at hkb
          cases hkb
          obtain ⟨g, sz, cur, rfl, hN, _⟩ := hbr
          exact ⟨b, t, len, c, b1, b2, b3, hN⟩
        have hG := hs.lays hk q1 (fun i e he => by obtain ⟨b, t, len, c, _, _, _, h⟩ := hown i e he; exact h) (fun i j e e' hi hj hee => by
          obtain ⟨b, t, len, c, b1, b2, b3, b4⟩ := hown i e hi
          obtain ⟨b', t', len', c', d1, d2, d3, d4⟩ := hown j e' hj
          have : b = b' := hg.sr.inj b b' e e' _ _ b2 d2 b3 d3 rfl rfl b4 hee
          subst this
          exact (List.getElem?_inj (List.getElem?_eq_some_iff.1 b1).1 hnd).1 (b1.trans d1.symm)) (fun i e blk hi hb => by
          have hb0 := r2 i e blk hi hb
          exact hb0.lower hs.hN)
        exact ⟨_, w', .run, V, fr, hG, .norm _ _, r1, hst, hfn, hkd, hgo⟩
      · cases hr
    · cases hr
end

/-- A call that a walk has told; it lays what it lays behind what is there. -/
theorem known_below {f : FuncId} {ps : List PArg} {v : AV} (hb : ∃ fn c, P.funcs[f]? = some fn ∧ fn.body = some c)
    (h : ∀ (μ : Inj) (s : St) (args : List AV) (us : List Value) (w : World), fitArgs s ps args = true → VRs P μ args us → Env.base w → ∃ V, VR P μ v V ∧ Calls P f us.toArray w fun e w' => e = .returned V ∧ Below w.heap.size w w') : Known P (f, ps, .tree (.val v)) := by
  refine ⟨hb, fun N μ s w cs args us hfit hs ha => ?_⟩
  obtain ⟨V, hV, hc⟩ := h μ s args us w hfit ha hs.base
  obtain ⟨e, w', fr, ⟨rfl, hbl⟩, hst, hfn, hm, hd, hk, hr⟩ := hc cs
  have hK : Kept w w' := ⟨hbl.os, hbl.tape, hbl.output, hbl.size, hbl.block⟩
  show Ended P N (.norm cs) f _ μ s w (treeOut s (layRes (.val v) (toN s.n)))
  rw [layRes]
  exact ⟨μ, w', .run, V, fr, ⟨Ext.refl _ _, fun _ _ h => .inl h, Nat.le_refl _, ⟨hK.os, hK.tape, hK.output, hK.size, fun j hj _ => hK.same j hj⟩, hs.kept hK⟩, .norm _ _, hV, hst, hfn, hk, hm, hd, hr⟩
end

/-- No unknown value; one variable holds a type's handle. -/
@[reducible] noncomputable def envHand (bs : List ABlk) (g : Nat) (v : Value) (hg : g < bs.length) : Env :=
  ⟨fun i => anyVal (i % 8), fun i => (anyVal_cells _).1, fun i => (anyVal_cells _).2, anyVal_knows, bs.length, fun w => baseW bs w ∧ w.cell? ⟨g, 0, none⟩ = some v, fun w w' hz hk h => ⟨baseW_keep bs hz hk h.1, by
    rw [← h.2]
    unfold World.cell?
    rw [hk g hg]⟩⟩
section
variable {P : Program} {w : World}
/-- What a listed handle says. -/
theorem handle_cell {laid : List (String × DataW Unit)} (h : laidMetH P laid w) {name : String} {d : DataW Unit} (hm : (name, d) ∈ laid) {nm : List UInt8} (hn : d.handleName? = some nm) (hf : d.funcsIn? = none) {g u ty : Nat} (hg : P.globalNamed name = some g)
    (hu : (P.cutTypes.find? (·.1 == "internal/reflectlite.rtype")).map (·.2) = some u) (ho : ((List.range P.types.size).filter fun t => P.rowNamed t nm) = [ty]) : w.cell? ⟨g, 0, none⟩ = some (.iface u (.agg #[typeHandle P ty])) := by
  have hin : (name, d) ∈ laid.filter fun x => x.2.handleName?.isSome := List.mem_filter.2 ⟨hm, by show d.handleName?.isSome = true; rw [hn]; rfl⟩
  have hH : handlesMet P (laid.filter fun x => x.2.handleName?.isSome) w := by
    unfold laidMetH at h
    split at h
    · rename_i he
      rw [he] at hin
      cases hin
    · rename_i he
      rw [he]
      exact h.2
  have h1 := hH _ hin
  simp only [hf] at h1
  obtain ⟨name', u', ty', e1, e2, e3, e4, e5⟩ := h1
  rw [hn] at e1
  obtain rfl := Option.some.inj e1
  rw [hu] at e2
  obtain rfl := Option.some.inj e2
  have hmem : ty' ∈ (List.range P.types.size).filter fun t => P.rowNamed t nm := List.mem_filter.2 ⟨List.mem_range.2 e3, e4⟩
  rw [ho] at hmem
  obtain rfl := List.mem_singleton.1 hmem
  simpa using World.var?_cell hg e5 0
end
end Go.Proofs.Vai
/- Laws with parameters; calls that are known by a walk. -/
namespace Go.Proofs.Vai
open Go Go.RowKit Go.ChangeShapes Go.WideShapes Go.ChangeAt

/-- One unknown whole number: 1 where it is at most 0, 2 where it is more. -/
def intVal (n : Int) (k : Nat) : Value :=
  match k with
  | 1 => .int .i64 (min n 0)
  | 2 => .int .i64 (max n 1)
  | k => anyVal k
theorem intVal_cells (n : Int) (k : Nat) : (intVal n k).oneCell' = true ∧ (intVal n k).cells = #[intVal n k] := by
  unfold intVal
  split
  · exact ⟨rfl, rfl⟩
  · exact ⟨rfl, rfl⟩
  · exact anyVal_cells _
theorem intVal_knows (n : Int) (i : Nat) : Knows (i % 8) (intVal n (i % 8)) (intVal n ((i + 2) % 8)) := by
  have h : i % 8 < 8 := Nat.mod_lt _ (by omega)
  have hk := anyVal_knows i
  rw [Nat.add_mod] at hk ⊢
  generalize i % 8 = k at *
  match k, h with
  | 0, _ => trivial
  | 1, _ => exact ⟨_, rfl, by omega⟩
  | 2, _ => exact ⟨_, rfl, by omega⟩
  | 3, _ => exact hk
  | 4, _ => exact hk
  | 5, _ => exact hk
  | 6, _ => exact hk
  | 7, _ => trivial
@[reducible] def envInt (n : Int) (bs : List ABlk) : Env := envOf (fun i => intVal n (i % 8)) (fun i => (intVal_cells n _).1) (fun i => (intVal_cells n _).2) (intVal_knows n) bs
/-- Two unknown texts (3, 4 and 11, 12: at most 500 bytes, more), a text of which nothing is known (0), a whole number of which nothing is known (8). -/
def smallT (s : ByteArray) : ByteArray := if s.size ≤ 500 then s else ⟨#[]⟩
def bigT (s : ByteArray) : ByteArray := if 500 < s.size then s else ⟨Array.replicate 501 0⟩
theorem smallT_le (s : ByteArray) : (smallT s).size ≤ 500 := by
  unfold smallT
  split
  · assumption
  · exact Nat.zero_le _
theorem bigT_lt (s : ByteArray) : 500 < (bigT s).size := by
  unfold bigT
  split
  · assumption
  · simp [ByteArray.size]
def textVal (w : ByteArray) (n : Int) (c t : ByteArray) (i : Nat) : Value :=
  match i % 8 with
  | 0 => if i = 0 then .string w else .int .i64 n
  | 3 => .string (smallT (if i / 8 = 0 then c else t))
  | 4 => .string (bigT (if i / 8 = 0 then c else t))
  | 5 => .int .i64 (smallT (if i / 8 = 0 then c else t)).size
  | 6 => .int .i64 (bigT (if i / 8 = 0 then c else t)).size
  | k => anyVal k
theorem textVal_cells (w : ByteArray) (n : Int) (c t : ByteArray) (i : Nat) : (textVal w n c t i).oneCell' = true ∧ (textVal w n c t i).cells = #[textVal w n c t i] := by
  unfold textVal
  split
  · split <;> exact ⟨rfl, rfl⟩
  · exact ⟨rfl, rfl⟩
  · exact ⟨rfl, rfl⟩
  · exact ⟨rfl, rfl⟩
  · exact ⟨rfl, rfl⟩
  · exact anyVal_cells _
theorem textVal_knows (w : ByteArray) (n : Int) (c t : ByteArray) (i : Nat) : Knows (i % 8) (textVal w n c t i) (textVal w n c t (i + 2)) := by
  have h : i % 8 < 8 := Nat.mod_lt _ (by omega)
  have hd : ∀ k, i % 8 = k → k < 6 → (i + 2) % 8 = k + 2 ∧ (i + 2) / 8 = i / 8 := fun k e hk => by omega
  unfold textVal
  generalize hk : i % 8 = k at *
  match k, h with
  | 0, _ => trivial
  | 1, _ => exact ⟨0, rfl, by omega⟩
  | 2, _ => exact ⟨1, rfl, by omega⟩
  | 3, _ => rw [(hd 3 rfl (by omega)).1, (hd 3 rfl (by omega)).2]; exact ⟨_, rfl, rfl⟩
  | 4, _ => rw [(hd 4 rfl (by omega)).1, (hd 4 rfl (by omega)).2]; exact ⟨_, rfl, rfl⟩
  | 5, _ => exact ⟨_, rfl, by have := smallT_le (if i / 8 = 0 then c else t); omega⟩
  | 6, _ => exact ⟨_, rfl, by have := bigT_lt (if i / 8 = 0 then c else t); omega⟩
  | 7, _ => trivial
@[reducible] def envTexts (w : ByteArray) (n : Int) (c t : ByteArray) (bs : List ABlk) : Env :=
  envOf (textVal w n c t) (fun i => (textVal_cells w n c t i).1) (fun i => (textVal_cells w n c t i).2) (textVal_knows w n c t) bs
theorem args_two_of {args : Array Value} (h : args.toList.length = 2) : ∃ v u, args = #[v, u] := by
  obtain ⟨l⟩ := args
  match l, h with
  | [v, u], _ => exact ⟨v, u, rfl⟩
theorem args_one_of {args : Array Value} (h : args.toList.length = 1) : ∃ v, args = #[v] := by
  obtain ⟨l⟩ := args
  match l, h with
  | [v], _ => exact ⟨v, rfl⟩

section
variable [Env] {P : Program}
/-- A call that a walk has told. -/
theorem known_of_calls {f : FuncId} {ps : List PArg} {v : AV} (hb : ∃ fn c, P.funcs[f]? = some fn ∧ fn.body = some c)
    (h : ∀ (μ : Inj) (s : St) (args : List AV) (us : List Value) (w : World), fitArgs s ps args = true → VRs P μ args us → ∃ V, VR P μ v V ∧ Calls P f us.toArray w fun e w' => e = .returned V ∧ w' = w) : Known P (f, ps, .flat v) := by
  refine ⟨hb, fun N μ s w cs args us hfit hs ha => ?_⟩
  obtain ⟨V, hV, hc⟩ := h μ s args us w hfit ha
  obtain ⟨e, w', fr, ⟨rfl, rfl⟩, hst, hfn, hm, hd, hk, hr⟩ := hc cs
  exact ⟨μ, w', .run, V, fr, hs.stay, .norm _ _, hV, hst, hfn, hk, hm, hd, hr⟩
end

theorem trodAll_len {H : Type} {enc : TypeId × Value → H} {P : Program} {w : World} {base : Nat} {sp : Nat → Bool} {held : Bool} : ∀ {ts : List TypeId} {vs : List Value} {ds : List (DataW H)} {ps : List MemPlace}, DataW.TrodAll enc P w base sp held ts vs ds ps → vs.length = ts.length ∧ ds.length = ts.length
  | [], [], [], _, _ => ⟨rfl, rfl⟩
  | _ :: _, _ :: _, _ :: _, _, h => by
    obtain ⟨p, q, _, h2, _⟩ := h
    obtain ⟨e1, e2⟩ := trodAll_len h2
    exact ⟨by simp [e1], by simp [e2]⟩
  | [], _ :: _, _, _, h => h.elim
  | [], [], _ :: _, _, h => h.elim
  | _ :: _, [], _, _, h => h.elim
  | _ :: _, _ :: _, [], _, h => h.elim
/-- The arguments read behind the call as they did before. -/
theorem below_trodAll {H : Type} {enc : TypeId × Value → H} {P : Program} (hl : laidOutB P = true) {W W' : World} (hb : Below W.heap.size W W') : ∀ {ts : List TypeId} {vs : List Value} {ds : List (DataW H)} {ps : List MemPlace},
    (ts.all fun t => P.readableRec t && decide (t < P.types.size)) = true → DataW.TrodAll enc P W 0 (fun _ => true) true ts vs ds ps → (∀ x ∈ ps, x.block < W.heap.size) → DataW.TrodAll enc P W' 0 (fun b => decide (b < W.heap.size)) true ts vs ds ps
  | [], [], [], _, _, h, _ => h
  | t :: ts, v :: vs, d :: ds, ps, hr, h, hlt => by
    rw [List.all_cons, Bool.and_eq_true, Bool.and_eq_true] at hr
    obtain ⟨p, q, h1, h2, rfl⟩ := h
    exact ⟨p, q, Below.trod hl hr.1.1 (of_decide_eq_true hr.1.2) h1 hb (fun x hx => hlt x (List.mem_append_left _ hx)), below_trodAll hl hb hr.2 h2 (fun x hx => hlt x (List.mem_append_right _ hx)), rfl⟩
  | [], _ :: _, _, _, _, h, _ => h.elim
  | [], [], _ :: _, _, _, h, _ => h.elim
  | _ :: _, [], _, _, _, h, _ => h.elim
  | _ :: _, _ :: _, [], _, _, h, _ => h.elim

section
variable {H : Type} {enc : TypeId × Value → H}
/-- THE ROW OF A LAW WITH PARAMETERS, LIFTED. -/
theorem lifted_args {C : Checked} {os : Os} {f : FuncId} {fn : Func} {s : ChangeSpec} {conds : List PathCond} {handsOn : Bool} {laid : List (String × DataW Unit)} {t : TypeId}
    (own : ownKnob C.prog.godebug = none) (started : os.Started) (noInit : C.prog.inits.idxOf? f = none) (hfn : C.prog.funcs[f]? = some fn) (hl : laidOutB C.prog = true) (hps : (fn.params.toList.all fun t => C.prog.readableRec t && decide (t < C.prog.types.size)) = true)
    (hrs : fn.resultTypes = #[t]) (ht : C.prog.underlying t = some .bool) (hvars : s.vars = [])
    (hspec : ∀ (H : Type) (ds : List (DataW H)), ds.length = fn.params.toList.length → s.fn H ds = { results := [.lit (.bool true)], args := ds, vars := [] })
    (witness : ∃ (w : World) (tape : Tape) (i : Input), w.os = os ∧ (w.forCall tape i).Shaped C.prog ∧ i.vars = [] ∧ Input.okWide C.prog (w.forCall tape i) .any w.heap.size f i ∧
      ((s.pre enc C.prog fn conds false (w.forCall tape i).memory i.args ∧ laidMetH C.prog laid (w.forCall tape i).memory) ∧ sizedMet enc C.prog fn (OpenSpec.ofChange s) false (w.forCall tape i).memory i.args) ∧ ({} : Assume).holds C.prog (lone (Frame.enter C.prog f i.args .normal) [] (w.forCall tape i)))
    (hcalls : ∀ (w : World) (base : Nat) (args : Array Value) (ds : List (DataW H)) (p : List MemPlace), w.ShapedOpen C.prog → laidMetH C.prog laid w → (∀ (j : Nat) t v, fn.params[j]? = some t → args[j]? = some v → Value.okWide C.prog w .any base t v) →
      DataW.TrodAll enc C.prog w 0 (fun _ => true) true fn.params.toList args.toList ds p → Calls C.prog f args w fun e w' => e = .returned (.bool true) ∧ Below w.heap.size w w') :
    ReturnsInHanded {} C os f .any (fun w args => (s.pre enc C.prog fn conds false w args ∧ laidMetH C.prog laid w) ∧ sizedMet enc C.prog fn (OpenSpec.ofChange s) false w args) (s.post enc C.prog fn false true handsOn false) := by
  refine returnsInHanded_of_calls own started noInit witness ?_
  intro w tape i _ hshape _ hok hpre hholds
  obtain ⟨_, _, _, fn', hfn', _, _, _, _, hval⟩ := hok
  have e : fn' = fn := Option.some.inj (hfn'.symm.trans hfn)
  subst e
  obtain ⟨⟨⟨ds, gs, before, hw, hc⟩, hx⟩, hz⟩ := hpre
  have hw' := DataW.Whole.of_heap (w' := w.forCall tape i) (by rfl) hw
  have hx' : laidMetH C.prog laid (w.forCall tape i) := hx.of_heap (by rfl)
  have hlt : ∀ x ∈ before, x.block < (w.forCall tape i).heap.size := fun x hx => hw'.lt x hx
  have hw0 := hw'
  obtain ⟨p, q, hA, hV, rfl, _, _⟩ := hw'
  rw [hvars] at hV
  obtain ⟨rfl, rfl⟩ := trodVars_none hV
  have hlen := trodAll_len hA
  refine (hcalls _ _ i.args ds p hshape hx' hval hA).mono fun e W' ⟨he, hb⟩ => ?_
  subst he
  refine ChangeSpec.post_blind ⟨ds, [], p ++ [], [], p, [], hw0, ?_, ?_, ?_, hb.frame _, fun h => by cases h⟩
  · rw [List.append_nil, hspec H ds hlen.2, hrs]
    exact trodAll_mk1 (shut_bool ht _)
  · rw [List.append_nil, hspec H ds hlen.2]
    exact below_trodAll hl hb hps hA fun x hx => hlt x (List.mem_append_left _ hx)
  · rw [List.append_nil, hspec H ds hlen.2, hvars]
    rfl
end
end Go.Proofs.Vai
