/- How an abstract value, block, state stands to the machine's: under a map of the abstract blocks to places. -/
import Derived.Test.YthaimknbmaeomaaGreatDoorVaiPure
import Derived.Below
import Derived.Laws.AppendOwn
import Derived.RowKit
set_option linter.unusedVariables false
set_option linter.unusedSimpArgs false
set_option linter.unusedSectionVars false
namespace Go.Proofs.Vai
open Go Go.RowKit

/-- Where an abstract block lies; a row of the run's own: how many cells it has, its type. -/
structure Ent where
  a : Addr
  own : Option (Nat × TypeId)
abbrev Inj := Pos → Option Ent

/-- What the unknown values are. -/
class Env where
  val : Nat → Value
  one : ∀ i, (val i).oneCell' = true
  cells : ∀ i, (val i).cells = #[val i]
  /-- What is known of the world, of its first n blocks alone. -/
  n : Nat
  base : World → Prop
  keep : ∀ w w' : World, w.heap.size ≤ w'.heap.size → (∀ k, k < n → w'.heap[k]? = w.heap[k]?) → base w → base w'
variable [Env]

mutual
inductive VR (P : Program) (μ : Inj) : AV → Value → Prop
  | bool (b : Bool) : VR P μ (.bool b) (.bool b)
  | int (k : IntKind) (n : Int) : VR P μ (.int k n) (.int k n)
  | float (k : FloatKind) (n : Nat) : VR P μ (.float k n) (.float k n)
  | str (l : List Nat) (s : ByteArray) (h : s.data.toList.map (·.toNat) = l) : VR P μ (.str l) (.string s)
  | ptr (b : Pos) (o : Nat) (e : Ent) (h : μ b = some e) : VR P μ (.ptr b o) (.pointer (some (e.a.add o)))
  | nilptr : VR P μ .nilptr (.pointer none)
  | slice (b : Pos) (o n : Nat) (lim wh : Bool) (e : Ent) (ad : Addr) (c : Nat) (h : μ b = some e) (had : ad = e.a.add o ∨ (c = 0 ∧ o ≠ 0)) (hn : n ≤ c) (hm : c ≤ maxLen) (hl : lim = true → c = n)
      (hc : wh = true → o = 0 → ∀ sz t, e.own = some (sz, t) → c * P.cellsOf t = sz) : VR P μ (.slice b o n lim wh) (.slice (some ad) n c)
  | nilslice : VR P μ .nilslice (.slice none 0 0)
  | map (b : Pos) (e : Ent) (h : μ b = some e) : VR P μ (.map b) (.map (some e.a.block))
  | nilmap : VR P μ .nilmap (.map none)
  | func (f : FuncId) (first cap : List AV) (F C : List Value) (h1 : VRs P μ first F) (h2 : VRs P μ cap C) : VR P μ (.func f first cap) (.func (.func f) F.toArray C.toArray)
  | yield (b : Pos) (e : Ent) (h : μ b = some e) : VR P μ (.yield b) (.func (.yield e.a.block) #[] #[])
  | nilfunc : VR P μ .nilfunc .nilFunc
  | iface (t : TypeId) (v : AV) (u : Value) (h : VR P μ v u) : VR P μ (.iface t v) (.iface t u)
  | niliface : VR P μ .niliface .nilIface
  | agg (cs : List AV) (C : List Value) (h : VRs P μ cs C) (ho : ones cs = true) : VR P μ (.agg cs) (.agg C.toArray)
  | tuple (cs : List AV) (C : List Value) (h : VRs P μ cs C) : VR P μ (.tuple cs) (.tuple C.toArray)
  | bad (v : Value) : VR P μ .bad v
  | sym (i : Nat) : VR P μ (.sym i) (Env.val i)
inductive VRs (P : Program) (μ : Inj) : List AV → List Value → Prop
  | nil : VRs P μ [] []
  | cons (v : AV) (u : Value) (vs : List AV) (us : List Value) (h : VR P μ v u) (hs : VRs P μ vs us) : VRs P μ (v :: vs) (u :: us)
end

def Sub (μ μ' : Inj) : Prop := ∀ b e, μ b = some e → μ' b = some e
theorem Sub.refl (μ : Inj) : Sub μ μ := fun _ _ h => h
theorem Sub.trans {μ μ' μ'' : Inj} (h : Sub μ μ') (k : Sub μ' μ'') : Sub μ μ'' := fun b e x => k b e (h b e x)

mutual
theorem VR.mono {P : Program} {μ μ' : Inj} (hs : Sub μ μ') : ∀ {v : AV} {u : Value}, VR P μ v u → VR P μ' v u
  | _, _, .bool b => .bool b
  | _, _, .int k n => .int k n
  | _, _, .float k n => .float k n
  | _, _, .str l s h => .str l s h
  | _, _, .ptr b o e h => .ptr b o e (hs _ _ h)
  | _, _, .nilptr => .nilptr
  | _, _, .slice b o n lim wh e ad c h had hn hm hl hc => .slice b o n lim wh e ad c (hs _ _ h) had hn hm hl hc
  | _, _, .nilslice => .nilslice
  | _, _, .map b e h => .map b e (hs _ _ h)
  | _, _, .nilmap => .nilmap
  | _, _, .func f a b F C h1 h2 => .func f a b F C (VRs.mono hs h1) (VRs.mono hs h2)
  | _, _, .yield b e h => .yield b e (hs _ _ h)
  | _, _, .nilfunc => .nilfunc
  | _, _, .iface t v u h => .iface t v u (VR.mono hs h)
  | _, _, .niliface => .niliface
  | _, _, .agg cs C h ho => .agg cs C (VRs.mono hs h) ho
  | _, _, .tuple cs C h => .tuple cs C (VRs.mono hs h)
  | _, _, .bad v => .bad v
  | _, _, .sym i => .sym i
theorem VRs.mono {P : Program} {μ μ' : Inj} (hs : Sub μ μ') : ∀ {v : List AV} {u : List Value}, VRs P μ v u → VRs P μ' v u
  | _, _, .nil => .nil
  | _, _, .cons v u vs us h k => .cons v u vs us (VR.mono hs h) (VRs.mono hs k)
end

section
variable {P : Program} {μ : Inj}
theorem VRs.length {vs : List AV} {us : List Value} (h : VRs P μ vs us) : vs.length = us.length := by
  induction vs generalizing us with
  | nil => cases h; rfl
  | cons v vs ih => cases h with | cons _ u _ us h hs => simp [ih hs]
theorem VRs.get {vs : List AV} {us : List Value} (h : VRs P μ vs us) {i : Nat} {v : AV} (hi : vs[i]? = some v) : ∃ u, us[i]? = some u ∧ VR P μ v u := by
  induction vs generalizing us i with
  | nil => simp at hi
  | cons x vs ih =>
    cases h with
    | cons _ u _ us h hs =>
      cases i with
      | zero => simp at hi; subst hi; exact ⟨u, rfl, h⟩
      | succ i => exact ih hs (by simpa using hi)
theorem VRs.of_get {vs : List AV} {us : List Value} (hl : vs.length = us.length) (h : ∀ (i : Nat) (v : AV) (u : Value), vs[i]? = some v → us[i]? = some u → VR P μ v u) : VRs P μ vs us := by
  induction vs generalizing us with
  | nil => cases us with
    | nil => exact .nil
    | cons u us => simp at hl
  | cons v vs ih =>
    cases us with
    | nil => simp at hl
    | cons u us => exact .cons v u vs us (h 0 v u rfl rfl) (ih (by simpa using hl) fun i v' u' hv hu => h (i + 1) v' u' (by simpa using hv) (by simpa using hu))
theorem VRs.append {a b : List AV} {c d : List Value} (h : VRs P μ a c) (k : VRs P μ b d) : VRs P μ (a ++ b) (c ++ d) := by
  induction a generalizing c with
  | nil => cases h; exact k
  | cons v a ih => cases h with | cons _ u _ us h hs => exact .cons _ _ _ _ h (ih hs)
theorem VRs.drop {a : List AV} {c : List Value} (h : VRs P μ a c) (n : Nat) : VRs P μ (a.drop n) (c.drop n) := by
  induction n generalizing a c with
  | zero => simpa using h
  | succ n ih => cases h with
    | nil => simpa using VRs.nil
    | cons v u vs us h hs => simpa using ih hs
theorem VRs.take {a : List AV} {c : List Value} (h : VRs P μ a c) (n : Nat) : VRs P μ (a.take n) (c.take n) := by
  induction n generalizing a c with
  | zero => simpa using VRs.nil
  | succ n ih => cases h with
    | nil => simpa using VRs.nil
    | cons v u vs us h hs => simpa using VRs.cons v u _ _ h (ih hs)
theorem ones_get {l : List AV} (h : ones l = true) {i : Nat} {v : AV} (hi : l[i]? = some v) : v.one = true := by
  rw [ones_eq] at h
  exact List.all_eq_true.1 h v (List.mem_of_getElem? hi)
theorem ones_append {a b : List AV} (h : ones a = true) (k : ones b = true) : ones (a ++ b) = true := by
  rw [ones_eq] at *
  simp only [List.all_append, h, k, Bool.and_self]
theorem ones_drop {a : List AV} (h : ones a = true) (n : Nat) : ones (a.drop n) = true := by
  rw [ones_eq] at *
  exact List.all_eq_true.2 fun x hx => List.all_eq_true.1 h x (List.mem_of_mem_drop hx)
theorem ones_take {a : List AV} (h : ones a = true) (n : Nat) : ones (a.take n) = true := by
  rw [ones_eq] at *
  exact List.all_eq_true.2 fun x hx => List.all_eq_true.1 h x (List.mem_of_mem_take hx)
/-- A value of one cell is one cell. -/
theorem VR.one {v : AV} {u : Value} (h : VR P μ v u) (ho : v.one = true) : u.oneCell' = true := by
  cases h <;> first
    | exact Env.one _
    | simp_all [AV.one, Value.oneCell']
theorem VR.cells {v : AV} {u : Value} (h : VR P μ v u) (hb : v ≠ .bad) : VRs P μ v.cells u.cells.toList := by
  cases h <;> first
    | (rw [Env.cells]; exact .cons _ _ _ _ (.sym _) .nil)
    | (simp only [AV.cells, Value.cells]; exact .cons _ _ _ _ (by constructor <;> assumption) .nil)
    | skip
  case agg cs C h ho => simpa [AV.cells, Value.cells] using h
  case bad => exact absurd rfl hb
theorem ones_cells_ne {v : AV} (h : ones v.cells = true) : v ≠ .bad := by
  rintro rfl
  simp [AV.cells, ones_eq, AV.one] at h
end

def isDead : ABlk → Bool
  | .dead => true
  | _ => false

/-- Temporaries. -/
def TR (P : Program) (μ : Inj) (tm : Tr AV) (tmps : Array Value) : Prop := ∀ t, VR P μ (orUndef (tm.get (pos t))) (tmps.getD t undef)
theorem TR.mono {P : Program} {μ μ' : Inj} (hs : Sub μ μ') {tm : Tr AV} {tmps : Array Value} (h : TR P μ tm tmps) : TR P μ' tm tmps := fun t => (h t).mono hs

inductive ER (P : Program) (μ : Inj) : List (AV × AV) → List MapEntry → Prop
  | nil : ER P μ [] []
  | cons (k v : AV) (m : MapEntry) (es : List (AV × AV)) (ms : List MapEntry) (hk : VR P μ k m.key) (hv : VR P μ v m.val) (h : ER P μ es ms) : ER P μ ((k, v) :: es) (m :: ms)
theorem ER.mono {P : Program} {μ μ' : Inj} (hs : Sub μ μ') {es : List (AV × AV)} {ms : List MapEntry} (h : ER P μ es ms) : ER P μ' es ms := by
  induction h with
  | nil => exact .nil
  | cons k v m es ms hk hv _ ih => exact .cons k v m es ms (hk.mono hs) (hv.mono hs) ih

structure LR (P : Program) (μ : Inj) (lp : ALoop) (r : Loop) : Prop where
  state : r.state = lp.state
  pending : r.pending = lp.pending
  tmps : TR P μ lp.tm r.tmps
  size : r.tmps.size = lp.n
  params : r.params.toList = lp.params
  assign : r.assign = lp.assign
  body : r.body = lp.body
  fn : ∃ f, P.funcs[r.fn]? = some f
  defers : ∃ e, μ lp.defers = some e ∧ r.defers = e.a.block
theorem LR.mono {P : Program} {μ μ' : Inj} (hs : Sub μ μ') {lp : ALoop} {r : Loop} (h : LR P μ lp r) : LR P μ' lp r :=
  ⟨h.state, h.pending, h.tmps.mono hs, h.size, h.params, h.assign, h.body, h.fn, let ⟨e, he, hd⟩ := h.defers; ⟨e, hs _ _ he, hd⟩⟩

/-- A row's cells, the first len of them. -/
def CR (P : Program) (μ : Inj) (c : Cs) (len : Nat) (at_ : Nat → Option Value) : Prop :=
  ∀ i, i < len → ∃ av v, c.get i = some av ∧ at_ i = some v ∧ VR P μ av v ∧ av.one = true
theorem CR.mono {P : Program} {μ μ' : Inj} (hs : Sub μ μ') {c : Cs} {len : Nat} {f : Nat → Option Value} (h : CR P μ c len f) : CR P μ' c len f :=
  fun i hi => let ⟨av, v, h1, h2, h3, h4⟩ := h i hi; ⟨av, v, h1, h2, h3.mono hs, h4⟩
theorem CR.isSome {P : Program} {μ : Inj} {c : Cs} {len : Nat} {f : Nat → Option Value} (h : CR P μ c len f) : ∀ i, i < len → (c.get i).isSome :=
  fun i hi => let ⟨av, v, h1, _⟩ := h i hi; by rw [h1]; rfl

/-- A block, at its place. -/
def BR (P : Program) (N : Nat) (μ : Inj) (w : World) (k : ABlk) (e : Ent) : Prop :=
  match k with
  | .cells true t len c => ∃ g sz cur, e = ⟨⟨g, 0, none⟩, some (sz, t)⟩ ∧ N ≤ g ∧ w.heap[g]? = some (.cells cur t (0, 0)) ∧ cur.size = sz ∧ len ≤ sz ∧ CR P μ c len (fun i => cur[i]?)
  | .cells false _ len c => e.own = none ∧ e.a.block < w.heap.size ∧ CR P μ c len (fun i => w.cell? (e.a.add i))
  | .map es => ∃ g ents clock, e = ⟨⟨g, 0, none⟩, none⟩ ∧ N ≤ g ∧ w.heap[g]? = some (.map ents clock) ∧ ER P μ es ents.toList
  | .siter s p => ∃ g bs, e = ⟨⟨g, 0, none⟩, none⟩ ∧ N ≤ g ∧ w.heap[g]? = some (.stringIter bs p) ∧ bs.data.toList.map (·.toNat) = s
  | .loop lp => ∃ g r, e = ⟨⟨g, 0, none⟩, none⟩ ∧ N ≤ g ∧ w.heap[g]? = some (.loop r) ∧ LR P μ lp r
  | .deferred d => ∃ g, e = ⟨⟨g, 0, none⟩, none⟩ ∧ N ≤ g ∧ w.heap[g]? = some (.deferred (if d = true then some [] else none))
  | .dead => N ≤ e.a.block ∧ e.a.block < w.heap.size

theorem add_block (a : Addr) (n : Nat) : (a.add n).block = a.block := by unfold Addr.add; split <;> rfl
theorem cell_same {w w' : World} {a : Addr} (h : w'.heap[a.block]? = w.heap[a.block]?) : w'.cell? a = w.cell? a := by unfold World.cell?; rw [h]

theorem BR.lt {P : Program} {N : Nat} {μ : Inj} {w : World} {k : ABlk} {e : Ent} (h : BR P N μ w k e) : e.a.block < w.heap.size := by
  have key : ∀ {g : Nat} {o : Obj}, w.heap[g]? = some o → g < w.heap.size := fun h => (Array.getElem?_eq_some_iff.1 h).1
  cases k with
  | cells own t len c => cases own with
    | true => obtain ⟨g, sz, cur, rfl, _, h, _⟩ := h; exact key h
    | false => exact h.2.1
  | map es => obtain ⟨g, en, cl, rfl, _, h, _⟩ := h; exact key h
  | siter s p => obtain ⟨g, bs, rfl, _, h, _⟩ := h; exact key h
  | loop lp => obtain ⟨g, r, rfl, _, h, _⟩ := h; exact key h
  | deferred d => obtain ⟨g, rfl, _, h⟩ := h; exact key h
  | dead => exact h.2
/-- A block whose place has not turned. -/
theorem BR.keep {P : Program} {N : Nat} {μ μ' : Inj} {w w' : World} {k : ABlk} {e : Ent} (h : BR P N μ w k e) (hs : Sub μ μ') (hz : w.heap.size ≤ w'.heap.size)
    (hb : isDead k = false → w'.heap[e.a.block]? = w.heap[e.a.block]?) : BR P N μ' w' k e := by
  cases k with
  | cells own t len c => cases own with
    | true => obtain ⟨g, sz, cur, rfl, hN, h1, h2, h3, h4⟩ := h; exact ⟨g, sz, cur, rfl, hN, (hb rfl).trans h1, h2, h3, h4.mono hs⟩
    | false =>
      refine ⟨h.1, Nat.lt_of_lt_of_le h.2.1 hz, fun i hi => ?_⟩
      obtain ⟨av, v, h1, h2, h3, h4⟩ := h.2.2 i hi
      exact ⟨av, v, h1, (cell_same (by rw [add_block]; exact hb rfl)).trans h2, h3.mono hs, h4⟩
  | map es => obtain ⟨g, en, cl, rfl, hN, h1, h2⟩ := h; exact ⟨g, en, cl, rfl, hN, (hb rfl).trans h1, h2.mono hs⟩
  | siter s p => obtain ⟨g, bs, rfl, hN, h1, h2⟩ := h; exact ⟨g, bs, rfl, hN, (hb rfl).trans h1, h2⟩
  | loop lp => obtain ⟨g, r, rfl, hN, h1, h2⟩ := h; exact ⟨g, r, rfl, hN, (hb rfl).trans h1, h2.mono hs⟩
  | deferred d => obtain ⟨g, rfl, hN, h1⟩ := h; exact ⟨g, rfl, hN, (hb rfl).trans h1⟩
  | dead => exact ⟨h.1, Nat.lt_of_lt_of_le h.2 hz⟩

/-- The state. -/
structure SR (P : Program) (N : Nat) (μ : Inj) (σ : St) (w : World) : Prop where
  blk : ∀ b e, μ b = some e → ∃ k, σ.h.get b = some k ∧ BR P N μ w k e
  inj : ∀ b b' e e' k k', μ b = some e → μ b' = some e' → σ.h.get b = some k → σ.h.get b' = some k' → isDead k = false → isDead k' = false → N ≤ e.a.block → e.a.block = e'.a.block → b = b'
  lt : ∀ b e, μ b = some e → b.toNat < σ.n.toNat
  hN : N ≤ w.heap.size
  glob : ∀ g, g < P.globals.size → μ (pos g) = some ⟨⟨g, 0, none⟩, none⟩
  hn : Env.n ≤ N
  base : Env.base w

/-- How the machine's world goes on: below N, and where no block of μ lies, nothing turns. -/
structure Ev (N : Nat) (μ : Inj) (w w' : World) : Prop where
  os : w'.os = w.os
  tape : w'.tape = w.tape
  output : w'.output = w.output
  size : w.heap.size ≤ w'.heap.size
  same : ∀ k, k < w.heap.size → (k < N ∨ ∀ b e, μ b = some e → e.a.block ≠ k) → w'.heap[k]? = w.heap[k]?
/-- How the map goes on: what is new lies in new blocks, or where an elder one lay. -/
structure Ext (μ μ' : Inj) (w : World) : Prop where
  sub : Sub μ μ'
  new : ∀ b e, μ' b = some e → w.heap.size ≤ e.a.block ∨ ∃ b₀ e₀, μ b₀ = some e₀ ∧ e₀.a.block = e.a.block

theorem Ev.refl (N : Nat) (μ : Inj) (w : World) : Ev N μ w w := ⟨rfl, rfl, rfl, Nat.le_refl _, fun _ _ _ => rfl⟩
theorem Ext.refl (μ : Inj) (w : World) : Ext μ μ w := ⟨Sub.refl μ, fun b e h => .inr ⟨b, e, h, rfl⟩⟩
theorem Ext.trans {N : Nat} {μ μ' μ'' : Inj} {w w' : World} (h : Ext μ μ' w) (hv : Ev N μ w w') (k : Ext μ' μ'' w') : Ext μ μ'' w :=
  ⟨h.sub.trans k.sub, fun b e hb => by
    rcases k.new b e hb with h1 | ⟨b₀, e₀, h1, h2⟩
    · exact .inl (Nat.le_trans hv.size h1)
    · rcases h.new b₀ e₀ h1 with h3 | ⟨b₁, e₁, h3, h4⟩
      · exact .inl (h2 ▸ h3)
      · exact .inr ⟨b₁, e₁, h3, h4.trans h2⟩⟩
theorem Ev.trans {N : Nat} {μ μ' : Inj} {w w' w'' : World} (h : Ev N μ w w') (hx : Ext μ μ' w) (k : Ev N μ' w' w'') : Ev N μ w w'' :=
  ⟨k.os.trans h.os, k.tape.trans h.tape, k.output.trans h.output, Nat.le_trans h.size k.size, fun j hj hc => by
    refine (k.same j (Nat.lt_of_lt_of_le hj h.size) ?_).trans (h.same j hj hc)
    rcases hc with hc | hc
    · exact .inl hc
    · refine .inr fun b e hb hne => ?_
      rcases hx.new b e hb with h1 | ⟨b₀, e₀, h1, h2⟩
      · omega
      · exact hc b₀ e₀ h1 (h2.trans hne)⟩
theorem Ev.below {N : Nat} {μ : Inj} {w w' : World} (h : Ev N μ w w') (hN : N ≤ w.heap.size) : Below N w w' :=
  ⟨h.os, h.tape, h.output, h.size, fun k hk => h.same k (Nat.lt_of_lt_of_le hk hN) (.inl hk)⟩

/-- All three together. -/
structure Goes (P : Program) (N : Nat) (μ : Inj) (σ : St) (w : World) (μ' : Inj) (σ' : St) (w' : World) : Prop where
  ext : Ext μ μ' w
  fresh : ∀ b e, μ' b = some e → μ b = some e ∨ σ.n.toNat ≤ b.toNat
  le : σ.n.toNat ≤ σ'.n.toNat
  ev : Ev N μ w w'
  sr : SR P N μ' σ' w'
theorem SR.stay {P : Program} {N : Nat} {μ : Inj} {σ : St} {w : World} (h : SR P N μ σ w) : Goes P N μ σ w μ σ w := ⟨Ext.refl _ _, fun _ _ h => .inl h, Nat.le_refl _, Ev.refl _ _ _, h⟩
theorem Goes.trans {P : Program} {N : Nat} {μ μ' μ'' : Inj} {σ σ' σ'' : St} {w w' w'' : World} (h : Goes P N μ σ w μ' σ' w') (k : Goes P N μ' σ' w' μ'' σ'' w'') : Goes P N μ σ w μ'' σ'' w'' :=
  ⟨h.ext.trans h.ev k.ext, fun b e hb => (k.fresh b e hb).elim (fun q => h.fresh b e q) (fun q => .inr (Nat.le_trans h.le q)), Nat.le_trans h.le k.le, h.ev.trans h.ext k.ev, k.sr⟩

def upd (μ : Inj) (b : Pos) (e : Ent) : Inj := fun x => if x = b then some e else μ x
theorem upd_same (μ : Inj) (b : Pos) (e : Ent) : upd μ b e b = some e := if_pos rfl
theorem upd_ne (μ : Inj) {b x : Pos} (e : Ent) (h : x ≠ b) : upd μ b e x = μ x := if_neg h
theorem upd_old {μ : Inj} {b : Pos} {e : Ent} (h : μ b = some e) : upd μ b e = μ := by
  funext x
  by_cases hx : x = b
  · subst hx; rw [upd_same, h]
  · exact upd_ne μ e hx
theorem sub_upd {μ : Inj} {b : Pos} {e : Ent} (h : μ b = none ∨ μ b = some e) : Sub μ (upd μ b e) := fun x e' hx => by
  by_cases hxb : x = b
  · subst hxb
    rcases h with h | h
    · rw [h] at hx; cases hx
    · rw [upd_same, ← h]; exact hx
  · rw [upd_ne μ e hxb]; exact hx

/-- ONE BLOCK TURNED OR LAID: the others lie where they lay. -/
theorem SR.turn {P : Program} {N : Nat} {μ : Inj} {σ σ' : St} {w w' : World} (h : SR P N μ σ w) {b : Pos} {e : Ent} {k : ABlk} (row : Option Nat) (hg : w.grownBy w' row)
    (hb : μ b = some e ∨ (μ b = none ∧ σ.n.toNat ≤ b.toNat ∧ (w.heap.size ≤ e.a.block ∨ ∃ b₀ e₀, μ b₀ = some e₀ ∧ e₀.a.block = e.a.block)))
    (hh : ∀ x, σ'.h.get x = if b = x then some k else σ.h.get x) (hn : σ.n.toNat ≤ σ'.n.toNat) (hbn : b.toNat < σ'.n.toNat)
    (hbr : BR P N (upd μ b e) w' k e)
    (hrow : ∀ g, row = some g → N ≤ g ∧ (∃ b₀ e₀, μ b₀ = some e₀ ∧ e₀.a.block = g) ∧ ∀ x ex kx, x ≠ b → μ x = some ex → σ.h.get x = some kx → isDead kx = false → ex.a.block ≠ g)
    (hinj : isDead k = false → N ≤ e.a.block → ∀ x ex kx, x ≠ b → μ x = some ex → σ.h.get x = some kx → isDead kx = false → ex.a.block ≠ e.a.block) :
    Goes P N μ σ w (upd μ b e) σ' w' := by
  have hsub : Sub μ (upd μ b e) := sub_upd (hb.elim .inr fun hb => .inl hb.1)
  refine ⟨⟨hsub, fun x ex hx => ?_⟩, fun x ex hx => (by
    by_cases hxb : x = b
    · subst hxb
      rw [upd_same] at hx
      cases hx
      exact hb.elim .inl fun q => .inr q.2.1
    · rw [upd_ne μ e hxb] at hx
      exact .inl hx), hn, ⟨hg.os, hg.tape, hg.output, hg.size, fun j hj hc => ?_⟩, ⟨fun x ex hx => ?_, ?_, fun x ex hx => ?_, Nat.le_trans h.hN hg.size, fun g hg => hsub _ _ (h.glob g hg), h.hn,
    Env.keep w w' hg.size (fun k hk => hg.block k (by have := h.hn; have := h.hN; omega) fun he => by have := (hrow k he.symm).1; have := h.hn; omega) h.base⟩⟩
  · by_cases hxb : x = b
    · subst hxb
      rw [upd_same] at hx
      cases hx
      rcases hb with hb | hb
      · exact .inr ⟨x, e, hb, rfl⟩
      · exact hb.2.2
    · rw [upd_ne μ e hxb] at hx
      exact .inr ⟨x, ex, hx, rfl⟩
  · refine hg.block j hj fun he => ?_
    obtain ⟨h1, ⟨b₀, e₀, h2, h3⟩, _⟩ := hrow j he.symm
    rcases hc with hc | hc
    · omega
    · exact hc b₀ e₀ h2 h3
  · by_cases hxb : x = b
    · subst hxb
      rw [upd_same] at hx
      cases hx
      exact ⟨k, by rw [hh, if_pos rfl], hbr⟩
    · rw [upd_ne μ e hxb] at hx
      obtain ⟨kx, h1, h2⟩ := h.blk x ex hx
      refine ⟨kx, by rw [hh, if_neg (fun h => hxb h.symm)]; exact h1, h2.keep hsub hg.size fun hd => hg.block _ h2.lt fun he => ?_⟩
      exact (hrow _ he.symm).2.2 x ex kx hxb hx h1 hd rfl
  · intro x y ex ey kx ky hx hy gx gy dx dy hN hxy
    by_cases hxb : x = b
    · by_cases hyb : y = b
      · rw [hxb, hyb]
      · subst hxb
        rw [upd_same] at hx
        cases hx
        rw [upd_ne μ e hyb] at hy
        rw [hh, if_pos rfl] at gx
        cases gx
        rw [hh, if_neg (fun h => hyb h.symm)] at gy
        exact absurd hxy.symm (hinj dx hN y ey ky hyb hy gy dy)
    · rw [upd_ne μ e hxb] at hx
      rw [hh, if_neg (fun h => hxb h.symm)] at gx
      by_cases hyb : y = b
      · subst hyb
        rw [upd_same] at hy
        cases hy
        rw [hh, if_pos rfl] at gy
        cases gy
        exact absurd hxy (hinj dy (hxy ▸ hN) x ex kx hxb hx gx dx)
      · rw [upd_ne μ e hyb] at hy
        rw [hh, if_neg (fun h => hyb h.symm)] at gy
        exact h.inj x y ex ey kx ky hx hy gx gy dx dy hN hxy
  · by_cases hxb : x = b
    · subst hxb; exact hbn
    · rw [upd_ne μ e hxb] at hx
      exact Nat.lt_of_lt_of_le (h.lt x ex hx) hn

theorem push_get (σ : St) (k : ABlk) (x : Pos) : (σ.push k).h.get x = if σ.n = x then some k else σ.h.get x := by cases σ; exact get_set _ _ _ _
theorem push_n (σ : St) (k : ABlk) : (σ.push k).n = σ.n.succ := by cases σ; rfl
theorem put_get (σ : St) (b : Pos) (k : ABlk) (x : Pos) : (σ.put b k).h.get x = if b = x then some k else σ.h.get x := by cases σ; exact get_set _ _ _ _
theorem put_n (σ : St) (b : Pos) (k : ABlk) : (σ.put b k).n = σ.n := by cases σ; rfl
theorem SR.fresh {P : Program} {N : Nat} {μ : Inj} {σ : St} {w : World} (h : SR P N μ σ w) : μ σ.n = none := by
  cases hm : μ σ.n with
  | none => rfl
  | some e => have := h.lt _ _ hm; omega

/-- A NEW BLOCK. -/
theorem SR.laid {P : Program} {N : Nat} {μ : Inj} {σ : St} {w w' : World} (h : SR P N μ σ w) {e : Ent} {k : ABlk} (hg : w.grownBy w' none) (he : w.heap.size ≤ e.a.block)
    (hbr : BR P N (upd μ σ.n e) w' k e) : Goes P N μ σ w (upd μ σ.n e) (σ.push k) w' := by
  refine h.turn none hg (.inr ⟨h.fresh, Nat.le_refl _, .inl he⟩) (push_get σ k) (by rw [push_n, Pos.toNat_succ]; omega) (by rw [push_n, Pos.toNat_succ]; omega) hbr (fun g hg => by cases hg) ?_
  intro _ _ x ex kx hx hm hk hd hne
  obtain ⟨k', h1, h2⟩ := h.blk x ex hm
  have := h2.lt
  omega
/-- A BLOCK THAT IS TURNED. -/
theorem SR.turned {P : Program} {N : Nat} {μ : Inj} {σ : St} {w w' : World} (h : SR P N μ σ w) {b : Pos} {e : Ent} {k k₀ : ABlk} (hb : μ b = some e) (hk : σ.h.get b = some k₀) (hd : isDead k₀ = false) (hN : N ≤ e.a.block)
    (hg : w.grownBy w' (some e.a.block)) (hbr : BR P N μ w' k e) : Goes P N μ σ w μ (σ.put b k) w' := by
  have hx : ∀ x ex kx, x ≠ b → μ x = some ex → σ.h.get x = some kx → isDead kx = false → ex.a.block ≠ e.a.block := fun x ex kx hne hm hkx hdx heq =>
    hne (h.inj x b ex e kx k₀ hm hb hkx hk hdx hd (heq ▸ hN) heq)
  have := h.turn (b := b) (e := e) (k := k) (σ' := σ.put b k) (some e.a.block) hg (.inl hb) (put_get σ b k) (by rw [put_n]; exact Nat.le_refl _) (by rw [put_n]; exact h.lt b e hb) (by rw [upd_old hb]; exact hbr)
    (fun g hg => by cases hg; exact ⟨hN, ⟨b, e, hb, rfl⟩, hx⟩) (fun _ _ => hx)
  rwa [upd_old hb] at this

end Go.Proofs.Vai
