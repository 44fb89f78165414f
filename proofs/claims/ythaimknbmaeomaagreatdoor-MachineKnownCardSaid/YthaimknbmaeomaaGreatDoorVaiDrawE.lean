/- Drawn regions, fifth part: operations that look at no state, and those that lay one row. -/
import Derived.Test.YthaimknbmaeomaaGreatDoorVaiDrawD
set_option linter.unusedVariables false
set_option linter.unusedSimpArgs false
set_option linter.unusedSectionVars false
namespace Go.Proofs.Vai
open Go Go.RowKit
variable [Env]

section
variable {P : Program} {N : Nat}

/-! ### A state of trivial blocks -/
noncomputable def ghostT (f : Nat → ABlk) : Nat → Tr ABlk
  | 0 => .nil
  | m + 1 => (ghostT f m).set (pos m) (f m)
theorem pos_of (b : Pos) : pos b.toNat = b := Pos.toNat_inj (pos_toNat _)
theorem ghostT_get (f : Nat → ABlk) (b : Pos) : ∀ m, (ghostT f m).get b = if b.toNat < m then some (f b.toNat) else none
  | 0 => by rw [if_neg (by omega)]; exact get_nil b
  | m + 1 => by
    show ((ghostT f m).set (pos m) (f m)).get b = _
    rw [get_set, ghostT_get f b m]
    by_cases h : pos m = b
    · have : b.toNat = m := by rw [← h, pos_toNat]
      rw [if_pos h, if_pos (by omega), this]
    · have : b.toNat ≠ m := fun e => h (by rw [← e, pos_of])
      rw [if_neg h]
      by_cases h2 : b.toNat < m
      · rw [if_pos h2, if_pos (by omega)]
      · rw [if_neg h2, if_neg (by omega)]
/-- Where a map's blocks lie. -/
structure Places (P : Program) (N : Nat) (μ : Inj) (w : World) (m : Nat) : Prop where
  dom : ∀ b e, μ b = some e → b.toNat < m
  lies : ∀ b e, μ b = some e → e.a.block < w.heap.size ∧ ((e.own = none ∧ e.a.block < N) ∨ N ≤ e.a.block)
  glob : ∀ g, g < P.globals.size → μ (pos g) = some ⟨⟨g, 0, none⟩, none⟩
  hN : N ≤ w.heap.size
  hn : Env.n ≤ N
  base : Env.base w
noncomputable def ghostB (N : Nat) (μ : Inj) (k : Nat) : ABlk :=
  match μ (pos k) with
  | some e => if e.a.block < N then .cells false 0 0 (.few []) else .dead
  | none => .dead
noncomputable def ghost (N : Nat) (μ : Inj) (m : Nat) : St := ⟨ghostT (ghostB N μ) m, pos m⟩
theorem Places.sr {μ : Inj} {w : World} {m : Nat} (h : Places P N μ w m) : SR P N μ (ghost N μ m) w := by
  have hb : ∀ b e, μ b = some e → (ghost N μ m).h.get b = some (if e.a.block < N then .cells false 0 0 (.few []) else .dead) := by
    intro b e he
    show (ghostT (ghostB N μ) m).get b = _
    rw [ghostT_get, if_pos (h.dom b e he)]
    unfold ghostB
    rw [pos_of, he]
  refine ⟨fun b e he => ⟨_, hb b e he, ?_⟩, ?_, fun b e he => ?_, h.hN, h.glob, h.hn, h.base⟩
  · obtain ⟨h1, h2⟩ := h.lies b e he
    by_cases hlt : e.a.block < N
    · rw [if_pos hlt]
      rcases h2 with ⟨h3, _⟩ | h3
      · exact ⟨h3, h1, fun i hi => absurd hi (Nat.not_lt_zero i)⟩
      · omega
    · rw [if_neg hlt]
      exact ⟨by omega, h1⟩
  · intro b b' e e' k k' he he' hk hk' hd hd' hN heq
    rw [hb b e he] at hk
    rw [if_neg (by omega)] at hk
    cases hk
    cases hd
  · show b.toNat < (pos m).toNat
    rw [pos_toNat]
    exact h.dom b e he
theorem SR.places {μ : Inj} {σ : St} {w : World} (h : SR P N μ σ w) : Places P N μ w σ.n.toNat := by
  refine ⟨h.lt, fun b e he => ?_, h.glob, h.hN, h.hn, h.base⟩
  obtain ⟨k, _, hbr⟩ := h.blk b e he
  refine ⟨hbr.lt, ?_⟩
  cases k with
  | cells own t len c => cases own with
    | true => obtain ⟨g, sz, cur, rfl, hN, _⟩ := hbr; exact .inr hN
    | false =>
      by_cases hlt : e.a.block < N
      · exact .inl ⟨hbr.1, hlt⟩
      · exact .inr (by omega)
  | map es => obtain ⟨g, en, cl, rfl, hN, _⟩ := hbr; exact .inr hN
  | siter s p => obtain ⟨g, bs, rfl, hN, _⟩ := hbr; exact .inr hN
  | loop lp => obtain ⟨g, r, rfl, hN, _⟩ := hbr; exact .inr hN
  | deferred d => obtain ⟨g, rfl, hN, _⟩ := hbr; exact .inr hN
  | dead => exact .inr hbr.1

/-! ### Without the rows' sizes -/
def bare (μ : Inj) : Inj := fun b => (μ b).map fun e => ⟨e.a, none⟩
theorem bare_some {μ : Inj} {b : Pos} {e : Ent} (h : μ b = some e) : bare μ b = some ⟨e.a, none⟩ := by unfold bare; rw [h]; rfl
mutual
theorem VR.bare {μ : Inj} : ∀ {v : AV} {u : Value}, VR P μ v u → VR P (bare μ) v u
  | _, _, .bool b => .bool b
  | _, _, .int k n => .int k n
  | _, _, .float k n => .float k n
  | _, _, .str l s h => .str l s h
  | _, _, .ptr b o e h => .ptr b o ⟨e.a, none⟩ (bare_some h)
  | _, _, .nilptr => .nilptr
  | _, _, .slice b o n lim wh e ad c h had hn hm hl hc => .slice b o n lim wh ⟨e.a, none⟩ ad c (bare_some h) had hn hm hl (fun _ _ sz t hx => by cases hx)
  | _, _, .nilslice => .nilslice
  | _, _, .map b e h => .map b ⟨e.a, none⟩ (bare_some h)
  | _, _, .nilmap => .nilmap
  | _, _, .func f a b F C h1 h2 => .func f a b F C (VRs.bare h1) (VRs.bare h2)
  | _, _, .yield b e h => .yield b ⟨e.a, none⟩ (bare_some h)
  | _, _, .nilfunc => .nilfunc
  | _, _, .iface t v u h => .iface t v u (VR.bare h)
  | _, _, .niliface => .niliface
  | _, _, .agg cs C h ho => .agg cs C (VRs.bare h) ho
  | _, _, .tuple cs C h => .tuple cs C (VRs.bare h)
  | _, _, .bad v => .bad v
  | _, _, .sym i => .sym i
theorem VRs.bare {μ : Inj} : ∀ {v : List AV} {u : List Value}, VRs P μ v u → VRs P (bare μ) v u
  | _, _, .nil => .nil
  | _, _, .cons v u vs us h k => .cons v u vs us (VR.bare h) (VRs.bare k)
end
theorem DR.bare {μ : Inj} {d : ADef} {c : Deferred} (h : DR P μ d c) : DR P (bare μ) d c := by
  cases h with
  | fn f cap args C A hc ha => exact .fn f cap args C A hc.bare ha.bare
  | collected b e h => exact .collected b ⟨e.a, none⟩ (bare_some h)
theorem DRs.bare {μ : Inj} {d : List ADef} {c : List Deferred} (h : DRs P μ d c) : DRs P (bare μ) d c := by
  induction h with
  | nil => exact .nil
  | cons d c ds cs h _ ih => exact .cons d c _ _ h.bare ih
theorem AR.bare {μ : Inj} {a : AAct} {ca : Act} (h : AR P μ a ca) : AR P (bare μ) a ca := ⟨fun t => (h.tm t).bare, h.size, h.defers.bare⟩
theorem Places.bare {μ : Inj} {w : World} {m : Nat} (h : Places P N μ w m) : Places P w.heap.size (bare μ) w m := by
  have hb : ∀ b e, Vai.bare μ b = some e → ∃ e', μ b = some e' ∧ e = ⟨e'.a, none⟩ := by
    intro b e he
    obtain ⟨e', h1, h2⟩ := Option.map_eq_some_iff.1 he
    exact ⟨e', h1, h2.symm⟩
  refine ⟨fun b e he => ?_, fun b e he => ?_, fun g hg => bare_some (h.glob g hg), Nat.le_refl _, Nat.le_trans h.hn h.hN, h.base⟩
  · obtain ⟨e', h1, rfl⟩ := hb b e he; exact h.dom b e' h1
  · obtain ⟨e', h1, rfl⟩ := hb b e he
    exact ⟨(h.lies b e' h1).1, .inl ⟨rfl, (h.lies b e' h1).1⟩⟩

/-- Nothing that was there has turned. -/
structure Kept (w w' : World) : Prop where
  os : w'.os = w.os
  tape : w'.tape = w.tape
  output : w'.output = w.output
  size : w.heap.size ≤ w'.heap.size
  same : ∀ k, k < w.heap.size → w'.heap[k]? = w.heap[k]?
/-- CLASS 4. -/
theorem pure_sound (hP : NoNum P) {o : Oper} (h4 : clsO P o.op = 4) {a : AAct} {ca : Act} {μ : Inj} {w : World} {m : Nat} {v : AV} {s s1 : St} (hx : opA o.op P a s = some (.val v s1)) (ha : AR P μ a ca) (hp : Places P N μ w m) :
    ∃ u w', (execOp ca.eval o).run P w = .ok (.value u) w' ∧ VR P μ v u ∧ Kept w w' := by
  have hpu := pu_op P a h4
  obtain ⟨μ₁, u, w', hrun, hg, hv⟩ := opA_sound hP hp.sr ha (hpu.any hx (ghost N μ m))
  obtain ⟨μ₂, u₂, w₂, hrun₂, hg₂, _⟩ := opA_sound hP hp.bare.sr ha.bare (hpu.any hx (ghost w.heap.size (bare μ) m))
  rw [hrun] at hrun₂
  cases hrun₂
  refine ⟨u, w', hrun, hv.mono fun b e he => ?_, hg₂.ev.os, hg₂.ev.tape, hg₂.ev.output, hg₂.ev.size, fun k hk => hg₂.ev.same k hk (.inl hk)⟩
  rcases hg.fresh b e he with h | h
  · exact h
  · have := hg.sr.lt b e he
    omega
end
end Go.Proofs.Vai
