/- Drawn regions, seventh part: the order that is drawn. -/
import Derived.Test.YthaimknbmaeomaaGreatDoorVaiDrawF
import Derived.Orders
set_option linter.unusedVariables false
set_option linter.unusedSimpArgs false
set_option linter.unusedSectionVars false
namespace Go.Proofs.Vai
open Go Go.RowKit
variable [Env]

section
variable {P : Program}

/-- Every edge that binds points to what has a lower rank. -/
def Ranked (m : Region.Mode) (ops : Array Oper) : Prop := ∃ ρ : Nat → Nat, ∀ (i : Nat) (o : Oper), ops[i]? = some o → ∀ e ∈ o.after, Region.binds m e = true → e.on < ops.size ∧ ρ e.on < ρ i
theorem ready_some {m : Region.Mode} {ops : Array Oper} {listed : Array Bool} (hsz : listed.size = ops.size) {ρ : Nat → Nat} (hρ : ∀ (i : Nat) (o : Oper), ops[i]? = some o → ∀ e ∈ o.after, Region.binds m e = true → e.on < ops.size ∧ ρ e.on < ρ i) :
    ∀ (r i : Nat), ρ i = r → i < ops.size → listed.getD i true = false → Region.ready m ops listed ≠ [] := by
  intro r
  induction r using Nat.strongRecOn with
  | _ r ih =>
    intro i hr hi hl
    have ho : ops[i]? = some ops[i] := Array.getElem?_eq_getElem hi
    by_cases hall : ∀ e ∈ (ops[i]).after, Region.binds m e = true → listed.getD e.on false = true
    · intro hn
      have : i ∈ Region.ready m ops listed := mem_ready.2 ⟨hl, _, ho, hall⟩
      rw [hn] at this
      cases this
    · have : ∃ e, e ∈ (ops[i]).after ∧ Region.binds m e = true ∧ listed.getD e.on false = false := by
        apply Classical.byContradiction
        intro hne
        refine hall fun e he hb => ?_
        cases hq : listed.getD e.on false with
        | true => rfl
        | false => exact absurd ⟨e, he, hb, hq⟩ hne
      obtain ⟨e, he, hb, hq⟩ := this
      obtain ⟨h1, h2⟩ := hρ i _ ho e he hb
      refine ih (ρ e.on) (by omega) e.on rfl h1 ?_
      rw [Array.getD_eq_getD_getElem?, Array.getElem?_eq_getElem (by omega)] at hq ⊢
      simpa using hq
def unlisted (listed : Array Bool) : Nat := (listed.toList.filter (! ·)).length
theorem unlisted_set {listed : Array Bool} {i : Nat} (h : listed.getD i true = false) : unlisted (listed.setIfInBounds i true) + 1 = unlisted listed := by
  have hi : i < listed.size := by
    rcases Nat.lt_or_ge i listed.size with h' | h'
    · exact h'
    · rw [Array.getD_eq_getD_getElem?, Array.getElem?_eq_none h'] at h; cases h
  have hv : listed[i] = false := by
    rw [Array.getD_eq_getD_getElem?, Array.getElem?_eq_getElem hi] at h
    simpa using h
  have key : ∀ (l : List Bool) (i : Nat), l[i]? = some false → ((l.set i true).filter (! ·)).length + 1 = (l.filter (! ·)).length := by
    intro l
    induction l with
    | nil => intro i h; simp at h
    | cons b l ih =>
      intro i h
      cases i with
      | zero => simp at h; subst h; simp
      | succ i =>
        have := ih i (by simpa using h)
        cases b <;> simp at this ⊢ <;> omega
  unfold unlisted
  rw [Array.toList_setIfInBounds]
  exact key _ _ (by rw [Array.getElem?_toList, Array.getElem?_eq_getElem hi, hv])
theorem unlisted_zero {listed : Array Bool} (h : unlisted listed = 0) {i : Nat} (hi : i < listed.size) : listed.getD i true = true := by
  cases hq : listed.getD i true with
  | true => rfl
  | false => have := unlisted_set hq; omega
theorem unlisted_pos {listed : Array Bool} (h : unlisted listed ≠ 0) : ∃ i, i < listed.size ∧ listed.getD i true = false := by
  have : ∃ x, x ∈ listed.toList.filter (! ·) := by
    unfold unlisted at h
    cases hl : listed.toList.filter (! ·) with
    | nil => rw [hl] at h; exact absurd rfl h
    | cons x l => exact ⟨x, by simp⟩
  obtain ⟨x, hx⟩ := this
  rw [List.mem_filter] at hx
  obtain ⟨i, hi, hxi⟩ := List.getElem_of_mem hx.1
  refine ⟨i, by simpa using hi, ?_⟩
  rw [Array.getD_eq_getD_getElem?, Array.getElem?_eq_getElem (by simpa using hi)]
  have h2 : x = false := by simpa using hx.2
  subst h2
  simpa using hxi
/-- The operations one by one, in the order that is drawn. -/
theorem draw_loop {m : Region.Mode} {ops : Array Oper} (hR : Ranked m ops) {b : Frame} {k : List Item} {cs : List Frame} {I : Array Bool → Act → World → Prop}
    (hstep : ∀ (listed : Array Bool) (ca : Act) (w : World) (i : Nat), I listed ca w → i ∈ Region.ready m ops listed → ∀ rest, ∃ ca' w', Steps P (lone (b.atR ca (.inRegion ops (i :: rest) :: k)) cs w) (lone (b.atR ca' (.inRegion ops rest :: k)) cs w') ∧ I (listed.setIfInBounds i true) ca' w') :
    ∀ (fuel t : Nat) (listed : Array Bool) (ca : Act) (w : World), listed.size = ops.size → unlisted listed = fuel → I listed ca w →
      ∃ listed' ca' w', (∀ i, i < ops.size → listed'.getD i true = true) ∧ I listed' ca' w' ∧ Steps P (lone (b.atR ca (.inRegion ops (Region.linearise.go m ops fuel t listed []) :: k)) cs w) (lone (b.atR ca' k) cs w') := by
  obtain ⟨ρ, hρ⟩ := hR
  intro fuel
  induction fuel with
  | zero =>
    intro t listed ca w hsz hun hI
    exact ⟨listed, ca, w, fun i hi => unlisted_zero hun (by omega), hI, .one stepR_region_end⟩
  | succ fuel ih =>
    intro t listed ca w hsz hun hI
    obtain ⟨i0, hi0, hl0⟩ := unlisted_pos (listed := listed) (by omega)
    have hne := ready_some hsz hρ (ρ i0) i0 rfl (by omega) hl0
    have hlen : 0 < (Region.ready m ops listed).length := List.length_pos_iff.2 hne
    have hget : (Region.ready m ops listed)[t % (Region.ready m ops listed).length]? = some ((Region.ready m ops listed)[t % (Region.ready m ops listed).length]'(Nat.mod_lt _ hlen)) := List.getElem?_eq_getElem _
    generalize hi : (Region.ready m ops listed)[t % (Region.ready m ops listed).length]'(Nat.mod_lt _ hlen) = i at hget
    have hmem : i ∈ Region.ready m ops listed := by rw [← hi]; exact List.getElem_mem _
    have hgo : Region.linearise.go m ops (fuel + 1) t listed [] = i :: Region.linearise.go m ops fuel (t / (Region.ready m ops listed).length) (listed.setIfInBounds i true) [] := by
      show (match (Region.ready m ops listed)[t % (Region.ready m ops listed).length]? with | some i => Region.linearise.go m ops fuel (t / (Region.ready m ops listed).length) (listed.setIfInBounds i true) [i] | none => [].reverse) = _
      rw [hget]
      show Region.linearise.go m ops fuel (t / (Region.ready m ops listed).length) (listed.setIfInBounds i true) [i] = _
      rw [linearise_go_acc]
      rfl
    rw [hgo]
    obtain ⟨ca₁, w₁, hs, hI₁⟩ := hstep listed ca w i hI hmem (Region.linearise.go m ops fuel (t / (Region.ready m ops listed).length) (listed.setIfInBounds i true) [])
    have hun₁ := unlisted_set (mem_ready.1 hmem).1
    obtain ⟨listed', ca', w', h1, h2, h3⟩ := ih (t / (Region.ready m ops listed).length) (listed.setIfInBounds i true) ca₁ w₁ (by simpa using hsz) (by omega) hI₁
    exact ⟨listed', ca', w', h1, h2, hs.trans h3⟩
end
end Go.Proofs.Vai
