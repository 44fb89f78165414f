/- Drawn regions, seventeenth part: one that panics; THE WHOLE. -/
import Derived.Test.YthaimknbmaeomaaGreatDoorVaiDrawP
set_option linter.unusedVariables false
set_option linter.unusedSimpArgs false
set_option linter.unusedSectionVars false
namespace Go.Proofs.Vai
open Go Go.RowKit
variable [Env]

section
variable {P : Program} {N : Nat}
/-- The operations one by one, or to a way out. -/
theorem draw_loop2 {m : Region.Mode} {ops : Array Oper} (hR : Ranked m ops) {b : Frame} {k : List Item} {cs : List Frame} {I : Array Bool → Act → World → Prop} {Q : Machine → Prop}
    (hstep : ∀ (listed : Array Bool) (ca : Act) (w : World) (i : Nat), I listed ca w → i ∈ Region.ready m ops listed → ∀ rest,
      (∃ ca' w', Steps P (lone (b.atR ca (.inRegion ops (i :: rest) :: k)) cs w) (lone (b.atR ca' (.inRegion ops rest :: k)) cs w') ∧ I (listed.setIfInBounds i true) ca' w') ∨ ∃ m', Q m' ∧ Steps P (lone (b.atR ca (.inRegion ops (i :: rest) :: k)) cs w) m') :
    ∀ (fuel t : Nat) (listed : Array Bool) (ca : Act) (w : World), listed.size = ops.size → unlisted listed = fuel → I listed ca w →
      (∃ listed' ca' w', (∀ i, i < ops.size → listed'.getD i true = true) ∧ I listed' ca' w' ∧ Steps P (lone (b.atR ca (.inRegion ops (Region.linearise.go m ops fuel t listed []) :: k)) cs w) (lone (b.atR ca' k) cs w')) ∨
        ∃ m', Q m' ∧ Steps P (lone (b.atR ca (.inRegion ops (Region.linearise.go m ops fuel t listed []) :: k)) cs w) m' := by
  obtain ⟨ρ, hρ⟩ := hR
  intro fuel
  induction fuel with
  | zero =>
    intro t listed ca w hsz hun hI
    exact .inl ⟨listed, ca, w, fun i hi => unlisted_zero hun (by omega), hI, .one stepR_region_end⟩
  | succ fuel ih =>
    intro t listed ca w hsz hun hI
    obtain ⟨i0, hi0, hl0⟩ := unlisted_pos (listed := listed) (by omega)
    have hne := ready_some hsz hρ (ρ i0) i0 rfl (by omega) hl0
    have hlen : 0 < (Region.ready m ops listed).length := List.length_pos_iff.2 hne
    have hget : (Region.ready m ops listed)[t % (Region.ready m ops listed).length]? = some ((Region.ready m ops listed)[t % (Region.ready m ops listed).length]'(Nat.mod_lt _ hlen)) := List.getElem?_eq_getElem _
    generalize hi : (Region.ready m ops listed)[t % (Region.ready m ops listed).length]'(Nat.mod_lt _ hlen) = i at hget
    have hmem : i ∈ Region.ready m ops listed := by rw [← hi]; exact List.getElem_mem _
    have hgo : Region.linearise.go m ops (fuel + 1) t listed [] = i :: Region.linearise.go m ops fuel (t / (Region.ready m ops listed).length) (listed.setIfInBounds i true) [] := by
      show (match (Region.ready m ops listed)[t % (Region.ready m ops listed).length]? with | some i => Region.linearise.go m ops fuel (t / (Region.ready m ops listed).length) (listed.setIfInBounds i true) [i] | none => [].reverse) = _
      rw [hget]
      show Region.linearise.go m ops fuel (t / (Region.ready m ops listed).length) (listed.setIfInBounds i true) [i] = _
      rw [linearise_go_acc]
      rfl
    rw [hgo]
    rcases hstep listed ca w i hI hmem (Region.linearise.go m ops fuel (t / (Region.ready m ops listed).length) (listed.setIfInBounds i true) []) with ⟨ca₁, w₁, hs, hI₁⟩ | ⟨m', h1, h2⟩
    · have hun₁ := unlisted_set (mem_ready.1 hmem).1
      rcases ih (t / (Region.ready m ops listed).length) (listed.setIfInBounds i true) ca₁ w₁ (by simpa using hsz) (by omega) hI₁ with ⟨listed', ca', w', h1, h2, h3⟩ | ⟨m', h1, h2⟩
      · exact .inl ⟨listed', ca', w', h1, h2, hs.trans h3⟩
      · exact .inr ⟨m', h1, hs.trans h2⟩
    · exact .inr ⟨m', h1, h2⟩

/-! ### The trace behind one that panics -/
theorem panPut_some {o : Oper} {k : Nat → AAct → St → Option (List Tel)} {i : Nat} {a : AAct} {s : St} {w : Bool} {v : AV} {s' : St} {q : List Tel} (h : panPut o k i a s w v s' = some q) :
    s.n.toNat ≤ s'.n.toNat ∧ ∃ a' q', a.put o.dst v = some a' ∧ k (i + 1) a' s' = some q' ∧ q = ⟨i, o, a, s, w, v⟩ :: q' := by
  obtain ⟨h1, h2⟩ := cnd_none.1 h
  rw [toN_eq, toN_eq] at h1
  obtain ⟨a', h3, h4⟩ := obind_some.1 h2
  obtain ⟨q', h5, h6⟩ := omap_some.1 h4
  exact ⟨Nat.le_of_ble_eq_true h1, a', q', h3, h5, h6.symm⟩
def isB (b : List Nat) (n i : Nat) : Bool := Nat.beq i n || bit b i n
theorem panOps_trc {r : Rec} {all : List Oper} {b : List Nat} {n : Nat} : ∀ (l : List Oper) (i : Nat) (a : AAct) (s : St) (q : List Tel), panOps P all b n l i a s = some q →
    ∃ A S, A 0 = a ∧ S 0 = s ∧ Trc P r all l i q A S fun k => isB b n (i + k)
  | [], i, a, s, q, h => by
    cases h
    exact ⟨fun _ => a, fun _ => s, rfl, rfl, rfl, fun k t h => by simp at h⟩
  | o :: l, i, a, s, q, h => by
    replace h : cnd (isB b n i) (panPut o (panOps P all b n l) i a s false .undef s) (obind (wantedA all a o.guard) (panOp P o (panOps P all b n l) i a s)) = some q := h
    have key : ∃ w v s1, (isB b n i = false → wantedA all a o.guard = some w) ∧ ((isB b n i = false → StepC P r o a s w v s1) ∧ (isB b n i = true → w = false ∧ v = .undef ∧ s1 = s)) ∧ panPut o (panOps P all b n l) i a s w v s1 = some q := by
      cases hB : isB b n i with
      | true =>
        rw [hB] at h
        exact ⟨false, .undef, s, (fun e => by cases e), ⟨(fun e => by cases e), fun _ => ⟨rfl, rfl, rfl⟩⟩, h⟩
      | false =>
        rw [hB] at h
        obtain ⟨w, hw, h⟩ := obind_some.1 (show obind (wantedA all a o.guard) (panOp P o (panOps P all b n l) i a s) = some q from h)
        cases w with
        | false => exact ⟨false, .undef, s, fun _ => hw, ⟨fun _ => .no, (fun e => by cases e)⟩, h⟩
        | true =>
          obtain ⟨x, hx, h⟩ := obind_some.1 (show obind (opA o.op P a s) (panRes o (panOps P all b n l) i a s) = some q from h)
          cases x with
          | val v s1 => exact ⟨true, v, s1, fun _ => hw, ⟨fun _ => .val v s1 hx, (fun e => by cases e)⟩, h⟩
          | _ => cases h
    obtain ⟨w, v, s1, hw, hst, hp⟩ := key
    obtain ⟨hle, a', q', h3, h5, rfl⟩ := panPut_some hp
    obtain ⟨A, S, rfl, rfl, hT⟩ := panOps_trc l (i + 1) a' s1 q' h5
    refine ⟨fun k => match k with | 0 => a | k + 1 => A k, fun k => match k with | 0 => s | k + 1 => S k, rfl, rfl, congrArg (· + 1) hT.len, fun k t ht => ?_⟩
    cases k with
    | zero =>
      simp at ht
      subst ht
      exact ⟨rfl, rfl, rfl, rfl, hw, hst, hle, h3⟩
    | succ k =>
      obtain ⟨g1, g2, g3, g4, g5, g6, g7, g8⟩ := hT.tel k t (by simpa using ht)
      have e : i + (k + 1) = i + 1 + k := by omega
      refine ⟨by simpa using g1, by omega, g3, g4, ?_, ?_, g7, g8⟩
      · rw [e]; exact g5
      · rw [e]; exact g6
theorem Trc.append {r : Rec} {all l1 l2 : List Oper} {i : Nat} {t1 t2 : List Tel} {A1 A2 : Nat → AAct} {S1 S2 : Nat → St} {B : Nat → Bool} (h1 : Trc P r all l1 i t1 A1 S1 B) (h2 : Trc P r all l2 (i + l1.length) t2 A2 S2 fun k => B (l1.length + k))
    (hA : A1 l1.length = A2 0) (hS : S1 l1.length = S2 0) :
    Trc P r all (l1 ++ l2) i (t1 ++ t2) (fun k => if k < l1.length then A1 k else A2 (k - l1.length)) (fun k => if k < l1.length then S1 k else S2 (k - l1.length)) B := by
  refine ⟨by simp [h1.len, h2.len], fun k t ht => ?_⟩
  by_cases hk : k < l1.length
  · rw [List.getElem?_append_left (by rw [h1.len]; exact hk)] at ht
    obtain ⟨g1, g2, g3, g4, g5, g6, g7, g8⟩ := h1.tel k t ht
    have eA : (if k + 1 < l1.length then A1 (k + 1) else A2 (k + 1 - l1.length)) = A1 (k + 1) := by
      by_cases hk1 : k + 1 < l1.length
      · rw [if_pos hk1]
      · rw [if_neg hk1, show k + 1 = l1.length by omega, Nat.sub_self, hA]
    have eS : (if k + 1 < l1.length then S1 (k + 1) else S2 (k + 1 - l1.length)) = S1 (k + 1) := by
      by_cases hk1 : k + 1 < l1.length
      · rw [if_pos hk1]
      · rw [if_neg hk1, show k + 1 = l1.length by omega, Nat.sub_self, hS]
    simp only [if_pos hk, eA, eS]
    exact ⟨by rw [List.getElem?_append_left hk]; exact g1, g2, g3, g4, g5, g6, g7, g8⟩
  · rw [List.getElem?_append_right (by rw [h1.len]; omega), h1.len] at ht
    obtain ⟨g1, g2, g3, g4, g5, g6, g7, g8⟩ := h2.tel _ t ht
    have e1 : l1.length + (k - l1.length) = k := by omega
    have e2 : k + 1 - l1.length = k - l1.length + 1 := by omega
    simp only [e1] at g5 g6
    simp only [if_neg hk, if_neg (show ¬ k + 1 < l1.length by omega), e2]
    exact ⟨by rw [List.getElem?_append_right (by omega)]; exact g1, by omega, g3, g4, g5, g6, g7, g8⟩

/-! ### What is known no longer -/
theorem badT_get {d : Nat} : ∀ (l : List Oper) (t : Tr AV), (∃ o, o ∈ l ∧ o.dst = some d) ∧ (badT l t).get (pos d) = some .bad ∨ ((badT l t).get (pos d) = t.get (pos d) ∧ ∀ o ∈ l, o.dst ≠ some d)
  | [], t => .inr ⟨rfl, fun _ h => by cases h⟩
  | o :: l, t => by
    have key : badT (o :: l) t = badT l (@Option.rec Tmp (fun _ => Tr AV) t (fun d => t.set (pos d) .bad) o.dst) := rfl
    rw [key]
    rcases badT_get (d := d) l (@Option.rec Tmp (fun _ => Tr AV) t (fun d => t.set (pos d) .bad) o.dst) with ⟨⟨o', h1, h2⟩, h3⟩ | ⟨h1, h2⟩
    · exact .inl ⟨⟨o', List.mem_cons_of_mem _ h1, h2⟩, h3⟩
    · rw [h1]
      cases hd : o.dst with
      | none =>
        refine .inr ⟨rfl, fun o' ho => ?_⟩
        cases ho with
        | head => rw [hd]; exact fun e => by cases e
        | tail _ ho => exact h2 o' ho
      | some x =>
        by_cases hx : x = d
        · subst hx
          exact .inl ⟨⟨o, List.mem_cons_self .., hd⟩, get_set_same _ _ _⟩
        · refine .inr ⟨get_set_ne _ _ (fun e => hx (pos_inj e)), fun o' ho => ?_⟩
          cases ho with
          | head => rw [hd]; exact fun e => hx (Option.some.inj e)
          | tail _ ho => exact h2 o' ho

section
variable {r : Rec} {ops : Array Oper} {tels : List Tel} {A : Nat → AAct} {S : Nat → St} {B : Nat → Bool} {μ₀ μ : Inj} {w₀ w : World} {D : Nat → Bool} {h : Nat} {ca : Act}
theorem pan_heavy (hF : Fit P ops.toList) {o : Oper} {n : Nat} (ho : ops.toList[n]? = some o) {a : AAct} {s s1 : St} {c : AChain} (hp : PanC P r o a s c s1) : clsO P o.op = 2 := by
  have h3 := hF.cls n o ho
  have key : ∀ x, opA o.op P a s = some x → (∀ v s', x ≠ .val v s') → clsO P o.op = 2 := by
    intro x hx hn
    rcases cls_all P o.op with h | h | h | h | h
    · obtain ⟨v, e⟩ := re_op P a h s x hx; exact absurd e (hn _ _)
    · obtain ⟨v, blk, _, e, _⟩ := lays_op P a h s x hx; exact absurd e (hn _ _)
    · exact h
    · exact absurd h h3
    · obtain ⟨v, e⟩ := (pu_op P a h).re s x hx; exact absurd e (hn _ _)
  cases hp with
  | enter f args s0 c rc s1 hx _ => exact key _ hx (by simp)
  | round l args s0 c rc s1 hx _ => exact key _ hx (by simp)
/-- THE ONE THAT PANICS. -/
theorem Inv.panics (hP : NoNum P) (hr : RecOK P N r) (hF : Fit P ops.toList) (hT : Trc P r ops.toList ops.toList 0 tels A S B) (hs0 : SR P N μ₀ (S 0) w₀) (hI : Inv P N ops.toList tels A S μ₀ w₀ D h μ ca w) {t : Tel} (hq : tels[h]? = some t)
    (hdone : ∀ j, bit (ahead ops.toList) h j = true → D j = true) (hwt : wantedA ops.toList (A h) t.o.guard = some true) {c : AChain} {s1 : St} (hp : PanC P r t.o (A h) (S h) c s1) (b : Frame) (cs : List Frame) (k : List Item) (rest : List Nat) :
    ∃ μ₁ w₁ C k1, Goes P N μ₀ (S 0) w₀ μ₁ s1 w₁ ∧ AR P μ₁ (badA ops.toList (A h)) ca ∧ ChR P μ₁ c C ∧ Steps P (lone (b.atR ca (.inRegion ops (h :: rest) :: k)) cs w) (lone ((b.atR ca k1).raise C) cs w₁) := by
  obtain ⟨hqo, _⟩ := hT.tel h t hq
  have hql := hT.lt hq
  have ho : ops[h]? = some t.o := by simpa using hqo
  have hw : Region.wanted t.o (yielded ops ca.tmps) = true := by
    refine wanted_at (P := P) (μ := resP μ (nmOf P ops.toList tels S h h)) (a := A h) (fun g p d hg hp hd => ?_) hwt
    have hbit := hF.guard h t.o g hqo hg
    have hgq := bit_lt h g.1 hbit
    obtain ⟨y, hy⟩ := hT.get (k := g.1) (by omega)
    have hyo : y.o = p := by
      have h1 := (hT.tel g.1 y hy).1
      have h2 : ops.toList[g.1]? = some p := by simpa using hp
      rw [h2] at h1
      exact (Option.some.inj h1).symm
    rw [hT.new hF hy (by rw [hyo]; exact hd) h hgq (Nat.le_of_lt hql)]
    refine (hI.done g.1 y d (hdone g.1 hbit) hy (by rw [hyo]; exact hd)).mono (resP_sub fun b e hb he => ⟨?_, he⟩)
    rcases hb with hb | ⟨i, h1, rfl | h2⟩
    · exact .inl hb
    · exact .inr ⟨_, h1, .inr hbit⟩
    · exact .inr ⟨i, h1, .inr (bit_trans h g.1 i hbit h2)⟩
  obtain ⟨a', ha, hsame⟩ := hI.mask hF hT hq hdone
  have hsub : Sub (resP μ (nmIn P ops.toList tels S h h)) (resP μ (nmB S h)) := resP_sub fun b e hb he => ⟨by
    rcases hb with hb | ⟨i, ⟨y, h1, h2, h3, rfl⟩, hbi⟩
    · exact hb
    · have := bit_lt h i hbi
      have := hT.mono (j := i + 1) (k := h) (by omega) (by omega)
      have := hT.lays hF h1 h2 h3
      show (S i).n.toNat < (S h).n.toNat
      omega, he⟩
  replace ha := ha.mono hsub
  have hsem : ∀ {x}, opA t.o.op P a' (S h) = some x → (∀ d s', x ≠ .defer d s') → t.o.semAt b.roundOf ca.eval = execOp ca.eval t.o := fun hx h => Oper.semAt_eq _ _ _ (opA_notDefer hx h)
  have back : ∃ μ₁ w₁ C, Goes P N (resP μ (nmB S h)) (S h) w μ₁ s1 w₁ ∧ ChR P μ₁ c C ∧ Steps P (lone (b.atR ca (.inRegion ops (h :: rest) :: k)) cs w) (lone ((b.atR ca (.inRegion ops (h :: rest) :: k)).raise C) cs w₁) := by
    cases hp with
    | enter f args s0 c rc s1 hx hq =>
      rw [← hsame] at hx
      obtain ⟨us, hres, rfl, hargs⟩ := opA_sound hP hI.sr ha hx
      obtain ⟨μ', w', C, hg, hc, hst⟩ := ((hr.call f args none (A h) (S h) _ hq).2 (resP μ (nmB S h)) w (.norm (b.atR ca (.inRegion ops (h :: rest) :: k) :: cs)) .run us hI.sr hargs (.norm _ _)).back
      exact ⟨μ', w', C, hg, hc, .head (step_enter ho hw (by rw [hsem hx (by simp)]; exact hres)) hst⟩
    | round l args s0 c rc s1 hx hq =>
      rw [← hsame] at hx
      obtain ⟨e, us, hl, hres, rfl, hargs⟩ := opA_sound hP hI.sr ha hx
      obtain ⟨fn, tmps, as, bd, hy, hb⟩ := hr.round l args (A h) (S h) _ hq (resP μ (nmB S h)) w us e hI.sr hargs hl
      obtain ⟨μ', w', C, hg, hc, hst⟩ := hb (b.atR ca (.inRegion ops (h :: rest) :: k)) cs
      exact ⟨μ', w', C, hg, hc, .head (step_round ho hw (by rw [hsem hx (by simp), hres]; exact hy)) hst⟩
  obtain ⟨μ₁, w₁, C, hg, hc, hst⟩ := back
  have hle0 : (S 0).n.toNat ≤ (S h).n.toNat := hT.mono (Nat.zero_le _) (Nat.le_of_lt hql)
  have hs1 : Sub μ₀ μ₁ := fun b e hb => hg.ext.sub b e (resP_some.2 ⟨Nat.lt_of_lt_of_le (hs0.lt b e hb) hle0, hI.ext.sub b e hb⟩)
  have hsn : Sub (resP μ (nmB S 0)) μ₁ := fun b e hb => by
    obtain ⟨h1, h2⟩ := resP_some.1 hb
    exact hg.ext.sub b e (resP_some.2 ⟨Nat.lt_of_lt_of_le h1 hle0, h2⟩)
  obtain ⟨e1, e2, e3⟩ := hT.same h (Nat.le_of_lt hql)
  refine ⟨μ₁, w₁, C, _, ⟨⟨hs1, fun b e hb => ?_⟩, fun b e hb => ?_, Nat.le_trans hle0 hg.le, hI.evTrans hg.ev, hg.sr⟩, ⟨fun d => ?_, ?_, ?_⟩, hc, hst⟩
  · rcases hg.ext.new b e hb with q | ⟨b₀, e₀, q1, q2⟩
    · exact .inl (Nat.le_trans hI.ev.size q)
    · rcases hI.ext.new b₀ e₀ (resP_some.1 q1).2 with q | ⟨b₁, e₁, q3, q4⟩
      · exact .inl (q2 ▸ q)
      · exact .inr ⟨b₁, e₁, q3, q4.trans q2⟩
  · rcases hg.fresh b e hb with q | q
    · exact hI.fresh b e (resP_some.1 q).2
    · exact .inr (Nat.le_trans hle0 q)
  · have hget : (badA ops.toList (A h)).tm = badT ops.toList (A h).tm := by generalize A h = a; cases a; rfl
    rw [hget]
    rcases badT_get (d := d) ops.toList (A h).tm with ⟨_, e⟩ | ⟨e, hn⟩
    · rw [e]; exact .bad _
    · rw [e]
      have hn' : ∀ (i : Nat) (o : Oper), ops.toList[i]? = some o → o.dst ≠ some d := fun i o ho => hn o (List.mem_of_getElem? ho)
      have := hI.old d hn'
      rw [← hT.old h (Nat.le_of_lt hql) fun j o _ ho => hn' j o ho] at this
      exact this.mono hsn
  · have : (badA ops.toList (A h)).n = (A h).n := by generalize A h = a; cases a; rfl
    rw [this, e1]; exact hI.size
  · have : (badA ops.toList (A h)).defers = (A h).defers := by generalize A h = a; cases a; rfl
    rw [this, e2]; exact hI.dfr.mono hsn
end
theorem badA_rc (l : List Oper) (a : AAct) : (badA l a).rc = a.rc := by cases a; rfl
/-- A DRAWN REGION. -/
theorem drawn_all (hP : NoNum P) : Drawn P N := by
  intro r hr id ops rd a s o h μ w b X u k ca hs ha hX hk hrd hf
  obtain ⟨hok, h⟩ := cnd_none.1 (show cnd (drawOk P ops.toList) (obind (drawOps P ops.toList r ops.toList 0 a s) (drawEnd P ops.toList)) none = some o from h)
  obtain ⟨q, hq, hE⟩ := obind_some.1 h
  clear h
  have hF := fit_of hok
  obtain ⟨A, S, rfl, rfl, hlen, hEnd, hT0⟩ := drawOps_trc _ _ _ _ _ hq
  -- the draw
  let w₀ : World := { w with drawn := w.drawn + 1 }
  have hk0 : Kept w w₀ := ⟨rfl, rfl, rfl, Nat.le_refl _, fun _ _ => rfl⟩
  have hs0 : SR P N μ (S 0) w₀ := hs.kept hk0
  have hg0 : Goes P N μ (S 0) w μ (S 0) w₀ := ⟨Ext.refl _ _, fun _ _ h => .inl h, Nat.le_refl _, ⟨rfl, rfl, rfl, Nat.le_refl _, fun _ _ _ => rfl⟩, hs0⟩
  obtain ⟨m, t', hsch, hR, hbinds⟩ := sched_of hF (P.follows .mixedOrders) (w.tape w.drawn (.order b.fn id))
  have hempty : unlisted (Array.replicate ops.size false) = ops.size := by
    unfold unlisted
    simp
  have hstep0 : Steps P (lone (b.atR ca (.code (.region id ops true) :: k)) (X.cs u) w) (lone (b.atR ca (.inRegion ops (Region.linearise m ops t') :: k)) (X.cs u) w₀) := by
    rw [← hsch]
    exact .one stepR_region_draw
  have hD0 : ∀ i, false = (Array.replicate ops.size false).getD i false := fun i => by
    rw [Array.getD_eq_getD_getElem?]
    cases hx : (Array.replicate ops.size false)[i]? with
    | none => rfl
    | some x =>
      have := Array.mem_of_getElem? hx
      simp at this
      rw [this.2]; rfl
  -- what is ready
  have ready : ∀ {D : Nat → Bool} {tels : List Tel} {A : Nat → AAct} {S : Nat → St} {B : Nat → Bool} {h : Nat} {μ' : Inj} {ca : Act} {w : World} {listed : Array Bool} {i : Nat}, Trc P r ops.toList ops.toList 0 tels A S B → listed.size = ops.size → (∀ i, D i = listed.getD i false) →
      Inv P N ops.toList tels A S μ w₀ D h μ' ca w → i ∈ Region.ready m ops listed → ∃ t, tels[i]? = some t ∧ D i = false ∧ (∀ j, bit (ahead ops.toList) i j = true → D j = true) ∧ i < ops.size := by
    intro D tels A S B h μ' ca w listed i hT hsz hDl hI hready
    obtain ⟨hnl, o, ho, hedge⟩ := mem_ready.1 hready
    have hi : i < ops.size := (Array.getElem?_eq_some_iff.1 ho).1
    obtain ⟨t, ht⟩ := hT.get (k := i) (by simpa using hi)
    refine ⟨t, ht, ?_, fun j hb => ?_, hi⟩
    · rw [hDl]
      rw [Array.getD_eq_getD_getElem?, Array.getElem?_eq_getElem (by omega)] at hnl ⊢
      simpa using hnl
    · obtain ⟨e, he, hbi, hlt, hor⟩ := bit_edge (ops := ops.toList) (by simpa using ho) hb
      have hDe : D e.on = true := by rw [hDl]; exact hedge e (by simpa using he) (hbinds e hbi)
      rcases hor with rfl | hor
      · exact hDe
      · exact hI.down e.on j hDe hor
  have andD_l : ∀ {D : Nat → Bool} {listed : Array Bool} {i : Nat}, listed.size = ops.size → i < ops.size → (∀ i, D i = listed.getD i false) → ∀ j, andD D i j = (listed.setIfInBounds i true).getD j false := by
    intro D listed i hsz hi hDl j
    by_cases hj : j = i
    · subst hj
      rw [andD_same, Array.getD_eq_getD_getElem?, Array.getElem?_setIfInBounds_self_of_lt (by omega)]
      rfl
    · rw [andD_ne D hj, hDl, Array.getD_eq_getD_getElem?, Array.getD_eq_getD_getElem?, Array.getElem?_setIfInBounds_ne (Ne.symm hj)]
  cases hq2 : q.2 with
  | done a' s' =>
    rw [hq2] at hEnd
    obtain ⟨hn, hAn, hSn⟩ := hEnd
    have h : cnd (drawChk P (ahead ops.toList) (clsL P ops.toList 0) (heads P ops.toList.length s' q.1) q.1) (some (.at .normal a' s')) none = some o := by
      have h : drawEnd P ops.toList q = some o := hE
      unfold drawEnd at h
      rw [hq2] at h
      exact h
    obtain ⟨hchk, h⟩ := cnd_none.1 h
    cases h
    rw [hn] at hAn hSn
    rw [hn, List.take_length] at hT0
    have hT := hT0
    rw [← hSn] at hchk
    rw [← hAn, ← hSn]
    obtain ⟨h0, hI0⟩ := inv_start hF hT hs0 ha
    have hhead : ∀ {D : Nat → Bool} {h : Nat} {μ' : Inj} {ca : Act} {w : World}, Inv P N ops.toList q.1 A S μ w₀ D h μ' ca w → (h, (S h).h) ∈ heads P ops.toList.length (S ops.toList.length) q.1 := by
      intro D h μ' ca w hI
      obtain ⟨m1, m2⟩ := heads_mem (P := P) (n := ops.toList.length) (s := S ops.toList.length) (l := q.1)
      rcases Nat.lt_or_ge h ops.toList.length with hl | hl
      · obtain ⟨y, hy⟩ := hT.get hl
        obtain ⟨g1, g2, _, g4, _⟩ := hT.tel h y hy
        have := m2 y (List.mem_of_getElem? hy) (hI.nxt y.o g1).1
        rw [g4] at this
        rwa [show y.i = h from by omega] at this
      · have : h = ops.toList.length := Nat.le_antisymm hI.hle hl
        rw [this]
        exact m1
    obtain ⟨listed, ca', w', hall, ⟨hsz, D, h', μ', hDl, hI⟩, hsteps⟩ := draw_loop (P := P) hR (b := b) (k := k) (cs := X.cs u)
      (I := fun listed ca w => listed.size = ops.size ∧ ∃ D h μ', (∀ i, D i = listed.getD i false) ∧ Inv P N ops.toList q.1 A S μ w₀ D h μ' ca w)
      (fun listed ca w i hI hready rest => by
        obtain ⟨hsz, D, h, μ', hDl, hI⟩ := hI
        obtain ⟨t, ht, hD, hdone, hi⟩ := ready hT hsz hDl hI hready
        obtain ⟨μ₂, h₂, ca₂, w₂, hst, hI₂⟩ := hI.step hP hr hF hT hchk (hhead hI) ht rfl hD hdone b (X.cs u) k rest
        exact ⟨ca₂, w₂, hst, by simpa using hsz, andD D i, h₂, μ₂, andD_l hsz hi hDl, hI₂⟩)
      ops.size t' (Array.replicate ops.size false) ca w₀ (by simp) hempty ⟨by simp, _, h0, μ, hD0, hI0⟩
    obtain ⟨hg, hA⟩ := hI.end hF hT hs0 fun i hi => by
      rw [hDl, Array.getD_eq_getD_getElem?, Array.getElem?_eq_getElem (by omega)]
      have := hall i hi
      rw [Array.getD_eq_getD_getElem?, Array.getElem?_eq_getElem (by omega)] at this
      simpa using this
    have hrc := (hT.same ops.toList.length (Nat.le_refl _)).2.2
    exact ⟨μ', w', ca', u, hg0.trans hg, hA, by rw [hrc]; exact hX.mono hg.ext.sub, hstep0.trans hsteps⟩
  | pan p a' s' c s1 =>
    rw [hq2] at hEnd
    obtain ⟨hpn, hAn, hSn, hwn, hpc⟩ := hEnd
    generalize hnn : q.1.length = n at *
    have hnl : n < ops.toList.length := (List.getElem?_eq_some_iff.1 hpn).1
    have h : drawPan P ops.toList q.1 n a' s' c s1 = some o := by
      have h : drawEnd P ops.toList q = some o := hE
      unfold drawEnd at h
      rw [hq2] at h
      rw [← hnn]
      exact h
    obtain ⟨us, hus, h⟩ := obind_some.1 h
    obtain ⟨hchk, h⟩ := cnd_none.1 (show cnd (drawChk P (ahead ops.toList) (clsL P ops.toList 0) (heads P n s' q.1) (q.1 ++ us)) (some (.at (.panic c) (badA ops.toList a') s1)) none = some o from h)
    cases h
    obtain ⟨A2, S2, hA2, hS2, hT2⟩ := panOps_trc (r := r) _ _ _ _ _ hus
    have htl : (ops.toList.take n).length = n := by rw [List.length_take]; omega
    have hT1 : Trc P r ops.toList (ops.toList.take n) 0 q.1 A S (isB (ahead ops.toList) n) := by
      refine ⟨hT0.len, fun k t ht => ?_⟩
      obtain ⟨g1, g2, g3, g4, g5, g6, g7, g8⟩ := hT0.tel k t ht
      have hkn : k < n := by rw [← hnn]; exact (List.getElem?_eq_some_iff.1 ht).1
      have hB : isB (ahead ops.toList) n k = false := by
        unfold isB
        rw [Bool.or_eq_false_iff]
        refine ⟨by cases hb : Nat.beq k n with
        | false => rfl
        | true => have := Nat.eq_of_beq_eq_true hb; omega, ?_⟩
        cases hb : bit (ahead ops.toList) k n with
        | false => rfl
        | true => have := bit_lt k n hb; omega
      exact ⟨g1, g2, g3, g4, fun _ => g5 rfl, ⟨fun _ => g6.1 rfl, fun e => by rw [hB] at e; cases e⟩, g7, g8⟩
    have hT := hT1.append (l2 := ops.toList.drop n) (t2 := us) (A2 := A2) (S2 := S2) (by rw [htl, Nat.zero_add]; exact hT2) (by rw [htl, hA2, hAn]) (by rw [htl, hS2, hSn])
    rw [List.take_append_drop] at hT
    rw [htl] at hT
    generalize hAA : (fun k => if k < n then A k else A2 (k - n)) = AA at hT
    generalize hSS : (fun k => if k < n then S k else S2 (k - n)) = SS at hT
    have lo : ∀ k, k ≤ n → AA k = A k ∧ SS k = S k := fun k hk => by
      rw [← hAA, ← hSS]
      by_cases hkn : k < n
      · simp only [if_pos hkn, and_self]
      · have : k = n := by omega
        subst this
        simp only [Nat.lt_irrefl, if_false, Nat.sub_self, hA2, hS2, hAn, hSn, and_self]
    have hA0 := (lo 0 (Nat.zero_le _)).1
    have hS0 := (lo 0 (Nat.zero_le _)).2
    obtain ⟨hAnn, hSnn⟩ := lo n (Nat.le_refl _)
    rw [← hA0] at ha
    rw [← hS0] at hs0 hg0
    obtain ⟨h0, hI0⟩ := inv_start hF hT hs0 ha
    have hp2 := pan_heavy hF hpn hpc
    obtain ⟨tn, htn⟩ := hT.get hnl
    have htno : tn.o = p := by
      have := (hT.tel n tn htn).1
      rw [hpn] at this
      exact (Option.some.inj this).symm
    have hle : ∀ {D : Nat → Bool} {h : Nat} {μ' : Inj} {ca : Act} {w : World}, Inv P N ops.toList (q.1 ++ us) AA SS μ w₀ D h μ' ca w → D n = false → h ≤ n := by
      intro D h μ' ca w hI hDn
      rcases Nat.lt_or_ge n h with hl | hl
      · rw [(hI.hvy n p hpn hp2).2 hl] at hDn; cases hDn
      · exact hl
    have hhead : ∀ {D : Nat → Bool} {h : Nat} {μ' : Inj} {ca : Act} {w : World}, Inv P N ops.toList (q.1 ++ us) AA SS μ w₀ D h μ' ca w → D n = false → (h, (SS h).h) ∈ heads P n s' q.1 := by
      intro D h μ' ca w hI hDn
      obtain ⟨m1, m2⟩ := heads_mem (P := P) (n := n) (s := s') (l := q.1)
      have hhn := hle hI hDn
      rcases Nat.lt_or_ge h n with hl | hl
      · obtain ⟨y, hy⟩ : ∃ y, q.1[h]? = some y := ⟨_, List.getElem?_eq_getElem (by rw [hnn]; exact hl)⟩
        obtain ⟨g1, g2, _, g4, _⟩ := hT1.tel h y hy
        rw [List.getElem?_take, if_pos hl] at g1
        have := m2 y (List.mem_of_getElem? hy) (hI.nxt y.o g1).1
        rw [g4] at this
        rw [(lo h (Nat.le_of_lt hl)).2]
        rwa [show y.i = h from by omega] at this
      · have : h = n := Nat.le_antisymm hhn hl
        rw [this, hSnn, hSn]
        exact m1
    rcases draw_loop2 (P := P) hR (b := b) (k := k) (cs := X.cs u)
      (I := fun listed ca w => listed.size = ops.size ∧ ∃ D h μ', (∀ i, D i = listed.getD i false) ∧ D n = false ∧ Inv P N ops.toList (q.1 ++ us) AA SS μ w₀ D h μ' ca w)
      (Q := fun m' => ∃ μ₁ w₁ C k1 ca₁, Goes P N μ (SS 0) w₀ μ₁ s1 w₁ ∧ AR P μ₁ (badA ops.toList (A n)) ca₁ ∧ ChR P μ₁ c C ∧ m' = lone ((b.atR ca₁ k1).raise C) (X.cs u) w₁)
      (fun listed ca w i hI hready rest => by
        obtain ⟨hsz, D, e0, μ', hDl, hDn, hI⟩ := hI
        obtain ⟨t, ht, hD, hdone, hi⟩ := ready hT hsz hDl hI hready
        by_cases hin : i = n
        · subst hin
          have hh : i = e0 := by
            have := hle hI hDn
            rcases Nat.lt_or_ge e0 i with hl | hl
            · have hhl : e0 < ops.toList.length := by omega
              have hho : ops.toList[e0]? = some ops.toList[e0] := List.getElem?_eq_getElem hhl
              obtain ⟨h1, h2⟩ := hI.nxt _ hho
              have := hdone e0 (hF.heavy e0 i _ p hl hho hpn h1 hp2)
              rw [h2] at this; cases this
            · omega
          subst hh
          rw [ht] at htn
          cases htn
          obtain ⟨μ₁, w₁, C, k1, q1, q2, q3, q4⟩ := hI.panics hP hr hF hT hs0 ht hdone (by rw [htno, hAnn]; exact hwn) (by rw [htno, hAnn, hSnn]; exact hpc) b (X.cs u) k rest
          rw [hAnn] at q2
          exact .inr ⟨_, ⟨μ₁, w₁, C, k1, ca, q1, q2, q3, rfl⟩, q4⟩
        · have hB : isB (ahead ops.toList) n i = false := by
            unfold isB
            rw [Bool.or_eq_false_iff]
            refine ⟨by cases hb : Nat.beq i n with
            | false => rfl
            | true => exact absurd (Nat.eq_of_beq_eq_true hb) hin, ?_⟩
            cases hb : bit (ahead ops.toList) i n with
            | false => rfl
            | true => have := hdone n hb; rw [hDn] at this; cases this
          obtain ⟨μ₂, h₂, ca₂, w₂, hst, hI₂⟩ := hI.step hP hr hF hT hchk (hhead hI hDn) ht hB hD hdone b (X.cs u) k rest
          exact .inl ⟨ca₂, w₂, hst, by simpa using hsz, andD D i, h₂, μ₂, andD_l hsz hi hDl, by rw [andD_ne D (Ne.symm hin)]; exact hDn, hI₂⟩)
      ops.size t' (Array.replicate ops.size false) ca w₀ (by simp) hempty ⟨by simp, _, h0, μ, hD0, rfl, hI0⟩ with ⟨listed, ca', w', hall, ⟨hsz, D, h', μ', hDl, hDn, hI⟩, _⟩ | ⟨m', ⟨μ₁, w₁, C, k1, ca₁, q1, q2, q3, rfl⟩, hsteps⟩
    · exfalso
      have hns : n < ops.size := by simpa using hnl
      rw [hDl, Array.getD_eq_getD_getElem?, Array.getElem?_eq_getElem (by omega)] at hDn
      have := hall n hns
      rw [Array.getD_eq_getD_getElem?, Array.getElem?_eq_getElem (by omega)] at this
      simp at this hDn
      rw [this] at hDn
      cases hDn
    · rw [← hAn]
      refine ⟨μ₁, w₁, ca₁, u, ?_, q2, ?_, k1, C, q3, hstep0.trans hsteps⟩
      · rw [← hS0]; exact hg0.trans q1
      · rw [badA_rc, ← hAnn, (hT.same n (Nat.le_of_lt hnl)).2.2, hA0]
        exact hX.mono q1.ext.sub
theorem run_all (hP : NoNum P) {orc : Orc} (ho : OrcOK P orc) : ∀ n, RecOK P N (run P orc n) := run_sound hP (drawn_all hP) ho
end
end Go.Proofs.Vai
