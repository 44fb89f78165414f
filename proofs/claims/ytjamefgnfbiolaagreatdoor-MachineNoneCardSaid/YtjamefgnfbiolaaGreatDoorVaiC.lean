/- The verified interpreter, part C. -/
import Derived.Test.YtjamefgnfbiolaaGreatDoorVaiB
import Derived.Great.FillDense
import Derived.Laws.MakeOwn
import Derived.Laws.Tables
import Derived.Lib.ConvBytes
import Derived.Laws.BytesArg
import Derived.Laws.RangeString
import Derived.MapKept
import Derived.Maps.AppendAt
import Derived.Lib.MakeNoZero
import Derived.Lib.Bytealg
set_option linter.unusedVariables false
set_option linter.unusedSimpArgs false
set_option linter.unusedSectionVars false
/- The operations, fourth part: changes of type, literals of structs, arrays and slices, make, slices of slices. -/
namespace Go.Proofs.Vai
open Go Go.RowKit
variable [Env]

section
variable {P : Program} {N : Nat} {μ : Inj} {σ : St} {w : World} {a : AAct} {ca : Act}

theorem Goes.val {r : AV} {σ' : St} {w' : World} {u : Value} {μ' : Inj} {s : Sem Value} (hg : Goes P N μ σ w μ' σ' w') (hrun : s.run P w = .ok u w') (hv : VR P μ' r u) :
    NR P N μ σ w (.val r σ') ((do pure (.value (← s)) : Sem Next).run P w) := ⟨μ', u, w', by simp [hrun], hg, hv⟩

/-! ### Changes of type -/
theorem grown_bytesWorld (w : World) (e : TypeId) (s : ByteArray) : w.grownBy (Lib.bytesWorld w e s) none := by
  refine ⟨?_, ?_, ?_, by rw [Lib.bytesWorld_size]; omega, fun k hk _ => Lib.bytesWorld_at_old w e s k hk⟩ <;>
  · unfold Lib.bytesWorld World.freeze
    split <;> rfl
theorem u8s_get (l : List UInt8) (i : Nat) : (u8s (l.map (·.toNat)))[i]? = (l[i]?).map fun b => AV.int .u8 (Int.ofNat b.toNat) := by
  simp [u8s]
  rfl
theorem u8s_ones (l : List Nat) : ones (u8s l) = true := by
  rw [ones_eq]
  simp [u8s, AV.one]
theorem u8ns_spec : ∀ {cs : List AV} {l : List Nat} {C : List Value}, u8ns cs = some l → VRs P μ cs C → C = (l.map fun c => Value.int .u8 (Int.ofNat c)) ∧ ∀ c ∈ l, c ≤ 255 := by
  intro cs
  induction cs with
  | nil => intro l C h hv; cases h; cases hv; exact ⟨rfl, by simp⟩
  | cons v cs ih =>
    intro l C h hv
    cases hv with
    | cons _ u _ us hv hvs =>
      cases v with
      | int k n =>
        cases k <;> first | (cases h; done) | skip
        cases n with
        | negSucc n => cases h
        | ofNat c =>
          unfold u8ns at h
          cases hc : Nat.ble c 255 with
          | false => rw [hc] at h; cases h
          | true =>
            rw [hc, cond_true] at h
            split at h
            · rename_i l' hl
              cases h
              obtain ⟨h1, h2⟩ := ih hl hvs
              cases hv
              refine ⟨by rw [h1]; rfl, fun x hx => ?_⟩
              cases hx with
              | head => exact Nat.le_of_ble_eq_true hc
              | tail _ hx => exact h2 x hx
            · cases h
      | _ => cases h
section
variable {src dst : TypeId} {us : TypeDesc}
theorem conv_int {k j : IntKind} {n : Int} (hus : P.underlying src = some us) (hud : P.underlying dst = some (.int k)) : (convert src dst (.int j n)).run P w = .ok (.int k (k.wrap n)) w := by
  cases us <;> simp [convert, run_underlying hus, run_underlying hud, Conv.intToInt]
theorem conv_float {k : FloatKind} {j : IntKind} {n : Int} (hus : P.underlying src = some us) (hud : P.underlying dst = some (.float k)) : (convert src dst (.int j n)).run P w = .ok (.float k (k.nearest n)) w := by
  cases us <;> simp [convert, run_underlying hus, run_underlying hud, Conv.intToFloat]
theorem conv_ff {k : FloatKind} {n : Nat} (hus : P.underlying src = some us) (hud : P.underlying dst = some (.float k)) : (convert src dst (.float k n)).run P w = .ok (.float k n) w := by
  cases us <;> simp [convert, run_underlying hus, run_underlying hud, Conv.floatToFloat]
theorem conv_rune {j : IntKind} {n : Nat} (hus : P.underlying src = some us) (hud : P.underlying dst = some .string) : (convert src dst (.int j (Int.ofNat n))).run P w = .ok (.string (Utf8.encode n)) w := by
  cases us <;> simp [convert, run_underlying hus, run_underlying hud, Conv.intToString]
theorem conv_ss {s : ByteArray} (hus : P.underlying src = some us) (hud : P.underlying dst = some .string) : (convert src dst (.string s)).run P w = .ok (.string s) w := by
  cases us <;> simp [convert, run_underlying hus, run_underlying hud]
theorem rune_bytes {n : Nat} (hle : n ≤ 127) : (Utf8.encode n).data.toList.map (·.toNat) = [n] := by
  have h1 : Utf8.valid (n : Int) = true := by simp [Utf8.valid]; omega
  simp only [Utf8.encode, h1, if_true, Int.toNat_natCast]
  rw [if_pos (by omega)]
  simp
  omega
theorem conv_bytes {v : AV} {X : Value} {r : ARes} (h : SR P N μ σ w) (hx : VR P μ v X) (hud : P.underlying dst = some .string) (hr : obind (elemT P src) (fun e => convBytes P e v σ) = some r) :
    NR P N μ σ w r ((do pure (.value (← convert src dst X)) : Sem Next).run P w) := by
  obtain ⟨e, he, hr⟩ := obind_some.1 hr
  have he := elemT_some he
  obtain ⟨h8, hr⟩ := cnd_none.1 hr
  have h8 := isU8T_some h8
  cases v with
  | slice b o n lim wh =>
    obtain ⟨cs, hcs, hr⟩ := obind_some.1 hr
    obtain ⟨l, hl, rfl⟩ := omap_some.1 hr
    cases hx with
    | slice _ _ _ _ _ en ad c hen had hn hm hlim hc =>
      obtain ⟨h1, h2, us', h3, h4, h5⟩ := h.cellsAt hen hcs
      obtain ⟨rfl, h7⟩ := u8ns_spec hl h3
      have hload := run_loadCells (P := P) (a := ad) h4 (fun j hj => by
        obtain rfl : ad = en.a.add o := had.elim id (fun h => by omega)
        rw [add_add]; exact h5 j hj)
      have hlen : l.length = n := by simpa using h4
      have := run_bytesToString w ad n c (l.map Int.ofNat) (by rw [List.map_map]; exact hload)
      refine NR.value h (by simp only [Sem.run_bind, run_convert_bytes_string w src dst e _ n c he h8 hud, this, Result.andThen_ok]; rfl) (.str l _ ?_)
      rw [foldl_push_bytes, show ByteArray.empty = ⟨#[]⟩ from rfl]
      simp only [Array.toList_append, List.map_append, List.map_map]
      have : (l.map ((fun b : UInt8 => b.toNat) ∘ ((fun n : Int => UInt8.ofNat n.toNat) ∘ Int.ofNat))) = l := by
        conv => rhs; rw [← List.map_id l]
        refine List.map_congr_left fun c hc => ?_
        have := h7 c hc
        simp
        omega
      simpa using this
  | nilslice =>
    cases hr
    cases hx
    exact NR.value h (by simp only [Sem.run_bind, run_convert_bytes_nil (P := P) w src e he h8 0 0 dst hud, Result.andThen_ok]; rfl) (.str [] _ rfl)
  | _ => cases hr
theorem conv_sbytes {e : TypeId} {v : AV} {X : Value} {r : ARes} {l : List Nat} (h : SR P N μ σ w) (hx : VR P μ (.str l) X) (hus : P.underlying src = some us) (hud : P.underlying dst = some (.slice e)) (hr : convStr P e l σ = some r) :
    NR P N μ σ w r ((do pure (.value (← convert src dst X)) : Sem Next).run P w) := by
  obtain ⟨h8, hr⟩ := cnd_none.1 hr
  obtain ⟨hle, hr⟩ := cnd_none.1 hr
  have hle := Nat.le_of_ble_eq_true hle
  have h8 := isU8T_some h8
  cases hr
  cases hx with
  | str _ s hs =>
    subst hs
    have hg : Goes P N μ σ w (upd μ σ.n ⟨⟨w.heap.size, 0, none⟩, none⟩) (σ.push (.cells false e (s.data.toList.map (·.toNat)).length (.of (u8s (s.data.toList.map (·.toNat)))))) (Lib.bytesWorld w e s) := by
      refine h.laid (grown_bytesWorld w e s) (Nat.le_refl _) ⟨rfl, by rw [Lib.bytesWorld_size]; exact Nat.lt_succ_self _, fun i hi => ?_⟩
      have hi : i < s.size := by simpa using hi
      have hi' : i < s.data.toList.length := by simpa using hi
      refine ⟨.int .u8 (Int.ofNat (s.data.toList[i]).toNat), .int .u8 (s.data.toList.getD i 0).toNat, ?_, ?_, ?_, rfl⟩
      · rw [Cs.of_get, u8s_get, List.getElem?_eq_getElem hi']; rfl
      · have := Lib.bytesWorld_cell w e s i hi
        simpa [add_zero] using this
      · rw [show s.data.toList.getD i 0 = s.data.toList[i] from by simp [List.getD, List.getElem?_eq_getElem hi']]
        exact .int _ _
    refine hg.val (Lib.run_convert_string_bytes w src dst e s hus hud h8) ?_
    have hlen : (s.data.toList.map (·.toNat)).length = s.size := by simp
    rw [hlen]
    have := VR.slice (P := P) (μ := upd μ σ.n ⟨⟨w.heap.size, 0, none⟩, none⟩) σ.n 0 s.size false true ⟨⟨w.heap.size, 0, none⟩, none⟩ _ (grownCap w s.size 0 e) (upd_n _ _ _) (.inl rfl) (grownCap_ge w s.size 0 e)
      (grownCap_le_maxLen w s.size 0 e (by rw [hlen] at hle; simp only [maxLen]; omega)) (by simp) (by simp)
    simpa [add_nil] using this
end
theorem op_conv {src dst : TypeId} {x : Operand} {r : ARes} (h : SR P N μ σ w) (ha : AR P μ a ca) (hr : dConv src dst x P a σ = some r) :
    NR P N μ σ w r ((do pure (.value (← convert src dst (ca.eval x))) : Sem Next).run P w) := by
  obtain ⟨v, hv, hr1⟩ := obind_some.1 hr
  have hx := ha.eval h hv
  clear hr
  generalize ca.eval x = X at *
  obtain ⟨us, hus, hr2⟩ := obind_some.1 hr1
  clear hr1
  obtain ⟨ud, hud, hr⟩ := obind_some.1 hr2
  clear hr2
  cases ud with
  | int k => cases v with
    | int j n => cases hr; cases hx; exact NR.value h (by simp only [Sem.run_bind, conv_int hus hud, Result.andThen_ok]; rfl) (by rw [wrapA_eq]; exact .int _ _)
    | _ => cases hr
  | float k => cases v with
    | int j n => cases hr; cases hx; exact NR.value h (by simp only [Sem.run_bind, conv_float hus hud, Result.andThen_ok]; rfl) (.float _ _)
    | float j n =>
      obtain ⟨hk, hq⟩ := cnd_none.1 hr
      have hk := of_decide_eq_true hk
      cases hq
      clear hr
      subst hk
      cases hx
      exact NR.value h (by simp only [Sem.run_bind, conv_ff hus hud, Result.andThen_ok]; rfl) (.float _ _)
    | _ => cases hr
  | string => cases v with
    | int j n => cases n with
      | ofNat n =>
        obtain ⟨hle, hq⟩ := cnd_none.1 hr
        cases hq
        cases hx
        exact NR.value h (by simp only [Sem.run_bind, conv_rune hus hud, Result.andThen_ok]; rfl) (.str _ _ (rune_bytes (Nat.le_of_ble_eq_true hle)))
      | negSucc n => exact conv_bytes h hx hud hr
    | str l => cases hr; cases hx with | str _ s hs => exact NR.value h (by simp only [Sem.run_bind, conv_ss hus hud, Result.andThen_ok]; rfl) (.str _ s hs)
    | _ => exact conv_bytes h hx hud hr
  | slice e =>
    replace hr : convSl P src dst e σ v = some r := hr
    unfold convSl at hr
    split at hr
    · exact conv_sbytes (v := .nilptr) h hx hus hud hr
    · exact conv_mark h hx hud hr
    · cases hr
  | unsafePointer =>
    cases us <;> first | (cases hr; done) | skip
    exact conv_ptr h hx (.inl ⟨hus, hud⟩) hr
  | pointer t =>
    cases us <;> first | (cases hr; done) | skip
    exact conv_ptr h hx (.inr ⟨hus, hud⟩) hr
  | _ => cases hr
end
end Go.Proofs.Vai
/- The operations, fifth part: literals of structs, arrays and slices, make, slices of slices. -/
namespace Go.Proofs.Vai
open Go Go.RowKit
variable [Env]

section
variable {P : Program} {N : Nat} {μ : Inj} {σ : St} {w : World} {a : AAct} {ca : Act}

/-! ### Literals -/
theorem setCells_list (off : Nat) (u : Array Value) (Z : Array Value) (h : off + u.size ≤ Z.size) :
    (u.zipIdx.foldl (fun cs (x : Value × Nat) => cs.setIfInBounds (off + x.2) x.1) Z).toList = Z.toList.take off ++ (u.toList ++ Z.toList.drop (off + u.size)) := by
  rw [← Array.foldl_toList, Array.toList_zipIdx]
  obtain ⟨h1, h2⟩ := Great.foldl_set off u.toList 0 Z
  apply List.ext_getElem?
  intro k
  rw [Array.getElem?_toList, h2 k]
  simp only [Nat.add_zero, Array.length_toList]
  by_cases hk : off ≤ k ∧ k < off + u.size ∧ k < Z.size
  · rw [if_pos hk]
    simp [List.getElem?_append, List.length_take, Nat.min_eq_left (show off ≤ Z.size by omega), show ¬ k < off by omega, show k - off < u.size by omega]
  · rw [if_neg hk]
    by_cases hlt : k < off
    · simp [List.getElem?_append, List.length_take, Nat.min_eq_left (show off ≤ Z.size by omega), hlt]
    · have : ¬ k - off < u.size := by omega
      simp [List.getElem?_append, List.length_take, Nat.min_eq_left (show off ≤ Z.size by omega), hlt, this, List.getElem?_drop]
      congr 1
      omega
theorem setCells_size (off : Nat) (u : Array Value) (Z : Array Value) : (u.zipIdx.foldl (fun cs (x : Value × Nat) => cs.setIfInBounds (off + x.2) x.1) Z).size = Z.size := by
  rw [← Array.foldl_toList, Array.toList_zipIdx]
  exact (Great.foldl_set off u.toList 0 Z).1
theorem addPart_some {z : Nat} {v : AV} {r' r : List AV} (h : addPart z r' v = some r) {u : Value} (hv : VR P μ v u) : v.cells.length = z ∧ ones v.cells = true ∧ r = v.cells ++ r' ∧ VRs P μ v.cells u.cells.toList := by
  have one : v.one = true → cnd (Nat.beq z 1) (some (v :: r')) none = some r → v ≠ .bad → v.cells = [v] → v.cells.length = z ∧ ones v.cells = true ∧ r = v.cells ++ r' ∧ VRs P μ v.cells u.cells.toList := by
    intro ho hq hb hc
    obtain ⟨h1, h2⟩ := cnd_none.1 hq
    cases h2
    have h1 := Nat.eq_of_beq_eq_true h1
    refine ⟨by rw [hc, h1]; rfl, by rw [hc, ones_eq]; simp [ho], by rw [hc]; rfl, hv.cells hb⟩
  cases v with
  | agg cs =>
    obtain ⟨h1, h2⟩ := cnd_none.1 h
    cases h2
    refine ⟨Nat.eq_of_beq_eq_true h1, ?_, rfl, hv.cells (by simp)⟩
    cases hv with | agg _ C hC ho => exact ho
  | tuple _ => cases h
  | bad => cases h
  | _ => exact one rfl h (by simp) rfl
theorem planL_le (place : Nat → Option (Nat × Nat)) (n : Nat) : ∀ (is : List Nat) (at_ : Nat) (zs : List Nat), planL place is at_ n = some zs → at_ ≤ n
  | [], at_, zs, h => by
    unfold planL at h
    cases hb : Nat.beq at_ n with
    | true => exact Nat.le_of_eq (Nat.eq_of_beq_eq_true hb)
    | false => rw [hb] at h; cases h
  | i :: is, at_, zs, h => by
    unfold planL at h
    split at h
    · rename_i p hp
      cases hb : Nat.beq p.1 at_ with
      | false => rw [hb] at h; cases h
      | true =>
        rw [hb, cond_true] at h
        split at h
        · rename_i r hr
          have := planL_le place n is _ _ hr
          omega
        · cases h
    · cases h
/-- Parts that stand one behind the other and are the whole. -/
theorem fill_plan (place : Nat → Option (Nat × Nat)) (n : Nat) : ∀ (is : List Nat) (at_ : Nat) (zs : List Nat) (vs : List AV) (us : List Value) (r : List AV) (Z : Array Value), planL place is at_ n = some zs → joinA zs vs = some r → VRs P μ vs us → Z.size = n → us.length = is.length →
    ∃ R, Instr.fill place Z (is.zip us) = some (Z.toList.take at_ ++ R).toArray ∧ VRs P μ r R ∧ ones r = true ∧ at_ + R.length = n
  | [], at_, zs, vs, us, r, Z, h, hj, hv, hz, hl => by
    unfold planL at h
    cases hb : Nat.beq at_ n with
    | false => rw [hb] at h; cases h
    | true =>
      rw [hb] at h
      cases h
      have hb := Nat.eq_of_beq_eq_true hb
      have : us = [] := List.eq_nil_of_length_eq_zero hl
      subst this
      cases hv
      cases hj
      refine ⟨[], ?_, .nil, rfl, by simpa using hb⟩
      simp only [List.zip_nil_left, Instr.fill, List.append_nil]
      rw [hb, ← hz, List.take_of_length_le (by simp)]
  | i :: is, at_, zs, vs, us, r, Z, h, hj, hv, hz, hl => by
    unfold planL at h
    split at h
    · rename_i p hp
      cases hb : Nat.beq p.1 at_ with
      | false => rw [hb] at h; cases h
      | true =>
        have hb' := Nat.eq_of_beq_eq_true hb
        rw [hb, cond_true] at h
        split at h
        · rename_i zs' hzs
          cases h
          cases hv with
          | nil => simp at hl
          | cons v u vs us hv hvs =>
            obtain ⟨r', hr', hj⟩ := obind_some.1 (show obind (joinA zs' vs) (fun r => addPart p.2 r v) = some r from hj)
            obtain ⟨h1, h2, rfl, h4⟩ := addPart_some hj hv
            have hle := planL_le place n is _ _ hzs
            have hu : u.cells.size = p.2 := by rw [← h1]; simpa using h4.length.symm
            have hlen : at_ + u.cells.size ≤ Z.size := by omega
            obtain ⟨R, q1, q2, q3, q4⟩ := fill_plan place n is (at_ + p.2) zs' vs us r' (u.cells.zipIdx.foldl (fun cs (x : Value × Nat) => cs.setIfInBounds (at_ + x.2) x.1) Z) hzs hr' hvs
              (by rw [setCells_size]; exact hz) (by simpa using hl)
            refine ⟨u.cells.toList ++ R, ?_, h4.append q2, ones_append h2 q3, by simp [hu]; omega⟩
            rw [List.zip_cons_cons]
            unfold Instr.fill
            rw [hp]
            simp only [hb']
            rw [if_neg (by simp; omega), q1, setCells_list at_ u.cells Z hlen]
            congr 2
            have e1 : (Z.toList.take at_ ++ u.cells.toList).length = at_ + p.2 := by simp; omega
            rw [← List.append_assoc, ← e1, List.take_left, List.append_assoc]
        · cases h
    · cases h
theorem fill_over (place : Nat → Option (Nat × Nat)) : ∀ (is : List Nat) (vs : List AV) (us : List Value) (z r : List AV) (Z : Array Value), fillA place z (is.zip vs) = some r → VRs P μ vs us → VRs P μ z Z.toList → ones z = true →
    ∃ R, Instr.fill place Z (is.zip us) = some R ∧ VRs P μ r R.toList ∧ ones r = true
  | [], vs, us, z, r, Z, h, hv, hz, ho => by
    simp only [List.zip_nil_left] at h ⊢
    cases h
    exact ⟨Z, rfl, hz, ho⟩
  | i :: is, vs, us, z, r, Z, h, hv, hz, ho => by
    cases hv with
    | nil => simp only [List.zip_nil_right] at h ⊢; cases h; exact ⟨Z, rfl, hz, ho⟩
    | cons v u vs us hv hvs =>
      rw [List.zip_cons_cons] at h ⊢
      unfold fillA at h
      obtain ⟨p, hp, h⟩ := obind_some.1 h
      obtain ⟨hc, h⟩ := cnd_none.1 h
      simp only [Bool.and_eq_true] at hc
      obtain ⟨⟨hc1, hc2⟩, hc3⟩ := hc
      have hc1 := Nat.eq_of_beq_eq_true hc1
      have hc2 : p.1 + p.2 ≤ z.length := Nat.le_of_ble_eq_true hc2
      have h4 := hv.cells (ones_cells_ne hc3)
      have hu : u.cells.size = p.2 := by rw [← hc1]; simpa using h4.length.symm
      have hzl : z.length = Z.size := by simpa using hz.length
      unfold Instr.fill
      rw [hp]
      simp only []
      rw [if_neg (by simp; omega)]
      rw [takeL_eq, dropL_eq] at h
      refine fill_over place is vs us _ r _ h hvs ?_ (ones_append (ones_take ho _) (ones_append hc3 (ones_drop ho _)))
      rw [setCells_list p.1 u.cells Z (by omega), hu]
      exact (hz.take _).append (h4.append (hz.drop _))
theorem parts_zip (ps : Array (Nat × Operand)) (f : Operand → Value) : (ps.map fun (i, x) => (i, f x)).toList = (ps.toList.map (·.1)).zip ((ps.toList.map (·.2)).map f) := by
  rw [Array.toList_map]
  induction ps.toList with
  | nil => rfl
  | cons p ps ih => simp [ih]
theorem op_build {t : TypeId} {ps : Array (Nat × Operand)} {r : ARes} (h : SR P N μ σ w) (ha : AR P μ a ca) (hr : dBuild t ps P a σ = some r) :
    NR P N μ σ w r ((do pure (.value (← Instr.build t (ps.map fun (i, x) => (i, ca.eval x)))) : Sem Next).run P w) := by
  obtain ⟨vs, hvs, hr⟩ := obind_some.1 hr
  obtain ⟨v, hv, rfl⟩ := omap_some.1 hr
  obtain ⟨cs, hcs, rfl⟩ := omap_some.1 hv
  have hvv := ha.evals h hvs
  have key : ∃ R : Array Value, P.built t (ps.map fun (i, x) => (i, ca.eval x)).toList = some R ∧ VRs P μ cs R.toList ∧ ones cs = true := by
    rw [parts_zip]
    generalize hus : (ps.toList.map (·.2)).map ca.eval = us at *
    have hul : us.length = (ps.toList.map (·.1)).length := by rw [← hus]; simp
    generalize ps.toList.map (·.1) = is at *
    cases hp : planT P t is with
    | some zs =>
      rw [hp] at hcs
      have hcs : joinA zs vs = some cs := hcs
      unfold planT at hp
      split at hp
      · rename_i it hit
        split at hp
        · rename_i z hz
          split at hp
          · rename_i fs hu
            split at hp
            · rename_i pl hpl
              obtain ⟨R, q1, q2, q3, _⟩ := fill_plan (P := P) (μ := μ) _ _ is 0 zs vs us cs z.cells hp hcs hvv rfl hul
              refine ⟨R.toArray, ?_, by simpa using q2, q3⟩
              unfold Program.built
              simp only [hit, hu, hz]
              rw [show fs.toList.mapM (fun f => (P.info? f.type).map fun i => (f.offset, i.size)) = some pl from hpl]
              simpa using q1
            · cases hp
          · rename_i m e hu
            split at hp
            · rename_i ie hie
              obtain ⟨R, q1, q2, q3, _⟩ := fill_plan (P := P) (μ := μ) _ _ is 0 zs vs us cs z.cells hp hcs hvv rfl hul
              refine ⟨R.toArray, ?_, by simpa using q2, q3⟩
              unfold Program.built
              simp only [hit, hu, hz, hie]
              simpa using q1
            · cases hp
          · cases hp
        · cases hp
      · cases hp
    | none =>
      rw [hp] at hcs
      have hcs : buildG P t (is.zip vs) = some cs := hcs
      obtain ⟨z, hz, hcs⟩ := obind_some.1 hcs
      obtain ⟨ho, hcs⟩ := cnd_none.1 hcs
      obtain ⟨zv, _, hzv, it, hit, hzz⟩ := zeroT_run (μ := μ) hz w
      have hzc := hzv.cells (ones_cells_ne ho)
      split at hcs
      · rename_i fs hu
        obtain ⟨pl, hpl, hcs⟩ := obind_some.1 hcs
        obtain ⟨R, q1, q2, q3⟩ := fill_over (P := P) (μ := μ) _ is vs us z.cells cs zv.cells hcs hvv hzc ho
        refine ⟨R, ?_, q2, q3⟩
        unfold Program.built
        simp only [hit, hu, hzz]
        rw [show fs.toList.mapM (fun f => (P.info? f.type).map fun i => (f.offset, i.size)) = some pl from hpl]
        exact q1
      · rename_i m e hu
        obtain ⟨n, hn, hcs⟩ := obind_some.1 hcs
        obtain ⟨R, q1, q2, q3⟩ := fill_over (P := P) (μ := μ) _ is vs us z.cells cs zv.cells hcs hvv hzc ho
        refine ⟨R, ?_, q2, q3⟩
        obtain ⟨ie, hie, rfl⟩ := Option.map_eq_some_iff.1 hn
        unfold Program.built
        simp only [hit, hu, hzz, hie]
        exact q1
      · cases hcs
  obtain ⟨R, h1, h2, h3⟩ := key
  exact NR.value h (by simp [run_build w t _ R h1]) (.agg cs R.toList h2 h3)
theorem op_buildSlice {t : TypeId} {n : Nat} {ps : Array (Nat × Operand)} {r : ARes} (h : SR P N μ σ w) (ha : AR P μ a ca) (hr : dBuildSlice t n ps P a σ = some r) :
    NR P N μ σ w r ((do pure (.value (← Instr.buildSlice t n (ps.map fun (i, x) => (i, ca.eval x)))) : Sem Next).run P w) := by
  obtain ⟨vs, hvs, hr⟩ := obind_some.1 hr
  obtain ⟨e, he, hr⟩ := obind_some.1 hr
  obtain ⟨zs, hzs, hr⟩ := obind_some.1 hr
  obtain ⟨cs, hcs, rfl⟩ := omap_some.1 hr
  have hvv := ha.evals h hvs
  have he := elemT_some he
  unfold planS at hzs
  split at hzs
  · rename_i ie hie
    cases hc : (ie.zero.isSome && Nat.ble n 16777216 && Nat.ble (n * ie.size) 16777216) with
    | false => rw [hc] at hzs; cases hzs
    | true =>
      rw [hc, cond_true] at hzs
      simp only [Bool.and_eq_true] at hc
      obtain ⟨⟨hz, hn⟩, hns⟩ := hc
      have hn := Nat.le_of_ble_eq_true hn
      have hns := Nat.le_of_ble_eq_true hns
      obtain ⟨z, hz⟩ := Option.isSome_iff_exists.1 hz
      have hul : ((ps.toList.map (·.2)).map ca.eval).length = (ps.toList.map (·.1)).length := by simp
      have hrun : ∃ R, (Instr.buildSlice t n (ps.map fun (i, x) => (i, ca.eval x))).run P w = .ok (.slice (some ⟨w.heap.size, 0, none⟩) n n) (w.alloc (.cells R.toArray e)) ∧ VRs P μ cs R ∧ ones cs = true ∧ R.length = n * ie.size := by
        by_cases h0 : n * ie.size = 0
        · obtain ⟨R, q1, q2, q3, q4⟩ := fill_plan (P := P) (μ := μ) _ _ _ 0 zs vs _ cs ((Array.range (n * ie.size)).map ((#[] : Array Value)[· % (#[] : Array Value).size]!)) hzs hcs hvv (by simp) hul
          refine ⟨R, ?_, q2, q3, by omega⟩
          rw [← parts_zip] at q1
          have hns' : ¬ n * ie.size > 2 ^ 24 := by omega
          simp only [List.take_zero, List.nil_append] at q1
          simp [Instr.buildSlice, run_underlying he, sizeOf, typeInfo, hie, h0, newRow] at q1 ⊢
          simp [q1]
        · obtain ⟨R, q1, q2, q3, q4⟩ := fill_plan (P := P) (μ := μ) _ _ _ 0 zs vs _ cs ((Array.range (n * ie.size)).map (z.cells[· % z.cells.size]!)) hzs hcs hvv (by simp) hul
          refine ⟨R, ?_, q2, q3, by omega⟩
          rw [← parts_zip] at q1
          have hns' : ¬ n * ie.size > 2 ^ 24 := by omega
          simp only [List.take_zero, List.nil_append] at q1
          simp only [Instr.buildSlice, run_underlying he, sizeOf, typeInfo, zeroValue, hie, hz, hns', h0, newRow, Sem.run_bind, Result.andThen_ok, run_program, Sem.run_pure, if_false, q1]
          rfl
      obtain ⟨R, hrun, q2, q3, q4⟩ := hrun
      have hg := h.row e (us := R.toArray) (by simpa using q2) q3
      refine hg.val hrun ?_
      have := VR.slice (P := P) (μ := upd μ σ.n ⟨⟨w.heap.size, 0, none⟩, some (R.toArray.size, e)⟩) σ.n 0 n true true _ _ n (upd_n _ _ _) (.inl rfl) (Nat.le_refl n) (by simp only [maxLen]; omega) (fun _ => rfl) (fun _ _ sz t h => by cases h; rw [show P.cellsOf e = ie.size from by simp [Program.cellsOf, hie]]; simpa using q4.symm)
      simpa [add_nil] using this
  · cases hzs
theorem op_makeMap {t : TypeId} {x : Option Operand} {r : ARes} (h : SR P N μ σ w) (hr : dMakeMap x P a σ = some r) :
    NR P N μ σ w r ((do pure (.value (← Instr.makeMap t (x.map ca.eval))) : Sem Next).run P w) := by
  cases x with
  | some x => cases hr
  | none =>
    cases hr
    have hg : Goes P N μ σ w (upd μ σ.n ⟨⟨w.heap.size, 0, none⟩, none⟩) (σ.push (.map [])) (w.alloc (.map #[] 0)) :=
      h.laid (World.grownBy_alloc w _ none) (Nat.le_refl _) ⟨w.heap.size, #[], 0, rfl, h.hN, heap_alloc_new w _, EP.nil, Born.nil⟩
    exact hg.val (by simp [Instr.makeMap]) (.map σ.n _ (upd_n _ _ _))
end
end Go.Proofs.Vai
/- The operations, sixth part: make, slices of slices, iterators, type assertions, panics. -/
namespace Go.Proofs.Vai
open Go Go.RowKit
variable [Env]

section
variable {P : Program} {N : Nat} {μ : Inj} {σ : St} {w : World} {a : AAct} {ca : Act}

theorem repl_length (z : List AV) : ∀ c, (repl z c).length = c * z.length
  | 0 => by simp [repl]
  | c + 1 => by simp [repl, repl_length z c, Nat.succ_mul, Nat.add_comm]
theorem repl_get (z : List AV) : ∀ (c i : Nat), i < c * z.length → (repl z c)[i]? = z[i % z.length]?
  | 0, i, h => by simp at h
  | c + 1, i, h => by
    unfold repl
    rw [Nat.succ_mul] at h
    by_cases hi : i < z.length
    · rw [List.getElem?_append_left hi, Nat.mod_eq_of_lt hi]
    · rw [List.getElem?_append_right (by omega), repl_get z c _ (by omega), ← Nat.mod_eq_sub_mod (by omega)]
theorem ones_repl {z : List AV} (h : ones z = true) : ∀ c, ones (repl z c) = true
  | 0 => rfl
  | c + 1 => ones_append h (ones_repl h c)
theorem repl_made {z : List AV} {Z : Array Value} (h : VRs P μ z Z.toList) (c : Nat) : VRs P μ (repl z c) (madeCells Z (c * Z.size)).toList := by
  have hl : z.length = Z.size := by simpa using h.length
  refine VRs.of_get (by rw [repl_length, hl]; simp [size_madeCells]) fun i v u hv hu => ?_
  have hi : i < c * z.length := by
    rw [← repl_length]
    exact (List.getElem?_eq_some_iff.1 hv).1
  have hz : 0 < z.length := by
    rcases Nat.eq_zero_or_pos z.length with h0 | h0
    · rw [h0] at hi; simp at hi
    · exact h0
  rw [repl_get z c i hi] at hv
  obtain ⟨u', hu', hr⟩ := h.get hv
  have hm : i % Z.size < Z.size := Nat.mod_lt _ (by omega)
  have : (madeCells Z (c * Z.size)).toList[i]? = some (Z[i % Z.size]'hm) := by
    simp [madeCells, ← hl, hi, List.getElem?_range]
    rw [getElem!_pos Z _ (by rw [hl]; exact hm)]
  rw [this] at hu
  cases hu
  rw [hl, Array.getElem?_toList, Array.getElem?_eq_getElem hm] at hu'
  cases hu'
  exact hr
theorem natA_some {v : AV} {n : Nat} (h : natA v = some n) : v = .int .i64 (Int.ofNat n) := by
  cases v with
  | int k m => cases k <;> first | (cases h; done) | (cases m <;> first | (cases h; rfl) | (cases h; done))
  | _ => cases h
theorem op_makeSlice {t : TypeId} {x y : Operand} {r : ARes} (h : SR P N μ σ w) (ha : AR P μ a ca) (hr : dMakeSlice t x y P a σ = some r) :
    NR P N μ σ w r ((do pure (.value (← Instr.makeSlice t (ca.eval x) (ca.eval y))) : Sem Next).run P w) := by
  obtain ⟨l, hl, hr1⟩ := obind_some.1 hr
  obtain ⟨c, hc, hr2⟩ := obind_some.1 hr1
  obtain ⟨ln, hln, hr3⟩ := obind_some.1 hr2
  obtain ⟨cn, hcn, hr4⟩ := obind_some.1 hr3
  obtain ⟨e, he, hr5⟩ := obind_some.1 hr4
  obtain ⟨by_, hby, hr6⟩ := obind_some.1 hr5
  obtain ⟨sz, hsz, hr7⟩ := obind_some.1 hr6
  obtain ⟨z, hz, hr8⟩ := obind_some.1 hr7
  obtain ⟨hb, hr9⟩ := cnd_none.1 hr8
  simp only [Bool.and_eq_true] at hb
  obtain ⟨⟨⟨⟨b1, b2⟩, b3⟩, b4⟩, b5⟩ := hb
  cases hr9
  clear hr hr1 hr2 hr3 hr4 hr5 hr6 hr7 hr8
  have hlv := ha.eval h hl
  have hcv := ha.eval h hc
  obtain rfl := natA_some hln
  obtain rfl := natA_some hcn
  generalize ca.eval x = X at *
  generalize ca.eval y = Y at *
  cases hlv
  cases hcv
  have b1 : ln ≤ cn := Nat.le_of_ble_eq_true b1
  have b2 : cn * by_ ≤ 140737488355328 := Nat.le_of_ble_eq_true b2
  have b3 : cn ≤ 1000000 := Nat.le_of_ble_eq_true b3
  have b5 : z.cells.length = sz := Nat.eq_of_beq_eq_true b5
  obtain ⟨zv, _, hzv, i, hi, hzz⟩ := zeroT_run (μ := μ) hz w
  have he := elemT_some he
  obtain ⟨i', hi', rfl⟩ := bytesT_info hby
  rw [hi] at hi'
  cases hi'
  have hsi : i.size = sz := by unfold sizeT at hsz; rw [hi] at hsz; cases hsz; rfl
  have hzc := hzv.cells (ones_cells_ne b4)
  have hzs : zv.cells.size = sz := by rw [← b5]; simpa using hzc.length.symm
  have hrun := run_make (P := P) w t e i zv he hi hzz .i64 .i64 (Int.ofNat ln) (Int.ofNat cn) (Int.natCast_nonneg _) (Int.ofNat_le.2 b1)
    (by rw [Nat.mul_comm] at b2
        have hq : ((i.bytes * cn : Nat) : Int) ≤ ((140737488355328 : Nat) : Int) := Int.ofNat_le.2 b2
        rw [Int.natCast_mul] at hq
        exact Int.le_trans hq (by decide)) (by show ((cn : Nat) : Int) ≤ _; omega)
  simp only [Int.ofNat_eq_natCast, Int.toNat_natCast] at hrun
  rw [hsi, ← hzs] at hrun
  have hg := h.row e (repl_made hzc cn) (ones_repl b4 cn)
  refine hg.val hrun ?_
  have := VR.slice (P := P) (μ := upd μ σ.n ⟨⟨w.heap.size, 0, none⟩, some ((madeCells zv.cells (cn * zv.cells.size)).size, e)⟩) σ.n 0 ln (Nat.beq ln cn) true _ _ cn (upd_n _ _ _) (.inl rfl) b1 (by simp only [maxLen]; omega)
    (fun h => (Nat.eq_of_beq_eq_true h).symm) (fun _ _ sz' t' h' => by cases h'; rw [sizeT_cells hsz, size_madeCells, hzs])
  simpa [add_nil] using this

/-! ### Slices of slices -/
theorem bound_run {n : Nat} {y : Nat} {code : BoundsCode} (h : n ≤ y) : (Instr.sliceBound (.int .i64 (n : Int)) y code).run P w = .ok n w := by
  have : (0 : Int) ≤ (n : Int) ∧ (n : Int) ≤ (y : Int) := by omega
  simp only [Instr.sliceBound, asIntOf, Sem.run_bind, Sem.run_pure, Result.andThen_ok, Int.ofNat_eq_natCast, if_pos this, Int.toNat_natCast]
/-- An operand that may be wanting, as the machine has it. -/
theorem natOr_some {d n : Nat} {v : Option AV} {x : Option Operand} (hn : natOr d v = some n) (hv : (v = none ∧ x = none) ∨ ∃ u y, v = some u ∧ x = some y ∧ VR P μ u (ca.eval y)) :
    (v = none ∧ x.map ca.eval = none ∧ n = d) ∨ (v.isSome = true ∧ x.map ca.eval = some (.int .i64 (Int.ofNat n))) := by
  rcases hv with ⟨rfl, rfl⟩ | ⟨u, y, rfl, rfl, hu⟩
  · cases hn; exact .inl ⟨rfl, rfl, rfl⟩
  · obtain rfl := natA_some (show natA u = some n from hn)
    refine .inr ⟨rfl, ?_⟩
    simp only [Option.map_some, Option.some.injEq]
    generalize ca.eval y = Y at *
    cases hu
    rfl
/-- The bounds; m: the third, or the capacity. -/
theorem bounds_run {isS : Bool} {len cap lo hi : Nat} {low high max : Option Value} (hlo : (low = none ∧ lo = 0) ∨ low = some (.int .i64 (Int.ofNat lo))) (hhi : (high = none ∧ max = none ∧ hi = len) ∨ high = some (.int .i64 (Int.ofNat hi)))
    (hmx : max = none ∨ max = some (.int .i64 (Int.ofNat hi))) (h1 : lo ≤ hi) (h2 : hi ≤ cap) :
    (Instr.sliceBounds isS len cap low high max).run P w = .ok (lo, hi, if max.isSome then hi else cap) w := by
  rcases hmx with rfl | rfl
  · rcases hhi with ⟨rfl, _, rfl⟩ | rfl
    · rcases hlo with ⟨rfl, rfl⟩ | rfl
      · simp [Instr.sliceBounds]
      · simp [Instr.sliceBounds, bound_run h1]
    · rcases hlo with ⟨rfl, rfl⟩ | rfl
      · simp [Instr.sliceBounds, bound_run h2]
      · simp [Instr.sliceBounds, bound_run h2, bound_run h1]
  · rcases hhi with ⟨_, h, _⟩ | rfl
    · cases h
    · rcases hlo with ⟨rfl, rfl⟩ | rfl
      · simp [Instr.sliceBounds, bound_run h2, bound_run (Nat.le_refl hi)]
      · simp [Instr.sliceBounds, bound_run h2, bound_run (Nat.le_refl hi), bound_run h1]
theorem slice_geo {o lo hi c z : Nat} {en : Ent} {ad : Addr} (had : ad = en.a.add o ∨ (c = 0 ∧ o ≠ 0)) (m : Nat) (hm : m ≤ c) (h1 : lo ≤ hi) (h2 : hi ≤ m) :
    (if m = lo then some ad else (some ad).map (·.add (lo * z))) = some (if m = lo then ad else ad.add (lo * z)) ∧
    ((if m = lo then ad else ad.add (lo * z)) = en.a.add (o + lo * z) ∨ (m - lo = 0 ∧ o + lo * z ≠ 0)) := by
  refine ⟨by split <;> rfl, ?_⟩
  by_cases he : m = lo
  · rw [if_pos he]
    by_cases hz : o + lo * z = 0
    · left
      have h0 : o = 0 := by omega
      rcases had with had | ⟨_, h⟩
      · rw [had, h0, show 0 + lo * z = 0 from by omega]
      · exact absurd h0 h
    · exact .inr ⟨by omega, hz⟩
  · rw [if_neg he]
    rcases had with had | ⟨hc, h⟩
    · left; rw [had, add_add]
    · omega
theorem op_slice {t : TypeId} {x : Operand} {lo hi mx : Option Operand} {r : ARes} (h : SR P N μ σ w) (ha : AR P μ a ca) (hr : dSlice t x lo hi mx P a σ = some r) :
    NR P N μ σ w r ((do pure (.value (← Instr.sliceAt t (ca.eval x) (lo.map ca.eval) (hi.map ca.eval) (mx.map ca.eval))) : Sem Next).run P w) := by
  obtain ⟨v, hv, hr1⟩ := obind_some.1 hr
  obtain ⟨vlo, hvlo, hr2⟩ := obind_some.1 hr1
  obtain ⟨vhi, hvhi, hr3⟩ := obind_some.1 hr2
  obtain ⟨vmx, hvmx, hr4⟩ := obind_some.1 hr3
  obtain ⟨l, hl, hr5⟩ := obind_some.1 hr4
  have hx := ha.eval h hv
  have qlo := ha.evalO h hvlo
  have qhi := ha.evalO h hvhi
  have qmx := ha.evalO h hvmx
  have qlo := natOr_some hl qlo
  have qlo' : ((lo.map ca.eval) = none ∧ l = 0) ∨ (lo.map ca.eval) = some (.int .i64 (Int.ofNat l)) := by
    rcases qlo with ⟨_, h1, h2⟩ | ⟨_, h1⟩
    · exact .inl ⟨h1, h2⟩
    · exact .inr h1
  clear hr hr1 hr2 hr3 hr4
  generalize ca.eval x = X at *
  split at hr5
  · rename_i hu
    cases v with
    | str s =>
      obtain ⟨hn, hhn, hr6⟩ := obind_some.1 hr5
      obtain ⟨hmn, hr7⟩ := cnd_none.1 hr6
      obtain ⟨hb, hr8⟩ := cnd_none.1 hr7
      cases hr8
      simp only [Bool.and_eq_true] at hb
      have b1 := Nat.le_of_ble_eq_true hb.1
      have b2 := Nat.le_of_ble_eq_true hb.2
      have hmx : mx.map ca.eval = none := by
        rcases qmx with ⟨_, rfl⟩ | ⟨_, _, rfl, _, _⟩
        · rfl
        · cases hmn
      cases hx with
      | str _ S hS =>
        subst hS
        have hsl : (S.data.toList.map (·.toNat)).length = S.size := by simp
        rw [hsl] at b2 hhn
        have qhi' : ((hi.map ca.eval) = none ∧ (none : Option Value) = none ∧ hn = S.size) ∨ (hi.map ca.eval) = some (.int .i64 (Int.ofNat hn)) := by
          rcases natOr_some hhn qhi with ⟨_, h1, h2⟩ | ⟨_, h1⟩
          · exact .inl ⟨h1, rfl, h2⟩
          · exact .inr h1
        have hbr := bounds_run (P := P) (w := w) (isS := false) (cap := S.size) qlo' qhi' (.inl rfl) b1 b2
        refine NR.value h (u := .string (S.extract l hn)) ?_ (.str _ _ ?_)
        · simp [Instr.sliceAt, Instr.slice, run_underlying hu, hmx, hbr]
        · simp [List.extract_eq_take_drop, List.map_drop, List.map_take, List.drop_take]
    | _ => cases hr5
  · rename_i e hu
    obtain ⟨z, hz, hr6⟩ := obind_some.1 hr5
    cases v with
    | slice b o n lim wh =>
      obtain ⟨hn, hhn, hr7⟩ := obind_some.1 hr6
      obtain ⟨m, hm, hr8⟩ := obind_some.1 hr7
      obtain ⟨hb, hr9⟩ := cnd_none.1 hr8
      cases hr9
      simp only [Bool.and_eq_true] at hb
      have b1 : l ≤ hn := Nat.le_of_ble_eq_true hb.1.1.1
      have b2 : hn ≤ n := Nat.le_of_ble_eq_true hb.1.1.2
      obtain rfl : m = hn := Nat.eq_of_beq_eq_true hb.1.2
      have hb4 := hb.2
      cases hx with
      | slice _ _ _ _ _ en ad c hen had hnc hmc hlim hc =>
        have qmx' : (vmx = none ∧ mx.map ca.eval = none) ∨ (vmx.isSome = true ∧ mx.map ca.eval = some (.int .i64 (Int.ofNat m))) := by
          rcases natOr_some hm qmx with ⟨h0, h1, h2⟩ | h1
          · exact .inl ⟨h0, h1⟩
          · exact .inr h1
        have qhi' : ((hi.map ca.eval) = none ∧ mx.map ca.eval = none ∧ m = n) ∨ (hi.map ca.eval) = some (.int .i64 (Int.ofNat m)) := by
          rcases natOr_some hhn qhi with ⟨h0, h1, h2⟩ | ⟨_, h1⟩
          · refine .inl ⟨h1, ?_, h2⟩
            rcases qmx' with ⟨_, h⟩ | ⟨h3, _⟩
            · exact h
            · subst h0
              cases vmx with
              | none => cases h3
              | some _ => cases hb4
          · exact .inr h1
        have hbr := bounds_run (P := P) (w := w) (isS := true) (len := n) (cap := c) qlo' qhi' (qmx'.elim (fun h => .inl h.2) fun h => .inr h.2) b1 (Nat.le_trans b2 hnc)
        have hM : ∃ M, (if (mx.map ca.eval).isSome = true then m else c) = M ∧ m ≤ M ∧ M ≤ c ∧ (vmx = none → M = c) ∧ (vmx.isSome = true → M = m) := by
          refine ⟨_, rfl, ?_, ?_, ?_, ?_⟩
          · split <;> omega
          · split <;> omega
          · intro h0
            rcases qmx' with ⟨_, h⟩ | ⟨h3, _⟩
            · rw [h]; rfl
            · rw [h0] at h3; cases h3
          · intro h0
            rcases qmx' with ⟨h3, _⟩ | ⟨_, h⟩
            · rw [h3] at h0; cases h0
            · rw [h]; rfl
        obtain ⟨M, hM, m1, m2, m3, m4⟩ := hM
        rw [hM] at hbr
        obtain ⟨g1, g2⟩ := slice_geo (lo := l) (hi := m) (z := z) had M m2 b1 m1
        refine NR.value h (u := .slice (some (if M = l then ad else ad.add (l * z))) (m - l) (M - l)) ?_ (.slice b (o + l * z) (m - l) _ _ en _ (M - l) hen g2 (by omega) (by omega) ?_ ?_)
        · simp only [Instr.sliceAt, Instr.slice, run_underlying hu, hbr, sizeT_run hz, Sem.run_bind, Sem.run_pure, Result.andThen_ok, g1]
        · intro hl
          cases vmx with
          | some _ => rw [m4 rfl]
          | none =>
            simp only [Option.isSome_none, Bool.false_or, Bool.and_eq_true] at hl
            rw [m3 rfl, hlim hl.1, Nat.eq_of_beq_eq_true hl.2]
        · intro hw ho sz t' hsz
          simp only [Bool.and_eq_true, Bool.or_eq_true] at hw
          have hc := hc hw.1.1 (by omega) sz t' hsz
          have hl0 : l = 0 := Nat.eq_of_beq_eq_true hw.1.2
          have hMc : M = c := by
            cases vmx with
            | none => exact m3 rfl
            | some _ =>
              rcases hw.2 with h2 | h2
              · cases h2
              · rw [m4 rfl, hlim h2.1, Nat.eq_of_beq_eq_true h2.2]
          rw [hMc, hl0, Nat.sub_zero]; exact hc
    | nilslice =>
      obtain ⟨hn, hhn, hr7⟩ := obind_some.1 hr6
      obtain ⟨m, hm, hr8⟩ := obind_some.1 hr7
      obtain ⟨hb, hr9⟩ := cnd_none.1 hr8
      cases hr9
      simp only [Bool.and_eq_true] at hb
      have b1 : l = 0 := Nat.eq_of_beq_eq_true hb.1.1.1
      have b2 : hn = 0 := Nat.eq_of_beq_eq_true hb.1.1.2
      have b3 : m = hn := Nat.eq_of_beq_eq_true hb.1.2
      have hb4 := hb.2
      subst b1
      subst b2
      subst b3
      have qmx' : (vmx = none ∧ mx.map ca.eval = none) ∨ (vmx.isSome = true ∧ mx.map ca.eval = some (.int .i64 (Int.ofNat 0))) := by
        rcases natOr_some hm qmx with ⟨h0, h1, h2⟩ | h1
        · exact .inl ⟨h0, h1⟩
        · exact .inr h1
      have qhi' : ((hi.map ca.eval) = none ∧ mx.map ca.eval = none ∧ 0 = 0) ∨ (hi.map ca.eval) = some (.int .i64 (Int.ofNat 0)) := by
        rcases natOr_some hhn qhi with ⟨h0, h1, h2⟩ | ⟨_, h1⟩
        · refine .inl ⟨h1, ?_, rfl⟩
          rcases qmx' with ⟨_, h⟩ | ⟨h3, _⟩
          · exact h
          · subst h0
            cases vmx with
            | none => cases h3
            | some _ => cases hb4
        · exact .inr h1
      have hbr := bounds_run (P := P) (w := w) (isS := true) (len := 0) (cap := 0) qlo' qhi' (qmx'.elim (fun h => .inl h.2) fun h => .inr h.2) (Nat.le_refl 0) (Nat.le_refl 0)
      cases hx
      refine NR.value h (u := .slice none 0 0) ?_ .nilslice
      simp [Instr.sliceAt, Instr.slice, run_underlying hu, hbr, sizeT_run hz]
    | _ => cases hr6
  · rename_i n e hu
    obtain ⟨z, hz, hr6⟩ := obind_some.1 hr5
    cases v with
    | ptr b o =>
      obtain ⟨hn, hhn, hr7⟩ := obind_some.1 hr6
      obtain ⟨hb, hr8⟩ := cnd_none.1 hr7
      cases hr8
      simp only [Bool.and_eq_true] at hb
      have b1 : l ≤ hn := Nat.le_of_ble_eq_true hb.1.1.1
      obtain rfl : hn = n := Nat.eq_of_beq_eq_true hb.1.1.2
      have b4 := Nat.le_of_ble_eq_true hb.2
      have hmx : mx.map ca.eval = none := by
        rcases qmx with ⟨_, rfl⟩ | ⟨_, _, rfl, _, _⟩
        · rfl
        · cases hb.1.2
      have qhi' : ((hi.map ca.eval) = none ∧ (none : Option Value) = none ∧ hn = hn) ∨ (hi.map ca.eval) = some (.int .i64 (Int.ofNat hn)) := by
        rcases natOr_some hhn qhi with ⟨_, h1, h2⟩ | ⟨_, h1⟩
        · exact .inl ⟨h1, rfl, h2⟩
        · exact .inr h1
      have hbr := bounds_run (P := P) (w := w) (isS := false) (len := hn) (cap := hn) qlo' qhi' (.inl rfl) b1 (Nat.le_refl _)
      cases hx with
      | ptr _ _ en hen =>
        obtain ⟨g1, g2⟩ := slice_geo (lo := l) (hi := hn) (z := z) (en := en) (c := hn) (ad := en.a.add o) (.inl rfl) hn (Nat.le_refl _) b1 (Nat.le_refl _)
        refine NR.value h (u := .slice (some (if hn = l then en.a.add o else (en.a.add o).add (l * z))) (hn - l) (hn - l)) ?_ (.slice b (o + l * z) (hn - l) true false en _ (hn - l) hen g2 (Nat.le_refl _) (by simp only [maxLen]; omega) (fun _ => rfl) (by simp))
        simp only [Instr.sliceAt, run_underlying hu, Instr.sureAddr, hmx, hbr, sizeT_run hz, Sem.run_bind, Sem.run_pure, Result.andThen_ok, Option.isSome_none, Bool.false_eq_true, if_false]
    | _ => cases hr6
  · cases hr5
end
end Go.Proofs.Vai
/- The operations, seventh part: maps, iterators over strings, type assertions, panics. -/
namespace Go.Proofs.Vai
open Go Go.RowKit Go.MapKept
variable [Env]

section
variable {P : Program} {N : Nat} {μ : Inj} {σ : St} {w : World} {a : AAct} {ca : Act}

/-! ### Keys -/
theorem sameC_eq {x y : AV} (h : sameC x y = true) : x = y := by
  unfold sameC at h
  cases x with
  | int j a => cases y with
    | int k b =>
      rw [Bool.and_eq_true, eqK_eq, eqI_eq] at h
      rw [of_decide_eq_true h.1, eq_of_beq h.2]
    | _ => cases h
  | str a => cases y with
    | str b =>
      replace h : eqS a b = true := h
      rw [eqS_eq] at h
      rw [eq_of_beq h]
    | _ => cases h
  | bool a => cases y with
    | bool b =>
      replace h : (a == b) = true := h
      rw [eq_of_beq h]
    | _ => cases h
  | _ => cases h
theorem sameCs_eq : ∀ {xs ys : List AV}, sameCs xs ys = true → xs = ys ∧ ∀ x ∈ xs, sameC x x = true
  | [], [], _ => ⟨rfl, by simp⟩
  | [], _ :: _, h => by cases h
  | _ :: _, [], h => by cases h
  | x :: xs, y :: ys, h => by
    have h : cnd (sameC x y) (sameCs xs ys) false = true := h
    cases hc : sameC x y with
    | false => rw [hc] at h; cases h
    | true =>
      rw [hc] at h
      obtain ⟨rfl, h2⟩ := sameCs_eq (show sameCs xs ys = true from h)
      obtain rfl := sameC_eq hc
      exact ⟨rfl, fun z hz => by cases hz with | head => exact hc | tail _ hz => exact h2 z hz⟩
theorem sameA_eq {x y : AV} (h : sameA x y = true) : x = y := by
  unfold sameA at h
  cases x with
  | agg xs => cases y with
    | agg ys => rw [(sameCs_eq h).1]
    | _ => cases h
  | _ => exact sameC_eq h
theorem str_inj {s s' : ByteArray} (h : s.data.toList.map (·.toNat) = s'.data.toList.map (·.toNat)) : s = s' := by
  have : s.data.toList = s'.data.toList := by
    have hinj : ∀ (x y : List UInt8), x.map (·.toNat) = y.map (·.toNat) → x = y := by
      intro x
      induction x with
      | nil => intro y h; cases y with | nil => rfl | cons _ _ => cases h
      | cons a x ih => intro y h; cases y with
        | nil => cases h
        | cons b y => simp at h; rw [UInt8.toNat_inj.1 h.1, ih y h.2]
    exact hinj _ _ h
  cases s; cases s'
  congr 1
  exact Array.ext' this
theorem sameC_unique {x : AV} (h : sameC x x = true) {X Y : Value} (hX : VR P μ x X) (hY : VR P μ x Y) : X = Y ∧ ∀ n, Instr.sameBits n X Y = true := by
  cases x with
  | int j a => cases hX; cases hY; exact ⟨rfl, fun n => by cases n <;> simp [Instr.sameBits]⟩
  | str a => cases hX with
    | str _ s hs => cases hY with
      | str _ s' hs' =>
        obtain rfl := str_inj (hs.trans hs'.symm)
        refine ⟨rfl, fun n => by cases n <;> simp [Instr.sameBits, bytes_beq]⟩
  | bool a => cases hX; cases hY; exact ⟨rfl, fun n => by cases n <;> simp [Instr.sameBits]⟩
  | _ => cases h
theorem sameA_plain {x : AV} (h : sameA x x = true) (hx : isAggA x = false) : sameC x x = true := by
  cases x <;> first | exact h | cases hx
theorem sameA_bits {x : AV} (h : sameA x x = true) {X Y : Value} (hX : VR P μ x X) (hY : VR P μ x Y) (n : Nat) : Instr.sameBits (n + 1) X Y = true := by
  cases hx : isAggA x with
  | false => exact (sameC_unique (sameA_plain h hx) hX hY).2 _
  | true =>
  obtain ⟨xs, rfl⟩ := isAggA_eq hx
  have h2 := (sameCs_eq (show sameCs xs xs = true from h)).2
  cases hX with
  | agg _ C hC _ => cases hY with
    | agg _ D hD _ =>
      have key : ∀ (xs : List AV) (C D : List Value), (∀ x ∈ xs, sameC x x = true) → VRs P μ xs C → VRs P μ xs D → C = D ∧ (C.zip D).all (fun (x, y) => Instr.sameBits n x y) = true := by
        intro xs
        induction xs with
        | nil => intro C D _ hC hD; cases hC; cases hD; exact ⟨rfl, rfl⟩
        | cons x xs ih =>
          intro C D h2 hC hD
          cases hC with
          | cons _ u _ us hv hvs => cases hD with
            | cons _ u' _ us' hv' hvs' =>
              obtain ⟨rfl, hb⟩ := sameC_unique (h2 x (List.mem_cons_self ..)) hv hv'
              obtain ⟨rfl, hr⟩ := ih us us' (fun z hz => h2 z (List.mem_cons_of_mem _ hz)) hvs hvs'
              exact ⟨rfl, by simp only [List.zip_cons_cons, List.all_cons, hb n, Bool.true_and]; exact hr⟩
      obtain ⟨rfl, h3⟩ := key xs C D h2 hC hD
      unfold Instr.sameBits
      rw [Bool.and_eq_true]
      exact ⟨by simp, h3⟩
theorem eqV_some {t : TypeId} {x y : AV} {b : Bool} (h : eqV P t x y = some b) : eqAt P 8 t x y = some b ∧ (b = true → x = y ∧ sameA x x = true) := by
  obtain ⟨c, hc, h⟩ := obind_some.1 h
  cases c with
  | true =>
    obtain ⟨h1, h2⟩ := cnd_none.1 (show cnd (sameA x y) (some true) none = some b from h)
    cases h2
    obtain rfl := sameA_eq h1
    exact ⟨hc, fun _ => ⟨rfl, h1⟩⟩
  | false => cases h; exact ⟨hc, fun h => by cases h⟩
theorem sameNow_eq {t : TypeId} {d : TypeDesc} {x y : AV} {X Y : Value} {b c : Bool} (hX : VR P μ x X) (hY : VR P μ y Y) (h : eqAt P 8 t x y = some b) (hs : Instr.sameNow d X Y = some c) : c = b := by
  have h : eqB P (eqAt P 7) t x y = some b := h
  unfold eqB at h
  cases x with
  | int j p => cases y with
    | int k q =>
      obtain ⟨h1, h2⟩ := cnd_none.1 h
      obtain ⟨_, rfl⟩ := onK_some h2
      cases hX; cases hY
      rw [eqK_eq] at h1
      have h1 := of_decide_eq_true h1
      cases d <;> first | (cases hs; done) | skip
      simp only [Instr.sameNow, if_pos h1] at hs
      cases hs
      rw [eqI_eq]
    | _ => cases h
  | str p => cases y with
    | str q =>
      obtain ⟨_, rfl⟩ := onK_some h
      cases hX with
      | str _ s hs1 => cases hY with
        | str _ s' hs2 =>
          subst hs1; subst hs2
          cases d <;> first | (cases hs; done) | skip
          cases hs
          rw [eqS_eq, ← str_eq]
          rw [Bool.eq_iff_iff]
          rw [bytes_beq, beq_iff_eq]
          refine ⟨fun h => by rw [h], fun h => ?_⟩
          rw [ByteArray.toList_eq, ByteArray.toList_eq] at h
          exact str_inj (by rw [h])
    | _ => cases h
  | bool p => cases y with
    | bool q =>
      obtain ⟨_, rfl⟩ := onK_some h
      cases hX; cases hY
      cases d <;> first | (cases hs; done) | skip
      cases hs; rfl
    | _ => cases h
  | agg _ => cases y with
    | agg _ => cases hX; cases hY; cases d <;> cases hs
    | _ => cases h
  | _ => first | (cases h; done) | (cases hX <;> cases d <;> cases hs)

/-- What a search of a map's entries comes to. -/
def Found (P : Program) (t : TypeId) (K : Value) (ms : List MapEntry) (r : Option (Nat × Value)) : Prop :=
  (∀ (i : Nat) (w : World), (Instr.findAsking t K ms i).run P w = .ok (r.map fun q => (i + q.1, q.2)) w) ∧
  ∀ (d : TypeDesc) (i : Nat) (q : Option (Nat × Value)), Instr.findNow d K ms i = some q → q = r.map fun q => (i + q.1, q.2)
theorem Found.nil (t : TypeId) (K : Value) : Found P t K [] none := ⟨fun i w => rfl, fun d i q h => by cases h; rfl⟩
theorem Found.here {t : TypeId} {K : Value} {k x : AV} {m : MapEntry} {ms : List MapEntry} (hk : VR P μ k K) (hx : VR P μ x m.key) (h : eqAt P 8 t k x = some true) : Found P t K (m :: ms) (some (0, m.val)) := by
  refine ⟨fun i w => ?_, fun d i q hq => ?_⟩
  · have := eqAt_run (P := P) (μ := μ) 8 Op.maxDepth t k x K m.key true (by decide) hk hx h w
    unfold Instr.findAsking
    simp only [Op.equal, Sem.run_bind, this, Result.andThen_ok]
    rfl
  · unfold Instr.findNow at hq
    split at hq
    · cases hq; rfl
    · rename_i hs; have := sameNow_eq hk hx h hs; cases this
    · cases hq
theorem Found.there {t : TypeId} {K : Value} {k x : AV} {m : MapEntry} {ms : List MapEntry} {r : Option (Nat × Value)} (hk : VR P μ k K) (hx : VR P μ x m.key) (h : eqAt P 8 t k x = some false) (hr : Found P t K ms r) :
    Found P t K (m :: ms) (r.map fun q => (q.1 + 1, q.2)) := by
  refine ⟨fun i w => ?_, fun d i q hq => ?_⟩
  · have := eqAt_run (P := P) (μ := μ) 8 Op.maxDepth t k x K m.key false (by decide) hk hx h w
    unfold Instr.findAsking
    simp only [Op.equal, Sem.run_bind, this, Result.andThen_ok, Bool.false_eq_true, if_false, hr.1 (i + 1) w]
    cases r with
    | none => rfl
    | some q => simp only [Option.map_some]; congr 3; omega
  · unfold Instr.findNow at hq
    split at hq
    · rename_i hs; have := sameNow_eq hk hx h hs; cases this
    · rw [hr.2 d (i + 1) q hq]
      cases r with
      | none => rfl
      | some q => simp only [Option.map_some]; congr 2; omega
    · cases hq
theorem Found.run {t : TypeId} {K : Value} {ms : List MapEntry} {r : Option (Nat × Value)} {d : TypeDesc} (h : Found P t K ms r) (hd : P.underlying t = some d) (w : World) : (Instr.findKey t K ms).run P w = .ok r w := by
  have e : (r.map fun q : Nat × Value => (0 + q.1, q.2)) = r := by cases r <;> simp
  unfold Instr.findKey
  simp only [Sem.run_bind, run_underlying hd, Result.andThen_ok]
  split
  · rename_i q hq
    rw [h.2 d 0 q hq, e]; rfl
  · rw [h.1 0 w, e]

/-- An entry whose key is another one. -/
def Miss (P : Program) (μ : Inj) (t : TypeId) (k : AV) (m : MapEntry) : Prop := ∃ x, VR P μ x m.key ∧ eqAt P 8 t k x = some false
theorem found_miss {t : TypeId} {k : AV} {K : Value} (hk : VR P μ k K) : ∀ {ms : List MapEntry}, (∀ m ∈ ms, Miss P μ t k m) → Found P t K ms none
  | [], _ => Found.nil t K
  | m :: ms, h => by
    obtain ⟨x, h1, h2⟩ := h m (List.mem_cons_self ..)
    exact Found.there hk h1 h2 (found_miss hk fun y hy => h y (List.mem_cons_of_mem _ hy))
theorem found_hit {t : TypeId} {k x : AV} {K : Value} (hk : VR P μ k K) {m : MapEntry} (hx : VR P μ x m.key) (he : eqAt P 8 t k x = some true) {l2 : List MapEntry} : ∀ {l1 : List MapEntry}, (∀ m ∈ l1, Miss P μ t k m) → Found P t K (l1 ++ m :: l2) (some (l1.length, m.val))
  | [], _ => Found.here hk hx he
  | y :: l1, h => by
    obtain ⟨z, h1, h2⟩ := h y (List.mem_cons_self ..)
    have := Found.there hk h1 h2 (found_hit hk hx he (l2 := l2) (l1 := l1) fun y hy => h y (List.mem_cons_of_mem _ hy))
    simpa using this
theorem ER.snoc {es es2 : List (AV × AV)} {ms ms2 : List MapEntry} (h : ER P μ es ms) (h2 : ER P μ es2 ms2) : ER P μ (es ++ es2) (ms ++ ms2) := by
  induction h with
  | nil => exact h2
  | cons x y m es ms hx hy _ ih => exact .cons x y m _ _ hx hy ih
/-- What the look over all entries says. -/
theorem hit_spec {t : TypeId} {k v : AV} {es : List (AV × AV)} {l : List MapEntry} (hm : ER P μ es l) : ∀ {c : Bool}, hitA P t k es = some c →
    (c = false ∧ (∀ m ∈ l, Miss P μ t k m) ∧ lookR P t k es = some none ∧ updR P t k v es = some (es ++ [(k, v)]) ∧ delR P t k es = some es) ∨
    (c = true ∧ ∃ es1 x y es2 l1 m l2, l = l1 ++ m :: l2 ∧ ER P μ es1 l1 ∧ VR P μ x m.key ∧ VR P μ y m.val ∧ ER P μ es2 l2 ∧ eqV P t k x = some true ∧ (∀ m ∈ l1, Miss P μ t k m) ∧ (∀ m ∈ l2, Miss P μ t k m) ∧
      lookR P t k es = some (some y) ∧ updR P t k v es = some (es1 ++ (x, v) :: es2) ∧ delR P t k es = some (es1 ++ es2)) := by
  induction hm with
  | nil => intro c h; cases h; exact .inl ⟨rfl, fun m h => absurd h List.not_mem_nil, rfl, rfl, rfl⟩
  | cons x y m es ms hx hy hm ih =>
    intro c h
    obtain ⟨b, hb, h⟩ := obind_some.1 (show obind (eqV P t k x) (fun b => obind (hitA P t k es) fun c => cnd b (cnd c none (some true)) (some c)) = some c from h)
    obtain ⟨c', hc', h⟩ := obind_some.1 h
    have e1 : lookR P t k ((x, y) :: es) = obind (eqV P t k x) fun b => cnd b (some (some y)) (lookR P t k es) := rfl
    have e2 : updR P t k v ((x, y) :: es) = obind (eqV P t k x) fun b => cnd b (some ((x, v) :: es)) (omap (updR P t k v es) ((x, y) :: ·)) := rfl
    have e3 : delR P t k ((x, y) :: es) = obind (eqV P t k x) fun b => cnd b (some es) (omap (delR P t k es) ((x, y) :: ·)) := rfl
    rw [hb] at e1 e2 e3
    cases b with
    | true =>
      cases c' with
      | true => cases h
      | false =>
        cases h
        rcases ih hc' with ⟨_, q1, _⟩ | ⟨q, _⟩
        · exact .inr ⟨rfl, [], x, y, es, [], m, ms, rfl, .nil, hx, hy, hm, hb, fun m h => absurd h List.not_mem_nil, q1, e1, e2, e3⟩
        · cases q
    | false =>
      cases h
      have hmiss : Miss P μ t k m := ⟨x, hx, (eqV_some hb).1⟩
      replace e1 : lookR P t k ((x, y) :: es) = lookR P t k es := e1
      replace e2 : updR P t k v ((x, y) :: es) = omap (updR P t k v es) ((x, y) :: ·) := e2
      replace e3 : delR P t k ((x, y) :: es) = omap (delR P t k es) ((x, y) :: ·) := e3
      rcases ih hc' with ⟨rfl, q1, q2, q3, q4⟩ | ⟨rfl, es1, x', y', es2, l1, m', l2, rfl, r1, r2, r3, r4, r5, r6, r7, r8, r9, r10⟩
      · refine .inl ⟨rfl, fun z hz => ?_, by rw [e1, q2], by rw [e2, q3] <;> rfl, by rw [e3, q4] <;> rfl⟩
        cases hz with
        | head => exact hmiss
        | tail _ hz => exact q1 z hz
      · refine .inr ⟨rfl, (x, y) :: es1, x', y', es2, m :: l1, m', l2, rfl, .cons x y m _ _ hx hy r1, r2, r3, r4, r5, fun z hz => ?_, r7, by rw [e1, r8], by rw [e2, r9] <;> rfl, by rw [e3, r10] <;> rfl⟩
        cases hz with
        | head => exact hmiss
        | tail _ hz => exact r6 z hz
theorem mod_at {α : Type} (f : α → α) (m : α) (b : List α) : ∀ a : List α, (a ++ m :: b).modify a.length f = a ++ f m :: b
  | [] => rfl
  | x :: a => by
    show (x :: (a ++ m :: b)).modify (a.length + 1) f = x :: (a ++ f m :: b)
    rw [List.modify_succ_cons, mod_at f m b a]
theorem perm_split {l1 l2 ms : List MapEntry} {m : MapEntry} (h : (l1 ++ m :: l2).Perm ms) : ∃ a b, ms = a ++ m :: b ∧ (l1 ++ l2).Perm (a ++ b) := by
  have hm : m ∈ ms := h.mem_iff.1 (List.mem_append_right _ (List.mem_cons_self ..))
  obtain ⟨a, b, rfl⟩ := List.append_of_mem hm
  refine ⟨a, b, rfl, ?_⟩
  have h2 : (m :: (l1 ++ l2)).Perm (m :: (a ++ b)) := (List.perm_middle.symm.trans h).trans List.perm_middle
  exact h2.cons_inv
theorem look_spec {t : TypeId} {k : AV} {K : Value} (hk : VR P μ k K) {es : List (AV × AV)} {ms : List MapEntry} (hm : EP P μ es ms) {o : Option AV} (h : lookA P t k es = some o) :
    (o = none ∧ Found P t K ms none) ∨ ∃ v j m, o = some v ∧ Found P t K ms (some (j, m.val)) ∧ ms[j]? = some m ∧ VR P μ v m.val := by
  obtain ⟨l, hp, hm⟩ := hm
  obtain ⟨c, hc, h⟩ := obind_some.1 h
  rcases hit_spec (v := .bad) hm hc with ⟨rfl, q1, q2, _⟩ | ⟨rfl, es1, x, y, es2, l1, m, l2, rfl, r1, r2, r3, r4, r5, r6, r7, r8, _⟩
  · rw [q2] at h
    cases h
    exact .inl ⟨rfl, found_miss hk fun m hm => q1 m (hp.mem_iff.2 hm)⟩
  · rw [r8] at h
    cases h
    obtain ⟨a, b, rfl, hp2⟩ := perm_split hp
    have hall : ∀ z ∈ a, Miss P μ t k z := fun z hz => by
      have := hp2.mem_iff.2 (List.mem_append_left b hz)
      rcases List.mem_append.1 this with h | h
      · exact r6 z h
      · exact r7 z h
    exact .inr ⟨y, a.length, m, rfl, found_hit hk r2 (eqV_some r5).1 hall, by simp, r3⟩
theorem upd_spec {t : TypeId} {k v : AV} {K V : Value} (hk : VR P μ k K) (hV : VR P μ v V) {es : List (AV × AV)} {ms : List MapEntry} (hm : EP P μ es ms) {es' : List (AV × AV)} (h : updA P t k v es = some es') :
    (Found P t K ms none ∧ ∀ b, EP P μ es' (ms ++ [{ key := K, val := V, born := b }])) ∨
    ∃ j m, Found P t K ms (some (j, m.val)) ∧ ms[j]? = some m ∧ Instr.sameBits 10000 m.key K = true ∧ EP P μ es' (ms.modify j fun e => { e with key := K, val := V }) := by
  obtain ⟨l, hp, hm⟩ := hm
  obtain ⟨c, hc, h⟩ := obind_some.1 h
  rcases hit_spec (v := v) hm hc with ⟨rfl, q1, _, q2, _⟩ | ⟨rfl, es1, x, y, es2, l1, m, l2, rfl, r1, r2, r3, r4, r5, r6, r7, _, r8, _⟩
  · rw [q2] at h
    cases h
    exact .inl ⟨found_miss hk fun m hm => q1 m (hp.mem_iff.2 hm), fun b => ⟨l ++ [{ key := K, val := V, born := b }], hp.append_right _, ER.snoc hm (.cons k v _ [] [] hk hV .nil)⟩⟩
  · rw [r8] at h
    cases h
    obtain ⟨a, b, rfl, hp2⟩ := perm_split hp
    have hall : ∀ z ∈ a, Miss P μ t k z := fun z hz => by
      have := hp2.mem_iff.2 (List.mem_append_left b hz)
      rcases List.mem_append.1 this with h | h
      · exact r6 z h
      · exact r7 z h
    obtain ⟨h1, h2⟩ := eqV_some r5
    obtain ⟨rfl, hs⟩ := h2 rfl
    refine .inr ⟨a.length, m, found_hit hk r2 h1 hall, by simp, sameA_bits hs r2 hk 9999, ⟨l1 ++ { m with key := K, val := V } :: l2, ?_, ER.snoc r1 (.cons k v _ _ _ hk hV r4)⟩⟩
    have : (a ++ m :: b).modify a.length (fun e => { e with key := K, val := V }) = a ++ { m with key := K, val := V } :: b := mod_at _ _ _ _
    rw [this]
    exact (List.perm_middle.trans (hp2.cons _)).trans List.perm_middle.symm
theorem del_spec {t : TypeId} {k : AV} {K : Value} (hk : VR P μ k K) {es : List (AV × AV)} {ms : List MapEntry} (hm : EP P μ es ms) {es' : List (AV × AV)} (h : delA P t k es = some es') :
    (Found P t K ms none ∧ EP P μ es' ms) ∨ ∃ j v, Found P t K ms (some (j, v)) ∧ j < ms.length ∧ EP P μ es' (ms.eraseIdx j) := by
  obtain ⟨l, hp, hm⟩ := hm
  obtain ⟨c, hc, h⟩ := obind_some.1 h
  rcases hit_spec (v := .bad) hm hc with ⟨rfl, q1, _, _, q2⟩ | ⟨rfl, es1, x, y, es2, l1, m, l2, rfl, r1, r2, r3, r4, r5, r6, r7, _, _, r8⟩
  · rw [q2] at h
    cases h
    exact .inl ⟨found_miss hk fun m hm => q1 m (hp.mem_iff.2 hm), l, hp, hm⟩
  · rw [r8] at h
    cases h
    obtain ⟨a, b, rfl, hp2⟩ := perm_split hp
    have hall : ∀ z ∈ a, Miss P μ t k z := fun z hz => by
      have := hp2.mem_iff.2 (List.mem_append_left b hz)
      rcases List.mem_append.1 this with h | h
      · exact r6 z h
      · exact r7 z h
    refine .inr ⟨a.length, m.val, found_hit hk r2 (eqV_some r5).1 hall, by simp, ⟨l1 ++ l2, ?_, ER.snoc r1 r4⟩⟩
    have : (a ++ m :: b).eraseIdx a.length = a ++ b := by simp [List.eraseIdx_append_of_length_le]
    rw [this]
    exact hp2
end
end Go.Proofs.Vai
/- The operations, eighth part: maps, iterators over strings, type assertions, panics. -/
namespace Go.Proofs.Vai
open Go Go.RowKit Go.MapKept
variable [Env]

section
variable {P : Program} {N : Nat} {μ : Inj} {σ : St} {w : World} {a : AAct} {ca : Act}

theorem isK_some {t : TypeId} {k : Nat} (h : isK P t k = true) : kindT P t = k := Nat.eq_of_beq_eq_true h
/-- What may be a key is one. -/
theorem chkAt_run (em : Bool) : ∀ (n d : Nat) (t : TypeId) (x : AV) (X : Value), n ≤ d → VR P μ x X → chkAt P n t x = true → ∀ w : World, (Instr.checkKey em d t X).run P w = .ok () w := by
  intro n
  induction n with
  | zero => intro d t x X _ _ h; cases h
  | succ n ih =>
    intro d t x X hd hx h w
    obtain ⟨d, rfl⟩ : ∃ m, d = m + 1 := ⟨d - 1, by omega⟩
    replace h : chkB P (chkAt P n) t x = true := h
    unfold chkB at h
    cases x with
    | int j a =>
      obtain ⟨_, hu, _, _, _, _, _, _, _, h7, _⟩ := kind_cases (isK_some h) (by omega)
      obtain ⟨q, rfl⟩ := h7 rfl
      cases hx
      simp [Instr.checkKey, run_underlying hu]
    | str a =>
      obtain ⟨_, hu, _, _, _, _, _, _, _, _, h8⟩ := kind_cases (isK_some h) (by omega)
      have h8 := h8 rfl
      subst h8
      cases hx
      simp [Instr.checkKey, run_underlying hu]
    | bool a =>
      obtain ⟨_, hu, h0, _⟩ := kind_cases (isK_some h) (by omega)
      have h0 := h0 rfl
      subst h0
      cases hx
      simp [Instr.checkKey, run_underlying hu]
    | agg xs =>
      replace h : @Option.rec (List (TypeId × Nat)) (fun _ => Bool) false (fun fs => chkFs P (chkAt P n) xs fs) (plainFields P t) = true := h
      cases hp : plainFields P t with
      | none => rw [hp] at h; cases h
      | some fs =>
        rw [hp] at h
        replace h : chkFs P (chkAt P n) xs fs = true := h
        obtain ⟨fa, hu, _, rfl, hn⟩ := plainFields_some hp
        cases hx with
        | agg _ C hC ho =>
          have key : ∀ (fl : List Field), chkFs P (chkAt P n) xs (fl.map fun f => (f.type, f.offset)) = true → (∀ f ∈ fl, f.name ≠ "_") →
              (forIn fl PUnit.unit (fun f (_ : PUnit) => if f.name ≠ "_" then (do Instr.checkKey em d f.type (← part f.type C.toArray f.offset); pure (ForInStep.yield PUnit.unit) : Sem (ForInStep PUnit)) else pure (ForInStep.yield PUnit.unit))).run P w = .ok PUnit.unit w := by
            intro fl
            induction fl with
            | nil => intro _ _; rfl
            | cons f fl ihf =>
              intro h hn
              replace h : @Option.rec AV (fun _ => Bool) false (fun x => cnd (chkAt P n f.type x) (chkFs P (chkAt P n) xs (fl.map fun f => (f.type, f.offset))) false) (partA P f.type xs f.offset) = true := h
              cases hpa : partA P f.type xs f.offset with
              | none => rw [hpa] at h; cases h
              | some p =>
                rw [hpa] at h
                replace h : cnd (chkAt P n f.type p) (chkFs P (chkAt P n) xs (fl.map fun f => (f.type, f.offset))) false = true := h
                cases hc : chkAt P n f.type p with
                | false => rw [hc] at h; cases h
                | true =>
                  rw [hc] at h
                  obtain ⟨u, hrun, hv⟩ := partA_run (w := w) hC ho hpa
                  have h1 := ih d f.type p u (by omega) hv hc w
                  have h2 := ihf h fun f hf => hn f (List.mem_cons_of_mem _ hf)
                  rw [List.forIn_cons]
                  simp only [if_pos (hn f (List.mem_cons_self ..)), Sem.run_bind, hrun, h1, Result.andThen_ok, Sem.run_pure]
                  exact h2
          have := key fa.toList h hn
          unfold Instr.checkKey
          simp only [Sem.run_bind, run_underlying hu, Result.andThen_ok]
          rw [← Array.forIn_toList]
          have h3 := this
          refine (congrArg (fun r => Result.andThen r fun _ w' => Sem.run P (pure ()) w') (?_ : _ = Result.ok PUnit.unit w)).trans rfl
          exact h3
    | _ => cases h

theorem chkAt_ty {n : Nat} {t : TypeId} {x : AV} (h : chkAt P (n + 1) t x = true) : ∃ d, P.underlying t = some d := by
  replace h : chkB P (chkAt P n) t x = true := h
  unfold chkB at h
  cases x with
  | int j a => obtain ⟨d, hu, _⟩ := kind_cases (isK_some h) (by omega); exact ⟨d, hu⟩
  | str a => obtain ⟨d, hu, _⟩ := kind_cases (isK_some h) (by omega); exact ⟨d, hu⟩
  | bool a => obtain ⟨d, hu, _⟩ := kind_cases (isK_some h) (by omega); exact ⟨d, hu⟩
  | agg xs =>
    replace h : @Option.rec (List (TypeId × Nat)) (fun _ => Bool) false (fun fs => chkFs P (chkAt P n) xs fs) (plainFields P t) = true := h
    cases hp : plainFields P t with
    | none => rw [hp] at h; cases h
    | some fs => obtain ⟨fa, hu, _⟩ := plainFields_some hp; exact ⟨_, hu⟩
  | _ => cases h
theorem isMap_eq {k : ABlk} {es : List (AV × AV)} (h : isMap k = some es) : k = .map es := by cases k <;> first | (cases h; rfl) | cases h
theorem SR.mapAt (h : SR P N μ σ w) {b : Pos} {e : Ent} {es : List (AV × AV)} (hb : μ b = some e) (hm : mapEs σ (.map b) = some es) :
    σ.h.get b = some (.map es) ∧ ∃ g ents clock, e = ⟨⟨g, 0, none⟩, none⟩ ∧ N ≤ g ∧ w.heap[g]? = some (.map ents clock) ∧ EP P μ es ents.toList ∧ Born ents.toList clock := by
  obtain ⟨k, hk, hi⟩ := obind_some.1 (show obind (σ.h.get b) isMap = some es from hm)
  obtain rfl := isMap_eq hi
  obtain ⟨k', hk', hbr⟩ := h.blk b e hb
  rw [hk] at hk'
  cases hk'
  exact ⟨hk, hbr⟩
/-- What a map's value holds. -/
theorem SR.entries (h : SR P N μ σ w) {m : AV} {M : Value} {es : List (AV × AV)} (hx : VR P μ m M) (hm : mapEs σ m = some es) :
    ∃ ents : Array MapEntry, EP P μ es ents.toList ∧ ((M = .map none ∧ ents = #[]) ∨ ∃ g clock, M = .map (some g) ∧ w.heap[g]? = some (.map ents clock)) := by
  cases m with
  | nilmap => cases hm; cases hx; exact ⟨#[], EP.nil, .inl ⟨rfl, rfl⟩⟩
  | map b =>
    cases hx with
    | map _ e he =>
      obtain ⟨_, g, ents, clock, rfl, _, h1, h2, _⟩ := h.mapAt he hm
      exact ⟨ents, h2, .inr ⟨g, clock, rfl, h1⟩⟩
  | _ => cases hm
theorem okV_rel {ok b : Bool} {v : AV} {V : Value} (h : VR P μ v V) : VR P μ (okV ok v b) (if ok = true then .tuple #[V, .bool b] else V) := by
  cases ok with
  | true => exact .tuple [v, .bool b] [V, .bool b] (.cons _ _ _ _ h (.cons _ _ _ _ (.bool b) .nil))
  | false => exact h
theorem op_lookup {t : TypeId} {x k : Operand} {ok : Bool} {r : ARes} (h : SR P N μ σ w) (ha : AR P μ a ca) (hr : dLookup t x k ok P a σ = some r) :
    NR P N μ σ w r ((do pure (.value (← Instr.lookup t (ca.eval x) (ca.eval k) ok)) : Sem Next).run P w) := by
  obtain ⟨m, hm, hr1⟩ := obind_some.1 hr
  obtain ⟨kv, hkv, hr2⟩ := obind_some.1 hr1
  obtain ⟨es, hes, hr3⟩ := obind_some.1 hr2
  obtain ⟨q, hq, hr4⟩ := obind_some.1 hr3
  obtain ⟨hc, hr5⟩ := cnd_none.1 hr4
  obtain ⟨o, ho, hr6⟩ := obind_some.1 hr5
  have hx := ha.eval h hm
  have hk := ha.eval h hkv
  clear hr hr1 hr2 hr3 hr4 hr5
  generalize ca.eval x = X at *
  generalize ca.eval k = K at *
  have hu := mapT_some hq
  obtain ⟨ents, he, hM⟩ := h.entries hx hes
  obtain ⟨d, hd⟩ := chkAt_ty (n := 7) hc
  have hchk := chkAt_run (em := ents.isEmpty) 8 10000 q.1 kv K (by decide) hk hc w
  rcases look_spec (t := q.1) hk he ho with ⟨rfl, hf⟩ | ⟨v, j, m', rfl, hf, hj, hv⟩
  · obtain ⟨z, hz, rfl⟩ := omap_some.1 (show omap (zeroT P q.2) (fun v => ARes.val (okV ok v false) σ) = some r from hr6)
    obtain ⟨zv, hrun, hzv, _⟩ := zeroT_run (μ := μ) hz w
    refine NR.value h ?_ (okV_rel hzv)
    have hfk := hf.run hd w
    unfold Instr.lookup
    rcases hM with ⟨rfl, rfl⟩ | ⟨g, clock, rfl, hg⟩
    · simp only [Sem.run_bind, Sem.run_pure, Result.andThen_ok, run_underlying hu, hchk, hfk, hrun]
    · simp only [Sem.run_bind, Sem.run_pure, Result.andThen_ok, run_underlying hu, MapKept.run_getObj_map hg, hchk, hfk, hrun]
  · cases hr6
    refine NR.value h ?_ (okV_rel hv)
    have hfk := hf.run hd w
    unfold Instr.lookup
    rcases hM with ⟨rfl, rfl⟩ | ⟨g, clock, rfl, hg⟩
    · simp only [Sem.run_bind, Sem.run_pure, Result.andThen_ok, run_underlying hu, hchk, hfk]
    · simp only [Sem.run_bind, Sem.run_pure, Result.andThen_ok, run_underlying hu, MapKept.run_getObj_map hg, hchk, hfk]

/-- A map's block is turned. -/
theorem SR.setMap (h : SR P N μ σ w) {b : Pos} {es es' : List (AV × AV)} {g clock : Nat} {ents : Array MapEntry} (hb : μ b = some ⟨⟨g, 0, none⟩, none⟩) (hk : σ.h.get b = some (.map es)) (hN : N ≤ g) (hg : w.heap[g]? = some (.map ents clock))
    (ents' : Array MapEntry) (clock' : Nat) (he : EP P μ es' ents'.toList) (hbn : Born ents'.toList clock') : Goes P N μ σ w μ (σ.put b (.map es')) { w with heap := w.heap.setIfInBounds g (.map ents' clock') } := by
  have hlt : g < w.heap.size := (Array.getElem?_eq_some_iff.1 hg).1
  refine h.turned hb hk rfl hN ⟨rfl, rfl, rfl, by simp, fun k _ hne => ?_⟩ ⟨g, ents', clock', rfl, hN, by simp [hlt], he, hbn⟩
  have hne' : k ≠ g := fun e => hne (by rw [e])
  exact Array.getElem?_setIfInBounds_ne (Ne.symm hne')
theorem op_mapUpdate {t : TypeId} {m k x : Operand} {r : ARes} (h : SR P N μ σ w) (ha : AR P μ a ca) (hr : dMapUpdate t m k x P a σ = some r) :
    NR P N μ σ w r ((do Instr.mapUpdate t (ca.eval m) (ca.eval k) (ca.eval x); pure .skip : Sem Next).run P w) := by
  obtain ⟨kv, hkv, hr1⟩ := obind_some.1 hr
  obtain ⟨xv, hxv, hr2⟩ := obind_some.1 hr1
  obtain ⟨mv, hmv, hr3⟩ := obind_some.1 hr2
  have hk := ha.eval h hkv
  have hx := ha.eval h hxv
  have hm := ha.eval h hmv
  clear hr hr1 hr2
  generalize ca.eval m = M at *
  generalize ca.eval k = K at *
  generalize ca.eval x = X at *
  cases mv with
  | map b =>
    obtain ⟨q, hq, hr4⟩ := obind_some.1 hr3
    obtain ⟨hc, hr5⟩ := cnd_none.1 hr4
    obtain ⟨es, hes, hr6⟩ := obind_some.1 hr5
    obtain ⟨es', hes', rfl⟩ := omap_some.1 hr6
    clear hr3 hr4 hr5 hr6
    cases hm with
    | map _ e hb =>
      obtain ⟨hkb, g, ents, clock, rfl, hN, hg, he, hbn⟩ := h.mapAt hb hes
      have hu := mapT_some hq
      obtain ⟨d, hd⟩ := chkAt_ty (n := 7) hc
      have hchk := chkAt_run (em := false) 8 10000 q.1 kv K (by decide) hk hc w
      rcases upd_spec (t := q.1) hk hx he hes' with ⟨hf, hE⟩ | ⟨j, m', hf, hj, hbits, hE⟩
      · have hfk := hf.run hd w
        refine ⟨μ, _, ?_, h.setMap hb hkb hN hg (ents.push { key := K, val := X, born := clock }) (clock + 1) (by simpa using hE clock) (by simpa using hbn.push { key := K, val := X, born := clock } rfl)⟩
        unfold Instr.mapUpdate
        simp only [Sem.run_bind, Sem.run_pure, Result.andThen_ok, run_underlying hu, MapKept.run_getObj_map hg, hchk, hfk, MapKept.run_setObj_map _ hg]
      · have hfk := hf.run hd w
        have hje : ents[j]? = some m' := by simpa using hj
        refine ⟨μ, _, ?_, h.setMap hb hkb hN hg (ents.modify j fun e => { e with key := K, val := X }) clock (by simpa using hE) (by simpa using hbn.modify j (fun e => { e with key := K, val := X }) (fun _ => rfl))⟩
        unfold Instr.mapUpdate Instr.keyThatStays
        simp only [Sem.run_bind, Sem.run_pure, Result.andThen_ok, run_underlying hu, MapKept.run_getObj_map hg, hchk, hfk, MapKept.run_setObj_map _ hg, hje, Option.map_some, Option.getD_some, hbits, if_true]
  | _ => cases hr3

/-! ### Iterators over strings -/
theorem op_range {t : TypeId} {x : Operand} {r : ARes} (h : SR P N μ σ w) (ha : AR P μ a ca) (hr : dRange t x P a σ = some r) :
    NR P N μ σ w r ((do pure (.value (← Instr.range t (ca.eval x))) : Sem Next).run P w) := by
  obtain ⟨v, hv, hr1⟩ := obind_some.1 hr
  have hx := ha.eval h hv
  clear hr
  generalize ca.eval x = X at *
  cases v with
  | str l =>
    obtain ⟨ht, hr2⟩ := cnd_none.1 hr1
    cases hr2
    have hu := isStrT_some ht
    cases hx with
    | str _ s hs =>
      have hg : Goes P N μ σ w (upd μ σ.n ⟨⟨w.heap.size, 0, none⟩, none⟩) (σ.push (.siter l 0)) (w.alloc (.stringIter s 0)) :=
        h.laid (World.grownBy_alloc w _ none) (Nat.le_refl _) ⟨w.heap.size, s, rfl, h.hN, heap_alloc_new w _, hs⟩
      refine hg.val (u := .pointer (some ⟨w.heap.size, 0, none⟩)) (by simp [Instr.range, run_underlying hu]) ?_
      have := VR.ptr (P := P) (μ := upd μ σ.n ⟨⟨w.heap.size, 0, none⟩, none⟩) σ.n 0 _ (upd_n _ _ _)
      simpa [add_nil] using this
  | nilmap =>
    obtain ⟨q, hq, hr2⟩ := obind_some.1 hr1
    cases hr2
    have hu := mapT_some hq
    cases hx
    have hg : Goes P N μ σ w (upd μ σ.n ⟨⟨w.heap.size, 0, none⟩, none⟩) (σ.push (.mit none)) (w.alloc (.mapIter none 0 #[] 0)) :=
      h.laid (World.grownBy_alloc w _ none) (Nat.le_refl _) ⟨w.heap.size, rfl, h.hN, by rw [heap_alloc_new w _]; exact ⟨_, _, _, rfl⟩⟩
    refine hg.val (u := .pointer (some ⟨w.heap.size, 0, none⟩)) (by simp [Instr.range, run_underlying hu]) ?_
    have := VR.ptr (P := P) (μ := upd μ σ.n ⟨⟨w.heap.size, 0, none⟩, none⟩) σ.n 0 _ (upd_n _ _ _)
    simpa [add_nil] using this
  | map b =>
    obtain ⟨q, hq, hr2⟩ := obind_some.1 hr1
    obtain ⟨es, hes, hr3⟩ := obind_some.1 hr2
    cases hr3
    have hu := mapT_some hq
    cases hx with
    | map _ e he =>
      obtain ⟨hk, g, ents, clock, rfl, hN, hgh, _⟩ := h.mapAt he hes
      have hsub : Sub μ (upd μ σ.n ⟨⟨w.heap.size, 0, none⟩, none⟩) := sub_upd (.inl h.fresh)
      have hg : Goes P N μ σ w (upd μ σ.n ⟨⟨w.heap.size, 0, none⟩, none⟩) (σ.push (.mit (some b))) (w.alloc (.mapIter (some g) clock #[] clock)) :=
        h.laid (World.grownBy_alloc w _ none) (Nat.le_refl _) ⟨w.heap.size, rfl, h.hN, by rw [heap_alloc_new w _]; exact ⟨_, _, _, hsub _ _ he, rfl⟩⟩
      refine hg.val (u := .pointer (some ⟨w.heap.size, 0, none⟩)) (by simp [Instr.range, run_underlying hu, MapKept.run_getObj_map hgh]) ?_
      have := VR.ptr (P := P) (μ := upd μ σ.n ⟨⟨w.heap.size, 0, none⟩, none⟩) σ.n 0 _ (upd_n _ _ _)
      simpa [add_nil] using this
  | _ => cases hr1
theorem op_next {x : Operand} {str : Bool} {ty : TypeId} {r : ARes} (h : SR P N μ σ w) (ha : AR P μ a ca) (hr : dNext x str P a σ = some r) :
    NR P N μ σ w r ((do pure (.value (← Instr.next (ca.eval x) str ty)) : Sem Next).run P w) := by
  obtain ⟨v, hv, hr2⟩ := obind_some.1 hr
  have hx := ha.eval h hv
  clear hr
  generalize ca.eval x = X at *
  cases v with
  | ptr b o => cases o with
    | succ o => cases hr2
    | zero =>
      obtain ⟨k, hk, hr3⟩ := obind_some.1 hr2
      cases hx with
      | ptr _ _ e he =>
        obtain ⟨k', hk', hbr⟩ := h.blk b e he
        rw [hk] at hk'
        cases hk'
        cases str with
        | false =>
          replace hr3 : nextMap σ k = some r := hr3
          cases k with
          | mit m =>
            obtain ⟨g, rfl, hN, hm⟩ := hbr
            rw [add_nil]
            cases m with
            | none =>
              cases hr3
              obtain ⟨since, seen, last, hg⟩ := hm
              refine NR.value h (u := .tuple #[.bool false]) ?_ (.tuple _ [_] (.cons _ _ _ _ (.bool false) .nil))
              have hgo : (getObj g).run P w = .ok (.mapIter none since seen last) w := by simp [getObj, Sem.run, hg]
              simp [Instr.next, hgo]
            | some b' =>
              obtain ⟨es, hes, hr4⟩ := obind_some.1 (show obind (mapEs σ (.map b')) (nextNone σ) = some r from hr3)
              obtain ⟨em, since, last, hem, hg⟩ := hm
              cases es with
              | cons _ _ => cases hr4
              | nil =>
                cases hr4
                obtain ⟨_, gm, ents, clock, rfl, _, hgm, ⟨l, hl1, hl2⟩, _⟩ := h.mapAt hem hes
                cases hl2
                have he0 : ents = #[] := by
                  have := hl1.length_eq
                  apply Array.ext'
                  have h0 : ents.toList.length = 0 := by simpa using this.symm
                  rw [List.eq_nil_of_length_eq_zero h0]
                subst he0
                refine NR.value h (u := .tuple #[.bool false]) ?_ (.tuple _ [_] (.cons _ _ _ _ (.bool false) .nil))
                have hgo : (getObj g).run P w = .ok (.mapIter (some gm) since #[] last) w := by simp [getObj, Sem.run, hg]
                simp [Instr.next, hgo, MapKept.run_getObj_map hgm, choose, Sem.run, Question.forced]
          | _ => cases hr3
        | true =>
        replace hr3 : nextIn σ b k = some r := hr3
        cases k with
        | siter l p =>
          obtain ⟨g, bs, rfl, hN, hg, hl⟩ := hbr
          have hgo : (getObj g).run P w = .ok (.stringIter bs p) w := by simp [getObj, Sem.run, hg]
          have hlen : l.length = bs.size := by rw [← hl]; simp
          rw [add_nil]
          unfold nextIn at hr3
          simp only at hr3
          split at hr3
          · rename_i hd
            cases hr3
            have hp : ¬ p < bs.size := by
              have := congrArg List.length hd
              simp at this
              omega
            refine NR.value h (u := .tuple #[.bool false]) ?_ (.tuple _ [_] (.cons _ _ _ _ (.bool false) .nil))
            simp [Instr.next, hgo, hp]
          · rename_i c rest hd
            obtain ⟨hc, hr4⟩ := cnd_none.1 hr3
            cases hr4
            have hc : c ≤ 127 := Nat.le_of_ble_eq_true hc
            have hp : p < bs.size := by
              have := congrArg List.length hd
              simp at this
              omega
            have hcb : (bs[p]'hp).toNat = c := by
              have h1 : l[p]? = some c := by
                have := congrArg (·[0]?) hd
                simpa using this
              rw [← hl] at h1
              simp at h1
              obtain ⟨b', hb', rfl⟩ := h1
              have h2 : bs.data[p]? = some (bs[p]'hp) := by
                rw [Array.getElem?_eq_getElem (by simpa using hp)]; rfl
              rw [h2] at hb'
              cases hb'
              rfl
            have hdec := decode_ascii bs p hp (by omega)
            have hlt : g < w.heap.size := (Array.getElem?_eq_some_iff.1 hg).1
            have hset : (setObj g (.stringIter bs (p + 1))).run P w = .ok () { w with heap := w.heap.setIfInBounds g (.stringIter bs (p + 1)) } := by simp [setObj, Sem.run, hg]
            have hG : Goes P N μ σ w μ (σ.put b (.siter l (p + 1))) { w with heap := w.heap.setIfInBounds g (.stringIter bs (p + 1)) } := by
              refine h.turned he hk rfl hN ⟨rfl, rfl, rfl, by simp, fun k _ hne => ?_⟩ ⟨g, bs, rfl, hN, by simp [hlt], hl⟩
              have hne' : k ≠ g := fun e => hne (by rw [e])
              exact Array.getElem?_setIfInBounds_ne (Ne.symm hne')
            refine hG.val (u := .tuple #[.bool true, .int .i64 (Int.ofNat p), .int .i32 (Int.ofNat c)]) ?_ (.tuple _ [_, _, _] (.cons _ _ _ _ (.bool true) (.cons _ _ _ _ (.int _ _) (.cons _ _ _ _ (.int _ _) .nil))))
            simp only [Instr.next, Sem.run_bind, Sem.run_pure, Result.andThen_ok, hgo, if_pos hp, hdec, hset, hcb]
            rfl
        | _ => cases hr3
  | _ => cases hr2
end
end Go.Proofs.Vai
/- The operations, ninth part: append, copy, and the other builtins. -/
namespace Go.Proofs.Vai
open Go Go.RowKit Go.MapKept
variable [Env]

section
variable {P : Program} {N : Nat} {μ : Inj} {σ : St} {w : World} {a : AAct} {ca : Act}

/-- A row of the run's own, with room behind. -/
theorem SR.rowMore (h : SR P N μ σ w) {w' : World} {us' : Array Value} {t : TypeId} (hw : w'.heap = w.heap.push (.cells us' t (0, 0))) (hos : w'.os = w.os) (htp : w'.tape = w.tape) (hout : w'.output = w.output) {vs : List AV} {us : List Value} (hv : VRs P μ vs us) (ho : ones vs = true)
    (hu : us'.toList.take us.length = us) : Goes P N μ σ w (upd μ σ.n ⟨⟨w.heap.size, 0, none⟩, some (us'.size, t)⟩) (σ.row t vs) w' := by
  have hl : vs.length = us.length := hv.length
  have hle : us.length ≤ us'.size := by
    have := congrArg List.length hu
    simp at this
    omega
  refine h.laid ⟨hos, htp, hout, by rw [hw]; simp, fun k hk _ => by rw [hw, Array.getElem?_push, if_neg (by omega)]⟩ (Nat.le_refl _) ⟨w.heap.size, us'.size, us', rfl, h.hN, by rw [hw]; simp, rfl, by omega, fun i hi => ?_⟩
  obtain ⟨v, hvi⟩ : ∃ v, vs[i]? = some v := ⟨vs[i], List.getElem?_eq_getElem hi⟩
  obtain ⟨u, hu', hr⟩ := hv.get hvi
  refine ⟨v, u, by rw [Cs.of_get]; exact hvi, ?_, hr.mono (sub_upd (.inl h.fresh)), ones_get ho hvi⟩
  rw [← hu, List.getElem?_take, if_pos (by omega)] at hu'
  simpa using hu'

/-- What is appended lies there. -/
theorem SR.news (h : SR P N μ σ w) {z k : Nat} {y : AV} {Y : Value} {new : List AV} (hy : VR P μ y Y) (hn : newsA z σ y = some (k, new)) :
    ∃ us : List Value, VRs P μ new us ∧ ones new = true ∧ us.length = k * z ∧
      ((Y = .slice none 0 0 ∧ k = 0) ∨ ∃ ad c, Y = .slice (some ad) k c ∧ ∀ j u, us[j]? = some u → w.cell? (ad.add j) = some u) := by
  cases y with
  | nilslice => cases hn; cases hy; exact ⟨[], .nil, rfl, by simp, .inl ⟨rfl, rfl⟩⟩
  | slice b o n lim wh =>
    obtain ⟨cs, hcs, hq⟩ := omap_some.1 (show omap (σ.cells b o (Nat.mul n z)) (fun cs => (n, cs)) = some (k, new) from hn)
    cases hq
    cases hy with
    | slice _ _ _ _ _ en ad c he had hnc hm hl hc =>
      obtain ⟨h1, h2, us, h3, h4, h5⟩ := h.cellsAt he hcs
      refine ⟨us, h3, h2, h4, .inr ⟨ad, c, rfl, fun j u hj => ?_⟩⟩
      have hjl : j < us.length := (List.getElem?_eq_some_iff.1 hj).1
      rw [h4] at hjl
      have hn0 : 0 < k := by
        rcases Nat.eq_zero_or_pos k with h0 | h0
        · subst h0; simp at hjl
        · exact h0
      obtain rfl : ad = en.a.add o := had.elim id (fun h => by omega)
      rw [add_add, h5 j hjl]
      exact hj
  | _ => cases hn

theorem append_none {t ty e : TypeId} {z : Nat} {base : Option Addr} {n c : Nat} {Y : Value} (ht : P.underlying t = some (.slice e)) (hz : sizeT P e = some z) (hnc : n ≤ c) (hY : Y = .slice none 0 0 ∨ ∃ ad c', Y = .slice (some ad) 0 c') :
    (Builtin.append_ #[t, t] ty #[.slice base n c, Y]).run P w = .ok (.slice base n c) w := by
  rcases hY with rfl | ⟨ad, c', rfl⟩
  · cases base with
    | none => simp [Builtin.append_, run_underlying ht, sizeT_run hz, Builtin.lenOf, hnc, Builtin.firstCells]
    | some b => simp [Builtin.append_, run_underlying ht, sizeT_run hz, Builtin.lenOf, hnc, Builtin.firstCells, storeCells]
  · cases base with
    | none => simp [Builtin.append_, run_underlying ht, sizeT_run hz, Builtin.lenOf, hnc, Builtin.firstCells, loadCells, loadCellsFrom]
    | some b => simp [Builtin.append_, run_underlying ht, sizeT_run hz, Builtin.lenOf, hnc, Builtin.firstCells, loadCells, loadCellsFrom, storeCells]

/-- The old block is given up, one is laid where it lay, or behind all. -/
theorem SR.append (h : SR P N μ σ w) {w' : World} {b : Pos} {g sz : Nat} {t e : TypeId} {len : Nat} {c c' : Cs} {len' : Nat} (hb : μ b = some ⟨⟨g, 0, none⟩, some (sz, t)⟩) (hk : σ.h.get b = some (.cells true t len c)) (hN : N ≤ g) {g' : Nat} {cur : Array Value}
    (hg : w.grownBy w' (some g)) (hg' : g' = g ∨ g' = w.heap.size) (hcur : w'.heap[g']? = some (.cells cur e (0, 0))) (hlen : len' ≤ cur.size) (hcr : CR P μ c' len' (fun i => cur[i]?)) :
    Goes P N μ σ w (upd μ σ.n ⟨⟨g', 0, none⟩, some (cur.size, e)⟩) ((σ.put b .dead).push (.cells true e len' c')) w' := by
  have hbr : BR P N μ w (.cells true t len c) ⟨⟨g, 0, none⟩, some (sz, t)⟩ := by
    obtain ⟨k, h1, h2⟩ := h.blk b _ hb
    rw [hk] at h1; cases h1; exact h2
  have h1 : Goes P N μ σ w μ (σ.put b .dead) w := h.turned (k := .dead) hb hk rfl hN (grown_refl w _) ⟨hN, hbr.lt⟩
  have hsn : (σ.put b .dead).n = σ.n := put_n σ b .dead
  have hfr : μ σ.n = none := h.fresh
  have hne : ∀ x ex kx, x ≠ σ.n → μ x = some ex → (σ.put b .dead).h.get x = some kx → isDead kx = false → ex.a.block ≠ g := by
    intro x ex kx _ hx hkx hd he
    rw [put_get] at hkx
    by_cases hxb : b = x
    · subst hxb; rw [if_pos rfl] at hkx; cases hkx; cases hd
    · rw [if_neg hxb] at hkx
      exact hxb (h.inj b x _ ex _ kx hb hx hk hkx rfl hd hN he.symm)
  have h2 := h1.sr.turn (w' := w') (b := σ.n) (e := ⟨⟨g', 0, none⟩, some (cur.size, e)⟩) (k := .cells true e len' c') (σ' := (σ.put b .dead).push (.cells true e len' c')) (some g) hg
    (.inr ⟨hfr, by rw [hsn]; exact Nat.le_refl _, by
      rcases hg' with rfl | rfl
      · exact .inr ⟨b, _, hb, rfl⟩
      · exact .inl (Nat.le_refl _)⟩)
    (fun x => by rw [push_get, hsn]) (by rw [push_n, hsn, Pos.toNat_succ]; omega) (by rw [push_n, hsn, Pos.toNat_succ]; omega)
    ⟨g', cur.size, cur, rfl, hg'.elim (fun q => q ▸ hN) (fun q => q ▸ h.hN), hcur, rfl, hlen, hcr.mono (sub_upd (.inl hfr))⟩
    (fun g₁ hg₁ => by cases hg₁; exact ⟨hN, ⟨b, _, hb, rfl⟩, fun x ex kx hx hm hkx hd => hne x ex kx hx hm hkx hd⟩)
    (fun _ _ x ex kx hx hm hkx hd => by
      rcases hg' with rfl | rfl
      · exact hne x ex kx hx hm hkx hd
      · obtain ⟨k', _, q2⟩ := h1.sr.blk x ex hm
        have := q2.lt
        exact Nat.ne_of_lt this)
  exact h1.trans h2

theorem op_append {t : TypeId} {ty : TypeId} {x y : AV} {X Y : Value} {r : ARes} (h : SR P N μ σ w) (hx : VR P μ x X) (hy : VR P μ y Y) (hr : appendA P t x y σ = some r) :
    NR P N μ σ w r ((do pure (.value (← Builtin.append_ #[t, t] ty #[X, Y])) : Sem Next).run P w) := by
  obtain ⟨e, he, hr1⟩ := obind_some.1 hr
  obtain ⟨z, hz, hr2⟩ := obind_some.1 hr1
  obtain ⟨by_, hby, hr3⟩ := obind_some.1 hr2
  obtain ⟨zv, hzv, hr4⟩ := obind_some.1 hr3
  obtain ⟨⟨k, new⟩, hnew, hr5⟩ := obind_some.1 hr4
  obtain ⟨hb, hr6⟩ := cnd_none.1 hr5
  clear hr hr1 hr2 hr3 hr4 hr5
  simp only [Bool.and_eq_true] at hb
  obtain ⟨⟨⟨⟨b1, b2⟩, b3⟩, b4⟩, b5⟩ := hb
  have b1 : 1 ≤ z := Nat.le_of_ble_eq_true b1
  have b2 : zv.cells.length = z := Nat.eq_of_beq_eq_true b2
  have b4 : 1 ≤ by_ := Nat.le_of_ble_eq_true b4
  have b5 : (lenOf x + k) * by_ ≤ 35184372088832 := Nat.le_of_ble_eq_true b5
  have b6 : lenOf x + k ≤ 35184372088832 := Nat.le_trans (Nat.le_mul_of_pos_right _ b4) b5
  have hu := elemT_some he
  obtain ⟨Z, _, hZ, i, hi, hzz⟩ := zeroT_run (μ := μ) hzv w
  obtain ⟨i', hi', rfl⟩ := bytesT_info hby
  rw [hi] at hi'
  cases hi'
  have hsi : i.size = z := by unfold sizeT at hz; rw [hi] at hz; cases hz; rfl
  have hzc := hZ.cells (ones_cells_ne b3)
  have hzs : Z.cells.size = z := by rw [← b2]; simpa using hzc.length.symm
  obtain ⟨us, hus, hou, hul, hY⟩ := h.news hy hnew
  -- a new row
  have fresh : ∀ (n cap : Nat) (olds : List Value) (old : List AV), VRs P μ old olds → ones old = true → olds.length = n * z → n + k ≤ 35184372088832 → ∀ w', w' = w.drew.alloc (.cells (olds.toArray ++ us.toArray ++ Builtin.zeroCells Z.cells (grownCap w (n + k) cap e - (n + k))) e) →
      ∀ s : Sem Value, s.run P w = .ok (.slice (some ⟨w.heap.size, 0, none⟩) (n + k) (grownCap w (n + k) cap e)) w' →
      NR P N μ σ w (.val (.slice σ.n 0 (n + k) false true) (σ.row e (old ++ new))) ((do pure (.value (← s)) : Sem Next).run P w) := by
    intro n cap olds old ho1 ho2 hol hnk w' hw s hs
    subst hw
    have hge := grownCap_ge w (n + k) cap e
    have hle := grownCap_le_maxLen w (n + k) cap e (by simp only [maxLen]; omega)
    have hg := h.rowMore (w' := w.drew.alloc (.cells (olds.toArray ++ us.toArray ++ Builtin.zeroCells Z.cells (grownCap w (n + k) cap e - (n + k))) e))
      (us' := olds.toArray ++ us.toArray ++ Builtin.zeroCells Z.cells (grownCap w (n + k) cap e - (n + k))) (t := e) rfl rfl rfl rfl (ho1.append hus) (ones_append ho2 hou)
      (by simp only [Array.toList_append, List.append_assoc]; rw [← List.append_assoc]; exact List.take_left)
    refine hg.val hs ?_
    refine VR.slice σ.n 0 (n + k) false true _ _ _ (upd_n _ _ _) (.inl (by rw [add_nil])) hge hle (by simp) (fun _ _ sz t' hsz => ?_)
    cases hsz
    rw [sizeT_cells hz]
    simp only [Array.size_append, List.size_toArray, size_zeroCells, hzs, hol, hul, ← Nat.add_mul]
    congr 1
    omega
  replace hr6 : appendTo e z k new σ x = some r := hr6
  have hk0 : k = 0 → Y = .slice none 0 0 ∨ ∃ ad c', Y = .slice (some ad) 0 c' := by
    intro hk
    rcases hY with ⟨h1, _⟩ | ⟨ad, c, h1, _⟩
    · exact .inl h1
    · exact .inr ⟨ad, c, by rw [h1, hk]⟩
  have hk1 : k ≠ 0 → ∃ ad c, Y = .slice (some ad) k c ∧ ∀ j u, us[j]? = some u → w.cell? (ad.add j) = some u := by
    intro hk
    rcases hY with ⟨_, h1⟩ | h1
    · exact absurd h1 hk
    · exact h1
  cases x with
  | nilslice =>
    cases hx
    replace hr6 : cnd (Nat.beq k 0) (some (.val .nilslice σ)) (some (.val (.slice σ.n 0 k false true) (σ.row e new))) = some r := hr6
    cases hk : Nat.beq k 0 with
    | true =>
      rw [hk] at hr6
      cases hr6
      exact NR.value h (by simp only [Sem.run_bind, append_none hu hz (Nat.le_refl 0) (hk0 (Nat.eq_of_beq_eq_true hk)), Result.andThen_ok]; rfl) .nilslice
    | false =>
      rw [hk] at hr6
      cases hr6
      have hk : k ≠ 0 := fun q => by subst q; cases hk
      obtain ⟨ad, c, rfl, hcell⟩ := hk1 hk
      have hrun := run_append_nil (P := P) w t ty e i Z hu hi hzz ad k c us (by rw [hul, hsi]) hcell (by omega) (by simp [lenOf] at b6; omega) (by simp only [lenOf, Nat.zero_add] at b5; omega)
      have := fresh 0 0 [] [] .nil rfl (by simp) (by simpa [lenOf] using b6) _ rfl (Builtin.append_ #[t, t] ty #[.slice none 0 0, .slice (some ad) k c]) (by simpa using hrun)
      simpa using this
  | slice b o n lim wh =>
    replace hr6 : cnd (Nat.beq k 0) (some (.val (.slice b o n lim wh) σ))
      (cnd lim (omap (σ.cells b o (Nat.mul n z)) fun old => .val (.slice σ.n 0 (Nat.add n k) false true) (σ.row e (old ++ new)))
        (cnd (wh && Nat.beq o 0) (obind (σ.h.get b) (appendIn e b n k z new σ)) none)) = some r := hr6
    have hx0 := hx
    cases hx with
    | slice _ _ _ _ _ en ad c hen had hnc hmc hlim hc =>
    cases hk : Nat.beq k 0 with
    | true =>
      rw [hk] at hr6
      cases hr6
      exact NR.value h (by simp only [Sem.run_bind, append_none hu hz hnc (hk0 (Nat.eq_of_beq_eq_true hk)), Result.andThen_ok]; rfl) hx0
    | false =>
      rw [hk] at hr6
      have hk : k ≠ 0 := fun q => by subst q; cases hk
      obtain ⟨ady, cy, rfl, hcell⟩ := hk1 hk
      cases hl : lim with
      | true =>
        rw [hl] at hr6
        obtain ⟨old, hold, rfl⟩ := omap_some.1 (show omap (σ.cells b o (Nat.mul n z)) (fun old => ARes.val (.slice σ.n 0 (Nat.add n k) false true) (σ.row e (old ++ new))) = some r from hr6)
        obtain rfl := hlim hl
        obtain ⟨h1, h2, ous, h3, h4, h5⟩ := h.cellsAt hen hold
        have holds : ∀ j v, ous[j]? = some v → w.cell? (ad.add j) = some v := by
          intro j v hj
          have hjl : j < ous.length := (List.getElem?_eq_some_iff.1 hj).1
          rw [h4] at hjl
          have hn0 : 0 < c := by
            rcases Nat.eq_zero_or_pos c with h0 | h0
            · rw [h0] at hjl; simp at hjl
            · exact h0
          obtain rfl : ad = en.a.add o := had.elim id (fun h => by omega)
          rw [add_add, h5 j hjl]
          exact hj
        have h4' : ous.length = c * z := h4
        simp only [lenOf] at b5 b6
        have hrun := run_append_grow (P := P) w t ty e i Z hu hi hzz ad c c ous (by rw [h4', hsi]) holds ady k cy us (by rw [hul, hsi]) hcell (by omega) (by omega) (growslice_fits (by omega) (by omega))
        exact fresh c c ous old h3 h2 h4' b6 _ rfl _ hrun
      | false =>
        rw [hl] at hr6
        obtain ⟨hwo, hr7⟩ := cnd_none.1 (show cnd (wh && Nat.beq o 0) (obind (σ.h.get b) (appendIn e b n k z new σ)) none = some r from hr6)
        rw [Bool.and_eq_true] at hwo
        obtain ⟨hw, ho⟩ := hwo
        have ho : o = 0 := Nat.eq_of_beq_eq_true ho
        obtain ⟨bl, hbl, hr8⟩ := obind_some.1 hr7
        cases bl with
        | cells own e' len cs =>
          obtain ⟨hq, hr9⟩ := cnd_none.1 (show cnd (own && Nat.beq e' e && Nat.ble (Nat.mul n z) len) (some (ARes.val (.slice σ.n 0 (Nat.add n k) false true) ((σ.put b .dead).push (.cells true e (Nat.mul (Nat.add n k) z) (cs.grow (Nat.mul n z) new))))) none = some r from hr8)
          cases hr9
          simp only [Bool.and_eq_true] at hq
          obtain ⟨⟨hown, hee⟩, hnl⟩ := hq
          subst hown
          obtain rfl : e' = e := Nat.eq_of_beq_eq_true hee
          have hnl : n * z ≤ len := Nat.le_of_ble_eq_true hnl
          have hbr : BR P N μ w (.cells true e' len cs) en := by
            obtain ⟨k', q1, q2⟩ := h.blk b en hen
            rw [hbl] at q1; cases q1; exact q2
          obtain ⟨g, sz, cur, rfl, hN, h1, h2, h3, h4⟩ := hbr
          subst ho
          obtain rfl : ad = ⟨g, 0, none⟩ := by
            rcases had with h | ⟨_, h⟩
            · rw [h, add_nil]
            · exact absurd rfl h
          have hcz : c * z = sz := by rw [← sizeT_cells hz]; exact hc hw rfl sz e' rfl
          simp only [lenOf] at b5 b6
          have hsz : n * z ≤ cur.size := by omega
          have hown : w.ownsRow N e' z (.slice (some ⟨g, 0, none⟩) n c) n (cur.toList.take (n * z)) :=
            ⟨by simp; omega, .inr ⟨g, c, cur, rfl, hN, h1, hnc, hmc, by rw [h2, hcz], rfl⟩⟩
          have h1c : ∀ u ∈ us, u.oneCell' = true := by
            intro u hu'
            obtain ⟨j, hj⟩ := List.getElem?_of_mem hu'
            have hjl : j < new.length := by rw [hus.length]; exact (List.getElem?_eq_some_iff.1 hj).1
            obtain ⟨u', q1, q2⟩ := hus.get (List.getElem?_eq_getElem hjl)
            rw [hj] at q1; cases q1
            exact q2.one (ones_get hou (List.getElem?_eq_getElem hjl))
          obtain ⟨v', w', hrun, hown', hgr, hnil, hat⟩ := run_append_own_at (P := P) w N t ty e' i Z z i.bytes hu hi hzz hsi rfl hzs (by omega) _ n _ hown ady k cy us hul hcell h1c (by simp only [maxLen]; omega) (by omega) h.hN
          obtain ⟨hxl, hv' | ⟨g', cap', cur', rfl, hN', hh', hnc', hcm', hcs', htk⟩⟩ := hown'
          · omega
          · have hg' : g' = g ∨ g' = w.heap.size := by
              simp only [Value.ownBlock, Option.some.injEq] at hat
              exact hat
            have hcr : CR P μ (cs.grow (n * z) new) ((n + k) * z) (fun i => cur'[i]?) := by
              intro j hj
              have hgl : n * z + new.length = (n + k) * z := by rw [hus.length, hul, Nat.add_mul]
              have hget := Cs.grow_get (vs := new) hnl h4.isSome j (by omega)
              have hcj : cur'[j]? = (cur.toList.take (n * z) ++ us)[j]? := by
                rw [← htk, List.getElem?_take, if_pos hj]; simp
              show ∃ av v, (cs.grow (n * z) new).get j = some av ∧ cur'[j]? = some v ∧ VR P μ av v ∧ av.one = true
              rw [hget, hcj]
              by_cases hjn : j < n * z
              · rw [if_pos hjn, List.getElem?_append_left (by simp; omega), List.getElem?_take, if_pos hjn, Array.getElem?_toList]
                exact h4 j (by omega)
              · have hlt : (cur.toList.take (n * z)).length = n * z := by simp; omega
                rw [if_neg hjn, List.getElem?_append_right (by omega), hlt]
                have hvi : new[j - n * z]? = some (new[j - n * z]'(by omega)) := List.getElem?_eq_getElem (by omega)
                obtain ⟨u, q1, q2⟩ := hus.get hvi
                exact ⟨_, u, hvi, q1, q2, ones_get hou hvi⟩
            have hgo := h.append (w' := w') (len' := (n + k) * z) (c' := cs.grow (n * z) new) hen hbl hN hgr hg' hh' (by rw [hcs']; exact Nat.mul_le_mul_right _ hnc') hcr
            refine hgo.val hrun (VR.slice σ.n 0 (n + k) false true _ _ _ (upd_n _ _ _) (.inl (by rw [add_nil])) hnc' hcm' (by simp) (fun _ _ sz' t' hsz' => ?_))
            cases hsz'
            rw [sizeT_cells hz, hcs']
        | _ => cases hr8
  | _ => cases hr6
end
end Go.Proofs.Vai
/- The operations, of texts and bytes: a text's bytes appended; a slice's data, a text of bytes; new bytes that are not known. -/
namespace Go.Proofs.Vai
open Go Go.RowKit
variable [Env]

section
variable {P : Program} {N : Nat} {μ : Inj} {σ : St} {w : World} {a : AAct} {ca : Act}

theorem u8s_rel (s : ByteArray) : VRs P μ (u8s (s.data.toList.map (·.toNat))) (Lib.strCells s) := by
  unfold u8s Lib.strCells
  rw [List.map_map]
  generalize s.data.toList = l
  induction l with
  | nil => exact .nil
  | cons x l ih => exact .cons _ _ _ _ (.int _ _) ih
theorem op_appendS {t u : TypeId} {ty : TypeId} {x y : AV} {X Y : Value} {r : ARes} (h : SR P N μ σ w) (hx : VR P μ x X) (hy : VR P μ y Y) (hr : appendS P t u x y σ = some r) :
    NR P N μ σ w r ((do pure (.value (← Builtin.append_ #[t, u] ty #[X, Y])) : Sem Next).run P w) := by
  unfold appendS at hr
  split at hr
  · rename_i l
    obtain ⟨e, he, hr2⟩ := obind_some.1 hr
    obtain ⟨z, hz, hr3⟩ := obind_some.1 hr2
    obtain ⟨by_, hby, hr4⟩ := obind_some.1 hr3
    obtain ⟨zv, hzv, hr5⟩ := obind_some.1 hr4
    obtain ⟨hb, hr6⟩ := cnd_none.1 hr5
    clear hr hr2 hr3 hr4 hr5
    simp only [Bool.and_eq_true] at hb
    obtain ⟨⟨⟨⟨⟨b0, b1⟩, b2⟩, b3⟩, b4⟩, b5⟩ := hb
    have hut := isStrT_some b0
    obtain rfl : z = 1 := Nat.eq_of_beq_eq_true b1
    obtain rfl : by_ = 1 := Nat.eq_of_beq_eq_true b2
    have b3 : zv.cells.length = 1 := Nat.eq_of_beq_eq_true b3
    have b5 : lenOf x + l.length ≤ 1000000 := Nat.le_of_ble_eq_true b5
    have hu := elemT_some he
    obtain ⟨Z, _, hZ, i, hi, hzz⟩ := zeroT_run (μ := μ) hzv w
    obtain ⟨i', hi', hib⟩ := bytesT_info hby
    rw [hi] at hi'
    cases hi'
    have hsi : i.size = 1 := by unfold sizeT at hz; rw [hi] at hz; exact Option.some.inj hz
    have hzc := hZ.cells (ones_cells_ne b4)
    have hzs : Z.cells.size = 1 := by rw [← b3]; simpa using hzc.length.symm
    cases hy with
    | str _ s hs =>
    subst hs
    have hus : VRs P μ (u8s (s.data.toList.map (·.toNat))) (Lib.strCells s) := u8s_rel s
    have hou : ones (u8s (s.data.toList.map (·.toNat))) = true := u8s_ones _
    have hul : (Lib.strCells s).length = s.size := Lib.strCells_length s
    have hk : (s.data.toList.map (·.toNat)).length = s.size := by simp
    rw [hk] at b5 hr6
    generalize hnew : u8s (s.data.toList.map (·.toNat)) = new at hr6 hus hou
    -- a new row
    have fresh : ∀ (n cap : Nat) (olds : List Value) (old : List AV), VRs P μ old olds → ones old = true → olds.length = n → n + s.size ≤ 1000000 → ∀ w', w' = w.drew.alloc (.cells (olds.toArray ++ (Lib.strCells s).toArray ++ Builtin.zeroCells Z.cells (grownCap w (n + s.size) cap e - (n + s.size))) e) →
        ∀ q : Sem Value, q.run P w = .ok (.slice (some ⟨w.heap.size, 0, none⟩) (n + s.size) (grownCap w (n + s.size) cap e)) w' →
        NR P N μ σ w (.val (.slice σ.n 0 (n + s.size) false true) (σ.row e (old ++ new))) ((do pure (.value (← q)) : Sem Next).run P w) := by
      intro n cap olds old ho1 ho2 hol hnk w' hw q hq
      subst hw
      have hge := grownCap_ge w (n + s.size) cap e
      have hle := grownCap_le_maxLen w (n + s.size) cap e (by simp only [maxLen]; omega)
      have hg := h.rowMore (w' := w.drew.alloc (.cells (olds.toArray ++ (Lib.strCells s).toArray ++ Builtin.zeroCells Z.cells (grownCap w (n + s.size) cap e - (n + s.size))) e))
        (us' := olds.toArray ++ (Lib.strCells s).toArray ++ Builtin.zeroCells Z.cells (grownCap w (n + s.size) cap e - (n + s.size))) (t := e) rfl rfl rfl rfl (ho1.append hus) (ones_append ho2 hou)
        (by simp only [Array.toList_append, List.append_assoc]; rw [← List.append_assoc]; exact List.take_left)
      refine hg.val hq ?_
      refine VR.slice σ.n 0 (n + s.size) false true _ _ _ (upd_n _ _ _) (.inl (by rw [add_nil])) hge hle (by simp) (fun _ _ sz t' hsz => ?_)
      cases hsz
      rw [sizeT_cells hz]
      simp only [Array.size_append, List.size_toArray, size_zeroCells, hzs, hol, hul]
      omega
    cases x with
    | nilslice =>
      cases hx
      replace hr6 : cnd (Nat.beq s.size 0) (some (.val .nilslice σ)) (some (.val (.slice σ.n 0 s.size false true) (σ.row e new))) = some r := hr6
      cases hk : Nat.beq s.size 0 with
      | true =>
        rw [hk] at hr6
        cases hr6
        have hm : s.size = 0 := Nat.eq_of_beq_eq_true hk
        have hf := Lib.run_firstCells_string (P := P) w 1 s
        rw [hm] at hf
        refine NR.value h (u := .slice none 0 0) ?_ .nilslice
        simp [Builtin.append_, run_underlying hu, run_underlying hut, sizeOf, typeInfo, hi, hsi, Builtin.lenOf, hm, hf]
      | false =>
        rw [hk] at hr6
        cases hr6
        have hk : s.size ≠ 0 := fun q => by rw [q] at hk; cases hk
        have hrun := run_append_nil_string (P := P) w t u ty e i Z hu hut hi hzz s (by omega) (by simp only [lenOf] at b5; omega) (by simp only [lenOf] at b5; rw [hib]; omega)
        have e1 : (s.data.map fun b => Value.int .u8 b.toNat) = (Lib.strCells s).toArray := by
          apply Array.ext'
          simp [Lib.strCells]
        rw [e1] at hrun
        have := fresh 0 0 [] [] .nil rfl (by simp) (by simpa [lenOf] using b5) _ rfl (Builtin.append_ #[t, u] ty #[.slice none 0 0, .string s]) (by simpa using hrun)
        simpa using this
    | slice b o n lim wh =>
      replace hr6 : cnd (Nat.beq s.size 0) (some (.val (.slice b o n lim wh) σ))
        (cnd lim (omap (σ.cells b o (Nat.mul n 1)) fun old => .val (.slice σ.n 0 (Nat.add n s.size) false true) (σ.row e (old ++ new)))
          (cnd (wh && Nat.beq o 0) (obind (σ.h.get b) (appendIn e b n s.size 1 new σ)) none)) = some r := hr6
      have hx0 := hx
      cases hx with
      | slice _ _ _ _ _ en ad c hen had hnc hmc hlim hc =>
      simp only [lenOf] at b5
      cases hk : Nat.beq s.size 0 with
      | true =>
        rw [hk] at hr6
        cases hr6
        have hm : s.size = 0 := Nat.eq_of_beq_eq_true hk
        have hf := Lib.run_firstCells_string (P := P) w 1 s
        rw [hm] at hf
        have he0 : (Lib.strCells s) = [] := List.eq_nil_of_length_eq_zero (by rw [hul, hm])
        refine NR.value h (u := .slice (some ad) n c) ?_ hx0
        simp [Builtin.append_, run_underlying hu, run_underlying hut, sizeOf, typeInfo, hi, hsi, Builtin.lenOf, hm, hf, hnc, he0, storeCells]
      | false =>
        rw [hk] at hr6
        have hk : s.size ≠ 0 := fun q => by rw [q] at hk; cases hk
        cases hl : lim with
        | true =>
          rw [hl] at hr6
          obtain ⟨old, hold, rfl⟩ := omap_some.1 (show omap (σ.cells b o (Nat.mul n 1)) (fun old => ARes.val (.slice σ.n 0 (Nat.add n s.size) false true) (σ.row e (old ++ new))) = some r from hr6)
          obtain rfl := hlim hl
          obtain ⟨h1, h2, ous, h3, h4, h5⟩ := h.cellsAt hen hold
          have h4' : ous.length = c := by have : ous.length = c * 1 := h4; omega
          have holds : ∀ j v, ous[j]? = some v → w.cell? (ad.add j) = some v := by
            intro j v hj
            have hjl : j < ous.length := (List.getElem?_eq_some_iff.1 hj).1
            obtain rfl : ad = en.a.add o := had.elim id (fun h => by omega)
            rw [add_add, h5 j (by show j < c * 1; omega)]
            exact hj
          have hrun := Lib.run_append_grow_string (P := P) w t u ty e i Z hu hut hi hzz ad c c ous (by rw [h4', hsi]; omega) holds s (by omega) (by omega) (by rw [hib]; exact growslice_fits (by omega) (by omega))
          exact fresh c c ous old h3 h2 h4' b5 _ rfl _ hrun
        | false =>
          rw [hl] at hr6
          obtain ⟨hwo, hr7⟩ := cnd_none.1 (show cnd (wh && Nat.beq o 0) (obind (σ.h.get b) (appendIn e b n s.size 1 new σ)) none = some r from hr6)
          rw [Bool.and_eq_true] at hwo
          obtain ⟨hw, ho⟩ := hwo
          have ho : o = 0 := Nat.eq_of_beq_eq_true ho
          obtain ⟨bl, hbl, hr8⟩ := obind_some.1 hr7
          cases bl with
          | cells own e' len cs =>
            obtain ⟨hq, hr9⟩ := cnd_none.1 (show cnd (own && Nat.beq e' e && Nat.ble (Nat.mul n 1) len) (some (ARes.val (.slice σ.n 0 (Nat.add n s.size) false true) ((σ.put b .dead).push (.cells true e (Nat.mul (Nat.add n s.size) 1) (cs.grow (Nat.mul n 1) new))))) none = some r from hr8)
            cases hr9
            simp only [Bool.and_eq_true] at hq
            obtain ⟨⟨hown, hee⟩, hnl⟩ := hq
            subst hown
            obtain rfl : e' = e := Nat.eq_of_beq_eq_true hee
            have hnl : n * 1 ≤ len := Nat.le_of_ble_eq_true hnl
            have hbr : BR P N μ w (.cells true e' len cs) en := by
              obtain ⟨k', q1, q2⟩ := h.blk b en hen
              rw [hbl] at q1; cases q1; exact q2
            obtain ⟨g, sz, cur, rfl, hN, h1, h2, h3, h4⟩ := hbr
            subst ho
            obtain rfl : ad = ⟨g, 0, none⟩ := by
              rcases had with h | ⟨_, h⟩
              · rw [h, add_nil]
              · exact absurd rfl h
            have hcz : c * 1 = sz := by rw [← sizeT_cells hz]; exact hc hw rfl sz e' rfl
            have hxn : new.length = s.size := by rw [hus.length, hul]
            have hcr : ∀ (cur' : Array Value), cur'.toList.take (n + s.size) = cur.toList.take n ++ Lib.strCells s → CR P μ (cs.grow (n * 1) new) ((n + s.size) * 1) (fun i => cur'[i]?) := by
              intro cur' htk j hj
              have hj : j < n + s.size := by omega
              have hget := Cs.grow_get (vs := new) hnl h4.isSome j (by omega)
              have hcj : cur'[j]? = (cur.toList.take n ++ Lib.strCells s)[j]? := by
                rw [← htk, List.getElem?_take, if_pos hj]; simp
              show ∃ av v, (cs.grow (n * 1) new).get j = some av ∧ cur'[j]? = some v ∧ VR P μ av v ∧ av.one = true
              rw [hget, hcj]
              by_cases hjn : j < n * 1
              · rw [if_pos hjn, List.getElem?_append_left (by simp; omega), List.getElem?_take, if_pos (by omega), Array.getElem?_toList]
                exact h4 j (by omega)
              · have hlt : (cur.toList.take n).length = n := by simp; omega
                rw [if_neg hjn, List.getElem?_append_right (by omega), hlt, Nat.mul_one]
                have hvi : new[j - n]? = some (new[j - n]'(by omega)) := List.getElem?_eq_getElem (by omega)
                obtain ⟨u, q1, q2⟩ := hus.get hvi
                exact ⟨_, u, hvi, q1, q2, ones_get hou hvi⟩
            by_cases hroom : n + s.size ≤ c
            · have hrun := Lib.run_append_room_string (P := P) w t u ty e' i hu hut hi hsi g n c cur h1 s hroom (by omega)
              have hrow : (w.setRow g (cur.toList.take n ++ Lib.strCells s ++ cur.toList.drop (n + s.size)).toArray).heap[g]? = some (.cells (cur.toList.take n ++ Lib.strCells s ++ cur.toList.drop (n + s.size)).toArray e' (0, 0)) := setRow_heap w g cur _ e' _ h1
              have hsz : (cur.toList.take n ++ Lib.strCells s ++ cur.toList.drop (n + s.size)).toArray.size = cur.size := by
                simp only [List.size_toArray, List.length_append, List.length_take, List.length_drop, Array.length_toList, hul]
                omega
              have hgo := h.append (len' := (n + s.size) * 1) (c' := cs.grow (n * 1) new) hen hbl hN (w' := w.setRow g (cur.toList.take n ++ Lib.strCells s ++ cur.toList.drop (n + s.size)).toArray)
                ⟨rfl, rfl, rfl, by simp, fun k _ hk => setRow_other w g k _ (fun e => hk (by rw [e]))⟩ (.inl rfl) hrow (by rw [hsz]; omega) (hcr _ (by
                  have hl : (cur.toList.take n ++ Lib.strCells s).length = n + s.size := by rw [List.length_append, hul]; simp; omega
                  rw [← hl]
                  exact List.take_left))
              refine hgo.val hrun (VR.slice σ.n 0 (n + s.size) false true _ _ _ (upd_n _ _ _) (.inl (by rw [add_nil])) hroom hmc (by simp) (fun _ _ sz' t' hsz' => ?_))
              cases hsz'
              rw [sizeT_cells hz, hsz, h2, hcz]
            · have holds : ∀ j v, (cur.toList.take n)[j]? = some v → w.cell? ((⟨g, 0, none⟩ : Addr).add j) = some v := by
                intro j v hj
                rw [List.getElem?_take] at hj
                split at hj
                · rw [add_zero]
                  simpa [World.cell?, h1] using hj
                · cases hj
              have hlt : (cur.toList.take n).length = n := by simp; omega
              have hrun := Lib.run_append_grow_string (P := P) w t u ty e' i Z hu hut hi hzz ⟨g, 0, none⟩ n c (cur.toList.take n) (by rw [hlt, hsi]; omega) holds s (by omega) (by omega) (by rw [hib]; exact growslice_fits (by omega) (by omega))
              have hge := grownCap_ge w (n + s.size) c e'
              have hle := grownCap_le_maxLen w (n + s.size) c e' (by simp only [maxLen]; omega)
              have hsz : ((cur.toList.take n).toArray ++ (Lib.strCells s).toArray ++ Builtin.zeroCells Z.cells (grownCap w (n + s.size) c e' - (n + s.size))).size = grownCap w (n + s.size) c e' := by
                simp only [Array.size_append, List.size_toArray, size_zeroCells, hzs, hlt, hul]
                omega
              have hgo := h.append (len' := (n + s.size) * 1) (c' := cs.grow (n * 1) new) hen hbl hN (w' := w.drew.alloc (.cells ((cur.toList.take n).toArray ++ (Lib.strCells s).toArray ++ Builtin.zeroCells Z.cells (grownCap w (n + s.size) c e' - (n + s.size))) e'))
                (g' := w.heap.size) ⟨rfl, rfl, rfl, by simp, fun k hk _ => heap_alloc_old w.drew _ k hk⟩ (.inr rfl) (heap_alloc_new w.drew _) (by rw [hsz]; omega) (hcr _ (by
                  have hl : (cur.toList.take n ++ Lib.strCells s).length = n + s.size := by rw [List.length_append, hul, hlt]
                  simp only [Array.toList_append, List.append_assoc]
                  rw [← List.append_assoc, ← hl]
                  exact List.take_left))
              refine hgo.val hrun (VR.slice σ.n 0 (n + s.size) false true _ _ _ (upd_n _ _ _) (.inl (by rw [add_nil])) hge hle (by simp) (fun _ _ sz' t' hsz' => ?_))
              cases hsz'
              rw [sizeT_cells hz, hsz, Nat.mul_one]
          | _ => cases hr8
    | _ => cases hr6
  · cases hr

theorem args1 {x : AV} {A : List Value} (h : VRs P μ [x] A) : ∃ X, A = [X] ∧ VR P μ x X := by cases h with | cons _ u _ us h hs => cases hs; exact ⟨u, rfl, h⟩
theorem args2 {x y : AV} {A : List Value} (h : VRs P μ [x, y] A) : ∃ X Y, A = [X, Y] ∧ VR P μ x X ∧ VR P μ y Y := by
  cases h with | cons _ u _ us h hs => cases hs with | cons _ v _ vs h2 hs2 => cases hs2; exact ⟨u, v, rfl, h, h2⟩
theorem b_cap {ats : Array TypeId} {ty : TypeId} {args : List AV} {A : List Value} {r : ARes} (h : SR P N μ σ w) (hA : VRs P μ args A) (hr : bCap P ats.toList args σ = some r) :
    NR P N μ σ w r ((do pure (.value (← Builtin.cap_ ats ty A.toArray)) : Sem Next).run P w) := by
  unfold bCap at hr
  split at hr
  · rename_i t ts hts
    obtain ⟨e, he, hr1⟩ := obind_some.1 hr
    have hu := elemT_some he
    have h0 : ats[0]? = some t := by rw [← Array.getElem?_toList, hts]; rfl
    split at hr1
    · cases hr1
      obtain ⟨X, rfl, hx⟩ := args1 hA
      cases hx
      exact NR.value h (u := .int .i64 0) (by simp [Builtin.cap_, goInt, h0, run_underlying hu]) (.int _ _)
    · rename_i b o n wh
      cases hr1
      obtain ⟨X, rfl, hx⟩ := args1 hA
      cases hx with
      | slice _ _ _ _ _ en ad c hen had hn hm hl hc =>
        obtain rfl := hl rfl
        exact NR.value h (u := .int .i64 (Int.ofNat c)) (by simp [Builtin.cap_, goInt, h0, run_underlying hu]) (.int _ _)
    · cases hr1
  · cases hr
theorem b_sliceData {ats : Array TypeId} {ty : TypeId} {args : List AV} {A : List Value} {r : ARes} (h : SR P N μ σ w) (hA : VRs P μ args A) (hr : bSliceData P ats.toList args σ = some r) :
    NR P N μ σ w r ((do pure (.value (← Builtin.unsafeSliceData_ ats ty A.toArray)) : Sem Next).run P w) := by
  unfold bSliceData at hr
  split at hr
  · cases hr
    obtain ⟨X, rfl, hx⟩ := args1 hA
    cases hx
    refine NR.value h (u := .pointer none) ?_ .nilptr
    have := Lib.run_unsafeSliceData_nil (P := P) w ats ty 0 0
    simp only [Sem.run_bind, this, Result.andThen_ok]
    rfl
  · rename_i b o n lim wh
    cases hr
    obtain ⟨X, rfl, hx⟩ := args1 hA
    cases hx with
    | slice _ _ _ _ _ en ad c hen had hn hm hl hc =>
      obtain rfl : ad = en.a.add o := had.elim id (fun h => by omega)
      refine NR.value h (u := .pointer (some (en.a.add o))) ?_ (.ptr b o en hen)
      have := Lib.run_unsafeSliceData_row (P := P) w ats ty (en.a.add o) (n + 1) c (by omega)
      simp only [Sem.run_bind, this, Result.andThen_ok]
      rfl
  · cases hr
theorem b_string {ats : Array TypeId} {ty : TypeId} {args : List AV} {A : List Value} {r : ARes} (h : SR P N μ σ w) (hA : VRs P μ args A) (hr : bString P ats.toList args σ = some r) :
    NR P N μ σ w r ((do pure (.value (← Builtin.unsafeString_ ats ty A.toArray)) : Sem Next).run P w) := by
  unfold bString at hr
  split at hr
  · rename_i t t' hts
    have hats : ats = #[t, t'] := Array.ext' (by simpa using hts)
    subst hats
    split at hr
    · cases hr
      obtain ⟨X, Y, rfl, hx, hy⟩ := args2 hA
      cases hx; cases hy
      refine NR.value h (u := .string .empty) ?_ (.str _ _ rfl)
      have := Lib.run_unsafeString_none (P := P) w t t' ty none
      simp only [Sem.run_bind, this, Result.andThen_ok]
      rfl
    · rename_i b n
      split at hr
      · rename_i e hpt
        obtain ⟨z, hz, hr1⟩ := obind_some.1 hr
        obtain ⟨hq, hr2⟩ := cnd_none.1 hr1
        obtain ⟨k, hk, hr3⟩ := obind_some.1 hr2
        clear hr hr1 hr2
        simp only [Bool.and_eq_true] at hq
        obtain ⟨⟨q1, q2⟩, q3⟩ := hq
        obtain rfl : z = 1 := Nat.eq_of_beq_eq_true q2
        have q3 : n ≤ 1000000 := Nat.le_of_ble_eq_true q3
        obtain ⟨X, Y, rfl, hx, hy⟩ := args2 hA
        unfold strOf at hr3
        split at hr3
        · rename_i own u len c
          obtain ⟨ho, hr4⟩ := cnd_none.1 hr3
          obtain ⟨cs, hcs, hr5⟩ := obind_some.1 hr4
          obtain ⟨l, hl, rfl⟩ := omap_some.1 hr5
          simp only [Bool.and_eq_true] at ho
          obtain ⟨⟨o1, o2⟩, o3⟩ := ho
          subst o1
          obtain rfl : u = e := Nat.eq_of_beq_eq_true o2
          have o3 : n + 1 ≤ len := Nat.le_of_ble_eq_true o3
          cases hy with
          | int _ _ => cases hx with
            | ptr _ _ en hen =>
              obtain ⟨k', hk', hbr⟩ := h.blk b en hen
              rw [hk] at hk'
              cases hk'
              obtain ⟨g, sz, cur, rfl, hN, h1, hs2, h3, h4⟩ := hbr
              obtain ⟨hcl, hcg⟩ := Cs.sub_spec hcs (by omega : 0 + (n + 1) ≤ len) h4.isSome
              -- the cells are bytes
              have hus : ∃ us : List Value, VRs P μ cs us ∧ ∀ j, j < n + 1 → cur[j]? = us[j]? := by
                refine ⟨cur.toList.take (n + 1), VRs.of_get (by rw [hcl]; simp; omega) fun i v u hv hu => ?_, fun j hj => by rw [List.getElem?_take, if_pos hj]; simp⟩
                have hi : i < n + 1 := by
                  have := (List.getElem?_eq_some_iff.1 hv).1
                  omega
                obtain ⟨av, v', r1, r2, r3, r4⟩ := h4 i (by omega)
                have := hcg i hi
                rw [Nat.zero_add, r1, hv] at this
                cases this
                rw [List.getElem?_take, if_pos hi, Array.getElem?_toList] at hu
                have r2 : cur[i]? = some v' := r2
                rw [r2] at hu
                cases hu
                exact r3
              obtain ⟨us, hus, hug⟩ := hus
              obtain ⟨rfl, hle⟩ := u8ns_spec hl hus
              have hll : l.length = n + 1 := by have := hus.length; rw [hcl] at this; simpa using this.symm
              have hbytes : ∀ j x, (l.map fun c => UInt8.ofNat c)[j]? = some x → w.cell? ((⟨g, 0, none⟩ : Addr).add j) = some (.int .u8 x.toNat) := by
                intro j x hj
                rw [List.getElem?_map] at hj
                cases hlj : l[j]? with
                | none => rw [hlj] at hj; cases hj
                | some y =>
                  rw [hlj] at hj
                  cases hj
                  have hjl : j < l.length := (List.getElem?_eq_some_iff.1 hlj).1
                  have hy := hle y (List.mem_of_getElem? hlj)
                  have hcj := hug j (by omega)
                  rw [List.getElem?_map, hlj] at hcj
                  rw [add_zero]
                  have : (UInt8.ofNat y).toNat = y := by simp; omega
                  rw [this]
                  simpa [World.cell?, h1] using hcj
              have hlen : (l.map fun c => UInt8.ofNat c).length = n + 1 := by simpa using hll
              have hsh : w.shape? g = some (u, cur.size) := by unfold World.shape?; rw [h1]
              have hrun := Lib.run_unsafeString_row (P := P) w t t' ty u hpt (sizeT_cells hz) g cur.size hsh (l.map fun c => UInt8.ofNat c) (fun h => by rw [h] at hlen; simp at hlen) (by omega) (by omega) hbytes
              rw [hlen] at hrun
              have hG := h.killed (w' := w.freeze ⟨g, 0, none⟩ (n + 1)) hen hk rfl hN (freeze_grown w g 0 (n + 1))
              refine ⟨μ, _, _, ?_, hG, .str l ⟨(l.map fun c => UInt8.ofNat c).toArray⟩ ?_⟩
              · rw [add_nil]
                have hrun' : (Builtin.unsafeString_ #[t, t'] ty #[.pointer (some ⟨g, 0, none⟩), .int .i64 (Int.ofNat (Nat.succ n))]).run P w = .ok (.string ⟨(l.map fun c => UInt8.ofNat c).toArray⟩) (w.freeze ⟨g, 0, none⟩ (n + 1)) := hrun
                simp only [Sem.run_bind, hrun', Result.andThen_ok]
                rfl
              · simp only [List.map_map]
                conv => rhs; rw [← List.map_id l]
                refine List.map_congr_left fun c hc => ?_
                have := hle c hc
                simp
                omega
        · cases hr3
      · cases hr
    · cases hr
  · cases hr
end
end Go.Proofs.Vai
/- The operations, tenth part: the other builtins, type assertions, calls; ALL OPERATIONS. -/
namespace Go.Proofs.Vai
open Go Go.RowKit Go.MapKept
variable [Env]

section
variable {P : Program} {N : Nat} {μ : Inj} {σ : St} {w : World} {a : AAct} {ca : Act}

/-! ### Type assertions -/
theorem op_assert {x : Operand} {xt t : TypeId} {ok : Bool} {r : ARes} (h : SR P N μ σ w) (ha : AR P μ a ca) (hr : dAssert x t ok P a σ = some r) :
    NR P N μ σ w r ((do pure (.value (← Instr.typeAssert (ca.eval x) xt t ok)) : Sem Next).run P w) := by
  obtain ⟨v, hv, hr1⟩ := obind_some.1 hr
  obtain ⟨hi, hr2⟩ := cnd_none'.1 hr1
  have hx := ha.eval h hv
  clear hr hr1
  obtain ⟨d, hd, hn⟩ := isIfaceT_no hi
  generalize ca.eval x = X at *
  have fails : ∀ z, zeroT P t = some z → r = .val (.tuple [z, .bool false]) σ → ok = true → (∃ zv, (zeroValue t).run P w = .ok zv w ∧ VR P μ z zv ∧ ∀ u, u = Value.tuple #[zv, .bool false] → VR P μ (.tuple [z, .bool false]) u) := by
    intro z hz _ _
    obtain ⟨zv, hrun, hzv, _⟩ := zeroT_run (μ := μ) hz w
    exact ⟨zv, hrun, hzv, fun u hu => by rw [hu]; exact .tuple [z, .bool false] [zv, .bool false] (.cons _ _ _ _ hzv (.cons _ _ _ _ (.bool false) .nil))⟩
  cases v with
  | niliface =>
    cases hx
    obtain ⟨hok, hr3⟩ := cnd_none.1 (show cnd ok (omap (zeroT P t) fun z => ARes.val (.tuple [z, .bool false]) σ) none = some r from hr2)
    subst hok
    obtain ⟨z, hz, rfl⟩ := omap_some.1 hr3
    obtain ⟨zv, hrun, hzv, hu⟩ := fails z hz rfl rfl
    refine NR.value h ?_ (hu _ rfl)
    unfold Instr.typeAssert
    cases d <;> first | exact absurd rfl (hn _) | simp [run_underlying hd, hrun]
  | iface t' v =>
    cases hx with
    | iface _ _ V hV =>
    replace hr2 : cnd (Nat.beq t' t) (some (ARes.val (okV ok v true) σ)) (cnd ok (omap (zeroT P t) fun z => ARes.val (.tuple [z, .bool false]) σ) none) = some r := hr2
    cases hb : Nat.beq t' t with
    | true =>
      rw [hb] at hr2
      cases hr2
      obtain rfl : t' = t := Nat.eq_of_beq_eq_true hb
      refine NR.value h ?_ (okV_rel hV)
      unfold Instr.typeAssert
      cases d <;> first | exact absurd rfl (hn _) | simp [run_underlying hd]
    | false =>
      rw [hb] at hr2
      have hne : ¬ t' = t := fun e => by subst e; simp at hb
      obtain ⟨hok, hr3⟩ := cnd_none.1 (show cnd ok (omap (zeroT P t) fun z => ARes.val (.tuple [z, .bool false]) σ) none = some r from hr2)
      subst hok
      obtain ⟨z, hz, rfl⟩ := omap_some.1 hr3
      obtain ⟨zv, hrun, hzv, hu⟩ := fails z hz rfl rfl
      refine NR.value h ?_ (hu _ rfl)
      unfold Instr.typeAssert
      cases d <;> first | exact absurd rfl (hn _) | simp [run_underlying hd, hne, hrun]
  | _ => cases hr2
theorem op_panic {x : Operand} {r : ARes} (h : SR P N μ σ w) (ha : AR P μ a ca) (hr : dPanic x P a σ = some r) :
    NR P N μ σ w r ((do pure (.value (← Instr.panic (ca.eval x))) : Sem Next).run P w) := by
  obtain ⟨v, hv, hr1⟩ := obind_some.1 hr
  have hx := ha.eval h hv
  generalize ca.eval x = X at *
  cases v with
  | iface t v =>
    cases hr1
    have hx0 := hx
    cases hx with
    | iface _ _ V hV => exact ⟨_, rfl, rfl, hx0⟩
  | _ => cases hr1

/-! ### Builtins -/
theorem args_two {x y : AV} {A : List Value} (h : VRs P μ [x, y] A) : ∃ X Y, A = [X, Y] ∧ VR P μ x X ∧ VR P μ y Y := by
  cases h with | cons _ X _ _ hx h => cases h with | cons _ Y _ _ hy h => cases h; exact ⟨X, Y, rfl, hx, hy⟩
theorem args_one {x : AV} {A : List Value} (h : VRs P μ [x] A) : ∃ X, A = [X] ∧ VR P μ x X := by
  cases h with | cons _ X _ _ hx h => cases h; exact ⟨X, rfl, hx⟩
theorem ER.length {es : List (AV × AV)} {ms : List MapEntry} (h : ER P μ es ms) : es.length = ms.length := by
  induction h with
  | nil => rfl
  | cons _ _ _ _ _ _ _ _ ih => simp [ih]
theorem EP.length {es : List (AV × AV)} {ms : List MapEntry} (h : EP P μ es ms) : es.length = ms.length := by
  obtain ⟨l, h1, h2⟩ := h
  rw [h2.length, h1.length_eq]
theorem symTxt_run {i : Nat} (h : symTxt i = true) : ∃ s : ByteArray, Env.val i = .string s ∧ Env.val (i + 2) = .int .i64 s.size := by
  have hk := Env.know i
  unfold symTxt at h
  rw [Bool.or_eq_true] at h
  rcases h with h | h
  · rw [Nat.eq_of_beq_eq_true h] at hk
    exact hk
  · rw [Nat.eq_of_beq_eq_true h] at hk
    exact hk
theorem b_len {ats : Array TypeId} {ty : TypeId} {args : List AV} {A : List Value} {r : ARes} (h : SR P N μ σ w) (hA : VRs P μ args A) (hr : bLen P ats.toList args σ = some r) :
    NR P N μ σ w r ((do pure (.value (← Builtin.len_ ats ty A.toArray)) : Sem Next).run P w) := by
  unfold bLen at hr
  split at hr
  · rename_i t ts hts
    have h0 : ats[0]? = some t := by rw [← Array.getElem?_toList, hts]; rfl
    split at hr
    · rename_i i
      obtain ⟨h1, hr⟩ := cnd_none.1 hr
      split at hr
      · rename_i hu
        cases hr
        obtain ⟨X, rfl, hx⟩ := args_one hA
        cases hx
        obtain ⟨s, e1, e2⟩ := symTxt_run h1
        refine NR.value h (u := Env.val (i + 2)) ?_ (.sym _)
        unfold Builtin.len_
        simp only [h0]
        simp [run_underlying hu, goInt, e1, e2]
      · cases hr
    · rename_i x _
      obtain ⟨n, hn, rfl⟩ := omap_some.1 hr
      obtain ⟨X, rfl, hx⟩ := args_one hA
      refine NR.value h (u := .int .i64 (Int.ofNat n)) ?_ (.int _ _)
      unfold Builtin.len_
      simp only [h0]
      unfold lenA at hn
      split at hn
      · rename_i hu
        cases x with
        | str l => cases hn; cases hx with | str _ s hs => subst hs; simp [run_underlying hu, goInt]
        | _ => cases hn
      · rename_i e hu
        cases x with
        | slice b o m lim wh => cases hn; cases hx; simp [run_underlying hu, goInt]
        | nilslice => cases hn; cases hx; simp [run_underlying hu, goInt]
        | _ => cases hn
      · rename_i m e hu
        cases hn
        simp [run_underlying hu, goInt]
      · rename_i hu
        obtain ⟨es, hes, rfl⟩ := omap_some.1 hn
        obtain ⟨ents, hE, ⟨rfl, rfl⟩ | ⟨g, clock, rfl, hg⟩⟩ := h.entries hx hes
        · have := hE.length
          simp at this
          subst this
          simp [run_underlying hu, goInt]
        · have hl : es.length = ents.size := by simpa using hE.length
          have hgo := MapKept.run_getObj_map (P := P) hg
          simp only [List.getElem?_toArray, List.getElem?_cons_zero, Sem.run_bind, run_underlying hu, Result.andThen_ok, hgo, Sem.run_pure, goInt, hl]
          rfl
      · cases hn
    · cases hr
  · cases hr
theorem b_delete {ats : Array TypeId} {ty : TypeId} {args : List AV} {A : List Value} {r : ARes} (h : SR P N μ σ w) (hA : VRs P μ args A) (hr : bDelete P ats.toList args σ = some r) :
    NR P N μ σ w r ((do pure (.value (← Builtin.delete_ ats ty A.toArray)) : Sem Next).run P w) := by
  unfold bDelete at hr
  split at hr
  · rename_i t ts hts
    split at hr
    · rename_i b k
      obtain ⟨q, hq, hr1⟩ := obind_some.1 hr
      obtain ⟨hc, hr2⟩ := cnd_none.1 hr1
      obtain ⟨es, hes, hr3⟩ := obind_some.1 hr2
      obtain ⟨es', hes', rfl⟩ := omap_some.1 hr3
      obtain ⟨M, K, rfl, hm, hk⟩ := args_two hA
      have h0 : ats[0]? = some t := by rw [← Array.getElem?_toList, hts]; rfl
      cases hm with
      | map _ e hb =>
        obtain ⟨hkb, g, ents, clock, rfl, hN, hg, he, hbn⟩ := h.mapAt hb hes
        have hu := mapT_some hq
        obtain ⟨d, hd⟩ := chkAt_ty (n := 7) hc
        have hchk := chkAt_run (em := ents.isEmpty) 8 10000 q.1 k K (by decide) hk hc w
        have hgo := MapKept.run_getObj_map (P := P) hg
        rcases del_spec (t := q.1) hk he hes' with ⟨hf, hE⟩ | ⟨j, v, hf, hj, hE⟩
        · have hfk := hf.run hd w
          refine (h.setMap hb hkb hN hg ents clock hE hbn).val (u := .tuple #[]) ?_ (.tuple [] [] .nil)
          unfold Builtin.delete_
          simp only [h0, List.getElem?_toArray, List.getElem?_cons_zero, List.getElem?_cons_succ, Sem.run_bind, Sem.run_pure, Result.andThen_ok, run_underlying hu, hgo, hchk, hfk, MapKept.run_setObj_map _ hg]
        · have hfk := hf.run hd w
          have hj' : j < ents.size := by simpa using hj
          refine (h.setMap hb hkb hN hg (ents.eraseIdxIfInBounds j) clock (by simpa [Array.eraseIdxIfInBounds, hj'] using hE) (by simpa [Array.eraseIdxIfInBounds, hj'] using hbn.erase j)).val (u := .tuple #[]) ?_ (.tuple [] [] .nil)
          unfold Builtin.delete_
          simp only [h0, List.getElem?_toArray, List.getElem?_cons_zero, List.getElem?_cons_succ, Sem.run_bind, Sem.run_pure, Result.andThen_ok, run_underlying hu, hgo, hchk, hfk, MapKept.run_setObj_map _ hg]
    · cases hr
  · cases hr
theorem b_copy {ats : Array TypeId} {ty : TypeId} {args : List AV} {A : List Value} {r : ARes} (h : SR P N μ σ w) (hA : VRs P μ args A) (hr : bCopy P ats.toList args σ = some r) :
    NR P N μ σ w r ((do pure (.value (← Builtin.copy_ ats ty A.toArray)) : Sem Next).run P w) := by
  unfold bCopy at hr
  split at hr
  · rename_i t ts hts
    obtain ⟨e, he, hr1⟩ := obind_some.1 hr
    obtain ⟨z, hz, hr2⟩ := obind_some.1 hr1
    split at hr2
    · rename_i b o n lim wh
      cases hr2
      obtain ⟨X, Y, rfl, hx, hy⟩ := args_two hA
      have h0 : ats[0]? = some t := by rw [← Array.getElem?_toList, hts]; rfl
      have hu := elemT_some he
      cases hx with
      | slice _ _ _ _ _ en ad c hen had hnc hmc hlim hc =>
        cases hy
        refine NR.value h (u := .int .i64 0) ?_ (.int _ _)
        unfold Builtin.copy_
        simp [h0, run_underlying hu, Builtin.lenOf, sizeT_run hz, Builtin.firstCells, storeCells, goInt]
    · rename_i b o n lim wh b' o' n' lim' wh'
      obtain ⟨cs, hcs, hr3⟩ := obind_some.1 hr2
      obtain ⟨σ', hst, rfl⟩ := omap_some.1 hr3
      obtain ⟨X, Y, rfl, hx, hy⟩ := args_two hA
      have h0 : ats[0]? = some t := by rw [← Array.getElem?_toList, hts]; rfl
      have hu := elemT_some he
      cases hx with
      | slice _ _ _ _ _ en ad c hen had hnc hmc hlim hc => cases hy with
        | slice _ _ _ _ _ en' ad' c' hen' had' hnc' hmc' hlim' hc' =>
          obtain ⟨h1, h2, us, h3, h4, h5⟩ := h.cellsAt hen' hcs
          obtain ⟨w', hrun, hg⟩ := h.store hen h3 hst
          have hload : (loadCells ad' (min n n' * z)).run P w = .ok us.toArray w := by
            refine run_loadCells (P := P) h4 fun j hj => ?_
            have hn0 : 0 < min n n' := by
              rcases Nat.eq_zero_or_pos (min n n') with h0 | h0
              · have hj : j < min n n' * z := hj
                rw [h0] at hj; simp at hj
              · exact h0
            obtain rfl : ad' = en'.a.add o' := had'.elim id (fun h => by omega)
            rw [add_add]
            exact h5 j hj
          have hstore : (storeCells ad us).run P w = .ok () w' := by
            by_cases hn0 : min n n' = 0
            · have : us = [] := by
                have h4 : us.length = min n n' * z := h4
                rw [hn0] at h4
                exact List.eq_nil_of_length_eq_zero (by simpa using h4)
              subst this
              simpa [storeCells] using hrun
            · obtain rfl : ad = en.a.add o := had.elim id (fun h => by omega)
              exact hrun
          refine hg.val (u := .int .i64 (Int.ofNat (min n n'))) ?_ (.int _ _)
          unfold Builtin.copy_
          have hmin : Nat.min n' n = min n n' := Nat.min_comm n' n
          simp only [h0, List.getElem?_toArray, List.getElem?_cons_zero, List.getElem?_cons_succ, Sem.run_bind, Sem.run_pure, Result.andThen_ok, run_underlying hu, Builtin.lenOf, sizeT_run hz, hmin, Builtin.firstCells, hload, hstore, goInt]
          rfl
    · cases hr2
  · cases hr
theorem b_minmax {ats : List TypeId} {tys : Array TypeId} {ty : TypeId} {args : List AV} {A : List Value} {r : ARes} (h : SR P N μ σ w) (hA : VRs P μ args A) :
    (bMin P ats args σ = some r → NR P N μ σ w r ((do pure (.value (← Builtin.min_ tys ty A.toArray)) : Sem Next).run P w)) ∧
    (bMax P ats args σ = some r → NR P N μ σ w r ((do pure (.value (← Builtin.max_ tys ty A.toArray)) : Sem Next).run P w)) := by
  constructor
  · intro hr
    unfold bMin at hr
    split at hr
    · rename_i x y
      cases hr
      obtain ⟨X, Y, rfl, hx, hy⟩ := args_two hA
      cases hx; cases hy
      refine NR.value h (u := .int .i64 (if y < x then y else x)) (by simp [Builtin.min_, Builtin.min2]) ?_
      rw [ltI_eq, cnd_eq]
      simp only [decide_eq_true_eq]
      exact .int _ _
    · cases hr
  · intro hr
    unfold bMax at hr
    split at hr
    · rename_i x y
      cases hr
      obtain ⟨X, Y, rfl, hx, hy⟩ := args_two hA
      cases hx; cases hy
      refine NR.value h (u := .int .i64 (if x < y then y else x)) (by simp [Builtin.max_, Builtin.max2]) ?_
      rw [ltI_eq, cnd_eq]
      simp only [decide_eq_true_eq]
      exact .int _ _
    · cases hr
theorem op_builtin {b : Builtin} {ats : Array TypeId} {ty : TypeId} {consts : Array Bool} {args : List AV} {A : List Value} {r : ARes} (h : SR P N μ σ w) (hA : VRs P μ args A) (hr : builtinA b P ats.toList args σ = some r) :
    NR P N μ σ w r ((builtin b ats ty consts A.toArray).run P w) := by
  cases b <;> first | (cases hr; done) | skip
  case append =>
    replace hr : bAppend P ats.toList args σ = some r := hr
    unfold bAppend at hr
    split at hr
    · rename_i t t' hts
      split at hr
      · rename_i x y
        obtain ⟨X, Y, rfl, hx, hy⟩ := args_two hA
        have : ats = #[t, t'] := Array.ext' (by simpa using hts)
        subst this
        cases hb : Nat.beq t t' with
        | true =>
          rw [hb] at hr
          obtain rfl : t = t' := Nat.eq_of_beq_eq_true hb
          exact op_append h hx hy hr
        | false =>
          rw [hb] at hr
          exact op_appendS h hx hy hr
      · cases hr
    · cases hr
  case cap => exact b_cap h hA hr
  case unsafeSliceData => exact b_sliceData h hA hr
  case unsafeString => exact b_string h hA hr
  case copy => exact b_copy h hA hr
  case delete => exact b_delete h hA hr
  case len => exact b_len h hA hr
  case max => exact (b_minmax (ats := ats.toList) h hA).2 hr
  case min => exact (b_minmax (ats := ats.toList) h hA).1 hr
  case panic =>
    replace hr : bPanic P ats.toList args σ = some r := hr
    unfold bPanic at hr
    split at hr
    · rename_i t v
      cases hr
      obtain ⟨X, rfl, hx⟩ := args_one hA
      have hx0 := hx
      cases hx with
      | iface _ _ V hV => exact ⟨_, rfl, rfl, hx0⟩
    · cases hr
  case recover => cases hr; exact ⟨rfl, rfl⟩

/-! ### Calls -/
/-- No function is the one that counts the goroutines. -/
def NoNum (P : Program) : Prop := ∀ (f : FuncId) (fn : Func), P.funcs[f]? = some fn → (fn.name == "runtime.NumGoroutine") = false
theorem ext_find {fn : Func} {n : String} {e : Array Value → Sem Value} (hn : fn.name = n) (h1 : Extern.allGenericRows.lookup n = none) (h2 : Extern.allTypedRows.lookup n = none) (h3 : Extern.allRows.lookup n = some e) : Extern.find fn = some e := by
  unfold Extern.find
  simp only [hn, h1, h2, h3]
  rfl
theorem ext_next {fn : Func} {n : String} (hn : fn.name = n) (ho : fn.origin = "") (h1 : Extern.allNextRows.lookup n = none) : Extern.findNext fn = none := by
  unfold Extern.findNext
  simp only [hn, ho, h1, show Extern.allNextRows.lookup "" = none by kernel_rfl]
  rfl
theorem byte_beq (x : UInt8) {c : Nat} (hc : c ≤ 255) : Nat.beq x.toNat c = (x == c.toUInt8) := by
  have h1 : (c.toUInt8).toNat = c := by
    show (UInt8.ofNat c).toNat = c
    rw [UInt8.toNat_ofNat']
    exact Nat.mod_eq_of_lt (by omega)
  by_cases h : x = c.toUInt8
  · subst h
    rw [h1]
    simp
  · have : x.toNat ≠ c := fun e => h (UInt8.toNat_inj.1 (by rw [h1]; exact e))
    rw [show (x == c.toUInt8) = false by simpa using h]
    cases hb : Nat.beq x.toNat c with
    | false => rfl
    | true => exact absurd (Nat.eq_of_beq_eq_true hb) this
theorem cntN_eq {c : Nat} (hc : c ≤ 255) : ∀ l : List UInt8, cntN c (l.map (·.toNat)) = Lib.countByte l c.toUInt8
  | [] => rfl
  | x :: l => by
    show cnd (Nat.beq x.toNat c) (Nat.succ (cntN c (l.map (·.toNat)))) (cntN c (l.map (·.toNat))) = _
    rw [byte_beq x hc, cntN_eq hc l]
    unfold Lib.countByte
    rw [List.count_cons]
    cases h : x == c.toUInt8 <;> simp [cnd]
theorem idxN_eq {c : Nat} (hc : c ≤ 255) : ∀ l : List UInt8, idxI (idxN c (l.map (·.toNat))) = Lib.indexByte l c.toUInt8
  | [] => rfl
  | x :: l => by
    have ih := idxN_eq hc l
    have e : idxN c ((x :: l).map (·.toNat)) = cnd (Nat.beq x.toNat c) (some 0) (omap (idxN c (l.map (·.toNat))) Nat.succ) := rfl
    rw [e, byte_beq x hc]
    unfold Lib.indexByte
    cases h : x == c.toUInt8 with
    | true => rfl
    | false =>
      simp only [Bool.false_eq_true, if_false]
      cases hi : idxN c (l.map (·.toNat)) with
      | none =>
        rw [hi] at ih
        rw [← ih]
        rfl
      | some n =>
        rw [hi] at ih
        rw [← ih]
        have h1 : (idxI (some n) == -1) = false := by
          show ((n : Int) == -1) = false
          rw [beq_eq_false_iff_ne]
          omega
        rw [h1]
        show ((Nat.succ n : Nat) : Int) = _
        show ((n + 1 : Nat) : Int) = (n : Int) + 1
        omega
theorem op_ext {f : FuncId} {fn : Func} {args : List AV} {A : List Value} {r : ARes} (h : SR P N μ σ w) (hf : P.funcs[f]? = some fn) (hb : fn.body = none) (hA : VRs P μ args A) (hr : extA P fn args σ = some r) : NR P N μ σ w r ((callFunc f A.toArray).run P w) := by
  obtain ⟨ho, hr⟩ := cnd_none.1 (show cnd (fn.origin == "") (cnd (fn.name == "internal/bytealg.CountString") (extCount σ args) (cnd (fn.name == "internal/bytealg.IndexByteString") (extIndexByte σ args) (cnd (fn.name == "internal/abi.NoEscape") (extSame σ args) (cnd (fn.name == "internal/bytealg.MakeNoZero") (extMake P fn σ args) none)))) none = some r from hr)
  have ho : fn.origin = "" := by simpa using ho
  cases h1 : fn.name == "internal/bytealg.CountString" with
  | true =>
    have hn : fn.name = "internal/bytealg.CountString" := by simpa using h1
    rw [h1] at hr
    replace hr : extCount σ args = some r := hr
    unfold extCount at hr
    split at hr
    · rename_i l c hr0
      obtain ⟨hc, hr⟩ := cnd_none.1 hr
      cases hr
      have hc := Nat.le_of_ble_eq_true hc
      cases hA with
      | cons _ u _ us h1 h2 => cases h2 with
        | cons _ u2 _ us2 h3 h4 =>
          cases h4
          cases h1 with
          | str _ s hs => cases h3 with
            | int _ _ =>
              subst hs
              refine NR.value h (u := .int .i64 (cntN c (s.data.toList.map (·.toNat)))) ?_ (.int _ _)
              rw [run_callFunc_extern hf (by rw [hn]; decide) (by rw [hb]; rfl) (ext_next hn ho (by kernel_rfl)) (ext_find (e := Extern.BytealgCount.count) hn (by kernel_rfl) (by kernel_rfl) (by kernel_rfl)), Lib.run_countString, cntN_eq hc]
              rfl
    · cases hr
  | false =>
    rw [h1] at hr
    replace hr : cnd (fn.name == "internal/bytealg.IndexByteString") (extIndexByte σ args) (cnd (fn.name == "internal/abi.NoEscape") (extSame σ args) (cnd (fn.name == "internal/bytealg.MakeNoZero") (extMake P fn σ args) none)) = some r := hr
    cases h2 : fn.name == "internal/bytealg.IndexByteString" with
    | true =>
    rw [h2] at hr
    replace hr : extIndexByte σ args = some r := hr
    have hn : fn.name = "internal/bytealg.IndexByteString" := by simpa using h2
    unfold extIndexByte at hr
    split at hr
    · rename_i l c hr0
      obtain ⟨hc, hr⟩ := cnd_none.1 hr
      cases hr
      have hc := Nat.le_of_ble_eq_true hc
      cases hA with
      | cons _ u _ us h1 h2 => cases h2 with
        | cons _ u2 _ us2 h3 h4 =>
          cases h4
          cases h1 with
          | str _ s hs => cases h3 with
            | int _ _ =>
              subst hs
              refine NR.value h (u := .int .i64 (idxI (idxN c (s.data.toList.map (·.toNat))))) ?_ (.int _ _)
              rw [run_callFunc_extern hf (by rw [hn]; decide) (by rw [hb]; rfl) (ext_next hn ho (by kernel_rfl)) (ext_find (e := Extern.BytealgIndexByte.indexByte) hn (by kernel_rfl) (by kernel_rfl) (by kernel_rfl)), Lib.run_indexByteString, idxN_eq hc]
              rfl
    · cases hr
    | false =>
    rw [h2] at hr
    replace hr : cnd (fn.name == "internal/abi.NoEscape") (extSame σ args) (cnd (fn.name == "internal/bytealg.MakeNoZero") (extMake P fn σ args) none) = some r := hr
    cases h3 : fn.name == "internal/abi.NoEscape" with
    | true =>
      rw [h3] at hr
      replace hr : extSame σ args = some r := hr
      have hn : fn.name = "internal/abi.NoEscape" := by simpa using h3
      unfold extSame at hr
      split at hr
      · cases hr
        obtain ⟨X, rfl, hx⟩ := args1 hA
        refine NR.value h (u := X) ?_ hx
        rw [run_callFunc_extern hf (by rw [hn]; decide) (by rw [hb]; rfl) (ext_next hn ho (by kernel_rfl)) (ext_find (e := Extern.AbiNoEscape.same) hn (by kernel_rfl) (by kernel_rfl) (by kernel_rfl))]
        rfl
      · cases hr
    | false =>
      rw [h3] at hr
      obtain ⟨h4, hr⟩ := cnd_none.1 (show cnd (fn.name == "internal/bytealg.MakeNoZero") (extMake P fn σ args) none = some r from hr)
      have hn : fn.name = "internal/bytealg.MakeNoZero" := by simpa using h4
      unfold extMake at hr
      split at hr
      · rename_i n hr0 hr1
        split at hr
        · rename_i t hrt
          obtain ⟨e, he, hr1⟩ := obind_some.1 hr
          obtain ⟨z, hz, hr2⟩ := obind_some.1 hr1
          obtain ⟨hq, hr3⟩ := cnd_none.1 hr2
          cases hr3
          simp only [Bool.and_eq_true] at hq
          obtain ⟨⟨q1, q2⟩, q3⟩ := hq
          obtain rfl : z = 1 := Nat.eq_of_beq_eq_true q2
          have q3 : n ≤ 1000000 := Nat.le_of_ble_eq_true q3
          have hu := elemT_some he
          have hrs : fn.resultTypes = #[t] := Array.ext' (by simpa using hrt)
          obtain ⟨X, rfl, hx⟩ := args1 hA
          cases hx
          obtain ⟨cs, hrun, h5, h6⟩ := Lib.run_makeNoZero (P := P) w fn.params t e hu n (by omega)
          have hfind : Extern.find fn = some (Extern.BytealgMakeNoZero.makeNoZero fn.params fn.resultTypes) := by
            have h1 : Extern.allGenericRows.lookup "internal/bytealg.MakeNoZero" = none := by kernel_rfl
            have h2 : Extern.allTypedRows.lookup "internal/bytealg.MakeNoZero" = some Extern.BytealgMakeNoZero.makeNoZero := by kernel_rfl
            unfold Extern.find
            simp only [hn, h1, h2]
            rfl
          have hG : Goes P N μ σ w (upd μ σ.n ⟨⟨w.heap.size, 0, none⟩, some (cs.size, e)⟩) (σ.push (.cells true e 0 (.few []))) (w.drew.drew.alloc (.cells cs e)) := by
            refine h.laid ⟨rfl, rfl, rfl, by simp, fun k hk _ => heap_alloc_old w.drew.drew _ k hk⟩ (Nat.le_refl _) ⟨w.heap.size, cs.size, cs, rfl, h.hN, heap_alloc_new w.drew.drew _, rfl, Nat.zero_le _, fun i hi => absurd hi (Nat.not_lt_zero i)⟩
          refine ⟨_, .slice (some ⟨w.heap.size, 0, none⟩) n cs.size, _, ?_, hG, VR.slice σ.n 0 n false true _ _ cs.size (upd_n _ _ _) (.inl (by rw [add_nil])) h5 (h6 (by simp only [maxLen]; omega)) (fun h => by cases h) (fun _ _ sz t' hsz => ?_)⟩
          · rw [run_callFunc_extern hf (by rw [hn]; decide) (by rw [hb]; rfl) (ext_next hn ho (by kernel_rfl)) hfind, hrs]
            have hrun' : (Extern.BytealgMakeNoZero.makeNoZero fn.params #[t] [Value.int .i64 (Int.ofNat n)].toArray).run P w = .ok (.slice (some ⟨w.heap.size, 0, none⟩) n cs.size) (w.drew.drew.alloc (.cells cs e)) := hrun
            rw [hrun']
            rfl
          · cases hsz
            rw [sizeT_cells hz, Nat.mul_one]
        · cases hr
      · cases hr
theorem op_extern (hP : NoNum P) {f : FuncId} {args : List AV} {A : List Value} {r : ARes} (h : SR P N μ σ w) (hA : VRs P μ args A) (hr : externA P f args σ = some r) : NR P N μ σ w r ((callFunc f A.toArray).run P w) := by
  obtain ⟨fn, hf, hr1⟩ := obind_some.1 hr
  cases hb : fn.body with
  | none => rw [hb] at hr1; exact op_ext h hf hb hA hr1
  | some c =>
    rw [hb] at hr1
    cases hr1
    refine ⟨A, ?_, rfl, hA⟩
    have hn : ¬ fn.name = "runtime.NumGoroutine" := fun e => by have := hP f fn hf; rw [e] at this; simp at this
    unfold callFunc
    simp [hf, hn, hb]
theorem op_call (hP : NoNum P) {c : Call} {ty : TypeId} {r : ARes} (h : SR P N μ σ w) (ha : AR P μ a ca) (hr : dCall c P a σ = some r) :
    NR P N μ σ w r ((do let d ← resolve ca.eval c ty; invoke d.target d.args : Sem Next).run P w) := by
  obtain ⟨args, hargs, hr1⟩ := obind_some.1 hr
  have hA := ha.evals h hargs
  clear hr
  cases hc : c.callee with
  | builtin b =>
    rw [hc] at hr1
    have hb := op_builtin (ty := ty) (consts := c.args.map fun | .const _ => true | _ => false) h hA hr1
    unfold resolve
    simp only [hc, Sem.run_bind, Sem.run_pure, Result.andThen_ok, invoke, arr_eq ca]
    exact hb
  | value f =>
    rw [hc] at hr1
    obtain ⟨v, hv, hr2⟩ := obind_some.1 hr1
    have hx := ha.eval h hv
    unfold resolve
    simp only [hc]
    generalize ca.eval f = F at *
    cases v with
    | func g first cap => cases hx with
      | func _ _ _ F C h1 h2 =>
        have := op_extern hP (P := P) h (h1.append (hA.append h2)) hr2
        simp only [Deferred.ofValue, Sem.run_bind, Sem.run_pure, Result.andThen_ok, invoke, arr_eq ca]
        simpa [List.append_assoc] using this
    | yield b =>
      cases hr2
      cases hx with
      | yield _ e he =>
        refine ⟨e, _, he, ?_, rfl, hA⟩
        simp [Deferred.ofValue, invoke, arr_eq ca]
    | _ => cases hr2
  | invoke _ _ => rw [hc] at hr1; cases hr1
theorem op_defer {c : Call} {ty : TypeId} {r : ARes} (h : SR P N μ σ w) (ha : AR P μ a ca) (hr : dDefer c P a σ = some r) :
    NR P N μ σ w r ((do pure (.defer (← resolve ca.eval c ty)) : Sem Next).run P w) := by
  obtain ⟨args, hargs, hr1⟩ := obind_some.1 hr
  have hA := ha.evals h hargs
  clear hr
  cases hc : c.callee with
  | value f =>
    rw [hc] at hr1
    obtain ⟨v, hv, hr2⟩ := obind_some.1 hr1
    have hx := ha.eval h hv
    unfold resolve
    simp only [hc]
    generalize ca.eval f = F at *
    cases v with
    | func g first cap =>
      cases hr2
      cases hx with
      | func _ _ _ F C h1 h2 =>
        refine ⟨_, ?_, rfl, .fn g cap (first ++ args) C (F ++ (c.args.toList.map ca.eval)) h2 (h1.append hA)⟩
        simp [Deferred.ofValue, arr_eq ca]
    | _ => cases hr2
  | _ => rw [hc] at hr1; cases hr1

/-- ALL OPERATIONS: what the interpreter says of one, the machine does. -/
theorem opA_sound (hP : NoNum P) {o : Oper} {r : ARes} (h : SR P N μ σ w) (ha : AR P μ a ca) (hr : opA o.op P a σ = some r) : NR P N μ σ w r ((execOp ca.eval o).run P w) := by
  cases ho : o.op
  case nilCheck x => rw [ho] at hr; exact op_nilCheck h ha o ho hr
  all_goals
    rw [ho] at hr
    first | (cases hr; done) | skip
  all_goals
    unfold execOp
    simp only [ho]
  case move x => exact op_move h ha hr
  case assign x => exact op_move h ha hr
  case pick c x y => exact op_pick h ha hr
  case alloc t => exact op_alloc (a := a) h hr
  case box t x => exact op_box h ha hr
  case build t ps => exact op_build h ha hr
  case buildSlice t n ps => exact op_buildSlice h ha hr
  case load t x => exact op_load h ha hr
  case store t x y => exact op_store h ha hr
  case binOp op t x y _ => exact op_bin (t' := t) h ha hr
  case unOp op _ x => exact op_un h ha hr
  case convert s d x => exact op_conv h ha hr
  case makeInterface t x => exact op_iface h ha hr
  case makeFunc fn f c => exact op_func h ha hr
  case makeMap t r => exact op_makeMap (a := a) h hr
  case makeSlice t l c => exact op_makeSlice h ha hr
  case slice t x lo hi mx => exact op_slice h ha hr
  case fieldAddr t x f => exact op_fieldAddr h ha hr
  case field t x f => exact op_field h ha hr
  case indexAddr t x i => exact op_indexAddr h ha hr
  case index t x i => exact op_index h ha hr
  case lookup t x k ok => exact op_lookup h ha hr
  case mapUpdate t m k x => exact op_mapUpdate h ha hr
  case insert t m k x => exact op_mapUpdate h ha hr
  case range t x => exact op_range h ha hr
  case next x s => exact op_next h ha hr
  case typeAssert x t s ok => exact op_assert h ha hr
  case extract x i => exact op_extract h ha hr
  case call c => exact op_call hP h ha hr
  case defer c => exact op_defer h ha hr
  case panic x => exact op_panic h ha hr
end
end Go.Proofs.Vai
