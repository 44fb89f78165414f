/- The operations, fourth part: changes of type, literals of structs, arrays and slices, make, slices of slices. -/
import Derived.Test.YthaimknbmaeomaaGreatDoorVaiOpsC
import Derived.Great.FillDense
import Derived.Laws.MakeOwn
import Derived.Laws.Tables
import Derived.Lib.ConvBytes
import Derived.Laws.BytesArg
set_option linter.unusedVariables false
set_option linter.unusedSimpArgs false
set_option linter.unusedSectionVars false
namespace Go.Proofs.Vai
open Go Go.RowKit
variable [Env]

section
variable {P : Program} {N : Nat} {μ : Inj} {σ : St} {w : World} {a : AAct} {ca : Act}

theorem Goes.val {r : AV} {σ' : St} {w' : World} {u : Value} {μ' : Inj} {s : Sem Value} (hg : Goes P N μ σ w μ' σ' w') (hrun : s.run P w = .ok u w') (hv : VR P μ' r u) :
    NR P N μ σ w (.val r σ') ((do pure (.value (← s)) : Sem Next).run P w) := ⟨μ', u, w', by simp [hrun], hg, hv⟩

/-! ### Changes of type -/
theorem grown_bytesWorld (w : World) (e : TypeId) (s : ByteArray) : w.grownBy (Lib.bytesWorld w e s) none := by
  refine ⟨?_, ?_, ?_, by rw [Lib.bytesWorld_size]; omega, fun k hk _ => Lib.bytesWorld_at_old w e s k hk⟩ <;>
  · unfold Lib.bytesWorld World.freeze
    split <;> rfl
theorem u8s_get (l : List UInt8) (i : Nat) : (u8s (l.map (·.toNat)))[i]? = (l[i]?).map fun b => AV.int .u8 (Int.ofNat b.toNat) := by
  simp [u8s]
  rfl
theorem u8s_ones (l : List Nat) : ones (u8s l) = true := by
  rw [ones_eq]
  simp [u8s, AV.one]
theorem u8ns_spec : ∀ {cs : List AV} {l : List Nat} {C : List Value}, u8ns cs = some l → VRs P μ cs C → C = (l.map fun c => Value.int .u8 (Int.ofNat c)) ∧ ∀ c ∈ l, c ≤ 255 := by
  intro cs
  induction cs with
  | nil => intro l C h hv; cases h; cases hv; exact ⟨rfl, by simp⟩
  | cons v cs ih =>
    intro l C h hv
    cases hv with
    | cons _ u _ us hv hvs =>
      cases v with
      | int k n =>
        cases k <;> first | (cases h; done) | skip
        cases n with
        | negSucc n => cases h
        | ofNat c =>
          unfold u8ns at h
          cases hc : Nat.ble c 255 with
          | false => rw [hc] at h; cases h
          | true =>
            rw [hc, cond_true] at h
            split at h
            · rename_i l' hl
              cases h
              obtain ⟨h1, h2⟩ := ih hl hvs
              cases hv
              refine ⟨by rw [h1]; rfl, fun x hx => ?_⟩
              cases hx with
              | head => exact Nat.le_of_ble_eq_true hc
              | tail _ hx => exact h2 x hx
            · cases h
      | _ => cases h
section
variable {src dst : TypeId} {us : TypeDesc}
theorem conv_int {k j : IntKind} {n : Int} (hus : P.underlying src = some us) (hud : P.underlying dst = some (.int k)) : (convert src dst (.int j n)).run P w = .ok (.int k (k.wrap n)) w := by
  cases us <;> simp [convert, run_underlying hus, run_underlying hud, Conv.intToInt]
theorem conv_float {k : FloatKind} {j : IntKind} {n : Int} (hus : P.underlying src = some us) (hud : P.underlying dst = some (.float k)) : (convert src dst (.int j n)).run P w = .ok (.float k (k.nearest n)) w := by
  cases us <;> simp [convert, run_underlying hus, run_underlying hud, Conv.intToFloat]
theorem conv_ff {k : FloatKind} {n : Nat} (hus : P.underlying src = some us) (hud : P.underlying dst = some (.float k)) : (convert src dst (.float k n)).run P w = .ok (.float k n) w := by
  cases us <;> simp [convert, run_underlying hus, run_underlying hud, Conv.floatToFloat]
theorem conv_rune {j : IntKind} {n : Nat} (hus : P.underlying src = some us) (hud : P.underlying dst = some .string) : (convert src dst (.int j (Int.ofNat n))).run P w = .ok (.string (Utf8.encode n)) w := by
  cases us <;> simp [convert, run_underlying hus, run_underlying hud, Conv.intToString]
theorem conv_ss {s : ByteArray} (hus : P.underlying src = some us) (hud : P.underlying dst = some .string) : (convert src dst (.string s)).run P w = .ok (.string s) w := by
  cases us <;> simp [convert, run_underlying hus, run_underlying hud]
theorem rune_bytes {n : Nat} (hle : n ≤ 127) : (Utf8.encode n).data.toList.map (·.toNat) = [n] := by
  have h1 : Utf8.valid (n : Int) = true := by simp [Utf8.valid]; omega
  simp only [Utf8.encode, h1, if_true, Int.toNat_natCast]
  rw [if_pos (by omega)]
  simp
  omega
theorem conv_bytes {v : AV} {X : Value} {r : ARes} (h : SR P N μ σ w) (hx : VR P μ v X) (hud : P.underlying dst = some .string) (hr : obind (elemT P src) (fun e => convBytes P e v σ) = some r) :
    NR P N μ σ w r ((do pure (.value (← convert src dst X)) : Sem Next).run P w) := by
  obtain ⟨e, he, hr⟩ := obind_some.1 hr
  have he := elemT_some he
  obtain ⟨h8, hr⟩ := cnd_none.1 hr
  have h8 := isU8T_some h8
  cases v with
  | slice b o n lim wh =>
    obtain ⟨cs, hcs, hr⟩ := obind_some.1 hr
    obtain ⟨l, hl, rfl⟩ := omap_some.1 hr
    cases hx with
    | slice _ _ _ _ _ en ad c hen had hn hm hlim hc =>
      obtain ⟨h1, h2, us', h3, h4, h5⟩ := h.cellsAt hen hcs
      obtain ⟨rfl, h7⟩ := u8ns_spec hl h3
      have hload := run_loadCells (P := P) (a := ad) h4 (fun j hj => by
        obtain rfl : ad = en.a.add o := had.elim id (fun h => by omega)
        rw [add_add]; exact h5 j hj)
      have hlen : l.length = n := by simpa using h4
      have := run_bytesToString w ad n c (l.map Int.ofNat) (by rw [List.map_map]; exact hload)
      refine NR.value h (by simp only [Sem.run_bind, run_convert_bytes_string w src dst e _ n c he h8 hud, this, Result.andThen_ok]; rfl) (.str l _ ?_)
      rw [foldl_push_bytes, show ByteArray.empty = ⟨#[]⟩ from rfl]
      simp only [Array.toList_append, List.map_append, List.map_map]
      have : (l.map ((fun b : UInt8 => b.toNat) ∘ ((fun n : Int => UInt8.ofNat n.toNat) ∘ Int.ofNat))) = l := by
        conv => rhs; rw [← List.map_id l]
        refine List.map_congr_left fun c hc => ?_
        have := h7 c hc
        simp
        omega
      simpa using this
  | nilslice =>
    cases hr
    cases hx
    exact NR.value h (by simp only [Sem.run_bind, run_convert_bytes_nil (P := P) w src e he h8 0 0 dst hud, Result.andThen_ok]; rfl) (.str [] _ rfl)
  | _ => cases hr
theorem conv_sbytes {e : TypeId} {v : AV} {X : Value} {r : ARes} {l : List Nat} (h : SR P N μ σ w) (hx : VR P μ (.str l) X) (hus : P.underlying src = some us) (hud : P.underlying dst = some (.slice e)) (hr : convStr P e l σ = some r) :
    NR P N μ σ w r ((do pure (.value (← convert src dst X)) : Sem Next).run P w) := by
  obtain ⟨h8, hr⟩ := cnd_none.1 hr
  obtain ⟨hle, hr⟩ := cnd_none.1 hr
  have hle := Nat.le_of_ble_eq_true hle
  have h8 := isU8T_some h8
  cases hr
  cases hx with
  | str _ s hs =>
    subst hs
    have hg : Goes P N μ σ w (upd μ σ.n ⟨⟨w.heap.size, 0, none⟩, none⟩) (σ.push (.cells false e (s.data.toList.map (·.toNat)).length (.of (u8s (s.data.toList.map (·.toNat)))))) (Lib.bytesWorld w e s) := by
      refine h.laid (grown_bytesWorld w e s) (Nat.le_refl _) ⟨rfl, by rw [Lib.bytesWorld_size]; exact Nat.lt_succ_self _, fun i hi => ?_⟩
      have hi : i < s.size := by simpa using hi
      have hi' : i < s.data.toList.length := by simpa using hi
      refine ⟨.int .u8 (Int.ofNat (s.data.toList[i]).toNat), .int .u8 (s.data.toList.getD i 0).toNat, ?_, ?_, ?_, rfl⟩
      · rw [Cs.of_get, u8s_get, List.getElem?_eq_getElem hi']; rfl
      · have := Lib.bytesWorld_cell w e s i hi
        simpa [add_zero] using this
      · rw [show s.data.toList.getD i 0 = s.data.toList[i] from by simp [List.getD, List.getElem?_eq_getElem hi']]
        exact .int _ _
    refine hg.val (Lib.run_convert_string_bytes w src dst e s hus hud h8) ?_
    have hlen : (s.data.toList.map (·.toNat)).length = s.size := by simp
    rw [hlen]
    have := VR.slice (P := P) (μ := upd μ σ.n ⟨⟨w.heap.size, 0, none⟩, none⟩) σ.n 0 s.size false true ⟨⟨w.heap.size, 0, none⟩, none⟩ _ (grownCap w s.size 0 e) (upd_n _ _ _) (.inl rfl) (grownCap_ge w s.size 0 e)
      (grownCap_le_maxLen w s.size 0 e (by rw [hlen] at hle; simp only [maxLen]; omega)) (by simp) (by simp)
    simpa [add_nil] using this
end
theorem op_conv {src dst : TypeId} {x : Operand} {r : ARes} (h : SR P N μ σ w) (ha : AR P μ a ca) (hr : dConv src dst x P a σ = some r) :
    NR P N μ σ w r ((do pure (.value (← convert src dst (ca.eval x))) : Sem Next).run P w) := by
  obtain ⟨v, hv, hr1⟩ := obind_some.1 hr
  have hx := ha.eval h hv
  clear hr
  generalize ca.eval x = X at *
  obtain ⟨us, hus, hr2⟩ := obind_some.1 hr1
  clear hr1
  obtain ⟨ud, hud, hr⟩ := obind_some.1 hr2
  clear hr2
  cases ud with
  | int k => cases v with
    | int j n => cases hr; cases hx; exact NR.value h (by simp only [Sem.run_bind, conv_int hus hud, Result.andThen_ok]; rfl) (by rw [wrapA_eq]; exact .int _ _)
    | _ => cases hr
  | float k => cases v with
    | int j n => cases hr; cases hx; exact NR.value h (by simp only [Sem.run_bind, conv_float hus hud, Result.andThen_ok]; rfl) (.float _ _)
    | float j n =>
      obtain ⟨hk, hq⟩ := cnd_none.1 hr
      have hk := of_decide_eq_true hk
      cases hq
      clear hr
      subst hk
      cases hx
      exact NR.value h (by simp only [Sem.run_bind, conv_ff hus hud, Result.andThen_ok]; rfl) (.float _ _)
    | _ => cases hr
  | string => cases v with
    | int j n => cases n with
      | ofNat n =>
        obtain ⟨hle, hq⟩ := cnd_none.1 hr
        cases hq
        cases hx
        exact NR.value h (by simp only [Sem.run_bind, conv_rune hus hud, Result.andThen_ok]; rfl) (.str _ _ (rune_bytes (Nat.le_of_ble_eq_true hle)))
      | negSucc n => exact conv_bytes h hx hud hr
    | str l => cases hr; cases hx with | str _ s hs => exact NR.value h (by simp only [Sem.run_bind, conv_ss hus hud, Result.andThen_ok]; rfl) (.str _ s hs)
    | _ => exact conv_bytes h hx hud hr
  | slice e => cases v with
    | str l => exact conv_sbytes (v := .str l) h hx hus hud hr
    | _ => cases hr
  | _ => cases hr
end
end Go.Proofs.Vai
