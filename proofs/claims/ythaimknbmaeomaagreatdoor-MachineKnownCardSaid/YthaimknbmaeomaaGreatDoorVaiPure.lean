/- Plain facts about the interpreter's numerals, trees, lists of cells. -/
import Derived.Test.YthaimknbmaeomaaGreatDoorVaiCore
import Derived.IntWalk
set_option linter.unusedVariables false
set_option linter.unusedSimpArgs false
namespace Go.Proofs.Vai
open Go

theorem cnd_true {α : Type} (x y : α) : cnd true x y = x := rfl
theorem cnd_false {α : Type} (x y : α) : cnd false x y = y := rfl
theorem cnd_eq {α : Type} (b : Bool) (x y : α) : cnd b x y = if b = true then x else y := by cases b <;> rfl
theorem obind_eq {α β : Type} (o : Option α) (f : α → Option β) : obind o f = o.bind f := by cases o <;> rfl
theorem omap_eq {α β : Type} (o : Option α) (f : α → β) : omap o f = o.map f := by cases o <;> rfl
theorem obind_some {α β : Type} {o : Option α} {f : α → Option β} {r : β} : obind o f = some r ↔ ∃ x, o = some x ∧ f x = some r := by
  cases o with
  | none => exact ⟨fun h => (by cases h), fun ⟨_, h, _⟩ => (by cases h)⟩
  | some x => exact ⟨fun h => ⟨x, rfl, h⟩, fun ⟨y, h, k⟩ => by cases h; exact k⟩
theorem omap_some {α β : Type} {o : Option α} {f : α → β} {r : β} : omap o f = some r ↔ ∃ x, o = some x ∧ f x = r := by
  cases o with
  | none => exact ⟨fun h => (by cases h), fun ⟨_, h, _⟩ => (by cases h)⟩
  | some x => exact ⟨fun h => ⟨x, rfl, Option.some.inj h⟩, fun ⟨y, h, k⟩ => by cases h; exact congrArg some k⟩
theorem cnd_none {α : Type} {b : Bool} {x : Option α} {r : α} : cnd b x none = some r ↔ b = true ∧ x = some r := by
  cases b with
  | true => exact ⟨fun h => ⟨rfl, h⟩, fun h => h.2⟩
  | false => exact ⟨fun h => (by cases h), fun h => (by cases h.1)⟩
theorem cnd_none' {α : Type} {b : Bool} {x : Option α} {r : α} : cnd b none x = some r ↔ b = false ∧ x = some r := by
  cases b with
  | false => exact ⟨fun h => ⟨rfl, h⟩, fun h => h.2⟩
  | true => exact ⟨fun h => (by cases h), fun h => (by cases h.1)⟩

/-! ### Numerals -/
def Pos.toNat : Pos → Nat
  | .one => 0
  | .o p => 2 * p.toNat + 1
  | .i p => 2 * p.toNat + 2
theorem Pos.succ_one : Pos.succ .one = .o .one := rfl
theorem Pos.succ_o (p : Pos) : Pos.succ (.o p) = .i p := rfl
theorem Pos.succ_i (p : Pos) : Pos.succ (.i p) = .o p.succ := rfl
theorem Pos.toNat_succ (p : Pos) : p.succ.toNat = p.toNat + 1 := by
  induction p with
  | one => rfl
  | o p _ => simp only [Pos.succ_o, Pos.toNat]
  | i p ih => simp only [Pos.succ_i, Pos.toNat, ih]; omega
theorem Pos.toNat_inj {p q : Pos} (h : p.toNat = q.toNat) : p = q := by
  induction p generalizing q with
  | one => cases q with
    | one => rfl
    | o q => simp only [Pos.toNat] at h; omega
    | i q => simp only [Pos.toNat] at h; omega
  | o p ih => cases q with
    | one => simp only [Pos.toNat] at h; omega
    | o q => simp only [Pos.toNat] at h; rw [ih (q := q) (by omega)]
    | i q => simp only [Pos.toNat] at h; omega
  | i p ih => cases q with
    | one => simp only [Pos.toNat] at h; omega
    | o q => simp only [Pos.toNat] at h; omega
    | i q => simp only [Pos.toNat] at h; rw [ih (q := q) (by omega)]
instance : DecidableEq Pos := fun p q => if h : p.toNat = q.toNat then isTrue (Pos.toNat_inj h) else isFalse fun e => h (e ▸ rfl)

theorem posF_zero (n : Nat) : posF 0 n = .one := rfl
theorem posF_succ (f n : Nat) : posF (f + 1) n = if n = 0 then .one else if n % 2 = 1 then .o (posF f (n / 2)) else .i (posF f (n / 2 - 1)) := by
  show cnd (Nat.beq n 0) Pos.one (cnd (Nat.beq (Nat.mod n 2) 1) (.o (posF f (Nat.div n 2))) (.i (posF f (Nat.sub (Nat.div n 2) 1)))) = _
  rw [cnd_eq, cnd_eq]
  simp only [Nat.beq_eq]
  rfl
theorem posF_toNat : ∀ (f n : Nat), n < f → (posF f n).toNat = n
  | 0, n, h => by omega
  | f + 1, n, h => by
    rw [posF_succ]
    split
    · rename_i h0; simp only [Pos.toNat]; omega
    · split
      · simp only [Pos.toNat]; rw [posF_toNat f (n / 2) (by omega)]; omega
      · simp only [Pos.toNat]; rw [posF_toNat f (n / 2 - 1) (by omega)]; omega
theorem pos_toNat (n : Nat) : (pos n).toNat = n := posF_toNat (n + 1) n (by omega)
theorem pos_inj {n m : Nat} (h : pos n = pos m) : n = m := by rw [← pos_toNat n, ← pos_toNat m, h]

/-! ### Trees -/
section
variable {α : Type}
theorem get_nil (p : Pos) : (Tr.nil : Tr α).get p = none := by cases p <;> rfl
theorem get_one (v : Option α) (l r : Tr α) : (Tr.node v l r).get .one = v := rfl
theorem get_o (v : Option α) (l r : Tr α) (p : Pos) : (Tr.node v l r).get (.o p) = l.get p := rfl
theorem get_i (v : Option α) (l r : Tr α) (p : Pos) : (Tr.node v l r).get (.i p) = r.get p := rfl
theorem get_setP (v : Option α) (p q : Pos) (t : Tr α) : (Tr.setP v p t).get q = if p = q then v else t.get q := by
  induction p generalizing q t with
  | one => cases t <;> cases q <;> simp [Tr.setP, get_one, get_o, get_i, get_nil]
  | o p ih =>
    cases t with
    | nil =>
      show (Tr.node none (Tr.setP v p .nil) .nil).get q = _
      cases q <;> simp [get_one, get_o, get_i, get_nil, ih]
    | node u l r =>
      show (Tr.node u (Tr.setP v p l) r).get q = _
      cases q <;> simp [get_one, get_o, get_i, ih]
  | i p ih =>
    cases t with
    | nil =>
      show (Tr.node none .nil (Tr.setP v p .nil)).get q = _
      cases q <;> simp [get_one, get_o, get_i, get_nil, ih]
    | node u l r =>
      show (Tr.node u l (Tr.setP v p r)).get q = _
      cases q <;> simp [get_one, get_o, get_i, ih]
theorem get_set (t : Tr α) (p q : Pos) (v : α) : (t.set p v).get q = if p = q then some v else t.get q := get_setP _ _ _ _
theorem get_set_same (t : Tr α) (p : Pos) (v : α) : (t.set p v).get p = some v := by rw [get_set, if_pos rfl]
theorem get_set_ne (t : Tr α) {p q : Pos} (v : α) (h : p ≠ q) : (t.set p v).get q = t.get q := by rw [get_set, if_neg h]
end

/-! ### Lists of cells -/
theorem nth_eq (l : List AV) (i : Nat) : nth l i = l[i]? := by
  induction l generalizing i with
  | nil => rfl
  | cons v l ih =>
    show cnd (Nat.beq i 0) (some v) (nth l (Nat.pred i)) = _
    cases i with
    | zero => rfl
    | succ i => show nth l i = _; rw [ih]; rfl
theorem dropL_eq (l : List AV) (i : Nat) : dropL l i = l.drop i := by
  induction l generalizing i with
  | nil => simp [dropL]
  | cons v l ih =>
    cases i with
    | zero => rfl
    | succ i => show dropL l i = _; rw [ih]; rfl
theorem takeL_eq (l : List AV) (i : Nat) : takeL l i = l.take i := by
  induction l generalizing i with
  | nil => simp [takeL]
  | cons v l ih =>
    cases i with
    | zero => rfl
    | succ i => show v :: takeL l i = _; rw [ih]; rfl
theorem overL_eq (vs l : List AV) (i : Nat) (h : i < l.length) : overL vs l i = l.take i ++ (vs ++ l.drop (i + vs.length)) := by
  induction l generalizing i with
  | nil => simp at h
  | cons v l ih =>
    cases i with
    | zero => show vs ++ dropL (v :: l) vs.length = _; rw [dropL_eq]; simp
    | succ i =>
      show v :: overL vs l i = _
      rw [ih i (by simpa using h), show i + 1 + vs.length = (i + vs.length) + 1 from by omega]
      rfl
theorem overL_end (vs l : List AV) (i : Nat) (h : l.length ≤ i) : overL vs l i = l := by
  induction l generalizing i with
  | nil => rfl
  | cons v l ih =>
    cases i with
    | zero => simp at h
    | succ i => show v :: overL vs l i = _; rw [ih i (by simpa using h)]
theorem ones_eq (l : List AV) : ones l = l.all AV.one := by
  induction l with
  | nil => rfl
  | cons v l ih =>
    show cnd v.one (ones l) false = _
    rw [cnd_eq, ih]
    cases h : v.one <;> simp [h]
theorem getTr_eq (c : Tr AV) : ∀ (n o : Nat) (r : List AV), getTr c n o = some r → r.length = n ∧ ∀ i, i < n → c.get (pos (o + i)) = r[i]?
  | 0, o, r, h => by
    have : r = [] := (Option.some.inj h).symm
    subst this
    exact ⟨rfl, fun i hi => by omega⟩
  | n + 1, o, r, h => by
    have h : obind (c.get (pos o)) (fun v => obind (getTr c n (o + 1)) fun vs => some (v :: vs)) = some r := h
    obtain ⟨v, hv, h⟩ := obind_some.1 h
    obtain ⟨vs, hvs, h⟩ := obind_some.1 h
    have : r = v :: vs := (Option.some.inj h).symm
    subst this
    obtain ⟨hl, hi⟩ := getTr_eq c n (o + 1) vs hvs
    refine ⟨by simp [hl], fun i h => ?_⟩
    cases i with
    | zero => simpa using hv
    | succ i => rw [show o + (i + 1) = o + 1 + i from by omega, hi i (by omega)]; rfl
theorem setTr_get (vs : List AV) : ∀ (c : Tr AV) (o j : Nat), (setTr vs c o).get (pos j) = if o ≤ j ∧ j < o + vs.length then vs[j - o]? else c.get (pos j) := by
  induction vs with
  | nil => intro c o j; simp [setTr]; omega
  | cons v vs ih =>
    intro c o j
    show (setTr vs (c.set (pos o) v) (o + 1)).get (pos j) = _
    rw [ih, get_set]
    by_cases h1 : o + 1 ≤ j ∧ j < o + 1 + vs.length
    · rw [if_pos h1, if_pos (by simp; omega)]
      rw [show j - o = (j - (o + 1)) + 1 from by omega]
      rfl
    · rw [if_neg h1]
      by_cases h2 : j = o
      · subst h2; simp
      · rw [if_neg (fun h => h2 (pos_inj h).symm), if_neg (by simp; omega)]

theorem Cs.get_few (l : List AV) (i : Nat) : (Cs.few l).get i = l[i]? := nth_eq l i
theorem Cs.get_many (t : Tr AV) (i : Nat) : (Cs.many t).get i = t.get (pos i) := rfl
theorem Cs.of_get (vs : List AV) (i : Nat) : (Cs.of vs).get i = vs[i]? := by
  unfold Cs.of
  rw [cnd_eq]
  split
  · exact Cs.get_few vs i
  · rw [Cs.get_many, setTr_get]
    split
    · simp
    · rw [get_nil, List.getElem?_eq_none (by omega)]
/-- What a sub-list is: each of its cells. -/
theorem Cs.sub_spec {c : Cs} {o n len : Nat} {r : List AV} (h : c.sub o n = some r) (hlen : o + n ≤ len) (hc : ∀ i, i < len → (c.get i).isSome) :
    r.length = n ∧ ∀ i, i < n → c.get (o + i) = r[i]? := by
  cases c with
  | many t => exact getTr_eq t n o r h
  | few l =>
    have hr : r = takeL (dropL l o) n := (Option.some.inj h).symm
    rw [takeL_eq, dropL_eq] at hr
    subst hr
    have hl : len ≤ l.length := by
      rcases Nat.lt_or_ge l.length len with hlt | hge
      · have := hc l.length hlt
        rw [Cs.get_few, List.getElem?_eq_none (by omega)] at this
        cases this
      · exact hge
    refine ⟨by simp; omega, fun i hi => ?_⟩
    rw [Cs.get_few]
    simp [hi]
theorem Cs.over_get {c : Cs} {o len : Nat} {vs : List AV} (hlen : o + vs.length ≤ len) (hc : ∀ i, i < len → (c.get i).isSome) (j : Nat) (hj : j < len) :
    (c.over o vs).get j = if o ≤ j ∧ j < o + vs.length then vs[j - o]? else c.get j := by
  cases c with
  | many t => show (setTr vs t o).get (pos j) = _; rw [setTr_get]; rfl
  | few l =>
    have hl : len ≤ l.length := by
      rcases Nat.lt_or_ge l.length len with hlt | hge
      · have := hc l.length hlt
        rw [Cs.get_few, List.getElem?_eq_none (by omega)] at this
        cases this
      · exact hge
    show (Cs.few (overL vs l o)).get j = _
    rw [Cs.get_few, Cs.get_few]
    by_cases ho : o < l.length
    · rw [overL_eq vs l o ho]
      by_cases h1 : j < o
      · rw [if_neg (by omega), List.getElem?_append_left (by simp; omega), List.getElem?_take, if_pos h1]
      · rw [List.getElem?_append_right (by simp; omega)]
        have ht : (l.take o).length = o := by simp; omega
        rw [ht]
        by_cases h2 : j < o + vs.length
        · rw [if_pos (by omega), List.getElem?_append_left (by omega)]
        · rw [if_neg (by omega), List.getElem?_append_right (by omega), List.getElem?_drop]
          congr 1
          omega
    · rw [overL_end vs l o (by omega), if_neg (by omega)]
theorem Cs.grow_get {c : Cs} {n len : Nat} {vs : List AV} (hn : n ≤ len) (hc : ∀ i, i < len → (c.get i).isSome) (j : Nat) (hj : j < n + vs.length) :
    (c.grow n vs).get j = if j < n then c.get j else vs[j - n]? := by
  cases c with
  | many t =>
    show (setTr vs t n).get (pos j) = _
    rw [setTr_get]
    by_cases h : j < n
    · rw [if_neg (by omega), if_pos h]; rfl
    · rw [if_pos (by omega), if_neg h]
  | few l =>
    have hl : len ≤ l.length := by
      rcases Nat.lt_or_ge l.length len with hlt | hge
      · have := hc l.length hlt
        rw [Cs.get_few, List.getElem?_eq_none (by omega)] at this
        cases this
      · exact hge
    show (Cs.of (takeL l n ++ vs)).get j = _
    rw [Cs.of_get, takeL_eq, Cs.get_few]
    have ht : (l.take n).length = n := by simp; omega
    by_cases h : j < n
    · rw [if_pos h, List.getElem?_append_left (by omega), List.getElem?_take, if_pos h]
    · rw [if_neg h, List.getElem?_append_right (by omega), ht]

/-! ### Texts, numbers -/
theorem eqS_eq (a b : List Nat) : eqS a b = (a == b) := by
  induction a generalizing b with
  | nil => cases b <;> rfl
  | cons x a ih =>
    cases b with
    | nil => rfl
    | cons y b =>
      show cnd (Nat.beq x y) (eqS a b) false = _
      rw [cnd_eq, ih]
      by_cases h : x = y
      · subst h; simp
      · have : Nat.beq x y = false := by
          cases hb : Nat.beq x y with
          | false => rfl
          | true => exact absurd (Nat.eq_of_beq_eq_true hb) h
        simp [this, h]
theorem eqI_eq (a b : Int) : eqI a b = (a == b) := by
  cases a with
  | ofNat a => cases b with
    | ofNat b =>
      show Nat.beq a b = _
      rw [Bool.eq_iff_iff]
      simp [Nat.beq_eq]
      omega
    | negSucc b => show false = _; rw [eq_comm, beq_eq_false_iff_ne]; exact fun h => by cases h
  | negSucc a => cases b with
    | ofNat b => show false = _; rw [eq_comm, beq_eq_false_iff_ne]; exact fun h => by cases h
    | negSucc b =>
      show Nat.beq a b = _
      rw [Bool.eq_iff_iff]
      simp [Nat.beq_eq]
theorem ltI_eq (a b : Int) : ltI a b = decide (a < b) := by
  cases a with
  | ofNat a => cases b with
    | ofNat b =>
      show Nat.ble (Nat.succ a) b = _
      rw [Bool.eq_iff_iff, Nat.ble_eq, decide_eq_true_iff]
      simp only [Int.ofNat_eq_natCast]; omega
    | negSucc b => show false = _; rw [eq_comm, decide_eq_false_iff_not]; simp only [Int.ofNat_eq_natCast]; omega
  | negSucc a => cases b with
    | ofNat b => show true = _; rw [eq_comm, decide_eq_true_iff]; simp only [Int.ofNat_eq_natCast]; omega
    | negSucc b =>
      show Nat.ble (Nat.succ b) a = _
      rw [Bool.eq_iff_iff, Nat.ble_eq, decide_eq_true_iff]
      omega
theorem eqK_eq (j k : IntKind) : eqK j k = decide (j = k) := by cases j <;> cases k <;> rfl
theorem wrapA_eq (k : IntKind) (n : Int) : wrapA k n = k.wrap n := by
  cases k <;> try rfl
  cases n with
  | negSucc m => rfl
  | ofNat m =>
    show cnd (Nat.ble m 9223372036854775807) (Int.ofNat m) (IntKind.wrap .i64 (.ofNat m)) = _
    rw [cnd_eq]
    split
    · rename_i h
      have h := Nat.le_of_ble_eq_true h
      exact (IntWalk.i64_in _ (by simp only [Int.ofNat_eq_natCast]; omega)).symm
    · rfl

end Go.Proofs.Vai
