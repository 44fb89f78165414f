/- The verified interpreter, part A. -/
import GoSem.Dispatch
import GoSem.Machine.Exec
/- An executable interpreter for the model's code over an abstract heap. Its definitions are laid so that Lean's kernel runs them fast: recursors in place of compiled recursion, small bodies, closed tables. -/
namespace Go.Proofs.Vai
open Go

/-! ### Words that unfold in one step -/
@[reducible] noncomputable def cnd {α : Type} (b : Bool) (x y : α) : α := @Bool.rec (fun _ => α) y x b
@[reducible] noncomputable def obind {α β : Type} (o : Option α) (f : α → Option β) : Option β := @Option.rec α (fun _ => Option β) none f o
@[reducible] noncomputable def omap {α β : Type} (o : Option α) (f : α → β) : Option β := @Option.rec α (fun _ => Option β) none (fun x => some (f x)) o

/-! ### Numerals and trees -/
/-- Binary numerals, the lowest digit first: the places of a tree. -/
inductive Pos : Type where
  | one
  | o (p : Pos)
  | i (p : Pos)
noncomputable def Pos.succ (p : Pos) : Pos := @Pos.rec (fun _ => Pos) (.o .one) (fun p _ => .i p) (fun _ ih => .o ih) p
/-- The numeral of n + 1. -/
noncomputable def posF (f : Nat) : Nat → Pos :=
  @Nat.rec (fun _ => Nat → Pos) (fun _ => .one) (fun _ ih n => cnd (Nat.beq n 0) .one (cnd (Nat.beq (Nat.mod n 2) 1) (.o (ih (Nat.div n 2))) (.i (ih (Nat.sub (Nat.div n 2) 1))))) f
noncomputable def pos (n : Nat) : Pos := posF (Nat.succ n) n

inductive Tr (α : Type) : Type where
  | nil
  | node (v : Option α) (l r : Tr α)
noncomputable def Tr.get {α : Type} (t : Tr α) (p : Pos) : Option α :=
  @Pos.rec (fun _ => Tr α → Option α) (fun t => @Tr.rec α (fun _ => Option α) none (fun v _ _ _ _ => v) t)
    (fun _ ih t => @Tr.rec α (fun _ => Option α) none (fun _ l _ _ _ => ih l) t)
    (fun _ ih t => @Tr.rec α (fun _ => Option α) none (fun _ _ r _ _ => ih r) t) p t
noncomputable def Tr.setP {α : Type} (v : Option α) (p : Pos) : Tr α → Tr α :=
  @Pos.rec (fun _ => Tr α → Tr α) (fun t => @Tr.rec α (fun _ => Tr α) (.node v .nil .nil) (fun _ l r _ _ => .node v l r) t)
    (fun _ ih t => @Tr.rec α (fun _ => Tr α) (.node none (ih .nil) .nil) (fun u l r _ _ => .node u (ih l) r) t)
    (fun _ ih t => @Tr.rec α (fun _ => Tr α) (.node none .nil (ih .nil)) (fun u l r _ _ => .node u l (ih r)) t) p
noncomputable def Tr.set {α : Type} (t : Tr α) (p : Pos) (v : α) : Tr α := Tr.setP (some v) p t

/-! ### Values, memory -/
inductive AV : Type where
  | bool (b : Bool)
  | int (k : IntKind) (n : Int)
  | float (k : FloatKind) (bits : Nat)
  | str (s : List Nat)
  | ptr (b : Pos) (o : Nat)
  | nilptr
  /-- o: the offset; n: the length; lim: the capacity is the length; wh: at offset 0 the capacity is the whole row. -/
  | slice (b : Pos) (o n : Nat) (lim wh : Bool)
  | nilslice
  | map (b : Pos)
  | nilmap
  | func (f : FuncId) (first cap : List AV)
  | yield (b : Pos)
  | nilfunc
  | iface (t : TypeId) (v : AV)
  | niliface
  | agg (cs : List AV)
  | tuple (vs : List AV)
  | bad
  /-- The unknown value number i: of one cell. -/
  | sym (i : Nat)

def AV.undef : AV := .tuple []
def AV.cells : AV → List AV
  | .agg cs => cs
  | v => [v]
/-- Is it a value of one cell? -/
def AV.one : AV → Bool
  | .agg _ => false
  | .tuple _ => false
  | .bad => false
  | _ => true
noncomputable def ones (l : List AV) : Bool := @List.rec AV (fun _ => Bool) true (fun v _ ih => cnd v.one ih false) l

inductive ATarget : Type where
  | fn (f : FuncId) (cap : List AV)
  | collected (b : Pos)
structure ADef where
  target : ATarget
  args : List AV

/-- A chain of panics: value, recovered. -/
abbrev AChain := List (AV × Bool)
inductive AMode where
  | returning
  | panicking (c : AChain)
inductive AExit where
  | normal
  | exit (id : Nat)
  | ret
  | panic (c : AChain)
structure AAct where
  tm : Tr AV
  n : Nat
  defers : List ADef
  rc : Option AMode
structure ALoop where
  state : LoopState
  pending : Option Code
  tm : Tr AV
  n : Nat
  params : List Tmp
  assign : Code
  body : Code
  defers : Pos

/-- The cells of a block: a list; a tree, if there are many. -/
inductive Cs where
  | few (l : List AV)
  | many (t : Tr AV)
inductive ABlk where
  | cells (own : Bool) (elem : TypeId) (len : Nat) (c : Cs)
  | map (es : List (AV × AV))
  | siter (s : List Nat) (pos : Nat)
  | loop (l : ALoop)
  | deferred (ds : Bool)
  | dead
  /-- An iterator over a map, of which it has seen nothing. -/
  | mit (m : Option Pos)
  /-- Just this object of the machine's (in proofs alone). -/
  | frozen (o : Obj)
structure St where
  h : Tr ABlk
  n : Pos

noncomputable def St.push (s : St) (b : ABlk) : St := @St.rec (fun _ => St) (fun h n => .mk (h.set n b) n.succ) s
noncomputable def St.put (s : St) (i : Pos) (b : ABlk) : St := @St.rec (fun _ => St) (fun h n => .mk (h.set i b) n) s

mutual
def toAV : Value → Option AV
  | .bool b => some (.bool b)
  | .int k n => some (.int k n)
  | .float k b => some (.float k b)
  | .string s => some (.str (s.data.toList.map (·.toNat)))
  | .pointer none => some .nilptr
  | .slice none 0 0 => some .nilslice
  | .map none => some .nilmap
  | .nilFunc => some .nilfunc
  | .nilIface => some .niliface
  | .agg cs => match toAVs cs.toList with
    | some l => cond (l.all AV.one) (some (.agg l)) none
    | none => none
  | .tuple cs => match toAVs cs.toList with
    | some l => some (.tuple l)
    | none => none
  | _ => none
def toAVs : List Value → Option (List AV)
  | [] => some []
  | v :: vs => match toAV v with
    | some a => match toAVs vs with
      | some as => some (a :: as)
      | none => none
    | none => none
end

noncomputable def orUndef (v : Option AV) : AV := @Option.rec AV (fun _ => AV) .undef (fun v => v) v
noncomputable def AAct.tmp (a : AAct) (t : Tmp) : AV := orUndef (a.tm.get (pos t))
noncomputable def AAct.eval (a : AAct) (P : Program) (x : Operand) : Option AV :=
  @Operand.rec (fun _ => Option AV) (fun t => some (a.tmp t)) (fun v => toAV v) (fun g => cnd (Nat.ble (Nat.succ g) P.globals.size) (some (.ptr (pos g) 0)) none) (fun f => some (.func f [] [])) x
noncomputable def AAct.put (a : AAct) (d : Option Tmp) (v : AV) : Option AAct :=
  @Option.rec Tmp (fun _ => Option AAct) (some a) (fun d => @AAct.rec (fun _ => Option AAct) (fun tm n df rc => cnd (Nat.ble (Nat.succ d) n) (some (.mk (tm.set (pos d) v) n df rc)) none) a) d
noncomputable def AAct.setRc (a : AAct) (rc : Option AMode) : AAct := @AAct.rec (fun _ => AAct) (fun tm n df _ => .mk tm n df rc) a
noncomputable def AAct.setDefers (a : AAct) (ds : List ADef) : AAct := @AAct.rec (fun _ => AAct) (fun tm n _ rc => .mk tm n ds rc) a
noncomputable def evals (P : Program) (a : AAct) (l : List Operand) : Option (List AV) :=
  @List.rec Operand (fun _ => Option (List AV)) (some []) (fun x _ ih => obind (a.eval P x) fun v => obind ih fun vs => some (v :: vs)) l

def u8s (l : List Nat) : List AV := l.map fun (c : Nat) => .int .u8 (Int.ofNat c)
def u8ns : List AV → Option (List Nat)
  | [] => some []
  | .int .u8 (.ofNat c) :: vs => cond (Nat.ble c 255) (match u8ns vs with
    | some l => some (c :: l)
    | none => none) none
  | _ => none

/-! ### Cells -/
noncomputable def nth (l : List AV) : Nat → Option AV :=
  @List.rec AV (fun _ => Nat → Option AV) (fun _ => none) (fun v _ ih i => cnd (Nat.beq i 0) (some v) (ih (Nat.pred i))) l
noncomputable def dropL (l : List AV) : Nat → List AV :=
  @List.rec AV (fun _ => Nat → List AV) (fun _ => []) (fun v l ih i => cnd (Nat.beq i 0) (v :: l) (ih (Nat.pred i))) l
noncomputable def takeL (l : List AV) : Nat → List AV :=
  @List.rec AV (fun _ => Nat → List AV) (fun _ => []) (fun v _ ih i => cnd (Nat.beq i 0) [] (v :: ih (Nat.pred i))) l
/-- vs written over l, from i on. -/
noncomputable def overL (vs l : List AV) : Nat → List AV :=
  @List.rec AV (fun _ => Nat → List AV) (fun _ => []) (fun v l ih i => cnd (Nat.beq i 0) (vs ++ dropL (v :: l) vs.length) (v :: ih (Nat.pred i))) l
noncomputable def getTr (c : Tr AV) (n : Nat) : Nat → Option (List AV) :=
  @Nat.rec (fun _ => Nat → Option (List AV)) (fun _ => some []) (fun _ ih o => obind (c.get (pos o)) fun v => obind (ih (Nat.succ o)) fun vs => some (v :: vs)) n
noncomputable def setTr (l : List AV) : Tr AV → Nat → Tr AV :=
  @List.rec AV (fun _ => Tr AV → Nat → Tr AV) (fun c _ => c) (fun v _ ih c o => ih (c.set (pos o) v) (Nat.succ o)) l
noncomputable def Cs.get (c : Cs) (i : Nat) : Option AV := @Cs.rec (fun _ => Option AV) (fun l => nth l i) (fun t => t.get (pos i)) c
/-- n cells from o on. -/
noncomputable def Cs.sub (c : Cs) (o n : Nat) : Option (List AV) := @Cs.rec (fun _ => Option (List AV)) (fun l => some (takeL (dropL l o) n)) (fun t => getTr t n o) c
noncomputable def Cs.over (c : Cs) (o : Nat) (vs : List AV) : Cs := @Cs.rec (fun _ => Cs) (fun l => .few (overL vs l o)) (fun t => .many (setTr vs t o)) c
noncomputable def Cs.of (vs : List AV) : Cs := cnd (Nat.ble vs.length 32) (.few vs) (.many (setTr vs .nil 0))
/-- The first n, and vs behind them. -/
noncomputable def Cs.grow (c : Cs) (n : Nat) (vs : List AV) : Cs := @Cs.rec (fun _ => Cs) (fun l => .of (takeL l n ++ vs)) (fun t => .many (setTr vs t n)) c

noncomputable def blkCells (o n : Nat) (b : ABlk) : Option (List AV) :=
  @ABlk.rec (fun _ => Option (List AV)) (fun _ _ len c => cnd (Nat.ble (Nat.add o n) len) (c.sub o n) none) (fun _ => none) (fun _ _ => none) (fun _ => none) (fun _ => none) none (fun _ => none) (fun _ => none) b
noncomputable def St.cells (s : St) (b : Pos) (o n : Nat) : Option (List AV) := obind (s.h.get b) (blkCells o n)
noncomputable def blkStore (s : St) (b : Pos) (o : Nat) (vs : List AV) (k : ABlk) : Option St :=
  @ABlk.rec (fun _ => Option St) (fun own e len c => cnd own (cnd (Nat.ble (Nat.add o vs.length) len) (some (s.put b (.cells true e len (c.over o vs)))) none) none) (fun _ => none) (fun _ _ => none) (fun _ => none) (fun _ => none) none (fun _ => none) (fun _ => none) k
noncomputable def St.store (s : St) (b : Pos) (o : Nat) (vs : List AV) : Option St := cnd (ones vs) (obind (s.h.get b) (blkStore s b o vs)) none
noncomputable def St.row (s : St) (e : TypeId) (vs : List AV) : St := s.push (.cells true e vs.length (.of vs))

/-! ### Types -/
def isAggD : TypeDesc → Bool
  | .struct _ => true
  | .array _ _ => true
  | _ => false
def aggT (P : Program) (t : TypeId) : Option Bool := (P.underlying t).map isAggD
def sizeT (P : Program) (t : TypeId) : Option Nat := (P.info? t).map (·.size)
def bytesT (P : Program) (t : TypeId) : Option Nat := (P.info? t).map (·.bytes)
def zeroT (P : Program) (t : TypeId) : Option AV := (P.info? t).bind fun i => i.zero.bind toAV
def elemT (P : Program) (t : TypeId) : Option TypeId :=
  match P.underlying t with
  | some (.slice e) => some e
  | _ => none
def fieldT (P : Program) (t : TypeId) (f : Nat) : Option Field :=
  match P.underlying t with
  | some (.struct fs) => fs[f]?
  | _ => none
def mapT (P : Program) (t : TypeId) : Option (TypeId × TypeId) :=
  match P.underlying t with
  | some (.map k e) => some (k, e)
  | _ => none
def isU8T (P : Program) (e : TypeId) : Bool :=
  match P.underlying e with
  | some (.int .u8) => true
  | _ => false
def isStrT (P : Program) (t : TypeId) : Bool :=
  match P.underlying t with
  | some .string => true
  | _ => false
def isIfaceT (P : Program) (t : TypeId) : Bool :=
  match P.underlying t with
  | some (.interface _) => true
  | none => true
  | _ => false

noncomputable def loadAgg (P : Program) (s : St) (t : TypeId) (b : Pos) (o : Nat) : Option AV := obind (sizeT P t) fun n => omap (s.cells b o n) .agg
noncomputable def loadOne (o : Nat) (b : ABlk) : Option AV :=
  @ABlk.rec (fun _ => Option AV) (fun _ _ len c => cnd (Nat.ble (Nat.succ o) len) (c.get o) none) (fun _ => none) (fun _ _ => none) (fun _ => none) (fun _ => none) none (fun _ => none) (fun _ => none) b
noncomputable def St.load (P : Program) (s : St) (t : TypeId) (b : Pos) (o : Nat) : Option AV :=
  obind (aggT P t) fun g => cnd g (loadAgg P s t b o) (obind (s.h.get b) (loadOne o))
noncomputable def partA (P : Program) (t : TypeId) (cs : List AV) (off : Nat) : Option AV :=
  obind (aggT P t) fun g => cnd g (obind (sizeT P t) fun n => cnd (Nat.ble (Nat.add off n) cs.length) (some (.agg (takeL (dropL cs off) n))) none) (nth cs off)

/-! ### Operations -/
inductive ARes where
  | val (v : AV) (s : St)
  | skip (s : St)
  | enter (f : FuncId) (args : List AV) (s : St)
  | round (l : Pos) (args : List AV) (s : St)
  | defer (d : ADef) (s : St)
  | recover (s : St)
  | panic (v : AV) (s : St)

noncomputable def lessA (l : List Nat) : List Nat → Bool :=
  @List.rec Nat (fun _ => List Nat → Bool) (fun m => @List.rec Nat (fun _ => Bool) false (fun _ _ _ => true) m)
    (fun a _ ih m => @List.rec Nat (fun _ => Bool) false (fun b y _ => cnd (Nat.ble (Nat.succ a) b) true (cnd (Nat.beq a b) (ih y) false)) m) l
noncomputable def eqS (l : List Nat) : List Nat → Bool :=
  @List.rec Nat (fun _ => List Nat → Bool) (fun m => @List.rec Nat (fun _ => Bool) true (fun _ _ _ => false) m)
    (fun a _ ih m => @List.rec Nat (fun _ => Bool) false (fun b y _ => cnd (Nat.beq a b) (ih y) false) m) l
noncomputable def eqI (a b : Int) : Bool :=
  @Int.rec (fun _ => Bool) (fun a => @Int.rec (fun _ => Bool) (fun b => Nat.beq a b) (fun _ => false) b) (fun a => @Int.rec (fun _ => Bool) (fun _ => false) (fun b => Nat.beq a b) b) a
noncomputable def ltI (a b : Int) : Bool :=
  @Int.rec (fun _ => Bool) (fun a => @Int.rec (fun _ => Bool) (fun b => Nat.ble (Nat.succ a) b) (fun _ => false) b) (fun a => @Int.rec (fun _ => Bool) (fun _ => true) (fun b => Nat.ble (Nat.succ b) a) b) a
def eqK : IntKind → IntKind → Bool
  | .i64, .i64 => true
  | .u8, .u8 => true
  | j, k => decide (j = k)
noncomputable def wrapA (k : IntKind) (n : Int) : Int :=
  @IntKind.rec (fun _ => Int) (IntKind.wrap .i8 n) (IntKind.wrap .i16 n) (IntKind.wrap .i32 n)
    (@Int.rec (fun _ => Int) (fun m => cnd (Nat.ble m 9223372036854775807) (.ofNat m) (IntKind.wrap .i64 (.ofNat m))) (fun m => IntKind.wrap .i64 (.negSucc m)) n)
    (IntKind.wrap .u8 n) (IntKind.wrap .u16 n) (IntKind.wrap .u32 n) (IntKind.wrap .u64 n) k

/-- Kinds of types, as numbers. -/
def kindT (P : Program) (t : TypeId) : Nat :=
  match P.underlying t with
  | some .bool => 0
  | some (.pointer _) => 1
  | some (.slice _) => 2
  | some (.map _ _) => 3
  | some (.func _ _ _) => 4
  | some (.interface _) => 5
  | some (.struct _) => 6
  | some (.int _) => 7
  | some .string => 8
  | _ => 9
/-- A struct's fields, all of which count. -/
def plainFields (P : Program) (t : TypeId) : Option (List (TypeId × Nat)) :=
  match P.underlying t with
  | some (.struct fs) => bif P.stoodInHeld t || fs.toList.any (fun f => f.name == "_") then none else some (fs.toList.map fun f => (f.type, f.offset))
  | _ => none
def isK (P : Program) (t : TypeId) (k : Nat) : Bool := Nat.beq (kindT P t) k
noncomputable def onK (P : Program) (t : TypeId) (k : Nat) (b : Bool) : Option Bool := cnd (isK P t k) (some b) none
/-- Two values' parts, field by field; r says what of two parts of a type. -/
noncomputable def eqFs (P : Program) (r : TypeId → AV → AV → Option Bool) (xs ys : List AV) (fs : List (TypeId × Nat)) : Option Bool :=
  @List.rec (TypeId × Nat) (fun _ => Option Bool) (some true) (fun f _ ih => obind (partA P f.1 xs f.2) fun x => obind (partA P f.1 ys f.2) fun y => obind (r f.1 x y) fun b => cnd b ih (some false)) fs
noncomputable def eqP (p : Pos) : Pos → Bool :=
  @Pos.rec (fun _ => Pos → Bool) (fun q => @Pos.rec (fun _ => Bool) true (fun _ _ => false) (fun _ _ => false) q)
    (fun _ ih q => @Pos.rec (fun _ => Bool) false (fun q _ => ih q) (fun _ _ => false) q) (fun _ ih q => @Pos.rec (fun _ => Bool) false (fun _ _ => false) (fun q _ => ih q) q) p
/-- A pointer and itself. -/
def ptrEq (P : Program) (t : TypeId) : Option Bool :=
  match P.underlying t with
  | some (.pointer e) => (match sizeT P e with
    | some _ => some true
    | none => none)
  | _ => none
/-- Is '==' of two values of a type? -/
noncomputable def eqB (P : Program) (r : TypeId → AV → AV → Option Bool) (t : TypeId) (x y : AV) : Option Bool :=
  match x with
  | .int j a => (match y with | .int k b => cnd (eqK j k) (onK P t 7 (eqI a b)) none | _ => none)
  | .str a => (match y with | .str b => onK P t 8 (eqS a b) | _ => none)
  | .bool a => (match y with | .bool b => onK P t 0 (a == b) | _ => none)
  | .agg xs => (match y with | .agg ys => obind (plainFields P t) (eqFs P r xs ys) | _ => none)
  | .nilptr => (match y with | .nilptr => onK P t 1 true | .ptr _ _ => onK P t 1 false | _ => none)
  | .ptr b o => (match y with | .nilptr => onK P t 1 false | .ptr c p => cnd (eqP b c && Nat.beq o p) (ptrEq P t) none | _ => none)
  | .nilslice => (match y with | .nilslice => onK P t 2 true | .slice .. => onK P t 2 false | _ => none)
  | .slice .. => (match y with | .nilslice => onK P t 2 false | _ => none)
  | .nilmap => (match y with | .nilmap => onK P t 3 true | .map _ => onK P t 3 false | _ => none)
  | .map _ => (match y with | .nilmap => onK P t 3 false | _ => none)
  | .nilfunc => (match y with | .nilfunc => onK P t 4 true | .func .. => onK P t 4 false | .yield _ => onK P t 4 false | _ => none)
  | .func .. => (match y with | .nilfunc => onK P t 4 false | _ => none)
  | .yield _ => (match y with | .nilfunc => onK P t 4 false | _ => none)
  | .niliface => (match y with | .iface .. => onK P t 5 false | .niliface => onK P t 5 true | _ => none)
  | .iface .. => (match y with | .niliface => onK P t 5 false | _ => none)
  | _ => none
noncomputable def eqAt (P : Program) (n : Nat) : TypeId → AV → AV → Option Bool :=
  @Nat.rec (fun _ => TypeId → AV → AV → Option Bool) (fun _ _ _ => none) (fun _ ih t x y => eqB P ih t x y) n
def isNilI : AV → Bool
  | .niliface => true
  | _ => false
def isAggA : AV → Bool
  | .agg _ => true
  | _ => false
/-- '==' of an operation; c: one of its operands is a constant. -/
noncomputable def eqT (P : Program) (c : Bool) (t : TypeId) (x y : AV) : Option Bool :=
  cnd (isNilI x && isNilI y) (cnd c (onK P t 5 true) none) (cnd (isAggA x) (cnd (P.eqGuardType P.depth t) none (eqAt P 8 t x y)) (eqAt P 8 t x y))
/-- The same ints, texts, bools, or rows of these? -/
noncomputable def sameC (x y : AV) : Bool :=
  match x with
  | .int j a => (match y with | .int k b => eqK j k && eqI a b | _ => false)
  | .str a => (match y with | .str b => eqS a b | _ => false)
  | .bool a => (match y with | .bool b => a == b | _ => false)
  | _ => false
noncomputable def sameCs (xs : List AV) : List AV → Bool :=
  @List.rec AV (fun _ => List AV → Bool) (fun ys => @List.rec AV (fun _ => Bool) true (fun _ _ _ => false) ys)
    (fun x _ ih ys => @List.rec AV (fun _ => Bool) false (fun y ys _ => cnd (sameC x y) (ih ys) false) ys) xs
noncomputable def sameA (x y : AV) : Bool :=
  match x with
  | .agg xs => (match y with | .agg ys => sameCs xs ys | _ => false)
  | x => sameC x y
/-- Of keys of maps: the same to the bit, or unlike. -/
noncomputable def eqV (P : Program) (t : TypeId) (x y : AV) : Option Bool := obind (eqAt P 8 t x y) fun b => cnd b (cnd (sameA x y) (some true) none) (some false)
noncomputable def chkFs (P : Program) (r : TypeId → AV → Bool) (xs : List AV) (fs : List (TypeId × Nat)) : Bool :=
  @List.rec (TypeId × Nat) (fun _ => Bool) true (fun f _ ih => @Option.rec AV (fun _ => Bool) false (fun x => cnd (r f.1 x) ih false) (partA P f.1 xs f.2)) fs
noncomputable def chkB (P : Program) (r : TypeId → AV → Bool) (t : TypeId) (x : AV) : Bool :=
  match x with
  | .int _ _ => isK P t 7
  | .str _ => isK P t 8
  | .bool _ => isK P t 0
  | .agg xs => @Option.rec (List (TypeId × Nat)) (fun _ => Bool) false (fun fs => chkFs P r xs fs) (plainFields P t)
  | _ => false
/-- May a value be a map's key? -/
noncomputable def chkAt (P : Program) (n : Nat) : TypeId → AV → Bool := @Nat.rec (fun _ => TypeId → AV → Bool) (fun _ _ => false) (fun _ ih t x => chkB P ih t x) n

noncomputable def shA (k : IntKind) (a : Int) (n : Nat) (s : St) : BinOp → Option ARes
  | .shl => some (.val (.int k (k.wrap (a * 2 ^ n))) s)
  | .shr => some (.val (.int k (a.fdiv (2 ^ n))) s)
  | _ => none
noncomputable def quoA (k : IntKind) (a b : Int) (s : St) : Option ARes := cnd (eqI b 0) none (some (.val (.int k (k.wrap (a.tdiv b))) s))
noncomputable def remA (k : IntKind) (a b : Int) (s : St) : Option ARes := cnd (eqI b 0) none (some (.val (.int k (a.tmod b)) s))
def andA (k : IntKind) (a b : Int) : Int := k.wrap ((BitVec.ofInt k.bits a &&& BitVec.ofInt k.bits b).toNat)
def orA (k : IntKind) (a b : Int) : Int := k.wrap ((BitVec.ofInt k.bits a ||| BitVec.ofInt k.bits b).toNat)
def xorA (k : IntKind) (a b : Int) : Int := k.wrap ((BitVec.ofInt k.bits a ^^^ BitVec.ofInt k.bits b).toNat)
noncomputable def intOpA : BinOp → IntKind → Int → Int → St → Option ARes
  | .add => fun k a b s => some (.val (.int k (wrapA k (Int.add a b))) s)
  | .sub => fun k a b s => some (.val (.int k (wrapA k (Int.sub a b))) s)
  | .mul => fun k a b s => some (.val (.int k (wrapA k (Int.mul a b))) s)
  | .quo => quoA
  | .rem => remA
  | .and => fun k a b s => some (.val (.int k (andA k a b)) s)
  | .or => fun k a b s => some (.val (.int k (orA k a b)) s)
  | .xor => fun k a b s => some (.val (.int k (xorA k a b)) s)
  | .eql => fun _ a b s => some (.val (.bool (eqI a b)) s)
  | .neq => fun _ a b s => some (.val (.bool (!eqI a b)) s)
  | .lss => fun _ a b s => some (.val (.bool (ltI a b)) s)
  | .leq => fun _ a b s => some (.val (.bool (!ltI b a)) s)
  | .gtr => fun _ a b s => some (.val (.bool (ltI b a)) s)
  | .geq => fun _ a b s => some (.val (.bool (!ltI a b)) s)
  | _ => fun _ _ _ _ => none
noncomputable def floatOpA : BinOp → FloatKind → Nat → Nat → St → Option ARes
  | .add => fun k a b s => omap (k.format.add a b) fun r => .val (.float k r) s
  | .sub => fun k a b s => omap (k.format.sub a b) fun r => .val (.float k r) s
  | .mul => fun k a b s => omap (k.format.mul a b) fun r => .val (.float k r) s
  | .quo => fun k a b s => omap (k.format.div a b) fun r => .val (.float k r) s
  | .eql => fun k a b s => some (.val (.bool (k.format.order a b == some .eq)) s)
  | .neq => fun k a b s => some (.val (.bool (k.format.order a b != some .eq)) s)
  | .lss => fun k a b s => some (.val (.bool (k.format.order a b == some .lt)) s)
  | .leq => fun k a b s => some (.val (.bool (k.format.order a b == some .lt || k.format.order a b == some .eq)) s)
  | .gtr => fun k a b s => some (.val (.bool (k.format.order a b == some .gt)) s)
  | .geq => fun k a b s => some (.val (.bool (k.format.order a b == some .gt || k.format.order a b == some .eq)) s)
  | _ => fun _ _ _ _ => none
noncomputable def strOpA : BinOp → List Nat → List Nat → St → Option ARes
  | .add => fun a b s => cnd (Nat.ble (Nat.add a.length b.length) 9223372036854775807) (some (.val (.str (a ++ b)) s)) none
  | .eql => fun a b s => some (.val (.bool (eqS a b)) s)
  | .neq => fun a b s => some (.val (.bool (!eqS a b)) s)
  | .lss => fun a b s => some (.val (.bool (lessA a b)) s)
  | .leq => fun a b s => some (.val (.bool (lessA a b || eqS a b)) s)
  | .gtr => fun a b s => some (.val (.bool (!(lessA a b || eqS a b))) s)
  | .geq => fun a b s => some (.val (.bool (!lessA a b)) s)
  | _ => fun _ _ _ => none
noncomputable def eqOpA (P : Program) (c : Bool) (t : TypeId) : BinOp → AV → AV → St → Option ARes
  | .eql => fun x y s => omap (eqT P c t x y) fun b => .val (.bool b) s
  | .neq => fun x y s => omap (eqT P c t x y) fun b => .val (.bool (!b)) s
  | _ => fun _ _ _ => none
noncomputable def shOpA (op : BinOp) (k : IntKind) (a b : Int) (s : St) : Option ARes :=
  match b with
  | .ofNat n => shA k a (min n k.bits) s op
  | _ => none
def isSh : BinOp → Bool
  | .shl => true
  | .shr => true
  | _ => false
/-- What an unknown value's number says of it. 1: a whole number of at most 0; 2: of 1 or more; 3, 4: a text of at most 500 bytes, of more, whose length is the unknown value two further; 5, 6: such a length. -/
noncomputable def symLt (i : Nat) (a : Int) : Option Bool :=
  match i % 8 with
  | 1 => cnd (decide (0 ≤ a)) (some false) none
  | 2 => cnd (decide (a ≤ 0)) (some true) none
  | 5 => cnd (decide (500 ≤ a)) (some false) none
  | 6 => cnd (decide (a ≤ 500)) (some true) none
  | _ => none
/-- a < v, for an unknown v. -/
noncomputable def symLss (op : BinOp) (k : IntKind) (a : Int) (i : Nat) (s : St) : Option ARes :=
  match op with
  | .lss => cnd (decide (k = .i64)) (omap (symLt i a) fun b => .val (.bool b) s) none
  | _ => none
/-- v > a, for an unknown v. -/
noncomputable def symGtr (op : BinOp) (k : IntKind) (a : Int) (i : Nat) (s : St) : Option ARes :=
  match op with
  | .gtr => cnd (decide (k = .i64)) (omap (symLt i a) fun b => .val (.bool b) s) none
  | _ => none
noncomputable def binA (P : Program) (c : Bool) (op : BinOp) (t : TypeId) (s : St) (x y : AV) : Option ARes :=
  match x with
  | .int k a => (match y with
    | .int k' b => cnd (isSh op) (shOpA op k a b s) (cnd (eqK k k') (intOpA op k a b s) none)
    | .sym i => symLss op k a i s
    | _ => none)
  | .float k a => (match y with
    | .float k' b => cnd (decide (k = k')) (floatOpA op k a b s) none
    | _ => none)
  | .str a => (match y with
    | .str b => strOpA op a b s
    | _ => none)
  | .sym i => (match y with
    | .int k b => symGtr op k b i s
    | _ => none)
  | x => eqOpA P c t op x y s

def unA (op : UnOp) (x : AV) : Option AV :=
  match op, x with
  | .neg, .int k n => some (.int k (k.wrap (0 - n)))
  | .xor, .int k n => some (.int k (xorA k (if k.signed then -1 else k.max) n))
  | .not, .bool b => some (.bool !b)
  | .neg, .float k b => some (.float k (Op.negFloat k b))
  | _, _ => none

noncomputable def convStr (P : Program) (e : TypeId) (l : List Nat) (s : St) : Option ARes :=
  cnd (isU8T P e) (cnd (Nat.ble l.length 1000000) (some (.val (.slice s.n 0 l.length false true) (s.push (.cells false e l.length (.of (u8s l)))))) none) none
noncomputable def convBytes (P : Program) (e : TypeId) (x : AV) (s : St) : Option ARes :=
  cnd (isU8T P e) (match x with
    | .slice b o n _ _ => obind (s.cells b o n) fun cs => omap (u8ns cs) fun l => .val (.str l) s
    | .nilslice => some (.val (.str []) s)
    | _ => none) none
/-- A row of bytes that is seen as a text's from here on: it is written no more. -/
noncomputable def convMark (P : Program) (src dst e : TypeId) (b : Pos) (n : Nat) (s : St) : ABlk → Option ARes
  | .cells own t len c => cnd (own && Nat.beq src dst && isU8T P e && isU8T P t && Nat.ble n len) (some (.val (.slice s.n 0 n false false) ((s.put b .dead).push (.cells false t len c)))) none
  | _ => none
noncomputable def convSl (P : Program) (src dst e : TypeId) (s : St) : AV → Option ARes
  | .str l => convStr P e l s
  | .slice b 0 n _ _ => obind (s.h.get b) (convMark P src dst e b n s)
  | _ => none
/-- Does a variable of this type, of z cells, begin at the row's first cell? -/
def rowOf (t : TypeId) (z : Nat) : ABlk → Bool
  | .cells own u len _ => own && Nat.beq t u && Nat.ble 1 z && Nat.ble z len
  | _ => false
noncomputable def convPtr (P : Program) (t : TypeId) (s : St) : AV → Option ARes
  | .nilptr => some (.val .nilptr s)
  | .ptr b 0 => obind (s.h.get b) fun k => obind (sizeT P t) fun z => cnd (rowOf t z k) (some (.val (.ptr b 0) s)) none
  | _ => none
noncomputable def convA (P : Program) (src dst : TypeId) (x : AV) (s : St) : Option ARes :=
  obind (P.underlying src) fun us => obind (P.underlying dst) fun ud =>
  match ud with
  | .int k => (match x with | .int _ n => some (.val (.int k (wrapA k n)) s) | _ => none)
  | .float k => (match x with | .int _ n => some (.val (.float k (k.nearest n)) s) | .float k' b => cnd (decide (k = k')) (some (.val (.float k b) s)) none | _ => none)
  | .string => (match x with
    | .str l => some (.val (.str l) s)
    | .int _ (.ofNat n) => cnd (Nat.ble n 127) (some (.val (.str [n]) s)) none
    | x => obind (elemT P src) fun e => convBytes P e x s)
  | .slice e => convSl P src dst e s x
  | .unsafePointer => (match us with | .pointer t => convPtr P t s x | _ => none)
  | .pointer t => (match us with | .unsafePointer => convPtr P t s x | _ => none)
  | _ => none

noncomputable def fillA (place : Nat → Option (Nat × Nat)) (cells : List AV) : List (Nat × AV) → Option (List AV)
  | [] => some cells
  | (i, v) :: rest =>
    obind (place i) fun p =>
      cnd (Nat.beq v.cells.length p.2 && Nat.ble (Nat.add p.1 p.2) cells.length && ones v.cells) (fillA place (takeL cells p.1 ++ (v.cells ++ dropL cells (Nat.add p.1 p.2))) rest) none

/-- Where a value's parts lie. -/
def placesT (P : Program) (fs : Array Field) : Option (List (Nat × Nat)) := fs.toList.mapM fun f => (P.info? f.type).map fun i => (f.offset, i.size)
/-- The parts' sizes, if they stand one behind the other and are the whole. -/
def planL (place : Nat → Option (Nat × Nat)) : List Nat → Nat → Nat → Option (List Nat)
  | [], at_, n => cond (Nat.beq at_ n) (some []) none
  | i :: is, at_, n => match place i with
    | some p => cond (Nat.beq p.1 at_) (match planL place is (at_ + p.2) n with | some r => some (p.2 :: r) | none => none) none
    | none => none
def planT (P : Program) (t : TypeId) (is : List Nat) : Option (List Nat) :=
  match P.info? t with
  | some it => match it.zero with
    | some z => match P.underlying t with
      | some (.struct fs) => match placesT P fs with
        | some ps => planL (ps.toArray[·]?) is 0 z.cells.size
        | none => none
      | some (.array _ e) => match P.info? e with
        | some ie => planL (fun i => some (i * ie.size, ie.size)) is 0 z.cells.size
        | none => none
      | _ => none
    | none => none
  | none => none
noncomputable def addPart (z : Nat) (r : List AV) (v : AV) : Option (List AV) :=
  match v with
  | .agg cs => cnd (Nat.beq cs.length z) (some (cs ++ r)) none
  | .tuple _ => none
  | .bad => none
  | v => cnd (Nat.beq z 1) (some (v :: r)) none
noncomputable def joinA (zs : List Nat) : List AV → Option (List AV) :=
  @List.rec Nat (fun _ => List AV → Option (List AV)) (fun vs => @List.rec AV (fun _ => Option (List AV)) (some []) (fun _ _ _ => none) vs)
    (fun z _ ih vs => @List.rec AV (fun _ => Option (List AV)) none (fun v vs _ => obind (ih vs) fun r => addPart z r v) vs) zs
noncomputable def buildG (P : Program) (t : TypeId) (parts : List (Nat × AV)) : Option (List AV) :=
  obind (zeroT P t) fun z => cnd (ones z.cells) (match P.underlying t with
  | some (.struct fs) => obind (placesT P fs) fun ps => fillA (ps.toArray[·]?) z.cells parts
  | some (.array _ e) => obind (sizeT P e) fun n => fillA (fun i => some (i * n, n)) z.cells parts
  | _ => none) none
noncomputable def buildA (P : Program) (t : TypeId) (is : List Nat) (vs : List AV) : Option AV :=
  omap (@Option.rec (List Nat) (fun _ => Option (List AV)) (buildG P t (is.zip vs)) (fun zs => joinA zs vs) (planT P t is)) .agg

def repl (z : List AV) : Nat → List AV
  | 0 => []
  | n + 1 => z ++ repl z n
def planS (P : Program) (e : TypeId) (n : Nat) (is : List Nat) : Option (List Nat) :=
  match P.info? e with
  | some ie => cond (ie.zero.isSome && Nat.ble n 16777216 && Nat.ble (n * ie.size) 16777216) (planL (fun i => some (i * ie.size, ie.size)) is 0 (n * ie.size)) none
  | none => none
noncomputable def buildSliceA (P : Program) (t : TypeId) (len : Nat) (is : List Nat) (vs : List AV) (s : St) : Option ARes :=
  obind (elemT P t) fun e => obind (planS P e len is) fun zs => omap (joinA zs vs) fun cs => .val (.slice s.n 0 len true true) (s.row e cs)

noncomputable def natA : AV → Option Nat
  | .int .i64 (.ofNat n) => some n
  | _ => none
noncomputable def natOr (d : Nat) (v : Option AV) : Option Nat := @Option.rec AV (fun _ => Option Nat) (some d) (fun v => natA v) v

noncomputable def sliceS (l : List Nat) (lo hi : Nat) (s : St) : Option ARes := cnd (Nat.ble lo hi && Nat.ble hi l.length) (some (.val (.str ((l.take hi).drop lo)) s)) none
noncomputable def sliceV (z lo : Nat) (high max : Option AV) (s : St) : AV → Option ARes
  | .slice b o n lim wh => obind (natOr n high) fun hi => obind (natOr hi max) fun m =>
      cnd (Nat.ble lo hi && Nat.ble hi n && Nat.beq m hi && (high.isSome || max.isNone)) (some (.val (.slice b (Nat.add o (Nat.mul lo z)) (Nat.sub hi lo) (max.isSome || (lim && Nat.beq hi n)) (wh && Nat.beq lo 0 && (max.isNone || (lim && Nat.beq hi n)))) s)) none
  | .nilslice => obind (natOr 0 high) fun hi => obind (natOr hi max) fun m => cnd (Nat.beq lo 0 && Nat.beq hi 0 && Nat.beq m hi && (high.isSome || max.isNone)) (some (.val .nilslice s)) none
  | _ => none
noncomputable def sliceR (n z lo : Nat) (high max : Option AV) (s : St) : AV → Option ARes
  | .ptr b o => obind (natOr n high) fun hi => cnd (Nat.ble lo hi && Nat.beq hi n && max.isNone && Nat.ble n 16777216) (some (.val (.slice b (Nat.add o (Nat.mul lo z)) (Nat.sub hi lo) true false) s)) none
  | _ => none
noncomputable def sliceA (P : Program) (t : TypeId) (x : AV) (low high max : Option AV) (s : St) : Option ARes :=
  obind (natOr 0 low) fun lo =>
  match P.underlying t with
  | some .string => (match x with | .str l => obind (natOr l.length high) fun hi => cnd max.isNone (sliceS l lo hi s) none | _ => none)
  | some (.slice e) => obind (sizeT P e) fun z => sliceV z lo high max s x
  | some (.array n e) => obind (sizeT P e) fun z => sliceR n z lo high max s x
  | _ => none

/-- What is appended: how many elements, and their cells. -/
noncomputable def newsA (z : Nat) (s : St) : AV → Option (Nat × List AV)
  | .nilslice => some (0, [])
  | .slice b o n _ _ => omap (s.cells b o (Nat.mul n z)) fun cs => (n, cs)
  | _ => none
noncomputable def appendIn (e : TypeId) (b : Pos) (n k z : Nat) (new : List AV) (s : St) (bl : ABlk) : Option ARes :=
  match bl with
  | .cells own e' len c => cnd (own && Nat.beq e' e && Nat.ble (Nat.mul n z) len) (some (.val (.slice s.n 0 (Nat.add n k) false true) ((s.put b .dead).push (.cells true e (Nat.mul (Nat.add n k) z) (c.grow (Nat.mul n z) new))))) none
  | _ => none
noncomputable def appendTo (e z k : Nat) (new : List AV) (s : St) : AV → Option ARes
  | .nilslice => cnd (Nat.beq k 0) (some (.val .nilslice s)) (some (.val (.slice s.n 0 k false true) (s.row e new)))
  | .slice b o n lim wh => cnd (Nat.beq k 0) (some (.val (.slice b o n lim wh) s))
      (cnd lim (omap (s.cells b o (Nat.mul n z)) fun old => .val (.slice s.n 0 (Nat.add n k) false true) (s.row e (old ++ new)))
        (cnd (wh && Nat.beq o 0) (obind (s.h.get b) (appendIn e b n k z new s)) none))
  | _ => none
/-- How many elements a slice has at most that is appended to. -/
def lenOf : AV → Nat
  | .slice _ _ n _ _ => n
  | _ => 0
noncomputable def appendA (P : Program) (t : TypeId) (x y : AV) (s : St) : Option ARes :=
  obind (elemT P t) fun e => obind (sizeT P e) fun z => obind (bytesT P e) fun by_ => obind (zeroT P e) fun zv => obind (newsA z s y) fun p =>
    cnd (Nat.ble 1 z && Nat.beq zv.cells.length z && ones zv.cells && Nat.ble 1 by_ && Nat.ble (Nat.mul (Nat.add (lenOf x) p.1) by_) 35184372088832) (appendTo e z p.1 p.2 s x) none

/-- A text's bytes appended. -/
noncomputable def appendS (P : Program) (t u : TypeId) (x y : AV) (s : St) : Option ARes :=
  match y with
  | .str l => obind (elemT P t) fun e => obind (sizeT P e) fun z => obind (bytesT P e) fun by_ => obind (zeroT P e) fun zv =>
      cnd (isStrT P u && Nat.beq z 1 && Nat.beq by_ 1 && Nat.beq zv.cells.length 1 && ones zv.cells && Nat.ble (Nat.add (lenOf x) l.length) 1000000) (appendTo e 1 l.length (u8s l) s x) none
  | _ => none
noncomputable def lookR (P : Program) (t : TypeId) (k : AV) : List (AV × AV) → Option (Option AV)
  | [] => some none
  | e :: es => obind (eqV P t k e.1) fun b => cnd b (some (some e.2)) (lookR P t k es)
noncomputable def updR (P : Program) (t : TypeId) (k v : AV) : List (AV × AV) → Option (List (AV × AV))
  | [] => some [(k, v)]
  | e :: es => obind (eqV P t k e.1) fun b => cnd b (some ((e.1, v) :: es)) (omap (updR P t k v es) (e :: ·))
noncomputable def delR (P : Program) (t : TypeId) (k : AV) : List (AV × AV) → Option (List (AV × AV))
  | [] => some []
  | e :: es => obind (eqV P t k e.1) fun b => cnd b (some es) (omap (delR P t k es) (e :: ·))
/-- Is there one entry of this key (true), or none? Nothing, if that is not decided, or there are two. -/
noncomputable def hitA (P : Program) (t : TypeId) (k : AV) : List (AV × AV) → Option Bool
  | [] => some false
  | e :: es => obind (eqV P t k e.1) fun b => obind (hitA P t k es) fun c => cnd b (cnd c none (some true)) (some c)
noncomputable def lookA (P : Program) (t : TypeId) (k : AV) (es : List (AV × AV)) : Option (Option AV) := obind (hitA P t k es) fun _ => lookR P t k es
noncomputable def updA (P : Program) (t : TypeId) (k v : AV) (es : List (AV × AV)) : Option (List (AV × AV)) := obind (hitA P t k es) fun _ => updR P t k v es
noncomputable def delA (P : Program) (t : TypeId) (k : AV) (es : List (AV × AV)) : Option (List (AV × AV)) := obind (hitA P t k es) fun _ => delR P t k es
def isMap : ABlk → Option (List (AV × AV))
  | .map es => some es
  | _ => none
noncomputable def mapEs (s : St) : AV → Option (List (AV × AV))
  | .nilmap => some []
  | .map r => obind (s.h.get r) isMap
  | _ => none

noncomputable def lenA (P : Program) (t : TypeId) (s : St) (x : AV) : Option Nat :=
  match P.underlying t with
  | some .string => (match x with | .str l => some l.length | _ => none)
  | some (.slice _) => (match x with | .slice _ _ n _ _ => some n | .nilslice => some 0 | _ => none)
  | some (.array n _) => some n
  | some (.map _ _) => omap (mapEs s x) fun l => l.length
  | _ => none
def symTxt (i : Nat) : Bool := Nat.beq (i % 8) 3 || Nat.beq (i % 8) 4
noncomputable def bLen (P : Program) (ats : List TypeId) (args : List AV) (s : St) : Option ARes :=
  match ats with
  | t :: _ => (match args with
    | [.sym i] => cnd (symTxt i) (match P.underlying t with | some .string => some (.val (.sym (i + 2)) s) | _ => none) none
    | [x] => omap (lenA P t s x) fun n => .val (.int .i64 (Int.ofNat n)) s
    | _ => none)
  | _ => none
noncomputable def bAppend (P : Program) (ats : List TypeId) (args : List AV) (s : St) : Option ARes :=
  match ats with
  | [t, t'] => (match args with
    | [x, y] => cnd (Nat.beq t t') (appendA P t x y s) (appendS P t t' x y s)
    | _ => none)
  | _ => none
noncomputable def bDelete (P : Program) (ats : List TypeId) (args : List AV) (s : St) : Option ARes :=
  match ats with
  | t :: _ => (match args with
    | [.map r, k] => obind (mapT P t) fun q => cnd (chkAt P 8 q.1 k) (obind (mapEs s (.map r)) fun es => omap (delA P q.1 k es) fun es => .val (.tuple []) (s.put r (.map es))) none
    | _ => none)
  | _ => none
noncomputable def bCopy (P : Program) (ats : List TypeId) (args : List AV) (s : St) : Option ARes :=
  match ats with
  | t :: _ => obind (elemT P t) fun e => obind (sizeT P e) fun z => (match args with
      | [.slice _ _ _ _ _, .nilslice] => some (.val (.int .i64 0) s)
      | [.slice b o n _ _, .slice b' o' n' _ _] => obind (s.cells b' o' (Nat.mul (min n n') z)) fun cs => omap (s.store b o cs) fun s => .val (.int .i64 (Int.ofNat (min n n'))) s
      | _ => none)
  | _ => none
def bPanic (_ : Program) (_ : List TypeId) (args : List AV) (s : St) : Option ARes :=
  match args with
  | [.iface t v] => some (.panic (.iface t v) s)
  | _ => none
noncomputable def bMin (_ : Program) (_ : List TypeId) (args : List AV) (s : St) : Option ARes :=
  match args with
  | [.int .i64 x, .int .i64 y] => some (.val (.int .i64 (cnd (ltI y x) y x)) s)
  | _ => none
noncomputable def bMax (_ : Program) (_ : List TypeId) (args : List AV) (s : St) : Option ARes :=
  match args with
  | [.int .i64 x, .int .i64 y] => some (.val (.int .i64 (cnd (ltI x y) y x)) s)
  | _ => none
noncomputable def bCap (P : Program) (ats : List TypeId) (args : List AV) (s : St) : Option ARes :=
  match ats with
  | t :: _ => obind (elemT P t) fun _ => (match args with
    | [.nilslice] => some (.val (.int .i64 0) s)
    | [.slice _ _ n true _] => some (.val (.int .i64 (Int.ofNat n)) s)
    | _ => none)
  | _ => none
noncomputable def bSliceData (_ : Program) (_ : List TypeId) (args : List AV) (s : St) : Option ARes :=
  match args with
  | [.nilslice] => some (.val .nilptr s)
  | [.slice b o (.succ _) _ _] => some (.val (.ptr b o) s)
  | _ => none
/-- A text of a row's bytes: the row is written no more. -/
noncomputable def strOf (e : TypeId) (b : Pos) (n : Nat) (s : St) : ABlk → Option ARes
  | .cells own t len c => cnd (own && Nat.beq t e && Nat.ble n len) (obind (c.sub 0 n) fun cs => omap (u8ns cs) fun l => .val (.str l) (s.put b .dead)) none
  | _ => none
noncomputable def bString (P : Program) (ats : List TypeId) (args : List AV) (s : St) : Option ARes :=
  match ats with
  | [t, _] => (match args with
    | [.nilptr, .int .i64 0] => some (.val (.str []) s)
    | [.ptr b 0, .int .i64 (.ofNat (.succ n))] => (match P.underlying t with
      | some (.pointer e) => obind (sizeT P e) fun z => cnd (isU8T P e && Nat.beq z 1 && Nat.ble n 1000000) (obind (s.h.get b) (strOf e b (Nat.succ n) s)) none
      | _ => none)
    | _ => none)
  | _ => none
noncomputable def builtinA : Builtin → Program → List TypeId → List AV → St → Option ARes
  | .len => bLen
  | .append => bAppend
  | .recover => fun _ _ _ s => some (.recover s)
  | .delete => bDelete
  | .copy => bCopy
  | .panic => bPanic
  | .min => bMin
  | .max => bMax
  | .cap => bCap
  | .unsafeSliceData => bSliceData
  | .unsafeString => bString
  | _ => fun _ _ _ _ => none

/-! Functions of Go's library without a body. -/
noncomputable def cntN (c : Nat) (l : List Nat) : Nat := @List.rec Nat (fun _ => Nat) 0 (fun x _ ih => cnd (Nat.beq x c) (Nat.succ ih) ih) l
noncomputable def idxN (c : Nat) (l : List Nat) : Option Nat := @List.rec Nat (fun _ => Option Nat) none (fun x _ ih => cnd (Nat.beq x c) (some 0) (omap ih Nat.succ)) l
noncomputable def idxI (o : Option Nat) : Int := @Option.rec Nat (fun _ => Int) (.negSucc 0) (fun n => .ofNat n) o
noncomputable def extCount (s : St) : List AV → Option ARes
  | [.str l, .int .u8 (.ofNat c)] => cnd (Nat.ble c 255) (some (.val (.int .i64 (.ofNat (cntN c l))) s)) none
  | _ => none
noncomputable def extIndexByte (s : St) : List AV → Option ARes
  | [.str l, .int .u8 (.ofNat c)] => cnd (Nat.ble c 255) (some (.val (.int .i64 (idxI (idxN c l))) s)) none
  | _ => none
noncomputable def extSame (s : St) : List AV → Option ARes
  | [x] => some (.val x s)
  | _ => none
/-- New bytes: how many there are room for, and what they are, is not known. -/
noncomputable def extMake (P : Program) (fn : Func) (s : St) : List AV → Option ARes
  | [.int .i64 (.ofNat n)] => (match fn.resultTypes.toList with
    | [t] => obind (elemT P t) fun e => obind (sizeT P e) fun z => cnd (isU8T P e && Nat.beq z 1 && Nat.ble n 1000000) (some (.val (.slice s.n 0 n false true) (s.push (.cells true e 0 (.few []))))) none
    | _ => none)
  | _ => none
noncomputable def extA (P : Program) (fn : Func) (args : List AV) (s : St) : Option ARes :=
  cnd (fn.origin == "") (cnd (fn.name == "internal/bytealg.CountString") (extCount s args) (cnd (fn.name == "internal/bytealg.IndexByteString") (extIndexByte s args) (cnd (fn.name == "internal/abi.NoEscape") (extSame s args) (cnd (fn.name == "internal/bytealg.MakeNoZero") (extMake P fn s args) none)))) none
noncomputable def externA (P : Program) (f : FuncId) (args : List AV) (s : St) : Option ARes :=
  obind (P.funcs[f]?) fun fn => @Option.rec Code (fun _ => Option ARes) (extA P fn args s) (fun _ => some (.enter f args s)) fn.body

noncomputable def oLoad (P : Program) (t : TypeId) (s : St) (x : AV) : Option ARes :=
  match x with
  | .ptr b o => omap (s.load P t b o) fun v => .val v s
  | _ => none
noncomputable def oStore (P : Program) (t : TypeId) (s : St) (v : AV) (x : AV) : Option ARes :=
  match x with
  | .ptr b o => obind (sizeT P t) fun n => cnd (Nat.beq v.cells.length n) (omap (s.store b o v.cells) .skip) none
  | _ => none
def oNilCheck (s : St) : AV → Option ARes
  | .ptr b o => some (.val (.ptr b o) s)
  | .func f b c => some (.val (.func f b c) s)
  | .yield l => some (.val (.yield l) s)
  | _ => none
noncomputable def oPick (x y : Option AV) (s : St) : AV → Option ARes
  | .bool b => omap (cnd b x y) fun v => .val v s
  | _ => none
noncomputable def newMap (s : St) : ARes := .val (.map s.n) (s.push (.map []))
noncomputable def oMakeMap (s : St) : Option (Option AV) → Option ARes
  | none => some (newMap s)
  | _ => none
noncomputable def oMakeSlice (P : Program) (t : TypeId) (l c : Nat) (s : St) : Option ARes :=
  obind (elemT P t) fun e => obind (bytesT P e) fun by_ => obind (sizeT P e) fun sz => obind (zeroT P e) fun z => cnd (Nat.ble l c && Nat.ble (Nat.mul c by_) 140737488355328 && Nat.ble c 1000000 && ones z.cells && Nat.beq z.cells.length sz) (some (.val (.slice s.n 0 l (Nat.beq l c) true) (s.row e (repl z.cells c)))) none
noncomputable def oFieldAddr (P : Program) (t : TypeId) (f : Nat) (s : St) (x : AV) : Option ARes :=
  match x with
  | .ptr b o => obind (fieldT P t f) fun f => obind (sizeT P f.type) fun z => cnd (Nat.beq z 0) none (some (.val (.ptr b (Nat.add o f.offset)) s))
  | _ => none
noncomputable def oField (P : Program) (t : TypeId) (f : Nat) (s : St) (x : AV) : Option ARes :=
  match x with
  | .agg cs => obind (fieldT P t f) fun f => omap (partA P f.type cs f.offset) fun v => .val v s
  | _ => none
noncomputable def idxSlice (P : Program) (e : TypeId) (i : Nat) (s : St) : AV → Option ARes
  | .slice b o n _ _ => cnd (Nat.ble (Nat.succ i) n) (omap (sizeT P e) fun z => .val (.ptr b (Nat.add o (Nat.mul i z))) s) none
  | _ => none
noncomputable def idxArr (P : Program) (n : Nat) (e : TypeId) (i : Nat) (s : St) : AV → Option ARes
  | .ptr b o => cnd (Nat.ble (Nat.succ i) n) (omap (sizeT P e) fun z => .val (.ptr b (Nat.add o (Nat.mul i z))) s) none
  | _ => none
noncomputable def oIndexAddr (P : Program) (t : TypeId) (s : St) (v : AV) : AV → Option ARes
  | .int _ (.ofNat i) => (match P.underlying t with
      | some (.slice e) => idxSlice P e i s v
      | some (.array n e) => idxArr P n e i s v
      | _ => none)
  | _ => none
noncomputable def oIndex (P : Program) (t : TypeId) (s : St) (v : AV) : AV → Option ARes
  | .int _ (.ofNat i) => (match P.underlying t with
      | some (.array n e) => (match v with | .agg cs => cnd (Nat.ble (Nat.succ i) n) (obind (sizeT P e) fun z => omap (partA P e cs (Nat.mul i z)) fun v => .val v s) none | _ => none)
      | some .string => (match v with | .str l => omap (l[i]?) fun c => .val (.int .u8 (Int.ofNat c)) s | _ => none)
      | _ => none)
  | _ => none
noncomputable def okV (ok : Bool) (v : AV) (b : Bool) : AV := cnd ok (.tuple [v, .bool b]) v
noncomputable def lookRes (P : Program) (ok : Bool) (e : TypeId) (s : St) (r : Option AV) : Option ARes :=
  @Option.rec AV (fun _ => Option ARes) (omap (zeroT P e) fun v => .val (okV ok v false) s) (fun v => some (.val (okV ok v true) s)) r
noncomputable def oLookup (P : Program) (t : TypeId) (ok : Bool) (s : St) (m k : AV) : Option ARes :=
  obind (mapEs s m) fun es => obind (mapT P t) fun q => cnd (chkAt P 8 q.1 k) (obind (lookA P q.1 k es) (lookRes P ok q.2 s)) none
noncomputable def oMapUpdate (P : Program) (t : TypeId) (s : St) (k v : AV) : AV → Option ARes
  | .map r => obind (mapT P t) fun q => cnd (chkAt P 8 q.1 k) (obind (mapEs s (.map r)) fun es => omap (updA P q.1 k v es) fun es => .skip (s.put r (.map es))) none
  | _ => none
noncomputable def oRange (P : Program) (t : TypeId) (s : St) : AV → Option ARes
  | .str l => cnd (isStrT P t) (some (.val (.ptr s.n 0) (s.push (.siter l 0)))) none
  | .nilmap => obind (mapT P t) fun _ => some (.val (.ptr s.n 0) (s.push (.mit none)))
  | .map r => obind (mapT P t) fun _ => obind (mapEs s (.map r)) fun _ => some (.val (.ptr s.n 0) (s.push (.mit (some r))))
  | _ => none
noncomputable def nextIn (s : St) (b : Pos) : ABlk → Option ARes
  | .siter l p => (match l.drop p with
    | [] => some (.val (.tuple [.bool false]) s)
    | c :: _ => cnd (Nat.ble c 127) (some (.val (.tuple [.bool true, .int .i64 (Int.ofNat p), .int .i32 (Int.ofNat c)]) (s.put b (.siter l (Nat.succ p))))) none)
  | _ => none
/-- The next of a map's entries: there is none. -/
noncomputable def nextNone (s : St) : List (AV × AV) → Option ARes
  | [] => some (.val (.tuple [.bool false]) s)
  | _ => none
noncomputable def nextMap (s : St) : ABlk → Option ARes
  | .mit none => some (.val (.tuple [.bool false]) s)
  | .mit (some r) => obind (mapEs s (.map r)) (nextNone s)
  | _ => none
noncomputable def oNext (str : Bool) (s : St) : AV → Option ARes
  | .ptr b 0 => obind (s.h.get b) (cnd str (nextIn s b) (nextMap s))
  | _ => none
noncomputable def oAssert (P : Program) (t : TypeId) (ok : Bool) (s : St) (v : AV) : Option ARes :=
  cnd (isIfaceT P t) none (match v with
      | .niliface => cnd ok (omap (zeroT P t) fun z => .val (.tuple [z, .bool false]) s) none
      | .iface t' v => cnd (Nat.beq t' t) (some (.val (okV ok v true) s)) (cnd ok (omap (zeroT P t) fun z => .val (.tuple [z, .bool false]) s) none)
      | _ => none)
noncomputable def oExtract (i : Nat) (s : St) : AV → Option ARes
  | .tuple vs => omap (nth vs i) fun v => .val v s
  | _ => none
def oPanic (s : St) : AV → Option ARes
  | .iface t v => some (.panic (.iface t v) s)
  | _ => none
noncomputable def oCall (P : Program) (args : List AV) (s : St) : AV → Option ARes
  | .func f first cap => externA P f (first ++ (args ++ cap)) s
  | .yield l => some (.round l args s)
  | _ => none
def oDefer (args : List AV) (s : St) : AV → Option ARes
  | .func f first cap => some (.defer ⟨.fn f cap, first ++ args⟩ s)
  | _ => none
noncomputable def evalO (P : Program) (a : AAct) (x : Option Operand) : Option (Option AV) := @Option.rec Operand (fun _ => Option (Option AV)) (some none) (fun x => omap (a.eval P x) some) x

/-- An operation, done by its own function: of the program, the activation, the state. -/
abbrev Dn := Program → AAct → St → Option ARes
noncomputable def dMove (x : Operand) : Dn := fun P a s => omap (a.eval P x) fun v => .val v s
noncomputable def dPick (c x y : Operand) : Dn := fun P a s => obind (a.eval P c) (oPick (a.eval P x) (a.eval P y) s)
noncomputable def dAlloc (t : TypeId) : Dn := fun P _ s => obind (zeroT P t) fun z => cnd (ones z.cells) (some (.val (.ptr s.n 0) (s.row t z.cells))) none
noncomputable def dBox (t : TypeId) (x : Operand) : Dn := fun P a s => obind (a.eval P x) fun v => cnd (ones v.cells) (some (.val (.ptr s.n 0) (s.row t v.cells))) none
noncomputable def dBuild (t : TypeId) (ps : Array (Nat × Operand)) : Dn := fun P a s => obind (evals P a (ps.toList.map (·.2))) fun vs => omap (buildA P t (ps.toList.map (·.1)) vs) fun v => .val v s
noncomputable def dBuildSlice (t : TypeId) (n : Nat) (ps : Array (Nat × Operand)) : Dn := fun P a s => obind (evals P a (ps.toList.map (·.2))) fun vs => buildSliceA P t n (ps.toList.map (·.1)) vs s
noncomputable def dLoad (t : TypeId) (x : Operand) : Dn := fun P a s => obind (a.eval P x) (oLoad P t s)
noncomputable def dStore (t : TypeId) (x y : Operand) : Dn := fun P a s => obind (a.eval P y) fun v => obind (a.eval P x) (oStore P t s v)
noncomputable def dNilCheck (x : Operand) : Dn := fun P a s => obind (a.eval P x) (oNilCheck s)
def isConstO : Operand → Bool
  | .const _ => true
  | _ => false
noncomputable def dBin (op : BinOp) (t : TypeId) (x y : Operand) : Dn := fun P a s => obind (a.eval P x) fun v => obind (a.eval P y) fun u => binA P (isConstO x || isConstO y) op t s v u
noncomputable def dUn (op : UnOp) (x : Operand) : Dn := fun P a s => obind (a.eval P x) fun v => omap (unA op v) fun v => .val v s
noncomputable def dConv (src dst : TypeId) (x : Operand) : Dn := fun P a s => obind (a.eval P x) fun v => convA P src dst v s
noncomputable def dIface (t : TypeId) (x : Operand) : Dn := fun P a s => cnd (isIfaceT P t) none (omap (a.eval P x) fun v => .val (.iface t v) s)
noncomputable def dFunc (fn : Fn) (first cap : Array Operand) : Dn := fun P a s =>
  match fn with
  | .func f => obind (evals P a first.toList) fun b => omap (evals P a cap.toList) fun c => .val (.func f b c) s
  | _ => none
noncomputable def dMakeMap (r : Option Operand) : Dn := fun P a s => oMakeMap s (r.map fun x => a.eval P x)
noncomputable def dMakeSlice (t : TypeId) (l c : Operand) : Dn := fun P a s => obind (a.eval P l) fun l => obind (a.eval P c) fun c => obind (natA l) fun l => obind (natA c) fun c => oMakeSlice P t l c s
noncomputable def dSlice (t : TypeId) (x : Operand) (lo hi mx : Option Operand) : Dn := fun P a s => obind (a.eval P x) fun v => obind (evalO P a lo) fun lo => obind (evalO P a hi) fun hi => obind (evalO P a mx) fun mx => sliceA P t v lo hi mx s
noncomputable def dFieldAddr (t : TypeId) (x : Operand) (f : Nat) : Dn := fun P a s => obind (a.eval P x) (oFieldAddr P t f s)
noncomputable def dField (t : TypeId) (x : Operand) (f : Nat) : Dn := fun P a s => obind (a.eval P x) (oField P t f s)
noncomputable def dIndexAddr (t : TypeId) (x i : Operand) : Dn := fun P a s => obind (a.eval P x) fun v => obind (a.eval P i) (oIndexAddr P t s v)
noncomputable def dIndex (t : TypeId) (x i : Operand) : Dn := fun P a s => obind (a.eval P x) fun v => obind (a.eval P i) (oIndex P t s v)
noncomputable def dLookup (t : TypeId) (x k : Operand) (ok : Bool) : Dn := fun P a s => obind (a.eval P x) fun v => obind (a.eval P k) fun k => oLookup P t ok s v k
noncomputable def dMapUpdate (t : TypeId) (m k x : Operand) : Dn := fun P a s => obind (a.eval P k) fun k => obind (a.eval P x) fun v => obind (a.eval P m) (oMapUpdate P t s k v)
noncomputable def dRange (t : TypeId) (x : Operand) : Dn := fun P a s => obind (a.eval P x) (oRange P t s)
noncomputable def dNext (x : Operand) (str : Bool) : Dn := fun P a s => obind (a.eval P x) (oNext str s)
noncomputable def dAssert (x : Operand) (t : TypeId) (ok : Bool) : Dn := fun P a s => obind (a.eval P x) (oAssert P t ok s)
noncomputable def dExtract (x : Operand) (i : Nat) : Dn := fun P a s => obind (a.eval P x) (oExtract i s)
noncomputable def dPanic (x : Operand) : Dn := fun P a s => obind (a.eval P x) (oPanic s)
noncomputable def calleeA (ats : Array TypeId) (P : Program) (a : AAct) (s : St) (args : List AV) : Callee → Option ARes
  | .builtin b => builtinA b P ats.toList args s
  | .value f => obind (a.eval P f) (oCall P args s)
  | .invoke _ _ => none
noncomputable def dCall (c : Call) : Dn := fun P a s => obind (evals P a c.args.toList) fun args => calleeA c.argTypes P a s args c.callee
noncomputable def deferA (P : Program) (a : AAct) (s : St) (args : List AV) : Callee → Option ARes
  | .value f => obind (a.eval P f) (oDefer args s)
  | _ => none
noncomputable def dDefer (c : Call) : Dn := fun P a s => obind (evals P a c.args.toList) fun args => deferA P a s args c.callee
noncomputable def opA : Op → Dn
  | .move x => dMove x
  | .assign x => dMove x
  | .pick c x y => dPick c x y
  | .alloc t => dAlloc t
  | .box t x => dBox t x
  | .build t ps => dBuild t ps
  | .buildSlice t n ps => dBuildSlice t n ps
  | .load t x => dLoad t x
  | .store t x y => dStore t x y
  | .nilCheck x => dNilCheck x
  | .binOp op t x y _ => dBin op t x y
  | .unOp op _ x => dUn op x
  | .convert src dst x => dConv src dst x
  | .makeInterface t x => dIface t x
  | .makeFunc fn first cap => dFunc fn first cap
  | .makeMap _ r => dMakeMap r
  | .makeSlice t l c => dMakeSlice t l c
  | .slice t x lo hi mx => dSlice t x lo hi mx
  | .fieldAddr t x f => dFieldAddr t x f
  | .field t x f => dField t x f
  | .indexAddr t x i => dIndexAddr t x i
  | .index t x i => dIndex t x i
  | .lookup t x k ok => dLookup t x k ok
  | .mapUpdate t m k x => dMapUpdate t m k x
  | .insert t m k x => dMapUpdate t m k x
  | .range t x => dRange t x
  | .next x str => dNext x str
  | .typeAssert x _ t ok => dAssert x t ok
  | .extract x i => dExtract x i
  | .panic x => dPanic x
  | .call c => dCall c
  | .defer c => dDefer c
  | _ => fun _ _ _ => none

/-! ### Control -/
def settleA : AMode → AMode
  | .panicking ((_, true) :: _) => .returning
  | m => m
def raisedA (m : AMode) (c : AChain) : AMode := match m with | .panicking old => .panicking (c ++ old) | .returning => .panicking c

def isBoolA (want : Bool) : AV → Option Bool
  | .bool b => some (b == want)
  | .tuple [] => some false
  | _ => none
noncomputable def wantedG (ops : List Oper) (a : AAct) (g : Nat × Bool) : Option Bool := obind (ops[g.1]?) fun p => obind p.dst fun d => isBoolA g.2 (a.tmp d)
noncomputable def wantedA (ops : List Oper) (a : AAct) (g : Option (Nat × Bool)) : Option Bool := @Option.rec (Nat × Bool) (fun _ => Option Bool) (some true) (fun g => wantedG ops a g) g
noncomputable def setTms (ps : List Tmp) : List AV → Tr AV → Tr AV :=
  @List.rec Tmp (fun _ => List AV → Tr AV → Tr AV) (fun _ t => t) (fun p _ ih vs t => @List.rec AV (fun _ => Tr AV) t (fun v vs _ => ih vs (t.set (pos p) v)) vs) ps

noncomputable def resCell (P : Program) (t : TypeId) (s : St) : AV → Option AV
  | .ptr b o => s.load P t b o
  | _ => none
noncomputable def resOne (P : Program) (a : AAct) (s : St) : ResultVar → Option AV
  | .tmp t => some (a.tmp t)
  | .cell x t => resCell P t s (a.tmp x)
noncomputable def resA (P : Program) (a : AAct) (s : St) : List ResultVar → Option (List AV)
  | [] => some []
  | r :: rs => obind (resOne P a s r) fun v => omap (resA P a s rs) (v :: ·)
def tupA : List AV → AV
  | [v] => v
  | vs => .tuple vs
noncomputable def resultsA (P : Program) (fn : Func) (a : AAct) (s : St) : Option AV := omap (resA P a s fn.results.toList) tupA

inductive AEnd where
  | returned (v : AV)
  | panicked (c : AChain)
/-- What is to be run. -/
inductive Job where
  | loop (rd : Option Pos) (c : Code)
  | call (f : FuncId) (args : List AV) (rc : Option AMode)
  | leave (fn : Func) (m : AMode)
  | round (l : Pos) (args : List AV)
/-- Where it has come to: an exit with the activation; an end. -/
inductive Out where
  | at (e : AExit) (a : AAct) (s : St)
  | fin (e : AEnd) (rc : Option AMode) (s : St)

abbrev Rec := Job → AAct → St → Option Out
/-- A code's meaning. -/
abbrev Sm := Option Pos → Rec → AAct → St → Option Out
abbrev Kt := AAct → St → Option Out

noncomputable def thenO (k : Kt) (o : Out) : Option Out :=
  @Out.rec (fun _ => Option Out) (fun e a s => @AExit.rec (fun _ => Option Out) (k a s) (fun id => some (.at (.exit id) a s)) (some (.at .ret a s)) (fun c => some (.at (.panic c) a s)) e) (fun _ _ _ => none) o
noncomputable def inBlockO (id : Nat) (o : Out) : Option Out :=
  @Out.rec (fun _ => Option Out) (fun e a s => @AExit.rec (fun _ => Option Out) (some (.at .normal a s)) (fun id' => cnd (Nat.beq id' id) (some (.at .normal a s)) (some (.at (.exit id') a s))) (some (.at .ret a s)) (fun c => some (.at (.panic c) a s)) e) (fun _ _ _ => none) o
noncomputable def jSeq (x y : Sm) : Sm := fun rd r a s => obind (x rd r a s) (thenO (y rd r))
noncomputable def pickC (x y : Option Out) : AV → Option Out
  | .bool b => cnd b x y
  | _ => none
noncomputable def jCond (P : Program) (c : Operand) (x y : Sm) : Sm := fun rd r a s => obind (a.eval P c) (pickC (x rd r a s) (y rd r a s))
noncomputable def jBlock (id : Nat) (c : Sm) : Sm := fun rd r a s => obind (c rd r a s) (inBlockO id)

/-- The jump that a round has left. -/
def jumpA (a : AAct) (s : St) : Option Code → Option Out
  | none => some (.at .normal a s)
  | some .ret => some (.at .ret a s)
  | some (.exit id) => some (.at (.exit id) a s)
  | _ => none
def ALoop.with (l : ALoop) (st : LoopState) (p : Option Code) : ALoop := { l with state := st, pending := p }
def ALoop.busy (l : ALoop) : Bool :=
  match l.state with
  | .busy => true
  | _ => false
def ALoop.ready (l : ALoop) : Bool :=
  match l.state with
  | .ready => true
  | _ => false
def isLoop : ABlk → Option ALoop
  | .loop l => some l
  | _ => none
noncomputable def St.loop (s : St) (l : Pos) : Option ALoop := obind (s.h.get l) isLoop
noncomputable def endRangeA (l : Pos) (a : AAct) (o : Out) : Option Out :=
  match o with
  | .fin (.returned _) _ s => obind (s.loop l) fun lp => cnd lp.busy none (jumpA a (s.put l (.loop (lp.with .exhausted lp.pending))) lp.pending)
  | .fin (.panicked c) _ s => some (.at (.panic c) a s)
  | _ => none
/-- The block for the rounds' deferred calls, the mark, the state. -/
noncomputable def enterLoopA (s : St) (rd : Option Pos) : Option (Pos × List ADef × St) :=
  @Option.rec Pos (fun _ => Option (Pos × List ADef × St)) (some (s.n, [⟨.collected s.n, []⟩], s.push (.deferred true))) (fun l => omap (s.loop l) fun r => (r.defers, [], s)) rd
noncomputable def rangeIn (first cap : List AV) (f : FuncId) (ps : Array Tmp) (assign body : Code) (r : Rec) (a : AAct) (q : Pos × List ADef × St) : Option Out :=
  obind (r (.call f (first ++ (.yield q.2.2.n :: cap)) none) a (q.2.2.push (.loop { state := .ready, pending := none, tm := a.tm, n := a.n, params := ps.toList, assign, body, defers := q.1 })))
    (endRangeA q.2.2.n (a.setDefers (q.2.1 ++ a.defers)))
noncomputable def rangeV (ps : Array Tmp) (assign body : Code) (rd : Option Pos) (r : Rec) (a : AAct) (s : St) : AV → Option Out
  | .func f first cap => obind (enterLoopA s rd) (rangeIn first cap f ps assign body r a)
  | _ => none
noncomputable def jRange (P : Program) (f : Operand) (ps : Array Tmp) (assign body : Code) : Sm := fun rd r a s => obind (a.eval P f) (rangeV ps assign body rd r a s)

noncomputable def putK (d : Option Tmp) (v : AV) (k : Kt) : Kt := fun a s => obind (a.put d v) fun a => k a s
noncomputable def finThen (d : Option Tmp) (k : Kt) (a : AAct) : Out → Option Out
  | .fin (.returned v) _ s => putK d v k a s
  | .fin (.panicked c) _ s => some (.at (.panic c) a s)
  | _ => none
noncomputable def recoverA (d : Option Tmp) (k : Kt) (a : AAct) (s : St) : Option AMode → Option Out
  | some (.panicking ((v, false) :: old)) => putK d v k (a.setRc (some (.panicking ((v, true) :: old)))) s
  | _ => putK d .niliface k a s
noncomputable def resThen (rd : Option Pos) (r : Rec) (d : Option Tmp) (k : Kt) (a : AAct) (x : ARes) : Option Out :=
  @ARes.rec (fun _ => Option Out) (fun v s => putK d v k a s) (fun s => putK d .undef k a s) (fun f args s => obind (r (.call f args none) a s) (finThen d k a))
    (fun l args s => obind (r (.round l args) a s) (finThen d k a)) (fun df s => @Option.rec Pos (fun _ => Option Out) (putK d .undef k (a.setDefers (df :: a.defers)) s) (fun _ => none) rd)
    (fun s => @Option.rec Pos (fun _ => Option Out) (recoverA d k a s a.rc) (fun _ => none) rd) (fun v s => some (.at (.panic [(v, false)]) a s)) x
noncomputable def jOp (P : Program) (rd : Option Pos) (r : Rec) (o : Oper) (k : Kt) (a : AAct) (s : St) (w : Bool) : Option Out :=
  cnd w (obind (opA o.op P a s) (resThen rd r o.dst k a)) (putK o.dst .undef k a s)
noncomputable def jOps (P : Program) (all l : List Oper) (rd : Option Pos) (r : Rec) : Kt :=
  @List.rec Oper (fun _ => Kt) (fun a s => some (.at .normal a s)) (fun o _ ih a s => obind (wantedA all a o.guard) (jOp P rd r o ih a s)) l
/-! A drawn region: run in the text's order; what may be read at several times is read at each. -/
noncomputable def eqL (r : AV → AV → Bool) (xs : List AV) : List AV → Bool :=
  @List.rec AV (fun _ => List AV → Bool) (fun ys => @List.rec AV (fun _ => Bool) true (fun _ _ _ => false) ys)
    (fun x _ ih ys => @List.rec AV (fun _ => Bool) false (fun y ys _ => cnd (r x y) (ih ys) false) ys) xs
noncomputable def eqAVB (r : AV → AV → Bool) (x y : AV) : Bool :=
  match x with
  | .bool a => (match y with | .bool b => a == b | _ => false)
  | .int j a => (match y with | .int k b => eqK j k && eqI a b | _ => false)
  | .float j a => (match y with | .float k b => decide (j = k) && Nat.beq a b | _ => false)
  | .str a => (match y with | .str b => eqS a b | _ => false)
  | .ptr b o => (match y with | .ptr c p => eqP b c && Nat.beq o p | _ => false)
  | .nilptr => (match y with | .nilptr => true | _ => false)
  | .slice b o n l w => (match y with | .slice b' o' n' l' w' => eqP b b' && Nat.beq o o' && Nat.beq n n' && l == l' && w == w' | _ => false)
  | .nilslice => (match y with | .nilslice => true | _ => false)
  | .map b => (match y with | .map c => eqP b c | _ => false)
  | .nilmap => (match y with | .nilmap => true | _ => false)
  | .func f a c => (match y with | .func g a' c' => Nat.beq f g && eqL r a a' && eqL r c c' | _ => false)
  | .yield b => (match y with | .yield c => eqP b c | _ => false)
  | .nilfunc => (match y with | .nilfunc => true | _ => false)
  | .iface t v => (match y with | .iface u w => Nat.beq t u && r v w | _ => false)
  | .niliface => (match y with | .niliface => true | _ => false)
  | .agg a => (match y with | .agg b => eqL r a b | _ => false)
  | .tuple a => (match y with | .tuple b => eqL r a b | _ => false)
  | .sym i => (match y with | .sym j => Nat.beq i j | _ => false)
  | .bad => false
noncomputable def eqAV (n : Nat) : AV → AV → Bool := @Nat.rec (fun _ => AV → AV → Bool) (fun _ _ => false) (fun _ ih x y => eqAVB ih x y) n

/-- 0: reads the heap and keeps the state; 1: lays one row; 2: may do more; 3: is not taken in a drawn region; 4: looks at no state. -/
def clsO (P : Program) : Op → Nat
  | .move _ | .assign _ | .pick .. | .build .. | .nilCheck _ | .binOp .. | .unOp .. | .makeInterface .. | .makeFunc .. | .slice .. | .fieldAddr .. | .field .. | .indexAddr .. | .index .. | .typeAssert .. | .extract .. => 4
  | .load .. | .lookup .. => 0
  | .alloc _ | .box .. | .buildSlice .. | .makeMap .. | .makeSlice .. => 1
  | .store .. | .mapUpdate .. | .insert .. | .next .. | .range .. => 2
  | .convert _ dst _ => match P.underlying dst with
    | some (.slice _) => 3
    | some .unsafePointer => 3
    | some (.pointer _) => 3
    | none => 3
    | _ => 0
  | .call c => match c.callee with
    | .builtin .len => 0
    | .builtin .min => 4
    | .builtin .max => 4
    | _ => 2
  | _ => 3
def tmpsO : List Operand → List Tmp
  | [] => []
  | .tmp t :: l => t :: tmpsO l
  | _ :: l => tmpsO l
/-- What stands ahead of each operation, as bits; the last one first. -/
def aheadOne (done : List Nat) (i : Nat) : List Edge → Nat
  | [] => 0
  | e :: es => cond (Region.binds .any e && Nat.blt e.on i) (Nat.lor (Nat.lor (Nat.shiftLeft 1 e.on) (done.getD (i - 1 - e.on) 0)) (aheadOne done i es)) (aheadOne done i es)
def aheadGo : List Oper → List Nat → Nat → List Nat
  | [], done, _ => done.reverse
  | o :: l, done, i => aheadGo l (aheadOne done i o.after.toList :: done) (i + 1)
def ahead (ops : List Oper) : List Nat := aheadGo ops [] 0
def bit (b : List Nat) (i j : Nat) : Bool := Nat.testBit (b.getD i 0) j
/-- Is the temporary t written by none of the operations, or by one ahead of i, or by one that i is ahead of? -/
def readOk (b : List Nat) (i : Nat) (t : Tmp) : List Oper → Nat → Bool
  | [], _ => true
  | o :: l, j => cond (match o.dst with | some d => Nat.beq d t | none => false) (bit b i j || bit b j i) true && readOk b i t l (j + 1)
def dstFree (d : Tmp) : List Oper → Bool
  | [] => true
  | o :: l => (match o.dst with | some e => !Nat.beq d e | none => true) && dstFree d l
def dstsOk : List Oper → Bool
  | [] => true
  | o :: l => (match o.dst with | some d => dstFree d l | none => true) && dstsOk l
def heavyOk (P : Program) (b : List Nat) (j : Nat) : List Oper → Nat → Bool
  | [], _ => true
  | o :: l, i => cond (Nat.blt i j && Nat.beq (clsO P o.op) 2) (bit b j i) true && heavyOk P b j l (i + 1)
def opsOk (P : Program) (b : List Nat) (all : List Oper) : List Oper → Nat → Bool
  | [], _ => true
  | o :: l, i => ((tmpsO o.op.operands.toList).all fun t => readOk b i t all 0) && (match o.guard with | some g => bit b i g.1 | none => true) && !Nat.beq (clsO P o.op) 3 && (o.after.toList.all fun e => !Region.binds .text e || Nat.blt e.on i) &&
      cond (Nat.beq (clsO P o.op) 2) (heavyOk P b i all 0) true && opsOk P b all l (i + 1)
def posIn (i : Nat) : List Nat → Nat
  | [] => 0
  | j :: l => cond (Nat.beq i j) 0 (posIn i l + 1)
/-- An order in which every edge of gc's points back. -/
def gcOk (n : Nat) (R : List Nat) : List Oper → Nat → Bool
  | [], _ => true
  | o :: l, i => (o.after.toList.all fun e => !Region.binds .gc e || (Nat.blt e.on n && Nat.blt (posIn e.on R) (posIn i R))) && gcOk n R l (i + 1)
def departsA (ops : List Oper) : Bool := ops.any fun o => o.after.toList.any fun e => !Region.binds .any e
def drawOk (P : Program) (ops : List Oper) : Bool := dstsOk ops && opsOk P (ahead ops) ops ops 0 && cond (departsA ops) (gcOk ops.length (Region.linearise .gc ops.toArray 0) ops 0) true

/-- What has been seen of an operation: its number, the operation, the activation and the state ahead of it, whether it was wanted, its value. -/
structure Tel where
  i : Nat
  o : Oper
  a : AAct
  s : St
  w : Bool
  v : AV
/-- How it ends: all have been seen; one has panicked. -/
inductive DEnd where
  | done (a : AAct) (s : St)
  | pan (o : Oper) (a : AAct) (s : St) (c : AChain) (s1 : St)
abbrev Tq := List Tel × DEnd
noncomputable def toN (p : Pos) : Nat := @Pos.rec (fun _ => Nat) 0 (fun _ ih => Nat.succ (Nat.mul 2 ih)) (fun _ ih => Nat.succ (Nat.succ (Nat.mul 2 ih))) p
noncomputable def drawPut (o : Oper) (k : Nat → AAct → St → Option Tq) (i : Nat) (a : AAct) (s : St) (w : Bool) (v : AV) (s' : St) : Option Tq :=
  cnd (Nat.ble (toN s.n) (toN s'.n)) (obind (a.put o.dst v) fun a' => omap (k (Nat.succ i) a' s') fun q => (⟨i, o, a, s, w, v⟩ :: q.1, q.2)) none
noncomputable def drawFin (o : Oper) (k : Nat → AAct → St → Option Tq) (i : Nat) (a : AAct) (s : St) : Out → Option Tq
  | .fin (.returned v) _ s' => drawPut o k i a s true v s'
  | .fin (.panicked c) _ s' => some ([], .pan o a s c s')
  | _ => none
noncomputable def drawRes (r : Rec) (o : Oper) (k : Nat → AAct → St → Option Tq) (i : Nat) (a : AAct) (s : St) : ARes → Option Tq
  | .val v s' => drawPut o k i a s true v s'
  | .skip s' => drawPut o k i a s true .undef s'
  | .enter f args s' => obind (r (.call f args none) a s') (drawFin o k i a s)
  | .round l args s' => obind (r (.round l args) a s') (drawFin o k i a s)
  | _ => none
noncomputable def drawOp (P : Program) (r : Rec) (o : Oper) (k : Nat → AAct → St → Option Tq) (i : Nat) (a : AAct) (s : St) (w : Bool) : Option Tq :=
  cnd w (obind (opA o.op P a s) (drawRes r o k i a s)) (drawPut o k i a s false .undef s)
noncomputable def drawOps (P : Program) (all : List Oper) (r : Rec) (l : List Oper) : Nat → AAct → St → Option Tq :=
  @List.rec Oper (fun _ => Nat → AAct → St → Option Tq) (fun _ a s => some ([], .done a s)) (fun o _ ih i a s => obind (wantedA all a o.guard) (drawOp P r o ih i a s)) l
/-- The times at which something may be done: ahead of each heavy operation; behind all. -/
noncomputable def heads (P : Program) (n : Nat) (s : St) (l : List Tel) : List (Nat × Tr ABlk) :=
  @List.rec Tel (fun _ => List (Nat × Tr ABlk)) [(n, s.h)] (fun t _ ih => @Tel.rec (fun _ => List (Nat × Tr ABlk)) (fun i o _ s _ _ => cnd (Nat.beq (clsO P o.op) 2) ((i, s.h) :: ih) ih) t) l
/-- Each operation's number and class. -/
noncomputable def clsL (P : Program) (l : List Oper) : Nat → List (Nat × Nat) := @List.rec Oper (fun _ => Nat → List (Nat × Nat)) (fun _ => []) (fun o _ ih i => (i, clsO P o.op) :: ih (Nat.succ i)) l
/-- May i be done when h is the next heavy one? -/
noncomputable def mayBe (b : List Nat) (i h : Nat) (l : List (Nat × Nat)) : Bool :=
  @List.rec (Nat × Nat) (fun _ => Bool) true (fun x _ ih => cnd (Nat.beq x.2 2) (cnd (cnd (bit b i x.1) (Nat.blt x.1 h) true) (cnd (cnd (bit b x.1 i) (Nat.ble h x.1) true) ih false) false) ih) l
/-- Are the rows that i hangs on laid ahead of h? -/
noncomputable def laidBy (b : List Nat) (i h : Nat) (l : List (Nat × Nat)) : Bool :=
  @List.rec (Nat × Nat) (fun _ => Bool) true (fun x _ ih => cnd (Nat.beq x.2 1) (cnd (cnd (bit b i x.1) (Nat.blt x.1 h) true) ih false) ih) l
/-- Is there no heavy one behind i and ahead of h? -/
noncomputable def calm (i h : Nat) (l : List (Nat × Nat)) : Bool :=
  @List.rec (Nat × Nat) (fun _ => Bool) true (fun x _ ih => cnd (Nat.beq x.2 2) (cnd (cnd (Nat.blt i x.1) (Nat.ble h x.1) true) ih false) ih) l
noncomputable def sameRes (v : AV) : ARes → Bool
  | .val u _ => eqAV 12 u v
  | _ => false
noncomputable def chkAtHead (P : Program) (o : Oper) (a : AAct) (s : St) (v : AV) (h : Tr ABlk) : Bool := @Option.rec ARes (fun _ => Bool) false (fun x => sameRes v x) (opA o.op P a ⟨h, s.n⟩)
noncomputable def chkHeads (P : Program) (b : List Nat) (cl : List (Nat × Nat)) (i : Nat) (o : Oper) (a : AAct) (s : St) (v : AV) (hs : List (Nat × Tr ABlk)) : Bool :=
  @List.rec (Nat × Tr ABlk) (fun _ => Bool) true (fun h _ ih => @Prod.rec Nat (Tr ABlk) (fun _ => Bool) (fun j k => cnd (mayBe b i j cl) (cnd (laidBy b i j cl) (cnd (chkAtHead P o a s v k) ih false) false) ih) h) hs
/-- The same row of few cells, or two empty maps. -/
noncomputable def eqBlk (x y : ABlk) : Bool :=
  match x with
  | .cells true t n (.few l) => (match y with | .cells true u m (.few k) => Nat.beq t u && Nat.beq n m && eqL (eqAV 12) l k | _ => false)
  | .map [] => (match y with | .map [] => true | _ => false)
  | _ => false
noncomputable def eqOB (x y : Option ABlk) : Bool := @Option.rec ABlk (fun _ => Bool) false (fun x => @Option.rec ABlk (fun _ => Bool) false (fun y => eqBlk x y) y) x
def resSt : ARes → Option St
  | .val _ s => some s
  | _ => none
/-- A row that is laid late lies there as it was laid. -/
noncomputable def chkRow (b : List Nat) (cl : List (Nat × Nat)) (i : Nat) (n : Pos) (s : St) (hs : List (Nat × Tr ABlk)) : Bool :=
  @List.rec (Nat × Tr ABlk) (fun _ => Bool) true (fun h _ ih => @Prod.rec Nat (Tr ABlk) (fun _ => Bool) (fun j k => cnd (Nat.blt i j) (cnd (mayBe b i j cl) (cnd (cnd (calm i j cl) true (eqOB (s.h.get n) (k.get n))) ih false) ih) ih) h) hs
noncomputable def chkLay (P : Program) (b : List Nat) (cl : List (Nat × Nat)) (i : Nat) (o : Oper) (a : AAct) (s : St) (hs : List (Nat × Tr ABlk)) : Bool :=
  @Option.rec St (fun _ => Bool) false (fun s' => chkRow b cl i s.n s' hs) (obind (opA o.op P a s) resSt)
noncomputable def drawChk (P : Program) (b : List Nat) (cl : List (Nat × Nat)) (hs : List (Nat × Tr ABlk)) (l : List Tel) : Bool :=
  @List.rec Tel (fun _ => Bool) true (fun t _ ih => @Tel.rec (fun _ => Bool) (fun i o a s w v =>
    cnd w (cnd (Nat.beq (clsO P o.op) 0) (cnd (chkHeads P b cl i o a s v hs) ih false) (cnd (Nat.beq (clsO P o.op) 1) (cnd (chkLay P b cl i o a s hs) ih false) ih)) ih) t) l
/-- Behind the one that panics, number n: what hangs on it is never done; the others may be done ahead of it. -/
noncomputable def panPut (o : Oper) (k : Nat → AAct → St → Option (List Tel)) (i : Nat) (a : AAct) (s : St) (w : Bool) (v : AV) (s' : St) : Option (List Tel) :=
  cnd (Nat.ble (toN s.n) (toN s'.n)) (obind (a.put o.dst v) fun a' => omap (k (Nat.succ i) a' s') fun q => ⟨i, o, a, s, w, v⟩ :: q) none
noncomputable def panRes (o : Oper) (k : Nat → AAct → St → Option (List Tel)) (i : Nat) (a : AAct) (s : St) : ARes → Option (List Tel)
  | .val v s' => panPut o k i a s true v s'
  | _ => none
noncomputable def panOp (P : Program) (o : Oper) (k : Nat → AAct → St → Option (List Tel)) (i : Nat) (a : AAct) (s : St) (w : Bool) : Option (List Tel) :=
  cnd w (obind (opA o.op P a s) (panRes o k i a s)) (panPut o k i a s false .undef s)
noncomputable def panOps (P : Program) (all : List Oper) (b : List Nat) (n : Nat) (l : List Oper) : Nat → AAct → St → Option (List Tel) :=
  @List.rec Oper (fun _ => Nat → AAct → St → Option (List Tel)) (fun _ _ _ => some [])
    (fun o _ ih i a s => cnd (Nat.beq i n || bit b i n) (panPut o ih i a s false .undef s) (obind (wantedA all a o.guard) (panOp P o ih i a s))) l
/-- What they may have written is known no longer. -/
noncomputable def badT (l : List Oper) : Tr AV → Tr AV := @List.rec Oper (fun _ => Tr AV → Tr AV) (fun t => t) (fun o _ ih t => ih (@Option.rec Tmp (fun _ => Tr AV) t (fun d => t.set (pos d) .bad) o.dst)) l
noncomputable def badA (l : List Oper) (a : AAct) : AAct := @AAct.rec (fun _ => AAct) (fun tm n df rc => .mk (badT l tm) n df rc) a
noncomputable def drawPan (P : Program) (ops : List Oper) (ts : List Tel) (n : Nat) (a : AAct) (s : St) (c : AChain) (s1 : St) : Option Out :=
  obind (panOps P ops (ahead ops) n (ops.drop n) n a s) fun us => cnd (drawChk P (ahead ops) (clsL P ops 0) (heads P n s ts) (ts ++ us)) (some (.at (.panic c) (badA ops a) s1)) none
noncomputable def drawEnd (P : Program) (ops : List Oper) (q : Tq) : Option Out :=
  match q.2 with
  | .done a s => cnd (drawChk P (ahead ops) (clsL P ops 0) (heads P ops.length s q.1) q.1) (some (.at .normal a s)) none
  | .pan _ a s c s1 => drawPan P ops q.1 q.1.length a s c s1
noncomputable def jDraw (P : Program) (ops : Array Oper) : Sm := fun _ r a s => cnd (drawOk P ops.toList) (obind (drawOps P ops.toList r ops.toList 0 a s) (drawEnd P ops.toList)) none
noncomputable def jRegion (P : Program) (ops : Array Oper) (draw : Bool) : Sm := cnd draw (jDraw P ops) (fun rd r a s => jOps P ops.toList ops.toList rd r a s)
/-! A loop that lays all of a map's entries into another map, in whatever order: one piece. -/
def isNo : Option Bool → Bool
  | some false => true
  | _ => false
/-- Is a key told apart from all of these? -/
noncomputable def apart (P : Program) (t : TypeId) (k : AV) (es : List (AV × AV)) : Bool :=
  @List.rec (AV × AV) (fun _ => Bool) true (fun e _ ih => cnd (isNo (eqV P t k e.1)) (cnd (isNo (eqV P t e.1 k)) ih false) false) es
noncomputable def pairsA (P : Program) (t : TypeId) (es : List (AV × AV)) : Bool := @List.rec (AV × AV) (fun _ => Bool) true (fun e l ih => cnd (apart P t e.1 l) ih false) es
/-- May an entry be laid into a map? -/
noncomputable def entOk (P : Program) (t : TypeId) (n : Nat) (oes : List (AV × AV)) (e : AV × AV) : Bool :=
  chkAt P 8 t e.1 && apart P t e.1 oes && match e.2 with
    | .agg cs => Nat.beq cs.length n && ones cs
    | _ => false
noncomputable def entsOk (P : Program) (t : TypeId) (n : Nat) (oes es : List (AV × AV)) : Bool := @List.rec (AV × AV) (fun _ => Bool) true (fun e _ ih => cnd (entOk P t n oes e) ih false) es
/-- The cells of a variable of a type, if they are few. -/
noncomputable def copyT (P : Program) (t : TypeId) : Option Nat :=
  obind (zeroT P t) fun z => obind (aggT P t) fun g => obind (sizeT P t) fun n => cnd (ones z.cells && g && Nat.beq z.cells.length n && Nat.ble 1 n && Nat.ble n 32) (some n) none
def tmpIs (x : Operand) (t : Nat) : Bool :=
  match x with
  | .tmp u => Nat.beq u t
  | _ => false
def dstIs (o : Oper) (d : Option Nat) : Bool :=
  match o.guard with
  | none => (match o.dst, d with
    | some e, some d => Nat.beq e d
    | none, none => true
    | _, _ => false)
  | some _ => false
def isMoveO (o : Oper) (x d : Nat) : Bool := dstIs o (some d) && match o.op with
  | .move y => tmpIs y x
  | _ => false
def isAssignO (o : Oper) (x d : Nat) : Bool := dstIs o (some d) && match o.op with
  | .assign y => tmpIs y x
  | _ => false
def isExtractO (o : Oper) (x i d : Nat) : Bool := dstIs o (some d) && match o.op with
  | .extract y j => tmpIs y x && Nat.beq i j
  | _ => false
def isNextO (o : Oper) (x d : Nat) : Bool := dstIs o (some d) && match o.op with
  | .next y false => tmpIs y x
  | _ => false
def isEntryO (o : Oper) (x d : Nat) : Bool := dstIs o (some d) && match o.op with
  | .entry y => tmpIs y x
  | _ => false
def rangeO (o : Oper) (x d : Nat) : Option TypeId :=
  match o.op with
  | .range t y => cond (dstIs o (some d) && tmpIs y x) (some t) none
  | _ => none
def allocO (o : Oper) (d : Nat) : Option TypeId :=
  match o.op with
  | .alloc t => cond (dstIs o (some d)) (some t) none
  | _ => none
def isStoreO (o : Oper) (t : TypeId) (x y : Nat) : Bool := dstIs o none && match o.op with
  | .store u p v => Nat.beq u t && tmpIs p x && tmpIs v y
  | _ => false
def isLoadO (o : Oper) (t : TypeId) (x d : Nat) : Bool := dstIs o (some d) && match o.op with
  | .load u p => Nat.beq u t && tmpIs p x
  | _ => false
def updateO (o : Oper) (m k v : Nat) : Option TypeId :=
  match o.op with
  | .mapUpdate t x y z => cond (dstIs o none && tmpIs x m && tmpIs y k && tmpIs z v) (some t) none
  | _ => none
def copy5 : List Oper → Option TypeId
  | [x, y] => cond (isMoveO x 3 31) (rangeO y 31 32) none
  | _ => none
def copy6 : List Oper → Bool
  | [x, y] => isNextO x 32 33 && isExtractO y 33 0 34
  | _ => false
def copy7 : List Oper → Option TypeId
  | [x, y, z, u, v, w] => (match allocO u 5 with
    | some t => cond (isEntryO x 32 35 && isExtractO y 35 0 36 && isExtractO z 35 1 37 && isAssignO v 36 4 && isStoreO w t 5 37) (some t) none
    | none => none)
  | _ => none
def copy8 (t : TypeId) : List Oper → Option TypeId
  | [x, y, z, u] => cond (isMoveO x 1 38 && isMoveO y 4 39 && isLoadO z t 5 40) (updateO u 38 39 40) none
  | _ => none
/-- Such a loop: the type of its variable, of the map that is laid into, how it is left. -/
def copyOf : Code → Option (TypeId × TypeId × Nat)
  | .seq (.region _ o6 false) (.seq (.cond (.tmp t) .skip (.exit e)) (.block _ (.seq (.region _ o7 false) (.region _ o8 false)))) =>
    cond (Nat.beq t 34 && copy6 o6.toList) (match copy7 o7.toList with
      | some t => (match copy8 t o8.toList with
        | some m => some (t, m, e)
        | none => none)
      | none => none) none
  | _ => none
/-- The range, and the loop behind it. -/
def copySeq (x y : Code) : Option (TypeId × TypeId × TypeId) :=
  match y with
  | .block id (.loop c) => (match x with
    | .region _ o5 false => (match copyOf c with
      | some (t, m, e) => (match copy5 o5.toList with
        | some r => cond (Nat.beq e id) (some (r, t, m)) none
        | none => none)
      | none => none)
    | _ => none)
  | _ => none
def mapOf : AV → Option Pos
  | .map b => some b
  | _ => none
noncomputable def badL : List Nat → Tr AV → Tr AV
  | [], t => t
  | d :: l, t => badL l (t.set (pos d) .bad)
def copyTmps : List Nat := [31, 32, 33, 34, 35, 36, 37, 5, 4, 38, 39, 40]
noncomputable def copyA (a : AAct) : AAct := @AAct.rec (fun _ => AAct) (fun tm n df rc => .mk (badL copyTmps tm) n df rc) a
noncomputable def jCopyTo (P : Program) (q : TypeId × TypeId × TypeId) (a : AAct) (s : St) (m o : Pos) : Option Out :=
  cnd (eqP m o) none (obind (mapEs s (.map m)) fun es => obind (mapEs s (.map o)) fun oes => obind (mapT P q.1) fun _ => obind (mapT P q.2.2) fun k => obind (copyT P q.2.1) fun n =>
    cnd (Nat.ble 41 a.n && pairsA P k.1 es && entsOk P k.1 n oes es) (some (.at .normal (copyA a) (s.put o (.map (oes ++ es))))) none)
noncomputable def jCopy (P : Program) (q : TypeId × TypeId × TypeId) : Kt := fun a s => obind (mapOf (a.tmp 3)) fun m => obind (mapOf (a.tmp 1)) fun o => jCopyTo P q a s m o
noncomputable def jSeqM (P : Program) (q : Option (TypeId × TypeId × TypeId)) (x : Sm) : Sm := fun rd r a s => @Option.rec (TypeId × TypeId × TypeId) (fun _ => Option Out) (x rd r a s) (fun q => jCopy P q a s) q
noncomputable def jCode (P : Program) (c : Code) : Sm :=
  @Code.rec (fun _ => Sm) (fun _ _ a s => some (.at .normal a s)) (fun _ ops draw => jRegion P ops draw) (fun cx cy x y => jSeqM P (copySeq cx cy) (jSeq x y)) (fun c _ _ x y => jCond P c x y)
    (fun id _ c => jBlock id c) (fun c _ rd r a s => r (.loop rd c) a s) (fun f ps assign body _ _ => jRange P f ps assign body) (fun id _ _ a s => some (.at (.exit id) a s))
    (fun _ c => c) (fun _ _ _ a s => some (.at .normal a s)) (fun _ _ _ _ _ => none) (fun _ _ a s => some (.at .ret a s)) (fun _ _ _ _ _ => none) c

noncomputable def bodyThen (fn : Func) (r : Rec) (o : Out) : Option Out :=
  @Out.rec (fun _ => Option Out) (fun e a s => @AExit.rec (fun _ => Option Out) (r (.leave fn .returning) a s) (fun _ => none) (r (.leave fn .returning) a s) (fun ch => r (.leave fn (.panicking ch)) a s) e) (fun _ _ _ => none) o
noncomputable def callIn (P : Program) (r : Rec) (args : List AV) (rc : Option AMode) (s : St) (fn : Func) : Option Out :=
  obind fn.body fun c => obind (jCode P c none r (.mk (setTr args .nil 0) (Nat.max fn.ntmps args.length) [] rc) s) (bodyThen fn r)
noncomputable def jCall (P : Program) (f : FuncId) (args : List AV) (rc : Option AMode) (r : Rec) (s : St) : Option Out := obind (P.funcs[f]?) (callIn P r args rc s)

noncomputable def leaveEnd (P : Program) (fn : Func) (a : AAct) (s : St) : AMode → Option Out
  | .returning => omap (resultsA P fn a s) fun v => .fin (.returned v) a.rc s
  | .panicking c => some (.fin (.panicked c) a.rc s)
noncomputable def takeDef (fn : Func) (m : AMode) (b : Pos) (r : Rec) (a : AAct) (s : St) : ABlk → Option Out
  | .deferred true => r (.leave fn m) a (s.put b (.deferred false))
  | _ => none
def leftDef (fn : Func) (r : Rec) (a : AAct) : Out → Option Out
  | .fin (.returned _) (some m) s => r (.leave fn (settleA m)) a s
  | .fin (.panicked c) (some m) s => r (.leave fn (raisedA m c)) a s
  | _ => none
noncomputable def leaveOne (fn : Func) (m : AMode) (r : Rec) (a : AAct) (args : List AV) (s : St) : ATarget → Option Out
  | .collected b => obind (s.h.get b) (takeDef fn m b r a s)
  | .fn f cap => obind (r (.call f (args ++ cap) (some m)) a s) (leftDef fn r a)
noncomputable def jLeave (P : Program) (fn : Func) (m : AMode) (r : Rec) (a : AAct) (s : St) : Option Out :=
  @List.rec ADef (fun _ => Option Out) (leaveEnd P fn a s m) (fun d ds _ => leaveOne fn m r (a.setDefers ds) d.args s d.target) a.defers

noncomputable def endRoundA (l : Pos) (j : Option Code) (s : St) : Option Out :=
  omap (s.loop l) fun lp => .fin (.returned (.bool j.isNone)) none (s.put l (.loop (lp.with (match j with | none => .ready | some _ => .done) j)))
noncomputable def roundEnd (l : Pos) (o : Out) : Option Out :=
  @Out.rec (fun _ => Option Out) (fun e a s => @AExit.rec (fun _ => Option Out) (endRoundA l none s) (fun id => endRoundA l (some (.exit id)) s) (endRoundA l (some .ret) s) (fun c => @List.rec ADef (fun _ => Option Out) (some (.fin (.panicked c) none s)) (fun _ _ _ => none) a.defers) e) (fun _ _ _ => none) o
noncomputable def beginRoundA (P : Program) (l : Pos) (body : Code) (r : Rec) : Kt := fun a s =>
  obind (s.loop l) fun lp => cnd lp.ready (obind (jCode P body (some l) r a (s.put l (.loop (lp.with .busy lp.pending)))) (roundEnd l)) none
noncomputable def onlyNormal (k : Kt) (o : Out) : Option Out :=
  @Out.rec (fun _ => Option Out) (fun e a s => @AExit.rec (fun _ => Option Out) (k a s) (fun _ => none) none (fun _ => none) e) (fun _ _ _ => none) o
noncomputable def allLt (n : Nat) (l : List Tmp) : Bool := @List.rec Tmp (fun _ => Bool) true (fun t _ ih => cnd (Nat.ble (Nat.succ t) n) ih false) l
noncomputable def roundIn (P : Program) (l : Pos) (args : List AV) (r : Rec) (s : St) (lp : ALoop) : Option Out :=
  cnd (Nat.beq args.length lp.params.length && allLt lp.n lp.params) (obind (jCode P lp.assign (some l) r (.mk (setTms lp.params args lp.tm) lp.n [] none) s) (onlyNormal (beginRoundA P l lp.body r))) none
noncomputable def jRound (P : Program) (l : Pos) (args : List AV) (r : Rec) (s : St) : Option Out := obind (s.loop l) (roundIn P l args r s)

/-- A value and its new rows: a value without places; a slice, or a pointer, at a row of just these cells; a struct, a tuple of such. -/
inductive PRes where
  | val (v : AV)
  | row (t : TypeId) (o n : Nat) (lim wh : Bool) (l : List PRes)
  | ptr (t : TypeId) (l : List PRes)
  | agg (l : List PRes)
  | tup (l : List PRes)
mutual
/-- It, its rows laid from number k on. -/
noncomputable def layRes : PRes → Nat → AV × List ABlk
  | .val v, _ => (v, [])
  | .row t o n lim wh l, k => (.slice (pos (k + (layRess l k).2.length)) o n lim wh, (layRess l k).2 ++ [.cells true t (layRess l k).1.length (.of (layRess l k).1)])
  | .ptr t l, k => (.ptr (pos (k + (layRess l k).2.length)) 0, (layRess l k).2 ++ [.cells true t (layRess l k).1.length (.of (layRess l k).1)])
  | .agg l, k => (.agg (layRess l k).1, (layRess l k).2)
  | .tup l, k => (.tuple (layRess l k).1, (layRess l k).2)
noncomputable def layRess : List PRes → Nat → List AV × List ABlk
  | [], _ => ([], [])
  | p :: ps, k => ((layRes p k).1 :: (layRess ps (k + (layRes p k).2.length)).1, (layRes p k).2 ++ (layRess ps (k + (layRes p k).2.length)).2)
end
noncomputable def pushes (l : List ABlk) : St → St := @List.rec ABlk (fun _ => St → St) (fun s => s) (fun b _ ih s => ih (s.push b)) l
/-- What a call is known to come to: a value without places; a pointer to a new row of such values; a value and its new rows. -/
inductive ORes where
  | flat (v : AV)
  | ptr (t : TypeId) (l : List AV)
  | tree (r : PRes)
noncomputable def treeOut (s : St) (q : AV × List ABlk) : Out := .fin (.returned q.1) none (pushes q.2 s)
noncomputable def ORes.out (x : ORes) (s : St) : Out := @ORes.rec (fun _ => Out) (fun v => .fin (.returned v) none s) (fun t l => .fin (.returned (.ptr s.n 0)) none (s.row t l)) (fun r => treeOut s (layRes r (toN s.n))) x
/-- The calls that are known. -/
abbrev Orc := FuncId → List AV → St → Option ORes
noncomputable def orcTry (rc : Option AMode) (s : St) (els : Option Out) (o : Option ORes) : Option Out :=
  @Option.rec ORes (fun _ => Option Out) els (fun x => @Option.rec AMode (fun _ => Option Out) (some (x.out s)) (fun _ => els) rc) o
noncomputable def step (P : Program) (orc : Orc) (j : Job) (r : Rec) (a : AAct) (s : St) : Option Out :=
  @Job.rec (fun _ => Option Out) (fun rd c => obind (jCode P c rd r a s) (thenO (r (.loop rd c)))) (fun f args rc => orcTry rc s (jCall P f args rc r s) (orc f args s)) (fun fn m => jLeave P fn m r a s) (fun l args => jRound P l args r s) j
noncomputable def run (P : Program) (orc : Orc) (n : Nat) : Rec := @Nat.rec (fun _ => Rec) (fun _ _ _ => none) (fun _ ih j a s => step P orc j ih a s) n
/-- No call is known. -/
def noOrc : Orc := fun _ _ _ => none
/-- An argument: a value without places; a slice of so many elements, over a row of just these cells; a struct or an array of such cells. -/
inductive PArg where
  | val (v : AV)
  | row (n : Nat) (l : List PArg)
  | agg (l : List PArg)
def sliceOfA : AV → Option (Pos × Nat × Nat)
  | .slice b o n _ _ => some (b, o, n)
  | _ => none
def aggOfA : AV → Option (List AV)
  | .agg l => some l
  | _ => none
noncomputable def eqOL (l : List AV) (o : Option (List AV)) : Bool := @Option.rec (List AV) (fun _ => Bool) false (fun k => eqL (eqAV 4) k l) o
mutual
noncomputable def fitArg (s : St) : PArg → AV → Bool
  | .val u, v => eqAV 4 u v
  | .row n l, v => @Option.rec (Pos × Nat × Nat) (fun _ => Bool) false (fun q => cnd (Nat.beq q.2.1 0) (cnd (Nat.beq q.2.2 n) (@Option.rec (List AV) (fun _ => Bool) false (fun vs => fitArgs s l vs) (s.cells q.1 0 l.length)) false) false) (sliceOfA v)
  | .agg l, v => @Option.rec (List AV) (fun _ => Bool) false (fun vs => fitArgs s l vs) (aggOfA v)
noncomputable def fitArgs (s : St) : List PArg → List AV → Bool
  | [], vs => @List.rec AV (fun _ => Bool) true (fun _ _ _ => false) vs
  | p :: ps, vs => @List.rec AV (fun _ => Bool) false (fun v vs _ => cnd (fitArg s p v) (fitArgs s ps vs) false) vs
end
/-- A list of known calls. -/
noncomputable def orcOf (l : List (FuncId × List PArg × ORes)) : Orc := fun f args s =>
  @List.rec (FuncId × List PArg × ORes) (fun _ => Option ORes) none (fun x _ ih => cnd (Nat.beq x.1 f) (cnd (fitArgs s x.2.1 args) (some x.2.2) ih) ih) l

def AAct.none : AAct := ⟨.nil, 0, [], .none⟩

end Go.Proofs.Vai
/- How the interpreter begins and what it is asked. -/
namespace Go.Proofs.Vai
open Go

/-- Has it come back with 'true'? -/
def isT : Option Out → Bool
  | some (.fin (.returned (.bool b)) _ _) => b
  | _ => false

noncomputable def setTrB : List ABlk → Nat → Tr ABlk → Tr ABlk
  | [], _, t => t
  | b :: bs, n, t => setTrB bs (n + 1) (t.set (pos n) b)
/-- The state when the call begins: the variables' blocks, one by one. -/
noncomputable def vstart (bs : List ABlk) : St := ⟨setTrB bs 0 .nil, pos bs.length⟩
mutual
/-- An argument, its rows laid from number k on. -/
noncomputable def layArg : PArg → Nat → AV × List ABlk
  | .val v, _ => (v, [])
  | .row n l, k => (.slice (pos (k + (layArgs l k).2.length)) 0 n false false, (layArgs l k).2 ++ [.cells false 0 (layArgs l k).1.length (.of (layArgs l k).1)])
  | .agg l, k => (.agg (layArgs l k).1, (layArgs l k).2)
noncomputable def layArgs : List PArg → Nat → List AV × List ABlk
  | [], _ => ([], [])
  | p :: ps, k => ((layArg p k).1 :: (layArgs ps (k + (layArg p k).2.length)).1, (layArg p k).2 ++ (layArgs ps (k + (layArg p k).2.length)).2)
end
/-- Has it come back with v? -/
noncomputable def isFlat (v : AV) (o : Option Out) : Bool :=
  match o with
  | some (.fin (.returned v') _ _) => eqAV 6 v' v
  | _ => false
/-- Has it come back with a pointer to a new row of just these cells? -/
noncomputable def isRow (t : TypeId) (l : List AV) (o : Option Out) : Bool :=
  match o with
  | some (.fin (.returned (.ptr b 0)) _ s) => (match s.h.get b with
    | some (.cells true t' len c) => Nat.beq t' t && Nat.beq len l.length && (match c.sub 0 len with | some l' => eqL (eqAV 6) l' l | none => false)
    | _ => false)
  | _ => false
def sliceParts : AV → Option (Pos × Nat × Nat × Bool × Bool)
  | .slice b o n lim wh => some (b, o, n, lim, wh)
  | _ => none
def ptrPart : AV → Option Pos
  | .ptr b 0 => some b
  | _ => none
def tupPart : AV → Option (List AV)
  | .tuple l => some l
  | _ => none
/-- A row's cells, if it is a row of the run's own, of just so many. -/
noncomputable def ownRow (s : St) (b : Pos) (t : TypeId) (n : Nat) : Option (List AV) :=
  match s.h.get b with
  | some (.cells true t' len c) => cnd (Nat.beq t' t && Nat.beq len n) (c.sub 0 n) none
  | _ => none
mutual
/-- Is a value so? Where do its rows lie? -/
noncomputable def matchRes (s : St) : PRes → AV → Option (List Pos)
  | .val u, v => cnd (eqAV 6 u v) (some []) none
  | .row t o n lim wh l, v => obind (sliceParts v) fun q => cnd (Nat.beq q.2.1 o && Nat.beq q.2.2.1 n && q.2.2.2.1 == lim && q.2.2.2.2 == wh) (obind (ownRow s q.1 t l.length) fun vs => omap (matchRess s l vs) fun ps => ps ++ [q.1]) none
  | .ptr t l, v => obind (ptrPart v) fun b => obind (ownRow s b t l.length) fun vs => omap (matchRess s l vs) fun ps => ps ++ [b]
  | .agg l, v => obind (aggOfA v) fun vs => matchRess s l vs
  | .tup l, v => obind (tupPart v) fun vs => matchRess s l vs
noncomputable def matchRess (s : St) : List PRes → List AV → Option (List Pos)
  | [], vs => @List.rec AV (fun _ => Option (List Pos)) (some []) (fun _ _ _ => none) vs
  | p :: ps, vs => @List.rec AV (fun _ => Option (List Pos)) none (fun v vs _ => obind (matchRes s p v) fun a => omap (matchRess s ps vs) fun b => a ++ b) vs
end
noncomputable def notIn (b : Pos) (l : List Pos) : Bool := @List.rec Pos (fun _ => Bool) true (fun c _ ih => cnd (eqP b c) false ih) l
noncomputable def apartP (l : List Pos) : Bool := @List.rec Pos (fun _ => Bool) true (fun b l ih => cnd (notIn b l) ih false) l
/-- Has it come back so? -/
noncomputable def isTree (r : PRes) (o : Option Out) : Bool :=
  match o with
  | some (.fin (.returned v) _ s) => (match matchRes s r v with
    | some ps => apartP ps
    | none => false)
  | _ => false
end Go.Proofs.Vai
