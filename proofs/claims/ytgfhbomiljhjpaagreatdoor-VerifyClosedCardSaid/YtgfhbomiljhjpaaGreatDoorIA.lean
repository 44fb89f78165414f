/- Part IA of the proof of VerifyClosed: texts of the interpreter and what it shows, under short names. No condition. -/
import GoSem.Dispatch
import GoSem.Machine.Exec
import Derived.IntWalk
import Derived.Below
import Derived.Laws.AppendOwn
import Derived.RowKit
set_option linter.unusedVariables false
set_option linter.unusedSimpArgs false
set_option linter.unusedSectionVars false
open BitVec renaming ofInt→TV
open Bool renaming eq_iff_iff→T8,and_eq_true→Uj
open Go.IntKind renaming wrap→TU
open Go.Region renaming binds→TX
open Int renaming ofNat→TP,rec→TT,ofNat_eq_natCast→T9
open List renaming rec→TN,getElem?_eq_none→T1,getElem?_append_left→T3,getElem?_take→T4,getElem?_append_right→T5,getElem?_drop→T6,not_mem_nil→Ub,map_cons→Uc,map_nil→Ud,getElem?_map→Ue,mem_cons_self→Uk,mem_cons_of_mem→Ul,take_succ_cons→Um,flatten_cons→Un,length_append→Up,length_cons→Uq,length_take→Ur
open Nat renaming rec→TI,beq→TJ,div→TK,sub→TL,succ→TM,ble→TO,pred→TQ,add→TS,mul→TW,blt→TY,beq_eq→T0,lt_or_ge→T2,eq_of_beq_eq_true→T7,le_of_ble_eq_true→Ua,lt_of_lt_of_le→Ug,le_refl→Uh,le_trans→Ui,succ_mul→Uo,min_eq_left→Us
open Option renaming rec→TH,bind_some→Uf
open Option.some renaming inj→TZ
namespace Go.Proofs.Sai
section
open Go
@[reducible] noncomputable def aQ {α:Type} (b:Bool) (x y:α):α:=@Bool.rec (fun _=>α) y x b
@[reducible] noncomputable def ai {α β:Type} (o:Option α) (f:α→Option β):Option β:=@TH α (fun _=>Option β) none f o
@[reducible] noncomputable def omap {α β:Type} (o:Option α) (f:α→β):Option β:=@TH α (fun _=>Option β) none (fun x=>some (f x)) o
inductive Pos:Type where
 |one
 |o (p:Pos)
 |i (p:Pos)
noncomputable def Pos.succ (p:Pos):Pos:=@Pos.rec (fun _=>Pos) (.o .one) (fun p _=>.i p) (fun _ ih=>.o ih) p
noncomputable def yD (f:Nat):Nat→Pos:=
 @TI (fun _=>Nat→Pos) (fun _=>.one) (fun _ ih n=>aQ (TJ n 0) .one (aQ (TJ (Nat.mod n 2) 1) (.o (ih (TK n 2))) (.i (ih (TL (TK n 2) 1))))) f
noncomputable def pos (n:Nat):Pos:=yD (TM n) n
inductive Tr (α:Type):Type where
 |nil
 |node (v:Option α) (l r:Tr α)
noncomputable def Tr.get {α:Type} (t:Tr α) (p:Pos):Option α:=
 @Pos.rec (fun _=>Tr α→Option α) (fun t=>@Tr.rec α (fun _=>Option α) none (fun v _ _ _ _=>v) t)
  (fun _ ih t=>@Tr.rec α (fun _=>Option α) none (fun _ l _ _ _=>ih l) t)
  (fun _ ih t=>@Tr.rec α (fun _=>Option α) none (fun _ _ r _ _=>ih r) t) p t
noncomputable def Tr.A9 {α:Type} (v:Option α) (p:Pos):Tr α→Tr α:=
 @Pos.rec (fun _=>Tr α→Tr α) (fun t=>@Tr.rec α (fun _=>Tr α) (.node v .nil .nil) (fun _ l r _ _=>.node v l r) t)
  (fun _ ih t=>@Tr.rec α (fun _=>Tr α) (.node none (ih .nil) .nil) (fun u l r _ _=>.node u (ih l) r) t)
  (fun _ ih t=>@Tr.rec α (fun _=>Tr α) (.node none .nil (ih .nil)) (fun u l r _ _=>.node u l (ih r)) t) p
noncomputable def Tr.set {α:Type} (t:Tr α) (p:Pos) (v:α):Tr α:=Tr.A9 (some v) p t
inductive Ty where
 |int (k:IntKind)
 |bool
 |str
 |aY (ts:List Ty)
 |ref (ts:List Ty)
inductive Pz where
 |jg (o:BinOp) (k:IntKind)
 |cmp (o:BinOp)
 |conv (k:IntKind)
 |jH (o:BinOp)
 |cat
 |gw
 |Ke
 |fY
 |not
 |and
 |beq
 |nil
 |snoc
 |app
 |sub
 |len
 |yE
 |cell (k:Nat)
 |off (k n:Nat)
 |row
 |dr (o n:Nat)
 |rep
 |uL
 |nA
 |rN
 |Ba
 |Bb
inductive Tm where
 |var (n:Nat)
 |int (k:IntKind) (n:Int)
 |bool (b:Bool)
 |str (l:List Nat)
 |op (o:Pz) (l:List Tm)
class Gam where
 g:List (Tm×Bool)
 yF:Bool
inductive AV:Type where
 |bool (b:Bool)
 |int (k:IntKind) (n:Int)
 |float (k:FloatKind) (bits:Nat)
 |str (s:List Nat)
 |ptr (b:Pos) (o:Nat)
 |bY
 |slice (b:Pos) (o n:Nat) (lim wh:Bool)
 |aJ
 |map (b:Pos)
 |ck
 |func (f:FuncId) (first cap:List AV)
 |yield (b:Pos)
 |bU
 |iface (t:TypeId) (v:AV)
 |bw
 |agg (cs:List AV)
 |tuple (vs:List AV)
 |bad
 |tm (t:Ty) (x:Tm)
 |vl (ts:List Ty) (n:Tm) (b:Pos)
 |e0 (z:Bool)
 |pe (ts:List Ty) (b:Pos) (i:Tm) (o:Nat)
 |fb (x:Tm)
def AV.undef:AV:=.tuple []
def AV.cells:AV→List AV
 | .agg cs=>cs
 |v=>[v]
def AV.one:AV→Bool
 | .agg _=>false
 | .tuple _=>false
 | .bad=>false
 |_=>true
noncomputable def cd (l:List AV):Bool:=@TN AV (fun _=>Bool) true (fun v _ ih=>aQ v.one ih false) l
inductive C5:Type where
 |fn (f:FuncId) (cap:List AV)
 |collected (b:Pos)
structure jI where
 target:C5
 args:List AV
abbrev dN:=List (AV×Bool)
inductive cz where
 |returning
 |panicking (c:dN)
inductive gW where
 |normal
 |exit (id:Nat)
 |ret
 |panic (c:dN)
structure aV where
 tm:Tr AV
 n:Nat
 defers:List jI
 rc:Option cz
structure er where
 state:LoopState
 pending:Option Code
 tm:Tr AV
 n:Nat
 params:List Tmp
 defers:Pos
 f:FuncId
 p:Pos
inductive Cs where
 |nB (l:List AV)
 |many (t:Tr AV)
inductive bf where
 |cells (own:Bool) (elem:TypeId) (len:Nat) (c:Cs)
 |map (es:List (AV×AV))
 |fD (s:List Nat) (pos:Nat)
 |loop (l:er)
 |deferred (ds:Bool)
 |dead
 |A8 (m:Option Pos)
 |frozen (o:Obj)
 |vec (own:Bool) (t:TypeId) (ts:List Ty) (n x:Tm)
 |bW (g:Bool) (kt:Ty) (ts:List Ty) (x:Tm)
structure St where
 h:Tr bf
 n:Pos
noncomputable def St.push (s:St) (b:bf):St:=@St.rec (fun _=>St) (fun h n=>.mk (h.set n b) n.succ) s
noncomputable def St.put (s:St) (i:Pos) (b:bf):St:=@St.rec (fun _=>St) (fun h n=>.mk (h.set i b) n) s
mutual
def Bc:Value→Option AV
 | .bool b=>some (.bool b)
 | .int k n=>some (.int k n)
 | .float k b=>some (.float k b)
 | .string s=>some (.str (s.data.toList.map (·.toNat)))
 | .pointer none=>some .bY
 | .slice none 0 0=>some .aJ
 | .map none=>some .ck
 | .nilFunc=>some .bU
 | .nilIface=>some .bw
 | .agg cs=>match yG cs.toList with
  |some l=>cond (l.all AV.one) (some (.agg l)) none
  |none=>none
 | .tuple cs=>match yG cs.toList with
  |some l=>some (.tuple l)
  |none=>none
 |_=>none
def yG:List Value→Option (List AV)
 |[]=>some []
 |v::vs=>match Bc v with
  |some a=>match yG vs with
   |some as=>some (a::as)
   |none=>none
  |none=>none
end
noncomputable def fQ (v:Option AV):AV:=@TH AV (fun _=>AV) .undef (fun v=>v) v
noncomputable def aV.tmp (a:aV) (t:Tmp):AV:=fQ (a.tm.get (pos t))
noncomputable def aV.eval (a:aV) (P:Program) (x:Operand):Option AV:=
 @Operand.rec (fun _=>Option AV) (fun t=>some (a.tmp t)) (fun v=>Bc v) (fun g=>aQ (TO (TM g) P.globals.size) (some (.ptr (pos g) 0)) none) (fun f=>some (.func f [] [])) x
noncomputable def aV.put (a:aV) (d:Option Tmp) (v:AV):Option aV:=
 @TH Tmp (fun _=>Option aV) (some a) (fun d=>@aV.rec (fun _=>Option aV) (fun tm n df rc=>aQ (TO (TM d) n) (some (.mk (tm.set (pos d) v) n df rc)) none) a) d
noncomputable def aV.qt (a:aV) (rc:Option cz):aV:=@aV.rec (fun _=>aV) (fun tm n df _=>.mk tm n df rc) a
noncomputable def aV.bH (a:aV) (ds:List jI):aV:=@aV.rec (fun _=>aV) (fun tm n _ rc=>.mk tm n ds rc) a
noncomputable def cR (P:Program) (a:aV) (l:List Operand):Option (List AV):=
 @TN Operand (fun _=>Option (List AV)) (some []) (fun x _ ih=>ai (a.eval P x) fun v=>ai ih fun vs=>some (v::vs)) l
def Gc (l:List Nat):List AV:=l.map fun (c:Nat)=>.int .u8 (TP c)
def Gf:List AV→Option (List Nat)
 |[]=>some []
 | .int .u8 (.ofNat c)::vs=>cond (TO c 255) (match Gf vs with
  |some l=>some (c::l)
  |none=>none) none
 |_=>none
noncomputable def nth (l:List AV):Nat→Option AV:=
 @TN AV (fun _=>Nat→Option AV) (fun _=>none) (fun v _ ih i=>aQ (TJ i 0) (some v) (ih (TQ i))) l
noncomputable def mw (l:List AV):Nat→List AV:=
 @TN AV (fun _=>Nat→List AV) (fun _=>[]) (fun v l ih i=>aQ (TJ i 0) (v::l) (ih (TQ i))) l
noncomputable def my (l:List AV):Nat→List AV:=
 @TN AV (fun _=>Nat→List AV) (fun _=>[]) (fun v _ ih i=>aQ (TJ i 0) [] (v::ih (TQ i))) l
noncomputable def vh (vs l:List AV):Nat→List AV:=
 @TN AV (fun _=>Nat→List AV) (fun _=>[]) (fun v l ih i=>aQ (TJ i 0) (vs++mw (v::l) vs.length) (v::ih (TQ i))) l
noncomputable def Gg (c:Tr AV) (n:Nat):Nat→Option (List AV):=
 @TI (fun _=>Nat→Option (List AV)) (fun _=>some []) (fun _ ih o=>ai (c.get (pos o)) fun v=>ai (ih (TM o)) fun vs=>some (v::vs)) n
noncomputable def gX (l:List AV):Tr AV→Nat→Tr AV:=
 @TN AV (fun _=>Tr AV→Nat→Tr AV) (fun c _=>c) (fun v _ ih c o=>ih (c.set (pos o) v) (TM o)) l
noncomputable def Cs.get (c:Cs) (i:Nat):Option AV:=@Cs.rec (fun _=>Option AV) (fun l=>nth l i) (fun t=>t.get (pos i)) c
noncomputable def Cs.sub (c:Cs) (o n:Nat):Option (List AV):=@Cs.rec (fun _=>Option (List AV)) (fun l=>some (my (mw l o) n)) (fun t=>Gg t n o) c
noncomputable def Cs.over (c:Cs) (o:Nat) (vs:List AV):Cs:=@Cs.rec (fun _=>Cs) (fun l=>.nB (vh vs l o)) (fun t=>.many (gX vs t o)) c
noncomputable def Cs.of (vs:List AV):Cs:=aQ (TO vs.length 32) (.nB vs) (.many (gX vs .nil 0))
noncomputable def Cs.grow (c:Cs) (n:Nat) (vs:List AV):Cs:=@Cs.rec (fun _=>Cs) (fun l=>.of (my l n++vs)) (fun t=>.many (gX vs t n)) c
noncomputable def Gh (o n:Nat) (b:bf):Option (List AV):=
 @bf.rec (fun _=>Option (List AV)) (fun _ _ len c=>aQ (TO (TS o n) len) (c.sub o n) none) (fun _=>none) (fun _ _=>none) (fun _=>none) (fun _=>none) none (fun _=>none) (fun _=>none) (fun _ _ _ _ _=>none) (fun _ _ _ _=>none) b
noncomputable def St.cells (s:St) (b:Pos) (o n:Nat):Option (List AV):=ai (s.h.get b) (Gh o n)
noncomputable def Gi (s:St) (b:Pos) (o:Nat) (vs:List AV) (k:bf):Option St:=
 @bf.rec (fun _=>Option St) (fun own e len c=>aQ own (aQ (TO (TS o vs.length) len) (some (s.put b (.cells true e len (c.over o vs)))) none) none) (fun _=>none) (fun _ _=>none) (fun _=>none) (fun _=>none) none (fun _=>none) (fun _=>none) (fun _ _ _ _ _=>none) (fun _ _ _ _=>none) k
noncomputable def St.store (s:St) (b:Pos) (o:Nat) (vs:List AV):Option St:=aQ (cd vs) (ai (s.h.get b) (Gi s b o vs)) none
noncomputable def St.row (s:St) (e:TypeId) (vs:List AV):St:=s.push (.cells true e vs.length (.of vs))
def Ng:TypeDesc→Bool
 | .struct _=>true
 | .array _ _=>true
 |_=>false
def Gj (P:Program) (t:TypeId):Option Bool:=(P.underlying t).map Ng
def bD (P:Program) (t:TypeId):Option Nat:=(P.info? t).map (·.size)
def iZ (P:Program) (t:TypeId):Option Nat:=(P.info? t).map (·.bytes)
def cU (P:Program) (t:TypeId):Option AV:=(P.info? t).bind fun i=>i.zero.bind Bc
def dt (P:Program) (t:TypeId):Option TypeId:=
 match P.underlying t with
 |some (.slice e)=>some e
 |_=>none
def i5 (P:Program) (t:TypeId) (f:Nat):Option Field:=
 match P.underlying t with
 |some (.struct fs)=>fs[f]?
 |_=>none
def rf (P:Program) (t:TypeId):Option (TypeId×TypeId):=
 match P.underlying t with
 |some (.map k e)=>some (k,e)
 |_=>none
def qu (P:Program) (e:TypeId):Bool:=
 match P.underlying e with
 |some (.int .u8)=>true
 |_=>false
def wH (P:Program) (t:TypeId):Bool:=
 match P.underlying t with
 |some .string=>true
 |_=>false
def nC (P:Program) (t:TypeId):Bool:=
 match P.underlying t with
 |some (.interface _)=>true
 |none=>true
 |_=>false
noncomputable def C6 (P:Program) (s:St) (t:TypeId) (b:Pos) (o:Nat):Option AV:=ai (bD P t) fun n=>omap (s.cells b o n) .agg
noncomputable def C7 (o:Nat) (b:bf):Option AV:=
 @bf.rec (fun _=>Option AV) (fun _ _ len c=>aQ (TO (TM o) len) (c.get o) none) (fun _=>none) (fun _ _=>none) (fun _=>none) (fun _=>none) none (fun _=>none) (fun _=>none) (fun _ _ _ _ _=>none) (fun _ _ _ _=>none) b
noncomputable def St.load (P:Program) (s:St) (t:TypeId) (b:Pos) (o:Nat):Option AV:=
 ai (Gj P t) fun g=>aQ g (C6 P s t b o) (ai (s.h.get b) (C7 o))
noncomputable def iJ (P:Program) (t:TypeId) (cs:List AV) (off:Nat):Option AV:=
 ai (Gj P t) fun g=>aQ g (ai (bD P t) fun n=>aQ (TO (TS off n) cs.length) (some (.agg (my (mw cs off) n))) none) (nth cs off)
def PY (f:TypeId→Option (List Ty)):List TypeId→Option (List Ty)
 |[]=>some []
 |t::ts=>match f t with
  |some a=>match PY f ts with
   |some b=>some (a++b)
   |none=>none
  |none=>none
def kR (P:Program):Nat→TypeId→Option (List Ty)
 |0,_=>none
 |d+1,t=>match P.underlying t with
  |some .bool=>some [.bool]
  |some (.int k)=>some [.int k]
  |some .string=>some [.str]
  |some (.slice e)=>match kR P d e with
   |some l=>some [.aY l]
   |none=>none
  |some (.pointer e)=>match kR P d e with
   |some l=>some [.ref l]
   |none=>none
  |some (.struct fs)=>PY (kR P d) (fs.toList.map (·.type))
  |_=>none
variable [Gam]
noncomputable def mz (l:List Nat):List Nat→Bool:=
 @TN Nat (fun _=>List Nat→Bool) (fun m=>@TN Nat (fun _=>Bool) false (fun _ _ _=>true) m)
  (fun a _ ih m=>@TN Nat (fun _=>Bool) false (fun b y _=>aQ (TO (TM a) b) true (aQ (TJ a b) (ih y) false)) m) l
noncomputable def vi (l:List Nat):List Nat→Bool:=
 @TN Nat (fun _=>List Nat→Bool) (fun m=>@TN Nat (fun _=>Bool) true (fun _ _ _=>false) m)
  (fun a _ ih m=>@TN Nat (fun _=>Bool) false (fun b y _=>aQ (TJ a b) (ih y) false) m) l
noncomputable def Eu (a b:Int):Bool:=
 @TT (fun _=>Bool) (fun a=>@TT (fun _=>Bool) (fun b=>TJ a b) (fun _=>false) b) (fun a=>@TT (fun _=>Bool) (fun _=>false) (fun b=>TJ a b) b) a
noncomputable def Gk (a b:Int):Bool:=
 @TT (fun _=>Bool) (fun a=>@TT (fun _=>Bool) (fun b=>TO (TM a) b) (fun _=>false) b) (fun a=>@TT (fun _=>Bool) (fun _=>true) (fun b=>TO (TM b) a) b) a
def rO:IntKind→IntKind→Bool
 | .i64,.i64=>true
 | .u8,.u8=>true
 |j,k=>decide (j=k)
noncomputable def yH (k:IntKind) (n:Int):Int:=
 @IntKind.rec (fun _=>Int) (TU .i8 n) (TU .i16 n) (TU .i32 n)
  (@TT (fun _=>Int) (fun m=>aQ (TO m 9223372036854775807) (.ofNat m) (TU .i64 (.ofNat m))) (fun m=>TU .i64 (.negSucc m)) n)
  (TU .u8 n) (TU .u16 n) (TU .u32 n) (TU .u64 n) k
def Nh:Pz→Pz→Bool
 | .jg o k,.jg p j=>decide (o=p)&&rO k j
 | .cmp o,.cmp p=>decide (o=p)
 | .conv k,.conv j=>rO k j
 | .jH o,.jH p=>decide (o=p)
 | .cat,.cat=>true
 | .gw,.gw=>true
 | .Ke,.Ke=>true
 | .fY,.fY=>true
 | .not,.not=>true
 | .and,.and=>true
 | .beq,.beq=>true
 | .nil,.nil=>true
 | .snoc,.snoc=>true
 | .app,.app=>true
 | .sub,.sub=>true
 | .len,.len=>true
 | .yE,.yE=>true
 | .cell k,.cell j=>TJ k j
 | .off k n,.off j m=>TJ k j&&TJ n m
 | .row,.row=>true
 | .dr k n,.dr j m=>TJ k j&&TJ n m
 | .rep,.rep=>true
 | .uL,.uL=>true
 | .nA,.nA=>true
 | .rN,.rN=>true
 | .Ba,.Ba=>true
 | .Bb,.Bb=>true
 |_,_=>false
mutual
noncomputable def cK:Tm→Tm→Bool
 | .var n,y=>(match y with | .var m=>TJ n m |_=>false)
 | .int k n,y=>(match y with | .int j m=>rO k j&&Eu n m |_=>false)
 | .bool b,y=>(match y with | .bool c=>b==c |_=>false)
 | .str l,y=>(match y with | .str m=>vi l m |_=>false)
 | .op o l,y=>(match y with | .op p m=>aQ (Nh o p) (vj l m) false |_=>false)
noncomputable def vj:List Tm→List Tm→Bool
 |[],m=>(match m with |[]=>true |_=>false)
 |x::l,m=>(match m with |y::m=>aQ (cK x y) (vj l m) false |_=>false)
end
mutual
noncomputable def kO:Ty→Ty→Bool
 | .int k,y=>(match y with | .int j=>rO k j |_=>false)
 | .bool,y=>(match y with | .bool=>true |_=>false)
 | .str,y=>(match y with | .str=>true |_=>false)
 | .aY l,y=>(match y with | .aY m=>cM l m |_=>false)
 | .ref l,y=>(match y with | .ref m=>cM l m |_=>false)
noncomputable def cM:List Ty→List Ty→Bool
 |[],m=>(match m with |[]=>true |_=>false)
 |x::l,m=>(match m with |y::m=>aQ (kO x y) (cM l m) false |_=>false)
end
noncomputable def di (t:Tm):Option Bool:=@TN (Tm×Bool) (fun _=>Option Bool) none (fun c _ ih=>aQ (cK c.1 t) (some c.2) ih) Gam.g
noncomputable def rP (t:Tm):Bool:=@TH Bool (fun _=>Bool) false (fun b=>b) (di t)
def kS:AV→Option (Ty×Tm)
 | .int k n=>some (.int k,.int k n)
 | .bool b=>some (.bool,.bool b)
 | .str l=>some (.str,.str l)
 | .aJ=>some (.aY [],.op .nil [])
 | .e0 _=>some (.aY [],.op .nil [])
 | .tm t x=>some (t,x)
 |_=>none
noncomputable def fg:AV→Option Bool
 | .bool b=>some b
 | .tm .bool t=>di t
 |_=>none
noncomputable def wI (t:Tm):AV:=@TH Bool (fun _=>AV) (.tm .bool t) (fun b=>.bool b) (di t)
def fZ:AV→Bool
 | .tm _ _=>true
 |_=>false
def Bd:Tm→Option Int
 | .int _ n=>some n
 |_=>none
noncomputable def kP (i:Tm):Bool:=@TH Int (fun _=>Bool) (rP (.op (.cmp .leq) [.int .i64 0,i])) (fun n=> !Gk n 0) (Bd i)
noncomputable def fG (i n:Tm):Bool:=rP (.op (.cmp .lss) [i,n])
noncomputable def et (i n:Tm):Bool:=aQ (cK i n) true (rP (.op (.cmp .leq) [i,n]))
def vk:Tm→Option (Tm×IntKind×Int)
 | .op (.cmp .eql) [y,.int k n]=>some (y,k,n)
 |_=>none
def vm:Tm→Option (Tm×List Nat)
 | .op (.jH .eql) [y,.str l]=>some (y,l)
 |_=>none
noncomputable def pd (k:IntKind) (x:Tm):Option Int:=@TN (Tm×Bool) (fun _=>Option Int) none (fun c _ ih=>
 aQ c.2 (@TH (Tm×IntKind×Int) (fun _=>Option Int) ih (fun q=>aQ (cK q.1 x&&rO q.2.1 k) (some q.2.2) ih) (vk c.1)) ih) Gam.g
noncomputable def pf (x:Tm):Option (List Nat):=@TN (Tm×Bool) (fun _=>Option (List Nat)) none (fun c _ ih=>
 aQ c.2 (@TH (Tm×List Nat) (fun _=>Option (List Nat)) ih (fun q=>aQ (cK q.1 x) (some q.2) ih) (vm c.1)) ih) Gam.g
noncomputable def eG (t:Ty) (x:Tm):AV:=
 match t with
 | .int k=>@TH Int (fun _=>AV) (.tm (.int k) x) (fun n=>.int k n) (pd k x)
 | .str=>@TH (List Nat) (fun _=>AV) (.tm .str x) (fun l=>.str l) (pf x)
 | .bool=>wI x
 |t=>.tm t x
noncomputable def kT (v:AV):AV:=
 match v with
 | .tm t x=>eG t x
 |v=>v
noncomputable def R4 (k:IntKind) (y:Tm):Bool:=@TH Int (fun _=>Bool) (rP (.op (.cmp .lss) [.int k 0,y])) (fun n=> !Eu n 0) (Bd y)
noncomputable def C8 (x:Tm):Bool:=rP (.op (.cmp .lss) [.int .i64 0,.op .len [x]])
@[reducible] noncomputable def Ss {α:Type} (_:IntKind) (_:Tm) (_:Nat) (o:Option α):Option α:=o
@[reducible] noncomputable def Su {α:Type} (_:Tm) (o:Option α):Option α:=o
noncomputable def nD (x:Tm) (k:Nat):Tm:=
 match x with
 | .op (.off o n) [y]=>aQ (TO (TM k) n) (.op (.cell (TS o k)) [y]) (.op (.cell k) [x])
 |x=>.op (.cell k) [x]
noncomputable def f9 (x:Tm):List Ty→Nat→List AV
 |[],_=>[]
 |t::ts,k=>eG t (nD x k)::f9 x ts (k+1)
def Gl:AV→Option Tm
 | .int k n=>some (.int k n)
 | .tm (.int _) x=>some x
 |_=>none
def L2:AV→Option Tm
 | .str l=>some (.str l)
 | .tm .str x=>some x
 |_=>none
def isVl:AV→Bool
 | .vl _ _ _=>true
 |_=>false
inductive aW where
 |val (v:AV) (s:St)
 |skip (s:St)
 |enter (f:FuncId) (args:List AV) (s:St)
 |round (l:Pos) (args:List AV) (s:St)
 |defer (d:jI) (s:St)
 |recover (s:St)
 |panic (v:AV) (s:St)
def rQ (P:Program) (t:TypeId):Nat:=
 match P.underlying t with
 |some .bool=>0
 |some (.pointer _)=>1
 |some (.slice _)=>2
 |some (.map _ _)=>3
 |some (.func _ _ _)=>4
 |some (.interface _)=>5
 |some (.struct _)=>6
 |some (.int _)=>7
 |some .string=>8
 |_=>9
def cS (P:Program) (t:TypeId):Option (List (TypeId×Nat)):=
 match P.underlying t with
 |some (.struct fs)=>bif P.stoodInHeld t||fs.toList.any (fun f=>f.name== "_") then none else some (fs.toList.map fun f=>(f.type,f.offset))
 |_=>none
def mM (P:Program) (t:TypeId) (k:Nat):Bool:=TJ (rQ P t) k
noncomputable def rh (P:Program) (t:TypeId) (k:Nat) (b:Bool):Option Bool:=aQ (mM P t k) (some b) none
noncomputable def Gm (P:Program) (r:TypeId→AV→AV→Option Bool) (xs ys:List AV) (fs:List (TypeId×Nat)):Option Bool:=
 @TN (TypeId×Nat) (fun _=>Option Bool) (some true) (fun f _ ih=>ai (iJ P f.1 xs f.2) fun x=>ai (iJ P f.1 ys f.2) fun y=>ai (r f.1 x y) fun b=>aQ b ih (some false)) fs
noncomputable def jh (p:Pos):Pos→Bool:=
 @Pos.rec (fun _=>Pos→Bool) (fun q=>@Pos.rec (fun _=>Bool) true (fun _ _=>false) (fun _ _=>false) q)
  (fun _ ih q=>@Pos.rec (fun _=>Bool) false (fun q _=>ih q) (fun _ _=>false) q) (fun _ ih q=>@Pos.rec (fun _=>Bool) false (fun _ _=>false) (fun q _=>ih q) q) p
def ptrEq (P:Program) (t:TypeId):Option Bool:=
 match P.underlying t with
 |some (.pointer e)=>(match bD P e with
  |some _=>some true
  |none=>none)
 |_=>none
noncomputable def PA (P:Program) (r:TypeId→AV→AV→Option Bool) (t:TypeId) (x y:AV):Option Bool:=
 match x with
 | .int j a=>(match y with | .int k b=>aQ (rO j k) (rh P t 7 (Eu a b)) none |_=>none)
 | .str a=>(match y with | .str b=>rh P t 8 (vi a b) |_=>none)
 | .bool a=>(match y with | .bool b=>rh P t 0 (a==b) |_=>none)
 | .agg xs=>(match y with | .agg ys=>ai (cS P t) (Gm P r xs ys) |_=>none)
 | .bY=>(match y with | .bY=>rh P t 1 true | .ptr _ _=>rh P t 1 false |_=>none)
 | .ptr b o=>(match y with | .bY=>rh P t 1 false | .ptr c p=>aQ (jh b c&&TJ o p) (ptrEq P t) none |_=>none)
 | .aJ=>(match y with | .aJ=>rh P t 2 true | .slice .. =>rh P t 2 false |_=>none)
 | .slice .. =>(match y with | .aJ=>rh P t 2 false |_=>none)
 | .e0 _=>(match y with | .aJ=>rh P t 2 false |_=>none)
 | .ck=>(match y with | .ck=>rh P t 3 true | .map _=>rh P t 3 false |_=>none)
 | .map _=>(match y with | .ck=>rh P t 3 false |_=>none)
 | .bU=>(match y with | .bU=>rh P t 4 true | .func .. =>rh P t 4 false | .yield _=>rh P t 4 false |_=>none)
 | .func .. =>(match y with | .bU=>rh P t 4 false |_=>none)
 | .yield _=>(match y with | .bU=>rh P t 4 false |_=>none)
 | .bw=>(match y with | .iface .. =>rh P t 5 false | .bw=>rh P t 5 true |_=>none)
 | .iface .. =>(match y with | .bw=>rh P t 5 false |_=>none)
 |_=>none
noncomputable def ji (P:Program) (n:Nat):TypeId→AV→AV→Option Bool:=
 @TI (fun _=>TypeId→AV→AV→Option Bool) (fun _ _ _=>none) (fun _ ih t x y=>PA P ih t x y) n
def rR:AV→Bool
 | .bw=>true
 |_=>false
def kU:AV→Bool
 | .agg _=>true
 |_=>false
noncomputable def vn (P:Program) (t:TypeId) (p q:Ty×Tm):Option Bool:=
 match p.1 with
 | .int k=>(match q.1 with | .int j=>aQ (rO k j&&mM P t 7) (fg (.tm .bool (.op (.cmp .eql) [p.2,q.2]))) none |_=>none)
 | .str=>(match q.1 with | .str=>aQ (mM P t 8) (fg (.tm .bool (.op (.jH .eql) [p.2,q.2]))) none |_=>none)
 | .bool=>(match q.1 with | .bool=>aQ (mM P t 0) (fg (.tm .bool (.op .beq [p.2,q.2]))) none |_=>none)
 |_=>none
noncomputable def Kf (P:Program) (r:TypeId→AV→AV→Option Bool) (t:TypeId) (x y:AV):Option Bool:=
 aQ (fZ x||fZ y) (ai (kS x) fun p=>ai (kS y) fun q=>vn P t p q)
  (match x with
  | .agg xs=>(match y with | .agg ys=>ai (cS P t) (Gm P r xs ys) |_=>none)
  |x=>ji P 1 t x y)
noncomputable def uM (P:Program) (n:Nat):TypeId→AV→AV→Option Bool:=
 @TI (fun _=>TypeId→AV→AV→Option Bool) (fun _ _ _=>none) (fun _ ih t x y=>Kf P ih t x y) n
def qw:AV→Bool
 | .agg cs=>cs.any fZ
 |_=>false
noncomputable def PB (P:Program) (c:Bool) (t:TypeId) (x y:AV):Option Bool:=
 aQ (rR x&&rR y) (aQ c (rh P t 5 true) none) (aQ (kU x) (aQ (P.eqGuardType P.depth t) none (aQ (qw x||qw y) (uM P 8 t x y) (ji P 8 t x y))) (ji P 8 t x y))
noncomputable def iK (x y:AV):Bool:=
 match x with
 | .int j a=>(match y with | .int k b=>rO j k&&Eu a b |_=>false)
 | .str a=>(match y with | .str b=>vi a b |_=>false)
 | .bool a=>(match y with | .bool b=>a==b |_=>false)
 |_=>false
noncomputable def rS (xs:List AV):List AV→Bool:=
 @TN AV (fun _=>List AV→Bool) (fun ys=>@TN AV (fun _=>Bool) true (fun _ _ _=>false) ys)
  (fun x _ ih ys=>@TN AV (fun _=>Bool) false (fun y ys _=>aQ (iK x y) (ih ys) false) ys) xs
noncomputable def nE (x y:AV):Bool:=
 match x with
 | .agg xs=>(match y with | .agg ys=>rS xs ys |_=>false)
 |x=>iK x y
noncomputable def C9 (P:Program) (t:TypeId) (x y:AV):Option Bool:=ai (kS x) fun p=>ai (kS y) fun q=>ai (vn P t p q) fun b=>aQ b none (some false)
noncomputable def J8 (P:Program) (t:TypeId) (x y:AV):Option Bool:=aQ (fZ x) (C9 P t x y)<|ai (ji P 8 t x y) fun b=>aQ b (aQ (nE x y) (some true) none) (some false)
noncomputable def rT (P:Program) (r:TypeId→AV→Bool) (xs:List AV) (fs:List (TypeId×Nat)):Bool:=
 @TN (TypeId×Nat) (fun _=>Bool) true (fun f _ ih=>@TH AV (fun _=>Bool) false (fun x=>aQ (r f.1 x) ih false) (iJ P f.1 xs f.2)) fs
noncomputable def Gn (P:Program) (r:TypeId→AV→Bool) (t:TypeId) (x:AV):Bool:=
 match x with
 | .int _ _=>mM P t 7
 | .str _=>mM P t 8
 | .bool _=>mM P t 0
 | .agg xs=>@TH (List (TypeId×Nat)) (fun _=>Bool) false (fun fs=>rT P r xs fs) (cS P t)
 | .tm (.int _) _=>mM P t 7
 | .tm .str _=>mM P t 8
 |_=>false
noncomputable def ga (P:Program) (n:Nat):TypeId→AV→Bool:=@TI (fun _=>TypeId→AV→Bool) (fun _ _=>false) (fun _ ih t x=>Gn P ih t x) n
noncomputable def shA (k:IntKind) (a:Int) (n:Nat) (s:St):BinOp→Option aW
 | .shl=>some (.val (.int k (k.wrap (a*2 ^ n))) s)
 | .shr=>some (.val (.int k (a.fdiv (2 ^ n))) s)
 |_=>none
noncomputable def Sv (k:IntKind) (a b:Int) (s:St):Option aW:=aQ (Eu b 0) none (some (.val (.int k (k.wrap (a.tdiv b))) s))
noncomputable def Sw (k:IntKind) (a b:Int) (s:St):Option aW:=aQ (Eu b 0) none (some (.val (.int k (a.tmod b)) s))
def Sx (k:IntKind) (a b:Int):Int:=k.wrap ((TV k.bits a &&& TV k.bits b).toNat)
def orA (k:IntKind) (a b:Int):Int:=k.wrap ((TV k.bits a ||| TV k.bits b).toNat)
def PZ (k:IntKind) (a b:Int):Int:=k.wrap ((TV k.bits a ^^^ TV k.bits b).toNat)
noncomputable def Be:BinOp→IntKind→Int→Int→St→Option aW
 | .add=>fun k a b s=>some (.val (.int k (yH k (Int.add a b))) s)
 | .sub=>fun k a b s=>some (.val (.int k (yH k (Int.sub a b))) s)
 | .mul=>fun k a b s=>some (.val (.int k (yH k (Int.mul a b))) s)
 | .quo=>Sv
 | .rem=>Sw
 | .and=>fun k a b s=>some (.val (.int k (Sx k a b)) s)
 | .or=>fun k a b s=>some (.val (.int k (orA k a b)) s)
 | .xor=>fun k a b s=>some (.val (.int k (PZ k a b)) s)
 | .eql=>fun _ a b s=>some (.val (.bool (Eu a b)) s)
 | .neq=>fun _ a b s=>some (.val (.bool (!Eu a b)) s)
 | .lss=>fun _ a b s=>some (.val (.bool (Gk a b)) s)
 | .leq=>fun _ a b s=>some (.val (.bool (!Gk b a)) s)
 | .gtr=>fun _ a b s=>some (.val (.bool (Gk b a)) s)
 | .geq=>fun _ a b s=>some (.val (.bool (!Gk a b)) s)
 |_=>fun _ _ _ _=>none
noncomputable def rU:BinOp→FloatKind→Nat→Nat→St→Option aW
 | .add=>fun k a b s=>omap (k.format.add a b) fun r=>.val (.float k r) s
 | .sub=>fun k a b s=>omap (k.format.sub a b) fun r=>.val (.float k r) s
 | .mul=>fun k a b s=>omap (k.format.mul a b) fun r=>.val (.float k r) s
 | .quo=>fun k a b s=>omap (k.format.div a b) fun r=>.val (.float k r) s
 | .eql=>fun k a b s=>some (.val (.bool (k.format.order a b==some .eq)) s)
 | .neq=>fun k a b s=>some (.val (.bool (k.format.order a b != some .eq)) s)
 | .lss=>fun k a b s=>some (.val (.bool (k.format.order a b==some .lt)) s)
 | .leq=>fun k a b s=>some (.val (.bool (k.format.order a b==some .lt||k.format.order a b==some .eq)) s)
 | .gtr=>fun k a b s=>some (.val (.bool (k.format.order a b==some .gt)) s)
 | .geq=>fun k a b s=>some (.val (.bool (k.format.order a b==some .gt||k.format.order a b==some .eq)) s)
 |_=>fun _ _ _ _=>none
noncomputable def Bf:BinOp→List Nat→List Nat→St→Option aW
 | .add=>fun a b s=>aQ (TO (TS a.length b.length) 9223372036854775807) (some (.val (.str (a++b)) s)) none
 | .eql=>fun a b s=>some (.val (.bool (vi a b)) s)
 | .neq=>fun a b s=>some (.val (.bool (!vi a b)) s)
 | .lss=>fun a b s=>some (.val (.bool (mz a b)) s)
 | .leq=>fun a b s=>some (.val (.bool (mz a b||vi a b)) s)
 | .gtr=>fun a b s=>some (.val (.bool (!(mz a b||vi a b))) s)
 | .geq=>fun a b s=>some (.val (.bool (!mz a b)) s)
 |_=>fun _ _ _=>none
noncomputable def Gp (P:Program) (c:Bool) (t:TypeId):BinOp→AV→AV→St→Option aW
 | .eql=>fun x y s=>omap (PB P c t x y) fun b=>.val (.bool b) s
 | .neq=>fun x y s=>omap (PB P c t x y) fun b=>.val (.bool (!b)) s
 |_=>fun _ _ _=>none
noncomputable def Gq (op:BinOp) (k:IntKind) (a b:Int) (s:St):Option aW:=
 match b with
 | .ofNat n=>shA k a (min n k.bits) s op
 |_=>none
def P0:BinOp→Bool
 | .shl=>true
 | .shr=>true
 |_=>false
noncomputable def Gr (op:BinOp) (k:IntKind) (x y:Tm) (s:St):Option aW:=
 match op with
 | .add=>some (.val (.tm (.int k) (.op (.jg .add k) [x,y])) s)
 | .sub=>some (.val (.tm (.int k) (.op (.jg .sub k) [x,y])) s)
 | .mul=>some (.val (.tm (.int k) (.op (.jg .mul k) [x,y])) s)
 | .rem=>aQ (R4 k y) (some (.val (.tm (.int k) (.op (.jg .rem k) [x,y])) s)) none
 | .eql=>some (.val (wI (.op (.cmp .eql) [x,y])) s)
 | .neq=>some (.val (wI (.op (.cmp .neq) [x,y])) s)
 | .lss=>some (.val (wI (.op (.cmp .lss) [x,y])) s)
 | .leq=>some (.val (wI (.op (.cmp .leq) [x,y])) s)
 | .gtr=>some (.val (wI (.op (.cmp .gtr) [x,y])) s)
 | .geq=>some (.val (wI (.op (.cmp .geq) [x,y])) s)
 |_=>none
noncomputable def Gs (op:BinOp) (x y:Tm) (s:St):Option aW:=
 match op with
 | .eql=>some (.val (wI (.op (.jH .eql) [x,y])) s)
 | .neq=>some (.val (wI (.op (.jH .neq) [x,y])) s)
 | .lss=>some (.val (wI (.op (.jH .lss) [x,y])) s)
 |_=>none
noncomputable def L3 (op:BinOp) (p q:Ty×Tm) (s:St):Option aW:=
 match p.1 with
 | .int k=>(match q.1 with | .int j=>aQ (rO k j) (Gr op k p.2 q.2 s) none |_=>none)
 | .str=>(match q.1 with | .str=>Gs op p.2 q.2 s |_=>none)
 |_=>none
noncomputable def wJ (op:BinOp) (x y:Tm) (s:St):Option aW:=
 match op with
 | .eql=>some (.val (wI (.op .beq [x,y])) s)
 | .neq=>some (.val (wI (.op .not [.op .beq [x,y]])) s)
 |_=>none
def wK:AV→Option Tm
 | .bool b=>some (.bool b)
 | .tm .bool x=>some x
 |_=>none
def Sy:BinOp→Option Bool
 | .eql=>some false
 | .neq=>some true
 |_=>none
noncomputable def P1 (x:Tm):Bool:=rP (.op (.cmp .lss) [.int .i64 0,.op .len [x]])
noncomputable def Ni (op:BinOp) (s:St) (x:Tm):Option aW:=ai (Sy op) fun b=>aQ (P1 x) (some (.val (.bool b) s)) none
noncomputable def wL (op:BinOp) (s:St) (x y:AV):Option aW:=ai (kS x) fun p=>ai (kS y) fun q=>L3 op p q s
noncomputable def pg (P:Program) (ty:TypeId) (op:BinOp) (s:St) (x y:AV):Option aW:=
 match x with
 | .tm (.aY _) t=>(match y with | .aJ=>aQ (mM P ty 2) (Ni op s t) none |_=>none)
 | .tm .bool t=>aQ (mM P ty 0) (ai (wK y) fun u=>wJ op t u s) none
 | .bool b=>aQ (mM P ty 0) (ai (wK y) fun u=>wJ op (.bool b) u s) none
 |x=>wL op s x y
def Kg:AV→Bool
 | .fb _=>true
 |_=>false
noncomputable def vp (op:BinOp) (s:St) (x y:AV):Option aW:=
 match x with
 | .fb a=>(match y with | .fb b=>aQ (cK a b) (match op with | .neq=>some (.val (wI (.op .Bb [a])) s) |_=>none) none |_=>none)
 |_=>none
noncomputable def Gt (P:Program) (c:Bool) (op:BinOp) (t:TypeId) (s:St) (x y:AV):Option aW:=
 match x with
 | .int k a=>(match y with
  | .int k' b=>aQ (P0 op) (Gq op k a b s) (aQ (rO k k') (Be op k a b s) none)
  |_=>none)
 | .float k a=>(match y with
  | .float k' b=>aQ (decide (k=k')) (rU op k a b s) none
  |_=>none)
 | .str a=>(match y with
  | .str b=>Bf op a b s
  |_=>none)
 |x=>Gp P c t op x y s
noncomputable def P2 (P:Program) (c:Bool) (op:BinOp) (t:TypeId) (s:St) (x y:AV):Option aW:=aQ (fZ x||fZ y) (pg P t op s x y) (aQ (Kg x) (vp op s x y) (Gt P c op t s x y))
noncomputable def unA (op:UnOp) (x:AV):Option AV:=
 match op,x with
 | .neg,.int k n=>some (.int k (k.wrap (0 - n)))
 | .xor,.int k n=>some (.int k (PZ k (if k.signed then -1 else k.max) n))
 | .not,.bool b=>some (.bool !b)
 | .not,.tm .bool x=>some (wI (.op .not [x]))
 | .neg,.float k b=>some (.float k (Op.negFloat k b))
 |_,_=>none
noncomputable def Da (P:Program) (e:TypeId) (l:List Nat) (s:St):Option aW:=
 aQ (qu P e) (aQ (TO l.length 1000000) (some (.val (.slice s.n 0 l.length false true) (s.push (.cells false e l.length (.of (Gc l)))))) none) none
noncomputable def lS (P:Program) (e:TypeId) (x:AV) (s:St):Option aW:=
 aQ (qu P e) (match x with
  | .slice b o n _ _=>ai (s.cells b o n) fun cs=>omap (Gf cs) fun l=>.val (.str l) s
  | .aJ=>some (.val (.str []) s)
  |_=>none) none
noncomputable def rV (P:Program) (src dst e:TypeId) (b:Pos) (n:Nat) (s:St):bf→Option aW
 | .cells own t len c=>aQ (own&&TJ src dst&&qu P e&&qu P t&&TO n len) (some (.val (.slice s.n 0 n false false) ((s.put b .dead).push (.cells false t len c)))) none
 |_=>none
noncomputable def Bg (P:Program) (src dst e:TypeId) (s:St):AV→Option aW
 | .str l=>Da P e l s
 | .slice b 0 n _ _=>ai (s.h.get b) (rV P src dst e b n s)
 |_=>none
def rowOf (t:TypeId) (z:Nat):bf→Bool
 | .cells own u len _=>own&&TJ t u&&TO 1 z&&TO z len
 |_=>false
noncomputable def rk (P:Program) (t:TypeId) (s:St):AV→Option aW
 | .bY=>some (.val .bY s)
 | .ptr b 0=>ai (s.h.get b) fun k=>ai (bD P t) fun z=>aQ (rowOf t z k) (some (.val (.ptr b 0) s)) none
 |_=>none
noncomputable def P3 (P:Program) (src dst:TypeId) (x:AV) (s:St):Option aW:=
 ai (P.underlying src) fun us=>ai (P.underlying dst) fun ud=>
 match ud with
 | .int k=>(match x with | .int _ n=>some (.val (.int k (yH k n)) s) | .tm (.int _) y=>some (.val (.tm (.int k) (.op (.conv k) [y])) s) |_=>none)
 | .float k=>(match x with | .int _ n=>some (.val (.float k (k.nearest n)) s) | .float k' b=>aQ (decide (k=k')) (some (.val (.float k b) s)) none |_=>none)
 | .string=>(match x with
  | .str l=>some (.val (.str l) s)
  | .int _ (.ofNat n)=>aQ (TO n 127) (some (.val (.str [n]) s)) none
  |x=>ai (dt P src) fun e=>lS P e x s)
 | .slice e=>Bg P src dst e s x
 | .unsafePointer=>(match us with | .pointer t=>rk P t s x |_=>none)
 | .pointer t=>(match us with | .unsafePointer=>rk P t s x |_=>none)
 |_=>none
noncomputable def yI (place:Nat→Option (Nat×Nat)) (cells:List AV):List (Nat×AV)→Option (List AV)
 |[]=>some cells
 |(i,v)::rest=>
  ai (place i) fun p=>
   aQ (TJ v.cells.length p.2&&TO (TS p.1 p.2) cells.length&&cd v.cells) (yI place (my cells p.1++(v.cells++mw cells (TS p.1 p.2))) rest) none
def Db (P:Program) (fs:Array Field):Option (List (Nat×Nat)):=fs.toList.mapM fun f=>(P.info? f.type).map fun i=>(f.offset,i.size)
def mA (place:Nat→Option (Nat×Nat)):List Nat→Nat→Nat→Option (List Nat)
 |[],at_,n=>cond (TJ at_ n) (some []) none
 |i::is,at_,n=>match place i with
  |some p=>cond (TJ p.1 at_) (match mA place is (at_+p.2) n with |some r=>some (p.2::r) |none=>none) none
  |none=>none
def Gu (P:Program) (t:TypeId) (is:List Nat):Option (List Nat):=
 match P.info? t with
 |some it=>match it.zero with
  |some z=>match P.underlying t with
   |some (.struct fs)=>match Db P fs with
    |some ps=>mA (ps.toArray[·]?) is 0 z.cells.size
    |none=>none
   |some (.array _ e)=>match P.info? e with
    |some ie=>mA (fun i=>some (i*ie.size,ie.size)) is 0 z.cells.size
    |none=>none
   |_=>none
  |none=>none
 |none=>none
noncomputable def addPart (z:Nat) (r:List AV) (v:AV):Option (List AV):=
 match v with
 | .agg cs=>aQ (TJ cs.length z) (some (cs++r)) none
 | .tuple _=>none
 | .bad=>none
 |v=>aQ (TJ z 1) (some (v::r)) none
noncomputable def nF (zs:List Nat):List AV→Option (List AV):=
 @TN Nat (fun _=>List AV→Option (List AV)) (fun vs=>@TN AV (fun _=>Option (List AV)) (some []) (fun _ _ _=>none) vs)
  (fun z _ ih vs=>@TN AV (fun _=>Option (List AV)) none (fun v vs _=>ai (ih vs) fun r=>addPart z r v) vs) zs
noncomputable def Gv (P:Program) (t:TypeId) (parts:List (Nat×AV)):Option (List AV):=
 ai (cU P t) fun z=>aQ (cd z.cells) (match P.underlying t with
 |some (.struct fs)=>ai (Db P fs) fun ps=>yI (ps.toArray[·]?) z.cells parts
 |some (.array _ e)=>ai (bD P e) fun n=>yI (fun i=>some (i*n,n)) z.cells parts
 |_=>none) none
noncomputable def Nj (P:Program) (t:TypeId) (is:List Nat) (vs:List AV):Option AV:=
 omap (@TH (List Nat) (fun _=>Option (List AV)) (Gv P t (is.zip vs)) (fun zs=>nF zs vs) (Gu P t is)) .agg
def rW (z:List AV):Nat→List AV
 |0=>[]
 |n+1=>z++rW z n
def rX (P:Program) (e:TypeId) (n:Nat) (is:List Nat):Option (List Nat):=
 match P.info? e with
 |some ie=>cond (ie.zero.isSome&&TO n 16777216&&TO (n*ie.size) 16777216) (mA (fun i=>some (i*ie.size,ie.size)) is 0 (n*ie.size)) none
 |none=>none
noncomputable def kV (P:Program) (t:TypeId) (len:Nat) (is:List Nat) (vs:List AV) (s:St):Option aW:=
 ai (dt P t) fun e=>ai (rX P e len is) fun zs=>omap (nF zs vs) fun cs=>.val (.slice s.n 0 len true true) (s.row e cs)
noncomputable def ph:AV→Option Nat
 | .int .i64 (.ofNat n)=>some n
 |_=>none
noncomputable def mB (d:Nat) (v:Option AV):Option Nat:=@TH AV (fun _=>Option Nat) (some d) (fun v=>ph v) v
noncomputable def Nk (l:List Nat) (lo hi:Nat) (s:St):Option aW:=aQ (TO lo hi&&TO hi l.length) (some (.val (.str ((l.take hi).drop lo)) s)) none
noncomputable def Nl (z lo:Nat) (high max:Option AV) (s:St):AV→Option aW
 | .slice b o n lim wh=>ai (mB n high) fun hi=>ai (mB hi max) fun m=>
  aQ (TO lo hi&&TO hi n&&TJ m hi&&(high.isSome||max.isNone)) (some (.val (.slice b (TS o (TW lo z)) (TL hi lo) (max.isSome||(lim&&TJ hi n)) (wh&&TJ lo 0&&(max.isNone||(lim&&TJ hi n)))) s)) none
 | .aJ=>ai (mB 0 high) fun hi=>ai (mB hi max) fun m=>aQ (TJ lo 0&&TJ hi 0&&TJ m hi&&(high.isSome||max.isNone)) (some (.val .aJ s)) none
 | .e0 z=>ai (mB 0 high) fun hi=>ai (mB hi max) fun m=>aQ (TJ lo 0&&TJ hi 0&&TJ m hi&&(high.isSome||max.isNone)) (some (.val (.e0 (z||max.isSome)) s)) none
 |_=>none
noncomputable def Nm (n z lo:Nat) (high max:Option AV) (s:St):AV→Option aW
 | .ptr b o=>ai (mB n high) fun hi=>aQ (TO lo hi&&TJ hi n&&max.isNone&&TO n 16777216) (some (.val (.slice b (TS o (TW lo z)) (TL hi lo) true false) s)) none
 |_=>none
def mN:AV→Option Tm
 | .int .i64 n=>some (.int .i64 n)
 | .tm (.int .i64) x=>some x
 |_=>none
noncomputable def yJ (d:Tm) (v:Option AV):Option Tm:=@TH AV (fun _=>Option Tm) (some d) (fun v=>mN v) v
noncomputable def yK (h:Tm) (mx:Option AV):Bool:=@TH AV (fun _=>Bool) true (fun v=>@TH Tm (fun _=>Bool) false (fun t=>cK t h) (mN v)) mx
def Nn:Tm→Bool
 | .int .i64 (.ofNat 0)=>true
 |_=>false
noncomputable def Dc (P:Program) (t:TypeId) (ts:List Ty) (n:Tm) (b:Pos) (low high max:Option AV) (s:St):Option aW:=
 ai (dt P t) fun e=>ai (bD P e) fun z=>ai (yJ (.int .i64 0) low) fun l=>ai (yJ n high) fun h=>
  aQ (TJ z ts.length&&max.isNone&&Nn l&&kP h&&et h n) (some (.val (.vl ts h b) s)) none
noncomputable def jj (P:Program) (t:TypeId) (v:AV) (low high max:Option AV) (s:St):Option aW:=
 match v with
 | .tm (.aY ts) x=>ai (dt P t) fun e=>ai (bD P e) fun z=>ai (yJ (.int .i64 0) low) fun l=>ai (yJ (.op .len [x]) high) fun h=>
  aQ (TJ z ts.length&&(high.isSome||max.isNone)) (aQ (max.isSome&&Nn l&&Nn h&&yK h max&&C8 x) (some (.val (.e0 true) s))<|aQ (kP l&&et l h&&(high.isNone||et h (.op .len [x]))&&yK h max) (some (.val (.tm (.aY ts) (.op .sub [x,l,h])) s)) none) none
 |_=>none
noncomputable def wM (P:Program) (t:TypeId) (x:AV) (low high max:Option AV) (s:St):Option aW:=
 ai (mB 0 low) fun lo=>
 match P.underlying t with
 |some .string=>(match x with | .str l=>ai (mB l.length high) fun hi=>aQ max.isNone (Nk l lo hi s) none |_=>none)
 |some (.slice e)=>ai (bD P e) fun z=>Nl z lo high max s x
 |some (.array n e)=>ai (bD P e) fun z=>Nm n z lo high max s x
 |_=>none
noncomputable def rY (P:Program) (t:TypeId) (x:AV) (low high max:Option AV) (s:St):Option aW:=
 match x with
 | .vl ts n b=>Dc P t ts n b low high max s
 |x=>wM P t x low high max s
noncomputable def Gw (P:Program) (t:TypeId) (x:AV) (low high max:Option AV) (s:St):Option aW:=aQ (fZ x) (jj P t x low high max s) (rY P t x low high max s)
noncomputable def Dd (z:Nat) (s:St):AV→Option (Nat×List AV)
 | .aJ=>some (0,[])
 | .e0 _=>some (0,[])
 | .slice b o n _ _=>omap (s.cells b o (TW n z)) fun cs=>(n,cs)
 |_=>none
noncomputable def kW (e:TypeId) (b:Pos) (n k z:Nat) (new:List AV) (s:St) (bl:bf):Option aW:=
 match bl with
 | .cells own e' len c=>aQ (own&&TJ e' e&&TO (TW n z) len) (some (.val (.slice s.n 0 (TS n k) false true) ((s.put b .dead).push (.cells true e (TW (TS n k) z) (c.grow (TW n z) new))))) none
 |_=>none
noncomputable def nG (e z k:Nat) (new:List AV) (s:St):AV→Option aW
 | .aJ=>aQ (TJ k 0) (some (.val .aJ s)) (some (.val (.slice s.n 0 k false true) (s.row e new)))
 | .slice b o n lim wh=>aQ (TJ k 0) (some (.val (.slice b o n lim wh) s))
  (aQ lim (omap (s.cells b o (TW n z)) fun gY=>.val (.slice s.n 0 (TS n k) false true) (s.row e (gY++new)))
   (aQ (wh&&TJ o 0) (ai (s.h.get b) (kW e b n k z new s)) none))
 |_=>none
def lenOf:AV→Nat
 | .slice _ _ n _ _=>n
 | .vl _ _ _=>100000000
 |_=>0
noncomputable def kX (t:Ty) (v:AV):Option Tm:=
 match v with
 | .aJ=>(match t with | .aY _=>some (.op .nil []) |_=>none)
 | .e0 _=>(match t with | .aY _=>some (.op .nil []) |_=>none)
 |v=>ai (kS v) fun q=>aQ (kO t q.1) (some q.2) none
noncomputable def mC:List Ty→List AV→Option (List Tm×List AV)
 |[],l=>some ([],l)
 |t::ts,l=>(match l with
  |[]=>none
  |v::l=>ai (kX t v) fun x=>ai (mC ts l) fun r=>some (x::r.1,r.2))
noncomputable def nH (ts:List Ty):Nat→Tm→List AV→Option Tm
 |0,x,l=>(match l with |[]=>some x |_=>none)
 |k+1,x,l=>ai (mC ts l) fun r=>nH ts k (.op .snoc (x::r.1)) r.2
def gZ:Tm:=.int .i64 100000000
noncomputable def kY (n m x:Tm):Tm:=aQ (cK n m) x (.op .sub [x,.int .i64 0,n])
noncomputable def qy (own:Bool) (ts:List Ty) (n:Tm):bf→Option (TypeId×Tm)
 | .vec o t us m x=>aQ (aQ own o true) (aQ (cM ts us&&et n m) (some (t,kY n m x)) none) none
 |_=>none
noncomputable def wN (s:St):AV→Option (AV×St)
 | .vl ts n b=>ai (s.h.get b) fun k=>match k with | .vec _ t us m x=>aQ (cM ts us&&et n m) (some (.tm (.aY ts) (kY n m x),s.put b (.vec false t us m x))) none |_=>none
 |v=>some (v,s)
noncomputable def dj:List AV→St→Option (List AV×St)
 |[],s=>some ([],s)
 |v::vs,s=>ai (wN s v) fun q=>ai (dj vs q.2) fun r=>some (q.1::r.1,r.2)
noncomputable def Kh (s:St):AV→Option (AV×St)
 | .agg l=>ai (dj l s) fun q=>aQ (cd q.1) (some (.agg q.1,q.2)) none
 |v=>wN s v
noncomputable def L4 (ts:List Ty) (s:St):AV→Option Tm
 | .tm (.aY us) y=>aQ (cM ts us&&et (.op .len [y]) gZ) (some y) none
 | .vl us n b=>aQ (cM ts us&&et n gZ) (omap (ai (s.h.get b) (qy false ts n)) fun q=>q.2) none
 |_=>none
noncomputable def pj (e z:Nat) (ts:List Ty) (s:St):AV→Option (Tm×Option Pos)
 | .aJ=>some (.op .nil [],none)
 | .e0 true=>some (.op .nil [],none)
 | .slice b o n lim wh=>ai (s.cells b o (TW n z)) fun cs=>ai (nH ts n (.op .nil []) cs) fun x=>
  aQ lim (some (x,none)) (aQ (wh&&TJ o 0) (ai (s.h.get b) fun bl=>match bl with | .cells own e' len _=>aQ (own&&TJ e' e&&TO (TW n z) len) (some (x,some b)) none |_=>none) none)
 | .vl us n b=>aQ (cM ts us&&et n gZ) (ai (s.h.get b) fun bl=>ai (qy true ts n bl) fun q=>aQ (TJ q.1 e) (some (q.2,some b)) none) none
 |_=>none
noncomputable def g9 (s:St) (d:Option Pos) (e:TypeId) (ts:List Ty) (y:Tm):aW:=
 .val (.vl ts (.op .len [y]) s.n) ((@TH Pos (fun _=>St) s (fun b=>s.put b .dead) d).push (.vec true e ts (.op .len [y]) y))
noncomputable def No (ts:Option (List Ty)) (x:AV):Bool:=
 match x with
 | .vl _ _ _=>true
 |_=>aQ Gam.yF ts.isSome false
noncomputable def wO (e z k:Nat) (new:List AV) (s:St) (ts:List Ty) (x:AV):Option aW:=
 ai (pj e z ts s x) fun q=>aQ (TJ k 0) (some (.val x s)) (omap (nH ts k q.1 new) fun y=>g9 s q.2 e ts y)
noncomputable def De (e z:Nat) (s:St) (ts:List Ty) (x y:AV):Option aW:=
 ai (pj e z ts s x) fun q=>ai (L4 ts s y) fun u=>ai (fg (.tm .bool (.op (.cmp .lss) [.int .i64 0,.op .len [u]]))) fun c=>some (aQ c (g9 s q.2 e ts (.op .app [q.1,u])) (.val x s))
def Gx:AV→Bool
 | .tm (.aY _) _=>true
 | .vl _ _ _=>true
 |_=>false
noncomputable def Df (P:Program) (e z k:Nat) (new:List AV) (s:St) (x:AV):Option aW:=
 aQ (No (kR P 12 e) x) (ai (kR P 12 e) fun ts=>aQ (TJ z ts.length) (ai (dj new s) fun q=>wO e z k q.1 q.2 ts x) none) (nG e z k new s x)
noncomputable def qz (e z by_:Nat) (zv:AV) (x:AV) (k:Nat):Bool:=TO 1 z&&TJ zv.cells.length z&&cd zv.cells&&TO 1 by_&&TO (TW (TS (lenOf x) k) by_) 35184372088832
noncomputable def Dg (P:Program) (t:TypeId) (x y:AV) (s:St):Option aW:=
 ai (dt P t) fun e=>ai (bD P e) fun z=>ai (iZ P e) fun by_=>ai (cU P e) fun zv=>
  aQ (Gx y) (aQ (qz e z by_ zv x 100000000) (ai (kR P 12 e) fun ts=>aQ (TJ z ts.length) (De e z s ts x y) none) none)
   (ai (Dd z s y) fun p=>aQ (qz e z by_ zv x p.1) (Df P e z p.1 p.2 s x) none)
noncomputable def Sz (P:Program) (s:St) (b:Pos) (o n:Nat):bf→Option AV
 | .cells own e _ _=>aQ own (ai (kR P 12 e) fun ts=>ai (s.cells b o (TW n ts.length)) fun cs=>omap (nH ts n (.op .nil []) cs) fun x=>.tm (.aY ts) x) none
 |_=>none
noncomputable def Bh (P:Program) (s:St):AV→Option AV
 | .vl ts n b=>ai (s.h.get b) fun k=>omap (qy false ts n k) fun q=>.tm (.aY ts) q.2
 | .aJ=>some (.tm (.aY []) (.op .nil []))
 | .e0 _=>some (.tm (.aY []) (.op .nil []))
 | .slice b o n _ _=>ai (s.h.get b) (Sz P s b o n)
 |v=>omap (kS v) fun _=>v
noncomputable def Dh (P:Program) (s:St):List AV→Option (List AV)
 |[]=>some []
 |v::vs=>ai (Bh P s v) fun x=>omap (Dh P s vs) fun xs=>x::xs
mutual
noncomputable def iG (P:Program) (s:St):AV→Option AV
 | .agg l=>omap (Dh P s l) .agg
 | .tuple l=>omap (yL P s l) .tuple
 |v=>Bh P s v
noncomputable def yL (P:Program) (s:St):List AV→Option (List AV)
 |[]=>some []
 |v::vs=>ai (iG P s v) fun x=>omap (yL P s vs) fun xs=>x::xs
end
noncomputable def wP (P:Program) (t u:TypeId) (x y:AV) (s:St):Option aW:=
 match y with
 | .str l=>ai (dt P t) fun e=>ai (bD P e) fun z=>ai (iZ P e) fun by_=>ai (cU P e) fun zv=>
  aQ (wH P u&&TJ z 1&&TJ by_ 1&&TJ zv.cells.length 1&&cd zv.cells&&TO (TS (lenOf x) l.length) 1000000) (nG e 1 l.length (Gc l) s x) none
 |_=>none
noncomputable def qA (P:Program) (t:TypeId) (k:AV):List (AV×AV)→Option (Option AV)
 |[]=>some none
 |e::es=>ai (J8 P t k e.1) fun b=>aQ b (some (some e.2)) (qA P t k es)
noncomputable def yM (P:Program) (t:TypeId) (k v:AV):List (AV×AV)→Option (List (AV×AV))
 |[]=>some [(k,v)]
 |e::es=>ai (J8 P t k e.1) fun b=>aQ b (some ((e.1,v)::es)) (omap (yM P t k v es) (e:: ·))
noncomputable def yN (P:Program) (t:TypeId) (k:AV):List (AV×AV)→Option (List (AV×AV))
 |[]=>some []
 |e::es=>ai (J8 P t k e.1) fun b=>aQ b (some es) (omap (yN P t k es) (e:: ·))
noncomputable def Ew (P:Program) (t:TypeId) (k:AV):List (AV×AV)→Option Bool
 |[]=>some false
 |e::es=>ai (J8 P t k e.1) fun b=>ai (Ew P t k es) fun c=>aQ b (aQ c none (some true)) (some c)
noncomputable def L5 (P:Program) (t:TypeId) (k:AV) (es:List (AV×AV)):Option (Option AV):=ai (Ew P t k es) fun _=>qA P t k es
noncomputable def P4 (P:Program) (t:TypeId) (k v:AV) (es:List (AV×AV)):Option (List (AV×AV)):=ai (Ew P t k es) fun _=>yM P t k v es
noncomputable def Np (P:Program) (t:TypeId) (k:AV) (es:List (AV×AV)):Option (List (AV×AV)):=ai (Ew P t k es) fun _=>yN P t k es
noncomputable def Ki (kt:Ty) (k:AV):Option Tm:=ai (kS k) fun q=>aQ (kO kt q.1) (some q.2) none
def Bi:Ty→Nat
 | .int _=>7
 | .str=>8
 |_=>100
def Bj:Option bf→Bool
 |some (.bW ..)=>true
 |_=>false
noncomputable def Nq (P:Program) (t:TypeId) (s:St) (k:AV) (r:Pos):bf→Option aW
 | .bW g kt ts x=>ai (rf P t) fun q=>ai (Ki kt k) fun kk=>aQ (mM P q.1 (Bi kt)) (some (.val (.tuple []) (s.put r (.bW g kt ts (.op .Ba [x,kk]))))) none
 |_=>none
def Gy:bf→Option (List (AV×AV))
 | .map es=>some es
 |_=>none
noncomputable def jk (s:St):AV→Option (List (AV×AV))
 | .ck=>some []
 | .map r=>ai (s.h.get r) Gy
 |_=>none
noncomputable def Gz (P:Program) (t:TypeId) (s:St) (x:AV):Option Nat:=
 match P.underlying t with
 |some .string=>(match x with | .str l=>some l.length |_=>none)
 |some (.slice _)=>(match x with | .slice _ _ n _ _=>some n | .aJ=>some 0 | .e0 _=>some 0 |_=>none)
 |some (.array n _)=>some n
 |some (.map _ _)=>omap (jk s x) fun l=>l.length
 |_=>none
noncomputable def wQ (P:Program) (t:TypeId):AV→Option AV
 | .tm .str x=>(match P.underlying t with |some .string=>some (eG (.int .i64) (.op .fY [x])) |_=>none)
 | .tm (.aY _) x=>(match P.underlying t with |some (.slice _)=>some (eG (.int .i64) (.op .len [x])) |_=>none)
 | .vl _ n _=>(match P.underlying t with |some (.slice _)=>some (eG (.int .i64) n) |_=>none)
 |_=>none
noncomputable def Bk (P:Program) (ats:List TypeId) (args:List AV) (s:St):Option aW:=
 match ats with
 |t::_=>(match args with
  |[x]=>@TH AV (fun _=>Option aW) (omap (Gz P t s x) fun n=>.val (.int .i64 (TP n)) s) (fun v=>some (.val v s)) (wQ P t x)
  |_=>none)
 |_=>none
noncomputable def wR (P:Program) (ats:List TypeId) (args:List AV) (s:St):Option aW:=
 match ats with
 |[t,t']=>(match args with
  |[x,y]=>aQ (TJ t t') (Dg P t x y s) (wP P t t' x y s)
  |_=>none)
 |_=>none
noncomputable def wS (P:Program) (ats:List TypeId) (args:List AV) (s:St):Option aW:=
 match ats with
 |t::_=>(match args with
  |[.map r,k]=>aQ (Bj (s.h.get r)) (ai (s.h.get r) (Nq P t s k r))<|ai (rf P t) fun q=>aQ (ga P 8 q.1 k) (ai (jk s (.map r)) fun es=>omap (Np P q.1 k es) fun es=>.val (.tuple []) (s.put r (.map es))) none
  |_=>none)
 |_=>none
noncomputable def GA (P:Program) (ats:List TypeId) (args:List AV) (s:St):Option aW:=
 match ats with
 |t::_=>ai (dt P t) fun e=>ai (bD P e) fun z=>(match args with
  |[.slice _ _ _ _ _,.aJ]=>some (.val (.int .i64 0) s)
  |[.slice b o n _ _,.slice b' o' n' _ _]=>ai (s.cells b' o' (TW (min n n') z)) fun cs=>omap (s.store b o cs) fun s=>.val (.int .i64 (TP (min n n'))) s
  |_=>none)
 |_=>none
def Bl (_:Program) (_:List TypeId) (args:List AV) (s:St):Option aW:=
 match args with
 |[.iface t v]=>some (.panic (.iface t v) s)
 |_=>none
noncomputable def GB (_:Program) (_:List TypeId) (args:List AV) (s:St):Option aW:=
 match args with
 |[.int .i64 x,.int .i64 y]=>some (.val (.int .i64 (aQ (Gk y x) y x)) s)
 |_=>none
noncomputable def GC (_:Program) (_:List TypeId) (args:List AV) (s:St):Option aW:=
 match args with
 |[.int .i64 x,.int .i64 y]=>some (.val (.int .i64 (aQ (Gk x y) y x)) s)
 |_=>none
noncomputable def Nr (P:Program) (ats:List TypeId) (args:List AV) (s:St):Option aW:=
 match ats with
 |t::_=>ai (dt P t) fun _=>(match args with
  |[.aJ]=>some (.val (.int .i64 0) s)
  |[.slice _ _ n true _]=>some (.val (.int .i64 (TP n)) s)
  |_=>none)
 |_=>none
noncomputable def mO (_:Program) (_:List TypeId) (args:List AV) (s:St):Option aW:=
 match args with
 |[.aJ]=>some (.val .bY s)
 |[.slice b o (.succ _) _ _]=>some (.val (.ptr b o) s)
 |_=>none
noncomputable def strOf (e:TypeId) (b:Pos) (n:Nat) (s:St):bf→Option aW
 | .cells own t len c=>aQ (own&&TJ t e&&TO n len) (ai (c.sub 0 n) fun cs=>omap (Gf cs) fun l=>.val (.str l) (s.put b .dead)) none
 |_=>none
noncomputable def wT (P:Program) (ats:List TypeId) (args:List AV) (s:St):Option aW:=
 match ats with
 |[t,_]=>(match args with
  |[.bY,.int .i64 0]=>some (.val (.str []) s)
  |[.ptr b 0,.int .i64 (.ofNat (.succ n))]=>(match P.underlying t with
   |some (.pointer e)=>ai (bD P e) fun z=>aQ (qu P e&&TJ z 1&&TO n 1000000) (ai (s.h.get b) (strOf e b (TM n) s)) none
   |_=>none)
  |_=>none)
 |_=>none
noncomputable def yO:Builtin→Program→List TypeId→List AV→St→Option aW
 | .len=>Bk
 | .append=>wR
 | .recover=>fun _ _ _ s=>some (.recover s)
 | .delete=>wS
 | .copy=>GA
 | .panic=>Bl
 | .min=>GB
 | .max=>GC
 | .cap=>Nr
 | .unsafeSliceData=>mO
 | .unsafeString=>wT
 |_=>fun _ _ _ _=>none
noncomputable def GD (c:Nat) (l:List Nat):Nat:=@TN Nat (fun _=>Nat) 0 (fun x _ ih=>aQ (TJ x c) (TM ih) ih) l
noncomputable def Ex (c:Nat) (l:List Nat):Option Nat:=@TN Nat (fun _=>Option Nat) none (fun x _ ih=>aQ (TJ x c) (some 0) (omap ih TM)) l
noncomputable def Kj (o:Option Nat):Int:=@TH Nat (fun _=>Int) (.negSucc 0) (fun n=>.ofNat n) o
noncomputable def nI (s:St):List AV→Option aW
 |[.str l,.int .u8 (.ofNat c)]=>aQ (TO c 255) (some (.val (.int .i64 (.ofNat (GD c l))) s)) none
 |_=>none
noncomputable def fh (s:St):List AV→Option aW
 |[.str l,.int .u8 (.ofNat c)]=>aQ (TO c 255) (some (.val (.int .i64 (Kj (Ex c l))) s)) none
 |_=>none
noncomputable def lT (s:St):List AV→Option aW
 |[x]=>some (.val x s)
 |_=>none
noncomputable def jJ (P:Program) (fn:Func) (s:St):List AV→Option aW
 |[.int .i64 (.ofNat n)]=>(match fn.resultTypes.toList with
  |[t]=>ai (dt P t) fun e=>ai (bD P e) fun z=>aQ (qu P e&&TJ z 1&&TO n 1000000) (some (.val (.slice s.n 0 n false true) (s.push (.cells true e 0 (.nB []))))) none
  |_=>none)
 |_=>none
noncomputable def jK (s:St):List AV→Option aW
 |[.int .u64 n]=>some (.val (.fb (.int .u64 n)) s)
 |[.tm (.int .u64) x]=>some (.val (.fb x) s)
 |_=>none
noncomputable def P5 (P:Program) (fn:Func) (args:List AV) (s:St):Option aW:=
 aQ (fn.origin== "") (aQ (fn.name== "internal/bytealg.CountString") (nI s args) (aQ (fn.name== "internal/bytealg.IndexByteString") (fh s args) (aQ (fn.name== "internal/abi.NoEscape") (lT s args) (aQ (fn.name== "internal/bytealg.MakeNoZero") (jJ P fn s args) (aQ (fn.name== "math.Float64frombits") (jK s args) none))))) none
noncomputable def Di (P:Program) (f:FuncId) (args:List AV) (s:St):Option aW:=
 ai (P.funcs[f]?) fun fn=>@TH Code (fun _=>Option aW) (P5 P fn args s) (fun _=>some (.enter f args s)) fn.body
noncomputable def lU (P:Program) (t:TypeId) (ts:List Ty) (x:Tm):Option AV:=
 ai (Gj P t) fun g=>aQ g (ai (bD P t) fun n=>aQ (TJ n ts.length) (some (.agg (f9 x ts 0))) none) (match ts with |ty::_=>some (eG ty (nD x 0)) |[]=>none)
noncomputable def Bm (P:Program) (t:TypeId) (ts:List Ty) (i:Tm) (o:Nat):bf→Option AV
 | .vec _ _ us m x=>ai (bD P t) fun z=>aQ (cM ts us&&kP i&&fG i m&&TO (TS o z) ts.length&&TO 1 z) (lU P t ((ts.drop o).take z) (.op (.off o z) [.op .yE [x,i]])) none
 |_=>none
noncomputable def wU (P:Program) (t:TypeId) (s:St) (v:AV) (ts:List Ty) (b:Pos) (i:Tm) (o:Nat):bf→Option aW
 | .vec own t' us m x=>ai (bD P t) fun z=>aQ (own&&cM ts us&&kP i&&fG i m&&TO (TS o z) ts.length&&TJ v.cells.length z) (ai (mC ((ts.drop o).take z) v.cells) fun y=>some (.skip (s.put b (.vec own t' us m (.op (.dr o z) (x::i::y.1)))))) none
 |_=>none
noncomputable def P6 (P:Program) (t:TypeId) (s:St) (x:AV):Option aW:=
 match x with
 | .pe ts b i o=>ai (s.h.get b) fun k=>omap (Bm P t ts i o k) fun v=>.val v s
 | .tm (.ref ts) y=>omap (lU P t ts y) fun v=>.val v s
 | .ptr b o=>omap (s.load P t b o) fun v=>.val v s
 |_=>none
noncomputable def Ns (P:Program) (t:TypeId) (s:St) (v:AV) (x:AV):Option aW:=
 match x with
 | .pe ts b i o=>ai (s.h.get b) (wU P t s v ts b i o)
 | .ptr b o=>ai (bD P t) fun n=>aQ (TJ v.cells.length n) (omap (s.store b o v.cells) .skip) none
 |_=>none
def Ey (s:St):AV→Option aW
 | .ptr b o=>some (.val (.ptr b o) s)
 | .func f b c=>some (.val (.func f b c) s)
 | .yield l=>some (.val (.yield l) s)
 | .tm (.ref ts) x=>some (.val (.tm (.ref ts) x) s)
 | .pe ts b i o=>some (.val (.pe ts b i o) s)
 |_=>none
noncomputable def P7 (x y:Option AV) (s:St) (c:AV):Option aW:=ai (fg c) fun b=>omap (aQ b x y) fun v=>.val v s
noncomputable def kZ (s:St):aW:=.val (.map s.n) (s.push (.map []))
def P8 (P:Program) (k:TypeId):Option Ty:=
 match P.underlying k with
 |some (.int j)=>some (.int j)
 |some .string=>some .str
 |_=>none
def mD (P:Program) (t:TypeId):Option (Bool×Ty×List Ty):=
 match rf P t with
 |some q=>match P8 P q.1 with
  |some k=>match kR P 12 q.2 with
   |some l=>match Gj P q.2 with
    |some g=>cond (g||TJ l.length 1) (some (g,k,l)) none
    |none=>none
   |none=>none
  |none=>none
 |none=>none
noncomputable def pk (s:St) (o:Option (Bool×Ty×List Ty)):aW:=@TH (Bool×Ty×List Ty) (fun _=>aW) (kZ s) (fun q=>.val (.map s.n) (s.push (.bW q.1 q.2.1 q.2.2 (.op .nil [])))) o
noncomputable def GF (P:Program) (t:TypeId) (s:St):Option (Option AV)→Option aW
 |none=>some (aQ Gam.yF (pk s (mD P t)) (kZ s))
 |_=>none
noncomputable def ia (P:Program) (t:TypeId) (l c:Nat) (s:St):Option aW:=
 ai (dt P t) fun e=>ai (iZ P e) fun by_=>ai (bD P e) fun sz=>ai (cU P e) fun z=>aQ (TO l c&&TO (TW c by_) 140737488355328&&TO c 1000000&&cd z.cells&&TJ z.cells.length sz) (some (.val (.slice s.n 0 l (TJ l c) true) (s.row e (rW z.cells c)))) none
noncomputable def Bn (P:Program) (t:TypeId) (f:Nat) (s:St) (x:AV):Option aW:=
 match x with
 | .ptr b o=>ai (i5 P t f) fun f=>ai (bD P f.type) fun z=>aQ (TJ z 0) none (some (.val (.ptr b (TS o f.offset)) s))
 | .pe ts b i o=>ai (i5 P t f) fun f=>ai (bD P f.type) fun z=>aQ (TJ z 0) none (some (.val (.pe ts b i (TS o f.offset)) s))
 | .tm (.ref ts) y=>ai (i5 P t f) fun f=>ai (bD P f.type) fun z=>aQ (TJ z 0) none (aQ (TO (TS f.offset z) ts.length) (some (.val (.tm (.ref ((ts.drop f.offset).take z)) (.op (.off f.offset z) [y])) s)) none)
 |_=>none
noncomputable def Nt (P:Program) (t:TypeId) (f:Nat) (s:St) (x:AV):Option aW:=
 match x with
 | .agg cs=>ai (i5 P t f) fun f=>omap (iJ P f.type cs f.offset) fun v=>.val v s
 |_=>none
noncomputable def GG (P:Program) (e:TypeId) (i:Nat) (s:St):AV→Option aW
 | .slice b o n _ _=>aQ (TO (TM i) n) (omap (bD P e) fun z=>.val (.ptr b (TS o (TW i z))) s) none
 |_=>none
noncomputable def Nu (P:Program) (n:Nat) (e:TypeId) (i:Nat) (s:St):AV→Option aW
 | .ptr b o=>aQ (TO (TM i) n) (omap (bD P e) fun z=>.val (.ptr b (TS o (TW i z))) s) none
 |_=>none
def GH (i:Tm) (z:Nat):Tm:=
 match i with
 | .int k n=>.int k (n*z)
 |i=>bif TJ z 1 then i else .op (.jg .mul .i64) [i,.int .i64 z]
def GI (k i:Tm):Tm:=
 match k with
 | .int .i64 (.ofNat 0)=>i
 |k=>.op (.jg .add .i64) [k,i]
noncomputable def wV (i:Tm):Bool:=@TH Int (fun _=>Bool) (et i gZ) (fun n=> !Gk 100000000 n) (Bd i)
noncomputable def lV (P:Program) (t:TypeId) (s:St) (v j:AV):Option aW:=
 match P.underlying t with
 |some (.slice e)=>ai (bD P e) fun z=>ai (Gl j) fun i=>(match v with
  | .tm (.aY ts) x=>aQ (TJ z ts.length&&kP i&&fG i (.op .len [x])) (some (.val (.tm (.ref ts) (.op .yE [x,i])) s)) none
  | .vl ts n b=>aQ (TJ z ts.length&&kP i&&fG i n) (some (.val (.pe ts b i 0) s)) none
  | .aJ=>Su i none
  |_=>none)
 |some (.array n e)=>ai (bD P e) fun z=>ai (mN j) fun i=>(match v with
  | .pe ts b k o=>aQ (TJ ts.length 1&&TJ o 0&&TO (TW n z) 100000000&&kP i&&fG i (.int .i64 (TP n))&&wV k) (some (.val (.pe ts b (GI k (GH i z)) 0) s)) none
  |_=>none)
 |_=>none
noncomputable def eO (P:Program) (t:TypeId) (s:St) (v:AV):AV→Option aW
 | .int _ (.ofNat i)=>(match P.underlying t with
  |some (.slice e)=>GG P e i s v
  |some (.array n e)=>Nu P n e i s v
  |_=>none)
 |_=>none
def GJ:AV→Bool
 | .tm _ _=>true
 | .vl _ _ _=>true
 | .pe .. =>true
 |_=>false
noncomputable def Bo (P:Program) (t:TypeId) (s:St) (v j:AV):Option aW:=aQ (GJ v||fZ j) (lV P t s v j) (eO P t s v j)
noncomputable def pn (P:Program) (t:TypeId) (s:St) (v j:AV):Option aW:=
 match P.underlying t with
 |some .string=>ai (L2 v) fun x=>ai (Gl j) fun i=>aQ (kP i&&fG i (.op .fY [x])) (some (.val (eG (.int .u8) (.op .gw [x,i])) s)) none
 |some (.array n _)=>(match j with | .tm (.int k) x=>Ss k x n none |_=>none)
 |_=>none
noncomputable def lW (P:Program) (t:TypeId) (s:St) (v:AV):AV→Option aW
 | .int _ (.ofNat i)=>(match P.underlying t with
  |some (.array n e)=>(match v with | .agg cs=>aQ (TO (TM i) n) (ai (bD P e) fun z=>omap (iJ P e cs (TW i z)) fun v=>.val v s) none |_=>none)
  |some .string=>(match v with | .str l=>omap (l[i]?) fun c=>.val (.int .u8 (TP c)) s |_=>none)
  |_=>none)
 |_=>none
noncomputable def wW (P:Program) (t:TypeId) (s:St) (v j:AV):Option aW:=aQ (fZ v||fZ j) (pn P t s v j) (lW P t s v j)
noncomputable def Nv (P:Program) (t:TypeId) (s:St) (v j:AV):Option aW:=wW P t s v (kT j)
noncomputable def okV (ok:Bool) (v:AV) (b:Bool):AV:=aQ ok (.tuple [v,.bool b]) v
noncomputable def Kk (P:Program) (ok:Bool) (e:TypeId) (s:St) (r:Option AV):Option aW:=
 @TH AV (fun _=>Option aW) (omap (cU P e) fun v=>.val (okV ok v false) s) (fun v=>some (.val (okV ok v true) s)) r
noncomputable def rZ (P:Program) (t:TypeId) (ok:Bool) (s:St) (m k:AV):Option aW:=
 ai (jk s m) fun es=>ai (rf P t) fun q=>aQ (ga P 8 q.1 k) (ai (L5 P q.1 k es) (Kk P ok q.2 s)) none
noncomputable def P9 (x k:Tm):Option Bool:=fg (.tm .bool (.op .uL [x,k]))
noncomputable def Nw (g:Bool) (ts:List Ty) (y:Tm):AV:=aQ g (.agg (f9 y ts 0)) (match ts with |ty::_=>eG ty (nD y 0) |[]=>.bad)
noncomputable def Dj (P:Program) (t:TypeId) (ok:Bool) (s:St) (k:AV):bf→Option aW
 | .bW g kt ts x=>ai (rf P t) fun q=>ai (Ki kt k) fun kk=>aQ (mM P q.1 (Bi kt)) (ai (P9 x kk) fun b=>aQ b (some (.val (okV ok (Nw g ts (.op .nA [x,kk])) true) s)) (omap (cU P q.2) fun v=>.val (okV ok v false) s)) none
 |_=>none
def GK:AV→Option Pos
 | .map r=>some r
 |_=>none
noncomputable def gz (s:St) (m:AV):Bool:=@TH Pos (fun _=>Bool) false (fun r=>Bj (s.h.get r)) (GK m)
noncomputable def yP (s:St) (m:AV) (f:Pos→bf→Option aW):Option aW:=ai (GK m) fun r=>ai (s.h.get r) (f r)
noncomputable def Kl (P:Program) (t:TypeId) (ok:Bool) (s:St) (m k:AV):Option aW:=
 aQ (gz s m) (yP s m fun _=>Dj P t ok s k) (rZ P t ok s m (kT k))
noncomputable def Ez (P:Program) (t:TypeId) (s:St) (k v:AV) (r:Pos):bf→Option aW
 | .bW g kt ts x=>ai (rf P t) fun q=>ai (Ki kt k) fun kk=>aQ (mM P q.1 (Bi kt)&&(kU v==g)) (ai (mC ts v.cells) fun y=>(match y.2 with |[]=>some (.skip (s.put r (.bW g kt ts (.op .rN (x::kk::y.1))))) |_=>none)) none
 |_=>none
noncomputable def k5 (P:Program) (t:TypeId) (s:St) (k v:AV):AV→Option aW
 | .map r=>ai (rf P t) fun q=>aQ (ga P 8 q.1 k) (ai (jk s (.map r)) fun es=>omap (P4 P q.1 k v es) fun es=>.skip (s.put r (.map es))) none
 |_=>none
noncomputable def Bp (P:Program) (t:TypeId) (s:St) (k v m:AV):Option aW:=aQ (gz s m) (ai (Kh s v) fun q=>yP q.2 m (Ez P t q.2 k q.1)) (k5 P t s k v m)
noncomputable def Nx (P:Program) (t:TypeId) (s:St):AV→Option aW
 | .str l=>aQ (wH P t) (some (.val (.ptr s.n 0) (s.push (.fD l 0)))) none
 | .ck=>ai (rf P t) fun _=>some (.val (.ptr s.n 0) (s.push (.A8 none)))
 | .map r=>ai (rf P t) fun _=>ai (jk s (.map r)) fun _=>some (.val (.ptr s.n 0) (s.push (.A8 (some r))))
 |_=>none
noncomputable def Bq (s:St) (b:Pos):bf→Option aW
 | .fD l p=>(match l.drop p with
  |[]=>some (.val (.tuple [.bool false]) s)
  |c::_=>aQ (TO c 127) (some (.val (.tuple [.bool true,.int .i64 (TP p),.int .i32 (TP c)]) (s.put b (.fD l (TM p))))) none)
 |_=>none
noncomputable def yQ (s:St):List (AV×AV)→Option aW
 |[]=>some (.val (.tuple [.bool false]) s)
 |_=>none
noncomputable def Dk (s:St):bf→Option aW
 | .A8 none=>some (.val (.tuple [.bool false]) s)
 | .A8 (some r)=>ai (jk s (.map r)) (yQ s)
 |_=>none
noncomputable def Qa (str:Bool) (s:St):AV→Option aW
 | .ptr b 0=>ai (s.h.get b) (aQ str (Bq s b) (Dk s))
 |_=>none
noncomputable def Dl (P:Program) (t:TypeId) (ok:Bool) (s:St) (v:AV):Option aW:=
 aQ (nC P t) none (match v with
  | .bw=>aQ ok (omap (cU P t) fun z=>.val (.tuple [z,.bool false]) s) none
  | .iface t' v=>aQ (TJ t' t) (some (.val (okV ok v true) s)) (aQ ok (omap (cU P t) fun z=>.val (.tuple [z,.bool false]) s) none)
  |_=>none)
noncomputable def GL (i:Nat) (s:St):AV→Option aW
 | .tuple vs=>omap (nth vs i) fun v=>.val v s
 |_=>none
def Ny (s:St):AV→Option aW
 | .iface t v=>some (.panic (.iface t v) s)
 |_=>none
noncomputable def GM (P:Program) (args:List AV) (s:St):AV→Option aW
 | .func f first cap=>Di P f (first++(args++cap)) s
 | .yield l=>some (.round l args s)
 |_=>none
def Br (args:List AV) (s:St):AV→Option aW
 | .func f first cap=>some (.defer ⟨.fn f cap,first++args⟩ s)
 |_=>none
noncomputable def mE (P:Program) (a:aV) (x:Option Operand):Option (Option AV):=@TH Operand (fun _=>Option (Option AV)) (some none) (fun x=>omap (a.eval P x) some) x
abbrev Dn:=Program→aV→St→Option aW
noncomputable def nJ (x:Operand):Dn:=fun P a s=>omap (a.eval P x) fun v=>.val v s
noncomputable def yR (c x y:Operand):Dn:=fun P a s=>ai (a.eval P c) (P7 (a.eval P x) (a.eval P y) s)
def Qb (P:Program):Nat→TypeId→Option (Ty×Nat)
 |0,_=>none
 |d+1,t=>match P.underlying t with
  |some .bool=>some (.bool,1)
  |some (.int k)=>some (.int k,1)
  |some .string=>some (.str,1)
  |some (.array n e)=>match Qb P d e with
   |some q=>some (q.1,n*q.2)
   |none=>none
  |_=>none
noncomputable def qB (v:AV) (l:List AV):Bool:=@TN AV (fun _=>Bool) true (fun u _ ih=>aQ (iK v u) ih false) l
noncomputable def k6 (t:TypeId) (s:St) (z:List AV) (q:Ty×Nat):Option aW:=
 match z with
 |[]=>none
 |v::l=>ai (kX q.1 v) fun c=>aQ (qB v l&&TJ (TM l.length) q.2&&TO q.2 100000000) (some (.val (.pe [q.1] s.n (.int .i64 0) 0) (s.push (.vec true t [q.1] (.int .i64 (TP q.2)) (.op .rep [.int .i64 (TP q.2),c]))))) none
def sa (P:Program) (t:TypeId):Option (Ty×Nat):=
 match P.underlying t with
 |some (.array _ _)=>match Qb P 5 t with
  |some q=>cond (TO 64 q.2) (some q) none
  |none=>none
 |_=>none
noncomputable def rl (t:TypeId):Dn:=fun P _ s=>ai (cU P t) fun z=>aQ (cd z.cells) (some (.val (.ptr s.n 0) (s.row t z.cells))) none
noncomputable def gA (t:TypeId):Dn:=fun P a s=>aQ Gam.yF (@TH (Ty×Nat) (fun _=>Option aW) (rl t P a s) (fun q=>ai (cU P t) fun z=>k6 t s z.cells q) (sa P t)) (rl t P a s)
noncomputable def GN (t:TypeId) (x:Operand):Dn:=fun P a s=>ai (a.eval P x) fun v=>aQ (cd v.cells) (some (.val (.ptr s.n 0) (s.row t v.cells))) none
noncomputable def sb (t:TypeId) (ps:Array (Nat×Operand)):Dn:=fun P a s=>ai (cR P a (ps.toList.map (·.2))) fun vs=>omap (Nj P t (ps.toList.map (·.1)) vs) fun v=>.val v s
noncomputable def gb (t:TypeId) (n:Nat) (ps:Array (Nat×Operand)):Dn:=fun P a s=>ai (cR P a (ps.toList.map (·.2))) fun vs=>kV P t n (ps.toList.map (·.1)) vs s
noncomputable def yS (t:TypeId) (x:Operand):Dn:=fun P a s=>ai (a.eval P x) (P6 P t s)
noncomputable def sc (t:TypeId) (x y:Operand):Dn:=fun P a s=>ai (a.eval P y) fun v=>ai (a.eval P x) (Ns P t s v)
noncomputable def jl (x:Operand):Dn:=fun P a s=>ai (a.eval P x) (Ey s)
def cN:Operand→Bool
 | .const _=>true
 |_=>false
noncomputable def GO (op:BinOp) (t:TypeId) (x y:Operand):Dn:=fun P a s=>ai (a.eval P x) fun v=>ai (a.eval P y) fun u=>P2 P (cN x||cN y) op t s v u
noncomputable def Qc (op:UnOp) (x:Operand):Dn:=fun P a s=>ai (a.eval P x) fun v=>omap (unA op v) fun v=>.val v s
noncomputable def yT (src dst:TypeId) (x:Operand):Dn:=fun P a s=>ai (a.eval P x) fun v=>P3 P src dst v s
noncomputable def sd (t:TypeId) (x:Operand):Dn:=fun P a s=>aQ (nC P t) none (omap (a.eval P x) fun v=>.val (.iface t v) s)
noncomputable def L6 (fn:Fn) (first cap:Array Operand):Dn:=fun P a s=>
 match fn with
 | .func f=>ai (cR P a first.toList) fun b=>omap (cR P a cap.toList) fun c=>.val (.func f b c) s
 |_=>none
noncomputable def yU (t:TypeId) (r:Option Operand):Dn:=fun P a s=>GF P t s (r.map fun x=>a.eval P x)
noncomputable def gH (P:Program) (t:TypeId) (s:St) (n m:Tm):Option aW:=
 ai (dt P t) fun e=>ai (iZ P e) fun by_=>ai (bD P e) fun sz=>ai (cU P e) fun z=>ai (kR P 12 e) fun ts=>ai (mC ts z.cells) fun y=>
  aQ (cK n m&&kP n&&et n gZ&&TO (TW 100000000 by_) 140737488355328&&cd z.cells&&TJ z.cells.length sz&&TJ sz ts.length) (match y.2 with |[]=>some (.val (.vl ts n s.n) (s.push (.vec true e ts n (.op .rep (n::y.1))))) |_=>none) none
noncomputable def k7 (P:Program) (t:TypeId) (s:St) (l c:AV):Option aW:=
 match l with
 | .tm (.int .i64) n=>ai (mN c) (gH P t s n)
 |l=>ai (ph l) fun l=>ai (ph c) fun c=>ia P t l c s
noncomputable def ib (t:TypeId) (l c:Operand):Dn:=fun P a s=>ai (a.eval P l) fun l=>ai (a.eval P c) fun c=>k7 P t s l c
noncomputable def se (t:TypeId) (x:Operand) (lo hi mx:Option Operand):Dn:=fun P a s=>ai (a.eval P x) fun v=>ai (mE P a lo) fun lo=>ai (mE P a hi) fun hi=>ai (mE P a mx) fun mx=>Gw P t v lo hi mx s
noncomputable def ic (t:TypeId) (x:Operand) (f:Nat):Dn:=fun P a s=>ai (a.eval P x) (Bn P t f s)
noncomputable def sf (t:TypeId) (x:Operand) (f:Nat):Dn:=fun P a s=>ai (a.eval P x) (Nt P t f s)
noncomputable def ig (t:TypeId) (x i:Operand):Dn:=fun P a s=>ai (a.eval P x) fun v=>ai (a.eval P i) (Bo P t s v)
noncomputable def sg (t:TypeId) (x i:Operand):Dn:=fun P a s=>ai (a.eval P x) fun v=>ai (a.eval P i) (Nv P t s v)
noncomputable def nK (t:TypeId) (x k:Operand) (ok:Bool):Dn:=fun P a s=>ai (a.eval P x) fun v=>ai (a.eval P k) fun k=>Kl P t ok s v k
noncomputable def dw (t:TypeId) (m k x:Operand):Dn:=fun P a s=>ai (a.eval P k) fun k=>ai (a.eval P x) fun v=>ai (a.eval P m) (Bp P t s k v)
noncomputable def sh (t:TypeId) (x:Operand):Dn:=fun P a s=>ai (a.eval P x) (Nx P t s)
noncomputable def yV (x:Operand) (str:Bool):Dn:=fun P a s=>ai (a.eval P x) (Qa str s)
noncomputable def nL (x:Operand) (t:TypeId) (ok:Bool):Dn:=fun P a s=>ai (a.eval P x) (Dl P t ok s)
noncomputable def k8 (x:Operand) (i:Nat):Dn:=fun P a s=>ai (a.eval P x) (GL i s)
noncomputable def si (x:Operand):Dn:=fun P a s=>ai (a.eval P x) (Ny s)
noncomputable def Km (ats:Array TypeId) (P:Program) (a:aV) (s:St) (args:List AV):Callee→Option aW
 | .builtin b=>yO b P ats.toList args s
 | .value f=>ai (a.eval P f) (GM P args s)
 | .invoke _ _=>none
noncomputable def yW (c:Call):Dn:=fun P a s=>ai (cR P a c.args.toList) fun args=>Km c.argTypes P a s args c.callee
noncomputable def Nz (P:Program) (a:aV) (s:St) (args:List AV):Callee→Option aW
 | .value f=>ai (a.eval P f) (Br args s)
 |_=>none
noncomputable def po (c:Call):Dn:=fun P a s=>ai (cR P a c.args.toList) fun args=>Nz P a s args c.callee
noncomputable def fR:Op→Dn
 | .move x=>nJ x
 | .assign x=>nJ x
 | .pick c x y=>yR c x y
 | .alloc t=>gA t
 | .box t x=>GN t x
 | .build t ps=>sb t ps
 | .buildSlice t n ps=>gb t n ps
 | .load t x=>yS t x
 | .store t x y=>sc t x y
 | .nilCheck x=>jl x
 | .binOp op t x y _=>GO op t x y
 | .unOp op _ x=>Qc op x
 | .convert src dst x=>yT src dst x
 | .makeInterface t x=>sd t x
 | .makeFunc fn first cap=>L6 fn first cap
 | .makeMap t r=>yU t r
 | .makeSlice t l c=>ib t l c
 | .slice t x lo hi mx=>se t x lo hi mx
 | .fieldAddr t x f=>ic t x f
 | .field t x f=>sf t x f
 | .indexAddr t x i=>ig t x i
 | .index t x i=>sg t x i
 | .lookup t x k ok=>nK t x k ok
 | .mapUpdate t m k x=>dw t m k x
 | .insert t m k x=>dw t m k x
 | .range t x=>sh t x
 | .next x str=>yV x str
 | .typeAssert x _ t ok=>nL x t ok
 | .extract x i=>k8 x i
 | .panic x=>si x
 | .call c=>yW c
 | .defer c=>po c
 |_=>fun _ _ _=>none
def rm:cz→cz
 | .panicking ((_,true)::_)=>.returning
 |m=>m
def rn (m:cz) (c:dN):cz:=match m with | .panicking gY=>.panicking (c++gY) | .returning=>.panicking c
noncomputable def nM (want:Bool):AV→Option Bool
 | .tuple []=>some false
 |v=>omap (fg v) fun b=>b==want
noncomputable def Kn (ops:List Oper) (a:aV) (g:Nat×Bool):Option Bool:=ai (ops[g.1]?) fun p=>ai p.dst fun d=>nM g.2 (a.tmp d)
noncomputable def dU (ops:List Oper) (a:aV) (g:Option (Nat×Bool)):Option Bool:=@TH (Nat×Bool) (fun _=>Option Bool) (some true) (fun g=>Kn ops a g) g
noncomputable def wX (ps:List Tmp):List AV→Tr AV→Tr AV:=
 @TN Tmp (fun _=>List AV→Tr AV→Tr AV) (fun _ t=>t) (fun p _ ih vs t=>@TN AV (fun _=>Tr AV) t (fun v vs _=>ih vs (t.set (pos p) v)) vs) ps
noncomputable def Dm (P:Program) (t:TypeId) (s:St):AV→Option AV
 | .ptr b o=>s.load P t b o
 |_=>none
noncomputable def Bs (P:Program) (a:aV) (s:St):ResultVar→Option AV
 | .tmp t=>some (a.tmp t)
 | .cell x t=>Dm P t s (a.tmp x)
noncomputable def Ko (P:Program) (a:aV) (s:St):List ResultVar→Option (List AV)
 |[]=>some []
 |r::rs=>ai (Bs P a s r) fun v=>omap (Ko P a s rs) (v:: ·)
def SA:List AV→AV
 |[v]=>v
 |vs=>.tuple vs
noncomputable def sk (P:Program) (fn:Func) (a:aV) (s:St):Option AV:=omap (Ko P a s fn.results.toList) SA
inductive SB where
 |returned (v:AV)
 |panicked (c:dN)
inductive SC where
 |loop (rd:Option Pos) (c:Code) (f:FuncId) (p:Pos)
 |call (f:FuncId) (args:List AV) (rc:Option cz)
 |leave (fn:Func) (m:cz)
 |round (l:Pos) (args:List AV)
inductive Out where
 |at (e:gW) (a:aV) (s:St)
 |fin (e:SB) (rc:Option cz) (s:St)
abbrev Rec:=SC→aV→St→Option Out
abbrev Hk:=FuncId→Pos→Option Pos→aV→St→Option Out
abbrev Sm:=Option Pos→Rec→aV→St→Option Out
abbrev Kt:=aV→St→Option Out
noncomputable def yX (k:Kt) (o:Out):Option Out:=
 @Out.rec (fun _=>Option Out) (fun e a s=>@gW.rec (fun _=>Option Out) (k a s) (fun id=>some (.at (.exit id) a s)) (some (.at .ret a s)) (fun c=>some (.at (.panic c) a s)) e) (fun _ _ _=>none) o
noncomputable def yY (id:Nat) (o:Out):Option Out:=
 @Out.rec (fun _=>Option Out) (fun e a s=>@gW.rec (fun _=>Option Out) (some (.at .normal a s)) (fun id'=>aQ (TJ id' id) (some (.at .normal a s)) (some (.at (.exit id') a s))) (some (.at .ret a s)) (fun c=>some (.at (.panic c) a s)) e) (fun _ _ _=>none) o
noncomputable def Qd (x y:Sm):Sm:=fun rd r a s=>ai (x rd r a s) (yX (y rd r))
noncomputable def L7 (x y:Option Out) (v:AV):Option Out:=ai (fg v) fun b=>aQ b x y
noncomputable def L8 (P:Program) (c:Operand) (x y:Sm):Sm:=fun rd r a s=>ai (a.eval P c) (L7 (x rd r a s) (y rd r a s))
noncomputable def GP (id:Nat) (c:Sm):Sm:=fun rd r a s=>ai (c rd r a s) (yY id)
def GQ (a:aV) (s:St):Option Code→Option Out
 |none=>some (.at .normal a s)
 |some .ret=>some (.at .ret a s)
 |some (.exit id)=>some (.at (.exit id) a s)
 |_=>none
def er.with (l:er) (st:LoopState) (p:Option Code):er:={l with state:=st,pending:=p}
def er.busy (l:er):Bool:=
 match l.state with
 | .busy=>true
 |_=>false
def er.ready (l:er):Bool:=
 match l.state with
 | .ready=>true
 |_=>false
def GR:bf→Option er
 | .loop l=>some l
 |_=>none
noncomputable def St.loop (s:St) (l:Pos):Option er:=ai (s.h.get l) GR
noncomputable def vq (l:Pos) (a:aV) (o:Out):Option Out:=
 match o with
 | .fin (.returned _) _ s=>ai (s.loop l) fun lp=>aQ lp.busy none (GQ a (s.put l (.loop (lp.with .exhausted lp.pending))) lp.pending)
 | .fin (.panicked c) _ s=>some (.at (.panic c) a s)
 |_=>none
noncomputable def sn (s:St) (rd:Option Pos):Option (Pos×List jI×St):=
 @TH Pos (fun _=>Option (Pos×List jI×St)) (some (s.n,[⟨.collected s.n,[]⟩],s.push (.deferred true))) (fun l=>omap (s.loop l) fun r=>(r.defers,[],s)) rd
noncomputable def Dp (h:FuncId) (p:Pos) (first cap:List AV) (f:FuncId) (ps:Array Tmp) (r:Rec) (a:aV) (q:Pos×List jI×St):Option Out:=
 ai (r (.call f (first++(.yield q.2.2.n::cap)) none) a (q.2.2.push (.loop {state:=.ready,pending:=none,tm:=a.tm,n:=a.n,params:=ps.toList,defers:=q.1,f:=h,p:=p})))
  (vq q.2.2.n (a.bH (q.2.1++a.defers)))
noncomputable def GS (h:FuncId) (p:Pos) (ps:Array Tmp) (rd:Option Pos) (r:Rec) (a:aV) (s:St):AV→Option Out
 | .func f first cap=>ai (sn s rd) (Dp h p first cap f ps r a)
 |_=>none
noncomputable def GU (P:Program) (h:FuncId) (p:Pos) (f:Operand) (ps:Array Tmp):Sm:=fun rd r a s=>ai (a.eval P f) (GS h p ps rd r a s)
noncomputable def pq (d:Option Tmp) (v:AV) (k:Kt):Kt:=fun a s=>ai (a.put d v) fun a=>k a s
noncomputable def wY (d:Option Tmp) (k:Kt) (a:aV):Out→Option Out
 | .fin (.returned v) _ s=>pq d v k a s
 | .fin (.panicked c) _ s=>some (.at (.panic c) a s)
 |_=>none
noncomputable def yZ (d:Option Tmp) (k:Kt) (a:aV) (s:St):Option cz→Option Out
 |some (.panicking ((v,false)::gY))=>pq d v k (a.qt (some (.panicking ((v,true)::gY)))) s
 |_=>pq d .bw k a s
noncomputable def wZ (rd:Option Pos) (r:Rec) (d:Option Tmp) (k:Kt) (a:aV) (x:aW):Option Out:=
 @aW.rec (fun _=>Option Out) (fun v s=>pq d v k a s) (fun s=>pq d .undef k a s) (fun f args s=>ai (r (.call f args none) a s) (wY d k a))
  (fun l args s=>ai (r (.round l args) a s) (wY d k a)) (fun df s=>@TH Pos (fun _=>Option Out) (pq d .undef k (a.bH (df::a.defers)) s) (fun _=>none) rd)
  (fun s=>@TH Pos (fun _=>Option Out) (yZ d k a s a.rc) (fun _=>none) rd) (fun v s=>some (.at (.panic [(v,false)]) a s)) x
noncomputable def Tu (P:Program) (rd:Option Pos) (r:Rec) (o:Oper) (k:Kt) (a:aV) (s:St) (w:Bool):Option Out:=
 aQ w (ai (fR o.op P a s) (wZ rd r o.dst k a)) (pq o.dst .undef k a s)
noncomputable def GV (P:Program) (all l:List Oper) (rd:Option Pos) (r:Rec):Kt:=
 @TN Oper (fun _=>Kt) (fun a s=>some (.at .normal a s)) (fun o _ ih a s=>ai (dU all a o.guard) (Tu P rd r o ih a s)) l
noncomputable def Bt (r:AV→AV→Bool) (xs:List AV):List AV→Bool:=
 @TN AV (fun _=>List AV→Bool) (fun ys=>@TN AV (fun _=>Bool) true (fun _ _ _=>false) ys)
  (fun x _ ih ys=>@TN AV (fun _=>Bool) false (fun y ys _=>aQ (r x y) (ih ys) false) ys) xs
noncomputable def GW (r:AV→AV→Bool) (x y:AV):Bool:=
 match x with
 | .bool a=>(match y with | .bool b=>a==b |_=>false)
 | .int j a=>(match y with | .int k b=>rO j k&&Eu a b |_=>false)
 | .float j a=>(match y with | .float k b=>decide (j=k)&&TJ a b |_=>false)
 | .str a=>(match y with | .str b=>vi a b |_=>false)
 | .ptr b o=>(match y with | .ptr c p=>jh b c&&TJ o p |_=>false)
 | .bY=>(match y with | .bY=>true |_=>false)
 | .slice b o n l w=>(match y with | .slice b' o' n' l' w'=>jh b b'&&TJ o o'&&TJ n n'&&l==l'&&w==w' |_=>false)
 | .aJ=>(match y with | .aJ=>true |_=>false)
 | .map b=>(match y with | .map c=>jh b c |_=>false)
 | .ck=>(match y with | .ck=>true |_=>false)
 | .func f a c=>(match y with | .func g a' c'=>TJ f g&&Bt r a a'&&Bt r c c' |_=>false)
 | .yield b=>(match y with | .yield c=>jh b c |_=>false)
 | .bU=>(match y with | .bU=>true |_=>false)
 | .iface t v=>(match y with | .iface u w=>TJ t u&&r v w |_=>false)
 | .bw=>(match y with | .bw=>true |_=>false)
 | .agg a=>(match y with | .agg b=>Bt r a b |_=>false)
 | .tuple a=>(match y with | .tuple b=>Bt r a b |_=>false)
 | .tm t x=>(match y with | .tm u z=>kO t u&&cK x z |_=>false)
 | .vl t x b=>(match y with | .vl u z c=>cM t u&&cK x z&&jh b c |_=>false)
 | .e0 z=>(match y with | .e0 z'=>z==z' |_=>false)
 | .pe t b x o=>(match y with | .pe u c z p=>cM t u&&jh b c&&cK x z&&TJ o p |_=>false)
 | .fb x=>(match y with | .fb z=>cK x z |_=>false)
 | .bad=>false
noncomputable def mP (n:Nat):AV→AV→Bool:=@TI (fun _=>AV→AV→Bool) (fun _ _=>false) (fun _ ih x y=>GW ih x y) n
def bF (P:Program):Op→Nat
 | .move _ | .assign _ | .pick .. | .build .. | .nilCheck _ | .binOp .. | .unOp .. | .makeInterface .. | .makeFunc .. | .slice .. | .fieldAddr .. | .field .. | .indexAddr .. | .index .. | .typeAssert .. | .extract .. =>4
 | .load .. | .lookup .. =>0
 | .alloc _ | .box .. | .buildSlice .. | .makeMap .. | .makeSlice .. =>1
 | .store .. | .mapUpdate .. | .insert .. | .next .. | .range .. =>2
 | .convert _ dst _=>match P.underlying dst with
  |some (.slice _)=>3
  |some .unsafePointer=>3
  |some (.pointer _)=>3
  |none=>3
  |_=>0
 | .call c=>match c.callee with
  | .builtin .len=>0
  | .builtin .min=>4
  | .builtin .max=>4
  |_=>2
 |_=>3
def kI:List Operand→List Tmp
 |[]=>[]
 | .tmp t::l=>t::kI l
 |_::l=>kI l
def cV (done:List Nat) (i:Nat):List Edge→Nat
 |[]=>0
 |e::es=>cond (TX .any e&&TY e.on i) (Nat.lor (Nat.lor (Nat.shiftLeft 1 e.on) (done.getD (i - 1 - e.on) 0)) (cV done i es)) (cV done i es)
def nN:List Oper→List Nat→Nat→List Nat
 |[],done,_=>done.reverse
 |o::l,done,i=>nN l (cV done i o.after.toList::done) (i+1)
def ahead (ops:List Oper):List Nat:=nN ops [] 0
def bit (b:List Nat) (i j:Nat):Bool:=Nat.testBit (b.getD i 0) j
def ss (b:List Nat) (i:Nat) (t:Tmp):List Oper→Nat→Bool
 |[],_=>true
 |o::l,j=>cond (match o.dst with |some d=>TJ d t |none=>false) (bit b i j||bit b j i) true&&ss b i t l (j+1)
def rp (d:Tmp):List Oper→Bool
 |[]=>true
 |o::l=>(match o.dst with |some e=> !TJ d e |none=>true)&&rp d l
def w5:List Oper→Bool
 |[]=>true
 |o::l=>(match o.dst with |some d=>rp d l |none=>true)&&w5 l
def nO (P:Program) (b:List Nat) (j:Nat):List Oper→Nat→Bool
 |[],_=>true
 |o::l,i=>cond (TY i j&&TJ (bF P o.op) 2) (bit b j i) true&&nO P b j l (i+1)
def Dq (P:Program) (b:List Nat) (all:List Oper):List Oper→Nat→Bool
 |[],_=>true
 |o::l,i=>((kI o.op.operands.toList).all fun t=>ss b i t all 0)&&(match o.guard with |some g=>bit b i g.1 |none=>true)&& !TJ (bF P o.op) 3&&(o.after.toList.all fun e=> !TX .text e||TY e.on i)&&
  cond (TJ (bF P o.op) 2) (nO P b i all 0) true&&Dq P b all l (i+1)
def vr (i:Nat):List Nat→Nat
 |[]=>0
 |j::l=>cond (TJ i j) 0 (vr i l+1)
def Kp (n:Nat) (R:List Nat):List Oper→Nat→Bool
 |[],_=>true
 |o::l,i=>(o.after.toList.all fun e=> !TX .gc e||(TY e.on n&&TY (vr e.on R) (vr i R)))&&Kp n R l (i+1)
def k9 (ops:List Oper):Bool:=ops.any fun o=>o.after.toList.any fun e=> !TX .any e
def w9 (P:Program) (ops:List Oper):Bool:=w5 ops&&Dq P (ahead ops) ops ops 0&&cond (k9 ops) (Kp ops.length (Region.linearise .gc ops.toArray 0) ops 0) true
structure fS where
 i:Nat
 o:Oper
 a:aV
 s:St
 w:Bool
 v:AV
inductive Qe where
 |done (a:aV) (s:St)
 |NA (o:Oper) (a:aV) (s:St) (c:dN) (s1:St)
abbrev Tq:=List fS×Qe
noncomputable def uK (p:Pos):Nat:=@Pos.rec (fun _=>Nat) 0 (fun _ ih=>TM (TW 2 ih)) (fun _ ih=>TM (TM (TW 2 ih))) p
noncomputable def jL (o:Oper) (k:Nat→aV→St→Option Tq) (i:Nat) (a:aV) (s:St) (w:Bool) (v:AV) (s':St):Option Tq:=
 aQ (TO (uK s.n) (uK s'.n)) (ai (a.put o.dst v) fun a'=>omap (k (TM i) a' s') fun q=>(⟨i,o,a,s,w,v⟩::q.1,q.2)) none
noncomputable def nP (o:Oper) (k:Nat→aV→St→Option Tq) (i:Nat) (a:aV) (s:St):Out→Option Tq
 | .fin (.returned v) _ s'=>jL o k i a s true v s'
 | .fin (.panicked c) _ s'=>some ([],.NA o a s c s')
 |_=>none
noncomputable def Dr (r:Rec) (o:Oper) (k:Nat→aV→St→Option Tq) (i:Nat) (a:aV) (s:St):aW→Option Tq
 | .val v s'=>jL o k i a s true v s'
 | .skip s'=>jL o k i a s true .undef s'
 | .enter f args s'=>ai (r (.call f args none) a s') (nP o k i a s)
 | .round l args s'=>ai (r (.round l args) a s') (nP o k i a s)
 |_=>none
noncomputable def GX (P:Program) (r:Rec) (o:Oper) (k:Nat→aV→St→Option Tq) (i:Nat) (a:aV) (s:St) (w:Bool):Option Tq:=
 aQ w (ai (fR o.op P a s) (Dr r o k i a s)) (jL o k i a s false .undef s)
noncomputable def iL (P:Program) (all:List Oper) (r:Rec) (l:List Oper):Nat→aV→St→Option Tq:=
 @TN Oper (fun _=>Nat→aV→St→Option Tq) (fun _ a s=>some ([],.done a s)) (fun o _ ih i a s=>ai (dU all a o.guard) (GX P r o ih i a s)) l
noncomputable def ld (P:Program) (n:Nat) (s:St) (l:List fS):List (Nat×Tr bf):=
 @TN fS (fun _=>List (Nat×Tr bf)) [(n,s.h)] (fun t _ ih=>@fS.rec (fun _=>List (Nat×Tr bf)) (fun i o _ s _ _=>aQ (TJ (bF P o.op) 2) ((i,s.h)::ih) ih) t) l
noncomputable def pr (P:Program) (l:List Oper):Nat→List (Nat×Nat):=@TN Oper (fun _=>Nat→List (Nat×Nat)) (fun _=>[]) (fun o _ ih i=>(i,bF P o.op)::ih (TM i)) l
noncomputable def gE (b:List Nat) (i h:Nat) (l:List (Nat×Nat)):Bool:=
 @TN (Nat×Nat) (fun _=>Bool) true (fun x _ ih=>aQ (TJ x.2 2) (aQ (aQ (bit b i x.1) (TY x.1 h) true) (aQ (aQ (bit b x.1 i) (TO h x.1) true) ih false) false) ih) l
noncomputable def i6 (b:List Nat) (i h:Nat) (l:List (Nat×Nat)):Bool:=
 @TN (Nat×Nat) (fun _=>Bool) true (fun x _ ih=>aQ (TJ x.2 1) (aQ (aQ (bit b i x.1) (TY x.1 h) true) ih false) ih) l
noncomputable def calm (i h:Nat) (l:List (Nat×Nat)):Bool:=
 @TN (Nat×Nat) (fun _=>Bool) true (fun x _ ih=>aQ (TJ x.2 2) (aQ (aQ (TY i x.1) (TO h x.1) true) ih false) ih) l
noncomputable def xd (v:AV):aW→Bool
 | .val u _=>mP 12 u v
 |_=>false
noncomputable def jm (P:Program) (o:Oper) (a:aV) (s:St) (v:AV) (h:Tr bf):Bool:=@TH aW (fun _=>Bool) false (fun x=>xd v x) (fR o.op P a ⟨h,s.n⟩)
noncomputable def gd (P:Program) (b:List Nat) (cl:List (Nat×Nat)) (i:Nat) (o:Oper) (a:aV) (s:St) (v:AV) (hs:List (Nat×Tr bf)):Bool:=
 @TN (Nat×Tr bf) (fun _=>Bool) true (fun h _ ih=>@Prod.rec Nat (Tr bf) (fun _=>Bool) (fun j k=>aQ (gE b i j cl) (aQ (i6 b i j cl) (aQ (jm P o a s v k) ih false) false) ih) h) hs
noncomputable def GY (x y:bf):Bool:=
 match x with
 | .cells true t n (.nB l)=>(match y with | .cells true u m (.nB k)=>TJ t u&&TJ n m&&Bt (mP 12) l k |_=>false)
 | .map []=>(match y with | .map []=>true |_=>false)
 | .vec o t ts n x=>(match y with | .vec o' u us m z=>(o==o')&&TJ t u&&cM ts us&&cK n m&&cK x z |_=>false)
 | .bW g kt ts x=>(match y with | .bW g' ku us z=>(g==g')&&kO kt ku&&cM ts us&&cK x z |_=>false)
 |_=>false
noncomputable def EA (x y:Option bf):Bool:=@TH bf (fun _=>Bool) false (fun x=>@TH bf (fun _=>Bool) false (fun y=>GY x y) y) x
def Qf:aW→Option St
 | .val _ s=>some s
 |_=>none
noncomputable def ij (b:List Nat) (cl:List (Nat×Nat)) (i:Nat) (n:Pos) (s:St) (hs:List (Nat×Tr bf)):Bool:=
 @TN (Nat×Tr bf) (fun _=>Bool) true (fun h _ ih=>@Prod.rec Nat (Tr bf) (fun _=>Bool) (fun j k=>aQ (TY i j) (aQ (gE b i j cl) (aQ (aQ (calm i j cl) true (EA (s.h.get n) (k.get n))) ih false) ih) ih) h) hs
noncomputable def mQ (P:Program) (b:List Nat) (cl:List (Nat×Nat)) (i:Nat) (o:Oper) (a:aV) (s:St) (hs:List (Nat×Tr bf)):Bool:=
 @TH St (fun _=>Bool) false (fun s'=>ij b cl i s.n s' hs) (ai (fR o.op P a s) Qf)
noncomputable def cO (P:Program) (b:List Nat) (cl:List (Nat×Nat)) (hs:List (Nat×Tr bf)) (l:List fS):Bool:=
 @TN fS (fun _=>Bool) true (fun t _ ih=>@fS.rec (fun _=>Bool) (fun i o a s w v=>
  aQ w (aQ (TJ (bF P o.op) 0) (aQ (gd P b cl i o a s v hs) ih false) (aQ (TJ (bF P o.op) 1) (aQ (mQ P b cl i o a s hs) ih false) ih)) ih) t) l
noncomputable def pt (o:Oper) (k:Nat→aV→St→Option (List fS)) (i:Nat) (a:aV) (s:St) (w:Bool) (v:AV) (s':St):Option (List fS):=
 aQ (TO (uK s.n) (uK s'.n)) (ai (a.put o.dst v) fun a'=>omap (k (TM i) a' s') fun q=>⟨i,o,a,s,w,v⟩::q) none
noncomputable def GZ (o:Oper) (k:Nat→aV→St→Option (List fS)) (i:Nat) (a:aV) (s:St):aW→Option (List fS)
 | .val v s'=>pt o k i a s true v s'
 |_=>none
noncomputable def G0 (P:Program) (o:Oper) (k:Nat→aV→St→Option (List fS)) (i:Nat) (a:aV) (s:St) (w:Bool):Option (List fS):=
 aQ w (ai (fR o.op P a s) (GZ o k i a s)) (pt o k i a s false .undef s)
noncomputable def mR (P:Program) (all:List Oper) (b:List Nat) (n:Nat) (l:List Oper):Nat→aV→St→Option (List fS):=
 @TN Oper (fun _=>Nat→aV→St→Option (List fS)) (fun _ _ _=>some [])
  (fun o _ ih i a s=>aQ (TJ i n||bit b i n) (pt o ih i a s false .undef s) (ai (dU all a o.guard) (G0 P o ih i a s))) l
noncomputable def EB (l:List Oper):Tr AV→Tr AV:=@TN Oper (fun _=>Tr AV→Tr AV) (fun t=>t) (fun o _ ih t=>ih (@TH Tmp (fun _=>Tr AV) t (fun d=>t.set (pos d) .bad) o.dst)) l
noncomputable def y0 (l:List Oper) (a:aV):aV:=@aV.rec (fun _=>aV) (fun tm n df rc=>.mk (EB l tm) n df rc) a
noncomputable def Ds (P:Program) (ops:List Oper) (ts:List fS) (n:Nat) (a:aV) (s:St) (c:dN) (s1:St):Option Out:=
 ai (mR P ops (ahead ops) n (ops.drop n) n a s) fun us=>aQ (cO P (ahead ops) (pr P ops 0) (ld P n s ts) (ts++us)) (some (.at (.panic c) (y0 ops a) s1)) none
noncomputable def lX (P:Program) (ops:List Oper) (q:Tq):Option Out:=
 match q.2 with
 | .done a s=>aQ (cO P (ahead ops) (pr P ops 0) (ld P ops.length s q.1) q.1) (some (.at .normal a s)) none
 | .NA _ a s c s1=>Ds P ops q.1 q.1.length a s c s1
noncomputable def Qg (P:Program) (ops:Array Oper):Sm:=fun _ r a s=>aQ (w9 P ops.toList) (ai (iL P ops.toList r ops.toList 0 a s) (lX P ops.toList)) none
noncomputable def nQ (P:Program) (ops:Array Oper) (draw:Bool):Sm:=aQ draw (Qg P ops) (fun rd r a s=>GV P ops.toList ops.toList rd r a s)
def G1:Code→Option Code
 | .seq a _=>some a
 | .cond _ a _=>some a
 | .block _ a=>some a
 | .loop a=>some a
 | .scope a=>some a
 | .rangeFunc _ _ a _=>some a
 |_=>none
def Bu:Code→Option Code
 | .seq _ b=>some b
 | .cond _ _ b=>some b
 | .rangeFunc _ _ _ b=>some b
 |_=>none
def G2 (c:Code):Pos→Option Code
 | .one=>some c
 | .o p=>(G2 c p).bind G1
 | .i p=>(G2 c p).bind Bu
def cJ (P:Program) (f:FuncId) (p:Pos):Option Code:=(P.funcs[f]?).bind fun fn=>fn.body.bind fun c=>G2 c p
noncomputable def qC (els o:Option Out):Option Out:=@TH Out (fun _=>Option Out) els (fun x=>some x) o
noncomputable def kJ (P:Program) (hk:Hk) (f:FuncId) (c:Code):Pos→Sm:=
 @Code.rec (fun _=>Pos→Sm) (fun _ _ _ a s=>some (.at .normal a s)) (fun _ ops draw _=>nQ P ops draw) (fun _ _ x y p=>Qd (x (.o p)) (y (.i p))) (fun c _ _ x y p=>L8 P c (x (.o p)) (y (.i p)))
  (fun id _ c p=>GP id (c (.o p))) (fun c _ p rd r a s=>qC (r (.loop rd c f p) a s) (hk f p rd a s)) (fun g ps _ _ _ _ p=>GU P f p g ps) (fun id _ _ _ a s=>some (.at (.exit id) a s))
  (fun _ c p=>c (.o p)) (fun _ _ _ _ a s=>some (.at .normal a s)) (fun _ _ _ _ _ _=>none) (fun _ _ _ a s=>some (.at .ret a s)) (fun _ _ _ _ _ _=>none) c
noncomputable def G3 (fn:Func) (r:Rec) (o:Out):Option Out:=
 @Out.rec (fun _=>Option Out) (fun e a s=>@gW.rec (fun _=>Option Out) (r (.leave fn .returning) a s) (fun _=>none) (r (.leave fn .returning) a s) (fun ch=>r (.leave fn (.panicking ch)) a s) e) (fun _ _ _=>none) o
noncomputable def NB (P:Program) (hk:Hk) (f:FuncId) (r:Rec) (args:List AV) (rc:Option cz) (s:St) (fn:Func):Option Out:=
 ai fn.body fun c=>ai (kJ P hk f c .one none r (.mk (gX args .nil 0) (Nat.max fn.ntmps args.length) [] rc) s) (G3 fn r)
noncomputable def G4 (P:Program) (hk:Hk) (f:FuncId) (args:List AV) (rc:Option cz) (r:Rec) (s:St):Option Out:=ai (P.funcs[f]?) (NB P hk f r args rc s)
noncomputable def y3 (P:Program) (fn:Func) (a:aV) (s:St):cz→Option Out
 | .returning=>omap (sk P fn a s) fun v=>.fin (.returned v) a.rc s
 | .panicking c=>some (.fin (.panicked c) a.rc s)
noncomputable def Dt (fn:Func) (m:cz) (b:Pos) (r:Rec) (a:aV) (s:St):bf→Option Out
 | .deferred true=>r (.leave fn m) a (s.put b (.deferred false))
 |_=>none
def Du (fn:Func) (r:Rec) (a:aV):Out→Option Out
 | .fin (.returned _) (some m) s=>r (.leave fn (rm m)) a s
 | .fin (.panicked c) (some m) s=>r (.leave fn (rn m c)) a s
 |_=>none
noncomputable def y4 (fn:Func) (m:cz) (r:Rec) (a:aV) (args:List AV) (s:St):C5→Option Out
 | .collected b=>ai (s.h.get b) (Dt fn m b r a s)
 | .fn f cap=>ai (r (.call f (args++cap) (some m)) a s) (Du fn r a)
noncomputable def xe (P:Program) (fn:Func) (m:cz) (r:Rec) (a:aV) (s:St):Option Out:=
 @TN jI (fun _=>Option Out) (y3 P fn a s m) (fun d ds _=>y4 fn m r (a.bH ds) d.args s d.target) a.defers
noncomputable def fH (l:Pos) (j:Option Code) (s:St):Option Out:=
 omap (s.loop l) fun lp=>.fin (.returned (.bool j.isNone)) none (s.put l (.loop (lp.with (match j with |none=>.ready |some _=>.done) j)))
noncomputable def y5 (l:Pos) (o:Out):Option Out:=
 @Out.rec (fun _=>Option Out) (fun e a s=>@gW.rec (fun _=>Option Out) (fH l none s) (fun id=>fH l (some (.exit id)) s) (fH l (some .ret) s) (fun c=>@TN jI (fun _=>Option Out) (some (.fin (.panicked c) none s)) (fun _ _ _=>none) a.defers) e) (fun _ _ _=>none) o
noncomputable def qD (P:Program) (hk:Hk) (l:Pos) (f:FuncId) (p:Pos) (body:Code) (r:Rec):Kt:=fun a s=>
 ai (s.loop l) fun lp=>aQ lp.ready (ai (kJ P hk f body (.i p) (some l) r a (s.put l (.loop (lp.with .busy lp.pending)))) (y5 l)) none
noncomputable def su (k:Kt) (o:Out):Option Out:=
 @Out.rec (fun _=>Option Out) (fun e a s=>@gW.rec (fun _=>Option Out) (k a s) (fun _=>none) none (fun _=>none) e) (fun _ _ _=>none) o
noncomputable def vt (n:Nat) (l:List Tmp):Bool:=@TN Tmp (fun _=>Bool) true (fun t _ ih=>aQ (TO (TM t) n) ih false) l
noncomputable def Kq (P:Program) (hk:Hk) (l:Pos) (args:List AV) (r:Rec) (s:St) (lp:er):Option Out:=
 aQ (TJ args.length lp.params.length&&vt lp.n lp.params) (ai (cJ P lp.f (.o lp.p)) fun assign=>ai (cJ P lp.f (.i lp.p)) fun body=>ai (kJ P hk lp.f assign (.o lp.p) (some l) r (.mk (wX lp.params args lp.tm) lp.n [] none) s) (su (qD P hk l lp.f lp.p body r))) none
noncomputable def Bv (P:Program) (hk:Hk) (l:Pos) (args:List AV) (r:Rec) (s:St):Option Out:=ai (s.loop l) (Kq P hk l args r s)
inductive uN where
 |val (v:AV)
 |row (t:TypeId) (o n:Nat) (lim wh:Bool) (l:List uN)
 |ptr (t:TypeId) (l:List uN)
 |agg (l:List uN)
 |gf (l:List uN)
mutual
noncomputable def sv:uN→Nat→AV×List bf
 | .val v,_=>(v,[])
 | .row t o n lim wh l,k=>(.slice (pos (k+(dJ l k).2.length)) o n lim wh,(dJ l k).2++[.cells true t (dJ l k).1.length (.of (dJ l k).1)])
 | .ptr t l,k=>(.ptr (pos (k+(dJ l k).2.length)) 0,(dJ l k).2++[.cells true t (dJ l k).1.length (.of (dJ l k).1)])
 | .agg l,k=>(.agg (dJ l k).1,(dJ l k).2)
 | .gf l,k=>(.tuple (dJ l k).1,(dJ l k).2)
noncomputable def dJ:List uN→Nat→List AV×List bf
 |[],_=>([],[])
 |p::ps,k=>((sv p k).1::(dJ ps (k+(sv p k).2.length)).1,(sv p k).2++(dJ ps (k+(sv p k).2.length)).2)
end
noncomputable def NC (l:List bf):St→St:=@TN bf (fun _=>St→St) (fun s=>s) (fun b _ ih s=>ih (s.push b)) l
inductive dV where
 |flat (v:AV)
 |ptr (t:TypeId) (l:List AV)
 |tree (r:uN)
 |gen (v:AV) (s:St)
noncomputable def Kr (s:St) (q:AV×List bf):Out:=.fin (.returned q.1) none (NC q.2 s)
noncomputable def dV.out (x:dV) (s:St):Out:=@dV.rec (fun _=>Out) (fun v=>.fin (.returned v) none s) (fun t l=>.fin (.returned (.ptr s.n 0)) none (s.row t l)) (fun r=>Kr s (sv r (uK s.n))) (fun v s'=>.fin (.returned v) none s') x
structure Ks where
 call:FuncId→List AV→St→Option dV
 loop:Hk
abbrev qE:=FuncId×List AV×AV×Option (TypeId×Nat)
def Dv:AV→Bool
 | .bool _=>true
 | .int _ _=>true
 | .str _=>true
 | .tm (.int _) _=>true
 | .tm .bool _=>true
 | .tm .str _=>true
 |_=>false
def Dw:AV→Bool
 | .agg l=>l.all Dv
 |v=>Dv v
def Ku:AV→Bool
 | .tuple l=>l.all Dw
 |v=>Dw v
noncomputable def EC (v:AV) (s0 s:St) (o:Option (TypeId×Nat)):Option dV:=
 @TH (TypeId×Nat) (fun _=>Option dV) (some (.gen v (aQ (Ku v) s0 s))) (fun q=>match v with
  | .tm (.aY ts) x=>aQ (TJ q.2 ts.length) (some (.gen (.vl ts (.op .len [x]) s.n) (s.push (.vec true q.1 ts (.op .len [x]) x)))) none
  |_=>none) o
noncomputable def uO (l:List qE) (f:FuncId) (args:List AV) (s:St):Option dV:=
 @TN qE (fun _=>Option dV) none (fun x _ ih=>aQ (TJ x.1 f) (@TH (List AV×St) (fun _=>Option dV) none (fun q=>aQ (Bt (mP 12) x.2.1 q.1) (EC x.2.2.1 s q.2 x.2.2.2) ih) (dj args s)) ih) l
noncomputable def Bw (rc:Option cz) (s:St) (els:Option Out) (o:Option dV):Option Out:=
 @TH dV (fun _=>Option Out) els (fun x=>@TH cz (fun _=>Option Out) (some (x.out s)) (fun _=>els) rc) o
noncomputable def step (P:Program) (orc:Ks) (j:SC) (r:Rec) (a:aV) (s:St):Option Out:=
 @SC.rec (fun _=>Option Out) (fun rd c f p=>qC (ai (kJ P orc.loop f c (.o p) rd r a s) (yX (r (.loop rd c f p)))) (orc.loop f p rd a s)) (fun f args rc=>Bw rc s (G4 P orc.loop f args rc r s) (orc.call f args s)) (fun fn m=>xe P fn m r a s) (fun l args=>Bv P orc.loop l args r s) j
noncomputable def run (P:Program) (orc:Ks) (n:Nat):Rec:=@TI (fun _=>Rec) (fun _ _ _=>none) (fun _ ih j a s=>step P orc j ih a s) n
def Qh:Hk:=fun _ _ _ _ _=>none
def Tv:Ks:=⟨fun _ _ _=>none,Qh⟩
inductive y6 where
 |val (v:AV)
 |row (n:Nat) (l:List y6)
 |agg (l:List y6)
def G5:AV→Option (Pos×Nat×Nat)
 | .slice b o n _ _=>some (b,o,n)
 |_=>none
def G6:AV→Option (List AV)
 | .agg l=>some l
 |_=>none
noncomputable def eqOL (l:List AV) (o:Option (List AV)):Bool:=@TH (List AV) (fun _=>Bool) false (fun k=>Bt (mP 4) k l) o
mutual
noncomputable def ND (s:St):y6→AV→Bool
 | .val u,v=>mP 4 u v
 | .row n l,v=>@TH (Pos×Nat×Nat) (fun _=>Bool) false (fun q=>aQ (TJ q.2.1 0) (aQ (TJ q.2.2 n) (@TH (List AV) (fun _=>Bool) false (fun vs=>rq s l vs) (s.cells q.1 0 l.length)) false) false) (G5 v)
 | .agg l,v=>@TH (List AV) (fun _=>Bool) false (fun vs=>rq s l vs) (G6 v)
noncomputable def rq (s:St):List y6→List AV→Bool
 |[],vs=>@TN AV (fun _=>Bool) true (fun _ _ _=>false) vs
 |p::ps,vs=>@TN AV (fun _=>Bool) false (fun v vs _=>aQ (ND s p v) (rq s ps vs) false) vs
end
noncomputable def Tw (l:List (FuncId×List y6×dV)):Ks:=.mk (fun f args s=>
 @TN (FuncId×List y6×dV) (fun _=>Option dV) none (fun x _ ih=>aQ (TJ x.1 f) (aQ (rq s x.2.1 args) (some x.2.2) ih) ih) l) Qh
def aV.none:aV:=⟨.nil,0,[],.none⟩
end
section
open Go
def isT:Option Out→Bool
 |some (.fin (.returned (.bool b)) _ _)=>b
 |_=>false
noncomputable def pv:List bf→Nat→Tr bf→Tr bf
 |[],_,t=>t
 |b::bs,n,t=>pv bs (n+1) (t.set (pos n) b)
noncomputable def mS (bs:List bf):St:=⟨pv bs 0 .nil,pos bs.length⟩
mutual
noncomputable def xf:y6→Nat→AV×List bf
 | .val v,_=>(v,[])
 | .row n l,k=>(.slice (pos (k+(iM l k).2.length)) 0 n false false,(iM l k).2++[.cells false 0 (iM l k).1.length (.of (iM l k).1)])
 | .agg l,k=>(.agg (iM l k).1,(iM l k).2)
noncomputable def iM:List y6→Nat→List AV×List bf
 |[],_=>([],[])
 |p::ps,k=>((xf p k).1::(iM ps (k+(xf p k).2.length)).1,(xf p k).2++(iM ps (k+(xf p k).2.length)).2)
end
noncomputable def SD (v:AV) (o:Option Out):Bool:=
 match o with
 |some (.fin (.returned v') _ _)=>mP 6 v' v
 |_=>false
noncomputable def isRow (t:TypeId) (l:List AV) (o:Option Out):Bool:=
 match o with
 |some (.fin (.returned (.ptr b 0)) _ s)=>(match s.h.get b with
  |some (.cells true t' len c)=>TJ t' t&&TJ len l.length&&(match c.sub 0 len with |some l'=>Bt (mP 6) l' l |none=>false)
  |_=>false)
 |_=>false
def Bx:AV→Option (Pos×Nat×Nat×Bool×Bool)
 | .slice b o n lim wh=>some (b,o,n,lim,wh)
 |_=>none
def Kv:AV→Option Pos
 | .ptr b 0=>some b
 |_=>none
def Kw:AV→Option (List AV)
 | .tuple l=>some l
 |_=>none
noncomputable def ownRow (s:St) (b:Pos) (t:TypeId) (n:Nat):Option (List AV):=
 match s.h.get b with
 |some (.cells true t' len c)=>aQ (TJ t' t&&TJ len n) (c.sub 0 n) none
 |_=>none
mutual
noncomputable def y7 (s:St):uN→AV→Option (List Pos)
 | .val u,v=>aQ (mP 6 u v) (some []) none
 | .row t o n lim wh l,v=>ai (Bx v) fun q=>aQ (TJ q.2.1 o&&TJ q.2.2.1 n&&q.2.2.2.1==lim&&q.2.2.2.2==wh) (ai (ownRow s q.1 t l.length) fun vs=>omap (jn s l vs) fun ps=>ps++[q.1]) none
 | .ptr t l,v=>ai (Kv v) fun b=>ai (ownRow s b t l.length) fun vs=>omap (jn s l vs) fun ps=>ps++[b]
 | .agg l,v=>ai (G6 v) fun vs=>jn s l vs
 | .gf l,v=>ai (Kw v) fun vs=>jn s l vs
noncomputable def jn (s:St):List uN→List AV→Option (List Pos)
 |[],vs=>@TN AV (fun _=>Option (List Pos)) (some []) (fun _ _ _=>none) vs
 |p::ps,vs=>@TN AV (fun _=>Option (List Pos)) none (fun v vs _=>ai (y7 s p v) fun a=>omap (jn s ps vs) fun b=>a++b) vs
end
noncomputable def Qi (b:Pos) (l:List Pos):Bool:=@TN Pos (fun _=>Bool) true (fun c _ ih=>aQ (jh b c) false ih) l
noncomputable def NF (l:List Pos):Bool:=@TN Pos (fun _=>Bool) true (fun b l ih=>aQ (Qi b l) ih false) l
noncomputable def SE (r:uN) (o:Option Out):Bool:=
 match o with
 |some (.fin (.returned v) _ s)=>(match y7 s r v with
  |some ps=>NF ps
  |none=>false)
 |_=>false
end
section
open Go
theorem Qj {α:Type} (x y:α):aQ true x y=x:=rfl
theorem PC {α:Type} (x y:α):aQ false x y=y:=rfl
theorem gB {α:Type} (b:Bool) (x y:α):aQ b x y=if b=true then x else y:=by cases b<;>rfl
theorem Qk {α β:Type} (o:Option α) (f:α→Option β):ai o f=o.bind f:=by cases o<;>rfl
theorem R5 {α β:Type} (o:Option α) (f:α→β):omap o f=o.map f:=by cases o<;>rfl
theorem aa {α β:Type} {o:Option α} {f:α→Option β} {r:β}:ai o f=some r↔∃x,o=some x∧f x=some r:=by
 cases o with
 |none=>exact ⟨fun h=>(by cases h),fun ⟨_,h,_⟩=>(by cases h)⟩
 |some x=>exact ⟨fun h=>⟨x,rfl,h⟩,fun ⟨y,h,k⟩=>by cases h;exact k⟩
theorem ba {α β:Type} {o:Option α} {f:α→β} {r:β}:omap o f=some r↔∃x,o=some x∧f x=r:=by
 cases o with
 |none=>exact ⟨fun h=>(by cases h),fun ⟨_,h,_⟩=>(by cases h)⟩
 |some x=>exact ⟨fun h=>⟨x,rfl,TZ h⟩,fun ⟨y,h,k⟩=>by cases h;exact congrArg some k⟩
theorem bB {b c:Bool} (h:aQ b c false=true):b=true∧c=true:=by cases b<;>simp_all [aQ]
theorem aA {α:Type} {b:Bool} {x:Option α} {r:α}:aQ b x none=some r↔b=true∧x=some r:=by
 cases b with
 |true=>exact ⟨fun h=>⟨rfl,h⟩,fun h=>h.2⟩
 |false=>exact ⟨fun h=>(by cases h),fun h=>(by cases h.1)⟩
theorem dW {α:Type} {b:Bool} {x:Option α} {r:α}:aQ b none x=some r↔b=false∧x=some r:=by
 cases b with
 |false=>exact ⟨fun h=>⟨rfl,h⟩,fun h=>h.2⟩
 |true=>exact ⟨fun h=>(by cases h),fun h=>(by cases h.1)⟩
def Pos.toNat:Pos→Nat
 | .one=>0
 | .o p=>2*p.toNat+1
 | .i p=>2*p.toNat+2
theorem Pos.Ql:Pos.succ .one= .o .one:=rfl
theorem Pos.NG (p:Pos):Pos.succ (.o p)= .i p:=rfl
theorem Pos.NH (p:Pos):Pos.succ (.i p)= .o p.succ:=rfl
theorem Pos.bX (p:Pos):p.succ.toNat=p.toNat+1:=by
 induction p with
 |one=>rfl
 |o p _=>simp only [Pos.NG,Pos.toNat]
 |i p ih=>simp only [Pos.NH,Pos.toNat,ih];omega
theorem Pos.toNat_inj {p q:Pos} (h:p.toNat=q.toNat):p=q:=by
 induction p generalizing q with
 |one=>cases q with
  |one=>rfl
  |o q=>simp only [Pos.toNat] at h;omega
  |i q=>simp only [Pos.toNat] at h;omega
 |o p ih=>cases q with
  |one=>simp only [Pos.toNat] at h;omega
  |o q=>simp only [Pos.toNat] at h;rw [ih (q:=q) (by omega)]
  |i q=>simp only [Pos.toNat] at h;omega
 |i p ih=>cases q with
  |one=>simp only [Pos.toNat] at h;omega
  |o q=>simp only [Pos.toNat] at h;omega
  |i q=>simp only [Pos.toNat] at h;rw [ih (q:=q) (by omega)]
instance :DecidableEq Pos:=fun p q=>if h:p.toNat=q.toNat then isTrue (Pos.toNat_inj h) else isFalse fun e=>h (e▸rfl)
theorem dm: ∀{p q:Pos},jh p q=true→p=q
 | .one,.one,_=>rfl
 | .one,.o _,h=>by cases h
 | .one,.i _,h=>by cases h
 | .o _,.one,h=>by cases h
 | .o p,.o q,h=>by rw [dm (show jh p q=true from h)]
 | .o _,.i _,h=>by cases h
 | .i _,.one,h=>by cases h
 | .i _,.o _,h=>by cases h
 | .i p,.i q,h=>by rw [dm (show jh p q=true from h)]
theorem PD (n:Nat):yD 0 n= .one:=rfl
theorem ED (f n:Nat):yD (f+1) n=if n=0 then .one else if n % 2=1 then .o (yD f (n / 2)) else .i (yD f (n / 2 - 1)):=by
 show aQ (TJ n 0) Pos.one (aQ (TJ (Nat.mod n 2) 1) (.o (yD f (TK n 2))) (.i (yD f (TL (TK n 2) 1))))=_
 rw [gB,gB]
 simp only [T0]
 rfl
theorem mT: ∀(f n:Nat),n<f→(yD f n).toNat=n
 |0,n,h=>by omega
 |f+1,n,h=>by
  rw [ED]
  split
  ·rename_i h0;simp only [Pos.toNat];omega
  ·split
   ·simp only [Pos.toNat];rw [mT f (n / 2) (by omega)];omega
   ·simp only [Pos.toNat];rw [mT f (n / 2 - 1) (by omega)];omega
theorem dX (n:Nat):(pos n).toNat=n:=mT (n+1) n (by omega)
theorem nR {n m:Nat} (h:pos n=pos m):n=m:=by rw [←dX n,←dX m,h]
section
variable {α:Type}
theorem get_nil (p:Pos):(Tr.nil:Tr α).get p=none:=by cases p<;>rfl
theorem lY (v:Option α) (l r:Tr α):(Tr.node v l r).get .one=v:=rfl
theorem vu (v:Option α) (l r:Tr α) (p:Pos):(Tr.node v l r).get (.o p)=l.get p:=rfl
theorem vv (v:Option α) (l r:Tr α) (p:Pos):(Tr.node v l r).get (.i p)=r.get p:=rfl
theorem G7 (v:Option α) (p q:Pos) (t:Tr α):(Tr.A9 v p t).get q=if p=q then v else t.get q:=by
 induction p generalizing q t with
 |one=>cases t<;>cases q<;>simp [Tr.A9,lY,vu,vv,get_nil]
 |o p ih=>
  cases t with
  |nil=>
   show (Tr.node none (Tr.A9 v p .nil) .nil).get q=_
   cases q<;>simp [lY,vu,vv,get_nil,ih]
  |node u l r=>
   show (Tr.node u (Tr.A9 v p l) r).get q=_
   cases q<;>simp [lY,vu,vv,ih]
 |i p ih=>
  cases t with
  |nil=>
   show (Tr.node none .nil (Tr.A9 v p .nil)).get q=_
   cases q<;>simp [lY,vu,vv,get_nil,ih]
  |node u l r=>
   show (Tr.node u l (Tr.A9 v p r)).get q=_
   cases q<;>simp [lY,vu,vv,ih]
theorem iN (t:Tr α) (p q:Pos) (v:α):(t.set p v).get q=if p=q then some v else t.get q:=G7 _ _ _ _
theorem gI (t:Tr α) (p:Pos) (v:α):(t.set p v).get p=some v:=by rw [iN,if_pos rfl]
theorem jM (t:Tr α) {p q:Pos} (v:α) (h:p≠q):(t.set p v).get q=t.get q:=by rw [iN,if_neg h]
end
theorem By (l:List AV) (i:Nat):nth l i=l[i]? :=by
 induction l generalizing i with
 |nil=>rfl
 |cons v l ih=>
  show aQ (TJ i 0) (some v) (nth l (TQ i))=_
  cases i with
  |zero=>rfl
  |succ i=>show nth l i=_;rw [ih];rfl
theorem nS (l:List AV) (i:Nat):mw l i=l.drop i:=by
 induction l generalizing i with
 |nil=>simp [mw]
 |cons v l ih=>
  cases i with
  |zero=>rfl
  |succ i=>show mw l i=_;rw [ih];rfl
theorem nT (l:List AV) (i:Nat):my l i=l.take i:=by
 induction l generalizing i with
 |nil=>simp [my]
 |cons v l ih=>
  cases i with
  |zero=>rfl
  |succ i=>show v::my l i=_;rw [ih];rfl
theorem G8 (vs l:List AV) (i:Nat) (h:i<l.length):vh vs l i=l.take i++(vs++l.drop (i+vs.length)):=by
 induction l generalizing i with
 |nil=>simp at h
 |cons v l ih=>
  cases i with
  |zero=>show vs++mw (v::l) vs.length=_;rw [nS];simp
  |succ i=>
   show v::vh vs l i=_
   rw [ih i (by simpa using h),show i+1+vs.length=(i+vs.length)+1 from by omega]
   rfl
theorem EE (vs l:List AV) (i:Nat) (h:l.length≤i):vh vs l i=l:=by
 induction l generalizing i with
 |nil=>rfl
 |cons v l ih=>
  cases i with
  |zero=>simp at h
  |succ i=>show v::vh vs l i=_;rw [ih i (by simpa using h)]
theorem gJ (l:List AV):cd l=l.all AV.one:=by
 induction l with
 |nil=>rfl
 |cons v l ih=>
  show aQ v.one (cd l) false=_
  rw [gB,ih]
  cases h:v.one<;>simp [h]
theorem y8 (c:Tr AV): ∀(n o:Nat) (r:List AV),Gg c n o=some r→r.length=n∧∀i,i<n→c.get (pos (o+i))=r[i]?
 |0,o,r,h=>by
  have:r=[]:=(TZ h).symm
  subst this
  exact ⟨rfl,fun i hi=>by omega⟩
 |n+1,o,r,h=>by
  have h:ai (c.get (pos o)) (fun v=>ai (Gg c n (o+1)) fun vs=>some (v::vs))=some r:=h
  obtain ⟨v,hv,h⟩:=aa.1 h
  obtain ⟨vs,hvs,h⟩:=aa.1 h
  have:r=v::vs:=(TZ h).symm
  subst this
  obtain ⟨hl,hi⟩:=y8 c n (o+1) vs hvs
  refine ⟨by simp [hl],fun i h=>?_⟩
  cases i with
  |zero=>simpa using hv
  |succ i=>rw [show o+(i+1)=o+1+i from by omega,hi i (by omega)];rfl
theorem jo (vs:List AV): ∀(c:Tr AV) (o j:Nat),(gX vs c o).get (pos j)=if o≤j∧j<o+vs.length then vs[j - o]? else c.get (pos j):=by
 induction vs with
 |nil=>intro c o j;simp [gX];omega
 |cons v vs ih=>
  intro c o j
  show (gX vs (c.set (pos o) v) (o+1)).get (pos j)=_
  rw [ih,iN]
  by_cases h1:o+1≤j∧j<o+1+vs.length
  ·rw [if_pos h1,if_pos (by simp;omega)]
   rw [show j - o=(j - (o+1))+1 from by omega]
   rfl
  ·rw [if_neg h1]
   by_cases h2:j=o
   ·subst h2;simp
   ·rw [if_neg (fun h=>h2 (nR h).symm),if_neg (by simp;omega)]
theorem Cs.fT (l:List AV) (i:Nat):(Cs.nB l).get i=l[i]? :=By l i
theorem Cs.sw (t:Tr AV) (i:Nat):(Cs.many t).get i=t.get (pos i):=rfl
theorem Cs.i7 (vs:List AV) (i:Nat):(Cs.of vs).get i=vs[i]? :=by
 unfold Cs.of
 rw [gB]
 split
 ·exact Cs.fT vs i
 ·rw [Cs.sw,jo]
  split
  ·simp
  ·rw [get_nil,T1 (by omega)]
theorem Cs.y9 {c:Cs} {o n len:Nat} {r:List AV} (h:c.sub o n=some r) (hlen:o+n≤len) (hc: ∀i,i<len→(c.get i).isSome):
 r.length=n∧∀i,i<n→c.get (o+i)=r[i]? :=by
 cases c with
 |many t=>exact y8 t n o r h
 |nB l=>
  have hr:r=my (mw l o) n:=(TZ h).symm
  rw [nT,nS] at hr
  subst hr
  have hl:len≤l.length:=by
   rcases T2 l.length len with hlt |hge
   ·have:=hc l.length hlt
    rw [Cs.fT,T1 (by omega)] at this
    cases this
   ·exact hge
  refine ⟨by simp;omega,fun i hi=>?_⟩
  rw [Cs.fT]
  simp [hi]
theorem Cs.G9 {c:Cs} {o len:Nat} {vs:List AV} (hlen:o+vs.length≤len) (hc: ∀i,i<len→(c.get i).isSome) (j:Nat) (hj:j<len):
 (c.over o vs).get j=if o≤j∧j<o+vs.length then vs[j - o]? else c.get j:=by
 cases c with
 |many t=>show (gX vs t o).get (pos j)=_;rw [jo];rfl
 |nB l=>
  have hl:len≤l.length:=by
   rcases T2 l.length len with hlt |hge
   ·have:=hc l.length hlt
    rw [Cs.fT,T1 (by omega)] at this
    cases this
   ·exact hge
  show (Cs.nB (vh vs l o)).get j=_
  rw [Cs.fT,Cs.fT]
  by_cases ho:o<l.length
  ·rw [G8 vs l o ho]
   by_cases h1:j<o
   ·rw [if_neg (by omega),T3 (by simp;omega),T4,if_pos h1]
   ·rw [T5 (by simp;omega)]
    have ht:(l.take o).length=o:=by simp;omega
    rw [ht]
    by_cases h2:j<o+vs.length
    ·rw [if_pos (by omega),T3 (by omega)]
    ·rw [if_neg (by omega),T5 (by omega),T6]
     congr 1
     omega
  ·rw [EE vs l o (by omega),if_neg (by omega)]
theorem Cs.zc {c:Cs} {n len:Nat} {vs:List AV} (hn:n≤len) (hc: ∀i,i<len→(c.get i).isSome) (j:Nat) (hj:j<n+vs.length):
 (c.grow n vs).get j=if j<n then c.get j else vs[j - n]? :=by
 cases c with
 |many t=>
  show (gX vs t n).get (pos j)=_
  rw [jo]
  by_cases h:j<n
  ·rw [if_neg (by omega),if_pos h];rfl
  ·rw [if_pos (by omega),if_neg h]
 |nB l=>
  have hl:len≤l.length:=by
   rcases T2 l.length len with hlt |hge
   ·have:=hc l.length hlt
    rw [Cs.fT,T1 (by omega)] at this
    cases this
   ·exact hge
  show (Cs.of (my l n++vs)).get j=_
  rw [Cs.i7,nT,Cs.fT]
  have ht:(l.take n).length=n:=by simp;omega
  by_cases h:j<n
  ·rw [if_pos h,T3 (by omega),T4,if_pos h]
  ·rw [if_neg h,T5 (by omega),ht]
theorem fj (a b:List Nat):vi a b=(a==b):=by
 induction a generalizing b with
 |nil=>cases b<;>rfl
 |cons x a ih=>
  cases b with
  |nil=>rfl
  |cons y b=>
   show aQ (TJ x y) (vi a b) false=_
   rw [gB,ih]
   by_cases h:x=y
   ·subst h;simp
   ·have:TJ x y=false:=by
     cases hb:TJ x y with
     |false=>rfl
     |true=>exact absurd (T7 hb) h
    simp [this,h]
theorem fI (a b:Int):Eu a b=(a==b):=by
 cases a with
 |ofNat a=>cases b with
  |ofNat b=>
   show TJ a b=_
   rw [T8]
   simp [T0]
   omega
  |negSucc b=>show false=_;rw [eq_comm,beq_eq_false_iff_ne];exact fun h=>by cases h
 |negSucc a=>cases b with
  |ofNat b=>show false=_;rw [eq_comm,beq_eq_false_iff_ne];exact fun h=>by cases h
  |negSucc b=>
   show TJ a b=_
   rw [T8]
   simp [T0]
theorem lf (a b:Int):Gk a b=decide (a<b):=by
 cases a with
 |ofNat a=>cases b with
  |ofNat b=>
   show TO (TM a) b=_
   rw [T8,Nat.ble_eq,decide_eq_true_iff]
   simp only [T9];omega
  |negSucc b=>show false=_;rw [eq_comm,decide_eq_false_iff_not];simp only [T9];omega
 |negSucc a=>cases b with
  |ofNat b=>show true=_;rw [eq_comm,decide_eq_true_iff];simp only [T9];omega
  |negSucc b=>
   show TO (TM b) a=_
   rw [T8,Nat.ble_eq,decide_eq_true_iff]
   omega
theorem fk (j k:IntKind):rO j k=decide (j=k):=by cases j<;>cases k<;>rfl
theorem nU (k:IntKind) (n:Int):yH k n=k.wrap n:=by
 cases k<;>try rfl
 cases n with
 |negSucc m=>rfl
 |ofNat m=>
  show aQ (TO m 9223372036854775807) (TP m) (TU .i64 (.ofNat m))=_
  rw [gB]
  split
  ·rename_i h
   have h:=Ua h
   exact (IntWalk.i64_in _ (by simp only [T9];omega)).symm
  ·rfl
end
section
open Go Go.RowKit
structure eQ where
 a:Addr
 own:Option (Nat×TypeId)
structure bu where
 f:Pos→Option eQ
 fz:Addr→Option Value
instance :CoeFun bu (fun _=>Pos→Option eQ):=⟨bu.f⟩
theorem bu.same {μ ν:bu} (h: ∀b,μ b=ν b) (k:μ.fz=ν.fz):μ=ν:=by
 obtain ⟨f,z⟩:=μ
 obtain ⟨g,y⟩:=ν
 obtain rfl:f=g:=funext h
 obtain rfl:z=y:=k
 rfl
inductive D where
 |bad
 |int (k:IntKind) (n:Int)
 |bool (b:Bool)
 |str (l:List Nat)
 |aY (l:List (List D))
 |ref (l:List D)
def zd (o:BinOp) (a b:Int):D:=
 match o with
 | .eql=>.bool (a==b)
 | .neq=>.bool (a != b)
 | .lss=>.bool (decide (a<b))
 | .leq=>.bool (decide (a≤b))
 | .gtr=>.bool (decide (b<a))
 | .geq=>.bool (decide (b≤a))
 |_=>.bad
noncomputable def NI (o:BinOp) (a b:List Nat):D:=
 match o with
 | .eql=>.bool (a==b)
 | .neq=>.bool (a != b)
 | .lss=>.bool (mz a b)
 | .leq=>.bool (mz a b||a==b)
 | .gtr=>.bool (!(mz a b||a==b))
 | .geq=>.bool (!mz a b)
 |_=>.bad
def SF (o:BinOp) (k:IntKind) (a b:Int):D:=
 match o with
 | .add=>.int k (k.wrap (a+b))
 | .sub=>.int k (k.wrap (a - b))
 | .mul=>.int k (k.wrap (a*b))
 | .rem=>.int k (a.tmod b)
 |_=>.bad
def gC:D→D→Bool
 | .int j a,.int k b=>decide (j=k)&&a==b
 | .str a,.str b=>a==b
 |_,_=>false
def bC (k:D):List D→Bool
 |[]=>false
 |d::_=>gC k d
def ik (k:D) (vs:List D):List (List D)→List (List D)
 |[]=>[k::vs]
 |r::l=>bif bC k r then (k::vs)::l else r::ik k vs l
def kK (k:D):List (List D)→List (List D)
 |[]=>[]
 |r::l=>bif bC k r then l else r::kK k l
def D.at (l:List D) (k:Nat):D:=match l[k]? with |some d=>d |none=>.bad
noncomputable def cD:Pz→List D→D
 | .jg o k,[.int _ a,.int _ b]=>SF o k a b
 | .cmp o,[.int _ a,.int _ b]=>zd o a b
 | .conv k,[.int _ a]=>.int k (k.wrap a)
 | .jH o,[.str a,.str b]=>NI o a b
 | .cat,[.str a,.str b]=>.str (a++b)
 | .gw,[.str a,.int _ i]=>(match a[i.toNat]? with |some c=>.int .u8 c |none=>.bad)
 | .Ke,[.str a,.int _ lo,.int _ hi]=>.str ((a.take hi.toNat).drop lo.toNat)
 | .fY,[.str a]=>.int .i64 a.length
 | .not,[.bool a]=>.bool (!a)
 | .and,[.bool a,.bool b]=>.bool (a&&b)
 | .beq,[.bool a,.bool b]=>.bool (a==b)
 | .nil,[]=>.aY []
 | .snoc,.aY l::r=>.aY (l++[r])
 | .app,[.aY a,.aY b]=>.aY (a++b)
 | .sub,[.aY a,.int _ lo,.int _ hi]=>.aY ((a.take hi.toNat).drop lo.toNat)
 | .len,[.aY a]=>.int .i64 a.length
 | .yE,[.aY a,.int _ i]=>(match a[i.toNat]? with |some r=>.ref r |none=>.bad)
 | .cell k,[.ref r]=>D.at r k
 | .off k n,[.ref r]=>.ref ((r.drop k).take n)
 | .row,r=>.ref r
 | .dr o n,.aY l::.int _ i::r=>.aY (l.modify i.toNat fun row=>row.take o++r++row.drop (o+n))
 | .rep,.int _ n::r=>.aY (List.replicate n.toNat r)
 | .uL,[.aY l,k]=>.bool (l.any (bC k))
 | .nA,[.aY l,k]=>(match l.find? (bC k) with |some r=>.ref r.tail |none=>.bad)
 | .rN,.aY l::k::vs=>.aY (ik k vs l)
 | .Ba,[.aY l,k]=>.aY (kK k l)
 | .Bb,[.int _ n]=>.bool (FloatKind.f64.format.order n.toNat n.toNat != some .eq)
 |_,_=>.bad
mutual
noncomputable def bc (ρ:Nat→D):Tm→D
 | .var n=>ρ n
 | .int k n=>.int k n
 | .bool b=>.bool b
 | .str l=>.str l
 | .op o l=>cD o (aR ρ l)
noncomputable def aR (ρ:Nat→D):List Tm→List D
 |[]=>[]
 |x::l=>bc ρ x::aR ρ l
end
class Env extends Gam where
 ρ:Nat→D
 conds: ∀c∈g,bc ρ c.1= .bool c.2
 n:Nat
 base:World→Prop
 bx: ∀w w':World,w.heap.size≤w'.heap.size→(∀k,k<n→w'.heap[k]? =w.heap[k]?)→base w→base w'
variable [Env]
noncomputable def ev (x:Tm):D:=bc Env.ρ x
mutual
def bA:Ty→D→Prop
 | .int k,d=>∃n,d= .int k n
 | .bool,d=>∃b,d= .bool b
 | .str,d=>∃l,d= .str l
 | .aY ts,d=>∃l,d= .aY l∧∀r∈l,bg ts r
 | .ref ts,d=>∃r,d= .ref r∧bg ts r
def bg:List Ty→List D→Prop
 |[],r=>r=[]
 |t::ts,r=>∃d r',r=d::r'∧bA t d∧bg ts r'
end
inductive dM (fz:Addr→Option Value):D→Value→Prop
 |int (k:IntKind) (n:Int):dM fz (.int k n) (.int k n)
 |bool (b:Bool):dM fz (.bool b) (.bool b)
 |str (l:List Nat) (s:ByteArray) (h:s.data.toList.map (·.toNat)=l):dM fz (.str l) (.string s)
 |nil:dM fz (.aY []) (.slice none 0 0)
 |aY (l:List (List D)) (ad:Addr) (c:Nat) (u:Nat→Value) (hn:l.length≤c) (hm:c≤maxLen) (hf: ∀j,j<l.flatten.length→fz (ad.add j)=some (u j))
  (h: ∀j d,l.flatten[j]? =some d→dM fz d (u j)):dM fz (.aY l) (.slice (some ad) l.length c)
 |ref (r:List D) (ad:Addr) (u:Nat→Value) (hf: ∀j,j<r.length→fz (ad.add j)=some (u j)) (h: ∀j d,r[j]? =some d→dM fz d (u j)):dM fz (.ref r) (.pointer (some ad))
theorem dM.mono {fz fz':Addr→Option Value} (hs: ∀ad v,fz ad=some v→fz' ad=some v) {d:D} {v:Value} (h:dM fz d v):dM fz' d v:=by
 induction h with
 |int k n=>exact .int k n
 |bool b=>exact .bool b
 |str l s h=>exact .str l s h
 |nil=>exact .nil
 |aY l ad c u hn hm hf h ih=>exact .aY l ad c u hn hm (fun j hj=>hs _ _ (hf j hj)) ih
 |ref r ad u hf h ih=>exact .ref r ad u (fun j hj=>hs _ _ (hf j hj)) ih
theorem dM.one {fz:Addr→Option Value} {d:D} {v:Value} (h:dM fz d v):v.oneCell'=true:=by cases h<;>rfl
theorem dM.cells {fz:Addr→Option Value} {d:D} {v:Value} (h:dM fz d v):v.cells= #[v]:=by cases h<;>rfl
mutual
inductive VR (P:Program) (μ:bu):AV→Value→Prop
 |bool (b:Bool):VR P μ (.bool b) (.bool b)
 |int (k:IntKind) (n:Int):VR P μ (.int k n) (.int k n)
 |float (k:FloatKind) (n:Nat):VR P μ (.float k n) (.float k n)
 |str (l:List Nat) (s:ByteArray) (h:s.data.toList.map (·.toNat)=l):VR P μ (.str l) (.string s)
 |ptr (b:Pos) (o:Nat) (e:eQ) (h:μ b=some e):VR P μ (.ptr b o) (.pointer (some (e.a.add o)))
 |bY:VR P μ .bY (.pointer none)
 |slice (b:Pos) (o n:Nat) (lim wh:Bool) (e:eQ) (ad:Addr) (c:Nat) (h:μ b=some e) (had:ad=e.a.add o∨(c=0∧o≠0)) (hn:n≤c) (hm:c≤maxLen) (hl:lim=true→c=n)
  (hc:wh=true→o=0→∀sz t,e.own=some (sz,t)→c*P.cellsOf t=sz):VR P μ (.slice b o n lim wh) (.slice (some ad) n c)
 |aJ:VR P μ .aJ (.slice none 0 0)
 |map (b:Pos) (e:eQ) (h:μ b=some e):VR P μ (.map b) (.map (some e.a.block))
 |ck:VR P μ .ck (.map none)
 |func (f:FuncId) (first cap:List AV) (F C:List Value) (h1:bZ P μ first F) (h2:bZ P μ cap C):VR P μ (.func f first cap) (.func (.func f) F.toArray C.toArray)
 |yield (b:Pos) (e:eQ) (h:μ b=some e):VR P μ (.yield b) (.func (.yield e.a.block) #[] #[])
 |bU:VR P μ .bU .nilFunc
 |iface (t:TypeId) (v:AV) (u:Value) (h:VR P μ v u):VR P μ (.iface t v) (.iface t u)
 |bw:VR P μ .bw .nilIface
 |agg (cs:List AV) (C:List Value) (h:bZ P μ cs C) (ho:cd cs=true):VR P μ (.agg cs) (.agg C.toArray)
 |tuple (cs:List AV) (C:List Value) (h:bZ P μ cs C):VR P μ (.tuple cs) (.tuple C.toArray)
 |bad (v:Value):VR P μ .bad v
 |tm (t:Ty) (x:Tm) (u:Value) (ht:bA t (ev x)) (h:dM μ.fz (ev x) u):VR P μ (.tm t x) u
 |vl (ts:List Ty) (n:Tm) (b:Pos) (u:Value) (e:eQ) (he:μ b=some e) (h:((u= .slice none 0 0∨∃ad,u= .slice (some ad) 0 0)∧e.a.spot≠none∧ev n= .int .i64 0)∨∃m c,u= .slice (some e.a) m c∧e.a.spot=none∧ev n= .int .i64 (TP m)∧m≤c∧c≤maxLen∧∀sz t,e.own=some (sz,t)→sz=c*ts.length):VR P μ (.vl ts n b) u
 |e0 (z:Bool) (ad:Addr) (c:Nat) (hz:z=true→c=0) (hm:c≤maxLen):VR P μ (.e0 z) (.slice (some ad) 0 c)
 |pe (ts:List Ty) (b:Pos) (i:Tm) (o:Nat) (e:eQ) (k:IntKind) (n:Nat) (h:μ b=some e) (hi:ev i= .int k n):VR P μ (.pe ts b i o) (.pointer (some (e.a.add (n*ts.length+o))))
 |fb (x:Tm) (n:Int) (h:ev x= .int .u64 n):VR P μ (.fb x) (.float .f64 n.toNat)
inductive bZ (P:Program) (μ:bu):List AV→List Value→Prop
 |nil:bZ P μ [] []
 |cons (v:AV) (u:Value) (vs:List AV) (us:List Value) (h:VR P μ v u) (hs:bZ P μ vs us):bZ P μ (v::vs) (u::us)
end
structure Sub (μ μ':bu):Prop where
 f: ∀b e,μ b=some e→μ' b=some e
 fz: ∀ad v,μ.fz ad=some v→μ'.fz ad=some v
instance {μ μ':bu}:CoeFun (Sub μ μ') (fun _=>∀b e,μ b=some e→μ' b=some e):=⟨Sub.f⟩
theorem Sub.refl (μ:bu):Sub μ μ:=⟨fun _ _ h=>h,fun _ _ h=>h⟩
theorem Sub.trans {μ μ' μ'':bu} (h:Sub μ μ') (k:Sub μ' μ''):Sub μ μ'':=⟨fun b e x=>k b e (h b e x),fun a v x=>k.fz a v (h.fz a v x)⟩
mutual
theorem VR.mono {P:Program} {μ μ':bu} (hs:Sub μ μ'): ∀{v:AV} {u:Value},VR P μ v u→VR P μ' v u
 |_,_,.bool b=>.bool b
 |_,_,.int k n=>.int k n
 |_,_,.float k n=>.float k n
 |_,_,.str l s h=>.str l s h
 |_,_,.ptr b o e h=>.ptr b o e (hs _ _ h)
 |_,_,.bY=>.bY
 |_,_,.slice b o n lim wh e ad c h had hn hm hl hc=>.slice b o n lim wh e ad c (hs _ _ h) had hn hm hl hc
 |_,_,.aJ=>.aJ
 |_,_,.map b e h=>.map b e (hs _ _ h)
 |_,_,.ck=>.ck
 |_,_,.func f a b F C h1 h2=>.func f a b F C (bZ.mono hs h1) (bZ.mono hs h2)
 |_,_,.yield b e h=>.yield b e (hs _ _ h)
 |_,_,.bU=>.bU
 |_,_,.iface t v u h=>.iface t v u (VR.mono hs h)
 |_,_,.bw=>.bw
 |_,_,.agg cs C h ho=>.agg cs C (bZ.mono hs h) ho
 |_,_,.tuple cs C h=>.tuple cs C (bZ.mono hs h)
 |_,_,.bad v=>.bad v
 |_,_,.tm t x u ht h=>.tm t x u ht (h.mono hs.fz)
 |_,_,.vl ts n b u e he h=>.vl ts n b u e (hs b e he) h
 |_,_,.e0 z ad c hz hm=>.e0 z ad c hz hm
 |_,_,.pe ts b i o e k n h hi=>.pe ts b i o e k n (hs b e h) hi
 |_,_,.fb x n h=>.fb x n h
theorem bZ.mono {P:Program} {μ μ':bu} (hs:Sub μ μ'): ∀{v:List AV} {u:List Value},bZ P μ v u→bZ P μ' v u
 |_,_,.nil=>.nil
 |_,_,.cons v u vs us h k=>.cons v u vs us (VR.mono hs h) (bZ.mono hs k)
end
section
variable {P:Program} {μ:bu}
theorem bZ.length {vs:List AV} {us:List Value} (h:bZ P μ vs us):vs.length=us.length:=by
 induction vs generalizing us with
 |nil=>cases h;rfl
 |cons v vs ih=>cases h with |cons _ u _ us h hs=>simp [ih hs]
theorem bZ.get {vs:List AV} {us:List Value} (h:bZ P μ vs us) {i:Nat} {v:AV} (hi:vs[i]? =some v): ∃u,us[i]? =some u∧VR P μ v u:=by
 induction vs generalizing us i with
 |nil=>simp at hi
 |cons x vs ih=>
  cases h with
  |cons _ u _ us h hs=>
   cases i with
   |zero=>simp at hi;subst hi;exact ⟨u,rfl,h⟩
   |succ i=>exact ih hs (by simpa using hi)
theorem bZ.i7 {vs:List AV} {us:List Value} (hl:vs.length=us.length) (h: ∀(i:Nat) (v:AV) (u:Value),vs[i]? =some v→us[i]? =some u→VR P μ v u):bZ P μ vs us:=by
 induction vs generalizing us with
 |nil=>cases us with
  |nil=>exact .nil
  |cons u us=>simp at hl
 |cons v vs ih=>
  cases us with
  |nil=>simp at hl
  |cons u us=>exact .cons v u vs us (h 0 v u rfl rfl) (ih (by simpa using hl) fun i v' u' hv hu=>h (i+1) v' u' (by simpa using hv) (by simpa using hu))
theorem bZ.append {a b:List AV} {c d:List Value} (h:bZ P μ a c) (k:bZ P μ b d):bZ P μ (a++b) (c++d):=by
 induction a generalizing c with
 |nil=>cases h;exact k
 |cons v a ih=>cases h with |cons _ u _ us h hs=>exact .cons _ _ _ _ h (ih hs)
theorem bZ.drop {a:List AV} {c:List Value} (h:bZ P μ a c) (n:Nat):bZ P μ (a.drop n) (c.drop n):=by
 induction n generalizing a c with
 |zero=>simpa using h
 |succ n ih=>cases h with
  |nil=>simpa using bZ.nil
  |cons v u vs us h hs=>simpa using ih hs
theorem bZ.take {a:List AV} {c:List Value} (h:bZ P μ a c) (n:Nat):bZ P μ (a.take n) (c.take n):=by
 induction n generalizing a c with
 |zero=>simpa using bZ.nil
 |succ n ih=>cases h with
  |nil=>simpa using bZ.nil
  |cons v u vs us h hs=>simpa using bZ.cons v u _ _ h (ih hs)
theorem gh {l:List AV} (h:cd l=true) {i:Nat} {v:AV} (hi:l[i]? =some v):v.one=true:=by
 rw [gJ] at h
 exact List.all_eq_true.1 h v (List.mem_of_getElem? hi)
theorem eU {a b:List AV} (h:cd a=true) (k:cd b=true):cd (a++b)=true:=by
 rw [gJ] at*
 simp only [List.all_append,h,k,Bool.and_self]
theorem vw {a:List AV} (h:cd a=true) (n:Nat):cd (a.drop n)=true:=by
 rw [gJ] at*
 exact List.all_eq_true.2 fun x hx=>List.all_eq_true.1 h x (List.mem_of_mem_drop hx)
theorem vx {a:List AV} (h:cd a=true) (n:Nat):cd (a.take n)=true:=by
 rw [gJ] at*
 exact List.all_eq_true.2 fun x hx=>List.all_eq_true.1 h x (List.mem_of_mem_take hx)
theorem VR.one {v:AV} {u:Value} (h:VR P μ v u) (ho:v.one=true):u.oneCell'=true:=by
 cases h<;>first
  |exact dM.one (by assumption)
  |(rename_i h;rcases h with ⟨rfl |⟨_,rfl⟩,_⟩ |⟨m,c,rfl,_⟩<;>rfl)
  |simp_all [AV.one,Value.oneCell']
theorem VR.cells {v:AV} {u:Value} (h:VR P μ v u) (hb:v≠.bad):bZ P μ v.cells u.cells.toList:=by
 cases h<;>first
  |(rw [dM.cells (by assumption)];exact .cons _ _ _ _ (by constructor<;>assumption) .nil)
  |(simp only [AV.cells,Value.cells];exact .cons _ _ _ _ (by constructor<;>assumption) .nil)
  |(rename_i e he h;have hc:u.cells= #[u]:=(by rcases h with ⟨rfl |⟨_,rfl⟩,_⟩ |⟨m,c,rfl,_⟩<;>rfl);rw [hc];exact .cons _ _ _ _ (.vl _ _ _ _ e he h) .nil)
  |skip
 case agg cs C h ho=>simpa [AV.cells,Value.cells] using h
 case bad=>exact absurd rfl hb
theorem bR {v:AV} (h:cd v.cells=true):v≠.bad:=by
 rintro rfl
 simp [AV.cells,gJ,AV.one] at h
end
def bS:bf→Bool
 | .dead=>true
 |_=>false
def TR (P:Program) (μ:bu) (tm:Tr AV) (tmps:Array Value):Prop:=∀t,VR P μ (fQ (tm.get (pos t))) (tmps.getD t undef)
theorem TR.mono {P:Program} {μ μ':bu} (hs:Sub μ μ') {tm:Tr AV} {tmps:Array Value} (h:TR P μ tm tmps):TR P μ' tm tmps:=fun t=>(h t).mono hs
inductive ER (P:Program) (μ:bu):List (AV×AV)→List MapEntry→Prop
 |nil:ER P μ [] []
 |cons (k v:AV) (m:MapEntry) (es:List (AV×AV)) (ms:List MapEntry) (hk:VR P μ k m.key) (hv:VR P μ v m.val) (h:ER P μ es ms):ER P μ ((k,v)::es) (m::ms)
theorem ER.mono {P:Program} {μ μ':bu} (hs:Sub μ μ') {es:List (AV×AV)} {ms:List MapEntry} (h:ER P μ es ms):ER P μ' es ms:=by
 induction h with
 |nil=>exact .nil
 |cons k v m es ms hk hv _ ih=>exact .cons k v m es ms (hk.mono hs) (hv.mono hs) ih
def EP (P:Program) (μ:bu) (es:List (AV×AV)) (ms:List MapEntry):Prop:=∃l,l.Perm ms∧ER P μ es l
theorem EP.mono {P:Program} {μ μ':bu} (hs:Sub μ μ') {es:List (AV×AV)} {ms:List MapEntry} (h:EP P μ es ms):EP P μ' es ms:=let ⟨l,h1,h2⟩:=h;⟨l,h1,h2.mono hs⟩
theorem EP.nil {P:Program} {μ:bu}:EP P μ [] []:=⟨[],.nil,.nil⟩
def jq (ms:List MapEntry) (clock:Nat):Prop:=(∀m∈ms,m.born<clock)∧(ms.map (·.born)).Nodup
theorem jq.nil:jq [] 0:=⟨fun _ h=>absurd h Ub,List.nodup_nil⟩
theorem jq.push {ms:List MapEntry} {c:Nat} (h:jq ms c) (m:MapEntry) (hm:m.born=c):jq (ms++[m]) (c+1):=by
 refine ⟨fun x hx=>?_,?_⟩
 ·rcases List.mem_append.1 hx with hx |hx
  ·exact Nat.lt_succ_of_lt (h.1 x hx)
  ·rw [List.mem_singleton.1 hx,hm];exact Nat.lt_succ_self c
 ·rw [List.map_append,List.nodup_append]
  refine ⟨h.2,by simp,fun a ha b hb=>?_⟩
  obtain ⟨x,hx,rfl⟩:=List.mem_map.1 ha
  simp only [Uc,Ud,List.mem_singleton] at hb
  rw [hb,hm]
  exact Nat.ne_of_lt (h.1 x hx)
theorem jq.modify {ms:List MapEntry} {c:Nat} (h:jq ms c) (j:Nat) (f:MapEntry→MapEntry) (hf: ∀m,(f m).born=m.born):jq (ms.modify j f) c:=by
 have e:(ms.modify j f).map (·.born)=ms.map (·.born):=by
  apply List.ext_getElem?
  intro i
  rw [Ue,Ue,List.getElem?_modify]
  cases ms[i]? with
  |none=>rfl
  |some m=>by_cases hi:j=i<;>simp [hi,hf]
 refine ⟨fun m hm=>?_,by rw [e];exact h.2⟩
 have:m.born∈(ms.modify j f).map (·.born):=List.mem_map_of_mem hm
 rw [e] at this
 obtain ⟨x,hx,hb⟩:=List.mem_map.1 this
 rw [←hb]
 exact h.1 x hx
theorem jq.erase {ms:List MapEntry} {c:Nat} (h:jq ms c) (j:Nat):jq (ms.eraseIdx j) c:=
 ⟨fun m hm=>h.1 m (List.mem_of_mem_eraseIdx hm),h.2.sublist ((List.eraseIdx_sublist ms j).map _)⟩
theorem fm {P:Program} {f:FuncId} {p:Pos} {c d:Code} (h:cJ P f p=some c) (hd:G1 c=some d):cJ P f (.o p)=some d:=by
 unfold cJ at*
 obtain ⟨fn,h1,h⟩:=Option.bind_eq_some_iff.1 h
 obtain ⟨b,h2,h⟩:=Option.bind_eq_some_iff.1 h
 rw [h1]
 simp only [Uf,h2]
 show (G2 b p).bind G1=some d
 rw [h]
 exact hd
theorem nV {P:Program} {f:FuncId} {p:Pos} {c d:Code} (h:cJ P f p=some c) (hd:Bu c=some d):cJ P f (.i p)=some d:=by
 unfold cJ at*
 obtain ⟨fn,h1,h⟩:=Option.bind_eq_some_iff.1 h
 obtain ⟨b,h2,h⟩:=Option.bind_eq_some_iff.1 h
 rw [h1]
 simp only [Uf,h2]
 show (G2 b p).bind Bu=some d
 rw [h]
 exact hd
theorem Bz {P:Program} {f:FuncId} {fn:Func} {c:Code} (h1:P.funcs[f]? =some fn) (h2:fn.body=some c):cJ P f .one=some c:=by
 unfold cJ
 rw [h1]
 simp only [Uf,h2]
 rfl
structure LR (P:Program) (μ:bu) (lp:er) (r:Loop):Prop where
 state:r.state=lp.state
 pending:r.pending=lp.pending
 tmps:TR P μ lp.tm r.tmps
 size:r.tmps.size=lp.n
 params:r.params.toList=lp.params
 fn: ∃f,P.funcs[r.fn]? =some f
 defers: ∃e,μ lp.defers=some e∧r.defers=e.a.block
 code: ∃fo ps,cJ P lp.f lp.p=some (.rangeFunc fo ps r.assign r.body)
theorem LR.mono {P:Program} {μ μ':bu} (hs:Sub μ μ') {lp:er} {r:Loop} (h:LR P μ lp r):LR P μ' lp r:=
 ⟨h.state,h.pending,h.tmps.mono hs,h.size,h.params,h.fn,let ⟨e,he,hd⟩:=h.defers;⟨e,hs _ _ he,hd⟩,h.code⟩
def CR (P:Program) (μ:bu) (c:Cs) (len:Nat) (at_:Nat→Option Value):Prop:=
 ∀i,i<len→∃av v,c.get i=some av∧at_ i=some v∧VR P μ av v∧av.one=true
theorem CR.mono {P:Program} {μ μ':bu} (hs:Sub μ μ') {c:Cs} {len:Nat} {f:Nat→Option Value} (h:CR P μ c len f):CR P μ' c len f:=
 fun i hi=>let ⟨av,v,h1,h2,h3,h4⟩:=h i hi;⟨av,v,h1,h2,h3.mono hs,h4⟩
theorem CR.isSome {P:Program} {μ:bu} {c:Cs} {len:Nat} {f:Nat→Option Value} (h:CR P μ c len f): ∀i,i<len→(c.get i).isSome:=
 fun i hi=>let ⟨av,v,h1,_⟩:=h i hi;by rw [h1];rfl
def EF (μ:bu):Option Pos→Option Obj→Prop
 |none,o=>∃since seen last,o=some (.mapIter none since seen last)
 |some b,o=>∃e since last,μ b=some e∧o=some (.mapIter (some e.a.block) since #[] last)
theorem EF.mono {μ μ':bu} (hs:Sub μ μ') {m:Option Pos} {o:Option Obj} (h:EF μ m o):EF μ' m o:=by
 cases m with
 |none=>exact h
 |some b=>obtain ⟨e,s,l,h1,h2⟩:=h;exact ⟨e,s,l,hs _ _ h1,h2⟩
theorem EF.some {μ:bu} {m:Option Pos} {o:Option Obj} (h:EF μ m o): ∃q,o= .some q:=by
 cases m with
 |none=>obtain ⟨_,_,_,h⟩:=h;exact ⟨_,h⟩
 |some b=>obtain ⟨_,_,_,_,h⟩:=h;exact ⟨_,h⟩
def cE:eQ:=⟨⟨0,0,some 0⟩,none⟩
def BA (fz:Addr→Option Value) (g:Bool) (r:List D) (m:MapEntry):Prop:=
 ∃d vs us,r=d::vs∧dM fz d m.key∧(if g=true then m.val= .agg us.toArray else us=[m.val])∧us.length=vs.length∧∀(j:Nat) (d:D),vs[j]? =some d→∃u:Value,us[j]? =some u∧dM fz d u
theorem BA.mono {fz fz':Addr→Option Value} (hs: ∀ad v,fz ad=some v→fz' ad=some v) {g:Bool} {r:List D} {m:MapEntry} (h:BA fz g r m):BA fz' g r m:=
 let ⟨d,vs,us,h1,h2,h3,h4,h5⟩:=h
 ⟨d,vs,us,h1,h2.mono hs,h3,h4,fun j d hj=>let ⟨u,q1,q2⟩:=h5 j d hj;⟨u,q1,q2.mono hs⟩⟩
inductive il (fz:Addr→Option Value) (g:Bool):List (List D)→List MapEntry→Prop
 |nil:il fz g [] []
 |cons (r:List D) (m:MapEntry) (l:List (List D)) (ms:List MapEntry) (h:BA fz g r m) (hs:il fz g l ms):il fz g (r::l) (m::ms)
theorem il.mono {fz fz':Addr→Option Value} (hs: ∀ad v,fz ad=some v→fz' ad=some v) {g:Bool} {l:List (List D)} {ms:List MapEntry} (h:il fz g l ms):il fz' g l ms:=by
 induction h with
 |nil=>exact .nil
 |cons r m l ms h _ ih=>exact .cons r m l ms (h.mono hs) ih
def i9:List (List D)→Prop
 |[]=>True
 |r::l=>(∀k,r.head?=some k→l.any (bC k)=false)∧i9 l
def BR (P:Program) (N:Nat) (μ:bu) (w:World) (k:bf) (e:eQ):Prop:=
 match k with
 | .cells true t len c=>∃g sz cur,e=⟨⟨g,0,none⟩,some (sz,t)⟩∧N≤g∧w.heap[g]? =some (.cells cur t (0,0))∧cur.size=sz∧len≤sz∧CR P μ c len (fun i=>cur[i]?)
 | .cells false _ len c=>e.own=none∧e.a.block<w.heap.size∧CR P μ c len (fun i=>w.cell? (e.a.add i))
 | .map es=>∃g ents clock,e=⟨⟨g,0,none⟩,none⟩∧N≤g∧w.heap[g]? =some (.map ents clock)∧EP P μ es ents.toList∧jq ents.toList clock
 | .fD s p=>∃g bs,e=⟨⟨g,0,none⟩,none⟩∧N≤g∧w.heap[g]? =some (.stringIter bs p)∧bs.data.toList.map (·.toNat)=s
 | .loop lp=>∃g r,e=⟨⟨g,0,none⟩,none⟩∧N≤g∧w.heap[g]? =some (.loop r)∧LR P μ lp r
 | .deferred d=>∃g,e=⟨⟨g,0,none⟩,none⟩∧N≤g∧w.heap[g]? =some (.deferred (if d=true then some [] else none))
 | .dead=>(N≤e.a.block∨(e=cE∧0<N))∧e.a.block<w.heap.size
 | .A8 m=>∃g,e=⟨⟨g,0,none⟩,none⟩∧N≤g∧EF μ m (w.heap[g]?)
 | .frozen o=>∃g,e=⟨⟨g,0,none⟩,none⟩∧N≤g∧w.heap[g]? =some o
 | .vec own t ts n x=>∃l:List (List D),ev x= .aY l∧ev n= .int .i64 (TP l.length)∧bA (.aY ts) (.aY l)∧((e=⟨⟨0,0,some 0⟩,none⟩∧0<N∧0<w.heap.size∧l=[])∨
  ∃(g:Nat) (cur:Array Value),e=⟨⟨g,0,none⟩,some (cur.size,t)⟩∧N≤g∧w.heap[g]? =some (.cells cur t (0,0))∧l.flatten.length≤cur.size∧∀(j:Nat) (d:D),l.flatten[j]? =some d→∃u,cur[j]? =some u∧dM μ.fz d u∧(own=false→μ.fz ⟨g,j,none⟩=some u))
 | .bW g kt ts x=>∃l:List (List D),ev x= .aY l∧bA (.aY (kt::ts)) (.aY l)∧i9 l∧∃(G:Nat) (ents:Array MapEntry) (clock:Nat) (ms:List MapEntry),e=⟨⟨G,0,none⟩,none⟩∧N≤G∧w.heap[G]? =some (.map ents clock)∧ms.Perm ents.toList∧il μ.fz g l ms∧jq ents.toList clock
theorem jN {w:World} {a:Addr} {v:Value} (h:w.cell? a=some v):a.block<w.heap.size:=by
 unfold World.cell? at h
 cases hb:w.heap[a.block]? with
 |none=>rw [hb] at h;cases h
 |some o=>exact (Array.getElem?_eq_some_iff.1 hb).1
theorem vy (a:Addr) (n:Nat):(a.add n).block=a.block:=by unfold Addr.add;split<;>rfl
theorem pw {w w':World} {a:Addr} (h:w'.heap[a.block]? =w.heap[a.block]?):w'.cell? a=w.cell? a:=by unfold World.cell?;rw [h]
theorem BR.lt {P:Program} {N:Nat} {μ:bu} {w:World} {k:bf} {e:eQ} (h:BR P N μ w k e):e.a.block<w.heap.size:=by
 have key: ∀{g:Nat} {o:Obj},w.heap[g]? =some o→g<w.heap.size:=fun h=>(Array.getElem?_eq_some_iff.1 h).1
 cases k with
 |cells own t len c=>cases own with
  |true=>obtain ⟨g,sz,cur,rfl,_,h,_⟩:=h;exact key h
  |false=>exact h.2.1
 |map es=>obtain ⟨g,en,cl,rfl,_,h,_⟩:=h;exact key h
 |fD s p=>obtain ⟨g,bs,rfl,_,h,_⟩:=h;exact key h
 |loop lp=>obtain ⟨g,r,rfl,_,h,_⟩:=h;exact key h
 |deferred d=>obtain ⟨g,rfl,_,h⟩:=h;exact key h
 |dead=>exact h.2
 |A8 m=>obtain ⟨g,rfl,_,h⟩:=h;obtain ⟨q,h⟩:=h.some;exact key h
 |frozen o=>obtain ⟨g,rfl,_,h⟩:=h;exact key h
 |vec own t ts n x=>obtain ⟨l,_,_,_,⟨rfl,_,h,_⟩ |⟨g,cur,rfl,_,h,_⟩⟩:=h<;>first |exact h |exact key h
 |bW g kt ts x=>obtain ⟨l,_,_,_,G,ents,clock,ms,rfl,_,h,_⟩:=h;exact key h
theorem BR.bx {P:Program} {N:Nat} {μ μ':bu} {w w':World} {k:bf} {e:eQ} (h:BR P N μ w k e) (hs:Sub μ μ') (hz:w.heap.size≤w'.heap.size)
 (hb:bS k=false→w'.heap[e.a.block]? =w.heap[e.a.block]?):BR P N μ' w' k e:=by
 cases k with
 |cells own t len c=>cases own with
  |true=>obtain ⟨g,sz,cur,rfl,hN,h1,h2,h3,h4⟩:=h;exact ⟨g,sz,cur,rfl,hN,(hb rfl).trans h1,h2,h3,h4.mono hs⟩
  |false=>
   refine ⟨h.1,Ug h.2.1 hz,fun i hi=>?_⟩
   obtain ⟨av,v,h1,h2,h3,h4⟩:=h.2.2 i hi
   exact ⟨av,v,h1,(pw (by rw [vy];exact hb rfl)).trans h2,h3.mono hs,h4⟩
 |map es=>obtain ⟨g,en,cl,rfl,hN,h1,h2,h3⟩:=h;exact ⟨g,en,cl,rfl,hN,(hb rfl).trans h1,h2.mono hs,h3⟩
 |fD s p=>obtain ⟨g,bs,rfl,hN,h1,h2⟩:=h;exact ⟨g,bs,rfl,hN,(hb rfl).trans h1,h2⟩
 |loop lp=>obtain ⟨g,r,rfl,hN,h1,h2⟩:=h;exact ⟨g,r,rfl,hN,(hb rfl).trans h1,h2.mono hs⟩
 |deferred d=>obtain ⟨g,rfl,hN,h1⟩:=h;exact ⟨g,rfl,hN,(hb rfl).trans h1⟩
 |dead=>exact ⟨h.1,Ug h.2 hz⟩
 |A8 m=>obtain ⟨g,rfl,hN,h1⟩:=h;exact ⟨g,rfl,hN,by rw [hb rfl];exact h1.mono hs⟩
 |frozen o=>obtain ⟨g,rfl,hN,h1⟩:=h;exact ⟨g,rfl,hN,(hb rfl).trans h1⟩
 |vec own t ts n x=>
  obtain ⟨l,h1,h2,h3,h⟩:=h
  refine ⟨l,h1,h2,h3,?_⟩
  rcases h with ⟨rfl,q1,q2,q3⟩ |⟨g,cur,rfl,hN,q1,q2,q3⟩
  ·exact .inl ⟨rfl,q1,Ug q2 hz,q3⟩
  ·exact .inr ⟨g,cur,rfl,hN,(hb rfl).trans q1,q2,fun j d hj=>let ⟨u,r1,r2,r3⟩:=q3 j d hj;⟨u,r1,r2.mono hs.fz,fun ho=>hs.fz _ _ (r3 ho)⟩⟩
 |bW g kt ts x=>obtain ⟨l,h1,h2,h3,G,ents,clock,ms,rfl,hN,q1,q2,q3,q4⟩:=h;exact ⟨l,h1,h2,h3,G,ents,clock,ms,rfl,hN,(hb rfl).trans q1,q2,q3.mono hs.fz,q4⟩
def writes:bf→Bool
 | .cells own _ _ _=>own
 | .vec own _ _ _ _=>own
 | .dead=>false
 |_=>true
structure SR (P:Program) (N:Nat) (μ:bu) (σ:St) (w:World):Prop where
 bV: ∀b e,μ b=some e→∃k,σ.h.get b=some k∧BR P N μ w k e
 inj: ∀b b' e e' k k',μ b=some e→μ b'=some e'→σ.h.get b=some k→σ.h.get b'=some k'→bS k=false→bS k'=false→N≤e.a.block→e.a.block=e'.a.block→b=b'
 lt: ∀b e,μ b=some e→b.toNat<σ.n.toNat
 hN:N≤w.heap.size
 eH: ∀g,g<P.globals.size→μ (pos g)=some ⟨⟨g,0,none⟩,none⟩
 hn:Env.n≤N
 base:Env.base w
 fB: ∀ad v,μ.fz ad=some v→w.cell? ad=some v
 apart: ∀b e k,μ b=some e→σ.h.get b=some k→writes k=true→N≤e.a.block→∀ad v,μ.fz ad=some v→ad.block≠e.a.block
structure Ev (N:Nat) (μ:bu) (w w':World):Prop where
 os:w'.os=w.os
 tape:w'.tape=w.tape
 output:w'.output=w.output
 size:w.heap.size≤w'.heap.size
 same: ∀k,k<w.heap.size→(k<N∨∀b e,μ b=some e→e.a.block≠k)→w'.heap[k]? =w.heap[k]?
structure Ext (μ μ':bu) (w:World):Prop where
 sub:Sub μ μ'
 new: ∀b e,μ' b=some e→w.heap.size≤e.a.block∨∃b₀ e₀,μ b₀=some e₀∧e₀.a.block=e.a.block
 fE: ∀ad v,μ'.fz ad=some v→μ.fz ad=some v∨w.heap.size≤ad.block∨∃b₀ e₀,μ b₀=some e₀∧e₀.a.block=ad.block
theorem Ev.refl (N:Nat) (μ:bu) (w:World):Ev N μ w w:=⟨rfl,rfl,rfl,Uh _,fun _ _ _=>rfl⟩
theorem Ext.refl (μ:bu) (w:World):Ext μ μ w:=⟨Sub.refl μ,fun b e h=>.inr ⟨b,e,h,rfl⟩,fun _ _ h=>.inl h⟩
theorem Ext.trans {N:Nat} {μ μ' μ'':bu} {w w':World} (h:Ext μ μ' w) (hv:Ev N μ w w') (k:Ext μ' μ'' w'):Ext μ μ'' w:=
 ⟨h.sub.trans k.sub,fun b e hb=>by
  rcases k.new b e hb with h1 |⟨b₀,e₀,h1,h2⟩
  ·exact .inl (Ui hv.size h1)
  ·rcases h.new b₀ e₀ h1 with h3 |⟨b₁,e₁,h3,h4⟩
   ·exact .inl (h2▸h3)
   ·exact .inr ⟨b₁,e₁,h3,h4.trans h2⟩,fun ad v ha=>by
  rcases k.fE ad v ha with h1 |h1 |⟨b₀,e₀,h1,h2⟩
  ·exact h.fE ad v h1
  ·exact .inr (.inl (Ui hv.size h1))
  ·rcases h.new b₀ e₀ h1 with h3 |⟨b₁,e₁,h3,h4⟩
   ·exact .inr (.inl (h2▸h3))
   ·exact .inr (.inr ⟨b₁,e₁,h3,h4.trans h2⟩)⟩
theorem Ev.trans {N:Nat} {μ μ':bu} {w w' w'':World} (h:Ev N μ w w') (hx:Ext μ μ' w) (k:Ev N μ' w' w''):Ev N μ w w'':=
 ⟨k.os.trans h.os,k.tape.trans h.tape,k.output.trans h.output,Ui h.size k.size,fun j hj hc=>by
  refine (k.same j (Ug hj h.size) ?_).trans (h.same j hj hc)
  rcases hc with hc |hc
  ·exact .inl hc
  ·refine .inr fun b e hb hne=>?_
   rcases hx.new b e hb with h1 |⟨b₀,e₀,h1,h2⟩
   ·omega
   ·exact hc b₀ e₀ h1 (h2.trans hne)⟩
theorem Ev.below {N:Nat} {μ:bu} {w w':World} (h:Ev N μ w w') (hN:N≤w.heap.size):Below N w w':=
 ⟨h.os,h.tape,h.output,h.size,fun k hk=>h.same k (Ug hk hN) (.inl hk)⟩
structure bI (P:Program) (N:Nat) (μ:bu) (σ:St) (w:World) (μ':bu) (σ':St) (w':World):Prop where
 ext:Ext μ μ' w
 fresh: ∀b e,μ' b=some e→μ b=some e∨σ.n.toNat≤b.toNat
 le:σ.n.toNat≤σ'.n.toNat
 ev:Ev N μ w w'
 sr:SR P N μ' σ' w'
theorem SR.stay {P:Program} {N:Nat} {μ:bu} {σ:St} {w:World} (h:SR P N μ σ w):bI P N μ σ w μ σ w:=⟨Ext.refl _ _,fun _ _ h=>.inl h,Uh _,Ev.refl _ _ _,h⟩
theorem bI.trans {P:Program} {N:Nat} {μ μ' μ'':bu} {σ σ' σ'':St} {w w' w'':World} (h:bI P N μ σ w μ' σ' w') (k:bI P N μ' σ' w' μ'' σ'' w''):bI P N μ σ w μ'' σ'' w'':=
 ⟨h.ext.trans h.ev k.ext,fun b e hb=>(k.fresh b e hb).elim (fun q=>h.fresh b e q) (fun q=>.inr (Ui h.le q)),Ui h.le k.le,h.ev.trans h.ext k.ev,k.sr⟩
def dr (μ:bu) (b:Pos) (e:eQ):bu:=⟨fun x=>if x=b then some e else μ x,μ.fz⟩
theorem SG (μ:bu) (b:Pos) (e:eQ):(dr μ b e).fz=μ.fz:=rfl
theorem bE (μ:bu) (b:Pos) (e:eQ):dr μ b e b=some e:=if_pos rfl
theorem ct (μ:bu) {b x:Pos} (e:eQ) (h:x≠b):dr μ b e x=μ x:=if_neg h
theorem nW {μ:bu} {b:Pos} {e:eQ} (h:μ b=some e):dr μ b e=μ:=by
 have:(dr μ b e).f=μ.f:=by
  funext x
  by_cases hx:x=b
  ·subst hx;rw [bE,h]
  ·exact ct μ e hx
 obtain ⟨f,fz⟩:=μ
 exact congrArg (fun g=>bu.mk g fz) this
theorem fq {μ:bu} {b:Pos} {e:eQ} (h:μ b=none∨μ b=some e):Sub μ (dr μ b e):=⟨fun x e' hx=>by
 by_cases hxb:x=b
 ·subst hxb
  rcases h with h |h
  ·rw [h] at hx;cases hx
  ·rw [bE,←h];exact hx
 ·rw [ct μ e hxb];exact hx,fun _ _ h=>h⟩
theorem SR.BB {P:Program} {N:Nat} {μ:bu} {σ σ':St} {w w':World} (h:SR P N μ σ w) {b:Pos} {e:eQ} {k:bf} (row:Option Nat) (hg:w.grownBy w' row)
 (hb:μ b=some e∨(μ b=none∧σ.n.toNat≤b.toNat∧(w.heap.size≤e.a.block∨∃b₀ e₀,μ b₀=some e₀∧e₀.a.block=e.a.block)))
 (hh: ∀x,σ'.h.get x=if b=x then some k else σ.h.get x) (hn:σ.n.toNat≤σ'.n.toNat) (hbn:b.toNat<σ'.n.toNat)
 (hbr:BR P N (dr μ b e) w' k e)
 (hrow: ∀g,row=some g→N≤g∧(∃b₀ e₀,μ b₀=some e₀∧e₀.a.block=g)∧∀x ex kx,x≠b→μ x=some ex→σ.h.get x=some kx→bS kx=false→ex.a.block≠g)
 (hinj:bS k=false→N≤e.a.block→∀x ex kx,x≠b→μ x=some ex→σ.h.get x=some kx→bS kx=false→ex.a.block≠e.a.block)
 (hfr: ∀g,row=some g→∀ad v,μ.fz ad=some v→ad.block=g→w'.cell? ad=some v) (hap:writes k=true→N≤e.a.block→∀ad v,μ.fz ad=some v→ad.block≠e.a.block):
 bI P N μ σ w (dr μ b e) σ' w':=by
 have hsub:Sub μ (dr μ b e):=fq (hb.elim .inr fun hb=>.inl hb.1)
 refine ⟨⟨hsub,fun x ex hx=>?_,fun _ _ h=>.inl h⟩,fun x ex hx=>(by
  by_cases hxb:x=b
  ·subst hxb
   rw [bE] at hx
   cases hx
   exact hb.elim .inl fun q=>.inr q.2.1
  ·rw [ct μ e hxb] at hx
   exact .inl hx),hn,⟨hg.os,hg.tape,hg.output,hg.size,fun j hj hc=>?_⟩,⟨fun x ex hx=>?_,?_,fun x ex hx=>?_,Ui h.hN hg.size,fun g hg=>hsub _ _ (h.eH g hg),h.hn,
  Env.bx w w' hg.size (fun k hk=>hg.block k (by have:=h.hn;have:=h.hN;omega) fun he=>by have:=(hrow k he.symm).1;have:=h.hn;omega) h.base,
  fun ad v ha=>(by
   have hc:=h.fB ad v ha
   by_cases hr:row=some ad.block
   ·exact hfr _ hr ad v ha rfl
   ·rw [pw (hg.block _ (jN hc) fun he=>hr he.symm)];exact hc),
  fun x ex kx hx gx hw hNx ad v ha=>(by
   by_cases hxb:x=b
   ·subst hxb
    rw [bE] at hx
    cases hx
    rw [hh,if_pos rfl] at gx
    cases gx
    exact hap hw hNx ad v ha
   ·rw [ct μ e hxb] at hx
    rw [hh,if_neg (fun h=>hxb h.symm)] at gx
    exact h.apart x ex kx hx gx hw hNx ad v ha)⟩⟩
 ·by_cases hxb:x=b
  ·subst hxb
   rw [bE] at hx
   cases hx
   rcases hb with hb |hb
   ·exact .inr ⟨x,e,hb,rfl⟩
   ·exact hb.2.2
  ·rw [ct μ e hxb] at hx
   exact .inr ⟨x,ex,hx,rfl⟩
 ·refine hg.block j hj fun he=>?_
  obtain ⟨h1,⟨b₀,e₀,h2,h3⟩,_⟩:=hrow j he.symm
  rcases hc with hc |hc
  ·omega
  ·exact hc b₀ e₀ h2 h3
 ·by_cases hxb:x=b
  ·subst hxb
   rw [bE] at hx
   cases hx
   exact ⟨k,by rw [hh,if_pos rfl],hbr⟩
  ·rw [ct μ e hxb] at hx
   obtain ⟨kx,h1,h2⟩:=h.bV x ex hx
   refine ⟨kx,by rw [hh,if_neg (fun h=>hxb h.symm)];exact h1,h2.bx hsub hg.size fun hd=>hg.block _ h2.lt fun he=>?_⟩
   exact (hrow _ he.symm).2.2 x ex kx hxb hx h1 hd rfl
 ·intro x y ex ey kx ky hx hy gx gy dx dy hN hxy
  by_cases hxb:x=b
  ·by_cases hyb:y=b
   ·rw [hxb,hyb]
   ·subst hxb
    rw [bE] at hx
    cases hx
    rw [ct μ e hyb] at hy
    rw [hh,if_pos rfl] at gx
    cases gx
    rw [hh,if_neg (fun h=>hyb h.symm)] at gy
    exact absurd hxy.symm (hinj dx hN y ey ky hyb hy gy dy)
  ·rw [ct μ e hxb] at hx
   rw [hh,if_neg (fun h=>hxb h.symm)] at gx
   by_cases hyb:y=b
   ·subst hyb
    rw [bE] at hy
    cases hy
    rw [hh,if_pos rfl] at gy
    cases gy
    exact absurd hxy (hinj dy (hxy▸hN) x ex kx hxb hx gx dx)
   ·rw [ct μ e hyb] at hy
    rw [hh,if_neg (fun h=>hyb h.symm)] at gy
    exact h.inj x y ex ey kx ky hx hy gx gy dx dy hN hxy
 ·by_cases hxb:x=b
  ·subst hxb;exact hbn
  ·rw [ct μ e hxb] at hx
   exact Ug (h.lt x ex hx) hn
theorem bM (σ:St) (k:bf) (x:Pos):(σ.push k).h.get x=if σ.n=x then some k else σ.h.get x:=by cases σ;exact iN _ _ _ _
theorem dO (σ:St) (k:bf):(σ.push k).n=σ.n.succ:=by cases σ;rfl
theorem fU (σ:St) (b:Pos) (k:bf) (x:Pos):(σ.put b k).h.get x=if b=x then some k else σ.h.get x:=by cases σ;exact iN _ _ _ _
theorem iO (σ:St) (b:Pos) (k:bf):(σ.put b k).n=σ.n:=by cases σ;rfl
theorem SR.fresh {P:Program} {N:Nat} {μ:bu} {σ:St} {w:World} (h:SR P N μ σ w):μ σ.n=none:=by
 cases hm:μ σ.n with
 |none=>rfl
 |some e=>have:=h.lt _ _ hm;omega
theorem SR.laid {P:Program} {N:Nat} {μ:bu} {σ:St} {w w':World} (h:SR P N μ σ w) {e:eQ} {k:bf} (hg:w.grownBy w' none) (he:w.heap.size≤e.a.block)
 (hbr:BR P N (dr μ σ.n e) w' k e):bI P N μ σ w (dr μ σ.n e) (σ.push k) w':=by
 refine h.BB none hg (.inr ⟨h.fresh,Uh _,.inl he⟩) (bM σ k) (by rw [dO,Pos.bX];omega) (by rw [dO,Pos.bX];omega) hbr (fun g hg=>by cases hg) ?_ (fun g hg=>by cases hg) (fun _ _ ad v ha hb=>absurd (jN (h.fB ad v ha)) (by omega))
 intro _ _ x ex kx hx hm hk hd hne
 obtain ⟨k',h1,h2⟩:=h.bV x ex hm
 have:=h2.lt
 omega
theorem SR.jO {P:Program} {N:Nat} {μ:bu} {σ:St} {w w':World} (h:SR P N μ σ w) {b:Pos} {e:eQ} {k k₀:bf} (hb:μ b=some e) (hk:σ.h.get b=some k₀) (hd:bS k₀=false) (hN:N≤e.a.block)
 (hg:w.grownBy w' (some e.a.block)) (hbr:BR P N μ w' k e) (hwr:writes k₀=true:=by rfl):bI P N μ σ w μ (σ.put b k) w':=by
 have hx: ∀x ex kx,x≠b→μ x=some ex→σ.h.get x=some kx→bS kx=false→ex.a.block≠e.a.block:=fun x ex kx hne hm hkx hdx heq=>
  hne (h.inj x b ex e kx k₀ hm hb hkx hk hdx hd (heq▸hN) heq)
 have:=h.BB (b:=b) (e:=e) (k:=k) (σ':=σ.put b k) (some e.a.block) hg (.inl hb) (fU σ b k) (by rw [iO];exact Uh _) (by rw [iO];exact h.lt b e hb) (by rw [nW hb];exact hbr)
  (fun g hg=>by cases hg;exact ⟨hN,⟨b,e,hb,rfl⟩,hx⟩) (fun _ _=>hx) (fun g hg ad v ha hbl=>by cases hg;exact absurd hbl (h.apart b e k₀ hb hk hwr hN ad v ha))
  (fun _ _ ad v ha=>h.apart b e k₀ hb hk hwr hN ad v ha)
 rwa [nW hb] at this
end
section
open Go Go.RowKit
theorem Kx {a b:Pz} (h:Nh a b=true):a=b:=by
 cases a<;>cases b<;>first |rfl |(cases h;done) |skip
 all_goals simp only [Nh,Uj,decide_eq_true_eq,fk] at h
 all_goals first
  |(obtain ⟨h1,h2⟩:=h;first |(subst h1;subst h2;rfl) |(rw [T7 h1,T7 h2]))
  |(subst h;rfl)
  |(rw [T7 h])
mutual
theorem cP: ∀{a b:Tm},cK a b=true→a=b
 | .var n,b,h=>by
  cases b<;>first |(unfold cK at h;cases h;done) |skip
  unfold cK at h;rw [T7 h]
 | .int k n,b,h=>by
  cases b<;>first |(unfold cK at h;cases h;done) |skip
  unfold cK at h
  rw [Uj,fk,fI] at h
  rw [of_decide_eq_true h.1,eq_of_beq h.2]
 | .bool x,b,h=>by
  cases b<;>first |(unfold cK at h;cases h;done) |skip
  unfold cK at h;rw [eq_of_beq h]
 | .str l,b,h=>by
  cases b<;>first |(unfold cK at h;cases h;done) |skip
  rename_i m
  unfold cK at h
  replace h:vi l m=true:=h
  rw [fj] at h;rw [eq_of_beq h]
 | .op o l,b,h=>by
  cases b<;>first |(unfold cK at h;cases h;done) |skip
  unfold cK at h
  obtain ⟨h1,h2⟩:=bB h
  rw [Kx h1,ze h2]
theorem ze: ∀{a b:List Tm},vj a b=true→a=b
 |[],b,h=>by
  cases b<;>first |rfl |(unfold vj at h;cases h)
 |x::l,b,h=>by
  cases b<;>first |(unfold vj at h;cases h;done) |skip
  unfold vj at h
  obtain ⟨h1,h2⟩:=bB h
  rw [cP h1,ze h2]
end
mutual
theorem jP: ∀{a b:Ty},kO a b=true→a=b
 | .int k,b,h=>by
  cases b<;>first |(unfold kO at h;cases h;done) |skip
  rename_i m
  unfold kO at h
  replace h:rO k m=true:=h
  rw [fk] at h;rw [of_decide_eq_true h]
 | .bool,b,h=>by cases b<;>first |rfl |(unfold kO at h;cases h)
 | .str,b,h=>by cases b<;>first |rfl |(unfold kO at h;cases h)
 | .aY l,b,h=>by
  cases b<;>first |(unfold kO at h;cases h;done) |skip
  unfold kO at h;rw [cA h]
 | .ref l,b,h=>by
  cases b<;>first |(unfold kO at h;cases h;done) |skip
  unfold kO at h;rw [cA h]
theorem cA: ∀{a b:List Ty},cM a b=true→a=b
 |[],b,h=>by cases b<;>first |rfl |(unfold cM at h;cases h)
 |x::l,b,h=>by
  cases b<;>first |(unfold cM at h;cases h;done) |skip
  unfold cM at h
  obtain ⟨h1,h2⟩:=bB h
  rw [jP h1,cA h2]
end
section
variable [Env]
theorem cf {t:Tm} {b:Bool} (h:di t=some b):ev t= .bool b:=by
 have key: ∀l:List (Tm×Bool),(∀c∈l,bc Env.ρ c.1= .bool c.2)→@TN (Tm×Bool) (fun _=>Option Bool) none (fun c _ ih=>aQ (cK c.1 t) (some c.2) ih) l=some b→ev t= .bool b:=by
  intro l
  induction l with
  |nil=>intro _ h;cases h
  |cons c l ih=>
   intro hl h
   replace h:aQ (cK c.1 t) (some c.2) (@TN (Tm×Bool) (fun _=>Option Bool) none (fun c _ ih=>aQ (cK c.1 t) (some c.2) ih) l)=some b:=h
   cases hc:cK c.1 t with
   |true=>
    rw [hc] at h
    cases h
    rw [←cP hc]
    exact hl c (Uk ..)
   |false=>rw [hc] at h;exact ih (fun c hc=>hl c (Ul _ hc)) h
 exact key _ Env.conds h
theorem im {t:Tm} (h:rP t=true):ev t= .bool true:=by
 unfold rP at h
 cases hd:di t with
 |none=>rw [hd] at h;cases h
 |some b=>
  rw [hd] at h
  have h:b=true:=h
  subst h
  exact cf hd
section
variable {P:Program} {μ:bu}
theorem py {fz:Addr→Option Value} (ad:Addr) {c:Nat} (hm:c≤maxLen):dM fz (.aY []) (.slice (some ad) 0 c):=
 .aY [] ad c (fun _=>undef) (Nat.zero_le _) hm (fun j hj=>absurd hj (Nat.not_lt_zero _)) (fun j d hj=>by simp at hj)
theorem ez {v:AV} {u:Value} {t:Ty} {x:Tm} (h:VR P μ v u) (ht:kS v=some (t,x)):bA t (ev x)∧dM μ.fz (ev x) u:=by
 cases v<;>first |(cases ht;done) |skip
 case bool b=>cases ht;cases h;exact ⟨⟨b,rfl⟩,.bool b⟩
 case int k n=>cases ht;cases h;exact ⟨⟨n,rfl⟩,.int k n⟩
 case str l=>cases ht;cases h with |str _ s hs=>exact ⟨⟨l,rfl⟩,.str l s hs⟩
 case aJ=>cases ht;cases h;exact ⟨⟨[],rfl,fun r hr=>absurd hr Ub⟩,.nil⟩
 case e0 z=>cases ht;cases h with |e0 _ ad c _ hm=>exact ⟨⟨[],rfl,fun r hr=>absurd hr Ub⟩,py ad hm⟩
 case tm t x=>cases ht;cases h with |tm _ _ _ h1 h2=>exact ⟨h1,h2⟩
theorem mU {v:AV} {u:Value} {b:Bool} (h:VR P μ v u) (hb:fg v=some b):u= .bool b:=by
 cases v<;>first |(cases hb;done) |skip
 case bool c=>cases hb;cases h;rfl
 case tm t x=>
  cases t<;>first |(cases hb;done) |skip
  have he:=cf (show di x=some b from hb)
  cases h with
  |tm _ _ _ h1 h2=>rw [he] at h2;cases h2;rfl
theorem gK {t:Tm} {b:Bool} (h:ev t= .bool b):VR P μ (wI t) (.bool b):=by
 unfold wI
 cases hd:di t with
 |none=>exact .tm .bool t _ ⟨b,h⟩ (by rw [h];exact .bool b)
 |some c=>
  have:=cf hd
  rw [h] at this
  cases this
  exact .bool b
theorem bN (o:Pz) (l:List Tm):ev (.op o l)=cD o (l.map ev):=by
 have: ∀l:List Tm,aR Env.ρ l=l.map ev:=by
  intro l
  induction l with
  |nil=>rfl
  |cons x l ih=>simp only [aR,Uc,ih];rfl
 show cD o (aR Env.ρ l)=_
 rw [this]
theorem xg {k:IntKind} {x:Tm} {n m:Int} (h:pd k x=some n) (hx:ev x= .int k m):m=n:=by
 have key: ∀l:List (Tm×Bool),(∀c∈l,bc Env.ρ c.1= .bool c.2)→@TN (Tm×Bool) (fun _=>Option Int) none (fun c _ ih=>
  aQ c.2 (@TH (Tm×IntKind×Int) (fun _=>Option Int) ih (fun q=>aQ (cK q.1 x&&rO q.2.1 k) (some q.2.2) ih) (vk c.1)) ih) l=some n→m=n:=by
  intro l
  induction l with
  |nil=>intro _ h;cases h
  |cons c l ih=>
   intro hl h
   have ih:=ih fun c hc=>hl c (Ul _ hc)
   obtain ⟨t,b⟩:=c
   cases b with
   |false=>exact ih h
   |true=>
    have hc:bc Env.ρ t= .bool true:=hl _ (Uk ..)
    cases hq:vk t with
    |none=>
     replace h: @TH (Tm×IntKind×Int) (fun _=>Option Int) _ (fun q=>aQ (cK q.1 x&&rO q.2.1 k) (some q.2.2) _) (vk t)=some n:=h
     rw [hq] at h
     exact ih h
    |some q=>
     obtain ⟨y,j,v⟩:=q
     replace h: @TH (Tm×IntKind×Int) (fun _=>Option Int) _ (fun q=>aQ (cK q.1 x&&rO q.2.1 k) (some q.2.2) _) (vk t)=some n:=h
     rw [hq] at h
     cases he:(cK y x&&rO j k) with
     |false=>
      replace h:aQ (cK y x&&rO j k) (some v) _=some n:=h
      rw [he] at h
      exact ih h
     |true=>
      replace h:aQ (cK y x&&rO j k) (some v) _=some n:=h
      rw [he] at h
      cases h
      rw [Uj] at he
      have e1:=cP he.1
      subst e1
      unfold vk at hq
      split at hq
      ·cases hq
       have h2:cD (.cmp .eql) [ev y,.int j n]= .bool true:=by
        have:=hc
        rw [show bc Env.ρ (Tm.op (.cmp .eql) [y,.int j n])=ev (Tm.op (.cmp .eql) [y,.int j n]) from rfl,bN] at this
        exact this
       rw [hx] at h2
       simpa [cD,zd] using h2
      ·cases hq
 exact key _ Env.conds h
theorem xh {x:Tm} {n m:List Nat} (h:pf x=some n) (hx:ev x= .str m):m=n:=by
 have key: ∀l:List (Tm×Bool),(∀c∈l,bc Env.ρ c.1= .bool c.2)→@TN (Tm×Bool) (fun _=>Option (List Nat)) none (fun c _ ih=>
  aQ c.2 (@TH (Tm×List Nat) (fun _=>Option (List Nat)) ih (fun q=>aQ (cK q.1 x) (some q.2) ih) (vm c.1)) ih) l=some n→m=n:=by
  intro l
  induction l with
  |nil=>intro _ h;cases h
  |cons c l ih=>
   intro hl h
   have ih:=ih fun c hc=>hl c (Ul _ hc)
   obtain ⟨t,b⟩:=c
   cases b with
   |false=>exact ih h
   |true=>
    have hc:bc Env.ρ t= .bool true:=hl _ (Uk ..)
    cases hq:vm t with
    |none=>
     replace h: @TH (Tm×List Nat) (fun _=>Option (List Nat)) _ (fun q=>aQ (cK q.1 x) (some q.2) _) (vm t)=some n:=h
     rw [hq] at h
     exact ih h
    |some q=>
     obtain ⟨y,v⟩:=q
     replace h: @TH (Tm×List Nat) (fun _=>Option (List Nat)) _ (fun q=>aQ (cK q.1 x) (some q.2) _) (vm t)=some n:=h
     rw [hq] at h
     cases he:cK y x with
     |false=>
      replace h:aQ (cK y x) (some v) _=some n:=h
      rw [he] at h
      exact ih h
     |true=>
      replace h:aQ (cK y x) (some v) _=some n:=h
      rw [he] at h
      cases h
      have e1:=cP he
      subst e1
      unfold vm at hq
      split at hq
      ·cases hq
       have h2:cD (.jH .eql) [ev y,.str n]= .bool true:=by
        have:=hc
        rw [show bc Env.ρ (Tm.op (.jH .eql) [y,.str n])=ev (Tm.op (.jH .eql) [y,.str n]) from rfl,bN] at this
        exact this
       rw [hx] at h2
       simpa [cD,NI] using h2
      ·cases hq
 exact key _ Env.conds h
theorem dc {t:Ty} {x:Tm} {u:Value} (ht:bA t (ev x)) (h:dM μ.fz (ev x) u):VR P μ (eG t x) u:=by
 cases t with
 |int k=>
  obtain ⟨m,hm⟩:=ht
  show VR P μ (@TH Int (fun _=>AV) (.tm (.int k) x) (fun n=>.int k n) (pd k x)) u
  cases hc:pd k x with
  |none=>exact .tm _ _ _ (show ∃n,_ from ⟨m,hm⟩) h
  |some n=>
   have:=xg hc hm
   subst this
   rw [hm] at h
   cases h
   exact .int k m
 |str=>
  obtain ⟨m,hm⟩:=ht
  show VR P μ (@TH (List Nat) (fun _=>AV) (.tm .str x) (fun l=>.str l) (pf x)) u
  cases hc:pf x with
  |none=>exact .tm _ _ _ (show ∃n,_ from ⟨m,hm⟩) h
  |some n=>
   have:=xh hc hm
   subst this
   rw [hm] at h
   cases h with
   |str _ s hs=>exact .str m s hs
 |bool=>
  obtain ⟨m,hm⟩:=ht
  rw [hm] at h
  cases h
  exact gK hm
 |aY ts=>exact .tm _ _ _ ht h
 |ref ts=>exact .tm _ _ _ ht h
theorem Ky (x:Tm):(wI x).one=true:=by
 unfold wI
 cases di x<;>rfl
theorem sA (t:Ty) (x:Tm):(eG t x).one=true:=by
 cases t with
 |int k=>
  show (@TH Int (fun _=>AV) (.tm (.int k) x) (fun n=>.int k n) (pd k x)).one=true
  cases pd k x<;>rfl
 |str=>
  show (@TH (List Nat) (fun _=>AV) (.tm .str x) (fun l=>.str l) (pf x)).one=true
  cases pf x<;>rfl
 |bool=>exact Ky x
 |aY ts=>rfl
 |ref ts=>rfl
theorem PE (t:Ty) (x:Tm):eG t x≠.bad:=fun h=>by
 have:=sA t x
 rw [h] at this
 cases this
theorem sB {v:AV} {u:Value} (h:VR P μ v u):VR P μ (kT v) u:=by
 cases v<;>first |exact h |skip
 cases h with |tm _ _ _ h1 h2=>exact dc h1 h2
theorem xi {i:Tm} {n:Int} (h:Bd i=some n): ∃k,ev i= .int k n:=by
 cases i<;>first |(cases h;done) |skip
 cases h
 exact ⟨_,rfl⟩
theorem iP {i:Tm} {k:IntKind} {n:Int} (h:kP i=true) (hi:ev i= .int k n):0≤n:=by
 unfold kP at h
 cases hl:Bd i with
 |none=>
  rw [hl] at h
  have:=im (show rP (.op (.cmp .leq) [.int .i64 0,i])=true from h)
  rw [bN] at this
  simp only [Uc,Ud,hi] at this
  have e:ev (.int .i64 0)= .int .i64 0:=rfl
  rw [e] at this
  simpa [cD,zd] using this
 |some m=>
  rw [hl] at h
  obtain ⟨j,e⟩:=xi hl
  rw [hi] at e
  cases e
  have h:(!Gk n 0)=true:=h
  rw [lf] at h
  simpa using h
theorem gU {i m:Tm} {k j:IntKind} {a b:Int} (h:fG i m=true) (hi:ev i= .int k a) (hm:ev m= .int j b):a<b:=by
 have:=im h
 rw [bN] at this
 simp only [Uc,Ud,hi,hm] at this
 simpa [cD,zd] using this
theorem eB {i m:Tm} {k j:IntKind} {a b:Int} (h:et i m=true) (hi:ev i= .int k a) (hm:ev m= .int j b):a≤b:=by
 unfold et at h
 cases he:cK i m with
 |true=>
  have:=cP he
  subst this
  rw [hi] at hm
  cases hm
  exact Int.le_refl _
 |false=>
  rw [he] at h
  have:=im (show rP (.op (.cmp .leq) [i,m])=true from h)
  rw [bN] at this
  simp only [Uc,Ud,hi,hm] at this
  simpa [cD,zd] using this
theorem NJ {y:Tm} {k j:IntKind} {n:Int} (h:R4 k y=true) (hy:ev y= .int j n):n≠0:=by
 unfold R4 at h
 cases hl:Bd y with
 |none=>
  rw [hl] at h
  have:=im (show rP (.op (.cmp .lss) [.int k 0,y])=true from h)
  rw [bN] at this
  simp only [Uc,Ud,hy] at this
  have e:ev (.int k 0)= .int k 0:=rfl
  rw [e] at this
  have:decide ((0:Int)<n)=true:=by simpa [cD,zd] using this
  have:=of_decide_eq_true this
  omega
 |some m=>
  rw [hl] at h
  obtain ⟨j',e⟩:=xi hl
  rw [hy] at e
  cases e
  have h:(!Eu n 0)=true:=h
  rw [fI] at h
  simpa using h
theorem EG {y:Tm} {j:IntKind} {n:Int} (h:wV y=true) (hy:ev y= .int j n):n≤100000000:=by
 unfold wV at h
 cases hl:Bd y with
 |none=>
  rw [hl] at h
  exact eB (show et y gZ=true from h) hy (show ev gZ= .int .i64 100000000 from rfl)
 |some m=>
  rw [hl] at h
  obtain ⟨j',e⟩:=xi hl
  rw [hy] at e
  cases e
  have h:(!Gk 100000000 n)=true:=h
  rw [lf] at h
  simpa using h
theorem zf {x:Tm} {l:List (List D)} (h:C8 x=true) (hx:ev x= .aY l):l≠[]:=by
 have:=im h
 rw [bN] at this
 have e:ev (.op .len [x])= .int .i64 l.length:=by rw [bN];simp only [Uc,Ud,hx];rfl
 simp only [Uc,Ud,e] at this
 have e0:ev (.int .i64 0)= .int .i64 0:=rfl
 rw [e0] at this
 rintro rfl
 simp [cD,zd] at this
end
end
theorem bT: ∀{ts:List Ty} {r:List D},bg ts r→r.length=ts.length
 |[],r,h=>by unfold bg at h;subst h;rfl
 |t::ts,r,h=>by
  unfold bg at h
  obtain ⟨d,r',rfl,_,h⟩:=h
  simp [bT h]
theorem BC: ∀{ts:List Ty} {r:List D} {k:Nat} {t:Ty},bg ts r→ts[k]? =some t→∃d,r[k]? =some d∧bA t d
 |[],r,k,t,h,ht=>by simp at ht
 |t'::ts,r,k,t,h,ht=>by
  unfold bg at h
  obtain ⟨d,r',rfl,h1,h⟩:=h
  cases k with
  |zero=>simp at ht;subst ht;exact ⟨d,rfl,h1⟩
  |succ k=>
   have ht:ts[k]? =some t:=by simpa using ht
   simpa using BC h ht
theorem iQ: ∀{ts:List Ty} {r:List D} (k:Nat),bg ts r→bg (ts.drop k) (r.drop k)
 |ts,r,0,h=>h
 |[],r,k+1,h=>by unfold bg at h;subst h;simp [bg]
 |t::ts,r,k+1,h=>by
  unfold bg at h
  obtain ⟨d,r',rfl,_,h⟩:=h
  exact iQ k h
theorem iR: ∀{ts:List Ty} {r:List D} (k:Nat),bg ts r→bg (ts.take k) (r.take k)
 |ts,r,0,h=>by simp [bg]
 |[],r,k+1,h=>by unfold bg at h;subst h;simp [bg]
 |t::ts,r,k+1,h=>by
  unfold bg at h
  obtain ⟨d,r',rfl,h1,h⟩:=h
  rw [Um,Um]
  unfold bg
  exact ⟨d,_,rfl,h1,iR k h⟩
theorem flat_get {l:List (List D)} {z:Nat} (hz: ∀r∈l,r.length=z) {i k:Nat} {r:List D} (hi:l[i]? =some r) (hk:k<z):l.flatten[i*z+k]? =r[k]? :=by
 induction l generalizing i with
 |nil=>simp at hi
 |cons a l ih=>
  have ha:a.length=z:=hz a (Uk ..)
  rw [Un]
  cases i with
  |zero=>
   simp at hi
   subst hi
   rw [Nat.zero_mul,Nat.zero_add,T3 (by omega)]
  |succ i=>
   rw [T5 (by rw [ha,Uo];omega),ha,show (i+1)*z+k - z=i*z+k from by rw [Uo];omega]
   exact ih (fun r hr=>hz r (Ul _ hr)) (by simpa using hi)
theorem jr {l:List (List D)} {z:Nat} (hz: ∀r∈l,r.length=z):l.flatten.length=l.length*z:=by
 induction l with
 |nil=>simp
 |cons a l ih=>
  rw [Un,Up,hz a (Uk ..),ih fun r hr=>hz r (Ul _ hr),Uq,Uo]
  omega
section
variable [Env] {P:Program} {μ:bu}
theorem D.sC {r:List D} {k:Nat} {d:D} (h:r[k]? =some d):D.at r k=d:=by unfold D.at;rw [h]
theorem sD {x:Tm} {r:List D} {k:Nat} (hx:ev x= .ref r) (hk:k<r.length):ev (nD x k)=D.at r k:=by
 have gen:ev (.op (.cell k) [x])=D.at r k:=by rw [bN];simp only [Uc,Ud,hx];rfl
 unfold nD
 split
 ·rename_i o n y
  rw [gB]
  split
  ·rename_i hle
   have hle:=Ua hle
   rw [bN] at hx⊢
   simp only [Uc,Ud] at hx⊢
   cases hy:ev y with
   |ref r0=>
    rw [hy] at hx
    have hx:D.ref ((r0.drop o).take n)= .ref r:=hx
    injection hx with hx
    subst hx
    show D.at r0 (o+k)=_
    unfold D.at
    rw [T4,if_pos (show k<n from hle),T6]
   |_=>rw [hy] at hx;cases hx
  ·exact gen
 ·exact gen
theorem pz {x:Tm} {ts:List Ty} {u:Value} (ht:bA (.ref ts) (ev x)) (h:dM μ.fz (ev x) u): ∃(r:List D) (ad:Addr) (v:Nat→Value),ev x= .ref r∧bg ts r∧u= .pointer (some ad)∧(∀j,j<r.length→μ.fz (ad.add j)=some (v j))∧∀j d,r[j]? =some d→dM μ.fz d (v j):=by
 obtain ⟨r,h1,h2⟩:=ht
 rw [h1] at h
 cases h with
 |ref _ ad v hf hr=>exact ⟨r,ad,v,h1,h2,rfl,hf,hr⟩
theorem gL {x:Tm} {r:List D} {v:Nat→Value} (hx:ev x= .ref r) (hr: ∀j d,r[j]? =some d→dM μ.fz d (v j)): ∀(ts:List Ty) (k:Nat),bg ts (r.drop k)→bZ P μ (f9 x ts k) ((List.range' k ts.length).map v)∧cd (f9 x ts k)=true
 |[],k,h=>⟨.nil,rfl⟩
 |t::ts,k,h=>by
  unfold bg at h
  obtain ⟨d,r',h1,h2,h3⟩:=h
  have hd:r[k]? =some d:=by
   have:(r.drop k)[0]? =some d:=by rw [h1];rfl
   simpa using this
  have hr':r.drop (k+1)=r':=by rw [←List.drop_drop,h1];rfl
  have hk:k<r.length:=(List.getElem?_eq_some_iff.1 hd).1
  have he:ev (nD x k)=d:=(sD hx hk).trans (D.sC hd)
  obtain ⟨g1,g2⟩:=gL hx hr ts (k+1) (by rw [hr'];exact h3)
  refine ⟨.cons _ _ _ _ (dc (by rw [he];exact h2) (by rw [he];exact hr k d hd)) g1,?_⟩
  show aQ (eG t (nD x k)).one (cd (f9 x ts (k+1))) false=true
  rw [sA,g2]
theorem vz {j:AV} {u:Value} {i:Tm} (h:VR P μ j u) (hi:Gl j=some i): ∃k n,ev i= .int k n∧u= .int k n:=by
 cases j<;>first |(cases hi;done) |skip
 case int k n=>cases hi;cases h;exact ⟨k,n,rfl,rfl⟩
 case tm t x=>
  cases t<;>first |(cases hi;done) |skip
  cases hi
  cases h with
  |tm _ _ _ h1 h2=>
   obtain ⟨n,hn⟩:=h1
   rw [hn] at h2
   cases h2
   exact ⟨_,n,hn,rfl⟩
theorem EH {j:AV} {u:Value} {x:Tm} (h:VR P μ j u) (hi:L2 j=some x): ∃s:ByteArray,ev x= .str (s.data.toList.map (·.toNat))∧u= .string s:=by
 cases j<;>first |(cases hi;done) |skip
 case str l=>cases hi;cases h with |str _ s hs=>exact ⟨s,by rw [hs];rfl,rfl⟩
 case tm t x=>
  cases t<;>first |(cases hi;done) |skip
  cases hi
  cases h with
  |tm _ _ _ h1 h2=>
   obtain ⟨l,hl⟩:=h1
   rw [hl] at h2
   cases h2 with
   |str _ s hs=>exact ⟨s,by rw [hl,hs],rfl⟩
end
section
variable [Env] {P:Program} {μ:bu}
theorem sE {t:Ty} {v:AV} {u:Value} {x:Tm} (h:VR P μ v u) (hx:kX t v=some x):bA t (ev x)∧dM μ.fz (ev x) u:=by
 by_cases hn:v= .aJ
 ·subst hn
  cases t<;>first |(cases hx;done) |skip
  cases hx
  cases h
  exact ⟨⟨[],rfl,fun r hr=>absurd hr Ub⟩,.nil⟩
 by_cases hn': ∃z,v= .e0 z
 ·obtain ⟨z,rfl⟩:=hn'
  cases t<;>first |(cases hx;done) |skip
  cases hx
  cases h with |e0 _ ad c _ hm=>
  exact ⟨⟨[],rfl,fun r hr=>absurd hr Ub⟩,py ad hm⟩
 ·have hx:ai (kS v) (fun q=>aQ (kO t q.1) (some q.2) none)=some x:=by
   cases v<;>first |exact hx |exact absurd rfl hn |exact absurd ⟨_,rfl⟩ hn'
  obtain ⟨⟨t',y⟩,h1,hx⟩:=aa.1 hx
  obtain ⟨h2,hx⟩:=aA.1 hx
  cases hx
  have:=jP h2
  subst this
  exact ez h h1
theorem js: ∀{ts:List Ty} {l:List AV} {us:List Value} {q:List Tm×List AV},bZ P μ l us→mC ts l=some q→
 bg ts (q.1.map ev)∧∃us',bZ P μ q.2 us'∧us=us.take ts.length++us'∧ts.length≤us.length∧∀(j:Nat) (d:D),(q.1.map ev)[j]? =some d→∃u:Value,us[j]? =some u∧dM μ.fz d u
 |[],l,us,q,h,hq=>by
  cases hq
  exact ⟨by unfold bg;rfl,us,h,by simp,by simp,fun j d hj=>by simp at hj⟩
 |t::ts,l,us,q,h,hq=>by
  unfold mC at hq
  cases h with
  |nil=>cases hq
  |cons v u l us h1 h2=>
   obtain ⟨x,hx,hq⟩:=aa.1 hq
   obtain ⟨r,hr,hq⟩:=aa.1 hq
   cases hq
   obtain ⟨g1,g2⟩:=sE h1 hx
   obtain ⟨g3,us',g4,g5,g6,g7⟩:=js h2 hr
   refine ⟨by unfold bg;exact ⟨ev x,r.1.map ev,rfl,g1,g3⟩,us',g4,by simp only [Uq,Um,List.cons_append,←g5],by simp only [Uq];omega,fun j d hj=>?_⟩
   cases j with
   |zero=>
    simp only [Uc,List.getElem?_cons_zero,Option.some.injEq] at hj
    subst hj
    exact ⟨u,rfl,g2⟩
   |succ j=>
    simp only [Uc,List.getElem?_cons_succ] at hj⊢
    exact g7 j d hj
theorem jt {ts:List Ty}: ∀{k:Nat} {x y:Tm} {l:List AV} {us:List Value} {L:List (List D)},bZ P μ l us→nH ts k x l=some y→ev x= .aY L→
 ∃R:List (List D),ev y= .aY (L++R)∧R.length=k∧(∀r∈R,bg ts r)∧us.length=k*ts.length∧∀(j:Nat) (d:D),R.flatten[j]? =some d→∃u:Value,us[j]? =some u∧dM μ.fz d u
 |0,x,y,l,us,L,h,hy,hx=>by
  cases h with
  |nil=>cases hy;exact ⟨[],by rw [hx,List.append_nil],rfl,fun r hr=>absurd hr Ub,by simp,fun j d hj=>by simp at hj⟩
  |cons=>cases hy
 |k+1,x,y,l,us,L,h,hy,hx=>by
  unfold nH at hy
  obtain ⟨q,hq,hy⟩:=aa.1 hy
  obtain ⟨g1,us',g2,g3,g4,g5⟩:=js h hq
  have hs:ev (.op .snoc (x::q.1))= .aY (L++[q.1.map ev]):=by rw [bN,Uc,hx];rfl
  obtain ⟨R,r1,r2,r3,r4,r5⟩:=jt g2 hy hs
  have hlen:(q.1.map ev).length=ts.length:=bT g1
  refine ⟨q.1.map ev::R,by rw [r1,List.append_assoc];rfl,by simp [r2],fun r hr=>?_,?_,fun j d hj=>?_⟩
  ·rcases List.mem_cons.1 hr with rfl |hr
   ·exact g1
   ·exact r3 r hr
  ·rw [g3,Up,Ur,Us g4,r4,Uo];omega
  ·rw [Un] at hj
   by_cases hjl:j<ts.length
   ·rw [T3 (by omega)] at hj
    exact g5 j d hj
   ·rw [T5 (by omega),hlen] at hj
    obtain ⟨u,x1,x2⟩:=r5 _ d hj
    refine ⟨u,?_,x2⟩
    rw [g3,T5 (by rw [Ur];omega),Ur,Us g4]
    exact x1
end
end
end Go.Proofs.Sai
