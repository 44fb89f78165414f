/- Part IA of the proof of VerifyDead: texts of the interpreter and what it shows, under short names. No condition. -/
import GoSem.Dispatch
import GoSem.Machine.Exec
import Derived.IntWalk
import Derived.Below
import Derived.Laws.AppendOwn
import Derived.RowKit
set_option linter.unusedVariables false
set_option linter.unusedSimpArgs false
set_option linter.unusedSectionVars false
open BitVec renaming ofInt→VB
open Bool renaming eq_iff_iff→VO,and_eq_true→V1
open Go.IntKind renaming wrap→VA
open Go.Region renaming binds→VD
open Int renaming ofNat→Vw,rec→Vz,ofNat_eq_natCast→VP
open List renaming rec→Vu,getElem?_eq_none→VH,getElem?_append_left→VJ,getElem?_take→VK,getElem?_append_right→VL,getElem?_drop→VM,not_mem_nil→VS,map_cons→VT,map_nil→VU,getElem?_map→VV,mem_cons_self→V2,mem_cons_of_mem→V3,take_succ_cons→V4,flatten_cons→V5,length_append→V7,length_cons→V8,length_take→V9
open Nat renaming rec→Vn,beq→Vo,div→Vp,sub→Vq,succ→Vt,ble→Vv,pred→Vx,add→Vy,mul→VC,blt→VE,beq_eq→VG,lt_or_ge→VI,eq_of_beq_eq_true→VN,le_of_ble_eq_true→VQ,lt_of_lt_of_le→VX,le_refl→VY,le_trans→VZ,succ_mul→V6,min_eq_left→Wa
open Option renaming rec→Vm,bind_some→VW
open Option.some renaming inj→VF
namespace Go.Proofs.Sai
section
open Go
@[reducible] noncomputable def au {α:Type} (b:Bool) (x y:α):α:=@Bool.rec (fun _=>α) y x b
@[reducible] noncomputable def ab {α β:Type} (o:Option α) (f:α→Option β):Option β:=@Vm α (fun _=>Option β) none f o
@[reducible] noncomputable def omap {α β:Type} (o:Option α) (f:α→β):Option β:=@Vm α (fun _=>Option β) none (fun x=>some (f x)) o
inductive Pos:Type where
 |one
 |o (p:Pos)
 |i (p:Pos)
noncomputable def Pos.succ (p:Pos):Pos:=@Pos.rec (fun _=>Pos) (.o .one) (fun p _=>.i p) (fun _ ih=>.o ih) p
noncomputable def Ct (f:Nat):Nat→Pos:=
 @Vn (fun _=>Nat→Pos) (fun _=>.one) (fun _ ih n=>au (Vo n 0) .one (au (Vo (Nat.mod n 2) 1) (.o (ih (Vp n 2))) (.i (ih (Vq (Vp n 2) 1))))) f
noncomputable def pos (n:Nat):Pos:=Ct (Vt n) n
inductive Tr (α:Type):Type where
 |nil
 |node (v:Option α) (l r:Tr α)
noncomputable def Tr.get {α:Type} (t:Tr α) (p:Pos):Option α:=
 @Pos.rec (fun _=>Tr α→Option α) (fun t=>@Tr.rec α (fun _=>Option α) none (fun v _ _ _ _=>v) t)
  (fun _ ih t=>@Tr.rec α (fun _=>Option α) none (fun _ l _ _ _=>ih l) t)
  (fun _ ih t=>@Tr.rec α (fun _=>Option α) none (fun _ _ r _ _=>ih r) t) p t
noncomputable def Tr.Cu {α:Type} (v:Option α) (p:Pos):Tr α→Tr α:=
 @Pos.rec (fun _=>Tr α→Tr α) (fun t=>@Tr.rec α (fun _=>Tr α) (.node v .nil .nil) (fun _ l r _ _=>.node v l r) t)
  (fun _ ih t=>@Tr.rec α (fun _=>Tr α) (.node none (ih .nil) .nil) (fun u l r _ _=>.node u (ih l) r) t)
  (fun _ ih t=>@Tr.rec α (fun _=>Tr α) (.node none .nil (ih .nil)) (fun u l r _ _=>.node u l (ih r)) t) p
noncomputable def Tr.set {α:Type} (t:Tr α) (p:Pos) (v:α):Tr α:=Tr.Cu (some v) p t
inductive Ty where
 |int (k:IntKind)
 |bool
 |str
 |aF (ts:List Ty)
 |ref (ts:List Ty)
inductive NM where
 |kp (o:BinOp) (k:IntKind)
 |cmp (o:BinOp)
 |conv (k:IntKind)
 |kr (o:BinOp)
 |cat
 |ic
 |L2
 |gB
 |not
 |and
 |beq
 |nil
 |snoc
 |app
 |sub
 |len
 |zZ
 |cell (k:Nat)
 |off (k n:Nat)
 |row
 |dm (o n:Nat)
 |rep
 |wt
 |o4
 |tg
 |Cv
 |Cw
inductive Tm where
 |var (n:Nat)
 |int (k:IntKind) (n:Int)
 |bool (b:Bool)
 |str (l:List Nat)
 |op (o:NM) (l:List Tm)
class Gam where
 g:List (Tm×Bool)
 z3:Bool
inductive AV:Type where
 |bool (b:Bool)
 |int (k:IntKind) (n:Int)
 |float (k:FloatKind) (bits:Nat)
 |str (s:List Nat)
 |ptr (b:Pos) (o:Nat)
 |bX
 |slice (b:Pos) (o n:Nat) (fV wh:Bool)
 |an
 |map (b:Pos)
 |cd
 |func (f:FuncId) (first cap:List AV)
 |yield (b:Pos)
 |bN
 |iface (t:TypeId) (v:AV)
 |bu
 |agg (cs:List AV)
 |tuple (vs:List AV)
 |bad
 |tm (t:Ty) (x:Tm)
 |vl (ts:List Ty) (n:Tm) (b:Pos)
 |e0 (z:Bool)
 |pe (ts:List Ty) (b:Pos) (i:Tm) (o:Nat)
 |fb (x:Tm)
def AV.undef:AV:=.tuple []
def AV.cells:AV→List AV
 | .agg cs=>cs
 |v=>[v]
def AV.one:AV→Bool
 | .agg _=>false
 | .tuple _=>false
 | .bad=>false
 |_=>true
noncomputable def cf (l:List AV):Bool:=@Vu AV (fun _=>Bool) true (fun v _ ih=>au v.one ih false) l
inductive EB:Type where
 |fn (f:FuncId) (cap:List AV)
 |collected (b:Pos)
structure kz where
 target:EB
 args:List AV
abbrev ed:=List (AV×Bool)
inductive cE where
 |returning
 |panicking (c:ed)
inductive g9 where
 |normal
 |exit (id:Nat)
 |ret
 |panic (c:ed)
structure aN where
 tm:Tr AV
 n:Nat
 defers:List kz
 rc:Option cE
structure eY where
 state:LoopState
 pending:Option Code
 tm:Tr AV
 n:Nat
 params:List Tmp
 defers:Pos
 f:FuncId
 p:Pos
inductive Cs where
 |o5 (l:List AV)
 |many (t:Tr AV)
inductive aY where
 |cells (own:Bool) (elem:TypeId) (len:Nat) (c:Cs)
 |map (es:List (AV×AV))
 |fY (s:List Nat) (pos:Nat)
 |loop (l:eY)
 |deferred (ds:Bool)
 |dead
 |Cr (m:Option Pos)
 |frozen (o:Obj)
 |vec (own:Bool) (t:TypeId) (ts:List Ty) (n x:Tm)
 |bY (g:Bool) (kt:Ty) (ts:List Ty) (x:Tm)
 |eE (t:TypeId) (ts:List Ty) (n x i:Tm) (v:AV)
structure St where
 h:Tr aY
 n:Pos
noncomputable def St.push (s:St) (b:aY):St:=@St.rec (fun _=>St) (fun h n=>.mk (h.set n b) n.succ) s
noncomputable def St.put (s:St) (i:Pos) (b:aY):St:=@St.rec (fun _=>St) (fun h n=>.mk (h.set i b) n) s
mutual
def Cy:Value→Option AV
 | .bool b=>some (.bool b)
 | .int k n=>some (.int k n)
 | .float k b=>some (.float k b)
 | .string s=>some (.str (s.data.toList.map (·.toNat)))
 | .pointer none=>some .bX
 | .slice none 0 0=>some .an
 | .map none=>some .cd
 | .nilFunc=>some .bN
 | .nilIface=>some .bu
 | .agg cs=>match z4 cs.toList with
  |some l=>cond (l.all AV.one) (some (.agg l)) none
  |none=>none
 | .tuple cs=>match z4 cs.toList with
  |some l=>some (.tuple l)
  |none=>none
 |_=>none
def z4:List Value→Option (List AV)
 |[]=>some []
 |v::vs=>match Cy v with
  |some a=>match z4 vs with
   |some as=>some (a::as)
   |none=>none
  |none=>none
end
noncomputable def gu (v:Option AV):AV:=@Vm AV (fun _=>AV) .undef (fun v=>v) v
noncomputable def aN.tmp (a:aN) (t:Tmp):AV:=gu (a.tm.get (pos t))
noncomputable def aN.eval (a:aN) (P:Program) (x:Operand):Option AV:=
 @Operand.rec (fun _=>Option AV) (fun t=>some (a.tmp t)) (fun v=>Cy v) (fun g=>au (Vv (Vt g) P.globals.size) (some (.ptr (pos g) 0)) none) (fun f=>some (.func f [] [])) x
noncomputable def aN.put (a:aN) (d:Option Tmp) (v:AV):Option aN:=
 @Vm Tmp (fun _=>Option aN) (some a) (fun d=>@aN.rec (fun _=>Option aN) (fun tm n df rc=>au (Vv (Vt d) n) (some (.mk (tm.set (pos d) v) n df rc)) none) a) d
noncomputable def aN.rK (a:aN) (rc:Option cE):aN:=@aN.rec (fun _=>aN) (fun tm n df _=>.mk tm n df rc) a
noncomputable def aN.bK (a:aN) (ds:List kz):aN:=@aN.rec (fun _=>aN) (fun tm n _ rc=>.mk tm n ds rc) a
noncomputable def cS (P:Program) (a:aN) (l:List Operand):Option (List AV):=
 @Vu Operand (fun _=>Option (List AV)) (some []) (fun x _ ih=>ab (a.eval P x) fun v=>ab ih fun vs=>some (v::vs)) l
def Hy (l:List Nat):List AV:=l.map fun (c:Nat)=>.int .u8 (Vw c)
def HF:List AV→Option (List Nat)
 |[]=>some []
 | .int .u8 (.ofNat c)::vs=>cond (Vv c 255) (match HF vs with
  |some l=>some (c::l)
  |none=>none) none
 |_=>none
noncomputable def nth (l:List AV):Nat→Option AV:=
 @Vu AV (fun _=>Nat→Option AV) (fun _=>none) (fun v _ ih i=>au (Vo i 0) (some v) (ih (Vx i))) l
noncomputable def np (l:List AV):Nat→List AV:=
 @Vu AV (fun _=>Nat→List AV) (fun _=>[]) (fun v l ih i=>au (Vo i 0) (v::l) (ih (Vx i))) l
noncomputable def nq (l:List AV):Nat→List AV:=
 @Vu AV (fun _=>Nat→List AV) (fun _=>[]) (fun v _ ih i=>au (Vo i 0) [] (v::ih (Vx i))) l
noncomputable def wL (vs l:List AV):Nat→List AV:=
 @Vu AV (fun _=>Nat→List AV) (fun _=>[]) (fun v l ih i=>au (Vo i 0) (vs++np (v::l) vs.length) (v::ih (Vx i))) l
noncomputable def HG (c:Tr AV) (n:Nat):Nat→Option (List AV):=
 @Vn (fun _=>Nat→Option (List AV)) (fun _=>some []) (fun _ ih o=>ab (c.get (pos o)) fun v=>ab (ih (Vt o)) fun vs=>some (v::vs)) n
noncomputable def iF (l:List AV):Tr AV→Nat→Tr AV:=
 @Vu AV (fun _=>Tr AV→Nat→Tr AV) (fun c _=>c) (fun v _ ih c o=>ih (c.set (pos o) v) (Vt o)) l
noncomputable def Cs.get (c:Cs) (i:Nat):Option AV:=@Cs.rec (fun _=>Option AV) (fun l=>nth l i) (fun t=>t.get (pos i)) c
noncomputable def Cs.sub (c:Cs) (o n:Nat):Option (List AV):=@Cs.rec (fun _=>Option (List AV)) (fun l=>some (nq (np l o) n)) (fun t=>HG t n o) c
noncomputable def Cs.over (c:Cs) (o:Nat) (vs:List AV):Cs:=@Cs.rec (fun _=>Cs) (fun l=>.o5 (wL vs l o)) (fun t=>.many (iF vs t o)) c
noncomputable def Cs.of (vs:List AV):Cs:=au (Vv vs.length 32) (.o5 vs) (.many (iF vs .nil 0))
noncomputable def Cs.grow (c:Cs) (n:Nat) (vs:List AV):Cs:=@Cs.rec (fun _=>Cs) (fun l=>.of (nq l n++vs)) (fun t=>.many (iF vs t n)) c
noncomputable def HH (o n:Nat) (b:aY):Option (List AV):=
 @aY.rec (fun _=>Option (List AV)) (fun _ _ len c=>au (Vv (Vy o n) len) (c.sub o n) none) (fun _=>none) (fun _ _=>none) (fun _=>none) (fun _=>none) none (fun _=>none) (fun _=>none) (fun _ _ _ _ _=>none) (fun _ _ _ _=>none) (fun _ _ _ _ _ _=>none) b
noncomputable def St.cells (s:St) (b:Pos) (o n:Nat):Option (List AV):=ab (s.h.get b) (HH o n)
noncomputable def HI (s:St) (b:Pos) (o:Nat) (vs:List AV) (k:aY):Option St:=
 @aY.rec (fun _=>Option St) (fun own e len c=>au own (au (Vv (Vy o vs.length) len) (some (s.put b (.cells true e len (c.over o vs)))) none) none) (fun _=>none) (fun _ _=>none) (fun _=>none) (fun _=>none) none (fun _=>none) (fun _=>none) (fun _ _ _ _ _=>none) (fun _ _ _ _=>none) (fun _ _ _ _ _ _=>none) k
noncomputable def St.store (s:St) (b:Pos) (o:Nat) (vs:List AV):Option St:=au (cf vs) (ab (s.h.get b) (HI s b o vs)) none
noncomputable def St.row (s:St) (e:TypeId) (vs:List AV):St:=s.push (.cells true e vs.length (.of vs))
def O5:TypeDesc→Bool
 | .struct _=>true
 | .array _ _=>true
 |_=>false
def Cz (P:Program) (t:TypeId):Option Bool:=(P.underlying t).map O5
def bA (P:Program) (t:TypeId):Option Nat:=(P.info? t).map (·.size)
def ju (P:Program) (t:TypeId):Option Nat:=(P.info? t).map (·.bytes)
def cV (P:Program) (t:TypeId):Option AV:=(P.info? t).bind fun i=>i.zero.bind Cy
def dJ (P:Program) (t:TypeId):Option TypeId:=
 match P.underlying t with
 |some (.slice e)=>some e
 |_=>none
def jv (P:Program) (t:TypeId) (f:Nat):Option Field:=
 match P.underlying t with
 |some (.struct fs)=>fs[f]?
 |_=>none
def sB (P:Program) (t:TypeId):Option (TypeId×TypeId):=
 match P.underlying t with
 |some (.map k e)=>some (k,e)
 |_=>none
def rL (P:Program) (e:TypeId):Bool:=
 match P.underlying e with
 |some (.int .u8)=>true
 |_=>false
def yd (P:Program) (t:TypeId):Bool:=
 match P.underlying t with
 |some .string=>true
 |_=>false
def o6 (P:Program) (t:TypeId):Bool:=
 match P.underlying t with
 |some (.interface _)=>true
 |none=>true
 |_=>false
noncomputable def EC (P:Program) (s:St) (t:TypeId) (b:Pos) (o:Nat):Option AV:=ab (bA P t) fun n=>omap (s.cells b o n) .agg
noncomputable def ED (o:Nat) (b:aY):Option AV:=
 @aY.rec (fun _=>Option AV) (fun _ _ len c=>au (Vv (Vt o) len) (c.get o) none) (fun _=>none) (fun _ _=>none) (fun _=>none) (fun _=>none) none (fun _=>none) (fun _=>none) (fun _ _ _ _ _=>none) (fun _ _ _ _=>none) (fun _ _ _ _ _ _=>none) b
noncomputable def St.load (P:Program) (s:St) (t:TypeId) (b:Pos) (o:Nat):Option AV:=
 ab (Cz P t) fun g=>au g (EC P s t b o) (ab (s.h.get b) (ED o))
noncomputable def jd (P:Program) (t:TypeId) (cs:List AV) (off:Nat):Option AV:=
 ab (Cz P t) fun g=>au g (ab (bA P t) fun n=>au (Vv (Vy off n) cs.length) (some (.agg (nq (np cs off) n))) none) (nth cs off)
def RJ (f:TypeId→Option (List Ty)):List TypeId→Option (List Ty)
 |[]=>some []
 |t::ts=>match f t with
  |some a=>match RJ f ts with
   |some b=>some (a++b)
   |none=>none
  |none=>none
def lQ (P:Program):Nat→TypeId→Option (List Ty)
 |0,_=>none
 |d+1,t=>match P.underlying t with
  |some .bool=>some [.bool]
  |some (.int k)=>some [.int k]
  |some .string=>some [.str]
  |some (.slice e)=>match lQ P d e with
   |some l=>some [.aF l]
   |none=>none
  |some (.pointer e)=>match lQ P d e with
   |some l=>some [.ref l]
   |none=>none
  |some (.struct fs)=>RJ (lQ P d) (fs.toList.map (·.type))
  |_=>none
variable [Gam]
noncomputable def nr (l:List Nat):List Nat→Bool:=
 @Vu Nat (fun _=>List Nat→Bool) (fun m=>@Vu Nat (fun _=>Bool) false (fun _ _ _=>true) m)
  (fun a _ ih m=>@Vu Nat (fun _=>Bool) false (fun b y _=>au (Vv (Vt a) b) true (au (Vo a b) (ih y) false)) m) l
noncomputable def wM (l:List Nat):List Nat→Bool:=
 @Vu Nat (fun _=>List Nat→Bool) (fun m=>@Vu Nat (fun _=>Bool) true (fun _ _ _=>false) m)
  (fun a _ ih m=>@Vu Nat (fun _=>Bool) false (fun b y _=>au (Vo a b) (ih y) false) m) l
noncomputable def F0 (a b:Int):Bool:=
 @Vz (fun _=>Bool) (fun a=>@Vz (fun _=>Bool) (fun b=>Vo a b) (fun _=>false) b) (fun a=>@Vz (fun _=>Bool) (fun _=>false) (fun b=>Vo a b) b) a
noncomputable def HJ (a b:Int):Bool:=
 @Vz (fun _=>Bool) (fun a=>@Vz (fun _=>Bool) (fun b=>Vv (Vt a) b) (fun _=>false) b) (fun a=>@Vz (fun _=>Bool) (fun _=>true) (fun b=>Vv (Vt b) a) b) a
def th:IntKind→IntKind→Bool
 | .i64,.i64=>true
 | .u8,.u8=>true
 |j,k=>decide (j=k)
noncomputable def z5 (k:IntKind) (n:Int):Int:=
 @IntKind.rec (fun _=>Int) (VA .i8 n) (VA .i16 n) (VA .i32 n)
  (@Vz (fun _=>Int) (fun m=>au (Vv m 9223372036854775807) (.ofNat m) (VA .i64 (.ofNat m))) (fun m=>VA .i64 (.negSucc m)) n)
  (VA .u8 n) (VA .u16 n) (VA .u32 n) (VA .u64 n) k
def O6:NM→NM→Bool
 | .kp o k,.kp p j=>decide (o=p)&&th k j
 | .cmp o,.cmp p=>decide (o=p)
 | .conv k,.conv j=>th k j
 | .kr o,.kr p=>decide (o=p)
 | .cat,.cat=>true
 | .ic,.ic=>true
 | .L2,.L2=>true
 | .gB,.gB=>true
 | .not,.not=>true
 | .and,.and=>true
 | .beq,.beq=>true
 | .nil,.nil=>true
 | .snoc,.snoc=>true
 | .app,.app=>true
 | .sub,.sub=>true
 | .len,.len=>true
 | .zZ,.zZ=>true
 | .cell k,.cell j=>Vo k j
 | .off k n,.off j m=>Vo k j&&Vo n m
 | .row,.row=>true
 | .dm k n,.dm j m=>Vo k j&&Vo n m
 | .rep,.rep=>true
 | .wt,.wt=>true
 | .o4,.o4=>true
 | .tg,.tg=>true
 | .Cv,.Cv=>true
 | .Cw,.Cw=>true
 |_,_=>false
mutual
noncomputable def cp:Tm→Tm→Bool
 | .var n,y=>(match y with | .var m=>Vo n m |_=>false)
 | .int k n,y=>(match y with | .int j m=>th k j&&F0 n m |_=>false)
 | .bool b,y=>(match y with | .bool c=>b==c |_=>false)
 | .str l,y=>(match y with | .str m=>wM l m |_=>false)
 | .op o l,y=>(match y with | .op p m=>au (O6 o p) (wN l m) false |_=>false)
noncomputable def wN:List Tm→List Tm→Bool
 |[],m=>(match m with |[]=>true |_=>false)
 |x::l,m=>(match m with |y::m=>au (cp x y) (wN l m) false |_=>false)
end
mutual
noncomputable def lM:Ty→Ty→Bool
 | .int k,y=>(match y with | .int j=>th k j |_=>false)
 | .bool,y=>(match y with | .bool=>true |_=>false)
 | .str,y=>(match y with | .str=>true |_=>false)
 | .aF l,y=>(match y with | .aF m=>bV l m |_=>false)
 | .ref l,y=>(match y with | .ref m=>bV l m |_=>false)
noncomputable def bV:List Ty→List Ty→Bool
 |[],m=>(match m with |[]=>true |_=>false)
 |x::l,m=>(match m with |y::m=>au (lM x y) (bV l m) false |_=>false)
end
noncomputable def dB (t:Tm):Option Bool:=@Vu (Tm×Bool) (fun _=>Option Bool) none (fun c _ ih=>au (cp c.1 t) (some c.2) ih) Gam.g
noncomputable def qA (t:Tm):Bool:=@Vm Bool (fun _=>Bool) false (fun b=>b) (dB t)
def ti:Tm→Option (Tm×Tm)
 | .op (.cmp .eql) [a,b]=>some (a,b)
 |_=>none
noncomputable def HK (y:Tm):Option Tm:=@Vu (Tm×Bool) (fun _=>Option Tm) none (fun c _ ih=>au c.2 (@Vm (Tm×Tm) (fun _=>Option Tm) ih (fun q=>au (cp q.2 y) (some q.1) ih) (ti c.1)) ih) Gam.g
noncomputable def qB (i j:Tm):Bool:=au (cp i j) true (qA (.op (.cmp .eql) [i,j]))
def lR:AV→Option (Ty×Tm)
 | .int k n=>some (.int k,.int k n)
 | .bool b=>some (.bool,.bool b)
 | .str l=>some (.str,.str l)
 | .an=>some (.aF [],.op .nil [])
 | .e0 _=>some (.aF [],.op .nil [])
 | .tm t x=>some (t,x)
 |_=>none
noncomputable def fH:AV→Option Bool
 | .bool b=>some b
 | .tm .bool t=>dB t
 |_=>none
noncomputable def ye (t:Tm):AV:=@Vm Bool (fun _=>AV) (.tm .bool t) (fun b=>.bool b) (dB t)
def gC:AV→Bool
 | .tm _ _=>true
 |_=>false
def CA:Tm→Option Int
 | .int _ n=>some n
 |_=>none
noncomputable def lN (i:Tm):Bool:=@Vm Int (fun _=>Bool) (qA (.op (.cmp .leq) [.int .i64 0,i])) (fun n=> !HJ n 0) (CA i)
noncomputable def gb (i n:Tm):Bool:=qA (.op (.cmp .lss) [i,n])
noncomputable def dD (i n:Tm):Bool:=au (cp i n) true (qA (.op (.cmp .leq) [i,n]))
def wO:Tm→Option (Tm×IntKind×Int)
 | .op (.cmp .eql) [y,.int k n]=>some (y,k,n)
 |_=>none
def wP:Tm→Option (Tm×List Nat)
 | .op (.kr .eql) [y,.str l]=>some (y,l)
 |_=>none
noncomputable def qC (k:IntKind) (x:Tm):Option Int:=@Vu (Tm×Bool) (fun _=>Option Int) none (fun c _ ih=>
 au c.2 (@Vm (Tm×IntKind×Int) (fun _=>Option Int) ih (fun q=>au (cp q.1 x&&th q.2.1 k) (some q.2.2) ih) (wO c.1)) ih) Gam.g
noncomputable def qD (x:Tm):Option (List Nat):=@Vu (Tm×Bool) (fun _=>Option (List Nat)) none (fun c _ ih=>
 au c.2 (@Vm (Tm×List Nat) (fun _=>Option (List Nat)) ih (fun q=>au (cp q.1 x) (some q.2) ih) (wP c.1)) ih) Gam.g
noncomputable def fI (t:Ty) (x:Tm):AV:=
 match t with
 | .int k=>@Vm Int (fun _=>AV) (.tm (.int k) x) (fun n=>.int k n) (qC k x)
 | .str=>@Vm (List Nat) (fun _=>AV) (.tm .str x) (fun l=>.str l) (qD x)
 | .bool=>ye x
 |t=>.tm t x
noncomputable def lS (v:AV):AV:=
 match v with
 | .tm t x=>fI t x
 |v=>v
noncomputable def T3 (k:IntKind) (y:Tm):Bool:=@Vm Int (fun _=>Bool) (qA (.op (.cmp .lss) [.int k 0,y])) (fun n=> !F0 n 0) (CA y)
noncomputable def EE (x:Tm):Bool:=qA (.op (.cmp .lss) [.int .i64 0,.op .len [x]])
@[reducible] noncomputable def Ui {α:Type} (_:IntKind) (_:Tm) (_:Nat) (o:Option α):Option α:=o
@[reducible] noncomputable def Uj {α:Type} (_:Tm) (o:Option α):Option α:=o
noncomputable def o7 (x:Tm) (k:Nat):Tm:=
 match x with
 | .op (.off o n) [y]=>au (Vv (Vt k) n) (.op (.cell (Vy o k)) [y]) (.op (.cell k) [x])
 |x=>.op (.cell k) [x]
noncomputable def gD (x:Tm):List Ty→Nat→List AV
 |[],_=>[]
 |t::ts,k=>fI t (o7 x k)::gD x ts (k+1)
def HL:AV→Option Tm
 | .int k n=>some (.int k n)
 | .tm (.int _) x=>some x
 |_=>none
def NN:AV→Option Tm
 | .str l=>some (.str l)
 | .tm .str x=>some x
 |_=>none
inductive aG where
 |val (v:AV) (s:St)
 |skip (s:St)
 |enter (f:FuncId) (args:List AV) (s:St)
 |round (l:Pos) (args:List AV) (s:St)
 |defer (d:kz) (s:St)
 |recover (s:St)
 |panic (v:AV) (s:St)
def tj (P:Program) (t:TypeId):Nat:=
 match P.underlying t with
 |some .bool=>0
 |some (.pointer _)=>1
 |some (.slice _)=>2
 |some (.map _ _)=>3
 |some (.func _ _ _)=>4
 |some (.interface _)=>5
 |some (.struct _)=>6
 |some (.int _)=>7
 |some .string=>8
 |_=>9
def cT (P:Program) (t:TypeId):Option (List (TypeId×Nat)):=
 match P.underlying t with
 |some (.struct fs)=>bif P.stoodInHeld t||fs.toList.any (fun f=>f.name== "_") then none else some (fs.toList.map fun f=>(f.type,f.offset))
 |_=>none
def nG (P:Program) (t:TypeId) (k:Nat):Bool:=Vo (tj P t) k
noncomputable def sC (P:Program) (t:TypeId) (k:Nat) (b:Bool):Option Bool:=au (nG P t k) (some b) none
noncomputable def HM (P:Program) (r:TypeId→AV→AV→Option Bool) (xs ys:List AV) (fs:List (TypeId×Nat)):Option Bool:=
 @Vu (TypeId×Nat) (fun _=>Option Bool) (some true) (fun f _ ih=>ab (jd P f.1 xs f.2) fun x=>ab (jd P f.1 ys f.2) fun y=>ab (r f.1 x y) fun b=>au b ih (some false)) fs
noncomputable def lG (p:Pos):Pos→Bool:=
 @Pos.rec (fun _=>Pos→Bool) (fun q=>@Pos.rec (fun _=>Bool) true (fun _ _=>false) (fun _ _=>false) q)
  (fun _ ih q=>@Pos.rec (fun _=>Bool) false (fun q _=>ih q) (fun _ _=>false) q) (fun _ ih q=>@Pos.rec (fun _=>Bool) false (fun _ _=>false) (fun q _=>ih q) q) p
def ptrEq (P:Program) (t:TypeId):Option Bool:=
 match P.underlying t with
 |some (.pointer e)=>(match bA P e with
  |some _=>some true
  |none=>none)
 |_=>none
noncomputable def Rs (P:Program) (r:TypeId→AV→AV→Option Bool) (t:TypeId) (x y:AV):Option Bool:=
 match x with
 | .int j a=>(match y with | .int k b=>au (th j k) (sC P t 7 (F0 a b)) none |_=>none)
 | .str a=>(match y with | .str b=>sC P t 8 (wM a b) |_=>none)
 | .bool a=>(match y with | .bool b=>sC P t 0 (a==b) |_=>none)
 | .agg xs=>(match y with | .agg ys=>ab (cT P t) (HM P r xs ys) |_=>none)
 | .bX=>(match y with | .bX=>sC P t 1 true | .ptr _ _=>sC P t 1 false |_=>none)
 | .ptr b o=>(match y with | .bX=>sC P t 1 false | .ptr c p=>au (lG b c&&Vo o p) (ptrEq P t) none |_=>none)
 | .an=>(match y with | .an=>sC P t 2 true | .slice .. =>sC P t 2 false |_=>none)
 | .slice .. =>(match y with | .an=>sC P t 2 false |_=>none)
 | .e0 _=>(match y with | .an=>sC P t 2 false |_=>none)
 | .cd=>(match y with | .cd=>sC P t 3 true | .map _=>sC P t 3 false |_=>none)
 | .map _=>(match y with | .cd=>sC P t 3 false |_=>none)
 | .bN=>(match y with | .bN=>sC P t 4 true | .func .. =>sC P t 4 false | .yield _=>sC P t 4 false |_=>none)
 | .func .. =>(match y with | .bN=>sC P t 4 false |_=>none)
 | .yield _=>(match y with | .bN=>sC P t 4 false |_=>none)
 | .bu=>(match y with | .iface .. =>sC P t 5 false | .bu=>sC P t 5 true |_=>none)
 | .iface .. =>(match y with | .bu=>sC P t 5 false |_=>none)
 |_=>none
noncomputable def jI (P:Program) (n:Nat):TypeId→AV→AV→Option Bool:=
 @Vn (fun _=>TypeId→AV→AV→Option Bool) (fun _ _ _=>none) (fun _ ih t x y=>Rs P ih t x y) n
def tk:AV→Bool
 | .bu=>true
 |_=>false
def lT:AV→Bool
 | .agg _=>true
 |_=>false
noncomputable def wQ (P:Program) (t:TypeId) (p q:Ty×Tm):Option Bool:=
 match p.1 with
 | .int k=>(match q.1 with | .int j=>au (th k j&&nG P t 7) (fH (.tm .bool (.op (.cmp .eql) [p.2,q.2]))) none |_=>none)
 | .str=>(match q.1 with | .str=>au (nG P t 8) (fH (.tm .bool (.op (.kr .eql) [p.2,q.2]))) none |_=>none)
 | .bool=>(match q.1 with | .bool=>au (nG P t 0) (fH (.tm .bool (.op .beq [p.2,q.2]))) none |_=>none)
 |_=>none
noncomputable def L3 (P:Program) (r:TypeId→AV→AV→Option Bool) (t:TypeId) (x y:AV):Option Bool:=
 au (gC x||gC y) (ab (lR x) fun p=>ab (lR y) fun q=>wQ P t p q)
  (match x with
  | .agg xs=>(match y with | .agg ys=>ab (cT P t) (HM P r xs ys) |_=>none)
  |x=>jI P 1 t x y)
noncomputable def wu (P:Program) (n:Nat):TypeId→AV→AV→Option Bool:=
 @Vn (fun _=>TypeId→AV→AV→Option Bool) (fun _ _ _=>none) (fun _ ih t x y=>L3 P ih t x y) n
def rM:AV→Bool
 | .agg cs=>cs.any gC
 |_=>false
noncomputable def Rt (P:Program) (c:Bool) (t:TypeId) (x y:AV):Option Bool:=
 au (tk x&&tk y) (au c (sC P t 5 true) none) (au (lT x) (au (P.eqGuardType P.depth t) none (au (rM x||rM y) (wu P 8 t x y) (jI P 8 t x y))) (jI P 8 t x y))
noncomputable def je (x y:AV):Bool:=
 match x with
 | .int j a=>(match y with | .int k b=>th j k&&F0 a b |_=>false)
 | .str a=>(match y with | .str b=>wM a b |_=>false)
 | .bool a=>(match y with | .bool b=>a==b |_=>false)
 |_=>false
noncomputable def tr (xs:List AV):List AV→Bool:=
 @Vu AV (fun _=>List AV→Bool) (fun ys=>@Vu AV (fun _=>Bool) true (fun _ _ _=>false) ys)
  (fun x _ ih ys=>@Vu AV (fun _=>Bool) false (fun y ys _=>au (je x y) (ih ys) false) ys) xs
noncomputable def o9 (x y:AV):Bool:=
 match x with
 | .agg xs=>(match y with | .agg ys=>tr xs ys |_=>false)
 |x=>je x y
noncomputable def EF (P:Program) (t:TypeId) (x y:AV):Option Bool:=ab (lR x) fun p=>ab (lR y) fun q=>ab (wQ P t p q) fun b=>au b none (some false)
noncomputable def LQ (P:Program) (t:TypeId) (x y:AV):Option Bool:=au (gC x) (EF P t x y)<|ab (jI P 8 t x y) fun b=>au b (au (o9 x y) (some true) none) (some false)
noncomputable def tu (P:Program) (r:TypeId→AV→Bool) (xs:List AV) (fs:List (TypeId×Nat)):Bool:=
 @Vu (TypeId×Nat) (fun _=>Bool) true (fun f _ ih=>@Vm AV (fun _=>Bool) false (fun x=>au (r f.1 x) ih false) (jd P f.1 xs f.2)) fs
noncomputable def HN (P:Program) (r:TypeId→AV→Bool) (t:TypeId) (x:AV):Bool:=
 match x with
 | .int _ _=>nG P t 7
 | .str _=>nG P t 8
 | .bool _=>nG P t 0
 | .agg xs=>@Vm (List (TypeId×Nat)) (fun _=>Bool) false (fun fs=>tu P r xs fs) (cT P t)
 | .tm (.int _) _=>nG P t 7
 | .tm .str _=>nG P t 8
 |_=>false
noncomputable def gE (P:Program) (n:Nat):TypeId→AV→Bool:=@Vn (fun _=>TypeId→AV→Bool) (fun _ _=>false) (fun _ ih t x=>HN P ih t x) n
noncomputable def shA (k:IntKind) (a:Int) (n:Nat) (s:St):BinOp→Option aG
 | .shl=>some (.val (.int k (k.wrap (a*2 ^ n))) s)
 | .shr=>some (.val (.int k (a.fdiv (2 ^ n))) s)
 |_=>none
noncomputable def Uk (k:IntKind) (a b:Int) (s:St):Option aG:=au (F0 b 0) none (some (.val (.int k (k.wrap (a.tdiv b))) s))
noncomputable def Ul (k:IntKind) (a b:Int) (s:St):Option aG:=au (F0 b 0) none (some (.val (.int k (a.tmod b)) s))
def Um (k:IntKind) (a b:Int):Int:=k.wrap ((VB k.bits a &&& VB k.bits b).toNat)
def orA (k:IntKind) (a b:Int):Int:=k.wrap ((VB k.bits a ||| VB k.bits b).toNat)
def RK (k:IntKind) (a b:Int):Int:=k.wrap ((VB k.bits a ^^^ VB k.bits b).toNat)
noncomputable def CB:BinOp→IntKind→Int→Int→St→Option aG
 | .add=>fun k a b s=>some (.val (.int k (z5 k (Int.add a b))) s)
 | .sub=>fun k a b s=>some (.val (.int k (z5 k (Int.sub a b))) s)
 | .mul=>fun k a b s=>some (.val (.int k (z5 k (Int.mul a b))) s)
 | .quo=>Uk
 | .rem=>Ul
 | .and=>fun k a b s=>some (.val (.int k (Um k a b)) s)
 | .or=>fun k a b s=>some (.val (.int k (orA k a b)) s)
 | .xor=>fun k a b s=>some (.val (.int k (RK k a b)) s)
 | .eql=>fun _ a b s=>some (.val (.bool (F0 a b)) s)
 | .neq=>fun _ a b s=>some (.val (.bool (!F0 a b)) s)
 | .lss=>fun _ a b s=>some (.val (.bool (HJ a b)) s)
 | .leq=>fun _ a b s=>some (.val (.bool (!HJ b a)) s)
 | .gtr=>fun _ a b s=>some (.val (.bool (HJ b a)) s)
 | .geq=>fun _ a b s=>some (.val (.bool (!HJ a b)) s)
 |_=>fun _ _ _ _=>none
noncomputable def tz:BinOp→FloatKind→Nat→Nat→St→Option aG
 | .add=>fun k a b s=>omap (k.format.add a b) fun r=>.val (.float k r) s
 | .sub=>fun k a b s=>omap (k.format.sub a b) fun r=>.val (.float k r) s
 | .mul=>fun k a b s=>omap (k.format.mul a b) fun r=>.val (.float k r) s
 | .quo=>fun k a b s=>omap (k.format.div a b) fun r=>.val (.float k r) s
 | .eql=>fun k a b s=>some (.val (.bool (k.format.order a b==some .eq)) s)
 | .neq=>fun k a b s=>some (.val (.bool (k.format.order a b != some .eq)) s)
 | .lss=>fun k a b s=>some (.val (.bool (k.format.order a b==some .lt)) s)
 | .leq=>fun k a b s=>some (.val (.bool (k.format.order a b==some .lt||k.format.order a b==some .eq)) s)
 | .gtr=>fun k a b s=>some (.val (.bool (k.format.order a b==some .gt)) s)
 | .geq=>fun k a b s=>some (.val (.bool (k.format.order a b==some .gt||k.format.order a b==some .eq)) s)
 |_=>fun _ _ _ _=>none
noncomputable def CC:BinOp→List Nat→List Nat→St→Option aG
 | .add=>fun a b s=>au (Vv (Vy a.length b.length) 9223372036854775807) (some (.val (.str (a++b)) s)) none
 | .eql=>fun a b s=>some (.val (.bool (wM a b)) s)
 | .neq=>fun a b s=>some (.val (.bool (!wM a b)) s)
 | .lss=>fun a b s=>some (.val (.bool (nr a b)) s)
 | .leq=>fun a b s=>some (.val (.bool (nr a b||wM a b)) s)
 | .gtr=>fun a b s=>some (.val (.bool (!(nr a b||wM a b))) s)
 | .geq=>fun a b s=>some (.val (.bool (!nr a b)) s)
 |_=>fun _ _ _=>none
noncomputable def HP (P:Program) (c:Bool) (t:TypeId):BinOp→AV→AV→St→Option aG
 | .eql=>fun x y s=>omap (Rt P c t x y) fun b=>.val (.bool b) s
 | .neq=>fun x y s=>omap (Rt P c t x y) fun b=>.val (.bool (!b)) s
 |_=>fun _ _ _=>none
noncomputable def HQ (op:BinOp) (k:IntKind) (a b:Int) (s:St):Option aG:=
 match b with
 | .ofNat n=>shA k a (min n k.bits) s op
 |_=>none
def RL:BinOp→Bool
 | .shl=>true
 | .shr=>true
 |_=>false
noncomputable def HR (op:BinOp) (k:IntKind) (x y:Tm) (s:St):Option aG:=
 match op with
 | .add=>some (.val (.tm (.int k) (.op (.kp .add k) [x,y])) s)
 | .sub=>some (.val (.tm (.int k) (.op (.kp .sub k) [x,y])) s)
 | .mul=>some (.val (.tm (.int k) (.op (.kp .mul k) [x,y])) s)
 | .rem=>au (T3 k y) (some (.val (.tm (.int k) (.op (.kp .rem k) [x,y])) s)) none
 | .eql=>some (.val (ye (.op (.cmp .eql) [x,y])) s)
 | .neq=>some (.val (ye (.op (.cmp .neq) [x,y])) s)
 | .lss=>some (.val (ye (.op (.cmp .lss) [x,y])) s)
 | .leq=>some (.val (ye (.op (.cmp .leq) [x,y])) s)
 | .gtr=>some (.val (ye (.op (.cmp .gtr) [x,y])) s)
 | .geq=>some (.val (ye (.op (.cmp .geq) [x,y])) s)
 |_=>none
noncomputable def HS (op:BinOp) (x y:Tm) (s:St):Option aG:=
 match op with
 | .eql=>some (.val (ye (.op (.kr .eql) [x,y])) s)
 | .neq=>some (.val (ye (.op (.kr .neq) [x,y])) s)
 | .lss=>some (.val (ye (.op (.kr .lss) [x,y])) s)
 |_=>none
noncomputable def NO (op:BinOp) (p q:Ty×Tm) (s:St):Option aG:=
 match p.1 with
 | .int k=>(match q.1 with | .int j=>au (th k j) (HR op k p.2 q.2 s) none |_=>none)
 | .str=>(match q.1 with | .str=>HS op p.2 q.2 s |_=>none)
 |_=>none
noncomputable def yf (op:BinOp) (x y:Tm) (s:St):Option aG:=
 match op with
 | .eql=>some (.val (ye (.op .beq [x,y])) s)
 | .neq=>some (.val (ye (.op .not [.op .beq [x,y]])) s)
 |_=>none
def yg:AV→Option Tm
 | .bool b=>some (.bool b)
 | .tm .bool x=>some x
 |_=>none
def Un:BinOp→Option Bool
 | .eql=>some false
 | .neq=>some true
 |_=>none
noncomputable def RM (x:Tm):Bool:=qA (.op (.cmp .lss) [.int .i64 0,.op .len [x]])
noncomputable def O7 (op:BinOp) (s:St) (x:Tm):Option aG:=ab (Un op) fun b=>au (RM x) (some (.val (.bool b) s)) none
noncomputable def yh (op:BinOp) (s:St) (x y:AV):Option aG:=ab (lR x) fun p=>ab (lR y) fun q=>NO op p q s
noncomputable def qE (P:Program) (ty:TypeId) (op:BinOp) (s:St) (x y:AV):Option aG:=
 match x with
 | .tm (.aF _) t=>(match y with | .an=>au (nG P ty 2) (O7 op s t) none |_=>none)
 | .tm .bool t=>au (nG P ty 0) (ab (yg y) fun u=>yf op t u s) none
 | .bool b=>au (nG P ty 0) (ab (yg y) fun u=>yf op (.bool b) u s) none
 |x=>yh op s x y
def L4:AV→Bool
 | .fb _=>true
 |_=>false
noncomputable def wR (op:BinOp) (s:St) (x y:AV):Option aG:=
 match x with
 | .fb a=>(match y with | .fb b=>au (cp a b) (match op with | .neq=>some (.val (ye (.op .Cw [a])) s) |_=>none) none |_=>none)
 |_=>none
noncomputable def HT (P:Program) (c:Bool) (op:BinOp) (t:TypeId) (s:St) (x y:AV):Option aG:=
 match x with
 | .int k a=>(match y with
  | .int k' b=>au (RL op) (HQ op k a b s) (au (th k k') (CB op k a b s) none)
  |_=>none)
 | .float k a=>(match y with
  | .float k' b=>au (decide (k=k')) (tz op k a b s) none
  |_=>none)
 | .str a=>(match y with
  | .str b=>CC op a b s
  |_=>none)
 |x=>HP P c t op x y s
noncomputable def RN (P:Program) (c:Bool) (op:BinOp) (t:TypeId) (s:St) (x y:AV):Option aG:=au (gC x||gC y) (qE P t op s x y) (au (L4 x) (wR op s x y) (HT P c op t s x y))
noncomputable def unA (op:UnOp) (x:AV):Option AV:=
 match op,x with
 | .neg,.int k n=>some (.int k (k.wrap (0 - n)))
 | .xor,.int k n=>some (.int k (RK k (if k.signed then -1 else k.max) n))
 | .not,.bool b=>some (.bool !b)
 | .not,.tm .bool x=>some (ye (.op .not [x]))
 | .neg,.float k b=>some (.float k (Op.negFloat k b))
 |_,_=>none
noncomputable def EG (P:Program) (e:TypeId) (l:List Nat) (s:St):Option aG:=
 au (rL P e) (au (Vv l.length 1000000) (some (.val (.slice s.n 0 l.length false true) (s.push (.cells false e l.length (.of (Hy l)))))) none) none
noncomputable def mQ (P:Program) (e:TypeId) (x:AV) (s:St):Option aG:=
 au (rL P e) (match x with
  | .slice b o n _ _=>ab (s.cells b o n) fun cs=>omap (HF cs) fun l=>.val (.str l) s
  | .an=>some (.val (.str []) s)
  |_=>none) none
noncomputable def tA (P:Program) (src dst e:TypeId) (b:Pos) (n:Nat) (s:St):aY→Option aG
 | .cells own t len c=>au (own&&Vo src dst&&rL P e&&rL P t&&Vv n len) (some (.val (.slice s.n 0 n false false) ((s.put b .dead).push (.cells false t len c)))) none
 |_=>none
noncomputable def CD (P:Program) (src dst e:TypeId) (s:St):AV→Option aG
 | .str l=>EG P e l s
 | .slice b 0 n _ _=>ab (s.h.get b) (tA P src dst e b n s)
 |_=>none
def rowOf (t:TypeId) (z:Nat):aY→Bool
 | .cells own u len _=>own&&Vo t u&&Vv 1 z&&Vv z len
 |_=>false
noncomputable def sI (P:Program) (t:TypeId) (s:St):AV→Option aG
 | .bX=>some (.val .bX s)
 | .ptr b 0=>ab (s.h.get b) fun k=>ab (bA P t) fun z=>au (rowOf t z k) (some (.val (.ptr b 0) s)) none
 |_=>none
noncomputable def RO (P:Program) (src dst:TypeId) (x:AV) (s:St):Option aG:=
 ab (P.underlying src) fun us=>ab (P.underlying dst) fun ud=>
 match ud with
 | .int k=>(match x with | .int _ n=>some (.val (.int k (z5 k n)) s) | .tm (.int _) y=>some (.val (.tm (.int k) (.op (.conv k) [y])) s) |_=>none)
 | .float k=>(match x with | .int _ n=>some (.val (.float k (k.nearest n)) s) | .float k' b=>au (decide (k=k')) (some (.val (.float k b) s)) none |_=>none)
 | .string=>(match x with
  | .str l=>some (.val (.str l) s)
  | .int _ (.ofNat n)=>au (Vv n 127) (some (.val (.str [n]) s)) none
  |x=>ab (dJ P src) fun e=>mQ P e x s)
 | .slice e=>CD P src dst e s x
 | .unsafePointer=>(match us with | .pointer t=>sI P t s x |_=>none)
 | .pointer t=>(match us with | .unsafePointer=>sI P t s x |_=>none)
 |_=>none
noncomputable def z9 (place:Nat→Option (Nat×Nat)) (cells:List AV):List (Nat×AV)→Option (List AV)
 |[]=>some cells
 |(i,v)::rest=>
  ab (place i) fun p=>
   au (Vo v.cells.length p.2&&Vv (Vy p.1 p.2) cells.length&&cf v.cells) (z9 place (nq cells p.1++(v.cells++np cells (Vy p.1 p.2))) rest) none
def EH (P:Program) (fs:Array Field):Option (List (Nat×Nat)):=fs.toList.mapM fun f=>(P.info? f.type).map fun i=>(f.offset,i.size)
def ns (place:Nat→Option (Nat×Nat)):List Nat→Nat→Nat→Option (List Nat)
 |[],at_,n=>cond (Vo at_ n) (some []) none
 |i::is,at_,n=>match place i with
  |some p=>cond (Vo p.1 at_) (match ns place is (at_+p.2) n with |some r=>some (p.2::r) |none=>none) none
  |none=>none
def HU (P:Program) (t:TypeId) (is:List Nat):Option (List Nat):=
 match P.info? t with
 |some it=>match it.zero with
  |some z=>match P.underlying t with
   |some (.struct fs)=>match EH P fs with
    |some ps=>ns (ps.toArray[·]?) is 0 z.cells.size
    |none=>none
   |some (.array _ e)=>match P.info? e with
    |some ie=>ns (fun i=>some (i*ie.size,ie.size)) is 0 z.cells.size
    |none=>none
   |_=>none
  |none=>none
 |none=>none
noncomputable def addPart (z:Nat) (r:List AV) (v:AV):Option (List AV):=
 match v with
 | .agg cs=>au (Vo cs.length z) (some (cs++r)) none
 | .tuple _=>none
 | .bad=>none
 |v=>au (Vo z 1) (some (v::r)) none
noncomputable def pa (zs:List Nat):List AV→Option (List AV):=
 @Vu Nat (fun _=>List AV→Option (List AV)) (fun vs=>@Vu AV (fun _=>Option (List AV)) (some []) (fun _ _ _=>none) vs)
  (fun z _ ih vs=>@Vu AV (fun _=>Option (List AV)) none (fun v vs _=>ab (ih vs) fun r=>addPart z r v) vs) zs
noncomputable def HV (P:Program) (t:TypeId) (parts:List (Nat×AV)):Option (List AV):=
 ab (cV P t) fun z=>au (cf z.cells) (match P.underlying t with
 |some (.struct fs)=>ab (EH P fs) fun ps=>z9 (ps.toArray[·]?) z.cells parts
 |some (.array _ e)=>ab (bA P e) fun n=>z9 (fun i=>some (i*n,n)) z.cells parts
 |_=>none) none
noncomputable def O8 (P:Program) (t:TypeId) (is:List Nat) (vs:List AV):Option AV:=
 omap (@Vm (List Nat) (fun _=>Option (List AV)) (HV P t (is.zip vs)) (fun zs=>pa zs vs) (HU P t is)) .agg
def tB (z:List AV):Nat→List AV
 |0=>[]
 |n+1=>z++tB z n
def tC (P:Program) (e:TypeId) (n:Nat) (is:List Nat):Option (List Nat):=
 match P.info? e with
 |some ie=>cond (ie.zero.isSome&&Vv n 16777216&&Vv (n*ie.size) 16777216) (ns (fun i=>some (i*ie.size,ie.size)) is 0 (n*ie.size)) none
 |none=>none
noncomputable def lU (P:Program) (t:TypeId) (len:Nat) (is:List Nat) (vs:List AV) (s:St):Option aG:=
 ab (dJ P t) fun e=>ab (tC P e len is) fun zs=>omap (pa zs vs) fun cs=>.val (.slice s.n 0 len true true) (s.row e cs)
noncomputable def qF:AV→Option Nat
 | .int .i64 (.ofNat n)=>some n
 |_=>none
noncomputable def nt (d:Nat) (v:Option AV):Option Nat:=@Vm AV (fun _=>Option Nat) (some d) (fun v=>qF v) v
noncomputable def O9 (l:List Nat) (lo hi:Nat) (s:St):Option aG:=au (Vv lo hi&&Vv hi l.length) (some (.val (.str ((l.take hi).drop lo)) s)) none
noncomputable def Pa (z lo:Nat) (high max:Option AV) (s:St):AV→Option aG
 | .slice b o n fV wh=>ab (nt n high) fun hi=>ab (nt hi max) fun m=>
  au (Vv lo hi&&Vv hi n&&Vo m hi&&(high.isSome||max.isNone)) (some (.val (.slice b (Vy o (VC lo z)) (Vq hi lo) (max.isSome||(fV&&Vo hi n)) (wh&&Vo lo 0&&(max.isNone||(fV&&Vo hi n)))) s)) none
 | .an=>ab (nt 0 high) fun hi=>ab (nt hi max) fun m=>au (Vo lo 0&&Vo hi 0&&Vo m hi&&(high.isSome||max.isNone)) (some (.val .an s)) none
 | .e0 z=>ab (nt 0 high) fun hi=>ab (nt hi max) fun m=>au (Vo lo 0&&Vo hi 0&&Vo m hi&&(high.isSome||max.isNone)) (some (.val (.e0 (z||max.isSome)) s)) none
 |_=>none
noncomputable def Pb (n z lo:Nat) (high max:Option AV) (s:St):AV→Option aG
 | .ptr b o=>ab (nt n high) fun hi=>au (Vv lo hi&&Vo hi n&&max.isNone&&Vv n 16777216) (some (.val (.slice b (Vy o (VC lo z)) (Vq hi lo) true false) s)) none
 |_=>none
def nH:AV→Option Tm
 | .int .i64 n=>some (.int .i64 n)
 | .tm (.int .i64) x=>some x
 |_=>none
noncomputable def Aa (d:Tm) (v:Option AV):Option Tm:=@Vm AV (fun _=>Option Tm) (some d) (fun v=>nH v) v
noncomputable def Ab (h:Tm) (mx:Option AV):Bool:=@Vm AV (fun _=>Bool) true (fun v=>@Vm Tm (fun _=>Bool) false (fun t=>cp t h) (nH v)) mx
def Pc:Tm→Bool
 | .int .i64 (.ofNat 0)=>true
 |_=>false
noncomputable def EI (P:Program) (t:TypeId) (ts:List Ty) (n:Tm) (b:Pos) (low high max:Option AV) (s:St):Option aG:=
 ab (dJ P t) fun e=>ab (bA P e) fun z=>ab (Aa (.int .i64 0) low) fun l=>ab (Aa n high) fun h=>
  au (Vo z ts.length&&max.isNone&&Pc l&&lN h&&dD h n) (some (.val (.vl ts h b) s)) none
noncomputable def jJ (P:Program) (t:TypeId) (v:AV) (low high max:Option AV) (s:St):Option aG:=
 match v with
 | .tm (.aF ts) x=>ab (dJ P t) fun e=>ab (bA P e) fun z=>ab (Aa (.int .i64 0) low) fun l=>ab (Aa (.op .len [x]) high) fun h=>
  au (Vo z ts.length&&(high.isSome||max.isNone)) (au (max.isSome&&Pc l&&Pc h&&Ab h max&&EE x) (some (.val (.e0 true) s))<|au (lN l&&dD l h&&(high.isNone||dD h (.op .len [x]))&&Ab h max) (some (.val (.tm (.aF ts) (.op .sub [x,l,h])) s)) none) none
 |_=>none
noncomputable def yj (P:Program) (t:TypeId) (x:AV) (low high max:Option AV) (s:St):Option aG:=
 ab (nt 0 low) fun lo=>
 match P.underlying t with
 |some .string=>(match x with | .str l=>ab (nt l.length high) fun hi=>au max.isNone (O9 l lo hi s) none |_=>none)
 |some (.slice e)=>ab (bA P e) fun z=>Pa z lo high max s x
 |some (.array n e)=>ab (bA P e) fun z=>Pb n z lo high max s x
 |_=>none
noncomputable def tD (P:Program) (t:TypeId) (x:AV) (low high max:Option AV) (s:St):Option aG:=
 match x with
 | .vl ts n b=>EI P t ts n b low high max s
 |x=>yj P t x low high max s
noncomputable def HW (P:Program) (t:TypeId) (x:AV) (low high max:Option AV) (s:St):Option aG:=au (gC x) (jJ P t x low high max s) (tD P t x low high max s)
noncomputable def EJ (z:Nat) (s:St):AV→Option (Nat×List AV)
 | .an=>some (0,[])
 | .e0 _=>some (0,[])
 | .slice b o n _ _=>omap (s.cells b o (VC n z)) fun cs=>(n,cs)
 |_=>none
noncomputable def lV (e:TypeId) (b:Pos) (n k z:Nat) (new:List AV) (s:St) (bl:aY):Option aG:=
 match bl with
 | .cells own e' len c=>au (own&&Vo e' e&&Vv (VC n z) len) (some (.val (.slice s.n 0 (Vy n k) false true) ((s.put b .dead).push (.cells true e (VC (Vy n k) z) (c.grow (VC n z) new))))) none
 |_=>none
noncomputable def pb (e z k:Nat) (new:List AV) (s:St):AV→Option aG
 | .an=>au (Vo k 0) (some (.val .an s)) (some (.val (.slice s.n 0 k false true) (s.row e new)))
 | .slice b o n fV wh=>au (Vo k 0) (some (.val (.slice b o n fV wh) s))
  (au fV (omap (s.cells b o (VC n z)) fun iG=>.val (.slice s.n 0 (Vy n k) false true) (s.row e (iG++new)))
   (au (wh&&Vo o 0) (ab (s.h.get b) (lV e b n k z new s)) none))
 |_=>none
def lenOf:AV→Nat
 | .slice _ _ n _ _=>n
 | .vl _ _ _=>100000000
 |_=>0
noncomputable def lW (t:Ty) (v:AV):Option Tm:=
 match v with
 | .an=>(match t with | .aF _=>some (.op .nil []) |_=>none)
 | .e0 _=>(match t with | .aF _=>some (.op .nil []) |_=>none)
 | .slice _ _ n _ _=>(match t with | .aF _=>au (Vo n 0) (some (.op .nil [])) none |_=>none)
 |v=>ab (lR v) fun q=>au (lM t q.1) (some q.2) none
noncomputable def jf:List Ty→List AV→Option (List Tm×List AV)
 |[],l=>some ([],l)
 |t::ts,l=>(match l with
  |[]=>none
  |v::l=>ab (lW t v) fun x=>ab (jf ts l) fun r=>some (x::r.1,r.2))
noncomputable def lH (ts:List Ty):Nat→Tm→List AV→Option Tm
 |0,x,l=>(match l with |[]=>some x |_=>none)
 |k+1,x,l=>ab (jf ts l) fun r=>lH ts k (.op .snoc (x::r.1)) r.2
def fc:Tm:=.int .i64 100000000
noncomputable def kA (n m x:Tm):Tm:=au (cp n m) x (.op .sub [x,.int .i64 0,n])
noncomputable def pc (own:Bool) (ts:List Ty) (n:Tm):aY→Option (TypeId×Tm)
 | .vec o t us m x=>au (au own o true) (au (bV ts us&&dD n m) (some (t,kA n m x)) none) none
 |_=>none
noncomputable def nI (s:St):AV→Option (AV×St)
 | .vl ts n b=>ab (s.h.get b) fun k=>match k with | .vec _ t us m x=>au (bV ts us&&dD n m) (some (.tm (.aF ts) (kA n m x),s.put b (.vec false t us m x))) none |_=>none
 |v=>some (v,s)
noncomputable def dg:List AV→St→Option (List AV×St)
 |[],s=>some ([],s)
 |v::vs,s=>ab (nI s v) fun q=>ab (dg vs q.2) fun r=>some (q.1::r.1,r.2)
noncomputable def HX (s:St):AV→Option (AV×St)
 | .agg l=>ab (dg l s) fun q=>au (cf q.1) (some (.agg q.1,q.2)) none
 |v=>nI s v
noncomputable def kB:List AV→St→Option (List AV×St)
 |[],s=>some ([],s)
 |v::vs,s=>ab (HX s v) fun q=>ab (kB vs q.2) fun r=>some (q.1::r.1,r.2)
noncomputable def NP (ts:List Ty) (s:St):AV→Option Tm
 | .tm (.aF us) y=>au (bV ts us&&dD (.op .len [y]) fc) (some y) none
 | .vl us n b=>au (bV ts us&&dD n fc) (omap (ab (s.h.get b) (pc false ts n)) fun q=>q.2) none
 |_=>none
noncomputable def lX (e z:Nat) (ts:List Ty) (s:St):AV→Option (Tm×Option Pos)
 | .an=>some (.op .nil [],none)
 | .e0 true=>some (.op .nil [],none)
 | .slice b o n fV wh=>ab (s.cells b o (VC n z)) fun cs=>ab (lH ts n (.op .nil []) cs) fun x=>
  au fV (some (x,none)) (au (wh&&Vo o 0) (ab (s.h.get b) fun bl=>match bl with | .cells own e' len _=>au (own&&Vo e' e&&Vv (VC n z) len) (some (x,some b)) none |_=>none) none)
 | .vl us n b=>au (bV ts us&&dD n fc) (ab (s.h.get b) fun bl=>ab (pc true ts n bl) fun q=>au (Vo q.1 e) (some (q.2,some b)) none) none
 |_=>none
noncomputable def jw (s:St) (d:Option Pos) (e:TypeId) (ts:List Ty) (y:Tm):aG:=
 .val (.vl ts (.op .len [y]) s.n) ((@Vm Pos (fun _=>St) s (fun b=>s.put b .dead) d).push (.vec true e ts (.op .len [y]) y))
noncomputable def Pd (ts:Option (List Ty)) (x:AV):Bool:=
 match x with
 | .vl _ _ _=>true
 |_=>au Gam.z3 ts.isSome false
noncomputable def yk (e z k:Nat) (new:List AV) (s:St) (ts:List Ty) (x:AV):Option aG:=
 ab (lX e z ts s x) fun q=>au (Vo k 0) (some (.val x s)) (omap (lH ts k q.1 new) fun y=>jw s q.2 e ts y)
noncomputable def EK (e z:Nat) (s:St) (ts:List Ty) (x y:AV):Option aG:=
 ab (lX e z ts s x) fun q=>ab (NP ts s y) fun u=>ab (fH (.tm .bool (.op (.cmp .lss) [.int .i64 0,.op .len [u]]))) fun c=>some (au c (jw s q.2 e ts (.op .app [q.1,u])) (.val x s))
def HY:AV→Bool
 | .tm (.aF _) _=>true
 | .vl _ _ _=>true
 |_=>false
def qG {α:Type}:List α→Option (List α×α)
 |[]=>none
 |v::l=>match l with
  |[]=>some ([],v)
  |_::_=>match qG l with
   |some q=>some (v::q.1,q.2)
   |none=>none
noncomputable def wS:Bool:=qA (.op .beq [.bool true,.bool true])
noncomputable def kC (e z k:Nat) (new:List AV) (s:St) (ts:List Ty) (n:Tm) (b:Pos):Option aG:=
 au (Vo k 1) (ab (qG new) fun p=>ab (qG ts) fun tt=>match tt.2 with
  | .aF us=>(match p.2 with
   | .vl vs _ _=>au (bV us vs) (ab (dg p.1 s) fun q=>ab (jf tt.1 q.1) fun r=>match r.2 with
    |[]=>ab (lX e z ts q.2 (.vl ts n b)) fun d=>ab (HK (.op .len [d.1])) fun i=>(match Tm.op .snoc (d.1::(r.1++[.op .nil []])) with
     |y=>some (.val (.vl ts (.op .len [y]) q.2.n) ((q.2.put b .dead).push (.eE e ts (.op .len [y]) y i p.2))))
    |_=>none) none
   |_=>none)
  |_=>none) none
noncomputable def mR (e k:Nat) (new:List AV) (s:St) (ts:List Ty) (n:Tm) (b:Pos):aY→Option aG
 | .eE t us m x i v=>au (Vo t e&&bV ts us&&cp n m&&dD n fc&& !Vo k 0) (ab (dg new s) fun q=>omap (lH ts k x q.1) fun y=>
  .val (.vl ts (.op .len [y]) q.2.n) ((q.2.put b .dead).push (.eE e ts (.op .len [y]) y i v))) none
 |_=>none
def tE:Option aY→Bool
 |some (.eE ..)=>true
 |_=>false
noncomputable def L5 (e z k:Nat) (new:List AV) (s:St) (ts:List Ty) (x:AV) (els:Option aG):Option aG:=
 match x with
 | .vl us n b=>au (bV ts us) (au (tE (s.h.get b)) (ab (s.h.get b) (mR e k new s ts n b)) (au wS (kC e z k new s ts n b) els)) els
 |_=>els
noncomputable def EL (P:Program) (e z k:Nat) (new:List AV) (s:St) (x:AV):Option aG:=
 au (Pd (lQ P 12 e) x) (ab (lQ P 12 e) fun ts=>au (Vo z ts.length) (L5 e z k new s ts x (ab (dg new s) fun q=>yk e z k q.1 q.2 ts x)) none) (pb e z k new s x)
noncomputable def rN (e z by_:Nat) (zv:AV) (x:AV) (k:Nat):Bool:=Vv 1 z&&Vo zv.cells.length z&&cf zv.cells&&Vv 1 by_&&Vv (VC (Vy (lenOf x) k) by_) 35184372088832
noncomputable def EM (P:Program) (t:TypeId) (x y:AV) (s:St):Option aG:=
 ab (dJ P t) fun e=>ab (bA P e) fun z=>ab (ju P e) fun by_=>ab (cV P e) fun zv=>
  au (HY y) (au (rN e z by_ zv x 100000000) (ab (lQ P 12 e) fun ts=>au (Vo z ts.length) (EK e z s ts x y) none) none)
   (ab (EJ z s y) fun p=>au (rN e z by_ zv x p.1) (EL P e z p.1 p.2 s x) none)
noncomputable def Uo (P:Program) (s:St) (b:Pos) (o n:Nat):aY→Option AV
 | .cells own e _ _=>au own (ab (lQ P 12 e) fun ts=>ab (s.cells b o (VC n ts.length)) fun cs=>omap (lH ts n (.op .nil []) cs) fun x=>.tm (.aF ts) x) none
 |_=>none
noncomputable def CE (P:Program) (s:St):AV→Option AV
 | .vl ts n b=>ab (s.h.get b) fun k=>omap (pc false ts n k) fun q=>.tm (.aF ts) q.2
 | .an=>some (.tm (.aF []) (.op .nil []))
 | .e0 _=>some (.tm (.aF []) (.op .nil []))
 | .slice b o n _ _=>ab (s.h.get b) (Uo P s b o n)
 |v=>omap (lR v) fun _=>v
noncomputable def EN (P:Program) (s:St):List AV→Option (List AV)
 |[]=>some []
 |v::vs=>ab (CE P s v) fun x=>omap (EN P s vs) fun xs=>x::xs
mutual
noncomputable def ja (P:Program) (s:St):AV→Option AV
 | .agg l=>omap (EN P s l) .agg
 | .tuple l=>omap (Ac P s l) .tuple
 |v=>CE P s v
noncomputable def Ac (P:Program) (s:St):List AV→Option (List AV)
 |[]=>some []
 |v::vs=>ab (ja P s v) fun x=>omap (Ac P s vs) fun xs=>x::xs
end
noncomputable def yl (P:Program) (t u:TypeId) (x y:AV) (s:St):Option aG:=
 match y with
 | .str l=>ab (dJ P t) fun e=>ab (bA P e) fun z=>ab (ju P e) fun by_=>ab (cV P e) fun zv=>
  au (yd P u&&Vo z 1&&Vo by_ 1&&Vo zv.cells.length 1&&cf zv.cells&&Vv (Vy (lenOf x) l.length) 1000000) (pb e 1 l.length (Hy l) s x) none
 |_=>none
noncomputable def rO (P:Program) (t:TypeId) (k:AV):List (AV×AV)→Option (Option AV)
 |[]=>some none
 |e::es=>ab (LQ P t k e.1) fun b=>au b (some (some e.2)) (rO P t k es)
noncomputable def Ad (P:Program) (t:TypeId) (k v:AV):List (AV×AV)→Option (List (AV×AV))
 |[]=>some [(k,v)]
 |e::es=>ab (LQ P t k e.1) fun b=>au b (some ((e.1,v)::es)) (omap (Ad P t k v es) (e:: ·))
noncomputable def Ae (P:Program) (t:TypeId) (k:AV):List (AV×AV)→Option (List (AV×AV))
 |[]=>some []
 |e::es=>ab (LQ P t k e.1) fun b=>au b (some es) (omap (Ae P t k es) (e:: ·))
noncomputable def F2 (P:Program) (t:TypeId) (k:AV):List (AV×AV)→Option Bool
 |[]=>some false
 |e::es=>ab (LQ P t k e.1) fun b=>ab (F2 P t k es) fun c=>au b (au c none (some true)) (some c)
noncomputable def NQ (P:Program) (t:TypeId) (k:AV) (es:List (AV×AV)):Option (Option AV):=ab (F2 P t k es) fun _=>rO P t k es
noncomputable def RP (P:Program) (t:TypeId) (k v:AV) (es:List (AV×AV)):Option (List (AV×AV)):=ab (F2 P t k es) fun _=>Ad P t k v es
noncomputable def Pe (P:Program) (t:TypeId) (k:AV) (es:List (AV×AV)):Option (List (AV×AV)):=ab (F2 P t k es) fun _=>Ae P t k es
noncomputable def L6 (kt:Ty) (k:AV):Option Tm:=ab (lR k) fun q=>au (lM kt q.1) (some q.2) none
def CF:Ty→Nat
 | .int _=>7
 | .str=>8
 |_=>100
def CG:Option aY→Bool
 |some (.bY ..)=>true
 |_=>false
noncomputable def Pf (P:Program) (t:TypeId) (s:St) (k:AV) (r:Pos):aY→Option aG
 | .bY g kt ts x=>ab (sB P t) fun q=>ab (L6 kt k) fun kk=>au (nG P q.1 (CF kt)) (some (.val (.tuple []) (s.put r (.bY g kt ts (.op .Cv [x,kk]))))) none
 |_=>none
def HZ:aY→Option (List (AV×AV))
 | .map es=>some es
 |_=>none
noncomputable def jK (s:St):AV→Option (List (AV×AV))
 | .cd=>some []
 | .map r=>ab (s.h.get r) HZ
 |_=>none
noncomputable def H0 (P:Program) (t:TypeId) (s:St) (x:AV):Option Nat:=
 match P.underlying t with
 |some .string=>(match x with | .str l=>some l.length |_=>none)
 |some (.slice _)=>(match x with | .slice _ _ n _ _=>some n | .an=>some 0 | .e0 _=>some 0 |_=>none)
 |some (.array n _)=>some n
 |some (.map _ _)=>omap (jK s x) fun l=>l.length
 |_=>none
noncomputable def ym (P:Program) (t:TypeId):AV→Option AV
 | .tm .str x=>(match P.underlying t with |some .string=>some (fI (.int .i64) (.op .gB [x])) |_=>none)
 | .tm (.aF _) x=>(match P.underlying t with |some (.slice _)=>some (fI (.int .i64) (.op .len [x])) |_=>none)
 | .vl _ n _=>(match P.underlying t with |some (.slice _)=>some (fI (.int .i64) n) |_=>none)
 |_=>none
noncomputable def CH (P:Program) (ats:List TypeId) (args:List AV) (s:St):Option aG:=
 match ats with
 |t::_=>(match args with
  |[x]=>@Vm AV (fun _=>Option aG) (omap (H0 P t s x) fun n=>.val (.int .i64 (Vw n)) s) (fun v=>some (.val v s)) (ym P t x)
  |_=>none)
 |_=>none
noncomputable def yn (P:Program) (ats:List TypeId) (args:List AV) (s:St):Option aG:=
 match ats with
 |[t,t']=>(match args with
  |[x,y]=>au (Vo t t') (EM P t x y s) (yl P t t' x y s)
  |_=>none)
 |_=>none
noncomputable def yo (P:Program) (ats:List TypeId) (args:List AV) (s:St):Option aG:=
 match ats with
 |t::_=>(match args with
  |[.map r,k]=>au (CG (s.h.get r)) (ab (s.h.get r) (Pf P t s k r))<|ab (sB P t) fun q=>au (gE P 8 q.1 k) (ab (jK s (.map r)) fun es=>omap (Pe P q.1 k es) fun es=>.val (.tuple []) (s.put r (.map es))) none
  |_=>none)
 |_=>none
noncomputable def H2 (P:Program) (ats:List TypeId) (args:List AV) (s:St):Option aG:=
 match ats with
 |t::_=>ab (dJ P t) fun e=>ab (bA P e) fun z=>(match args with
  |[.slice _ _ _ _ _,.an]=>some (.val (.int .i64 0) s)
  |[.slice b o n _ _,.slice b' o' n' _ _]=>ab (s.cells b' o' (VC (min n n') z)) fun cs=>omap (s.store b o cs) fun s=>.val (.int .i64 (Vw (min n n'))) s
  |_=>none)
 |_=>none
def CI (_:Program) (_:List TypeId) (args:List AV) (s:St):Option aG:=
 match args with
 |[.iface t v]=>some (.panic (.iface t v) s)
 |_=>none
noncomputable def H3 (_:Program) (_:List TypeId) (args:List AV) (s:St):Option aG:=
 match args with
 |[.int .i64 x,.int .i64 y]=>some (.val (.int .i64 (au (HJ y x) y x)) s)
 |_=>none
noncomputable def H4 (_:Program) (_:List TypeId) (args:List AV) (s:St):Option aG:=
 match args with
 |[.int .i64 x,.int .i64 y]=>some (.val (.int .i64 (au (HJ x y) y x)) s)
 |_=>none
noncomputable def Pg (P:Program) (ats:List TypeId) (args:List AV) (s:St):Option aG:=
 match ats with
 |t::_=>ab (dJ P t) fun _=>(match args with
  |[.an]=>some (.val (.int .i64 0) s)
  |[.slice _ _ n true _]=>some (.val (.int .i64 (Vw n)) s)
  |_=>none)
 |_=>none
noncomputable def nJ (_:Program) (_:List TypeId) (args:List AV) (s:St):Option aG:=
 match args with
 |[.an]=>some (.val .bX s)
 |[.slice b o (.succ _) _ _]=>some (.val (.ptr b o) s)
 |_=>none
noncomputable def strOf (e:TypeId) (b:Pos) (n:Nat) (s:St):aY→Option aG
 | .cells own t len c=>au (own&&Vo t e&&Vv n len) (ab (c.sub 0 n) fun cs=>omap (HF cs) fun l=>.val (.str l) (s.put b .dead)) none
 |_=>none
noncomputable def yp (P:Program) (ats:List TypeId) (args:List AV) (s:St):Option aG:=
 match ats with
 |[t,_]=>(match args with
  |[.bX,.int .i64 0]=>some (.val (.str []) s)
  |[.ptr b 0,.int .i64 (.ofNat (.succ n))]=>(match P.underlying t with
   |some (.pointer e)=>ab (bA P e) fun z=>au (rL P e&&Vo z 1&&Vv n 1000000) (ab (s.h.get b) (strOf e b (Vt n) s)) none
   |_=>none)
  |_=>none)
 |_=>none
noncomputable def Af:Builtin→Program→List TypeId→List AV→St→Option aG
 | .len=>CH
 | .append=>yn
 | .recover=>fun _ _ _ s=>some (.recover s)
 | .delete=>yo
 | .copy=>H2
 | .panic=>CI
 | .min=>H3
 | .max=>H4
 | .cap=>Pg
 | .unsafeSliceData=>nJ
 | .unsafeString=>yp
 |_=>fun _ _ _ _=>none
noncomputable def H5 (c:Nat) (l:List Nat):Nat:=@Vu Nat (fun _=>Nat) 0 (fun x _ ih=>au (Vo x c) (Vt ih) ih) l
noncomputable def F3 (c:Nat) (l:List Nat):Option Nat:=@Vu Nat (fun _=>Option Nat) none (fun x _ ih=>au (Vo x c) (some 0) (omap ih Vt)) l
noncomputable def L7 (o:Option Nat):Int:=@Vm Nat (fun _=>Int) (.negSucc 0) (fun n=>.ofNat n) o
noncomputable def pd (s:St):List AV→Option aG
 |[.str l,.int .u8 (.ofNat c)]=>au (Vv c 255) (some (.val (.int .i64 (.ofNat (H5 c l))) s)) none
 |_=>none
noncomputable def fJ (s:St):List AV→Option aG
 |[.str l,.int .u8 (.ofNat c)]=>au (Vv c 255) (some (.val (.int .i64 (L7 (F3 c l))) s)) none
 |_=>none
noncomputable def mS (s:St):List AV→Option aG
 |[x]=>some (.val x s)
 |_=>none
noncomputable def kD (P:Program) (fn:Func) (s:St):List AV→Option aG
 |[.int .i64 (.ofNat n)]=>(match fn.resultTypes.toList with
  |[t]=>ab (dJ P t) fun e=>ab (bA P e) fun z=>au (rL P e&&Vo z 1&&Vv n 1000000) (some (.val (.slice s.n 0 n false true) (s.push (.cells true e 0 (.o5 []))))) none
  |_=>none)
 |_=>none
noncomputable def kE (s:St):List AV→Option aG
 |[.int .u64 n]=>some (.val (.fb (.int .u64 n)) s)
 |[.tm (.int .u64) x]=>some (.val (.fb x) s)
 |_=>none
noncomputable def RQ (P:Program) (fn:Func) (args:List AV) (s:St):Option aG:=
 au (fn.origin== "") (au (fn.name== "internal/bytealg.CountString") (pd s args) (au (fn.name== "internal/bytealg.IndexByteString") (fJ s args) (au (fn.name== "internal/abi.NoEscape") (mS s args) (au (fn.name== "internal/bytealg.MakeNoZero") (kD P fn s args) (au (fn.name== "math.Float64frombits") (kE s args) none))))) none
noncomputable def EO (P:Program) (f:FuncId) (args:List AV) (s:St):Option aG:=
 ab (P.funcs[f]?) fun fn=>@Vm Code (fun _=>Option aG) (RQ P fn args s) (fun _=>some (.enter f args s)) fn.body
noncomputable def mT (P:Program) (t:TypeId) (ts:List Ty) (x:Tm):Option AV:=
 ab (Cz P t) fun g=>au g (ab (bA P t) fun n=>au (Vo n ts.length) (some (.agg (gD x ts 0))) none) (match ts with |ty::_=>some (fI ty (o7 x 0)) |[]=>none)
noncomputable def CJ (P:Program) (t:TypeId) (ts:List Ty) (i:Tm) (o:Nat):aY→Option AV
 | .vec _ _ us m x=>ab (bA P t) fun z=>au (bV ts us&&lN i&&gb i m&&Vv (Vy o z) ts.length&&Vv 1 z) (mT P t ((ts.drop o).take z) (.op (.off o z) [.op .zZ [x,i]])) none
 | .eE _ us _ _ j v=>ab (bA P t) fun z=>ab (Cz P t) fun g=>au (!g&&(bV ts us&&(qB i j&&(Vo (Vt o) ts.length&&Vo z 1)))) (some v) none
 |_=>none
noncomputable def sJ (P:Program) (t:TypeId) (s:St) (v:AV) (ts:List Ty) (b:Pos) (i:Tm) (o:Nat):aY→Option aG
 | .vec own t' us m x=>ab (bA P t) fun z=>au (own&&bV ts us&&lN i&&gb i m&&Vv (Vy o z) ts.length&&Vo v.cells.length z) (ab (jf ((ts.drop o).take z) v.cells) fun y=>some (.skip (s.put b (.vec own t' us m (.op (.dm o z) (x::i::y.1)))))) none
 | .eE t' us m x j _=>ab (bA P t) fun z=>au (bV ts us&&(qB i j&&(Vo (Vt o) ts.length&&(Vo z 1&&v.one)))) (ab (nI s v) fun q=>ab (jf (ts.drop o) [q.1]) fun y=>some (.skip (q.2.put b (.vec true t' us m (.op (.dm o z) (x::i::y.1)))))) none
 |_=>none
noncomputable def RS (P:Program) (t:TypeId) (s:St) (x:AV):Option aG:=
 match x with
 | .pe ts b i o=>ab (s.h.get b) fun k=>omap (CJ P t ts i o k) fun v=>.val v s
 | .tm (.ref ts) y=>omap (mT P t ts y) fun v=>.val v s
 | .ptr b o=>omap (s.load P t b o) fun v=>.val v s
 |_=>none
noncomputable def Ph (P:Program) (t:TypeId) (s:St) (v:AV) (x:AV):Option aG:=
 match x with
 | .pe ts b i o=>ab (s.h.get b) (sJ P t s v ts b i o)
 | .ptr b o=>ab (bA P t) fun n=>au (Vo v.cells.length n) (omap (s.store b o v.cells) .skip) none
 |_=>none
def F4 (s:St):AV→Option aG
 | .ptr b o=>some (.val (.ptr b o) s)
 | .func f b c=>some (.val (.func f b c) s)
 | .yield l=>some (.val (.yield l) s)
 | .tm (.ref ts) x=>some (.val (.tm (.ref ts) x) s)
 | .pe ts b i o=>some (.val (.pe ts b i o) s)
 |_=>none
noncomputable def RT (x y:Option AV) (s:St) (c:AV):Option aG:=ab (fH c) fun b=>omap (au b x y) fun v=>.val v s
noncomputable def lY (s:St):aG:=.val (.map s.n) (s.push (.map []))
def RU (P:Program) (k:TypeId):Option Ty:=
 match P.underlying k with
 |some (.int j)=>some (.int j)
 |some .string=>some .str
 |_=>none
def nu (P:Program) (t:TypeId):Option (Bool×Ty×List Ty):=
 match sB P t with
 |some q=>match RU P q.1 with
  |some k=>match lQ P 12 q.2 with
   |some l=>match Cz P q.2 with
    |some g=>cond (g||Vo l.length 1) (some (g,k,l)) none
    |none=>none
   |none=>none
  |none=>none
 |none=>none
noncomputable def qH (s:St) (o:Option (Bool×Ty×List Ty)):aG:=@Vm (Bool×Ty×List Ty) (fun _=>aG) (lY s) (fun q=>.val (.map s.n) (s.push (.bY q.1 q.2.1 q.2.2 (.op .nil [])))) o
noncomputable def H6 (P:Program) (t:TypeId) (s:St):Option (Option AV)→Option aG
 |none=>some (au Gam.z3 (qH s (nu P t)) (lY s))
 |_=>none
noncomputable def iH (P:Program) (t:TypeId) (l c:Nat) (s:St):Option aG:=
 ab (dJ P t) fun e=>ab (ju P e) fun by_=>ab (bA P e) fun sz=>ab (cV P e) fun z=>au (Vv l c&&Vv (VC c by_) 140737488355328&&Vv c 1000000&&cf z.cells&&Vo z.cells.length sz) (some (.val (.slice s.n 0 l (Vo l c) true) (s.row e (tB z.cells c)))) none
noncomputable def CK (P:Program) (t:TypeId) (f:Nat) (s:St) (x:AV):Option aG:=
 match x with
 | .ptr b o=>ab (jv P t f) fun f=>ab (bA P f.type) fun z=>au (Vo z 0) none (some (.val (.ptr b (Vy o f.offset)) s))
 | .pe ts b i o=>ab (jv P t f) fun f=>ab (bA P f.type) fun z=>au (Vo z 0) none (some (.val (.pe ts b i (Vy o f.offset)) s))
 | .tm (.ref ts) y=>ab (jv P t f) fun f=>ab (bA P f.type) fun z=>au (Vo z 0) none (au (Vv (Vy f.offset z) ts.length) (some (.val (.tm (.ref ((ts.drop f.offset).take z)) (.op (.off f.offset z) [y])) s)) none)
 |_=>none
noncomputable def Pj (P:Program) (t:TypeId) (f:Nat) (s:St) (x:AV):Option aG:=
 match x with
 | .agg cs=>ab (jv P t f) fun f=>omap (jd P f.type cs f.offset) fun v=>.val v s
 |_=>none
noncomputable def H7 (P:Program) (e:TypeId) (i:Nat) (s:St):AV→Option aG
 | .slice b o n _ _=>au (Vv (Vt i) n) (omap (bA P e) fun z=>.val (.ptr b (Vy o (VC i z))) s) none
 |_=>none
noncomputable def Pk (P:Program) (n:Nat) (e:TypeId) (i:Nat) (s:St):AV→Option aG
 | .ptr b o=>au (Vv (Vt i) n) (omap (bA P e) fun z=>.val (.ptr b (Vy o (VC i z))) s) none
 |_=>none
def H8 (i:Tm) (z:Nat):Tm:=
 match i with
 | .int k n=>.int k (n*z)
 |i=>bif Vo z 1 then i else .op (.kp .mul .i64) [i,.int .i64 z]
def H9 (k i:Tm):Tm:=
 match k with
 | .int .i64 (.ofNat 0)=>i
 |k=>.op (.kp .add .i64) [k,i]
noncomputable def yq (i:Tm):Bool:=@Vm Int (fun _=>Bool) (dD i fc) (fun n=> !HJ 100000000 n) (CA i)
noncomputable def mU (P:Program) (t:TypeId) (s:St) (v j:AV):Option aG:=
 match P.underlying t with
 |some (.slice e)=>ab (bA P e) fun z=>ab (HL j) fun i=>(match v with
  | .tm (.aF ts) x=>au (Vo z ts.length&&lN i&&gb i (.op .len [x])) (some (.val (.tm (.ref ts) (.op .zZ [x,i])) s)) none
  | .vl ts n b=>au (Vo z ts.length&&lN i&&gb i n) (some (.val (.pe ts b i 0) s)) none
  | .an=>Uj i none
  |_=>none)
 |some (.array n e)=>ab (bA P e) fun z=>ab (nH j) fun i=>(match v with
  | .pe ts b k o=>au (Vo ts.length 1&&Vo o 0&&Vv (VC n z) 100000000&&lN i&&gb i (.int .i64 (Vw n))&&yq k) (some (.val (.pe ts b (H9 k (H8 i z)) 0) s)) none
  |_=>none)
 |_=>none
noncomputable def fw (P:Program) (t:TypeId) (s:St) (v:AV):AV→Option aG
 | .int _ (.ofNat i)=>(match P.underlying t with
  |some (.slice e)=>H7 P e i s v
  |some (.array n e)=>Pk P n e i s v
  |_=>none)
 |_=>none
def Ia:AV→Bool
 | .tm _ _=>true
 | .vl _ _ _=>true
 | .pe .. =>true
 |_=>false
noncomputable def CL (P:Program) (t:TypeId) (s:St) (v j:AV):Option aG:=au (Ia v||gC j) (mU P t s v j) (fw P t s v j)
noncomputable def qI (P:Program) (t:TypeId) (s:St) (v j:AV):Option aG:=
 match P.underlying t with
 |some .string=>ab (NN v) fun x=>ab (HL j) fun i=>au (lN i&&gb i (.op .gB [x])) (some (.val (fI (.int .u8) (.op .ic [x,i])) s)) none
 |some (.array n _)=>(match j with | .tm (.int k) x=>Ui k x n none |_=>none)
 |_=>none
noncomputable def mV (P:Program) (t:TypeId) (s:St) (v:AV):AV→Option aG
 | .int _ (.ofNat i)=>(match P.underlying t with
  |some (.array n e)=>(match v with | .agg cs=>au (Vv (Vt i) n) (ab (bA P e) fun z=>omap (jd P e cs (VC i z)) fun v=>.val v s) none |_=>none)
  |some .string=>(match v with | .str l=>omap (l[i]?) fun c=>.val (.int .u8 (Vw c)) s |_=>none)
  |_=>none)
 |_=>none
noncomputable def yr (P:Program) (t:TypeId) (s:St) (v j:AV):Option aG:=au (gC v||gC j) (qI P t s v j) (mV P t s v j)
noncomputable def Pl (P:Program) (t:TypeId) (s:St) (v j:AV):Option aG:=yr P t s v (lS j)
noncomputable def okV (ok:Bool) (v:AV) (b:Bool):AV:=au ok (.tuple [v,.bool b]) v
noncomputable def L8 (P:Program) (ok:Bool) (e:TypeId) (s:St) (r:Option AV):Option aG:=
 @Vm AV (fun _=>Option aG) (omap (cV P e) fun v=>.val (okV ok v false) s) (fun v=>some (.val (okV ok v true) s)) r
noncomputable def tG (P:Program) (t:TypeId) (ok:Bool) (s:St) (m k:AV):Option aG:=
 ab (jK s m) fun es=>ab (sB P t) fun q=>au (gE P 8 q.1 k) (ab (NQ P q.1 k es) (L8 P ok q.2 s)) none
noncomputable def RV (x k:Tm):Option Bool:=fH (.tm .bool (.op .wt [x,k]))
noncomputable def Pm (g:Bool) (ts:List Ty) (y:Tm):AV:=au g (.agg (gD y ts 0)) (match ts with |ty::_=>fI ty (o7 y 0) |[]=>.bad)
noncomputable def ES (P:Program) (t:TypeId) (ok:Bool) (s:St) (k:AV):aY→Option aG
 | .bY g kt ts x=>ab (sB P t) fun q=>ab (L6 kt k) fun kk=>au (nG P q.1 (CF kt)) (ab (RV x kk) fun b=>au b (some (.val (okV ok (Pm g ts (.op .o4 [x,kk])) true) s)) (omap (cV P q.2) fun v=>.val (okV ok v false) s)) none
 |_=>none
def Ib:AV→Option Pos
 | .map r=>some r
 |_=>none
noncomputable def gU (s:St) (m:AV):Bool:=@Vm Pos (fun _=>Bool) false (fun r=>CG (s.h.get r)) (Ib m)
noncomputable def Ag (s:St) (m:AV) (f:Pos→aY→Option aG):Option aG:=ab (Ib m) fun r=>ab (s.h.get r) (f r)
noncomputable def L9 (P:Program) (t:TypeId) (ok:Bool) (s:St) (m k:AV):Option aG:=
 au (gU s m) (Ag s m fun _=>ES P t ok s k) (tG P t ok s m (lS k))
noncomputable def F5 (P:Program) (t:TypeId) (s:St) (k v:AV) (r:Pos):aY→Option aG
 | .bY g kt ts x=>ab (sB P t) fun q=>ab (L6 kt k) fun kk=>au (nG P q.1 (CF kt)&&(lT v==g)) (ab (jf ts v.cells) fun y=>(match y.2 with |[]=>some (.skip (s.put r (.bY g kt ts (.op .tg (x::kk::y.1))))) |_=>none)) none
 |_=>none
noncomputable def lZ (P:Program) (t:TypeId) (s:St) (k v:AV):AV→Option aG
 | .map r=>ab (sB P t) fun q=>au (gE P 8 q.1 k) (ab (jK s (.map r)) fun es=>omap (RP P q.1 k v es) fun es=>.skip (s.put r (.map es))) none
 |_=>none
noncomputable def CM (P:Program) (t:TypeId) (s:St) (k v m:AV):Option aG:=au (gU s m) (ab (HX s v) fun q=>Ag q.2 m (F5 P t q.2 k q.1)) (lZ P t s k v m)
noncomputable def Pn (P:Program) (t:TypeId) (s:St):AV→Option aG
 | .str l=>au (yd P t) (some (.val (.ptr s.n 0) (s.push (.fY l 0)))) none
 | .cd=>ab (sB P t) fun _=>some (.val (.ptr s.n 0) (s.push (.Cr none)))
 | .map r=>ab (sB P t) fun _=>ab (jK s (.map r)) fun _=>some (.val (.ptr s.n 0) (s.push (.Cr (some r))))
 |_=>none
noncomputable def CN (s:St) (b:Pos):aY→Option aG
 | .fY l p=>(match l.drop p with
  |[]=>some (.val (.tuple [.bool false]) s)
  |c::_=>au (Vv c 127) (some (.val (.tuple [.bool true,.int .i64 (Vw p),.int .i32 (Vw c)]) (s.put b (.fY l (Vt p))))) none)
 |_=>none
noncomputable def Ai (s:St):List (AV×AV)→Option aG
 |[]=>some (.val (.tuple [.bool false]) s)
 |_=>none
noncomputable def ET (s:St):aY→Option aG
 | .Cr none=>some (.val (.tuple [.bool false]) s)
 | .Cr (some r)=>ab (jK s (.map r)) (Ai s)
 |_=>none
noncomputable def RW (str:Bool) (s:St):AV→Option aG
 | .ptr b 0=>ab (s.h.get b) (au str (CN s b) (ET s))
 |_=>none
noncomputable def EU (P:Program) (t:TypeId) (ok:Bool) (s:St) (v:AV):Option aG:=
 au (o6 P t) none (match v with
  | .bu=>au ok (omap (cV P t) fun z=>.val (.tuple [z,.bool false]) s) none
  | .iface t' v=>au (Vo t' t) (some (.val (okV ok v true) s)) (au ok (omap (cV P t) fun z=>.val (.tuple [z,.bool false]) s) none)
  |_=>none)
noncomputable def Ic (i:Nat) (s:St):AV→Option aG
 | .tuple vs=>omap (nth vs i) fun v=>.val v s
 |_=>none
def Po (s:St):AV→Option aG
 | .iface t v=>some (.panic (.iface t v) s)
 |_=>none
noncomputable def Ie (P:Program) (args:List AV) (s:St):AV→Option aG
 | .func f first cap=>EO P f (first++(args++cap)) s
 | .yield l=>some (.round l args s)
 |_=>none
def CO (args:List AV) (s:St):AV→Option aG
 | .func f first cap=>some (.defer ⟨.fn f cap,first++args⟩ s)
 |_=>none
noncomputable def nv (P:Program) (a:aN) (x:Option Operand):Option (Option AV):=@Vm Operand (fun _=>Option (Option AV)) (some none) (fun x=>omap (a.eval P x) some) x
abbrev Dn:=Program→aN→St→Option aG
noncomputable def pf (x:Operand):Dn:=fun P a s=>omap (a.eval P x) fun v=>.val v s
noncomputable def Aj (c x y:Operand):Dn:=fun P a s=>ab (a.eval P c) (RT (a.eval P x) (a.eval P y) s)
def RX (P:Program):Nat→TypeId→Option (Ty×Nat)
 |0,_=>none
 |d+1,t=>match P.underlying t with
  |some .bool=>some (.bool,1)
  |some (.int k)=>some (.int k,1)
  |some .string=>some (.str,1)
  |some (.array n e)=>match RX P d e with
   |some q=>some (q.1,n*q.2)
   |none=>none
  |_=>none
noncomputable def rP (v:AV) (l:List AV):Bool:=@Vu AV (fun _=>Bool) true (fun u _ ih=>au (je v u) ih false) l
noncomputable def ma (t:TypeId) (s:St) (z:List AV) (q:Ty×Nat):Option aG:=
 match z with
 |[]=>none
 |v::l=>ab (lW q.1 v) fun c=>au (rP v l&&Vo (Vt l.length) q.2&&Vv q.2 100000000) (some (.val (.pe [q.1] s.n (.int .i64 0) 0) (s.push (.vec true t [q.1] (.int .i64 (Vw q.2)) (.op .rep [.int .i64 (Vw q.2),c]))))) none
def tH (P:Program) (t:TypeId):Option (Ty×Nat):=
 match P.underlying t with
 |some (.array _ _)=>match RX P 5 t with
  |some q=>cond (Vv 64 q.2) (some q) none
  |none=>none
 |_=>none
noncomputable def sK (t:TypeId):Dn:=fun P _ s=>ab (cV P t) fun z=>au (cf z.cells) (some (.val (.ptr s.n 0) (s.row t z.cells))) none
noncomputable def gV (t:TypeId):Dn:=fun P a s=>au Gam.z3 (@Vm (Ty×Nat) (fun _=>Option aG) (sK t P a s) (fun q=>ab (cV P t) fun z=>ma t s z.cells q) (tH P t)) (sK t P a s)
noncomputable def Ig (t:TypeId) (x:Operand):Dn:=fun P a s=>ab (a.eval P x) fun v=>au (cf v.cells) (some (.val (.ptr s.n 0) (s.row t v.cells))) none
noncomputable def tI (t:TypeId) (ps:Array (Nat×Operand)):Dn:=fun P a s=>ab (cS P a (ps.toList.map (·.2))) fun vs=>omap (O8 P t (ps.toList.map (·.1)) vs) fun v=>.val v s
noncomputable def gF (t:TypeId) (n:Nat) (ps:Array (Nat×Operand)):Dn:=fun P a s=>ab (cS P a (ps.toList.map (·.2))) fun vs=>lU P t n (ps.toList.map (·.1)) vs s
noncomputable def Ak (t:TypeId) (x:Operand):Dn:=fun P a s=>ab (a.eval P x) (RS P t s)
noncomputable def tJ (t:TypeId) (x y:Operand):Dn:=fun P a s=>ab (a.eval P y) fun v=>ab (a.eval P x) (Ph P t s v)
noncomputable def jL (x:Operand):Dn:=fun P a s=>ab (a.eval P x) (F4 s)
def cQ:Operand→Bool
 | .const _=>true
 |_=>false
noncomputable def Ih (op:BinOp) (t:TypeId) (x y:Operand):Dn:=fun P a s=>ab (a.eval P x) fun v=>ab (a.eval P y) fun u=>RN P (cQ x||cQ y) op t s v u
noncomputable def RY (op:UnOp) (x:Operand):Dn:=fun P a s=>ab (a.eval P x) fun v=>omap (unA op v) fun v=>.val v s
noncomputable def Al (src dst:TypeId) (x:Operand):Dn:=fun P a s=>ab (a.eval P x) fun v=>RO P src dst v s
noncomputable def tK (t:TypeId) (x:Operand):Dn:=fun P a s=>au (o6 P t) none (omap (a.eval P x) fun v=>.val (.iface t v) s)
noncomputable def NS (fn:Fn) (first cap:Array Operand):Dn:=fun P a s=>
 match fn with
 | .func f=>ab (cS P a first.toList) fun b=>omap (cS P a cap.toList) fun c=>.val (.func f b c) s
 |_=>none
noncomputable def Am (t:TypeId) (r:Option Operand):Dn:=fun P a s=>H6 P t s (r.map fun x=>a.eval P x)
noncomputable def ig (P:Program) (t:TypeId) (s:St) (n m:Tm):Option aG:=
 ab (dJ P t) fun e=>ab (ju P e) fun by_=>ab (bA P e) fun sz=>ab (cV P e) fun z=>ab (lQ P 12 e) fun ts=>ab (jf ts z.cells) fun y=>
  au (cp n m&&lN n&&dD n fc&&Vv (VC 100000000 by_) 140737488355328&&cf z.cells&&Vo z.cells.length sz&&Vo sz ts.length) (match y.2 with |[]=>some (.val (.vl ts n s.n) (s.push (.vec true e ts n (.op .rep (n::y.1))))) |_=>none) none
noncomputable def mb (P:Program) (t:TypeId) (s:St) (l c:AV):Option aG:=
 match l with
 | .tm (.int .i64) n=>ab (nH c) (ig P t s n)
 |l=>ab (qF l) fun l=>ab (qF c) fun c=>iH P t l c s
noncomputable def iI (t:TypeId) (l c:Operand):Dn:=fun P a s=>ab (a.eval P l) fun l=>ab (a.eval P c) fun c=>mb P t s l c
noncomputable def tN (t:TypeId) (x:Operand) (lo hi mx:Option Operand):Dn:=fun P a s=>ab (a.eval P x) fun v=>ab (nv P a lo) fun lo=>ab (nv P a hi) fun hi=>ab (nv P a mx) fun mx=>HW P t v lo hi mx s
noncomputable def iJ (t:TypeId) (x:Operand) (f:Nat):Dn:=fun P a s=>ab (a.eval P x) (CK P t f s)
noncomputable def tO (t:TypeId) (x:Operand) (f:Nat):Dn:=fun P a s=>ab (a.eval P x) (Pj P t f s)
noncomputable def iK (t:TypeId) (x i:Operand):Dn:=fun P a s=>ab (a.eval P x) fun v=>ab (a.eval P i) (CL P t s v)
noncomputable def tP (t:TypeId) (x i:Operand):Dn:=fun P a s=>ab (a.eval P x) fun v=>ab (a.eval P i) (Pl P t s v)
noncomputable def pg (t:TypeId) (x k:Operand) (ok:Bool):Dn:=fun P a s=>ab (a.eval P x) fun v=>ab (a.eval P k) fun k=>L9 P t ok s v k
noncomputable def dM (t:TypeId) (m k x:Operand):Dn:=fun P a s=>ab (a.eval P k) fun k=>ab (a.eval P x) fun v=>ab (a.eval P m) (CM P t s k v)
noncomputable def tQ (t:TypeId) (x:Operand):Dn:=fun P a s=>ab (a.eval P x) (Pn P t s)
noncomputable def An (x:Operand) (str:Bool):Dn:=fun P a s=>ab (a.eval P x) (RW str s)
noncomputable def ph (x:Operand) (t:TypeId) (ok:Bool):Dn:=fun P a s=>ab (a.eval P x) (EU P t ok s)
noncomputable def mc (x:Operand) (i:Nat):Dn:=fun P a s=>ab (a.eval P x) (Ic i s)
noncomputable def tR (x:Operand):Dn:=fun P a s=>ab (a.eval P x) (Po s)
noncomputable def Ma (ats:Array TypeId) (P:Program) (a:aN) (s:St) (args:List AV):Callee→Option aG
 | .builtin b=>Af b P ats.toList args s
 | .value f=>ab (a.eval P f) (Ie P args s)
 | .invoke _ _=>none
noncomputable def Ao (c:Call):Dn:=fun P a s=>ab (cS P a c.args.toList) fun args=>Ma c.argTypes P a s args c.callee
noncomputable def Pp (P:Program) (a:aN) (s:St) (args:List AV):Callee→Option aG
 | .value f=>ab (a.eval P f) (CO args s)
 |_=>none
noncomputable def qJ (c:Call):Dn:=fun P a s=>ab (cS P a c.args.toList) fun args=>Pp P a s args c.callee
noncomputable def gv:Op→Dn
 | .move x=>pf x
 | .assign x=>pf x
 | .pick c x y=>Aj c x y
 | .alloc t=>gV t
 | .box t x=>Ig t x
 | .build t ps=>tI t ps
 | .buildSlice t n ps=>gF t n ps
 | .load t x=>Ak t x
 | .store t x y=>tJ t x y
 | .nilCheck x=>jL x
 | .binOp op t x y _=>Ih op t x y
 | .unOp op _ x=>RY op x
 | .convert src dst x=>Al src dst x
 | .makeInterface t x=>tK t x
 | .makeFunc fn first cap=>NS fn first cap
 | .makeMap t r=>Am t r
 | .makeSlice t l c=>iI t l c
 | .slice t x lo hi mx=>tN t x lo hi mx
 | .fieldAddr t x f=>iJ t x f
 | .field t x f=>tO t x f
 | .indexAddr t x i=>iK t x i
 | .index t x i=>tP t x i
 | .lookup t x k ok=>pg t x k ok
 | .mapUpdate t m k x=>dM t m k x
 | .insert t m k x=>dM t m k x
 | .range t x=>tQ t x
 | .next x str=>An x str
 | .typeAssert x _ t ok=>ph x t ok
 | .extract x i=>mc x i
 | .panic x=>tR x
 | .call c=>Ao c
 | .defer c=>qJ c
 |_=>fun _ _ _=>none
def sL:cE→cE
 | .panicking ((_,true)::_)=>.returning
 |m=>m
def sM (m:cE) (c:ed):cE:=match m with | .panicking iG=>.panicking (c++iG) | .returning=>.panicking c
noncomputable def pj (want:Bool):AV→Option Bool
 | .tuple []=>some false
 |v=>omap (fH v) fun b=>b==want
noncomputable def Mc (ops:List Oper) (a:aN) (g:Nat×Bool):Option Bool:=ab (ops[g.1]?) fun p=>ab p.dst fun d=>pj g.2 (a.tmp d)
noncomputable def eG (ops:List Oper) (a:aN) (g:Option (Nat×Bool)):Option Bool:=@Vm (Nat×Bool) (fun _=>Option Bool) (some true) (fun g=>Mc ops a g) g
noncomputable def yt (ps:List Tmp):List AV→Tr AV→Tr AV:=
 @Vu Tmp (fun _=>List AV→Tr AV→Tr AV) (fun _ t=>t) (fun p _ ih vs t=>@Vu AV (fun _=>Tr AV) t (fun v vs _=>ih vs (t.set (pos p) v)) vs) ps
noncomputable def EV (P:Program) (t:TypeId) (s:St):AV→Option AV
 | .ptr b o=>s.load P t b o
 |_=>none
noncomputable def CP (P:Program) (a:aN) (s:St):ResultVar→Option AV
 | .tmp t=>some (a.tmp t)
 | .cell x t=>EV P t s (a.tmp x)
noncomputable def Md (P:Program) (a:aN) (s:St):List ResultVar→Option (List AV)
 |[]=>some []
 |r::rs=>ab (CP P a s r) fun v=>omap (Md P a s rs) (v:: ·)
def Up:List AV→AV
 |[v]=>v
 |vs=>.tuple vs
noncomputable def tU (P:Program) (fn:Func) (a:aN) (s:St):Option AV:=omap (Md P a s fn.results.toList) Up
inductive Uq where
 |returned (v:AV)
 |panicked (c:ed)
inductive Ur where
 |loop (rd:Option Pos) (c:Code) (f:FuncId) (p:Pos)
 |call (f:FuncId) (args:List AV) (rc:Option cE)
 |leave (fn:Func) (m:cE)
 |round (l:Pos) (args:List AV)
inductive Out where
 |at (e:g9) (a:aN) (s:St)
 |fin (e:Uq) (rc:Option cE) (s:St)
abbrev Rec:=Ur→aN→St→Option Out
abbrev Hk:=FuncId→Pos→Option Pos→aN→St→Option Out
abbrev Sm:=Option Pos→Rec→aN→St→Option Out
abbrev Kt:=aN→St→Option Out
noncomputable def Ap (k:Kt) (o:Out):Option Out:=
 @Out.rec (fun _=>Option Out) (fun e a s=>@g9.rec (fun _=>Option Out) (k a s) (fun id=>some (.at (.exit id) a s)) (some (.at .ret a s)) (fun c=>some (.at (.panic c) a s)) e) (fun _ _ _=>none) o
noncomputable def Aq (id:Nat) (o:Out):Option Out:=
 @Out.rec (fun _=>Option Out) (fun e a s=>@g9.rec (fun _=>Option Out) (some (.at .normal a s)) (fun id'=>au (Vo id' id) (some (.at .normal a s)) (some (.at (.exit id') a s))) (some (.at .ret a s)) (fun c=>some (.at (.panic c) a s)) e) (fun _ _ _=>none) o
noncomputable def RZ (x y:Sm):Sm:=fun rd r a s=>ab (x rd r a s) (Ap (y rd r))
noncomputable def NT (x y:Option Out) (v:AV):Option Out:=ab (fH v) fun b=>au b x y
noncomputable def NU (P:Program) (c:Operand) (x y:Sm):Sm:=fun rd r a s=>ab (a.eval P c) (NT (x rd r a s) (y rd r a s))
noncomputable def Ii (id:Nat) (c:Sm):Sm:=fun rd r a s=>ab (c rd r a s) (Aq id)
def Ij (a:aN) (s:St):Option Code→Option Out
 |none=>some (.at .normal a s)
 |some .ret=>some (.at .ret a s)
 |some (.exit id)=>some (.at (.exit id) a s)
 |_=>none
def eY.with (l:eY) (st:LoopState) (p:Option Code):eY:={l with state:=st,pending:=p}
def eY.busy (l:eY):Bool:=
 match l.state with
 | .busy=>true
 |_=>false
def eY.ready (l:eY):Bool:=
 match l.state with
 | .ready=>true
 |_=>false
def Ik:aY→Option eY
 | .loop l=>some l
 |_=>none
noncomputable def St.loop (s:St) (l:Pos):Option eY:=ab (s.h.get l) Ik
noncomputable def wT (l:Pos) (a:aN) (o:Out):Option Out:=
 match o with
 | .fin (.returned _) _ s=>ab (s.loop l) fun lp=>au lp.busy none (Ij a (s.put l (.loop (lp.with .exhausted lp.pending))) lp.pending)
 | .fin (.panicked c) _ s=>some (.at (.panic c) a s)
 |_=>none
noncomputable def tW (s:St) (rd:Option Pos):Option (Pos×List kz×St):=
 @Vm Pos (fun _=>Option (Pos×List kz×St)) (some (s.n,[⟨.collected s.n,[]⟩],s.push (.deferred true))) (fun l=>omap (s.loop l) fun r=>(r.defers,[],s)) rd
noncomputable def EW (h:FuncId) (p:Pos) (first cap:List AV) (f:FuncId) (ps:Array Tmp) (r:Rec) (a:aN) (q:Pos×List kz×St):Option Out:=
 ab (r (.call f (first++(.yield q.2.2.n::cap)) none) a (q.2.2.push (.loop {state:=.ready,pending:=none,tm:=a.tm,n:=a.n,params:=ps.toList,defers:=q.1,f:=h,p:=p})))
  (wT q.2.2.n (a.bK (q.2.1++a.defers)))
noncomputable def Il (h:FuncId) (p:Pos) (ps:Array Tmp) (rd:Option Pos) (r:Rec) (a:aN) (s:St):AV→Option Out
 | .func f first cap=>ab (tW s rd) (EW h p first cap f ps r a)
 |_=>none
noncomputable def Im (P:Program) (h:FuncId) (p:Pos) (f:Operand) (ps:Array Tmp):Sm:=fun rd r a s=>ab (a.eval P f) (Il h p ps rd r a s)
noncomputable def qK (d:Option Tmp) (v:AV) (k:Kt):Kt:=fun a s=>ab (a.put d v) fun a=>k a s
noncomputable def yu (d:Option Tmp) (k:Kt) (a:aN):Out→Option Out
 | .fin (.returned v) _ s=>qK d v k a s
 | .fin (.panicked c) _ s=>some (.at (.panic c) a s)
 |_=>none
noncomputable def Ar (d:Option Tmp) (k:Kt) (a:aN) (s:St):Option cE→Option Out
 |some (.panicking ((v,false)::iG))=>qK d v k (a.rK (some (.panicking ((v,true)::iG)))) s
 |_=>qK d .bu k a s
noncomputable def yx (rd:Option Pos) (r:Rec) (d:Option Tmp) (k:Kt) (a:aN) (x:aG):Option Out:=
 @aG.rec (fun _=>Option Out) (fun v s=>qK d v k a s) (fun s=>qK d .undef k a s) (fun f args s=>ab (r (.call f args none) a s) (yu d k a))
  (fun l args s=>ab (r (.round l args) a s) (yu d k a)) (fun df s=>@Vm Pos (fun _=>Option Out) (qK d .undef k (a.bK (df::a.defers)) s) (fun _=>none) rd)
  (fun s=>@Vm Pos (fun _=>Option Out) (Ar d k a s a.rc) (fun _=>none) rd) (fun v s=>some (.at (.panic [(v,false)]) a s)) x
noncomputable def Vc (P:Program) (rd:Option Pos) (r:Rec) (o:Oper) (k:Kt) (a:aN) (s:St) (w:Bool):Option Out:=
 au w (ab (gv o.op P a s) (yx rd r o.dst k a)) (qK o.dst .undef k a s)
noncomputable def Io (P:Program) (all l:List Oper) (rd:Option Pos) (r:Rec):Kt:=
 @Vu Oper (fun _=>Kt) (fun a s=>some (.at .normal a s)) (fun o _ ih a s=>ab (eG all a o.guard) (Vc P rd r o ih a s)) l
noncomputable def F6 (r:AV→AV→Bool) (xs:List AV):List AV→Bool:=
 @Vu AV (fun _=>List AV→Bool) (fun ys=>@Vu AV (fun _=>Bool) true (fun _ _ _=>false) ys)
  (fun x _ ih ys=>@Vu AV (fun _=>Bool) false (fun y ys _=>au (r x y) (ih ys) false) ys) xs
noncomputable def Ip (r:AV→AV→Bool) (x y:AV):Bool:=
 match x with
 | .bool a=>(match y with | .bool b=>a==b |_=>false)
 | .int j a=>(match y with | .int k b=>th j k&&F0 a b |_=>false)
 | .float j a=>(match y with | .float k b=>decide (j=k)&&Vo a b |_=>false)
 | .str a=>(match y with | .str b=>wM a b |_=>false)
 | .ptr b o=>(match y with | .ptr c p=>lG b c&&Vo o p |_=>false)
 | .bX=>(match y with | .bX=>true |_=>false)
 | .slice b o n l w=>(match y with | .slice b' o' n' l' w'=>lG b b'&&Vo o o'&&Vo n n'&&l==l'&&w==w' |_=>false)
 | .an=>(match y with | .an=>true |_=>false)
 | .map b=>(match y with | .map c=>lG b c |_=>false)
 | .cd=>(match y with | .cd=>true |_=>false)
 | .func f a c=>(match y with | .func g a' c'=>Vo f g&&F6 r a a'&&F6 r c c' |_=>false)
 | .yield b=>(match y with | .yield c=>lG b c |_=>false)
 | .bN=>(match y with | .bN=>true |_=>false)
 | .iface t v=>(match y with | .iface u w=>Vo t u&&r v w |_=>false)
 | .bu=>(match y with | .bu=>true |_=>false)
 | .agg a=>(match y with | .agg b=>F6 r a b |_=>false)
 | .tuple a=>(match y with | .tuple b=>F6 r a b |_=>false)
 | .tm t x=>(match y with | .tm u z=>lM t u&&cp x z |_=>false)
 | .vl t x b=>(match y with | .vl u z c=>bV t u&&cp x z&&lG b c |_=>false)
 | .e0 z=>(match y with | .e0 z'=>z==z' |_=>false)
 | .pe t b x o=>(match y with | .pe u c z p=>bV t u&&lG b c&&cp x z&&Vo o p |_=>false)
 | .fb x=>(match y with | .fb z=>cp x z |_=>false)
 | .bad=>false
noncomputable def sD (n:Nat):AV→AV→Bool:=@Vn (fun _=>AV→AV→Bool) (fun _ _=>false) (fun _ ih x y=>Ip ih x y) n
def bJ (P:Program):Op→Nat
 | .move _ | .assign _ | .pick .. | .build .. | .nilCheck _ | .binOp .. | .unOp .. | .makeInterface .. | .makeFunc .. | .slice .. | .fieldAddr .. | .field .. | .indexAddr .. | .index .. | .typeAssert .. | .extract .. =>4
 | .load .. | .lookup .. =>0
 | .alloc _ | .box .. | .buildSlice .. | .makeMap .. | .makeSlice .. =>1
 | .store .. | .mapUpdate .. | .insert .. | .next .. | .range .. =>2
 | .convert _ dst _=>match P.underlying dst with
  |some (.slice _)=>3
  |some .unsafePointer=>3
  |some (.pointer _)=>3
  |none=>3
  |_=>0
 | .call c=>match c.callee with
  | .builtin .len=>0
  | .builtin .min=>4
  | .builtin .max=>4
  |_=>2
 |_=>3
def lI:List Operand→List Tmp
 |[]=>[]
 | .tmp t::l=>t::lI l
 |_::l=>lI l
def cW (done:List Nat) (i:Nat):List Edge→Nat
 |[]=>0
 |e::es=>cond (VD .any e&&VE e.on i) (Nat.lor (Nat.lor (Nat.shiftLeft 1 e.on) (done.getD (i - 1 - e.on) 0)) (cW done i es)) (cW done i es)
def pk:List Oper→List Nat→Nat→List Nat
 |[],done,_=>done.reverse
 |o::l,done,i=>pk l (cW done i o.after.toList::done) (i+1)
def ahead (ops:List Oper):List Nat:=pk ops [] 0
def bit (b:List Nat) (i j:Nat):Bool:=Nat.testBit (b.getD i 0) j
def tX (b:List Nat) (i:Nat) (t:Tmp):List Oper→Nat→Bool
 |[],_=>true
 |o::l,j=>cond (match o.dst with |some d=>Vo d t |none=>false) (bit b i j||bit b j i) true&&tX b i t l (j+1)
def sN (d:Tmp):List Oper→Bool
 |[]=>true
 |o::l=>(match o.dst with |some e=> !Vo d e |none=>true)&&sN d l
def yz:List Oper→Bool
 |[]=>true
 |o::l=>(match o.dst with |some d=>sN d l |none=>true)&&yz l
def pn (P:Program) (b:List Nat) (j:Nat):List Oper→Nat→Bool
 |[],_=>true
 |o::l,i=>cond (VE i j&&Vo (bJ P o.op) 2) (bit b j i) true&&pn P b j l (i+1)
def EX (P:Program) (b:List Nat) (all:List Oper):List Oper→Nat→Bool
 |[],_=>true
 |o::l,i=>((lI o.op.operands.toList).all fun t=>tX b i t all 0)&&(match o.guard with |some g=>bit b i g.1 |none=>true)&& !Vo (bJ P o.op) 3&&(o.after.toList.all fun e=> !VD .text e||VE e.on i)&&
  cond (Vo (bJ P o.op) 2) (pn P b i all 0) true&&EX P b all l (i+1)
def wU (i:Nat):List Nat→Nat
 |[]=>0
 |j::l=>cond (Vo i j) 0 (wU i l+1)
def Me (n:Nat) (R:List Nat):List Oper→Nat→Bool
 |[],_=>true
 |o::l,i=>(o.after.toList.all fun e=> !VD .gc e||(VE e.on n&&VE (wU e.on R) (wU i R)))&&Me n R l (i+1)
def me (ops:List Oper):Bool:=ops.any fun o=>o.after.toList.any fun e=> !VD .any e
def yA (P:Program) (ops:List Oper):Bool:=yz ops&&EX P (ahead ops) ops ops 0&&cond (me ops) (Me ops.length (Region.linearise .gc ops.toArray 0) ops 0) true
structure gw where
 i:Nat
 o:Oper
 a:aN
 s:St
 w:Bool
 v:AV
inductive R0 where
 |done (a:aN) (s:St)
 |Pq (o:Oper) (a:aN) (s:St) (c:ed) (s1:St)
abbrev Tq:=List gw×R0
noncomputable def wq (p:Pos):Nat:=@Pos.rec (fun _=>Nat) 0 (fun _ ih=>Vt (VC 2 ih)) (fun _ ih=>Vt (Vt (VC 2 ih))) p
noncomputable def kF (o:Oper) (k:Nat→aN→St→Option Tq) (i:Nat) (a:aN) (s:St) (w:Bool) (v:AV) (s':St):Option Tq:=
 au (Vv (wq s.n) (wq s'.n)) (ab (a.put o.dst v) fun a'=>omap (k (Vt i) a' s') fun q=>(⟨i,o,a,s,w,v⟩::q.1,q.2)) none
noncomputable def po (o:Oper) (k:Nat→aN→St→Option Tq) (i:Nat) (a:aN) (s:St):Out→Option Tq
 | .fin (.returned v) _ s'=>kF o k i a s true v s'
 | .fin (.panicked c) _ s'=>some ([],.Pq o a s c s')
 |_=>none
noncomputable def EY (r:Rec) (o:Oper) (k:Nat→aN→St→Option Tq) (i:Nat) (a:aN) (s:St):aG→Option Tq
 | .val v s'=>kF o k i a s true v s'
 | .skip s'=>kF o k i a s true .undef s'
 | .enter f args s'=>ab (r (.call f args none) a s') (po o k i a s)
 | .round l args s'=>ab (r (.round l args) a s') (po o k i a s)
 |_=>none
noncomputable def Iq (P:Program) (r:Rec) (o:Oper) (k:Nat→aN→St→Option Tq) (i:Nat) (a:aN) (s:St) (w:Bool):Option Tq:=
 au w (ab (gv o.op P a s) (EY r o k i a s)) (kF o k i a s false .undef s)
noncomputable def jg (P:Program) (all:List Oper) (r:Rec) (l:List Oper):Nat→aN→St→Option Tq:=
 @Vu Oper (fun _=>Nat→aN→St→Option Tq) (fun _ a s=>some ([],.done a s)) (fun o _ ih i a s=>ab (eG all a o.guard) (Iq P r o ih i a s)) l
noncomputable def mf (P:Program) (n:Nat) (s:St) (l:List gw):List (Nat×Tr aY):=
 @Vu gw (fun _=>List (Nat×Tr aY)) [(n,s.h)] (fun t _ ih=>@gw.rec (fun _=>List (Nat×Tr aY)) (fun i o _ s _ _=>au (Vo (bJ P o.op) 2) ((i,s.h)::ih) ih) t) l
noncomputable def qL (P:Program) (l:List Oper):Nat→List (Nat×Nat):=@Vu Oper (fun _=>Nat→List (Nat×Nat)) (fun _=>[]) (fun o _ ih i=>(i,bJ P o.op)::ih (Vt i)) l
noncomputable def ia (b:List Nat) (i h:Nat) (l:List (Nat×Nat)):Bool:=
 @Vu (Nat×Nat) (fun _=>Bool) true (fun x _ ih=>au (Vo x.2 2) (au (au (bit b i x.1) (VE x.1 h) true) (au (au (bit b x.1 i) (Vv h x.1) true) ih false) false) ih) l
noncomputable def jx (b:List Nat) (i h:Nat) (l:List (Nat×Nat)):Bool:=
 @Vu (Nat×Nat) (fun _=>Bool) true (fun x _ ih=>au (Vo x.2 1) (au (au (bit b i x.1) (VE x.1 h) true) ih false) ih) l
noncomputable def calm (i h:Nat) (l:List (Nat×Nat)):Bool:=
 @Vu (Nat×Nat) (fun _=>Bool) true (fun x _ ih=>au (Vo x.2 2) (au (au (VE i x.1) (Vv h x.1) true) ih false) ih) l
noncomputable def yB (v:AV):aG→Bool
 | .val u _=>sD 12 u v
 |_=>false
noncomputable def jM (P:Program) (o:Oper) (a:aN) (s:St) (v:AV) (h:Tr aY):Bool:=@Vm aG (fun _=>Bool) false (fun x=>yB v x) (gv o.op P a ⟨h,s.n⟩)
noncomputable def gG (P:Program) (b:List Nat) (cl:List (Nat×Nat)) (i:Nat) (o:Oper) (a:aN) (s:St) (v:AV) (hs:List (Nat×Tr aY)):Bool:=
 @Vu (Nat×Tr aY) (fun _=>Bool) true (fun h _ ih=>@Prod.rec Nat (Tr aY) (fun _=>Bool) (fun j k=>au (ia b i j cl) (au (jx b i j cl) (au (jM P o a s v k) ih false) false) ih) h) hs
noncomputable def Ir (x y:aY):Bool:=
 match x with
 | .cells true t n (.o5 l)=>(match y with | .cells true u m (.o5 k)=>Vo t u&&Vo n m&&F6 (sD 12) l k |_=>false)
 | .map []=>(match y with | .map []=>true |_=>false)
 | .vec o t ts n x=>(match y with | .vec o' u us m z=>(o==o')&&Vo t u&&bV ts us&&cp n m&&cp x z |_=>false)
 | .bY g kt ts x=>(match y with | .bY g' ku us z=>(g==g')&&lM kt ku&&bV ts us&&cp x z |_=>false)
 |_=>false
noncomputable def F7 (x y:Option aY):Bool:=@Vm aY (fun _=>Bool) false (fun x=>@Vm aY (fun _=>Bool) false (fun y=>Ir x y) y) x
def R1:aG→Option St
 | .val _ s=>some s
 |_=>none
noncomputable def iL (b:List Nat) (cl:List (Nat×Nat)) (i:Nat) (n:Pos) (s:St) (hs:List (Nat×Tr aY)):Bool:=
 @Vu (Nat×Tr aY) (fun _=>Bool) true (fun h _ ih=>@Prod.rec Nat (Tr aY) (fun _=>Bool) (fun j k=>au (VE i j) (au (ia b i j cl) (au (au (calm i j cl) true (F7 (s.h.get n) (k.get n))) ih false) ih) ih) h) hs
noncomputable def nK (P:Program) (b:List Nat) (cl:List (Nat×Nat)) (i:Nat) (o:Oper) (a:aN) (s:St) (hs:List (Nat×Tr aY)):Bool:=
 @Vm St (fun _=>Bool) false (fun s'=>iL b cl i s.n s' hs) (ab (gv o.op P a s) R1)
noncomputable def cR (P:Program) (b:List Nat) (cl:List (Nat×Nat)) (hs:List (Nat×Tr aY)) (l:List gw):Bool:=
 @Vu gw (fun _=>Bool) true (fun t _ ih=>@gw.rec (fun _=>Bool) (fun i o a s w v=>
  au w (au (Vo (bJ P o.op) 0) (au (gG P b cl i o a s v hs) ih false) (au (Vo (bJ P o.op) 1) (au (nK P b cl i o a s hs) ih false) ih)) ih) t) l
noncomputable def qM (o:Oper) (k:Nat→aN→St→Option (List gw)) (i:Nat) (a:aN) (s:St) (w:Bool) (v:AV) (s':St):Option (List gw):=
 au (Vv (wq s.n) (wq s'.n)) (ab (a.put o.dst v) fun a'=>omap (k (Vt i) a' s') fun q=>⟨i,o,a,s,w,v⟩::q) none
noncomputable def It (o:Oper) (k:Nat→aN→St→Option (List gw)) (i:Nat) (a:aN) (s:St):aG→Option (List gw)
 | .val v s'=>qM o k i a s true v s'
 |_=>none
noncomputable def Iu (P:Program) (o:Oper) (k:Nat→aN→St→Option (List gw)) (i:Nat) (a:aN) (s:St) (w:Bool):Option (List gw):=
 au w (ab (gv o.op P a s) (It o k i a s)) (qM o k i a s false .undef s)
noncomputable def nL (P:Program) (all:List Oper) (b:List Nat) (n:Nat) (l:List Oper):Nat→aN→St→Option (List gw):=
 @Vu Oper (fun _=>Nat→aN→St→Option (List gw)) (fun _ _ _=>some [])
  (fun o _ ih i a s=>au (Vo i n||bit b i n) (qM o ih i a s false .undef s) (ab (eG all a o.guard) (Iu P o ih i a s))) l
noncomputable def F8 (l:List Oper):Tr AV→Tr AV:=@Vu Oper (fun _=>Tr AV→Tr AV) (fun t=>t) (fun o _ ih t=>ih (@Vm Tmp (fun _=>Tr AV) t (fun d=>t.set (pos d) .bad) o.dst)) l
noncomputable def As (l:List Oper) (a:aN):aN:=@aN.rec (fun _=>aN) (fun tm n df rc=>.mk (F8 l tm) n df rc) a
noncomputable def EZ (P:Program) (ops:List Oper) (ts:List gw) (n:Nat) (a:aN) (s:St) (c:ed) (s1:St):Option Out:=
 ab (nL P ops (ahead ops) n (ops.drop n) n a s) fun us=>au (cR P (ahead ops) (qL P ops 0) (mf P n s ts) (ts++us)) (some (.at (.panic c) (As ops a) s1)) none
noncomputable def mW (P:Program) (ops:List Oper) (q:Tq):Option Out:=
 match q.2 with
 | .done a s=>au (cR P (ahead ops) (qL P ops 0) (mf P ops.length s q.1) q.1) (some (.at .normal a s)) none
 | .Pq _ a s c s1=>EZ P ops q.1 q.1.length a s c s1
noncomputable def R2 (P:Program) (ops:Array Oper):Sm:=fun _ r a s=>au (yA P ops.toList) (ab (jg P ops.toList r ops.toList 0 a s) (mW P ops.toList)) none
noncomputable def pq (P:Program) (ops:Array Oper) (draw:Bool):Sm:=au draw (R2 P ops) (fun rd r a s=>Io P ops.toList ops.toList rd r a s)
def Iv:Code→Option Code
 | .seq a _=>some a
 | .cond _ a _=>some a
 | .block _ a=>some a
 | .loop a=>some a
 | .scope a=>some a
 | .rangeFunc _ _ a _=>some a
 |_=>none
def CQ:Code→Option Code
 | .seq _ b=>some b
 | .cond _ _ b=>some b
 | .rangeFunc _ _ _ b=>some b
 |_=>none
def Iw (c:Code):Pos→Option Code
 | .one=>some c
 | .o p=>(Iw c p).bind Iv
 | .i p=>(Iw c p).bind CQ
def cF (P:Program) (f:FuncId) (p:Pos):Option Code:=(P.funcs[f]?).bind fun fn=>fn.body.bind fun c=>Iw c p
noncomputable def rQ (els o:Option Out):Option Out:=@Vm Out (fun _=>Option Out) els (fun x=>some x) o
noncomputable def jN (P:Program) (hk:Hk) (f:FuncId) (c:Code):Pos→Sm:=
 @Code.rec (fun _=>Pos→Sm) (fun _ _ _ a s=>some (.at .normal a s)) (fun _ ops draw _=>pq P ops draw) (fun _ _ x y p=>RZ (x (.o p)) (y (.i p))) (fun c _ _ x y p=>NU P c (x (.o p)) (y (.i p)))
  (fun id _ c p=>Ii id (c (.o p))) (fun c _ p rd r a s=>rQ (r (.loop rd c f p) a s) (hk f p rd a s)) (fun g ps _ _ _ _ p=>Im P f p g ps) (fun id _ _ _ a s=>some (.at (.exit id) a s))
  (fun _ c p=>c (.o p)) (fun _ _ _ _ a s=>some (.at .normal a s)) (fun _ _ _ _ _ _=>none) (fun _ _ _ a s=>some (.at .ret a s)) (fun _ _ _ _ _ _=>none) c
noncomputable def Ix (fn:Func) (r:Rec) (o:Out):Option Out:=
 @Out.rec (fun _=>Option Out) (fun e a s=>@g9.rec (fun _=>Option Out) (r (.leave fn .returning) a s) (fun _=>none) (r (.leave fn .returning) a s) (fun ch=>r (.leave fn (.panicking ch)) a s) e) (fun _ _ _=>none) o
noncomputable def Pr (P:Program) (hk:Hk) (f:FuncId) (r:Rec) (args:List AV) (rc:Option cE) (s:St) (fn:Func):Option Out:=
 ab fn.body fun c=>ab (jN P hk f c .one none r (.mk (iF args .nil 0) (Nat.max fn.ntmps args.length) [] rc) s) (Ix fn r)
noncomputable def Iy (P:Program) (hk:Hk) (f:FuncId) (args:List AV) (rc:Option cE) (r:Rec) (s:St):Option Out:=ab (P.funcs[f]?) (Pr P hk f r args rc s)
noncomputable def Au (P:Program) (fn:Func) (a:aN) (s:St):cE→Option Out
 | .returning=>omap (tU P fn a s) fun v=>.fin (.returned v) a.rc s
 | .panicking c=>some (.fin (.panicked c) a.rc s)
noncomputable def E0 (fn:Func) (m:cE) (b:Pos) (r:Rec) (a:aN) (s:St):aY→Option Out
 | .deferred true=>r (.leave fn m) a (s.put b (.deferred false))
 |_=>none
def E1 (fn:Func) (r:Rec) (a:aN):Out→Option Out
 | .fin (.returned _) (some m) s=>r (.leave fn (sL m)) a s
 | .fin (.panicked c) (some m) s=>r (.leave fn (sM m c)) a s
 |_=>none
noncomputable def Av (fn:Func) (m:cE) (r:Rec) (a:aN) (args:List AV) (s:St):EB→Option Out
 | .collected b=>ab (s.h.get b) (E0 fn m b r a s)
 | .fn f cap=>ab (r (.call f (args++cap) (some m)) a s) (E1 fn r a)
noncomputable def yC (P:Program) (fn:Func) (m:cE) (r:Rec) (a:aN) (s:St):Option Out:=
 @Vu kz (fun _=>Option Out) (Au P fn a s m) (fun d ds _=>Av fn m r (a.bK ds) d.args s d.target) a.defers
noncomputable def gd (l:Pos) (j:Option Code) (s:St):Option Out:=
 omap (s.loop l) fun lp=>.fin (.returned (.bool j.isNone)) none (s.put l (.loop (lp.with (match j with |none=>.ready |some _=>.done) j)))
noncomputable def Aw (l:Pos) (o:Out):Option Out:=
 @Out.rec (fun _=>Option Out) (fun e a s=>@g9.rec (fun _=>Option Out) (gd l none s) (fun id=>gd l (some (.exit id)) s) (gd l (some .ret) s) (fun c=>@Vu kz (fun _=>Option Out) (some (.fin (.panicked c) none s)) (fun _ _ _=>none) a.defers) e) (fun _ _ _=>none) o
noncomputable def rR (P:Program) (hk:Hk) (l:Pos) (f:FuncId) (p:Pos) (body:Code) (r:Rec):Kt:=fun a s=>
 ab (s.loop l) fun lp=>au lp.ready (ab (jN P hk f body (.i p) (some l) r a (s.put l (.loop (lp.with .busy lp.pending)))) (Aw l)) none
noncomputable def tY (k:Kt) (o:Out):Option Out:=
 @Out.rec (fun _=>Option Out) (fun e a s=>@g9.rec (fun _=>Option Out) (k a s) (fun _=>none) none (fun _=>none) e) (fun _ _ _=>none) o
noncomputable def wV (n:Nat) (l:List Tmp):Bool:=@Vu Tmp (fun _=>Bool) true (fun t _ ih=>au (Vv (Vt t) n) ih false) l
noncomputable def Mf (P:Program) (hk:Hk) (l:Pos) (args:List AV) (r:Rec) (s:St) (lp:eY):Option Out:=
 au (Vo args.length lp.params.length&&wV lp.n lp.params) (ab (cF P lp.f (.o lp.p)) fun assign=>ab (cF P lp.f (.i lp.p)) fun body=>ab (jN P hk lp.f assign (.o lp.p) (some l) r (.mk (yt lp.params args lp.tm) lp.n [] none) s) (tY (rR P hk l lp.f lp.p body r))) none
noncomputable def CS (P:Program) (hk:Hk) (l:Pos) (args:List AV) (r:Rec) (s:St):Option Out:=ab (s.loop l) (Mf P hk l args r s)
inductive yD where
 |val (v:AV)
 |row (t:TypeId) (o n:Nat) (fV wh:Bool) (l:List yD)
 |ptr (t:TypeId) (l:List yD)
 |agg (l:List yD)
 |jO (l:List yD)
mutual
noncomputable def tZ:yD→Nat→AV×List aY
 | .val v,_=>(v,[])
 | .row t o n fV wh l,k=>(.slice (pos (k+(eb l k).2.length)) o n fV wh,(eb l k).2++[.cells true t (eb l k).1.length (.of (eb l k).1)])
 | .ptr t l,k=>(.ptr (pos (k+(eb l k).2.length)) 0,(eb l k).2++[.cells true t (eb l k).1.length (.of (eb l k).1)])
 | .agg l,k=>(.agg (eb l k).1,(eb l k).2)
 | .jO l,k=>(.tuple (eb l k).1,(eb l k).2)
noncomputable def eb:List yD→Nat→List AV×List aY
 |[],_=>([],[])
 |p::ps,k=>((tZ p k).1::(eb ps (k+(tZ p k).2.length)).1,(tZ p k).2++(eb ps (k+(tZ p k).2.length)).2)
end
noncomputable def Ps (l:List aY):St→St:=@Vu aY (fun _=>St→St) (fun s=>s) (fun b _ ih s=>ih (s.push b)) l
inductive fj where
 |flat (v:AV)
 |ptr (t:TypeId) (l:List AV)
 |tree (r:yD)
 |gen (v:AV) (s:St)
noncomputable def Mg (s:St) (q:AV×List aY):Out:=.fin (.returned q.1) none (Ps q.2 s)
noncomputable def fj.out (x:fj) (s:St):Out:=@fj.rec (fun _=>Out) (fun v=>.fin (.returned v) none s) (fun t l=>.fin (.returned (.ptr s.n 0)) none (s.row t l)) (fun r=>Mg s (tZ r (wq s.n))) (fun v s'=>.fin (.returned v) none s') x
structure NV where
 call:FuncId→List AV→St→Option fj
 loop:Hk
abbrev rS:=FuncId×List AV×AV×Option (TypeId×Nat)
def E4:AV→Bool
 | .bool _=>true
 | .int _ _=>true
 | .str _=>true
 | .tm (.int _) _=>true
 | .tm .bool _=>true
 | .tm .str _=>true
 |_=>false
def E5:AV→Bool
 | .agg l=>l.all E4
 |v=>E4 v
def Mh:AV→Bool
 | .tuple l=>l.all E5
 |v=>E5 v
noncomputable def F9 (v:AV) (s0 s:St) (o:Option (TypeId×Nat)):Option fj:=
 @Vm (TypeId×Nat) (fun _=>Option fj) (some (.gen v (au (Mh v) s0 s))) (fun q=>match v with
  | .tm (.aF ts) x=>au (Vo q.2 ts.length) (some (.gen (.vl ts (.op .len [x]) s.n) (s.push (.vec true q.1 ts (.op .len [x]) x)))) none
  |_=>none) o
noncomputable def wv (l:List rS) (f:FuncId) (args:List AV) (s:St):Option fj:=
 @Vu rS (fun _=>Option fj) none (fun x _ ih=>au (Vo x.1 f) (@Vm (List AV×St) (fun _=>Option fj) none (fun q=>au (F6 (sD 12) x.2.1 q.1) (F9 x.2.2.1 s q.2 x.2.2.2) ih) (kB args s)) ih) l
noncomputable def CT (rc:Option cE) (s:St) (els:Option Out) (o:Option fj):Option Out:=
 @Vm fj (fun _=>Option Out) els (fun x=>@Vm cE (fun _=>Option Out) (some (x.out s)) (fun _=>els) rc) o
noncomputable def step (P:Program) (orc:NV) (j:Ur) (r:Rec) (a:aN) (s:St):Option Out:=
 @Ur.rec (fun _=>Option Out) (fun rd c f p=>rQ (ab (jN P orc.loop f c (.o p) rd r a s) (Ap (r (.loop rd c f p)))) (orc.loop f p rd a s)) (fun f args rc=>CT rc s (Iy P orc.loop f args rc r s) (orc.call f args s)) (fun fn m=>yC P fn m r a s) (fun l args=>CS P orc.loop l args r s) j
noncomputable def run (P:Program) (orc:NV) (n:Nat):Rec:=@Vn (fun _=>Rec) (fun _ _ _=>none) (fun _ ih j a s=>step P orc j ih a s) n
inductive Ga where
 |val (v:AV)
 |row (n:Nat) (l:List Ga)
 |agg (l:List Ga)
def Iz:AV→Option (Pos×Nat×Nat)
 | .slice b o n _ _=>some (b,o,n)
 |_=>none
def IA:AV→Option (List AV)
 | .agg l=>some l
 |_=>none
mutual
noncomputable def Pt (s:St):Ga→AV→Bool
 | .val u,v=>sD 4 u v
 | .row n l,v=>@Vm (Pos×Nat×Nat) (fun _=>Bool) false (fun q=>au (Vo q.2.1 0) (au (Vo q.2.2 n) (@Vm (List AV) (fun _=>Bool) false (fun vs=>yE s l vs) (s.cells q.1 0 l.length)) false) false) (Iz v)
 | .agg l,v=>@Vm (List AV) (fun _=>Bool) false (fun vs=>yE s l vs) (IA v)
noncomputable def yE (s:St):List Ga→List AV→Bool
 |[],vs=>@Vu AV (fun _=>Bool) true (fun _ _ _=>false) vs
 |p::ps,vs=>@Vu AV (fun _=>Bool) false (fun v vs _=>au (Pt s p v) (yE s ps vs) false) vs
end
def aN.none:aN:=⟨.nil,0,[],.none⟩
end
section
open Go
noncomputable def qN:List aY→Nat→Tr aY→Tr aY
 |[],_,t=>t
 |b::bs,n,t=>qN bs (n+1) (t.set (pos n) b)
noncomputable def nM (bs:List aY):St:=⟨qN bs 0 .nil,pos bs.length⟩
mutual
noncomputable def yF:Ga→Nat→AV×List aY
 | .val v,_=>(v,[])
 | .row n l,k=>(.slice (pos (k+(jh l k).2.length)) 0 n false false,(jh l k).2++[.cells false 0 (jh l k).1.length (.of (jh l k).1)])
 | .agg l,k=>(.agg (jh l k).1,(jh l k).2)
noncomputable def jh:List Ga→Nat→List AV×List aY
 |[],_=>([],[])
 |p::ps,k=>((yF p k).1::(jh ps (k+(yF p k).2.length)).1,(yF p k).2++(jh ps (k+(yF p k).2.length)).2)
end
def CU:AV→Option (Pos×Nat×Nat×Bool×Bool)
 | .slice b o n fV wh=>some (b,o,n,fV,wh)
 |_=>none
def Mi:AV→Option Pos
 | .ptr b 0=>some b
 |_=>none
def Mj:AV→Option (List AV)
 | .tuple l=>some l
 |_=>none
noncomputable def ownRow (s:St) (b:Pos) (t:TypeId) (n:Nat):Option (List AV):=
 match s.h.get b with
 |some (.cells true t' len c)=>au (Vo t' t&&Vo len n) (c.sub 0 n) none
 |_=>none
mutual
noncomputable def IB (s:St):yD→AV→Option (List Pos)
 | .val u,v=>au (sD 6 u v) (some []) none
 | .row t o n fV wh l,v=>ab (CU v) fun q=>au (Vo q.2.1 o&&Vo q.2.2.1 n&&q.2.2.2.1==fV&&q.2.2.2.2==wh) (ab (ownRow s q.1 t l.length) fun vs=>omap (jP s l vs) fun ps=>ps++[q.1]) none
 | .ptr t l,v=>ab (Mi v) fun b=>ab (ownRow s b t l.length) fun vs=>omap (jP s l vs) fun ps=>ps++[b]
 | .agg l,v=>ab (IA v) fun vs=>jP s l vs
 | .jO l,v=>ab (Mj v) fun vs=>jP s l vs
noncomputable def jP (s:St):List yD→List AV→Option (List Pos)
 |[],vs=>@Vu AV (fun _=>Option (List Pos)) (some []) (fun _ _ _=>none) vs
 |p::ps,vs=>@Vu AV (fun _=>Option (List Pos)) none (fun v vs _=>ab (IB s p v) fun a=>omap (jP s ps vs) fun b=>a++b) vs
end
end
section
open Go
theorem gW {α:Type} (b:Bool) (x y:α):au b x y=if b=true then x else y:=by cases b<;>rfl
theorem aa {α β:Type} {o:Option α} {f:α→Option β} {r:β}:ab o f=some r↔∃x,o=some x∧f x=some r:=by
 cases o with
 |none=>exact ⟨fun h=>(by cases h),fun ⟨_,h,_⟩=>(by cases h)⟩
 |some x=>exact ⟨fun h=>⟨x,rfl,h⟩,fun ⟨y,h,k⟩=>by cases h;exact k⟩
theorem aO {α β:Type} {o:Option α} {f:α→β} {r:β}:omap o f=some r↔∃x,o=some x∧f x=r:=by
 cases o with
 |none=>exact ⟨fun h=>(by cases h),fun ⟨_,h,_⟩=>(by cases h)⟩
 |some x=>exact ⟨fun h=>⟨x,rfl,VF h⟩,fun ⟨y,h,k⟩=>by cases h;exact congrArg some k⟩
theorem bB {b c:Bool} (h:au b c false=true):b=true∧c=true:=by cases b<;>simp_all [au]
theorem aj {α:Type} {b:Bool} {x:Option α} {r:α}:au b x none=some r↔b=true∧x=some r:=by
 cases b with
 |true=>exact ⟨fun h=>⟨rfl,h⟩,fun h=>h.2⟩
 |false=>exact ⟨fun h=>(by cases h),fun h=>(by cases h.1)⟩
theorem eH {α:Type} {b:Bool} {x:Option α} {r:α}:au b none x=some r↔b=false∧x=some r:=by
 cases b with
 |false=>exact ⟨fun h=>⟨rfl,h⟩,fun h=>h.2⟩
 |true=>exact ⟨fun h=>(by cases h),fun h=>(by cases h.1)⟩
def Pos.toNat:Pos→Nat
 | .one=>0
 | .o p=>2*p.toNat+1
 | .i p=>2*p.toNat+2
theorem Pos.Pu (p:Pos):Pos.succ (.o p)= .i p:=rfl
theorem Pos.Pv (p:Pos):Pos.succ (.i p)= .o p.succ:=rfl
theorem Pos.bZ (p:Pos):p.succ.toNat=p.toNat+1:=by
 induction p with
 |one=>rfl
 |o p _=>simp only [Pos.Pu,Pos.toNat]
 |i p ih=>simp only [Pos.Pv,Pos.toNat,ih];omega
theorem Pos.toNat_inj {p q:Pos} (h:p.toNat=q.toNat):p=q:=by
 induction p generalizing q with
 |one=>cases q with
  |one=>rfl
  |o q=>simp only [Pos.toNat] at h;omega
  |i q=>simp only [Pos.toNat] at h;omega
 |o p ih=>cases q with
  |one=>simp only [Pos.toNat] at h;omega
  |o q=>simp only [Pos.toNat] at h;rw [ih (q:=q) (by omega)]
  |i q=>simp only [Pos.toNat] at h;omega
 |i p ih=>cases q with
  |one=>simp only [Pos.toNat] at h;omega
  |o q=>simp only [Pos.toNat] at h;omega
  |i q=>simp only [Pos.toNat] at h;rw [ih (q:=q) (by omega)]
instance :DecidableEq Pos:=fun p q=>if h:p.toNat=q.toNat then isTrue (Pos.toNat_inj h) else isFalse fun e=>h (e▸rfl)
theorem dN: ∀{p q:Pos},lG p q=true→p=q
 | .one,.one,_=>rfl
 | .one,.o _,h=>by cases h
 | .one,.i _,h=>by cases h
 | .o _,.one,h=>by cases h
 | .o p,.o q,h=>by rw [dN (show lG p q=true from h)]
 | .o _,.i _,h=>by cases h
 | .i _,.one,h=>by cases h
 | .i _,.o _,h=>by cases h
 | .i p,.i q,h=>by rw [dN (show lG p q=true from h)]
theorem Gb (f n:Nat):Ct (f+1) n=if n=0 then .one else if n % 2=1 then .o (Ct f (n / 2)) else .i (Ct f (n / 2 - 1)):=by
 show au (Vo n 0) Pos.one (au (Vo (Nat.mod n 2) 1) (.o (Ct f (Vp n 2))) (.i (Ct f (Vq (Vp n 2) 1))))=_
 rw [gW,gW]
 simp only [VG]
 rfl
theorem nN: ∀(f n:Nat),n<f→(Ct f n).toNat=n
 |0,n,h=>by omega
 |f+1,n,h=>by
  rw [Gb]
  split
  ·rename_i h0;simp only [Pos.toNat];omega
  ·split
   ·simp only [Pos.toNat];rw [nN f (n / 2) (by omega)];omega
   ·simp only [Pos.toNat];rw [nN f (n / 2 - 1) (by omega)];omega
theorem eI (n:Nat):(pos n).toNat=n:=nN (n+1) n (by omega)
theorem pr {n m:Nat} (h:pos n=pos m):n=m:=by rw [←eI n,←eI m,h]
section
variable {α:Type}
theorem get_nil (p:Pos):(Tr.nil:Tr α).get p=none:=by cases p<;>rfl
theorem mX (v:Option α) (l r:Tr α):(Tr.node v l r).get .one=v:=rfl
theorem wW (v:Option α) (l r:Tr α) (p:Pos):(Tr.node v l r).get (.o p)=l.get p:=rfl
theorem wX (v:Option α) (l r:Tr α) (p:Pos):(Tr.node v l r).get (.i p)=r.get p:=rfl
theorem IC (v:Option α) (p q:Pos) (t:Tr α):(Tr.Cu v p t).get q=if p=q then v else t.get q:=by
 induction p generalizing q t with
 |one=>cases t<;>cases q<;>simp [Tr.Cu,mX,wW,wX,get_nil]
 |o p ih=>
  cases t with
  |nil=>
   show (Tr.node none (Tr.Cu v p .nil) .nil).get q=_
   cases q<;>simp [mX,wW,wX,get_nil,ih]
  |node u l r=>
   show (Tr.node u (Tr.Cu v p l) r).get q=_
   cases q<;>simp [mX,wW,wX,ih]
 |i p ih=>
  cases t with
  |nil=>
   show (Tr.node none .nil (Tr.Cu v p .nil)).get q=_
   cases q<;>simp [mX,wW,wX,get_nil,ih]
  |node u l r=>
   show (Tr.node u l (Tr.Cu v p r)).get q=_
   cases q<;>simp [mX,wW,wX,ih]
theorem ji (t:Tr α) (p q:Pos) (v:α):(t.set p v).get q=if p=q then some v else t.get q:=IC _ _ _ _
theorem ij (t:Tr α) (p:Pos) (v:α):(t.set p v).get p=some v:=by rw [ji,if_pos rfl]
theorem kG (t:Tr α) {p q:Pos} (v:α) (h:p≠q):(t.set p v).get q=t.get q:=by rw [ji,if_neg h]
end
theorem CV (l:List AV) (i:Nat):nth l i=l[i]? :=by
 induction l generalizing i with
 |nil=>rfl
 |cons v l ih=>
  show au (Vo i 0) (some v) (nth l (Vx i))=_
  cases i with
  |zero=>rfl
  |succ i=>show nth l i=_;rw [ih];rfl
theorem pt (l:List AV) (i:Nat):np l i=l.drop i:=by
 induction l generalizing i with
 |nil=>simp [np]
 |cons v l ih=>
  cases i with
  |zero=>rfl
  |succ i=>show np l i=_;rw [ih];rfl
theorem pw (l:List AV) (i:Nat):nq l i=l.take i:=by
 induction l generalizing i with
 |nil=>simp [nq]
 |cons v l ih=>
  cases i with
  |zero=>rfl
  |succ i=>show v::nq l i=_;rw [ih];rfl
theorem ID (vs l:List AV) (i:Nat) (h:i<l.length):wL vs l i=l.take i++(vs++l.drop (i+vs.length)):=by
 induction l generalizing i with
 |nil=>simp at h
 |cons v l ih=>
  cases i with
  |zero=>show vs++np (v::l) vs.length=_;rw [pt];simp
  |succ i=>
   show v::wL vs l i=_
   rw [ih i (by simpa using h),show i+1+vs.length=(i+vs.length)+1 from by omega]
   rfl
theorem Gc (vs l:List AV) (i:Nat) (h:l.length≤i):wL vs l i=l:=by
 induction l generalizing i with
 |nil=>rfl
 |cons v l ih=>
  cases i with
  |zero=>simp at h
  |succ i=>show v::wL vs l i=_;rw [ih i (by simpa using h)]
theorem ik (l:List AV):cf l=l.all AV.one:=by
 induction l with
 |nil=>rfl
 |cons v l ih=>
  show au v.one (cf l) false=_
  rw [gW,ih]
  cases h:v.one<;>simp [h]
theorem Ax (c:Tr AV): ∀(n o:Nat) (r:List AV),HG c n o=some r→r.length=n∧∀i,i<n→c.get (pos (o+i))=r[i]?
 |0,o,r,h=>by
  have:r=[]:=(VF h).symm
  subst this
  exact ⟨rfl,fun i hi=>by omega⟩
 |n+1,o,r,h=>by
  have h:ab (c.get (pos o)) (fun v=>ab (HG c n (o+1)) fun vs=>some (v::vs))=some r:=h
  obtain ⟨v,hv,h⟩:=aa.1 h
  obtain ⟨vs,hvs,h⟩:=aa.1 h
  have:r=v::vs:=(VF h).symm
  subst this
  obtain ⟨hl,hi⟩:=Ax c n (o+1) vs hvs
  refine ⟨by simp [hl],fun i h=>?_⟩
  cases i with
  |zero=>simpa using hv
  |succ i=>rw [show o+(i+1)=o+1+i from by omega,hi i (by omega)];rfl
theorem jQ (vs:List AV): ∀(c:Tr AV) (o j:Nat),(iF vs c o).get (pos j)=if o≤j∧j<o+vs.length then vs[j - o]? else c.get (pos j):=by
 induction vs with
 |nil=>intro c o j;simp [iF];omega
 |cons v vs ih=>
  intro c o j
  show (iF vs (c.set (pos o) v) (o+1)).get (pos j)=_
  rw [ih,ji]
  by_cases h1:o+1≤j∧j<o+1+vs.length
  ·rw [if_pos h1,if_pos (by simp;omega)]
   rw [show j - o=(j - (o+1))+1 from by omega]
   rfl
  ·rw [if_neg h1]
   by_cases h2:j=o
   ·subst h2;simp
   ·rw [if_neg (fun h=>h2 (pr h).symm),if_neg (by simp;omega)]
theorem Cs.gz (l:List AV) (i:Nat):(Cs.o5 l).get i=l[i]? :=CV l i
theorem Cs.t6 (t:Tr AV) (i:Nat):(Cs.many t).get i=t.get (pos i):=rfl
theorem Cs.jy (vs:List AV) (i:Nat):(Cs.of vs).get i=vs[i]? :=by
 unfold Cs.of
 rw [gW]
 split
 ·exact Cs.gz vs i
 ·rw [Cs.t6,jQ]
  split
  ·simp
  ·rw [get_nil,VH (by omega)]
theorem Cs.Ay {c:Cs} {o n len:Nat} {r:List AV} (h:c.sub o n=some r) (hlen:o+n≤len) (hc: ∀i,i<len→(c.get i).isSome):
 r.length=n∧∀i,i<n→c.get (o+i)=r[i]? :=by
 cases c with
 |many t=>exact Ax t n o r h
 |o5 l=>
  have hr:r=nq (np l o) n:=(VF h).symm
  rw [pw,pt] at hr
  subst hr
  have hl:len≤l.length:=by
   rcases VI l.length len with hlt |hge
   ·have:=hc l.length hlt
    rw [Cs.gz,VH (by omega)] at this
    cases this
   ·exact hge
  refine ⟨by simp;omega,fun i hi=>?_⟩
  rw [Cs.gz]
  simp [hi]
theorem Cs.IE {c:Cs} {o len:Nat} {vs:List AV} (hlen:o+vs.length≤len) (hc: ∀i,i<len→(c.get i).isSome) (j:Nat) (hj:j<len):
 (c.over o vs).get j=if o≤j∧j<o+vs.length then vs[j - o]? else c.get j:=by
 cases c with
 |many t=>show (iF vs t o).get (pos j)=_;rw [jQ];rfl
 |o5 l=>
  have hl:len≤l.length:=by
   rcases VI l.length len with hlt |hge
   ·have:=hc l.length hlt
    rw [Cs.gz,VH (by omega)] at this
    cases this
   ·exact hge
  show (Cs.o5 (wL vs l o)).get j=_
  rw [Cs.gz,Cs.gz]
  by_cases ho:o<l.length
  ·rw [ID vs l o ho]
   by_cases h1:j<o
   ·rw [if_neg (by omega),VJ (by simp;omega),VK,if_pos h1]
   ·rw [VL (by simp;omega)]
    have ht:(l.take o).length=o:=by simp;omega
    rw [ht]
    by_cases h2:j<o+vs.length
    ·rw [if_pos (by omega),VJ (by omega)]
    ·rw [if_neg (by omega),VL (by omega),VM]
     congr 1
     omega
  ·rw [Gc vs l o (by omega),if_neg (by omega)]
theorem Cs.Az {c:Cs} {n len:Nat} {vs:List AV} (hn:n≤len) (hc: ∀i,i<len→(c.get i).isSome) (j:Nat) (hj:j<n+vs.length):
 (c.grow n vs).get j=if j<n then c.get j else vs[j - n]? :=by
 cases c with
 |many t=>
  show (iF vs t n).get (pos j)=_
  rw [jQ]
  by_cases h:j<n
  ·rw [if_neg (by omega),if_pos h];rfl
  ·rw [if_pos (by omega),if_neg h]
 |o5 l=>
  have hl:len≤l.length:=by
   rcases VI l.length len with hlt |hge
   ·have:=hc l.length hlt
    rw [Cs.gz,VH (by omega)] at this
    cases this
   ·exact hge
  show (Cs.of (nq l n++vs)).get j=_
  rw [Cs.jy,pw,Cs.gz]
  have ht:(l.take n).length=n:=by simp;omega
  by_cases h:j<n
  ·rw [if_pos h,VJ (by omega),VK,if_pos h]
  ·rw [if_neg h,VL (by omega),ht]
theorem fK (a b:List Nat):wM a b=(a==b):=by
 induction a generalizing b with
 |nil=>cases b<;>rfl
 |cons x a ih=>
  cases b with
  |nil=>rfl
  |cons y b=>
   show au (Vo x y) (wM a b) false=_
   rw [gW,ih]
   by_cases h:x=y
   ·subst h;simp
   ·have:Vo x y=false:=by
     cases hb:Vo x y with
     |false=>rfl
     |true=>exact absurd (VN hb) h
    simp [this,h]
theorem gf (a b:Int):F0 a b=(a==b):=by
 cases a with
 |ofNat a=>cases b with
  |ofNat b=>
   show Vo a b=_
   rw [VO]
   simp [VG]
   omega
  |negSucc b=>show false=_;rw [eq_comm,beq_eq_false_iff_ne];exact fun h=>by cases h
 |negSucc a=>cases b with
  |ofNat b=>show false=_;rw [eq_comm,beq_eq_false_iff_ne];exact fun h=>by cases h
  |negSucc b=>
   show Vo a b=_
   rw [VO]
   simp [VG]
theorem mg (a b:Int):HJ a b=decide (a<b):=by
 cases a with
 |ofNat a=>cases b with
  |ofNat b=>
   show Vv (Vt a) b=_
   rw [VO,Nat.ble_eq,decide_eq_true_iff]
   simp only [VP];omega
  |negSucc b=>show false=_;rw [eq_comm,decide_eq_false_iff_not];simp only [VP];omega
 |negSucc a=>cases b with
  |ofNat b=>show true=_;rw [eq_comm,decide_eq_true_iff];simp only [VP];omega
  |negSucc b=>
   show Vv (Vt b) a=_
   rw [VO,Nat.ble_eq,decide_eq_true_iff]
   omega
theorem fL (j k:IntKind):th j k=decide (j=k):=by cases j<;>cases k<;>rfl
theorem py (k:IntKind) (n:Int):z5 k n=k.wrap n:=by
 cases k<;>try rfl
 cases n with
 |negSucc m=>rfl
 |ofNat m=>
  show au (Vv m 9223372036854775807) (Vw m) (VA .i64 (.ofNat m))=_
  rw [gW]
  split
  ·rename_i h
   have h:=VQ h
   exact (IntWalk.i64_in _ (by simp only [VP];omega)).symm
  ·rfl
end
section
open Go Go.RowKit
structure fx where
 a:Addr
 own:Option (Nat×TypeId)
structure bw where
 f:Pos→Option fx
 fz:Addr→Option Value
instance :CoeFun bw (fun _=>Pos→Option fx):=⟨bw.f⟩
theorem bw.same {μ ν:bw} (h: ∀b,μ b=ν b) (k:μ.fz=ν.fz):μ=ν:=by
 obtain ⟨f,z⟩:=μ
 obtain ⟨g,y⟩:=ν
 obtain rfl:f=g:=funext h
 obtain rfl:z=y:=k
 rfl
inductive D where
 |bad
 |int (k:IntKind) (n:Int)
 |bool (b:Bool)
 |str (l:List Nat)
 |aF (l:List (List D))
 |ref (l:List D)
def AB (o:BinOp) (a b:Int):D:=
 match o with
 | .eql=>.bool (a==b)
 | .neq=>.bool (a != b)
 | .lss=>.bool (decide (a<b))
 | .leq=>.bool (decide (a≤b))
 | .gtr=>.bool (decide (b<a))
 | .geq=>.bool (decide (b≤a))
 |_=>.bad
noncomputable def Pw (o:BinOp) (a b:List Nat):D:=
 match o with
 | .eql=>.bool (a==b)
 | .neq=>.bool (a != b)
 | .lss=>.bool (nr a b)
 | .leq=>.bool (nr a b||a==b)
 | .gtr=>.bool (!(nr a b||a==b))
 | .geq=>.bool (!nr a b)
 |_=>.bad
def Us (o:BinOp) (k:IntKind) (a b:Int):D:=
 match o with
 | .add=>.int k (k.wrap (a+b))
 | .sub=>.int k (k.wrap (a - b))
 | .mul=>.int k (k.wrap (a*b))
 | .rem=>.int k (a.tmod b)
 |_=>.bad
def jb:D→D→Bool
 | .int j a,.int k b=>decide (j=k)&&a==b
 | .str a,.str b=>a==b
 |_,_=>false
def bC (k:D):List D→Bool
 |[]=>false
 |d::_=>jb k d
def iM (k:D) (vs:List D):List (List D)→List (List D)
 |[]=>[k::vs]
 |r::l=>bif bC k r then (k::vs)::l else r::iM k vs l
def lJ (k:D):List (List D)→List (List D)
 |[]=>[]
 |r::l=>bif bC k r then l else r::lJ k l
def D.at (l:List D) (k:Nat):D:=match l[k]? with |some d=>d |none=>.bad
noncomputable def cw:NM→List D→D
 | .kp o k,[.int _ a,.int _ b]=>Us o k a b
 | .cmp o,[.int _ a,.int _ b]=>AB o a b
 | .conv k,[.int _ a]=>.int k (k.wrap a)
 | .kr o,[.str a,.str b]=>Pw o a b
 | .cat,[.str a,.str b]=>.str (a++b)
 | .ic,[.str a,.int _ i]=>(match a[i.toNat]? with |some c=>.int .u8 c |none=>.bad)
 | .L2,[.str a,.int _ lo,.int _ hi]=>.str ((a.take hi.toNat).drop lo.toNat)
 | .gB,[.str a]=>.int .i64 a.length
 | .not,[.bool a]=>.bool (!a)
 | .and,[.bool a,.bool b]=>.bool (a&&b)
 | .beq,[.bool a,.bool b]=>.bool (a==b)
 | .nil,[]=>.aF []
 | .snoc,.aF l::r=>.aF (l++[r])
 | .app,[.aF a,.aF b]=>.aF (a++b)
 | .sub,[.aF a,.int _ lo,.int _ hi]=>.aF ((a.take hi.toNat).drop lo.toNat)
 | .len,[.aF a]=>.int .i64 a.length
 | .zZ,[.aF a,.int _ i]=>(match a[i.toNat]? with |some r=>.ref r |none=>.bad)
 | .cell k,[.ref r]=>D.at r k
 | .off k n,[.ref r]=>.ref ((r.drop k).take n)
 | .row,r=>.ref r
 | .dm o n,.aF l::.int _ i::r=>.aF (l.modify i.toNat fun row=>row.take o++r++row.drop (o+n))
 | .rep,.int _ n::r=>.aF (List.replicate n.toNat r)
 | .wt,[.aF l,k]=>.bool (l.any (bC k))
 | .o4,[.aF l,k]=>(match l.find? (bC k) with |some r=>.ref r.tail |none=>.bad)
 | .tg,.aF l::k::vs=>.aF (iM k vs l)
 | .Cv,[.aF l,k]=>.aF (lJ k l)
 | .Cw,[.int _ n]=>.bool (FloatKind.f64.format.order n.toNat n.toNat != some .eq)
 |_,_=>.bad
mutual
noncomputable def bh (ρ:Nat→D):Tm→D
 | .var n=>ρ n
 | .int k n=>.int k n
 | .bool b=>.bool b
 | .str l=>.str l
 | .op o l=>cw o (aL ρ l)
noncomputable def aL (ρ:Nat→D):List Tm→List D
 |[]=>[]
 |x::l=>bh ρ x::aL ρ l
end
class Env extends Gam where
 ρ:Nat→D
 conds: ∀c∈g,bh ρ c.1= .bool c.2
 n:Nat
 base:World→Prop
 bo: ∀w w':World,w.heap.size≤w'.heap.size→(∀k,k<n→w'.heap[k]? =w.heap[k]?)→base w→base w'
variable [Env]
noncomputable def ev (x:Tm):D:=bh Env.ρ x
mutual
def bx:Ty→D→Prop
 | .int k,d=>∃n,d= .int k n
 | .bool,d=>∃b,d= .bool b
 | .str,d=>∃l,d= .str l
 | .aF ts,d=>∃l,d= .aF l∧∀r∈l,aW ts r
 | .ref ts,d=>∃r,d= .ref r∧aW ts r
def aW:List Ty→List D→Prop
 |[],r=>r=[]
 |t::ts,r=>∃d r',r=d::r'∧bx t d∧aW ts r'
end
inductive dY (fz:Addr→Option Value):D→Value→Prop
 |int (k:IntKind) (n:Int):dY fz (.int k n) (.int k n)
 |bool (b:Bool):dY fz (.bool b) (.bool b)
 |str (l:List Nat) (s:ByteArray) (h:s.data.toList.map (·.toNat)=l):dY fz (.str l) (.string s)
 |nil:dY fz (.aF []) (.slice none 0 0)
 |aF (l:List (List D)) (ad:Addr) (c:Nat) (u:Nat→Value) (hn:l.length≤c) (hm:c≤maxLen) (hf: ∀j,j<l.flatten.length→fz (ad.add j)=some (u j))
  (h: ∀j d,l.flatten[j]? =some d→dY fz d (u j)):dY fz (.aF l) (.slice (some ad) l.length c)
 |ref (r:List D) (ad:Addr) (u:Nat→Value) (hf: ∀j,j<r.length→fz (ad.add j)=some (u j)) (h: ∀j d,r[j]? =some d→dY fz d (u j)):dY fz (.ref r) (.pointer (some ad))
theorem dY.mono {fz fz':Addr→Option Value} (hs: ∀ad v,fz ad=some v→fz' ad=some v) {d:D} {v:Value} (h:dY fz d v):dY fz' d v:=by
 induction h with
 |int k n=>exact .int k n
 |bool b=>exact .bool b
 |str l s h=>exact .str l s h
 |nil=>exact .nil
 |aF l ad c u hn hm hf h ih=>exact .aF l ad c u hn hm (fun j hj=>hs _ _ (hf j hj)) ih
 |ref r ad u hf h ih=>exact .ref r ad u (fun j hj=>hs _ _ (hf j hj)) ih
theorem dY.one {fz:Addr→Option Value} {d:D} {v:Value} (h:dY fz d v):v.oneCell'=true:=by cases h<;>rfl
theorem dY.cells {fz:Addr→Option Value} {d:D} {v:Value} (h:dY fz d v):v.cells= #[v]:=by cases h<;>rfl
mutual
inductive VR (P:Program) (μ:bw):AV→Value→Prop
 |bool (b:Bool):VR P μ (.bool b) (.bool b)
 |int (k:IntKind) (n:Int):VR P μ (.int k n) (.int k n)
 |float (k:FloatKind) (n:Nat):VR P μ (.float k n) (.float k n)
 |str (l:List Nat) (s:ByteArray) (h:s.data.toList.map (·.toNat)=l):VR P μ (.str l) (.string s)
 |ptr (b:Pos) (o:Nat) (e:fx) (h:μ b=some e):VR P μ (.ptr b o) (.pointer (some (e.a.add o)))
 |bX:VR P μ .bX (.pointer none)
 |slice (b:Pos) (o n:Nat) (fV wh:Bool) (e:fx) (ad:Addr) (c:Nat) (h:μ b=some e) (had:ad=e.a.add o∨(c=0∧o≠0)) (hn:n≤c) (hm:c≤maxLen) (hl:fV=true→c=n)
  (hc:wh=true→o=0→∀sz t,e.own=some (sz,t)→c*P.cellsOf t=sz):VR P μ (.slice b o n fV wh) (.slice (some ad) n c)
 |an:VR P μ .an (.slice none 0 0)
 |map (b:Pos) (e:fx) (h:μ b=some e):VR P μ (.map b) (.map (some e.a.block))
 |cd:VR P μ .cd (.map none)
 |func (f:FuncId) (first cap:List AV) (F C:List Value) (h1:b8 P μ first F) (h2:b8 P μ cap C):VR P μ (.func f first cap) (.func (.func f) F.toArray C.toArray)
 |yield (b:Pos) (e:fx) (h:μ b=some e):VR P μ (.yield b) (.func (.yield e.a.block) #[] #[])
 |bN:VR P μ .bN .nilFunc
 |iface (t:TypeId) (v:AV) (u:Value) (h:VR P μ v u):VR P μ (.iface t v) (.iface t u)
 |bu:VR P μ .bu .nilIface
 |agg (cs:List AV) (C:List Value) (h:b8 P μ cs C) (ho:cf cs=true):VR P μ (.agg cs) (.agg C.toArray)
 |tuple (cs:List AV) (C:List Value) (h:b8 P μ cs C):VR P μ (.tuple cs) (.tuple C.toArray)
 |bad (v:Value):VR P μ .bad v
 |tm (t:Ty) (x:Tm) (u:Value) (ht:bx t (ev x)) (h:dY μ.fz (ev x) u):VR P μ (.tm t x) u
 |vl (ts:List Ty) (n:Tm) (b:Pos) (u:Value) (e:fx) (he:μ b=some e) (h:((u= .slice none 0 0∨∃ad,u= .slice (some ad) 0 0)∧e.a.spot≠none∧ev n= .int .i64 0)∨∃m c,u= .slice (some e.a) m c∧e.a.spot=none∧ev n= .int .i64 (Vw m)∧m≤c∧c≤maxLen∧∀sz t,e.own=some (sz,t)→sz=c*ts.length):VR P μ (.vl ts n b) u
 |e0 (z:Bool) (ad:Addr) (c:Nat) (hz:z=true→c=0) (hm:c≤maxLen):VR P μ (.e0 z) (.slice (some ad) 0 c)
 |pe (ts:List Ty) (b:Pos) (i:Tm) (o:Nat) (e:fx) (k:IntKind) (n:Nat) (h:μ b=some e) (hi:ev i= .int k n):VR P μ (.pe ts b i o) (.pointer (some (e.a.add (n*ts.length+o))))
 |fb (x:Tm) (n:Int) (h:ev x= .int .u64 n):VR P μ (.fb x) (.float .f64 n.toNat)
inductive b8 (P:Program) (μ:bw):List AV→List Value→Prop
 |nil:b8 P μ [] []
 |cons (v:AV) (u:Value) (vs:List AV) (us:List Value) (h:VR P μ v u) (hs:b8 P μ vs us):b8 P μ (v::vs) (u::us)
end
structure Sub (μ μ':bw):Prop where
 f: ∀b e,μ b=some e→μ' b=some e
 fz: ∀ad v,μ.fz ad=some v→μ'.fz ad=some v
instance {μ μ':bw}:CoeFun (Sub μ μ') (fun _=>∀b e,μ b=some e→μ' b=some e):=⟨Sub.f⟩
theorem Sub.refl (μ:bw):Sub μ μ:=⟨fun _ _ h=>h,fun _ _ h=>h⟩
theorem Sub.trans {μ μ' μ'':bw} (h:Sub μ μ') (k:Sub μ' μ''):Sub μ μ'':=⟨fun b e x=>k b e (h b e x),fun a v x=>k.fz a v (h.fz a v x)⟩
mutual
theorem VR.mono {P:Program} {μ μ':bw} (hs:Sub μ μ'): ∀{v:AV} {u:Value},VR P μ v u→VR P μ' v u
 |_,_,.bool b=>.bool b
 |_,_,.int k n=>.int k n
 |_,_,.float k n=>.float k n
 |_,_,.str l s h=>.str l s h
 |_,_,.ptr b o e h=>.ptr b o e (hs _ _ h)
 |_,_,.bX=>.bX
 |_,_,.slice b o n fV wh e ad c h had hn hm hl hc=>.slice b o n fV wh e ad c (hs _ _ h) had hn hm hl hc
 |_,_,.an=>.an
 |_,_,.map b e h=>.map b e (hs _ _ h)
 |_,_,.cd=>.cd
 |_,_,.func f a b F C h1 h2=>.func f a b F C (b8.mono hs h1) (b8.mono hs h2)
 |_,_,.yield b e h=>.yield b e (hs _ _ h)
 |_,_,.bN=>.bN
 |_,_,.iface t v u h=>.iface t v u (VR.mono hs h)
 |_,_,.bu=>.bu
 |_,_,.agg cs C h ho=>.agg cs C (b8.mono hs h) ho
 |_,_,.tuple cs C h=>.tuple cs C (b8.mono hs h)
 |_,_,.bad v=>.bad v
 |_,_,.tm t x u ht h=>.tm t x u ht (h.mono hs.fz)
 |_,_,.vl ts n b u e he h=>.vl ts n b u e (hs b e he) h
 |_,_,.e0 z ad c hz hm=>.e0 z ad c hz hm
 |_,_,.pe ts b i o e k n h hi=>.pe ts b i o e k n (hs b e h) hi
 |_,_,.fb x n h=>.fb x n h
theorem b8.mono {P:Program} {μ μ':bw} (hs:Sub μ μ'): ∀{v:List AV} {u:List Value},b8 P μ v u→b8 P μ' v u
 |_,_,.nil=>.nil
 |_,_,.cons v u vs us h k=>.cons v u vs us (VR.mono hs h) (b8.mono hs k)
end
section
variable {P:Program} {μ:bw}
theorem b8.length {vs:List AV} {us:List Value} (h:b8 P μ vs us):vs.length=us.length:=by
 induction vs generalizing us with
 |nil=>cases h;rfl
 |cons v vs ih=>cases h with |cons _ u _ us h hs=>simp [ih hs]
theorem b8.get {vs:List AV} {us:List Value} (h:b8 P μ vs us) {i:Nat} {v:AV} (hi:vs[i]? =some v): ∃u,us[i]? =some u∧VR P μ v u:=by
 induction vs generalizing us i with
 |nil=>simp at hi
 |cons x vs ih=>
  cases h with
  |cons _ u _ us h hs=>
   cases i with
   |zero=>simp at hi;subst hi;exact ⟨u,rfl,h⟩
   |succ i=>exact ih hs (by simpa using hi)
theorem b8.jy {vs:List AV} {us:List Value} (hl:vs.length=us.length) (h: ∀(i:Nat) (v:AV) (u:Value),vs[i]? =some v→us[i]? =some u→VR P μ v u):b8 P μ vs us:=by
 induction vs generalizing us with
 |nil=>cases us with
  |nil=>exact .nil
  |cons u us=>simp at hl
 |cons v vs ih=>
  cases us with
  |nil=>simp at hl
  |cons u us=>exact .cons v u vs us (h 0 v u rfl rfl) (ih (by simpa using hl) fun i v' u' hv hu=>h (i+1) v' u' (by simpa using hv) (by simpa using hu))
theorem b8.append {a b:List AV} {c d:List Value} (h:b8 P μ a c) (k:b8 P μ b d):b8 P μ (a++b) (c++d):=by
 induction a generalizing c with
 |nil=>cases h;exact k
 |cons v a ih=>cases h with |cons _ u _ us h hs=>exact .cons _ _ _ _ h (ih hs)
theorem b8.drop {a:List AV} {c:List Value} (h:b8 P μ a c) (n:Nat):b8 P μ (a.drop n) (c.drop n):=by
 induction n generalizing a c with
 |zero=>simpa using h
 |succ n ih=>cases h with
  |nil=>simpa using b8.nil
  |cons v u vs us h hs=>simpa using ih hs
theorem b8.take {a:List AV} {c:List Value} (h:b8 P μ a c) (n:Nat):b8 P μ (a.take n) (c.take n):=by
 induction n generalizing a c with
 |zero=>simpa using b8.nil
 |succ n ih=>cases h with
  |nil=>simpa using b8.nil
  |cons v u vs us h hs=>simpa using b8.cons v u _ _ h (ih hs)
theorem gH {l:List AV} (h:cf l=true) {i:Nat} {v:AV} (hi:l[i]? =some v):v.one=true:=by
 rw [ik] at h
 exact List.all_eq_true.1 h v (List.mem_of_getElem? hi)
theorem fy {a b:List AV} (h:cf a=true) (k:cf b=true):cf (a++b)=true:=by
 rw [ik] at*
 simp only [List.all_append,h,k,Bool.and_self]
theorem wY {a:List AV} (h:cf a=true) (n:Nat):cf (a.drop n)=true:=by
 rw [ik] at*
 exact List.all_eq_true.2 fun x hx=>List.all_eq_true.1 h x (List.mem_of_mem_drop hx)
theorem wZ {a:List AV} (h:cf a=true) (n:Nat):cf (a.take n)=true:=by
 rw [ik] at*
 exact List.all_eq_true.2 fun x hx=>List.all_eq_true.1 h x (List.mem_of_mem_take hx)
theorem VR.one {v:AV} {u:Value} (h:VR P μ v u) (ho:v.one=true):u.oneCell'=true:=by
 cases h<;>first
  |exact dY.one (by assumption)
  |(rename_i h;rcases h with ⟨rfl |⟨_,rfl⟩,_⟩ |⟨m,c,rfl,_⟩<;>rfl)
  |simp_all [AV.one,Value.oneCell']
theorem VR.cells {v:AV} {u:Value} (h:VR P μ v u) (hb:v≠.bad):b8 P μ v.cells u.cells.toList:=by
 cases h<;>first
  |(rw [dY.cells (by assumption)];exact .cons _ _ _ _ (by constructor<;>assumption) .nil)
  |(simp only [AV.cells,Value.cells];exact .cons _ _ _ _ (by constructor<;>assumption) .nil)
  |(rename_i e he h;have hc:u.cells= #[u]:=(by rcases h with ⟨rfl |⟨_,rfl⟩,_⟩ |⟨m,c,rfl,_⟩<;>rfl);rw [hc];exact .cons _ _ _ _ (.vl _ _ _ _ e he h) .nil)
  |skip
 case agg cs C h ho=>simpa [AV.cells,Value.cells] using h
 case bad=>exact absurd rfl hb
theorem bT {v:AV} (h:cf v.cells=true):v≠.bad:=by
 rintro rfl
 simp [AV.cells,ik,AV.one] at h
end
def bO:aY→Bool
 | .dead=>true
 |_=>false
def TR (P:Program) (μ:bw) (tm:Tr AV) (tmps:Array Value):Prop:=∀t,VR P μ (gu (tm.get (pos t))) (tmps.getD t undef)
theorem TR.mono {P:Program} {μ μ':bw} (hs:Sub μ μ') {tm:Tr AV} {tmps:Array Value} (h:TR P μ tm tmps):TR P μ' tm tmps:=fun t=>(h t).mono hs
inductive ER (P:Program) (μ:bw):List (AV×AV)→List MapEntry→Prop
 |nil:ER P μ [] []
 |cons (k v:AV) (m:MapEntry) (es:List (AV×AV)) (ms:List MapEntry) (hk:VR P μ k m.key) (hv:VR P μ v m.val) (h:ER P μ es ms):ER P μ ((k,v)::es) (m::ms)
theorem ER.mono {P:Program} {μ μ':bw} (hs:Sub μ μ') {es:List (AV×AV)} {ms:List MapEntry} (h:ER P μ es ms):ER P μ' es ms:=by
 induction h with
 |nil=>exact .nil
 |cons k v m es ms hk hv _ ih=>exact .cons k v m es ms (hk.mono hs) (hv.mono hs) ih
def EP (P:Program) (μ:bw) (es:List (AV×AV)) (ms:List MapEntry):Prop:=∃l,l.Perm ms∧ER P μ es l
theorem EP.mono {P:Program} {μ μ':bw} (hs:Sub μ μ') {es:List (AV×AV)} {ms:List MapEntry} (h:EP P μ es ms):EP P μ' es ms:=let ⟨l,h1,h2⟩:=h;⟨l,h1,h2.mono hs⟩
theorem EP.nil {P:Program} {μ:bw}:EP P μ [] []:=⟨[],.nil,.nil⟩
def jR (ms:List MapEntry) (clock:Nat):Prop:=(∀m∈ms,m.born<clock)∧(ms.map (·.born)).Nodup
theorem jR.nil:jR [] 0:=⟨fun _ h=>absurd h VS,List.nodup_nil⟩
theorem jR.push {ms:List MapEntry} {c:Nat} (h:jR ms c) (m:MapEntry) (hm:m.born=c):jR (ms++[m]) (c+1):=by
 refine ⟨fun x hx=>?_,?_⟩
 ·rcases List.mem_append.1 hx with hx |hx
  ·exact Nat.lt_succ_of_lt (h.1 x hx)
  ·rw [List.mem_singleton.1 hx,hm];exact Nat.lt_succ_self c
 ·rw [List.map_append,List.nodup_append]
  refine ⟨h.2,by simp,fun a ha b hb=>?_⟩
  obtain ⟨x,hx,rfl⟩:=List.mem_map.1 ha
  simp only [VT,VU,List.mem_singleton] at hb
  rw [hb,hm]
  exact Nat.ne_of_lt (h.1 x hx)
theorem jR.modify {ms:List MapEntry} {c:Nat} (h:jR ms c) (j:Nat) (f:MapEntry→MapEntry) (hf: ∀m,(f m).born=m.born):jR (ms.modify j f) c:=by
 have e:(ms.modify j f).map (·.born)=ms.map (·.born):=by
  apply List.ext_getElem?
  intro i
  rw [VV,VV,List.getElem?_modify]
  cases ms[i]? with
  |none=>rfl
  |some m=>by_cases hi:j=i<;>simp [hi,hf]
 refine ⟨fun m hm=>?_,by rw [e];exact h.2⟩
 have:m.born∈(ms.modify j f).map (·.born):=List.mem_map_of_mem hm
 rw [e] at this
 obtain ⟨x,hx,hb⟩:=List.mem_map.1 this
 rw [←hb]
 exact h.1 x hx
theorem jR.erase {ms:List MapEntry} {c:Nat} (h:jR ms c) (j:Nat):jR (ms.eraseIdx j) c:=
 ⟨fun m hm=>h.1 m (List.mem_of_mem_eraseIdx hm),h.2.sublist ((List.eraseIdx_sublist ms j).map _)⟩
theorem fe {P:Program} {f:FuncId} {p:Pos} {c d:Code} (h:cF P f p=some c) (hd:Iv c=some d):cF P f (.o p)=some d:=by
 unfold cF at*
 obtain ⟨fn,h1,h⟩:=Option.bind_eq_some_iff.1 h
 obtain ⟨b,h2,h⟩:=Option.bind_eq_some_iff.1 h
 rw [h1]
 simp only [VW,h2]
 show (Iw b p).bind Iv=some d
 rw [h]
 exact hd
theorem pz {P:Program} {f:FuncId} {p:Pos} {c d:Code} (h:cF P f p=some c) (hd:CQ c=some d):cF P f (.i p)=some d:=by
 unfold cF at*
 obtain ⟨fn,h1,h⟩:=Option.bind_eq_some_iff.1 h
 obtain ⟨b,h2,h⟩:=Option.bind_eq_some_iff.1 h
 rw [h1]
 simp only [VW,h2]
 show (Iw b p).bind CQ=some d
 rw [h]
 exact hd
theorem CW {P:Program} {f:FuncId} {fn:Func} {c:Code} (h1:P.funcs[f]? =some fn) (h2:fn.body=some c):cF P f .one=some c:=by
 unfold cF
 rw [h1]
 simp only [VW,h2]
 rfl
structure LR (P:Program) (μ:bw) (lp:eY) (r:Loop):Prop where
 state:r.state=lp.state
 pending:r.pending=lp.pending
 tmps:TR P μ lp.tm r.tmps
 size:r.tmps.size=lp.n
 params:r.params.toList=lp.params
 fn: ∃f,P.funcs[r.fn]? =some f
 defers: ∃e,μ lp.defers=some e∧r.defers=e.a.block
 code: ∃fo ps,cF P lp.f lp.p=some (.rangeFunc fo ps r.assign r.body)
theorem LR.mono {P:Program} {μ μ':bw} (hs:Sub μ μ') {lp:eY} {r:Loop} (h:LR P μ lp r):LR P μ' lp r:=
 ⟨h.state,h.pending,h.tmps.mono hs,h.size,h.params,h.fn,let ⟨e,he,hd⟩:=h.defers;⟨e,hs _ _ he,hd⟩,h.code⟩
def CR (P:Program) (μ:bw) (c:Cs) (len:Nat) (at_:Nat→Option Value):Prop:=
 ∀i,i<len→∃av v,c.get i=some av∧at_ i=some v∧VR P μ av v∧av.one=true
theorem CR.mono {P:Program} {μ μ':bw} (hs:Sub μ μ') {c:Cs} {len:Nat} {f:Nat→Option Value} (h:CR P μ c len f):CR P μ' c len f:=
 fun i hi=>let ⟨av,v,h1,h2,h3,h4⟩:=h i hi;⟨av,v,h1,h2,h3.mono hs,h4⟩
theorem CR.isSome {P:Program} {μ:bw} {c:Cs} {len:Nat} {f:Nat→Option Value} (h:CR P μ c len f): ∀i,i<len→(c.get i).isSome:=
 fun i hi=>let ⟨av,v,h1,_⟩:=h i hi;by rw [h1];rfl
def Gd (μ:bw):Option Pos→Option Obj→Prop
 |none,o=>∃since seen last,o=some (.mapIter none since seen last)
 |some b,o=>∃e since last,μ b=some e∧o=some (.mapIter (some e.a.block) since #[] last)
theorem Gd.mono {μ μ':bw} (hs:Sub μ μ') {m:Option Pos} {o:Option Obj} (h:Gd μ m o):Gd μ' m o:=by
 cases m with
 |none=>exact h
 |some b=>obtain ⟨e,s,l,h1,h2⟩:=h;exact ⟨e,s,l,hs _ _ h1,h2⟩
theorem Gd.some {μ:bw} {m:Option Pos} {o:Option Obj} (h:Gd μ m o): ∃q,o= .some q:=by
 cases m with
 |none=>obtain ⟨_,_,_,h⟩:=h;exact ⟨_,h⟩
 |some b=>obtain ⟨_,_,_,_,h⟩:=h;exact ⟨_,h⟩
def cz:fx:=⟨⟨0,0,some 0⟩,none⟩
def CX (fz:Addr→Option Value) (g:Bool) (r:List D) (m:MapEntry):Prop:=
 ∃d vs us,r=d::vs∧dY fz d m.key∧(if g=true then m.val= .agg us.toArray else us=[m.val])∧us.length=vs.length∧∀(j:Nat) (d:D),vs[j]? =some d→∃u:Value,us[j]? =some u∧dY fz d u
theorem CX.mono {fz fz':Addr→Option Value} (hs: ∀ad v,fz ad=some v→fz' ad=some v) {g:Bool} {r:List D} {m:MapEntry} (h:CX fz g r m):CX fz' g r m:=
 let ⟨d,vs,us,h1,h2,h3,h4,h5⟩:=h
 ⟨d,vs,us,h1,h2.mono hs,h3,h4,fun j d hj=>let ⟨u,q1,q2⟩:=h5 j d hj;⟨u,q1,q2.mono hs⟩⟩
inductive iN (fz:Addr→Option Value) (g:Bool):List (List D)→List MapEntry→Prop
 |nil:iN fz g [] []
 |cons (r:List D) (m:MapEntry) (l:List (List D)) (ms:List MapEntry) (h:CX fz g r m) (hs:iN fz g l ms):iN fz g (r::l) (m::ms)
theorem iN.mono {fz fz':Addr→Option Value} (hs: ∀ad v,fz ad=some v→fz' ad=some v) {g:Bool} {l:List (List D)} {ms:List MapEntry} (h:iN fz g l ms):iN fz' g l ms:=by
 induction h with
 |nil=>exact .nil
 |cons r m l ms h _ ih=>exact .cons r m l ms (h.mono hs) ih
def jz:List (List D)→Prop
 |[]=>True
 |r::l=>(∀k,r.head?=some k→l.any (bC k)=false)∧jz l
def BR (P:Program) (N:Nat) (μ:bw) (w:World) (k:aY) (e:fx):Prop:=
 match k with
 | .cells true t len c=>∃g sz cur,e=⟨⟨g,0,none⟩,some (sz,t)⟩∧N≤g∧w.heap[g]? =some (.cells cur t (0,0))∧cur.size=sz∧len≤sz∧CR P μ c len (fun i=>cur[i]?)
 | .cells false _ len c=>e.own=none∧e.a.block<w.heap.size∧CR P μ c len (fun i=>w.cell? (e.a.add i))
 | .map es=>∃g ents clock,e=⟨⟨g,0,none⟩,none⟩∧N≤g∧w.heap[g]? =some (.map ents clock)∧EP P μ es ents.toList∧jR ents.toList clock
 | .fY s p=>∃g bs,e=⟨⟨g,0,none⟩,none⟩∧N≤g∧w.heap[g]? =some (.stringIter bs p)∧bs.data.toList.map (·.toNat)=s
 | .loop lp=>∃g r,e=⟨⟨g,0,none⟩,none⟩∧N≤g∧w.heap[g]? =some (.loop r)∧LR P μ lp r
 | .deferred d=>∃g,e=⟨⟨g,0,none⟩,none⟩∧N≤g∧w.heap[g]? =some (.deferred (if d=true then some [] else none))
 | .dead=>(N≤e.a.block∨(e=cz∧0<N))∧e.a.block<w.heap.size
 | .Cr m=>∃g,e=⟨⟨g,0,none⟩,none⟩∧N≤g∧Gd μ m (w.heap[g]?)
 | .frozen o=>∃g,e=⟨⟨g,0,none⟩,none⟩∧N≤g∧w.heap[g]? =some o
 | .vec own t ts n x=>∃l:List (List D),ev x= .aF l∧ev n= .int .i64 (Vw l.length)∧bx (.aF ts) (.aF l)∧((e=⟨⟨0,0,some 0⟩,none⟩∧0<N∧0<w.heap.size∧l=[])∨
  ∃(g:Nat) (cur:Array Value),e=⟨⟨g,0,none⟩,some (cur.size,t)⟩∧N≤g∧w.heap[g]? =some (.cells cur t (0,0))∧l.flatten.length≤cur.size∧∀(j:Nat) (d:D),l.flatten[j]? =some d→∃u,cur[j]? =some u∧dY μ.fz d u∧(own=false→μ.fz ⟨g,j,none⟩=some u))
 | .bY g kt ts x=>∃l:List (List D),ev x= .aF l∧bx (.aF (kt::ts)) (.aF l)∧jz l∧∃(G:Nat) (ents:Array MapEntry) (clock:Nat) (ms:List MapEntry),e=⟨⟨G,0,none⟩,none⟩∧N≤G∧w.heap[G]? =some (.map ents clock)∧ms.Perm ents.toList∧iN μ.fz g l ms∧jR ents.toList clock
 | .eE t ts n x i v=>∃(l:List (List D)) (iv:Nat),ev x= .aF l∧ev n= .int .i64 (Vw l.length)∧bx (.aF ts) (.aF l)∧(∃kq,ev i= .int kq (Vw iv))∧iv<l.length∧∃(g:Nat) (cur:Array Value) (V:Value),e=⟨⟨g,0,none⟩,some (cur.size,t)⟩∧N≤g∧w.heap[g]? =some (.cells cur t (0,0))∧l.flatten.length≤cur.size∧
  (∀(j:Nat) (d:D),l.flatten[j]? =some d→j≠iv*ts.length+(ts.length - 1)→∃u,cur[j]? =some u∧dY μ.fz d u)∧1≤ts.length∧cur[iv*ts.length+(ts.length - 1)]? =some V∧VR P μ v V∧v.one=true
theorem kH {w:World} {a:Addr} {v:Value} (h:w.cell? a=some v):a.block<w.heap.size:=by
 unfold World.cell? at h
 cases hb:w.heap[a.block]? with
 |none=>rw [hb] at h;cases h
 |some o=>exact (Array.getElem?_eq_some_iff.1 hb).1
theorem w6 (a:Addr) (n:Nat):(a.add n).block=a.block:=by unfold Addr.add;split<;>rfl
theorem qO {w w':World} {a:Addr} (h:w'.heap[a.block]? =w.heap[a.block]?):w'.cell? a=w.cell? a:=by unfold World.cell?;rw [h]
theorem BR.lt {P:Program} {N:Nat} {μ:bw} {w:World} {k:aY} {e:fx} (h:BR P N μ w k e):e.a.block<w.heap.size:=by
 have key: ∀{g:Nat} {o:Obj},w.heap[g]? =some o→g<w.heap.size:=fun h=>(Array.getElem?_eq_some_iff.1 h).1
 cases k with
 |cells own t len c=>cases own with
  |true=>obtain ⟨g,sz,cur,rfl,_,h,_⟩:=h;exact key h
  |false=>exact h.2.1
 |map es=>obtain ⟨g,en,cl,rfl,_,h,_⟩:=h;exact key h
 |fY s p=>obtain ⟨g,bs,rfl,_,h,_⟩:=h;exact key h
 |loop lp=>obtain ⟨g,r,rfl,_,h,_⟩:=h;exact key h
 |deferred d=>obtain ⟨g,rfl,_,h⟩:=h;exact key h
 |dead=>exact h.2
 |Cr m=>obtain ⟨g,rfl,_,h⟩:=h;obtain ⟨q,h⟩:=h.some;exact key h
 |frozen o=>obtain ⟨g,rfl,_,h⟩:=h;exact key h
 |vec own t ts n x=>obtain ⟨l,_,_,_,⟨rfl,_,h,_⟩ |⟨g,cur,rfl,_,h,_⟩⟩:=h<;>first |exact h |exact key h
 |bY g kt ts x=>obtain ⟨l,_,_,_,G,ents,clock,ms,rfl,_,h,_⟩:=h;exact key h
 |eE t ts n x i v=>obtain ⟨l,iv,_,_,_,_,_,g,cur,V,rfl,_,h,_⟩:=h;exact key h
theorem BR.bo {P:Program} {N:Nat} {μ μ':bw} {w w':World} {k:aY} {e:fx} (h:BR P N μ w k e) (hs:Sub μ μ') (hz:w.heap.size≤w'.heap.size)
 (hb:bO k=false→w'.heap[e.a.block]? =w.heap[e.a.block]?):BR P N μ' w' k e:=by
 cases k with
 |cells own t len c=>cases own with
  |true=>obtain ⟨g,sz,cur,rfl,hN,h1,h2,h3,h4⟩:=h;exact ⟨g,sz,cur,rfl,hN,(hb rfl).trans h1,h2,h3,h4.mono hs⟩
  |false=>
   refine ⟨h.1,VX h.2.1 hz,fun i hi=>?_⟩
   obtain ⟨av,v,h1,h2,h3,h4⟩:=h.2.2 i hi
   exact ⟨av,v,h1,(qO (by rw [w6];exact hb rfl)).trans h2,h3.mono hs,h4⟩
 |map es=>obtain ⟨g,en,cl,rfl,hN,h1,h2,h3⟩:=h;exact ⟨g,en,cl,rfl,hN,(hb rfl).trans h1,h2.mono hs,h3⟩
 |fY s p=>obtain ⟨g,bs,rfl,hN,h1,h2⟩:=h;exact ⟨g,bs,rfl,hN,(hb rfl).trans h1,h2⟩
 |loop lp=>obtain ⟨g,r,rfl,hN,h1,h2⟩:=h;exact ⟨g,r,rfl,hN,(hb rfl).trans h1,h2.mono hs⟩
 |deferred d=>obtain ⟨g,rfl,hN,h1⟩:=h;exact ⟨g,rfl,hN,(hb rfl).trans h1⟩
 |dead=>exact ⟨h.1,VX h.2 hz⟩
 |Cr m=>obtain ⟨g,rfl,hN,h1⟩:=h;exact ⟨g,rfl,hN,by rw [hb rfl];exact h1.mono hs⟩
 |frozen o=>obtain ⟨g,rfl,hN,h1⟩:=h;exact ⟨g,rfl,hN,(hb rfl).trans h1⟩
 |vec own t ts n x=>
  obtain ⟨l,h1,h2,h3,h⟩:=h
  refine ⟨l,h1,h2,h3,?_⟩
  rcases h with ⟨rfl,q1,q2,q3⟩ |⟨g,cur,rfl,hN,q1,q2,q3⟩
  ·exact .inl ⟨rfl,q1,VX q2 hz,q3⟩
  ·exact .inr ⟨g,cur,rfl,hN,(hb rfl).trans q1,q2,fun j d hj=>let ⟨u,r1,r2,r3⟩:=q3 j d hj;⟨u,r1,r2.mono hs.fz,fun ho=>hs.fz _ _ (r3 ho)⟩⟩
 |bY g kt ts x=>obtain ⟨l,h1,h2,h3,G,ents,clock,ms,rfl,hN,q1,q2,q3,q4⟩:=h;exact ⟨l,h1,h2,h3,G,ents,clock,ms,rfl,hN,(hb rfl).trans q1,q2,q3.mono hs.fz,q4⟩
 |eE t ts n x i v=>obtain ⟨l,iv,h1,h2,h3,h4,h5,g,cur,V,rfl,hN,q1,q2,q3,q4,q5,q6,q7⟩:=h;exact ⟨l,iv,h1,h2,h3,h4,h5,g,cur,V,rfl,hN,(hb rfl).trans q1,q2,fun j d hj hne=>let ⟨u,r1,r2⟩:=q3 j d hj hne;⟨u,r1,r2.mono hs.fz⟩,q4,q5,q6.mono hs,q7⟩
def writes:aY→Bool
 | .cells own _ _ _=>own
 | .vec own _ _ _ _=>own
 | .dead=>false
 |_=>true
structure SR (P:Program) (N:Nat) (μ:bw) (σ:St) (w:World):Prop where
 bU: ∀b e,μ b=some e→∃k,σ.h.get b=some k∧BR P N μ w k e
 inj: ∀b b' e e' k k',μ b=some e→μ b'=some e'→σ.h.get b=some k→σ.h.get b'=some k'→bO k=false→bO k'=false→N≤e.a.block→e.a.block=e'.a.block→b=b'
 lt: ∀b e,μ b=some e→b.toNat<σ.n.toNat
 hN:N≤w.heap.size
 eZ: ∀g,g<P.globals.size→μ (pos g)=some ⟨⟨g,0,none⟩,none⟩
 hn:Env.n≤N
 base:Env.base w
 fW: ∀ad v,μ.fz ad=some v→w.cell? ad=some v
 apart: ∀b e k,μ b=some e→σ.h.get b=some k→writes k=true→N≤e.a.block→∀ad v,μ.fz ad=some v→ad.block≠e.a.block
structure Ev (N:Nat) (μ:bw) (w w':World):Prop where
 os:w'.os=w.os
 tape:w'.tape=w.tape
 output:w'.output=w.output
 size:w.heap.size≤w'.heap.size
 same: ∀k,k<w.heap.size→(k<N∨∀b e,μ b=some e→e.a.block≠k)→w'.heap[k]? =w.heap[k]?
structure Ext (μ μ':bw) (w:World):Prop where
 sub:Sub μ μ'
 new: ∀b e,μ' b=some e→w.heap.size≤e.a.block∨∃b₀ e₀,μ b₀=some e₀∧e₀.a.block=e.a.block
 fZ: ∀ad v,μ'.fz ad=some v→μ.fz ad=some v∨w.heap.size≤ad.block∨∃b₀ e₀,μ b₀=some e₀∧e₀.a.block=ad.block
theorem Ev.refl (N:Nat) (μ:bw) (w:World):Ev N μ w w:=⟨rfl,rfl,rfl,VY _,fun _ _ _=>rfl⟩
theorem Ext.refl (μ:bw) (w:World):Ext μ μ w:=⟨Sub.refl μ,fun b e h=>.inr ⟨b,e,h,rfl⟩,fun _ _ h=>.inl h⟩
theorem Ext.trans {N:Nat} {μ μ' μ'':bw} {w w':World} (h:Ext μ μ' w) (hv:Ev N μ w w') (k:Ext μ' μ'' w'):Ext μ μ'' w:=
 ⟨h.sub.trans k.sub,fun b e hb=>by
  rcases k.new b e hb with h1 |⟨b₀,e₀,h1,h2⟩
  ·exact .inl (VZ hv.size h1)
  ·rcases h.new b₀ e₀ h1 with h3 |⟨b₁,e₁,h3,h4⟩
   ·exact .inl (h2▸h3)
   ·exact .inr ⟨b₁,e₁,h3,h4.trans h2⟩,fun ad v ha=>by
  rcases k.fZ ad v ha with h1 |h1 |⟨b₀,e₀,h1,h2⟩
  ·exact h.fZ ad v h1
  ·exact .inr (.inl (VZ hv.size h1))
  ·rcases h.new b₀ e₀ h1 with h3 |⟨b₁,e₁,h3,h4⟩
   ·exact .inr (.inl (h2▸h3))
   ·exact .inr (.inr ⟨b₁,e₁,h3,h4.trans h2⟩)⟩
theorem Ev.trans {N:Nat} {μ μ':bw} {w w' w'':World} (h:Ev N μ w w') (hx:Ext μ μ' w) (k:Ev N μ' w' w''):Ev N μ w w'':=
 ⟨k.os.trans h.os,k.tape.trans h.tape,k.output.trans h.output,VZ h.size k.size,fun j hj hc=>by
  refine (k.same j (VX hj h.size) ?_).trans (h.same j hj hc)
  rcases hc with hc |hc
  ·exact .inl hc
  ·refine .inr fun b e hb hne=>?_
   rcases hx.new b e hb with h1 |⟨b₀,e₀,h1,h2⟩
   ·omega
   ·exact hc b₀ e₀ h1 (h2.trans hne)⟩
structure bF (P:Program) (N:Nat) (μ:bw) (σ:St) (w:World) (μ':bw) (σ':St) (w':World):Prop where
 ext:Ext μ μ' w
 fresh: ∀b e,μ' b=some e→μ b=some e∨σ.n.toNat≤b.toNat
 le:σ.n.toNat≤σ'.n.toNat
 ev:Ev N μ w w'
 sr:SR P N μ' σ' w'
theorem SR.stay {P:Program} {N:Nat} {μ:bw} {σ:St} {w:World} (h:SR P N μ σ w):bF P N μ σ w μ σ w:=⟨Ext.refl _ _,fun _ _ h=>.inl h,VY _,Ev.refl _ _ _,h⟩
theorem bF.trans {P:Program} {N:Nat} {μ μ' μ'':bw} {σ σ' σ'':St} {w w' w'':World} (h:bF P N μ σ w μ' σ' w') (k:bF P N μ' σ' w' μ'' σ'' w''):bF P N μ σ w μ'' σ'' w'':=
 ⟨h.ext.trans h.ev k.ext,fun b e hb=>(k.fresh b e hb).elim (fun q=>h.fresh b e q) (fun q=>.inr (VZ h.le q)),VZ h.le k.le,h.ev.trans h.ext k.ev,k.sr⟩
def dm (μ:bw) (b:Pos) (e:fx):bw:=⟨fun x=>if x=b then some e else μ x,μ.fz⟩
theorem bG (μ:bw) (b:Pos) (e:fx):dm μ b e b=some e:=if_pos rfl
theorem ct (μ:bw) {b x:Pos} (e:fx) (h:x≠b):dm μ b e x=μ x:=if_neg h
theorem pA {μ:bw} {b:Pos} {e:fx} (h:μ b=some e):dm μ b e=μ:=by
 have:(dm μ b e).f=μ.f:=by
  funext x
  by_cases hx:x=b
  ·subst hx;rw [bG,h]
  ·exact ct μ e hx
 obtain ⟨f,fz⟩:=μ
 exact congrArg (fun g=>bw.mk g fz) this
theorem eJ {μ:bw} {b:Pos} {e:fx} (h:μ b=none∨μ b=some e):Sub μ (dm μ b e):=⟨fun x e' hx=>by
 by_cases hxb:x=b
 ·subst hxb
  rcases h with h |h
  ·rw [h] at hx;cases hx
  ·rw [bG,←h];exact hx
 ·rw [ct μ e hxb];exact hx,fun _ _ h=>h⟩
theorem SR.CY {P:Program} {N:Nat} {μ:bw} {σ σ':St} {w w':World} (h:SR P N μ σ w) {b:Pos} {e:fx} {k:aY} (row:Option Nat) (hg:w.grownBy w' row)
 (hb:μ b=some e∨(μ b=none∧σ.n.toNat≤b.toNat∧(w.heap.size≤e.a.block∨∃b₀ e₀,μ b₀=some e₀∧e₀.a.block=e.a.block)))
 (hh: ∀x,σ'.h.get x=if b=x then some k else σ.h.get x) (hn:σ.n.toNat≤σ'.n.toNat) (hbn:b.toNat<σ'.n.toNat)
 (hbr:BR P N (dm μ b e) w' k e)
 (hrow: ∀g,row=some g→N≤g∧(∃b₀ e₀,μ b₀=some e₀∧e₀.a.block=g)∧∀x ex kx,x≠b→μ x=some ex→σ.h.get x=some kx→bO kx=false→ex.a.block≠g)
 (hinj:bO k=false→N≤e.a.block→∀x ex kx,x≠b→μ x=some ex→σ.h.get x=some kx→bO kx=false→ex.a.block≠e.a.block)
 (hfr: ∀g,row=some g→∀ad v,μ.fz ad=some v→ad.block=g→w'.cell? ad=some v) (hap:writes k=true→N≤e.a.block→∀ad v,μ.fz ad=some v→ad.block≠e.a.block):
 bF P N μ σ w (dm μ b e) σ' w':=by
 have hsub:Sub μ (dm μ b e):=eJ (hb.elim .inr fun hb=>.inl hb.1)
 refine ⟨⟨hsub,fun x ex hx=>?_,fun _ _ h=>.inl h⟩,fun x ex hx=>(by
  by_cases hxb:x=b
  ·subst hxb
   rw [bG] at hx
   cases hx
   exact hb.elim .inl fun q=>.inr q.2.1
  ·rw [ct μ e hxb] at hx
   exact .inl hx),hn,⟨hg.os,hg.tape,hg.output,hg.size,fun j hj hc=>?_⟩,⟨fun x ex hx=>?_,?_,fun x ex hx=>?_,VZ h.hN hg.size,fun g hg=>hsub _ _ (h.eZ g hg),h.hn,
  Env.bo w w' hg.size (fun k hk=>hg.block k (by have:=h.hn;have:=h.hN;omega) fun he=>by have:=(hrow k he.symm).1;have:=h.hn;omega) h.base,
  fun ad v ha=>(by
   have hc:=h.fW ad v ha
   by_cases hr:row=some ad.block
   ·exact hfr _ hr ad v ha rfl
   ·rw [qO (hg.block _ (kH hc) fun he=>hr he.symm)];exact hc),
  fun x ex kx hx gx hw hNx ad v ha=>(by
   by_cases hxb:x=b
   ·subst hxb
    rw [bG] at hx
    cases hx
    rw [hh,if_pos rfl] at gx
    cases gx
    exact hap hw hNx ad v ha
   ·rw [ct μ e hxb] at hx
    rw [hh,if_neg (fun h=>hxb h.symm)] at gx
    exact h.apart x ex kx hx gx hw hNx ad v ha)⟩⟩
 ·by_cases hxb:x=b
  ·subst hxb
   rw [bG] at hx
   cases hx
   rcases hb with hb |hb
   ·exact .inr ⟨x,e,hb,rfl⟩
   ·exact hb.2.2
  ·rw [ct μ e hxb] at hx
   exact .inr ⟨x,ex,hx,rfl⟩
 ·refine hg.block j hj fun he=>?_
  obtain ⟨h1,⟨b₀,e₀,h2,h3⟩,_⟩:=hrow j he.symm
  rcases hc with hc |hc
  ·omega
  ·exact hc b₀ e₀ h2 h3
 ·by_cases hxb:x=b
  ·subst hxb
   rw [bG] at hx
   cases hx
   exact ⟨k,by rw [hh,if_pos rfl],hbr⟩
  ·rw [ct μ e hxb] at hx
   obtain ⟨kx,h1,h2⟩:=h.bU x ex hx
   refine ⟨kx,by rw [hh,if_neg (fun h=>hxb h.symm)];exact h1,h2.bo hsub hg.size fun hd=>hg.block _ h2.lt fun he=>?_⟩
   exact (hrow _ he.symm).2.2 x ex kx hxb hx h1 hd rfl
 ·intro x y ex ey kx ky hx hy gx gy dx dy hN hxy
  by_cases hxb:x=b
  ·by_cases hyb:y=b
   ·rw [hxb,hyb]
   ·subst hxb
    rw [bG] at hx
    cases hx
    rw [ct μ e hyb] at hy
    rw [hh,if_pos rfl] at gx
    cases gx
    rw [hh,if_neg (fun h=>hyb h.symm)] at gy
    exact absurd hxy.symm (hinj dx hN y ey ky hyb hy gy dy)
  ·rw [ct μ e hxb] at hx
   rw [hh,if_neg (fun h=>hxb h.symm)] at gx
   by_cases hyb:y=b
   ·subst hyb
    rw [bG] at hy
    cases hy
    rw [hh,if_pos rfl] at gy
    cases gy
    exact absurd hxy (hinj dy (hxy▸hN) x ex kx hxb hx gx dx)
   ·rw [ct μ e hyb] at hy
    rw [hh,if_neg (fun h=>hyb h.symm)] at gy
    exact h.inj x y ex ey kx ky hx hy gx gy dx dy hN hxy
 ·by_cases hxb:x=b
  ·subst hxb;exact hbn
  ·rw [ct μ e hxb] at hx
   exact VX (h.lt x ex hx) hn
theorem bP (σ:St) (k:aY) (x:Pos):(σ.push k).h.get x=if σ.n=x then some k else σ.h.get x:=by cases σ;exact ji _ _ _ _
theorem eh (σ:St) (k:aY):(σ.push k).n=σ.n.succ:=by cases σ;rfl
theorem fM (σ:St) (b:Pos) (k:aY) (x:Pos):(σ.put b k).h.get x=if b=x then some k else σ.h.get x:=by cases σ;exact ji _ _ _ _
theorem jj (σ:St) (b:Pos) (k:aY):(σ.put b k).n=σ.n:=by cases σ;rfl
theorem SR.fresh {P:Program} {N:Nat} {μ:bw} {σ:St} {w:World} (h:SR P N μ σ w):μ σ.n=none:=by
 cases hm:μ σ.n with
 |none=>rfl
 |some e=>have:=h.lt _ _ hm;omega
theorem SR.laid {P:Program} {N:Nat} {μ:bw} {σ:St} {w w':World} (h:SR P N μ σ w) {e:fx} {k:aY} (hg:w.grownBy w' none) (he:w.heap.size≤e.a.block)
 (hbr:BR P N (dm μ σ.n e) w' k e):bF P N μ σ w (dm μ σ.n e) (σ.push k) w':=by
 refine h.CY none hg (.inr ⟨h.fresh,VY _,.inl he⟩) (bP σ k) (by rw [eh,Pos.bZ];omega) (by rw [eh,Pos.bZ];omega) hbr (fun g hg=>by cases hg) ?_ (fun g hg=>by cases hg) (fun _ _ ad v ha hb=>absurd (kH (h.fW ad v ha)) (by omega))
 intro _ _ x ex kx hx hm hk hd hne
 obtain ⟨k',h1,h2⟩:=h.bU x ex hm
 have:=h2.lt
 omega
theorem SR.jA {P:Program} {N:Nat} {μ:bw} {σ:St} {w w':World} (h:SR P N μ σ w) {b:Pos} {e:fx} {k k₀:aY} (hb:μ b=some e) (hk:σ.h.get b=some k₀) (hd:bO k₀=false) (hN:N≤e.a.block)
 (hg:w.grownBy w' (some e.a.block)) (hbr:BR P N μ w' k e) (hwr:writes k₀=true:=by rfl):bF P N μ σ w μ (σ.put b k) w':=by
 have hx: ∀x ex kx,x≠b→μ x=some ex→σ.h.get x=some kx→bO kx=false→ex.a.block≠e.a.block:=fun x ex kx hne hm hkx hdx heq=>
  hne (h.inj x b ex e kx k₀ hm hb hkx hk hdx hd (heq▸hN) heq)
 have:=h.CY (b:=b) (e:=e) (k:=k) (σ':=σ.put b k) (some e.a.block) hg (.inl hb) (fM σ b k) (by rw [jj];exact VY _) (by rw [jj];exact h.lt b e hb) (by rw [pA hb];exact hbr)
  (fun g hg=>by cases hg;exact ⟨hN,⟨b,e,hb,rfl⟩,hx⟩) (fun _ _=>hx) (fun g hg ad v ha hbl=>by cases hg;exact absurd hbl (h.apart b e k₀ hb hk hwr hN ad v ha))
  (fun _ _ ad v ha=>h.apart b e k₀ hb hk hwr hN ad v ha)
 rwa [pA hb] at this
end
section
open Go Go.RowKit
theorem Mk {a b:NM} (h:O6 a b=true):a=b:=by
 cases a<;>cases b<;>first |rfl |(cases h;done) |skip
 all_goals simp only [O6,V1,decide_eq_true_eq,fL] at h
 all_goals first
  |(obtain ⟨h1,h2⟩:=h;first |(subst h1;subst h2;rfl) |(rw [VN h1,VN h2]))
  |(subst h;rfl)
  |(rw [VN h])
mutual
theorem cI: ∀{a b:Tm},cp a b=true→a=b
 | .var n,b,h=>by
  cases b<;>first |(unfold cp at h;cases h;done) |skip
  unfold cp at h;rw [VN h]
 | .int k n,b,h=>by
  cases b<;>first |(unfold cp at h;cases h;done) |skip
  unfold cp at h
  rw [V1,fL,gf] at h
  rw [of_decide_eq_true h.1,eq_of_beq h.2]
 | .bool x,b,h=>by
  cases b<;>first |(unfold cp at h;cases h;done) |skip
  unfold cp at h;rw [eq_of_beq h]
 | .str l,b,h=>by
  cases b<;>first |(unfold cp at h;cases h;done) |skip
  rename_i m
  unfold cp at h
  replace h:wM l m=true:=h
  rw [fK] at h;rw [eq_of_beq h]
 | .op o l,b,h=>by
  cases b<;>first |(unfold cp at h;cases h;done) |skip
  unfold cp at h
  obtain ⟨h1,h2⟩:=bB h
  rw [Mk h1,AD h2]
theorem AD: ∀{a b:List Tm},wN a b=true→a=b
 |[],b,h=>by
  cases b<;>first |rfl |(unfold wN at h;cases h)
 |x::l,b,h=>by
  cases b<;>first |(unfold wN at h;cases h;done) |skip
  unfold wN at h
  obtain ⟨h1,h2⟩:=bB h
  rw [cI h1,AD h2]
end
mutual
theorem kI: ∀{a b:Ty},lM a b=true→a=b
 | .int k,b,h=>by
  cases b<;>first |(unfold lM at h;cases h;done) |skip
  rename_i m
  unfold lM at h
  replace h:th k m=true:=h
  rw [fL] at h;rw [of_decide_eq_true h]
 | .bool,b,h=>by cases b<;>first |rfl |(unfold lM at h;cases h)
 | .str,b,h=>by cases b<;>first |rfl |(unfold lM at h;cases h)
 | .aF l,b,h=>by
  cases b<;>first |(unfold lM at h;cases h;done) |skip
  unfold lM at h;rw [bW h]
 | .ref l,b,h=>by
  cases b<;>first |(unfold lM at h;cases h;done) |skip
  unfold lM at h;rw [bW h]
theorem bW: ∀{a b:List Ty},bV a b=true→a=b
 |[],b,h=>by cases b<;>first |rfl |(unfold bV at h;cases h)
 |x::l,b,h=>by
  cases b<;>first |(unfold bV at h;cases h;done) |skip
  unfold bV at h
  obtain ⟨h1,h2⟩:=bB h
  rw [kI h1,bW h2]
end
section
variable [Env]
theorem cj {t:Tm} {b:Bool} (h:dB t=some b):ev t= .bool b:=by
 have key: ∀l:List (Tm×Bool),(∀c∈l,bh Env.ρ c.1= .bool c.2)→@Vu (Tm×Bool) (fun _=>Option Bool) none (fun c _ ih=>au (cp c.1 t) (some c.2) ih) l=some b→ev t= .bool b:=by
  intro l
  induction l with
  |nil=>intro _ h;cases h
  |cons c l ih=>
   intro hl h
   replace h:au (cp c.1 t) (some c.2) (@Vu (Tm×Bool) (fun _=>Option Bool) none (fun c _ ih=>au (cp c.1 t) (some c.2) ih) l)=some b:=h
   cases hc:cp c.1 t with
   |true=>
    rw [hc] at h
    cases h
    rw [←cI hc]
    exact hl c (V2 ..)
   |false=>rw [hc] at h;exact ih (fun c hc=>hl c (V3 _ hc)) h
 exact key _ Env.conds h
theorem gh {t:Tm} (h:qA t=true):ev t= .bool true:=by
 unfold qA at h
 cases hd:dB t with
 |none=>rw [hd] at h;cases h
 |some b=>
  rw [hd] at h
  have h:b=true:=h
  subst h
  exact cj hd
section
variable {P:Program} {μ:bw}
theorem nO {fz:Addr→Option Value} (ad:Addr) {c:Nat} (hm:c≤maxLen):dY fz (.aF []) (.slice (some ad) 0 c):=
 .aF [] ad c (fun _=>undef) (Nat.zero_le _) hm (fun j hj=>absurd hj (Nat.not_lt_zero _)) (fun j d hj=>by simp at hj)
theorem ff {v:AV} {u:Value} {t:Ty} {x:Tm} (h:VR P μ v u) (ht:lR v=some (t,x)):bx t (ev x)∧dY μ.fz (ev x) u:=by
 cases v<;>first |(cases ht;done) |skip
 case bool b=>cases ht;cases h;exact ⟨⟨b,rfl⟩,.bool b⟩
 case int k n=>cases ht;cases h;exact ⟨⟨n,rfl⟩,.int k n⟩
 case str l=>cases ht;cases h with |str _ s hs=>exact ⟨⟨l,rfl⟩,.str l s hs⟩
 case an=>cases ht;cases h;exact ⟨⟨[],rfl,fun r hr=>absurd hr VS⟩,.nil⟩
 case e0 z=>cases ht;cases h with |e0 _ ad c _ hm=>exact ⟨⟨[],rfl,fun r hr=>absurd hr VS⟩,nO ad hm⟩
 case tm t x=>cases ht;cases h with |tm _ _ _ h1 h2=>exact ⟨h1,h2⟩
theorem nQ {v:AV} {u:Value} {b:Bool} (h:VR P μ v u) (hb:fH v=some b):u= .bool b:=by
 cases v<;>first |(cases hb;done) |skip
 case bool c=>cases hb;cases h;rfl
 case tm t x=>
  cases t<;>first |(cases hb;done) |skip
  have he:=cj (show dB x=some b from hb)
  cases h with
  |tm _ _ _ h1 h2=>rw [he] at h2;cases h2;rfl
theorem il {t:Tm} {b:Bool} (h:ev t= .bool b):VR P μ (ye t) (.bool b):=by
 unfold ye
 cases hd:dB t with
 |none=>exact .tm .bool t _ ⟨b,h⟩ (by rw [h];exact .bool b)
 |some c=>
  have:=cj hd
  rw [h] at this
  cases this
  exact .bool b
theorem bH (o:NM) (l:List Tm):ev (.op o l)=cw o (l.map ev):=by
 have: ∀l:List Tm,aL Env.ρ l=l.map ev:=by
  intro l
  induction l with
  |nil=>rfl
  |cons x l ih=>simp only [aL,VT,ih];rfl
 show cw o (aL Env.ρ l)=_
 rw [this]
theorem IF {t:Tm} {q:Tm×Tm} (h:ti t=some q):t= .op (.cmp .eql) [q.1,q.2]:=by
 unfold ti at h
 split at h
 ·cases h;rfl
 ·cases h
theorem AE {y x:Tm} (h:HK y=some x):ev (.op (.cmp .eql) [x,y])= .bool true:=by
 have key: ∀l:List (Tm×Bool),(∀c∈l,bh Env.ρ c.1= .bool c.2)→@Vu (Tm×Bool) (fun _=>Option Tm) none (fun c _ ih=>au c.2 (@Vm (Tm×Tm) (fun _=>Option Tm) ih (fun q=>au (cp q.2 y) (some q.1) ih) (ti c.1)) ih) l=some x→ev (.op (.cmp .eql) [x,y])= .bool true:=by
  intro l
  induction l with
  |nil=>intro _ h;cases h
  |cons c l ih=>
   intro hl h
   have ih:=ih fun c hc=>hl c (V3 _ hc)
   obtain ⟨t,b⟩:=c
   cases b with
   |false=>exact ih h
   |true=>
    have hc:bh Env.ρ t= .bool true:=hl _ (V2 ..)
    cases hq:ti t with
    |none=>
     replace h: @Vm (Tm×Tm) (fun _=>Option Tm) _ (fun q=>au (cp q.2 y) (some q.1) _) (ti t)=some x:=h
     rw [hq] at h
     exact ih h
    |some q=>
     replace h: @Vm (Tm×Tm) (fun _=>Option Tm) _ (fun q=>au (cp q.2 y) (some q.1) _) (ti t)=some x:=h
     rw [hq] at h
     replace h:au (cp q.2 y) (some q.1) _=some x:=h
     cases he:cp q.2 y with
     |false=>rw [he] at h;exact ih h
     |true=>
      rw [he] at h
      cases h
      rw [IF hq,cI he] at hc
      exact hc
 exact key _ Env.conds h
theorem AF {i j:Tm} {k:IntKind} {n:Int} (h:ev (.op (.cmp .eql) [i,j])= .bool true):(ev i= .int k n→∃k',ev j= .int k' n)∧(ev j= .int k n→∃k',ev i= .int k' n):=by
 rw [bH] at h
 simp only [VT,VU] at h
 constructor
 ·intro hi
  rw [hi] at h
  generalize ev j=d at h⊢
  cases d<;>first |(cases h;done) |skip
  rename_i k' m
  replace h:D.bool (n==m)= .bool true:=h
  injection h with h
  exact ⟨k',by rw [eq_of_beq h]⟩
 ·intro hj
  rw [hj] at h
  generalize ev i=d at h⊢
  cases d<;>first |(cases h;done) |skip
  rename_i k' m
  replace h:D.bool (m==n)= .bool true:=h
  injection h with h
  exact ⟨k',by rw [eq_of_beq h]⟩
theorem t7 {i j:Tm} {k:IntKind} {n:Int} (h:qB i j=true) (hi:ev i= .int k n): ∃k',ev j= .int k' n:=by
 unfold qB at h
 cases he:cp i j with
 |true=>rw [←cI he];exact ⟨k,hi⟩
 |false=>
  rw [he] at h
  exact (AF (gh h)).1 hi
theorem yG {k:IntKind} {x:Tm} {n m:Int} (h:qC k x=some n) (hx:ev x= .int k m):m=n:=by
 have key: ∀l:List (Tm×Bool),(∀c∈l,bh Env.ρ c.1= .bool c.2)→@Vu (Tm×Bool) (fun _=>Option Int) none (fun c _ ih=>
  au c.2 (@Vm (Tm×IntKind×Int) (fun _=>Option Int) ih (fun q=>au (cp q.1 x&&th q.2.1 k) (some q.2.2) ih) (wO c.1)) ih) l=some n→m=n:=by
  intro l
  induction l with
  |nil=>intro _ h;cases h
  |cons c l ih=>
   intro hl h
   have ih:=ih fun c hc=>hl c (V3 _ hc)
   obtain ⟨t,b⟩:=c
   cases b with
   |false=>exact ih h
   |true=>
    have hc:bh Env.ρ t= .bool true:=hl _ (V2 ..)
    cases hq:wO t with
    |none=>
     replace h: @Vm (Tm×IntKind×Int) (fun _=>Option Int) _ (fun q=>au (cp q.1 x&&th q.2.1 k) (some q.2.2) _) (wO t)=some n:=h
     rw [hq] at h
     exact ih h
    |some q=>
     obtain ⟨y,j,v⟩:=q
     replace h: @Vm (Tm×IntKind×Int) (fun _=>Option Int) _ (fun q=>au (cp q.1 x&&th q.2.1 k) (some q.2.2) _) (wO t)=some n:=h
     rw [hq] at h
     cases he:(cp y x&&th j k) with
     |false=>
      replace h:au (cp y x&&th j k) (some v) _=some n:=h
      rw [he] at h
      exact ih h
     |true=>
      replace h:au (cp y x&&th j k) (some v) _=some n:=h
      rw [he] at h
      cases h
      rw [V1] at he
      have e1:=cI he.1
      subst e1
      unfold wO at hq
      split at hq
      ·cases hq
       have h2:cw (.cmp .eql) [ev y,.int j n]= .bool true:=by
        have:=hc
        rw [show bh Env.ρ (Tm.op (.cmp .eql) [y,.int j n])=ev (Tm.op (.cmp .eql) [y,.int j n]) from rfl,bH] at this
        exact this
       rw [hx] at h2
       simpa [cw,AB] using h2
      ·cases hq
 exact key _ Env.conds h
theorem yH {x:Tm} {n m:List Nat} (h:qD x=some n) (hx:ev x= .str m):m=n:=by
 have key: ∀l:List (Tm×Bool),(∀c∈l,bh Env.ρ c.1= .bool c.2)→@Vu (Tm×Bool) (fun _=>Option (List Nat)) none (fun c _ ih=>
  au c.2 (@Vm (Tm×List Nat) (fun _=>Option (List Nat)) ih (fun q=>au (cp q.1 x) (some q.2) ih) (wP c.1)) ih) l=some n→m=n:=by
  intro l
  induction l with
  |nil=>intro _ h;cases h
  |cons c l ih=>
   intro hl h
   have ih:=ih fun c hc=>hl c (V3 _ hc)
   obtain ⟨t,b⟩:=c
   cases b with
   |false=>exact ih h
   |true=>
    have hc:bh Env.ρ t= .bool true:=hl _ (V2 ..)
    cases hq:wP t with
    |none=>
     replace h: @Vm (Tm×List Nat) (fun _=>Option (List Nat)) _ (fun q=>au (cp q.1 x) (some q.2) _) (wP t)=some n:=h
     rw [hq] at h
     exact ih h
    |some q=>
     obtain ⟨y,v⟩:=q
     replace h: @Vm (Tm×List Nat) (fun _=>Option (List Nat)) _ (fun q=>au (cp q.1 x) (some q.2) _) (wP t)=some n:=h
     rw [hq] at h
     cases he:cp y x with
     |false=>
      replace h:au (cp y x) (some v) _=some n:=h
      rw [he] at h
      exact ih h
     |true=>
      replace h:au (cp y x) (some v) _=some n:=h
      rw [he] at h
      cases h
      have e1:=cI he
      subst e1
      unfold wP at hq
      split at hq
      ·cases hq
       have h2:cw (.kr .eql) [ev y,.str n]= .bool true:=by
        have:=hc
        rw [show bh Env.ρ (Tm.op (.kr .eql) [y,.str n])=ev (Tm.op (.kr .eql) [y,.str n]) from rfl,bH] at this
        exact this
       rw [hx] at h2
       simpa [cw,Pw] using h2
      ·cases hq
 exact key _ Env.conds h
theorem dq {t:Ty} {x:Tm} {u:Value} (ht:bx t (ev x)) (h:dY μ.fz (ev x) u):VR P μ (fI t x) u:=by
 cases t with
 |int k=>
  obtain ⟨m,hm⟩:=ht
  show VR P μ (@Vm Int (fun _=>AV) (.tm (.int k) x) (fun n=>.int k n) (qC k x)) u
  cases hc:qC k x with
  |none=>exact .tm _ _ _ (show ∃n,_ from ⟨m,hm⟩) h
  |some n=>
   have:=yG hc hm
   subst this
   rw [hm] at h
   cases h
   exact .int k m
 |str=>
  obtain ⟨m,hm⟩:=ht
  show VR P μ (@Vm (List Nat) (fun _=>AV) (.tm .str x) (fun l=>.str l) (qD x)) u
  cases hc:qD x with
  |none=>exact .tm _ _ _ (show ∃n,_ from ⟨m,hm⟩) h
  |some n=>
   have:=yH hc hm
   subst this
   rw [hm] at h
   cases h with
   |str _ s hs=>exact .str m s hs
 |bool=>
  obtain ⟨m,hm⟩:=ht
  rw [hm] at h
  cases h
  exact il hm
 |aF ts=>exact .tm _ _ _ ht h
 |ref ts=>exact .tm _ _ _ ht h
theorem Ml (x:Tm):(ye x).one=true:=by
 unfold ye
 cases dB x<;>rfl
theorem CZ (t:Ty) (x:Tm):(fI t x).one=true:=by
 cases t with
 |int k=>
  show (@Vm Int (fun _=>AV) (.tm (.int k) x) (fun n=>.int k n) (qC k x)).one=true
  cases qC k x<;>rfl
 |str=>
  show (@Vm (List Nat) (fun _=>AV) (.tm .str x) (fun l=>.str l) (qD x)).one=true
  cases qD x<;>rfl
 |bool=>exact Ml x
 |aF ts=>rfl
 |ref ts=>rfl
theorem t8 {v:AV} {u:Value} (h:VR P μ v u):VR P μ (lS v) u:=by
 cases v<;>first |exact h |skip
 cases h with |tm _ _ _ h1 h2=>exact dq h1 h2
theorem yI {i:Tm} {n:Int} (h:CA i=some n): ∃k,ev i= .int k n:=by
 cases i<;>first |(cases h;done) |skip
 cases h
 exact ⟨_,rfl⟩
theorem jk {i:Tm} {k:IntKind} {n:Int} (h:lN i=true) (hi:ev i= .int k n):0≤n:=by
 unfold lN at h
 cases hl:CA i with
 |none=>
  rw [hl] at h
  have:=gh (show qA (.op (.cmp .leq) [.int .i64 0,i])=true from h)
  rw [bH] at this
  simp only [VT,VU,hi] at this
  have e:ev (.int .i64 0)= .int .i64 0:=rfl
  rw [e] at this
  simpa [cw,AB] using this
 |some m=>
  rw [hl] at h
  obtain ⟨j,e⟩:=yI hl
  rw [hi] at e
  cases e
  have h:(!HJ n 0)=true:=h
  rw [mg] at h
  simpa using h
theorem iA {i m:Tm} {k j:IntKind} {a b:Int} (h:gb i m=true) (hi:ev i= .int k a) (hm:ev m= .int j b):a<b:=by
 have:=gh h
 rw [bH] at this
 simp only [VT,VU,hi,hm] at this
 simpa [cw,AB] using this
theorem dT {i m:Tm} {k j:IntKind} {a b:Int} (h:dD i m=true) (hi:ev i= .int k a) (hm:ev m= .int j b):a≤b:=by
 unfold dD at h
 cases he:cp i m with
 |true=>
  have:=cI he
  subst this
  rw [hi] at hm
  cases hm
  exact Int.le_refl _
 |false=>
  rw [he] at h
  have:=gh (show qA (.op (.cmp .leq) [i,m])=true from h)
  rw [bH] at this
  simp only [VT,VU,hi,hm] at this
  simpa [cw,AB] using this
theorem Px {y:Tm} {k j:IntKind} {n:Int} (h:T3 k y=true) (hy:ev y= .int j n):n≠0:=by
 unfold T3 at h
 cases hl:CA y with
 |none=>
  rw [hl] at h
  have:=gh (show qA (.op (.cmp .lss) [.int k 0,y])=true from h)
  rw [bH] at this
  simp only [VT,VU,hy] at this
  have e:ev (.int k 0)= .int k 0:=rfl
  rw [e] at this
  have:decide ((0:Int)<n)=true:=by simpa [cw,AB] using this
  have:=of_decide_eq_true this
  omega
 |some m=>
  rw [hl] at h
  obtain ⟨j',e⟩:=yI hl
  rw [hy] at e
  cases e
  have h:(!F0 n 0)=true:=h
  rw [gf] at h
  simpa using h
theorem Ge {y:Tm} {j:IntKind} {n:Int} (h:yq y=true) (hy:ev y= .int j n):n≤100000000:=by
 unfold yq at h
 cases hl:CA y with
 |none=>
  rw [hl] at h
  exact dT (show dD y fc=true from h) hy (show ev fc= .int .i64 100000000 from rfl)
 |some m=>
  rw [hl] at h
  obtain ⟨j',e⟩:=yI hl
  rw [hy] at e
  cases e
  have h:(!HJ 100000000 n)=true:=h
  rw [mg] at h
  simpa using h
theorem AG {x:Tm} {l:List (List D)} (h:EE x=true) (hx:ev x= .aF l):l≠[]:=by
 have:=gh h
 rw [bH] at this
 have e:ev (.op .len [x])= .int .i64 l.length:=by rw [bH];simp only [VT,VU,hx];rfl
 simp only [VT,VU,e] at this
 have e0:ev (.int .i64 0)= .int .i64 0:=rfl
 rw [e0] at this
 rintro rfl
 simp [cw,AB] at this
end
end
theorem bD: ∀{ts:List Ty} {r:List D},aW ts r→r.length=ts.length
 |[],r,h=>by unfold aW at h;subst h;rfl
 |t::ts,r,h=>by
  unfold aW at h
  obtain ⟨d,r',rfl,_,h⟩:=h
  simp [bD h]
theorem gI: ∀{ts:List Ty} {r:List D} (k:Nat),aW ts r→aW (ts.drop k) (r.drop k)
 |ts,r,0,h=>h
 |[],r,k+1,h=>by unfold aW at h;subst h;simp [aW]
 |t::ts,r,k+1,h=>by
  unfold aW at h
  obtain ⟨d,r',rfl,_,h⟩:=h
  exact gI k h
theorem gJ: ∀{ts:List Ty} {r:List D} (k:Nat),aW ts r→aW (ts.take k) (r.take k)
 |ts,r,0,h=>by simp [aW]
 |[],r,k+1,h=>by unfold aW at h;subst h;simp [aW]
 |t::ts,r,k+1,h=>by
  unfold aW at h
  obtain ⟨d,r',rfl,h1,h⟩:=h
  rw [V4,V4]
  unfold aW
  exact ⟨d,_,rfl,h1,gJ k h⟩
theorem flat_get {l:List (List D)} {z:Nat} (hz: ∀r∈l,r.length=z) {i k:Nat} {r:List D} (hi:l[i]? =some r) (hk:k<z):l.flatten[i*z+k]? =r[k]? :=by
 induction l generalizing i with
 |nil=>simp at hi
 |cons a l ih=>
  have ha:a.length=z:=hz a (V2 ..)
  rw [V5]
  cases i with
  |zero=>
   simp at hi
   subst hi
   rw [Nat.zero_mul,Nat.zero_add,VJ (by omega)]
  |succ i=>
   rw [VL (by rw [ha,V6];omega),ha,show (i+1)*z+k - z=i*z+k from by rw [V6];omega]
   exact ih (fun r hr=>hz r (V3 _ hr)) (by simpa using hi)
theorem iO {l:List (List D)} {z:Nat} (hz: ∀r∈l,r.length=z):l.flatten.length=l.length*z:=by
 induction l with
 |nil=>simp
 |cons a l ih=>
  rw [V5,V7,hz a (V2 ..),ih fun r hr=>hz r (V3 _ hr),V8,V6]
  omega
section
variable [Env] {P:Program} {μ:bw}
theorem D.nR {r:List D} {k:Nat} {d:D} (h:r[k]? =some d):D.at r k=d:=by unfold D.at;rw [h]
theorem t9 {x:Tm} {r:List D} {k:Nat} (hx:ev x= .ref r) (hk:k<r.length):ev (o7 x k)=D.at r k:=by
 have gen:ev (.op (.cell k) [x])=D.at r k:=by rw [bH];simp only [VT,VU,hx];rfl
 unfold o7
 split
 ·rename_i o n y
  rw [gW]
  split
  ·rename_i hle
   have hle:=VQ hle
   rw [bH] at hx⊢
   simp only [VT,VU] at hx⊢
   cases hy:ev y with
   |ref r0=>
    rw [hy] at hx
    have hx:D.ref ((r0.drop o).take n)= .ref r:=hx
    injection hx with hx
    subst hx
    show D.at r0 (o+k)=_
    unfold D.at
    rw [VK,if_pos (show k<n from hle),VM]
   |_=>rw [hy] at hx;cases hx
  ·exact gen
 ·exact gen
theorem qP {x:Tm} {ts:List Ty} {u:Value} (ht:bx (.ref ts) (ev x)) (h:dY μ.fz (ev x) u): ∃(r:List D) (ad:Addr) (v:Nat→Value),ev x= .ref r∧aW ts r∧u= .pointer (some ad)∧(∀j,j<r.length→μ.fz (ad.add j)=some (v j))∧∀j d,r[j]? =some d→dY μ.fz d (v j):=by
 obtain ⟨r,h1,h2⟩:=ht
 rw [h1] at h
 cases h with
 |ref _ ad v hf hr=>exact ⟨r,ad,v,h1,h2,rfl,hf,hr⟩
theorem im {x:Tm} {r:List D} {v:Nat→Value} (hx:ev x= .ref r) (hr: ∀j d,r[j]? =some d→dY μ.fz d (v j)): ∀(ts:List Ty) (k:Nat),aW ts (r.drop k)→b8 P μ (gD x ts k) ((List.range' k ts.length).map v)∧cf (gD x ts k)=true
 |[],k,h=>⟨.nil,rfl⟩
 |t::ts,k,h=>by
  unfold aW at h
  obtain ⟨d,r',h1,h2,h3⟩:=h
  have hd:r[k]? =some d:=by
   have:(r.drop k)[0]? =some d:=by rw [h1];rfl
   simpa using this
  have hr':r.drop (k+1)=r':=by rw [←List.drop_drop,h1];rfl
  have hk:k<r.length:=(List.getElem?_eq_some_iff.1 hd).1
  have he:ev (o7 x k)=d:=(t9 hx hk).trans (D.nR hd)
  obtain ⟨g1,g2⟩:=im hx hr ts (k+1) (by rw [hr'];exact h3)
  refine ⟨.cons _ _ _ _ (dq (by rw [he];exact h2) (by rw [he];exact hr k d hd)) g1,?_⟩
  show au (fI t (o7 x k)).one (cf (gD x ts (k+1))) false=true
  rw [CZ,g2]
theorem w7 {j:AV} {u:Value} {i:Tm} (h:VR P μ j u) (hi:HL j=some i): ∃k n,ev i= .int k n∧u= .int k n:=by
 cases j<;>first |(cases hi;done) |skip
 case int k n=>cases hi;cases h;exact ⟨k,n,rfl,rfl⟩
 case tm t x=>
  cases t<;>first |(cases hi;done) |skip
  cases hi
  cases h with
  |tm _ _ _ h1 h2=>
   obtain ⟨n,hn⟩:=h1
   rw [hn] at h2
   cases h2
   exact ⟨_,n,hn,rfl⟩
theorem Gf {j:AV} {u:Value} {x:Tm} (h:VR P μ j u) (hi:NN j=some x): ∃s:ByteArray,ev x= .str (s.data.toList.map (·.toNat))∧u= .string s:=by
 cases j<;>first |(cases hi;done) |skip
 case str l=>cases hi;cases h with |str _ s hs=>exact ⟨s,by rw [hs];rfl,rfl⟩
 case tm t x=>
  cases t<;>first |(cases hi;done) |skip
  cases hi
  cases h with
  |tm _ _ _ h1 h2=>
   obtain ⟨l,hl⟩:=h1
   rw [hl] at h2
   cases h2 with
   |str _ s hs=>exact ⟨s,by rw [hl,hs],rfl⟩
end
section
variable [Env] {P:Program} {μ:bw}
theorem ua {t:Ty} {v:AV} {u:Value} {x:Tm} (h:VR P μ v u) (hx:lW t v=some x):bx t (ev x)∧dY μ.fz (ev x) u:=by
 by_cases hn:v= .an
 ·subst hn
  cases t<;>first |(cases hx;done) |skip
  cases hx
  cases h
  exact ⟨⟨[],rfl,fun r hr=>absurd hr VS⟩,.nil⟩
 by_cases hn': ∃z,v= .e0 z
 ·obtain ⟨z,rfl⟩:=hn'
  cases t<;>first |(cases hx;done) |skip
  cases hx
  cases h with |e0 _ ad c _ hm=>
  exact ⟨⟨[],rfl,fun r hr=>absurd hr VS⟩,nO ad hm⟩
 by_cases hs: ∃b o n l wh,v= .slice b o n l wh
 ·obtain ⟨b,o,n,l,wh,rfl⟩:=hs
  cases t<;>first |(cases hx;done) |skip
  obtain ⟨h0,hx⟩:=aj.1 (show au (Vo n 0) (some (Tm.op .nil [])) none=some x from hx)
  cases hx
  obtain rfl:n=0:=VN h0
  cases h with |slice _ _ _ _ _ e ad c h had hn hm hl hc=>
  exact ⟨⟨[],rfl,fun r hr=>absurd hr VS⟩,nO ad hm⟩
 ·have hx:ab (lR v) (fun q=>au (lM t q.1) (some q.2) none)=some x:=by
   cases v<;>first |exact hx |exact absurd rfl hn |exact absurd ⟨_,rfl⟩ hn' |exact absurd ⟨_,_,_,_,_,rfl⟩ hs
  obtain ⟨⟨t',y⟩,h1,hx⟩:=aa.1 hx
  obtain ⟨h2,hx⟩:=aj.1 hx
  cases hx
  have:=kI h2
  subst this
  exact ff h h1
theorem gi: ∀{ts:List Ty} {l:List AV} {us:List Value} {q:List Tm×List AV},b8 P μ l us→jf ts l=some q→
 aW ts (q.1.map ev)∧∃us',b8 P μ q.2 us'∧us=us.take ts.length++us'∧ts.length≤us.length∧∀(j:Nat) (d:D),(q.1.map ev)[j]? =some d→∃u:Value,us[j]? =some u∧dY μ.fz d u
 |[],l,us,q,h,hq=>by
  cases hq
  exact ⟨by unfold aW;rfl,us,h,by simp,by simp,fun j d hj=>by simp at hj⟩
 |t::ts,l,us,q,h,hq=>by
  unfold jf at hq
  cases h with
  |nil=>cases hq
  |cons v u l us h1 h2=>
   obtain ⟨x,hx,hq⟩:=aa.1 hq
   obtain ⟨r,hr,hq⟩:=aa.1 hq
   cases hq
   obtain ⟨g1,g2⟩:=ua h1 hx
   obtain ⟨g3,us',g4,g5,g6,g7⟩:=gi h2 hr
   refine ⟨by unfold aW;exact ⟨ev x,r.1.map ev,rfl,g1,g3⟩,us',g4,by simp only [V8,V4,List.cons_append,←g5],by simp only [V8];omega,fun j d hj=>?_⟩
   cases j with
   |zero=>
    simp only [VT,List.getElem?_cons_zero,Option.some.injEq] at hj
    subst hj
    exact ⟨u,rfl,g2⟩
   |succ j=>
    simp only [VT,List.getElem?_cons_succ] at hj⊢
    exact g7 j d hj
theorem iB {ts:List Ty}: ∀{k:Nat} {x y:Tm} {l:List AV} {us:List Value} {L:List (List D)},b8 P μ l us→lH ts k x l=some y→ev x= .aF L→
 ∃R:List (List D),ev y= .aF (L++R)∧R.length=k∧(∀r∈R,aW ts r)∧us.length=k*ts.length∧∀(j:Nat) (d:D),R.flatten[j]? =some d→∃u:Value,us[j]? =some u∧dY μ.fz d u
 |0,x,y,l,us,L,h,hy,hx=>by
  cases h with
  |nil=>cases hy;exact ⟨[],by rw [hx,List.append_nil],rfl,fun r hr=>absurd hr VS,by simp,fun j d hj=>by simp at hj⟩
  |cons=>cases hy
 |k+1,x,y,l,us,L,h,hy,hx=>by
  unfold lH at hy
  obtain ⟨q,hq,hy⟩:=aa.1 hy
  obtain ⟨g1,us',g2,g3,g4,g5⟩:=gi h hq
  have hs:ev (.op .snoc (x::q.1))= .aF (L++[q.1.map ev]):=by rw [bH,VT,hx];rfl
  obtain ⟨R,r1,r2,r3,r4,r5⟩:=iB g2 hy hs
  have hlen:(q.1.map ev).length=ts.length:=bD g1
  refine ⟨q.1.map ev::R,by rw [r1,List.append_assoc];rfl,by simp [r2],fun r hr=>?_,?_,fun j d hj=>?_⟩
  ·rcases List.mem_cons.1 hr with rfl |hr
   ·exact g1
   ·exact r3 r hr
  ·rw [g3,V7,V9,Wa g4,r4,V6];omega
  ·rw [V5] at hj
   by_cases hjl:j<ts.length
   ·rw [VJ (by omega)] at hj
    exact g5 j d hj
   ·rw [VL (by omega),hlen] at hj
    obtain ⟨u,x1,x2⟩:=r5 _ d hj
    refine ⟨u,?_,x2⟩
    rw [g3,VL (by rw [V9];omega),V9,Wa g4]
    exact x1
end
end
end Go.Proofs.Sai
