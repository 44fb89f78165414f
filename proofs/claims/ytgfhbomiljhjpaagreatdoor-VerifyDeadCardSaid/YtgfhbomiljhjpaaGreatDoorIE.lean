/- Part IE of the proof of VerifyDead: texts of the interpreter and what it shows, under short names. No condition. -/
import Derived.Test.YtgfhbomiljhjpaaGreatDoorID
import Derived.Orders
set_option linter.unusedVariables false
set_option linter.unusedSimpArgs false
set_option linter.unusedSectionVars false
open Array renaming getElem?_eq_getElem→Wo,getD_eq_getD_getElem?→We,getElem?_eq_none→Ze,any_toList→Zh
open Bool renaming and_eq_true→V1,or_eq_true→WW
open Go.Call renaming operands→Y0
open Go.Instr renaming buildSlice→Xj
open Go.Operand renaming tmp→Zj
open Go.Region renaming binds→VD,linearise→Zb,Mode→Zc,ready→Zd,departs→Zg,schedule→Zi
open Go.Region.linearise renaming go→Zf
open Go.Result renaming andThen_ok→Wd
open Go.Sem renaming run_bind→Wc
open Int renaming ofNat→Vw
open List renaming mem_cons_self→V2,mem_cons_of_mem→V3,getD_eq_getElem?_getD→Y6,reverse_nil→Y7,nil_append→Xl,getElem?_reverse→Y8,length_take→V9,getElem?_take→VK,getElem?_eq_getElem→Wj,take_zero→Xk,range→Zl
open Nat renaming beq→Vo,succ→Vt,ble→Vv,eq_of_beq_eq_true→VN,testBit→Y1,blt→VE,blt_eq→Y2,testBit_or→Y3,one_shiftLeft→Y4,testBit_two_pow→Y5,zero_add→Yq,min_eq_left→Wa,le_of_lt→Y9,strongRecOn→Za,le_of_ble_eq_true→VQ,le_refl→VY,zero_le→Xz,le_trans→VZ,lt_of_lt_of_le→VX,le_add_left→Zk
open Option renaming none→YZ
open Option.some renaming inj→VF
namespace Go.Proofs.Sai
section
open Go Go.RowKit
variable [Env]
def PU (f:St→Option aG):Prop:=∃F:Option AV,∀s,f s=omap F fun v=>.val v s
def RE (f:St→Option aG):Prop:=∀s x,f s=some x→∃v,x= .val v s
theorem PU.none:PU fun _=>YZ:=⟨YZ,fun _=>rfl⟩
theorem PU.val (v:AV):PU fun s=>some (.val v s):=⟨some v,fun _=>rfl⟩
theorem PU.ab {α:Type} (o:Option α) {g:α→St→Option aG} (h: ∀x,PU (g x)):PU fun s=>Sai.ab o fun x=>g x s:=by
 cases o with
 |none=>exact PU.none
 |some x=>exact h x
theorem PU.omap {α:Type} (o:Option α) (g:α→AV):PU fun s=>Sai.omap o fun x=>.val (g x) s:=by
 cases o with
 |none=>exact PU.none
 |some x=>exact PU.val _
theorem PU.au (b:Bool) {f g:St→Option aG} (h:PU f) (k:PU g):PU fun s=>Sai.au b (f s) (g s):=by cases b<;>assumption
theorem PU.re {f:St→Option aG} (h:PU f):RE f:=by
 intro s x hx
 obtain ⟨F,hF⟩:=h
 rw [hF] at hx
 obtain ⟨v,_,rfl⟩:=aO.1 hx
 exact ⟨v,rfl⟩
theorem PU.any {f:St→Option aG} (h:PU f) {s:St} {v:AV} {s':St} (hx:f s=some (.val v s')) (s₂:St):f s₂=some (.val v s₂):=by
 obtain ⟨F,hF⟩:=h
 rw [hF] at hx⊢
 obtain ⟨u,rfl,hu⟩:=aO.1 hx
 cases hu
 rfl
theorem RE.ab {α:Type} (o:Option α) {g:α→St→Option aG} (h: ∀x,RE (g x)):RE fun s=>Sai.ab o fun x=>g x s:=by
 cases o with
 |none=>intro s x h;cases h
 |some x=>exact h x
theorem RE.kP {α:Type} (o:St→Option α) {g:α→St→Option aG} (h: ∀x,RE (g x)):RE fun s=>Sai.ab (o s) fun x=>g x s:=by
 intro s x hx
 obtain ⟨y,_,hx⟩:=aa.1 hx
 exact h y s x hx
theorem RE.Bo {α:Type} (o:St→Option α) (g:α→AV):RE fun s=>Sai.omap (o s) fun x=>.val (g x) s:=by
 intro s x hx
 obtain ⟨y,_,rfl⟩:=aO.1 hx
 exact ⟨_,rfl⟩
theorem RE.au (b:Bool) {f g:St→Option aG} (h:RE f) (k:RE g):RE fun s=>Sai.au b (f s) (g s):=by cases b<;>assumption
theorem RE.PE (b:St→Bool) {f g:St→Option aG} (h:RE f) (k:RE g):RE fun s=>Sai.au (b s) (f s) (g s):=by
 intro s x hx
 replace hx:Sai.au (b s) (f s) (g s)=some x:=hx
 cases hb:b s with
 |true=>rw [hb] at hx;exact h s x hx
 |false=>rw [hb] at hx;exact k s x hx
theorem RE.none:RE fun _=>YZ:=fun s x h=>by cases h
section
variable (P:Program) (a:aN)
theorem Jh (op:BinOp) (k:IntKind) (x y:Int):PU fun s=>CB op k x y s:=by
 cases op<;>first |exact PU.none |exact PU.val _ |exact PU.au _ PU.none (PU.val _)
theorem R7 (op:BinOp) (k:IntKind) (x y:Int):PU fun s=>HQ op k x y s:=by
 cases y with
 |ofNat n=>cases op<;>first |exact PU.none |exact PU.val _
 |negSucc n=>exact PU.none
theorem Ji (op:BinOp) (k:FloatKind) (x y:Nat):PU fun s=>tz op k x y s:=by
 cases op<;>first |exact PU.none |exact PU.val _ |exact PU.omap _ _
theorem PF (op:BinOp) (x y:List Nat):PU fun s=>CC op x y s:=by
 cases op<;>first |exact PU.none |exact PU.val _ |exact PU.au _ (PU.val _) PU.none
theorem R8 (c:Bool) (t:TypeId) (op:BinOp) (x y:AV):PU fun s=>HP P c t op x y s:=by
 cases op<;>first |exact PU.none |exact PU.omap _ _
theorem Jj (op:BinOp) (p q:Ty×Tm):PU fun s=>NO op p q s:=by
 obtain ⟨t,x⟩:=p
 obtain ⟨u,y⟩:=q
 cases t<;>cases u<;>first |exact PU.none |skip
 ·refine PU.au _ ?_ PU.none
  cases op<;>first |exact PU.none |exact PU.val _ |exact PU.au _ (PU.val _) PU.none
 ·cases op<;>first |exact PU.none |exact PU.val _
theorem GK (t:TypeId) (op:BinOp) (x y:AV):PU fun s=>qE P t op s x y:=by
 unfold qE
 split
 ·split
  ·exact PU.au _ (PU.ab _ fun b=>PU.au _ (PU.val _) PU.none) PU.none
  ·exact PU.none
 ·refine PU.au _ (PU.ab _ fun u=>?_) PU.none
  cases op<;>first |exact PU.none |exact PU.val _
 ·refine PU.au _ (PU.ab _ fun u=>?_) PU.none
  cases op<;>first |exact PU.none |exact PU.val _
 ·exact PU.ab _ fun p=>PU.ab _ fun q=>Jj op p q
theorem Jk (op:BinOp) (x y:AV):PU fun s=>wR op s x y:=by
 unfold wR
 split
 ·split
  ·refine PU.au _ ?_ PU.none
   cases op<;>first |exact PU.none |exact PU.val _
  ·exact PU.none
 ·exact PU.none
theorem PG (op:BinOp) (t:TypeId) (c:Bool) (x y:AV):PU fun s=>RN P c op t s x y:=by
 refine PU.au _ (GK P t op x y) (PU.au _ (Jk op x y) ?_)
 cases x with
 |int k n=>cases y with
  |int k' m=>exact PU.au _ (R7 op k n m) (PU.au _ (Jh op k n m) PU.none)
  |_=>exact PU.none
 |float k n=>cases y with
  |float k' m=>exact PU.au _ (Ji op k n m) PU.none
  |_=>exact PU.none
 |str n=>cases y with
  |str m=>exact PF op n m
  |_=>exact PU.none
 |_=>exact R8 P c t op _ y
theorem Jl (t:TypeId) (x:AV) (lo hi mx:Option AV):PU fun s=>HW P t x lo hi mx s:=by
 refine PU.au _ ?_ ?_
 ·show PU fun s=>jJ P t x lo hi mx s
  unfold jJ
  cases x<;>first |exact PU.none |skip
  rename_i ty y
  cases ty<;>first |exact PU.none |exact PU.ab _ fun e=>PU.ab _ fun z=>PU.ab _ fun l=>PU.ab _ fun h=>PU.au _ (PU.au _ (PU.val _) (PU.au _ (PU.val _) PU.none)) PU.none
 by_cases hvl: ∃ts n b,x= .vl ts n b
 ·obtain ⟨ts,n,b,rfl⟩:=hvl
  exact PU.ab _ fun e=>PU.ab _ fun z=>PU.ab _ fun l=>PU.ab _ fun h=>PU.au _ (PU.val _) PU.none
 have hsl: ∀s,tD P t x lo hi mx s=yj P t x lo hi mx s:=fun s=>by cases x<;>first |rfl |exact absurd ⟨_,_,_,rfl⟩ hvl
 show PU fun s=>tD P t x lo hi mx s
 simp only [hsl]
 unfold yj
 refine PU.ab _ fun l=>?_
 cases P.underlying t with
 |none=>exact PU.none
 |some d=>cases d<;>first |exact PU.none |skip
          ·cases x<;>first |exact PU.none |exact PU.ab _ fun h=>PU.au _ (PU.au _ (PU.val _) PU.none) PU.none
          ·refine PU.ab _ fun z=>?_
           cases x<;>first |exact PU.none |exact PU.ab _ fun h=>PU.ab _ fun m=>PU.au _ (PU.val _) PU.none |exact PU.ab _ fun h=>PU.au _ (PU.val _) PU.none
          ·refine PU.ab _ fun z=>?_
           cases x<;>first |exact PU.none |exact PU.ab _ fun h=>PU.au _ (PU.val _) PU.none
theorem GL (t:TypeId) (ok:Bool) (v:AV):PU fun s=>EU P t ok s v:=by
 refine PU.au _ PU.none ?_
 cases v<;>first |exact PU.none |exact PU.au _ (PU.omap _ _) PU.none |exact PU.au _ (PU.val _) (PU.au _ (PU.omap _ _) PU.none)
theorem xo (ats:List TypeId) (args:List AV):(PU fun s=>H3 P ats args s)∧PU fun s=>H4 P ats args s:=by
 constructor
 ·unfold H3;split<;>first |exact PU.val _ |exact PU.none
 ·unfold H4;split<;>first |exact PU.val _ |exact PU.none
theorem xp {op:Op} (h:bJ P op=4):PU fun s=>gv op P a s:=by
 cases op<;>first |(cases h;done) |skip
 case move x=>exact PU.omap _ _
 case assign x=>exact PU.omap _ _
 case pick c x y=>
  exact PU.ab _ fun v=>PU.ab _ fun b=>PU.omap _ _
 case build t ps=>exact PU.ab _ fun vs=>PU.omap _ _
 case nilCheck x=>
  refine PU.ab _ fun v=>?_
  cases v<;>first |exact PU.none |exact PU.val _ |skip
  rename_i ty y
  cases ty<;>first |exact PU.none |exact PU.val _
 case binOp op t x y _=>exact PU.ab _ fun v=>PU.ab _ fun u=>PG P op t _ v u
 case unOp op _ x=>exact PU.ab _ fun v=>PU.omap _ _
 case convert s d x=>
  exfalso
  simp only [bJ] at h
  split at h<;>cases h
 case makeInterface t x=>exact PU.au _ PU.none (PU.omap _ _)
 case makeFunc fn f c=>cases fn<;>first |exact PU.none |exact PU.ab _ fun b=>PU.omap _ _
 case slice t x lo hi mx=>exact PU.ab _ fun v=>PU.ab _ fun lo=>PU.ab _ fun hi=>PU.ab _ fun mx=>Jl P t v lo hi mx
 case fieldAddr t x f=>
  refine PU.ab _ fun v=>?_
  cases v<;>first |exact PU.none |exact PU.ab _ fun f=>PU.ab _ fun z=>PU.au _ PU.none (PU.val _) |skip
  rename_i ty y
  cases ty<;>first |exact PU.none |exact PU.ab _ fun f=>PU.ab _ fun z=>PU.au _ PU.none (PU.au _ (PU.val _) PU.none)
 case field t x f=>
  refine PU.ab _ fun v=>?_
  cases v<;>first |exact PU.none |exact PU.ab _ fun f=>PU.omap _ _
 case indexAddr t x i=>
  refine PU.ab _ fun v=>PU.ab _ fun j=>?_
  refine PU.au _ ?_ ?_
  ·show PU fun s=>mU P t s v j
   unfold mU
   split
   ·refine PU.ab _ fun z=>PU.ab _ fun i=>?_
    cases v<;>first |exact PU.none |exact PU.au _ (PU.val _) PU.none |skip
    rename_i ty y
    cases ty<;>first |exact PU.none |exact PU.au _ (PU.val _) PU.none
   ·refine PU.ab _ fun z=>PU.ab _ fun i=>?_
    cases v<;>first |exact PU.none |exact PU.au _ (PU.val _) PU.none
   ·exact PU.none
  show PU fun s=>fw P t s v j
  unfold fw
  split
  ·split
   ·cases v<;>first |exact PU.none |exact PU.au _ (PU.omap _ _) PU.none
   ·cases v<;>first |exact PU.none |exact PU.au _ (PU.omap _ _) PU.none
   ·exact PU.none
  ·exact PU.none
 case index t x i=>
  refine PU.ab _ fun v=>PU.ab _ fun j=>?_
  show PU fun s=>yr P t s v (lS j)
  generalize lS j=j
  refine PU.au _ ?_ ?_
  ·show PU fun s=>qI P t s v j
   unfold qI
   split
   ·exact PU.ab _ fun x=>PU.ab _ fun i=>PU.au _ (PU.val _) PU.none
   ·split
    ·exact PU.none
    ·exact PU.none
   ·exact PU.none
  show PU fun s=>mV P t s v j
  unfold mV
  split
  ·split
   ·cases v<;>first |exact PU.none |exact PU.au _ (PU.ab _ fun z=>PU.omap _ _) PU.none
   ·cases v<;>first |exact PU.none |exact PU.omap _ _
   ·exact PU.none
  ·exact PU.none
 case typeAssert x s t ok=>exact PU.ab _ fun v=>GL P t ok v
 case extract x i=>
  refine PU.ab _ fun v=>?_
  cases v<;>first |exact PU.none |exact PU.omap _ _
 case call c=>
  refine PU.ab _ fun args=>?_
  simp only [bJ] at h
  split at h<;>first |(cases h;done) |skip
  ·rename_i hc;rw [hc];exact (xo P c.argTypes.toList args).1
  ·rename_i hc;rw [hc];exact (xo P c.argTypes.toList args).2
theorem NZ {op:Op} (h:bJ P op=0):RE fun s=>gv op P a s:=by
 cases op<;>first |(cases h;done) |skip
 case load t x=>
  refine RE.ab _ fun v=>?_
  cases v<;>first |exact RE.none |exact RE.Bo (fun s=>s.load P t _ _) _ |skip
  ·rename_i ty y
   cases ty<;>first |exact RE.none |exact (PU.omap _ _).re
  ·rename_i ts b i o
   exact RE.kP (fun s=>s.h.get b) fun k=>(PU.omap _ _).re
 case convert s d x=>
  refine RE.ab _ fun v=>RE.ab _ fun us=>?_
  have bytes:RE fun s'=>Sai.ab (dJ P s) fun e=>mQ P e v s':=by
   refine RE.ab _ fun e=>RE.au _ ?_ RE.none
   cases v<;>first |exact RE.none |exact (PU.val _).re |exact RE.kP (fun s'=>s'.cells _ _ _) fun cs=>(PU.omap _ _).re
  simp only [bJ] at h
  cases hd:P.underlying d with
  |none=>exact RE.none
  |some ud=>
   rw [hd] at h
   cases ud<;>first |(cases h;done) |exact RE.none |skip
   ·cases v<;>first |exact RE.none |exact (PU.val _).re |skip
    rename_i ty y
    cases ty<;>first |exact RE.none |exact (PU.val _).re
   ·cases v<;>first |exact RE.none |exact (PU.val _).re |exact (PU.au _ (PU.val _) PU.none).re
   ·cases v<;>first |exact bytes |exact (PU.val _).re |skip
    rename_i n
    cases n with
    |ofNat n=>exact (PU.au _ (PU.val _) PU.none).re
    |negSucc n=>exact bytes
 case lookup t x k ok=>
  refine RE.ab _ fun m=>RE.ab _ fun k=>?_
  refine RE.PE (fun s=>gU s m) (RE.ab _ fun b=>RE.kP (fun s=>s.h.get b) fun bl=>?_) ?_
  ·cases bl<;>first |exact RE.none |skip
   refine RE.ab _ fun q=>RE.ab _ fun kk=>RE.au _ (RE.ab _ fun hit=>RE.au _ ?_ ?_) RE.none
   ·exact (PU.val _).re
   ·exact (PU.omap _ _).re
  refine RE.kP (fun s=>jK s m) fun es=>RE.ab _ fun q=>RE.au _ (RE.ab _ fun o=>?_) RE.none
  cases o with
  |none=>exact (PU.omap _ _).re
  |some v=>exact (PU.val _).re
 case call c=>
  refine RE.ab _ fun args=>?_
  simp only [bJ] at h
  split at h<;>first |(cases h;done) |skip
  rename_i hc
  rw [hc]
  show RE fun s=>CH P c.argTypes.toList args s
  unfold CH
  split
  ·split
   ·intro s x hx
    revert hx
    generalize ym P _ _=q
    intro hx
    cases q with
    |none=>exact RE.Bo (fun s=>H0 P _ s _) _ s x hx
    |some v=>exact (PU.val v).re s x hx
   ·exact RE.none
  ·exact RE.none
def Ut (op:Op):Prop:=∀s x,gv op P a s=some x→∃(v:Pos→AV) (bU:aY),bO bU=false∧x= .val (v s.n) (s.push bU)∧∀s',gv op P a s'=some (.val (v s'.n) (s'.push bU))
theorem pJ {op:Op} (h:bJ P op=1):Ut P a op:=by
 intro s x hx
 cases op<;>first |(cases h;done) |skip
 case convert s d x=>exfalso;simp only [bJ] at h;split at h<;>cases h
 case call c=>exfalso;simp only [bJ] at h;split at h<;>cases h
 case alloc t=>
  by_cases harr:(Gam.z3:Bool)=true∧∃q,tH P t=some q
  ·obtain ⟨hm,q,hq⟩:=harr
   have hop: ∀s',gv (.alloc t) P a s'=Sai.ab (cV P t) fun z=>ma t s' z.cells q:=fun s'=>by
    show gV t P a s'=_
    unfold gV
    rw [hm,hq]
   rw [hop] at hx
   obtain ⟨z,hz,hx⟩:=aa.1 hx
   cases hzc:z.cells with
   |nil=>rw [hzc] at hx;cases hx
   |cons v l=>
    rw [hzc] at hx
    obtain ⟨c,hc,hx⟩:=aa.1 (show Sai.ab (lW q.1 v) (fun c=>Sai.au (rP v l&&Vo (Vt l.length) q.2&&Vv q.2 100000000) (some (aG.val (.pe [q.1] s.n (.int .i64 0) 0) (s.push (.vec true t [q.1] (.int .i64 (Vw q.2)) (.op .rep [.int .i64 (Vw q.2),c]))))) none)=some x from hx)
    obtain ⟨hb,hx⟩:=aj.1 hx
    cases hx
    refine ⟨fun n=>.pe [q.1] n (.int .i64 0) 0,_,rfl,rfl,fun s'=>?_⟩
    rw [hop,hz]
    show ma t s' z.cells q=_
    rw [hzc]
    show Sai.ab (lW q.1 v) _=_
    rw [hc]
    show Sai.au (rP v l&&Vo (Vt l.length) q.2&&Vv q.2 100000000) _ _=_
    rw [hb]
  have hop: ∀s',gv (.alloc t) P a s'=Sai.ab (cV P t) (fun z=>Sai.au (cf z.cells) (some (aG.val (.ptr s'.n 0) (s'.row t z.cells))) none):=fun s'=>by
   show gV t P a s'=_
   unfold gV
   cases hm:(Gam.z3:Bool) with
   |false=>rfl
   |true=>
    cases hq:tH P t with
    |none=>rfl
    |some q=>exact absurd ⟨hm,q,hq⟩ harr
  rw [hop] at hx
  obtain ⟨z,hz,hx⟩:=aa.1 (show Sai.ab (cV P t) (fun z=>Sai.au (cf z.cells) (some (aG.val (.ptr s.n 0) (s.row t z.cells))) none)=some x from hx)
  obtain ⟨ho,hx⟩:=aj.1 hx
  cases hx
  refine ⟨fun n=>.ptr n 0,_,rfl,rfl,fun s'=>?_⟩
  rw [hop,hz]
  show Sai.au (cf z.cells) _ _=_
  rw [ho]
  rfl
 case box t y=>
  obtain ⟨z,hz,hx⟩:=aa.1 (show Sai.ab (a.eval P y) (fun v=>Sai.au (cf v.cells) (some (aG.val (.ptr s.n 0) (s.row t v.cells))) none)=some x from hx)
  obtain ⟨ho,hx⟩:=aj.1 hx
  cases hx
  refine ⟨fun n=>.ptr n 0,_,rfl,rfl,fun s'=>?_⟩
  show Sai.ab (a.eval P y) (fun v=>Sai.au (cf v.cells) (some (aG.val (.ptr s'.n 0) (s'.row t v.cells))) none)=_
  rw [hz]
  show Sai.au (cf z.cells) _ _=_
  rw [ho]
  rfl
 case buildSlice t n ps=>
  obtain ⟨vs,hvs,hx⟩:=aa.1 (show Sai.ab (cS P a (ps.toList.map (·.2))) (fun vs=>lU P t n (ps.toList.map (·.1)) vs s)=some x from hx)
  obtain ⟨e,he,hx⟩:=aa.1 hx
  obtain ⟨zs,hzs,hx⟩:=aa.1 hx
  obtain ⟨cs,hcs,rfl⟩:=aO.1 hx
  refine ⟨fun m=>.slice m 0 n true true,_,rfl,rfl,fun s'=>?_⟩
  show Sai.ab (cS P a (ps.toList.map (·.2))) (fun vs=>Sai.ab (dJ P t) fun e=>Sai.ab (tC P e n (ps.toList.map (·.1))) fun zs=>Sai.omap (pa zs vs) fun cs=>aG.val (.slice s'.n 0 n true true) (s'.row e cs))=_
  rw [hvs]
  show Sai.ab (dJ P t) _=_
  rw [he]
  show Sai.ab (tC P e n (ps.toList.map (·.1))) _=_
  rw [hzs]
  show Sai.omap (pa zs vs) _=_
  rw [hcs]
  rfl
 case makeMap t r=>
  cases r with
  |none=>
   have hx:Sai.au Gam.z3 (qH s (nu P t)) (lY s)=x:=VF hx
   have hop: ∀s',gv (.makeMap t none) P a s'=some (Sai.au Gam.z3 (qH s' (nu P t)) (lY s')):=fun s'=>rfl
   cases hm:(Gam.z3:Bool) with
   |false=>
    rw [hm] at hx
    subst hx
    exact ⟨fun n=>.map n,_,rfl,rfl,fun s'=>by rw [hop,hm];rfl⟩
   |true=>
    rw [hm] at hx
    cases hq:nu P t with
    |none=>
     rw [hq] at hx
     subst hx
     exact ⟨fun n=>.map n,_,rfl,rfl,fun s'=>by rw [hop,hm,hq];rfl⟩
    |some q=>
     rw [hq] at hx
     subst hx
     exact ⟨fun n=>.map n,_,rfl,rfl,fun s'=>by rw [hop,hm,hq];rfl⟩
  |some y=>cases hx
 case makeSlice t l c=>
  obtain ⟨lv,hl,hx⟩:=aa.1 hx
  obtain ⟨cv,hc,hx⟩:=aa.1 hx
  have hop: ∀s',gv (.makeSlice t l c) P a s'=mb P t s' lv cv:=fun s'=>by
   show Sai.ab (a.eval P l) _=_
   rw [hl]
   show Sai.ab (a.eval P c) _=_
   rw [hc]
  by_cases htm: ∃n,lv= .tm (.int .i64) n
  ·obtain ⟨n,rfl⟩:=htm
   obtain ⟨m,hm,hx⟩:=aa.1 (show Sai.ab (nH cv) (ig P t s n)=some x from hx)
   obtain ⟨e,he,hx⟩:=aa.1 hx
   obtain ⟨by_,hby,hx⟩:=aa.1 hx
   obtain ⟨sz,hsz,hx⟩:=aa.1 hx
   obtain ⟨z,hz,hx⟩:=aa.1 hx
   obtain ⟨ts,hts,hx⟩:=aa.1 hx
   obtain ⟨y,hy,hx⟩:=aa.1 hx
   obtain ⟨hb,hx⟩:=aj.1 hx
   obtain ⟨y1,y2⟩:=y
   cases y2 with
   |cons _ _=>cases hx
   |nil=>
    cases hx
    refine ⟨fun b=>.vl ts n b,_,rfl,rfl,fun s'=>?_⟩
    rw [hop]
    show Sai.ab (nH cv) (ig P t s' n)=_
    rw [hm]
    show Sai.ab (dJ P t) _=_
    rw [he]
    show Sai.ab (ju P e) _=_
    rw [hby]
    show Sai.ab (bA P e) _=_
    rw [hsz]
    show Sai.ab (cV P e) _=_
    rw [hz]
    show Sai.ab (lQ P 12 e) _=_
    rw [hts]
    show Sai.ab (jf ts z.cells) _=_
    rw [hy]
    show Sai.au _ _ _=_
    rw [hb]
  have hmk: ∀s',mb P t s' lv cv=Sai.ab (qF lv) fun l=>Sai.ab (qF cv) fun c=>iH P t l c s':=fun s'=>by
   unfold mb
   split
   ·exact absurd ⟨_,rfl⟩ htm
   ·rfl
  replace hx:mb P t s lv cv=some x:=hx
  rw [hmk] at hx
  obtain ⟨ln,hln,hx⟩:=aa.1 hx
  obtain ⟨cn,hcn,hx⟩:=aa.1 hx
  obtain ⟨e,he,hx⟩:=aa.1 hx
  obtain ⟨by_,hby,hx⟩:=aa.1 hx
  obtain ⟨sz,hsz,hx⟩:=aa.1 hx
  obtain ⟨z,hz,hx⟩:=aa.1 hx
  obtain ⟨hb,hx⟩:=aj.1 hx
  cases hx
  refine ⟨fun m=>.slice m 0 ln (Vo ln cn) true,_,rfl,rfl,fun s'=>?_⟩
  rw [hop,hmk]
  show Sai.ab (qF lv) _=_
  rw [hln]
  show Sai.ab (qF cv) _=_
  rw [hcn]
  show Sai.ab (dJ P t) _=_
  rw [he]
  show Sai.ab (ju P e) _=_
  rw [hby]
  show Sai.ab (bA P e) _=_
  rw [hsz]
  show Sai.ab (cV P e) _=_
  rw [hz]
  show Sai.au _ _ _=_
  rw [hb]
  rfl
end
end
section
open Go Go.RowKit
variable [Env]
section
variable {P:Program}
theorem er {a a':aN}: ∀{l:List Operand},(∀x∈l,a.eval P x=a'.eval P x)→cS P a l=cS P a' l
 |[],_=>rfl
 |x::l,h=>by
  show ab (a.eval P x) (fun v=>ab (cS P a l) fun vs=>some (v::vs))=ab (a'.eval P x) (fun v=>ab (cS P a' l) fun vs=>some (v::vs))
  rw [h x (V2 ..),er fun y hy=>h y (V3 _ hy)]
theorem mq {a a':aN} {x:Option Operand} (h: ∀y,x=some y→a.eval P y=a'.eval P y):nv P a x=nv P a' x:=by
 cases x with
 |none=>rfl
 |some y=>
  show omap (a.eval P y) some=omap (a'.eval P y) some
  rw [h y rfl]
theorem GM {op:Op} {a a':aN} {s:St} (h: ∀x∈op.operands,a.eval P x=a'.eval P x):gv op P a s=gv op P a' s:=by
 cases op<;>simp only [Op.operands] at h
 case move x=>show pf x P a s=pf x P a' s;unfold pf;rw [h x (by simp)]
 case assign x=>show pf x P a s=pf x P a' s;unfold pf;rw [h x (by simp)]
 case pick c x y=>show Aj c x y P a s=Aj c x y P a' s;unfold Aj;rw [h c (by simp),h x (by simp),h y (by simp)]
 case alloc t=>rfl
 case box t x=>show Ig t x P a s=Ig t x P a' s;unfold Ig;rw [h x (by simp)]
 case build t ps=>show tI t ps P a s=tI t ps P a' s;unfold tI;rw [er fun x hx=>h x (by simpa using hx)]
 case buildSlice t n ps=>show gF t n ps P a s=gF t n ps P a' s;unfold gF;rw [er fun x hx=>h x (by simpa using hx)]
 case load t x=>show Ak t x P a s=Ak t x P a' s;unfold Ak;rw [h x (by simp)]
 case store t x y=>show tJ t x y P a s=tJ t x y P a' s;unfold tJ;rw [h x (by simp),h y (by simp)]
 case nilCheck x=>show jL x P a s=jL x P a' s;unfold jL;rw [h x (by simp)]
 case binOp op t x y _=>show Ih op t x y P a s=Ih op t x y P a' s;unfold Ih;rw [h x (by simp),h y (by simp)]
 case unOp op _ x=>show RY op x P a s=RY op x P a' s;unfold RY;rw [h x (by simp)]
 case convert sr d x=>show Al sr d x P a s=Al sr d x P a' s;unfold Al;rw [h x (by simp)]
 case makeInterface t x=>show tK t x P a s=tK t x P a' s;unfold tK;rw [h x (by simp)]
 case makeFunc fn f c=>
  cases fn<;>first |rfl |skip
  rename_i g
  show ab (cS P a f.toList) (fun b=>omap (cS P a c.toList) fun c=>aG.val (.func g b c) s)=ab (cS P a' f.toList) (fun b=>omap (cS P a' c.toList) fun c=>aG.val (.func g b c) s)
  rw [er (l:=f.toList) fun x hx=>h x (by simp at hx⊢;exact .inl hx),er (l:=c.toList) fun x hx=>h x (by simp at hx⊢;exact .inr hx)]
 case makeMap t r=>
  cases r with
  |none=>rfl
  |some x=>rfl
 case makeSlice t l c=>show iI t l c P a s=iI t l c P a' s;unfold iI;rw [h l (by simp),h c (by simp)]
 case slice t x lo hi mx=>
  show tN t x lo hi mx P a s=tN t x lo hi mx P a' s
  unfold tN
  rw [h x (by simp),mq (x:=lo) fun y hy=>h y (by subst hy;simp),mq (x:=hi) fun y hy=>h y (by subst hy;simp),mq (x:=mx) fun y hy=>h y (by subst hy;simp)]
 case fieldAddr t x f=>show iJ t x f P a s=iJ t x f P a' s;unfold iJ;rw [h x (by simp)]
 case field t x f=>show tO t x f P a s=tO t x f P a' s;unfold tO;rw [h x (by simp)]
 case indexAddr t x i=>show iK t x i P a s=iK t x i P a' s;unfold iK;rw [h x (by simp),h i (by simp)]
 case index t x i=>show tP t x i P a s=tP t x i P a' s;unfold tP;rw [h x (by simp),h i (by simp)]
 case lookup t x k ok=>show pg t x k ok P a s=pg t x k ok P a' s;unfold pg;rw [h x (by simp),h k (by simp)]
 case mapUpdate t m k x=>show dM t m k x P a s=dM t m k x P a' s;unfold dM;rw [h m (by simp),h k (by simp),h x (by simp)]
 case insert t m k x=>show dM t m k x P a s=dM t m k x P a' s;unfold dM;rw [h m (by simp),h k (by simp),h x (by simp)]
 case range t x=>show tQ t x P a s=tQ t x P a' s;unfold tQ;rw [h x (by simp)]
 case next x str=>show An x str P a s=An x str P a' s;unfold An;rw [h x (by simp)]
 case typeAssert x xt t ok=>show ph x t ok P a s=ph x t ok P a' s;unfold ph;rw [h x (by simp)]
 case extract x i=>show mc x i P a s=mc x i P a' s;unfold mc;rw [h x (by simp)]
 case panic x=>show tR x P a s=tR x P a' s;unfold tR;rw [h x (by simp)]
 case call c=>
  have hargs:cS P a c.args.toList=cS P a' c.args.toList:=er fun x hx=>h x (by simp [Y0];simp at hx;exact .inr hx)
  show Ao c P a s=Ao c P a' s
  unfold Ao
  rw [hargs]
  congr 1
  funext args
  cases hc:c.callee with
  |value f=>
   show ab (a.eval P f) (Ie P args s)=ab (a'.eval P f) (Ie P args s)
   rw [h f (by simp [Y0,hc])]
  |builtin b=>rfl
  |invoke _ _=>rfl
 case defer c=>
  have hargs:cS P a c.args.toList=cS P a' c.args.toList:=er fun x hx=>h x (by simp [Y0];simp at hx;exact .inr hx)
  show qJ c P a s=qJ c P a' s
  unfold qJ
  rw [hargs]
  congr 1
  funext args
  cases hc:c.callee with
  |value f=>
   show ab (a.eval P f) (CO args s)=ab (a'.eval P f) (CO args s)
   rw [h f (by simp [Y0,hc])]
  |builtin b=>rfl
  |invoke _ _=>rfl
 all_goals rfl
theorem nZ {r:AV→AV→Bool} (hr: ∀x y,r x y=true→x=y): ∀{xs ys:List AV},F6 r xs ys=true→xs=ys
 |[],[],_=>rfl
 |[],_::_,h=>by cases h
 |_::_,[],h=>by cases h
 |x::xs,y::ys,h=>by
  replace h:au (r x y) (F6 r xs ys) false=true:=h
  cases hc:r x y with
  |false=>rw [hc] at h;cases h
  |true=>
   rw [hc] at h
   rw [hr x y hc,nZ hr (show F6 r xs ys=true from h)]
theorem sQ: ∀(n:Nat) (x y:AV),sD n x y=true→x=y:=by
 intro n
 induction n with
 |zero=>intro x y h;cases h
 |succ n ih=>
  intro x y h
  replace h:Ip (sD n) x y=true:=h
  unfold Ip at h
  cases x<;>cases y<;>first |rfl |(cases h;done) |skip
  all_goals try simp only [V1] at h
  ·rw [eq_of_beq h]
  ·rw [fL,gf] at h;rw [of_decide_eq_true h.1,eq_of_beq h.2]
  ·rw [of_decide_eq_true h.1,VN h.2]
  ·rw [fK] at h;rw [eq_of_beq h]
  ·rw [dN h.1,VN h.2]
  ·obtain ⟨⟨⟨⟨h1,h2⟩,h3⟩,h4⟩,h5⟩:=h
   rw [dN h1,VN h2,VN h3,eq_of_beq h4,eq_of_beq h5]
  ·rw [dN h]
  ·obtain ⟨⟨h1,h2⟩,h3⟩:=h
   rw [show _=_ from VN h1,nZ ih h2,nZ ih h3]
  ·rw [dN h]
  ·rw [show _=_ from VN h.1,ih _ _ h.2]
  ·rw [nZ ih h]
  ·rw [nZ ih h]
  ·rw [kI h.1,cI h.2]
  ·rw [bW h.1.1,cI h.1.2,dN h.2]
  ·rw [eq_of_beq h]
  ·rw [bW h.1.1.1,dN h.1.1.2,cI h.1.2,show _=_ from VN h.2]
  ·rw [cI h]
end
end
section
open Go Go.RowKit
variable [Env]
section
variable {P:Program}
theorem kQ (done:List Nat) (i j:Nat): ∀es:List Edge,Y1 (cW done i es) j=true→∃e∈es,VD .any e=true∧e.on<i∧(e.on=j∨Y1 (done.getD (i - 1 - e.on) 0) j=true)
 |[],h=>by simp [cW] at h
 |e::es,h=>by
  unfold cW at h
  cases hc:(VD .any e&&VE e.on i) with
  |false=>
   rw [hc] at h
   obtain ⟨e',he',h'⟩:=kQ done i j es h
   exact ⟨e',V3 _ he',h'⟩
  |true=>
   rw [hc,cond_true] at h
   rw [V1] at hc
   have hlt:e.on<i:=by simpa [Y2] using hc.2
   have h:Y1 (((1 <<< e.on) ||| done.getD (i - 1 - e.on) 0) ||| cW done i es) j=true:=h
   rw [Y3,Y3,WW,WW] at h
   rcases h with (h |h) |h
   ·refine ⟨e,V2 ..,hc.1,hlt,.inl ?_⟩
    rw [Y4,Y5] at h
    exact of_decide_eq_true h
   ·exact ⟨e,V2 ..,hc.1,hlt,.inr h⟩
   ·obtain ⟨e',he',h'⟩:=kQ done i j es h
    exact ⟨e',V3 _ he',h'⟩
theorem iw: ∀(l:List Oper) (done:List Nat) (i:Nat),done.length=i→∃rest,pk l done i=done.reverse++rest∧rest.length=l.length∧
 ∀k o,l[k]? =some o→(done.reverse++rest).getD (i+k) 0=cW ((done.reverse++rest).take (i+k)).reverse (i+k) o.after.toList
 |[],done,i,h=>⟨[],by simp [pk],rfl,fun k o hk=>by simp at hk⟩
 |o::l,done,i,h=>by
  obtain ⟨rest,h1,h2,h3⟩:=iw l (cW done i o.after.toList::done) (i+1) (by simp [h])
  refine ⟨cW done i o.after.toList::rest,by unfold pk;rw [h1];simp,by simp [h2],fun k o' hk=>?_⟩
  have e:done.reverse++cW done i o.after.toList::rest=(cW done i o.after.toList::done).reverse++rest:=by simp
  cases k with
  |zero=>
   simp at hk
   subst hk
   have hl:done.reverse.length=i:=by simp [h]
   rw [Nat.add_zero,Y6,List.getElem?_append_right (by omega),hl]
   simp only [Nat.sub_self,List.getElem?_cons_zero,Option.getD_some]
   rw [←hl,List.take_left,List.reverse_reverse]
  |succ k=>
   rw [e,show i+(k+1)=i+1+k from by omega]
   exact h3 k o' (by simpa using hk)
theorem ux {ops:List Oper} {i j:Nat} {o:Oper} (ho:ops[i]? =some o) (h:bit (ahead ops) i j=true): ∃e∈o.after.toList,VD .any e=true∧e.on<i∧(e.on=j∨bit (ahead ops) e.on j=true):=by
 obtain ⟨rest,h1,h2,h3⟩:=iw ops [] 0 rfl
 have hA:ahead ops=rest:=by unfold ahead;rw [h1];simp
 have:=h3 i o ho
 simp only [Y7,Xl,Yq] at this
 unfold bit at h⊢
 rw [hA] at h⊢
 rw [this] at h
 obtain ⟨e,he,hb,hlt,hor⟩:=kQ _ _ _ _ h
 refine ⟨e,he,hb,hlt,hor.imp id fun hq=>?_⟩
 have hil:i<rest.length:=by rw [h2];exact (List.getElem?_eq_some_iff.1 ho).1
 rw [Y6,Y8 (by simp;omega)] at hq
 simp only [V9,Wa (Y9 hil)] at hq
 rw [VK,if_pos (by omega),show i - 1 - (i - 1 - e.on)=e.on from by omega] at hq
 rw [Y6]
 exact hq
theorem Bp {ops:List Oper} {i j:Nat} (ho:ops[i]? =none):bit (ahead ops) i j=false:=by
 obtain ⟨rest,h1,h2,h3⟩:=iw ops [] 0 rfl
 have hA:ahead ops=rest:=by unfold ahead;rw [h1];simp
 unfold bit
 rw [hA,Y6,List.getElem?_eq_none (by rw [h2];exact List.getElem?_eq_none_iff.1 ho)]
 simp
theorem kR {ops:List Oper}: ∀(i j:Nat),bit (ahead ops) i j=true→j<i:=by
 intro i
 induction i using Za with
 |_ i ih=>
  intro j h
  cases ho:ops[i]? with
  |none=>rw [Bp ho] at h;cases h
  |some o=>
   obtain ⟨e,_,_,hlt,rfl |hb⟩:=ux ho h
   ·exact hlt
   ·exact Nat.lt_trans (ih e.on hlt j hb) hlt
structure Fit (P:Program) (ops:List Oper):Prop where
 dst: ∀(i j:Nat) (o o':Oper) (d:Tmp),i<j→ops[i]? =some o→ops[j]? =some o'→o.dst=some d→o'.dst≠some d
 reads: ∀(i:Nat) (o:Oper) (t:Tmp),ops[i]? =some o→t∈lI o.op.operands.toList→∀(j:Nat) (o':Oper),ops[j]? =some o'→o'.dst=some t→bit (ahead ops) i j=true∨bit (ahead ops) j i=true
 guard: ∀(i:Nat) (o:Oper) (g:Nat×Bool),ops[i]? =some o→o.guard=some g→bit (ahead ops) i g.1=true
 cls: ∀(i:Nat) (o:Oper),ops[i]? =some o→bJ P o.op≠3
 text: ∀(i:Nat) (o:Oper),ops[i]? =some o→∀e∈o.after.toList,VD .text e=true→e.on<i
 Bq: ∀(i j:Nat) (o o':Oper),i<j→ops[i]? =some o→ops[j]? =some o'→bJ P o.op=2→bJ P o'.op=2→bit (ahead ops) j i=true
 gc:me ops=true→∃ρ:Nat→Nat,∀(i:Nat) (o:Oper),ops[i]? =some o→∀e∈o.after.toList,VD .gc e=true→e.on<ops.length∧ρ e.on<ρ i
theorem pK {d:Tmp}: ∀{l:List Oper},sN d l=true→∀(j:Nat) (o:Oper),l[j]? =some o→o.dst≠some d
 |[],_,j,o,h=>by simp at h
 |p::l,hf,j,o,h=>by
  unfold sN at hf
  rw [V1] at hf
  cases j with
  |zero=>
   simp at h
   subst h
   intro e
   rw [e] at hf
   simp at hf
  |succ j=>exact pK hf.2 j o (by simpa using h)
theorem rZ: ∀{l:List Oper},yz l=true→∀(i j:Nat) (o o':Oper) (d:Tmp),i<j→l[i]? =some o→l[j]? =some o'→o.dst=some d→o'.dst≠some d
 |[],_,i,j,o,o',d,hij,h,_,_=>by simp at h
 |p::l,hf,i,j,o,o',d,hij,h,h',hd=>by
  unfold yz at hf
  rw [V1] at hf
  cases i with
  |zero=>
   simp at h
   subst h
   rw [hd] at hf
   cases j with
   |zero=>omega
   |succ j=>exact pK hf.1 j o' (by simpa using h')
  |succ i=>cases j with
   |zero=>omega
   |succ j=>exact rZ hf.2 i j o o' d (by omega) (by simpa using h) (by simpa using h') hd
theorem sa {b:List Nat} {i:Nat} {t:Tmp}: ∀{l:List Oper} {j:Nat},tX b i t l j=true→∀(k:Nat) (o:Oper),l[k]? =some o→o.dst=some t→bit b i (j+k)=true∨bit b (j+k) i=true
 |[],_,_,k,o,h,_=>by simp at h
 |p::l,j,hf,k,o,h,hd=>by
  unfold tX at hf
  rw [V1] at hf
  cases k with
  |zero=>
   simp at h
   subst h
   rw [hd] at hf
   simpa [WW] using hf.1
  |succ k=>
   have:=sa hf.2 k o (by simpa using h) hd
   rwa [show j+1+k=j+(k+1) from by omega] at this
theorem pL {b:List Nat} {j:Nat}: ∀{l:List Oper} {i:Nat},pn P b j l i=true→∀(k:Nat) (o:Oper),l[k]? =some o→i+k<j→bJ P o.op=2→bit b j (i+k)=true
 |[],_,_,k,o,h,_,_=>by simp at h
 |p::l,i,hf,k,o,h,hlt,hc=>by
  unfold pn at hf
  rw [V1] at hf
  cases k with
  |zero=>
   simp at h
   subst h
   have:(VE i j&&Vo (bJ P p.op) 2)=true:=by
    rw [hc]
    simp only [V1]
    exact ⟨by simpa [Y2] using hlt,rfl⟩
   rw [this] at hf
   simpa using hf.1
  |succ k=>
   have:=pL hf.2 k o (by simpa using h) (by omega) hc
   rwa [show i+1+k=i+(k+1) from by omega] at this
theorem uy {b:List Nat} {all:List Oper}: ∀{l:List Oper} {i:Nat},EX P b all l i=true→∀(k:Nat) (o:Oper),l[k]? =some o→
 (∀t∈lI o.op.operands.toList,tX b (i+k) t all 0=true)∧(∀g,o.guard=some g→bit b (i+k) g.1=true)∧bJ P o.op≠3∧(∀e∈o.after.toList,VD .text e=true→e.on<i+k)∧
  (bJ P o.op=2→pn P b (i+k) all 0=true)
 |[],_,_,k,o,h=>by simp at h
 |p::l,i,hf,k,o,h=>by
  unfold EX at hf
  simp only [V1] at hf
  obtain ⟨⟨⟨⟨⟨h1,h2⟩,h3⟩,h4⟩,h5⟩,h6⟩:=hf
  cases k with
  |zero=>
   simp at h
   subst h
   refine ⟨fun t ht=>List.all_eq_true.1 h1 t ht,fun g hg=>?_,fun hc=>?_,fun e he hb=>?_,fun hc=>?_⟩
   ·rw [hg] at h2;exact h2
   ·rw [hc] at h3;cases h3
   ·have:=List.all_eq_true.1 h4 e he
    rw [hb] at this
    simpa [Y2] using this
   ·rw [hc] at h5;exact h5
  |succ k=>
   have:=uy h6 k o (by simpa using h)
   rwa [show i+1+k=i+(k+1) from by omega] at this
theorem xq {n:Nat} {R:List Nat}: ∀{l:List Oper} {i:Nat},Me n R l i=true→∀(k:Nat) (o:Oper),l[k]? =some o→∀e∈o.after.toList,VD .gc e=true→e.on<n∧wU e.on R<wU (i+k) R
 |[],_,_,k,o,h=>by simp at h
 |p::l,i,hf,k,o,h=>by
  intro e he hb
  unfold Me at hf
  rw [V1] at hf
  cases k with
  |zero=>
   simp at h
   subst h
   have:=List.all_eq_true.1 hf.1 e he
   rw [hb] at this
   simpa [Y2] using this
  |succ k=>
   have:=xq hf.2 k o (by simpa using h) e he hb
   rwa [show i+1+k=i+(k+1) from by omega] at this
theorem PH {ops:List Oper} (h:yA P ops=true):Fit P ops:=by
 unfold yA at h
 rw [V1,V1] at h
 obtain ⟨⟨h1,h2⟩,h3⟩:=h
 have hs:=fun k o ho=>uy h2 k o ho
 simp only [Yq] at hs
 refine ⟨rZ h1,fun i o t ho ht j o' ho' hd=>?_,fun i o g ho hg=>(hs i o ho).2.1 g hg,fun i o ho=>(hs i o ho).2.2.1,fun i o ho e he hb=>(hs i o ho).2.2.2.1 e he hb,fun i j o o' hij ho ho' hc hc'=>?_,fun hd=>?_⟩
 ·have:=sa ((hs i o ho).1 t ht) j o' ho' hd
  simpa using this
 ·have:=pL ((hs j o' ho').2.2.2.2 hc') i o ho (by omega) hc
  simpa using this
 ·rw [hd,cond_true] at h3
  refine ⟨fun i=>wU i (Zb .gc ops.toArray 0),fun i o ho e he hb=>?_⟩
  have:=xq h3 i o ho e he hb
  simpa using this
end
end
section
open Go Go.RowKit
variable [Env]
section
variable {P:Program}
theorem yT (p:Pos):wq p=p.toNat:=by
 induction p with
 |one=>rfl
 |o p ih=>show Vt (2*wq p)=2*p.toNat+1;rw [ih]
 |i p ih=>show Vt (Vt (2*wq p))=2*p.toNat+2;rw [ih]
inductive pM (P:Program) (r:Rec) (o:Oper) (a:aN) (s:St):Bool→AV→St→Prop
 |no:pM P r o a s false .undef s
 |val (v:AV) (s1:St) (h:gv o.op P a s=some (.val v s1)):pM P r o a s true v s1
 |skip (s1:St) (h:gv o.op P a s=some (.skip s1)):pM P r o a s true .undef s1
 |enter (f:FuncId) (args:List AV) (s0:St) (v:AV) (rc:Option cE) (s1:St) (h:gv o.op P a s=some (.enter f args s0)) (hr:r (.call f args none) a s0=some (.fin (.returned v) rc s1)):pM P r o a s true v s1
 |round (l:Pos) (args:List AV) (s0:St) (v:AV) (rc:Option cE) (s1:St) (h:gv o.op P a s=some (.round l args s0)) (hr:r (.round l args) a s0=some (.fin (.returned v) rc s1)):pM P r o a s true v s1
structure jX (P:Program) (r:Rec) (all l:List Oper) (i:Nat) (tels:List gw) (A:Nat→aN) (S:Nat→St) (B:Nat→Bool):Prop where
 len:tels.length=l.length
 mY: ∀(k:Nat) (t:gw),tels[k]? =some t→l[k]? =some t.o∧t.i=i+k∧t.a=A k∧t.s=S k∧(B k=false→eG all (A k) t.o.guard=some t.w)∧
  ((B k=false→pM P r t.o (A k) (S k) t.w t.v (S (k+1)))∧(B k=true→t.w=false∧t.v= .undef∧S (k+1)=S k))∧
  (S k).n.toNat≤(S (k+1)).n.toNat∧(A k).put t.o.dst t.v=some (A (k+1))
theorem yU {o:Oper} {k:Nat→aN→St→Option Tq} {i:Nat} {a:aN} {s:St} {w:Bool} {v:AV} {s':St} {q:Tq} (h:kF o k i a s w v s'=some q):
 s.n.toNat≤s'.n.toNat∧∃a' q',a.put o.dst v=some a'∧k (i+1) a' s'=some q'∧q=(⟨i,o,a,s,w,v⟩::q'.1,q'.2):=by
 obtain ⟨h1,h2⟩:=aj.1 h
 rw [yT,yT] at h1
 obtain ⟨a',h3,h4⟩:=aa.1 h2
 obtain ⟨q',h5,h6⟩:=aO.1 h4
 exact ⟨VQ h1,a',q',h3,h5,h6.symm⟩
inductive GN (P:Program) (r:Rec) (o:Oper) (a:aN) (s:St):ed→St→Prop
 |enter (f:FuncId) (args:List AV) (s0:St) (c:ed) (rc:Option cE) (s1:St) (h:gv o.op P a s=some (.enter f args s0)) (hr:r (.call f args none) a s0=some (.fin (.panicked c) rc s1)):GN P r o a s c s1
 |round (l:Pos) (args:List AV) (s0:St) (c:ed) (rc:Option cE) (s1:St) (h:gv o.op P a s=some (.round l args s0)) (hr:r (.round l args) a s0=some (.fin (.panicked c) rc s1)):GN P r o a s c s1
theorem pN {o:Oper} {k:Nat→aN→St→Option Tq} {i:Nat} {a:aN} {s:St} {x:Out} {q:Tq} (h:po o k i a s x=some q):
 (∃v rc s',x= .fin (.returned v) rc s'∧kF o k i a s true v s'=some q)∨∃c rc s',x= .fin (.panicked c) rc s'∧q=([],.Pq o a s c s'):=by
 cases x with
 | «at» =>cases h
 |fin e rc s'=>cases e with
  |returned v=>exact .inl ⟨v,rc,s',rfl,h⟩
  |panicked c=>cases h;exact .inr ⟨c,rc,s',rfl,rfl⟩
def R9 (P:Program) (r:Rec) (all l:List Oper) (n:Nat) (A:Nat→aN) (S:Nat→St):R0→Prop
 | .done a s=>n=l.length∧A n=a∧S n=s
 | .Pq o a s c s1=>l[n]? =some o∧A n=a∧S n=s∧eG all (A n) o.guard=some true∧GN P r o (A n) (S n) c s1
theorem sb {r:Rec} {all:List Oper}: ∀(l:List Oper) (i:Nat) (a:aN) (s:St) (q:Tq),jg P all r l i a s=some q→
 ∃A S,A 0=a∧S 0=s∧q.1.length≤l.length∧R9 P r all l q.1.length A S q.2∧jX P r all (l.take q.1.length) i q.1 A S fun _=>false
 |[],i,a,s,q,h=>by
  cases h
  exact ⟨fun _=>a,fun _=>s,rfl,rfl,VY _,⟨rfl,rfl,rfl⟩,rfl,fun k t h=>by simp at h⟩
 |o::l,i,a,s,q,h=>by
  obtain ⟨w,hw,h⟩:=aa.1 (show ab (eG all a o.guard) (Iq P r o (jg P all r l) i a s)=some q from h)
  have key:(∃v s1,pM P r o a s w v s1∧kF o (jg P all r l) i a s w v s1=some q)∨∃c s1,w=true∧GN P r o a s c s1∧q=([],.Pq o a s c s1):=by
   cases w with
   |false=>exact .inl ⟨.undef,s,.no,h⟩
   |true=>
    obtain ⟨x,hx,h⟩:=aa.1 (show ab (gv o.op P a s) (EY r o (jg P all r l) i a s)=some q from h)
    cases x with
    |val v s1=>exact .inl ⟨v,s1,.val v s1 hx,h⟩
    |skip s1=>exact .inl ⟨.undef,s1,.skip s1 hx,h⟩
    |enter f args s0=>
     obtain ⟨y,hy,h⟩:=aa.1 (show ab (r (.call f args none) a s0) (po o (jg P all r l) i a s)=some q from h)
     rcases pN h with ⟨v,rc,s1,rfl,hk⟩ |⟨c,rc,s1,rfl,hk⟩
     ·exact .inl ⟨v,s1,.enter f args s0 v rc s1 hx hy,hk⟩
     ·exact .inr ⟨c,s1,rfl,.enter f args s0 c rc s1 hx hy,hk⟩
    |round lp args s0=>
     obtain ⟨y,hy,h⟩:=aa.1 (show ab (r (.round lp args) a s0) (po o (jg P all r l) i a s)=some q from h)
     rcases pN h with ⟨v,rc,s1,rfl,hk⟩ |⟨c,rc,s1,rfl,hk⟩
     ·exact .inl ⟨v,s1,.round lp args s0 v rc s1 hx hy,hk⟩
     ·exact .inr ⟨c,s1,rfl,.round lp args s0 c rc s1 hx hy,hk⟩
    |_=>cases h
  rcases key with ⟨v,s1,hst,hp⟩ |⟨c,s1,rfl,hpan,rfl⟩
  ·obtain ⟨hle,a',q',h3,h5,rfl⟩:=yU hp
   obtain ⟨A,S,rfl,rfl,hlen,hE,hT⟩:=sb l (i+1) a' s1 q' h5
   refine ⟨fun k=>match k with |0=>a |k+1=>A k,fun k=>match k with |0=>s |k+1=>S k,rfl,rfl,Nat.succ_le_succ hlen,?_,?_⟩
   ·show R9 P r all (o::l) (q'.1.length+1) _ _ q'.2
    cases hq2:q'.2 with
    |done a2 s2=>rw [hq2] at hE;exact ⟨congrArg (· +1) hE.1,hE.2⟩
    |Pq o2 a2 s2 c2 s3=>rw [hq2] at hE;exact ⟨(by rw [List.getElem?_cons_succ];exact hE.1),hE.2⟩
   ·show jX P r all (o::l.take q'.1.length) i _ _ _ _
    refine ⟨congrArg (· +1) hT.len,fun k t ht=>?_⟩
    cases k with
    |zero=>
     simp at ht
     subst ht
     exact ⟨rfl,rfl,rfl,rfl,fun _=>hw,⟨fun _=>hst,fun h=>by cases h⟩,hle,h3⟩
    |succ k=>
     obtain ⟨g1,g2,g3,g4,g5,g6,g7,g8⟩:=hT.mY k t (by simpa using ht)
     exact ⟨by simpa using g1,by omega,g3,g4,g5,g6,g7,g8⟩
  ·exact ⟨fun _=>a,fun _=>s,rfl,rfl,Xz _,⟨rfl,rfl,rfl,hw,hpan⟩,rfl,fun k t h=>by simp at h⟩
theorem mZ {a a':aN} {d:Option Tmp} {v:AV} (h:a.put d v=some a'):a'.n=a.n∧a'.defers=a.defers∧a'.rc=a.rc∧(∀t,a'.tmp t=if d=some t then v else a.tmp t)∧∀t,d=some t→t<a.n:=by
 cases d with
 |none=>cases h;exact ⟨rfl,rfl,rfl,fun t=>by simp,fun t h=>by cases h⟩
 |some d=>
  obtain ⟨tm,n,df,rc⟩:=a
  obtain ⟨h1,h2⟩:=aj.1 (show au (Vv (Vt d) n) (some (aN.mk (tm.set (pos d) v) n df rc)) none=some a' from h)
  cases h2
  refine ⟨rfl,rfl,rfl,fun t=>?_,fun t ht=>by cases ht;exact VQ h1⟩
  show gu ((tm.set (pos d) v).get (pos t))=if some d=some t then v else gu (tm.get (pos t))
  by_cases hdt:d=t
  ·subst hdt;rw [ij,if_pos rfl];rfl
  ·rw [kG _ _ (fun e=>hdt (pr e)),if_neg (fun e=>hdt (VF e))]
section
variable {r:Rec} {ops:List Oper} {tels:List gw} {A:Nat→aN} {S:Nat→St} {B:Nat→Bool}
theorem jX.get (hT:jX P r ops ops 0 tels A S B) {k:Nat} (hk:k<ops.length): ∃t,tels[k]? =some t:=⟨_,Wj (by rw [hT.len];exact hk)⟩
theorem jX.lt (hT:jX P r ops ops 0 tels A S B) {k:Nat} {t:gw} (h:tels[k]? =some t):k<ops.length:=by rw [←hT.len];exact (List.getElem?_eq_some_iff.1 h).1
theorem jX.same (hT:jX P r ops ops 0 tels A S B): ∀k,k≤ops.length→(A k).n=(A 0).n∧(A k).defers=(A 0).defers∧(A k).rc=(A 0).rc:=by
 intro k
 induction k with
 |zero=>intro _;exact ⟨rfl,rfl,rfl⟩
 |succ k ih=>
  intro hk
  obtain ⟨t,ht⟩:=hT.get (k:=k) (by omega)
  obtain ⟨h1,h2,h3,_⟩:=mZ (hT.mY k t ht).2.2.2.2.2.2.2
  obtain ⟨g1,g2,g3⟩:=ih (by omega)
  exact ⟨h1.trans g1,h2.trans g2,h3.trans g3⟩
theorem jX.iG (hT:jX P r ops ops 0 tels A S B) {t:Tmp}: ∀k,k≤ops.length→(∀j o,j<k→ops[j]? =some o→o.dst≠some t)→(A k).tmp t=(A 0).tmp t:=by
 intro k
 induction k with
 |zero=>intro _ _;rfl
 |succ k ih=>
  intro hk hn
  obtain ⟨x,hx⟩:=hT.get (k:=k) (by omega)
  have hp:=hT.mY k x hx
  obtain ⟨_,_,_,h4,_⟩:=mZ hp.2.2.2.2.2.2.2
  rw [h4 t,if_neg (hn k x.o (by omega) hp.1)]
  exact ih (by omega) fun j o hj ho=>hn j o (by omega) ho
theorem jX.new (hF:Fit P ops) (hT:jX P r ops ops 0 tels A S B) {t:Tmp} {j:Nat} {x:gw} (hx:tels[j]? =some x) (hd:x.o.dst=some t): ∀k,j<k→k≤ops.length→(A k).tmp t=x.v:=by
 intro k
 induction k with
 |zero=>intro h _;omega
 |succ k ih=>
  intro hj hk
  obtain ⟨y,hy⟩:=hT.get (k:=k) (by omega)
  have hp:=hT.mY k y hy
  obtain ⟨_,_,_,h4,_⟩:=mZ hp.2.2.2.2.2.2.2
  rw [h4 t]
  by_cases hjk:j=k
  ·subst hjk
   rw [hx] at hy
   cases hy
   rw [if_pos hd]
  ·rw [if_neg (hF.dst j k x.o y.o t (by omega) (hT.mY j x hx).1 hp.1 hd)]
   exact ih (by omega) (by omega)
theorem jX.mono (hT:jX P r ops ops 0 tels A S B) {j k:Nat} (hjk:j≤k) (hk:k≤ops.length):(S j).n.toNat≤(S k).n.toNat:=by
 induction k with
 |zero=>have:j=0:=by omega
        subst this;exact VY _
 |succ k ih=>
  by_cases h:j=k+1
  ·subst h;exact VY _
  ·obtain ⟨t,ht⟩:=hT.get (k:=k) (by omega)
   exact VZ (ih (by omega) (by omega)) (hT.mY k t ht).2.2.2.2.2.2.1
theorem yV (P:Program) (op:Op):bJ P op=0∨bJ P op=1∨bJ P op=2∨bJ P op=3∨bJ P op=4:=by
 unfold bJ
 split<;>(try split)<;>simp
theorem jX.uz (hF:Fit P ops) (hT:jX P r ops ops 0 tels A S B) {j:Nat} {y:gw} (hy:tels[j]? =some y) (hc:bJ P y.o.op≠2):
 (y.w=true∧bJ P y.o.op=1∧∃bU,bO bU=false∧S (j+1)=(S j).push bU)∨(¬(y.w=true∧bJ P y.o.op=1)∧S (j+1)=S j):=by
 obtain ⟨ho,_,_,_,_,hst,_⟩:=hT.mY j y hy
 have h3:=hF.cls j y.o ho
 have key: ∀x,gv y.o.op P (A j) (S j)=some x→(bJ P y.o.op=1∧∃v bU,bO bU=false∧x= .val v ((S j).push bU))∨(bJ P y.o.op≠1∧∃v,x= .val v (S j)):=by
  intro x hx
  rcases yV P y.o.op with h |h |h |h |h
  ·obtain ⟨v,e⟩:=NZ P (A j) h (S j) x hx
   exact .inr ⟨by rw [h];decide,v,e⟩
  ·obtain ⟨v,bU,h2,h3,_⟩:=pJ P (A j) h (S j) x hx
   exact .inl ⟨h,_,bU,h2,h3⟩
  ·exact absurd h hc
  ·exact absurd h h3
  ·obtain ⟨v,e⟩:=(xp P (A j) h).re (S j) x hx
   exact .inr ⟨by rw [h];decide,v,e⟩
 cases hB:B j with
 |true=>obtain ⟨e1,_,e2⟩:=hst.2 hB;exact .inr ⟨fun q=>(by rw [e1] at q;exact absurd q.1 (by decide)),e2⟩
 |false=>
 replace hst:=hst.1 hB
 generalize hyw:y.w=yw at hst
 generalize y.v=yv at hst
 generalize S (j+1)=sj at hst⊢
 cases hst with
 |no=>exact .inr ⟨(fun q=>absurd q.1 (by decide)),rfl⟩
 |val _ _ hq=>
  rcases key _ hq with ⟨h1,v,bU,h2,e⟩ |⟨h1,v,e⟩
  ·cases e;exact .inl ⟨rfl,h1,bU,h2,rfl⟩
  ·cases e;exact .inr ⟨fun q=>h1 q.2,rfl⟩
 |skip _ hq=>rcases key _ hq with ⟨h1,v,bU,h2,e⟩ |⟨h1,v,e⟩<;>cases e
 |enter f args s0 v rc s1 hq _=>rcases key _ hq with ⟨h1,v,bU,h2,e⟩ |⟨h1,v,e⟩<;>cases e
 |round l args s0 v rc s1 hq _=>rcases key _ hq with ⟨h1,v,bU,h2,e⟩ |⟨h1,v,e⟩<;>cases e
theorem jX.Dt (hF:Fit P ops) (hT:jX P r ops ops 0 tels A S B) {j:Nat} {y:gw} (hy:tels[j]? =some y) (hw:y.w=true) (hc:bJ P y.o.op=1):(S (j+1)).n.toNat=(S j).n.toNat+1:=by
 rcases hT.uz hF hy (by rw [hc];decide) with ⟨_,_,bU,_,e⟩ |⟨h,_⟩
 ·rw [e,eh,Pos.bZ]
 ·exact absurd ⟨hw,hc⟩ h
end
end
end
section
open Go Go.RowKit
variable [Env]
section
variable {P:Program} {N:Nat}
noncomputable def uA (f:Nat→aY):Nat→Tr aY
 |0=>.nil
 |m+1=>(uA f m).set (pos m) (f m)
theorem Du (b:Pos):pos b.toNat=b:=Pos.toNat_inj (eI _)
theorem uB (f:Nat→aY) (b:Pos): ∀m,(uA f m).get b=if b.toNat<m then some (f b.toNat) else none
 |0=>by rw [if_neg (by omega)];exact get_nil b
 |m+1=>by
  show ((uA f m).set (pos m) (f m)).get b=_
  rw [ji,uB f b m]
  by_cases h:pos m=b
  ·have:b.toNat=m:=by rw [←h,eI]
   rw [if_pos h,if_pos (by omega),this]
  ·have:b.toNat≠m:=fun e=>h (by rw [←e,Du])
   rw [if_neg h]
   by_cases h2:b.toNat<m
   ·rw [if_pos h2,if_pos (by omega)]
   ·rw [if_neg h2,if_neg (by omega)]
structure iV (P:Program) (N:Nat) (μ:bw) (w:World) (m:Nat):Prop where
 Hz: ∀b e,μ b=some e→b.toNat<m
 GO: ∀b e,μ b=some e→e.a.block<w.heap.size∧((e.own=none∧e.a.block<N)∨N≤e.a.block)
 eZ: ∀g,g<P.globals.size→μ (pos g)=some ⟨⟨g,0,none⟩,none⟩
 hN:N≤w.heap.size
 hn:Env.n≤N
 base:Env.base w
 fW: ∀ad v,μ.fz ad=some v→w.cell? ad=some v
noncomputable def Dv (N:Nat) (μ:bw) (k:Nat):aY:=
 match μ (pos k) with
 |some e=>if e.a.block<N then .cells false 0 0 (.o5 []) else .dead
 |none=>.dead
noncomputable def ghost (N:Nat) (μ:bw) (m:Nat):St:=⟨uA (Dv N μ) m,pos m⟩
theorem iV.sr {μ:bw} {w:World} {m:Nat} (h:iV P N μ w m):SR P N μ (ghost N μ m) w:=by
 have hb: ∀b e,μ b=some e→(ghost N μ m).h.get b=some (if e.a.block<N then .cells false 0 0 (.o5 []) else .dead):=by
  intro b e he
  show (uA (Dv N μ) m).get b=_
  rw [uB,if_pos (h.Hz b e he)]
  unfold Dv
  rw [Du,he]
 refine ⟨fun b e he=>⟨_,hb b e he,?_⟩,?_,fun b e he=>?_,h.hN,h.eZ,h.hn,h.base,h.fW,fun b e k he hk hw _ _ _ _=>(by
  rw [hb b e he] at hk
  cases hk
  split at hw<;>cases hw)⟩
 ·obtain ⟨h1,h2⟩:=h.GO b e he
  by_cases hlt:e.a.block<N
  ·rw [if_pos hlt]
   rcases h2 with ⟨h3,_⟩ |h3
   ·exact ⟨h3,h1,fun i hi=>absurd hi (Nat.not_lt_zero i)⟩
   ·omega
  ·rw [if_neg hlt]
   exact ⟨.inl (by omega),h1⟩
 ·intro b b' e e' k k' he he' hk hk' hd hd' hN heq
  rw [hb b e he] at hk
  rw [if_neg (by omega)] at hk
  cases hk
  cases hd
 ·show b.toNat<(pos m).toNat
  rw [eI]
  exact h.Hz b e he
theorem SR.places {μ:bw} {σ:St} {w:World} (h:SR P N μ σ w):iV P N μ w σ.n.toNat:=by
 refine ⟨h.lt,fun b e he=>?_,h.eZ,h.hN,h.hn,h.base,h.fW⟩
 obtain ⟨k,_,hbr⟩:=h.bU b e he
 refine ⟨hbr.lt,?_⟩
 cases k with
 |cells own t len c=>cases own with
  |true=>obtain ⟨g,sz,cur,rfl,hN,_⟩:=hbr;exact .inr hN
  |false=>
   by_cases hlt:e.a.block<N
   ·exact .inl ⟨hbr.1,hlt⟩
   ·exact .inr (by omega)
 |map es=>obtain ⟨g,en,cl,rfl,hN,_⟩:=hbr;exact .inr hN
 |fY s p=>obtain ⟨g,bs,rfl,hN,_⟩:=hbr;exact .inr hN
 |loop lp=>obtain ⟨g,r,rfl,hN,_⟩:=hbr;exact .inr hN
 |deferred d=>obtain ⟨g,rfl,hN,_⟩:=hbr;exact .inr hN
 |dead=>exact hbr.1.elim .inr fun h=>.inl ⟨by rw [h.1];rfl,by rw [h.1];exact h.2⟩
 |Cr m=>obtain ⟨g,rfl,hN,_⟩:=hbr;exact .inr hN
 |frozen o=>obtain ⟨g,rfl,hN,_⟩:=hbr;exact .inr hN
 |bY g kt ts x=>obtain ⟨l,_,_,_,G,ents,clock,ms,rfl,hN,_⟩:=hbr;exact .inr hN
 |eE t ts n x i v=>obtain ⟨l,iv,_,_,_,_,_,g,cur,V,rfl,hN,_⟩:=hbr;exact .inr hN
 |vec own t ts n x=>obtain ⟨l,_,_,_,⟨rfl,h,_⟩ |⟨g,cur,rfl,hN,_⟩⟩:=hbr<;>first |exact .inl ⟨rfl,h⟩ |exact .inr hN
def bare (μ:bw):bw:=⟨fun b=>(μ b).map fun e=>⟨e.a,none⟩,μ.fz⟩
theorem fD {μ:bw} {b:Pos} {e:fx} (h:μ b=some e):bare μ b=some ⟨e.a,none⟩:=by show (μ b).map _=_;rw [h];rfl
mutual
theorem VR.bare {μ:bw}: ∀{v:AV} {u:Value},VR P μ v u→VR P (bare μ) v u
 |_,_,.bool b=>.bool b
 |_,_,.int k n=>.int k n
 |_,_,.float k n=>.float k n
 |_,_,.str l s h=>.str l s h
 |_,_,.ptr b o e h=>.ptr b o ⟨e.a,none⟩ (fD h)
 |_,_,.bX=>.bX
 |_,_,.slice b o n fV wh e ad c h had hn hm hl hc=>.slice b o n fV wh ⟨e.a,none⟩ ad c (fD h) had hn hm hl (fun _ _ sz t hx=>by cases hx)
 |_,_,.an=>.an
 |_,_,.map b e h=>.map b ⟨e.a,none⟩ (fD h)
 |_,_,.cd=>.cd
 |_,_,.func f a b F C h1 h2=>.func f a b F C (b8.bare h1) (b8.bare h2)
 |_,_,.yield b e h=>.yield b ⟨e.a,none⟩ (fD h)
 |_,_,.bN=>.bN
 |_,_,.iface t v u h=>.iface t v u (VR.bare h)
 |_,_,.bu=>.bu
 |_,_,.agg cs C h ho=>.agg cs C (b8.bare h) ho
 |_,_,.tuple cs C h=>.tuple cs C (b8.bare h)
 |_,_,.bad v=>.bad v
 |_,_,.tm t x u ht h=>.tm t x u ht h
 |_,_,.vl ts n b u e he h=>.vl ts n b u ⟨e.a,none⟩ (fD he) (h.imp_right fun ⟨m,c,h1,h2,h3,h4,h5,_⟩=>⟨m,c,h1,h2,h3,h4,h5,fun _ _ hx=>by cases hx⟩)
 |_,_,.e0 z ad c hz hm=>.e0 z ad c hz hm
 |_,_,.pe ts b i o e k n h hi=>.pe ts b i o ⟨e.a,none⟩ k n (fD h) hi
 |_,_,.fb x n h=>.fb x n h
theorem b8.bare {μ:bw}: ∀{v:List AV} {u:List Value},b8 P μ v u→b8 P (bare μ) v u
 |_,_,.nil=>.nil
 |_,_,.cons v u vs us h k=>.cons v u vs us (VR.bare h) (b8.bare k)
end
theorem DR.bare {μ:bw} {d:kz} {c:Deferred} (h:DR P μ d c):DR P (bare μ) d c:=by
 cases h with
 |fn f cap args C A hc ha=>exact .fn f cap args C A hc.bare ha.bare
 |collected b e h=>exact .collected b ⟨e.a,none⟩ (fD h)
theorem yJ.bare {μ:bw} {d:List kz} {c:List Deferred} (h:yJ P μ d c):yJ P (bare μ) d c:=by
 induction h with
 |nil=>exact .nil
 |cons d c ds cs h _ ih=>exact .cons d c _ _ h.bare ih
theorem AR.bare {μ:bw} {a:aN} {ca:Act} (h:AR P μ a ca):AR P (bare μ) a ca:=⟨fun t=>(h.tm t).bare,h.size,h.defers.bare⟩
theorem iV.bare {μ:bw} {w:World} {m:Nat} (h:iV P N μ w m):iV P w.heap.size (bare μ) w m:=by
 have hb: ∀b e,Sai.bare μ b=some e→∃e',μ b=some e'∧e=⟨e'.a,none⟩:=by
  intro b e he
  obtain ⟨e',h1,h2⟩:=Option.map_eq_some_iff.1 he
  exact ⟨e',h1,h2.symm⟩
 refine ⟨fun b e he=>?_,fun b e he=>?_,fun g hg=>fD (h.eZ g hg),VY _,VZ h.hn h.hN,h.base,h.fW⟩
 ·obtain ⟨e',h1,rfl⟩:=hb b e he;exact h.Hz b e' h1
 ·obtain ⟨e',h1,rfl⟩:=hb b e he
  exact ⟨(h.GO b e' h1).1,.inl ⟨rfl,(h.GO b e' h1).1⟩⟩
structure Kept (w w':World):Prop where
 os:w'.os=w.os
 tape:w'.tape=w.tape
 output:w'.output=w.output
 size:w.heap.size≤w'.heap.size
 same: ∀k,k<w.heap.size→w'.heap[k]? =w.heap[k]?
theorem Dw (hP:cB P) {o:Oper} (h4:bJ P o.op=4) {a:aN} {ca:Act} {μ:bw} {w:World} {m:Nat} {v:AV} {s s1:St} (hx:gv o.op P a s=some (.val v s1)) (ha:AR P μ a ca) (hp:iV P N μ w m):
 ∃u w',(execOp ca.eval o).run P w= .ok (.value u) w'∧VR P μ v u∧Kept w w':=by
 have hpu:=xp P a h4
 obtain ⟨μ₁,u,w',hrun,hg,hv,heq⟩:=dW hP hp.sr ha (hpu.any hx (ghost N μ m))
 rw [heq rfl] at hg hv
 obtain ⟨μ₂,u₂,w₂,hrun₂,hg₂,_⟩:=dW hP hp.bare.sr ha.bare (hpu.any hx (ghost w.heap.size (bare μ) m))
 rw [hrun] at hrun₂
 cases hrun₂
 exact ⟨u,w',hrun,hv,hg₂.ev.os,hg₂.ev.tape,hg₂.ev.output,hg₂.ev.size,fun k hk=>hg₂.ev.same k hk (.inl hk)⟩
end
end
section
open Go Go.RowKit
variable [Env]
section
variable {P:Program} {N:Nat}
structure Lay (P:Program) (N:Nat) (μ:bw) (o:Oper) (a:aN) (ca:Act) (v:Pos→AV) (bU:aY) (obj:Obj) (U:Nat→Value) (own:Option (Nat×TypeId)):Prop where
 alive:bO bU=false
 Uu: ∀s,gv o.op P a s=some (.val (v s.n) (s.push bU))
 run: ∀w:World,(execOp ca.eval o).run P w= .ok (.value (U w.heap.size)) (w.alloc obj)
 br: ∀(g:Nat) (w':World) (μ':bw),Sub μ μ'→N≤g→w'.heap[g]? =some obj→BR P N μ' w' bU ⟨⟨g,0,none⟩,own⟩
 val: ∀(n:Pos) (g:Nat) (μ':bw),μ' n=some ⟨⟨g,0,none⟩,own⟩→VR P μ' (v n) (U g)
theorem yW {μ:bw} {t:TypeId} {vs:List AV} {us:Array Value} (hv:b8 P μ vs us.toList) (ho:cf vs=true) (g:Nat) (w':World) (μ':bw) (hs:Sub μ μ') (hN:N≤g) (hg:w'.heap[g]? =some (.cells us t (0,0))):
 BR P N μ' w' (.cells true t vs.length (.of vs)) ⟨⟨g,0,none⟩,some (us.size,t)⟩:=by
 have hl:vs.length=us.size:=by simpa using hv.length
 refine ⟨g,us.size,us,rfl,hN,hg,rfl,by omega,fun i hi=>?_⟩
 obtain ⟨v,hvi⟩: ∃v,vs[i]? =some v:=⟨vs[i],Wj hi⟩
 obtain ⟨u,hu,hr⟩:=hv.get hvi
 exact ⟨v,u,by rw [Cs.jy];exact hvi,by simpa using hu,hr.mono hs,gH ho hvi⟩
theorem Jm {μ':bw} {n:Pos} {g:Nat} {own:Option (Nat×TypeId)} (h:μ' n=some ⟨⟨g,0,none⟩,own⟩):VR P μ' (.ptr n 0) (.pointer (some ⟨g,0,none⟩)):=by
 have:=VR.ptr (P:=P) (μ:=μ') n 0 _ h
 simpa [add_nil] using this
theorem Br {t:TypeId} {s:St} {n m:Tm} {ts:List Ty} {e:TypeId} {y:Tm} (h:ig P t s n m=some (.val (.vl ts n s.n) (s.push (.vec true e ts n y)))) (s':St):ig P t s' n m=some (.val (.vl ts n s'.n) (s'.push (.vec true e ts n y))):=by
 obtain ⟨e',he,hr1⟩:=aa.1 h
 obtain ⟨by_,hby,hr2⟩:=aa.1 hr1
 obtain ⟨sz,hsz,hr3⟩:=aa.1 hr2
 obtain ⟨z,hz,hr4⟩:=aa.1 hr3
 obtain ⟨ts',hts,hr5⟩:=aa.1 hr4
 obtain ⟨yy,hy,hr6⟩:=aa.1 hr5
 obtain ⟨hb,hr7⟩:=aj.1 hr6
 obtain ⟨y1,y2⟩:=yy
 cases y2 with
 |cons _ _=>cases hr7
 |nil=>
  have hr7:aG.val (.vl ts' n s.n) (s.push (.vec true e' ts' n (.op .rep (n::y1))))= .val (.vl ts n s.n) (s.push (.vec true e ts n y)):=VF hr7
  injection hr7 with g1 g2
  injection g1 with g1
  have:=congrArg (fun σ:St=>σ.h.get s.n) g2
  simp only [bP,if_pos] at this
  injection this with this
  injection this with _ g3 _ _ g4
  subst g1 g3 g4
  show Sai.ab (dJ P t) _=_
  rw [he]
  show Sai.ab (ju P e') _=_
  rw [hby]
  show Sai.ab (bA P e') _=_
  rw [hsz]
  show Sai.ab (cV P e') _=_
  rw [hz]
  show Sai.ab (lQ P 12 e') _=_
  rw [hts]
  show Sai.ab (jf ts' z.cells) _=_
  rw [hy]
  show Sai.au _ _ _=_
  rw [hb]
theorem GP {μ:bw} {σ:St} {w:World} {o:Oper} (h1:bJ P o.op=1) {a:aN} {ca:Act} (hs:SR P N μ σ w) (ha:AR P μ a ca) {s:St} {x:aG} (hx:gv o.op P a s=some x):
 ∃v bU obj U own,Lay P N μ o a ca v bU obj U own:=by
 cases ho:o.op<;>rw [ho] at h1 hx<;>first |(cases h1;done) |skip
 case convert s d x=>exfalso;simp only [bJ] at h1;split at h1<;>cases h1
 case call c=>exfalso;simp only [bJ] at h1;split at h1<;>cases h1
 case alloc t=>
  by_cases harr:(Gam.z3:Bool)=true∧∃q,tH P t=some q
  ·obtain ⟨hm,q,hq⟩:=harr
   have hop: ∀s',gv (.alloc t) P a s'=Sai.ab (cV P t) fun z=>ma t s' z.cells q:=fun s'=>by
    show gV t P a s'=_
    unfold gV
    rw [hm,hq]
   rw [hop] at hx
   obtain ⟨z,hz,hx⟩:=aa.1 hx
   obtain ⟨zv,_,hzv,i,hi,hzz⟩:=cN (μ:=μ) hz w
   have hrun: ∀w:World,(zeroValue t).run P w= .ok zv w:=fun w=>by simp [zeroValue,pB hi,hzz]
   obtain ⟨c,l,rfl,f1,f2,f3,f4,f5⟩:=w9 hzv hx
   refine ⟨fun n=>.pe [q.1] n (.int .i64 0) 0,.vec true t [q.1] (.int .i64 (Vw q.2)) (.op .rep [.int .i64 (Vw q.2),c]),.cells zv.cells t (0,0),fun g=>.pointer (some ⟨g,0,none⟩),some (zv.cells.size,t),rfl,fun s'=>?_,fun w=>?_,IG f1 f2 f3 f4 f5,fun n g μ' h=>?_⟩
   ·rw [ho,hop,hz]
    show ma t s' z.cells q=_
    have hsh:=hx
    cases hzc:z.cells with
    |nil=>rw [hzc] at hsh;cases hsh
    |cons v l=>
     rw [hzc] at hsh
     obtain ⟨c',hc,hx⟩:=aa.1 (show Sai.ab (lW q.1 v) (fun c=>Sai.au (rP v l&&Vo (Vt l.length) q.2&&Vv q.2 100000000) (some (aG.val (.pe [q.1] s.n (.int .i64 0) 0) (s.push (.vec true t [q.1] (.int .i64 (Vw q.2)) (.op .rep [.int .i64 (Vw q.2),c]))))) none)=some _ from hsh)
     obtain ⟨hb,hx⟩:=aj.1 hx
     have hcc:c'=c:=by
      injection hx with hx
      injection hx with _ hx
      have:=congrArg (fun σ:St=>σ.h.get s.n) hx
      simp only [bP,if_pos] at this
      injection this with this
      injection this with _ _ _ _ this
      injection this with _ this
      injection this with _ this
      injection this
     subst hcc
     show Sai.ab (lW q.1 v) _=_
     rw [hc]
     show Sai.au (rP v l&&Vo (Vt l.length) q.2&&Vv q.2 100000000) _ _=_
     rw [hb]
   ·unfold execOp
    simp only [ho]
    simp [Instr.alloc,hrun,newVar,newRow]
   ·have:=VR.pe (P:=P) (μ:=μ') [q.1] n (.int .i64 0) 0 _ .i64 0 h rfl
    simpa [add_nil] using this
  have hop: ∀s',gv (.alloc t) P a s'=Sai.ab (cV P t) (fun z=>Sai.au (cf z.cells) (some (aG.val (.ptr s'.n 0) (s'.row t z.cells))) none):=fun s'=>by
   show gV t P a s'=_
   unfold gV
   cases hm:(Gam.z3:Bool) with
   |false=>rfl
   |true=>
    cases hq:tH P t with
    |none=>rfl
    |some q=>exact absurd ⟨hm,q,hq⟩ harr
  rw [hop] at hx
  obtain ⟨z,hz,hx⟩:=aa.1 (show Sai.ab (cV P t) (fun z=>Sai.au (cf z.cells) (some (aG.val (.ptr s.n 0) (s.row t z.cells))) none)=some x from hx)
  obtain ⟨hon,hx⟩:=aj.1 hx
  obtain ⟨zv,_,hzv,i,hi,hzz⟩:=cN (μ:=μ) hz w
  have hrun: ∀w:World,(zeroValue t).run P w= .ok zv w:=fun w=>by simp [zeroValue,pB hi,hzz]
  refine ⟨fun n=>.ptr n 0,.cells true t z.cells.length (.of z.cells),.cells zv.cells t (0,0),fun g=>.pointer (some ⟨g,0,none⟩),some (zv.cells.size,t),rfl,fun s'=>?_,fun w=>?_,?_,fun n g μ' h=>Jm h⟩
  ·rw [ho,hop,hz]
   show Sai.au (cf z.cells) _ _=_
   rw [hon]
   rfl
  ·unfold execOp
   simp only [ho]
   simp [Instr.alloc,hrun,newVar,newRow]
  ·exact yW (hzv.cells (bT hon)) hon
 case box t y=>
  obtain ⟨z,hz,hx⟩:=aa.1 (show Sai.ab (a.eval P y) (fun v=>Sai.au (cf v.cells) (some (aG.val (.ptr s.n 0) (s.row t v.cells))) none)=some x from hx)
  obtain ⟨hon,hx⟩:=aj.1 hx
  have hzv:=ha.eval hs hz
  refine ⟨fun n=>.ptr n 0,.cells true t z.cells.length (.of z.cells),.cells (ca.eval y).cells t (0,0),fun g=>.pointer (some ⟨g,0,none⟩),some ((ca.eval y).cells.size,t),rfl,fun s'=>?_,fun w=>?_,?_,fun n g μ' h=>Jm h⟩
  ·rw [ho]
   show Sai.ab (a.eval P y) (fun v=>Sai.au (cf v.cells) (some (aG.val (.ptr s'.n 0) (s'.row t v.cells))) none)=_
   rw [hz]
   show Sai.au (cf z.cells) _ _=_
   rw [hon]
   rfl
  ·unfold execOp
   simp only [ho]
   simp [Instr.box,newVar,newRow]
  ·exact yW (hzv.cells (bT hon)) hon
 case makeMap t r=>
  cases r with
  |some y=>cases hx
  |none=>
   have hop: ∀s',gv (.makeMap t none) P a s'=some (Sai.au Gam.z3 (qH s' (nu P t)) (lY s')):=fun s'=>rfl
   have hrunM: ∀w:World,(execOp ca.eval o).run P w= .ok (.value (.map (some w.heap.size))) (w.alloc (.map #[] 0)):=fun w=>by
    unfold execOp
    simp only [ho]
    simp [Instr.makeMap]
   by_cases hq:(Gam.z3:Bool)=true∧∃q,nu P t=some q
   ·obtain ⟨hm,q,hq⟩:=hq
    exact ⟨fun n=>.map n,.bY q.1 q.2.1 q.2.2 (.op .nil []),.map #[] 0,fun g=>.map (some g),none,rfl,fun s'=>by rw [ho,hop,hm,hq];rfl,hrunM,
     fun g w' μ' hsub hN hg=>⟨[],rfl,⟨[],rfl,fun r hr=>absurd hr List.not_mem_nil⟩,trivial,g,#[],0,[],rfl,hN,hg,List.Perm.nil,.nil,jR.nil⟩,fun n g μ' h=>.map n _ h⟩
   have hop: ∀s',gv (.makeMap t none) P a s'=some (lY s'):=fun s'=>by
    rw [hop]
    cases hm:(Gam.z3:Bool) with
    |false=>rfl
    |true=>
     cases hq':nu P t with
     |none=>rfl
     |some q=>exact absurd ⟨hm,q,hq'⟩ hq
   refine ⟨fun n=>.map n,.map [],.map #[] 0,fun g=>.map (some g),none,rfl,fun s'=>by rw [ho,hop];rfl,hrunM,fun g w' μ' hsub hN hg=>⟨g,#[],0,rfl,hN,hg,EP.nil,jR.nil⟩,fun n g μ' h=>.map n _ h⟩
 case buildSlice t n ps=>
  obtain ⟨vs,hvs,hx⟩:=aa.1 (show Sai.ab (cS P a (ps.toList.map (·.2))) (fun vs=>lU P t n (ps.toList.map (·.1)) vs s)=some x from hx)
  obtain ⟨e,he,hx⟩:=aa.1 hx
  obtain ⟨zs,hzs,hx⟩:=aa.1 hx
  obtain ⟨cs,hcs,rfl⟩:=aO.1 hx
  have hvv:=ha.cS hs hvs
  have he':=cA he
  have hzs0:=hzs
  unfold tC at hzs
  split at hzs
  ·rename_i ie hie
   cases hc:(ie.zero.isSome&&Vv n 16777216&&Vv (n*ie.size) 16777216) with
   |false=>rw [hc] at hzs;cases hzs
   |true=>
    rw [hc,cond_true] at hzs
    simp only [V1] at hc
    obtain ⟨⟨hz,hn⟩,hns⟩:=hc
    have hn:=VQ hn
    have hns:=VQ hns
    obtain ⟨z,hz⟩:=Option.isSome_iff_exists.1 hz
    have hul:((ps.toList.map (·.2)).map ca.eval).length=(ps.toList.map (·.1)).length:=by simp
    have hrun: ∃R,(∀w:World,(Xj t n (ps.map fun (i,x)=>(i,ca.eval x))).run P w= .ok (.slice (some ⟨w.heap.size,0,none⟩) n n) (w.alloc (.cells R.toArray e)))∧b8 P μ cs R∧cf cs=true∧R.length=n*ie.size:=by
     by_cases h0:n*ie.size=0
     ·obtain ⟨R,q1,q2,q3,q4⟩:=gk (P:=P) (μ:=μ) _ _ _ 0 zs vs _ cs ((Array.range (n*ie.size)).map ((#[]:Array Value)[· % (#[]:Array Value).size]!)) hzs hcs hvv (by simp) hul
      refine ⟨R,fun w=>?_,q2,q3,by omega⟩
      rw [←jS] at q1
      simp only [Xk,Xl] at q1
      simp [Xj,run_underlying he',sizeOf,typeInfo,hie,h0,newRow] at q1⊢
      simp [q1]
     ·obtain ⟨R,q1,q2,q3,q4⟩:=gk (P:=P) (μ:=μ) _ _ _ 0 zs vs _ cs ((Array.range (n*ie.size)).map (z.cells[· % z.cells.size]!)) hzs hcs hvv (by simp) hul
      refine ⟨R,fun w=>?_,q2,q3,by omega⟩
      rw [←jS] at q1
      have hns': ¬n*ie.size>2 ^ 24:=by omega
      simp only [Xk,Xl] at q1
      simp only [Xj,run_underlying he',sizeOf,typeInfo,zeroValue,hie,hz,hns',h0,newRow,Wc,Wd,run_program,Sem.run_pure,if_false,q1]
      rfl
    obtain ⟨R,hrun,q2,q3,q4⟩:=hrun
    refine ⟨fun m=>.slice m 0 n true true,.cells true e cs.length (.of cs),.cells R.toArray e (0,0),fun g=>.slice (some ⟨g,0,none⟩) n n,some (R.toArray.size,e),rfl,fun s'=>?_,fun w=>?_,?_,fun m g μ' h=>?_⟩
    ·rw [ho]
     show Sai.ab (cS P a (ps.toList.map (·.2))) (fun vs=>Sai.ab (dJ P t) fun e=>Sai.ab (tC P e n (ps.toList.map (·.1))) fun zs=>Sai.omap (pa zs vs) fun cs=>aG.val (.slice s'.n 0 n true true) (s'.row e cs))=_
     rw [hvs]
     show Sai.ab (dJ P t) _=_
     rw [he]
     show Sai.ab (tC P e n (ps.toList.map (·.1))) _=_
     rw [hzs0]
     show Sai.omap (pa zs vs) _=_
     rw [hcs]
     rfl
    ·unfold execOp
     simp only [ho]
     simp [hrun]
    ·exact yW (us:=R.toArray) (by simpa using q2) q3
    ·refine .slice m 0 n true true _ _ n h (.inl (by rw [add_nil])) (VY n) (by simp only [maxLen];omega) (fun _=>rfl) (fun _ _ sz t h=>?_)
     cases h
     rw [show P.cellsOf e=ie.size from by simp [Program.cellsOf,hie]]
     simpa using q4.symm
  ·cases hzs
 case makeSlice t l c=>
  obtain ⟨lv,hl,hx⟩:=aa.1 hx
  obtain ⟨cv,hc,hx⟩:=aa.1 hx
  have hop: ∀s',gv (.makeSlice t l c) P a s'=mb P t s' lv cv:=fun s'=>by
   show Sai.ab (a.eval P l) _=_
   rw [hl]
   show Sai.ab (a.eval P c) _=_
   rw [hc]
  by_cases htm: ∃n,lv= .tm (.int .i64) n
  ·obtain ⟨n,rfl⟩:=htm
   obtain ⟨m,hm,hx⟩:=aa.1 (show Sai.ab (nH cv) (ig P t s n)=some x from hx)
   have hlv:=ha.eval hs hl
   have hcv:=ha.eval hs hc
   have hln: ∃v:Int,ev n= .int .i64 v∧ca.eval l= .int .i64 v:=by
    generalize ca.eval l=X at hlv
    cases hlv with
    |tm _ _ _ h1 h2=>
     obtain ⟨v,h1⟩:=h1
     rw [h1] at h2
     cases h2
     exact ⟨v,h1,rfl⟩
   obtain ⟨v,hv,hX⟩:=hln
   have hsame:=hx
   obtain ⟨e,k,ts,y,L,us,rfl,rfl,rfl,hrun,f1,f2,f3,f4,f5,f6,f7⟩:=ue (μ:=μ) w hv hx
   have hY:ca.eval c= .int .i64 (Vw k):=by
    generalize ca.eval c=Y at hcv
    unfold nH at hm
    split at hm
    ·cases hm;cases hcv;cases hv;rfl
    ·cases hm
     cases hcv with
     |tm _ _ _ g1 g2=>rw [hv] at g2;cases g2;rfl
    ·cases hm
   refine ⟨fun b=>.vl ts n b,.vec true e ts n y,.cells us e (0,0),fun g=>.slice (some ⟨g,0,none⟩) k k,some (us.size,e),rfl,fun s'=>?_,fun w=>?_,IG f1 f2 f3 f4 f5,fun b g μ' h=>?_⟩
   ·rw [ho,hop]
    show Sai.ab (nH cv) (ig P t s' n)=_
    rw [hm]
    exact Br hsame s'
   ·unfold execOp
    simp only [ho,hX,hY,Wc,hrun w,Wd]
    rfl
   ·exact .vl ts n b _ _ h (.inr ⟨k,k,rfl,rfl,hv,VY _,f7,fun sz' t' h'=>by cases h';exact f6⟩)
  have hmk: ∀s',mb P t s' lv cv=Sai.ab (qF lv) fun l=>Sai.ab (qF cv) fun c=>iH P t l c s':=fun s'=>by
   unfold mb
   split
   ·exact absurd ⟨_,rfl⟩ htm
   ·rfl
  replace hx:mb P t s lv cv=some x:=hx
  rw [hmk] at hx
  obtain ⟨ln,hln,hx⟩:=aa.1 hx
  obtain ⟨cn,hcn,hx⟩:=aa.1 hx
  obtain ⟨e,he,hx⟩:=aa.1 hx
  obtain ⟨by_,hby,hx⟩:=aa.1 hx
  obtain ⟨sz,hsz,hx⟩:=aa.1 hx
  obtain ⟨z,hz,hx⟩:=aa.1 hx
  obtain ⟨hb,hx⟩:=aj.1 hx
  have hb0:=hb
  simp only [V1] at hb
  obtain ⟨⟨⟨⟨b1,b2⟩,b3⟩,b4⟩,b5⟩:=hb
  have hlv:=ha.eval hs hl
  have hcv:=ha.eval hs hc
  obtain rfl:=jT hln
  obtain rfl:=jT hcn
  have b1:ln≤cn:=VQ b1
  have b2:cn*by_≤140737488355328:=VQ b2
  have b3:cn≤1000000:=VQ b3
  have b5:z.cells.length=sz:=VN b5
  obtain ⟨zv,_,hzv,i,hi,hzz⟩:=cN (μ:=μ) hz w
  have he':=cA he
  obtain ⟨i',hi',rfl⟩:=fA hby
  rw [hi] at hi'
  cases hi'
  have hsi:i.size=sz:=by unfold bA at hsz;rw [hi] at hsz;cases hsz;rfl
  have hzc:=hzv.cells (bT b4)
  have hzs:zv.cells.size=sz:=by rw [←b5];simpa using hzc.length.symm
  have hrun: ∀w:World,(Instr.makeSlice t (.int .i64 (Vw ln)) (.int .i64 (Vw cn))).run P w= .ok (.slice (some ⟨w.heap.size,0,none⟩) ln cn) (w.alloc (.cells (madeCells zv.cells (cn*zv.cells.size)) e)):=fun w=>by
   have hrun:=run_make (P:=P) w t e i zv he' hi hzz .i64 .i64 (Vw ln) (Vw cn) (Int.natCast_nonneg _) (Int.ofNat_le.2 b1)
    (by rw [Nat.mul_comm] at b2
        have hq:((i.bytes*cn:Nat):Int)≤((140737488355328:Nat):Int):=Int.ofNat_le.2 b2
        rw [Int.natCast_mul] at hq
        exact Int.le_trans hq (by decide)) (by show ((cn:Nat):Int)≤_;omega)
   simp only [Int.ofNat_eq_natCast,Int.toNat_natCast] at hrun
   rw [hsi,←hzs] at hrun
   exact hrun
  have hX:ca.eval l= .int .i64 (Vw ln):=by
   generalize ca.eval l=X at hlv
   cases hlv
   rfl
  have hY:ca.eval c= .int .i64 (Vw cn):=by
   generalize ca.eval c=Y at hcv
   cases hcv
   rfl
  refine ⟨fun m=>.slice m 0 ln (Vo ln cn) true,.cells true e (tB z.cells cn).length (.of (tB z.cells cn)),.cells (madeCells zv.cells (cn*zv.cells.size)) e (0,0),fun g=>.slice (some ⟨g,0,none⟩) ln cn,some ((madeCells zv.cells (cn*zv.cells.size)).size,e),rfl,fun s'=>?_,fun w=>?_,?_,fun m g μ' h=>?_⟩
  ·rw [ho]
   have e1:gv (.makeSlice t l c) P a s'=iH P t ln cn s':=by
    rw [hop,hmk]
    rfl
   rw [e1]
   show Sai.ab (dJ P t) _=_
   rw [he]
   show Sai.ab (ju P e) _=_
   rw [hby]
   show Sai.ab (bA P e) _=_
   rw [hsz]
   show Sai.ab (cV P e) _=_
   rw [hz]
   show Sai.au _ _ _=_
   rw [hb0]
   rfl
  ·unfold execOp
   simp only [ho,hX,hY,Wc,hrun w,Wd]
   rfl
  ·exact yW (xe hzc cn) (qS b4 cn)
  ·refine .slice m 0 ln (Vo ln cn) true _ _ cn h (.inl (by rw [add_nil])) b1 (by simp only [maxLen];omega) (fun h=>(VN h).symm) (fun _ _ sz' t' h'=>?_)
   cases h'
   rw [cq hsz,size_madeCells,hzs]
end
end
section
open Go Go.RowKit
variable [Env]
section
variable {P:Program}
def uC (m:Zc) (ops:Array Oper):Prop:=∃ρ:Nat→Nat,∀(i:Nat) (o:Oper),ops[i]? =some o→∀e∈o.after,VD m e=true→e.on<ops.size∧ρ e.on<ρ i
theorem uD {m:Zc} {ops:Array Oper} {listed:Array Bool} (hsz:listed.size=ops.size) {ρ:Nat→Nat} (hρ: ∀(i:Nat) (o:Oper),ops[i]? =some o→∀e∈o.after,VD m e=true→e.on<ops.size∧ρ e.on<ρ i):
 ∀(r i:Nat),ρ i=r→i<ops.size→listed.getD i true=false→Zd m ops listed≠[]:=by
 intro r
 induction r using Za with
 |_ r ih=>
  intro i hr hi hl
  have ho:ops[i]? =some ops[i]:=Wo hi
  by_cases hall: ∀e∈(ops[i]).after,VD m e=true→listed.getD e.on false=true
  ·intro hn
   have:i∈Zd m ops listed:=mem_ready.2 ⟨hl,_,ho,hall⟩
   rw [hn] at this
   cases this
  ·have: ∃e,e∈(ops[i]).after∧VD m e=true∧listed.getD e.on false=false:=by
    apply Classical.byContradiction
    intro hne
    refine hall fun e he hb=>?_
    cases hq:listed.getD e.on false with
    |true=>rfl
    |false=>exact absurd ⟨e,he,hb,hq⟩ hne
   obtain ⟨e,he,hb,hq⟩:=this
   obtain ⟨h1,h2⟩:=hρ i _ ho e he hb
   refine ih (ρ e.on) (by omega) e.on rfl h1 ?_
   rw [We,Wo (by omega)] at hq⊢
   simpa using hq
def fg (listed:Array Bool):Nat:=(listed.toList.filter (! ·)).length
theorem kS {listed:Array Bool} {i:Nat} (h:listed.getD i true=false):fg (listed.setIfInBounds i true)+1=fg listed:=by
 have hi:i<listed.size:=by
  rcases Nat.lt_or_ge i listed.size with h' |h'
  ·exact h'
  ·rw [We,Ze h'] at h;cases h
 have hv:listed[i]=false:=by
  rw [We,Wo hi] at h
  simpa using h
 have key: ∀(l:List Bool) (i:Nat),l[i]? =some false→((l.set i true).filter (! ·)).length+1=(l.filter (! ·)).length:=by
  intro l
  induction l with
  |nil=>intro i h;simp at h
  |cons b l ih=>
   intro i h
   cases i with
   |zero=>simp at h;subst h;simp
   |succ i=>
    have:=ih i (by simpa using h)
    cases b<;>simp at this⊢ <;>omega
 unfold fg
 rw [Array.toList_setIfInBounds]
 exact key _ _ (by rw [Array.getElem?_toList,Wo hi,hv])
theorem ny {listed:Array Bool} (h:fg listed=0) {i:Nat} (hi:i<listed.size):listed.getD i true=true:=by
 cases hq:listed.getD i true with
 |true=>rfl
 |false=>have:=kS hq;omega
theorem pO {listed:Array Bool} (h:fg listed≠0): ∃i,i<listed.size∧listed.getD i true=false:=by
 have: ∃x,x∈listed.toList.filter (! ·):=by
  unfold fg at h
  cases hl:listed.toList.filter (! ·) with
  |nil=>rw [hl] at h;exact absurd rfl h
  |cons x l=>exact ⟨x,by simp⟩
 obtain ⟨x,hx⟩:=this
 rw [List.mem_filter] at hx
 obtain ⟨i,hi,hxi⟩:=List.getElem_of_mem hx.1
 refine ⟨i,by simpa using hi,?_⟩
 rw [We,Wo (by simpa using hi)]
 have h2:x=false:=by simpa using hx.2
 subst h2
 simpa using hxi
theorem GQ {m:Zc} {ops:Array Oper} (hR:uC m ops) {b:Frame} {k:List Item} {cs:List Frame} {I:Array Bool→Act→World→Prop}
 (hstep: ∀(listed:Array Bool) (ca:Act) (w:World) (i:Nat),I listed ca w→i∈Zd m ops listed→∀rest,∃ca' w',Steps P (lone (b.atR ca (.inRegion ops (i::rest)::k)) cs w) (lone (b.atR ca' (.inRegion ops rest::k)) cs w')∧I (listed.setIfInBounds i true) ca' w'):
 ∀(fuel t:Nat) (listed:Array Bool) (ca:Act) (w:World),listed.size=ops.size→fg listed=fuel→I listed ca w→
  ∃listed' ca' w',(∀i,i<ops.size→listed'.getD i true=true)∧I listed' ca' w'∧Steps P (lone (b.atR ca (.inRegion ops (Zf m ops fuel t listed [])::k)) cs w) (lone (b.atR ca' k) cs w'):=by
 obtain ⟨ρ,hρ⟩:=hR
 intro fuel
 induction fuel with
 |zero=>
  intro t listed ca w hsz hun hI
  exact ⟨listed,ca,w,fun i hi=>ny hun (by omega),hI,.one stepR_region_end⟩
 |succ fuel ih=>
  intro t listed ca w hsz hun hI
  obtain ⟨i0,hi0,hl0⟩:=pO (listed:=listed) (by omega)
  have hne:=uD hsz hρ (ρ i0) i0 rfl (by omega) hl0
  have hlen:0<(Zd m ops listed).length:=List.length_pos_iff.2 hne
  have hget:(Zd m ops listed)[t % (Zd m ops listed).length]? =some ((Zd m ops listed)[t % (Zd m ops listed).length]'(Nat.mod_lt _ hlen)):=Wj _
  generalize hi:(Zd m ops listed)[t % (Zd m ops listed).length]'(Nat.mod_lt _ hlen)=i at hget
  have hmem:i∈Zd m ops listed:=by rw [←hi];exact List.getElem_mem _
  have hgo:Zf m ops (fuel+1) t listed []=i::Zf m ops fuel (t / (Zd m ops listed).length) (listed.setIfInBounds i true) []:=by
   show (match (Zd m ops listed)[t % (Zd m ops listed).length]? with |some i=>Zf m ops fuel (t / (Zd m ops listed).length) (listed.setIfInBounds i true) [i] |none=>[].reverse)=_
   rw [hget]
   show Zf m ops fuel (t / (Zd m ops listed).length) (listed.setIfInBounds i true) [i]=_
   rw [linearise_go_acc]
   rfl
  rw [hgo]
  obtain ⟨ca₁,w₁,hs,hI₁⟩:=hstep listed ca w i hI hmem (Zf m ops fuel (t / (Zd m ops listed).length) (listed.setIfInBounds i true) [])
  have hun₁:=kS (mem_ready.1 hmem).1
  obtain ⟨listed',ca',w',h1,h2,h3⟩:=ih (t / (Zd m ops listed).length) (listed.setIfInBounds i true) ca₁ w₁ (by simpa using hsz) (by omega) hI₁
  exact ⟨listed',ca',w',h1,h2,hs.trans h3⟩
end
end
section
open Go Go.RowKit
variable [Env]
section
variable {P:Program}
theorem uE {e:Edge} (h:VD .any e=true):VD .text e=true:=by
 unfold VD at*
 cases he:e.ground<;>rw [he] at h<;>first |rfl |cases h
theorem Jn {e:Edge} (h:VD .any e=true):VD .gc e=true:=by
 unfold VD at*
 cases he:e.ground<;>rw [he] at h<;>first |rfl |cases h
theorem Dx (ops:Array Oper):me ops.toList=Zg ops:=by
 unfold me Zg
 rw [←Zh]
 congr 1
 funext o
 rw [←Zh]
theorem Jo {ops:Array Oper} (hF:Fit P ops.toList) (mixed:Bool) (t:Nat): ∃m t',Zi mixed ops t=Zb m ops t'∧uC m ops∧∀e,VD .any e=true→VD m e=true:=by
 have htext:uC .text ops:=by
  refine ⟨id,fun i o ho e he hb=>?_⟩
  have hlt:=hF.text i o (by simpa using ho) e (by simpa using he) hb
  have hi:i<ops.size:=(Array.getElem?_eq_some_iff.1 ho).1
  exact ⟨by omega,hlt⟩
 have hany:uC .any ops:=by
  obtain ⟨ρ,h⟩:=htext
  exact ⟨ρ,fun i o ho e he hb=>h i o ho e he (uE hb)⟩
 unfold Zi
 cases hc:(mixed|| !Zg ops) with
 |true=>exact ⟨.any,t,by simp,hany,fun e h=>h⟩
 |false=>
  simp only [Bool.false_eq_true,if_false]
  rw [Bool.or_eq_false_iff] at hc
  have hd:me ops.toList=true:=by rw [Dx];simpa using hc.2
  cases ht:(t % 2==0) with
  |true=>exact ⟨.text,t / 2,by simp,htext,fun e h=>uE h⟩
  |false=>
   obtain ⟨ρ,h⟩:=hF.gc hd
   refine ⟨.gc,t / 2,by simp,⟨ρ,fun i o ho e he hb=>?_⟩,fun e h=>Jn h⟩
   have:=h i o (by simpa using ho) e (by simpa using he) hb
   simpa using this
theorem kT (done:List Nat) (i j:Nat): ∀es:List Edge,(∃e∈es,VD .any e=true∧e.on<i∧(e.on=j∨Y1 (done.getD (i - 1 - e.on) 0) j=true))→Y1 (cW done i es) j=true
 |[],h=>by obtain ⟨e,he,_⟩:=h;cases he
 |e::es,h=>by
  obtain ⟨e',he',hb,hlt,hor⟩:=h
  unfold cW
  cases hc:(VD .any e&&VE e.on i) with
  |false=>
   rw [cond_false]
   refine kT done i j es ⟨e',?_,hb,hlt,hor⟩
   cases he' with
   |head=>
    rw [Bool.and_eq_false_iff] at hc
    rcases hc with hc |hc
    ·rw [hb] at hc;cases hc
    ·have:VE e.on i=true:=by simpa [Y2] using hlt
     rw [this] at hc;cases hc
   |tail _ h=>exact h
  |true=>
   rw [cond_true]
   show Y1 (((1 <<< e.on) ||| done.getD (i - 1 - e.on) 0) ||| cW done i es) j=true
   rw [Y3,Y3,WW,WW]
   cases he' with
   |head=>
    rcases hor with h |h
    ·left;left
     rw [Y4,Y5]
     exact decide_eq_true h
    ·left;right;exact h
   |tail _ h=>right;exact kT done i j es ⟨e',h,hb,hlt,hor⟩
theorem Bs {ops:List Oper} {i j:Nat} {o:Oper} (ho:ops[i]? =some o) {e:Edge} (he:e∈o.after.toList) (hb:VD .any e=true) (hlt:e.on<i) (hor:e.on=j∨bit (ahead ops) e.on j=true):bit (ahead ops) i j=true:=by
 obtain ⟨rest,h1,h2,h3⟩:=iw ops [] 0 rfl
 have hA:ahead ops=rest:=by unfold ahead;rw [h1];simp
 have:=h3 i o ho
 simp only [Y7,Xl,Yq] at this
 unfold bit at hor⊢
 rw [hA] at hor⊢
 rw [this]
 refine kT _ _ _ _ ⟨e,he,hb,hlt,hor.imp id fun hq=>?_⟩
 have hil:i<rest.length:=by rw [h2];exact (List.getElem?_eq_some_iff.1 ho).1
 rw [Y6,Y8 (by simp;omega)]
 simp only [V9,Wa (Y9 hil)]
 rw [VK,if_pos (by omega),show i - 1 - (i - 1 - e.on)=e.on from by omega]
 rw [Y6] at hq
 exact hq
theorem qY {ops:List Oper}: ∀(a b c:Nat),bit (ahead ops) a b=true→bit (ahead ops) b c=true→bit (ahead ops) a c=true:=by
 intro a
 induction a using Za with
 |_ a ih=>
  intro b c h k
  cases ho:ops[a]? with
  |none=>rw [Bp ho] at h;cases h
  |some o=>
   obtain ⟨e,he,hb,hlt,rfl |hq⟩:=ux ho h
   ·exact Bs ho he hb hlt (.inr k)
   ·exact Bs ho he hb hlt (.inr (ih e.on hlt b c hq k))
open Classical in
noncomputable def cC (μ:bw) (p:Pos→Prop):bw:=⟨fun b=>if p b then μ b else none,μ.fz⟩
open Classical in
theorem kU (μ:bw) (p:Pos→Prop) (b:Pos):cC μ p b=if p b then μ b else none:=rfl
theorem bz {μ:bw} {p:Pos→Prop} {b:Pos} {e:fx}:cC μ p b=some e↔p b∧μ b=some e:=by
 rw [kU]
 by_cases h:p b
 ·rw [if_pos h];exact ⟨fun q=>⟨h,q⟩,fun q=>q.2⟩
 ·rw [if_neg h];exact ⟨(fun q=>by cases q),fun q=>absurd q.1 h⟩
theorem cL {μ μ':bw} {p q:Pos→Prop} (h: ∀b e,p b→μ b=some e→q b∧μ' b=some e) (hz: ∀ad v,μ.fz ad=some v→μ'.fz ad=some v:=by exact fun _ _ h=>h):Sub (cC μ p) (cC μ' q):=⟨fun b e hb=>by
 obtain ⟨h1,h2⟩:=bz.1 hb
 exact bz.2 (h b e h1 h2),hz⟩
end
end
section
open Go Go.RowKit
variable [Env]
section
variable {P:Program} {N:Nat}
def Dy (P:Program) (tels:List gw) (S:Nat→St) (i:Nat) (b:Pos):Prop:=∃t,tels[i]? =some t∧t.w=true∧bJ P t.o.op=1∧b=(S i).n
def yX (P:Program) (ops:List Oper) (tels:List gw) (S:Nat→St) (h j:Nat):Pos→Prop:=fun b=>b.toNat<(S h).n.toNat∨∃i,Dy P tels S i b∧bit (ahead ops) j i=true
def qZ (P:Program) (ops:List Oper) (tels:List gw) (S:Nat→St) (h j:Nat):Pos→Prop:=fun b=>b.toNat<(S h).n.toNat∨∃i,Dy P tels S i b∧(i=j∨bit (ahead ops) j i=true)
def jq (S:Nat→St) (h:Nat):Pos→Prop:=fun b=>b.toNat<(S h).n.toNat
structure Inv (P:Program) (N:Nat) (ops:List Oper) (tels:List gw) (A:Nat→aN) (S:Nat→St) (μ₀:bw) (w₀:World) (D:Nat→Bool) (h:Nat) (μ:bw) (ca:Act) (w:World):Prop where
 lt: ∀i,D i=true→i<ops.length
 down: ∀i j,D i=true→bit (ahead ops) i j=true→D j=true
 hle:h≤ops.length
 Jp: ∀o,ops[h]? =some o→bJ P o.op=2∧D h=false
 MH: ∀e o,ops[e]? =some o→bJ P o.op=2→(D e=true↔e<h)
 size:ca.tmps.size=(A 0).n
 wC:yJ P (cC μ (jq S 0)) (A 0).defers ca.defers
 done: ∀i t d,D i=true→tels[i]? =some t→t.o.dst=some d→VR P (cC μ (qZ P ops tels S h i)) t.v (ca.tmps.getD d undef)
 iG: ∀d,(∀(i:Nat) (o:Oper),ops[i]? =some o→o.dst=some d→D i=false)→VR P (cC μ (jq S 0)) ((A 0).tmp d) (ca.tmps.getD d undef)
 sr:SR P N (cC μ (jq S h)) (S h) w
 Jq: ∀j t,D j=true→h<j→tels[j]? =some t→t.w=true→bJ P t.o.op=1→∃e bU,μ (S j).n=some e∧S (j+1)=(S j).push bU∧bO bU=false∧BR P N (cC μ (qZ P ops tels S h j)) w bU e∧N≤e.a.block∧
  (∀b' e',b'≠(S j).n→μ b'=some e'→e'.a.block≠e.a.block)∧∀ad v,μ.fz ad=some v→ad.block≠e.a.block
 Hz: ∀b e,μ b=some e→b.toNat<(S h).n.toNat∨∃j,D j=true∧h<j∧Dy P tels S j b
 uF: ∀j t,D j=false→tels[j]? =some t→t.w=true→bJ P t.o.op=1→μ (S j).n=none
 ev:Ev N μ₀ w₀ w
 ext:Ext μ₀ μ w₀
 fresh: ∀b e,μ b=some e→μ₀ b=some e∨(S 0).n.toNat≤b.toNat
theorem xr {t:Tmp}: ∀{l:List Operand},Zj t∈l→t∈lI l
 |x::l,h=>by
  cases h with
  |head=>exact V2 ..
  |tail _ h=>
   have:=xr h
   cases x<;>first |exact V3 _ this |exact this
def Bt:List Tmp→Nat
 |[]=>0
 |t::l=>t+Bt l+1
theorem Bu {t:Tmp}: ∀{l:List Tmp},t∈l→t<Bt l
 |x::l,h=>by
  cases h with
  |head=>exact Nat.lt_succ_of_le (Nat.le_add_right t (Bt l))
  |tail _ h=>exact VX (Bu h) (Nat.le_succ_of_le (Zk (Bt l) x))
section
variable {r:Rec} {ops:List Oper} {tels:List gw} {A:Nat→aN} {S:Nat→St} {B:Nat→Bool} {μ₀ μ:bw} {w₀ w:World} {D:Nat→Bool} {h:Nat} {ca:Act}
theorem Inv.mask (hF:Fit P ops) (hT:jX P r ops ops 0 tels A S B) (hI:Inv P N ops tels A S μ₀ w₀ D h μ ca w) {q:Nat} {t:gw} (hq:tels[q]? =some t) (hDq:D q=false) (hdone: ∀j,bit (ahead ops) q j=true→D j=true):
 ∃a',AR P (cC μ (yX P ops tels S h q)) a' ca∧∀s,gv t.o.op P a' s=gv t.o.op P (A q) s:=by
 have hqo:=(hT.mY q t hq).1
 have hql:=hT.lt hq
 obtain ⟨e1,e2,e3⟩:=hT.same q (Y9 hql)
 have hsub0:Sub (cC μ (jq S 0)) (cC μ (yX P ops tels S h q)):=cL fun b e hb he=>⟨.inl (VX hb (hT.mono (Xz _) hI.hle)),he⟩
 have hop: ∀x,x∈lI t.o.op.operands.toList→VR P (cC μ (yX P ops tels S h q)) ((A q).tmp x) (ca.tmps.getD x undef):=by
  intro x hx
  by_cases hw: ∃(j:Nat) (o:Oper),ops[j]? =some o∧o.dst=some x
  ·obtain ⟨j,o,hj,hd⟩:=hw
   rcases hF.reads q t.o x hqo hx j o hj hd with hb |hb
   case inr=>
    have hqj:=kR j q hb
    rw [hT.iG q (Y9 hql) fun i o' hi ho' hd'=>hF.dst i j o' o x (by omega) ho' hj hd' hd]
    refine (hI.iG x fun i o' ho' hd'=>?_).mono hsub0
    have hij:i=j:=by
     rcases Nat.lt_trichotomy i j with hl |hl |hl
     ·exact absurd hd (hF.dst i j o' o x hl ho' hj hd')
     ·exact hl
     ·exact absurd hd' (hF.dst j i o o' x hl hj ho' hd)
    subst hij
    cases hDi:D i with
    |false=>rfl
    |true=>
     have:=hI.down i q hDi hb
     rw [hDq] at this
     cases this
   have hjq:=kR q j hb
   obtain ⟨y,hy⟩:=hT.get (k:=j) (by omega)
   have hyo:y.o=o:=by
    have:=(hT.mY j y hy).1
    rw [hj] at this
    exact (VF this).symm
   subst hyo
   rw [hT.new hF hy hd q hjq (Y9 hql)]
   refine (hI.done j y x (hdone j hb) hy hd).mono (cL fun b e hb' he=>⟨?_,he⟩)
   rcases hb' with hb' |⟨i,hi,rfl |hbi⟩
   ·exact .inl hb'
   ·exact .inr ⟨i,hi,hb⟩
   ·exact .inr ⟨i,hi,qY q j i hb hbi⟩
  ·have hn: ∀(i:Nat) (o:Oper),ops[i]? =some o→o.dst≠some x:=fun i o ho hd=>hw ⟨i,o,ho,hd⟩
   rw [hT.iG q (Y9 hql) fun j o _ ho=>hn j o ho]
   exact (hI.iG x fun i o ho hd=>absurd hd (hn i o ho)).mono hsub0
 let m:=ca.tmps.size+Bt (lI t.o.op.operands.toList)
 let f:Nat→AV:=fun x=>if x∈lI t.o.op.operands.toList then (A q).tmp x else .bad
 have hget: ∀x,gu ((iF ((Zl m).map f) .nil 0).get (pos x))=if x<m then f x else .undef:=by
  intro x
  rw [jQ]
  by_cases hx:x<m
  ·rw [if_pos ⟨Xz _,by simpa using hx⟩,if_pos hx]
   simp [hx,gu]
  ·rw [if_neg (by simp;omega),if_neg hx,get_nil]
   rfl
 refine ⟨⟨iF ((Zl m).map f) .nil 0,(A q).n,(A q).defers,(A q).rc⟩,⟨fun x=>?_,by rw [hI.size,←e1],by rw [e2];exact hI.wC.mono hsub0⟩,fun s=>GM fun x hx=>?_⟩
 ·show VR P _ (gu ((iF ((Zl m).map f) .nil 0).get (pos x))) _
  rw [hget]
  by_cases hx:x<m
  ·rw [if_pos hx]
   show VR P _ (if x∈lI t.o.op.operands.toList then (A q).tmp x else .bad) _
   by_cases hm:x∈lI t.o.op.operands.toList
   ·rw [if_pos hm];exact hop x hm
   ·rw [if_neg hm];exact .bad _
  ·rw [if_neg hx]
   have:ca.tmps.getD x undef=undef:=by
    rw [We,Ze (by omega)];rfl
   rw [this]
   exact fC
 ·cases x with
  |tmp x=>
   have hm:=xr (show Zj x∈t.o.op.operands.toList by simpa using hx)
   have hxm:x<m:=VX (Bu hm) (Zk _ _)
   show some (gu ((iF ((Zl m).map f) .nil 0).get (pos x)))=some ((A q).tmp x)
   rw [hget,if_pos hxm]
   show some (if x∈lI t.o.op.operands.toList then (A q).tmp x else .bad)=_
   rw [if_pos hm]
  |const v=>rfl
  |global g=>rfl
  |func f=>rfl
end
end
end
section
open Go Go.RowKit
variable [Env]
section
variable {P:Program} {N:Nat}
theorem SR.kept {μ:bw} {σ:St} {w w':World} (h:SR P N μ σ w) (hk:Kept w w'):SR P N μ σ w':=
 ⟨fun b e he=>let ⟨k,h1,h2⟩:=h.bU b e he;⟨k,h1,h2.bo (Sub.refl _) hk.size fun _=>hk.same _ h2.lt⟩,h.inj,h.lt,VZ h.hN hk.size,h.eZ,h.hn,Env.bo w w' hk.size (fun k hk'=>hk.same k (by have:=h.hn;have:=h.hN;omega)) h.base,(fun ad v ha=>by
  have hc:=h.fW ad v ha
  rw [qO (hk.same _ (kH hc))]
  exact hc),h.apart⟩
def mr (D:Nat→Bool) (q:Nat):Nat→Bool:=fun i=>if i=q then true else D i
theorem eQ (D:Nat→Bool) (q:Nat):mr D q q=true:=if_pos rfl
theorem bS (D:Nat→Bool) {q i:Nat} (h:i≠q):mr D q i=D i:=if_neg h
theorem de {D:Nat→Bool} {q i:Nat} (h:D i=true):mr D q i=true:=by
 by_cases hi:i=q
 ·rw [hi];exact eQ D q
 ·rw [bS D hi];exact h
theorem Bv {ca:Act} {dst:Option Tmp} {u:Value} {d:Tmp} (hlt: ∀x,dst=some x→x<ca.tmps.size):(ca.put dst u).tmps.getD d undef=if dst=some d then u else ca.tmps.getD d undef:=by
 cases dst with
 |none=>rfl
 |some x=>
  show (ca.tmps.setIfInBounds x u).getD d undef=_
  by_cases hx:x=d
  ·subst hx
   have:=hlt x rfl
   rw [if_pos rfl]
   simp [We,this]
  ·rw [if_neg (fun e=>hx (VF e))]
   simp [We,Array.getElem?_setIfInBounds_ne hx]
theorem pP (ca:Act) (dst:Option Tmp) (u:Value):(ca.put dst u).tmps.size=ca.tmps.size:=by
 cases dst with
 |none=>rfl
 |some x=>exact Array.size_setIfInBounds
theorem sR (ca:Act) (dst:Option Tmp) (u:Value):(ca.put dst u).defers=ca.defers:=by cases dst<;>rfl
section
variable {r:Rec} {ops:List Oper} {tels:List gw} {A:Nat→aN} {S:Nat→St} {B:Nat→Bool} {μ₀ μ:bw} {w₀ w:World} {D:Nat→Bool} {h:Nat} {ca:Act}
theorem Inv.N0 (hT:jX P r ops ops 0 tels A S B) (hI:Inv P N ops tels A S μ₀ w₀ D h μ ca w) {q:Nat} {t:gw} (hq:tels[q]? =some t): ∀x,t.o.dst=some x→x<ca.tmps.size:=by
 intro x hx
 have hp:=(mZ (hT.mY q t hq).2.2.2.2.2.2.2).2.2.2.2 x hx
 rw [(hT.same q (Y9 (hT.lt hq))).1,←hI.size] at hp
 exact hp
theorem Inv.Fc (hF:Fit P ops) (hT:jX P r ops ops 0 tels A S B) (hI:Inv P N ops tels A S μ₀ w₀ D h μ ca w) {q:Nat} {t:gw} (hq:tels[q]? =some t) (hD:D q=false) {u:Value} {μ':bw} {h':Nat} (hs:Sub μ μ') (hh:(S h).n.toNat≤(S h').n.toNat)
 (hu:VR P (cC μ' (qZ P ops tels S h' q)) t.v u):
 (∀i y d,mr D q i=true→tels[i]? =some y→y.o.dst=some d→VR P (cC μ' (qZ P ops tels S h' i)) y.v ((ca.put t.o.dst u).tmps.getD d undef))∧
 ∀d,(∀(i:Nat) (o:Oper),ops[i]? =some o→o.dst=some d→mr D q i=false)→VR P (cC μ' (jq S 0)) ((A 0).tmp d) ((ca.put t.o.dst u).tmps.getD d undef):=by
 have hqo:=(hT.mY q t hq).1
 refine ⟨fun i y d hi hy hd=>?_,fun d hn=>?_⟩
 ·rw [Bv (hI.N0 hT hq)]
  by_cases hiq:i=q
  ·subst hiq
   rw [hq] at hy
   cases hy
   rw [if_pos hd]
   exact hu
  ·rw [bS D hiq] at hi
   have hyo:=(hT.mY i y hy).1
   rw [if_neg (fun e=>by
    rcases Nat.lt_or_gt_of_ne hiq with hl |hl
    ·exact hF.dst i q y.o t.o d hl hyo hqo hd e
    ·exact hF.dst q i t.o y.o d hl hqo hyo e hd)]
   refine (hI.done i y d hi hy hd).mono (cL (fun b e hb he=>⟨hb.imp (fun q=>VX q hh) id,hs b e he⟩) hs.fz)
 ·rw [Bv (hI.N0 hT hq),if_neg (fun e=>by have:=hn q t.o hqo e;rw [eQ] at this;cases this)]
  refine (hI.iG d fun i o ho hd=>?_).mono (cL (fun b e hb he=>⟨hb,hs b e he⟩) hs.fz)
  have h1:=hn i o ho hd
  by_cases hiq:i=q
  ·rw [hiq];exact hD
  ·rwa [bS D hiq] at h1
theorem Inv.uz (hF:Fit P ops) (hT:jX P r ops ops 0 tels A S B) (hI:Inv P N ops tels A S μ₀ w₀ D h μ ca w) {q:Nat} {t:gw} (hq:tels[q]? =some t) (hD:D q=false) (hdone: ∀j,bit (ahead ops) q j=true→D j=true)
 (hc:bJ P t.o.op≠2) (hl:t.w=true→bJ P t.o.op≠1) {u:Value} {w':World} (hu:VR P (cC μ (qZ P ops tels S h q)) t.v u) (hk:Kept w w'):
 Inv P N ops tels A S μ₀ w₀ (mr D q) h μ (ca.put t.o.dst u) w':=by
 have hqo:=(hT.mY q t hq).1
 obtain ⟨h1,h2⟩:=hI.Fc hF hT hq hD (Sub.refl μ) (VY _) hu
 refine ⟨fun i hi=>?_,fun i j hi hb=>?_,hI.hle,fun o ho=>?_,fun e o ho hh=>?_,by rw [pP];exact hI.size,by rw [sR];exact hI.wC,h1,h2,hI.sr.kept hk,fun j y hj hhj hy hw hcl=>?_,fun b e hb=>?_,fun j y hj hy hw hcl=>?_,?_,hI.ext,hI.fresh⟩
 ·by_cases hiq:i=q
  ·subst hiq;exact hT.lt hq
  ·rw [bS D hiq] at hi;exact hI.lt i hi
 ·by_cases hiq:i=q
  ·subst hiq;exact de (hdone j hb)
  ·rw [bS D hiq] at hi;exact de (hI.down i j hi hb)
 ·obtain ⟨g1,g2⟩:=hI.Jp o ho
  refine ⟨g1,?_⟩
  have hne:h≠q:=fun e=>by subst e;rw [hqo] at ho;cases ho;exact hc g1
  rw [bS D hne];exact g2
 ·have hne:e≠q:=fun e'=>by subst e';rw [hqo] at ho;cases ho;exact hc hh
  rw [bS D hne]
  exact hI.MH e o ho hh
 ·have hne:j≠q:=fun e'=>by subst e';rw [hq] at hy;cases hy;exact hl hw hcl
  rw [bS D hne] at hj
  obtain ⟨e,bU,p1,p2,p3,p4,p5,p6,p7⟩:=hI.Jq j y hj hhj hy hw hcl
  exact ⟨e,bU,p1,p2,p3,p4.bo (Sub.refl _) hk.size fun _=>hk.same _ p4.lt,p5,p6,p7⟩
 ·rcases hI.Hz b e hb with hb' |⟨j,q1,q2,q3⟩
  ·exact .inl hb'
  ·exact .inr ⟨j,de q1,q2,q3⟩
 ·have hne:j≠q:=fun e'=>by subst e';rw [eQ] at hj;cases hj
  rw [bS D hne] at hj
  exact hI.uF j y hj hy hw hcl
 ·exact ⟨hk.os.trans hI.ev.os,hk.tape.trans hI.ev.tape,hk.output.trans hI.ev.output,VZ hI.ev.size hk.size,fun k hk1 hk2=>(hk.same k (VX hk1 hI.ev.size)).trans (hI.ev.same k hk1 hk2)⟩
end
end
end
end Go.Proofs.Sai
