/- Part IE of the proof of VerifyClosed: texts of the interpreter and what it shows, under short names. No condition. -/
import Derived.Test.YtgfhbomiljhjpaaGreatDoorID
import Derived.Orders
set_option linter.unusedVariables false
set_option linter.unusedSimpArgs false
set_option linter.unusedSectionVars false
open Array renaming getElem?_eq_getElem→UG,getD_eq_getD_getElem?→Uw,getElem?_eq_none→Xv,any_toList→Xy
open Bool renaming and_eq_true→Uj,or_eq_true→Vg
open Go.Call renaming operands→Xh
open Go.Instr renaming buildSlice→VD
open Go.Operand renaming tmp→XA
open Go.Region renaming binds→TX,linearise→Xs,Mode→Xt,ready→Xu,departs→Xx,schedule→Xz
open Go.Region.linearise renaming go→Xw
open Go.Result renaming andThen_ok→Uv
open Go.Sem renaming run_bind→Uu
open Int renaming ofNat→TP
open List renaming mem_cons_self→Uk,mem_cons_of_mem→Ul,getD_eq_getElem?_getD→Xn,reverse_nil→Xo,nil_append→VF,getElem?_reverse→Xp,length_take→Ur,getElem?_take→T4,getElem?_eq_getElem→UB,take_zero→VE,range→XC
open Nat renaming beq→TJ,succ→TM,ble→TO,eq_of_beq_eq_true→T7,testBit→Xi,blt→TY,blt_eq→Xj,testBit_or→Xk,one_shiftLeft→Xl,testBit_two_pow→Xm,zero_add→WH,min_eq_left→Us,le_of_lt→Xq,strongRecOn→Xr,le_of_ble_eq_true→Ua,le_refl→Uh,zero_le→VT,le_trans→Ui,lt_of_lt_of_le→Ug,le_add_left→XB
open Option renaming none→Xg
open Option.some renaming inj→TZ
namespace Go.Proofs.Sai
section
open Go Go.RowKit
variable [Env]
def PU (f:St→Option aW):Prop:=∃F:Option AV,∀s,f s=omap F fun v=>.val v s
def RE (f:St→Option aW):Prop:=∀s x,f s=some x→∃v,x= .val v s
theorem PU.none:PU fun _=>Xg:=⟨Xg,fun _=>rfl⟩
theorem PU.val (v:AV):PU fun s=>some (.val v s):=⟨some v,fun _=>rfl⟩
theorem PU.ai {α:Type} (o:Option α) {g:α→St→Option aW} (h: ∀x,PU (g x)):PU fun s=>Sai.ai o fun x=>g x s:=by
 cases o with
 |none=>exact PU.none
 |some x=>exact h x
theorem PU.omap {α:Type} (o:Option α) (g:α→AV):PU fun s=>Sai.omap o fun x=>.val (g x) s:=by
 cases o with
 |none=>exact PU.none
 |some x=>exact PU.val _
theorem PU.aQ (b:Bool) {f g:St→Option aW} (h:PU f) (k:PU g):PU fun s=>Sai.aQ b (f s) (g s):=by cases b<;>assumption
theorem PU.re {f:St→Option aW} (h:PU f):RE f:=by
 intro s x hx
 obtain ⟨F,hF⟩:=h
 rw [hF] at hx
 obtain ⟨v,_,rfl⟩:=ba.1 hx
 exact ⟨v,rfl⟩
theorem PU.any {f:St→Option aW} (h:PU f) {s:St} {v:AV} {s':St} (hx:f s=some (.val v s')) (s₂:St):f s₂=some (.val v s₂):=by
 obtain ⟨F,hF⟩:=h
 rw [hF] at hx⊢
 obtain ⟨u,rfl,hu⟩:=ba.1 hx
 cases hu
 rfl
theorem RE.ai {α:Type} (o:Option α) {g:α→St→Option aW} (h: ∀x,RE (g x)):RE fun s=>Sai.ai o fun x=>g x s:=by
 cases o with
 |none=>intro s x h;cases h
 |some x=>exact h x
theorem RE.jX {α:Type} (o:St→Option α) {g:α→St→Option aW} (h: ∀x,RE (g x)):RE fun s=>Sai.ai (o s) fun x=>g x s:=by
 intro s x hx
 obtain ⟨y,_,hx⟩:=aa.1 hx
 exact h y s x hx
theorem RE.z4 {α:Type} (o:St→Option α) (g:α→AV):RE fun s=>Sai.omap (o s) fun x=>.val (g x) s:=by
 intro s x hx
 obtain ⟨y,_,rfl⟩:=ba.1 hx
 exact ⟨_,rfl⟩
theorem RE.aQ (b:Bool) {f g:St→Option aW} (h:RE f) (k:RE g):RE fun s=>Sai.aQ b (f s) (g s):=by cases b<;>assumption
theorem RE.NQ (b:St→Bool) {f g:St→Option aW} (h:RE f) (k:RE g):RE fun s=>Sai.aQ (b s) (f s) (g s):=by
 intro s x hx
 replace hx:Sai.aQ (b s) (f s) (g s)=some x:=hx
 cases hb:b s with
 |true=>rw [hb] at hx;exact h s x hx
 |false=>rw [hb] at hx;exact k s x hx
theorem RE.none:RE fun _=>Xg:=fun s x h=>by cases h
section
variable (P:Program) (a:aV)
theorem HK (op:BinOp) (k:IntKind) (x y:Int):PU fun s=>Be op k x y s:=by
 cases op<;>first |exact PU.none |exact PU.val _ |exact PU.aQ _ PU.none (PU.val _)
theorem Qr (op:BinOp) (k:IntKind) (x y:Int):PU fun s=>Gq op k x y s:=by
 cases y with
 |ofNat n=>cases op<;>first |exact PU.none |exact PU.val _
 |negSucc n=>exact PU.none
theorem HL (op:BinOp) (k:FloatKind) (x y:Nat):PU fun s=>rU op k x y s:=by
 cases op<;>first |exact PU.none |exact PU.val _ |exact PU.omap _ _
theorem NS (op:BinOp) (x y:List Nat):PU fun s=>Bf op x y s:=by
 cases op<;>first |exact PU.none |exact PU.val _ |exact PU.aQ _ (PU.val _) PU.none
theorem Qs (c:Bool) (t:TypeId) (op:BinOp) (x y:AV):PU fun s=>Gp P c t op x y s:=by
 cases op<;>first |exact PU.none |exact PU.omap _ _
theorem HM (op:BinOp) (p q:Ty×Tm):PU fun s=>L3 op p q s:=by
 obtain ⟨t,x⟩:=p
 obtain ⟨u,y⟩:=q
 cases t<;>cases u<;>first |exact PU.none |skip
 ·refine PU.aQ _ ?_ PU.none
  cases op<;>first |exact PU.none |exact PU.val _ |exact PU.aQ _ (PU.val _) PU.none
 ·cases op<;>first |exact PU.none |exact PU.val _
theorem Ff (t:TypeId) (op:BinOp) (x y:AV):PU fun s=>pg P t op s x y:=by
 unfold pg
 split
 ·split
  ·exact PU.aQ _ (PU.ai _ fun b=>PU.aQ _ (PU.val _) PU.none) PU.none
  ·exact PU.none
 ·refine PU.aQ _ (PU.ai _ fun u=>?_) PU.none
  cases op<;>first |exact PU.none |exact PU.val _
 ·refine PU.aQ _ (PU.ai _ fun u=>?_) PU.none
  cases op<;>first |exact PU.none |exact PU.val _
 ·exact PU.ai _ fun p=>PU.ai _ fun q=>HM op p q
theorem HN (op:BinOp) (x y:AV):PU fun s=>vp op s x y:=by
 unfold vp
 split
 ·split
  ·refine PU.aQ _ ?_ PU.none
   cases op<;>first |exact PU.none |exact PU.val _
  ·exact PU.none
 ·exact PU.none
theorem NT (op:BinOp) (t:TypeId) (c:Bool) (x y:AV):PU fun s=>P2 P c op t s x y:=by
 refine PU.aQ _ (Ff P t op x y) (PU.aQ _ (HN op x y) ?_)
 cases x with
 |int k n=>cases y with
  |int k' m=>exact PU.aQ _ (Qr op k n m) (PU.aQ _ (HK op k n m) PU.none)
  |_=>exact PU.none
 |float k n=>cases y with
  |float k' m=>exact PU.aQ _ (HL op k n m) PU.none
  |_=>exact PU.none
 |str n=>cases y with
  |str m=>exact NS op n m
  |_=>exact PU.none
 |_=>exact Qs P c t op _ y
theorem HP (t:TypeId) (x:AV) (lo hi mx:Option AV):PU fun s=>Gw P t x lo hi mx s:=by
 refine PU.aQ _ ?_ ?_
 ·show PU fun s=>jj P t x lo hi mx s
  unfold jj
  cases x<;>first |exact PU.none |skip
  rename_i ty y
  cases ty<;>first |exact PU.none |exact PU.ai _ fun e=>PU.ai _ fun z=>PU.ai _ fun l=>PU.ai _ fun h=>PU.aQ _ (PU.aQ _ (PU.val _) (PU.aQ _ (PU.val _) PU.none)) PU.none
 by_cases hvl: ∃ts n b,x= .vl ts n b
 ·obtain ⟨ts,n,b,rfl⟩:=hvl
  exact PU.ai _ fun e=>PU.ai _ fun z=>PU.ai _ fun l=>PU.ai _ fun h=>PU.aQ _ (PU.val _) PU.none
 have hsl: ∀s,rY P t x lo hi mx s=wM P t x lo hi mx s:=fun s=>by cases x<;>first |rfl |exact absurd ⟨_,_,_,rfl⟩ hvl
 show PU fun s=>rY P t x lo hi mx s
 simp only [hsl]
 unfold wM
 refine PU.ai _ fun l=>?_
 cases P.underlying t with
 |none=>exact PU.none
 |some d=>cases d<;>first |exact PU.none |skip
          ·cases x<;>first |exact PU.none |exact PU.ai _ fun h=>PU.aQ _ (PU.aQ _ (PU.val _) PU.none) PU.none
          ·refine PU.ai _ fun z=>?_
           cases x<;>first |exact PU.none |exact PU.ai _ fun h=>PU.ai _ fun m=>PU.aQ _ (PU.val _) PU.none |exact PU.ai _ fun h=>PU.aQ _ (PU.val _) PU.none
          ·refine PU.ai _ fun z=>?_
           cases x<;>first |exact PU.none |exact PU.ai _ fun h=>PU.aQ _ (PU.val _) PU.none
theorem Fg (t:TypeId) (ok:Bool) (v:AV):PU fun s=>Dl P t ok s v:=by
 refine PU.aQ _ PU.none ?_
 cases v<;>first |exact PU.none |exact PU.aQ _ (PU.omap _ _) PU.none |exact PU.aQ _ (PU.val _) (PU.aQ _ (PU.omap _ _) PU.none)
theorem vP (ats:List TypeId) (args:List AV):(PU fun s=>GB P ats args s)∧PU fun s=>GC P ats args s:=by
 constructor
 ·unfold GB;split<;>first |exact PU.val _ |exact PU.none
 ·unfold GC;split<;>first |exact PU.val _ |exact PU.none
theorem vQ {op:Op} (h:bF P op=4):PU fun s=>fR op P a s:=by
 cases op<;>first |(cases h;done) |skip
 case move x=>exact PU.omap _ _
 case assign x=>exact PU.omap _ _
 case pick c x y=>
  exact PU.ai _ fun v=>PU.ai _ fun b=>PU.omap _ _
 case build t ps=>exact PU.ai _ fun vs=>PU.omap _ _
 case nilCheck x=>
  refine PU.ai _ fun v=>?_
  cases v<;>first |exact PU.none |exact PU.val _ |skip
  rename_i ty y
  cases ty<;>first |exact PU.none |exact PU.val _
 case binOp op t x y _=>exact PU.ai _ fun v=>PU.ai _ fun u=>NT P op t _ v u
 case unOp op _ x=>exact PU.ai _ fun v=>PU.omap _ _
 case convert s d x=>
  exfalso
  simp only [bF] at h
  split at h<;>cases h
 case makeInterface t x=>exact PU.aQ _ PU.none (PU.omap _ _)
 case makeFunc fn f c=>cases fn<;>first |exact PU.none |exact PU.ai _ fun b=>PU.omap _ _
 case slice t x lo hi mx=>exact PU.ai _ fun v=>PU.ai _ fun lo=>PU.ai _ fun hi=>PU.ai _ fun mx=>HP P t v lo hi mx
 case fieldAddr t x f=>
  refine PU.ai _ fun v=>?_
  cases v<;>first |exact PU.none |exact PU.ai _ fun f=>PU.ai _ fun z=>PU.aQ _ PU.none (PU.val _) |skip
  rename_i ty y
  cases ty<;>first |exact PU.none |exact PU.ai _ fun f=>PU.ai _ fun z=>PU.aQ _ PU.none (PU.aQ _ (PU.val _) PU.none)
 case field t x f=>
  refine PU.ai _ fun v=>?_
  cases v<;>first |exact PU.none |exact PU.ai _ fun f=>PU.omap _ _
 case indexAddr t x i=>
  refine PU.ai _ fun v=>PU.ai _ fun j=>?_
  refine PU.aQ _ ?_ ?_
  ·show PU fun s=>lV P t s v j
   unfold lV
   split
   ·refine PU.ai _ fun z=>PU.ai _ fun i=>?_
    cases v<;>first |exact PU.none |exact PU.aQ _ (PU.val _) PU.none |skip
    rename_i ty y
    cases ty<;>first |exact PU.none |exact PU.aQ _ (PU.val _) PU.none
   ·refine PU.ai _ fun z=>PU.ai _ fun i=>?_
    cases v<;>first |exact PU.none |exact PU.aQ _ (PU.val _) PU.none
   ·exact PU.none
  show PU fun s=>eO P t s v j
  unfold eO
  split
  ·split
   ·cases v<;>first |exact PU.none |exact PU.aQ _ (PU.omap _ _) PU.none
   ·cases v<;>first |exact PU.none |exact PU.aQ _ (PU.omap _ _) PU.none
   ·exact PU.none
  ·exact PU.none
 case index t x i=>
  refine PU.ai _ fun v=>PU.ai _ fun j=>?_
  show PU fun s=>wW P t s v (kT j)
  generalize kT j=j
  refine PU.aQ _ ?_ ?_
  ·show PU fun s=>pn P t s v j
   unfold pn
   split
   ·exact PU.ai _ fun x=>PU.ai _ fun i=>PU.aQ _ (PU.val _) PU.none
   ·split
    ·exact PU.none
    ·exact PU.none
   ·exact PU.none
  show PU fun s=>lW P t s v j
  unfold lW
  split
  ·split
   ·cases v<;>first |exact PU.none |exact PU.aQ _ (PU.ai _ fun z=>PU.omap _ _) PU.none
   ·cases v<;>first |exact PU.none |exact PU.omap _ _
   ·exact PU.none
  ·exact PU.none
 case typeAssert x s t ok=>exact PU.ai _ fun v=>Fg P t ok v
 case extract x i=>
  refine PU.ai _ fun v=>?_
  cases v<;>first |exact PU.none |exact PU.omap _ _
 case call c=>
  refine PU.ai _ fun args=>?_
  simp only [bF] at h
  split at h<;>first |(cases h;done) |skip
  ·rename_i hc;rw [hc];exact (vP P c.argTypes.toList args).1
  ·rename_i hc;rw [hc];exact (vP P c.argTypes.toList args).2
theorem Md {op:Op} (h:bF P op=0):RE fun s=>fR op P a s:=by
 cases op<;>first |(cases h;done) |skip
 case load t x=>
  refine RE.ai _ fun v=>?_
  cases v<;>first |exact RE.none |exact RE.z4 (fun s=>s.load P t _ _) _ |skip
  ·rename_i ty y
   cases ty<;>first |exact RE.none |exact (PU.omap _ _).re
  ·rename_i ts b i o
   exact RE.jX (fun s=>s.h.get b) fun k=>(PU.omap _ _).re
 case convert s d x=>
  refine RE.ai _ fun v=>RE.ai _ fun us=>?_
  have bytes:RE fun s'=>Sai.ai (dt P s) fun e=>lS P e v s':=by
   refine RE.ai _ fun e=>RE.aQ _ ?_ RE.none
   cases v<;>first |exact RE.none |exact (PU.val _).re |exact RE.jX (fun s'=>s'.cells _ _ _) fun cs=>(PU.omap _ _).re
  simp only [bF] at h
  cases hd:P.underlying d with
  |none=>exact RE.none
  |some ud=>
   rw [hd] at h
   cases ud<;>first |(cases h;done) |exact RE.none |skip
   ·cases v<;>first |exact RE.none |exact (PU.val _).re |skip
    rename_i ty y
    cases ty<;>first |exact RE.none |exact (PU.val _).re
   ·cases v<;>first |exact RE.none |exact (PU.val _).re |exact (PU.aQ _ (PU.val _) PU.none).re
   ·cases v<;>first |exact bytes |exact (PU.val _).re |skip
    rename_i n
    cases n with
    |ofNat n=>exact (PU.aQ _ (PU.val _) PU.none).re
    |negSucc n=>exact bytes
 case lookup t x k ok=>
  refine RE.ai _ fun m=>RE.ai _ fun k=>?_
  refine RE.NQ (fun s=>gz s m) (RE.ai _ fun b=>RE.jX (fun s=>s.h.get b) fun bl=>?_) ?_
  ·cases bl<;>first |exact RE.none |skip
   refine RE.ai _ fun q=>RE.ai _ fun kk=>RE.aQ _ (RE.ai _ fun hit=>RE.aQ _ ?_ ?_) RE.none
   ·exact (PU.val _).re
   ·exact (PU.omap _ _).re
  refine RE.jX (fun s=>jk s m) fun es=>RE.ai _ fun q=>RE.aQ _ (RE.ai _ fun o=>?_) RE.none
  cases o with
  |none=>exact (PU.omap _ _).re
  |some v=>exact (PU.val _).re
 case call c=>
  refine RE.ai _ fun args=>?_
  simp only [bF] at h
  split at h<;>first |(cases h;done) |skip
  rename_i hc
  rw [hc]
  show RE fun s=>Bk P c.argTypes.toList args s
  unfold Bk
  split
  ·split
   ·intro s x hx
    revert hx
    generalize wQ P _ _=q
    intro hx
    cases q with
    |none=>exact RE.z4 (fun s=>Gz P _ s _) _ s x hx
    |some v=>exact (PU.val v).re s x hx
   ·exact RE.none
  ·exact RE.none
def SH (op:Op):Prop:=∀s x,fR op P a s=some x→∃(v:Pos→AV) (bV:bf),bS bV=false∧x= .val (v s.n) (s.push bV)∧∀s',fR op P a s'=some (.val (v s'.n) (s'.push bV))
theorem od {op:Op} (h:bF P op=1):SH P a op:=by
 intro s x hx
 cases op<;>first |(cases h;done) |skip
 case convert s d x=>exfalso;simp only [bF] at h;split at h<;>cases h
 case call c=>exfalso;simp only [bF] at h;split at h<;>cases h
 case alloc t=>
  by_cases harr:(Gam.yF:Bool)=true∧∃q,sa P t=some q
  ·obtain ⟨hm,q,hq⟩:=harr
   have hop: ∀s',fR (.alloc t) P a s'=Sai.ai (cU P t) fun z=>k6 t s' z.cells q:=fun s'=>by
    show gA t P a s'=_
    unfold gA
    rw [hm,hq]
   rw [hop] at hx
   obtain ⟨z,hz,hx⟩:=aa.1 hx
   cases hzc:z.cells with
   |nil=>rw [hzc] at hx;cases hx
   |cons v l=>
    rw [hzc] at hx
    obtain ⟨c,hc,hx⟩:=aa.1 (show Sai.ai (kX q.1 v) (fun c=>Sai.aQ (qB v l&&TJ (TM l.length) q.2&&TO q.2 100000000) (some (aW.val (.pe [q.1] s.n (.int .i64 0) 0) (s.push (.vec true t [q.1] (.int .i64 (TP q.2)) (.op .rep [.int .i64 (TP q.2),c]))))) none)=some x from hx)
    obtain ⟨hb,hx⟩:=aA.1 hx
    cases hx
    refine ⟨fun n=>.pe [q.1] n (.int .i64 0) 0,_,rfl,rfl,fun s'=>?_⟩
    rw [hop,hz]
    show k6 t s' z.cells q=_
    rw [hzc]
    show Sai.ai (kX q.1 v) _=_
    rw [hc]
    show Sai.aQ (qB v l&&TJ (TM l.length) q.2&&TO q.2 100000000) _ _=_
    rw [hb]
  have hop: ∀s',fR (.alloc t) P a s'=Sai.ai (cU P t) (fun z=>Sai.aQ (cd z.cells) (some (aW.val (.ptr s'.n 0) (s'.row t z.cells))) none):=fun s'=>by
   show gA t P a s'=_
   unfold gA
   cases hm:(Gam.yF:Bool) with
   |false=>rfl
   |true=>
    cases hq:sa P t with
    |none=>rfl
    |some q=>exact absurd ⟨hm,q,hq⟩ harr
  rw [hop] at hx
  obtain ⟨z,hz,hx⟩:=aa.1 (show Sai.ai (cU P t) (fun z=>Sai.aQ (cd z.cells) (some (aW.val (.ptr s.n 0) (s.row t z.cells))) none)=some x from hx)
  obtain ⟨ho,hx⟩:=aA.1 hx
  cases hx
  refine ⟨fun n=>.ptr n 0,_,rfl,rfl,fun s'=>?_⟩
  rw [hop,hz]
  show Sai.aQ (cd z.cells) _ _=_
  rw [ho]
  rfl
 case box t y=>
  obtain ⟨z,hz,hx⟩:=aa.1 (show Sai.ai (a.eval P y) (fun v=>Sai.aQ (cd v.cells) (some (aW.val (.ptr s.n 0) (s.row t v.cells))) none)=some x from hx)
  obtain ⟨ho,hx⟩:=aA.1 hx
  cases hx
  refine ⟨fun n=>.ptr n 0,_,rfl,rfl,fun s'=>?_⟩
  show Sai.ai (a.eval P y) (fun v=>Sai.aQ (cd v.cells) (some (aW.val (.ptr s'.n 0) (s'.row t v.cells))) none)=_
  rw [hz]
  show Sai.aQ (cd z.cells) _ _=_
  rw [ho]
  rfl
 case buildSlice t n ps=>
  obtain ⟨vs,hvs,hx⟩:=aa.1 (show Sai.ai (cR P a (ps.toList.map (·.2))) (fun vs=>kV P t n (ps.toList.map (·.1)) vs s)=some x from hx)
  obtain ⟨e,he,hx⟩:=aa.1 hx
  obtain ⟨zs,hzs,hx⟩:=aa.1 hx
  obtain ⟨cs,hcs,rfl⟩:=ba.1 hx
  refine ⟨fun m=>.slice m 0 n true true,_,rfl,rfl,fun s'=>?_⟩
  show Sai.ai (cR P a (ps.toList.map (·.2))) (fun vs=>Sai.ai (dt P t) fun e=>Sai.ai (rX P e n (ps.toList.map (·.1))) fun zs=>Sai.omap (nF zs vs) fun cs=>aW.val (.slice s'.n 0 n true true) (s'.row e cs))=_
  rw [hvs]
  show Sai.ai (dt P t) _=_
  rw [he]
  show Sai.ai (rX P e n (ps.toList.map (·.1))) _=_
  rw [hzs]
  show Sai.omap (nF zs vs) _=_
  rw [hcs]
  rfl
 case makeMap t r=>
  cases r with
  |none=>
   have hx:Sai.aQ Gam.yF (pk s (mD P t)) (kZ s)=x:=TZ hx
   have hop: ∀s',fR (.makeMap t none) P a s'=some (Sai.aQ Gam.yF (pk s' (mD P t)) (kZ s')):=fun s'=>rfl
   cases hm:(Gam.yF:Bool) with
   |false=>
    rw [hm] at hx
    subst hx
    exact ⟨fun n=>.map n,_,rfl,rfl,fun s'=>by rw [hop,hm];rfl⟩
   |true=>
    rw [hm] at hx
    cases hq:mD P t with
    |none=>
     rw [hq] at hx
     subst hx
     exact ⟨fun n=>.map n,_,rfl,rfl,fun s'=>by rw [hop,hm,hq];rfl⟩
    |some q=>
     rw [hq] at hx
     subst hx
     exact ⟨fun n=>.map n,_,rfl,rfl,fun s'=>by rw [hop,hm,hq];rfl⟩
  |some y=>cases hx
 case makeSlice t l c=>
  obtain ⟨lv,hl,hx⟩:=aa.1 hx
  obtain ⟨cv,hc,hx⟩:=aa.1 hx
  have hop: ∀s',fR (.makeSlice t l c) P a s'=k7 P t s' lv cv:=fun s'=>by
   show Sai.ai (a.eval P l) _=_
   rw [hl]
   show Sai.ai (a.eval P c) _=_
   rw [hc]
  by_cases htm: ∃n,lv= .tm (.int .i64) n
  ·obtain ⟨n,rfl⟩:=htm
   obtain ⟨m,hm,hx⟩:=aa.1 (show Sai.ai (mN cv) (gH P t s n)=some x from hx)
   obtain ⟨e,he,hx⟩:=aa.1 hx
   obtain ⟨by_,hby,hx⟩:=aa.1 hx
   obtain ⟨sz,hsz,hx⟩:=aa.1 hx
   obtain ⟨z,hz,hx⟩:=aa.1 hx
   obtain ⟨ts,hts,hx⟩:=aa.1 hx
   obtain ⟨y,hy,hx⟩:=aa.1 hx
   obtain ⟨hb,hx⟩:=aA.1 hx
   obtain ⟨y1,y2⟩:=y
   cases y2 with
   |cons _ _=>cases hx
   |nil=>
    cases hx
    refine ⟨fun b=>.vl ts n b,_,rfl,rfl,fun s'=>?_⟩
    rw [hop]
    show Sai.ai (mN cv) (gH P t s' n)=_
    rw [hm]
    show Sai.ai (dt P t) _=_
    rw [he]
    show Sai.ai (iZ P e) _=_
    rw [hby]
    show Sai.ai (bD P e) _=_
    rw [hsz]
    show Sai.ai (cU P e) _=_
    rw [hz]
    show Sai.ai (kR P 12 e) _=_
    rw [hts]
    show Sai.ai (mC ts z.cells) _=_
    rw [hy]
    show Sai.aQ _ _ _=_
    rw [hb]
  have hmk: ∀s',k7 P t s' lv cv=Sai.ai (ph lv) fun l=>Sai.ai (ph cv) fun c=>ia P t l c s':=fun s'=>by
   unfold k7
   split
   ·exact absurd ⟨_,rfl⟩ htm
   ·rfl
  replace hx:k7 P t s lv cv=some x:=hx
  rw [hmk] at hx
  obtain ⟨ln,hln,hx⟩:=aa.1 hx
  obtain ⟨cn,hcn,hx⟩:=aa.1 hx
  obtain ⟨e,he,hx⟩:=aa.1 hx
  obtain ⟨by_,hby,hx⟩:=aa.1 hx
  obtain ⟨sz,hsz,hx⟩:=aa.1 hx
  obtain ⟨z,hz,hx⟩:=aa.1 hx
  obtain ⟨hb,hx⟩:=aA.1 hx
  cases hx
  refine ⟨fun m=>.slice m 0 ln (TJ ln cn) true,_,rfl,rfl,fun s'=>?_⟩
  rw [hop,hmk]
  show Sai.ai (ph lv) _=_
  rw [hln]
  show Sai.ai (ph cv) _=_
  rw [hcn]
  show Sai.ai (dt P t) _=_
  rw [he]
  show Sai.ai (iZ P e) _=_
  rw [hby]
  show Sai.ai (bD P e) _=_
  rw [hsz]
  show Sai.ai (cU P e) _=_
  rw [hz]
  show Sai.aQ _ _ _=_
  rw [hb]
  rfl
end
end
section
open Go Go.RowKit
variable [Env]
section
variable {P:Program}
theorem dP {a a':aV}: ∀{l:List Operand},(∀x∈l,a.eval P x=a'.eval P x)→cR P a l=cR P a' l
 |[],_=>rfl
 |x::l,h=>by
  show ai (a.eval P x) (fun v=>ai (cR P a l) fun vs=>some (v::vs))=ai (a'.eval P x) (fun v=>ai (cR P a' l) fun vs=>some (v::vs))
  rw [h x (Uk ..),dP fun y hy=>h y (Ul _ hy)]
theorem lr {a a':aV} {x:Option Operand} (h: ∀y,x=some y→a.eval P y=a'.eval P y):mE P a x=mE P a' x:=by
 cases x with
 |none=>rfl
 |some y=>
  show omap (a.eval P y) some=omap (a'.eval P y) some
  rw [h y rfl]
theorem Fh {op:Op} {a a':aV} {s:St} (h: ∀x∈op.operands,a.eval P x=a'.eval P x):fR op P a s=fR op P a' s:=by
 cases op<;>simp only [Op.operands] at h
 case move x=>show nJ x P a s=nJ x P a' s;unfold nJ;rw [h x (by simp)]
 case assign x=>show nJ x P a s=nJ x P a' s;unfold nJ;rw [h x (by simp)]
 case pick c x y=>show yR c x y P a s=yR c x y P a' s;unfold yR;rw [h c (by simp),h x (by simp),h y (by simp)]
 case alloc t=>rfl
 case box t x=>show GN t x P a s=GN t x P a' s;unfold GN;rw [h x (by simp)]
 case build t ps=>show sb t ps P a s=sb t ps P a' s;unfold sb;rw [dP fun x hx=>h x (by simpa using hx)]
 case buildSlice t n ps=>show gb t n ps P a s=gb t n ps P a' s;unfold gb;rw [dP fun x hx=>h x (by simpa using hx)]
 case load t x=>show yS t x P a s=yS t x P a' s;unfold yS;rw [h x (by simp)]
 case store t x y=>show sc t x y P a s=sc t x y P a' s;unfold sc;rw [h x (by simp),h y (by simp)]
 case nilCheck x=>show jl x P a s=jl x P a' s;unfold jl;rw [h x (by simp)]
 case binOp op t x y _=>show GO op t x y P a s=GO op t x y P a' s;unfold GO;rw [h x (by simp),h y (by simp)]
 case unOp op _ x=>show Qc op x P a s=Qc op x P a' s;unfold Qc;rw [h x (by simp)]
 case convert sr d x=>show yT sr d x P a s=yT sr d x P a' s;unfold yT;rw [h x (by simp)]
 case makeInterface t x=>show sd t x P a s=sd t x P a' s;unfold sd;rw [h x (by simp)]
 case makeFunc fn f c=>
  cases fn<;>first |rfl |skip
  rename_i g
  show ai (cR P a f.toList) (fun b=>omap (cR P a c.toList) fun c=>aW.val (.func g b c) s)=ai (cR P a' f.toList) (fun b=>omap (cR P a' c.toList) fun c=>aW.val (.func g b c) s)
  rw [dP (l:=f.toList) fun x hx=>h x (by simp at hx⊢;exact .inl hx),dP (l:=c.toList) fun x hx=>h x (by simp at hx⊢;exact .inr hx)]
 case makeMap t r=>
  cases r with
  |none=>rfl
  |some x=>rfl
 case makeSlice t l c=>show ib t l c P a s=ib t l c P a' s;unfold ib;rw [h l (by simp),h c (by simp)]
 case slice t x lo hi mx=>
  show se t x lo hi mx P a s=se t x lo hi mx P a' s
  unfold se
  rw [h x (by simp),lr (x:=lo) fun y hy=>h y (by subst hy;simp),lr (x:=hi) fun y hy=>h y (by subst hy;simp),lr (x:=mx) fun y hy=>h y (by subst hy;simp)]
 case fieldAddr t x f=>show ic t x f P a s=ic t x f P a' s;unfold ic;rw [h x (by simp)]
 case field t x f=>show sf t x f P a s=sf t x f P a' s;unfold sf;rw [h x (by simp)]
 case indexAddr t x i=>show ig t x i P a s=ig t x i P a' s;unfold ig;rw [h x (by simp),h i (by simp)]
 case index t x i=>show sg t x i P a s=sg t x i P a' s;unfold sg;rw [h x (by simp),h i (by simp)]
 case lookup t x k ok=>show nK t x k ok P a s=nK t x k ok P a' s;unfold nK;rw [h x (by simp),h k (by simp)]
 case mapUpdate t m k x=>show dw t m k x P a s=dw t m k x P a' s;unfold dw;rw [h m (by simp),h k (by simp),h x (by simp)]
 case insert t m k x=>show dw t m k x P a s=dw t m k x P a' s;unfold dw;rw [h m (by simp),h k (by simp),h x (by simp)]
 case range t x=>show sh t x P a s=sh t x P a' s;unfold sh;rw [h x (by simp)]
 case next x str=>show yV x str P a s=yV x str P a' s;unfold yV;rw [h x (by simp)]
 case typeAssert x xt t ok=>show nL x t ok P a s=nL x t ok P a' s;unfold nL;rw [h x (by simp)]
 case extract x i=>show k8 x i P a s=k8 x i P a' s;unfold k8;rw [h x (by simp)]
 case panic x=>show si x P a s=si x P a' s;unfold si;rw [h x (by simp)]
 case call c=>
  have hargs:cR P a c.args.toList=cR P a' c.args.toList:=dP fun x hx=>h x (by simp [Xh];simp at hx;exact .inr hx)
  show yW c P a s=yW c P a' s
  unfold yW
  rw [hargs]
  congr 1
  funext args
  cases hc:c.callee with
  |value f=>
   show ai (a.eval P f) (GM P args s)=ai (a'.eval P f) (GM P args s)
   rw [h f (by simp [Xh,hc])]
  |builtin b=>rfl
  |invoke _ _=>rfl
 case defer c=>
  have hargs:cR P a c.args.toList=cR P a' c.args.toList:=dP fun x hx=>h x (by simp [Xh];simp at hx;exact .inr hx)
  show po c P a s=po c P a' s
  unfold po
  rw [hargs]
  congr 1
  funext args
  cases hc:c.callee with
  |value f=>
   show ai (a.eval P f) (Br args s)=ai (a'.eval P f) (Br args s)
   rw [h f (by simp [Xh,hc])]
  |builtin b=>rfl
  |invoke _ _=>rfl
 all_goals rfl
theorem m0 {r:AV→AV→Bool} (hr: ∀x y,r x y=true→x=y): ∀{xs ys:List AV},Bt r xs ys=true→xs=ys
 |[],[],_=>rfl
 |[],_::_,h=>by cases h
 |_::_,[],h=>by cases h
 |x::xs,y::ys,h=>by
  replace h:aQ (r x y) (Bt r xs ys) false=true:=h
  cases hc:r x y with
  |false=>rw [hc] at h;cases h
  |true=>
   rw [hc] at h
   rw [hr x y hc,m0 hr (show Bt r xs ys=true from h)]
theorem ry: ∀(n:Nat) (x y:AV),mP n x y=true→x=y:=by
 intro n
 induction n with
 |zero=>intro x y h;cases h
 |succ n ih=>
  intro x y h
  replace h:GW (mP n) x y=true:=h
  unfold GW at h
  cases x<;>cases y<;>first |rfl |(cases h;done) |skip
  all_goals try simp only [Uj] at h
  ·rw [eq_of_beq h]
  ·rw [fk,fI] at h;rw [of_decide_eq_true h.1,eq_of_beq h.2]
  ·rw [of_decide_eq_true h.1,T7 h.2]
  ·rw [fj] at h;rw [eq_of_beq h]
  ·rw [dm h.1,T7 h.2]
  ·obtain ⟨⟨⟨⟨h1,h2⟩,h3⟩,h4⟩,h5⟩:=h
   rw [dm h1,T7 h2,T7 h3,eq_of_beq h4,eq_of_beq h5]
  ·rw [dm h]
  ·obtain ⟨⟨h1,h2⟩,h3⟩:=h
   rw [show _=_ from T7 h1,m0 ih h2,m0 ih h3]
  ·rw [dm h]
  ·rw [show _=_ from T7 h.1,ih _ _ h.2]
  ·rw [m0 ih h]
  ·rw [m0 ih h]
  ·rw [jP h.1,cP h.2]
  ·rw [cA h.1.1,cP h.1.2,dm h.2]
  ·rw [eq_of_beq h]
  ·rw [cA h.1.1.1,dm h.1.1.2,cP h.1.2,show _=_ from T7 h.2]
  ·rw [cP h]
end
end
section
open Go Go.RowKit
variable [Env]
section
variable {P:Program}
theorem jY (done:List Nat) (i j:Nat): ∀es:List Edge,Xi (cV done i es) j=true→∃e∈es,TX .any e=true∧e.on<i∧(e.on=j∨Xi (done.getD (i - 1 - e.on) 0) j=true)
 |[],h=>by simp [cV] at h
 |e::es,h=>by
  unfold cV at h
  cases hc:(TX .any e&&TY e.on i) with
  |false=>
   rw [hc] at h
   obtain ⟨e',he',h'⟩:=jY done i j es h
   exact ⟨e',Ul _ he',h'⟩
  |true=>
   rw [hc,cond_true] at h
   rw [Uj] at hc
   have hlt:e.on<i:=by simpa [Xj] using hc.2
   have h:Xi (((1 <<< e.on) ||| done.getD (i - 1 - e.on) 0) ||| cV done i es) j=true:=h
   rw [Xk,Xk,Vg,Vg] at h
   rcases h with (h |h) |h
   ·refine ⟨e,Uk ..,hc.1,hlt,.inl ?_⟩
    rw [Xl,Xm] at h
    exact of_decide_eq_true h
   ·exact ⟨e,Uk ..,hc.1,hlt,.inr h⟩
   ·obtain ⟨e',he',h'⟩:=jY done i j es h
    exact ⟨e',Ul _ he',h'⟩
theorem gP: ∀(l:List Oper) (done:List Nat) (i:Nat),done.length=i→∃rest,nN l done i=done.reverse++rest∧rest.length=l.length∧
 ∀k o,l[k]? =some o→(done.reverse++rest).getD (i+k) 0=cV ((done.reverse++rest).take (i+k)).reverse (i+k) o.after.toList
 |[],done,i,h=>⟨[],by simp [nN],rfl,fun k o hk=>by simp at hk⟩
 |o::l,done,i,h=>by
  obtain ⟨rest,h1,h2,h3⟩:=gP l (cV done i o.after.toList::done) (i+1) (by simp [h])
  refine ⟨cV done i o.after.toList::rest,by unfold nN;rw [h1];simp,by simp [h2],fun k o' hk=>?_⟩
  have e:done.reverse++cV done i o.after.toList::rest=(cV done i o.after.toList::done).reverse++rest:=by simp
  cases k with
  |zero=>
   simp at hk
   subst hk
   have hl:done.reverse.length=i:=by simp [h]
   rw [Nat.add_zero,Xn,List.getElem?_append_right (by omega),hl]
   simp only [Nat.sub_self,List.getElem?_cons_zero,Option.getD_some]
   rw [←hl,List.take_left,List.reverse_reverse]
  |succ k=>
   rw [e,show i+(k+1)=i+1+k from by omega]
   exact h3 k o' (by simpa using hk)
theorem sU {ops:List Oper} {i j:Nat} {o:Oper} (ho:ops[i]? =some o) (h:bit (ahead ops) i j=true): ∃e∈o.after.toList,TX .any e=true∧e.on<i∧(e.on=j∨bit (ahead ops) e.on j=true):=by
 obtain ⟨rest,h1,h2,h3⟩:=gP ops [] 0 rfl
 have hA:ahead ops=rest:=by unfold ahead;rw [h1];simp
 have:=h3 i o ho
 simp only [Xo,VF,WH] at this
 unfold bit at h⊢
 rw [hA] at h⊢
 rw [this] at h
 obtain ⟨e,he,hb,hlt,hor⟩:=jY _ _ _ _ h
 refine ⟨e,he,hb,hlt,hor.imp id fun hq=>?_⟩
 have hil:i<rest.length:=by rw [h2];exact (List.getElem?_eq_some_iff.1 ho).1
 rw [Xn,Xp (by simp;omega)] at hq
 simp only [Ur,Us (Xq hil)] at hq
 rw [T4,if_pos (by omega),show i - 1 - (i - 1 - e.on)=e.on from by omega] at hq
 rw [Xn]
 exact hq
theorem z5 {ops:List Oper} {i j:Nat} (ho:ops[i]? =none):bit (ahead ops) i j=false:=by
 obtain ⟨rest,h1,h2,h3⟩:=gP ops [] 0 rfl
 have hA:ahead ops=rest:=by unfold ahead;rw [h1];simp
 unfold bit
 rw [hA,Xn,List.getElem?_eq_none (by rw [h2];exact List.getElem?_eq_none_iff.1 ho)]
 simp
theorem jZ {ops:List Oper}: ∀(i j:Nat),bit (ahead ops) i j=true→j<i:=by
 intro i
 induction i using Xr with
 |_ i ih=>
  intro j h
  cases ho:ops[i]? with
  |none=>rw [z5 ho] at h;cases h
  |some o=>
   obtain ⟨e,_,_,hlt,rfl |hb⟩:=sU ho h
   ·exact hlt
   ·exact Nat.lt_trans (ih e.on hlt j hb) hlt
structure Fit (P:Program) (ops:List Oper):Prop where
 dst: ∀(i j:Nat) (o o':Oper) (d:Tmp),i<j→ops[i]? =some o→ops[j]? =some o'→o.dst=some d→o'.dst≠some d
 reads: ∀(i:Nat) (o:Oper) (t:Tmp),ops[i]? =some o→t∈kI o.op.operands.toList→∀(j:Nat) (o':Oper),ops[j]? =some o'→o'.dst=some t→bit (ahead ops) i j=true∨bit (ahead ops) j i=true
 guard: ∀(i:Nat) (o:Oper) (g:Nat×Bool),ops[i]? =some o→o.guard=some g→bit (ahead ops) i g.1=true
 cls: ∀(i:Nat) (o:Oper),ops[i]? =some o→bF P o.op≠3
 text: ∀(i:Nat) (o:Oper),ops[i]? =some o→∀e∈o.after.toList,TX .text e=true→e.on<i
 z9: ∀(i j:Nat) (o o':Oper),i<j→ops[i]? =some o→ops[j]? =some o'→bF P o.op=2→bF P o'.op=2→bit (ahead ops) j i=true
 gc:k9 ops=true→∃ρ:Nat→Nat,∀(i:Nat) (o:Oper),ops[i]? =some o→∀e∈o.after.toList,TX .gc e=true→e.on<ops.length∧ρ e.on<ρ i
theorem oq {d:Tmp}: ∀{l:List Oper},rp d l=true→∀(j:Nat) (o:Oper),l[j]? =some o→o.dst≠some d
 |[],_,j,o,h=>by simp at h
 |p::l,hf,j,o,h=>by
  unfold rp at hf
  rw [Uj] at hf
  cases j with
  |zero=>
   simp at h
   subst h
   intro e
   rw [e] at hf
   simp at hf
  |succ j=>exact oq hf.2 j o (by simpa using h)
theorem qL: ∀{l:List Oper},w5 l=true→∀(i j:Nat) (o o':Oper) (d:Tmp),i<j→l[i]? =some o→l[j]? =some o'→o.dst=some d→o'.dst≠some d
 |[],_,i,j,o,o',d,hij,h,_,_=>by simp at h
 |p::l,hf,i,j,o,o',d,hij,h,h',hd=>by
  unfold w5 at hf
  rw [Uj] at hf
  cases i with
  |zero=>
   simp at h
   subst h
   rw [hd] at hf
   cases j with
   |zero=>omega
   |succ j=>exact oq hf.1 j o' (by simpa using h')
  |succ i=>cases j with
   |zero=>omega
   |succ j=>exact qL hf.2 i j o o' d (by omega) (by simpa using h) (by simpa using h') hd
theorem qM {b:List Nat} {i:Nat} {t:Tmp}: ∀{l:List Oper} {j:Nat},ss b i t l j=true→∀(k:Nat) (o:Oper),l[k]? =some o→o.dst=some t→bit b i (j+k)=true∨bit b (j+k) i=true
 |[],_,_,k,o,h,_=>by simp at h
 |p::l,j,hf,k,o,h,hd=>by
  unfold ss at hf
  rw [Uj] at hf
  cases k with
  |zero=>
   simp at h
   subst h
   rw [hd] at hf
   simpa [Vg] using hf.1
  |succ k=>
   have:=qM hf.2 k o (by simpa using h) hd
   rwa [show j+1+k=j+(k+1) from by omega] at this
theorem ot {b:List Nat} {j:Nat}: ∀{l:List Oper} {i:Nat},nO P b j l i=true→∀(k:Nat) (o:Oper),l[k]? =some o→i+k<j→bF P o.op=2→bit b j (i+k)=true
 |[],_,_,k,o,h,_,_=>by simp at h
 |p::l,i,hf,k,o,h,hlt,hc=>by
  unfold nO at hf
  rw [Uj] at hf
  cases k with
  |zero=>
   simp at h
   subst h
   have:(TY i j&&TJ (bF P p.op) 2)=true:=by
    rw [hc]
    simp only [Uj]
    exact ⟨by simpa [Xj] using hlt,rfl⟩
   rw [this] at hf
   simpa using hf.1
  |succ k=>
   have:=ot hf.2 k o (by simpa using h) (by omega) hc
   rwa [show i+1+k=i+(k+1) from by omega] at this
theorem sV {b:List Nat} {all:List Oper}: ∀{l:List Oper} {i:Nat},Dq P b all l i=true→∀(k:Nat) (o:Oper),l[k]? =some o→
 (∀t∈kI o.op.operands.toList,ss b (i+k) t all 0=true)∧(∀g,o.guard=some g→bit b (i+k) g.1=true)∧bF P o.op≠3∧(∀e∈o.after.toList,TX .text e=true→e.on<i+k)∧
  (bF P o.op=2→nO P b (i+k) all 0=true)
 |[],_,_,k,o,h=>by simp at h
 |p::l,i,hf,k,o,h=>by
  unfold Dq at hf
  simp only [Uj] at hf
  obtain ⟨⟨⟨⟨⟨h1,h2⟩,h3⟩,h4⟩,h5⟩,h6⟩:=hf
  cases k with
  |zero=>
   simp at h
   subst h
   refine ⟨fun t ht=>List.all_eq_true.1 h1 t ht,fun g hg=>?_,fun hc=>?_,fun e he hb=>?_,fun hc=>?_⟩
   ·rw [hg] at h2;exact h2
   ·rw [hc] at h3;cases h3
   ·have:=List.all_eq_true.1 h4 e he
    rw [hb] at this
    simpa [Xj] using this
   ·rw [hc] at h5;exact h5
  |succ k=>
   have:=sV h6 k o (by simpa using h)
   rwa [show i+1+k=i+(k+1) from by omega] at this
theorem vR {n:Nat} {R:List Nat}: ∀{l:List Oper} {i:Nat},Kp n R l i=true→∀(k:Nat) (o:Oper),l[k]? =some o→∀e∈o.after.toList,TX .gc e=true→e.on<n∧vr e.on R<vr (i+k) R
 |[],_,_,k,o,h=>by simp at h
 |p::l,i,hf,k,o,h=>by
  intro e he hb
  unfold Kp at hf
  rw [Uj] at hf
  cases k with
  |zero=>
   simp at h
   subst h
   have:=List.all_eq_true.1 hf.1 e he
   rw [hb] at this
   simpa [Xj] using this
  |succ k=>
   have:=vR hf.2 k o (by simpa using h) e he hb
   rwa [show i+1+k=i+(k+1) from by omega] at this
theorem NU {ops:List Oper} (h:w9 P ops=true):Fit P ops:=by
 unfold w9 at h
 rw [Uj,Uj] at h
 obtain ⟨⟨h1,h2⟩,h3⟩:=h
 have hs:=fun k o ho=>sV h2 k o ho
 simp only [WH] at hs
 refine ⟨qL h1,fun i o t ho ht j o' ho' hd=>?_,fun i o g ho hg=>(hs i o ho).2.1 g hg,fun i o ho=>(hs i o ho).2.2.1,fun i o ho e he hb=>(hs i o ho).2.2.2.1 e he hb,fun i j o o' hij ho ho' hc hc'=>?_,fun hd=>?_⟩
 ·have:=qM ((hs i o ho).1 t ht) j o' ho' hd
  simpa using this
 ·have:=ot ((hs j o' ho').2.2.2.2 hc') i o ho (by omega) hc
  simpa using this
 ·rw [hd,cond_true] at h3
  refine ⟨fun i=>vr i (Xs .gc ops.toArray 0),fun i o ho e he hb=>?_⟩
  have:=vR h3 i o ho e he hb
  simpa using this
end
end
section
open Go Go.RowKit
variable [Env]
section
variable {P:Program}
theorem xu (p:Pos):uK p=p.toNat:=by
 induction p with
 |one=>rfl
 |o p ih=>show TM (2*uK p)=2*p.toNat+1;rw [ih]
 |i p ih=>show TM (TM (2*uK p))=2*p.toNat+2;rw [ih]
inductive ou (P:Program) (r:Rec) (o:Oper) (a:aV) (s:St):Bool→AV→St→Prop
 |no:ou P r o a s false .undef s
 |val (v:AV) (s1:St) (h:fR o.op P a s=some (.val v s1)):ou P r o a s true v s1
 |skip (s1:St) (h:fR o.op P a s=some (.skip s1)):ou P r o a s true .undef s1
 |enter (f:FuncId) (args:List AV) (s0:St) (v:AV) (rc:Option cz) (s1:St) (h:fR o.op P a s=some (.enter f args s0)) (hr:r (.call f args none) a s0=some (.fin (.returned v) rc s1)):ou P r o a s true v s1
 |round (l:Pos) (args:List AV) (s0:St) (v:AV) (rc:Option cz) (s1:St) (h:fR o.op P a s=some (.round l args s0)) (hr:r (.round l args) a s0=some (.fin (.returned v) rc s1)):ou P r o a s true v s1
structure jf (P:Program) (r:Rec) (all l:List Oper) (i:Nat) (tels:List fS) (A:Nat→aV) (S:Nat→St) (B:Nat→Bool):Prop where
 len:tels.length=l.length
 lZ: ∀(k:Nat) (t:fS),tels[k]? =some t→l[k]? =some t.o∧t.i=i+k∧t.a=A k∧t.s=S k∧(B k=false→dU all (A k) t.o.guard=some t.w)∧
  ((B k=false→ou P r t.o (A k) (S k) t.w t.v (S (k+1)))∧(B k=true→t.w=false∧t.v= .undef∧S (k+1)=S k))∧
  (S k).n.toNat≤(S (k+1)).n.toNat∧(A k).put t.o.dst t.v=some (A (k+1))
theorem xw {o:Oper} {k:Nat→aV→St→Option Tq} {i:Nat} {a:aV} {s:St} {w:Bool} {v:AV} {s':St} {q:Tq} (h:jL o k i a s w v s'=some q):
 s.n.toNat≤s'.n.toNat∧∃a' q',a.put o.dst v=some a'∧k (i+1) a' s'=some q'∧q=(⟨i,o,a,s,w,v⟩::q'.1,q'.2):=by
 obtain ⟨h1,h2⟩:=aA.1 h
 rw [xu,xu] at h1
 obtain ⟨a',h3,h4⟩:=aa.1 h2
 obtain ⟨q',h5,h6⟩:=ba.1 h4
 exact ⟨Ua h1,a',q',h3,h5,h6.symm⟩
inductive Fj (P:Program) (r:Rec) (o:Oper) (a:aV) (s:St):dN→St→Prop
 |enter (f:FuncId) (args:List AV) (s0:St) (c:dN) (rc:Option cz) (s1:St) (h:fR o.op P a s=some (.enter f args s0)) (hr:r (.call f args none) a s0=some (.fin (.panicked c) rc s1)):Fj P r o a s c s1
 |round (l:Pos) (args:List AV) (s0:St) (c:dN) (rc:Option cz) (s1:St) (h:fR o.op P a s=some (.round l args s0)) (hr:r (.round l args) a s0=some (.fin (.panicked c) rc s1)):Fj P r o a s c s1
theorem ov {o:Oper} {k:Nat→aV→St→Option Tq} {i:Nat} {a:aV} {s:St} {x:Out} {q:Tq} (h:nP o k i a s x=some q):
 (∃v rc s',x= .fin (.returned v) rc s'∧jL o k i a s true v s'=some q)∨∃c rc s',x= .fin (.panicked c) rc s'∧q=([],.NA o a s c s'):=by
 cases x with
 | «at» =>cases h
 |fin e rc s'=>cases e with
  |returned v=>exact .inl ⟨v,rc,s',rfl,h⟩
  |panicked c=>cases h;exact .inr ⟨c,rc,s',rfl,rfl⟩
def Qt (P:Program) (r:Rec) (all l:List Oper) (n:Nat) (A:Nat→aV) (S:Nat→St):Qe→Prop
 | .done a s=>n=l.length∧A n=a∧S n=s
 | .NA o a s c s1=>l[n]? =some o∧A n=a∧S n=s∧dU all (A n) o.guard=some true∧Fj P r o (A n) (S n) c s1
theorem qN {r:Rec} {all:List Oper}: ∀(l:List Oper) (i:Nat) (a:aV) (s:St) (q:Tq),iL P all r l i a s=some q→
 ∃A S,A 0=a∧S 0=s∧q.1.length≤l.length∧Qt P r all l q.1.length A S q.2∧jf P r all (l.take q.1.length) i q.1 A S fun _=>false
 |[],i,a,s,q,h=>by
  cases h
  exact ⟨fun _=>a,fun _=>s,rfl,rfl,Uh _,⟨rfl,rfl,rfl⟩,rfl,fun k t h=>by simp at h⟩
 |o::l,i,a,s,q,h=>by
  obtain ⟨w,hw,h⟩:=aa.1 (show ai (dU all a o.guard) (GX P r o (iL P all r l) i a s)=some q from h)
  have key:(∃v s1,ou P r o a s w v s1∧jL o (iL P all r l) i a s w v s1=some q)∨∃c s1,w=true∧Fj P r o a s c s1∧q=([],.NA o a s c s1):=by
   cases w with
   |false=>exact .inl ⟨.undef,s,.no,h⟩
   |true=>
    obtain ⟨x,hx,h⟩:=aa.1 (show ai (fR o.op P a s) (Dr r o (iL P all r l) i a s)=some q from h)
    cases x with
    |val v s1=>exact .inl ⟨v,s1,.val v s1 hx,h⟩
    |skip s1=>exact .inl ⟨.undef,s1,.skip s1 hx,h⟩
    |enter f args s0=>
     obtain ⟨y,hy,h⟩:=aa.1 (show ai (r (.call f args none) a s0) (nP o (iL P all r l) i a s)=some q from h)
     rcases ov h with ⟨v,rc,s1,rfl,hk⟩ |⟨c,rc,s1,rfl,hk⟩
     ·exact .inl ⟨v,s1,.enter f args s0 v rc s1 hx hy,hk⟩
     ·exact .inr ⟨c,s1,rfl,.enter f args s0 c rc s1 hx hy,hk⟩
    |round lp args s0=>
     obtain ⟨y,hy,h⟩:=aa.1 (show ai (r (.round lp args) a s0) (nP o (iL P all r l) i a s)=some q from h)
     rcases ov h with ⟨v,rc,s1,rfl,hk⟩ |⟨c,rc,s1,rfl,hk⟩
     ·exact .inl ⟨v,s1,.round lp args s0 v rc s1 hx hy,hk⟩
     ·exact .inr ⟨c,s1,rfl,.round lp args s0 c rc s1 hx hy,hk⟩
    |_=>cases h
  rcases key with ⟨v,s1,hst,hp⟩ |⟨c,s1,rfl,hpan,rfl⟩
  ·obtain ⟨hle,a',q',h3,h5,rfl⟩:=xw hp
   obtain ⟨A,S,rfl,rfl,hlen,hE,hT⟩:=qN l (i+1) a' s1 q' h5
   refine ⟨fun k=>match k with |0=>a |k+1=>A k,fun k=>match k with |0=>s |k+1=>S k,rfl,rfl,Nat.succ_le_succ hlen,?_,?_⟩
   ·show Qt P r all (o::l) (q'.1.length+1) _ _ q'.2
    cases hq2:q'.2 with
    |done a2 s2=>rw [hq2] at hE;exact ⟨congrArg (· +1) hE.1,hE.2⟩
    |NA o2 a2 s2 c2 s3=>rw [hq2] at hE;exact ⟨(by rw [List.getElem?_cons_succ];exact hE.1),hE.2⟩
   ·show jf P r all (o::l.take q'.1.length) i _ _ _ _
    refine ⟨congrArg (· +1) hT.len,fun k t ht=>?_⟩
    cases k with
    |zero=>
     simp at ht
     subst ht
     exact ⟨rfl,rfl,rfl,rfl,fun _=>hw,⟨fun _=>hst,fun h=>by cases h⟩,hle,h3⟩
    |succ k=>
     obtain ⟨g1,g2,g3,g4,g5,g6,g7,g8⟩:=hT.lZ k t (by simpa using ht)
     exact ⟨by simpa using g1,by omega,g3,g4,g5,g6,g7,g8⟩
  ·exact ⟨fun _=>a,fun _=>s,rfl,rfl,VT _,⟨rfl,rfl,rfl,hw,hpan⟩,rfl,fun k t h=>by simp at h⟩
theorem ma {a a':aV} {d:Option Tmp} {v:AV} (h:a.put d v=some a'):a'.n=a.n∧a'.defers=a.defers∧a'.rc=a.rc∧(∀t,a'.tmp t=if d=some t then v else a.tmp t)∧∀t,d=some t→t<a.n:=by
 cases d with
 |none=>cases h;exact ⟨rfl,rfl,rfl,fun t=>by simp,fun t h=>by cases h⟩
 |some d=>
  obtain ⟨tm,n,df,rc⟩:=a
  obtain ⟨h1,h2⟩:=aA.1 (show aQ (TO (TM d) n) (some (aV.mk (tm.set (pos d) v) n df rc)) none=some a' from h)
  cases h2
  refine ⟨rfl,rfl,rfl,fun t=>?_,fun t ht=>by cases ht;exact Ua h1⟩
  show fQ ((tm.set (pos d) v).get (pos t))=if some d=some t then v else fQ (tm.get (pos t))
  by_cases hdt:d=t
  ·subst hdt;rw [gI,if_pos rfl];rfl
  ·rw [jM _ _ (fun e=>hdt (nR e)),if_neg (fun e=>hdt (TZ e))]
section
variable {r:Rec} {ops:List Oper} {tels:List fS} {A:Nat→aV} {S:Nat→St} {B:Nat→Bool}
theorem jf.get (hT:jf P r ops ops 0 tels A S B) {k:Nat} (hk:k<ops.length): ∃t,tels[k]? =some t:=⟨_,UB (by rw [hT.len];exact hk)⟩
theorem jf.lt (hT:jf P r ops ops 0 tels A S B) {k:Nat} {t:fS} (h:tels[k]? =some t):k<ops.length:=by rw [←hT.len];exact (List.getElem?_eq_some_iff.1 h).1
theorem jf.same (hT:jf P r ops ops 0 tels A S B): ∀k,k≤ops.length→(A k).n=(A 0).n∧(A k).defers=(A 0).defers∧(A k).rc=(A 0).rc:=by
 intro k
 induction k with
 |zero=>intro _;exact ⟨rfl,rfl,rfl⟩
 |succ k ih=>
  intro hk
  obtain ⟨t,ht⟩:=hT.get (k:=k) (by omega)
  obtain ⟨h1,h2,h3,_⟩:=ma (hT.lZ k t ht).2.2.2.2.2.2.2
  obtain ⟨g1,g2,g3⟩:=ih (by omega)
  exact ⟨h1.trans g1,h2.trans g2,h3.trans g3⟩
theorem jf.gY (hT:jf P r ops ops 0 tels A S B) {t:Tmp}: ∀k,k≤ops.length→(∀j o,j<k→ops[j]? =some o→o.dst≠some t)→(A k).tmp t=(A 0).tmp t:=by
 intro k
 induction k with
 |zero=>intro _ _;rfl
 |succ k ih=>
  intro hk hn
  obtain ⟨x,hx⟩:=hT.get (k:=k) (by omega)
  have hp:=hT.lZ k x hx
  obtain ⟨_,_,_,h4,_⟩:=ma hp.2.2.2.2.2.2.2
  rw [h4 t,if_neg (hn k x.o (by omega) hp.1)]
  exact ih (by omega) fun j o hj ho=>hn j o (by omega) ho
theorem jf.new (hF:Fit P ops) (hT:jf P r ops ops 0 tels A S B) {t:Tmp} {j:Nat} {x:fS} (hx:tels[j]? =some x) (hd:x.o.dst=some t): ∀k,j<k→k≤ops.length→(A k).tmp t=x.v:=by
 intro k
 induction k with
 |zero=>intro h _;omega
 |succ k ih=>
  intro hj hk
  obtain ⟨y,hy⟩:=hT.get (k:=k) (by omega)
  have hp:=hT.lZ k y hy
  obtain ⟨_,_,_,h4,_⟩:=ma hp.2.2.2.2.2.2.2
  rw [h4 t]
  by_cases hjk:j=k
  ·subst hjk
   rw [hx] at hy
   cases hy
   rw [if_pos hd]
  ·rw [if_neg (hF.dst j k x.o y.o t (by omega) (hT.lZ j x hx).1 hp.1 hd)]
   exact ih (by omega) (by omega)
theorem jf.mono (hT:jf P r ops ops 0 tels A S B) {j k:Nat} (hjk:j≤k) (hk:k≤ops.length):(S j).n.toNat≤(S k).n.toNat:=by
 induction k with
 |zero=>have:j=0:=by omega
        subst this;exact Uh _
 |succ k ih=>
  by_cases h:j=k+1
  ·subst h;exact Uh _
  ·obtain ⟨t,ht⟩:=hT.get (k:=k) (by omega)
   exact Ui (ih (by omega) (by omega)) (hT.lZ k t ht).2.2.2.2.2.2.1
theorem xx (P:Program) (op:Op):bF P op=0∨bF P op=1∨bF P op=2∨bF P op=3∨bF P op=4:=by
 unfold bF
 split<;>(try split)<;>simp
theorem jf.sW (hF:Fit P ops) (hT:jf P r ops ops 0 tels A S B) {j:Nat} {y:fS} (hy:tels[j]? =some y) (hc:bF P y.o.op≠2):
 (y.w=true∧bF P y.o.op=1∧∃bV,bS bV=false∧S (j+1)=(S j).push bV)∨(¬(y.w=true∧bF P y.o.op=1)∧S (j+1)=S j):=by
 obtain ⟨ho,_,_,_,_,hst,_⟩:=hT.lZ j y hy
 have h3:=hF.cls j y.o ho
 have key: ∀x,fR y.o.op P (A j) (S j)=some x→(bF P y.o.op=1∧∃v bV,bS bV=false∧x= .val v ((S j).push bV))∨(bF P y.o.op≠1∧∃v,x= .val v (S j)):=by
  intro x hx
  rcases xx P y.o.op with h |h |h |h |h
  ·obtain ⟨v,e⟩:=Md P (A j) h (S j) x hx
   exact .inr ⟨by rw [h];decide,v,e⟩
  ·obtain ⟨v,bV,h2,h3,_⟩:=od P (A j) h (S j) x hx
   exact .inl ⟨h,_,bV,h2,h3⟩
  ·exact absurd h hc
  ·exact absurd h h3
  ·obtain ⟨v,e⟩:=(vQ P (A j) h).re (S j) x hx
   exact .inr ⟨by rw [h];decide,v,e⟩
 cases hB:B j with
 |true=>obtain ⟨e1,_,e2⟩:=hst.2 hB;exact .inr ⟨fun q=>(by rw [e1] at q;exact absurd q.1 (by decide)),e2⟩
 |false=>
 replace hst:=hst.1 hB
 generalize hyw:y.w=yw at hst
 generalize y.v=yv at hst
 generalize S (j+1)=sj at hst⊢
 cases hst with
 |no=>exact .inr ⟨(fun q=>absurd q.1 (by decide)),rfl⟩
 |val _ _ hq=>
  rcases key _ hq with ⟨h1,v,bV,h2,e⟩ |⟨h1,v,e⟩
  ·cases e;exact .inl ⟨rfl,h1,bV,h2,rfl⟩
  ·cases e;exact .inr ⟨fun q=>h1 q.2,rfl⟩
 |skip _ hq=>rcases key _ hq with ⟨h1,v,bV,h2,e⟩ |⟨h1,v,e⟩<;>cases e
 |enter f args s0 v rc s1 hq _=>rcases key _ hq with ⟨h1,v,bV,h2,e⟩ |⟨h1,v,e⟩<;>cases e
 |round l args s0 v rc s1 hq _=>rcases key _ hq with ⟨h1,v,bV,h2,e⟩ |⟨h1,v,e⟩<;>cases e
theorem jf.B5 (hF:Fit P ops) (hT:jf P r ops ops 0 tels A S B) {j:Nat} {y:fS} (hy:tels[j]? =some y) (hw:y.w=true) (hc:bF P y.o.op=1):(S (j+1)).n.toNat=(S j).n.toNat+1:=by
 rcases hT.sW hF hy (by rw [hc];decide) with ⟨_,_,bV,_,e⟩ |⟨h,_⟩
 ·rw [e,dO,Pos.bX]
 ·exact absurd ⟨hw,hc⟩ h
end
end
end
section
open Go Go.RowKit
variable [Env]
section
variable {P:Program} {N:Nat}
noncomputable def sX (f:Nat→bf):Nat→Tr bf
 |0=>.nil
 |m+1=>(sX f m).set (pos m) (f m)
theorem B6 (b:Pos):pos b.toNat=b:=Pos.toNat_inj (dX _)
theorem sY (f:Nat→bf) (b:Pos): ∀m,(sX f m).get b=if b.toNat<m then some (f b.toNat) else none
 |0=>by rw [if_neg (by omega)];exact get_nil b
 |m+1=>by
  show ((sX f m).set (pos m) (f m)).get b=_
  rw [iN,sY f b m]
  by_cases h:pos m=b
  ·have:b.toNat=m:=by rw [←h,dX]
   rw [if_pos h,if_pos (by omega),this]
  ·have:b.toNat≠m:=fun e=>h (by rw [←e,B6])
   rw [if_neg h]
   by_cases h2:b.toNat<m
   ·rw [if_pos h2,if_pos (by omega)]
   ·rw [if_neg h2,if_neg (by omega)]
structure iu (P:Program) (N:Nat) (μ:bu) (w:World) (m:Nat):Prop where
 Gd: ∀b e,μ b=some e→b.toNat<m
 Fk: ∀b e,μ b=some e→e.a.block<w.heap.size∧((e.own=none∧e.a.block<N)∨N≤e.a.block)
 eH: ∀g,g<P.globals.size→μ (pos g)=some ⟨⟨g,0,none⟩,none⟩
 hN:N≤w.heap.size
 hn:Env.n≤N
 base:Env.base w
 fB: ∀ad v,μ.fz ad=some v→w.cell? ad=some v
noncomputable def B7 (N:Nat) (μ:bu) (k:Nat):bf:=
 match μ (pos k) with
 |some e=>if e.a.block<N then .cells false 0 0 (.nB []) else .dead
 |none=>.dead
noncomputable def ghost (N:Nat) (μ:bu) (m:Nat):St:=⟨sX (B7 N μ) m,pos m⟩
theorem iu.sr {μ:bu} {w:World} {m:Nat} (h:iu P N μ w m):SR P N μ (ghost N μ m) w:=by
 have hb: ∀b e,μ b=some e→(ghost N μ m).h.get b=some (if e.a.block<N then .cells false 0 0 (.nB []) else .dead):=by
  intro b e he
  show (sX (B7 N μ) m).get b=_
  rw [sY,if_pos (h.Gd b e he)]
  unfold B7
  rw [B6,he]
 refine ⟨fun b e he=>⟨_,hb b e he,?_⟩,?_,fun b e he=>?_,h.hN,h.eH,h.hn,h.base,h.fB,fun b e k he hk hw _ _ _ _=>(by
  rw [hb b e he] at hk
  cases hk
  split at hw<;>cases hw)⟩
 ·obtain ⟨h1,h2⟩:=h.Fk b e he
  by_cases hlt:e.a.block<N
  ·rw [if_pos hlt]
   rcases h2 with ⟨h3,_⟩ |h3
   ·exact ⟨h3,h1,fun i hi=>absurd hi (Nat.not_lt_zero i)⟩
   ·omega
  ·rw [if_neg hlt]
   exact ⟨.inl (by omega),h1⟩
 ·intro b b' e e' k k' he he' hk hk' hd hd' hN heq
  rw [hb b e he] at hk
  rw [if_neg (by omega)] at hk
  cases hk
  cases hd
 ·show b.toNat<(pos m).toNat
  rw [dX]
  exact h.Gd b e he
theorem SR.places {μ:bu} {σ:St} {w:World} (h:SR P N μ σ w):iu P N μ w σ.n.toNat:=by
 refine ⟨h.lt,fun b e he=>?_,h.eH,h.hN,h.hn,h.base,h.fB⟩
 obtain ⟨k,_,hbr⟩:=h.bV b e he
 refine ⟨hbr.lt,?_⟩
 cases k with
 |cells own t len c=>cases own with
  |true=>obtain ⟨g,sz,cur,rfl,hN,_⟩:=hbr;exact .inr hN
  |false=>
   by_cases hlt:e.a.block<N
   ·exact .inl ⟨hbr.1,hlt⟩
   ·exact .inr (by omega)
 |map es=>obtain ⟨g,en,cl,rfl,hN,_⟩:=hbr;exact .inr hN
 |fD s p=>obtain ⟨g,bs,rfl,hN,_⟩:=hbr;exact .inr hN
 |loop lp=>obtain ⟨g,r,rfl,hN,_⟩:=hbr;exact .inr hN
 |deferred d=>obtain ⟨g,rfl,hN,_⟩:=hbr;exact .inr hN
 |dead=>exact hbr.1.elim .inr fun h=>.inl ⟨by rw [h.1];rfl,by rw [h.1];exact h.2⟩
 |A8 m=>obtain ⟨g,rfl,hN,_⟩:=hbr;exact .inr hN
 |frozen o=>obtain ⟨g,rfl,hN,_⟩:=hbr;exact .inr hN
 |bW g kt ts x=>obtain ⟨l,_,_,_,G,ents,clock,ms,rfl,hN,_⟩:=hbr;exact .inr hN
 |vec own t ts n x=>obtain ⟨l,_,_,_,⟨rfl,h,_⟩ |⟨g,cur,rfl,hN,_⟩⟩:=hbr<;>first |exact .inl ⟨rfl,h⟩ |exact .inr hN
def bare (μ:bu):bu:=⟨fun b=>(μ b).map fun e=>⟨e.a,none⟩,μ.fz⟩
theorem eZ {μ:bu} {b:Pos} {e:eQ} (h:μ b=some e):bare μ b=some ⟨e.a,none⟩:=by show (μ b).map _=_;rw [h];rfl
mutual
theorem VR.bare {μ:bu}: ∀{v:AV} {u:Value},VR P μ v u→VR P (bare μ) v u
 |_,_,.bool b=>.bool b
 |_,_,.int k n=>.int k n
 |_,_,.float k n=>.float k n
 |_,_,.str l s h=>.str l s h
 |_,_,.ptr b o e h=>.ptr b o ⟨e.a,none⟩ (eZ h)
 |_,_,.bY=>.bY
 |_,_,.slice b o n lim wh e ad c h had hn hm hl hc=>.slice b o n lim wh ⟨e.a,none⟩ ad c (eZ h) had hn hm hl (fun _ _ sz t hx=>by cases hx)
 |_,_,.aJ=>.aJ
 |_,_,.map b e h=>.map b ⟨e.a,none⟩ (eZ h)
 |_,_,.ck=>.ck
 |_,_,.func f a b F C h1 h2=>.func f a b F C (bZ.bare h1) (bZ.bare h2)
 |_,_,.yield b e h=>.yield b ⟨e.a,none⟩ (eZ h)
 |_,_,.bU=>.bU
 |_,_,.iface t v u h=>.iface t v u (VR.bare h)
 |_,_,.bw=>.bw
 |_,_,.agg cs C h ho=>.agg cs C (bZ.bare h) ho
 |_,_,.tuple cs C h=>.tuple cs C (bZ.bare h)
 |_,_,.bad v=>.bad v
 |_,_,.tm t x u ht h=>.tm t x u ht h
 |_,_,.vl ts n b u e he h=>.vl ts n b u ⟨e.a,none⟩ (eZ he) (h.imp_right fun ⟨m,c,h1,h2,h3,h4,h5,_⟩=>⟨m,c,h1,h2,h3,h4,h5,fun _ _ hx=>by cases hx⟩)
 |_,_,.e0 z ad c hz hm=>.e0 z ad c hz hm
 |_,_,.pe ts b i o e k n h hi=>.pe ts b i o ⟨e.a,none⟩ k n (eZ h) hi
 |_,_,.fb x n h=>.fb x n h
theorem bZ.bare {μ:bu}: ∀{v:List AV} {u:List Value},bZ P μ v u→bZ P (bare μ) v u
 |_,_,.nil=>.nil
 |_,_,.cons v u vs us h k=>.cons v u vs us (VR.bare h) (bZ.bare k)
end
theorem DR.bare {μ:bu} {d:jI} {c:Deferred} (h:DR P μ d c):DR P (bare μ) d c:=by
 cases h with
 |fn f cap args C A hc ha=>exact .fn f cap args C A hc.bare ha.bare
 |collected b e h=>exact .collected b ⟨e.a,none⟩ (eZ h)
theorem xj.bare {μ:bu} {d:List jI} {c:List Deferred} (h:xj P μ d c):xj P (bare μ) d c:=by
 induction h with
 |nil=>exact .nil
 |cons d c ds cs h _ ih=>exact .cons d c _ _ h.bare ih
theorem AR.bare {μ:bu} {a:aV} {ca:Act} (h:AR P μ a ca):AR P (bare μ) a ca:=⟨fun t=>(h.tm t).bare,h.size,h.defers.bare⟩
theorem iu.bare {μ:bu} {w:World} {m:Nat} (h:iu P N μ w m):iu P w.heap.size (bare μ) w m:=by
 have hb: ∀b e,Sai.bare μ b=some e→∃e',μ b=some e'∧e=⟨e'.a,none⟩:=by
  intro b e he
  obtain ⟨e',h1,h2⟩:=Option.map_eq_some_iff.1 he
  exact ⟨e',h1,h2.symm⟩
 refine ⟨fun b e he=>?_,fun b e he=>?_,fun g hg=>eZ (h.eH g hg),Uh _,Ui h.hn h.hN,h.base,h.fB⟩
 ·obtain ⟨e',h1,rfl⟩:=hb b e he;exact h.Gd b e' h1
 ·obtain ⟨e',h1,rfl⟩:=hb b e he
  exact ⟨(h.Fk b e' h1).1,.inl ⟨rfl,(h.Fk b e' h1).1⟩⟩
structure Kept (w w':World):Prop where
 os:w'.os=w.os
 tape:w'.tape=w.tape
 output:w'.output=w.output
 size:w.heap.size≤w'.heap.size
 same: ∀k,k<w.heap.size→w'.heap[k]? =w.heap[k]?
theorem B8 (hP:cH P) {o:Oper} (h4:bF P o.op=4) {a:aV} {ca:Act} {μ:bu} {w:World} {m:Nat} {v:AV} {s s1:St} (hx:fR o.op P a s=some (.val v s1)) (ha:AR P μ a ca) (hp:iu P N μ w m):
 ∃u w',(execOp ca.eval o).run P w= .ok (.value u) w'∧VR P μ v u∧Kept w w':=by
 have hpu:=vQ P a h4
 obtain ⟨μ₁,u,w',hrun,hg,hv,heq⟩:=dG hP hp.sr ha (hpu.any hx (ghost N μ m))
 rw [heq rfl] at hg hv
 obtain ⟨μ₂,u₂,w₂,hrun₂,hg₂,_⟩:=dG hP hp.bare.sr ha.bare (hpu.any hx (ghost w.heap.size (bare μ) m))
 rw [hrun] at hrun₂
 cases hrun₂
 exact ⟨u,w',hrun,hv,hg₂.ev.os,hg₂.ev.tape,hg₂.ev.output,hg₂.ev.size,fun k hk=>hg₂.ev.same k hk (.inl hk)⟩
end
end
section
open Go Go.RowKit
variable [Env]
section
variable {P:Program} {N:Nat}
structure Lay (P:Program) (N:Nat) (μ:bu) (o:Oper) (a:aV) (ca:Act) (v:Pos→AV) (bV:bf) (obj:Obj) (U:Nat→Value) (own:Option (Nat×TypeId)):Prop where
 alive:bS bV=false
 SI: ∀s,fR o.op P a s=some (.val (v s.n) (s.push bV))
 run: ∀w:World,(execOp ca.eval o).run P w= .ok (.value (U w.heap.size)) (w.alloc obj)
 br: ∀(g:Nat) (w':World) (μ':bu),Sub μ μ'→N≤g→w'.heap[g]? =some obj→BR P N μ' w' bV ⟨⟨g,0,none⟩,own⟩
 val: ∀(n:Pos) (g:Nat) (μ':bu),μ' n=some ⟨⟨g,0,none⟩,own⟩→VR P μ' (v n) (U g)
theorem xy {μ:bu} {t:TypeId} {vs:List AV} {us:Array Value} (hv:bZ P μ vs us.toList) (ho:cd vs=true) (g:Nat) (w':World) (μ':bu) (hs:Sub μ μ') (hN:N≤g) (hg:w'.heap[g]? =some (.cells us t (0,0))):
 BR P N μ' w' (.cells true t vs.length (.of vs)) ⟨⟨g,0,none⟩,some (us.size,t)⟩:=by
 have hl:vs.length=us.size:=by simpa using hv.length
 refine ⟨g,us.size,us,rfl,hN,hg,rfl,by omega,fun i hi=>?_⟩
 obtain ⟨v,hvi⟩: ∃v,vs[i]? =some v:=⟨vs[i],UB hi⟩
 obtain ⟨u,hu,hr⟩:=hv.get hvi
 exact ⟨v,u,by rw [Cs.i7];exact hvi,by simpa using hu,hr.mono hs,gh ho hvi⟩
theorem HQ {μ':bu} {n:Pos} {g:Nat} {own:Option (Nat×TypeId)} (h:μ' n=some ⟨⟨g,0,none⟩,own⟩):VR P μ' (.ptr n 0) (.pointer (some ⟨g,0,none⟩)):=by
 have:=VR.ptr (P:=P) (μ:=μ') n 0 _ h
 simpa [add_nil] using this
theorem Aa {t:TypeId} {s:St} {n m:Tm} {ts:List Ty} {e:TypeId} {y:Tm} (h:gH P t s n m=some (.val (.vl ts n s.n) (s.push (.vec true e ts n y)))) (s':St):gH P t s' n m=some (.val (.vl ts n s'.n) (s'.push (.vec true e ts n y))):=by
 obtain ⟨e',he,hr1⟩:=aa.1 h
 obtain ⟨by_,hby,hr2⟩:=aa.1 hr1
 obtain ⟨sz,hsz,hr3⟩:=aa.1 hr2
 obtain ⟨z,hz,hr4⟩:=aa.1 hr3
 obtain ⟨ts',hts,hr5⟩:=aa.1 hr4
 obtain ⟨yy,hy,hr6⟩:=aa.1 hr5
 obtain ⟨hb,hr7⟩:=aA.1 hr6
 obtain ⟨y1,y2⟩:=yy
 cases y2 with
 |cons _ _=>cases hr7
 |nil=>
  have hr7:aW.val (.vl ts' n s.n) (s.push (.vec true e' ts' n (.op .rep (n::y1))))= .val (.vl ts n s.n) (s.push (.vec true e ts n y)):=TZ hr7
  injection hr7 with g1 g2
  injection g1 with g1
  have:=congrArg (fun σ:St=>σ.h.get s.n) g2
  simp only [bM,if_pos] at this
  injection this with this
  injection this with _ g3 _ _ g4
  subst g1 g3 g4
  show Sai.ai (dt P t) _=_
  rw [he]
  show Sai.ai (iZ P e') _=_
  rw [hby]
  show Sai.ai (bD P e') _=_
  rw [hsz]
  show Sai.ai (cU P e') _=_
  rw [hz]
  show Sai.ai (kR P 12 e') _=_
  rw [hts]
  show Sai.ai (mC ts' z.cells) _=_
  rw [hy]
  show Sai.aQ _ _ _=_
  rw [hb]
theorem Fl {μ:bu} {σ:St} {w:World} {o:Oper} (h1:bF P o.op=1) {a:aV} {ca:Act} (hs:SR P N μ σ w) (ha:AR P μ a ca) {s:St} {x:aW} (hx:fR o.op P a s=some x):
 ∃v bV obj U own,Lay P N μ o a ca v bV obj U own:=by
 cases ho:o.op<;>rw [ho] at h1 hx<;>first |(cases h1;done) |skip
 case convert s d x=>exfalso;simp only [bF] at h1;split at h1<;>cases h1
 case call c=>exfalso;simp only [bF] at h1;split at h1<;>cases h1
 case alloc t=>
  by_cases harr:(Gam.yF:Bool)=true∧∃q,sa P t=some q
  ·obtain ⟨hm,q,hq⟩:=harr
   have hop: ∀s',fR (.alloc t) P a s'=Sai.ai (cU P t) fun z=>k6 t s' z.cells q:=fun s'=>by
    show gA t P a s'=_
    unfold gA
    rw [hm,hq]
   rw [hop] at hx
   obtain ⟨z,hz,hx⟩:=aa.1 hx
   obtain ⟨zv,_,hzv,i,hi,hzz⟩:=cL (μ:=μ) hz w
   have hrun: ∀w:World,(zeroValue t).run P w= .ok zv w:=fun w=>by simp [zeroValue,nX hi,hzz]
   obtain ⟨c,l,rfl,f1,f2,f3,f4,f5⟩:=vB hzv hx
   refine ⟨fun n=>.pe [q.1] n (.int .i64 0) 0,.vec true t [q.1] (.int .i64 (TP q.2)) (.op .rep [.int .i64 (TP q.2),c]),.cells zv.cells t (0,0),fun g=>.pointer (some ⟨g,0,none⟩),some (zv.cells.size,t),rfl,fun s'=>?_,fun w=>?_,Ha f1 f2 f3 f4 f5,fun n g μ' h=>?_⟩
   ·rw [ho,hop,hz]
    show k6 t s' z.cells q=_
    have hsh:=hx
    cases hzc:z.cells with
    |nil=>rw [hzc] at hsh;cases hsh
    |cons v l=>
     rw [hzc] at hsh
     obtain ⟨c',hc,hx⟩:=aa.1 (show Sai.ai (kX q.1 v) (fun c=>Sai.aQ (qB v l&&TJ (TM l.length) q.2&&TO q.2 100000000) (some (aW.val (.pe [q.1] s.n (.int .i64 0) 0) (s.push (.vec true t [q.1] (.int .i64 (TP q.2)) (.op .rep [.int .i64 (TP q.2),c]))))) none)=some _ from hsh)
     obtain ⟨hb,hx⟩:=aA.1 hx
     have hcc:c'=c:=by
      injection hx with hx
      injection hx with _ hx
      have:=congrArg (fun σ:St=>σ.h.get s.n) hx
      simp only [bM,if_pos] at this
      injection this with this
      injection this with _ _ _ _ this
      injection this with _ this
      injection this with _ this
      injection this
     subst hcc
     show Sai.ai (kX q.1 v) _=_
     rw [hc]
     show Sai.aQ (qB v l&&TJ (TM l.length) q.2&&TO q.2 100000000) _ _=_
     rw [hb]
   ·unfold execOp
    simp only [ho]
    simp [Instr.alloc,hrun,newVar,newRow]
   ·have:=VR.pe (P:=P) (μ:=μ') [q.1] n (.int .i64 0) 0 _ .i64 0 h rfl
    simpa [add_nil] using this
  have hop: ∀s',fR (.alloc t) P a s'=Sai.ai (cU P t) (fun z=>Sai.aQ (cd z.cells) (some (aW.val (.ptr s'.n 0) (s'.row t z.cells))) none):=fun s'=>by
   show gA t P a s'=_
   unfold gA
   cases hm:(Gam.yF:Bool) with
   |false=>rfl
   |true=>
    cases hq:sa P t with
    |none=>rfl
    |some q=>exact absurd ⟨hm,q,hq⟩ harr
  rw [hop] at hx
  obtain ⟨z,hz,hx⟩:=aa.1 (show Sai.ai (cU P t) (fun z=>Sai.aQ (cd z.cells) (some (aW.val (.ptr s.n 0) (s.row t z.cells))) none)=some x from hx)
  obtain ⟨hon,hx⟩:=aA.1 hx
  obtain ⟨zv,_,hzv,i,hi,hzz⟩:=cL (μ:=μ) hz w
  have hrun: ∀w:World,(zeroValue t).run P w= .ok zv w:=fun w=>by simp [zeroValue,nX hi,hzz]
  refine ⟨fun n=>.ptr n 0,.cells true t z.cells.length (.of z.cells),.cells zv.cells t (0,0),fun g=>.pointer (some ⟨g,0,none⟩),some (zv.cells.size,t),rfl,fun s'=>?_,fun w=>?_,?_,fun n g μ' h=>HQ h⟩
  ·rw [ho,hop,hz]
   show Sai.aQ (cd z.cells) _ _=_
   rw [hon]
   rfl
  ·unfold execOp
   simp only [ho]
   simp [Instr.alloc,hrun,newVar,newRow]
  ·exact xy (hzv.cells (bR hon)) hon
 case box t y=>
  obtain ⟨z,hz,hx⟩:=aa.1 (show Sai.ai (a.eval P y) (fun v=>Sai.aQ (cd v.cells) (some (aW.val (.ptr s.n 0) (s.row t v.cells))) none)=some x from hx)
  obtain ⟨hon,hx⟩:=aA.1 hx
  have hzv:=ha.eval hs hz
  refine ⟨fun n=>.ptr n 0,.cells true t z.cells.length (.of z.cells),.cells (ca.eval y).cells t (0,0),fun g=>.pointer (some ⟨g,0,none⟩),some ((ca.eval y).cells.size,t),rfl,fun s'=>?_,fun w=>?_,?_,fun n g μ' h=>HQ h⟩
  ·rw [ho]
   show Sai.ai (a.eval P y) (fun v=>Sai.aQ (cd v.cells) (some (aW.val (.ptr s'.n 0) (s'.row t v.cells))) none)=_
   rw [hz]
   show Sai.aQ (cd z.cells) _ _=_
   rw [hon]
   rfl
  ·unfold execOp
   simp only [ho]
   simp [Instr.box,newVar,newRow]
  ·exact xy (hzv.cells (bR hon)) hon
 case makeMap t r=>
  cases r with
  |some y=>cases hx
  |none=>
   have hop: ∀s',fR (.makeMap t none) P a s'=some (Sai.aQ Gam.yF (pk s' (mD P t)) (kZ s')):=fun s'=>rfl
   have hrunM: ∀w:World,(execOp ca.eval o).run P w= .ok (.value (.map (some w.heap.size))) (w.alloc (.map #[] 0)):=fun w=>by
    unfold execOp
    simp only [ho]
    simp [Instr.makeMap]
   by_cases hq:(Gam.yF:Bool)=true∧∃q,mD P t=some q
   ·obtain ⟨hm,q,hq⟩:=hq
    exact ⟨fun n=>.map n,.bW q.1 q.2.1 q.2.2 (.op .nil []),.map #[] 0,fun g=>.map (some g),none,rfl,fun s'=>by rw [ho,hop,hm,hq];rfl,hrunM,
     fun g w' μ' hsub hN hg=>⟨[],rfl,⟨[],rfl,fun r hr=>absurd hr List.not_mem_nil⟩,trivial,g,#[],0,[],rfl,hN,hg,List.Perm.nil,.nil,jq.nil⟩,fun n g μ' h=>.map n _ h⟩
   have hop: ∀s',fR (.makeMap t none) P a s'=some (kZ s'):=fun s'=>by
    rw [hop]
    cases hm:(Gam.yF:Bool) with
    |false=>rfl
    |true=>
     cases hq':mD P t with
     |none=>rfl
     |some q=>exact absurd ⟨hm,q,hq'⟩ hq
   refine ⟨fun n=>.map n,.map [],.map #[] 0,fun g=>.map (some g),none,rfl,fun s'=>by rw [ho,hop];rfl,hrunM,fun g w' μ' hsub hN hg=>⟨g,#[],0,rfl,hN,hg,EP.nil,jq.nil⟩,fun n g μ' h=>.map n _ h⟩
 case buildSlice t n ps=>
  obtain ⟨vs,hvs,hx⟩:=aa.1 (show Sai.ai (cR P a (ps.toList.map (·.2))) (fun vs=>kV P t n (ps.toList.map (·.1)) vs s)=some x from hx)
  obtain ⟨e,he,hx⟩:=aa.1 hx
  obtain ⟨zs,hzs,hx⟩:=aa.1 hx
  obtain ⟨cs,hcs,rfl⟩:=ba.1 hx
  have hvv:=ha.cR hs hvs
  have he':=cB he
  have hzs0:=hzs
  unfold rX at hzs
  split at hzs
  ·rename_i ie hie
   cases hc:(ie.zero.isSome&&TO n 16777216&&TO (n*ie.size) 16777216) with
   |false=>rw [hc] at hzs;cases hzs
   |true=>
    rw [hc,cond_true] at hzs
    simp only [Uj] at hc
    obtain ⟨⟨hz,hn⟩,hns⟩:=hc
    have hn:=Ua hn
    have hns:=Ua hns
    obtain ⟨z,hz⟩:=Option.isSome_iff_exists.1 hz
    have hul:((ps.toList.map (·.2)).map ca.eval).length=(ps.toList.map (·.1)).length:=by simp
    have hrun: ∃R,(∀w:World,(VD t n (ps.map fun (i,x)=>(i,ca.eval x))).run P w= .ok (.slice (some ⟨w.heap.size,0,none⟩) n n) (w.alloc (.cells R.toArray e)))∧bZ P μ cs R∧cd cs=true∧R.length=n*ie.size:=by
     by_cases h0:n*ie.size=0
     ·obtain ⟨R,q1,q2,q3,q4⟩:=fK (P:=P) (μ:=μ) _ _ _ 0 zs vs _ cs ((Array.range (n*ie.size)).map ((#[]:Array Value)[· % (#[]:Array Value).size]!)) hzs hcs hvv (by simp) hul
      refine ⟨R,fun w=>?_,q2,q3,by omega⟩
      rw [←ju] at q1
      simp only [VE,VF] at q1
      simp [VD,run_underlying he',sizeOf,typeInfo,hie,h0,newRow] at q1⊢
      simp [q1]
     ·obtain ⟨R,q1,q2,q3,q4⟩:=fK (P:=P) (μ:=μ) _ _ _ 0 zs vs _ cs ((Array.range (n*ie.size)).map (z.cells[· % z.cells.size]!)) hzs hcs hvv (by simp) hul
      refine ⟨R,fun w=>?_,q2,q3,by omega⟩
      rw [←ju] at q1
      have hns': ¬n*ie.size>2 ^ 24:=by omega
      simp only [VE,VF] at q1
      simp only [VD,run_underlying he',sizeOf,typeInfo,zeroValue,hie,hz,hns',h0,newRow,Uu,Uv,run_program,Sem.run_pure,if_false,q1]
      rfl
    obtain ⟨R,hrun,q2,q3,q4⟩:=hrun
    refine ⟨fun m=>.slice m 0 n true true,.cells true e cs.length (.of cs),.cells R.toArray e (0,0),fun g=>.slice (some ⟨g,0,none⟩) n n,some (R.toArray.size,e),rfl,fun s'=>?_,fun w=>?_,?_,fun m g μ' h=>?_⟩
    ·rw [ho]
     show Sai.ai (cR P a (ps.toList.map (·.2))) (fun vs=>Sai.ai (dt P t) fun e=>Sai.ai (rX P e n (ps.toList.map (·.1))) fun zs=>Sai.omap (nF zs vs) fun cs=>aW.val (.slice s'.n 0 n true true) (s'.row e cs))=_
     rw [hvs]
     show Sai.ai (dt P t) _=_
     rw [he]
     show Sai.ai (rX P e n (ps.toList.map (·.1))) _=_
     rw [hzs0]
     show Sai.omap (nF zs vs) _=_
     rw [hcs]
     rfl
    ·unfold execOp
     simp only [ho]
     simp [hrun]
    ·exact xy (us:=R.toArray) (by simpa using q2) q3
    ·refine .slice m 0 n true true _ _ n h (.inl (by rw [add_nil])) (Uh n) (by simp only [maxLen];omega) (fun _=>rfl) (fun _ _ sz t h=>?_)
     cases h
     rw [show P.cellsOf e=ie.size from by simp [Program.cellsOf,hie]]
     simpa using q4.symm
  ·cases hzs
 case makeSlice t l c=>
  obtain ⟨lv,hl,hx⟩:=aa.1 hx
  obtain ⟨cv,hc,hx⟩:=aa.1 hx
  have hop: ∀s',fR (.makeSlice t l c) P a s'=k7 P t s' lv cv:=fun s'=>by
   show Sai.ai (a.eval P l) _=_
   rw [hl]
   show Sai.ai (a.eval P c) _=_
   rw [hc]
  by_cases htm: ∃n,lv= .tm (.int .i64) n
  ·obtain ⟨n,rfl⟩:=htm
   obtain ⟨m,hm,hx⟩:=aa.1 (show Sai.ai (mN cv) (gH P t s n)=some x from hx)
   have hlv:=ha.eval hs hl
   have hcv:=ha.eval hs hc
   have hln: ∃v:Int,ev n= .int .i64 v∧ca.eval l= .int .i64 v:=by
    generalize ca.eval l=X at hlv
    cases hlv with
    |tm _ _ _ h1 h2=>
     obtain ⟨v,h1⟩:=h1
     rw [h1] at h2
     cases h2
     exact ⟨v,h1,rfl⟩
   obtain ⟨v,hv,hX⟩:=hln
   have hsame:=hx
   obtain ⟨e,k,ts,y,L,us,rfl,rfl,rfl,hrun,f1,f2,f3,f4,f5,f6,f7⟩:=sH (μ:=μ) w hv hx
   have hY:ca.eval c= .int .i64 (TP k):=by
    generalize ca.eval c=Y at hcv
    unfold mN at hm
    split at hm
    ·cases hm;cases hcv;cases hv;rfl
    ·cases hm
     cases hcv with
     |tm _ _ _ g1 g2=>rw [hv] at g2;cases g2;rfl
    ·cases hm
   refine ⟨fun b=>.vl ts n b,.vec true e ts n y,.cells us e (0,0),fun g=>.slice (some ⟨g,0,none⟩) k k,some (us.size,e),rfl,fun s'=>?_,fun w=>?_,Ha f1 f2 f3 f4 f5,fun b g μ' h=>?_⟩
   ·rw [ho,hop]
    show Sai.ai (mN cv) (gH P t s' n)=_
    rw [hm]
    exact Aa hsame s'
   ·unfold execOp
    simp only [ho,hX,hY,Uu,hrun w,Uv]
    rfl
   ·exact .vl ts n b _ _ h (.inr ⟨k,k,rfl,rfl,hv,Uh _,f7,fun sz' t' h'=>by cases h';exact f6⟩)
  have hmk: ∀s',k7 P t s' lv cv=Sai.ai (ph lv) fun l=>Sai.ai (ph cv) fun c=>ia P t l c s':=fun s'=>by
   unfold k7
   split
   ·exact absurd ⟨_,rfl⟩ htm
   ·rfl
  replace hx:k7 P t s lv cv=some x:=hx
  rw [hmk] at hx
  obtain ⟨ln,hln,hx⟩:=aa.1 hx
  obtain ⟨cn,hcn,hx⟩:=aa.1 hx
  obtain ⟨e,he,hx⟩:=aa.1 hx
  obtain ⟨by_,hby,hx⟩:=aa.1 hx
  obtain ⟨sz,hsz,hx⟩:=aa.1 hx
  obtain ⟨z,hz,hx⟩:=aa.1 hx
  obtain ⟨hb,hx⟩:=aA.1 hx
  have hb0:=hb
  simp only [Uj] at hb
  obtain ⟨⟨⟨⟨b1,b2⟩,b3⟩,b4⟩,b5⟩:=hb
  have hlv:=ha.eval hs hl
  have hcv:=ha.eval hs hc
  obtain rfl:=jv hln
  obtain rfl:=jv hcn
  have b1:ln≤cn:=Ua b1
  have b2:cn*by_≤140737488355328:=Ua b2
  have b3:cn≤1000000:=Ua b3
  have b5:z.cells.length=sz:=T7 b5
  obtain ⟨zv,_,hzv,i,hi,hzz⟩:=cL (μ:=μ) hz w
  have he':=cB he
  obtain ⟨i',hi',rfl⟩:=eV hby
  rw [hi] at hi'
  cases hi'
  have hsi:i.size=sz:=by unfold bD at hsz;rw [hi] at hsz;cases hsz;rfl
  have hzc:=hzv.cells (bR b4)
  have hzs:zv.cells.size=sz:=by rw [←b5];simpa using hzc.length.symm
  have hrun: ∀w:World,(Instr.makeSlice t (.int .i64 (TP ln)) (.int .i64 (TP cn))).run P w= .ok (.slice (some ⟨w.heap.size,0,none⟩) ln cn) (w.alloc (.cells (madeCells zv.cells (cn*zv.cells.size)) e)):=fun w=>by
   have hrun:=run_make (P:=P) w t e i zv he' hi hzz .i64 .i64 (TP ln) (TP cn) (Int.natCast_nonneg _) (Int.ofNat_le.2 b1)
    (by rw [Nat.mul_comm] at b2
        have hq:((i.bytes*cn:Nat):Int)≤((140737488355328:Nat):Int):=Int.ofNat_le.2 b2
        rw [Int.natCast_mul] at hq
        exact Int.le_trans hq (by decide)) (by show ((cn:Nat):Int)≤_;omega)
   simp only [Int.ofNat_eq_natCast,Int.toNat_natCast] at hrun
   rw [hsi,←hzs] at hrun
   exact hrun
  have hX:ca.eval l= .int .i64 (TP ln):=by
   generalize ca.eval l=X at hlv
   cases hlv
   rfl
  have hY:ca.eval c= .int .i64 (TP cn):=by
   generalize ca.eval c=Y at hcv
   cases hcv
   rfl
  refine ⟨fun m=>.slice m 0 ln (TJ ln cn) true,.cells true e (rW z.cells cn).length (.of (rW z.cells cn)),.cells (madeCells zv.cells (cn*zv.cells.size)) e (0,0),fun g=>.slice (some ⟨g,0,none⟩) ln cn,some ((madeCells zv.cells (cn*zv.cells.size)).size,e),rfl,fun s'=>?_,fun w=>?_,?_,fun m g μ' h=>?_⟩
  ·rw [ho]
   have e1:fR (.makeSlice t l c) P a s'=ia P t ln cn s':=by
    rw [hop,hmk]
    rfl
   rw [e1]
   show Sai.ai (dt P t) _=_
   rw [he]
   show Sai.ai (iZ P e) _=_
   rw [hby]
   show Sai.ai (bD P e) _=_
   rw [hsz]
   show Sai.ai (cU P e) _=_
   rw [hz]
   show Sai.aQ _ _ _=_
   rw [hb0]
   rfl
  ·unfold execOp
   simp only [ho,hX,hY,Uu,hrun w,Uv]
   rfl
  ·exact xy (vF hzc cn) (pC b4 cn)
  ·refine .slice m 0 ln (TJ ln cn) true _ _ cn h (.inl (by rw [add_nil])) b1 (by simp only [maxLen];omega) (fun h=>(T7 h).symm) (fun _ _ sz' t' h'=>?_)
   cases h'
   rw [cp hsz,size_madeCells,hzs]
end
end
section
open Go Go.RowKit
variable [Env]
section
variable {P:Program}
def sZ (m:Xt) (ops:Array Oper):Prop:=∃ρ:Nat→Nat,∀(i:Nat) (o:Oper),ops[i]? =some o→∀e∈o.after,TX m e=true→e.on<ops.size∧ρ e.on<ρ i
theorem s6 {m:Xt} {ops:Array Oper} {listed:Array Bool} (hsz:listed.size=ops.size) {ρ:Nat→Nat} (hρ: ∀(i:Nat) (o:Oper),ops[i]? =some o→∀e∈o.after,TX m e=true→e.on<ops.size∧ρ e.on<ρ i):
 ∀(r i:Nat),ρ i=r→i<ops.size→listed.getD i true=false→Xu m ops listed≠[]:=by
 intro r
 induction r using Xr with
 |_ r ih=>
  intro i hr hi hl
  have ho:ops[i]? =some ops[i]:=UG hi
  by_cases hall: ∀e∈(ops[i]).after,TX m e=true→listed.getD e.on false=true
  ·intro hn
   have:i∈Xu m ops listed:=mem_ready.2 ⟨hl,_,ho,hall⟩
   rw [hn] at this
   cases this
  ·have: ∃e,e∈(ops[i]).after∧TX m e=true∧listed.getD e.on false=false:=by
    apply Classical.byContradiction
    intro hne
    refine hall fun e he hb=>?_
    cases hq:listed.getD e.on false with
    |true=>rfl
    |false=>exact absurd ⟨e,he,hb,hq⟩ hne
   obtain ⟨e,he,hb,hq⟩:=this
   obtain ⟨h1,h2⟩:=hρ i _ ho e he hb
   refine ih (ρ e.on) (by omega) e.on rfl h1 ?_
   rw [Uw,UG (by omega)] at hq⊢
   simpa using hq
def eC (listed:Array Bool):Nat:=(listed.toList.filter (! ·)).length
theorem j0 {listed:Array Bool} {i:Nat} (h:listed.getD i true=false):eC (listed.setIfInBounds i true)+1=eC listed:=by
 have hi:i<listed.size:=by
  rcases Nat.lt_or_ge i listed.size with h' |h'
  ·exact h'
  ·rw [Uw,Xv h'] at h;cases h
 have hv:listed[i]=false:=by
  rw [Uw,UG hi] at h
  simpa using h
 have key: ∀(l:List Bool) (i:Nat),l[i]? =some false→((l.set i true).filter (! ·)).length+1=(l.filter (! ·)).length:=by
  intro l
  induction l with
  |nil=>intro i h;simp at h
  |cons b l ih=>
   intro i h
   cases i with
   |zero=>simp at h;subst h;simp
   |succ i=>
    have:=ih i (by simpa using h)
    cases b<;>simp at this⊢ <;>omega
 unfold eC
 rw [Array.toList_setIfInBounds]
 exact key _ _ (by rw [Array.getElem?_toList,UG hi,hv])
theorem mG {listed:Array Bool} (h:eC listed=0) {i:Nat} (hi:i<listed.size):listed.getD i true=true:=by
 cases hq:listed.getD i true with
 |true=>rfl
 |false=>have:=j0 hq;omega
theorem oz {listed:Array Bool} (h:eC listed≠0): ∃i,i<listed.size∧listed.getD i true=false:=by
 have: ∃x,x∈listed.toList.filter (! ·):=by
  unfold eC at h
  cases hl:listed.toList.filter (! ·) with
  |nil=>rw [hl] at h;exact absurd rfl h
  |cons x l=>exact ⟨x,by simp⟩
 obtain ⟨x,hx⟩:=this
 rw [List.mem_filter] at hx
 obtain ⟨i,hi,hxi⟩:=List.getElem_of_mem hx.1
 refine ⟨i,by simpa using hi,?_⟩
 rw [Uw,UG (by simpa using hi)]
 have h2:x=false:=by simpa using hx.2
 subst h2
 simpa using hxi
theorem Fm {m:Xt} {ops:Array Oper} (hR:sZ m ops) {b:Frame} {k:List Item} {cs:List Frame} {I:Array Bool→Act→World→Prop}
 (hstep: ∀(listed:Array Bool) (ca:Act) (w:World) (i:Nat),I listed ca w→i∈Xu m ops listed→∀rest,∃ca' w',Steps P (lone (b.atR ca (.inRegion ops (i::rest)::k)) cs w) (lone (b.atR ca' (.inRegion ops rest::k)) cs w')∧I (listed.setIfInBounds i true) ca' w'):
 ∀(fuel t:Nat) (listed:Array Bool) (ca:Act) (w:World),listed.size=ops.size→eC listed=fuel→I listed ca w→
  ∃listed' ca' w',(∀i,i<ops.size→listed'.getD i true=true)∧I listed' ca' w'∧Steps P (lone (b.atR ca (.inRegion ops (Xw m ops fuel t listed [])::k)) cs w) (lone (b.atR ca' k) cs w'):=by
 obtain ⟨ρ,hρ⟩:=hR
 intro fuel
 induction fuel with
 |zero=>
  intro t listed ca w hsz hun hI
  exact ⟨listed,ca,w,fun i hi=>mG hun (by omega),hI,.one stepR_region_end⟩
 |succ fuel ih=>
  intro t listed ca w hsz hun hI
  obtain ⟨i0,hi0,hl0⟩:=oz (listed:=listed) (by omega)
  have hne:=s6 hsz hρ (ρ i0) i0 rfl (by omega) hl0
  have hlen:0<(Xu m ops listed).length:=List.length_pos_iff.2 hne
  have hget:(Xu m ops listed)[t % (Xu m ops listed).length]? =some ((Xu m ops listed)[t % (Xu m ops listed).length]'(Nat.mod_lt _ hlen)):=UB _
  generalize hi:(Xu m ops listed)[t % (Xu m ops listed).length]'(Nat.mod_lt _ hlen)=i at hget
  have hmem:i∈Xu m ops listed:=by rw [←hi];exact List.getElem_mem _
  have hgo:Xw m ops (fuel+1) t listed []=i::Xw m ops fuel (t / (Xu m ops listed).length) (listed.setIfInBounds i true) []:=by
   show (match (Xu m ops listed)[t % (Xu m ops listed).length]? with |some i=>Xw m ops fuel (t / (Xu m ops listed).length) (listed.setIfInBounds i true) [i] |none=>[].reverse)=_
   rw [hget]
   show Xw m ops fuel (t / (Xu m ops listed).length) (listed.setIfInBounds i true) [i]=_
   rw [linearise_go_acc]
   rfl
  rw [hgo]
  obtain ⟨ca₁,w₁,hs,hI₁⟩:=hstep listed ca w i hI hmem (Xw m ops fuel (t / (Xu m ops listed).length) (listed.setIfInBounds i true) [])
  have hun₁:=j0 (mem_ready.1 hmem).1
  obtain ⟨listed',ca',w',h1,h2,h3⟩:=ih (t / (Xu m ops listed).length) (listed.setIfInBounds i true) ca₁ w₁ (by simpa using hsz) (by omega) hI₁
  exact ⟨listed',ca',w',h1,h2,hs.trans h3⟩
end
end
section
open Go Go.RowKit
variable [Env]
section
variable {P:Program}
theorem s9 {e:Edge} (h:TX .any e=true):TX .text e=true:=by
 unfold TX at*
 cases he:e.ground<;>rw [he] at h<;>first |rfl |cases h
theorem HR {e:Edge} (h:TX .any e=true):TX .gc e=true:=by
 unfold TX at*
 cases he:e.ground<;>rw [he] at h<;>first |rfl |cases h
theorem B9 (ops:Array Oper):k9 ops.toList=Xx ops:=by
 unfold k9 Xx
 rw [←Xy]
 congr 1
 funext o
 rw [←Xy]
theorem HS {ops:Array Oper} (hF:Fit P ops.toList) (mixed:Bool) (t:Nat): ∃m t',Xz mixed ops t=Xs m ops t'∧sZ m ops∧∀e,TX .any e=true→TX m e=true:=by
 have htext:sZ .text ops:=by
  refine ⟨id,fun i o ho e he hb=>?_⟩
  have hlt:=hF.text i o (by simpa using ho) e (by simpa using he) hb
  have hi:i<ops.size:=(Array.getElem?_eq_some_iff.1 ho).1
  exact ⟨by omega,hlt⟩
 have hany:sZ .any ops:=by
  obtain ⟨ρ,h⟩:=htext
  exact ⟨ρ,fun i o ho e he hb=>h i o ho e he (s9 hb)⟩
 unfold Xz
 cases hc:(mixed|| !Xx ops) with
 |true=>exact ⟨.any,t,by simp,hany,fun e h=>h⟩
 |false=>
  simp only [Bool.false_eq_true,if_false]
  rw [Bool.or_eq_false_iff] at hc
  have hd:k9 ops.toList=true:=by rw [B9];simpa using hc.2
  cases ht:(t % 2==0) with
  |true=>exact ⟨.text,t / 2,by simp,htext,fun e h=>s9 h⟩
  |false=>
   obtain ⟨ρ,h⟩:=hF.gc hd
   refine ⟨.gc,t / 2,by simp,⟨ρ,fun i o ho e he hb=>?_⟩,fun e h=>HR h⟩
   have:=h i o (by simpa using ho) e (by simpa using he) hb
   simpa using this
theorem ka (done:List Nat) (i j:Nat): ∀es:List Edge,(∃e∈es,TX .any e=true∧e.on<i∧(e.on=j∨Xi (done.getD (i - 1 - e.on) 0) j=true))→Xi (cV done i es) j=true
 |[],h=>by obtain ⟨e,he,_⟩:=h;cases he
 |e::es,h=>by
  obtain ⟨e',he',hb,hlt,hor⟩:=h
  unfold cV
  cases hc:(TX .any e&&TY e.on i) with
  |false=>
   rw [cond_false]
   refine ka done i j es ⟨e',?_,hb,hlt,hor⟩
   cases he' with
   |head=>
    rw [Bool.and_eq_false_iff] at hc
    rcases hc with hc |hc
    ·rw [hb] at hc;cases hc
    ·have:TY e.on i=true:=by simpa [Xj] using hlt
     rw [this] at hc;cases hc
   |tail _ h=>exact h
  |true=>
   rw [cond_true]
   show Xi (((1 <<< e.on) ||| done.getD (i - 1 - e.on) 0) ||| cV done i es) j=true
   rw [Xk,Xk,Vg,Vg]
   cases he' with
   |head=>
    rcases hor with h |h
    ·left;left
     rw [Xl,Xm]
     exact decide_eq_true h
    ·left;right;exact h
   |tail _ h=>right;exact ka done i j es ⟨e',h,hb,hlt,hor⟩
theorem Ab {ops:List Oper} {i j:Nat} {o:Oper} (ho:ops[i]? =some o) {e:Edge} (he:e∈o.after.toList) (hb:TX .any e=true) (hlt:e.on<i) (hor:e.on=j∨bit (ahead ops) e.on j=true):bit (ahead ops) i j=true:=by
 obtain ⟨rest,h1,h2,h3⟩:=gP ops [] 0 rfl
 have hA:ahead ops=rest:=by unfold ahead;rw [h1];simp
 have:=h3 i o ho
 simp only [Xo,VF,WH] at this
 unfold bit at hor⊢
 rw [hA] at hor⊢
 rw [this]
 refine ka _ _ _ _ ⟨e,he,hb,hlt,hor.imp id fun hq=>?_⟩
 have hil:i<rest.length:=by rw [h2];exact (List.getElem?_eq_some_iff.1 ho).1
 rw [Xn,Xp (by simp;omega)]
 simp only [Ur,Us (Xq hil)]
 rw [T4,if_pos (by omega),show i - 1 - (i - 1 - e.on)=e.on from by omega]
 rw [Xn] at hq
 exact hq
theorem pG {ops:List Oper}: ∀(a b c:Nat),bit (ahead ops) a b=true→bit (ahead ops) b c=true→bit (ahead ops) a c=true:=by
 intro a
 induction a using Xr with
 |_ a ih=>
  intro b c h k
  cases ho:ops[a]? with
  |none=>rw [z5 ho] at h;cases h
  |some o=>
   obtain ⟨e,he,hb,hlt,rfl |hq⟩:=sU ho h
   ·exact Ab ho he hb hlt (.inr k)
   ·exact Ab ho he hb hlt (.inr (ih e.on hlt b c hq k))
open Classical in
noncomputable def cw (μ:bu) (p:Pos→Prop):bu:=⟨fun b=>if p b then μ b else none,μ.fz⟩
open Classical in
theorem kc (μ:bu) (p:Pos→Prop) (b:Pos):cw μ p b=if p b then μ b else none:=rfl
theorem bz {μ:bu} {p:Pos→Prop} {b:Pos} {e:eQ}:cw μ p b=some e↔p b∧μ b=some e:=by
 rw [kc]
 by_cases h:p b
 ·rw [if_pos h];exact ⟨fun q=>⟨h,q⟩,fun q=>q.2⟩
 ·rw [if_neg h];exact ⟨(fun q=>by cases q),fun q=>absurd q.1 h⟩
theorem cC {μ μ':bu} {p q:Pos→Prop} (h: ∀b e,p b→μ b=some e→q b∧μ' b=some e) (hz: ∀ad v,μ.fz ad=some v→μ'.fz ad=some v:=by exact fun _ _ h=>h):Sub (cw μ p) (cw μ' q):=⟨fun b e hb=>by
 obtain ⟨h1,h2⟩:=bz.1 hb
 exact bz.2 (h b e h1 h2),hz⟩
end
end
section
open Go Go.RowKit
variable [Env]
section
variable {P:Program} {N:Nat}
def Ca (P:Program) (tels:List fS) (S:Nat→St) (i:Nat) (b:Pos):Prop:=∃t,tels[i]? =some t∧t.w=true∧bF P t.o.op=1∧b=(S i).n
def xz (P:Program) (ops:List Oper) (tels:List fS) (S:Nat→St) (h j:Nat):Pos→Prop:=fun b=>b.toNat<(S h).n.toNat∨∃i,Ca P tels S i b∧bit (ahead ops) j i=true
def pH (P:Program) (ops:List Oper) (tels:List fS) (S:Nat→St) (h j:Nat):Pos→Prop:=fun b=>b.toNat<(S h).n.toNat∨∃i,Ca P tels S i b∧(i=j∨bit (ahead ops) j i=true)
def iF (S:Nat→St) (h:Nat):Pos→Prop:=fun b=>b.toNat<(S h).n.toNat
structure Inv (P:Program) (N:Nat) (ops:List Oper) (tels:List fS) (A:Nat→aV) (S:Nat→St) (μ₀:bu) (w₀:World) (D:Nat→Bool) (h:Nat) (μ:bu) (ca:Act) (w:World):Prop where
 lt: ∀i,D i=true→i<ops.length
 down: ∀i j,D i=true→bit (ahead ops) i j=true→D j=true
 hle:h≤ops.length
 HT: ∀o,ops[h]? =some o→bF P o.op=2∧D h=false
 KT: ∀e o,ops[e]? =some o→bF P o.op=2→(D e=true↔e<h)
 size:ca.tmps.size=(A 0).n
 uU:xj P (cw μ (iF S 0)) (A 0).defers ca.defers
 done: ∀i t d,D i=true→tels[i]? =some t→t.o.dst=some d→VR P (cw μ (pH P ops tels S h i)) t.v (ca.tmps.getD d undef)
 gY: ∀d,(∀(i:Nat) (o:Oper),ops[i]? =some o→o.dst=some d→D i=false)→VR P (cw μ (iF S 0)) ((A 0).tmp d) (ca.tmps.getD d undef)
 sr:SR P N (cw μ (iF S h)) (S h) w
 HU: ∀j t,D j=true→h<j→tels[j]? =some t→t.w=true→bF P t.o.op=1→∃e bV,μ (S j).n=some e∧S (j+1)=(S j).push bV∧bS bV=false∧BR P N (cw μ (pH P ops tels S h j)) w bV e∧N≤e.a.block∧
  (∀b' e',b'≠(S j).n→μ b'=some e'→e'.a.block≠e.a.block)∧∀ad v,μ.fz ad=some v→ad.block≠e.a.block
 Gd: ∀b e,μ b=some e→b.toNat<(S h).n.toNat∨∃j,D j=true∧h<j∧Ca P tels S j b
 ta: ∀j t,D j=false→tels[j]? =some t→t.w=true→bF P t.o.op=1→μ (S j).n=none
 ev:Ev N μ₀ w₀ w
 ext:Ext μ₀ μ w₀
 fresh: ∀b e,μ b=some e→μ₀ b=some e∨(S 0).n.toNat≤b.toNat
theorem vS {t:Tmp}: ∀{l:List Operand},XA t∈l→t∈kI l
 |x::l,h=>by
  cases h with
  |head=>exact Uk ..
  |tail _ h=>
   have:=vS h
   cases x<;>first |exact Ul _ this |exact this
def Ac:List Tmp→Nat
 |[]=>0
 |t::l=>t+Ac l+1
theorem Ad {t:Tmp}: ∀{l:List Tmp},t∈l→t<Ac l
 |x::l,h=>by
  cases h with
  |head=>exact Nat.lt_succ_of_le (Nat.le_add_right t (Ac l))
  |tail _ h=>exact Ug (Ad h) (Nat.le_succ_of_le (XB (Ac l) x))
section
variable {r:Rec} {ops:List Oper} {tels:List fS} {A:Nat→aV} {S:Nat→St} {B:Nat→Bool} {μ₀ μ:bu} {w₀ w:World} {D:Nat→Bool} {h:Nat} {ca:Act}
theorem SJ (hT:jf P r ops ops 0 tels A S B) (hle:h≤ops.length):Sub (cw μ (iF S 0)) (cw μ (iF S h)):=
 cC fun b e hb he=>⟨Ug hb (hT.mono (VT _) hle),he⟩
theorem Inv.mask (hF:Fit P ops) (hT:jf P r ops ops 0 tels A S B) (hI:Inv P N ops tels A S μ₀ w₀ D h μ ca w) {q:Nat} {t:fS} (hq:tels[q]? =some t) (hDq:D q=false) (hdone: ∀j,bit (ahead ops) q j=true→D j=true):
 ∃a',AR P (cw μ (xz P ops tels S h q)) a' ca∧∀s,fR t.o.op P a' s=fR t.o.op P (A q) s:=by
 have hqo:=(hT.lZ q t hq).1
 have hql:=hT.lt hq
 obtain ⟨e1,e2,e3⟩:=hT.same q (Xq hql)
 have hsub0:Sub (cw μ (iF S 0)) (cw μ (xz P ops tels S h q)):=cC fun b e hb he=>⟨.inl (Ug hb (hT.mono (VT _) hI.hle)),he⟩
 have hop: ∀x,x∈kI t.o.op.operands.toList→VR P (cw μ (xz P ops tels S h q)) ((A q).tmp x) (ca.tmps.getD x undef):=by
  intro x hx
  by_cases hw: ∃(j:Nat) (o:Oper),ops[j]? =some o∧o.dst=some x
  ·obtain ⟨j,o,hj,hd⟩:=hw
   rcases hF.reads q t.o x hqo hx j o hj hd with hb |hb
   case inr=>
    have hqj:=jZ j q hb
    rw [hT.gY q (Xq hql) fun i o' hi ho' hd'=>hF.dst i j o' o x (by omega) ho' hj hd' hd]
    refine (hI.gY x fun i o' ho' hd'=>?_).mono hsub0
    have hij:i=j:=by
     rcases Nat.lt_trichotomy i j with hl |hl |hl
     ·exact absurd hd (hF.dst i j o' o x hl ho' hj hd')
     ·exact hl
     ·exact absurd hd' (hF.dst j i o o' x hl hj ho' hd)
    subst hij
    cases hDi:D i with
    |false=>rfl
    |true=>
     have:=hI.down i q hDi hb
     rw [hDq] at this
     cases this
   have hjq:=jZ q j hb
   obtain ⟨y,hy⟩:=hT.get (k:=j) (by omega)
   have hyo:y.o=o:=by
    have:=(hT.lZ j y hy).1
    rw [hj] at this
    exact (TZ this).symm
   subst hyo
   rw [hT.new hF hy hd q hjq (Xq hql)]
   refine (hI.done j y x (hdone j hb) hy hd).mono (cC fun b e hb' he=>⟨?_,he⟩)
   rcases hb' with hb' |⟨i,hi,rfl |hbi⟩
   ·exact .inl hb'
   ·exact .inr ⟨i,hi,hb⟩
   ·exact .inr ⟨i,hi,pG q j i hb hbi⟩
  ·have hn: ∀(i:Nat) (o:Oper),ops[i]? =some o→o.dst≠some x:=fun i o ho hd=>hw ⟨i,o,ho,hd⟩
   rw [hT.gY q (Xq hql) fun j o _ ho=>hn j o ho]
   exact (hI.gY x fun i o ho hd=>absurd hd (hn i o ho)).mono hsub0
 let m:=ca.tmps.size+Ac (kI t.o.op.operands.toList)
 let f:Nat→AV:=fun x=>if x∈kI t.o.op.operands.toList then (A q).tmp x else .bad
 have hget: ∀x,fQ ((gX ((XC m).map f) .nil 0).get (pos x))=if x<m then f x else .undef:=by
  intro x
  rw [jo]
  by_cases hx:x<m
  ·rw [if_pos ⟨VT _,by simpa using hx⟩,if_pos hx]
   simp [hx,fQ]
  ·rw [if_neg (by simp;omega),if_neg hx,get_nil]
   rfl
 refine ⟨⟨gX ((XC m).map f) .nil 0,(A q).n,(A q).defers,(A q).rc⟩,⟨fun x=>?_,by rw [hI.size,←e1],by rw [e2];exact hI.uU.mono hsub0⟩,fun s=>Fh fun x hx=>?_⟩
 ·show VR P _ (fQ ((gX ((XC m).map f) .nil 0).get (pos x))) _
  rw [hget]
  by_cases hx:x<m
  ·rw [if_pos hx]
   show VR P _ (if x∈kI t.o.op.operands.toList then (A q).tmp x else .bad) _
   by_cases hm:x∈kI t.o.op.operands.toList
   ·rw [if_pos hm];exact hop x hm
   ·rw [if_neg hm];exact .bad _
  ·rw [if_neg hx]
   have:ca.tmps.getD x undef=undef:=by
    rw [Uw,Xv (by omega)];rfl
   rw [this]
   exact eY
 ·cases x with
  |tmp x=>
   have hm:=vS (show XA x∈t.o.op.operands.toList by simpa using hx)
   have hxm:x<m:=Ug (Ad hm) (XB _ _)
   show some (fQ ((gX ((XC m).map f) .nil 0).get (pos x)))=some ((A q).tmp x)
   rw [hget,if_pos hxm]
   show some (if x∈kI t.o.op.operands.toList then (A q).tmp x else .bad)=_
   rw [if_pos hm]
  |const v=>rfl
  |global g=>rfl
  |func f=>rfl
end
end
end
section
open Go Go.RowKit
variable [Env]
section
variable {P:Program} {N:Nat}
theorem SR.kept {μ:bu} {σ:St} {w w':World} (h:SR P N μ σ w) (hk:Kept w w'):SR P N μ σ w':=
 ⟨fun b e he=>let ⟨k,h1,h2⟩:=h.bV b e he;⟨k,h1,h2.bx (Sub.refl _) hk.size fun _=>hk.same _ h2.lt⟩,h.inj,h.lt,Ui h.hN hk.size,h.eH,h.hn,Env.bx w w' hk.size (fun k hk'=>hk.same k (by have:=h.hn;have:=h.hN;omega)) h.base,(fun ad v ha=>by
  have hc:=h.fB ad v ha
  rw [pw (hk.same _ (jN hc))]
  exact hc),h.apart⟩
def lu (D:Nat→Bool) (q:Nat):Nat→Bool:=fun i=>if i=q then true else D i
theorem ec (D:Nat→Bool) (q:Nat):lu D q q=true:=if_pos rfl
theorem bQ (D:Nat→Bool) {q i:Nat} (h:i≠q):lu D q i=D i:=if_neg h
theorem da {D:Nat→Bool} {q i:Nat} (h:D i=true):lu D q i=true:=by
 by_cases hi:i=q
 ·rw [hi];exact ec D q
 ·rw [bQ D hi];exact h
theorem Ae {ca:Act} {dst:Option Tmp} {u:Value} {d:Tmp} (hlt: ∀x,dst=some x→x<ca.tmps.size):(ca.put dst u).tmps.getD d undef=if dst=some d then u else ca.tmps.getD d undef:=by
 cases dst with
 |none=>rfl
 |some x=>
  show (ca.tmps.setIfInBounds x u).getD d undef=_
  by_cases hx:x=d
  ·subst hx
   have:=hlt x rfl
   rw [if_pos rfl]
   simp [Uw,this]
  ·rw [if_neg (fun e=>hx (TZ e))]
   simp [Uw,Array.getElem?_setIfInBounds_ne hx]
theorem oA (ca:Act) (dst:Option Tmp) (u:Value):(ca.put dst u).tmps.size=ca.tmps.size:=by
 cases dst with
 |none=>rfl
 |some x=>exact Array.size_setIfInBounds
theorem rz (ca:Act) (dst:Option Tmp) (u:Value):(ca.put dst u).defers=ca.defers:=by cases dst<;>rfl
section
variable {r:Rec} {ops:List Oper} {tels:List fS} {A:Nat→aV} {S:Nat→St} {B:Nat→Bool} {μ₀ μ:bu} {w₀ w:World} {D:Nat→Bool} {h:Nat} {ca:Act}
theorem Inv.Me (hT:jf P r ops ops 0 tels A S B) (hI:Inv P N ops tels A S μ₀ w₀ D h μ ca w) {q:Nat} {t:fS} (hq:tels[q]? =some t): ∀x,t.o.dst=some x→x<ca.tmps.size:=by
 intro x hx
 have hp:=(ma (hT.lZ q t hq).2.2.2.2.2.2.2).2.2.2.2 x hx
 rw [(hT.same q (Xq (hT.lt hq))).1,←hI.size] at hp
 exact hp
theorem Inv.DD (hF:Fit P ops) (hT:jf P r ops ops 0 tels A S B) (hI:Inv P N ops tels A S μ₀ w₀ D h μ ca w) {q:Nat} {t:fS} (hq:tels[q]? =some t) (hD:D q=false) {u:Value} {μ':bu} {h':Nat} (hs:Sub μ μ') (hh:(S h).n.toNat≤(S h').n.toNat)
 (hu:VR P (cw μ' (pH P ops tels S h' q)) t.v u):
 (∀i y d,lu D q i=true→tels[i]? =some y→y.o.dst=some d→VR P (cw μ' (pH P ops tels S h' i)) y.v ((ca.put t.o.dst u).tmps.getD d undef))∧
 ∀d,(∀(i:Nat) (o:Oper),ops[i]? =some o→o.dst=some d→lu D q i=false)→VR P (cw μ' (iF S 0)) ((A 0).tmp d) ((ca.put t.o.dst u).tmps.getD d undef):=by
 have hqo:=(hT.lZ q t hq).1
 refine ⟨fun i y d hi hy hd=>?_,fun d hn=>?_⟩
 ·rw [Ae (hI.Me hT hq)]
  by_cases hiq:i=q
  ·subst hiq
   rw [hq] at hy
   cases hy
   rw [if_pos hd]
   exact hu
  ·rw [bQ D hiq] at hi
   have hyo:=(hT.lZ i y hy).1
   rw [if_neg (fun e=>by
    rcases Nat.lt_or_gt_of_ne hiq with hl |hl
    ·exact hF.dst i q y.o t.o d hl hyo hqo hd e
    ·exact hF.dst q i t.o y.o d hl hqo hyo e hd)]
   refine (hI.done i y d hi hy hd).mono (cC (fun b e hb he=>⟨hb.imp (fun q=>Ug q hh) id,hs b e he⟩) hs.fz)
 ·rw [Ae (hI.Me hT hq),if_neg (fun e=>by have:=hn q t.o hqo e;rw [ec] at this;cases this)]
  refine (hI.gY d fun i o ho hd=>?_).mono (cC (fun b e hb he=>⟨hb,hs b e he⟩) hs.fz)
  have h1:=hn i o ho hd
  by_cases hiq:i=q
  ·rw [hiq];exact hD
  ·rwa [bQ D hiq] at h1
theorem Inv.sW (hF:Fit P ops) (hT:jf P r ops ops 0 tels A S B) (hI:Inv P N ops tels A S μ₀ w₀ D h μ ca w) {q:Nat} {t:fS} (hq:tels[q]? =some t) (hD:D q=false) (hdone: ∀j,bit (ahead ops) q j=true→D j=true)
 (hc:bF P t.o.op≠2) (hl:t.w=true→bF P t.o.op≠1) {u:Value} {w':World} (hu:VR P (cw μ (pH P ops tels S h q)) t.v u) (hk:Kept w w'):
 Inv P N ops tels A S μ₀ w₀ (lu D q) h μ (ca.put t.o.dst u) w':=by
 have hqo:=(hT.lZ q t hq).1
 obtain ⟨h1,h2⟩:=hI.DD hF hT hq hD (Sub.refl μ) (Uh _) hu
 refine ⟨fun i hi=>?_,fun i j hi hb=>?_,hI.hle,fun o ho=>?_,fun e o ho hh=>?_,by rw [oA];exact hI.size,by rw [rz];exact hI.uU,h1,h2,hI.sr.kept hk,fun j y hj hhj hy hw hcl=>?_,fun b e hb=>?_,fun j y hj hy hw hcl=>?_,?_,hI.ext,hI.fresh⟩
 ·by_cases hiq:i=q
  ·subst hiq;exact hT.lt hq
  ·rw [bQ D hiq] at hi;exact hI.lt i hi
 ·by_cases hiq:i=q
  ·subst hiq;exact da (hdone j hb)
  ·rw [bQ D hiq] at hi;exact da (hI.down i j hi hb)
 ·obtain ⟨g1,g2⟩:=hI.HT o ho
  refine ⟨g1,?_⟩
  have hne:h≠q:=fun e=>by subst e;rw [hqo] at ho;cases ho;exact hc g1
  rw [bQ D hne];exact g2
 ·have hne:e≠q:=fun e'=>by subst e';rw [hqo] at ho;cases ho;exact hc hh
  rw [bQ D hne]
  exact hI.KT e o ho hh
 ·have hne:j≠q:=fun e'=>by subst e';rw [hq] at hy;cases hy;exact hl hw hcl
  rw [bQ D hne] at hj
  obtain ⟨e,bV,p1,p2,p3,p4,p5,p6,p7⟩:=hI.HU j y hj hhj hy hw hcl
  exact ⟨e,bV,p1,p2,p3,p4.bx (Sub.refl _) hk.size fun _=>hk.same _ p4.lt,p5,p6,p7⟩
 ·rcases hI.Gd b e hb with hb' |⟨j,q1,q2,q3⟩
  ·exact .inl hb'
  ·exact .inr ⟨j,da q1,q2,q3⟩
 ·have hne:j≠q:=fun e'=>by subst e';rw [ec] at hj;cases hj
  rw [bQ D hne] at hj
  exact hI.ta j y hj hy hw hcl
 ·exact ⟨hk.os.trans hI.ev.os,hk.tape.trans hI.ev.tape,hk.output.trans hI.ev.output,Ui hI.ev.size hk.size,fun k hk1 hk2=>(hk.same k (Ug hk1 hI.ev.size)).trans (hI.ev.same k hk1 hk2)⟩
end
end
end
end Go.Proofs.Sai
