/- Part IH of the proof of VerifyDead: texts of the interpreter and what it shows, under short names. No condition. -/
import Derived.Test.YtgfhbomiljhjpaaGreatDoorIG
set_option linter.unusedVariables false
set_option linter.unusedSimpArgs false
set_option linter.unusedSectionVars false
open Bool renaming and_eq_true→V1
open List renaming rec→Vu,getElem?_cons_succ→X7,getElem?_map→VV,mem_cons_of_mem→V3,mem_cons_self→V2,append_nil→XZ,length_append→V7,append_assoc→Xh
open Nat renaming ble→Vv,le_of_ble_eq_true→VQ,beq→Vo,eq_of_beq_eq_true→VN,le_antisymm→Zr
open Option renaming rec→Vm
open Option.some renaming inj→VF
namespace Go.Proofs.Sai
section
open Go Go.RowKit
noncomputable def dp (l:List D):Nat→D:=fun i=>D.at l i
@[reducible] noncomputable def bf (l:List D) (bs:List aY):Env:=N1 true (dp l) [] (fun c h=>absurd h List.not_mem_nil) bs
mutual
def uU (n:Nat):Tm→Bool
 | .var m=>Vv (Nat.succ m) n
 | .op _ l=>mD n l
 | .int .. =>true
 | .bool _=>true
 | .str _=>true
def mD (n:Nat):List Tm→Bool
 |[]=>true
 |x::l=>uU n x&&mD n l
end
mutual
def rm (n:Nat):AV→Bool
 | .tm _ x=>uU n x
 | .agg l=>jt n l
 | .tuple l=>jt n l
 |_=>true
def jt (n:Nat):List AV→Bool
 |[]=>true
 |x::l=>rm n x&&jt n l
end
mutual
theorem kZ {ρ ρ':Nat→D} {n:Nat} (h: ∀i,i<n→ρ i=ρ' i): ∀{t:Tm},uU n t=true→bh ρ t=bh ρ' t
 | .var m,ht=>by unfold bh;exact h m (VQ (by unfold uU at ht;exact ht))
 | .op o l,ht=>by unfold bh;rw [BO h (by unfold uU at ht;exact ht)]
 | .int ..,ht=>by unfold bh;rfl
 | .bool _,ht=>by unfold bh;rfl
 | .str _,ht=>by unfold bh;rfl
theorem BO {ρ ρ':Nat→D} {n:Nat} (h: ∀i,i<n→ρ i=ρ' i): ∀{l:List Tm},mD n l=true→aL ρ l=aL ρ' l
 |[],ht=>by unfold aL;rfl
 |x::l,ht=>by
  unfold mD at ht
  rw [V1] at ht
  unfold aL
  rw [kZ h ht.1,BO h ht.2]
end
theorem dQ {l m:List D} {i:Nat} (h:i<l.length):dp l i=dp (l++m) i:=by
 show D.at l i=D.at (l++m) i
 unfold D.at
 rw [List.getElem?_append_left h]
theorem JH {l m:List D} {i:Nat}:dp (l++m) (l.length+i)=D.at m i:=by
 show D.at (l++m) (l.length+i)=D.at m i
 unfold D.at
 rw [List.getElem?_append_right (by omega),Nat.add_sub_cancel_left]
section
variable {E E':Env} {n:Nat}
theorem cJ (h: ∀i,i<n→E.ρ i=E'.ρ i) {v:AV} (hv:rm n v=true): @od E v= @od E' v:=by
 unfold od
 cases v<;>first |rfl |skip
 rename_i t x
 show some (bh E.ρ x)=some (bh E'.ρ x)
 rw [kZ h (by unfold rm at hv;exact hv)]
theorem BP (h: ∀i,i<n→E.ρ i=E'.ρ i): ∀{l:List AV},jt n l=true→@dz E l= @dz E' l
 |[],_=>rfl
 |v::vs,hv=>by
  unfold jt at hv
  rw [V1] at hv
  unfold dz
  rw [cJ h hv.1,BP h hv.2]
mutual
theorem BQ (h: ∀i,i<n→E.ρ i=E'.ρ i): ∀{v:AV},rm n v=true→@bk E v= @bk E' v
 | .agg l,hv=>by unfold bk;rw [BP h (by unfold rm at hv;exact hv)]
 | .tuple l,hv=>by unfold bk;rw [m9 h (by unfold rm at hv;exact hv)]
 | .bool b,hv=>by unfold bk;rw [cJ h hv]
 | .int k m,hv=>by unfold bk;rw [cJ h hv]
 | .str l,hv=>by unfold bk;rw [cJ h hv]
 | .an,hv=>by unfold bk;rw [cJ h hv]
 | .tm t x,hv=>by unfold bk;rw [cJ h hv]
 | .float ..,hv=>by unfold bk;rw [cJ h hv]
 | .ptr ..,hv=>by unfold bk;rw [cJ h hv]
 | .bX,hv=>by unfold bk;rw [cJ h hv]
 | .slice ..,hv=>by unfold bk;rw [cJ h hv]
 | .map _,hv=>by unfold bk;rw [cJ h hv]
 | .cd,hv=>by unfold bk;rw [cJ h hv]
 | .func ..,hv=>by unfold bk;rw [cJ h hv]
 | .yield _,hv=>by unfold bk;rw [cJ h hv]
 | .bN,hv=>by unfold bk;rw [cJ h hv]
 | .iface ..,hv=>by unfold bk;rw [cJ h hv]
 | .bu,hv=>by unfold bk;rw [cJ h hv]
 | .bad,hv=>by unfold bk;rw [cJ h hv]
 | .vl ..,hv=>by unfold bk;rw [cJ h hv]
 | .e0 _,hv=>by unfold bk;rw [cJ h hv]
 | .pe ..,hv=>by unfold bk;rw [cJ h hv]
 | .fb ..,hv=>by unfold bk;rw [cJ h hv]
theorem m9 (h: ∀i,i<n→E.ρ i=E'.ρ i): ∀{l:List AV},jt n l=true→@bI E l= @bI E' l
 |[],_=>by unfold bI;rfl
 |v::vs,hv=>by
  unfold jt at hv
  rw [V1] at hv
  unfold bI
  rw [BQ h hv.1,m9 h hv.2]
end
theorem b9 (h: ∀i,i<n→E.ρ i=E'.ρ i) {v:AV} (hv:rm n v=true) (ht: @oq E v): @oq E' v:=by
 cases v<;>first |exact ht |skip
 rename_i t x
 show bx t (bh E'.ρ x)
 rw [←kZ h (by unfold rm at hv;exact hv)]
 exact ht
theorem xN (h: ∀i,i<n→E.ρ i=E'.ρ i): ∀{l:List AV},jt n l=true→@kg E l→@kg E' l
 |[],_,_=>trivial
 |v::vs,hv,ht=>by
  unfold jt at hv
  rw [V1] at hv
  exact ⟨b9 h hv.1 ht.1,xN h hv.2 ht.2⟩
mutual
theorem Ff (h: ∀i,i<n→E.ρ i=E'.ρ i): ∀{v:AV},rm n v=true→@cO E v→@cO E' v
 | .agg l,hv,ht=>by unfold cO at ht⊢;exact xN h (by unfold rm at hv;exact hv) ht
 | .tuple l,hv,ht=>by unfold cO at ht⊢;exact uV h (by unfold rm at hv;exact hv) ht
 | .bool b,hv,ht=>by unfold cO at ht⊢;exact b9 h hv ht
 | .int k m,hv,ht=>by unfold cO at ht⊢;exact b9 h hv ht
 | .str l,hv,ht=>by unfold cO at ht⊢;exact b9 h hv ht
 | .an,hv,ht=>by unfold cO at ht⊢;exact b9 h hv ht
 | .tm t x,hv,ht=>by unfold cO at ht⊢;exact b9 h hv ht
 | .float ..,hv,ht=>by unfold cO at ht⊢;exact b9 h hv ht
 | .ptr ..,hv,ht=>by unfold cO at ht⊢;exact b9 h hv ht
 | .bX,hv,ht=>by unfold cO at ht⊢;exact b9 h hv ht
 | .slice ..,hv,ht=>by unfold cO at ht⊢;exact b9 h hv ht
 | .map _,hv,ht=>by unfold cO at ht⊢;exact b9 h hv ht
 | .cd,hv,ht=>by unfold cO at ht⊢;exact b9 h hv ht
 | .func ..,hv,ht=>by unfold cO at ht⊢;exact b9 h hv ht
 | .yield _,hv,ht=>by unfold cO at ht⊢;exact b9 h hv ht
 | .bN,hv,ht=>by unfold cO at ht⊢;exact b9 h hv ht
 | .iface ..,hv,ht=>by unfold cO at ht⊢;exact b9 h hv ht
 | .bu,hv,ht=>by unfold cO at ht⊢;exact b9 h hv ht
 | .bad,hv,ht=>by unfold cO at ht⊢;exact b9 h hv ht
 | .vl ..,hv,ht=>by unfold cO at ht⊢;exact b9 h hv ht
 | .e0 _,hv,ht=>by unfold cO at ht⊢;exact b9 h hv ht
 | .pe ..,hv,ht=>by unfold cO at ht⊢;exact b9 h hv ht
 | .fb ..,hv,ht=>by unfold cO at ht⊢;exact b9 h hv ht
theorem uV (h: ∀i,i<n→E.ρ i=E'.ρ i): ∀{l:List AV},jt n l=true→@eW E l→@eW E' l
 |[],_,ht=>by unfold eW;trivial
 |v::vs,hv,ht=>by
  unfold jt at hv
  rw [V1] at hv
  unfold eW at ht⊢
  exact ⟨Ff h hv.1 ht.1,uV h hv.2 ht.2⟩
end
end
section
variable {E E':Env}
theorem cK (h:E.ρ=E'.ρ) (v:AV): @od E v= @od E' v:=by
 unfold od ev
 rw [h]
theorem BS (h:E.ρ=E'.ρ): ∀l:List AV,@dz E l= @dz E' l
 |[]=>rfl
 |v::vs=>by unfold dz;rw [cK h v,BS h vs]
mutual
theorem uW (h:E.ρ=E'.ρ): ∀v:AV,@bk E v= @bk E' v
 | .agg l=>by unfold bk;rw [BS h l]
 | .tuple l=>by unfold bk;rw [rn h l]
 | .bool b=>by unfold bk;rw [cK h]
 | .int k m=>by unfold bk;rw [cK h]
 | .str l=>by unfold bk;rw [cK h]
 | .an=>by unfold bk;rw [cK h]
 | .tm t x=>by unfold bk;rw [cK h]
 | .float .. =>by unfold bk;rw [cK h]
 | .ptr .. =>by unfold bk;rw [cK h]
 | .bX=>by unfold bk;rw [cK h]
 | .slice .. =>by unfold bk;rw [cK h]
 | .map _=>by unfold bk;rw [cK h]
 | .cd=>by unfold bk;rw [cK h]
 | .func .. =>by unfold bk;rw [cK h]
 | .yield _=>by unfold bk;rw [cK h]
 | .bN=>by unfold bk;rw [cK h]
 | .iface .. =>by unfold bk;rw [cK h]
 | .bu=>by unfold bk;rw [cK h]
 | .bad=>by unfold bk;rw [cK h]
 | .vl .. =>by unfold bk;rw [cK h]
 | .e0 _=>by unfold bk;rw [cK h]
 | .pe .. =>by unfold bk;rw [cK h]
 | .fb .. =>by unfold bk;rw [cK h]
theorem rn (h:E.ρ=E'.ρ): ∀l:List AV,@bI E l= @bI E' l
 |[]=>by unfold bI;rfl
 |v::vs=>by unfold bI;rw [uW h v,rn h vs]
end
theorem cb (h:E.ρ=E'.ρ) {v:AV} (ht: @oq E v): @oq E' v:=by
 unfold oq ev at ht⊢
 rw [←h]
 exact ht
theorem xO (h:E.ρ=E'.ρ): ∀{l:List AV},@kg E l→@kg E' l
 |[],_=>trivial
 |v::vs,ht=>⟨cb h ht.1,xO h ht.2⟩
mutual
theorem Fg (h:E.ρ=E'.ρ): ∀{v:AV},@cO E v→@cO E' v
 | .agg l,ht=>by unfold cO at ht⊢;exact xO h ht
 | .tuple l,ht=>by unfold cO at ht⊢;exact BT h ht
 | .bool b,ht=>by unfold cO at ht⊢;exact cb h ht
 | .int k m,ht=>by unfold cO at ht⊢;exact cb h ht
 | .str l,ht=>by unfold cO at ht⊢;exact cb h ht
 | .an,ht=>by unfold cO at ht⊢;exact cb h ht
 | .tm t x,ht=>by unfold cO at ht⊢;exact cb h ht
 | .float ..,ht=>by unfold cO at ht⊢;exact cb h ht
 | .ptr ..,ht=>by unfold cO at ht⊢;exact cb h ht
 | .bX,ht=>by unfold cO at ht⊢;exact cb h ht
 | .slice ..,ht=>by unfold cO at ht⊢;exact cb h ht
 | .map _,ht=>by unfold cO at ht⊢;exact cb h ht
 | .cd,ht=>by unfold cO at ht⊢;exact cb h ht
 | .func ..,ht=>by unfold cO at ht⊢;exact cb h ht
 | .yield _,ht=>by unfold cO at ht⊢;exact cb h ht
 | .bN,ht=>by unfold cO at ht⊢;exact cb h ht
 | .iface ..,ht=>by unfold cO at ht⊢;exact cb h ht
 | .bu,ht=>by unfold cO at ht⊢;exact cb h ht
 | .bad,ht=>by unfold cO at ht⊢;exact cb h ht
 | .vl ..,ht=>by unfold cO at ht⊢;exact cb h ht
 | .e0 _,ht=>by unfold cO at ht⊢;exact cb h ht
 | .pe ..,ht=>by unfold cO at ht⊢;exact cb h ht
 | .fb ..,ht=>by unfold cO at ht⊢;exact cb h ht
theorem BT (h:E.ρ=E'.ρ): ∀{l:List AV},@eW E l→@eW E' l
 |[],ht=>by unfold eW;trivial
 |v::vs,ht=>by unfold eW at ht⊢;exact ⟨Fg h ht.1,BT h ht.2⟩
end
end
structure LO where
 x:g9
 ao:aN
 so:St
 m:Nat
 v:AV
 rt:List Pos
 bl:List Pos
structure LD where
 f:FuncId
 p:Pos
 rd:Option Pos
 a0:aN
 s0:St
 k:Nat
 bo:List Pos
 outs:List LO
 call:Bool
 args:List AV
def PN (P:Program) (bs:List aY) (L:LD) (R:List D→Nat→List D→Prop):Prop:=
 ∀ins i outs,R ins i outs→∃o,L.outs[i]? =some o∧∀N c,cF P L.f L.p=some (.loop c)→gY (bf ins bs) (bf outs bs) P N L.rd c L.a0 L.s0 o.x o.ao o.so L.bo
def PO (P:Program) (bs:List aY) (L:LD) (R:List D→Nat→List D→Prop):Prop:=
 ∀ins i outs,R ins i outs→∃o,L.outs[i]? =some o∧rl (bf ins bs) (bf outs bs) P L.f L.args L.s0 o.v o.so L.bo
def dG (P:Program) (bs:List aY) (L:LD) (R:List D→Nat→List D→Prop):Prop:=cond L.call (PO P bs L R) (PN P bs L R)
abbrev lP:=FuncId×Option (TypeId×Nat)
def FnS (P:Program) (bs:List aY) (f:lP) (R:List DV→DV→Prop):Prop:=∀ds r,R ds r→PL P bs f.1 f.2 ds r
structure LU where
 L:LD
 q:List Tm
 o:LO
 n:Nat
noncomputable def Se (l:List Tm):Nat→Option Tm:=
 @Vu Tm (fun _=>Nat→Option Tm) (fun _=>none) (fun v _ ih i=>au (Vo i 0) (some v) (ih (Nat.pred i))) l
theorem Fh: ∀(l:List Tm) (i:Nat),Se l i=l[i]?
 |[],i=>rfl
 |v::l,0=>rfl
 |v::l,i+1=>by rw [X7,←Fh l i];rfl
mutual
noncomputable def k7 (q:List Tm):Tm→Option Tm
 | .var j=>Se q j
 | .op o l=>omap (pY q l) (.op o)
 | .int k n=>some (.int k n)
 | .bool b=>some (.bool b)
 | .str s=>some (.str s)
noncomputable def pY (q:List Tm):List Tm→Option (List Tm)
 |[]=>some []
 |x::l=>ab (k7 q x) fun y=>omap (pY q l) fun m=>y::m
end
mutual
theorem xP {ρ:Nat→D} {q:List Tm}: ∀{x y:Tm},k7 q x=some y→bh (dp (q.map (bh ρ))) x=bh ρ y
 | .var j,y,h=>by
  unfold k7 at h
  rw [Fh] at h
  rw [show bh (dp (q.map (bh ρ))) (.var j)=D.at (q.map (bh ρ)) j by unfold bh;rfl]
  unfold D.at
  rw [VV,h]
  rfl
 | .op o l,y,h=>by
  unfold k7 at h
  obtain ⟨m,hm,rfl⟩:=aO.1 h
  unfold bh
  rw [uX hm]
 | .int k n,y,h=>by unfold k7 at h;cases h;unfold bh;rfl
 | .bool b,y,h=>by unfold k7 at h;cases h;unfold bh;rfl
 | .str s,y,h=>by unfold k7 at h;cases h;unfold bh;rfl
theorem uX {ρ:Nat→D} {q:List Tm}: ∀{l m:List Tm},pY q l=some m→aL (dp (q.map (bh ρ))) l=aL ρ m
 |[],m,h=>by unfold pY at h;cases h;unfold aL;rfl
 |x::l,m,h=>by
  unfold pY at h
  obtain ⟨y,hy,h⟩:=aa.1 h
  obtain ⟨n,hn,rfl⟩:=aO.1 h
  unfold aL
  rw [xP hy,uX hn]
end
mutual
noncomputable def dZ (n:Nat):Tm→Tm
 | .var j=>.var (Nat.add n j)
 | .op o l=>.op o (pZ n l)
 | .int k i=>.int k i
 | .bool b=>.bool b
 | .str s=>.str s
noncomputable def pZ (n:Nat):List Tm→List Tm
 |[]=>[]
 |x::l=>dZ n x::pZ n l
end
mutual
theorem xQ {ρ ρ':Nat→D} {n m:Nat} (h: ∀j,j<m→ρ (n+j)=ρ' j): ∀{x:Tm},uU m x=true→bh ρ (dZ n x)=bh ρ' x
 | .var j,hx=>by unfold dZ bh;exact h j (VQ (by unfold uU at hx;exact hx))
 | .op o l,hx=>by unfold dZ bh;rw [uY h (by unfold uU at hx;exact hx)]
 | .int k i,hx=>by unfold dZ bh;rfl
 | .bool b,hx=>by unfold dZ bh;rfl
 | .str s,hx=>by unfold dZ bh;rfl
theorem uY {ρ ρ':Nat→D} {n m:Nat} (h: ∀j,j<m→ρ (n+j)=ρ' j): ∀{l:List Tm},mD m l=true→aL ρ (pZ n l)=aL ρ' l
 |[],hx=>by unfold pZ aL;rfl
 |x::l,hx=>by
  unfold mD at hx
  rw [V1] at hx
  unfold pZ aL
  rw [xQ h hx.1,uY h hx.2]
end
noncomputable def JI (q:List Tm) (x y:Tm):Bool:=@Vm Tm (fun _=>Bool) false (fun t=>cp t y) (k7 q x)
noncomputable def DN (q:List Tm):gX→Bool
 |[]=>true
 |e::l=>au (JI q e.1 e.2) (DN q l) false
noncomputable def DO (n m:Nat) (x y:Tm):Bool:=cp x (dZ n y)&&uU m y
noncomputable def BU (n m:Nat):gX→Bool
 |[]=>true
 |e::l=>au (DO n m e.1 e.2) (BU n m l) false
abbrev GY:=List (Pos×Pos)×List Pos
mutual
noncomputable def DP:AV→AV→GY→GY
 | .ptr b _,v,A=>(match v with | .ptr c _=>((b,c)::A.1,A.2) |_=>A)
 | .slice b _ _ _ _,v,A=>(match v with | .slice c _ _ _ _=>((b,c)::A.1,A.2) |_=>A)
 | .map b,v,A=>(match v with | .map c=>((b,c)::A.1,A.2) |_=>A)
 | .yield b,v,A=>(match v with | .yield c=>((b,c)::A.1,A.2) |_=>A)
 | .vl _ _ b,v,A=>(match v with | .vl _ _ c=>((b,c)::A.1,A.2) | .an=>(A.1,b::A.2) | .e0 _=>(A.1,b::A.2) | .slice _ _ _ _ _=>(A.1,b::A.2) |_=>A)
 | .pe _ b _ _,v,A=>(match v with | .pe _ c _ _=>((b,c)::A.1,A.2) |_=>A)
 | .func _ l m,v,A=>(match v with | .func _ l' m'=>sh l l' (sh m m' A) |_=>A)
 | .iface _ x,v,A=>(match v with | .iface _ y=>DP x y A |_=>A)
 | .agg l,v,A=>(match v with | .agg m=>sh l m A |_=>A)
 | .tuple l,v,A=>(match v with | .tuple m=>sh l m A |_=>A)
 |_,_,A=>A
noncomputable def sh:List AV→List AV→GY→GY
 |[],_,A=>A
 |x::l,m,A=>(match m with |y::m=>DP x y (sh l m A) |[]=>A)
end
noncomputable def prO (o p:Option AV) (A:GY):GY:=match o with |some x=>(match p with |some y=>DP x y A |none=>A) |none=>A
noncomputable def BV:Tr AV→Tr AV→GY→GY
 | .nil,_,A=>A
 | .node v l r,t,A=>prO v (uJ t) (BV l (yZ t) (BV r (sS t) A))
noncomputable def Sf:List (AV×AV)→List (AV×AV)→GY→GY
 |[],_,A=>A
 |x::l,m,A=>(match m with |y::m=>DP x.1 y.1 (DP x.2 y.2 (Sf l m A)) |[]=>A)
noncomputable def Sh (k k':aY) (A:GY):GY:=
 match k with
 | .cells _ _ _ (.o5 l)=>(match k' with | .cells _ _ _ (.o5 m)=>sh l m A |_=>A)
 | .map l=>(match k' with | .map m=>Sf l m A |_=>A)
 | .loop p=>(match k' with | .loop q=>BV p.tm q.tm ((p.defers,q.defers)::A.1,A.2) |_=>A)
 | .eE _ _ _ _ _ v=>(match k' with | .eE _ _ _ _ _ u=>DP v u A |_=>A)
 |_=>A
noncomputable def y7 (G:Nat):List (Pos×Pos):=@Nat.rec (fun _=>List (Pos×Pos)) [] (fun k ih=>(pos k,pos k)::ih) G
noncomputable def Uy (s0 s:St):Nat→List (Pos×Pos)→List (Pos×Pos)→List Pos→iD
 |0,_,r,z=>⟨r,z⟩
 |n+1,t,r,z=>(match t with
  |[]=>⟨r,z⟩
  |x::t=>(match bR r x.1 with
   |some _=>Uy s0 s n t r z
   |none=>(match s0.h.get x.1 with
    |some k=>(match s.h.get x.2 with
     |some k'=>(match Sh k k' ([],[]) with |(t',z')=>Uy s0 s n (t'++t) (x::r) (z'++z))
     |none=>⟨r,z⟩)
    |none=>⟨r,z⟩)))
noncomputable def ot (G:Nat) (rt:List Pos) (s0 s:St) (A:GY):iD:=Uy s0 s 300 (rt.map (fun b=>(b,b))++A.1) (y7 G) A.2
noncomputable def T5 (bo:List Pos) (ν:iD):List Pos→Pos→List (Pos×Pos)×Pos
 |[],n=>([],n)
 |b::l,n=>(match au (gM bo b) (bR ν.r b) none with
  |some c=>(match T5 bo ν l n with |(q,m)=>((b,c)::q,m))
  |none=>(match T5 bo ν l n.succ with |(q,m)=>((b,n)::q,m)))
noncomputable def si (r:List (Pos×Pos)) (b:Pos):Pos:=match bR r b with |some c=>c |none=>b
mutual
noncomputable def ou (r:List (Pos×Pos)) (n:Nat):AV→AV
 | .ptr b o=>.ptr (si r b) o
 | .slice b o m l w=>.slice (si r b) o m l w
 | .map b=>.map (si r b)
 | .yield b=>.yield (si r b)
 | .func f l m=>.func f (na r n l) (na r n m)
 | .iface t x=>.iface t (ou r n x)
 | .agg l=>.agg (na r n l)
 | .tuple l=>.tuple (na r n l)
 | .tm t x=>.tm t (dZ n x)
 | .vl ts m b=>.vl ts (dZ n m) (si r b)
 | .pe ts b i o=>.pe ts (si r b) (dZ n i) o
 | .fb x=>.fb (dZ n x)
 |v=>v
noncomputable def na (r:List (Pos×Pos)) (n:Nat):List AV→List AV
 |[]=>[]
 |x::l=>ou r n x::na r n l
end
noncomputable def y8 (r:List (Pos×Pos)) (n:Nat):Tr AV→Tr AV
 | .nil=>.nil
 | .node v a b=>.node (match v with |some x=>some (ou r n x) |none=>none) (y8 r n a) (y8 r n b)
noncomputable def MP (r:List (Pos×Pos)) (n:Nat) (k:aY):aY:=
 match k with
 | .cells o t m (.o5 l)=>.cells o t m (.o5 (na r n l))
 | .map l=>.map (l.map fun x=>(ou r n x.1,ou r n x.2))
 | .vec o t ts m x=>.vec o t ts (dZ n m) (dZ n x)
 | .bY g kt ts x=>.bY g kt ts (dZ n x)
 | .eE t ts m x i v=>.eE t ts (dZ n m) (dZ n x) (dZ n i) (ou r n v)
 | .loop p=>.loop {p with tm:=y8 r n p.tm,defers:=si r p.defers}
 |k=>k
noncomputable def p0 (r:List (Pos×Pos)) (n:Nat) (so:St):List Pos→List (Pos×aY)
 |[]=>[]
 |b::l=>(match so.h.get b with |some k=>(si r b,MP r n k)::p0 r n so l |none=>p0 r n so l)
noncomputable def p8 (G:Nat) (r:List (Pos×Pos)):List (Pos×Pos)→List (Pos×aY)
 |[]=>[]
 |x::l=>au (au (GV x.2 r) true (Vv (Nat.succ (wq x.2)) G)) (p8 G r l) ((x.2,.dead)::p8 G r l)
noncomputable def N4 (l:List (Pos×Pos)):List (Pos×Pos):=l.map fun x=>(x.2,x.1)
noncomputable def MQ (G:Nat) (u:LU) (rd:Option Pos) (a:aN) (s:St):Option Out:=
 match ot G [] u.L.s0 s (BV u.L.a0.tm a.tm ([],[])) with
 |ν=>(match T5 u.L.bo ν u.o.bl s.n with
  |(r,n1)=>(match p0 r u.n u.o.so u.o.bl++p8 G r ν.r with
   |rows=>(match (⟨N4 r++y7 G,[]⟩:iD),aN.mk (y8 r u.n u.o.ao.tm) u.o.ao.n [] none with
    |ν',a1=>ab (da G ν u.L.rd rd u.L.a0 u.L.s0 a s) fun qq=>au (DN u.q qq) (ab (rh G u.L.bo ν ν' s u.o.ao u.o.so a1 rows n1) fun q'=>au (BU u.n u.o.m q') (some (.at u.o.x a1 (iW s rows n1))) none) none)))
noncomputable def DQ (G:Nat) (u:LU) (args:List AV) (s:St):Option fj:=
 match ot G [] u.L.s0 s (sh u.L.args args ([],[])) with
 |ν=>(match T5 u.L.bo ν u.o.bl s.n with
  |(r,n1)=>(match p0 r u.n u.o.so u.o.bl++p8 G r ν.r with
   |rows=>(match (⟨N4 r++y7 G,[]⟩:iD),ou r u.n u.o.v with
    |ν',v=>ab (gN (cX ν u.L.args args) (da G ν none none aN.none u.L.s0 aN.none s)) fun qq=>au (DN u.q qq) (ab (gN (bE ν' v u.o.v) (rh G u.L.bo ν ν' s aN.none u.o.so aN.none rows n1)) fun q'=>au (BU u.n u.o.m q') (some (.gen v (iW s rows n1))) none) none)))
noncomputable def PQ (G:Nat) [Gam] (u:LU) (args:List AV) (s:St):Option fj:=ab (dg args s) fun q=>DQ G u q.1 q.2
noncomputable def k8 (els o:Option fj):Option fj:=@Vm fj (fun _=>Option fj) els (fun x=>some x) o
noncomputable def DS (G:Nat) [Gam] (l:List LU) (f:FuncId) (args:List AV) (s:St):Option fj:=
 @Vu LU (fun _=>Option fj) none (fun u _ ih=>au (u.L.call&&Vo u.L.f f) (k8 (k8 ih (PQ G u args s)) (DQ G u args s)) ih) l
noncomputable def p9 (G:Nat) [Gam] (cl:List rS) (ll:List LU) (f:FuncId) (args:List AV) (s:St):Option fj:=k8 (DS G ll f args s) (wv cl f args s)
noncomputable def z2 (G:Nat) (l:List LU):Hk:=fun f p rd a s=>
 @Vu LU (fun _=>Option Out) none (fun u _ ih=>au (!u.L.call&&(Vo u.L.f f&&lG u.L.p p)) (rQ ih (MQ G u rd a s)) ih) l
section
variable {P:Program} {bs:List aY}
def y9 (P:Program) (bs:List aY) (ρ:Nat→D) (u:LU):Prop:=
 kc u.o.x=true∧∃outs:List D,(∀j,j<u.o.m→ρ (u.n+j)=D.at outs j)∧cond u.L.call (rl (bf (u.q.map (bh ρ)) bs) (bf outs bs) P u.L.f u.L.args u.L.s0 u.o.v u.o.so u.L.bo)
  (∀N c,cF P u.L.f u.L.p=some (.loop c)→gY (bf (u.q.map (bh ρ)) bs) (bf outs bs) P N u.L.rd c u.L.a0 u.L.s0 u.o.x u.o.ao u.o.so u.L.bo)
theorem dR {E:Env} {q:List Tm}: ∀{qq:gX},DN q qq=true→bL E (bf (q.map (bh E.ρ)) bs) qq
 |[],_=>fun p hp=>by cases hp
 |e::l,h=>by
  obtain ⟨h1,h2⟩:=bB (show au (JI q e.1 e.2) (DN q l) false=true from h)
  intro p hp
  rcases List.mem_cons.1 hp with rfl |hp
  ·show bh (dp (q.map (bh E.ρ))) p.1=bh E.ρ p.2
   unfold JI at h1
   cases hs:k7 q p.1 with
   |none=>rw [hs] at h1;cases h1
   |some t=>
    rw [hs] at h1
    rw [xP hs,cI (show cp t p.2=true from h1)]
  ·exact dR h2 p hp
theorem mE {E:Env} {outs:List D} {n m:Nat} (ho: ∀j,j<m→E.ρ (n+j)=D.at outs j): ∀{qq:gX},BU n m qq=true→bL (bf outs bs) E qq
 |[],_=>fun p hp=>by cases hp
 |e::l,h=>by
  obtain ⟨h1,h2⟩:=bB (show au (DO n m e.1 e.2) (BU n m l) false=true from h)
  intro p hp
  rcases List.mem_cons.1 hp with rfl |hp
  ·show bh E.ρ p.1=bh (dp outs) p.2
   unfold DO at h1
   rw [V1] at h1
   rw [cI h1.1]
   exact xQ ho h1.2
  ·exact mE ho h2 p hp
theorem JJ {E:Env} (hn: @Env.n E=bs.length) (hb: @Env.base E=ke bs) (h0:0<bs.length) (hG0:0<P.globals.size) {N:Nat}: ∀{l:List LU},(∀u∈l,y9 P bs E.ρ u)→@sE E P N (@z2 P.globals.size l)
 |[],h=>fun f p rd a s o ho=>by cases ho
 |u::l,h=>by
  intro f p rd a s o ho c hc
  have ih:=JJ hn hb h0 hG0 (N:=N) (l:=l) fun x hx=>h x (V3 _ hx)
  replace ho:au (!u.L.call&&(Vo u.L.f f&&lG u.L.p p)) (rQ (z2 P.globals.size l f p rd a s) (MQ P.globals.size u rd a s)) (z2 P.globals.size l f p rd a s)=some o:=ho
  cases hm:(!u.L.call&&(Vo u.L.f f&&lG u.L.p p)) with
  |false=>rw [hm] at ho;exact ih f p rd a s o ho c hc
  |true=>
   rw [hm] at ho
   simp only [V1,Bool.not_eq_true'] at hm
   obtain ⟨hcall,e1,e2⟩:=hm
   have e1:=VN e1
   have e2:=dN e2
   rcases nY (show rQ (z2 P.globals.size l f p rd a s) (MQ P.globals.size u rd a s)=some o from ho) with ho |ho
   ·unfold MQ at ho
    obtain ⟨qq,h1,ho⟩:=aa.1 ho
    obtain ⟨h2,ho⟩:=aj.1 ho
    obtain ⟨q',h3,ho⟩:=aa.1 ho
    obtain ⟨h4,ho⟩:=aj.1 ho
    cases ho
    obtain ⟨v0,outs,v1,v2⟩:=h u (V2 ..)
    rw [hcall] at v2
    subst e1 e2
    have hA: ∀l:List D,Alike E (bf l bs):=fun l=>⟨hn.symm,hb.symm,by rw [hn];exact h0⟩
    exact JB (E:=E) (E2:=bf (u.q.map (bh E.ρ)) bs) (E':=bf outs bs) hG0 (hA _) (hA _) v0 h1 (dR h2) h3 (mE v1 h4) (v2 N c hc)
   ·exact ih f p rd a s o ho c hc
theorem mF {els o:Option fj} {r:fj} (h:k8 els o=some r):o=some r∨els=some r:=by
 cases o with
 |none=>exact .inr h
 |some x=>exact .inl h
theorem Fj {E:Env} (hn: @Env.n E=bs.length) (hb: @Env.base E=ke bs) (h0:0<bs.length) (hG0:0<P.globals.size) {u:LU} (hv:y9 P bs E.ρ u) (hcall:u.L.call=true) {args:List AV} {s:St} {o:fj} (ho:DQ P.globals.size u args s=some o):
 (∃fn c,P.funcs[u.L.f]? =some fn∧fn.body=some c)∧∃v s',o= .gen v s'∧∀N μ w cs us,@SR E P N μ s w→@b8 E P μ args us→@lK E P N (.norm cs) u.L.f (lone (Frame.enter P u.L.f us.toArray .normal) cs w) μ s w (o.out s):=by
 unfold DQ at ho
 obtain ⟨qq,h1,ho⟩:=aa.1 ho
 obtain ⟨h2,ho⟩:=aj.1 ho
 obtain ⟨q',h3,ho⟩:=aa.1 ho
 obtain ⟨h4,ho⟩:=aj.1 ho
 cases ho
 obtain ⟨v0,outs,v1,v2⟩:=hv
 rw [hcall] at v2
 have hA: ∀l:List D,Alike E (bf l bs):=fun l=>⟨hn.symm,hb.symm,by rw [hn];exact h0⟩
 obtain ⟨qa,qs,w1,w2,rfl⟩:=cg h1
 obtain ⟨qv,qo,w3,w4,rfl⟩:=cg h3
 have hi:=dR (bs:=bs) (E:=E) h2
 have ho:=mE (bs:=bs) (E:=E) v1 h4
 have:=JG (E:=E) (E2:=bf (u.q.map (bh E.ρ)) bs) (E':=bf outs bs) hG0 (hA _) (hA _) w1 hi.left w2 hi.right w3 ho.left w4 ho.right v2
 exact ⟨this.1,_,_,rfl,this.2⟩
theorem Fk {E:Env} (hn: @Env.n E=bs.length) (hb: @Env.base E=ke bs) (h0:0<bs.length) (hG0:0<P.globals.size): ∀{l:List LU},(∀u∈l,y9 P bs E.ρ u)→@jW E P (@DS P.globals.size E.toGam l)
 |[],h=>fun f args s o ho=>by cases ho
 |u::l,h=>by
  intro f args s o ho
  have ih:=Fk hn hb h0 hG0 (l:=l) (fun x hx=>h x (V3 _ hx)) f args s o
  replace ho:au (u.L.call&&Vo u.L.f f) (k8 (k8 (@DS P.globals.size E.toGam l f args s) (@PQ P.globals.size E.toGam u args s)) (DQ P.globals.size u args s)) (@DS P.globals.size E.toGam l f args s)=some o:=ho
  cases hm:(u.L.call&&Vo u.L.f f) with
  |false=>rw [hm] at ho;exact ih ho
  |true=>
   rw [hm] at ho
   simp only [V1] at hm
   obtain ⟨hcall,e1⟩:=hm
   have e1:=VN e1
   subst e1
   rcases mF (show k8 (k8 (@DS P.globals.size E.toGam l u.L.f args s) (@PQ P.globals.size E.toGam u args s)) (DQ P.globals.size u args s)=some o from ho) with ho |ho
   ·obtain ⟨h1,v,s',rfl,h2⟩:=Fj hn hb h0 hG0 (h u (V2 ..)) hcall ho
    exact ⟨h1,h2⟩
   ·rcases mF ho with ho |ho
    ·obtain ⟨⟨args',s1⟩,hf,ho⟩:=aa.1 (show ab (@dg E.toGam args s) (fun q=>DQ P.globals.size u q.1 q.2)=some o from ho)
     obtain ⟨h1,v,s',rfl,h2⟩:=Fj hn hb h0 hG0 (h u (V2 ..)) hcall ho
     refine ⟨h1,fun N μ w cs us hs ha=>?_⟩
     obtain ⟨fz1,g1,n1,ha1⟩:=@eO E _ _ _ _ _ _ _ _ _ hs ha hf
     obtain ⟨μ',w',u',V,fr,q1,q2,q3,q4,q5,q6,q7⟩:=h2 N _ w cs us (@bF.sr E _ _ _ _ _ _ _ _ g1) ha1
     exact ⟨μ',w',u',V,fr,@bF.trans E _ _ _ _ _ _ _ _ _ _ _ g1 q1,q2,q3,q4,q5,q6,q7⟩
    ·exact ih ho
theorem MS {E:Env} {cl:List rS} {ll:List LU} (h1: @jW E P (@DS P.globals.size E.toGam ll)) (h2: @jW E P (@wv E.toGam cl)): @jW E P (@p9 P.globals.size E.toGam cl ll):=by
 intro f args s x hx
 rcases mF (show k8 (@DS P.globals.size E.toGam ll f args s) (@wv E.toGam cl f args s)=some x from hx) with h |h
 ·exact h2 f args s x h
 ·exact h1 f args s x h
end
mutual
inductive PT where
 |ret (v:AV)
 |dead
 |next (q:List Tm)
 |exit (i:Nat) (q:List Tm)
 |split (c:Tm) (y n:PT)
 |call (i:Nat) (args:List AV) (v:AV) (k:Nat) (nx:PT)
 |loop (i:Nat) (q:List Tm) (b:GZ)
inductive GZ where
 |nil
 |cons (m:Nat) (nx:PT) (b:GZ)
end
mutual
def sF:PT→Nat→Bool
 | .ret v,n=>rm n v
 | .dead,n=>true
 | .next q,n=>mD n q
 | .exit _ q,n=>mD n q
 | .split c y z,n=>uU n c&&(sF y n&&sF z n)
 | .call _ args v k nx,n=>jt n args&&(rm (n+k) v&&sF nx (n+k))
 | .loop _ q b,n=>mD n q&&JK b n
def JK:GZ→Nat→Bool
 | .nil,_=>true
 | .cons m nx b,n=>sF nx (n+m)&&JK b n
end
inductive k9 where
 |ret (r:DV)
 |next (ins:List D)
 |exit (i:Nat) (outs:List D)
mutual
def aI:DV→List D
 | .c d=>[d]
 | .agg l=>l
 | .jO l=>aR l
def aR:List DV→List D
 |[]=>[]
 |v::vs=>aI v++aR vs
end
section
variable (bs:List aY) (F:List (List DV→DV→Prop)) (L:List (List D→Nat→List D→Prop))
mutual
def iE:PT→List D→List D→k9→Prop
 | .ret v,l,l',o=>l'=l∧∃r,@bk (bf l bs) v=some r∧o= .ret r
 | .dead,_,_,_=>False
 | .next q,l,l',o=>l'=l∧o= .next (q.map (bh (dp l)))
 | .exit i q,l,l',o=>l'=l∧o= .exit i (q.map (bh (dp l)))
 | .split c y n,l,l',o=>(bh (dp l) c= .bool true∧iE y l l' o)∨(bh (dp l) c= .bool false∧iE n l l' o)
 | .call i args v k nx,l,l',o=>∃R ds r,F[i]? =some R∧@bI (bf l bs) args=some ds∧R ds r∧(aI r).length=k∧@bk (bf (l++aI r) bs) v=some r∧@cO (bf (l++aI r) bs) v∧iE nx (l++aI r) l' o
 | .loop i q b,l,l',o=>∃R j outs,L[i]? =some R∧R (q.map (bh (dp l))) j outs∧zc b j outs l l' o
def zc:GZ→Nat→List D→List D→List D→k9→Prop
 | .nil,_,_,_,_,_=>False
 | .cons m nx _,0,outs,l,l',o=>outs.length=m∧iE nx (l++outs) l' o
 | .cons _ _ b,j+1,outs,l,l',o=>zc b j outs l l' o
end
mutual
def Sat:PT→Nat→List D→k9→Prop
 | .ret v,_,l,o=>∃r,o= .ret r∧@bk (bf l bs) v=some r
 | .dead,_,l,o=>False
 | .next q,_,l,o=>o= .next (q.map (bh (dp l)))
 | .exit i q,_,l,o=>o= .exit i (q.map (bh (dp l)))
 | .split c y z,n,l,o=>(bh (dp l) c= .bool true∧Sat y n l o)∨(bh (dp l) c= .bool false∧Sat z n l o)
 | .call i args v k nx,n,l,o=>(∃R ds r,F[i]? =some R∧@bI (bf l bs) args=some ds∧R ds r∧@bk (bf l bs) v=some r∧@cO (bf l bs) v)∧Sat nx (n+k) l o
 | .loop i q b,n,l,o=>∃R j outs,L[i]? =some R∧R (q.map (bh (dp l))) j outs∧(∀i,i<outs.length→dp l (n+i)=D.at outs i)∧qc b j outs n l o
def qc:GZ→Nat→List D→Nat→List D→k9→Prop
 | .nil,_,_,_,_,_=>False
 | .cons m nx _,0,outs,n,l,o=>outs.length=m∧Sat nx (n+m) l o
 | .cons _ _ b,j+1,outs,n,l,o=>qc b j outs n l o
end
end
section
variable {bs:List aY} {F:List (List DV→DV→Prop)} {L:List (List D→Nat→List D→Prop)}
theorem BW {ρ ρ':Nat→D} {n:Nat} (h: ∀i,i<n→ρ i=ρ' i): ∀{q:List Tm},mD n q=true→q.map (bh ρ)=q.map (bh ρ')
 |[],_=>rfl
 |x::q,hq=>by
  unfold mD at hq
  rw [V1] at hq
  rw [List.map_cons,List.map_cons,kZ h hq.1,BW h hq.2]
mutual
theorem dh: ∀{t:PT} {l l':List D} {o:k9},iE bs F L t l l' o→sF t l.length=true→Sat bs F L t l.length l' o∧∃r,l'=l++r
 | .ret v,l,l',o,h,ht=>by
  unfold iE at h
  obtain ⟨rfl,r,h1,rfl⟩:=h
  unfold Sat
  exact ⟨⟨r,rfl,h1⟩,[],(XZ _).symm⟩
 | .dead,l,l',o,h,ht=>by unfold iE at h;exact h.elim
 | .next q,l,l',o,h,ht=>by
  unfold iE at h
  obtain ⟨rfl,rfl⟩:=h
  unfold Sat
  exact ⟨rfl,[],(XZ _).symm⟩
 | .exit i q,l,l',o,h,ht=>by
  unfold iE at h
  obtain ⟨rfl,rfl⟩:=h
  unfold Sat
  exact ⟨rfl,[],(XZ _).symm⟩
 | .split c y z,l,l',o,h,ht=>by
  unfold iE at h
  unfold sF at ht
  rw [V1,V1] at ht
  unfold Sat
  rcases h with ⟨hc,h⟩ |⟨hc,h⟩
  ·obtain ⟨h1,r,rfl⟩:=dh h ht.2.1
   exact ⟨.inl ⟨(kZ (fun i hi=>dQ hi) ht.1).symm.trans hc,h1⟩,r,rfl⟩
  ·obtain ⟨h1,r,rfl⟩:=dh h ht.2.2
   exact ⟨.inr ⟨(kZ (fun i hi=>dQ hi) ht.1).symm.trans hc,h1⟩,r,rfl⟩
 | .call i args v k nx,l,l',o,h,ht=>by
  unfold iE at h
  unfold sF at ht
  rw [V1,V1] at ht
  unfold Sat
  obtain ⟨R,ds,r,h1,h2,h3,g1,g2,g3,h⟩:=h
  have hl:(l++aI r).length=l.length+k:=by rw [V7,g1]
  obtain ⟨q1,r',rfl⟩:=dh h (by rw [hl];exact ht.2.2)
  rw [hl] at q1
  have hext: ∀i,i<l.length→(bf l bs).ρ i=(bf (l++aI r++r') bs).ρ i:=fun i hi=>by
   show dp l i=dp (l++aI r++r') i
   rw [dQ (m:=aI r) hi,dQ (m:=r') (by rw [V7];omega)]
  have hext2: ∀i,i<l.length+k→(bf (l++aI r) bs).ρ i=(bf (l++aI r++r') bs).ρ i:=fun i hi=>by
   show dp (l++aI r) i=dp (l++aI r++r') i
   exact dQ (by rw [hl];exact hi)
  exact ⟨⟨⟨R,ds,r,h1,(m9 hext ht.1).symm.trans h2,h3,(BQ hext2 ht.2.1).symm.trans g2,Ff hext2 ht.2.1 g3⟩,q1⟩,aI r++r',by rw [Xh]⟩
 | .loop i q b,l,l',o,h,ht=>by
  unfold iE at h
  unfold sF at ht
  rw [V1] at ht
  unfold Sat
  obtain ⟨R,j,outs,h1,h2,h⟩:=h
  obtain ⟨r',rfl,q1⟩:=nB h ht.2
  refine ⟨⟨R,j,outs,h1,?_,fun i hi=>?_,q1⟩,outs++r',by rw [Xh]⟩
  ·rw [BW (ρ:=dp (l++outs++r')) (ρ':=dp l) (fun i hi=>?_) ht.1]
   ·exact h2
   ·rw [Xh]
    exact (dQ hi).symm
  ·rw [Xh,JH]
   exact (dQ (l:=outs) (m:=r') hi).symm
theorem nB: ∀{b:GZ} {j:Nat} {outs l l':List D} {o:k9},zc bs F L b j outs l l' o→JK b l.length=true→∃r,l'=l++outs++r∧qc bs F L b j outs l.length l' o
 | .nil,j,outs,l,l',o,h,ht=>by unfold zc at h;exact h.elim
 | .cons m nx b,0,outs,l,l',o,h,ht=>by
  unfold zc at h
  unfold JK at ht
  rw [V1] at ht
  obtain ⟨hm,h⟩:=h
  have hl:(l++outs).length=l.length+m:=by rw [V7,hm]
  obtain ⟨q1,r',rfl⟩:=dh h (by rw [hl];exact ht.1)
  rw [hl] at q1
  exact ⟨r',rfl,by unfold qc;exact ⟨hm,q1⟩⟩
 | .cons m nx b,j+1,outs,l,l',o,h,ht=>by
  unfold zc at h
  unfold JK at ht
  rw [V1] at ht
  obtain ⟨r',e,q1⟩:=nB h ht.2
  exact ⟨r',e,by unfold qc;exact q1⟩
end
end
end
section
open Go Go.RowKit
@[reducible] noncomputable def dA (md:Bool) (l:List D) (g:List (Tm×Bool)) (h: ∀c∈g,bh (dp l) c.1= .bool c.2) (bs:List aY):Env:=N1 md (dp l) g h bs
structure Acc where
 g:List (Tm×Bool)
 cl:List rS
 ll:List LU
def MT:Acc:=⟨[],[],[]⟩
section
variable (fids:List lP) (lds:List LD) (leaf:Acc→PT→Bool)
mutual
noncomputable def ov:PT→Nat→Acc→Bool
 | .split c y z,n,A=>au (ov y n ⟨(c,true)::A.g,A.cl,A.ll⟩) (ov z n ⟨(c,false)::A.g,A.cl,A.ll⟩) false
 | .call i args v k nx,n,A=>(match fids[i]? with |some f=>ov nx (n+k) ⟨A.g,(f.1,args,v,f.2)::A.cl,A.ll⟩ |none=>false)
 | .loop i q b,n,A=>(match lds[i]? with |some L=>BX L q b L.outs n A |none=>false)
 | .ret v,_,A=>leaf A (.ret v)
 | .dead,_,A=>true
 | .next q,_,A=>leaf A (.next q)
 | .exit i q,_,A=>leaf A (.exit i q)
noncomputable def BX (L:LD) (q:List Tm):GZ→List LO→Nat→Acc→Bool
 | .nil,_,_,_=>true
 | .cons m nx b,os,n,A=>(match os with
  |[]=>false
  |o::os=>au (kc o.x&&Vo m o.m) (au (ov nx (n+m) ⟨A.g,A.cl,⟨L,q,o,n⟩::A.ll⟩) (BX L q b os n A) false) false)
end
end
section
variable {P:Program} {bs:List aY} {fids:List lP} {lds:List LD} {leaf:Acc→PT→Bool} {F:List (List DV→DV→Prop)} {S:List (List D→Nat→List D→Prop)}
structure uZ (P:Program) (bs:List aY) (l:List D) (A:Acc):Prop where
 g: ∀c∈A.g,bh (dp l) c.1= .bool c.2
 cl: ∀x∈A.cl,∃ds r,PL P bs x.1 x.2.2.2 ds r∧@bI (bf l bs) x.2.1=some ds∧@bk (bf l bs) x.2.2.1=some r∧@cO (bf l bs) x.2.2.1
 ll: ∀u∈A.ll,y9 P bs (dp l) u
structure Uses (P:Program) (bs:List aY) (fids:List lP) (lds:List LD) (F:List (List DV→DV→Prop)) (S:List (List D→Nat→List D→Prop)):Prop where
 fn: ∀(i:Nat) (f:lP) (G:List DV→DV→Prop),fids[i]? =some f→F[i]? =some G→FnS P bs f G
 loop: ∀(i:Nat) (L:LD) (G:List D→Nat→List D→Prop),lds[i]? =some L→S[i]? =some G→dG P bs L G
mutual
theorem di (hU:Uses P bs fids lds F S): ∀{t:PT} {n:Nat} {A:Acc} {l:List D} {o:k9},ov fids lds leaf t n A=true→Sat bs F S t n l o→uZ P bs l A→
 ∃A' t',uZ P bs l A'∧leaf A' t'=true∧((∃v,t'= .ret v)∨(∃q,t'= .next q)∨∃i q,t'= .exit i q)∧Sat bs F S t' 0 l o
 | .ret v,n,A,l,o,h,hs,hA=>⟨A,.ret v,hA,by unfold ov at h;exact h,.inl ⟨v,rfl⟩,by unfold Sat at hs⊢;exact hs⟩
 | .dead,n,A,l,o,h,hs,hA=>by unfold Sat at hs;exact hs.elim
 | .next q,n,A,l,o,h,hs,hA=>⟨A,.next q,hA,by unfold ov at h;exact h,.inr (.inl ⟨q,rfl⟩),by unfold Sat at hs⊢;exact hs⟩
 | .exit i q,n,A,l,o,h,hs,hA=>⟨A,.exit i q,hA,by unfold ov at h;exact h,.inr (.inr ⟨i,q,rfl⟩),by unfold Sat at hs⊢;exact hs⟩
 | .split c y z,n,A,l,o,h,hs,hA=>by
  unfold ov at h
  unfold Sat at hs
  obtain ⟨h1,h2⟩:=bB h
  rcases hs with ⟨hc,hs⟩ |⟨hc,hs⟩
  ·exact di hU h1 hs ⟨fun c' hc'=>by rcases List.mem_cons.1 hc' with rfl |hc'<;>first |exact hc |exact hA.g c' hc',hA.cl,hA.ll⟩
  ·exact di hU h2 hs ⟨fun c' hc'=>by rcases List.mem_cons.1 hc' with rfl |hc'<;>first |exact hc |exact hA.g c' hc',hA.cl,hA.ll⟩
 | .call i args v k nx,n,A,l,o,h,hs,hA=>by
  unfold ov at h
  unfold Sat at hs
  obtain ⟨⟨G,ds,r,h1,h2,h3,h4,h5⟩,hs⟩:=hs
  cases hf:fids[i]? with
  |none=>rw [hf] at h;cases h
  |some f=>
   rw [hf] at h
   exact di hU h hs ⟨hA.g,fun x hx=>by rcases List.mem_cons.1 hx with rfl |hx<;>first |exact ⟨ds,r,hU.fn i f G hf h1 ds r h3,h2,h4,h5⟩ |exact hA.cl x hx,hA.ll⟩
 | .loop i q b,n,A,l,o,h,hs,hA=>by
  unfold ov at h
  unfold Sat at hs
  obtain ⟨G,j,outs,h1,h2,h3,hs⟩:=hs
  cases hf:lds[i]? with
  |none=>rw [hf] at h;cases h
  |some L=>
   rw [hf] at h
   have hT:=hU.loop i L G hf h1
   unfold dG at hT
   obtain ⟨o',h4,h5⟩: ∃o',L.outs[j]? =some o'∧cond L.call (rl (bf (q.map (bh (dp l))) bs) (bf outs bs) P L.f L.args L.s0 o'.v o'.so L.bo) (∀N c,cF P L.f L.p=some (.loop c)→gY (bf (q.map (bh (dp l))) bs) (bf outs bs) P N L.rd c L.a0 L.s0 o'.x o'.ao o'.so L.bo):=by
    cases hc:L.call with
    |true=>rw [hc] at hT;exact hT _ _ _ h2
    |false=>rw [hc] at hT;exact hT _ _ _ h2
   exact qd hU h hs hA h3 h4 h5
theorem qd (hU:Uses P bs fids lds F S) {L:LD} {q:List Tm} {outs:List D} {o':LO}: ∀{b:GZ} {os:List LO} {j n:Nat} {A:Acc} {l:List D} {o:k9},BX fids lds leaf L q b os n A=true→qc bs F S b j outs n l o→uZ P bs l A→
 (∀i,i<outs.length→dp l (n+i)=D.at outs i)→os[j]? =some o'→cond L.call (rl (bf (q.map (bh (dp l))) bs) (bf outs bs) P L.f L.args L.s0 o'.v o'.so L.bo) (∀N c,cF P L.f L.p=some (.loop c)→gY (bf (q.map (bh (dp l))) bs) (bf outs bs) P N L.rd c L.a0 L.s0 o'.x o'.ao o'.so L.bo)→
 ∃A' t',uZ P bs l A'∧leaf A' t'=true∧((∃v,t'= .ret v)∨(∃q,t'= .next q)∨∃i q,t'= .exit i q)∧Sat bs F S t' 0 l o
 | .nil,os,j,n,A,l,o,h,hs,hA,h3,h4,h5=>by unfold qc at hs;exact hs.elim
 | .cons m nx b,os,0,n,A,l,o,h,hs,hA,h3,h4,h5=>by
  unfold BX at h
  unfold qc at hs
  cases os with
  |nil=>cases h
  |cons o2 os=>
   cases h4
   obtain ⟨g1,g2⟩:=bB h
   obtain ⟨g3,g4⟩:=bB g2
   rw [V1] at g1
   have hm:=VN g1.2
   exact di hU g3 hs.2 ⟨hA.g,hA.cl,fun u hu=>by
    rcases List.mem_cons.1 hu with rfl |hu
    ·exact ⟨g1.1,outs,fun j hj=>h3 j (by rw [hs.1,hm];exact hj),h5⟩
    ·exact hA.ll u hu⟩
 | .cons m nx b,os,j+1,n,A,l,o,h,hs,hA,h3,h4,h5=>by
  unfold BX at h
  unfold qc at hs
  cases os with
  |nil=>cases h
  |cons o2 os=>
   obtain ⟨g1,g2⟩:=bB h
   obtain ⟨g3,g4⟩:=bB g2
   exact qd hU g4 hs hA h3 (by rw [X7] at h4;exact h4) h5
end
end
section
variable (P:Program) (bs:List aY) (fuel:Nat) (f:FuncId) (args:List AV)
noncomputable def N5 [Gam] (s1:St) (v2:AV) (v:AV):Bool:=@Vm AV (fun _=>Bool) false (fun x=>sD 40 x v2) (ja P s1 v)
noncomputable def DT [Gam] (v2:AV):Option Out→Bool
 |some (.fin (.returned v) _ s1)=>N5 P s1 v2 v
 |_=>false
noncomputable def PR (md:Bool) (A:Acc):PT→Bool
 | .ret v2=>@DT P ⟨A.g,md⟩ v2 (@run ⟨A.g,md⟩ P ⟨@p9 P.globals.size ⟨A.g,md⟩ A.cl A.ll,z2 P.globals.size A.ll⟩ fuel (.call f args none) aN.none (nM bs))
 |_=>false
noncomputable def bt (fids:List lP) (lds:List LD) (t:PT) (n:Nat):Bool:=ov fids lds (PR P bs fuel f args (Vv 1 n)) t n MT&&(sF t n&&jt n args)
end
section
variable {P:Program} {bs:List aY} {fuel:Nat} {f:FuncId} {args:List AV} {fids:List lP} {lds:List LD} {F:List (List DV→DV→Prop)} {S:List (List D→Nat→List D→Prop)}
theorem ld {md:Bool} (hB:bs.length=P.globals.size) (h0:0<P.globals.size) {l:List D} {A:Acc} (hA:uZ P bs l A): @jW (dA md l A.g hA.g bs) P (@p9 P.globals.size ⟨A.g,md⟩ A.cl A.ll):=by
 refine MS (E:=dA md l A.g hA.g bs) (Fk (E:=dA md l A.g hA.g bs) rfl rfl (hB▸h0) h0 hA.ll) (@MN (dA md l A.g hA.g bs) P h0 A.cl fun x hx=>?_)
 obtain ⟨ds,r,h1,h2,h3,h4⟩:=hA.cl x hx
 exact ⟨bs,ds,r,⟨rfl,hB,fun w h=>h⟩,h1,(rn (E:=dA md l A.g hA.g bs) (E':=bf l bs) rfl _).trans h2,(uW (E:=dA md l A.g hA.g bs) (E':=bf l bs) rfl _).trans h3,Fg (E:=bf l bs) (E':=dA md l A.g hA.g bs) rfl h4⟩
theorem oz {md:Bool} (hB:bs.length=P.globals.size) (h0:0<P.globals.size) {l:List D} {A:Acc} (hA:uZ P bs l A) (N:Nat): @sE (dA md l A.g hA.g bs) P N (z2 P.globals.size A.ll):=
 JJ (E:=dA md l A.g hA.g bs) rfl rfl (hB▸h0) h0 hA.ll
theorem u0 (hP:cB P) (hB:bs.length=P.globals.size) (h0:0<P.globals.size) (hU:Uses P bs fids lds F S) {t:PT} {l l':List D} {r:DV} (hc:bt P bs fuel f args fids lds t l.length=true) (he:iE bs F S t l l' (.ret r))
 {ds:List DV} {ok:List Value→Prop} (hV:jt l.length args=true→∀md l2 g hg fz us,js fz ds us→ok us→@b8 (dA md (l++l2) g hg bs) P (uQ P fz) args us):BK P bs f ds r ok:=by
 unfold bt at hc
 rw [V1,V1] at hc
 obtain ⟨h1,h2,h3⟩:=hc
 obtain ⟨hs,l2,rfl⟩:=dh he h2
 obtain ⟨A,t',hA,hl,hk,hs'⟩:=di hU h1 hs ⟨fun c h=>(by cases h),fun c h=>(by cases h),fun c h=>(by cases h)⟩
 have hext: ∀i,i<l.length→(bf l bs).ρ i=(dA (Vv 1 l.length) (l++l2) A.g hA.g bs).ρ i:=fun i hi=>dQ hi
 rcases hk with ⟨v,rfl⟩ |⟨q,rfl⟩ |⟨i,q,rfl⟩
 ·unfold Sat at hs'
  obtain ⟨r',e,hv⟩:=hs'
  cases e
  replace hl: @DT P ⟨A.g,(Vv 1 l.length)⟩ v (@run ⟨A.g,(Vv 1 l.length)⟩ P ⟨@p9 P.globals.size ⟨A.g,(Vv 1 l.length)⟩ A.cl A.ll,z2 P.globals.size A.ll⟩ fuel (.call f args none) aN.none (nM bs))=true:=hl
  generalize hr: @run ⟨A.g,(Vv 1 l.length)⟩ P ⟨@p9 P.globals.size ⟨A.g,(Vv 1 l.length)⟩ A.cl A.ll,z2 P.globals.size A.ll⟩ fuel (.call f args none) aN.none (nM bs)=res at hl
  unfold DT at hl
  split at hl
  ·rename_i v0 rc s1
   unfold N5 at hl
   cases hres: @ja ⟨A.g,(Vv 1 l.length)⟩ P s1 v0 with
   |none=>rw [hres] at hl;cases hl
   |some x=>
    rw [hres] at hl
    have:=@sQ (dA (Vv 1 l.length) (l++l2) A.g hA.g bs) 40 x v hl
    subst this
    exact @GX (dA (Vv 1 l.length) (l++l2) A.g hA.g bs) P hP bs ⟨rfl,hB,fun w h=>h⟩ (fun w h=>h) ⟨@p9 P.globals.size ⟨A.g,(Vv 1 l.length)⟩ A.cl A.ll,z2 P.globals.size A.ll⟩ (ld hB h0 hA) (oz hB h0 hA) f args fuel v0 x rc s1 hr hres ds r ok (hV h3 _ l2 A.g hA.g) ((uW (E:=dA (Vv 1 l.length) (l++l2) A.g hA.g bs) (E':=bf (l++l2) bs) rfl _).trans hv)
  ·cases hl
 ·cases hl
 ·cases hl
theorem JL (hP:cB P) (hB:bs.length=P.globals.size) (h0:0<P.globals.size) (hU:Uses P bs fids lds F S) {t:PT} {l l':List D} {r:DV} (hc:bt P bs fuel f args fids lds t l.length=true) (he:iE bs F S t l l' (.ret r))
 {ds:List DV} (ha: @bI (bf l bs) args=some ds) (hta: @eW (bf l bs) args):BL P bs f ds r:=
 u0 hP hB h0 hU hc he fun h3 md l2 g hg fz us hr _=>by
  have hext: ∀i,i<l.length→(bf l bs).ρ i=(dA md (l++l2) g hg bs).ρ i:=fun i hi=>dQ hi
  exact @rk (dA md (l++l2) g hg bs) P (uQ P fz) args us ds hr ((m9 hext h3).symm.trans ha) (uV hext h3 hta)
theorem sk {fz:Addr→Option Value} {u:Value} (h:dY fz (.aF []) u):u= .slice none 0 0∨∃ad c,u= .slice (some ad) 0 c∧c≤maxLen:=by
 generalize he:(D.aF [])=d at h
 cases h<;>first |(cases he;done) |skip
 ·exact .inl rfl
 ·rename_i l ad c u hn hm hf h
  cases he
  exact .inr ⟨ad,c,rfl,hm⟩
theorem PS (hP:cB P) (hB:bs.length=P.globals.size) (h0:0<P.globals.size) (hU:Uses P bs fids lds F S) {t t':PT} {l' l'':List D} {r:DV} (hc:bt P bs fuel f [.an] fids lds t 0=true) (he:iE bs F S t [] l' (.ret r))
 (hc':bt P bs fuel f [.e0 false] fids lds t' 0=true) (he':iE bs F S t' [] l'' (.ret r)):BL P bs f [.c (.aF [])] r:=
 BK.two (A:=fun us=>us=[.slice none 0 0]) (B:=fun us=>∃ad c,us=[.slice (some ad) 0 c]∧c≤maxLen)
  (u0 (l:=[]) hP hB h0 hU hc he fun _ md l2 g hg fz us hr hok=>by subst hok;exact @b8.cons (dA md ([]++l2) g hg bs) P _ _ _ _ _ (@VR.an (dA md ([]++l2) g hg bs) P _) (@b8.nil (dA md ([]++l2) g hg bs) P _))
  (u0 (l:=[]) hP hB h0 hU hc' he' fun _ md l2 g hg fz us hr hok=>by obtain ⟨ad,c,rfl,hm⟩:=hok;exact @b8.cons (dA md ([]++l2) g hg bs) P _ _ _ _ _ (@VR.e0 (dA md ([]++l2) g hg bs) P _ false ad c (fun h=>by cases h) hm) (@b8.nil (dA md ([]++l2) g hg bs) P _))
  fun fz us hr _=>by
   cases hr with
   |cons _ u _ us h hs=>
    cases hs
    cases h with
    |c _ _ h=>exact (sk h).imp (fun e=>by rw [e]) fun ⟨ad,c,e,hm⟩=>⟨ad,c,by rw [e],hm⟩
end
noncomputable def JM (k:Nat) (x y:Tm):Bool:=cp x y&&uU k x
noncomputable def BY (k:Nat):gX→Bool
 |[]=>true
 |e::l=>au (JM k e.1 e.2) (BY k l) false
theorem fq {E E':Env} {k:Nat} (h: ∀i,i<k→E.ρ i=E'.ρ i): ∀{qq:gX},BY k qq=true→bL E E' qq
 |[],_=>fun p hp=>by cases hp
 |e::l,hq=>by
  obtain ⟨h1,h2⟩:=bB (show au (JM k e.1 e.2) (BY k l) false=true from hq)
  intro p hp
  rcases List.mem_cons.1 hp with rfl |hp
  ·unfold JM at h1
   rw [V1] at h1
   show bh E'.ρ p.1=bh E.ρ p.2
   rw [←cI h1.1]
   exact (kZ h h1.2).symm
  ·exact fq h h2 p hp
noncomputable def Vd:g9→g9→Bool
 | .exit a,.exit b=>Vo a b
 | .ret,.ret=>true
 |_,_=>false
theorem JN {x y:g9} (h:Vd x y=true):x=y∧kc y=true:=by
 cases x<;>cases y<;>first |(cases h;done) |skip
 ·rename_i a b
  have:a=b:=VN h
  subst this
  exact ⟨rfl,rfl⟩
 ·exact ⟨rfl,rfl⟩
section
variable (P:Program) (fuel:Nat) (L:LD)
noncomputable def BZ (q:List Tm) (e:Option gX):Bool:=@Vm gX (fun _=>Bool) false (fun e=>DN q e) e
noncomputable def qe (q:List Tm):Option Out→Bool
 |some (.at .normal a1 s1)=>(match ot P.globals.size [] L.s0 s1 (BV L.a0.tm a1.tm ([],[])) with |ν=>dc ν L.bo&&BZ q (da P.globals.size ν L.rd L.rd L.a0 L.s0 a1 s1))
 |_=>false
noncomputable def lf (o:LO) (q:List Tm):Option Out→Bool
 |some (.at x a1 s1)=>Vd x o.x&&(match ot P.globals.size o.rt o.so s1 (BV o.ao.tm a1.tm ([],[])) with |ν=>dc ν L.bo&&BZ q (da P.globals.size ν none none o.ao o.so a1 s1))
 |_=>false
noncomputable def roundOf (A:Acc) (c:Code):Option Out:=@jN ⟨A.g,Vv 1 L.k⟩ P (z2 P.globals.size A.ll) L.f c (.o L.p) L.rd (@run ⟨A.g,Vv 1 L.k⟩ P ⟨@p9 P.globals.size ⟨A.g,Vv 1 L.k⟩ A.cl A.ll,z2 P.globals.size A.ll⟩ fuel) L.a0 L.s0
noncomputable def B0 (c:Code) (A:Acc):PT→Bool
 | .next q=>qe P L q (roundOf P fuel L A c)
 | .exit i q=>(match L.outs[i]? with |some o=>lf P L o q (roundOf P fuel L A c) |none=>false)
 |_=>false
noncomputable def dC:iD:=ot P.globals.size [] L.s0 L.s0 (sh L.args L.args (BV L.a0.tm L.a0.tm ([],[])))
noncomputable def zd:Bool:=@Vm gX (fun _=>Bool) false (fun e=>BY L.k e) (da P.globals.size (dC P L) L.rd L.rd L.a0 L.s0 L.a0 L.s0)
noncomputable def bg (fids:List lP) (lds:List LD) (t:PT):Bool:=
 match cF P L.f L.p with
 |some (.loop c)=>ov fids lds (B0 P fuel L c) t L.k MT&&(sF t L.k&&(iX L.s0.n L.bo&&(dc (dC P L) L.bo&&(zd P L&& !L.call))))
 |_=>false
end
section
variable {P:Program} {bs:List aY} {fuel:Nat} {L:LD} {fids:List lP} {lds:List LD} {F:List (List DV→DV→Prop)} {S:List (List D→Nat→List D→Prop)}
theorem gq {q:List Tm} {e:Option gX} (h:BZ q e=true): ∃x,e=some x∧DN q x=true:=by
 cases e with
 |none=>cases h
 |some x=>exact ⟨x,rfl,h⟩
theorem MV (hP:cB P) (hB:bs.length=P.globals.size) (h0:0<P.globals.size) (hU:Uses P bs fids lds F S) {t:PT} (hc:bg P fuel L fids lds t=true) {G:Nat→List D→Nat→List D→Prop}
 (hG: ∀n ins i outs,G n ins i outs→ins.length=L.k∧∃l',iE bs F S t ins l' (.exit i outs)∨∃ins',iE bs F S t ins l' (.next ins')∧∃n',n'<n∧G n' ins' i outs):dG P bs L fun ins i outs=>∃n,G n ins i outs:=by
 unfold bg at hc
 split at hc
 ·rename_i c hcode
  simp only [V1] at hc
  obtain ⟨h1,h2,h3,h4,h5,hcl⟩:=hc
  obtain ⟨qi,g1,g2⟩: ∃qi,da P.globals.size (dC P L) L.rd L.rd L.a0 L.s0 L.a0 L.s0=some qi∧BY L.k qi=true:=by
   unfold zd at h5
   cases hq:da P.globals.size (dC P L) L.rd L.rd L.a0 L.s0 L.a0 L.s0 with
   |none=>rw [hq] at h5;cases h5
   |some x=>rw [hq] at h5;exact ⟨x,rfl,h5⟩
  have key: ∀n ins i outs j,j<n→G j ins i outs→∃o,L.outs[i]? =some o∧kc o.x=true∧∀N,gY (bf ins bs) (bf outs bs) P N L.rd c L.a0 L.s0 o.x o.ao o.so L.bo:=by
   intro n
   induction n with
   |zero=>intro ins i outs j h;omega
   |succ n ih=>
    intro ins i outs j hm hg
    obtain ⟨hk,l',hor⟩:=hG j ins i outs hg
    have hA: ∀(l:List D) (g:List (Tm×Bool)) (hg: ∀c∈g,bh (dp l) c.1= .bool c.2),Alike (bf ins bs) (dA (Vv 1 L.k) l g hg bs):=fun l g hg=>⟨rfl,rfl,by show 0<bs.length;omega⟩
    have hA': ∀(l l2:List D) (g:List (Tm×Bool)) (hg: ∀c∈g,bh (dp l) c.1= .bool c.2),Alike (dA (Vv 1 L.k) l g hg bs) (bf l2 bs):=fun l l2 g hg=>⟨rfl,rfl,by show 0<bs.length;omega⟩
    rcases hor with he |⟨ins',he,n',hlt,hg'⟩
    ·obtain ⟨hs,l2,rfl⟩:=dh he (by rw [hk];exact h2)
     obtain ⟨A,t',hAcc,hl,hkind,hs'⟩:=di hU h1 (by rw [hk] at hs;exact hs) ⟨fun c h=>(by cases h),fun c h=>(by cases h),fun c h=>(by cases h)⟩
     rcases hkind with ⟨v,rfl⟩ |⟨q,rfl⟩ |⟨i',q,rfl⟩
     ·cases hl
     ·unfold Sat at hs';cases hs'
     ·unfold Sat at hs'
      cases hs'
      replace hl:(match L.outs[i]? with |some o=>lf P L o q (roundOf P fuel L A c) |none=>false)=true:=hl
      cases ho:L.outs[i]? with
      |none=>rw [ho] at hl;cases hl
      |some o=>
       rw [ho] at hl
       replace hl:lf P L o q (roundOf P fuel L A c)=true:=hl
       generalize hr:roundOf P fuel L A c=res at hl
       unfold lf at hl
       split at hl
       ·rename_i x a1 s1
        rw [V1,V1] at hl
        obtain ⟨rfl,hx⟩:=JN hl.1
        have k1:=hl.2.1
        obtain ⟨qq,q1,q2⟩:=gq hl.2.2
        refine ⟨o,rfl,hx,fun N=>?_⟩
        exact xF (E:=bf ins bs) (Er:=dA (Vv 1 L.k) (ins++l2) A.g hAcc.g bs) (orc:=⟨@p9 P.globals.size ⟨A.g,Vv 1 L.k⟩ A.cl A.ll,z2 P.globals.size A.ll⟩) hP h0 (hA _ _ _) (hA' _ _ _ _) (ld hB h0 hAcc) (oz hB h0 hAcc N) hcode g1 (fq (fun i hi=>dQ (by omega)) g2) h4 hr hx q1 (dR (E:=dA (Vv 1 L.k) (ins++l2) A.g hAcc.g bs) q2) k1 h3
       ·cases hl
    ·obtain ⟨hs,l2,rfl⟩:=dh he (by rw [hk];exact h2)
     obtain ⟨A,t',hAcc,hl,hkind,hs'⟩:=di hU h1 (by rw [hk] at hs;exact hs) ⟨fun c h=>(by cases h),fun c h=>(by cases h),fun c h=>(by cases h)⟩
     rcases hkind with ⟨v,rfl⟩ |⟨q,rfl⟩ |⟨i',q,rfl⟩
     ·cases hl
     ·unfold Sat at hs'
      cases hs'
      obtain ⟨o,ho,hx,hL⟩:=ih _ i outs n' (by omega) hg'
      replace hl:qe P L q (roundOf P fuel L A c)=true:=hl
      generalize hr:roundOf P fuel L A c=res at hl
      unfold qe at hl
      split at hl
      ·rename_i a1 s1
       rw [V1] at hl
       have k1:=hl.1
       obtain ⟨qq,q1,q2⟩:=gq hl.2
       refine ⟨o,ho,hx,fun N=>?_⟩
       exact xG (E:=bf ins bs) (Er:=dA (Vv 1 L.k) (ins++l2) A.g hAcc.g bs) (orc:=⟨@p9 P.globals.size ⟨A.g,Vv 1 L.k⟩ A.cl A.ll,z2 P.globals.size A.ll⟩) hP h0 (hA _ _ _) (hA' _ _ _ _) (ld hB h0 hAcc) (oz hB h0 hAcc N) hcode g1 (fq (fun i hi=>dQ (by omega)) g2) h4 hr hx q1 (dR (E:=dA (Vv 1 L.k) (ins++l2) A.g hAcc.g bs) q2) k1 h3 (hL N)
      ·cases hl
     ·unfold Sat at hs';cases hs'
  unfold dG
  rw [show L.call=false by simpa using hcl]
  rintro ins i outs ⟨n,hg⟩
  obtain ⟨o,ho,hx,hL⟩:=key (n+1) ins i outs n (by omega) hg
  refine ⟨o,ho,fun N c' hc'=>?_⟩
  rw [hcode] at hc'
  cases hc'
  exact hL N
 ·cases hc
end
section
variable (P:Program) (fuel:Nat) (L:LD)
noncomputable def sW (A:Acc) (o:LO) (q:List Tm):Option Out→Bool
 |some (.fin (.returned v) _ s1)=>kc o.x&&(match ot P.globals.size o.rt o.so s1 (DP o.v v ([],[])) with |ν=>dc ν L.bo&&BZ q (gN (bE ν o.v v) (da P.globals.size ν none none aN.none o.so aN.none s1)))
 |_=>false
noncomputable def ze (A:Acc):Option Out:=@run ⟨A.g,Vv 1 L.k⟩ P ⟨@p9 P.globals.size ⟨A.g,Vv 1 L.k⟩ A.cl A.ll,z2 P.globals.size A.ll⟩ fuel (.call L.f L.args none) aN.none L.s0
noncomputable def JO (A:Acc):PT→Bool
 | .exit i q=>(match L.outs[i]? with |some o=>sW P L A o q (ze P fuel L A) |none=>false)
 |_=>false
noncomputable def Fl:Bool:=@Vm gX (fun _=>Bool) false (fun e=>BY L.k e) (gN (cX (dC P L) L.args L.args) (da P.globals.size (dC P L) none none aN.none L.s0 aN.none L.s0))
noncomputable def cD (fids:List lP) (lds:List LD) (t:PT):Bool:=
 ov fids lds (JO P fuel L) t L.k MT&&(sF t L.k&&(iX L.s0.n L.bo&&(dc (dC P L) L.bo&&(Fl P L&&L.call))))
end
section
variable {P:Program} {bs:List aY} {fuel:Nat} {L:LD} {fids:List lP} {lds:List LD} {F:List (List DV→DV→Prop)} {S:List (List D→Nat→List D→Prop)}
theorem Fm (hP:cB P) (hB:bs.length=P.globals.size) (h0:0<P.globals.size) (hU:Uses P bs fids lds F S) {t:PT} (hc:cD P fuel L fids lds t=true) {G:List D→Nat→List D→Prop}
 (hG: ∀ins i outs,G ins i outs→ins.length=L.k∧∃l',iE bs F S t ins l' (.exit i outs)):dG P bs L G:=by
 unfold cD at hc
 simp only [V1] at hc
 obtain ⟨h1,h2,h3,h4,h5,h6⟩:=hc
 unfold dG
 rw [h6]
 intro ins i outs hg
 obtain ⟨hk,l',he⟩:=hG ins i outs hg
 obtain ⟨qi,g1,g2⟩: ∃qi,gN (cX (dC P L) L.args L.args) (da P.globals.size (dC P L) none none aN.none L.s0 aN.none L.s0)=some qi∧BY L.k qi=true:=by
  unfold Fl at h5
  cases hq:gN (cX (dC P L) L.args L.args) (da P.globals.size (dC P L) none none aN.none L.s0 aN.none L.s0) with
  |none=>rw [hq] at h5;cases h5
  |some x=>rw [hq] at h5;exact ⟨x,rfl,h5⟩
 obtain ⟨hs,l2,rfl⟩:=dh he (by rw [hk];exact h2)
 obtain ⟨A,t',hAcc,hl,hkind,hs'⟩:=di hU h1 (by rw [hk] at hs;exact hs) ⟨fun c h=>(by cases h),fun c h=>(by cases h),fun c h=>(by cases h)⟩
 rcases hkind with ⟨v,rfl⟩ |⟨q,rfl⟩ |⟨i',q,rfl⟩
 ·cases hl
 ·cases hl
 ·unfold Sat at hs'
  cases hs'
  replace hl:(match L.outs[i]? with |some o=>sW P L A o q (ze P fuel L A) |none=>false)=true:=hl
  cases ho:L.outs[i]? with
  |none=>rw [ho] at hl;cases hl
  |some o=>
   rw [ho] at hl
   replace hl:sW P L A o q (ze P fuel L A)=true:=hl
   generalize hr:ze P fuel L A=res at hl
   unfold sW at hl
   split at hl
   ·rename_i v rc s1
    rw [V1,V1] at hl
    obtain ⟨hx,k1,k2⟩:=hl
    obtain ⟨qq,q1,q2⟩:=gq k2
    obtain ⟨ya,yb,w1,w2,rfl⟩:=cg q1
    obtain ⟨za,zb,w3,w4,rfl⟩:=cg g1
    refine ⟨o,rfl,?_⟩
    have hA: ∀(l:List D) (g:List (Tm×Bool)) (hg: ∀c∈g,bh (dp l) c.1= .bool c.2),Alike (bf ins bs) (dA (Vv 1 L.k) l g hg bs):=fun l g hg=>⟨rfl,rfl,by show 0<bs.length;omega⟩
    have hA': ∀(l l2:List D) (g:List (Tm×Bool)) (hg: ∀c∈g,bh (dp l) c.1= .bool c.2),Alike (dA (Vv 1 L.k) l g hg bs) (bf l2 bs):=fun l l2 g hg=>⟨rfl,rfl,by show 0<bs.length;omega⟩
    have hq:bL (dA (Vv 1 L.k) (ins++l2) A.g hAcc.g bs) (bf (q.map (bh (dp (ins++l2)))) bs) (ya++yb):=dR (E:=dA (Vv 1 L.k) (ins++l2) A.g hAcc.g bs) q2
    have hi:bL (bf ins bs) (dA (Vv 1 L.k) (ins++l2) A.g hAcc.g bs) (za++zb):=fq (fun i hi=>dQ (by omega)) g2
    exact MO (E:=bf ins bs) (Er:=dA (Vv 1 L.k) (ins++l2) A.g hAcc.g bs) (orc:=⟨@p9 P.globals.size ⟨A.g,Vv 1 L.k⟩ A.cl A.ll,z2 P.globals.size A.ll⟩) hP h0 (hA _ _ _) (hA' _ _ _ _) (ld hB h0 hAcc) (fun N=>oz hB h0 hAcc N) w3 hi.left w4 hi.right h4 hr w1 hq.left w2 hq.right k1 h3
   ·cases hl
end
def LD.of (L:LD) (args:List AV):LD:={L with args:=args,k:=0}
theorem JP {P:Program} {bs:List aY} {L:LD} {ts:List Ty} (h0:0<P.globals.size) (hB:bs.length=P.globals.size) (hc:L.call=true) (ha:L.args=[.tm (.aF ts) (.var 0)]) (hf:da P.globals.size (dC P L) none none aN.none L.s0 aN.none L.s0=some []) (hk:dc (dC P L) L.bo=true)
 {i:Nat} {outs:List D} (h1:dG P bs (L.of [.an]) fun x j y=>x=[]∧j=i∧y=outs) (h2:dG P bs (L.of [.e0 false]) fun x j y=>x=[]∧j=i∧y=outs):dG P bs L fun x j y=>x=[.aF []]∧j=i∧y=outs:=by
 unfold dG at*
 rw [show (L.of [.an]).call=true from hc] at h1
 rw [show (L.of [.e0 false]).call=true from hc] at h2
 rw [hc]
 rintro _ _ _ ⟨rfl,rfl,rfl⟩
 obtain ⟨o,ho,hb,hr1⟩:=h1 _ _ _ ⟨rfl,rfl,rfl⟩
 obtain ⟨o',ho',_,hr2⟩:=h2 _ _ _ ⟨rfl,rfl,rfl⟩
 obtain rfl:o=o':=VF (ho.symm.trans ho')
 have hA:Alike (bf [.aF []] bs) (bf [] bs):=⟨rfl,rfl,by show 0<bs.length;omega⟩
 have hH:bL (bf [.aF []] bs) (bf [] bs) []:=fun p hp=>by cases hp
 refine ⟨o,ho,hb,fun N μ w cs us hs hv=>?_⟩
 have hs':=dF hf hH hA hs
 obtain ⟨_,d2,_⟩:=cM hf hH
 have hg0:=@SR.eZ (bf [.aF []] bs) _ _ _ _ _ hs 0 h0
 rw [ha] at hv
 cases hv with
 |cons _ u _ us hv hvs=>
  cases hvs
  cases hv with
  |tm _ _ _ _ hrep=>
   have hrep:dY μ.fz (.aF []) u:=hrep
   rcases sk hrep with rfl |⟨ad,c,rfl,hm⟩
   ·obtain ⟨μo,w',V,fr,g1,g2,g3,g4⟩:=hr1 N _ w cs _ hs' (@b8.cons (bf [] bs) P _ _ _ _ _ (@VR.an (bf [] bs) P _) (@b8.nil (bf [] bs) P _))
    exact ⟨μo,w',V,fr,g1,g2,g3.pre hg0 hk d2,g4⟩
   ·obtain ⟨μo,w',V,fr,g1,g2,g3,g4⟩:=hr2 N _ w cs _ hs' (@b8.cons (bf [] bs) P _ _ _ _ _ (@VR.e0 (bf [] bs) P _ false ad c (fun h=>by cases h) hm) (@b8.nil (bf [] bs) P _))
    exact ⟨μo,w',V,fr,g1,g2,g3.pre hg0 hk d2,g4⟩
noncomputable def Sj (n:Nat):Tr AV:=@Nat.rec (fun _=>Tr AV) .nil (fun k ih=>ih.set (pos k) .bad) n
noncomputable def ec (l:List (Nat×AV)) (t:Tr AV):Tr AV:=@Vu (Nat×AV) (fun _=>Tr AV) t (fun x _ ih=>ih.set (pos x.1) x.2) l
noncomputable def aK (n:Nat) (l:List (Nat×AV)):aN:=.mk (ec l (Sj n)) n [] none
noncomputable def Sk (l:List (Nat×aY)) (t:Tr aY):Tr aY:=@Vu (Nat×aY) (fun _=>Tr aY) t (fun x _ ih=>ih.set (pos x.1) x.2) l
noncomputable def aS (bs:List aY) (n:Nat) (l:List (Nat×aY)):St:=.mk (Sk l (qN bs 0 .nil)) (pos n)
end
section
open Go Go.RowKit
section
variable (bs:List aY) (F:List (List DV→DV→Prop)) (L:List (List D→Nat→List D→Prop))
def Wp (t:PT) (l:List D) (K:k9→Prop):Prop:=∃l' o,iE bs F L t l l' o∧K o
def N6 (b:GZ) (j:Nat) (outs l:List D) (K:k9→Prop):Prop:=∃l' o,zc bs F L b j outs l l' o∧K o
def LV (d:D) (A B:Prop):Prop:=match d with | .bool b=>(b=true∧A)∨(b=false∧B) |_=>False
@[simp] theorem ak {p:Prop} [Decidable p] {A B:Prop}:LV (.bool (decide p)) A B↔if p then A else B:=by
 unfold LV
 by_cases h:p<;>simp [h]
@[simp] theorem a9 {A B:Prop}:LV (.bool true) A B↔A:=by simp [LV]
@[simp] theorem aQ {A B:Prop}:LV (.bool false) A B↔B:=by simp [LV]
@[simp] theorem aC {b:Bool} {A B:Prop}:LV (.bool (!b)) A B↔LV (.bool b) B A:=by cases b<;>simp
end
section
variable {bs:List aY} {F:List (List DV→DV→Prop)} {L:List (List D→Nat→List D→Prop)} {l outs:List D} {K:k9→Prop}
@[simp] theorem wp_ret {v:AV}:Wp bs F L (.ret v) l K↔∃r,@bk (bf l bs) v=some r∧K (.ret r):=by
 unfold Wp
 simp only [iE]
 constructor
 ·rintro ⟨l',o,⟨rfl,r,h,rfl⟩,hk⟩;exact ⟨r,h,hk⟩
 ·rintro ⟨r,h,hk⟩;exact ⟨l,_,⟨rfl,r,h,rfl⟩,hk⟩
@[simp] theorem T6:Wp bs F L .dead l K↔False:=by simp [Wp,iE]
@[simp] theorem nb {q:List Tm}:Wp bs F L (.next q) l K↔K (.next (q.map (bh (dp l)))):=by
 unfold Wp
 simp only [iE]
 constructor
 ·rintro ⟨l',o,⟨rfl,rfl⟩,hk⟩;exact hk
 ·intro hk;exact ⟨l,_,⟨rfl,rfl⟩,hk⟩
@[simp] theorem wp_exit {i:Nat} {q:List Tm}:Wp bs F L (.exit i q) l K↔K (.exit i (q.map (bh (dp l)))):=by
 unfold Wp
 simp only [iE]
 constructor
 ·rintro ⟨l',o,⟨rfl,rfl⟩,hk⟩;exact hk
 ·intro hk;exact ⟨l,_,⟨rfl,rfl⟩,hk⟩
@[simp] theorem ah {c:Tm} {y n:PT}:Wp bs F L (.split c y n) l K↔LV (bh (dp l) c) (Wp bs F L y l K) (Wp bs F L n l K):=by
 unfold Wp
 simp only [iE]
 generalize bh (dp l) c=d
 unfold LV
 constructor
 ·rintro ⟨l',o,⟨rfl,h⟩ |⟨rfl,h⟩,hk⟩
  ·exact .inl ⟨rfl,l',o,h,hk⟩
  ·exact .inr ⟨rfl,l',o,h,hk⟩
 ·cases d<;>simp only [false_imp_iff]
  rintro (⟨rfl,l',o,h,hk⟩ |⟨rfl,l',o,h,hk⟩)
  ·exact ⟨l',o,.inl ⟨rfl,h⟩,hk⟩
  ·exact ⟨l',o,.inr ⟨rfl,h⟩,hk⟩
theorem MW {i:Nat} {args:List AV} {v:AV} {k:Nat} {nx:PT}:Wp bs F L (.call i args v k nx) l K↔
 ∃R ds r,F[i]? =some R∧@bI (bf l bs) args=some ds∧R ds r∧(aI r).length=k∧@bk (bf (l++aI r) bs) v=some r∧@cO (bf (l++aI r) bs) v∧Wp bs F L nx (l++aI r) K:=by
 unfold Wp
 simp only [iE]
 constructor
 ·rintro ⟨l',o,⟨R,ds,r,h1,h2,h3,h4,h5,h6,h⟩,hk⟩;exact ⟨R,ds,r,h1,h2,h3,h4,h5,h6,l',o,h,hk⟩
 ·rintro ⟨R,ds,r,h1,h2,h3,h4,h5,h6,l',o,h,hk⟩;exact ⟨l',o,⟨R,ds,r,h1,h2,h3,h4,h5,h6,h⟩,hk⟩
theorem wp_loop {i:Nat} {q:List Tm} {b:GZ}:Wp bs F L (.loop i q b) l K↔∃R j outs,L[i]? =some R∧R (q.map (bh (dp l))) j outs∧N6 bs F L b j outs l K:=by
 unfold Wp N6
 simp only [iE]
 constructor
 ·rintro ⟨l',o,⟨R,j,outs,h1,h2,h⟩,hk⟩;exact ⟨R,j,outs,h1,h2,l',o,h,hk⟩
 ·rintro ⟨R,j,outs,h1,h2,l',o,h,hk⟩;exact ⟨l',o,⟨R,j,outs,h1,h2,h⟩,hk⟩
@[simp] theorem al {m:Nat} {nx:PT} {b:GZ}:N6 bs F L (.cons m nx b) 0 outs l K↔outs.length=m∧Wp bs F L nx (l++outs) K:=by
 unfold Wp N6
 simp only [zc]
 constructor
 ·rintro ⟨l',o,⟨h1,h⟩,hk⟩;exact ⟨h1,l',o,h,hk⟩
 ·rintro ⟨h1,l',o,h,hk⟩;exact ⟨l',o,⟨h1,h⟩,hk⟩
@[simp] theorem ay {m j:Nat} {nx:PT} {b:GZ}:N6 bs F L (.cons m nx b) (j+1) outs l K↔N6 bs F L b j outs l K:=by
 unfold N6
 simp only [zc]
theorem aq {t:PT} (o0:k9) (h:Wp bs F L t l fun o=>o=o0) (hk:K o0):Wp bs F L t l K:=by
 obtain ⟨l',o,h1,rfl⟩:=h
 exact ⟨l',_,h1,hk⟩
theorem ai {i:Nat} {args:List AV} {v:AV} {k:Nat} {nx:PT} {R:List DV→DV→Prop} {ds:List DV} {r:DV} (h1:F[i]? =some R) (h3:R ds r) (h2: @bI (bf l bs) args=some ds) (h4:(aI r).length=k) (h5: @bk (bf (l++aI r) bs) v=some r) (h6: @cO (bf (l++aI r) bs) v)
 (h:Wp bs F L nx (l++aI r) K):Wp bs F L (.call i args v k nx) l K:=MW.2 ⟨R,ds,r,h1,h2,h3,h4,h5,h6,h⟩
theorem ar {i:Nat} {q:List Tm} {b:GZ} {R:List D→Nat→List D→Prop} {j:Nat} {outs ins:List D} (h1:L[i]? =some R) (h2:R ins j outs) (hq:q.map (bh (dp l))=ins) (h:N6 bs F L b j outs l K):Wp bs F L (.loop i q b) l K:=
 wp_loop.2 ⟨R,j,outs,h1,hq▸h2,h⟩
end
@[simp] theorem ae {d:D} {l:List D}:dp (d::l) 0=d:=rfl
@[simp] theorem ag {d:D} {l:List D} {n:Nat}:dp (d::l) (n+1)=dp l n:=by
 show D.at (d::l) (n+1)=D.at l n
 unfold D.at
 rw [X7]
attribute [simp] bh aL
@[simp] theorem Ve {l:List D} {bs:List aY} {t:Tm}: @ev (bf l bs) t=bh (dp l) t:=rfl
@[simp] theorem aD {d:D} {l:List D}:D.at (d::l) 0=d:=rfl
@[simp] theorem aH {d:D} {l:List D} {n:Nat}:D.at (d::l) (n+1)=D.at l n:=by
 unfold D.at
 rw [X7]
section
variable {a b i lo hi:Int} {j k k2:IntKind} {x y:List Nat} {p q:Bool} {r:List D} {l m:List (List D)}
@[simp] theorem ft:cw (.kp .add k) [.int j a,.int k2 b]= .int k (k.wrap (a+b)):=rfl
@[simp] theorem ba:cw (.kp .sub k) [.int j a,.int k2 b]= .int k (k.wrap (a - b)):=rfl
@[simp] theorem oA:cw (.kp .mul k) [.int j a,.int k2 b]= .int k (k.wrap (a*b)):=rfl
@[simp] theorem PV:cw (.kp .rem k) [.int j a,.int k2 b]= .int k (a.tmod b):=rfl
@[simp] theorem aV:cw (.cmp .eql) [.int j a,.int k b]= .bool (decide (a=b)):=by show D.bool (a==b)=_;congr 1
@[simp] theorem aT:cw (.cmp .neq) [.int j a,.int k b]= .bool (!decide (a=b)):=by show D.bool (a != b)=_;congr 1
@[simp] theorem aA:cw (.cmp .lss) [.int j a,.int k b]= .bool (decide (a<b)):=rfl
@[simp] theorem aB:cw (.cmp .leq) [.int j a,.int k b]= .bool (decide (a≤b)):=rfl
@[simp] theorem aX:cw (.cmp .gtr) [.int j a,.int k b]= .bool (decide (b<a)):=rfl
@[simp] theorem bc:cw (.cmp .geq) [.int j a,.int k b]= .bool (decide (b≤a)):=rfl
@[simp] theorem Uz:cw (.conv k) [.int j a]= .int k (k.wrap a):=rfl
@[simp] theorem aJ:cw (.kr .eql) [.str x,.str y]= .bool (decide (x=y)):=by show D.bool (x==y)=_;congr 1;exact Bool.eq_iff_iff.2 (by simp)
@[simp] theorem aM:cw (.kr .neq) [.str x,.str y]= .bool (!decide (x=y)):=by show D.bool (x != y)=_;congr 1;exact Bool.eq_iff_iff.2 (by simp)
@[simp] theorem UA:cw .cat [.str x,.str y]= .str (x++y):=rfl
@[simp] theorem Sl:cw .ic [.str x,.int k i]=(match x[i.toNat]? with |some c=>.int .u8 c |none=>.bad):=rfl
@[simp] theorem T7:cw .L2 [.str x,.int j lo,.int k hi]= .str ((x.take hi.toNat).drop lo.toNat):=rfl
@[simp] theorem nc:cw .gB [.str x]= .int .i64 x.length:=rfl
@[simp] theorem aP:cw .not [.bool p]= .bool (!p):=rfl
@[simp] theorem UB:cw .and [.bool p,.bool q]= .bool (p&&q):=rfl
@[simp] theorem JQ:cw .beq [.bool p,.bool q]= .bool (p==q):=rfl
@[simp] theorem UC:cw .nil []= .aF []:=rfl
@[simp] theorem Fo:cw .snoc (.aF l::r)= .aF (l++[r]):=rfl
@[simp] theorem PW:cw .app [.aF l,.aF m]= .aF (l++m):=rfl
@[simp] theorem sX:cw .sub [.aF l,.int j lo,.int k hi]= .aF ((l.take hi.toNat).drop lo.toNat):=rfl
@[simp] theorem aw:cw .len [.aF l]= .int .i64 l.length:=rfl
@[simp] theorem aU:cw .zZ [.aF l,.int k i]=(match l[i.toNat]? with |some r=>.ref r |none=>.bad):=rfl
@[simp] theorem aE {n:Nat}:cw (.cell n) [.ref r]=D.at r n:=rfl
@[simp] theorem UD {n m:Nat}:cw (.off n m) [.ref r]= .ref ((r.drop n).take m):=rfl
@[simp] theorem UE:cw .row r= .ref r:=by cases r<;>rfl
@[simp] theorem oB {n m:Nat}:cw (.dm n m) (.aF l::.int k i::r)= .aF (l.modify i.toNat fun row=>row.take n++r++row.drop (n+m)):=rfl
@[simp] theorem PX:cw .rep (.int k i::r)= .aF (List.replicate i.toNat r):=rfl
@[simp] theorem sY {d:D}:cw .wt [.aF l,d]= .bool (l.any (bC d)):=rfl
@[simp] theorem MX {d:D}:cw .o4 [.aF l,d]=(match l.find? (bC d) with |some r=>.ref r.tail |none=>.bad):=rfl
@[simp] theorem MY {d:D}:cw .tg (.aF l::d::r)= .aF (iM d r l):=rfl
@[simp] theorem T8 {d:D}:cw .Cv [.aF l,d]= .aF (lJ d l):=rfl
end
attribute [simp] aI aR
section
variable {bs:List aY} {l:List D}
@[simp] theorem Vf {t:Ty} {x:Tm}: @bk (bf l bs) (.tm t x)=some (.c (bh (dp l) x)):=by unfold bk;rfl
@[simp] theorem UF {k:IntKind} {n:Int}: @bk (bf l bs) (.int k n)=some (.c (.int k n)):=by unfold bk;rfl
@[simp] theorem T9 {b:Bool}: @bk (bf l bs) (.bool b)=some (.c (.bool b)):=by unfold bk;rfl
@[simp] theorem UG {s:List Nat}: @bk (bf l bs) (.str s)=some (.c (.str s)):=by unfold bk;rfl
@[simp] theorem UH: @bk (bf l bs) .an=some (.c (.aF [])):=by unfold bk;rfl
@[simp] theorem Vg {z:Bool}: @bk (bf l bs) (.e0 z)=some (.c (.aF [])):=by unfold bk;rfl
@[simp] theorem UI {vs:List AV}: @bk (bf l bs) (.agg vs)=(@dz (bf l bs) vs).map .agg:=by unfold bk;rfl
@[simp] theorem UJ {vs:List AV}: @bk (bf l bs) (.tuple vs)=(@bI (bf l bs) vs).map .jO:=by unfold bk;rfl
@[simp] theorem Ua: @bI (bf l bs) []=some []:=by unfold bI;rfl
@[simp] theorem Sn {v:AV} {vs:List AV}: @bI (bf l bs) (v::vs)=(@bk (bf l bs) v).bind fun d=>(@bI (bf l bs) vs).map fun ds=>d::ds:=by conv=>lhs;unfold bI
@[simp] theorem UK: @dz (bf l bs) []=some []:=rfl
@[simp] theorem Ub {v:AV} {vs:List AV}: @dz (bf l bs) (v::vs)=(@od (bf l bs) v).bind fun d=>(@dz (bf l bs) vs).map fun ds=>d::ds:=rfl
@[simp] theorem c_tm {t:Ty} {x:Tm}: @od (bf l bs) (.tm t x)=some (bh (dp l) x):=rfl
@[simp] theorem Vh {k:IntKind} {n:Int}: @od (bf l bs) (.int k n)=some (.int k n):=rfl
@[simp] theorem UL {b:Bool}: @od (bf l bs) (.bool b)=some (.bool b):=rfl
@[simp] theorem Vi {s:List Nat}: @od (bf l bs) (.str s)=some (.str s):=rfl
@[simp] theorem Vj: @od (bf l bs) .an=some (.aF []):=rfl
@[simp] theorem c_e0 {z:Bool}: @od (bf l bs) (.e0 z)=some (.aF []):=rfl
@[simp] theorem UM {t:Ty} {x:Tm}: @cO (bf l bs) (.tm t x)=bx t (bh (dp l) x):=by unfold cO;rfl
@[simp] theorem Uc {k:IntKind} {n:Int}: @cO (bf l bs) (.int k n)=True:=by unfold cO;rfl
@[simp] theorem So {b:Bool}: @cO (bf l bs) (.bool b)=True:=by unfold cO;rfl
@[simp] theorem Ud {s:List Nat}: @cO (bf l bs) (.str s)=True:=by unfold cO;rfl
@[simp] theorem Ue {vs:List AV}: @cO (bf l bs) (.agg vs)= @kg (bf l bs) vs:=by unfold cO;rfl
@[simp] theorem Uf {vs:List AV}: @cO (bf l bs) (.tuple vs)= @eW (bf l bs) vs:=by unfold cO;rfl
@[simp] theorem Sp: @eW (bf l bs) []=True:=by unfold eW;rfl
@[simp] theorem Ru {v:AV} {vs:List AV}: @eW (bf l bs) (v::vs)=(@cO (bf l bs) v∧@eW (bf l bs) vs):=by conv=>lhs;unfold eW
@[simp] theorem Rv: @kg (bf l bs) []=True:=rfl
@[simp] theorem PY {v:AV} {vs:List AV}: @kg (bf l bs) (v::vs)=(@oq (bf l bs) v∧@kg (bf l bs) vs):=rfl
@[simp] theorem Ug {t:Ty} {x:Tm}: @oq (bf l bs) (.tm t x)=bx t (bh (dp l) x):=rfl
@[simp] theorem Sq {k:IntKind} {n:Int}: @oq (bf l bs) (.int k n)=True:=rfl
@[simp] theorem Rw {b:Bool}: @oq (bf l bs) (.bool b)=True:=rfl
@[simp] theorem Sr {s:List Nat}: @oq (bf l bs) (.str s)=True:=rfl
end
@[simp] theorem Rx {k:IntKind} {n:Int}:bx (.int k) (.int k n)=True:=eq_true (by unfold bx;exact ⟨n,rfl⟩)
@[simp] theorem PZ {b:Bool}:bx .bool (.bool b)=True:=eq_true (by unfold bx;exact ⟨b,rfl⟩)
@[simp] theorem Ry {s:List Nat}:bx .str (.str s)=True:=eq_true (by unfold bx;exact ⟨s,rfl⟩)
@[simp] theorem xR {ts:List Ty} {l:List (List D)}:bx (.aF ts) (.aF l)=∀r∈l,aW ts r:=by
 unfold bx
 apply propext
 exact ⟨fun ⟨l',h,h2⟩=>by cases h;exact h2,fun h=>⟨l,rfl,h⟩⟩
@[simp] theorem Rz {ts:List Ty} {r:List D}:bx (.ref ts) (.ref r)=aW ts r:=by
 unfold bx
 apply propext
 exact ⟨fun ⟨l',h,h2⟩=>by cases h;exact h2,fun h=>⟨r,rfl,h⟩⟩
@[simp] theorem DW:aW [] []=True:=eq_true (by unfold aW;rfl)
@[simp] theorem B1 {t:Ty} {ts:List Ty} {d:D} {r:List D}:aW (t::ts) (d::r)=(bx t d∧aW ts r):=by
 conv=>lhs;unfold aW
 apply propext
 exact ⟨fun ⟨d',r',h,h1,h2⟩=>by cases h;exact ⟨h1,h2⟩,fun ⟨h1,h2⟩=>⟨d,r,rfl,h1,h2⟩⟩
theorem xS {P:Program} {bs:List aY} {L:LD} {R R':List D→Nat→List D→Prop} (h:dG P bs L R) (hs: ∀ins i outs,R' ins i outs→R ins i outs):dG P bs L R':=by
 unfold dG at*
 cases hc:L.call with
 |true=>rw [hc] at h;exact fun ins i outs hr=>h ins i outs (hs _ _ _ hr)
 |false=>rw [hc] at h;exact fun ins i outs hr=>h ins i outs (hs _ _ _ hr)
def lg (P:Program) (bs:List aY) (L:LD) (ins:List D) (i:Nat) (outs:List D):Prop:=dG P bs L fun x j y=>x=ins∧j=i∧y=outs
theorem Fp {P:Program} {bs:List aY} {L:LD}:dG P bs L (lg P bs L):=by
 unfold lg dG
 cases L.call with
 |true=>exact fun ins i outs h=>h ins i outs ⟨rfl,rfl,rfl⟩
 |false=>exact fun ins i outs h=>h ins i outs ⟨rfl,rfl,rfl⟩
section
variable {P:Program} {bs:List aY} {fuel:Nat} {fids:List lP} {lds:List LD}
def P0 (P:Program) (bs:List aY) (fids:List lP):List (List DV→DV→Prop):=fids.map fun f=>PL P bs f.1 f.2
def MZ (P:Program) (bs:List aY) (lds:List LD):List (List D→Nat→List D→Prop):=lds.map (lg P bs)
theorem gP:Uses P bs fids lds (P0 P bs fids) (MZ P bs lds):=by
 refine ⟨fun i f G hf hG=>?_,fun i L G hf hG=>?_⟩
 ·unfold P0 at hG
  rw [VV,hf] at hG
  cases hG
  exact fun ds r h=>h
 ·unfold MZ at hG
  rw [VV,hf] at hG
  cases hG
  exact Fp
abbrev LW (P:Program) (bs:List aY) (fids:List lP) (lds:List LD):=Wp bs (P0 P bs fids) (MZ P bs lds)
theorem Ss (hP:cB P) (hB:bs.length=P.globals.size) (h0:0<P.globals.size) {f:FuncId} {args:List AV} {t:PT} {l:List D} {r:DV} (hc:bt P bs fuel f args fids lds t l.length=true) {ds:List DV} (ha: @bI (bf l bs) args=some ds) (hta: @eW (bf l bs) args)
 (hw:LW P bs fids lds t l fun o=>o= .ret r):BL P bs f ds r:=by
 obtain ⟨l',o,h1,rfl⟩:=hw
 exact JL hP hB h0 gP hc h1 ha hta
theorem Su (hP:cB P) (hB:bs.length=P.globals.size) (h0:0<P.globals.size) {f:FuncId} {args:List AV} {t:PT} {l:List D} {R:DV→Prop} (hc:bt P bs fuel f args fids lds t l.length=true) {ds:List DV} (ha: @bI (bf l bs) args=some ds) (hta: @eW (bf l bs) args)
 (hw:LW P bs fids lds t l fun o=>∃r,o= .ret r∧R r): ∃r,R r∧BL P bs f ds r:=by
 obtain ⟨l',o,h1,r,rfl,hR⟩:=hw
 exact ⟨r,hR,JL hP hB h0 gP hc h1 ha hta⟩
theorem M0 (hP:cB P) (hB:bs.length=P.globals.size) (h0:0<P.globals.size) {L:LD} {t:PT} (hc:cD P fuel L fids lds t=true) {ins:List D} {Q:Nat→List D→Prop} (hl:ins.length=L.k)
 (hw:LW P bs fids lds t ins fun o=>∃i outs,o= .exit i outs∧Q i outs): ∃i outs,Q i outs∧lg P bs L ins i outs:=by
 obtain ⟨l',o,h1,i,outs,rfl,hQ⟩:=hw
 exact ⟨i,outs,hQ,Fm hP hB h0 gP hc fun ins' i' outs' hg=>by obtain ⟨rfl,rfl,rfl⟩:=hg;exact ⟨hl,l',h1⟩⟩
theorem M1 (hP:cB P) (hB:bs.length=P.globals.size) (h0:0<P.globals.size) {L:LD} {t:PT} (hc:cD P fuel L fids lds t=true) {ins:List D} {i:Nat} {outs:List D} (hl:ins.length=L.k)
 (hw:LW P bs fids lds t ins fun o=>o= .exit i outs):lg P bs L ins i outs:=by
 obtain ⟨l',o,h1,rfl⟩:=hw
 exact Fm hP hB h0 gP hc fun ins' i' outs' hg=>by obtain ⟨rfl,rfl,rfl⟩:=hg;exact ⟨hl,l',h1⟩
def JR (P:Program) (bs:List aY) (fids:List lP) (lds:List LD) (k:Nat) (t:PT):Nat→List D→Nat→List D→Prop
 |0,ins,i,outs=>ins.length=k∧∃l',iE bs (P0 P bs fids) (MZ P bs lds) t ins l' (.exit i outs)
 |n+1,ins,i,outs=>ins.length=k∧∃l' ins',iE bs (P0 P bs fids) (MZ P bs lds) t ins l' (.next ins')∧JR P bs fids lds k t n ins' i outs
theorem zf (hP:cB P) (hB:bs.length=P.globals.size) (h0:0<P.globals.size) {L:LD} {t:PT} (hc:bg P fuel L fids lds t=true) {α:Type} {enc:α→List D} {I:α→Prop} {μ:α→Nat} {Q:α→Nat→List D→Prop}
 (h: ∀a,I a→(enc a).length=L.k∧LW P bs fids lds t (enc a) fun o=>(∃i os,o= .exit i os∧Q a i os)∨∃a',o= .next (enc a')∧I a'∧μ a'<μ a∧∀i os,Q a' i os→Q a i os) (a:α) (ha:I a): ∃i os,Q a i os∧lg P bs L (enc a) i os:=by
 have key: ∀n a,μ a<n→I a→∃i os m,Q a i os∧JR P bs fids lds L.k t m (enc a) i os:=by
  intro n
  induction n with
  |zero=>intro a h;omega
  |succ n ih=>
   intro a hm ha
   obtain ⟨hk,l',o,h1,⟨i,os,rfl,hQ⟩ |⟨a',rfl,ha',hlt,hQ⟩⟩:=h a ha
   ·exact ⟨i,os,0,hQ,hk,l',h1⟩
   ·obtain ⟨i,os,m,h2,h3⟩:=ih a' (by omega) ha'
    exact ⟨i,os,m+1,hQ i os h2,hk,l',enc a',h1,h3⟩
 obtain ⟨i,os,m,h1,h2⟩:=key (μ a+1) a (by omega) ha
 refine ⟨i,os,h1,xS (MV hP hB h0 gP hc (G:=fun n=>JR P bs fids lds L.k t n) fun n ins i outs hg=>?_) fun ins' i' outs' hg=>by obtain ⟨rfl,rfl,rfl⟩:=hg;exact ⟨m,h2⟩⟩
 cases n with
 |zero=>obtain ⟨h1,l',h2⟩:=hg;exact ⟨h1,l',.inl h2⟩
 |succ n=>obtain ⟨h1,l',ins',h2,h3⟩:=hg;exact ⟨h1,l',.inr ⟨ins',h2,n,by omega,h3⟩⟩
end
def gQ {α β:Type} (step:Nat→α→β→(Nat×List D) ⊕ β) (fin:β→Nat×List D):List α→Nat→β→Nat×List D
 |[],_,b=>fin b
 |x::l,k,b=>match step k x b with | .inl r=>r | .inr b'=>gQ step fin l (k+1) b'
section
variable {P:Program} {bs:List aY} {fuel:Nat} {fids:List lP} {lds:List LD}
theorem JS {α β:Type} (hP:cB P) (hB:bs.length=P.globals.size) (h0:0<P.globals.size) {L:LD} {t:PT} (hc:bg P fuel L fids lds t=true)
 {aF:List α} {enc:Nat→β→List D} {I:Nat→β→Prop} {step:Nat→α→β→(Nat×List D) ⊕ β} {fin:β→Nat×List D} (hl: ∀k b,(enc k b).length=L.k)
 (h1: ∀k b x (h:k<aF.length),I k b→aF[k]=x→LW P bs fids lds t (enc k b) fun o=>match step k x b with | .inl r=>o= .exit r.1 r.2 | .inr b'=>o= .next (enc (k+1) b')∧I (k+1) b')
 (h2: ∀b,I aF.length b→LW P bs fids lds t (enc aF.length b) fun o=>o= .exit (fin b).1 (fin b).2) (b:β) (hb:I 0 b):lg P bs L (enc 0 b) (gQ step fin aF 0 b).1 (gQ step fin aF 0 b).2:=by
 obtain ⟨i,os,⟨rfl,rfl⟩,h⟩:=zf hP hB h0 hc (α:=Nat×β) (enc:=fun a=>enc a.1 a.2) (I:=fun a=>I a.1 a.2∧a.1≤aF.length) (μ:=fun a=>aF.length - a.1)
  (Q:=fun a i os=>i=(gQ step fin (aF.drop a.1) a.1 a.2).1∧os=(gQ step fin (aF.drop a.1) a.1 a.2).2) (by
   rintro ⟨k,b⟩ ⟨hI,hk⟩
   refine ⟨hl k b,?_⟩
   rcases Nat.lt_or_ge k aF.length with hlt |hge
   ·obtain ⟨l',o,q1,q2⟩:=h1 k b _ hlt hI rfl
    refine ⟨l',o,q1,?_⟩
    simp only [List.drop_eq_getElem_cons hlt,gQ]
    cases hs:step k aF[k] b with
    |inl r=>rw [hs] at q2;exact .inl ⟨_,_,q2,rfl,rfl⟩
    |inr b'=>
     rw [hs] at q2
     obtain ⟨rfl,q3⟩:=q2
     exact .inr ⟨(k+1,b'),rfl,⟨q3,hlt⟩,by show aF.length - (k+1)<aF.length - k;omega,fun i os h=>h⟩
   ·obtain rfl:k=aF.length:=Zr hk hge
    obtain ⟨l',o,q1,rfl⟩:=h2 b hI
    refine ⟨l',_,q1,.inl ⟨_,_,rfl,?_⟩⟩
    show (fin b).1=(gQ step fin (aF.drop aF.length) aF.length b).1∧(fin b).2=(gQ step fin (aF.drop aF.length) aF.length b).2
    rw [List.drop_length]
    exact ⟨rfl,rfl⟩) (0,b) ⟨hb,Nat.zero_le _⟩
 exact h
theorem B2 {α β:Type} (hP:cB P) (hB:bs.length=P.globals.size) (h0:0<P.globals.size) {L:LD} {t:PT} (hc:bg P fuel L fids lds t=true)
 {aF:List α} {enc:Nat→β→List D} {I:Nat→β→Prop} {Q:Nat→List D→Prop} (hl: ∀k b,(enc k b).length=L.k)
 (h1: ∀k b x (h:k<aF.length),I k b→aF[k]=x→LW P bs fids lds t (enc k b) fun o=>(∃i os,o= .exit i os∧Q i os)∨∃b',o= .next (enc (k+1) b')∧I (k+1) b')
 (h2: ∀b,I aF.length b→LW P bs fids lds t (enc aF.length b) fun o=>∃i os,o= .exit i os∧Q i os) (b:β) (hb:I 0 b): ∃i os,Q i os∧lg P bs L (enc 0 b) i os:=by
 refine zf hP hB h0 hc (α:=Nat×β) (enc:=fun a=>enc a.1 a.2) (I:=fun a=>I a.1 a.2∧a.1≤aF.length) (μ:=fun a=>aF.length - a.1) (Q:=fun _=>Q) (fun ⟨k,b⟩ ⟨hI,hk⟩=>?_) (0,b) ⟨hb,Nat.zero_le _⟩
 refine ⟨hl k b,?_⟩
 rcases Nat.lt_or_ge k aF.length with hlt |hge
 ·obtain ⟨l',o,q1,q2⟩:=h1 k b _ hlt hI rfl
  refine ⟨l',o,q1,q2.imp id fun ⟨b',q3,q4⟩=>⟨(k+1,b'),q3,⟨q4,hlt⟩,by show aF.length - (k+1)<aF.length - k;omega,fun i os h=>h⟩⟩
 ·obtain rfl:k=aF.length:=Zr hk hge
  obtain ⟨l',o,q1,q2⟩:=h2 b hI
  exact ⟨l',o,q1,.inl q2⟩
end
theorem lh {α:Type} (p:α→Bool) (o:Nat→Nat×List D) (e:Nat×List D): ∀(l:List α) (k:Nat),gQ (fun k x (_:Unit)=>if p x then .inl (o k) else .inr ()) (fun _=>e) l k ()=match l.findIdx? p with |some j=>o (k+j) |none=>e
 |[],k=>rfl
 |x::l,k=>by
  unfold gQ
  rw [List.findIdx?_cons]
  cases h:p x with
  |true=>simp
  |false=>
   have:=lh p o e l (k+1)
   simp only [Bool.false_eq_true,if_false]
   rw [this]
   cases l.findIdx? p with
   |none=>rfl
   |some j=>simp [Nat.add_assoc,Nat.add_comm 1 j]
end
section
open Go Go.RowKit
section
variable {P:Program} {N:Nat} {bo:List Pos} {ν νo:iD} {orc:NV} {f:FuncId} {p:Pos} {c:Code} {rd rdB:Option Pos} {n:Nat} {a0 s0 b0 t0 a1 s1 ao so:_} {x:g9} {q qo:gX}
theorem G0 {E Er E' Eo:Env} (hP:cB P) (hG0:0<P.globals.size) (hA:Alike E Er) (hB:Alike Er E') (ho: @jW Er P orc.call) (hh: @sE Er P N orc.loop) (hat:cF P f p=some (.loop c))
 (hfi:da P.globals.size νo rd rd a0 s0 a0 s0=some qo) (hei:bL E Er qo) (hki:dc νo bo=true)
 (hr: @jN Er.toGam P orc.loop f c (.o p) rd (@run Er.toGam P orc n) a0 s0=some (.at .normal a1 s1)) (hx:kc x=true) (hf:da P.globals.size ν rdB rd b0 t0 a1 s1=some q) (he:bL Er E' q) (hk:dc ν bo=true) (hkl:iX s0.n bo=true)
 (ih:gY E' Eo P N rdB c b0 t0 x ao so bo):
 gY E Eo P N rd c a0 s0 x ao so bo:=by
 intro μ w b X u k ca hs ha hX hkd hrd hfn m hm
 have hg0:=@SR.eZ E _ _ _ _ _ hs 0 hG0
 obtain ⟨_,d2,_,_,_,_,d7,d8,d9,_⟩:=cM hfi hei
 have hrec:=@kV Er P N hP orc ho hh n
 have:=@iT Er P N hP _ hrec (@m0 Er P N hP _ hrec) orc.loop hh f c (.o p) (fe hat rfl) rd a0 s0 _ hr (fG νo μ) w b X u (.inLoop c::k) ca (dF hfi hei hA hs) (kY hfi hei ha) (mB hX d7 d7) hkd (jr d9 d2 hrd) hfn
 obtain ⟨μ',w',ca',u',h1,h2,h3,h4⟩:=this
 obtain ⟨c1,c2,_,_,_,_,c7,c8,c9,_⟩:=cM hf he
 have hsr:=@bF.sr Er _ _ _ _ _ _ _ _ h1
 have hext:=@bF.ext Er _ _ _ _ _ _ _ _ h1
 have hrd':yR (fG ν μ') rdB b.roundOf:=jr c9 c2 ((jr d9 d2 hrd).mono hext.sub)
 obtain ⟨μo,w'',ca'',u'',g1,g2,g3,g4,g5⟩:=ih (fG ν μ') w' b X u' k ca' (dF hf he hB hsr) (kY hf he h2) (mB h3 c8 c7) hkd hrd' hfn _ stepR_inLoop
 have w1:Way N (fG νo μ) w μ' w' bo:=@Way.sU P N bo w w' _ μ' Er _ _ h1 hkl
 have w2:Way N μ' w' μo w'' bo:=g5.pre (@SR.eZ Er _ _ _ _ _ hsr 0 hG0) hk c2
 refine ⟨μo,w'',ca'',u'',g1,g2,g3,?_,(w1.trans w2).pre hg0 hki d2⟩
 cases x<;>first |(cases hx;done) |skip
 ·obtain ⟨k1,h5,h6⟩:=g4
  exact ⟨k1,h5,(Steps.one hm).trans (Steps.trans h4 h6)⟩
 ·obtain ⟨k1,h6⟩:=g4
  exact ⟨k1,(Steps.one hm).trans (Steps.trans h4 h6)⟩
end
noncomputable def xT:List AV→Option (List Tm)
 |[]=>some []
 |v::l=>match v with
  | .tm _ x=>omap (xT l) fun q=>x::q
  |_=>none
theorem B3 {E:Env}: ∀{l:List AV} {q:List Tm},xT l=some q→@dz E l=some (q.map (@ev E))
 |[],q,h=>by cases h;rfl
 |v::l,q,h=>by
  cases v<;>first |(cases h;done) |skip
  rename_i t x
  obtain ⟨r,h1,rfl⟩:=aO.1 (show omap (xT l) (fun q=>x::q)=some q from h)
  unfold dz
  rw [B3 h1]
  rfl
section
variable (P:Program) (fuel:Nat) (L LB:LD)
noncomputable def sZ (q:List Tm):Option Out→Bool
 |some (.at .normal a1 s1)=>(match ot P.globals.size [] LB.s0 s1 (BV LB.a0.tm a1.tm ([],[])) with |ν=>dc ν L.bo&&BZ q (da P.globals.size ν LB.rd L.rd LB.a0 LB.s0 a1 s1))
 |_=>false
noncomputable def B4 (c:Code) (A:Acc) (t:PT):Bool:=
 match t with
 | .ret (.agg l)=>@Vm (List Tm) (fun _=>Bool) false (fun q=>sZ P L LB q (roundOf P fuel L A c)) (xT l)
 |t=>B0 P fuel L c A t
def va:List LO→Bool
 |[]=>true
 |o::l=>kc o.x&&va l
noncomputable def qf (fids:List lP) (lds:List LD) (t:PT):Bool:=
 match cF P L.f L.p with
 |some (.loop c)=>ov fids lds (B4 P fuel L LB c) t L.k MT&&(sF t L.k&&(iX L.s0.n L.bo&&(dc (dC P L) L.bo&&(zd P L&&(!L.call&&va L.outs)))))
 |_=>false
end
theorem vb: ∀{l:List LO} {i:Nat} {o:LO},va l=true→l[i]? =some o→kc o.x=true
 |[],i,o,h,ho=>by simp at ho
 |x::l,0,o,h,ho=>by
  unfold va at h
  rw [V1] at h
  simp at ho
  subst ho
  exact h.1
 |x::l,i+1,o,h,ho=>by
  unfold va at h
  rw [V1] at h
  exact vb h.2 (by simpa using ho)
section
variable {P:Program} {bs:List aY} {fuel:Nat} {L LB:LD} {fids:List lP} {lds:List LD} {F:List (List DV→DV→Prop)} {S:List (List D→Nat→List D→Prop)}
theorem JT (hP:cB P) (hB:bs.length=P.globals.size) (h0:0<P.globals.size) (hU:Uses P bs fids lds F S) {t:PT} (hc:qf P fuel L LB fids lds t=true) {RB:List D→Nat→List D→Prop} (hJ:dG P bs LB RB) (hjc:LB.call=false) (hjf:LB.f=L.f) (hjp:LB.p=L.p) (hjk:LB.bo=L.bo) (hjo:LB.outs=L.outs) {G:Nat→List D→Nat→List D→Prop}
 (hG: ∀n ins i outs,G n ins i outs→ins.length=L.k∧∃l',iE bs F S t ins l' (.exit i outs)∨(∃ins',iE bs F S t ins l' (.next ins')∧∃n',n'<n∧G n' ins' i outs)∨∃ins',iE bs F S t ins l' (.ret (.agg ins'))∧RB ins' i outs):dG P bs L fun ins i outs=>∃n,G n ins i outs:=by
 unfold qf at hc
 split at hc
 ·rename_i c hcode
  simp only [V1] at hc
  obtain ⟨h1,h2,h3,h4,h5,hcl,hoo⟩:=hc
  obtain ⟨qi,g1,g2⟩: ∃qi,da P.globals.size (dC P L) L.rd L.rd L.a0 L.s0 L.a0 L.s0=some qi∧BY L.k qi=true:=by
   unfold zd at h5
   cases hq:da P.globals.size (dC P L) L.rd L.rd L.a0 L.s0 L.a0 L.s0 with
   |none=>rw [hq] at h5;cases h5
   |some x=>rw [hq] at h5;exact ⟨x,rfl,h5⟩
  have key: ∀n ins i outs j,j<n→G j ins i outs→∃o,L.outs[i]? =some o∧kc o.x=true∧∀N,gY (bf ins bs) (bf outs bs) P N L.rd c L.a0 L.s0 o.x o.ao o.so L.bo:=by
   intro n
   induction n with
   |zero=>intro ins i outs j h;omega
   |succ n ih=>
    intro ins i outs j hm hg
    obtain ⟨hk,l',hor⟩:=hG j ins i outs hg
    have hA: ∀(l:List D) (g:List (Tm×Bool)) (hg: ∀c∈g,bh (dp l) c.1= .bool c.2),Alike (bf ins bs) (dA (Vv 1 L.k) l g hg bs):=fun l g hg=>⟨rfl,rfl,by show 0<bs.length;omega⟩
    have hA': ∀(l l2:List D) (g:List (Tm×Bool)) (hg: ∀c∈g,bh (dp l) c.1= .bool c.2),Alike (dA (Vv 1 L.k) l g hg bs) (bf l2 bs):=fun l l2 g hg=>⟨rfl,rfl,by show 0<bs.length;omega⟩
    have path: ∀{o:k9},iE bs F S t ins l' o→∃l2 A t',l'=ins++l2∧uZ P bs l' A∧B4 P fuel L LB c A t'=true∧((∃v,t'= .ret v)∨(∃q,t'= .next q)∨∃i q,t'= .exit i q)∧Sat bs F S t' 0 l' o:=by
     intro o he
     obtain ⟨hs,l2,rfl⟩:=dh he (by rw [hk];exact h2)
     obtain ⟨A,t',hAcc,hl,hkind,hs'⟩:=di hU h1 (by rw [hk] at hs;exact hs) ⟨fun c h=>(by cases h),fun c h=>(by cases h),fun c h=>(by cases h)⟩
     exact ⟨l2,A,t',rfl,hAcc,hl,hkind,hs'⟩
    rcases hor with he |⟨ins',he,n',hlt,hg'⟩ |⟨ins',he,hg'⟩
    ·obtain ⟨l2,A,t',rfl,hAcc,hl,hkind,hs'⟩:=path he
     rcases hkind with ⟨v,rfl⟩ |⟨q,rfl⟩ |⟨i',q,rfl⟩
     ·unfold Sat at hs';obtain ⟨r,e,_⟩:=hs';cases e
     ·unfold Sat at hs';cases hs'
     ·unfold Sat at hs'
      cases hs'
      replace hl:(match L.outs[i]? with |some o=>lf P L o q (roundOf P fuel L A c) |none=>false)=true:=hl
      cases ho:L.outs[i]? with
      |none=>rw [ho] at hl;cases hl
      |some o=>
       rw [ho] at hl
       replace hl:lf P L o q (roundOf P fuel L A c)=true:=hl
       generalize hr:roundOf P fuel L A c=res at hl
       unfold lf at hl
       split at hl
       ·rename_i x a1 s1
        rw [V1,V1] at hl
        obtain ⟨rfl,hx⟩:=JN hl.1
        have k1:=hl.2.1
        obtain ⟨qq,q1,q2⟩:=gq hl.2.2
        refine ⟨o,rfl,hx,fun N=>?_⟩
        exact xF (E:=bf ins bs) (Er:=dA (Vv 1 L.k) (ins++l2) A.g hAcc.g bs) (orc:=⟨@p9 P.globals.size ⟨A.g,Vv 1 L.k⟩ A.cl A.ll,z2 P.globals.size A.ll⟩) hP h0 (hA _ _ _) (hA' _ _ _ _) (ld hB h0 hAcc) (oz hB h0 hAcc N) hcode g1 (fq (fun i hi=>dQ (by omega)) g2) h4 hr hx q1 (dR (E:=dA (Vv 1 L.k) (ins++l2) A.g hAcc.g bs) q2) k1 h3
       ·cases hl
    ·obtain ⟨l2,A,t',rfl,hAcc,hl,hkind,hs'⟩:=path he
     rcases hkind with ⟨v,rfl⟩ |⟨q,rfl⟩ |⟨i',q,rfl⟩
     ·unfold Sat at hs';obtain ⟨r,e,_⟩:=hs';cases e
     ·unfold Sat at hs'
      cases hs'
      obtain ⟨o,ho,hx,hL⟩:=ih _ i outs n' (by omega) hg'
      replace hl:qe P L q (roundOf P fuel L A c)=true:=hl
      generalize hr:roundOf P fuel L A c=res at hl
      unfold qe at hl
      split at hl
      ·rename_i a1 s1
       rw [V1] at hl
       have k1:=hl.1
       obtain ⟨qq,q1,q2⟩:=gq hl.2
       refine ⟨o,ho,hx,fun N=>?_⟩
       exact xG (E:=bf ins bs) (Er:=dA (Vv 1 L.k) (ins++l2) A.g hAcc.g bs) (orc:=⟨@p9 P.globals.size ⟨A.g,Vv 1 L.k⟩ A.cl A.ll,z2 P.globals.size A.ll⟩) hP h0 (hA _ _ _) (hA' _ _ _ _) (ld hB h0 hAcc) (oz hB h0 hAcc N) hcode g1 (fq (fun i hi=>dQ (by omega)) g2) h4 hr hx q1 (dR (E:=dA (Vv 1 L.k) (ins++l2) A.g hAcc.g bs) q2) k1 h3 (hL N)
      ·cases hl
     ·unfold Sat at hs';cases hs'
    ·obtain ⟨l2,A,t',rfl,hAcc,hl,hkind,hs'⟩:=path he
     rcases hkind with ⟨v,rfl⟩ |⟨q,rfl⟩ |⟨i',q,rfl⟩
     ·unfold Sat at hs'
      obtain ⟨r,e,hv⟩:=hs'
      cases e
      cases v<;>first |(cases hl;done) |skip
      rename_i la
      replace hl: @Vm (List Tm) (fun _=>Bool) false (fun q=>sZ P L LB q (roundOf P fuel L A c)) (xT la)=true:=hl
      cases htm:xT la with
      |none=>rw [htm] at hl;cases hl
      |some q=>
       rw [htm] at hl
       replace hl:sZ P L LB q (roundOf P fuel L A c)=true:=hl
       have hins:ins'=q.map (bh (dp (ins++l2))):=by
        unfold bk at hv
        rw [B3 (E:=bf (ins++l2) bs) htm] at hv
        have:=VF hv
        injection this with this
        exact this.symm
       subst hins
       unfold dG at hJ
       rw [hjc] at hJ
       obtain ⟨o,ho,hL⟩:=hJ _ _ _ hg'
       rw [hjo] at ho
       have hx:=vb hoo ho
       generalize hr:roundOf P fuel L A c=res at hl
       unfold sZ at hl
       split at hl
       ·rename_i a1 s1
        rw [V1] at hl
        have k1:=hl.1
        obtain ⟨qq,q1,q2⟩:=gq hl.2
        refine ⟨o,ho,hx,fun N=>?_⟩
        have hLN:=hL N c (by rw [hjf,hjp];exact hcode)
        rw [hjk] at hLN
        exact G0 (E:=bf ins bs) (Er:=dA (Vv 1 L.k) (ins++l2) A.g hAcc.g bs) (orc:=⟨@p9 P.globals.size ⟨A.g,Vv 1 L.k⟩ A.cl A.ll,z2 P.globals.size A.ll⟩) hP h0 (hA _ _ _) (hA' _ _ _ _) (ld hB h0 hAcc) (oz hB h0 hAcc N) hcode g1 (fq (fun i hi=>dQ (by omega)) g2) h4 hr hx q1 (dR (E:=dA (Vv 1 L.k) (ins++l2) A.g hAcc.g bs) q2) k1 h3 hLN
       ·cases hl
     ·unfold Sat at hs';cases hs'
     ·unfold Sat at hs';cases hs'
  unfold dG
  rw [show L.call=false by simpa using hcl]
  rintro ins i outs ⟨n,hg⟩
  obtain ⟨o,ho,hx,hL⟩:=key (n+1) ins i outs n (by omega) hg
  refine ⟨o,ho,fun N c' hc'=>?_⟩
  rw [hcode] at hc'
  cases hc'
  exact hL N
 ·cases hc
end
end
end Go.Proofs.Sai
