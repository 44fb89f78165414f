/- Part IH of the proof of VerifyClosed: texts of the interpreter and what it shows, under short names. No condition. -/
import Derived.Test.YtgfhbomiljhjpaaGreatDoorIG
set_option linter.unusedVariables false
set_option linter.unusedSimpArgs false
set_option linter.unusedSectionVars false
open Bool renaming and_eq_true→Uj
open List renaming rec→TN,getElem?_cons_succ→Wr,getElem?_map→Ue,mem_cons_of_mem→Ul,mem_cons_self→Uk,append_nil→XL,length_append→Up,append_assoc→UW
open Nat renaming ble→TO,le_of_ble_eq_true→Ua,beq→TJ,eq_of_beq_eq_true→T7,le_antisymm→XI
open Option renaming rec→TH
namespace Go.Proofs.Sai
section
open Go Go.RowKit
noncomputable def fC (l:List D):Nat→D:=fun i=>D.at l i
@[reducible] noncomputable def envG (l:List D) (g:List (Tm×Bool)) (h: ∀c∈g,bc (fC l) c.1= .bool c.2) (bs:List bf):Env:=DF true (fC l) g h bs
@[reducible] noncomputable def bp (l:List D) (bs:List bf):Env:=DF true (fC l) [] (fun c h=>absurd h List.not_mem_nil) bs
mutual
def ri (n:Nat):Tm→Bool
 | .var m=>TO (Nat.succ m) n
 | .op _ l=>lE n l
 | .int .. =>true
 | .bool _=>true
 | .str _=>true
def lE (n:Nat):List Tm→Bool
 |[]=>true
 |x::l=>ri n x&&lE n l
end
mutual
def pU (n:Nat):AV→Bool
 | .tm _ x=>ri n x
 | .agg l=>iV n l
 | .tuple l=>iV n l
 |_=>true
def iV (n:Nat):List AV→Bool
 |[]=>true
 |x::l=>pU n x&&iV n l
end
mutual
theorem iW {ρ ρ':Nat→D} {n:Nat} (h: ∀i,i<n→ρ i=ρ' i): ∀{t:Tm},ri n t=true→bc ρ t=bc ρ' t
 | .var m,ht=>by unfold bc;exact h m (Ua (by unfold ri at ht;exact ht))
 | .op o l,ht=>by unfold bc;rw [AB h (by unfold ri at ht;exact ht)]
 | .int ..,ht=>by unfold bc;rfl
 | .bool _,ht=>by unfold bc;rfl
 | .str _,ht=>by unfold bc;rfl
theorem AB {ρ ρ':Nat→D} {n:Nat} (h: ∀i,i<n→ρ i=ρ' i): ∀{l:List Tm},lE n l=true→aR ρ l=aR ρ' l
 |[],ht=>by unfold aR;rfl
 |x::l,ht=>by
  unfold lE at ht
  rw [Uj] at ht
  unfold aR
  rw [iW h ht.1,AB h ht.2]
end
theorem eE {l m:List D} {i:Nat} (h:i<l.length):fC l i=fC (l++m) i:=by
 show D.at l i=D.at (l++m) i
 unfold D.at
 rw [List.getElem?_append_left h]
theorem Ic {l m:List D} {i:Nat}:fC (l++m) (l.length+i)=D.at m i:=by
 show D.at (l++m) (l.length+i)=D.at m i
 unfold D.at
 rw [List.getElem?_append_right (by omega),Nat.add_sub_cancel_left]
section
variable {E E':Env} {n:Nat}
theorem cF (h: ∀i,i<n→E.ρ i=E'.ρ i) {v:AV} (hv:pU n v=true): @uX E v= @uX E' v:=by
 unfold uX
 cases v<;>first |rfl |skip
 rename_i t x
 show some (bc E.ρ x)=some (bc E'.ρ x)
 rw [iW h (by unfold pU at hv;exact hv)]
theorem AD (h: ∀i,i<n→E.ρ i=E'.ρ i): ∀{l:List AV},iV n l=true→@na E l= @na E' l
 |[],_=>rfl
 |v::vs,hv=>by
  unfold iV at hv
  rw [Uj] at hv
  unfold na
  rw [cF h hv.1,AD h hv.2]
mutual
theorem AE (h: ∀i,i<n→E.ρ i=E'.ρ i): ∀{v:AV},pU n v=true→@bn E v= @bn E' v
 | .agg l,hv=>by unfold bn;rw [AD h (by unfold pU at hv;exact hv)]
 | .tuple l,hv=>by unfold bn;rw [mg h (by unfold pU at hv;exact hv)]
 | .bool b,hv=>by unfold bn;rw [cF h hv]
 | .int k m,hv=>by unfold bn;rw [cF h hv]
 | .str l,hv=>by unfold bn;rw [cF h hv]
 | .aJ,hv=>by unfold bn;rw [cF h hv]
 | .tm t x,hv=>by unfold bn;rw [cF h hv]
 | .float ..,hv=>by unfold bn;rw [cF h hv]
 | .ptr ..,hv=>by unfold bn;rw [cF h hv]
 | .bY,hv=>by unfold bn;rw [cF h hv]
 | .slice ..,hv=>by unfold bn;rw [cF h hv]
 | .map _,hv=>by unfold bn;rw [cF h hv]
 | .ck,hv=>by unfold bn;rw [cF h hv]
 | .func ..,hv=>by unfold bn;rw [cF h hv]
 | .yield _,hv=>by unfold bn;rw [cF h hv]
 | .bU,hv=>by unfold bn;rw [cF h hv]
 | .iface ..,hv=>by unfold bn;rw [cF h hv]
 | .bw,hv=>by unfold bn;rw [cF h hv]
 | .bad,hv=>by unfold bn;rw [cF h hv]
 | .vl ..,hv=>by unfold bn;rw [cF h hv]
 | .e0 _,hv=>by unfold bn;rw [cF h hv]
 | .pe ..,hv=>by unfold bn;rw [cF h hv]
 | .fb ..,hv=>by unfold bn;rw [cF h hv]
theorem mg (h: ∀i,i<n→E.ρ i=E'.ρ i): ∀{l:List AV},iV n l=true→@cI E l= @cI E' l
 |[],_=>by unfold cI;rfl
 |v::vs,hv=>by
  unfold iV at hv
  rw [Uj] at hv
  unfold cI
  rw [AE h hv.1,mg h hv.2]
end
theorem b8 (h: ∀i,i<n→E.ρ i=E'.ρ i) {v:AV} (hv:pU n v=true) (ht: @pR E v): @pR E' v:=by
 cases v<;>first |exact ht |skip
 rename_i t x
 show bA t (bc E'.ρ x)
 rw [←iW h (by unfold pU at hv;exact hv)]
 exact ht
theorem wq (h: ∀i,i<n→E.ρ i=E'.ρ i): ∀{l:List AV},iV n l=true→@lC E l→@lC E' l
 |[],_,_=>trivial
 |v::vs,hv,ht=>by
  unfold iV at hv
  rw [Uj] at hv
  exact ⟨b8 h hv.1 ht.1,wq h hv.2 ht.2⟩
mutual
theorem DG (h: ∀i,i<n→E.ρ i=E'.ρ i): ∀{v:AV},pU n v=true→@dF E v→@dF E' v
 | .agg l,hv,ht=>by unfold dF at ht⊢;exact wq h (by unfold pU at hv;exact hv) ht
 | .tuple l,hv,ht=>by unfold dF at ht⊢;exact tA h (by unfold pU at hv;exact hv) ht
 | .bool b,hv,ht=>by unfold dF at ht⊢;exact b8 h hv ht
 | .int k m,hv,ht=>by unfold dF at ht⊢;exact b8 h hv ht
 | .str l,hv,ht=>by unfold dF at ht⊢;exact b8 h hv ht
 | .aJ,hv,ht=>by unfold dF at ht⊢;exact b8 h hv ht
 | .tm t x,hv,ht=>by unfold dF at ht⊢;exact b8 h hv ht
 | .float ..,hv,ht=>by unfold dF at ht⊢;exact b8 h hv ht
 | .ptr ..,hv,ht=>by unfold dF at ht⊢;exact b8 h hv ht
 | .bY,hv,ht=>by unfold dF at ht⊢;exact b8 h hv ht
 | .slice ..,hv,ht=>by unfold dF at ht⊢;exact b8 h hv ht
 | .map _,hv,ht=>by unfold dF at ht⊢;exact b8 h hv ht
 | .ck,hv,ht=>by unfold dF at ht⊢;exact b8 h hv ht
 | .func ..,hv,ht=>by unfold dF at ht⊢;exact b8 h hv ht
 | .yield _,hv,ht=>by unfold dF at ht⊢;exact b8 h hv ht
 | .bU,hv,ht=>by unfold dF at ht⊢;exact b8 h hv ht
 | .iface ..,hv,ht=>by unfold dF at ht⊢;exact b8 h hv ht
 | .bw,hv,ht=>by unfold dF at ht⊢;exact b8 h hv ht
 | .bad,hv,ht=>by unfold dF at ht⊢;exact b8 h hv ht
 | .vl ..,hv,ht=>by unfold dF at ht⊢;exact b8 h hv ht
 | .e0 _,hv,ht=>by unfold dF at ht⊢;exact b8 h hv ht
 | .pe ..,hv,ht=>by unfold dF at ht⊢;exact b8 h hv ht
 | .fb ..,hv,ht=>by unfold dF at ht⊢;exact b8 h hv ht
theorem tA (h: ∀i,i<n→E.ρ i=E'.ρ i): ∀{l:List AV},iV n l=true→@ix E l→@ix E' l
 |[],_,ht=>by unfold ix;trivial
 |v::vs,hv,ht=>by
  unfold iV at hv
  rw [Uj] at hv
  unfold ix at ht⊢
  exact ⟨DG h hv.1 ht.1,tA h hv.2 ht.2⟩
end
end
section
variable {E E':Env}
theorem cG (h:E.ρ=E'.ρ) (v:AV): @uX E v= @uX E' v:=by
 unfold uX ev
 rw [h]
theorem AF (h:E.ρ=E'.ρ): ∀l:List AV,@na E l= @na E' l
 |[]=>rfl
 |v::vs=>by unfold na;rw [cG h v,AF h vs]
mutual
theorem tB (h:E.ρ=E'.ρ): ∀v:AV,@bn E v= @bn E' v
 | .agg l=>by unfold bn;rw [AF h l]
 | .tuple l=>by unfold bn;rw [pV h l]
 | .bool b=>by unfold bn;rw [cG h]
 | .int k m=>by unfold bn;rw [cG h]
 | .str l=>by unfold bn;rw [cG h]
 | .aJ=>by unfold bn;rw [cG h]
 | .tm t x=>by unfold bn;rw [cG h]
 | .float .. =>by unfold bn;rw [cG h]
 | .ptr .. =>by unfold bn;rw [cG h]
 | .bY=>by unfold bn;rw [cG h]
 | .slice .. =>by unfold bn;rw [cG h]
 | .map _=>by unfold bn;rw [cG h]
 | .ck=>by unfold bn;rw [cG h]
 | .func .. =>by unfold bn;rw [cG h]
 | .yield _=>by unfold bn;rw [cG h]
 | .bU=>by unfold bn;rw [cG h]
 | .iface .. =>by unfold bn;rw [cG h]
 | .bw=>by unfold bn;rw [cG h]
 | .bad=>by unfold bn;rw [cG h]
 | .vl .. =>by unfold bn;rw [cG h]
 | .e0 _=>by unfold bn;rw [cG h]
 | .pe .. =>by unfold bn;rw [cG h]
 | .fb .. =>by unfold bn;rw [cG h]
theorem pV (h:E.ρ=E'.ρ): ∀l:List AV,@cI E l= @cI E' l
 |[]=>by unfold cI;rfl
 |v::vs=>by unfold cI;rw [tB h v,pV h vs]
end
theorem b9 (h:E.ρ=E'.ρ) {v:AV} (ht: @pR E v): @pR E' v:=by
 unfold pR ev at ht⊢
 rw [←h]
 exact ht
theorem wt (h:E.ρ=E'.ρ): ∀{l:List AV},@lC E l→@lC E' l
 |[],_=>trivial
 |v::vs,ht=>⟨b9 h ht.1,wt h ht.2⟩
mutual
theorem DH (h:E.ρ=E'.ρ): ∀{v:AV},@dF E v→@dF E' v
 | .agg l,ht=>by unfold dF at ht⊢;exact wt h ht
 | .tuple l,ht=>by unfold dF at ht⊢;exact AG h ht
 | .bool b,ht=>by unfold dF at ht⊢;exact b9 h ht
 | .int k m,ht=>by unfold dF at ht⊢;exact b9 h ht
 | .str l,ht=>by unfold dF at ht⊢;exact b9 h ht
 | .aJ,ht=>by unfold dF at ht⊢;exact b9 h ht
 | .tm t x,ht=>by unfold dF at ht⊢;exact b9 h ht
 | .float ..,ht=>by unfold dF at ht⊢;exact b9 h ht
 | .ptr ..,ht=>by unfold dF at ht⊢;exact b9 h ht
 | .bY,ht=>by unfold dF at ht⊢;exact b9 h ht
 | .slice ..,ht=>by unfold dF at ht⊢;exact b9 h ht
 | .map _,ht=>by unfold dF at ht⊢;exact b9 h ht
 | .ck,ht=>by unfold dF at ht⊢;exact b9 h ht
 | .func ..,ht=>by unfold dF at ht⊢;exact b9 h ht
 | .yield _,ht=>by unfold dF at ht⊢;exact b9 h ht
 | .bU,ht=>by unfold dF at ht⊢;exact b9 h ht
 | .iface ..,ht=>by unfold dF at ht⊢;exact b9 h ht
 | .bw,ht=>by unfold dF at ht⊢;exact b9 h ht
 | .bad,ht=>by unfold dF at ht⊢;exact b9 h ht
 | .vl ..,ht=>by unfold dF at ht⊢;exact b9 h ht
 | .e0 _,ht=>by unfold dF at ht⊢;exact b9 h ht
 | .pe ..,ht=>by unfold dF at ht⊢;exact b9 h ht
 | .fb ..,ht=>by unfold dF at ht⊢;exact b9 h ht
theorem AG (h:E.ρ=E'.ρ): ∀{l:List AV},@ix E l→@ix E' l
 |[],ht=>by unfold ix;trivial
 |v::vs,ht=>by unfold ix at ht⊢;exact ⟨DH h ht.1,AG h ht.2⟩
end
end
structure LO where
 x:gW
 ao:aV
 so:St
 m:Nat
 v:AV
 rt:List Pos
 bl:List Pos
structure LD where
 f:FuncId
 p:Pos
 rd:Option Pos
 a0:aV
 s0:St
 k:Nat
 bx:List Pos
 outs:List LO
 call:Bool
 args:List AV
def N1 (P:Program) (bs:List bf) (L:LD) (R:List D→Nat→List D→Prop):Prop:=
 ∀ins i outs,R ins i outs→∃o,L.outs[i]? =some o∧∀N c,cJ P L.f L.p=some (.loop c)→kf (bp ins bs) (bp outs bs) P N L.rd c L.a0 L.s0 o.x o.ao o.so L.bx
def N2 (P:Program) (bs:List bf) (L:LD) (R:List D→Nat→List D→Prop):Prop:=
 ∀ins i outs,R ins i outs→∃o,L.outs[i]? =some o∧pT (bp ins bs) (bp outs bs) P L.f L.args L.s0 o.v o.so L.bx
def eu (P:Program) (bs:List bf) (L:LD) (R:List D→Nat→List D→Prop):Prop:=cond L.call (N2 P bs L R) (N1 P bs L R)
abbrev uY:=FuncId×Option (TypeId×Nat)
def FnS (P:Program) (bs:List bf) (f:uY) (R:List DV→DV→Prop):Prop:=∀ds r,R ds r→R9 P bs f.1 f.2 ds r
structure LU where
 L:LD
 q:List Tm
 o:LO
 n:Nat
noncomputable def Qy (l:List Tm):Nat→Option Tm:=
 @TN Tm (fun _=>Nat→Option Tm) (fun _=>none) (fun v _ ih i=>aQ (TJ i 0) (some v) (ih (Nat.pred i))) l
theorem DI: ∀(l:List Tm) (i:Nat),Qy l i=l[i]?
 |[],i=>rfl
 |v::l,0=>rfl
 |v::l,i+1=>by rw [Wr,←DI l i];rfl
mutual
noncomputable def kh (q:List Tm):Tm→Option Tm
 | .var j=>Qy q j
 | .op o l=>omap (oO q l) (.op o)
 | .int k n=>some (.int k n)
 | .bool b=>some (.bool b)
 | .str s=>some (.str s)
noncomputable def oO (q:List Tm):List Tm→Option (List Tm)
 |[]=>some []
 |x::l=>ai (kh q x) fun y=>omap (oO q l) fun m=>y::m
end
mutual
theorem wu {ρ:Nat→D} {q:List Tm}: ∀{x y:Tm},kh q x=some y→bc (fC (q.map (bc ρ))) x=bc ρ y
 | .var j,y,h=>by
  unfold kh at h
  rw [DI] at h
  rw [show bc (fC (q.map (bc ρ))) (.var j)=D.at (q.map (bc ρ)) j by unfold bc;rfl]
  unfold D.at
  rw [Ue,h]
  rfl
 | .op o l,y,h=>by
  unfold kh at h
  obtain ⟨m,hm,rfl⟩:=ba.1 h
  unfold bc
  rw [tC hm]
 | .int k n,y,h=>by unfold kh at h;cases h;unfold bc;rfl
 | .bool b,y,h=>by unfold kh at h;cases h;unfold bc;rfl
 | .str s,y,h=>by unfold kh at h;cases h;unfold bc;rfl
theorem tC {ρ:Nat→D} {q:List Tm}: ∀{l m:List Tm},oO q l=some m→aR (fC (q.map (bc ρ))) l=aR ρ m
 |[],m,h=>by unfold oO at h;cases h;unfold aR;rfl
 |x::l,m,h=>by
  unfold oO at h
  obtain ⟨y,hy,h⟩:=aa.1 h
  obtain ⟨n,hn,rfl⟩:=ba.1 h
  unfold aR
  rw [wu hy,tC hn]
end
mutual
noncomputable def eM (n:Nat):Tm→Tm
 | .var j=>.var (Nat.add n j)
 | .op o l=>.op o (oP n l)
 | .int k i=>.int k i
 | .bool b=>.bool b
 | .str s=>.str s
noncomputable def oP (n:Nat):List Tm→List Tm
 |[]=>[]
 |x::l=>eM n x::oP n l
end
mutual
theorem wv {ρ ρ':Nat→D} {n m:Nat} (h: ∀j,j<m→ρ (n+j)=ρ' j): ∀{x:Tm},ri m x=true→bc ρ (eM n x)=bc ρ' x
 | .var j,hx=>by unfold eM bc;exact h j (Ua (by unfold ri at hx;exact hx))
 | .op o l,hx=>by unfold eM bc;rw [tD h (by unfold ri at hx;exact hx)]
 | .int k i,hx=>by unfold eM bc;rfl
 | .bool b,hx=>by unfold eM bc;rfl
 | .str s,hx=>by unfold eM bc;rfl
theorem tD {ρ ρ':Nat→D} {n m:Nat} (h: ∀j,j<m→ρ (n+j)=ρ' j): ∀{l:List Tm},lE m l=true→aR ρ (oP n l)=aR ρ' l
 |[],hx=>by unfold oP aR;rfl
 |x::l,hx=>by
  unfold lE at hx
  rw [Uj] at hx
  unfold oP aR
  rw [wv h hx.1,tD h hx.2]
end
noncomputable def Ie (q:List Tm) (x y:Tm):Bool:=@TH Tm (fun _=>Bool) false (fun t=>cK t y) (kh q x)
noncomputable def Cq (q:List Tm):gF→Bool
 |[]=>true
 |e::l=>aQ (Ie q e.1 e.2) (Cq q l) false
noncomputable def Cr (n m:Nat) (x y:Tm):Bool:=cK x (eM n y)&&ri m y
noncomputable def AH (n m:Nat):gF→Bool
 |[]=>true
 |e::l=>aQ (Cr n m e.1 e.2) (AH n m l) false
abbrev Fy:=List (Pos×Pos)×List Pos
mutual
noncomputable def Fz:AV→AV→Fy→Fy
 | .ptr b _,v,A=>(match v with | .ptr c _=>((b,c)::A.1,A.2) |_=>A)
 | .slice b _ _ _ _,v,A=>(match v with | .slice c _ _ _ _=>((b,c)::A.1,A.2) |_=>A)
 | .map b,v,A=>(match v with | .map c=>((b,c)::A.1,A.2) |_=>A)
 | .yield b,v,A=>(match v with | .yield c=>((b,c)::A.1,A.2) |_=>A)
 | .vl _ _ b,v,A=>(match v with | .vl _ _ c=>((b,c)::A.1,A.2) | .aJ=>(A.1,b::A.2) | .e0 _=>(A.1,b::A.2) | .slice _ _ _ _ _=>(A.1,b::A.2) |_=>A)
 | .pe _ b _ _,v,A=>(match v with | .pe _ c _ _=>((b,c)::A.1,A.2) |_=>A)
 | .func _ l m,v,A=>(match v with | .func _ l' m'=>qT l l' (qT m m' A) |_=>A)
 | .iface _ x,v,A=>(match v with | .iface _ y=>Fz x y A |_=>A)
 | .agg l,v,A=>(match v with | .agg m=>qT l m A |_=>A)
 | .tuple l,v,A=>(match v with | .tuple m=>qT l m A |_=>A)
 |_,_,A=>A
noncomputable def qT:List AV→List AV→Fy→Fy
 |[],_,A=>A
 |x::l,m,A=>(match m with |y::m=>Fz x y (qT l m A) |[]=>A)
end
noncomputable def prO (o p:Option AV) (A:Fy):Fy:=match o with |some x=>(match p with |some y=>Fz x y A |none=>A) |none=>A
noncomputable def Ct:Tr AV→Tr AV→Fy→Fy
 | .nil,_,A=>A
 | .node v l r,t,A=>prO v (te t) (Ct l (xB t) (Ct r (rA t) A))
noncomputable def Qz:List (AV×AV)→List (AV×AV)→Fy→Fy
 |[],_,A=>A
 |x::l,m,A=>(match m with |y::m=>Fz x.1 y.1 (Fz x.2 y.2 (Qz l m A)) |[]=>A)
noncomputable def QA (k k':bf) (A:Fy):Fy:=
 match k with
 | .cells _ _ _ (.nB l)=>(match k' with | .cells _ _ _ (.nB m)=>qT l m A |_=>A)
 | .map l=>(match k' with | .map m=>Qz l m A |_=>A)
 | .loop p=>(match k' with | .loop q=>Ct p.tm q.tm ((p.defers,q.defers)::A.1,A.2) |_=>A)
 |_=>A
noncomputable def xI (G:Nat):List (Pos×Pos):=@Nat.rec (fun _=>List (Pos×Pos)) [] (fun k ih=>(pos k,pos k)::ih) G
noncomputable def SN (s0 s:St):Nat→List (Pos×Pos)→List (Pos×Pos)→List Pos→gV
 |0,_,r,z=>⟨r,z⟩
 |n+1,t,r,z=>(match t with
  |[]=>⟨r,z⟩
  |x::t=>(match bK r x.1 with
   |some _=>SN s0 s n t r z
   |none=>(match s0.h.get x.1 with
    |some k=>(match s.h.get x.2 with
     |some k'=>(match QA k k' ([],[]) with |(t',z')=>SN s0 s n (t'++t) (x::r) (z'++z))
     |none=>⟨r,z⟩)
    |none=>⟨r,z⟩)))
noncomputable def pW (G:Nat) (rt:List Pos) (s0 s:St) (A:Fy):gV:=SN s0 s 300 (rt.map (fun b=>(b,b))++A.1) (xI G) A.2
noncomputable def Sa (bx:List Pos) (ν:gV):List Pos→Pos→List (Pos×Pos)×Pos
 |[],n=>([],n)
 |b::l,n=>(match aQ (gn bx b) (bK ν.r b) none with
  |some c=>(match Sa bx ν l n with |(q,m)=>((b,c)::q,m))
  |none=>(match Sa bx ν l n.succ with |(q,m)=>((b,n)::q,m)))
noncomputable def qU (r:List (Pos×Pos)) (b:Pos):Pos:=match bK r b with |some c=>c |none=>b
mutual
noncomputable def pX (r:List (Pos×Pos)) (n:Nat):AV→AV
 | .ptr b o=>.ptr (qU r b) o
 | .slice b o m l w=>.slice (qU r b) o m l w
 | .map b=>.map (qU r b)
 | .yield b=>.yield (qU r b)
 | .func f l m=>.func f (mh r n l) (mh r n m)
 | .iface t x=>.iface t (pX r n x)
 | .agg l=>.agg (mh r n l)
 | .tuple l=>.tuple (mh r n l)
 | .tm t x=>.tm t (eM n x)
 | .vl ts m b=>.vl ts (eM n m) (qU r b)
 | .pe ts b i o=>.pe ts (qU r b) (eM n i) o
 | .fb x=>.fb (eM n x)
 |v=>v
noncomputable def mh (r:List (Pos×Pos)) (n:Nat):List AV→List AV
 |[]=>[]
 |x::l=>pX r n x::mh r n l
end
noncomputable def xJ (r:List (Pos×Pos)) (n:Nat):Tr AV→Tr AV
 | .nil=>.nil
 | .node v a b=>.node (match v with |some x=>some (pX r n x) |none=>none) (xJ r n a) (xJ r n b)
noncomputable def K1 (r:List (Pos×Pos)) (n:Nat) (k:bf):bf:=
 match k with
 | .cells o t m (.nB l)=>.cells o t m (.nB (mh r n l))
 | .map l=>.map (l.map fun x=>(pX r n x.1,pX r n x.2))
 | .vec o t ts m x=>.vec o t ts (eM n m) (eM n x)
 | .bW g kt ts x=>.bW g kt ts (eM n x)
 | .loop p=>.loop {p with tm:=xJ r n p.tm,defers:=qU r p.defers}
 |k=>k
noncomputable def oQ (r:List (Pos×Pos)) (n:Nat) (so:St):List Pos→List (Pos×bf)
 |[]=>[]
 |b::l=>(match so.h.get b with |some k=>(qU r b,K1 r n k)::oQ r n so l |none=>oQ r n so l)
noncomputable def oR (G:Nat) (r:List (Pos×Pos)):List (Pos×Pos)→List (Pos×bf)
 |[]=>[]
 |x::l=>aQ (aQ (Aq x.2 r) true (TO (Nat.succ (uK x.2)) G)) (oR G r l) ((x.2,.dead)::oR G r l)
noncomputable def Mh (l:List (Pos×Pos)):List (Pos×Pos):=l.map fun x=>(x.2,x.1)
noncomputable def K2 (G:Nat) (u:LU) (rd:Option Pos) (a:aV) (s:St):Option Out:=
 match pW G [] u.L.s0 s (Ct u.L.a0.tm a.tm ([],[])) with
 |ν=>(match Sa u.L.bx ν u.o.bl s.n with
  |(r,n1)=>(match oQ r u.n u.o.so u.o.bl++oR G r ν.r with
   |rows=>(match (⟨Mh r++xI G,[]⟩:gV),aV.mk (xJ r u.n u.o.ao.tm) u.o.ao.n [] none with
    |ν',a1=>ai (dE G ν u.L.rd rd u.L.a0 u.L.s0 a s) fun qq=>aQ (Cq u.q qq) (ai (pN G u.L.bx ν ν' s u.o.ao u.o.so a1 rows n1) fun q'=>aQ (AH u.n u.o.m q') (some (.at u.o.x a1 (iv s rows n1))) none) none)))
noncomputable def Cu (G:Nat) (u:LU) (args:List AV) (s:St):Option dV:=
 match pW G [] u.L.s0 s (qT u.L.args args ([],[])) with
 |ν=>(match Sa u.L.bx ν u.o.bl s.n with
  |(r,n1)=>(match oQ r u.n u.o.so u.o.bl++oR G r ν.r with
   |rows=>(match (⟨Mh r++xI G,[]⟩:gV),pX r u.n u.o.v with
    |ν',v=>ai (gQ (cW ν u.L.args args) (dE G ν none none aV.none u.L.s0 aV.none s)) fun qq=>aQ (Cq u.q qq) (ai (gQ (bG ν' v u.o.v) (pN G u.L.bx ν ν' s aV.none u.o.so aV.none rows n1)) fun q'=>aQ (AH u.n u.o.m q') (some (.gen v (iv s rows n1))) none) none)))
noncomputable def N3 (G:Nat) [Gam] (u:LU) (args:List AV) (s:St):Option dV:=ai (dj args s) fun q=>Cu G u q.1 q.2
noncomputable def ki (els o:Option dV):Option dV:=@TH dV (fun _=>Option dV) els (fun x=>some x) o
noncomputable def Cv (G:Nat) [Gam] (l:List LU) (f:FuncId) (args:List AV) (s:St):Option dV:=
 @TN LU (fun _=>Option dV) none (fun u _ ih=>aQ (u.L.call&&TJ u.L.f f) (ki (ki ih (N3 G u args s)) (Cu G u args s)) ih) l
noncomputable def tE (G:Nat) [Gam] (cl:List qE) (ll:List LU) (f:FuncId) (args:List AV) (s:St):Option dV:=ki (Cv G ll f args s) (uO cl f args s)
noncomputable def Cw (G:Nat) (l:List LU):Hk:=fun f p rd a s=>
 @TN LU (fun _=>Option Out) none (fun u _ ih=>aQ (!u.L.call&&(TJ u.L.f f&&jh u.L.p p)) (qC ih (K2 G u rd a s)) ih) l
section
variable {P:Program} {bs:List bf}
def xK (P:Program) (bs:List bf) (ρ:Nat→D) (u:LU):Prop:=
 oJ u.o.x=true∧∃outs:List D,(∀j,j<u.o.m→ρ (u.n+j)=D.at outs j)∧cond u.L.call (pT (bp (u.q.map (bc ρ)) bs) (bp outs bs) P u.L.f u.L.args u.L.s0 u.o.v u.o.so u.L.bx)
  (∀N c,cJ P u.L.f u.L.p=some (.loop c)→kf (bp (u.q.map (bc ρ)) bs) (bp outs bs) P N u.L.rd c u.L.a0 u.L.s0 u.o.x u.o.ao u.o.so u.L.bx)
theorem PG {ρ ρ':Nat→D} {t:Tm} (h:ri 0 t=true):bc ρ t=bc ρ' t:=iW (fun i hi=>absurd hi (Nat.not_lt_zero _)) h
theorem fO {E:Env} {q:List Tm}: ∀{qq:gF},Cq q qq=true→bL E (bp (q.map (bc E.ρ)) bs) qq
 |[],_=>fun p hp=>by cases hp
 |e::l,h=>by
  obtain ⟨h1,h2⟩:=bB (show aQ (Ie q e.1 e.2) (Cq q l) false=true from h)
  intro p hp
  rcases List.mem_cons.1 hp with rfl |hp
  ·show bc (fC (q.map (bc E.ρ))) p.1=bc E.ρ p.2
   unfold Ie at h1
   cases hs:kh q p.1 with
   |none=>rw [hs] at h1;cases h1
   |some t=>
    rw [hs] at h1
    rw [wu hs,cP (show cK t p.2=true from h1)]
  ·exact fO h2 p hp
theorem lF {E:Env} {outs:List D} {n m:Nat} (ho: ∀j,j<m→E.ρ (n+j)=D.at outs j): ∀{qq:gF},AH n m qq=true→bL (bp outs bs) E qq
 |[],_=>fun p hp=>by cases hp
 |e::l,h=>by
  obtain ⟨h1,h2⟩:=bB (show aQ (Cr n m e.1 e.2) (AH n m l) false=true from h)
  intro p hp
  rcases List.mem_cons.1 hp with rfl |hp
  ·show bc E.ρ p.1=bc (fC outs) p.2
   unfold Cr at h1
   rw [Uj] at h1
   rw [cP h1.1]
   exact wv ho h1.2
  ·exact lF ho h2 p hp
theorem Ig {E:Env} (hn: @Env.n E=bs.length) (hb: @Env.base E=jD bs) (h0:0<bs.length) (hG0:0<P.globals.size) {N:Nat}: ∀{l:List LU},(∀u∈l,xK P bs E.ρ u)→@sS E P N (@Cw P.globals.size l)
 |[],h=>fun f p rd a s o ho=>by cases ho
 |u::l,h=>by
  intro f p rd a s o ho c hc
  have ih:=Ig hn hb h0 hG0 (N:=N) (l:=l) fun x hx=>h x (Ul _ hx)
  replace ho:aQ (!u.L.call&&(TJ u.L.f f&&jh u.L.p p)) (qC (Cw P.globals.size l f p rd a s) (K2 P.globals.size u rd a s)) (Cw P.globals.size l f p rd a s)=some o:=ho
  cases hm:(!u.L.call&&(TJ u.L.f f&&jh u.L.p p)) with
  |false=>rw [hm] at ho;exact ih f p rd a s o ho c hc
  |true=>
   rw [hm] at ho
   simp only [Uj,Bool.not_eq_true'] at hm
   obtain ⟨hcall,e1,e2⟩:=hm
   have e1:=T7 e1
   have e2:=dm e2
   rcases mZ (show qC (Cw P.globals.size l f p rd a s) (K2 P.globals.size u rd a s)=some o from ho) with ho |ho
   ·unfold K2 at ho
    obtain ⟨qq,h1,ho⟩:=aa.1 ho
    obtain ⟨h2,ho⟩:=aA.1 ho
    obtain ⟨q',h3,ho⟩:=aa.1 ho
    obtain ⟨h4,ho⟩:=aA.1 ho
    cases ho
    obtain ⟨v0,outs,v1,v2⟩:=h u (Uk ..)
    rw [hcall] at v2
    subst e1 e2
    have hA: ∀l:List D,Alike E (bp l bs):=fun l=>⟨hn.symm,hb.symm,by rw [hn];exact h0⟩
    exact H6 (E:=E) (E2:=bp (u.q.map (bc E.ρ)) bs) (E':=bp outs bs) hG0 (hA _) (hA _) v0 h1 (fO h2) h3 (lF v1 h4) (v2 N c hc)
   ·exact ih f p rd a s o ho c hc
theorem lG {els o:Option dV} {r:dV} (h:ki els o=some r):o=some r∨els=some r:=by
 cases o with
 |none=>exact .inr h
 |some x=>exact .inl h
theorem DJ {E:Env} (hn: @Env.n E=bs.length) (hb: @Env.base E=jD bs) (h0:0<bs.length) (hG0:0<P.globals.size) {u:LU} (hv:xK P bs E.ρ u) (hcall:u.L.call=true) {args:List AV} {s:St} {o:dV} (ho:Cu P.globals.size u args s=some o):
 (∃fn c,P.funcs[u.L.f]? =some fn∧fn.body=some c)∧∃v s',o= .gen v s'∧∀N μ w cs us,@SR E P N μ s w→@bZ E P μ args us→@kM E P N (.norm cs) u.L.f (lone (Frame.enter P u.L.f us.toArray .normal) cs w) μ s w (o.out s):=by
 unfold Cu at ho
 obtain ⟨qq,h1,ho⟩:=aa.1 ho
 obtain ⟨h2,ho⟩:=aA.1 ho
 obtain ⟨q',h3,ho⟩:=aa.1 ho
 obtain ⟨h4,ho⟩:=aA.1 ho
 cases ho
 obtain ⟨v0,outs,v1,v2⟩:=hv
 rw [hcall] at v2
 have hA: ∀l:List D,Alike E (bp l bs):=fun l=>⟨hn.symm,hb.symm,by rw [hn];exact h0⟩
 obtain ⟨qa,qs,w1,w2,rfl⟩:=cq h1
 obtain ⟨qv,qo,w3,w4,rfl⟩:=cq h3
 have hi:=fO (bs:=bs) (E:=E) h2
 have ho:=lF (bs:=bs) (E:=E) v1 h4
 have:=Ib (E:=E) (E2:=bp (u.q.map (bc E.ρ)) bs) (E':=bp outs bs) hG0 (hA _) (hA _) w1 hi.left w2 hi.right w3 ho.left w4 ho.right v2
 exact ⟨this.1,_,_,rfl,this.2⟩
theorem DK {E:Env} (hn: @Env.n E=bs.length) (hb: @Env.base E=jD bs) (h0:0<bs.length) (hG0:0<P.globals.size): ∀{l:List LU},(∀u∈l,xK P bs E.ρ u)→@kN E P (@Cv P.globals.size E.toGam l)
 |[],h=>fun f args s o ho=>by cases ho
 |u::l,h=>by
  intro f args s o ho
  have ih:=DK hn hb h0 hG0 (l:=l) (fun x hx=>h x (Ul _ hx)) f args s o
  replace ho:aQ (u.L.call&&TJ u.L.f f) (ki (ki (@Cv P.globals.size E.toGam l f args s) (@N3 P.globals.size E.toGam u args s)) (Cu P.globals.size u args s)) (@Cv P.globals.size E.toGam l f args s)=some o:=ho
  cases hm:(u.L.call&&TJ u.L.f f) with
  |false=>rw [hm] at ho;exact ih ho
  |true=>
   rw [hm] at ho
   simp only [Uj] at hm
   obtain ⟨hcall,e1⟩:=hm
   have e1:=T7 e1
   subst e1
   rcases lG (show ki (ki (@Cv P.globals.size E.toGam l u.L.f args s) (@N3 P.globals.size E.toGam u args s)) (Cu P.globals.size u args s)=some o from ho) with ho |ho
   ·obtain ⟨h1,v,s',rfl,h2⟩:=DJ hn hb h0 hG0 (h u (Uk ..)) hcall ho
    exact ⟨h1,h2⟩
   ·rcases lG ho with ho |ho
    ·obtain ⟨⟨args',s1⟩,hf,ho⟩:=aa.1 (show ai (@dj E.toGam args s) (fun q=>Cu P.globals.size u q.1 q.2)=some o from ho)
     obtain ⟨h1,v,s',rfl,h2⟩:=DJ hn hb h0 hG0 (h u (Uk ..)) hcall ho
     refine ⟨h1,fun N μ w cs us hs ha=>?_⟩
     obtain ⟨fz1,g1,n1,ha1⟩:=@eb E _ _ _ _ _ _ _ _ _ hs ha hf
     obtain ⟨μ',w',u',V,fr,q1,q2,q3,q4,q5,q6,q7⟩:=h2 N _ w cs us (@bI.sr E _ _ _ _ _ _ _ _ g1) ha1
     exact ⟨μ',w',u',V,fr,@bI.trans E _ _ _ _ _ _ _ _ _ _ _ g1 q1,q2,q3,q4,q5,q6,q7⟩
    ·exact ih ho
theorem K3 {E:Env} {cl:List qE} {ll:List LU} (h1: @kN E P (@Cv P.globals.size E.toGam ll)) (h2: @kN E P (@uO E.toGam cl)): @kN E P (@tE P.globals.size E.toGam cl ll):=by
 intro f args s x hx
 rcases lG (show ki (@Cv P.globals.size E.toGam ll f args s) (@uO E.toGam cl f args s)=some x from hx) with h |h
 ·exact h2 f args s x h
 ·exact h1 f args s x h
end
mutual
inductive PT where
 |ret (v:AV)
 |dead
 |next (q:List Tm)
 |exit (i:Nat) (q:List Tm)
 |split (c:Tm) (y n:PT)
 |call (i:Nat) (args:List AV) (v:AV) (k:Nat) (nx:PT)
 |loop (i:Nat) (q:List Tm) (b:FA)
inductive FA where
 |nil
 |cons (m:Nat) (nx:PT) (b:FA)
end
mutual
def tG:PT→Nat→Bool
 | .ret v,n=>pU n v
 | .dead,n=>true
 | .next q,n=>lE n q
 | .exit _ q,n=>lE n q
 | .split c y z,n=>ri n c&&(tG y n&&tG z n)
 | .call _ args v k nx,n=>iV n args&&(pU (n+k) v&&tG nx (n+k))
 | .loop _ q b,n=>lE n q&&Ih b n
def Ih:FA→Nat→Bool
 | .nil,_=>true
 | .cons m nx b,n=>tG nx (n+m)&&Ih b n
end
inductive mu where
 |ret (r:DV)
 |next (ins:List D)
 |exit (i:Nat) (outs:List D)
mutual
def aM:DV→List D
 | .c d=>[d]
 | .agg l=>l
 | .gf l=>aF l
def aF:List DV→List D
 |[]=>[]
 |v::vs=>aM v++aF vs
end
section
variable (bs:List bf) (F:List (List DV→DV→Prop)) (L:List (List D→Nat→List D→Prop))
mutual
def ny:PT→List D→List D→mu→Prop
 | .ret v,l,l',o=>l'=l∧∃r,@bn (bp l bs) v=some r∧o= .ret r
 | .dead,_,_,_=>False
 | .next q,l,l',o=>l'=l∧o= .next (q.map (bc (fC l)))
 | .exit i q,l,l',o=>l'=l∧o= .exit i (q.map (bc (fC l)))
 | .split c y n,l,l',o=>(bc (fC l) c= .bool true∧ny y l l' o)∨(bc (fC l) c= .bool false∧ny n l l' o)
 | .call i args v k nx,l,l',o=>∃R ds r,F[i]? =some R∧@cI (bp l bs) args=some ds∧R ds r∧(aM r).length=k∧@bn (bp (l++aM r) bs) v=some r∧@dF (bp (l++aM r) bs) v∧ny nx (l++aM r) l' o
 | .loop i q b,l,l',o=>∃R j outs,L[i]? =some R∧R (q.map (bc (fC l))) j outs∧xL b j outs l l' o
def xL:FA→Nat→List D→List D→List D→mu→Prop
 | .nil,_,_,_,_,_=>False
 | .cons m nx _,0,outs,l,l',o=>outs.length=m∧ny nx (l++outs) l' o
 | .cons _ _ b,j+1,outs,l,l',o=>xL b j outs l l' o
end
mutual
def Sat:PT→Nat→List D→mu→Prop
 | .ret v,_,l,o=>∃r,o= .ret r∧@bn (bp l bs) v=some r
 | .dead,_,l,o=>False
 | .next q,_,l,o=>o= .next (q.map (bc (fC l)))
 | .exit i q,_,l,o=>o= .exit i (q.map (bc (fC l)))
 | .split c y z,n,l,o=>(bc (fC l) c= .bool true∧Sat y n l o)∨(bc (fC l) c= .bool false∧Sat z n l o)
 | .call i args v k nx,n,l,o=>(∃R ds r,F[i]? =some R∧@cI (bp l bs) args=some ds∧R ds r∧@bn (bp l bs) v=some r∧@dF (bp l bs) v)∧Sat nx (n+k) l o
 | .loop i q b,n,l,o=>∃R j outs,L[i]? =some R∧R (q.map (bc (fC l))) j outs∧(∀i,i<outs.length→fC l (n+i)=D.at outs i)∧oU b j outs n l o
def oU:FA→Nat→List D→Nat→List D→mu→Prop
 | .nil,_,_,_,_,_=>False
 | .cons m nx _,0,outs,n,l,o=>outs.length=m∧Sat nx (n+m) l o
 | .cons _ _ b,j+1,outs,n,l,o=>oU b j outs n l o
end
end
section
variable {bs:List bf} {F:List (List DV→DV→Prop)} {L:List (List D→Nat→List D→Prop)}
theorem AI {ρ ρ':Nat→D} {n:Nat} (h: ∀i,i<n→ρ i=ρ' i): ∀{q:List Tm},lE n q=true→q.map (bc ρ)=q.map (bc ρ')
 |[],_=>rfl
 |x::q,hq=>by
  unfold lE at hq
  rw [Uj] at hq
  rw [List.map_cons,List.map_cons,iW h hq.1,AI h hq.2]
mutual
theorem du: ∀{t:PT} {l l':List D} {o:mu},ny bs F L t l l' o→tG t l.length=true→Sat bs F L t l.length l' o∧∃r,l'=l++r
 | .ret v,l,l',o,h,ht=>by
  unfold ny at h
  obtain ⟨rfl,r,h1,rfl⟩:=h
  unfold Sat
  exact ⟨⟨r,rfl,h1⟩,[],(XL _).symm⟩
 | .dead,l,l',o,h,ht=>by unfold ny at h;exact h.elim
 | .next q,l,l',o,h,ht=>by
  unfold ny at h
  obtain ⟨rfl,rfl⟩:=h
  unfold Sat
  exact ⟨rfl,[],(XL _).symm⟩
 | .exit i q,l,l',o,h,ht=>by
  unfold ny at h
  obtain ⟨rfl,rfl⟩:=h
  unfold Sat
  exact ⟨rfl,[],(XL _).symm⟩
 | .split c y z,l,l',o,h,ht=>by
  unfold ny at h
  unfold tG at ht
  rw [Uj,Uj] at ht
  unfold Sat
  rcases h with ⟨hc,h⟩ |⟨hc,h⟩
  ·obtain ⟨h1,r,rfl⟩:=du h ht.2.1
   exact ⟨.inl ⟨(iW (fun i hi=>eE hi) ht.1).symm.trans hc,h1⟩,r,rfl⟩
  ·obtain ⟨h1,r,rfl⟩:=du h ht.2.2
   exact ⟨.inr ⟨(iW (fun i hi=>eE hi) ht.1).symm.trans hc,h1⟩,r,rfl⟩
 | .call i args v k nx,l,l',o,h,ht=>by
  unfold ny at h
  unfold tG at ht
  rw [Uj,Uj] at ht
  unfold Sat
  obtain ⟨R,ds,r,h1,h2,h3,g1,g2,g3,h⟩:=h
  have hl:(l++aM r).length=l.length+k:=by rw [Up,g1]
  obtain ⟨q1,r',rfl⟩:=du h (by rw [hl];exact ht.2.2)
  rw [hl] at q1
  have hext: ∀i,i<l.length→(bp l bs).ρ i=(bp (l++aM r++r') bs).ρ i:=fun i hi=>by
   show fC l i=fC (l++aM r++r') i
   rw [eE (m:=aM r) hi,eE (m:=r') (by rw [Up];omega)]
  have hext2: ∀i,i<l.length+k→(bp (l++aM r) bs).ρ i=(bp (l++aM r++r') bs).ρ i:=fun i hi=>by
   show fC (l++aM r) i=fC (l++aM r++r') i
   exact eE (by rw [hl];exact hi)
  exact ⟨⟨⟨R,ds,r,h1,(mg hext ht.1).symm.trans h2,h3,(AE hext2 ht.2.1).symm.trans g2,DG hext2 ht.2.1 g3⟩,q1⟩,aM r++r',by rw [UW]⟩
 | .loop i q b,l,l',o,h,ht=>by
  unfold ny at h
  unfold tG at ht
  rw [Uj] at ht
  unfold Sat
  obtain ⟨R,j,outs,h1,h2,h⟩:=h
  obtain ⟨r',rfl,q1⟩:=mI h ht.2
  refine ⟨⟨R,j,outs,h1,?_,fun i hi=>?_,q1⟩,outs++r',by rw [UW]⟩
  ·rw [AI (ρ:=fC (l++outs++r')) (ρ':=fC l) (fun i hi=>?_) ht.1]
   ·exact h2
   ·rw [UW]
    exact (eE hi).symm
  ·rw [UW,Ic]
   exact (eE (l:=outs) (m:=r') hi).symm
theorem mI: ∀{b:FA} {j:Nat} {outs l l':List D} {o:mu},xL bs F L b j outs l l' o→Ih b l.length=true→∃r,l'=l++outs++r∧oU bs F L b j outs l.length l' o
 | .nil,j,outs,l,l',o,h,ht=>by unfold xL at h;exact h.elim
 | .cons m nx b,0,outs,l,l',o,h,ht=>by
  unfold xL at h
  unfold Ih at ht
  rw [Uj] at ht
  obtain ⟨hm,h⟩:=h
  have hl:(l++outs).length=l.length+m:=by rw [Up,hm]
  obtain ⟨q1,r',rfl⟩:=du h (by rw [hl];exact ht.1)
  rw [hl] at q1
  exact ⟨r',rfl,by unfold oU;exact ⟨hm,q1⟩⟩
 | .cons m nx b,j+1,outs,l,l',o,h,ht=>by
  unfold xL at h
  unfold Ih at ht
  rw [Uj] at ht
  obtain ⟨r',e,q1⟩:=mI h ht.2
  exact ⟨r',e,by unfold oU;exact q1⟩
end
end
end
section
open Go Go.RowKit
@[reducible] noncomputable def ei (md:Bool) (l:List D) (g:List (Tm×Bool)) (h: ∀c∈g,bc (fC l) c.1= .bool c.2) (bs:List bf):Env:=DF md (fC l) g h bs
structure Acc where
 g:List (Tm×Bool)
 cl:List qE
 ll:List LU
def N4:Acc:=⟨[],[],[]⟩
section
variable (fids:List uY) (lds:List LD) (leaf:Acc→PT→Bool)
mutual
noncomputable def oV:PT→Nat→Acc→Bool
 | .split c y z,n,A=>aQ (oV y n ⟨(c,true)::A.g,A.cl,A.ll⟩) (oV z n ⟨(c,false)::A.g,A.cl,A.ll⟩) false
 | .call i args v k nx,n,A=>(match fids[i]? with |some f=>oV nx (n+k) ⟨A.g,(f.1,args,v,f.2)::A.cl,A.ll⟩ |none=>false)
 | .loop i q b,n,A=>(match lds[i]? with |some L=>AJ L q b L.outs n A |none=>false)
 | .ret v,_,A=>leaf A (.ret v)
 | .dead,_,A=>true
 | .next q,_,A=>leaf A (.next q)
 | .exit i q,_,A=>leaf A (.exit i q)
noncomputable def AJ (L:LD) (q:List Tm):FA→List LO→Nat→Acc→Bool
 | .nil,_,_,_=>true
 | .cons m nx b,os,n,A=>(match os with
  |[]=>false
  |o::os=>aQ (oJ o.x&&TJ m o.m) (aQ (oV nx (n+m) ⟨A.g,A.cl,⟨L,q,o,n⟩::A.ll⟩) (AJ L q b os n A) false) false)
end
end
section
variable {P:Program} {bs:List bf} {fids:List uY} {lds:List LD} {leaf:Acc→PT→Bool} {F:List (List DV→DV→Prop)} {S:List (List D→Nat→List D→Prop)}
structure wx (P:Program) (bs:List bf) (l:List D) (A:Acc):Prop where
 g: ∀c∈A.g,bc (fC l) c.1= .bool c.2
 cl: ∀x∈A.cl,∃ds r,R9 P bs x.1 x.2.2.2 ds r∧@cI (bp l bs) x.2.1=some ds∧@bn (bp l bs) x.2.2.1=some r∧@dF (bp l bs) x.2.2.1
 ll: ∀u∈A.ll,xK P bs (fC l) u
structure Uses (P:Program) (bs:List bf) (fids:List uY) (lds:List LD) (F:List (List DV→DV→Prop)) (S:List (List D→Nat→List D→Prop)):Prop where
 fn: ∀(i:Nat) (f:uY) (G:List DV→DV→Prop),fids[i]? =some f→F[i]? =some G→FnS P bs f G
 loop: ∀(i:Nat) (L:LD) (G:List D→Nat→List D→Prop),lds[i]? =some L→S[i]? =some G→eu P bs L G
mutual
theorem dv (hU:Uses P bs fids lds F S): ∀{t:PT} {n:Nat} {A:Acc} {l:List D} {o:mu},oV fids lds leaf t n A=true→Sat bs F S t n l o→wx P bs l A→
 ∃A' t',wx P bs l A'∧leaf A' t'=true∧((∃v,t'= .ret v)∨(∃q,t'= .next q)∨∃i q,t'= .exit i q)∧Sat bs F S t' 0 l o
 | .ret v,n,A,l,o,h,hs,hA=>⟨A,.ret v,hA,by unfold oV at h;exact h,.inl ⟨v,rfl⟩,by unfold Sat at hs⊢;exact hs⟩
 | .dead,n,A,l,o,h,hs,hA=>by unfold Sat at hs;exact hs.elim
 | .next q,n,A,l,o,h,hs,hA=>⟨A,.next q,hA,by unfold oV at h;exact h,.inr (.inl ⟨q,rfl⟩),by unfold Sat at hs⊢;exact hs⟩
 | .exit i q,n,A,l,o,h,hs,hA=>⟨A,.exit i q,hA,by unfold oV at h;exact h,.inr (.inr ⟨i,q,rfl⟩),by unfold Sat at hs⊢;exact hs⟩
 | .split c y z,n,A,l,o,h,hs,hA=>by
  unfold oV at h
  unfold Sat at hs
  obtain ⟨h1,h2⟩:=bB h
  rcases hs with ⟨hc,hs⟩ |⟨hc,hs⟩
  ·exact dv hU h1 hs ⟨fun c' hc'=>by rcases List.mem_cons.1 hc' with rfl |hc'<;>first |exact hc |exact hA.g c' hc',hA.cl,hA.ll⟩
  ·exact dv hU h2 hs ⟨fun c' hc'=>by rcases List.mem_cons.1 hc' with rfl |hc'<;>first |exact hc |exact hA.g c' hc',hA.cl,hA.ll⟩
 | .call i args v k nx,n,A,l,o,h,hs,hA=>by
  unfold oV at h
  unfold Sat at hs
  obtain ⟨⟨G,ds,r,h1,h2,h3,h4,h5⟩,hs⟩:=hs
  cases hf:fids[i]? with
  |none=>rw [hf] at h;cases h
  |some f=>
   rw [hf] at h
   exact dv hU h hs ⟨hA.g,fun x hx=>by rcases List.mem_cons.1 hx with rfl |hx<;>first |exact ⟨ds,r,hU.fn i f G hf h1 ds r h3,h2,h4,h5⟩ |exact hA.cl x hx,hA.ll⟩
 | .loop i q b,n,A,l,o,h,hs,hA=>by
  unfold oV at h
  unfold Sat at hs
  obtain ⟨G,j,outs,h1,h2,h3,hs⟩:=hs
  cases hf:lds[i]? with
  |none=>rw [hf] at h;cases h
  |some L=>
   rw [hf] at h
   have hT:=hU.loop i L G hf h1
   unfold eu at hT
   obtain ⟨o',h4,h5⟩: ∃o',L.outs[j]? =some o'∧cond L.call (pT (bp (q.map (bc (fC l))) bs) (bp outs bs) P L.f L.args L.s0 o'.v o'.so L.bx) (∀N c,cJ P L.f L.p=some (.loop c)→kf (bp (q.map (bc (fC l))) bs) (bp outs bs) P N L.rd c L.a0 L.s0 o'.x o'.ao o'.so L.bx):=by
    cases hc:L.call with
    |true=>rw [hc] at hT;exact hT _ _ _ h2
    |false=>rw [hc] at hT;exact hT _ _ _ h2
   exact oW hU h hs hA h3 h4 h5
theorem oW (hU:Uses P bs fids lds F S) {L:LD} {q:List Tm} {outs:List D} {o':LO}: ∀{b:FA} {os:List LO} {j n:Nat} {A:Acc} {l:List D} {o:mu},AJ fids lds leaf L q b os n A=true→oU bs F S b j outs n l o→wx P bs l A→
 (∀i,i<outs.length→fC l (n+i)=D.at outs i)→os[j]? =some o'→cond L.call (pT (bp (q.map (bc (fC l))) bs) (bp outs bs) P L.f L.args L.s0 o'.v o'.so L.bx) (∀N c,cJ P L.f L.p=some (.loop c)→kf (bp (q.map (bc (fC l))) bs) (bp outs bs) P N L.rd c L.a0 L.s0 o'.x o'.ao o'.so L.bx)→
 ∃A' t',wx P bs l A'∧leaf A' t'=true∧((∃v,t'= .ret v)∨(∃q,t'= .next q)∨∃i q,t'= .exit i q)∧Sat bs F S t' 0 l o
 | .nil,os,j,n,A,l,o,h,hs,hA,h3,h4,h5=>by unfold oU at hs;exact hs.elim
 | .cons m nx b,os,0,n,A,l,o,h,hs,hA,h3,h4,h5=>by
  unfold AJ at h
  unfold oU at hs
  cases os with
  |nil=>cases h
  |cons o2 os=>
   cases h4
   obtain ⟨g1,g2⟩:=bB h
   obtain ⟨g3,g4⟩:=bB g2
   rw [Uj] at g1
   have hm:=T7 g1.2
   exact dv hU g3 hs.2 ⟨hA.g,hA.cl,fun u hu=>by
    rcases List.mem_cons.1 hu with rfl |hu
    ·exact ⟨g1.1,outs,fun j hj=>h3 j (by rw [hs.1,hm];exact hj),h5⟩
    ·exact hA.ll u hu⟩
 | .cons m nx b,os,j+1,n,A,l,o,h,hs,hA,h3,h4,h5=>by
  unfold AJ at h
  unfold oU at hs
  cases os with
  |nil=>cases h
  |cons o2 os=>
   obtain ⟨g1,g2⟩:=bB h
   obtain ⟨g3,g4⟩:=bB g2
   exact oW hU g4 hs hA h3 (by rw [Wr] at h4;exact h4) h5
end
end
section
variable (P:Program) (bs:List bf) (fuel:Nat) (f:FuncId) (args:List AV)
noncomputable def Mi [Gam] (s1:St) (v2:AV) (v:AV):Bool:=@TH AV (fun _=>Bool) false (fun x=>mP 40 x v2) (iG P s1 v)
noncomputable def Cy [Gam] (v2:AV):Option Out→Bool
 |some (.fin (.returned v) _ s1)=>Mi P s1 v2 v
 |_=>false
noncomputable def N5 (md:Bool) (A:Acc):PT→Bool
 | .ret v2=>@Cy P ⟨A.g,md⟩ v2 (@run ⟨A.g,md⟩ P ⟨@tE P.globals.size ⟨A.g,md⟩ A.cl A.ll,Cw P.globals.size A.ll⟩ fuel (.call f args none) aV.none (mS bs))
 |_=>false
noncomputable def bt (fids:List uY) (lds:List LD) (t:PT) (n:Nat):Bool:=oV fids lds (N5 P bs fuel f args (TO 1 n)) t n N4&&(tG t n&&iV n args)
end
section
variable {P:Program} {bs:List bf} {fuel:Nat} {f:FuncId} {args:List AV} {fids:List uY} {lds:List LD} {F:List (List DV→DV→Prop)} {S:List (List D→Nat→List D→Prop)}
theorem rD {md:Bool} (hB:bs.length=P.globals.size) (h0:0<P.globals.size) {l:List D} {A:Acc} (hA:wx P bs l A): @kN (ei md l A.g hA.g bs) P (@tE P.globals.size ⟨A.g,md⟩ A.cl A.ll):=by
 refine K3 (E:=ei md l A.g hA.g bs) (DK (E:=ei md l A.g hA.g bs) rfl rfl (hB▸h0) h0 hA.ll) (@KZ (ei md l A.g hA.g bs) P h0 A.cl fun x hx=>?_)
 obtain ⟨ds,r,h1,h2,h3,h4⟩:=hA.cl x hx
 exact ⟨bs,ds,r,⟨rfl,hB,fun w h=>h⟩,h1,(pV (E:=ei md l A.g hA.g bs) (E':=bp l bs) rfl _).trans h2,(tB (E:=ei md l A.g hA.g bs) (E':=bp l bs) rfl _).trans h3,DH (E:=bp l bs) (E':=ei md l A.g hA.g bs) rfl h4⟩
theorem xM {md:Bool} (hB:bs.length=P.globals.size) (h0:0<P.globals.size) {l:List D} {A:Acc} (hA:wx P bs l A) (N:Nat): @sS (ei md l A.g hA.g bs) P N (Cw P.globals.size A.ll):=
 Ig (E:=ei md l A.g hA.g bs) rfl rfl (hB▸h0) h0 hA.ll
theorem tH (hP:cH P) (hB:bs.length=P.globals.size) (h0:0<P.globals.size) (hU:Uses P bs fids lds F S) {t:PT} {l l':List D} {r:DV} (hc:bt P bs fuel f args fids lds t l.length=true) (he:ny bs F S t l l' (.ret r))
 {ds:List DV} {ok:List Value→Prop} (hV:iV l.length args=true→∀md l2 g hg fz us,iw fz ds us→ok us→@bZ (ei md (l++l2) g hg bs) P (tr P fz) args us):Aw P bs f ds r ok:=by
 unfold bt at hc
 rw [Uj,Uj] at hc
 obtain ⟨h1,h2,h3⟩:=hc
 obtain ⟨hs,l2,rfl⟩:=du he h2
 obtain ⟨A,t',hA,hl,hk,hs'⟩:=dv hU h1 hs ⟨fun c h=>(by cases h),fun c h=>(by cases h),fun c h=>(by cases h)⟩
 have hext: ∀i,i<l.length→(bp l bs).ρ i=(ei (TO 1 l.length) (l++l2) A.g hA.g bs).ρ i:=fun i hi=>eE hi
 rcases hk with ⟨v,rfl⟩ |⟨q,rfl⟩ |⟨i,q,rfl⟩
 ·unfold Sat at hs'
  obtain ⟨r',e,hv⟩:=hs'
  cases e
  replace hl: @Cy P ⟨A.g,(TO 1 l.length)⟩ v (@run ⟨A.g,(TO 1 l.length)⟩ P ⟨@tE P.globals.size ⟨A.g,(TO 1 l.length)⟩ A.cl A.ll,Cw P.globals.size A.ll⟩ fuel (.call f args none) aV.none (mS bs))=true:=hl
  generalize hr: @run ⟨A.g,(TO 1 l.length)⟩ P ⟨@tE P.globals.size ⟨A.g,(TO 1 l.length)⟩ A.cl A.ll,Cw P.globals.size A.ll⟩ fuel (.call f args none) aV.none (mS bs)=res at hl
  unfold Cy at hl
  split at hl
  ·rename_i v0 rc s1
   unfold Mi at hl
   cases hres: @iG ⟨A.g,(TO 1 l.length)⟩ P s1 v0 with
   |none=>rw [hres] at hl;cases hl
   |some x=>
    rw [hres] at hl
    have:=@ry (ei (TO 1 l.length) (l++l2) A.g hA.g bs) 40 x v hl
    subst this
    exact @Fx (ei (TO 1 l.length) (l++l2) A.g hA.g bs) P hP bs ⟨rfl,hB,fun w h=>h⟩ (fun w h=>h) ⟨@tE P.globals.size ⟨A.g,(TO 1 l.length)⟩ A.cl A.ll,Cw P.globals.size A.ll⟩ (rD hB h0 hA) (xM hB h0 hA) f args fuel v0 x rc s1 hr hres ds r ok (hV h3 _ l2 A.g hA.g) ((tB (E:=ei (TO 1 l.length) (l++l2) A.g hA.g bs) (E':=bp (l++l2) bs) rfl _).trans hv)
  ·cases hl
 ·cases hl
 ·cases hl
theorem Mj (hP:cH P) (hB:bs.length=P.globals.size) (h0:0<P.globals.size) (hU:Uses P bs fids lds F S) {t:PT} {l l':List D} {r:DV} (hc:bt P bs fuel f args fids lds t l.length=true) (he:ny bs F S t l l' (.ret r))
 {ds:List DV} (ha: @cI (bp l bs) args=some ds) (hta: @ix (bp l bs) args):Ax P bs f ds r:=
 tH hP hB h0 hU hc he fun h3 md l2 g hg fz us hr _=>by
  have hext: ∀i,i<l.length→(bp l bs).ρ i=(ei md (l++l2) g hg bs).ρ i:=fun i hi=>eE hi
  exact @pS (ei md (l++l2) g hg bs) P (tr P fz) args us ds hr ((mg hext h3).symm.trans ha) (tA hext h3 hta)
theorem qV {fz:Addr→Option Value} {u:Value} (h:dM fz (.aY []) u):u= .slice none 0 0∨∃ad c,u= .slice (some ad) 0 c∧c≤maxLen:=by
 generalize he:(D.aY [])=d at h
 cases h<;>first |(cases he;done) |skip
 ·exact .inl rfl
 ·rename_i l ad c u hn hm hf h
  cases he
  exact .inr ⟨ad,c,rfl,hm⟩
theorem N6 (hP:cH P) (hB:bs.length=P.globals.size) (h0:0<P.globals.size) (hU:Uses P bs fids lds F S) {t t':PT} {l' l'':List D} {r:DV} (hc:bt P bs fuel f [.aJ] fids lds t 0=true) (he:ny bs F S t [] l' (.ret r))
 (hc':bt P bs fuel f [.e0 false] fids lds t' 0=true) (he':ny bs F S t' [] l'' (.ret r)):Ax P bs f [.c (.aY [])] r:=
 Aw.two (A:=fun us=>us=[.slice none 0 0]) (B:=fun us=>∃ad c,us=[.slice (some ad) 0 c]∧c≤maxLen)
  (tH (l:=[]) hP hB h0 hU hc he fun _ md l2 g hg fz us hr hok=>by subst hok;exact @bZ.cons (ei md ([]++l2) g hg bs) P _ _ _ _ _ (@VR.aJ (ei md ([]++l2) g hg bs) P _) (@bZ.nil (ei md ([]++l2) g hg bs) P _))
  (tH (l:=[]) hP hB h0 hU hc' he' fun _ md l2 g hg fz us hr hok=>by obtain ⟨ad,c,rfl,hm⟩:=hok;exact @bZ.cons (ei md ([]++l2) g hg bs) P _ _ _ _ _ (@VR.e0 (ei md ([]++l2) g hg bs) P _ false ad c (fun h=>by cases h) hm) (@bZ.nil (ei md ([]++l2) g hg bs) P _))
  fun fz us hr _=>by
   cases hr with
   |cons _ u _ us h hs=>
    cases hs
    cases h with
    |c _ _ h=>exact (qV h).imp (fun e=>by rw [e]) fun ⟨ad,c,e,hm⟩=>⟨ad,c,by rw [e],hm⟩
end
noncomputable def Ii (k:Nat) (x y:Tm):Bool:=cK x y&&ri k x
noncomputable def Cz (k:Nat):gF→Bool
 |[]=>true
 |e::l=>aQ (Ii k e.1 e.2) (Cz k l) false
theorem kj {E E':Env} {k:Nat} (h: ∀i,i<k→E.ρ i=E'.ρ i): ∀{qq:gF},Cz k qq=true→bL E E' qq
 |[],_=>fun p hp=>by cases hp
 |e::l,hq=>by
  obtain ⟨h1,h2⟩:=bB (show aQ (Ii k e.1 e.2) (Cz k l) false=true from hq)
  intro p hp
  rcases List.mem_cons.1 hp with rfl |hp
  ·unfold Ii at h1
   rw [Uj] at h1
   show bc E'.ρ p.1=bc E.ρ p.2
   rw [←cP h1.1]
   exact (iW h h1.2).symm
  ·exact kj h h2 p hp
noncomputable def Tz:gW→gW→Bool
 | .exit a,.exit b=>TJ a b
 | .ret,.ret=>true
 |_,_=>false
theorem N7 {x y:gW} (h:Tz x y=true):x=y∧oJ y=true:=by
 cases x<;>cases y<;>first |(cases h;done) |skip
 ·rename_i a b
  have:a=b:=T7 h
  subst this
  exact ⟨rfl,rfl⟩
 ·exact ⟨rfl,rfl⟩
section
variable (P:Program) (fuel:Nat) (L:LD)
noncomputable def DL (q:List Tm) (e:Option gF):Bool:=@TH gF (fun _=>Bool) false (fun e=>Cq q e) e
noncomputable def xN (q:List Tm):Option Out→Bool
 |some (.at .normal a1 s1)=>(match pW P.globals.size [] L.s0 s1 (Ct L.a0.tm a1.tm ([],[])) with |ν=>dI ν L.bx&&DL q (dE P.globals.size ν L.rd L.rd L.a0 L.s0 a1 s1))
 |_=>false
noncomputable def rE (o:LO) (q:List Tm):Option Out→Bool
 |some (.at x a1 s1)=>Tz x o.x&&(match pW P.globals.size o.rt o.so s1 (Ct o.ao.tm a1.tm ([],[])) with |ν=>dI ν L.bx&&DL q (dE P.globals.size ν none none o.ao o.so a1 s1))
 |_=>false
noncomputable def roundOf (A:Acc) (c:Code):Option Out:=@kJ ⟨A.g,TO 1 L.k⟩ P (Cw P.globals.size A.ll) L.f c (.o L.p) L.rd (@run ⟨A.g,TO 1 L.k⟩ P ⟨@tE P.globals.size ⟨A.g,TO 1 L.k⟩ A.cl A.ll,Cw P.globals.size A.ll⟩ fuel) L.a0 L.s0
noncomputable def Ij (c:Code) (A:Acc):PT→Bool
 | .next q=>xN P L q (roundOf P fuel L A c)
 | .exit i q=>(match L.outs[i]? with |some o=>rE P L o q (roundOf P fuel L A c) |none=>false)
 |_=>false
noncomputable def eo:gV:=pW P.globals.size [] L.s0 L.s0 (qT L.args L.args (Ct L.a0.tm L.a0.tm ([],[])))
noncomputable def Ik:Bool:=@TH gF (fun _=>Bool) false (fun e=>Cz L.k e) (dE P.globals.size (eo P L) L.rd L.rd L.a0 L.s0 L.a0 L.s0)
noncomputable def bh (fids:List uY) (lds:List LD) (t:PT):Bool:=
 match cJ P L.f L.p with
 |some (.loop c)=>oV fids lds (Ij P fuel L c) t L.k N4&&(tG t L.k&&(kg L.s0.n L.bx&&(dI (eo P L) L.bx&&(Ik P L&& !L.call))))
 |_=>false
end
section
variable {P:Program} {bs:List bf} {fuel:Nat} {L:LD} {fids:List uY} {lds:List LD} {F:List (List DV→DV→Prop)} {S:List (List D→Nat→List D→Prop)}
theorem nb {q:List Tm} {e:Option gF} (h:DL q e=true): ∃x,e=some x∧Cq q x=true:=by
 cases e with
 |none=>cases h
 |some x=>exact ⟨x,rfl,h⟩
theorem K4 (hP:cH P) (hB:bs.length=P.globals.size) (h0:0<P.globals.size) (hU:Uses P bs fids lds F S) {t:PT} (hc:bh P fuel L fids lds t=true) {G:Nat→List D→Nat→List D→Prop}
 (hG: ∀n ins i outs,G n ins i outs→ins.length=L.k∧∃l',ny bs F S t ins l' (.exit i outs)∨∃ins',ny bs F S t ins l' (.next ins')∧∃n',n'<n∧G n' ins' i outs):eu P bs L fun ins i outs=>∃n,G n ins i outs:=by
 unfold bh at hc
 split at hc
 ·rename_i c hcode
  simp only [Uj] at hc
  obtain ⟨h1,h2,h3,h4,h5,hcl⟩:=hc
  obtain ⟨qi,g1,g2⟩: ∃qi,dE P.globals.size (eo P L) L.rd L.rd L.a0 L.s0 L.a0 L.s0=some qi∧Cz L.k qi=true:=by
   unfold Ik at h5
   cases hq:dE P.globals.size (eo P L) L.rd L.rd L.a0 L.s0 L.a0 L.s0 with
   |none=>rw [hq] at h5;cases h5
   |some x=>rw [hq] at h5;exact ⟨x,rfl,h5⟩
  have key: ∀n ins i outs j,j<n→G j ins i outs→∃o,L.outs[i]? =some o∧oJ o.x=true∧∀N,kf (bp ins bs) (bp outs bs) P N L.rd c L.a0 L.s0 o.x o.ao o.so L.bx:=by
   intro n
   induction n with
   |zero=>intro ins i outs j h;omega
   |succ n ih=>
    intro ins i outs j hm hg
    obtain ⟨hk,l',hor⟩:=hG j ins i outs hg
    have hA: ∀(l:List D) (g:List (Tm×Bool)) (hg: ∀c∈g,bc (fC l) c.1= .bool c.2),Alike (bp ins bs) (ei (TO 1 L.k) l g hg bs):=fun l g hg=>⟨rfl,rfl,by show 0<bs.length;omega⟩
    have hA': ∀(l l2:List D) (g:List (Tm×Bool)) (hg: ∀c∈g,bc (fC l) c.1= .bool c.2),Alike (ei (TO 1 L.k) l g hg bs) (bp l2 bs):=fun l l2 g hg=>⟨rfl,rfl,by show 0<bs.length;omega⟩
    rcases hor with he |⟨ins',he,n',hlt,hg'⟩
    ·obtain ⟨hs,l2,rfl⟩:=du he (by rw [hk];exact h2)
     obtain ⟨A,t',hAcc,hl,hkind,hs'⟩:=dv hU h1 (by rw [hk] at hs;exact hs) ⟨fun c h=>(by cases h),fun c h=>(by cases h),fun c h=>(by cases h)⟩
     rcases hkind with ⟨v,rfl⟩ |⟨q,rfl⟩ |⟨i',q,rfl⟩
     ·cases hl
     ·unfold Sat at hs';cases hs'
     ·unfold Sat at hs'
      cases hs'
      replace hl:(match L.outs[i]? with |some o=>rE P L o q (roundOf P fuel L A c) |none=>false)=true:=hl
      cases ho:L.outs[i]? with
      |none=>rw [ho] at hl;cases hl
      |some o=>
       rw [ho] at hl
       replace hl:rE P L o q (roundOf P fuel L A c)=true:=hl
       generalize hr:roundOf P fuel L A c=res at hl
       unfold rE at hl
       split at hl
       ·rename_i x a1 s1
        rw [Uj,Uj] at hl
        obtain ⟨rfl,hx⟩:=N7 hl.1
        have k1:=hl.2.1
        obtain ⟨qq,q1,q2⟩:=nb hl.2.2
        refine ⟨o,rfl,hx,fun N=>?_⟩
        exact Ft (E:=bp ins bs) (Er:=ei (TO 1 L.k) (ins++l2) A.g hAcc.g bs) (orc:=⟨@tE P.globals.size ⟨A.g,TO 1 L.k⟩ A.cl A.ll,Cw P.globals.size A.ll⟩) hP h0 (hA _ _ _) (hA' _ _ _ _) (rD hB h0 hAcc) (xM hB h0 hAcc N) hcode g1 (kj (fun i hi=>eE (by omega)) g2) h4 hr hx q1 (fO (E:=ei (TO 1 L.k) (ins++l2) A.g hAcc.g bs) q2) k1 h3
       ·cases hl
    ·obtain ⟨hs,l2,rfl⟩:=du he (by rw [hk];exact h2)
     obtain ⟨A,t',hAcc,hl,hkind,hs'⟩:=dv hU h1 (by rw [hk] at hs;exact hs) ⟨fun c h=>(by cases h),fun c h=>(by cases h),fun c h=>(by cases h)⟩
     rcases hkind with ⟨v,rfl⟩ |⟨q,rfl⟩ |⟨i',q,rfl⟩
     ·cases hl
     ·unfold Sat at hs'
      cases hs'
      obtain ⟨o,ho,hx,hL⟩:=ih _ i outs n' (by omega) hg'
      replace hl:xN P L q (roundOf P fuel L A c)=true:=hl
      generalize hr:roundOf P fuel L A c=res at hl
      unfold xN at hl
      split at hl
      ·rename_i a1 s1
       rw [Uj] at hl
       have k1:=hl.1
       obtain ⟨qq,q1,q2⟩:=nb hl.2
       refine ⟨o,ho,hx,fun N=>?_⟩
       exact Fv (E:=bp ins bs) (Er:=ei (TO 1 L.k) (ins++l2) A.g hAcc.g bs) (orc:=⟨@tE P.globals.size ⟨A.g,TO 1 L.k⟩ A.cl A.ll,Cw P.globals.size A.ll⟩) hP h0 (hA _ _ _) (hA' _ _ _ _) (rD hB h0 hAcc) (xM hB h0 hAcc N) hcode g1 (kj (fun i hi=>eE (by omega)) g2) h4 hr hx q1 (fO (E:=ei (TO 1 L.k) (ins++l2) A.g hAcc.g bs) q2) k1 h3 (hL N)
      ·cases hl
     ·unfold Sat at hs';cases hs'
  unfold eu
  rw [show L.call=false by simpa using hcl]
  rintro ins i outs ⟨n,hg⟩
  obtain ⟨o,ho,hx,hL⟩:=key (n+1) ins i outs n (by omega) hg
  refine ⟨o,ho,fun N c' hc'=>?_⟩
  rw [hcode] at hc'
  cases hc'
  exact hL N
 ·cases hc
end
section
variable (P:Program) (fuel:Nat) (L:LD)
noncomputable def rF (A:Acc) (o:LO) (q:List Tm):Option Out→Bool
 |some (.fin (.returned v) _ s1)=>oJ o.x&&(match pW P.globals.size o.rt o.so s1 (Fz o.v v ([],[])) with |ν=>dI ν L.bx&&DL q (gQ (bG ν o.v v) (dE P.globals.size ν none none aV.none o.so aV.none s1)))
 |_=>false
noncomputable def xO (A:Acc):Option Out:=@run ⟨A.g,TO 1 L.k⟩ P ⟨@tE P.globals.size ⟨A.g,TO 1 L.k⟩ A.cl A.ll,Cw P.globals.size A.ll⟩ fuel (.call L.f L.args none) aV.none L.s0
noncomputable def Il (A:Acc):PT→Bool
 | .exit i q=>(match L.outs[i]? with |some o=>rF P L A o q (xO P fuel L A) |none=>false)
 |_=>false
noncomputable def DM:Bool:=@TH gF (fun _=>Bool) false (fun e=>Cz L.k e) (gQ (cW (eo P L) L.args L.args) (dE P.globals.size (eo P L) none none aV.none L.s0 aV.none L.s0))
noncomputable def bJ (fids:List uY) (lds:List LD) (t:PT):Bool:=
 oV fids lds (Il P fuel L) t L.k N4&&(tG t L.k&&(kg L.s0.n L.bx&&(dI (eo P L) L.bx&&(DM P L&&L.call))))
end
section
variable {P:Program} {bs:List bf} {fuel:Nat} {L:LD} {fids:List uY} {lds:List LD} {F:List (List DV→DV→Prop)} {S:List (List D→Nat→List D→Prop)}
theorem DN (hP:cH P) (hB:bs.length=P.globals.size) (h0:0<P.globals.size) (hU:Uses P bs fids lds F S) {t:PT} (hc:bJ P fuel L fids lds t=true) {G:List D→Nat→List D→Prop}
 (hG: ∀ins i outs,G ins i outs→ins.length=L.k∧∃l',ny bs F S t ins l' (.exit i outs)):eu P bs L G:=by
 unfold bJ at hc
 simp only [Uj] at hc
 obtain ⟨h1,h2,h3,h4,h5,h6⟩:=hc
 unfold eu
 rw [h6]
 intro ins i outs hg
 obtain ⟨hk,l',he⟩:=hG ins i outs hg
 obtain ⟨qi,g1,g2⟩: ∃qi,gQ (cW (eo P L) L.args L.args) (dE P.globals.size (eo P L) none none aV.none L.s0 aV.none L.s0)=some qi∧Cz L.k qi=true:=by
  unfold DM at h5
  cases hq:gQ (cW (eo P L) L.args L.args) (dE P.globals.size (eo P L) none none aV.none L.s0 aV.none L.s0) with
  |none=>rw [hq] at h5;cases h5
  |some x=>rw [hq] at h5;exact ⟨x,rfl,h5⟩
 obtain ⟨hs,l2,rfl⟩:=du he (by rw [hk];exact h2)
 obtain ⟨A,t',hAcc,hl,hkind,hs'⟩:=dv hU h1 (by rw [hk] at hs;exact hs) ⟨fun c h=>(by cases h),fun c h=>(by cases h),fun c h=>(by cases h)⟩
 rcases hkind with ⟨v,rfl⟩ |⟨q,rfl⟩ |⟨i',q,rfl⟩
 ·cases hl
 ·cases hl
 ·unfold Sat at hs'
  cases hs'
  replace hl:(match L.outs[i]? with |some o=>rF P L A o q (xO P fuel L A) |none=>false)=true:=hl
  cases ho:L.outs[i]? with
  |none=>rw [ho] at hl;cases hl
  |some o=>
   rw [ho] at hl
   replace hl:rF P L A o q (xO P fuel L A)=true:=hl
   generalize hr:xO P fuel L A=res at hl
   unfold rF at hl
   split at hl
   ·rename_i v rc s1
    rw [Uj,Uj] at hl
    obtain ⟨hx,k1,k2⟩:=hl
    obtain ⟨qq,q1,q2⟩:=nb k2
    obtain ⟨ya,yb,w1,w2,rfl⟩:=cq q1
    obtain ⟨za,zb,w3,w4,rfl⟩:=cq g1
    refine ⟨o,rfl,?_⟩
    have hA: ∀(l:List D) (g:List (Tm×Bool)) (hg: ∀c∈g,bc (fC l) c.1= .bool c.2),Alike (bp ins bs) (ei (TO 1 L.k) l g hg bs):=fun l g hg=>⟨rfl,rfl,by show 0<bs.length;omega⟩
    have hA': ∀(l l2:List D) (g:List (Tm×Bool)) (hg: ∀c∈g,bc (fC l) c.1= .bool c.2),Alike (ei (TO 1 L.k) l g hg bs) (bp l2 bs):=fun l l2 g hg=>⟨rfl,rfl,by show 0<bs.length;omega⟩
    have hq:bL (ei (TO 1 L.k) (ins++l2) A.g hAcc.g bs) (bp (q.map (bc (fC (ins++l2)))) bs) (ya++yb):=fO (E:=ei (TO 1 L.k) (ins++l2) A.g hAcc.g bs) q2
    have hi:bL (bp ins bs) (ei (TO 1 L.k) (ins++l2) A.g hAcc.g bs) (za++zb):=kj (fun i hi=>eE (by omega)) g2
    exact K0 (E:=bp ins bs) (Er:=ei (TO 1 L.k) (ins++l2) A.g hAcc.g bs) (orc:=⟨@tE P.globals.size ⟨A.g,TO 1 L.k⟩ A.cl A.ll,Cw P.globals.size A.ll⟩) hP h0 (hA _ _ _) (hA' _ _ _ _) (rD hB h0 hAcc) (fun N=>xM hB h0 hAcc N) w3 hi.left w4 hi.right h4 hr w1 hq.left w2 hq.right k1 h3
   ·cases hl
end
def LD.of (L:LD) (args:List AV):LD:={L with args:=args,k:=0}
theorem Im {P:Program} {bs:List bf} {L:LD} {ts:List Ty} (h0:0<P.globals.size) (hB:bs.length=P.globals.size) (hc:L.call=true) (ha:L.args=[.tm (.aY ts) (.var 0)]) (hf:dE P.globals.size (eo P L) none none aV.none L.s0 aV.none L.s0=some []) (hk:dI (eo P L) L.bx=true)
 {i:Nat} {outs:List D} (h1:eu P bs (L.of [.aJ]) fun x j y=>x=[]∧j=i∧y=outs) (h2:eu P bs (L.of [.e0 false]) fun x j y=>x=[]∧j=i∧y=outs):eu P bs L fun x j y=>x=[.aY []]∧j=i∧y=outs:=by
 unfold eu at*
 rw [show (L.of [.aJ]).call=true from hc] at h1
 rw [show (L.of [.e0 false]).call=true from hc] at h2
 rw [hc]
 rintro _ _ _ ⟨rfl,rfl,rfl⟩
 obtain ⟨o,ho,hb,hr1⟩:=h1 _ _ _ ⟨rfl,rfl,rfl⟩
 obtain ⟨o',ho',_,hr2⟩:=h2 _ _ _ ⟨rfl,rfl,rfl⟩
 obtain rfl:o=o':=Option.some.inj (ho.symm.trans ho')
 have hA:Alike (bp [.aY []] bs) (bp [] bs):=⟨rfl,rfl,by show 0<bs.length;omega⟩
 have hH:bL (bp [.aY []] bs) (bp [] bs) []:=fun p hp=>by cases hp
 refine ⟨o,ho,hb,fun N μ w cs us hs hv=>?_⟩
 have hs':=ed hf hH hA hs
 obtain ⟨_,d2,_⟩:=cT hf hH
 have hg0:=@SR.eH (bp [.aY []] bs) _ _ _ _ _ hs 0 h0
 rw [ha] at hv
 cases hv with
 |cons _ u _ us hv hvs=>
  cases hvs
  cases hv with
  |tm _ _ _ _ hrep=>
   have hrep:dM μ.fz (.aY []) u:=hrep
   rcases qV hrep with rfl |⟨ad,c,rfl,hm⟩
   ·obtain ⟨μo,w',V,fr,g1,g2,g3,g4⟩:=hr1 N _ w cs _ hs' (@bZ.cons (bp [] bs) P _ _ _ _ _ (@VR.aJ (bp [] bs) P _) (@bZ.nil (bp [] bs) P _))
    exact ⟨μo,w',V,fr,g1,g2,g3.pre hg0 hk d2,g4⟩
   ·obtain ⟨μo,w',V,fr,g1,g2,g3,g4⟩:=hr2 N _ w cs _ hs' (@bZ.cons (bp [] bs) P _ _ _ _ _ (@VR.e0 (bp [] bs) P _ false ad c (fun h=>by cases h) hm) (@bZ.nil (bp [] bs) P _))
    exact ⟨μo,w',V,fr,g1,g2,g3.pre hg0 hk d2,g4⟩
noncomputable def QB (n:Nat):Tr AV:=@Nat.rec (fun _=>Tr AV) .nil (fun k ih=>ih.set (pos k) .bad) n
noncomputable def dL (l:List (Nat×AV)) (t:Tr AV):Tr AV:=@TN (Nat×AV) (fun _=>Tr AV) t (fun x _ ih=>ih.set (pos x.1) x.2) l
noncomputable def aX (n:Nat) (l:List (Nat×AV)):aV:=.mk (dL l (QB n)) n [] none
noncomputable def QC (l:List (Nat×bf)) (t:Tr bf):Tr bf:=@TN (Nat×bf) (fun _=>Tr bf) t (fun x _ ih=>ih.set (pos x.1) x.2) l
noncomputable def aZ (bs:List bf) (n:Nat) (l:List (Nat×bf)):St:=.mk (QC l (pv bs 0 .nil)) (pos n)
end
section
open Go Go.RowKit
section
variable (bs:List bf) (F:List (List DV→DV→Prop)) (L:List (List D→Nat→List D→Prop))
def Wp (t:PT) (l:List D) (K:mu→Prop):Prop:=∃l' o,ny bs F L t l l' o∧K o
def Mk (b:FA) (j:Nat) (outs l:List D) (K:mu→Prop):Prop:=∃l' o,xL bs F L b j outs l l' o∧K o
def Io (d:D) (A B:Prop):Prop:=match d with | .bool b=>(b=true∧A)∨(b=false∧B) |_=>False
@[simp] theorem aj {p:Prop} [Decidable p] {A B:Prop}:Io (.bool (decide p)) A B↔if p then A else B:=by
 unfold Io
 by_cases h:p<;>simp [h]
@[simp] theorem aE {A B:Prop}:Io (.bool true) A B↔A:=by simp [Io]
@[simp] theorem al {A B:Prop}:Io (.bool false) A B↔B:=by simp [Io]
theorem QD {b:Bool} {A B:Prop}:Io (.bool b) A B↔if b=true then A else B:=by cases b<;>simp
@[simp] theorem ak {b:Bool} {A B:Prop}:Io (.bool (!b)) A B↔Io (.bool b) B A:=by cases b<;>simp
end
section
variable {bs:List bf} {F:List (List DV→DV→Prop)} {L:List (List D→Nat→List D→Prop)} {l outs:List D} {K:mu→Prop}
@[simp] theorem wp_ret {v:AV}:Wp bs F L (.ret v) l K↔∃r,@bn (bp l bs) v=some r∧K (.ret r):=by
 unfold Wp
 simp only [ny]
 constructor
 ·rintro ⟨l',o,⟨rfl,r,h,rfl⟩,hk⟩;exact ⟨r,h,hk⟩
 ·rintro ⟨r,h,hk⟩;exact ⟨l,_,⟨rfl,r,h,rfl⟩,hk⟩
@[simp] theorem Sb:Wp bs F L .dead l K↔False:=by simp [Wp,ny]
@[simp] theorem mi {q:List Tm}:Wp bs F L (.next q) l K↔K (.next (q.map (bc (fC l)))):=by
 unfold Wp
 simp only [ny]
 constructor
 ·rintro ⟨l',o,⟨rfl,rfl⟩,hk⟩;exact hk
 ·intro hk;exact ⟨l,_,⟨rfl,rfl⟩,hk⟩
@[simp] theorem wp_exit {i:Nat} {q:List Tm}:Wp bs F L (.exit i q) l K↔K (.exit i (q.map (bc (fC l)))):=by
 unfold Wp
 simp only [ny]
 constructor
 ·rintro ⟨l',o,⟨rfl,rfl⟩,hk⟩;exact hk
 ·intro hk;exact ⟨l,_,⟨rfl,rfl⟩,hk⟩
@[simp] theorem ah {c:Tm} {y n:PT}:Wp bs F L (.split c y n) l K↔Io (bc (fC l) c) (Wp bs F L y l K) (Wp bs F L n l K):=by
 unfold Wp
 simp only [ny]
 generalize bc (fC l) c=d
 unfold Io
 constructor
 ·rintro ⟨l',o,⟨rfl,h⟩ |⟨rfl,h⟩,hk⟩
  ·exact .inl ⟨rfl,l',o,h,hk⟩
  ·exact .inr ⟨rfl,l',o,h,hk⟩
 ·cases d<;>simp only [false_imp_iff]
  rintro (⟨rfl,l',o,h,hk⟩ |⟨rfl,l',o,h,hk⟩)
  ·exact ⟨l',o,.inl ⟨rfl,h⟩,hk⟩
  ·exact ⟨l',o,.inr ⟨rfl,h⟩,hk⟩
theorem K5 {i:Nat} {args:List AV} {v:AV} {k:Nat} {nx:PT}:Wp bs F L (.call i args v k nx) l K↔
 ∃R ds r,F[i]? =some R∧@cI (bp l bs) args=some ds∧R ds r∧(aM r).length=k∧@bn (bp (l++aM r) bs) v=some r∧@dF (bp (l++aM r) bs) v∧Wp bs F L nx (l++aM r) K:=by
 unfold Wp
 simp only [ny]
 constructor
 ·rintro ⟨l',o,⟨R,ds,r,h1,h2,h3,h4,h5,h6,h⟩,hk⟩;exact ⟨R,ds,r,h1,h2,h3,h4,h5,h6,l',o,h,hk⟩
 ·rintro ⟨R,ds,r,h1,h2,h3,h4,h5,h6,l',o,h,hk⟩;exact ⟨l',o,⟨R,ds,r,h1,h2,h3,h4,h5,h6,h⟩,hk⟩
theorem wp_loop {i:Nat} {q:List Tm} {b:FA}:Wp bs F L (.loop i q b) l K↔∃R j outs,L[i]? =some R∧R (q.map (bc (fC l))) j outs∧Mk bs F L b j outs l K:=by
 unfold Wp Mk
 simp only [ny]
 constructor
 ·rintro ⟨l',o,⟨R,j,outs,h1,h2,h⟩,hk⟩;exact ⟨R,j,outs,h1,h2,l',o,h,hk⟩
 ·rintro ⟨R,j,outs,h1,h2,l',o,h,hk⟩;exact ⟨l',o,⟨R,j,outs,h1,h2,h⟩,hk⟩
@[simp] theorem ay {m:Nat} {nx:PT} {b:FA}:Mk bs F L (.cons m nx b) 0 outs l K↔outs.length=m∧Wp bs F L nx (l++outs) K:=by
 unfold Wp Mk
 simp only [xL]
 constructor
 ·rintro ⟨l',o,⟨h1,h⟩,hk⟩;exact ⟨h1,l',o,h,hk⟩
 ·rintro ⟨h1,l',o,h,hk⟩;exact ⟨l',o,⟨h1,h⟩,hk⟩
@[simp] theorem aS {m j:Nat} {nx:PT} {b:FA}:Mk bs F L (.cons m nx b) (j+1) outs l K↔Mk bs F L b j outs l K:=by
 unfold Mk
 simp only [xL]
theorem aH {t:PT} (o0:mu) (h:Wp bs F L t l fun o=>o=o0) (hk:K o0):Wp bs F L t l K:=by
 obtain ⟨l',o,h1,rfl⟩:=h
 exact ⟨l',_,h1,hk⟩
theorem ab {i:Nat} {args:List AV} {v:AV} {k:Nat} {nx:PT} {R:List DV→DV→Prop} {ds:List DV} {r:DV} (h1:F[i]? =some R) (h3:R ds r) (h2: @cI (bp l bs) args=some ds) (h4:(aM r).length=k) (h5: @bn (bp (l++aM r) bs) v=some r) (h6: @dF (bp (l++aM r) bs) v)
 (h:Wp bs F L nx (l++aM r) K):Wp bs F L (.call i args v k nx) l K:=K5.2 ⟨R,ds,r,h1,h2,h3,h4,h5,h6,h⟩
theorem aP {i:Nat} {q:List Tm} {b:FA} {R:List D→Nat→List D→Prop} {j:Nat} {outs ins:List D} (h1:L[i]? =some R) (h2:R ins j outs) (hq:q.map (bc (fC l))=ins) (h:Mk bs F L b j outs l K):Wp bs F L (.loop i q b) l K:=
 wp_loop.2 ⟨R,j,outs,h1,hq▸h2,h⟩
end
@[simp] theorem ae {d:D} {l:List D}:fC (d::l) 0=d:=rfl
@[simp] theorem ag {d:D} {l:List D} {n:Nat}:fC (d::l) (n+1)=fC l n:=by
 show D.at (d::l) (n+1)=D.at l n
 unfold D.at
 rw [Wr]
attribute [simp] bc aR
@[simp] theorem TA {l:List D} {bs:List bf} {t:Tm}: @ev (bp l bs) t=bc (fC l) t:=rfl
@[simp] theorem an {d:D} {l:List D}:D.at (d::l) 0=d:=rfl
@[simp] theorem ar {d:D} {l:List D} {n:Nat}:D.at (d::l) (n+1)=D.at l n:=by
 unfold D.at
 rw [Wr]
section
variable {a b i lo hi:Int} {j k k2:IntKind} {x y:List Nat} {p q:Bool} {r:List D} {l m:List (List D)}
@[simp] theorem eN:cD (.jg .add k) [.int j a,.int k2 b]= .int k (k.wrap (a+b)):=rfl
@[simp] theorem aN:cD (.jg .sub k) [.int j a,.int k2 b]= .int k (k.wrap (a - b)):=rfl
@[simp] theorem nc:cD (.jg .mul k) [.int j a,.int k2 b]= .int k (k.wrap (a*b)):=rfl
@[simp] theorem N8:cD (.jg .rem k) [.int j a,.int k2 b]= .int k (a.tmod b):=rfl
@[simp] theorem aL:cD (.cmp .eql) [.int j a,.int k b]= .bool (decide (a=b)):=by show D.bool (a==b)=_;congr 1
@[simp] theorem aG:cD (.cmp .neq) [.int j a,.int k b]= .bool (!decide (a=b)):=by show D.bool (a != b)=_;congr 1
@[simp] theorem aB:cD (.cmp .lss) [.int j a,.int k b]= .bool (decide (a<b)):=rfl
@[simp] theorem aC:cD (.cmp .leq) [.int j a,.int k b]= .bool (decide (a≤b)):=rfl
@[simp] theorem aK:cD (.cmp .gtr) [.int j a,.int k b]= .bool (decide (b<a)):=rfl
@[simp] theorem aO:cD (.cmp .geq) [.int j a,.int k b]= .bool (decide (b≤a)):=rfl
@[simp] theorem SO:cD (.conv k) [.int j a]= .int k (k.wrap a):=rfl
@[simp] theorem au:cD (.jH .eql) [.str x,.str y]= .bool (decide (x=y)):=by show D.bool (x==y)=_;congr 1;exact Bool.eq_iff_iff.2 (by simp)
@[simp] theorem aw:cD (.jH .neq) [.str x,.str y]= .bool (!decide (x=y)):=by show D.bool (x != y)=_;congr 1;exact Bool.eq_iff_iff.2 (by simp)
@[simp] theorem SP:cD .cat [.str x,.str y]= .str (x++y):=rfl
theorem Sc {c:Nat} (h:x[i.toNat]? =some c):cD .gw [.str x,.int k i]= .int .u8 c:=by show (match x[i.toNat]? with |some c=>D.int .u8 c |none=>.bad)=_;rw [h]
@[simp] theorem QE:cD .gw [.str x,.int k i]=(match x[i.toNat]? with |some c=>.int .u8 c |none=>.bad):=rfl
@[simp] theorem Sd:cD .Ke [.str x,.int j lo,.int k hi]= .str ((x.take hi.toNat).drop lo.toNat):=rfl
@[simp] theorem mj:cD .fY [.str x]= .int .i64 x.length:=rfl
@[simp] theorem aD:cD .not [.bool p]= .bool (!p):=rfl
@[simp] theorem SQ:cD .and [.bool p,.bool q]= .bool (p&&q):=rfl
@[simp] theorem SU:cD .beq [.bool p,.bool q]= .bool (p==q):=rfl
@[simp] theorem SV:cD .nil []= .aY []:=rfl
@[simp] theorem DO:cD .snoc (.aY l::r)= .aY (l++[r]):=rfl
@[simp] theorem N9:cD .app [.aY l,.aY m]= .aY (l++m):=rfl
@[simp] theorem rG:cD .sub [.aY l,.int j lo,.int k hi]= .aY ((l.take hi.toNat).drop lo.toNat):=rfl
@[simp] theorem az:cD .len [.aY l]= .int .i64 l.length:=rfl
@[simp] theorem aI:cD .yE [.aY l,.int k i]=(match l[i.toNat]? with |some r=>.ref r |none=>.bad):=rfl
@[simp] theorem aq {n:Nat}:cD (.cell n) [.ref r]=D.at r n:=rfl
@[simp] theorem SW {n m:Nat}:cD (.off n m) [.ref r]= .ref ((r.drop n).take m):=rfl
@[simp] theorem SX:cD .row r= .ref r:=by cases r<;>rfl
@[simp] theorem nd {n m:Nat}:cD (.dr n m) (.aY l::.int k i::r)= .aY (l.modify i.toNat fun row=>row.take n++r++row.drop (n+m)):=rfl
@[simp] theorem Oa:cD .rep (.int k i::r)= .aY (List.replicate i.toNat r):=rfl
@[simp] theorem rH {d:D}:cD .uL [.aY l,d]= .bool (l.any (bC d)):=rfl
@[simp] theorem K6 {d:D}:cD .nA [.aY l,d]=(match l.find? (bC d) with |some r=>.ref r.tail |none=>.bad):=rfl
@[simp] theorem K7 {d:D}:cD .rN (.aY l::d::r)= .aY (ik d r l):=rfl
@[simp] theorem Se {d:D}:cD .Ba [.aY l,d]= .aY (kK d l):=rfl
end
attribute [simp] aM aF
section
variable {bs:List bf} {l:List D}
@[simp] theorem TB {t:Ty} {x:Tm}: @bn (bp l bs) (.tm t x)=some (.c (bc (fC l) x)):=by unfold bn;rfl
@[simp] theorem SY {k:IntKind} {n:Int}: @bn (bp l bs) (.int k n)=some (.c (.int k n)):=by unfold bn;rfl
@[simp] theorem Sf {b:Bool}: @bn (bp l bs) (.bool b)=some (.c (.bool b)):=by unfold bn;rfl
@[simp] theorem SZ {s:List Nat}: @bn (bp l bs) (.str s)=some (.c (.str s)):=by unfold bn;rfl
@[simp] theorem S0: @bn (bp l bs) .aJ=some (.c (.aY [])):=by unfold bn;rfl
@[simp] theorem TC {z:Bool}: @bn (bp l bs) (.e0 z)=some (.c (.aY [])):=by unfold bn;rfl
@[simp] theorem S3 {vs:List AV}: @bn (bp l bs) (.agg vs)=(@na (bp l bs) vs).map .agg:=by unfold bn;rfl
@[simp] theorem S4 {vs:List AV}: @bn (bp l bs) (.tuple vs)=(@cI (bp l bs) vs).map .gf:=by unfold bn;rfl
@[simp] theorem Sh: @cI (bp l bs) []=some []:=by unfold cI;rfl
@[simp] theorem QF {v:AV} {vs:List AV}: @cI (bp l bs) (v::vs)=(@bn (bp l bs) v).bind fun d=>(@cI (bp l bs) vs).map fun ds=>d::ds:=by conv=>lhs;unfold cI
@[simp] theorem S5: @na (bp l bs) []=some []:=rfl
@[simp] theorem Sj {v:AV} {vs:List AV}: @na (bp l bs) (v::vs)=(@uX (bp l bs) v).bind fun d=>(@na (bp l bs) vs).map fun ds=>d::ds:=rfl
@[simp] theorem c_tm {t:Ty} {x:Tm}: @uX (bp l bs) (.tm t x)=some (bc (fC l) x):=rfl
@[simp] theorem TD {k:IntKind} {n:Int}: @uX (bp l bs) (.int k n)=some (.int k n):=rfl
@[simp] theorem S6 {b:Bool}: @uX (bp l bs) (.bool b)=some (.bool b):=rfl
@[simp] theorem TE {s:List Nat}: @uX (bp l bs) (.str s)=some (.str s):=rfl
@[simp] theorem TF: @uX (bp l bs) .aJ=some (.aY []):=rfl
@[simp] theorem c_e0 {z:Bool}: @uX (bp l bs) (.e0 z)=some (.aY []):=rfl
@[simp] theorem S7 {t:Ty} {x:Tm}: @dF (bp l bs) (.tm t x)=bA t (bc (fC l) x):=by unfold dF;rfl
@[simp] theorem Sk {k:IntKind} {n:Int}: @dF (bp l bs) (.int k n)=True:=by unfold dF;rfl
@[simp] theorem QG {b:Bool}: @dF (bp l bs) (.bool b)=True:=by unfold dF;rfl
@[simp] theorem Sl {s:List Nat}: @dF (bp l bs) (.str s)=True:=by unfold dF;rfl
@[simp] theorem Sn {vs:List AV}: @dF (bp l bs) (.agg vs)= @lC (bp l bs) vs:=by unfold dF;rfl
@[simp] theorem So {vs:List AV}: @dF (bp l bs) (.tuple vs)= @ix (bp l bs) vs:=by unfold dF;rfl
@[simp] theorem QH: @ix (bp l bs) []=True:=by unfold ix;rfl
@[simp] theorem PH {v:AV} {vs:List AV}: @ix (bp l bs) (v::vs)=(@dF (bp l bs) v∧@ix (bp l bs) vs):=by conv=>lhs;unfold ix
@[simp] theorem PI: @lC (bp l bs) []=True:=rfl
@[simp] theorem Ob {v:AV} {vs:List AV}: @lC (bp l bs) (v::vs)=(@pR (bp l bs) v∧@lC (bp l bs) vs):=rfl
@[simp] theorem Sp {t:Ty} {x:Tm}: @pR (bp l bs) (.tm t x)=bA t (bc (fC l) x):=rfl
@[simp] theorem QI {k:IntKind} {n:Int}: @pR (bp l bs) (.int k n)=True:=rfl
@[simp] theorem PJ {b:Bool}: @pR (bp l bs) (.bool b)=True:=rfl
@[simp] theorem QJ {s:List Nat}: @pR (bp l bs) (.str s)=True:=rfl
end
@[simp] theorem PK {k:IntKind} {n:Int}:bA (.int k) (.int k n)=True:=eq_true (by unfold bA;exact ⟨n,rfl⟩)
@[simp] theorem Oc {b:Bool}:bA .bool (.bool b)=True:=eq_true (by unfold bA;exact ⟨b,rfl⟩)
@[simp] theorem PL {s:List Nat}:bA .str (.str s)=True:=eq_true (by unfold bA;exact ⟨s,rfl⟩)
@[simp] theorem wy {ts:List Ty} {l:List (List D)}:bA (.aY ts) (.aY l)=∀r∈l,bg ts r:=by
 unfold bA
 apply propext
 exact ⟨fun ⟨l',h,h2⟩=>by cases h;exact h2,fun h=>⟨l,rfl,h⟩⟩
@[simp] theorem PM {ts:List Ty} {r:List D}:bA (.ref ts) (.ref r)=bg ts r:=by
 unfold bA
 apply propext
 exact ⟨fun ⟨l',h,h2⟩=>by cases h;exact h2,fun h=>⟨r,rfl,h⟩⟩
@[simp] theorem CA:bg [] []=True:=eq_true (by unfold bg;rfl)
@[simp] theorem AK {t:Ty} {ts:List Ty} {d:D} {r:List D}:bg (t::ts) (d::r)=(bA t d∧bg ts r):=by
 conv=>lhs;unfold bg
 apply propext
 exact ⟨fun ⟨d',r',h,h1,h2⟩=>by cases h;exact ⟨h1,h2⟩,fun ⟨h1,h2⟩=>⟨d,r,rfl,h1,h2⟩⟩
theorem FB {P:Program} {bs:List bf} {L:LD} {R R':List D→Nat→List D→Prop} (h:eu P bs L R) (hs: ∀ins i outs,R' ins i outs→R ins i outs):eu P bs L R':=by
 unfold eu at*
 cases hc:L.call with
 |true=>rw [hc] at h;exact fun ins i outs hr=>h ins i outs (hs _ _ _ hr)
 |false=>rw [hc] at h;exact fun ins i outs hr=>h ins i outs (hs _ _ _ hr)
def kl (P:Program) (bs:List bf) (L:LD) (ins:List D) (i:Nat) (outs:List D):Prop:=eu P bs L fun x j y=>x=ins∧j=i∧y=outs
theorem K8 {P:Program} {bs:List bf} {L:LD}:eu P bs L (kl P bs L):=by
 unfold kl eu
 cases L.call with
 |true=>exact fun ins i outs h=>h ins i outs ⟨rfl,rfl,rfl⟩
 |false=>exact fun ins i outs h=>h ins i outs ⟨rfl,rfl,rfl⟩
section
variable {P:Program} {bs:List bf} {fuel:Nat} {fids:List uY} {lds:List LD}
def PN (P:Program) (bs:List bf) (fids:List uY):List (List DV→DV→Prop):=fids.map fun f=>R9 P bs f.1 f.2
def QK (P:Program) (bs:List bf) (lds:List LD):List (List D→Nat→List D→Prop):=lds.map (kl P bs)
theorem jE:Uses P bs fids lds (PN P bs fids) (QK P bs lds):=by
 refine ⟨fun i f G hf hG=>?_,fun i L G hf hG=>?_⟩
 ·unfold PN at hG
  rw [Ue,hf] at hG
  cases hG
  exact fun ds r h=>h
 ·unfold QK at hG
  rw [Ue,hf] at hG
  cases hG
  exact K8
abbrev Ka (P:Program) (bs:List bf) (fids:List uY) (lds:List LD):=Wp bs (PN P bs fids) (QK P bs lds)
theorem QL (hP:cH P) (hB:bs.length=P.globals.size) (h0:0<P.globals.size) {f:FuncId} {args:List AV} {t:PT} {l:List D} {r:DV} (hc:bt P bs fuel f args fids lds t l.length=true) {ds:List DV} (ha: @cI (bp l bs) args=some ds) (hta: @ix (bp l bs) args)
 (hw:Ka P bs fids lds t l fun o=>o= .ret r):Ax P bs f ds r:=by
 obtain ⟨l',o,h1,rfl⟩:=hw
 exact Mj hP hB h0 jE hc h1 ha hta
theorem QM (hP:cH P) (hB:bs.length=P.globals.size) (h0:0<P.globals.size) {f:FuncId} {args:List AV} {t:PT} {l:List D} {R:DV→Prop} (hc:bt P bs fuel f args fids lds t l.length=true) {ds:List DV} (ha: @cI (bp l bs) args=some ds) (hta: @ix (bp l bs) args)
 (hw:Ka P bs fids lds t l fun o=>∃r,o= .ret r∧R r): ∃r,R r∧Ax P bs f ds r:=by
 obtain ⟨l',o,h1,r,rfl,hR⟩:=hw
 exact ⟨r,hR,Mj hP hB h0 jE hc h1 ha hta⟩
theorem K9 (hP:cH P) (hB:bs.length=P.globals.size) (h0:0<P.globals.size) {L:LD} {t:PT} (hc:bJ P fuel L fids lds t=true) {ins:List D} {Q:Nat→List D→Prop} (hl:ins.length=L.k)
 (hw:Ka P bs fids lds t ins fun o=>∃i outs,o= .exit i outs∧Q i outs): ∃i outs,Q i outs∧kl P bs L ins i outs:=by
 obtain ⟨l',o,h1,i,outs,rfl,hQ⟩:=hw
 exact ⟨i,outs,hQ,DN hP hB h0 jE hc fun ins' i' outs' hg=>by obtain ⟨rfl,rfl,rfl⟩:=hg;exact ⟨hl,l',h1⟩⟩
theorem La (hP:cH P) (hB:bs.length=P.globals.size) (h0:0<P.globals.size) {L:LD} {t:PT} (hc:bJ P fuel L fids lds t=true) {ins:List D} {i:Nat} {outs:List D} (hl:ins.length=L.k)
 (hw:Ka P bs fids lds t ins fun o=>o= .exit i outs):kl P bs L ins i outs:=by
 obtain ⟨l',o,h1,rfl⟩:=hw
 exact DN hP hB h0 jE hc fun ins' i' outs' hg=>by obtain ⟨rfl,rfl,rfl⟩:=hg;exact ⟨hl,l',h1⟩
def Ip (P:Program) (bs:List bf) (fids:List uY) (lds:List LD) (k:Nat) (t:PT):Nat→List D→Nat→List D→Prop
 |0,ins,i,outs=>ins.length=k∧∃l',ny bs (PN P bs fids) (QK P bs lds) t ins l' (.exit i outs)
 |n+1,ins,i,outs=>ins.length=k∧∃l' ins',ny bs (PN P bs fids) (QK P bs lds) t ins l' (.next ins')∧Ip P bs fids lds k t n ins' i outs
theorem xP (hP:cH P) (hB:bs.length=P.globals.size) (h0:0<P.globals.size) {L:LD} {t:PT} (hc:bh P fuel L fids lds t=true) {α:Type} {enc:α→List D} {I:α→Prop} {μ:α→Nat} {Q:α→Nat→List D→Prop}
 (h: ∀a,I a→(enc a).length=L.k∧Ka P bs fids lds t (enc a) fun o=>(∃i os,o= .exit i os∧Q a i os)∨∃a',o= .next (enc a')∧I a'∧μ a'<μ a∧∀i os,Q a' i os→Q a i os) (a:α) (ha:I a): ∃i os,Q a i os∧kl P bs L (enc a) i os:=by
 have key: ∀n a,μ a<n→I a→∃i os m,Q a i os∧Ip P bs fids lds L.k t m (enc a) i os:=by
  intro n
  induction n with
  |zero=>intro a h;omega
  |succ n ih=>
   intro a hm ha
   obtain ⟨hk,l',o,h1,⟨i,os,rfl,hQ⟩ |⟨a',rfl,ha',hlt,hQ⟩⟩:=h a ha
   ·exact ⟨i,os,0,hQ,hk,l',h1⟩
   ·obtain ⟨i,os,m,h2,h3⟩:=ih a' (by omega) ha'
    exact ⟨i,os,m+1,hQ i os h2,hk,l',enc a',h1,h3⟩
 obtain ⟨i,os,m,h1,h2⟩:=key (μ a+1) a (by omega) ha
 refine ⟨i,os,h1,FB (K4 hP hB h0 jE hc (G:=fun n=>Ip P bs fids lds L.k t n) fun n ins i outs hg=>?_) fun ins' i' outs' hg=>by obtain ⟨rfl,rfl,rfl⟩:=hg;exact ⟨m,h2⟩⟩
 cases n with
 |zero=>obtain ⟨h1,l',h2⟩:=hg;exact ⟨h1,l',.inl h2⟩
 |succ n=>obtain ⟨h1,l',ins',h2,h3⟩:=hg;exact ⟨h1,l',.inr ⟨ins',h2,n,by omega,h3⟩⟩
end
def gr {α β:Type} (step:Nat→α→β→(Nat×List D) ⊕ β) (fin:β→Nat×List D):List α→Nat→β→Nat×List D
 |[],_,b=>fin b
 |x::l,k,b=>match step k x b with | .inl r=>r | .inr b'=>gr step fin l (k+1) b'
section
variable {P:Program} {bs:List bf} {fuel:Nat} {fids:List uY} {lds:List LD}
theorem Iq {α β:Type} (hP:cH P) (hB:bs.length=P.globals.size) (h0:0<P.globals.size) {L:LD} {t:PT} (hc:bh P fuel L fids lds t=true)
 {aY:List α} {enc:Nat→β→List D} {I:Nat→β→Prop} {step:Nat→α→β→(Nat×List D) ⊕ β} {fin:β→Nat×List D} (hl: ∀k b,(enc k b).length=L.k)
 (h1: ∀k b x (h:k<aY.length),I k b→aY[k]=x→Ka P bs fids lds t (enc k b) fun o=>match step k x b with | .inl r=>o= .exit r.1 r.2 | .inr b'=>o= .next (enc (k+1) b')∧I (k+1) b')
 (h2: ∀b,I aY.length b→Ka P bs fids lds t (enc aY.length b) fun o=>o= .exit (fin b).1 (fin b).2) (b:β) (hb:I 0 b):kl P bs L (enc 0 b) (gr step fin aY 0 b).1 (gr step fin aY 0 b).2:=by
 obtain ⟨i,os,⟨rfl,rfl⟩,h⟩:=xP hP hB h0 hc (α:=Nat×β) (enc:=fun a=>enc a.1 a.2) (I:=fun a=>I a.1 a.2∧a.1≤aY.length) (μ:=fun a=>aY.length - a.1)
  (Q:=fun a i os=>i=(gr step fin (aY.drop a.1) a.1 a.2).1∧os=(gr step fin (aY.drop a.1) a.1 a.2).2) (by
   rintro ⟨k,b⟩ ⟨hI,hk⟩
   refine ⟨hl k b,?_⟩
   rcases Nat.lt_or_ge k aY.length with hlt |hge
   ·obtain ⟨l',o,q1,q2⟩:=h1 k b _ hlt hI rfl
    refine ⟨l',o,q1,?_⟩
    simp only [List.drop_eq_getElem_cons hlt,gr]
    cases hs:step k aY[k] b with
    |inl r=>rw [hs] at q2;exact .inl ⟨_,_,q2,rfl,rfl⟩
    |inr b'=>
     rw [hs] at q2
     obtain ⟨rfl,q3⟩:=q2
     exact .inr ⟨(k+1,b'),rfl,⟨q3,hlt⟩,by show aY.length - (k+1)<aY.length - k;omega,fun i os h=>h⟩
   ·obtain rfl:k=aY.length:=XI hk hge
    obtain ⟨l',o,q1,rfl⟩:=h2 b hI
    refine ⟨l',_,q1,.inl ⟨_,_,rfl,?_⟩⟩
    show (fin b).1=(gr step fin (aY.drop aY.length) aY.length b).1∧(fin b).2=(gr step fin (aY.drop aY.length) aY.length b).2
    rw [List.drop_length]
    exact ⟨rfl,rfl⟩) (0,b) ⟨hb,Nat.zero_le _⟩
 exact h
theorem AL {α β:Type} (hP:cH P) (hB:bs.length=P.globals.size) (h0:0<P.globals.size) {L:LD} {t:PT} (hc:bh P fuel L fids lds t=true)
 {aY:List α} {enc:Nat→β→List D} {I:Nat→β→Prop} {Q:Nat→List D→Prop} (hl: ∀k b,(enc k b).length=L.k)
 (h1: ∀k b x (h:k<aY.length),I k b→aY[k]=x→Ka P bs fids lds t (enc k b) fun o=>(∃i os,o= .exit i os∧Q i os)∨∃b',o= .next (enc (k+1) b')∧I (k+1) b')
 (h2: ∀b,I aY.length b→Ka P bs fids lds t (enc aY.length b) fun o=>∃i os,o= .exit i os∧Q i os) (b:β) (hb:I 0 b): ∃i os,Q i os∧kl P bs L (enc 0 b) i os:=by
 refine xP hP hB h0 hc (α:=Nat×β) (enc:=fun a=>enc a.1 a.2) (I:=fun a=>I a.1 a.2∧a.1≤aY.length) (μ:=fun a=>aY.length - a.1) (Q:=fun _=>Q) (fun ⟨k,b⟩ ⟨hI,hk⟩=>?_) (0,b) ⟨hb,Nat.zero_le _⟩
 refine ⟨hl k b,?_⟩
 rcases Nat.lt_or_ge k aY.length with hlt |hge
 ·obtain ⟨l',o,q1,q2⟩:=h1 k b _ hlt hI rfl
  refine ⟨l',o,q1,q2.imp id fun ⟨b',q3,q4⟩=>⟨(k+1,b'),q3,⟨q4,hlt⟩,by show aY.length - (k+1)<aY.length - k;omega,fun i os h=>h⟩⟩
 ·obtain rfl:k=aY.length:=XI hk hge
  obtain ⟨l',o,q1,q2⟩:=h2 b hI
  exact ⟨l',o,q1,.inl q2⟩
end
theorem km {α:Type} (p:α→Bool) (o:Nat→Nat×List D) (e:Nat×List D): ∀(l:List α) (k:Nat),gr (fun k x (_:Unit)=>if p x then .inl (o k) else .inr ()) (fun _=>e) l k ()=match l.findIdx? p with |some j=>o (k+j) |none=>e
 |[],k=>rfl
 |x::l,k=>by
  unfold gr
  rw [List.findIdx?_cons]
  cases h:p x with
  |true=>simp
  |false=>
   have:=km p o e l (k+1)
   simp only [Bool.false_eq_true,if_false]
   rw [this]
   cases l.findIdx? p with
   |none=>rfl
   |some j=>simp [Nat.add_assoc,Nat.add_comm 1 j]
end
end Go.Proofs.Sai
