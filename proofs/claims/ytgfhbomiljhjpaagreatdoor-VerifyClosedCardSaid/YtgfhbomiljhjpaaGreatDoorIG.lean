/- Part IG of the proof of VerifyClosed: texts of the interpreter and what it shows, under short names. No condition. -/
import Derived.Test.YtgfhbomiljhjpaaGreatDoorIF
import Derived.ProofKit
import Derived.OpenShut
import Derived.LaidMore
import Derived.Lay
import Derived.SevenTiedAt
import Derived.Stop.Joined
import Derived.Lib.LaidTab
import Derived.LaidHandle
set_option linter.unusedVariables false
set_option linter.unusedSimpArgs false
set_option linter.unusedSectionVars false
open Array renaming getD_eq_getD_getElem?→Uw
open Bool renaming and_eq_true→Uj
open Go.Addr renaming add→Uy
open Go.Frame renaming enter→W4
open Go.Steps renaming one→XK
open List renaming rec→TN,not_mem_nil→Ub,mem_cons_self→Uk,mem_cons_of_mem→Ul,length_cons→Uq,getElem?_eq_getElem→UB
open Nat renaming beq→TJ,eq_of_beq_eq_true→T7,ble→TO,succ→TM,le_of_ble_eq_true→Ua,lt_of_lt_of_le→Ug,le_trans→Ui,le_refl→Uh
open Option renaming rec→TH
open Option.some renaming inj→TZ
namespace Go.Proofs.Sai
section
open Go Go.RowKit
abbrev gF:=List (Tm×Tm)
structure gV where
 r:List (Pos×Pos)
 z:List Pos
noncomputable def bK (l:List (Pos×Pos)) (b:Pos):Option Pos:=@TN (Pos×Pos) (fun _=>Option Pos) none (fun c _ ih=>aQ (jh c.1 b) (some c.2) ih) l
noncomputable def gn (l:List Pos) (b:Pos):Bool:=@TN Pos (fun _=>Bool) false (fun c _ ih=>aQ (jh c b) true ih) l
noncomputable def iH (ν:gV) (b c:Pos):Bool:=@TH Pos (fun _=>Bool) false (fun d=>jh d c) (bK ν.r b)
noncomputable def gQ (x y:Option gF):Option gF:=ai x fun a=>omap y fun b=>a++b
mutual
noncomputable def bG (ν:gV):AV→AV→Option gF
 | .bad,_=>none
 | .bool a,v=>(match v with | .bool b=>aQ (a==b) (some []) none |_=>none)
 | .int k a,v=>(match v with | .int j b=>aQ (rO k j&&Eu a b) (some []) none |_=>none)
 | .float k a,v=>(match v with | .float j b=>aQ (decide (k=j)&&TJ a b) (some []) none |_=>none)
 | .str a,v=>(match v with | .str b=>aQ (vi a b) (some []) none |_=>none)
 | .ptr b o,v=>(match v with | .ptr c p=>aQ (iH ν b c&&TJ o p) (some []) none |_=>none)
 | .bY,v=>(match v with | .bY=>some [] |_=>none)
 | .slice b o n l w,v=>(match v with | .slice b' o' n' l' w'=>aQ (iH ν b b'&&TJ o o'&&TJ n n'&&l==l'&&w==w') (some []) none |_=>none)
 | .aJ,v=>(match v with | .aJ=>some [] |_=>none)
 | .map b,v=>(match v with | .map c=>aQ (iH ν b c) (some []) none |_=>none)
 | .ck,v=>(match v with | .ck=>some [] |_=>none)
 | .func f a c,v=>(match v with | .func g a' c'=>aQ (TJ f g) (gQ (cW ν a a') (cW ν c c')) none |_=>none)
 | .yield b,v=>(match v with | .yield c=>aQ (iH ν b c) (some []) none |_=>none)
 | .bU,v=>(match v with | .bU=>some [] |_=>none)
 | .iface t a,v=>(match v with | .iface u b=>aQ (TJ t u) (bG ν a b) none |_=>none)
 | .bw,v=>(match v with | .bw=>some [] |_=>none)
 | .agg l,v=>(match v with | .agg m=>cW ν l m |_=>none)
 | .tuple l,v=>(match v with | .tuple m=>cW ν l m |_=>none)
 | .tm t x,v=>(match v with
  | .aJ=>(match t with | .aY _=>some [(x,.op .nil [])] |_=>none)
  | .e0 _=>(match t with | .aY _=>some [(x,.op .nil [])] |_=>none)
  |v=>ai (kS v) fun q=>aQ (kO t q.1) (some [(x,q.2)]) none)
 | .vl ts n b,v=>(match v with
  | .vl us m c=>aQ (cM ts us&&iH ν b c) (some [(n,m)]) none
  | .aJ=>aQ (gn ν.z b) (some [(n,.op .len [.op .nil []])]) none
  | .e0 true=>aQ (gn ν.z b) (some [(n,.op .len [.op .nil []])]) none
  | .slice _ _ m lim _=>aQ (gn ν.z b&&(TJ m 0&&lim)) (some [(n,.op .len [.op .nil []])]) none
  |_=>none)
 | .e0 z,v=>(match v with | .e0 z'=>aQ (z==z') (some []) none |_=>none)
 | .pe ts b i o,v=>(match v with | .pe us c j o'=>aQ (cM ts us&&iH ν b c&&TJ o o') (some [(i,j)]) none |_=>none)
 | .fb x,v=>(match v with | .fb y=>some [(x,y)] |_=>none)
noncomputable def cW (ν:gV):List AV→List AV→Option gF
 |[],m=>(match m with |[]=>some [] |_=>none)
 |x::l,m=>(match m with |y::m=>gQ (bG ν x y) (cW ν l m) |_=>none)
end
def Cc:AV→Bool
 | .bad=>true
 |_=>false
noncomputable def Qv (ν:gV) (k:Bool):Option AV→Option AV→Option gF
 |none,o=>(match o with |none=>some [] |_=>none)
 |some v,o=>aQ (k&&Cc v) (some []) (match o with |some u=>bG ν v u |none=>none)
def te:Tr AV→Option AV
 | .nil=>none
 | .node v _ _=>v
def xB:Tr AV→Tr AV
 | .nil=>.nil
 | .node _ l _=>l
def rA:Tr AV→Tr AV
 | .nil=>.nil
 | .node _ _ r=>r
noncomputable def oC (t:Tr AV):Bool:=@Tr.rec AV (fun _=>Bool) true (fun v _ _ a b=>@TH AV (fun _=>Bool) (aQ a b false) (fun _=>false) v) t
noncomputable def jC (ν:gV) (k:Bool):Tr AV→Tr AV→Option gF
 | .nil,t=>aQ (oC t) (some []) none
 | .node v l r,t=>gQ (Qv ν k v (te t)) (gQ (jC ν k l (xB t)) (jC ν k r (rA t)))
noncomputable def H0 (ν:gV):Cs→Cs→Option gF
 | .nB l,c=>(match c with | .nB m=>cW ν l m |_=>none)
 | .many t,c=>(match c with | .many u=>jC ν false t u |_=>none)
noncomputable def DE (ν:gV):List (AV×AV)→List (AV×AV)→Option gF
 |[],m=>(match m with |[]=>some [] |_=>none)
 |x::l,m=>(match m with |y::m=>gQ (bG ν x.1 y.1) (gQ (bG ν x.2 y.2) (DE ν l m)) |_=>none)
def H2:LoopState→LoopState→Bool
 | .ready,.ready=>true
 | .busy,.busy=>true
 | .done,.done=>true
 | .exhausted,.exhausted=>true
 |_,_=>false
noncomputable def Cd:Option Code→Option Code→Bool
 |none,none=>true
 |some (.exit a),some (.exit b)=>TJ a b
 |some .ret,some .ret=>true
 |_,_=>false
noncomputable def Qw (ν:gV) (p q:er):Option gF:=
 aQ (H2 p.state q.state&&Cd p.pending q.pending&&TJ p.n q.n&&vi p.params q.params&&iH ν p.defers q.defers&&TJ p.f q.f&&jh p.p q.p) (jC ν true p.tm q.tm) none
noncomputable def pK (ν:gV):bf→bf→Option gF
 | .cells own t len c,k=>(match k with | .cells own' t' len' c'=>aQ (own==own'&&TJ t t'&&TJ len len') (H0 ν c c') none |_=>none)
 | .map es,k=>(match k with | .map fs=>DE ν es fs |_=>none)
 | .fD l p,k=>(match k with | .fD m q=>aQ (vi l m&&TJ p q) (some []) none |_=>none)
 | .deferred d,k=>(match k with | .deferred e=>aQ (d==e) (some []) none |_=>none)
 | .loop p,k=>(match k with | .loop q=>Qw ν p q |_=>none)
 | .vec own t ts n x,k=>(match k with | .vec own' u us m y=>aQ (own==own'&&TJ t u&&cM ts us) (some [(n,m),(x,y)]) none |_=>none)
 | .bW g kt ts x,k=>(match k with | .bW g' ku us y=>aQ (g==g'&&kO kt ku&&cM ts us) (some [(x,y)]) none |_=>none)
 |_,_=>none
def H3:bf→Option gF
 | .vec _ _ _ n x=>some [(n,.op .len [.op .nil []]),(x,.op .nil [])]
 |_=>none
section
variable {E E':Env} {P:Program} {N:Nat} {ν:gV} {μ μ':bu}
theorem cq {x y:Option gF} {l:gF} (h:gQ x y=some l): ∃a b,x=some a∧y=some b∧l=a++b:=by
 obtain ⟨a,h1,h2⟩:=aa.1 h
 obtain ⟨b,h3,h4⟩:=ba.1 h2
 exact ⟨a,b,h1,h3,h4.symm⟩
def bL (E E':Env) (l:gF):Prop:=∀p∈l,@ev E' p.1= @ev E p.2
theorem bL.left {a b:gF} (h:bL E E' (a++b)):bL E E' a:=fun p hp=>h p (List.mem_append_left _ hp)
theorem bL.right {a b:gF} (h:bL E E' (a++b)):bL E E' b:=fun p hp=>h p (List.mem_append_right _ hp)
structure lx (ν:gV) (μ' μ:bu):Prop where
 ren: ∀b c,bK ν.r b=some c→μ' b=μ c
 nil: ∀b,gn ν.z b=true→μ' b=some cE
 fz: ∀ad v,μ.fz ad=some v→μ'.fz ad=some v
theorem lx.at (h:lx ν μ' μ) {b c:Pos} (hb:iH ν b c=true):μ' b=μ c:=by
 unfold iH at hb
 cases hr:bK ν.r b with
 |none=>rw [hr] at hb;cases hb
 |some d=>
  rw [hr] at hb
  have:jh d c=true:=hb
  rw [←dm this]
  exact h.ren b d hr
theorem pL {v0 v:AV} {l:gF} (h:bG ν v0 v=some l) (ho:v.one=true):v0.one=true:=by
 cases v0<;>first |rfl |(unfold bG at h;cases h;done) |skip
 all_goals (unfold bG at h;cases v<;>first |(cases h;done) |(cases ho;done))
theorem qQ: ∀{v0 v:List AV} {l:gF},cW ν v0 v=some l→cd v=true→cd v0=true
 |[],v,l,h,ho=>rfl
 |x::a,v,l,h,ho=>by
  cases v<;>first |(unfold cW at h;cases h;done) |skip
  rename_i y b
  unfold cW at h
  obtain ⟨p,q,h3,h4,rfl⟩:=cq h
  obtain ⟨o1,o2⟩:=bB (show aQ y.one (cd b) false=true from ho)
  show aQ x.one (cd a) false=true
  rw [pL h3 o1]
  exact qQ h4 o2
mutual
theorem db (hn:lx ν μ' μ): ∀{v0 v:AV} {u:Value} {l:gF},bG ν v0 v=some l→bL E E' l→@VR E P μ v u→@VR E' P μ' v0 u
 | .bad,v,u,l,h,he,hv=>by unfold bG at h;cases h
 | .bool a,v,u,l,h,he,hv=>by
  cases v<;>first |(unfold bG at h;cases h;done) |skip
  unfold bG at h
  obtain ⟨h1,_⟩:=aA.1 h
  rw [eq_of_beq h1]
  cases hv
  exact @VR.bool E' P μ' _
 | .int k a,v,u,l,h,he,hv=>by
  cases v<;>first |(unfold bG at h;cases h;done) |skip
  unfold bG at h
  obtain ⟨h1,_⟩:=aA.1 h
  rw [Uj,fk,fI] at h1
  rw [of_decide_eq_true h1.1,eq_of_beq h1.2]
  cases hv
  exact @VR.int E' P μ' _ _
 | .float k a,v,u,l,h,he,hv=>by
  cases v<;>first |(unfold bG at h;cases h;done) |skip
  unfold bG at h
  obtain ⟨h1,_⟩:=aA.1 h
  rw [Uj] at h1
  rw [of_decide_eq_true h1.1,T7 h1.2]
  cases hv
  exact @VR.float E' P μ' _ _
 | .str a,v,u,l,h,he,hv=>by
  cases v<;>first |(unfold bG at h;cases h;done) |skip
  rename_i b
  unfold bG at h
  obtain ⟨h1,_⟩:=aA.1 (show aQ (vi a b) (some []) none=some l from h)
  rw [fj] at h1
  rw [eq_of_beq h1]
  cases hv with
  |str _ s hs=>exact @VR.str E' P μ' _ s hs
 | .ptr b o,v,u,l,h,he,hv=>by
  cases v<;>first |(unfold bG at h;cases h;done) |skip
  unfold bG at h
  obtain ⟨h1,_⟩:=aA.1 h
  rw [Uj] at h1
  rw [T7 h1.2]
  cases hv with
  |ptr _ _ e hb=>exact @VR.ptr E' P μ' b _ e ((hn.at h1.1).trans hb)
 | .bY,v,u,l,h,he,hv=>by
  cases v<;>first |(unfold bG at h;cases h;done) |skip
  cases hv
  exact @VR.bY E' P μ'
 | .slice b o n l w,v,u,q,h,he,hv=>by
  cases v<;>first |(unfold bG at h;cases h;done) |skip
  unfold bG at h
  obtain ⟨h1,_⟩:=aA.1 h
  simp only [Uj] at h1
  obtain ⟨⟨⟨⟨h1,h2⟩,h3⟩,h4⟩,h5⟩:=h1
  rw [T7 h2,T7 h3,eq_of_beq h4,eq_of_beq h5]
  cases hv with
  |slice _ _ _ _ _ e ad c hb q1 q2 q3 q4 q5=>exact @VR.slice E' P μ' b _ _ _ _ e ad c ((hn.at h1).trans hb) q1 q2 q3 q4 q5
 | .aJ,v,u,l,h,he,hv=>by
  cases v<;>first |(unfold bG at h;cases h;done) |skip
  cases hv
  exact @VR.aJ E' P μ'
 | .map b,v,u,l,h,he,hv=>by
  cases v<;>first |(unfold bG at h;cases h;done) |skip
  unfold bG at h
  obtain ⟨h1,_⟩:=aA.1 h
  cases hv with
  |map _ e hb=>exact @VR.map E' P μ' b e ((hn.at h1).trans hb)
 | .ck,v,u,l,h,he,hv=>by
  cases v<;>first |(unfold bG at h;cases h;done) |skip
  cases hv
  exact @VR.ck E' P μ'
 | .func f a c,v,u,l,h,he,hv=>by
  cases v<;>first |(unfold bG at h;cases h;done) |skip
  unfold bG at h
  obtain ⟨h1,h2⟩:=aA.1 h
  obtain ⟨x,y,h3,h4,rfl⟩:=cq h2
  rw [show _=_ from T7 h1]
  cases hv with
  |func _ _ _ F C q1 q2=>exact @VR.func E' P μ' _ a c F C (dA hn h3 he.left q1) (dA hn h4 he.right q2)
 | .yield b,v,u,l,h,he,hv=>by
  cases v<;>first |(unfold bG at h;cases h;done) |skip
  unfold bG at h
  obtain ⟨h1,_⟩:=aA.1 h
  cases hv with
  |yield _ e hb=>exact @VR.yield E' P μ' b e ((hn.at h1).trans hb)
 | .bU,v,u,l,h,he,hv=>by
  cases v<;>first |(unfold bG at h;cases h;done) |skip
  cases hv
  exact @VR.bU E' P μ'
 | .iface t a,v,u,l,h,he,hv=>by
  cases v<;>first |(unfold bG at h;cases h;done) |skip
  unfold bG at h
  obtain ⟨h1,h2⟩:=aA.1 h
  rw [show _=_ from T7 h1]
  cases hv with
  |iface _ _ x q=>exact @VR.iface E' P μ' _ a x (db hn h2 he q)
 | .bw,v,u,l,h,he,hv=>by
  cases v<;>first |(unfold bG at h;cases h;done) |skip
  cases hv
  exact @VR.bw E' P μ'
 | .agg a,v,u,l,h,he,hv=>by
  cases v<;>first |(unfold bG at h;cases h;done) |skip
  unfold bG at h
  cases hv with
  |agg _ C hC ho=>exact @VR.agg E' P μ' a C (dA hn h he hC) (qQ h ho)
 | .tuple a,v,u,l,h,he,hv=>by
  cases v<;>first |(unfold bG at h;cases h;done) |skip
  unfold bG at h
  cases hv with
  |tuple _ C hC=>exact @VR.tuple E' P μ' a C (dA hn h he hC)
 | .tm t x,v,u,l,h,he,hv=>by
  unfold bG at h
  split at h
  ·split at h
   ·rename_i ts
    cases h
    cases hv
    have:=he (x,.op .nil []) (List.mem_singleton.2 rfl)
    have e0: @ev E (.op .nil [])= .aY []:=rfl
    rw [e0] at this
    exact @VR.tm E' P μ' (.aY ts) x _ ⟨[],this,fun r hr=>absurd hr Ub⟩ (by rw [this];exact .nil)
   ·cases h
  ·split at h
   ·rename_i ts
    cases h
    cases hv with |e0 _ ad c hz hm=>
    have:=he (x,.op .nil []) (List.mem_singleton.2 rfl)
    have e0: @ev E (.op .nil [])= .aY []:=rfl
    rw [e0] at this
    exact @VR.tm E' P μ' (.aY ts) x _ ⟨[],this,fun r hr=>absurd hr Ub⟩ (by rw [this];exact py _ hm)
   ·cases h
  ·obtain ⟨⟨t',y⟩,h1,h2⟩:=aa.1 h
   obtain ⟨h3,h4⟩:=aA.1 h2
   cases h4
   have:=jP h3
   subst this
   obtain ⟨q1,q2⟩:=@ez E P μ v u _ y hv h1
   have e0:=he (x,y) (List.mem_singleton.2 rfl)
   exact @VR.tm E' P μ' _ x u (by rw [e0];exact q1) (by rw [e0];exact q2.mono hn.fz)
 | .vl ts n b,v,u,l,h,he,hv=>by
  unfold bG at h
  split at h
  ·rename_i us m c
   obtain ⟨h1,h2⟩:=aA.1 h
   cases h2
   rw [Uj] at h1
   have:=cA h1.1
   subst this
   have e0:=he (n,m) (List.mem_singleton.2 rfl)
   cases hv with
   |vl _ _ _ _ e hb q=>exact @VR.vl E' P μ' ts n b u e ((hn.at h1.2).trans hb) (by rw [e0];exact q)
  ·obtain ⟨h1,h2⟩:=aA.1 h
   cases h2
   cases hv
   have e0:=he (n,.op .len [.op .nil []]) (List.mem_singleton.2 rfl)
   exact @VR.vl E' P μ' ts n b _ cE (hn.nil b h1) (.inl ⟨.inl rfl,by simp [cE],e0⟩)
  ·obtain ⟨h1,h2⟩:=aA.1 h
   cases h2
   cases hv with
   |e0 _ ad c hz0 _=>
   obtain rfl:=hz0 rfl
   have e0:=he (n,.op .len [.op .nil []]) (List.mem_singleton.2 rfl)
   exact @VR.vl E' P μ' ts n b _ cE (hn.nil b h1) (.inl ⟨.inr ⟨ad,rfl⟩,by simp [cE],e0⟩)
  ·obtain ⟨h1,h2⟩:=aA.1 h
   cases h2
   rw [Uj,Uj] at h1
   obtain ⟨h1,q1,q2⟩:=h1
   obtain rfl:=T7 q1
   subst q2
   have e0:=he (n,.op .len [.op .nil []]) (List.mem_singleton.2 rfl)
   cases hv with
   |slice _ _ _ _ _ e ad c _ _ _ _ hl _=>
   obtain rfl:=hl rfl
   exact @VR.vl E' P μ' ts n b _ cE (hn.nil b h1) (.inl ⟨.inr ⟨ad,rfl⟩,by simp [cE],e0⟩)
  ·cases h
 | .e0 z,v,u,l,h,he,hv=>by
  cases v<;>first |(unfold bG at h;cases h;done) |skip
  unfold bG at h
  obtain ⟨h1,_⟩:=aA.1 h
  have:=eq_of_beq h1
  subst this
  cases hv with
  |e0 _ ad c hz hm=>exact @VR.e0 E' P μ' _ ad c hz hm
 | .pe ts b i o,v,u,l,h,he,hv=>by
  cases v<;>first |(unfold bG at h;cases h;done) |skip
  rename_i us c j o'
  unfold bG at h
  obtain ⟨h1,h2⟩:=aA.1 h
  cases h2
  simp only [Uj] at h1
  have:=cA h1.1.1
  subst this
  have:=T7 h1.2
  subst this
  have e0:=he (i,j) (List.mem_singleton.2 rfl)
  cases hv with
  |pe _ _ _ _ e k n hb hi=>exact @VR.pe E' P μ' ts b i o e k n ((hn.at h1.1.2).trans hb) (by rw [e0];exact hi)
 | .fb x,v,u,l,h,he,hv=>by
  cases v<;>first |(unfold bG at h;cases h;done) |skip
  rename_i y
  unfold bG at h
  cases h
  have e0:=he (x,y) (List.mem_singleton.2 rfl)
  cases hv with
  |fb _ n hx=>exact @VR.fb E' P μ' x n (by rw [e0];exact hx)
theorem dA (hn:lx ν μ' μ): ∀{v0 v:List AV} {u:List Value} {l:gF},cW ν v0 v=some l→bL E E' l→@bZ E P μ v u→@bZ E' P μ' v0 u
 |[],v,u,l,h,he,hv=>by
  cases v<;>first |(unfold cW at h;cases h;done) |skip
  cases hv
  exact @bZ.nil E' P μ'
 |x::a,v,u,l,h,he,hv=>by
  cases v<;>first |(unfold cW at h;cases h;done) |skip
  unfold cW at h
  obtain ⟨p,q,h3,h4,rfl⟩:=cq h
  cases hv with
  |cons _ y _ ys q1 q2=>exact @bZ.cons E' P μ' x y a ys (db hn h3 he.left q1) (dA hn h4 he.right q2)
end
theorem tf: ∀{l m:List AV} {q:gF} {i:Nat} {v:AV},cW ν l m=some q→bL E E' q→m[i]? =some v→∃v0 p,l[i]? =some v0∧bG ν v0 v=some p∧bL E E' p
 |[],m,q,i,v,h,he,hi=>by
  cases m<;>first |(unfold cW at h;cases h;done) |skip
  simp at hi
 |x::a,m,q,i,v,h,he,hi=>by
  cases m<;>first |(unfold cW at h;cases h;done) |skip
  unfold cW at h
  obtain ⟨p,r,h3,h4,rfl⟩:=cq h
  cases i with
  |zero=>simp at hi;subst hi;exact ⟨x,p,rfl,h3,he.left⟩
  |succ i=>
   obtain ⟨v0,p',q1,q2,q3⟩:=tf h4 he.right (i:=i) (by simpa using hi)
   exact ⟨v0,p',by simpa using q1,q2,q3⟩
theorem ly: ∀{t:Tr AV},oC t=true→∀p,t.get p=none
 | .nil,_,p=>get_nil p
 | .node v l r,h,p=>by
  cases v with
  |some v=>cases h
  |none=>
   obtain ⟨h1,h2⟩:=bB (show aQ (oC l) (oC r) false=true from h)
   cases p with
   |one=>rfl
   |o p=>exact ly h1 p
   |i p=>exact ly h2 p
theorem Fq (t:Tr AV):t.get .one=te t:=by cases t<;>rfl
theorem Ce (t:Tr AV) (p:Pos):t.get (.o p)=(xB t).get p:=by cases t with |nil=>rw [get_nil];exact (get_nil p).symm |node=>rfl
theorem Ap (t:Tr AV) (p:Pos):t.get (.i p)=(rA t).get p:=by cases t with |nil=>rw [get_nil];exact (get_nil p).symm |node=>rfl
theorem mc {k:Bool}: ∀{t0 t:Tr AV} {q:gF},jC ν k t0 t=some q→bL E E' q→∀p,(t0.get p=none∧t.get p=none)∨(k=true∧t0.get p=some .bad)∨∃v0 v r,t0.get p=some v0∧t.get p=some v∧bG ν v0 v=some r∧bL E E' r
 | .nil,t,q,h,he,p=>by
  obtain ⟨h1,_⟩:=aA.1 (show aQ (oC t) (some []) none=some q from h)
  exact .inl ⟨get_nil p,ly h1 p⟩
 | .node v l r,t,q,h,he,p=>by
  obtain ⟨a,b,h1,h2,rfl⟩:=cq (show gQ (Qv ν k v (te t)) (gQ (jC ν k l (xB t)) (jC ν k r (rA t)))=some q from h)
  obtain ⟨c,d,h3,h4,rfl⟩:=cq h2
  cases p with
  |one=>
   rw [lY,Fq]
   cases v with
   |none=>
    cases ht:te t with
    |none=>exact .inl ⟨rfl,rfl⟩
    |some u=>rw [ht] at h1;cases h1
   |some v=>
    replace h1:aQ (k&&Cc v) (some []) (match te t with |some u=>bG ν v u |none=>none)=some a:=h1
    cases hb:k&&Cc v with
    |true=>
     rw [Uj] at hb
     refine .inr (.inl ⟨hb.1,?_⟩)
     cases v<;>first |rfl |cases hb.2
    |false=>
     rw [hb] at h1
     cases ht:te t with
     |none=>rw [ht] at h1;cases h1
     |some u=>rw [ht] at h1;exact .inr (.inr ⟨v,u,a,rfl,rfl,h1,he.left⟩)
  |o p=>rw [vu,Ce];exact mc h3 he.right.left p
  |i p=>rw [vv,Ap];exact mc h4 he.right.right p
theorem lz (hn:lx ν μ' μ) {t0 t:Tr AV} {q:gF} {tmps:Array Value} (h:jC ν true t0 t=some q) (he:bL E E' q) (ht: @TR E P μ t tmps): @TR E' P μ' t0 tmps:=by
 intro i
 have hi:=ht i
 rcases mc h he (pos i) with ⟨h1,h2⟩ |⟨_,h1⟩ |⟨v0,v,r,h1,h2,h3,h4⟩
 ·rw [h1]
  rw [h2] at hi
  replace hi: @VR E P μ (.tuple []) (tmps.getD i undef):=hi
  show @VR E' P μ' (.tuple []) _
  generalize tmps.getD i undef=u at*
  cases hi with
  |tuple _ C hC=>cases hC;exact @VR.tuple E' P μ' [] [] (@bZ.nil E' P μ')
 ·rw [h1];exact @VR.bad E' P μ' _
 ·rw [h1]
  rw [h2] at hi
  exact db hn h3 h4 hi
theorem qR (hn:lx ν μ' μ) {c0 c:Cs} {q:gF} {len:Nat} {f:Nat→Option Value} (h:H0 ν c0 c=some q) (he:bL E E' q) (hc: @CR E P μ c len f): @CR E' P μ' c0 len f:=by
 intro i hi
 obtain ⟨av,v,h1,h2,h3,h4⟩:=hc i hi
 cases c0 with
 |nB l=>
  cases c with
  |nB m=>
   rw [Cs.fT] at h1
   obtain ⟨v0,p,q1,q2,q3⟩:=tf h he h1
   exact ⟨v0,v,by rw [Cs.fT];exact q1,h2,db hn q2 q3 h3,pL q2 h4⟩
  |many u=>cases h
 |many t=>
  cases c with
  |nB m=>cases h
  |many u=>
   rw [Cs.sw] at h1
   rcases mc h he (pos i) with ⟨_,q2⟩ |⟨q1,_⟩ |⟨v0,v',r,q1,q2,q3,q4⟩
   ·rw [h1] at q2;cases q2
   ·cases q1
   ·rw [h1] at q2
    cases q2
    exact ⟨v0,v,by rw [Cs.sw];exact q1,h2,db hn q3 q4 h3,pL q3 h4⟩
theorem qS (hn:lx ν μ' μ): ∀{es0 es:List (AV×AV)} {q:gF} {ms:List MapEntry},DE ν es0 es=some q→bL E E' q→@ER E P μ es ms→@ER E' P μ' es0 ms
 |[],es,q,ms,h,he,hr=>by
  cases es<;>first |(cases h;done) |skip
  cases hr
  exact @ER.nil E' P μ'
 |x::a,es,q,ms,h,he,hr=>by
  cases es<;>first |(cases h;done) |skip
  rename_i y b
  obtain ⟨p,r,h3,h4,rfl⟩:=cq (show gQ (bG ν x.1 y.1) (gQ (bG ν x.2 y.2) (DE ν a b))=some q from h)
  obtain ⟨p2,r2,h5,h6,rfl⟩:=cq h4
  cases hr with
  |cons k v m _ ms hk hv hs=>exact @ER.cons E' P μ' x.1 x.2 m a ms (db hn h3 he.left hk) (db hn h5 he.right.left hv) (qS hn h6 he.right.right hs)
theorem gp {k0 k:bf} {q:gF} (h:pK ν k0 k=some q):bS k=false∧bS k0=false∧writes k0=writes k:=by
 cases k0<;>cases k<;>first |(cases h;done) |exact ⟨rfl,rfl,rfl⟩ |skip
 ·obtain ⟨h1,_⟩:=aA.1 h
  simp only [Uj] at h1
  exact ⟨rfl,rfl,eq_of_beq h1.1.1⟩
 ·obtain ⟨h1,_⟩:=aA.1 h
  simp only [Uj] at h1
  exact ⟨rfl,rfl,eq_of_beq h1.1.1⟩
theorem oD (hn:lx ν μ' μ) {k0 k:bf} {q:gF} {w:World} {e:eQ} (h:pK ν k0 k=some q) (he:bL E E' q) (hb: @BR E P N μ w k e): @BR E' P N μ' w k0 e:=by
 cases k0 with
 |cells own t len c=>
  cases k with
  |cells own' t' len' c'=>
   obtain ⟨h1,h2⟩:=aA.1 (show aQ (own==own'&&TJ t t'&&TJ len len') (H0 ν c c') none=some q from h)
   simp only [Uj] at h1
   have e1:=eq_of_beq h1.1.1
   have e2:t=t':=T7 h1.1.2
   have e3:len=len':=T7 h1.2
   subst e1 e2 e3
   cases own with
   |true=>obtain ⟨g,sz,cur,q1,q2,q3,q4,q5,q6⟩:=hb;exact ⟨g,sz,cur,q1,q2,q3,q4,q5,qR hn h2 he q6⟩
   |false=>exact ⟨hb.1,hb.2.1,qR hn h2 he hb.2.2⟩
  |_=>cases h
 |map es=>
  cases k with
  |map fs=>obtain ⟨g,en,cl,q1,q2,q3,⟨l,q4,q5⟩,q6⟩:=hb;exact ⟨g,en,cl,q1,q2,q3,⟨l,q4,qS hn h he q5⟩,q6⟩
  |_=>cases h
 |fD l p=>
  cases k with
  |fD m r=>
   obtain ⟨h1,_⟩:=aA.1 (show aQ (vi l m&&TJ p r) (some []) none=some q from h)
   rw [Uj,fj] at h1
   have e1:=eq_of_beq h1.1
   have e2:p=r:=T7 h1.2
   subst e1 e2
   exact hb
  |_=>cases h
 |deferred d=>
  cases k with
  |deferred d'=>
   obtain ⟨h1,_⟩:=aA.1 (show aQ (d==d') (some []) none=some q from h)
   have e1:=eq_of_beq h1
   subst e1
   exact hb
  |_=>cases h
 |bW g kt ts x=>
  cases k with
  |bW g' ku us y=>
   obtain ⟨h1,h2⟩:=aA.1 (show aQ (g==g'&&kO kt ku&&cM ts us) (some [(x,y)]) none=some q from h)
   simp only [Uj] at h1
   have e0:=eq_of_beq h1.1.1
   have e1:=jP h1.1.2
   have e2:=cA h1.2
   subst e0 e1 e2
   cases h2
   have e3:=he (x,y) (List.mem_singleton.2 rfl)
   obtain ⟨l,q1,q2,q3,G,ents,clock,ms,r1,r2,r3,r4,r5,r6⟩:=hb
   exact ⟨l,e3.trans q1,q2,q3,G,ents,clock,ms,r1,r2,r3,r4,r5.mono hn.fz,r6⟩
  |_=>cases h
 |vec own t ts n x=>
  cases k with
  |vec own' u us m y=>
   obtain ⟨h1,h2⟩:=aA.1 (show aQ (own==own'&&TJ t u&&cM ts us) (some [(n,m),(x,y)]) none=some q from h)
   simp only [Uj] at h1
   have e1:=cA h1.2
   have e0:=T7 h1.1.2
   have e4:=eq_of_beq h1.1.1
   subst e1 e0 e4
   cases h2
   have e2:=he (n,m) (Uk ..)
   have e3:=he (x,y) (Ul _ (Uk ..))
   obtain ⟨l,q1,q2,q3,q4⟩:=hb
   refine ⟨l,e3.trans q1,e2.trans q2,q3,q4.imp id fun ⟨g,cur,r1,r2,r3,r4,r5⟩=>⟨g,cur,r1,r2,r3,r4,fun j d hj=>let ⟨u,x1,x2,x3⟩:=r5 j d hj;⟨u,x1,x2.mono hn.fz,fun ho=>hn.fz _ _ (x3 ho)⟩⟩⟩
  |_=>cases h
 |loop lp=>
  cases k with
  |loop lq=>
   obtain ⟨h1,h2⟩:=aA.1 (show aQ (H2 lp.state lq.state&&Cd lp.pending lq.pending&&TJ lp.n lq.n&&vi lp.params lq.params&&iH ν lp.defers lq.defers&&TJ lp.f lq.f&&jh lp.p lq.p) (jC ν true lp.tm lq.tm) none=some q from h)
   simp only [Uj,fj] at h1
   obtain ⟨⟨⟨⟨⟨⟨q1,q2⟩,q4⟩,q5⟩,q6⟩,q7⟩,q8⟩:=h1
   obtain ⟨g,r,e1,e2,e3,⟨l1,l2,l3,l4,l5,l6,⟨en,d1,d2⟩,l8⟩⟩:=hb
   have s1:lp.state=lq.state:=by
    generalize lp.state=x at*
    generalize lq.state=y at*
    cases x<;>cases y<;>first |rfl |cases q1
   have s2:lp.pending=lq.pending:=by
    generalize lp.pending=x at*
    generalize lq.pending=y at*
    unfold Cd at q2
    split at q2<;>first |rfl |(rw [T7 q2]) |(cases q2)
   have s4:lp.n=lq.n:=T7 q4
   have s5:lp.params=lq.params:=eq_of_beq q5
   have s7:lp.f=lq.f:=T7 q7
   have s8:lp.p=lq.p:=dm q8
   exact ⟨g,r,e1,e2,e3,⟨l1.trans s1.symm,l2.trans s2.symm,lz hn h2 he l3,l4.trans s4.symm,l5.trans s5.symm,l6,⟨en,(hn.at q6).trans d1,d2⟩,by rw [s7,s8];exact l8⟩⟩
  |_=>cases h
 |dead=>cases h
 |A8 m=>cases h
 |frozen o=>cases h
end
noncomputable def NX (b n:Pos):Bool:=TO (TM (uK b)) (uK n)
noncomputable def kd (ν:gV) (s0 s:St):List (Pos×Pos)→Option gF
 |[]=>some []
 |x::l=>ai (s0.h.get x.1) fun k0=>ai (s.h.get x.2) fun k=>aQ (NX x.1 s0.n) (gQ (pK ν k0 k) (kd ν s0 s l)) none
noncomputable def oF (s0:St):List Pos→Option gF
 |[]=>some []
 |b::l=>ai (s0.h.get b) fun k0=>aQ (NX b s0.n) (gQ (H3 k0) (oF s0 l)) none
noncomputable def Aq (c:Pos) (l:List (Pos×Pos)):Bool:=@TN (Pos×Pos) (fun _=>Bool) false (fun x _ ih=>aQ (jh x.2 c) true ih) l
noncomputable def m5:List (Pos×Pos)→Bool
 |[]=>true
 |x::l=>aQ (Aq x.2 l) false (m5 l)
def NY (ν:gV):List Pos→Prop
 |[]=>True
 |b::z=>bK ν.r b=none∧NY ν z
noncomputable def mH (l:List (Pos×Pos)):List Pos→Bool
 |[]=>true
 |b::z=>aQ (bK l b).isNone (mH l z) false
noncomputable def m6 (ν:gV):Nat→Bool
 |0=>true
 |n+1=>aQ (iH ν (pos n) (pos n)) (m6 ν n) false
noncomputable def H4 (ν:gV):Option Pos→Option Pos→Bool
 |none,o=>o.isNone
 |some b,o=>(match o with |some c=>iH ν b c |none=>false)
noncomputable def dE (G:Nat) (ν:gV) (rd0 rd:Option Pos) (a0:aV) (s0:St) (a:aV) (s:St):Option gF:=
 aQ (m5 ν.r&&mH ν.r ν.z&&m6 ν G&&TJ a0.n a.n&&a0.defers.isEmpty&&a.defers.isEmpty&&a0.rc.isNone&&a.rc.isNone&&H4 ν rd0 rd)
  (gQ (jC ν true a0.tm a.tm) (gQ (kd ν s0 s ν.r) (oF s0 ν.z))) none
theorem lA: ∀p:Pos,uK p=p.toNat
 | .one=>rfl
 | .o p=>by show TM (Nat.mul 2 (uK p))=2*p.toNat+1;rw [lA p];rfl
 | .i p=>by show TM (TM (Nat.mul 2 (uK p)))=2*p.toNat+2;rw [lA p];rfl
theorem Cf {b n:Pos} (h:NX b n=true):b.toNat<n.toNat:=by
 have:=Ua h
 rw [lA,lA] at this
 exact this
theorem oG: ∀p:Pos,jh p p=true
 | .one=>rfl
 | .o p=>oG p
 | .i p=>oG p
theorem dn: ∀{l:List (Pos×Pos)} {b c:Pos},bK l b=some c→(b,c)∈l
 |[],b,c,h=>by cases h
 |x::l,b,c,h=>by
  replace h:aQ (jh x.1 b) (some x.2) (bK l b)=some c:=h
  cases hx:jh x.1 b with
  |true=>
   rw [hx] at h
   cases h
   rw [←dm hx]
   exact Uk ..
  |false=>rw [hx] at h;exact Ul _ (dn h)
theorem xC: ∀{l:List (Pos×Pos)} {b c:Pos},(b,c)∈l→Aq c l=true
 |x::l,b,c,h=>by
  show aQ (jh x.2 c) true (Aq c l)=true
  rcases List.mem_cons.1 h with rfl |h
  ·rw [oG]
  ·rw [xC h]
   cases jh x.2 c<;>rfl
theorem Fs: ∀{l:List (Pos×Pos)} {c:Pos},Aq c l=true→∃b,(b,c)∈l
 |[],c,h=>by cases h
 |x::l,c,h=>by
  replace h:aQ (jh x.2 c) true (Aq c l)=true:=h
  cases hx:jh x.2 c with
  |true=>exact ⟨x.1,by rw [←dm hx];exact Uk ..⟩
  |false=>rw [hx] at h;obtain ⟨b,hb⟩:=Fs h;exact ⟨b,Ul _ hb⟩
theorem m7: ∀{l:List (Pos×Pos)} {b b' c:Pos},m5 l=true→(b,c)∈l→(b',c)∈l→b=b'
 |x::l,b,b',c,h,h1,h2=>by
  replace h:aQ (Aq x.2 l) false (m5 l)=true:=h
  cases hx:Aq x.2 l with
  |true=>rw [hx] at h;cases h
  |false=>
   rw [hx] at h
   rcases List.mem_cons.1 h1 with e1 |h1
   ·rcases List.mem_cons.1 h2 with e2 |h2
    ·rw [←e1] at e2;cases e2;rfl
    ·rw [←e1,xC h2] at hx;cases hx
   ·rcases List.mem_cons.1 h2 with e2 |h2
    ·rw [←e2,xC h1] at hx;cases hx
    ·exact m7 h h1 h2
theorem Ar: ∀{l:List (Pos×Pos)} {z:List Pos} {b:Pos},mH l z=true→gn z b=true→bK l b=none
 |l,[],b,h,hb=>by cases hb
 |l,x::z,b,h,hb=>by
  obtain ⟨h1,h2⟩:=bB (show aQ (bK l x).isNone (mH l z) false=true from h)
  replace hb:aQ (jh x b) true (gn z b)=true:=hb
  cases hx:jh x b with
  |true=>rw [←dm hx];exact Option.isNone_iff_eq_none.1 h1
  |false=>rw [hx] at hb;exact Ar h2 hb
theorem vX {ν:gV}: ∀{n g:Nat},m6 ν n=true→g<n→iH ν (pos g) (pos g)=true
 |n+1,g,h,hg=>by
  obtain ⟨h1,h2⟩:=bB (show aQ (iH ν (pos n) (pos n)) (m6 ν n) false=true from h)
  by_cases e:g=n
  ·subst e;exact h1
  ·exact vX h2 (by omega)
theorem ke {E E':Env} {ν:gV} {s0 s:St}: ∀{l:List (Pos×Pos)} {q:gF} {b c:Pos},kd ν s0 s l=some q→bL E E' q→(b,c)∈l→
 ∃k0 k p,s0.h.get b=some k0∧s.h.get c=some k∧b.toNat<s0.n.toNat∧pK ν k0 k=some p∧bL E E' p
 |x::l,q,b,c,h,he,hm=>by
  obtain ⟨k0,h1,h2⟩:=aa.1 (show ai (s0.h.get x.1) (fun k0=>ai (s.h.get x.2) fun k=>aQ (NX x.1 s0.n) (gQ (pK ν k0 k) (kd ν s0 s l)) none)=some q from h)
  obtain ⟨k,h3,h4⟩:=aa.1 h2
  obtain ⟨h5,h6⟩:=aA.1 h4
  obtain ⟨p,r,h7,h8,rfl⟩:=cq h6
  rcases List.mem_cons.1 hm with e |hm
  ·cases e
   exact ⟨k0,k,p,h1,h3,Cf h5,h7,he.left⟩
  ·exact ke h8 he.right hm
theorem tg {E E':Env} {s0:St}: ∀{l:List Pos} {q:gF} {b:Pos},oF s0 l=some q→bL E E' q→gn l b=true→∃own t ts n x,s0.h.get b=some (.vec own t ts n x)∧b.toNat<s0.n.toNat∧@ev E' n= .int .i64 0∧@ev E' x= .aY []
 |[],q,b,h,he,hm=>by cases hm
 |y::l,q,b,h,he,hm=>by
  obtain ⟨k0,h1,h2⟩:=aa.1 (show ai (s0.h.get y) (fun k0=>aQ (NX y s0.n) (gQ (H3 k0) (oF s0 l)) none)=some q from h)
  obtain ⟨h5,h6⟩:=aA.1 h2
  obtain ⟨p,r,h7,h8,rfl⟩:=cq h6
  replace hm:aQ (jh y b) true (gn l b)=true:=hm
  cases hx:jh y b with
  |true=>
   have:=dm hx
   subst this
   cases k0<;>first |(cases h7;done) |skip
   rename_i own t ts n x
   cases h7
   exact ⟨own,t,ts,n,x,h1,Cf h5,he.left (n,.op .len [.op .nil []]) (Uk ..),he.left (x,.op .nil []) (Ul _ (Uk ..))⟩
  |false=>rw [hx] at hm;exact tg h8 he.right hm
noncomputable def gq (ν:gV) (μ:bu):bu:=⟨fun b=>match bK ν.r b with |some c=>μ c |none=>aQ (gn ν.z b) (some cE) none,μ.fz⟩
theorem pM {ν:gV} {μ:bu} {b c:Pos} (h:bK ν.r b=some c):gq ν μ b=μ c:=by
 show (match bK ν.r b with |some c=>μ c |none=>aQ (gn ν.z b) (some cE) none)=_
 rw [h]
theorem H5 {ν:gV} {μ:bu} {b:Pos} (h:bK ν.r b=none) (hz:gn ν.z b=true):gq ν μ b=some cE:=by
 show (match bK ν.r b with |some c=>μ c |none=>aQ (gn ν.z b) (some cE) none)=_
 rw [h,hz]
theorem m8 {ν:gV} {μ:bu} {b:Pos} {e:eQ} (h:gq ν μ b=some e):(∃c,bK ν.r b=some c∧μ c=some e)∨(bK ν.r b=none∧gn ν.z b=true∧e=cE):=by
 replace h:(match bK ν.r b with |some c=>μ c |none=>aQ (gn ν.z b) (some cE) none)=some e:=h
 cases hr:bK ν.r b with
 |some c=>rw [hr] at h;exact .inl ⟨c,rfl,h⟩
 |none=>
  rw [hr] at h
  obtain ⟨h1,h2⟩:=aA.1 (show aQ (gn ν.z b) (some cE) none=some e from h)
  cases h2
  exact .inr ⟨rfl,h1,rfl⟩
structure Alike (E E':Env):Prop where
 n: @Env.n E'= @Env.n E
 base: @Env.base E'= @Env.base E
 pos:0< @Env.n E
section
variable {E E':Env} {P:Program} {N:Nat} {ν:gV} {μ:bu} {a0 a:aV} {s0 s:St} {rd0 rd:Option Pos} {q:gF} {w:World}
theorem e9 (h1:mH ν.r ν.z=true):lx ν (gq ν μ) μ:=⟨fun b c h=>pM h,fun b h=>H5 (Ar h1 h) h,fun _ _ h=>h⟩
theorem cT (hf:dE P.globals.size ν rd0 rd a0 s0 a s=some q) (he:bL E E' q):m5 ν.r=true∧mH ν.r ν.z=true∧m6 ν P.globals.size=true∧a0.n=a.n∧a0.defers=[]∧a.defers=[]∧a0.rc=none∧a.rc=none∧H4 ν rd0 rd=true∧
 (∃p,jC ν true a0.tm a.tm=some p∧bL E E' p)∧(∃p,kd ν s0 s ν.r=some p∧bL E E' p)∧∃p,oF s0 ν.z=some p∧bL E E' p:=by
 obtain ⟨h1,h2⟩:=aA.1 hf
 simp only [Uj] at h1
 obtain ⟨⟨⟨⟨⟨⟨⟨⟨c1,c2⟩,c3⟩,c4⟩,c5⟩,c6⟩,c7⟩,c8⟩,c9⟩:=h1
 obtain ⟨x,y,h3,h4,rfl⟩:=cq h2
 obtain ⟨x2,y2,h5,h6,rfl⟩:=cq h4
 exact ⟨c1,c2,c3,T7 c4,List.isEmpty_iff.1 c5,List.isEmpty_iff.1 c6,Option.isNone_iff_eq_none.1 c7,Option.isNone_iff_eq_none.1 c8,c9,⟨x,h3,he.left⟩,⟨x2,h5,he.right.left⟩,y2,h6,he.right.right⟩
theorem ed (hf:dE P.globals.size ν rd0 rd a0 s0 a s=some q) (he:bL E E' q) (hA:Alike E E') (hs: @SR E P N μ s w): @SR E' P N (gq ν μ) s0 w:=by
 obtain ⟨c1,c2,c3,c4,c5,c6,c7,c8,c9,_,⟨p2,r2,e2⟩,p3,r3,e3⟩:=cT hf he
 have hn:=e9 (μ:=μ) c2
 have hNp:0<N:=Ug hA.pos (@SR.hn E _ _ _ _ _ hs)
 have hN:=@SR.hN E _ _ _ _ _ hs
 have hblk: ∀b e,gq ν μ b=some e→∃k,s0.h.get b=some k∧@BR E' P N (gq ν μ) w k e∧b.toNat<s0.n.toNat∧((e=cE∧bK ν.r b=none)∨∃c k',bK ν.r b=some c∧μ c=some e∧s.h.get c=some k'∧bS k'=false∧writes k=writes k'):=by
  intro b e hb
  rcases m8 hb with ⟨c,h1,h2⟩ |⟨h1,h2,rfl⟩
  ·obtain ⟨k0,k,p,g1,g2,g3,g4,g5⟩:=ke r2 e2 (dn h1)
   obtain ⟨k',g6,g7⟩:=@SR.bV E _ _ _ _ _ hs c e h2
   rw [g2] at g6
   cases g6
   obtain ⟨d1,d2,d3⟩:=gp g4
   exact ⟨k0,g1,oD hn g4 g5 g7,g3,.inr ⟨c,k,h1,h2,g2,d1,d3⟩⟩
  ·obtain ⟨_,_,ts,n,x,g1,g2,g3,g4⟩:=tg r3 e3 h2
   exact ⟨_,g1,⟨[],g4,g3,⟨[],rfl,fun r hr=>absurd hr Ub⟩,.inl ⟨rfl,hNp,Ug hNp hN,rfl⟩⟩,g2,.inl ⟨rfl,h1⟩⟩
 refine ⟨fun b e hb=>let ⟨k,h1,h2,_⟩:=hblk b e hb;⟨k,h1,h2⟩,?_,fun b e hb=>let ⟨k,h1,h2,h3,_⟩:=hblk b e hb;h3,hN,fun g hg=>?_,?_,?_,fun ad v ha=>@SR.fB E _ _ _ _ _ hs ad v ha,?_⟩
 ·intro x y ex ey kx ky hx hy gx gy dx dy hNx hxy
  obtain ⟨k1,u1,u2,u3,u4⟩:=hblk x ex hx
  obtain ⟨k2,v1,v2,v3,v4⟩:=hblk y ey hy
  rcases u4 with ⟨rfl,_⟩ |⟨c,k',u5,u6,u7,u8,_⟩
  ·exact absurd (show N≤0 from hNx) (by omega)
  ·rcases v4 with ⟨rfl,_⟩ |⟨d,l',v5,v6,v7,v8,_⟩
   ·rw [hxy] at hNx;exact absurd (show N≤0 from hNx) (by omega)
   ·have:=@SR.inj E _ _ _ _ _ hs c d ex ey k' l' u6 v6 u7 v7 u8 v8 hNx hxy
    subst this
    exact m7 c1 (dn u5) (dn v5)
 ·exact (hn.at (vX c3 hg)).trans (@SR.eH E _ _ _ _ _ hs g hg)
 ·rw [hA.n];exact @SR.hn E _ _ _ _ _ hs
 ·rw [hA.base];exact @SR.base E _ _ _ _ _ hs
 ·intro b e k hb hk hw hNb ad v ha
  obtain ⟨k1,u1,u2,u3,u4⟩:=hblk b e hb
  rw [hk] at u1
  cases u1
  rcases u4 with ⟨rfl,_⟩ |⟨c,k',u5,u6,u7,u8,u9⟩
  ·exact absurd (show N≤0 from hNb) (by omega)
  ·exact @SR.apart E _ _ _ _ _ hs c e k' u6 u7 (u9▸hw) hNb ad v ha
theorem oH (hf:dE P.globals.size ν rd0 rd a0 s0 a s=some q) (he:bL E E' q) {ca:Act} (ha: @AR E P μ a ca): @AR E' P (gq ν μ) a0 ca:=by
 obtain ⟨c1,c2,c3,c4,c5,c6,c7,c8,c9,⟨p1,r1,e1⟩,_⟩:=cT hf he
 refine ⟨lz (e9 c2) r1 e1 (@AR.tm E _ _ _ _ ha),(@AR.size E _ _ _ _ ha).trans c4.symm,?_⟩
 have:=@AR.defers E _ _ _ _ ha
 rw [c6] at this
 rw [c5]
 generalize ca.defers=x at*
 cases this
 exact @xj.nil E' P _
end
end
section
open Go Go.RowKit
noncomputable def rowAt (l:List (Pos×bf)) (x:Pos):Option bf:=@TN (Pos×bf) (fun _=>Option bf) none (fun c _ ih=>aQ (jh c.1 x) (some c.2) ih) l
noncomputable def rB (t:Tr bf):List (Pos×bf)→Tr bf
 |[]=>t
 |x::l=>(rB t l).set x.1 x.2
noncomputable def iv (s:St) (rows:List (Pos×bf)) (n1:Pos):St:=⟨rB s.h rows,n1⟩
noncomputable def oI (bx:List Pos) (ν:gV) (n:Pos):List (Pos×Pos)→Bool
 |[]=>true
 |x::l=>aQ (aQ (iH ν x.2 x.1&&gn bx x.2) true (TO (uK n) (uK x.1))) (oI bx ν n l) false
def xD:Option bf→Bool
 |some k=>bS k
 |none=>false
noncomputable def th (ν':gV) (rows:List (Pos×bf)):List (Pos×Pos)→Bool
 |[]=>true
 |x::l=>aQ (aQ (bK ν'.r x.2).isSome true (xD (rowAt rows x.2))) (th ν' rows l) false
def xE:Option bf→Bool
 |some k=>writes k
 |none=>false
noncomputable def ti (ν ν':gV) (s:St):List (Pos×bf)→Bool
 |[]=>true
 |x::l=>aQ (aQ (bK ν'.r x.1).isSome true (aQ (bS x.2) (xE (s.h.get x.1)) false)) (ti ν ν' s l) false
noncomputable def pN (G:Nat) (bx:List Pos) (ν ν':gV) (s:St) (a0:aV) (s0:St) (a1:aV) (rows:List (Pos×bf)) (n1:Pos):Option gF:=
 aQ (m5 ν'.r&&ν'.z.isEmpty&&m6 ν' G&&TJ a1.n a0.n&&a1.defers.isEmpty&&a0.defers.isEmpty&&a1.rc.isNone&&a0.rc.isNone&&TO (uK s.n) (uK n1)&&oI bx ν s.n ν'.r&&th ν' rows ν.r&&ti ν ν' s rows)
  (gQ (jC ν' true a1.tm a0.tm) (kd ν' (iv s rows n1) s0 ν'.r)) none
theorem pO (t:Tr bf): ∀(l:List (Pos×bf)) (x:Pos),(rB t l).get x=match rowAt l x with |some k=>some k |none=>t.get x
 |[],x=>rfl
 |y::l,x=>by
  show ((rB t l).set y.1 y.2).get x=match aQ (jh y.1 x) (some y.2) (rowAt l x) with |some k=>some k |none=>t.get x
  rw [iN]
  by_cases h:y.1=x
  ·subst h;rw [if_pos rfl,oG]
  ·rw [if_neg h,pO t l x]
   cases he:jh y.1 x with
   |true=>exact absurd (dm he) h
   |false=>rfl
theorem m9 {bx:List Pos} {ν:gV} {n:Pos}: ∀{l:List (Pos×Pos)} {b c:Pos},oI bx ν n l=true→(b,c)∈l→(iH ν c b=true∧gn bx c=true)∨n.toNat≤b.toNat
 |x::l,b,c,h,hm=>by
  obtain ⟨h1,h2⟩:=bB (show aQ (aQ (iH ν x.2 x.1&&gn bx x.2) true (TO (uK n) (uK x.1))) (oI bx ν n l) false=true from h)
  rcases List.mem_cons.1 hm with e |hm
  ·cases e
   cases hp:(iH ν c b&&gn bx c) with
   |true=>exact .inl (by rwa [Uj] at hp)
   |false=>
    simp only [hp] at h1
    have:=Ua (show TO (uK n) (uK b)=true from h1)
    rw [lA,lA] at this
    exact .inr this
  ·exact m9 h2 hm
theorem vY {ν':gV} {rows:List (Pos×bf)}: ∀{l:List (Pos×Pos)} {b c:Pos},th ν' rows l=true→(b,c)∈l→(bK ν'.r c).isSome=true∨∃k,rowAt rows c=some k∧bS k=true
 |x::l,b,c,h,hm=>by
  obtain ⟨h1,h2⟩:=bB (show aQ (aQ (bK ν'.r x.2).isSome true (xD (rowAt rows x.2))) (th ν' rows l) false=true from h)
  rcases List.mem_cons.1 hm with e |hm
  ·cases e
   cases hp:(bK ν'.r c).isSome with
   |true=>exact .inl rfl
   |false=>
    simp only [hp] at h1
    replace h1:xD (rowAt rows c)=true:=h1
    cases hr:rowAt rows c with
    |none=>rw [hr] at h1;cases h1
    |some k=>rw [hr] at h1;exact .inr ⟨k,rfl,h1⟩
  ·exact vY h2 hm
theorem pP {ν ν':gV} {s:St}: ∀{l:List (Pos×bf)} {x:Pos} {k:bf},ti ν ν' s l=true→rowAt l x=some k→(bK ν'.r x).isSome=true∨(bS k=true∧∃k',s.h.get x=some k'∧writes k'=true)
 |[],x,k,h,hr=>by cases hr
 |y::l,x,k,h,hr=>by
  obtain ⟨h1,h2⟩:=bB (show aQ (aQ (bK ν'.r y.1).isSome true (aQ (bS y.2) (xE (s.h.get y.1)) false)) (ti ν ν' s l) false=true from h)
  replace hr:aQ (jh y.1 x) (some y.2) (rowAt l x)=some k:=hr
  cases he:jh y.1 x with
  |true=>
   rw [he] at hr
   cases hr
   have:=dm he
   subst this
   cases hp:(bK ν'.r y.1).isSome with
   |true=>exact .inl rfl
   |false=>
    simp only [hp] at h1
    obtain ⟨h3,h4⟩:=bB (show aQ (bS y.2) (xE (s.h.get y.1)) false=true from h1)
    cases hg:s.h.get y.1 with
    |none=>rw [hg] at h4;cases h4
    |some k'=>rw [hg] at h4;exact .inr ⟨h3,k',rfl,h4⟩
  |false=>rw [he] at hr;exact pP h2 hr
theorem BR.wr [Env] {P:Program} {N:Nat} {μ:bu} {w:World} {k:bf} {e:eQ} (hw:writes k=true) (h:BR P N μ w k e):N≤e.a.block∨(e=cE∧0<N):=by
 cases k with
 |cells own t len c=>cases own with
  |true=>obtain ⟨g,sz,cur,rfl,hN,_⟩:=h;exact .inl hN
  |false=>cases hw
 |map es=>obtain ⟨g,en,cl,rfl,hN,_⟩:=h;exact .inl hN
 |fD s p=>obtain ⟨g,bs,rfl,hN,_⟩:=h;exact .inl hN
 |loop lp=>obtain ⟨g,r,rfl,hN,_⟩:=h;exact .inl hN
 |deferred d=>obtain ⟨g,rfl,hN,_⟩:=h;exact .inl hN
 |dead=>cases hw
 |A8 m=>obtain ⟨g,rfl,hN,_⟩:=h;exact .inl hN
 |frozen o=>obtain ⟨g,rfl,hN,_⟩:=h;exact .inl hN
 |bW g kt ts x=>obtain ⟨l,_,_,_,G,ents,clock,ms,rfl,hN,_⟩:=h;exact .inl hN
 |vec own t ts n x=>obtain ⟨l,_,_,_,⟨rfl,h,_⟩ |⟨g,cur,rfl,hN,_⟩⟩:=h<;>first |exact .inr ⟨rfl,h⟩ |exact .inl hN
noncomputable def tj (ν':gV) (μ0 μ:bu):bu:=⟨fun b=>match bK ν'.r b with |some c=>μ0 c |none=>μ b,μ0.fz⟩
theorem eg {ν':gV} {μ0 μ:bu} {b c:Pos} (h:bK ν'.r b=some c):tj ν' μ0 μ b=μ0 c:=by
 show (match bK ν'.r b with |some c=>μ0 c |none=>μ b)=_
 rw [h]
theorem eh {ν':gV} {μ0 μ:bu} {b:Pos} (h:bK ν'.r b=none):tj ν' μ0 μ b=μ b:=by
 show (match bK ν'.r b with |some c=>μ0 c |none=>μ b)=_
 rw [h]
section
variable {E E':Env} {P:Program} {N:Nat} {ν ν':gV} {μ:bu} {a0 a a0' a1:aV} {s0 s s0':St} {rd0 rd:Option Pos} {q q':gF} {w w':World} {rows:List (Pos×bf)} {n1:Pos} {μ0':bu} {bx:List Pos}
theorem vZ (hf:pN P.globals.size bx ν ν' s a0' s0' a1 rows n1=some q') (he:bL E' E q'):
 m5 ν'.r=true∧ν'.z=[]∧m6 ν' P.globals.size=true∧a1.n=a0'.n∧a1.defers=[]∧a0'.defers=[]∧a1.rc=none∧a0'.rc=none∧s.n.toNat≤n1.toNat∧oI bx ν s.n ν'.r=true∧th ν' rows ν.r=true∧ti ν ν' s rows=true∧
 (∃p,jC ν' true a1.tm a0'.tm=some p∧bL E' E p)∧∃p,kd ν' (iv s rows n1) s0' ν'.r=some p∧bL E' E p:=by
 obtain ⟨h1,h2⟩:=aA.1 hf
 simp only [Uj] at h1
 obtain ⟨⟨⟨⟨⟨⟨⟨⟨⟨⟨⟨c1,c2⟩,c3⟩,c4⟩,c5⟩,c6⟩,c7⟩,c8⟩,c9⟩,c10⟩,c11⟩,c12⟩:=h1
 obtain ⟨x,y,h3,h4,rfl⟩:=cq h2
 have:=Ua c9
 rw [lA,lA] at this
 exact ⟨c1,List.isEmpty_iff.1 c2,c3,T7 c4,List.isEmpty_iff.1 c5,List.isEmpty_iff.1 c6,Option.isNone_iff_eq_none.1 c7,Option.isNone_iff_eq_none.1 c8,this,c10,c11,c12,⟨x,h3,he.left⟩,y,h4,he.right⟩
theorem lB (hf:dE P.globals.size ν rd0 rd a0 s0 a s=some q) (he:bL E E' q) {b:Pos} {e:eQ} (hb:gq ν μ b=some e):
 e=cE∨∃c k',bK ν.r b=some c∧μ c=some e∧s.h.get c=some k'∧bS k'=false:=by
 obtain ⟨_,_,_,_,_,_,_,_,_,_,⟨p2,r2,e2⟩,_⟩:=cT hf he
 rcases m8 hb with ⟨c,h1,h2⟩ |⟨_,_,rfl⟩
 ·obtain ⟨k0,k,p,g1,g2,g3,g4,g5⟩:=ke r2 e2 (dn h1)
  exact .inr ⟨c,k,h1,h2,g2,(gp g4).1⟩
 ·exact .inl rfl
structure Way (N:Nat) (μ:bu) (w:World) (μ':bu) (w':World) (bx:List Pos):Prop where
 ev:Ev N μ w w'
 new: ∀b e,μ' b=some e→w.heap.size≤e.a.block∨∃b₀ e₀,μ b₀=some e₀∧e₀.a.block=e.a.block
 fz: ∀ad v,μ.fz ad=some v→μ'.fz ad=some v
 fE: ∀ad v,μ'.fz ad=some v→μ.fz ad=some v∨w.heap.size≤ad.block∨∃b₀ e₀,μ b₀=some e₀∧e₀.a.block=ad.block
 bx: ∀b,gn bx b=true→μ' b=μ b
theorem As {E2:Env} (hG0:0<P.globals.size) (hA:Alike E E') (hf:dE P.globals.size ν rd0 rd a0 s0 a s=some q) (he:bL E E2 q) (hs: @SR E P N μ s w)
 (hfo:pN P.globals.size bx ν ν' s a0' s0' a1 rows n1=some q') (he':bL E' E q') (hsr0: @SR E' P N μ0' s0' w') (hext:Way N (gq ν μ) w μ0' w' bx):
 lx ν' (tj ν' μ0' μ) μ0'∧@bI E P N μ s w (tj ν' μ0' μ) (iv s rows n1) w':=by
 obtain ⟨c1,c2,c3,c4,c5,c6,c7,c8,c9,c10,c11,c12,_,p2,r2,e2⟩:=vZ hfo he'
 obtain ⟨f1,f2,f3,_,_,_,_,_,_,_,⟨p3,r3,e3⟩,_⟩:=cT hf he
 have hNp:0<N:=Ug hA.pos (@SR.hn E _ _ _ _ _ hs)
 have hn0:=e9 (μ:=μ) f2
 have hev:=hext.ev
 have hNm:lx ν' (tj ν' μ0' μ) μ0':=⟨fun b c h=>eg h,fun b h=>(by rw [c2] at h;cases h),fun _ _ h=>h⟩
 have key: ∀b1 b0 e,bK ν'.r b1=some b0→μ0' b0=some e→μ b1=some e∨s.n.toNat≤b1.toNat:=by
  intro b1 b0 e h1 h2
  rcases m9 c10 (dn h1) with ⟨h,h4⟩ |h
  ·exact .inl ((hn0.at h).symm.trans ((hext.bx b0 h4).symm.trans h2))
  ·exact .inr h
 have hsub:Sub μ (tj ν' μ0' μ):=by
  refine ⟨fun b e hb=>?_,fun ad v h=>hext.fz ad v h⟩
  cases hr:bK ν'.r b with
  |none=>rw [eh hr];exact hb
  |some b0=>
   rw [eg hr]
   rcases m9 c10 (dn hr) with ⟨h,h4⟩ |h
   ·exact (hext.bx b0 h4).trans ((hn0.at h).trans hb)
   ·have:=@SR.lt E _ _ _ _ _ hs b e hb
    omega
 have hlt: ∀b e,μ b=some e→e.a.block<w.heap.size:=fun b e hb=>by obtain ⟨k,_,hbr⟩:=@SR.bV E _ _ _ _ _ hs b e hb;exact @BR.lt E _ _ _ _ _ _ hbr
 have phys: ∀b0 e,μ0' b0=some e→N≤e.a.block→w.heap.size≤e.a.block∨∃b c k e',bK ν.r b=some c∧μ c=some e'∧e'.a.block=e.a.block∧s.h.get c=some k∧bS k=false:=by
  intro b0 e h hNe
  rcases hext.new b0 e h with h1 |⟨b,e',h1,h2⟩
  ·exact .inl h1
  ·rcases lB hf he h1 with rfl |⟨c,k,g1,g2,g3,g4⟩
   ·rw [←h2] at hNe;exact absurd (show N≤0 from hNe) (by omega)
   ·exact .inr ⟨b,c,k,e',g1,g2,h2,g3,g4⟩
 have stay: ∀x k,bK ν'.r x=none→(iv s rows n1).h.get x=some k→bS k=false→s.h.get x=some k∧∀b,bK ν.r b≠some x:=by
  intro x k hr hk hd
  have hget:(iv s rows n1).h.get x=match rowAt rows x with |some k=>some k |none=>s.h.get x:=pO s.h rows x
  rw [hk] at hget
  cases hrow:rowAt rows x with
  |some k'=>
   rw [hrow] at hget
   cases hget
   rcases pP c12 hrow with h |⟨h,_⟩
   ·rw [hr] at h;cases h
   ·rw [hd] at h;cases h
  |none=>
   rw [hrow] at hget
   refine ⟨hget.symm,fun b hb=>?_⟩
   rcases vY c11 (dn hb) with h |⟨k',h,_⟩
   ·rw [hr] at h;cases h
   ·rw [hrow] at h;cases h
 have far: ∀x ex k,bK ν'.r x=none→μ x=some ex→(iv s rows n1).h.get x=some k→bS k=false→N≤ex.a.block→∀b e,gq ν μ b=some e→e.a.block≠ex.a.block:=by
  intro x ex k hr hx hk hd hNx b e hb heq
  obtain ⟨h1,h2⟩:=stay x k hr hk hd
  rcases lB hf he hb with rfl |⟨c,k',g1,g2,g3,g4⟩
  ·rw [←heq] at hNx;exact absurd (show N≤0 from hNx) (by omega)
  ·have:=@SR.inj E _ _ _ _ _ hs c x e ex k' k g2 hx g3 h1 g4 hd (heq▸hNx) heq
   subst this
   exact h2 b g1
 have row: ∀b1 b0,bK ν'.r b1=some b0→∃k1 k0 p,(iv s rows n1).h.get b1=some k1∧s0'.h.get b0=some k0∧b1.toNat<n1.toNat∧pK ν' k1 k0=some p∧bL E' E p:=fun b1 b0 h=>ke r2 e2 (dn h)
 have hsr: @SR E P N (tj ν' μ0' μ) (iv s rows n1) w':=by
  refine @SR.mk E P N (tj ν' μ0' μ) (iv s rows n1) w' (fun b e hb=>?_) ?_ (fun b e hb=>?_) (Ui (@SR.hN E _ _ _ _ _ hs) hev.size) (fun g hg=>hsub _ _ (@SR.eH E _ _ _ _ _ hs g hg)) (@SR.hn E _ _ _ _ _ hs) ?_ (fun ad v ha=>@SR.fB E' _ _ _ _ _ hsr0 ad v ha) ?_
  ·cases hr:bK ν'.r b with
   |some b0=>
    rw [eg hr] at hb
    obtain ⟨k1,k0,p,g1,g2,g3,g4,g5⟩:=row b b0 hr
    obtain ⟨k,g6,g7⟩:=@SR.bV E' _ _ _ _ _ hsr0 b0 e hb
    rw [g2] at g6
    cases g6
    exact ⟨k1,g1,oD hNm g4 g5 g7⟩
   |none=>
    rw [eh hr] at hb
    obtain ⟨k,g1,g2⟩:=@SR.bV E _ _ _ _ _ hs b e hb
    have hget:(iv s rows n1).h.get b=match rowAt rows b with |some k=>some k |none=>s.h.get b:=pO s.h rows b
    cases hrow:rowAt rows b with
    |some k'=>
     rw [hrow] at hget
     refine ⟨k',hget,?_⟩
     rcases pP c12 hrow with h |⟨h,k2,h3,h4⟩
     ·rw [hr] at h;cases h
     ·cases k'<;>first |(cases h;done) |skip
      rw [g1] at h3
      cases h3
      exact ⟨@BR.wr E _ _ _ _ _ _ h4 g2,Ug (@BR.lt E _ _ _ _ _ _ g2) hev.size⟩
    |none=>
     rw [hrow] at hget
     refine ⟨k,hget.trans g1,@BR.bx E _ _ _ _ _ _ _ _ g2 hsub hev.size fun hd=>?_⟩
     by_cases hNe:N≤e.a.block
     ·exact hev.same _ (@BR.lt E _ _ _ _ _ _ g2) (.inr (far b e k hr hb (hget.trans g1) hd hNe))
     ·exact hev.same _ (@BR.lt E _ _ _ _ _ _ g2) (.inl (by omega))
  ·intro x y ex ey kx ky hx hy gx gy dx dy hNx hxy
   cases hrx:bK ν'.r x with
   |some b0=>
    rw [eg hrx] at hx
    obtain ⟨k1,k0,p,g1,g2,g3,g4,g5⟩:=row x b0 hrx
    cases hry:bK ν'.r y with
    |some c0=>
     rw [eg hry] at hy
     obtain ⟨l1,l0,p',v1,v2,v3,v4,v5⟩:=row y c0 hry
     have:=@SR.inj E' _ _ _ _ _ hsr0 b0 c0 ex ey k0 l0 hx hy g2 v2 (gp g4).1 (gp v4).1 hNx hxy
     subst this
     exact m7 c1 (dn hrx) (dn hry)
    |none=>
     rw [eh hry] at hy
     exfalso
     rcases phys b0 ex hx hNx with h |⟨b,c,k,e',q1,q2,q3,q4,q5⟩
     ·have:=hlt y ey hy
      omega
     ·exact far y ey ky hry hy gy dy (hxy▸hNx) b e' ((pM q1).trans q2) (q3.trans hxy)
   |none=>
    rw [eh hrx] at hx
    cases hry:bK ν'.r y with
    |some c0=>
     rw [eg hry] at hy
     exfalso
     rcases phys c0 ey hy (hxy▸hNx) with h |⟨b,c,k,e',q1,q2,q3,q4,q5⟩
     ·have:=hlt x ex hx
      omega
     ·exact far x ex kx hrx hx gx dx hNx b e' ((pM q1).trans q2) (q3.trans hxy.symm)
    |none=>
     rw [eh hry] at hy
     exact @SR.inj E _ _ _ _ _ hs x y ex ey kx ky hx hy (stay x kx hrx gx dx).1 (stay y ky hry gy dy).1 dx dy hNx hxy
  ·cases hr:bK ν'.r b with
   |some b0=>obtain ⟨k1,k0,p,g1,g2,g3,g4,g5⟩:=row b b0 hr;exact g3
   |none=>
    rw [eh hr] at hb
    exact Ug (@SR.lt E _ _ _ _ _ hs b e hb) c9
  ·have:=@SR.base E' _ _ _ _ _ hsr0
   rw [hA.base] at this
   exact this
  ·intro b e k hb hk hw hNe ad v ha
   cases hr:bK ν'.r b with
   |some b0=>
    rw [eg hr] at hb
    obtain ⟨k1,k0,p,g1,g2,g3,g4,g5⟩:=row b b0 hr
    rw [hk] at g1
    cases g1
    exact @SR.apart E' _ _ _ _ _ hsr0 b0 e k0 hb g2 ((gp g4).2.2▸hw) hNe ad v ha
   |none=>
    rw [eh hr] at hb
    have hd:bS k=false:=by cases k<;>first |rfl |cases hw
    rcases hext.fE ad v ha with h |h |⟨b0,e0,h1,h2⟩
    ·exact @SR.apart E _ _ _ _ _ hs b e k hb (stay b k hr hk hd).1 hw hNe ad v h
    ·have:=hlt b e hb
     omega
    ·rw [←h2]
     exact far b e k hr hb hk hd hNe b0 e0 h1
 refine ⟨hNm,@bI.mk E P N μ s w (tj ν' μ0' μ) (iv s rows n1) w' ⟨hsub,fun b e hb=>?_,fun ad v ha=>?_⟩ (fun b e hb=>?_) c9 ⟨hev.os,hev.tape,hev.output,hev.size,fun j hj hc=>hev.same j hj ?_⟩ hsr⟩
 ·cases hr:bK ν'.r b with
  |none=>rw [eh hr] at hb;exact .inr ⟨b,e,hb,rfl⟩
  |some b0=>
   rw [eg hr] at hb
   rcases hext.new b0 e hb with h |⟨b',e',h1,h2⟩
   ·exact .inl h
   ·rcases lB hf he h1 with rfl |⟨c,k,g1,g2,g3,g4⟩
    ·exact .inr ⟨pos 0,_,@SR.eH E _ _ _ _ _ hs 0 hG0,h2⟩
    ·exact .inr ⟨c,e',g2,h2⟩
 ·rcases hext.fE ad v ha with h |h |⟨b',e',h1,h2⟩
  ·exact .inl h
  ·exact .inr (.inl h)
  ·rcases lB hf he h1 with rfl |⟨c,k,g1,g2,g3,g4⟩
   ·exact .inr (.inr ⟨pos 0,_,@SR.eH E _ _ _ _ _ hs 0 hG0,h2⟩)
   ·exact .inr (.inr ⟨c,e',g2,h2⟩)
 ·cases hr:bK ν'.r b with
  |none=>rw [eh hr] at hb;exact .inl hb
  |some b0=>rw [eg hr] at hb;exact key b b0 e hr hb
 ·rcases hc with hc |hc
  ·exact .inl hc
  ·refine .inr fun b e hb=>?_
   rcases lB hf he hb with rfl |⟨c,k,g1,g2,g3,g4⟩
   ·have:=hc (pos 0) ⟨⟨0,0,none⟩,none⟩ (@SR.eH E _ _ _ _ _ hs 0 hG0)
    exact this
   ·exact hc c e g2
end
end
section
open Go Go.RowKit
def kf (E Eo:Env) (P:Program) (N:Nat) (rd:Option Pos) (c:Code) (a0:aV) (s0:St) (x:gW) (ao:aV) (so:St) (bx:List Pos):Prop:=
 ∀μ w b X u k ca,@SR E P N μ s0 w→@AR E P μ a0 ca→@RR E P μ X a0.rc u→b.kind=X.kind→yB μ rd b.roundOf→(∃fn,P.funcs[b.fn]? =some fn)→
  ∀m,Go.step P m= .next (lone (b.atR ca (.code c::.inLoop c::k)) (X.cs u) w)→
   ∃μo w' ca' u',@SR Eo P N μo so w'∧@AR Eo P μo ao ca'∧@RR Eo P μo X ao.rc u'∧@R6 Eo P b X k m μo ca' u' w' x∧Way N μ w μo w' bx
def oJ:gW→Bool
 | .exit _=>true
 | .ret=>true
 |_=>false
noncomputable def dI (ν:gV):List Pos→Bool
 |[]=>true
 |b::l=>aQ (iH ν b b) (dI ν l) false
noncomputable def kg (n:Pos):List Pos→Bool
 |[]=>true
 |b::l=>aQ (NX b n) (kg n l) false
theorem wa {ν:gV}: ∀{l:List Pos} {b:Pos},dI ν l=true→gn l b=true→iH ν b b=true
 |x::l,b,h,hb=>by
  obtain ⟨h1,h2⟩:=bB (show aQ (iH ν x x) (dI ν l) false=true from h)
  replace hb:aQ (jh x b) true (gn l b)=true:=hb
  cases he:jh x b with
  |true=>rw [←dm he];exact h1
  |false=>rw [he] at hb;exact wa h2 hb
theorem wb {n:Pos}: ∀{l:List Pos} {b:Pos},kg n l=true→gn l b=true→b.toNat<n.toNat
 |x::l,b,h,hb=>by
  obtain ⟨h1,h2⟩:=bB (show aQ (NX x n) (kg n l) false=true from h)
  replace hb:aQ (jh x b) true (gn l b)=true:=hb
  cases he:jh x b with
  |true=>rw [←dm he];exact Cf h1
  |false=>rw [he] at hb;exact wb h2 hb
section
variable {P:Program} {N:Nat} {bx:List Pos} {w w' w'':World} {μ μ' μ'':bu} {ν:gV}
theorem Way.xF [E:Env] {σ σ':St} (h:bI P N μ σ w μ' σ' w') (hk:kg σ.n bx=true):Way N μ w μ' w' bx:=by
 refine ⟨h.ev,h.ext.new,h.ext.sub.fz,h.ext.fE,fun b hb=>?_⟩
 cases hm:μ b with
 |some e=>exact h.ext.sub b e hm
 |none=>
  cases hm':μ' b with
  |none=>rfl
  |some e=>
   rcases h.fresh b e hm' with q |q
   ·rw [hm] at q;cases q
   ·have:=wb hk hb;omega
theorem Way.trans (h:Way N μ w μ' w' bx) (k:Way N μ' w' μ'' w'' bx):Way N μ w μ'' w'' bx:=by
 refine ⟨⟨k.ev.os.trans h.ev.os,k.ev.tape.trans h.ev.tape,k.ev.output.trans h.ev.output,Ui h.ev.size k.ev.size,fun j hj hc=>?_⟩,fun b e hb=>?_,fun ad v ha=>k.fz ad v (h.fz ad v ha),fun ad v ha=>?_,fun b hb=>(k.bx b hb).trans (h.bx b hb)⟩
 ·refine (k.ev.same j (Ug hj h.ev.size) ?_).trans (h.ev.same j hj hc)
  rcases hc with hc |hc
  ·exact .inl hc
  ·refine .inr fun b e hb hne=>?_
   rcases h.new b e hb with h1 |⟨b₀,e₀,h1,h2⟩
   ·omega
   ·exact hc b₀ e₀ h1 (h2.trans hne)
 ·rcases k.new b e hb with h1 |⟨b₀,e₀,h1,h2⟩
  ·exact .inl (Ui h.ev.size h1)
  ·rcases h.new b₀ e₀ h1 with h3 |⟨b₁,e₁,h3,h4⟩
   ·exact .inl (h2▸h3)
   ·exact .inr ⟨b₁,e₁,h3,h4.trans h2⟩
 ·rcases k.fE ad v ha with h1 |h1 |⟨b₀,e₀,h1,h2⟩
  ·exact h.fE ad v h1
  ·exact .inr (.inl (Ui h.ev.size h1))
  ·rcases h.new b₀ e₀ h1 with h3 |⟨b₁,e₁,h3,h4⟩
   ·exact .inr (.inl (h2▸h3))
   ·exact .inr (.inr ⟨b₁,e₁,h3,h4.trans h2⟩)
theorem rC (hg:μ (pos 0)=some ⟨⟨0,0,none⟩,none⟩) {b:Pos} {e:eQ} (h:gq ν μ b=some e): ∃b₀ e₀,μ b₀=some e₀∧e₀.a.block=e.a.block:=by
 rcases m8 h with ⟨c,_,h2⟩ |⟨_,_,rfl⟩
 ·exact ⟨c,e,h2,rfl⟩
 ·exact ⟨pos 0,_,hg,rfl⟩
theorem wc (hk:dI ν bx=true) {b:Pos} (hb:gn bx b=true) (hz:mH ν.r ν.z=true):gq ν μ b=μ b:=(e9 (μ:=μ) hz).at (wa hk hb)
theorem Way.post (h:Way N μ w μ' w' bx) (hg:μ' (pos 0)=some ⟨⟨0,0,none⟩,none⟩) (hk:dI ν bx=true) (hz:mH ν.r ν.z=true):Way N μ w (gq ν μ') w' bx:=by
 refine ⟨h.ev,fun b e hb=>?_,h.fz,h.fE,fun b hb=>(wc hk hb hz).trans (h.bx b hb)⟩
 obtain ⟨b₀,e₀,h1,h2⟩:=rC hg hb
 rcases h.new b₀ e₀ h1 with h3 |⟨b₁,e₁,h3,h4⟩
 ·exact .inl (h2▸h3)
 ·exact .inr ⟨b₁,e₁,h3,h4.trans h2⟩
theorem Way.pre (h:Way N (gq ν μ) w μ' w' bx) (hg:μ (pos 0)=some ⟨⟨0,0,none⟩,none⟩) (hk:dI ν bx=true) (hz:mH ν.r ν.z=true):Way N μ w μ' w' bx:=by
 refine ⟨⟨h.ev.os,h.ev.tape,h.ev.output,h.ev.size,fun j hj hc=>h.ev.same j hj (hc.imp id fun hc b e hb=>?_)⟩,fun b e hb=>?_,h.fz,fun ad v ha=>?_,fun b hb=>(h.bx b hb).trans (wc hk hb hz)⟩
 ·obtain ⟨b₀,e₀,h1,h2⟩:=rC hg hb
  rw [←h2];exact hc b₀ e₀ h1
 ·rcases h.new b e hb with h1 |⟨b₁,e₁,h1,h2⟩
  ·exact .inl h1
  ·obtain ⟨b₀,e₀,h3,h4⟩:=rC hg h1
   exact .inr ⟨b₀,e₀,h3,h4.trans h2⟩
 ·rcases h.fE ad v ha with h1 |h1 |⟨b₁,e₁,h1,h2⟩
  ·exact .inl h1
  ·exact .inr (.inl h1)
  ·obtain ⟨b₀,e₀,h3,h4⟩:=rC hg h1
   exact .inr (.inr ⟨b₀,e₀,h3,h4.trans h2⟩)
end
section
variable {P:Program} {N:Nat} {bx:List Pos} {ν νo:gV} {orc:Ks} {f:FuncId} {p:Pos} {c:Code} {rd:Option Pos} {n:Nat} {a0 s0 a1 s1 ao so:_} {x:gW} {q qo:gF}
theorem NZ (E:Env) (h:0< @Env.n E):Alike E E:=⟨rfl,rfl,h⟩
theorem R7 [E:Env] {μ μ':bu} {X:Cx} {m m':Option cz} {u:FrameMode} (h:RR P μ X m u) (hm:m=none) (hm':m'=none):RR P μ' X m' u:=by
 subst hm hm'
 cases h
 exact .norm _ _
theorem pQ {E E':Env} {μ μ':bu} {X:Cx} {m m':Option cz} {u:FrameMode} (h: @RR E P μ X m u) (hm:m=none) (hm':m'=none): @RR E' P μ' X m' u:=by
 subst hm hm'
 cases h
 exact @RR.norm E' P μ' _ _
theorem KY {E E':Env} {b:Frame} {X:Cx} {k:List Item} {m:Machine} {μ μ':bu} {ca:Act} {u:FrameMode} {w:World} {x:gW} (hx:oJ x=true) (h: @R6 E P b X k m μ ca u w x): @R6 E' P b X k m μ' ca u w x:=by
 cases x<;>first |(cases hx;done) |exact h
theorem oK {ν:gV} {μ:bu} {rd0 rd:Option Pos} {ro:Option Nat} (h:H4 ν rd0 rd=true) (hz:mH ν.r ν.z=true) (hr:yB μ rd ro):yB (gq ν μ) rd0 ro:=by
 cases rd0 with
 |none=>
  have:rd=none:=Option.isNone_iff_eq_none.1 h
  subst this
  cases hr
  exact .none
 |some b=>
  cases rd with
  |none=>cases h
  |some d=>
   cases hr with
   |some _ g hl=>exact .some b g (((e9 hz).at (show iH ν b d=true from h)).trans hl)
theorem Ft {E Er Eo:Env} (hP:cH P) (hG0:0<P.globals.size) (hA:Alike E Er) (hB:Alike Er Eo) (ho: @kN Er P orc.call) (hh: @sS Er P N orc.loop) (hat:cJ P f p=some (.loop c))
 (hfi:dE P.globals.size νo rd rd a0 s0 a0 s0=some qo) (hei:bL E Er qo) (hki:dI νo bx=true)
 (hr: @kJ Er.toGam P orc.loop f c (.o p) rd (@run Er.toGam P orc n) a0 s0=some (.at x a1 s1)) (hx:oJ x=true) (hf:dE P.globals.size ν none none ao so a1 s1=some q) (he:bL Er Eo q) (hk:dI ν bx=true) (hkl:kg s0.n bx=true):
 kf E Eo P N rd c a0 s0 x ao so bx:=by
 intro μ w b X u k ca hs ha hX hkd hrd hfn m hm
 have hg0:=@SR.eH E _ _ _ _ _ hs 0 hG0
 obtain ⟨_,d2,_,_,_,_,d7,d8,d9,_⟩:=cT hfi hei
 have hrec:=@mb Er P N hP orc ho hh n
 have:=@jW Er P N hP _ hrec (@pJ Er P N hP _ hrec) orc.loop hh f c (.o p) (fm hat rfl) rd a0 s0 _ hr (gq νo μ) w b X u (.inLoop c::k) ca (ed hfi hei hA hs) (oH hfi hei ha) (pQ hX d7 d7) hkd (oK d9 d2 hrd) hfn
 obtain ⟨μ',w',ca',u',h1,h2,h3,h4⟩:=this
 obtain ⟨c1,c2,_,_,_,_,c7,c8,_⟩:=cT hf he
 have hsr:=@bI.sr Er _ _ _ _ _ _ _ _ h1
 refine ⟨gq ν μ',w',ca',u',ed hf he hB hsr,oH hf he h2,pQ h3 c8 c7,?_,((@Way.xF P N bx w w' _ μ' Er _ _ h1 hkl).post (@SR.eH Er _ _ _ _ _ hsr 0 hG0) hk c2).pre hg0 hki d2⟩
 cases x<;>first |(cases hx;done) |skip
 ·obtain ⟨k1,h5,h6⟩:=h4
  exact ⟨k1,h5,(XK hm).trans h6⟩
 ·obtain ⟨k1,h6⟩:=h4
  exact ⟨k1,(XK hm).trans h6⟩
theorem Fv {E Er E' Eo:Env} (hP:cH P) (hG0:0<P.globals.size) (hA:Alike E Er) (hB:Alike Er E') (ho: @kN Er P orc.call) (hh: @sS Er P N orc.loop) (hat:cJ P f p=some (.loop c))
 (hfi:dE P.globals.size νo rd rd a0 s0 a0 s0=some qo) (hei:bL E Er qo) (hki:dI νo bx=true)
 (hr: @kJ Er.toGam P orc.loop f c (.o p) rd (@run Er.toGam P orc n) a0 s0=some (.at .normal a1 s1)) (hx:oJ x=true) (hf:dE P.globals.size ν rd rd a0 s0 a1 s1=some q) (he:bL Er E' q) (hk:dI ν bx=true) (hkl:kg s0.n bx=true)
 (ih:kf E' Eo P N rd c a0 s0 x ao so bx):
 kf E Eo P N rd c a0 s0 x ao so bx:=by
 intro μ w b X u k ca hs ha hX hkd hrd hfn m hm
 have hg0:=@SR.eH E _ _ _ _ _ hs 0 hG0
 obtain ⟨_,d2,_,_,_,_,d7,d8,d9,_⟩:=cT hfi hei
 have hrec:=@mb Er P N hP orc ho hh n
 have:=@jW Er P N hP _ hrec (@pJ Er P N hP _ hrec) orc.loop hh f c (.o p) (fm hat rfl) rd a0 s0 _ hr (gq νo μ) w b X u (.inLoop c::k) ca (ed hfi hei hA hs) (oH hfi hei ha) (pQ hX d7 d7) hkd (oK d9 d2 hrd) hfn
 obtain ⟨μ',w',ca',u',h1,h2,h3,h4⟩:=this
 obtain ⟨c1,c2,_,_,_,_,c7,c8,c9,_⟩:=cT hf he
 have hsr:=@bI.sr Er _ _ _ _ _ _ _ _ h1
 have hext:=@bI.ext Er _ _ _ _ _ _ _ _ h1
 have hrd':yB (gq ν μ') rd b.roundOf:=oK c9 c2 ((oK d9 d2 hrd).mono hext.sub)
 obtain ⟨μo,w'',ca'',u'',g1,g2,g3,g4,g5⟩:=ih (gq ν μ') w' b X u' k ca' (ed hf he hB hsr) (oH hf he h2) (pQ h3 c8 c7) hkd hrd' hfn _ stepR_inLoop
 have w1:Way N (gq νo μ) w μ' w' bx:=@Way.xF P N bx w w' _ μ' Er _ _ h1 hkl
 have w2:Way N μ' w' μo w'' bx:=g5.pre (@SR.eH Er _ _ _ _ _ hsr 0 hG0) hk c2
 refine ⟨μo,w'',ca'',u'',g1,g2,g3,?_,(w1.trans w2).pre hg0 hki d2⟩
 cases x<;>first |(cases hx;done) |skip
 ·obtain ⟨k1,h5,h6⟩:=g4
  exact ⟨k1,h5,(XK hm).trans (Steps.trans h4 h6)⟩
 ·obtain ⟨k1,h6⟩:=g4
  exact ⟨k1,(XK hm).trans (Steps.trans h4 h6)⟩
theorem H6 {E E2 E':Env} (hG0:0<P.globals.size) (hA2:Alike E E2) (hA:Alike E E') {rd0:Option Pos} {ν':gV} {a s:_} {rows:List (Pos×bf)} {n1:Pos} {q':gF} (hx:oJ x=true) (hf:dE P.globals.size ν rd0 rd a0 s0 a s=some q) (he:bL E E2 q)
 (hfo:pN P.globals.size bx ν ν' s ao so a1 rows n1=some q') (he':bL E' E q') (hL:kf E2 E' P N rd0 c a0 s0 x ao so bx): @zW E P N rd c a s (.at x a1 (iv s rows n1)):=by
 intro μ w b X u k ca hs ha hX hkd hrd hfn m hm
 obtain ⟨c1,c2,_,_,_,_,c7,c8,c9,_⟩:=cT hf he
 obtain ⟨d1,d2,d3,d4,d5,d6,d7,d8,d9,d10,d11,d12,⟨p1,r1,e1⟩,_⟩:=vZ hfo he'
 obtain ⟨μo,w',ca',u',g1,g2,g3,g4,g5⟩:=hL (gq ν μ) w b X u k ca (ed hf he hA2 hs) (oH hf he ha) (pQ hX c8 c7) hkd (oK c9 c2 hrd) hfn m hm
 obtain ⟨hN,hg⟩:=As hG0 hA hf he hs hfo he' g1 g5
 refine ⟨tj ν' μo μ,w',ca',u',hg,@AR.mk E P _ _ _ (lz hN r1 e1 (@AR.tm E' _ _ _ _ g2)) ((@AR.size E' _ _ _ _ g2).trans d4.symm) ?_,pQ g3 d8 d7,KY hx g4⟩
 have:=@AR.defers E' _ _ _ _ g2
 rw [d6] at this
 rw [d5]
 generalize ca'.defers=y at*
 cases this
 exact @xj.nil E P _
end
end
section
open Go Go.RowKit Go.ChangeShapes Go.WideShapes Go.ChangeAt
def xG (w:World) (g:Nat) (bV:bf):Prop:=
 ∃t len c,bV= .cells false t len c∧∀i,i<len→∃av v,c.get i=some av∧w.cell? ⟨g,i,none⟩=some v∧av.one=true∧Bc v=some av
def jD (bs:List bf) (w:World):Prop:=bs.length≤w.heap.size∧∀g bV,bs[g]? =some bV→xG w g bV
theorem Cg (bs:List bf) {w w':World} (hz:w.heap.size≤w'.heap.size) (hk: ∀k,k<bs.length→w'.heap[k]? =w.heap[k]?) (h:jD bs w):jD bs w':=by
 refine ⟨Ui h.1 hz,fun g bV hg=>?_⟩
 obtain ⟨t,len,c,e,hc⟩:=h.2 g bV hg
 refine ⟨t,len,c,e,fun i hi=>?_⟩
 obtain ⟨av,v,h1,h2,h3,h4⟩:=hc i hi
 refine ⟨av,v,h1,?_,h3,h4⟩
 rw [←h2]
 exact Ch (hk g (List.getElem?_eq_some_iff.1 hg).1)
where
 Ch {w w':World} {a:Addr} (h:w'.heap[a.block]? =w.heap[a.block]?):w'.cell? a=w.cell? a:=by unfold World.cell?;rw [h]
@[reducible] def DF (v:Bool) (ρ:Nat→D) (g:List (Tm×Bool)) (h: ∀c∈g,bc ρ c.1= .bool c.2) (bs:List bf):Env:=
 {g:=g,yF:=v,ρ:=ρ,conds:=h,n:=bs.length,base:=jD bs,bx:=fun _ _ hz hk h=>Cg bs hz hk h}
@[reducible] def R8 (bs:List bf):Env:=DF false (fun _=>.bad) [] (fun c h=>absurd h Ub) bs
section
variable [Env]
theorem tk: ∀(bs:List bf) (t:Tr bf) (n:Nat) (x:Pos),(pv bs n t).get x=if n≤x.toNat∧x.toNat<n+bs.length then bs[x.toNat - n]? else t.get x
 |[],t,n,x=>by
  rw [if_neg (by simp only [List.length_nil];omega)]
  rfl
 |b::bs,t,n,x=>by
  show (pv bs (n+1) (t.set (pos n) b)).get x=_
  rw [tk bs,iN]
  by_cases h:n+1≤x.toNat∧x.toNat<n+1+bs.length
  ·rw [if_pos h,if_pos (by simp only [Uq];omega),show x.toNat - n=(x.toNat - (n+1))+1 from by omega]
   rfl
  ·rw [if_neg h]
   by_cases hx:pos n=x
   ·subst hx
    rw [if_pos rfl,if_pos (by rw [dX];simp only [Uq];omega),dX,Nat.sub_self]
    rfl
   ·have:x.toNat≠n:=fun e=>hx (by rw [←e,B6])
    rw [if_neg hx,if_neg (by simp only [Uq];omega)]
def tr (P:Program) (fz:Addr→Option Value):bu:=⟨fun b=>if b.toNat<P.globals.size then some ⟨⟨b.toNat,0,none⟩,none⟩ else none,fz⟩
theorem Ci {P:Program} {fz:Addr→Option Value} {b:Pos} {e:eQ} (h:tr P fz b=some e):b.toNat<P.globals.size∧e=⟨⟨b.toNat,0,none⟩,none⟩:=by
 replace h:(if b.toNat<P.globals.size then some (⟨⟨b.toNat,0,none⟩,none⟩:eQ) else none)=some e:=h
 split at h
 ·rename_i hl;cases h;exact ⟨hl,rfl⟩
 ·cases h
end
section
variable [Env] {P:Program} {w:World}
def xH (P:Program) (bs:List bf):Prop:=Env.n=bs.length∧bs.length=P.globals.size∧∀w,Env.base w→jD bs w
def Fw (P:Program) (fz:Addr→Option Value) (es:List eQ):bu:=⟨fun b=>if b.toNat<P.globals.size then some ⟨⟨b.toNat,0,none⟩,none⟩ else es[b.toNat - P.globals.size]?,fz⟩
theorem Cj (P:Program) (fz:Addr→Option Value) (es:List eQ) (b:Pos):Fw P fz es b=if b.toNat<P.globals.size then some ⟨⟨b.toNat,0,none⟩,none⟩ else es[b.toNat - P.globals.size]? :=rfl
theorem Ck {fz:Addr→Option Value} (hfz: ∀ad v,fz ad=some v→w.cell? ad=some v) {bs rows:List bf} {es:List eQ} (hB:xH P bs) (h:Env.base w) (hlen:es.length=rows.length) (hr: ∀(i:Nat) (e:eQ) (bV:bf),es[i]? =some e→rows[i]? =some bV→BR P w.heap.size (Fw P fz es) w bV e∧e.a.block<w.heap.size) (hwr: ∀(i:Nat) (e:eQ) (bV:bf),es[i]? =some e→rows[i]? =some bV→writes bV=false):
 SR P w.heap.size (Fw P fz es) (mS (bs++rows)) w:=by
 obtain ⟨hn0,hn,hb⟩:=hB
 obtain ⟨hsz,hb⟩:=hb w h
 have hcase: ∀b e,Fw P fz es b=some e→(b.toNat<P.globals.size∧e=⟨⟨b.toNat,0,none⟩,none⟩)∨(P.globals.size≤b.toNat∧es[b.toNat - P.globals.size]? =some e):=by
  intro b e he
  rw [Cj] at he
  split at he
  ·rename_i hl;cases he;exact .inl ⟨hl,rfl⟩
  ·exact .inr ⟨by omega,he⟩
 have hlt: ∀b e,Fw P fz es b=some e→b.toNat<(bs++rows).length∧e.a.block<w.heap.size:=by
  intro b e he
  rw [List.length_append]
  rcases hcase b e he with ⟨hl,rfl⟩ |⟨hl,he⟩
  ·exact ⟨by omega,by show b.toNat<w.heap.size;omega⟩
  ·have hi:=(List.getElem?_eq_some_iff.1 he).1
   obtain ⟨bV,hblk⟩: ∃bV,rows[b.toNat - P.globals.size]? =some bV:=⟨_,UB (by omega)⟩
   exact ⟨by omega,(hr _ e bV he hblk).2⟩
 refine ⟨fun b e he=>?_,fun b b' e e' k k' he he' _ _ _ _ hN _=>?_,fun b e he=>?_,Uh _,fun g hg=>?_,by omega,h,hfz,fun b e k hb hk hw hN ad v ha=>?_⟩
 ·have hl':=(hlt b e he).1
  have hget:(mS (bs++rows)).h.get b=(bs++rows)[b.toNat]? :=by
   show (pv (bs++rows) 0 .nil).get b=_
   rw [tk,if_pos (by omega),Nat.sub_zero]
  rcases hcase b e he with ⟨hl,rfl⟩ |⟨hl,he2⟩
  ·have hlb:b.toNat<bs.length:=by omega
   have hg2:bs[b.toNat]? =some bs[b.toNat]:=UB hlb
   refine ⟨bs[b.toNat],by rw [hget,List.getElem?_append_left hlb,hg2],?_⟩
   obtain ⟨t,len,c,hc,hcells⟩:=hb _ _ hg2
   rw [hc]
   refine ⟨rfl,Ug hlb hsz,fun i hi=>?_⟩
   obtain ⟨av,v,h1,h2,h3,h4⟩:=hcells i hi
   refine ⟨av,v,h1,?_,jQ v av h4,h3⟩
   rw [←h2]
   show w.cell? (Uy ⟨b.toNat,0,none⟩ i)=_
   by_cases hi0:i=0
   ·subst hi0;simp [Uy]
   ·simp [Uy,hi0]
  ·have hi:=(List.getElem?_eq_some_iff.1 he2).1
   obtain ⟨bV,hblk⟩: ∃bV,rows[b.toNat - P.globals.size]? =some bV:=⟨_,UB (by omega)⟩
   refine ⟨bV,?_,(hr _ e bV he2 hblk).1⟩
   rw [hget,List.getElem?_append_right (by omega),hn]
   exact hblk
 ·have:=(hlt b e he).2
  omega
 ·show b.toNat<(pos (bs++rows).length).toNat
  rw [dX]
  exact (hlt b e he).1
 ·rw [Cj,dX,if_pos hg]
 ·have hl:=(hlt b e hb).2
  omega
theorem H7 (fz:Addr→Option Value):Fw P fz []=tr P fz:=by
 refine bu.same (fun b=>?_) rfl
 rw [Cj]
 show _=if b.toNat<P.globals.size then some (⟨⟨b.toNat,0,none⟩,none⟩:eQ) else none
 split<;>rfl
theorem H8 {fz:Addr→Option Value} (hfz: ∀ad v,fz ad=some v→w.cell? ad=some v) {bs:List bf} (hB:xH P bs) (h:Env.base w):SR P w.heap.size (tr P fz) (mS bs) w:=by
 have:=Ck (rows:=[]) (es:=[]) hfz hB h rfl (fun i e bV he=>by simp at he) (fun i e bV he=>by simp at he)
 rwa [H7,List.append_nil] at this
end
end
section
open Go Go.RowKit
inductive DV where
 |c (d:D)
 |agg (l:List D)
 |gf (l:List DV)
inductive iI (fz:Addr→Option Value):List D→List Value→Prop
 |nil:iI fz [] []
 |cons (d:D) (v:Value) (ds:List D) (vs:List Value) (h:dM fz d v) (hs:iI fz ds vs):iI fz (d::ds) (v::vs)
mutual
inductive uW (fz:Addr→Option Value):DV→Value→Prop
 |c (d:D) (v:Value) (h:dM fz d v):uW fz (.c d) v
 |agg (l:List D) (C:List Value) (h:iI fz l C):uW fz (.agg l) (.agg C.toArray)
 |gf (l:List DV) (C:List Value) (h:iw fz l C):uW fz (.gf l) (.tuple C.toArray)
inductive iw (fz:Addr→Option Value):List DV→List Value→Prop
 |nil:iw fz [] []
 |cons (d:DV) (v:Value) (ds:List DV) (vs:List Value) (h:uW fz d v) (hs:iw fz ds vs):iw fz (d::ds) (v::vs)
end
theorem iI.mono [Env] {fz fz':Addr→Option Value} (hs: ∀ad v,fz ad=some v→fz' ad=some v) {l:List D} {C:List Value} (h:iI fz l C):iI fz' l C:=by
 induction h with
 |nil=>exact .nil
 |cons d v ds vs h _ ih=>exact .cons d v ds vs (h.mono hs) ih
noncomputable def uX [Env] (v:AV):Option D:=(kS v).map fun q=>ev q.2
noncomputable def na [Env]:List AV→Option (List D)
 |[]=>some []
 |v::vs=>(uX v).bind fun d=>(na vs).map fun ds=>d::ds
mutual
noncomputable def bn [Env]:AV→Option DV
 | .agg l=>(na l).map .agg
 | .tuple l=>(cI l).map .gf
 |v=>(uX v).map .c
noncomputable def cI [Env]:List AV→Option (List DV)
 |[]=>some []
 |v::vs=>(bn v).bind fun d=>(cI vs).map fun ds=>d::ds
end
def pR [Env]:AV→Prop
 | .tm t x=>bA t (ev x)
 | .aJ=>False
 | .e0 _=>False
 |_=>True
def lC [Env]:List AV→Prop
 |[]=>True
 |v::vs=>pR v∧lC vs
mutual
def dF [Env]:AV→Prop
 | .agg l=>lC l
 | .tuple l=>ix l
 |v=>pR v
def ix [Env]:List AV→Prop
 |[]=>True
 |v::vs=>dF v∧ix vs
end
section
variable [Env] {P:Program} {μ:bu}
theorem fw {v:AV} {u:Value} {d:D} (h:VR P μ v u) (hd:uX v=some d):dM μ.fz d u:=by
 obtain ⟨⟨t,x⟩,h1,rfl⟩:=Option.map_eq_some_iff.1 hd
 exact (ez h h1).2
theorem oM {v:AV} {u:Value} {d:D} (h:dM μ.fz d u) (hd:uX v=some d) (ht:pR v):VR P μ v u∧v.one=true:=by
 obtain ⟨⟨t,x⟩,h1,rfl⟩:=Option.map_eq_some_iff.1 hd
 cases v<;>first |(cases h1;done) |skip
 case bool b=>cases h1;cases h;exact ⟨.bool b,rfl⟩
 case int k n=>cases h1;cases h;exact ⟨.int k n,rfl⟩
 case str l=>cases h1;cases h with |str _ s hs=>exact ⟨.str l s hs,rfl⟩
 case aJ=>exact ht.elim
 case e0=>exact ht.elim
 case tm t x=>cases h1;exact ⟨.tm t x u ht h,rfl⟩
theorem Au: ∀{l:List AV} {C:List Value} {ds:List D},bZ P μ l C→na l=some ds→iI μ.fz ds C
 |[],C,ds,h,hd=>by cases hd;cases h;exact .nil
 |v::vs,C,ds,h,hd=>by
  obtain ⟨d,h1,h2⟩:=Option.bind_eq_some_iff.1 hd
  obtain ⟨es,h3,rfl⟩:=Option.map_eq_some_iff.1 h2
  cases h with
  |cons _ u _ us h4 h5=>exact .cons _ _ _ _ (fw h4 h1) (Au h5 h3)
theorem Av: ∀{l:List AV} {C:List Value} {ds:List D},iI μ.fz ds C→na l=some ds→lC l→bZ P μ l C∧cd l=true
 |[],C,ds,h,hd,ht=>by cases hd;cases h;exact ⟨.nil,rfl⟩
 |v::vs,C,ds,h,hd,ht=>by
  obtain ⟨d,h1,h2⟩:=Option.bind_eq_some_iff.1 hd
  obtain ⟨es,h3,rfl⟩:=Option.map_eq_some_iff.1 h2
  cases h with
  |cons _ u _ us h4 h5=>
   obtain ⟨q1,q2⟩:=oM (P:=P) h4 h1 ht.1
   obtain ⟨q3,q4⟩:=Av h5 h3 ht.2
   exact ⟨.cons _ _ _ _ q1 q3,by show aQ v.one (cd vs) false=true;rw [q2,q4]⟩
mutual
theorem H9: ∀{v:AV} {u:Value} {d:DV},VR P μ v u→bn v=some d→uW μ.fz d u
 | .agg l,u,d,h,hd=>by
  unfold bn at hd
  obtain ⟨ds,h1,rfl⟩:=Option.map_eq_some_iff.1 hd
  cases h with
  |agg _ C hC _=>exact .agg _ _ (Au hC h1)
 | .tuple l,u,d,h,hd=>by
  unfold bn at hd
  obtain ⟨ds,h1,rfl⟩:=Option.map_eq_some_iff.1 hd
  cases h with
  |tuple _ C hC=>exact .gf _ _ (me hC h1)
 | .bool b,u,d,h,hd=>by unfold bn at hd;obtain ⟨e,h1,rfl⟩:=Option.map_eq_some_iff.1 hd;exact .c _ _ (fw h h1)
 | .int k n,u,d,h,hd=>by unfold bn at hd;obtain ⟨e,h1,rfl⟩:=Option.map_eq_some_iff.1 hd;exact .c _ _ (fw h h1)
 | .str l,u,d,h,hd=>by unfold bn at hd;obtain ⟨e,h1,rfl⟩:=Option.map_eq_some_iff.1 hd;exact .c _ _ (fw h h1)
 | .aJ,u,d,h,hd=>by unfold bn at hd;obtain ⟨e,h1,rfl⟩:=Option.map_eq_some_iff.1 hd;exact .c _ _ (fw h h1)
 | .tm t x,u,d,h,hd=>by unfold bn at hd;obtain ⟨e,h1,rfl⟩:=Option.map_eq_some_iff.1 hd;exact .c _ _ (fw h h1)
 | .float ..,u,d,h,hd=>by unfold bn at hd;cases hd
 | .ptr ..,u,d,h,hd=>by unfold bn at hd;cases hd
 | .bY,u,d,h,hd=>by unfold bn at hd;cases hd
 | .slice ..,u,d,h,hd=>by unfold bn at hd;cases hd
 | .map _,u,d,h,hd=>by unfold bn at hd;cases hd
 | .ck,u,d,h,hd=>by unfold bn at hd;cases hd
 | .func ..,u,d,h,hd=>by unfold bn at hd;cases hd
 | .yield _,u,d,h,hd=>by unfold bn at hd;cases hd
 | .bU,u,d,h,hd=>by unfold bn at hd;cases hd
 | .iface ..,u,d,h,hd=>by unfold bn at hd;cases hd
 | .bw,u,d,h,hd=>by unfold bn at hd;cases hd
 | .bad,u,d,h,hd=>by unfold bn at hd;cases hd
 | .vl ..,u,d,h,hd=>by unfold bn at hd;cases hd
 | .e0 _,u,d,h,hd=>by unfold bn at hd;obtain ⟨e,h1,rfl⟩:=Option.map_eq_some_iff.1 hd;exact .c _ _ (fw h h1)
 | .pe ..,u,d,h,hd=>by unfold bn at hd;cases hd
 | .fb ..,u,d,h,hd=>by unfold bn at hd;cases hd
theorem me: ∀{l:List AV} {C:List Value} {ds:List DV},bZ P μ l C→cI l=some ds→iw μ.fz ds C
 |[],C,ds,h,hd=>by unfold cI at hd;cases hd;cases h;exact .nil
 |v::vs,C,ds,h,hd=>by
  unfold cI at hd
  obtain ⟨d,h1,h2⟩:=Option.bind_eq_some_iff.1 hd
  obtain ⟨es,h3,rfl⟩:=Option.map_eq_some_iff.1 h2
  cases h with
  |cons _ u _ us h4 h5=>exact .cons _ _ _ _ (H9 h4 h1) (me h5 h3)
end
mutual
theorem tu: ∀{v:AV} {u:Value} {d:DV},uW μ.fz d u→bn v=some d→dF v→VR P μ v u
 | .agg l,u,d,h,hd,ht=>by
  unfold bn at hd
  obtain ⟨ds,h1,rfl⟩:=Option.map_eq_some_iff.1 hd
  cases h with
  |agg _ C hC=>obtain ⟨q1,q2⟩:=Av (P:=P) hC h1 (by unfold dF at ht;exact ht);exact .agg _ _ q1 q2
 | .tuple l,u,d,h,hd,ht=>by
  unfold bn at hd
  obtain ⟨ds,h1,rfl⟩:=Option.map_eq_some_iff.1 hd
  cases h with
  |gf _ C hC=>exact .tuple _ _ (pS hC h1 (by unfold dF at ht;exact ht))
 | .bool b,u,d,h,hd,ht=>by unfold bn at hd;obtain ⟨e,h1,rfl⟩:=Option.map_eq_some_iff.1 hd;cases h with |c _ _ h=>exact (oM h h1 trivial).1
 | .int k n,u,d,h,hd,ht=>by unfold bn at hd;obtain ⟨e,h1,rfl⟩:=Option.map_eq_some_iff.1 hd;cases h with |c _ _ h=>exact (oM h h1 trivial).1
 | .str l,u,d,h,hd,ht=>by unfold bn at hd;obtain ⟨e,h1,rfl⟩:=Option.map_eq_some_iff.1 hd;cases h with |c _ _ h=>exact (oM h h1 trivial).1
 | .aJ,u,d,h,hd,ht=>by unfold dF at ht;exact ht.elim
 | .tm t x,u,d,h,hd,ht=>by unfold bn at hd;obtain ⟨e,h1,rfl⟩:=Option.map_eq_some_iff.1 hd;cases h with |c _ _ h=>exact (oM h h1 (by unfold dF at ht;exact ht)).1
 | .float ..,u,d,h,hd,ht=>by unfold bn at hd;cases hd
 | .ptr ..,u,d,h,hd,ht=>by unfold bn at hd;cases hd
 | .bY,u,d,h,hd,ht=>by unfold bn at hd;cases hd
 | .slice ..,u,d,h,hd,ht=>by unfold bn at hd;cases hd
 | .map _,u,d,h,hd,ht=>by unfold bn at hd;cases hd
 | .ck,u,d,h,hd,ht=>by unfold bn at hd;cases hd
 | .func ..,u,d,h,hd,ht=>by unfold bn at hd;cases hd
 | .yield _,u,d,h,hd,ht=>by unfold bn at hd;cases hd
 | .bU,u,d,h,hd,ht=>by unfold bn at hd;cases hd
 | .iface ..,u,d,h,hd,ht=>by unfold bn at hd;cases hd
 | .bw,u,d,h,hd,ht=>by unfold bn at hd;cases hd
 | .bad,u,d,h,hd,ht=>by unfold bn at hd;cases hd
 | .vl ..,u,d,h,hd,ht=>by unfold bn at hd;cases hd
 | .e0 _,u,d,h,hd,ht=>by unfold dF at ht;exact ht.elim
 | .pe ..,u,d,h,hd,ht=>by unfold bn at hd;cases hd
 | .fb ..,u,d,h,hd,ht=>by unfold bn at hd;cases hd
theorem pS: ∀{l:List AV} {C:List Value} {ds:List DV},iw μ.fz ds C→cI l=some ds→ix l→bZ P μ l C
 |[],C,ds,h,hd,ht=>by unfold cI at hd;cases hd;cases h;exact .nil
 |v::vs,C,ds,h,hd,ht=>by
  unfold cI at hd
  unfold ix at ht
  obtain ⟨d,h1,h2⟩:=Option.bind_eq_some_iff.1 hd
  obtain ⟨es,h3,rfl⟩:=Option.map_eq_some_iff.1 h2
  cases h with
  |cons _ u _ us h4 h5=>exact .cons _ _ _ _ (tu h4 h1 ht.1) (pS h5 h3 ht.2)
end
end
structure Aw (P:Program) (bs:List bf) (f:FuncId) (ds:List DV) (r:DV) (ok:List Value→Prop):Prop where
 body: ∃fn c,P.funcs[f]? =some fn∧fn.body=some c
 run: ∀(w:World) (fz:Addr→Option Value) (us:List Value) (cs:List Frame),jD bs w→(∀ad v,fz ad=some v→w.cell? ad=some v)→iw fz ds us→ok us→
  ∃fz' w' V fr,(∀ad v,fz ad=some v→fz' ad=some v)∧(∀ad v,fz' ad=some v→w'.cell? ad=some v)∧(∀ad v,fz' ad=some v→fz ad=some v∨w.heap.size≤ad.block∨ad.block<P.globals.size)∧Kept w w'∧uW fz' r V∧
   Steps P (lone (W4 P f us.toArray .normal) cs w) (lone fr cs w')∧fr.fn=f∧fr.kind= .normal∧fr.going P w' (.returned V)
abbrev Ax (P:Program) (bs:List bf) (f:FuncId) (ds:List DV) (r:DV):Prop:=Aw P bs f ds r fun _=>True
theorem Aw.two {P:Program} {bs:List bf} {f:FuncId} {ds:List DV} {r:DV} {A B C:List Value→Prop} (h:Aw P bs f ds r A) (k:Aw P bs f ds r B) (hc: ∀fz us,iw fz ds us→C us→A us∨B us):Aw P bs f ds r C:=
 ⟨h.body,fun w fz us cs h1 h2 h3 h4=>(hc fz us h3 h4).elim (h.run w fz us cs h1 h2 h3) (k.run w fz us cs h1 h2 h3)⟩
section
variable [Env] {P:Program} {N:Nat}
theorem SR.more {μ:bu} {σ:St} {w w':World} (hG:P.globals.size≤Env.n) (h:SR P N μ σ w) (hk:Kept w w') {fz':Addr→Option Value} (h1: ∀ad v,μ.fz ad=some v→fz' ad=some v) (h2: ∀ad v,fz' ad=some v→w'.cell? ad=some v)
 (h3: ∀ad v,fz' ad=some v→μ.fz ad=some v∨w.heap.size≤ad.block∨ad.block<P.globals.size):bI P N μ σ w ⟨μ.f,fz'⟩ σ w':=by
 have hsub:Sub μ ⟨μ.f,fz'⟩:=⟨fun _ _ h=>h,h1⟩
 have hk':=h.kept hk
 refine ⟨⟨hsub,fun b e hb=>.inr ⟨b,e,hb,rfl⟩,fun ad v ha=>?_⟩,fun b e hb=>.inl hb,Uh _,⟨hk.os,hk.tape,hk.output,hk.size,fun j hj _=>hk.same j hj⟩,
  ⟨fun b e hb=>let ⟨k,q1,q2⟩:=hk'.bV b e hb;⟨k,q1,q2.bx hsub (Uh _) fun _=>rfl⟩,hk'.inj,hk'.lt,hk'.hN,hk'.eH,hk'.hn,hk'.base,h2,fun b e k hb hk2 hw hN ad v ha=>?_⟩⟩
 ·rcases h3 ad v ha with q |q |q
  ·exact .inl q
  ·exact .inr (.inl q)
  ·exact .inr (.inr ⟨pos ad.block,_,h.eH _ q,rfl⟩)
 ·rcases h3 ad v ha with q |q |q
  ·exact h.apart b e k hb hk2 hw hN ad v q
  ·obtain ⟨k',_,hbr⟩:=h.bV b e hb
   have:=hbr.lt
   omega
  ·have:=h.hn
   omega
def SL (fz':Addr→Option Value) (w w':World) (t:TypeId) (z:Nat) (l:List (List D)) (V:Value):Prop:=
 (l=[]∧(V= .slice none 0 0∨∃ad,V= .slice (some ad) 0 0))∨∃(g c:Nat) (cur:Array Value),V= .slice (some ⟨g,0,none⟩) l.length c∧w.heap.size≤g∧w'.heap[g]? =some (.cells cur t (0,0))∧cur.size=c*z∧l.length≤c∧c≤maxLen∧l.flatten.length≤cur.size∧
  (∀(j:Nat) (d:D),l.flatten[j]? =some d→∃u,cur[j]? =some u∧dM fz' d u)∧∀ad v,fz' ad=some v→ad.block≠g
structure Mf (P:Program) (bs:List bf) (f:FuncId) (t:TypeId) (z:Nat) (ds:List DV) (l:List (List D)):Prop where
 body: ∃fn c,P.funcs[f]? =some fn∧fn.body=some c
 run: ∀(w:World) (fz:Addr→Option Value) (us:List Value) (cs:List Frame),jD bs w→(∀ad v,fz ad=some v→w.cell? ad=some v)→iw fz ds us→
  ∃fz' w' V fr,(∀ad v,fz ad=some v→fz' ad=some v)∧(∀ad v,fz' ad=some v→w'.cell? ad=some v)∧(∀ad v,fz' ad=some v→fz ad=some v∨w.heap.size≤ad.block∨ad.block<P.globals.size)∧Kept w w'∧SL fz' w w' t z l V∧
   Steps P (lone (W4 P f us.toArray .normal) cs w) (lone fr cs w')∧fr.fn=f∧fr.kind= .normal∧fr.going P w' (.returned V)
def R9 (P:Program) (bs:List bf) (f:FuncId) (o:Option (TypeId×Nat)) (ds:List DV) (r:DV):Prop:=
 match o with
 |none=>Ax P bs f ds r
 |some q=>∃l,r= .c (.aY l)∧Mf P bs f q.1 q.2 ds l
theorem SR.Mg {μ:bu} {σ:St} {w w':World} (hG:P.globals.size≤Env.n) (h:SR P N μ σ w) (hk:Kept w w') {fz':Addr→Option Value} (h1: ∀ad v,μ.fz ad=some v→fz' ad=some v) (h2: ∀ad v,fz' ad=some v→w'.cell? ad=some v)
 (h3: ∀ad v,fz' ad=some v→μ.fz ad=some v∨w.heap.size≤ad.block∨ad.block<P.globals.size) {ent:eQ} {k:bf} (hent:w.heap.size≤ent.a.block∨(ent=cE∧0<P.globals.size)) (hbr:BR P N (dr ⟨μ.f,fz'⟩ σ.n ent) w' k ent)
 (hap:writes k=true→N≤ent.a.block→∀ad v,fz' ad=some v→ad.block≠ent.a.block):bI P N μ σ w (dr ⟨μ.f,fz'⟩ σ.n ent) (σ.push k) w':=by
 have g1:=h.more hG hk h1 h2 h3
 have hfr:(⟨μ.f,fz'⟩:bu) σ.n=none:=h.fresh
 have hsub:Sub ⟨μ.f,fz'⟩ (dr ⟨μ.f,fz'⟩ σ.n ent):=fq (.inl hfr)
 have hN0:0<P.globals.size→0<N:=fun h0=>Ug h0 (Ui hG h.hn)
 have gY: ∀x ex,x≠σ.n→dr ⟨μ.f,fz'⟩ σ.n ent x=some ex→μ x=some ex:=fun x ex hx he=>by rw [ct _ ent hx] at he;exact he
 have hne: ∀x ex,x≠σ.n→dr ⟨μ.f,fz'⟩ σ.n ent x=some ex→N≤ent.a.block→ex.a.block≠ent.a.block:=by
  intro x ex hx he hN heq
  obtain ⟨k',_,q2⟩:=h.bV x ex (gY x ex hx he)
  have:=q2.lt
  rcases hent with h4 |⟨h4,h5⟩
  ·omega
  ·have:=hN0 h5
   rw [h4] at hN
   have:cE.a.block=0:=rfl
   omega
 refine ⟨⟨g1.ext.sub.trans hsub,fun b e hb=>?_,g1.ext.fE⟩,fun b e hb=>?_,by rw [dO,Pos.bX];omega,g1.ev,⟨fun b e hb=>?_,?_,fun b e hb=>?_,g1.sr.hN,fun g hg=>hsub _ _ (g1.sr.eH g hg),g1.sr.hn,g1.sr.base,g1.sr.fB,?_⟩⟩
 ·by_cases hbn:b=σ.n
  ·subst hbn
   rw [bE] at hb
   cases hb
   rcases hent with h4 |⟨h4,h5⟩
   ·exact .inl h4
   ·exact .inr ⟨pos 0,_,h.eH 0 h5,by rw [h4];rfl⟩
  ·exact .inr ⟨b,e,gY b e hbn hb,rfl⟩
 ·by_cases hbn:b=σ.n
  ·exact .inr (by rw [hbn];exact Uh _)
  ·exact .inl (gY b e hbn hb)
 ·by_cases hbn:b=σ.n
  ·subst hbn
   rw [bE] at hb
   cases hb
   exact ⟨k,by rw [bM,if_pos rfl],hbr⟩
  ·obtain ⟨k',q1,q2⟩:=g1.sr.bV b e (gY b e hbn hb)
   exact ⟨k',by rw [bM,if_neg (fun h=>hbn h.symm)];exact q1,q2.bx hsub (Uh _) fun _=>rfl⟩
 ·intro x y ex ey kx ky hx hy gx gy dx dy hN hxy
  by_cases hxn:x=σ.n
  ·by_cases hyn:y=σ.n
   ·rw [hxn,hyn]
   ·subst hxn
    rw [bE] at hx
    cases hx
    exact absurd hxy.symm (hne y ey hyn hy hN)
  ·by_cases hyn:y=σ.n
   ·subst hyn
    rw [bE] at hy
    cases hy
    exact absurd hxy (hne x ex hxn hx (hxy▸hN))
   ·rw [bM,if_neg (fun h=>hxn h.symm)] at gx
    rw [bM,if_neg (fun h=>hyn h.symm)] at gy
    exact h.inj x y ex ey kx ky (gY x ex hxn hx) (gY y ey hyn hy) gx gy dx dy hN hxy
 ·rw [dO,Pos.bX]
  by_cases hbn:b=σ.n
  ·rw [hbn];omega
  ·have:=h.lt b e (gY b e hbn hb);omega
 ·intro b e kb hb hk2 hw hN ad v ha
  by_cases hbn:b=σ.n
  ·subst hbn
   rw [bE] at hb
   cases hb
   rw [bM,if_pos rfl] at hk2
   cases hk2
   exact hap hw hN ad v ha
  ·rw [bM,if_neg (fun h=>hbn h.symm)] at hk2
   exact g1.sr.apart b e kb (gY b e hbn hb) hk2 hw hN ad v ha
def N0 (P:Program) (x:qE):Prop:=∃bs ds r,xH P bs∧R9 P bs x.1 x.2.2.2 ds r∧cI x.2.1=some ds∧bn x.2.2.1=some r∧dF x.2.2.1
theorem we {μ μ':bu} {v:AV} {u:Value} (h:VR P μ v u) (hs:Dv v=true):VR P μ' v u:=by
 cases v<;>first |(cases hs;done) |skip
 case bool=>cases h;exact .bool _
 case int=>cases h;exact .int _ _
 case str=>cases h with |str _ s hs=>exact .str _ s hs
 case tm t x=>
  cases h with
  |tm _ _ _ h1 h2=>
   refine .tm _ _ _ h1 ?_
   cases t<;>first |(cases hs;done) |skip
   ·obtain ⟨n,h1⟩:=h1;rw [h1] at h2⊢;cases h2;exact .int _ _
   ·obtain ⟨n,h1⟩:=h1;rw [h1] at h2⊢;cases h2;exact .bool _
   ·obtain ⟨n,h1⟩:=h1;rw [h1] at h2⊢;cases h2 with |str _ s hs=>exact .str _ s hs
theorem tw {μ μ':bu}: ∀{l:List AV} {C:List Value},bZ P μ l C→l.all Dv=true→bZ P μ' l C
 |[],C,h,hs=>by cases h;exact .nil
 |v::l,C,h,hs=>by
  rw [List.all_cons,Uj] at hs
  cases h with
  |cons _ u _ us h1 h2=>exact .cons _ _ _ _ (we h1 hs.1) (tw h2 hs.2)
theorem wg {μ μ':bu} {v:AV} {u:Value} (h:VR P μ v u) (hs:Dw v=true):VR P μ' v u:=by
 cases v with
 |agg l=>cases h with |agg _ C hC ho=>exact .agg _ _ (tw hC hs) ho
 |_=>exact we h hs
theorem tz {μ μ':bu}: ∀{l:List AV} {C:List Value},bZ P μ l C→l.all Dw=true→bZ P μ' l C
 |[],C,h,hs=>by cases h;exact .nil
 |v::l,C,h,hs=>by
  rw [List.all_cons,Uj] at hs
  cases h with
  |cons _ u _ us h1 h2=>exact .cons _ _ _ _ (wg h1 hs.1) (tz h2 hs.2)
theorem Ia {μ μ':bu} {v:AV} {u:Value} (h:VR P μ v u) (hs:Ku v=true):VR P μ' v u:=by
 cases v with
 |tuple l=>cases h with |tuple _ C hC=>exact .tuple _ _ (tz hC hs)
 |_=>exact wg h hs
theorem SR.Qx {μ:bu} {σ:St} {w w':World} (h:SR P N μ σ w) (hk:Kept w w'):bI P N μ σ w μ σ w':=
 ⟨⟨Sub.refl μ,fun b e hb=>.inr ⟨b,e,hb,rfl⟩,fun _ _ h=>.inl h⟩,fun b e hb=>.inl hb,Uh _,⟨hk.os,hk.tape,hk.output,hk.size,fun j hj _=>hk.same j hj⟩,h.kept hk⟩
theorem wi: ∀{l:List qE} {f:FuncId} {args:List AV} {s:St} {r:dV},uO l f args s=some r→∃x∈l,x.1=f∧∃s',dj args s=some (x.2.1,s')∧EC x.2.2.1 s s' x.2.2.2=some r
 |[],f,args,s,r,h=>by cases h
 |y::l,f,args,s,r,h=>by
  replace h:aQ (TJ y.1 f) (@TH (List AV×St) (fun _=>Option dV) none (fun q=>aQ (Bt (mP 12) y.2.1 q.1) (EC y.2.2.1 s q.2 y.2.2.2) (uO l f args s)) (dj args s)) (uO l f args s)=some r:=h
  have tl:uO l f args s=some r→∃x∈y::l,x.1=f∧∃s',dj args s=some (x.2.1,s')∧EC x.2.2.1 s s' x.2.2.2=some r:=fun h=>let ⟨x,h1,h2⟩:=wi h;⟨x,Ul _ h1,h2⟩
  cases h1:TJ y.1 f with
  |false=>rw [h1] at h;exact tl h
  |true=>
   rw [h1] at h
   replace h: @TH (List AV×St) (fun _=>Option dV) none (fun q=>aQ (Bt (mP 12) y.2.1 q.1) (EC y.2.2.1 s q.2 y.2.2.2) (uO l f args s)) (dj args s)=some r:=h
   rcases Option.eq_none_or_eq_some (dj args s) with h2 |⟨q,h2⟩
   ·rw [h2] at h;cases h
   ·rw [h2] at h
    replace h:aQ (Bt (mP 12) y.2.1 q.1) (EC y.2.2.1 s q.2 y.2.2.2) (uO l f args s)=some r:=h
    cases h3:Bt (mP 12) y.2.1 q.1 with
    |false=>rw [h3] at h;exact tl h
    |true=>
     rw [h3] at h
     refine ⟨y,Uk ..,T7 h1,q.2,?_,h⟩
     rw [m0 (ry 12) h3,h2]
theorem KZ (h0:0<P.globals.size) {l:List qE} (hl: ∀x∈l,N0 P x):kN P (uO l):=by
 intro f args s r h
 obtain ⟨x,hx,rfl,s',hf,hr⟩:=wi h
 obtain ⟨bs,ds,d,hB,hF,h1,h2,h3⟩:=hl x hx
 have hG:P.globals.size≤Env.n:=by rw [hB.1,hB.2.1];exact Uh _
 obtain ⟨f,xa,xv,o⟩:=x
 cases o with
 |none=>
  have hr:dV.gen xv (aQ (Ku xv) s s')=r:=TZ hr
  replace hF:Ax P bs f ds d:=hF
  refine ⟨hF.body,fun N μ w cs us hs ha=>?_⟩
  obtain ⟨fz1,g1,n1,ha1⟩:=eb hs ha hf
  obtain ⟨fz',w',V,fr,q1,q2,q3,q4,q5,q6,q7,q8,q9⟩:=hF.run w fz1 us cs (hB.2.2 w hs.base) g1.sr.fB (me ha1 h1) trivial
  cases hsc:Ku xv with
  |true=>
   rw [hsc] at hr
   subst hr
   exact ⟨μ,w',.run,V,fr,hs.Qx q4,.norm _ _,Ia (tu (μ:=⟨μ.f,fz'⟩) q5 h2 h3) hsc,q6,q7,q8,q9⟩
  |false=>
  rw [hsc] at hr
  subst hr
  have hg:=g1.sr.more hG q4 q1 q2 q3
  exact ⟨⟨μ.f,fz'⟩,w',.run,V,fr,g1.trans hg,.norm _ _,tu (μ:=⟨μ.f,fz'⟩) q5 h2 h3,q6,q7,q8,q9⟩
 |some q=>
  obtain ⟨t,z⟩:=q
  obtain ⟨L,rfl,hF⟩: ∃l,d= .c (.aY l)∧Mf P bs f t z ds l:=hF
  refine ⟨hF.body,fun N μ w cs us hs ha=>?_⟩
  cases xv<;>first |(cases hr;done) |skip
  rename_i ty y
  cases ty<;>first |(cases hr;done) |skip
  rename_i ts
  obtain ⟨hz,hr⟩:=aA.1 (show aQ (TJ z ts.length) (some (dV.gen (.vl ts (.op .len [y]) s'.n) (s'.push (.vec true t ts (.op .len [y]) y)))) none=some r from hr)
  cases hr
  obtain rfl:z=ts.length:=T7 hz
  have hev:ev y= .aY L:=by
   unfold bn at h2
   obtain ⟨e,e1,e2⟩:=Option.map_eq_some_iff.1 h2
   cases e2
   exact TZ e1
  have hty:bA (.aY ts) (ev y):=by unfold dF at h3;exact h3
  rw [hev] at hty
  have hlen:ev (.op .len [y])= .int .i64 (Int.ofNat L.length):=by rw [bN];simp only [List.map_cons,List.map_nil,hev];rfl
  obtain ⟨fz1,g1,n1,ha1⟩:=eb hs ha hf
  obtain ⟨fz',w',V,fr,q1,q2,q3,q4,q5,q6,q7,q8,q9⟩:=hF.run w fz1 us cs (hB.2.2 w hs.base) g1.sr.fB (me ha1 h1)
  have hNp:0<N:=Ug h0 (Ui hG hs.hn)
  rcases q5 with ⟨rfl,hV⟩ |⟨g,c,cur,rfl,r1,r2,r3,r4,r5,r6,r7,r8⟩
  ·have hg:=g1.sr.Mg (k:=.vec true t ts (.op .len [y]) y) (ent:=cE) hG q4 q1 q2 q3 (.inr ⟨rfl,h0⟩) ⟨[],hev,hlen,hty,.inl ⟨rfl,hNp,Ug hNp (Ui hs.hN q4.size),rfl⟩⟩ (fun _ hN=>by have:cE.a.block=0:=rfl;omega)
   exact ⟨_,w',.run,V,fr,g1.trans hg,.norm _ _,.vl ts _ s'.n _ cE (bE _ _ _) (.inl ⟨hV,by simp [cE],hlen⟩),q6,q7,q8,q9⟩
  ·have hNg:N≤g:=Ui hs.hN r1
   have hg:=g1.sr.Mg (k:=.vec true t ts (.op .len [y]) y) (ent:=⟨⟨g,0,none⟩,some (cur.size,t)⟩) hG q4 q1 q2 q3 (.inl r1)
    ⟨L,hev,hlen,hty,.inr ⟨g,cur,rfl,hNg,r2,r6,fun j d hj=>let ⟨u,x1,x2⟩:=r7 j d hj;⟨u,x1,x2,fun h=>by cases h⟩⟩⟩ (fun _ _ ad v ha=>r8 ad v ha)
   exact ⟨_,w',.run,_,fr,g1.trans hg,.norm _ _,.vl ts _ s'.n _ _ (bE _ _ _) (.inr ⟨L.length,c,rfl,rfl,hlen,r4,r5,fun sz t' hh=>by cases hh;exact r3⟩),q6,q7,q8,q9⟩
end
section
variable [Env] {P:Program} {N:Nat} {μ:bu} {s:St} {w0 w:World}
noncomputable def gG (μ:bu) (w0 w:World):Addr→Option Value:=fun ad=>match μ.fz ad with |some v=>some v |none=>if w0.heap.size≤ad.block then w.cell? ad else none
theorem mf {ad:Addr} {v:Value} (h:μ.fz ad=some v):gG μ w0 w ad=some v:=by
 unfold gG
 rw [h]
theorem wj (hs:SR P N μ s w) {ad:Addr} {v:Value} (hb:w0.heap.size≤ad.block) (h:w.cell? ad=some v):gG μ w0 w ad=some v:=by
 unfold gG
 cases hf:μ.fz ad with
 |some u=>have:=hs.fB ad u hf;rw [h] at this;exact this.symm
 |none=>simp only [if_pos hb];exact h
theorem Cm (hs:SR P N μ s w) {ad:Addr} {v:Value} (h:gG μ w0 w ad=some v):w.cell? ad=some v:=by
 unfold gG at h
 cases hf:μ.fz ad with
 |some u=>
  rw [hf] at h
  replace h:some u=some v:=h
  rw [←TZ h]
  exact hs.fB ad u hf
 |none=>
  rw [hf] at h
  by_cases hb:w0.heap.size≤ad.block
  ·simpa [if_pos hb] using h
  ·simp [if_neg hb] at h
theorem Ay (hs:SR P N μ s w) (hN:w0.heap.size≤N) {v v2:AV} {u:Value} {d:D} (hv:VR P μ v u) (hr:Bh P s v=some v2) (hd:uX v2=some d):dM (gG μ w0 w) d u:=by
 have mono: ∀{e:D},dM μ.fz e u→dM (gG μ w0 w) e u:=fun h=>h.mono fun ad v h=>mf h
 cases v<;>first |(cases hr;done) |skip
 case bool b=>cases hr;exact mono (fw hv hd)
 case int k n=>cases hr;exact mono (fw hv hd)
 case str l=>cases hr;exact mono (fw hv hd)
 case tm t x=>cases hr;exact mono (fw hv hd)
 case aJ=>cases hr;cases hd;cases hv;exact .nil
 case e0 zz=>cases hr;cases hd;cases hv with |e0 _ ad c _ hm=>exact py ad hm
 case slice b o n lim wh=>
  obtain ⟨k,hk,hr⟩:=aa.1 hr
  cases k<;>first |(cases hr;done) |skip
  rename_i own e len cl
  obtain ⟨hown,hr⟩:=aA.1 (show aQ own (ai (kR P 12 e) fun ts=>ai (s.cells b o (Nat.mul n ts.length)) fun cs=>omap (nH ts n (.op .nil []) cs) fun x=>AV.tm (.aY ts) x) none=some v2 from hr)
  subst hown
  obtain ⟨ts,hts,hr⟩:=aa.1 hr
  obtain ⟨cs,hcs,hr⟩:=aa.1 hr
  obtain ⟨x,hx,rfl⟩:=ba.1 hr
  cases hd
  show dM (gG μ w0 w) (ev x) u
  cases hv with
  |slice _ _ _ _ _ en ad c hen had hnc hmc hlim hc=>
   obtain ⟨e1,e2,us,e3,e4,e5⟩:=hs.gM hen hcs
   obtain ⟨R,r1,r2,r3,r4,r5⟩:=jt e3 hx (show ev (Tm.op .nil [])= .aY [] from rfl)
   rw [List.nil_append] at r1
   rw [r1]
   have hfl:R.flatten.length=n*ts.length:=by rw [jr (z:=ts.length) fun r hr=>bT (r3 r hr),r2]
   have hbr:BR P N μ w (.cells true e len cl) en:=by
    obtain ⟨k',q1,q2⟩:=hs.bV b en hen
    rw [hk] at q1;cases q1;exact q2
   obtain ⟨g,sz,cur,rfl,hNg,_⟩:=hbr
   have hcell: ∀j,j<R.flatten.length→ad=(⟨g,0,none⟩:Addr).add o∧∃d v,R.flatten[j]? =some d∧w.cell? (ad.add j)=some v∧dM μ.fz d v:=by
    intro j hj
    have hn0:0<n:=by
     rcases Nat.eq_zero_or_pos n with h0 |h0
     ·rw [hfl,h0] at hj;simp at hj
     ·exact h0
    have ha:ad=(⟨g,0,none⟩:Addr).add o:=had.elim id (fun h=>by omega)
    obtain ⟨v,q1,q2⟩:=r5 j _ (UB hj)
    refine ⟨ha,_,v,UB hj,?_,q2⟩
    rw [ha,add_add,e5 j (by show j<n*ts.length;rw [←hfl];exact hj)]
    exact q1
   rw [←r2] at hnc⊢
   refine .aY R ad c (fun j=>(w.cell? (ad.add j)).getD undef) hnc hmc (fun j hj=>?_) fun j d hj=>?_
   ·obtain ⟨ha,d,v,_,q1,_⟩:=hcell j hj
    rw [q1]
    refine wj hs ?_ q1
    rw [ha,add_add,vy]
    exact Ui hN hNg
   ·obtain ⟨_,d',v,q0,q1,q2⟩:=hcell j (List.getElem?_eq_some_iff.1 hj).1
    rw [hj] at q0
    cases q0
    rw [q1]
    exact q2.mono fun ad v h=>mf h
 case vl ts n b=>
  obtain ⟨k,hk,hr⟩:=aa.1 hr
  obtain ⟨⟨t,q⟩,hq,rfl⟩:=ba.1 hr
  cases hd
  show dM (gG μ w0 w) (ev q) u
  obtain ⟨e,L,he,_,_,q1,q2,q3,q4⟩:=jw hs hv hk hq
  rw [q1]
  rcases q4 with ⟨rfl |⟨ad,rfl⟩,rfl,_⟩ |⟨g,c,cur,rfl,_,r1,r2,r3,r4,r5,r6⟩
  ·exact .nil
  ·exact py _ (Nat.zero_le _)
  ·have hle:L.flatten.length≤cur.size:=by rw [q3.flat,r3];exact Nat.mul_le_mul_right _ r4
   refine .aY L ⟨g,0,none⟩ c (fun j=>cur.getD j undef) r4 r5 (fun j hj=>?_) fun j d hj=>?_
   ·refine wj hs (by rw [add_zero];exact Ui hN r1) ?_
    have hj':j<cur.size:=by omega
    rw [add_zero]
    simp [World.cell?,r2,Uw,hj']
   ·obtain ⟨v,x1,x2⟩:=r6 j d hj
    have:cur.getD j undef=v:=by rw [Uw,x1];rfl
    rw [this]
    exact x2.mono fun ad v h=>mf h
theorem wm (hs:SR P N μ s w) (hN:w0.heap.size≤N): ∀{l l2:List AV} {C:List Value} {ds:List D},bZ P μ l C→Dh P s l=some l2→na l2=some ds→iI (gG μ w0 w) ds C
 |[],l2,C,ds,hv,hr,hd=>by cases hr;cases hd;cases hv;exact .nil
 |v::vs,l2,C,ds,hv,hr,hd=>by
  obtain ⟨x,h1,h2⟩:=aa.1 (show ai (Bh P s v) (fun x=>omap (Dh P s vs) fun xs=>x::xs)=some l2 from hr)
  obtain ⟨xs,h3,rfl⟩:=ba.1 h2
  obtain ⟨d,h4,h5⟩:=Option.bind_eq_some_iff.1 hd
  obtain ⟨es,h6,rfl⟩:=Option.map_eq_some_iff.1 h5
  cases hv with
  |cons _ u _ us g1 g2=>exact .cons _ _ _ _ (Ay hs hN g1 h1 h4) (wm hs hN g2 h3 h6)
theorem SM {v:AV} {d:DV} (h:(uX v).map DV.c=some d): ∃e,uX v=some e∧d= .c e:=by
 obtain ⟨e,h1,rfl⟩:=Option.map_eq_some_iff.1 h
 exact ⟨e,h1,rfl⟩
def Cn:AV→Bool
 | .agg _=>false
 | .tuple _=>false
 |_=>true
theorem Co {v:AV} (h:Cn v=true):bn v=(uX v).map .c:=by
 cases v<;>first |(cases h;done) |(unfold bn;rfl)
theorem Cp {v v2:AV} (h:Bh P s v=some v2):Cn v2=true:=by
 cases v<;>first |(cases h;done) |skip
 case vl ts n b=>
  obtain ⟨k,hk,hr⟩:=aa.1 h
  obtain ⟨q,_,rfl⟩:=ba.1 hr
  rfl
 case slice b o n lim wh=>
  obtain ⟨k,hk,hr⟩:=aa.1 h
  cases k<;>first |(cases hr;done) |skip
  obtain ⟨_,hr⟩:=aA.1 hr
  obtain ⟨ts,_,hr⟩:=aa.1 hr
  obtain ⟨cs,_,hr⟩:=aa.1 hr
  obtain ⟨x,_,rfl⟩:=ba.1 hr
  rfl
 all_goals (cases h;rfl)
theorem dQ {v:AV} (h:Cn v=true):iG P s v=Bh P s v:=by
 cases v<;>first |(cases h;done) |(unfold iG;rfl)
theorem lD (hs:SR P N μ s w) (hN:w0.heap.size≤N) {v v2:AV} {u:Value} {d:DV} (hv:VR P μ v u) (hr:Bh P s v=some v2) (hd:bn v2=some d):uW (gG μ w0 w) d u:=by
 rw [Co (Cp hr)] at hd
 obtain ⟨e,h1,rfl⟩:=SM hd
 exact .c _ _ (Ay hs hN hv hr h1)
mutual
theorem Az (hs:SR P N μ s w) (hN:w0.heap.size≤N): ∀{v v2:AV} {u:Value} {d:DV},VR P μ v u→iG P s v=some v2→bn v2=some d→uW (gG μ w0 w) d u
 | .agg l,v2,u,d,hv,hr,hd=>by
  unfold iG at hr
  obtain ⟨l2,h1,rfl⟩:=ba.1 hr
  unfold bn at hd
  obtain ⟨ds,h2,rfl⟩:=Option.map_eq_some_iff.1 hd
  cases hv with
  |agg _ C hC _=>exact .agg _ _ (wm hs hN hC h1 h2)
 | .tuple l,v2,u,d,hv,hr,hd=>by
  unfold iG at hr
  obtain ⟨l2,h1,rfl⟩:=ba.1 hr
  unfold bn at hd
  obtain ⟨ds,h2,rfl⟩:=Option.map_eq_some_iff.1 hd
  cases hv with
  |tuple _ C hC=>exact .gf _ _ (wo hs hN hC h1 h2)
 | .bool b,v2,u,d,hv,hr,hd=>lD hs hN hv (by rw [←dQ rfl];exact hr) hd
 | .int k n,v2,u,d,hv,hr,hd=>lD hs hN hv (by rw [←dQ rfl];exact hr) hd
 | .str l,v2,u,d,hv,hr,hd=>lD hs hN hv (by rw [←dQ rfl];exact hr) hd
 | .aJ,v2,u,d,hv,hr,hd=>lD hs hN hv (by rw [←dQ rfl];exact hr) hd
 | .tm t x,v2,u,d,hv,hr,hd=>lD hs hN hv (by rw [←dQ rfl];exact hr) hd
 | .vl ts n b,v2,u,d,hv,hr,hd=>lD hs hN hv (by rw [←dQ rfl];exact hr) hd
 | .float ..,v2,u,d,hv,hr,hd=>by unfold iG at hr;cases hr
 | .ptr ..,v2,u,d,hv,hr,hd=>by unfold iG at hr;cases hr
 | .bY,v2,u,d,hv,hr,hd=>by unfold iG at hr;cases hr
 | .slice b o n l wh,v2,u,d,hv,hr,hd=>lD hs hN hv (by rw [←dQ rfl];exact hr) hd
 | .e0 _,v2,u,d,hv,hr,hd=>lD hs hN hv (by rw [←dQ rfl];exact hr) hd
 | .pe ..,v2,u,d,hv,hr,hd=>by unfold iG at hr;cases hr
 | .fb ..,v2,u,d,hv,hr,hd=>by unfold iG at hr;cases hr
 | .map _,v2,u,d,hv,hr,hd=>by unfold iG at hr;cases hr
 | .ck,v2,u,d,hv,hr,hd=>by unfold iG at hr;cases hr
 | .func ..,v2,u,d,hv,hr,hd=>by unfold iG at hr;cases hr
 | .yield _,v2,u,d,hv,hr,hd=>by unfold iG at hr;cases hr
 | .bU,v2,u,d,hv,hr,hd=>by unfold iG at hr;cases hr
 | .iface ..,v2,u,d,hv,hr,hd=>by unfold iG at hr;cases hr
 | .bw,v2,u,d,hv,hr,hd=>by unfold iG at hr;cases hr
 | .bad,v2,u,d,hv,hr,hd=>by unfold iG at hr;cases hr
theorem wo (hs:SR P N μ s w) (hN:w0.heap.size≤N): ∀{l l2:List AV} {C:List Value} {ds:List DV},bZ P μ l C→yL P s l=some l2→cI l2=some ds→iw (gG μ w0 w) ds C
 |[],l2,C,ds,hv,hr,hd=>by
  unfold yL at hr
  cases hr
  unfold cI at hd
  cases hd
  cases hv
  exact .nil
 |v::vs,l2,C,ds,hv,hr,hd=>by
  unfold yL at hr
  obtain ⟨x,h1,h2⟩:=aa.1 hr
  obtain ⟨xs,h3,rfl⟩:=ba.1 h2
  unfold cI at hd
  obtain ⟨d,h4,h5⟩:=Option.bind_eq_some_iff.1 hd
  obtain ⟨es,h6,rfl⟩:=Option.map_eq_some_iff.1 h5
  cases hv with
  |cons _ u _ us g1 g2=>exact .cons _ _ _ _ (Az hs hN g1 h1 h4) (wo hs hN g2 h3 h6)
end
theorem Fx (hP:cH P) {bs:List bf} (hB:xH P bs) (hW: ∀w,jD bs w→Env.base w) {orc:Ks} (ho:kN P orc.call) (hh: ∀N,sS P N orc.loop) {f:FuncId} {args:List AV} {n:Nat} {v v2:AV} {rc:Option cz} {s1:St}
 (hr:run P orc n (.call f args none) aV.none (mS bs)=some (.fin (.returned v) rc s1)) (hres:iG P s1 v=some v2) {ds:List DV} {r:DV} {ok:List Value→Prop} (hargs: ∀fz us,iw fz ds us→ok us→bZ P (tr P fz) args us) (hd:bn v2=some r):Aw P bs f ds r ok:=by
 refine ⟨((mb (N:=0) hP ho (hh 0) n).call _ _ _ _ _ _ hr).1,fun w fz us cs hb hfz hus hok=>?_⟩
 have hsr:=H8 (P:=P) hfz hB (hW w hb)
 obtain ⟨μ',w',u',V,fr,hg,_,hV,hst,hfn,hk,hgo⟩:=((mb (N:=w.heap.size) hP ho (hh _) n).call _ _ _ _ _ _ hr).2 (tr P fz) w (.norm cs) .run us hsr (hargs fz us hus hok) (.norm _ _)
 refine ⟨gG μ' w w',w',V,fr,fun ad v h=>mf (hg.ext.sub.fz ad v h),fun ad v h=>Cm hg.sr h,fun ad v h=>?_,⟨hg.ev.os,hg.ev.tape,hg.ev.output,hg.ev.size,fun j hj=>hg.ev.same j hj (.inl hj)⟩,Az hg.sr (Uh _) hV hres hd,hst,hfn,hk,hgo⟩
 unfold gG at h
 cases hf:μ'.fz ad with
 |some x=>
  rw [hf] at h
  rcases hg.ext.fE ad x hf with q |q |⟨b₀,e₀,q1,q2⟩
  ·replace h:some x=some v:=h
   rw [←TZ h]
   exact .inl q
  ·exact .inr (.inl q)
  ·obtain ⟨g1,rfl⟩:=Ci q1
   exact .inr (.inr (by rw [←q2];exact g1))
 |none=>
  rw [hf] at h
  by_cases hb:w.heap.size≤ad.block
  ·exact .inr (.inl hb)
  ·simp [if_neg hb] at h
end
end
section
open Go Go.RowKit
def pT (E Eo:Env) (P:Program) (f:FuncId) (args:List AV) (s0:St) (v:AV) (so:St) (bx:List Pos):Prop:=
 (∃fn c,P.funcs[f]? =some fn∧fn.body=some c)∧∀N μ w cs us,@SR E P N μ s0 w→@bZ E P μ args us→
  ∃μo w' V fr,@SR Eo P N μo so w'∧@VR Eo P μo v V∧Way N μ w μo w' bx∧Steps P (lone (W4 P f us.toArray .normal) cs w) (lone fr cs w')∧fr.fn=f∧fr.kind= .normal∧fr.going P w' (.returned V)
section
variable {P:Program} {bx:List Pos} {ν νo:gV} {orc:Ks} {f:FuncId} {n:Nat} {args:List AV} {s0 s1 so:St} {v vo:AV} {q qo qa qv:gF}
theorem K0 {E Er Eo:Env} (hP:cH P) (hG0:0<P.globals.size) (hA:Alike E Er) (hB:Alike Er Eo) (ho: @kN Er P orc.call) (hh: ∀N,@sS Er P N orc.loop)
 (hfa:cW νo args args=some qa) (hea:bL E Er qa) (hfi:dE P.globals.size νo none none aV.none s0 aV.none s0=some qo) (hei:bL E Er qo) (hki:dI νo bx=true) {rc:Option cz}
 (hr: @run Er.toGam P orc n (.call f args none) aV.none s0=some (.fin (.returned v) rc s1)) (hfv:bG ν vo v=some qv) (hev:bL Er Eo qv) (hf:dE P.globals.size ν none none aV.none so aV.none s1=some q) (he:bL Er Eo q)
 (hk:dI ν bx=true) (hkl:kg s0.n bx=true):pT E Eo P f args s0 vo so bx:=by
 refine ⟨(@gk.call Er P 0 _ (@mb Er P 0 hP orc ho (hh 0) n) _ _ _ _ _ _ hr).1,fun N μ w cs us hs ha=>?_⟩
 have hg0:=@SR.eH E _ _ _ _ _ hs 0 hG0
 obtain ⟨_,d2,_⟩:=cT hfi hei
 obtain ⟨_,c2,_⟩:=cT hf he
 obtain ⟨μ',w',u',V,fr,hg,_,hV,hst,hfn,hkd,hgo⟩:=(@gk.call Er P N _ (@mb Er P N hP orc ho (hh N) n) _ _ _ _ _ _ hr).2 (gq νo μ) w (.norm cs) .run us (ed hfi hei hA hs) (dA (e9 d2) hfa hea ha) (@RR.norm Er P _ _ _)
 have hsr:=@bI.sr Er _ _ _ _ _ _ _ _ hg
 exact ⟨gq ν μ',w',V,fr,ed hf he hB hsr,db (e9 c2) hfv hev hV,((@Way.xF P N bx w w' _ μ' Er _ _ hg hkl).post (@SR.eH Er _ _ _ _ _ hsr 0 hG0) hk c2).pre hg0 hki d2,hst,hfn,hkd,hgo⟩
theorem Ib {E E2 E':Env} (hG0:0<P.globals.size) (hA2:Alike E E2) (hA:Alike E E') {args0:List AV} {ν':gV} {s:St} {rows:List (Pos×bf)} {n1:Pos} {q':gF}
 (hfa:cW ν args0 args=some qa) (hea:bL E E2 qa) (hf:dE P.globals.size ν none none aV.none s0 aV.none s=some q) (he:bL E E2 q) (hfv:bG ν' v vo=some qv) (hev:bL E' E qv)
 (hfo:pN P.globals.size bx ν ν' s aV.none so aV.none rows n1=some q') (he':bL E' E q') (hL:pT E2 E' P f args0 s0 vo so bx):
 (∃fn c,P.funcs[f]? =some fn∧fn.body=some c)∧∀N μ w cs us,@SR E P N μ s w→@bZ E P μ args us→@kM E P N (.norm cs) f (lone (W4 P f us.toArray .normal) cs w) μ s w ((dV.gen v (iv s rows n1)).out s):=by
 refine ⟨hL.1,fun N μ w cs us hs ha=>?_⟩
 obtain ⟨_,c2,_⟩:=cT hf he
 obtain ⟨μo,w',V,fr,g1,g2,g3,g4,g5,g6,g7⟩:=hL.2 N (gq ν μ) w cs us (ed hf he hA2 hs) (dA (e9 c2) hfa hea ha)
 obtain ⟨hN,hg⟩:=As hG0 hA hf he hs hfo he' g1 g3
 exact ⟨tj ν' μo μ,w',.run,V,fr,hg,@RR.norm E P _ _ _,db hN hfv hev g2,g4,g5,g6,g7⟩
end
end
end Go.Proofs.Sai
