/- Part IG of the proof of VerifyDead: texts of the interpreter and what it shows, under short names. No condition. -/
import Derived.Test.YtgfhbomiljhjpaaGreatDoorIF
import Derived.ProofKit
import Derived.OpenShut
import Derived.LaidMore
import Derived.Lay
import Derived.SevenTiedAt
import Derived.Stop.Joined
import Derived.Lib.LaidTab
import Derived.LaidHandle
set_option linter.unusedVariables false
set_option linter.unusedSimpArgs false
set_option linter.unusedSectionVars false
open Array renaming getD_eq_getD_getElem?→We
open Bool renaming and_eq_true→V1
open Go.Addr renaming add→Wg
open Go.Frame renaming enter→YN
open Go.Steps renaming one→Zt
open List renaming rec→Vu,not_mem_nil→VS,mem_cons_self→V2,mem_cons_of_mem→V3,length_cons→V8,getElem?_eq_getElem→Wj
open Nat renaming beq→Vo,eq_of_beq_eq_true→VN,ble→Vv,succ→Vt,le_of_ble_eq_true→VQ,lt_of_lt_of_le→VX,le_trans→VZ,le_refl→VY
open Option renaming rec→Vm
open Option.some renaming inj→VF
namespace Go.Proofs.Sai
section
open Go Go.RowKit
abbrev gX:=List (Tm×Tm)
structure iD where
 r:List (Pos×Pos)
 z:List Pos
noncomputable def bR (l:List (Pos×Pos)) (b:Pos):Option Pos:=@Vu (Pos×Pos) (fun _=>Option Pos) none (fun c _ ih=>au (lG c.1 b) (some c.2) ih) l
noncomputable def gM (l:List Pos) (b:Pos):Bool:=@Vu Pos (fun _=>Bool) false (fun c _ ih=>au (lG c b) true ih) l
noncomputable def jc (ν:iD) (b c:Pos):Bool:=@Vm Pos (fun _=>Bool) false (fun d=>lG d c) (bR ν.r b)
noncomputable def gN (x y:Option gX):Option gX:=ab x fun a=>omap y fun b=>a++b
mutual
noncomputable def bE (ν:iD):AV→AV→Option gX
 | .bad,_=>none
 | .bool a,v=>(match v with | .bool b=>au (a==b) (some []) none |_=>none)
 | .int k a,v=>(match v with | .int j b=>au (th k j&&F0 a b) (some []) none |_=>none)
 | .float k a,v=>(match v with | .float j b=>au (decide (k=j)&&Vo a b) (some []) none |_=>none)
 | .str a,v=>(match v with | .str b=>au (wM a b) (some []) none |_=>none)
 | .ptr b o,v=>(match v with | .ptr c p=>au (jc ν b c&&Vo o p) (some []) none |_=>none)
 | .bX,v=>(match v with | .bX=>some [] |_=>none)
 | .slice b o n l w,v=>(match v with | .slice b' o' n' l' w'=>au (jc ν b b'&&Vo o o'&&Vo n n'&&l==l'&&w==w') (some []) none |_=>none)
 | .an,v=>(match v with | .an=>some [] |_=>none)
 | .map b,v=>(match v with | .map c=>au (jc ν b c) (some []) none |_=>none)
 | .cd,v=>(match v with | .cd=>some [] |_=>none)
 | .func f a c,v=>(match v with | .func g a' c'=>au (Vo f g) (gN (cX ν a a') (cX ν c c')) none |_=>none)
 | .yield b,v=>(match v with | .yield c=>au (jc ν b c) (some []) none |_=>none)
 | .bN,v=>(match v with | .bN=>some [] |_=>none)
 | .iface t a,v=>(match v with | .iface u b=>au (Vo t u) (bE ν a b) none |_=>none)
 | .bu,v=>(match v with | .bu=>some [] |_=>none)
 | .agg l,v=>(match v with | .agg m=>cX ν l m |_=>none)
 | .tuple l,v=>(match v with | .tuple m=>cX ν l m |_=>none)
 | .tm t x,v=>(match v with
  | .an=>(match t with | .aF _=>some [(x,.op .nil [])] |_=>none)
  | .e0 _=>(match t with | .aF _=>some [(x,.op .nil [])] |_=>none)
  |v=>ab (lR v) fun q=>au (lM t q.1) (some [(x,q.2)]) none)
 | .vl ts n b,v=>(match v with
  | .vl us m c=>au (bV ts us&&jc ν b c) (some [(n,m)]) none
  | .an=>au (gM ν.z b) (some [(n,.op .len [.op .nil []])]) none
  | .e0 true=>au (gM ν.z b) (some [(n,.op .len [.op .nil []])]) none
  | .slice _ _ m fV _=>au (gM ν.z b&&(Vo m 0&&fV)) (some [(n,.op .len [.op .nil []])]) none
  |_=>none)
 | .e0 z,v=>(match v with | .e0 z'=>au (z==z') (some []) none |_=>none)
 | .pe ts b i o,v=>(match v with | .pe us c j o'=>au (bV ts us&&jc ν b c&&Vo o o') (some [(i,j)]) none |_=>none)
 | .fb x,v=>(match v with | .fb y=>some [(x,y)] |_=>none)
noncomputable def cX (ν:iD):List AV→List AV→Option gX
 |[],m=>(match m with |[]=>some [] |_=>none)
 |x::l,m=>(match m with |y::m=>gN (bE ν x y) (cX ν l m) |_=>none)
end
def DA:AV→Bool
 | .bad=>true
 |_=>false
noncomputable def Sb (ν:iD) (k:Bool):Option AV→Option AV→Option gX
 |none,o=>(match o with |none=>some [] |_=>none)
 |some v,o=>au (k&&DA v) (some []) (match o with |some u=>bE ν v u |none=>none)
def uJ:Tr AV→Option AV
 | .nil=>none
 | .node v _ _=>v
def yZ:Tr AV→Tr AV
 | .nil=>.nil
 | .node _ l _=>l
def sS:Tr AV→Tr AV
 | .nil=>.nil
 | .node _ _ r=>r
noncomputable def pR (t:Tr AV):Bool:=@Tr.rec AV (fun _=>Bool) true (fun v _ _ a b=>@Vm AV (fun _=>Bool) (au a b false) (fun _=>false) v) t
noncomputable def ka (ν:iD) (k:Bool):Tr AV→Tr AV→Option gX
 | .nil,t=>au (pR t) (some []) none
 | .node v l r,t=>gN (Sb ν k v (uJ t)) (gN (ka ν k l (yZ t)) (ka ν k r (sS t)))
noncomputable def Jw (ν:iD):Cs→Cs→Option gX
 | .o5 l,c=>(match c with | .o5 m=>cX ν l m |_=>none)
 | .many t,c=>(match c with | .many u=>ka ν false t u |_=>none)
noncomputable def Fe (ν:iD):List (AV×AV)→List (AV×AV)→Option gX
 |[],m=>(match m with |[]=>some [] |_=>none)
 |x::l,m=>(match m with |y::m=>gN (bE ν x.1 y.1) (gN (bE ν x.2 y.2) (Fe ν l m)) |_=>none)
def Jx:LoopState→LoopState→Bool
 | .ready,.ready=>true
 | .busy,.busy=>true
 | .done,.done=>true
 | .exhausted,.exhausted=>true
 |_,_=>false
noncomputable def DB:Option Code→Option Code→Bool
 |none,none=>true
 |some (.exit a),some (.exit b)=>Vo a b
 |some .ret,some .ret=>true
 |_,_=>false
noncomputable def Sc (ν:iD) (p q:eY):Option gX:=
 au (Jx p.state q.state&&DB p.pending q.pending&&Vo p.n q.n&&wM p.params q.params&&jc ν p.defers q.defers&&Vo p.f q.f&&lG p.p q.p) (ka ν true p.tm q.tm) none
noncomputable def rb (ν:iD):aY→aY→Option gX
 | .cells own t len c,k=>(match k with | .cells own' t' len' c'=>au (own==own'&&Vo t t'&&Vo len len') (Jw ν c c') none |_=>none)
 | .map es,k=>(match k with | .map fs=>Fe ν es fs |_=>none)
 | .fY l p,k=>(match k with | .fY m q=>au (wM l m&&Vo p q) (some []) none |_=>none)
 | .deferred d,k=>(match k with | .deferred e=>au (d==e) (some []) none |_=>none)
 | .loop p,k=>(match k with | .loop q=>Sc ν p q |_=>none)
 | .vec own t ts n x,k=>(match k with | .vec own' u us m y=>au (own==own'&&Vo t u&&bV ts us) (some [(n,m),(x,y)]) none |_=>none)
 | .bY g kt ts x,k=>(match k with | .bY g' ku us y=>au (g==g'&&lM kt ku&&bV ts us) (some [(x,y)]) none |_=>none)
 | .eE t ts n x i v,k=>(match k with | .eE u us m y j v'=>au (Vo t u&&bV ts us) (gN (some [(n,m),(x,y),(i,j)]) (bE ν v v')) none |_=>none)
 |_,_=>none
def Jy:aY→Option gX
 | .vec _ _ _ n x=>some [(n,.op .len [.op .nil []]),(x,.op .nil [])]
 |_=>none
section
variable {E E':Env} {P:Program} {N:Nat} {ν:iD} {μ μ':bw}
theorem cg {x y:Option gX} {l:gX} (h:gN x y=some l): ∃a b,x=some a∧y=some b∧l=a++b:=by
 obtain ⟨a,h1,h2⟩:=aa.1 h
 obtain ⟨b,h3,h4⟩:=aO.1 h2
 exact ⟨a,b,h1,h3,h4.symm⟩
def bL (E E':Env) (l:gX):Prop:=∀p∈l,@ev E' p.1= @ev E p.2
theorem bL.left {a b:gX} (h:bL E E' (a++b)):bL E E' a:=fun p hp=>h p (List.mem_append_left _ hp)
theorem bL.right {a b:gX} (h:bL E E' (a++b)):bL E E' b:=fun p hp=>h p (List.mem_append_right _ hp)
structure mu (ν:iD) (μ' μ:bw):Prop where
 ren: ∀b c,bR ν.r b=some c→μ' b=μ c
 nil: ∀b,gM ν.z b=true→μ' b=some cz
 fz: ∀ad v,μ.fz ad=some v→μ'.fz ad=some v
theorem mu.at (h:mu ν μ' μ) {b c:Pos} (hb:jc ν b c=true):μ' b=μ c:=by
 unfold jc at hb
 cases hr:bR ν.r b with
 |none=>rw [hr] at hb;cases hb
 |some d=>
  rw [hr] at hb
  have:lG d c=true:=hb
  rw [←dN this]
  exact h.ren b d hr
theorem m5 {v0 v:AV} {l:gX} (h:bE ν v0 v=some l) (ho:v.one=true):v0.one=true:=by
 cases v0<;>first |rfl |(unfold bE at h;cases h;done) |skip
 all_goals (unfold bE at h;cases v<;>first |(cases h;done) |(cases ho;done))
theorem se: ∀{v0 v:List AV} {l:gX},cX ν v0 v=some l→cf v=true→cf v0=true
 |[],v,l,h,ho=>rfl
 |x::a,v,l,h,ho=>by
  cases v<;>first |(unfold cX at h;cases h;done) |skip
  rename_i y b
  unfold cX at h
  obtain ⟨p,q,h3,h4,rfl⟩:=cg h
  obtain ⟨o1,o2⟩:=bB (show au y.one (cf b) false=true from ho)
  show au x.one (cf a) false=true
  rw [m5 h3 o1]
  exact se h4 o2
mutual
theorem cU (hn:mu ν μ' μ): ∀{v0 v:AV} {u:Value} {l:gX},bE ν v0 v=some l→bL E E' l→@VR E P μ v u→@VR E' P μ' v0 u
 | .bad,v,u,l,h,he,hv=>by unfold bE at h;cases h
 | .bool a,v,u,l,h,he,hv=>by
  cases v<;>first |(unfold bE at h;cases h;done) |skip
  unfold bE at h
  obtain ⟨h1,_⟩:=aj.1 h
  rw [eq_of_beq h1]
  cases hv
  exact @VR.bool E' P μ' _
 | .int k a,v,u,l,h,he,hv=>by
  cases v<;>first |(unfold bE at h;cases h;done) |skip
  unfold bE at h
  obtain ⟨h1,_⟩:=aj.1 h
  rw [V1,fL,gf] at h1
  rw [of_decide_eq_true h1.1,eq_of_beq h1.2]
  cases hv
  exact @VR.int E' P μ' _ _
 | .float k a,v,u,l,h,he,hv=>by
  cases v<;>first |(unfold bE at h;cases h;done) |skip
  unfold bE at h
  obtain ⟨h1,_⟩:=aj.1 h
  rw [V1] at h1
  rw [of_decide_eq_true h1.1,VN h1.2]
  cases hv
  exact @VR.float E' P μ' _ _
 | .str a,v,u,l,h,he,hv=>by
  cases v<;>first |(unfold bE at h;cases h;done) |skip
  rename_i b
  unfold bE at h
  obtain ⟨h1,_⟩:=aj.1 (show au (wM a b) (some []) none=some l from h)
  rw [fK] at h1
  rw [eq_of_beq h1]
  cases hv with
  |str _ s hs=>exact @VR.str E' P μ' _ s hs
 | .ptr b o,v,u,l,h,he,hv=>by
  cases v<;>first |(unfold bE at h;cases h;done) |skip
  unfold bE at h
  obtain ⟨h1,_⟩:=aj.1 h
  rw [V1] at h1
  rw [VN h1.2]
  cases hv with
  |ptr _ _ e hb=>exact @VR.ptr E' P μ' b _ e ((hn.at h1.1).trans hb)
 | .bX,v,u,l,h,he,hv=>by
  cases v<;>first |(unfold bE at h;cases h;done) |skip
  cases hv
  exact @VR.bX E' P μ'
 | .slice b o n l w,v,u,q,h,he,hv=>by
  cases v<;>first |(unfold bE at h;cases h;done) |skip
  unfold bE at h
  obtain ⟨h1,_⟩:=aj.1 h
  simp only [V1] at h1
  obtain ⟨⟨⟨⟨h1,h2⟩,h3⟩,h4⟩,h5⟩:=h1
  rw [VN h2,VN h3,eq_of_beq h4,eq_of_beq h5]
  cases hv with
  |slice _ _ _ _ _ e ad c hb q1 q2 q3 q4 q5=>exact @VR.slice E' P μ' b _ _ _ _ e ad c ((hn.at h1).trans hb) q1 q2 q3 q4 q5
 | .an,v,u,l,h,he,hv=>by
  cases v<;>first |(unfold bE at h;cases h;done) |skip
  cases hv
  exact @VR.an E' P μ'
 | .map b,v,u,l,h,he,hv=>by
  cases v<;>first |(unfold bE at h;cases h;done) |skip
  unfold bE at h
  obtain ⟨h1,_⟩:=aj.1 h
  cases hv with
  |map _ e hb=>exact @VR.map E' P μ' b e ((hn.at h1).trans hb)
 | .cd,v,u,l,h,he,hv=>by
  cases v<;>first |(unfold bE at h;cases h;done) |skip
  cases hv
  exact @VR.cd E' P μ'
 | .func f a c,v,u,l,h,he,hv=>by
  cases v<;>first |(unfold bE at h;cases h;done) |skip
  unfold bE at h
  obtain ⟨h1,h2⟩:=aj.1 h
  obtain ⟨x,y,h3,h4,rfl⟩:=cg h2
  rw [show _=_ from VN h1]
  cases hv with
  |func _ _ _ F C q1 q2=>exact @VR.func E' P μ' _ a c F C (dP hn h3 he.left q1) (dP hn h4 he.right q2)
 | .yield b,v,u,l,h,he,hv=>by
  cases v<;>first |(unfold bE at h;cases h;done) |skip
  unfold bE at h
  obtain ⟨h1,_⟩:=aj.1 h
  cases hv with
  |yield _ e hb=>exact @VR.yield E' P μ' b e ((hn.at h1).trans hb)
 | .bN,v,u,l,h,he,hv=>by
  cases v<;>first |(unfold bE at h;cases h;done) |skip
  cases hv
  exact @VR.bN E' P μ'
 | .iface t a,v,u,l,h,he,hv=>by
  cases v<;>first |(unfold bE at h;cases h;done) |skip
  unfold bE at h
  obtain ⟨h1,h2⟩:=aj.1 h
  rw [show _=_ from VN h1]
  cases hv with
  |iface _ _ x q=>exact @VR.iface E' P μ' _ a x (cU hn h2 he q)
 | .bu,v,u,l,h,he,hv=>by
  cases v<;>first |(unfold bE at h;cases h;done) |skip
  cases hv
  exact @VR.bu E' P μ'
 | .agg a,v,u,l,h,he,hv=>by
  cases v<;>first |(unfold bE at h;cases h;done) |skip
  unfold bE at h
  cases hv with
  |agg _ C hC ho=>exact @VR.agg E' P μ' a C (dP hn h he hC) (se h ho)
 | .tuple a,v,u,l,h,he,hv=>by
  cases v<;>first |(unfold bE at h;cases h;done) |skip
  unfold bE at h
  cases hv with
  |tuple _ C hC=>exact @VR.tuple E' P μ' a C (dP hn h he hC)
 | .tm t x,v,u,l,h,he,hv=>by
  unfold bE at h
  split at h
  ·split at h
   ·rename_i ts
    cases h
    cases hv
    have:=he (x,.op .nil []) (List.mem_singleton.2 rfl)
    have e0: @ev E (.op .nil [])= .aF []:=rfl
    rw [e0] at this
    exact @VR.tm E' P μ' (.aF ts) x _ ⟨[],this,fun r hr=>absurd hr VS⟩ (by rw [this];exact .nil)
   ·cases h
  ·split at h
   ·rename_i ts
    cases h
    cases hv with |e0 _ ad c hz hm=>
    have:=he (x,.op .nil []) (List.mem_singleton.2 rfl)
    have e0: @ev E (.op .nil [])= .aF []:=rfl
    rw [e0] at this
    exact @VR.tm E' P μ' (.aF ts) x _ ⟨[],this,fun r hr=>absurd hr VS⟩ (by rw [this];exact nO _ hm)
   ·cases h
  ·obtain ⟨⟨t',y⟩,h1,h2⟩:=aa.1 h
   obtain ⟨h3,h4⟩:=aj.1 h2
   cases h4
   have:=kI h3
   subst this
   obtain ⟨q1,q2⟩:=@ff E P μ v u _ y hv h1
   have e0:=he (x,y) (List.mem_singleton.2 rfl)
   exact @VR.tm E' P μ' _ x u (by rw [e0];exact q1) (by rw [e0];exact q2.mono hn.fz)
 | .vl ts n b,v,u,l,h,he,hv=>by
  unfold bE at h
  split at h
  ·rename_i us m c
   obtain ⟨h1,h2⟩:=aj.1 h
   cases h2
   rw [V1] at h1
   have:=bW h1.1
   subst this
   have e0:=he (n,m) (List.mem_singleton.2 rfl)
   cases hv with
   |vl _ _ _ _ e hb q=>exact @VR.vl E' P μ' ts n b u e ((hn.at h1.2).trans hb) (by rw [e0];exact q)
  ·obtain ⟨h1,h2⟩:=aj.1 h
   cases h2
   cases hv
   have e0:=he (n,.op .len [.op .nil []]) (List.mem_singleton.2 rfl)
   exact @VR.vl E' P μ' ts n b _ cz (hn.nil b h1) (.inl ⟨.inl rfl,by simp [cz],e0⟩)
  ·obtain ⟨h1,h2⟩:=aj.1 h
   cases h2
   cases hv with
   |e0 _ ad c hz0 _=>
   obtain rfl:=hz0 rfl
   have e0:=he (n,.op .len [.op .nil []]) (List.mem_singleton.2 rfl)
   exact @VR.vl E' P μ' ts n b _ cz (hn.nil b h1) (.inl ⟨.inr ⟨ad,rfl⟩,by simp [cz],e0⟩)
  ·obtain ⟨h1,h2⟩:=aj.1 h
   cases h2
   rw [V1,V1] at h1
   obtain ⟨h1,q1,q2⟩:=h1
   obtain rfl:=VN q1
   subst q2
   have e0:=he (n,.op .len [.op .nil []]) (List.mem_singleton.2 rfl)
   cases hv with
   |slice _ _ _ _ _ e ad c _ _ _ _ hl _=>
   obtain rfl:=hl rfl
   exact @VR.vl E' P μ' ts n b _ cz (hn.nil b h1) (.inl ⟨.inr ⟨ad,rfl⟩,by simp [cz],e0⟩)
  ·cases h
 | .e0 z,v,u,l,h,he,hv=>by
  cases v<;>first |(unfold bE at h;cases h;done) |skip
  unfold bE at h
  obtain ⟨h1,_⟩:=aj.1 h
  have:=eq_of_beq h1
  subst this
  cases hv with
  |e0 _ ad c hz hm=>exact @VR.e0 E' P μ' _ ad c hz hm
 | .pe ts b i o,v,u,l,h,he,hv=>by
  cases v<;>first |(unfold bE at h;cases h;done) |skip
  rename_i us c j o'
  unfold bE at h
  obtain ⟨h1,h2⟩:=aj.1 h
  cases h2
  simp only [V1] at h1
  have:=bW h1.1.1
  subst this
  have:=VN h1.2
  subst this
  have e0:=he (i,j) (List.mem_singleton.2 rfl)
  cases hv with
  |pe _ _ _ _ e k n hb hi=>exact @VR.pe E' P μ' ts b i o e k n ((hn.at h1.1.2).trans hb) (by rw [e0];exact hi)
 | .fb x,v,u,l,h,he,hv=>by
  cases v<;>first |(unfold bE at h;cases h;done) |skip
  rename_i y
  unfold bE at h
  cases h
  have e0:=he (x,y) (List.mem_singleton.2 rfl)
  cases hv with
  |fb _ n hx=>exact @VR.fb E' P μ' x n (by rw [e0];exact hx)
theorem dP (hn:mu ν μ' μ): ∀{v0 v:List AV} {u:List Value} {l:gX},cX ν v0 v=some l→bL E E' l→@b8 E P μ v u→@b8 E' P μ' v0 u
 |[],v,u,l,h,he,hv=>by
  cases v<;>first |(unfold cX at h;cases h;done) |skip
  cases hv
  exact @b8.nil E' P μ'
 |x::a,v,u,l,h,he,hv=>by
  cases v<;>first |(unfold cX at h;cases h;done) |skip
  unfold cX at h
  obtain ⟨p,q,h3,h4,rfl⟩:=cg h
  cases hv with
  |cons _ y _ ys q1 q2=>exact @b8.cons E' P μ' x y a ys (cU hn h3 he.left q1) (dP hn h4 he.right q2)
end
theorem uK: ∀{l m:List AV} {q:gX} {i:Nat} {v:AV},cX ν l m=some q→bL E E' q→m[i]? =some v→∃v0 p,l[i]? =some v0∧bE ν v0 v=some p∧bL E E' p
 |[],m,q,i,v,h,he,hi=>by
  cases m<;>first |(unfold cX at h;cases h;done) |skip
  simp at hi
 |x::a,m,q,i,v,h,he,hi=>by
  cases m<;>first |(unfold cX at h;cases h;done) |skip
  unfold cX at h
  obtain ⟨p,r,h3,h4,rfl⟩:=cg h
  cases i with
  |zero=>simp at hi;subst hi;exact ⟨x,p,rfl,h3,he.left⟩
  |succ i=>
   obtain ⟨v0,p',q1,q2,q3⟩:=uK h4 he.right (i:=i) (by simpa using hi)
   exact ⟨v0,p',by simpa using q1,q2,q3⟩
theorem mw: ∀{t:Tr AV},pR t=true→∀p,t.get p=none
 | .nil,_,p=>get_nil p
 | .node v l r,h,p=>by
  cases v with
  |some v=>cases h
  |none=>
   obtain ⟨h1,h2⟩:=bB (show au (pR l) (pR r) false=true from h)
   cases p with
   |one=>rfl
   |o p=>exact mw h1 p
   |i p=>exact mw h2 p
theorem GU (t:Tr AV):t.get .one=uJ t:=by cases t<;>rfl
theorem DC (t:Tr AV) (p:Pos):t.get (.o p)=(yZ t).get p:=by cases t with |nil=>rw [get_nil];exact (get_nil p).symm |node=>rfl
theorem BF (t:Tr AV) (p:Pos):t.get (.i p)=(sS t).get p:=by cases t with |nil=>rw [get_nil];exact (get_nil p).symm |node=>rfl
theorem m6 {k:Bool}: ∀{t0 t:Tr AV} {q:gX},ka ν k t0 t=some q→bL E E' q→∀p,(t0.get p=none∧t.get p=none)∨(k=true∧t0.get p=some .bad)∨∃v0 v r,t0.get p=some v0∧t.get p=some v∧bE ν v0 v=some r∧bL E E' r
 | .nil,t,q,h,he,p=>by
  obtain ⟨h1,_⟩:=aj.1 (show au (pR t) (some []) none=some q from h)
  exact .inl ⟨get_nil p,mw h1 p⟩
 | .node v l r,t,q,h,he,p=>by
  obtain ⟨a,b,h1,h2,rfl⟩:=cg (show gN (Sb ν k v (uJ t)) (gN (ka ν k l (yZ t)) (ka ν k r (sS t)))=some q from h)
  obtain ⟨c,d,h3,h4,rfl⟩:=cg h2
  cases p with
  |one=>
   rw [mX,GU]
   cases v with
   |none=>
    cases ht:uJ t with
    |none=>exact .inl ⟨rfl,rfl⟩
    |some u=>rw [ht] at h1;cases h1
   |some v=>
    replace h1:au (k&&DA v) (some []) (match uJ t with |some u=>bE ν v u |none=>none)=some a:=h1
    cases hb:k&&DA v with
    |true=>
     rw [V1] at hb
     refine .inr (.inl ⟨hb.1,?_⟩)
     cases v<;>first |rfl |cases hb.2
    |false=>
     rw [hb] at h1
     cases ht:uJ t with
     |none=>rw [ht] at h1;cases h1
     |some u=>rw [ht] at h1;exact .inr (.inr ⟨v,u,a,rfl,rfl,h1,he.left⟩)
  |o p=>rw [wW,DC];exact m6 h3 he.right.left p
  |i p=>rw [wX,BF];exact m6 h4 he.right.right p
theorem my (hn:mu ν μ' μ) {t0 t:Tr AV} {q:gX} {tmps:Array Value} (h:ka ν true t0 t=some q) (he:bL E E' q) (ht: @TR E P μ t tmps): @TR E' P μ' t0 tmps:=by
 intro i
 have hi:=ht i
 rcases m6 h he (pos i) with ⟨h1,h2⟩ |⟨_,h1⟩ |⟨v0,v,r,h1,h2,h3,h4⟩
 ·rw [h1]
  rw [h2] at hi
  replace hi: @VR E P μ (.tuple []) (tmps.getD i undef):=hi
  show @VR E' P μ' (.tuple []) _
  generalize tmps.getD i undef=u at*
  cases hi with
  |tuple _ C hC=>cases hC;exact @VR.tuple E' P μ' [] [] (@b8.nil E' P μ')
 ·rw [h1];exact @VR.bad E' P μ' _
 ·rw [h1]
  rw [h2] at hi
  exact cU hn h3 h4 hi
theorem sf (hn:mu ν μ' μ) {c0 c:Cs} {q:gX} {len:Nat} {f:Nat→Option Value} (h:Jw ν c0 c=some q) (he:bL E E' q) (hc: @CR E P μ c len f): @CR E' P μ' c0 len f:=by
 intro i hi
 obtain ⟨av,v,h1,h2,h3,h4⟩:=hc i hi
 cases c0 with
 |o5 l=>
  cases c with
  |o5 m=>
   rw [Cs.gz] at h1
   obtain ⟨v0,p,q1,q2,q3⟩:=uK h he h1
   exact ⟨v0,v,by rw [Cs.gz];exact q1,h2,cU hn q2 q3 h3,m5 q2 h4⟩
  |many u=>cases h
 |many t=>
  cases c with
  |o5 m=>cases h
  |many u=>
   rw [Cs.t6] at h1
   rcases m6 h he (pos i) with ⟨_,q2⟩ |⟨q1,_⟩ |⟨v0,v',r,q1,q2,q3,q4⟩
   ·rw [h1] at q2;cases q2
   ·cases q1
   ·rw [h1] at q2
    cases q2
    exact ⟨v0,v,by rw [Cs.t6];exact q1,h2,cU hn q3 q4 h3,m5 q3 h4⟩
theorem sg (hn:mu ν μ' μ): ∀{es0 es:List (AV×AV)} {q:gX} {ms:List MapEntry},Fe ν es0 es=some q→bL E E' q→@ER E P μ es ms→@ER E' P μ' es0 ms
 |[],es,q,ms,h,he,hr=>by
  cases es<;>first |(cases h;done) |skip
  cases hr
  exact @ER.nil E' P μ'
 |x::a,es,q,ms,h,he,hr=>by
  cases es<;>first |(cases h;done) |skip
  rename_i y b
  obtain ⟨p,r,h3,h4,rfl⟩:=cg (show gN (bE ν x.1 y.1) (gN (bE ν x.2 y.2) (Fe ν a b))=some q from h)
  obtain ⟨p2,r2,h5,h6,rfl⟩:=cg h4
  cases hr with
  |cons k v m _ ms hk hv hs=>exact @ER.cons E' P μ' x.1 x.2 m a ms (cU hn h3 he.left hk) (cU hn h5 he.right.left hv) (sg hn h6 he.right.right hs)
theorem gO {k0 k:aY} {q:gX} (h:rb ν k0 k=some q):bO k=false∧bO k0=false∧writes k0=writes k:=by
 cases k0<;>cases k<;>first |(cases h;done) |exact ⟨rfl,rfl,rfl⟩ |skip
 ·obtain ⟨h1,_⟩:=aj.1 h
  simp only [V1] at h1
  exact ⟨rfl,rfl,eq_of_beq h1.1.1⟩
 ·obtain ⟨h1,_⟩:=aj.1 h
  simp only [V1] at h1
  exact ⟨rfl,rfl,eq_of_beq h1.1.1⟩
theorem pS (hn:mu ν μ' μ) {k0 k:aY} {q:gX} {w:World} {e:fx} (h:rb ν k0 k=some q) (he:bL E E' q) (hb: @BR E P N μ w k e): @BR E' P N μ' w k0 e:=by
 cases k0 with
 |cells own t len c=>
  cases k with
  |cells own' t' len' c'=>
   obtain ⟨h1,h2⟩:=aj.1 (show au (own==own'&&Vo t t'&&Vo len len') (Jw ν c c') none=some q from h)
   simp only [V1] at h1
   have e1:=eq_of_beq h1.1.1
   have e2:t=t':=VN h1.1.2
   have e3:len=len':=VN h1.2
   subst e1 e2 e3
   cases own with
   |true=>obtain ⟨g,sz,cur,q1,q2,q3,q4,q5,q6⟩:=hb;exact ⟨g,sz,cur,q1,q2,q3,q4,q5,sf hn h2 he q6⟩
   |false=>exact ⟨hb.1,hb.2.1,sf hn h2 he hb.2.2⟩
  |_=>cases h
 |map es=>
  cases k with
  |map fs=>obtain ⟨g,en,cl,q1,q2,q3,⟨l,q4,q5⟩,q6⟩:=hb;exact ⟨g,en,cl,q1,q2,q3,⟨l,q4,sg hn h he q5⟩,q6⟩
  |_=>cases h
 |fY l p=>
  cases k with
  |fY m r=>
   obtain ⟨h1,_⟩:=aj.1 (show au (wM l m&&Vo p r) (some []) none=some q from h)
   rw [V1,fK] at h1
   have e1:=eq_of_beq h1.1
   have e2:p=r:=VN h1.2
   subst e1 e2
   exact hb
  |_=>cases h
 |deferred d=>
  cases k with
  |deferred d'=>
   obtain ⟨h1,_⟩:=aj.1 (show au (d==d') (some []) none=some q from h)
   have e1:=eq_of_beq h1
   subst e1
   exact hb
  |_=>cases h
 |bY g kt ts x=>
  cases k with
  |bY g' ku us y=>
   obtain ⟨h1,h2⟩:=aj.1 (show au (g==g'&&lM kt ku&&bV ts us) (some [(x,y)]) none=some q from h)
   simp only [V1] at h1
   have e0:=eq_of_beq h1.1.1
   have e1:=kI h1.1.2
   have e2:=bW h1.2
   subst e0 e1 e2
   cases h2
   have e3:=he (x,y) (List.mem_singleton.2 rfl)
   obtain ⟨l,q1,q2,q3,G,ents,clock,ms,r1,r2,r3,r4,r5,r6⟩:=hb
   exact ⟨l,e3.trans q1,q2,q3,G,ents,clock,ms,r1,r2,r3,r4,r5.mono hn.fz,r6⟩
  |_=>cases h
 |vec own t ts n x=>
  cases k with
  |vec own' u us m y=>
   obtain ⟨h1,h2⟩:=aj.1 (show au (own==own'&&Vo t u&&bV ts us) (some [(n,m),(x,y)]) none=some q from h)
   simp only [V1] at h1
   have e1:=bW h1.2
   have e0:=VN h1.1.2
   have e4:=eq_of_beq h1.1.1
   subst e1 e0 e4
   cases h2
   have e2:=he (n,m) (V2 ..)
   have e3:=he (x,y) (V3 _ (V2 ..))
   obtain ⟨l,q1,q2,q3,q4⟩:=hb
   refine ⟨l,e3.trans q1,e2.trans q2,q3,q4.imp id fun ⟨g,cur,r1,r2,r3,r4,r5⟩=>⟨g,cur,r1,r2,r3,r4,fun j d hj=>let ⟨u,x1,x2,x3⟩:=r5 j d hj;⟨u,x1,x2.mono hn.fz,fun ho=>hn.fz _ _ (x3 ho)⟩⟩⟩
  |_=>cases h
 |loop lp=>
  cases k with
  |loop lq=>
   obtain ⟨h1,h2⟩:=aj.1 (show au (Jx lp.state lq.state&&DB lp.pending lq.pending&&Vo lp.n lq.n&&wM lp.params lq.params&&jc ν lp.defers lq.defers&&Vo lp.f lq.f&&lG lp.p lq.p) (ka ν true lp.tm lq.tm) none=some q from h)
   simp only [V1,fK] at h1
   obtain ⟨⟨⟨⟨⟨⟨q1,q2⟩,q4⟩,q5⟩,q6⟩,q7⟩,q8⟩:=h1
   obtain ⟨g,r,e1,e2,e3,⟨l1,l2,l3,l4,l5,l6,⟨en,d1,d2⟩,l8⟩⟩:=hb
   have s1:lp.state=lq.state:=by
    generalize lp.state=x at*
    generalize lq.state=y at*
    cases x<;>cases y<;>first |rfl |cases q1
   have s2:lp.pending=lq.pending:=by
    generalize lp.pending=x at*
    generalize lq.pending=y at*
    unfold DB at q2
    split at q2<;>first |rfl |(rw [VN q2]) |(cases q2)
   have s4:lp.n=lq.n:=VN q4
   have s5:lp.params=lq.params:=eq_of_beq q5
   have s7:lp.f=lq.f:=VN q7
   have s8:lp.p=lq.p:=dN q8
   exact ⟨g,r,e1,e2,e3,⟨l1.trans s1.symm,l2.trans s2.symm,my hn h2 he l3,l4.trans s4.symm,l5.trans s5.symm,l6,⟨en,(hn.at q6).trans d1,d2⟩,by rw [s7,s8];exact l8⟩⟩
  |_=>cases h
 |eE t ts n x i v=>
  cases k with
  |eE u us m y j v'=>
   obtain ⟨h1,h2⟩:=aj.1 (show au (Vo t u&&bV ts us) (gN (some [(n,m),(x,y),(i,j)]) (bE ν v v')) none=some q from h)
   rw [V1] at h1
   have e1:=bW h1.2
   have e0:=VN h1.1
   subst e1 e0
   obtain ⟨qa,qb,f1,f2,rfl⟩:=cg h2
   cases f1
   have e2:=he.left (n,m) (V2 ..)
   have e3:=he.left (x,y) (V3 _ (V2 ..))
   have e4:=he.left (i,j) (V3 _ (V3 _ (V2 ..)))
   obtain ⟨l,iv,q1,q2,q3,q4,q5,g,cur,V,r1,r2,r3,r4,r5,r6,r7,r8,r9⟩:=hb
   exact ⟨l,iv,e3.trans q1,e2.trans q2,q3,q4.imp fun _ q4=>e4.trans q4,q5,g,cur,V,r1,r2,r3,r4,fun j d hj hne=>let ⟨u,x1,x2⟩:=r5 j d hj hne;⟨u,x1,x2.mono hn.fz⟩,r6,r7,cU hn f2 he.right r8,m5 f2 r9⟩
  |_=>cases h
 |dead=>cases h
 |Cr m=>cases h
 |frozen o=>cases h
end
noncomputable def PK (b n:Pos):Bool:=Vv (Vt (wq b)) (wq n)
noncomputable def kW (ν:iD) (s0 s:St):List (Pos×Pos)→Option gX
 |[]=>some []
 |x::l=>ab (s0.h.get x.1) fun k0=>ab (s.h.get x.2) fun k=>au (PK x.1 s0.n) (gN (rb ν k0 k) (kW ν s0 s l)) none
noncomputable def pT (s0:St):List Pos→Option gX
 |[]=>some []
 |b::l=>ab (s0.h.get b) fun k0=>au (PK b s0.n) (gN (Jy k0) (pT s0 l)) none
noncomputable def GV (c:Pos) (l:List (Pos×Pos)):Bool:=@Vu (Pos×Pos) (fun _=>Bool) false (fun x _ ih=>au (lG x.2 c) true ih) l
noncomputable def n5:List (Pos×Pos)→Bool
 |[]=>true
 |x::l=>au (GV x.2 l) false (n5 l)
noncomputable def nz (l:List (Pos×Pos)):List Pos→Bool
 |[]=>true
 |b::z=>au (bR l b).isNone (nz l z) false
noncomputable def n6 (ν:iD):Nat→Bool
 |0=>true
 |n+1=>au (jc ν (pos n) (pos n)) (n6 ν n) false
noncomputable def Jz (ν:iD):Option Pos→Option Pos→Bool
 |none,o=>o.isNone
 |some b,o=>(match o with |some c=>jc ν b c |none=>false)
noncomputable def da (G:Nat) (ν:iD) (rd0 rd:Option Pos) (a0:aN) (s0:St) (a:aN) (s:St):Option gX:=
 au (n5 ν.r&&nz ν.r ν.z&&n6 ν G&&Vo a0.n a.n&&a0.defers.isEmpty&&a.defers.isEmpty&&a0.rc.isNone&&a.rc.isNone&&Jz ν rd0 rd)
  (gN (ka ν true a0.tm a.tm) (gN (kW ν s0 s ν.r) (pT s0 ν.z))) none
theorem mz: ∀p:Pos,wq p=p.toNat
 | .one=>rfl
 | .o p=>by show Vt (Nat.mul 2 (wq p))=2*p.toNat+1;rw [mz p];rfl
 | .i p=>by show Vt (Vt (Nat.mul 2 (wq p)))=2*p.toNat+2;rw [mz p];rfl
theorem DD {b n:Pos} (h:PK b n=true):b.toNat<n.toNat:=by
 have:=VQ h
 rw [mz,mz] at this
 exact this
theorem pU: ∀p:Pos,lG p p=true
 | .one=>rfl
 | .o p=>pU p
 | .i p=>pU p
theorem dE: ∀{l:List (Pos×Pos)} {b c:Pos},bR l b=some c→(b,c)∈l
 |[],b,c,h=>by cases h
 |x::l,b,c,h=>by
  replace h:au (lG x.1 b) (some x.2) (bR l b)=some c:=h
  cases hx:lG x.1 b with
  |true=>
   rw [hx] at h
   cases h
   rw [←dN hx]
   exact V2 ..
  |false=>rw [hx] at h;exact V3 _ (dE h)
theorem y0: ∀{l:List (Pos×Pos)} {b c:Pos},(b,c)∈l→GV c l=true
 |x::l,b,c,h=>by
  show au (lG x.2 c) true (GV c l)=true
  rcases List.mem_cons.1 h with rfl |h
  ·rw [pU]
  ·rw [y0 h]
   cases lG x.2 c<;>rfl
theorem n7: ∀{l:List (Pos×Pos)} {b b' c:Pos},n5 l=true→(b,c)∈l→(b',c)∈l→b=b'
 |x::l,b,b',c,h,h1,h2=>by
  replace h:au (GV x.2 l) false (n5 l)=true:=h
  cases hx:GV x.2 l with
  |true=>rw [hx] at h;cases h
  |false=>
   rw [hx] at h
   rcases List.mem_cons.1 h1 with e1 |h1
   ·rcases List.mem_cons.1 h2 with e2 |h2
    ·rw [←e1] at e2;cases e2;rfl
    ·rw [←e1,y0 h2] at hx;cases hx
   ·rcases List.mem_cons.1 h2 with e2 |h2
    ·rw [←e2,y0 h1] at hx;cases hx
    ·exact n7 h h1 h2
theorem BG: ∀{l:List (Pos×Pos)} {z:List Pos} {b:Pos},nz l z=true→gM z b=true→bR l b=none
 |l,[],b,h,hb=>by cases hb
 |l,x::z,b,h,hb=>by
  obtain ⟨h1,h2⟩:=bB (show au (bR l x).isNone (nz l z) false=true from h)
  replace hb:au (lG x b) true (gM z b)=true:=hb
  cases hx:lG x b with
  |true=>rw [←dN hx];exact Option.isNone_iff_eq_none.1 h1
  |false=>rw [hx] at hb;exact BG h2 hb
theorem xz {ν:iD}: ∀{n g:Nat},n6 ν n=true→g<n→jc ν (pos g) (pos g)=true
 |n+1,g,h,hg=>by
  obtain ⟨h1,h2⟩:=bB (show au (jc ν (pos n) (pos n)) (n6 ν n) false=true from h)
  by_cases e:g=n
  ·subst e;exact h1
  ·exact xz h2 (by omega)
theorem kX {E E':Env} {ν:iD} {s0 s:St}: ∀{l:List (Pos×Pos)} {q:gX} {b c:Pos},kW ν s0 s l=some q→bL E E' q→(b,c)∈l→
 ∃k0 k p,s0.h.get b=some k0∧s.h.get c=some k∧b.toNat<s0.n.toNat∧rb ν k0 k=some p∧bL E E' p
 |x::l,q,b,c,h,he,hm=>by
  obtain ⟨k0,h1,h2⟩:=aa.1 (show ab (s0.h.get x.1) (fun k0=>ab (s.h.get x.2) fun k=>au (PK x.1 s0.n) (gN (rb ν k0 k) (kW ν s0 s l)) none)=some q from h)
  obtain ⟨k,h3,h4⟩:=aa.1 h2
  obtain ⟨h5,h6⟩:=aj.1 h4
  obtain ⟨p,r,h7,h8,rfl⟩:=cg h6
  rcases List.mem_cons.1 hm with e |hm
  ·cases e
   exact ⟨k0,k,p,h1,h3,DD h5,h7,he.left⟩
  ·exact kX h8 he.right hm
theorem uL {E E':Env} {s0:St}: ∀{l:List Pos} {q:gX} {b:Pos},pT s0 l=some q→bL E E' q→gM l b=true→∃own t ts n x,s0.h.get b=some (.vec own t ts n x)∧b.toNat<s0.n.toNat∧@ev E' n= .int .i64 0∧@ev E' x= .aF []
 |[],q,b,h,he,hm=>by cases hm
 |y::l,q,b,h,he,hm=>by
  obtain ⟨k0,h1,h2⟩:=aa.1 (show ab (s0.h.get y) (fun k0=>au (PK y s0.n) (gN (Jy k0) (pT s0 l)) none)=some q from h)
  obtain ⟨h5,h6⟩:=aj.1 h2
  obtain ⟨p,r,h7,h8,rfl⟩:=cg h6
  replace hm:au (lG y b) true (gM l b)=true:=hm
  cases hx:lG y b with
  |true=>
   have:=dN hx
   subst this
   cases k0<;>first |(cases h7;done) |skip
   rename_i own t ts n x
   cases h7
   exact ⟨own,t,ts,n,x,h1,DD h5,he.left (n,.op .len [.op .nil []]) (V2 ..),he.left (x,.op .nil []) (V3 _ (V2 ..))⟩
  |false=>rw [hx] at hm;exact uL h8 he.right hm
noncomputable def fG (ν:iD) (μ:bw):bw:=⟨fun b=>match bR ν.r b with |some c=>μ c |none=>au (gM ν.z b) (some cz) none,μ.fz⟩
theorem rf {ν:iD} {μ:bw} {b c:Pos} (h:bR ν.r b=some c):fG ν μ b=μ c:=by
 show (match bR ν.r b with |some c=>μ c |none=>au (gM ν.z b) (some cz) none)=_
 rw [h]
theorem JA {ν:iD} {μ:bw} {b:Pos} (h:bR ν.r b=none) (hz:gM ν.z b=true):fG ν μ b=some cz:=by
 show (match bR ν.r b with |some c=>μ c |none=>au (gM ν.z b) (some cz) none)=_
 rw [h,hz]
theorem n8 {ν:iD} {μ:bw} {b:Pos} {e:fx} (h:fG ν μ b=some e):(∃c,bR ν.r b=some c∧μ c=some e)∨(bR ν.r b=none∧gM ν.z b=true∧e=cz):=by
 replace h:(match bR ν.r b with |some c=>μ c |none=>au (gM ν.z b) (some cz) none)=some e:=h
 cases hr:bR ν.r b with
 |some c=>rw [hr] at h;exact .inl ⟨c,rfl,h⟩
 |none=>
  rw [hr] at h
  obtain ⟨h1,h2⟩:=aj.1 (show au (gM ν.z b) (some cz) none=some e from h)
  cases h2
  exact .inr ⟨rfl,h1,rfl⟩
structure Alike (E E':Env):Prop where
 n: @Env.n E'= @Env.n E
 base: @Env.base E'= @Env.base E
 pos:0< @Env.n E
section
variable {E E':Env} {P:Program} {N:Nat} {ν:iD} {μ:bw} {a0 a:aN} {s0 s:St} {rd0 rd:Option Pos} {q:gX} {w:World}
theorem fE (h1:nz ν.r ν.z=true):mu ν (fG ν μ) μ:=⟨fun b c h=>rf h,fun b h=>JA (BG h1 h) h,fun _ _ h=>h⟩
theorem cM (hf:da P.globals.size ν rd0 rd a0 s0 a s=some q) (he:bL E E' q):n5 ν.r=true∧nz ν.r ν.z=true∧n6 ν P.globals.size=true∧a0.n=a.n∧a0.defers=[]∧a.defers=[]∧a0.rc=none∧a.rc=none∧Jz ν rd0 rd=true∧
 (∃p,ka ν true a0.tm a.tm=some p∧bL E E' p)∧(∃p,kW ν s0 s ν.r=some p∧bL E E' p)∧∃p,pT s0 ν.z=some p∧bL E E' p:=by
 obtain ⟨h1,h2⟩:=aj.1 hf
 simp only [V1] at h1
 obtain ⟨⟨⟨⟨⟨⟨⟨⟨c1,c2⟩,c3⟩,c4⟩,c5⟩,c6⟩,c7⟩,c8⟩,c9⟩:=h1
 obtain ⟨x,y,h3,h4,rfl⟩:=cg h2
 obtain ⟨x2,y2,h5,h6,rfl⟩:=cg h4
 exact ⟨c1,c2,c3,VN c4,List.isEmpty_iff.1 c5,List.isEmpty_iff.1 c6,Option.isNone_iff_eq_none.1 c7,Option.isNone_iff_eq_none.1 c8,c9,⟨x,h3,he.left⟩,⟨x2,h5,he.right.left⟩,y2,h6,he.right.right⟩
theorem dF (hf:da P.globals.size ν rd0 rd a0 s0 a s=some q) (he:bL E E' q) (hA:Alike E E') (hs: @SR E P N μ s w): @SR E' P N (fG ν μ) s0 w:=by
 obtain ⟨c1,c2,c3,c4,c5,c6,c7,c8,c9,_,⟨p2,r2,e2⟩,p3,r3,e3⟩:=cM hf he
 have hn:=fE (μ:=μ) c2
 have hNp:0<N:=VX hA.pos (@SR.hn E _ _ _ _ _ hs)
 have hN:=@SR.hN E _ _ _ _ _ hs
 have hblk: ∀b e,fG ν μ b=some e→∃k,s0.h.get b=some k∧@BR E' P N (fG ν μ) w k e∧b.toNat<s0.n.toNat∧((e=cz∧bR ν.r b=none)∨∃c k',bR ν.r b=some c∧μ c=some e∧s.h.get c=some k'∧bO k'=false∧writes k=writes k'):=by
  intro b e hb
  rcases n8 hb with ⟨c,h1,h2⟩ |⟨h1,h2,rfl⟩
  ·obtain ⟨k0,k,p,g1,g2,g3,g4,g5⟩:=kX r2 e2 (dE h1)
   obtain ⟨k',g6,g7⟩:=@SR.bU E _ _ _ _ _ hs c e h2
   rw [g2] at g6
   cases g6
   obtain ⟨d1,d2,d3⟩:=gO g4
   exact ⟨k0,g1,pS hn g4 g5 g7,g3,.inr ⟨c,k,h1,h2,g2,d1,d3⟩⟩
  ·obtain ⟨_,_,ts,n,x,g1,g2,g3,g4⟩:=uL r3 e3 h2
   exact ⟨_,g1,⟨[],g4,g3,⟨[],rfl,fun r hr=>absurd hr VS⟩,.inl ⟨rfl,hNp,VX hNp hN,rfl⟩⟩,g2,.inl ⟨rfl,h1⟩⟩
 refine ⟨fun b e hb=>let ⟨k,h1,h2,_⟩:=hblk b e hb;⟨k,h1,h2⟩,?_,fun b e hb=>let ⟨k,h1,h2,h3,_⟩:=hblk b e hb;h3,hN,fun g hg=>?_,?_,?_,fun ad v ha=>@SR.fW E _ _ _ _ _ hs ad v ha,?_⟩
 ·intro x y ex ey kx ky hx hy gx gy dx dy hNx hxy
  obtain ⟨k1,u1,u2,u3,u4⟩:=hblk x ex hx
  obtain ⟨k2,v1,v2,v3,v4⟩:=hblk y ey hy
  rcases u4 with ⟨rfl,_⟩ |⟨c,k',u5,u6,u7,u8,_⟩
  ·exact absurd (show N≤0 from hNx) (by omega)
  ·rcases v4 with ⟨rfl,_⟩ |⟨d,l',v5,v6,v7,v8,_⟩
   ·rw [hxy] at hNx;exact absurd (show N≤0 from hNx) (by omega)
   ·have:=@SR.inj E _ _ _ _ _ hs c d ex ey k' l' u6 v6 u7 v7 u8 v8 hNx hxy
    subst this
    exact n7 c1 (dE u5) (dE v5)
 ·exact (hn.at (xz c3 hg)).trans (@SR.eZ E _ _ _ _ _ hs g hg)
 ·rw [hA.n];exact @SR.hn E _ _ _ _ _ hs
 ·rw [hA.base];exact @SR.base E _ _ _ _ _ hs
 ·intro b e k hb hk hw hNb ad v ha
  obtain ⟨k1,u1,u2,u3,u4⟩:=hblk b e hb
  rw [hk] at u1
  cases u1
  rcases u4 with ⟨rfl,_⟩ |⟨c,k',u5,u6,u7,u8,u9⟩
  ·exact absurd (show N≤0 from hNb) (by omega)
  ·exact @SR.apart E _ _ _ _ _ hs c e k' u6 u7 (u9▸hw) hNb ad v ha
theorem kY (hf:da P.globals.size ν rd0 rd a0 s0 a s=some q) (he:bL E E' q) {ca:Act} (ha: @AR E P μ a ca): @AR E' P (fG ν μ) a0 ca:=by
 obtain ⟨c1,c2,c3,c4,c5,c6,c7,c8,c9,⟨p1,r1,e1⟩,_⟩:=cM hf he
 refine ⟨my (fE c2) r1 e1 (@AR.tm E _ _ _ _ ha),(@AR.size E _ _ _ _ ha).trans c4.symm,?_⟩
 have:=@AR.defers E _ _ _ _ ha
 rw [c6] at this
 rw [c5]
 generalize ca.defers=x at*
 cases this
 exact @yJ.nil E' P _
end
end
section
open Go Go.RowKit
noncomputable def rowAt (l:List (Pos×aY)) (x:Pos):Option aY:=@Vu (Pos×aY) (fun _=>Option aY) none (fun c _ ih=>au (lG c.1 x) (some c.2) ih) l
noncomputable def sT (t:Tr aY):List (Pos×aY)→Tr aY
 |[]=>t
 |x::l=>(sT t l).set x.1 x.2
noncomputable def iW (s:St) (rows:List (Pos×aY)) (n1:Pos):St:=⟨sT s.h rows,n1⟩
noncomputable def pW (bo:List Pos) (ν:iD) (n:Pos):List (Pos×Pos)→Bool
 |[]=>true
 |x::l=>au (au (jc ν x.2 x.1&&gM bo x.2) true (Vv (wq n) (wq x.1))) (pW bo ν n l) false
def y3:Option aY→Bool
 |some k=>bO k
 |none=>false
noncomputable def uM (ν':iD) (rows:List (Pos×aY)):List (Pos×Pos)→Bool
 |[]=>true
 |x::l=>au (au (bR ν'.r x.2).isSome true (y3 (rowAt rows x.2))) (uM ν' rows l) false
def y4:Option aY→Bool
 |some k=>writes k
 |none=>false
noncomputable def uN (ν ν':iD) (s:St):List (Pos×aY)→Bool
 |[]=>true
 |x::l=>au (au (bR ν'.r x.1).isSome true (au (bO x.2) (y4 (s.h.get x.1)) false)) (uN ν ν' s l) false
noncomputable def rh (G:Nat) (bo:List Pos) (ν ν':iD) (s:St) (a0:aN) (s0:St) (a1:aN) (rows:List (Pos×aY)) (n1:Pos):Option gX:=
 au (n5 ν'.r&&ν'.z.isEmpty&&n6 ν' G&&Vo a1.n a0.n&&a1.defers.isEmpty&&a0.defers.isEmpty&&a1.rc.isNone&&a0.rc.isNone&&Vv (wq s.n) (wq n1)&&pW bo ν s.n ν'.r&&uM ν' rows ν.r&&uN ν ν' s rows)
  (gN (ka ν' true a1.tm a0.tm) (kW ν' (iW s rows n1) s0 ν'.r)) none
theorem ri (t:Tr aY): ∀(l:List (Pos×aY)) (x:Pos),(sT t l).get x=match rowAt l x with |some k=>some k |none=>t.get x
 |[],x=>rfl
 |y::l,x=>by
  show ((sT t l).set y.1 y.2).get x=match au (lG y.1 x) (some y.2) (rowAt l x) with |some k=>some k |none=>t.get x
  rw [ji]
  by_cases h:y.1=x
  ·subst h;rw [if_pos rfl,pU]
  ·rw [if_neg h,ri t l x]
   cases he:lG y.1 x with
   |true=>exact absurd (dN he) h
   |false=>rfl
theorem n9 {bo:List Pos} {ν:iD} {n:Pos}: ∀{l:List (Pos×Pos)} {b c:Pos},pW bo ν n l=true→(b,c)∈l→(jc ν c b=true∧gM bo c=true)∨n.toNat≤b.toNat
 |x::l,b,c,h,hm=>by
  obtain ⟨h1,h2⟩:=bB (show au (au (jc ν x.2 x.1&&gM bo x.2) true (Vv (wq n) (wq x.1))) (pW bo ν n l) false=true from h)
  rcases List.mem_cons.1 hm with e |hm
  ·cases e
   cases hp:(jc ν c b&&gM bo c) with
   |true=>exact .inl (by rwa [V1] at hp)
   |false=>
    simp only [hp] at h1
    have:=VQ (show Vv (wq n) (wq b)=true from h1)
    rw [mz,mz] at this
    exact .inr this
  ·exact n9 h2 hm
theorem xA {ν':iD} {rows:List (Pos×aY)}: ∀{l:List (Pos×Pos)} {b c:Pos},uM ν' rows l=true→(b,c)∈l→(bR ν'.r c).isSome=true∨∃k,rowAt rows c=some k∧bO k=true
 |x::l,b,c,h,hm=>by
  obtain ⟨h1,h2⟩:=bB (show au (au (bR ν'.r x.2).isSome true (y3 (rowAt rows x.2))) (uM ν' rows l) false=true from h)
  rcases List.mem_cons.1 hm with e |hm
  ·cases e
   cases hp:(bR ν'.r c).isSome with
   |true=>exact .inl rfl
   |false=>
    simp only [hp] at h1
    replace h1:y3 (rowAt rows c)=true:=h1
    cases hr:rowAt rows c with
    |none=>rw [hr] at h1;cases h1
    |some k=>rw [hr] at h1;exact .inr ⟨k,rfl,h1⟩
  ·exact xA h2 hm
theorem rj {ν ν':iD} {s:St}: ∀{l:List (Pos×aY)} {x:Pos} {k:aY},uN ν ν' s l=true→rowAt l x=some k→(bR ν'.r x).isSome=true∨(bO k=true∧∃k',s.h.get x=some k'∧writes k'=true)
 |[],x,k,h,hr=>by cases hr
 |y::l,x,k,h,hr=>by
  obtain ⟨h1,h2⟩:=bB (show au (au (bR ν'.r y.1).isSome true (au (bO y.2) (y4 (s.h.get y.1)) false)) (uN ν ν' s l) false=true from h)
  replace hr:au (lG y.1 x) (some y.2) (rowAt l x)=some k:=hr
  cases he:lG y.1 x with
  |true=>
   rw [he] at hr
   cases hr
   have:=dN he
   subst this
   cases hp:(bR ν'.r y.1).isSome with
   |true=>exact .inl rfl
   |false=>
    simp only [hp] at h1
    obtain ⟨h3,h4⟩:=bB (show au (bO y.2) (y4 (s.h.get y.1)) false=true from h1)
    cases hg:s.h.get y.1 with
    |none=>rw [hg] at h4;cases h4
    |some k'=>rw [hg] at h4;exact .inr ⟨h3,k',rfl,h4⟩
  |false=>rw [he] at hr;exact rj h2 hr
theorem BR.wr [Env] {P:Program} {N:Nat} {μ:bw} {w:World} {k:aY} {e:fx} (hw:writes k=true) (h:BR P N μ w k e):N≤e.a.block∨(e=cz∧0<N):=by
 cases k with
 |cells own t len c=>cases own with
  |true=>obtain ⟨g,sz,cur,rfl,hN,_⟩:=h;exact .inl hN
  |false=>cases hw
 |map es=>obtain ⟨g,en,cl,rfl,hN,_⟩:=h;exact .inl hN
 |fY s p=>obtain ⟨g,bs,rfl,hN,_⟩:=h;exact .inl hN
 |loop lp=>obtain ⟨g,r,rfl,hN,_⟩:=h;exact .inl hN
 |deferred d=>obtain ⟨g,rfl,hN,_⟩:=h;exact .inl hN
 |dead=>cases hw
 |Cr m=>obtain ⟨g,rfl,hN,_⟩:=h;exact .inl hN
 |frozen o=>obtain ⟨g,rfl,hN,_⟩:=h;exact .inl hN
 |bY g kt ts x=>obtain ⟨l,_,_,_,G,ents,clock,ms,rfl,hN,_⟩:=h;exact .inl hN
 |eE t ts n x i v=>obtain ⟨l,iv,_,_,_,_,_,g,cur,V,rfl,hN,_⟩:=h;exact .inl hN
 |vec own t ts n x=>obtain ⟨l,_,_,_,⟨rfl,h,_⟩ |⟨g,cur,rfl,hN,_⟩⟩:=h<;>first |exact .inr ⟨rfl,h⟩ |exact .inl hN
noncomputable def uO (ν':iD) (μ0 μ:bw):bw:=⟨fun b=>match bR ν'.r b with |some c=>μ0 c |none=>μ b,μ0.fz⟩
theorem eU {ν':iD} {μ0 μ:bw} {b c:Pos} (h:bR ν'.r b=some c):uO ν' μ0 μ b=μ0 c:=by
 show (match bR ν'.r b with |some c=>μ0 c |none=>μ b)=_
 rw [h]
theorem eV {ν':iD} {μ0 μ:bw} {b:Pos} (h:bR ν'.r b=none):uO ν' μ0 μ b=μ b:=by
 show (match bR ν'.r b with |some c=>μ0 c |none=>μ b)=_
 rw [h]
section
variable {E E':Env} {P:Program} {N:Nat} {ν ν':iD} {μ:bw} {a0 a a0' a1:aN} {s0 s s0':St} {rd0 rd:Option Pos} {q q':gX} {w w':World} {rows:List (Pos×aY)} {n1:Pos} {μ0':bw} {bo:List Pos}
theorem xB (hf:rh P.globals.size bo ν ν' s a0' s0' a1 rows n1=some q') (he:bL E' E q'):
 n5 ν'.r=true∧ν'.z=[]∧n6 ν' P.globals.size=true∧a1.n=a0'.n∧a1.defers=[]∧a0'.defers=[]∧a1.rc=none∧a0'.rc=none∧s.n.toNat≤n1.toNat∧pW bo ν s.n ν'.r=true∧uM ν' rows ν.r=true∧uN ν ν' s rows=true∧
 (∃p,ka ν' true a1.tm a0'.tm=some p∧bL E' E p)∧∃p,kW ν' (iW s rows n1) s0' ν'.r=some p∧bL E' E p:=by
 obtain ⟨h1,h2⟩:=aj.1 hf
 simp only [V1] at h1
 obtain ⟨⟨⟨⟨⟨⟨⟨⟨⟨⟨⟨c1,c2⟩,c3⟩,c4⟩,c5⟩,c6⟩,c7⟩,c8⟩,c9⟩,c10⟩,c11⟩,c12⟩:=h1
 obtain ⟨x,y,h3,h4,rfl⟩:=cg h2
 have:=VQ c9
 rw [mz,mz] at this
 exact ⟨c1,List.isEmpty_iff.1 c2,c3,VN c4,List.isEmpty_iff.1 c5,List.isEmpty_iff.1 c6,Option.isNone_iff_eq_none.1 c7,Option.isNone_iff_eq_none.1 c8,this,c10,c11,c12,⟨x,h3,he.left⟩,y,h4,he.right⟩
theorem mA (hf:da P.globals.size ν rd0 rd a0 s0 a s=some q) (he:bL E E' q) {b:Pos} {e:fx} (hb:fG ν μ b=some e):
 e=cz∨∃c k',bR ν.r b=some c∧μ c=some e∧s.h.get c=some k'∧bO k'=false:=by
 obtain ⟨_,_,_,_,_,_,_,_,_,_,⟨p2,r2,e2⟩,_⟩:=cM hf he
 rcases n8 hb with ⟨c,h1,h2⟩ |⟨_,_,rfl⟩
 ·obtain ⟨k0,k,p,g1,g2,g3,g4,g5⟩:=kX r2 e2 (dE h1)
  exact .inr ⟨c,k,h1,h2,g2,(gO g4).1⟩
 ·exact .inl rfl
structure Way (N:Nat) (μ:bw) (w:World) (μ':bw) (w':World) (bo:List Pos):Prop where
 ev:Ev N μ w w'
 new: ∀b e,μ' b=some e→w.heap.size≤e.a.block∨∃b₀ e₀,μ b₀=some e₀∧e₀.a.block=e.a.block
 fz: ∀ad v,μ.fz ad=some v→μ'.fz ad=some v
 fZ: ∀ad v,μ'.fz ad=some v→μ.fz ad=some v∨w.heap.size≤ad.block∨∃b₀ e₀,μ b₀=some e₀∧e₀.a.block=ad.block
 bo: ∀b,gM bo b=true→μ' b=μ b
theorem BH {E2:Env} (hG0:0<P.globals.size) (hA:Alike E E') (hf:da P.globals.size ν rd0 rd a0 s0 a s=some q) (he:bL E E2 q) (hs: @SR E P N μ s w)
 (hfo:rh P.globals.size bo ν ν' s a0' s0' a1 rows n1=some q') (he':bL E' E q') (hsr0: @SR E' P N μ0' s0' w') (hext:Way N (fG ν μ) w μ0' w' bo):
 mu ν' (uO ν' μ0' μ) μ0'∧@bF E P N μ s w (uO ν' μ0' μ) (iW s rows n1) w':=by
 obtain ⟨c1,c2,c3,c4,c5,c6,c7,c8,c9,c10,c11,c12,_,p2,r2,e2⟩:=xB hfo he'
 obtain ⟨f1,f2,f3,_,_,_,_,_,_,_,⟨p3,r3,e3⟩,_⟩:=cM hf he
 have hNp:0<N:=VX hA.pos (@SR.hn E _ _ _ _ _ hs)
 have hn0:=fE (μ:=μ) f2
 have hev:=hext.ev
 have hNm:mu ν' (uO ν' μ0' μ) μ0':=⟨fun b c h=>eU h,fun b h=>(by rw [c2] at h;cases h),fun _ _ h=>h⟩
 have key: ∀b1 b0 e,bR ν'.r b1=some b0→μ0' b0=some e→μ b1=some e∨s.n.toNat≤b1.toNat:=by
  intro b1 b0 e h1 h2
  rcases n9 c10 (dE h1) with ⟨h,h4⟩ |h
  ·exact .inl ((hn0.at h).symm.trans ((hext.bo b0 h4).symm.trans h2))
  ·exact .inr h
 have hsub:Sub μ (uO ν' μ0' μ):=by
  refine ⟨fun b e hb=>?_,fun ad v h=>hext.fz ad v h⟩
  cases hr:bR ν'.r b with
  |none=>rw [eV hr];exact hb
  |some b0=>
   rw [eU hr]
   rcases n9 c10 (dE hr) with ⟨h,h4⟩ |h
   ·exact (hext.bo b0 h4).trans ((hn0.at h).trans hb)
   ·have:=@SR.lt E _ _ _ _ _ hs b e hb
    omega
 have hlt: ∀b e,μ b=some e→e.a.block<w.heap.size:=fun b e hb=>by obtain ⟨k,_,hbr⟩:=@SR.bU E _ _ _ _ _ hs b e hb;exact @BR.lt E _ _ _ _ _ _ hbr
 have phys: ∀b0 e,μ0' b0=some e→N≤e.a.block→w.heap.size≤e.a.block∨∃b c k e',bR ν.r b=some c∧μ c=some e'∧e'.a.block=e.a.block∧s.h.get c=some k∧bO k=false:=by
  intro b0 e h hNe
  rcases hext.new b0 e h with h1 |⟨b,e',h1,h2⟩
  ·exact .inl h1
  ·rcases mA hf he h1 with rfl |⟨c,k,g1,g2,g3,g4⟩
   ·rw [←h2] at hNe;exact absurd (show N≤0 from hNe) (by omega)
   ·exact .inr ⟨b,c,k,e',g1,g2,h2,g3,g4⟩
 have stay: ∀x k,bR ν'.r x=none→(iW s rows n1).h.get x=some k→bO k=false→s.h.get x=some k∧∀b,bR ν.r b≠some x:=by
  intro x k hr hk hd
  have hget:(iW s rows n1).h.get x=match rowAt rows x with |some k=>some k |none=>s.h.get x:=ri s.h rows x
  rw [hk] at hget
  cases hrow:rowAt rows x with
  |some k'=>
   rw [hrow] at hget
   cases hget
   rcases rj c12 hrow with h |⟨h,_⟩
   ·rw [hr] at h;cases h
   ·rw [hd] at h;cases h
  |none=>
   rw [hrow] at hget
   refine ⟨hget.symm,fun b hb=>?_⟩
   rcases xA c11 (dE hb) with h |⟨k',h,_⟩
   ·rw [hr] at h;cases h
   ·rw [hrow] at h;cases h
 have far: ∀x ex k,bR ν'.r x=none→μ x=some ex→(iW s rows n1).h.get x=some k→bO k=false→N≤ex.a.block→∀b e,fG ν μ b=some e→e.a.block≠ex.a.block:=by
  intro x ex k hr hx hk hd hNx b e hb heq
  obtain ⟨h1,h2⟩:=stay x k hr hk hd
  rcases mA hf he hb with rfl |⟨c,k',g1,g2,g3,g4⟩
  ·rw [←heq] at hNx;exact absurd (show N≤0 from hNx) (by omega)
  ·have:=@SR.inj E _ _ _ _ _ hs c x e ex k' k g2 hx g3 h1 g4 hd (heq▸hNx) heq
   subst this
   exact h2 b g1
 have row: ∀b1 b0,bR ν'.r b1=some b0→∃k1 k0 p,(iW s rows n1).h.get b1=some k1∧s0'.h.get b0=some k0∧b1.toNat<n1.toNat∧rb ν' k1 k0=some p∧bL E' E p:=fun b1 b0 h=>kX r2 e2 (dE h)
 have hsr: @SR E P N (uO ν' μ0' μ) (iW s rows n1) w':=by
  refine @SR.mk E P N (uO ν' μ0' μ) (iW s rows n1) w' (fun b e hb=>?_) ?_ (fun b e hb=>?_) (VZ (@SR.hN E _ _ _ _ _ hs) hev.size) (fun g hg=>hsub _ _ (@SR.eZ E _ _ _ _ _ hs g hg)) (@SR.hn E _ _ _ _ _ hs) ?_ (fun ad v ha=>@SR.fW E' _ _ _ _ _ hsr0 ad v ha) ?_
  ·cases hr:bR ν'.r b with
   |some b0=>
    rw [eU hr] at hb
    obtain ⟨k1,k0,p,g1,g2,g3,g4,g5⟩:=row b b0 hr
    obtain ⟨k,g6,g7⟩:=@SR.bU E' _ _ _ _ _ hsr0 b0 e hb
    rw [g2] at g6
    cases g6
    exact ⟨k1,g1,pS hNm g4 g5 g7⟩
   |none=>
    rw [eV hr] at hb
    obtain ⟨k,g1,g2⟩:=@SR.bU E _ _ _ _ _ hs b e hb
    have hget:(iW s rows n1).h.get b=match rowAt rows b with |some k=>some k |none=>s.h.get b:=ri s.h rows b
    cases hrow:rowAt rows b with
    |some k'=>
     rw [hrow] at hget
     refine ⟨k',hget,?_⟩
     rcases rj c12 hrow with h |⟨h,k2,h3,h4⟩
     ·rw [hr] at h;cases h
     ·cases k'<;>first |(cases h;done) |skip
      rw [g1] at h3
      cases h3
      exact ⟨@BR.wr E _ _ _ _ _ _ h4 g2,VX (@BR.lt E _ _ _ _ _ _ g2) hev.size⟩
    |none=>
     rw [hrow] at hget
     refine ⟨k,hget.trans g1,@BR.bo E _ _ _ _ _ _ _ _ g2 hsub hev.size fun hd=>?_⟩
     by_cases hNe:N≤e.a.block
     ·exact hev.same _ (@BR.lt E _ _ _ _ _ _ g2) (.inr (far b e k hr hb (hget.trans g1) hd hNe))
     ·exact hev.same _ (@BR.lt E _ _ _ _ _ _ g2) (.inl (by omega))
  ·intro x y ex ey kx ky hx hy gx gy dx dy hNx hxy
   cases hrx:bR ν'.r x with
   |some b0=>
    rw [eU hrx] at hx
    obtain ⟨k1,k0,p,g1,g2,g3,g4,g5⟩:=row x b0 hrx
    cases hry:bR ν'.r y with
    |some c0=>
     rw [eU hry] at hy
     obtain ⟨l1,l0,p',v1,v2,v3,v4,v5⟩:=row y c0 hry
     have:=@SR.inj E' _ _ _ _ _ hsr0 b0 c0 ex ey k0 l0 hx hy g2 v2 (gO g4).1 (gO v4).1 hNx hxy
     subst this
     exact n7 c1 (dE hrx) (dE hry)
    |none=>
     rw [eV hry] at hy
     exfalso
     rcases phys b0 ex hx hNx with h |⟨b,c,k,e',q1,q2,q3,q4,q5⟩
     ·have:=hlt y ey hy
      omega
     ·exact far y ey ky hry hy gy dy (hxy▸hNx) b e' ((rf q1).trans q2) (q3.trans hxy)
   |none=>
    rw [eV hrx] at hx
    cases hry:bR ν'.r y with
    |some c0=>
     rw [eU hry] at hy
     exfalso
     rcases phys c0 ey hy (hxy▸hNx) with h |⟨b,c,k,e',q1,q2,q3,q4,q5⟩
     ·have:=hlt x ex hx
      omega
     ·exact far x ex kx hrx hx gx dx hNx b e' ((rf q1).trans q2) (q3.trans hxy.symm)
    |none=>
     rw [eV hry] at hy
     exact @SR.inj E _ _ _ _ _ hs x y ex ey kx ky hx hy (stay x kx hrx gx dx).1 (stay y ky hry gy dy).1 dx dy hNx hxy
  ·cases hr:bR ν'.r b with
   |some b0=>obtain ⟨k1,k0,p,g1,g2,g3,g4,g5⟩:=row b b0 hr;exact g3
   |none=>
    rw [eV hr] at hb
    exact VX (@SR.lt E _ _ _ _ _ hs b e hb) c9
  ·have:=@SR.base E' _ _ _ _ _ hsr0
   rw [hA.base] at this
   exact this
  ·intro b e k hb hk hw hNe ad v ha
   cases hr:bR ν'.r b with
   |some b0=>
    rw [eU hr] at hb
    obtain ⟨k1,k0,p,g1,g2,g3,g4,g5⟩:=row b b0 hr
    rw [hk] at g1
    cases g1
    exact @SR.apart E' _ _ _ _ _ hsr0 b0 e k0 hb g2 ((gO g4).2.2▸hw) hNe ad v ha
   |none=>
    rw [eV hr] at hb
    have hd:bO k=false:=by cases k<;>first |rfl |cases hw
    rcases hext.fZ ad v ha with h |h |⟨b0,e0,h1,h2⟩
    ·exact @SR.apart E _ _ _ _ _ hs b e k hb (stay b k hr hk hd).1 hw hNe ad v h
    ·have:=hlt b e hb
     omega
    ·rw [←h2]
     exact far b e k hr hb hk hd hNe b0 e0 h1
 refine ⟨hNm,@bF.mk E P N μ s w (uO ν' μ0' μ) (iW s rows n1) w' ⟨hsub,fun b e hb=>?_,fun ad v ha=>?_⟩ (fun b e hb=>?_) c9 ⟨hev.os,hev.tape,hev.output,hev.size,fun j hj hc=>hev.same j hj ?_⟩ hsr⟩
 ·cases hr:bR ν'.r b with
  |none=>rw [eV hr] at hb;exact .inr ⟨b,e,hb,rfl⟩
  |some b0=>
   rw [eU hr] at hb
   rcases hext.new b0 e hb with h |⟨b',e',h1,h2⟩
   ·exact .inl h
   ·rcases mA hf he h1 with rfl |⟨c,k,g1,g2,g3,g4⟩
    ·exact .inr ⟨pos 0,_,@SR.eZ E _ _ _ _ _ hs 0 hG0,h2⟩
    ·exact .inr ⟨c,e',g2,h2⟩
 ·rcases hext.fZ ad v ha with h |h |⟨b',e',h1,h2⟩
  ·exact .inl h
  ·exact .inr (.inl h)
  ·rcases mA hf he h1 with rfl |⟨c,k,g1,g2,g3,g4⟩
   ·exact .inr (.inr ⟨pos 0,_,@SR.eZ E _ _ _ _ _ hs 0 hG0,h2⟩)
   ·exact .inr (.inr ⟨c,e',g2,h2⟩)
 ·cases hr:bR ν'.r b with
  |none=>rw [eV hr] at hb;exact .inl hb
  |some b0=>rw [eU hr] at hb;exact key b b0 e hr hb
 ·rcases hc with hc |hc
  ·exact .inl hc
  ·refine .inr fun b e hb=>?_
   rcases mA hf he hb with rfl |⟨c,k,g1,g2,g3,g4⟩
   ·have:=hc (pos 0) ⟨⟨0,0,none⟩,none⟩ (@SR.eZ E _ _ _ _ _ hs 0 hG0)
    exact this
   ·exact hc c e g2
end
end
section
open Go Go.RowKit
def gY (E Eo:Env) (P:Program) (N:Nat) (rd:Option Pos) (c:Code) (a0:aN) (s0:St) (x:g9) (ao:aN) (so:St) (bo:List Pos):Prop:=
 ∀μ w b X u k ca,@SR E P N μ s0 w→@AR E P μ a0 ca→@RR E P μ X a0.rc u→b.kind=X.kind→yR μ rd b.roundOf→(∃fn,P.funcs[b.fn]? =some fn)→
  ∀m,Go.step P m= .next (lone (b.atR ca (.code c::.inLoop c::k)) (X.cs u) w)→
   ∃μo w' ca' u',@SR Eo P N μo so w'∧@AR Eo P μo ao ca'∧@RR Eo P μo X ao.rc u'∧@T4 Eo P b X k m μo ca' u' w' x∧Way N μ w μo w' bo
def kc:g9→Bool
 | .exit _=>true
 | .ret=>true
 |_=>false
noncomputable def dc (ν:iD):List Pos→Bool
 |[]=>true
 |b::l=>au (jc ν b b) (dc ν l) false
noncomputable def iX (n:Pos):List Pos→Bool
 |[]=>true
 |b::l=>au (PK b n) (iX n l) false
theorem xC {ν:iD}: ∀{l:List Pos} {b:Pos},dc ν l=true→gM l b=true→jc ν b b=true
 |x::l,b,h,hb=>by
  obtain ⟨h1,h2⟩:=bB (show au (jc ν x x) (dc ν l) false=true from h)
  replace hb:au (lG x b) true (gM l b)=true:=hb
  cases he:lG x b with
  |true=>rw [←dN he];exact h1
  |false=>rw [he] at hb;exact xC h2 hb
theorem xD {n:Pos}: ∀{l:List Pos} {b:Pos},iX n l=true→gM l b=true→b.toNat<n.toNat
 |x::l,b,h,hb=>by
  obtain ⟨h1,h2⟩:=bB (show au (PK x n) (iX n l) false=true from h)
  replace hb:au (lG x b) true (gM l b)=true:=hb
  cases he:lG x b with
  |true=>rw [←dN he];exact DD h1
  |false=>rw [he] at hb;exact xD h2 hb
section
variable {P:Program} {N:Nat} {bo:List Pos} {w w' w'':World} {μ μ' μ'':bw} {ν:iD}
theorem Way.sU [E:Env] {σ σ':St} (h:bF P N μ σ w μ' σ' w') (hk:iX σ.n bo=true):Way N μ w μ' w' bo:=by
 refine ⟨h.ev,h.ext.new,h.ext.sub.fz,h.ext.fZ,fun b hb=>?_⟩
 cases hm:μ b with
 |some e=>exact h.ext.sub b e hm
 |none=>
  cases hm':μ' b with
  |none=>rfl
  |some e=>
   rcases h.fresh b e hm' with q |q
   ·rw [hm] at q;cases q
   ·have:=xD hk hb;omega
theorem Way.trans (h:Way N μ w μ' w' bo) (k:Way N μ' w' μ'' w'' bo):Way N μ w μ'' w'' bo:=by
 refine ⟨⟨k.ev.os.trans h.ev.os,k.ev.tape.trans h.ev.tape,k.ev.output.trans h.ev.output,VZ h.ev.size k.ev.size,fun j hj hc=>?_⟩,fun b e hb=>?_,fun ad v ha=>k.fz ad v (h.fz ad v ha),fun ad v ha=>?_,fun b hb=>(k.bo b hb).trans (h.bo b hb)⟩
 ·refine (k.ev.same j (VX hj h.ev.size) ?_).trans (h.ev.same j hj hc)
  rcases hc with hc |hc
  ·exact .inl hc
  ·refine .inr fun b e hb hne=>?_
   rcases h.new b e hb with h1 |⟨b₀,e₀,h1,h2⟩
   ·omega
   ·exact hc b₀ e₀ h1 (h2.trans hne)
 ·rcases k.new b e hb with h1 |⟨b₀,e₀,h1,h2⟩
  ·exact .inl (VZ h.ev.size h1)
  ·rcases h.new b₀ e₀ h1 with h3 |⟨b₁,e₁,h3,h4⟩
   ·exact .inl (h2▸h3)
   ·exact .inr ⟨b₁,e₁,h3,h4.trans h2⟩
 ·rcases k.fZ ad v ha with h1 |h1 |⟨b₀,e₀,h1,h2⟩
  ·exact h.fZ ad v h1
  ·exact .inr (.inl (VZ h.ev.size h1))
  ·rcases h.new b₀ e₀ h1 with h3 |⟨b₁,e₁,h3,h4⟩
   ·exact .inr (.inl (h2▸h3))
   ·exact .inr (.inr ⟨b₁,e₁,h3,h4.trans h2⟩)
theorem sV (hg:μ (pos 0)=some ⟨⟨0,0,none⟩,none⟩) {b:Pos} {e:fx} (h:fG ν μ b=some e): ∃b₀ e₀,μ b₀=some e₀∧e₀.a.block=e.a.block:=by
 rcases n8 h with ⟨c,_,h2⟩ |⟨_,_,rfl⟩
 ·exact ⟨c,e,h2,rfl⟩
 ·exact ⟨pos 0,_,hg,rfl⟩
theorem xE (hk:dc ν bo=true) {b:Pos} (hb:gM bo b=true) (hz:nz ν.r ν.z=true):fG ν μ b=μ b:=(fE (μ:=μ) hz).at (xC hk hb)
theorem Way.post (h:Way N μ w μ' w' bo) (hg:μ' (pos 0)=some ⟨⟨0,0,none⟩,none⟩) (hk:dc ν bo=true) (hz:nz ν.r ν.z=true):Way N μ w (fG ν μ') w' bo:=by
 refine ⟨h.ev,fun b e hb=>?_,h.fz,h.fZ,fun b hb=>(xE hk hb hz).trans (h.bo b hb)⟩
 obtain ⟨b₀,e₀,h1,h2⟩:=sV hg hb
 rcases h.new b₀ e₀ h1 with h3 |⟨b₁,e₁,h3,h4⟩
 ·exact .inl (h2▸h3)
 ·exact .inr ⟨b₁,e₁,h3,h4.trans h2⟩
theorem Way.pre (h:Way N (fG ν μ) w μ' w' bo) (hg:μ (pos 0)=some ⟨⟨0,0,none⟩,none⟩) (hk:dc ν bo=true) (hz:nz ν.r ν.z=true):Way N μ w μ' w' bo:=by
 refine ⟨⟨h.ev.os,h.ev.tape,h.ev.output,h.ev.size,fun j hj hc=>h.ev.same j hj (hc.imp id fun hc b e hb=>?_)⟩,fun b e hb=>?_,h.fz,fun ad v ha=>?_,fun b hb=>(h.bo b hb).trans (xE hk hb hz)⟩
 ·obtain ⟨b₀,e₀,h1,h2⟩:=sV hg hb
  rw [←h2];exact hc b₀ e₀ h1
 ·rcases h.new b e hb with h1 |⟨b₁,e₁,h1,h2⟩
  ·exact .inl h1
  ·obtain ⟨b₀,e₀,h3,h4⟩:=sV hg h1
   exact .inr ⟨b₀,e₀,h3,h4.trans h2⟩
 ·rcases h.fZ ad v ha with h1 |h1 |⟨b₁,e₁,h1,h2⟩
  ·exact .inl h1
  ·exact .inr (.inl h1)
  ·obtain ⟨b₀,e₀,h3,h4⟩:=sV hg h1
   exact .inr (.inr ⟨b₀,e₀,h3,h4.trans h2⟩)
end
section
variable {P:Program} {N:Nat} {bo:List Pos} {ν νo:iD} {orc:NV} {f:FuncId} {p:Pos} {c:Code} {rd:Option Pos} {n:Nat} {a0 s0 a1 s1 ao so:_} {x:g9} {q qo:gX}
theorem mB {E E':Env} {μ μ':bw} {X:Cx} {m m':Option cE} {u:FrameMode} (h: @RR E P μ X m u) (hm:m=none) (hm':m'=none): @RR E' P μ' X m' u:=by
 subst hm hm'
 cases h
 exact @RR.norm E' P μ' _ _
theorem MM {E E':Env} {b:Frame} {X:Cx} {k:List Item} {m:Machine} {μ μ':bw} {ca:Act} {u:FrameMode} {w:World} {x:g9} (hx:kc x=true) (h: @T4 E P b X k m μ ca u w x): @T4 E' P b X k m μ' ca u w x:=by
 cases x<;>first |(cases hx;done) |exact h
theorem jr {ν:iD} {μ:bw} {rd0 rd:Option Pos} {ro:Option Nat} (h:Jz ν rd0 rd=true) (hz:nz ν.r ν.z=true) (hr:yR μ rd ro):yR (fG ν μ) rd0 ro:=by
 cases rd0 with
 |none=>
  have:rd=none:=Option.isNone_iff_eq_none.1 h
  subst this
  cases hr
  exact .none
 |some b=>
  cases rd with
  |none=>cases h
  |some d=>
   cases hr with
   |some _ g hl=>exact .some b g (((fE hz).at (show jc ν b d=true from h)).trans hl)
theorem xF {E Er Eo:Env} (hP:cB P) (hG0:0<P.globals.size) (hA:Alike E Er) (hB:Alike Er Eo) (ho: @jW Er P orc.call) (hh: @sE Er P N orc.loop) (hat:cF P f p=some (.loop c))
 (hfi:da P.globals.size νo rd rd a0 s0 a0 s0=some qo) (hei:bL E Er qo) (hki:dc νo bo=true)
 (hr: @jN Er.toGam P orc.loop f c (.o p) rd (@run Er.toGam P orc n) a0 s0=some (.at x a1 s1)) (hx:kc x=true) (hf:da P.globals.size ν none none ao so a1 s1=some q) (he:bL Er Eo q) (hk:dc ν bo=true) (hkl:iX s0.n bo=true):
 gY E Eo P N rd c a0 s0 x ao so bo:=by
 intro μ w b X u k ca hs ha hX hkd hrd hfn m hm
 have hg0:=@SR.eZ E _ _ _ _ _ hs 0 hG0
 obtain ⟨_,d2,_,_,_,_,d7,d8,d9,_⟩:=cM hfi hei
 have hrec:=@kV Er P N hP orc ho hh n
 have:=@iT Er P N hP _ hrec (@m0 Er P N hP _ hrec) orc.loop hh f c (.o p) (fe hat rfl) rd a0 s0 _ hr (fG νo μ) w b X u (.inLoop c::k) ca (dF hfi hei hA hs) (kY hfi hei ha) (mB hX d7 d7) hkd (jr d9 d2 hrd) hfn
 obtain ⟨μ',w',ca',u',h1,h2,h3,h4⟩:=this
 obtain ⟨c1,c2,_,_,_,_,c7,c8,_⟩:=cM hf he
 have hsr:=@bF.sr Er _ _ _ _ _ _ _ _ h1
 refine ⟨fG ν μ',w',ca',u',dF hf he hB hsr,kY hf he h2,mB h3 c8 c7,?_,((@Way.sU P N bo w w' _ μ' Er _ _ h1 hkl).post (@SR.eZ Er _ _ _ _ _ hsr 0 hG0) hk c2).pre hg0 hki d2⟩
 cases x<;>first |(cases hx;done) |skip
 ·obtain ⟨k1,h5,h6⟩:=h4
  exact ⟨k1,h5,(Zt hm).trans h6⟩
 ·obtain ⟨k1,h6⟩:=h4
  exact ⟨k1,(Zt hm).trans h6⟩
theorem xG {E Er E' Eo:Env} (hP:cB P) (hG0:0<P.globals.size) (hA:Alike E Er) (hB:Alike Er E') (ho: @jW Er P orc.call) (hh: @sE Er P N orc.loop) (hat:cF P f p=some (.loop c))
 (hfi:da P.globals.size νo rd rd a0 s0 a0 s0=some qo) (hei:bL E Er qo) (hki:dc νo bo=true)
 (hr: @jN Er.toGam P orc.loop f c (.o p) rd (@run Er.toGam P orc n) a0 s0=some (.at .normal a1 s1)) (hx:kc x=true) (hf:da P.globals.size ν rd rd a0 s0 a1 s1=some q) (he:bL Er E' q) (hk:dc ν bo=true) (hkl:iX s0.n bo=true)
 (ih:gY E' Eo P N rd c a0 s0 x ao so bo):
 gY E Eo P N rd c a0 s0 x ao so bo:=by
 intro μ w b X u k ca hs ha hX hkd hrd hfn m hm
 have hg0:=@SR.eZ E _ _ _ _ _ hs 0 hG0
 obtain ⟨_,d2,_,_,_,_,d7,d8,d9,_⟩:=cM hfi hei
 have hrec:=@kV Er P N hP orc ho hh n
 have:=@iT Er P N hP _ hrec (@m0 Er P N hP _ hrec) orc.loop hh f c (.o p) (fe hat rfl) rd a0 s0 _ hr (fG νo μ) w b X u (.inLoop c::k) ca (dF hfi hei hA hs) (kY hfi hei ha) (mB hX d7 d7) hkd (jr d9 d2 hrd) hfn
 obtain ⟨μ',w',ca',u',h1,h2,h3,h4⟩:=this
 obtain ⟨c1,c2,_,_,_,_,c7,c8,c9,_⟩:=cM hf he
 have hsr:=@bF.sr Er _ _ _ _ _ _ _ _ h1
 have hext:=@bF.ext Er _ _ _ _ _ _ _ _ h1
 have hrd':yR (fG ν μ') rd b.roundOf:=jr c9 c2 ((jr d9 d2 hrd).mono hext.sub)
 obtain ⟨μo,w'',ca'',u'',g1,g2,g3,g4,g5⟩:=ih (fG ν μ') w' b X u' k ca' (dF hf he hB hsr) (kY hf he h2) (mB h3 c8 c7) hkd hrd' hfn _ stepR_inLoop
 have w1:Way N (fG νo μ) w μ' w' bo:=@Way.sU P N bo w w' _ μ' Er _ _ h1 hkl
 have w2:Way N μ' w' μo w'' bo:=g5.pre (@SR.eZ Er _ _ _ _ _ hsr 0 hG0) hk c2
 refine ⟨μo,w'',ca'',u'',g1,g2,g3,?_,(w1.trans w2).pre hg0 hki d2⟩
 cases x<;>first |(cases hx;done) |skip
 ·obtain ⟨k1,h5,h6⟩:=g4
  exact ⟨k1,h5,(Zt hm).trans (Steps.trans h4 h6)⟩
 ·obtain ⟨k1,h6⟩:=g4
  exact ⟨k1,(Zt hm).trans (Steps.trans h4 h6)⟩
theorem JB {E E2 E':Env} (hG0:0<P.globals.size) (hA2:Alike E E2) (hA:Alike E E') {rd0:Option Pos} {ν':iD} {a s:_} {rows:List (Pos×aY)} {n1:Pos} {q':gX} (hx:kc x=true) (hf:da P.globals.size ν rd0 rd a0 s0 a s=some q) (he:bL E E2 q)
 (hfo:rh P.globals.size bo ν ν' s ao so a1 rows n1=some q') (he':bL E' E q') (hL:gY E2 E' P N rd0 c a0 s0 x ao so bo): @Bi E P N rd c a s (.at x a1 (iW s rows n1)):=by
 intro μ w b X u k ca hs ha hX hkd hrd hfn m hm
 obtain ⟨c1,c2,_,_,_,_,c7,c8,c9,_⟩:=cM hf he
 obtain ⟨d1,d2,d3,d4,d5,d6,d7,d8,d9,d10,d11,d12,⟨p1,r1,e1⟩,_⟩:=xB hfo he'
 obtain ⟨μo,w',ca',u',g1,g2,g3,g4,g5⟩:=hL (fG ν μ) w b X u k ca (dF hf he hA2 hs) (kY hf he ha) (mB hX c8 c7) hkd (jr c9 c2 hrd) hfn m hm
 obtain ⟨hN,hg⟩:=BH hG0 hA hf he hs hfo he' g1 g5
 refine ⟨uO ν' μo μ,w',ca',u',hg,@AR.mk E P _ _ _ (my hN r1 e1 (@AR.tm E' _ _ _ _ g2)) ((@AR.size E' _ _ _ _ g2).trans d4.symm) ?_,mB g3 d8 d7,MM hx g4⟩
 have:=@AR.defers E' _ _ _ _ g2
 rw [d6] at this
 rw [d5]
 generalize ca'.defers=y at*
 cases this
 exact @yJ.nil E P _
end
end
section
open Go Go.RowKit Go.ChangeShapes Go.WideShapes Go.ChangeAt
def y5 (w:World) (g:Nat) (bU:aY):Prop:=
 ∃t len c,bU= .cells false t len c∧∀i,i<len→∃av v,c.get i=some av∧w.cell? ⟨g,i,none⟩=some v∧av.one=true∧Cy v=some av
def ke (bs:List aY) (w:World):Prop:=bs.length≤w.heap.size∧∀g bU,bs[g]? =some bU→y5 w g bU
theorem DE (bs:List aY) {w w':World} (hz:w.heap.size≤w'.heap.size) (hk: ∀k,k<bs.length→w'.heap[k]? =w.heap[k]?) (h:ke bs w):ke bs w':=by
 refine ⟨VZ h.1 hz,fun g bU hg=>?_⟩
 obtain ⟨t,len,c,e,hc⟩:=h.2 g bU hg
 refine ⟨t,len,c,e,fun i hi=>?_⟩
 obtain ⟨av,v,h1,h2,h3,h4⟩:=hc i hi
 refine ⟨av,v,h1,?_,h3,h4⟩
 rw [←h2]
 exact DF (hk g (List.getElem?_eq_some_iff.1 hg).1)
where
 DF {w w':World} {a:Addr} (h:w'.heap[a.block]? =w.heap[a.block]?):w'.cell? a=w.cell? a:=by unfold World.cell?;rw [h]
@[reducible] def N1 (v:Bool) (ρ:Nat→D) (g:List (Tm×Bool)) (h: ∀c∈g,bh ρ c.1= .bool c.2) (bs:List aY):Env:=
 {g:=g,z3:=v,ρ:=ρ,conds:=h,n:=bs.length,base:=ke bs,bo:=fun _ _ hz hk h=>DE bs hz hk h}
section
variable [Env]
theorem uP: ∀(bs:List aY) (t:Tr aY) (n:Nat) (x:Pos),(qN bs n t).get x=if n≤x.toNat∧x.toNat<n+bs.length then bs[x.toNat - n]? else t.get x
 |[],t,n,x=>by
  rw [if_neg (by simp only [List.length_nil];omega)]
  rfl
 |b::bs,t,n,x=>by
  show (qN bs (n+1) (t.set (pos n) b)).get x=_
  rw [uP bs,ji]
  by_cases h:n+1≤x.toNat∧x.toNat<n+1+bs.length
  ·rw [if_pos h,if_pos (by simp only [V8];omega),show x.toNat - n=(x.toNat - (n+1))+1 from by omega]
   rfl
  ·rw [if_neg h]
   by_cases hx:pos n=x
   ·subst hx
    rw [if_pos rfl,if_pos (by rw [eI];simp only [V8];omega),eI,Nat.sub_self]
    rfl
   ·have:x.toNat≠n:=fun e=>hx (by rw [←e,Du])
    rw [if_neg hx,if_neg (by simp only [V8];omega)]
def uQ (P:Program) (fz:Addr→Option Value):bw:=⟨fun b=>if b.toNat<P.globals.size then some ⟨⟨b.toNat,0,none⟩,none⟩ else none,fz⟩
theorem DG {P:Program} {fz:Addr→Option Value} {b:Pos} {e:fx} (h:uQ P fz b=some e):b.toNat<P.globals.size∧e=⟨⟨b.toNat,0,none⟩,none⟩:=by
 replace h:(if b.toNat<P.globals.size then some (⟨⟨b.toNat,0,none⟩,none⟩:fx) else none)=some e:=h
 split at h
 ·rename_i hl;cases h;exact ⟨hl,rfl⟩
 ·cases h
end
section
variable [Env] {P:Program} {w:World}
def y6 (P:Program) (bs:List aY):Prop:=Env.n=bs.length∧bs.length=P.globals.size∧∀w,Env.base w→ke bs w
def GW (P:Program) (fz:Addr→Option Value) (es:List fx):bw:=⟨fun b=>if b.toNat<P.globals.size then some ⟨⟨b.toNat,0,none⟩,none⟩ else es[b.toNat - P.globals.size]?,fz⟩
theorem DH (P:Program) (fz:Addr→Option Value) (es:List fx) (b:Pos):GW P fz es b=if b.toNat<P.globals.size then some ⟨⟨b.toNat,0,none⟩,none⟩ else es[b.toNat - P.globals.size]? :=rfl
theorem DI {fz:Addr→Option Value} (hfz: ∀ad v,fz ad=some v→w.cell? ad=some v) {bs rows:List aY} {es:List fx} (hB:y6 P bs) (h:Env.base w) (hlen:es.length=rows.length) (hr: ∀(i:Nat) (e:fx) (bU:aY),es[i]? =some e→rows[i]? =some bU→BR P w.heap.size (GW P fz es) w bU e∧e.a.block<w.heap.size) (hwr: ∀(i:Nat) (e:fx) (bU:aY),es[i]? =some e→rows[i]? =some bU→writes bU=false):
 SR P w.heap.size (GW P fz es) (nM (bs++rows)) w:=by
 obtain ⟨hn0,hn,hb⟩:=hB
 obtain ⟨hsz,hb⟩:=hb w h
 have hcase: ∀b e,GW P fz es b=some e→(b.toNat<P.globals.size∧e=⟨⟨b.toNat,0,none⟩,none⟩)∨(P.globals.size≤b.toNat∧es[b.toNat - P.globals.size]? =some e):=by
  intro b e he
  rw [DH] at he
  split at he
  ·rename_i hl;cases he;exact .inl ⟨hl,rfl⟩
  ·exact .inr ⟨by omega,he⟩
 have hlt: ∀b e,GW P fz es b=some e→b.toNat<(bs++rows).length∧e.a.block<w.heap.size:=by
  intro b e he
  rw [List.length_append]
  rcases hcase b e he with ⟨hl,rfl⟩ |⟨hl,he⟩
  ·exact ⟨by omega,by show b.toNat<w.heap.size;omega⟩
  ·have hi:=(List.getElem?_eq_some_iff.1 he).1
   obtain ⟨bU,hblk⟩: ∃bU,rows[b.toNat - P.globals.size]? =some bU:=⟨_,Wj (by omega)⟩
   exact ⟨by omega,(hr _ e bU he hblk).2⟩
 refine ⟨fun b e he=>?_,fun b b' e e' k k' he he' _ _ _ _ hN _=>?_,fun b e he=>?_,VY _,fun g hg=>?_,by omega,h,hfz,fun b e k hb hk hw hN ad v ha=>?_⟩
 ·have hl':=(hlt b e he).1
  have hget:(nM (bs++rows)).h.get b=(bs++rows)[b.toNat]? :=by
   show (qN (bs++rows) 0 .nil).get b=_
   rw [uP,if_pos (by omega),Nat.sub_zero]
  rcases hcase b e he with ⟨hl,rfl⟩ |⟨hl,he2⟩
  ·have hlb:b.toNat<bs.length:=by omega
   have hg2:bs[b.toNat]? =some bs[b.toNat]:=Wj hlb
   refine ⟨bs[b.toNat],by rw [hget,List.getElem?_append_left hlb,hg2],?_⟩
   obtain ⟨t,len,c,hc,hcells⟩:=hb _ _ hg2
   rw [hc]
   refine ⟨rfl,VX hlb hsz,fun i hi=>?_⟩
   obtain ⟨av,v,h1,h2,h3,h4⟩:=hcells i hi
   refine ⟨av,v,h1,?_,kJ v av h4,h3⟩
   rw [←h2]
   show w.cell? (Wg ⟨b.toNat,0,none⟩ i)=_
   by_cases hi0:i=0
   ·subst hi0;simp [Wg]
   ·simp [Wg,hi0]
  ·have hi:=(List.getElem?_eq_some_iff.1 he2).1
   obtain ⟨bU,hblk⟩: ∃bU,rows[b.toNat - P.globals.size]? =some bU:=⟨_,Wj (by omega)⟩
   refine ⟨bU,?_,(hr _ e bU he2 hblk).1⟩
   rw [hget,List.getElem?_append_right (by omega),hn]
   exact hblk
 ·have:=(hlt b e he).2
  omega
 ·show b.toNat<(pos (bs++rows).length).toNat
  rw [eI]
  exact (hlt b e he).1
 ·rw [DH,eI,if_pos hg]
 ·have hl:=(hlt b e hb).2
  omega
theorem JC (fz:Addr→Option Value):GW P fz []=uQ P fz:=by
 refine bw.same (fun b=>?_) rfl
 rw [DH]
 show _=if b.toNat<P.globals.size then some (⟨⟨b.toNat,0,none⟩,none⟩:fx) else none
 split<;>rfl
theorem JD {fz:Addr→Option Value} (hfz: ∀ad v,fz ad=some v→w.cell? ad=some v) {bs:List aY} (hB:y6 P bs) (h:Env.base w):SR P w.heap.size (uQ P fz) (nM bs) w:=by
 have:=DI (rows:=[]) (es:=[]) hfz hB h rfl (fun i e bU he=>by simp at he) (fun i e bU he=>by simp at he)
 rwa [JC,List.append_nil] at this
end
end
section
open Go Go.RowKit
inductive DV where
 |c (d:D)
 |agg (l:List D)
 |jO (l:List DV)
inductive kf (fz:Addr→Option Value):List D→List Value→Prop
 |nil:kf fz [] []
 |cons (d:D) (v:Value) (ds:List D) (vs:List Value) (h:dY fz d v) (hs:kf fz ds vs):kf fz (d::ds) (v::vs)
mutual
inductive wE (fz:Addr→Option Value):DV→Value→Prop
 |c (d:D) (v:Value) (h:dY fz d v):wE fz (.c d) v
 |agg (l:List D) (C:List Value) (h:kf fz l C):wE fz (.agg l) (.agg C.toArray)
 |jO (l:List DV) (C:List Value) (h:js fz l C):wE fz (.jO l) (.tuple C.toArray)
inductive js (fz:Addr→Option Value):List DV→List Value→Prop
 |nil:js fz [] []
 |cons (d:DV) (v:Value) (ds:List DV) (vs:List Value) (h:wE fz d v) (hs:js fz ds vs):js fz (d::ds) (v::vs)
end
theorem kf.mono [Env] {fz fz':Addr→Option Value} (hs: ∀ad v,fz ad=some v→fz' ad=some v) {l:List D} {C:List Value} (h:kf fz l C):kf fz' l C:=by
 induction h with
 |nil=>exact .nil
 |cons d v ds vs h _ ih=>exact .cons d v ds vs (h.mono hs) ih
noncomputable def od [Env] (v:AV):Option D:=(lR v).map fun q=>ev q.2
noncomputable def dz [Env]:List AV→Option (List D)
 |[]=>some []
 |v::vs=>(od v).bind fun d=>(dz vs).map fun ds=>d::ds
mutual
noncomputable def bk [Env]:AV→Option DV
 | .agg l=>(dz l).map .agg
 | .tuple l=>(bI l).map .jO
 |v=>(od v).map .c
noncomputable def bI [Env]:List AV→Option (List DV)
 |[]=>some []
 |v::vs=>(bk v).bind fun d=>(bI vs).map fun ds=>d::ds
end
def oq [Env]:AV→Prop
 | .tm t x=>bx t (ev x)
 | .an=>False
 | .e0 _=>False
 |_=>True
def kg [Env]:List AV→Prop
 |[]=>True
 |v::vs=>oq v∧kg vs
mutual
def cO [Env]:AV→Prop
 | .agg l=>kg l
 | .tuple l=>eW l
 |v=>oq v
def eW [Env]:List AV→Prop
 |[]=>True
 |v::vs=>cO v∧eW vs
end
section
variable [Env] {P:Program} {μ:bw}
theorem fP {v:AV} {u:Value} {d:D} (h:VR P μ v u) (hd:od v=some d):dY μ.fz d u:=by
 obtain ⟨⟨t,x⟩,h1,rfl⟩:=Option.map_eq_some_iff.1 hd
 exact (ff h h1).2
theorem pX {v:AV} {u:Value} {d:D} (h:dY μ.fz d u) (hd:od v=some d) (ht:oq v):VR P μ v u∧v.one=true:=by
 obtain ⟨⟨t,x⟩,h1,rfl⟩:=Option.map_eq_some_iff.1 hd
 cases v<;>first |(cases h1;done) |skip
 case bool b=>cases h1;cases h;exact ⟨.bool b,rfl⟩
 case int k n=>cases h1;cases h;exact ⟨.int k n,rfl⟩
 case str l=>cases h1;cases h with |str _ s hs=>exact ⟨.str l s hs,rfl⟩
 case an=>exact ht.elim
 case e0=>exact ht.elim
 case tm t x=>cases h1;exact ⟨.tm t x u ht h,rfl⟩
theorem BI: ∀{l:List AV} {C:List Value} {ds:List D},b8 P μ l C→dz l=some ds→kf μ.fz ds C
 |[],C,ds,h,hd=>by cases hd;cases h;exact .nil
 |v::vs,C,ds,h,hd=>by
  obtain ⟨d,h1,h2⟩:=Option.bind_eq_some_iff.1 hd
  obtain ⟨es,h3,rfl⟩:=Option.map_eq_some_iff.1 h2
  cases h with
  |cons _ u _ us h4 h5=>exact .cons _ _ _ _ (fP h4 h1) (BI h5 h3)
theorem BJ: ∀{l:List AV} {C:List Value} {ds:List D},kf μ.fz ds C→dz l=some ds→kg l→b8 P μ l C∧cf l=true
 |[],C,ds,h,hd,ht=>by cases hd;cases h;exact ⟨.nil,rfl⟩
 |v::vs,C,ds,h,hd,ht=>by
  obtain ⟨d,h1,h2⟩:=Option.bind_eq_some_iff.1 hd
  obtain ⟨es,h3,rfl⟩:=Option.map_eq_some_iff.1 h2
  cases h with
  |cons _ u _ us h4 h5=>
   obtain ⟨q1,q2⟩:=pX (P:=P) h4 h1 ht.1
   obtain ⟨q3,q4⟩:=BJ h5 h3 ht.2
   exact ⟨.cons _ _ _ _ q1 q3,by show au v.one (cf vs) false=true;rw [q2,q4]⟩
mutual
theorem JE: ∀{v:AV} {u:Value} {d:DV},VR P μ v u→bk v=some d→wE μ.fz d u
 | .agg l,u,d,h,hd=>by
  unfold bk at hd
  obtain ⟨ds,h1,rfl⟩:=Option.map_eq_some_iff.1 hd
  cases h with
  |agg _ C hC _=>exact .agg _ _ (BI hC h1)
 | .tuple l,u,d,h,hd=>by
  unfold bk at hd
  obtain ⟨ds,h1,rfl⟩:=Option.map_eq_some_iff.1 hd
  cases h with
  |tuple _ C hC=>exact .jO _ _ (m7 hC h1)
 | .bool b,u,d,h,hd=>by unfold bk at hd;obtain ⟨e,h1,rfl⟩:=Option.map_eq_some_iff.1 hd;exact .c _ _ (fP h h1)
 | .int k n,u,d,h,hd=>by unfold bk at hd;obtain ⟨e,h1,rfl⟩:=Option.map_eq_some_iff.1 hd;exact .c _ _ (fP h h1)
 | .str l,u,d,h,hd=>by unfold bk at hd;obtain ⟨e,h1,rfl⟩:=Option.map_eq_some_iff.1 hd;exact .c _ _ (fP h h1)
 | .an,u,d,h,hd=>by unfold bk at hd;obtain ⟨e,h1,rfl⟩:=Option.map_eq_some_iff.1 hd;exact .c _ _ (fP h h1)
 | .tm t x,u,d,h,hd=>by unfold bk at hd;obtain ⟨e,h1,rfl⟩:=Option.map_eq_some_iff.1 hd;exact .c _ _ (fP h h1)
 | .float ..,u,d,h,hd=>by unfold bk at hd;cases hd
 | .ptr ..,u,d,h,hd=>by unfold bk at hd;cases hd
 | .bX,u,d,h,hd=>by unfold bk at hd;cases hd
 | .slice ..,u,d,h,hd=>by unfold bk at hd;cases hd
 | .map _,u,d,h,hd=>by unfold bk at hd;cases hd
 | .cd,u,d,h,hd=>by unfold bk at hd;cases hd
 | .func ..,u,d,h,hd=>by unfold bk at hd;cases hd
 | .yield _,u,d,h,hd=>by unfold bk at hd;cases hd
 | .bN,u,d,h,hd=>by unfold bk at hd;cases hd
 | .iface ..,u,d,h,hd=>by unfold bk at hd;cases hd
 | .bu,u,d,h,hd=>by unfold bk at hd;cases hd
 | .bad,u,d,h,hd=>by unfold bk at hd;cases hd
 | .vl ..,u,d,h,hd=>by unfold bk at hd;cases hd
 | .e0 _,u,d,h,hd=>by unfold bk at hd;obtain ⟨e,h1,rfl⟩:=Option.map_eq_some_iff.1 hd;exact .c _ _ (fP h h1)
 | .pe ..,u,d,h,hd=>by unfold bk at hd;cases hd
 | .fb ..,u,d,h,hd=>by unfold bk at hd;cases hd
theorem m7: ∀{l:List AV} {C:List Value} {ds:List DV},b8 P μ l C→bI l=some ds→js μ.fz ds C
 |[],C,ds,h,hd=>by unfold bI at hd;cases hd;cases h;exact .nil
 |v::vs,C,ds,h,hd=>by
  unfold bI at hd
  obtain ⟨d,h1,h2⟩:=Option.bind_eq_some_iff.1 hd
  obtain ⟨es,h3,rfl⟩:=Option.map_eq_some_iff.1 h2
  cases h with
  |cons _ u _ us h4 h5=>exact .cons _ _ _ _ (JE h4 h1) (m7 h5 h3)
end
mutual
theorem uR: ∀{v:AV} {u:Value} {d:DV},wE μ.fz d u→bk v=some d→cO v→VR P μ v u
 | .agg l,u,d,h,hd,ht=>by
  unfold bk at hd
  obtain ⟨ds,h1,rfl⟩:=Option.map_eq_some_iff.1 hd
  cases h with
  |agg _ C hC=>obtain ⟨q1,q2⟩:=BJ (P:=P) hC h1 (by unfold cO at ht;exact ht);exact .agg _ _ q1 q2
 | .tuple l,u,d,h,hd,ht=>by
  unfold bk at hd
  obtain ⟨ds,h1,rfl⟩:=Option.map_eq_some_iff.1 hd
  cases h with
  |jO _ C hC=>exact .tuple _ _ (rk hC h1 (by unfold cO at ht;exact ht))
 | .bool b,u,d,h,hd,ht=>by unfold bk at hd;obtain ⟨e,h1,rfl⟩:=Option.map_eq_some_iff.1 hd;cases h with |c _ _ h=>exact (pX h h1 trivial).1
 | .int k n,u,d,h,hd,ht=>by unfold bk at hd;obtain ⟨e,h1,rfl⟩:=Option.map_eq_some_iff.1 hd;cases h with |c _ _ h=>exact (pX h h1 trivial).1
 | .str l,u,d,h,hd,ht=>by unfold bk at hd;obtain ⟨e,h1,rfl⟩:=Option.map_eq_some_iff.1 hd;cases h with |c _ _ h=>exact (pX h h1 trivial).1
 | .an,u,d,h,hd,ht=>by unfold cO at ht;exact ht.elim
 | .tm t x,u,d,h,hd,ht=>by unfold bk at hd;obtain ⟨e,h1,rfl⟩:=Option.map_eq_some_iff.1 hd;cases h with |c _ _ h=>exact (pX h h1 (by unfold cO at ht;exact ht)).1
 | .float ..,u,d,h,hd,ht=>by unfold bk at hd;cases hd
 | .ptr ..,u,d,h,hd,ht=>by unfold bk at hd;cases hd
 | .bX,u,d,h,hd,ht=>by unfold bk at hd;cases hd
 | .slice ..,u,d,h,hd,ht=>by unfold bk at hd;cases hd
 | .map _,u,d,h,hd,ht=>by unfold bk at hd;cases hd
 | .cd,u,d,h,hd,ht=>by unfold bk at hd;cases hd
 | .func ..,u,d,h,hd,ht=>by unfold bk at hd;cases hd
 | .yield _,u,d,h,hd,ht=>by unfold bk at hd;cases hd
 | .bN,u,d,h,hd,ht=>by unfold bk at hd;cases hd
 | .iface ..,u,d,h,hd,ht=>by unfold bk at hd;cases hd
 | .bu,u,d,h,hd,ht=>by unfold bk at hd;cases hd
 | .bad,u,d,h,hd,ht=>by unfold bk at hd;cases hd
 | .vl ..,u,d,h,hd,ht=>by unfold bk at hd;cases hd
 | .e0 _,u,d,h,hd,ht=>by unfold cO at ht;exact ht.elim
 | .pe ..,u,d,h,hd,ht=>by unfold bk at hd;cases hd
 | .fb ..,u,d,h,hd,ht=>by unfold bk at hd;cases hd
theorem rk: ∀{l:List AV} {C:List Value} {ds:List DV},js μ.fz ds C→bI l=some ds→eW l→b8 P μ l C
 |[],C,ds,h,hd,ht=>by unfold bI at hd;cases hd;cases h;exact .nil
 |v::vs,C,ds,h,hd,ht=>by
  unfold bI at hd
  unfold eW at ht
  obtain ⟨d,h1,h2⟩:=Option.bind_eq_some_iff.1 hd
  obtain ⟨es,h3,rfl⟩:=Option.map_eq_some_iff.1 h2
  cases h with
  |cons _ u _ us h4 h5=>exact .cons _ _ _ _ (uR h4 h1 ht.1) (rk h5 h3 ht.2)
end
end
structure BK (P:Program) (bs:List aY) (f:FuncId) (ds:List DV) (r:DV) (ok:List Value→Prop):Prop where
 body: ∃fn c,P.funcs[f]? =some fn∧fn.body=some c
 run: ∀(w:World) (fz:Addr→Option Value) (us:List Value) (cs:List Frame),ke bs w→(∀ad v,fz ad=some v→w.cell? ad=some v)→js fz ds us→ok us→
  ∃fz' w' V fr,(∀ad v,fz ad=some v→fz' ad=some v)∧(∀ad v,fz' ad=some v→w'.cell? ad=some v)∧(∀ad v,fz' ad=some v→fz ad=some v∨w.heap.size≤ad.block∨ad.block<P.globals.size)∧Kept w w'∧wE fz' r V∧
   Steps P (lone (YN P f us.toArray .normal) cs w) (lone fr cs w')∧fr.fn=f∧fr.kind= .normal∧fr.going P w' (.returned V)
abbrev BL (P:Program) (bs:List aY) (f:FuncId) (ds:List DV) (r:DV):Prop:=BK P bs f ds r fun _=>True
theorem BK.two {P:Program} {bs:List aY} {f:FuncId} {ds:List DV} {r:DV} {A B C:List Value→Prop} (h:BK P bs f ds r A) (k:BK P bs f ds r B) (hc: ∀fz us,js fz ds us→C us→A us∨B us):BK P bs f ds r C:=
 ⟨h.body,fun w fz us cs h1 h2 h3 h4=>(hc fz us h3 h4).elim (h.run w fz us cs h1 h2 h3) (k.run w fz us cs h1 h2 h3)⟩
section
variable [Env] {P:Program} {N:Nat}
theorem SR.more {μ:bw} {σ:St} {w w':World} (hG:P.globals.size≤Env.n) (h:SR P N μ σ w) (hk:Kept w w') {fz':Addr→Option Value} (h1: ∀ad v,μ.fz ad=some v→fz' ad=some v) (h2: ∀ad v,fz' ad=some v→w'.cell? ad=some v)
 (h3: ∀ad v,fz' ad=some v→μ.fz ad=some v∨w.heap.size≤ad.block∨ad.block<P.globals.size):bF P N μ σ w ⟨μ.f,fz'⟩ σ w':=by
 have hsub:Sub μ ⟨μ.f,fz'⟩:=⟨fun _ _ h=>h,h1⟩
 have hk':=h.kept hk
 refine ⟨⟨hsub,fun b e hb=>.inr ⟨b,e,hb,rfl⟩,fun ad v ha=>?_⟩,fun b e hb=>.inl hb,VY _,⟨hk.os,hk.tape,hk.output,hk.size,fun j hj _=>hk.same j hj⟩,
  ⟨fun b e hb=>let ⟨k,q1,q2⟩:=hk'.bU b e hb;⟨k,q1,q2.bo hsub (VY _) fun _=>rfl⟩,hk'.inj,hk'.lt,hk'.hN,hk'.eZ,hk'.hn,hk'.base,h2,fun b e k hb hk2 hw hN ad v ha=>?_⟩⟩
 ·rcases h3 ad v ha with q |q |q
  ·exact .inl q
  ·exact .inr (.inl q)
  ·exact .inr (.inr ⟨pos ad.block,_,h.eZ _ q,rfl⟩)
 ·rcases h3 ad v ha with q |q |q
  ·exact h.apart b e k hb hk2 hw hN ad v q
  ·obtain ⟨k',_,hbr⟩:=h.bU b e hb
   have:=hbr.lt
   omega
  ·have:=h.hn
   omega
def Uw (fz':Addr→Option Value) (w w':World) (t:TypeId) (z:Nat) (l:List (List D)) (V:Value):Prop:=
 (l=[]∧(V= .slice none 0 0∨∃ad,V= .slice (some ad) 0 0))∨∃(g c:Nat) (cur:Array Value),V= .slice (some ⟨g,0,none⟩) l.length c∧w.heap.size≤g∧w'.heap[g]? =some (.cells cur t (0,0))∧cur.size=c*z∧l.length≤c∧c≤maxLen∧l.flatten.length≤cur.size∧
  (∀(j:Nat) (d:D),l.flatten[j]? =some d→∃u,cur[j]? =some u∧dY fz' d u)∧∀ad v,fz' ad=some v→ad.block≠g
structure N2 (P:Program) (bs:List aY) (f:FuncId) (t:TypeId) (z:Nat) (ds:List DV) (l:List (List D)):Prop where
 body: ∃fn c,P.funcs[f]? =some fn∧fn.body=some c
 run: ∀(w:World) (fz:Addr→Option Value) (us:List Value) (cs:List Frame),ke bs w→(∀ad v,fz ad=some v→w.cell? ad=some v)→js fz ds us→
  ∃fz' w' V fr,(∀ad v,fz ad=some v→fz' ad=some v)∧(∀ad v,fz' ad=some v→w'.cell? ad=some v)∧(∀ad v,fz' ad=some v→fz ad=some v∨w.heap.size≤ad.block∨ad.block<P.globals.size)∧Kept w w'∧Uw fz' w w' t z l V∧
   Steps P (lone (YN P f us.toArray .normal) cs w) (lone fr cs w')∧fr.fn=f∧fr.kind= .normal∧fr.going P w' (.returned V)
def PL (P:Program) (bs:List aY) (f:FuncId) (o:Option (TypeId×Nat)) (ds:List DV) (r:DV):Prop:=
 match o with
 |none=>BL P bs f ds r
 |some q=>∃l,r= .c (.aF l)∧N2 P bs f q.1 q.2 ds l
theorem SR.N3 {μ:bw} {σ:St} {w w':World} (hG:P.globals.size≤Env.n) (h:SR P N μ σ w) (hk:Kept w w') {fz':Addr→Option Value} (h1: ∀ad v,μ.fz ad=some v→fz' ad=some v) (h2: ∀ad v,fz' ad=some v→w'.cell? ad=some v)
 (h3: ∀ad v,fz' ad=some v→μ.fz ad=some v∨w.heap.size≤ad.block∨ad.block<P.globals.size) {ent:fx} {k:aY} (hent:w.heap.size≤ent.a.block∨(ent=cz∧0<P.globals.size)) (hbr:BR P N (dm ⟨μ.f,fz'⟩ σ.n ent) w' k ent)
 (hap:writes k=true→N≤ent.a.block→∀ad v,fz' ad=some v→ad.block≠ent.a.block):bF P N μ σ w (dm ⟨μ.f,fz'⟩ σ.n ent) (σ.push k) w':=by
 have g1:=h.more hG hk h1 h2 h3
 have hfr:(⟨μ.f,fz'⟩:bw) σ.n=none:=h.fresh
 have hsub:Sub ⟨μ.f,fz'⟩ (dm ⟨μ.f,fz'⟩ σ.n ent):=eJ (.inl hfr)
 have hN0:0<P.globals.size→0<N:=fun h0=>VX h0 (VZ hG h.hn)
 have iG: ∀x ex,x≠σ.n→dm ⟨μ.f,fz'⟩ σ.n ent x=some ex→μ x=some ex:=fun x ex hx he=>by rw [ct _ ent hx] at he;exact he
 have hne: ∀x ex,x≠σ.n→dm ⟨μ.f,fz'⟩ σ.n ent x=some ex→N≤ent.a.block→ex.a.block≠ent.a.block:=by
  intro x ex hx he hN heq
  obtain ⟨k',_,q2⟩:=h.bU x ex (iG x ex hx he)
  have:=q2.lt
  rcases hent with h4 |⟨h4,h5⟩
  ·omega
  ·have:=hN0 h5
   rw [h4] at hN
   have:cz.a.block=0:=rfl
   omega
 refine ⟨⟨g1.ext.sub.trans hsub,fun b e hb=>?_,g1.ext.fZ⟩,fun b e hb=>?_,by rw [eh,Pos.bZ];omega,g1.ev,⟨fun b e hb=>?_,?_,fun b e hb=>?_,g1.sr.hN,fun g hg=>hsub _ _ (g1.sr.eZ g hg),g1.sr.hn,g1.sr.base,g1.sr.fW,?_⟩⟩
 ·by_cases hbn:b=σ.n
  ·subst hbn
   rw [bG] at hb
   cases hb
   rcases hent with h4 |⟨h4,h5⟩
   ·exact .inl h4
   ·exact .inr ⟨pos 0,_,h.eZ 0 h5,by rw [h4];rfl⟩
  ·exact .inr ⟨b,e,iG b e hbn hb,rfl⟩
 ·by_cases hbn:b=σ.n
  ·exact .inr (by rw [hbn];exact VY _)
  ·exact .inl (iG b e hbn hb)
 ·by_cases hbn:b=σ.n
  ·subst hbn
   rw [bG] at hb
   cases hb
   exact ⟨k,by rw [bP,if_pos rfl],hbr⟩
  ·obtain ⟨k',q1,q2⟩:=g1.sr.bU b e (iG b e hbn hb)
   exact ⟨k',by rw [bP,if_neg (fun h=>hbn h.symm)];exact q1,q2.bo hsub (VY _) fun _=>rfl⟩
 ·intro x y ex ey kx ky hx hy gx gy dx dy hN hxy
  by_cases hxn:x=σ.n
  ·by_cases hyn:y=σ.n
   ·rw [hxn,hyn]
   ·subst hxn
    rw [bG] at hx
    cases hx
    exact absurd hxy.symm (hne y ey hyn hy hN)
  ·by_cases hyn:y=σ.n
   ·subst hyn
    rw [bG] at hy
    cases hy
    exact absurd hxy (hne x ex hxn hx (hxy▸hN))
   ·rw [bP,if_neg (fun h=>hxn h.symm)] at gx
    rw [bP,if_neg (fun h=>hyn h.symm)] at gy
    exact h.inj x y ex ey kx ky (iG x ex hxn hx) (iG y ey hyn hy) gx gy dx dy hN hxy
 ·rw [eh,Pos.bZ]
  by_cases hbn:b=σ.n
  ·rw [hbn];omega
  ·have:=h.lt b e (iG b e hbn hb);omega
 ·intro b e kb hb hk2 hw hN ad v ha
  by_cases hbn:b=σ.n
  ·subst hbn
   rw [bG] at hb
   cases hb
   rw [bP,if_pos rfl] at hk2
   cases hk2
   exact hap hw hN ad v ha
  ·rw [bP,if_neg (fun h=>hbn h.symm)] at hk2
   exact g1.sr.apart b e kb (iG b e hbn hb) hk2 hw hN ad v ha
def PM (P:Program) (x:rS):Prop:=∃bs ds r,y6 P bs∧PL P bs x.1 x.2.2.2 ds r∧bI x.2.1=some ds∧bk x.2.2.1=some r∧cO x.2.2.1
theorem xH {μ μ':bw} {v:AV} {u:Value} (h:VR P μ v u) (hs:E4 v=true):VR P μ' v u:=by
 cases v<;>first |(cases hs;done) |skip
 case bool=>cases h;exact .bool _
 case int=>cases h;exact .int _ _
 case str=>cases h with |str _ s hs=>exact .str _ s hs
 case tm t x=>
  cases h with
  |tm _ _ _ h1 h2=>
   refine .tm _ _ _ h1 ?_
   cases t<;>first |(cases hs;done) |skip
   ·obtain ⟨n,h1⟩:=h1;rw [h1] at h2⊢;cases h2;exact .int _ _
   ·obtain ⟨n,h1⟩:=h1;rw [h1] at h2⊢;cases h2;exact .bool _
   ·obtain ⟨n,h1⟩:=h1;rw [h1] at h2⊢;cases h2 with |str _ s hs=>exact .str _ s hs
theorem uS {μ μ':bw}: ∀{l:List AV} {C:List Value},b8 P μ l C→l.all E4=true→b8 P μ' l C
 |[],C,h,hs=>by cases h;exact .nil
 |v::l,C,h,hs=>by
  rw [List.all_cons,V1] at hs
  cases h with
  |cons _ u _ us h1 h2=>exact .cons _ _ _ _ (xH h1 hs.1) (uS h2 hs.2)
theorem xI {μ μ':bw} {v:AV} {u:Value} (h:VR P μ v u) (hs:E5 v=true):VR P μ' v u:=by
 cases v with
 |agg l=>cases h with |agg _ C hC ho=>exact .agg _ _ (uS hC hs) ho
 |_=>exact xH h hs
theorem uT {μ μ':bw}: ∀{l:List AV} {C:List Value},b8 P μ l C→l.all E5=true→b8 P μ' l C
 |[],C,h,hs=>by cases h;exact .nil
 |v::l,C,h,hs=>by
  rw [List.all_cons,V1] at hs
  cases h with
  |cons _ u _ us h1 h2=>exact .cons _ _ _ _ (xI h1 hs.1) (uT h2 hs.2)
theorem JF {μ μ':bw} {v:AV} {u:Value} (h:VR P μ v u) (hs:Mh v=true):VR P μ' v u:=by
 cases v with
 |tuple l=>cases h with |tuple _ C hC=>exact .tuple _ _ (uT hC hs)
 |_=>exact xI h hs
theorem SR.Sd {μ:bw} {σ:St} {w w':World} (h:SR P N μ σ w) (hk:Kept w w'):bF P N μ σ w μ σ w':=
 ⟨⟨Sub.refl μ,fun b e hb=>.inr ⟨b,e,hb,rfl⟩,fun _ _ h=>.inl h⟩,fun b e hb=>.inl hb,VY _,⟨hk.os,hk.tape,hk.output,hk.size,fun j hj _=>hk.same j hj⟩,h.kept hk⟩
theorem xJ: ∀{l:List rS} {f:FuncId} {args:List AV} {s:St} {r:fj},wv l f args s=some r→∃x∈l,x.1=f∧∃s',kB args s=some (x.2.1,s')∧F9 x.2.2.1 s s' x.2.2.2=some r
 |[],f,args,s,r,h=>by cases h
 |y::l,f,args,s,r,h=>by
  replace h:au (Vo y.1 f) (@Vm (List AV×St) (fun _=>Option fj) none (fun q=>au (F6 (sD 12) y.2.1 q.1) (F9 y.2.2.1 s q.2 y.2.2.2) (wv l f args s)) (kB args s)) (wv l f args s)=some r:=h
  have tl:wv l f args s=some r→∃x∈y::l,x.1=f∧∃s',kB args s=some (x.2.1,s')∧F9 x.2.2.1 s s' x.2.2.2=some r:=fun h=>let ⟨x,h1,h2⟩:=xJ h;⟨x,V3 _ h1,h2⟩
  cases h1:Vo y.1 f with
  |false=>rw [h1] at h;exact tl h
  |true=>
   rw [h1] at h
   replace h: @Vm (List AV×St) (fun _=>Option fj) none (fun q=>au (F6 (sD 12) y.2.1 q.1) (F9 y.2.2.1 s q.2 y.2.2.2) (wv l f args s)) (kB args s)=some r:=h
   rcases Option.eq_none_or_eq_some (kB args s) with h2 |⟨q,h2⟩
   ·rw [h2] at h;cases h
   ·rw [h2] at h
    replace h:au (F6 (sD 12) y.2.1 q.1) (F9 y.2.2.1 s q.2 y.2.2.2) (wv l f args s)=some r:=h
    cases h3:F6 (sD 12) y.2.1 q.1 with
    |false=>rw [h3] at h;exact tl h
    |true=>
     rw [h3] at h
     refine ⟨y,V2 ..,VN h1,q.2,?_,h⟩
     rw [nZ (sQ 12) h3,h2]
theorem MN (h0:0<P.globals.size) {l:List rS} (hl: ∀x∈l,PM P x):jW P (wv l):=by
 intro f args s r h
 obtain ⟨x,hx,rfl,s',hf,hr⟩:=xJ h
 obtain ⟨bs,ds,d,hB,hF,h1,h2,h3⟩:=hl x hx
 have hG:P.globals.size≤Env.n:=by rw [hB.1,hB.2.1];exact VY _
 obtain ⟨f,xa,xv,o⟩:=x
 cases o with
 |none=>
  have hr:fj.gen xv (au (Mh xv) s s')=r:=VF hr
  replace hF:BL P bs f ds d:=hF
  refine ⟨hF.body,fun N μ w cs us hs ha=>?_⟩
  obtain ⟨fz1,g1,n1,ha1⟩:=ml hs ha hf
  obtain ⟨fz',w',V,fr,q1,q2,q3,q4,q5,q6,q7,q8,q9⟩:=hF.run w fz1 us cs (hB.2.2 w hs.base) g1.sr.fW (m7 ha1 h1) trivial
  cases hsc:Mh xv with
  |true=>
   rw [hsc] at hr
   subst hr
   exact ⟨μ,w',.run,V,fr,hs.Sd q4,.norm _ _,JF (uR (μ:=⟨μ.f,fz'⟩) q5 h2 h3) hsc,q6,q7,q8,q9⟩
  |false=>
  rw [hsc] at hr
  subst hr
  have hg:=g1.sr.more hG q4 q1 q2 q3
  exact ⟨⟨μ.f,fz'⟩,w',.run,V,fr,g1.trans hg,.norm _ _,uR (μ:=⟨μ.f,fz'⟩) q5 h2 h3,q6,q7,q8,q9⟩
 |some q=>
  obtain ⟨t,z⟩:=q
  obtain ⟨L,rfl,hF⟩: ∃l,d= .c (.aF l)∧N2 P bs f t z ds l:=hF
  refine ⟨hF.body,fun N μ w cs us hs ha=>?_⟩
  cases xv<;>first |(cases hr;done) |skip
  rename_i ty y
  cases ty<;>first |(cases hr;done) |skip
  rename_i ts
  obtain ⟨hz,hr⟩:=aj.1 (show au (Vo z ts.length) (some (fj.gen (.vl ts (.op .len [y]) s'.n) (s'.push (.vec true t ts (.op .len [y]) y)))) none=some r from hr)
  cases hr
  obtain rfl:z=ts.length:=VN hz
  have hev:ev y= .aF L:=by
   unfold bk at h2
   obtain ⟨e,e1,e2⟩:=Option.map_eq_some_iff.1 h2
   cases e2
   exact VF e1
  have hty:bx (.aF ts) (ev y):=by unfold cO at h3;exact h3
  rw [hev] at hty
  have hlen:ev (.op .len [y])= .int .i64 (Int.ofNat L.length):=by rw [bH];simp only [List.map_cons,List.map_nil,hev];rfl
  obtain ⟨fz1,g1,n1,ha1⟩:=ml hs ha hf
  obtain ⟨fz',w',V,fr,q1,q2,q3,q4,q5,q6,q7,q8,q9⟩:=hF.run w fz1 us cs (hB.2.2 w hs.base) g1.sr.fW (m7 ha1 h1)
  have hNp:0<N:=VX h0 (VZ hG hs.hn)
  rcases q5 with ⟨rfl,hV⟩ |⟨g,c,cur,rfl,r1,r2,r3,r4,r5,r6,r7,r8⟩
  ·have hg:=g1.sr.N3 (k:=.vec true t ts (.op .len [y]) y) (ent:=cz) hG q4 q1 q2 q3 (.inr ⟨rfl,h0⟩) ⟨[],hev,hlen,hty,.inl ⟨rfl,hNp,VX hNp (VZ hs.hN q4.size),rfl⟩⟩ (fun _ hN=>by have:cz.a.block=0:=rfl;omega)
   exact ⟨_,w',.run,V,fr,g1.trans hg,.norm _ _,.vl ts _ s'.n _ cz (bG _ _ _) (.inl ⟨hV,by simp [cz],hlen⟩),q6,q7,q8,q9⟩
  ·have hNg:N≤g:=VZ hs.hN r1
   have hg:=g1.sr.N3 (k:=.vec true t ts (.op .len [y]) y) (ent:=⟨⟨g,0,none⟩,some (cur.size,t)⟩) hG q4 q1 q2 q3 (.inl r1)
    ⟨L,hev,hlen,hty,.inr ⟨g,cur,rfl,hNg,r2,r6,fun j d hj=>let ⟨u,x1,x2⟩:=r7 j d hj;⟨u,x1,x2,fun h=>by cases h⟩⟩⟩ (fun _ _ ad v ha=>r8 ad v ha)
   exact ⟨_,w',.run,_,fr,g1.trans hg,.norm _ _,.vl ts _ s'.n _ _ (bG _ _ _) (.inr ⟨L.length,c,rfl,rfl,hlen,r4,r5,fun sz t' hh=>by cases hh;exact r3⟩),q6,q7,q8,q9⟩
end
section
variable [Env] {P:Program} {N:Nat} {μ:bw} {s:St} {w0 w:World}
noncomputable def ib (μ:bw) (w0 w:World):Addr→Option Value:=fun ad=>match μ.fz ad with |some v=>some v |none=>if w0.heap.size≤ad.block then w.cell? ad else none
theorem m8 {ad:Addr} {v:Value} (h:μ.fz ad=some v):ib μ w0 w ad=some v:=by
 unfold ib
 rw [h]
theorem xK (hs:SR P N μ s w) {ad:Addr} {v:Value} (hb:w0.heap.size≤ad.block) (h:w.cell? ad=some v):ib μ w0 w ad=some v:=by
 unfold ib
 cases hf:μ.fz ad with
 |some u=>have:=hs.fW ad u hf;rw [h] at this;exact this.symm
 |none=>simp only [if_pos hb];exact h
theorem DJ (hs:SR P N μ s w) {ad:Addr} {v:Value} (h:ib μ w0 w ad=some v):w.cell? ad=some v:=by
 unfold ib at h
 cases hf:μ.fz ad with
 |some u=>
  rw [hf] at h
  replace h:some u=some v:=h
  rw [←VF h]
  exact hs.fW ad u hf
 |none=>
  rw [hf] at h
  by_cases hb:w0.heap.size≤ad.block
  ·simpa [if_pos hb] using h
  ·simp [if_neg hb] at h
theorem BM (hs:SR P N μ s w) (hN:w0.heap.size≤N) {v v2:AV} {u:Value} {d:D} (hv:VR P μ v u) (hr:CE P s v=some v2) (hd:od v2=some d):dY (ib μ w0 w) d u:=by
 have mono: ∀{e:D},dY μ.fz e u→dY (ib μ w0 w) e u:=fun h=>h.mono fun ad v h=>m8 h
 cases v<;>first |(cases hr;done) |skip
 case bool b=>cases hr;exact mono (fP hv hd)
 case int k n=>cases hr;exact mono (fP hv hd)
 case str l=>cases hr;exact mono (fP hv hd)
 case tm t x=>cases hr;exact mono (fP hv hd)
 case an=>cases hr;cases hd;cases hv;exact .nil
 case e0 zz=>cases hr;cases hd;cases hv with |e0 _ ad c _ hm=>exact nO ad hm
 case slice b o n fV wh=>
  obtain ⟨k,hk,hr⟩:=aa.1 hr
  cases k<;>first |(cases hr;done) |skip
  rename_i own e len cl
  obtain ⟨hown,hr⟩:=aj.1 (show au own (ab (lQ P 12 e) fun ts=>ab (s.cells b o (Nat.mul n ts.length)) fun cs=>omap (lH ts n (.op .nil []) cs) fun x=>AV.tm (.aF ts) x) none=some v2 from hr)
  subst hown
  obtain ⟨ts,hts,hr⟩:=aa.1 hr
  obtain ⟨cs,hcs,hr⟩:=aa.1 hr
  obtain ⟨x,hx,rfl⟩:=aO.1 hr
  cases hd
  show dY (ib μ w0 w) (ev x) u
  cases hv with
  |slice _ _ _ _ _ en ad c hen had hnc hmc hlim hc=>
   obtain ⟨e1,e2,us,e3,e4,e5⟩:=hs.iq hen hcs
   obtain ⟨R,r1,r2,r3,r4,r5⟩:=iB e3 hx (show ev (Tm.op .nil [])= .aF [] from rfl)
   rw [List.nil_append] at r1
   rw [r1]
   have hfl:R.flatten.length=n*ts.length:=by rw [iO (z:=ts.length) fun r hr=>bD (r3 r hr),r2]
   have hbr:BR P N μ w (.cells true e len cl) en:=by
    obtain ⟨k',q1,q2⟩:=hs.bU b en hen
    rw [hk] at q1;cases q1;exact q2
   obtain ⟨g,sz,cur,rfl,hNg,_⟩:=hbr
   have hcell: ∀j,j<R.flatten.length→ad=(⟨g,0,none⟩:Addr).add o∧∃d v,R.flatten[j]? =some d∧w.cell? (ad.add j)=some v∧dY μ.fz d v:=by
    intro j hj
    have hn0:0<n:=by
     rcases Nat.eq_zero_or_pos n with h0 |h0
     ·rw [hfl,h0] at hj;simp at hj
     ·exact h0
    have ha:ad=(⟨g,0,none⟩:Addr).add o:=had.elim id (fun h=>by omega)
    obtain ⟨v,q1,q2⟩:=r5 j _ (Wj hj)
    refine ⟨ha,_,v,Wj hj,?_,q2⟩
    rw [ha,add_add,e5 j (by show j<n*ts.length;rw [←hfl];exact hj)]
    exact q1
   rw [←r2] at hnc⊢
   refine .aF R ad c (fun j=>(w.cell? (ad.add j)).getD undef) hnc hmc (fun j hj=>?_) fun j d hj=>?_
   ·obtain ⟨ha,d,v,_,q1,_⟩:=hcell j hj
    rw [q1]
    refine xK hs ?_ q1
    rw [ha,add_add,w6]
    exact VZ hN hNg
   ·obtain ⟨_,d',v,q0,q1,q2⟩:=hcell j (List.getElem?_eq_some_iff.1 hj).1
    rw [hj] at q0
    cases q0
    rw [q1]
    exact q2.mono fun ad v h=>m8 h
 case vl ts n b=>
  obtain ⟨k,hk,hr⟩:=aa.1 hr
  obtain ⟨⟨t,q⟩,hq,rfl⟩:=aO.1 hr
  cases hd
  show dY (ib μ w0 w) (ev q) u
  obtain ⟨e,L,he,_,_,q1,q2,q3,q4⟩:=iC hs hv hk hq
  rw [q1]
  rcases q4 with ⟨rfl |⟨ad,rfl⟩,rfl,_⟩ |⟨g,c,cur,rfl,_,r1,r2,r3,r4,r5,r6⟩
  ·exact .nil
  ·exact nO _ (Nat.zero_le _)
  ·have hle:L.flatten.length≤cur.size:=by rw [q3.flat,r3];exact Nat.mul_le_mul_right _ r4
   refine .aF L ⟨g,0,none⟩ c (fun j=>cur.getD j undef) r4 r5 (fun j hj=>?_) fun j d hj=>?_
   ·refine xK hs (by rw [add_zero];exact VZ hN r1) ?_
    have hj':j<cur.size:=by omega
    rw [add_zero]
    simp [World.cell?,r2,We,hj']
   ·obtain ⟨v,x1,x2⟩:=r6 j d hj
    have:cur.getD j undef=v:=by rw [We,x1];rfl
    rw [this]
    exact x2.mono fun ad v h=>m8 h
theorem xL (hs:SR P N μ s w) (hN:w0.heap.size≤N): ∀{l l2:List AV} {C:List Value} {ds:List D},b8 P μ l C→EN P s l=some l2→dz l2=some ds→kf (ib μ w0 w) ds C
 |[],l2,C,ds,hv,hr,hd=>by cases hr;cases hd;cases hv;exact .nil
 |v::vs,l2,C,ds,hv,hr,hd=>by
  obtain ⟨x,h1,h2⟩:=aa.1 (show ab (CE P s v) (fun x=>omap (EN P s vs) fun xs=>x::xs)=some l2 from hr)
  obtain ⟨xs,h3,rfl⟩:=aO.1 h2
  obtain ⟨d,h4,h5⟩:=Option.bind_eq_some_iff.1 hd
  obtain ⟨es,h6,rfl⟩:=Option.map_eq_some_iff.1 h5
  cases hv with
  |cons _ u _ us g1 g2=>exact .cons _ _ _ _ (BM hs hN g1 h1 h4) (xL hs hN g2 h3 h6)
theorem Ux {v:AV} {d:DV} (h:(od v).map DV.c=some d): ∃e,od v=some e∧d= .c e:=by
 obtain ⟨e,h1,rfl⟩:=Option.map_eq_some_iff.1 h
 exact ⟨e,h1,rfl⟩
def DK:AV→Bool
 | .agg _=>false
 | .tuple _=>false
 |_=>true
theorem DL {v:AV} (h:DK v=true):bk v=(od v).map .c:=by
 cases v<;>first |(cases h;done) |(unfold bk;rfl)
theorem DM {v v2:AV} (h:CE P s v=some v2):DK v2=true:=by
 cases v<;>first |(cases h;done) |skip
 case vl ts n b=>
  obtain ⟨k,hk,hr⟩:=aa.1 h
  obtain ⟨q,_,rfl⟩:=aO.1 hr
  rfl
 case slice b o n fV wh=>
  obtain ⟨k,hk,hr⟩:=aa.1 h
  cases k<;>first |(cases hr;done) |skip
  obtain ⟨_,hr⟩:=aj.1 hr
  obtain ⟨ts,_,hr⟩:=aa.1 hr
  obtain ⟨cs,_,hr⟩:=aa.1 hr
  obtain ⟨x,_,rfl⟩:=aO.1 hr
  rfl
 all_goals (cases h;rfl)
theorem eu {v:AV} (h:DK v=true):ja P s v=CE P s v:=by
 cases v<;>first |(cases h;done) |(unfold ja;rfl)
theorem mC (hs:SR P N μ s w) (hN:w0.heap.size≤N) {v v2:AV} {u:Value} {d:DV} (hv:VR P μ v u) (hr:CE P s v=some v2) (hd:bk v2=some d):wE (ib μ w0 w) d u:=by
 rw [DL (DM hr)] at hd
 obtain ⟨e,h1,rfl⟩:=Ux hd
 exact .c _ _ (BM hs hN hv hr h1)
mutual
theorem BN (hs:SR P N μ s w) (hN:w0.heap.size≤N): ∀{v v2:AV} {u:Value} {d:DV},VR P μ v u→ja P s v=some v2→bk v2=some d→wE (ib μ w0 w) d u
 | .agg l,v2,u,d,hv,hr,hd=>by
  unfold ja at hr
  obtain ⟨l2,h1,rfl⟩:=aO.1 hr
  unfold bk at hd
  obtain ⟨ds,h2,rfl⟩:=Option.map_eq_some_iff.1 hd
  cases hv with
  |agg _ C hC _=>exact .agg _ _ (xL hs hN hC h1 h2)
 | .tuple l,v2,u,d,hv,hr,hd=>by
  unfold ja at hr
  obtain ⟨l2,h1,rfl⟩:=aO.1 hr
  unfold bk at hd
  obtain ⟨ds,h2,rfl⟩:=Option.map_eq_some_iff.1 hd
  cases hv with
  |tuple _ C hC=>exact .jO _ _ (xM hs hN hC h1 h2)
 | .bool b,v2,u,d,hv,hr,hd=>mC hs hN hv (by rw [←eu rfl];exact hr) hd
 | .int k n,v2,u,d,hv,hr,hd=>mC hs hN hv (by rw [←eu rfl];exact hr) hd
 | .str l,v2,u,d,hv,hr,hd=>mC hs hN hv (by rw [←eu rfl];exact hr) hd
 | .an,v2,u,d,hv,hr,hd=>mC hs hN hv (by rw [←eu rfl];exact hr) hd
 | .tm t x,v2,u,d,hv,hr,hd=>mC hs hN hv (by rw [←eu rfl];exact hr) hd
 | .vl ts n b,v2,u,d,hv,hr,hd=>mC hs hN hv (by rw [←eu rfl];exact hr) hd
 | .float ..,v2,u,d,hv,hr,hd=>by unfold ja at hr;cases hr
 | .ptr ..,v2,u,d,hv,hr,hd=>by unfold ja at hr;cases hr
 | .bX,v2,u,d,hv,hr,hd=>by unfold ja at hr;cases hr
 | .slice b o n l wh,v2,u,d,hv,hr,hd=>mC hs hN hv (by rw [←eu rfl];exact hr) hd
 | .e0 _,v2,u,d,hv,hr,hd=>mC hs hN hv (by rw [←eu rfl];exact hr) hd
 | .pe ..,v2,u,d,hv,hr,hd=>by unfold ja at hr;cases hr
 | .fb ..,v2,u,d,hv,hr,hd=>by unfold ja at hr;cases hr
 | .map _,v2,u,d,hv,hr,hd=>by unfold ja at hr;cases hr
 | .cd,v2,u,d,hv,hr,hd=>by unfold ja at hr;cases hr
 | .func ..,v2,u,d,hv,hr,hd=>by unfold ja at hr;cases hr
 | .yield _,v2,u,d,hv,hr,hd=>by unfold ja at hr;cases hr
 | .bN,v2,u,d,hv,hr,hd=>by unfold ja at hr;cases hr
 | .iface ..,v2,u,d,hv,hr,hd=>by unfold ja at hr;cases hr
 | .bu,v2,u,d,hv,hr,hd=>by unfold ja at hr;cases hr
 | .bad,v2,u,d,hv,hr,hd=>by unfold ja at hr;cases hr
theorem xM (hs:SR P N μ s w) (hN:w0.heap.size≤N): ∀{l l2:List AV} {C:List Value} {ds:List DV},b8 P μ l C→Ac P s l=some l2→bI l2=some ds→js (ib μ w0 w) ds C
 |[],l2,C,ds,hv,hr,hd=>by
  unfold Ac at hr
  cases hr
  unfold bI at hd
  cases hd
  cases hv
  exact .nil
 |v::vs,l2,C,ds,hv,hr,hd=>by
  unfold Ac at hr
  obtain ⟨x,h1,h2⟩:=aa.1 hr
  obtain ⟨xs,h3,rfl⟩:=aO.1 h2
  unfold bI at hd
  obtain ⟨d,h4,h5⟩:=Option.bind_eq_some_iff.1 hd
  obtain ⟨es,h6,rfl⟩:=Option.map_eq_some_iff.1 h5
  cases hv with
  |cons _ u _ us g1 g2=>exact .cons _ _ _ _ (BN hs hN g1 h1 h4) (xM hs hN g2 h3 h6)
end
theorem GX (hP:cB P) {bs:List aY} (hB:y6 P bs) (hW: ∀w,ke bs w→Env.base w) {orc:NV} (ho:jW P orc.call) (hh: ∀N,sE P N orc.loop) {f:FuncId} {args:List AV} {n:Nat} {v v2:AV} {rc:Option cE} {s1:St}
 (hr:run P orc n (.call f args none) aN.none (nM bs)=some (.fin (.returned v) rc s1)) (hres:ja P s1 v=some v2) {ds:List DV} {r:DV} {ok:List Value→Prop} (hargs: ∀fz us,js fz ds us→ok us→b8 P (uQ P fz) args us) (hd:bk v2=some r):BK P bs f ds r ok:=by
 refine ⟨((kV (N:=0) hP ho (hh 0) n).call _ _ _ _ _ _ hr).1,fun w fz us cs hb hfz hus hok=>?_⟩
 have hsr:=JD (P:=P) hfz hB (hW w hb)
 obtain ⟨μ',w',u',V,fr,hg,_,hV,hst,hfn,hk,hgo⟩:=((kV (N:=w.heap.size) hP ho (hh _) n).call _ _ _ _ _ _ hr).2 (uQ P fz) w (.norm cs) .run us hsr (hargs fz us hus hok) (.norm _ _)
 refine ⟨ib μ' w w',w',V,fr,fun ad v h=>m8 (hg.ext.sub.fz ad v h),fun ad v h=>DJ hg.sr h,fun ad v h=>?_,⟨hg.ev.os,hg.ev.tape,hg.ev.output,hg.ev.size,fun j hj=>hg.ev.same j hj (.inl hj)⟩,BN hg.sr (VY _) hV hres hd,hst,hfn,hk,hgo⟩
 unfold ib at h
 cases hf:μ'.fz ad with
 |some x=>
  rw [hf] at h
  rcases hg.ext.fZ ad x hf with q |q |⟨b₀,e₀,q1,q2⟩
  ·replace h:some x=some v:=h
   rw [←VF h]
   exact .inl q
  ·exact .inr (.inl q)
  ·obtain ⟨g1,rfl⟩:=DG q1
   exact .inr (.inr (by rw [←q2];exact g1))
 |none=>
  rw [hf] at h
  by_cases hb:w.heap.size≤ad.block
  ·exact .inr (.inl hb)
  ·simp [if_neg hb] at h
end
end
section
open Go Go.RowKit
def rl (E Eo:Env) (P:Program) (f:FuncId) (args:List AV) (s0:St) (v:AV) (so:St) (bo:List Pos):Prop:=
 (∃fn c,P.funcs[f]? =some fn∧fn.body=some c)∧∀N μ w cs us,@SR E P N μ s0 w→@b8 E P μ args us→
  ∃μo w' V fr,@SR Eo P N μo so w'∧@VR Eo P μo v V∧Way N μ w μo w' bo∧Steps P (lone (YN P f us.toArray .normal) cs w) (lone fr cs w')∧fr.fn=f∧fr.kind= .normal∧fr.going P w' (.returned V)
section
variable {P:Program} {bo:List Pos} {ν νo:iD} {orc:NV} {f:FuncId} {n:Nat} {args:List AV} {s0 s1 so:St} {v vo:AV} {q qo qa qv:gX}
theorem MO {E Er Eo:Env} (hP:cB P) (hG0:0<P.globals.size) (hA:Alike E Er) (hB:Alike Er Eo) (ho: @jW Er P orc.call) (hh: ∀N,@sE Er P N orc.loop)
 (hfa:cX νo args args=some qa) (hea:bL E Er qa) (hfi:da P.globals.size νo none none aN.none s0 aN.none s0=some qo) (hei:bL E Er qo) (hki:dc νo bo=true) {rc:Option cE}
 (hr: @run Er.toGam P orc n (.call f args none) aN.none s0=some (.fin (.returned v) rc s1)) (hfv:bE ν vo v=some qv) (hev:bL Er Eo qv) (hf:da P.globals.size ν none none aN.none so aN.none s1=some q) (he:bL Er Eo q)
 (hk:dc ν bo=true) (hkl:iX s0.n bo=true):rl E Eo P f args s0 vo so bo:=by
 refine ⟨(@gL.call Er P 0 _ (@kV Er P 0 hP orc ho (hh 0) n) _ _ _ _ _ _ hr).1,fun N μ w cs us hs ha=>?_⟩
 have hg0:=@SR.eZ E _ _ _ _ _ hs 0 hG0
 obtain ⟨_,d2,_⟩:=cM hfi hei
 obtain ⟨_,c2,_⟩:=cM hf he
 obtain ⟨μ',w',u',V,fr,hg,_,hV,hst,hfn,hkd,hgo⟩:=(@gL.call Er P N _ (@kV Er P N hP orc ho (hh N) n) _ _ _ _ _ _ hr).2 (fG νo μ) w (.norm cs) .run us (dF hfi hei hA hs) (dP (fE d2) hfa hea ha) (@RR.norm Er P _ _ _)
 have hsr:=@bF.sr Er _ _ _ _ _ _ _ _ hg
 exact ⟨fG ν μ',w',V,fr,dF hf he hB hsr,cU (fE c2) hfv hev hV,((@Way.sU P N bo w w' _ μ' Er _ _ hg hkl).post (@SR.eZ Er _ _ _ _ _ hsr 0 hG0) hk c2).pre hg0 hki d2,hst,hfn,hkd,hgo⟩
theorem JG {E E2 E':Env} (hG0:0<P.globals.size) (hA2:Alike E E2) (hA:Alike E E') {args0:List AV} {ν':iD} {s:St} {rows:List (Pos×aY)} {n1:Pos} {q':gX}
 (hfa:cX ν args0 args=some qa) (hea:bL E E2 qa) (hf:da P.globals.size ν none none aN.none s0 aN.none s=some q) (he:bL E E2 q) (hfv:bE ν' v vo=some qv) (hev:bL E' E qv)
 (hfo:rh P.globals.size bo ν ν' s aN.none so aN.none rows n1=some q') (he':bL E' E q') (hL:rl E2 E' P f args0 s0 vo so bo):
 (∃fn c,P.funcs[f]? =some fn∧fn.body=some c)∧∀N μ w cs us,@SR E P N μ s w→@b8 E P μ args us→@lK E P N (.norm cs) f (lone (YN P f us.toArray .normal) cs w) μ s w ((fj.gen v (iW s rows n1)).out s):=by
 refine ⟨hL.1,fun N μ w cs us hs ha=>?_⟩
 obtain ⟨_,c2,_⟩:=cM hf he
 obtain ⟨μo,w',V,fr,g1,g2,g3,g4,g5,g6,g7⟩:=hL.2 N (fG ν μ) w cs us (dF hf he hA2 hs) (dP (fE c2) hfa hea ha)
 obtain ⟨hN,hg⟩:=BH hG0 hA hf he hs hfo he' g1 g3
 exact ⟨uO ν' μo μ,w',.run,V,fr,hg,@RR.norm E P _ _ _,cU hN hfv hev g2,g4,g5,g6,g7⟩
end
end
end Go.Proofs.Sai
