/- Part IB of the proof of VerifyDead: texts of the interpreter and what it shows, under short names. No condition. -/
import Derived.Test.YtgfhbomiljhjpaaGreatDoorIA
import Derived.Laws.Sem
import Derived.Laws.Entries
import Derived.Laws.NewBlocks
import Derived.ChangeKeysEq
import Derived.IntWalk
import Derived.Laws.StructEq
import Derived.LaidEql
import GoSem.Instr.Lookup
import Derived.Lib.SlBytesConst
import Derived.Lib.UnsafeStr
import Derived.Great.FillDense
import Derived.Laws.MakeOwn
import Derived.Laws.Tables
import Derived.Lib.ConvBytes
import Derived.Laws.BytesArg
set_option linter.unusedVariables false
set_option linter.unusedSimpArgs false
set_option linter.unusedSectionVars false
open Array renaming getD_eq_getD_getElem?→We,getElem?_setIfInBounds_ne→Wf,ext'→Wl,getElem?_eq_getElem→Wo,getElem?_modify→Wr,getElem?_toList→WM,foldl_toList→Xa,toList_zipIdx→Xb
open Bool renaming and_eq_true→V1,eq_iff_iff→VO,or_eq_true→WW
open Go.Addr renaming add→Wg
open Go.ByteArray renaming toList_eq→WO
open Go.Conv renaming unsafePointer→W6
open Go.Great renaming foldl_set→Xc
open Go.Instr renaming alloc→Ww,loadAt→Wz,sureAddr→WA,makeInterface→WC,makeFunc→WD,extract→WE,fieldAt→WH,indexAt→WK,index→WL,fill→Xe,buildSlice→Xj,makeMap→Xm
open Go.IntWalk renaming i64_in→WJ
open Go.Lib renaming bytesWorld→W7,bytesWorld_size→W8
open Go.Op renaming equalIn→WQ,equal→WR,maxDepth→WV,intDiv→WY,intArith→WZ,intBits→W0,intCmp→W1,floatArith→W2,unary→W4
open Go.Program renaming cellsOf→Wb,fieldsOf→WS,built→Xi
open Go.Result renaming andThen_ok→Wd
open Go.Sem renaming run_bind→Wc,run_pure→WG
open Go.Utf8 renaming encode→W9
open Go.Value renaming bool→W3
open Go.World renaming cell?→Wh,grownBy_alloc→Wn,setCell→Wq,freeze→W5
open Int renaming eq_ofNat_of_zero_le→Ws,ofNat→Vw,toNat_natCast→Wt,natCast_mul→WI,ofNat_eq_natCast→VP,natCast_nonneg→WN
open List renaming getElem_of_mem→Wi,getElem?_eq_getElem→Wj,eq_nil_of_length_eq_zero→Wk,length_cons→V8,mem_cons_self→V2,mem_cons_of_mem→V3,map_cons→VT,map_nil→VU,getElem_mem→Wv,not_mem_nil→VS,replicate→Wx,range'→Wy,getElem?_take→VK,getElem?_drop→VM,flatten_cons→V5,length_append→V7,getElem?_append_left→VJ,getElem?_append_right→VL,cons_append→WB,getElem?_map→VV,map→WT,getElem?_append→Xd,length_take→V9,zip_nil_left→Xf,zip_cons_cons→Xg,append_assoc→Xh,take_zero→Xk,nil_append→Xl
open Nat renaming ble→Vv,succ→Vt,le_of_ble_eq_true→VQ,add→Vy,add_assoc→Wm,le_refl→VY,lt_of_lt_of_le→VX,succ_mul→V6,mul_le_mul_right→Wu,beq→Vo,eq_of_beq_eq_true→VN,mul→VC,min_eq_left→Wa
open Option.some renaming inj→VF
namespace Go.Proofs.Sai
section
open Go Go.RowKit
variable [Env]
section
variable {P:Program}
theorem pB {t:TypeId} {i:TypeInfo} (h:P.info? t=some i) (w:World):(typeInfo t).run P w= .ok i w:=by
 simp [typeInfo,h]
theorem bq {t:TypeId} {n:Nat} (h:bA P t=some n) (w:World):(sizeOf t).run P w= .ok n w:=by
 obtain ⟨i,hi,rfl⟩:=Option.map_eq_some_iff.1 h
 simp [sizeOf,pB hi]
theorem cq {t:TypeId} {n:Nat} (h:bA P t=some n):P.cellsOf t=n:=by
 unfold bA at h
 unfold Wb
 rw [h];rfl
theorem fA {t:TypeId} {n:Nat} (h:ju P t=some n): ∃i,P.info? t=some i∧i.bytes=n:=by
 obtain ⟨i,hi,rfl⟩:=Option.map_eq_some_iff.1 h
 exact ⟨i,hi,rfl⟩
theorem fN {t:TypeId} {g:Bool} (h:Cz P t=some g) (w:World):(isAgg t).run P w= .ok g w:=by
 obtain ⟨d,hd,rfl⟩:=Option.map_eq_some_iff.1 h
 unfold isAgg
 rw [Wc,run_underlying hd,Wd]
 cases d<;>rfl
theorem cA {t e:TypeId} (h:dJ P t=some e):P.underlying t=some (.slice e):=by
 unfold dJ at h
 split at h
 ·cases h;assumption
 ·cases h
theorem jl {t:TypeId} {f:Nat} {fd:Field} (h:jv P t f=some fd): ∃fs,P.underlying t=some (.struct fs)∧fs[f]? =some fd:=by
 unfold jv at h
 split at h
 ·exact ⟨_,by assumption,h⟩
 ·cases h
theorem fB {t:TypeId} {q:TypeId×TypeId} (h:sB P t=some q):P.underlying t=some (.map q.1 q.2):=by
 unfold sB at h
 split at h
 ·cases h;assumption
 ·cases h
theorem nS {e:TypeId} (h:rL P e=true):P.underlying e=some (.int .u8):=by
 unfold rL at h
 split at h
 ·assumption
 ·cases h
theorem rT {e:TypeId} (h:yd P e=true):P.underlying e=some .string:=by
 unfold yd at h
 split at h
 ·assumption
 ·cases h
theorem rU {t:TypeId} (h:o6 P t=false): ∃d,P.underlying t=some d∧∀ms,d≠.interface ms:=by
 unfold o6 at h
 split at h
 ·cases h
 ·cases h
 ·rename_i x h1 h2
  cases hd:P.underlying t with
  |none=>exact absurd hd h2
  |some d=>exact ⟨d,rfl,fun ms e=>h1 ms (by rw [hd,e])⟩
end
mutual
theorem kJ {P:Program} {μ:bw}: ∀(c:Value) (v:AV),Cy c=some v→VR P μ v c
 | .bool b,v,h=>by cases h;exact .bool b
 | .int k n,v,h=>by cases h;exact .int k n
 | .float k b,v,h=>by cases h;exact .float k b
 | .string s,v,h=>by cases h;exact .str _ s rfl
 | .pointer none,v,h=>by cases h;exact .bX
 | .slice none 0 0,v,h=>by cases h;exact .an
 | .map none,v,h=>by cases h;exact .cd
 | .nilFunc,v,h=>by cases h;exact .bN
 | .nilIface,v,h=>by cases h;exact .bu
 | .agg ⟨cs⟩,v,h=>by
  unfold Cy at h
  split at h
  ·rename_i l hl
   cases ho:l.all AV.one with
   |false=>rw [ho] at h;cases h
   |true=>
    rw [ho] at h
    cases h
    exact .agg l cs (mh cs l hl) (by rw [ik];exact ho)
  ·cases h
 | .tuple ⟨cs⟩,v,h=>by
  unfold Cy at h
  split at h
  ·rename_i l hl;cases h;exact .tuple l cs (mh cs l hl)
  ·cases h
 | .complex ..,v,h=>by cases h
 | .pointer (some _),v,h=>by cases h
 | .slice (some _) _ _,v,h=>by cases h
 | .slice none (_+1) _,v,h=>by cases h
 | .slice none 0 (_+1),v,h=>by cases h
 | .map (some _),v,h=>by cases h
 | .chan _,v,h=>by cases h
 | .func ..,v,h=>by cases h
 | .iface ..,v,h=>by cases h
theorem mh {P:Program} {μ:bw}: ∀(cs:List Value) (l:List AV),z4 cs=some l→b8 P μ l cs
 |[],l,h=>by cases h;exact .nil
 |c::cs,l,h=>by
  unfold z4 at h
  split at h
  ·rename_i a ha
   split at h
   ·rename_i as has
    cases h
    exact .cons a c as cs (kJ c a ha) (mh cs as has)
   ·cases h
  ·cases h
end
theorem cN {P:Program} {μ:bw} {t:TypeId} {z:AV} (h:cV P t=some z) (w:World): ∃zv,(zeroValue t).run P w= .ok zv w∧VR P μ z zv∧∃i,P.info? t=some i∧i.zero=some zv:=by
 obtain ⟨i,hi,h⟩:=Option.bind_eq_some_iff.1 h
 obtain ⟨zv,hz,h⟩:=Option.bind_eq_some_iff.1 h
 exact ⟨zv,by simp [zeroValue,pB hi,hz],kJ zv z h,i,hi,hz⟩
inductive DR (P:Program) (μ:bw):kz→Deferred→Prop
 |fn (f:FuncId) (cap args:List AV) (C A:List Value) (hc:b8 P μ cap C) (ha:b8 P μ args A):DR P μ ⟨.fn f cap,args⟩ {target:=.fn (.func f) C.toArray,args:=A.toArray}
 |collected (b:Pos) (e:fx) (h:μ b=some e):DR P μ ⟨.collected b,[]⟩ {target:=.collected e.a.block,args:= #[]}
inductive yJ (P:Program) (μ:bw):List kz→List Deferred→Prop
 |nil:yJ P μ [] []
 |cons (d:kz) (c:Deferred) (ds:List kz) (cs:List Deferred) (h:DR P μ d c) (hs:yJ P μ ds cs):yJ P μ (d::ds) (c::cs)
theorem DR.mono {P:Program} {μ μ':bw} (hs:Sub μ μ') {d:kz} {c:Deferred} (h:DR P μ d c):DR P μ' d c:=by
 cases h with
 |fn f cap args C A hc ha=>exact .fn f cap args C A (hc.mono hs) (ha.mono hs)
 |collected b e h=>exact .collected b e (hs _ _ h)
theorem yJ.mono {P:Program} {μ μ':bw} (hs:Sub μ μ') {d:List kz} {c:List Deferred} (h:yJ P μ d c):yJ P μ' d c:=by
 induction h with
 |nil=>exact .nil
 |cons d c ds cs h _ ih=>exact .cons d c ds cs (h.mono hs) ih
structure AR (P:Program) (μ:bw) (a:aN) (ca:Act):Prop where
 tm:TR P μ a.tm ca.tmps
 size:ca.tmps.size=a.n
 defers:yJ P μ a.defers ca.defers
theorem AR.mono {P:Program} {μ μ':bw} (hs:Sub μ μ') {a:aN} {ca:Act} (h:AR P μ a ca):AR P μ' a ca:=⟨h.tm.mono hs,h.size,h.defers.mono hs⟩
section
variable {P:Program} {N:Nat} {μ:bw} {σ:St} {w:World} {a:aN} {ca:Act}
theorem AR.eval (h:AR P μ a ca) (hs:SR P N μ σ w) {x:Operand} {v:AV} (hv:a.eval P x=some v):VR P μ v (ca.eval x):=by
 cases x with
 |tmp t=>cases hv;exact h.tm t
 |const c=>exact kJ c v hv
 |global g=>
  obtain ⟨h1,h2⟩:=aj.1 (show au (Vv (Vt g) P.globals.size) (some (AV.ptr (pos g) 0)) none=some v from hv)
  cases h2
  exact .ptr (pos g) 0 _ (hs.eZ g (VQ h1))
 |func f=>cases hv;exact .func f [] [] [] [] .nil .nil
theorem AR.cS (h:AR P μ a ca) (hs:SR P N μ σ w) {xs:List Operand} {vs:List AV} (hv:cS P a xs=some vs):b8 P μ vs (xs.map ca.eval):=by
 induction xs generalizing vs with
 |nil=>cases hv;exact .nil
 |cons x xs ih=>
  have hv:ab (a.eval P x) (fun v=>ab (Sai.cS P a xs) fun vs=>some (v::vs))=some vs:=hv
  obtain ⟨v,h1,hv⟩:=aa.1 hv
  obtain ⟨us,h2,hv⟩:=aa.1 hv
  cases hv
  exact .cons _ _ _ _ (h.eval hs h1) (ih h2)
theorem AR.nv (h:AR P μ a ca) (hs:SR P N μ σ w) {x:Option Operand} {v:Option AV} (hv:nv P a x=some v):
 (v=none∧x=none)∨∃u y,v=some u∧x=some y∧VR P μ u (ca.eval y):=by
 cases x with
 |none=>cases hv;exact .inl ⟨rfl,rfl⟩
 |some x=>
  obtain ⟨u,h1,h2⟩:=aO.1 (show omap (a.eval P x) some=some v from hv)
  exact .inr ⟨u,x,h2.symm,rfl,h.eval hs h1⟩
theorem AR.put (h:AR P μ a ca) {d:Option Tmp} {v:AV} {u:Value} {a':aN} (hv:VR P μ v u) (hp:a.put d v=some a'):AR P μ a' (ca.put d u)∧a'.rc=a.rc:=by
 cases d with
 |none=>cases hp;exact ⟨h,rfl⟩
 |some d=>
  obtain ⟨tm,n,df,rc⟩:=a
  obtain ⟨h1,h2⟩:=aj.1 (show au (Vv (Vt d) n) (some (aN.mk (tm.set (pos d) v) n df rc)) none=some a' from hp)
  cases h2
  have hd:d<ca.tmps.size:=by rw [h.size];exact VQ h1
  refine ⟨⟨fun t=>?_,?_,h.defers⟩,rfl⟩
  ·show VR P μ (gu ((tm.set (pos d) v).get (pos t))) ((ca.tmps.setIfInBounds d u).getD t undef)
   by_cases ht:d=t
   ·subst ht
    rw [ij]
    show VR P μ v _
    simpa [We,hd] using hv
   ·rw [kG _ _ (fun e=>ht (pr e))]
    have:=h.tm t
    simpa [We,Wf ht] using this
  ·show (ca.tmps.setIfInBounds d u).size=n
   simpa using h.size
end
def NR (P:Program) (N:Nat) (μ:bw) (σ:St) (w:World) (r:aG) (res:Result Next):Prop:=
 match r with
 | .val v σ'=>∃μ' u w',res= .ok (.value u) w'∧bF P N μ σ w μ' σ' w'∧VR P μ' v u∧(σ'.n=σ.n→μ'=μ)
 | .skip σ'=>∃μ' w',res= .ok .skip w'∧bF P N μ σ w μ' σ' w'
 | .enter f args σ'=>∃us,res= .ok (.enter f us.toArray) w∧σ'=σ∧b8 P μ args us
 | .round l args σ'=>∃e us,μ l=some e∧res=(Instr.yield e.a.block us.toArray).run P w∧σ'=σ∧b8 P μ args us
 | .defer d σ'=>∃c,res= .ok (.defer c) w∧σ'=σ∧DR P μ d c
 | .recover σ'=>res= .ok .recover w∧σ'=σ
 | .panic v σ'=>∃u,res= .halt (.panic u) w∧σ'=σ∧VR P μ v u
section
variable {P:Program} {N:Nat} {μ:bw} {σ:St} {w:World}
theorem SR.iq (h:SR P N μ σ w) {b:Pos} {o n:Nat} {vs:List AV} {e:fx} (hb:μ b=some e) (hc:σ.cells b o n=some vs):
 vs.length=n∧cf vs=true∧∃us,b8 P μ vs us∧us.length=n∧∀i,i<n→w.cell? (e.a.add (o+i))=us[i]? :=by
 obtain ⟨k,hk,hc⟩:=aa.1 hc
 obtain ⟨k',hk',hbr⟩:=h.bU b e hb
 rw [hk] at hk'
 cases hk'
 cases k with
 |cells own t len c=>
  obtain ⟨hle,hsub⟩:=aj.1 (show au (Vv (Vy o n) len) (c.sub o n) none=some vs from hc)
  have hle:o+n≤len:=VQ hle
  have hcr:CR P μ c len (fun i=>w.cell? (e.a.add i)):=by
   cases own with
   |false=>exact hbr.2.2
   |true=>
    obtain ⟨g,sz,cur,rfl,_,h1,h2,h3,h4⟩:=hbr
    intro i hi
    obtain ⟨av,v,q1,q2,q3,q4⟩:=h4 i hi
    refine ⟨av,v,q1,?_,q3,q4⟩
    have:(⟨g,0,none⟩:Addr).add i=⟨g,i,none⟩:=by unfold Wg;split<;>simp_all
    simp only [this,Wh,h1]
    simpa using q2
  obtain ⟨hl,hg⟩:=Cs.Ay hsub hle hcr.isSome
  have hval: ∀i,i<n→∃av v,vs[i]? =some av∧w.cell? (e.a.add (o+i))=some v∧VR P μ av v∧av.one=true:=fun i hi=>by
   obtain ⟨av,v,q1,q2,q3,q4⟩:=hcr (o+i) (by omega)
   exact ⟨av,v,(hg i hi).symm.trans q1,q2,q3,q4⟩
  refine ⟨hl,?_,(List.range n).map (fun i=>(w.cell? (e.a.add (o+i))).getD undef),?_,by simp,fun i hi=>?_⟩
  ·rw [ik]
   refine List.all_eq_true.2 fun x hx=>?_
   obtain ⟨i,hi,hxi⟩:=Wi hx
   obtain ⟨av,v,q1,_,_,q4⟩:=hval i (hl▸hi)
   rw [Wj hi,hxi] at q1
   cases q1
   exact q4
  ·refine b8.jy (by simp [hl]) fun i v u hv hu=>?_
   have hi:i<n:=by
    rcases Nat.lt_or_ge i n with h |h
    ·exact h
    ·rw [List.getElem?_eq_none (by omega)] at hv;cases hv
   obtain ⟨av,v',q1,q2,q3,_⟩:=hval i hi
   rw [q1] at hv
   cases hv
   simp [hi,q2] at hu
   subst hu
   exact q3
  ·obtain ⟨av,v,q1,q2,_,_⟩:=hval i hi
   simp [hi,q2]
 |map _=>cases hc
 |fY _ _=>cases hc
 |loop _=>cases hc
 |deferred _=>cases hc
 |dead=>cases hc
 |Cr _=>cases hc
 |frozen _=>cases hc
 |vec _ _ _ _ _=>cases hc
 |bY _ _ _ _=>cases hc
 |eE _ _ _ _ _ _=>cases hc
theorem run_loadCellsFrom {P:Program} {w:World} (a:Addr): ∀(n i:Nat) (acc:Array Value) (us:List Value),us.length=n→(∀j,j<n→w.cell? (a.add (i+j))=us[j]?)→
 (loadCellsFrom a i n acc).run P w= .ok (acc++us.toArray) w
 |0,i,acc,us,hl,hc=>by
  have:us=[]:=Wk hl
  subst this
  simp [loadCellsFrom]
 |n+1,i,acc,us,hl,hc=>by
  cases us with
  |nil=>simp at hl
  |cons u us=>
   have h0:w.cell? (a.add i)=some u:=by simpa using hc 0 (by omega)
   have ih:=run_loadCellsFrom (P:=P) (w:=w) a n (i+1) (acc.push u) us (by simpa using hl) fun j hj=>by
    have:=hc (j+1) (by omega)
    rw [show i+1+j=i+(j+1) from by omega]
    simpa using this
   simp only [loadCellsFrom,Wc,run_load,h0,Wd,ih]
   congr 1
   apply Wl
   simp
theorem run_loadCells {a:Addr} {n:Nat} {us:List Value} (hl:us.length=n) (hc: ∀j,j<n→w.cell? (a.add j)=us[j]?):(loadCells a n).run P w= .ok us.toArray w:=by
 have:=run_loadCellsFrom (P:=P) (w:=w) a n 0 #[] us hl (by simpa using hc)
 simpa [loadCells] using this
theorem add_add (a:Addr) (o i:Nat):(a.add o).add i=a.add (o+i):=by
 unfold Wg
 by_cases h1:o=0
 ·subst h1;simp
 ·by_cases h2:i=0
  ·subst h2;simp [h1]
  ·rw [if_neg h1,if_neg h2,if_neg (by omega)];simp [Wm]
theorem SR.load (h:SR P N μ σ w) {t:TypeId} {b:Pos} {o:Nat} {v:AV} {e:fx} (hb:μ b=some e) (hv:σ.load P t b o=some v):
 ∃u,(loadVar t (e.a.add o)).run P w= .ok u w∧VR P μ v u∧v≠.bad:=by
 obtain ⟨g,hg,hv⟩:=aa.1 hv
 cases g with
 |true=>
  obtain ⟨n,hn,hv⟩:=aa.1 (show EC P σ t b o=some v from hv)
  obtain ⟨vs,hvs,rfl⟩:=aO.1 hv
  obtain ⟨h1,h2,us,h3,h4,h5⟩:=h.iq hb hvs
  refine ⟨.agg us.toArray,?_,.agg vs us h3 h2,by simp⟩
  have:=run_loadCells (P:=P) (a:=e.a.add o) h4 (fun j hj=>by rw [add_add];exact h5 j hj)
  simp [loadVar,fN hg,bq hn,this]
 |false=>
  obtain ⟨k,hk,hv⟩:=aa.1 (show ab (σ.h.get b) (ED o)=some v from hv)
  cases k with
  |cells own t' len c=>
   obtain ⟨hle,hget⟩:=aj.1 (show au (Vv (Vt o) len) (c.get o) none=some v from hv)
   have hle:o<len:=VQ hle
   obtain ⟨k',hk',hbr⟩:=h.bU b e hb
   rw [hk] at hk'
   cases hk'
   have hcell: ∃u,w.cell? (e.a.add o)=some u∧VR P μ v u∧v.one=true:=by
    cases own with
    |false=>
     obtain ⟨av,u,q1,q2,q3,q4⟩:=hbr.2.2 o hle
     rw [hget] at q1
     cases q1
     exact ⟨u,q2,q3,q4⟩
    |true=>
     obtain ⟨g,sz,cur,rfl,_,p1,p2,p3,p4⟩:=hbr
     obtain ⟨av,u,q1,q2,q3,q4⟩:=p4 o hle
     rw [hget] at q1
     cases q1
     have:(⟨g,0,none⟩:Addr).add o=⟨g,o,none⟩:=by unfold Wg;split<;>simp_all
     exact ⟨u,by simp only [this,Wh,p1];simpa using q2,q3,q4⟩
   obtain ⟨u,q1,q2,q3⟩:=hcell
   exact ⟨u,by simp [loadVar,fN hg,q1],q2,by rintro rfl;cases q3⟩
  |map _=>cases hv
  |fY _ _=>cases hv
  |loop _=>cases hv
  |deferred _=>cases hv
  |dead=>cases hv
  |Cr _=>cases hv
  |frozen _=>cases hv
  |vec _ _ _ _ _=>cases hv
  |bY _ _ _ _=>cases hv
  |eE _ _ _ _ _ _=>cases hv
end
end
section
open Go Go.RowKit
variable [Env]
section
variable {P:Program} {N:Nat} {μ:bw} {σ:St} {w:World} {a:aN} {ca:Act}
theorem iP (w:World) (row:Option Nat):w.grownBy w row:=⟨rfl,rfl,rfl,VY _,fun _ _ _=>rfl⟩
theorem AH {w w' w'':World} {row:Option Nat} (h:w.grownBy w' row) (k:w'.grownBy w'' row):w.grownBy w'' row:=
 ⟨k.os.trans h.os,k.tape.trans h.tape,k.output.trans h.output,Nat.le_trans h.size k.size,fun i hi hne=>(k.block i (VX hi h.size) hne).trans (h.block i hi hne)⟩
theorem add_zero (g j:Nat):(⟨g,0,none⟩:Addr).add j=⟨g,j,none⟩:=by unfold Wg;split<;>simp_all
theorem add_nil (a:Addr):a.add 0=a:=by simp [Wg]
theorem SR.row (h:SR P N μ σ w) (t:TypeId) {vs:List AV} {us:Array Value} (hv:b8 P μ vs us.toList) (ho:cf vs=true):
 bF P N μ σ w (dm μ σ.n ⟨⟨w.heap.size,0,none⟩,some (us.size,t)⟩) (σ.row t vs) (w.alloc (.cells us t)):=by
 have hl:vs.length=us.size:=by simpa using hv.length
 refine h.laid (Wn w _ none) (VY _) ⟨w.heap.size,us.size,us,rfl,h.hN,heap_alloc_new w _,rfl,by omega,fun i hi=>?_⟩
 obtain ⟨v,hvi⟩: ∃v,vs[i]? =some v:=⟨vs[i],Wj hi⟩
 obtain ⟨u,hu,hr⟩:=hv.get hvi
 exact ⟨v,u,by rw [Cs.jy];exact hvi,by simpa using hu,hr.mono (eJ (.inl h.fresh)),gH ho hvi⟩
theorem dK (μ:bw) (b:Pos) (e:fx):dm μ b e b=some e:=bG μ b e
theorem iQ {g o:Nat} {t:TypeId}: ∀(us:List Value) (i:Nat) (cur:Array Value) (w:World),w.heap[g]? =some (.cells cur t (0,0))→(∀u∈us,u.oneCell'=true)→o+i+us.length≤cur.size→
 ∃w' cur',(storeCells ((⟨g,0,none⟩:Addr).add o) us i).run P w= .ok () w'∧w.grownBy w' (some g)∧w'.heap[g]? =some (.cells cur' t (0,0))∧cur'.size=cur.size∧
  ∀j,cur'[j]? =if o+i≤j∧j<o+i+us.length then us[j - (o+i)]? else cur[j]? :=by
 intro us
 induction us with
 |nil=>intro i cur w hg _ _;exact ⟨w,cur,rfl,iP w _,hg,rfl,fun j=>by rw [if_neg (by simp)]⟩
 |cons u us ih=>
  intro i cur w hg h1 hl
  simp only [V8] at hl
  have ha:((⟨g,0,none⟩:Addr).add o).add i=⟨g,o+i,none⟩:=by rw [add_add,add_zero]
  have hcell: ∃x,w.cell? ⟨g,o+i,none⟩=some x:=⟨cur[o+i]'(by omega),by simp [Wh,hg,Wo (show o+i<cur.size by omega)]⟩
  obtain ⟨x,hx⟩:=hcell
  have hfz:w.frozen? ⟨g,o+i,none⟩=false:=by simp [World.frozen?,hg]
  have hst:(Go.store (((⟨g,0,none⟩:Addr).add o).add i) u).run P w= .ok () (w.setCell ⟨g,o+i,none⟩ u):=by
   rw [ha,run_store P w _ u _ (h1 u (V2 ..)),hx]
   simp [hfz]
  have hlt:g<w.heap.size:=(Array.getElem?_eq_some_iff.1 hg).1
  have hg':(w.setCell ⟨g,o+i,none⟩ u).heap[g]? =some (.cells (cur.setIfInBounds (o+i) u) t (0,0)):=by
   simp [Wq,Wr,hg]
  obtain ⟨w',cur',r1,r2,r3,r4,r5⟩:=ih (i+1) _ _ hg' (fun u hu=>h1 u (V3 _ hu)) (by simp;omega)
  have hgr:w.grownBy (w.setCell ⟨g,o+i,none⟩ u) (some g):=⟨rfl,rfl,rfl,by simp [Wq],fun k hk hne=>by
   simp only [Wq,Wr]
   rw [if_neg (fun e=>hne (by rw [e]))]⟩
  refine ⟨w',cur',by simp only [storeCells,Wc,hst,Wd,r1],AH hgr r2,r3,by simpa using r4,fun j=>?_⟩
  rw [r5 j]
  simp only [V8]
  by_cases hj:j=o+i
  ·subst hj
   rw [if_neg (by omega),if_pos (by omega)]
   simp [show o+i<cur.size by omega]
  ·by_cases hj2:o+(i+1)≤j∧j<o+(i+1)+us.length
   ·rw [if_pos hj2,if_pos (by omega),show j - (o+i)=(j - (o+(i+1)))+1 from by omega]
    rfl
   ·rw [if_neg hj2,if_neg (by omega),Wf (fun e=>hj e.symm)]
theorem SR.store (h:SR P N μ σ w) {b:Pos} {o:Nat} {vs:List AV} {us:List Value} {e:fx} {σ':St} (hb:μ b=some e) (hv:b8 P μ vs us) (hs:σ.store b o vs=some σ'):
 ∃w',(storeCells (e.a.add o) us 0).run P w= .ok () w'∧bF P N μ σ w μ σ' w':=by
 obtain ⟨ho,hs⟩:=aj.1 hs
 obtain ⟨k,hk,hs⟩:=aa.1 hs
 obtain ⟨k',hk',hbr⟩:=h.bU b e hb
 rw [hk] at hk'
 cases hk'
 cases k with
 |cells own t len c=>
  obtain ⟨how,hs⟩:=aj.1 (show au own (au (Vv (Vy o vs.length) len) (some (σ.put b (.cells true t len (c.over o vs)))) none) none=some σ' from hs)
  subst how
  obtain ⟨hle,hs⟩:=aj.1 hs
  have hle:o+vs.length≤len:=VQ hle
  cases hs
  obtain ⟨g,sz,cur,rfl,hN,h1,h2,h3,h4⟩:=hbr
  have hlu:vs.length=us.length:=hv.length
  have key:=fun us i cur w=>iQ (P:=P) (g:=g) (o:=o) (t:=t) us i cur w
  have hone: ∀u∈us,u.oneCell'=true:=fun u hu=>by
   obtain ⟨i,hi,hui⟩:=Wi hu
   have hvi:vs[i]? =some (vs[i]'(by omega)):=Wj (by omega)
   obtain ⟨u',hu',hr⟩:=hv.get hvi
   rw [Wj hi,hui] at hu'
   cases hu'
   exact hr.one (gH ho hvi)
  obtain ⟨w',cur',r1,r2,r3,r4,r5⟩:=key us 0 cur w h1 hone (by omega)
  refine ⟨w',r1,h.jA hb hk rfl hN r2 ⟨g,sz,cur',rfl,hN,r3,by omega,h3,fun i hi=>?_⟩⟩
  show ∃av v,(c.over o vs).get i=some av∧cur'[i]? =some v∧VR P μ av v∧av.one=true
  rw [Cs.IE hle h4.isSome i hi,r5 i]
  simp only [Nat.add_zero]
  rw [←hlu]
  by_cases hj:o≤i∧i<o+vs.length
  ·rw [if_pos hj,if_pos hj]
   have hvi:vs[i - o]? =some (vs[i - o]'(by omega)):=Wj (by omega)
   obtain ⟨u,hu,hr⟩:=hv.get hvi
   exact ⟨_,u,hvi,hu,hr,gH ho hvi⟩
  ·rw [if_neg hj,if_neg hj]
   exact h4 i hi
 |map _=>cases hs
 |fY _ _=>cases hs
 |loop _=>cases hs
 |deferred _=>cases hs
 |dead=>cases hs
 |Cr _=>cases hs
 |frozen _=>cases hs
 |vec _ _ _ _ _=>cases hs
 |bY _ _ _ _=>cases hs
 |eE _ _ _ _ _ _=>cases hs
theorem NR.value {v:AV} {u:Value} {res:Result Next} (h:SR P N μ σ w) (hr:res= .ok (.value u) w) (hv:VR P μ v u):NR P N μ σ w (.val v σ) res:=⟨μ,u,w,hr,h.stay,hv,fun _=>rfl⟩
theorem ir {σ:St} {k:aY} {p:Prop}:(σ.push k).n=σ.n→p:=fun h=>by
 have:=congrArg Pos.toNat h
 rw [eh,Pos.bZ] at this
 omega
theorem ei {σ:St} {b:Pos} {k k':aY} {p:Prop}:((σ.put b k).push k').n=σ.n→p:=fun h=>ir (h.trans (jj σ b k).symm)
theorem C0 {σ:St} {t:TypeId} {vs:List AV} {p:Prop}:(σ.row t vs).n=σ.n→p:=ir
theorem ub {l:Array Operand} (a:Act):l.map a.eval=(l.toList.map a.eval).toArray:=by apply Wl;simp
theorem E6 {x:Operand} {r:aG} (h:SR P N μ σ w) (ha:AR P μ a ca) (hr:pf x P a σ=some r):NR P N μ σ w r ((pure (.value (ca.eval x)):Sem Next).run P w):=by
 obtain ⟨v,hv,rfl⟩:=aO.1 hr
 exact NR.value h rfl (ha.eval h hv)
theorem Mm {c x y:Operand} {r:aG} (h:SR P N μ σ w) (ha:AR P μ a ca) (hr:Aj c x y P a σ=some r):
 NR P N μ σ w r ((do pure (.value (if ←asBool (ca.eval c) then ca.eval x else ca.eval y)):Sem Next).run P w):=by
 obtain ⟨v,hv,hr⟩:=aa.1 hr
 have hc:=ha.eval h hv
 obtain ⟨b,hb,hr⟩:=aa.1 (show ab (fH v) (fun b=>omap (au b (a.eval P x) (a.eval P y)) fun v=>aG.val v σ)=some r from hr)
 have hcv:=nQ hc hb
 obtain ⟨u,hu,rfl⟩:=aO.1 hr
 cases b with
 |true=>exact NR.value h (by simp [asBool,hcv]) (ha.eval h hu)
 |false=>exact NR.value h (by simp [asBool,hcv]) (ha.eval h hu)
theorem E7 {own:Bool} {t:TypeId} {ts:List Ty} {m x i:Tm} {e:fx} (hbr:BR P N μ w (.vec own t ts m x) e) {k:IntKind} {n:Int} (hi:ev i= .int k n) (h1:lN i=true) (h2:gb i m=true):
 ∃(g n':Nat) (cur:Array Value) (l:List (List D)) (r:List D),n=(n':Int)∧ev x= .aF l∧l[n']? =some r∧aW ts r∧ev (.op .zZ [x,i])= .ref r∧e=⟨⟨g,0,none⟩,some (cur.size,t)⟩∧N≤g∧w.heap[g]? =some (.cells cur t (0,0))∧
  l.flatten.length=l.length*ts.length∧l.flatten.length≤cur.size∧n'*ts.length+ts.length≤l.flatten.length∧(∀(j:Nat) (d:D),l.flatten[j]? =some d→∃u:Value,cur[j]? =some u∧dY μ.fz d u)∧∀j,j<ts.length→∃u:Value,cur[n'*ts.length+j]? =some u∧dY μ.fz (D.at r j) u:=by
 obtain ⟨l,q1,q2,q3,q4⟩:=hbr
 have hn0:=jk h1 hi
 have hn1:=iA h2 hi q2
 obtain ⟨n',rfl⟩:=Ws hn0
 have hn:n'<l.length:=by have:(Vw l.length:Int)=(l.length:Int):=rfl;omega
 have hrows: ∀r∈l,aW ts r:=by
  obtain ⟨l',e1,h⟩:=q3
  cases e1
  exact h
 have hlen: ∀r∈l,r.length=ts.length:=fun r hr=>bD (hrows r hr)
 have hg:l[n']? =some l[n']:=Wj hn
 have hel:ev (.op .zZ [x,i])= .ref l[n']:=by
  rw [bH]
  simp only [VT,VU,hi,q1]
  show (match l[(n':Int).toNat]? with |some r=>D.ref r |none=>.bad)=_
  rw [Wt,hg]
 have hfl:=iO hlen
 have hin:n'*ts.length+ts.length≤l.flatten.length:=by
  rw [hfl]
  calc n'*ts.length+ts.length=(n'+1)*ts.length:=by rw [V6]
   _≤l.length*ts.length:=Wu _ hn
 rcases q4 with ⟨_,_,_,rfl⟩ |⟨g,cur,rfl,r1,r2,r3,r4⟩
 ·simp at hn
 ·refine ⟨g,n',cur,l,l[n'],rfl,q1,hg,hrows _ (Wv hn),hel,rfl,r1,r2,hfl,r3,hin,fun j d hj=>let ⟨u,x1,x2,_⟩:=r4 j d hj;⟨u,x1,x2⟩,fun j hj=>?_⟩
  have hz:l[n'].length=ts.length:=hlen _ (Wv hn)
  have hgj:(l[n'])[j]? =some ((l[n'])[j]'(by omega)):=Wj (by omega)
  obtain ⟨u,x1,x2,_⟩:=r4 (n'*ts.length+j) _ ((flat_get hlen hg hj).trans hgj)
  exact ⟨u,x1,by rw [D.nR hgj];exact x2⟩
theorem IG {us:Array Value} {t:TypeId} {ts:List Ty} {n x:Tm} {l:List (List D)} (hx:ev x= .aF l) (hn:ev n= .int .i64 (Vw l.length)) (ht:bx (.aF ts) (.aF l)) (hle:l.flatten.length≤us.size) (hr: ∀(j:Nat) (d:D),l.flatten[j]? =some d→∃u,us[j]? =some u∧dY μ.fz d u)
 (g:Nat) (w':World) (μ':bw) (hs:Sub μ μ') (hN:N≤g) (hg:w'.heap[g]? =some (.cells us t (0,0))):BR P N μ' w' (.vec true t ts n x) ⟨⟨g,0,none⟩,some (us.size,t)⟩:=
 ⟨l,hx,hn,ht,.inr ⟨g,us,rfl,hN,hg,hle,fun j d hj=>let ⟨u,q1,q2⟩:=hr j d hj;⟨u,q1,q2.mono hs.fz,fun h=>by cases h⟩⟩⟩
theorem SR.jw (h:SR P N μ σ w) {w':World} {us:Array Value} {t:TypeId} {ts:List Ty} {n x:Tm} {l:List (List D)} (hw:w'.heap=w.heap.push (.cells us t (0,0))) (hos:w'.os=w.os) (htp:w'.tape=w.tape) (hout:w'.output=w.output)
 (hx:ev x= .aF l) (hn:ev n= .int .i64 (Vw l.length)) (ht:bx (.aF ts) (.aF l)) (hle:l.flatten.length≤us.size) (hr: ∀(j:Nat) (d:D),l.flatten[j]? =some d→∃u,us[j]? =some u∧dY μ.fz d u):
 bF P N μ σ w (dm μ σ.n ⟨⟨w.heap.size,0,none⟩,some (us.size,t)⟩) (σ.push (.vec true t ts n x)) w':=
 h.laid ⟨hos,htp,hout,by rw [hw];simp,fun k hk _=>by rw [hw,Array.getElem?_push,if_neg (by omega)]⟩ (VY _)
  ⟨l,hx,hn,ht,.inr ⟨w.heap.size,us,rfl,h.hN,by rw [hw];simp,hle,fun j d hj=>let ⟨u,q1,q2⟩:=hr j d hj;⟨u,q1,q2,fun h=>by cases h⟩⟩⟩
theorem AI {v:AV}: ∀{l:List AV},rP v l=true→∀u∈l,u=v
 |[],_,u,hu=>absurd hu VS
 |x::l,h,u,hu=>by
  obtain ⟨h1,h2⟩:=bB (show au (je v x) (rP v l) false=true from h)
  rcases List.mem_cons.1 hu with rfl |hu
  ·have hs: ∀{x y:AV},je x y=true→x=y:=by
    intro x y h
    unfold je at h
    cases x with
    |int j a=>cases y with
     |int k b=>rw [V1,fL,gf] at h;rw [of_decide_eq_true h.1,eq_of_beq h.2]
     |_=>cases h
    |str a=>cases y with
     |str b=>replace h:wM a b=true:=h;rw [fK] at h;rw [eq_of_beq h]
     |_=>cases h
    |bool a=>cases y with
     |bool b=>replace h:(a==b)=true:=h;rw [eq_of_beq h]
     |_=>cases h
    |_=>cases h
   exact (hs h1).symm
  ·exact AI h2 u hu
theorem w8 {t:TypeId} {r:aG} (h:SR P N μ σ w) (hr:sK t P a σ=some r):
 NR P N μ σ w r ((do pure (.value (←Ww t true (.tuple #[]))):Sem Next).run P w):=by
 obtain ⟨z,hz,hr⟩:=aa.1 hr
 obtain ⟨ho,hr⟩:=aj.1 hr
 cases hr
 obtain ⟨zv,hrun,hzv,_⟩:=cN (μ:=μ) hz w
 have hg:=h.row t (hzv.cells (bT ho)) ho
 refine ⟨_,.pointer (some ⟨w.heap.size,0,none⟩),_,?_,hg,?_⟩
 ·simp [Ww,hrun,newVar,newRow]
 ·have:=VR.ptr (P:=P) (μ:=dm μ σ.n ⟨⟨w.heap.size,0,none⟩,some (zv.cells.size,t)⟩) σ.n 0 _ (dK _ _ _)
  exact ⟨by simpa [add_nil] using this,C0⟩
theorem w9 {t:TypeId} {z:AV} {zv:Value} {q:Ty×Nat} {r:aG} (hzv:VR P μ z zv) (hr:ma t σ z.cells q=some r):
 ∃(c:Tm) (l:List (List D)),r= .val (.pe [q.1] σ.n (.int .i64 0) 0) (σ.push (.vec true t [q.1] (.int .i64 (Vw q.2)) (.op .rep [.int .i64 (Vw q.2),c])))∧ev (.op .rep [.int .i64 (Vw q.2),c])= .aF l∧ev (.int .i64 (Vw q.2))= .int .i64 (Vw l.length)∧
  bx (.aF [q.1]) (.aF l)∧l.flatten.length≤zv.cells.size∧∀(j:Nat) (d:D),l.flatten[j]? =some d→∃u,zv.cells[j]? =some u∧dY μ.fz d u:=by
 cases hzc:z.cells with
 |nil=>rw [hzc] at hr;cases hr
 |cons v l=>
  rw [hzc] at hr
  obtain ⟨c,hc,hr⟩:=aa.1 (show ab (lW q.1 v) (fun c=>au (rP v l&&Vo (Vt l.length) q.2&&Vv q.2 100000000) (some (aG.val (.pe [q.1] σ.n (.int .i64 0) 0) (σ.push (.vec true t [q.1] (.int .i64 (Vw q.2)) (.op .rep [.int .i64 (Vw q.2),c]))))) none)=some r from hr)
  obtain ⟨hb,hr⟩:=aj.1 hr
  cases hr
  simp only [V1] at hb
  obtain ⟨⟨b1,b2⟩,b3⟩:=hb
  have b2:l.length+1=q.2:=VN b2
  have hne:z≠.bad:=by
   rintro rfl
   simp only [AV.cells,List.cons.injEq] at hzc
   obtain ⟨rfl,rfl⟩:=hzc
   cases hty:q.1<;>rw [hty] at hc<;>cases hc
  have hcells:=hzv.cells hne
  rw [hzc] at hcells
  have hsz:zv.cells.size=q.2:=by
   have:=hcells.length
   simp at this
   omega
  have hone: ∀(j:Nat),j<q.2→∃u,zv.cells[j]? =some u∧bx q.1 (ev c)∧dY μ.fz (ev c) u:=by
   intro j hj
   have hlj:j<(v::l).length:=by simp;omega
   obtain ⟨u,q1,q2⟩:=hcells.get (Wj hlj)
   have hv:(v::l)[j]=v:=by
    rcases List.mem_cons.1 (Wv hlj) with h |h
    ·exact h
    ·exact AI b1 _ h
   rw [hv] at q2
   obtain ⟨g1,g2⟩:=ua q2 hc
   exact ⟨u,by simpa using q1,g1,g2⟩
  obtain ⟨_,_,hty,_⟩:=hone 0 (by omega)
  have hev:ev (.op .rep [.int .i64 (Vw q.2),c])= .aF (Wx q.2 [ev c]):=by
   rw [bH]
   simp only [VT,VU]
   show D.aF (Wx (Vw q.2).toNat [ev c])=_
   rfl
  have hfl:(Wx q.2 [ev c]).flatten=Wx q.2 (ev c):=by
   have: ∀n,(Wx n [ev c]).flatten=Wx n (ev c):=by
    intro n
    induction n with
    |zero=>rfl
    |succ n ih=>simp [List.replicate_succ,ih]
   exact this _
  exact ⟨c,_,rfl,hev,by simp;rfl,⟨_,rfl,fun r hr=>by rw [(List.mem_replicate.1 hr).2];unfold aW;exact ⟨_,[],rfl,hty,by unfold aW;rfl⟩⟩,by rw [hfl];simp [hsz],
   fun j d hj=>by
    rw [hfl] at hj
    have hjl:j<q.2:=by simpa using (List.getElem?_eq_some_iff.1 hj).1
    obtain ⟨u,x1,_,x2⟩:=hone j hjl
    have:d=ev c:=by
     rw [List.getElem?_replicate,if_pos hjl] at hj
     exact (VF hj).symm
    subst this
    exact ⟨u,x1,x2⟩⟩
theorem IH {t:TypeId} {r:aG} (h:SR P N μ σ w) (hr:gV t P a σ=some r):
 NR P N μ σ w r ((do pure (.value (←Ww t true (.tuple #[]))):Sem Next).run P w):=by
 cases hm:(Gam.z3:Bool) with
 |false=>
  unfold gV at hr
  rw [hm] at hr
  exact w8 (a:=a) h hr
 |true=>
 replace hr: @Option.rec (Ty×Nat) (fun _=>Option aG) (sK t P a σ) (fun q=>ab (cV P t) fun z=>ma t σ z.cells q) (tH P t)=some r:=by
  unfold gV at hr
  rw [hm] at hr
  exact hr
 cases hq:tH P t with
 |none=>rw [hq] at hr;exact w8 (a:=a) h hr
 |some q=>
  rw [hq] at hr
  obtain ⟨z,hz,hr⟩:=aa.1 (show ab (cV P t) (fun z=>ma t σ z.cells q)=some r from hr)
  obtain ⟨zv,hrun,hzv,_⟩:=cN (μ:=μ) hz w
  obtain ⟨c,l,rfl,f1,f2,f3,f4,f5⟩:=w9 hzv hr
  have hg:=h.jw (w':=w.alloc (.cells zv.cells t)) (us:=zv.cells) (t:=t) rfl rfl rfl rfl f1 f2 f3 f4 f5
  refine ⟨_,.pointer (some ⟨w.heap.size,0,none⟩),_,?_,hg,?_,ir⟩
  ·simp [Ww,hrun,newVar,newRow]
  ·have:=VR.pe (P:=P) (μ:=dm μ σ.n ⟨⟨w.heap.size,0,none⟩,some (zv.cells.size,t)⟩) [q.1] σ.n (.int .i64 0) 0 _ .i64 0 (dK _ _ _) rfl
   simpa [add_nil] using this
theorem Py {t:TypeId} {x:Operand} {r:aG} (h:SR P N μ σ w) (ha:AR P μ a ca) (hr:Ig t x P a σ=some r):
 NR P N μ σ w r ((do pure (.value (←Instr.box t (ca.eval x))):Sem Next).run P w):=by
 obtain ⟨v,hv,hr⟩:=aa.1 hr
 obtain ⟨ho,hr⟩:=aj.1 hr
 cases hr
 have hvv:=ha.eval h hv
 have hg:=h.row t (hvv.cells (bT ho)) ho
 refine ⟨_,.pointer (some ⟨w.heap.size,0,none⟩),_,?_,hg,?_⟩
 ·simp [Instr.box,newVar,newRow]
 ·have:=VR.ptr (P:=P) (μ:=dm μ σ.n ⟨⟨w.heap.size,0,none⟩,some ((ca.eval x).cells.size,t)⟩) σ.n 0 _ (dK _ _ _)
  exact ⟨by simpa [add_nil] using this,C0⟩
theorem wx {t:TypeId} {ts:List Ty} {x:Tm} {v:AV} {r:List D} {ad:Addr} {f:Nat→Value} (q1:ev x= .ref r) (q2:aW ts r) (q3: ∀j,j<r.length→w.cell? (ad.add j)=some (f j)) (q4: ∀j d,r[j]? =some d→dY μ.fz d (f j)) (hl:mT P t ts x=some v):
 ∃cu,(loadVar t ad).run P w= .ok cu w∧VR P μ v cu:=by
 obtain ⟨g,hg,hl⟩:=aa.1 hl
 have hlen:=bD q2
 cases g with
 |true=>
  obtain ⟨n,hn,hl⟩:=aa.1 (show ab (bA P t) (fun n=>au (Vo n ts.length) (some (AV.agg (gD x ts 0))) none)=some v from hl)
  obtain ⟨h3,h4⟩:=aj.1 hl
  cases h4
  have h3:=VN h3
  subst h3
  obtain ⟨g1,g2⟩:=im (P:=P) (μ:=μ) q1 q4 ts 0 q2
  refine ⟨.agg ((Wy 0 ts.length).map f).toArray,?_,.agg _ _ g1 g2⟩
  have:=run_loadCells (P:=P) (w:=w) (a:=ad) (n:=ts.length) (us:=(Wy 0 ts.length).map f) (by simp) fun j hj=>by
   rw [q3 j (by omega)]
   simp [hj]
  simp [loadVar,fN hg,bq hn,this]
 |false=>
  cases ts with
  |nil=>cases hl
  |cons ty ts=>
   cases hl
   unfold aW at q2
   obtain ⟨d,r',rfl,q5,q6⟩:=q2
   have he:ev (o7 x 0)=d:=(t9 q1 (by simp)).trans (D.nR rfl)
   have hc:=q3 0 (by simp)
   rw [add_nil] at hc
   exact ⟨f 0,by simp [loadVar,fN hg,hc],dq (by rw [he];exact q5) (by rw [he];exact q4 0 d rfl)⟩
theorem C1 {t:TypeId} {ts:List Ty} {b:Pos} {i:Tm} {o:Nat} {u:Value} {v:AV} {k:aY} (h:SR P N μ σ w) (hx:VR P μ (.pe ts b i o) u) (hk:σ.h.get b=some k) (hl:CJ P t ts i o k=some v):
 ∃cu ad,u= .pointer (some ad)∧(loadVar t ad).run P w= .ok cu w∧VR P μ v cu:=by
 cases k<;>first |(cases hl;done) |skip
 rotate_left
 ·rename_i t' us m x j v0
  obtain ⟨z,hz,hl1⟩:=aa.1 (show ab (bA P t) (fun z=>ab (Cz P t) fun g=>au (!g&&(bV ts us&&(qB i j&&(Vo (Vt o) ts.length&&Vo z 1)))) (some v0) none)=some v from hl)
  obtain ⟨g,hg,hl2⟩:=aa.1 hl1
  obtain ⟨hb,hl3⟩:=aj.1 hl2
  cases hl3
  simp only [V1] at hb
  obtain ⟨b1,b2,b3,b4,b5⟩:=hb
  obtain rfl:=bW b2
  have b4:o+1=ts.length:=VN b4
  have hgf:g=false:=by cases g<;>first |rfl |cases b1
  subst hgf
  cases hx with
  |pe _ _ _ _ e kk n he hi=>
   obtain ⟨k',hk',hbr⟩:=h.bU b e he
   rw [hk] at hk'
   cases hk'
   obtain ⟨l,iv,q1,q2,q3,q4,q5,G,cur,V,rfl,r2,r3,r4,r5,r6,r7,r8,r9⟩:=hbr
   obtain ⟨kq,q4⟩:=q4
   obtain ⟨kj,hj⟩:=t7 b3 hi
   rw [hj] at q4
   have hn:n=iv:=by injection q4 with _ q4;have:(Vw iv:Int)=(iv:Int):=rfl;omega
   subst hn
   refine ⟨V,_,rfl,?_,r8⟩
   have ho:o=ts.length - 1:=by omega
   rw [←ho] at r7
   have hc:w.cell? ((⟨G,0,none⟩:Addr).add (n*ts.length+o))=some V:=by
    rw [add_zero]
    simp only [Wh,r3]
    simpa using r7
   simp [loadVar,fN hg,hc]
 rename_i own t' us m x
 obtain ⟨z,hz,hl1⟩:=aa.1 (show ab (bA P t) (fun z=>au (bV ts us&&lN i&&gb i m&&Vv (Vy o z) ts.length&&Vv 1 z) (mT P t ((ts.drop o).take z) (.op (.off o z) [.op .zZ [x,i]])) none)=some v from hl)
 obtain ⟨hb,hl2⟩:=aj.1 hl1
 clear hl hl1
 simp only [V1] at hb
 obtain ⟨⟨⟨⟨b1,b2⟩,b3⟩,b4⟩,b5⟩:=hb
 obtain rfl:=bW b1
 have b4:o+z≤ts.length:=VQ b4
 cases hx with
 |pe _ _ _ _ e kk n he hi=>
  obtain ⟨k',hk',hbr⟩:=h.bU b e he
  rw [hk] at hk'
  cases hk'
  obtain ⟨g,n',cur,l,r,hn,q1,q2,q3,q4,rfl,q5,q6,q7,q8,q9,q10,q11⟩:=E7 hbr hi b2 b3
  have hn:n=n':=by omega
  subst hn
  have hlr:=bD q3
  have hev:ev (.op (.off o z) [.op .zZ [x,i]])= .ref ((r.drop o).take z):=by rw [bH];simp only [VT,VU,q4];rfl
  have hcell: ∀j,j<z→∃u,cur[n*ts.length+o+j]? =some u∧dY μ.fz (D.at r (o+j)) u:=fun j hj=>by
   obtain ⟨u,x1,x2⟩:=q11 (o+j) (by omega)
   exact ⟨u,by rw [Wm];exact x1,x2⟩
  obtain ⟨cu,g1,g2⟩:=wx (P:=P) (w:=w) (ad:=(⟨g,0,none⟩:Addr).add (n*ts.length+o)) (f:=fun j=>cur.getD (n*ts.length+o+j) undef) hev (gJ _ (gI _ q3))
   (fun j hj=>by
    have hj:j<z:=by simp at hj;omega
    obtain ⟨u,x1,x2⟩:=hcell j hj
    rw [add_zero]
    have:(⟨g,n*ts.length+o,none⟩:Addr).add j=⟨g,n*ts.length+o+j,none⟩:=by unfold Wg;split<;>simp_all
    rw [this]
    simp [Wh,q6,We,x1])
   (fun j d hj=>by
    rw [VK] at hj
    split at hj
    ·rename_i hjz
     rw [VM] at hj
     obtain ⟨u,x1,x2⟩:=hcell j hjz
     rw [D.nR hj] at x2
     have:cur.getD (n*ts.length+o+j) undef=u:=by rw [We,x1];rfl
     rw [this]
     exact x2
    ·cases hj) hl2
  exact ⟨cu,_,rfl,g1,g2⟩
theorem AJ {t:TypeId} {ts:List Ty} {x:Tm} {u:Value} {v:AV} (h:SR P N μ σ w) (h1:bx (.ref ts) (ev x)) (h2:dY μ.fz (ev x) u) (hl:mT P t ts x=some v):
 ∃cu ad,u= .pointer (some ad)∧(loadVar t ad).run P w= .ok cu w∧VR P μ v cu:=by
 obtain ⟨r,ad,f,q1,q2,rfl,q3,q4⟩:=qP h1 h2
 obtain ⟨g,hg,hl⟩:=aa.1 hl
 have hlen:=bD q2
 cases g with
 |true=>
  obtain ⟨n,hn,hl⟩:=aa.1 (show ab (bA P t) (fun n=>au (Vo n ts.length) (some (AV.agg (gD x ts 0))) none)=some v from hl)
  obtain ⟨h3,h4⟩:=aj.1 hl
  cases h4
  have h3:=VN h3
  subst h3
  obtain ⟨g1,g2⟩:=im (P:=P) (μ:=μ) q1 q4 ts 0 q2
  refine ⟨.agg ((Wy 0 ts.length).map f).toArray,ad,rfl,?_,.agg _ _ g1 g2⟩
  have:=run_loadCells (P:=P) (w:=w) (a:=ad) (n:=ts.length) (us:=(Wy 0 ts.length).map f) (by simp) fun j hj=>by
   rw [h.fW _ _ (q3 j (by omega))]
   simp [hj]
  simp [loadVar,fN hg,bq hn,this]
 |false=>
  cases ts with
  |nil=>cases hl
  |cons ty ts=>
   cases hl
   unfold aW at q2
   obtain ⟨d,r',rfl,q5,q6⟩:=q2
   have he:ev (o7 x 0)=d:=(t9 q1 (by simp)).trans (D.nR rfl)
   have hc:=h.fW _ _ (q3 0 (by simp))
   rw [add_nil] at hc
   exact ⟨f 0,ad,rfl,by simp [loadVar,fN hg,hc],dq (by rw [he];exact q5) (by rw [he];exact q4 0 d rfl)⟩
theorem Mn {t:TypeId} {x:Operand} {r:aG} (h:SR P N μ σ w) (ha:AR P μ a ca) (hr:Ak t x P a σ=some r):
 NR P N μ σ w r ((do pure (.value (←Wz t (ca.eval x))):Sem Next).run P w):=by
 obtain ⟨v,hv,hr⟩:=aa.1 hr
 have hx:=ha.eval h hv
 generalize hcv:ca.eval x=cv at*
 cases v<;>first |(cases hr;done) |skip
 ·rename_i b o
  obtain ⟨u,hu,rfl⟩:=aO.1 (show omap (σ.load P t b o) (fun v=>aG.val v σ)=some r from hr)
  cases hx with
  |ptr _ _ e he=>
   obtain ⟨cu,hrun,hcu,_⟩:=h.load he hu
   exact NR.value h (by simp [Wz,WA,hrun]) hcu
 ·rename_i ty y
  cases ty<;>first |(cases hr;done) |skip
  rename_i ts
  obtain ⟨u,hu,rfl⟩:=aO.1 (show omap (mT P t ts y) (fun v=>aG.val v σ)=some r from hr)
  cases hx with
  |tm _ _ _ h1 h2=>
   obtain ⟨cu,ad,rfl,hrun,hcu⟩:=AJ h h1 h2 hu
   exact NR.value h (by simp [Wz,WA,hrun]) hcu
 ·rename_i ts b i o
  obtain ⟨k,hk,hr⟩:=aa.1 (show ab (σ.h.get b) (fun k=>omap (CJ P t ts i o k) fun v=>aG.val v σ)=some r from hr)
  obtain ⟨u,hu,rfl⟩:=aO.1 hr
  obtain ⟨cu,ad,rfl,hrun,hcu⟩:=C1 h hx hk hu
  exact NR.value h (by simp [Wz,WA,hrun]) hcu
theorem AK {l:List (List D)} {z i o n:Nat} {r v:List D} (hz: ∀r∈l,r.length=z) (hi:l[i]? =some r) (hv:v.length=n) (hon:o+n≤z):
 (l.modify i fun row=>row.take o++v++row.drop (o+n)).flatten.length=l.flatten.length∧(∀r'∈l.modify i fun row=>row.take o++v++row.drop (o+n),r'∈l∨r'=r.take o++v++r.drop (o+n))∧
  ∀j,(l.modify i fun row=>row.take o++v++row.drop (o+n)).flatten[j]? =if i*z+o≤j∧j<i*z+o+n then v[j - (i*z+o)]? else l.flatten[j]? :=by
 induction l generalizing i with
 |nil=>simp at hi
 |cons a l ih=>
  have ha:a.length=z:=hz a (V2 ..)
  cases i with
  |zero=>
   simp only [List.getElem?_cons_zero,Option.some.injEq] at hi
   subst hi
   have hla:(a.take o++v++a.drop (o+n)).length=z:=by simp;omega
   rw [List.modify_zero_cons]
   refine ⟨by simp only [V5,V7] at*;omega,fun r' hr'=>?_,fun j=>?_⟩
   ·rcases List.mem_cons.1 hr' with rfl |h
    ·exact .inr rfl
    ·exact .inl (V3 _ h)
   ·simp only [Nat.zero_mul,Nat.zero_add,V5]
    by_cases hjz:j<z
    ·rw [VJ (by omega),VJ (l₁:=a) (by omega)]
     by_cases h1:j<o
     ·rw [VJ (by simp;omega),VJ (by simp;omega),VK,if_pos h1,if_neg (by omega)]
     ·by_cases h2:j<o+n
      ·rw [if_pos ⟨by omega,h2⟩,VJ (by simp;omega),VL (by simp;omega)]
       congr 1
       simp;omega
      ·rw [if_neg (by omega),VL (by simp;omega),VM]
       congr 1
       simp;omega
    ·rw [if_neg (by omega),VL (by omega),VL (l₁:=a) (by omega),hla,ha]
  |succ i=>
   rw [List.modify_succ_cons]
   obtain ⟨h1,h2,h3⟩:=ih (fun r hr=>hz r (V3 _ hr)) (i:=i) (by simpa using hi)
   refine ⟨by simp only [V5,V7,h1],fun r' hr'=>?_,fun j=>?_⟩
   ·rcases List.mem_cons.1 hr' with rfl |h
    ·exact .inl (V2 ..)
    ·rcases h2 r' h with h |h
     ·exact .inl (V3 _ h)
     ·exact .inr h
   ·simp only [V5]
    rw [V6]
    by_cases hjz:j<z
    ·rw [VJ (by omega),VJ (by omega),if_neg (by omega)]
    ·rw [VL (by omega),VL (by omega),h3,ha]
     by_cases hj:i*z+o≤j - z∧j - z<i*z+o+n
     ·rw [if_pos hj,if_pos (by omega)]
      congr 1
      omega
     ·rw [if_neg hj,if_neg (by omega)]
theorem dV: ∀{a b:List Ty} {x y:List D},aW a x→aW b y→aW (a++b) (x++y)
 |[],b,x,y,h,k=>by unfold aW at h;subst h;exact k
 |t::a,b,x,y,h,k=>by
  unfold aW at h
  obtain ⟨d,r,rfl,h1,h2⟩:=h
  rw [WB,WB]
  unfold aW
  exact ⟨d,_,rfl,h1,dV h2 k⟩
theorem AL {x:Operand} {r:aG} (h:SR P N μ σ w) (ha:AR P μ a ca) (o:Oper) (ho:o.op= .nilCheck x) (hr:jL x P a σ=some r):
 NR P N μ σ w r ((execOp ca.eval o).run P w):=by
 obtain ⟨v,hv,hr⟩:=aa.1 hr
 have hx:=ha.eval h hv
 unfold execOp
 simp only [ho]
 generalize hcv:ca.eval x=cv at*
 cases v with
 |ptr b o=>cases hr;cases hx with |ptr _ _ e he=>exact NR.value h rfl (.ptr b o e he)
 |func f b c=>cases hr;cases hx with |func _ _ _ F C h1 h2=>exact NR.value h rfl (.func f b c F C h1 h2)
 |yield b=>cases hr;cases hx with |yield _ e he=>exact NR.value h rfl (.yield b e he)
 |tm ty y=>
  cases ty<;>first |(cases hr;done) |skip
  cases hr
  cases hx with
  |tm _ _ _ h1 h2=>
   obtain ⟨r,ad,f,q1,q2,rfl,q3,q4⟩:=qP h1 h2
   exact NR.value h rfl (.tm _ _ _ h1 h2)
 |pe ts b i o=>cases hr;cases hx with |pe _ _ _ _ e k n he hi=>exact NR.value h rfl (.pe ts b i o e k n he hi)
 |_=>cases hr
theorem II {t:TypeId} {x:Operand} {r:aG} (h:SR P N μ σ w) (ha:AR P μ a ca) (hr:tK t x P a σ=some r):
 NR P N μ σ w r ((do pure (.value (←WC t (ca.eval x))):Sem Next).run P w):=by
 obtain ⟨hi,hr⟩:=eH.1 hr
 obtain ⟨v,hv,rfl⟩:=aO.1 hr
 obtain ⟨d,hd,hn⟩:=rU hi
 refine NR.value h ?_ (.iface t v _ (ha.eval h hv))
 unfold WC
 simp only [Wc,run_underlying hd,Wd]
 cases d<;>first |rfl |exact absurd rfl (hn _)
theorem Mp {fn:Fn} {first cap:Array Operand} {r:aG} (h:SR P N μ σ w) (ha:AR P μ a ca) (hr:NS fn first cap P a σ=some r):
 NR P N μ σ w r ((do pure (.value (←WD fn (first.map ca.eval) (cap.map ca.eval))):Sem Next).run P w):=by
 cases fn<;>first |(cases hr;done) |skip
 rename_i f
 obtain ⟨b,hb,hr⟩:=aa.1 hr
 obtain ⟨c,hc,rfl⟩:=aO.1 hr
 refine NR.value h (by simp [WD,ub ca]) (.func f b c _ _ (ha.cS h hb) (ha.cS h hc))
theorem C2 {x:Operand} {i:Nat} {r:aG} (h:SR P N μ σ w) (ha:AR P μ a ca) (hr:mc x i P a σ=some r):
 NR P N μ σ w r ((do pure (.value (←WE (ca.eval x) i)):Sem Next).run P w):=by
 obtain ⟨v,hv,hr⟩:=aa.1 hr
 have hx:=ha.eval h hv
 generalize hcv:ca.eval x=cv at*
 cases v<;>first |(cases hr;done) |skip
 rename_i vs
 obtain ⟨u,hu,rfl⟩:=aO.1 (show omap (nth vs i) (fun v=>aG.val v σ)=some r from hr)
 rw [CV] at hu
 cases hx with
 |tuple _ C hC=>
  obtain ⟨cu,hcu,hvr⟩:=hC.get hu
  exact NR.value h (by simp [WE,hcu]) hvr
theorem gj {t:TypeId} {cs:List AV} {C:List Value} {off:Nat} {v:AV} (hC:b8 P μ cs C) (ho:cf cs=true) (hp:jd P t cs off=some v):
 ∃u,(part t C.toArray off).run P w= .ok u w∧VR P μ v u:=by
 obtain ⟨g,hg,hp⟩:=aa.1 hp
 cases g with
 |true=>
  obtain ⟨n,hn,hp⟩:=aa.1 (show ab (bA P t) (fun n=>au (Vv (Vy off n) cs.length) (some (AV.agg (nq (np cs off) n))) none)=some v from hp)
  obtain ⟨hle,hp⟩:=aj.1 hp
  cases hp
  rw [pw,pt]
  refine ⟨.agg ((C.drop off).take n).toArray,?_,.agg _ _ ((hC.drop off).take n) (wZ (wY ho off) n)⟩
  simp only [part,Wc,fN hg,Wd,if_true,bq hn,WG]
  congr 2
  apply Wl
  simp [List.extract_eq_take_drop]
 |false=>
  have hp:cs[off]? =some v:=by rw [←CV];exact hp
  obtain ⟨u,hu,hv⟩:=hC.get hp
  refine ⟨u,?_,hv⟩
  simp [part,fN hg,hu]
theorem IJ {t:TypeId} {x:Operand} {f:Nat} {r:aG} (h:SR P N μ σ w) (ha:AR P μ a ca) (hr:tO t x f P a σ=some r):
 NR P N μ σ w r ((do pure (.value (←Instr.field t (ca.eval x) f)):Sem Next).run P w):=by
 obtain ⟨v,hv,hr⟩:=aa.1 hr
 have hx:=ha.eval h hv
 generalize hcv:ca.eval x=cv at*
 cases v<;>first |(cases hr;done) |skip
 rename_i cs
 obtain ⟨fd,hfd,hr⟩:=aa.1 (show ab (jv P t f) (fun f=>omap (jd P f.type cs f.offset) fun v=>aG.val v σ)=some r from hr)
 obtain ⟨u,hu,rfl⟩:=aO.1 hr
 obtain ⟨fs,h1,h2⟩:=jl hfd
 cases hx with
 |agg _ C hC ho=>
  obtain ⟨cu,hrun,hvr⟩:=gj (w:=w) hC ho hu
  exact NR.value h (by simp [Instr.field,run_underlying h1,h2,asAgg,hrun]) hvr
theorem yK {t:TypeId} {x:Operand} {f:Nat} {r:aG} (h:SR P N μ σ w) (ha:AR P μ a ca) (hr:iJ t x f P a σ=some r):
 NR P N μ σ w r ((do pure (.value (←WH t (ca.eval x) f)):Sem Next).run P w):=by
 obtain ⟨v,hv,hr⟩:=aa.1 hr
 have hx:=ha.eval h hv
 generalize hcv:ca.eval x=cv at*
 cases v<;>first |(cases hr;done) |skip
 ·rename_i b o
  obtain ⟨fd,hfd,hr⟩:=aa.1 (show ab (jv P t f) (fun f=>ab (bA P f.type) fun z=>au (Vo z 0) none (some (aG.val (.ptr b (Vy o f.offset)) σ)))=some r from hr)
  obtain ⟨z,hz,hr⟩:=aa.1 hr
  obtain ⟨hz0,hr⟩:=eH.1 hr
  cases hr
  obtain ⟨fs,h1,h2⟩:=jl hfd
  have hz0:z≠0:=fun e=>by subst e;cases hz0
  cases hx with
  |ptr _ _ e he=>
   refine NR.value h ?_ (.ptr b (o+fd.offset) e he)
   simp [WH,run_underlying h1,h2,WA,fieldPlace,bq hz,hz0,add_add]
 ·rename_i ty y
  cases ty<;>first |(cases hr;done) |skip
  rename_i ts
  obtain ⟨fd,hfd,hr⟩:=aa.1 (show ab (jv P t f) (fun f=>ab (bA P f.type) fun z=>au (Vo z 0) none (au (Vv (Vy f.offset z) ts.length) (some (aG.val (.tm (.ref ((ts.drop f.offset).take z)) (.op (.off f.offset z) [y])) σ)) none))=some r from hr)
  obtain ⟨z,hz,hr⟩:=aa.1 hr
  obtain ⟨hz0,hr⟩:=eH.1 hr
  obtain ⟨hle,hr⟩:=aj.1 hr
  cases hr
  have hle:fd.offset+z≤ts.length:=VQ hle
  obtain ⟨fs,h1,h2⟩:=jl hfd
  have hz0:z≠0:=fun e=>by subst e;cases hz0
  cases hx with
  |tm _ _ _ h3 h4=>
   obtain ⟨r,ad,g,q1,q2,rfl,q3,q4⟩:=qP h3 h4
   have hl:=bD q2
   have he:ev (.op (.off fd.offset z) [y])= .ref ((r.drop fd.offset).take z):=by rw [bH];simp only [VT,VU,q1];rfl
   refine NR.value h (u:=.pointer (some (ad.add fd.offset))) ?_ (.tm _ _ _ ⟨_,he,gJ _ (gI _ q2)⟩ ?_)
   ·simp [WH,run_underlying h1,h2,WA,fieldPlace,bq hz,hz0]
   ·rw [he]
    refine .ref _ _ (fun j=>g (fd.offset+j)) (fun j hj=>?_) fun j d hj=>?_
    ·rw [add_add]
     refine q3 _ ?_
     simp at hj
     omega
    ·rw [VK] at hj
     split at hj
     ·rw [VM] at hj;exact q4 _ d hj
     ·cases hj
 ·rename_i ts b i o
  obtain ⟨fd,hfd,hr⟩:=aa.1 (show ab (jv P t f) (fun f=>ab (bA P f.type) fun z=>au (Vo z 0) none (some (aG.val (.pe ts b i (Vy o f.offset)) σ)))=some r from hr)
  obtain ⟨z,hz,hr⟩:=aa.1 hr
  obtain ⟨hz0,hr⟩:=eH.1 hr
  cases hr
  obtain ⟨fs,h1,h2⟩:=jl hfd
  have hz0:z≠0:=fun e=>by subst e;cases hz0
  cases hx with
  |pe _ _ _ _ e k n he hi=>
   refine NR.value h (u:=.pointer (some ((e.a.add (n*ts.length+o)).add fd.offset))) ?_ ?_
   ·simp [WH,run_underlying h1,h2,WA,fieldPlace,bq hz,hz0]
   ·rw [add_add,Wm]
    exact .pe ts b i (o+fd.offset) e k n he hi
theorem Mq {i:Tm} {z:Nat} {k:IntKind} {n:Nat} (hi:ev i= .int k (n:Int)) (hn:n*z≤100000000): ∃k',ev (H8 i z)= .int k' ((n*z:Nat):Int):=by
 have gen:ev (.op (.kp .mul .i64) [i,.int .i64 z])= .int .i64 ((n*z:Nat):Int):=by
  rw [bH]
  simp only [VT,VU,hi]
  show D.int .i64 (IntKind.i64.wrap ((n:Int)*(z:Int)))=_
  have:((n*z:Nat):Int)≤100000000:=Int.ofNat_le.2 hn
  rw [←WI,WJ _ (by omega)]
 unfold H8
 split
 ·rename_i k' m
  have:ev (.int k' m)= .int k' m:=rfl
  rw [this] at hi
  cases hi
  exact ⟨_,by rw [WI];rfl⟩
 ·cases hz:Vo z 1 with
  |true=>
   have:z=1:=VN hz
   subst this
   exact ⟨k,by rw [Nat.mul_one];exact hi⟩
  |false=>exact ⟨_,gen⟩
theorem Mr {x i:Tm} {k j:IntKind} {a b:Nat} (hx:ev x= .int k (a:Int)) (hi:ev i= .int j (b:Int)) (ha:a≤100000000) (hb:b≤100000000): ∃k',ev (H9 x i)= .int k' ((a+b:Nat):Int):=by
 have gen:ev (.op (.kp .add .i64) [x,i])= .int .i64 ((a+b:Nat):Int):=by
  rw [bH]
  simp only [VT,VU,hx,hi]
  show D.int .i64 (IntKind.i64.wrap ((a:Int)+(b:Int)))=_
  rw [WJ _ (by omega)]
  congr 1
 unfold H9
 split
 ·have:ev (.int .i64 (Vw 0))= .int .i64 0:=rfl
  rw [this] at hx
  cases hx
  exact ⟨j,by rw [hi,Nat.zero_add]⟩
 ·exact ⟨_,gen⟩
theorem AM {t:TypeId} {v j:AV} {X I:Value} {r:aG} (h:SR P N μ σ w) (hx:VR P μ v X) (hi:VR P μ j I) (hr:mU P t σ v j=some r):NR P N μ σ w r ((do pure (.value (←WK t X I)):Sem Next).run P w):=by
 unfold mU at hr
 split at hr
 ·rename_i e hu
  obtain ⟨z,hz,hr1⟩:=aa.1 hr
  obtain ⟨it,hit,hr2⟩:=aa.1 hr1
  clear hr hr1
  obtain ⟨k,n,e1,rfl⟩:=w7 hi hit
  cases v<;>first |(cases hr2;done) |skip
  rotate_left
  ·rename_i ts n' b
   obtain ⟨hc,hr3⟩:=aj.1 (show au (Vo z ts.length&&lN it&&gb it n') (some (aG.val (.pe ts b it 0) σ)) none=some r from hr2)
   cases hr3
   simp only [V1] at hc
   obtain ⟨⟨c1,c2⟩,c3⟩:=hc
   have c1:z=ts.length:=VN c1
   subst c1
   have hn0:=jk c2 e1
   obtain ⟨m,rfl⟩:=Ws hn0
   cases hx with
   |vl _ _ _ _ e he hq=>
    rcases hq with ⟨_,_,q3⟩ |⟨m',c,rfl,q2,q3,q4,q5,_⟩
    ·have:=iA c3 e1 q3
     omega
    ·have hlt:=iA c3 e1 q3
     have hm:m<m':=by have:(Vw m':Int)=(m':Int):=rfl;omega
     refine NR.value h (u:=.pointer (some (e.a.add (m*ts.length)))) ?_ ?_
     ·have h1:(0:Int)≤(m:Int)∧(m:Int)<(m':Int):=by omega
      simp only [WK,asIntOf,Wc,WG,Wd,run_underlying hu,if_pos h1,bq hz,Wt]
     ·exact .pe ts b it 0 e k m he e1
  rename_i ty y
  cases ty<;>first |(cases hr2;done) |skip
  rename_i ts
  obtain ⟨hc,hr3⟩:=aj.1 (show au (Vo z ts.length&&lN it&&gb it (.op .len [y])) (some (aG.val (.tm (.ref ts) (.op .zZ [y,it])) σ)) none=some r from hr2)
  cases hr3
  simp only [V1] at hc
  obtain ⟨⟨c1,c2⟩,c3⟩:=hc
  have c1:z=ts.length:=VN c1
  subst c1
  cases hx with
  |tm _ _ _ h1 h2=>
   obtain ⟨l,e2,h3⟩:=h1
   rw [e2] at h2
   have hlen:ev (.op .len [y])= .int .i64 l.length:=by rw [bH];simp only [VT,VU,e2];rfl
   have hn0:=jk c2 e1
   have hn1:=iA c3 e1 hlen
   obtain ⟨m,rfl⟩:=Ws hn0
   have hm:m<l.length:=by omega
   have hg:l[m]? =some l[m]:=Wj hm
   have hel:ev (.op .zZ [y,it])= .ref l[m]:=by
    rw [bH]
    simp only [VT,VU,e1,e2]
    show (match l[(m:Int).toNat]? with |some r=>D.ref r |none=>.bad)=_
    rw [Wt,hg]
   have hrow:aW ts l[m]:=h3 _ (Wv hm)
   have hz': ∀r∈l,r.length=ts.length:=fun r hr=>bD (h3 r hr)
   cases h2 with
   |nil=>simp at hm
   |aF _ ad c f hle hmx hf hrep=>
    have hflat:=iO hz'
    refine NR.value h (u:=.pointer (some (ad.add (m*ts.length)))) ?_ (.tm _ _ _ ⟨_,hel,hrow⟩ ?_)
    ·have h1:(0:Int)≤(m:Int)∧(m:Int)<(l.length:Int):=by omega
     simp only [WK,asIntOf,Wc,WG,Wd,run_underlying hu,if_pos h1,bq hz,Wt]
    ·rw [hel]
     have hlz:(l[m]).length=ts.length:=hz' _ (Wv hm)
     have hin: ∀j,j<ts.length→m*ts.length+j<l.flatten.length:=fun j hj=>by
      rw [hflat]
      calc m*ts.length+j<m*ts.length+ts.length:=by omega
       _=(m+1)*ts.length:=by rw [V6]
       _≤l.length*ts.length:=Wu _ hm
     refine .ref _ _ (fun j=>f (m*ts.length+j)) (fun j hj=>?_) fun j d hj=>?_
     ·rw [add_add]
      exact hf _ (hin j (by omega))
     ·have hjl:j<ts.length:=by have:=(List.getElem?_eq_some_iff.1 hj).1;omega
      exact hrep _ d (by rw [flat_get hz' hg hjl];exact hj)
 ·rename_i n e hu
  obtain ⟨z,hz,hr1⟩:=aa.1 hr
  obtain ⟨it,hit,hr2⟩:=aa.1 hr1
  clear hr hr1
  have hij: ∃m:Int,ev it= .int .i64 m∧I= .int .i64 m:=by
   unfold nH at hit
   split at hit
   ·cases hit;cases hi;exact ⟨_,rfl,rfl⟩
   ·cases hit
    cases hi with
    |tm _ _ _ h1 h2=>
     obtain ⟨m,h1⟩:=h1
     rw [h1] at h2
     cases h2
     exact ⟨m,h1,rfl⟩
   ·cases hit
  obtain ⟨m,e1,rfl⟩:=hij
  cases v<;>first |(cases hr2;done) |skip
  rename_i ts b x o
  obtain ⟨hc,hr3⟩:=aj.1 (show au (Vo ts.length 1&&Vo o 0&&Vv (VC n z) 100000000&&lN it&&gb it (.int .i64 (Vw n))&&yq x) (some (aG.val (.pe ts b (H9 x (H8 it z)) 0) σ)) none=some r from hr2)
  cases hr3
  simp only [V1] at hc
  obtain ⟨⟨⟨⟨⟨c1,c2⟩,c3⟩,c4⟩,c5⟩,c6⟩:=hc
  have c1:ts.length=1:=VN c1
  have c2:o=0:=VN c2
  subst c2
  have c3:n*z≤100000000:=VQ c3
  have hm0:=jk c4 e1
  have hm1:=iA c5 e1 (show ev (.int .i64 (Vw n))= .int .i64 (Vw n) from rfl)
  obtain ⟨m',rfl⟩:=Ws hm0
  have hmn:m'<n:=by have:(Vw n:Int)=(n:Int):=rfl;omega
  have hmz:m'*z≤100000000:=Nat.le_trans (Wu _ (Nat.le_of_lt hmn)) c3
  cases hx with
  |pe _ _ _ _ en k a he hk=>
   have ha:=Ge c6 hk
   have ha:a≤100000000:=by omega
   obtain ⟨k1,h1⟩:=Mq e1 hmz
   obtain ⟨k2,h2⟩:=Mr hk h1 ha hmz
   refine NR.value h (u:=.pointer (some ((en.a.add (a*ts.length+0)).add (m'*z)))) ?_ ?_
   ·have h1:(0:Int)≤(m':Int)∧(m':Int)<(n:Int):=by omega
    simp only [WK,asIntOf,Wc,WG,Wd,run_underlying hu,WA,if_pos h1,bq hz,Wt]
   ·have:=VR.pe (P:=P) (μ:=μ) ts b (H9 x (H8 it z)) 0 en k2 (a+m'*z) he h2
    rw [add_add]
    rw [c1] at this⊢
    simpa using this
 ·cases hr
theorem yL {t:TypeId} {x i:Operand} {r:aG} (h:SR P N μ σ w) (ha:AR P μ a ca) (hr:iK t x i P a σ=some r):
 NR P N μ σ w r ((do pure (.value (←WK t (ca.eval x) (ca.eval i))):Sem Next).run P w):=by
 obtain ⟨v,hv,hr⟩:=aa.1 hr
 obtain ⟨j,hj,hr⟩:=aa.1 hr
 have hx:=ha.eval h hv
 have hi:=ha.eval h hj
 generalize hcv:ca.eval x=cv at*
 generalize hci:ca.eval i=ci at*
 replace hr:au (Ia v||gC j) (mU P t σ v j) (fw P t σ v j)=some r:=hr
 cases htm:(Ia v||gC j) with
 |true=>rw [htm] at hr;exact AM h hx hi hr
 |false=>
 rw [htm] at hr
 replace hr:fw P t σ v j=some r:=hr
 cases j<;>first |(cases hr;done) |skip
 rename_i k n
 cases n with
 |negSucc n=>cases hr
 |ofNat n=>
 cases hi
 unfold fw at hr
 simp only at hr
 split at hr
 ·rename_i e hu
  cases v with
  |slice b o m fV wh=>
   obtain ⟨hlt,hr⟩:=aj.1 (show au (Vv (Vt n) m) (omap (bA P e) fun z=>aG.val (.ptr b (Vy o (VC n z))) σ) none=some r from hr)
   obtain ⟨z,hz,rfl⟩:=aO.1 hr
   have hlt:n<m:=VQ hlt
   cases hx with
   |slice _ _ _ _ _ en ad c he had hn hm hl hc=>
    obtain rfl:ad=en.a.add o:=had.elim id (fun h=>by omega)
    refine NR.value h ?_ (.ptr b (o+n*z) en he)
    have h1:(0:Int)≤(n:Int)∧(n:Int)<(m:Int):=by omega
    simp only [WK,asIntOf,Wc,WG,Wd,run_underlying hu,VP,if_pos h1,bq hz,Wt,add_add]
  |_=>cases hr
 ·rename_i m e hu
  cases v with
  |ptr b o=>
   obtain ⟨hlt,hr⟩:=aj.1 (show au (Vv (Vt n) m) (omap (bA P e) fun z=>aG.val (.ptr b (Vy o (VC n z))) σ) none=some r from hr)
   obtain ⟨z,hz,rfl⟩:=aO.1 hr
   have hlt:n<m:=VQ hlt
   cases hx with
   |ptr _ _ en he=>
    refine NR.value h ?_ (.ptr b (o+n*z) en he)
    have h1:(0:Int)≤(n:Int)∧(n:Int)<(m:Int):=by omega
    simp only [WK,asIntOf,Wc,WG,Wd,run_underlying hu,WA,VP,if_pos h1,bq hz,Wt,add_add]
  |_=>cases hr
 ·cases hr
theorem C3 {t:TypeId} {v j:AV} {X I:Value} {r:aG} (h:SR P N μ σ w) (hx:VR P μ v X) (hi:VR P μ j I) (hr:qI P t σ v j=some r):NR P N μ σ w r ((do pure (.value (←WL t X I)):Sem Next).run P w):=by
 unfold qI at hr
 split at hr
 ·rename_i hu
  obtain ⟨xt,hxt,hr⟩:=aa.1 hr
  obtain ⟨it,hit,hr⟩:=aa.1 hr
  obtain ⟨hc,hr⟩:=aj.1 hr
  cases hr
  rw [V1] at hc
  obtain ⟨k,n,e1,rfl⟩:=w7 hi hit
  obtain ⟨s,e2,rfl⟩:=Gf hx hxt
  have hlen:ev (.op .gB [xt])= .int .i64 s.size:=by rw [bH];simp only [VT,VU,e2];simp [cw]
  have hn0:=jk hc.1 e1
  have hn1:=iA hc.2 e1 hlen
  obtain ⟨m,rfl⟩:=Ws hn0
  have hm:m<s.size:=by omega
  have hb:s[m]? =some s[m]:=getElem?_pos s m hm
  have hd:(s.data.toList.map (·.toNat))[m]? =some (s[m]).toNat:=by
   rw [VV,WM]
   have:s.data[m]? =some s[m]:=by rw [Wo hm];rfl
   rw [this];rfl
  have hel:ev (.op .ic [xt,it])= .int .u8 (s[m]).toNat:=by
   rw [bH]
   simp only [VT,VU,e1,e2]
   show (match (s.data.toList.map (·.toNat))[(m:Int).toNat]? with |some c=>D.int .u8 c |none=>.bad)=_
   rw [Wt,hd]
  refine NR.value h (u:=.int .u8 (s[m]).toNat) ?_ (dq ⟨_,hel⟩ (by rw [hel];exact .int _ _))
  simp only [WL,asIntOf,Wc,WG,Wd,run_underlying hu,Wt,WN,if_true,hb]
 ·split at hr<;>cases hr
 ·cases hr
theorem IK {t:TypeId} {x i:Operand} {r:aG} (h:SR P N μ σ w) (ha:AR P μ a ca) (hr:tP t x i P a σ=some r):
 NR P N μ σ w r ((do pure (.value (←WL t (ca.eval x) (ca.eval i))):Sem Next).run P w):=by
 obtain ⟨v,hv,hr⟩:=aa.1 hr
 obtain ⟨j,hj,hr⟩:=aa.1 hr
 have hx:=ha.eval h hv
 have hi:=t8 (ha.eval h hj)
 replace hr:yr P t σ v (lS j)=some r:=hr
 generalize lS j=j at*
 generalize hcv:ca.eval x=cv at*
 generalize hci:ca.eval i=ci at*
 replace hr:au (gC v||gC j) (qI P t σ v j) (mV P t σ v j)=some r:=hr
 cases htm:(gC v||gC j) with
 |true=>rw [htm] at hr;exact C3 h hx hi hr
 |false=>
 rw [htm] at hr
 replace hr:mV P t σ v j=some r:=hr
 cases j<;>first |(cases hr;done) |skip
 rename_i k n
 cases n with
 |negSucc n=>cases hr
 |ofNat n=>
 cases hi
 unfold mV at hr
 simp only at hr
 split at hr
 ·rename_i m e hu
  cases v with
  |agg cs=>
   obtain ⟨hlt,hr⟩:=aj.1 (show au (Vv (Vt n) m) (ab (bA P e) fun z=>omap (jd P e cs (VC n z)) fun v=>aG.val v σ) none=some r from hr)
   obtain ⟨z,hz,hr⟩:=aa.1 hr
   obtain ⟨u,hu2,rfl⟩:=aO.1 hr
   have hlt:n<m:=VQ hlt
   cases hx with
   |agg _ C hC ho=>
    obtain ⟨cu,hrun,hvr⟩:=gj (w:=w) hC ho hu2
    refine NR.value h ?_ hvr
    have h1:(0:Int)≤(n:Int)∧(n:Int)<(m:Int):=by omega
    have hrun:(part e C.toArray (n*z)).run P w= .ok cu w:=hrun
    simp only [WL,asIntOf,Wc,WG,Wd,run_underlying hu,VP,if_pos h1,bq hz,Wt,hrun]
  |_=>cases hr
 ·rename_i hu
  cases v with
  |str l=>
   obtain ⟨c,hc,rfl⟩:=aO.1 (show omap (l[n]?) (fun c=>aG.val (.int .u8 (Vw c)) σ)=some r from hr)
   cases hx with
   |str _ s hs=>
    refine NR.value h ?_ (.int .u8 (Vw c))
    subst hs
    rw [VV] at hc
    obtain ⟨b,hb,rfl⟩:=Option.map_eq_some_iff.1 hc
    have hb':s[n]? =some b:=by
     have hlt:n<s.data.toList.length:=(List.getElem?_eq_some_iff.1 hb).1
     have hlt':n<s.size:=by simpa using hlt
     rw [getElem?_pos s n hlt']
     rw [Wj hlt] at hb
     rw [←VF hb]
     rfl
    simp only [WL,asIntOf,Wc,WG,Wd,run_underlying hu,VP,Wt,WN,if_true,hb']
  |_=>cases hr
 ·cases hr
end
end
section
open Go Go.RowKit
variable [Env]
section
variable {P:Program} {N:Nat} {μ:bw} {σ:St} {w:World} {a:aN} {ca:Act}
theorem bQ {t:TypeId} {k:Nat} {b r:Bool} (h:sC P t k b=some r):tj P t=k∧r=b:=by
 obtain ⟨h1,h2⟩:=aj.1 h
 exact ⟨VN h1,(VF h2).symm⟩
theorem bm {t:TypeId} {k:Nat} (h:tj P t=k) (hk:k<9): ∃d,P.underlying t=some d∧
 ((k=0→d= .bool)∧(k=1→∃e,d= .pointer e)∧(k=2→∃e,d= .slice e)∧(k=3→∃a b,d= .map a b)∧(k=4→∃a b c,d= .func a b c)∧(k=5→∃a,d= .interface a)∧
  (k=6→∃a,d= .struct a)∧(k=7→∃a,d= .int a)∧(k=8→d= .string)):=by
 unfold tj at h
 split at h<;>subst h<;>first |(exact ⟨_,by assumption,by simp⟩) |omega
theorem eM {t:TypeId} {fs:List (TypeId×Nat)} (h:cT P t=some fs):
 ∃fa,P.underlying t=some (.struct fa)∧P.stoodInHeld t=false∧fs=fa.toList.map (fun f=>(f.type,f.offset))∧∀f∈fa.toList,f.name≠ "_" :=by
 unfold cT at h
 split at h
 ·rename_i fa hu
  cases hc:(P.stoodInHeld t||fa.toList.any (fun f=>f.name== "_")) with
  |true=>rw [hc] at h;cases h
  |false=>
   rw [hc] at h
   cases h
   rw [Bool.or_eq_false_iff] at hc
   refine ⟨fa,hu,hc.1,rfl,fun f hf hn=>?_⟩
   have:=List.any_eq_false.1 hc.2 f hf
   simp [hn] at this
 ·cases h
theorem jB {s s':ByteArray}:(s.toList==s'.toList)=(s.data.toList.map (·.toNat)==s'.data.toList.map (·.toNat)):=by
 rw [WO,WO]
 generalize s.data.toList=x
 generalize s'.data.toList=y
 induction x generalizing y with
 |nil=>cases y<;>rfl
 |cons a x ih=>
  cases y with
  |nil=>rfl
  |cons b y=>
   simp only [VT,List.cons_beq_cons,ih]
   congr 1
   rw [VO]
   simp [UInt8.toNat_inj]
theorem C4 {t:TypeId} {b:Bool} (h:ptrEq P t=some b): ∃e sz,P.underlying t=some (.pointer e)∧bA P e=some sz∧b=true:=by
 unfold ptrEq at h
 split at h
 ·rename_i e hu
  split at h
  ·rename_i sz hsz
   cases h
   exact ⟨e,sz,hu,hsz,rfl⟩
  ·cases h
 ·cases h
theorem Pz {rr:TypeId→AV→AV→Option Bool} {d:Nat} {t:TypeId} {y:AV} {X Y:Value} {b:Bool} {z:Bool} (hx:VR P μ (.e0 z) X) (hy:VR P μ y Y) (h:Rs P rr t (.e0 z) y=some b) (w:World):(WQ (d+1) t X Y).run P w= .ok b w:=by
 cases y<;>first |(cases h;done) |skip
 obtain ⟨h3,rfl⟩:=bQ h
 obtain ⟨_,hu,_,_,h1,_⟩:=bm h3 (by omega)
 obtain ⟨e,rfl⟩:=h1 rfl
 cases hx;cases hy
 simp [WQ,run_underlying hu]
theorem Ms {t e:TypeId} {ad:Addr} {n c:Nat} (hu:P.underlying t=some (.slice e)) (w:World):(WR t (.slice (some ad) n c) (.slice none 0 0)).run P w= .ok false w:=by
 have key: ∀d:Nat,(WQ (d+1) t (.slice (some ad) n c) (.slice none 0 0)).run P w= .ok false w:=fun d=>by simp [WQ,run_underlying hu]
 exact key 9999
set_option maxHeartbeats 800000 in
theorem gK: ∀(n d:Nat) (t:TypeId) (x y:AV) (X Y:Value) (b:Bool),n≤d→VR P μ x X→VR P μ y Y→jI P n t x y=some b→∀w:World,(WQ d t X Y).run P w= .ok b w:=by
 intro n
 induction n with
 |zero=>intro d t x y X Y b _ _ _ h;cases h
 |succ n ih=>
  intro d t x y X Y b hd hx hy h w
  obtain ⟨d,rfl⟩: ∃m,d=m+1:=⟨d - 1,by omega⟩
  replace h:Rs P (jI P n) t x y=some b:=h
  unfold Rs at h
  cases x with
  |int j a=>cases y with
   |int k c=>
    obtain ⟨h1,h2⟩:=aj.1 h
    obtain ⟨h3,rfl⟩:=bQ h2
    rw [fL] at h1
    have h1:=of_decide_eq_true h1
    subst h1
    obtain ⟨_,hu,_,_,_,_,_,_,_,h7,_⟩:=bm h3 (by omega)
    obtain ⟨q,rfl⟩:=h7 rfl
    cases hx;cases hy
    rw [gf]
    exact run_equalIn_int w d t j q a c hu
   |_=>cases h
  |str a=>cases y with
   |str c=>
    obtain ⟨h3,rfl⟩:=bQ h
    obtain ⟨_,hu,_,_,_,_,_,_,_,_,h8⟩:=bm h3 (by omega)
    have h8:=h8 rfl
    subst h8
    cases hx with
    |str _ s hs=>cases hy with
     |str _ s' hs'=>
      subst hs;subst hs'
      rw [fK,←jB]
      exact run_equalIn_string w d t s s' hu
   |_=>cases h
  |bool a=>cases y with
   |bool c=>
    obtain ⟨h3,rfl⟩:=bQ h
    obtain ⟨_,hu,h0,_⟩:=bm h3 (by omega)
    have h0:=h0 rfl
    subst h0
    cases hx;cases hy
    exact run_equalIn_bool' w d t a c hu
   |_=>cases h
  |agg xs=>cases y with
   |agg ys=>
    replace h:=aa.1 h
    obtain ⟨fs,hfs,h⟩:=h
    obtain ⟨fa,hu,hst,rfl,hn⟩:=eM hfs
    cases hx with
    |agg _ X hX hox=>cases hy with
     |agg _ Y hY hoy=>
      have hfo:P.fieldsOf t=fa:=by simp [WS,hu]
      rw [run_equalIn_agg w d t X.toArray Y.toArray (by rw [hfo];exact hu) hst,hfo]
      generalize fa.toList=fl at h hn
      clear hfs hu hst hfo
      induction fl generalizing b with
      |nil=>cases h;rfl
      |cons f fl ihf=>
       obtain ⟨p,hp,h⟩:=aa.1 (show ab (jd P f.type xs f.offset) (fun x=>ab (jd P f.type ys f.offset) fun y=>ab (jI P n f.type x y) fun b=>au b (HM P (jI P n) xs ys (fl.map fun f=>(f.type,f.offset))) (some false))=some b from h)
       obtain ⟨q,hq,h⟩:=aa.1 h
       obtain ⟨c,hc,h⟩:=aa.1 h
       obtain ⟨u1,r1,v1⟩:=gj (w:=w) hX hox hp
       obtain ⟨u2,r2,v2⟩:=gj (w:=w) hY hoy hq
       have he:=ih d f.type p q u1 u2 c (by omega) v1 v2 hc w
       simp only [Op.eqFields,if_pos (hn f (V2 ..)),Wc,r1,r2,he,Wd]
       cases c with
       |true=>simpa using ihf b h (fun f hf=>hn f (V3 _ hf))
       |false=>cases h;simp
   |_=>cases h
  |bX=>cases y with
   |bX=>
    obtain ⟨h3,rfl⟩:=bQ h
    obtain ⟨_,hu,_,h1,_⟩:=bm h3 (by omega)
    obtain ⟨e,rfl⟩:=h1 rfl
    cases hx;cases hy
    simp [WQ,run_underlying hu]
   |ptr c o=>
    obtain ⟨h3,rfl⟩:=bQ h
    obtain ⟨_,hu,_,h1,_⟩:=bm h3 (by omega)
    obtain ⟨e,rfl⟩:=h1 rfl
    cases hx;cases hy
    simp [WQ,run_underlying hu]
   |_=>cases h
  |ptr c o=>cases y with
   |bX=>
    obtain ⟨h3,rfl⟩:=bQ h
    obtain ⟨_,hu,_,h1,_⟩:=bm h3 (by omega)
    obtain ⟨e,rfl⟩:=h1 rfl
    cases hx;cases hy
    simp [WQ,run_underlying hu]
   |ptr c' o'=>
    obtain ⟨hq,h9⟩:=aj.1 h
    clear h
    rw [V1] at hq
    obtain rfl:=dN hq.1
    obtain rfl:=VN hq.2
    obtain ⟨el,sz,hu,hsz,rfl⟩:=C4 h9
    cases hx with
    |ptr _ _ e1 he1=>cases hy with
     |ptr _ _ e2 he2=>
      have:e1=e2:=VF (he1.symm.trans he2)
      subst this
      have hso:=bq hsz w
      by_cases hz:sz=0
      ·subst hz
       simp [WQ,run_underlying hu,hso]
      ·simp [WQ,run_underlying hu,hso,hz,run_sameAddr_same]
   |_=>cases h
  |an=>cases y with
   |an=>
    obtain ⟨h3,rfl⟩:=bQ h
    obtain ⟨_,hu,_,_,h1,_⟩:=bm h3 (by omega)
    obtain ⟨e,rfl⟩:=h1 rfl
    cases hx;cases hy
    simp [WQ,run_underlying hu]
   |slice c o m l wh=>
    obtain ⟨h3,rfl⟩:=bQ h
    obtain ⟨_,hu,_,_,h1,_⟩:=bm h3 (by omega)
    obtain ⟨e,rfl⟩:=h1 rfl
    cases hx;cases hy
    simp [WQ,run_underlying hu]
   |_=>cases h
  |e0=>exact Pz (rr:=jI P n) hx hy h w
  |slice c o m l wh=>cases y with
   |an=>
    obtain ⟨h3,rfl⟩:=bQ h
    obtain ⟨_,hu,_,_,h1,_⟩:=bm h3 (by omega)
    obtain ⟨e,rfl⟩:=h1 rfl
    cases hx;cases hy
    simp [WQ,run_underlying hu]
   |_=>cases h
  |cd=>cases y with
   |cd=>
    obtain ⟨h3,rfl⟩:=bQ h
    obtain ⟨_,hu,_,_,_,h1,_⟩:=bm h3 (by omega)
    obtain ⟨e,f,rfl⟩:=h1 rfl
    cases hx;cases hy
    simp [WQ,run_underlying hu]
   |map c=>
    obtain ⟨h3,rfl⟩:=bQ h
    obtain ⟨_,hu,_,_,_,h1,_⟩:=bm h3 (by omega)
    obtain ⟨e,f,rfl⟩:=h1 rfl
    cases hx;cases hy
    simp [WQ,run_underlying hu]
   |_=>cases h
  |map c=>cases y with
   |cd=>
    obtain ⟨h3,rfl⟩:=bQ h
    obtain ⟨_,hu,_,_,_,h1,_⟩:=bm h3 (by omega)
    obtain ⟨e,f,rfl⟩:=h1 rfl
    cases hx;cases hy
    simp [WQ,run_underlying hu]
   |_=>cases h
  |bN=>cases y with
   |bN=>
    obtain ⟨h3,rfl⟩:=bQ h
    obtain ⟨_,hu,_,_,_,_,h1,_⟩:=bm h3 (by omega)
    obtain ⟨e,f,g,rfl⟩:=h1 rfl
    cases hx;cases hy
    simp [WQ,run_underlying hu]
   |func _ _ _=>
    obtain ⟨h3,rfl⟩:=bQ h
    obtain ⟨_,hu,_,_,_,_,h1,_⟩:=bm h3 (by omega)
    obtain ⟨e,f,g,rfl⟩:=h1 rfl
    cases hx;cases hy
    simp [WQ,run_underlying hu]
   |yield _=>
    obtain ⟨h3,rfl⟩:=bQ h
    obtain ⟨_,hu,_,_,_,_,h1,_⟩:=bm h3 (by omega)
    obtain ⟨e,f,g,rfl⟩:=h1 rfl
    cases hx;cases hy
    simp [WQ,run_underlying hu]
   |_=>cases h
  |func _ _ _=>cases y with
   |bN=>
    obtain ⟨h3,rfl⟩:=bQ h
    obtain ⟨_,hu,_,_,_,_,h1,_⟩:=bm h3 (by omega)
    obtain ⟨e,f,g,rfl⟩:=h1 rfl
    cases hx;cases hy
    simp [WQ,run_underlying hu]
   |_=>cases h
  |yield _=>cases y with
   |bN=>
    obtain ⟨h3,rfl⟩:=bQ h
    obtain ⟨_,hu,_,_,_,_,h1,_⟩:=bm h3 (by omega)
    obtain ⟨e,f,g,rfl⟩:=h1 rfl
    cases hx;cases hy
    simp [WQ,run_underlying hu]
   |_=>cases h
  |bu=>cases y with
   |iface _ _=>
    obtain ⟨h3,rfl⟩:=bQ h
    obtain ⟨_,hu,_,_,_,_,_,h1,_⟩:=bm h3 (by omega)
    obtain ⟨e,rfl⟩:=h1 rfl
    cases hx;cases hy
    simp [WQ,run_underlying hu]
   |bu=>
    obtain ⟨h3,rfl⟩:=bQ h
    obtain ⟨_,hu,_,_,_,_,_,h1,_⟩:=bm h3 (by omega)
    obtain ⟨e,rfl⟩:=h1 rfl
    cases hx;cases hy
    simp [WQ,run_underlying hu]
   |_=>cases h
  |iface _ _=>cases y with
   |bu=>
    obtain ⟨h3,rfl⟩:=bQ h
    obtain ⟨_,hu,_,_,_,_,_,h1,_⟩:=bm h3 (by omega)
    obtain ⟨e,rfl⟩:=h1 rfl
    cases hx;cases hy
    simp [WQ,run_underlying hu]
   |_=>cases h
  |_=>cases h
theorem Gg {d:Nat} {t:TypeId} {x y:AV} {X Y:Value} {b:Bool} (hx:VR P μ x X) (hy:VR P μ y Y) {p q:Ty×Tm} (hp:lR x=some p) (hq:lR y=some q) (h:wQ P t p q=some b) (w:World):(WQ (d+1) t X Y).run P w= .ok b w:=by
 obtain ⟨tp,px⟩:=p
 obtain ⟨tq,qx⟩:=q
 obtain ⟨h1,h2⟩:=ff hx hp
 obtain ⟨h3,h4⟩:=ff hy hq
 unfold wQ at h
 cases tp<;>first |(cases h;done) |skip
 case int k=>
  cases tq<;>first |(cases h;done) |skip
  rename_i j
  obtain ⟨g1,g2⟩:=aj.1 h
  rw [V1,fL] at g1
  have hk:=of_decide_eq_true g1.1
  subst hk
  obtain ⟨m,e1⟩:=h1
  obtain ⟨m',e2⟩:=h3
  have he:=cj (show dB (.op (.cmp .eql) [px,qx])=some b from g2)
  rw [bH] at he
  simp only [WT,e1,e2,cw,AB] at he
  rw [e1] at h2
  rw [e2] at h4
  cases h2;cases h4
  have hb:(m==m')=b:=by injection he
  refine gK (μ:=μ) 1 (d+1) t (.int k m) (.int k m') _ _ b (by omega) (.int k m) (.int k m') ?_ w
  show au (th k k) (sC P t 7 (F0 m m')) none=some b
  rw [fL,decide_eq_true rfl,gf]
  show au (nG P t 7) (some (m==m')) none=some b
  rw [g1.2,hb]
 case str=>
  cases tq<;>first |(cases h;done) |skip
  obtain ⟨g1,g2⟩:=aj.1 h
  obtain ⟨m,e1⟩:=h1
  obtain ⟨m',e2⟩:=h3
  have he:=cj (show dB (.op (.kr .eql) [px,qx])=some b from g2)
  rw [bH] at he
  simp only [WT,e1,e2,cw,Pw] at he
  rw [e1] at h2
  rw [e2] at h4
  have hb:(m==m')=b:=by injection he
  cases h2 with
  |str _ s hs=>cases h4 with
   |str _ s' hs'=>
    refine gK (μ:=μ) 1 (d+1) t (.str m) (.str m') _ _ b (by omega) (.str m s hs) (.str m' s' hs') ?_ w
    show au (nG P t 8) (some (wM m m')) none=some b
    rw [g1,fK,hb]
 case bool=>
  cases tq<;>first |(cases h;done) |skip
  obtain ⟨g1,g2⟩:=aj.1 h
  obtain ⟨m,e1⟩:=h1
  obtain ⟨m',e2⟩:=h3
  have he:=cj (show dB (.op .beq [px,qx])=some b from g2)
  rw [bH] at he
  simp only [WT,e1,e2,cw] at he
  rw [e1] at h2
  rw [e2] at h4
  cases h2;cases h4
  have hb:(m==m')=b:=by injection he
  refine gK (μ:=μ) 1 (d+1) t (.bool m) (.bool m') _ _ b (by omega) (.bool m) (.bool m') ?_ w
  show au (nG P t 0) (some (m==m')) none=some b
  rw [g1,hb]
theorem IL: ∀(n d:Nat) (t:TypeId) (x y:AV) (X Y:Value) (b:Bool),n≤d→VR P μ x X→VR P μ y Y→wu P n t x y=some b→∀w:World,(WQ d t X Y).run P w= .ok b w:=by
 intro n
 induction n with
 |zero=>intro d t x y X Y b _ _ _ h;cases h
 |succ n ih=>
  intro d t x y X Y b hd hx hy h w
  obtain ⟨d,rfl⟩: ∃m,d=m+1:=⟨d - 1,by omega⟩
  replace h:L3 P (wu P n) t x y=some b:=h
  unfold L3 at h
  cases hs:(gC x||gC y) with
  |true=>
   rw [hs] at h
   obtain ⟨p,hp,h⟩:=aa.1 (show ab (lR x) (fun p=>ab (lR y) fun q=>wQ P t p q)=some b from h)
   obtain ⟨q,hq,h⟩:=aa.1 h
   exact Gg hx hy hp hq h w
  |false=>
   rw [hs] at h
   by_cases hagg: ∃xs,x= .agg xs
   ·obtain ⟨xs,rfl⟩:=hagg
    cases y with
    |agg ys=>
     replace h:ab (cT P t) (HM P (wu P n) xs ys)=some b:=h
     replace h:=aa.1 h
     obtain ⟨fs,hfs,h⟩:=h
     obtain ⟨fa,hu,hst,rfl,hn⟩:=eM hfs
     cases hx with
     |agg _ X hX hox=>cases hy with
      |agg _ Y hY hoy=>
       have hfo:P.fieldsOf t=fa:=by simp [WS,hu]
       rw [run_equalIn_agg w d t X.toArray Y.toArray (by rw [hfo];exact hu) hst,hfo]
       generalize fa.toList=fl at h hn
       clear hfs hu hst hfo hs
       induction fl generalizing b with
       |nil=>cases h;rfl
       |cons f fl ihf=>
        obtain ⟨p,hp,h⟩:=aa.1 (show ab (jd P f.type xs f.offset) (fun x=>ab (jd P f.type ys f.offset) fun y=>ab (wu P n f.type x y) fun b=>au b (HM P (wu P n) xs ys (fl.map fun f=>(f.type,f.offset))) (some false))=some b from h)
        obtain ⟨q,hq,h⟩:=aa.1 h
        obtain ⟨c,hc,h⟩:=aa.1 h
        obtain ⟨u1,r1,v1⟩:=gj (w:=w) hX hox hp
        obtain ⟨u2,r2,v2⟩:=gj (w:=w) hY hoy hq
        have he:=ih d f.type p q u1 u2 c (by omega) v1 v2 hc w
        simp only [Op.eqFields,if_pos (hn f (V2 ..)),Wc,r1,r2,he,Wd]
        cases c with
        |true=>simpa using ihf b h (fun f hf=>hn f (V3 _ hf))
        |false=>cases h;simp
    |_=>cases h
   ·have h:jI P 1 t x y=some b:=by
     cases x<;>first |exact h |exact absurd ⟨_,rfl⟩ hagg
    exact gK 1 (d+1) t x y X Y b (by omega) hx hy h w
theorem xb {x:AV} (h:tk x=true):x= .bu:=by cases x<;>first |rfl |cases h
theorem xc {x:AV} (h:lT x=true): ∃cs,x= .agg cs:=by cases x<;>first |exact ⟨_,rfl⟩ |cases h
theorem E8 {c b:Bool} {op:BinOp} {t:TypeId} {x y:AV} {X Y:Value} {ox oy:Operand} (hop:op= .eql∨op= .neq) (hc:c=(cQ ox||cQ oy)) (hx:VR P μ x X) (hy:VR P μ y Y)
 (h:Rt P c t x y=some b):(eqGuard op t ox oy X Y).run P w= .ok () w∧∀w':World,(WR t X Y).run P w'= .ok b w':=by
 have hop':(!(op matches .eql | .neq))=false:=by rcases hop with rfl |rfl<;>rfl
 unfold Rt at h
 cases hn:(tk x&&tk y) with
 |true=>
  rw [hn] at h
  obtain ⟨h1,h2⟩:=aj.1 (show au c (sC P t 5 true) none=some b from h)
  rw [V1] at hn
  obtain rfl:=xb hn.1
  obtain rfl:=xb hn.2
  cases hx;cases hy
  obtain ⟨h3,rfl⟩:=bQ h2
  obtain ⟨_,hu,_,_,_,_,_,h5,_⟩:=bm h3 (by omega)
  obtain ⟨e,rfl⟩:=h5 rfl
  refine ⟨?_,gK (P:=P) (μ:=μ) 8 WV t .bu .bu _ _ true (by decide) .bu .bu h2⟩
  rw [hc,WW] at h1
  rcases hop with rfl |rfl<;>cases ox<;>first |rfl |(cases oy<;>first |rfl |(rcases h1 with h1 |h1<;>cases h1))
 |false=>
  rw [hn] at h
  have h:au (lT x) (au (P.eqGuardType P.depth t) none (au (rM x||rM y) (wu P 8 t x y) (jI P 8 t x y))) (jI P 8 t x y)=some b:=h
  cases ha:lT x with
  |true=>
   rw [ha] at h
   obtain ⟨h1,h2⟩:=eH.1 (show au (P.eqGuardType P.depth t) none (au (rM x||rM y) (wu P 8 t x y) (jI P 8 t x y))=some b from h)
   obtain ⟨cs,rfl⟩:=xc ha
   have hrun:(∀w':World,(WR t X Y).run P w'= .ok b w')∧lT y=true:=by
    cases hm:(rM (.agg cs)||rM y) with
    |true=>
     rw [hm] at h2
     replace h2:wu P 8 t (.agg cs) y=some b:=h2
     refine ⟨IL (P:=P) (μ:=μ) 8 WV t _ y X Y b (by decide) hx hy h2,?_⟩
     replace h2:L3 P (wu P 7) t (.agg cs) y=some b:=h2
     cases y<;>first |rfl |(cases h2;done)
    |false=>
     rw [hm] at h2
     replace h2:jI P 8 t (.agg cs) y=some b:=h2
     refine ⟨gK (P:=P) (μ:=μ) 8 WV t _ y X Y b (by decide) hx hy h2,?_⟩
     cases y<;>first |rfl |(cases h2;done)
   refine ⟨?_,hrun.1⟩
   cases hx with
   |agg _ C hC ho=>
    cases y with
    |agg ys=>cases hy with |agg _ D hD ho2=>exact run_eqGuard_agg w op t ox oy _ _ h1
    |_=>cases hrun.2
  |false=>
   rw [ha] at h
   have h:jI P 8 t x y=some b:=h
   have hrun:=gK (P:=P) (μ:=μ) 8 WV t x y X Y b (by decide) hx hy h
   refine ⟨?_,hrun⟩
   have hrun:=hrun
   rcases hop with rfl |rfl
   all_goals
    unfold eqGuard
    cases hx<;>first |rfl |(cases ha;done) |(cases h;done) |skip
    all_goals (cases hy<;>first |rfl |(cases hn;done) |(cases h;done) |skip)
theorem fO {s s':ByteArray}:Op.bytesLess s.toList s'.toList=nr (s.data.toList.map (·.toNat)) (s'.data.toList.map (·.toNat)):=by
 rw [WO,WO]
 generalize s.data.toList=x
 generalize s'.data.toList=y
 induction x generalizing y with
 |nil=>cases y<;>rfl
 |cons a x ih=>
  cases y with
  |nil=>rfl
  |cons b y=>
   show (decide (a<b)||(a==b&&Op.bytesLess x y))=au (Vv (Vt a.toNat) b.toNat) true (au (Vo a.toNat b.toNat) (nr (x.map (·.toNat)) (y.map (·.toNat))) false)
   rw [ih,gW,gW]
   by_cases h1:a<b
   ·have:Vv (Vt a.toNat) b.toNat=true:=Nat.ble_eq_true_of_le (UInt8.lt_iff_toNat_lt.1 h1)
    simp [h1,this]
   ·have: ¬Vv (Vt a.toNat) b.toNat=true:=fun h=>h1 (UInt8.lt_iff_toNat_lt.2 (VQ h))
    rw [if_neg this]
    by_cases h2:a=b
    ·subst h2;simp [h1]
    ·have: ¬Vo a.toNat b.toNat=true:=fun h=>h2 (UInt8.toNat_inj.1 (VN h))
     simp [h1,h2,this]
theorem Gh {op:BinOp} {k:IntKind} {x y:Int} {r:aG} (t:TypeId) (hs:RL op=false) (hr:CB op k x y σ=some r):
 ∃v u,r= .val v σ∧(binOp op t (.int k x) (.int k y)).run P w= .ok u w∧VR P μ v u:=by
 cases op<;>first |(cases hs;done) |(cases hr;done) |skip
 case quo=>
  obtain ⟨h1,h2⟩:=eH.1 hr
  cases h2
  rw [gf] at h1
  have h1: ¬y=0:=by simpa using h1
  exact ⟨_,_,rfl,by (simp [binOp,WY,h1])<;>rfl,.int _ _⟩
 case rem=>
  obtain ⟨h1,h2⟩:=eH.1 hr
  cases h2
  rw [gf] at h1
  have h1: ¬y=0:=by simpa using h1
  exact ⟨_,_,rfl,by (simp [binOp,WY,h1])<;>rfl,.int _ _⟩
 case add=>cases hr;exact ⟨_,_,rfl,by (simp [binOp,WZ])<;>rfl,by rw [py];exact .int _ _⟩
 case sub=>cases hr;exact ⟨_,_,rfl,by (simp [binOp,WZ])<;>rfl,by rw [py];exact .int _ _⟩
 case mul=>cases hr;exact ⟨_,_,rfl,by (simp [binOp,WZ])<;>rfl,by rw [py];exact .int _ _⟩
 case and=>cases hr;exact ⟨_,_,rfl,by (simp [binOp,W0])<;>rfl,.int _ _⟩
 case or=>cases hr;exact ⟨_,_,rfl,by (simp [binOp,W0])<;>rfl,.int _ _⟩
 case xor=>cases hr;exact ⟨_,_,rfl,by (simp [binOp,W0])<;>rfl,.int _ _⟩
 case eql=>cases hr;exact ⟨_,_,rfl,by (simp [binOp,W1])<;>rfl,by rw [gf];exact .bool _⟩
 case neq=>cases hr;exact ⟨_,_,rfl,by (simp [binOp,W1])<;>rfl,by rw [gf];exact .bool _⟩
 case lss=>cases hr;exact ⟨_,_,rfl,by (simp [binOp,W1])<;>rfl,by rw [mg];exact .bool _⟩
 case leq=>
  cases hr
  refine ⟨_,_,rfl,by (simp [binOp,W1])<;>rfl,?_⟩
  rw [mg,show (!decide (y<x))=decide (x≤y) from by rw [VO];simp]
  exact .bool _
 case gtr=>cases hr;exact ⟨_,_,rfl,by (simp [binOp,W1])<;>rfl,by rw [mg];exact .bool _⟩
 case geq=>
  cases hr
  refine ⟨_,_,rfl,by (simp [binOp,W1])<;>rfl,?_⟩
  rw [mg,show (!decide (x<y))=decide (y≤x) from by rw [VO];simp]
  exact .bool _
theorem AN {op:BinOp} {k:FloatKind} {x y:Nat} {r:aG} (t:TypeId) (hr:tz op k x y σ=some r):
 ∃v u,r= .val v σ∧(binOp op t (.float k x) (.float k y)).run P w= .ok u w∧VR P μ v u:=by
 cases op<;>first |(cases hr;done) |skip
 case add=>obtain ⟨q,h1,rfl⟩:=aO.1 hr;exact ⟨_,_,rfl,by (simp [binOp,W2,h1])<;>rfl,.float _ _⟩
 case sub=>obtain ⟨q,h1,rfl⟩:=aO.1 hr;exact ⟨_,_,rfl,by (simp [binOp,W2,h1])<;>rfl,.float _ _⟩
 case mul=>obtain ⟨q,h1,rfl⟩:=aO.1 hr;exact ⟨_,_,rfl,by (simp [binOp,W2,h1])<;>rfl,.float _ _⟩
 case quo=>obtain ⟨q,h1,rfl⟩:=aO.1 hr;exact ⟨_,_,rfl,by (simp [binOp,W2,h1])<;>rfl,.float _ _⟩
 all_goals (cases hr;exact ⟨_,_,rfl,by (simp [binOp,Op.floatCmp])<;>rfl,.bool _⟩)
theorem Gi {op:BinOp} {x y:List Nat} {X Y:ByteArray} {r:aG} (t:TypeId) (hx:X.data.toList.map (·.toNat)=x) (hy:Y.data.toList.map (·.toNat)=y) (hr:CC op x y σ=some r):
 ∃v u,r= .val v σ∧(binOp op t (.string X) (.string Y)).run P w= .ok u w∧VR P μ v u:=by
 subst hx;subst hy
 cases op<;>first |(cases hr;done) |skip
 case add=>
  obtain ⟨h1,h2⟩:=aj.1 hr
  cases h2
  have h1:X.size+Y.size≤9223372036854775807:=by simpa using VQ h1
  refine ⟨_,.string (X++Y),rfl,?_,.str _ _ (by simp)⟩
  have: ¬((X.size+Y.size:Nat):Int)>IntKind.i64.max:=by
   simp only [IntKind.max,IntKind.signed,IntKind.bits]
   simp
   omega
  simp only [binOp,Op.stringOp,if_neg this]
  rfl
 case eql=>cases hr;rw [fK,←jB];exact ⟨_,_,rfl,rfl,.bool _⟩
 case neq=>cases hr;rw [fK,←jB];exact ⟨_,_,rfl,rfl,.bool _⟩
 case lss=>cases hr;rw [←fO];exact ⟨_,_,rfl,rfl,.bool _⟩
 case leq=>cases hr;rw [fK,←jB,←fO];exact ⟨_,_,rfl,rfl,.bool _⟩
 case gtr=>cases hr;rw [fK,←jB,←fO];exact ⟨_,_,rfl,rfl,.bool _⟩
 case geq=>cases hr;rw [←fO];exact ⟨_,_,rfl,rfl,.bool _⟩
theorem kK {op:BinOp} {t:TypeId} {ox oy:Operand} {X Y:Value} (h1: ∀c,X≠.agg c) (h2:X≠.nilIface):(eqGuard op t ox oy X Y).run P w= .ok () w:=by
 unfold eqGuard
 cases X<;>first |(exact absurd rfl (h1 _)) |(exact absurd rfl h2) |(split<;>first |rfl |(cases Y<;>rfl))
theorem AO {op:BinOp} {x y:AV} {X Y:Value} {r:aG} (t:TypeId) (hx:VR P μ x X) (hy:VR P μ y Y) (hr:yh op σ x y=some r):
 ∃v u,r= .val v σ∧(binOp op t X Y).run P w= .ok u w∧VR P μ v u∧(∀c,X≠.agg c)∧X≠.nilIface:=by
 obtain ⟨⟨tx,ex⟩,h1,hr⟩:=aa.1 hr
 obtain ⟨⟨ty,ey⟩,h2,hr⟩:=aa.1 hr
 obtain ⟨t1,r1⟩:=ff hx h1
 obtain ⟨t2,r2⟩:=ff hy h2
 clear h1 h2
 cases tx with
 |int k=>
  cases ty with
  |int j=>
   obtain ⟨hk,hr2⟩:=aj.1 (show au (th k j) (HR op k ex ey σ) none=some r from hr)
   clear hr
   have hr:=hr2
   clear hr2
   rw [fL] at hk
   obtain rfl:=of_decide_eq_true hk
   obtain ⟨n,e1⟩:=t1
   obtain ⟨m,e2⟩:=t2
   rw [e1] at r1
   rw [e2] at r2
   cases r1
   cases r2
   have hop: ∀o,ev (.op o [ex,ey])=cw o [.int k n,.int k m]:=fun o=>by rw [bH];simp only [VT,VU,e1,e2]
   cases op<;>first |(cases hr;done) |skip
   case add=>cases hr;exact ⟨_,_,rfl,by (simp [binOp,WZ])<;>rfl,.tm _ _ _ ⟨_,hop _⟩ (by rw [hop];exact .int _ _),by simp,by simp⟩
   case sub=>cases hr;exact ⟨_,_,rfl,by (simp [binOp,WZ])<;>rfl,.tm _ _ _ ⟨_,hop _⟩ (by rw [hop];exact .int _ _),by simp,by simp⟩
   case rem=>
    obtain ⟨hz,hr⟩:=aj.1 (show au (T3 k ey) (some (aG.val (.tm (.int k) (.op (.kp .rem k) [ex,ey])) σ)) none=some r from hr)
    cases hr
    have hz:=Px hz e2
    exact ⟨_,_,rfl,by (simp [binOp,WY,hz])<;>rfl,.tm _ _ _ ⟨_,hop _⟩ (by rw [hop];exact .int _ _),by simp,by simp⟩
   case mul=>cases hr;exact ⟨_,_,rfl,by (simp [binOp,WZ])<;>rfl,.tm _ _ _ ⟨_,hop _⟩ (by rw [hop];exact .int _ _),by simp,by simp⟩
   all_goals (cases hr;exact ⟨_,_,rfl,by (simp [binOp,W1])<;>rfl,il (hop _),by simp,by simp⟩)
  |_=>cases hr
 |str=>
  cases ty with
  |str=>
   obtain ⟨n,e1⟩:=t1
   obtain ⟨m,e2⟩:=t2
   rw [e1] at r1
   rw [e2] at r2
   cases r1 with
   |str _ X hX=>
   cases r2 with
   |str _ Y hY=>
   subst hX
   subst hY
   have hop: ∀o,ev (.op o [ex,ey])=cw o [.str (X.data.toList.map (·.toNat)),.str (Y.data.toList.map (·.toNat))]:=fun o=>by rw [bH];simp only [VT,VU,e1,e2]
   replace hr:HS op ex ey σ=some r:=hr
   cases op<;>first |(cases hr;done) |skip
   case eql=>cases hr;exact ⟨_,_,rfl,rfl,il ((hop _).trans (by show D.bool (_==_)=_;rw [←jB])),by simp,by simp⟩
   case neq=>cases hr;exact ⟨_,_,rfl,rfl,il ((hop _).trans (by show D.bool (!(_==_))=_;rw [←jB])),by simp,by simp⟩
   case lss=>cases hr;exact ⟨_,_,rfl,rfl,il ((hop _).trans (by show D.bool _=_;rw [←fO])),by simp,by simp⟩
  |_=>cases hr
 |_=>cases hr
theorem kL {v:AV} {u:Value} {x:Tm} (h:VR P μ v u) (hx:yg v=some x): ∃b,ev x= .bool b∧u= .bool b:=by
 unfold yg at hx
 split at hx
 ·cases hx;cases h;exact ⟨_,rfl,rfl⟩
 ·cases hx
  cases h with
  |tm _ _ _ h1 h2=>
   obtain ⟨b,h1⟩:=h1
   rw [h1] at h2
   cases h2
   exact ⟨b,h1,rfl⟩
 ·cases hx
theorem AP {t:TypeId} (hu:P.underlying t=some .bool) (a b:Bool) (w:World):(WR t (.bool a) (.bool b)).run P w= .ok (a==b) w:=by
 have key: ∀d:Nat,(WQ (d+1) t (.bool a) (.bool b)).run P w= .ok (a==b) w:=fun d=>by
  simp only [WQ,Wc,run_underlying hu,Wd]
  rfl
 exact key 9999
theorem rV {op:BinOp} {X Y:Value} {x y:Tm} {r:aG} {t:TypeId} (hk:nG P t 0=true) (hx: ∃b,ev x= .bool b∧X= .bool b) (hy: ∃b,ev y= .bool b∧Y= .bool b) (hr:yf op x y σ=some r):
 ∃v u,r= .val v σ∧(binOp op t X Y).run P w= .ok u w∧VR P μ v u∧(∀c,X≠.agg c)∧X≠.nilIface:=by
 obtain ⟨a,e1,rfl⟩:=hx
 obtain ⟨b,e2,rfl⟩:=hy
 obtain ⟨_,hu,h0,_⟩:=bm (VN hk) (by omega)
 have h0:=h0 rfl
 subst h0
 have hev:ev (.op .beq [x,y])= .bool (a==b):=by rw [bH];simp only [VT,VU,e1,e2];rfl
 cases op<;>first |(cases hr;done) |skip
 ·cases hr
  refine ⟨_,.bool (a==b),rfl,?_,il hev,by simp,by simp⟩
  show (do pure (W3 (←WR t (.bool a) (.bool b))):Sem Value).run P w=_
  simp [AP hu]
 ·cases hr
  refine ⟨_,.bool (!(a==b)),rfl,?_,il (by rw [bH];simp only [VT,VU,hev];rfl),by simp,by simp⟩
  show (do pure (W3 (!(←WR t (.bool a) (.bool b)))):Sem Value).run P w=_
  simp [AP hu]
theorem C5 {op:BinOp} {x y:AV} {X Y:Value} {r:aG} (t:TypeId) (hx:VR P μ x X) (hy:VR P μ y Y) (hr:qE P t op σ x y=some r):
 ∃v u,r= .val v σ∧(binOp op t X Y).run P w= .ok u w∧VR P μ v u∧(∀c,X≠.agg c)∧X≠.nilIface:=by
 have plain:yh op σ x y=some r→∃v u,r= .val v σ∧(binOp op t X Y).run P w= .ok u w∧VR P μ v u∧(∀c,X≠.agg c)∧X≠.nilIface:=fun h=>AO t hx hy h
 unfold qE at hr
 split at hr
 ·rename_i ts xt
  split at hr
  ·obtain ⟨hk,hr1⟩:=aj.1 hr
   obtain ⟨b,hb,hr2⟩:=aa.1 hr1
   obtain ⟨hs,hr3⟩:=aj.1 hr2
   cases hr3
   clear hr hr1 hr2
   obtain ⟨_,hu,_,_,h1,_⟩:=bm (VN hk) (by omega)
   obtain ⟨e,rfl⟩:=h1 rfl
   cases hx with
   |tm _ _ _ g1 g2=>
    obtain ⟨l,hl,_⟩:=g1
    have hne:=AG (show EE xt=true from hs) hl
    rw [hl] at g2
    cases hy
    cases g2 with
    |nil=>exact absurd rfl hne
    |aF _ ad c u hn hm hf hd=>
     refine ⟨_,.bool b,rfl,?_,.bool b,by simp,by simp⟩
     have heq: ∀w:World,(WR t (.slice (some ad) l.length c) (.slice none 0 0)).run P w= .ok false w:=fun w=>Ms hu w
     cases op<;>first |(cases hb;done) |skip
     ·cases hb
      show (do pure (W3 (←WR t (.slice (some ad) l.length c) (.slice none 0 0))):Sem Value).run P w=_
      simp [heq]
     ·cases hb
      show (do pure (W3 (!(←WR t (.slice (some ad) l.length c) (.slice none 0 0)))):Sem Value).run P w=_
      simp [heq]
  ·cases hr
 ·obtain ⟨hk,hr1⟩:=aj.1 hr
  obtain ⟨u,hu,hr2⟩:=aa.1 hr1
  exact rV hk (kL hx rfl) (kL hy hu) hr2
 ·obtain ⟨hk,hr1⟩:=aj.1 hr
  obtain ⟨u,hu,hr2⟩:=aa.1 hr1
  exact rV hk (kL hx rfl) (kL hy hu) hr2
 ·exact plain hr
theorem Gj {op:BinOp} {x y:AV} {X Y:Value} {r:aG} (t:TypeId) (hx:VR P μ x X) (hy:VR P μ y Y) (hr:wR op σ x y=some r):
 ∃v u,r= .val v σ∧(binOp op t X Y).run P w= .ok u w∧VR P μ v u∧(∀c,X≠.agg c)∧X≠.nilIface:=by
 cases x<;>first |(cases hr;done) |skip
 cases y<;>first |(cases hr;done) |skip
 rename_i a b
 obtain ⟨he,hr1⟩:=aj.1 (show au (cp a b) (match op with | .neq=>some (aG.val (ye (.op .Cw [a])) σ) |_=>none) none=some r from hr)
 obtain rfl:=cI he
 clear hr
 cases op<;>first |(cases hr1;done) |skip
 cases hr1
 cases hx with
 |fb _ n h1=>
  cases hy with
  |fb _ m h2=>
   rw [h1] at h2
   cases h2
   refine ⟨_,.bool (FloatKind.f64.format.order n.toNat n.toNat != some .eq),rfl,?_,il (by rw [bH];simp only [VT,VU,h1];rfl),by simp,by simp⟩
   simp [binOp,Op.floatCmp]
theorem PA {op:BinOp} {t t':TypeId} {x y:Operand} {r:aG} (h:SR P N μ σ w) (ha:AR P μ a ca) (hr:Ih op t x y P a σ=some r):
 NR P N μ σ w r ((do pure (.value (←(do eqGuard op t x y (ca.eval x) (ca.eval y);binOp op t (ca.eval x) (ca.eval y)))):Sem Next).run P w):=by
 obtain ⟨v,hv,hr⟩:=aa.1 hr
 obtain ⟨u,hu,hr⟩:=aa.1 hr
 have hx:=ha.eval h hv
 have hy:=ha.eval h hu
 generalize ca.eval x=X at*
 generalize ca.eval y=Y at*
 have fin: ∀{v':AV} {u':Value},(eqGuard op t x y X Y).run P w= .ok () w→r= .val v' σ→(binOp op t X Y).run P w= .ok u' w→VR P μ v' u'→
  NR P N μ σ w r ((do pure (.value (←(do eqGuard op t x y X Y;binOp op t X Y))):Sem Next).run P w):=by
  intro v' u' hg he hb hvr
  subst he
  exact NR.value h (by simp [hg,hb]) hvr
 have viaEq:HP P (cQ x||cQ y) t op v u σ=some r→(∀k a,v≠.int k a)→(∀k a,v≠.float k a)→(∀s,v≠.str s)→
  NR P N μ σ w r ((do pure (.value (←(do eqGuard op t x y X Y;binOp op t X Y))):Sem Next).run P w):=by
  intro he n1 n2 n3
  cases op<;>first |(cases he;done) |skip
  ·obtain ⟨b,hb,rfl⟩:=aO.1 (show omap (Rt P (cQ x||cQ y) t v u) (fun b=>aG.val (.bool b) σ)=some r from he)
   obtain ⟨hg,hrun⟩:=E8 (w:=w) (op:=.eql) (ox:=x) (oy:=y) (.inl rfl) rfl hx hy hb
   refine fin hg rfl (u':=.bool b) ?_ (.bool b)
   have:binOp .eql t X Y=(do pure (.bool (←WR t X Y))):=by
    cases hx<;>first |rfl |exact absurd rfl (n1 _ _) |exact absurd rfl (n2 _ _) |exact absurd rfl (n3 _) |(cases hb;done) |(cases hy<;>first |rfl |(cases hb;done))
   rw [this]
   simp [hrun]
  ·obtain ⟨b,hb,rfl⟩:=aO.1 (show omap (Rt P (cQ x||cQ y) t v u) (fun b=>aG.val (.bool (!b)) σ)=some r from he)
   obtain ⟨hg,hrun⟩:=E8 (w:=w) (op:=.neq) (ox:=x) (oy:=y) (.inr rfl) rfl hx hy hb
   refine fin hg rfl (u':=.bool (!b)) ?_ (.bool (!b))
   have:binOp .neq t X Y=(do pure (.bool (!(←WR t X Y)))):=by
    cases hx<;>first |rfl |exact absurd rfl (n1 _ _) |exact absurd rfl (n2 _ _) |exact absurd rfl (n3 _) |(cases hb;done) |(cases hy<;>first |rfl |(cases hb;done))
   rw [this]
   simp [hrun]
 replace hr:au (gC v||gC u) (qE P t op σ v u) (au (L4 v) (wR op σ v u) (HT P (cQ x||cQ y) op t σ v u))=some r:=hr
 cases htm:(gC v||gC u) with
 |true=>
  rw [htm] at hr
  obtain ⟨v',u',e1,e2,e3,e4,e5⟩:=C5 (P:=P) (w:=w) t hx hy hr
  exact fin (kK e4 e5) e1 e2 e3
 |false=>
 rw [htm] at hr
 replace hr:au (L4 v) (wR op σ v u) (HT P (cQ x||cQ y) op t σ v u)=some r:=hr
 cases hfb:L4 v with
 |true=>
  rw [hfb] at hr
  obtain ⟨v',u',e1,e2,e3,e4,e5⟩:=Gj (P:=P) (w:=w) t hx hy hr
  exact fin (kK e4 e5) e1 e2 e3
 |false=>
 rw [hfb] at hr
 replace hr:HT P (cQ x||cQ y) op t σ v u=some r:=hr
 unfold HT at hr
 cases v with
 |int k x'=>cases u with
  |int k' y'=>
   simp only at hr
   cases hx;cases hy
   rw [gW] at hr
   split at hr
   ·rename_i hs
    unfold HQ at hr
    split at hr
    ·rename_i n
     have hn: ¬(Vw n<0):=by simp only [VP];omega
     cases op<;>first |(cases hs;done) |skip
     ·cases hr
      exact fin (kK (by simp) (by simp)) rfl (u':=.int k (k.wrap (x'*2 ^ (min n k.bits)))) (by simp [binOp,Op.shift];intro hh;omega) (.int _ _)
     ·cases hr
      exact fin (kK (by simp) (by simp)) rfl (u':=.int k (x'.fdiv (2 ^ (min n k.bits)))) (by simp [binOp,Op.shift];intro hh;omega) (.int _ _)
    ·cases hr
   ·rename_i hs
    replace hr:=aj.1 hr
    obtain ⟨hk,hr⟩:=hr
    rw [fL] at hk
    have hk:=of_decide_eq_true hk
    subst hk
    obtain ⟨v',u',e1,e2,e3⟩:=Gh (P:=P) (μ:=μ) (w:=w) t (by simpa using hs) hr
    exact fin (kK (by simp) (by simp)) e1 e2 e3
  |_=>cases hr
 |float k x'=>cases u with
  |float k' y'=>
   simp only at hr
   cases hx;cases hy
   replace hr:=aj.1 hr
   obtain ⟨hk,hr⟩:=hr
   have hk:=of_decide_eq_true hk
   subst hk
   obtain ⟨v',u',e1,e2,e3⟩:=AN (P:=P) (μ:=μ) (w:=w) t hr
   exact fin (kK (by simp) (by simp)) e1 e2 e3
  |_=>cases hr
 |str x'=>cases u with
  |str y'=>
   simp only at hr
   cases hx with
   |str _ X hX=>cases hy with
    |str _ Y hY=>
     obtain ⟨v',u',e1,e2,e3⟩:=Gi (P:=P) (μ:=μ) (w:=w) t hX hY hr
     exact fin (kK (by simp) (by simp)) e1 e2 e3
  |_=>cases hr
 |_=>exact viaEq hr (by simp) (by simp) (by simp)
theorem R3 {op:UnOp} {x:Operand} {r:aG} (h:SR P N μ σ w) (ha:AR P μ a ca) (hr:RY op x P a σ=some r):
 NR P N μ σ w r ((do pure (.value (←W4 op (ca.eval x))):Sem Next).run P w):=by
 obtain ⟨v,hv,hr⟩:=aa.1 hr
 obtain ⟨u,hu,rfl⟩:=aO.1 hr
 have hx:=ha.eval h hv
 generalize ca.eval x=X at*
 have htm: ∀ty y,v= .tm ty y→NR P N μ σ w (.val u σ) ((do pure (.value (←W4 op X)):Sem Next).run P w):=by
  rintro ty y rfl
  cases op<;>cases ty<;>first |(cases hu;done) |skip
  cases hu
  cases hx with
  |tm _ _ _ h1 h2=>
   obtain ⟨b,hb⟩:=h1
   rw [hb] at h2
   cases h2
   refine NR.value h (u:=.bool !b) (by simp [W4]<;>rfl) (il ?_)
   rw [bH]
   simp only [VT,VU,hb]
   rfl
 cases v
 case tm ty y=>exact htm ty y rfl
 all_goals (cases op<;>first |(cases hu;done) |skip)
 all_goals cases hu
 all_goals cases hx
 all_goals first
  |exact NR.value h (by simp [W4,WZ]<;>rfl) (.int _ _)
  |exact NR.value h (by simp [W4,W0]<;>rfl) (.int _ _)
  |exact NR.value h (by simp [W4]<;>rfl) (.float _ _)
  |exact NR.value h (by simp [W4]<;>rfl) (.bool _)
end
end
section
open Go Go.RowKit
variable [Env]
section
variable {P:Program} {N:Nat} {μ:bw} {σ:St} {w:World} {a:aN} {ca:Act}
theorem SR.dropped (h:SR P N μ σ w) {b:Pos} {e:fx} {k:aY} (hb:μ b=some e) (hk:σ.h.get b=some k) (hN:N≤e.a.block∨(e=cz∧0<N)):bF P N μ σ w μ (σ.put b .dead) w:=by
 have hbr:BR P N μ w k e:=by
  obtain ⟨k',h1,h2⟩:=h.bU b _ hb
  rw [hk] at h1;cases h1;exact h2
 have:=h.CY (b:=b) (e:=e) (k:=.dead) (σ':=σ.put b .dead) none (iP w _) (.inl hb) (fM σ b .dead) (by rw [jj];exact VY _) (by rw [jj];exact h.lt b e hb) ⟨hN,hbr.lt⟩
  (fun g hg=>by cases hg) (fun hd=>by cases hd) (fun g hg=>by cases hg) (fun hw=>by cases hw)
 rwa [pA hb] at this
theorem SR.Mt (h:SR P N μ σ w) {w':World} {b:Pos} {e e':fx} {k k':aY} (hb:μ b=some e) (hk:σ.h.get b=some k) (hd:bO k=false) (hN:N≤e.a.block) (he:e'.a.block=e.a.block)
 (hg:w.grownBy w' (some e.a.block)) (hbr':BR P N (dm μ σ.n e') w' k' e') (hfr: ∀ad v,μ.fz ad=some v→ad.block=e.a.block→w'.cell? ad=some v) (hap:writes k'=true→∀ad v,μ.fz ad=some v→ad.block≠e.a.block):
 bF P N μ σ w (dm μ σ.n e') ((σ.put b .dead).push k') w':=by
 have h1:bF P N μ σ w μ (σ.put b .dead) w:=h.dropped hb hk (.inl hN)
 have hsn:(σ.put b .dead).n=σ.n:=jj σ b .dead
 have hfn:μ σ.n=none:=h.fresh
 have hne: ∀x ex kx,x≠σ.n→μ x=some ex→(σ.put b .dead).h.get x=some kx→bO kx=false→ex.a.block≠e.a.block:=by
  intro x ex kx _ hx hkx hdx heq
  rw [fM] at hkx
  by_cases hxb:b=x
  ·subst hxb;rw [if_pos rfl] at hkx;cases hkx;cases hdx
  ·rw [if_neg hxb] at hkx
   exact hxb (h.inj b x _ ex _ kx hb hx hk hkx hd hdx hN heq.symm)
 have h2:=h1.sr.CY (w':=w') (b:=σ.n) (e:=e') (k:=k') (σ':=(σ.put b .dead).push k') (some e.a.block) hg
  (.inr ⟨hfn,by rw [hsn];exact VY _,.inr ⟨b,_,hb,he.symm⟩⟩)
  (fun x=>by rw [bP,hsn]) (by rw [eh,hsn,Pos.bZ];omega) (by rw [eh,hsn,Pos.bZ];omega) hbr'
  (fun g₁ hg₁=>by cases hg₁;exact ⟨hN,⟨b,_,hb,rfl⟩,fun x ex kx hx hm hkx hd=>hne x ex kx hx hm hkx hd⟩)
  (fun _ _ x ex kx hx hm hkx hd=>he▸hne x ex kx hx hm hkx hd)
  (fun g hg ad v ha hbl=>by cases hg;exact hfr ad v ha hbl) (fun hw _ ad v ha=>he▸hap hw ad v ha)
 exact h1.trans h2
theorem SR.R4 (h:SR P N μ σ w) {w':World} {b:Pos} {e e':fx} {k k':aY} (hb:μ b=some e) (hk:σ.h.get b=some k) (hd:bO k=false) (hN:N≤e.a.block) (he:e'.a.block=e.a.block)
 (hg:w.grownBy w' (some e.a.block)) (hbr':BR P N (dm μ σ.n e') w' k' e') (hwr:writes k=true:=by rfl):bF P N μ σ w (dm μ σ.n e') ((σ.put b .dead).push k') w':=
 h.Mt hb hk hd hN he hg hbr' (fun ad v ha hbl=>absurd hbl (h.apart b e k hb hk hwr hN ad v ha)) (fun _ ad v ha=>h.apart b e k hb hk hwr hN ad v ha)
theorem SR.PB (h:SR P N μ σ w) {w':World} {b:Pos} {e:fx} {k:aY} (hb:μ b=some e) (hk:σ.h.get b=some k) (hd:bO k=false) (hN:N≤e.a.block) (hg:w.grownBy w' (some e.a.block))
 (hwr:writes k=true:=by rfl):bF P N μ σ w μ (σ.put b .dead) w':=by
 have hbr:BR P N μ w k e:=by
  obtain ⟨k',h1,h2⟩:=h.bU b _ hb
  rw [hk] at h1;cases h1;exact h2
 exact h.jA (k:=.dead) hb hk hd hN hg ⟨.inl hN,VX hbr.lt hg.size⟩ hwr
theorem kM (w:World) (g k n:Nat):w.grownBy (w.freeze ⟨g,k,none⟩ n) (some g):=by
 unfold W5
 split
 ·exact iP w _
 ·refine ⟨rfl,rfl,rfl,by simp,fun j hj hne=>?_⟩
  simp only [Wr]
  rw [if_neg (fun e=>hne (by rw [e]))]
theorem AQ (w:World) (g k n:Nat) (a:Addr):(w.freeze ⟨g,k,none⟩ n).cell? a=w.cell? a:=by
 unfold W5
 split
 ·rfl
 ·unfold Wh
  simp only [Wr]
  by_cases h:g=a.block
  ·rw [if_pos h]
   cases w.heap[a.block]? with
   |none=>rfl
   |some o=>cases o<;>rfl
  ·rw [if_neg h]
section
variable {src dst:TypeId} {us:TypeDesc}
theorem Gk {e:TypeId} {b:Pos} {n:Nat} {fV wh:Bool} {X:Value} {r:aG} (h:SR P N μ σ w) (hx:VR P μ (.slice b 0 n fV wh) X) (hud:P.underlying dst=some (.slice e))
 (hr:ab (σ.h.get b) (tA P src dst e b n σ)=some r):NR P N μ σ w r ((do pure (.value (←convert src dst X)):Sem Next).run P w):=by
 obtain ⟨k,hk,hr1⟩:=aa.1 hr
 clear hr
 unfold tA at hr1
 split at hr1
 ·rename_i own t len c
  obtain ⟨hq,hr2⟩:=aj.1 hr1
  cases hr2
  simp only [V1] at hq
  obtain ⟨⟨⟨⟨q1,q2⟩,q3⟩,q4⟩,q5⟩:=hq
  subst q1
  obtain rfl:src=dst:=VN q2
  have q3:=nS q3
  have q5:n≤len:=VQ q5
  cases hx with
  |slice _ _ _ _ _ en ad cc hen had hn hm hl hc=>
   obtain ⟨k',hk',hbr⟩:=h.bU b en hen
   rw [hk] at hk'
   cases hk'
   obtain ⟨g,sz,cur,rfl,hN,h1,h2,h3,h4⟩:=hbr
   obtain rfl:ad=⟨g,0,none⟩:=by
    rcases had with h |⟨_,h⟩
    ·rw [h,add_nil]
    ·exact absurd rfl h
   have hlt:g<w.heap.size:=(Array.getElem?_eq_some_iff.1 h1).1
   have hsh:w.shape? g=some (t,cur.size):=by unfold World.shape?;rw [h1]
   have hG:=h.R4 (w':=w.freeze ⟨g,cur.size,none⟩ 1) (e':=⟨⟨g,0,none⟩,none⟩) (k':=.cells false t len c) hen hk rfl hN rfl (kM w g cur.size 1) (by
    refine ⟨rfl,VX hlt (kM w g cur.size 1).size,fun i hi=>?_⟩
    obtain ⟨av,v,r1,r2,r3,r4⟩:=h4 i hi
    refine ⟨av,v,r1,?_,r3.mono (eJ (.inl h.fresh)),r4⟩
    show (w.freeze ⟨g,cur.size,none⟩ 1).cell? ((⟨g,0,none⟩:Addr).add i)=some v
    rw [AQ,add_zero]
    simpa [Wh,h1] using r2)
   refine ⟨_,.slice (some ⟨g,0,none⟩) n cc,_,?_,hG,VR.slice σ.n 0 n false false ⟨⟨g,0,none⟩,none⟩ _ cc (bG _ _ _) (.inl (by rw [add_nil])) hn hm (fun h=>by cases h) (fun h=>by cases h),ei⟩
   simp [convert,run_underlying hud,run_underlying q3,markStringish,hsh]
 ·cases hr1
theorem C6 {e:TypeId} {z count:Nat} (hz:P.cellsOf e=z) (h1:1≤z) (hc:1≤count):liesAt P P.depth e count 0 e 1=true:=by
 have hd:P.depth=(2*(P.types.size+Made.depth)+1)+1:=rfl
 rw [hd]
 simp only [liesAt,WW]
 left
 rw [hd]
 have hz0: ¬z=0:=by omega
 simp [rowAt,hz,hz0,hc,sameLayout]
theorem AS {t:TypeId} {v:AV} {X:Value} {r:aG} (h:SR P N μ σ w) (hx:VR P μ v X) (hc:(P.underlying src=some (.pointer t)∧P.underlying dst=some .unsafePointer)∨(P.underlying src=some .unsafePointer∧P.underlying dst=some (.pointer t)))
 (hr:sI P t σ v=some r):NR P N μ σ w r ((do pure (.value (←convert src dst X)):Sem Next).run P w):=by
 unfold sI at hr
 split at hr
 ·cases hr
  cases hx
  refine NR.value h (u:=.pointer none) ?_ .bX
  rcases hc with ⟨h1,h2⟩ |⟨h1,h2⟩<;>simp [convert,W6,run_underlying h1,run_underlying h2]
 ·rename_i b
  obtain ⟨k,hk,hr1⟩:=aa.1 hr
  obtain ⟨z,hz,hr2⟩:=aa.1 hr1
  obtain ⟨hro,hr3⟩:=aj.1 hr2
  cases hr3
  clear hr hr1 hr2
  have hx0:=hx
  cases hx with
  |ptr _ _ e he=>
   obtain ⟨k',hk',hbr⟩:=h.bU b e he
   rw [hk] at hk'
   cases hk'
   unfold rowOf at hro
   split at hro
   ·rename_i own u len c
    simp only [V1] at hro
    obtain ⟨⟨⟨q1,q2⟩,q3⟩,q4⟩:=hro
    subst q1
    obtain rfl:t=u:=VN q2
    have q3:1≤z:=VQ q3
    have q4:z≤len:=VQ q4
    obtain ⟨g,sz,cur,rfl,hN,h1,h2,h3,h4⟩:=hbr
    have hsh:w.shape? g=some (t,cur.size):=by unfold World.shape?;rw [h1]
    have hcs:P.cellsOf t=z:=cq hz
    have hso:=bq hz w
    have hz0: ¬z=0:=by omega
    have hge: ¬cur.size=0:=by omega
    refine NR.value h (u:=.pointer (some ⟨g,0,none⟩)) ?_ (by rw [add_nil] at hx0;exact hx0)
    rw [add_nil]
    rcases hc with ⟨h5,h6⟩ |⟨h5,h6⟩
    ·simp [convert,W6,run_underlying h5,run_underlying h6,Conv.seenAt,viewAt,cellsIn,hsh,hso,hz0,hge]
    ·have hl:=C6 (P:=P) (count:=cur.size / z) hcs q3 (Nat.div_pos (by omega) (by omega))
     simp [convert,W6,run_underlying h5,run_underlying h6,Conv.seenAt,viewAt,hsh,hso,hz0,variablesAt,hcs,hl]
   ·cases hro
 ·cases hr
end
end
end
section
open Go Go.RowKit
variable [Env]
section
variable {P:Program} {N:Nat} {μ:bw} {σ:St} {w:World} {a:aN} {ca:Act}
theorem bF.val {r:AV} {σ':St} {w':World} {u:Value} {μ':bw} {s:Sem Value} (hg:bF P N μ σ w μ' σ' w') (hrun:s.run P w= .ok u w') (hv:VR P μ' r u) (hne:σ'.n=σ.n→μ'=μ:=by first |exact ir |exact C0 |exact ei |exact fun _=>rfl):
 NR P N μ σ w (.val r σ') ((do pure (.value (←s)):Sem Next).run P w):=⟨μ',u,w',by simp [hrun],hg,hv,hne⟩
theorem qQ (w:World) (e:TypeId) (s:ByteArray):w.grownBy (W7 w e s) none:=by
 refine ⟨?_,?_,?_,by rw [W8];omega,fun k hk _=>Lib.bytesWorld_at_old w e s k hk⟩<;>
 ·unfold W7 W5
  split<;>rfl
theorem Mu (l:List UInt8) (i:Nat):(Hy (l.map (·.toNat)))[i]? =(l[i]?).map fun b=>AV.int .u8 (Vw b.toNat):=by
 simp [Hy]
 rfl
theorem IM (l:List Nat):cf (Hy l)=true:=by
 rw [ik]
 simp [Hy,AV.one]
theorem xd: ∀{cs:List AV} {l:List Nat} {C:List Value},HF cs=some l→b8 P μ cs C→C=(l.map fun c=>Value.int .u8 (Vw c))∧∀c∈l,c≤255:=by
 intro cs
 induction cs with
 |nil=>intro l C h hv;cases h;cases hv;exact ⟨rfl,by simp⟩
 |cons v cs ih=>
  intro l C h hv
  cases hv with
  |cons _ u _ us hv hvs=>
   cases v with
   |int k n=>
    cases k<;>first |(cases h;done) |skip
    cases n with
    |negSucc n=>cases h
    |ofNat c=>
     unfold HF at h
     cases hc:Vv c 255 with
     |false=>rw [hc] at h;cases h
     |true=>
      rw [hc,cond_true] at h
      split at h
      ·rename_i l' hl
       cases h
       obtain ⟨h1,h2⟩:=ih hl hvs
       cases hv
       refine ⟨by rw [h1];rfl,fun x hx=>?_⟩
       cases hx with
       |head=>exact VQ hc
       |tail _ hx=>exact h2 x hx
      ·cases h
   |_=>cases h
section
variable {src dst:TypeId} {us:TypeDesc}
theorem AT {k j:IntKind} {n:Int} (hus:P.underlying src=some us) (hud:P.underlying dst=some (.int k)):(convert src dst (.int j n)).run P w= .ok (.int k (k.wrap n)) w:=by
 cases us<;>simp [convert,run_underlying hus,run_underlying hud,Conv.intToInt]
theorem C7 {k:FloatKind} {j:IntKind} {n:Int} (hus:P.underlying src=some us) (hud:P.underlying dst=some (.float k)):(convert src dst (.int j n)).run P w= .ok (.float k (k.nearest n)) w:=by
 cases us<;>simp [convert,run_underlying hus,run_underlying hud,Conv.intToFloat]
theorem Mv {k:FloatKind} {n:Nat} (hus:P.underlying src=some us) (hud:P.underlying dst=some (.float k)):(convert src dst (.float k n)).run P w= .ok (.float k n) w:=by
 cases us<;>simp [convert,run_underlying hus,run_underlying hud,Conv.floatToFloat]
theorem Gl {j:IntKind} {n:Nat} (hus:P.underlying src=some us) (hud:P.underlying dst=some .string):(convert src dst (.int j (Vw n))).run P w= .ok (.string (W9 n)) w:=by
 cases us<;>simp [convert,run_underlying hus,run_underlying hud,Conv.intToString]
theorem Mw {s:ByteArray} (hus:P.underlying src=some us) (hud:P.underlying dst=some .string):(convert src dst (.string s)).run P w= .ok (.string s) w:=by
 cases us<;>simp [convert,run_underlying hus,run_underlying hud]
theorem C8 {n:Nat} (hle:n≤127):(W9 n).data.toList.map (·.toNat)=[n]:=by
 have h1:Utf8.valid (n:Int)=true:=by simp [Utf8.valid];omega
 simp only [W9,h1,if_true,Wt]
 rw [if_pos (by omega)]
 simp
 omega
theorem uc {v:AV} {X:Value} {r:aG} (h:SR P N μ σ w) (hx:VR P μ v X) (hud:P.underlying dst=some .string) (hr:ab (dJ P src) (fun e=>mQ P e v σ)=some r):
 NR P N μ σ w r ((do pure (.value (←convert src dst X)):Sem Next).run P w):=by
 obtain ⟨e,he,hr⟩:=aa.1 hr
 have he:=cA he
 obtain ⟨h8,hr⟩:=aj.1 hr
 have h8:=nS h8
 cases v with
 |slice b o n fV wh=>
  obtain ⟨cs,hcs,hr⟩:=aa.1 hr
  obtain ⟨l,hl,rfl⟩:=aO.1 hr
  cases hx with
  |slice _ _ _ _ _ en ad c hen had hn hm hlim hc=>
   obtain ⟨h1,h2,us',h3,h4,h5⟩:=h.iq hen hcs
   obtain ⟨rfl,h7⟩:=xd hl h3
   have hload:=run_loadCells (P:=P) (a:=ad) h4 (fun j hj=>by
    obtain rfl:ad=en.a.add o:=had.elim id (fun h=>by omega)
    rw [add_add];exact h5 j hj)
   have hlen:l.length=n:=by simpa using h4
   have:=run_bytesToString w ad n c (l.map Vw) (by rw [List.map_map];exact hload)
   refine NR.value h (by simp only [Wc,run_convert_bytes_string w src dst e _ n c he h8 hud,this,Wd];rfl) (.str l _ ?_)
   rw [foldl_push_bytes,show ByteArray.empty=⟨#[]⟩ from rfl]
   simp only [Array.toList_append,List.map_append,List.map_map]
   have:(l.map ((fun b:UInt8=>b.toNat)∘((fun n:Int=>UInt8.ofNat n.toNat)∘Vw)))=l:=by
    conv=>rhs;rw [←List.map_id l]
    refine List.map_congr_left fun c hc=>?_
    have:=h7 c hc
    simp
    omega
   simpa using this
 |an=>
  cases hr
  cases hx
  exact NR.value h (by simp only [Wc,run_convert_bytes_nil (P:=P) w src e he h8 0 0 dst hud,Wd];rfl) (.str [] _ rfl)
 |_=>cases hr
theorem AU {e:TypeId} {v:AV} {X:Value} {r:aG} {l:List Nat} (h:SR P N μ σ w) (hx:VR P μ (.str l) X) (hus:P.underlying src=some us) (hud:P.underlying dst=some (.slice e)) (hr:EG P e l σ=some r):
 NR P N μ σ w r ((do pure (.value (←convert src dst X)):Sem Next).run P w):=by
 obtain ⟨h8,hr⟩:=aj.1 hr
 obtain ⟨hle,hr⟩:=aj.1 hr
 have hle:=VQ hle
 have h8:=nS h8
 cases hr
 cases hx with
 |str _ s hs=>
  subst hs
  have hg:bF P N μ σ w (dm μ σ.n ⟨⟨w.heap.size,0,none⟩,none⟩) (σ.push (.cells false e (s.data.toList.map (·.toNat)).length (.of (Hy (s.data.toList.map (·.toNat)))))) (W7 w e s):=by
   refine h.laid (qQ w e s) (VY _) ⟨rfl,by rw [W8];exact Nat.lt_succ_self _,fun i hi=>?_⟩
   have hi:i<s.size:=by simpa using hi
   have hi':i<s.data.toList.length:=by simpa using hi
   refine ⟨.int .u8 (Vw (s.data.toList[i]).toNat),.int .u8 (s.data.toList.getD i 0).toNat,?_,?_,?_,rfl⟩
   ·rw [Cs.jy,Mu,Wj hi'];rfl
   ·have:=Lib.bytesWorld_cell w e s i hi
    simpa [add_zero] using this
   ·rw [show s.data.toList.getD i 0=s.data.toList[i] from by simp [List.getD,Wj hi']]
    exact .int _ _
  refine hg.val (Lib.run_convert_string_bytes w src dst e s hus hud h8) ?_
  have hlen:(s.data.toList.map (·.toNat)).length=s.size:=by simp
  rw [hlen]
  have:=VR.slice (P:=P) (μ:=dm μ σ.n ⟨⟨w.heap.size,0,none⟩,none⟩) σ.n 0 s.size false true ⟨⟨w.heap.size,0,none⟩,none⟩ _ (grownCap w s.size 0 e) (dK _ _ _) (.inl rfl) (grownCap_ge w s.size 0 e)
   (grownCap_le_maxLen w s.size 0 e (by rw [hlen] at hle;simp only [maxLen];omega)) (by simp) (by simp)
  simpa [add_nil] using this
end
theorem Mx {src dst:TypeId} {x:Operand} {r:aG} (h:SR P N μ σ w) (ha:AR P μ a ca) (hr:Al src dst x P a σ=some r):
 NR P N μ σ w r ((do pure (.value (←convert src dst (ca.eval x))):Sem Next).run P w):=by
 obtain ⟨v,hv,hr1⟩:=aa.1 hr
 have hx:=ha.eval h hv
 clear hr
 generalize ca.eval x=X at*
 obtain ⟨us,hus,hr2⟩:=aa.1 hr1
 clear hr1
 obtain ⟨ud,hud,hr⟩:=aa.1 hr2
 clear hr2
 cases ud with
 |int k=>cases v with
  |int j n=>cases hr;cases hx;exact NR.value h (by simp only [Wc,AT hus hud,Wd];rfl) (by rw [py];exact .int _ _)
  |tm ty y=>
   cases ty<;>first |(cases hr;done) |skip
   cases hr
   cases hx with
   |tm _ _ _ h1 h2=>
    obtain ⟨n,h1⟩:=h1
    rw [h1] at h2
    cases h2
    have hev:ev (.op (.conv k) [y])= .int k (k.wrap n):=by rw [bH];simp only [VT,VU,h1];rfl
    exact NR.value h (by simp only [Wc,AT hus hud,Wd];rfl) (.tm _ _ _ ⟨_,hev⟩ (by rw [hev];exact .int _ _))
  |_=>cases hr
 |float k=>cases v with
  |int j n=>cases hr;cases hx;exact NR.value h (by simp only [Wc,C7 hus hud,Wd];rfl) (.float _ _)
  |float j n=>
   obtain ⟨hk,hq⟩:=aj.1 hr
   have hk:=of_decide_eq_true hk
   cases hq
   clear hr
   subst hk
   cases hx
   exact NR.value h (by simp only [Wc,Mv hus hud,Wd];rfl) (.float _ _)
  |_=>cases hr
 |string=>cases v with
  |int j n=>cases n with
   |ofNat n=>
    obtain ⟨hle,hq⟩:=aj.1 hr
    cases hq
    cases hx
    exact NR.value h (by simp only [Wc,Gl hus hud,Wd];rfl) (.str _ _ (C8 (VQ hle)))
   |negSucc n=>exact uc h hx hud hr
  |str l=>cases hr;cases hx with |str _ s hs=>exact NR.value h (by simp only [Wc,Mw hus hud,Wd];rfl) (.str _ s hs)
  |_=>exact uc h hx hud hr
 |slice e=>
  replace hr:CD P src dst e σ v=some r:=hr
  unfold CD at hr
  split at hr
  ·exact AU (v:=.bX) h hx hus hud hr
  ·exact Gk h hx hud hr
  ·cases hr
 |unsafePointer=>
  cases us<;>first |(cases hr;done) |skip
  exact AS h hx (.inl ⟨hus,hud⟩) hr
 |pointer t=>
  cases us<;>first |(cases hr;done) |skip
  exact AS h hx (.inr ⟨hus,hud⟩) hr
 |_=>cases hr
end
end
section
open Go Go.RowKit
variable [Env]
section
variable {P:Program} {N:Nat} {μ:bw} {σ:St} {w:World} {a:aN} {ca:Act}
theorem nw (off:Nat) (u:Array Value) (Z:Array Value) (h:off+u.size≤Z.size):
 (u.zipIdx.foldl (fun cs (x:Value×Nat)=>cs.setIfInBounds (off+x.2) x.1) Z).toList=Z.toList.take off++(u.toList++Z.toList.drop (off+u.size)):=by
 rw [←Xa,Xb]
 obtain ⟨h1,h2⟩:=Xc off u.toList 0 Z
 apply List.ext_getElem?
 intro k
 rw [WM,h2 k]
 simp only [Nat.add_zero,Array.length_toList]
 by_cases hk:off≤k∧k<off+u.size∧k<Z.size
 ·rw [if_pos hk]
  simp [Xd,V9,Wa (show off≤Z.size by omega),show ¬k<off by omega,show k - off<u.size by omega]
 ·rw [if_neg hk]
  by_cases hlt:k<off
  ·simp [Xd,V9,Wa (show off≤Z.size by omega),hlt]
  ·have: ¬k - off<u.size:=by omega
   simp [Xd,V9,Wa (show off≤Z.size by omega),hlt,this,VM]
   congr 1
   omega
theorem wy (off:Nat) (u:Array Value) (Z:Array Value):(u.zipIdx.foldl (fun cs (x:Value×Nat)=>cs.setIfInBounds (off+x.2) x.1) Z).size=Z.size:=by
 rw [←Xa,Xb]
 exact (Xc off u.toList 0 Z).1
theorem yM {z:Nat} {v:AV} {r' r:List AV} (h:addPart z r' v=some r) {u:Value} (hv:VR P μ v u):v.cells.length=z∧cf v.cells=true∧r=v.cells++r'∧b8 P μ v.cells u.cells.toList:=by
 have one:v.one=true→au (Vo z 1) (some (v::r')) none=some r→v≠.bad→v.cells=[v]→v.cells.length=z∧cf v.cells=true∧r=v.cells++r'∧b8 P μ v.cells u.cells.toList:=by
  intro ho hq hb hc
  obtain ⟨h1,h2⟩:=aj.1 hq
  cases h2
  have h1:=VN h1
  refine ⟨by rw [hc,h1];rfl,by rw [hc,ik];simp [ho],by rw [hc];rfl,hv.cells hb⟩
 cases v with
 |agg cs=>
  obtain ⟨h1,h2⟩:=aj.1 h
  cases h2
  refine ⟨VN h1,?_,rfl,hv.cells (by simp)⟩
  cases hv with |agg _ C hC ho=>exact ho
 |tuple _=>cases h
 |bad=>cases h
 |_=>exact one rfl h (by simp) rfl
theorem AW (place:Nat→Option (Nat×Nat)) (n:Nat): ∀(is:List Nat) (at_:Nat) (zs:List Nat),ns place is at_ n=some zs→at_≤n
 |[],at_,zs,h=>by
  unfold ns at h
  cases hb:Vo at_ n with
  |true=>exact Nat.le_of_eq (VN hb)
  |false=>rw [hb] at h;cases h
 |i::is,at_,zs,h=>by
  unfold ns at h
  split at h
  ·rename_i p hp
   cases hb:Vo p.1 at_ with
   |false=>rw [hb] at h;cases h
   |true=>
    rw [hb,cond_true] at h
    split at h
    ·rename_i r hr
     have:=AW place n is _ _ hr
     omega
    ·cases h
  ·cases h
theorem gk (place:Nat→Option (Nat×Nat)) (n:Nat): ∀(is:List Nat) (at_:Nat) (zs:List Nat) (vs:List AV) (us:List Value) (r:List AV) (Z:Array Value),ns place is at_ n=some zs→pa zs vs=some r→b8 P μ vs us→Z.size=n→us.length=is.length→
 ∃R,Xe place Z (is.zip us)=some (Z.toList.take at_++R).toArray∧b8 P μ r R∧cf r=true∧at_+R.length=n
 |[],at_,zs,vs,us,r,Z,h,hj,hv,hz,hl=>by
  unfold ns at h
  cases hb:Vo at_ n with
  |false=>rw [hb] at h;cases h
  |true=>
   rw [hb] at h
   cases h
   have hb:=VN hb
   have:us=[]:=Wk hl
   subst this
   cases hv
   cases hj
   refine ⟨[],?_,.nil,rfl,by simpa using hb⟩
   simp only [Xf,Xe,List.append_nil]
   rw [hb,←hz,List.take_of_length_le (by simp)]
 |i::is,at_,zs,vs,us,r,Z,h,hj,hv,hz,hl=>by
  unfold ns at h
  split at h
  ·rename_i p hp
   cases hb:Vo p.1 at_ with
   |false=>rw [hb] at h;cases h
   |true=>
    have hb':=VN hb
    rw [hb,cond_true] at h
    split at h
    ·rename_i zs' hzs
     cases h
     cases hv with
     |nil=>simp at hl
     |cons v u vs us hv hvs=>
      obtain ⟨r',hr',hj⟩:=aa.1 (show ab (pa zs' vs) (fun r=>addPart p.2 r v)=some r from hj)
      obtain ⟨h1,h2,rfl,h4⟩:=yM hj hv
      have hle:=AW place n is _ _ hzs
      have hu:u.cells.size=p.2:=by rw [←h1];simpa using h4.length.symm
      have hlen:at_+u.cells.size≤Z.size:=by omega
      obtain ⟨R,q1,q2,q3,q4⟩:=gk place n is (at_+p.2) zs' vs us r' (u.cells.zipIdx.foldl (fun cs (x:Value×Nat)=>cs.setIfInBounds (at_+x.2) x.1) Z) hzs hr' hvs
       (by rw [wy];exact hz) (by simpa using hl)
      refine ⟨u.cells.toList++R,?_,h4.append q2,fy h2 q3,by simp [hu];omega⟩
      rw [Xg]
      unfold Xe
      rw [hp]
      simp only [hb']
      rw [if_neg (by simp;omega),q1,nw at_ u.cells Z hlen]
      congr 2
      have e1:(Z.toList.take at_++u.cells.toList).length=at_+p.2:=by simp;omega
      rw [←Xh,←e1,List.take_left,Xh]
    ·cases h
  ·cases h
theorem qR (place:Nat→Option (Nat×Nat)): ∀(is:List Nat) (vs:List AV) (us:List Value) (z r:List AV) (Z:Array Value),z9 place z (is.zip vs)=some r→b8 P μ vs us→b8 P μ z Z.toList→cf z=true→
 ∃R,Xe place Z (is.zip us)=some R∧b8 P μ r R.toList∧cf r=true
 |[],vs,us,z,r,Z,h,hv,hz,ho=>by
  simp only [Xf] at h⊢
  cases h
  exact ⟨Z,rfl,hz,ho⟩
 |i::is,vs,us,z,r,Z,h,hv,hz,ho=>by
  cases hv with
  |nil=>simp only [List.zip_nil_right] at h⊢;cases h;exact ⟨Z,rfl,hz,ho⟩
  |cons v u vs us hv hvs=>
   rw [Xg] at h⊢
   unfold z9 at h
   obtain ⟨p,hp,h⟩:=aa.1 h
   obtain ⟨hc,h⟩:=aj.1 h
   simp only [V1] at hc
   obtain ⟨⟨hc1,hc2⟩,hc3⟩:=hc
   have hc1:=VN hc1
   have hc2:p.1+p.2≤z.length:=VQ hc2
   have h4:=hv.cells (bT hc3)
   have hu:u.cells.size=p.2:=by rw [←hc1];simpa using h4.length.symm
   have hzl:z.length=Z.size:=by simpa using hz.length
   unfold Xe
   rw [hp]
   simp only []
   rw [if_neg (by simp;omega)]
   rw [pw,pt] at h
   refine qR place is vs us _ r _ h hvs ?_ (fy (wZ ho _) (fy hc3 (wY ho _)))
   rw [nw p.1 u.cells Z (by omega),hu]
   exact (hz.take _).append (h4.append (hz.drop _))
theorem jS (ps:Array (Nat×Operand)) (f:Operand→Value):(ps.map fun (i,x)=>(i,f x)).toList=(ps.toList.map (·.1)).zip ((ps.toList.map (·.2)).map f):=by
 rw [Array.toList_map]
 induction ps.toList with
 |nil=>rfl
 |cons p ps ih=>simp [ih]
theorem IN {t:TypeId} {ps:Array (Nat×Operand)} {r:aG} (h:SR P N μ σ w) (ha:AR P μ a ca) (hr:tI t ps P a σ=some r):
 NR P N μ σ w r ((do pure (.value (←Instr.build t (ps.map fun (i,x)=>(i,ca.eval x)))):Sem Next).run P w):=by
 obtain ⟨vs,hvs,hr⟩:=aa.1 hr
 obtain ⟨v,hv,rfl⟩:=aO.1 hr
 obtain ⟨cs,hcs,rfl⟩:=aO.1 hv
 have hvv:=ha.cS h hvs
 have key: ∃R:Array Value,P.built t (ps.map fun (i,x)=>(i,ca.eval x)).toList=some R∧b8 P μ cs R.toList∧cf cs=true:=by
  rw [jS]
  generalize hus:(ps.toList.map (·.2)).map ca.eval=us at*
  have hul:us.length=(ps.toList.map (·.1)).length:=by rw [←hus];simp
  generalize ps.toList.map (·.1)=is at*
  cases hp:HU P t is with
  |some zs=>
   rw [hp] at hcs
   have hcs:pa zs vs=some cs:=hcs
   unfold HU at hp
   split at hp
   ·rename_i it hit
    split at hp
    ·rename_i z hz
     split at hp
     ·rename_i fs hu
      split at hp
      ·rename_i pl hpl
       obtain ⟨R,q1,q2,q3,_⟩:=gk (P:=P) (μ:=μ) _ _ is 0 zs vs us cs z.cells hp hcs hvv rfl hul
       refine ⟨R.toArray,?_,by simpa using q2,q3⟩
       unfold Xi
       simp only [hit,hu,hz]
       rw [show fs.toList.mapM (fun f=>(P.info? f.type).map fun i=>(f.offset,i.size))=some pl from hpl]
       simpa using q1
      ·cases hp
     ·rename_i m e hu
      split at hp
      ·rename_i ie hie
       obtain ⟨R,q1,q2,q3,_⟩:=gk (P:=P) (μ:=μ) _ _ is 0 zs vs us cs z.cells hp hcs hvv rfl hul
       refine ⟨R.toArray,?_,by simpa using q2,q3⟩
       unfold Xi
       simp only [hit,hu,hz,hie]
       simpa using q1
      ·cases hp
     ·cases hp
    ·cases hp
   ·cases hp
  |none=>
   rw [hp] at hcs
   have hcs:HV P t (is.zip vs)=some cs:=hcs
   obtain ⟨z,hz,hcs⟩:=aa.1 hcs
   obtain ⟨ho,hcs⟩:=aj.1 hcs
   obtain ⟨zv,_,hzv,it,hit,hzz⟩:=cN (μ:=μ) hz w
   have hzc:=hzv.cells (bT ho)
   split at hcs
   ·rename_i fs hu
    obtain ⟨pl,hpl,hcs⟩:=aa.1 hcs
    obtain ⟨R,q1,q2,q3⟩:=qR (P:=P) (μ:=μ) _ is vs us z.cells cs zv.cells hcs hvv hzc ho
    refine ⟨R,?_,q2,q3⟩
    unfold Xi
    simp only [hit,hu,hzz]
    rw [show fs.toList.mapM (fun f=>(P.info? f.type).map fun i=>(f.offset,i.size))=some pl from hpl]
    exact q1
   ·rename_i m e hu
    obtain ⟨n,hn,hcs⟩:=aa.1 hcs
    obtain ⟨R,q1,q2,q3⟩:=qR (P:=P) (μ:=μ) _ is vs us z.cells cs zv.cells hcs hvv hzc ho
    refine ⟨R,?_,q2,q3⟩
    obtain ⟨ie,hie,rfl⟩:=Option.map_eq_some_iff.1 hn
    unfold Xi
    simp only [hit,hu,hzz,hie]
    exact q1
   ·cases hcs
 obtain ⟨R,h1,h2,h3⟩:=key
 exact NR.value h (by simp [run_build w t _ R h1]) (.agg cs R.toList h2 h3)
theorem wz {t:TypeId} {n:Nat} {ps:Array (Nat×Operand)} {r:aG} (h:SR P N μ σ w) (ha:AR P μ a ca) (hr:gF t n ps P a σ=some r):
 NR P N μ σ w r ((do pure (.value (←Xj t n (ps.map fun (i,x)=>(i,ca.eval x)))):Sem Next).run P w):=by
 obtain ⟨vs,hvs,hr⟩:=aa.1 hr
 obtain ⟨e,he,hr⟩:=aa.1 hr
 obtain ⟨zs,hzs,hr⟩:=aa.1 hr
 obtain ⟨cs,hcs,rfl⟩:=aO.1 hr
 have hvv:=ha.cS h hvs
 have he:=cA he
 unfold tC at hzs
 split at hzs
 ·rename_i ie hie
  cases hc:(ie.zero.isSome&&Vv n 16777216&&Vv (n*ie.size) 16777216) with
  |false=>rw [hc] at hzs;cases hzs
  |true=>
   rw [hc,cond_true] at hzs
   simp only [V1] at hc
   obtain ⟨⟨hz,hn⟩,hns⟩:=hc
   have hn:=VQ hn
   have hns:=VQ hns
   obtain ⟨z,hz⟩:=Option.isSome_iff_exists.1 hz
   have hul:((ps.toList.map (·.2)).map ca.eval).length=(ps.toList.map (·.1)).length:=by simp
   have hrun: ∃R,(Xj t n (ps.map fun (i,x)=>(i,ca.eval x))).run P w= .ok (.slice (some ⟨w.heap.size,0,none⟩) n n) (w.alloc (.cells R.toArray e))∧b8 P μ cs R∧cf cs=true∧R.length=n*ie.size:=by
    by_cases h0:n*ie.size=0
    ·obtain ⟨R,q1,q2,q3,q4⟩:=gk (P:=P) (μ:=μ) _ _ _ 0 zs vs _ cs ((Array.range (n*ie.size)).map ((#[]:Array Value)[· % (#[]:Array Value).size]!)) hzs hcs hvv (by simp) hul
     refine ⟨R,?_,q2,q3,by omega⟩
     rw [←jS] at q1
     have hns': ¬n*ie.size>2 ^ 24:=by omega
     simp only [Xk,Xl] at q1
     simp [Xj,run_underlying he,sizeOf,typeInfo,hie,h0,newRow] at q1⊢
     simp [q1]
    ·obtain ⟨R,q1,q2,q3,q4⟩:=gk (P:=P) (μ:=μ) _ _ _ 0 zs vs _ cs ((Array.range (n*ie.size)).map (z.cells[· % z.cells.size]!)) hzs hcs hvv (by simp) hul
     refine ⟨R,?_,q2,q3,by omega⟩
     rw [←jS] at q1
     have hns': ¬n*ie.size>2 ^ 24:=by omega
     simp only [Xk,Xl] at q1
     simp only [Xj,run_underlying he,sizeOf,typeInfo,zeroValue,hie,hz,hns',h0,newRow,Wc,Wd,run_program,WG,if_false,q1]
     rfl
   obtain ⟨R,hrun,q2,q3,q4⟩:=hrun
   have hg:=h.row e (us:=R.toArray) (by simpa using q2) q3
   refine hg.val hrun ?_
   have:=VR.slice (P:=P) (μ:=dm μ σ.n ⟨⟨w.heap.size,0,none⟩,some (R.toArray.size,e)⟩) σ.n 0 n true true _ _ n (dK _ _ _) (.inl rfl) (VY n) (by simp only [maxLen];omega) (fun _=>rfl) (fun _ _ sz t h=>by cases h;rw [show P.cellsOf e=ie.size from by simp [Wb,hie]];simpa using q4.symm)
   simpa [add_nil] using this
 ·cases hzs
theorem C9 {t:TypeId} {x:Option Operand} {r:aG} (h:SR P N μ σ w) (hr:Am t x P a σ=some r):
 NR P N μ σ w r ((do pure (.value (←Xm t (x.map ca.eval))):Sem Next).run P w):=by
 cases x with
 |some x=>cases hr
 |none=>
  have hr:au Gam.z3 (qH σ (nu P t)) (lY σ)=r:=VF hr
  have plain:lY σ=r→NR P N μ σ w r ((do pure (.value (←Xm t none)):Sem Next).run P w):=by
   rintro rfl
   have hg:bF P N μ σ w (dm μ σ.n ⟨⟨w.heap.size,0,none⟩,none⟩) (σ.push (.map [])) (w.alloc (.map #[] 0)):=
    h.laid (Wn w _ none) (VY _) ⟨w.heap.size,#[],0,rfl,h.hN,heap_alloc_new w _,EP.nil,jR.nil⟩
   exact hg.val (by simp [Xm]) (.map σ.n _ (dK _ _ _))
  cases hm:(Gam.z3:Bool) with
  |false=>rw [hm] at hr;exact plain hr
  |true=>
  rw [hm] at hr
  replace hr:qH σ (nu P t)=r:=hr
  cases hq:nu P t with
  |none=>rw [hq] at hr;exact plain hr
  |some q=>
  rw [hq] at hr
  subst hr
  have hg:bF P N μ σ w (dm μ σ.n ⟨⟨w.heap.size,0,none⟩,none⟩) (σ.push (.bY q.1 q.2.1 q.2.2 (.op .nil []))) (w.alloc (.map #[] 0)):=
   h.laid (Wn w _ none) (VY _) ⟨[],rfl,⟨[],rfl,fun r hr=>absurd hr VS⟩,trivial,w.heap.size,#[],0,[],rfl,h.hN,heap_alloc_new w _,List.Perm.nil,.nil,jR.nil⟩
  exact hg.val (by simp [Xm]) (.map σ.n _ (dK _ _ _))
end
end
end Go.Proofs.Sai
