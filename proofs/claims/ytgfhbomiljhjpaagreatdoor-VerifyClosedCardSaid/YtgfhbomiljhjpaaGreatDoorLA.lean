/- Part LA of the proof of VerifyClosed: texts of the interpreter and what it shows, under short names. No condition. -/
import Derived.Test.YtgfhbomiljhjpaaGreatDoorK0
import Derived.Test.YtgfhbomiljhjpaaGreatDoorK1
import Derived.Test.YtgfhbomiljhjpaaGreatDoorK2
import Derived.Test.YtgfhbomiljhjpaaGreatDoorK3
import Derived.Test.YtgfhbomiljhjpaaGreatDoorK4
import Derived.Test.YtgfhbomiljhjpaaGreatDoorK5
import Derived.IntWalk
set_option linter.unusedVariables false
set_option linter.unusedSimpArgs false
set_option linter.unusedSectionVars false
open Bool renaming not_true→XQ,not_false→X5,true_and→VZ
open Classical renaming choose→XS,choose_spec→XT
open Go.IntWalk renaming i64_in→U5
open Int renaming natCast_nonneg→U9,toNat_natCast→UM
open List renaming getElem_mem→UO,getElem?_eq_getElem→UB,find?_eq_some_iff_getElem→XM,mem_cons_of_mem→Ul,mem_cons_self→Uk,length_cons→Uq,mem_of_find?_eq_some→XN,find?_some→XO,cons_append→UU,nil_append→VF,append_nil→XL,nodup_append→XR,take_succ_eq_append_getElem→XU,length_map→XV,map_append→XW,ext_getElem?→XX,getElem?_modify→XY,getElem?_map→Ue,getElem?_set→XZ,map_cons→Uc,map_nil→Ud,length_set→X0,getElem?_eq_none→T1,take_of_length_le→X1,length_reverse→X2,length_nil→X3,foldl_cons→X4,mem_append_left→V5,mem_append_right→V4
open Option renaming isSome_some→XP,map_some→VN,getD_some→Wm
open Option.some renaming inj→TZ
namespace Go.Proofs.Sai
section
open Go
theorem Jz {P:Program} (h:(P.funcs.toList.any fun f=>f.name== "runtime.NumGoroutine")=false):cH P:=by
 intro f fn hf
 cases hn:fn.name== "runtime.NumGoroutine" with
 |false=>rfl
 |true=>
  have hm:fn∈P.funcs.toList:=Array.mem_toList_iff.2 (Array.mem_of_getElem? hf)
  rw [List.any_eq_false] at h
  exact absurd hn (h fn hm)
theorem lO:cH Tryz.prog:=Jz (by kernel_rfl)
theorem Kb:bs.length=Tryz.prog.globals.size:=by kernel_rfl
theorem Li:0<Tryz.prog.globals.size:=by rw [←Kb];show 0<6;omega
abbrev bo:=List Nat
structure Vr where
 n:bo
 t:bo
structure Sg where
 n:bo
 p:List Vr
 r:bo
structure Cl where
 n:bo
 s:bo
 f:List Vr
 m:List Sg
structure Si where
 w:Int
 f:bo
 t:bo
structure In where
 o:Int
 a:Int
 b:Int
 c:Int
structure Fu where
 c:bo
 n:bo
 l:List bo
 k:List In
structure Mo where
 t:List Cl
 s:List Si
 p:List bo
 f:List Fu
def eS (s:bo):List D:=[.str s]
def Vr.e (v:Vr):List D:=[.str v.n,.str v.t]
def Sg.e (m:Sg):List D:=[.str m.n,.aY (m.p.map Vr.e),.str m.r]
def Cl.e (c:Cl):List D:=[.str c.n,.str c.s,.aY (c.f.map Vr.e),.aY (c.m.map Sg.e)]
def Si.e (s:Si):List D:=[.int .i64 s.w,.str s.f,.str s.t]
def In.e (x:In):List D:=[.int .i64 x.o,.int .i64 x.a,.int .i64 x.b,.int .i64 x.c]
def Fu.e (f:Fu):List D:=[.str f.c,.str f.n,.aY (f.l.map eS),.aY (f.k.map In.e)]
def Mo.e (m:Mo):List D:=[.aY (m.t.map Cl.e),.aY (m.s.map Si.e),.aY (m.p.map eS),.aY (m.f.map Fu.e)]
def eT (t:List Cl):D:=.aY (t.map Cl.e)
def eL (l:List bo):D:=.aY (l.map eS)
@[simp] theorem RD {x:bo}:bg [.str] (eS x)=True:=by simp [eS]
@[simp] theorem RF {x:Vr}:bg [.str,.str] x.e=True:=by simp [Vr.e]
@[simp] theorem RG {x:Sg}:bg [.str,.aY [.str,.str],.str] x.e=True:=by simp [Sg.e]
@[simp] theorem RH {x:Cl}:bg [.str,.str,.aY [.str,.str],.aY [.str,.aY [.str,.str],.str]] x.e=True:=by simp [Cl.e]
@[simp] theorem PO {x:Si}:bg [.int .i64,.str,.str] x.e=True:=by simp [Si.e]
@[simp] theorem PQ {x:In}:bg [.int .i64,.int .i64,.int .i64,.int .i64] x.e=True:=by simp [In.e]
@[simp] theorem PR {x:Fu}:bg [.str,.str,.aY [.str],.aY [.int .i64,.int .i64,.int .i64,.int .i64]] x.e=True:=by simp [Fu.e]
@[simp] theorem RI {l:List bo}:bA tL (eL l)=True:=by simp [tL,eL,eS]
@[simp] theorem RJ {l:List Vr}:bA tV (.aY (l.map Vr.e))=True:=by simp [tV,Vr.e]
@[simp] theorem RK {l:List Sg}:bA tM (.aY (l.map Sg.e))=True:=by simp [tM,Sg.e,tV,Vr.e]
@[simp] theorem RL {l:List Cl}:bA tT (eT l)=True:=by simp [tT,tM,tV,eT,Cl.e,Sg.e,Vr.e]
theorem bm {k n:Nat} (h:k<n) (hn:n≤9223372036854775807):IntKind.i64.wrap ((k:Int)+1)=((k+1:Nat):Int):=by rw [U5 _ (by omega)];omega
abbrev Ok (f:FuncId) (ds:List DV) (r:DV):Prop:=Ax Tryz.prog bs f ds r
abbrev Is (L:LD) (ins:List D) (i:Nat) (outs:List D):Prop:=kl Tryz.prog bs L ins i outs
abbrev W (fids:List uY) (lds:List LD):=Ka Tryz.prog bs fids lds
section
variable {fids:List uY} {lds:List LD} {f:FuncId} {args:List AV} {t:PT} {l:List D} {ds:List DV}
theorem nz {r:DV} (hc:bt Tryz.prog bs 100000 f args fids lds t l.length=true) (ha: @cI (bp l bs) args=some ds) (hta: @ix (bp l bs) args) (hw:W fids lds t l fun o=>o= .ret r):Ok f ds r:=QL lO Kb Li hc ha hta hw
theorem kQ {R:DV→Prop} (hc:bt Tryz.prog bs 100000 f args fids lds t l.length=true) (ha: @cI (bp l bs) args=some ds) (hta: @ix (bp l bs) args) (hw:W fids lds t l fun o=>∃r,o= .ret r∧R r): ∃r,R r∧Ok f ds r:=QM lO Kb Li hc ha hta hw
variable {L:LD} {α β:Type}
theorem Ge {ins:List D} {Q:Nat→List D→Prop} (hc:bJ Tryz.prog 100000 L fids lds t=true) (hl:ins.length=L.k) (hw:W fids lds t ins fun o=>∃i outs,o= .exit i outs∧Q i outs): ∃i outs,Q i outs∧Is L ins i outs:=K9 lO Kb Li hc hl hw
theorem iz {ins:List D} {i:Nat} {outs:List D} (hc:bJ Tryz.prog 100000 L fids lds t=true) (hl:ins.length=L.k) (hw:W fids lds t ins fun o=>o= .exit i outs):Is L ins i outs:=La lO Kb Li hc hl hw
theorem Nb {enc:α→List D} {I:α→Prop} {μ:α→Nat} {Q:α→Nat→List D→Prop} (hc:bh Tryz.prog 100000 L fids lds t=true)
 (h: ∀a,I a→(enc a).length=L.k∧W fids lds t (enc a) fun o=>(∃i os,o= .exit i os∧Q a i os)∨∃a',o= .next (enc a')∧I a'∧μ a'<μ a∧∀i os,Q a' i os→Q a i os) (a:α) (ha:I a): ∃i os,Q a i os∧Is L (enc a) i os:=xP lO Kb Li hc h a ha
theorem FV {aY:List α} {enc:Nat→β→List D} {I:Nat→β→Prop} {step:Nat→α→β→(Nat×List D) ⊕ β} {fin:β→Nat×List D} (hc:bh Tryz.prog 100000 L fids lds t=true) (hl: ∀k b,(enc k b).length=L.k)
 (h1: ∀k b x (h:k<aY.length),I k b→aY[k]=x→W fids lds t (enc k b) fun o=>match step k x b with | .inl r=>o= .exit r.1 r.2 | .inr b'=>o= .next (enc (k+1) b')∧I (k+1) b')
 (h2: ∀b,I aY.length b→W fids lds t (enc aY.length b) fun o=>o= .exit (fin b).1 (fin b).2) (b:β) (hb:I 0 b):Is L (enc 0 b) (gr step fin aY 0 b).1 (gr step fin aY 0 b).2:=Iq lO Kb Li hc hl h1 h2 b hb
theorem cX {aY:List α} {enc:Nat→β→List D} {I:Nat→β→Prop} {Q:Nat→List D→Prop} (hc:bh Tryz.prog 100000 L fids lds t=true) (hl: ∀k b,(enc k b).length=L.k)
 (h1: ∀k b x (h:k<aY.length),I k b→aY[k]=x→W fids lds t (enc k b) fun o=>(∃i os,o= .exit i os∧Q i os)∨∃b',o= .next (enc (k+1) b')∧I (k+1) b')
 (h2: ∀b,I aY.length b→W fids lds t (enc aY.length b) fun o=>∃i os,o= .exit i os∧Q i os) (b:β) (hb:I 0 b): ∃i os,Q i os∧Is L (enc 0 b) i os:=AL lO Kb Li hc hl h1 h2 b hb
end
def idxOf (l:List bo) (s:bo):Int:=match l.findIdx? (fun x=>s==x) with |some j=>j |none=> -1
theorem Lj (l:List bo) (s:bo) (hl:l.length≤9223372036854775807):Is xQ [eL l,.str s,.int .i64 0] (if s∈l then 0 else 1) (if s∈l then [.int .i64 (idxOf l s)] else []):=by
 have h:=FV (aY:=l) (enc:=fun k (_:Unit)=>[eL l,.str s,.int .i64 k]) (I:=fun _ _=>True) (step:=fun k x _=>if s==x then .inl (0,[.int .i64 k]) else .inr ()) (fin:=fun _=>(1,[])) FC (fun _ _=>rfl)
  (fun k b x hk _ hx=>by
   have:=bm hk hl
   simp [pY,eL,eS,hx,hk,this]
   by_cases h:s=x<;>simp [h])
  (fun b _=>by simp [pY,eL]) () trivial
 have key:=km (fun x=>s==x) (fun j=>(0,[.int .i64 j])) (1,[]) l 0
 rw [key] at h
 cases hj:l.findIdx? (fun x=>s==x) with
 |none=>
  have:s∉l:=fun hm=>by simp at hj;exact hj s hm rfl
  rw [hj] at h
  simpa [this] using h
 |some j=>
  have:s∈l:=by
   obtain ⟨h1,h2,_⟩:=List.findIdx?_eq_some_iff_getElem.1 hj
   rw [beq_iff_eq.1 h2];exact UO h1
  rw [hj] at h
  simpa [this,idxOf,hj] using h
theorem AW (l:List bo) (s:bo):0≤idxOf l s↔s∈l:=by
 unfold idxOf
 cases h:l.findIdx? (fun x=>s==x) with
 |none=>
  have:s∉l:=fun hm=>by simp at h;exact h s hm rfl
  simp [this]
 |some j=>
  have:s∈l:=by
   obtain ⟨h1,h2,_⟩:=List.findIdx?_eq_some_iff_getElem.1 h
   rw [beq_iff_eq.1 h2];exact UO h1
  simp [this]
theorem JA {l:List bo} {s:bo} (h:s∉l):idxOf l s= -1:=by
 unfold idxOf
 cases hj:l.findIdx? (fun x=>s==x) with
 |none=>rfl
 |some j=>exact absurd ((AW l s).1 (by simp [idxOf,hj])) h
theorem Lk (l:List bo) (s:bo) (hl:l.length≤9223372036854775807):Ok 103 [.c (eL l),.c (.str s)] (.c (.int .i64 (idxOf l s))):=by
 refine nz (l:=[eL l,.str s]) Og (by simp) (by simp) ?_
 unfold IL
 refine aP rfl (Lj l s hl) (by simp) ?_
 by_cases h:s∈l<;>simp [h,JA]
theorem gD (l:List bo) (s:bo) (hl:l.length≤9223372036854775807):Ok 60 [.c (eL l),.c (.str s)] (.c (.bool (decide (s∈l)))):=by
 refine nz (l:=[eL l,.str s]) Q0 (by simp) (by simp) ?_
 unfold My
 refine ab rfl (Lk l s hl) (by simp) (by simp) (by simp) (by simp) ?_
 simp [AW]
end
section
open Go
def cls (t:List Cl) (s:bo):Option Cl:=t.find? fun c=>c.n==s
def eD (t:List Cl) (s:bo):Option Nat:=t.findIdx? fun c=>c.n==s
theorem Ll (t:List Cl) (s:bo) (hl:t.length≤9223372036854775807):Is xR [eT t,.int .i64 0,.str s] (match eD t s with |some _=>0 |none=>1) (match eD t s with |some i=>[.int .i64 i,.str s] |none=>[.str s]):=by
 have h:=FV (aY:=t) (enc:=fun k (_:Unit)=>[eT t,.int .i64 k,.str s]) (I:=fun _ _=>True) (step:=fun k x _=>if x.n==s then .inl (0,[.int .i64 k,.str s]) else .inr ()) (fin:=fun _=>(1,[.str s])) FE (fun _ _=>rfl)
  (fun k b x hk _ hx=>by
   have:=bm hk hl
   simp [pZ,eT,Cl.e,hx,hk,this]
   by_cases h:x.n=s<;>simp [h])
  (fun b _=>by simp [pZ,eT]) () trivial
 have key:=km (fun x:Cl=>x.n==s) (fun j=>(0,[.int .i64 j,.str s])) (1,[.str s]) t 0
 rw [key] at h
 unfold eD
 cases hj:t.findIdx? (fun x=>x.n==s) with
 |none=>rw [hj] at h;simpa using h
 |some j=>rw [hj] at h;simpa using h
theorem gu {t:List Cl} {s:bo} {i:Nat} (h:eD t s=some i): ∃hi:i<t.length,t[i].n=s:=by
 obtain ⟨h1,h2,_⟩:=List.findIdx?_eq_some_iff_getElem.1 h
 exact ⟨h1,beq_iff_eq.1 h2⟩
theorem jG {t:List Cl} {s:bo} {i:Nat} (h:eD t s=some i):cls t s=t[i]? :=by
 obtain ⟨h1,h2,h3⟩:=List.findIdx?_eq_some_iff_getElem.1 h
 rw [UB h1]
 unfold cls
 rw [XM]
 exact ⟨h2,i,h1,rfl,fun j hj=>by simpa using h3 j hj⟩
theorem fP {t:List Cl} {s:bo} (h:eD t s=none):cls t s=none:=by
 unfold eD at h
 unfold cls
 simpa using h
theorem kz {t:List Cl} {s:bo}:(eD t s).isSome=(cls t s).isSome:=by
 cases h:eD t s with
 |none=>rw [fP h];rfl
 |some i=>obtain ⟨h1,h2⟩:=gu h;rw [jG h,UB h1];rfl
theorem dB (t:List Cl) (s:bo) (hl:t.length≤9223372036854775807):Ok 106 [.c (eT t),.c (.str s)] (.gf [.c (.int .i64 ((eD t s).getD 0)),.c (.bool (cls t s).isSome)]):=by
 refine nz (l:=[eT t,.str s]) Oh (by simp) (by simp) ?_
 unfold IM
 rw [←kz]
 refine aP rfl (Ll t s hl) (by simp) ?_
 cases h:eD t s with
 |none=>simp
 |some i=>obtain ⟨h1,h2⟩:=gu h;simp [eT,h1]
def va (t:List Cl):Nat→List bo→bo→List bo×bo
 |0,came,s=>(came,s)
 |n+1,came,s=>match cls t s with
  |none=>(came,s)
  |some c=>if s∈came then (came,s) else va t n (came++[s]) c.s
def cg (t:List Cl) (s:bo):List bo:=(va t (t.length+1) [] s).1
theorem wz {α:Type} [DecidableEq α]: ∀(a b:List α),a.Nodup→(∀x∈a,x∈b)→a.length≤b.length
 |[],b,_,_=>Nat.zero_le _
 |x::a,b,h,hs=>by
  obtain ⟨h1,h2⟩:=List.nodup_cons.1 h
  have:=wz a (b.erase x) h2 fun y hy=>(List.mem_erase_of_ne fun e=>h1 (by rw [←e];exact hy)).2 (hs y (Ul _ hy))
  have hx:=hs x (Uk ..)
  rw [List.length_erase_of_mem hx] at this
  have:=List.length_pos_of_mem hx
  simp only [Uq]
  omega
theorem iX {t:List Cl} {s:bo} {c:Cl} (h:cls t s=some c):c∈t∧c.n=s:=⟨XN h,by simpa using XO h⟩
theorem oZ {t:List Cl} {came:List bo} (h1:came.Nodup) (h2: ∀x∈came,(cls t x).isSome=true):came.length≤t.length:=by
 have:=wz came (t.map (·.n)) h1 fun x hx=>by
  obtain ⟨c,hc⟩:=Option.isSome_iff_exists.1 (h2 x hx)
  obtain ⟨q1,q2⟩:=iX hc
  exact List.mem_map.2 ⟨c,q1,q2⟩
 simpa using this
theorem Lm (t:List Cl) (s:bo) (hl:t.length≤1000):Is CG [.aY [],.aY [],eT t,.str s] 0 [eL (cg t s),eL (cg t s),.str (va t (t.length+1) [] s).2,eT t]:=by
 obtain ⟨i,os,⟨rfl,rfl⟩,h⟩:=Nb (α:=List bo×bo) (enc:=fun a=>[eL a.1,eL a.1,eT t,.str a.2]) (I:=fun a=>a.1.Nodup∧∀x∈a.1,(cls t x).isSome=true) (μ:=fun a=>t.length+1 - a.1.length)
  (Q:=fun a i os=>i=0∧os=[eL (va t (t.length+1 - a.1.length) a.1 a.2).1,eL (va t (t.length+1 - a.1.length) a.1 a.2).1,.str (va t (t.length+1 - a.1.length) a.1 a.2).2,eT t]) IF (by
   rintro ⟨came,s⟩ ⟨h1,h2⟩
   have hc:came.length≤t.length:=oZ h1 h2
   refine ⟨rfl,?_⟩
   obtain ⟨n,hn⟩: ∃n,t.length+1 - came.length=n+1:=⟨t.length - came.length,by omega⟩
   simp only [hn,va]
   unfold AN
   refine ab rfl (dB t s (by omega)) (by simp) (by simp) (by simp) (by simp) ?_
   cases hi:eD t s with
   |none=>simp [fP hi]
   |some i=>
    obtain ⟨hlt,hnm⟩:=gu hi
    have hcl:cls t s=some t[i]:=(jG hi).trans (UB hlt)
    simp only [ah,aM,aF,hcl]
    simp only [bc,aR,UU,VF,XL,ag,ae,aD,XP,XQ,al]
    refine ab rfl (gD came s (by omega)) (by simp) (by simp) (by simp) (by simp) ?_
    by_cases hm:s∈came
    ·simp [hm]
    ·have e1:((came.length:Nat):Int)≤100000000:=by omega
     simp [hm,eT,hlt,eL,e1,Cl.e,hnm]
     have e2:t.length+1 - (came++[s]).length=n:=by simp;omega
     refine ⟨came++[s],t[i].s,⟨by simp [eS],rfl⟩,⟨?_,?_⟩,by omega,by rw [e2],by rw [e2]⟩
     ·rw [XR]
      exact ⟨h1,by simp,fun a ha b hb=>by rw [List.mem_singleton.1 hb];exact fun e=>hm (e▸ha)⟩
     ·intro x hx
      rcases List.mem_append.1 hx with hx |hx
      ·exact h2 x hx
      ·rw [List.mem_singleton.1 hx,hcl];rfl) ([],s) ⟨by simp,by simp⟩
 exact h
theorem qm (t:List Cl) (s:bo) (hl:t.length≤1000):Ok 61 [.c (eT t),.c (.str s)] (.c (eL (cg t s))):=by
 refine nz (l:=[eT t,.str s]) Q1 (by simp) (by simp) ?_
 unfold Mz
 exact aP rfl (Lm t s hl) (by simp) (by simp)
def fc:List bo:=[[105,110,116],[114,101,97,108],[98,111,111,108],[115,116,114],[117,110,105,116]]
theorem D6 (s:bo):Ok 146 [.c (.str s)] (.c (.bool (decide (s∈fc)))):=by
 refine nz (l:=[.str s]) Ot (by simp) (by simp) ?_
 unfold IY fc
 simp
 repeat' split
 all_goals simp_all [eq_comm]
theorem D7 (s:bo) (hl:s.length≤20): ∃i os,(i≤1∧os=[])∧Is oX [.str s,.int .i64 s.length,.int .i64 0] i os:=
 cX (aY:=s) (enc:=fun k (_:Unit)=>[.str s,.int .i64 s.length,.int .i64 k]) (I:=fun _ _=>True) CB (fun _ _=>rfl)
  (fun k b x hk _ hx=>by
   have:=bm hk (by omega)
   simp [nf,hk,hx,this])
  (fun b _=>by simp [nf]) () trivial
theorem D8 (s:bo): ∃b,Ok 108 [.c (.str s)] (.c (.bool b)):=by
 obtain ⟨r,⟨b,rfl⟩,h⟩:=kQ (l:=[.str s]) (R:=fun r=>∃b,r= .c (.bool b)) (ds:=[.c (.str s)]) Oe (by simp) (by simp) (by
  unfold Iu
  cases s with
  |nil=>simp
  |cons c r=>
  by_cases h1:20<(c::r).length
  ·have:(20:Int)<(r.length:Int)+1:=by simp at h1;omega
   simp [this]
  obtain ⟨i,os,⟨hi,rfl⟩,hL⟩:=D7 (c::r) (by omega)
  have e1: ¬(20:Int)<(r.length:Int)+1:=by simp at h1;omega
  by_cases h2:(65:Int)≤c
  case neg=>simp [e1,h2]
  by_cases h3:(c:Int)≤90
  case neg=>simp [e1,h2,h3]
  simp [e1,h2,h3]
  refine aP rfl hL (by simp) ?_
  match i,hi with
  |0,_=>simp
  |1,_=>simp)
 exact ⟨b,h⟩
noncomputable def kA (s:bo):Bool:=XS (D8 s)
theorem rJ (s:bo):Ok 108 [.c (.str s)] (.c (.bool (kA s))):=XT (D8 s)
theorem Ln: ∃l:List bo,l.length≤100∧Ok 238 [] (.c (eL l)):=by
 obtain ⟨r,⟨l,hl,rfl⟩,h⟩:=kQ (l:=[]) (R:=fun r=>∃l:List bo,l.length≤100∧r= .c (eL l)) (ds:=[]) OS (by simp) (by simp) (by
  unfold Jw
  simp
  exact ⟨[[99,108,97,115,115],[100,101,102],[118,97,114],[109,97,105,110],[108,101,116],[105,102],[101,108,115,101],[119,104,105,108,101],[110,101,119],[110,111,110,101],[116,104,105,115],[115,117,112,101,114],[114,101,97,100],[112,114,105,110,116],[116,114,117,101],[102,97,108,115,101],[110,97,110],[105,110,102],[105,110,116],[114,101,97,108],[98,111,111,108],[115,116,114],[117,110,105,116],[108,101,110]],by simp,by simp [eL,eS]⟩)
 exact ⟨l,hl,h⟩
theorem Lo (s:bo): ∃b,Ok 200 [.c (.str s)] (.c (.bool b)):=by
 obtain ⟨l,hl,h⟩:=Ln
 refine ⟨decide (s∈l),nz (l:=[.str s]) Oz (by simp) (by simp) ?_⟩
 unfold I4
 refine ab rfl h (by simp) (by simp) (by simp) (by simp) ?_
 refine ab rfl (gD l s (by omega)) (by simp) (by simp) (by simp) (by simp) ?_
 simp
theorem D9 (s:bo): ∃b,Ok 143 [.c (.str s)] (.c (.bool b)):=by
 obtain ⟨k,hk⟩:=Lo s
 obtain ⟨r,⟨b,rfl⟩,h⟩:=kQ (l:=[.str s]) (R:=fun r=>∃b,r= .c (.bool b)) (ds:=[.c (.str s)]) Oq (by simp) (by simp) (by
  unfold IX
  cases s with
  |nil=>simp
  |cons c r=>
  by_cases h1:20<(c::r).length
  ·have:(20:Int)<(r.length:Int)+1:=by simp at h1;omega
   simp [this]
  obtain ⟨i,os,⟨hi,rfl⟩,hL⟩:=D7 (c::r) (by omega)
  have e1: ¬(20:Int)<(r.length:Int)+1:=by simp at h1;omega
  by_cases h2:(97:Int)≤c
  case neg=>simp [e1,h2]
  by_cases h3:(c:Int)≤122
  case neg=>simp [e1,h2,h3]
  simp [e1,h2,h3]
  refine aP rfl hL (by simp) ?_
  match i,hi with
  |0,_=>simp
  |1,_=>
   simp
   exact ab rfl hk (by simp) (by simp) (by simp) (by simp) (by simp))
 exact ⟨b,h⟩
noncomputable def wA (s:bo):Bool:=XS (D9 s)
theorem ye (s:bo):Ok 143 [.c (.str s)] (.c (.bool (wA s))):=XT (D9 s)
noncomputable def o4 (s:bo):Bool:=decide (s∈fc)||decide (s=[63])||kA s
theorem rK (s:bo):Ok 189 [.c (.str s)] (.c (.bool (o4 s))):=by
 refine nz (l:=[.str s]) Ow (by simp) (by simp) ?_
 unfold I1 o4
 refine ab rfl (D6 s) (by simp) (by simp) (by simp) (by simp) ?_
 simp
 split
 ·simp [*]
 split
 ·simp [*]
 refine ab rfl (rJ s) (by simp) (by simp) (by simp) (by simp) ?_
 cases h:kA s<;>simp [*]
def typed (t:List Cl) (s:bo):Bool:=(cls t s).isSome||decide (s=[63])||decide (s∈fc)
theorem rL (t:List Cl) (s:bo) (hl:t.length≤9223372036854775807):Ok 102 [.agg [eT t],.c (.str s)] (.c (.bool (typed t s))):=by
 refine nz (l:=[eT t,.str s]) Of (by simp) (by simp) ?_
 unfold IK typed
 refine ab rfl (dB t s hl) (by simp) (by simp) (by simp) (by simp) ?_
 cases h:(cls t s).isSome
 ·simp
  split
  ·simp [*]
  refine ab rfl (D6 s) (by simp) (by simp) (by simp) (by simp) ?_
  simp [*]
 ·simp
def named (t:List Cl) (n k:bo) (w:Int):Prop:=w=0→(n≠[]→wA n=true)∧o4 k=true∧(kA k=true→(cls t k).isSome=true)
theorem yf (t:List Cl) (n k:bo) (hl:t.length≤9223372036854775807): ∃w,named t n k w∧Ok 153 [.c (eT t),.c (.str n),.c (.str k)] (.c (.int .i64 w)):=by
 obtain ⟨r,⟨w,hw,rfl⟩,h⟩:=kQ (l:=[eT t,.str n,.str k]) (R:=fun r=>∃w,named t n k w∧r= .c (.int .i64 w)) (ds:=[.c (eT t),.c (.str n),.c (.str k)]) Ou (by simp) (by simp) (by
  unfold IZ
  simp only [ah]
  by_cases hn0:n=[]
  ·simp [hn0]
   refine ab rfl (rK k) (by simp) (by simp) (by simp) (by simp) ?_
   cases hk:o4 k
   ·simp [named]
   simp
   refine ab rfl (dB t k hl) (by simp) (by simp) (by simp) (by simp) ?_
   refine ab rfl (rJ k) (by simp) (by simp) (by simp) (by simp) ?_
   cases hc:kA k<;>cases hf:(cls t k).isSome<;>simp [named, *]
  ·simp [hn0]
   refine ab rfl (ye n) (by simp) (by simp) (by simp) (by simp) ?_
   cases hn:wA n
   ·simp [named]
   simp
   refine ab rfl (rK k) (by simp) (by simp) (by simp) (by simp) ?_
   cases hk:o4 k
   ·simp [named]
   simp
   refine ab rfl (dB t k hl) (by simp) (by simp) (by simp) (by simp) ?_
   refine ab rfl (rJ k) (by simp) (by simp) (by simp) (by simp) ?_
   cases hc:kA k<;>cases hf:(cls t k).isSome<;>simp [named, *])
 exact ⟨w,hw,h⟩
end
section
open Go
section
variable {fids:List uY} {lds:List LD} {t:PT} {L:LD} {α β:Type}
theorem wB {aY:List α} {enc:Nat→List D} {p:α→Bool} {o:Nat→List D} {e:List D} (hc:bh Tryz.prog 100000 L fids lds t=true) (hl: ∀k,(enc k).length=L.k)
 (h1: ∀k x (h:k<aY.length),aY[k]=x→W fids lds t (enc k) fun o'=>if p x then o'= .exit 0 (o k) else o'= .next (enc (k+1)))
 (h2:W fids lds t (enc aY.length) fun o'=>o'= .exit 1 e):Is L (enc 0) (match aY.findIdx? p with |some _=>0 |none=>1) (match aY.findIdx? p with |some j=>o j |none=>e):=by
 have h:=FV (aY:=aY) (enc:=fun k (_:Unit)=>enc k) (I:=fun _ _=>True) (step:=fun k x _=>if p x then .inl (0,o k) else .inr ()) (fin:=fun _=>(1,e)) hc (fun k _=>hl k)
  (fun k b x hk _ hx=>by
   obtain ⟨l',o',q1,q2⟩:=h1 k x hk hx
   refine ⟨l',o',q1,?_⟩
   cases hp:p x<;>simp [hp] at q2⊢ <;>exact q2)
  (fun b _=>h2) () trivial
 rw [km p (fun j=>(0,o j)) (1,e) aY 0] at h
 cases hj:aY.findIdx? p with
 |none=>rw [hj] at h;exact h
 |some j=>rw [hj] at h;simpa using h
theorem wC (g:α→β→β) (fin:β→Nat×List D): ∀(l:List α) (k:Nat) (b:β),gr (fun _ x b=>.inr (g x b)) fin l k b=fin (l.foldl (fun b x=>g x b) b)
 |[],k,b=>rfl
 |x::l,k,b=>wC g fin l (k+1) (g x b)
theorem AX {aY:List α} {enc:Nat→β→List D} {I:Nat→β→Prop} {g:α→β→β} {fin:β→List D} (hc:bh Tryz.prog 100000 L fids lds t=true) (hl: ∀k b,(enc k b).length=L.k)
 (h1: ∀k b x (h:k<aY.length),I k b→aY[k]=x→W fids lds t (enc k b) fun o=>o= .next (enc (k+1) (g x b))∧I (k+1) (g x b))
 (h2: ∀b,I aY.length b→W fids lds t (enc aY.length b) fun o=>o= .exit 0 (fin b)) (b:β) (hb:I 0 b):Is L (enc 0 b) 0 (fin (aY.foldl (fun b x=>g x b) b)):=by
 have h:=FV (aY:=aY) (enc:=enc) (I:=I) (step:=fun _ x b=>.inr (g x b)) (fin:=fun b=>(0,fin b)) hc hl h1 h2 b hb
 rw [wC] at h
 exact h
end
theorem dR {α:Type} {l:List α} {p:α→Bool} {j:Nat} (h:l.findIdx? p=some j): ∃hj:j<l.length,p l[j]=true:=by
 obtain ⟨h1,h2,_⟩:=List.findIdx?_eq_some_iff_getElem.1 h
 exact ⟨h1,h2⟩
theorem uk {α:Type} (l:List α) (p:α→Bool):l.find? p=(l.findIdx? p).bind fun j=>l[j]? :=by
 cases h:l.findIdx? p with
 |none=>simp at h;simpa using h
 |some j=>
  obtain ⟨h1,h2,h3⟩:=List.findIdx?_eq_some_iff_getElem.1 h
  simp only [Option.bind_some,UB h1]
  rw [XM]
  exact ⟨h2,j,h1,rfl,fun i hi=>by simpa using h3 i hi⟩
structure dS (t:List Cl):Prop where
 len:t.length≤40
 f: ∀c∈t,c.f.length≤20
 m: ∀c∈t,c.m.length≤20
 p: ∀c∈t,∀m∈c.m,m.p.length≤10
theorem Ea (l:List Vr) (h:l.length≤1000):Ok 198 [.c (.aY (l.map Vr.e))] (.c (.aY (l.map Vr.e))):=by
 cases l with
 |nil=>
  have t1:bt Tryz.prog bs 100000 198 [.aJ] [] [] (.ret (.tm (.aY []) (.op .nil []))) 0=true:=by kernel_rfl
  have t2:bt Tryz.prog bs 100000 198 [.e0 false] [] [] (.ret (.tm tV (.op .nil []))) 0=true:=by kernel_rfl
  refine N6 lO Kb Li jE t1 (l':=[]) ?_ t2 (l'':=[]) ?_<;>simp [ny]
 |cons v l=>
  refine nz (l:=[.aY ((v::l).map Vr.e)]) Oy (by simp) (by simp [tV,Vr.e]) ?_
  have e1:((l.length:Nat):Int)+1≤100000000:=by simp at h;omega
  have e2:(0:Int)<(l.length:Int)+1:=by omega
  simp [I3,e1,e2]
theorem um (l:List Vr) (h:l.length≤1000):Ok 66 [.c (.aY (l.map Vr.e))] (.c (eL (l.map (·.t)))):=by
 refine nz (l:=[.aY (l.map Vr.e)]) Q3 (by simp) (by simp) ?_
 unfold MB
 have hL:=AX (aY:=l) (enc:=fun k (b:List bo)=>[eL b,.aY (l.map Vr.e),.int .i64 k]) (I:=fun k b=>b.length=k) (g:=fun x b=>b++[x.t]) (fin:=fun b=>[eL b]) IH (fun _ _=>rfl)
  (fun k b x hk hI hx=>by
   have:=bm hk (by omega)
   have e1:((k:Nat):Int)≤100000000:=by omega
   simp [tX,hk,hx,this,eL,e1,Vr.e,hI,eS])
  (fun b hb=>by simp [tX,eL]) [] rfl
 refine aP rfl hL (by simp [eL]) ?_
 have: ∀(l:List Vr) (b:List bo),l.foldl (fun b x=>b++[x.t]) b=b++l.map (·.t):=by
  intro l
  induction l with
  |nil=>intro b;simp
  |cons v l ih=>intro b;simp [ih]
 simp [this]
def Sq (a b:List bo):Bool:=a==b
theorem OT (a b:List bo) (h:a.length≤9223372036854775807):Ok 67 [.c (eL a),.c (eL b)] (.c (.bool (decide (a=b)))):=by
 refine nz (l:=[eL a,eL b]) Q4 (by simp) (by simp) ?_
 unfold MC
 by_cases hl:a.length=b.length
 case neg=>
  have: ¬((a.length:Nat):Int)=b.length:=by omega
  have h2:a≠b:=fun e=>hl (by rw [e])
  simp [eL,this,h2]
 have hL:=FV (aY:=a) (enc:=fun k (_:Unit)=>[eL a,eL b,.int .i64 k]) (I:=fun k _=>a.take k=b.take k) (step:=fun k x _=>if b[k]? =some x then .inr () else .inl (0,[])) (fin:=fun _=>(1,[])) IJ (fun _ _=>rfl)
  (fun k u x hk hI hx=>by
   have:=bm hk h
   have hk2:k<b.length:=by omega
   by_cases he:x=b[k]
   ·have hb:b[k]=x:=he.symm
    simp [oY,hk,hk2,this,eL,eS,hx,hb]
    rw [XU hk,XU hk2,hI,hx,hb]
   ·have he': ¬b[k]=x:=fun e=>he e.symm
    simp [oY,hk,hk2,this,eL,eS,hx,he,he'])
  (fun u hb=>by simp [oY,eL]) () (by simp)
 have key: ∀(a' b':List bo) (k:Nat),a'.length=b'.length→(∀i,b[k+i]? =b'[i]?)→gr (fun k x (_:Unit)=>if b[k]? =some x then .inr () else .inl (0,[])) (fun _=>((1:Nat),([]:List D))) a' k ()=if a'=b' then (1,[]) else (0,[]):=by
  intro a'
  induction a' with
  |nil=>intro b' k h1 h2;cases b' with
   |nil=>rfl
   |cons y b'=>cases h1
  |cons x a' ih=>
   intro b' k h1 h2
   cases b' with
   |nil=>cases h1
   |cons y b'=>
    have h0:=h2 0
    simp at h0
    unfold gr
    rw [h0]
    by_cases he:y=x
    ·subst he
     simp
     rw [ih b' (k+1) (by simpa using h1) fun i=>by have:=h2 (i+1);rw [show k+(i+1)=k+1+i by omega] at this;simpa using this]
    ·have he': ¬x=y:=fun e=>he e.symm
     simp [he,he']
 have hz:=key a b 0 hl (by simp)
 rw [hz] at hL
 have:((a.length:Nat):Int)=b.length:=by omega
 simp only [ah,bc,aR,ae,ag,eL,az,XV,aG,this,decide_true,XQ,al]
 by_cases he:a=b
 ·rw [if_pos he] at hL
  exact aP rfl hL (by simp [eL]) (by simp [he])
 ·rw [if_neg he] at hL
  exact aP rfl hL (by simp [eL]) (by simp [he])
def Fu.fits (f w:Fu):Bool:=decide (f.c=w.c)&&(decide (f.n=w.n)&&decide (w.l<+:f.l))
theorem OU (f w:Fu) (h:f.l.length≤9223372036854775807):Ok 47 [.agg f.e,.agg w.e] (.c (.bool (f.fits w))):=by
 refine nz (l:=f.e++w.e) QY (by simp [Fu.e]) (by simp [Fu.e,eS,In.e]) ?_
 unfold Mw Fu.fits
 simp only [ah]
 by_cases h1:f.c=w.c
 case neg=>simp [Fu.e,h1]
 by_cases h2:f.n=w.n
 case neg=>simp [Fu.e,h1,h2]
 by_cases h3:w.l.length≤f.l.length
 case neg=>
  have h4: ¬w.l<+:f.l:=fun h=>h3 h.length_le
  simp [Fu.e,h1,h2,h3,h4]
 simp [Fu.e,h1,h2,h3]
 refine ab rfl (OT (f.l.take w.l.length) w.l (by simp;omega)) (by simp [eL,List.map_take]) (by simp) (by simp) (by simp) ?_
 simp
 rw [List.prefix_iff_eq_take]
 exact eq_comm
def cm (t:List Cl):Nat→List bo→bo→List Cl
 |0,_,_=>[]
 |n+1,came,s=>match cls t s with
  |none=>[]
  |some c=>if s∈came then [] else c::cm t n (came++[s]) c.s
def chain (t:List Cl) (s:bo):List Cl:=cm t (t.length+1) [] s
theorem uo (t:List Cl): ∀(n:Nat) (came:List bo) (s:bo),(va t n came s).1=came++(cm t n came s).map (·.n)
 |0,came,s=>by simp [va,cm]
 |n+1,came,s=>by
  unfold va cm
  cases h:cls t s with
  |none=>simp
  |some c=>
   by_cases hm:s∈came
   ·simp [hm]
   ·simp only [if_neg hm]
    rw [uo t n (came++[s]) c.s]
    simp [(iX h).2]
theorem cQ (t:List Cl) (s:bo):cg t s=(chain t s).map (·.n):=by
 unfold cg chain
 rw [uo]
 rfl
theorem kB (t:List Cl): ∀(n:Nat) (came:List bo) (s:bo),∀c∈cm t n came s,cls t c.n=some c
 |0,came,s=>by simp [cm]
 |n+1,came,s=>by
  unfold cm
  cases h:cls t s with
  |none=>simp
  |some c=>
   by_cases hm:s∈came
   ·simp [hm]
   ·simp only [if_neg hm,List.mem_cons]
    rintro x (rfl |hx)
    ·rw [(iX h).2];exact h
    ·exact kB t n _ _ x hx
theorem fe {t:List Cl} {s:bo} {c:Cl} (h:c∈chain t s):c∈t:=(iX (kB t _ _ _ c h)).1
theorem uq (t:List Cl): ∀(n:Nat) (came:List bo) (s:bo),(cm t n came s).length≤n
 |0,came,s=>by simp [cm]
 |n+1,came,s=>by
  unfold cm
  cases h:cls t s with
  |none=>simp
  |some c=>
   by_cases hm:s∈came
   ·simp [hm]
   ·have:=uq t n (came++[s]) c.s
    simp [hm];omega
theorem dH (t:List Cl) (s:bo):(chain t s).length≤t.length+1:=uq t _ _ _
def eR (l:List Cl):D:=.aY (l.map fun c=>[.ref c.e])
@[simp] theorem RM {x:Cl}:bg [.ref [.str,.str,.aY [.str,.str],.aY [.str,.aY [.str,.str],.str]]] [.ref x.e]=True:=by simp
theorem FW (t:List Cl) (s:bo) (hl:t.length≤1000): ∃d e,Is t6 [.aY [],.aY [],eT t,.str s] 0 [eR (chain t s),d,e,eT t]:=by
 obtain ⟨i,os,⟨rfl,d,e,rfl⟩,h⟩:=Nb (α:=List bo×List Cl×bo) (enc:=fun a=>[eL a.1,eR a.2.1,eT t,.str a.2.2]) (I:=fun a=>a.1=a.2.1.map (·.n)∧a.1.Nodup∧∀x∈a.1,(cls t x).isSome=true) (μ:=fun a=>t.length+1 - a.1.length)
  (Q:=fun a i os=>i=0∧∃d e,os=[eR (a.2.1++cm t (t.length+1 - a.1.length) a.1 a.2.2),d,e,eT t]) CJ (by
   rintro ⟨came,out,s⟩ ⟨h0,h1,h2⟩
   have hc:came.length≤t.length:=oZ h1 h2
   have ho:out.length=came.length:=by simp at h0;simp [h0]
   refine ⟨rfl,?_⟩
   obtain ⟨n,hn⟩: ∃n,t.length+1 - came.length=n+1:=⟨t.length - came.length,by omega⟩
   simp only [hn,cm]
   unfold t7
   refine ab rfl (dB t s (by omega)) (by simp) (by simp) (by simp) (by simp) ?_
   cases hi:eD t s with
   |none=>exact aH (.exit 0 [eR out,eL came,.str s,eT t]) (by simp [fP hi]) (.inl ⟨_,_,rfl,rfl,eL came,.str s,by simp [fP hi]⟩)
   |some i=>
    obtain ⟨hlt,hnm⟩:=gu hi
    have hcl:cls t s=some t[i]:=(jG hi).trans (UB hlt)
    simp only [ah,aM,aF,hcl]
    simp only [bc,aR,UU,VF,XL,ag,ae,aD,XP,XQ,al]
    refine ab rfl (gD came s (by omega)) (by simp) (by simp) (by simp) (by simp) ?_
    by_cases hm:s∈came
    ·exact aH (.exit 0 [eR out,eL came,.str s,eT t]) (by simp [hm]) (.inl ⟨_,_,rfl,rfl,eL came,.str s,by simp [hm]⟩)
    ·have e1:((came.length:Nat):Int)≤100000000:=by omega
     have e3:((out.length:Nat):Int)≤100000000:=by omega
     have e2:t.length+1 - (came++[s]).length=n:=by simp;omega
     refine aH (.next [eL (came++[s]),eR (out++[t[i]]),eT t,.str t[i].s]) (by simp [hm,eT,hlt,eL,eR,e1,e3,Cl.e,hnm,eS]) (.inr ⟨(came++[s],out++[t[i]],t[i].s),rfl,⟨?_,?_,?_⟩,?_,?_⟩)
     ·replace h0:came=out.map (·.n):=h0
      show came++[s]=(out++[t[i]]).map (·.n)
      rw [XW,←h0];simp [hnm]
     ·show (came++[s]).Nodup
      rw [XR]
      exact ⟨h1,by simp,fun a ha b hb=>by rw [List.mem_singleton.1 hb];exact fun e=>hm (e▸ha)⟩
     ·intro x hx
      rcases List.mem_append.1 hx with hx |hx
      ·exact h2 x hx
      ·rw [List.mem_singleton.1 hx,hcl];rfl
     ·show t.length+1 - (came++[s]).length<n+1
      omega
     ·rintro i os ⟨q1,d,e,q2⟩
      refine ⟨q1,d,e,?_⟩
      rw [show (came++[s],out++[t[i]],t[i].s).1=came++[s] from rfl] at q2
      simp only [e2] at q2
      rw [q2]
      simp [hm]) ([],[],s) ⟨rfl,by simp,by simp⟩
 exact ⟨d,e,h⟩
theorem Eb (l:List Cl) (i:Nat) (c:Cl):(l.map fun c=>[D.ref c.e]).modify i (fun row=>row.take 0++[.ref c.e]++row.drop (0+1))=(l.set i c).map fun c=>[D.ref c.e]:=by
 apply XX
 intro x
 rw [XY,Ue,Ue,XZ]
 by_cases h:i=x
 ·subst h
  cases hx:l[i]? with
  |none=>simp [List.getElem?_eq_none_iff.1 hx]
  |some y=>obtain ⟨h1,_⟩:=List.getElem?_eq_some_iff.1 hx;simp [h1]
 ·simp [h]
theorem Lp (l:List Cl) (h:l.length≤1000):Is CK [.int .i64 l.length,.int .i64 0,.int .i64 ((l.length:Int) - 1),eR l] 0 [.int .i64 l.length,eR l.reverse]:=by
 obtain ⟨i,os,⟨rfl,rfl⟩,hh⟩:=Nb (α:=Nat×List Cl) (enc:=fun a=>[.int .i64 l.length,.int .i64 a.1,.int .i64 ((l.length:Int) - 1 - a.1),eR a.2]) (I:=fun a=>2*a.1≤l.length+1∧a.2.length=l.length∧∀x,x<l.length→a.2[x]? =if x<a.1∨l.length≤x+a.1 then l[l.length - 1 - x]? else l[x]?) (μ:=fun a=>l.length+1 - a.1)
  (Q:=fun a i os=>i=0∧os=[.int .i64 l.length,eR l.reverse]) I6 (by
   rintro ⟨k,m⟩ ⟨h0,h1,h2⟩
   replace h0:2*k≤l.length+1:=h0
   replace h1:m.length=l.length:=h1
   replace h2: ∀x,x<l.length→m[x]? =if x<k∨l.length≤x+k then l[l.length - 1 - x]? else l[x]? :=h2
   refine ⟨rfl,?_⟩
   by_cases hlt:2*k+1<l.length
   ·have w1:IntKind.i64.wrap ((k:Int)+1)=((k+1:Nat):Int):=by rw [U5 _ (by omega)];omega
    have w2:IntKind.i64.wrap ((l.length:Int) - 1 - k - 1)=(l.length:Int) - 1 - ((k+1:Nat):Int):=by rw [U5 _ (by omega)];omega
    have e1:(k:Int)<(l.length:Int) - 1 - k:=by omega
    have e2:(0:Int)≤(l.length:Int) - 1 - k:=by omega
    have e3:(l.length:Int) - 1 - k<l.length:=by omega
    have e4:((k:Nat):Int)<l.length:=by omega
    have e5:((l.length:Int) - 1 - k).toNat=l.length - 1 - k:=by omega
    have k1:k<m.length:=by omega
    have k2:l.length - 1 - k<m.length:=by omega
    have q1:m[k]=l[k]:=by
     have:=h2 k (by omega)
     rw [if_neg (by omega),UB k1,UB (by omega)] at this
     exact TZ this
    have q2:m[l.length - 1 - k]=l[l.length - 1 - k]:=by
     have:=h2 (l.length - 1 - k) (by omega)
     rw [if_neg (by omega),UB k2,UB (by omega)] at this
     exact TZ this
    refine aH (.next [.int .i64 l.length,.int .i64 ((k+1:Nat):Int),.int .i64 ((l.length:Int) - 1 - ((k+1:Nat):Int)),eR ((m.set k m[l.length - 1 - k]).set (l.length - 1 - k) m[k])]) ?_ (.inr ⟨(k+1,(m.set k m[l.length - 1 - k]).set (l.length - 1 - k) m[k]),rfl,⟨?_,?_,?_⟩,?_,fun i os h=>h⟩)
    ·simp only [t8,ah,bc,aR,ae,ag,aB,aC,eR,aj,if_pos e1,if_pos e2,if_pos e3,if_pos e4,if_pos (U9 k),mi,Uc,Ud,eN,aN,w1,w2,aI,UM,e5,Ue,UB k1,UB k2,VN,aq,an,nd]
     rw [Eb,Eb]
    ·show 2*(k+1)≤l.length+1;omega
    ·show ((m.set k m[l.length - 1 - k]).set (l.length - 1 - k) m[k]).length=l.length
     simp [h1]
    ·intro x hx
     show ((m.set k m[l.length - 1 - k]).set (l.length - 1 - k) m[k])[x]? =if x<k+1∨l.length≤x+(k+1) then l[l.length - 1 - x]? else l[x]?
     rw [XZ,XZ,h2 x hx,q1,q2]
     simp only [X0]
     by_cases a1:l.length - 1 - k=x
     ·rw [if_pos a1,if_pos k2,if_pos (by omega),show l.length - 1 - x=k by omega,UB]
     ·rw [if_neg a1]
      by_cases a2:k=x
      ·rw [if_pos a2,if_pos k1,if_pos (by omega),←a2,UB]
      ·rw [if_neg a2]
       by_cases a3:x<k∨l.length≤x+k
       ·rw [if_pos a3,if_pos (by omega)]
       ·rw [if_neg a3,if_neg (by omega)]
    ·show l.length+1 - (k+1)<l.length+1 - k;omega
   ·have e1: ¬(k:Int)<(l.length:Int) - 1 - k:=by omega
    have:m=l.reverse:=by
     apply XX
     intro x
     by_cases hx:x<l.length
     ·rw [h2 x hx,List.getElem?_reverse hx]
      by_cases a3:x<k∨l.length≤x+k
      ·rw [if_pos a3]
      ·rw [if_neg a3,show l.length - 1 - x=x by omega]
     ·rw [T1 (by omega),T1 (by simp;omega)]
    exact aH (.exit 0 [.int .i64 l.length,eR l.reverse]) (by simp [t8,e1,this]) (.inl ⟨_,_,rfl,rfl,rfl⟩)) (0,l) ⟨by show 2*0≤l.length+1;omega,rfl,fun x hx=>by show l[x]? =_;rw [if_neg (by show ¬(x<0∨l.length≤x+0);omega)]⟩
 simpa using hh
theorem Ec (t:List Cl) (s:bo) (hl:t.length≤900):Ok 237 [.c (eT t),.c (.str s)] (.c (eR (chain t s).reverse)):=by
 have hc:=dH t s
 refine nz (l:=[eT t,.str s]) OB (by simp) (by simp) ?_
 unfold I7
 obtain ⟨d,e,h⟩:=FW t s (by omega)
 refine aP rfl h (by simp) ?_
 simp only [ay]
 refine ⟨by simp,?_⟩
 have w:IntKind.i64.wrap (((chain t s).length:Int) - 1)=((chain t s).length:Int) - 1:=by rw [U5 _ (by omega)]
 refine aP rfl (Lp (chain t s) (by omega)) (by simp [eR,w]) ?_
 simp [eR]
 rw [X1 (by simp)]
end
section
open Go
def fieldsOf (t:List Cl) (s:bo):List Vr:=(chain t s).reverse.flatMap (·.f)
theorem nu {t:List Cl} (hs:dS t) (s:bo):(fieldsOf t s).length≤820:=by
 have key: ∀l:List Cl,(∀c∈l,c.f.length≤20)→(l.flatMap (·.f)).length≤20*l.length:=by
  intro l
  induction l with
  |nil=>simp
  |cons c l ih=>
   intro h
   have:=ih fun x hx=>h x (Ul _ hx)
   have:=h c (Uk ..)
   simp only [List.flatMap_cons,List.length_append,Uq];omega
 have:=key (chain t s).reverse fun c hc=>hs.f c (fe (List.mem_reverse.1 hc))
 have h2:=dH t s
 have h3:=hs.len
 unfold fieldsOf
 rw [X2] at this
 omega
theorem nv {α β:Type} (f:α→List β): ∀(l:List α) (b:List β),l.foldl (fun b x=>b++f x) b=b++l.flatMap f
 |[],b=>by simp
 |x::l,b=>by simp [nv f l]
theorem yg (t:List Cl) (s:bo) (hs:dS t):Ok 194 [.c (eT t),.c (.str s)] (.c (.aY ((fieldsOf t s).map Vr.e))):=by
 have h3:=hs.len
 refine nz (l:=[eT t,.str s]) Ox (by simp) (by simp) ?_
 unfold I2
 refine ab rfl (Ec t s (by omega)) (by simp) (by simp) (by simp) (by simp [eR]) ?_
 have hcl:=dH t s
 have hL:=AX (aY:=(chain t s).reverse) (enc:=fun k (b:List Vr)=>[.aY (b.map Vr.e),eR (chain t s).reverse,.int .i64 k]) (I:=fun k b=>b.length≤20*k∧k≤41) (g:=fun x b=>b++x.f) (fin:=fun b=>[.aY (b.map Vr.e)]) FH (fun _ _=>rfl)
  (fun k b x hk hI hx=>by
   have hk':k<41:=by simp at hk;omega
   have hf:x.f.length≤20:=hs.f x (fe (List.mem_reverse.1 (hx▸UO hk)))
   have w:=bm hk (by simp;omega)
   have e1:((b.length:Nat):Int)≤100000000:=by omega
   have e2:((x.f.length:Nat):Int)≤100000000:=by omega
   have hx':(chain t s).reverse[k]? =some x:=by rw [UB hk,hx]
   have hk2:(k:Int)<((chain t s).length:Int):=by simp at hk;omega
   refine aH (.next [.aY ((b++x.f).map Vr.e),eR (chain t s).reverse,.int .i64 ((k+1:Nat):Int)]) ?_ ⟨rfl,by simp;omega,by omega⟩
   by_cases hz:x.f=[]
   ·simp only [ml,ah,bc,aR,ae,ag,eR,az,XV,X2,aB,aj,if_pos hk2,aC,if_pos (U9 k),if_pos e1,aI,UM,Ue,hx',VN,aq,an,Cl.e,ar,if_pos e2,hz,X3,mi,Uc,Ud,eN,w,XL]
    simp
   ·have e3:(0:Int)<((x.f.length:Nat):Int):=by have:=List.length_pos_iff.2 hz;omega
    simp only [ml,ah,bc,aR,ae,ag,eR,az,XV,X2,aB,aj,if_pos hk2,aC,if_pos (U9 k),if_pos e1,aI,UM,Ue,hx',VN,aq,an,Cl.e,ar,if_pos e2,if_pos e3,mi,Uc,Ud,eN,w,N9,XW])
  (fun b hb=>by simp [ml,eR]) [] ⟨by simp,by omega⟩
 rw [nv] at hL
 exact aP rfl hL (by simp) (by simp [fieldsOf])
def mq (t:List Cl) (s q:bo):Option Vr:=(fieldsOf t s).find? fun v=>v.n==q
theorem yh (t:List Cl) (s q:bo) (hs:dS t):Ok 141 [.c (eT t),.c (.str s),.c (.str q)] (.gf [.c (.str (match mq t s q with |some v=>v.t |none=>[])),.c (.bool (mq t s q).isSome)]):=by
 have h1:=nu hs s
 refine nz (l:=[eT t,.str s,.str q]) On (by simp) (by simp) ?_
 unfold IV mq
 refine ab rfl (yg t s hs) (by simp) (by simp) (by simp) (by simp) ?_
 generalize fieldsOf t s=l at*
 have hL:=wB (aY:=l) (enc:=fun k=>[.aY (l.map Vr.e),.int .i64 k,.str q]) (p:=fun v=>v.n==q) (o:=fun j=>[.int .i64 j,.str q]) (e:=[.str q]) FF (fun _=>rfl)
  (fun k x hk hx=>by
   have w:=bm hk (by omega)
   by_cases hp:x.n=q<;>simp [p0,hk,hx,Vr.e,hp,w])
  (by simp [p0])
 rw [uk]
 refine aP rfl hL (by simp) ?_
 cases hj:l.findIdx? (fun v=>v.n==q) with
 |none=>simp
 |some j=>obtain ⟨hj1,hj2⟩:=dR hj;simp [hj1,Vr.e]
def dT (c:Cl) (q:bo):Option Sg:=c.m.find? fun m=>m.n==q
def methodOf (t:List Cl) (s q:bo):Option (Sg×bo):=(chain t s).findSome? fun c=>(dT c q).map fun m=>(m,c.n)
theorem FX (l:List Sg) (q:bo) (h:l.length≤1000):Is p8 [.aY (l.map Sg.e),.int .i64 0,.str q] (match l.findIdx? (fun m=>m.n==q) with |some _=>0 |none=>1) (match l.findIdx? (fun m=>m.n==q) with |some j=>[.int .i64 j,.str q] |none=>[.str q]):=
 wB (aY:=l) (enc:=fun k=>[.aY (l.map Sg.e),.int .i64 k,.str q]) (p:=fun m=>m.n==q) (o:=fun j=>[.int .i64 j,.str q]) (e:=[.str q]) AO (fun _=>rfl)
  (fun k x hk hx=>by
   have w:=bm hk (by omega)
   by_cases hp:x.n=q<;>simp [lI,hk,hx,Sg.e,hp,w])
  (by simp [lI])
def AY (r:Option (Sg×bo)) (i:Nat) (os:List D):Prop:=
 match r with
 |none=>i=0∧os.length=4
 |some (m,o)=>i=1∧∃a b c d,os=[a,b,c,.str o,.str m.n,.aY (m.p.map Vr.e),.str m.r,d]
theorem FY (t:List Cl) (s q:bo) (hs:dS t): ∃i os,AY (methodOf t s q) i os∧Is t4 [.aY [],.str q,eT t,.str s] i os:=by
 have hlen:=hs.len
 obtain ⟨i,os,hQ,h⟩:=Nb (α:=List bo×bo) (enc:=fun a=>[eL a.1,.str q,eT t,.str a.2]) (I:=fun a=>a.1.Nodup∧∀x∈a.1,(cls t x).isSome=true) (μ:=fun a=>t.length+1 - a.1.length)
  (Q:=fun a i os=>AY ((cm t (t.length+1 - a.1.length) a.1 a.2).findSome? fun c=>(dT c q).map fun m=>(m,c.n)) i os) CI (by
   rintro ⟨came,s⟩ ⟨h1,h2⟩
   have hc:came.length≤t.length:=oZ h1 h2
   refine ⟨rfl,?_⟩
   obtain ⟨n,hn⟩: ∃n,t.length+1 - came.length=n+1:=⟨t.length - came.length,by omega⟩
   simp only [hn,cm]
   unfold t5
   refine ab rfl (dB t s (by omega)) (by simp) (by simp) (by simp) (by simp) ?_
   cases hi:eD t s with
   |none=>exact aH (.exit 0 [eL came,.str s,eT t,.str q]) (by simp [fP hi]) (.inl ⟨_,_,rfl,by simp [fP hi,AY]⟩)
   |some i=>
    obtain ⟨hlt,hnm⟩:=gu hi
    have hcl:cls t s=some t[i]:=(jG hi).trans (UB hlt)
    have hm1:t[i].m.length≤20:=hs.m _ (UO hlt)
    simp only [ah,aM,aF,hcl]
    simp only [bc,aR,UU,VF,XL,ag,ae,aD,XP,XQ,al]
    refine ab rfl (gD came s (by omega)) (by simp) (by simp) (by simp) (by simp) ?_
    by_cases hm:s∈came
    ·exact aH (.exit 0 [eL came,.str s,eT t,.str q]) (by simp [hm]) (.inl ⟨_,_,rfl,by simp [hm,AY]⟩)
    ·have e1:((came.length:Nat):Int)≤100000000:=by omega
     have e2:t.length+1 - (came++[s]).length=n:=by simp;omega
     have e5:(i:Int)<t.length:=by omega
     simp only [List.append_assoc,UU,VF,aM,hm,decide_false,Wm,ah,bc,aR,ag,ae,al,aC,aj,if_pos (U9 i),eT,az,XV,aB,if_pos e5]
     refine aP rfl (FX t[i].m q (by omega)) (by simp [hlt,Cl.e]) ?_
     cases hj:t[i].m.findIdx? (fun m=>m.n==q) with
     |none=>
      have hnone:dT t[i] q=none:=by unfold dT;rw [uk,hj];rfl
      simp only [aS,ay,Uq,X3,true_and]
      refine aH (.next [eL (came++[s]),.str q,eT t,.str t[i].s]) (by simp [eL,e1,eT,hlt,Cl.e,eS]) (.inr ⟨(came++[s],t[i].s),rfl,⟨?_,?_⟩,?_,?_⟩)
      ·show (came++[s]).Nodup
       rw [XR]
       exact ⟨h1,by simp,fun a ha b hb=>by rw [List.mem_singleton.1 hb];exact fun e=>hm (e▸ha)⟩
      ·intro x hx
       rcases List.mem_append.1 hx with hx |hx
       ·exact h2 x hx
       ·rw [List.mem_singleton.1 hx,hcl];rfl
      ·show t.length+1 - (came++[s]).length<n+1
       omega
      ·intro i2 os q2
       rw [show (came++[s],t[i].s).1=came++[s] from rfl] at q2
       simp only [e2] at q2
       simpa [hm,hnone] using q2
     |some j=>
      obtain ⟨hj1,hj2⟩:=dR hj
      have hsome:dT t[i] q=some t[i].m[j]:=by unfold dT;rw [uk,hj];simp [hj1]
      have hp:(t[i].m[j]).p.length≤10:=hs.p _ (UO hlt) _ (UO hj1)
      have e6: ¬(j:Int)<0:=by omega
      have e7:(j:Int)<t[i].m.length:=by omega
      simp only [ay,Uq,X3,true_and,ah,bc,aR,UU,VF,ag,ae,aB,aj,if_neg e6,aC,if_pos (U9 j),aI,UM,Ue,UB hlt,VN,aq,Cl.e,ar,an,az,XV,if_pos e7]
      refine ab rfl (Ea (t[i].m[j]).p (by omega)) (by simp [hlt,hj1,Sg.e,Cl.e]) (by simp) (by simp) (by simp) ?_
      exact aH (.exit 1 [eL came,.str s,eT t,.str t[i].n,.str t[i].m[j].n,.aY (t[i].m[j].p.map Vr.e),.str t[i].m[j].r,.str q]) (by simp [hlt,hj1,Cl.e,Sg.e,eT]) (.inl ⟨_,_,rfl,by simp [hm,hsome,AY]⟩)) ([],s) ⟨by simp,by simp⟩
 exact ⟨i,os,hQ,h⟩
theorem o5 (t:List Cl) (s q:bo) (hs:dS t):Ok 142 [.c (eT t),.c (.str s),.c (.str q)] (match methodOf t s q with |some (m,o)=>.gf [.agg m.e,.c (.str o),.c (.bool true)] |none=>.gf [.agg [.str [],.aY [],.str []],.c (.str []),.c (.bool false)]):=by
 refine nz (l:=[eT t,.str s,.str q]) Oo (by simp) (by simp) ?_
 unfold IW
 obtain ⟨i,os,hQ,h⟩:=FY t s q hs
 refine aP rfl h (by simp) ?_
 cases hm:methodOf t s q with
 |none=>
  rw [hm] at hQ
  obtain ⟨rfl,hl⟩:=hQ
  match os,hl with
  |[a,b,c,d],_=>simp
 |some r=>
  obtain ⟨m,o⟩:=r
  rw [hm] at hQ
  obtain ⟨rfl,a,b,c,d,rfl⟩:=hQ
  simp [Sg.e]
def fx (out:List Sg) (m:Sg):List Sg:=match out.findIdx? (fun x=>x.n==m.n) with |some j=>out.set j m |none=>out++[m]
def methodsOf (t:List Cl) (s:bo):List Sg:=(chain t s).reverse.foldl (fun out c=>c.m.foldl fx out) []
def cr:Nat→List Sg→List (List D)
 |_,[]=>[]
 |k,m::l=>[.str m.n,.int .i64 k]::cr (k+1) l
theorem ur (q:bo): ∀(l:List Sg) (k:Nat),(cr k l).any (bC (.str q))=l.any fun m=>m.n==q
 |[],k=>rfl
 |m::l,k=>by
  simp only [cr,List.any_cons,ur q l (k+1),bC,gC]
  congr 1
  exact Bool.beq_comm
theorem qW (q:bo): ∀(l:List Sg) (k:Nat),(cr k l).find? (bC (.str q))=(l.findIdx? fun m=>m.n==q).map fun j=>[.str q,.int .i64 ((k+j:Nat):Int)]
 |[],k=>rfl
 |m::l,k=>by
  simp only [cr,List.find?_cons,List.findIdx?_cons,bC,gC]
  by_cases h:m.n=q
  ·simp [h]
  ·have h': ¬q=m.n:=fun e=>h e.symm
   rw [show (q==m.n)=false by simpa using h',show (m.n==q)=false by simpa using h]
   simp only [Bool.false_eq_true,if_false]
   rw [qW q l (k+1)]
   cases l.findIdx? (fun m=>m.n==q) with
   |none=>rfl
   |some j=>simp;omega
theorem uu (q:bo) (n:Int): ∀(l:List Sg) (k:Nat),(l.any fun m=>m.n==q)=false→ik (.str q) [.int .i64 n] (cr k l)=cr k l++[[.str q,.int .i64 n]]
 |[],k,_=>rfl
 |m::l,k,h=>by
  simp only [List.any_cons,Bool.or_eq_false_iff] at h
  simp only [cr,ik,bC,gC,UU]
  rw [Bool.beq_comm,h.1,cond_false,uu q n l (k+1) h.2]
theorem uv: ∀(l:List Sg) (k:Nat) (m:Sg),cr k (l++[m])=cr k l++[[.str m.n,.int .i64 ((k+l.length:Nat):Int)]]
 |[],k,m=>rfl
 |x::l,k,m=>by
  simp only [UU,cr,uv l (k+1) m,Uq]
  rw [show k+1+l.length=k+(l.length+1) by omega]
theorem uw (m:Sg): ∀(l:List Sg) (k j:Nat) (h:j<l.length),l[j].n=m.n→cr k (l.set j m)=cr k l
 |x::l,k,0,h,e=>by simp only [List.set_cons_zero,cr];rw [←e];rfl
 |x::l,k,j+1,h,e=>by simp only [List.set_cons_succ,cr];rw [uw m l (k+1) j (by simpa using h) (by simpa using e)]
theorem Ed (l:List Sg) (q:bo):(l.any fun m=>m.n==q)=(l.findIdx? fun m=>m.n==q).isSome:=by
 cases h:l.findIdx? (fun m=>m.n==q) with
 |none=>simp at h;simpa using h
 |some j=>
  obtain ⟨h1,h2⟩:=dR h
  simp only [XP]
  exact List.any_eq_true.2 ⟨_,UO h1,h2⟩
theorem yj (out:List Sg) (m:Sg):(fx out m).length≤out.length+1:=by
 unfold fx
 split<;>simp
theorem Lq (out:List Sg) (ms:List Sg) (d1:D) (d2:Int) (h:out.length≤1000) (hm:ms.length≤20) (hp: ∀m∈ms,m.p.length≤10):
 Is ni [.int .i64 out.length,d1,.int .i64 d2,.aY (ms.map Sg.e),.int .i64 0,.aY (cr 0 out),.int .i64 out.length,.aY (out.map Sg.e)] 0 [.int .i64 (ms.foldl fx out).length,d1,.int .i64 d2,.aY (cr 0 (ms.foldl fx out)),.int .i64 (ms.foldl fx out).length,.aY ((ms.foldl fx out).map Sg.e)]:=
 AX (aY:=ms) (enc:=fun k (b:List Sg)=>[.int .i64 b.length,d1,.int .i64 d2,.aY (ms.map Sg.e),.int .i64 k,.aY (cr 0 b),.int .i64 b.length,.aY (b.map Sg.e)]) (I:=fun k b=>b.length≤1000+k∧k≤20) (g:=fun m b=>fx b m)
  (fin:=fun b=>[.int .i64 b.length,d1,.int .i64 d2,.aY (cr 0 b),.int .i64 b.length,.aY (b.map Sg.e)]) xS (fun _ _=>rfl)
  (fun k b m hk hI hx=>by
   have w:=bm hk (by omega)
   have e1:(k:Int)<ms.length:=by omega
   have hx':ms[k]? =some m:=by rw [UB hk,hx]
   have hpl:m.p.length≤10:=hp m (hx▸UO hk)
   have hpu:=yj b m
   refine aH (.next [.int .i64 (fx b m).length,d1,.int .i64 d2,.aY (ms.map Sg.e),.int .i64 ((k+1:Nat):Int),.aY (cr 0 (fx b m)),.int .i64 (fx b m).length,.aY ((fx b m).map Sg.e)]) ?_ ⟨rfl,by omega,by omega⟩
   unfold kn
   simp only [ah,bc,aR,ae,ag,az,XV,aB,aj,if_pos e1,aC,if_pos (U9 k)]
   refine ab rfl (Ea m.p (by omega)) (by simp [hx',Sg.e]) (by simp) (by simp) (by simp) ?_
   simp only [aM,UU,VF,ah,bc,aR,ae,ag,aI,UM,Ue,hx',VN,aq,Sg.e,an,rH,ur,Ed]
   cases hj:b.findIdx? (fun x=>x.n==m.n) with
   |none=>
    have hb:=yj b m
    have e2:((b.length:Nat):Int)≤100000000:=by omega
    have hpm:fx b m=b++[m]:=by unfold fx;rw [hj]
    have hany:(b.any fun x=>x.n==m.n)=false:=by rw [Ed,hj];rfl
    simp only [Option.isSome_none,al,aC,aj,if_pos e2,Int.le_refl,if_true,mi,Uc,Ud,bc,aR,ae,ag,aI,UM,Ue,hx',VN,aq,Sg.e,an,ar,rG,DO,az,K7,eN,w,uu m.n _ b 0 hany,hpm,uv]
    simp [Sg.e,X1]
   |some j=>
    obtain ⟨hj1,hj2⟩:=dR hj
    have hn:b[j].n=m.n:=by simpa using hj2
    have hpm:fx b m=b.set j m:=by unfold fx;rw [hj]
    have e2:(j:Int)<b.length:=by omega
    simp only [XP,aE,K6,qW,hj,VN,Nat.zero_add,List.tail_cons,aq,an,aC,aj,if_pos (U9 j),aB,if_pos e2,mi,Uc,Ud,bc,aR,ae,ag,aI,UM,Ue,hx',Sg.e,ar,rH,nd,eN,w,hpm,uw m b 0 j hj1 hn,X0]
    simp only [mu.next.injEq,List.cons.injEq,true_and,and_true,D.aY.injEq]
    apply XX
    intro x
    rw [XY,Ue,Ue,XZ]
    by_cases hjx:j=x
    ·subst hjx
     simp [hj1,Sg.e]
    ·simp [hjx])
  (fun b hb=>by simp [kn]) out ⟨by omega,by omega⟩
theorem mJ (ms:List Sg): ∀out:List Sg,(ms.foldl fx out).length≤out.length+ms.length:=by
 induction ms with
 |nil=>intro out;simp
 |cons m ms ih=>
  intro out
  have:=ih (fx out m)
  have:=yj out m
  simp only [X4,Uq]
  omega
theorem Lr {out:List Sg} {m x:Sg} (h:x∈fx out m):x∈out∨x=m:=by
 unfold fx at h
 split at h
 ·exact List.mem_or_eq_of_mem_set h
 ·rcases List.mem_append.1 h with h |h
  ·exact .inl h
  ·exact .inr (List.mem_singleton.1 h)
theorem vb {ms:List Sg}: ∀{out:List Sg} {x:Sg},x∈ms.foldl fx out→x∈out∨x∈ms:=by
 induction ms with
 |nil=>intro out x h;exact .inl h
 |cons m ms ih=>
  intro out x h
  rcases ih h with h |h
  ·rcases Lr h with h |h
   ·exact .inl h
   ·exact .inr (h▸Uk ..)
  ·exact .inr (Ul _ h)
theorem qX {t:List Cl} {s:bo} {m:Sg} (h:m∈methodsOf t s): ∃c∈chain t s,m∈c.m:=by
 have key: ∀(l:List Cl) (out:List Sg) (x:Sg),x∈l.foldl (fun out c=>c.m.foldl fx out) out→x∈out∨∃c∈l,x∈c.m:=by
  intro l
  induction l with
  |nil=>intro out x h;exact .inl h
  |cons c l ih=>
   intro out x h
   rcases ih _ _ h with h |⟨d,h1,h2⟩
   ·rcases vb h with h |h
    ·exact .inl h
    ·exact .inr ⟨c,Uk ..,h⟩
   ·exact .inr ⟨d,Ul _ h1,h2⟩
 rcases key _ _ _ h with h |⟨c,h1,h2⟩
 ·cases h
 ·exact ⟨c,List.mem_reverse.1 h1,h2⟩
theorem Ee (t:List Cl) (s:bo) (hs:dS t):Ok 241 [.c (eT t),.c (.str s)] (.c (.aY ((methodsOf t s).map Sg.e)))∧(methodsOf t s).length≤820:=by
 have h3:=hs.len
 have hcl:=dH t s
 have hm0: ∀c∈(chain t s).reverse,c.m.length≤20:=fun c hc=>hs.m c (fe (List.mem_reverse.1 hc))
 have lenk: ∀(l:List Cl) (out:List Sg),(∀c∈l,c.m.length≤20)→(l.foldl (fun out c=>c.m.foldl fx out) out).length≤out.length+20*l.length:=by
  intro l
  induction l with
  |nil=>intro out _;simp
  |cons c l ih=>
   intro out h
   have q1:=ih (c.m.foldl fx out) fun x hx=>h x (Ul _ hx)
   have q2:=mJ c.m out
   have q3:=h c (Uk ..)
   simp only [X4,Uq]
   omega
 have hlen:(methodsOf t s).length≤820:=by
  have:=lenk _ [] hm0
  simp only [X3,X2] at this
  unfold methodsOf
  omega
 refine ⟨?_,hlen⟩
 refine nz (l:=[eT t,.str s]) OC (by simp) (by simp) ?_
 unfold I8
 refine ab rfl (Ec t s (by omega)) (by simp) (by simp) (by simp) (by simp [eR]) ?_
 have hL:=AX (aY:=(chain t s).reverse) (enc:=fun k (b:List Sg)=>[.int .i64 b.length,eR (chain t s).reverse,.int .i64 k,.aY (cr 0 b),.int .i64 b.length,.aY (b.map Sg.e)]) (I:=fun k b=>b.length≤20*k∧k≤41) (g:=fun c b=>c.m.foldl fx b) (fin:=fun b=>[.int .i64 b.length,.aY (cr 0 b),.int .i64 b.length,.aY (b.map Sg.e)]) FK (fun _ _=>rfl)
  (fun k b c hk hI hx=>by
   have hk':k<41:=by simp at hk;omega
   have w:=bm hk (by simp;omega)
   have hc:c∈t:=fe (List.mem_reverse.1 (hx▸UO hk))
   have hx':(chain t s).reverse[k]? =some c:=by rw [UB hk,hx]
   have hk2:(k:Int)<((chain t s).length:Int):=by simp at hk;omega
   have hb:=mJ c.m b
   have hcm:=hs.m c hc
   refine aH (.next [.int .i64 (c.m.foldl fx b).length,eR (chain t s).reverse,.int .i64 ((k+1:Nat):Int),.aY (cr 0 (c.m.foldl fx b)),.int .i64 (c.m.foldl fx b).length,.aY ((c.m.foldl fx b).map Sg.e)]) ?_ ⟨rfl,by omega,by omega⟩
   unfold qd
   simp only [ah,bc,aR,ae,ag,eR,az,XV,X2,aB,aj,if_pos hk2,aC,if_pos (U9 k)]
   refine aP rfl (Lq b c.m (eR (chain t s).reverse) k (by omega) hcm (hs.p c hc)) ?_ ?_
   ·simp only [Uc,Ud,bc,aR,ae,ag,aI,UM,Ue,hx',VN,aq,an,Cl.e,ar,eR]
   ·simp [w,eR])
  (fun b hb=>by simp [qd,eR]) [] ⟨by simp,by omega⟩
 refine aP rfl hL (by simp [cr]) ?_
 simp [methodsOf]
 rw [X1]
 simp
structure Mb where
 n:bo
 k:Int
deriving DecidableEq
def pc (x:Mb):List D:=[.str x.n,.int .i64 x.k]
@[simp] theorem PS {x:Mb}:bg [.str,.int .i64] (pc x)=True:=by simp [pc]
def dp (t:List Cl) (s:bo):List Mb:=(fieldsOf t s).map (fun v=>Mb.mk v.n (-1))++(methodsOf t s).map fun m=>Mb.mk m.n m.p.length
theorem kC {α β:Type} (f:α→β): ∀(l:List α) (b:List β),l.foldl (fun b x=>b++[f x]) b=b++l.map f
 |[],b=>by simp
 |x::l,b=>by simp [kC f l]
theorem yk (t:List Cl) (s:bo) (hs:dS t):Ok 208 [.c (eT t),.c (.str s)] (.c (.aY ((dp t s).map pc)))∧(dp t s).length≤1640:=by
 obtain ⟨hM,hml⟩:=Ee t s hs
 have hfl:=nu hs s
 refine ⟨?_,by unfold dp;simp;omega⟩
 refine nz (l:=[eT t,.str s]) OA (by simp) (by simp) ?_
 unfold I5
 refine ab rfl (yg t s hs) (by simp) (by simp) (by simp) (by simp) ?_
 have hL:=AX (aY:=fieldsOf t s) (enc:=fun k (b:List Mb)=>[eT t,.str s,.aY (b.map pc),.aY ((fieldsOf t s).map Vr.e),.int .i64 k]) (I:=fun k b=>b.length=k) (g:=fun v b=>b++[⟨v.n,-1⟩]) (fin:=fun b=>[eT t,.str s,.aY (b.map pc)]) FI (fun _ _=>rfl)
  (fun k b x hk hI hx=>by
   have w:=bm hk (by omega)
   have e1:((k:Nat):Int)≤100000000:=by omega
   simp [qb,hk,hx,w,e1,Vr.e,hI,pc])
  (fun b hb=>by simp [qb]) [] rfl
 rw [kC] at hL
 refine aP rfl hL (by simp) ?_
 simp only [ay]
 refine ⟨rfl,?_⟩
 refine ab rfl hM (by simp) (by simp) (by simp) (by simp) ?_
 have hL2:=AX (aY:=methodsOf t s) (enc:=fun k (b:List Mb)=>[.aY (b.map pc),.aY ((methodsOf t s).map Sg.e),.int .i64 k]) (I:=fun k b=>b.length≤1000+k) (g:=fun m b=>b++[⟨m.n,m.p.length⟩]) (fin:=fun b=>[.aY (b.map pc)]) FJ (fun _ _=>rfl)
  (fun k b x hk hI hx=>by
   have w:=bm hk (by omega)
   have e1:((b.length:Nat):Int)≤100000000:=by omega
   simp [qc,hk,hx,w,e1,Sg.e,pc];omega)
  (fun b hb=>by simp [qc]) ([]++(fieldsOf t s).map (fun v=>Mb.mk v.n (-1))) (by simp;omega)
 rw [kC] at hL2
 refine aP rfl hL2 (by simp) ?_
 simp [dp]
theorem Ls (t:List Cl) (s q:bo) (hs:dS t): ∃n b,Ok 154 [.c (eT t),.c (.str s),.c (.str q)] (.gf [.c (.int .i64 n),.c (.bool b)]):=by
 obtain ⟨hM,hml⟩:=yk t s hs
 obtain ⟨r,⟨n,b,rfl⟩,h⟩:=kQ (l:=[eT t,.str s,.str q]) (R:=fun r=>∃n b,r= .gf [.c (.int .i64 n),.c (.bool b)]) (ds:=[.c (eT t),.c (.str s),.c (.str q)]) Ov (by simp) (by simp) (by
  unfold I0
  refine ab rfl hM (by simp) (by simp) (by simp) (by simp) ?_
  generalize dp t s=l at*
  have hL:=wB (aY:=l) (enc:=fun k=>[.aY (l.map pc),.int .i64 k,.str q]) (p:=fun v=>v.n==q) (o:=fun j=>[.int .i64 j,.str q]) (e:=[.str q]) FG (fun _=>rfl)
   (fun k x hk hx=>by
    have w:=bm hk (by omega)
    by_cases hp:x.n=q<;>simp [p9,hk,hx,pc,hp,w])
   (by simp [p9])
  refine aP rfl hL (by simp) ?_
  cases hj:l.findIdx? (fun v=>v.n==q) with
  |none=>simp
  |some j=>obtain ⟨hj1,hj2⟩:=dR hj;simp [hj1,pc])
 exact ⟨n,b,h⟩
theorem Lt (l:List Mb) (x:Mb) (hl:l.length≤100000):Ok 259 [.c (.aY (l.map pc)),.agg (pc x)] (.c (.bool (decide (x∈l)))):=by
 have h270:Ok 270 [.c (.aY (l.map pc)),.agg (pc x)] (.c (.int .i64 (match l.findIdx? (fun y=>decide (x=y)) with |some j=>(j:Int) |none=> -1))):=by
  refine nz (l:=[.aY (l.map pc),.str x.n,.int .i64 x.k]) OF (by simp [pc]) (by simp) ?_
  unfold Jb
  have hL:=wB (aY:=l) (enc:=fun k=>[.aY (l.map pc),.int .i64 k,.str x.n,.int .i64 x.k]) (p:=fun y=>decide (x=y)) (o:=fun j=>[.int .i64 j,.str x.n,.int .i64 x.k]) (e:=[.str x.n,.int .i64 x.k]) FL (fun _=>rfl)
   (fun k y hk hx=>by
    have w:=bm hk (by omega)
    by_cases h1:x.n=y.n
    ·by_cases h2:x.k=y.k
     ·have:x=y:=by cases x;cases y;cases h1;cases h2;rfl
      simp [jF,hk,hx,pc,w,this]
     ·have: ¬x=y:=fun e=>h2 (by rw [e])
      simp [jF,hk,hx,pc,w,this,h1,h2]
    ·have: ¬x=y:=fun e=>h1 (by rw [e])
     simp [jF,hk,hx,pc,w,this,h1])
   (by simp [jF])
  refine aP rfl hL (by simp) ?_
  cases hj:l.findIdx? (fun y=>decide (x=y))<;>simp
 refine nz (l:=[.aY (l.map pc),.str x.n,.int .i64 x.k]) OE (by simp [pc]) (by simp) ?_
 unfold Ja
 refine ab rfl h270 (by simp [pc]) (by simp) (by simp) (by simp) ?_
 cases hj:l.findIdx? (fun y=>decide (x=y)) with
 |none=>
  have:x∉l:=fun hm=>by simp at hj;exact hj x hm rfl
  simp [this]
 |some j=>
  obtain ⟨h1,h2⟩:=dR hj
  have:x∈l:=by rw [of_decide_eq_true h2];exact UO h1
  simp [this]
def hasB (t:List Cl) (s u:bo):Bool:=(cls t s).isSome&&((cls t u).isSome&&(dp t u).all fun x=>decide (x∈dp t s))
theorem Lu (t:List Cl) (s u:bo) (hs:dS t):Ok 242 [.c (eT t),.c (.str s),.c (.str u)] (.c (.bool (hasB t s u))):=by
 have hl:=hs.len
 obtain ⟨hM,hml⟩:=yk t s hs
 obtain ⟨hU,hul⟩:=yk t u hs
 refine nz (l:=[eT t,.str s,.str u]) OD (by simp) (by simp) ?_
 unfold I9 hasB
 refine ab rfl (dB t s (by omega)) (by simp) (by simp) (by simp) (by simp) ?_
 refine ab rfl (dB t u (by omega)) (by simp) (by simp) (by simp) (by simp) ?_
 cases h1:(cls t s).isSome
 ·simp
 cases h2:(cls t u).isSome
 ·simp
 simp
 refine ab rfl hM (by simp) (by simp) (by simp) (by simp) ?_
 refine ab rfl hU (by simp) (by simp) (by simp) (by simp) ?_
 generalize dp t s=a at*
 generalize dp t u=b at*
 have hL:=wB (aY:=b) (enc:=fun k=>[.aY (a.map pc),.aY (b.map pc),.int .i64 k]) (p:=fun x=> !decide (x∈a)) (o:=fun j=>[]) (e:=[]) CL (fun _=>rfl)
  (fun k x hk hx=>by
   have w:=bm hk (by omega)
   have e1:(k:Int)<b.length:=by omega
   have hx':b[k]? =some x:=by rw [UB hk,hx]
   simp only [nj,ah,bc,aR,ae,ag,az,XV,aB,aj,if_pos e1,aC,if_pos (U9 k)]
   refine ab rfl (Lt a x (by omega)) (by simp [hx',pc]) (by simp) (by simp) (by simp) ?_
   by_cases hm:x∈a<;>simp [hm,w])
  (by simp [nj])
 refine aP rfl hL (by simp) ?_
 cases hj:b.findIdx? (fun x=> !decide (x∈a)) with
 |none=>
  have: ∀x∈b,x∈a:=fun x hx=>by simp at hj;exact hj x hx
  simpa using this
 |some j=>
  obtain ⟨h1,h2⟩:=dR hj
  have: ¬∀x∈b,x∈a:=fun h=>by have:=h _ (UO h1);simp [this] at h2
  simp
  exact ⟨b[j],UO h1,by simpa using h2⟩
def fV (t:List Cl) (n k:bo):Prop:=(n≠[]→wA n=true)∧o4 k=true∧(kA k=true→(cls t k).isSome=true)
theorem ux {t:List Cl} {n k:bo} {w:Int} (h:named t n k w) (hw:w=0):fV t n k:=h hw
structure PV (t:List Cl) (i:Nat) (c:Cl):Prop where
 n:kA c.n=true
 at_:eD t c.n=some i
 f:c.f.length≤20
 m:c.m.length≤20
 p: ∀m∈c.m,m.p.length≤8
def OV (t:List Cl) (c:Cl):Prop:=c.s≠[]→(cls t c.s).isSome=true
structure OW (t:List Cl) (c:Cl) (m:Sg):Prop where
 p: ∀p∈m.p,p.n≠[]∧fV t p.n p.t
 r:fV t [] m.r
 o: ∀x o,methodOf t c.s m.n=some (x,o)→x.r=m.r∧x.p.length=m.p.length
structure Sr (t:List Cl) (c:Cl):Prop where
 f: ∀v∈c.f,v.n≠[]∧fV t v.n v.t
 m: ∀m∈c.m,OW t c m
 d:(c.m.map (·.n)).Nodup
structure FZ (t:List Cl):Prop where
 len:t.length≤40
 sz: ∀(i:Nat) (h:i<t.length),PV t i t[i]
 ln: ∀c∈t,OV t c
 ow: ∀c∈t,Sr t c
theorem o6 {t:List Cl} (h1:t.length≤40) (h2: ∀(i:Nat) (h:i<t.length),PV t i t[i]):dS t:=
 ⟨h1,fun c hc=>let ⟨i,hi,e⟩:=List.mem_iff_getElem.1 hc;e▸(h2 i hi).f,fun c hc=>let ⟨i,hi,e⟩:=List.mem_iff_getElem.1 hc;e▸(h2 i hi).m,
  fun c hc m hm=>by obtain ⟨i,hi,rfl⟩:=List.mem_iff_getElem.1 hc;have:=(h2 i hi).p m hm;omega⟩
theorem Lv (l:List Sg) (h:l.length≤1000): ∃i os,((i=0∧∃j:Nat,os=[.int .i64 j])∨(i=1∧os=[]∧∀m∈l,m.p.length≤8))∧Is xX [.aY (l.map Sg.e),.int .i64 0] i os:=by
 have hL:=wB (aY:=l) (enc:=fun k=>[.aY (l.map Sg.e),.int .i64 k]) (p:=fun m=>decide (8<m.p.length)) (o:=fun j=>[.int .i64 j]) (e:=[]) FN (fun _=>rfl)
  (fun k x hk hx=>by
   have w:=bm hk (by omega)
   by_cases hp:8<x.p.length
   ·have hp':(8:Int)<x.p.length:=by omega
    simp [mn,hk,hx,Sg.e,hp,hp',w]
   ·have hp': ¬(8:Int)<x.p.length:=by omega
    simp [mn,hk,hx,Sg.e,hp,hp',w])
  (by simp [mn])
 refine ⟨_,_,?_,hL⟩
 cases hj:l.findIdx? (fun m=>decide (8<m.p.length)) with
 |none=>exact .inr ⟨rfl,rfl,fun m hm=>by simp at hj;exact hj m hm⟩
 |some j=>exact .inl ⟨rfl,j,rfl⟩
theorem OX (t:List Cl) (i:Nat) (hi:i<t.length) (hl:t.length≤40): ∃j os,(os=[eT t,.int .i64 i]∧j≤3∧(j=3→PV t i t[i]))∧Is S9 [eT t,.int .i64 i] j os:=by
 refine Ge Rl rfl ?_
 have e1:(i:Int)<t.length:=by omega
 have hx':t[i]? =some t[i]:=UB hi
 generalize hc:t[i]=c at hx'⊢
 unfold MU
 simp only [ah,bc,aR,ae,ag,aC,aj,if_pos (U9 i),eT,az,XV,aB,if_pos e1]
 refine ab rfl (dB t c.n (by omega)) (by simp [eT,hx',Cl.e]) (by simp) (by simp) (by simp) ?_
 refine ab rfl (rJ c.n) (by simp [hx',Cl.e]) (by simp) (by simp) (by simp) ?_
 obtain ⟨k,hk⟩: ∃k,eD t c.n=some k:=by
  cases h:eD t c.n with
  |some k=>exact ⟨k,rfl⟩
  |none=>
   unfold eD at h
   simp at h
   exact absurd rfl (h c (hc▸UO hi))
 have hki:k≤i:=by
  obtain ⟨_,_,h3⟩:=List.findIdx?_eq_some_iff_getElem.1 hk
  rcases Nat.lt_or_ge i k with h |h
  ·have:=h3 i h;simp [hc] at this
  ·exact h
 simp only [aM,aF,XL,UU,VF,ah,bc,aR,ae,ag,aD,hk,Wm]
 cases hw:kA c.n
 ·simp only [X5,aE]
  exact aH (.exit 0 [eT t,.int .i64 i]) (by simp [eT]) ⟨_,_,rfl,rfl,by omega,fun h=>by omega⟩
 simp only [XQ,al,aB,aj,aI,UM,Ue,hx',VN,aq,Cl.e,an,ar,az,XV,aK]
 by_cases h1:(k:Int)<i
 ·rw [if_pos h1]
  exact aH (.exit 1 [eT t,.int .i64 i]) (by simp [eT]) ⟨_,_,rfl,rfl,by omega,fun h=>by omega⟩
 rw [if_neg h1]
 obtain rfl:k=i:=by omega
 by_cases h2:(20:Int)<c.f.length
 ·rw [if_pos h2]
  exact aH (.exit 2 [eT t,.int .i64 k]) (by simp [eT]) ⟨_,_,rfl,rfl,by omega,fun h=>by omega⟩
 rw [if_neg h2]
 by_cases h3:(20:Int)<c.m.length
 ·rw [if_pos h3]
  exact aH (.exit 2 [eT t,.int .i64 k]) (by simp [eT]) ⟨_,_,rfl,rfl,by omega,fun h=>by omega⟩
 rw [if_neg h3]
 obtain ⟨j,os,hQ,hL⟩:=Lv c.m (by omega)
 refine aP rfl hL (by simp [hx',Cl.e]) ?_
 rcases hQ with ⟨rfl,n,rfl⟩ |⟨rfl,rfl,hQ⟩
 ·simp only [ay,Uq,X3,true_and]
  exact aH (.exit 2 [eT t,.int .i64 k]) (by simp [eT]) ⟨_,_,rfl,rfl,by omega,fun h=>by omega⟩
 ·simp only [aS,ay,X3,true_and]
  exact aH (.exit 3 [eT t,.int .i64 k]) (by simp [eT]) ⟨_,_,rfl,rfl,by omega,fun _=>⟨hw,hk,by omega,by omega,hQ⟩⟩
theorem Lw (t:List Cl) (hl:t.length≤40): ∃j os,((j≤2∧∃n:Int,os=[eT t,.int .i64 n])∨(j=3∧(∃n:Int,os=[eT t,eT t,.int .i64 n])∧∀(i:Nat) (h:i<t.length),PV t i t[i]))∧Is qf [eT t,.int .i64 0,eT t,.int .i64 0] j os:=by
 have:=cX (aY:=t) (enc:=fun k (n:Int)=>[eT t,.int .i64 k,eT t,.int .i64 n]) (I:=fun k _=>∀(i:Nat) (h:i<t.length),i<k→PV t i t[i])
  (Q:=fun j os=>(j≤2∧∃n:Int,os=[eT t,.int .i64 n])∨(j=3∧(∃n:Int,os=[eT t,eT t,.int .i64 n])∧∀(i:Nat) (h:i<t.length),PV t i t[i])) AS (fun _ _=>rfl)
  (fun k n c hk hI hx=>by
   have w:=bm hk (by omega)
   have e1:(k:Int)<t.length:=by omega
   unfold lL
   simp only [ah,bc,aR,ae,ag,eT,az,XV,aB,aj,if_pos e1]
   obtain ⟨j,os,⟨rfl,hj,hS⟩,hL⟩:=OX t k hk hl
   refine aP rfl hL (by simp [eT]) ?_
   match j,hj with
   |0,_=>simp only [ay,Uq,X3,true_and];exact aH (.exit 0 [eT t,.int .i64 k]) (by simp [eT]) (.inl ⟨_,_,rfl,.inl ⟨by omega,_,rfl⟩⟩)
   |1,_=>simp only [aS,ay,Uq,X3,true_and];exact aH (.exit 1 [eT t,.int .i64 k]) (by simp [eT]) (.inl ⟨_,_,rfl,.inl ⟨by omega,_,rfl⟩⟩)
   |2,_=>simp only [aS,ay,Uq,X3,true_and];exact aH (.exit 2 [eT t,.int .i64 k]) (by simp [eT]) (.inl ⟨_,_,rfl,.inl ⟨by omega,_,rfl⟩⟩)
   |3,_=>
    simp only [aS,ay,Uq,X3,true_and]
    refine aH (.next [eT t,.int .i64 ((k+1:Nat):Int),eT t,.int .i64 k]) (by simp [eT,w]) (.inr ⟨(k:Int),rfl,fun i h h2=>?_⟩)
    by_cases hik:i=k
    ·subst hik;exact hS rfl
    ·exact hI i h (by omega))
  (fun n hI=>by
   refine aH (.exit 3 [eT t,eT t,.int .i64 n]) (by simp [lL,eT]) ⟨_,_,rfl,.inr ⟨rfl,⟨n,rfl⟩,fun i h=>hI i h h⟩⟩) (0:Int) (fun i h h2=>by omega)
 exact this
theorem JB {t:List Cl} {s:bo} (h:(cls t s).isSome=true):chain t s≠[]:=by
 obtain ⟨c,hc⟩:=Option.isSome_iff_exists.1 h
 unfold chain cm
 rw [hc]
 simp
theorem OY (t:List Cl) (i:Nat) (hi:i<t.length) (hl:t.length≤40): ∃j os,(os=[eT t,.int .i64 i]∧j≤2∧(j=2→OV t t[i]))∧Is Ta [eT t,.int .i64 i] j os:=by
 refine Ge Rm rfl ?_
 have e1:(i:Int)<t.length:=by omega
 have hx':t[i]? =some t[i]:=UB hi
 have hin:(cls t t[i].n).isSome=true:=by
  cases h:cls t t[i].n with
  |some c=>rfl
  |none=>
   unfold cls at h
   simp at h
   exact absurd rfl (h t[i] (UO hi))
 generalize hc:t[i]=c at hx' hin⊢
 have hne:=JB hin
 have hcl:=dH t c.n
 unfold MV
 simp only [ah,bc,aR,ae,ag,aC,aj,if_pos (U9 i),eT,az,XV,aB,if_pos e1]
 refine ab rfl (dB t c.s (by omega)) (by simp [eT,hx',Cl.e]) (by simp) (by simp) (by simp) ?_
 have hlast:0<(chain t c.n).length:=List.length_pos_iff.2 hne
 have w:IntKind.i64.wrap (((chain t c.n).length:Int) - 1)=(((chain t c.n).length - 1:Nat):Int):=by rw [U5 _ (by omega)];omega
 have e2:(((chain t c.n).length - 1:Nat):Int)<(chain t c.n).length:=by omega
 have e3:(chain t c.n).length - 1<(chain t c.n).length:=by omega
 obtain ⟨k,hk⟩: ∃k,eD t ((chain t c.n)[(chain t c.n).length - 1]).n=some k:=by
  have:=kB t _ _ _ _ (UO e3)
  have h2:=kz (t:=t) (s:=((chain t c.n)[(chain t c.n).length - 1]).n)
  rw [show cls t ((chain t c.n)[(chain t c.n).length - 1]).n=some _ from this] at h2
  exact Option.isSome_iff_exists.1 h2
 obtain ⟨hk1,hk2⟩:=gu hk
 have e4:(k:Int)<t.length:=by omega
 have tail: ∀(hb:OV t c) (b:Bool) (x:Int),W [(106,none),(61,none)] [] (.call 1 [.tm tT (.var 0),.tm .str (.op (.cell 0) [.op .yE [.var 0,.var 1]])] (.tm tL (.var 4)) 1
  (.split (.op (.cmp .leq) [.int .i64 0,.op (.jg .sub .i64) [.op .len [.var 4],.int .i64 1]])
   (.split (.op (.cmp .lss) [.op (.jg .sub .i64) [.op .len [.var 4],.int .i64 1],.op .len [.var 4]])
    (.call 0 [.tm tT (.var 0),.tm .str (.op (.cell 0) [.op .yE [.var 4,.op (.jg .sub .i64) [.op .len [.var 4],.int .i64 1]]])] (.tuple [.tm (.int .i64) (.var 5),.tm .bool (.var 6)]) 2
     (.split (.op (.cmp .leq) [.int .i64 0,.var 5])
      (.split (.op (.cmp .lss) [.var 5,.op .len [.var 0]])
       (.split (.op (.jH .eql) [.op (.cell 1) [.op .yE [.var 0,.var 5]],.op (.cell 0) [.op .yE [.var 0,.var 1]]])
        (.exit 1 [.var 0,.var 1])
        (.exit 2 [.var 0,.var 1]))
       (.dead))
      (.dead)))
    (.dead))
   (.dead))) [eT t,.int .i64 i,.int .i64 x,.bool b] fun o=>∃j os,o= .exit j os∧os=[eT t,.int .i64 i]∧j≤2∧(j=2→OV t c):=by
  intro hb b x
  refine ab rfl (qm t c.n (by omega)) (by simp [eT,hx',Cl.e]) (by simp) (by simp) (by simp) ?_
  simp only [aM,UU,VF,ah,bc,aR,ae,ag,eL,cQ,az,XV,aN,w,aC,aj,if_pos (U9 _),aB,if_pos e2]
  refine ab rfl (dB t ((chain t c.n)[(chain t c.n).length - 1]).n (by omega)) (by simp [cQ,eL,eS,w,e3]) (by simp) (by simp) (by simp) ?_
  simp only [aM,aF,XL,hk,Wm,UU,VF,ah,bc,aR,ae,ag,aC,aj,if_pos (U9 k),eT,az,XV,aB,if_pos e4,aI,UM,Ue,UB hk1,hx',VN,aq,Cl.e,ar,an,au]
  by_cases hq:t[k].s=c.n
  ·rw [if_pos hq]
   exact aH (.exit 1 [eT t,.int .i64 i]) (by simp [eT]) ⟨_,_,rfl,rfl,by omega,fun h=>by omega⟩
  ·rw [if_neg hq]
   exact aH (.exit 2 [eT t,.int .i64 i]) (by simp [eT]) ⟨_,_,rfl,rfl,by omega,fun _=>hb⟩
 simp only [aM,aF,XL,UU,VF,ah,bc,aR,ae,ag,aI,UM,Ue,hx',VN,aq,Cl.e,ar,an,aw,aD,ak,aj]
 by_cases hs:c.s=[]
 ·rw [if_pos hs]
  exact tail (fun h=>absurd hs h) _ _
 ·rw [if_neg hs]
  cases hf:(cls t c.s).isSome
  ·simp only [al]
   exact aH (.exit 0 [eT t,.int .i64 i]) (by simp [eT]) ⟨_,_,rfl,rfl,by omega,fun h=>by omega⟩
  ·simp only [aE]
   exact tail (fun _=>hf) _ _
theorem Lx (t:List Cl) (n0:Int) (hl:t.length≤40): ∃j os,((j≤1∧∃n:Int,os=[eT t,.int .i64 n])∨(j=2∧(∃n:Int,os=[eT t,eT t,.int .i64 n])∧∀c∈t,OV t c))∧Is lM [eT t,.int .i64 0,eT t,.int .i64 n0] j os:=by
 have:=cX (aY:=t) (enc:=fun k (n:Int)=>[eT t,.int .i64 k,eT t,.int .i64 n]) (I:=fun k _=>∀(i:Nat) (h:i<t.length),i<k→OV t t[i])
  (Q:=fun j os=>(j≤1∧∃n:Int,os=[eT t,.int .i64 n])∨(j=2∧(∃n:Int,os=[eT t,eT t,.int .i64 n])∧∀c∈t,OV t c)) uZ (fun _ _=>rfl)
  (fun k n c hk hI hx=>by
   have w:=bm hk (by omega)
   have e1:(k:Int)<t.length:=by omega
   unfold jd
   simp only [ah,bc,aR,ae,ag,eT,az,XV,aB,aj,if_pos e1]
   obtain ⟨j,os,⟨rfl,hj,hS⟩,hL⟩:=OY t k hk hl
   refine aP rfl hL (by simp [eT]) ?_
   match j,hj with
   |0,_=>simp only [ay,Uq,X3,true_and];exact aH (.exit 0 [eT t,.int .i64 k]) (by simp [eT]) (.inl ⟨_,_,rfl,.inl ⟨by omega,_,rfl⟩⟩)
   |1,_=>simp only [aS,ay,Uq,X3,true_and];exact aH (.exit 1 [eT t,.int .i64 k]) (by simp [eT]) (.inl ⟨_,_,rfl,.inl ⟨by omega,_,rfl⟩⟩)
   |2,_=>
    simp only [aS,ay,Uq,X3,true_and]
    refine aH (.next [eT t,.int .i64 ((k+1:Nat):Int),eT t,.int .i64 k]) (by simp [eT,w]) (.inr ⟨(k:Int),rfl,fun i h h2=>?_⟩)
    by_cases hik:i=k
    ·subst hik;exact hS rfl
    ·exact hI i h (by omega))
  (fun n hI=>by
   refine aH (.exit 2 [eT t,eT t,.int .i64 n]) (by simp [jd,eT]) ⟨_,_,rfl,.inr ⟨rfl,⟨n,rfl⟩,fun c hc=>?_⟩⟩
   obtain ⟨i,h,rfl⟩:=List.mem_iff_getElem.1 hc
   exact hI i h h) n0 (fun i h h2=>by omega)
 exact this
theorem Ly (t:List Cl) (i:Nat) (hi:i<t.length) (hs:dS t) (v:Vr) (fs:List bo) (hf:fs.length≤1000): ∃j os,((j=0∧os=[eL fs,eT t,.int .i64 i])∨
 (j=1∧∃w fs',os=[.int .i64 w,eL fs',eT t,.int .i64 i]∧fs'.length≤fs.length+1∧(w=0→v.n≠[]∧fV t v.n v.t)))∧Is OK [.str v.n,.str v.t,eT t,.int .i64 i,eL fs] j os:=by
 have hl:=hs.len
 refine Ge OL rfl ?_
 have e1:(i:Int)<t.length:=by omega
 have hx':t[i]? =some t[i]:=UB hi
 generalize t[i]=c at hx'
 unfold Jg
 simp only [ah,bc,aR,ae,ag,au,aj]
 by_cases h0:v.n=[]
 ·rw [if_pos h0]
  exact aH (.exit 0 [eL fs,eT t,.int .i64 i]) (by simp) ⟨_,_,rfl,.inl ⟨rfl,rfl⟩⟩
 rw [if_neg h0]
 obtain ⟨w,hw,hF⟩:=yf t v.n v.t (by omega)
 refine ab rfl hF (by simp) (by simp) (by simp) (by simp) ?_
 simp only [aM,UU,VF,ah,bc,aR,ae,ag,aG,ak,aj]
 by_cases hw0:w=0
 case neg=>
  rw [if_neg hw0]
  exact aH (.exit 1 [.int .i64 w,eL fs,eT t,.int .i64 i]) (by simp) ⟨_,_,rfl,.inr ⟨rfl,_,_,rfl,by omega,fun h=>absurd h hw0⟩⟩
 rw [if_pos hw0]
 simp only [aC,aj,if_pos (U9 i),eT,az,XV,aB,if_pos e1]
 obtain ⟨n,b,hA⟩:=Ls t c.s v.n hs
 refine ab rfl hA (by simp [eT,hx',Cl.e]) (by simp) (by simp) (by simp) ?_
 simp only [aM,aF,XL,UU,VF,ah,bc,aR,ae,ag]
 cases b
 case true=>
  simp only [aE]
  exact aH (.exit 1 [.int .i64 8,eL fs,eT t,.int .i64 i]) (by simp [eT]) ⟨_,_,rfl,.inr ⟨rfl,_,_,rfl,by omega,fun h=>by omega⟩⟩
 simp only [al]
 refine ab rfl (gD fs v.n (by omega)) (by simp) (by simp) (by simp) (by simp) ?_
 simp only [aM,UU,VF,ah,bc,aR,ae,ag,aj]
 by_cases hm:v.n∈fs
 ·rw [if_pos hm]
  exact aH (.exit 1 [.int .i64 8,eL fs,eT t,.int .i64 i]) (by simp [eT]) ⟨_,_,rfl,.inr ⟨rfl,_,_,rfl,by omega,fun h=>by omega⟩⟩
 rw [if_neg hm]
 have e2:((fs.length:Nat):Int)≤100000000:=by omega
 simp only [eL,az,XV,aC,aj,if_pos e2]
 exact aH (.exit 1 [.int .i64 0,eL (fs++[v.n]),eT t,.int .i64 i]) (by simp [eL,e2,eT,eS]) ⟨_,_,rfl,.inr ⟨rfl,_,_,rfl,by simp,fun _=>⟨h0,ux hw hw0⟩⟩⟩
def JC (t:List Cl) (i:Nat) (fv:List Vr) (j:Nat) (os:List D):Prop:=
 (j=0∧∃fs,os=[eT t,.int .i64 i,eL fs])∨(j=1∧∃(w:Int) (fs:List bo),w≠0∧os=[.int .i64 w,eT t,.int .i64 i,eL fs])∨(j=2∧∃fs:List bo,fs.length≤1000∧os=[eL fs,eT t,.int .i64 i]∧∀v∈fv,v.n≠[]∧fV t v.n v.t)
theorem Lz (t:List Cl) (i:Nat) (hi:i<t.length) (hs:dS t) (fv:List Vr) (hf:fv.length≤20): ∃j os,JC t i fv j os∧Is CP [.aY (fv.map Vr.e),.int .i64 0,eT t,.int .i64 i,.aY []] j os:=by
 have:=cX (aY:=fv) (enc:=fun k (fs:List bo)=>[.aY (fv.map Vr.e),.int .i64 k,eT t,.int .i64 i,eL fs]) (I:=fun k fs=>fs.length≤k∧k≤20∧∀(x:Nat) (h:x<fv.length),x<k→fv[x].n≠[]∧fV t fv[x].n fv[x].t)
  (Q:=JC t i fv) Jh (fun _ _=>rfl)
  (fun k fs v hk hI hx=>by
   have w:=bm hk (by omega)
   have e1:(k:Int)<fv.length:=by omega
   have hx':fv[k]? =some v:=by rw [UB hk,hx]
   unfold uc
   simp only [ah,bc,aR,ae,ag,az,XV,aB,aj,if_pos e1,aC,if_pos (U9 k)]
   obtain ⟨j,os,hQ,hL⟩:=Ly t i hi hs v fs (by omega)
   refine aP rfl hL (by simp [hx',Vr.e]) ?_
   rcases hQ with ⟨rfl,rfl⟩ |⟨rfl,w',fs',rfl,hl',hN⟩
   ·simp only [ay,Uq,X3,true_and]
    exact aH (.exit 0 [eT t,.int .i64 i,eL fs]) (by simp) (.inl ⟨_,_,rfl,.inl ⟨rfl,_,rfl⟩⟩)
   ·simp only [aS,ay,Uq,X3,true_and,ah,bc,aR,UU,VF,ae,ag,aG,ak,aj]
    by_cases hw0:w'=0
    ·rw [if_pos hw0]
     refine aH (.next [.aY (fv.map Vr.e),.int .i64 ((k+1:Nat):Int),eT t,.int .i64 i,eL fs']) (by simp [w]) (.inr ⟨fs',rfl,by omega,by omega,fun x h h2=>?_⟩)
     by_cases hxk:x=k
     ·subst hxk;rw [hx];exact hN hw0
     ·exact hI.2.2 x h (by omega)
    ·rw [if_neg hw0]
     exact aH (.exit 1 [.int .i64 w',eT t,.int .i64 i,eL fs']) (by simp) (.inl ⟨_,_,rfl,.inr (.inl ⟨rfl,_,_,hw0,rfl⟩)⟩))
  (fun fs hI=>aH (.exit 2 [eL fs,eT t,.int .i64 i]) (by simp [uc]) ⟨_,_,rfl,.inr (.inr ⟨rfl,fs,by omega,rfl,fun v hv=>by
   obtain ⟨x,h,rfl⟩:=List.mem_iff_getElem.1 hv
   exact hI.2.2 x h h⟩)⟩) [] ⟨by simp,by omega,fun x h h2=>by omega⟩
 exact this
def JD (t:List Cl) (i:Nat) (m:Sg) (fs ms:List bo) (j:Nat) (os:List D):Prop:=
 (j=0∧∃a b c d,os=[eL ms,a,b,c,d,eL fs,eT t,.int .i64 i])∨(j=1∧∃(w:Int) (a b c d:D),w≠0∧os=[.int .i64 w,eL ms,a,b,c,d,eL fs,eT t,.int .i64 i])∨
  (j=2∧∃a,os=[eL ms,a,eL fs,.str m.n,.aY (m.p.map Vr.e),.str m.r,eT t,.int .i64 i]∧∀p∈m.p,p.n≠[]∧fV t p.n p.t)
theorem LA (t:List Cl) (i:Nat) (hs:dS t) (m:Sg) (fs ms:List bo) (hp:m.p.length≤10): ∃j os,JD t i m fs ms j os∧Is ue [.aY [],.aY (m.p.map Vr.e),.int .i64 0,eT t,.int .i64 i,eL fs,eL ms,.str m.n,.str m.r] j os:=by
 have hl:=hs.len
 have:=cX (aY:=m.p) (enc:=fun k (came:List bo)=>[eL came,.aY (m.p.map Vr.e),.int .i64 k,eT t,.int .i64 i,eL fs,eL ms,.str m.n,.str m.r]) (I:=fun k came=>came.length≤k∧k≤10∧∀(x:Nat) (h:x<m.p.length),x<k→m.p[x].n≠[]∧fV t m.p[x].n m.p[x].t)
  (Q:=JD t i m fs ms) CQ (fun _ _=>rfl)
  (fun k came p hk hI hx=>by
   have w:=bm hk (by omega)
   have e1:(k:Int)<m.p.length:=by omega
   have hx':m.p[k]? =some p:=by rw [UB hk,hx]
   unfold nq
   simp only [ah,bc,aR,ae,ag,az,XV,aB,aj,if_pos e1,aC,if_pos (U9 k),aI,UM,Ue,hx',VN,aq,Vr.e,an,ar,au]
   by_cases h0:p.n=[]
   ·rw [if_pos h0]
    exact aH (.exit 0 [eL ms,eL came,.str m.n,.aY (m.p.map Vr.e),.str m.r,eL fs,eT t,.int .i64 i]) (by simp) (.inl ⟨_,_,rfl,.inl ⟨rfl,_,_,_,_,rfl⟩⟩)
   rw [if_neg h0]
   obtain ⟨w',hw,hF⟩:=yf t p.n p.t (by omega)
   refine ab rfl hF (by simp [hx',Vr.e]) (by simp) (by simp) (by simp) ?_
   simp only [aM,UU,VF,ah,bc,aR,ae,ag,aG,ak,aj]
   by_cases hw0:w'=0
   case neg=>
    rw [if_neg hw0]
    exact aH (.exit 1 [.int .i64 w',eL ms,eL came,.str m.n,.aY (m.p.map Vr.e),.str m.r,eL fs,eT t,.int .i64 i]) (by simp) (.inl ⟨_,_,rfl,.inr (.inl ⟨rfl,_,_,_,_,_,hw0,rfl⟩)⟩)
   rw [if_pos hw0]
   refine ab rfl (gD came p.n (by omega)) (by simp [hx',Vr.e]) (by simp) (by simp) (by simp) ?_
   simp only [aM,UU,VF,ah,bc,aR,ae,ag,aj]
   by_cases hm:p.n∈came
   ·rw [if_pos hm]
    exact aH (.exit 1 [.int .i64 8,eL ms,eL came,.str m.n,.aY (m.p.map Vr.e),.str m.r,eL fs,eT t,.int .i64 i]) (by simp) (.inl ⟨_,_,rfl,.inr (.inl ⟨rfl,_,_,_,_,_,by omega,rfl⟩)⟩)
   rw [if_neg hm]
   have e2:((came.length:Nat):Int)≤100000000:=by omega
   simp only [eL,az,XV,aC,aj,if_pos e2]
   refine aH (.next [eL (came++[p.n]),.aY (m.p.map Vr.e),.int .i64 ((k+1:Nat):Int),eT t,.int .i64 i,eL fs,eL ms,.str m.n,.str m.r]) (by simp [eL,e2,hx',Vr.e,eS,w]) (.inr ⟨came++[p.n],rfl,by simp;omega,by omega,fun x h h2=>?_⟩)
   by_cases hxk:x=k
   ·subst hxk;rw [hx];exact ⟨h0,ux hw hw0⟩
   ·exact hI.2.2 x h (by omega))
  (fun came hI=>aH (.exit 2 [eL ms,eL came,eL fs,.str m.n,.aY (m.p.map Vr.e),.str m.r,eT t,.int .i64 i]) (by simp [nq]) ⟨_,_,rfl,.inr (.inr ⟨rfl,_,rfl,fun v hv=>by
   obtain ⟨x,h,rfl⟩:=List.mem_iff_getElem.1 hv
   exact hI.2.2 x h h⟩)⟩) [] ⟨by simp,by omega,fun x h h2=>by omega⟩
 exact this
theorem LB (a b:List Vr) (hl:b.length≤a.length) (ha:b.length≤1000): ∃j os,(j≤1∧os=[])∧Is xY [.aY (a.map Vr.e),.aY (b.map Vr.e),.int .i64 0] j os:=
 cX (aY:=b) (enc:=fun k (_:Unit)=>[.aY (a.map Vr.e),.aY (b.map Vr.e),.int .i64 k]) (I:=fun _ _=>True) FO (fun _ _=>rfl)
  (fun k u x hk _ hx=>by
   have w:=bm hk (by omega)
   have e1:(k:Int)<b.length:=by omega
   have e2:(k:Int)<a.length:=by omega
   have e3:k<a.length:=by omega
   by_cases h:x.t=a[k].t<;>simp [qg,hk,e3,hx,Vr.e,w,h])
  (fun u _=>by simp [qg]) () trivial
theorem yl {t:List Cl} {s q:bo} {m:Sg} {o:bo} (h:methodOf t s q=some (m,o)): ∃c∈chain t s,m∈c.m∧m.n=q∧o=c.n:=by
 unfold methodOf at h
 obtain ⟨c,hc,h⟩:=List.exists_of_findSome?_eq_some h
 unfold dT at h
 obtain ⟨m',h1,h2⟩:=Option.map_eq_some_iff.1 h
 cases h2
 exact ⟨c,hc,XN h1,by simpa using XO h1,rfl⟩
theorem LC (t:List Cl) (i:Nat) (hi:i<t.length) (hs:dS t) (m:Sg) (fs ms:List bo) (hp:m.p.length≤10) (hf:fs.length≤1000) (hms:ms.length≤1000): ∃j os,((j=0∧os=[eL ms,eL fs,eT t,.int .i64 i])∨
 (j=1∧∃w ms',os=[.int .i64 w,eL ms',eL fs,eT t,.int .i64 i]∧(w=0→m.n∉ms∧ms'=ms++[m.n]∧OW t t[i] m)))∧Is OM [.str m.n,.aY (m.p.map Vr.e),.str m.r,eT t,.int .i64 i,eL fs,eL ms] j os:=by
 have hl:=hs.len
 refine Ge ON rfl ?_
 have e1:(i:Int)<t.length:=by omega
 have hx':t[i]? =some t[i]:=UB hi
 generalize t[i]=c at hx'⊢
 unfold Ji
 refine ab rfl (ye m.n) (by simp) (by simp) (by simp) (by simp) ?_
 simp only [aM,UU,VF,ah,bc,aR,ae,ag,aD]
 cases hn:wA m.n
 ·simp only [X5,aE]
  exact aH (.exit 0 [eL ms,eL fs,eT t,.int .i64 i]) (by simp) ⟨_,_,rfl,.inl ⟨rfl,rfl⟩⟩
 simp only [XQ,al]
 obtain ⟨j,os,hQ,hL⟩:=LA t i hs m fs ms hp
 refine aP rfl hL (by simp) ?_
 rcases hQ with ⟨rfl,a,b,c',d,rfl⟩ |⟨rfl,w,a,b,c',d,hw0,rfl⟩ |⟨rfl,a,rfl,hPar⟩
 ·simp only [ay,Uq,X3,true_and]
  exact aH (.exit 0 [eL ms,eL fs,eT t,.int .i64 i]) (by simp) ⟨_,_,rfl,.inl ⟨rfl,rfl⟩⟩
 ·simp only [aS,ay,Uq,X3,true_and]
  exact aH (.exit 1 [.int .i64 w,eL ms,eL fs,eT t,.int .i64 i]) (by simp) ⟨_,_,rfl,.inr ⟨rfl,_,_,rfl,fun h=>absurd h hw0⟩⟩
 simp only [aS,ay,Uq,X3,true_and,UU,VF]
 obtain ⟨w,hw,hF⟩:=yf t [] m.r (by omega)
 refine ab rfl hF (by simp) (by simp) (by simp) (by simp) ?_
 simp only [aM,UU,VF,ah,bc,aR,ae,ag,aG,ak,aj]
 by_cases hw0:w=0
 case neg=>
  rw [if_neg hw0]
  exact aH (.exit 1 [.int .i64 w,eL ms,eL fs,eT t,.int .i64 i]) (by simp) ⟨_,_,rfl,.inr ⟨rfl,_,_,rfl,fun h=>absurd h hw0⟩⟩
 rw [if_pos hw0]
 simp only [aC,aj,if_pos (U9 i),eT,az,XV,aB,if_pos e1]
 refine ab rfl (yh t c.s m.n hs) (by simp [eT,hx',Cl.e]) (by simp) (by simp) (by simp) ?_
 simp only [aM,aF,XL,UU,VF,ah,bc,aR,ae,ag]
 have e8: ∀ms',(8:Int)=0→m.n∉ms∧ms'=ms++[m.n]∧OW t c m:=fun _ h=>by omega
 have e10: ∀ms',(10:Int)=0→m.n∉ms∧ms'=ms++[m.n]∧OW t c m:=fun _ h=>by omega
 cases hfo:(mq t c.s m.n).isSome
 case true=>
  simp only [aE]
  exact aH (.exit 1 [.int .i64 8,eL ms,eL fs,eT t,.int .i64 i]) (by simp [eT]) ⟨_,_,rfl,.inr ⟨rfl,_,_,rfl,e8 _⟩⟩
 simp only [al]
 refine ab rfl (gD fs m.n (by omega)) (by simp) (by simp) (by simp) (by simp) ?_
 simp only [aM,UU,VF,ah,bc,aR,ae,ag,aj]
 by_cases hm1:m.n∈fs
 ·rw [if_pos hm1]
  exact aH (.exit 1 [.int .i64 8,eL ms,eL fs,eT t,.int .i64 i]) (by simp [eT]) ⟨_,_,rfl,.inr ⟨rfl,_,_,rfl,e8 _⟩⟩
 rw [if_neg hm1]
 refine ab rfl (gD ms m.n (by omega)) (by simp) (by simp) (by simp) (by simp) ?_
 simp only [aM,UU,VF,ah,bc,aR,ae,ag,aj]
 by_cases hm2:m.n∈ms
 ·rw [if_pos hm2]
  exact aH (.exit 1 [.int .i64 8,eL ms,eL fs,eT t,.int .i64 i]) (by simp [eT]) ⟨_,_,rfl,.inr ⟨rfl,_,_,rfl,e8 _⟩⟩
 rw [if_neg hm2]
 have e2:((ms.length:Nat):Int)≤100000000:=by omega
 simp only [eL,az,XV,aC,aj,if_pos e2]
 have fin: ∀(hO: ∀x o,methodOf t c.s m.n=some (x,o)→x.r=m.r∧x.p.length=m.p.length) (j:Nat) (os:List D),(j,os)=(1,[D.int .i64 0,eL (ms++[m.n]),eL fs,eT t,.int .i64 i])→
  (j=0∧os=[eL ms,eL fs,eT t,.int .i64 i])∨(j=1∧∃w ms',os=[.int .i64 w,eL ms',eL fs,eT t,.int .i64 i]∧(w=0→m.n∉ms∧ms'=ms++[m.n]∧OW t c m)):=fun hO j os h=>by
  cases h
  exact .inr ⟨rfl,_,_,rfl,fun _=>⟨hm2,rfl,hPar,ux hw hw0,hO⟩⟩
 have hM:=o5 t c.s m.n hs
 cases hmo:methodOf t c.s m.n with
 |none=>
  rw [hmo] at hM
  refine ab rfl hM (by simp [eT,hx',Cl.e]) (by simp) (by simp) (by simp) ?_
  exact aH (.exit 1 [.int .i64 0,eL (ms++[m.n]),eL fs,eT t,.int .i64 i]) (by simp [eL,eT,eS]) ⟨_,_,rfl,fin (fun x o h=>by rw [hmo] at h;cases h) _ _ rfl⟩
 |some r=>
  obtain ⟨x,o⟩:=r
  rw [hmo] at hM
  obtain ⟨cx,hcx,hxm,_,_⟩:=yl hmo
  have hxp:x.p.length≤10:=hs.p cx (fe hcx) x hxm
  refine ab rfl hM (by simp [eT,hx',Cl.e]) (by simp [Sg.e]) (by simp [Sg.e]) (by simp [Sg.e]) ?_
  simp only [aM,aF,Sg.e,XL,UU,VF,ah,bc,aR,ae,ag,aE,aw,ak,aj,az,XV,aG]
  by_cases hr:x.r=m.r
  case neg=>
   rw [if_neg hr]
   exact aH (.exit 1 [.int .i64 10,eL (ms++[m.n]),eL fs,eT t,.int .i64 i]) (by simp [eL,eT,eS]) ⟨_,_,rfl,.inr ⟨rfl,_,_,rfl,e10 _⟩⟩
  rw [if_pos hr]
  by_cases hpl:(x.p.length:Int)=m.p.length
  case neg=>
   rw [if_neg hpl]
   exact aH (.exit 1 [.int .i64 10,eL (ms++[m.n]),eL fs,eT t,.int .i64 i]) (by simp [eL,eT,eS]) ⟨_,_,rfl,.inr ⟨rfl,_,_,rfl,e10 _⟩⟩
  rw [if_pos hpl]
  obtain ⟨j,os,⟨hj,rfl⟩,hL⟩:=LB m.p x.p (by omega) (by omega)
  refine aP rfl hL (by simp) ?_
  match j,hj with
  |0,_=>
   simp only [ay,X3,true_and]
   exact aH (.exit 1 [.int .i64 10,eL (ms++[m.n]),eL fs,eT t,.int .i64 i]) (by simp [eL,eT,eS]) ⟨_,_,rfl,.inr ⟨rfl,_,_,rfl,e10 _⟩⟩
  |1,_=>
   simp only [aS,ay,X3,true_and]
   exact aH (.exit 1 [.int .i64 0,eL (ms++[m.n]),eL fs,eT t,.int .i64 i]) (by simp [eL,eT,eS]) ⟨_,_,rfl,fin (fun x' o' h=>by rw [hmo] at h;cases h;exact ⟨hr,by omega⟩) _ _ rfl⟩
def JE (t:List Cl) (i:Nat) (c:Cl) (fs:List bo) (j:Nat) (os:List D):Prop:=
 (j=0∧∃ms,os=[eL fs,eT t,.int .i64 i,eL ms])∨(j=1∧∃(w:Int) (ms:List bo),w≠0∧os=[.int .i64 w,eL fs,eT t,.int .i64 i,eL ms])∨(j=2∧os=[eL (c.m.map (·.n)),eL fs,eT t,.int .i64 i]∧(∀m∈c.m,OW t c m)∧(c.m.map (·.n)).Nodup)
theorem LF (t:List Cl) (i:Nat) (hi:i<t.length) (hs:dS t) (fs:List bo) (hf:fs.length≤1000): ∃j os,JE t i t[i] fs j os∧Is xZ [.aY (t[i].m.map Sg.e),.int .i64 0,eT t,.int .i64 i,eL fs,.aY []] j os:=by
 have hmem:=UO hi
 have hm20:=hs.m _ hmem
 have:=cX (aY:=t[i].m) (enc:=fun k (ms:List bo)=>[.aY (t[i].m.map Sg.e),.int .i64 k,eT t,.int .i64 i,eL fs,eL ms]) (I:=fun k ms=>ms=(t[i].m.take k).map (·.n)∧k≤20∧((t[i].m.take k).map (·.n)).Nodup∧∀m∈t[i].m.take k,OW t t[i] m)
  (Q:=JE t i t[i] fs) FP (fun _ _=>rfl)
  (fun k ms m hk hI hx=>by
   obtain ⟨rfl,hI2,hI3,hI4⟩:=hI
   have w:=bm hk (by omega)
   have e1:(k:Int)<t[i].m.length:=by omega
   have hx':t[i].m[k]? =some m:=by rw [UB hk,hx]
   have hmp:=hs.p _ hmem m (hx▸UO hk)
   unfold qh
   simp only [ah,bc,aR,ae,ag,az,XV,aB,aj,if_pos e1,aC,if_pos (U9 k)]
   obtain ⟨j,os,hQ,hL⟩:=LC t i hi hs m fs ((t[i].m.take k).map (·.n)) hmp hf (by simp;omega)
   refine aP rfl hL (by simp [hx',Sg.e]) ?_
   rcases hQ with ⟨rfl,rfl⟩ |⟨rfl,w',ms',rfl,hN⟩
   ·simp only [ay,Uq,X3,true_and]
    exact aH (.exit 0 [eL fs,eT t,.int .i64 i,eL ((t[i].m.take k).map (·.n))]) (by simp) (.inl ⟨_,_,rfl,.inl ⟨rfl,_,rfl⟩⟩)
   ·simp only [aS,ay,Uq,X3,true_and,ah,bc,aR,UU,VF,ae,ag,aG,ak,aj]
    by_cases hw0:w'=0
    ·rw [if_pos hw0]
     obtain ⟨q1,rfl,q3⟩:=hN hw0
     have ht:t[i].m.take (k+1)=t[i].m.take k++[m]:=by rw [XU hk,hx]
     refine aH (.next [.aY (t[i].m.map Sg.e),.int .i64 ((k+1:Nat):Int),eT t,.int .i64 i,eL fs,eL ((t[i].m.take k).map (·.n)++[m.n])]) (by simp [w]) (.inr ⟨_,rfl,by rw [ht];simp,by omega,?_,?_⟩)
     ·rw [ht,XW,XR]
      exact ⟨hI3,by simp,fun a ha b hb=>by simp only [Uc,Ud,List.mem_singleton] at hb;subst hb;exact fun e=>q1 (e▸ha)⟩
     ·intro x hx2
      rw [ht] at hx2
      rcases List.mem_append.1 hx2 with h |h
      ·exact hI4 x h
      ·rw [List.mem_singleton.1 h];exact q3
    ·rw [if_neg hw0]
     exact aH (.exit 1 [.int .i64 w',eL fs,eT t,.int .i64 i,eL ms']) (by simp) (.inl ⟨_,_,rfl,.inr (.inl ⟨rfl,_,_,hw0,rfl⟩)⟩))
  (fun ms hI=>by
   obtain ⟨rfl,hI2,hI3,hI4⟩:=hI
   rw [List.take_length] at*
   exact aH (.exit 2 [eL (t[i].m.map (·.n)),eL fs,eT t,.int .i64 i]) (by simp [qh]) ⟨_,_,rfl,.inr (.inr ⟨rfl,rfl,hI4,hI3⟩)⟩) [] ⟨by simp,by omega,by simp,fun m hm=>by simp at hm⟩
 exact this
def Tk (t:List Cl) (i:Nat) (c:Cl) (j:Nat) (os:List D):Prop:=
 (j=0∧∃a b f,os=[a,b,eT t,.int .i64 i,f])∨(j=1∧∃(w:Int) (a b f:D),w≠0∧os=[.int .i64 w,a,b,eT t,.int .i64 i,f])∨(j=2∧∃a b f m,os=[a,b,eT t,.int .i64 i,f,m])∨
  (j=3∧∃(w:Int) (a b:D) (f m:List bo),os=[.int .i64 w,a,b,eT t,.int .i64 i,eL f,eL m]∧(w=0→Sr t c))
theorem OZ (t:List Cl) (i:Nat) (hi:i<t.length) (hs:dS t) (d2 d3:D): ∃j os,Tk t i t[i] j os∧Is Tb [eT t,.int .i64 i,d2,d3] j os:=by
 refine Ge Rn rfl ?_
 have e1:(i:Int)<t.length:=by omega
 have hx':t[i]? =some t[i]:=UB hi
 unfold MW
 simp only [ah,bc,aR,ae,ag,aC,aj,if_pos (U9 i),eT,az,XV,aB,if_pos e1]
 obtain ⟨j,os,hQ,hL⟩:=Lz t i hi hs t[i].f (hs.f _ (UO hi))
 refine aP rfl hL (by simp [eT,hi,Cl.e]) ?_
 rcases hQ with ⟨rfl,fs,rfl⟩ |⟨rfl,w,fs,hw,rfl⟩ |⟨rfl,fs,hfs,rfl,hF⟩
 ·simp only [ay,Uq,X3,true_and]
  exact aH (.exit 0 [d3,d2,eT t,.int .i64 i,eL fs]) (by simp [eT]) ⟨_,_,rfl,.inl ⟨rfl,_,_,_,rfl⟩⟩
 ·simp only [aS,ay,Uq,X3,true_and]
  exact aH (.exit 1 [.int .i64 w,d3,d2,eT t,.int .i64 i,eL fs]) (by simp [eT]) ⟨_,_,rfl,.inr (.inl ⟨rfl,_,_,_,_,hw,rfl⟩)⟩
 simp only [aS,ay,Uq,X3,true_and,ah,bc,aR,UU,VF,ae,ag,aC,aj,if_pos (U9 i),eT,az,XV,aB,if_pos e1]
 obtain ⟨j,os,hQ,hL⟩:=LF t i hi hs fs hfs
 refine aP rfl hL (by simp [eT,hi,Cl.e]) ?_
 rcases hQ with ⟨rfl,ms,rfl⟩ |⟨rfl,w,ms,hw,rfl⟩ |⟨rfl,rfl,hM,hD⟩
 ·simp only [ay,Uq,X3,true_and]
  exact aH (.exit 2 [d3,d2,eT t,.int .i64 i,eL fs,eL ms]) (by simp [eT]) ⟨_,_,rfl,.inr (.inr (.inl ⟨rfl,_,_,_,_,rfl⟩))⟩
 ·simp only [aS,ay,Uq,X3,true_and]
  exact aH (.exit 3 [.int .i64 w,d3,d2,eT t,.int .i64 i,eL fs,eL ms]) (by simp [eT]) ⟨_,_,rfl,.inr (.inr (.inr ⟨rfl,_,_,_,_,_,rfl,fun h=>absurd h hw⟩))⟩
 ·simp only [aS,ay,Uq,X3,true_and]
  exact aH (.exit 3 [.int .i64 0,d3,d2,eT t,.int .i64 i,eL fs,eL (t[i].m.map (·.n))]) (by simp [eT]) ⟨_,_,rfl,.inr (.inr (.inr ⟨rfl,_,_,_,_,_,rfl,fun _=>⟨hF,hM,hD⟩⟩))⟩
def RN (t:List Cl) (j:Nat) (os:List D):Prop:=
 (j=0∧∃(a b c:D) (n:Int),os=[a,b,eT t,.int .i64 n,c])∨(j=1∧∃(a b c:D) (n w:Int),w≠0∧os=[a,b,eT t,.int .i64 n,c,.int .i64 w])∨(j=2∧∃(a b c d:D) (n:Int),os=[a,b,eT t,.int .i64 n,c,d])∨
  (j=3∧∃(a b c d:D) (n w:Int),w≠0∧os=[a,b,eT t,.int .i64 n,c,d,.int .i64 w])∨(j=4∧os.length=5∧∀c∈t,Sr t c)
theorem LG (t:List Cl) (n0:Int) (hs:dS t): ∃j os,RN t j os∧Is lN [eT t,.int .i64 0,eT t,.int .i64 n0,.aY [],.aY []] j os:=by
 have hl:=hs.len
 have:=cX (aY:=t) (enc:=fun k (b:Int×List bo×List bo)=>[eT t,.int .i64 k,eT t,.int .i64 b.1,eL b.2.1,eL b.2.2]) (I:=fun k _=>∀(i:Nat) (h:i<t.length),i<k→Sr t t[i])
  (Q:=RN t) u0 (fun _ _=>rfl)
  (fun k b c hk hI hx=>by
   have w:=bm hk (by omega)
   have e1:(k:Int)<t.length:=by omega
   unfold je
   simp only [ah,bc,aR,ae,ag,eT,az,XV,aB,aj,if_pos e1]
   obtain ⟨j,os,hQ,hL⟩:=OZ t k hk hs (eL b.2.1) (eL b.2.2)
   refine aP rfl hL (by simp [eT]) ?_
   rcases hQ with ⟨rfl,a,b',f,rfl⟩ |⟨rfl,w',a,b',f,hw,rfl⟩ |⟨rfl,a,b',f,m,rfl⟩ |⟨rfl,w',a,b',f,m,rfl,hO⟩
   ·simp only [ay,Uq,X3,true_and]
    exact aH (.exit 0 [a,b',eT t,.int .i64 k,f]) (by simp [eT]) (.inl ⟨_,_,rfl,.inl ⟨rfl,_,_,_,_,rfl⟩⟩)
   ·simp only [aS,ay,Uq,X3,true_and,ah,bc,aR,UU,VF,ae,ag,aG,ak,aj,if_neg hw]
    exact aH (.exit 1 [a,b',eT t,.int .i64 k,f,.int .i64 w']) (by simp [eT]) (.inl ⟨_,_,rfl,.inr (.inl ⟨rfl,_,_,_,_,_,hw,rfl⟩)⟩)
   ·simp only [aS,ay,Uq,X3,true_and]
    exact aH (.exit 2 [a,b',eT t,.int .i64 k,f,m]) (by simp [eT]) (.inl ⟨_,_,rfl,.inr (.inr (.inl ⟨rfl,_,_,_,_,_,rfl⟩))⟩)
   ·simp only [aS,ay,Uq,X3,true_and,ah,bc,aR,UU,VF,ae,ag,aG,ak,aj]
    by_cases hw:w'=0
    ·rw [if_pos hw]
     refine aH (.next [eT t,.int .i64 ((k+1:Nat):Int),eT t,.int .i64 k,eL f,eL m]) (by simp [w,eT]) (.inr ⟨((k:Int),f,m),rfl,fun i h h2=>?_⟩)
     by_cases hik:i=k
     ·subst hik;exact hO hw
     ·exact hI i h (by omega)
    ·rw [if_neg hw]
     exact aH (.exit 3 [a,b',eT t,.int .i64 k,eL f,eL m,.int .i64 w']) (by simp [eT]) (.inl ⟨_,_,rfl,.inr (.inr (.inr (.inl ⟨rfl,_,_,_,_,_,_,hw,rfl⟩)))⟩))
  (fun b hI=>aH (.exit 4 [eT t,eL b.2.2,eL b.2.1,eT t,.int .i64 b.1]) (by simp [je,eT]) ⟨_,_,rfl,.inr (.inr (.inr (.inr ⟨rfl,rfl,fun c hc=>by
   obtain ⟨i,h,rfl⟩:=List.mem_iff_getElem.1 hc
   exact hI i h h⟩)))⟩) (n0,[],[]) (fun i h h2=>by omega)
 exact this
theorem ym (t:List Cl): ∃w a,(w=0→a=0∧FZ t)∧Ok 43 [.c (eT t)] (.agg [.int .i64 w,.int .i64 a]):=by
 obtain ⟨r,⟨w,a,hw,rfl⟩,h⟩:=kQ (l:=[eT t]) (R:=fun r=>∃(w a:Int),(w=0→a=0∧FZ t)∧r= .agg [.int .i64 w,.int .i64 a]) (ds:=[.c (eT t)]) Ro (by simp) (by simp) (by
  unfold MX
  simp only [ah,bc,aR,ae,eT,az,XV,aK,aj]
  by_cases hl:(40:Int)<t.length
  ·rw [if_pos hl]
   exact aH (.ret (.agg [.int .i64 12,.int .i64 40])) (by simp) ⟨_,rfl,_,_,fun h=>by omega,rfl⟩
  rw [if_neg hl]
  have hl':t.length≤40:=by omega
  obtain ⟨j,os,hQ,hL⟩:=Lw t hl'
  refine aP rfl hL (by simp [eT]) ?_
  rcases hQ with ⟨hj,n,rfl⟩ |⟨rfl,⟨n,rfl⟩,hS⟩
  ·match j,hj with
   |0,_=>simp only [ay,Uq,X3,true_and];exact aH (.ret (.agg [.int .i64 5,.int .i64 n])) (by simp) ⟨_,rfl,_,_,fun h=>by omega,rfl⟩
   |1,_=>simp only [aS,ay,Uq,X3,true_and];exact aH (.ret (.agg [.int .i64 8,.int .i64 n])) (by simp) ⟨_,rfl,_,_,fun h=>by omega,rfl⟩
   |2,_=>simp only [aS,ay,Uq,X3,true_and];exact aH (.ret (.agg [.int .i64 12,.int .i64 n])) (by simp) ⟨_,rfl,_,_,fun h=>by omega,rfl⟩
  have hs:=o6 hl' hS
  simp only [aS,ay,Uq,X3,true_and,UU,VF]
  obtain ⟨j,os,hQ,hL⟩:=Lx t n hl'
  refine aP rfl hL (by simp [eT]) ?_
  rcases hQ with ⟨hj,n,rfl⟩ |⟨rfl,⟨n,rfl⟩,hLn⟩
  ·match j,hj with
   |0,_=>simp only [ay,Uq,X3,true_and];exact aH (.ret (.agg [.int .i64 6,.int .i64 n])) (by simp) ⟨_,rfl,_,_,fun h=>by omega,rfl⟩
   |1,_=>simp only [aS,ay,Uq,X3,true_and];exact aH (.ret (.agg [.int .i64 9,.int .i64 n])) (by simp) ⟨_,rfl,_,_,fun h=>by omega,rfl⟩
  simp only [aS,ay,Uq,X3,true_and,UU,VF]
  obtain ⟨j,os,hQ,hL⟩:=LG t n hs
  refine aP rfl hL (by simp [eT]) ?_
  rcases hQ with ⟨rfl,a,b,c,n,rfl⟩ |⟨rfl,a,b,c,n,w,hw,rfl⟩ |⟨rfl,a,b,c,d,n,rfl⟩ |⟨rfl,a,b,c,d,n,w,hw,rfl⟩ |⟨rfl,hos,hO⟩
  ·simp only [ay,Uq,X3,true_and];exact aH (.ret (.agg [.int .i64 5,.int .i64 n])) (by simp) ⟨_,rfl,_,_,fun h=>by omega,rfl⟩
  ·simp only [aS,ay,Uq,X3,true_and];exact aH (.ret (.agg [.int .i64 w,.int .i64 n])) (by simp) ⟨_,rfl,_,_,fun h=>absurd h hw,rfl⟩
  ·simp only [aS,ay,Uq,X3,true_and];exact aH (.ret (.agg [.int .i64 5,.int .i64 n])) (by simp) ⟨_,rfl,_,_,fun h=>by omega,rfl⟩
  ·simp only [aS,ay,Uq,X3,true_and];exact aH (.ret (.agg [.int .i64 w,.int .i64 n])) (by simp) ⟨_,rfl,_,_,fun h=>absurd h hw,rfl⟩
  ·match os,hos with
   |[_,_,_,_,_],_=>simp only [aS,ay,Uq,X3,true_and];exact aH (.ret (.agg [.int .i64 0,.int .i64 0])) (by simp) ⟨_,rfl,_,_,fun _=>⟨rfl,hl',hS,hLn,hO⟩,rfl⟩)
 exact ⟨w,a,hw,h⟩
noncomputable def gR (t:List Cl):Int:=XS (ym t)
noncomputable def O0 (t:List Cl):Int:=XS (XT (ym t))
theorem uy {t:List Cl} (h:gR t=0):O0 t=0∧FZ t:=(XT (XT (ym t))).1 h
theorem yn (t:List Cl):Ok 43 [.c (eT t)] (.agg [.int .i64 (gR t),.int .i64 (O0 t)]):=(XT (XT (ym t))).2
noncomputable def cZ (t:List Cl) (s u:bo):Bool:=decide (gR t=0)&&(typed t s&&(typed t u&&(decide (s=u)||decide (u∈cg t s))))
theorem kD (t:List Cl) (s u:bo):Ok 40 [.c (eT t),.c (.str s),.c (.str u)] (.c (.bool (cZ t s u))):=by
 refine nz (l:=[eT t,.str s,.str u]) QV (by simp) (by simp) ?_
 unfold Mt cZ
 refine ab rfl (yn t) (by simp) (by simp) (by simp) (by simp) ?_
 simp only [aM,UU,VF,ah,bc,aR,ae,ag,aL,aj]
 by_cases hw:gR t=0
 case neg=>simp [hw]
 obtain ⟨ha,hT⟩:=uy hw
 have hl:=hT.len
 simp only [if_pos hw,if_pos ha,hw,decide_true,VZ]
 refine ab rfl (rL t s (by omega)) (by simp) (by simp) (by simp) (by simp) ?_
 simp only [aM,UU,VF,ah,bc,aR,ae,ag,aD]
 cases h1:typed t s
 ·simp
 simp only [XQ,al,VZ]
 refine ab rfl (rL t u (by omega)) (by simp) (by simp) (by simp) (by simp) ?_
 simp only [aM,UU,VF,ah,bc,aR,ae,ag,aD]
 cases h2:typed t u
 ·simp
 simp only [XQ,al,VZ,au,aj]
 by_cases h3:s=u
 ·simp [h3]
 simp only [if_neg h3,decide_false,Bool.false_or]
 refine ab rfl (qm t s (by omega)) (by simp) (by simp) (by simp) (by simp) ?_
 refine ab rfl (gD (cg t s) u (by rw [cQ];have:=dH t s;simp;omega)) (by simp) (by simp) (by simp) (by simp) ?_
 simp [h3]
theorem fW {t:List Cl} (hw:gR t=0) {s u:bo}:cZ t s u=true↔typed t s=true∧typed t u=true∧(s=u∨u∈cg t s):=by
 unfold cZ
 simp [hw]
theorem uz {t:List Cl} (hw:gR t=0) {s:bo} (h:typed t s=true):cZ t s s=true:=(fW hw).2 ⟨h,h,.inl rfl⟩
theorem uA (t:List Cl): ∀(n N:Nat) (came came0:List bo) (s:bo),n≤N→(∀x∈came0,x∈came)→cm t n came s<+:cm t N came0 s
 |0,N,came,came0,s,_,_=>by simp [cm]
 |n+1,0,came,came0,s,h,_=>by omega
 |n+1,N+1,came,came0,s,h,hs=>by
  unfold cm
  cases hc:cls t s with
  |none=>simp
  |some c=>
   by_cases hm:s∈came
   ·simp [hm]
   ·have hm0:s∉came0:=fun h=>hm (hs s h)
    simp only [if_neg hm,if_neg hm0]
    exact (List.prefix_cons_inj c).2 (uA t n N (came++[s]) (came0++[s]) c.s (by omega) fun x hx=>by
     rcases List.mem_append.1 hx with h |h
     ·exact V5 _ (hs x h)
     ·exact V4 _ h)
inductive Reach (t:List Cl):bo→Cl→Prop
 |here (s:bo) (c:Cl) (h:cls t s=some c):Reach t s c
 |on (s:bo) (c d:Cl) (h:cls t s=some c) (hr:Reach t c.s d):Reach t s d
theorem AZ {t:List Cl} {s:bo} {c d:Cl} (h:Reach t s c) (k:Reach t c.n d):Reach t s d:=by
 induction h with
 |here s c h=>
  rw [(iX h).2] at k
  exact k
 |on s c e h hr ih=>exact .on s c d h (ih k)
theorem o7 (t:List Cl): ∀(n:Nat) (came:List bo) (s:bo),∀c∈cm t n came s,Reach t s c
 |0,came,s=>by simp [cm]
 |n+1,came,s=>by
  unfold cm
  cases h:cls t s with
  |none=>simp
  |some c=>
   by_cases hm:s∈came
   ·simp [hm]
   ·simp only [if_neg hm,List.mem_cons]
    rintro x (rfl |hx)
    ·exact .here s x h
    ·exact .on s c x h (o7 t n _ _ x hx)
theorem mK (t:List Cl): ∀(n:Nat) (came:List bo) (s:bo),t.length+1≤n+came.length→came.Nodup→(∀x∈came,(cls t x).isSome=true)→
 ∀(S:List bo),S=came++(cm t n came s).map (·.n)→(∀x∈came,∀c,cls t x=some c→c.s∈came∨c.s=s∨cls t c.s=none)→
 (∀x∈S,∀c,cls t x=some c→c.s∈S∨cls t c.s=none)∧(s∈S∨cls t s=none)
 |0,came,s,hn,h1,h2,S,hS,hc=>by
  have:=oZ h1 h2
  omega
 |n+1,came,s,hn,h1,h2,S,hS,hc=>by
  unfold cm at hS
  cases h:cls t s with
  |none=>
   rw [h] at hS
   have hS:S=came:=by simpa using hS
   subst hS
   refine ⟨fun x hx c hcx=>?_,.inr rfl⟩
   rcases hc x hx c hcx with q |rfl |q
   ·exact .inl q
   ·exact .inr h
   ·exact .inr q
  |some c=>
   rw [h] at hS
   by_cases hm:s∈came
   ·have hS:S=came:=by simpa [hm] using hS
    subst hS
    refine ⟨fun x hx c hcx=>?_,.inl hm⟩
    rcases hc x hx c hcx with q |rfl |q
    ·exact .inl q
    ·exact .inl hm
    ·exact .inr q
   ·simp only [if_neg hm] at hS
    have hS':S=(came++[s])++(cm t n (came++[s]) c.s).map (·.n):=by rw [hS];simp [(iX h).2]
    obtain ⟨q1,q2⟩:=mK t n (came++[s]) c.s (by simp;omega) (by
     rw [XR]
     exact ⟨h1,by simp,fun a ha b hb=>by rw [List.mem_singleton.1 hb];exact fun e=>hm (e▸ha)⟩) (fun x hx=>by
     rcases List.mem_append.1 hx with hx |hx
     ·exact h2 x hx
     ·rw [List.mem_singleton.1 hx,h];rfl) S hS' (fun x hx d hd=>by
     rcases List.mem_append.1 hx with hx |hx
     ·rcases hc x hx d hd with q |q |q
      ·exact .inl (V5 _ q)
      ·exact .inl (V4 _ (by simp [q]))
      ·exact .inr (.inr q)
     ·rw [List.mem_singleton.1 hx,h] at hd
      cases hd
      exact .inr (.inl rfl))
    exact ⟨q1,.inl (by rw [hS'];simp)⟩
theorem A0 {t:List Cl} {s:bo} {c:Cl} (h:Reach t s c):c.n∈cg t s:=by
 rw [cQ]
 obtain ⟨q1,q2⟩:=mK t (t.length+1) [] s (by simp) (by simp) (by simp) _ (VF _).symm (by simp)
 have key: ∀{u:bo} {d:Cl},Reach t u d→u∈(chain t s).map (·.n)→d.n∈(chain t s).map (·.n):=by
  intro u d hr
  induction hr with
  |here u d hd=>intro hu;rw [(iX hd).2];exact hu
  |on u d e hd hr ih=>
   intro hu
   refine ih ?_
   rcases q1 u hu d hd with q |q
   ·exact q
   ·cases hr with
    |here _ _ hx=>rw [q] at hx;cases hx
    |on _ _ _ hx _=>rw [q] at hx;cases hx
 refine key h ?_
 rcases q2 with q |q
 ·exact q
 ·cases h with
  |here _ _ hx=>rw [q] at hx;cases hx
  |on _ _ _ hx _=>rw [q] at hx;cases hx
theorem kE {t:List Cl} {s u:bo} (h:u∈cg t s): ∃c,c.n=u∧Reach t s c∧cls t u=some c:=by
 rw [cQ] at h
 obtain ⟨c,hc,rfl⟩:=List.mem_map.1 h
 exact ⟨c,rfl,o7 t _ _ _ c hc,kB t _ _ _ c hc⟩
theorem yo {t:List Cl} {s u v:bo} (h:u∈cg t s) (k:v∈cg t u):v∈cg t s:=by
 obtain ⟨c,rfl,h1,_⟩:=kE h
 obtain ⟨d,rfl,h2,_⟩:=kE k
 exact A0 (AZ h1 h2)
theorem F0 {t:List Cl} (hw:gR t=0) {s u v:bo} (h:cZ t s u=true) (k:cZ t u v=true):cZ t s v=true:=by
 obtain ⟨h1,h2,h3⟩:=(fW hw).1 h
 obtain ⟨k1,k2,k3⟩:=(fW hw).1 k
 refine (fW hw).2 ⟨h1,k2,?_⟩
 rcases h3 with rfl |h3
 ·exact k3
 ·rcases k3 with rfl |k3
  ·exact .inr h3
  ·exact .inr (yo h3 k3)
noncomputable def uB (t:List Cl) (s u:bo):Option bo:=
 if gR t=0∧typed t s=true∧typed t u=true then (if s=u then some s else (cg t s).find? fun x=>decide (x∈cg t u)) else none
def iA (o:Option bo):DV:=match o with |some x=>.gf [.c (.str x),.c (.bool true)] |none=>.gf [.c (.str []),.c (.bool false)]
theorem LH (t:List Cl) (s u:bo):Ok 119 [.c (eT t),.c (.str s),.c (.str u)] (iA (uB t s u)):=by
 refine nz (l:=[eT t,.str s,.str u]) Oi (by simp) (by simp) ?_
 unfold IQ uB
 refine ab rfl (yn t) (by simp) (by simp) (by simp) (by simp) ?_
 simp only [aM,UU,VF,ah,bc,aR,ae,ag,aL,aj]
 by_cases hw:gR t=0
 case neg=>simp [hw,iA]
 obtain ⟨ha,hT⟩:=uy hw
 have hl:=hT.len
 simp only [if_pos hw,if_pos ha]
 refine ab rfl (rL t s (by omega)) (by simp) (by simp) (by simp) (by simp) ?_
 simp only [aM,UU,VF,ah,bc,aR,ae,ag,aD]
 cases h1:typed t s
 ·simp [iA]
 simp only [XQ,al]
 refine ab rfl (rL t u (by omega)) (by simp) (by simp) (by simp) (by simp) ?_
 simp only [aM,UU,VF,ah,bc,aR,ae,ag,aD]
 cases h2:typed t u
 ·simp [iA]
 simp only [XQ,al,au,aj]
 by_cases h3:s=u
 ·simp [h3,hw,iA]
 simp only [if_neg h3,hw,true_and,and_self,if_true]
 refine ab rfl (qm t s (by omega)) (by simp) (by simp) (by simp) (by simp) ?_
 have hsl:(cg t s).length≤41:=by rw [cQ];have:=dH t s;simp;omega
 have hul:(cg t u).length≤41:=by rw [cQ];have:=dH t u;simp;omega
 generalize cg t s=l at*
 have hL:=FV (aY:=l) (enc:=fun k (_:Unit)=>[eL l,.int .i64 k,.str u,eT t]) (I:=fun _ _=>True) (step:=fun k x _=>if x∈cg t u then .inl (0,[eL l,eT t,.str x,.str u]) else .inr ()) (fin:=fun _=>(1,[eL l,eT t,.str u])) IP (fun _ _=>rfl)
  (fun k b x hk _ hx=>by
   have w:=bm hk (by omega)
   have e1:(k:Int)<l.length:=by omega
   have hx':l[k]? =some x:=by rw [UB hk,hx]
   unfold t3
   simp only [ah,bc,aR,ae,ag,eL,az,XV,aB,aj,if_pos e1,aC,if_pos (U9 k)]
   refine ab rfl (qm t u (by omega)) (by simp) (by simp) (by simp) (by simp) ?_
   refine ab rfl (gD (cg t u) x (by omega)) (by simp [hx',eS]) (by simp) (by simp) (by simp) ?_
   by_cases hm:x∈cg t u<;>simp [hm,eL,hx',eS,w])
  (fun b _=>by simp [t3,eL]) () trivial
 have key: ∀(l':List bo) (k:Nat),gr (fun k x (_:Unit)=>if x∈cg t u then .inl (0,[eL l,eT t,.str x,.str u]) else .inr ()) (fun _=>((1:Nat),[eL l,eT t,D.str u])) l' k ()=match l'.find? (fun x=>decide (x∈cg t u)) with |some x=>(0,[eL l,eT t,.str x,.str u]) |none=>(1,[eL l,eT t,.str u]):=by
  intro l'
  induction l' with
  |nil=>intro k;rfl
  |cons x l' ih=>
   intro k
   unfold gr
   by_cases hm:x∈cg t u
   ·simp [hm]
   ·simp [hm,ih (k+1)]
 rw [key] at hL
 refine aP rfl hL (by simp [eT]) ?_
 cases hf:l.find? (fun x=>decide (x∈cg t u)) with
 |none=>simp [iA]
 |some x=>simp [iA]
theorem JF {t:List Cl} {s u x:bo} (h:uB t s u=some x):gR t=0∧cZ t s x=true∧cZ t u x=true:=by
 unfold uB at h
 split at h
 ·rename_i hc
  obtain ⟨hw,h1,h2⟩:=hc
  refine ⟨hw,?_⟩
  by_cases hsu:s=u
  ·rw [if_pos hsu] at h
   cases h
   subst hsu
   exact ⟨uz hw h1,uz hw h1⟩
  ·rw [if_neg hsu] at h
   have q1:=XN h
   have q2:x∈cg t u:=by simpa using XO h
   obtain ⟨c,rfl,_,hc⟩:=kE q1
   have hx:typed t c.n=true:=by unfold typed;rw [hc];rfl
   exact ⟨(fW hw).2 ⟨h1,hx,.inr q1⟩,(fW hw).2 ⟨h2,hx,.inr q2⟩⟩
 ·cases h
theorem rj {l:List Sg} (h:(l.map (·.n)).Nodup) {a b:Sg} (ha:a∈l) (hb:b∈l) (e:a.n=b.n):a=b:=by
 induction l with
 |nil=>cases ha
 |cons x l ih=>
  simp only [Uc,List.nodup_cons] at h
  rcases List.mem_cons.1 ha with e1 |h1
  ·rcases List.mem_cons.1 hb with e2 |h2
   ·rw [e1,e2]
   ·exact absurd (List.mem_map.2 ⟨b,h2,by rw [←e,e1]⟩) h.1
  ·rcases List.mem_cons.1 hb with e2 |h2
   ·exact absurd (List.mem_map.2 ⟨a,h1,by rw [e,e2]⟩) h.1
   ·exact ih h.2 h1 h2
def firstM (l:List Cl) (q:bo):Option (Sg×bo):=l.findSome? fun c=>(dT c q).map fun m=>(m,c.n)
theorem kF {t:List Cl} (hT:FZ t): ∀(n:Nat) (came:List bo) (s:bo),n≤t.length+1→∀c∈cm t n came s,∀m∈c.m,∃x o,firstM (cm t n came s) m.n=some (x,o)∧x.p.length=m.p.length
 |0,came,s,_=>by simp [cm]
 |n+1,came,s,hn=>by
  unfold cm
  cases h:cls t s with
  |none=>simp
  |some c=>
   by_cases hm:s∈came
   ·simp [hm]
   ·simp only [if_neg hm]
    have hO:=hT.ow c (iX h).1
    intro d hd m hmd
    unfold firstM
    simp only [List.findSome?_cons]
    cases hmi:dT c m.n with
    |some x=>
     have hx:x∈c.m∧x.n=m.n:=by unfold dT at hmi;exact ⟨XN hmi,by simpa using XO hmi⟩
     refine ⟨x,c.n,rfl,?_⟩
     rcases List.mem_cons.1 hd with rfl |hd
     ·rw [rj hO.d hx.1 hmd hx.2]
     ·obtain ⟨y,o,q1,q2⟩:=kF hT n (came++[s]) c.s (by omega) d hd m hmd
      obtain ⟨r,hr⟩:=uA t n (t.length+1) (came++[s]) [] c.s (by omega) (by simp)
      have:methodOf t c.s x.n=some (y,o):=by
       unfold methodOf chain
       rw [←hr,List.findSome?_append,hx.2]
       unfold firstM at q1
       rw [q1]
       rfl
      rw [←(hO.m x hx.1).o y o this |>.2,q2]
    |none=>
     have hd':d∈cm t n (came++[s]) c.s:=by
      rcases List.mem_cons.1 hd with rfl |hd
      ·exfalso
       unfold dT at hmi
       simp at hmi
       exact hmi m hmd rfl
      ·exact hd
     obtain ⟨y,o,q1,q2⟩:=kF hT n (came++[s]) c.s (by omega) d hd' m hmd
     exact ⟨y,o,q1,q2⟩
theorem CZ {t:List Cl} (hT:FZ t) {s u:bo} (h:hasB t s u=true) {m:Sg} (hm:m∈methodsOf t u): ∃x o,methodOf t s m.n=some (x,o)∧x.p.length=m.p.length:=by
 unfold hasB at h
 simp only [Bool.and_eq_true,List.all_eq_true,decide_eq_true_eq] at h
 have hin:=h.2.2 ⟨m.n,m.p.length⟩ (by unfold dp;exact V4 _ (List.mem_map.2 ⟨m,hm,rfl⟩))
 unfold dp at hin
 rcases List.mem_append.1 hin with hin |hin
 ·obtain ⟨v,_,hv⟩:=List.mem_map.1 hin
  have:=congrArg Mb.k hv
  simp only at this
  omega
 ·obtain ⟨m',hm',e⟩:=List.mem_map.1 hin
  obtain ⟨c,hc,hmc⟩:=qX hm'
  obtain ⟨x,o,q1,q2⟩:=kF hT (t.length+1) [] s (Nat.le_refl _) c hc m' hmc
  have e1:m'.n=m.n:=congrArg Mb.n e
  have e2:=congrArg Mb.k e
  simp only at e2
  rw [e1] at q1
  exact ⟨x,o,q1,by omega⟩
end
end Go.Proofs.Sai
