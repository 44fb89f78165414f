/- Part LA of the proof of VerifyDead: texts of the interpreter and what it shows, under short names. No condition. -/
import Derived.Test.YtgfhbomiljhjpaaGreatDoorK0
import Derived.Test.YtgfhbomiljhjpaaGreatDoorK1
import Derived.Test.YtgfhbomiljhjpaaGreatDoorK2
import Derived.Test.YtgfhbomiljhjpaaGreatDoorK3
import Derived.Test.YtgfhbomiljhjpaaGreatDoorK4
import Derived.Test.YtgfhbomiljhjpaaGreatDoorK5
import Derived.IntWalk
set_option linter.unusedVariables false
set_option linter.unusedSimpArgs false
set_option linter.unusedSectionVars false
open Bool renaming not_true→Zy,not_false→ZN,true_and→XF
open Classical renaming choose→ZA,choose_spec→ZB
open Go.IntWalk renaming i64_in→WJ
open Int renaming natCast_nonneg→WN,toNat_natCast→Wt
open List renaming getElem_mem→Wv,getElem?_eq_getElem→Wj,find?_eq_some_iff_getElem→Zu,mem_cons_of_mem→V3,mem_cons_self→V2,length_cons→V8,mem_of_find?_eq_some→Zv,find?_some→Zw,cons_append→WB,nil_append→Xl,append_nil→XZ,nodup_append→Zz,take_succ_eq_append_getElem→ZC,length_map→ZD,map_append→ZE,ext_getElem?→ZF,getElem?_modify→ZG,getElem?_map→VV,getElem?_set→ZH,map_cons→VT,map_nil→VU,length_set→ZI,getElem?_eq_none→VH,take_of_length_le→ZJ,length_reverse→ZK,length_nil→ZL,foldl_cons→ZM,mem_append_right→XK
open Option renaming isSome_some→Zx,map_some→Xt,getD_some→X3
open Option.some renaming inj→VF
namespace Go.Proofs.Sai
section
open Go
theorem K2 {P:Program} (h:(P.funcs.toList.any fun f=>f.name== "runtime.NumGoroutine")=false):cB P:=by
 intro f fn hf
 cases hn:fn.name== "runtime.NumGoroutine" with
 |false=>rfl
 |true=>
  have hm:fn∈P.funcs.toList:=Array.mem_toList_iff.2 (Array.mem_of_getElem? hf)
  rw [List.any_eq_false] at h
  exact absurd hn (h fn hm)
theorem jF:cB Tryz.prog:=K2 (by kernel_rfl)
theorem HA:bs.length=Tryz.prog.globals.size:=by kernel_rfl
theorem K3:0<Tryz.prog.globals.size:=by rw [←HA];show 0<6;omega
abbrev bn:=List Nat
structure Vr where
 n:bn
 t:bn
structure Sg where
 n:bn
 p:List Vr
 r:bn
structure Cl where
 n:bn
 s:bn
 f:List Vr
 m:List Sg
structure Si where
 w:Int
 f:bn
 t:bn
structure In where
 o:Int
 a:Int
 b:Int
 c:Int
structure Fu where
 c:bn
 n:bn
 l:List bn
 k:List In
structure Mo where
 t:List Cl
 s:List Si
 p:List bn
 f:List Fu
def eS (s:bn):List D:=[.str s]
def Vr.e (v:Vr):List D:=[.str v.n,.str v.t]
def Sg.e (m:Sg):List D:=[.str m.n,.aF (m.p.map Vr.e),.str m.r]
def Cl.e (c:Cl):List D:=[.str c.n,.str c.s,.aF (c.f.map Vr.e),.aF (c.m.map Sg.e)]
def Si.e (s:Si):List D:=[.int .i64 s.w,.str s.f,.str s.t]
def In.e (x:In):List D:=[.int .i64 x.o,.int .i64 x.a,.int .i64 x.b,.int .i64 x.c]
def Fu.e (f:Fu):List D:=[.str f.c,.str f.n,.aF (f.l.map eS),.aF (f.k.map In.e)]
def Mo.e (m:Mo):List D:=[.aF (m.t.map Cl.e),.aF (m.s.map Si.e),.aF (m.p.map eS),.aF (m.f.map Fu.e)]
def eT (t:List Cl):D:=.aF (t.map Cl.e)
def eL (l:List bn):D:=.aF (l.map eS)
@[simp] theorem Tu {x:bn}:aW [.str] (eS x)=True:=by simp [eS]
@[simp] theorem Tv {x:Vr}:aW [.str,.str] x.e=True:=by simp [Vr.e]
@[simp] theorem Tw {x:Sg}:aW [.str,.aF [.str,.str],.str] x.e=True:=by simp [Sg.e]
@[simp] theorem Tx {x:Cl}:aW [.str,.str,.aF [.str,.str],.aF [.str,.aF [.str,.str],.str]] x.e=True:=by simp [Cl.e]
@[simp] theorem RA {x:Si}:aW [.int .i64,.str,.str] x.e=True:=by simp [Si.e]
@[simp] theorem RC {x:In}:aW [.int .i64,.int .i64,.int .i64,.int .i64] x.e=True:=by simp [In.e]
@[simp] theorem Hh {x:Fu}:aW [.str,.str,.aF [.str],.aF [.int .i64,.int .i64,.int .i64,.int .i64]] x.e=True:=by simp [Fu.e]
@[simp] theorem Tz {l:List bn}:bx tL (eL l)=True:=by simp [tL,eL,eS]
@[simp] theorem TA {l:List Vr}:bx tV (.aF (l.map Vr.e))=True:=by simp [tV,Vr.e]
@[simp] theorem TB {l:List Sg}:bx tM (.aF (l.map Sg.e))=True:=by simp [tM,Sg.e,tV,Vr.e]
@[simp] theorem TC {l:List Cl}:bx tT (eT l)=True:=by simp [tT,tM,tV,eT,Cl.e,Sg.e,Vr.e]
theorem bj {k n:Nat} (h:k<n) (hn:n≤9223372036854775807):IntKind.i64.wrap ((k:Int)+1)=((k+1:Nat):Int):=by rw [WJ _ (by omega)];omega
abbrev Ok (f:FuncId) (ds:List DV) (r:DV):Prop:=BL Tryz.prog bs f ds r
abbrev Is (L:LD) (ins:List D) (i:Nat) (outs:List D):Prop:=lg Tryz.prog bs L ins i outs
abbrev W (fids:List lP) (lds:List LD):=LW Tryz.prog bs fids lds
section
variable {fids:List lP} {lds:List LD} {f:FuncId} {args:List AV} {t:PT} {l:List D} {ds:List DV}
theorem lL {r:DV} (hc:bt Tryz.prog bs 100000 f args fids lds t l.length=true) (ha: @bI (bf l bs) args=some ds) (hta: @eW (bf l bs) args) (hw:W fids lds t l fun o=>o= .ret r):Ok f ds r:=Ss jF HA K3 hc ha hta hw
theorem xU {R:DV→Prop} (hc:bt Tryz.prog bs 100000 f args fids lds t l.length=true) (ha: @bI (bf l bs) args=some ds) (hta: @eW (bf l bs) args) (hw:W fids lds t l fun o=>∃r,o= .ret r∧R r): ∃r,R r∧Ok f ds r:=Su jF HA K3 hc ha hta hw
variable {L:LD} {α β:Type}
theorem HB {ins:List D} {Q:Nat→List D→Prop} (hc:cD Tryz.prog 100000 L fids lds t=true) (hl:ins.length=L.k) (hw:W fids lds t ins fun o=>∃i outs,o= .exit i outs∧Q i outs): ∃i outs,Q i outs∧Is L ins i outs:=M0 jF HA K3 hc hl hw
theorem vO {ins:List D} {i:Nat} {outs:List D} (hc:cD Tryz.prog 100000 L fids lds t=true) (hl:ins.length=L.k) (hw:W fids lds t ins fun o=>o= .exit i outs):Is L ins i outs:=M1 jF HA K3 hc hl hw
theorem LY {enc:α→List D} {I:α→Prop} {μ:α→Nat} {Q:α→Nat→List D→Prop} (hc:bg Tryz.prog 100000 L fids lds t=true)
 (h: ∀a,I a→(enc a).length=L.k∧W fids lds t (enc a) fun o=>(∃i os,o= .exit i os∧Q a i os)∨∃a',o= .next (enc a')∧I a'∧μ a'<μ a∧∀i os,Q a' i os→Q a i os) (a:α) (ha:I a): ∃i os,Q a i os∧Is L (enc a) i os:=zf jF HA K3 hc h a ha
theorem Hi {aF:List α} {enc:Nat→β→List D} {I:Nat→β→Prop} {step:Nat→α→β→(Nat×List D) ⊕ β} {fin:β→Nat×List D} (hc:bg Tryz.prog 100000 L fids lds t=true) (hl: ∀k b,(enc k b).length=L.k)
 (h1: ∀k b x (h:k<aF.length),I k b→aF[k]=x→W fids lds t (enc k b) fun o=>match step k x b with | .inl r=>o= .exit r.1 r.2 | .inr b'=>o= .next (enc (k+1) b')∧I (k+1) b')
 (h2: ∀b,I aF.length b→W fids lds t (enc aF.length b) fun o=>o= .exit (fin b).1 (fin b).2) (b:β) (hb:I 0 b):Is L (enc 0 b) (gQ step fin aF 0 b).1 (gQ step fin aF 0 b).2:=JS jF HA K3 hc hl h1 h2 b hb
theorem db {aF:List α} {enc:Nat→β→List D} {I:Nat→β→Prop} {Q:Nat→List D→Prop} (hc:bg Tryz.prog 100000 L fids lds t=true) (hl: ∀k b,(enc k b).length=L.k)
 (h1: ∀k b x (h:k<aF.length),I k b→aF[k]=x→W fids lds t (enc k b) fun o=>(∃i os,o= .exit i os∧Q i os)∨∃b',o= .next (enc (k+1) b')∧I (k+1) b')
 (h2: ∀b,I aF.length b→W fids lds t (enc aF.length b) fun o=>∃i os,o= .exit i os∧Q i os) (b:β) (hb:I 0 b): ∃i os,Q i os∧Is L (enc 0 b) i os:=B2 jF HA K3 hc hl h1 h2 b hb
end
def idxOf (l:List bn) (s:bn):Int:=match l.findIdx? (fun x=>s==x) with |some j=>j |none=> -1
theorem M4 (l:List bn) (s:bn) (hl:l.length≤9223372036854775807):Is zh [eL l,.str s,.int .i64 0] (if s∈l then 0 else 1) (if s∈l then [.int .i64 (idxOf l s)] else []):=by
 have h:=Hi (aF:=l) (enc:=fun k (_:Unit)=>[eL l,.str s,.int .i64 k]) (I:=fun _ _=>True) (step:=fun k x _=>if s==x then .inl (0,[.int .i64 k]) else .inr ()) (fin:=fun _=>(1,[])) G2 (fun _ _=>rfl)
  (fun k b x hk _ hx=>by
   have:=bj hk hl
   simp [rq,eL,eS,hx,hk,this]
   by_cases h:s=x<;>simp [h])
  (fun b _=>by simp [rq,eL]) () trivial
 have key:=lh (fun x=>s==x) (fun j=>(0,[.int .i64 j])) (1,[]) l 0
 rw [key] at h
 cases hj:l.findIdx? (fun x=>s==x) with
 |none=>
  have:s∉l:=fun hm=>by simp at hj;exact hj s hm rfl
  rw [hj] at h
  simpa [this] using h
 |some j=>
  have:s∈l:=by
   obtain ⟨h1,h2,_⟩:=List.findIdx?_eq_some_iff_getElem.1 hj
   rw [beq_iff_eq.1 h2];exact Wv h1
  rw [hj] at h
  simpa [this,idxOf,hj] using h
theorem Cd (l:List bn) (s:bn):0≤idxOf l s↔s∈l:=by
 unfold idxOf
 cases h:l.findIdx? (fun x=>s==x) with
 |none=>
  have:s∉l:=fun hm=>by simp at h;exact h s hm rfl
  simp [this]
 |some j=>
  have:s∈l:=by
   obtain ⟨h1,h2,_⟩:=List.findIdx?_eq_some_iff_getElem.1 h
   rw [beq_iff_eq.1 h2];exact Wv h1
  simp [this]
theorem K4 {l:List bn} {s:bn} (h:s∉l):idxOf l s= -1:=by
 unfold idxOf
 cases hj:l.findIdx? (fun x=>s==x) with
 |none=>rfl
 |some j=>exact absurd ((Cd l s).1 (by simp [idxOf,hj])) h
theorem M5 (l:List bn) (s:bn) (hl:l.length≤9223372036854775807):Ok 103 [.c (eL l),.c (.str s)] (.c (.int .i64 (idxOf l s))):=by
 refine lL (l:=[eL l,.str s]) P4 (by simp) (by simp) ?_
 unfold Kg
 refine ar rfl (M4 l s hl) (by simp) ?_
 by_cases h:s∈l<;>simp [h,K4]
theorem gZ (l:List bn) (s:bn) (hl:l.length≤9223372036854775807):Ok 60 [.c (eL l),.c (.str s)] (.c (.bool (decide (s∈l)))):=by
 refine lL (l:=[eL l,.str s]) SK (by simp) (by simp) ?_
 unfold Om
 refine ai rfl (M5 l s hl) (by simp) (by simp) (by simp) (by simp) ?_
 simp [Cd]
end
section
open Go
def cls (t:List Cl) (s:bn):Option Cl:=t.find? fun c=>c.n==s
def fh (t:List Cl) (s:bn):Option Nat:=t.findIdx? fun c=>c.n==s
theorem M6 (t:List Cl) (s:bn) (hl:t.length≤9223372036854775807):Is zi [eT t,.int .i64 0,.str s] (match fh t s with |some _=>0 |none=>1) (match fh t s with |some i=>[.int .i64 i,.str s] |none=>[.str s]):=by
 have h:=Hi (aF:=t) (enc:=fun k (_:Unit)=>[eT t,.int .i64 k,.str s]) (I:=fun _ _=>True) (step:=fun k x _=>if x.n==s then .inl (0,[.int .i64 k,.str s]) else .inr ()) (fin:=fun _=>(1,[.str s])) G3 (fun _ _=>rfl)
  (fun k b x hk _ hx=>by
   have:=bj hk hl
   simp [ru,eT,Cl.e,hx,hk,this]
   by_cases h:x.n=s<;>simp [h])
  (fun b _=>by simp [ru,eT]) () trivial
 have key:=lh (fun x:Cl=>x.n==s) (fun j=>(0,[.int .i64 j,.str s])) (1,[.str s]) t 0
 rw [key] at h
 unfold fh
 cases hj:t.findIdx? (fun x=>x.n==s) with
 |none=>rw [hj] at h;simpa using h
 |some j=>rw [hj] at h;simpa using h
theorem gR {t:List Cl} {s:bn} {i:Nat} (h:fh t s=some i): ∃hi:i<t.length,t[i].n=s:=by
 obtain ⟨h1,h2,_⟩:=List.findIdx?_eq_some_iff_getElem.1 h
 exact ⟨h1,beq_iff_eq.1 h2⟩
theorem ki {t:List Cl} {s:bn} {i:Nat} (h:fh t s=some i):cls t s=t[i]? :=by
 obtain ⟨h1,h2,h3⟩:=List.findIdx?_eq_some_iff_getElem.1 h
 rw [Wj h1]
 unfold cls
 rw [Zu]
 exact ⟨h2,i,h1,rfl,fun j hj=>by simpa using h3 j hj⟩
theorem gr {t:List Cl} {s:bn} (h:fh t s=none):cls t s=none:=by
 unfold fh at h
 unfold cls
 simpa using h
theorem lz {t:List Cl} {s:bn}:(fh t s).isSome=(cls t s).isSome:=by
 cases h:fh t s with
 |none=>rw [gr h];rfl
 |some i=>obtain ⟨h1,h2⟩:=gR h;rw [ki h,Wj h1];rfl
theorem dS (t:List Cl) (s:bn) (hl:t.length≤9223372036854775807):Ok 106 [.c (eT t),.c (.str s)] (.jO [.c (.int .i64 ((fh t s).getD 0)),.c (.bool (cls t s).isSome)]):=by
 refine lL (l:=[eT t,.str s]) P5 (by simp) (by simp) ?_
 unfold Kh
 rw [←lz]
 refine ar rfl (M6 t s hl) (by simp) ?_
 cases h:fh t s with
 |none=>simp
 |some i=>obtain ⟨h1,h2⟩:=gR h;simp [eT,h1]
def wH (t:List Cl):Nat→List bn→bn→List bn×bn
 |0,came,s=>(came,s)
 |n+1,came,s=>match cls t s with
  |none=>(came,s)
  |some c=>if s∈came then (came,s) else wH t n (came++[s]) c.s
def cG (t:List Cl) (s:bn):List bn:=(wH t (t.length+1) [] s).1
theorem xV {α:Type} [DecidableEq α]: ∀(a b:List α),a.Nodup→(∀x∈a,x∈b)→a.length≤b.length
 |[],b,_,_=>Nat.zero_le _
 |x::a,b,h,hs=>by
  obtain ⟨h1,h2⟩:=List.nodup_cons.1 h
  have:=xV a (b.erase x) h2 fun y hy=>(List.mem_erase_of_ne fun e=>h1 (by rw [←e];exact hy)).2 (hs y (V3 _ hy))
  have hx:=hs x (V2 ..)
  rw [List.length_erase_of_mem hx] at this
  have:=List.length_pos_of_mem hx
  simp only [V8]
  omega
theorem qj {t:List Cl} {s:bn} {c:Cl} (h:cls t s=some c):c∈t∧c.n=s:=⟨Zv h,by simpa using Zw h⟩
theorem vP {t:List Cl} {came:List bn} (h1:came.Nodup) (h2: ∀x∈came,(cls t x).isSome=true):came.length≤t.length:=by
 have:=xV came (t.map (·.n)) h1 fun x hx=>by
  obtain ⟨c,hc⟩:=Option.isSome_iff_exists.1 (h2 x hx)
  obtain ⟨q1,q2⟩:=qj hc
  exact List.mem_map.2 ⟨c,q1,q2⟩
 simpa using this
theorem M7 (t:List Cl) (s:bn) (hl:t.length≤1000):Is D2 [.aF [],.aF [],eT t,.str s] 0 [eL (cG t s),eL (cG t s),.str (wH t (t.length+1) [] s).2,eT t]:=by
 obtain ⟨i,os,⟨rfl,rfl⟩,h⟩:=LY (α:=List bn×bn) (enc:=fun a=>[eL a.1,eL a.1,eT t,.str a.2]) (I:=fun a=>a.1.Nodup∧∀x∈a.1,(cls t x).isSome=true) (μ:=fun a=>t.length+1 - a.1.length)
  (Q:=fun a i os=>i=0∧os=[eL (wH t (t.length+1 - a.1.length) a.1 a.2).1,eL (wH t (t.length+1 - a.1.length) a.1 a.2).1,.str (wH t (t.length+1 - a.1.length) a.1 a.2).2,eT t]) Ka (by
   rintro ⟨came,s⟩ ⟨h1,h2⟩
   have hc:came.length≤t.length:=vP h1 h2
   refine ⟨rfl,?_⟩
   obtain ⟨n,hn⟩: ∃n,t.length+1 - came.length=n+1:=⟨t.length - came.length,by omega⟩
   simp only [hn,wH]
   unfold B6
   refine ai rfl (dS t s (by omega)) (by simp) (by simp) (by simp) (by simp) ?_
   cases hi:fh t s with
   |none=>simp [gr hi]
   |some i=>
    obtain ⟨hlt,hnm⟩:=gR hi
    have hcl:cls t s=some t[i]:=(ki hi).trans (Wj hlt)
    simp only [ah,aI,aR,hcl]
    simp only [bh,aL,WB,Xl,XZ,ag,ae,aP,Zx,Zy,aQ]
    refine ai rfl (gZ came s (by omega)) (by simp) (by simp) (by simp) (by simp) ?_
    by_cases hm:s∈came
    ·simp [hm]
    ·have e1:((came.length:Nat):Int)≤100000000:=by omega
     simp [hm,eT,hlt,eL,e1,Cl.e,hnm]
     have e2:t.length+1 - (came++[s]).length=n:=by simp;omega
     refine ⟨came++[s],t[i].s,⟨by simp [eS],rfl⟩,⟨?_,?_⟩,by omega,by rw [e2],by rw [e2]⟩
     ·rw [Zz]
      exact ⟨h1,by simp,fun a ha b hb=>by rw [List.mem_singleton.1 hb];exact fun e=>hm (e▸ha)⟩
     ·intro x hx
      rcases List.mem_append.1 hx with hx |hx
      ·exact h2 x hx
      ·rw [List.mem_singleton.1 hx,hcl];rfl) ([],s) ⟨by simp,by simp⟩
 exact h
theorem rI (t:List Cl) (s:bn) (hl:t.length≤1000):Ok 61 [.c (eT t),.c (.str s)] (.c (eL (cG t s))):=by
 refine lL (l:=[eT t,.str s]) SL (by simp) (by simp) ?_
 unfold On
 exact ar rfl (M7 t s hl) (by simp) (by simp)
def fQ:List bn:=[[105,110,116],[114,101,97,108],[98,111,111,108],[115,116,114],[117,110,105,116]]
theorem FA (s:bn):Ok 146 [.c (.str s)] (.c (.bool (decide (s∈fQ)))):=by
 refine lL (l:=[.str s]) Qd (by simp) (by simp) ?_
 unfold Kr fQ
 simp
 repeat' split
 all_goals simp_all [eq_comm]
theorem FB (s:bn) (hl:s.length≤20): ∃i os,(i≤1∧os=[])∧Is qg [.str s,.int .i64 s.length,.int .i64 0] i os:=
 db (aF:=s) (enc:=fun k (_:Unit)=>[.str s,.int .i64 s.length,.int .i64 k]) (I:=fun _ _=>True) DX (fun _ _=>rfl)
  (fun k b x hk _ hx=>by
   have:=bj hk (by omega)
   simp [oC,hk,hx,this])
  (fun b _=>by simp [oC]) () trivial
theorem FC (s:bn): ∃b,Ok 108 [.c (.str s)] (.c (.bool b)):=by
 obtain ⟨r,⟨b,rfl⟩,h⟩:=xU (l:=[.str s]) (R:=fun r=>∃b,r= .c (.bool b)) (ds:=[.c (.str s)]) P2 (by simp) (by simp) (by
  unfold JW
  cases s with
  |nil=>simp
  |cons c r=>
  by_cases h1:20<(c::r).length
  ·have:(20:Int)<(r.length:Int)+1:=by simp at h1;omega
   simp [this]
  obtain ⟨i,os,⟨hi,rfl⟩,hL⟩:=FB (c::r) (by omega)
  have e1: ¬(20:Int)<(r.length:Int)+1:=by simp at h1;omega
  by_cases h2:(65:Int)≤c
  case neg=>simp [e1,h2]
  by_cases h3:(c:Int)≤90
  case neg=>simp [e1,h2,h3]
  simp [e1,h2,h3]
  refine ar rfl hL (by simp) ?_
  match i,hi with
  |0,_=>simp
  |1,_=>simp)
 exact ⟨b,h⟩
noncomputable def lA (s:bn):Bool:=ZA (FC s)
theorem s6 (s:bn):Ok 108 [.c (.str s)] (.c (.bool (lA s))):=ZB (FC s)
theorem M8: ∃l:List bn,l.length≤100∧Ok 238 [] (.c (eL l)):=by
 obtain ⟨r,⟨l,hl,rfl⟩,h⟩:=xU (l:=[]) (R:=fun r=>∃l:List bn,l.length≤100∧r= .c (eL l)) (ds:=[]) QC (by simp) (by simp) (by
  unfold KY
  simp
  exact ⟨[[99,108,97,115,115],[100,101,102],[118,97,114],[109,97,105,110],[108,101,116],[105,102],[101,108,115,101],[119,104,105,108,101],[110,101,119],[110,111,110,101],[116,104,105,115],[115,117,112,101,114],[114,101,97,100],[112,114,105,110,116],[116,114,117,101],[102,97,108,115,101],[110,97,110],[105,110,102],[105,110,116],[114,101,97,108],[98,111,111,108],[115,116,114],[117,110,105,116],[108,101,110]],by simp,by simp [eL,eS]⟩)
 exact ⟨l,hl,h⟩
theorem M9 (s:bn): ∃b,Ok 200 [.c (.str s)] (.c (.bool b)):=by
 obtain ⟨l,hl,h⟩:=M8
 refine ⟨decide (s∈l),lL (l:=[.str s]) Qj (by simp) (by simp) ?_⟩
 unfold Ky
 refine ai rfl h (by simp) (by simp) (by simp) (by simp) ?_
 refine ai rfl (gZ l s (by omega)) (by simp) (by simp) (by simp) (by simp) ?_
 simp
theorem FE (s:bn): ∃b,Ok 143 [.c (.str s)] (.c (.bool b)):=by
 obtain ⟨k,hk⟩:=M9 s
 obtain ⟨r,⟨b,rfl⟩,h⟩:=xU (l:=[.str s]) (R:=fun r=>∃b,r= .c (.bool b)) (ds:=[.c (.str s)]) Qc (by simp) (by simp) (by
  unfold Kq
  cases s with
  |nil=>simp
  |cons c r=>
  by_cases h1:20<(c::r).length
  ·have:(20:Int)<(r.length:Int)+1:=by simp at h1;omega
   simp [this]
  obtain ⟨i,os,⟨hi,rfl⟩,hL⟩:=FB (c::r) (by omega)
  have e1: ¬(20:Int)<(r.length:Int)+1:=by simp at h1;omega
  by_cases h2:(97:Int)≤c
  case neg=>simp [e1,h2]
  by_cases h3:(c:Int)≤122
  case neg=>simp [e1,h2,h3]
  simp [e1,h2,h3]
  refine ar rfl hL (by simp) ?_
  match i,hi with
  |0,_=>simp
  |1,_=>
   simp
   exact ai rfl hk (by simp) (by simp) (by simp) (by simp) (by simp))
 exact ⟨b,h⟩
noncomputable def nC (s:bn):Bool:=ZA (FE s)
theorem zy (s:bn):Ok 143 [.c (.str s)] (.c (.bool (nC s))):=ZB (FE s)
noncomputable def qk (s:bn):Bool:=decide (s∈fQ)||decide (s=[63])||lA s
theorem s9 (s:bn):Ok 189 [.c (.str s)] (.c (.bool (qk s))):=by
 refine lL (l:=[.str s]) Qg (by simp) (by simp) ?_
 unfold Kv qk
 refine ai rfl (FA s) (by simp) (by simp) (by simp) (by simp) ?_
 simp
 split
 ·simp [*]
 split
 ·simp [*]
 refine ai rfl (s6 s) (by simp) (by simp) (by simp) (by simp) ?_
 cases h:lA s<;>simp [*]
def typed (t:List Cl) (s:bn):Bool:=(cls t s).isSome||decide (s=[63])||decide (s∈fQ)
theorem td (t:List Cl) (s:bn) (hl:t.length≤9223372036854775807):Ok 102 [.agg [eT t],.c (.str s)] (.c (.bool (typed t s))):=by
 refine lL (l:=[eT t,.str s]) P3 (by simp) (by simp) ?_
 unfold Kf typed
 refine ai rfl (dS t s hl) (by simp) (by simp) (by simp) (by simp) ?_
 cases h:(cls t s).isSome
 ·simp
  split
  ·simp [*]
  refine ai rfl (FA s) (by simp) (by simp) (by simp) (by simp) ?_
  simp [*]
 ·simp
def named (t:List Cl) (n k:bn) (w:Int):Prop:=w=0→(n≠[]→nC n=true)∧qk k=true∧(lA k=true→(cls t k).isSome=true)
theorem zA (t:List Cl) (n k:bn) (hl:t.length≤9223372036854775807): ∃w,named t n k w∧Ok 153 [.c (eT t),.c (.str n),.c (.str k)] (.c (.int .i64 w)):=by
 obtain ⟨r,⟨w,hw,rfl⟩,h⟩:=xU (l:=[eT t,.str n,.str k]) (R:=fun r=>∃w,named t n k w∧r= .c (.int .i64 w)) (ds:=[.c (eT t),.c (.str n),.c (.str k)]) Qe (by simp) (by simp) (by
  unfold Ks
  simp only [ah]
  by_cases hn0:n=[]
  ·simp [hn0]
   refine ai rfl (s9 k) (by simp) (by simp) (by simp) (by simp) ?_
   cases hk:qk k
   ·simp [named]
   simp
   refine ai rfl (dS t k hl) (by simp) (by simp) (by simp) (by simp) ?_
   refine ai rfl (s6 k) (by simp) (by simp) (by simp) (by simp) ?_
   cases hc:lA k<;>cases hf:(cls t k).isSome<;>simp [named, *]
  ·simp [hn0]
   refine ai rfl (zy n) (by simp) (by simp) (by simp) (by simp) ?_
   cases hn:nC n
   ·simp [named]
   simp
   refine ai rfl (s9 k) (by simp) (by simp) (by simp) (by simp) ?_
   cases hk:qk k
   ·simp [named]
   simp
   refine ai rfl (dS t k hl) (by simp) (by simp) (by simp) (by simp) ?_
   refine ai rfl (s6 k) (by simp) (by simp) (by simp) (by simp) ?_
   cases hc:lA k<;>cases hf:(cls t k).isSome<;>simp [named, *])
 exact ⟨w,hw,h⟩
end
section
open Go
section
variable {fids:List lP} {lds:List LD} {t:PT} {L:LD} {α β:Type}
theorem xW {aF:List α} {enc:Nat→List D} {p:α→Bool} {o:Nat→List D} {e:List D} (hc:bg Tryz.prog 100000 L fids lds t=true) (hl: ∀k,(enc k).length=L.k)
 (h1: ∀k x (h:k<aF.length),aF[k]=x→W fids lds t (enc k) fun o'=>if p x then o'= .exit 0 (o k) else o'= .next (enc (k+1)))
 (h2:W fids lds t (enc aF.length) fun o'=>o'= .exit 1 e):Is L (enc 0) (match aF.findIdx? p with |some _=>0 |none=>1) (match aF.findIdx? p with |some j=>o j |none=>e):=by
 have h:=Hi (aF:=aF) (enc:=fun k (_:Unit)=>enc k) (I:=fun _ _=>True) (step:=fun k x _=>if p x then .inl (0,o k) else .inr ()) (fin:=fun _=>(1,e)) hc (fun k _=>hl k)
  (fun k b x hk _ hx=>by
   obtain ⟨l',o',q1,q2⟩:=h1 k x hk hx
   refine ⟨l',o',q1,?_⟩
   cases hp:p x<;>simp [hp] at q2⊢ <;>exact q2)
  (fun b _=>h2) () trivial
 rw [lh p (fun j=>(0,o j)) (1,e) aF 0] at h
 cases hj:aF.findIdx? p with
 |none=>rw [hj] at h;exact h
 |some j=>rw [hj] at h;simpa using h
theorem xX (g:α→β→β) (fin:β→Nat×List D): ∀(l:List α) (k:Nat) (b:β),gQ (fun _ x b=>.inr (g x b)) fin l k b=fin (l.foldl (fun b x=>g x b) b)
 |[],k,b=>rfl
 |x::l,k,b=>xX g fin l (k+1) (g x b)
theorem Ce {aF:List α} {enc:Nat→β→List D} {I:Nat→β→Prop} {g:α→β→β} {fin:β→List D} (hc:bg Tryz.prog 100000 L fids lds t=true) (hl: ∀k b,(enc k b).length=L.k)
 (h1: ∀k b x (h:k<aF.length),I k b→aF[k]=x→W fids lds t (enc k b) fun o=>o= .next (enc (k+1) (g x b))∧I (k+1) (g x b))
 (h2: ∀b,I aF.length b→W fids lds t (enc aF.length b) fun o=>o= .exit 0 (fin b)) (b:β) (hb:I 0 b):Is L (enc 0 b) 0 (fin (aF.foldl (fun b x=>g x b) b)):=by
 have h:=Hi (aF:=aF) (enc:=enc) (I:=I) (step:=fun _ x b=>.inr (g x b)) (fin:=fun b=>(0,fin b)) hc hl h1 h2 b hb
 rw [xX] at h
 exact h
end
theorem ew {α:Type} {l:List α} {p:α→Bool} {j:Nat} (h:l.findIdx? p=some j): ∃hj:j<l.length,p l[j]=true:=by
 obtain ⟨h1,h2,_⟩:=List.findIdx?_eq_some_iff_getElem.1 h
 exact ⟨h1,h2⟩
theorem vQ {α:Type} (l:List α) (p:α→Bool):l.find? p=(l.findIdx? p).bind fun j=>l[j]? :=by
 cases h:l.findIdx? p with
 |none=>simp at h;simpa using h
 |some j=>
  obtain ⟨h1,h2,h3⟩:=List.findIdx?_eq_some_iff_getElem.1 h
  simp only [Option.bind_some,Wj h1]
  rw [Zu]
  exact ⟨h2,j,h1,rfl,fun i hi=>by simpa using h3 i hi⟩
structure eB (t:List Cl):Prop where
 len:t.length≤40
 f: ∀c∈t,c.f.length≤20
 m: ∀c∈t,c.m.length≤20
 p: ∀c∈t,∀m∈c.m,m.p.length≤10
theorem FF (l:List Vr) (h:l.length≤1000):Ok 198 [.c (.aF (l.map Vr.e))] (.c (.aF (l.map Vr.e))):=by
 cases l with
 |nil=>
  have t1:bt Tryz.prog bs 100000 198 [.an] [] [] (.ret (.tm (.aF []) (.op .nil []))) 0=true:=by kernel_rfl
  have t2:bt Tryz.prog bs 100000 198 [.e0 false] [] [] (.ret (.tm tV (.op .nil []))) 0=true:=by kernel_rfl
  refine PS jF HA K3 gP t1 (l':=[]) ?_ t2 (l'':=[]) ?_<;>simp [iE]
 |cons v l=>
  refine lL (l:=[.aF ((v::l).map Vr.e)]) Qi (by simp) (by simp [tV,Vr.e]) ?_
  have e1:((l.length:Nat):Int)+1≤100000000:=by simp at h;omega
  have e2:(0:Int)<(l.length:Int)+1:=by omega
  simp [Kx,e1,e2]
theorem vR (l:List Vr) (h:l.length≤1000):Ok 66 [.c (.aF (l.map Vr.e))] (.c (eL (l.map (·.t)))):=by
 refine lL (l:=[.aF (l.map Vr.e)]) SN (by simp) (by simp) ?_
 unfold Oq
 have hL:=Ce (aF:=l) (enc:=fun k (b:List bn)=>[eL b,.aF (l.map Vr.e),.int .i64 k]) (I:=fun k b=>b.length=k) (g:=fun x b=>b++[x.t]) (fin:=fun b=>[eL b]) Kc (fun _ _=>rfl)
  (fun k b x hk hI hx=>by
   have:=bj hk (by omega)
   have e1:((k:Nat):Int)≤100000000:=by omega
   simp [vr,hk,hx,this,eL,e1,Vr.e,hI,eS])
  (fun b hb=>by simp [vr,eL]) [] rfl
 refine ar rfl hL (by simp [eL]) ?_
 have: ∀(l:List Vr) (b:List bn),l.foldl (fun b x=>b++[x.t]) b=b++l.map (·.t):=by
  intro l
  induction l with
  |nil=>intro b;simp
  |cons v l ih=>intro b;simp [ih]
 simp [this]
theorem QD (a b:List bn) (h:a.length≤9223372036854775807):Ok 67 [.c (eL a),.c (eL b)] (.c (.bool (decide (a=b)))):=by
 refine lL (l:=[eL a,eL b]) SO (by simp) (by simp) ?_
 unfold Ot
 by_cases hl:a.length=b.length
 case neg=>
  have: ¬((a.length:Nat):Int)=b.length:=by omega
  have h2:a≠b:=fun e=>hl (by rw [e])
  simp [eL,this,h2]
 have hL:=Hi (aF:=a) (enc:=fun k (_:Unit)=>[eL a,eL b,.int .i64 k]) (I:=fun k _=>a.take k=b.take k) (step:=fun k x _=>if b[k]? =some x then .inr () else .inl (0,[])) (fin:=fun _=>(1,[])) Ke (fun _ _=>rfl)
  (fun k u x hk hI hx=>by
   have:=bj hk h
   have hk2:k<b.length:=by omega
   by_cases he:x=b[k]
   ·have hb:b[k]=x:=he.symm
    simp [qh,hk,hk2,this,eL,eS,hx,hb]
    rw [ZC hk,ZC hk2,hI,hx,hb]
   ·have he': ¬b[k]=x:=fun e=>he e.symm
    simp [qh,hk,hk2,this,eL,eS,hx,he,he'])
  (fun u hb=>by simp [qh,eL]) () (by simp)
 have key: ∀(a' b':List bn) (k:Nat),a'.length=b'.length→(∀i,b[k+i]? =b'[i]?)→gQ (fun k x (_:Unit)=>if b[k]? =some x then .inr () else .inl (0,[])) (fun _=>((1:Nat),([]:List D))) a' k ()=if a'=b' then (1,[]) else (0,[]):=by
  intro a'
  induction a' with
  |nil=>intro b' k h1 h2;cases b' with
   |nil=>rfl
   |cons y b'=>cases h1
  |cons x a' ih=>
   intro b' k h1 h2
   cases b' with
   |nil=>cases h1
   |cons y b'=>
    have h0:=h2 0
    simp at h0
    unfold gQ
    rw [h0]
    by_cases he:y=x
    ·subst he
     simp
     rw [ih b' (k+1) (by simpa using h1) fun i=>by have:=h2 (i+1);rw [show k+(i+1)=k+1+i by omega] at this;simpa using this]
    ·have he': ¬x=y:=fun e=>he e.symm
     simp [he,he']
 have hz:=key a b 0 hl (by simp)
 rw [hz] at hL
 have:((a.length:Nat):Int)=b.length:=by omega
 simp only [ah,bh,aL,ae,ag,eL,aw,ZD,aT,this,decide_true,Zy,aQ]
 by_cases he:a=b
 ·rw [if_pos he] at hL
  exact ar rfl hL (by simp [eL]) (by simp [he])
 ·rw [if_neg he] at hL
  exact ar rfl hL (by simp [eL]) (by simp [he])
def Fu.fits (f w:Fu):Bool:=decide (f.c=w.c)&&(decide (f.n=w.n)&&decide (w.l<+:f.l))
theorem QE (f w:Fu) (h:f.l.length≤9223372036854775807):Ok 47 [.agg f.e,.agg w.e] (.c (.bool (f.fits w))):=by
 refine lL (l:=f.e++w.e) SI (by simp [Fu.e]) (by simp [Fu.e,eS,In.e]) ?_
 unfold Oj Fu.fits
 simp only [ah]
 by_cases h1:f.c=w.c
 case neg=>simp [Fu.e,h1]
 by_cases h2:f.n=w.n
 case neg=>simp [Fu.e,h1,h2]
 by_cases h3:w.l.length≤f.l.length
 case neg=>
  have h4: ¬w.l<+:f.l:=fun h=>h3 h.length_le
  simp [Fu.e,h1,h2,h3,h4]
 simp [Fu.e,h1,h2,h3]
 refine ai rfl (QD (f.l.take w.l.length) w.l (by simp;omega)) (by simp [eL,List.map_take]) (by simp) (by simp) (by simp) ?_
 simp
 rw [List.prefix_iff_eq_take]
 exact eq_comm
def cH (t:List Cl):Nat→List bn→bn→List Cl
 |0,_,_=>[]
 |n+1,came,s=>match cls t s with
  |none=>[]
  |some c=>if s∈came then [] else c::cH t n (came++[s]) c.s
def chain (t:List Cl) (s:bn):List Cl:=cH t (t.length+1) [] s
theorem vS (t:List Cl): ∀(n:Nat) (came:List bn) (s:bn),(wH t n came s).1=came++(cH t n came s).map (·.n)
 |0,came,s=>by simp [wH,cH]
 |n+1,came,s=>by
  unfold wH cH
  cases h:cls t s with
  |none=>simp
  |some c=>
   by_cases hm:s∈came
   ·simp [hm]
   ·simp only [if_neg hm]
    rw [vS t n (came++[s]) c.s]
    simp [(qj h).2]
theorem dj (t:List Cl) (s:bn):cG t s=(chain t s).map (·.n):=by
 unfold cG chain
 rw [vS]
 rfl
theorem lB (t:List Cl): ∀(n:Nat) (came:List bn) (s:bn),∀c∈cH t n came s,cls t c.n=some c
 |0,came,s=>by simp [cH]
 |n+1,came,s=>by
  unfold cH
  cases h:cls t s with
  |none=>simp
  |some c=>
   by_cases hm:s∈came
   ·simp [hm]
   ·simp only [if_neg hm,List.mem_cons]
    rintro x (rfl |hx)
    ·rw [(qj h).2];exact h
    ·exact lB t n _ _ x hx
theorem fF {t:List Cl} {s:bn} {c:Cl} (h:c∈chain t s):c∈t:=(qj (lB t _ _ _ c h)).1
theorem vT (t:List Cl): ∀(n:Nat) (came:List bn) (s:bn),(cH t n came s).length≤n
 |0,came,s=>by simp [cH]
 |n+1,came,s=>by
  unfold cH
  cases h:cls t s with
  |none=>simp
  |some c=>
   by_cases hm:s∈came
   ·simp [hm]
   ·have:=vT t n (came++[s]) c.s
    simp [hm];omega
theorem dX (t:List Cl) (s:bn):(chain t s).length≤t.length+1:=vT t _ _ _
def eR (l:List Cl):D:=.aF (l.map fun c=>[.ref c.e])
@[simp] theorem TD {x:Cl}:aW [.ref [.str,.str,.aF [.str,.str],.aF [.str,.aF [.str,.str],.str]]] [.ref x.e]=True:=by simp
theorem Hj (t:List Cl) (s:bn) (hl:t.length≤1000): ∃d e,Is vy [.aF [],.aF [],eT t,.str s] 0 [eR (chain t s),d,e,eT t]:=by
 obtain ⟨i,os,⟨rfl,d,e,rfl⟩,h⟩:=LY (α:=List bn×List Cl×bn) (enc:=fun a=>[eL a.1,eR a.2.1,eT t,.str a.2.2]) (I:=fun a=>a.1=a.2.1.map (·.n)∧a.1.Nodup∧∀x∈a.1,(cls t x).isSome=true) (μ:=fun a=>t.length+1 - a.1.length)
  (Q:=fun a i os=>i=0∧∃d e,os=[eR (a.2.1++cH t (t.length+1 - a.1.length) a.1 a.2.2),d,e,eT t]) D5 (by
   rintro ⟨came,out,s⟩ ⟨h0,h1,h2⟩
   have hc:came.length≤t.length:=vP h1 h2
   have ho:out.length=came.length:=by simp at h0;simp [h0]
   refine ⟨rfl,?_⟩
   obtain ⟨n,hn⟩: ∃n,t.length+1 - came.length=n+1:=⟨t.length - came.length,by omega⟩
   simp only [hn,cH]
   unfold vz
   refine ai rfl (dS t s (by omega)) (by simp) (by simp) (by simp) (by simp) ?_
   cases hi:fh t s with
   |none=>exact aq (.exit 0 [eR out,eL came,.str s,eT t]) (by simp [gr hi]) (.inl ⟨_,_,rfl,rfl,eL came,.str s,by simp [gr hi]⟩)
   |some i=>
    obtain ⟨hlt,hnm⟩:=gR hi
    have hcl:cls t s=some t[i]:=(ki hi).trans (Wj hlt)
    simp only [ah,aI,aR,hcl]
    simp only [bh,aL,WB,Xl,XZ,ag,ae,aP,Zx,Zy,aQ]
    refine ai rfl (gZ came s (by omega)) (by simp) (by simp) (by simp) (by simp) ?_
    by_cases hm:s∈came
    ·exact aq (.exit 0 [eR out,eL came,.str s,eT t]) (by simp [hm]) (.inl ⟨_,_,rfl,rfl,eL came,.str s,by simp [hm]⟩)
    ·have e1:((came.length:Nat):Int)≤100000000:=by omega
     have e3:((out.length:Nat):Int)≤100000000:=by omega
     have e2:t.length+1 - (came++[s]).length=n:=by simp;omega
     refine aq (.next [eL (came++[s]),eR (out++[t[i]]),eT t,.str t[i].s]) (by simp [hm,eT,hlt,eL,eR,e1,e3,Cl.e,hnm,eS]) (.inr ⟨(came++[s],out++[t[i]],t[i].s),rfl,⟨?_,?_,?_⟩,?_,?_⟩)
     ·replace h0:came=out.map (·.n):=h0
      show came++[s]=(out++[t[i]]).map (·.n)
      rw [ZE,←h0];simp [hnm]
     ·show (came++[s]).Nodup
      rw [Zz]
      exact ⟨h1,by simp,fun a ha b hb=>by rw [List.mem_singleton.1 hb];exact fun e=>hm (e▸ha)⟩
     ·intro x hx
      rcases List.mem_append.1 hx with hx |hx
      ·exact h2 x hx
      ·rw [List.mem_singleton.1 hx,hcl];rfl
     ·show t.length+1 - (came++[s]).length<n+1
      omega
     ·rintro i os ⟨q1,d,e,q2⟩
      refine ⟨q1,d,e,?_⟩
      rw [show (came++[s],out++[t[i]],t[i].s).1=came++[s] from rfl] at q2
      simp only [e2] at q2
      rw [q2]
      simp [hm]) ([],[],s) ⟨rfl,by simp,by simp⟩
 exact ⟨d,e,h⟩
theorem FG (l:List Cl) (i:Nat) (c:Cl):(l.map fun c=>[D.ref c.e]).modify i (fun row=>row.take 0++[.ref c.e]++row.drop (0+1))=(l.set i c).map fun c=>[D.ref c.e]:=by
 apply ZF
 intro x
 rw [ZG,VV,VV,ZH]
 by_cases h:i=x
 ·subst h
  cases hx:l[i]? with
  |none=>simp [List.getElem?_eq_none_iff.1 hx]
  |some y=>obtain ⟨h1,_⟩:=List.getElem?_eq_some_iff.1 hx;simp [h1]
 ·simp [h]
theorem Na (l:List Cl) (h:l.length≤1000):Is D6 [.int .i64 l.length,.int .i64 0,.int .i64 ((l.length:Int) - 1),eR l] 0 [.int .i64 l.length,eR l.reverse]:=by
 obtain ⟨i,os,⟨rfl,rfl⟩,hh⟩:=LY (α:=Nat×List Cl) (enc:=fun a=>[.int .i64 l.length,.int .i64 a.1,.int .i64 ((l.length:Int) - 1 - a.1),eR a.2]) (I:=fun a=>2*a.1≤l.length+1∧a.2.length=l.length∧∀x,x<l.length→a.2[x]? =if x<a.1∨l.length≤x+a.1 then l[l.length - 1 - x]? else l[x]?) (μ:=fun a=>l.length+1 - a.1)
  (Q:=fun a i os=>i=0∧os=[.int .i64 l.length,eR l.reverse]) KA (by
   rintro ⟨k,m⟩ ⟨h0,h1,h2⟩
   replace h0:2*k≤l.length+1:=h0
   replace h1:m.length=l.length:=h1
   replace h2: ∀x,x<l.length→m[x]? =if x<k∨l.length≤x+k then l[l.length - 1 - x]? else l[x]? :=h2
   refine ⟨rfl,?_⟩
   by_cases hlt:2*k+1<l.length
   ·have w1:IntKind.i64.wrap ((k:Int)+1)=((k+1:Nat):Int):=by rw [WJ _ (by omega)];omega
    have w2:IntKind.i64.wrap ((l.length:Int) - 1 - k - 1)=(l.length:Int) - 1 - ((k+1:Nat):Int):=by rw [WJ _ (by omega)];omega
    have e1:(k:Int)<(l.length:Int) - 1 - k:=by omega
    have e2:(0:Int)≤(l.length:Int) - 1 - k:=by omega
    have e3:(l.length:Int) - 1 - k<l.length:=by omega
    have e4:((k:Nat):Int)<l.length:=by omega
    have e5:((l.length:Int) - 1 - k).toNat=l.length - 1 - k:=by omega
    have k1:k<m.length:=by omega
    have k2:l.length - 1 - k<m.length:=by omega
    have q1:m[k]=l[k]:=by
     have:=h2 k (by omega)
     rw [if_neg (by omega),Wj k1,Wj (by omega)] at this
     exact VF this
    have q2:m[l.length - 1 - k]=l[l.length - 1 - k]:=by
     have:=h2 (l.length - 1 - k) (by omega)
     rw [if_neg (by omega),Wj k2,Wj (by omega)] at this
     exact VF this
    refine aq (.next [.int .i64 l.length,.int .i64 ((k+1:Nat):Int),.int .i64 ((l.length:Int) - 1 - ((k+1:Nat):Int)),eR ((m.set k m[l.length - 1 - k]).set (l.length - 1 - k) m[k])]) ?_ (.inr ⟨(k+1,(m.set k m[l.length - 1 - k]).set (l.length - 1 - k) m[k]),rfl,⟨?_,?_,?_⟩,?_,fun i os h=>h⟩)
    ·simp only [vA,ah,bh,aL,ae,ag,aA,aB,eR,ak,if_pos e1,if_pos e2,if_pos e3,if_pos e4,if_pos (WN k),nb,VT,VU,ft,ba,w1,w2,aU,Wt,e5,VV,Wj k1,Wj k2,Xt,aE,aD,oB]
     rw [FG,FG]
    ·show 2*(k+1)≤l.length+1;omega
    ·show ((m.set k m[l.length - 1 - k]).set (l.length - 1 - k) m[k]).length=l.length
     simp [h1]
    ·intro x hx
     show ((m.set k m[l.length - 1 - k]).set (l.length - 1 - k) m[k])[x]? =if x<k+1∨l.length≤x+(k+1) then l[l.length - 1 - x]? else l[x]?
     rw [ZH,ZH,h2 x hx,q1,q2]
     simp only [ZI]
     by_cases a1:l.length - 1 - k=x
     ·rw [if_pos a1,if_pos k2,if_pos (by omega),show l.length - 1 - x=k by omega,Wj]
     ·rw [if_neg a1]
      by_cases a2:k=x
      ·rw [if_pos a2,if_pos k1,if_pos (by omega),←a2,Wj]
      ·rw [if_neg a2]
       by_cases a3:x<k∨l.length≤x+k
       ·rw [if_pos a3,if_pos (by omega)]
       ·rw [if_neg a3,if_neg (by omega)]
    ·show l.length+1 - (k+1)<l.length+1 - k;omega
   ·have e1: ¬(k:Int)<(l.length:Int) - 1 - k:=by omega
    have:m=l.reverse:=by
     apply ZF
     intro x
     by_cases hx:x<l.length
     ·rw [h2 x hx,List.getElem?_reverse hx]
      by_cases a3:x<k∨l.length≤x+k
      ·rw [if_pos a3]
      ·rw [if_neg a3,show l.length - 1 - x=x by omega]
     ·rw [VH (by omega),VH (by simp;omega)]
    exact aq (.exit 0 [.int .i64 l.length,eR l.reverse]) (by simp [vA,e1,this]) (.inl ⟨_,_,rfl,rfl,rfl⟩)) (0,l) ⟨by show 2*0≤l.length+1;omega,rfl,fun x hx=>by show l[x]? =_;rw [if_neg (by show ¬(x<0∨l.length≤x+0);omega)]⟩
 simpa using hh
theorem FH (t:List Cl) (s:bn) (hl:t.length≤900):Ok 237 [.c (eT t),.c (.str s)] (.c (eR (chain t s).reverse)):=by
 have hc:=dX t s
 refine lL (l:=[eT t,.str s]) Ql (by simp) (by simp) ?_
 unfold KB
 obtain ⟨d,e,h⟩:=Hj t s (by omega)
 refine ar rfl h (by simp) ?_
 simp only [al]
 refine ⟨by simp,?_⟩
 have w:IntKind.i64.wrap (((chain t s).length:Int) - 1)=((chain t s).length:Int) - 1:=by rw [WJ _ (by omega)]
 refine ar rfl (Na (chain t s) (by omega)) (by simp [eR,w]) ?_
 simp [eR]
 rw [ZJ (by simp)]
end
section
open Go
def fieldsOf (t:List Cl) (s:bn):List Vr:=(chain t s).reverse.flatMap (·.f)
theorem oU {t:List Cl} (hs:eB t) (s:bn):(fieldsOf t s).length≤820:=by
 have key: ∀l:List Cl,(∀c∈l,c.f.length≤20)→(l.flatMap (·.f)).length≤20*l.length:=by
  intro l
  induction l with
  |nil=>simp
  |cons c l ih=>
   intro h
   have:=ih fun x hx=>h x (V3 _ hx)
   have:=h c (V2 ..)
   simp only [List.flatMap_cons,List.length_append,V8];omega
 have:=key (chain t s).reverse fun c hc=>hs.f c (fF (List.mem_reverse.1 hc))
 have h2:=dX t s
 have h3:=hs.len
 unfold fieldsOf
 rw [ZK] at this
 omega
theorem oV {α β:Type} (f:α→List β): ∀(l:List α) (b:List β),l.foldl (fun b x=>b++f x) b=b++l.flatMap f
 |[],b=>by simp
 |x::l,b=>by simp [oV f l]
theorem zB (t:List Cl) (s:bn) (hs:eB t):Ok 194 [.c (eT t),.c (.str s)] (.c (.aF ((fieldsOf t s).map Vr.e))):=by
 have h3:=hs.len
 refine lL (l:=[eT t,.str s]) Qh (by simp) (by simp) ?_
 unfold Kw
 refine ai rfl (FH t s (by omega)) (by simp) (by simp) (by simp) (by simp [eR]) ?_
 have hcl:=dX t s
 have hL:=Ce (aF:=(chain t s).reverse) (enc:=fun k (b:List Vr)=>[.aF (b.map Vr.e),eR (chain t s).reverse,.int .i64 k]) (I:=fun k b=>b.length≤20*k∧k≤41) (g:=fun x b=>b++x.f) (fin:=fun b=>[.aF (b.map Vr.e)]) G6 (fun _ _=>rfl)
  (fun k b x hk hI hx=>by
   have hk':k<41:=by simp at hk;omega
   have hf:x.f.length≤20:=hs.f x (fF (List.mem_reverse.1 (hx▸Wv hk)))
   have w:=bj hk (by simp;omega)
   have e1:((b.length:Nat):Int)≤100000000:=by omega
   have e2:((x.f.length:Nat):Int)≤100000000:=by omega
   have hx':(chain t s).reverse[k]? =some x:=by rw [Wj hk,hx]
   have hk2:(k:Int)<((chain t s).length:Int):=by simp at hk;omega
   refine aq (.next [.aF ((b++x.f).map Vr.e),eR (chain t s).reverse,.int .i64 ((k+1:Nat):Int)]) ?_ ⟨rfl,by simp;omega,by omega⟩
   by_cases hz:x.f=[]
   ·simp only [nd,ah,bh,aL,ae,ag,eR,aw,ZD,ZK,aA,ak,if_pos hk2,aB,if_pos (WN k),if_pos e1,aU,Wt,VV,hx',Xt,aE,aD,Cl.e,aH,if_pos e2,hz,ZL,nb,VT,VU,ft,w,XZ]
    simp
   ·have e3:(0:Int)<((x.f.length:Nat):Int):=by have:=List.length_pos_iff.2 hz;omega
    simp only [nd,ah,bh,aL,ae,ag,eR,aw,ZD,ZK,aA,ak,if_pos hk2,aB,if_pos (WN k),if_pos e1,aU,Wt,VV,hx',Xt,aE,aD,Cl.e,aH,if_pos e2,if_pos e3,nb,VT,VU,ft,w,PW,ZE])
  (fun b hb=>by simp [nd,eR]) [] ⟨by simp,by omega⟩
 rw [oV] at hL
 exact ar rfl hL (by simp) (by simp [fieldsOf])
def ng (t:List Cl) (s q:bn):Option Vr:=(fieldsOf t s).find? fun v=>v.n==q
theorem zC (t:List Cl) (s q:bn) (hs:eB t):Ok 141 [.c (eT t),.c (.str s),.c (.str q)] (.jO [.c (.str (match ng t s q with |some v=>v.t |none=>[])),.c (.bool (ng t s q).isSome)]):=by
 have h1:=oU hs s
 refine lL (l:=[eT t,.str s,.str q]) Qa (by simp) (by simp) ?_
 unfold Ko ng
 refine ai rfl (zB t s hs) (by simp) (by simp) (by simp) (by simp) ?_
 generalize fieldsOf t s=l at*
 have hL:=xW (aF:=l) (enc:=fun k=>[.aF (l.map Vr.e),.int .i64 k,.str q]) (p:=fun v=>v.n==q) (o:=fun j=>[.int .i64 j,.str q]) (e:=[.str q]) G4 (fun _=>rfl)
  (fun k x hk hx=>by
   have w:=bj hk (by omega)
   by_cases hp:x.n=q<;>simp [rv,hk,hx,Vr.e,hp,w])
  (by simp [rv])
 rw [vQ]
 refine ar rfl hL (by simp) ?_
 cases hj:l.findIdx? (fun v=>v.n==q) with
 |none=>simp
 |some j=>obtain ⟨hj1,hj2⟩:=ew hj;simp [hj1,Vr.e]
def eC (c:Cl) (q:bn):Option Sg:=c.m.find? fun m=>m.n==q
def methodOf (t:List Cl) (s q:bn):Option (Sg×bn):=(chain t s).findSome? fun c=>(eC c q).map fun m=>(m,c.n)
theorem Hl (l:List Sg) (q:bn) (h:l.length≤1000):Is ry [.aF (l.map Sg.e),.int .i64 0,.str q] (match l.findIdx? (fun m=>m.n==q) with |some _=>0 |none=>1) (match l.findIdx? (fun m=>m.n==q) with |some j=>[.int .i64 j,.str q] |none=>[.str q]):=
 xW (aF:=l) (enc:=fun k=>[.aF (l.map Sg.e),.int .i64 k,.str q]) (p:=fun m=>m.n==q) (o:=fun j=>[.int .i64 j,.str q]) (e:=[.str q]) B7 (fun _=>rfl)
  (fun k x hk hx=>by
   have w:=bj hk (by omega)
   by_cases hp:x.n=q<;>simp [mH,hk,hx,Sg.e,hp,w])
  (by simp [mH])
def Cf (r:Option (Sg×bn)) (i:Nat) (os:List D):Prop:=
 match r with
 |none=>i=0∧os.length=4
 |some (m,o)=>i=1∧∃a b c d,os=[a,b,c,.str o,.str m.n,.aF (m.p.map Vr.e),.str m.r,d]
theorem Hm (t:List Cl) (s q:bn) (hs:eB t): ∃i os,Cf (methodOf t s q) i os∧Is vw [.aF [],.str q,eT t,.str s] i os:=by
 have hlen:=hs.len
 obtain ⟨i,os,hQ,h⟩:=LY (α:=List bn×bn) (enc:=fun a=>[eL a.1,.str q,eT t,.str a.2]) (I:=fun a=>a.1.Nodup∧∀x∈a.1,(cls t x).isSome=true) (μ:=fun a=>t.length+1 - a.1.length)
  (Q:=fun a i os=>Cf ((cH t (t.length+1 - a.1.length) a.1 a.2).findSome? fun c=>(eC c q).map fun m=>(m,c.n)) i os) D4 (by
   rintro ⟨came,s⟩ ⟨h1,h2⟩
   have hc:came.length≤t.length:=vP h1 h2
   refine ⟨rfl,?_⟩
   obtain ⟨n,hn⟩: ∃n,t.length+1 - came.length=n+1:=⟨t.length - came.length,by omega⟩
   simp only [hn,cH]
   unfold vx
   refine ai rfl (dS t s (by omega)) (by simp) (by simp) (by simp) (by simp) ?_
   cases hi:fh t s with
   |none=>exact aq (.exit 0 [eL came,.str s,eT t,.str q]) (by simp [gr hi]) (.inl ⟨_,_,rfl,by simp [gr hi,Cf]⟩)
   |some i=>
    obtain ⟨hlt,hnm⟩:=gR hi
    have hcl:cls t s=some t[i]:=(ki hi).trans (Wj hlt)
    have hm1:t[i].m.length≤20:=hs.m _ (Wv hlt)
    simp only [ah,aI,aR,hcl]
    simp only [bh,aL,WB,Xl,XZ,ag,ae,aP,Zx,Zy,aQ]
    refine ai rfl (gZ came s (by omega)) (by simp) (by simp) (by simp) (by simp) ?_
    by_cases hm:s∈came
    ·exact aq (.exit 0 [eL came,.str s,eT t,.str q]) (by simp [hm]) (.inl ⟨_,_,rfl,by simp [hm,Cf]⟩)
    ·have e1:((came.length:Nat):Int)≤100000000:=by omega
     have e2:t.length+1 - (came++[s]).length=n:=by simp;omega
     have e5:(i:Int)<t.length:=by omega
     simp only [List.append_assoc,WB,Xl,aI,hm,decide_false,X3,ah,bh,aL,ag,ae,aQ,aB,ak,if_pos (WN i),eT,aw,ZD,aA,if_pos e5]
     refine ar rfl (Hl t[i].m q (by omega)) (by simp [hlt,Cl.e]) ?_
     cases hj:t[i].m.findIdx? (fun m=>m.n==q) with
     |none=>
      have hnone:eC t[i] q=none:=by unfold eC;rw [vQ,hj];rfl
      simp only [ay,al,V8,ZL,true_and]
      refine aq (.next [eL (came++[s]),.str q,eT t,.str t[i].s]) (by simp [eL,e1,eT,hlt,Cl.e,eS]) (.inr ⟨(came++[s],t[i].s),rfl,⟨?_,?_⟩,?_,?_⟩)
      ·show (came++[s]).Nodup
       rw [Zz]
       exact ⟨h1,by simp,fun a ha b hb=>by rw [List.mem_singleton.1 hb];exact fun e=>hm (e▸ha)⟩
      ·intro x hx
       rcases List.mem_append.1 hx with hx |hx
       ·exact h2 x hx
       ·rw [List.mem_singleton.1 hx,hcl];rfl
      ·show t.length+1 - (came++[s]).length<n+1
       omega
      ·intro i2 os q2
       rw [show (came++[s],t[i].s).1=came++[s] from rfl] at q2
       simp only [e2] at q2
       simpa [hm,hnone] using q2
     |some j=>
      obtain ⟨hj1,hj2⟩:=ew hj
      have hsome:eC t[i] q=some t[i].m[j]:=by unfold eC;rw [vQ,hj];simp [hj1]
      have hp:(t[i].m[j]).p.length≤10:=hs.p _ (Wv hlt) _ (Wv hj1)
      have e6: ¬(j:Int)<0:=by omega
      have e7:(j:Int)<t[i].m.length:=by omega
      simp only [al,V8,ZL,true_and,ah,bh,aL,WB,Xl,ag,ae,aA,ak,if_neg e6,aB,if_pos (WN j),aU,Wt,VV,Wj hlt,Xt,aE,Cl.e,aH,aD,aw,ZD,if_pos e7]
      refine ai rfl (FF (t[i].m[j]).p (by omega)) (by simp [hlt,hj1,Sg.e,Cl.e]) (by simp) (by simp) (by simp) ?_
      exact aq (.exit 1 [eL came,.str s,eT t,.str t[i].n,.str t[i].m[j].n,.aF (t[i].m[j].p.map Vr.e),.str t[i].m[j].r,.str q]) (by simp [hlt,hj1,Cl.e,Sg.e,eT]) (.inl ⟨_,_,rfl,by simp [hm,hsome,Cf]⟩)) ([],s) ⟨by simp,by simp⟩
 exact ⟨i,os,hQ,h⟩
theorem ql (t:List Cl) (s q:bn) (hs:eB t):Ok 142 [.c (eT t),.c (.str s),.c (.str q)] (match methodOf t s q with |some (m,o)=>.jO [.agg m.e,.c (.str o),.c (.bool true)] |none=>.jO [.agg [.str [],.aF [],.str []],.c (.str []),.c (.bool false)]):=by
 refine lL (l:=[eT t,.str s,.str q]) Qb (by simp) (by simp) ?_
 unfold Kp
 obtain ⟨i,os,hQ,h⟩:=Hm t s q hs
 refine ar rfl h (by simp) ?_
 cases hm:methodOf t s q with
 |none=>
  rw [hm] at hQ
  obtain ⟨rfl,hl⟩:=hQ
  match os,hl with
  |[a,b,c,d],_=>simp
 |some r=>
  obtain ⟨m,o⟩:=r
  rw [hm] at hQ
  obtain ⟨rfl,a,b,c,d,rfl⟩:=hQ
  simp [Sg.e]
def fR (out:List Sg) (m:Sg):List Sg:=match out.findIdx? (fun x=>x.n==m.n) with |some j=>out.set j m |none=>out++[m]
def methodsOf (t:List Cl) (s:bn):List Sg:=(chain t s).reverse.foldl (fun out c=>c.m.foldl fR out) []
def cr:Nat→List Sg→List (List D)
 |_,[]=>[]
 |k,m::l=>[.str m.n,.int .i64 k]::cr (k+1) l
theorem vU (q:bn): ∀(l:List Sg) (k:Nat),(cr k l).any (bC (.str q))=l.any fun m=>m.n==q
 |[],k=>rfl
 |m::l,k=>by
  simp only [cr,List.any_cons,vU q l (k+1),bC,jb]
  congr 1
  exact Bool.beq_comm
theorem sn (q:bn): ∀(l:List Sg) (k:Nat),(cr k l).find? (bC (.str q))=(l.findIdx? fun m=>m.n==q).map fun j=>[.str q,.int .i64 ((k+j:Nat):Int)]
 |[],k=>rfl
 |m::l,k=>by
  simp only [cr,List.find?_cons,List.findIdx?_cons,bC,jb]
  by_cases h:m.n=q
  ·simp [h]
  ·have h': ¬q=m.n:=fun e=>h e.symm
   rw [show (q==m.n)=false by simpa using h',show (m.n==q)=false by simpa using h]
   simp only [Bool.false_eq_true,if_false]
   rw [sn q l (k+1)]
   cases l.findIdx? (fun m=>m.n==q) with
   |none=>rfl
   |some j=>simp;omega
theorem vV (q:bn) (n:Int): ∀(l:List Sg) (k:Nat),(l.any fun m=>m.n==q)=false→iM (.str q) [.int .i64 n] (cr k l)=cr k l++[[.str q,.int .i64 n]]
 |[],k,_=>rfl
 |m::l,k,h=>by
  simp only [List.any_cons,Bool.or_eq_false_iff] at h
  simp only [cr,iM,bC,jb,WB]
  rw [Bool.beq_comm,h.1,cond_false,vV q n l (k+1) h.2]
theorem vW: ∀(l:List Sg) (k:Nat) (m:Sg),cr k (l++[m])=cr k l++[[.str m.n,.int .i64 ((k+l.length:Nat):Int)]]
 |[],k,m=>rfl
 |x::l,k,m=>by
  simp only [WB,cr,vW l (k+1) m,V8]
  rw [show k+1+l.length=k+(l.length+1) by omega]
theorem vX (m:Sg): ∀(l:List Sg) (k j:Nat) (h:j<l.length),l[j].n=m.n→cr k (l.set j m)=cr k l
 |x::l,k,0,h,e=>by simp only [List.set_cons_zero,cr];rw [←e];rfl
 |x::l,k,j+1,h,e=>by simp only [List.set_cons_succ,cr];rw [vX m l (k+1) j (by simpa using h) (by simpa using e)]
theorem FI (l:List Sg) (q:bn):(l.any fun m=>m.n==q)=(l.findIdx? fun m=>m.n==q).isSome:=by
 cases h:l.findIdx? (fun m=>m.n==q) with
 |none=>simp at h;simpa using h
 |some j=>
  obtain ⟨h1,h2⟩:=ew h
  simp only [Zx]
  exact List.any_eq_true.2 ⟨_,Wv h1,h2⟩
theorem zD (out:List Sg) (m:Sg):(fR out m).length≤out.length+1:=by
 unfold fR
 split<;>simp
theorem Nb (out:List Sg) (ms:List Sg) (d1:D) (d2:Int) (h:out.length≤1000) (hm:ms.length≤20) (hp: ∀m∈ms,m.p.length≤10):
 Is oG [.int .i64 out.length,d1,.int .i64 d2,.aF (ms.map Sg.e),.int .i64 0,.aF (cr 0 out),.int .i64 out.length,.aF (out.map Sg.e)] 0 [.int .i64 (ms.foldl fR out).length,d1,.int .i64 d2,.aF (cr 0 (ms.foldl fR out)),.int .i64 (ms.foldl fR out).length,.aF ((ms.foldl fR out).map Sg.e)]:=
 Ce (aF:=ms) (enc:=fun k (b:List Sg)=>[.int .i64 b.length,d1,.int .i64 d2,.aF (ms.map Sg.e),.int .i64 k,.aF (cr 0 b),.int .i64 b.length,.aF (b.map Sg.e)]) (I:=fun k b=>b.length≤1000+k∧k≤20) (g:=fun m b=>fR b m)
  (fin:=fun b=>[.int .i64 b.length,d1,.int .i64 d2,.aF (cr 0 b),.int .i64 b.length,.aF (b.map Sg.e)]) zj (fun _ _=>rfl)
  (fun k b m hk hI hx=>by
   have w:=bj hk (by omega)
   have e1:(k:Int)<ms.length:=by omega
   have hx':ms[k]? =some m:=by rw [Wj hk,hx]
   have hpl:m.p.length≤10:=hp m (hx▸Wv hk)
   have hpu:=zD b m
   refine aq (.next [.int .i64 (fR b m).length,d1,.int .i64 d2,.aF (ms.map Sg.e),.int .i64 ((k+1:Nat):Int),.aF (cr 0 (fR b m)),.int .i64 (fR b m).length,.aF ((fR b m).map Sg.e)]) ?_ ⟨rfl,by omega,by omega⟩
   unfold lj
   simp only [ah,bh,aL,ae,ag,aw,ZD,aA,ak,if_pos e1,aB,if_pos (WN k)]
   refine ai rfl (FF m.p (by omega)) (by simp [hx',Sg.e]) (by simp) (by simp) (by simp) ?_
   simp only [aI,WB,Xl,ah,bh,aL,ae,ag,aU,Wt,VV,hx',Xt,aE,Sg.e,aD,sY,vU,FI]
   cases hj:b.findIdx? (fun x=>x.n==m.n) with
   |none=>
    have hb:=zD b m
    have e2:((b.length:Nat):Int)≤100000000:=by omega
    have hpm:fR b m=b++[m]:=by unfold fR;rw [hj]
    have hany:(b.any fun x=>x.n==m.n)=false:=by rw [FI,hj];rfl
    simp only [Option.isSome_none,aQ,aB,ak,if_pos e2,Int.le_refl,if_true,nb,VT,VU,bh,aL,ae,ag,aU,Wt,VV,hx',Xt,aE,Sg.e,aD,aH,sX,Fo,aw,MY,ft,w,vV m.n _ b 0 hany,hpm,vW]
    simp [Sg.e,ZJ]
   |some j=>
    obtain ⟨hj1,hj2⟩:=ew hj
    have hn:b[j].n=m.n:=by simpa using hj2
    have hpm:fR b m=b.set j m:=by unfold fR;rw [hj]
    have e2:(j:Int)<b.length:=by omega
    simp only [Zx,a9,MX,sn,hj,Xt,Nat.zero_add,List.tail_cons,aE,aD,aB,ak,if_pos (WN j),aA,if_pos e2,nb,VT,VU,bh,aL,ae,ag,aU,Wt,VV,hx',Sg.e,aH,sY,oB,ft,w,hpm,vX m b 0 j hj1 hn,ZI]
    simp only [k9.next.injEq,List.cons.injEq,true_and,and_true,D.aF.injEq]
    apply ZF
    intro x
    rw [ZG,VV,VV,ZH]
    by_cases hjx:j=x
    ·subst hjx
     simp [hj1,Sg.e]
    ·simp [hjx])
  (fun b hb=>by simp [lj]) out ⟨by omega,by omega⟩
theorem nD (ms:List Sg): ∀out:List Sg,(ms.foldl fR out).length≤out.length+ms.length:=by
 induction ms with
 |nil=>intro out;simp
 |cons m ms ih=>
  intro out
  have:=ih (fR out m)
  have:=zD out m
  simp only [ZM,V8]
  omega
theorem Nc {out:List Sg} {m x:Sg} (h:x∈fR out m):x∈out∨x=m:=by
 unfold fR at h
 split at h
 ·exact List.mem_or_eq_of_mem_set h
 ·rcases List.mem_append.1 h with h |h
  ·exact .inl h
  ·exact .inr (List.mem_singleton.1 h)
theorem wI {ms:List Sg}: ∀{out:List Sg} {x:Sg},x∈ms.foldl fR out→x∈out∨x∈ms:=by
 induction ms with
 |nil=>intro out x h;exact .inl h
 |cons m ms ih=>
  intro out x h
  rcases ih h with h |h
  ·rcases Nc h with h |h
   ·exact .inl h
   ·exact .inr (h▸V2 ..)
  ·exact .inr (V3 _ h)
theorem ss {t:List Cl} {s:bn} {m:Sg} (h:m∈methodsOf t s): ∃c∈chain t s,m∈c.m:=by
 have key: ∀(l:List Cl) (out:List Sg) (x:Sg),x∈l.foldl (fun out c=>c.m.foldl fR out) out→x∈out∨∃c∈l,x∈c.m:=by
  intro l
  induction l with
  |nil=>intro out x h;exact .inl h
  |cons c l ih=>
   intro out x h
   rcases ih _ _ h with h |⟨d,h1,h2⟩
   ·rcases wI h with h |h
    ·exact .inl h
    ·exact .inr ⟨c,V2 ..,h⟩
   ·exact .inr ⟨d,V3 _ h1,h2⟩
 rcases key _ _ _ h with h |⟨c,h1,h2⟩
 ·cases h
 ·exact ⟨c,List.mem_reverse.1 h1,h2⟩
theorem FJ (t:List Cl) (s:bn) (hs:eB t):Ok 241 [.c (eT t),.c (.str s)] (.c (.aF ((methodsOf t s).map Sg.e)))∧(methodsOf t s).length≤820:=by
 have h3:=hs.len
 have hcl:=dX t s
 have hm0: ∀c∈(chain t s).reverse,c.m.length≤20:=fun c hc=>hs.m c (fF (List.mem_reverse.1 hc))
 have lenk: ∀(l:List Cl) (out:List Sg),(∀c∈l,c.m.length≤20)→(l.foldl (fun out c=>c.m.foldl fR out) out).length≤out.length+20*l.length:=by
  intro l
  induction l with
  |nil=>intro out _;simp
  |cons c l ih=>
   intro out h
   have q1:=ih (c.m.foldl fR out) fun x hx=>h x (V3 _ hx)
   have q2:=nD c.m out
   have q3:=h c (V2 ..)
   simp only [ZM,V8]
   omega
 have hlen:(methodsOf t s).length≤820:=by
  have:=lenk _ [] hm0
  simp only [ZL,ZK] at this
  unfold methodsOf
  omega
 refine ⟨?_,hlen⟩
 refine lL (l:=[eT t,.str s]) Qm (by simp) (by simp) ?_
 unfold KC
 refine ai rfl (FH t s (by omega)) (by simp) (by simp) (by simp) (by simp [eR]) ?_
 have hL:=Ce (aF:=(chain t s).reverse) (enc:=fun k (b:List Sg)=>[.int .i64 b.length,eR (chain t s).reverse,.int .i64 k,.aF (cr 0 b),.int .i64 b.length,.aF (b.map Sg.e)]) (I:=fun k b=>b.length≤20*k∧k≤41) (g:=fun c b=>c.m.foldl fR b) (fin:=fun b=>[.int .i64 b.length,.aF (cr 0 b),.int .i64 b.length,.aF (b.map Sg.e)]) G9 (fun _ _=>rfl)
  (fun k b c hk hI hx=>by
   have hk':k<41:=by simp at hk;omega
   have w:=bj hk (by simp;omega)
   have hc:c∈t:=fF (List.mem_reverse.1 (hx▸Wv hk))
   have hx':(chain t s).reverse[k]? =some c:=by rw [Wj hk,hx]
   have hk2:(k:Int)<((chain t s).length:Int):=by simp at hk;omega
   have hb:=nD c.m b
   have hcm:=hs.m c hc
   refine aq (.next [.int .i64 (c.m.foldl fR b).length,eR (chain t s).reverse,.int .i64 ((k+1:Nat):Int),.aF (cr 0 (c.m.foldl fR b)),.int .i64 (c.m.foldl fR b).length,.aF ((c.m.foldl fR b).map Sg.e)]) ?_ ⟨rfl,by omega,by omega⟩
   unfold rC
   simp only [ah,bh,aL,ae,ag,eR,aw,ZD,ZK,aA,ak,if_pos hk2,aB,if_pos (WN k)]
   refine ar rfl (Nb b c.m (eR (chain t s).reverse) k (by omega) hcm (hs.p c hc)) ?_ ?_
   ·simp only [VT,VU,bh,aL,ae,ag,aU,Wt,VV,hx',Xt,aE,aD,Cl.e,aH,eR]
   ·simp [w,eR])
  (fun b hb=>by simp [rC,eR]) [] ⟨by simp,by omega⟩
 refine ar rfl hL (by simp [cr]) ?_
 simp [methodsOf]
 rw [ZJ]
 simp
structure Mb where
 n:bn
 k:Int
deriving DecidableEq
def qz (x:Mb):List D:=[.str x.n,.int .i64 x.k]
@[simp] theorem RD {x:Mb}:aW [.str,.int .i64] (qz x)=True:=by simp [qz]
def dH (t:List Cl) (s:bn):List Mb:=(fieldsOf t s).map (fun v=>Mb.mk v.n (-1))++(methodsOf t s).map fun m=>Mb.mk m.n m.p.length
theorem lC {α β:Type} (f:α→β): ∀(l:List α) (b:List β),l.foldl (fun b x=>b++[f x]) b=b++l.map f
 |[],b=>by simp
 |x::l,b=>by simp [lC f l]
theorem zE (t:List Cl) (s:bn) (hs:eB t):Ok 208 [.c (eT t),.c (.str s)] (.c (.aF ((dH t s).map qz)))∧(dH t s).length≤1640:=by
 obtain ⟨hM,hml⟩:=FJ t s hs
 have hfl:=oU hs s
 refine ⟨?_,by unfold dH;simp;omega⟩
 refine lL (l:=[eT t,.str s]) Qk (by simp) (by simp) ?_
 unfold Kz
 refine ai rfl (zB t s hs) (by simp) (by simp) (by simp) (by simp) ?_
 have hL:=Ce (aF:=fieldsOf t s) (enc:=fun k (b:List Mb)=>[eT t,.str s,.aF (b.map qz),.aF ((fieldsOf t s).map Vr.e),.int .i64 k]) (I:=fun k b=>b.length=k) (g:=fun v b=>b++[⟨v.n,-1⟩]) (fin:=fun b=>[eT t,.str s,.aF (b.map qz)]) G7 (fun _ _=>rfl)
  (fun k b x hk hI hx=>by
   have w:=bj hk (by omega)
   have e1:((k:Nat):Int)≤100000000:=by omega
   simp [rA,hk,hx,w,e1,Vr.e,hI,qz])
  (fun b hb=>by simp [rA]) [] rfl
 rw [lC] at hL
 refine ar rfl hL (by simp) ?_
 simp only [al]
 refine ⟨rfl,?_⟩
 refine ai rfl hM (by simp) (by simp) (by simp) (by simp) ?_
 have hL2:=Ce (aF:=methodsOf t s) (enc:=fun k (b:List Mb)=>[.aF (b.map qz),.aF ((methodsOf t s).map Sg.e),.int .i64 k]) (I:=fun k b=>b.length≤1000+k) (g:=fun m b=>b++[⟨m.n,m.p.length⟩]) (fin:=fun b=>[.aF (b.map qz)]) G8 (fun _ _=>rfl)
  (fun k b x hk hI hx=>by
   have w:=bj hk (by omega)
   have e1:((b.length:Nat):Int)≤100000000:=by omega
   simp [rB,hk,hx,w,e1,Sg.e,qz];omega)
  (fun b hb=>by simp [rB]) ([]++(fieldsOf t s).map (fun v=>Mb.mk v.n (-1))) (by simp;omega)
 rw [lC] at hL2
 refine ar rfl hL2 (by simp) ?_
 simp [dH]
theorem Nd (t:List Cl) (s q:bn) (hs:eB t): ∃n b,Ok 154 [.c (eT t),.c (.str s),.c (.str q)] (.jO [.c (.int .i64 n),.c (.bool b)]):=by
 obtain ⟨hM,hml⟩:=zE t s hs
 obtain ⟨r,⟨n,b,rfl⟩,h⟩:=xU (l:=[eT t,.str s,.str q]) (R:=fun r=>∃n b,r= .jO [.c (.int .i64 n),.c (.bool b)]) (ds:=[.c (eT t),.c (.str s),.c (.str q)]) Qf (by simp) (by simp) (by
  unfold Ku
  refine ai rfl hM (by simp) (by simp) (by simp) (by simp) ?_
  generalize dH t s=l at*
  have hL:=xW (aF:=l) (enc:=fun k=>[.aF (l.map qz),.int .i64 k,.str q]) (p:=fun v=>v.n==q) (o:=fun j=>[.int .i64 j,.str q]) (e:=[.str q]) G5 (fun _=>rfl)
   (fun k x hk hx=>by
    have w:=bj hk (by omega)
    by_cases hp:x.n=q<;>simp [rz,hk,hx,qz,hp,w])
   (by simp [rz])
  refine ar rfl hL (by simp) ?_
  cases hj:l.findIdx? (fun v=>v.n==q) with
  |none=>simp
  |some j=>obtain ⟨hj1,hj2⟩:=ew hj;simp [hj1,qz])
 exact ⟨n,b,h⟩
theorem Nf (l:List Mb) (x:Mb) (hl:l.length≤100000):Ok 259 [.c (.aF (l.map qz)),.agg (qz x)] (.c (.bool (decide (x∈l)))):=by
 have h270:Ok 270 [.c (.aF (l.map qz)),.agg (qz x)] (.c (.int .i64 (match l.findIdx? (fun y=>decide (x=y)) with |some j=>(j:Int) |none=> -1))):=by
  refine lL (l:=[.aF (l.map qz),.str x.n,.int .i64 x.k]) Qp (by simp [qz]) (by simp) ?_
  unfold KF
  have hL:=xW (aF:=l) (enc:=fun k=>[.aF (l.map qz),.int .i64 k,.str x.n,.int .i64 x.k]) (p:=fun y=>decide (x=y)) (o:=fun j=>[.int .i64 j,.str x.n,.int .i64 x.k]) (e:=[.str x.n,.int .i64 x.k]) Ha (fun _=>rfl)
   (fun k y hk hx=>by
    have w:=bj hk (by omega)
    by_cases h1:x.n=y.n
    ·by_cases h2:x.k=y.k
     ·have:x=y:=by cases x;cases y;cases h1;cases h2;rfl
      simp [kh,hk,hx,qz,w,this]
     ·have: ¬x=y:=fun e=>h2 (by rw [e])
      simp [kh,hk,hx,qz,w,this,h1,h2]
    ·have: ¬x=y:=fun e=>h1 (by rw [e])
     simp [kh,hk,hx,qz,w,this,h1])
   (by simp [kh])
  refine ar rfl hL (by simp) ?_
  cases hj:l.findIdx? (fun y=>decide (x=y))<;>simp
 refine lL (l:=[.aF (l.map qz),.str x.n,.int .i64 x.k]) Qo (by simp [qz]) (by simp) ?_
 unfold KE
 refine ai rfl h270 (by simp [qz]) (by simp) (by simp) (by simp) ?_
 cases hj:l.findIdx? (fun y=>decide (x=y)) with
 |none=>
  have:x∉l:=fun hm=>by simp at hj;exact hj x hm rfl
  simp [this]
 |some j=>
  obtain ⟨h1,h2⟩:=ew hj
  have:x∈l:=by rw [of_decide_eq_true h2];exact Wv h1
  simp [this]
def hasB (t:List Cl) (s u:bn):Bool:=(cls t s).isSome&&((cls t u).isSome&&(dH t u).all fun x=>decide (x∈dH t s))
theorem Ng (t:List Cl) (s u:bn) (hs:eB t):Ok 242 [.c (eT t),.c (.str s),.c (.str u)] (.c (.bool (hasB t s u))):=by
 have hl:=hs.len
 obtain ⟨hM,hml⟩:=zE t s hs
 obtain ⟨hU,hul⟩:=zE t u hs
 refine lL (l:=[eT t,.str s,.str u]) Qn (by simp) (by simp) ?_
 unfold KD hasB
 refine ai rfl (dS t s (by omega)) (by simp) (by simp) (by simp) (by simp) ?_
 refine ai rfl (dS t u (by omega)) (by simp) (by simp) (by simp) (by simp) ?_
 cases h1:(cls t s).isSome
 ·simp
 cases h2:(cls t u).isSome
 ·simp
 simp
 refine ai rfl hM (by simp) (by simp) (by simp) (by simp) ?_
 refine ai rfl hU (by simp) (by simp) (by simp) (by simp) ?_
 generalize dH t s=a at*
 generalize dH t u=b at*
 have hL:=xW (aF:=b) (enc:=fun k=>[.aF (a.map qz),.aF (b.map qz),.int .i64 k]) (p:=fun x=> !decide (x∈a)) (o:=fun j=>[]) (e:=[]) D7 (fun _=>rfl)
  (fun k x hk hx=>by
   have w:=bj hk (by omega)
   have e1:(k:Int)<b.length:=by omega
   have hx':b[k]? =some x:=by rw [Wj hk,hx]
   simp only [oH,ah,bh,aL,ae,ag,aw,ZD,aA,ak,if_pos e1,aB,if_pos (WN k)]
   refine ai rfl (Nf a x (by omega)) (by simp [hx',qz]) (by simp) (by simp) (by simp) ?_
   by_cases hm:x∈a<;>simp [hm,w])
  (by simp [oH])
 refine ar rfl hL (by simp) ?_
 cases hj:b.findIdx? (fun x=> !decide (x∈a)) with
 |none=>
  have: ∀x∈b,x∈a:=fun x hx=>by simp at hj;exact hj x hx
  simpa using this
 |some j=>
  obtain ⟨h1,h2⟩:=ew hj
  have: ¬∀x∈b,x∈a:=fun h=>by have:=h _ (Wv h1);simp [this] at h2
  simp
  exact ⟨b[j],Wv h1,by simpa using h2⟩
def gA (t:List Cl) (n k:bn):Prop:=(n≠[]→nC n=true)∧qk k=true∧(lA k=true→(cls t k).isSome=true)
theorem vY {t:List Cl} {n k:bn} {w:Int} (h:named t n k w) (hw:w=0):gA t n k:=h hw
structure RF (t:List Cl) (i:Nat) (c:Cl):Prop where
 n:lA c.n=true
 at_:fh t c.n=some i
 f:c.f.length≤20
 m:c.m.length≤20
 p: ∀m∈c.m,m.p.length≤8
def QF (t:List Cl) (c:Cl):Prop:=c.s≠[]→(cls t c.s).isSome=true
structure QG (t:List Cl) (c:Cl) (m:Sg):Prop where
 p: ∀p∈m.p,p.n≠[]∧gA t p.n p.t
 r:gA t [] m.r
 o: ∀x o,methodOf t c.s m.n=some (x,o)→x.r=m.r∧x.p.length=m.p.length
structure Uh (t:List Cl) (c:Cl):Prop where
 f: ∀v∈c.f,v.n≠[]∧gA t v.n v.t
 m: ∀m∈c.m,QG t c m
 d:(c.m.map (·.n)).Nodup
structure Hn (t:List Cl):Prop where
 len:t.length≤40
 sz: ∀(i:Nat) (h:i<t.length),RF t i t[i]
 ln: ∀c∈t,QF t c
 ow: ∀c∈t,Uh t c
theorem kl {t:List Cl} (h1:t.length≤40) (h2: ∀(i:Nat) (h:i<t.length),RF t i t[i]):eB t:=
 ⟨h1,fun c hc=>let ⟨i,hi,e⟩:=List.mem_iff_getElem.1 hc;e▸(h2 i hi).f,fun c hc=>let ⟨i,hi,e⟩:=List.mem_iff_getElem.1 hc;e▸(h2 i hi).m,
  fun c hc m hm=>by obtain ⟨i,hi,rfl⟩:=List.mem_iff_getElem.1 hc;have:=(h2 i hi).p m hm;omega⟩
theorem Nh (l:List Sg) (h:l.length≤1000): ∃i os,((i=0∧∃j:Nat,os=[.int .i64 j])∨(i=1∧os=[]∧∀m∈l,m.p.length≤8))∧Is zr [.aF (l.map Sg.e),.int .i64 0] i os:=by
 have hL:=xW (aF:=l) (enc:=fun k=>[.aF (l.map Sg.e),.int .i64 k]) (p:=fun m=>decide (8<m.p.length)) (o:=fun j=>[.int .i64 j]) (e:=[]) Hc (fun _=>rfl)
  (fun k x hk hx=>by
   have w:=bj hk (by omega)
   by_cases hp:8<x.p.length
   ·have hp':(8:Int)<x.p.length:=by omega
    simp [nf,hk,hx,Sg.e,hp,hp',w]
   ·have hp': ¬(8:Int)<x.p.length:=by omega
    simp [nf,hk,hx,Sg.e,hp,hp',w])
  (by simp [nf])
 refine ⟨_,_,?_,hL⟩
 cases hj:l.findIdx? (fun m=>decide (8<m.p.length)) with
 |none=>exact .inr ⟨rfl,rfl,fun m hm=>by simp at hj;exact hj m hm⟩
 |some j=>exact .inl ⟨rfl,j,rfl⟩
theorem QH (t:List Cl) (i:Nat) (hi:i<t.length) (hl:t.length≤40): ∃j os,(os=[eT t,.int .i64 i]∧j≤3∧(j=3→RF t i t[i]))∧Is UO [eT t,.int .i64 i] j os:=by
 refine HB Ta rfl ?_
 have e1:(i:Int)<t.length:=by omega
 have hx':t[i]? =some t[i]:=Wj hi
 generalize hc:t[i]=c at hx'⊢
 unfold OK
 simp only [ah,bh,aL,ae,ag,aB,ak,if_pos (WN i),eT,aw,ZD,aA,if_pos e1]
 refine ai rfl (dS t c.n (by omega)) (by simp [eT,hx',Cl.e]) (by simp) (by simp) (by simp) ?_
 refine ai rfl (s6 c.n) (by simp [hx',Cl.e]) (by simp) (by simp) (by simp) ?_
 obtain ⟨k,hk⟩: ∃k,fh t c.n=some k:=by
  cases h:fh t c.n with
  |some k=>exact ⟨k,rfl⟩
  |none=>
   unfold fh at h
   simp at h
   exact absurd rfl (h c (hc▸Wv hi))
 have hki:k≤i:=by
  obtain ⟨_,_,h3⟩:=List.findIdx?_eq_some_iff_getElem.1 hk
  rcases Nat.lt_or_ge i k with h |h
  ·have:=h3 i h;simp [hc] at this
  ·exact h
 simp only [aI,aR,XZ,WB,Xl,ah,bh,aL,ae,ag,aP,hk,X3]
 cases hw:lA c.n
 ·simp only [ZN,a9]
  exact aq (.exit 0 [eT t,.int .i64 i]) (by simp [eT]) ⟨_,_,rfl,rfl,by omega,fun h=>by omega⟩
 simp only [Zy,aQ,aA,ak,aU,Wt,VV,hx',Xt,aE,Cl.e,aD,aH,aw,ZD,aX]
 by_cases h1:(k:Int)<i
 ·rw [if_pos h1]
  exact aq (.exit 1 [eT t,.int .i64 i]) (by simp [eT]) ⟨_,_,rfl,rfl,by omega,fun h=>by omega⟩
 rw [if_neg h1]
 obtain rfl:k=i:=by omega
 by_cases h2:(20:Int)<c.f.length
 ·rw [if_pos h2]
  exact aq (.exit 2 [eT t,.int .i64 k]) (by simp [eT]) ⟨_,_,rfl,rfl,by omega,fun h=>by omega⟩
 rw [if_neg h2]
 by_cases h3:(20:Int)<c.m.length
 ·rw [if_pos h3]
  exact aq (.exit 2 [eT t,.int .i64 k]) (by simp [eT]) ⟨_,_,rfl,rfl,by omega,fun h=>by omega⟩
 rw [if_neg h3]
 obtain ⟨j,os,hQ,hL⟩:=Nh c.m (by omega)
 refine ar rfl hL (by simp [hx',Cl.e]) ?_
 rcases hQ with ⟨rfl,n,rfl⟩ |⟨rfl,rfl,hQ⟩
 ·simp only [al,V8,ZL,true_and]
  exact aq (.exit 2 [eT t,.int .i64 k]) (by simp [eT]) ⟨_,_,rfl,rfl,by omega,fun h=>by omega⟩
 ·simp only [ay,al,ZL,true_and]
  exact aq (.exit 3 [eT t,.int .i64 k]) (by simp [eT]) ⟨_,_,rfl,rfl,by omega,fun _=>⟨hw,hk,by omega,by omega,hQ⟩⟩
theorem Ni (t:List Cl) (hl:t.length≤40): ∃j os,((j≤2∧∃n:Int,os=[eT t,.int .i64 n])∨(j=3∧(∃n:Int,os=[eT t,eT t,.int .i64 n])∧∀(i:Nat) (h:i<t.length),RF t i t[i]))∧Is rE [eT t,.int .i64 0,eT t,.int .i64 0] j os:=by
 have:=db (aF:=t) (enc:=fun k (n:Int)=>[eT t,.int .i64 k,eT t,.int .i64 n]) (I:=fun k _=>∀(i:Nat) (h:i<t.length),i<k→RF t i t[i])
  (Q:=fun j os=>(j≤2∧∃n:Int,os=[eT t,.int .i64 n])∨(j=3∧(∃n:Int,os=[eT t,eT t,.int .i64 n])∧∀(i:Nat) (h:i<t.length),RF t i t[i])) Ca (fun _ _=>rfl)
  (fun k n c hk hI hx=>by
   have w:=bj hk (by omega)
   have e1:(k:Int)<t.length:=by omega
   unfold mK
   simp only [ah,bh,aL,ae,ag,eT,aw,ZD,aA,ak,if_pos e1]
   obtain ⟨j,os,⟨rfl,hj,hS⟩,hL⟩:=QH t k hk hl
   refine ar rfl hL (by simp [eT]) ?_
   match j,hj with
   |0,_=>simp only [al,V8,ZL,true_and];exact aq (.exit 0 [eT t,.int .i64 k]) (by simp [eT]) (.inl ⟨_,_,rfl,.inl ⟨by omega,_,rfl⟩⟩)
   |1,_=>simp only [ay,al,V8,ZL,true_and];exact aq (.exit 1 [eT t,.int .i64 k]) (by simp [eT]) (.inl ⟨_,_,rfl,.inl ⟨by omega,_,rfl⟩⟩)
   |2,_=>simp only [ay,al,V8,ZL,true_and];exact aq (.exit 2 [eT t,.int .i64 k]) (by simp [eT]) (.inl ⟨_,_,rfl,.inl ⟨by omega,_,rfl⟩⟩)
   |3,_=>
    simp only [ay,al,V8,ZL,true_and]
    refine aq (.next [eT t,.int .i64 ((k+1:Nat):Int),eT t,.int .i64 k]) (by simp [eT,w]) (.inr ⟨(k:Int),rfl,fun i h h2=>?_⟩)
    by_cases hik:i=k
    ·subst hik;exact hS rfl
    ·exact hI i h (by omega))
  (fun n hI=>by
   refine aq (.exit 3 [eT t,eT t,.int .i64 n]) (by simp [mK,eT]) ⟨_,_,rfl,.inr ⟨rfl,⟨n,rfl⟩,fun i h=>hI i h h⟩⟩) (0:Int) (fun i h h2=>by omega)
 exact this
theorem K5 {t:List Cl} {s:bn} (h:(cls t s).isSome=true):chain t s≠[]:=by
 obtain ⟨c,hc⟩:=Option.isSome_iff_exists.1 h
 unfold chain cH
 rw [hc]
 simp
theorem QI (t:List Cl) (i:Nat) (hi:i<t.length) (hl:t.length≤40): ∃j os,(os=[eT t,.int .i64 i]∧j≤2∧(j=2→QF t t[i]))∧Is UP [eT t,.int .i64 i] j os:=by
 refine HB Tb rfl ?_
 have e1:(i:Int)<t.length:=by omega
 have hx':t[i]? =some t[i]:=Wj hi
 have hin:(cls t t[i].n).isSome=true:=by
  cases h:cls t t[i].n with
  |some c=>rfl
  |none=>
   unfold cls at h
   simp at h
   exact absurd rfl (h t[i] (Wv hi))
 generalize hc:t[i]=c at hx' hin⊢
 have hne:=K5 hin
 have hcl:=dX t c.n
 unfold OL
 simp only [ah,bh,aL,ae,ag,aB,ak,if_pos (WN i),eT,aw,ZD,aA,if_pos e1]
 refine ai rfl (dS t c.s (by omega)) (by simp [eT,hx',Cl.e]) (by simp) (by simp) (by simp) ?_
 have hlast:0<(chain t c.n).length:=List.length_pos_iff.2 hne
 have w:IntKind.i64.wrap (((chain t c.n).length:Int) - 1)=(((chain t c.n).length - 1:Nat):Int):=by rw [WJ _ (by omega)];omega
 have e2:(((chain t c.n).length - 1:Nat):Int)<(chain t c.n).length:=by omega
 have e3:(chain t c.n).length - 1<(chain t c.n).length:=by omega
 obtain ⟨k,hk⟩: ∃k,fh t ((chain t c.n)[(chain t c.n).length - 1]).n=some k:=by
  have:=lB t _ _ _ _ (Wv e3)
  have h2:=lz (t:=t) (s:=((chain t c.n)[(chain t c.n).length - 1]).n)
  rw [show cls t ((chain t c.n)[(chain t c.n).length - 1]).n=some _ from this] at h2
  exact Option.isSome_iff_exists.1 h2
 obtain ⟨hk1,hk2⟩:=gR hk
 have e4:(k:Int)<t.length:=by omega
 have tail: ∀(hb:QF t c) (b:Bool) (x:Int),W [(106,none),(61,none)] [] (.call 1 [.tm tT (.var 0),.tm .str (.op (.cell 0) [.op .zZ [.var 0,.var 1]])] (.tm tL (.var 4)) 1
  (.split (.op (.cmp .leq) [.int .i64 0,.op (.kp .sub .i64) [.op .len [.var 4],.int .i64 1]])
   (.split (.op (.cmp .lss) [.op (.kp .sub .i64) [.op .len [.var 4],.int .i64 1],.op .len [.var 4]])
    (.call 0 [.tm tT (.var 0),.tm .str (.op (.cell 0) [.op .zZ [.var 4,.op (.kp .sub .i64) [.op .len [.var 4],.int .i64 1]]])] (.tuple [.tm (.int .i64) (.var 5),.tm .bool (.var 6)]) 2
     (.split (.op (.cmp .leq) [.int .i64 0,.var 5])
      (.split (.op (.cmp .lss) [.var 5,.op .len [.var 0]])
       (.split (.op (.kr .eql) [.op (.cell 1) [.op .zZ [.var 0,.var 5]],.op (.cell 0) [.op .zZ [.var 0,.var 1]]])
        (.exit 1 [.var 0,.var 1])
        (.exit 2 [.var 0,.var 1]))
       (.dead))
      (.dead)))
    (.dead))
   (.dead))) [eT t,.int .i64 i,.int .i64 x,.bool b] fun o=>∃j os,o= .exit j os∧os=[eT t,.int .i64 i]∧j≤2∧(j=2→QF t c):=by
  intro hb b x
  refine ai rfl (rI t c.n (by omega)) (by simp [eT,hx',Cl.e]) (by simp) (by simp) (by simp) ?_
  simp only [aI,WB,Xl,ah,bh,aL,ae,ag,eL,dj,aw,ZD,ba,w,aB,ak,if_pos (WN _),aA,if_pos e2]
  refine ai rfl (dS t ((chain t c.n)[(chain t c.n).length - 1]).n (by omega)) (by simp [dj,eL,eS,w,e3]) (by simp) (by simp) (by simp) ?_
  simp only [aI,aR,XZ,hk,X3,WB,Xl,ah,bh,aL,ae,ag,aB,ak,if_pos (WN k),eT,aw,ZD,aA,if_pos e4,aU,Wt,VV,Wj hk1,hx',Xt,aE,Cl.e,aH,aD,aJ]
  by_cases hq:t[k].s=c.n
  ·rw [if_pos hq]
   exact aq (.exit 1 [eT t,.int .i64 i]) (by simp [eT]) ⟨_,_,rfl,rfl,by omega,fun h=>by omega⟩
  ·rw [if_neg hq]
   exact aq (.exit 2 [eT t,.int .i64 i]) (by simp [eT]) ⟨_,_,rfl,rfl,by omega,fun _=>hb⟩
 simp only [aI,aR,XZ,WB,Xl,ah,bh,aL,ae,ag,aU,Wt,VV,hx',Xt,aE,Cl.e,aH,aD,aM,aP,aC,ak]
 by_cases hs:c.s=[]
 ·rw [if_pos hs]
  exact tail (fun h=>absurd hs h) _ _
 ·rw [if_neg hs]
  cases hf:(cls t c.s).isSome
  ·simp only [aQ]
   exact aq (.exit 0 [eT t,.int .i64 i]) (by simp [eT]) ⟨_,_,rfl,rfl,by omega,fun h=>by omega⟩
  ·simp only [a9]
   exact tail (fun _=>hf) _ _
theorem Nj (t:List Cl) (n0:Int) (hl:t.length≤40): ∃j os,((j≤1∧∃n:Int,os=[eT t,.int .i64 n])∨(j=2∧(∃n:Int,os=[eT t,eT t,.int .i64 n])∧∀c∈t,QF t c))∧Is mL [eT t,.int .i64 0,eT t,.int .i64 n0] j os:=by
 have:=db (aF:=t) (enc:=fun k (n:Int)=>[eT t,.int .i64 k,eT t,.int .i64 n]) (I:=fun k _=>∀(i:Nat) (h:i<t.length),i<k→QF t t[i])
  (Q:=fun j os=>(j≤1∧∃n:Int,os=[eT t,.int .i64 n])∨(j=2∧(∃n:Int,os=[eT t,eT t,.int .i64 n])∧∀c∈t,QF t c)) wF (fun _ _=>rfl)
  (fun k n c hk hI hx=>by
   have w:=bj hk (by omega)
   have e1:(k:Int)<t.length:=by omega
   unfold jD
   simp only [ah,bh,aL,ae,ag,eT,aw,ZD,aA,ak,if_pos e1]
   obtain ⟨j,os,⟨rfl,hj,hS⟩,hL⟩:=QI t k hk hl
   refine ar rfl hL (by simp [eT]) ?_
   match j,hj with
   |0,_=>simp only [al,V8,ZL,true_and];exact aq (.exit 0 [eT t,.int .i64 k]) (by simp [eT]) (.inl ⟨_,_,rfl,.inl ⟨by omega,_,rfl⟩⟩)
   |1,_=>simp only [ay,al,V8,ZL,true_and];exact aq (.exit 1 [eT t,.int .i64 k]) (by simp [eT]) (.inl ⟨_,_,rfl,.inl ⟨by omega,_,rfl⟩⟩)
   |2,_=>
    simp only [ay,al,V8,ZL,true_and]
    refine aq (.next [eT t,.int .i64 ((k+1:Nat):Int),eT t,.int .i64 k]) (by simp [eT,w]) (.inr ⟨(k:Int),rfl,fun i h h2=>?_⟩)
    by_cases hik:i=k
    ·subst hik;exact hS rfl
    ·exact hI i h (by omega))
  (fun n hI=>by
   refine aq (.exit 2 [eT t,eT t,.int .i64 n]) (by simp [jD,eT]) ⟨_,_,rfl,.inr ⟨rfl,⟨n,rfl⟩,fun c hc=>?_⟩⟩
   obtain ⟨i,h,rfl⟩:=List.mem_iff_getElem.1 hc
   exact hI i h h) n0 (fun i h h2=>by omega)
 exact this
theorem Nk (t:List Cl) (i:Nat) (hi:i<t.length) (hs:eB t) (v:Vr) (fs:List bn) (hf:fs.length≤1000): ∃j os,((j=0∧os=[eL fs,eT t,.int .i64 i])∨
 (j=1∧∃w fs',os=[.int .i64 w,eL fs',eT t,.int .i64 i]∧fs'.length≤fs.length+1∧(w=0→v.n≠[]∧gA t v.n v.t)))∧Is Qu [.str v.n,.str v.t,eT t,.int .i64 i,eL fs] j os:=by
 have hl:=hs.len
 refine HB Qv rfl ?_
 have e1:(i:Int)<t.length:=by omega
 have hx':t[i]? =some t[i]:=Wj hi
 generalize t[i]=c at hx'
 unfold KK
 simp only [ah,bh,aL,ae,ag,aJ,ak]
 by_cases h0:v.n=[]
 ·rw [if_pos h0]
  exact aq (.exit 0 [eL fs,eT t,.int .i64 i]) (by simp) ⟨_,_,rfl,.inl ⟨rfl,rfl⟩⟩
 rw [if_neg h0]
 obtain ⟨w,hw,hF⟩:=zA t v.n v.t (by omega)
 refine ai rfl hF (by simp) (by simp) (by simp) (by simp) ?_
 simp only [aI,WB,Xl,ah,bh,aL,ae,ag,aT,aC,ak]
 by_cases hw0:w=0
 case neg=>
  rw [if_neg hw0]
  exact aq (.exit 1 [.int .i64 w,eL fs,eT t,.int .i64 i]) (by simp) ⟨_,_,rfl,.inr ⟨rfl,_,_,rfl,by omega,fun h=>absurd h hw0⟩⟩
 rw [if_pos hw0]
 simp only [aB,ak,if_pos (WN i),eT,aw,ZD,aA,if_pos e1]
 obtain ⟨n,b,hA⟩:=Nd t c.s v.n hs
 refine ai rfl hA (by simp [eT,hx',Cl.e]) (by simp) (by simp) (by simp) ?_
 simp only [aI,aR,XZ,WB,Xl,ah,bh,aL,ae,ag]
 cases b
 case true=>
  simp only [a9]
  exact aq (.exit 1 [.int .i64 8,eL fs,eT t,.int .i64 i]) (by simp [eT]) ⟨_,_,rfl,.inr ⟨rfl,_,_,rfl,by omega,fun h=>by omega⟩⟩
 simp only [aQ]
 refine ai rfl (gZ fs v.n (by omega)) (by simp) (by simp) (by simp) (by simp) ?_
 simp only [aI,WB,Xl,ah,bh,aL,ae,ag,ak]
 by_cases hm:v.n∈fs
 ·rw [if_pos hm]
  exact aq (.exit 1 [.int .i64 8,eL fs,eT t,.int .i64 i]) (by simp [eT]) ⟨_,_,rfl,.inr ⟨rfl,_,_,rfl,by omega,fun h=>by omega⟩⟩
 rw [if_neg hm]
 have e2:((fs.length:Nat):Int)≤100000000:=by omega
 simp only [eL,aw,ZD,aB,ak,if_pos e2]
 exact aq (.exit 1 [.int .i64 0,eL (fs++[v.n]),eT t,.int .i64 i]) (by simp [eL,e2,eT,eS]) ⟨_,_,rfl,.inr ⟨rfl,_,_,rfl,by simp,fun _=>⟨h0,vY hw hw0⟩⟩⟩
def K6 (t:List Cl) (i:Nat) (fv:List Vr) (j:Nat) (os:List D):Prop:=
 (j=0∧∃fs,os=[eT t,.int .i64 i,eL fs])∨(j=1∧∃(w:Int) (fs:List bn),w≠0∧os=[.int .i64 w,eT t,.int .i64 i,eL fs])∨(j=2∧∃fs:List bn,fs.length≤1000∧os=[eL fs,eT t,.int .i64 i]∧∀v∈fv,v.n≠[]∧gA t v.n v.t)
theorem Nl (t:List Cl) (i:Nat) (hi:i<t.length) (hs:eB t) (fv:List Vr) (hf:fv.length≤20): ∃j os,K6 t i fv j os∧Is Eb [.aF (fv.map Vr.e),.int .i64 0,eT t,.int .i64 i,.aF []] j os:=by
 have:=db (aF:=fv) (enc:=fun k (fs:List bn)=>[.aF (fv.map Vr.e),.int .i64 k,eT t,.int .i64 i,eL fs]) (I:=fun k fs=>fs.length≤k∧k≤20∧∀(x:Nat) (h:x<fv.length),x<k→fv[x].n≠[]∧gA t fv[x].n fv[x].t)
  (Q:=K6 t i fv) KL (fun _ _=>rfl)
  (fun k fs v hk hI hx=>by
   have w:=bj hk (by omega)
   have e1:(k:Int)<fv.length:=by omega
   have hx':fv[k]? =some v:=by rw [Wj hk,hx]
   unfold vE
   simp only [ah,bh,aL,ae,ag,aw,ZD,aA,ak,if_pos e1,aB,if_pos (WN k)]
   obtain ⟨j,os,hQ,hL⟩:=Nk t i hi hs v fs (by omega)
   refine ar rfl hL (by simp [hx',Vr.e]) ?_
   rcases hQ with ⟨rfl,rfl⟩ |⟨rfl,w',fs',rfl,hl',hN⟩
   ·simp only [al,V8,ZL,true_and]
    exact aq (.exit 0 [eT t,.int .i64 i,eL fs]) (by simp) (.inl ⟨_,_,rfl,.inl ⟨rfl,_,rfl⟩⟩)
   ·simp only [ay,al,V8,ZL,true_and,ah,bh,aL,WB,Xl,ae,ag,aT,aC,ak]
    by_cases hw0:w'=0
    ·rw [if_pos hw0]
     refine aq (.next [.aF (fv.map Vr.e),.int .i64 ((k+1:Nat):Int),eT t,.int .i64 i,eL fs']) (by simp [w]) (.inr ⟨fs',rfl,by omega,by omega,fun x h h2=>?_⟩)
     by_cases hxk:x=k
     ·subst hxk;rw [hx];exact hN hw0
     ·exact hI.2.2 x h (by omega)
    ·rw [if_neg hw0]
     exact aq (.exit 1 [.int .i64 w',eT t,.int .i64 i,eL fs']) (by simp) (.inl ⟨_,_,rfl,.inr (.inl ⟨rfl,_,_,hw0,rfl⟩)⟩))
  (fun fs hI=>aq (.exit 2 [eL fs,eT t,.int .i64 i]) (by simp [vE]) ⟨_,_,rfl,.inr (.inr ⟨rfl,fs,by omega,rfl,fun v hv=>by
   obtain ⟨x,h,rfl⟩:=List.mem_iff_getElem.1 hv
   exact hI.2.2 x h h⟩)⟩) [] ⟨by simp,by omega,fun x h h2=>by omega⟩
 exact this
def K7 (t:List Cl) (i:Nat) (m:Sg) (fs ms:List bn) (j:Nat) (os:List D):Prop:=
 (j=0∧∃a b c d,os=[eL ms,a,b,c,d,eL fs,eT t,.int .i64 i])∨(j=1∧∃(w:Int) (a b c d:D),w≠0∧os=[.int .i64 w,eL ms,a,b,c,d,eL fs,eT t,.int .i64 i])∨
  (j=2∧∃a,os=[eL ms,a,eL fs,.str m.n,.aF (m.p.map Vr.e),.str m.r,eT t,.int .i64 i]∧∀p∈m.p,p.n≠[]∧gA t p.n p.t)
theorem Nm (t:List Cl) (i:Nat) (hs:eB t) (m:Sg) (fs ms:List bn) (hp:m.p.length≤10): ∃j os,K7 t i m fs ms j os∧Is vF [.aF [],.aF (m.p.map Vr.e),.int .i64 0,eT t,.int .i64 i,eL fs,eL ms,.str m.n,.str m.r] j os:=by
 have hl:=hs.len
 have:=db (aF:=m.p) (enc:=fun k (came:List bn)=>[eL came,.aF (m.p.map Vr.e),.int .i64 k,eT t,.int .i64 i,eL fs,eL ms,.str m.n,.str m.r]) (I:=fun k came=>came.length≤k∧k≤10∧∀(x:Nat) (h:x<m.p.length),x<k→m.p[x].n≠[]∧gA t m.p[x].n m.p[x].t)
  (Q:=K7 t i m fs ms) Ec (fun _ _=>rfl)
  (fun k came p hk hI hx=>by
   have w:=bj hk (by omega)
   have e1:(k:Int)<m.p.length:=by omega
   have hx':m.p[k]? =some p:=by rw [Wj hk,hx]
   unfold oO
   simp only [ah,bh,aL,ae,ag,aw,ZD,aA,ak,if_pos e1,aB,if_pos (WN k),aU,Wt,VV,hx',Xt,aE,Vr.e,aD,aH,aJ]
   by_cases h0:p.n=[]
   ·rw [if_pos h0]
    exact aq (.exit 0 [eL ms,eL came,.str m.n,.aF (m.p.map Vr.e),.str m.r,eL fs,eT t,.int .i64 i]) (by simp) (.inl ⟨_,_,rfl,.inl ⟨rfl,_,_,_,_,rfl⟩⟩)
   rw [if_neg h0]
   obtain ⟨w',hw,hF⟩:=zA t p.n p.t (by omega)
   refine ai rfl hF (by simp [hx',Vr.e]) (by simp) (by simp) (by simp) ?_
   simp only [aI,WB,Xl,ah,bh,aL,ae,ag,aT,aC,ak]
   by_cases hw0:w'=0
   case neg=>
    rw [if_neg hw0]
    exact aq (.exit 1 [.int .i64 w',eL ms,eL came,.str m.n,.aF (m.p.map Vr.e),.str m.r,eL fs,eT t,.int .i64 i]) (by simp) (.inl ⟨_,_,rfl,.inr (.inl ⟨rfl,_,_,_,_,_,hw0,rfl⟩)⟩)
   rw [if_pos hw0]
   refine ai rfl (gZ came p.n (by omega)) (by simp [hx',Vr.e]) (by simp) (by simp) (by simp) ?_
   simp only [aI,WB,Xl,ah,bh,aL,ae,ag,ak]
   by_cases hm:p.n∈came
   ·rw [if_pos hm]
    exact aq (.exit 1 [.int .i64 8,eL ms,eL came,.str m.n,.aF (m.p.map Vr.e),.str m.r,eL fs,eT t,.int .i64 i]) (by simp) (.inl ⟨_,_,rfl,.inr (.inl ⟨rfl,_,_,_,_,_,by omega,rfl⟩)⟩)
   rw [if_neg hm]
   have e2:((came.length:Nat):Int)≤100000000:=by omega
   simp only [eL,aw,ZD,aB,ak,if_pos e2]
   refine aq (.next [eL (came++[p.n]),.aF (m.p.map Vr.e),.int .i64 ((k+1:Nat):Int),eT t,.int .i64 i,eL fs,eL ms,.str m.n,.str m.r]) (by simp [eL,e2,hx',Vr.e,eS,w]) (.inr ⟨came++[p.n],rfl,by simp;omega,by omega,fun x h h2=>?_⟩)
   by_cases hxk:x=k
   ·subst hxk;rw [hx];exact ⟨h0,vY hw hw0⟩
   ·exact hI.2.2 x h (by omega))
  (fun came hI=>aq (.exit 2 [eL ms,eL came,eL fs,.str m.n,.aF (m.p.map Vr.e),.str m.r,eT t,.int .i64 i]) (by simp [oO]) ⟨_,_,rfl,.inr (.inr ⟨rfl,_,rfl,fun v hv=>by
   obtain ⟨x,h,rfl⟩:=List.mem_iff_getElem.1 hv
   exact hI.2.2 x h h⟩)⟩) [] ⟨by simp,by omega,fun x h h2=>by omega⟩
 exact this
theorem Nn (a b:List Vr) (hl:b.length≤a.length) (ha:b.length≤1000): ∃j os,(j≤1∧os=[])∧Is zt [.aF (a.map Vr.e),.aF (b.map Vr.e),.int .i64 0] j os:=
 db (aF:=b) (enc:=fun k (_:Unit)=>[.aF (a.map Vr.e),.aF (b.map Vr.e),.int .i64 k]) (I:=fun _ _=>True) Hd (fun _ _=>rfl)
  (fun k u x hk _ hx=>by
   have w:=bj hk (by omega)
   have e1:(k:Int)<b.length:=by omega
   have e2:(k:Int)<a.length:=by omega
   have e3:k<a.length:=by omega
   by_cases h:x.t=a[k].t<;>simp [rF,hk,e3,hx,Vr.e,w,h])
  (fun u _=>by simp [rF]) () trivial
theorem zG {t:List Cl} {s q:bn} {m:Sg} {o:bn} (h:methodOf t s q=some (m,o)): ∃c∈chain t s,m∈c.m∧m.n=q∧o=c.n:=by
 unfold methodOf at h
 obtain ⟨c,hc,h⟩:=List.exists_of_findSome?_eq_some h
 unfold eC at h
 obtain ⟨m',h1,h2⟩:=Option.map_eq_some_iff.1 h
 cases h2
 exact ⟨c,hc,Zv h1,by simpa using Zw h1,rfl⟩
theorem No (t:List Cl) (i:Nat) (hi:i<t.length) (hs:eB t) (m:Sg) (fs ms:List bn) (hp:m.p.length≤10) (hf:fs.length≤1000) (hms:ms.length≤1000): ∃j os,((j=0∧os=[eL ms,eL fs,eT t,.int .i64 i])∨
 (j=1∧∃w ms',os=[.int .i64 w,eL ms',eL fs,eT t,.int .i64 i]∧(w=0→m.n∉ms∧ms'=ms++[m.n]∧QG t t[i] m)))∧Is Qw [.str m.n,.aF (m.p.map Vr.e),.str m.r,eT t,.int .i64 i,eL fs,eL ms] j os:=by
 have hl:=hs.len
 refine HB Qx rfl ?_
 have e1:(i:Int)<t.length:=by omega
 have hx':t[i]? =some t[i]:=Wj hi
 generalize t[i]=c at hx'⊢
 unfold KM
 refine ai rfl (zy m.n) (by simp) (by simp) (by simp) (by simp) ?_
 simp only [aI,WB,Xl,ah,bh,aL,ae,ag,aP]
 cases hn:nC m.n
 ·simp only [ZN,a9]
  exact aq (.exit 0 [eL ms,eL fs,eT t,.int .i64 i]) (by simp) ⟨_,_,rfl,.inl ⟨rfl,rfl⟩⟩
 simp only [Zy,aQ]
 obtain ⟨j,os,hQ,hL⟩:=Nm t i hs m fs ms hp
 refine ar rfl hL (by simp) ?_
 rcases hQ with ⟨rfl,a,b,c',d,rfl⟩ |⟨rfl,w,a,b,c',d,hw0,rfl⟩ |⟨rfl,a,rfl,hPar⟩
 ·simp only [al,V8,ZL,true_and]
  exact aq (.exit 0 [eL ms,eL fs,eT t,.int .i64 i]) (by simp) ⟨_,_,rfl,.inl ⟨rfl,rfl⟩⟩
 ·simp only [ay,al,V8,ZL,true_and]
  exact aq (.exit 1 [.int .i64 w,eL ms,eL fs,eT t,.int .i64 i]) (by simp) ⟨_,_,rfl,.inr ⟨rfl,_,_,rfl,fun h=>absurd h hw0⟩⟩
 simp only [ay,al,V8,ZL,true_and,WB,Xl]
 obtain ⟨w,hw,hF⟩:=zA t [] m.r (by omega)
 refine ai rfl hF (by simp) (by simp) (by simp) (by simp) ?_
 simp only [aI,WB,Xl,ah,bh,aL,ae,ag,aT,aC,ak]
 by_cases hw0:w=0
 case neg=>
  rw [if_neg hw0]
  exact aq (.exit 1 [.int .i64 w,eL ms,eL fs,eT t,.int .i64 i]) (by simp) ⟨_,_,rfl,.inr ⟨rfl,_,_,rfl,fun h=>absurd h hw0⟩⟩
 rw [if_pos hw0]
 simp only [aB,ak,if_pos (WN i),eT,aw,ZD,aA,if_pos e1]
 refine ai rfl (zC t c.s m.n hs) (by simp [eT,hx',Cl.e]) (by simp) (by simp) (by simp) ?_
 simp only [aI,aR,XZ,WB,Xl,ah,bh,aL,ae,ag]
 have e8: ∀ms',(8:Int)=0→m.n∉ms∧ms'=ms++[m.n]∧QG t c m:=fun _ h=>by omega
 have e10: ∀ms',(10:Int)=0→m.n∉ms∧ms'=ms++[m.n]∧QG t c m:=fun _ h=>by omega
 cases hfo:(ng t c.s m.n).isSome
 case true=>
  simp only [a9]
  exact aq (.exit 1 [.int .i64 8,eL ms,eL fs,eT t,.int .i64 i]) (by simp [eT]) ⟨_,_,rfl,.inr ⟨rfl,_,_,rfl,e8 _⟩⟩
 simp only [aQ]
 refine ai rfl (gZ fs m.n (by omega)) (by simp) (by simp) (by simp) (by simp) ?_
 simp only [aI,WB,Xl,ah,bh,aL,ae,ag,ak]
 by_cases hm1:m.n∈fs
 ·rw [if_pos hm1]
  exact aq (.exit 1 [.int .i64 8,eL ms,eL fs,eT t,.int .i64 i]) (by simp [eT]) ⟨_,_,rfl,.inr ⟨rfl,_,_,rfl,e8 _⟩⟩
 rw [if_neg hm1]
 refine ai rfl (gZ ms m.n (by omega)) (by simp) (by simp) (by simp) (by simp) ?_
 simp only [aI,WB,Xl,ah,bh,aL,ae,ag,ak]
 by_cases hm2:m.n∈ms
 ·rw [if_pos hm2]
  exact aq (.exit 1 [.int .i64 8,eL ms,eL fs,eT t,.int .i64 i]) (by simp [eT]) ⟨_,_,rfl,.inr ⟨rfl,_,_,rfl,e8 _⟩⟩
 rw [if_neg hm2]
 have e2:((ms.length:Nat):Int)≤100000000:=by omega
 simp only [eL,aw,ZD,aB,ak,if_pos e2]
 have fin: ∀(hO: ∀x o,methodOf t c.s m.n=some (x,o)→x.r=m.r∧x.p.length=m.p.length) (j:Nat) (os:List D),(j,os)=(1,[D.int .i64 0,eL (ms++[m.n]),eL fs,eT t,.int .i64 i])→
  (j=0∧os=[eL ms,eL fs,eT t,.int .i64 i])∨(j=1∧∃w ms',os=[.int .i64 w,eL ms',eL fs,eT t,.int .i64 i]∧(w=0→m.n∉ms∧ms'=ms++[m.n]∧QG t c m)):=fun hO j os h=>by
  cases h
  exact .inr ⟨rfl,_,_,rfl,fun _=>⟨hm2,rfl,hPar,vY hw hw0,hO⟩⟩
 have hM:=ql t c.s m.n hs
 cases hmo:methodOf t c.s m.n with
 |none=>
  rw [hmo] at hM
  refine ai rfl hM (by simp [eT,hx',Cl.e]) (by simp) (by simp) (by simp) ?_
  exact aq (.exit 1 [.int .i64 0,eL (ms++[m.n]),eL fs,eT t,.int .i64 i]) (by simp [eL,eT,eS]) ⟨_,_,rfl,fin (fun x o h=>by rw [hmo] at h;cases h) _ _ rfl⟩
 |some r=>
  obtain ⟨x,o⟩:=r
  rw [hmo] at hM
  obtain ⟨cx,hcx,hxm,_,_⟩:=zG hmo
  have hxp:x.p.length≤10:=hs.p cx (fF hcx) x hxm
  refine ai rfl hM (by simp [eT,hx',Cl.e]) (by simp [Sg.e]) (by simp [Sg.e]) (by simp [Sg.e]) ?_
  simp only [aI,aR,Sg.e,XZ,WB,Xl,ah,bh,aL,ae,ag,a9,aM,aC,ak,aw,ZD,aT]
  by_cases hr:x.r=m.r
  case neg=>
   rw [if_neg hr]
   exact aq (.exit 1 [.int .i64 10,eL (ms++[m.n]),eL fs,eT t,.int .i64 i]) (by simp [eL,eT,eS]) ⟨_,_,rfl,.inr ⟨rfl,_,_,rfl,e10 _⟩⟩
  rw [if_pos hr]
  by_cases hpl:(x.p.length:Int)=m.p.length
  case neg=>
   rw [if_neg hpl]
   exact aq (.exit 1 [.int .i64 10,eL (ms++[m.n]),eL fs,eT t,.int .i64 i]) (by simp [eL,eT,eS]) ⟨_,_,rfl,.inr ⟨rfl,_,_,rfl,e10 _⟩⟩
  rw [if_pos hpl]
  obtain ⟨j,os,⟨hj,rfl⟩,hL⟩:=Nn m.p x.p (by omega) (by omega)
  refine ar rfl hL (by simp) ?_
  match j,hj with
  |0,_=>
   simp only [al,ZL,true_and]
   exact aq (.exit 1 [.int .i64 10,eL (ms++[m.n]),eL fs,eT t,.int .i64 i]) (by simp [eL,eT,eS]) ⟨_,_,rfl,.inr ⟨rfl,_,_,rfl,e10 _⟩⟩
  |1,_=>
   simp only [ay,al,ZL,true_and]
   exact aq (.exit 1 [.int .i64 0,eL (ms++[m.n]),eL fs,eT t,.int .i64 i]) (by simp [eL,eT,eS]) ⟨_,_,rfl,fin (fun x' o' h=>by rw [hmo] at h;cases h;exact ⟨hr,by omega⟩) _ _ rfl⟩
def K8 (t:List Cl) (i:Nat) (c:Cl) (fs:List bn) (j:Nat) (os:List D):Prop:=
 (j=0∧∃ms,os=[eL fs,eT t,.int .i64 i,eL ms])∨(j=1∧∃(w:Int) (ms:List bn),w≠0∧os=[.int .i64 w,eL fs,eT t,.int .i64 i,eL ms])∨(j=2∧os=[eL (c.m.map (·.n)),eL fs,eT t,.int .i64 i]∧(∀m∈c.m,QG t c m)∧(c.m.map (·.n)).Nodup)
theorem Np (t:List Cl) (i:Nat) (hi:i<t.length) (hs:eB t) (fs:List bn) (hf:fs.length≤1000): ∃j os,K8 t i t[i] fs j os∧Is zu [.aF (t[i].m.map Sg.e),.int .i64 0,eT t,.int .i64 i,eL fs,.aF []] j os:=by
 have hmem:=Wv hi
 have hm20:=hs.m _ hmem
 have:=db (aF:=t[i].m) (enc:=fun k (ms:List bn)=>[.aF (t[i].m.map Sg.e),.int .i64 k,eT t,.int .i64 i,eL fs,eL ms]) (I:=fun k ms=>ms=(t[i].m.take k).map (·.n)∧k≤20∧((t[i].m.take k).map (·.n)).Nodup∧∀m∈t[i].m.take k,QG t t[i] m)
  (Q:=K8 t i t[i] fs) He (fun _ _=>rfl)
  (fun k ms m hk hI hx=>by
   obtain ⟨rfl,hI2,hI3,hI4⟩:=hI
   have w:=bj hk (by omega)
   have e1:(k:Int)<t[i].m.length:=by omega
   have hx':t[i].m[k]? =some m:=by rw [Wj hk,hx]
   have hmp:=hs.p _ hmem m (hx▸Wv hk)
   unfold rG
   simp only [ah,bh,aL,ae,ag,aw,ZD,aA,ak,if_pos e1,aB,if_pos (WN k)]
   obtain ⟨j,os,hQ,hL⟩:=No t i hi hs m fs ((t[i].m.take k).map (·.n)) hmp hf (by simp;omega)
   refine ar rfl hL (by simp [hx',Sg.e]) ?_
   rcases hQ with ⟨rfl,rfl⟩ |⟨rfl,w',ms',rfl,hN⟩
   ·simp only [al,V8,ZL,true_and]
    exact aq (.exit 0 [eL fs,eT t,.int .i64 i,eL ((t[i].m.take k).map (·.n))]) (by simp) (.inl ⟨_,_,rfl,.inl ⟨rfl,_,rfl⟩⟩)
   ·simp only [ay,al,V8,ZL,true_and,ah,bh,aL,WB,Xl,ae,ag,aT,aC,ak]
    by_cases hw0:w'=0
    ·rw [if_pos hw0]
     obtain ⟨q1,rfl,q3⟩:=hN hw0
     have ht:t[i].m.take (k+1)=t[i].m.take k++[m]:=by rw [ZC hk,hx]
     refine aq (.next [.aF (t[i].m.map Sg.e),.int .i64 ((k+1:Nat):Int),eT t,.int .i64 i,eL fs,eL ((t[i].m.take k).map (·.n)++[m.n])]) (by simp [w]) (.inr ⟨_,rfl,by rw [ht];simp,by omega,?_,?_⟩)
     ·rw [ht,ZE,Zz]
      exact ⟨hI3,by simp,fun a ha b hb=>by simp only [VT,VU,List.mem_singleton] at hb;subst hb;exact fun e=>q1 (e▸ha)⟩
     ·intro x hx2
      rw [ht] at hx2
      rcases List.mem_append.1 hx2 with h |h
      ·exact hI4 x h
      ·rw [List.mem_singleton.1 h];exact q3
    ·rw [if_neg hw0]
     exact aq (.exit 1 [.int .i64 w',eL fs,eT t,.int .i64 i,eL ms']) (by simp) (.inl ⟨_,_,rfl,.inr (.inl ⟨rfl,_,_,hw0,rfl⟩)⟩))
  (fun ms hI=>by
   obtain ⟨rfl,hI2,hI3,hI4⟩:=hI
   rw [List.take_length] at*
   exact aq (.exit 2 [eL (t[i].m.map (·.n)),eL fs,eT t,.int .i64 i]) (by simp [rG]) ⟨_,_,rfl,.inr (.inr ⟨rfl,rfl,hI4,hI3⟩)⟩) [] ⟨by simp,by omega,by simp,fun m hm=>by simp at hm⟩
 exact this
def U1 (t:List Cl) (i:Nat) (c:Cl) (j:Nat) (os:List D):Prop:=
 (j=0∧∃a b f,os=[a,b,eT t,.int .i64 i,f])∨(j=1∧∃(w:Int) (a b f:D),w≠0∧os=[.int .i64 w,a,b,eT t,.int .i64 i,f])∨(j=2∧∃a b f m,os=[a,b,eT t,.int .i64 i,f,m])∨
  (j=3∧∃(w:Int) (a b:D) (f m:List bn),os=[.int .i64 w,a,b,eT t,.int .i64 i,eL f,eL m]∧(w=0→Uh t c))
theorem QJ (t:List Cl) (i:Nat) (hi:i<t.length) (hs:eB t) (d2 d3:D): ∃j os,U1 t i t[i] j os∧Is UQ [eT t,.int .i64 i,d2,d3] j os:=by
 refine HB Tc rfl ?_
 have e1:(i:Int)<t.length:=by omega
 have hx':t[i]? =some t[i]:=Wj hi
 unfold OM
 simp only [ah,bh,aL,ae,ag,aB,ak,if_pos (WN i),eT,aw,ZD,aA,if_pos e1]
 obtain ⟨j,os,hQ,hL⟩:=Nl t i hi hs t[i].f (hs.f _ (Wv hi))
 refine ar rfl hL (by simp [eT,hi,Cl.e]) ?_
 rcases hQ with ⟨rfl,fs,rfl⟩ |⟨rfl,w,fs,hw,rfl⟩ |⟨rfl,fs,hfs,rfl,hF⟩
 ·simp only [al,V8,ZL,true_and]
  exact aq (.exit 0 [d3,d2,eT t,.int .i64 i,eL fs]) (by simp [eT]) ⟨_,_,rfl,.inl ⟨rfl,_,_,_,rfl⟩⟩
 ·simp only [ay,al,V8,ZL,true_and]
  exact aq (.exit 1 [.int .i64 w,d3,d2,eT t,.int .i64 i,eL fs]) (by simp [eT]) ⟨_,_,rfl,.inr (.inl ⟨rfl,_,_,_,_,hw,rfl⟩)⟩
 simp only [ay,al,V8,ZL,true_and,ah,bh,aL,WB,Xl,ae,ag,aB,ak,if_pos (WN i),eT,aw,ZD,aA,if_pos e1]
 obtain ⟨j,os,hQ,hL⟩:=Np t i hi hs fs hfs
 refine ar rfl hL (by simp [eT,hi,Cl.e]) ?_
 rcases hQ with ⟨rfl,ms,rfl⟩ |⟨rfl,w,ms,hw,rfl⟩ |⟨rfl,rfl,hM,hD⟩
 ·simp only [al,V8,ZL,true_and]
  exact aq (.exit 2 [d3,d2,eT t,.int .i64 i,eL fs,eL ms]) (by simp [eT]) ⟨_,_,rfl,.inr (.inr (.inl ⟨rfl,_,_,_,_,rfl⟩))⟩
 ·simp only [ay,al,V8,ZL,true_and]
  exact aq (.exit 3 [.int .i64 w,d3,d2,eT t,.int .i64 i,eL fs,eL ms]) (by simp [eT]) ⟨_,_,rfl,.inr (.inr (.inr ⟨rfl,_,_,_,_,_,rfl,fun h=>absurd h hw⟩))⟩
 ·simp only [ay,al,V8,ZL,true_and]
  exact aq (.exit 3 [.int .i64 0,d3,d2,eT t,.int .i64 i,eL fs,eL (t[i].m.map (·.n))]) (by simp [eT]) ⟨_,_,rfl,.inr (.inr (.inr ⟨rfl,_,_,_,_,_,rfl,fun _=>⟨hF,hM,hD⟩⟩))⟩
def TE (t:List Cl) (j:Nat) (os:List D):Prop:=
 (j=0∧∃(a b c:D) (n:Int),os=[a,b,eT t,.int .i64 n,c])∨(j=1∧∃(a b c:D) (n w:Int),w≠0∧os=[a,b,eT t,.int .i64 n,c,.int .i64 w])∨(j=2∧∃(a b c d:D) (n:Int),os=[a,b,eT t,.int .i64 n,c,d])∨
  (j=3∧∃(a b c d:D) (n w:Int),w≠0∧os=[a,b,eT t,.int .i64 n,c,d,.int .i64 w])∨(j=4∧os.length=5∧∀c∈t,Uh t c)
theorem Nq (t:List Cl) (n0:Int) (hs:eB t): ∃j os,TE t j os∧Is mM [eT t,.int .i64 0,eT t,.int .i64 n0,.aF [],.aF []] j os:=by
 have hl:=hs.len
 have:=db (aF:=t) (enc:=fun k (b:Int×List bn×List bn)=>[eT t,.int .i64 k,eT t,.int .i64 b.1,eL b.2.1,eL b.2.2]) (I:=fun k _=>∀(i:Nat) (h:i<t.length),i<k→Uh t t[i])
  (Q:=TE t) wG (fun _ _=>rfl)
  (fun k b c hk hI hx=>by
   have w:=bj hk (by omega)
   have e1:(k:Int)<t.length:=by omega
   unfold jE
   simp only [ah,bh,aL,ae,ag,eT,aw,ZD,aA,ak,if_pos e1]
   obtain ⟨j,os,hQ,hL⟩:=QJ t k hk hs (eL b.2.1) (eL b.2.2)
   refine ar rfl hL (by simp [eT]) ?_
   rcases hQ with ⟨rfl,a,b',f,rfl⟩ |⟨rfl,w',a,b',f,hw,rfl⟩ |⟨rfl,a,b',f,m,rfl⟩ |⟨rfl,w',a,b',f,m,rfl,hO⟩
   ·simp only [al,V8,ZL,true_and]
    exact aq (.exit 0 [a,b',eT t,.int .i64 k,f]) (by simp [eT]) (.inl ⟨_,_,rfl,.inl ⟨rfl,_,_,_,_,rfl⟩⟩)
   ·simp only [ay,al,V8,ZL,true_and,ah,bh,aL,WB,Xl,ae,ag,aT,aC,ak,if_neg hw]
    exact aq (.exit 1 [a,b',eT t,.int .i64 k,f,.int .i64 w']) (by simp [eT]) (.inl ⟨_,_,rfl,.inr (.inl ⟨rfl,_,_,_,_,_,hw,rfl⟩)⟩)
   ·simp only [ay,al,V8,ZL,true_and]
    exact aq (.exit 2 [a,b',eT t,.int .i64 k,f,m]) (by simp [eT]) (.inl ⟨_,_,rfl,.inr (.inr (.inl ⟨rfl,_,_,_,_,_,rfl⟩))⟩)
   ·simp only [ay,al,V8,ZL,true_and,ah,bh,aL,WB,Xl,ae,ag,aT,aC,ak]
    by_cases hw:w'=0
    ·rw [if_pos hw]
     refine aq (.next [eT t,.int .i64 ((k+1:Nat):Int),eT t,.int .i64 k,eL f,eL m]) (by simp [w,eT]) (.inr ⟨((k:Int),f,m),rfl,fun i h h2=>?_⟩)
     by_cases hik:i=k
     ·subst hik;exact hO hw
     ·exact hI i h (by omega)
    ·rw [if_neg hw]
     exact aq (.exit 3 [a,b',eT t,.int .i64 k,eL f,eL m,.int .i64 w']) (by simp [eT]) (.inl ⟨_,_,rfl,.inr (.inr (.inr (.inl ⟨rfl,_,_,_,_,_,_,hw,rfl⟩)))⟩))
  (fun b hI=>aq (.exit 4 [eT t,eL b.2.2,eL b.2.1,eT t,.int .i64 b.1]) (by simp [jE,eT]) ⟨_,_,rfl,.inr (.inr (.inr (.inr ⟨rfl,rfl,fun c hc=>by
   obtain ⟨i,h,rfl⟩:=List.mem_iff_getElem.1 hc
   exact hI i h h⟩)))⟩) (n0,[],[]) (fun i h h2=>by omega)
 exact this
theorem zH (t:List Cl): ∃w a,(w=0→a=0∧Hn t)∧Ok 43 [.c (eT t)] (.agg [.int .i64 w,.int .i64 a]):=by
 obtain ⟨r,⟨w,a,hw,rfl⟩,h⟩:=xU (l:=[eT t]) (R:=fun r=>∃(w a:Int),(w=0→a=0∧Hn t)∧r= .agg [.int .i64 w,.int .i64 a]) (ds:=[.c (eT t)]) Td (by simp) (by simp) (by
  unfold ON
  simp only [ah,bh,aL,ae,eT,aw,ZD,aX,ak]
  by_cases hl:(40:Int)<t.length
  ·rw [if_pos hl]
   exact aq (.ret (.agg [.int .i64 12,.int .i64 40])) (by simp) ⟨_,rfl,_,_,fun h=>by omega,rfl⟩
  rw [if_neg hl]
  have hl':t.length≤40:=by omega
  obtain ⟨j,os,hQ,hL⟩:=Ni t hl'
  refine ar rfl hL (by simp [eT]) ?_
  rcases hQ with ⟨hj,n,rfl⟩ |⟨rfl,⟨n,rfl⟩,hS⟩
  ·match j,hj with
   |0,_=>simp only [al,V8,ZL,true_and];exact aq (.ret (.agg [.int .i64 5,.int .i64 n])) (by simp) ⟨_,rfl,_,_,fun h=>by omega,rfl⟩
   |1,_=>simp only [ay,al,V8,ZL,true_and];exact aq (.ret (.agg [.int .i64 8,.int .i64 n])) (by simp) ⟨_,rfl,_,_,fun h=>by omega,rfl⟩
   |2,_=>simp only [ay,al,V8,ZL,true_and];exact aq (.ret (.agg [.int .i64 12,.int .i64 n])) (by simp) ⟨_,rfl,_,_,fun h=>by omega,rfl⟩
  have hs:=kl hl' hS
  simp only [ay,al,V8,ZL,true_and,WB,Xl]
  obtain ⟨j,os,hQ,hL⟩:=Nj t n hl'
  refine ar rfl hL (by simp [eT]) ?_
  rcases hQ with ⟨hj,n,rfl⟩ |⟨rfl,⟨n,rfl⟩,hLn⟩
  ·match j,hj with
   |0,_=>simp only [al,V8,ZL,true_and];exact aq (.ret (.agg [.int .i64 6,.int .i64 n])) (by simp) ⟨_,rfl,_,_,fun h=>by omega,rfl⟩
   |1,_=>simp only [ay,al,V8,ZL,true_and];exact aq (.ret (.agg [.int .i64 9,.int .i64 n])) (by simp) ⟨_,rfl,_,_,fun h=>by omega,rfl⟩
  simp only [ay,al,V8,ZL,true_and,WB,Xl]
  obtain ⟨j,os,hQ,hL⟩:=Nq t n hs
  refine ar rfl hL (by simp [eT]) ?_
  rcases hQ with ⟨rfl,a,b,c,n,rfl⟩ |⟨rfl,a,b,c,n,w,hw,rfl⟩ |⟨rfl,a,b,c,d,n,rfl⟩ |⟨rfl,a,b,c,d,n,w,hw,rfl⟩ |⟨rfl,hos,hO⟩
  ·simp only [al,V8,ZL,true_and];exact aq (.ret (.agg [.int .i64 5,.int .i64 n])) (by simp) ⟨_,rfl,_,_,fun h=>by omega,rfl⟩
  ·simp only [ay,al,V8,ZL,true_and];exact aq (.ret (.agg [.int .i64 w,.int .i64 n])) (by simp) ⟨_,rfl,_,_,fun h=>absurd h hw,rfl⟩
  ·simp only [ay,al,V8,ZL,true_and];exact aq (.ret (.agg [.int .i64 5,.int .i64 n])) (by simp) ⟨_,rfl,_,_,fun h=>by omega,rfl⟩
  ·simp only [ay,al,V8,ZL,true_and];exact aq (.ret (.agg [.int .i64 w,.int .i64 n])) (by simp) ⟨_,rfl,_,_,fun h=>absurd h hw,rfl⟩
  ·match os,hos with
   |[_,_,_,_,_],_=>simp only [ay,al,V8,ZL,true_and];exact aq (.ret (.agg [.int .i64 0,.int .i64 0])) (by simp) ⟨_,rfl,_,_,fun _=>⟨rfl,hl',hS,hLn,hO⟩,rfl⟩)
 exact ⟨w,a,hw,h⟩
noncomputable def km (t:List Cl):Int:=ZA (zH t)
noncomputable def QK (t:List Cl):Int:=ZA (ZB (zH t))
theorem oW {t:List Cl} (h:km t=0):QK t=0∧Hn t:=(ZB (ZB (zH t))).1 h
theorem vZ (t:List Cl):Ok 43 [.c (eT t)] (.agg [.int .i64 (km t),.int .i64 (QK t)]):=(ZB (ZB (zH t))).2
noncomputable def dL (t:List Cl) (s u:bn):Bool:=decide (km t=0)&&(typed t s&&(typed t u&&(decide (s=u)||decide (u∈cG t s))))
theorem oX (t:List Cl) (s u:bn):Ok 40 [.c (eT t),.c (.str s),.c (.str u)] (.c (.bool (dL t s u))):=by
 refine lL (l:=[eT t,.str s,.str u]) SE (by simp) (by simp) ?_
 unfold Of dL
 refine ai rfl (vZ t) (by simp) (by simp) (by simp) (by simp) ?_
 simp only [aI,WB,Xl,ah,bh,aL,ae,ag,aV,ak]
 by_cases hw:km t=0
 case neg=>simp [hw]
 obtain ⟨ha,hT⟩:=oW hw
 have hl:=hT.len
 simp only [if_pos hw,if_pos ha,hw,decide_true,XF]
 refine ai rfl (td t s (by omega)) (by simp) (by simp) (by simp) (by simp) ?_
 simp only [aI,WB,Xl,ah,bh,aL,ae,ag,aP]
 cases h1:typed t s
 ·simp
 simp only [Zy,aQ,XF]
 refine ai rfl (td t u (by omega)) (by simp) (by simp) (by simp) (by simp) ?_
 simp only [aI,WB,Xl,ah,bh,aL,ae,ag,aP]
 cases h2:typed t u
 ·simp
 simp only [Zy,aQ,XF,aJ,ak]
 by_cases h3:s=u
 ·simp [h3]
 simp only [if_neg h3,decide_false,Bool.false_or]
 refine ai rfl (rI t s (by omega)) (by simp) (by simp) (by simp) (by simp) ?_
 refine ai rfl (gZ (cG t s) u (by rw [dj];have:=dX t s;simp;omega)) (by simp) (by simp) (by simp) (by simp) ?_
 simp [h3]
theorem lD {t:List Cl} (hw:km t=0) {s u:bn}:dL t s u=true↔typed t s=true∧typed t u=true∧(s=u∨u∈cG t s):=by
 unfold dL
 simp [hw]
theorem wa {t:List Cl} (hw:km t=0) {s:bn} (h:typed t s=true):dL t s s=true:=(lD hw).2 ⟨h,h,.inl rfl⟩
theorem wb (t:List Cl): ∀(n N:Nat) (came came0:List bn) (s:bn),n≤N→(∀x∈came0,x∈came)→cH t n came s<+:cH t N came0 s
 |0,N,came,came0,s,_,_=>by simp [cH]
 |n+1,0,came,came0,s,h,_=>by omega
 |n+1,N+1,came,came0,s,h,hs=>by
  unfold cH
  cases hc:cls t s with
  |none=>simp
  |some c=>
   by_cases hm:s∈came
   ·simp [hm]
   ·have hm0:s∉came0:=fun h=>hm (hs s h)
    simp only [if_neg hm,if_neg hm0]
    exact (List.prefix_cons_inj c).2 (wb t n N (came++[s]) (came0++[s]) c.s (by omega) fun x hx=>by
     rcases List.mem_append.1 hx with h |h
     ·exact List.mem_append_left _ (hs x h)
     ·exact XK _ h)
inductive Reach (t:List Cl):bn→Cl→Prop
 |here (s:bn) (c:Cl) (h:cls t s=some c):Reach t s c
 |on (s:bn) (c d:Cl) (h:cls t s=some c) (hr:Reach t c.s d):Reach t s d
theorem qm (t:List Cl): ∀(n:Nat) (came:List bn) (s:bn),∀c∈cH t n came s,Reach t s c
 |0,came,s=>by simp [cH]
 |n+1,came,s=>by
  unfold cH
  cases h:cls t s with
  |none=>simp
  |some c=>
   by_cases hm:s∈came
   ·simp [hm]
   ·simp only [if_neg hm,List.mem_cons]
    rintro x (rfl |hx)
    ·exact .here s x h
    ·exact .on s c x h (qm t n _ _ x hx)
theorem zI {t:List Cl} {s u:bn} (h:u∈cG t s): ∃c,c.n=u∧Reach t s c∧cls t u=some c:=by
 rw [dj] at h
 obtain ⟨c,hc,rfl⟩:=List.mem_map.1 h
 exact ⟨c,rfl,qm t _ _ _ c hc,lB t _ _ _ c hc⟩
noncomputable def lE (t:List Cl) (s u:bn):Option bn:=
 if km t=0∧typed t s=true∧typed t u=true then (if s=u then some s else (cG t s).find? fun x=>decide (x∈cG t u)) else none
def iZ (o:Option bn):DV:=match o with |some x=>.jO [.c (.str x),.c (.bool true)] |none=>.jO [.c (.str []),.c (.bool false)]
theorem Nr (t:List Cl) (s u:bn):Ok 119 [.c (eT t),.c (.str s),.c (.str u)] (iZ (lE t s u)):=by
 refine lL (l:=[eT t,.str s,.str u]) P6 (by simp) (by simp) ?_
 unfold Kk lE
 refine ai rfl (vZ t) (by simp) (by simp) (by simp) (by simp) ?_
 simp only [aI,WB,Xl,ah,bh,aL,ae,ag,aV,ak]
 by_cases hw:km t=0
 case neg=>simp [hw,iZ]
 obtain ⟨ha,hT⟩:=oW hw
 have hl:=hT.len
 simp only [if_pos hw,if_pos ha]
 refine ai rfl (td t s (by omega)) (by simp) (by simp) (by simp) (by simp) ?_
 simp only [aI,WB,Xl,ah,bh,aL,ae,ag,aP]
 cases h1:typed t s
 ·simp [iZ]
 simp only [Zy,aQ]
 refine ai rfl (td t u (by omega)) (by simp) (by simp) (by simp) (by simp) ?_
 simp only [aI,WB,Xl,ah,bh,aL,ae,ag,aP]
 cases h2:typed t u
 ·simp [iZ]
 simp only [Zy,aQ,aJ,ak]
 by_cases h3:s=u
 ·simp [h3,hw,iZ]
 simp only [if_neg h3,hw,true_and,and_self,if_true]
 refine ai rfl (rI t s (by omega)) (by simp) (by simp) (by simp) (by simp) ?_
 have hsl:(cG t s).length≤41:=by rw [dj];have:=dX t s;simp;omega
 have hul:(cG t u).length≤41:=by rw [dj];have:=dX t u;simp;omega
 generalize cG t s=l at*
 have hL:=Hi (aF:=l) (enc:=fun k (_:Unit)=>[eL l,.int .i64 k,.str u,eT t]) (I:=fun _ _=>True) (step:=fun k x _=>if x∈cG t u then .inl (0,[eL l,eT t,.str x,.str u]) else .inr ()) (fin:=fun _=>(1,[eL l,eT t,.str u])) Kj (fun _ _=>rfl)
  (fun k b x hk _ hx=>by
   have w:=bj hk (by omega)
   have e1:(k:Int)<l.length:=by omega
   have hx':l[k]? =some x:=by rw [Wj hk,hx]
   unfold vv
   simp only [ah,bh,aL,ae,ag,eL,aw,ZD,aA,ak,if_pos e1,aB,if_pos (WN k)]
   refine ai rfl (rI t u (by omega)) (by simp) (by simp) (by simp) (by simp) ?_
   refine ai rfl (gZ (cG t u) x (by omega)) (by simp [hx',eS]) (by simp) (by simp) (by simp) ?_
   by_cases hm:x∈cG t u<;>simp [hm,eL,hx',eS,w])
  (fun b _=>by simp [vv,eL]) () trivial
 have key: ∀(l':List bn) (k:Nat),gQ (fun k x (_:Unit)=>if x∈cG t u then .inl (0,[eL l,eT t,.str x,.str u]) else .inr ()) (fun _=>((1:Nat),[eL l,eT t,D.str u])) l' k ()=match l'.find? (fun x=>decide (x∈cG t u)) with |some x=>(0,[eL l,eT t,.str x,.str u]) |none=>(1,[eL l,eT t,.str u]):=by
  intro l'
  induction l' with
  |nil=>intro k;rfl
  |cons x l' ih=>
   intro k
   unfold gQ
   by_cases hm:x∈cG t u
   ·simp [hm]
   ·simp [hm,ih (k+1)]
 rw [key] at hL
 refine ar rfl hL (by simp [eT]) ?_
 cases hf:l.find? (fun x=>decide (x∈cG t u)) with
 |none=>simp [iZ]
 |some x=>simp [iZ]
theorem K9 {t:List Cl} {s u x:bn} (h:lE t s u=some x):km t=0∧dL t s x=true∧dL t u x=true:=by
 unfold lE at h
 split at h
 ·rename_i hc
  obtain ⟨hw,h1,h2⟩:=hc
  refine ⟨hw,?_⟩
  by_cases hsu:s=u
  ·rw [if_pos hsu] at h
   cases h
   subst hsu
   exact ⟨wa hw h1,wa hw h1⟩
  ·rw [if_neg hsu] at h
   have q1:=Zv h
   have q2:x∈cG t u:=by simpa using Zw h
   obtain ⟨c,rfl,_,hc⟩:=zI q1
   have hx:typed t c.n=true:=by unfold typed;rw [hc];rfl
   exact ⟨(lD hw).2 ⟨h1,hx,.inr q1⟩,(lD hw).2 ⟨h2,hx,.inr q2⟩⟩
 ·cases h
theorem sG {l:List Sg} (h:(l.map (·.n)).Nodup) {a b:Sg} (ha:a∈l) (hb:b∈l) (e:a.n=b.n):a=b:=by
 induction l with
 |nil=>cases ha
 |cons x l ih=>
  simp only [VT,List.nodup_cons] at h
  rcases List.mem_cons.1 ha with e1 |h1
  ·rcases List.mem_cons.1 hb with e2 |h2
   ·rw [e1,e2]
   ·exact absurd (List.mem_map.2 ⟨b,h2,by rw [←e,e1]⟩) h.1
  ·rcases List.mem_cons.1 hb with e2 |h2
   ·exact absurd (List.mem_map.2 ⟨a,h1,by rw [e,e2]⟩) h.1
   ·exact ih h.2 h1 h2
def firstM (l:List Cl) (q:bn):Option (Sg×bn):=l.findSome? fun c=>(eC c q).map fun m=>(m,c.n)
theorem lF {t:List Cl} (hT:Hn t): ∀(n:Nat) (came:List bn) (s:bn),n≤t.length+1→∀c∈cH t n came s,∀m∈c.m,∃x o,firstM (cH t n came s) m.n=some (x,o)∧x.p.length=m.p.length
 |0,came,s,_=>by simp [cH]
 |n+1,came,s,hn=>by
  unfold cH
  cases h:cls t s with
  |none=>simp
  |some c=>
   by_cases hm:s∈came
   ·simp [hm]
   ·simp only [if_neg hm]
    have hO:=hT.ow c (qj h).1
    intro d hd m hmd
    unfold firstM
    simp only [List.findSome?_cons]
    cases hmi:eC c m.n with
    |some x=>
     have hx:x∈c.m∧x.n=m.n:=by unfold eC at hmi;exact ⟨Zv hmi,by simpa using Zw hmi⟩
     refine ⟨x,c.n,rfl,?_⟩
     rcases List.mem_cons.1 hd with rfl |hd
     ·rw [sG hO.d hx.1 hmd hx.2]
     ·obtain ⟨y,o,q1,q2⟩:=lF hT n (came++[s]) c.s (by omega) d hd m hmd
      obtain ⟨r,hr⟩:=wb t n (t.length+1) (came++[s]) [] c.s (by omega) (by simp)
      have:methodOf t c.s x.n=some (y,o):=by
       unfold methodOf chain
       rw [←hr,List.findSome?_append,hx.2]
       unfold firstM at q1
       rw [q1]
       rfl
      rw [←(hO.m x hx.1).o y o this |>.2,q2]
    |none=>
     have hd':d∈cH t n (came++[s]) c.s:=by
      rcases List.mem_cons.1 hd with rfl |hd
      ·exfalso
       unfold eC at hmi
       simp at hmi
       exact hmi m hmd rfl
      ·exact hd
     obtain ⟨y,o,q1,q2⟩:=lF hT n (came++[s]) c.s (by omega) d hd' m hmd
     exact ⟨y,o,q1,q2⟩
theorem En {t:List Cl} (hT:Hn t) {s u:bn} (h:hasB t s u=true) {m:Sg} (hm:m∈methodsOf t u): ∃x o,methodOf t s m.n=some (x,o)∧x.p.length=m.p.length:=by
 unfold hasB at h
 simp only [Bool.and_eq_true,List.all_eq_true,decide_eq_true_eq] at h
 have hin:=h.2.2 ⟨m.n,m.p.length⟩ (by unfold dH;exact XK _ (List.mem_map.2 ⟨m,hm,rfl⟩))
 unfold dH at hin
 rcases List.mem_append.1 hin with hin |hin
 ·obtain ⟨v,_,hv⟩:=List.mem_map.1 hin
  have:=congrArg Mb.k hv
  simp only at this
  omega
 ·obtain ⟨m',hm',e⟩:=List.mem_map.1 hin
  obtain ⟨c,hc,hmc⟩:=ss hm'
  obtain ⟨x,o,q1,q2⟩:=lF hT (t.length+1) [] s (Nat.le_refl _) c hc m' hmc
  have e1:m'.n=m.n:=congrArg Mb.n e
  have e2:=congrArg Mb.k e
  simp only at e2
  rw [e1] at q1
  exact ⟨x,o,q1,by omega⟩
end
end Go.Proofs.Sai
