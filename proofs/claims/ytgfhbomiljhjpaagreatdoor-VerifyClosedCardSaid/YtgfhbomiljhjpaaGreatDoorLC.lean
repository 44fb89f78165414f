/- Part LC of the proof of VerifyClosed: texts of the interpreter and what it shows, under short names. No condition. -/
import Derived.Test.YtgfhbomiljhjpaaGreatDoorLB
set_option linter.unusedVariables false
set_option linter.unusedSimpArgs false
set_option linter.unusedSectionVars false
open Bool renaming not_false→X5,not_true→XQ
open Go.IntWalk renaming i64_in→U5
open Int renaming toNat_natCast→UM,eq_ofNat_of_zero_le→UL,natCast_nonneg→U9
open List renaming cons_append→UU,nil_append→VF,append_nil→XL,length_map→XV,getElem?_map→Ue,getElem?_eq_getElem→UB,mem_of_getElem?→XD,length_cons→Uq,length_nil→X3,map_cons→Uc,find?_cons→X8,map_take→X9,find?_map→Ya,drop_zero→Yb,eq_nil_of_length_eq_zero→UC,getElem?_set_ne→Yc,getElem?_set_self→Yd,replicate→UQ
open Nat renaming eq_zero_or_pos→VI
open Option renaming map_some→VN,isSome_none→VU,isSome_some→XP
open Option.some renaming inj→TZ
namespace Go.Proofs.Sai
section
open Go
def uD (m:Mo) (g:Fu) (o a:Int) (pops:List bo) (push:bo) (e:Int):Prop:=pops.length≤900∧(e=0→push=[]∨typed m.t push=true)∧(e=0→o=11∨o=12→0≤a∧a<g.k.length)
abbrev lQ (pops:List bo) (push:bo) (e:Int):DV:=.gf [.agg [eL pops,.str push],.c (.int .i64 e)]
abbrev To (m:Mo) (g:Fu) (o a:Int) (out:mu):Prop:=∃r,out= .ret r∧∃pops push e,uD m g o a pops push e∧r=lQ pops push e
section
variable {fids:List uY} {lds:List LD} {l:List D} {m:Mo} {g:Fu} {o a:Int}
theorem cb (e:Int) (he:e≠0):W fids lds (.ret (.tuple [.agg [.tm (.aY []) (.op .nil []),.str []],.int .i64 e])) l (To m g o a):=
 aH (.ret (lQ [] [] e)) (by simp [eL]) ⟨_,rfl,_,_,_,⟨by simp,fun h=>absurd h he,fun h=>absurd h he⟩,rfl⟩
theorem vd {p:PT} (pops:List bo) (push:bo) (h1:pops.length≤900) (h2:push=[]∨typed m.t push=true) (h3:o=11∨o=12→0≤a∧a<g.k.length) (h:W fids lds p l (fun o=>o= .ret (lQ pops push 0))):W fids lds p l (To m g o a):=
 aH _ h ⟨_,rfl,_,_,_,⟨h1,fun _=>h2,fun _=>h3⟩,rfl⟩
theorem fF {n:Nat} {args:List AV} {R:List DV→DV→Prop} {ds:List DV} {r:DV} {x0 x1 x2 x3 x4 x5 x6 x7 x8 x9 x10 x11:D} (h1:(PN Tryz.prog bs fids)[n]? =some R) (hr:kG m.t r) (hF:R ds r) (hj: ¬(o=11∨o=12)) (h2: @cI (bp [x0,x1,x2,x3,x4,x5,x6,x7,x8,x9,x10,x11] bs) args=some ds):
 W fids lds (.call n args (.tuple [.agg [.tm tL (.var 12),.tm .str (.var 13)],.tm (.int .i64) (.var 14)]) 3 (.ret (.tuple [.agg [.tm tL (.var 12),.tm .str (.var 13)],.tm (.int .i64) (.var 14)]))) [x0,x1,x2,x3,x4,x5,x6,x7,x8,x9,x10,x11] (To m g o a):=by
 obtain ⟨pops,push,e,rfl,q1,q2⟩:=LS hr
 refine ab h1 hF h2 (by simp) (by simp) (by simp) ?_
 exact aH (.ret (lQ pops push e)) (by simp) ⟨_,rfl,_,_,_,⟨q1,q2,fun _ h=>absurd h hj⟩,rfl⟩
theorem dh {K:mu→Prop} {n:Int} {i:Nat} {A B:PT} (hv:fC l i= .int .i64 o) (h1:o=n→W fids lds A l K) (h2:o≠n→W fids lds B l K):W fids lds (.split (.op (.cmp .eql) [.var i,.int .i64 n]) A B) l K:=by
 refine ah.2 ?_
 simp only [bc,aR,hv,aL,aj]
 exact aT h1 h2
end
set_option maxHeartbeats 4000000 in
theorem Pl {m:Mo} (hm:wE m) (f:Nat) (hf:f<m.f.length) (g:Fu) (hg:m.f[f]=g) (o a b c:Int): ∃pops push e,uD m g o a pops push e∧Ok 39 [.agg m.e,.c (.int .i64 (f:Int)),xs o a b c] (lQ pops push e):=by
 obtain ⟨r,⟨pops,push,e,hq,rfl⟩,h⟩:=kQ (l:=en m f o a b c) (R:=fun r=>∃pops push e,uD m g o a pops push e∧r=lQ pops push e) (ds:=[.agg m.e,.c (.int .i64 (f:Int)),xs o a b c]) Rp (by simp [Mo.e,eT,aU,eL,eF]) (by simp) (by
  unfold MY
  refine dh rfl (fun ho=>?_) (fun _=>?_)
  ·subst ho
   simp only [aM,aF,UU,VF,XL,ah,bc,aR,ae,ag,az,XV,aB,aC,aK,aO,aL,aG,au,aw,aD,aN,aI,aq,UM,Ue,VN,an,ar,eS,eT,eL,aU,eF,ak,aj]
   refine aT (fun z7=>?_) (fun _=>cb 2 (by omega))
   refine aT (fun z8=>?_) (fun _=>cb 2 (by omega))
   obtain ⟨w6,q6,h6⟩:=bj hm f hf g hg 1 a
   refine ab rfl h6 (by simp [Mo.e,eT,aU,eL,eF]) (by simp) (by simp) (by simp) ?_
   simp only [aM,aF,UU,VF,XL,ah,bc,aR,ae,ag,az,XV,aB,aC,aK,aO,aL,aG,au,aw,aD,aN,aI,aq,UM,Ue,VN,an,ar,eS,eT,eL,aU,eF,ak,aj]
   cases w6
   case false=>simp only [al];exact cb 3 (by omega)
   simp only [aE]
   obtain ⟨w7,q7,h7⟩:=bj hm f hf g hg 0 b
   refine ab rfl h7 (by simp [Mo.e,eT,aU,eL,eF]) (by simp) (by simp) (by simp) ?_
   simp only [aM,aF,UU,VF,XL,ah,bc,aR,ae,ag,az,XV,aB,aC,aK,aO,aL,aG,au,aw,aD,aN,aI,aq,UM,Ue,VN,an,ar,eS,eT,eL,aU,eF,ak,aj]
   cases w7
   case false=>simp only [al];exact cb 3 (by omega)
   simp only [aE]
   obtain ⟨w8,q8,h8⟩:=bj hm f hf g hg 0 c
   refine ab rfl h8 (by simp [Mo.e,eT,aU,eL,eF]) (by simp) (by simp) (by simp) ?_
   simp only [aM,aF,UU,VF,XL,ah,bc,aR,ae,ag,az,XV,aB,aC,aK,aO,aL,aG,au,aw,aD,aN,aI,aq,UM,Ue,VN,an,ar,eS,eT,eL,aU,eF,ak,aj]
   cases w8
   case false=>simp only [al];exact cb 3 (by omega)
   simp only [aE]
   exact vd [] [105,110,116] (by simp) (.inr (cY (by simp [fc]))) (by omega) (by simp [eL,eS])
  refine dh rfl (fun ho=>?_) (fun _=>?_)
  ·subst ho
   simp only [aM,aF,UU,VF,XL,ah,bc,aR,ae,ag,az,XV,aB,aC,aK,aO,aL,aG,au,aw,aD,aN,aI,aq,UM,Ue,VN,an,ar,eS,eT,eL,aU,eF,ak,aj]
   refine aT (fun z7=>?_) (fun _=>cb 2 (by omega))
   refine aT (fun z8=>?_) (fun _=>cb 2 (by omega))
   obtain ⟨w6,q6,h6⟩:=bj hm f hf g hg 2 a
   refine ab rfl h6 (by simp [Mo.e,eT,aU,eL,eF]) (by simp) (by simp) (by simp) ?_
   simp only [aM,aF,UU,VF,XL,ah,bc,aR,ae,ag,az,XV,aB,aC,aK,aO,aL,aG,au,aw,aD,aN,aI,aq,UM,Ue,VN,an,ar,eS,eT,eL,aU,eF,ak,aj]
   cases w6
   case false=>simp only [al];exact cb 3 (by omega)
   simp only [aE]
   obtain ⟨w7,q7,h7⟩:=bj hm f hf g hg 0 b
   refine ab rfl h7 (by simp [Mo.e,eT,aU,eL,eF]) (by simp) (by simp) (by simp) ?_
   simp only [aM,aF,UU,VF,XL,ah,bc,aR,ae,ag,az,XV,aB,aC,aK,aO,aL,aG,au,aw,aD,aN,aI,aq,UM,Ue,VN,an,ar,eS,eT,eL,aU,eF,ak,aj]
   cases w7
   case false=>simp only [al];exact cb 3 (by omega)
   simp only [aE]
   obtain ⟨w8,q8,h8⟩:=bj hm f hf g hg 0 c
   refine ab rfl h8 (by simp [Mo.e,eT,aU,eL,eF]) (by simp) (by simp) (by simp) ?_
   simp only [aM,aF,UU,VF,XL,ah,bc,aR,ae,ag,az,XV,aB,aC,aK,aO,aL,aG,au,aw,aD,aN,aI,aq,UM,Ue,VN,an,ar,eS,eT,eL,aU,eF,ak,aj]
   cases w8
   case false=>simp only [al];exact cb 3 (by omega)
   simp only [aE]
   exact vd [] [114,101,97,108] (by simp) (.inr (cY (by simp [fc]))) (by omega) (by simp [eL,eS])
  refine dh rfl (fun ho=>?_) (fun _=>?_)
  ·subst ho
   simp only [aM,aF,UU,VF,XL,ah,bc,aR,ae,ag,az,XV,aB,aC,aK,aO,aL,aG,au,aw,aD,aN,aI,aq,UM,Ue,VN,an,ar,eS,eT,eL,aU,eF,ak,aj]
   refine aT (fun z7=>?_) (fun _=>cb 2 (by omega))
   refine aT (fun z8=>?_) (fun _=>cb 2 (by omega))
   obtain ⟨w6,q6,h6⟩:=bj hm f hf g hg 3 a
   refine ab rfl h6 (by simp [Mo.e,eT,aU,eL,eF]) (by simp) (by simp) (by simp) ?_
   simp only [aM,aF,UU,VF,XL,ah,bc,aR,ae,ag,az,XV,aB,aC,aK,aO,aL,aG,au,aw,aD,aN,aI,aq,UM,Ue,VN,an,ar,eS,eT,eL,aU,eF,ak,aj]
   cases w6
   case false=>simp only [al];exact cb 3 (by omega)
   simp only [aE]
   obtain ⟨w7,q7,h7⟩:=bj hm f hf g hg 0 b
   refine ab rfl h7 (by simp [Mo.e,eT,aU,eL,eF]) (by simp) (by simp) (by simp) ?_
   simp only [aM,aF,UU,VF,XL,ah,bc,aR,ae,ag,az,XV,aB,aC,aK,aO,aL,aG,au,aw,aD,aN,aI,aq,UM,Ue,VN,an,ar,eS,eT,eL,aU,eF,ak,aj]
   cases w7
   case false=>simp only [al];exact cb 3 (by omega)
   simp only [aE]
   obtain ⟨w8,q8,h8⟩:=bj hm f hf g hg 0 c
   refine ab rfl h8 (by simp [Mo.e,eT,aU,eL,eF]) (by simp) (by simp) (by simp) ?_
   simp only [aM,aF,UU,VF,XL,ah,bc,aR,ae,ag,az,XV,aB,aC,aK,aO,aL,aG,au,aw,aD,aN,aI,aq,UM,Ue,VN,an,ar,eS,eT,eL,aU,eF,ak,aj]
   cases w8
   case false=>simp only [al];exact cb 3 (by omega)
   simp only [aE]
   exact vd [] [98,111,111,108] (by simp) (.inr (cY (by simp [fc]))) (by omega) (by simp [eL,eS])
  refine dh rfl (fun ho=>?_) (fun _=>?_)
  ·subst ho
   simp only [aM,aF,UU,VF,XL,ah,bc,aR,ae,ag,az,XV,aB,aC,aK,aO,aL,aG,au,aw,aD,aN,aI,aq,UM,Ue,VN,an,ar,eS,eT,eL,aU,eF,ak,aj]
   refine aT (fun z7=>?_) (fun _=>cb 2 (by omega))
   refine aT (fun z8=>?_) (fun _=>cb 2 (by omega))
   obtain ⟨w6,q6,h6⟩:=bj hm f hf g hg 4 a
   refine ab rfl h6 (by simp [Mo.e,eT,aU,eL,eF]) (by simp) (by simp) (by simp) ?_
   simp only [aM,aF,UU,VF,XL,ah,bc,aR,ae,ag,az,XV,aB,aC,aK,aO,aL,aG,au,aw,aD,aN,aI,aq,UM,Ue,VN,an,ar,eS,eT,eL,aU,eF,ak,aj]
   cases w6
   case false=>simp only [al];exact cb 3 (by omega)
   simp only [aE]
   obtain ⟨w7,q7,h7⟩:=bj hm f hf g hg 0 b
   refine ab rfl h7 (by simp [Mo.e,eT,aU,eL,eF]) (by simp) (by simp) (by simp) ?_
   simp only [aM,aF,UU,VF,XL,ah,bc,aR,ae,ag,az,XV,aB,aC,aK,aO,aL,aG,au,aw,aD,aN,aI,aq,UM,Ue,VN,an,ar,eS,eT,eL,aU,eF,ak,aj]
   cases w7
   case false=>simp only [al];exact cb 3 (by omega)
   simp only [aE]
   obtain ⟨w8,q8,h8⟩:=bj hm f hf g hg 0 c
   refine ab rfl h8 (by simp [Mo.e,eT,aU,eL,eF]) (by simp) (by simp) (by simp) ?_
   simp only [aM,aF,UU,VF,XL,ah,bc,aR,ae,ag,az,XV,aB,aC,aK,aO,aL,aG,au,aw,aD,aN,aI,aq,UM,Ue,VN,an,ar,eS,eT,eL,aU,eF,ak,aj]
   cases w8
   case false=>simp only [al];exact cb 3 (by omega)
   simp only [aE]
   have f6:=(q6 rfl).1 rfl
   exact vd [] [115,116,114] (by simp) (.inr (cY (by simp [fc]))) (by omega) (by simp [eL,eS])
  refine dh rfl (fun ho=>?_) (fun _=>?_)
  ·subst ho
   simp only [aM,aF,UU,VF,XL,ah,bc,aR,ae,ag,az,XV,aB,aC,aK,aO,aL,aG,au,aw,aD,aN,aI,aq,UM,Ue,VN,an,ar,eS,eT,eL,aU,eF,ak,aj]
   refine aT (fun z6=>?_) (fun _=>cb 2 (by omega))
   refine aT (fun z7=>?_) (fun _=>cb 2 (by omega))
   refine aT (fun z8=>?_) (fun _=>cb 2 (by omega))
   obtain ⟨w6,q6,h6⟩:=bj hm f hf g hg 0 a
   refine ab rfl h6 (by simp [Mo.e,eT,aU,eL,eF]) (by simp) (by simp) (by simp) ?_
   simp only [aM,aF,UU,VF,XL,ah,bc,aR,ae,ag,az,XV,aB,aC,aK,aO,aL,aG,au,aw,aD,aN,aI,aq,UM,Ue,VN,an,ar,eS,eT,eL,aU,eF,ak,aj]
   cases w6
   case false=>simp only [al];exact cb 3 (by omega)
   simp only [aE]
   obtain ⟨w7,q7,h7⟩:=bj hm f hf g hg 0 b
   refine ab rfl h7 (by simp [Mo.e,eT,aU,eL,eF]) (by simp) (by simp) (by simp) ?_
   simp only [aM,aF,UU,VF,XL,ah,bc,aR,ae,ag,az,XV,aB,aC,aK,aO,aL,aG,au,aw,aD,aN,aI,aq,UM,Ue,VN,an,ar,eS,eT,eL,aU,eF,ak,aj]
   cases w7
   case false=>simp only [al];exact cb 3 (by omega)
   simp only [aE]
   obtain ⟨w8,q8,h8⟩:=bj hm f hf g hg 0 c
   refine ab rfl h8 (by simp [Mo.e,eT,aU,eL,eF]) (by simp) (by simp) (by simp) ?_
   simp only [aM,aF,UU,VF,XL,ah,bc,aR,ae,ag,az,XV,aB,aC,aK,aO,aL,aG,au,aw,aD,aN,aI,aq,UM,Ue,VN,an,ar,eS,eT,eL,aU,eF,ak,aj]
   cases w8
   case false=>simp only [al];exact cb 3 (by omega)
   simp only [aE]
   exact vd [] [117,110,105,116] (by simp) (.inr (cY (by simp [fc]))) (by omega) (by simp [eL,eS])
  refine dh rfl (fun ho=>?_) (fun _=>?_)
  ·subst ho
   simp only [aM,aF,UU,VF,XL,ah,bc,aR,ae,ag,az,XV,aB,aC,aK,aO,aL,aG,au,aw,aD,aN,aI,aq,UM,Ue,VN,an,ar,eS,eT,eL,aU,eF,ak,aj]
   refine aT (fun z7=>?_) (fun _=>cb 2 (by omega))
   refine aT (fun z8=>?_) (fun _=>cb 2 (by omega))
   obtain ⟨w6,q6,h6⟩:=bj hm f hf g hg 4 a
   refine ab rfl h6 (by simp [Mo.e,eT,aU,eL,eF]) (by simp) (by simp) (by simp) ?_
   simp only [aM,aF,UU,VF,XL,ah,bc,aR,ae,ag,az,XV,aB,aC,aK,aO,aL,aG,au,aw,aD,aN,aI,aq,UM,Ue,VN,an,ar,eS,eT,eL,aU,eF,ak,aj]
   cases w6
   case false=>simp only [al];exact cb 3 (by omega)
   simp only [aE]
   obtain ⟨w7,q7,h7⟩:=bj hm f hf g hg 0 b
   refine ab rfl h7 (by simp [Mo.e,eT,aU,eL,eF]) (by simp) (by simp) (by simp) ?_
   simp only [aM,aF,UU,VF,XL,ah,bc,aR,ae,ag,az,XV,aB,aC,aK,aO,aL,aG,au,aw,aD,aN,aI,aq,UM,Ue,VN,an,ar,eS,eT,eL,aU,eF,ak,aj]
   cases w7
   case false=>simp only [al];exact cb 3 (by omega)
   simp only [aE]
   obtain ⟨w8,q8,h8⟩:=bj hm f hf g hg 0 c
   refine ab rfl h8 (by simp [Mo.e,eT,aU,eL,eF]) (by simp) (by simp) (by simp) ?_
   simp only [aM,aF,UU,VF,XL,ah,bc,aR,ae,ag,az,XV,aB,aC,aK,aO,aL,aG,au,aw,aD,aN,aI,aq,UM,Ue,VN,an,ar,eS,eT,eL,aU,eF,ak,aj]
   cases w8
   case false=>simp only [al];exact cb 3 (by omega)
   simp only [aE]
   have f6:=(q6 rfl).1 rfl
   obtain ⟨i,hi⟩:=UL (show 0≤a by omega)
   subst hi
   obtain ⟨r,hr,hF⟩:=O8 hm f 6 b c i (by omega)
   exact fF rfl hr hF (by omega) (by simp [dk,xs,Mo.e,eT,aU,eL,eF])
  refine dh rfl (fun ho=>?_) (fun _=>?_)
  ·subst ho
   simp only [aM,aF,UU,VF,XL,ah,bc,aR,ae,ag,az,XV,aB,aC,aK,aO,aL,aG,au,aw,aD,aN,aI,aq,UM,Ue,VN,an,ar,eS,eT,eL,aU,eF,ak,aj]
   refine aT (fun z6=>?_) (fun _=>cb 2 (by omega))
   refine aT (fun z7=>?_) (fun _=>cb 2 (by omega))
   refine aT (fun z8=>?_) (fun _=>cb 2 (by omega))
   obtain ⟨w6,q6,h6⟩:=bj hm f hf g hg 0 a
   refine ab rfl h6 (by simp [Mo.e,eT,aU,eL,eF]) (by simp) (by simp) (by simp) ?_
   simp only [aM,aF,UU,VF,XL,ah,bc,aR,ae,ag,az,XV,aB,aC,aK,aO,aL,aG,au,aw,aD,aN,aI,aq,UM,Ue,VN,an,ar,eS,eT,eL,aU,eF,ak,aj]
   cases w6
   case false=>simp only [al];exact cb 3 (by omega)
   simp only [aE]
   obtain ⟨w7,q7,h7⟩:=bj hm f hf g hg 0 b
   refine ab rfl h7 (by simp [Mo.e,eT,aU,eL,eF]) (by simp) (by simp) (by simp) ?_
   simp only [aM,aF,UU,VF,XL,ah,bc,aR,ae,ag,az,XV,aB,aC,aK,aO,aL,aG,au,aw,aD,aN,aI,aq,UM,Ue,VN,an,ar,eS,eT,eL,aU,eF,ak,aj]
   cases w7
   case false=>simp only [al];exact cb 3 (by omega)
   simp only [aE]
   obtain ⟨w8,q8,h8⟩:=bj hm f hf g hg 0 c
   refine ab rfl h8 (by simp [Mo.e,eT,aU,eL,eF]) (by simp) (by simp) (by simp) ?_
   simp only [aM,aF,UU,VF,XL,ah,bc,aR,ae,ag,az,XV,aB,aC,aK,aO,aL,aG,au,aw,aD,aN,aI,aq,UM,Ue,VN,an,ar,eS,eT,eL,aU,eF,ak,aj]
   cases w8
   case false=>simp only [al];exact cb 3 (by omega)
   simp only [aE]
   obtain ⟨r,hr,hF⟩:=O9 hm f hf 7 a b c
   exact fF rfl hr hF (by omega) (by simp [dk,xs,Mo.e,eT,aU,eL,eF])
  refine dh rfl (fun ho=>?_) (fun _=>?_)
  ·subst ho
   simp only [aM,aF,UU,VF,XL,ah,bc,aR,ae,ag,az,XV,aB,aC,aK,aO,aL,aG,au,aw,aD,aN,aI,aq,UM,Ue,VN,an,ar,eS,eT,eL,aU,eF,ak,aj]
   refine aT (fun z7=>?_) (fun _=>cb 2 (by omega))
   refine aT (fun z8=>?_) (fun _=>cb 2 (by omega))
   obtain ⟨w6,q6,h6⟩:=bj hm f hf g hg 5 a
   refine ab rfl h6 (by simp [Mo.e,eT,aU,eL,eF]) (by simp) (by simp) (by simp) ?_
   simp only [aM,aF,UU,VF,XL,ah,bc,aR,ae,ag,az,XV,aB,aC,aK,aO,aL,aG,au,aw,aD,aN,aI,aq,UM,Ue,VN,an,ar,eS,eT,eL,aU,eF,ak,aj]
   cases w6
   case false=>simp only [al];exact cb 3 (by omega)
   simp only [aE]
   obtain ⟨w7,q7,h7⟩:=bj hm f hf g hg 0 b
   refine ab rfl h7 (by simp [Mo.e,eT,aU,eL,eF]) (by simp) (by simp) (by simp) ?_
   simp only [aM,aF,UU,VF,XL,ah,bc,aR,ae,ag,az,XV,aB,aC,aK,aO,aL,aG,au,aw,aD,aN,aI,aq,UM,Ue,VN,an,ar,eS,eT,eL,aU,eF,ak,aj]
   cases w7
   case false=>simp only [al];exact cb 3 (by omega)
   simp only [aE]
   obtain ⟨w8,q8,h8⟩:=bj hm f hf g hg 0 c
   refine ab rfl h8 (by simp [Mo.e,eT,aU,eL,eF]) (by simp) (by simp) (by simp) ?_
   simp only [aM,aF,UU,VF,XL,ah,bc,aR,ae,ag,az,XV,aB,aC,aK,aO,aL,aG,au,aw,aD,aN,aI,aq,UM,Ue,VN,an,ar,eS,eT,eL,aU,eF,ak,aj]
   cases w8
   case false=>simp only [al];exact cb 3 (by omega)
   simp only [aE]
   have f6:=(q6 rfl).2.1 rfl
   obtain ⟨i,hi⟩:=UL (show 0≤a by omega)
   subst hi
   obtain ⟨r,hr,hF⟩:=Pa hm f hf 8 b c i (by rw [hg];omega)
   exact fF rfl hr hF (by omega) (by simp [dk,xs,Mo.e,eT,aU,eL,eF])
  refine dh rfl (fun ho=>?_) (fun _=>?_)
  ·subst ho
   simp only [aM,aF,UU,VF,XL,ah,bc,aR,ae,ag,az,XV,aB,aC,aK,aO,aL,aG,au,aw,aD,aN,aI,aq,UM,Ue,VN,an,ar,eS,eT,eL,aU,eF,ak,aj]
   refine aT (fun z7=>?_) (fun _=>cb 2 (by omega))
   refine aT (fun z8=>?_) (fun _=>cb 2 (by omega))
   obtain ⟨w6,q6,h6⟩:=bj hm f hf g hg 5 a
   refine ab rfl h6 (by simp [Mo.e,eT,aU,eL,eF]) (by simp) (by simp) (by simp) ?_
   simp only [aM,aF,UU,VF,XL,ah,bc,aR,ae,ag,az,XV,aB,aC,aK,aO,aL,aG,au,aw,aD,aN,aI,aq,UM,Ue,VN,an,ar,eS,eT,eL,aU,eF,ak,aj]
   cases w6
   case false=>simp only [al];exact cb 3 (by omega)
   simp only [aE]
   obtain ⟨w7,q7,h7⟩:=bj hm f hf g hg 0 b
   refine ab rfl h7 (by simp [Mo.e,eT,aU,eL,eF]) (by simp) (by simp) (by simp) ?_
   simp only [aM,aF,UU,VF,XL,ah,bc,aR,ae,ag,az,XV,aB,aC,aK,aO,aL,aG,au,aw,aD,aN,aI,aq,UM,Ue,VN,an,ar,eS,eT,eL,aU,eF,ak,aj]
   cases w7
   case false=>simp only [al];exact cb 3 (by omega)
   simp only [aE]
   obtain ⟨w8,q8,h8⟩:=bj hm f hf g hg 0 c
   refine ab rfl h8 (by simp [Mo.e,eT,aU,eL,eF]) (by simp) (by simp) (by simp) ?_
   simp only [aM,aF,UU,VF,XL,ah,bc,aR,ae,ag,az,XV,aB,aC,aK,aO,aL,aG,au,aw,aD,aN,aI,aq,UM,Ue,VN,an,ar,eS,eT,eL,aU,eF,ak,aj]
   cases w8
   case false=>simp only [al];exact cb 3 (by omega)
   simp only [aE]
   have f6:=(q6 rfl).2.1 rfl
   obtain ⟨i,hi⟩:=UL (show 0≤a by omega)
   subst hi
   obtain ⟨r,hr,hF⟩:=Pb hm f hf 9 b c i (by rw [hg];omega)
   exact fF rfl hr hF (by omega) (by simp [dk,xs,Mo.e,eT,aU,eL,eF])
  refine dh rfl (fun ho=>?_) (fun _=>?_)
  ·subst ho
   simp only [aM,aF,UU,VF,XL,ah,bc,aR,ae,ag,az,XV,aB,aC,aK,aO,aL,aG,au,aw,aD,aN,aI,aq,UM,Ue,VN,an,ar,eS,eT,eL,aU,eF,ak,aj]
   refine aT (fun z6=>?_) (fun _=>cb 2 (by omega))
   refine aT (fun z7=>?_) (fun _=>cb 2 (by omega))
   refine aT (fun z8=>?_) (fun _=>cb 2 (by omega))
   obtain ⟨w6,q6,h6⟩:=bj hm f hf g hg 0 a
   refine ab rfl h6 (by simp [Mo.e,eT,aU,eL,eF]) (by simp) (by simp) (by simp) ?_
   simp only [aM,aF,UU,VF,XL,ah,bc,aR,ae,ag,az,XV,aB,aC,aK,aO,aL,aG,au,aw,aD,aN,aI,aq,UM,Ue,VN,an,ar,eS,eT,eL,aU,eF,ak,aj]
   cases w6
   case false=>simp only [al];exact cb 3 (by omega)
   simp only [aE]
   obtain ⟨w7,q7,h7⟩:=bj hm f hf g hg 0 b
   refine ab rfl h7 (by simp [Mo.e,eT,aU,eL,eF]) (by simp) (by simp) (by simp) ?_
   simp only [aM,aF,UU,VF,XL,ah,bc,aR,ae,ag,az,XV,aB,aC,aK,aO,aL,aG,au,aw,aD,aN,aI,aq,UM,Ue,VN,an,ar,eS,eT,eL,aU,eF,ak,aj]
   cases w7
   case false=>simp only [al];exact cb 3 (by omega)
   simp only [aE]
   obtain ⟨w8,q8,h8⟩:=bj hm f hf g hg 0 c
   refine ab rfl h8 (by simp [Mo.e,eT,aU,eL,eF]) (by simp) (by simp) (by simp) ?_
   simp only [aM,aF,UU,VF,XL,ah,bc,aR,ae,ag,az,XV,aB,aC,aK,aO,aL,aG,au,aw,aD,aN,aI,aq,UM,Ue,VN,an,ar,eS,eT,eL,aU,eF,ak,aj]
   cases w8
   case false=>simp only [al];exact cb 3 (by omega)
   simp only [aE]
   exact vd [[42]] [] (by simp) (.inl rfl) (by omega) (by simp [eL,eS])
  refine dh rfl (fun ho=>?_) (fun _=>?_)
  ·subst ho
   simp only [aM,aF,UU,VF,XL,ah,bc,aR,ae,ag,az,XV,aB,aC,aK,aO,aL,aG,au,aw,aD,aN,aI,aq,UM,Ue,VN,an,ar,eS,eT,eL,aU,eF,ak,aj]
   refine aT (fun z7=>?_) (fun _=>cb 2 (by omega))
   refine aT (fun z8=>?_) (fun _=>cb 2 (by omega))
   obtain ⟨w6,q6,h6⟩:=bj hm f hf g hg 6 a
   refine ab rfl h6 (by simp [Mo.e,eT,aU,eL,eF]) (by simp) (by simp) (by simp) ?_
   simp only [aM,aF,UU,VF,XL,ah,bc,aR,ae,ag,az,XV,aB,aC,aK,aO,aL,aG,au,aw,aD,aN,aI,aq,UM,Ue,VN,an,ar,eS,eT,eL,aU,eF,ak,aj]
   cases w6
   case false=>simp only [al];exact cb 3 (by omega)
   simp only [aE]
   obtain ⟨w7,q7,h7⟩:=bj hm f hf g hg 0 b
   refine ab rfl h7 (by simp [Mo.e,eT,aU,eL,eF]) (by simp) (by simp) (by simp) ?_
   simp only [aM,aF,UU,VF,XL,ah,bc,aR,ae,ag,az,XV,aB,aC,aK,aO,aL,aG,au,aw,aD,aN,aI,aq,UM,Ue,VN,an,ar,eS,eT,eL,aU,eF,ak,aj]
   cases w7
   case false=>simp only [al];exact cb 3 (by omega)
   simp only [aE]
   obtain ⟨w8,q8,h8⟩:=bj hm f hf g hg 0 c
   refine ab rfl h8 (by simp [Mo.e,eT,aU,eL,eF]) (by simp) (by simp) (by simp) ?_
   simp only [aM,aF,UU,VF,XL,ah,bc,aR,ae,ag,az,XV,aB,aC,aK,aO,aL,aG,au,aw,aD,aN,aI,aq,UM,Ue,VN,an,ar,eS,eT,eL,aU,eF,ak,aj]
   cases w8
   case false=>simp only [al];exact cb 3 (by omega)
   simp only [aE]
   have f6:=(q6 rfl).2.2.1 rfl
   exact vd [] [] (by simp) (.inl rfl) (by omega) (by simp [eL,eS])
  refine dh rfl (fun ho=>?_) (fun _=>?_)
  ·subst ho
   simp only [aM,aF,UU,VF,XL,ah,bc,aR,ae,ag,az,XV,aB,aC,aK,aO,aL,aG,au,aw,aD,aN,aI,aq,UM,Ue,VN,an,ar,eS,eT,eL,aU,eF,ak,aj]
   refine aT (fun z7=>?_) (fun _=>cb 2 (by omega))
   refine aT (fun z8=>?_) (fun _=>cb 2 (by omega))
   obtain ⟨w6,q6,h6⟩:=bj hm f hf g hg 6 a
   refine ab rfl h6 (by simp [Mo.e,eT,aU,eL,eF]) (by simp) (by simp) (by simp) ?_
   simp only [aM,aF,UU,VF,XL,ah,bc,aR,ae,ag,az,XV,aB,aC,aK,aO,aL,aG,au,aw,aD,aN,aI,aq,UM,Ue,VN,an,ar,eS,eT,eL,aU,eF,ak,aj]
   cases w6
   case false=>simp only [al];exact cb 3 (by omega)
   simp only [aE]
   obtain ⟨w7,q7,h7⟩:=bj hm f hf g hg 0 b
   refine ab rfl h7 (by simp [Mo.e,eT,aU,eL,eF]) (by simp) (by simp) (by simp) ?_
   simp only [aM,aF,UU,VF,XL,ah,bc,aR,ae,ag,az,XV,aB,aC,aK,aO,aL,aG,au,aw,aD,aN,aI,aq,UM,Ue,VN,an,ar,eS,eT,eL,aU,eF,ak,aj]
   cases w7
   case false=>simp only [al];exact cb 3 (by omega)
   simp only [aE]
   obtain ⟨w8,q8,h8⟩:=bj hm f hf g hg 0 c
   refine ab rfl h8 (by simp [Mo.e,eT,aU,eL,eF]) (by simp) (by simp) (by simp) ?_
   simp only [aM,aF,UU,VF,XL,ah,bc,aR,ae,ag,az,XV,aB,aC,aK,aO,aL,aG,au,aw,aD,aN,aI,aq,UM,Ue,VN,an,ar,eS,eT,eL,aU,eF,ak,aj]
   cases w8
   case false=>simp only [al];exact cb 3 (by omega)
   simp only [aE]
   have f6:=(q6 rfl).2.2.1 rfl
   exact vd [[98,111,111,108]] [] (by simp) (.inl rfl) (by omega) (by simp [eL,eS])
  refine dh rfl (fun ho=>?_) (fun _=>?_)
  ·subst ho
   simp only [aM,aF,UU,VF,XL,ah,bc,aR,ae,ag,az,XV,aB,aC,aK,aO,aL,aG,au,aw,aD,aN,aI,aq,UM,Ue,VN,an,ar,eS,eT,eL,aU,eF,ak,aj]
   refine aT (fun z8=>?_) (fun _=>cb 2 (by omega))
   obtain ⟨w6,q6,h6⟩:=bj hm f hf g hg 7 a
   refine ab rfl h6 (by simp [Mo.e,eT,aU,eL,eF]) (by simp) (by simp) (by simp) ?_
   simp only [aM,aF,UU,VF,XL,ah,bc,aR,ae,ag,az,XV,aB,aC,aK,aO,aL,aG,au,aw,aD,aN,aI,aq,UM,Ue,VN,an,ar,eS,eT,eL,aU,eF,ak,aj]
   cases w6
   case false=>simp only [al];exact cb 3 (by omega)
   simp only [aE]
   obtain ⟨w7,q7,h7⟩:=bj hm f hf g hg 9 b
   refine ab rfl h7 (by simp [Mo.e,eT,aU,eL,eF]) (by simp) (by simp) (by simp) ?_
   simp only [aM,aF,UU,VF,XL,ah,bc,aR,ae,ag,az,XV,aB,aC,aK,aO,aL,aG,au,aw,aD,aN,aI,aq,UM,Ue,VN,an,ar,eS,eT,eL,aU,eF,ak,aj]
   cases w7
   case false=>simp only [al];exact cb 3 (by omega)
   simp only [aE]
   obtain ⟨w8,q8,h8⟩:=bj hm f hf g hg 0 c
   refine ab rfl h8 (by simp [Mo.e,eT,aU,eL,eF]) (by simp) (by simp) (by simp) ?_
   simp only [aM,aF,UU,VF,XL,ah,bc,aR,ae,ag,az,XV,aB,aC,aK,aO,aL,aG,au,aw,aD,aN,aI,aq,UM,Ue,VN,an,ar,eS,eT,eL,aU,eF,ak,aj]
   cases w8
   case false=>simp only [al];exact cb 3 (by omega)
   simp only [aE]
   have f6:=(q6 rfl).2.2.2.1 rfl
   obtain ⟨i,hi⟩:=UL (show 0≤a by omega)
   subst hi
   obtain ⟨r,hr,hF⟩:=Pc hm f 13 b c i (by omega)
   exact fF rfl hr hF (by omega) (by simp [dk,xs,Mo.e,eT,aU,eL,eF])
  refine dh rfl (fun ho=>?_) (fun _=>?_)
  ·subst ho
   simp only [aM,aF,UU,VF,XL,ah,bc,aR,ae,ag,az,XV,aB,aC,aK,aO,aL,aG,au,aw,aD,aN,aI,aq,UM,Ue,VN,an,ar,eS,eT,eL,aU,eF,ak,aj]
   refine aT (fun z8=>?_) (fun _=>cb 2 (by omega))
   obtain ⟨w6,q6,h6⟩:=bj hm f hf g hg 8 a
   refine ab rfl h6 (by simp [Mo.e,eT,aU,eL,eF]) (by simp) (by simp) (by simp) ?_
   simp only [aM,aF,UU,VF,XL,ah,bc,aR,ae,ag,az,XV,aB,aC,aK,aO,aL,aG,au,aw,aD,aN,aI,aq,UM,Ue,VN,an,ar,eS,eT,eL,aU,eF,ak,aj]
   cases w6
   case false=>simp only [al];exact cb 3 (by omega)
   simp only [aE]
   obtain ⟨w7,q7,h7⟩:=bj hm f hf g hg 12 b
   refine ab rfl h7 (by simp [Mo.e,eT,aU,eL,eF]) (by simp) (by simp) (by simp) ?_
   simp only [aM,aF,UU,VF,XL,ah,bc,aR,ae,ag,az,XV,aB,aC,aK,aO,aL,aG,au,aw,aD,aN,aI,aq,UM,Ue,VN,an,ar,eS,eT,eL,aU,eF,ak,aj]
   cases w7
   case false=>simp only [al];exact cb 3 (by omega)
   simp only [aE]
   obtain ⟨w8,q8,h8⟩:=bj hm f hf g hg 0 c
   refine ab rfl h8 (by simp [Mo.e,eT,aU,eL,eF]) (by simp) (by simp) (by simp) ?_
   simp only [aM,aF,UU,VF,XL,ah,bc,aR,ae,ag,az,XV,aB,aC,aK,aO,aL,aG,au,aw,aD,aN,aI,aq,UM,Ue,VN,an,ar,eS,eT,eL,aU,eF,ak,aj]
   cases w8
   case false=>simp only [al];exact cb 3 (by omega)
   simp only [aE]
   have f6:=(q6 rfl).2.2.2.2.1 rfl
   have f7:=(q7 rfl).2.2.2.2.2.2.2.1 rfl
   obtain ⟨i,hi⟩:=UL (show 0≤a by omega)
   subst hi
   obtain ⟨j,hj⟩:=UL (show 0≤b by omega)
   subst hj
   obtain ⟨r,hr,hF⟩:=Pd hm f 14 c i j (by omega) (by omega) (by omega)
   exact fF rfl hr hF (by omega) (by simp [dk,xs,Mo.e,eT,aU,eL,eF])
  refine dh rfl (fun ho=>?_) (fun _=>?_)
  ·subst ho
   simp only [aM,aF,UU,VF,XL,ah,bc,aR,ae,ag,az,XV,aB,aC,aK,aO,aL,aG,au,aw,aD,aN,aI,aq,UM,Ue,VN,an,ar,eS,eT,eL,aU,eF,ak,aj]
   refine aT (fun z8=>?_) (fun _=>cb 2 (by omega))
   obtain ⟨w6,q6,h6⟩:=bj hm f hf g hg 10 a
   refine ab rfl h6 (by simp [Mo.e,eT,aU,eL,eF]) (by simp) (by simp) (by simp) ?_
   simp only [aM,aF,UU,VF,XL,ah,bc,aR,ae,ag,az,XV,aB,aC,aK,aO,aL,aG,au,aw,aD,aN,aI,aq,UM,Ue,VN,an,ar,eS,eT,eL,aU,eF,ak,aj]
   cases w6
   case false=>simp only [al];exact cb 3 (by omega)
   simp only [aE]
   obtain ⟨w7,q7,h7⟩:=bj hm f hf g hg 9 b
   refine ab rfl h7 (by simp [Mo.e,eT,aU,eL,eF]) (by simp) (by simp) (by simp) ?_
   simp only [aM,aF,UU,VF,XL,ah,bc,aR,ae,ag,az,XV,aB,aC,aK,aO,aL,aG,au,aw,aD,aN,aI,aq,UM,Ue,VN,an,ar,eS,eT,eL,aU,eF,ak,aj]
   cases w7
   case false=>simp only [al];exact cb 3 (by omega)
   simp only [aE]
   obtain ⟨w8,q8,h8⟩:=bj hm f hf g hg 0 c
   refine ab rfl h8 (by simp [Mo.e,eT,aU,eL,eF]) (by simp) (by simp) (by simp) ?_
   simp only [aM,aF,UU,VF,XL,ah,bc,aR,ae,ag,az,XV,aB,aC,aK,aO,aL,aG,au,aw,aD,aN,aI,aq,UM,Ue,VN,an,ar,eS,eT,eL,aU,eF,ak,aj]
   cases w8
   case false=>simp only [al];exact cb 3 (by omega)
   simp only [aE]
   have f6:=(q6 rfl).2.2.2.2.2.1 rfl
   obtain ⟨i,hi⟩:=UL (show 0≤a by omega)
   subst hi
   obtain ⟨r,hr,hF⟩:=Pe hm f 15 b c i (by omega)
   exact fF rfl hr hF (by omega) (by simp [dk,xs,Mo.e,eT,aU,eL,eF])
  refine dh rfl (fun ho=>?_) (fun _=>?_)
  ·subst ho
   simp only [aM,aF,UU,VF,XL,ah,bc,aR,ae,ag,az,XV,aB,aC,aK,aO,aL,aG,au,aw,aD,aN,aI,aq,UM,Ue,VN,an,ar,eS,eT,eL,aU,eF,ak,aj]
   refine aT (fun z7=>?_) (fun _=>cb 2 (by omega))
   refine aT (fun z8=>?_) (fun _=>cb 2 (by omega))
   obtain ⟨w6,q6,h6⟩:=bj hm f hf g hg 11 a
   refine ab rfl h6 (by simp [Mo.e,eT,aU,eL,eF]) (by simp) (by simp) (by simp) ?_
   simp only [aM,aF,UU,VF,XL,ah,bc,aR,ae,ag,az,XV,aB,aC,aK,aO,aL,aG,au,aw,aD,aN,aI,aq,UM,Ue,VN,an,ar,eS,eT,eL,aU,eF,ak,aj]
   cases w6
   case false=>simp only [al];exact cb 3 (by omega)
   simp only [aE]
   obtain ⟨w7,q7,h7⟩:=bj hm f hf g hg 0 b
   refine ab rfl h7 (by simp [Mo.e,eT,aU,eL,eF]) (by simp) (by simp) (by simp) ?_
   simp only [aM,aF,UU,VF,XL,ah,bc,aR,ae,ag,az,XV,aB,aC,aK,aO,aL,aG,au,aw,aD,aN,aI,aq,UM,Ue,VN,an,ar,eS,eT,eL,aU,eF,ak,aj]
   cases w7
   case false=>simp only [al];exact cb 3 (by omega)
   simp only [aE]
   obtain ⟨w8,q8,h8⟩:=bj hm f hf g hg 0 c
   refine ab rfl h8 (by simp [Mo.e,eT,aU,eL,eF]) (by simp) (by simp) (by simp) ?_
   simp only [aM,aF,UU,VF,XL,ah,bc,aR,ae,ag,az,XV,aB,aC,aK,aO,aL,aG,au,aw,aD,aN,aI,aq,UM,Ue,VN,an,ar,eS,eT,eL,aU,eF,ak,aj]
   cases w8
   case false=>simp only [al];exact cb 3 (by omega)
   simp only [aE]
   have f6:=(q6 rfl).2.2.2.2.2.2.1 rfl
   obtain ⟨i,hi⟩:=UL (show 0≤a by omega)
   subst hi
   obtain ⟨r,hr,hF⟩:=Pf hm f 16 b c i (by omega)
   exact fF rfl hr hF (by omega) (by simp [dk,xs,Mo.e,eT,aU,eL,eF])
  refine dh rfl (fun ho=>?_) (fun _=>?_)
  ·subst ho
   simp only [aM,aF,UU,VF,XL,ah,bc,aR,ae,ag,az,XV,aB,aC,aK,aO,aL,aG,au,aw,aD,aN,aI,aq,UM,Ue,VN,an,ar,eS,eT,eL,aU,eF,ak,aj]
   refine aT (fun z7=>?_) (fun _=>cb 2 (by omega))
   refine aT (fun z8=>?_) (fun _=>cb 2 (by omega))
   obtain ⟨w6,q6,h6⟩:=bj hm f hf g hg 12 a
   refine ab rfl h6 (by simp [Mo.e,eT,aU,eL,eF]) (by simp) (by simp) (by simp) ?_
   simp only [aM,aF,UU,VF,XL,ah,bc,aR,ae,ag,az,XV,aB,aC,aK,aO,aL,aG,au,aw,aD,aN,aI,aq,UM,Ue,VN,an,ar,eS,eT,eL,aU,eF,ak,aj]
   cases w6
   case false=>simp only [al];exact cb 3 (by omega)
   simp only [aE]
   obtain ⟨w7,q7,h7⟩:=bj hm f hf g hg 0 b
   refine ab rfl h7 (by simp [Mo.e,eT,aU,eL,eF]) (by simp) (by simp) (by simp) ?_
   simp only [aM,aF,UU,VF,XL,ah,bc,aR,ae,ag,az,XV,aB,aC,aK,aO,aL,aG,au,aw,aD,aN,aI,aq,UM,Ue,VN,an,ar,eS,eT,eL,aU,eF,ak,aj]
   cases w7
   case false=>simp only [al];exact cb 3 (by omega)
   simp only [aE]
   obtain ⟨w8,q8,h8⟩:=bj hm f hf g hg 0 c
   refine ab rfl h8 (by simp [Mo.e,eT,aU,eL,eF]) (by simp) (by simp) (by simp) ?_
   simp only [aM,aF,UU,VF,XL,ah,bc,aR,ae,ag,az,XV,aB,aC,aK,aO,aL,aG,au,aw,aD,aN,aI,aq,UM,Ue,VN,an,ar,eS,eT,eL,aU,eF,ak,aj]
   cases w8
   case false=>simp only [al];exact cb 3 (by omega)
   simp only [aE]
   have f6:=(q6 rfl).2.2.2.2.2.2.2.1 rfl
   obtain ⟨i,hi⟩:=UL (show 0≤a by omega)
   subst hi
   obtain ⟨r,hr,hF⟩:=Pg hm f 17 b c i (by omega) (by omega)
   exact fF rfl hr hF (by omega) (by simp [dk,xs,Mo.e,eT,aU,eL,eF])
  refine dh rfl (fun ho=>?_) (fun _=>?_)
  ·subst ho
   simp only [aM,aF,UU,VF,XL,ah,bc,aR,ae,ag,az,XV,aB,aC,aK,aO,aL,aG,au,aw,aD,aN,aI,aq,UM,Ue,VN,an,ar,eS,eT,eL,aU,eF,ak,aj]
   refine aT (fun z8=>?_) (fun _=>cb 2 (by omega))
   obtain ⟨w6,q6,h6⟩:=bj hm f hf g hg 4 a
   refine ab rfl h6 (by simp [Mo.e,eT,aU,eL,eF]) (by simp) (by simp) (by simp) ?_
   simp only [aM,aF,UU,VF,XL,ah,bc,aR,ae,ag,az,XV,aB,aC,aK,aO,aL,aG,au,aw,aD,aN,aI,aq,UM,Ue,VN,an,ar,eS,eT,eL,aU,eF,ak,aj]
   cases w6
   case false=>simp only [al];exact cb 3 (by omega)
   simp only [aE]
   obtain ⟨w7,q7,h7⟩:=bj hm f hf g hg 4 b
   refine ab rfl h7 (by simp [Mo.e,eT,aU,eL,eF]) (by simp) (by simp) (by simp) ?_
   simp only [aM,aF,UU,VF,XL,ah,bc,aR,ae,ag,az,XV,aB,aC,aK,aO,aL,aG,au,aw,aD,aN,aI,aq,UM,Ue,VN,an,ar,eS,eT,eL,aU,eF,ak,aj]
   cases w7
   case false=>simp only [al];exact cb 3 (by omega)
   simp only [aE]
   obtain ⟨w8,q8,h8⟩:=bj hm f hf g hg 0 c
   refine ab rfl h8 (by simp [Mo.e,eT,aU,eL,eF]) (by simp) (by simp) (by simp) ?_
   simp only [aM,aF,UU,VF,XL,ah,bc,aR,ae,ag,az,XV,aB,aC,aK,aO,aL,aG,au,aw,aD,aN,aI,aq,UM,Ue,VN,an,ar,eS,eT,eL,aU,eF,ak,aj]
   cases w8
   case false=>simp only [al];exact cb 3 (by omega)
   simp only [aE]
   have f6:=(q6 rfl).1 rfl
   have f7:=(q7 rfl).1 rfl
   obtain ⟨i,hi⟩:=UL (show 0≤a by omega)
   subst hi
   obtain ⟨j,hj⟩:=UL (show 0≤b by omega)
   subst hj
   obtain ⟨r,hr,hF⟩:=JL hm f 18 c i j (by omega) (by omega)
   exact fF rfl hr hF (by omega) (by simp [dk,xs,Mo.e,eT,aU,eL,eF])
  refine dh rfl (fun ho=>?_) (fun _=>?_)
  ·subst ho
   simp only [aM,aF,UU,VF,XL,ah,bc,aR,ae,ag,az,XV,aB,aC,aK,aO,aL,aG,au,aw,aD,aN,aI,aq,UM,Ue,VN,an,ar,eS,eT,eL,aU,eF,ak,aj]
   refine aT (fun z8=>?_) (fun _=>cb 2 (by omega))
   obtain ⟨w6,q6,h6⟩:=bj hm f hf g hg 4 a
   refine ab rfl h6 (by simp [Mo.e,eT,aU,eL,eF]) (by simp) (by simp) (by simp) ?_
   simp only [aM,aF,UU,VF,XL,ah,bc,aR,ae,ag,az,XV,aB,aC,aK,aO,aL,aG,au,aw,aD,aN,aI,aq,UM,Ue,VN,an,ar,eS,eT,eL,aU,eF,ak,aj]
   cases w6
   case false=>simp only [al];exact cb 3 (by omega)
   simp only [aE]
   obtain ⟨w7,q7,h7⟩:=bj hm f hf g hg 4 b
   refine ab rfl h7 (by simp [Mo.e,eT,aU,eL,eF]) (by simp) (by simp) (by simp) ?_
   simp only [aM,aF,UU,VF,XL,ah,bc,aR,ae,ag,az,XV,aB,aC,aK,aO,aL,aG,au,aw,aD,aN,aI,aq,UM,Ue,VN,an,ar,eS,eT,eL,aU,eF,ak,aj]
   cases w7
   case false=>simp only [al];exact cb 3 (by omega)
   simp only [aE]
   obtain ⟨w8,q8,h8⟩:=bj hm f hf g hg 0 c
   refine ab rfl h8 (by simp [Mo.e,eT,aU,eL,eF]) (by simp) (by simp) (by simp) ?_
   simp only [aM,aF,UU,VF,XL,ah,bc,aR,ae,ag,az,XV,aB,aC,aK,aO,aL,aG,au,aw,aD,aN,aI,aq,UM,Ue,VN,an,ar,eS,eT,eL,aU,eF,ak,aj]
   cases w8
   case false=>simp only [al];exact cb 3 (by omega)
   simp only [aE]
   have f6:=(q6 rfl).1 rfl
   have f7:=(q7 rfl).1 rfl
   obtain ⟨i,hi⟩:=UL (show 0≤a by omega)
   subst hi
   obtain ⟨j,hj⟩:=UL (show 0≤b by omega)
   subst hj
   obtain ⟨r,hr,hF⟩:=JL hm f 19 c i j (by omega) (by omega)
   exact fF rfl hr hF (by omega) (by simp [dk,xs,Mo.e,eT,aU,eL,eF])
  refine dh rfl (fun ho=>?_) (fun _=>?_)
  ·subst ho
   simp only [aM,aF,UU,VF,XL,ah,bc,aR,ae,ag,az,XV,aB,aC,aK,aO,aL,aG,au,aw,aD,aN,aI,aq,UM,Ue,VN,an,ar,eS,eT,eL,aU,eF,ak,aj]
   refine aT (fun z8=>?_) (fun _=>cb 2 (by omega))
   obtain ⟨w6,q6,h6⟩:=bj hm f hf g hg 4 a
   refine ab rfl h6 (by simp [Mo.e,eT,aU,eL,eF]) (by simp) (by simp) (by simp) ?_
   simp only [aM,aF,UU,VF,XL,ah,bc,aR,ae,ag,az,XV,aB,aC,aK,aO,aL,aG,au,aw,aD,aN,aI,aq,UM,Ue,VN,an,ar,eS,eT,eL,aU,eF,ak,aj]
   cases w6
   case false=>simp only [al];exact cb 3 (by omega)
   simp only [aE]
   obtain ⟨w7,q7,h7⟩:=bj hm f hf g hg 4 b
   refine ab rfl h7 (by simp [Mo.e,eT,aU,eL,eF]) (by simp) (by simp) (by simp) ?_
   simp only [aM,aF,UU,VF,XL,ah,bc,aR,ae,ag,az,XV,aB,aC,aK,aO,aL,aG,au,aw,aD,aN,aI,aq,UM,Ue,VN,an,ar,eS,eT,eL,aU,eF,ak,aj]
   cases w7
   case false=>simp only [al];exact cb 3 (by omega)
   simp only [aE]
   obtain ⟨w8,q8,h8⟩:=bj hm f hf g hg 0 c
   refine ab rfl h8 (by simp [Mo.e,eT,aU,eL,eF]) (by simp) (by simp) (by simp) ?_
   simp only [aM,aF,UU,VF,XL,ah,bc,aR,ae,ag,az,XV,aB,aC,aK,aO,aL,aG,au,aw,aD,aN,aI,aq,UM,Ue,VN,an,ar,eS,eT,eL,aU,eF,ak,aj]
   cases w8
   case false=>simp only [al];exact cb 3 (by omega)
   simp only [aE]
   have f6:=(q6 rfl).1 rfl
   have f7:=(q7 rfl).1 rfl
   obtain ⟨i,hi⟩:=UL (show 0≤a by omega)
   subst hi
   obtain ⟨j,hj⟩:=UL (show 0≤b by omega)
   subst hj
   obtain ⟨r,hr,hF⟩:=JM hm f hf 20 c i j (by omega) (by omega)
   exact fF rfl hr hF (by omega) (by simp [dk,xs,Mo.e,eT,aU,eL,eF])
  refine dh rfl (fun ho=>?_) (fun _=>?_)
  ·subst ho
   simp only [aM,aF,UU,VF,XL,ah,bc,aR,ae,ag,az,XV,aB,aC,aK,aO,aL,aG,au,aw,aD,aN,aI,aq,UM,Ue,VN,an,ar,eS,eT,eL,aU,eF,ak,aj]
   refine aT (fun z8=>?_) (fun _=>cb 2 (by omega))
   obtain ⟨w6,q6,h6⟩:=bj hm f hf g hg 4 a
   refine ab rfl h6 (by simp [Mo.e,eT,aU,eL,eF]) (by simp) (by simp) (by simp) ?_
   simp only [aM,aF,UU,VF,XL,ah,bc,aR,ae,ag,az,XV,aB,aC,aK,aO,aL,aG,au,aw,aD,aN,aI,aq,UM,Ue,VN,an,ar,eS,eT,eL,aU,eF,ak,aj]
   cases w6
   case false=>simp only [al];exact cb 3 (by omega)
   simp only [aE]
   obtain ⟨w7,q7,h7⟩:=bj hm f hf g hg 4 b
   refine ab rfl h7 (by simp [Mo.e,eT,aU,eL,eF]) (by simp) (by simp) (by simp) ?_
   simp only [aM,aF,UU,VF,XL,ah,bc,aR,ae,ag,az,XV,aB,aC,aK,aO,aL,aG,au,aw,aD,aN,aI,aq,UM,Ue,VN,an,ar,eS,eT,eL,aU,eF,ak,aj]
   cases w7
   case false=>simp only [al];exact cb 3 (by omega)
   simp only [aE]
   obtain ⟨w8,q8,h8⟩:=bj hm f hf g hg 0 c
   refine ab rfl h8 (by simp [Mo.e,eT,aU,eL,eF]) (by simp) (by simp) (by simp) ?_
   simp only [aM,aF,UU,VF,XL,ah,bc,aR,ae,ag,az,XV,aB,aC,aK,aO,aL,aG,au,aw,aD,aN,aI,aq,UM,Ue,VN,an,ar,eS,eT,eL,aU,eF,ak,aj]
   cases w8
   case false=>simp only [al];exact cb 3 (by omega)
   simp only [aE]
   have f6:=(q6 rfl).1 rfl
   have f7:=(q7 rfl).1 rfl
   obtain ⟨i,hi⟩:=UL (show 0≤a by omega)
   subst hi
   obtain ⟨j,hj⟩:=UL (show 0≤b by omega)
   subst hj
   obtain ⟨r,hr,hF⟩:=JM hm f hf 21 c i j (by omega) (by omega)
   exact fF rfl hr hF (by omega) (by simp [dk,xs,Mo.e,eT,aU,eL,eF])
  refine dh rfl (fun ho=>?_) (fun _=>?_)
  ·subst ho
   simp only [aM,aF,UU,VF,XL,ah,bc,aR,ae,ag,az,XV,aB,aC,aK,aO,aL,aG,au,aw,aD,aN,aI,aq,UM,Ue,VN,an,ar,eS,eT,eL,aU,eF,ak,aj]
   refine aT (fun z7=>?_) (fun _=>cb 2 (by omega))
   refine aT (fun z8=>?_) (fun _=>cb 2 (by omega))
   obtain ⟨w6,q6,h6⟩:=bj hm f hf g hg 4 a
   refine ab rfl h6 (by simp [Mo.e,eT,aU,eL,eF]) (by simp) (by simp) (by simp) ?_
   simp only [aM,aF,UU,VF,XL,ah,bc,aR,ae,ag,az,XV,aB,aC,aK,aO,aL,aG,au,aw,aD,aN,aI,aq,UM,Ue,VN,an,ar,eS,eT,eL,aU,eF,ak,aj]
   cases w6
   case false=>simp only [al];exact cb 3 (by omega)
   simp only [aE]
   obtain ⟨w7,q7,h7⟩:=bj hm f hf g hg 0 b
   refine ab rfl h7 (by simp [Mo.e,eT,aU,eL,eF]) (by simp) (by simp) (by simp) ?_
   simp only [aM,aF,UU,VF,XL,ah,bc,aR,ae,ag,az,XV,aB,aC,aK,aO,aL,aG,au,aw,aD,aN,aI,aq,UM,Ue,VN,an,ar,eS,eT,eL,aU,eF,ak,aj]
   cases w7
   case false=>simp only [al];exact cb 3 (by omega)
   simp only [aE]
   obtain ⟨w8,q8,h8⟩:=bj hm f hf g hg 0 c
   refine ab rfl h8 (by simp [Mo.e,eT,aU,eL,eF]) (by simp) (by simp) (by simp) ?_
   simp only [aM,aF,UU,VF,XL,ah,bc,aR,ae,ag,az,XV,aB,aC,aK,aO,aL,aG,au,aw,aD,aN,aI,aq,UM,Ue,VN,an,ar,eS,eT,eL,aU,eF,ak,aj]
   cases w8
   case false=>simp only [al];exact cb 3 (by omega)
   simp only [aE]
   have f6:=(q6 rfl).1 rfl
   obtain ⟨i,hi⟩:=UL (show 0≤a by omega)
   subst hi
   obtain ⟨r,hr,hF⟩:=Ph hm f 22 b c i (by omega)
   exact fF rfl hr hF (by omega) (by simp [dk,xs,Mo.e,eT,aU,eL,eF])
  refine dh rfl (fun ho=>?_) (fun _=>?_)
  ·subst ho
   simp only [aM,aF,UU,VF,XL,ah,bc,aR,ae,ag,az,XV,aB,aC,aK,aO,aL,aG,au,aw,aD,aN,aI,aq,UM,Ue,VN,an,ar,eS,eT,eL,aU,eF,ak,aj]
   refine aT (fun z8=>?_) (fun _=>cb 2 (by omega))
   obtain ⟨w6,q6,h6⟩:=bj hm f hf g hg 4 a
   refine ab rfl h6 (by simp [Mo.e,eT,aU,eL,eF]) (by simp) (by simp) (by simp) ?_
   simp only [aM,aF,UU,VF,XL,ah,bc,aR,ae,ag,az,XV,aB,aC,aK,aO,aL,aG,au,aw,aD,aN,aI,aq,UM,Ue,VN,an,ar,eS,eT,eL,aU,eF,ak,aj]
   cases w6
   case false=>simp only [al];exact cb 3 (by omega)
   simp only [aE]
   obtain ⟨w7,q7,h7⟩:=bj hm f hf g hg 12 b
   refine ab rfl h7 (by simp [Mo.e,eT,aU,eL,eF]) (by simp) (by simp) (by simp) ?_
   simp only [aM,aF,UU,VF,XL,ah,bc,aR,ae,ag,az,XV,aB,aC,aK,aO,aL,aG,au,aw,aD,aN,aI,aq,UM,Ue,VN,an,ar,eS,eT,eL,aU,eF,ak,aj]
   cases w7
   case false=>simp only [al];exact cb 3 (by omega)
   simp only [aE]
   obtain ⟨w8,q8,h8⟩:=bj hm f hf g hg 0 c
   refine ab rfl h8 (by simp [Mo.e,eT,aU,eL,eF]) (by simp) (by simp) (by simp) ?_
   simp only [aM,aF,UU,VF,XL,ah,bc,aR,ae,ag,az,XV,aB,aC,aK,aO,aL,aG,au,aw,aD,aN,aI,aq,UM,Ue,VN,an,ar,eS,eT,eL,aU,eF,ak,aj]
   cases w8
   case false=>simp only [al];exact cb 3 (by omega)
   simp only [aE]
   have f6:=(q6 rfl).1 rfl
   have f7:=(q7 rfl).2.2.2.2.2.2.2.1 rfl
   obtain ⟨i,hi⟩:=UL (show 0≤a by omega)
   subst hi
   obtain ⟨j,hj⟩:=UL (show 0≤b by omega)
   subst hj
   obtain ⟨k,hk⟩:=UL (show 0≤c by omega)
   subst hk
   obtain ⟨r,hr,hF⟩:=C0 hm f 23 i j k (by omega) (by omega) (by omega) (by omega)
   exact fF rfl hr hF (by omega) (by simp [dk,xs,Mo.e,eT,aU,eL,eF])
  refine dh rfl (fun ho=>?_) (fun _=>?_)
  ·subst ho
   simp only [aM,aF,UU,VF,XL,ah,bc,aR,ae,ag,az,XV,aB,aC,aK,aO,aL,aG,au,aw,aD,aN,aI,aq,UM,Ue,VN,an,ar,eS,eT,eL,aU,eF,ak,aj]
   refine aT (fun z8=>?_) (fun _=>cb 2 (by omega))
   obtain ⟨w6,q6,h6⟩:=bj hm f hf g hg 4 a
   refine ab rfl h6 (by simp [Mo.e,eT,aU,eL,eF]) (by simp) (by simp) (by simp) ?_
   simp only [aM,aF,UU,VF,XL,ah,bc,aR,ae,ag,az,XV,aB,aC,aK,aO,aL,aG,au,aw,aD,aN,aI,aq,UM,Ue,VN,an,ar,eS,eT,eL,aU,eF,ak,aj]
   cases w6
   case false=>simp only [al];exact cb 3 (by omega)
   simp only [aE]
   obtain ⟨w7,q7,h7⟩:=bj hm f hf g hg 12 b
   refine ab rfl h7 (by simp [Mo.e,eT,aU,eL,eF]) (by simp) (by simp) (by simp) ?_
   simp only [aM,aF,UU,VF,XL,ah,bc,aR,ae,ag,az,XV,aB,aC,aK,aO,aL,aG,au,aw,aD,aN,aI,aq,UM,Ue,VN,an,ar,eS,eT,eL,aU,eF,ak,aj]
   cases w7
   case false=>simp only [al];exact cb 3 (by omega)
   simp only [aE]
   obtain ⟨w8,q8,h8⟩:=bj hm f hf g hg 0 c
   refine ab rfl h8 (by simp [Mo.e,eT,aU,eL,eF]) (by simp) (by simp) (by simp) ?_
   simp only [aM,aF,UU,VF,XL,ah,bc,aR,ae,ag,az,XV,aB,aC,aK,aO,aL,aG,au,aw,aD,aN,aI,aq,UM,Ue,VN,an,ar,eS,eT,eL,aU,eF,ak,aj]
   cases w8
   case false=>simp only [al];exact cb 3 (by omega)
   simp only [aE]
   have f6:=(q6 rfl).1 rfl
   have f7:=(q7 rfl).2.2.2.2.2.2.2.1 rfl
   obtain ⟨i,hi⟩:=UL (show 0≤a by omega)
   subst hi
   obtain ⟨j,hj⟩:=UL (show 0≤b by omega)
   subst hj
   obtain ⟨k,hk⟩:=UL (show 0≤c by omega)
   subst hk
   obtain ⟨r,hr,hF⟩:=C0 hm f 24 i j k (by omega) (by omega) (by omega) (by omega)
   exact fF rfl hr hF (by omega) (by simp [dk,xs,Mo.e,eT,aU,eL,eF])
  refine dh rfl (fun ho=>?_) (fun _=>?_)
  ·subst ho
   obtain ⟨w6,q6,h6⟩:=bj hm f hf g hg 4 a
   refine ab rfl h6 (by simp [Mo.e,eT,aU,eL,eF]) (by simp) (by simp) (by simp) ?_
   simp only [aM,aF,UU,VF,XL,ah,bc,aR,ae,ag,az,XV,aB,aC,aK,aO,aL,aG,au,aw,aD,aN,aI,aq,UM,Ue,VN,an,ar,eS,eT,eL,aU,eF,ak,aj]
   cases w6
   case false=>simp only [al];exact cb 3 (by omega)
   simp only [aE]
   obtain ⟨w7,q7,h7⟩:=bj hm f hf g hg 12 b
   refine ab rfl h7 (by simp [Mo.e,eT,aU,eL,eF]) (by simp) (by simp) (by simp) ?_
   simp only [aM,aF,UU,VF,XL,ah,bc,aR,ae,ag,az,XV,aB,aC,aK,aO,aL,aG,au,aw,aD,aN,aI,aq,UM,Ue,VN,an,ar,eS,eT,eL,aU,eF,ak,aj]
   cases w7
   case false=>simp only [al];exact cb 3 (by omega)
   simp only [aE]
   obtain ⟨w8,q8,h8⟩:=bj hm f hf g hg 13 c
   refine ab rfl h8 (by simp [Mo.e,eT,aU,eL,eF]) (by simp) (by simp) (by simp) ?_
   simp only [aM,aF,UU,VF,XL,ah,bc,aR,ae,ag,az,XV,aB,aC,aK,aO,aL,aG,au,aw,aD,aN,aI,aq,UM,Ue,VN,an,ar,eS,eT,eL,aU,eF,ak,aj]
   cases w8
   case false=>simp only [al];exact cb 3 (by omega)
   simp only [aE]
   have f6:=(q6 rfl).1 rfl
   have f7:=(q7 rfl).2.2.2.2.2.2.2.1 rfl
   have f8:=(q8 rfl).2.2.2.2.2.2.2.2 rfl
   obtain ⟨i,hi⟩:=UL (show 0≤a by omega)
   subst hi
   obtain ⟨j,hj⟩:=UL (show 0≤b by omega)
   subst hj
   obtain ⟨k,hk⟩:=UL (show 0≤c by omega)
   subst hk
   obtain ⟨r,hr,hF⟩:=C0 hm f 25 i j k (by omega) (by omega) (by omega) (by omega)
   exact fF rfl hr hF (by omega) (by simp [dk,xs,Mo.e,eT,aU,eL,eF])
  refine dh rfl (fun ho=>?_) (fun _=>?_)
  ·subst ho
   simp only [aM,aF,UU,VF,XL,ah,bc,aR,ae,ag,az,XV,aB,aC,aK,aO,aL,aG,au,aw,aD,aN,aI,aq,UM,Ue,VN,an,ar,eS,eT,eL,aU,eF,ak,aj]
   refine aT (fun z6=>?_) (fun _=>cb 2 (by omega))
   refine aT (fun z7=>?_) (fun _=>cb 2 (by omega))
   refine aT (fun z8=>?_) (fun _=>cb 2 (by omega))
   obtain ⟨w6,q6,h6⟩:=bj hm f hf g hg 0 a
   refine ab rfl h6 (by simp [Mo.e,eT,aU,eL,eF]) (by simp) (by simp) (by simp) ?_
   simp only [aM,aF,UU,VF,XL,ah,bc,aR,ae,ag,az,XV,aB,aC,aK,aO,aL,aG,au,aw,aD,aN,aI,aq,UM,Ue,VN,an,ar,eS,eT,eL,aU,eF,ak,aj]
   cases w6
   case false=>simp only [al];exact cb 3 (by omega)
   simp only [aE]
   obtain ⟨w7,q7,h7⟩:=bj hm f hf g hg 0 b
   refine ab rfl h7 (by simp [Mo.e,eT,aU,eL,eF]) (by simp) (by simp) (by simp) ?_
   simp only [aM,aF,UU,VF,XL,ah,bc,aR,ae,ag,az,XV,aB,aC,aK,aO,aL,aG,au,aw,aD,aN,aI,aq,UM,Ue,VN,an,ar,eS,eT,eL,aU,eF,ak,aj]
   cases w7
   case false=>simp only [al];exact cb 3 (by omega)
   simp only [aE]
   obtain ⟨w8,q8,h8⟩:=bj hm f hf g hg 0 c
   refine ab rfl h8 (by simp [Mo.e,eT,aU,eL,eF]) (by simp) (by simp) (by simp) ?_
   simp only [aM,aF,UU,VF,XL,ah,bc,aR,ae,ag,az,XV,aB,aC,aK,aO,aL,aG,au,aw,aD,aN,aI,aq,UM,Ue,VN,an,ar,eS,eT,eL,aU,eF,ak,aj]
   cases w8
   case false=>simp only [al];exact cb 3 (by omega)
   simp only [aE]
   exact vd [] [105,110,116] (by simp) (.inr (cY (by simp [fc]))) (by omega) (by simp [eL,eS])
  refine dh rfl (fun ho=>?_) (fun _=>?_)
  ·subst ho
   simp only [aM,aF,UU,VF,XL,ah,bc,aR,ae,ag,az,XV,aB,aC,aK,aO,aL,aG,au,aw,aD,aN,aI,aq,UM,Ue,VN,an,ar,eS,eT,eL,aU,eF,ak,aj]
   refine aT (fun z6=>?_) (fun _=>cb 2 (by omega))
   refine aT (fun z7=>?_) (fun _=>cb 2 (by omega))
   refine aT (fun z8=>?_) (fun _=>cb 2 (by omega))
   obtain ⟨w6,q6,h6⟩:=bj hm f hf g hg 0 a
   refine ab rfl h6 (by simp [Mo.e,eT,aU,eL,eF]) (by simp) (by simp) (by simp) ?_
   simp only [aM,aF,UU,VF,XL,ah,bc,aR,ae,ag,az,XV,aB,aC,aK,aO,aL,aG,au,aw,aD,aN,aI,aq,UM,Ue,VN,an,ar,eS,eT,eL,aU,eF,ak,aj]
   cases w6
   case false=>simp only [al];exact cb 3 (by omega)
   simp only [aE]
   obtain ⟨w7,q7,h7⟩:=bj hm f hf g hg 0 b
   refine ab rfl h7 (by simp [Mo.e,eT,aU,eL,eF]) (by simp) (by simp) (by simp) ?_
   simp only [aM,aF,UU,VF,XL,ah,bc,aR,ae,ag,az,XV,aB,aC,aK,aO,aL,aG,au,aw,aD,aN,aI,aq,UM,Ue,VN,an,ar,eS,eT,eL,aU,eF,ak,aj]
   cases w7
   case false=>simp only [al];exact cb 3 (by omega)
   simp only [aE]
   obtain ⟨w8,q8,h8⟩:=bj hm f hf g hg 0 c
   refine ab rfl h8 (by simp [Mo.e,eT,aU,eL,eF]) (by simp) (by simp) (by simp) ?_
   simp only [aM,aF,UU,VF,XL,ah,bc,aR,ae,ag,az,XV,aB,aC,aK,aO,aL,aG,au,aw,aD,aN,aI,aq,UM,Ue,VN,an,ar,eS,eT,eL,aU,eF,ak,aj]
   cases w8
   case false=>simp only [al];exact cb 3 (by omega)
   simp only [aE]
   exact vd [[42]] [117,110,105,116] (by simp) (.inr (cY (by simp [fc]))) (by omega) (by simp [eL,eS])
  refine dh rfl (fun ho=>?_) (fun _=>?_)
  ·subst ho
   simp only [aM,aF,UU,VF,XL,ah,bc,aR,ae,ag,az,XV,aB,aC,aK,aO,aL,aG,au,aw,aD,aN,aI,aq,UM,Ue,VN,an,ar,eS,eT,eL,aU,eF,ak,aj]
   refine aT (fun z6=>?_) (fun _=>cb 2 (by omega))
   refine aT (fun z7=>?_) (fun _=>cb 2 (by omega))
   refine aT (fun z8=>?_) (fun _=>cb 2 (by omega))
   obtain ⟨w6,q6,h6⟩:=bj hm f hf g hg 0 a
   refine ab rfl h6 (by simp [Mo.e,eT,aU,eL,eF]) (by simp) (by simp) (by simp) ?_
   simp only [aM,aF,UU,VF,XL,ah,bc,aR,ae,ag,az,XV,aB,aC,aK,aO,aL,aG,au,aw,aD,aN,aI,aq,UM,Ue,VN,an,ar,eS,eT,eL,aU,eF,ak,aj]
   cases w6
   case false=>simp only [al];exact cb 3 (by omega)
   simp only [aE]
   obtain ⟨w7,q7,h7⟩:=bj hm f hf g hg 0 b
   refine ab rfl h7 (by simp [Mo.e,eT,aU,eL,eF]) (by simp) (by simp) (by simp) ?_
   simp only [aM,aF,UU,VF,XL,ah,bc,aR,ae,ag,az,XV,aB,aC,aK,aO,aL,aG,au,aw,aD,aN,aI,aq,UM,Ue,VN,an,ar,eS,eT,eL,aU,eF,ak,aj]
   cases w7
   case false=>simp only [al];exact cb 3 (by omega)
   simp only [aE]
   obtain ⟨w8,q8,h8⟩:=bj hm f hf g hg 0 c
   refine ab rfl h8 (by simp [Mo.e,eT,aU,eL,eF]) (by simp) (by simp) (by simp) ?_
   simp only [aM,aF,UU,VF,XL,ah,bc,aR,ae,ag,az,XV,aB,aC,aK,aO,aL,aG,au,aw,aD,aN,aI,aq,UM,Ue,VN,an,ar,eS,eT,eL,aU,eF,ak,aj]
   cases w8
   case false=>simp only [al];exact cb 3 (by omega)
   simp only [aE]
   obtain ⟨r,hr,hF⟩:=Pj hm f hf 28 a b c
   exact fF rfl hr hF (by omega) (by simp [dk,xs,Mo.e,eT,aU,eL,eF])
  exact cb 14 (by omega))
 exact ⟨pops,push,e,hq,h⟩
noncomputable def told (m:Mo) (f:Nat) (x:In):List bo×bo×Int:=
 open Classical in if h: ∃r:List bo×bo×Int,(∀g,m.f[f]? =some g→uD m g x.o x.a r.1 r.2.1 r.2.2)∧Ok 39 [.agg m.e,.c (.int .i64 (f:Int)),.agg x.e] (lQ r.1 r.2.1 r.2.2) then h.choose else ([],[],0)
theorem Ek {m:Mo} (hm:wE m) {f:Nat} (hf:f<m.f.length) (x:In):(∀g,m.f[f]? =some g→uD m g x.o x.a (told m f x).1 (told m f x).2.1 (told m f x).2.2)∧Ok 39 [.agg m.e,.c (.int .i64 (f:Int)),.agg x.e] (lQ (told m f x).1 (told m f x).2.1 (told m f x).2.2):=by
 have hex: ∃r:List bo×bo×Int,(∀g,m.f[f]? =some g→uD m g x.o x.a r.1 r.2.1 r.2.2)∧Ok 39 [.agg m.e,.c (.int .i64 (f:Int)),.agg x.e] (lQ r.1 r.2.1 r.2.2):=by
  obtain ⟨pops,push,e,h1,h2⟩:=Pl hm f hf m.f[f] rfl x.o x.a x.b x.c
  refine ⟨(pops,push,e),fun g hg=>?_,h2⟩
  rw [UB hf] at hg
  rw [←TZ hg];exact h1
 unfold told
 rw [dif_pos hex]
 exact hex.choose_spec
theorem yt {m:Mo} (hm:wE m) {f:Nat} {g:Fu} (hg:m.f[f]? =some g) (x:In):uD m g x.o x.a (told m f x).1 (told m f x).2.1 (told m f x).2.2:=by
 obtain ⟨hf,_⟩:=List.getElem?_eq_some_iff.1 hg
 exact (Ek hm hf x).1 g hg
theorem JO {m:Mo} (hm:wE m) {f:Nat} (hf:f<m.f.length) (x:In):Ok 39 [.agg m.e,.c (.int .i64 (f:Int)),.agg x.e] (lQ (told m f x).1 (told m f x).2.1 (told m f x).2.2):=(Ek hm hf x).2
abbrev Nc (m:Mo):Prop:=∀f∈m.f,f.l.length≤9223372036854775807
noncomputable def ve (m:Mo):Int×Int:=
 open Classical in if h: ∃r:Int×Int,(r.1=0→r.2=0∧wE m)∧Ok 29 [.agg m.e] (.agg [.int .i64 r.1,.int .i64 r.2]) then h.choose else (0,0)
theorem uE {m:Mo} (hl:Nc m):((ve m).1=0→(ve m).2=0∧wE m)∧Ok 29 [.agg m.e] (.agg [.int .i64 (ve m).1,.int .i64 (ve m).2]):=by
 have hex: ∃r:Int×Int,(r.1=0→r.2=0∧wE m)∧Ok 29 [.agg m.e] (.agg [.int .i64 r.1,.int .i64 r.2]):=by
  obtain ⟨w,a,h1,h2⟩:=O6 m hl
  exact ⟨(w,a),h1,h2⟩
 unfold ve
 rw [dif_pos hex]
 exact hex.choose_spec
theorem Pm {m:Mo} (hl:Nc m) (hc:(ve m).1=0) {f:Nat} (hf:f<m.f.length) (x:In):Ok 19 [.agg m.e,.c (.int .i64 (f:Int)),.agg x.e] (lQ (told m f x).1 (told m f x).2.1 (told m f x).2.2):=by
 obtain ⟨h1,hC⟩:=uE hl
 obtain ⟨_,hm⟩:=h1 hc
 have hT:=JO hm hf x
 generalize told m f x=r at hT
 obtain ⟨pops,push,e⟩:=r
 refine nz (l:=[eT m.t,aU m.s,eL m.p,eF m.f,.int .i64 (f:Int)]++x.e) QS (by simp [Mo.e,eT,aU,eL,eF,In.e]) (by simp [In.e]) ?_
 unfold Mq
 have e1: ¬(f:Int)<0:=by omega
 have e2: ¬((m.f.length:Nat):Int)≤f:=by omega
 simp only [aM,aF,UU,VF,XL,ah,bc,aR,ae,ag,az,XV,aB,aC,aK,aO,aL,aG,au,aw,aD,aN,aI,aq,UM,Ue,VN,an,ar,eS,eT,eL,aU,eF,ak,aj,In.e,if_neg e1,if_neg e2]
 refine ab rfl hC (by simp [Mo.e,eT,aU,eL,eF]) (by simp) (by simp) (by simp) ?_
 simp only [aM,aF,UU,VF,XL,ah,bc,aR,ae,ag,az,XV,aB,aC,aK,aO,aL,aG,au,aw,aD,aN,aI,aq,UM,Ue,VN,an,ar,eS,eT,eL,aU,eF,ak,aj,if_pos hc]
 refine ab rfl hT (by simp [Mo.e,eT,aU,eL,eF,In.e]) (by simp) (by simp) (by simp) ?_
 simp
end
section
open Go
def gT (t:List Cl) (a b:List bo):Prop:=a.length=b.length∧∀(k:Nat) (x y:bo),a[k]? =some x→b[k]? =some y→cZ t x y=true
theorem qn {t:List Cl} (hw:gR t=0) {a b c:List bo} (h1:gT t a b) (h2:gT t b c):gT t a c:=by
 refine ⟨h1.1.trans h2.1,fun k x z hx hz=>?_⟩
 have hk:k<b.length:=by rw [←h1.1];exact (List.getElem?_eq_some_iff.1 hx).1
 have hy:b[k]? =some b[k]:=UB hk
 exact F0 hw (h1.2 k x _ hx hy) (h2.2 k _ z hy hz)
theorem pa {t:List Cl} (hw:gR t=0) {a:List bo} (h: ∀s∈a,typed t s=true):gT t a a:=
 ⟨rfl,fun k x y hx hy=>by rw [hx] at hy;rw [←TZ hy];exact uz hw (h x (XD hx))⟩
def nw (t:List Cl) (st pops:List bo):Prop:=pops.length≤st.length∧∀(k:Nat) (x y:bo),pops[k]? =some x→st[k+st.length - pops.length]? =some y→x=[42]∨cZ t y x=true
def after (st pops:List bo) (push:bo):List bo:=st.take (st.length - pops.length)++if push=[] then [] else [push]
theorem El (l:List bo) (h:l.length≤1000):Is FQ [eL l] 0 [eL l]:=by
 cases l with
 |nil=>
  have h1:Is (FQ.of [.aJ]) [] 0 [.aY []]:=iz (fids:=[]) (lds:=[]) (t:=.exit 0 [.op .nil []]) (by kernel_rfl) rfl (by simp)
  have h2:Is (FQ.of [.e0 false]) [] 0 [.aY []]:=iz (fids:=[]) (lds:=[]) (t:=.exit 0 [.op .nil []]) (by kernel_rfl) rfl (by simp)
  exact Im Li Kb rfl rfl (by kernel_rfl) (by kernel_rfl) h1 h2
 |cons s l=>
  refine iz OO rfl ?_
  have e1:((l.length:Nat):Int)+1≤100000000:=by simp at h;omega
  have e2:(0:Int)<(l.length:Int)+1:=by omega
  simp [Jj,e1,e2,eL,eS]
section
variable (t:List Cl) (Q S A Si P F f:D)
theorem LV (a b:List bo) (hl:a.length=b.length) (hb:b.length≤1000): ∃j os,((j=0∨j=1∧gT t a b)∧∃o:List bo,os=[eL o,eT t,Si,P,F,f,Q,A,S])∧Is uf [eL b,eL [],eL a,.int .i64 0,Q,S,A,eT t,Si,P,F,f] j os:=
 cX (aY:=a) (enc:=fun k (o:List bo)=>[eL b,eL o,eL a,.int .i64 k,Q,S,A,eT t,Si,P,F,f]) (I:=fun k o=>o.length=k∧∀i x y,i<k→a[i]? =some x→b[i]? =some y→cZ t x y=true) (Q:=fun j os=>(j=0∨j=1∧gT t a b)∧∃o:List bo,os=[eL o,eT t,Si,P,F,f,Q,A,S]) CT (fun _ _=>rfl)
  (fun k o x hk hI hx=>by
   have w:=bm hk (by omega)
   have e1:(k:Int)<a.length:=by omega
   have e2:(k:Int)<b.length:=by omega
   have hx':a[k]? =some x:=by rw [UB hk,hx]
   have hy':b[k]? =some (b[k]'(by omega)):=UB _
   generalize (b[k]'(by omega))=y at hy'
   unfold nr
   simp only [aM,aF,UU,VF,XL,ah,bc,aR,ae,ag,az,XV,aB,aC,aK,aO,aL,aG,au,aw,aD,aN,aI,aq,UM,Ue,VN,an,ar,eS,eT,eL,aU,eF,ak,aj,if_pos e1,if_pos e2,if_pos (U9 k)]
   refine ab rfl (kD t x y) (by simp [hx',hy',eT,eS,eL]) (by simp) (by simp) (by simp) ?_
   have e3:((o.length:Nat):Int)≤100000000:=by omega
   simp only [aM,aF,UU,VF,XL,ah,bc,aR,ae,ag,az,XV,aB,aC,aK,aO,aL,aG,au,aw,aD,aN,aI,aq,UM,Ue,VN,an,ar,eS,eT,eL,aU,eF,ak,aj]
   cases hs:cZ t x y
   ·simp only [X5,XQ,aE,al]
    exact aH (.exit 0 [eL o,eT t,Si,P,F,f,Q,A,S]) (by simp [eL,eT]) (.inl ⟨_,_,rfl,.inl rfl,_,rfl⟩)
   ·simp only [X5,XQ,aE,al,if_pos e3]
    refine aH (.next [eL b,eL (o++[y]),eL a,.int .i64 ((k+1:Nat):Int),Q,S,A,eT t,Si,P,F,f]) (by simp [eL,eT,w,hy',eS]) (.inr ⟨_,rfl,by simp [hI.1],fun i x' y' hi hx2 hy2=>?_⟩)
    by_cases hik:i=k
    ·subst hik
     rw [hx'] at hx2;rw [hy'] at hy2
     rw [←TZ hx2,←TZ hy2];exact hs
    ·exact hI.2 i x' y' (by omega) hx2 hy2)
  (fun o hI=>aH (.exit 1 [eL o,eT t,Si,P,F,f,Q,A,S]) (by simp [nr,eL,eT]) ⟨_,_,rfl,.inr ⟨rfl,hl,fun i x y hx hy=>hI.2 i x y (List.getElem?_eq_some_iff.1 hx).1 hx hy⟩,_,rfl⟩) [] ⟨rfl,fun i x y h=>absurd h (by omega)⟩
theorem LW (a b:List bo) (ha:a.length≤1000): ∃j os,((j=0∨j=1∧gT t a b)∧(∃o:List bo,os=[eL o,eT t,Si,P,F,f,Q,A,S])∨j=2∧os=[eT t,Si,P,F,f,Q,A,S])∧Is OP [eL a,eL b,Q,S,A,eT t,Si,P,F,f] j os:=by
 refine Ge OQ rfl ?_
 unfold Jl
 simp only [aM,aF,UU,VF,XL,ah,bc,aR,ae,ag,az,XV,aB,aC,aK,aO,aL,aG,au,aw,aD,aN,aI,aq,UM,Ue,VN,an,ar,eS,eT,eL,aU,eF,ak,aj]
 by_cases hl:a.length=b.length
 case neg=>
  rw [if_neg (by omega)]
  exact aH (.exit 2 [eT t,Si,P,F,f,Q,A,S]) (by simp [eT]) ⟨_,_,rfl,.inr ⟨rfl,rfl⟩⟩
 rw [if_pos (by omega)]
 obtain ⟨j,os,⟨hj,o,rfl⟩,hL⟩:=LV t Q S A Si P F f a b hl (by omega)
 refine aP rfl hL (by simp [eL,eT]) ?_
 rcases hj with rfl |⟨rfl,hF⟩
 ·simp only [ay,Uq,X3,true_and]
  exact aH (.exit 0 [eL o,eT t,Si,P,F,f,Q,A,S]) (by simp [eT,eL]) ⟨_,_,rfl,.inl ⟨.inl rfl,_,rfl⟩⟩
 ·simp only [aS,ay,Uq,X3,true_and]
  exact aH (.exit 1 [eL o,eT t,Si,P,F,f,Q,A,S]) (by simp [eT,eL]) ⟨_,_,rfl,.inl ⟨.inr ⟨rfl,hF⟩,_,rfl⟩⟩
def JP (a b o:List bo):Prop:=o.length=a.length∧gT t a o∧gT t b o
theorem JQ (a b:List bo) (hl:a.length=b.length) (hb:b.length≤1000): ∃j os,(∃o:List bo,(j=0∨j=1∧JP t a b o)∧os=[eL o,eT t,Si,P,F,f,Q,A,S])∧Is ns [eL b,eL [],eL a,.int .i64 0,Q,S,A,eT t,Si,P,F,f] j os:=
 cX (aY:=a) (enc:=fun k (o:List bo)=>[eL b,eL o,eL a,.int .i64 k,Q,S,A,eT t,Si,P,F,f]) (I:=fun k o=>o.length=k∧∀i x y z,i<k→a[i]? =some x→b[i]? =some y→o[i]? =some z→cZ t x z=true∧cZ t y z=true) (Q:=fun j os=>∃o:List bo,(j=0∨j=1∧JP t a b o)∧os=[eL o,eT t,Si,P,F,f,Q,A,S]) yc (fun _ _=>rfl)
  (fun k o x hk hI hx=>by
   have w:=bm hk (by omega)
   have e1:(k:Int)<a.length:=by omega
   have e2:(k:Int)<b.length:=by omega
   have hx':a[k]? =some x:=by rw [UB hk,hx]
   have hy':b[k]? =some (b[k]'(by omega)):=UB _
   generalize (b[k]'(by omega))=y at hy'
   unfold ks
   simp only [aM,aF,UU,VF,XL,ah,bc,aR,ae,ag,az,XV,aB,aC,aK,aO,aL,aG,au,aw,aD,aN,aI,aq,UM,Ue,VN,an,ar,eS,eT,eL,aU,eF,ak,aj,if_pos e1,if_pos e2,if_pos (U9 k)]
   have hJ:=LH t x y
   cases hj:uB t x y with
   |none=>
    rw [hj] at hJ
    refine ab rfl hJ (by simp [hx',hy',eT,eS,eL]) (by simp [iA]) (by simp [iA]) (by simp [iA]) ?_
    simp only [iA,aM,aF,UU,VF,XL,ah,bc,aR,ae,ag,az,XV,aB,aC,aK,aO,aL,aG,au,aw,aD,aN,aI,aq,UM,Ue,VN,an,ar,eS,eT,eL,aU,eF,ak,aj,X5,XQ,aE,al]
    exact aH (.exit 0 [eL o,eT t,Si,P,F,f,Q,A,S]) (by simp [eL,eT]) (.inl ⟨_,_,rfl,_,.inl rfl,rfl⟩)
   |some z=>
    rw [hj] at hJ
    obtain ⟨_,q1,q2⟩:=JF hj
    refine ab rfl hJ (by simp [hx',hy',eT,eS,eL]) (by simp [iA]) (by simp [iA]) (by simp [iA]) ?_
    have e3:((o.length:Nat):Int)≤100000000:=by omega
    simp only [iA,aM,aF,UU,VF,XL,ah,bc,aR,ae,ag,az,XV,aB,aC,aK,aO,aL,aG,au,aw,aD,aN,aI,aq,UM,Ue,VN,an,ar,eS,eT,eL,aU,eF,ak,aj,X5,XQ,aE,al,if_pos e3]
    refine aH (.next [eL b,eL (o++[z]),eL a,.int .i64 ((k+1:Nat):Int),Q,S,A,eT t,Si,P,F,f]) (by simp [eL,eT,w,eS]) (.inr ⟨_,rfl,by simp [hI.1],fun i x' y' z' hi hx2 hy2 hz2=>?_⟩)
    by_cases hik:i=k
    ·subst hik
     rw [hx'] at hx2;rw [hy'] at hy2
     rw [List.getElem?_append_right (by omega),hI.1,Nat.sub_self] at hz2
     rw [←TZ hx2,←TZ hy2,←TZ hz2];exact ⟨q1,q2⟩
    ·rw [List.getElem?_append_left (by omega)] at hz2
     exact hI.2 i x' y' z' (by omega) hx2 hy2 hz2)
  (fun o hI=>aH (.exit 1 [eL o,eT t,Si,P,F,f,Q,A,S]) (by simp [ks,eL,eT]) ⟨_,_,rfl,_,.inr ⟨rfl,hI.1,⟨hI.1.symm,fun i x z hx hz=>by
   have hi:=(List.getElem?_eq_some_iff.1 hx).1
   exact (hI.2 i x _ z hi hx (UB (by omega)) hz).1⟩,⟨by rw [←hl];exact hI.1.symm,fun i y z hy hz=>by
   have hi:=(List.getElem?_eq_some_iff.1 hy).1
   exact (hI.2 i _ y z (by omega) (UB (by omega)) hy hz).2⟩⟩,rfl⟩) [] ⟨rfl,fun i x y z h=>absurd h (by omega)⟩
theorem JR (a b:List bo) (hb:b.length≤1000): ∃j os,((∃o:List bo,(j=0∨j=1∧JP t a b o)∧os=[eL o,eT t,Si,P,F,f,Q,A,S])∨j=2∧os=[eT t,Si,P,F,f,Q,A,S])∧Is CU [eL a,eL b,Q,S,A,eT t,Si,P,F,f] j os:=by
 refine Ge Jm rfl ?_
 unfold AU
 simp only [aM,aF,UU,VF,XL,ah,bc,aR,ae,ag,az,XV,aB,aC,aK,aO,aL,aG,au,aw,aD,aN,aI,aq,UM,Ue,VN,an,ar,eS,eT,eL,aU,eF,ak,aj]
 by_cases hl:a.length=b.length
 case neg=>
  rw [if_neg (by omega)]
  exact aH (.exit 2 [eT t,Si,P,F,f,Q,A,S]) (by simp [eT]) ⟨_,_,rfl,.inr ⟨rfl,rfl⟩⟩
 rw [if_pos (by omega)]
 obtain ⟨j,os,⟨o,hj,rfl⟩,hL⟩:=JQ t Q S A Si P F f a b hl hb
 refine aP rfl hL (by simp [eL,eT]) ?_
 rcases hj with rfl |⟨rfl,hF⟩
 ·simp only [ay,Uq,X3,true_and]
  exact aH (.exit 0 [eL o,eT t,Si,P,F,f,Q,A,S]) (by simp [eT,eL]) ⟨_,_,rfl,.inl ⟨_,.inl rfl,rfl⟩⟩
 ·simp only [aS,ay,Uq,X3,true_and]
  exact aH (.exit 1 [eL o,eT t,Si,P,F,f,Q,A,S]) (by simp [eT,eL]) ⟨_,_,rfl,.inl ⟨_,.inr ⟨rfl,hF⟩,rfl⟩⟩
theorem LX (st pops:List bo) (push:bo) (h1:st.length≤1000) (h2:pops.length≤900):
 ∃i os,((i≤1∧∃n:Int,os=[eL pops,eL st,.str push,.int .i64 n,eT t,Si,P,F,f,Q,A,S])∨(i=2∧nw t st pops∧os=[eL pops,eL st,.str push,.int .i64 ((st.length - pops.length:Nat):Int),eT t,Si,P,F,f,Q,A,S]))∧
  Is CS [.int .i64 ((pops.length:Int) - 1),Q,S,A,eT t,Si,P,F,f,.int .i64 (st.length:Int),eL pops,.str push,eL st] i os:=by
 have h:=Nb (enc:=fun j:Nat=>[.int .i64 ((j:Int) - 1),Q,S,A,eT t,Si,P,F,f,.int .i64 ((j+st.length - pops.length:Nat):Int),eL pops,.str push,eL st])
  (I:=fun j=>j≤pops.length∧pops.length≤j+st.length∧∀k x y,j≤k→pops[k]? =some x→st[k+st.length - pops.length]? =some y→x=[42]∨cZ t y x=true) (μ:=fun j=>j)
  (Q:=fun _ i os=>(i≤1∧∃n:Int,os=[eL pops,eL st,.str push,.int .i64 n,eT t,Si,P,F,f,Q,A,S])∨(i=2∧nw t st pops∧os=[eL pops,eL st,.str push,.int .i64 ((st.length - pops.length:Nat):Int),eT t,Si,P,F,f,Q,A,S]))
  Jk (fun j hI=>⟨rfl,by
   obtain ⟨hj,hn,hI⟩:=hI
   unfold AT
   simp only [aM,aF,UU,VF,XL,ah,bc,aR,ae,ag,az,XV,aB,aC,aK,aO,aL,aG,au,aw,aD,aN,aI,aq,UM,Ue,VN,an,ar,eS,eT,eL,aU,eF,ak,aj]
   cases j with
   |zero=>
    rw [if_neg (by omega)]
    refine aH (.exit 2 [eL pops,eL st,.str push,.int .i64 ((st.length - pops.length:Nat):Int),eT t,Si,P,F,f,Q,A,S]) (by simp [eL,eT]) (.inl ⟨_,_,rfl,.inr ⟨rfl,⟨by omega,fun k x y hx hy=>hI k x y (by omega) hx hy⟩,rfl⟩⟩)
   |succ j=>
    have ej:(((j+1:Nat):Int)) - 1=(j:Int):=by omega
    have w0:IntKind.i64.wrap ((j:Int) - 1)=(j:Int) - 1:=U5 _ (by omega)
    have e1:(j:Int)<pops.length:=by omega
    have hx:pops[j]? =some (pops[j]'(by omega)):=UB _
    generalize (pops[j]'(by omega))=x at hx
    rw [ej]
    simp only [if_pos (U9 j),if_pos e1,UM,hx,VN,aq,eS,an,aw,ak,aj]
    by_cases hz:j+1+st.length - pops.length=0
    ·have w1:IntKind.i64.wrap (((j+1+st.length - pops.length:Nat):Int) - 1)= -1:=by rw [hz];decide
     rw [w1,if_pos (by omega)]
     exact aH (.exit 0 [eL pops,eL st,.str push,.int .i64 ((j+1+st.length - pops.length:Nat):Int),eT t,Si,P,F,f,Q,A,S]) (by simp [eL,eT]) (.inl ⟨_,_,rfl,.inl ⟨by omega,_,rfl⟩⟩)
    have w1:IntKind.i64.wrap (((j+1+st.length - pops.length:Nat):Int) - 1)=((j+st.length - pops.length:Nat):Int):=by rw [U5 _ (by omega)];omega
    have e2: ¬((j+st.length - pops.length:Nat):Int)<0:=by omega
    have e3:((j+st.length - pops.length:Nat):Int)<((j+1+st.length - pops.length:Nat):Int):=by omega
    have e4:((j+st.length - pops.length:Nat):Int)<st.length:=by omega
    have e5:((j+st.length - pops.length:Nat):Int)≤((j+1+st.length - pops.length:Nat):Int):=by omega
    simp only [w1,if_neg e2,if_pos (U9 _),if_pos e3,if_pos e4,if_pos e5]
    have hy:st[j+st.length - pops.length]? =some (st[j+st.length - pops.length]'(by omega)):=UB _
    generalize (st[j+st.length - pops.length]'(by omega))=y at hy
    have fin:(x=[42]∨cZ t y x=true)→∀k x y,j≤k→pops[k]? =some x→st[k+st.length - pops.length]? =some y→x=[42]∨cZ t y x=true:=fun h k x' y' hk hx' hy'=>by
     by_cases hkj:k=j
     ·subst hkj
      rw [hx] at hx';rw [hy] at hy'
      rw [←TZ hx',←TZ hy'];exact h
     ·exact hI k x' y' (by omega) hx' hy'
    by_cases hx42:x=[42]
    ·rw [if_pos hx42]
     exact aH (.next [.int .i64 ((j:Int) - 1),Q,S,A,eT t,Si,P,F,f,.int .i64 ((j+st.length - pops.length:Nat):Int),eL pops,.str push,eL st]) (by simp [eL,eT,w0,w1]) (.inr ⟨j,rfl,⟨by omega,by omega,fin (.inl hx42)⟩,by omega,fun i os h=>h⟩)
    rw [if_neg hx42]
    refine ab rfl (kD t y x) (by simp [hx,hy,w1,eT,eL,eS]) (by simp) (by simp) (by simp) ?_
    simp only [aM,aF,UU,VF,XL,ah,bc,aR,ae,ag,az,XV,aB,aC,aK,aO,aL,aG,au,aw,aD,aN,aI,aq,UM,Ue,VN,an,ar,eS,eT,eL,aU,eF,ak,aj,w1,if_pos e5]
    cases hs:cZ t y x
    ·simp only [X5,XQ,aE,al]
     exact aH (.exit 1 [eL pops,eL st,.str push,.int .i64 ((j+1+st.length - pops.length:Nat):Int),eT t,Si,P,F,f,Q,A,S]) (by simp [eL,eT]) (.inl ⟨_,_,rfl,.inl ⟨by omega,_,rfl⟩⟩)
    ·simp only [X5,XQ,aE,al]
     exact aH (.next [.int .i64 ((j:Int) - 1),Q,S,A,eT t,Si,P,F,f,.int .i64 ((j+st.length - pops.length:Nat):Int),eL pops,.str push,eL st]) (by simp [eL,eT,w0,w1]) (.inr ⟨j,rfl,⟨by omega,by omega,fin (.inr hs)⟩,by omega,fun i os h=>h⟩)⟩) pops.length ⟨by omega,by omega,fun k x y hk hx=>by have:=(List.getElem?_eq_some_iff.1 hx).1;omega⟩
 have e:pops.length+st.length - pops.length=st.length:=by omega
 simp only [e] at h
 exact h
end
end
section
open Go
abbrev vf:=Bool×List bo
def ew (s:vf):List D:=[.bool s.1,eL s.2]
def cj (S:List vf):D:=.aY (S.map ew)
abbrev Ah:=List (Nat×List bo)
def Kc (p:Nat×List bo):List D:=[.int .i64 (p.1:Int),eL p.2]
def eA (A:Ah):D:=.aY (A.map Kc)
def eK (k:List In):D:=.aY (k.map In.e)
def dq (A:Ah) (q:Nat):Option (List bo):=(A.find? fun p=>p.1==q).map (·.2)
def yu (q:Nat) (w:List bo):Ah→Ah
 |[]=>[(q,w)]
 |p::A=>bif p.1==q then (q,w)::A else p::yu q w A
def dC (q:Nat):Ah→Ah
 |[]=>[]
 |p::A=>bif p.1==q then A else p::dC q A
theorem Em (q:Nat) (p:Nat×List bo):bC (.int .i64 (q:Int)) (Kc p)=(p.1==q):=by
 unfold Kc bC gC
 simp only [decide_true,Bool.true_and]
 by_cases h:p.1=q
 ·simp [h]
 ·have h': ¬(q:Int)=(p.1:Int):=by omega
  rw [beq_eq_false_iff_ne.2 h,beq_eq_false_iff_ne.2 h']
theorem JS (q:Nat): ∀A:Ah,(A.map Kc).any (bC (.int .i64 (q:Int)))=(dq A q).isSome
 |[]=>rfl
 |p::A=>by
  have ih:=JS q A
  unfold dq at ih⊢
  simp only [Uc,List.any_cons,Em,X8]
  cases p.1==q with
  |true=>rfl
  |false=>simpa using ih
theorem C1 (q:Nat): ∀A:Ah,(A.map Kc).find? (bC (.int .i64 (q:Int)))=(dq A q).map fun w=>[.int .i64 (q:Int),eL w]
 |[]=>rfl
 |p::A=>by
  have ih:=C1 q A
  unfold dq at ih⊢
  simp only [Uc,X8,Em]
  cases h:p.1==q with
  |true=>rw [←beq_iff_eq.1 h];rfl
  |false=>simpa using ih
theorem JT (q:Nat) (w:List bo): ∀A:Ah,ik (.int .i64 (q:Int)) [eL w] (A.map Kc)=(yu q w A).map Kc
 |[]=>rfl
 |p::A=>by
  simp only [Uc,ik,Em,yu,JT q w A]
  cases p.1==q<;>rfl
theorem Nd (q:Nat): ∀A:Ah,kK (.int .i64 (q:Int)) (A.map Kc)=(dC q A).map Kc
 |[]=>rfl
 |p::A=>by
  simp only [Uc,kK,Em,dC,Nd q A]
  cases p.1==q<;>rfl
theorem pb (q q':Nat) (w:List bo): ∀A:Ah,dq (yu q w A) q'=if q'=q then some w else dq A q'
 |[]=>by
  unfold yu dq
  by_cases h:q'=q
  ·simp [h]
  ·have h': ¬q=q':=fun e=>h e.symm
   simp [h,h']
 |p::A=>by
  have ih:=pb q q' w A
  unfold dq at ih⊢
  unfold yu
  by_cases hp:p.1=q
  ·rw [hp,beq_self_eq_true,cond_true]
   by_cases h:q'=q
   ·simp [h]
   ·have h': ¬q=q':=fun e=>h e.symm
    have h2: ¬p.1=q':=by omega
    simp [h,h',h2]
  ·rw [beq_eq_false_iff_ne.2 hp,cond_false]
   by_cases h:p.1=q'
   ·have h2: ¬q'=q:=by omega
    simp [h,h2]
   ·simp only [X8,beq_eq_false_iff_ne.2 h]
    exact ih
theorem uF (q q':Nat) (h:q'≠q): ∀A:Ah,dq (dC q A) q'=dq A q'
 |[]=>rfl
 |p::A=>by
  have ih:=uF q q' h A
  unfold dq at ih⊢
  unfold dC
  by_cases hp:p.1=q
  ·have h2: ¬p.1=q':=by omega
   rw [beq_iff_eq.2 hp,cond_true,X8,beq_eq_false_iff_ne.2 h2]
  ·rw [beq_eq_false_iff_ne.2 hp,cond_false]
   by_cases h2:p.1=q'
   ·simp [h2]
   ·simp only [X8,beq_eq_false_iff_ne.2 h2]
    exact ih
def Pn (t:List Cl) (n k:Nat) (A:Ah):Prop:=∀q w,k≤q→dq A q=some w→q<n∧w.length≤1000∧∀s∈w,typed t s=true
theorem F5 {t:List Cl} (hw:gR t=0) {a b:List bo} (h:gT t a b): ∀s∈b,typed t s=true:=by
 intro s hs
 obtain ⟨i,hi,rfl⟩:=List.mem_iff_getElem.1 hs
 have hi':i<a.length:=by rw [h.1];exact hi
 exact ((fW hw).1 (h.2 i _ _ (UB hi') (UB hi))).2.1
theorem ra {t:List Cl} {st pops:List bo} {push:bo} (h: ∀s∈st,typed t s=true) (hp:push=[]∨typed t push=true): ∀s∈after st pops push,typed t s=true:=by
 intro s hs
 unfold after at hs
 rcases List.mem_append.1 hs with hs |hs
 ·exact h s (List.mem_of_mem_take hs)
 ·split at hs
  ·cases hs
  ·rw [List.mem_singleton.1 hs];exact hp.resolve_left ‹_›
theorem Po {m:Mo} (hm:wE m) {f:Nat} {g:Fu} (hg:m.f[f]? =some g) (Q S A:D) (p:Nat) (x:In) (hx:g.k[p]? =some x) (st:List bo) (hst:st.length≤1000):
 ∃j os,((j=0∧(told m f x).2.2=0∧nw m.t st (told m f x).1∧(after st (told m f x).1 (told m f x).2.1).length≤1000∧os=[eL (after st (told m f x).1 (told m f x).2.1),eT m.t,aU m.s,eL m.p,eF m.f,.int .i64 (f:Int),Q,A,S])
  ∨(j=1∧(told m f x).2.2=0∧nw m.t st (told m f x).1∧(told m f x).2.1=[]∧os=[.int .i64 ((st.length - (told m f x).1.length:Nat):Int),eT m.t,aU m.s,eL m.p,eF m.f,.int .i64 (f:Int),Q,A,S,eL st])
  ∨(j=2∧∃e:Int,e≠0∧os=[.int .i64 e,eT m.t,aU m.s,eL m.p,eF m.f,.int .i64 (f:Int),Q,A,S]))∧
  Is Tc [.int .i64 (p:Int),eL st,Q,S,A,eT m.t,aU m.s,eL m.p,eF m.f,.int .i64 (f:Int)] j os:=by
 obtain ⟨hf,hgf⟩:=List.getElem?_eq_some_iff.1 hg
 have hT:=JO hm hf x
 have hq:=yt hm hg x
 generalize told m f x=r at hT hq
 obtain ⟨pops,push,e⟩:=r
 obtain ⟨q1,q2,_⟩:=hq
 simp only at q1 q2 hT⊢
 refine Ge Rq rfl ?_
 have hkl:=(hm.f g (XD hg)).k
 have hp:=(List.getElem?_eq_some_iff.1 hx).1
 have e1:(f:Int)<m.f.length:=by omega
 have e2:(p:Int)<g.k.length:=by omega
 unfold MZ
 simp only [aM,aF,UU,VF,XL,ah,bc,aR,ae,ag,az,XV,aB,aC,aK,aO,aL,aG,au,aw,aD,aN,aI,aq,UM,Ue,VN,an,ar,eS,eT,eL,aU,eF,ak,aj,Fu.e,hg,if_pos e1,if_pos e2,if_pos (U9 _)]
 refine ab rfl hT (by simp [Mo.e,eT,aU,eL,eF,In.e,Fu.e,hg,hx]) (by simp) (by simp) (by simp) ?_
 simp only [aM,aF,UU,VF,XL,ah,bc,aR,ae,ag,az,XV,aB,aC,aK,aO,aL,aG,au,aw,aD,aN,aI,aq,UM,Ue,VN,an,ar,eS,eT,eL,aU,eF,ak,aj]
 by_cases he:e=0
 case neg=>
  rw [if_neg he]
  exact aH (.exit 2 [.int .i64 e,eT m.t,aU m.s,eL m.p,eF m.f,.int .i64 (f:Int),Q,A,S]) (by simp [eT,aU,eL,eF]) ⟨_,_,rfl,.inr (.inr ⟨rfl,e,he,rfl⟩)⟩
 rw [if_pos he]
 refine aP rfl (El st hst) (by simp [eL]) ?_
 simp only [ay,Uq,X3,true_and]
 have w1:IntKind.i64.wrap ((pops.length:Int) - 1)=(pops.length:Int) - 1:=U5 _ (by omega)
 obtain ⟨j,os,hj,hL⟩:=LX m.t Q S A (aU m.s) (eL m.p) (eF m.f) (.int .i64 (f:Int)) st pops push hst q1
 refine aP rfl hL (by simp [eT,aU,eL,eF,w1]) ?_
 rcases hj with ⟨hj,n,rfl⟩ |⟨rfl,hpo,rfl⟩
 ·match j,hj with
  |0,_=>simp only [ay,Uq,X3,true_and];exact aH (.exit 2 [.int .i64 15,eT m.t,aU m.s,eL m.p,eF m.f,.int .i64 (f:Int),Q,A,S]) (by simp [eT,aU,eL,eF]) ⟨_,_,rfl,.inr (.inr ⟨rfl,15,by omega,rfl⟩)⟩
  |1,_=>simp only [aS,ay,Uq,X3,true_and];exact aH (.exit 2 [.int .i64 7,eT m.t,aU m.s,eL m.p,eF m.f,.int .i64 (f:Int),Q,A,S]) (by simp [eT,aU,eL,eF]) ⟨_,_,rfl,.inr (.inr ⟨rfl,7,by omega,rfl⟩)⟩
 simp only [aS,ay,Uq,X3,true_and]
 have hpl:=hpo.1
 have e3:((st.length - pops.length:Nat):Int)≤100000000:=by omega
 have e4:((st.length - pops.length:Nat):Int)≤st.length:=by omega
 simp only [aM,aF,UU,VF,XL,ah,bc,aR,ae,ag,az,XV,aB,aC,aK,aO,aL,aG,au,aw,aD,aN,aI,aq,UM,Ue,VN,an,ar,eS,eT,eL,aU,eF,ak,aj,if_pos e3,if_pos e4,rG,DO]
 by_cases hpu:push=[]
 ·rw [if_pos hpu,if_neg (by omega)]
  exact aH (.exit 1 [.int .i64 ((st.length - pops.length:Nat):Int),eT m.t,aU m.s,eL m.p,eF m.f,.int .i64 (f:Int),Q,A,S,eL st]) (by simp [eT,aU,eL,eF]) ⟨_,_,rfl,.inr (.inl ⟨rfl,he,hpo,hpu,rfl⟩)⟩
 rw [if_neg hpu]
 refine aT (fun _=>?_) (fun hle=>?_)
 ·exact aH (.exit 2 [.int .i64 15,eT m.t,aU m.s,eL m.p,eF m.f,.int .i64 (f:Int),Q,A,S]) (by simp [eT,aU,eL,eF]) ⟨_,_,rfl,.inr (.inr ⟨rfl,15,by omega,rfl⟩)⟩
 ·have ea:after st pops push=st.take (st.length - pops.length)++[push]:=by unfold after;rw [if_neg hpu]
  refine aH (.exit 0 [eL (after st pops push),eT m.t,aU m.s,eL m.p,eF m.f,.int .i64 (f:Int),Q,A,S]) (by simp [eT,aU,eL,eF,ea,eS,X9]) ⟨_,_,rfl,.inl ⟨rfl,he,hpo,?_,rfl⟩⟩
  simp at hle
  rw [ea];simp;omega
structure C2 (t:List Cl) (n p q:Nat) (st:List bo) (S:List vf) (A A':Ah):Prop where
 lt:q<n
 le:q≤p→∃w,S[q]? =some (true,w)∧gT t st w
 gt:p<q→∃w,dq A' q=some w∧gT t st w
 mono: ∀q' w,p<q'→dq A q'=some w→∃w',dq A' q'=some w'∧gT t w w'
 ok:Pn t n (p+1) A'
theorem lR {m:Mo} (hm:wE m) {f:Nat} {g:Fu} (hg:m.f[f]? =some g) (p q:Nat) (st:List bo) (hst:st.length≤1000) (hty: ∀s∈st,typed m.t s=true) (S:List vf) (hS:S.length=g.k.length) (A:Ah) (hA:Pn m.t g.k.length (p+1) A):
 ∃j os,((j=0∨j=1∨j=3)∧os=[eT m.t,aU m.s,eL m.p,eF m.f,.int .i64 (f:Int),eK g.k,eA A,cj S]∨j=2∧∃A',C2 m.t g.k.length p q st S A A'∧os=[eT m.t,aU m.s,eL m.p,eF m.f,.int .i64 (f:Int),eK g.k,eA A',cj S])∧
  Is Td [.int .i64 (p:Int),.int .i64 (q:Int),eL st,eK g.k,cj S,eA A,eT m.t,aU m.s,eL m.p,eF m.f,.int .i64 (f:Int)] j os:=by
 have hw:=hm.t
 obtain ⟨hf,hgf⟩:=List.getElem?_eq_some_iff.1 hg
 refine Ge Rr rfl ?_
 have e1:(f:Int)<m.f.length:=by omega
 unfold M0
 simp only [aM,aF,UU,VF,XL,ah,bc,aR,ae,ag,az,XV,aB,aC,aK,aO,aL,aG,au,aw,aD,aN,aI,aq,UM,Ue,VN,an,ar,eS,eT,eL,aU,eF,ak,aj,eK,cj,eA,Fu.e,hg,if_pos e1,if_pos (U9 _)]
 by_cases hqn:((g.k.length:Nat):Int)≤q
 ·rw [if_pos hqn]
  exact aH (.exit 0 [eT m.t,aU m.s,eL m.p,eF m.f,.int .i64 (f:Int),eK g.k,eA A,cj S]) (by simp [eT,aU,eL,eF,eK,eA,cj]) ⟨_,_,rfl,.inl ⟨.inl rfl,rfl⟩⟩
 rw [if_neg hqn]
 have e2:(q:Int)<g.k.length:=by omega
 by_cases hqp:(q:Int)≤p
 ·rw [if_pos hqp,if_pos e2]
  have hs:S[q]? =some (S[q]'(by omega)):=UB _
  generalize (S[q]'(by omega))=s at hs
  obtain ⟨b,w⟩:=s
  simp only [hs,VN,ew,aq,an,aD,ak]
  cases b
  ·simp only [al]
   exact aH (.exit 0 [eT m.t,aU m.s,eL m.p,eF m.f,.int .i64 (f:Int),eK g.k,eA A,cj S]) (by simp [eT,aU,eL,eF,eK,eA,cj,ew]) ⟨_,_,rfl,.inl ⟨.inl rfl,rfl⟩⟩
  simp only [aE]
  obtain ⟨j,os,hj,hC⟩:=LW m.t (eK g.k) (cj S) (eA A) (aU m.s) (eL m.p) (eF m.f) (.int .i64 (f:Int)) st w hst
  refine aP rfl hC (by simp [eT,aU,eL,eF,eK,eA,cj,ew,hs]) ?_
  rcases hj with ⟨rfl |⟨rfl,hF⟩,o,rfl⟩ |⟨rfl,rfl⟩
  ·simp only [ay,Uq,X3,true_and]
   exact aH (.exit 1 [eT m.t,aU m.s,eL m.p,eF m.f,.int .i64 (f:Int),eK g.k,eA A,cj S]) (by simp) ⟨_,_,rfl,.inl ⟨.inr (.inl rfl),rfl⟩⟩
  ·simp only [aS,ay,Uq,X3,true_and]
   exact aH (.exit 2 [eT m.t,aU m.s,eL m.p,eF m.f,.int .i64 (f:Int),eK g.k,eA A,cj S]) (by simp) ⟨_,_,rfl,.inr ⟨rfl,A,⟨by omega,fun _=>⟨w,hs,hF⟩,fun h=>by omega,fun q' w' h1 h2=>⟨w',h2,pa hw (hA q' w' h1 h2).2.2⟩,hA⟩,rfl⟩⟩
  ·simp only [aS,ay,Uq,X3,true_and]
   exact aH (.exit 3 [eT m.t,aU m.s,eL m.p,eF m.f,.int .i64 (f:Int),eK g.k,eA A,cj S]) (by simp) ⟨_,_,rfl,.inl ⟨.inr (.inr rfl),rfl⟩⟩
 rw [if_neg hqp]
 have hpq:p<q:=by omega
 have put: ∀o:List bo,gT m.t st o→(∀w,dq A q=some w→gT m.t w o)→C2 m.t g.k.length p q st S A (yu q o A):=fun o h1 h2=>
  ⟨by omega,fun h=>by omega,fun _=>⟨o,by rw [pb,if_pos rfl],h1⟩,fun q' w' h3 h4=>by
   rw [pb]
   by_cases hq:q'=q
   ·subst hq;rw [if_pos rfl];exact ⟨o,rfl,h2 w' h4⟩
   ·rw [if_neg hq];exact ⟨w',h4,pa hw (hA q' w' h3 h4).2.2⟩,fun q' w' h3 h4=>by
   rw [pb] at h4
   by_cases hq:q'=q
   ·subst hq
    rw [if_pos rfl] at h4
    rw [←TZ h4]
    exact ⟨by omega,by rw [←h1.1];exact hst,F5 hw h1⟩
   ·rw [if_neg hq] at h4;exact hA q' w' h3 h4⟩
 simp only [rH,JS]
 cases hl:dq A q with
 |none=>
  simp only [VU,al]
  refine aP rfl (El st hst) (by simp [eL]) ?_
  simp only [ay,Uq,X3,true_and]
  exact aH (.exit 2 [eT m.t,aU m.s,eL m.p,eF m.f,.int .i64 (f:Int),eK g.k,eA (yu q st A),cj S]) (by simp [eT,aU,eF,eK,eA,cj,JT];simp [eL]) ⟨_,_,rfl,.inr ⟨rfl,_,put st (pa hw hty) (fun w h=>by rw [hl] at h;cases h),rfl⟩⟩
 |some w=>
  simp only [XP,aE]
  obtain ⟨j,os,hj,hC⟩:=JR m.t (eK g.k) (cj S) (eA A) (aU m.s) (eL m.p) (eF m.f) (.int .i64 (f:Int)) w st hst
  refine aP rfl hC (by simp [-Ya,eT,aU,eF,eK,eA,cj,C1,hl];simp [eL]) ?_
  rcases hj with ⟨o,rfl |⟨rfl,hF⟩,rfl⟩ |⟨rfl,rfl⟩
  ·simp only [ay,Uq,X3,true_and]
   exact aH (.exit 1 [eT m.t,aU m.s,eL m.p,eF m.f,.int .i64 (f:Int),eK g.k,eA A,cj S]) (by simp) ⟨_,_,rfl,.inl ⟨.inr (.inl rfl),rfl⟩⟩
  ·simp only [aS,ay,Uq,X3,true_and]
   refine aH (.exit 2 [eT m.t,aU m.s,eL m.p,eF m.f,.int .i64 (f:Int),eK g.k,eA (yu q o A),cj S]) (by simp [eA,JT]) ⟨_,_,rfl,.inr ⟨rfl,_,put o hF.2.2 (fun w' h=>?_),rfl⟩⟩
   rw [hl] at h
   rw [←TZ h];exact hF.2.1
  ·simp only [aS,ay,Uq,X3,true_and]
   exact aH (.exit 3 [eT m.t,aU m.s,eL m.p,eF m.f,.int .i64 (f:Int),eK g.k,eA A,cj S]) (by simp) ⟨_,_,rfl,.inl ⟨.inr (.inr rfl),rfl⟩⟩
def targets (x:In) (p:Nat):List Nat:=if x.o=28 then [] else if x.o=11 then [x.a.toNat] else if x.o=12 then [p+1,x.a.toNat] else [p+1]
structure wF (t:List Cl) (n p:Nat) (qs:List Nat) (st:List bo) (S:List vf) (A A':Ah):Prop where
 at_: ∀q∈qs,q<n∧(q≤p→∃w,S[q]? =some (true,w)∧gT t st w)∧(p<q→∃w,dq A' q=some w∧gT t st w)
 mono: ∀q' w,p<q'→dq A q'=some w→∃w',dq A' q'=some w'∧gT t w w'
 ok:Pn t n (p+1) A'
theorem gv {t:List Cl} (hw:gR t=0) {n p:Nat} {st:List bo} {S:List vf} {A:Ah} (h:Pn t n (p+1) A):wF t n p [] st S A A:=
 ⟨fun q h=>absurd h (by simp),fun q' w h1 h2=>⟨w,h2,pa hw (h q' w h1 h2).2.2⟩,h⟩
theorem ff {t:List Cl} (hw:gR t=0) {n p q:Nat} {qs:List Nat} {st:List bo} {S:List vf} {A A1 A':Ah} (h1:C2 t n p q st S A A1) (h2:wF t n p qs st S A1 A'):wF t n p (q::qs) st S A A':=by
 refine ⟨fun q' hq=>?_,fun q' w h3 h4=>?_,h2.ok⟩
 ·rcases List.mem_cons.1 hq with rfl |hq
  ·refine ⟨h1.lt,h1.le,fun h=>?_⟩
   obtain ⟨w,e1,f1⟩:=h1.gt h
   obtain ⟨w',e2,f2⟩:=h2.mono _ w h e1
   exact ⟨w',e2,qn hw f1 f2⟩
  ·exact h2.at_ q' hq
 ·obtain ⟨w',e1,f1⟩:=h1.mono q' w h3 h4
  obtain ⟨w2,e2,f2⟩:=h2.mono q' w' h3 e1
  exact ⟨w2,e2,qn hw f1 f2⟩
def En (m:Mo) (f:Nat) (g:Fu) (p:Nat) (x:In) (S:List vf) (A:Ah) (S':List vf) (A':Ah):Prop:=
 (dq A p=none∧A'=A∧S'=S)∨∃st,dq A p=some st∧S'=S.set p (true,st)∧(told m f x).2.2=0∧nw m.t st (told m f x).1∧
  (x.o=28→after st (told m f x).1 (told m f x).2.1=[])∧wF m.t g.k.length p (targets x p) (after st (told m f x).1 (told m f x).2.1) S' (dC p A) A'
theorem LY (S:List vf) (p:Nat) (st:List bo):(S.map ew).modify p (fun row=>row.take 0++[.bool true,eL st]++row.drop (0+2))=(S.set p (true,st)).map ew:=by
 apply List.ext_getElem?
 intro i
 simp only [List.getElem?_modify,Ue,List.getElem?_set]
 by_cases h:p=i
 ·subst h
  cases hs:S[p]? with
  |none=>
   have:=List.getElem?_eq_none_iff.1 hs
   simp [hs]
   omega
  |some s=>
   have:=(List.getElem?_eq_some_iff.1 hs).1
   simp [hs,ew,this]
 ·simp [h]
theorem JU (S:List vf) (p:Nat) (st:List bo):((S.map ew).modify p fun row=>D.bool true::eL st::row.drop 2)=(S.map ew).set p (ew (true,st)):=by
 have h:=LY S p st
 rw [List.map_set] at h
 exact h
abbrev Ep (os:List D):Prop:=∃a b c d e f g h:D,os=[a,b,c,d,e,f,g,h]
set_option maxHeartbeats 2000000 in
theorem Pp {m:Mo} (hm:wE m) {f:Nat} {g:Fu} (hg:m.f[f]? =some g) (p:Nat) (x:In) (hx:g.k[p]? =some x) (S:List vf) (hS:S.length=g.k.length) (A:Ah) (hA:Pn m.t g.k.length p A):
 ∃j os,((j=1∧∃S' A',En m f g p x S A S' A'∧os=[eT m.t,aU m.s,eL m.p,eF m.f,.int .i64 (f:Int),eK g.k,eA A',cj S'])
  ∨((j=0∨j=2∨j=3)∧Ep os)∨(j=4∧∃e:Int,e≠0∧∃o8,Ep o8∧os= .int .i64 e::o8))∧
  Is Te [.int .i64 (p:Int),eK g.k,cj S,eA A,eT m.t,aU m.s,eL m.p,eF m.f,.int .i64 (f:Int)] j os:=by
 have hw:=hm.t
 obtain ⟨hf,hgf⟩:=List.getElem?_eq_some_iff.1 hg
 have ef:(f:Int)<m.f.length:=by omega
 have hp:=(List.getElem?_eq_some_iff.1 hx).1
 have ep:(p:Int)<g.k.length:=by omega
 have hkl:=(hm.f g (XD hg)).k
 have wp1:IntKind.i64.wrap ((p:Int)+1)=((p+1:Nat):Int):=bm hp (by omega)
 have hA0:Pn m.t g.k.length (p+1) (dC p A):=fun q w h1 h2=>by
  rw [uF p q (by omega)] at h2
  exact hA q w (by omega) h2
 have hq:=yt hm hg x
 refine Ge Rs rfl ?_
 unfold M1
 simp only [aM,aF,UU,VF,XL,ah,bc,aR,ae,ag,az,XV,aB,aC,aK,aO,aL,aG,au,aw,aD,aN,aI,aq,UM,Ue,VN,an,ar,eS,eT,eL,aU,eF,ak,aj,eA,rH,JS]
 cases hl:dq A p with
 |none=>
  simp only [VU,al]
  exact aH (.exit 1 [eT m.t,aU m.s,eL m.p,eF m.f,.int .i64 (f:Int),eK g.k,eA A,cj S]) (by simp [eT,aU,eL,eF,eK,eA]) ⟨_,_,rfl,.inl ⟨rfl,S,A,.inl ⟨hl,rfl,rfl⟩,rfl⟩⟩
 |some st=>
 obtain ⟨_,hst,hty⟩:=hA p st (by omega) hl
 simp only [XP,aE,eK,az,XV,aB,aC,aj,if_pos ep,if_pos (U9 _)]
 obtain ⟨j,os,hj,hC⟩:=Po hm hg (eK g.k) (cj (S.set p (true,st))) (eA (dC p A)) p x hx st hst
 generalize hr:told m f x=r at hq hj
 obtain ⟨pops,push,e⟩:=r
 obtain ⟨hpl,hpt,hjmp⟩:=hq
 simp only at hpl hpt hjmp hj
 refine aP rfl hC (by simp [-Ya,C1,hl,eT,aU,eF,eK,eA,cj,Nd];rw [←JU];exact ⟨rfl,rfl⟩) ?_
 rcases hj with ⟨rfl,he,hpo,haf,rfl⟩ |⟨rfl,he,hpo,hpu,rfl⟩ |⟨rfl,e',he',rfl⟩
 case inr.inr=>
  simp only [aS,ay,Uq,X3,true_and]
  simp only [aM,aF,UU,VF,XL,ah,bc,aR,ae,ag,az,XV,aB,aC,aK,aO,aL,aG,au,aw,aD,aN,aI,aq,UM,Ue,VN,an,ar,eS,eT,eL,aU,eF,ak,aj,if_neg he']
  exact aH (.exit 4 [.int .i64 e',eT m.t,aU m.s,eL m.p,eF m.f,.int .i64 (f:Int),eK g.k,eA (dC p A),cj (S.set p (true,st))]) (by simp [eT,aU,eL,eF,eK,eA,cj]) ⟨_,_,rfl,.inr (.inr ⟨rfl,e',he',_,⟨_,_,_,_,_,_,_,_,rfl⟩,rfl⟩)⟩
 ·have haft:=ra (pops:=pops) (push:=push) hty (hpt he)
  generalize hafd:after st pops push=af at haf haft
  simp only [aS,ay,Uq,X3,true_and]
  have afe:True:=trivial
  simp only [aM,aF,UU,VF,XL,ah,bc,aR,ae,ag,az,XV,aB,aC,aK,aO,aL,aG,au,aw,aD,aN,aI,aq,UM,Ue,VN,an,ar,eS,eT,eL,aU,eF,ak,aj,Fu.e,hg,hx,In.e,if_pos ef,if_pos ep,if_pos (U9 _),rG,Int.toNat_zero,Yb]
  have done: ∀A',(x.o=28→af=[])→wF m.t g.k.length p (targets x p) af (S.set p (true,st)) (dC p A) A'→En m f g p x S A (S.set p (true,st)) A':=fun A' h1 h2=>.inr ⟨st,hl,rfl,by rw [hr];exact he,by rw [hr];exact hpo,by rw [hr];simp only;rw [hafd];exact h1,by rw [hr];simp only;rw [hafd];exact h2⟩
  by_cases h28:x.o=28
  ·rw [if_pos h28]
   refine aT (fun _=>?_) (fun h0=>?_)
   ·exact aH (.exit 0 [eT m.t,aU m.s,eL m.p,eF m.f,.int .i64 (f:Int),eK g.k,eA (dC p A),cj (S.set p (true,st))]) (by simp [eT,aU,eL,eF,eK,eA,cj]) ⟨_,_,rfl,.inr (.inl ⟨by omega,_,_,_,_,_,_,_,_,rfl⟩)⟩
   ·refine aH (.exit 1 [eT m.t,aU m.s,eL m.p,eF m.f,.int .i64 (f:Int),eK g.k,eA (dC p A),cj (S.set p (true,st))]) (by simp [eT,aU,eL,eF,eK,eA,cj]) ⟨_,_,rfl,.inl ⟨rfl,_,_,done _ (fun _=>UC (by simp at h0;simp [h0])) ?_,rfl⟩⟩
    rw [show targets x p=[] by simp [targets,h28]];exact gv hw hA0
  rw [if_neg h28]
  by_cases h11:x.o=11
  ·rw [if_pos h11]
   obtain ⟨a,ha1⟩:=UL (hjmp he (.inl h11)).1
   obtain ⟨j1,os,hj,hC⟩:=lR hm hg p a af haf haft (S.set p (true,st)) (by simp [hS]) (dC p A) hA0
   refine aP rfl hC (by simp [eT,aU,eF,eK,eA,cj,Fu.e,In.e,hg,hx,wp1,ha1];try simp [eL,←X9,afe]) ?_
   rcases hj with ⟨rfl |rfl |rfl,rfl⟩ |⟨rfl,A1,hR1,rfl⟩
   ·simp only [aS,ay,Uq,X3,true_and]
    exact aH (.exit 2 [eT m.t,aU m.s,eL m.p,eF m.f,.int .i64 (f:Int),eK g.k,eA (dC p A),cj (S.set p (true,st))]) (by simp) ⟨_,_,rfl,.inr (.inl ⟨by omega,_,_,_,_,_,_,_,_,rfl⟩)⟩
   ·simp only [aS,ay,Uq,X3,true_and]
    exact aH (.exit 3 [eT m.t,aU m.s,eL m.p,eF m.f,.int .i64 (f:Int),eK g.k,eA (dC p A),cj (S.set p (true,st))]) (by simp) ⟨_,_,rfl,.inr (.inl ⟨by omega,_,_,_,_,_,_,_,_,rfl⟩)⟩
   ·simp only [aS,ay,Uq,X3,true_and]
    exact aH (.exit 0 [eT m.t,aU m.s,eL m.p,eF m.f,.int .i64 (f:Int),eK g.k,eA (dC p A),cj (S.set p (true,st))]) (by simp) ⟨_,_,rfl,.inr (.inl ⟨by omega,_,_,_,_,_,_,_,_,rfl⟩)⟩
   simp only [aS,ay,Uq,X3,true_and]
   refine aH (.exit 1 [eT m.t,aU m.s,eL m.p,eF m.f,.int .i64 (f:Int),eK g.k,eA A1,cj (S.set p (true,st))]) (by simp) ⟨_,_,rfl,.inl ⟨rfl,_,_,done _ (fun h=>absurd h h28) ?_,rfl⟩⟩
   rw [show targets x p=[a] by simp [targets,h11,ha1]];exact ff hw hR1 (gv hw hR1.ok)
  rw [if_neg h11]
  by_cases h12:x.o=12
  ·rw [if_pos h12]
   obtain ⟨a,ha2⟩:=UL (hjmp he (.inr h12)).1
   have ha1:=wp1
   obtain ⟨j1,os,hj,hC⟩:=lR hm hg p (p+1) af haf haft (S.set p (true,st)) (by simp [hS]) (dC p A) hA0
   refine aP rfl hC (by simp [eT,aU,eF,eK,eA,cj,Fu.e,In.e,hg,hx,wp1,ha1];try simp [eL,←X9,afe]) ?_
   rcases hj with ⟨rfl |rfl |rfl,rfl⟩ |⟨rfl,A1,hR1,rfl⟩
   ·simp only [aS,ay,Uq,X3,true_and]
    exact aH (.exit 2 [eT m.t,aU m.s,eL m.p,eF m.f,.int .i64 (f:Int),eK g.k,eA (dC p A),cj (S.set p (true,st))]) (by simp) ⟨_,_,rfl,.inr (.inl ⟨by omega,_,_,_,_,_,_,_,_,rfl⟩)⟩
   ·simp only [aS,ay,Uq,X3,true_and]
    exact aH (.exit 3 [eT m.t,aU m.s,eL m.p,eF m.f,.int .i64 (f:Int),eK g.k,eA (dC p A),cj (S.set p (true,st))]) (by simp) ⟨_,_,rfl,.inr (.inl ⟨by omega,_,_,_,_,_,_,_,_,rfl⟩)⟩
   ·simp only [aS,ay,Uq,X3,true_and]
    exact aH (.exit 0 [eT m.t,aU m.s,eL m.p,eF m.f,.int .i64 (f:Int),eK g.k,eA (dC p A),cj (S.set p (true,st))]) (by simp) ⟨_,_,rfl,.inr (.inl ⟨by omega,_,_,_,_,_,_,_,_,rfl⟩)⟩
   simp only [aS,ay,Uq,X3,true_and]
   obtain ⟨j2,os,hj,hC⟩:=lR hm hg p a af haf haft (S.set p (true,st)) (by simp [hS]) A1 hR1.ok
   refine aP rfl hC (by simp [eT,aU,eF,eK,eA,cj,Fu.e,In.e,hg,hx,wp1,ha2];try simp [eL,←X9,afe]) ?_
   rcases hj with ⟨rfl |rfl |rfl,rfl⟩ |⟨rfl,A2,hR2,rfl⟩
   ·simp only [aS,ay,Uq,X3,true_and]
    exact aH (.exit 2 [eT m.t,aU m.s,eL m.p,eF m.f,.int .i64 (f:Int),eK g.k,eA A1,cj (S.set p (true,st))]) (by simp) ⟨_,_,rfl,.inr (.inl ⟨by omega,_,_,_,_,_,_,_,_,rfl⟩)⟩
   ·simp only [aS,ay,Uq,X3,true_and]
    exact aH (.exit 3 [eT m.t,aU m.s,eL m.p,eF m.f,.int .i64 (f:Int),eK g.k,eA A1,cj (S.set p (true,st))]) (by simp) ⟨_,_,rfl,.inr (.inl ⟨by omega,_,_,_,_,_,_,_,_,rfl⟩)⟩
   ·simp only [aS,ay,Uq,X3,true_and]
    exact aH (.exit 0 [eT m.t,aU m.s,eL m.p,eF m.f,.int .i64 (f:Int),eK g.k,eA A1,cj (S.set p (true,st))]) (by simp) ⟨_,_,rfl,.inr (.inl ⟨by omega,_,_,_,_,_,_,_,_,rfl⟩)⟩
   simp only [aS,ay,Uq,X3,true_and]
   refine aH (.exit 1 [eT m.t,aU m.s,eL m.p,eF m.f,.int .i64 (f:Int),eK g.k,eA A2,cj (S.set p (true,st))]) (by simp) ⟨_,_,rfl,.inl ⟨rfl,_,_,done _ (fun h=>absurd h h28) ?_,rfl⟩⟩
   rw [show targets x p=[p+1,a] by simp [targets,h12,ha2]];exact ff hw hR1 (ff hw hR2 (gv hw hR2.ok))
  rw [if_neg h12]
  have ha1:=wp1
  obtain ⟨j1,os,hj,hC⟩:=lR hm hg p (p+1) af haf haft (S.set p (true,st)) (by simp [hS]) (dC p A) hA0
  refine aP rfl hC (by simp [eT,aU,eF,eK,eA,cj,Fu.e,In.e,hg,hx,wp1,ha1];try simp [eL,←X9,afe]) ?_
  rcases hj with ⟨rfl |rfl |rfl,rfl⟩ |⟨rfl,A1,hR1,rfl⟩
  ·simp only [aS,ay,Uq,X3,true_and]
   exact aH (.exit 2 [eT m.t,aU m.s,eL m.p,eF m.f,.int .i64 (f:Int),eK g.k,eA (dC p A),cj (S.set p (true,st))]) (by simp) ⟨_,_,rfl,.inr (.inl ⟨by omega,_,_,_,_,_,_,_,_,rfl⟩)⟩
  ·simp only [aS,ay,Uq,X3,true_and]
   exact aH (.exit 3 [eT m.t,aU m.s,eL m.p,eF m.f,.int .i64 (f:Int),eK g.k,eA (dC p A),cj (S.set p (true,st))]) (by simp) ⟨_,_,rfl,.inr (.inl ⟨by omega,_,_,_,_,_,_,_,_,rfl⟩)⟩
  ·simp only [aS,ay,Uq,X3,true_and]
   exact aH (.exit 0 [eT m.t,aU m.s,eL m.p,eF m.f,.int .i64 (f:Int),eK g.k,eA (dC p A),cj (S.set p (true,st))]) (by simp) ⟨_,_,rfl,.inr (.inl ⟨by omega,_,_,_,_,_,_,_,_,rfl⟩)⟩
  simp only [aS,ay,Uq,X3,true_and]
  refine aH (.exit 1 [eT m.t,aU m.s,eL m.p,eF m.f,.int .i64 (f:Int),eK g.k,eA A1,cj (S.set p (true,st))]) (by simp) ⟨_,_,rfl,.inl ⟨rfl,_,_,done _ (fun h=>absurd h h28) ?_,rfl⟩⟩
  rw [show targets x p=[p+1] by simp [targets,h28,h11,h12]];exact ff hw hR1 (gv hw hR1.ok)
 ·have haft:=ra (pops:=pops) (push:=push) hty (hpt he)
  have afe:st.take (st.length - pops.length)=after st pops push:=by unfold after;rw [if_pos hpu];simp
  have haf:(after st pops push).length≤1000:=by rw [←afe];simp;omega
  have el:((st.length - pops.length:Nat):Int)≤st.length:=by omega
  generalize hafd:after st pops push=af at haf haft afe
  simp only [aS,ay,Uq,X3,true_and]
  simp only [aM,aF,UU,VF,XL,ah,bc,aR,ae,ag,az,XV,aB,aC,aK,aO,aL,aG,au,aw,aD,aN,aI,aq,UM,Ue,VN,an,ar,eS,eT,eL,aU,eF,ak,aj,Fu.e,hg,hx,In.e,if_pos ef,if_pos ep,if_pos (U9 _),rG,Int.toNat_zero,Yb,if_pos el]
  have done: ∀A',(x.o=28→af=[])→wF m.t g.k.length p (targets x p) af (S.set p (true,st)) (dC p A) A'→En m f g p x S A (S.set p (true,st)) A':=fun A' h1 h2=>.inr ⟨st,hl,rfl,by rw [hr];exact he,by rw [hr];exact hpo,by rw [hr];simp only;rw [hafd];exact h1,by rw [hr];simp only;rw [hafd];exact h2⟩
  by_cases h28:x.o=28
  ·rw [if_pos h28]
   refine aT (fun _=>?_) (fun h0=>?_)
   ·exact aH (.exit 0 [eT m.t,aU m.s,eL m.p,eF m.f,.int .i64 (f:Int),eK g.k,eA (dC p A),cj (S.set p (true,st))]) (by simp [eT,aU,eL,eF,eK,eA,cj]) ⟨_,_,rfl,.inr (.inl ⟨by omega,_,_,_,_,_,_,_,_,rfl⟩)⟩
   ·refine aH (.exit 1 [eT m.t,aU m.s,eL m.p,eF m.f,.int .i64 (f:Int),eK g.k,eA (dC p A),cj (S.set p (true,st))]) (by simp [eT,aU,eL,eF,eK,eA,cj]) ⟨_,_,rfl,.inl ⟨rfl,_,_,done _ (fun _=>UC (by rw [←afe];simp;omega)) ?_,rfl⟩⟩
    rw [show targets x p=[] by simp [targets,h28]];exact gv hw hA0
  rw [if_neg h28]
  by_cases h11:x.o=11
  ·rw [if_pos h11]
   obtain ⟨a,ha1⟩:=UL (hjmp he (.inl h11)).1
   obtain ⟨j1,os,hj,hC⟩:=lR hm hg p a af haf haft (S.set p (true,st)) (by simp [hS]) (dC p A) hA0
   refine aP rfl hC (by simp [eT,aU,eF,eK,eA,cj,Fu.e,In.e,hg,hx,wp1,ha1];try simp [eL,←X9,afe]) ?_
   rcases hj with ⟨rfl |rfl |rfl,rfl⟩ |⟨rfl,A1,hR1,rfl⟩
   ·simp only [aS,ay,Uq,X3,true_and]
    exact aH (.exit 2 [eT m.t,aU m.s,eL m.p,eF m.f,.int .i64 (f:Int),eK g.k,eA (dC p A),cj (S.set p (true,st))]) (by simp) ⟨_,_,rfl,.inr (.inl ⟨by omega,_,_,_,_,_,_,_,_,rfl⟩)⟩
   ·simp only [aS,ay,Uq,X3,true_and]
    exact aH (.exit 3 [eT m.t,aU m.s,eL m.p,eF m.f,.int .i64 (f:Int),eK g.k,eA (dC p A),cj (S.set p (true,st))]) (by simp) ⟨_,_,rfl,.inr (.inl ⟨by omega,_,_,_,_,_,_,_,_,rfl⟩)⟩
   ·simp only [aS,ay,Uq,X3,true_and]
    exact aH (.exit 0 [eT m.t,aU m.s,eL m.p,eF m.f,.int .i64 (f:Int),eK g.k,eA (dC p A),cj (S.set p (true,st))]) (by simp) ⟨_,_,rfl,.inr (.inl ⟨by omega,_,_,_,_,_,_,_,_,rfl⟩)⟩
   simp only [aS,ay,Uq,X3,true_and]
   refine aH (.exit 1 [eT m.t,aU m.s,eL m.p,eF m.f,.int .i64 (f:Int),eK g.k,eA A1,cj (S.set p (true,st))]) (by simp) ⟨_,_,rfl,.inl ⟨rfl,_,_,done _ (fun h=>absurd h h28) ?_,rfl⟩⟩
   rw [show targets x p=[a] by simp [targets,h11,ha1]];exact ff hw hR1 (gv hw hR1.ok)
  rw [if_neg h11]
  by_cases h12:x.o=12
  ·rw [if_pos h12]
   obtain ⟨a,ha2⟩:=UL (hjmp he (.inr h12)).1
   have ha1:=wp1
   obtain ⟨j1,os,hj,hC⟩:=lR hm hg p (p+1) af haf haft (S.set p (true,st)) (by simp [hS]) (dC p A) hA0
   refine aP rfl hC (by simp [eT,aU,eF,eK,eA,cj,Fu.e,In.e,hg,hx,wp1,ha1];try simp [eL,←X9,afe]) ?_
   rcases hj with ⟨rfl |rfl |rfl,rfl⟩ |⟨rfl,A1,hR1,rfl⟩
   ·simp only [aS,ay,Uq,X3,true_and]
    exact aH (.exit 2 [eT m.t,aU m.s,eL m.p,eF m.f,.int .i64 (f:Int),eK g.k,eA (dC p A),cj (S.set p (true,st))]) (by simp) ⟨_,_,rfl,.inr (.inl ⟨by omega,_,_,_,_,_,_,_,_,rfl⟩)⟩
   ·simp only [aS,ay,Uq,X3,true_and]
    exact aH (.exit 3 [eT m.t,aU m.s,eL m.p,eF m.f,.int .i64 (f:Int),eK g.k,eA (dC p A),cj (S.set p (true,st))]) (by simp) ⟨_,_,rfl,.inr (.inl ⟨by omega,_,_,_,_,_,_,_,_,rfl⟩)⟩
   ·simp only [aS,ay,Uq,X3,true_and]
    exact aH (.exit 0 [eT m.t,aU m.s,eL m.p,eF m.f,.int .i64 (f:Int),eK g.k,eA (dC p A),cj (S.set p (true,st))]) (by simp) ⟨_,_,rfl,.inr (.inl ⟨by omega,_,_,_,_,_,_,_,_,rfl⟩)⟩
   simp only [aS,ay,Uq,X3,true_and]
   obtain ⟨j2,os,hj,hC⟩:=lR hm hg p a af haf haft (S.set p (true,st)) (by simp [hS]) A1 hR1.ok
   refine aP rfl hC (by simp [eT,aU,eF,eK,eA,cj,Fu.e,In.e,hg,hx,wp1,ha2];try simp [eL,←X9,afe]) ?_
   rcases hj with ⟨rfl |rfl |rfl,rfl⟩ |⟨rfl,A2,hR2,rfl⟩
   ·simp only [aS,ay,Uq,X3,true_and]
    exact aH (.exit 2 [eT m.t,aU m.s,eL m.p,eF m.f,.int .i64 (f:Int),eK g.k,eA A1,cj (S.set p (true,st))]) (by simp) ⟨_,_,rfl,.inr (.inl ⟨by omega,_,_,_,_,_,_,_,_,rfl⟩)⟩
   ·simp only [aS,ay,Uq,X3,true_and]
    exact aH (.exit 3 [eT m.t,aU m.s,eL m.p,eF m.f,.int .i64 (f:Int),eK g.k,eA A1,cj (S.set p (true,st))]) (by simp) ⟨_,_,rfl,.inr (.inl ⟨by omega,_,_,_,_,_,_,_,_,rfl⟩)⟩
   ·simp only [aS,ay,Uq,X3,true_and]
    exact aH (.exit 0 [eT m.t,aU m.s,eL m.p,eF m.f,.int .i64 (f:Int),eK g.k,eA A1,cj (S.set p (true,st))]) (by simp) ⟨_,_,rfl,.inr (.inl ⟨by omega,_,_,_,_,_,_,_,_,rfl⟩)⟩
   simp only [aS,ay,Uq,X3,true_and]
   refine aH (.exit 1 [eT m.t,aU m.s,eL m.p,eF m.f,.int .i64 (f:Int),eK g.k,eA A2,cj (S.set p (true,st))]) (by simp) ⟨_,_,rfl,.inl ⟨rfl,_,_,done _ (fun h=>absurd h h28) ?_,rfl⟩⟩
   rw [show targets x p=[p+1,a] by simp [targets,h12,ha2]];exact ff hw hR1 (ff hw hR2 (gv hw hR2.ok))
  rw [if_neg h12]
  have ha1:=wp1
  obtain ⟨j1,os,hj,hC⟩:=lR hm hg p (p+1) af haf haft (S.set p (true,st)) (by simp [hS]) (dC p A) hA0
  refine aP rfl hC (by simp [eT,aU,eF,eK,eA,cj,Fu.e,In.e,hg,hx,wp1,ha1];try simp [eL,←X9,afe]) ?_
  rcases hj with ⟨rfl |rfl |rfl,rfl⟩ |⟨rfl,A1,hR1,rfl⟩
  ·simp only [aS,ay,Uq,X3,true_and]
   exact aH (.exit 2 [eT m.t,aU m.s,eL m.p,eF m.f,.int .i64 (f:Int),eK g.k,eA (dC p A),cj (S.set p (true,st))]) (by simp) ⟨_,_,rfl,.inr (.inl ⟨by omega,_,_,_,_,_,_,_,_,rfl⟩)⟩
  ·simp only [aS,ay,Uq,X3,true_and]
   exact aH (.exit 3 [eT m.t,aU m.s,eL m.p,eF m.f,.int .i64 (f:Int),eK g.k,eA (dC p A),cj (S.set p (true,st))]) (by simp) ⟨_,_,rfl,.inr (.inl ⟨by omega,_,_,_,_,_,_,_,_,rfl⟩)⟩
  ·simp only [aS,ay,Uq,X3,true_and]
   exact aH (.exit 0 [eT m.t,aU m.s,eL m.p,eF m.f,.int .i64 (f:Int),eK g.k,eA (dC p A),cj (S.set p (true,st))]) (by simp) ⟨_,_,rfl,.inr (.inl ⟨by omega,_,_,_,_,_,_,_,_,rfl⟩)⟩
  simp only [aS,ay,Uq,X3,true_and]
  refine aH (.exit 1 [eT m.t,aU m.s,eL m.p,eF m.f,.int .i64 (f:Int),eK g.k,eA A1,cj (S.set p (true,st))]) (by simp) ⟨_,_,rfl,.inl ⟨rfl,_,_,done _ (fun h=>absurd h h28) ?_,rfl⟩⟩
  rw [show targets x p=[p+1] by simp [targets,h28,h11,h12]];exact ff hw hR1 (gv hw hR1.ok)
structure Step (m:Mo) (f:Nat) (i:Nat) (x:In) (st:List bo):Prop where
 e:(told m f x).2.2=0
 p:nw m.t st (told m f x).1
 d:x.o=28→after st (told m f x).1 (told m f x).2.1=[]
 l:st.length≤1000
structure RT (m:Mo) (f:Nat) (g:Fu) (S:List vf):Prop where
 len:S.length=g.k.length
 z:S[0]? =some (true,[])
 c: ∀i x st,g.k[i]? =some x→S[i]? =some (true,st)→Step m f i x st∧∀q∈targets x i,q<g.k.length∧∃w,S[q]? =some (true,w)∧gT m.t (after st (told m f x).1 (told m f x).2.1) w
structure JV (m:Mo) (f:Nat) (g:Fu) (k:Nat) (S:List vf) (A:Ah):Prop where
 len:S.length=g.k.length
 ok:Pn m.t g.k.length k A
 new: ∀i,k≤i→i<g.k.length→S[i]? =some (false,[])
 z0:k=0→dq A 0=some []
 z1:0<k→S[0]? =some (true,[])
 c: ∀i x st,i<k→g.k[i]? =some x→S[i]? =some (true,st)→Step m f i x st∧∀q∈targets x i,q<g.k.length∧(q<k→∃w,S[q]? =some (true,w)∧gT m.t (after st (told m f x).1 (told m f x).2.1) w)∧(k≤q→∃w,dq A q=some w∧gT m.t (after st (told m f x).1 (told m f x).2.1) w)
theorem F6 {m:Mo} (hw:gR m.t=0) {f:Nat} {g:Fu} {k:Nat} {S S':List vf} {A A':Ah} {x:In} (hx:g.k[k]? =some x) (hI:JV m f g k S A) (hT:En m f g k x S A S' A'):JV m f g (k+1) S' A':=by
 have hk:=(List.getElem?_eq_some_iff.1 hx).1
 rcases hT with ⟨hl,rfl,rfl⟩ |⟨st,hl,rfl,he,hp,hd,hM⟩
 ·refine ⟨hI.len,fun q w h1 h2=>hI.ok q w (by omega) h2,fun i h1 h2=>hI.new i (by omega) h2,fun h=>by omega,fun _=>?_,fun i y s hi hy hs=>?_⟩
  ·rcases VI k with rfl |h0
   ·rw [hI.z0 rfl] at hl;cases hl
   ·exact hI.z1 h0
  ·by_cases hik:i=k
   ·subst hik
    rw [hI.new i (by omega) hk] at hs
    cases hs
   ·obtain ⟨h1,h2⟩:=hI.c i y s (by omega) hy hs
    refine ⟨h1,fun q hq=>?_⟩
    obtain ⟨q1,q2,q3⟩:=h2 q hq
    refine ⟨q1,fun h=>?_,fun h=>q3 (by omega)⟩
    by_cases hqk:q=k
    ·subst hqk
     obtain ⟨w,e1,_⟩:=q3 (by omega)
     rw [hl] at e1;cases e1
    ·exact q2 (by omega)
 ·have hkS:k<S.length:=by rw [hI.len];exact hk
  refine ⟨by rw [List.length_set];exact hI.len,hM.ok,fun i h1 h2=>?_,fun h=>by omega,fun _=>?_,fun i y s hi hy hs=>?_⟩
  ·rw [Yc (by omega)];exact hI.new i (by omega) h2
  ·rcases VI k with rfl |h0
   ·rw [hI.z0 rfl] at hl
    rw [Yd hkS,←TZ hl]
   ·rw [Yc (by omega)];exact hI.z1 h0
  ·by_cases hik:i=k
   ·subst hik
    rw [hx] at hy
    obtain rfl:=TZ hy
    rw [Yd hkS] at hs
    obtain rfl:st=s:=congrArg Prod.snd (TZ hs)
    refine ⟨⟨he,hp,hd,(hI.ok i st (by omega) hl).2.1⟩,fun q hq=>?_⟩
    obtain ⟨q1,q2,q3⟩:=hM.at_ q hq
    exact ⟨q1,fun h=>q2 (by omega),fun h=>q3 (by omega)⟩
   ·rw [Yc (by omega)] at hs
    obtain ⟨h1,h2⟩:=hI.c i y s (by omega) hy hs
    refine ⟨h1,fun q hq=>?_⟩
    obtain ⟨q1,q2,q3⟩:=h2 q hq
    refine ⟨q1,fun h=>?_,fun h=>?_⟩
    ·by_cases hqk:q=k
     ·subst hqk
      obtain ⟨w,e1,f1⟩:=q3 (by omega)
      rw [hl] at e1
      obtain rfl:=TZ e1
      exact ⟨st,Yd hkS,f1⟩
     ·rw [Yc (by omega)];exact q2 (by omega)
    ·obtain ⟨w,e1,f1⟩:=q3 (by omega)
     obtain ⟨w',e2,f2⟩:=hM.mono q w (by omega) (by rw [uF k q (by omega)];exact e1)
     exact ⟨w',e2,qn hw f1 f2⟩
theorem JW {m:Mo} {f:Nat} {g:Fu} (h0:g.k≠[]) {S:List vf} {A:Ah} (hI:JV m f g g.k.length S A):RT m f g S:=by
 have hn:0<g.k.length:=List.length_pos_iff.2 h0
 refine ⟨hI.len,hI.z1 hn,fun i x st hx hs=>?_⟩
 obtain ⟨h1,h2⟩:=hI.c i x st (List.getElem?_eq_some_iff.1 hx).1 hx hs
 exact ⟨h1,fun q hq=>⟨(h2 q hq).1,(h2 q hq).2.1 (h2 q hq).1⟩⟩
theorem C3 {m:Mo} {f:Nat} {g:Fu} (h0:g.k≠[]):JV m f g 0 (UQ g.k.length (false,[])) [(0,[])]:=by
 have hn:0<g.k.length:=List.length_pos_iff.2 h0
 have hl: ∀q w,dq [(0,[])] q=some w→q=0∧w=[]:=fun q w h=>by
  unfold dq at h
  by_cases hq:q=0
  ·subst hq;simp at h;exact ⟨rfl,h⟩
  ·have hq': ¬0=q:=fun e=>hq e.symm
   simp [hq'] at h
 refine ⟨by simp,fun q w _ h2=>?_,fun i _ h2=>by rw [List.getElem?_replicate,if_pos h2],fun _=>rfl,fun h=>absurd h (by omega),fun i x st h=>absurd h (by omega)⟩
 obtain ⟨rfl,rfl⟩:=hl q w h2
 exact ⟨hn,by simp,fun s hs=>absurd hs (by simp)⟩
def Nf (m:Mo) (f:Nat) (g:Fu) (j:Nat) (os:List D):Prop:=
 (j=4∧∃S A,RT m f g S∧os=[A,eK g.k,cj S,eT m.t,aU m.s,eL m.p,eF m.f,.int .i64 (f:Int)])
 ∨(j≤2∧∃o8,Ep o8∧∃n:Int,os=o8++[.int .i64 n])∨(j=3∧∃o8,Ep o8∧∃e n:Int,e≠0∧os=o8++[.int .i64 e,.int .i64 n])
theorem JX {m:Mo} (hm:wE m) {f:Nat} {g:Fu} (hg:m.f[f]? =some g):
 ∃j os,Nf m f g j os∧Is CV [eK g.k,.int .i64 0,eK g.k,cj (UQ g.k.length (false,[])),eA [(0,[])],eT m.t,aU m.s,eL m.p,eF m.f,.int .i64 (f:Int)] j os:=by
 have hF:=hm.f g (XD hg)
 have hkl:=hF.k
 exact cX (aY:=g.k) (enc:=fun k (b:List vf×Ah)=>[eK g.k,.int .i64 k,eK g.k,cj b.1,eA b.2,eT m.t,aU m.s,eL m.p,eF m.f,.int .i64 (f:Int)]) (I:=fun k b=>JV m f g k b.1 b.2) (Q:=Nf m f g) Jn (fun _ _=>rfl)
  (fun k b x hk hI hx=>by
   have w:=bm hk (by omega)
   have e1:(k:Int)<g.k.length:=by omega
   have hx':g.k[k]? =some x:=by rw [UB hk,hx]
   unfold ug
   simp only [ah,bc,aR,ae,ag,eK,az,XV,aB,aj,if_pos e1]
   obtain ⟨j,os,hj,hC⟩:=Pp hm hg k x hx' b.1 hI.len b.2 hI.ok
   refine aP rfl hC (by simp [eK]) ?_
   rcases hj with ⟨rfl,S',A',hT,rfl⟩ |⟨rfl |rfl |rfl,a1,a2,a3,a4,a5,a6,a7,a8,rfl⟩ |⟨rfl,e,he,_,⟨a1,a2,a3,a4,a5,a6,a7,a8,rfl⟩,rfl⟩
   ·simp only [aS,ay,Uq,X3,true_and]
    exact aH (.next [eK g.k,.int .i64 ((k+1:Nat):Int),eK g.k,cj S',eA A',eT m.t,aU m.s,eL m.p,eF m.f,.int .i64 (f:Int)]) (by simp [eK,w]) (.inr ⟨(S',A'),rfl,F6 hm.t hx' hI hT⟩)
   ·simp only [aS,ay,Uq,X3,true_and]
    exact aH (.exit 0 [a1,a2,a3,a4,a5,a6,a7,a8,.int .i64 k]) (by simp) (.inl ⟨_,_,rfl,.inr (.inl ⟨by omega,_,⟨_,_,_,_,_,_,_,_,rfl⟩,k,rfl⟩)⟩)
   ·simp only [aS,ay,Uq,X3,true_and]
    exact aH (.exit 1 [a1,a2,a3,a4,a5,a6,a7,a8,.int .i64 k]) (by simp) (.inl ⟨_,_,rfl,.inr (.inl ⟨by omega,_,⟨_,_,_,_,_,_,_,_,rfl⟩,k,rfl⟩)⟩)
   ·simp only [aS,ay,Uq,X3,true_and]
    exact aH (.exit 2 [a1,a2,a3,a4,a5,a6,a7,a8,.int .i64 k]) (by simp) (.inl ⟨_,_,rfl,.inr (.inl ⟨by omega,_,⟨_,_,_,_,_,_,_,_,rfl⟩,k,rfl⟩)⟩)
   ·simp only [aS,ay,Uq,X3,true_and]
    simp only [aM,aF,UU,VF,XL,ah,bc,aR,ae,ag,az,XV,aB,aC,aK,aO,aL,aG,au,aw,aD,aN,aI,aq,UM,Ue,VN,an,ar,eS,eT,eL,aU,eF,ak,aj,if_neg he]
    exact aH (.exit 3 [a1,a2,a3,a4,a5,a6,a7,a8,.int .i64 e,.int .i64 k]) (by simp) (.inl ⟨_,_,rfl,.inr (.inr ⟨rfl,_,⟨_,_,_,_,_,_,_,_,rfl⟩,e,k,he,rfl⟩)⟩))
  (fun b hI=>aH (.exit 4 [eA b.2,eK g.k,cj b.1,eT m.t,aU m.s,eL m.p,eF m.f,.int .i64 (f:Int)]) (by simp [ug,eK]) ⟨_,_,rfl,.inl ⟨rfl,_,_,JW hF.k0 hI,rfl⟩⟩) (UQ g.k.length (false,[]),[(0,[])]) (C3 hF.k0)
def Es (m:Mo) (f:Nat) (g:Fu) (r:DV):Prop:=
 (∃S,RT m f g S∧r= .gf [.c (cj S),.agg [.int .i64 0,.int .i64 0]])∨∃w a:Int,w≠0∧r= .gf [.c (cj []),.agg [.int .i64 w,.int .i64 a]]
theorem Pq {m:Mo} (hm:wE m) {f:Nat} {g:Fu} (hg:m.f[f]? =some g): ∃r,Es m f g r∧Ok 30 [.agg m.e,.c (.int .i64 (f:Int))] r:=by
 obtain ⟨hf,hgf⟩:=List.getElem?_eq_some_iff.1 hg
 have hF:=hm.f g (XD hg)
 have hkl:=hF.k
 have ef:(f:Int)<m.f.length:=by omega
 have ek:(g.k.length:Int)≤100000000:=by omega
 refine kQ (l:=[eT m.t,aU m.s,eL m.p,eF m.f,.int .i64 (f:Int)]) Rt (by simp [Mo.e,eT,aU,eL,eF]) (by simp) ?_
 unfold M3
 simp only [aM,aF,UU,VF,XL,ah,bc,aR,ae,ag,az,XV,aB,aC,aK,aO,aL,aG,au,aw,aD,aN,aI,aq,UM,Ue,VN,an,ar,eS,eT,eL,aU,eF,ak,aj,Fu.e,hg,if_pos ef,if_pos ek,if_pos (U9 _)]
 obtain ⟨j,os,hj,hL⟩:=JX hm hg
 refine aP rfl hL (by simp [eT,aU,eL,eF,eK,cj,eA,Kc,Fu.e,hg,ew,ik]) ?_
 rcases hj with ⟨rfl,S,A,hC,rfl⟩ |⟨hj,_,⟨a1,a2,a3,a4,a5,a6,a7,a8,rfl⟩,n,rfl⟩ |⟨rfl,_,⟨a1,a2,a3,a4,a5,a6,a7,a8,rfl⟩,e,n,he,rfl⟩
 ·simp only [aS,ay,Uq,X3,true_and]
  exact aH (.ret (.gf [.c (cj S),.agg [.int .i64 0,.int .i64 0]])) (by simp) ⟨_,rfl,.inl ⟨S,hC,rfl⟩⟩
 ·match j,hj with
  |0,_=>simp only [ay,Uq,X3,true_and,UU,VF];exact aH (.ret (.gf [.c (cj []),.agg [.int .i64 15,.int .i64 n]])) (by simp [cj]) ⟨_,rfl,.inr ⟨15,n,by omega,rfl⟩⟩
  |1,_=>simp only [aS,ay,Uq,X3,true_and,UU,VF];exact aH (.ret (.gf [.c (cj []),.agg [.int .i64 16,.int .i64 n]])) (by simp [cj]) ⟨_,rfl,.inr ⟨16,n,by omega,rfl⟩⟩
  |2,_=>simp only [aS,ay,Uq,X3,true_and,UU,VF];exact aH (.ret (.gf [.c (cj []),.agg [.int .i64 7,.int .i64 n]])) (by simp [cj]) ⟨_,rfl,.inr ⟨7,n,by omega,rfl⟩⟩
 ·simp only [aS,ay,Uq,X3,true_and,UU,VF]
  exact aH (.ret (.gf [.c (cj []),.agg [.int .i64 e,.int .i64 n]])) (by simp [cj]) ⟨_,rfl,.inr ⟨e,n,he,rfl⟩⟩
noncomputable def Kd (m:Mo) (f:Nat):DV:=
 open Classical in if h: ∃r,(∀g,m.f[f]? =some g→Es m f g r)∧Ok 30 [.agg m.e,.c (.int .i64 (f:Int))] r then h.choose else .gf []
theorem C4 {m:Mo} (hm:wE m) {f:Nat} {g:Fu} (hg:m.f[f]? =some g):Es m f g (Kd m f)∧Ok 30 [.agg m.e,.c (.int .i64 (f:Int))] (Kd m f):=by
 have hex: ∃r,(∀g,m.f[f]? =some g→Es m f g r)∧Ok 30 [.agg m.e,.c (.int .i64 (f:Int))] r:=by
  obtain ⟨r,h1,h2⟩:=Pq hm hg
  refine ⟨r,fun g' hg'=>?_,h2⟩
  rw [hg] at hg'
  rw [←TZ hg'];exact h1
 unfold Kd
 rw [dif_pos hex]
 exact ⟨hex.choose_spec.1 g hg,hex.choose_spec.2⟩
end
end Go.Proofs.Sai
