/- Part LC of the proof of VerifyDead: texts of the interpreter and what it shows, under short names. No condition. -/
import Derived.Test.YtgfhbomiljhjpaaGreatDoorLB
set_option linter.unusedVariables false
set_option linter.unusedSimpArgs false
set_option linter.unusedSectionVars false
open Bool renaming not_false→ZN,not_true→Zy
open Go.IntWalk renaming i64_in→WJ
open Int renaming toNat_natCast→Wt,eq_ofNat_of_zero_le→Ws,natCast_nonneg→WN
open List renaming cons_append→WB,nil_append→Xl,append_nil→XZ,length_map→ZD,getElem?_map→VV,getElem?_eq_getElem→Wj,mem_of_getElem?→Zm,length_cons→V8,length_nil→ZL,map_cons→VT,find?_cons→ZS,map_take→ZT,find?_map→ZU,drop_zero→ZW,eq_nil_of_length_eq_zero→Wk,replicate→Wx
open Option renaming map_some→Xt,isSome_none→XA,isSome_some→Zx,map_none→ZV
open Option.some renaming inj→VF
namespace Go.Proofs.Sai
section
open Go
def xZ (m:Mo) (g:Fu) (o a:Int) (pops:List bn) (push:bn) (e:Int):Prop:=pops.length≤900∧(e=0→push=[]∨typed m.t push=true)∧(e=0→o=11∨o=12→0≤a∧a<g.k.length)
abbrev nE (pops:List bn) (push:bn) (e:Int):DV:=.jO [.agg [eL pops,.str push],.c (.int .i64 e)]
abbrev To (m:Mo) (g:Fu) (o a:Int) (out:k9):Prop:=∃r,out= .ret r∧∃pops push e,xZ m g o a pops push e∧r=nE pops push e
section
variable {u:Bool} {fids:List lP} {l:List D} {m:Mo} {g:Fu} {o a:Int}
theorem gT (e:Int) (he:e≠0):WX u fids (.ret (.tuple [.agg [.tm (.aF []) (.op .nil []),.str []],.int .i64 e])) l (To m g o a):=
 aq (.ret (nE [] [] e)) (by simp [eL]) ⟨_,rfl,_,_,_,⟨by simp,fun h=>absurd h he,fun h=>absurd h he⟩,rfl⟩
theorem wJ {p:PT} (pops:List bn) (push:bn) (h1:pops.length≤900) (h2:push=[]∨typed m.t push=true) (h3:o=11∨o=12→0≤a∧a<g.k.length) (h:WX u fids p l (fun o=>o= .ret (nE pops push 0))):WX u fids p l (To m g o a):=
 aq _ h ⟨_,rfl,_,_,_,⟨h1,fun _=>h2,fun _=>h3⟩,rfl⟩
theorem ga {n:Nat} {args:List AV} {k:lP} {ds:List DV} {r:DV} {x0 x1 x2 x3 x4 x5 x6 x7 x8 x9 x10 x11:D} (h1:(Q6 u fids)[n]? =some (KX u k)) (hr:jG m.t r) (hF:KU k ds r) (hj: ¬(o=11∨o=12)) (h2: @bI (bf [x0,x1,x2,x3,x4,x5,x6,x7,x8,x9,x10,x11] bs) args=some ds):
 WX u fids (.call n args (.tuple [.agg [.tm tL (.var 12),.tm .str (.var 13)],.tm (.int .i64) (.var 14)]) 3 (.ret (.tuple [.agg [.tm tL (.var 12),.tm .str (.var 13)],.tm (.int .i64) (.var 14)]))) [x0,x1,x2,x3,x4,x5,x6,x7,x8,x9,x10,x11] (To m g o a):=by
 obtain ⟨pops,push,e,rfl,q1,q2⟩:=NC hr
 refine ai h1 hF.x h2 (by simp) (by simp) (by simp) ?_
 exact aq (.ret (nE pops push e)) (by simp) ⟨_,rfl,_,_,_,⟨q1,q2,fun _ h=>absurd h hj⟩,rfl⟩
theorem tw {n j:Nat} {args:List AV} {nx:PT} {ds:List DV} {Q:Prop} (hF: ∃w:Bool,(w=true→Q)∧KX u (58,none) ds (.c (.bool w))) (h1:(Q6 u fids)[n]? =some (KX u (58,none))) (h2: @bI (bf l bs) args=some ds) (hl:l.length=j) (h:Q→WX u fids nx (l++[.bool true]) (To m g o a)):
 WX u fids (.call n args (.tm .bool (.var j)) 1 (.split (.op .not [.var j]) (.ret (.tuple [.agg [.tm (.aF []) (.op .nil []),.str []],.int .i64 3])) nx)) l (To m g o a):=by
 subst hl
 obtain ⟨w,hw,hF⟩:=hF
 have e:dp (l++[.bool w]) l.length= .bool w:=by show D.at _ _=_;unfold D.at;simp
 refine ai h1 hF h2 (by simp) (by simp [e]) (by simp [e]) ?_
 refine ah.2 ?_
 simp only [aI,bh,aL,e,aP]
 cases w
 ·simp only [ZN,a9];exact gT 3 (by omega)
 ·simp only [Zy,aQ];exact h (hw rfl)
theorem dw {K:k9→Prop} {n:Int} {i:Nat} {A B:PT} (hv:dp l i= .int .i64 o) (h1:o=n→WX u fids A l K) (h2:o≠n→WX u fids B l K):WX u fids (.split (.op (.cmp .eql) [.var i,.int .i64 n]) A B) l K:=by
 refine ah.2 ?_
 simp only [bh,aL,hv,aV,ak]
 exact az h1 h2
end
set_option maxHeartbeats 4000000 in
theorem Ln {m:Mo} (hm:Ep m) (f:Nat) (hf:f<m.f.length) (g:Fu) (hg:m.f[f]=g) (u:Bool) (o a b c:Int) (hu:u=true→o=11∨o=12→0≤a∧a<g.k.length): ∃pops push e,xZ m g o a pops push e∧KX u (39,none) [.agg m.e,.c (.int .i64 (f:Int)),xs o a b c] (nE pops push e):=by
 obtain ⟨r,⟨pops,push,e,hq,rfl⟩,h⟩:=U3 (u:=u) (l:=en m f o a b c) (R:=fun r=>∃pops push e,xZ m g o a pops push e∧r=nE pops push e) (ds:=[.agg m.e,.c (.int .i64 (f:Int)),xs o a b c]) Te (by simp [Mo.e,eT,aZ,eL,eF]) (by simp) (by
  unfold OO
  refine dw rfl (fun ho=>?_) (fun _=>?_)
  ·subst ho
   simp only [aI,aR,WB,Xl,XZ,ah,bh,aL,ae,ag,aw,ZD,aA,aB,aX,bc,aV,aT,aJ,aM,aP,ba,aU,aE,Wt,VV,Xt,aD,aH,eS,eT,eL,aZ,eF,aC,ak]
   refine az (fun z7=>?_) (fun _=>gT 2 (by omega))
   refine az (fun z8=>?_) (fun _=>gT 2 (by omega))
   refine tw (bp f hf g hg u 1 a (fun _ e=>absurd e (by omega))) rfl (by simp [Mo.e,eT,aZ,eL,eF]) rfl fun q6=>?_
   refine tw (bp f hf g hg u 0 b (fun _ e=>absurd e (by omega))) rfl (by simp [Mo.e,eT,aZ,eL,eF]) rfl fun q7=>?_
   refine tw (bp f hf g hg u 0 c (fun _ e=>absurd e (by omega))) rfl (by simp [Mo.e,eT,aZ,eL,eF]) rfl fun q8=>?_
   exact wJ [] [105,110,116] (by simp) (.inr (cY (by simp [fQ]))) (by omega) (by simp [eL,eS])
  refine dw rfl (fun ho=>?_) (fun _=>?_)
  ·subst ho
   simp only [aI,aR,WB,Xl,XZ,ah,bh,aL,ae,ag,aw,ZD,aA,aB,aX,bc,aV,aT,aJ,aM,aP,ba,aU,aE,Wt,VV,Xt,aD,aH,eS,eT,eL,aZ,eF,aC,ak]
   refine az (fun z7=>?_) (fun _=>gT 2 (by omega))
   refine az (fun z8=>?_) (fun _=>gT 2 (by omega))
   refine tw (bp f hf g hg u 2 a (fun _ e=>absurd e (by omega))) rfl (by simp [Mo.e,eT,aZ,eL,eF]) rfl fun q6=>?_
   refine tw (bp f hf g hg u 0 b (fun _ e=>absurd e (by omega))) rfl (by simp [Mo.e,eT,aZ,eL,eF]) rfl fun q7=>?_
   refine tw (bp f hf g hg u 0 c (fun _ e=>absurd e (by omega))) rfl (by simp [Mo.e,eT,aZ,eL,eF]) rfl fun q8=>?_
   exact wJ [] [114,101,97,108] (by simp) (.inr (cY (by simp [fQ]))) (by omega) (by simp [eL,eS])
  refine dw rfl (fun ho=>?_) (fun _=>?_)
  ·subst ho
   simp only [aI,aR,WB,Xl,XZ,ah,bh,aL,ae,ag,aw,ZD,aA,aB,aX,bc,aV,aT,aJ,aM,aP,ba,aU,aE,Wt,VV,Xt,aD,aH,eS,eT,eL,aZ,eF,aC,ak]
   refine az (fun z7=>?_) (fun _=>gT 2 (by omega))
   refine az (fun z8=>?_) (fun _=>gT 2 (by omega))
   refine tw (bp f hf g hg u 3 a (fun _ e=>absurd e (by omega))) rfl (by simp [Mo.e,eT,aZ,eL,eF]) rfl fun q6=>?_
   refine tw (bp f hf g hg u 0 b (fun _ e=>absurd e (by omega))) rfl (by simp [Mo.e,eT,aZ,eL,eF]) rfl fun q7=>?_
   refine tw (bp f hf g hg u 0 c (fun _ e=>absurd e (by omega))) rfl (by simp [Mo.e,eT,aZ,eL,eF]) rfl fun q8=>?_
   exact wJ [] [98,111,111,108] (by simp) (.inr (cY (by simp [fQ]))) (by omega) (by simp [eL,eS])
  refine dw rfl (fun ho=>?_) (fun _=>?_)
  ·subst ho
   simp only [aI,aR,WB,Xl,XZ,ah,bh,aL,ae,ag,aw,ZD,aA,aB,aX,bc,aV,aT,aJ,aM,aP,ba,aU,aE,Wt,VV,Xt,aD,aH,eS,eT,eL,aZ,eF,aC,ak]
   refine az (fun z7=>?_) (fun _=>gT 2 (by omega))
   refine az (fun z8=>?_) (fun _=>gT 2 (by omega))
   refine tw (bp f hf g hg u 4 a (fun _ e=>absurd e (by omega))) rfl (by simp [Mo.e,eT,aZ,eL,eF]) rfl fun q6=>?_
   refine tw (bp f hf g hg u 0 b (fun _ e=>absurd e (by omega))) rfl (by simp [Mo.e,eT,aZ,eL,eF]) rfl fun q7=>?_
   refine tw (bp f hf g hg u 0 c (fun _ e=>absurd e (by omega))) rfl (by simp [Mo.e,eT,aZ,eL,eF]) rfl fun q8=>?_
   have f6:=q6.1 rfl
   exact wJ [] [115,116,114] (by simp) (.inr (cY (by simp [fQ]))) (by omega) (by simp [eL,eS])
  refine dw rfl (fun ho=>?_) (fun _=>?_)
  ·subst ho
   simp only [aI,aR,WB,Xl,XZ,ah,bh,aL,ae,ag,aw,ZD,aA,aB,aX,bc,aV,aT,aJ,aM,aP,ba,aU,aE,Wt,VV,Xt,aD,aH,eS,eT,eL,aZ,eF,aC,ak]
   refine az (fun z6=>?_) (fun _=>gT 2 (by omega))
   refine az (fun z7=>?_) (fun _=>gT 2 (by omega))
   refine az (fun z8=>?_) (fun _=>gT 2 (by omega))
   refine tw (bp f hf g hg u 0 a (fun _ e=>absurd e (by omega))) rfl (by simp [Mo.e,eT,aZ,eL,eF]) rfl fun q6=>?_
   refine tw (bp f hf g hg u 0 b (fun _ e=>absurd e (by omega))) rfl (by simp [Mo.e,eT,aZ,eL,eF]) rfl fun q7=>?_
   refine tw (bp f hf g hg u 0 c (fun _ e=>absurd e (by omega))) rfl (by simp [Mo.e,eT,aZ,eL,eF]) rfl fun q8=>?_
   exact wJ [] [117,110,105,116] (by simp) (.inr (cY (by simp [fQ]))) (by omega) (by simp [eL,eS])
  refine dw rfl (fun ho=>?_) (fun _=>?_)
  ·subst ho
   simp only [aI,aR,WB,Xl,XZ,ah,bh,aL,ae,ag,aw,ZD,aA,aB,aX,bc,aV,aT,aJ,aM,aP,ba,aU,aE,Wt,VV,Xt,aD,aH,eS,eT,eL,aZ,eF,aC,ak]
   refine az (fun z7=>?_) (fun _=>gT 2 (by omega))
   refine az (fun z8=>?_) (fun _=>gT 2 (by omega))
   refine tw (bp f hf g hg u 4 a (fun _ e=>absurd e (by omega))) rfl (by simp [Mo.e,eT,aZ,eL,eF]) rfl fun q6=>?_
   refine tw (bp f hf g hg u 0 b (fun _ e=>absurd e (by omega))) rfl (by simp [Mo.e,eT,aZ,eL,eF]) rfl fun q7=>?_
   refine tw (bp f hf g hg u 0 c (fun _ e=>absurd e (by omega))) rfl (by simp [Mo.e,eT,aZ,eL,eF]) rfl fun q8=>?_
   have f6:=q6.1 rfl
   obtain ⟨i,hi⟩:=Ws (show 0≤a by omega)
   subst hi
   obtain ⟨r,hr,hF⟩:=QV hm f 6 b c i (by omega)
   exact ga rfl hr hF (by omega) (by simp [dk,xs,Mo.e,eT,aZ,eL,eF])
  refine dw rfl (fun ho=>?_) (fun _=>?_)
  ·subst ho
   simp only [aI,aR,WB,Xl,XZ,ah,bh,aL,ae,ag,aw,ZD,aA,aB,aX,bc,aV,aT,aJ,aM,aP,ba,aU,aE,Wt,VV,Xt,aD,aH,eS,eT,eL,aZ,eF,aC,ak]
   refine az (fun z6=>?_) (fun _=>gT 2 (by omega))
   refine az (fun z7=>?_) (fun _=>gT 2 (by omega))
   refine az (fun z8=>?_) (fun _=>gT 2 (by omega))
   refine tw (bp f hf g hg u 0 a (fun _ e=>absurd e (by omega))) rfl (by simp [Mo.e,eT,aZ,eL,eF]) rfl fun q6=>?_
   refine tw (bp f hf g hg u 0 b (fun _ e=>absurd e (by omega))) rfl (by simp [Mo.e,eT,aZ,eL,eF]) rfl fun q7=>?_
   refine tw (bp f hf g hg u 0 c (fun _ e=>absurd e (by omega))) rfl (by simp [Mo.e,eT,aZ,eL,eF]) rfl fun q8=>?_
   obtain ⟨r,hr,hF⟩:=QW hm f hf 7 a b c
   exact ga rfl hr hF (by omega) (by simp [dk,xs,Mo.e,eT,aZ,eL,eF])
  refine dw rfl (fun ho=>?_) (fun _=>?_)
  ·subst ho
   simp only [aI,aR,WB,Xl,XZ,ah,bh,aL,ae,ag,aw,ZD,aA,aB,aX,bc,aV,aT,aJ,aM,aP,ba,aU,aE,Wt,VV,Xt,aD,aH,eS,eT,eL,aZ,eF,aC,ak]
   refine az (fun z7=>?_) (fun _=>gT 2 (by omega))
   refine az (fun z8=>?_) (fun _=>gT 2 (by omega))
   refine tw (bp f hf g hg u 5 a (fun _ e=>absurd e (by omega))) rfl (by simp [Mo.e,eT,aZ,eL,eF]) rfl fun q6=>?_
   refine tw (bp f hf g hg u 0 b (fun _ e=>absurd e (by omega))) rfl (by simp [Mo.e,eT,aZ,eL,eF]) rfl fun q7=>?_
   refine tw (bp f hf g hg u 0 c (fun _ e=>absurd e (by omega))) rfl (by simp [Mo.e,eT,aZ,eL,eF]) rfl fun q8=>?_
   have f6:=q6.2.1 rfl
   obtain ⟨i,hi⟩:=Ws (show 0≤a by omega)
   subst hi
   obtain ⟨r,hr,hF⟩:=QX hm f hf 8 b c i (by rw [hg];omega)
   exact ga rfl hr hF (by omega) (by simp [dk,xs,Mo.e,eT,aZ,eL,eF])
  refine dw rfl (fun ho=>?_) (fun _=>?_)
  ·subst ho
   simp only [aI,aR,WB,Xl,XZ,ah,bh,aL,ae,ag,aw,ZD,aA,aB,aX,bc,aV,aT,aJ,aM,aP,ba,aU,aE,Wt,VV,Xt,aD,aH,eS,eT,eL,aZ,eF,aC,ak]
   refine az (fun z7=>?_) (fun _=>gT 2 (by omega))
   refine az (fun z8=>?_) (fun _=>gT 2 (by omega))
   refine tw (bp f hf g hg u 5 a (fun _ e=>absurd e (by omega))) rfl (by simp [Mo.e,eT,aZ,eL,eF]) rfl fun q6=>?_
   refine tw (bp f hf g hg u 0 b (fun _ e=>absurd e (by omega))) rfl (by simp [Mo.e,eT,aZ,eL,eF]) rfl fun q7=>?_
   refine tw (bp f hf g hg u 0 c (fun _ e=>absurd e (by omega))) rfl (by simp [Mo.e,eT,aZ,eL,eF]) rfl fun q8=>?_
   have f6:=q6.2.1 rfl
   obtain ⟨i,hi⟩:=Ws (show 0≤a by omega)
   subst hi
   obtain ⟨r,hr,hF⟩:=QY hm f hf 9 b c i (by rw [hg];omega)
   exact ga rfl hr hF (by omega) (by simp [dk,xs,Mo.e,eT,aZ,eL,eF])
  refine dw rfl (fun ho=>?_) (fun _=>?_)
  ·subst ho
   simp only [aI,aR,WB,Xl,XZ,ah,bh,aL,ae,ag,aw,ZD,aA,aB,aX,bc,aV,aT,aJ,aM,aP,ba,aU,aE,Wt,VV,Xt,aD,aH,eS,eT,eL,aZ,eF,aC,ak]
   refine az (fun z6=>?_) (fun _=>gT 2 (by omega))
   refine az (fun z7=>?_) (fun _=>gT 2 (by omega))
   refine az (fun z8=>?_) (fun _=>gT 2 (by omega))
   refine tw (bp f hf g hg u 0 a (fun _ e=>absurd e (by omega))) rfl (by simp [Mo.e,eT,aZ,eL,eF]) rfl fun q6=>?_
   refine tw (bp f hf g hg u 0 b (fun _ e=>absurd e (by omega))) rfl (by simp [Mo.e,eT,aZ,eL,eF]) rfl fun q7=>?_
   refine tw (bp f hf g hg u 0 c (fun _ e=>absurd e (by omega))) rfl (by simp [Mo.e,eT,aZ,eL,eF]) rfl fun q8=>?_
   exact wJ [[42]] [] (by simp) (.inl rfl) (by omega) (by simp [eL,eS])
  refine dw rfl (fun ho=>?_) (fun _=>?_)
  ·subst ho
   simp only [aI,aR,WB,Xl,XZ,ah,bh,aL,ae,ag,aw,ZD,aA,aB,aX,bc,aV,aT,aJ,aM,aP,ba,aU,aE,Wt,VV,Xt,aD,aH,eS,eT,eL,aZ,eF,aC,ak]
   refine az (fun z7=>?_) (fun _=>gT 2 (by omega))
   refine az (fun z8=>?_) (fun _=>gT 2 (by omega))
   refine tw (bp f hf g hg u 6 a (fun e _=>hu e (by omega))) rfl (by simp [Mo.e,eT,aZ,eL,eF]) rfl fun q6=>?_
   refine tw (bp f hf g hg u 0 b (fun _ e=>absurd e (by omega))) rfl (by simp [Mo.e,eT,aZ,eL,eF]) rfl fun q7=>?_
   refine tw (bp f hf g hg u 0 c (fun _ e=>absurd e (by omega))) rfl (by simp [Mo.e,eT,aZ,eL,eF]) rfl fun q8=>?_
   have f6:=q6.2.2.1 rfl
   exact wJ [] [] (by simp) (.inl rfl) (by omega) (by simp [eL,eS])
  refine dw rfl (fun ho=>?_) (fun _=>?_)
  ·subst ho
   simp only [aI,aR,WB,Xl,XZ,ah,bh,aL,ae,ag,aw,ZD,aA,aB,aX,bc,aV,aT,aJ,aM,aP,ba,aU,aE,Wt,VV,Xt,aD,aH,eS,eT,eL,aZ,eF,aC,ak]
   refine az (fun z7=>?_) (fun _=>gT 2 (by omega))
   refine az (fun z8=>?_) (fun _=>gT 2 (by omega))
   refine tw (bp f hf g hg u 6 a (fun e _=>hu e (by omega))) rfl (by simp [Mo.e,eT,aZ,eL,eF]) rfl fun q6=>?_
   refine tw (bp f hf g hg u 0 b (fun _ e=>absurd e (by omega))) rfl (by simp [Mo.e,eT,aZ,eL,eF]) rfl fun q7=>?_
   refine tw (bp f hf g hg u 0 c (fun _ e=>absurd e (by omega))) rfl (by simp [Mo.e,eT,aZ,eL,eF]) rfl fun q8=>?_
   have f6:=q6.2.2.1 rfl
   exact wJ [[98,111,111,108]] [] (by simp) (.inl rfl) (by omega) (by simp [eL,eS])
  refine dw rfl (fun ho=>?_) (fun _=>?_)
  ·subst ho
   simp only [aI,aR,WB,Xl,XZ,ah,bh,aL,ae,ag,aw,ZD,aA,aB,aX,bc,aV,aT,aJ,aM,aP,ba,aU,aE,Wt,VV,Xt,aD,aH,eS,eT,eL,aZ,eF,aC,ak]
   refine az (fun z8=>?_) (fun _=>gT 2 (by omega))
   refine tw (bp f hf g hg u 7 a (fun _ e=>absurd e (by omega))) rfl (by simp [Mo.e,eT,aZ,eL,eF]) rfl fun q6=>?_
   refine tw (bp f hf g hg u 9 b (fun _ e=>absurd e (by omega))) rfl (by simp [Mo.e,eT,aZ,eL,eF]) rfl fun q7=>?_
   refine tw (bp f hf g hg u 0 c (fun _ e=>absurd e (by omega))) rfl (by simp [Mo.e,eT,aZ,eL,eF]) rfl fun q8=>?_
   have f6:=q6.2.2.2.1 rfl
   obtain ⟨i,hi⟩:=Ws (show 0≤a by omega)
   subst hi
   obtain ⟨r,hr,hF⟩:=QZ hm f 13 b c i (by omega)
   exact ga rfl hr hF (by omega) (by simp [dk,xs,Mo.e,eT,aZ,eL,eF])
  refine dw rfl (fun ho=>?_) (fun _=>?_)
  ·subst ho
   simp only [aI,aR,WB,Xl,XZ,ah,bh,aL,ae,ag,aw,ZD,aA,aB,aX,bc,aV,aT,aJ,aM,aP,ba,aU,aE,Wt,VV,Xt,aD,aH,eS,eT,eL,aZ,eF,aC,ak]
   refine az (fun z8=>?_) (fun _=>gT 2 (by omega))
   refine tw (bp f hf g hg u 8 a (fun _ e=>absurd e (by omega))) rfl (by simp [Mo.e,eT,aZ,eL,eF]) rfl fun q6=>?_
   refine tw (bp f hf g hg u 12 b (fun _ e=>absurd e (by omega))) rfl (by simp [Mo.e,eT,aZ,eL,eF]) rfl fun q7=>?_
   refine tw (bp f hf g hg u 0 c (fun _ e=>absurd e (by omega))) rfl (by simp [Mo.e,eT,aZ,eL,eF]) rfl fun q8=>?_
   have f6:=q6.2.2.2.2.1 rfl
   have f7:=q7.2.2.2.2.2.2.2.1 rfl
   obtain ⟨i,hi⟩:=Ws (show 0≤a by omega)
   subst hi
   obtain ⟨j,hj⟩:=Ws (show 0≤b by omega)
   subst hj
   obtain ⟨r,hr,hF⟩:=Q0 hm f 14 c i j (by omega) (by omega) (by omega)
   exact ga rfl hr hF (by omega) (by simp [dk,xs,Mo.e,eT,aZ,eL,eF])
  refine dw rfl (fun ho=>?_) (fun _=>?_)
  ·subst ho
   simp only [aI,aR,WB,Xl,XZ,ah,bh,aL,ae,ag,aw,ZD,aA,aB,aX,bc,aV,aT,aJ,aM,aP,ba,aU,aE,Wt,VV,Xt,aD,aH,eS,eT,eL,aZ,eF,aC,ak]
   refine az (fun z8=>?_) (fun _=>gT 2 (by omega))
   refine tw (bp f hf g hg u 10 a (fun _ e=>absurd e (by omega))) rfl (by simp [Mo.e,eT,aZ,eL,eF]) rfl fun q6=>?_
   refine tw (bp f hf g hg u 9 b (fun _ e=>absurd e (by omega))) rfl (by simp [Mo.e,eT,aZ,eL,eF]) rfl fun q7=>?_
   refine tw (bp f hf g hg u 0 c (fun _ e=>absurd e (by omega))) rfl (by simp [Mo.e,eT,aZ,eL,eF]) rfl fun q8=>?_
   have f6:=q6.2.2.2.2.2.1 rfl
   obtain ⟨i,hi⟩:=Ws (show 0≤a by omega)
   subst hi
   obtain ⟨r,hr,hF⟩:=Q1 hm f 15 b c i (by omega)
   exact ga rfl hr hF (by omega) (by simp [dk,xs,Mo.e,eT,aZ,eL,eF])
  refine dw rfl (fun ho=>?_) (fun _=>?_)
  ·subst ho
   simp only [aI,aR,WB,Xl,XZ,ah,bh,aL,ae,ag,aw,ZD,aA,aB,aX,bc,aV,aT,aJ,aM,aP,ba,aU,aE,Wt,VV,Xt,aD,aH,eS,eT,eL,aZ,eF,aC,ak]
   refine az (fun z7=>?_) (fun _=>gT 2 (by omega))
   refine az (fun z8=>?_) (fun _=>gT 2 (by omega))
   refine tw (bp f hf g hg u 11 a (fun _ e=>absurd e (by omega))) rfl (by simp [Mo.e,eT,aZ,eL,eF]) rfl fun q6=>?_
   refine tw (bp f hf g hg u 0 b (fun _ e=>absurd e (by omega))) rfl (by simp [Mo.e,eT,aZ,eL,eF]) rfl fun q7=>?_
   refine tw (bp f hf g hg u 0 c (fun _ e=>absurd e (by omega))) rfl (by simp [Mo.e,eT,aZ,eL,eF]) rfl fun q8=>?_
   have f6:=q6.2.2.2.2.2.2.1 rfl
   obtain ⟨i,hi⟩:=Ws (show 0≤a by omega)
   subst hi
   obtain ⟨r,hr,hF⟩:=Q2 hm f 16 b c i (by omega)
   exact ga rfl hr hF (by omega) (by simp [dk,xs,Mo.e,eT,aZ,eL,eF])
  refine dw rfl (fun ho=>?_) (fun _=>?_)
  ·subst ho
   simp only [aI,aR,WB,Xl,XZ,ah,bh,aL,ae,ag,aw,ZD,aA,aB,aX,bc,aV,aT,aJ,aM,aP,ba,aU,aE,Wt,VV,Xt,aD,aH,eS,eT,eL,aZ,eF,aC,ak]
   refine az (fun z7=>?_) (fun _=>gT 2 (by omega))
   refine az (fun z8=>?_) (fun _=>gT 2 (by omega))
   refine tw (bp f hf g hg u 12 a (fun _ e=>absurd e (by omega))) rfl (by simp [Mo.e,eT,aZ,eL,eF]) rfl fun q6=>?_
   refine tw (bp f hf g hg u 0 b (fun _ e=>absurd e (by omega))) rfl (by simp [Mo.e,eT,aZ,eL,eF]) rfl fun q7=>?_
   refine tw (bp f hf g hg u 0 c (fun _ e=>absurd e (by omega))) rfl (by simp [Mo.e,eT,aZ,eL,eF]) rfl fun q8=>?_
   have f6:=q6.2.2.2.2.2.2.2.1 rfl
   obtain ⟨i,hi⟩:=Ws (show 0≤a by omega)
   subst hi
   obtain ⟨r,hr,hF⟩:=Q3 hm f 17 b c i (by omega) (by omega)
   exact ga rfl hr hF (by omega) (by simp [dk,xs,Mo.e,eT,aZ,eL,eF])
  refine dw rfl (fun ho=>?_) (fun _=>?_)
  ·subst ho
   simp only [aI,aR,WB,Xl,XZ,ah,bh,aL,ae,ag,aw,ZD,aA,aB,aX,bc,aV,aT,aJ,aM,aP,ba,aU,aE,Wt,VV,Xt,aD,aH,eS,eT,eL,aZ,eF,aC,ak]
   refine az (fun z8=>?_) (fun _=>gT 2 (by omega))
   refine tw (bp f hf g hg u 4 a (fun _ e=>absurd e (by omega))) rfl (by simp [Mo.e,eT,aZ,eL,eF]) rfl fun q6=>?_
   refine tw (bp f hf g hg u 4 b (fun _ e=>absurd e (by omega))) rfl (by simp [Mo.e,eT,aZ,eL,eF]) rfl fun q7=>?_
   refine tw (bp f hf g hg u 0 c (fun _ e=>absurd e (by omega))) rfl (by simp [Mo.e,eT,aZ,eL,eF]) rfl fun q8=>?_
   have f6:=q6.1 rfl
   have f7:=q7.1 rfl
   obtain ⟨i,hi⟩:=Ws (show 0≤a by omega)
   subst hi
   obtain ⟨j,hj⟩:=Ws (show 0≤b by omega)
   subst hj
   obtain ⟨r,hr,hF⟩:=Lj hm f 18 c i j (by omega) (by omega)
   exact ga rfl hr hF (by omega) (by simp [dk,xs,Mo.e,eT,aZ,eL,eF])
  refine dw rfl (fun ho=>?_) (fun _=>?_)
  ·subst ho
   simp only [aI,aR,WB,Xl,XZ,ah,bh,aL,ae,ag,aw,ZD,aA,aB,aX,bc,aV,aT,aJ,aM,aP,ba,aU,aE,Wt,VV,Xt,aD,aH,eS,eT,eL,aZ,eF,aC,ak]
   refine az (fun z8=>?_) (fun _=>gT 2 (by omega))
   refine tw (bp f hf g hg u 4 a (fun _ e=>absurd e (by omega))) rfl (by simp [Mo.e,eT,aZ,eL,eF]) rfl fun q6=>?_
   refine tw (bp f hf g hg u 4 b (fun _ e=>absurd e (by omega))) rfl (by simp [Mo.e,eT,aZ,eL,eF]) rfl fun q7=>?_
   refine tw (bp f hf g hg u 0 c (fun _ e=>absurd e (by omega))) rfl (by simp [Mo.e,eT,aZ,eL,eF]) rfl fun q8=>?_
   have f6:=q6.1 rfl
   have f7:=q7.1 rfl
   obtain ⟨i,hi⟩:=Ws (show 0≤a by omega)
   subst hi
   obtain ⟨j,hj⟩:=Ws (show 0≤b by omega)
   subst hj
   obtain ⟨r,hr,hF⟩:=Lj hm f 19 c i j (by omega) (by omega)
   exact ga rfl hr hF (by omega) (by simp [dk,xs,Mo.e,eT,aZ,eL,eF])
  refine dw rfl (fun ho=>?_) (fun _=>?_)
  ·subst ho
   simp only [aI,aR,WB,Xl,XZ,ah,bh,aL,ae,ag,aw,ZD,aA,aB,aX,bc,aV,aT,aJ,aM,aP,ba,aU,aE,Wt,VV,Xt,aD,aH,eS,eT,eL,aZ,eF,aC,ak]
   refine az (fun z8=>?_) (fun _=>gT 2 (by omega))
   refine tw (bp f hf g hg u 4 a (fun _ e=>absurd e (by omega))) rfl (by simp [Mo.e,eT,aZ,eL,eF]) rfl fun q6=>?_
   refine tw (bp f hf g hg u 4 b (fun _ e=>absurd e (by omega))) rfl (by simp [Mo.e,eT,aZ,eL,eF]) rfl fun q7=>?_
   refine tw (bp f hf g hg u 0 c (fun _ e=>absurd e (by omega))) rfl (by simp [Mo.e,eT,aZ,eL,eF]) rfl fun q8=>?_
   have f6:=q6.1 rfl
   have f7:=q7.1 rfl
   obtain ⟨i,hi⟩:=Ws (show 0≤a by omega)
   subst hi
   obtain ⟨j,hj⟩:=Ws (show 0≤b by omega)
   subst hj
   obtain ⟨r,hr,hF⟩:=Lk hm f hf 20 c i j (by omega) (by omega)
   exact ga rfl hr hF (by omega) (by simp [dk,xs,Mo.e,eT,aZ,eL,eF])
  refine dw rfl (fun ho=>?_) (fun _=>?_)
  ·subst ho
   simp only [aI,aR,WB,Xl,XZ,ah,bh,aL,ae,ag,aw,ZD,aA,aB,aX,bc,aV,aT,aJ,aM,aP,ba,aU,aE,Wt,VV,Xt,aD,aH,eS,eT,eL,aZ,eF,aC,ak]
   refine az (fun z8=>?_) (fun _=>gT 2 (by omega))
   refine tw (bp f hf g hg u 4 a (fun _ e=>absurd e (by omega))) rfl (by simp [Mo.e,eT,aZ,eL,eF]) rfl fun q6=>?_
   refine tw (bp f hf g hg u 4 b (fun _ e=>absurd e (by omega))) rfl (by simp [Mo.e,eT,aZ,eL,eF]) rfl fun q7=>?_
   refine tw (bp f hf g hg u 0 c (fun _ e=>absurd e (by omega))) rfl (by simp [Mo.e,eT,aZ,eL,eF]) rfl fun q8=>?_
   have f6:=q6.1 rfl
   have f7:=q7.1 rfl
   obtain ⟨i,hi⟩:=Ws (show 0≤a by omega)
   subst hi
   obtain ⟨j,hj⟩:=Ws (show 0≤b by omega)
   subst hj
   obtain ⟨r,hr,hF⟩:=Lk hm f hf 21 c i j (by omega) (by omega)
   exact ga rfl hr hF (by omega) (by simp [dk,xs,Mo.e,eT,aZ,eL,eF])
  refine dw rfl (fun ho=>?_) (fun _=>?_)
  ·subst ho
   simp only [aI,aR,WB,Xl,XZ,ah,bh,aL,ae,ag,aw,ZD,aA,aB,aX,bc,aV,aT,aJ,aM,aP,ba,aU,aE,Wt,VV,Xt,aD,aH,eS,eT,eL,aZ,eF,aC,ak]
   refine az (fun z7=>?_) (fun _=>gT 2 (by omega))
   refine az (fun z8=>?_) (fun _=>gT 2 (by omega))
   refine tw (bp f hf g hg u 4 a (fun _ e=>absurd e (by omega))) rfl (by simp [Mo.e,eT,aZ,eL,eF]) rfl fun q6=>?_
   refine tw (bp f hf g hg u 0 b (fun _ e=>absurd e (by omega))) rfl (by simp [Mo.e,eT,aZ,eL,eF]) rfl fun q7=>?_
   refine tw (bp f hf g hg u 0 c (fun _ e=>absurd e (by omega))) rfl (by simp [Mo.e,eT,aZ,eL,eF]) rfl fun q8=>?_
   have f6:=q6.1 rfl
   obtain ⟨i,hi⟩:=Ws (show 0≤a by omega)
   subst hi
   obtain ⟨r,hr,hF⟩:=Q4 hm f 22 b c i (by omega)
   exact ga rfl hr hF (by omega) (by simp [dk,xs,Mo.e,eT,aZ,eL,eF])
  refine dw rfl (fun ho=>?_) (fun _=>?_)
  ·subst ho
   simp only [aI,aR,WB,Xl,XZ,ah,bh,aL,ae,ag,aw,ZD,aA,aB,aX,bc,aV,aT,aJ,aM,aP,ba,aU,aE,Wt,VV,Xt,aD,aH,eS,eT,eL,aZ,eF,aC,ak]
   refine az (fun z8=>?_) (fun _=>gT 2 (by omega))
   refine tw (bp f hf g hg u 4 a (fun _ e=>absurd e (by omega))) rfl (by simp [Mo.e,eT,aZ,eL,eF]) rfl fun q6=>?_
   refine tw (bp f hf g hg u 12 b (fun _ e=>absurd e (by omega))) rfl (by simp [Mo.e,eT,aZ,eL,eF]) rfl fun q7=>?_
   refine tw (bp f hf g hg u 0 c (fun _ e=>absurd e (by omega))) rfl (by simp [Mo.e,eT,aZ,eL,eF]) rfl fun q8=>?_
   have f6:=q6.1 rfl
   have f7:=q7.2.2.2.2.2.2.2.1 rfl
   obtain ⟨i,hi⟩:=Ws (show 0≤a by omega)
   subst hi
   obtain ⟨j,hj⟩:=Ws (show 0≤b by omega)
   subst hj
   obtain ⟨k,hk⟩:=Ws (show 0≤c by omega)
   subst hk
   obtain ⟨r,hr,hF⟩:=Et hm f 23 i j k (by omega) (by omega) (by omega) (by omega)
   exact ga rfl hr hF (by omega) (by simp [dk,xs,Mo.e,eT,aZ,eL,eF])
  refine dw rfl (fun ho=>?_) (fun _=>?_)
  ·subst ho
   simp only [aI,aR,WB,Xl,XZ,ah,bh,aL,ae,ag,aw,ZD,aA,aB,aX,bc,aV,aT,aJ,aM,aP,ba,aU,aE,Wt,VV,Xt,aD,aH,eS,eT,eL,aZ,eF,aC,ak]
   refine az (fun z8=>?_) (fun _=>gT 2 (by omega))
   refine tw (bp f hf g hg u 4 a (fun _ e=>absurd e (by omega))) rfl (by simp [Mo.e,eT,aZ,eL,eF]) rfl fun q6=>?_
   refine tw (bp f hf g hg u 12 b (fun _ e=>absurd e (by omega))) rfl (by simp [Mo.e,eT,aZ,eL,eF]) rfl fun q7=>?_
   refine tw (bp f hf g hg u 0 c (fun _ e=>absurd e (by omega))) rfl (by simp [Mo.e,eT,aZ,eL,eF]) rfl fun q8=>?_
   have f6:=q6.1 rfl
   have f7:=q7.2.2.2.2.2.2.2.1 rfl
   obtain ⟨i,hi⟩:=Ws (show 0≤a by omega)
   subst hi
   obtain ⟨j,hj⟩:=Ws (show 0≤b by omega)
   subst hj
   obtain ⟨k,hk⟩:=Ws (show 0≤c by omega)
   subst hk
   obtain ⟨r,hr,hF⟩:=Et hm f 24 i j k (by omega) (by omega) (by omega) (by omega)
   exact ga rfl hr hF (by omega) (by simp [dk,xs,Mo.e,eT,aZ,eL,eF])
  refine dw rfl (fun ho=>?_) (fun _=>?_)
  ·subst ho
   refine tw (bp f hf g hg u 4 a (fun _ e=>absurd e (by omega))) rfl (by simp [Mo.e,eT,aZ,eL,eF]) rfl fun q6=>?_
   refine tw (bp f hf g hg u 12 b (fun _ e=>absurd e (by omega))) rfl (by simp [Mo.e,eT,aZ,eL,eF]) rfl fun q7=>?_
   refine tw (bp f hf g hg u 13 c (fun _ e=>absurd e (by omega))) rfl (by simp [Mo.e,eT,aZ,eL,eF]) rfl fun q8=>?_
   have f6:=q6.1 rfl
   have f7:=q7.2.2.2.2.2.2.2.1 rfl
   have f8:=q8.2.2.2.2.2.2.2.2 rfl
   obtain ⟨i,hi⟩:=Ws (show 0≤a by omega)
   subst hi
   obtain ⟨j,hj⟩:=Ws (show 0≤b by omega)
   subst hj
   obtain ⟨k,hk⟩:=Ws (show 0≤c by omega)
   subst hk
   obtain ⟨r,hr,hF⟩:=Et hm f 25 i j k (by omega) (by omega) (by omega) (by omega)
   exact ga rfl hr hF (by omega) (by simp [dk,xs,Mo.e,eT,aZ,eL,eF])
  refine dw rfl (fun ho=>?_) (fun _=>?_)
  ·subst ho
   simp only [aI,aR,WB,Xl,XZ,ah,bh,aL,ae,ag,aw,ZD,aA,aB,aX,bc,aV,aT,aJ,aM,aP,ba,aU,aE,Wt,VV,Xt,aD,aH,eS,eT,eL,aZ,eF,aC,ak]
   refine az (fun z6=>?_) (fun _=>gT 2 (by omega))
   refine az (fun z7=>?_) (fun _=>gT 2 (by omega))
   refine az (fun z8=>?_) (fun _=>gT 2 (by omega))
   refine tw (bp f hf g hg u 0 a (fun _ e=>absurd e (by omega))) rfl (by simp [Mo.e,eT,aZ,eL,eF]) rfl fun q6=>?_
   refine tw (bp f hf g hg u 0 b (fun _ e=>absurd e (by omega))) rfl (by simp [Mo.e,eT,aZ,eL,eF]) rfl fun q7=>?_
   refine tw (bp f hf g hg u 0 c (fun _ e=>absurd e (by omega))) rfl (by simp [Mo.e,eT,aZ,eL,eF]) rfl fun q8=>?_
   exact wJ [] [105,110,116] (by simp) (.inr (cY (by simp [fQ]))) (by omega) (by simp [eL,eS])
  refine dw rfl (fun ho=>?_) (fun _=>?_)
  ·subst ho
   simp only [aI,aR,WB,Xl,XZ,ah,bh,aL,ae,ag,aw,ZD,aA,aB,aX,bc,aV,aT,aJ,aM,aP,ba,aU,aE,Wt,VV,Xt,aD,aH,eS,eT,eL,aZ,eF,aC,ak]
   refine az (fun z6=>?_) (fun _=>gT 2 (by omega))
   refine az (fun z7=>?_) (fun _=>gT 2 (by omega))
   refine az (fun z8=>?_) (fun _=>gT 2 (by omega))
   refine tw (bp f hf g hg u 0 a (fun _ e=>absurd e (by omega))) rfl (by simp [Mo.e,eT,aZ,eL,eF]) rfl fun q6=>?_
   refine tw (bp f hf g hg u 0 b (fun _ e=>absurd e (by omega))) rfl (by simp [Mo.e,eT,aZ,eL,eF]) rfl fun q7=>?_
   refine tw (bp f hf g hg u 0 c (fun _ e=>absurd e (by omega))) rfl (by simp [Mo.e,eT,aZ,eL,eF]) rfl fun q8=>?_
   exact wJ [[42]] [117,110,105,116] (by simp) (.inr (cY (by simp [fQ]))) (by omega) (by simp [eL,eS])
  refine dw rfl (fun ho=>?_) (fun _=>?_)
  ·subst ho
   simp only [aI,aR,WB,Xl,XZ,ah,bh,aL,ae,ag,aw,ZD,aA,aB,aX,bc,aV,aT,aJ,aM,aP,ba,aU,aE,Wt,VV,Xt,aD,aH,eS,eT,eL,aZ,eF,aC,ak]
   refine az (fun z6=>?_) (fun _=>gT 2 (by omega))
   refine az (fun z7=>?_) (fun _=>gT 2 (by omega))
   refine az (fun z8=>?_) (fun _=>gT 2 (by omega))
   refine tw (bp f hf g hg u 0 a (fun _ e=>absurd e (by omega))) rfl (by simp [Mo.e,eT,aZ,eL,eF]) rfl fun q6=>?_
   refine tw (bp f hf g hg u 0 b (fun _ e=>absurd e (by omega))) rfl (by simp [Mo.e,eT,aZ,eL,eF]) rfl fun q7=>?_
   refine tw (bp f hf g hg u 0 c (fun _ e=>absurd e (by omega))) rfl (by simp [Mo.e,eT,aZ,eL,eF]) rfl fun q8=>?_
   obtain ⟨r,hr,hF⟩:=Q5 hm f hf 28 a b c
   exact ga rfl hr hF (by omega) (by simp [dk,xs,Mo.e,eT,aZ,eL,eF])
  exact gT 14 (by omega))
 exact ⟨pops,push,e,hq,h⟩
abbrev Lo (m:Mo) (f:Nat) (x:In) (r:List bn×bn×Int):Prop:=(∀g,m.f[f]? =some g→xZ m g x.o x.a r.1 r.2.1 r.2.2)∧Ok 39 [.agg m.e,.c (.int .i64 (f:Int)),.agg x.e] (nE r.1 r.2.1 r.2.2)∧(r.2.2=0→we 39 [.agg m.e,.c (.int .i64 (f:Int)),.agg x.e] (nE r.1 r.2.1 r.2.2))
noncomputable def told (m:Mo) (f:Nat) (x:In):List bn×bn×Int:=
 open Classical in if h: ∃r:List bn×bn×Int,Lo m f x r then h.choose else ([],[],0)
theorem zX {m:Mo} (hm:Ep m) {f:Nat} (hf:f<m.f.length) (x:In):Lo m f x (told m f x):=by
 have hex: ∃r:List bn×bn×Int,Lo m f x r:=by
  have hgq: ∀g,m.f[f]? =some g→g=m.f[f]:=fun g hg=>by
   rw [Wj hf] at hg
   exact (VF hg).symm
  by_cases hin:x.o=11∨x.o=12→0≤x.a∧x.a<m.f[f].k.length
  ·obtain ⟨pops,push,e,h1,h2⟩:=Ln hm f hf m.f[f] rfl true x.o x.a x.b x.c (fun _=>hin)
   exact ⟨(pops,push,e),fun g hg=>by rw [hgq g hg];exact h1,we.ok h2,fun _=>h2⟩
  ·obtain ⟨pops,push,e,h1,h2⟩:=Ln hm f hf m.f[f] rfl false x.o x.a x.b x.c (fun h=>by cases h)
   exact ⟨(pops,push,e),fun g hg=>by rw [hgq g hg];exact h1,h2,fun h=>absurd (h1.2.2 h) hin⟩
 unfold told
 rw [dif_pos hex]
 exact hex.choose_spec
theorem Q9 {m:Mo} (hm:Ep m) {f:Nat} {g:Fu} (hg:m.f[f]? =some g) (x:In):xZ m g x.o x.a (told m f x).1 (told m f x).2.1 (told m f x).2.2:=by
 obtain ⟨hf,_⟩:=List.getElem?_eq_some_iff.1 hg
 exact (zX hm hf x).1 g hg
theorem Ra {m:Mo} (hm:Ep m) {f:Nat} (hf:f<m.f.length) (x:In):Ok 39 [.agg m.e,.c (.int .i64 (f:Int)),.agg x.e] (nE (told m f x).1 (told m f x).2.1 (told m f x).2.2):=(zX hm hf x).2.1
abbrev LnF (m:Mo):Prop:=∀f∈m.f,f.l.length≤9223372036854775807
end
section
open Go
def qt (t:List Cl) (a b:List bn):Prop:=a.length=b.length∧∀(k:Nat) (x y:bn),a[k]? =some x→b[k]? =some y→dL t x y=true
theorem Lp {t:List Cl} (hw:km t=0) {a:List bn} (h: ∀s∈a,typed t s=true):qt t a a:=
 ⟨rfl,fun k x y hx hy=>by rw [hx] at hy;rw [←VF hy];exact wa hw (h x (Zm hx))⟩
def oY (t:List Cl) (st pops:List bn):Prop:=pops.length≤st.length∧∀(k:Nat) (x y:bn),pops[k]? =some x→st[k+st.length - pops.length]? =some y→x=[42]∨dL t y x=true
def after (st pops:List bn) (push:bn):List bn:=st.take (st.length - pops.length)++if push=[] then [] else [push]
theorem FQ (l:List bn) (h:l.length≤1000):Is Hf [eL l] 0 [eL l]:=by
 cases l with
 |nil=>
  have h1:Is (Hf.of [.an]) [] 0 [.aF []]:=vO (fids:=[]) (lds:=[]) (t:=.exit 0 [.op .nil []]) (by kernel_rfl) rfl (by simp)
  have h2:Is (Hf.of [.e0 false]) [] 0 [.aF []]:=vO (fids:=[]) (lds:=[]) (t:=.exit 0 [.op .nil []]) (by kernel_rfl) rfl (by simp)
  exact JP K3 HA rfl rfl (by kernel_rfl) (by kernel_rfl) h1 h2
 |cons s l=>
  refine vO Qy rfl ?_
  have e1:((l.length:Nat):Int)+1≤100000000:=by simp at h;omega
  have e2:(0:Int)<(l.length:Int)+1:=by omega
  simp [KN,e1,e2,eL,eS]
section
variable (t:List Cl) (Q S A Si P F f:D)
theorem NF (a b:List bn) (hl:a.length=b.length) (hb:b.length≤1000): ∃j os,((j=0∧¬qt t a b∨j=1∧qt t a b)∧∃o:List bn,os=[eL o,eT t,Si,P,F,f,Q,A,S])∧Is vG [eL b,eL [],eL a,.int .i64 0,Q,S,A,eT t,Si,P,F,f] j os:=
 db (aF:=a) (enc:=fun k (o:List bn)=>[eL b,eL o,eL a,.int .i64 k,Q,S,A,eT t,Si,P,F,f]) (I:=fun k o=>o.length=k∧∀i x y,i<k→a[i]? =some x→b[i]? =some y→dL t x y=true) (Q:=fun j os=>(j=0∧¬qt t a b∨j=1∧qt t a b)∧∃o:List bn,os=[eL o,eT t,Si,P,F,f,Q,A,S]) Ee (fun _ _=>rfl)
  (fun k o x hk hI hx=>by
   have w:=bj hk (by omega)
   have e1:(k:Int)<a.length:=by omega
   have e2:(k:Int)<b.length:=by omega
   have hx':a[k]? =some x:=by rw [Wj hk,hx]
   have hy':b[k]? =some (b[k]'(by omega)):=Wj _
   generalize (b[k]'(by omega))=y at hy'
   unfold oP
   simp only [aI,aR,WB,Xl,XZ,ah,bh,aL,ae,ag,aw,ZD,aA,aB,aX,bc,aV,aT,aJ,aM,aP,ba,aU,aE,Wt,VV,Xt,aD,aH,eS,eT,eL,aZ,eF,aC,ak,if_pos e1,if_pos e2,if_pos (WN k)]
   refine ai rfl (oX t x y) (by simp [hx',hy',eT,eS,eL]) (by simp) (by simp) (by simp) ?_
   have e3:((o.length:Nat):Int)≤100000000:=by omega
   simp only [aI,aR,WB,Xl,XZ,ah,bh,aL,ae,ag,aw,ZD,aA,aB,aX,bc,aV,aT,aJ,aM,aP,ba,aU,aE,Wt,VV,Xt,aD,aH,eS,eT,eL,aZ,eF,aC,ak]
   cases hs:dL t x y
   ·simp only [ZN,Zy,a9,aQ]
    exact aq (.exit 0 [eL o,eT t,Si,P,F,f,Q,A,S]) (by simp [eL,eT]) (.inl ⟨_,_,rfl,.inl ⟨rfl,fun hF=>by rw [hF.2 k x y hx' hy'] at hs;cases hs⟩,_,rfl⟩)
   ·simp only [ZN,Zy,a9,aQ,if_pos e3]
    refine aq (.next [eL b,eL (o++[y]),eL a,.int .i64 ((k+1:Nat):Int),Q,S,A,eT t,Si,P,F,f]) (by simp [eL,eT,w,hy',eS]) (.inr ⟨_,rfl,by simp [hI.1],fun i x' y' hi hx2 hy2=>?_⟩)
    by_cases hik:i=k
    ·subst hik
     rw [hx'] at hx2;rw [hy'] at hy2
     rw [←VF hx2,←VF hy2];exact hs
    ·exact hI.2 i x' y' (by omega) hx2 hy2)
  (fun o hI=>aq (.exit 1 [eL o,eT t,Si,P,F,f,Q,A,S]) (by simp [oP,eL,eT]) ⟨_,_,rfl,.inr ⟨rfl,hl,fun i x y hx hy=>hI.2 i x y (List.getElem?_eq_some_iff.1 hx).1 hx hy⟩,_,rfl⟩) [] ⟨rfl,fun i x y h=>absurd h (by omega)⟩
theorem NG (a b:List bn) (ha:a.length≤1000): ∃j os,((j=0∧¬qt t a b∨j=1∧qt t a b)∧(∃o:List bn,os=[eL o,eT t,Si,P,F,f,Q,A,S])∨j=2∧¬qt t a b∧os=[eT t,Si,P,F,f,Q,A,S])∧Is Qz [eL a,eL b,Q,S,A,eT t,Si,P,F,f] j os:=by
 refine HB QA rfl ?_
 unfold KP
 simp only [aI,aR,WB,Xl,XZ,ah,bh,aL,ae,ag,aw,ZD,aA,aB,aX,bc,aV,aT,aJ,aM,aP,ba,aU,aE,Wt,VV,Xt,aD,aH,eS,eT,eL,aZ,eF,aC,ak]
 by_cases hl:a.length=b.length
 case neg=>
  rw [if_neg (by omega)]
  exact aq (.exit 2 [eT t,Si,P,F,f,Q,A,S]) (by simp [eT]) ⟨_,_,rfl,.inr ⟨rfl,fun hF=>hl hF.1,rfl⟩⟩
 rw [if_pos (by omega)]
 obtain ⟨j,os,⟨hj,o,rfl⟩,hL⟩:=NF t Q S A Si P F f a b hl (by omega)
 refine ar rfl hL (by simp [eL,eT]) ?_
 rcases hj with ⟨rfl,hF⟩ |⟨rfl,hF⟩
 ·simp only [al,V8,ZL,true_and]
  exact aq (.exit 0 [eL o,eT t,Si,P,F,f,Q,A,S]) (by simp [eT,eL]) ⟨_,_,rfl,.inl ⟨.inl ⟨rfl,hF⟩,_,rfl⟩⟩
 ·simp only [ay,al,V8,ZL,true_and]
  exact aq (.exit 1 [eL o,eT t,Si,P,F,f,Q,A,S]) (by simp [eT,eL]) ⟨_,_,rfl,.inl ⟨.inr ⟨rfl,hF⟩,_,rfl⟩⟩
noncomputable def jn:List bn→List bn→Option (List bn)
 |[],[]=>some []
 |x::a,y::b=>match lE t x y with
  |none=>none
  |some z=>(jn a b).map (z:: ·)
 |_,_=>none
theorem FR: ∀{a b o:List bn},a.length=b.length→o.length=a.length→(∀(i:Nat) (x y z:bn),a[i]? =some x→b[i]? =some y→o[i]? =some z→lE t x y=some z)→jn t a b=some o
 |[],[],[],_,_,_=>rfl
 |x::a,y::b,z::o,h1,h2,h3=>by
  have h:=FR (a:=a) (b:=b) (o:=o) (by simpa using h1) (by simpa using h2) (fun i x' y' z' a1 a2 a3=>h3 (i+1) x' y' z' (by simpa using a1) (by simpa using a2) (by simpa using a3))
  have h0:=h3 0 x y z rfl rfl rfl
  simp only [jn,h0,h,Xt]
 |[],_::_,_,h1,_,_=>by simp at h1
 |_::_,[],_,h1,_,_=>by simp at h1
 |_::_,_::_,[],_,h2,_=>by simp at h2
 |[],[],_::_,_,h2,_=>by simp at h2
theorem FT: ∀{a b:List bn} {i:Nat} {x y:bn},a[i]? =some x→b[i]? =some y→lE t x y=none→jn t a b=none
 |x::a,y::b,0,_,_,h1,h2,h3=>by
  obtain rfl:=VF h1
  obtain rfl:=VF h2
  simp only [jn,h3]
 |x::a,y::b,i+1,_,_,h1,h2,h3=>by
  have h:=FT (a:=a) (b:=b) (i:=i) (by simpa using h1) (by simpa using h2) h3
  simp only [jn]
  split
  ·rfl
  ·rw [h];rfl
 |[],_,_,_,_,h1,_,_=>by simp at h1
 |_::_,[],_,_,_,_,h2,_=>by simp at h2
theorem Lq: ∀{a b:List bn},a.length≠b.length→jn t a b=none
 |[],[],h=>absurd rfl h
 |x::a,y::b,h=>by
  have h:=Lq (a:=a) (b:=b) (by simpa using h)
  simp only [jn]
  split
  ·rfl
  ·rw [h];rfl
 |[],_::_,_=>rfl
 |_::_,[],_=>rfl
theorem Lr (a b:List bn) (hl:a.length=b.length) (hb:b.length≤1000): ∃j os,(∃o:List bn,(j=0∧jn t a b=none∨j=1∧qt t b o∧jn t a b=some o)∧os=[eL o,eT t,Si,P,F,f,Q,A,S])∧Is oQ [eL b,eL [],eL a,.int .i64 0,Q,S,A,eT t,Si,P,F,f] j os:=
 db (aF:=a) (enc:=fun k (o:List bn)=>[eL b,eL o,eL a,.int .i64 k,Q,S,A,eT t,Si,P,F,f]) (I:=fun k o=>o.length=k∧∀i x y z,i<k→a[i]? =some x→b[i]? =some y→o[i]? =some z→lE t x y=some z) (Q:=fun j os=>∃o:List bn,(j=0∧jn t a b=none∨j=1∧qt t b o∧jn t a b=some o)∧os=[eL o,eT t,Si,P,F,f,Q,A,S]) zw (fun _ _=>rfl)
  (fun k o x hk hI hx=>by
   have w:=bj hk (by omega)
   have e1:(k:Int)<a.length:=by omega
   have e2:(k:Int)<b.length:=by omega
   have hx':a[k]? =some x:=by rw [Wj hk,hx]
   have hy':b[k]? =some (b[k]'(by omega)):=Wj _
   generalize (b[k]'(by omega))=y at hy'
   unfold ly
   simp only [aI,aR,WB,Xl,XZ,ah,bh,aL,ae,ag,aw,ZD,aA,aB,aX,bc,aV,aT,aJ,aM,aP,ba,aU,aE,Wt,VV,Xt,aD,aH,eS,eT,eL,aZ,eF,aC,ak,if_pos e1,if_pos e2,if_pos (WN k)]
   have hJ:=Nr t x y
   cases hj:lE t x y with
   |none=>
    rw [hj] at hJ
    refine ai rfl hJ (by simp [hx',hy',eT,eS,eL]) (by simp [iZ]) (by simp [iZ]) (by simp [iZ]) ?_
    simp only [iZ,aI,aR,WB,Xl,XZ,ah,bh,aL,ae,ag,aw,ZD,aA,aB,aX,bc,aV,aT,aJ,aM,aP,ba,aU,aE,Wt,VV,Xt,aD,aH,eS,eT,eL,aZ,eF,aC,ak,ZN,Zy,a9,aQ]
    exact aq (.exit 0 [eL o,eT t,Si,P,F,f,Q,A,S]) (by simp [eL,eT]) (.inl ⟨_,_,rfl,_,.inl ⟨rfl,FT t hx' hy' hj⟩,rfl⟩)
   |some z=>
    rw [hj] at hJ
    refine ai rfl hJ (by simp [hx',hy',eT,eS,eL]) (by simp [iZ]) (by simp [iZ]) (by simp [iZ]) ?_
    have e3:((o.length:Nat):Int)≤100000000:=by omega
    simp only [iZ,aI,aR,WB,Xl,XZ,ah,bh,aL,ae,ag,aw,ZD,aA,aB,aX,bc,aV,aT,aJ,aM,aP,ba,aU,aE,Wt,VV,Xt,aD,aH,eS,eT,eL,aZ,eF,aC,ak,ZN,Zy,a9,aQ,if_pos e3]
    refine aq (.next [eL b,eL (o++[z]),eL a,.int .i64 ((k+1:Nat):Int),Q,S,A,eT t,Si,P,F,f]) (by simp [eL,eT,w,eS]) (.inr ⟨_,rfl,by simp [hI.1],fun i x' y' z' hi hx2 hy2 hz2=>?_⟩)
    by_cases hik:i=k
    ·subst hik
     rw [hx'] at hx2;rw [hy'] at hy2
     rw [List.getElem?_append_right (by omega),hI.1,Nat.sub_self] at hz2
     rw [←VF hx2,←VF hy2,←VF hz2];exact hj
    ·rw [List.getElem?_append_left (by omega)] at hz2
     exact hI.2 i x' y' z' (by omega) hx2 hy2 hz2)
  (fun o hI=>aq (.exit 1 [eL o,eT t,Si,P,F,f,Q,A,S]) (by simp [ly,eL,eT]) ⟨_,_,rfl,_,.inr ⟨rfl,⟨by rw [←hl];exact hI.1.symm,fun i y z hy hz=>by
   have hi:=(List.getElem?_eq_some_iff.1 hy).1
   exact (K9 (hI.2 i _ y z (by omega) (Wj (by omega)) hy hz)).2.2⟩,FR t hl hI.1 fun i x y z hx hy hz=>hI.2 i x y z (List.getElem?_eq_some_iff.1 hx).1 hx hy hz⟩,rfl⟩) [] ⟨rfl,fun i x y z h=>absurd h (by omega)⟩
theorem Ls (a b:List bn) (hb:b.length≤1000): ∃j os,((∃o:List bn,(j=0∧jn t a b=none∨j=1∧qt t b o∧jn t a b=some o)∧os=[eL o,eT t,Si,P,F,f,Q,A,S])∨j=2∧jn t a b=none∧os=[eT t,Si,P,F,f,Q,A,S])∧Is Eg [eL a,eL b,Q,S,A,eT t,Si,P,F,f] j os:=by
 refine HB KQ rfl ?_
 unfold Cc
 simp only [aI,aR,WB,Xl,XZ,ah,bh,aL,ae,ag,aw,ZD,aA,aB,aX,bc,aV,aT,aJ,aM,aP,ba,aU,aE,Wt,VV,Xt,aD,aH,eS,eT,eL,aZ,eF,aC,ak]
 by_cases hl:a.length=b.length
 case neg=>
  rw [if_neg (by omega)]
  exact aq (.exit 2 [eT t,Si,P,F,f,Q,A,S]) (by simp [eT]) ⟨_,_,rfl,.inr ⟨rfl,Lq t hl,rfl⟩⟩
 rw [if_pos (by omega)]
 obtain ⟨j,os,⟨o,hj,rfl⟩,hL⟩:=Lr t Q S A Si P F f a b hl hb
 refine ar rfl hL (by simp [eL,eT]) ?_
 rcases hj with ⟨rfl,hF⟩ |⟨rfl,hF⟩
 ·simp only [al,V8,ZL,true_and]
  exact aq (.exit 0 [eL o,eT t,Si,P,F,f,Q,A,S]) (by simp [eT,eL]) ⟨_,_,rfl,.inl ⟨_,.inl ⟨rfl,hF⟩,rfl⟩⟩
 ·simp only [ay,al,V8,ZL,true_and]
  exact aq (.exit 1 [eL o,eT t,Si,P,F,f,Q,A,S]) (by simp [eT,eL]) ⟨_,_,rfl,.inl ⟨_,.inr ⟨rfl,hF⟩,rfl⟩⟩
theorem NH (st pops:List bn) (push:bn) (h1:st.length≤1000) (h2:pops.length≤900):
 ∃i os,((i≤1∧¬oY t st pops∧∃n:Int,os=[eL pops,eL st,.str push,.int .i64 n,eT t,Si,P,F,f,Q,A,S])∨(i=2∧oY t st pops∧os=[eL pops,eL st,.str push,.int .i64 ((st.length - pops.length:Nat):Int),eT t,Si,P,F,f,Q,A,S]))∧
  Is Ed [.int .i64 ((pops.length:Int) - 1),Q,S,A,eT t,Si,P,F,f,.int .i64 (st.length:Int),eL pops,.str push,eL st] i os:=by
 have h:=LY (enc:=fun j:Nat=>[.int .i64 ((j:Int) - 1),Q,S,A,eT t,Si,P,F,f,.int .i64 ((j+st.length - pops.length:Nat):Int),eL pops,.str push,eL st])
  (I:=fun j=>j≤pops.length∧pops.length≤j+st.length∧∀k x y,j≤k→pops[k]? =some x→st[k+st.length - pops.length]? =some y→x=[42]∨dL t y x=true) (μ:=fun j=>j)
  (Q:=fun _ i os=>(i≤1∧¬oY t st pops∧∃n:Int,os=[eL pops,eL st,.str push,.int .i64 n,eT t,Si,P,F,f,Q,A,S])∨(i=2∧oY t st pops∧os=[eL pops,eL st,.str push,.int .i64 ((st.length - pops.length:Nat):Int),eT t,Si,P,F,f,Q,A,S]))
  KO (fun j hI=>⟨rfl,by
   obtain ⟨hj,hn,hI⟩:=hI
   unfold Cb
   simp only [aI,aR,WB,Xl,XZ,ah,bh,aL,ae,ag,aw,ZD,aA,aB,aX,bc,aV,aT,aJ,aM,aP,ba,aU,aE,Wt,VV,Xt,aD,aH,eS,eT,eL,aZ,eF,aC,ak]
   cases j with
   |zero=>
    rw [if_neg (by omega)]
    refine aq (.exit 2 [eL pops,eL st,.str push,.int .i64 ((st.length - pops.length:Nat):Int),eT t,Si,P,F,f,Q,A,S]) (by simp [eL,eT]) (.inl ⟨_,_,rfl,.inr ⟨rfl,⟨by omega,fun k x y hx hy=>hI k x y (by omega) hx hy⟩,rfl⟩⟩)
   |succ j=>
    have ej:(((j+1:Nat):Int)) - 1=(j:Int):=by omega
    have w0:IntKind.i64.wrap ((j:Int) - 1)=(j:Int) - 1:=WJ _ (by omega)
    have e1:(j:Int)<pops.length:=by omega
    have hx:pops[j]? =some (pops[j]'(by omega)):=Wj _
    generalize (pops[j]'(by omega))=x at hx
    rw [ej]
    simp only [if_pos (WN j),if_pos e1,Wt,hx,Xt,aE,eS,aD,aM,aC,ak]
    by_cases hz:j+1+st.length - pops.length=0
    ·have w1:IntKind.i64.wrap (((j+1+st.length - pops.length:Nat):Int) - 1)= -1:=by rw [hz];decide
     rw [w1,if_pos (by omega)]
     exact aq (.exit 0 [eL pops,eL st,.str push,.int .i64 ((j+1+st.length - pops.length:Nat):Int),eT t,Si,P,F,f,Q,A,S]) (by simp [eL,eT]) (.inl ⟨_,_,rfl,.inl ⟨by omega,fun hp=>by have:=hp.1;omega,_,rfl⟩⟩)
    have w1:IntKind.i64.wrap (((j+1+st.length - pops.length:Nat):Int) - 1)=((j+st.length - pops.length:Nat):Int):=by rw [WJ _ (by omega)];omega
    have e2: ¬((j+st.length - pops.length:Nat):Int)<0:=by omega
    have e3:((j+st.length - pops.length:Nat):Int)<((j+1+st.length - pops.length:Nat):Int):=by omega
    have e4:((j+st.length - pops.length:Nat):Int)<st.length:=by omega
    have e5:((j+st.length - pops.length:Nat):Int)≤((j+1+st.length - pops.length:Nat):Int):=by omega
    simp only [w1,if_neg e2,if_pos (WN _),if_pos e3,if_pos e4,if_pos e5]
    have hy:st[j+st.length - pops.length]? =some (st[j+st.length - pops.length]'(by omega)):=Wj _
    generalize (st[j+st.length - pops.length]'(by omega))=y at hy
    have fin:(x=[42]∨dL t y x=true)→∀k x y,j≤k→pops[k]? =some x→st[k+st.length - pops.length]? =some y→x=[42]∨dL t y x=true:=fun h k x' y' hk hx' hy'=>by
     by_cases hkj:k=j
     ·subst hkj
      rw [hx] at hx';rw [hy] at hy'
      rw [←VF hx',←VF hy'];exact h
     ·exact hI k x' y' (by omega) hx' hy'
    by_cases hx42:x=[42]
    ·rw [if_pos hx42]
     exact aq (.next [.int .i64 ((j:Int) - 1),Q,S,A,eT t,Si,P,F,f,.int .i64 ((j+st.length - pops.length:Nat):Int),eL pops,.str push,eL st]) (by simp [eL,eT,w0,w1]) (.inr ⟨j,rfl,⟨by omega,by omega,fin (.inl hx42)⟩,by omega,fun i os h=>h⟩)
    rw [if_neg hx42]
    refine ai rfl (oX t y x) (by simp [hx,hy,w1,eT,eL,eS]) (by simp) (by simp) (by simp) ?_
    simp only [aI,aR,WB,Xl,XZ,ah,bh,aL,ae,ag,aw,ZD,aA,aB,aX,bc,aV,aT,aJ,aM,aP,ba,aU,aE,Wt,VV,Xt,aD,aH,eS,eT,eL,aZ,eF,aC,ak,w1,if_pos e5]
    cases hs:dL t y x
    ·simp only [ZN,Zy,a9,aQ]
     exact aq (.exit 1 [eL pops,eL st,.str push,.int .i64 ((j+1+st.length - pops.length:Nat):Int),eT t,Si,P,F,f,Q,A,S]) (by simp [eL,eT]) (.inl ⟨_,_,rfl,.inl ⟨by omega,fun hp=>(hp.2 j x y hx hy).elim hx42 (fun h=>by rw [hs] at h;cases h),_,rfl⟩⟩)
    ·simp only [ZN,Zy,a9,aQ]
     exact aq (.next [.int .i64 ((j:Int) - 1),Q,S,A,eT t,Si,P,F,f,.int .i64 ((j+st.length - pops.length:Nat):Int),eL pops,.str push,eL st]) (by simp [eL,eT,w0,w1]) (.inr ⟨j,rfl,⟨by omega,by omega,fin (.inr hs)⟩,by omega,fun i os h=>h⟩)⟩) pops.length ⟨by omega,by omega,fun k x y hk hx=>by have:=(List.getElem?_eq_some_iff.1 hx).1;omega⟩
 have e:pops.length+st.length - pops.length=st.length:=by omega
 simp only [e] at h
 exact h
end
end
section
open Go
abbrev oZ:=Bool×List bn
def nn (s:oZ):List D:=[.bool s.1,eL s.2]
def ck (S:List oZ):D:=.aF (S.map nn)
abbrev Ah:=List (Nat×List bn)
def L1 (p:Nat×List bn):List D:=[.int .i64 (p.1:Int),eL p.2]
def eA (A:Ah):D:=.aF (A.map L1)
def eK (k:List In):D:=.aF (k.map In.e)
def eD (A:Ah) (q:Nat):Option (List bn):=(A.find? fun p=>p.1==q).map (·.2)
def wi (q:Nat) (w:List bn):Ah→Ah
 |[]=>[(q,w)]
 |p::A=>bif p.1==q then (q,w)::A else p::wi q w A
def cZ (q:Nat):Ah→Ah
 |[]=>[]
 |p::A=>bif p.1==q then A else p::cZ q A
theorem FV (q:Nat) (p:Nat×List bn):bC (.int .i64 (q:Int)) (L1 p)=(p.1==q):=by
 unfold L1 bC jb
 simp only [decide_true,Bool.true_and]
 by_cases h:p.1=q
 ·simp [h]
 ·have h': ¬(q:Int)=(p.1:Int):=by omega
  rw [beq_eq_false_iff_ne.2 h,beq_eq_false_iff_ne.2 h']
theorem Lt (q:Nat): ∀A:Ah,(A.map L1).any (bC (.int .i64 (q:Int)))=(eD A q).isSome
 |[]=>rfl
 |p::A=>by
  have ih:=Lt q A
  unfold eD at ih⊢
  simp only [VT,List.any_cons,FV,ZS]
  cases p.1==q with
  |true=>rfl
  |false=>simpa using ih
theorem Eu (q:Nat): ∀A:Ah,(A.map L1).find? (bC (.int .i64 (q:Int)))=(eD A q).map fun w=>[.int .i64 (q:Int),eL w]
 |[]=>rfl
 |p::A=>by
  have ih:=Eu q A
  unfold eD at ih⊢
  simp only [VT,ZS,FV]
  cases h:p.1==q with
  |true=>rw [←beq_iff_eq.1 h];rfl
  |false=>simpa using ih
theorem Lu (q:Nat) (w:List bn): ∀A:Ah,iM (.int .i64 (q:Int)) [eL w] (A.map L1)=(wi q w A).map L1
 |[]=>rfl
 |p::A=>by
  simp only [VT,iM,FV,wi,Lu q w A]
  cases p.1==q<;>rfl
theorem OZ (q:Nat): ∀A:Ah,lJ (.int .i64 (q:Int)) (A.map L1)=(cZ q A).map L1
 |[]=>rfl
 |p::A=>by
  simp only [VT,lJ,FV,cZ,OZ q A]
  cases p.1==q<;>rfl
theorem Ck (q q':Nat) (w:List bn): ∀A:Ah,eD (wi q w A) q'=if q'=q then some w else eD A q'
 |[]=>by
  unfold wi eD
  by_cases h:q'=q
  ·simp [h]
  ·have h': ¬q=q':=fun e=>h e.symm
   simp [h,h']
 |p::A=>by
  have ih:=Ck q q' w A
  unfold eD at ih⊢
  unfold wi
  by_cases hp:p.1=q
  ·rw [hp,beq_self_eq_true,cond_true]
   by_cases h:q'=q
   ·simp [h]
   ·have h': ¬q=q':=fun e=>h e.symm
    have h2: ¬p.1=q':=by omega
    simp [h,h',h2]
  ·rw [beq_eq_false_iff_ne.2 hp,cond_false]
   by_cases h:p.1=q'
   ·have h2: ¬q'=q:=by omega
    simp [h,h2]
   ·simp only [ZS,beq_eq_false_iff_ne.2 h]
    exact ih
theorem Cm (q q':Nat) (h:q'≠q): ∀A:Ah,eD (cZ q A) q'=eD A q'
 |[]=>rfl
 |p::A=>by
  have ih:=Cm q q' h A
  unfold eD at ih⊢
  unfold cZ
  by_cases hp:p.1=q
  ·have h2: ¬p.1=q':=by omega
   rw [beq_iff_eq.2 hp,cond_true,ZS,beq_eq_false_iff_ne.2 h2]
  ·rw [beq_eq_false_iff_ne.2 hp,cond_false]
   by_cases h2:p.1=q'
   ·simp [h2]
   ·simp only [ZS,beq_eq_false_iff_ne.2 h2]
    exact ih
def O0 (t:List Cl) (n k:Nat) (A:Ah):Prop:=∀q w,k≤q→eD A q=some w→q<n∧w.length≤1000∧∀s∈w,typed t s=true
theorem Ht {t:List Cl} (hw:km t=0) {a b:List bn} (h:qt t a b): ∀s∈b,typed t s=true:=by
 intro s hs
 obtain ⟨i,hi,rfl⟩:=List.mem_iff_getElem.1 hs
 have hi':i<a.length:=by rw [h.1];exact hi
 exact ((lD hw).1 (h.2 i _ _ (Wj hi') (Wj hi))).2.1
theorem sw {t:List Cl} {st pops:List bn} {push:bn} (h: ∀s∈st,typed t s=true) (hp:push=[]∨typed t push=true): ∀s∈after st pops push,typed t s=true:=by
 intro s hs
 unfold after at hs
 rcases List.mem_append.1 hs with hs |hs
 ·exact h s (List.mem_of_mem_take hs)
 ·split at hs
  ·cases hs
  ·rw [List.mem_singleton.1 hs];exact hp.resolve_left ‹_›
def TO (m:Mo) (f:Nat) (g:Fu) (T:In→List bn×bn×Int):Prop:=∀x∈g.k,xZ m g x.o x.a (T x).1 (T x).2.1 (T x).2.2∧Ok 39 [.agg m.e,.c (.int .i64 (f:Int)),.agg x.e] (nE (T x).1 (T x).2.1 (T x).2.2)
theorem TO.told {m:Mo} (hm:Ep m) {f:Nat} {g:Fu} (hg:m.f[f]? =some g):TO m f g (told m f):=fun x _=>⟨Q9 hm hg x,Ra hm (List.getElem?_eq_some_iff.1 hg).1 x⟩
def wj (t:List Cl) (r:List bn×bn×Int) (st:List bn):Prop:=r.2.2=0∧oY t st r.1∧(after st r.1 r.2.1).length≤1000
theorem Rb {m:Mo} (hm:Ep m) {f:Nat} {g:Fu} (hg:m.f[f]? =some g) {T:In→List bn×bn×Int} (hTO:TO m f g T) (Q S A:D) (p:Nat) (x:In) (hx:g.k[p]? =some x) (st:List bn) (hst:st.length≤1000):
 ∃j os,((j=0∧(T x).2.2=0∧oY m.t st (T x).1∧(after st (T x).1 (T x).2.1).length≤1000∧os=[eL (after st (T x).1 (T x).2.1),eT m.t,aZ m.s,eL m.p,eF m.f,.int .i64 (f:Int),Q,A,S])
  ∨(j=1∧(T x).2.2=0∧oY m.t st (T x).1∧(T x).2.1=[]∧os=[.int .i64 ((st.length - (T x).1.length:Nat):Int),eT m.t,aZ m.s,eL m.p,eF m.f,.int .i64 (f:Int),Q,A,S,eL st])
  ∨(j=2∧¬wj m.t (T x) st∧∃e:Int,e≠0∧os=[.int .i64 e,eT m.t,aZ m.s,eL m.p,eF m.f,.int .i64 (f:Int),Q,A,S]))∧
  Is UR [.int .i64 (p:Int),eL st,Q,S,A,eT m.t,aZ m.s,eL m.p,eF m.f,.int .i64 (f:Int)] j os:=by
 obtain ⟨hf,hgf⟩:=List.getElem?_eq_some_iff.1 hg
 obtain ⟨hq,hT⟩:=hTO x (Zm hx)
 generalize T x=r at hT hq
 obtain ⟨pops,push,e⟩:=r
 obtain ⟨q1,q2,_⟩:=hq
 simp only at q1 q2 hT⊢
 refine HB Tf rfl ?_
 have hkl:=(hm.f g (Zm hg)).k
 have hp:=(List.getElem?_eq_some_iff.1 hx).1
 have e1:(f:Int)<m.f.length:=by omega
 have e2:(p:Int)<g.k.length:=by omega
 unfold OP
 simp only [aI,aR,WB,Xl,XZ,ah,bh,aL,ae,ag,aw,ZD,aA,aB,aX,bc,aV,aT,aJ,aM,aP,ba,aU,aE,Wt,VV,Xt,aD,aH,eS,eT,eL,aZ,eF,aC,ak,Fu.e,hg,if_pos e1,if_pos e2,if_pos (WN _)]
 refine ai rfl hT (by simp [Mo.e,eT,aZ,eL,eF,In.e,Fu.e,hg,hx]) (by simp) (by simp) (by simp) ?_
 simp only [aI,aR,WB,Xl,XZ,ah,bh,aL,ae,ag,aw,ZD,aA,aB,aX,bc,aV,aT,aJ,aM,aP,ba,aU,aE,Wt,VV,Xt,aD,aH,eS,eT,eL,aZ,eF,aC,ak]
 by_cases he:e=0
 case neg=>
  rw [if_neg he]
  exact aq (.exit 2 [.int .i64 e,eT m.t,aZ m.s,eL m.p,eF m.f,.int .i64 (f:Int),Q,A,S]) (by simp [eT,aZ,eL,eF]) ⟨_,_,rfl,.inr (.inr ⟨rfl,fun h=>he h.1,e,he,rfl⟩)⟩
 rw [if_pos he]
 refine ar rfl (FQ st hst) (by simp [eL]) ?_
 simp only [al,V8,ZL,true_and]
 have w1:IntKind.i64.wrap ((pops.length:Int) - 1)=(pops.length:Int) - 1:=WJ _ (by omega)
 obtain ⟨j,os,hj,hL⟩:=NH m.t Q S A (aZ m.s) (eL m.p) (eF m.f) (.int .i64 (f:Int)) st pops push hst q1
 refine ar rfl hL (by simp [eT,aZ,eL,eF,w1]) ?_
 rcases hj with ⟨hj,hnp,n,rfl⟩ |⟨rfl,hpo,rfl⟩
 ·match j,hj with
  |0,_=>simp only [al,V8,ZL,true_and];exact aq (.exit 2 [.int .i64 15,eT m.t,aZ m.s,eL m.p,eF m.f,.int .i64 (f:Int),Q,A,S]) (by simp [eT,aZ,eL,eF]) ⟨_,_,rfl,.inr (.inr ⟨rfl,fun h=>hnp h.2.1,15,by omega,rfl⟩)⟩
  |1,_=>simp only [ay,al,V8,ZL,true_and];exact aq (.exit 2 [.int .i64 7,eT m.t,aZ m.s,eL m.p,eF m.f,.int .i64 (f:Int),Q,A,S]) (by simp [eT,aZ,eL,eF]) ⟨_,_,rfl,.inr (.inr ⟨rfl,fun h=>hnp h.2.1,7,by omega,rfl⟩)⟩
 simp only [ay,al,V8,ZL,true_and]
 have hpl:=hpo.1
 have e3:((st.length - pops.length:Nat):Int)≤100000000:=by omega
 have e4:((st.length - pops.length:Nat):Int)≤st.length:=by omega
 simp only [aI,aR,WB,Xl,XZ,ah,bh,aL,ae,ag,aw,ZD,aA,aB,aX,bc,aV,aT,aJ,aM,aP,ba,aU,aE,Wt,VV,Xt,aD,aH,eS,eT,eL,aZ,eF,aC,ak,if_pos e3,if_pos e4,sX,Fo]
 by_cases hpu:push=[]
 ·rw [if_pos hpu,if_neg (by omega)]
  exact aq (.exit 1 [.int .i64 ((st.length - pops.length:Nat):Int),eT m.t,aZ m.s,eL m.p,eF m.f,.int .i64 (f:Int),Q,A,S,eL st]) (by simp [eT,aZ,eL,eF]) ⟨_,_,rfl,.inr (.inl ⟨rfl,he,hpo,hpu,rfl⟩)⟩
 rw [if_neg hpu]
 have ea:after st pops push=st.take (st.length - pops.length)++[push]:=by unfold after;rw [if_neg hpu]
 refine az (fun hgt=>?_) (fun hle=>?_)
 ·exact aq (.exit 2 [.int .i64 15,eT m.t,aZ m.s,eL m.p,eF m.f,.int .i64 (f:Int),Q,A,S]) (by simp [eT,aZ,eL,eF]) ⟨_,_,rfl,.inr (.inr ⟨rfl,fun h=>by have h3:=h.2.2;simp only [ea] at h3;simp at h3 hgt;omega,15,by omega,rfl⟩)⟩
 ·refine aq (.exit 0 [eL (after st pops push),eT m.t,aZ m.s,eL m.p,eF m.f,.int .i64 (f:Int),Q,A,S]) (by simp [eT,aZ,eL,eF,ea,eS,ZT]) ⟨_,_,rfl,.inl ⟨rfl,he,hpo,?_,rfl⟩⟩
  simp at hle
  rw [ea];simp;omega
open Classical in
noncomputable def e9 (t:List Cl) (n p q:Nat) (st:List bn) (S:List oZ) (A:Ah):Option Ah:=
 if n≤q then none else if q≤p then (match S[q]? with
  |some (true,w)=>if qt t st w then some A else none
  |_=>none) else match eD A q with
  |none=>some (wi q st A)
  |some w=>(jn t w st).map fun o=>wi q o A
theorem mO {m:Mo} (hm:Ep m) {f:Nat} {g:Fu} (hg:m.f[f]? =some g) (p q:Nat) (st:List bn) (hst:st.length≤1000) (hty: ∀s∈st,typed m.t s=true) (S:List oZ) (hS:S.length=g.k.length) (A:Ah) (hA:O0 m.t g.k.length (p+1) A):
 ∃j os,((j=0∨j=1∨j=3)∧e9 m.t g.k.length p q st S A=none∧os=[eT m.t,aZ m.s,eL m.p,eF m.f,.int .i64 (f:Int),eK g.k,eA A,ck S]∨j=2∧∃A',e9 m.t g.k.length p q st S A=some A'∧O0 m.t g.k.length (p+1) A'∧os=[eT m.t,aZ m.s,eL m.p,eF m.f,.int .i64 (f:Int),eK g.k,eA A',ck S])∧
  Is US [.int .i64 (p:Int),.int .i64 (q:Int),eL st,eK g.k,ck S,eA A,eT m.t,aZ m.s,eL m.p,eF m.f,.int .i64 (f:Int)] j os:=by
 have hw:=hm.t
 obtain ⟨hf,hgf⟩:=List.getElem?_eq_some_iff.1 hg
 refine HB Tg rfl ?_
 have e1:(f:Int)<m.f.length:=by omega
 unfold OQ
 simp only [aI,aR,WB,Xl,XZ,ah,bh,aL,ae,ag,aw,ZD,aA,aB,aX,bc,aV,aT,aJ,aM,aP,ba,aU,aE,Wt,VV,Xt,aD,aH,eS,eT,eL,aZ,eF,aC,ak,eK,ck,eA,Fu.e,hg,if_pos e1,if_pos (WN _)]
 by_cases hqn:((g.k.length:Nat):Int)≤q
 ·rw [if_pos hqn]
  exact aq (.exit 0 [eT m.t,aZ m.s,eL m.p,eF m.f,.int .i64 (f:Int),eK g.k,eA A,ck S]) (by simp [eT,aZ,eL,eF,eK,eA,ck]) ⟨_,_,rfl,.inl ⟨.inl rfl,by rw [e9,if_pos (by omega)],rfl⟩⟩
 rw [if_neg hqn]
 have e2:(q:Int)<g.k.length:=by omega
 have n1: ¬g.k.length≤q:=by omega
 by_cases hqp:(q:Int)≤p
 ·have n2:q≤p:=by omega
  rw [if_pos hqp,if_pos e2]
  have hs:S[q]? =some (S[q]'(by omega)):=Wj _
  generalize (S[q]'(by omega))=s at hs
  obtain ⟨b,w⟩:=s
  simp only [hs,Xt,nn,aE,aD,aP,aC]
  cases b
  ·simp only [aQ]
   exact aq (.exit 0 [eT m.t,aZ m.s,eL m.p,eF m.f,.int .i64 (f:Int),eK g.k,eA A,ck S]) (by simp [eT,aZ,eL,eF,eK,eA,ck,nn]) ⟨_,_,rfl,.inl ⟨.inl rfl,by rw [e9,if_neg n1,if_pos n2,hs],rfl⟩⟩
  simp only [a9]
  obtain ⟨j,os,hj,hC⟩:=NG m.t (eK g.k) (ck S) (eA A) (aZ m.s) (eL m.p) (eF m.f) (.int .i64 (f:Int)) st w hst
  refine ar rfl hC (by simp [eT,aZ,eL,eF,eK,eA,ck,nn,hs]) ?_
  rcases hj with ⟨⟨rfl,hF⟩ |⟨rfl,hF⟩,o,rfl⟩ |⟨rfl,hF,rfl⟩
  ·simp only [al,V8,ZL,true_and]
   exact aq (.exit 1 [eT m.t,aZ m.s,eL m.p,eF m.f,.int .i64 (f:Int),eK g.k,eA A,ck S]) (by simp) ⟨_,_,rfl,.inl ⟨.inr (.inl rfl),by rw [e9,if_neg n1,if_pos n2,hs];exact if_neg hF,rfl⟩⟩
  ·simp only [ay,al,V8,ZL,true_and]
   exact aq (.exit 2 [eT m.t,aZ m.s,eL m.p,eF m.f,.int .i64 (f:Int),eK g.k,eA A,ck S]) (by simp) ⟨_,_,rfl,.inr ⟨rfl,A,by rw [e9,if_neg n1,if_pos n2,hs];exact if_pos hF,hA,rfl⟩⟩
  ·simp only [ay,al,V8,ZL,true_and]
   exact aq (.exit 3 [eT m.t,aZ m.s,eL m.p,eF m.f,.int .i64 (f:Int),eK g.k,eA A,ck S]) (by simp) ⟨_,_,rfl,.inl ⟨.inr (.inr rfl),by rw [e9,if_neg n1,if_pos n2,hs];exact if_neg hF,rfl⟩⟩
 rw [if_neg hqp]
 have hpq:p<q:=by omega
 have n2: ¬q≤p:=by omega
 have put: ∀o:List bn,qt m.t st o→O0 m.t g.k.length (p+1) (wi q o A):=fun o h1 q' w' h3 h4=>by
  rw [Ck] at h4
  by_cases hq:q'=q
  ·subst hq
   rw [if_pos rfl] at h4
   rw [←VF h4]
   exact ⟨by omega,by rw [←h1.1];exact hst,Ht hw h1⟩
  ·rw [if_neg hq] at h4;exact hA q' w' h3 h4
 simp only [sY,Lt]
 cases hl:eD A q with
 |none=>
  simp only [XA,aQ]
  refine ar rfl (FQ st hst) (by simp [eL]) ?_
  simp only [al,V8,ZL,true_and]
  exact aq (.exit 2 [eT m.t,aZ m.s,eL m.p,eF m.f,.int .i64 (f:Int),eK g.k,eA (wi q st A),ck S]) (by simp [eT,aZ,eF,eK,eA,ck,Lu];simp [eL]) ⟨_,_,rfl,.inr ⟨rfl,_,by rw [e9,if_neg n1,if_neg n2,hl],put st (Lp hw hty),rfl⟩⟩
 |some w=>
  simp only [Zx,a9]
  obtain ⟨j,os,hj,hC⟩:=Ls m.t (eK g.k) (ck S) (eA A) (aZ m.s) (eL m.p) (eF m.f) (.int .i64 (f:Int)) w st hst
  refine ar rfl hC (by simp [-ZU,eT,aZ,eF,eK,eA,ck,Eu,hl];simp [eL]) ?_
  rcases hj with ⟨o,⟨rfl,hF⟩ |⟨rfl,hF,hJ⟩,rfl⟩ |⟨rfl,hF,rfl⟩
  ·simp only [al,V8,ZL,true_and]
   exact aq (.exit 1 [eT m.t,aZ m.s,eL m.p,eF m.f,.int .i64 (f:Int),eK g.k,eA A,ck S]) (by simp) ⟨_,_,rfl,.inl ⟨.inr (.inl rfl),by rw [e9,if_neg n1,if_neg n2,hl];simp only [hF,ZV],rfl⟩⟩
  ·simp only [ay,al,V8,ZL,true_and]
   exact aq (.exit 2 [eT m.t,aZ m.s,eL m.p,eF m.f,.int .i64 (f:Int),eK g.k,eA (wi q o A),ck S]) (by simp [eA,Lu]) ⟨_,_,rfl,.inr ⟨rfl,_,by rw [e9,if_neg n1,if_neg n2,hl];simp only [hJ,Xt],put o hF,rfl⟩⟩
  ·simp only [ay,al,V8,ZL,true_and]
   exact aq (.exit 3 [eT m.t,aZ m.s,eL m.p,eF m.f,.int .i64 (f:Int),eK g.k,eA A,ck S]) (by simp) ⟨_,_,rfl,.inl ⟨.inr (.inr rfl),by rw [e9,if_neg n1,if_neg n2,hl];simp only [hF,ZV],rfl⟩⟩
end
section
open Go
def targets (x:In) (p:Nat):List Nat:=if x.o=28 then [] else if x.o=11 then [x.a.toNat] else if x.o=12 then [p+1,x.a.toNat] else [p+1]
noncomputable def cm (t:List Cl) (n p:Nat) (st:List bn) (S:List oZ):List Nat→Ah→Option Ah
 |[],A=>some A
 |q::qs,A=>(e9 t n p q st S A).bind (cm t n p st S qs)
open Classical in
noncomputable def dI (t:List Cl) (T:In→List bn×bn×Int) (n p:Nat) (x:In) (S:List oZ) (A:Ah):Option (List oZ×Ah):=
 match eD A p with
 |none=>some (S,A)
 |some st=>if wj t (T x) st∧(x.o=28→after st (T x).1 (T x).2.1=[]) then (cm t n p (after st (T x).1 (T x).2.1) (S.set p (true,st)) (targets x p) (cZ p A)).map fun A'=>(S.set p (true,st),A') else none
theorem NI (S:List oZ) (p:Nat) (st:List bn):(S.map nn).modify p (fun row=>row.take 0++[.bool true,eL st]++row.drop (0+2))=(S.set p (true,st)).map nn:=by
 apply List.ext_getElem?
 intro i
 simp only [List.getElem?_modify,VV,List.getElem?_set]
 by_cases h:p=i
 ·subst h
  cases hs:S[p]? with
  |none=>
   have:=List.getElem?_eq_none_iff.1 hs
   simp [hs]
   omega
  |some s=>
   have:=(List.getElem?_eq_some_iff.1 hs).1
   simp [hs,nn,this]
 ·simp [h]
theorem Lv (S:List oZ) (p:Nat) (st:List bn):((S.map nn).modify p fun row=>D.bool true::eL st::row.drop 2)=(S.map nn).set p (nn (true,st)):=by
 have h:=NI S p st
 rw [List.map_set] at h
 exact h
abbrev FW (os:List D):Prop:=∃a b c d e f g h:D,os=[a,b,c,d,e,f,g,h]
set_option maxHeartbeats 2000000 in
theorem Rc {m:Mo} (hm:Ep m) {f:Nat} {g:Fu} (hg:m.f[f]? =some g) {T:In→List bn×bn×Int} (hTO:TO m f g T) (p:Nat) (x:In) (hx:g.k[p]? =some x) (S:List oZ) (hS:S.length=g.k.length) (A:Ah) (hA:O0 m.t g.k.length p A):
 ∃j os,((j=1∧∃S' A',dI m.t T g.k.length p x S A=some (S',A')∧S'.length=g.k.length∧O0 m.t g.k.length (p+1) A'∧os=[eT m.t,aZ m.s,eL m.p,eF m.f,.int .i64 (f:Int),eK g.k,eA A',ck S'])
  ∨((j=0∨j=2∨j=3)∧dI m.t T g.k.length p x S A=none∧FW os)∨(j=4∧dI m.t T g.k.length p x S A=none∧∃e:Int,e≠0∧∃o8,FW o8∧os= .int .i64 e::o8))∧
  Is UT [.int .i64 (p:Int),eK g.k,ck S,eA A,eT m.t,aZ m.s,eL m.p,eF m.f,.int .i64 (f:Int)] j os:=by
 obtain ⟨hf,hgf⟩:=List.getElem?_eq_some_iff.1 hg
 have ef:(f:Int)<m.f.length:=by omega
 have hp:=(List.getElem?_eq_some_iff.1 hx).1
 have ep:(p:Int)<g.k.length:=by omega
 have hkl:=(hm.f g (Zm hg)).k
 have wp1:IntKind.i64.wrap ((p:Int)+1)=((p+1:Nat):Int):=bj hp (by omega)
 have hA0:O0 m.t g.k.length (p+1) (cZ p A):=fun q w h1 h2=>by
  rw [Cm p q (by omega)] at h2
  exact hA q w (by omega) h2
 obtain ⟨hq,_⟩:=hTO x (Zm hx)
 refine HB Th rfl ?_
 unfold OR
 simp only [aI,aR,WB,Xl,XZ,ah,bh,aL,ae,ag,aw,ZD,aA,aB,aX,bc,aV,aT,aJ,aM,aP,ba,aU,aE,Wt,VV,Xt,aD,aH,eS,eT,eL,aZ,eF,aC,ak,eA,sY,Lt]
 cases hl:eD A p with
 |none=>
  simp only [XA,aQ]
  exact aq (.exit 1 [eT m.t,aZ m.s,eL m.p,eF m.f,.int .i64 (f:Int),eK g.k,eA A,ck S]) (by simp [eT,aZ,eL,eF,eK,eA]) ⟨_,_,rfl,.inl ⟨rfl,S,A,by rw [dI,hl],hS,fun q w h1 h2=>hA q w (by omega) h2,rfl⟩⟩
 |some st=>
 obtain ⟨_,hst,hty⟩:=hA p st (by omega) hl
 simp only [Zx,a9,eK,aw,ZD,aA,aB,ak,if_pos ep,if_pos (WN _)]
 obtain ⟨j,os,hj,hC⟩:=Rb hm hg hTO (eK g.k) (ck (S.set p (true,st))) (eA (cZ p A)) p x hx st hst
 generalize hr:T x=r at hq hj
 obtain ⟨pops,push,e⟩:=r
 obtain ⟨hpl,hpt,hjmp⟩:=hq
 simp only at hpl hpt hjmp hj
 refine ar rfl hC (by simp [-ZU,Eu,hl,eT,aZ,eF,eK,eA,ck,OZ];rw [←Lv];exact ⟨rfl,rfl⟩) ?_
 rcases hj with ⟨rfl,he,hpo,haf,rfl⟩ |⟨rfl,he,hpo,hpu,rfl⟩ |⟨rfl,hns,e',he',rfl⟩
 case inr.inr=>
  simp only [ay,al,V8,ZL,true_and]
  simp only [aI,aR,WB,Xl,XZ,ah,bh,aL,ae,ag,aw,ZD,aA,aB,aX,bc,aV,aT,aJ,aM,aP,ba,aU,aE,Wt,VV,Xt,aD,aH,eS,eT,eL,aZ,eF,aC,ak,if_neg he']
  exact aq (.exit 4 [.int .i64 e',eT m.t,aZ m.s,eL m.p,eF m.f,.int .i64 (f:Int),eK g.k,eA (cZ p A),ck (S.set p (true,st))]) (by simp [eT,aZ,eL,eF,eK,eA,ck]) ⟨_,_,rfl,.inr (.inr ⟨rfl,by rw [dI,hl];exact if_neg fun h=>hns (hr▸h.1),e',he',_,⟨_,_,_,_,_,_,_,_,rfl⟩,rfl⟩)⟩
 ·have haft:=sw (pops:=pops) (push:=push) hty (hpt he)
  generalize hafd:after st pops push=af at haf haft
  simp only [ay,al,V8,ZL,true_and]
  have afe:True:=trivial
  simp only [aI,aR,WB,Xl,XZ,ah,bh,aL,ae,ag,aw,ZD,aA,aB,aX,bc,aV,aT,aJ,aM,aP,ba,aU,aE,Wt,VV,Xt,aD,aH,eS,eT,eL,aZ,eF,aC,ak,Fu.e,hg,hx,In.e,if_pos ef,if_pos ep,if_pos (WN _),sX,Int.toNat_zero,ZW]
  have hso:wj m.t (T x) st:=by rw [hr];refine ⟨he,hpo,?_⟩;simp only [hafd];exact haf
  have e1:after st (T x).1 (T x).2.1=af:=by rw [hr];exact hafd
  have htn:(x.o=28→af=[])→dI m.t T g.k.length p x S A=(cm m.t g.k.length p af (S.set p (true,st)) (targets x p) (cZ p A)).map fun A'=>(S.set p (true,st),A'):=fun h=>by
   rw [dI,hl];dsimp only;rw [if_pos ⟨hso,fun h'=>e1.trans (h h')⟩,e1]
  have hSl:(S.set p (true,st)).length=g.k.length:=by simp [hS]
  have dn: ∀qs,targets x p=qs→(x.o=28→af=[])→cm m.t g.k.length p af (S.set p (true,st)) qs (cZ p A)=none→dI m.t T g.k.length p x S A=none:=fun qs h1 h2 h3=>by rw [htn h2,h1,h3];rfl
  have dy: ∀qs A',targets x p=qs→(x.o=28→af=[])→cm m.t g.k.length p af (S.set p (true,st)) qs (cZ p A)=some A'→dI m.t T g.k.length p x S A=some (S.set p (true,st),A'):=fun qs A' h1 h2 h3=>by rw [htn h2,h1,h3];rfl
  by_cases h28:x.o=28
  ·rw [if_pos h28]
   refine az (fun hgt=>?_) (fun h0=>?_)
   ·exact aq (.exit 0 [eT m.t,aZ m.s,eL m.p,eF m.f,.int .i64 (f:Int),eK g.k,eA (cZ p A),ck (S.set p (true,st))]) (by simp [eT,aZ,eL,eF,eK,eA,ck]) ⟨_,_,rfl,.inr (.inl ⟨by omega,by rw [dI,hl];exact if_neg (fun h=>by have h':=h.2 h28;rw [hr] at h';simp only at h';rw [hafd] at h';rw [h'] at hgt;simp at hgt),_,_,_,_,_,_,_,_,rfl⟩)⟩
   ·refine aq (.exit 1 [eT m.t,aZ m.s,eL m.p,eF m.f,.int .i64 (f:Int),eK g.k,eA (cZ p A),ck (S.set p (true,st))]) (by simp [eT,aZ,eL,eF,eK,eA,ck]) ⟨_,_,rfl,.inl ⟨rfl,_,_,dy [] (cZ p A) (by simp [targets,h28]) (fun _=>Wk (by simp at h0;simp [h0])) rfl,hSl,hA0,rfl⟩⟩
  rw [if_neg h28]
  by_cases h11:x.o=11
  ·rw [if_pos h11]
   obtain ⟨a,ha1⟩:=Ws (hjmp he (.inl h11)).1
   obtain ⟨j1,os,hj,hC⟩:=mO hm hg p a af haf haft (S.set p (true,st)) (by simp [hS]) (cZ p A) hA0
   refine ar rfl hC (by simp [eT,aZ,eF,eK,eA,ck,Fu.e,In.e,hg,hx,wp1,ha1];try simp [eL,←ZT,afe]) ?_
   rcases hj with ⟨rfl |rfl |rfl,hN,rfl⟩ |⟨rfl,A1,hD1,hR1,rfl⟩
   ·simp only [ay,al,V8,ZL,true_and]
    exact aq (.exit 2 [eT m.t,aZ m.s,eL m.p,eF m.f,.int .i64 (f:Int),eK g.k,eA (cZ p A),ck (S.set p (true,st))]) (by simp) ⟨_,_,rfl,.inr (.inl ⟨by omega,dn [a] (by simp [targets,h11,ha1]) (fun h=>absurd h h28) (by simp [cm,hN]),_,_,_,_,_,_,_,_,rfl⟩)⟩
   ·simp only [ay,al,V8,ZL,true_and]
    exact aq (.exit 3 [eT m.t,aZ m.s,eL m.p,eF m.f,.int .i64 (f:Int),eK g.k,eA (cZ p A),ck (S.set p (true,st))]) (by simp) ⟨_,_,rfl,.inr (.inl ⟨by omega,dn [a] (by simp [targets,h11,ha1]) (fun h=>absurd h h28) (by simp [cm,hN]),_,_,_,_,_,_,_,_,rfl⟩)⟩
   ·simp only [ay,al,V8,ZL,true_and]
    exact aq (.exit 0 [eT m.t,aZ m.s,eL m.p,eF m.f,.int .i64 (f:Int),eK g.k,eA (cZ p A),ck (S.set p (true,st))]) (by simp) ⟨_,_,rfl,.inr (.inl ⟨by omega,dn [a] (by simp [targets,h11,ha1]) (fun h=>absurd h h28) (by simp [cm,hN]),_,_,_,_,_,_,_,_,rfl⟩)⟩
   simp only [ay,al,V8,ZL,true_and]
   refine aq (.exit 1 [eT m.t,aZ m.s,eL m.p,eF m.f,.int .i64 (f:Int),eK g.k,eA A1,ck (S.set p (true,st))]) (by simp) ⟨_,_,rfl,.inl ⟨rfl,_,_,dy [a] A1 (by simp [targets,h11,ha1]) (fun h=>absurd h h28) (by simp [cm,hD1]),hSl,hR1,rfl⟩⟩
  rw [if_neg h11]
  by_cases h12:x.o=12
  ·rw [if_pos h12]
   obtain ⟨a,ha2⟩:=Ws (hjmp he (.inr h12)).1
   have ha1:=wp1
   obtain ⟨j1,os,hj,hC⟩:=mO hm hg p (p+1) af haf haft (S.set p (true,st)) (by simp [hS]) (cZ p A) hA0
   refine ar rfl hC (by simp [eT,aZ,eF,eK,eA,ck,Fu.e,In.e,hg,hx,wp1,ha1];try simp [eL,←ZT,afe]) ?_
   rcases hj with ⟨rfl |rfl |rfl,hN,rfl⟩ |⟨rfl,A1,hD1,hR1,rfl⟩
   ·simp only [ay,al,V8,ZL,true_and]
    exact aq (.exit 2 [eT m.t,aZ m.s,eL m.p,eF m.f,.int .i64 (f:Int),eK g.k,eA (cZ p A),ck (S.set p (true,st))]) (by simp) ⟨_,_,rfl,.inr (.inl ⟨by omega,dn [p+1,a] (by simp [targets,h12,ha2]) (fun h=>absurd h h28) (by simp [cm,hN]),_,_,_,_,_,_,_,_,rfl⟩)⟩
   ·simp only [ay,al,V8,ZL,true_and]
    exact aq (.exit 3 [eT m.t,aZ m.s,eL m.p,eF m.f,.int .i64 (f:Int),eK g.k,eA (cZ p A),ck (S.set p (true,st))]) (by simp) ⟨_,_,rfl,.inr (.inl ⟨by omega,dn [p+1,a] (by simp [targets,h12,ha2]) (fun h=>absurd h h28) (by simp [cm,hN]),_,_,_,_,_,_,_,_,rfl⟩)⟩
   ·simp only [ay,al,V8,ZL,true_and]
    exact aq (.exit 0 [eT m.t,aZ m.s,eL m.p,eF m.f,.int .i64 (f:Int),eK g.k,eA (cZ p A),ck (S.set p (true,st))]) (by simp) ⟨_,_,rfl,.inr (.inl ⟨by omega,dn [p+1,a] (by simp [targets,h12,ha2]) (fun h=>absurd h h28) (by simp [cm,hN]),_,_,_,_,_,_,_,_,rfl⟩)⟩
   simp only [ay,al,V8,ZL,true_and]
   obtain ⟨j2,os,hj,hC⟩:=mO hm hg p a af haf haft (S.set p (true,st)) (by simp [hS]) A1 hR1
   refine ar rfl hC (by simp [eT,aZ,eF,eK,eA,ck,Fu.e,In.e,hg,hx,wp1,ha2];try simp [eL,←ZT,afe]) ?_
   rcases hj with ⟨rfl |rfl |rfl,hN,rfl⟩ |⟨rfl,A2,hD2,hR2,rfl⟩
   ·simp only [ay,al,V8,ZL,true_and]
    exact aq (.exit 2 [eT m.t,aZ m.s,eL m.p,eF m.f,.int .i64 (f:Int),eK g.k,eA A1,ck (S.set p (true,st))]) (by simp) ⟨_,_,rfl,.inr (.inl ⟨by omega,dn [p+1,a] (by simp [targets,h12,ha2]) (fun h=>absurd h h28) (by simp [cm,hD1,hN]),_,_,_,_,_,_,_,_,rfl⟩)⟩
   ·simp only [ay,al,V8,ZL,true_and]
    exact aq (.exit 3 [eT m.t,aZ m.s,eL m.p,eF m.f,.int .i64 (f:Int),eK g.k,eA A1,ck (S.set p (true,st))]) (by simp) ⟨_,_,rfl,.inr (.inl ⟨by omega,dn [p+1,a] (by simp [targets,h12,ha2]) (fun h=>absurd h h28) (by simp [cm,hD1,hN]),_,_,_,_,_,_,_,_,rfl⟩)⟩
   ·simp only [ay,al,V8,ZL,true_and]
    exact aq (.exit 0 [eT m.t,aZ m.s,eL m.p,eF m.f,.int .i64 (f:Int),eK g.k,eA A1,ck (S.set p (true,st))]) (by simp) ⟨_,_,rfl,.inr (.inl ⟨by omega,dn [p+1,a] (by simp [targets,h12,ha2]) (fun h=>absurd h h28) (by simp [cm,hD1,hN]),_,_,_,_,_,_,_,_,rfl⟩)⟩
   simp only [ay,al,V8,ZL,true_and]
   refine aq (.exit 1 [eT m.t,aZ m.s,eL m.p,eF m.f,.int .i64 (f:Int),eK g.k,eA A2,ck (S.set p (true,st))]) (by simp) ⟨_,_,rfl,.inl ⟨rfl,_,_,dy [p+1,a] A2 (by simp [targets,h12,ha2]) (fun h=>absurd h h28) (by simp [cm,hD1,hD2]),hSl,hR2,rfl⟩⟩
  rw [if_neg h12]
  have ha1:=wp1
  obtain ⟨j1,os,hj,hC⟩:=mO hm hg p (p+1) af haf haft (S.set p (true,st)) (by simp [hS]) (cZ p A) hA0
  refine ar rfl hC (by simp [eT,aZ,eF,eK,eA,ck,Fu.e,In.e,hg,hx,wp1,ha1];try simp [eL,←ZT,afe]) ?_
  rcases hj with ⟨rfl |rfl |rfl,hN,rfl⟩ |⟨rfl,A1,hD1,hR1,rfl⟩
  ·simp only [ay,al,V8,ZL,true_and]
   exact aq (.exit 2 [eT m.t,aZ m.s,eL m.p,eF m.f,.int .i64 (f:Int),eK g.k,eA (cZ p A),ck (S.set p (true,st))]) (by simp) ⟨_,_,rfl,.inr (.inl ⟨by omega,dn [p+1] (by simp [targets,h28,h11,h12]) (fun h=>absurd h h28) (by simp [cm,hN]),_,_,_,_,_,_,_,_,rfl⟩)⟩
  ·simp only [ay,al,V8,ZL,true_and]
   exact aq (.exit 3 [eT m.t,aZ m.s,eL m.p,eF m.f,.int .i64 (f:Int),eK g.k,eA (cZ p A),ck (S.set p (true,st))]) (by simp) ⟨_,_,rfl,.inr (.inl ⟨by omega,dn [p+1] (by simp [targets,h28,h11,h12]) (fun h=>absurd h h28) (by simp [cm,hN]),_,_,_,_,_,_,_,_,rfl⟩)⟩
  ·simp only [ay,al,V8,ZL,true_and]
   exact aq (.exit 0 [eT m.t,aZ m.s,eL m.p,eF m.f,.int .i64 (f:Int),eK g.k,eA (cZ p A),ck (S.set p (true,st))]) (by simp) ⟨_,_,rfl,.inr (.inl ⟨by omega,dn [p+1] (by simp [targets,h28,h11,h12]) (fun h=>absurd h h28) (by simp [cm,hN]),_,_,_,_,_,_,_,_,rfl⟩)⟩
  simp only [ay,al,V8,ZL,true_and]
  refine aq (.exit 1 [eT m.t,aZ m.s,eL m.p,eF m.f,.int .i64 (f:Int),eK g.k,eA A1,ck (S.set p (true,st))]) (by simp) ⟨_,_,rfl,.inl ⟨rfl,_,_,dy [p+1] A1 (by simp [targets,h28,h11,h12]) (fun h=>absurd h h28) (by simp [cm,hD1]),hSl,hR1,rfl⟩⟩
 ·have haft:=sw (pops:=pops) (push:=push) hty (hpt he)
  have afe:st.take (st.length - pops.length)=after st pops push:=by unfold after;rw [if_pos hpu];simp
  have haf:(after st pops push).length≤1000:=by rw [←afe];simp;omega
  have el:((st.length - pops.length:Nat):Int)≤st.length:=by omega
  generalize hafd:after st pops push=af at haf haft afe
  simp only [ay,al,V8,ZL,true_and]
  simp only [aI,aR,WB,Xl,XZ,ah,bh,aL,ae,ag,aw,ZD,aA,aB,aX,bc,aV,aT,aJ,aM,aP,ba,aU,aE,Wt,VV,Xt,aD,aH,eS,eT,eL,aZ,eF,aC,ak,Fu.e,hg,hx,In.e,if_pos ef,if_pos ep,if_pos (WN _),sX,Int.toNat_zero,ZW,if_pos el]
  have hso:wj m.t (T x) st:=by rw [hr];refine ⟨he,hpo,?_⟩;simp only [hafd];exact haf
  have e1:after st (T x).1 (T x).2.1=af:=by rw [hr];exact hafd
  have htn:(x.o=28→af=[])→dI m.t T g.k.length p x S A=(cm m.t g.k.length p af (S.set p (true,st)) (targets x p) (cZ p A)).map fun A'=>(S.set p (true,st),A'):=fun h=>by
   rw [dI,hl];dsimp only;rw [if_pos ⟨hso,fun h'=>e1.trans (h h')⟩,e1]
  have hSl:(S.set p (true,st)).length=g.k.length:=by simp [hS]
  have dn: ∀qs,targets x p=qs→(x.o=28→af=[])→cm m.t g.k.length p af (S.set p (true,st)) qs (cZ p A)=none→dI m.t T g.k.length p x S A=none:=fun qs h1 h2 h3=>by rw [htn h2,h1,h3];rfl
  have dy: ∀qs A',targets x p=qs→(x.o=28→af=[])→cm m.t g.k.length p af (S.set p (true,st)) qs (cZ p A)=some A'→dI m.t T g.k.length p x S A=some (S.set p (true,st),A'):=fun qs A' h1 h2 h3=>by rw [htn h2,h1,h3];rfl
  by_cases h28:x.o=28
  ·rw [if_pos h28]
   refine az (fun hgt=>?_) (fun h0=>?_)
   ·exact aq (.exit 0 [eT m.t,aZ m.s,eL m.p,eF m.f,.int .i64 (f:Int),eK g.k,eA (cZ p A),ck (S.set p (true,st))]) (by simp [eT,aZ,eL,eF,eK,eA,ck]) ⟨_,_,rfl,.inr (.inl ⟨by omega,by rw [dI,hl];exact if_neg (fun h=>by have h':=h.2 h28;rw [hr] at h';simp only at h';rw [hafd] at h';rw [←afe] at h';have h3:=congrArg List.length h';simp at h3;omega),_,_,_,_,_,_,_,_,rfl⟩)⟩
   ·refine aq (.exit 1 [eT m.t,aZ m.s,eL m.p,eF m.f,.int .i64 (f:Int),eK g.k,eA (cZ p A),ck (S.set p (true,st))]) (by simp [eT,aZ,eL,eF,eK,eA,ck]) ⟨_,_,rfl,.inl ⟨rfl,_,_,dy [] (cZ p A) (by simp [targets,h28]) (fun _=>Wk (by rw [←afe];simp;omega)) rfl,hSl,hA0,rfl⟩⟩
  rw [if_neg h28]
  by_cases h11:x.o=11
  ·rw [if_pos h11]
   obtain ⟨a,ha1⟩:=Ws (hjmp he (.inl h11)).1
   obtain ⟨j1,os,hj,hC⟩:=mO hm hg p a af haf haft (S.set p (true,st)) (by simp [hS]) (cZ p A) hA0
   refine ar rfl hC (by simp [eT,aZ,eF,eK,eA,ck,Fu.e,In.e,hg,hx,wp1,ha1];try simp [eL,←ZT,afe]) ?_
   rcases hj with ⟨rfl |rfl |rfl,hN,rfl⟩ |⟨rfl,A1,hD1,hR1,rfl⟩
   ·simp only [ay,al,V8,ZL,true_and]
    exact aq (.exit 2 [eT m.t,aZ m.s,eL m.p,eF m.f,.int .i64 (f:Int),eK g.k,eA (cZ p A),ck (S.set p (true,st))]) (by simp) ⟨_,_,rfl,.inr (.inl ⟨by omega,dn [a] (by simp [targets,h11,ha1]) (fun h=>absurd h h28) (by simp [cm,hN]),_,_,_,_,_,_,_,_,rfl⟩)⟩
   ·simp only [ay,al,V8,ZL,true_and]
    exact aq (.exit 3 [eT m.t,aZ m.s,eL m.p,eF m.f,.int .i64 (f:Int),eK g.k,eA (cZ p A),ck (S.set p (true,st))]) (by simp) ⟨_,_,rfl,.inr (.inl ⟨by omega,dn [a] (by simp [targets,h11,ha1]) (fun h=>absurd h h28) (by simp [cm,hN]),_,_,_,_,_,_,_,_,rfl⟩)⟩
   ·simp only [ay,al,V8,ZL,true_and]
    exact aq (.exit 0 [eT m.t,aZ m.s,eL m.p,eF m.f,.int .i64 (f:Int),eK g.k,eA (cZ p A),ck (S.set p (true,st))]) (by simp) ⟨_,_,rfl,.inr (.inl ⟨by omega,dn [a] (by simp [targets,h11,ha1]) (fun h=>absurd h h28) (by simp [cm,hN]),_,_,_,_,_,_,_,_,rfl⟩)⟩
   simp only [ay,al,V8,ZL,true_and]
   refine aq (.exit 1 [eT m.t,aZ m.s,eL m.p,eF m.f,.int .i64 (f:Int),eK g.k,eA A1,ck (S.set p (true,st))]) (by simp) ⟨_,_,rfl,.inl ⟨rfl,_,_,dy [a] A1 (by simp [targets,h11,ha1]) (fun h=>absurd h h28) (by simp [cm,hD1]),hSl,hR1,rfl⟩⟩
  rw [if_neg h11]
  by_cases h12:x.o=12
  ·rw [if_pos h12]
   obtain ⟨a,ha2⟩:=Ws (hjmp he (.inr h12)).1
   have ha1:=wp1
   obtain ⟨j1,os,hj,hC⟩:=mO hm hg p (p+1) af haf haft (S.set p (true,st)) (by simp [hS]) (cZ p A) hA0
   refine ar rfl hC (by simp [eT,aZ,eF,eK,eA,ck,Fu.e,In.e,hg,hx,wp1,ha1];try simp [eL,←ZT,afe]) ?_
   rcases hj with ⟨rfl |rfl |rfl,hN,rfl⟩ |⟨rfl,A1,hD1,hR1,rfl⟩
   ·simp only [ay,al,V8,ZL,true_and]
    exact aq (.exit 2 [eT m.t,aZ m.s,eL m.p,eF m.f,.int .i64 (f:Int),eK g.k,eA (cZ p A),ck (S.set p (true,st))]) (by simp) ⟨_,_,rfl,.inr (.inl ⟨by omega,dn [p+1,a] (by simp [targets,h12,ha2]) (fun h=>absurd h h28) (by simp [cm,hN]),_,_,_,_,_,_,_,_,rfl⟩)⟩
   ·simp only [ay,al,V8,ZL,true_and]
    exact aq (.exit 3 [eT m.t,aZ m.s,eL m.p,eF m.f,.int .i64 (f:Int),eK g.k,eA (cZ p A),ck (S.set p (true,st))]) (by simp) ⟨_,_,rfl,.inr (.inl ⟨by omega,dn [p+1,a] (by simp [targets,h12,ha2]) (fun h=>absurd h h28) (by simp [cm,hN]),_,_,_,_,_,_,_,_,rfl⟩)⟩
   ·simp only [ay,al,V8,ZL,true_and]
    exact aq (.exit 0 [eT m.t,aZ m.s,eL m.p,eF m.f,.int .i64 (f:Int),eK g.k,eA (cZ p A),ck (S.set p (true,st))]) (by simp) ⟨_,_,rfl,.inr (.inl ⟨by omega,dn [p+1,a] (by simp [targets,h12,ha2]) (fun h=>absurd h h28) (by simp [cm,hN]),_,_,_,_,_,_,_,_,rfl⟩)⟩
   simp only [ay,al,V8,ZL,true_and]
   obtain ⟨j2,os,hj,hC⟩:=mO hm hg p a af haf haft (S.set p (true,st)) (by simp [hS]) A1 hR1
   refine ar rfl hC (by simp [eT,aZ,eF,eK,eA,ck,Fu.e,In.e,hg,hx,wp1,ha2];try simp [eL,←ZT,afe]) ?_
   rcases hj with ⟨rfl |rfl |rfl,hN,rfl⟩ |⟨rfl,A2,hD2,hR2,rfl⟩
   ·simp only [ay,al,V8,ZL,true_and]
    exact aq (.exit 2 [eT m.t,aZ m.s,eL m.p,eF m.f,.int .i64 (f:Int),eK g.k,eA A1,ck (S.set p (true,st))]) (by simp) ⟨_,_,rfl,.inr (.inl ⟨by omega,dn [p+1,a] (by simp [targets,h12,ha2]) (fun h=>absurd h h28) (by simp [cm,hD1,hN]),_,_,_,_,_,_,_,_,rfl⟩)⟩
   ·simp only [ay,al,V8,ZL,true_and]
    exact aq (.exit 3 [eT m.t,aZ m.s,eL m.p,eF m.f,.int .i64 (f:Int),eK g.k,eA A1,ck (S.set p (true,st))]) (by simp) ⟨_,_,rfl,.inr (.inl ⟨by omega,dn [p+1,a] (by simp [targets,h12,ha2]) (fun h=>absurd h h28) (by simp [cm,hD1,hN]),_,_,_,_,_,_,_,_,rfl⟩)⟩
   ·simp only [ay,al,V8,ZL,true_and]
    exact aq (.exit 0 [eT m.t,aZ m.s,eL m.p,eF m.f,.int .i64 (f:Int),eK g.k,eA A1,ck (S.set p (true,st))]) (by simp) ⟨_,_,rfl,.inr (.inl ⟨by omega,dn [p+1,a] (by simp [targets,h12,ha2]) (fun h=>absurd h h28) (by simp [cm,hD1,hN]),_,_,_,_,_,_,_,_,rfl⟩)⟩
   simp only [ay,al,V8,ZL,true_and]
   refine aq (.exit 1 [eT m.t,aZ m.s,eL m.p,eF m.f,.int .i64 (f:Int),eK g.k,eA A2,ck (S.set p (true,st))]) (by simp) ⟨_,_,rfl,.inl ⟨rfl,_,_,dy [p+1,a] A2 (by simp [targets,h12,ha2]) (fun h=>absurd h h28) (by simp [cm,hD1,hD2]),hSl,hR2,rfl⟩⟩
  rw [if_neg h12]
  have ha1:=wp1
  obtain ⟨j1,os,hj,hC⟩:=mO hm hg p (p+1) af haf haft (S.set p (true,st)) (by simp [hS]) (cZ p A) hA0
  refine ar rfl hC (by simp [eT,aZ,eF,eK,eA,ck,Fu.e,In.e,hg,hx,wp1,ha1];try simp [eL,←ZT,afe]) ?_
  rcases hj with ⟨rfl |rfl |rfl,hN,rfl⟩ |⟨rfl,A1,hD1,hR1,rfl⟩
  ·simp only [ay,al,V8,ZL,true_and]
   exact aq (.exit 2 [eT m.t,aZ m.s,eL m.p,eF m.f,.int .i64 (f:Int),eK g.k,eA (cZ p A),ck (S.set p (true,st))]) (by simp) ⟨_,_,rfl,.inr (.inl ⟨by omega,dn [p+1] (by simp [targets,h28,h11,h12]) (fun h=>absurd h h28) (by simp [cm,hN]),_,_,_,_,_,_,_,_,rfl⟩)⟩
  ·simp only [ay,al,V8,ZL,true_and]
   exact aq (.exit 3 [eT m.t,aZ m.s,eL m.p,eF m.f,.int .i64 (f:Int),eK g.k,eA (cZ p A),ck (S.set p (true,st))]) (by simp) ⟨_,_,rfl,.inr (.inl ⟨by omega,dn [p+1] (by simp [targets,h28,h11,h12]) (fun h=>absurd h h28) (by simp [cm,hN]),_,_,_,_,_,_,_,_,rfl⟩)⟩
  ·simp only [ay,al,V8,ZL,true_and]
   exact aq (.exit 0 [eT m.t,aZ m.s,eL m.p,eF m.f,.int .i64 (f:Int),eK g.k,eA (cZ p A),ck (S.set p (true,st))]) (by simp) ⟨_,_,rfl,.inr (.inl ⟨by omega,dn [p+1] (by simp [targets,h28,h11,h12]) (fun h=>absurd h h28) (by simp [cm,hN]),_,_,_,_,_,_,_,_,rfl⟩)⟩
  simp only [ay,al,V8,ZL,true_and]
  refine aq (.exit 1 [eT m.t,aZ m.s,eL m.p,eF m.f,.int .i64 (f:Int),eK g.k,eA A1,ck (S.set p (true,st))]) (by simp) ⟨_,_,rfl,.inl ⟨rfl,_,_,dy [p+1] A1 (by simp [targets,h28,h11,h12]) (fun h=>absurd h h28) (by simp [cm,hD1]),hSl,hR1,rfl⟩⟩
noncomputable def iy (t:List Cl) (T:In→List bn×bn×Int) (ks:List In):Nat→Option (List oZ×Ah)
 |0=>some (Wx ks.length (false,[]),[(0,[])])
 |k+1=>(iy t T ks k).bind fun b=>match ks[k]? with
  |some x=>dI t T ks.length k x b.1 b.2
  |none=>none
theorem rJ {t:List Cl} {T:In→List bn×bn×Int} {ks:List In} {k:Nat} (h:iy t T ks k=none): ∀j,iy t T ks (k+j)=none
 |0=>h
 |j+1=>by show (iy t T ks (k+j)).bind _=none;rw [rJ h j];rfl
theorem ko {t:List Cl} {T:In→List bn×bn×Int} {ks:List In} {k:Nat} {b:List oZ×Ah} {x:In} (hx:ks[k]? =some x) (hb:iy t T ks k=some b):iy t T ks (k+1)=dI t T ks.length k x b.1 b.2:=by
 show (iy t T ks k).bind _=_
 rw [hb]
 show (match ks[k]? with |some x=>dI t T ks.length k x b.1 b.2 |none=>none)=_
 rw [hx]
theorem qu {t:List Cl} {T:In→List bn×bn×Int} {ks:List In} {k:Nat} (hk:k<ks.length) {b:List oZ×Ah} {x:In} (hx:ks[k]? =some x) (hb:iy t T ks k=some b) (h:dI t T ks.length k x b.1 b.2=none):iy t T ks ks.length=none:=by
 have:=rJ ((ko hx hb).trans h) (ks.length - (k+1))
 rwa [show k+1+(ks.length - (k+1))=ks.length by omega] at this
theorem NJ {t:List Cl} {T:In→List bn×bn×Int} {n p:Nat} {x:In} {S:List oZ} {A:Ah} {b:List oZ×Ah} (h:dI t T n p x S A=some b) (hA: ∀w,eD A p=some w→w.length≤1000) (hS: ∀s∈S,s.2.length≤1000): ∀s∈b.1,s.2.length≤1000:=by
 unfold dI at h
 cases hl:eD A p with
 |none=>rw [hl] at h;obtain rfl:=VF h;exact hS
 |some st=>
  rw [hl] at h
  dsimp only at h
  split at h
  ·obtain ⟨A',_,rfl⟩:=Option.map_eq_some_iff.1 h
   intro s hs
   rcases List.mem_or_eq_of_mem_set hs with hs |rfl
   ·exact hS s hs
   ·exact hA st hl
  ·cases h
structure TP (m:Mo) (T:In→List bn×bn×Int) (g:Fu) (k:Nat) (b:List oZ×Ah):Prop where
 len:b.1.length=g.k.length
 st: ∀s∈b.1,s.2.length≤1000
 ok:O0 m.t g.k.length k b.2
 run:iy m.t T g.k k=some b
theorem Ew {m:Mo} {T:In→List bn×bn×Int} {g:Fu} (h0:g.k≠[]):TP m T g 0 (Wx g.k.length (false,[]),[(0,[])]):=by
 have hn:0<g.k.length:=List.length_pos_iff.2 h0
 refine ⟨by simp,fun s hs=>by rw [List.eq_of_mem_replicate hs];simp,fun q w _ h2=>?_,rfl⟩
 unfold eD at h2
 by_cases hq:q=0
 ·subst hq;simp at h2;subst h2;exact ⟨hn,by simp,fun s hs=>absurd hs (by simp)⟩
 ·have hq': ¬0=q:=fun e=>hq e.symm
  simp [hq'] at h2
def yc (m:Mo) (T:In→List bn×bn×Int) (g:Fu) (S:List oZ):Prop:=∃A,S.length=g.k.length∧(∀s∈S,s.2.length≤1000)∧O0 m.t g.k.length g.k.length A∧iy m.t T g.k g.k.length=some (S,A)
def O1 (m:Mo) (f:Nat) (T:In→List bn×bn×Int) (g:Fu) (j:Nat) (os:List D):Prop:=
 (j=4∧∃S A,yc m T g S∧os=[A,eK g.k,ck S,eT m.t,aZ m.s,eL m.p,eF m.f,.int .i64 (f:Int)])
 ∨(j≤2∧iy m.t T g.k g.k.length=none∧∃o8,FW o8∧∃n:Int,os=o8++[.int .i64 n])∨(j=3∧iy m.t T g.k g.k.length=none∧∃o8,FW o8∧∃e n:Int,e≠0∧os=o8++[.int .i64 e,.int .i64 n])
theorem Lw {m:Mo} (hm:Ep m) {f:Nat} {g:Fu} (hg:m.f[f]? =some g) {T:In→List bn×bn×Int} (hTO:TO m f g T):
 ∃j os,O1 m f T g j os∧Is Eh [eK g.k,.int .i64 0,eK g.k,ck (Wx g.k.length (false,[])),eA [(0,[])],eT m.t,aZ m.s,eL m.p,eF m.f,.int .i64 (f:Int)] j os:=by
 have hF:=hm.f g (Zm hg)
 have hkl:=hF.k
 exact db (aF:=g.k) (enc:=fun k (b:List oZ×Ah)=>[eK g.k,.int .i64 k,eK g.k,ck b.1,eA b.2,eT m.t,aZ m.s,eL m.p,eF m.f,.int .i64 (f:Int)]) (I:=fun k b=>TP m T g k b) (Q:=O1 m f T g) KR (fun _ _=>rfl)
  (fun k b x hk hI hx=>by
   have w:=bj hk (by omega)
   have e1:(k:Int)<g.k.length:=by omega
   have hx':g.k[k]? =some x:=by rw [Wj hk,hx]
   unfold vH
   simp only [ah,bh,aL,ae,ag,eK,aw,ZD,aA,ak,if_pos e1]
   obtain ⟨j,os,hj,hC⟩:=Rc hm hg hTO k x hx' b.1 hI.len b.2 hI.ok
   refine ar rfl hC (by simp [eK]) ?_
   rcases hj with ⟨rfl,S',A',hT,hS',hA',rfl⟩ |⟨rfl |rfl |rfl,hN,a1,a2,a3,a4,a5,a6,a7,a8,rfl⟩ |⟨rfl,hN,e,he,_,⟨a1,a2,a3,a4,a5,a6,a7,a8,rfl⟩,rfl⟩
   ·simp only [ay,al,V8,ZL,true_and]
    exact aq (.next [eK g.k,.int .i64 ((k+1:Nat):Int),eK g.k,ck S',eA A',eT m.t,aZ m.s,eL m.p,eF m.f,.int .i64 (f:Int)]) (by simp [eK,w]) (.inr ⟨(S',A'),rfl,⟨hS',NJ hT (fun w h=>(hI.ok k w (Nat.le_refl _) h).2.1) hI.st,hA',(ko hx' hI.run).trans hT⟩⟩)
   ·simp only [ay,al,V8,ZL,true_and]
    exact aq (.exit 0 [a1,a2,a3,a4,a5,a6,a7,a8,.int .i64 k]) (by simp) (.inl ⟨_,_,rfl,.inr (.inl ⟨by omega,qu hk hx' hI.run hN,_,⟨_,_,_,_,_,_,_,_,rfl⟩,k,rfl⟩)⟩)
   ·simp only [ay,al,V8,ZL,true_and]
    exact aq (.exit 1 [a1,a2,a3,a4,a5,a6,a7,a8,.int .i64 k]) (by simp) (.inl ⟨_,_,rfl,.inr (.inl ⟨by omega,qu hk hx' hI.run hN,_,⟨_,_,_,_,_,_,_,_,rfl⟩,k,rfl⟩)⟩)
   ·simp only [ay,al,V8,ZL,true_and]
    exact aq (.exit 2 [a1,a2,a3,a4,a5,a6,a7,a8,.int .i64 k]) (by simp) (.inl ⟨_,_,rfl,.inr (.inl ⟨by omega,qu hk hx' hI.run hN,_,⟨_,_,_,_,_,_,_,_,rfl⟩,k,rfl⟩)⟩)
   ·simp only [ay,al,V8,ZL,true_and]
    simp only [aI,aR,WB,Xl,XZ,ah,bh,aL,ae,ag,aw,ZD,aA,aB,aX,bc,aV,aT,aJ,aM,aP,ba,aU,aE,Wt,VV,Xt,aD,aH,eS,eT,eL,aZ,eF,aC,ak,if_neg he]
    exact aq (.exit 3 [a1,a2,a3,a4,a5,a6,a7,a8,.int .i64 e,.int .i64 k]) (by simp) (.inl ⟨_,_,rfl,.inr (.inr ⟨rfl,qu hk hx' hI.run hN,_,⟨_,_,_,_,_,_,_,_,rfl⟩,e,k,he,rfl⟩)⟩))
  (fun b hI=>aq (.exit 4 [eA b.2,eK g.k,ck b.1,eT m.t,aZ m.s,eL m.p,eF m.f,.int .i64 (f:Int)]) (by simp [vH,eK]) ⟨_,_,rfl,.inl ⟨rfl,_,_,⟨_,hI.len,hI.st,hI.ok,hI.run⟩,rfl⟩⟩) (Wx g.k.length (false,[]),[(0,[])]) (Ew hF.k0)
def TQ (m:Mo) (T:In→List bn×bn×Int) (g:Fu) (r:DV):Prop:=
 (∃S,yc m T g S∧r= .jO [.c (ck S),.agg [.int .i64 0,.int .i64 0]])∨iy m.t T g.k g.k.length=none∧∃w a:Int,w≠0∧r= .jO [.c (ck []),.agg [.int .i64 w,.int .i64 a]]
theorem Rd {m:Mo} (hm:Ep m) {f:Nat} {g:Fu} (hg:m.f[f]? =some g) {T:In→List bn×bn×Int} (hTO:TO m f g T): ∃r,TQ m T g r∧Ok 30 [.agg m.e,.c (.int .i64 (f:Int))] r:=by
 obtain ⟨hf,hgf⟩:=List.getElem?_eq_some_iff.1 hg
 have hF:=hm.f g (Zm hg)
 have hkl:=hF.k
 have ef:(f:Int)<m.f.length:=by omega
 have ek:(g.k.length:Int)≤100000000:=by omega
 refine xU (l:=[eT m.t,aZ m.s,eL m.p,eF m.f,.int .i64 (f:Int)]) Ti (by simp [Mo.e,eT,aZ,eL,eF]) (by simp) ?_
 unfold OS
 simp only [aI,aR,WB,Xl,XZ,ah,bh,aL,ae,ag,aw,ZD,aA,aB,aX,bc,aV,aT,aJ,aM,aP,ba,aU,aE,Wt,VV,Xt,aD,aH,eS,eT,eL,aZ,eF,aC,ak,Fu.e,hg,if_pos ef,if_pos ek,if_pos (WN _)]
 obtain ⟨j,os,hj,hL⟩:=Lw hm hg hTO
 refine ar rfl hL (by simp [eT,aZ,eL,eF,eK,ck,eA,L1,Fu.e,hg,nn,iM]) ?_
 rcases hj with ⟨rfl,S,A,hC,rfl⟩ |⟨hj,hN,_,⟨a1,a2,a3,a4,a5,a6,a7,a8,rfl⟩,n,rfl⟩ |⟨rfl,hN,_,⟨a1,a2,a3,a4,a5,a6,a7,a8,rfl⟩,e,n,he,rfl⟩
 ·simp only [ay,al,V8,ZL,true_and]
  exact aq (.ret (.jO [.c (ck S),.agg [.int .i64 0,.int .i64 0]])) (by simp) ⟨_,rfl,.inl ⟨S,hC,rfl⟩⟩
 ·match j,hj with
  |0,_=>simp only [al,V8,ZL,true_and,WB,Xl];exact aq (.ret (.jO [.c (ck []),.agg [.int .i64 15,.int .i64 n]])) (by simp [ck]) ⟨_,rfl,.inr ⟨hN,15,n,by omega,rfl⟩⟩
  |1,_=>simp only [ay,al,V8,ZL,true_and,WB,Xl];exact aq (.ret (.jO [.c (ck []),.agg [.int .i64 16,.int .i64 n]])) (by simp [ck]) ⟨_,rfl,.inr ⟨hN,16,n,by omega,rfl⟩⟩
  |2,_=>simp only [ay,al,V8,ZL,true_and,WB,Xl];exact aq (.ret (.jO [.c (ck []),.agg [.int .i64 7,.int .i64 n]])) (by simp [ck]) ⟨_,rfl,.inr ⟨hN,7,n,by omega,rfl⟩⟩
 ·simp only [ay,al,V8,ZL,true_and,WB,Xl]
  exact aq (.ret (.jO [.c (ck []),.agg [.int .i64 e,.int .i64 n]])) (by simp [ck]) ⟨_,rfl,.inr ⟨hN,e,n,he,rfl⟩⟩
end
end Go.Proofs.Sai
