/- Part ID of the proof of VerifyClosed: texts of the interpreter and what it shows, under short names. No condition. -/
import Derived.Test.YtgfhbomiljhjpaaGreatDoorIC
import Derived.Lib.MakeNoZero
import Derived.Lib.Bytealg
import Derived.AtR
import Derived.Defers
import Derived.RangeFuncRecord
import Derived.Recover
set_option linter.unusedVariables false
set_option linter.unusedSimpArgs false
set_option linter.unusedSectionVars false
open Array renaming getElem?_toList→U8,size_append→WC,toList_append→WE,ext'→UD,eraseIdxIfInBounds→Wt,getD_eq_getD_getElem?→Uw,replicate→Xe
open Bool renaming and_eq_true→Uj
open Go renaming step→W3
open Go.Builtin renaming append_→Ww,zeroCells→Wz,lenOf→Wx,cap_→WM,unsafeString_→WN,len_→WR,delete_→Wn,copy_→WS,firstCells→Wy,min_→WT,max_→WU
open Go.Deferred renaming ofValue→W2
open Go.Extern renaming find→WV,findNext→WW
open Go.Extern.AbiNoEscape renaming same→WZ
open Go.Extern.BytealgCount renaming count→WX
open Go.Extern.BytealgIndexByte renaming indexByte→WY
open Go.Extern.BytealgMakeNoZero renaming makeNoZero→W1
open Go.Extern.MathFloatBits renaming float64frombits→W0
open Go.Frame renaming enter→W4,round→W5,finish_atR→W7,atR→W9
open Go.Instr renaming typeAssert→WQ,enterLoop→Xd
open Go.Lib renaming strCells→WI,run_firstCells_string→WJ,run_append_grow_string→WK
open Go.MapKept renaming run_getObj_map→Wc,run_setObj_map→Wj
open Go.Oper renaming semAt_none→Xa
open Go.Region renaming wanted→W6
open Go.Result renaming andThen_ok→Uv
open Go.Sem renaming run_bind→Uu,run_pure→U2,runT_eq→W8
open Go.Steps renaming trans→Xf
open Go.Value renaming ownBlock→WB
open Go.World renaming cell?→Uz,putObj_heap_same→Xb,putObj_heap_other→Xc,grownBy_alloc→UF
open Int renaming ofNat→TP
open List renaming getElem?_take→T4,getElem?_eq_getElem→UB,map_cons→Uc,map_nil→Ud,getElem?_map→Ue,getElem?_range→WA,size_toArray→WD,length_append→Up,append_assoc→UW,take_left→WG,not_mem_nil→Ub,getElem?_eq_none→T1,eq_nil_of_length_eq_zero→UC,getElem?_toArray→Wo,getElem?_cons_zero→Wq,getElem?_cons_succ→Wr,range'→UR
open Nat renaming mul_le_mul_right→UN,le_refl→Uh,eq_zero_or_pos→VI,beq→TJ,ble→TO,mul→TW,eq_of_beq_eq_true→T7,le_of_ble_eq_true→Ua,zero_add→WH,le_trans→Ui,zero_le→VT,add→TS,mul_one→WL,succ→TM
open Option.some renaming injEq→VO,inj→TZ
open UInt8 renaming ofNat→WO
namespace Go.Proofs.Sai
section
open Go Go.RowKit Go.MapKept
variable [Env]
section
variable {P:Program} {N:Nat} {μ:bu} {σ:St} {w:World} {a:aV} {ca:Act}
theorem vM {fz:Addr→Option Value} {L:List (List D)} {cur:Array Value} {n:Nat} (hn:L.flatten.length=n) (h: ∀(j:Nat) (d:D),L.flatten[j]? =some d→∃u,cur[j]? =some u∧dM fz d u) (hle:n≤cur.size):kL fz L (cur.toList.take n):=by
 intro j d hj
 obtain ⟨u,q1,q2⟩:=h j d hj
 have hjl:j<n:=by rw [←hn];exact (List.getElem?_eq_some_iff.1 hj).1
 exact ⟨u,by rw [T4,if_pos hjl,U8];exact q1,q2⟩
theorem kL.cd {fz:Addr→Option Value} {L:List (List D)} {us:List Value} (h:kL fz L us) (hl:us.length=L.flatten.length): ∀u∈us,u.oneCell'=true:=by
 intro u hu
 obtain ⟨j,hj⟩:=List.getElem?_of_mem hu
 have hjl:j<us.length:=(List.getElem?_eq_some_iff.1 hj).1
 obtain ⟨u',q1,q2⟩:=h j _ (UB (by omega))
 rw [hj] at q1
 cases q1
 exact q2.one
theorem EY {ts:List Ty} {y:AV} {Y:Value} {u:Tm} (h:SR P N μ σ w) (hy:VR P μ y Y) (hn:L4 ts σ y=some u):
 ∃L:List (List D),ev u= .aY L∧fN ts L∧L.length≤100000000∧((L=[]∧(Y= .slice none 0 0∨∃ad c,Y= .slice (some ad) 0 c))∨∃ad c us,Y= .slice (some ad) L.length c∧us.length=L.length*ts.length∧kL μ.fz L us∧∀j v,us[j]? =some v→w.cell? (ad.add j)=some v):=by
 cases y<;>first |(cases hn;done) |skip
 ·rename_i ty y
  cases ty<;>first |(cases hn;done) |skip
  rename_i us
  obtain ⟨h1,hn⟩:=aA.1 (show aQ (cM ts us&&et (.op .len [y]) gZ) (some y) none=some u from hn)
  cases hn
  rw [Uj] at h1
  obtain rfl:=cA h1.1
  cases hy with
  |tm _ _ _ g1 g2=>
   obtain ⟨L,hL,hrows⟩:=g1
   have hlen:ev (.op .len [u])= .int .i64 L.length:=by rw [bN];simp only [Uc,Ud,hL];rfl
   have hle:=eB h1.2 hlen (show ev gZ= .int .i64 100000000 from rfl)
   have hR:fN ts L:=hrows
   rw [hL] at g2
   refine ⟨L,hL,hR,by omega,?_⟩
   cases g2 with
   |nil=>exact .inl ⟨rfl,.inl rfl⟩
   |aY _ ad c f hn hm hf hd=>
    refine .inr ⟨ad,c,(List.range L.flatten.length).map f,rfl,by simp [hR.flat],fun j d hj=>?_,fun j v hj=>?_⟩
    ·have hjl:=(List.getElem?_eq_some_iff.1 hj).1
     exact ⟨f j,by rw [Ue,WA hjl];rfl,hd j d hj⟩
    ·have hjl:j<L.flatten.length:=by simpa using (List.getElem?_eq_some_iff.1 hj).1
     rw [Ue,WA hjl] at hj
     cases hj
     exact h.fB _ _ (hf j hjl)
 ·rename_i us n b
  obtain ⟨h1,hn2⟩:=aA.1 (show aQ (cM ts us&&et n gZ) (omap (ai (σ.h.get b) (qy false ts n)) fun q=>q.2) none=some u from hn)
  clear hn
  rw [Uj] at h1
  obtain rfl:=cA h1.1
  obtain ⟨⟨t,q⟩,h2,rfl⟩:=ba.1 hn2
  obtain ⟨bl,hb,hv⟩:=aa.1 h2
  obtain ⟨e,L,he,_,_,q1,q2,q3,q4⟩:=jw h hy hb hv
  have hle:=eB h1.2 q2 (show ev gZ= .int .i64 100000000 from rfl)
  refine ⟨L,q1,q3,by have:(TP L.length:Int)=(L.length:Int):=rfl;omega,?_⟩
  rcases q4 with ⟨hX,rfl,_⟩ |⟨g,c,cur,rfl,_,_,r2,r3,r4,r5,r6⟩
  ·refine .inl ⟨rfl,?_⟩
   rcases hX with h |⟨ad,h⟩
   ·exact .inl h
   ·exact .inr ⟨ad,0,h⟩
  ·have hle:L.length*ts.length≤cur.size:=by rw [r3];exact UN _ r4
   refine .inr ⟨⟨g,0,none⟩,c,cur.toList.take (L.length*ts.length),rfl,by simp;omega,vM q3.flat r6 hle,fun j v hj=>?_⟩
   rw [T4] at hj
   split at hj
   ·rw [add_zero]
    simp only [Uz,r2]
    simpa using hj
   ·cases hj
structure Grown (w w':World) (N:Nat) (e z:Nat) (V:Value) (m:Nat) (xs:List Value) (g:Nat) (cur:Array Value) (c:Nat):Prop where
 v:V= .slice (some ⟨g,0,none⟩) m c
 h:w'.heap[g]? =some (.cells cur e (0,0))
 N:N≤g
 le:m≤c
 cap:c≤maxLen
 size:cur.size=c*z
 take:cur.toList.take (m*z)=xs
theorem n7 {t ty e z:Nat} {i:TypeInfo} {Z:Value} (hu:P.underlying t=some (.slice e)) (hi:P.info? e=some i) (hz:i.zero=some Z) (hsi:i.size=z) (hzs:Z.cells.size=z) (hz1:1≤z) {X:Value} {n k:Nat} {olds us:List Value} (hown:w.ownsRow N e z X n olds)
 {ad:Addr} {c:Nat} (hul:us.length=k*z) (hcell: ∀j v,us[j]? =some v→w.cell? (ad.add j)=some v) (h1: ∀u∈us,u.oneCell'=true) (hk:k≠0) (h63:n+k≤35184372088832) (hb:(n+k)*i.bytes≤35184372088832) (hN:N≤w.heap.size):
 ∃V w' g cur c',(Ww #[t,t] ty #[X,.slice (some ad) k c]).run P w= .ok V w'∧Grown w w' N e z V (n+k) (olds++us) g cur c'∧w.grownBy w' X.ownBlock∧(X.ownBlock=some g∨g=w.heap.size):=by
 obtain ⟨v',w',hrun,hown',hgr,hnil,hat⟩:=run_append_own_at (P:=P) w N t ty e i Z z i.bytes hu hi hz hsi rfl hzs (by omega) X n olds hown ad k c us hul hcell h1 (by simp only [maxLen];omega) (by omega) hN
 obtain ⟨hxl,hv' |⟨g',cap',cur',rfl,hN',hh',hnc',hcm',hcs',htk⟩⟩:=hown'
 ·omega
 ·refine ⟨_,w',g',cur',cap',hrun,⟨rfl,hh',hN',hnc',hcm',hcs',htk⟩,hgr,?_⟩
  rcases hat with h |h
  ·exact .inl h.symm
  ·simp only [WB,VO] at h
   exact .inr h
theorem sN {t ty e z:Nat} {i:TypeInfo} {Z:Value} (hu:P.underlying t=some (.slice e)) (hi:P.info? e=some i) (hz:i.zero=some Z) (hsi:i.size=z) (hzs:Z.cells.size=z) {ad0:Addr} {n k:Nat} {olds us:List Value} (hol:olds.length=n*z) (holds: ∀j v,olds[j]? =some v→w.cell? (ad0.add j)=some v)
 {ad:Addr} {c:Nat} (hul:us.length=k*z) (hcell: ∀j v,us[j]? =some v→w.cell? (ad.add j)=some v) (hk:k≠0) (h63:n+k≤35184372088832) (hb:(n+k)*i.bytes≤35184372088832) (hN:N≤w.heap.size):
 ∃V w' cur c',(Ww #[t,t] ty #[.slice (some ad0) n n,.slice (some ad) k c]).run P w= .ok V w'∧Grown w w' N e z V (n+k) (olds++us) w.heap.size cur c'∧w.grownBy w' none:=by
 have hrun:=run_append_grow (P:=P) w t ty e i Z hu hi hz ad0 n n olds (by rw [hol,hsi]) holds ad k c us (by rw [hul,hsi]) hcell (by omega) (by omega) (growslice_fits (by omega) (by omega))
 have hge:=grownCap_ge w (n+k) n e
 have hle:=grownCap_le_maxLen w (n+k) n e (by simp only [maxLen];omega)
 have hw:(w.drew.alloc (.cells (olds.toArray++us.toArray++Wz Z.cells (grownCap w (n+k) n e - (n+k))) e)).heap=w.heap.push (.cells (olds.toArray++us.toArray++Wz Z.cells (grownCap w (n+k) n e - (n+k))) e (0,0)):=rfl
 refine ⟨_,_,olds.toArray++us.toArray++Wz Z.cells (grownCap w (n+k) n e - (n+k)),_,hrun,⟨rfl,?_,hN,hge,hle,?_,?_⟩,⟨rfl,rfl,rfl,?_,fun j hj _=>?_⟩⟩
 ·rw [hw];simp
 ·simp only [WC,WD,size_zeroCells,hzs,hol,hul,←Nat.add_mul]
  congr 1
  omega
 ·have:(n+k)*z=(olds++us).length:=by rw [Up,hol,hul,Nat.add_mul]
  rw [this]
  simp only [WE,UW]
  rw [←UW]
  exact WG
 ·rw [hw];simp
 ·rw [hw,Array.getElem?_push,if_neg (by omega)]
theorem SR.kill (h:SR P N μ σ w) {b:Pos} {e:eQ} {k:bf} (hb:μ b=some e) (hk:σ.h.get b=some k) (he:N≤e.a.block∨(e=cE∧0<N)):bI P N μ σ w μ (σ.put b .dead) w:=by
 obtain ⟨k',h1,h2⟩:=h.bV b e hb
 have:=h.BB (w':=w) (b:=b) (e:=e) (k:=.dead) (σ':=σ.put b .dead) none (iq w none) (.inl hb) (fU σ b .dead) (by rw [iO];exact Uh _) (by rw [iO];exact h.lt b e hb) (by rw [nW hb];exact ⟨he,h2.lt⟩)
  (fun g hg=>by cases hg) (fun h=>by cases h) (fun g hg=>by cases hg) (fun h=>by cases h)
 rwa [nW hb] at this
theorem SR.L9 (h:SR P N μ σ w) {w':World} {b:Pos} {e0:eQ} {k₀ k:bf} (hb:μ b=some e0) (hk:σ.h.get b=some k₀) (hd:bS k₀=false) (hw:writes k₀=true) (hN:N≤e0.a.block) {g':Nat} {o:Option (Nat×TypeId)}
 (hg:w.grownBy w' (some e0.a.block)) (hg':g'=e0.a.block∨g'=w.heap.size) (hbr:BR P N (dr μ σ.n ⟨⟨g',0,none⟩,o⟩) w' k ⟨⟨g',0,none⟩,o⟩):
 bI P N μ σ w (dr μ σ.n ⟨⟨g',0,none⟩,o⟩) ((σ.put b .dead).push k) w':=by
 have h1:=h.kill hb hk (.inl hN)
 have hsn:(σ.put b .dead).n=σ.n:=iO σ b .dead
 have hfr:μ σ.n=none:=h.fresh
 have hne: ∀x ex kx,x≠σ.n→μ x=some ex→(σ.put b .dead).h.get x=some kx→bS kx=false→ex.a.block≠e0.a.block:=by
  intro x ex kx _ hx hkx hdx he
  rw [fU] at hkx
  by_cases hxb:b=x
  ·subst hxb;rw [if_pos rfl] at hkx;cases hkx;cases hdx
  ·rw [if_neg hxb] at hkx
   exact hxb (h.inj b x _ ex _ kx hb hx hk hkx hd hdx hN he.symm)
 have h2:=h1.sr.BB (w':=w') (b:=σ.n) (e:=⟨⟨g',0,none⟩,o⟩) (k:=k) (σ':=(σ.put b .dead).push k) (some e0.a.block) hg
  (.inr ⟨hfr,by rw [hsn];exact Uh _,by
   rcases hg' with rfl |rfl
   ·exact .inr ⟨b,_,hb,rfl⟩
   ·exact .inl (Uh _)⟩)
  (fun x=>by rw [bM,hsn]) (by rw [dO,hsn,Pos.bX];omega) (by rw [dO,hsn,Pos.bX];omega)
  hbr
  (fun g₁ hg₁=>by cases hg₁;exact ⟨hN,⟨b,_,hb,rfl⟩,fun x ex kx hx hm hkx hd=>hne x ex kx hx hm hkx hd⟩)
  (fun _ _ x ex kx hx hm hkx hd=>by
   rcases hg' with rfl |rfl
   ·exact hne x ex kx hx hm hkx hd
   ·obtain ⟨k',_,q2⟩:=h1.sr.bV x ex hm
    have:=q2.lt
    exact Nat.ne_of_lt this)
  (fun g₁ hg₁ ad v ha hbl=>by cases hg₁;exact absurd hbl (h.apart b _ _ hb hk hw hN ad v ha))
  (fun _ _ ad v ha=>by
   rcases hg' with rfl |rfl
   ·exact h.apart b _ _ hb hk hw hN ad v ha
   ·exact Nat.ne_of_lt (jN (h.fB ad v ha)))
 exact h1.trans h2
theorem SR.n8 (h:SR P N μ σ w) {w':World} {k:bf} {o:Option (Nat×TypeId)} (hg:w.grownBy w' none) (hbr:BR P N (dr μ σ.n ⟨⟨w.heap.size,0,none⟩,o⟩) w' k ⟨⟨w.heap.size,0,none⟩,o⟩):
 bI P N μ σ w (dr μ σ.n ⟨⟨w.heap.size,0,none⟩,o⟩) (σ.push k) w':=h.laid hg (Uh _) hbr
theorem jx {σ₀:St} {μ':bu} {σ':St} {w':World} {v:AV} {u:Value} {s:Sem Value} (hg:bI P N μ σ w μ' σ' w') (hs:s.run P w= .ok u w') (hv:VR P μ' v u) (hne: ∀p:Prop,σ'.n=σ.n→p):NR P N μ σ w (.val v σ') ((do pure (.value (←s)):Sem Next).run P w):=
 ⟨μ',u,w',by simp only [Uu,hs,Uv];rfl,hg,hv,fun h=>hne _ h⟩
theorem vN {t ty e z k:Nat} {i:TypeInfo} {Z:Value} {ts:List Ty} {x:AV} {X:Value} {x0:Tm} {d:Option Pos} (h:SR P N μ σ w) (hx:VR P μ x X) (hzt:z=ts.length) (hu:P.underlying t=some (.slice e)) (hi:P.info? e=some i) (hz:i.zero=some Z) (hsi:i.size=z) (hzs:Z.cells.size=z) (hz1:1≤z)
 (hsz:bD P e=some z) (hb:pj e z ts σ x=some (x0,d)) (hm:(lenOf x+k)*i.bytes≤35184372088832) (hm2:lenOf x+k≤35184372088832) {ad:Addr} {c:Nat} {us:List Value} {R:List (List D)} (hR:fN ts R) (hRk:R.length=k) (hk:k≠0) (hus:us.length=k*z) (ht:kL μ.fz R us)
 (hcell: ∀j v,us[j]? =some v→w.cell? (ad.add j)=some v) {y:Tm} (hy: ∀L,ev x0= .aY L→ev y= .aY (L++R)):
 NR P N μ σ w (g9 σ d e ts y) ((do pure (.value (←Ww #[t,t] ty #[X,.slice (some ad) k c])):Sem Next).run P w):=by
 have h1: ∀u∈us,u.oneCell'=true:=ht.cd (by rw [hus,hR.flat,hRk,hzt])
 have lay: ∀{L:List (List D)} {olds:List Value} {V:Value} {w':World} {g c':Nat} {cur:Array Value},ev x0= .aY L→fN ts L→kL μ.fz L olds→olds.length=L.length*z→Grown w w' N e z V (L.length+k) (olds++us) g cur c'→
  BR P N (dr μ σ.n ⟨⟨g,0,none⟩,some (cur.size,e)⟩) w' (.vec true e ts (.op .len [y]) y) ⟨⟨g,0,none⟩,some (cur.size,e)⟩∧VR P (dr μ σ.n ⟨⟨g,0,none⟩,some (cur.size,e)⟩) (.vl ts (.op .len [y]) σ.n) V:=by
  intro L olds V w' g c' cur hL hRL hT hol hG
  have hev:=hy L hL
  have hlen:ev (.op .len [y])= .int .i64 (TP (L++R).length):=by rw [bN];simp only [Uc,Ud,hev];rfl
  have hRR:fN ts (L++R):=fun r hr=>(List.mem_append.1 hr).elim (hRL r) (hR r)
  have hll:(L++R).length=L.length+k:=by rw [Up,hRk]
  have hTT:=hT.append ht (by rw [hol,hRL.flat,hzt])
  have hfl:(L++R).flatten.length=(L.length+k)*z:=by rw [hRR.flat,hll,hzt]
  refine ⟨⟨_,hev,hlen,⟨_,rfl,hRR⟩,.inr ⟨g,cur,rfl,hG.N,hG.h,by rw [hfl,hG.size];exact UN _ hG.le,fun j dd hj=>?_⟩⟩,?_⟩
  ·have hjl:j<(L.length+k)*z:=by rw [←hfl];exact (List.getElem?_eq_some_iff.1 hj).1
   obtain ⟨u,q1,q2⟩:=hTT j dd hj
   refine ⟨u,?_,q2,fun h=>by cases h⟩
   rw [←hG.take,T4,if_pos hjl,U8] at q1
   exact q1
  ·rw [hG.v]
   exact .vl ts _ σ.n _ _ (dK _ _ _) (.inr ⟨L.length+k,c',rfl,rfl,by rw [hlen,hll],hG.le,hG.cap,fun sz t' hh=>by cases hh;rw [hG.size,hzt]⟩)
 have nilE:ev (Tm.op .nil [])= .aY []:=rfl
 cases x<;>first |(cases hb;done) |skip
 case aJ=>
  cases hb
  cases hx
  obtain ⟨V,w',g,cur,c',g1,g2,g3,g4⟩:=n7 (ty:=ty) hu hi hz hsi hzs hz1 (X:=.slice none 0 0) (n:=0) (olds:=[]) ⟨by simp,.inl ⟨rfl,rfl⟩⟩ (k:=k) (c:=c) hus hcell h1 hk (by simpa [lenOf] using hm2) (by simpa [lenOf] using hm) h.hN
  have g4:g=w.heap.size:=by
   rcases g4 with h |h
   ·cases h
   ·exact h
  subst g4
  obtain ⟨q1,q2⟩:=lay (L:=[]) (olds:=[]) nilE (fun r hr=>absurd hr Ub) (fun j d hj=>by simp at hj) (by simp) (by simpa using g2)
  exact jx (σ₀:=σ) (h.n8 g3 q1) g1 q2 (fun p=>gN)
 case e0 zz=>
  cases zz<;>first |(cases hb;done) |skip
  cases hb
  cases hx with
  |e0 _ ad0 cc hz0 _=>
   obtain rfl:=hz0 rfl
   obtain ⟨V,w',cur,c',g1,g2,g3⟩:=sN (N:=N) (ty:=ty) hu hi hz hsi hzs (ad0:=ad0) (n:=0) (olds:=[]) (by simp) (fun j v hj=>by simp at hj) (k:=k) (c:=c) hus hcell hk (by simpa [lenOf] using hm2) (by simpa [lenOf] using hm) h.hN
   obtain ⟨q1,q2⟩:=lay (L:=[]) (olds:=[]) nilE (fun r hr=>absurd hr Ub) (fun j d hj=>by simp at hj) (by simp) (by simpa using g2)
   exact jx (σ₀:=σ) (h.n8 g3 q1) g1 q2 (fun p=>gN)
 case slice b o n lim wh=>
  obtain ⟨cs,hcs,hb⟩:=aa.1 hb
  obtain ⟨x1,hx1,hb⟩:=aa.1 hb
  cases hx with
  |slice _ _ _ _ _ en ad0 cc hen had hnc hmc hlim hc=>
   obtain ⟨e1,e2,olds,e3,e4,e5⟩:=h.gM hen hcs
   obtain ⟨L,l1,l2,l3,l4,l5⟩:=jt e3 hx1 nilE
   rw [List.nil_append] at l1
   have e4':olds.length=n*z:=e4
   have hol: ∀(hn0:0<n),ad0=en.a.add o:=fun hn0=>had.elim id (fun h=>by omega)
   have hcells: ∀j v,olds[j]? =some v→w.cell? (ad0.add j)=some v:=by
    intro j v hj
    have hjl:j<olds.length:=(List.getElem?_eq_some_iff.1 hj).1
    have hn0:0<n:=by
     rcases VI n with h0 |h0
     ·rw [e4',h0] at hjl;simp at hjl
     ·exact h0
    rw [hol hn0,add_add,e5 j (by rw [e4'] at hjl;exact hjl)]
    exact hj
   cases hl:lim with
   |true=>
    rw [hl] at hb
    cases hb
    obtain rfl:=hlim hl
    obtain ⟨V,w',cur,c',g1,g2,g3⟩:=sN (N:=N) (ty:=ty) hu hi hz hsi hzs (ad0:=ad0) (n:=cc) (olds:=olds) e4' hcells (k:=k) (c:=c) hus hcell hk hm2 hm h.hN
    rw [←l2] at g2 e4'
    obtain ⟨q1,q2⟩:=lay l1 l3 (fun j d hj=>l5 j d hj) e4' g2
    exact jx (σ₀:=σ) (h.n8 g3 q1) g1 q2 (fun p=>gN)
   |false=>
    rw [hl] at hb
    obtain ⟨hwo,hb2⟩:=aA.1 (show aQ (wh&&TJ o 0) (ai (σ.h.get b) fun bl=>match bl with | .cells own e' len _=>aQ (own&&TJ e' e&&TO (TW n z) len) (some (x1,some b)) none |_=>none) none=some (x0,d) from hb)
    clear hb
    rw [Uj] at hwo
    obtain ⟨hwh,ho⟩:=hwo
    obtain rfl:o=0:=T7 ho
    obtain ⟨bl,hbl,hb⟩:=aa.1 hb2
    clear hb2
    cases bl with
    |cells own e' len cl=>
     obtain ⟨hq,hb⟩:=aA.1 (show aQ (own&&TJ e' e&&TO (TW n z) len) (some (x1,some b)) none=some (x0,d) from hb)
     cases hb
     simp only [Uj] at hq
     obtain ⟨⟨hown,hee⟩,hnl⟩:=hq
     subst hown
     obtain rfl:e'=e:=T7 hee
     have hbr:BR P N μ w (.cells true e' len cl) en:=by
      obtain ⟨k',q1,q2⟩:=h.bV b en hen
      rw [hbl] at q1;cases q1;exact q2
     obtain ⟨g0,sz,cur0,rfl,hN,b1,b2,b3,b4⟩:=hbr
     obtain rfl:ad0=⟨g0,0,none⟩:=by
      rcases had with h |⟨_,h⟩
      ·rw [h,add_nil]
      ·exact absurd rfl h
     have hcz:cc*z=sz:=by rw [←cp hsz];exact hc hwh rfl sz e' rfl
     have hnl:n*z≤len:=Ua hnl
     have htake:cur0.toList.take (n*z)=olds:=by
      apply List.ext_getElem?
      intro j
      by_cases hj:j<n*z
      ·rw [T4,if_pos hj,U8,←e5 j hj,WH,add_zero]
       simp only [Uz,b1]
       simp
      ·rw [T1 (by simp;omega),T1 (by omega)]
     have hown:w.ownsRow N e' z (.slice (some ⟨g0,0,none⟩) n cc) n olds:=
      ⟨e4',.inr ⟨g0,cc,cur0,rfl,hN,b1,hnc,hmc,by rw [b2,hcz],htake⟩⟩
     obtain ⟨V,w',g,cur,c',g1,g2,g3,g4⟩:=n7 (ty:=ty) hu hi hz hsi hzs hz1 hown (k:=k) (c:=c) hus hcell h1 hk hm2 hm h.hN
     rw [←l2] at g2 e4'
     obtain ⟨q1,q2⟩:=lay l1 l3 (fun j d hj=>l5 j d hj) e4' g2
     refine jx (σ₀:=σ) (h.L9 hen hbl rfl rfl hN g3 ?_ q1) g1 q2 (fun p=>eX)
     rcases g4 with h |h
     ·simp only [WB,VO] at h;exact .inl h.symm
     ·exact .inr h
    |_=>cases hb
 case vl us' n b=>
  obtain ⟨hq,hb2⟩:=aA.1 (show aQ (cM ts us'&&et n gZ) (ai (σ.h.get b) fun bl=>ai (qy true ts n bl) fun q=>aQ (TJ q.1 e) (some (q.2,some b)) none) none=some (x0,d) from hb)
  clear hb
  rw [Uj] at hq
  obtain rfl:=cA hq.1
  obtain ⟨bl,hbl,hb⟩:=aa.1 hb2
  clear hb2
  obtain ⟨⟨tt,q⟩,hv,hb⟩:=aa.1 hb
  obtain ⟨hee,hb⟩:=aA.1 hb
  cases hb
  obtain rfl:tt=e:=T7 hee
  obtain ⟨en,L,hen,hd,hwr,l1,l2,l3,l4⟩:=jw h hx hbl hv
  have hle:=eB hq.2 l2 (show ev gZ= .int .i64 100000000 from rfl)
  have hle:L.length≤100000000:=by have:(TP L.length:Int)=(L.length:Int):=rfl;omega
  have hm2':L.length+k≤35184372088832:=by simp only [lenOf] at hm2;omega
  have hm':(L.length+k)*i.bytes≤35184372088832:=Ui (UN _ (by simp only [lenOf];omega)) hm
  rcases l4 with ⟨hX,rfl,rfl,hN0,hs0⟩ |⟨g0,cc,cur0,rfl,rfl,hN,r2,r3,r4,r5,r6⟩
  ·have hk1:=h.kill hen hbl (.inr ⟨rfl,hN0⟩)
   have hsn:(σ.put b .dead).n=σ.n:=iO σ b .dead
   have fin: ∀{V:Value} {w':World} {cur:Array Value} {c':Nat},(Ww #[t,t] ty #[X,.slice (some ad) k c]).run P w= .ok V w'→Grown w w' N tt z V (0+k) ([]++us) w.heap.size cur c'→w.grownBy w' none→
    NR P N μ σ w (g9 σ (some b) tt ts y) ((do pure (.value (←Ww #[t,t] ty #[X,.slice (some ad) k c])):Sem Next).run P w):=by
    intro V w' cur c' g1 g2 g3
    obtain ⟨q1,q2⟩:=lay (L:=[]) (olds:=[]) l1 (fun r hr=>absurd hr Ub) (fun j d hj=>by simp at hj) (by simp) (by simpa using g2)
    have:=hk1.sr.n8 (o:=some (cur.size,tt)) g3 (by rw [hsn];exact q1)
    rw [hsn] at this
    exact jx (σ₀:=σ) (hk1.trans this) g1 q2 (fun p=>eX)
   rcases hX with rfl |⟨ad0,rfl⟩
   ·obtain ⟨V,w',g,cur,c',g1,g2,g3,g4⟩:=n7 (ty:=ty) hu hi hz hsi hzs hz1 (X:=.slice none 0 0) (n:=0) (olds:=[]) ⟨by simp,.inl ⟨rfl,rfl⟩⟩ (k:=k) (c:=c) hus hcell h1 hk (by simpa using hm2') (by simpa using hm') h.hN
    have g4:g=w.heap.size:=by
     rcases g4 with h |h
     ·cases h
     ·exact h
    subst g4
    exact fin g1 g2 g3
   ·obtain ⟨V,w',cur,c',g1,g2,g3⟩:=sN (N:=N) (ty:=ty) hu hi hz hsi hzs (ad0:=ad0) (n:=0) (olds:=[]) (by simp) (fun j v hj=>by simp at hj) (k:=k) (c:=c) hus hcell hk (by simpa using hm2') (by simpa using hm') h.hN
    exact fin g1 g2 g3
  ·have hlz:L.length*z≤cur0.size:=by rw [r3,hzt];exact UN _ r4
   have hown:w.ownsRow N tt z (.slice (some ⟨g0,0,none⟩) L.length cc) L.length (cur0.toList.take (L.length*z)):=
    ⟨by simp;omega,.inr ⟨g0,cc,cur0,rfl,hN,r2,r4,r5,by rw [r3,hzt],rfl⟩⟩
   obtain ⟨V,w',g,cur,c',g1,g2,g3,g4⟩:=n7 (ty:=ty) hu hi hz hsi hzs hz1 hown (k:=k) (c:=c) hus hcell h1 hk hm2' hm' h.hN
   obtain ⟨q1,q2⟩:=lay l1 l3 (vM (by rw [l3.flat,hzt]) r6 hlz) (by simp;omega) g2
   refine jx (σ₀:=σ) (h.L9 hen hbl hd (hwr rfl) hN g3 ?_ q1) g1 q2 (fun p=>eX)
   rcases g4 with h |h
   ·simp only [WB,VO] at h;exact .inl h.symm
   ·exact .inr h
theorem sO {e z:Nat} {ts:List Ty} {x:AV} {X:Value} {q:Tm×Option Pos} (hx:VR P μ x X) (hb:pj e z ts σ x=some q): ∃base n c,X= .slice base n c∧n≤c:=by
 cases x<;>first |(cases hb;done) |skip
 case aJ=>cases hx;exact ⟨_,_,_,rfl,Uh _⟩
 case e0=>cases hx;exact ⟨_,_,_,rfl,VT _⟩
 case slice=>cases hx with |slice _ _ _ _ _ en ad c _ _ hnc=>exact ⟨_,_,_,rfl,hnc⟩
 case vl=>
  cases hx with
  |vl _ _ _ _ e he hc=>
   rcases hc with ⟨rfl |⟨ad,rfl⟩,_⟩ |⟨m,c,rfl,_,_,h,_⟩
   ·exact ⟨_,_,_,rfl,Uh _⟩
   ·exact ⟨_,_,_,rfl,Uh _⟩
   ·exact ⟨_,_,_,rfl,h⟩
theorem Hw {e z:Nat} {ts:List Ty} {x:AV} {X:Value} {x0:Tm} {d:Option Pos} (h:SR P N μ σ w) (hx:VR P μ x X) (hb:pj e z ts σ x=some (x0,d)): ∃L,ev x0= .aY L:=by
 have nilE:ev (Tm.op .nil [])= .aY []:=rfl
 cases x<;>first |(cases hb;done) |skip
 case aJ=>cases hb;exact ⟨_,nilE⟩
 case e0 zz=>
  cases zz<;>first |(cases hb;done) |skip
  cases hb;exact ⟨_,nilE⟩
 case slice b o n lim wh=>
  obtain ⟨cs,hcs,hb⟩:=aa.1 hb
  obtain ⟨x1,hx1,hb⟩:=aa.1 hb
  cases hx with
  |slice _ _ _ _ _ en ad0 cc hen had hnc hmc hlim hc=>
   obtain ⟨e1,e2,olds,e3,e4,e5⟩:=h.gM hen hcs
   obtain ⟨L,l1,_⟩:=jt e3 hx1 nilE
   have hx01:x1=x0:=by
    cases lim with
    |true=>cases hb;rfl
    |false=>
     obtain ⟨_,hb⟩:=aA.1 (show aQ (wh&&TJ o 0) (ai (σ.h.get b) fun bl=>match bl with | .cells own e' len _=>aQ (own&&TJ e' e&&TO (TW n z) len) (some (x1,some b)) none |_=>none) none=some (x0,d) from hb)
     obtain ⟨bl,hbl,hb⟩:=aa.1 hb
     cases bl with
     |cells own e' len cl=>
      obtain ⟨_,hb⟩:=aA.1 (show aQ (own&&TJ e' e&&TO (TW n z) len) (some (x1,some b)) none=some (x0,d) from hb)
      cases hb
      rfl
     |_=>cases hb
   rw [←hx01]
   exact ⟨_,l1⟩
 case vl us' n b=>
  obtain ⟨hq,hb2⟩:=aA.1 (show aQ (cM ts us'&&et n gZ) (ai (σ.h.get b) fun bl=>ai (qy true ts n bl) fun q=>aQ (TJ q.1 e) (some (q.2,some b)) none) none=some (x0,d) from hb)
  clear hb
  rw [Uj] at hq
  obtain rfl:=cA hq.1
  obtain ⟨bl,hbl,hb⟩:=aa.1 hb2
  clear hb2
  obtain ⟨⟨tt,q⟩,hv,hb⟩:=aa.1 hb
  obtain ⟨hee,hb⟩:=aA.1 hb
  cases hb
  obtain ⟨en,L,_,_,_,l1,_⟩:=jw h hx hbl hv
  exact ⟨L,l1⟩
theorem NR.EZ {μ1:bu} {σ1:St} {d:Option Pos} {e:TypeId} {ts:List Ty} {y:Tm} {res:Result Next} (hg:bI P N μ σ w μ1 σ1 w) (hn:σ1.n=σ.n) (h:NR P N μ1 σ1 w (g9 σ1 d e ts y) res):NR P N μ σ w (g9 σ1 d e ts y) res:=by
 obtain ⟨μ',u,w',h1,h2,h3,h4⟩:=h
 refine ⟨μ',u,w',h1,hg.trans h2,h3,fun hh=>?_⟩
 cases d with
 |none=>exact gN (σ:=σ1) (hh.trans hn.symm)
 |some b=>exact eX (σ:=σ1) (hh.trans hn.symm)
theorem E0 {t:TypeId} {ty:TypeId} {x y:AV} {X Y:Value} {r:aW} (h:SR P N μ σ w) (hx:VR P μ x X) (hy:VR P μ y Y) (hr:Dg P t x y σ=some r):
 NR P N μ σ w r ((do pure (.value (←Ww #[t,t] ty #[X,Y])):Sem Next).run P w):=by
 obtain ⟨e,he,hr1⟩:=aa.1 hr
 obtain ⟨z,hz,hr2⟩:=aa.1 hr1
 obtain ⟨by_,hby,hr3⟩:=aa.1 hr2
 obtain ⟨zv,hzv,hr4⟩:=aa.1 hr3
 clear hr hr1 hr2 hr3
 have hu:=cB he
 have facts: ∀{k:Nat},qz e z by_ zv x k=true→∃(i:TypeInfo) (Z:Value),P.info? e=some i∧i.zero=some Z∧i.size=z∧Z.cells.size=z∧1≤z∧(lenOf x+k)*i.bytes≤35184372088832∧lenOf x+k≤35184372088832:=by
  intro k hb
  unfold qz at hb
  simp only [Uj] at hb
  obtain ⟨⟨⟨⟨b1,b2⟩,b3⟩,b4⟩,b5⟩:=hb
  have b1:1≤z:=Ua b1
  have b2:zv.cells.length=z:=T7 b2
  have b4:1≤by_:=Ua b4
  have b5:(lenOf x+k)*by_≤35184372088832:=Ua b5
  obtain ⟨Z,_,hZ,i,hi,hzz⟩:=cL (μ:=μ) hzv w
  obtain ⟨i',hi',rfl⟩:=eV hby
  rw [hi] at hi'
  cases hi'
  have hsi:i.size=z:=by unfold bD at hz;rw [hi] at hz;cases hz;rfl
  have hzc:=hZ.cells (bR b3)
  exact ⟨i,Z,hi,hzz,hsi,by rw [←b2];simpa using hzc.length.symm,b1,b5,Ui (Nat.le_mul_of_pos_right _ b4) b5⟩
 cases hl:Gx y with
 |true=>
  rw [hl] at hr4
  obtain ⟨hok,hr5⟩:=aA.1 (show aQ (qz e z by_ zv x 100000000) (ai (kR P 12 e) fun ts=>aQ (TJ z ts.length) (De e z σ ts x y) none) none=some r from hr4)
  obtain ⟨ts,hts,hr6⟩:=aa.1 hr5
  obtain ⟨hzt,hr7⟩:=aA.1 hr6
  obtain ⟨⟨x0,d⟩,hb,hr8⟩:=aa.1 hr7
  obtain ⟨u,hn,hr9⟩:=aa.1 hr8
  obtain ⟨c,hc,hr10⟩:=aa.1 hr9
  clear hr4 hr5 hr6 hr7 hr8 hr9
  have hzt:z=ts.length:=T7 hzt
  obtain ⟨L,n1,n2,n3,n4⟩:=EY h hy hn
  have hcd:=cf (show di (.op (.cmp .lss) [.int .i64 0,.op .len [u]])=some c from hc)
  have hlen:ev (.op .len [u])= .int .i64 L.length:=by rw [bN];simp only [Uc,Ud,n1];rfl
  have hc':decide ((0:Int)<L.length)=c:=by
   rw [bN] at hcd
   simp only [Uc,Ud,hlen] at hcd
   have:cD (.cmp .lss) [ev (.int .i64 0),.int .i64 L.length]= .bool (decide ((0:Int)<L.length)):=rfl
   rw [this] at hcd
   injection hcd
  cases c with
  |false=>
   cases hr10
   have h0:L.length=0:=by have:=of_decide_eq_false hc';omega
   obtain ⟨base,n,cc,rfl,hnc⟩:=sO hx hb
   have hY:Y= .slice none 0 0∨∃ad c',Y= .slice (some ad) 0 c':=by
    rcases n4 with ⟨_,h⟩ |⟨ad,c,us,rfl,_⟩
    ·exact h
    ·exact .inr ⟨ad,c,by rw [h0]⟩
   exact NR.value h (by simp only [Uu,iT hu hz hnc hY,Uv];rfl) hx
  |true=>
   cases hr10
   have h0:L.length≠0:=by have:=of_decide_eq_true hc';omega
   obtain ⟨ad,cc,us,rfl,u1,u2,u3⟩: ∃ad c us,Y= .slice (some ad) L.length c∧us.length=L.length*ts.length∧kL μ.fz L us∧∀j v,us[j]? =some v→w.cell? (ad.add j)=some v:=by
    rcases n4 with ⟨rfl,_⟩ |h
    ·exact absurd rfl h0
    ·exact h
   obtain ⟨i,Z,f1,f2,f3,f4,f5,f6,f7⟩:=facts hok
   have hmm:(lenOf x+L.length)*i.bytes≤35184372088832:=Ui (UN _ (by omega)) f6
   exact vN (ty:=ty) (k:=L.length) (c:=cc) h hx hzt hu f1 f2 f3 f4 f5 hz hb hmm (by omega) n2 rfl h0 (by rw [hzt];exact u1) u2 u3 (fun L0 hL0=>by rw [bN];simp only [Uc,Ud,hL0,n1];rfl)
 |false=>
  rw [hl] at hr4
  obtain ⟨⟨k,new⟩,hnew,hr5⟩:=aa.1 (show ai (Dd z σ y) (fun p=>aQ (qz e z by_ zv x p.1) (Df P e z p.1 p.2 σ x) none)=some r from hr4)
  obtain ⟨hok,hr6⟩:=aA.1 hr5
  clear hr4 hr5
  replace hr6:aQ (No (kR P 12 e) x) (ai (kR P 12 e) fun ts=>aQ (TJ z ts.length) (ai (dj new σ) fun q=>wO e z k q.1 q.2 ts x) none) (nG e z k new σ x)=some r:=hr6
  cases hv:No (kR P 12 e) x with
  |false=>
   rw [hv] at hr6
   exact zK h hx hy he hz hby hzv hnew hok hr6
  |true=>
   rw [hv] at hr6
   obtain ⟨ts,hts,hr7⟩:=aa.1 (show ai (kR P 12 e) (fun ts=>aQ (TJ z ts.length) (ai (dj new σ) fun q=>wO e z k q.1 q.2 ts x) none)=some r from hr6)
   obtain ⟨hzt,hr7'⟩:=aA.1 hr7
   clear hr6 hr7
   have hzt:z=ts.length:=T7 hzt
   obtain ⟨us,u1',u2,u3,u4⟩:=h.news hy hnew
   obtain ⟨⟨new',σ1⟩,hfz,hr8⟩:=aa.1 hr7'
   clear hr7'
   obtain ⟨fz',hg,hn1,u1⟩:=eb h u1' hfz
   have hx0:=hx
   replace hx:=hx.mono hg.ext.sub
   obtain ⟨⟨x0,d⟩,hb,hr9⟩:=aa.1 (show ai (pj e z ts σ1 x) (fun q=>aQ (TJ k 0) (some (aW.val x σ1)) (omap (nH ts k q.1 new') fun y=>g9 σ1 q.2 e ts y))=some r from hr8)
   clear hr8
   replace hr9:aQ (TJ k 0) (some (aW.val x σ1)) (omap (nH ts k x0 new') fun y=>g9 σ1 d e ts y)=some r:=hr9
   cases hk:TJ k 0 with
   |true=>
    rw [hk] at hr9
    cases hr9
    have hk0:k=0:=T7 hk
    have hY:Y= .slice none 0 0∨∃ad c',Y= .slice (some ad) 0 c':=by
     rcases u4 with ⟨h,_⟩ |⟨ad,c,h,_⟩
     ·exact .inl h
     ·exact .inr ⟨ad,c,by rw [h,hk0]⟩
    obtain ⟨base,n,cc,rfl,hnc⟩:=sO hx hb
    have hnew0:new=[]:=by
     have:=u1'.length
     cases new with
     |nil=>rfl
     |cons a l=>rw [hk0,Nat.zero_mul] at u3;simp [u3] at this
    subst hnew0
    cases hfz
    exact NR.value h (by simp only [Uu,iT hu hz hnc hY,Uv];rfl) hx0
   |false=>
    rw [hk] at hr9
    obtain ⟨yy,hyy,rfl⟩:=ba.1 hr9
    have hk0:k≠0:=fun q=>by subst q;cases hk
    obtain ⟨ad,cc,rfl,hcell⟩: ∃ad c,Y= .slice (some ad) k c∧∀j u,us[j]? =some u→w.cell? (ad.add j)=some u:=by
     rcases u4 with ⟨_,h⟩ |h
     ·exact absurd h hk0
     ·exact h
    obtain ⟨i,Z,f1,f2,f3,f4,f5,f6,f7⟩:=facts hok
    have news: ∃R:List (List D),fN ts R∧R.length=k∧kL fz' R us∧∀L,ev x0= .aY L→ev yy= .aY (L++R):=by
     by_cases hL: ∃L,ev x0= .aY L
     ·obtain ⟨L,hL⟩:=hL
      obtain ⟨R,r1,r2,r3,_,r5⟩:=jt u1 hyy hL
      exact ⟨R,r3,r2,fun j d hj=>r5 j d hj,fun L' hL'=>by rw [hL] at hL';cases hL';exact r1⟩
     ·exact absurd (Hw hg.sr hx hb) hL
    obtain ⟨R,r1,r2,r3,r4⟩:=news
    exact NR.EZ hg hn1<|vN (ty:=ty) (k:=k) (c:=cc) hg.sr hx hzt hu f1 f2 f3 f4 f5 hz hb f6 f7 r1 r2 hk0 u3 r3 hcell r4
end
end
section
open Go Go.RowKit
variable [Env]
section
variable {P:Program} {N:Nat} {μ:bu} {σ:St} {w:World} {a:aV} {ca:Act}
theorem KN (s:ByteArray):bZ P μ (Gc (s.data.toList.map (·.toNat))) (WI s):=by
 unfold Gc WI
 rw [List.map_map]
 generalize s.data.toList=l
 induction l with
 |nil=>exact .nil
 |cons x l ih=>exact .cons _ _ _ _ (.int _ _) ih
theorem BV {t u:TypeId} {ty:TypeId} {x y:AV} {X Y:Value} {r:aW} (h:SR P N μ σ w) (hx:VR P μ x X) (hy:VR P μ y Y) (hr:wP P t u x y σ=some r):
 NR P N μ σ w r ((do pure (.value (←Ww #[t,u] ty #[X,Y])):Sem Next).run P w):=by
 unfold wP at hr
 split at hr
 ·rename_i l
  obtain ⟨e,he,hr2⟩:=aa.1 hr
  obtain ⟨z,hz,hr3⟩:=aa.1 hr2
  obtain ⟨by_,hby,hr4⟩:=aa.1 hr3
  obtain ⟨zv,hzv,hr5⟩:=aa.1 hr4
  obtain ⟨hb,hr6⟩:=aA.1 hr5
  clear hr hr2 hr3 hr4 hr5
  simp only [Uj] at hb
  obtain ⟨⟨⟨⟨⟨b0,b1⟩,b2⟩,b3⟩,b4⟩,b5⟩:=hb
  have hut:=qF b0
  obtain rfl:z=1:=T7 b1
  obtain rfl:by_=1:=T7 b2
  have b3:zv.cells.length=1:=T7 b3
  have b5:lenOf x+l.length≤1000000:=Ua b5
  have hu:=cB he
  obtain ⟨Z,_,hZ,i,hi,hzz⟩:=cL (μ:=μ) hzv w
  obtain ⟨i',hi',hib⟩:=eV hby
  rw [hi] at hi'
  cases hi'
  have hsi:i.size=1:=by unfold bD at hz;rw [hi] at hz;exact TZ hz
  have hzc:=hZ.cells (bR b4)
  have hzs:Z.cells.size=1:=by rw [←b3];simpa using hzc.length.symm
  cases hy with
  |str _ s hs=>
  subst hs
  have hus:bZ P μ (Gc (s.data.toList.map (·.toNat))) (WI s):=KN s
  have hou:cd (Gc (s.data.toList.map (·.toNat)))=true:=Hi _
  have hul:(WI s).length=s.size:=Lib.strCells_length s
  have hk:(s.data.toList.map (·.toNat)).length=s.size:=by simp
  rw [hk] at b5 hr6
  generalize hnew:Gc (s.data.toList.map (·.toNat))=new at hr6 hus hou
  have fresh: ∀(n cap:Nat) (olds:List Value) (gY:List AV),bZ P μ gY olds→cd gY=true→olds.length=n→n+s.size≤1000000→∀w',w'=w.drew.alloc (.cells (olds.toArray++(WI s).toArray++Wz Z.cells (grownCap w (n+s.size) cap e - (n+s.size))) e)→
   ∀q:Sem Value,q.run P w= .ok (.slice (some ⟨w.heap.size,0,none⟩) (n+s.size) (grownCap w (n+s.size) cap e)) w'→
   NR P N μ σ w (.val (.slice σ.n 0 (n+s.size) false true) (σ.row e (gY++new))) ((do pure (.value (←q)):Sem Next).run P w):=by
   intro n cap olds gY ho1 ho2 hol hnk w' hw q hq
   subst hw
   have hge:=grownCap_ge w (n+s.size) cap e
   have hle:=grownCap_le_maxLen w (n+s.size) cap e (by simp only [maxLen];omega)
   have hg:=h.DA (w':=w.drew.alloc (.cells (olds.toArray++(WI s).toArray++Wz Z.cells (grownCap w (n+s.size) cap e - (n+s.size))) e))
    (us':=olds.toArray++(WI s).toArray++Wz Z.cells (grownCap w (n+s.size) cap e - (n+s.size))) (t:=e) rfl rfl rfl rfl (ho1.append hus) (eU ho2 hou)
    (by simp only [WE,UW];rw [←UW];exact WG)
   refine hg.val hq ?_
   refine VR.slice σ.n 0 (n+s.size) false true _ _ _ (dK _ _ _) (.inl (by rw [add_nil])) hge hle (by simp) (fun _ _ sz t' hsz=>?_)
   cases hsz
   rw [cp hz]
   simp only [WC,WD,size_zeroCells,hzs,hol,hul]
   omega
  cases x with
  |aJ=>
   cases hx
   replace hr6:aQ (TJ s.size 0) (some (.val .aJ σ)) (some (.val (.slice σ.n 0 s.size false true) (σ.row e new)))=some r:=hr6
   cases hk:TJ s.size 0 with
   |true=>
    rw [hk] at hr6
    cases hr6
    have hm:s.size=0:=T7 hk
    have hf:=WJ (P:=P) w 1 s
    rw [hm] at hf
    refine NR.value h (u:=.slice none 0 0) ?_ .aJ
    simp [Ww,run_underlying hu,run_underlying hut,sizeOf,typeInfo,hi,hsi,Wx,hm,hf]
   |false=>
    rw [hk] at hr6
    cases hr6
    have hk:s.size≠0:=fun q=>by rw [q] at hk;cases hk
    have hrun:=run_append_nil_string (P:=P) w t u ty e i Z hu hut hi hzz s (by omega) (by simp only [lenOf] at b5;omega) (by simp only [lenOf] at b5;rw [hib];omega)
    have e1:(s.data.map fun b=>Value.int .u8 b.toNat)=(WI s).toArray:=by
     apply UD
     simp [WI]
    rw [e1] at hrun
    have:=fresh 0 0 [] [] .nil rfl (by simp) (by simpa [lenOf] using b5) _ rfl (Ww #[t,u] ty #[.slice none 0 0,.string s]) (by simpa using hrun)
    simpa using this
  |slice b o n lim wh=>
   replace hr6:aQ (TJ s.size 0) (some (.val (.slice b o n lim wh) σ))
    (aQ lim (omap (σ.cells b o (TW n 1)) fun gY=>.val (.slice σ.n 0 (TS n s.size) false true) (σ.row e (gY++new)))
     (aQ (wh&&TJ o 0) (ai (σ.h.get b) (kW e b n s.size 1 new σ)) none))=some r:=hr6
   have hx0:=hx
   cases hx with
   |slice _ _ _ _ _ en ad c hen had hnc hmc hlim hc=>
   simp only [lenOf] at b5
   cases hk:TJ s.size 0 with
   |true=>
    rw [hk] at hr6
    cases hr6
    have hm:s.size=0:=T7 hk
    have hf:=WJ (P:=P) w 1 s
    rw [hm] at hf
    have he0:(WI s)=[]:=UC (by rw [hul,hm])
    refine NR.value h (u:=.slice (some ad) n c) ?_ hx0
    simp [Ww,run_underlying hu,run_underlying hut,sizeOf,typeInfo,hi,hsi,Wx,hm,hf,hnc,he0,storeCells]
   |false=>
    rw [hk] at hr6
    have hk:s.size≠0:=fun q=>by rw [q] at hk;cases hk
    cases hl:lim with
    |true=>
     rw [hl] at hr6
     obtain ⟨gY,hold,rfl⟩:=ba.1 (show omap (σ.cells b o (TW n 1)) (fun gY=>aW.val (.slice σ.n 0 (TS n s.size) false true) (σ.row e (gY++new)))=some r from hr6)
     obtain rfl:=hlim hl
     obtain ⟨h1,h2,ous,h3,h4,h5⟩:=h.gM hen hold
     have h4':ous.length=c:=by have:ous.length=c*1:=h4;omega
     have holds: ∀j v,ous[j]? =some v→w.cell? (ad.add j)=some v:=by
      intro j v hj
      have hjl:j<ous.length:=(List.getElem?_eq_some_iff.1 hj).1
      obtain rfl:ad=en.a.add o:=had.elim id (fun h=>by omega)
      rw [add_add,h5 j (by show j<c*1;omega)]
      exact hj
     have hrun:=WK (P:=P) w t u ty e i Z hu hut hi hzz ad c c ous (by rw [h4',hsi];omega) holds s (by omega) (by omega) (by rw [hib];exact growslice_fits (by omega) (by omega))
     exact fresh c c ous gY h3 h2 h4' b5 _ rfl _ hrun
    |false=>
     rw [hl] at hr6
     obtain ⟨hwo,hr7⟩:=aA.1 (show aQ (wh&&TJ o 0) (ai (σ.h.get b) (kW e b n s.size 1 new σ)) none=some r from hr6)
     rw [Uj] at hwo
     obtain ⟨hw,ho⟩:=hwo
     have ho:o=0:=T7 ho
     obtain ⟨bl,hbl,hr8⟩:=aa.1 hr7
     cases bl with
     |cells own e' len cs=>
      obtain ⟨hq,hr9⟩:=aA.1 (show aQ (own&&TJ e' e&&TO (TW n 1) len) (some (aW.val (.slice σ.n 0 (TS n s.size) false true) ((σ.put b .dead).push (.cells true e (TW (TS n s.size) 1) (cs.grow (TW n 1) new))))) none=some r from hr8)
      cases hr9
      simp only [Uj] at hq
      obtain ⟨⟨hown,hee⟩,hnl⟩:=hq
      subst hown
      obtain rfl:e'=e:=T7 hee
      have hnl:n*1≤len:=Ua hnl
      have hbr:BR P N μ w (.cells true e' len cs) en:=by
       obtain ⟨k',q1,q2⟩:=h.bV b en hen
       rw [hbl] at q1;cases q1;exact q2
      obtain ⟨g,sz,cur,rfl,hN,h1,h2,h3,h4⟩:=hbr
      subst ho
      obtain rfl:ad=⟨g,0,none⟩:=by
       rcases had with h |⟨_,h⟩
       ·rw [h,add_nil]
       ·exact absurd rfl h
      have hcz:c*1=sz:=by rw [←cp hz];exact hc hw rfl sz e' rfl
      have hxn:new.length=s.size:=by rw [hus.length,hul]
      have hcr: ∀(cur':Array Value),cur'.toList.take (n+s.size)=cur.toList.take n++WI s→CR P μ (cs.grow (n*1) new) ((n+s.size)*1) (fun i=>cur'[i]?):=by
       intro cur' htk j hj
       have hj:j<n+s.size:=by omega
       have hget:=Cs.zc (vs:=new) hnl h4.isSome j (by omega)
       have hcj:cur'[j]? =(cur.toList.take n++WI s)[j]? :=by
        rw [←htk,T4,if_pos hj];simp
       show ∃av v,(cs.grow (n*1) new).get j=some av∧cur'[j]? =some v∧VR P μ av v∧av.one=true
       rw [hget,hcj]
       by_cases hjn:j<n*1
       ·rw [if_pos hjn,List.getElem?_append_left (by simp;omega),T4,if_pos (by omega),U8]
        exact h4 j (by omega)
       ·have hlt:(cur.toList.take n).length=n:=by simp;omega
        rw [if_neg hjn,List.getElem?_append_right (by omega),hlt,WL]
        have hvi:new[j - n]? =some (new[j - n]'(by omega)):=UB (by omega)
        obtain ⟨u,q1,q2⟩:=hus.get hvi
        exact ⟨_,u,hvi,q1,q2,gh hou hvi⟩
      by_cases hroom:n+s.size≤c
      ·have hrun:=Lib.run_append_room_string (P:=P) w t u ty e' i hu hut hi hsi g n c cur h1 s hroom (by omega)
       have hrow:(w.setRow g (cur.toList.take n++WI s++cur.toList.drop (n+s.size)).toArray).heap[g]? =some (.cells (cur.toList.take n++WI s++cur.toList.drop (n+s.size)).toArray e' (0,0)):=setRow_heap w g cur _ e' _ h1
       have hsz:(cur.toList.take n++WI s++cur.toList.drop (n+s.size)).toArray.size=cur.size:=by
        simp only [WD,Up,List.length_take,List.length_drop,Array.length_toList,hul]
        omega
       have hgo:=h.append (len':=(n+s.size)*1) (c':=cs.grow (n*1) new) hen hbl hN (w':=w.setRow g (cur.toList.take n++WI s++cur.toList.drop (n+s.size)).toArray)
        ⟨rfl,rfl,rfl,by simp,fun k _ hk=>setRow_other w g k _ (fun e=>hk (by rw [e]))⟩ (.inl rfl) hrow (by rw [hsz];omega) (hcr _ (by
         have hl:(cur.toList.take n++WI s).length=n+s.size:=by rw [Up,hul];simp;omega
         rw [←hl]
         exact WG))
       refine hgo.val hrun (VR.slice σ.n 0 (n+s.size) false true _ _ _ (dK _ _ _) (.inl (by rw [add_nil])) hroom hmc (by simp) (fun _ _ sz' t' hsz'=>?_))
       cases hsz'
       rw [cp hz,hsz,h2,hcz]
      ·have holds: ∀j v,(cur.toList.take n)[j]? =some v→w.cell? ((⟨g,0,none⟩:Addr).add j)=some v:=by
        intro j v hj
        rw [T4] at hj
        split at hj
        ·rw [add_zero]
         simpa [Uz,h1] using hj
        ·cases hj
       have hlt:(cur.toList.take n).length=n:=by simp;omega
       have hrun:=WK (P:=P) w t u ty e' i Z hu hut hi hzz ⟨g,0,none⟩ n c (cur.toList.take n) (by rw [hlt,hsi];omega) holds s (by omega) (by omega) (by rw [hib];exact growslice_fits (by omega) (by omega))
       have hge:=grownCap_ge w (n+s.size) c e'
       have hle:=grownCap_le_maxLen w (n+s.size) c e' (by simp only [maxLen];omega)
       have hsz:((cur.toList.take n).toArray++(WI s).toArray++Wz Z.cells (grownCap w (n+s.size) c e' - (n+s.size))).size=grownCap w (n+s.size) c e':=by
        simp only [WC,WD,size_zeroCells,hzs,hlt,hul]
        omega
       have hgo:=h.append (len':=(n+s.size)*1) (c':=cs.grow (n*1) new) hen hbl hN (w':=w.drew.alloc (.cells ((cur.toList.take n).toArray++(WI s).toArray++Wz Z.cells (grownCap w (n+s.size) c e' - (n+s.size))) e'))
        (g':=w.heap.size) ⟨rfl,rfl,rfl,by simp,fun k hk _=>heap_alloc_old w.drew _ k hk⟩ (.inr rfl) (heap_alloc_new w.drew _) (by rw [hsz];omega) (hcr _ (by
         have hl:(cur.toList.take n++WI s).length=n+s.size:=by rw [Up,hul,hlt]
         simp only [WE,UW]
         rw [←UW,←hl]
         exact WG))
       refine hgo.val hrun (VR.slice σ.n 0 (n+s.size) false true _ _ _ (dK _ _ _) (.inl (by rw [add_nil])) hge hle (by simp) (fun _ _ sz' t' hsz'=>?_))
       cases hsz'
       rw [cp hz,hsz,WL]
     |_=>cases hr8
  |_=>cases hr6
 ·cases hr
theorem qJ {x:AV} {A:List Value} (h:bZ P μ [x] A): ∃X,A=[X]∧VR P μ x X:=by cases h with |cons _ u _ us h hs=>cases hs;exact ⟨u,rfl,h⟩
theorem Ma {x y:AV} {A:List Value} (h:bZ P μ [x,y] A): ∃X Y,A=[X,Y]∧VR P μ x X∧VR P μ y Y:=by
 cases h with |cons _ u _ us h hs=>cases hs with |cons _ v _ vs h2 hs2=>cases hs2;exact ⟨u,v,rfl,h,h2⟩
theorem Qp {ats:Array TypeId} {ty:TypeId} {args:List AV} {A:List Value} {r:aW} (h:SR P N μ σ w) (hA:bZ P μ args A) (hr:Nr P ats.toList args σ=some r):
 NR P N μ σ w r ((do pure (.value (←WM ats ty A.toArray)):Sem Next).run P w):=by
 unfold Nr at hr
 split at hr
 ·rename_i t ts hts
  obtain ⟨e,he,hr1⟩:=aa.1 hr
  have hu:=cB he
  have h0:ats[0]? =some t:=by rw [←U8,hts];rfl
  split at hr1
  ·cases hr1
   obtain ⟨X,rfl,hx⟩:=qJ hA
   cases hx
   exact NR.value h (u:=.int .i64 0) (by simp [WM,goInt,h0,run_underlying hu]) (.int _ _)
  ·rename_i b o n wh
   cases hr1
   obtain ⟨X,rfl,hx⟩:=qJ hA
   cases hx with
   |slice _ _ _ _ _ en ad c hen had hn hm hl hc=>
    obtain rfl:=hl rfl
    exact NR.value h (u:=.int .i64 (TP c)) (by simp [WM,goInt,h0,run_underlying hu]) (.int _ _)
  ·cases hr1
 ·cases hr
theorem zN {ats:Array TypeId} {ty:TypeId} {args:List AV} {A:List Value} {r:aW} (h:SR P N μ σ w) (hA:bZ P μ args A) (hr:mO P ats.toList args σ=some r):
 NR P N μ σ w r ((do pure (.value (←Builtin.unsafeSliceData_ ats ty A.toArray)):Sem Next).run P w):=by
 unfold mO at hr
 split at hr
 ·cases hr
  obtain ⟨X,rfl,hx⟩:=qJ hA
  cases hx
  refine NR.value h (u:=.pointer none) ?_ .bY
  have:=Lib.run_unsafeSliceData_nil (P:=P) w ats ty 0 0
  simp only [Uu,this,Uv]
  rfl
 ·rename_i b o n lim wh
  cases hr
  obtain ⟨X,rfl,hx⟩:=qJ hA
  cases hx with
  |slice _ _ _ _ _ en ad c hen had hn hm hl hc=>
   obtain rfl:ad=en.a.add o:=had.elim id (fun h=>by omega)
   refine NR.value h (u:=.pointer (some (en.a.add o))) ?_ (.ptr b o en hen)
   have:=Lib.run_unsafeSliceData_row (P:=P) w ats ty (en.a.add o) (n+1) c (by omega)
   simp only [Uu,this,Uv]
   rfl
 ·cases hr
theorem Hx {ats:Array TypeId} {ty:TypeId} {args:List AV} {A:List Value} {r:aW} (h:SR P N μ σ w) (hA:bZ P μ args A) (hr:wT P ats.toList args σ=some r):
 NR P N μ σ w r ((do pure (.value (←WN ats ty A.toArray)):Sem Next).run P w):=by
 unfold wT at hr
 split at hr
 ·rename_i t t' hts
  have hats:ats= #[t,t']:=UD (by simpa using hts)
  subst hats
  split at hr
  ·cases hr
   obtain ⟨X,Y,rfl,hx,hy⟩:=Ma hA
   cases hx;cases hy
   refine NR.value h (u:=.string .empty) ?_ (.str _ _ rfl)
   have:=Lib.run_unsafeString_none (P:=P) w t t' ty none
   simp only [Uu,this,Uv]
   rfl
  ·rename_i b n
   split at hr
   ·rename_i e hpt
    obtain ⟨z,hz,hr1⟩:=aa.1 hr
    obtain ⟨hq,hr2⟩:=aA.1 hr1
    obtain ⟨k,hk,hr3⟩:=aa.1 hr2
    clear hr hr1 hr2
    simp only [Uj] at hq
    obtain ⟨⟨q1,q2⟩,q3⟩:=hq
    obtain rfl:z=1:=T7 q2
    have q3:n≤1000000:=Ua q3
    obtain ⟨X,Y,rfl,hx,hy⟩:=Ma hA
    unfold strOf at hr3
    split at hr3
    ·rename_i own u len c
     obtain ⟨ho,hr4⟩:=aA.1 hr3
     obtain ⟨cs,hcs,hr5⟩:=aa.1 hr4
     obtain ⟨l,hl,rfl⟩:=ba.1 hr5
     simp only [Uj] at ho
     obtain ⟨⟨o1,o2⟩,o3⟩:=ho
     subst o1
     obtain rfl:u=e:=T7 o2
     have o3:n+1≤len:=Ua o3
     cases hy with
     |int _ _=>cases hx with
      |ptr _ _ en hen=>
       obtain ⟨k',hk',hbr⟩:=h.bV b en hen
       rw [hk] at hk'
       cases hk'
       obtain ⟨g,sz,cur,rfl,hN,h1,hs2,h3,h4⟩:=hbr
       obtain ⟨hcl,hcg⟩:=Cs.y9 hcs (by omega:0+(n+1)≤len) h4.isSome
       have hus: ∃us:List Value,bZ P μ cs us∧∀j,j<n+1→cur[j]? =us[j]? :=by
        refine ⟨cur.toList.take (n+1),bZ.i7 (by rw [hcl];simp;omega) fun i v u hv hu=>?_,fun j hj=>by rw [T4,if_pos hj];simp⟩
        have hi:i<n+1:=by
         have:=(List.getElem?_eq_some_iff.1 hv).1
         omega
        obtain ⟨av,v',r1,r2,r3,r4⟩:=h4 i (by omega)
        have:=hcg i hi
        rw [WH,r1,hv] at this
        cases this
        rw [T4,if_pos hi,U8] at hu
        have r2:cur[i]? =some v':=r2
        rw [r2] at hu
        cases hu
        exact r3
       obtain ⟨us,hus,hug⟩:=hus
       obtain ⟨rfl,hle⟩:=vE hl hus
       have hll:l.length=n+1:=by have:=hus.length;rw [hcl] at this;simpa using this.symm
       have hbytes: ∀j x,(l.map fun c=>WO c)[j]? =some x→w.cell? ((⟨g,0,none⟩:Addr).add j)=some (.int .u8 x.toNat):=by
        intro j x hj
        rw [Ue] at hj
        cases hlj:l[j]? with
        |none=>rw [hlj] at hj;cases hj
        |some y=>
         rw [hlj] at hj
         cases hj
         have hjl:j<l.length:=(List.getElem?_eq_some_iff.1 hlj).1
         have hy:=hle y (List.mem_of_getElem? hlj)
         have hcj:=hug j (by omega)
         rw [Ue,hlj] at hcj
         rw [add_zero]
         have:(WO y).toNat=y:=by simp;omega
         rw [this]
         simpa [Uz,h1] using hcj
       have hlen:(l.map fun c=>WO c).length=n+1:=by simpa using hll
       have hsh:w.shape? g=some (u,cur.size):=by unfold World.shape?;rw [h1]
       have hrun:=Lib.run_unsafeString_row (P:=P) w t t' ty u hpt (cp hz) g cur.size hsh (l.map fun c=>WO c) (fun h=>by rw [h] at hlen;simp at hlen) (by omega) (by omega) hbytes
       rw [hlen] at hrun
       have hG:=h.NN (w':=w.freeze ⟨g,0,none⟩ (n+1)) hen hk rfl hN (jT w g 0 (n+1))
       refine ⟨μ,_,_,?_,hG,.str l ⟨(l.map fun c=>WO c).toArray⟩ ?_,fun _=>rfl⟩
       ·rw [add_nil]
        have hrun':(WN #[t,t'] ty #[.pointer (some ⟨g,0,none⟩),.int .i64 (TP (TM n))]).run P w= .ok (.string ⟨(l.map fun c=>WO c).toArray⟩) (w.freeze ⟨g,0,none⟩ (n+1)):=hrun
        simp only [Uu,hrun',Uv]
        rfl
       ·simp only [List.map_map]
        conv=>rhs;rw [←List.map_id l]
        refine List.map_congr_left fun c hc=>?_
        have:=hle c hc
        simp
        omega
    ·cases hr3
   ·cases hr
  ·cases hr
 ·cases hr
end
end
section
open Go Go.RowKit Go.MapKept
variable [Env]
section
variable {P:Program} {N:Nat} {μ:bu} {σ:St} {w:World} {a:aV} {ca:Act}
theorem E1 {x:Operand} {xt t:TypeId} {ok:Bool} {r:aW} (h:SR P N μ σ w) (ha:AR P μ a ca) (hr:nL x t ok P a σ=some r):
 NR P N μ σ w r ((do pure (.value (←WQ (ca.eval x) xt t ok)):Sem Next).run P w):=by
 obtain ⟨v,hv,hr1⟩:=aa.1 hr
 obtain ⟨hi,hr2⟩:=dW.1 hr1
 have hx:=ha.eval h hv
 clear hr hr1
 obtain ⟨d,hd,hn⟩:=qG hi
 generalize ca.eval x=X at*
 have fails: ∀z,cU P t=some z→r= .val (.tuple [z,.bool false]) σ→ok=true→(∃zv,(zeroValue t).run P w= .ok zv w∧VR P μ z zv∧∀u,u=Value.tuple #[zv,.bool false]→VR P μ (.tuple [z,.bool false]) u):=by
  intro z hz _ _
  obtain ⟨zv,hrun,hzv,_⟩:=cL (μ:=μ) hz w
  exact ⟨zv,hrun,hzv,fun u hu=>by rw [hu];exact .tuple [z,.bool false] [zv,.bool false] (.cons _ _ _ _ hzv (.cons _ _ _ _ (.bool false) .nil))⟩
 cases v with
 |bw=>
  cases hx
  obtain ⟨hok,hr3⟩:=aA.1 (show aQ ok (omap (cU P t) fun z=>aW.val (.tuple [z,.bool false]) σ) none=some r from hr2)
  subst hok
  obtain ⟨z,hz,rfl⟩:=ba.1 hr3
  obtain ⟨zv,hrun,hzv,hu⟩:=fails z hz rfl rfl
  refine NR.value h ?_ (hu _ rfl)
  unfold WQ
  cases d<;>first |exact absurd rfl (hn _) |simp [run_underlying hd,hrun]
 |iface t' v=>
  cases hx with
  |iface _ _ V hV=>
  replace hr2:aQ (TJ t' t) (some (aW.val (okV ok v true) σ)) (aQ ok (omap (cU P t) fun z=>aW.val (.tuple [z,.bool false]) σ) none)=some r:=hr2
  cases hb:TJ t' t with
  |true=>
   rw [hb] at hr2
   cases hr2
   obtain rfl:t'=t:=T7 hb
   refine NR.value h ?_ (n5 hV)
   unfold WQ
   cases d<;>first |exact absurd rfl (hn _) |simp [run_underlying hd]
  |false=>
   rw [hb] at hr2
   have hne: ¬t'=t:=fun e=>by subst e;simp at hb
   obtain ⟨hok,hr3⟩:=aA.1 (show aQ ok (omap (cU P t) fun z=>aW.val (.tuple [z,.bool false]) σ) none=some r from hr2)
   subst hok
   obtain ⟨z,hz,rfl⟩:=ba.1 hr3
   obtain ⟨zv,hrun,hzv,hu⟩:=fails z hz rfl rfl
   refine NR.value h ?_ (hu _ rfl)
   unfold WQ
   cases d<;>first |exact absurd rfl (hn _) |simp [run_underlying hd,hne,hrun]
 |_=>cases hr2
theorem Hy {x:Operand} {r:aW} (h:SR P N μ σ w) (ha:AR P μ a ca) (hr:si x P a σ=some r):
 NR P N μ σ w r ((do pure (.value (←Instr.panic (ca.eval x))):Sem Next).run P w):=by
 obtain ⟨v,hv,hr1⟩:=aa.1 hr
 have hx:=ha.eval h hv
 generalize ca.eval x=X at*
 cases v with
 |iface t v=>
  cases hr1
  have hx0:=hx
  cases hx with
  |iface _ _ V hV=>exact ⟨_,rfl,rfl,hx0⟩
 |_=>cases hr1
theorem jy {x y:AV} {A:List Value} (h:bZ P μ [x,y] A): ∃X Y,A=[X,Y]∧VR P μ x X∧VR P μ y Y:=by
 cases h with |cons _ X _ _ hx h=>cases h with |cons _ Y _ _ hy h=>cases h;exact ⟨X,Y,rfl,hx,hy⟩
theorem zO {x:AV} {A:List Value} (h:bZ P μ [x] A): ∃X,A=[X]∧VR P μ x X:=by
 cases h with |cons _ X _ _ hx h=>cases h;exact ⟨X,rfl,hx⟩
theorem ER.length {es:List (AV×AV)} {ms:List MapEntry} (h:ER P μ es ms):es.length=ms.length:=by
 induction h with
 |nil=>rfl
 |cons _ _ _ _ _ _ _ _ ih=>simp [ih]
theorem EP.length {es:List (AV×AV)} {ms:List MapEntry} (h:EP P μ es ms):es.length=ms.length:=by
 obtain ⟨l,h1,h2⟩:=h
 rw [h2.length,h1.length_eq]
theorem Qq {ats:Array TypeId} {ty:TypeId} {args:List AV} {A:List Value} {r:aW} (h:SR P N μ σ w) (hA:bZ P μ args A) (hr:Bk P ats.toList args σ=some r):
 NR P N μ σ w r ((do pure (.value (←WR ats ty A.toArray)):Sem Next).run P w):=by
 unfold Bk at hr
 split at hr
 ·rename_i t ts hts
  split at hr
  ·rename_i x
   obtain ⟨X,rfl,hx⟩:=zO hA
   have h0:ats[0]? =some t:=by rw [←U8,hts];rfl
   cases hsy:wQ P t x with
   |some v=>
    rw [hsy] at hr
    cases hr
    cases x<;>first |(cases hsy;done) |skip
    case tm tt y=>
     cases tt<;>first |(cases hsy;done) |skip
     case str=>
      cases hx with
      |tm _ _ _ h1 h2=>
      obtain ⟨l,hl⟩:=h1
      rw [hl] at h2
      cases h2 with
      |str _ s hs=>
      replace hsy:(match P.underlying t with |some .string=>some (eG (.int .i64) (.op .fY [y])) |_=>none)=some v:=hsy
      split at hsy
      ·rename_i hu
       cases hsy
       have he:ev (.op .fY [y])= .int .i64 s.size:=by rw [bN];simp only [Uc,Ud,hl,←hs];simp [cD]
       refine NR.value h (u:=.int .i64 s.size) ?_ (dc ⟨_,he⟩ (by rw [he];exact .int _ _))
       unfold WR
       simp only [h0]
       simp [run_underlying hu,goInt]
      ·cases hsy
     case aY ts=>
      cases hx with
      |tm _ _ _ h1 h2=>
      obtain ⟨l,hl,_⟩:=h1
      rw [hl] at h2
      replace hsy:(match P.underlying t with |some (.slice _)=>some (eG (.int .i64) (.op .len [y])) |_=>none)=some v:=hsy
      split at hsy
      ·rename_i hu
       cases hsy
       have he:ev (.op .len [y])= .int .i64 l.length:=by rw [bN];simp only [Uc,Ud,hl];rfl
       refine NR.value h (u:=.int .i64 l.length) ?_ (dc ⟨_,he⟩ (by rw [he];exact .int _ _))
       unfold WR
       simp only [h0]
       cases h2<;>simp [run_underlying hu,goInt]
      ·cases hsy
    case vl ts n b=>
     cases hx with
     |vl _ _ _ _ e he hc=>
     replace hsy:(match P.underlying t with |some (.slice _)=>some (eG (.int .i64) n) |_=>none)=some v:=hsy
     split at hsy
     ·rename_i hu
      cases hsy
      rcases hc with ⟨rfl |⟨ad,rfl⟩,_,c2⟩ |⟨m,c,rfl,_,c2,_⟩
      ·refine NR.value h (u:=.int .i64 0) ?_ (dc ⟨_,c2⟩ (by rw [c2];exact .int _ _))
       unfold WR
       simp only [h0]
       simp [run_underlying hu,goInt]
      ·refine NR.value h (u:=.int .i64 0) ?_ (dc ⟨_,c2⟩ (by rw [c2];exact .int _ _))
       unfold WR
       simp only [h0]
       simp [run_underlying hu,goInt]
      ·refine NR.value h (u:=.int .i64 (TP m)) ?_ (dc ⟨_,c2⟩ (by rw [c2];exact .int _ _))
       unfold WR
       simp only [h0]
       simp [run_underlying hu,goInt]
     ·cases hsy
   |none=>
   rw [hsy] at hr
   obtain ⟨n,hn,rfl⟩:=ba.1 hr
   refine NR.value h (u:=.int .i64 (TP n)) ?_ (.int _ _)
   unfold WR
   simp only [h0]
   unfold Gz at hn
   split at hn
   ·rename_i hu
    cases x with
    |str l=>cases hn;cases hx with |str _ s hs=>subst hs;simp [run_underlying hu,goInt]
    |_=>cases hn
   ·rename_i e hu
    cases x with
    |slice b o m lim wh=>cases hn;cases hx;simp [run_underlying hu,goInt]
    |aJ=>cases hn;cases hx;simp [run_underlying hu,goInt]
    |e0=>cases hn;cases hx;simp [run_underlying hu,goInt]
    |_=>cases hn
   ·rename_i m e hu
    cases hn
    simp [run_underlying hu,goInt]
   ·rename_i hu
    obtain ⟨es,hes,rfl⟩:=ba.1 hn
    obtain ⟨ents,hE,⟨rfl,rfl⟩ |⟨g,clock,rfl,hg⟩⟩:=h.entries hx hes
    ·have:=hE.length
     simp at this
     subst this
     simp [run_underlying hu,goInt]
    ·have hl:es.length=ents.size:=by simpa using hE.length
     have hgo:=Wc (P:=P) hg
     simp only [Wo,Wq,Uu,run_underlying hu,Uv,hgo,U2,goInt,hl]
     rfl
   ·cases hn
  ·cases hr
 ·cases hr
theorem Hz {ats:Array TypeId} {ty:TypeId} {args:List AV} {A:List Value} {r:aW} (h:SR P N μ σ w) (hA:bZ P μ args A) (hr:wS P ats.toList args σ=some r):
 NR P N μ σ w r ((do pure (.value (←Wn ats ty A.toArray)):Sem Next).run P w):=by
 unfold wS at hr
 split at hr
 ·rename_i t ts hts
  split at hr
  ·rename_i b k
   obtain ⟨M,K,rfl,hm,hk⟩:=jy hA
   have h0:ats[0]? =some t:=by rw [←U8,hts];rfl
   cases htm:Bj (σ.h.get b) with
   |true=>
    rw [htm] at hr
    obtain ⟨bl,hb,hr1⟩:=aa.1 (show ai (σ.h.get b) (Nq P t σ k b)=some r from hr)
    exact Hu h hm hk hb hr1 h0
   |false=>
   rw [htm] at hr
   replace hr:ai (rf P t) (fun q=>aQ (ga P 8 q.1 k) (ai (jk σ (.map b)) fun es=>omap (Np P q.1 k es) fun es=>aW.val (.tuple []) (σ.put b (.map es))) none)=some r:=hr
   clear htm
   obtain ⟨q,hq,hr1⟩:=aa.1 hr
   obtain ⟨hc,hr2⟩:=aA.1 hr1
   obtain ⟨es,hes,hr3⟩:=aa.1 hr2
   obtain ⟨es',hes',rfl⟩:=ba.1 hr3
   cases hm with
   |map _ e hb=>
    obtain ⟨hkb,g,ents,clock,rfl,hN,hg,he,hbn⟩:=h.zJ hb hes
    have hu:=eW hq
    obtain ⟨d,hd⟩:=sK (n:=7) hc
    have hchk:=pE (em:=ents.isEmpty) 8 10000 q.1 k K (by decide) hk hc w
    have hgo:=Wc (P:=P) hg
    rcases Hp (t:=q.1) hk he hes' with ⟨hf,hE⟩ |⟨j,v,hf,hj,hE⟩
    ·have hfk:=hf.run hd w
     refine (h.xq hb hkb hN hg ents clock hE hbn).val (u:=.tuple #[]) ?_ (.tuple [] [] .nil)
     unfold Wn
     simp only [h0,Wo,Wq,Wr,Uu,U2,Uv,run_underlying hu,hgo,hchk,hfk,Wj _ hg]
    ·have hfk:=hf.run hd w
     have hj':j<ents.size:=by simpa using hj
     refine (h.xq hb hkb hN hg (ents.eraseIdxIfInBounds j) clock (by simpa [Wt,hj'] using hE) (by simpa [Wt,hj'] using hbn.erase j)).val (u:=.tuple #[]) ?_ (.tuple [] [] .nil)
     unfold Wn
     simp only [h0,Wo,Wq,Wr,Uu,U2,Uv,run_underlying hu,hgo,hchk,hfk,Wj _ hg]
  ·cases hr
 ·cases hr
theorem NO {ats:Array TypeId} {ty:TypeId} {args:List AV} {A:List Value} {r:aW} (h:SR P N μ σ w) (hA:bZ P μ args A) (hr:GA P ats.toList args σ=some r):
 NR P N μ σ w r ((do pure (.value (←WS ats ty A.toArray)):Sem Next).run P w):=by
 unfold GA at hr
 split at hr
 ·rename_i t ts hts
  obtain ⟨e,he,hr1⟩:=aa.1 hr
  obtain ⟨z,hz,hr2⟩:=aa.1 hr1
  split at hr2
  ·rename_i b o n lim wh
   cases hr2
   obtain ⟨X,Y,rfl,hx,hy⟩:=jy hA
   have h0:ats[0]? =some t:=by rw [←U8,hts];rfl
   have hu:=cB he
   cases hx with
   |slice _ _ _ _ _ en ad c hen had hnc hmc hlim hc=>
    cases hy
    refine NR.value h (u:=.int .i64 0) ?_ (.int _ _)
    unfold WS
    simp [h0,run_underlying hu,Wx,bq hz,Wy,storeCells,goInt]
  ·rename_i b o n lim wh b' o' n' lim' wh'
   obtain ⟨cs,hcs,hr3⟩:=aa.1 hr2
   obtain ⟨σ',hst,rfl⟩:=ba.1 hr3
   obtain ⟨X,Y,rfl,hx,hy⟩:=jy hA
   have h0:ats[0]? =some t:=by rw [←U8,hts];rfl
   have hu:=cB he
   cases hx with
   |slice _ _ _ _ _ en ad c hen had hnc hmc hlim hc=>cases hy with
    |slice _ _ _ _ _ en' ad' c' hen' had' hnc' hmc' hlim' hc'=>
     obtain ⟨h1,h2,us,h3,h4,h5⟩:=h.gM hen' hcs
     obtain ⟨w',hrun,hg⟩:=h.store hen h3 hst
     have hload:(loadCells ad' (min n n'*z)).run P w= .ok us.toArray w:=by
      refine run_loadCells (P:=P) h4 fun j hj=>?_
      have hn0:0<min n n':=by
       rcases VI (min n n') with h0 |h0
       ·have hj:j<min n n'*z:=hj
        rw [h0] at hj;simp at hj
       ·exact h0
      obtain rfl:ad'=en'.a.add o':=had'.elim id (fun h=>by omega)
      rw [add_add]
      exact h5 j hj
     have hstore:(storeCells ad us).run P w= .ok () w':=by
      by_cases hn0:min n n'=0
      ·have:us=[]:=by
        have h4:us.length=min n n'*z:=h4
        rw [hn0] at h4
        exact UC (by simpa using h4)
       subst this
       simpa [storeCells] using hrun
      ·obtain rfl:ad=en.a.add o:=had.elim id (fun h=>by omega)
       exact hrun
     refine hg.val (u:=.int .i64 (TP (min n n'))) ?_ (.int _ _)
     unfold WS
     have hmin:Nat.min n' n=min n n':=Nat.min_comm n' n
     simp only [h0,Wo,Wq,Wr,Uu,U2,Uv,run_underlying hu,Wx,bq hz,hmin,Wy,hload,hstore,goInt]
     rfl
  ·cases hr2
 ·cases hr
theorem zP {ats:List TypeId} {tys:Array TypeId} {ty:TypeId} {args:List AV} {A:List Value} {r:aW} (h:SR P N μ σ w) (hA:bZ P μ args A):
 (GB P ats args σ=some r→NR P N μ σ w r ((do pure (.value (←WT tys ty A.toArray)):Sem Next).run P w))∧
 (GC P ats args σ=some r→NR P N μ σ w r ((do pure (.value (←WU tys ty A.toArray)):Sem Next).run P w)):=by
 constructor
 ·intro hr
  unfold GB at hr
  split at hr
  ·rename_i x y
   cases hr
   obtain ⟨X,Y,rfl,hx,hy⟩:=jy hA
   cases hx;cases hy
   refine NR.value h (u:=.int .i64 (if y<x then y else x)) (by simp [WT,Builtin.min2]) ?_
   rw [lf,gB]
   simp only [decide_eq_true_eq]
   exact .int _ _
  ·cases hr
 ·intro hr
  unfold GC at hr
  split at hr
  ·rename_i x y
   cases hr
   obtain ⟨X,Y,rfl,hx,hy⟩:=jy hA
   cases hx;cases hy
   refine NR.value h (u:=.int .i64 (if x<y then y else x)) (by simp [WU,Builtin.max2]) ?_
   rw [lf,gB]
   simp only [decide_eq_true_eq]
   exact .int _ _
  ·cases hr
theorem BW {b:Builtin} {ats:Array TypeId} {ty:TypeId} {consts:Array Bool} {args:List AV} {A:List Value} {r:aW} (h:SR P N μ σ w) (hA:bZ P μ args A) (hr:yO b P ats.toList args σ=some r):
 NR P N μ σ w r ((builtin b ats ty consts A.toArray).run P w):=by
 cases b<;>first |(cases hr;done) |skip
 case append=>
  replace hr:wR P ats.toList args σ=some r:=hr
  unfold wR at hr
  split at hr
  ·rename_i t t' hts
   split at hr
   ·rename_i x y
    obtain ⟨X,Y,rfl,hx,hy⟩:=jy hA
    have:ats= #[t,t']:=UD (by simpa using hts)
    subst this
    cases hb:TJ t t' with
    |true=>
     rw [hb] at hr
     obtain rfl:t=t':=T7 hb
     exact E0 h hx hy hr
    |false=>
     rw [hb] at hr
     exact BV h hx hy hr
   ·cases hr
  ·cases hr
 case cap=>exact Qp h hA hr
 case unsafeSliceData=>exact zN h hA hr
 case unsafeString=>exact Hx h hA hr
 case copy=>exact NO h hA hr
 case delete=>exact Hz h hA hr
 case len=>exact Qq h hA hr
 case max=>exact (zP (ats:=ats.toList) h hA).2 hr
 case min=>exact (zP (ats:=ats.toList) h hA).1 hr
 case panic=>
  replace hr:Bl P ats.toList args σ=some r:=hr
  unfold Bl at hr
  split at hr
  ·rename_i t v
   cases hr
   obtain ⟨X,rfl,hx⟩:=zO hA
   have hx0:=hx
   cases hx with
   |iface _ _ V hV=>exact ⟨_,rfl,rfl,hx0⟩
  ·cases hr
 case recover=>cases hr;exact ⟨rfl,rfl⟩
def cH (P:Program):Prop:=∀(f:FuncId) (fn:Func),P.funcs[f]? =some fn→(fn.name== "runtime.NumGoroutine")=false
theorem n9 {fn:Func} {n:String} {e:Array Value→Sem Value} (hn:fn.name=n) (h1:Extern.allGenericRows.lookup n=none) (h2:Extern.allTypedRows.lookup n=none) (h3:Extern.allRows.lookup n=some e):WV fn=some e:=by
 unfold WV
 simp only [hn,h1,h2,h3]
 rfl
theorem lk {fn:Func} {n:String} (hn:fn.name=n) (ho:fn.origin= "") (h1:Extern.allNextRows.lookup n=none):WW fn=none:=by
 unfold WW
 simp only [hn,ho,h1,show Extern.allNextRows.lookup "" =none by kernel_rfl]
 rfl
theorem zQ (x:UInt8) {c:Nat} (hc:c≤255):TJ x.toNat c=(x==c.toUInt8):=by
 have h1:(c.toUInt8).toNat=c:=by
  show (WO c).toNat=c
  rw [UInt8.toNat_ofNat']
  exact Nat.mod_eq_of_lt (by omega)
 by_cases h:x=c.toUInt8
 ·subst h
  rw [h1]
  simp
 ·have:x.toNat≠c:=fun e=>h (UInt8.toNat_inj.1 (by rw [h1];exact e))
  rw [show (x==c.toUInt8)=false by simpa using h]
  cases hb:TJ x.toNat c with
  |false=>rfl
  |true=>exact absurd (T7 hb) this
theorem DB {c:Nat} (hc:c≤255): ∀l:List UInt8,GD c (l.map (·.toNat))=Lib.countByte l c.toUInt8
 |[]=>rfl
 |x::l=>by
  show aQ (TJ x.toNat c) (TM (GD c (l.map (·.toNat)))) (GD c (l.map (·.toNat)))=_
  rw [zQ x hc,DB hc l]
  unfold Lib.countByte
  rw [List.count_cons]
  cases h:x==c.toUInt8<;>simp [aQ]
theorem DC {c:Nat} (hc:c≤255): ∀l:List UInt8,Kj (Ex c (l.map (·.toNat)))=Lib.indexByte l c.toUInt8
 |[]=>rfl
 |x::l=>by
  have ih:=DC hc l
  have e:Ex c ((x::l).map (·.toNat))=aQ (TJ x.toNat c) (some 0) (omap (Ex c (l.map (·.toNat))) TM):=rfl
  rw [e,zQ x hc]
  unfold Lib.indexByte
  cases h:x==c.toUInt8 with
  |true=>rfl
  |false=>
   simp only [Bool.false_eq_true,if_false]
   cases hi:Ex c (l.map (·.toNat)) with
   |none=>
    rw [hi] at ih
    rw [←ih]
    rfl
   |some n=>
    rw [hi] at ih
    rw [←ih]
    have h1:(Kj (some n)== -1)=false:=by
     show ((n:Int)== -1)=false
     rw [beq_eq_false_iff_ne]
     omega
    rw [h1]
    show ((TM n:Nat):Int)=_
    show ((n+1:Nat):Int)=(n:Int)+1
    omega
theorem NP {f:FuncId} {fn:Func} {args:List AV} {A:List Value} {r:aW} (h:SR P N μ σ w) (hf:P.funcs[f]? =some fn) (hb:fn.body=none) (hA:bZ P μ args A) (hr:P5 P fn args σ=some r):NR P N μ σ w r ((callFunc f A.toArray).run P w):=by
 obtain ⟨ho,hr⟩:=aA.1 (show aQ (fn.origin== "") (aQ (fn.name== "internal/bytealg.CountString") (nI σ args) (aQ (fn.name== "internal/bytealg.IndexByteString") (fh σ args) (aQ (fn.name== "internal/abi.NoEscape") (lT σ args) (aQ (fn.name== "internal/bytealg.MakeNoZero") (jJ P fn σ args) (aQ (fn.name== "math.Float64frombits") (jK σ args) none))))) none=some r from hr)
 have ho:fn.origin= "" :=by simpa using ho
 cases h1:fn.name== "internal/bytealg.CountString" with
 |true=>
  have hn:fn.name= "internal/bytealg.CountString" :=by simpa using h1
  rw [h1] at hr
  replace hr:nI σ args=some r:=hr
  unfold nI at hr
  split at hr
  ·rename_i l c hr0
   obtain ⟨hc,hr⟩:=aA.1 hr
   cases hr
   have hc:=Ua hc
   cases hA with
   |cons _ u _ us h1 h2=>cases h2 with
    |cons _ u2 _ us2 h3 h4=>
     cases h4
     cases h1 with
     |str _ s hs=>cases h3 with
      |int _ _=>
       subst hs
       refine NR.value h (u:=.int .i64 (GD c (s.data.toList.map (·.toNat)))) ?_ (.int _ _)
       rw [run_callFunc_extern hf (by rw [hn];decide) (by rw [hb];rfl) (lk hn ho (by kernel_rfl)) (n9 (e:=WX) hn (by kernel_rfl) (by kernel_rfl) (by kernel_rfl)),Lib.run_countString,DB hc]
       rfl
  ·cases hr
 |false=>
  rw [h1] at hr
  replace hr:aQ (fn.name== "internal/bytealg.IndexByteString") (fh σ args) (aQ (fn.name== "internal/abi.NoEscape") (lT σ args) (aQ (fn.name== "internal/bytealg.MakeNoZero") (jJ P fn σ args) (aQ (fn.name== "math.Float64frombits") (jK σ args) none)))=some r:=hr
  cases h2:fn.name== "internal/bytealg.IndexByteString" with
  |true=>
  rw [h2] at hr
  replace hr:fh σ args=some r:=hr
  have hn:fn.name= "internal/bytealg.IndexByteString" :=by simpa using h2
  unfold fh at hr
  split at hr
  ·rename_i l c hr0
   obtain ⟨hc,hr⟩:=aA.1 hr
   cases hr
   have hc:=Ua hc
   cases hA with
   |cons _ u _ us h1 h2=>cases h2 with
    |cons _ u2 _ us2 h3 h4=>
     cases h4
     cases h1 with
     |str _ s hs=>cases h3 with
      |int _ _=>
       subst hs
       refine NR.value h (u:=.int .i64 (Kj (Ex c (s.data.toList.map (·.toNat))))) ?_ (.int _ _)
       rw [run_callFunc_extern hf (by rw [hn];decide) (by rw [hb];rfl) (lk hn ho (by kernel_rfl)) (n9 (e:=WY) hn (by kernel_rfl) (by kernel_rfl) (by kernel_rfl)),Lib.run_indexByteString,DC hc]
       rfl
  ·cases hr
  |false=>
  rw [h2] at hr
  replace hr:aQ (fn.name== "internal/abi.NoEscape") (lT σ args) (aQ (fn.name== "internal/bytealg.MakeNoZero") (jJ P fn σ args) (aQ (fn.name== "math.Float64frombits") (jK σ args) none))=some r:=hr
  cases h3:fn.name== "internal/abi.NoEscape" with
  |true=>
   rw [h3] at hr
   replace hr:lT σ args=some r:=hr
   have hn:fn.name= "internal/abi.NoEscape" :=by simpa using h3
   unfold lT at hr
   split at hr
   ·cases hr
    obtain ⟨X,rfl,hx⟩:=qJ hA
    refine NR.value h (u:=X) ?_ hx
    rw [run_callFunc_extern hf (by rw [hn];decide) (by rw [hb];rfl) (lk hn ho (by kernel_rfl)) (n9 (e:=WZ) hn (by kernel_rfl) (by kernel_rfl) (by kernel_rfl))]
    rfl
   ·cases hr
  |false=>
   rw [h3] at hr
   replace hr:aQ (fn.name== "internal/bytealg.MakeNoZero") (jJ P fn σ args) (aQ (fn.name== "math.Float64frombits") (jK σ args) none)=some r:=hr
   cases h4:fn.name== "internal/bytealg.MakeNoZero" with
   |false=>
    rw [h4] at hr
    obtain ⟨h5,hr⟩:=aA.1 (show aQ (fn.name== "math.Float64frombits") (jK σ args) none=some r from hr)
    have hn:fn.name= "math.Float64frombits" :=by simpa using h5
    have run: ∀n:Int,(callFunc f #[.int .u64 n]).run P w= .ok (.value (.float .f64 n.toNat)) w:=fun n=>by
     rw [run_callFunc_extern hf (by rw [hn];decide) (by rw [hb];rfl) (lk hn ho (by kernel_rfl)) (n9 (e:=W0) hn (by kernel_rfl) (by kernel_rfl) (by kernel_rfl))]
     rfl
    unfold jK at hr
    split at hr
    ·cases hr
     obtain ⟨X,rfl,hx⟩:=qJ hA
     cases hx
     exact NR.value h (run _) (.fb _ _ rfl)
    ·cases hr
     obtain ⟨X,rfl,hx⟩:=qJ hA
     cases hx with
     |tm _ _ _ g1 g2=>
      obtain ⟨n,g1⟩:=g1
      rw [g1] at g2
      cases g2
      exact NR.value h (run _) (.fb _ _ g1)
    ·cases hr
   |true=>
   rw [h4] at hr
   replace hr:jJ P fn σ args=some r:=hr
   have hn:fn.name= "internal/bytealg.MakeNoZero" :=by simpa using h4
   unfold jJ at hr
   split at hr
   ·rename_i n hr0
    split at hr
    ·rename_i t hrt
     obtain ⟨e,he,hr1⟩:=aa.1 hr
     obtain ⟨z,hz,hr2⟩:=aa.1 hr1
     obtain ⟨hq,hr3⟩:=aA.1 hr2
     cases hr3
     simp only [Uj] at hq
     obtain ⟨⟨q1,q2⟩,q3⟩:=hq
     obtain rfl:z=1:=T7 q2
     have q3:n≤1000000:=Ua q3
     have hu:=cB he
     have hrs:fn.resultTypes= #[t]:=UD (by simpa using hrt)
     obtain ⟨X,rfl,hx⟩:=qJ hA
     cases hx
     obtain ⟨cs,hrun,h5,h6⟩:=Lib.run_makeNoZero (P:=P) w fn.params t e hu n (by omega)
     have hfind:WV fn=some (W1 fn.params fn.resultTypes):=by
      have h1:Extern.allGenericRows.lookup "internal/bytealg.MakeNoZero" =none:=by kernel_rfl
      have h2:Extern.allTypedRows.lookup "internal/bytealg.MakeNoZero" =some W1:=by kernel_rfl
      unfold WV
      simp only [hn,h1,h2]
      rfl
     have hG:bI P N μ σ w (dr μ σ.n ⟨⟨w.heap.size,0,none⟩,some (cs.size,e)⟩) (σ.push (.cells true e 0 (.nB []))) (w.drew.drew.alloc (.cells cs e)):=by
      refine h.laid ⟨rfl,rfl,rfl,by simp,fun k hk _=>heap_alloc_old w.drew.drew _ k hk⟩ (Uh _) ⟨w.heap.size,cs.size,cs,rfl,h.hN,heap_alloc_new w.drew.drew _,rfl,VT _,fun i hi=>absurd hi (Nat.not_lt_zero i)⟩
     refine ⟨_,.slice (some ⟨w.heap.size,0,none⟩) n cs.size,_,?_,hG,VR.slice σ.n 0 n false true _ _ cs.size (dK _ _ _) (.inl (by rw [add_nil])) h5 (h6 (by simp only [maxLen];omega)) (fun h=>by cases h) (fun _ _ sz t' hsz=>?_),gN⟩
     ·rw [run_callFunc_extern hf (by rw [hn];decide) (by rw [hb];rfl) (lk hn ho (by kernel_rfl)) hfind,hrs]
      have hrun':(W1 fn.params #[t] [Value.int .i64 (TP n)].toArray).run P w= .ok (.slice (some ⟨w.heap.size,0,none⟩) n cs.size) (w.drew.drew.alloc (.cells cs e)):=hrun
      rw [hrun']
      rfl
     ·cases hsz
      rw [cp hz,WL]
    ·cases hr
   ·cases hr
theorem E3 (hP:cH P) {f:FuncId} {args:List AV} {A:List Value} {r:aW} (h:SR P N μ σ w) (hA:bZ P μ args A) (hr:Di P f args σ=some r):NR P N μ σ w r ((callFunc f A.toArray).run P w):=by
 obtain ⟨fn,hf,hr1⟩:=aa.1 hr
 cases hb:fn.body with
 |none=>rw [hb] at hr1;exact NP h hf hb hA hr1
 |some c=>
  rw [hb] at hr1
  cases hr1
  refine ⟨A,?_,rfl,hA⟩
  have hn: ¬fn.name= "runtime.NumGoroutine" :=fun e=>by have:=hP f fn hf;rw [e] at this;simp at this
  unfold callFunc
  simp [hf,hn,hb]
theorem KO (hP:cH P) {c:Call} {ty:TypeId} {r:aW} (h:SR P N μ σ w) (ha:AR P μ a ca) (hr:yW c P a σ=some r):
 NR P N μ σ w r ((do let d ←resolve ca.eval c ty;invoke d.target d.args:Sem Next).run P w):=by
 obtain ⟨args,hargs,hr1⟩:=aa.1 hr
 have hA:=ha.cR h hargs
 clear hr
 cases hc:c.callee with
 |builtin b=>
  rw [hc] at hr1
  have hb:=BW (ty:=ty) (consts:=c.args.map fun | .const _=>true |_=>false) h hA hr1
  unfold resolve
  simp only [hc,Uu,U2,Uv,invoke,sF ca]
  exact hb
 |value f=>
  rw [hc] at hr1
  obtain ⟨v,hv,hr2⟩:=aa.1 hr1
  have hx:=ha.eval h hv
  unfold resolve
  simp only [hc]
  generalize ca.eval f=F at*
  cases v with
  |func g first cap=>cases hx with
   |func _ _ _ F C h1 h2=>
    have:=E3 hP (P:=P) h (h1.append (hA.append h2)) hr2
    simp only [W2,Uu,U2,Uv,invoke,sF ca]
    simpa [UW] using this
  |yield b=>
   cases hr2
   cases hx with
   |yield _ e he=>
    refine ⟨e,_,he,?_,rfl,hA⟩
    simp [W2,invoke,sF ca]
  |_=>cases hr2
 |invoke _ _=>rw [hc] at hr1;cases hr1
theorem HA {c:Call} {ty:TypeId} {r:aW} (h:SR P N μ σ w) (ha:AR P μ a ca) (hr:po c P a σ=some r):
 NR P N μ σ w r ((do pure (.defer (←resolve ca.eval c ty)):Sem Next).run P w):=by
 obtain ⟨args,hargs,hr1⟩:=aa.1 hr
 have hA:=ha.cR h hargs
 clear hr
 cases hc:c.callee with
 |value f=>
  rw [hc] at hr1
  obtain ⟨v,hv,hr2⟩:=aa.1 hr1
  have hx:=ha.eval h hv
  unfold resolve
  simp only [hc]
  generalize ca.eval f=F at*
  cases v with
  |func g first cap=>
   cases hr2
   cases hx with
   |func _ _ _ F C h1 h2=>
    refine ⟨_,?_,rfl,.fn g cap (first++args) C (F++(c.args.toList.map ca.eval)) h2 (h1.append hA)⟩
    simp [W2,sF ca]
  |_=>cases hr2
 |_=>rw [hc] at hr1;cases hr1
theorem dG (hP:cH P) {o:Oper} {r:aW} (h:SR P N μ σ w) (ha:AR P μ a ca) (hr:fR o.op P a σ=some r):NR P N μ σ w r ((execOp ca.eval o).run P w):=by
 cases ho:o.op
 case nilCheck x=>rw [ho] at hr;exact zl h ha o ho hr
 all_goals
  rw [ho] at hr
  first |(cases hr;done) |skip
 all_goals
  unfold execOp
  simp only [ho]
 case move x=>exact Dx h ha hr
 case assign x=>exact Dx h ha hr
 case pick c x y=>exact Kz h ha hr
 case alloc t=>exact Hb (a:=a) h hr
 case box t x=>exact NK h ha hr
 case build t ps=>exact Hj h ha hr
 case buildSlice t n ps=>exact uR h ha hr
 case load t x=>exact KA h ha hr
 case store t x y=>exact Hd h ha hr
 case binOp op t x y _=>exact NM (t':=t) h ha hr
 case unOp op _ x=>exact Qn h ha hr
 case convert s d x=>exact KJ h ha hr
 case makeInterface t x=>exact He h ha hr
 case makeFunc fn f c=>exact KB h ha hr
 case makeMap t r=>exact BM (a:=a) h hr
 case makeSlice t l c=>exact xn h ha hr
 case slice t x lo hi mx=>exact Hl h ha hr
 case fieldAddr t x f=>exact xk h ha hr
 case field t x f=>exact Hf h ha hr
 case indexAddr t x i=>exact xl h ha hr
 case index t x i=>exact Hg h ha hr
 case lookup t x k ok=>exact EU h ha hr
 case mapUpdate t m k x=>exact n6 h ha hr
 case insert t m k x=>exact n6 h ha hr
 case range t x=>exact Hv h ha hr
 case next x s=>exact KM h ha hr
 case typeAssert x t s ok=>exact E1 h ha hr
 case extract x i=>exact BF h ha hr
 case call c=>exact KO hP h ha hr
 case defer c=>exact HA h ha hr
 case panic x=>exact Hy h ha hr
end
end
section
open Go Go.RowKit
variable [Env]
inductive yA (P:Program) (μ:bu):dN→List PanicEntry→Prop
 |nil:yA P μ [] []
 |cons (v:AV) (r:Bool) (V:Value) (c:dN) (C:List PanicEntry) (h:VR P μ v V) (hs:yA P μ c C):yA P μ ((v,r)::c) ({v:=V,recovered:=r}::C)
inductive MR (P:Program) (μ:bu):cz→FrameMode→Prop
 |returning:MR P μ .returning .returning
 |panicking (c:dN) (C:List PanicEntry) (h:yA P μ c C):MR P μ (.panicking c) (.panicking C)
inductive Cx where
 |norm (cs:List Frame)
 |uU (c₀:Frame) (cs₀:List Frame)
def Cx.cs:Cx→FrameMode→List Frame
 | .norm cs,_=>cs
 | .uU c₀ cs₀,u=>{c₀ with mode:=u}::cs₀
def Cx.kind:Cx→CallKind
 | .norm _=>.normal
 | .uU _ _=>.deferred
inductive RR (P:Program) (μ:bu):Cx→Option cz→FrameMode→Prop
 |norm (cs:List Frame) (u:FrameMode):RR P μ (.norm cs) none u
 |uU (c₀:Frame) (cs₀:List Frame) (m:cz) (u:FrameMode) (h:MR P μ m u):RR P μ (.uU c₀ cs₀) (some m) u
inductive yB (μ:bu):Option Pos→Option Nat→Prop
 |none:yB μ none none
 |some (l:Pos) (g:Nat) (h:μ l=some ⟨⟨g,0,none⟩,none⟩):yB μ (some l) (some g)
theorem yA.mono {P:Program} {μ μ':bu} (hs:Sub μ μ') {c:dN} {C:List PanicEntry} (h:yA P μ c C):yA P μ' c C:=by
 induction h with
 |nil=>exact .nil
 |cons v r V c C h _ ih=>exact .cons v r V c C (h.mono hs) ih
theorem MR.mono {P:Program} {μ μ':bu} (hs:Sub μ μ') {m:cz} {u:FrameMode} (h:MR P μ m u):MR P μ' m u:=by
 cases h with
 |returning=>exact .returning
 |panicking c C h=>exact .panicking c C (h.mono hs)
theorem RR.mono {P:Program} {μ μ':bu} (hs:Sub μ μ') {X:Cx} {m:Option cz} {u:FrameMode} (h:RR P μ X m u):RR P μ' X m u:=by
 cases h with
 |norm cs u=>exact .norm cs u
 |uU c₀ cs₀ m u h=>exact .uU c₀ cs₀ m u (h.mono hs)
theorem yB.mono {μ μ':bu} (hs:Sub μ μ') {rd:Option Pos} {ro:Option Nat} (h:yB μ rd ro):yB μ' rd ro:=by
 cases h with
 |none=>exact .none
 |some l g h=>exact .some l g (hs _ _ h)
theorem yA.append {P:Program} {μ:bu} {c d:dN} {C D:List PanicEntry} (h:yA P μ c C) (k:yA P μ d D):yA P μ (c++d) (C++D):=by
 induction h with
 |nil=>exact k
 |cons v r V c C h _ ih=>exact .cons v r V _ _ h ih
theorem MR.settle {P:Program} {μ:bu} {m:cz} {u:FrameMode} (h:MR P μ m u):MR P μ (rm m) (settle u):=by
 cases h with
 |returning=>exact .returning
 |panicking c C h=>
  cases h with
  |nil=>exact .panicking _ _ .nil
  |cons v r V c C hv hs=>
   cases r with
   |false=>exact .panicking _ _ (.cons v false V c C hv hs)
   |true=>
    have:C.dropWhile (!·.goexit)=[]:=by
     clear hv
     induction hs with
     |nil=>rfl
     |cons v r V c C h _ ih=>simpa using ih
    show MR P μ .returning (match C.dropWhile (!·.goexit) with |[]=>.returning |rest=>.panicking rest)
    rw [this]
    exact .returning
theorem MR.raised {P:Program} {μ:bu} {m:cz} {u:FrameMode} {c:dN} {C:List PanicEntry} (h:MR P μ m u) (hc:yA P μ c C):MR P μ (rn m c) (raised u C):=by
 cases h with
 |returning=>exact .panicking _ _ hc
 |panicking d D h=>exact .panicking _ _ (hc.append h)
theorem MR.BX {P:Program} {μ:bu} {m:cz} {u:FrameMode} (h:MR P μ m u):u≠.run:=by cases h<;>simp
section
variable (P:Program) (N:Nat)
def R6 (b:Frame) (X:Cx) (k:List Item) (m:Machine) (μ':bu) (ca':Act) (u':FrameMode) (w':World):gW→Prop
 | .normal=>Steps P m (lone (b.atR ca' k) (X.cs u') w')
 | .exit id=>∃k1,exitTo id k1=exitTo id k∧Steps P m (lone (b.atR ca' (.code (.exit id)::k1)) (X.cs u') w')
 | .ret=>∃k1,Steps P m (lone (b.atR ca' (.code .ret::k1)) (X.cs u') w')
 | .panic c=>∃k1 C,yA P μ' c C∧Steps P m (lone ((b.atR ca' k1).raise C) (X.cs u') w')
def At (b:Frame) (X:Cx) (k:List Item) (m:Machine) (μ:bu) (σ:St) (w:World):Out→Prop
 | .at e a' s'=>∃μ' w' ca' u',bI P N μ σ w μ' s' w'∧AR P μ' a' ca'∧RR P μ' X a'.rc u'∧R6 P b X k m μ' ca' u' w' e
 | .fin .. =>False
def kM (X:Cx) (f:FuncId) (m:Machine) (μ:bu) (σ:St) (w:World):Out→Prop
 | .fin (.returned v) rc' s'=>∃μ' w' u' V fr,bI P N μ σ w μ' s' w'∧RR P μ' X rc' u'∧VR P μ' v V∧Steps P m (lone fr (X.cs u') w')∧fr.fn=f∧fr.kind=X.kind∧fr.going P w' (.returned V)
 | .fin (.panicked c) rc' s'=>∃μ' w' u' C fr,bI P N μ σ w μ' s' w'∧RR P μ' X rc' u'∧yA P μ' c C∧Steps P m (lone fr (X.cs u') w')∧fr.fn=f∧fr.kind=X.kind∧fr.going P w' (.panicked C)
 | .at .. =>False
def zR (c:Frame) (cs:List Frame) (m:Machine) (μ:bu) (σ:St) (w:World):Out→Prop
 | .fin (.returned v) _ s'=>∃μ' w' V,bI P N μ σ w μ' s' w'∧VR P μ' v V∧Steps P m (lone (c.finish V) cs w')
 | .fin (.panicked ch) _ s'=>∃μ' w' C,bI P N μ σ w μ' s' w'∧yA P μ' ch C∧Steps P m (lone (c.raise C) cs w')
 | .at .. =>False
structure gk (r:Rec):Prop where
 loop: ∀rd c f p a s o,r (.loop rd c f p) a s=some o→cJ P f p=some (.loop c)→∀μ w b X u k ca,SR P N μ s w→AR P μ a ca→RR P μ X a.rc u→b.kind=X.kind→yB μ rd b.roundOf→(∃fn,P.funcs[b.fn]? =some fn)→
  ∀m,W3 P m= .next (lone (b.atR ca (.code c::.inLoop c::k)) (X.cs u) w)→At P N b X k m μ s w o
 call: ∀f args rc a s o,r (.call f args rc) a s=some o→(∃fn c,P.funcs[f]? =some fn∧fn.body=some c)∧∀μ w X u us,SR P N μ s w→bZ P μ args us→RR P μ X rc u→
  kM P N X f (lone (W4 P f us.toArray X.kind) (X.cs u) w) μ s w o
 leave: ∀fn m a s o,r (.leave fn m) a s=some o→∀μ w X u fr,SR P N μ s w→TR P μ a.tm fr.tmps→xj P μ a.defers fr.defers→RR P μ X a.rc u→fr.kind=X.kind→P.funcs[fr.fn]? =some fn→MR P μ m fr.mode→
  kM P N X fr.fn (lone fr (X.cs u) w) μ s w o
 round: ∀l args a s o,r (.round l args) a s=some o→∀μ w us e,SR P N μ s w→bZ P μ args us→μ l=some e→
  ∃fn tmps assign body,(Instr.yield e.a.block us.toArray).run P w= .ok (.round e.a.block fn tmps assign body) w∧∀c cs,zR P N c cs (lone (W5 e.a.block fn tmps assign body .normal) (c::cs) w) μ s w o
end
section
variable {P:Program} {N:Nat}
theorem At.pre {b:Frame} {X:Cx} {k:List Item} {m m₁:Machine} {μ μ₁:bu} {σ σ₁:St} {w w₁:World} {o:Out} (hs:Steps P m m₁) (hg:bI P N μ σ w μ₁ σ₁ w₁) (h:At P N b X k m₁ μ₁ σ₁ w₁ o):At P N b X k m μ σ w o:=by
 cases o with
 |fin=>exact h.elim
 | «at» e a' s'=>
  obtain ⟨μ',w',ca',u',h1,h2,h3,h4⟩:=h
  refine ⟨μ',w',ca',u',hg.trans h1,h2,h3,?_⟩
  cases e with
  |normal=>exact hs.trans h4
  |exit id=>obtain ⟨k1,h5,h6⟩:=h4;exact ⟨k1,h5,hs.trans h6⟩
  |ret=>obtain ⟨k1,h6⟩:=h4;exact ⟨k1,hs.trans h6⟩
  |panic c=>obtain ⟨k1,C,h5,h6⟩:=h4;exact ⟨k1,C,h5,hs.trans h6⟩
theorem kM.pre {X:Cx} {f:FuncId} {m m₁:Machine} {μ μ₁:bu} {σ σ₁:St} {w w₁:World} {o:Out} (hs:Steps P m m₁) (hg:bI P N μ σ w μ₁ σ₁ w₁) (h:kM P N X f m₁ μ₁ σ₁ w₁ o):kM P N X f m μ σ w o:=by
 cases o with
 | «at» =>exact h.elim
 |fin e rc' s'=>
  cases e with
  |returned v=>obtain ⟨μ',w',u',V,fr,h1,h2,h3,h4,h5⟩:=h;exact ⟨μ',w',u',V,fr,hg.trans h1,h2,h3,hs.trans h4,h5⟩
  |panicked c=>obtain ⟨μ',w',u',V,fr,h1,h2,h3,h4,h5⟩:=h;exact ⟨μ',w',u',V,fr,hg.trans h1,h2,h3,hs.trans h4,h5⟩
theorem kM.back {c:Frame} {cs:List Frame} {f:FuncId} {m:Machine} {μ:bu} {σ:St} {w:World} {o:Out} (h:kM P N (.norm (c::cs)) f m μ σ w o):zR P N c cs m μ σ w o:=by
 cases o with
 | «at» =>exact h.elim
 |fin e rc' s'=>
  cases e with
  |returned v=>
   obtain ⟨μ',w',u',V,fr,h1,h2,h3,h4,h5,h6,h7⟩:=h
   exact ⟨μ',w',V,h1,h3,h4.trans (.one (step_leave_returned ⟨h7.1,h7.2.1,h6,h7.2.2⟩))⟩
  |panicked ch=>
   obtain ⟨μ',w',u',C,fr,h1,h2,h3,h4,h5,h6,h7⟩:=h
   exact ⟨μ',w',C,h1,h3,h4.trans (.one (step_leave_panicked ⟨h7.1,h7.2.1,h7.2.2⟩))⟩
section step
variable {b:Frame} {a:Act} {k:List Item} {cs:List Frame} {w w':World} {ops:Array Oper} {i:Nat} {rest:List Nat} {o:Oper}
theorem sP (ho:ops[i]? =some o) (hw:W6 o (yielded ops a.tmps)=true) {u:Value} (h:(o.semAt b.roundOf a.eval).run P w= .ok (.value u) w'):
 W3 P (lone (b.atR a (.inRegion ops (i::rest)::k)) cs w)= .next (lone (b.atR (a.put o.dst u) (.inRegion ops rest::k)) cs w'):=by
 have e:(ops[i]?).bind (·.dst)=o.dst:=by rw [ho];rfl
 rw [←e,←W7]
 exact step_lone_go (by rw [stepGR_op ho hw];simp [stepG.apply,W8,h])
theorem zU (ho:ops[i]? =some o) (hw:W6 o (yielded ops a.tmps)=true) (h:(o.semAt b.roundOf a.eval).run P w= .ok .skip w'):
 W3 P (lone (b.atR a (.inRegion ops (i::rest)::k)) cs w)= .next (lone (b.atR (a.put o.dst undef) (.inRegion ops rest::k)) cs w'):=by
 have e:(ops[i]?).bind (·.dst)=o.dst:=by rw [ho];rfl
 rw [←e,←W7]
 exact step_lone_go (by rw [stepGR_op ho hw];simp [stepG.apply,W8,h])
theorem mX (ho:ops[i]? =some o) (hw:W6 o (yielded ops a.tmps)=true) {f:FuncId} {args:Array Value} (h:(o.semAt b.roundOf a.eval).run P w= .ok (.enter f args) w'):
 W3 P (lone (b.atR a (.inRegion ops (i::rest)::k)) cs w)= .next (lone (W4 P f args .normal) (b.atR a (.inRegion ops (i::rest)::k)::cs) w'):=
 step_lone_go (by rw [stepGR_op ho hw];simp [stepG.apply,W8,h,W9])
theorem mY (ho:ops[i]? =some o) (hw:W6 o (yielded ops a.tmps)=true) {g:Nat} {f:FuncId} {tmps:Array Value} {as bd:Code} (h:(o.semAt b.roundOf a.eval).run P w= .ok (.round g f tmps as bd) w'):
 W3 P (lone (b.atR a (.inRegion ops (i::rest)::k)) cs w)= .next (lone (W5 g f tmps as bd .normal) (b.atR a (.inRegion ops (i::rest)::k)::cs) w'):=
 step_lone_go (by rw [stepGR_op ho hw];simp [stepG.apply,W8,h])
theorem HB (hro:b.roundOf=none) (ho:ops[i]? =some o) (hw:W6 o (yielded ops a.tmps)=true) {d:Deferred} (h:(execOp a.eval o).run P w= .ok (.defer d) w'):
 W3 P (lone (b.atR a (.inRegion ops (i::rest)::k)) cs w)= .next (lone (b.atR ({a with defers:=d::a.defers}.put o.dst undef) (.inRegion ops rest::k)) cs w'):=by
 have e:(ops[i]?).bind (·.dst)=o.dst:=by rw [ho];rfl
 rw [←e,←W7]
 exact step_lone_go (by rw [stepGR_op ho hw,hro,Xa];simp [stepG.apply,W8,h,W9])
theorem HC (ho:ops[i]? =some o) (hw:W6 o (yielded ops a.tmps)=true) {v:Value} (h:(o.semAt b.roundOf a.eval).run P w= .halt (.panic v) w'):
 W3 P (lone (b.atR a (.inRegion ops (i::rest)::k)) cs w)= .next (lone ((b.atR a (.inRegion ops (i::rest)::k)).raise [{v,recovered:=false}]) cs w'):=
 step_lone_go (by rw [stepGR_op ho hw];simp [stepG.apply,W8,h])
theorem HD (hro:b.roundOf=none) (ho:ops[i]? =some o) (hw:W6 o (yielded ops a.tmps)=true) (h:(execOp a.eval o).run P w= .ok .recover w'):
 W3 P (lone (b.atR a (.inRegion ops (i::rest)::k)) cs w)=
  match tryRecover (b.atR a (.inRegion ops (i::rest)::k)) cs with
  |some (v,cs')=>.next (lone (b.atR (a.put o.dst v) (.inRegion ops rest::k)) cs' w')
  |none=>.next (lone (b.atR (a.put o.dst .nilIface) (.inRegion ops rest::k)) cs w'):=by
 have e:(ops[i]?).bind (·.dst)=o.dst:=by rw [ho];rfl
 rw [←e]
 simp only [←W7]
 have hr:(b.atR a (.inRegion ops (i::rest)::k)).roundOf=none:=hro
 cases ht:tryRecover (b.atR a (.inRegion ops (i::rest)::k)) cs with
 |none=>exact step_lone_go (by rw [stepGR_op ho hw,hro,Xa];simp [stepG.apply,W8,h,hr,ht])
 |some q=>exact step_lone_go (by rw [stepGR_op ho hw,hro,Xa];simp [stepG.apply,W8,h,hr,ht])
end step
end
end
section
open Go Go.RowKit
variable [Env]
section
variable {P:Program} {N:Nat}
theorem gO {op:Op} {a:aV} {s:St} {x:aW} (h:fR op P a s=some x) (hx: ∀d s',x≠.defer d s'): ∀c,op≠.defer c:=by
 rintro c rfl
 obtain ⟨args,_,h⟩:=aa.1 (show po c P a s=some x from h)
 cases hc:c.callee with
 |value f=>
  rw [hc] at h
  obtain ⟨v,_,h⟩:=aa.1 h
  cases v with
  |func g first cap=>cases h;exact hx _ _ rfl
  |_=>cases h
 |_=>rw [hc] at h;cases h
theorem qK {want r:Bool} {v:AV} {V:Value} {μ:bu} (h:nM want v=some r) (hv:VR P μ v V):(∃b,V= .bool b∧r=(b==want))∨(V=undef∧r=false):=by
 unfold nM at h
 split at h
 ·cases h
  cases hv with
  |tuple _ C hC=>cases hC;exact .inr ⟨rfl,rfl⟩
 ·obtain ⟨b,hb,rfl⟩:=ba.1 h
  exact .inl ⟨b,mU hv hb,rfl⟩
theorem E4 {ops:Array Oper} {o:Oper} {a:aV} {ca:Act} {μ:bu} {r:Bool} (ha:AR P μ a ca) (h:dU ops.toList a o.guard=some r):W6 o (yielded ops ca.tmps)=r:=by
 unfold W6
 cases hg:o.guard with
 |none=>rw [hg] at h;cases h;rfl
 |some g=>
  rw [hg] at h
  obtain ⟨j,want⟩:=g
  obtain ⟨p,hp,h⟩:=aa.1 (show ai (ops.toList[j]?) (fun p=>ai p.dst fun d=>nM want (a.tmp d))=some r from h)
  obtain ⟨d,hd,h⟩:=aa.1 h
  have hpj:ops[j]? =some p:=by simpa using hp
  have hv:=ha.tm d
  simp only
  have hy:yielded ops ca.tmps j=match ca.tmps[d]? with |some (.bool b)=>some b |_=>none:=by
   unfold yielded
   rw [hpj]
   simp only [Option.bind_some,hd]
   cases ca.tmps[d]? with
   |none=>rfl
   |some q=>cases q<;>rfl
  rw [hy]
  rcases qK h hv with ⟨b,h1,rfl⟩ |⟨h1,rfl⟩
  ·have:ca.tmps[d]? =some (.bool b):=by
    rw [Uw] at h1
    cases hq:ca.tmps[d]? with
    |none=>rw [hq] at h1;cases h1
    |some q=>rw [hq] at h1;exact congrArg some h1
   rw [this]
   cases b<;>cases want<;>rfl
  ·have:ca.tmps[d]? =none∨ca.tmps[d]? =some undef:=by
    rw [Uw] at h1
    cases hq:ca.tmps[d]? with
    |none=>exact .inl rfl
    |some q=>rw [hq] at h1;exact .inr (congrArg some h1)
   rcases this with h |h<;>rw [h]<;>rfl
def sQ (P:Program) (N:Nat) (rd:Option Pos) (K:Kt) (b:Frame) (X:Cx) (k:List Item) (todo:List Item):Prop:=
 ∀a s o,K a s=some o→∀μ w u ca,SR P N μ s w→AR P μ a ca→RR P μ X a.rc u→yB μ rd b.roundOf→At P N b X k (lone (b.atR ca todo) (X.cs u) w) μ s w o
theorem sQ.put {rd:Option Pos} {K:Kt} {b:Frame} {X:Cx} {k todo:List Item} (hK:sQ P N rd K b X k todo) {d:Option Tmp} {v:AV} {a:aV} {s:St} {o:Out} (h:pq d v K a s=some o)
 {m:Machine} {μ₀ μ:bu} {σ₀:St} {w₀ w:World} {u:FrameMode} {ca:Act} {V:Value} (hg:bI P N μ₀ σ₀ w₀ μ s w) (ha:AR P μ a ca) (hX:RR P μ X a.rc u) (hrd:yB μ rd b.roundOf) (hv:VR P μ v V)
 (hs:Steps P m (lone (b.atR (ca.put d V) todo) (X.cs u) w)):At P N b X k m μ₀ σ₀ w₀ o:=by
 obtain ⟨a',ha',h⟩:=aa.1 h
 obtain ⟨h1,h2⟩:=ha.put hv ha'
 exact (hK a' s o h μ w u _ hg.sr h1 (h2▸hX) hrd).pre hs hg
theorem eY {μ:bu}:VR P μ .undef undef:=.tuple [] [] .nil
theorem jV (a:aV) (ds:List jI):(a.bH ds).tm=a.tm∧(a.bH ds).n=a.n∧(a.bH ds).defers=ds∧(a.bH ds).rc=a.rc:=by cases a;exact ⟨rfl,rfl,rfl,rfl⟩
theorem HF (a:aV) (m:Option cz):(a.qt m).tm=a.tm∧(a.qt m).n=a.n∧(a.qt m).defers=a.defers∧(a.qt m).rc=m:=by cases a;exact ⟨rfl,rfl,rfl,rfl⟩
theorem vO {rd:Option Pos} {K:Kt} {b:Frame} {X:Cx} {k:List Item} {ops:Array Oper} {i:Nat} {rest:List Nat} {p:Oper} (hp:ops[i]? =some p) (hK:sQ P N rd K b X k (.inRegion ops rest::k)) {a:aV} {q o:Out} (h:wY p.dst K a q=some o)
 {m m₁:Machine} {μ:bu} {σ:St} {w:World} {u:FrameMode} {ca:Act} (ha:AR P μ a ca) (hX:RR P μ X a.rc u) (hrd:yB μ rd b.roundOf) (hs:Steps P m m₁)
 (hb:zR P N (b.atR ca (.inRegion ops (i::rest)::k)) (X.cs u) m₁ μ σ w q):At P N b X k m μ σ w o:=by
 cases q with
 | «at» =>exact hb.elim
 |fin e rc s=>
  cases e with
  |returned v=>
   obtain ⟨μ',w',V,hg,hv,hst⟩:=hb
   rw [W7,show (ops[i]?).bind (·.dst)=p.dst from by rw [hp];rfl] at hst
   exact hK.put (show pq p.dst v K a s=some o from h) hg (ha.mono hg.ext.sub) (hX.mono hg.ext.sub) (hrd.mono hg.ext.sub) hv (hs.trans hst)
  |panicked c=>
   obtain ⟨μ',w',C,hg,hc,hst⟩:=hb
   cases h
   exact ⟨μ',w',ca,u,hg,ha.mono hg.ext.sub,hX.mono hg.ext.sub,_,C,hc,hs.trans hst⟩
theorem HG {μ:bu} {ro:Option Nat} (h:yB μ none ro):ro=none:=by cases h;rfl
theorem E5 (hP:cH P) {r:Rec} (hr:gk P N r) {rd:Option Pos} {K:Kt} {b:Frame} {X:Cx} {k:List Item} {ops:Array Oper} {i:Nat} {rest:List Nat} {p:Oper} (hp:ops[i]? =some p) (hK:sQ P N rd K b X k (.inRegion ops rest::k))
 {a:aV} {s:St} {x:aW} {o:Out} (hx:fR p.op P a s=some x) (h:wZ rd r p.dst K a x=some o) {μ:bu} {w:World} {u:FrameMode} {ca:Act}
 (hsr:SR P N μ s w) (ha:AR P μ a ca) (hX:RR P μ X a.rc u) (hk:b.kind=X.kind) (hrd:yB μ rd b.roundOf) (hw:W6 p (yielded ops ca.tmps)=true):
 At P N b X k (lone (b.atR ca (.inRegion ops (i::rest)::k)) (X.cs u) w) μ s w o:=by
 have hn:=dG hP hsr ha hx
 have hsem:(∀d s',x≠.defer d s')→p.semAt b.roundOf ca.eval=execOp ca.eval p:=fun h=>Oper.semAt_eq _ _ _ (gO hx h)
 cases x with
 |val v s'=>
  obtain ⟨μ',V,w',hres,hg,hv,_⟩:=hn
  exact hK.put h hg (ha.mono hg.ext.sub) (hX.mono hg.ext.sub) (hrd.mono hg.ext.sub) hv (.one (sP hp hw (by rw [hsem (by simp)];exact hres)))
 |skip s'=>
  obtain ⟨μ',w',hres,hg⟩:=hn
  exact hK.put h hg (ha.mono hg.ext.sub) (hX.mono hg.ext.sub) (hrd.mono hg.ext.sub) eY (.one (zU hp hw (by rw [hsem (by simp)];exact hres)))
 |enter f args s'=>
  obtain ⟨us,hres,rfl,hargs⟩:=hn
  obtain ⟨q,hq,h⟩:=aa.1 h
  have hb:=((hr.call f args none a s' q hq).2 μ w (.norm (b.atR ca (.inRegion ops (i::rest)::k)::X.cs u)) .run us hsr hargs (.norm _ _)).back
  exact vO hp hK h ha hX hrd (.one (mX hp hw (by rw [hsem (by simp)];exact hres))) hb
 |round l args s'=>
  obtain ⟨e,us,hl,hres,rfl,hargs⟩:=hn
  obtain ⟨q,hq,h⟩:=aa.1 h
  obtain ⟨fn,tmps,as,bd,hy,hb⟩:=hr.round l args a s' q hq μ w us e hsr hargs hl
  exact vO hp hK h ha hX hrd (.one (mY hp hw (by rw [hsem (by simp),hres];exact hy))) (hb _ _)
 |defer d s'=>
  obtain ⟨c,hres,rfl,hd⟩:=hn
  cases rd with
  |some l=>cases h
  |none=>
  have hro:=HG hrd
  obtain ⟨e1,e2,e3,e4⟩:=jV a (d::a.defers)
  have ha':AR P μ (a.bH (d::a.defers)) {ca with defers:=c::ca.defers}:=⟨e1▸ha.tm,e2▸ha.size,e3▸.cons d c _ _ hd ha.defers⟩
  have h':pq p.dst .undef K (a.bH (d::a.defers)) s'=some o:=h
  exact hK.put h' hsr.stay ha' (e4▸hX) hrd eY (.one (HB hro hp hw hres))
 |recover s'=>
  obtain ⟨hres,rfl⟩:=hn
  cases rd with
  |some l=>cases h
  |none=>
  have hro:=HG hrd
  have h:yZ p.dst K a s' a.rc=some o:=h
  have hst:=HD (k:=k) (cs:=X.cs u) (rest:=rest) hro hp hw hres
  have none_:tryRecover (b.atR ca (.inRegion ops (i::rest)::k)) (X.cs u)=none→pq p.dst .bw K a s'=some o→At P N b X k (lone (b.atR ca (.inRegion ops (i::rest)::k)) (X.cs u) w) μ s' w o:=by
   intro ht h
   rw [ht] at hst
   exact hK.put h hsr.stay ha hX hrd .bw (.one hst)
  have hX0:=hX
  generalize hrc:a.rc=rc at h hX0
  cases hX0 with
  |norm cs=>
   have hkn:b.kind= .normal:=hk
   exact none_ (by cases cs<;>simp [tryRecover,W9,hkn,Cx.cs]) h
  |uU c₀ cs₀ m _ hm=>
   have hkd:(b.atR ca (.inRegion ops (i::rest)::k)).kind= .deferred:=hk
   rw [tryRecover_deferred hkd] at none_ hst
   cases hm with
   |returning=>exact none_ rfl h
   |panicking c C hc=>cases hc with
    |nil=>exact none_ rfl h
    |cons v r V c C hv hs=>cases r with
     |true=>exact none_ rfl h
     |false=>
      obtain ⟨e1,e2,e3,e4⟩:=HF a (some (.panicking ((v,true)::c)))
      have ha':AR P μ (a.qt (some (.panicking ((v,true)::c)))) ca:=⟨e1▸ha.tm,e2▸ha.size,e3▸ha.defers⟩
      have h':pq p.dst v K (a.qt (some (.panicking ((v,true)::c)))) s'=some o:=h
      have hX':RR P μ (.uU c₀ cs₀) (a.qt (some (.panicking ((v,true)::c)))).rc (.panicking ({v:=V,recovered:=true}::C)):=by
       rw [e4]
       exact .uU c₀ cs₀ _ _ (.panicking _ _ (.cons v true V c C hv hs))
      exact hK.put h' hsr.stay ha' hX' hrd hv (.one hst)
 |panic v s'=>
  obtain ⟨V,hres,rfl,hv⟩:=hn
  cases h
  exact ⟨μ,w,ca,u,hsr.stay,ha,hX,_,_,.cons v false V [] [] hv .nil,.one (HC hp hw (by rw [hsem (by simp)];exact hres))⟩
end
end
section
open Go Go.RowKit
variable [Env]
section
variable {P:Program} {N:Nat}
theorem E6 (hP:cH P) {r:Rec} (hr:gk P N r) (ops:Array Oper) {rd:Option Pos} {b:Frame} {X:Cx} {k:List Item} (hk:b.kind=X.kind): ∀(l:List Oper) (i:Nat),ops.toList.drop i=l→
 sQ P N rd (GV P ops.toList l rd r) b X k (.inRegion ops (UR i l.length)::k):=by
 intro l
 induction l with
 |nil=>
  intro i _ a s o h μ w u ca hs ha hX hrd
  cases h
  exact ⟨μ,w,ca,u,hs.stay,ha,hX,.one stepR_region_end⟩
 |cons p l ih=>
  intro i hd a s o h μ w u ca hs ha hX hrd
  have hp:ops[i]? =some p:=by
   have:(ops.toList.drop i)[0]? =some p:=by rw [hd];rfl
   simpa using this
  have hd':ops.toList.drop (i+1)=l:=by
   rw [←List.drop_drop,hd];rfl
  have hK:=ih (i+1) hd'
  rw [show UR i (p::l).length=i::UR (i+1) l.length from rfl]
  obtain ⟨b',hb',h⟩:=aa.1 (show ai (dU ops.toList a p.guard) (Tu P rd r p (GV P ops.toList l rd r) a s)=some o from h)
  have hw:=E4 ha hb'
  cases b' with
  |true=>
   obtain ⟨x,hx,h⟩:=aa.1 (show ai (fR p.op P a s) (wZ rd r p.dst (GV P ops.toList l rd r) a)=some o from h)
   exact E5 hP hr hp hK hx h hs ha hX hk hrd hw
  |false=>
   have hskip:=stepR_op_skip (P:=P) (b:=b) (a:=ca) (k:=k) (cs:=X.cs u) (w:=w) (ops:=ops) (i:=i) (rest:=UR (i+1) l.length) (by rw [hp];exact hw)
   rw [show (ops[i]?).bind (·.dst)=p.dst from by rw [hp];rfl] at hskip
   exact hK.put (show pq p.dst .undef (GV P ops.toList l rd r) a s=some o from h) hs.stay ha hX hrd eY (.one hskip)
def dg (P:Program) (N:Nat) (r:Rec) (sm:Sm) (c:Code):Prop:=
 ∀rd a s o,sm rd r a s=some o→∀μ w b X u k ca,SR P N μ s w→AR P μ a ca→RR P μ X a.rc u→b.kind=X.kind→yB μ rd b.roundOf→(∃fn,P.funcs[b.fn]? =some fn)→
  At P N b X k (lone (b.atR ca (.code c::k)) (X.cs u) w) μ s w o
theorem At.bind {b:Frame} {X:Cx} {k k':List Item} {m:Machine} {μ:bu} {σ:St} {w:World} {o₁ o:Out} (h:At P N b X k' m μ σ w o₁) (hx: ∀id,exitTo id k'=exitTo id k) {K:Kt} (ht:yX K o₁=some o)
 (hK: ∀a s μ₁ w₁ u ca,bI P N μ σ w μ₁ s w₁→AR P μ₁ a ca→RR P μ₁ X a.rc u→K a s=some o→At P N b X k (lone (b.atR ca k') (X.cs u) w₁) μ₁ s w₁ o):At P N b X k m μ σ w o:=by
 cases o₁ with
 |fin=>exact h.elim
 | «at» e a' s'=>
  obtain ⟨μ',w',ca',u',h1,h2,h3,h4⟩:=h
  cases e with
  |normal=>exact (hK a' s' μ' w' u' ca' h1 h2 h3 ht).pre h4 h1
  |exit id=>cases ht;obtain ⟨k1,h5,h6⟩:=h4;exact ⟨μ',w',ca',u',h1,h2,h3,k1,h5.trans (hx id),h6⟩
  |ret=>cases ht;exact ⟨μ',w',ca',u',h1,h2,h3,h4⟩
  |panic c=>cases ht;exact ⟨μ',w',ca',u',h1,h2,h3,h4⟩
theorem iU {b:Frame} {a:Act} {k:List Item} {cs:List Frame} {w:World} {c:Code}:W3 P (lone (b.atR a (.code (.scope c)::k)) cs w)= .next (lone (b.atR a (.code c::.inScope c::k)) cs w):=
 step_lone_go (by simp [stepG,stepG.exec,W9])
theorem uV {b:Frame} {a:Act} {k:List Item} {cs:List Frame} {w:World} {c:Code}:W3 P (lone (b.atR a (.inScope c::k)) cs w)= .next (lone (b.atR a k) cs w):=
 step_lone_go (by simp [stepG,stepG.exec,W9])
theorem E7 {k:bf} {lp:er} (h:GR k=some lp):k= .loop lp:=by cases k<;>first |(cases h;rfl) |cases h
theorem SR.sR {μ:bu} {s:St} {w:World} (h:SR P N μ s w) {l:Pos} {e:eQ} {lp:er} (hl:μ l=some e) (hlp:s.loop l=some lp):
 s.h.get l=some (.loop lp)∧∃g r,e=⟨⟨g,0,none⟩,none⟩∧N≤g∧w.heap[g]? =some (.loop r)∧LR P μ lp r:=by
 obtain ⟨k,hk,hi⟩:=aa.1 hlp
 obtain rfl:=E7 hi
 obtain ⟨k',hk',hbr⟩:=h.bV l e hl
 rw [hk] at hk'
 cases hk'
 exact ⟨hk,hbr⟩
theorem SR.xr {μ:bu} {s:St} {w:World} (h:SR P N μ s w) {l:Pos} {g:Nat} {lp lp':er} {r r':Loop} (hl:μ l=some ⟨⟨g,0,none⟩,none⟩) (hk:s.h.get l=some (.loop lp)) (hN:N≤g) (hg:w.heap[g]? =some (.loop r)) (hr:LR P μ lp' r'):
 bI P N μ s w μ (s.put l (.loop lp')) (w.putObj g (.loop r')):=by
 have hlt:g<w.heap.size:=(Array.getElem?_eq_some_iff.1 hg).1
 refine h.jO hl hk rfl hN ⟨rfl,rfl,rfl,by simp,fun k _ hne=>?_⟩ ⟨g,r',rfl,hN,Xb hlt,hr⟩
 exact Xc fun e=>hne (by rw [e])
theorem E8 {r:Rec} {sx sy:Sm} {x y:Code} (hx:dg P N r sx x) (hy:dg P N r sy y): ∀rd a s o,Qd sx sy rd r a s=some o→∀μ w b X u k ca,SR P N μ s w→AR P μ a ca→RR P μ X a.rc u→b.kind=X.kind→yB μ rd b.roundOf→(∃fn,P.funcs[b.fn]? =some fn)→
 At P N b X k (lone (b.atR ca (.code (.seq x y)::k)) (X.cs u) w) μ s w o:=by
 intro rd a s o h μ w b X u k ca hs ha hX hk hrd hf
 obtain ⟨o₁,h1,h2⟩:=aa.1 (show ai (sx rd r a s) (yX (sy rd r))=some o from h)
 have:=hx rd a s o₁ h1 μ w b X u (.code y::k) ca hs ha hX hk hrd hf
 exact (At.bind (k:=k) this (fun id=>rfl) h2 fun a' s' μ₁ w₁ u₁ ca₁ hg ha' hX' hK=>hy rd a' s' o hK μ₁ w₁ b X u₁ k ca₁ hg.sr ha' hX' hk (hrd.mono hg.ext.sub) hf).pre (.one stepR_seq) hs.stay
theorem BY {r:Rec} {sx:Sm} {x:Code} (hx:dg P N r sx x):dg P N r sx (.scope x):=by
 intro rd a s o h μ w b X u k ca hs ha hX hk hrd hf
 have:=hx rd a s o h μ w b X u (.inScope x::k) ca hs ha hX hk hrd hf
 cases o with
 |fin=>exact this.elim
 | «at» e a' s'=>
  obtain ⟨μ',w',ca',u',h1,h2,h3,h4⟩:=this
  refine ⟨μ',w',ca',u',h1,h2,h3,?_⟩
  cases e with
  |normal=>exact .head iU (h4.trans (.one uV))
  |exit id=>obtain ⟨k1,h5,h6⟩:=h4;exact ⟨k1,h5,.head iU h6⟩
  |ret=>obtain ⟨k1,h6⟩:=h4;exact ⟨k1,.head iU h6⟩
  |panic c=>obtain ⟨k1,C,h5,h6⟩:=h4;exact ⟨k1,C,h5,.head iU h6⟩
theorem E9 {r:Rec} {c:Operand} {sx sy:Sm} {x y:Code} (hx:dg P N r sx x) (hy:dg P N r sy y):dg P N r (L8 P c sx sy) (.cond c x y):=by
 intro rd a s o h μ w b X u k ca hs ha hX hk hrd hf
 obtain ⟨v,hv,h2⟩:=aa.1 (show ai (a.eval P c) (L7 (sx rd r a s) (sy rd r a s))=some o from h)
 have hc:=ha.eval hs hv
 obtain ⟨t,ht,h2⟩:=aa.1 (show ai (fg v) (fun t=>aQ t (sx rd r a s) (sy rd r a s))=some o from h2)
 have hcv:=mU hc ht
 cases t with
 |true=>exact (hx rd a s o h2 μ w b X u k ca hs ha hX hk hrd hf).pre (.one (stepR_cond hcv)) hs.stay
 |false=>exact (hy rd a s o h2 μ w b X u k ca hs ha hX hk hrd hf).pre (.one (stepR_cond hcv)) hs.stay
theorem BZ {r:Rec} {id:Nat} {sx:Sm} {x:Code} (hx:dg P N r sx x):dg P N r (GP id sx) (.block id x):=by
 intro rd a s o h μ w b X u k ca hs ha hX hk hrd hf
 obtain ⟨o₁,h1,h2⟩:=aa.1 (show ai (sx rd r a s) (yY id)=some o from h)
 have:=hx rd a s o₁ h1 μ w b X u (.inBlock id::k) ca hs ha hX hk hrd hf
 cases o₁ with
 |fin=>exact this.elim
 | «at» e a' s'=>
  obtain ⟨μ',w',ca',u',q1,q2,q3,q4⟩:=this
  cases e with
  |normal=>cases h2;exact ⟨μ',w',ca',u',q1,q2,q3,.head stepR_block (q4.trans (.one stepR_inBlock))⟩
  |exit id'=>
   obtain ⟨k1,h5,h6⟩:=q4
   have h2:aQ (TJ id' id) (some (Out.at .normal a' s')) (some (.at (.exit id') a' s'))=some o:=h2
   cases hb:TJ id' id with
   |true=>
    rw [hb] at h2
    cases h2
    obtain rfl:id'=id:=T7 hb
    rw [show exitTo id' (.inBlock id'::k)=some k from by simp [exitTo]] at h5
    exact ⟨μ',w',ca',u',q1,q2,q3,.head stepR_block (h6.trans (.one (stepR_exit h5)))⟩
   |false=>
    rw [hb] at h2
    cases h2
    have hne: ¬id=id':=fun e=>by subst e;simp at hb
    rw [show exitTo id' (.inBlock id::k)=exitTo id' k from by simp [exitTo,hne]] at h5
    exact ⟨μ',w',ca',u',q1,q2,q3,k1,h5,.head stepR_block h6⟩
  |ret=>cases h2;obtain ⟨k1,h6⟩:=q4;exact ⟨μ',w',ca',u',q1,q2,q3,k1,.head stepR_block h6⟩
  |panic c=>cases h2;obtain ⟨k1,C,h5,h6⟩:=q4;exact ⟨μ',w',ca',u',q1,q2,q3,k1,C,h5,.head stepR_block h6⟩
def zW (P:Program) (N:Nat) (rd:Option Pos) (c:Code) (a:aV) (s:St) (o:Out):Prop:=
 ∀μ w b X u k ca,SR P N μ s w→AR P μ a ca→RR P μ X a.rc u→b.kind=X.kind→yB μ rd b.roundOf→(∃fn,P.funcs[b.fn]? =some fn)→
  ∀m,W3 P m= .next (lone (b.atR ca (.code c::.inLoop c::k)) (X.cs u) w)→At P N b X k m μ s w o
def sS (P:Program) (N:Nat) (hk:Hk):Prop:=∀f p rd a s o,hk f p rd a s=some o→∀c,cJ P f p=some (.loop c)→zW P N rd c a s o
theorem mZ {els o:Option Out} {r:Out} (h:qC els o=some r):o=some r∨els=some r:=by
 cases o with
 |none=>exact .inr h
 |some x=>exact .inl h
theorem Fa {r:Rec} (hr:gk P N r) {hk:Hk} (hh:sS P N hk) {f:FuncId} {p:Pos} {x:Code} (hc:cJ P f p=some (.loop x)):dg P N r (fun rd r a s=>qC (r (.loop rd x f p) a s) (hk f p rd a s)) (.loop x):=by
 intro rd a s o h μ w b X u k ca hs ha hX hk hrd hf
 rcases mZ h with h |h
 ·exact hh f p rd a s o h x hc μ w b X u k ca hs ha hX hk hrd hf _ stepR_loop
 ·exact hr.loop rd x f p a s o h hc μ w b X u k ca hs ha hX hk hrd hf _ stepR_loop
theorem Fb {r:Rec} {id:Nat}:dg P N r (fun _ _ a s=>some (.at (.exit id) a s)) (.exit id):=by
 intro rd a s o h μ w b X u k ca hs ha hX hk hrd hf
 cases h
 exact ⟨μ,w,ca,u,hs.stay,ha,hX,k,rfl,.refl _ _⟩
theorem HH {r:Rec}:dg P N r (fun _ _ a s=>some (.at .ret a s)) .ret:=by
 intro rd a s o h μ w b X u k ca hs ha hX hk hrd hf
 cases h
 exact ⟨μ,w,ca,u,hs.stay,ha,hX,k,.refl _ _⟩
theorem Fc {r:Rec}:dg P N r (fun _ _ a s=>some (.at .normal a s)) .skip:=by
 intro rd a s o h μ w b X u k ca hs ha hX hk hrd hf
 cases h
 exact ⟨μ,w,ca,u,hs.stay,ha,hX,.one stepR_skip⟩
theorem B0 {r:Rec} {l:Nat}:dg P N r (fun _ _ a s=>some (.at .normal a s)) (.label l):=by
 intro rd a s o h μ w b X u k ca hs ha hX hk hrd hf
 cases h
 exact ⟨μ,w,ca,u,hs.stay,ha,hX,.one stepR_label⟩
theorem zX (hP:cH P) {r:Rec} (hr:gk P N r) {id:Nat} {ops:Array Oper}:dg P N r (nQ P ops false) (.region id ops false):=by
 intro rd a s o h μ w b X u k ca hs ha hX hk hrd hf
 have:=E6 hP hr ops (rd:=rd) (k:=k) hk ops.toList 0 (by simp) a s o h μ w u ca hs ha hX hrd
 refine At.pre (.one stepR_region) hs.stay ?_
 rw [List.range_eq_range']
 simpa using this
end
end
section
open Go Go.RowKit
variable [Env]
section
variable {P:Program} {N:Nat}
theorem KP {a:aV} {s:St} {j:Option Code} {o:Out} (h:GQ a s j=some o) {b:Frame} {X:Cx} {k:List Item} {m:Machine} {μ₀ μ:bu} {σ₀:St} {w₀ w:World} {u:FrameMode} {ca:Act}
 (hg:bI P N μ₀ σ₀ w₀ μ s w) (ha:AR P μ a ca) (hX:RR P μ X a.rc u) (hs:Steps P m (lone (b.atR ca ((j.map Item.code).toList++k)) (X.cs u) w)):At P N b X k m μ₀ σ₀ w₀ o:=by
 cases j with
 |none=>cases h;exact ⟨μ,w,ca,u,hg,ha,hX,hs⟩
 |some c=>
  cases c<;>first |(cases h;done) |skip
  ·cases h;exact ⟨μ,w,ca,u,hg,ha,hX,k,rfl,hs⟩
  ·cases h;exact ⟨μ,w,ca,u,hg,ha,hX,k,hs⟩
theorem LR.with {μ:bu} {lp:er} {r:Loop} (h:LR P μ lp r) (st:LoopState) (p:Option Code):LR P μ (lp.with st p) {r with state:=st,pending:=p}:=
 ⟨rfl,rfl,h.tmps,h.size,h.params,h.fn,h.defers,h.code⟩
theorem KQ {lp:er} (h:lp.busy=false):lp.state≠.busy:=by
 intro e
 unfold er.busy at h
 rw [e] at h
 cases h
theorem HI {lp:er} (h:lp.ready=true):lp.state= .ready:=by
 unfold er.ready at h
 split at h
 ·assumption
 ·cases h
theorem B1 {r:Rec} (hP:cH P) (hr:gk P N r) {fi:FuncId} {pi:Pos} {f:Operand} {ps:Array Tmp} {assign body:Code} (hcode:cJ P fi pi=some (.rangeFunc f ps assign body)):dg P N r (GU P fi pi f ps) (.rangeFunc f ps assign body):=by
 intro rd a s o h μ w b X u k ca hs ha hX hk hrd hf
 obtain ⟨v,hv,h1⟩:=aa.1 (show ai (a.eval P f) (GS fi pi ps rd r a s)=some o from h)
 have hx:=ha.eval hs hv
 clear h
 cases v with
 |func g first cap=>
  obtain ⟨⟨d,mark,s₁⟩,hq,h2⟩:=aa.1 (show ai (sn s rd) (Dp fi pi first cap g ps r a)=some o from h1)
  obtain ⟨q,hcall,h3⟩:=aa.1 (show ai (r (.call g (first++(.yield s₁.n::cap)) none) a (s₁.push (.loop {state:=.ready,pending:=none,tm:=a.tm,n:=a.n,params:=ps.toList,defers:=d,f:=fi,p:=pi}))) (vq s₁.n (a.bH (mark++a.defers)))=some o from h2)
  clear h1 h2
  have hin: ∃μ₁ w₁ B M,bI P N μ s w μ₁ s₁ w₁∧(∃e,μ₁ d=some e∧e.a.block=B)∧xj P μ₁ mark M∧
   (Xd b.fn ca.tmps ps assign body b.roundOf).run P w= .ok (w₁.heap.size,M) (w₁.alloc (.loop {state:=.ready,pending:=none,fn:=b.fn,tmps:=ca.tmps,params:=ps,assign,body,defers:=B})):=by
   cases rd with
   |none=>
    cases hq
    have hro:=HG hrd
    have hg:bI P N μ s w (dr μ s.n ⟨⟨w.heap.size,0,none⟩,none⟩) (s.push (.deferred true)) (w.alloc (.deferred (some []))):=
     hs.laid (UF w _ none) (Uh _) ⟨w.heap.size,rfl,hs.hN,heap_alloc_new w _⟩
    refine ⟨_,_,w.heap.size,_,hg,⟨_,dK _ _ _,rfl⟩,.cons _ _ _ _ (.collected s.n _ (dK _ _ _)) .nil,?_⟩
    rw [hro,run_enterLoop_outer]
    simp
   |some l=>
    obtain ⟨lp,hlp,hq⟩:=ba.1 (show omap (s.loop l) (fun r=>(r.defers,[],s))=some (d,mark,s₁) from hq)
    cases hq
    generalize hro:b.roundOf=ro at*
    cases hrd with
    |some _ gl hl=>
     obtain ⟨_,g',rr,he,hN',hg',hLR⟩:=hs.sR hl hlp
     cases he
     obtain ⟨e,he,hb⟩:=hLR.defers
     refine ⟨μ,w,rr.defers,[],hs.stay,⟨e,he,hb.symm⟩,.nil,?_⟩
     unfold Xd
     simp only [Uu,run_getLoop hg',Uv,U2,run_newObj_alloc]
  obtain ⟨μ₁,w₁,B,M,hg₁,⟨e,he,hB⟩,hM,hen⟩:=hin
  have hg₂:bI P N μ₁ s₁ w₁ (dr μ₁ s₁.n ⟨⟨w₁.heap.size,0,none⟩,none⟩) (s₁.push (.loop {state:=.ready,pending:=none,tm:=a.tm,n:=a.n,params:=ps.toList,defers:=d,f:=fi,p:=pi}))
   (w₁.alloc (.loop {state:=.ready,pending:=none,fn:=b.fn,tmps:=ca.tmps,params:=ps,assign,body,defers:=B})):=by
   have hsub:=fq (μ:=μ₁) (b:=s₁.n) (e:=⟨⟨w₁.heap.size,0,none⟩,none⟩) (.inl hg₁.sr.fresh)
   refine hg₁.sr.laid (UF w₁ _ none) (Uh _) ⟨w₁.heap.size,_,rfl,hg₁.sr.hN,heap_alloc_new w₁ _,?_⟩
   exact ⟨rfl,rfl,(ha.tm.mono hg₁.ext.sub).mono hsub,ha.size,rfl,hf,⟨e,hsub _ _ he,hB.symm⟩,⟨f,ps,hcode⟩⟩
  have hg:=hg₁.trans hg₂
  have hx':=hx.mono hg.ext.sub
  have hrd':=hrd.mono hg.ext.sub
  generalize hw₂:w₁.alloc (.loop {state:=.ready,pending:=none,fn:=b.fn,tmps:=ca.tmps,params:=ps,assign,body,defers:=B})=w₂ at*
  generalize hμ₂:dr μ₁ s₁.n ⟨⟨w₁.heap.size,0,none⟩,none⟩=μ₂ at*
  have hl:μ₂ s₁.n=some ⟨⟨w₁.heap.size,0,none⟩,none⟩:=by rw [←hμ₂];exact dK _ _ _
  generalize hF:ca.eval f=F at*
  cases hx' with
  |func _ _ _ Fi C h1 h2=>
  obtain ⟨⟨fn,c,hfn,hbody⟩,hends⟩:=hr.call _ _ _ _ _ _ hcall
  have hargs:bZ P μ₂ (first++(.yield s₁.n::cap)) (Fi++(.func (.yield w₁.heap.size) #[] #[]::C)):=h1.append (.cons _ _ _ _ (.yield s₁.n _ hl) h2)
  obtain ⟨e1,e2,e3,e4⟩:=jV a (mark++a.defers)
  have dapp: ∀{x y:List jI} {cx cy:List Deferred},xj P μ₂ x cx→xj P μ₂ y cy→xj P μ₂ (x++y) (cx++cy):=by
   intro x y cx cy hx hy
   induction hx with
   |nil=>exact hy
   |cons d c ds cs h _ ih=>exact .cons d c _ _ h ih
  have ha':AR P μ₂ (a.bH (mark++a.defers)) {ca with defers:=M++ca.defers}:=
   ⟨e1▸ha.tm.mono hg.ext.sub,e2▸ha.size,e3▸dapp (hM.mono hg₂.ext.sub) (ha.defers.mono hg.ext.sub)⟩
  have hX':RR P μ₂ X (a.bH (mark++a.defers)).rc u:=e4▸hX.mono hg.ext.sub
  have hback:=(hends μ₂ w₂ (.norm (b.atR {ca with defers:=M++ca.defers} (.inRangeFunc w₁.heap.size::k)::X.cs u)) .run _ hg.sr hargs (.norm _ _)).back
  have hstep:W3 P (lone (b.atR ca (.code (.rangeFunc f ps assign body)::k)) (X.cs u) w)=
   .next (lone (W4 P g (Fi++(.func (.yield w₁.heap.size) #[] #[]::C)).toArray .normal) (b.atR {ca with defers:=M++ca.defers} (.inRangeFunc w₁.heap.size::k)::X.cs u) w₂):=by
   refine stepR_rangeFunc (d:={target:=.fn (.func g) C.toArray,args:=Fi.toArray++ #[.func (.yield w₁.heap.size) #[] #[]]}) (w₁':=w₂) hen ?_ ?_
   ·show (W2 (ca.eval f) (#[Operand.const (.func (.yield w₁.heap.size) #[] #[])].map ca.eval):Sem Deferred).run P w₂=_
    rw [hF]
    simp [W2,Act.eval]
   ·have hn: ¬fn.name= "runtime.NumGoroutine" :=fun e=>by have:=hP g fn hfn;rw [e] at this;simp at this
    simp [invoke,callFunc,hfn,hn,hbody]
  cases q with
  | «at» =>exact hback.elim
  |fin ee rc s₃=>
   cases ee with
   |returned v=>
    obtain ⟨μ₃,w₃,V,hg₃,hv,hst⟩:=hback
    rw [finish_atR_inRangeFunc] at hst
    obtain ⟨lp,hlp,h4⟩:=aa.1 (show ai (s₃.loop s₁.n) (fun lp=>aQ lp.busy none (GQ (a.bH (mark++a.defers)) (s₃.put s₁.n (.loop (lp.with .exhausted lp.pending))) lp.pending))=some o from h3)
    obtain ⟨hbz,h5⟩:=dW.1 h4
    have hl₃:=hg₃.ext.sub _ _ hl
    obtain ⟨hk₃,g',rr,he',hN',hg',hLR⟩:=hg₃.sr.sR hl₃ hlp
    cases he'
    have hg₄:=hg₃.sr.xr hl₃ hk₃ hN' hg' (hLR.with .exhausted lp.pending)
    have hend:=run_endLoop (P:=P) hg' (by rw [hLR.state];exact KQ hbz)
    rw [hLR.pending] at hend
    have hsub:=hg₃.ext.sub
    exact KP h5 ((hg.trans hg₃).trans hg₄) (ha'.mono hsub) (hX'.mono hsub) (.head hstep (hst.trans (.one (stepR_endRangeFunc (by rw [hend,←hLR.pending])))))
   |panicked c=>
    obtain ⟨μ₃,w₃,C',hg₃,hc,hst⟩:=hback
    cases h3
    exact ⟨μ₃,w₃,_,u,hg.trans hg₃,ha'.mono hg₃.ext.sub,hX'.mono hg₃.ext.sub,_,C',hc,.head hstep hst⟩
 |_=>cases h1
theorem jW (hP:cH P) {r:Rec} (hr:gk P N r) (hdraw: ∀id ops,dg P N r (nQ P ops true) (.region id ops true)) {hk:Hk} (hh:sS P N hk) {f:FuncId}: ∀(c:Code) (p:Pos),cJ P f p=some c→dg P N r (kJ P hk f c p) c:=by
 intro c
 induction c with
 |skip=>exact fun _ _=>Fc
 |region id ops draw=>cases draw with
  |true=>exact fun _ _=>hdraw id ops
  |false=>exact fun _ _=>zX hP hr
 |seq x y hx hy=>exact fun p h=>E8 (hx _ (fm h rfl)) (hy _ (nV h rfl))
 |cond c x y hx hy=>exact fun p h=>E9 (hx _ (fm h rfl)) (hy _ (nV h rfl))
 |block id c hc=>exact fun p h=>BZ (hc _ (fm h rfl))
 |loop c _=>exact fun p h=>Fa hr hh h
 |rangeFunc g ps as bd _ _=>exact fun p h=>B1 hP hr h
 |exit id=>exact fun _ _=>Fb
 |scope c hc=>exact fun p h=>BY (hc _ (fm h rfl))
 |label l=>exact fun _ _=>B0
 |goto l=>intro p _ rd a s o h;cases h
 |ret=>exact fun _ _=>HH
 |refuse y=>intro p _ rd a s o h;cases h
end
end
section
open Go Go.RowKit
variable [Env]
section
variable {P:Program} {N:Nat}
def KR (tmps:Array Value):ResultVar→Sem Value
 | .tmp t=>pure (tmps.getD t undef)
 | .cell x t=>do loadVar t (←asAddr (tmps.getD x undef))
theorem B2 {μ:bu} {s:St} {w:World} {a:aV} {tmps:Array Value} (hs:SR P N μ s w) (ht:TR P μ a.tm tmps) {r:ResultVar} {v:AV} (h:Bs P a s r=some v):
 ∃V,(KR tmps r).run P w= .ok V w∧VR P μ v V:=by
 cases r with
 |tmp t=>cases h;exact ⟨_,rfl,ht t⟩
 |cell x t=>
  have hx:VR P μ (a.tmp x) (tmps.getD x undef):=ht x
  replace h:Dm P t s (a.tmp x)=some v:=h
  show ∃V,(do loadVar t (←asAddr (tmps.getD x undef)):Sem Value).run P w= .ok V w∧VR P μ v V
  generalize a.tmp x=ax at*
  generalize tmps.getD x undef=X at*
  cases ax with
  |ptr b o=>cases hx with
   |ptr _ _ e he=>
    obtain ⟨V,hrun,hv,_⟩:=hs.load he h
    exact ⟨V,by simp [asAddr,hrun],hv⟩
  |_=>cases h
theorem HJ {μ:bu} {s:St} {w:World} {a:aV} {tmps:Array Value} (hs:SR P N μ s w) (ht:TR P μ a.tm tmps): ∀{rs:List ResultVar} {vs:List AV},Ko P a s rs=some vs→
 ∃Vs,(rs.mapM (KR tmps)).run P w= .ok Vs w∧bZ P μ vs Vs:=by
 intro rs
 induction rs with
 |nil=>intro vs h;cases h;exact ⟨[],rfl,.nil⟩
 |cons r rs ih=>
  intro vs h
  obtain ⟨v,hv,h⟩:=aa.1 (show ai (Bs P a s r) (fun v=>omap (Ko P a s rs) (v:: ·))=some vs from h)
  obtain ⟨vs',hvs,rfl⟩:=ba.1 h
  obtain ⟨V,h1,h2⟩:=B2 hs ht hv
  obtain ⟨Vs,h3,h4⟩:=ih hvs
  refine ⟨V::Vs,?_,.cons _ _ _ _ h2 h4⟩
  rw [List.mapM_cons]
  simp only [Uu,h1,h3,Uv,U2]
theorem zY {μ:bu} {s:St} {w:World} {a:aV} {tmps:Array Value} {fn:Func} {v:AV} (hs:SR P N μ s w) (ht:TR P μ a.tm tmps) (h:sk P fn a s=some v):
 ∃V,(results fn tmps).run P w= .ok V w∧VR P μ v V:=by
 obtain ⟨vs,hvs,rfl⟩:=ba.1 h
 obtain ⟨Vs,h1,h2⟩:=HJ hs ht hvs
 have h1':(fn.results.mapM (KR tmps)).run P w= .ok Vs.toArray w:=by
  rw [Array.mapM_eq_mapM_toList]
  simp [h1]
 refine ⟨if h:Vs.toArray.size=1 then Vs.toArray[0] else .tuple Vs.toArray,?_,?_⟩
 ·have e:results fn tmps=(do let vs ←fn.results.mapM (KR tmps);pure (if h:vs.size=1 then vs[0] else .tuple vs)):=by
   unfold results
   congr 2
  rw [e]
  simp only [Uu,h1',Uv,U2]
 ·cases h2 with
  |nil=>exact .tuple [] [] .nil
  |cons v u vs us hv hs'=>cases hs' with
   |nil=>exact hv
   |cons v' u' vs' us' hv' hs''=>
    have: ¬(u::u'::us').toArray.size=1:=by simp
    rw [dif_neg this]
    exact .tuple _ _ (.cons _ _ _ _ hv (.cons _ _ _ _ hv' hs''))
theorem Tx {r:cz} {μ:bu} {u:FrameMode} (h:MR P μ r u):u≠.run:=h.BX
theorem zZ (hP:cH P) {r:Rec} (hr:gk P N r) {fn:Func} {m:cz} {a:aV} {s:St} {o:Out} (h:xe P fn m r a s=some o) {μ:bu} {w:World} {X:Cx} {u:FrameMode} {fr:Frame}
 (hs:SR P N μ s w) (ht:TR P μ a.tm fr.tmps) (hd:xj P μ a.defers fr.defers) (hX:RR P μ X a.rc u) (hk:fr.kind=X.kind) (hf:P.funcs[fr.fn]? =some fn) (hm:MR P μ m fr.mode):
 kM P N X fr.fn (lone fr (X.cs u) w) μ s w o:=by
 unfold xe at h
 cases hda:a.defers with
 |nil=>
  rw [hda] at h hd
  replace h:y3 P fn a s m=some o:=h
  have hdn:fr.defers=[]:=by
   generalize fr.defers=x at hd
   cases hd
   rfl
  generalize hmode:fr.mode=md at hm
  cases hm with
  |returning=>
   obtain ⟨v,hv,rfl⟩:=ba.1 (show omap (sk P fn a s) (fun v=>Out.fin (.returned v) a.rc s)=some o from h)
   obtain ⟨V,h1,h2⟩:=zY hs ht hv
   exact ⟨μ,w,u,V,fr,hs.stay,hX,h2,.refl _ _,rfl,hk,hmode,hdn,fn,hf,h1⟩
  |panicking c C hc=>
   cases h
   exact ⟨μ,w,u,C,fr,hs.stay,hX,hc,.refl _ _,rfl,hk,hmode,hdn,fn,hf⟩
 |cons d ds=>
  rw [hda] at h hd
  replace h:y4 fn m r (a.bH ds) d.args s d.target=some o:=h
  obtain ⟨e1,e2,e3,e4⟩:=jV a ds
  generalize hfd:fr.defers=FD at hd
  cases hd with
  |cons _ c _ cs hdc hds=>
   cases hdc with
   |fn f cap args C A hc ha=>
    obtain ⟨q,hq,h⟩:=aa.1 (show ai (r (.call f (args++cap) (some m)) (a.bH ds) s) (Du fn r (a.bH ds))=some o from h)
    obtain ⟨⟨fn',c',hfn,hbody⟩,hends⟩:=hr.call _ _ _ _ _ _ hq
    have hn: ¬fn'.name= "runtime.NumGoroutine" :=fun e=>by have:=hP f fn' hfn;rw [e] at this;simp at this
    have hinv:(invoke (.fn (.func f) C.toArray) A.toArray).run P w= .ok (.enter f (A++C).toArray) w:=by
     simp [invoke,callFunc,hfn,hn,hbody]
    have hstep:=step_defer (cs:=X.cs u) hm.BX hfd rfl hinv
    have hE:=hends μ w (.uU {fr with defers:=cs} (X.cs u)) fr.mode (A++C) hs (ha.append hc) (.uU _ _ _ _ hm)
    cases q with
    | «at» =>exact hE.elim
    |fin e rc' s'=>
     cases e with
     |returned v=>
      obtain ⟨μ',w',u',V,fr',hg,hR,hv,hst,hfn',hk',hgo⟩:=hE
      generalize hrc:rc'=rc'' at hR
      cases hR with
      |uU _ _ m' _ hm'=>
       subst hrc
       replace h:r (.leave fn (rm m')) (a.bH ds) s'=some o:=h
       have h2:=step_going_returned (c:={{fr with defers:=cs} with mode:=u'}) (cs:=X.cs u) hk' hgo
       have:=hr.leave fn (rm m') (a.bH ds) s' o h μ' w' X u {{{fr with defers:=cs} with mode:=u'} with mode:=settle u'} hg.sr (e1▸ht.mono hg.ext.sub) (e3▸hds.mono hg.ext.sub) (e4▸hX.mono hg.ext.sub) hk hf hm'.settle
       exact this.pre (.head hstep (hst.trans (.one h2))) hg
     |panicked ch=>
      obtain ⟨μ',w',u',C',fr',hg,hR,hv,hst,hfn',hk',hgo⟩:=hE
      generalize hrc:rc'=rc'' at hR
      cases hR with
      |uU _ _ m' _ hm'=>
       subst hrc
       replace h:r (.leave fn (rn m' ch)) (a.bH ds) s'=some o:=h
       have h2:=step_going_panicked (c:={{fr with defers:=cs} with mode:=u'}) (cs:=X.cs u) hgo
       have:=hr.leave fn (rn m' ch) (a.bH ds) s' o h μ' w' X u {{{fr with defers:=cs} with mode:=u'} with mode:=raised u' C'} hg.sr (e1▸ht.mono hg.ext.sub) (e3▸hds.mono hg.ext.sub) (e4▸hX.mono hg.ext.sub) hk hf (hm'.raised hv)
       exact this.pre (.head hstep (hst.trans (.one h2))) hg
   |collected b e he=>
    obtain ⟨bl,hbl,h⟩:=aa.1 (show ai (s.h.get b) (Dt fn m b r (a.bH ds) s)=some o from h)
    obtain ⟨k',hk',hbr⟩:=hs.bV b e he
    rw [hbl] at hk'
    cases hk'
    cases bl with
    |deferred t=>cases t with
     |true=>
      replace h:r (.leave fn m) (a.bH ds) (s.put b (.deferred false))=some o:=h
      obtain ⟨g,rfl,hN,hg⟩:=hbr
      have hlt:g<w.heap.size:=(Array.getElem?_eq_some_iff.1 hg).1
      have hG:bI P N μ s w μ (s.put b (.deferred false)) (w.putObj g (.deferred none)):=by
       refine hs.jO he hbl rfl hN ⟨rfl,rfl,rfl,by simp,fun k _ hne=>?_⟩ ⟨g,rfl,hN,Xb hlt⟩
       exact Xc fun e=>hne (by rw [e])
      have hstep:=step_collected (cs:=X.cs u) hm.BX hfd rfl (run_takeDeferred (P:=P) hg)
      have:=hr.leave fn m (a.bH ds) _ o h μ _ X u {fr with defers:=cs} hG.sr (e1▸ht) (e3▸hds) (e4▸hX) hk hf hm
      exact this.pre (.one hstep) hG
     |false=>cases h
    |_=>cases h
theorem KS {μ:bu} {args:List AV} {us:List Value} (h:bZ P μ args us) (n:Nat):TR P μ (gX args .nil 0) (us.toArray++Xe (n - us.length) undef):=by
 intro t
 rw [jo]
 simp only [VT,true_and,WH,Nat.sub_zero]
 have hl:=h.length
 by_cases ht:t<args.length
 ·rw [if_pos ht]
  obtain ⟨u,hu,hv⟩:=h.get (UB ht)
  rw [UB ht]
  have:(us.toArray++Xe (n - us.length) undef).getD t undef=u:=by
   rw [Uw,Array.getElem?_append_left (by simp;omega)]
   simp [hu]
  rw [this]
  exact hv
 ·rw [if_neg ht,get_nil]
  have:(us.toArray++Xe (n - us.length) undef).getD t undef=undef:=by
   rw [Uw,Array.getElem?_append_right (by simp;omega)]
   cases hq:(Xe (n - us.length) undef)[t - us.toArray.size]? with
   |none=>rfl
   |some q=>
    obtain ⟨_,hq'⟩:=Array.getElem?_eq_some_iff.1 hq
    simp at hq'
    rw [←hq'];rfl
  rw [this]
  exact eY
theorem B3 (hP:cH P) {r:Rec} (hr:gk P N r) (hdraw: ∀id ops,dg P N r (nQ P ops true) (.region id ops true)) {hk:Hk} (hh:sS P N hk) {f:FuncId} {args:List AV} {rc:Option cz} {s:St} {o:Out} (h:G4 P hk f args rc r s=some o):
 (∃fn c,P.funcs[f]? =some fn∧fn.body=some c)∧∀μ w X u us,SR P N μ s w→bZ P μ args us→RR P μ X rc u→kM P N X f (lone (W4 P f us.toArray X.kind) (X.cs u) w) μ s w o:=by
 obtain ⟨fn,hf,h⟩:=aa.1 h
 obtain ⟨c,hb,h⟩:=aa.1 h
 refine ⟨⟨fn,c,hf,hb⟩,fun μ w X u us hs ha hX=>?_⟩
 obtain ⟨q,hq,h⟩:=aa.1 h
 let b:Frame:={fn:=f,tmps:= #[],todo:=[],defers:=[],mode:=.run,kind:=X.kind}
 have henter:W4 P f us.toArray X.kind=b.atR {tmps:=us.toArray++Xe (fn.ntmps - us.length) undef,defers:=[]} [.code c]:=by
  simp [W4,W9,hf,hb,b]
 have hl:=ha.length
 have hA:AR P μ (.mk (gX args .nil 0) (Nat.max fn.ntmps args.length) [] rc) {tmps:=us.toArray++Xe (fn.ntmps - us.length) undef,defers:=[]}:=
  ⟨KS ha _,by simp only [WC,WD,Array.size_replicate,hl];show us.length+(fn.ntmps - us.length)=max fn.ntmps us.length;omega,.nil⟩
 have:=jW hP hr hdraw hh c .one (Bz hf hb) none _ s q hq μ w b X u [] _ hs hA hX rfl .none ⟨fn,hf⟩
 rw [henter]
 cases q with
 |fin=>exact this.elim
 | «at» e a' s'=>
  obtain ⟨μ',w',ca',u',hg,ha',hX',hst⟩:=this
  cases e with
  |normal=>
   have hl:=hr.leave fn .returning a' s' o h μ' w' X u' {b.atR ca' [] with mode:=.returning} hg.sr ha'.tm ha'.defers hX' rfl hf .returning
   exact hl.pre (Xf hst (.one (stepR_end rfl))) hg
  |exit id=>cases h
  |ret=>
   obtain ⟨k1,hst⟩:=hst
   have hl:=hr.leave fn .returning a' s' o h μ' w' X u' {b.atR ca' (.code .ret::k1) with mode:=.returning} hg.sr ha'.tm ha'.defers hX' rfl hf .returning
   exact hl.pre (Xf hst (.one (stepR_ret rfl))) hg
  |panic ch=>
   obtain ⟨k1,C,hc,hst⟩:=hst
   have hl:=hr.leave fn (.panicking ch) a' s' o h μ' w' X u' {b.atR ca' k1 with mode:=.panicking C} hg.sr ha'.tm ha'.defers hX' rfl hf (.panicking _ _ hc)
   exact hl.pre hst hg
end
end
section
open Go Go.RowKit
variable [Env]
section
variable {P:Program} {N:Nat}
theorem B4 {n t:Nat} {l:List Tmp} (h:vt n (t::l)=true):t<n∧vt n l=true:=by
 replace h:aQ (TO (TM t) n) (vt n l) false=true:=h
 cases hb:TO (TM t) n with
 |true=>rw [hb] at h;exact ⟨Ua hb,h⟩
 |false=>rw [hb] at h;cases h
theorem sT {μ:bu}: ∀(ps:List Tmp) (vs:List AV) (us:List Value) (tm:Tr AV) (tmps:Array Value) (n:Nat),TR P μ tm tmps→tmps.size=n→vt n ps=true→bZ P μ vs us→
 TR P μ (wX ps vs tm) ((ps.zip us).foldl (fun tmps (p:Tmp×Value)=>tmps.setIfInBounds p.1 p.2) tmps)∧((ps.zip us).foldl (fun tmps (p:Tmp×Value)=>tmps.setIfInBounds p.1 p.2) tmps).size=n
 |[],vs,us,tm,tmps,n,ht,hn,ha,hv=>⟨ht,hn⟩
 |p::ps,vs,us,tm,tmps,n,ht,hn,ha,hv=>by
  cases hv with
  |nil=>exact ⟨ht,hn⟩
  |cons v u vs us hv hvs=>
   obtain ⟨h1,h2⟩:=B4 ha
   refine sT ps vs us (tm.set (pos p) v) (tmps.setIfInBounds p u) n (fun t=>?_) (by simpa using hn) h2 hvs
   by_cases htp:p=t
   ·subst htp
    rw [gI]
    have hp:p<tmps.size:=hn.symm▸h1
    simpa [fQ,Uw,hp] using hv
   ·rw [jM _ _ (fun e=>htp (nR e))]
    have:=ht t
    simpa [Uw,Array.getElem?_setIfInBounds_ne htp] using this
theorem ir {μ:bu} {s:St} {w:World} (hs:SR P N μ s w) {l:Pos} {e:eQ} (hl:μ l=some e) {j:Option Code} {o:Out} (h:fH l j s=some o):
 ∃w',(Instr.endRound e.a.block j).run P w= .ok (.bool j.isNone) w'∧∀(c:Frame) (cs:List Frame) (m:Machine),Steps P m (lone (c.finish (.bool j.isNone)) cs w')→zR P N c cs m μ s w o:=by
 obtain ⟨lp,hlp,rfl⟩:=ba.1 h
 obtain ⟨hk,g,r,rfl,hN,hg,hLR⟩:=hs.sR hl hlp
 have hr:=run_endRound (P:=P) j hg
 have hG:=hs.xr hl hk hN hg (hLR.with (match j with |none=>.ready |some _=>.done) j)
 refine ⟨_,hr,fun c cs m hst=>⟨μ,_,_,?_,.bool j.isNone,hst⟩⟩
 cases j<;>exact hG
theorem z2 {r:Rec} (hr:gk P N r) {hkk:Hk} (hcode: ∀f c p,cJ P f p=some c→dg P N r (kJ P hkk f c p) c) {l:Pos} {args:List AV} {s:St} {o:Out} (h:Bv P hkk l args r s=some o) {μ:bu} {w:World} {us:List Value} {e:eQ} (hs:SR P N μ s w) (ha:bZ P μ args us) (hl:μ l=some e):
 ∃fn tmps assign body,(Instr.yield e.a.block us.toArray).run P w= .ok (.round e.a.block fn tmps assign body) w∧∀c cs,zR P N c cs (lone (W5 e.a.block fn tmps assign body .normal) (c::cs) w) μ s w o:=by
 obtain ⟨lp,hlp,h⟩:=aa.1 h
 obtain ⟨hc,h⟩:=aA.1 (show aQ (TJ args.length lp.params.length&&vt lp.n lp.params) (ai (cJ P lp.f (.o lp.p)) fun assign=>ai (cJ P lp.f (.i lp.p)) fun body=>ai (kJ P hkk lp.f assign (.o lp.p) (some l) r (.mk (wX lp.params args lp.tm) lp.n [] none) s) (su (qD P hkk l lp.f lp.p body r))) none=some o from h)
 obtain ⟨assign,hassign,h⟩:=aa.1 h
 obtain ⟨body,hbody,h⟩:=aa.1 h
 rw [Uj] at hc
 obtain ⟨hc1,hc2⟩:=hc
 obtain ⟨q,hq,h⟩:=aa.1 h
 obtain ⟨hk,g,rr,rfl,hN,hg,hLR⟩:=hs.sR hl hlp
 have hps:us.toArray.size=rr.params.size:=by
  have h1:=ha.length
  have h2:args.length=lp.params.length:=T7 hc1
  have h3:=congrArg List.length hLR.params
  simp at h3⊢
  omega
 have hy:=run_yield (P:=P) hg hps
 refine ⟨_,_,_,_,hy,fun c cs=>?_⟩
 let b:Frame:={fn:=rr.fn,tmps:= #[],todo:=[],defers:=[],mode:=.run,kind:=.normal,roundOf:=some g}
 have hzip:(rr.params.zip us.toArray).foldl (fun tmps (p:Tmp×Value)=>tmps.setIfInBounds p.1 p.2) rr.tmps=(lp.params.zip us).foldl (fun tmps (p:Tmp×Value)=>tmps.setIfInBounds p.1 p.2) rr.tmps:=by
  rw [←Array.foldl_toList,Array.toList_zip,hLR.params]
 obtain ⟨ht,hn⟩:=sT lp.params args us lp.tm rr.tmps lp.n hLR.tmps hLR.size hc2 ha
 have hA:AR P μ (.mk (wX lp.params args lp.tm) lp.n [] none) {tmps:=(rr.params.zip us.toArray).foldl (fun tmps (p:Tmp×Value)=>tmps.setIfInBounds p.1 p.2) rr.tmps,defers:=[]}:=
  ⟨by rw [hzip];exact ht,by rw [hzip];exact hn,.nil⟩
 have hfr:W5 g rr.fn ((rr.params.zip us.toArray).foldl (fun tmps (p:Tmp×Value)=>tmps.setIfInBounds p.1 p.2) rr.tmps) rr.assign rr.body .normal=
  b.atR {tmps:=(rr.params.zip us.toArray).foldl (fun tmps (p:Tmp×Value)=>tmps.setIfInBounds p.1 p.2) rr.tmps,defers:=[]} [.code rr.assign,.beginRound,.code rr.body]:=rfl
 obtain ⟨fo,fps,hat⟩:=hLR.code
 obtain rfl:assign=rr.assign:=TZ (hassign.symm.trans (fm hat rfl))
 obtain rfl:body=rr.body:=TZ (hbody.symm.trans (nV hat rfl))
 have h1:=hcode lp.f rr.assign (.o lp.p) (fm hat rfl) (some l) _ s q hq μ w b (.norm (c::cs)) .run [.beginRound,.code rr.body] _ hs hA (.norm _ _) rfl (.some l g hl) hLR.fn
 rw [←hfr] at h1
 cases q with
 |fin=>exact h1.elim
 | «at» x a₁ s₁=>
  cases x with
  |exit id=>cases h
  |ret=>cases h
  |panic ch=>cases h
  |normal=>
   obtain ⟨μ₁,w₁,ca₁,u₁,hg₁,ha₁,hX₁,hst₁⟩:=h1
   obtain ⟨lp₁,hlp₁,h⟩:=aa.1 (show ai (s₁.loop l) (fun lp₁=>aQ lp₁.ready (ai (kJ P hkk lp.f rr.body (.i lp.p) (some l) r a₁ (s₁.put l (.loop (lp₁.with .busy lp₁.pending)))) (y5 l)) none)=some o from h)
   obtain ⟨hrd,h⟩:=aA.1 h
   obtain ⟨q₂,hq₂,h⟩:=aa.1 h
   have hl₁:=hg₁.ext.sub _ _ hl
   obtain ⟨hk₁,g',r₁,he,hN₁,hh₁,hLR₁⟩:=hg₁.sr.sR hl₁ hlp₁
   cases he
   have hG:=hg₁.sr.xr hl₁ hk₁ hN₁ hh₁ (hLR₁.with .busy lp₁.pending)
   have hbr:=run_beginRound (P:=P) hh₁ (by rw [hLR₁.state];exact HI hrd)
   rw [show ({r₁ with state:=.busy}:Loop)={r₁ with state:=.busy,pending:=lp₁.pending} from by rw [←hLR₁.pending]] at hbr
   have hs2:=stepR_beginRound (b:=b) (a:=ca₁) (k:=[.code rr.body]) (cs:=c::cs) rfl hbr
   have hX₂:RR P μ₁ (.norm (c::cs)) a₁.rc .run:=by
    generalize a₁.rc=x at hX₁
    cases hX₁
    exact .norm _ _
   have h2:=hcode lp.f rr.body (.i lp.p) (nV hat rfl) (some l) a₁ _ q₂ hq₂ μ₁ _ b (.norm (c::cs)) .run [] ca₁ hG.sr ha₁ hX₂ rfl (.some l g hl₁) hLR.fn
   have hgo:=hg₁.trans hG
   have pre: ∀{m₁:Machine} {μ₂:bu} {σ₂:St} {w₂:World},bI P N μ₁ (s₁.put l (.loop (lp₁.with .busy lp₁.pending))) (w₁.putObj g (.loop {r₁ with state:=.busy,pending:=lp₁.pending})) μ₂ σ₂ w₂→
    Steps P (lone (b.atR ca₁ [.code rr.body]) (c::cs) (w₁.putObj g (.loop {r₁ with state:=.busy,pending:=lp₁.pending}))) m₁→zR P N c cs m₁ μ₂ σ₂ w₂ o→
    zR P N c cs (lone (W5 g rr.fn ((rr.params.zip us.toArray).foldl (fun tmps (p:Tmp×Value)=>tmps.setIfInBounds p.1 p.2) rr.tmps) rr.assign rr.body .normal) (c::cs) w) μ s w o:=by
    intro m₁ μ₂ σ₂ w₂ hg₂ hst hb
    have hall:=Xf hst₁ (.head hs2 hst)
    cases o with
    | «at» =>exact hb.elim
    |fin ee rc s'=>
     cases ee with
     |returned v=>obtain ⟨μ',w',V,q1,q2,q3⟩:=hb;exact ⟨μ',w',V,(hgo.trans hg₂).trans q1,q2,hall.trans q3⟩
     |panicked ch=>obtain ⟨μ',w',C,q1,q2,q3⟩:=hb;exact ⟨μ',w',C,(hgo.trans hg₂).trans q1,q2,hall.trans q3⟩
   cases q₂ with
   |fin=>exact h2.elim
   | «at» x a₂ s₂=>
    obtain ⟨μ₂,w₂,ca₂,u₂,hg₂,ha₂,hX₃,hst₂⟩:=h2
    have hl₂:=hg₂.ext.sub _ _ hl₁
    cases x with
    |normal=>
     obtain ⟨w',hrun,hb⟩:=ir hg₂.sr hl₂ (show fH l none s₂=some o from h)
     exact pre hg₂ hst₂ (hb c cs _ (.one (stepR_round_end rfl rfl hrun)))
    |ret=>
     obtain ⟨k1,hst₂⟩:=hst₂
     obtain ⟨w',hrun,hb⟩:=ir hg₂.sr hl₂ (show fH l (some .ret) s₂=some o from h)
     exact pre hg₂ hst₂ (hb c cs _ (.one (stepR_round_ret rfl rfl hrun)))
    |exit id=>
     obtain ⟨k1,hx,hst₂⟩:=hst₂
     obtain ⟨w',hrun,hb⟩:=ir hg₂.sr hl₂ (show fH l (some (.exit id)) s₂=some o from h)
     exact pre hg₂ hst₂ (hb c cs _ (.one (stepR_round_exit rfl rfl hx hrun)))
    |panic ch=>
     obtain ⟨k1,C,hc,hst₂⟩:=hst₂
     replace h: @List.rec jI (fun _=>Option Out) (some (.fin (.panicked ch) none s₂)) (fun _ _ _=>none) a₂.defers=some o:=h
     cases hda:a₂.defers with
     |cons d ds=>rw [hda] at h;cases h
     |nil=>
      rw [hda] at h
      cases h
      have hcd:ca₂.defers=[]:=by
       have:=ha₂.defers
       rw [hda] at this
       generalize ca₂.defers=x at this
       cases this
       rfl
      refine pre hg₂ hst₂ ⟨μ₂,w₂,C,hg₂.sr.stay,hc,.one (step_leave_panicked ⟨rfl,hcd,hLR.fn⟩)⟩
def Mc (P:Program) (N:Nat):Prop:=∀r,gk P N r→∀id ops,dg P N r (nQ P ops true) (.region id ops true)
def kN (P:Program) (orc:FuncId→List AV→St→Option dV):Prop:=∀f args s x,orc f args s=some x→(∃fn c,P.funcs[f]? =some fn∧fn.body=some c)∧
 ∀N μ w cs us,SR P N μ s w→bZ P μ args us→kM P N (.norm cs) f (lone (W4 P f us.toArray .normal) cs w) μ s w (x.out s)
theorem z3 {rc:Option cz} {s:St} {els:Option Out} {o:Option dV} {r:Out} (h:Bw rc s els o=some r):(∃x,o=some x∧rc=none∧r=x.out s)∨els=some r:=by
 cases o with
 |none=>exact .inr h
 |some x=>cases rc with
  |none=>exact .inl ⟨x,rfl,rfl,(TZ h).symm⟩
  |some m=>exact .inr h
theorem Fe (hP:cH P) (hdraw:Mc P N) {orc:Ks} (ho:kN P orc.call) (hh:sS P N orc.loop): ∀n,gk P N (run P orc n):=by
 intro n
 induction n with
 |zero=>
  exact ⟨(fun _ _ _ _ _ _ _ h=>by cases h),(fun _ _ _ _ _ _ h=>by cases h),(fun _ _ _ _ _ h=>by cases h),(fun _ _ _ _ _ h=>by cases h)⟩
 |succ n ih=>
  have hcode:=fun f=>jW (f:=f) hP ih (hdraw _ ih) hh
  refine ⟨?_,?_,?_,?_⟩
  ·intro rd c f p a s o h hat μ w b X u k ca hs ha hX hk hrd hf m hm
   rcases mZ (show qC (ai (kJ P orc.loop f c (.o p) rd (run P orc n) a s) (yX (run P orc n (.loop rd c f p)))) (orc.loop f p rd a s)=some o from h) with h |h
   ·exact hh f p rd a s o h c hat μ w b X u k ca hs ha hX hk hrd hf m hm
   obtain ⟨o₁,h1,h2⟩:=aa.1 h
   have:=hcode f c (.o p) (fm hat rfl) rd a s o₁ h1 μ w b X u (.inLoop c::k) ca hs ha hX hk hrd hf
   exact (At.bind (k:=k) this (fun id=>rfl) h2 fun a' s' μ₁ w₁ u₁ ca₁ hg ha' hX' hK=>ih.loop rd c f p a' s' o hK hat μ₁ w₁ b X u₁ k ca₁ hg.sr ha' hX' hk (hrd.mono hg.ext.sub) hf _ stepR_inLoop).pre (.one hm) hs.stay
  ·intro f args rc a s o h
   rcases z3 (show Bw rc s (G4 P orc.loop f args rc (run P orc n) s) (orc.call f args s)=some o from h) with ⟨x,hx,rfl,rfl⟩ |h
   ·obtain ⟨h1,h2⟩:=ho f args s x hx
    refine ⟨h1,fun μ w X u us hs ha hX=>?_⟩
    cases hX with
    |norm cs u=>exact h2 N μ w cs us hs ha
   ·exact B3 hP ih (hdraw _ ih) hh h
  ·intro fn m a s o h μ w X u fr hs ht hd hX hk hf hm
   exact zZ hP ih (show xe P fn m (run P orc n) a s=some o from h) hs ht hd hX hk hf hm
  ·intro l args a s o h μ w us e hs ha hl
   exact z2 ih hcode (show Bv P orc.loop l args (run P orc n) s=some o from h) hs ha hl
end
end
end Go.Proofs.Sai
