/- Part ID of the proof of VerifyDead: texts of the interpreter and what it shows, under short names. No condition. -/
import Derived.Test.YtgfhbomiljhjpaaGreatDoorIC
import Derived.Lib.MakeNoZero
import Derived.Lib.Bytealg
import Derived.AtR
import Derived.Defers
import Derived.RangeFuncRecord
import Derived.Recover
set_option linter.unusedVariables false
set_option linter.unusedSimpArgs false
set_option linter.unusedSectionVars false
open Array renaming getElem?_toList→WM,size_append→Ym,toList_append→Yo,ext'→Wl,eraseIdxIfInBounds→Ya,getD_eq_getD_getElem?→We,replicate→YX
open Bool renaming and_eq_true→V1
open Go renaming step→YM
open Go.Builtin renaming append_→Yd,zeroCells→Yg,lenOf→Ye,cap_→Yw,unsafeString_→Yx,len_→YA,delete_→X4,copy_→YB,firstCells→Yf,min_→YC,max_→YD
open Go.Deferred renaming ofValue→YL
open Go.Extern renaming find→YE,findNext→YF
open Go.Extern.AbiNoEscape renaming same→YI
open Go.Extern.BytealgCount renaming count→YG
open Go.Extern.BytealgIndexByte renaming indexByte→YH
open Go.Extern.BytealgMakeNoZero renaming makeNoZero→YK
open Go.Extern.MathFloatBits renaming float64frombits→YJ
open Go.Frame renaming enter→YN,round→YO,finish_atR→YQ,atR→YS
open Go.Instr renaming typeAssert→Yz,enterLoop→YW
open Go.Lib renaming strCells→Ys,run_firstCells_string→Yt,run_append_grow_string→Yu
open Go.MapKept renaming run_getObj_map→XS,run_setObj_map→X0
open Go.Oper renaming semAt_none→YT
open Go.Region renaming wanted→YP
open Go.Result renaming andThen_ok→Wd
open Go.Sem renaming run_bind→Wc,run_pure→WG,runT_eq→YR
open Go.Steps renaming trans→YY
open Go.Value renaming ownBlock→Yl
open Go.World renaming cell?→Wh,putObj_heap_same→YU,putObj_heap_other→YV,grownBy_alloc→Wn
open Int renaming ofNat→Vw
open List renaming getElem?_take→VK,getElem?_of_mem→Yh,getElem?_eq_getElem→Wj,map_cons→VT,map_nil→VU,getElem?_map→VV,getElem?_range→Yk,size_toArray→Yn,length_append→V7,append_assoc→Xh,take_left→Yp,not_mem_nil→VS,getElem?_eq_none→VH,flatten_append→Yr,getElem?_append_left→VJ,getElem?_append_right→VL,eq_nil_of_length_eq_zero→Wk,getElem?_toArray→X5,getElem?_cons_zero→X6,getElem?_cons_succ→X7,range'→Wy
open Nat renaming mul_le_mul_right→Wu,le_refl→VY,eq_zero_or_pos→Xo,beq→Vo,ble→Vv,mul→VC,eq_of_beq_eq_true→VN,le_of_ble_eq_true→VQ,zero_add→Yq,le_trans→VZ,zero_le→Xz,succ_mul→V6,add→Vy,mul_one→Yv,succ→Vt
open Option.some renaming injEq→Xu,inj→VF
open UInt8 renaming ofNat→Yy
namespace Go.Proofs.Sai
section
open Go Go.RowKit Go.MapKept
variable [Env]
section
variable {P:Program} {N:Nat} {μ:bw} {σ:St} {w:World} {a:aN} {ca:Act}
theorem qW {fz:Addr→Option Value} {L:List (List D)} {cur:Array Value} {n:Nat} (hn:L.flatten.length=n) (h: ∀(j:Nat) (d:D),L.flatten[j]? =some d→∃u,cur[j]? =some u∧dY fz d u) (hle:n≤cur.size):iR fz L (cur.toList.take n):=by
 intro j d hj
 obtain ⟨u,q1,q2⟩:=h j d hj
 have hjl:j<n:=by rw [←hn];exact (List.getElem?_eq_some_iff.1 hj).1
 exact ⟨u,by rw [VK,if_pos hjl,WM];exact q1,q2⟩
theorem iR.cf {fz:Addr→Option Value} {L:List (List D)} {us:List Value} (h:iR fz L us) (hl:us.length=L.flatten.length): ∀u∈us,u.oneCell'=true:=by
 intro u hu
 obtain ⟨j,hj⟩:=Yh hu
 have hjl:j<us.length:=(List.getElem?_eq_some_iff.1 hj).1
 obtain ⟨u',q1,q2⟩:=h j _ (Wj (by omega))
 rw [hj] at q1
 cases q1
 exact q2.one
theorem Gt {ts:List Ty} {y:AV} {Y:Value} {u:Tm} (h:SR P N μ σ w) (hy:VR P μ y Y) (hn:NP ts σ y=some u):
 ∃L:List (List D),ev u= .aF L∧eo ts L∧L.length≤100000000∧((L=[]∧(Y= .slice none 0 0∨∃ad c,Y= .slice (some ad) 0 c))∨∃ad c us,Y= .slice (some ad) L.length c∧us.length=L.length*ts.length∧iR μ.fz L us∧∀j v,us[j]? =some v→w.cell? (ad.add j)=some v):=by
 cases y<;>first |(cases hn;done) |skip
 ·rename_i ty y
  cases ty<;>first |(cases hn;done) |skip
  rename_i us
  obtain ⟨h1,hn⟩:=aj.1 (show au (bV ts us&&dD (.op .len [y]) fc) (some y) none=some u from hn)
  cases hn
  rw [V1] at h1
  obtain rfl:=bW h1.1
  cases hy with
  |tm _ _ _ g1 g2=>
   obtain ⟨L,hL,hrows⟩:=g1
   have hlen:ev (.op .len [u])= .int .i64 L.length:=by rw [bH];simp only [VT,VU,hL];rfl
   have hle:=dT h1.2 hlen (show ev fc= .int .i64 100000000 from rfl)
   have hR:eo ts L:=hrows
   rw [hL] at g2
   refine ⟨L,hL,hR,by omega,?_⟩
   cases g2 with
   |nil=>exact .inl ⟨rfl,.inl rfl⟩
   |aF _ ad c f hn hm hf hd=>
    refine .inr ⟨ad,c,(List.range L.flatten.length).map f,rfl,by simp [hR.flat],fun j d hj=>?_,fun j v hj=>?_⟩
    ·have hjl:=(List.getElem?_eq_some_iff.1 hj).1
     exact ⟨f j,by rw [VV,Yk hjl];rfl,hd j d hj⟩
    ·have hjl:j<L.flatten.length:=by simpa using (List.getElem?_eq_some_iff.1 hj).1
     rw [VV,Yk hjl] at hj
     cases hj
     exact h.fW _ _ (hf j hjl)
 ·rename_i us n b
  obtain ⟨h1,hn2⟩:=aj.1 (show au (bV ts us&&dD n fc) (omap (ab (σ.h.get b) (pc false ts n)) fun q=>q.2) none=some u from hn)
  clear hn
  rw [V1] at h1
  obtain rfl:=bW h1.1
  obtain ⟨⟨t,q⟩,h2,rfl⟩:=aO.1 hn2
  obtain ⟨bl,hb,hv⟩:=aa.1 h2
  obtain ⟨e,L,he,_,_,q1,q2,q3,q4⟩:=iC h hy hb hv
  have hle:=dT h1.2 q2 (show ev fc= .int .i64 100000000 from rfl)
  refine ⟨L,q1,q3,by have:(Vw L.length:Int)=(L.length:Int):=rfl;omega,?_⟩
  rcases q4 with ⟨hX,rfl,_⟩ |⟨g,c,cur,rfl,_,_,r2,r3,r4,r5,r6⟩
  ·refine .inl ⟨rfl,?_⟩
   rcases hX with h |⟨ad,h⟩
   ·exact .inl h
   ·exact .inr ⟨ad,0,h⟩
  ·have hle:L.length*ts.length≤cur.size:=by rw [r3];exact Wu _ r4
   refine .inr ⟨⟨g,0,none⟩,c,cur.toList.take (L.length*ts.length),rfl,by simp;omega,qW q3.flat r6 hle,fun j v hj=>?_⟩
   rw [VK] at hj
   split at hj
   ·rw [add_zero]
    simp only [Wh,r2]
    simpa using hj
   ·cases hj
structure Grown (w w':World) (N:Nat) (e z:Nat) (V:Value) (m:Nat) (xs:List Value) (g:Nat) (cur:Array Value) (c:Nat):Prop where
 v:V= .slice (some ⟨g,0,none⟩) m c
 h:w'.heap[g]? =some (.cells cur e (0,0))
 N:N≤g
 le:m≤c
 cap:c≤maxLen
 size:cur.size=c*z
 take:cur.toList.take (m*z)=xs
theorem pG {t ty e z:Nat} {i:TypeInfo} {Z:Value} (hu:P.underlying t=some (.slice e)) (hi:P.info? e=some i) (hz:i.zero=some Z) (hsi:i.size=z) (hzs:Z.cells.size=z) (hz1:1≤z) {X:Value} {n k:Nat} {olds us:List Value} (hown:w.ownsRow N e z X n olds)
 {ad:Addr} {c:Nat} (hul:us.length=k*z) (hcell: ∀j v,us[j]? =some v→w.cell? (ad.add j)=some v) (h1: ∀u∈us,u.oneCell'=true) (hk:k≠0) (h63:n+k≤35184372088832) (hb:(n+k)*i.bytes≤35184372088832) (hN:N≤w.heap.size):
 ∃V w' g cur c',(Yd #[t,t] ty #[X,.slice (some ad) k c]).run P w= .ok V w'∧Grown w w' N e z V (n+k) (olds++us) g cur c'∧w.grownBy w' X.ownBlock∧(X.ownBlock=some g∨g=w.heap.size):=by
 obtain ⟨v',w',hrun,hown',hgr,hnil,hat⟩:=run_append_own_at (P:=P) w N t ty e i Z z i.bytes hu hi hz hsi rfl hzs (by omega) X n olds hown ad k c us hul hcell h1 (by simp only [maxLen];omega) (by omega) hN
 obtain ⟨hxl,hv' |⟨g',cap',cur',rfl,hN',hh',hnc',hcm',hcs',htk⟩⟩:=hown'
 ·omega
 ·refine ⟨_,w',g',cur',cap',hrun,⟨rfl,hh',hN',hnc',hcm',hcs',htk⟩,hgr,?_⟩
  rcases hat with h |h
  ·exact .inl h.symm
  ·simp only [Yl,Xu] at h
   exact .inr h
theorem um {t ty e z:Nat} {i:TypeInfo} {Z:Value} (hu:P.underlying t=some (.slice e)) (hi:P.info? e=some i) (hz:i.zero=some Z) (hsi:i.size=z) (hzs:Z.cells.size=z) {ad0:Addr} {n k:Nat} {olds us:List Value} (hol:olds.length=n*z) (holds: ∀j v,olds[j]? =some v→w.cell? (ad0.add j)=some v)
 {ad:Addr} {c:Nat} (hul:us.length=k*z) (hcell: ∀j v,us[j]? =some v→w.cell? (ad.add j)=some v) (hk:k≠0) (h63:n+k≤35184372088832) (hb:(n+k)*i.bytes≤35184372088832) (hN:N≤w.heap.size):
 ∃V w' cur c',(Yd #[t,t] ty #[.slice (some ad0) n n,.slice (some ad) k c]).run P w= .ok V w'∧Grown w w' N e z V (n+k) (olds++us) w.heap.size cur c'∧w.grownBy w' none:=by
 have hrun:=run_append_grow (P:=P) w t ty e i Z hu hi hz ad0 n n olds (by rw [hol,hsi]) holds ad k c us (by rw [hul,hsi]) hcell (by omega) (by omega) (growslice_fits (by omega) (by omega))
 have hge:=grownCap_ge w (n+k) n e
 have hle:=grownCap_le_maxLen w (n+k) n e (by simp only [maxLen];omega)
 have hw:(w.drew.alloc (.cells (olds.toArray++us.toArray++Yg Z.cells (grownCap w (n+k) n e - (n+k))) e)).heap=w.heap.push (.cells (olds.toArray++us.toArray++Yg Z.cells (grownCap w (n+k) n e - (n+k))) e (0,0)):=rfl
 refine ⟨_,_,olds.toArray++us.toArray++Yg Z.cells (grownCap w (n+k) n e - (n+k)),_,hrun,⟨rfl,?_,hN,hge,hle,?_,?_⟩,⟨rfl,rfl,rfl,?_,fun j hj _=>?_⟩⟩
 ·rw [hw];simp
 ·simp only [Ym,Yn,size_zeroCells,hzs,hol,hul,←Nat.add_mul]
  congr 1
  omega
 ·have:(n+k)*z=(olds++us).length:=by rw [V7,hol,hul,Nat.add_mul]
  rw [this]
  simp only [Yo,Xh]
  rw [←Xh]
  exact Yp
 ·rw [hw];simp
 ·rw [hw,Array.getElem?_push,if_neg (by omega)]
theorem SR.kill (h:SR P N μ σ w) {b:Pos} {e:fx} {k:aY} (hb:μ b=some e) (hk:σ.h.get b=some k) (he:N≤e.a.block∨(e=cz∧0<N)):bF P N μ σ w μ (σ.put b .dead) w:=by
 obtain ⟨k',h1,h2⟩:=h.bU b e hb
 have:=h.CY (w':=w) (b:=b) (e:=e) (k:=.dead) (σ':=σ.put b .dead) none (iP w none) (.inl hb) (fM σ b .dead) (by rw [jj];exact VY _) (by rw [jj];exact h.lt b e hb) (by rw [pA hb];exact ⟨he,h2.lt⟩)
  (fun g hg=>by cases hg) (fun h=>by cases h) (fun g hg=>by cases hg) (fun h=>by cases h)
 rwa [pA hb] at this
theorem SR.NW (h:SR P N μ σ w) {w':World} {b:Pos} {e0:fx} {k₀ k:aY} (hb:μ b=some e0) (hk:σ.h.get b=some k₀) (hd:bO k₀=false) (hw:writes k₀=true) (hN:N≤e0.a.block) {g':Nat} {o:Option (Nat×TypeId)}
 (hg:w.grownBy w' (some e0.a.block)) (hg':g'=e0.a.block∨g'=w.heap.size) (hbr:BR P N (dm μ σ.n ⟨⟨g',0,none⟩,o⟩) w' k ⟨⟨g',0,none⟩,o⟩):
 bF P N μ σ w (dm μ σ.n ⟨⟨g',0,none⟩,o⟩) ((σ.put b .dead).push k) w':=by
 have h1:=h.kill hb hk (.inl hN)
 have hsn:(σ.put b .dead).n=σ.n:=jj σ b .dead
 have hfr:μ σ.n=none:=h.fresh
 have hne: ∀x ex kx,x≠σ.n→μ x=some ex→(σ.put b .dead).h.get x=some kx→bO kx=false→ex.a.block≠e0.a.block:=by
  intro x ex kx _ hx hkx hdx he
  rw [fM] at hkx
  by_cases hxb:b=x
  ·subst hxb;rw [if_pos rfl] at hkx;cases hkx;cases hdx
  ·rw [if_neg hxb] at hkx
   exact hxb (h.inj b x _ ex _ kx hb hx hk hkx hd hdx hN he.symm)
 have h2:=h1.sr.CY (w':=w') (b:=σ.n) (e:=⟨⟨g',0,none⟩,o⟩) (k:=k) (σ':=(σ.put b .dead).push k) (some e0.a.block) hg
  (.inr ⟨hfr,by rw [hsn];exact VY _,by
   rcases hg' with rfl |rfl
   ·exact .inr ⟨b,_,hb,rfl⟩
   ·exact .inl (VY _)⟩)
  (fun x=>by rw [bP,hsn]) (by rw [eh,hsn,Pos.bZ];omega) (by rw [eh,hsn,Pos.bZ];omega)
  hbr
  (fun g₁ hg₁=>by cases hg₁;exact ⟨hN,⟨b,_,hb,rfl⟩,fun x ex kx hx hm hkx hd=>hne x ex kx hx hm hkx hd⟩)
  (fun _ _ x ex kx hx hm hkx hd=>by
   rcases hg' with rfl |rfl
   ·exact hne x ex kx hx hm hkx hd
   ·obtain ⟨k',_,q2⟩:=h1.sr.bU x ex hm
    have:=q2.lt
    exact Nat.ne_of_lt this)
  (fun g₁ hg₁ ad v ha hbl=>by cases hg₁;exact absurd hbl (h.apart b _ _ hb hk hw hN ad v ha))
  (fun _ _ ad v ha=>by
   rcases hg' with rfl |rfl
   ·exact h.apart b _ _ hb hk hw hN ad v ha
   ·exact Nat.ne_of_lt (kH (h.fW ad v ha)))
 exact h1.trans h2
theorem SR.pH (h:SR P N μ σ w) {w':World} {k:aY} {o:Option (Nat×TypeId)} (hg:w.grownBy w' none) (hbr:BR P N (dm μ σ.n ⟨⟨w.heap.size,0,none⟩,o⟩) w' k ⟨⟨w.heap.size,0,none⟩,o⟩):
 bF P N μ σ w (dm μ σ.n ⟨⟨w.heap.size,0,none⟩,o⟩) (σ.push k) w':=h.laid hg (VY _) hbr
theorem jU {σ₀:St} {μ':bw} {σ':St} {w':World} {v:AV} {u:Value} {s:Sem Value} (hg:bF P N μ σ w μ' σ' w') (hs:s.run P w= .ok u w') (hv:VR P μ' v u) (hne: ∀p:Prop,σ'.n=σ.n→p):NR P N μ σ w (.val v σ') ((do pure (.value (←s)):Sem Next).run P w):=
 ⟨μ',u,w',by simp only [Wc,hs,Wd];rfl,hg,hv,fun h=>hne _ h⟩
theorem yQ {t ty tt z k L:Nat} {i:TypeInfo} {Z:Value} {ts:List Ty} {X:Value} {b:Pos} {en:fx} {k₀ K:aY} {v:AV} {O:List Value→Prop} (h:SR P N μ σ w) (hu:P.underlying t=some (.slice tt)) (hi:P.info? tt=some i) (hz:i.zero=some Z) (hsi:i.size=z) (hzs:Z.cells.size=z) (hz1:1≤z) (hzt:z=ts.length)
 (hen:μ b=some en) (hbl:σ.h.get b=some k₀) (hd:bO k₀=false) (hwr:writes k₀=true)
 (l4:((X= .slice none 0 0∨∃ad,X= .slice (some ad) 0 0)∧L=0∧en=cz∧0<N∧O [])∨∃(g0 cc:Nat) (cur0:Array Value),X= .slice (some ⟨g0,0,none⟩) L cc∧en=⟨⟨g0,0,none⟩,some (cur0.size,tt)⟩∧N≤g0∧w.heap[g0]? =some (.cells cur0 tt (0,0))∧cur0.size=cc*ts.length∧L≤cc∧cc≤maxLen∧O (cur0.toList.take (L*z)))
 (hm2':L+k≤35184372088832) (hm':(L+k)*i.bytes≤35184372088832) {ad:Addr} {c:Nat} {us:List Value} (hus:us.length=k*z) (hcell: ∀j v,us[j]? =some v→w.cell? (ad.add j)=some v) (h1: ∀u∈us,u.oneCell'=true) (hk:k≠0)
 (lay: ∀{olds:List Value} {V:Value} {w':World} {g c':Nat} {cur:Array Value},O olds→olds.length=L*z→Grown w w' N tt z V (L+k) (olds++us) g cur c'→
  BR P N (dm μ σ.n ⟨⟨g,0,none⟩,some (cur.size,tt)⟩) w' K ⟨⟨g,0,none⟩,some (cur.size,tt)⟩∧VR P (dm μ σ.n ⟨⟨g,0,none⟩,some (cur.size,tt)⟩) v V):
 NR P N μ σ w (.val v ((σ.put b .dead).push K)) ((do pure (.value (←Yd #[t,t] ty #[X,.slice (some ad) k c])):Sem Next).run P w):=by
 rcases l4 with ⟨hX,rfl,rfl,hN0,hO⟩ |⟨g0,cc,cur0,rfl,rfl,hN,r2,r3,r4,r5,hO⟩
 ·have hk1:=h.kill hen hbl (.inr ⟨rfl,hN0⟩)
  have hsn:(σ.put b .dead).n=σ.n:=jj σ b .dead
  have fin: ∀{V:Value} {w':World} {cur:Array Value} {c':Nat},(Yd #[t,t] ty #[X,.slice (some ad) k c]).run P w= .ok V w'→Grown w w' N tt z V (0+k) ([]++us) w.heap.size cur c'→w.grownBy w' none→
   NR P N μ σ w (.val v ((σ.put b .dead).push K)) ((do pure (.value (←Yd #[t,t] ty #[X,.slice (some ad) k c])):Sem Next).run P w):=by
   intro V w' cur c' g1 g2 g3
   obtain ⟨q1,q2⟩:=lay hO (by simp) g2
   have:=hk1.sr.pH (o:=some (cur.size,tt)) g3 (by rw [hsn];exact q1)
   rw [hsn] at this
   exact jU (σ₀:=σ) (hk1.trans this) g1 q2 (fun p=>ei)
  rcases hX with rfl |⟨ad0,rfl⟩
  ·obtain ⟨V,w',g,cur,c',g1,g2,g3,g4⟩:=pG (ty:=ty) hu hi hz hsi hzs hz1 (X:=.slice none 0 0) (n:=0) (olds:=[]) ⟨by simp,.inl ⟨rfl,rfl⟩⟩ (k:=k) (c:=c) hus hcell h1 hk (by simpa using hm2') (by simpa using hm') h.hN
   have g4:g=w.heap.size:=by
    rcases g4 with h |h
    ·cases h
    ·exact h
   subst g4
   exact fin g1 g2 g3
  ·obtain ⟨V,w',cur,c',g1,g2,g3⟩:=um (N:=N) (ty:=ty) hu hi hz hsi hzs (ad0:=ad0) (n:=0) (olds:=[]) (by simp) (fun j v hj=>by simp at hj) (k:=k) (c:=c) hus hcell hk (by simpa using hm2') (by simpa using hm') h.hN
   exact fin g1 g2 g3
 ·have hlz:L*z≤cur0.size:=by rw [r3,hzt];exact Wu _ r4
  have hown:w.ownsRow N tt z (.slice (some ⟨g0,0,none⟩) L cc) L (cur0.toList.take (L*z)):=
   ⟨by simp;omega,.inr ⟨g0,cc,cur0,rfl,hN,r2,r4,r5,by rw [r3,hzt],rfl⟩⟩
  obtain ⟨V,w',g,cur,c',g1,g2,g3,g4⟩:=pG (ty:=ty) hu hi hz hsi hzs hz1 hown (k:=k) (c:=c) hus hcell h1 hk hm2' hm' h.hN
  obtain ⟨q1,q2⟩:=lay hO (by simp;omega) g2
  refine jU (σ₀:=σ) (h.NW hen hbl hd hwr hN g3 ?_ q1) g1 q2 (fun p=>ei)
  rcases g4 with h |h
  ·simp only [Yl,Xu] at h;exact .inl h.symm
  ·exact .inr h
theorem xm {t ty e z k:Nat} {i:TypeInfo} {Z:Value} {ts:List Ty} {x:AV} {X:Value} {x0:Tm} {d:Option Pos} (h:SR P N μ σ w) (hx:VR P μ x X) (hzt:z=ts.length) (hu:P.underlying t=some (.slice e)) (hi:P.info? e=some i) (hz:i.zero=some Z) (hsi:i.size=z) (hzs:Z.cells.size=z) (hz1:1≤z)
 (hsz:bA P e=some z) (hb:lX e z ts σ x=some (x0,d)) (hm:(lenOf x+k)*i.bytes≤35184372088832) (hm2:lenOf x+k≤35184372088832) {ad:Addr} {c:Nat} {us:List Value} {R:List (List D)} (hR:eo ts R) (hRk:R.length=k) (hk:k≠0) (hus:us.length=k*z) (ht:iR μ.fz R us)
 (hcell: ∀j v,us[j]? =some v→w.cell? (ad.add j)=some v) {y:Tm} (hy: ∀L,ev x0= .aF L→ev y= .aF (L++R)):
 NR P N μ σ w (jw σ d e ts y) ((do pure (.value (←Yd #[t,t] ty #[X,.slice (some ad) k c])):Sem Next).run P w):=by
 have h1: ∀u∈us,u.oneCell'=true:=ht.cf (by rw [hus,hR.flat,hRk,hzt])
 have lay: ∀{L:List (List D)} {olds:List Value} {V:Value} {w':World} {g c':Nat} {cur:Array Value},ev x0= .aF L→eo ts L→iR μ.fz L olds→olds.length=L.length*z→Grown w w' N e z V (L.length+k) (olds++us) g cur c'→
  BR P N (dm μ σ.n ⟨⟨g,0,none⟩,some (cur.size,e)⟩) w' (.vec true e ts (.op .len [y]) y) ⟨⟨g,0,none⟩,some (cur.size,e)⟩∧VR P (dm μ σ.n ⟨⟨g,0,none⟩,some (cur.size,e)⟩) (.vl ts (.op .len [y]) σ.n) V:=by
  intro L olds V w' g c' cur hL hRL hT hol hG
  have hev:=hy L hL
  have hlen:ev (.op .len [y])= .int .i64 (Vw (L++R).length):=by rw [bH];simp only [VT,VU,hev];rfl
  have hRR:eo ts (L++R):=fun r hr=>(List.mem_append.1 hr).elim (hRL r) (hR r)
  have hll:(L++R).length=L.length+k:=by rw [V7,hRk]
  have hTT:=hT.append ht (by rw [hol,hRL.flat,hzt])
  have hfl:(L++R).flatten.length=(L.length+k)*z:=by rw [hRR.flat,hll,hzt]
  refine ⟨⟨_,hev,hlen,⟨_,rfl,hRR⟩,.inr ⟨g,cur,rfl,hG.N,hG.h,by rw [hfl,hG.size];exact Wu _ hG.le,fun j dd hj=>?_⟩⟩,?_⟩
  ·have hjl:j<(L.length+k)*z:=by rw [←hfl];exact (List.getElem?_eq_some_iff.1 hj).1
   obtain ⟨u,q1,q2⟩:=hTT j dd hj
   refine ⟨u,?_,q2,fun h=>by cases h⟩
   rw [←hG.take,VK,if_pos hjl,WM] at q1
   exact q1
  ·rw [hG.v]
   exact .vl ts _ σ.n _ _ (dK _ _ _) (.inr ⟨L.length+k,c',rfl,rfl,by rw [hlen,hll],hG.le,hG.cap,fun sz t' hh=>by cases hh;rw [hG.size,hzt]⟩)
 have nilE:ev (Tm.op .nil [])= .aF []:=rfl
 cases x<;>first |(cases hb;done) |skip
 case an=>
  cases hb
  cases hx
  obtain ⟨V,w',g,cur,c',g1,g2,g3,g4⟩:=pG (ty:=ty) hu hi hz hsi hzs hz1 (X:=.slice none 0 0) (n:=0) (olds:=[]) ⟨by simp,.inl ⟨rfl,rfl⟩⟩ (k:=k) (c:=c) hus hcell h1 hk (by simpa [lenOf] using hm2) (by simpa [lenOf] using hm) h.hN
  have g4:g=w.heap.size:=by
   rcases g4 with h |h
   ·cases h
   ·exact h
  subst g4
  obtain ⟨q1,q2⟩:=lay (L:=[]) (olds:=[]) nilE (fun r hr=>absurd hr VS) (fun j d hj=>by simp at hj) (by simp) (by simpa using g2)
  exact jU (σ₀:=σ) (h.pH g3 q1) g1 q2 (fun p=>ir)
 case e0 zz=>
  cases zz<;>first |(cases hb;done) |skip
  cases hb
  cases hx with
  |e0 _ ad0 cc hz0 _=>
   obtain rfl:=hz0 rfl
   obtain ⟨V,w',cur,c',g1,g2,g3⟩:=um (N:=N) (ty:=ty) hu hi hz hsi hzs (ad0:=ad0) (n:=0) (olds:=[]) (by simp) (fun j v hj=>by simp at hj) (k:=k) (c:=c) hus hcell hk (by simpa [lenOf] using hm2) (by simpa [lenOf] using hm) h.hN
   obtain ⟨q1,q2⟩:=lay (L:=[]) (olds:=[]) nilE (fun r hr=>absurd hr VS) (fun j d hj=>by simp at hj) (by simp) (by simpa using g2)
   exact jU (σ₀:=σ) (h.pH g3 q1) g1 q2 (fun p=>ir)
 case slice b o n fV wh=>
  obtain ⟨cs,hcs,hb⟩:=aa.1 hb
  obtain ⟨x1,hx1,hb⟩:=aa.1 hb
  cases hx with
  |slice _ _ _ _ _ en ad0 cc hen had hnc hmc hlim hc=>
   obtain ⟨e1,e2,olds,e3,e4,e5⟩:=h.iq hen hcs
   obtain ⟨L,l1,l2,l3,l4,l5⟩:=iB e3 hx1 nilE
   rw [List.nil_append] at l1
   have e4':olds.length=n*z:=e4
   have hol: ∀(hn0:0<n),ad0=en.a.add o:=fun hn0=>had.elim id (fun h=>by omega)
   have hcells: ∀j v,olds[j]? =some v→w.cell? (ad0.add j)=some v:=by
    intro j v hj
    have hjl:j<olds.length:=(List.getElem?_eq_some_iff.1 hj).1
    have hn0:0<n:=by
     rcases Xo n with h0 |h0
     ·rw [e4',h0] at hjl;simp at hjl
     ·exact h0
    rw [hol hn0,add_add,e5 j (by rw [e4'] at hjl;exact hjl)]
    exact hj
   cases hl:fV with
   |true=>
    rw [hl] at hb
    cases hb
    obtain rfl:=hlim hl
    obtain ⟨V,w',cur,c',g1,g2,g3⟩:=um (N:=N) (ty:=ty) hu hi hz hsi hzs (ad0:=ad0) (n:=cc) (olds:=olds) e4' hcells (k:=k) (c:=c) hus hcell hk hm2 hm h.hN
    rw [←l2] at g2 e4'
    obtain ⟨q1,q2⟩:=lay l1 l3 (fun j d hj=>l5 j d hj) e4' g2
    exact jU (σ₀:=σ) (h.pH g3 q1) g1 q2 (fun p=>ir)
   |false=>
    rw [hl] at hb
    obtain ⟨hwo,hb2⟩:=aj.1 (show au (wh&&Vo o 0) (ab (σ.h.get b) fun bl=>match bl with | .cells own e' len _=>au (own&&Vo e' e&&Vv (VC n z) len) (some (x1,some b)) none |_=>none) none=some (x0,d) from hb)
    clear hb
    rw [V1] at hwo
    obtain ⟨hwh,ho⟩:=hwo
    obtain rfl:o=0:=VN ho
    obtain ⟨bl,hbl,hb⟩:=aa.1 hb2
    clear hb2
    cases bl with
    |cells own e' len cl=>
     obtain ⟨hq,hb⟩:=aj.1 (show au (own&&Vo e' e&&Vv (VC n z) len) (some (x1,some b)) none=some (x0,d) from hb)
     cases hb
     simp only [V1] at hq
     obtain ⟨⟨hown,hee⟩,hnl⟩:=hq
     subst hown
     obtain rfl:e'=e:=VN hee
     have hbr:BR P N μ w (.cells true e' len cl) en:=by
      obtain ⟨k',q1,q2⟩:=h.bU b en hen
      rw [hbl] at q1;cases q1;exact q2
     obtain ⟨g0,sz,cur0,rfl,hN,b1,b2,b3,b4⟩:=hbr
     obtain rfl:ad0=⟨g0,0,none⟩:=by
      rcases had with h |⟨_,h⟩
      ·rw [h,add_nil]
      ·exact absurd rfl h
     have hcz:cc*z=sz:=by rw [←cq hsz];exact hc hwh rfl sz e' rfl
     have hnl:n*z≤len:=VQ hnl
     have htake:cur0.toList.take (n*z)=olds:=by
      apply List.ext_getElem?
      intro j
      by_cases hj:j<n*z
      ·rw [VK,if_pos hj,WM,←e5 j hj,Yq,add_zero]
       simp only [Wh,b1]
       simp
      ·rw [VH (by simp;omega),VH (by omega)]
     have hown:w.ownsRow N e' z (.slice (some ⟨g0,0,none⟩) n cc) n olds:=
      ⟨e4',.inr ⟨g0,cc,cur0,rfl,hN,b1,hnc,hmc,by rw [b2,hcz],htake⟩⟩
     obtain ⟨V,w',g,cur,c',g1,g2,g3,g4⟩:=pG (ty:=ty) hu hi hz hsi hzs hz1 hown (k:=k) (c:=c) hus hcell h1 hk hm2 hm h.hN
     rw [←l2] at g2 e4'
     obtain ⟨q1,q2⟩:=lay l1 l3 (fun j d hj=>l5 j d hj) e4' g2
     refine jU (σ₀:=σ) (h.NW hen hbl rfl rfl hN g3 ?_ q1) g1 q2 (fun p=>ei)
     rcases g4 with h |h
     ·simp only [Yl,Xu] at h;exact .inl h.symm
     ·exact .inr h
    |_=>cases hb
 case vl us' n b=>
  obtain ⟨hq,hb2⟩:=aj.1 (show au (bV ts us'&&dD n fc) (ab (σ.h.get b) fun bl=>ab (pc true ts n bl) fun q=>au (Vo q.1 e) (some (q.2,some b)) none) none=some (x0,d) from hb)
  clear hb
  rw [V1] at hq
  obtain rfl:=bW hq.1
  obtain ⟨bl,hbl,hb⟩:=aa.1 hb2
  clear hb2
  obtain ⟨⟨tt,q⟩,hv,hb⟩:=aa.1 hb
  obtain ⟨hee,hb⟩:=aj.1 hb
  cases hb
  obtain rfl:tt=e:=VN hee
  obtain ⟨en,L,hen,hd,hwr,l1,l2,l3,l4⟩:=iC h hx hbl hv
  have hle:=dT hq.2 l2 (show ev fc= .int .i64 100000000 from rfl)
  have hle:L.length≤100000000:=by have:(Vw L.length:Int)=(L.length:Int):=rfl;omega
  have hm2':L.length+k≤35184372088832:=by simp only [lenOf] at hm2;omega
  have hm':(L.length+k)*i.bytes≤35184372088832:=VZ (Wu _ (by simp only [lenOf];omega)) hm
  refine yQ (ty:=ty) (O:=iR μ.fz L) h hu hi hz hsi hzs hz1 hzt hen hbl hd (hwr rfl) ?_ hm2' hm' hus hcell h1 hk (fun hO hol hG=>lay l1 l3 hO hol hG)
  rcases l4 with ⟨hX,rfl,rfl,hN0,hs0⟩ |⟨g0,cc,cur0,rfl,rfl,hN,r2,r3,r4,r5,r6⟩
  ·exact .inl ⟨hX,rfl,rfl,hN0,fun j d hj=>by simp at hj⟩
  ·exact .inr ⟨g0,cc,cur0,rfl,rfl,hN,r2,r3,r4,r5,qW (by rw [l3.flat,hzt]) r6 (by rw [r3,hzt];exact Wu _ r4)⟩
theorem uo {e z:Nat} {ts:List Ty} {x:AV} {X:Value} {q:Tm×Option Pos} (hx:VR P μ x X) (hb:lX e z ts σ x=some q): ∃base n c,X= .slice base n c∧n≤c:=by
 cases x<;>first |(cases hb;done) |skip
 case an=>cases hx;exact ⟨_,_,_,rfl,VY _⟩
 case e0=>cases hx;exact ⟨_,_,_,rfl,Xz _⟩
 case slice=>cases hx with |slice _ _ _ _ _ en ad c _ _ hnc=>exact ⟨_,_,_,rfl,hnc⟩
 case vl=>
  cases hx with
  |vl _ _ _ _ e he hc=>
   rcases hc with ⟨rfl |⟨ad,rfl⟩,_⟩ |⟨m,c,rfl,_,_,h,_⟩
   ·exact ⟨_,_,_,rfl,VY _⟩
   ·exact ⟨_,_,_,rfl,VY _⟩
   ·exact ⟨_,_,_,rfl,h⟩
theorem I3 {e z:Nat} {ts:List Ty} {x:AV} {X:Value} {x0:Tm} {d:Option Pos} (h:SR P N μ σ w) (hx:VR P μ x X) (hb:lX e z ts σ x=some (x0,d)): ∃L,ev x0= .aF L:=by
 have nilE:ev (Tm.op .nil [])= .aF []:=rfl
 cases x<;>first |(cases hb;done) |skip
 case an=>cases hb;exact ⟨_,nilE⟩
 case e0 zz=>
  cases zz<;>first |(cases hb;done) |skip
  cases hb;exact ⟨_,nilE⟩
 case slice b o n fV wh=>
  obtain ⟨cs,hcs,hb⟩:=aa.1 hb
  obtain ⟨x1,hx1,hb⟩:=aa.1 hb
  cases hx with
  |slice _ _ _ _ _ en ad0 cc hen had hnc hmc hlim hc=>
   obtain ⟨e1,e2,olds,e3,e4,e5⟩:=h.iq hen hcs
   obtain ⟨L,l1,_⟩:=iB e3 hx1 nilE
   have hx01:x1=x0:=by
    cases fV with
    |true=>cases hb;rfl
    |false=>
     obtain ⟨_,hb⟩:=aj.1 (show au (wh&&Vo o 0) (ab (σ.h.get b) fun bl=>match bl with | .cells own e' len _=>au (own&&Vo e' e&&Vv (VC n z) len) (some (x1,some b)) none |_=>none) none=some (x0,d) from hb)
     obtain ⟨bl,hbl,hb⟩:=aa.1 hb
     cases bl with
     |cells own e' len cl=>
      obtain ⟨_,hb⟩:=aj.1 (show au (own&&Vo e' e&&Vv (VC n z) len) (some (x1,some b)) none=some (x0,d) from hb)
      cases hb
      rfl
     |_=>cases hb
   rw [←hx01]
   exact ⟨_,l1⟩
 case vl us' n b=>
  obtain ⟨hq,hb2⟩:=aj.1 (show au (bV ts us'&&dD n fc) (ab (σ.h.get b) fun bl=>ab (pc true ts n bl) fun q=>au (Vo q.1 e) (some (q.2,some b)) none) none=some (x0,d) from hb)
  clear hb
  rw [V1] at hq
  obtain rfl:=bW hq.1
  obtain ⟨bl,hbl,hb⟩:=aa.1 hb2
  clear hb2
  obtain ⟨⟨tt,q⟩,hv,hb⟩:=aa.1 hb
  obtain ⟨hee,hb⟩:=aj.1 hb
  cases hb
  obtain ⟨en,L,_,_,_,l1,_⟩:=iC h hx hbl hv
  exact ⟨L,l1⟩
theorem NR.Gu {μ1:bw} {σ1:St} {d:Option Pos} {e:TypeId} {ts:List Ty} {y:Tm} {res:Result Next} (hg:bF P N μ σ w μ1 σ1 w) (hn:σ1.n=σ.n) (h:NR P N μ1 σ1 w (jw σ1 d e ts y) res):NR P N μ σ w (jw σ1 d e ts y) res:=by
 obtain ⟨μ',u,w',h1,h2,h3,h4⟩:=h
 refine ⟨μ',u,w',h1,hg.trans h2,h3,fun hh=>?_⟩
 cases d with
 |none=>exact ir (σ:=σ1) (hh.trans hn.symm)
 |some b=>exact ei (σ:=σ1) (hh.trans hn.symm)
theorem NR.Ba {μ1:bw} {σ1:St} {b:Pos} {K:aY} {v:AV} {res:Result Next} (hg:bF P N μ σ w μ1 σ1 w) (hn:σ1.n=σ.n) (h:NR P N μ1 σ1 w (.val v ((σ1.put b .dead).push K)) res):NR P N μ σ w (.val v ((σ1.put b .dead).push K)) res:=by
 obtain ⟨μ',u,w',h1,h2,h3,h4⟩:=h
 exact ⟨μ',u,w',h1,hg.trans h2,h3,fun hh=>ei (σ:=σ1) (hh.trans hn.symm)⟩
theorem qX {α:Type}: ∀{l:List α} {q:List α×α},qG l=some q→l=q.1++[q.2]
 |[],q,h=>by cases h
 |v::l,q,h=>by
  unfold qG at h
  cases l with
  |nil=>cases h;rfl
  |cons x l=>
   cases hu:qG (x::l) with
   |none=>simp only [hu] at h;cases h
   |some r=>
    simp only [hu] at h
    cases h
    rw [qX hu]
    rfl
theorem Grown.at {w':World} {e z:Nat} {V:Value} {m:Nat} {xs:List Value} {g:Nat} {cur:Array Value} {c j:Nat} {u:Value} (h:Grown w w' N e z V m xs g cur c) (hj:j<m*z) (hu:xs[j]? =some u):cur[j]? =some u:=by
 rw [←h.take,VK,if_pos hj,WM] at hu
 exact hu
theorem Bb {t ty e z k:Nat} {i:TypeInfo} {Z:Value} {ts:List Ty} {n:Tm} {b:Pos} {k0:aY} {X:Value} {new:List AV} {us:List Value} {r:aG} (h:SR P N μ σ w) (hx:VR P μ (.vl ts n b) X) (hzt:z=ts.length) (hu:P.underlying t=some (.slice e)) (hi:P.info? e=some i) (hz:i.zero=some Z) (hsi:i.size=z) (hzs:Z.cells.size=z) (hz1:1≤z)
 (hbl:σ.h.get b=some k0) (hr:mR e k new σ ts n b k0=some r) (hm:(100000000+k)*i.bytes≤35184372088832) (hm2:100000000+k≤35184372088832) {ad:Addr} {c:Nat} (hnew:b8 P μ new us) (hus:us.length=k*z) (hcell: ∀j v,us[j]? =some v→w.cell? (ad.add j)=some v):
 NR P N μ σ w r ((do pure (.value (←Yd #[t,t] ty #[X,.slice (some ad) k c])):Sem Next).run P w):=by
 cases k0<;>first |(cases hr;done) |skip
 rename_i t' us' m x0 pi pv
 obtain ⟨hb,hr⟩:=aj.1 (show au (Vo t' e&&bV ts us'&&cp n m&&dD n fc&& !Vo k 0) (ab (dg new σ) fun q=>omap (lH ts k x0 q.1) fun y=>
  aG.val (.vl ts (.op .len [y]) q.2.n) ((q.2.put b .dead).push (.eE e ts (.op .len [y]) y pi pv))) none=some r from hr)
 obtain ⟨⟨new',σ1⟩,hf,hr⟩:=aa.1 hr
 obtain ⟨y,hy,rfl⟩:=aO.1 hr
 simp only [V1] at hb
 obtain ⟨⟨⟨⟨b1,b2⟩,b3⟩,b4⟩,b5⟩:=hb
 obtain rfl:t'=e:=VN b1
 obtain rfl:=bW b2
 obtain rfl:=cI b3
 have hk0:k≠0:=fun q=>by subst q;cases b5
 obtain ⟨fz',hg,hn1,hnew'⟩:=eO h hnew hf
 have hbl1:=rW hf hbl
 cases hx with
 |vl _ _ _ _ en he hc=>
  obtain ⟨k',hk',hbr⟩:=hg.sr.bU b en he
  rw [hbl1] at hk'
  cases hk'
  obtain ⟨l,iv,q1,q2,q3,q4,q5,G,cur0,pV,rfl,r2,r3,r4,r5,r6,r7,r8,r9⟩:=hbr
  have hR:eo ts l:=by
   obtain ⟨l',e1,h⟩:=q3
   cases e1
   exact h
  rcases hc with ⟨_,c1,_⟩ |⟨mm,cc,rfl,c1,c2,c3,c4,c5⟩
  ·exact absurd rfl c1
  have hml:mm=l.length:=by rw [q2] at c2;injection c2 with _ c2;exact (Int.ofNat.inj c2).symm
  subst hml
  have hll:l.length≤100000000:=by
   have:=dT b4 q2 (show ev fc= .int .i64 100000000 from rfl)
   have h1:(Vw l.length:Int)=(l.length:Int):=rfl
   omega
  obtain ⟨R,w1,w2,w3,_,w5⟩:=iB hnew' hy q1
  have hRR:eo ts (l++R):=fun r hr=>(List.mem_append.1 hr).elim (hR r) (w3 r)
  have hlen:ev (.op .len [y])= .int .i64 (Vw (l++R).length):=by rw [bH];simp only [VT,VU,w1];rfl
  have hLR:(l++R).length=l.length+k:=by rw [V7,w2]
  have hfl:(l++R).flatten.length=(l.length+k)*z:=by rw [hRR.flat,hLR,hzt]
  have hlf:l.flatten.length=l.length*z:=by rw [hR.flat,hzt]
  have hpin:iv*z+(z - 1)<l.length*z:=by
   have:(iv+1)*z≤l.length*z:=Wu _ q5
   rw [V6] at this
   omega
  have hones: ∀u∈us,u.oneCell'=true:=(iR.cf (fz:=fz') (L:=R) w5 (by rw [eo.flat w3,w2,hus,hzt]))
  refine NR.Ba hg hn1 ?_
  refine yQ (ty:=ty) (L:=l.length) (O:=fun olds=>(∀(j:Nat) (d:D),l.flatten[j]? =some d→j≠iv*z+(z - 1)→∃u,olds[j]? =some u∧dY fz' d u)∧olds[iv*z+(z - 1)]? =some pV) hg.sr hu hi hz hsi hzs hz1 hzt he hbl1 rfl rfl
   (.inr ⟨G,cc,cur0,rfl,rfl,r2,r3,c5 _ _ rfl,c3,c4,?_,?_⟩) (by omega) (VZ (Wu _ (by omega)) hm) hus hcell hones hk0 ?_
  ·intro j d hj hne
   obtain ⟨u,x1,x2⟩:=r5 j d hj (by rw [←hzt];exact hne)
   have hjl:=(List.getElem?_eq_some_iff.1 hj).1
   exact ⟨u,by rw [VK,if_pos (by omega),WM];exact x1,x2⟩
  ·rw [←hzt] at r7
   rw [VK,if_pos hpin,WM]
   exact r7
  ·rintro olds V w' g c' cur ⟨o1,o2⟩ hol hG
   refine ⟨⟨l++R,iv,w1,hlen,⟨_,rfl,hRR⟩,q4,by omega,g,cur,pV,rfl,hG.N,hG.h,by rw [hfl,hG.size];exact Wu _ hG.le,fun j d hj hne=>?_,by omega,?_,r8.mono (eJ (.inl hg.sr.fresh)),r9⟩,?_⟩
   ·rw [←hzt] at hne
    have hjl:j<(l.length+k)*z:=by rw [←hfl];exact (List.getElem?_eq_some_iff.1 hj).1
    rw [Yr] at hj
    by_cases hjl2:j<l.flatten.length
    ·rw [VJ hjl2] at hj
     obtain ⟨u,x1,x2⟩:=o1 j d hj hne
     exact ⟨u,hG.at hjl (by rw [VJ (by omega)];exact x1),x2⟩
    ·rw [VL (by omega)] at hj
     obtain ⟨u,x1,x2⟩:=w5 _ d hj
     exact ⟨u,hG.at hjl (by rw [VL (by omega),hol,←hlf];exact x1),x2⟩
   ·rw [←hzt]
    exact hG.at (Nat.lt_of_lt_of_le hpin (Wu _ (Nat.le_add_right _ _))) (by rw [VJ (by omega)];exact o2)
   ·rw [hG.v]
    exact .vl ts _ σ1.n _ _ (dK _ _ _) (.inr ⟨l.length+k,c',rfl,rfl,by rw [hlen,hLR],hG.le,hG.cap,fun sz t'' hh=>by cases hh;rw [hG.size,hzt]⟩)
theorem Dh {t ty e z k:Nat} {i:TypeInfo} {Z:Value} {ts:List Ty} {n:Tm} {b:Pos} {X:Value} {new:List AV} {us:List Value} {r:aG} (h:SR P N μ σ w) (hx:VR P μ (.vl ts n b) X) (hzt:z=ts.length) (hu:P.underlying t=some (.slice e)) (hi:P.info? e=some i) (hz:i.zero=some Z) (hsi:i.size=z) (hzs:Z.cells.size=z) (hz1:1≤z)
 (hr:kC e z k new σ ts n b=some r) (hm:(100000000+k)*i.bytes≤35184372088832) (hm2:100000000+k≤35184372088832) {ad:Addr} {c:Nat} (hnew:b8 P μ new us) (hus:us.length=k*z) (hcell: ∀j v,us[j]? =some v→w.cell? (ad.add j)=some v):
 NR P N μ σ w r ((do pure (.value (←Yd #[t,t] ty #[X,.slice (some ad) k c])):Sem Next).run P w):=by
 unfold kC at hr
 obtain ⟨hk,hr0⟩:=aj.1 hr
 clear hr
 obtain rfl:k=1:=VN hk
 obtain ⟨⟨pre,v⟩,hp,hr1⟩:=aa.1 hr0
 clear hr0
 obtain ⟨⟨tt,tl⟩,ht,hr⟩:=aa.1 hr1
 clear hr1
 cases tl<;>first |(cases hr;done) |skip
 rename_i us'
 cases v<;>first |(cases hr;done) |skip
 rename_i vs vm vc
 obtain ⟨hv1,hr⟩:=aj.1 (show au (bV us' vs) (ab (dg pre σ) fun q=>ab (jf tt q.1) fun r=>match r.2 with
  |[]=>ab (lX e z ts q.2 (.vl ts n b)) fun d=>ab (HK (.op .len [d.1])) fun i=>(match Tm.op .snoc (d.1::(r.1++[.op .nil []])) with
   |y=>some (aG.val (.vl ts (.op .len [y]) q.2.n) ((q.2.put b .dead).push (.eE e ts (.op .len [y]) y i (.vl vs vm vc)))))
  |_=>none) none=some r from hr)
 obtain ⟨⟨pre',σ1⟩,hf,hr⟩:=aa.1 hr
 obtain ⟨⟨row,rest⟩,hrow,hr⟩:=aa.1 hr
 cases rest<;>first |(cases hr;done) |skip
 obtain ⟨⟨x0,d⟩,hb,hr⟩:=aa.1 hr
 obtain ⟨ix,hix,hr⟩:=aa.1 hr
 cases hr
 have hix:=AE hix
 have hnl:new=pre++[.vl vs vm vc]:=qX hp
 have htl:ts=tt++[.aF us']:=qX ht
 have hzl:z=tt.length+1:=by rw [hzt,htl];simp
 subst hnl
 have hul:us.length=z:=by rw [hus];omega
 have hpl:pre.length=tt.length:=by have:=hnew.length;simp at this;omega
 have hpre:b8 P μ pre (us.take tt.length):=by have:=hnew.take tt.length;rwa [←hpl,Yp,hpl] at this
 obtain ⟨uv,huv⟩: ∃uv,us[tt.length]? =some uv:=⟨_,Wj (by omega)⟩
 have hvv:VR P μ (.vl vs vm vc) uv:=by
  obtain ⟨u,q1,q2⟩:=hnew.get (i:=tt.length) (v:=.vl vs vm vc) (by rw [VL (by omega),hpl];simp)
  rw [huv] at q1
  cases q1
  exact q2
 obtain ⟨fz',hg,hn1,hpre'⟩:=eO h hpre hf
 obtain ⟨g1,us2,g2,g3,g4,g5⟩:=gi hpre' hrow
 have hx1:=hx.mono hg.ext.sub
 have hvv1:=hvv.mono hg.ext.sub
 obtain ⟨hq,hb2⟩:=aj.1 (show au (bV ts ts&&dD n fc) (ab (σ1.h.get b) fun bl=>ab (pc true ts n bl) fun q=>au (Vo q.1 e) (some (q.2,some b)) none) none=some (x0,d) from hb)
 clear hb
 rw [V1] at hq
 obtain ⟨bl,hbl,hb⟩:=aa.1 hb2
 clear hb2
 obtain ⟨⟨te,q⟩,hv,hb⟩:=aa.1 hb
 obtain ⟨hee,hb⟩:=aj.1 hb
 cases hb
 obtain rfl:te=e:=VN hee
 obtain ⟨en,L,hen,hd,hwr,l1,l2,l3,l4⟩:=iC hg.sr hx1 hbl hv
 have hle:=dT hq.2 l2 (show ev fc= .int .i64 100000000 from rfl)
 have hle:L.length≤100000000:=by have:(Vw L.length:Int)=(L.length:Int):=rfl;omega
 let R:List D:=row.map ev++[.aF []]
 have hRt:aW ts R:=by
  rw [htl]
  refine dV g1 ?_
  unfold aW
  exact ⟨_,_,rfl,⟨[],rfl,fun r hr=>absurd hr VS⟩,by unfold aW;rfl⟩
 have hRl:R.length=z:=by rw [bD hRt,hzt]
 have hev:ev (.op .snoc (q::(row++[.op .nil []])))= .aF (L++[R]):=by
  rw [bH]
  simp only [VT,List.map_append,VU,l1]
  rfl
 have hlen:ev (.op .len [.op .snoc (q::(row++[.op .nil []]))])= .int .i64 (Vw (L++[R]).length):=by rw [bH];simp only [VT,VU,hev];rfl
 have hlen0:ev (.op .len [q])= .int .i64 (Vw L.length):=by rw [bH];simp only [VT,VU,l1];rfl
 have hRR:eo ts (L++[R]):=fun r hr=>(List.mem_append.1 hr).elim (l3 r) fun hr=>by rw [List.mem_singleton.1 hr];exact hRt
 have hLR:(L++[R]).length=L.length+1:=by simp
 have hfl:(L++[R]).flatten.length=(L.length+1)*z:=by rw [hRR.flat,hLR,hzt]
 have hlf:L.flatten.length=L.length*z:=by rw [l3.flat,hzt]
 have hval: ∀(j:Nat),j<tt.length→∃u,us[j]? =some u∧dY fz' (D.at R j) u:=by
  intro j hj
  have hjr:j<(row.map ev).length:=by rw [bD g1];exact hj
  obtain ⟨u,x1,x2⟩:=g5 j _ (Wj hjr)
  rw [VK,if_pos hj] at x1
  refine ⟨u,x1,?_⟩
  have:D.at R j=(row.map ev)[j]:=D.nR (by show (row.map ev++[D.aF []])[j]? =_;rw [VJ hjr,Wj hjr])
  rw [this]
  exact x2
 have hones: ∀u∈us,u.oneCell'=true:=by
  intro u hu
  obtain ⟨j,hj⟩:=Yh hu
  have hjl:j<us.length:=(List.getElem?_eq_some_iff.1 hj).1
  by_cases hjt:j<tt.length
  ·obtain ⟨u',x1,x2⟩:=hval j hjt
   rw [hj] at x1
   cases x1
   exact x2.one
  ·have:j=tt.length:=by omega
   subst this
   rw [huv] at hj
   cases hj
   exact hvv.one rfl
 refine NR.Ba hg hn1 ?_
 refine yQ (ty:=ty) (L:=L.length) (O:=iR fz' L) hg.sr hu hi hz hsi hzs hz1 hzt hen hbl hd (hwr rfl) ?_ (by omega) (VZ (Wu _ (by omega)) hm) hus hcell hones (by decide) ?_
 ·rcases l4 with ⟨hX,rfl,rfl,hN0,hs0⟩ |⟨g0,cc,cur0,rfl,rfl,hN,r2,r3,r4,r5,r6⟩
  ·exact .inl ⟨hX,rfl,rfl,hN0,fun j d hj=>by simp at hj⟩
  ·exact .inr ⟨g0,cc,cur0,rfl,rfl,hN,r2,r3,r4,r5,qW (by rw [l3.flat,hzt]) r6 (by rw [r3,hzt];exact Wu _ r4)⟩
 ·intro olds V w' g c' cur hO hol hG
  refine ⟨⟨L++[R],L.length,hev,hlen,⟨_,rfl,hRR⟩,(AF hix).2 hlen0,by omega,g,cur,uv,rfl,hG.N,hG.h,by rw [hfl,hG.size];exact Wu _ hG.le,fun j dd hj hne=>?_,by omega,?_,hvv1.mono (eJ (.inl hg.sr.fresh)),rfl⟩,?_⟩
  ·rw [←hzt] at hne
   have hjl:j<(L.length+1)*z:=by rw [←hfl];exact (List.getElem?_eq_some_iff.1 hj).1
   rw [Yr] at hj
   by_cases hjl2:j<L.flatten.length
   ·rw [VJ hjl2] at hj
    obtain ⟨u,x1,x2⟩:=hO j dd hj
    exact ⟨u,hG.at hjl (by rw [VJ (by omega)];exact x1),x2⟩
   ·rw [VL (by omega)] at hj
    have hj2:R[j - L.flatten.length]? =some dd:=by simpa using hj
    rw [V6] at hjl
    have hlt:j - L.flatten.length<tt.length:=by omega
    obtain ⟨u,x1,x2⟩:=hval _ hlt
    rw [D.nR hj2] at x2
    exact ⟨u,hG.at (by rw [V6];omega) (by rw [VL (by omega),hol,←hlf];exact x1),x2⟩
  ·rw [←hzt]
   refine hG.at (by rw [V6];omega) ?_
   rw [VL (by omega),hol,Nat.add_sub_cancel_left,show z - 1=tt.length by omega]
   exact huv
  ·rw [hG.v]
   exact .vl ts _ σ1.n _ _ (dK _ _ _) (.inr ⟨L.length+1,c',rfl,rfl,by rw [hlen,hLR],hG.le,hG.cap,fun sz t'' hh=>by cases hh;rw [hG.size,hzt]⟩)
theorem Gv {e z k:Nat} {new:List AV} {ts:List Ty} {x:AV} {els:Option aG} {r:aG} (h:L5 e z k new σ ts x els=some r):els=some r∨∃n b,x= .vl ts n b∧((∃k0,σ.h.get b=some k0∧mR e k new σ ts n b k0=some r)∨kC e z k new σ ts n b=some r):=by
 cases x<;>first |exact .inl h |skip
 rename_i us n b
 replace h:au (bV ts us) (au (tE (σ.h.get b)) (ab (σ.h.get b) (mR e k new σ ts n b)) (au wS (kC e z k new σ ts n b) els)) els=some r:=h
 cases hu:bV ts us with
 |false=>rw [hu] at h;exact .inl h
 |true=>
  rw [hu] at h
  obtain rfl:=bW hu
  cases hv:tE (σ.h.get b) with
  |true=>
   replace h:au (tE (σ.h.get b)) (ab (σ.h.get b) (mR e k new σ ts n b)) (au wS (kC e z k new σ ts n b) els)=some r:=h
   rw [hv] at h
   obtain ⟨k0,h1,h2⟩:=aa.1 h
   exact .inr ⟨n,b,rfl,.inl ⟨k0,h1,h2⟩⟩
  |false=>
   replace h:au (tE (σ.h.get b)) (ab (σ.h.get b) (mR e k new σ ts n b)) (au wS (kC e z k new σ ts n b) els)=some r:=h
   rw [hv] at h
   replace h:au wS (kC e z k new σ ts n b) els=some r:=h
   cases hp:(wS:Bool) with
   |false=>rw [hp] at h;exact .inl h
   |true=>rw [hp] at h;exact .inr ⟨n,b,rfl,.inr h⟩
theorem Gw {t:TypeId} {ty:TypeId} {x y:AV} {X Y:Value} {r:aG} (h:SR P N μ σ w) (hx:VR P μ x X) (hy:VR P μ y Y) (hr:EM P t x y σ=some r):
 NR P N μ σ w r ((do pure (.value (←Yd #[t,t] ty #[X,Y])):Sem Next).run P w):=by
 obtain ⟨e,he,hr1⟩:=aa.1 hr
 obtain ⟨z,hz,hr2⟩:=aa.1 hr1
 obtain ⟨by_,hby,hr3⟩:=aa.1 hr2
 obtain ⟨zv,hzv,hr4⟩:=aa.1 hr3
 clear hr hr1 hr2 hr3
 have hu:=cA he
 have facts: ∀{k:Nat},rN e z by_ zv x k=true→∃(i:TypeInfo) (Z:Value),P.info? e=some i∧i.zero=some Z∧i.size=z∧Z.cells.size=z∧1≤z∧(lenOf x+k)*i.bytes≤35184372088832∧lenOf x+k≤35184372088832:=by
  intro k hb
  unfold rN at hb
  simp only [V1] at hb
  obtain ⟨⟨⟨⟨b1,b2⟩,b3⟩,b4⟩,b5⟩:=hb
  have b1:1≤z:=VQ b1
  have b2:zv.cells.length=z:=VN b2
  have b4:1≤by_:=VQ b4
  have b5:(lenOf x+k)*by_≤35184372088832:=VQ b5
  obtain ⟨Z,_,hZ,i,hi,hzz⟩:=cN (μ:=μ) hzv w
  obtain ⟨i',hi',rfl⟩:=fA hby
  rw [hi] at hi'
  cases hi'
  have hsi:i.size=z:=by unfold bA at hz;rw [hi] at hz;cases hz;rfl
  have hzc:=hZ.cells (bT b3)
  exact ⟨i,Z,hi,hzz,hsi,by rw [←b2];simpa using hzc.length.symm,b1,b5,VZ (Nat.le_mul_of_pos_right _ b4) b5⟩
 cases hl:HY y with
 |true=>
  rw [hl] at hr4
  obtain ⟨hok,hr5⟩:=aj.1 (show au (rN e z by_ zv x 100000000) (ab (lQ P 12 e) fun ts=>au (Vo z ts.length) (EK e z σ ts x y) none) none=some r from hr4)
  obtain ⟨ts,hts,hr6⟩:=aa.1 hr5
  obtain ⟨hzt,hr7⟩:=aj.1 hr6
  obtain ⟨⟨x0,d⟩,hb,hr8⟩:=aa.1 hr7
  obtain ⟨u,hn,hr9⟩:=aa.1 hr8
  obtain ⟨c,hc,hr10⟩:=aa.1 hr9
  clear hr4 hr5 hr6 hr7 hr8 hr9
  have hzt:z=ts.length:=VN hzt
  obtain ⟨L,n1,n2,n3,n4⟩:=Gt h hy hn
  have hcd:=cj (show dB (.op (.cmp .lss) [.int .i64 0,.op .len [u]])=some c from hc)
  have hlen:ev (.op .len [u])= .int .i64 L.length:=by rw [bH];simp only [VT,VU,n1];rfl
  have hc':decide ((0:Int)<L.length)=c:=by
   rw [bH] at hcd
   simp only [VT,VU,hlen] at hcd
   have:cw (.cmp .lss) [ev (.int .i64 0),.int .i64 L.length]= .bool (decide ((0:Int)<L.length)):=rfl
   rw [this] at hcd
   injection hcd
  cases c with
  |false=>
   cases hr10
   have h0:L.length=0:=by have:=of_decide_eq_false hc';omega
   obtain ⟨base,n,cc,rfl,hnc⟩:=uo hx hb
   have hY:Y= .slice none 0 0∨∃ad c',Y= .slice (some ad) 0 c':=by
    rcases n4 with ⟨_,h⟩ |⟨ad,c,us,rfl,_⟩
    ·exact h
    ·exact .inr ⟨ad,c,by rw [h0]⟩
   exact NR.value h (by simp only [Wc,jm hu hz hnc hY,Wd];rfl) hx
  |true=>
   cases hr10
   have h0:L.length≠0:=by have:=of_decide_eq_true hc';omega
   obtain ⟨ad,cc,us,rfl,u1,u2,u3⟩: ∃ad c us,Y= .slice (some ad) L.length c∧us.length=L.length*ts.length∧iR μ.fz L us∧∀j v,us[j]? =some v→w.cell? (ad.add j)=some v:=by
    rcases n4 with ⟨rfl,_⟩ |h
    ·exact absurd rfl h0
    ·exact h
   obtain ⟨i,Z,f1,f2,f3,f4,f5,f6,f7⟩:=facts hok
   have hmm:(lenOf x+L.length)*i.bytes≤35184372088832:=VZ (Wu _ (by omega)) f6
   exact xm (ty:=ty) (k:=L.length) (c:=cc) h hx hzt hu f1 f2 f3 f4 f5 hz hb hmm (by omega) n2 rfl h0 (by rw [hzt];exact u1) u2 u3 (fun L0 hL0=>by rw [bH];simp only [VT,VU,hL0,n1];rfl)
 |false=>
  rw [hl] at hr4
  obtain ⟨⟨k,new⟩,hnew,hr5⟩:=aa.1 (show ab (EJ z σ y) (fun p=>au (rN e z by_ zv x p.1) (EL P e z p.1 p.2 σ x) none)=some r from hr4)
  obtain ⟨hok,hr6⟩:=aj.1 hr5
  clear hr4 hr5
  replace hr6:au (Pd (lQ P 12 e) x) (ab (lQ P 12 e) fun ts=>au (Vo z ts.length) (L5 e z k new σ ts x (ab (dg new σ) fun q=>yk e z k q.1 q.2 ts x)) none) (pb e z k new σ x)=some r:=hr6
  cases hv:Pd (lQ P 12 e) x with
  |false=>
   rw [hv] at hr6
   exact A8 h hx hy he hz hby hzv hnew hok hr6
  |true=>
   rw [hv] at hr6
   obtain ⟨ts,hts,hr7⟩:=aa.1 (show ab (lQ P 12 e) (fun ts=>au (Vo z ts.length) (L5 e z k new σ ts x (ab (dg new σ) fun q=>yk e z k q.1 q.2 ts x)) none)=some r from hr6)
   obtain ⟨hzt,hr7p⟩:=aj.1 hr7
   clear hr6 hr7
   have hzt:z=ts.length:=VN hzt
   obtain ⟨us,u1',u2,u3,u4⟩:=h.news hy hnew
   rcases Gv hr7p with hr7' |⟨n,b,rfl,hpin⟩
   rotate_left
   ·obtain ⟨i,Z,f1,f2,f3,f4,f5,f6,f7⟩:=facts hok
    have hk0:k≠0:=by
     rintro rfl
     rcases hpin with ⟨k0,h0,h2⟩ |h2
     ·clear h0
      cases k0<;>first |(cases h2;done) |skip
      rename_i t' us' m x0 pi pv
      obtain ⟨hb,_⟩:=aj.1 (show au (Vo t' e&&bV ts us'&&cp n m&&dD n fc&& !Vo 0 0) (ab (dg new σ) fun q=>omap (lH ts 0 x0 q.1) fun y=>
       aG.val (.vl ts (.op .len [y]) q.2.n) ((q.2.put b .dead).push (.eE e ts (.op .len [y]) y pi pv))) none=some r from h2)
      simp only [V1] at hb
      exact absurd hb.2 (by decide)
     ·unfold kC at h2
      obtain ⟨hk,_⟩:=aj.1 h2
      cases hk
    obtain ⟨ad,cc,rfl,hcell⟩: ∃ad c,Y= .slice (some ad) k c∧∀j u,us[j]? =some u→w.cell? (ad.add j)=some u:=by
     rcases u4 with ⟨_,h⟩ |h
     ·exact absurd h hk0
     ·exact h
    rcases hpin with ⟨k0,h1,h2⟩ |h2
    ·exact Bb (ty:=ty) (c:=cc) h hx hzt hu f1 f2 f3 f4 f5 h1 h2 (by simpa [lenOf] using f6) (by simpa [lenOf] using f7) u1' u3 hcell
    ·exact Dh (ty:=ty) (c:=cc) h hx hzt hu f1 f2 f3 f4 f5 h2 (by simpa [lenOf] using f6) (by simpa [lenOf] using f7) u1' u3 hcell
   obtain ⟨⟨new',σ1⟩,hfz,hr8⟩:=aa.1 hr7'
   clear hr7'
   obtain ⟨fz',hg,hn1,u1⟩:=eO h u1' hfz
   have hx0:=hx
   replace hx:=hx.mono hg.ext.sub
   obtain ⟨⟨x0,d⟩,hb,hr9⟩:=aa.1 (show ab (lX e z ts σ1 x) (fun q=>au (Vo k 0) (some (aG.val x σ1)) (omap (lH ts k q.1 new') fun y=>jw σ1 q.2 e ts y))=some r from hr8)
   clear hr8
   replace hr9:au (Vo k 0) (some (aG.val x σ1)) (omap (lH ts k x0 new') fun y=>jw σ1 d e ts y)=some r:=hr9
   cases hk:Vo k 0 with
   |true=>
    rw [hk] at hr9
    cases hr9
    have hk0:k=0:=VN hk
    have hY:Y= .slice none 0 0∨∃ad c',Y= .slice (some ad) 0 c':=by
     rcases u4 with ⟨h,_⟩ |⟨ad,c,h,_⟩
     ·exact .inl h
     ·exact .inr ⟨ad,c,by rw [h,hk0]⟩
    obtain ⟨base,n,cc,rfl,hnc⟩:=uo hx hb
    have hnew0:new=[]:=by
     have:=u1'.length
     cases new with
     |nil=>rfl
     |cons a l=>rw [hk0,Nat.zero_mul] at u3;simp [u3] at this
    subst hnew0
    cases hfz
    exact NR.value h (by simp only [Wc,jm hu hz hnc hY,Wd];rfl) hx0
   |false=>
    rw [hk] at hr9
    obtain ⟨yy,hyy,rfl⟩:=aO.1 hr9
    have hk0:k≠0:=fun q=>by subst q;cases hk
    obtain ⟨ad,cc,rfl,hcell⟩: ∃ad c,Y= .slice (some ad) k c∧∀j u,us[j]? =some u→w.cell? (ad.add j)=some u:=by
     rcases u4 with ⟨_,h⟩ |h
     ·exact absurd h hk0
     ·exact h
    obtain ⟨i,Z,f1,f2,f3,f4,f5,f6,f7⟩:=facts hok
    have news: ∃R:List (List D),eo ts R∧R.length=k∧iR fz' R us∧∀L,ev x0= .aF L→ev yy= .aF (L++R):=by
     by_cases hL: ∃L,ev x0= .aF L
     ·obtain ⟨L,hL⟩:=hL
      obtain ⟨R,r1,r2,r3,_,r5⟩:=iB u1 hyy hL
      exact ⟨R,r3,r2,fun j d hj=>r5 j d hj,fun L' hL'=>by rw [hL] at hL';cases hL';exact r1⟩
     ·exact absurd (I3 hg.sr hx hb) hL
    obtain ⟨R,r1,r2,r3,r4⟩:=news
    exact NR.Gu hg hn1<|xm (ty:=ty) (k:=k) (c:=cc) hg.sr hx hzt hu f1 f2 f3 f4 f5 hz hb f6 f7 r1 r2 hk0 u3 r3 hcell r4
end
end
section
open Go Go.RowKit
variable [Env]
section
variable {P:Program} {N:Nat} {μ:bw} {σ:St} {w:World} {a:aN} {ca:Act}
theorem MB (s:ByteArray):b8 P μ (Hy (s.data.toList.map (·.toNat))) (Ys s):=by
 unfold Hy Ys
 rw [List.map_map]
 generalize s.data.toList=l
 induction l with
 |nil=>exact .nil
 |cons x l ih=>exact .cons _ _ _ _ (.int _ _) ih
theorem Di {t u:TypeId} {ty:TypeId} {x y:AV} {X Y:Value} {r:aG} (h:SR P N μ σ w) (hx:VR P μ x X) (hy:VR P μ y Y) (hr:yl P t u x y σ=some r):
 NR P N μ σ w r ((do pure (.value (←Yd #[t,u] ty #[X,Y])):Sem Next).run P w):=by
 unfold yl at hr
 split at hr
 ·rename_i l
  obtain ⟨e,he,hr2⟩:=aa.1 hr
  obtain ⟨z,hz,hr3⟩:=aa.1 hr2
  obtain ⟨by_,hby,hr4⟩:=aa.1 hr3
  obtain ⟨zv,hzv,hr5⟩:=aa.1 hr4
  obtain ⟨hb,hr6⟩:=aj.1 hr5
  clear hr hr2 hr3 hr4 hr5
  simp only [V1] at hb
  obtain ⟨⟨⟨⟨⟨b0,b1⟩,b2⟩,b3⟩,b4⟩,b5⟩:=hb
  have hut:=rT b0
  obtain rfl:z=1:=VN b1
  obtain rfl:by_=1:=VN b2
  have b3:zv.cells.length=1:=VN b3
  have b5:lenOf x+l.length≤1000000:=VQ b5
  have hu:=cA he
  obtain ⟨Z,_,hZ,i,hi,hzz⟩:=cN (μ:=μ) hzv w
  obtain ⟨i',hi',hib⟩:=fA hby
  rw [hi] at hi'
  cases hi'
  have hsi:i.size=1:=by unfold bA at hz;rw [hi] at hz;exact VF hz
  have hzc:=hZ.cells (bT b4)
  have hzs:Z.cells.size=1:=by rw [←b3];simpa using hzc.length.symm
  cases hy with
  |str _ s hs=>
  subst hs
  have hus:b8 P μ (Hy (s.data.toList.map (·.toNat))) (Ys s):=MB s
  have hou:cf (Hy (s.data.toList.map (·.toNat)))=true:=IM _
  have hul:(Ys s).length=s.size:=Lib.strCells_length s
  have hk:(s.data.toList.map (·.toNat)).length=s.size:=by simp
  rw [hk] at b5 hr6
  generalize hnew:Hy (s.data.toList.map (·.toNat))=new at hr6 hus hou
  have fresh: ∀(n cap:Nat) (olds:List Value) (iG:List AV),b8 P μ iG olds→cf iG=true→olds.length=n→n+s.size≤1000000→∀w',w'=w.drew.alloc (.cells (olds.toArray++(Ys s).toArray++Yg Z.cells (grownCap w (n+s.size) cap e - (n+s.size))) e)→
   ∀q:Sem Value,q.run P w= .ok (.slice (some ⟨w.heap.size,0,none⟩) (n+s.size) (grownCap w (n+s.size) cap e)) w'→
   NR P N μ σ w (.val (.slice σ.n 0 (n+s.size) false true) (σ.row e (iG++new))) ((do pure (.value (←q)):Sem Next).run P w):=by
   intro n cap olds iG ho1 ho2 hol hnk w' hw q hq
   subst hw
   have hge:=grownCap_ge w (n+s.size) cap e
   have hle:=grownCap_le_maxLen w (n+s.size) cap e (by simp only [maxLen];omega)
   have hg:=h.E9 (w':=w.drew.alloc (.cells (olds.toArray++(Ys s).toArray++Yg Z.cells (grownCap w (n+s.size) cap e - (n+s.size))) e))
    (us':=olds.toArray++(Ys s).toArray++Yg Z.cells (grownCap w (n+s.size) cap e - (n+s.size))) (t:=e) rfl rfl rfl rfl (ho1.append hus) (fy ho2 hou)
    (by simp only [Yo,Xh];rw [←Xh];exact Yp)
   refine hg.val hq ?_
   refine VR.slice σ.n 0 (n+s.size) false true _ _ _ (dK _ _ _) (.inl (by rw [add_nil])) hge hle (by simp) (fun _ _ sz t' hsz=>?_)
   cases hsz
   rw [cq hz]
   simp only [Ym,Yn,size_zeroCells,hzs,hol,hul]
   omega
  cases x with
  |an=>
   cases hx
   replace hr6:au (Vo s.size 0) (some (.val .an σ)) (some (.val (.slice σ.n 0 s.size false true) (σ.row e new)))=some r:=hr6
   cases hk:Vo s.size 0 with
   |true=>
    rw [hk] at hr6
    cases hr6
    have hm:s.size=0:=VN hk
    have hf:=Yt (P:=P) w 1 s
    rw [hm] at hf
    refine NR.value h (u:=.slice none 0 0) ?_ .an
    simp [Yd,run_underlying hu,run_underlying hut,sizeOf,typeInfo,hi,hsi,Ye,hm,hf]
   |false=>
    rw [hk] at hr6
    cases hr6
    have hk:s.size≠0:=fun q=>by rw [q] at hk;cases hk
    have hrun:=run_append_nil_string (P:=P) w t u ty e i Z hu hut hi hzz s (by omega) (by simp only [lenOf] at b5;omega) (by simp only [lenOf] at b5;rw [hib];omega)
    have e1:(s.data.map fun b=>Value.int .u8 b.toNat)=(Ys s).toArray:=by
     apply Wl
     simp [Ys]
    rw [e1] at hrun
    have:=fresh 0 0 [] [] .nil rfl (by simp) (by simpa [lenOf] using b5) _ rfl (Yd #[t,u] ty #[.slice none 0 0,.string s]) (by simpa using hrun)
    simpa using this
  |slice b o n fV wh=>
   replace hr6:au (Vo s.size 0) (some (.val (.slice b o n fV wh) σ))
    (au fV (omap (σ.cells b o (VC n 1)) fun iG=>.val (.slice σ.n 0 (Vy n s.size) false true) (σ.row e (iG++new)))
     (au (wh&&Vo o 0) (ab (σ.h.get b) (lV e b n s.size 1 new σ)) none))=some r:=hr6
   have hx0:=hx
   cases hx with
   |slice _ _ _ _ _ en ad c hen had hnc hmc hlim hc=>
   simp only [lenOf] at b5
   cases hk:Vo s.size 0 with
   |true=>
    rw [hk] at hr6
    cases hr6
    have hm:s.size=0:=VN hk
    have hf:=Yt (P:=P) w 1 s
    rw [hm] at hf
    have he0:(Ys s)=[]:=Wk (by rw [hul,hm])
    refine NR.value h (u:=.slice (some ad) n c) ?_ hx0
    simp [Yd,run_underlying hu,run_underlying hut,sizeOf,typeInfo,hi,hsi,Ye,hm,hf,hnc,he0,storeCells]
   |false=>
    rw [hk] at hr6
    have hk:s.size≠0:=fun q=>by rw [q] at hk;cases hk
    cases hl:fV with
    |true=>
     rw [hl] at hr6
     obtain ⟨iG,hold,rfl⟩:=aO.1 (show omap (σ.cells b o (VC n 1)) (fun iG=>aG.val (.slice σ.n 0 (Vy n s.size) false true) (σ.row e (iG++new)))=some r from hr6)
     obtain rfl:=hlim hl
     obtain ⟨h1,h2,ous,h3,h4,h5⟩:=h.iq hen hold
     have h4':ous.length=c:=by have:ous.length=c*1:=h4;omega
     have holds: ∀j v,ous[j]? =some v→w.cell? (ad.add j)=some v:=by
      intro j v hj
      have hjl:j<ous.length:=(List.getElem?_eq_some_iff.1 hj).1
      obtain rfl:ad=en.a.add o:=had.elim id (fun h=>by omega)
      rw [add_add,h5 j (by show j<c*1;omega)]
      exact hj
     have hrun:=Yu (P:=P) w t u ty e i Z hu hut hi hzz ad c c ous (by rw [h4',hsi];omega) holds s (by omega) (by omega) (by rw [hib];exact growslice_fits (by omega) (by omega))
     exact fresh c c ous iG h3 h2 h4' b5 _ rfl _ hrun
    |false=>
     rw [hl] at hr6
     obtain ⟨hwo,hr7⟩:=aj.1 (show au (wh&&Vo o 0) (ab (σ.h.get b) (lV e b n s.size 1 new σ)) none=some r from hr6)
     rw [V1] at hwo
     obtain ⟨hw,ho⟩:=hwo
     have ho:o=0:=VN ho
     obtain ⟨bl,hbl,hr8⟩:=aa.1 hr7
     cases bl with
     |cells own e' len cs=>
      obtain ⟨hq,hr9⟩:=aj.1 (show au (own&&Vo e' e&&Vv (VC n 1) len) (some (aG.val (.slice σ.n 0 (Vy n s.size) false true) ((σ.put b .dead).push (.cells true e (VC (Vy n s.size) 1) (cs.grow (VC n 1) new))))) none=some r from hr8)
      cases hr9
      simp only [V1] at hq
      obtain ⟨⟨hown,hee⟩,hnl⟩:=hq
      subst hown
      obtain rfl:e'=e:=VN hee
      have hnl:n*1≤len:=VQ hnl
      have hbr:BR P N μ w (.cells true e' len cs) en:=by
       obtain ⟨k',q1,q2⟩:=h.bU b en hen
       rw [hbl] at q1;cases q1;exact q2
      obtain ⟨g,sz,cur,rfl,hN,h1,h2,h3,h4⟩:=hbr
      subst ho
      obtain rfl:ad=⟨g,0,none⟩:=by
       rcases had with h |⟨_,h⟩
       ·rw [h,add_nil]
       ·exact absurd rfl h
      have hcz:c*1=sz:=by rw [←cq hz];exact hc hw rfl sz e' rfl
      have hxn:new.length=s.size:=by rw [hus.length,hul]
      have hcr: ∀(cur':Array Value),cur'.toList.take (n+s.size)=cur.toList.take n++Ys s→CR P μ (cs.grow (n*1) new) ((n+s.size)*1) (fun i=>cur'[i]?):=by
       intro cur' htk j hj
       have hj:j<n+s.size:=by omega
       have hget:=Cs.Az (vs:=new) hnl h4.isSome j (by omega)
       have hcj:cur'[j]? =(cur.toList.take n++Ys s)[j]? :=by
        rw [←htk,VK,if_pos hj];simp
       show ∃av v,(cs.grow (n*1) new).get j=some av∧cur'[j]? =some v∧VR P μ av v∧av.one=true
       rw [hget,hcj]
       by_cases hjn:j<n*1
       ·rw [if_pos hjn,VJ (by simp;omega),VK,if_pos (by omega),WM]
        exact h4 j (by omega)
       ·have hlt:(cur.toList.take n).length=n:=by simp;omega
        rw [if_neg hjn,VL (by omega),hlt,Yv]
        have hvi:new[j - n]? =some (new[j - n]'(by omega)):=Wj (by omega)
        obtain ⟨u,q1,q2⟩:=hus.get hvi
        exact ⟨_,u,hvi,q1,q2,gH hou hvi⟩
      by_cases hroom:n+s.size≤c
      ·have hrun:=Lib.run_append_room_string (P:=P) w t u ty e' i hu hut hi hsi g n c cur h1 s hroom (by omega)
       have hrow:(w.setRow g (cur.toList.take n++Ys s++cur.toList.drop (n+s.size)).toArray).heap[g]? =some (.cells (cur.toList.take n++Ys s++cur.toList.drop (n+s.size)).toArray e' (0,0)):=setRow_heap w g cur _ e' _ h1
       have hsz:(cur.toList.take n++Ys s++cur.toList.drop (n+s.size)).toArray.size=cur.size:=by
        simp only [Yn,V7,List.length_take,List.length_drop,Array.length_toList,hul]
        omega
       have hgo:=h.append (len':=(n+s.size)*1) (c':=cs.grow (n*1) new) hen hbl hN (w':=w.setRow g (cur.toList.take n++Ys s++cur.toList.drop (n+s.size)).toArray)
        ⟨rfl,rfl,rfl,by simp,fun k _ hk=>setRow_other w g k _ (fun e=>hk (by rw [e]))⟩ (.inl rfl) hrow (by rw [hsz];omega) (hcr _ (by
         have hl:(cur.toList.take n++Ys s).length=n+s.size:=by rw [V7,hul];simp;omega
         rw [←hl]
         exact Yp))
       refine hgo.val hrun (VR.slice σ.n 0 (n+s.size) false true _ _ _ (dK _ _ _) (.inl (by rw [add_nil])) hroom hmc (by simp) (fun _ _ sz' t' hsz'=>?_))
       cases hsz'
       rw [cq hz,hsz,h2,hcz]
      ·have holds: ∀j v,(cur.toList.take n)[j]? =some v→w.cell? ((⟨g,0,none⟩:Addr).add j)=some v:=by
        intro j v hj
        rw [VK] at hj
        split at hj
        ·rw [add_zero]
         simpa [Wh,h1] using hj
        ·cases hj
       have hlt:(cur.toList.take n).length=n:=by simp;omega
       have hrun:=Yu (P:=P) w t u ty e' i Z hu hut hi hzz ⟨g,0,none⟩ n c (cur.toList.take n) (by rw [hlt,hsi];omega) holds s (by omega) (by omega) (by rw [hib];exact growslice_fits (by omega) (by omega))
       have hge:=grownCap_ge w (n+s.size) c e'
       have hle:=grownCap_le_maxLen w (n+s.size) c e' (by simp only [maxLen];omega)
       have hsz:((cur.toList.take n).toArray++(Ys s).toArray++Yg Z.cells (grownCap w (n+s.size) c e' - (n+s.size))).size=grownCap w (n+s.size) c e':=by
        simp only [Ym,Yn,size_zeroCells,hzs,hlt,hul]
        omega
       have hgo:=h.append (len':=(n+s.size)*1) (c':=cs.grow (n*1) new) hen hbl hN (w':=w.drew.alloc (.cells ((cur.toList.take n).toArray++(Ys s).toArray++Yg Z.cells (grownCap w (n+s.size) c e' - (n+s.size))) e'))
        (g':=w.heap.size) ⟨rfl,rfl,rfl,by simp,fun k hk _=>heap_alloc_old w.drew _ k hk⟩ (.inr rfl) (heap_alloc_new w.drew _) (by rw [hsz];omega) (hcr _ (by
         have hl:(cur.toList.take n++Ys s).length=n+s.size:=by rw [V7,hul,hlt]
         simp only [Yo,Xh]
         rw [←Xh,←hl]
         exact Yp))
       refine hgo.val hrun (VR.slice σ.n 0 (n+s.size) false true _ _ _ (dK _ _ _) (.inl (by rw [add_nil])) hge hle (by simp) (fun _ _ sz' t' hsz'=>?_))
       cases hsz'
       rw [cq hz,hsz,Yv]
     |_=>cases hr8
  |_=>cases hr6
 ·cases hr
theorem rX {x:AV} {A:List Value} (h:b8 P μ [x] A): ∃X,A=[X]∧VR P μ x X:=by cases h with |cons _ u _ us h hs=>cases hs;exact ⟨u,rfl,h⟩
theorem NX {x y:AV} {A:List Value} (h:b8 P μ [x,y] A): ∃X Y,A=[X,Y]∧VR P μ x X∧VR P μ y Y:=by
 cases h with |cons _ u _ us h hs=>cases hs with |cons _ v _ vs h2 hs2=>cases hs2;exact ⟨u,v,rfl,h,h2⟩
theorem R5 {ats:Array TypeId} {ty:TypeId} {args:List AV} {A:List Value} {r:aG} (h:SR P N μ σ w) (hA:b8 P μ args A) (hr:Pg P ats.toList args σ=some r):
 NR P N μ σ w r ((do pure (.value (←Yw ats ty A.toArray)):Sem Next).run P w):=by
 unfold Pg at hr
 split at hr
 ·rename_i t ts hts
  obtain ⟨e,he,hr1⟩:=aa.1 hr
  have hu:=cA he
  have h0:ats[0]? =some t:=by rw [←WM,hts];rfl
  split at hr1
  ·cases hr1
   obtain ⟨X,rfl,hx⟩:=rX hA
   cases hx
   exact NR.value h (u:=.int .i64 0) (by simp [Yw,goInt,h0,run_underlying hu]) (.int _ _)
  ·rename_i b o n wh
   cases hr1
   obtain ⟨X,rfl,hx⟩:=rX hA
   cases hx with
   |slice _ _ _ _ _ en ad c hen had hn hm hl hc=>
    obtain rfl:=hl rfl
    exact NR.value h (u:=.int .i64 (Vw c)) (by simp [Yw,goInt,h0,run_underlying hu]) (.int _ _)
  ·cases hr1
 ·cases hr
theorem Bc {ats:Array TypeId} {ty:TypeId} {args:List AV} {A:List Value} {r:aG} (h:SR P N μ σ w) (hA:b8 P μ args A) (hr:nJ P ats.toList args σ=some r):
 NR P N μ σ w r ((do pure (.value (←Builtin.unsafeSliceData_ ats ty A.toArray)):Sem Next).run P w):=by
 unfold nJ at hr
 split at hr
 ·cases hr
  obtain ⟨X,rfl,hx⟩:=rX hA
  cases hx
  refine NR.value h (u:=.pointer none) ?_ .bX
  have:=Lib.run_unsafeSliceData_nil (P:=P) w ats ty 0 0
  simp only [Wc,this,Wd]
  rfl
 ·rename_i b o n fV wh
  cases hr
  obtain ⟨X,rfl,hx⟩:=rX hA
  cases hx with
  |slice _ _ _ _ _ en ad c hen had hn hm hl hc=>
   obtain rfl:ad=en.a.add o:=had.elim id (fun h=>by omega)
   refine NR.value h (u:=.pointer (some (en.a.add o))) ?_ (.ptr b o en hen)
   have:=Lib.run_unsafeSliceData_row (P:=P) w ats ty (en.a.add o) (n+1) c (by omega)
   simp only [Wc,this,Wd]
   rfl
 ·cases hr
theorem I4 {ats:Array TypeId} {ty:TypeId} {args:List AV} {A:List Value} {r:aG} (h:SR P N μ σ w) (hA:b8 P μ args A) (hr:yp P ats.toList args σ=some r):
 NR P N μ σ w r ((do pure (.value (←Yx ats ty A.toArray)):Sem Next).run P w):=by
 unfold yp at hr
 split at hr
 ·rename_i t t' hts
  have hats:ats= #[t,t']:=Wl (by simpa using hts)
  subst hats
  split at hr
  ·cases hr
   obtain ⟨X,Y,rfl,hx,hy⟩:=NX hA
   cases hx;cases hy
   refine NR.value h (u:=.string .empty) ?_ (.str _ _ rfl)
   have:=Lib.run_unsafeString_none (P:=P) w t t' ty none
   simp only [Wc,this,Wd]
   rfl
  ·rename_i b n
   split at hr
   ·rename_i e hpt
    obtain ⟨z,hz,hr1⟩:=aa.1 hr
    obtain ⟨hq,hr2⟩:=aj.1 hr1
    obtain ⟨k,hk,hr3⟩:=aa.1 hr2
    clear hr hr1 hr2
    simp only [V1] at hq
    obtain ⟨⟨q1,q2⟩,q3⟩:=hq
    obtain rfl:z=1:=VN q2
    have q3:n≤1000000:=VQ q3
    obtain ⟨X,Y,rfl,hx,hy⟩:=NX hA
    unfold strOf at hr3
    split at hr3
    ·rename_i own u len c
     obtain ⟨ho,hr4⟩:=aj.1 hr3
     obtain ⟨cs,hcs,hr5⟩:=aa.1 hr4
     obtain ⟨l,hl,rfl⟩:=aO.1 hr5
     simp only [V1] at ho
     obtain ⟨⟨o1,o2⟩,o3⟩:=ho
     subst o1
     obtain rfl:u=e:=VN o2
     have o3:n+1≤len:=VQ o3
     cases hy with
     |int _ _=>cases hx with
      |ptr _ _ en hen=>
       obtain ⟨k',hk',hbr⟩:=h.bU b en hen
       rw [hk] at hk'
       cases hk'
       obtain ⟨g,sz,cur,rfl,hN,h1,hs2,h3,h4⟩:=hbr
       obtain ⟨hcl,hcg⟩:=Cs.Ay hcs (by omega:0+(n+1)≤len) h4.isSome
       have hus: ∃us:List Value,b8 P μ cs us∧∀j,j<n+1→cur[j]? =us[j]? :=by
        refine ⟨cur.toList.take (n+1),b8.jy (by rw [hcl];simp;omega) fun i v u hv hu=>?_,fun j hj=>by rw [VK,if_pos hj];simp⟩
        have hi:i<n+1:=by
         have:=(List.getElem?_eq_some_iff.1 hv).1
         omega
        obtain ⟨av,v',r1,r2,r3,r4⟩:=h4 i (by omega)
        have:=hcg i hi
        rw [Yq,r1,hv] at this
        cases this
        rw [VK,if_pos hi,WM] at hu
        have r2:cur[i]? =some v':=r2
        rw [r2] at hu
        cases hu
        exact r3
       obtain ⟨us,hus,hug⟩:=hus
       obtain ⟨rfl,hle⟩:=xd hl hus
       have hll:l.length=n+1:=by have:=hus.length;rw [hcl] at this;simpa using this.symm
       have hbytes: ∀j x,(l.map fun c=>Yy c)[j]? =some x→w.cell? ((⟨g,0,none⟩:Addr).add j)=some (.int .u8 x.toNat):=by
        intro j x hj
        rw [VV] at hj
        cases hlj:l[j]? with
        |none=>rw [hlj] at hj;cases hj
        |some y=>
         rw [hlj] at hj
         cases hj
         have hjl:j<l.length:=(List.getElem?_eq_some_iff.1 hlj).1
         have hy:=hle y (List.mem_of_getElem? hlj)
         have hcj:=hug j (by omega)
         rw [VV,hlj] at hcj
         rw [add_zero]
         have:(Yy y).toNat=y:=by simp;omega
         rw [this]
         simpa [Wh,h1] using hcj
       have hlen:(l.map fun c=>Yy c).length=n+1:=by simpa using hll
       have hsh:w.shape? g=some (u,cur.size):=by unfold World.shape?;rw [h1]
       have hrun:=Lib.run_unsafeString_row (P:=P) w t t' ty u hpt (cq hz) g cur.size hsh (l.map fun c=>Yy c) (fun h=>by rw [h] at hlen;simp at hlen) (by omega) (by omega) hbytes
       rw [hlen] at hrun
       have hG:=h.PB (w':=w.freeze ⟨g,0,none⟩ (n+1)) hen hk rfl hN (kM w g 0 (n+1))
       refine ⟨μ,_,_,?_,hG,.str l ⟨(l.map fun c=>Yy c).toArray⟩ ?_,fun _=>rfl⟩
       ·rw [add_nil]
        have hrun':(Yx #[t,t'] ty #[.pointer (some ⟨g,0,none⟩),.int .i64 (Vw (Vt n))]).run P w= .ok (.string ⟨(l.map fun c=>Yy c).toArray⟩) (w.freeze ⟨g,0,none⟩ (n+1)):=hrun
        simp only [Wc,hrun',Wd]
        rfl
       ·simp only [List.map_map]
        conv=>rhs;rw [←List.map_id l]
        refine List.map_congr_left fun c hc=>?_
        have:=hle c hc
        simp
        omega
    ·cases hr3
   ·cases hr
  ·cases hr
 ·cases hr
end
end
section
open Go Go.RowKit Go.MapKept
variable [Env]
section
variable {P:Program} {N:Nat} {μ:bw} {σ:St} {w:World} {a:aN} {ca:Act}
theorem Gx {x:Operand} {xt t:TypeId} {ok:Bool} {r:aG} (h:SR P N μ σ w) (ha:AR P μ a ca) (hr:ph x t ok P a σ=some r):
 NR P N μ σ w r ((do pure (.value (←Yz (ca.eval x) xt t ok)):Sem Next).run P w):=by
 obtain ⟨v,hv,hr1⟩:=aa.1 hr
 obtain ⟨hi,hr2⟩:=eH.1 hr1
 have hx:=ha.eval h hv
 clear hr hr1
 obtain ⟨d,hd,hn⟩:=rU hi
 generalize ca.eval x=X at*
 have fails: ∀z,cV P t=some z→r= .val (.tuple [z,.bool false]) σ→ok=true→(∃zv,(zeroValue t).run P w= .ok zv w∧VR P μ z zv∧∀u,u=Value.tuple #[zv,.bool false]→VR P μ (.tuple [z,.bool false]) u):=by
  intro z hz _ _
  obtain ⟨zv,hrun,hzv,_⟩:=cN (μ:=μ) hz w
  exact ⟨zv,hrun,hzv,fun u hu=>by rw [hu];exact .tuple [z,.bool false] [zv,.bool false] (.cons _ _ _ _ hzv (.cons _ _ _ _ (.bool false) .nil))⟩
 cases v with
 |bu=>
  cases hx
  obtain ⟨hok,hr3⟩:=aj.1 (show au ok (omap (cV P t) fun z=>aG.val (.tuple [z,.bool false]) σ) none=some r from hr2)
  subst hok
  obtain ⟨z,hz,rfl⟩:=aO.1 hr3
  obtain ⟨zv,hrun,hzv,hu⟩:=fails z hz rfl rfl
  refine NR.value h ?_ (hu _ rfl)
  unfold Yz
  cases d<;>first |exact absurd rfl (hn _) |simp [run_underlying hd,hrun]
 |iface t' v=>
  cases hx with
  |iface _ _ V hV=>
  replace hr2:au (Vo t' t) (some (aG.val (okV ok v true) σ)) (au ok (omap (cV P t) fun z=>aG.val (.tuple [z,.bool false]) σ) none)=some r:=hr2
  cases hb:Vo t' t with
  |true=>
   rw [hb] at hr2
   cases hr2
   obtain rfl:t'=t:=VN hb
   refine NR.value h ?_ (pE hV)
   unfold Yz
   cases d<;>first |exact absurd rfl (hn _) |simp [run_underlying hd]
  |false=>
   rw [hb] at hr2
   have hne: ¬t'=t:=fun e=>by subst e;simp at hb
   obtain ⟨hok,hr3⟩:=aj.1 (show au ok (omap (cV P t) fun z=>aG.val (.tuple [z,.bool false]) σ) none=some r from hr2)
   subst hok
   obtain ⟨z,hz,rfl⟩:=aO.1 hr3
   obtain ⟨zv,hrun,hzv,hu⟩:=fails z hz rfl rfl
   refine NR.value h ?_ (hu _ rfl)
   unfold Yz
   cases d<;>first |exact absurd rfl (hn _) |simp [run_underlying hd,hne,hrun]
 |_=>cases hr2
theorem I5 {x:Operand} {r:aG} (h:SR P N μ σ w) (ha:AR P μ a ca) (hr:tR x P a σ=some r):
 NR P N μ σ w r ((do pure (.value (←Instr.panic (ca.eval x))):Sem Next).run P w):=by
 obtain ⟨v,hv,hr1⟩:=aa.1 hr
 have hx:=ha.eval h hv
 generalize ca.eval x=X at*
 cases v with
 |iface t v=>
  cases hr1
  have hx0:=hx
  cases hx with
  |iface _ _ V hV=>exact ⟨_,rfl,rfl,hx0⟩
 |_=>cases hr1
theorem jV {x y:AV} {A:List Value} (h:b8 P μ [x,y] A): ∃X Y,A=[X,Y]∧VR P μ x X∧VR P μ y Y:=by
 cases h with |cons _ X _ _ hx h=>cases h with |cons _ Y _ _ hy h=>cases h;exact ⟨X,Y,rfl,hx,hy⟩
theorem Bd {x:AV} {A:List Value} (h:b8 P μ [x] A): ∃X,A=[X]∧VR P μ x X:=by
 cases h with |cons _ X _ _ hx h=>cases h;exact ⟨X,rfl,hx⟩
theorem ER.length {es:List (AV×AV)} {ms:List MapEntry} (h:ER P μ es ms):es.length=ms.length:=by
 induction h with
 |nil=>rfl
 |cons _ _ _ _ _ _ _ _ ih=>simp [ih]
theorem EP.length {es:List (AV×AV)} {ms:List MapEntry} (h:EP P μ es ms):es.length=ms.length:=by
 obtain ⟨l,h1,h2⟩:=h
 rw [h2.length,h1.length_eq]
theorem R6 {ats:Array TypeId} {ty:TypeId} {args:List AV} {A:List Value} {r:aG} (h:SR P N μ σ w) (hA:b8 P μ args A) (hr:CH P ats.toList args σ=some r):
 NR P N μ σ w r ((do pure (.value (←YA ats ty A.toArray)):Sem Next).run P w):=by
 unfold CH at hr
 split at hr
 ·rename_i t ts hts
  split at hr
  ·rename_i x
   obtain ⟨X,rfl,hx⟩:=Bd hA
   have h0:ats[0]? =some t:=by rw [←WM,hts];rfl
   cases hsy:ym P t x with
   |some v=>
    rw [hsy] at hr
    cases hr
    cases x<;>first |(cases hsy;done) |skip
    case tm tt y=>
     cases tt<;>first |(cases hsy;done) |skip
     case str=>
      cases hx with
      |tm _ _ _ h1 h2=>
      obtain ⟨l,hl⟩:=h1
      rw [hl] at h2
      cases h2 with
      |str _ s hs=>
      replace hsy:(match P.underlying t with |some .string=>some (fI (.int .i64) (.op .gB [y])) |_=>none)=some v:=hsy
      split at hsy
      ·rename_i hu
       cases hsy
       have he:ev (.op .gB [y])= .int .i64 s.size:=by rw [bH];simp only [VT,VU,hl,←hs];simp [cw]
       refine NR.value h (u:=.int .i64 s.size) ?_ (dq ⟨_,he⟩ (by rw [he];exact .int _ _))
       unfold YA
       simp only [h0]
       simp [run_underlying hu,goInt]
      ·cases hsy
     case aF ts=>
      cases hx with
      |tm _ _ _ h1 h2=>
      obtain ⟨l,hl,_⟩:=h1
      rw [hl] at h2
      replace hsy:(match P.underlying t with |some (.slice _)=>some (fI (.int .i64) (.op .len [y])) |_=>none)=some v:=hsy
      split at hsy
      ·rename_i hu
       cases hsy
       have he:ev (.op .len [y])= .int .i64 l.length:=by rw [bH];simp only [VT,VU,hl];rfl
       refine NR.value h (u:=.int .i64 l.length) ?_ (dq ⟨_,he⟩ (by rw [he];exact .int _ _))
       unfold YA
       simp only [h0]
       cases h2<;>simp [run_underlying hu,goInt]
      ·cases hsy
    case vl ts n b=>
     cases hx with
     |vl _ _ _ _ e he hc=>
     replace hsy:(match P.underlying t with |some (.slice _)=>some (fI (.int .i64) n) |_=>none)=some v:=hsy
     split at hsy
     ·rename_i hu
      cases hsy
      rcases hc with ⟨rfl |⟨ad,rfl⟩,_,c2⟩ |⟨m,c,rfl,_,c2,_⟩
      ·refine NR.value h (u:=.int .i64 0) ?_ (dq ⟨_,c2⟩ (by rw [c2];exact .int _ _))
       unfold YA
       simp only [h0]
       simp [run_underlying hu,goInt]
      ·refine NR.value h (u:=.int .i64 0) ?_ (dq ⟨_,c2⟩ (by rw [c2];exact .int _ _))
       unfold YA
       simp only [h0]
       simp [run_underlying hu,goInt]
      ·refine NR.value h (u:=.int .i64 (Vw m)) ?_ (dq ⟨_,c2⟩ (by rw [c2];exact .int _ _))
       unfold YA
       simp only [h0]
       simp [run_underlying hu,goInt]
     ·cases hsy
   |none=>
   rw [hsy] at hr
   obtain ⟨n,hn,rfl⟩:=aO.1 hr
   refine NR.value h (u:=.int .i64 (Vw n)) ?_ (.int _ _)
   unfold YA
   simp only [h0]
   unfold H0 at hn
   split at hn
   ·rename_i hu
    cases x with
    |str l=>cases hn;cases hx with |str _ s hs=>subst hs;simp [run_underlying hu,goInt]
    |_=>cases hn
   ·rename_i e hu
    cases x with
    |slice b o m fV wh=>cases hn;cases hx;simp [run_underlying hu,goInt]
    |an=>cases hn;cases hx;simp [run_underlying hu,goInt]
    |e0=>cases hn;cases hx;simp [run_underlying hu,goInt]
    |_=>cases hn
   ·rename_i m e hu
    cases hn
    simp [run_underlying hu,goInt]
   ·rename_i hu
    obtain ⟨es,hes,rfl⟩:=aO.1 hn
    obtain ⟨ents,hE,⟨rfl,rfl⟩ |⟨g,clock,rfl,hg⟩⟩:=h.entries hx hes
    ·have:=hE.length
     simp at this
     subst this
     simp [run_underlying hu,goInt]
    ·have hl:es.length=ents.size:=by simpa using hE.length
     have hgo:=XS (P:=P) hg
     simp only [X5,X6,Wc,run_underlying hu,Wd,hgo,WG,goInt,hl]
     rfl
   ·cases hn
  ·cases hr
 ·cases hr
theorem I6 {ats:Array TypeId} {ty:TypeId} {args:List AV} {A:List Value} {r:aG} (h:SR P N μ σ w) (hA:b8 P μ args A) (hr:yo P ats.toList args σ=some r):
 NR P N μ σ w r ((do pure (.value (←X4 ats ty A.toArray)):Sem Next).run P w):=by
 unfold yo at hr
 split at hr
 ·rename_i t ts hts
  split at hr
  ·rename_i b k
   obtain ⟨M,K,rfl,hm,hk⟩:=jV hA
   have h0:ats[0]? =some t:=by rw [←WM,hts];rfl
   cases htm:CG (σ.h.get b) with
   |true=>
    rw [htm] at hr
    obtain ⟨bl,hb,hr1⟩:=aa.1 (show ab (σ.h.get b) (Pf P t σ k b)=some r from hr)
    exact IZ h hm hk hb hr1 h0
   |false=>
   rw [htm] at hr
   replace hr:ab (sB P t) (fun q=>au (gE P 8 q.1 k) (ab (jK σ (.map b)) fun es=>omap (Pe P q.1 k es) fun es=>aG.val (.tuple []) (σ.put b (.map es))) none)=some r:=hr
   clear htm
   obtain ⟨q,hq,hr1⟩:=aa.1 hr
   obtain ⟨hc,hr2⟩:=aj.1 hr1
   obtain ⟨es,hes,hr3⟩:=aa.1 hr2
   obtain ⟨es',hes',rfl⟩:=aO.1 hr3
   cases hm with
   |map _ e hb=>
    obtain ⟨hkb,g,ents,clock,rfl,hN,hg,he,hbn⟩:=h.A7 hb hes
    have hu:=fB hq
    obtain ⟨d,hd⟩:=uh (n:=7) hc
    have hchk:=qU (em:=ents.isEmpty) 8 10000 q.1 k K (by decide) hk hc w
    have hgo:=XS (P:=P) hg
    rcases IU (t:=q.1) hk he hes' with ⟨hf,hE⟩ |⟨j,v,hf,hj,hE⟩
    ·have hfk:=hf.run hd w
     refine (h.yP hb hkb hN hg ents clock hE hbn).val (u:=.tuple #[]) ?_ (.tuple [] [] .nil)
     unfold X4
     simp only [h0,X5,X6,X7,Wc,WG,Wd,run_underlying hu,hgo,hchk,hfk,X0 _ hg]
    ·have hfk:=hf.run hd w
     have hj':j<ents.size:=by simpa using hj
     refine (h.yP hb hkb hN hg (ents.eraseIdxIfInBounds j) clock (by simpa [Ya,hj'] using hE) (by simpa [Ya,hj'] using hbn.erase j)).val (u:=.tuple #[]) ?_ (.tuple [] [] .nil)
     unfold X4
     simp only [h0,X5,X6,X7,Wc,WG,Wd,run_underlying hu,hgo,hchk,hfk,X0 _ hg]
  ·cases hr
 ·cases hr
theorem PC {ats:Array TypeId} {ty:TypeId} {args:List AV} {A:List Value} {r:aG} (h:SR P N μ σ w) (hA:b8 P μ args A) (hr:H2 P ats.toList args σ=some r):
 NR P N μ σ w r ((do pure (.value (←YB ats ty A.toArray)):Sem Next).run P w):=by
 unfold H2 at hr
 split at hr
 ·rename_i t ts hts
  obtain ⟨e,he,hr1⟩:=aa.1 hr
  obtain ⟨z,hz,hr2⟩:=aa.1 hr1
  split at hr2
  ·rename_i b o n fV wh
   cases hr2
   obtain ⟨X,Y,rfl,hx,hy⟩:=jV hA
   have h0:ats[0]? =some t:=by rw [←WM,hts];rfl
   have hu:=cA he
   cases hx with
   |slice _ _ _ _ _ en ad c hen had hnc hmc hlim hc=>
    cases hy
    refine NR.value h (u:=.int .i64 0) ?_ (.int _ _)
    unfold YB
    simp [h0,run_underlying hu,Ye,bq hz,Yf,storeCells,goInt]
  ·rename_i b o n fV wh b' o' n' lim' wh'
   obtain ⟨cs,hcs,hr3⟩:=aa.1 hr2
   obtain ⟨σ',hst,rfl⟩:=aO.1 hr3
   obtain ⟨X,Y,rfl,hx,hy⟩:=jV hA
   have h0:ats[0]? =some t:=by rw [←WM,hts];rfl
   have hu:=cA he
   cases hx with
   |slice _ _ _ _ _ en ad c hen had hnc hmc hlim hc=>cases hy with
    |slice _ _ _ _ _ en' ad' c' hen' had' hnc' hmc' hlim' hc'=>
     obtain ⟨h1,h2,us,h3,h4,h5⟩:=h.iq hen' hcs
     obtain ⟨w',hrun,hg⟩:=h.store hen h3 hst
     have hload:(loadCells ad' (min n n'*z)).run P w= .ok us.toArray w:=by
      refine run_loadCells (P:=P) h4 fun j hj=>?_
      have hn0:0<min n n':=by
       rcases Xo (min n n') with h0 |h0
       ·have hj:j<min n n'*z:=hj
        rw [h0] at hj;simp at hj
       ·exact h0
      obtain rfl:ad'=en'.a.add o':=had'.elim id (fun h=>by omega)
      rw [add_add]
      exact h5 j hj
     have hstore:(storeCells ad us).run P w= .ok () w':=by
      by_cases hn0:min n n'=0
      ·have:us=[]:=by
        have h4:us.length=min n n'*z:=h4
        rw [hn0] at h4
        exact Wk (by simpa using h4)
       subst this
       simpa [storeCells] using hrun
      ·obtain rfl:ad=en.a.add o:=had.elim id (fun h=>by omega)
       exact hrun
     refine hg.val (u:=.int .i64 (Vw (min n n'))) ?_ (.int _ _)
     unfold YB
     have hmin:Nat.min n' n=min n n':=Nat.min_comm n' n
     simp only [h0,X5,X6,X7,Wc,WG,Wd,run_underlying hu,Ye,bq hz,hmin,Yf,hload,hstore,goInt]
     rfl
  ·cases hr2
 ·cases hr
theorem Be {ats:List TypeId} {tys:Array TypeId} {ty:TypeId} {args:List AV} {A:List Value} {r:aG} (h:SR P N μ σ w) (hA:b8 P μ args A):
 (H3 P ats args σ=some r→NR P N μ σ w r ((do pure (.value (←YC tys ty A.toArray)):Sem Next).run P w))∧
 (H4 P ats args σ=some r→NR P N μ σ w r ((do pure (.value (←YD tys ty A.toArray)):Sem Next).run P w)):=by
 constructor
 ·intro hr
  unfold H3 at hr
  split at hr
  ·rename_i x y
   cases hr
   obtain ⟨X,Y,rfl,hx,hy⟩:=jV hA
   cases hx;cases hy
   refine NR.value h (u:=.int .i64 (if y<x then y else x)) (by simp [YC,Builtin.min2]) ?_
   rw [mg,gW]
   simp only [decide_eq_true_eq]
   exact .int _ _
  ·cases hr
 ·intro hr
  unfold H4 at hr
  split at hr
  ·rename_i x y
   cases hr
   obtain ⟨X,Y,rfl,hx,hy⟩:=jV hA
   cases hx;cases hy
   refine NR.value h (u:=.int .i64 (if x<y then y else x)) (by simp [YD,Builtin.max2]) ?_
   rw [mg,gW]
   simp only [decide_eq_true_eq]
   exact .int _ _
  ·cases hr
theorem Dj {b:Builtin} {ats:Array TypeId} {ty:TypeId} {consts:Array Bool} {args:List AV} {A:List Value} {r:aG} (h:SR P N μ σ w) (hA:b8 P μ args A) (hr:Af b P ats.toList args σ=some r):
 NR P N μ σ w r ((builtin b ats ty consts A.toArray).run P w):=by
 cases b<;>first |(cases hr;done) |skip
 case append=>
  replace hr:yn P ats.toList args σ=some r:=hr
  unfold yn at hr
  split at hr
  ·rename_i t t' hts
   split at hr
   ·rename_i x y
    obtain ⟨X,Y,rfl,hx,hy⟩:=jV hA
    have:ats= #[t,t']:=Wl (by simpa using hts)
    subst this
    cases hb:Vo t t' with
    |true=>
     rw [hb] at hr
     obtain rfl:t=t':=VN hb
     exact Gw h hx hy hr
    |false=>
     rw [hb] at hr
     exact Di h hx hy hr
   ·cases hr
  ·cases hr
 case cap=>exact R5 h hA hr
 case unsafeSliceData=>exact Bc h hA hr
 case unsafeString=>exact I4 h hA hr
 case copy=>exact PC h hA hr
 case delete=>exact I6 h hA hr
 case len=>exact R6 h hA hr
 case max=>exact (Be (ats:=ats.toList) h hA).2 hr
 case min=>exact (Be (ats:=ats.toList) h hA).1 hr
 case panic=>
  replace hr:CI P ats.toList args σ=some r:=hr
  unfold CI at hr
  split at hr
  ·rename_i t v
   cases hr
   obtain ⟨X,rfl,hx⟩:=Bd hA
   have hx0:=hx
   cases hx with
   |iface _ _ V hV=>exact ⟨_,rfl,rfl,hx0⟩
  ·cases hr
 case recover=>cases hr;exact ⟨rfl,rfl⟩
def cB (P:Program):Prop:=∀(f:FuncId) (fn:Func),P.funcs[f]? =some fn→(fn.name== "runtime.NumGoroutine")=false
theorem pI {fn:Func} {n:String} {e:Array Value→Sem Value} (hn:fn.name=n) (h1:Extern.allGenericRows.lookup n=none) (h2:Extern.allTypedRows.lookup n=none) (h3:Extern.allRows.lookup n=some e):YE fn=some e:=by
 unfold YE
 simp only [hn,h1,h2,h3]
 rfl
theorem mn {fn:Func} {n:String} (hn:fn.name=n) (ho:fn.origin= "") (h1:Extern.allNextRows.lookup n=none):YF fn=none:=by
 unfold YF
 simp only [hn,ho,h1,show Extern.allNextRows.lookup "" =none by kernel_rfl]
 rfl
theorem Bf (x:UInt8) {c:Nat} (hc:c≤255):Vo x.toNat c=(x==c.toUInt8):=by
 have h1:(c.toUInt8).toNat=c:=by
  show (Yy c).toNat=c
  rw [UInt8.toNat_ofNat']
  exact Nat.mod_eq_of_lt (by omega)
 by_cases h:x=c.toUInt8
 ·subst h
  rw [h1]
  simp
 ·have:x.toNat≠c:=fun e=>h (UInt8.toNat_inj.1 (by rw [h1];exact e))
  rw [show (x==c.toUInt8)=false by simpa using h]
  cases hb:Vo x.toNat c with
  |false=>rfl
  |true=>exact absurd (VN hb) this
theorem Fa {c:Nat} (hc:c≤255): ∀l:List UInt8,H5 c (l.map (·.toNat))=Lib.countByte l c.toUInt8
 |[]=>rfl
 |x::l=>by
  show au (Vo x.toNat c) (Vt (H5 c (l.map (·.toNat)))) (H5 c (l.map (·.toNat)))=_
  rw [Bf x hc,Fa hc l]
  unfold Lib.countByte
  rw [List.count_cons]
  cases h:x==c.toUInt8<;>simp [au]
theorem Fb {c:Nat} (hc:c≤255): ∀l:List UInt8,L7 (F3 c (l.map (·.toNat)))=Lib.indexByte l c.toUInt8
 |[]=>rfl
 |x::l=>by
  have ih:=Fb hc l
  have e:F3 c ((x::l).map (·.toNat))=au (Vo x.toNat c) (some 0) (omap (F3 c (l.map (·.toNat))) Vt):=rfl
  rw [e,Bf x hc]
  unfold Lib.indexByte
  cases h:x==c.toUInt8 with
  |true=>rfl
  |false=>
   simp only [Bool.false_eq_true,if_false]
   cases hi:F3 c (l.map (·.toNat)) with
   |none=>
    rw [hi] at ih
    rw [←ih]
    rfl
   |some n=>
    rw [hi] at ih
    rw [←ih]
    have h1:(L7 (some n)== -1)=false:=by
     show ((n:Int)== -1)=false
     rw [beq_eq_false_iff_ne]
     omega
    rw [h1]
    show ((Vt n:Nat):Int)=_
    show ((n+1:Nat):Int)=(n:Int)+1
    omega
theorem PD {f:FuncId} {fn:Func} {args:List AV} {A:List Value} {r:aG} (h:SR P N μ σ w) (hf:P.funcs[f]? =some fn) (hb:fn.body=none) (hA:b8 P μ args A) (hr:RQ P fn args σ=some r):NR P N μ σ w r ((callFunc f A.toArray).run P w):=by
 obtain ⟨ho,hr⟩:=aj.1 (show au (fn.origin== "") (au (fn.name== "internal/bytealg.CountString") (pd σ args) (au (fn.name== "internal/bytealg.IndexByteString") (fJ σ args) (au (fn.name== "internal/abi.NoEscape") (mS σ args) (au (fn.name== "internal/bytealg.MakeNoZero") (kD P fn σ args) (au (fn.name== "math.Float64frombits") (kE σ args) none))))) none=some r from hr)
 have ho:fn.origin= "" :=by simpa using ho
 cases h1:fn.name== "internal/bytealg.CountString" with
 |true=>
  have hn:fn.name= "internal/bytealg.CountString" :=by simpa using h1
  rw [h1] at hr
  replace hr:pd σ args=some r:=hr
  unfold pd at hr
  split at hr
  ·rename_i l c hr0
   obtain ⟨hc,hr⟩:=aj.1 hr
   cases hr
   have hc:=VQ hc
   cases hA with
   |cons _ u _ us h1 h2=>cases h2 with
    |cons _ u2 _ us2 h3 h4=>
     cases h4
     cases h1 with
     |str _ s hs=>cases h3 with
      |int _ _=>
       subst hs
       refine NR.value h (u:=.int .i64 (H5 c (s.data.toList.map (·.toNat)))) ?_ (.int _ _)
       rw [run_callFunc_extern hf (by rw [hn];decide) (by rw [hb];rfl) (mn hn ho (by kernel_rfl)) (pI (e:=YG) hn (by kernel_rfl) (by kernel_rfl) (by kernel_rfl)),Lib.run_countString,Fa hc]
       rfl
  ·cases hr
 |false=>
  rw [h1] at hr
  replace hr:au (fn.name== "internal/bytealg.IndexByteString") (fJ σ args) (au (fn.name== "internal/abi.NoEscape") (mS σ args) (au (fn.name== "internal/bytealg.MakeNoZero") (kD P fn σ args) (au (fn.name== "math.Float64frombits") (kE σ args) none)))=some r:=hr
  cases h2:fn.name== "internal/bytealg.IndexByteString" with
  |true=>
  rw [h2] at hr
  replace hr:fJ σ args=some r:=hr
  have hn:fn.name= "internal/bytealg.IndexByteString" :=by simpa using h2
  unfold fJ at hr
  split at hr
  ·rename_i l c hr0
   obtain ⟨hc,hr⟩:=aj.1 hr
   cases hr
   have hc:=VQ hc
   cases hA with
   |cons _ u _ us h1 h2=>cases h2 with
    |cons _ u2 _ us2 h3 h4=>
     cases h4
     cases h1 with
     |str _ s hs=>cases h3 with
      |int _ _=>
       subst hs
       refine NR.value h (u:=.int .i64 (L7 (F3 c (s.data.toList.map (·.toNat))))) ?_ (.int _ _)
       rw [run_callFunc_extern hf (by rw [hn];decide) (by rw [hb];rfl) (mn hn ho (by kernel_rfl)) (pI (e:=YH) hn (by kernel_rfl) (by kernel_rfl) (by kernel_rfl)),Lib.run_indexByteString,Fb hc]
       rfl
  ·cases hr
  |false=>
  rw [h2] at hr
  replace hr:au (fn.name== "internal/abi.NoEscape") (mS σ args) (au (fn.name== "internal/bytealg.MakeNoZero") (kD P fn σ args) (au (fn.name== "math.Float64frombits") (kE σ args) none))=some r:=hr
  cases h3:fn.name== "internal/abi.NoEscape" with
  |true=>
   rw [h3] at hr
   replace hr:mS σ args=some r:=hr
   have hn:fn.name= "internal/abi.NoEscape" :=by simpa using h3
   unfold mS at hr
   split at hr
   ·cases hr
    obtain ⟨X,rfl,hx⟩:=rX hA
    refine NR.value h (u:=X) ?_ hx
    rw [run_callFunc_extern hf (by rw [hn];decide) (by rw [hb];rfl) (mn hn ho (by kernel_rfl)) (pI (e:=YI) hn (by kernel_rfl) (by kernel_rfl) (by kernel_rfl))]
    rfl
   ·cases hr
  |false=>
   rw [h3] at hr
   replace hr:au (fn.name== "internal/bytealg.MakeNoZero") (kD P fn σ args) (au (fn.name== "math.Float64frombits") (kE σ args) none)=some r:=hr
   cases h4:fn.name== "internal/bytealg.MakeNoZero" with
   |false=>
    rw [h4] at hr
    obtain ⟨h5,hr⟩:=aj.1 (show au (fn.name== "math.Float64frombits") (kE σ args) none=some r from hr)
    have hn:fn.name= "math.Float64frombits" :=by simpa using h5
    have run: ∀n:Int,(callFunc f #[.int .u64 n]).run P w= .ok (.value (.float .f64 n.toNat)) w:=fun n=>by
     rw [run_callFunc_extern hf (by rw [hn];decide) (by rw [hb];rfl) (mn hn ho (by kernel_rfl)) (pI (e:=YJ) hn (by kernel_rfl) (by kernel_rfl) (by kernel_rfl))]
     rfl
    unfold kE at hr
    split at hr
    ·cases hr
     obtain ⟨X,rfl,hx⟩:=rX hA
     cases hx
     exact NR.value h (run _) (.fb _ _ rfl)
    ·cases hr
     obtain ⟨X,rfl,hx⟩:=rX hA
     cases hx with
     |tm _ _ _ g1 g2=>
      obtain ⟨n,g1⟩:=g1
      rw [g1] at g2
      cases g2
      exact NR.value h (run _) (.fb _ _ g1)
    ·cases hr
   |true=>
   rw [h4] at hr
   replace hr:kD P fn σ args=some r:=hr
   have hn:fn.name= "internal/bytealg.MakeNoZero" :=by simpa using h4
   unfold kD at hr
   split at hr
   ·rename_i n hr0
    split at hr
    ·rename_i t hrt
     obtain ⟨e,he,hr1⟩:=aa.1 hr
     obtain ⟨z,hz,hr2⟩:=aa.1 hr1
     obtain ⟨hq,hr3⟩:=aj.1 hr2
     cases hr3
     simp only [V1] at hq
     obtain ⟨⟨q1,q2⟩,q3⟩:=hq
     obtain rfl:z=1:=VN q2
     have q3:n≤1000000:=VQ q3
     have hu:=cA he
     have hrs:fn.resultTypes= #[t]:=Wl (by simpa using hrt)
     obtain ⟨X,rfl,hx⟩:=rX hA
     cases hx
     obtain ⟨cs,hrun,h5,h6⟩:=Lib.run_makeNoZero (P:=P) w fn.params t e hu n (by omega)
     have hfind:YE fn=some (YK fn.params fn.resultTypes):=by
      have h1:Extern.allGenericRows.lookup "internal/bytealg.MakeNoZero" =none:=by kernel_rfl
      have h2:Extern.allTypedRows.lookup "internal/bytealg.MakeNoZero" =some YK:=by kernel_rfl
      unfold YE
      simp only [hn,h1,h2]
      rfl
     have hG:bF P N μ σ w (dm μ σ.n ⟨⟨w.heap.size,0,none⟩,some (cs.size,e)⟩) (σ.push (.cells true e 0 (.o5 []))) (w.drew.drew.alloc (.cells cs e)):=by
      refine h.laid ⟨rfl,rfl,rfl,by simp,fun k hk _=>heap_alloc_old w.drew.drew _ k hk⟩ (VY _) ⟨w.heap.size,cs.size,cs,rfl,h.hN,heap_alloc_new w.drew.drew _,rfl,Xz _,fun i hi=>absurd hi (Nat.not_lt_zero i)⟩
     refine ⟨_,.slice (some ⟨w.heap.size,0,none⟩) n cs.size,_,?_,hG,VR.slice σ.n 0 n false true _ _ cs.size (dK _ _ _) (.inl (by rw [add_nil])) h5 (h6 (by simp only [maxLen];omega)) (fun h=>by cases h) (fun _ _ sz t' hsz=>?_),ir⟩
     ·rw [run_callFunc_extern hf (by rw [hn];decide) (by rw [hb];rfl) (mn hn ho (by kernel_rfl)) hfind,hrs]
      have hrun':(YK fn.params #[t] [Value.int .i64 (Vw n)].toArray).run P w= .ok (.slice (some ⟨w.heap.size,0,none⟩) n cs.size) (w.drew.drew.alloc (.cells cs e)):=hrun
      rw [hrun']
      rfl
     ·cases hsz
      rw [cq hz,Yv]
    ·cases hr
   ·cases hr
theorem Gy (hP:cB P) {f:FuncId} {args:List AV} {A:List Value} {r:aG} (h:SR P N μ σ w) (hA:b8 P μ args A) (hr:EO P f args σ=some r):NR P N μ σ w r ((callFunc f A.toArray).run P w):=by
 obtain ⟨fn,hf,hr1⟩:=aa.1 hr
 cases hb:fn.body with
 |none=>rw [hb] at hr1;exact PD h hf hb hA hr1
 |some c=>
  rw [hb] at hr1
  cases hr1
  refine ⟨A,?_,rfl,hA⟩
  have hn: ¬fn.name= "runtime.NumGoroutine" :=fun e=>by have:=hP f fn hf;rw [e] at this;simp at this
  unfold callFunc
  simp [hf,hn,hb]
theorem MC (hP:cB P) {c:Call} {ty:TypeId} {r:aG} (h:SR P N μ σ w) (ha:AR P μ a ca) (hr:Ao c P a σ=some r):
 NR P N μ σ w r ((do let d ←resolve ca.eval c ty;invoke d.target d.args:Sem Next).run P w):=by
 obtain ⟨args,hargs,hr1⟩:=aa.1 hr
 have hA:=ha.cS h hargs
 clear hr
 cases hc:c.callee with
 |builtin b=>
  rw [hc] at hr1
  have hb:=Dj (ty:=ty) (consts:=c.args.map fun | .const _=>true |_=>false) h hA hr1
  unfold resolve
  simp only [hc,Wc,WG,Wd,invoke,ub ca]
  exact hb
 |value f=>
  rw [hc] at hr1
  obtain ⟨v,hv,hr2⟩:=aa.1 hr1
  have hx:=ha.eval h hv
  unfold resolve
  simp only [hc]
  generalize ca.eval f=F at*
  cases v with
  |func g first cap=>cases hx with
   |func _ _ _ F C h1 h2=>
    have:=Gy hP (P:=P) h (h1.append (hA.append h2)) hr2
    simp only [YL,Wc,WG,Wd,invoke,ub ca]
    simpa [Xh] using this
  |yield b=>
   cases hr2
   cases hx with
   |yield _ e he=>
    refine ⟨e,_,he,?_,rfl,hA⟩
    simp [YL,invoke,ub ca]
  |_=>cases hr2
 |invoke _ _=>rw [hc] at hr1;cases hr1
theorem I7 {c:Call} {ty:TypeId} {r:aG} (h:SR P N μ σ w) (ha:AR P μ a ca) (hr:qJ c P a σ=some r):
 NR P N μ σ w r ((do pure (.defer (←resolve ca.eval c ty)):Sem Next).run P w):=by
 obtain ⟨args,hargs,hr1⟩:=aa.1 hr
 have hA:=ha.cS h hargs
 clear hr
 cases hc:c.callee with
 |value f=>
  rw [hc] at hr1
  obtain ⟨v,hv,hr2⟩:=aa.1 hr1
  have hx:=ha.eval h hv
  unfold resolve
  simp only [hc]
  generalize ca.eval f=F at*
  cases v with
  |func g first cap=>
   cases hr2
   cases hx with
   |func _ _ _ F C h1 h2=>
    refine ⟨_,?_,rfl,.fn g cap (first++args) C (F++(c.args.toList.map ca.eval)) h2 (h1.append hA)⟩
    simp [YL,ub ca]
  |_=>cases hr2
 |_=>rw [hc] at hr1;cases hr1
theorem dW (hP:cB P) {o:Oper} {r:aG} (h:SR P N μ σ w) (ha:AR P μ a ca) (hr:gv o.op P a σ=some r):NR P N μ σ w r ((execOp ca.eval o).run P w):=by
 cases ho:o.op
 case nilCheck x=>rw [ho] at hr;exact AL h ha o ho hr
 all_goals
  rw [ho] at hr
  first |(cases hr;done) |skip
 all_goals
  unfold execOp
  simp only [ho]
 case move x=>exact E6 h ha hr
 case assign x=>exact E6 h ha hr
 case pick c x y=>exact Mm h ha hr
 case alloc t=>exact IH (a:=a) h hr
 case box t x=>exact Py h ha hr
 case build t ps=>exact IN h ha hr
 case buildSlice t n ps=>exact wz h ha hr
 case load t x=>exact Mn h ha hr
 case store t x y=>exact I2 h ha hr
 case binOp op t x y _=>exact PA (t':=t) h ha hr
 case unOp op _ x=>exact R3 h ha hr
 case convert s d x=>exact Mx h ha hr
 case makeInterface t x=>exact II h ha hr
 case makeFunc fn f c=>exact Mp h ha hr
 case makeMap t r=>exact C9 (a:=a) h hr
 case makeSlice t l c=>exact yN h ha hr
 case slice t x lo hi mx=>exact IP h ha hr
 case fieldAddr t x f=>exact yK h ha hr
 case field t x f=>exact IJ h ha hr
 case indexAddr t x i=>exact yL h ha hr
 case index t x i=>exact IK h ha hr
 case lookup t x k ok=>exact Gq h ha hr
 case mapUpdate t m k x=>exact pF h ha hr
 case insert t m k x=>exact pF h ha hr
 case range t x=>exact I0 h ha hr
 case next x s=>exact MA h ha hr
 case typeAssert x t s ok=>exact Gx h ha hr
 case extract x i=>exact C2 h ha hr
 case call c=>exact MC hP h ha hr
 case defer c=>exact I7 h ha hr
 case panic x=>exact I5 h ha hr
end
end
section
open Go Go.RowKit
variable [Env]
inductive z1 (P:Program) (μ:bw):ed→List PanicEntry→Prop
 |nil:z1 P μ [] []
 |cons (v:AV) (r:Bool) (V:Value) (c:ed) (C:List PanicEntry) (h:VR P μ v V) (hs:z1 P μ c C):z1 P μ ((v,r)::c) ({v:=V,recovered:=r}::C)
inductive MR (P:Program) (μ:bw):cE→FrameMode→Prop
 |returning:MR P μ .returning .returning
 |panicking (c:ed) (C:List PanicEntry) (h:z1 P μ c C):MR P μ (.panicking c) (.panicking C)
inductive Cx where
 |norm (cs:List Frame)
 |wC (c₀:Frame) (cs₀:List Frame)
def Cx.cs:Cx→FrameMode→List Frame
 | .norm cs,_=>cs
 | .wC c₀ cs₀,u=>{c₀ with mode:=u}::cs₀
def Cx.kind:Cx→CallKind
 | .norm _=>.normal
 | .wC _ _=>.deferred
inductive RR (P:Program) (μ:bw):Cx→Option cE→FrameMode→Prop
 |norm (cs:List Frame) (u:FrameMode):RR P μ (.norm cs) none u
 |wC (c₀:Frame) (cs₀:List Frame) (m:cE) (u:FrameMode) (h:MR P μ m u):RR P μ (.wC c₀ cs₀) (some m) u
inductive yR (μ:bw):Option Pos→Option Nat→Prop
 |none:yR μ none none
 |some (l:Pos) (g:Nat) (h:μ l=some ⟨⟨g,0,none⟩,none⟩):yR μ (some l) (some g)
theorem z1.mono {P:Program} {μ μ':bw} (hs:Sub μ μ') {c:ed} {C:List PanicEntry} (h:z1 P μ c C):z1 P μ' c C:=by
 induction h with
 |nil=>exact .nil
 |cons v r V c C h _ ih=>exact .cons v r V c C (h.mono hs) ih
theorem MR.mono {P:Program} {μ μ':bw} (hs:Sub μ μ') {m:cE} {u:FrameMode} (h:MR P μ m u):MR P μ' m u:=by
 cases h with
 |returning=>exact .returning
 |panicking c C h=>exact .panicking c C (h.mono hs)
theorem RR.mono {P:Program} {μ μ':bw} (hs:Sub μ μ') {X:Cx} {m:Option cE} {u:FrameMode} (h:RR P μ X m u):RR P μ' X m u:=by
 cases h with
 |norm cs u=>exact .norm cs u
 |wC c₀ cs₀ m u h=>exact .wC c₀ cs₀ m u (h.mono hs)
theorem yR.mono {μ μ':bw} (hs:Sub μ μ') {rd:Option Pos} {ro:Option Nat} (h:yR μ rd ro):yR μ' rd ro:=by
 cases h with
 |none=>exact .none
 |some l g h=>exact .some l g (hs _ _ h)
theorem z1.append {P:Program} {μ:bw} {c d:ed} {C D:List PanicEntry} (h:z1 P μ c C) (k:z1 P μ d D):z1 P μ (c++d) (C++D):=by
 induction h with
 |nil=>exact k
 |cons v r V c C h _ ih=>exact .cons v r V _ _ h ih
theorem MR.settle {P:Program} {μ:bw} {m:cE} {u:FrameMode} (h:MR P μ m u):MR P μ (sL m) (settle u):=by
 cases h with
 |returning=>exact .returning
 |panicking c C h=>
  cases h with
  |nil=>exact .panicking _ _ .nil
  |cons v r V c C hv hs=>
   cases r with
   |false=>exact .panicking _ _ (.cons v false V c C hv hs)
   |true=>
    have:C.dropWhile (!·.goexit)=[]:=by
     clear hv
     induction hs with
     |nil=>rfl
     |cons v r V c C h _ ih=>simpa using ih
    show MR P μ .returning (match C.dropWhile (!·.goexit) with |[]=>.returning |rest=>.panicking rest)
    rw [this]
    exact .returning
theorem MR.raised {P:Program} {μ:bw} {m:cE} {u:FrameMode} {c:ed} {C:List PanicEntry} (h:MR P μ m u) (hc:z1 P μ c C):MR P μ (sM m c) (raised u C):=by
 cases h with
 |returning=>exact .panicking _ _ hc
 |panicking d D h=>exact .panicking _ _ (hc.append h)
theorem MR.I8 {P:Program} {μ:bw} {m:cE} {u:FrameMode} (h:MR P μ m u):u≠.run:=by cases h<;>simp
section
variable (P:Program) (N:Nat)
def T4 (b:Frame) (X:Cx) (k:List Item) (m:Machine) (μ':bw) (ca':Act) (u':FrameMode) (w':World):g9→Prop
 | .normal=>Steps P m (lone (b.atR ca' k) (X.cs u') w')
 | .exit id=>∃k1,exitTo id k1=exitTo id k∧Steps P m (lone (b.atR ca' (.code (.exit id)::k1)) (X.cs u') w')
 | .ret=>∃k1,Steps P m (lone (b.atR ca' (.code .ret::k1)) (X.cs u') w')
 | .panic c=>∃k1 C,z1 P μ' c C∧Steps P m (lone ((b.atR ca' k1).raise C) (X.cs u') w')
def At (b:Frame) (X:Cx) (k:List Item) (m:Machine) (μ:bw) (σ:St) (w:World):Out→Prop
 | .at e a' s'=>∃μ' w' ca' u',bF P N μ σ w μ' s' w'∧AR P μ' a' ca'∧RR P μ' X a'.rc u'∧T4 P b X k m μ' ca' u' w' e
 | .fin .. =>False
def lK (X:Cx) (f:FuncId) (m:Machine) (μ:bw) (σ:St) (w:World):Out→Prop
 | .fin (.returned v) rc' s'=>∃μ' w' u' V fr,bF P N μ σ w μ' s' w'∧RR P μ' X rc' u'∧VR P μ' v V∧Steps P m (lone fr (X.cs u') w')∧fr.fn=f∧fr.kind=X.kind∧fr.going P w' (.returned V)
 | .fin (.panicked c) rc' s'=>∃μ' w' u' C fr,bF P N μ σ w μ' s' w'∧RR P μ' X rc' u'∧z1 P μ' c C∧Steps P m (lone fr (X.cs u') w')∧fr.fn=f∧fr.kind=X.kind∧fr.going P w' (.panicked C)
 | .at .. =>False
def Bg (c:Frame) (cs:List Frame) (m:Machine) (μ:bw) (σ:St) (w:World):Out→Prop
 | .fin (.returned v) _ s'=>∃μ' w' V,bF P N μ σ w μ' s' w'∧VR P μ' v V∧Steps P m (lone (c.finish V) cs w')
 | .fin (.panicked ch) _ s'=>∃μ' w' C,bF P N μ σ w μ' s' w'∧z1 P μ' ch C∧Steps P m (lone (c.raise C) cs w')
 | .at .. =>False
structure gL (r:Rec):Prop where
 loop: ∀rd c f p a s o,r (.loop rd c f p) a s=some o→cF P f p=some (.loop c)→∀μ w b X u k ca,SR P N μ s w→AR P μ a ca→RR P μ X a.rc u→b.kind=X.kind→yR μ rd b.roundOf→(∃fn,P.funcs[b.fn]? =some fn)→
  ∀m,YM P m= .next (lone (b.atR ca (.code c::.inLoop c::k)) (X.cs u) w)→At P N b X k m μ s w o
 call: ∀f args rc a s o,r (.call f args rc) a s=some o→(∃fn c,P.funcs[f]? =some fn∧fn.body=some c)∧∀μ w X u us,SR P N μ s w→b8 P μ args us→RR P μ X rc u→
  lK P N X f (lone (YN P f us.toArray X.kind) (X.cs u) w) μ s w o
 leave: ∀fn m a s o,r (.leave fn m) a s=some o→∀μ w X u fr,SR P N μ s w→TR P μ a.tm fr.tmps→yJ P μ a.defers fr.defers→RR P μ X a.rc u→fr.kind=X.kind→P.funcs[fr.fn]? =some fn→MR P μ m fr.mode→
  lK P N X fr.fn (lone fr (X.cs u) w) μ s w o
 round: ∀l args a s o,r (.round l args) a s=some o→∀μ w us e,SR P N μ s w→b8 P μ args us→μ l=some e→
  ∃fn tmps assign body,(Instr.yield e.a.block us.toArray).run P w= .ok (.round e.a.block fn tmps assign body) w∧∀c cs,Bg P N c cs (lone (YO e.a.block fn tmps assign body .normal) (c::cs) w) μ s w o
end
section
variable {P:Program} {N:Nat}
theorem At.pre {b:Frame} {X:Cx} {k:List Item} {m m₁:Machine} {μ μ₁:bw} {σ σ₁:St} {w w₁:World} {o:Out} (hs:Steps P m m₁) (hg:bF P N μ σ w μ₁ σ₁ w₁) (h:At P N b X k m₁ μ₁ σ₁ w₁ o):At P N b X k m μ σ w o:=by
 cases o with
 |fin=>exact h.elim
 | «at» e a' s'=>
  obtain ⟨μ',w',ca',u',h1,h2,h3,h4⟩:=h
  refine ⟨μ',w',ca',u',hg.trans h1,h2,h3,?_⟩
  cases e with
  |normal=>exact hs.trans h4
  |exit id=>obtain ⟨k1,h5,h6⟩:=h4;exact ⟨k1,h5,hs.trans h6⟩
  |ret=>obtain ⟨k1,h6⟩:=h4;exact ⟨k1,hs.trans h6⟩
  |panic c=>obtain ⟨k1,C,h5,h6⟩:=h4;exact ⟨k1,C,h5,hs.trans h6⟩
theorem lK.pre {X:Cx} {f:FuncId} {m m₁:Machine} {μ μ₁:bw} {σ σ₁:St} {w w₁:World} {o:Out} (hs:Steps P m m₁) (hg:bF P N μ σ w μ₁ σ₁ w₁) (h:lK P N X f m₁ μ₁ σ₁ w₁ o):lK P N X f m μ σ w o:=by
 cases o with
 | «at» =>exact h.elim
 |fin e rc' s'=>
  cases e with
  |returned v=>obtain ⟨μ',w',u',V,fr,h1,h2,h3,h4,h5⟩:=h;exact ⟨μ',w',u',V,fr,hg.trans h1,h2,h3,hs.trans h4,h5⟩
  |panicked c=>obtain ⟨μ',w',u',V,fr,h1,h2,h3,h4,h5⟩:=h;exact ⟨μ',w',u',V,fr,hg.trans h1,h2,h3,hs.trans h4,h5⟩
theorem lK.back {c:Frame} {cs:List Frame} {f:FuncId} {m:Machine} {μ:bw} {σ:St} {w:World} {o:Out} (h:lK P N (.norm (c::cs)) f m μ σ w o):Bg P N c cs m μ σ w o:=by
 cases o with
 | «at» =>exact h.elim
 |fin e rc' s'=>
  cases e with
  |returned v=>
   obtain ⟨μ',w',u',V,fr,h1,h2,h3,h4,h5,h6,h7⟩:=h
   exact ⟨μ',w',V,h1,h3,h4.trans (.one (step_leave_returned ⟨h7.1,h7.2.1,h6,h7.2.2⟩))⟩
  |panicked ch=>
   obtain ⟨μ',w',u',C,fr,h1,h2,h3,h4,h5,h6,h7⟩:=h
   exact ⟨μ',w',C,h1,h3,h4.trans (.one (step_leave_panicked ⟨h7.1,h7.2.1,h7.2.2⟩))⟩
section step
variable {b:Frame} {a:Act} {k:List Item} {cs:List Frame} {w w':World} {ops:Array Oper} {i:Nat} {rest:List Nat} {o:Oper}
theorem uq (ho:ops[i]? =some o) (hw:YP o (yielded ops a.tmps)=true) {u:Value} (h:(o.semAt b.roundOf a.eval).run P w= .ok (.value u) w'):
 YM P (lone (b.atR a (.inRegion ops (i::rest)::k)) cs w)= .next (lone (b.atR (a.put o.dst u) (.inRegion ops rest::k)) cs w'):=by
 have e:(ops[i]?).bind (·.dst)=o.dst:=by rw [ho];rfl
 rw [←e,←YQ]
 exact step_lone_go (by rw [stepGR_op ho hw];simp [stepG.apply,YR,h])
theorem Bh (ho:ops[i]? =some o) (hw:YP o (yielded ops a.tmps)=true) (h:(o.semAt b.roundOf a.eval).run P w= .ok .skip w'):
 YM P (lone (b.atR a (.inRegion ops (i::rest)::k)) cs w)= .next (lone (b.atR (a.put o.dst undef) (.inRegion ops rest::k)) cs w'):=by
 have e:(ops[i]?).bind (·.dst)=o.dst:=by rw [ho];rfl
 rw [←e,←YQ]
 exact step_lone_go (by rw [stepGR_op ho hw];simp [stepG.apply,YR,h])
theorem nW (ho:ops[i]? =some o) (hw:YP o (yielded ops a.tmps)=true) {f:FuncId} {args:Array Value} (h:(o.semAt b.roundOf a.eval).run P w= .ok (.enter f args) w'):
 YM P (lone (b.atR a (.inRegion ops (i::rest)::k)) cs w)= .next (lone (YN P f args .normal) (b.atR a (.inRegion ops (i::rest)::k)::cs) w'):=
 step_lone_go (by rw [stepGR_op ho hw];simp [stepG.apply,YR,h,YS])
theorem nX (ho:ops[i]? =some o) (hw:YP o (yielded ops a.tmps)=true) {g:Nat} {f:FuncId} {tmps:Array Value} {as bd:Code} (h:(o.semAt b.roundOf a.eval).run P w= .ok (.round g f tmps as bd) w'):
 YM P (lone (b.atR a (.inRegion ops (i::rest)::k)) cs w)= .next (lone (YO g f tmps as bd .normal) (b.atR a (.inRegion ops (i::rest)::k)::cs) w'):=
 step_lone_go (by rw [stepGR_op ho hw];simp [stepG.apply,YR,h])
theorem I9 (hro:b.roundOf=none) (ho:ops[i]? =some o) (hw:YP o (yielded ops a.tmps)=true) {d:Deferred} (h:(execOp a.eval o).run P w= .ok (.defer d) w'):
 YM P (lone (b.atR a (.inRegion ops (i::rest)::k)) cs w)= .next (lone (b.atR ({a with defers:=d::a.defers}.put o.dst undef) (.inRegion ops rest::k)) cs w'):=by
 have e:(ops[i]?).bind (·.dst)=o.dst:=by rw [ho];rfl
 rw [←e,←YQ]
 exact step_lone_go (by rw [stepGR_op ho hw,hro,YT];simp [stepG.apply,YR,h,YS])
theorem Ja (ho:ops[i]? =some o) (hw:YP o (yielded ops a.tmps)=true) {v:Value} (h:(o.semAt b.roundOf a.eval).run P w= .halt (.panic v) w'):
 YM P (lone (b.atR a (.inRegion ops (i::rest)::k)) cs w)= .next (lone ((b.atR a (.inRegion ops (i::rest)::k)).raise [{v,recovered:=false}]) cs w'):=
 step_lone_go (by rw [stepGR_op ho hw];simp [stepG.apply,YR,h])
theorem Jb (hro:b.roundOf=none) (ho:ops[i]? =some o) (hw:YP o (yielded ops a.tmps)=true) (h:(execOp a.eval o).run P w= .ok .recover w'):
 YM P (lone (b.atR a (.inRegion ops (i::rest)::k)) cs w)=
  match tryRecover (b.atR a (.inRegion ops (i::rest)::k)) cs with
  |some (v,cs')=>.next (lone (b.atR (a.put o.dst v) (.inRegion ops rest::k)) cs' w')
  |none=>.next (lone (b.atR (a.put o.dst .nilIface) (.inRegion ops rest::k)) cs w'):=by
 have e:(ops[i]?).bind (·.dst)=o.dst:=by rw [ho];rfl
 rw [←e]
 simp only [←YQ]
 have hr:(b.atR a (.inRegion ops (i::rest)::k)).roundOf=none:=hro
 cases ht:tryRecover (b.atR a (.inRegion ops (i::rest)::k)) cs with
 |none=>exact step_lone_go (by rw [stepGR_op ho hw,hro,YT];simp [stepG.apply,YR,h,hr,ht])
 |some q=>exact step_lone_go (by rw [stepGR_op ho hw,hro,YT];simp [stepG.apply,YR,h,hr,ht])
end step
end
end
section
open Go Go.RowKit
variable [Env]
section
variable {P:Program} {N:Nat}
theorem iu {op:Op} {a:aN} {s:St} {x:aG} (h:gv op P a s=some x) (hx: ∀d s',x≠.defer d s'): ∀c,op≠.defer c:=by
 rintro c rfl
 obtain ⟨args,_,h⟩:=aa.1 (show qJ c P a s=some x from h)
 cases hc:c.callee with
 |value f=>
  rw [hc] at h
  obtain ⟨v,_,h⟩:=aa.1 h
  cases v with
  |func g first cap=>cases h;exact hx _ _ rfl
  |_=>cases h
 |_=>rw [hc] at h;cases h
theorem rY {want r:Bool} {v:AV} {V:Value} {μ:bw} (h:pj want v=some r) (hv:VR P μ v V):(∃b,V= .bool b∧r=(b==want))∨(V=undef∧r=false):=by
 unfold pj at h
 split at h
 ·cases h
  cases hv with
  |tuple _ C hC=>cases hC;exact .inr ⟨rfl,rfl⟩
 ·obtain ⟨b,hb,rfl⟩:=aO.1 h
  exact .inl ⟨b,nQ hv hb,rfl⟩
theorem Gz {ops:Array Oper} {o:Oper} {a:aN} {ca:Act} {μ:bw} {r:Bool} (ha:AR P μ a ca) (h:eG ops.toList a o.guard=some r):YP o (yielded ops ca.tmps)=r:=by
 unfold YP
 cases hg:o.guard with
 |none=>rw [hg] at h;cases h;rfl
 |some g=>
  rw [hg] at h
  obtain ⟨j,want⟩:=g
  obtain ⟨p,hp,h⟩:=aa.1 (show ab (ops.toList[j]?) (fun p=>ab p.dst fun d=>pj want (a.tmp d))=some r from h)
  obtain ⟨d,hd,h⟩:=aa.1 h
  have hpj:ops[j]? =some p:=by simpa using hp
  have hv:=ha.tm d
  simp only
  have hy:yielded ops ca.tmps j=match ca.tmps[d]? with |some (.bool b)=>some b |_=>none:=by
   unfold yielded
   rw [hpj]
   simp only [Option.bind_some,hd]
   cases ca.tmps[d]? with
   |none=>rfl
   |some q=>cases q<;>rfl
  rw [hy]
  rcases rY h hv with ⟨b,h1,rfl⟩ |⟨h1,rfl⟩
  ·have:ca.tmps[d]? =some (.bool b):=by
    rw [We] at h1
    cases hq:ca.tmps[d]? with
    |none=>rw [hq] at h1;cases h1
    |some q=>rw [hq] at h1;exact congrArg some h1
   rw [this]
   cases b<;>cases want<;>rfl
  ·have:ca.tmps[d]? =none∨ca.tmps[d]? =some undef:=by
    rw [We] at h1
    cases hq:ca.tmps[d]? with
    |none=>exact .inl rfl
    |some q=>rw [hq] at h1;exact .inr (congrArg some h1)
   rcases this with h |h<;>rw [h]<;>rfl
def ur (P:Program) (N:Nat) (rd:Option Pos) (K:Kt) (b:Frame) (X:Cx) (k:List Item) (todo:List Item):Prop:=
 ∀a s o,K a s=some o→∀μ w u ca,SR P N μ s w→AR P μ a ca→RR P μ X a.rc u→yR μ rd b.roundOf→At P N b X k (lone (b.atR ca todo) (X.cs u) w) μ s w o
theorem ur.put {rd:Option Pos} {K:Kt} {b:Frame} {X:Cx} {k todo:List Item} (hK:ur P N rd K b X k todo) {d:Option Tmp} {v:AV} {a:aN} {s:St} {o:Out} (h:qK d v K a s=some o)
 {m:Machine} {μ₀ μ:bw} {σ₀:St} {w₀ w:World} {u:FrameMode} {ca:Act} {V:Value} (hg:bF P N μ₀ σ₀ w₀ μ s w) (ha:AR P μ a ca) (hX:RR P μ X a.rc u) (hrd:yR μ rd b.roundOf) (hv:VR P μ v V)
 (hs:Steps P m (lone (b.atR (ca.put d V) todo) (X.cs u) w)):At P N b X k m μ₀ σ₀ w₀ o:=by
 obtain ⟨a',ha',h⟩:=aa.1 h
 obtain ⟨h1,h2⟩:=ha.put hv ha'
 exact (hK a' s o h μ w u _ hg.sr h1 (h2▸hX) hrd).pre hs hg
theorem fC {μ:bw}:VR P μ .undef undef:=.tuple [] [] .nil
theorem kO (a:aN) (ds:List kz):(a.bK ds).tm=a.tm∧(a.bK ds).n=a.n∧(a.bK ds).defers=ds∧(a.bK ds).rc=a.rc:=by cases a;exact ⟨rfl,rfl,rfl,rfl⟩
theorem Jc (a:aN) (m:Option cE):(a.rK m).tm=a.tm∧(a.rK m).n=a.n∧(a.rK m).defers=a.defers∧(a.rK m).rc=m:=by cases a;exact ⟨rfl,rfl,rfl,rfl⟩
theorem xn {rd:Option Pos} {K:Kt} {b:Frame} {X:Cx} {k:List Item} {ops:Array Oper} {i:Nat} {rest:List Nat} {p:Oper} (hp:ops[i]? =some p) (hK:ur P N rd K b X k (.inRegion ops rest::k)) {a:aN} {q o:Out} (h:yu p.dst K a q=some o)
 {m m₁:Machine} {μ:bw} {σ:St} {w:World} {u:FrameMode} {ca:Act} (ha:AR P μ a ca) (hX:RR P μ X a.rc u) (hrd:yR μ rd b.roundOf) (hs:Steps P m m₁)
 (hb:Bg P N (b.atR ca (.inRegion ops (i::rest)::k)) (X.cs u) m₁ μ σ w q):At P N b X k m μ σ w o:=by
 cases q with
 | «at» =>exact hb.elim
 |fin e rc s=>
  cases e with
  |returned v=>
   obtain ⟨μ',w',V,hg,hv,hst⟩:=hb
   rw [YQ,show (ops[i]?).bind (·.dst)=p.dst from by rw [hp];rfl] at hst
   exact hK.put (show qK p.dst v K a s=some o from h) hg (ha.mono hg.ext.sub) (hX.mono hg.ext.sub) (hrd.mono hg.ext.sub) hv (hs.trans hst)
  |panicked c=>
   obtain ⟨μ',w',C,hg,hc,hst⟩:=hb
   cases h
   exact ⟨μ',w',ca,u,hg,ha.mono hg.ext.sub,hX.mono hg.ext.sub,_,C,hc,hs.trans hst⟩
theorem Jd {μ:bw} {ro:Option Nat} (h:yR μ none ro):ro=none:=by cases h;rfl
theorem GA (hP:cB P) {r:Rec} (hr:gL P N r) {rd:Option Pos} {K:Kt} {b:Frame} {X:Cx} {k:List Item} {ops:Array Oper} {i:Nat} {rest:List Nat} {p:Oper} (hp:ops[i]? =some p) (hK:ur P N rd K b X k (.inRegion ops rest::k))
 {a:aN} {s:St} {x:aG} {o:Out} (hx:gv p.op P a s=some x) (h:yx rd r p.dst K a x=some o) {μ:bw} {w:World} {u:FrameMode} {ca:Act}
 (hsr:SR P N μ s w) (ha:AR P μ a ca) (hX:RR P μ X a.rc u) (hk:b.kind=X.kind) (hrd:yR μ rd b.roundOf) (hw:YP p (yielded ops ca.tmps)=true):
 At P N b X k (lone (b.atR ca (.inRegion ops (i::rest)::k)) (X.cs u) w) μ s w o:=by
 have hn:=dW hP hsr ha hx
 have hsem:(∀d s',x≠.defer d s')→p.semAt b.roundOf ca.eval=execOp ca.eval p:=fun h=>Oper.semAt_eq _ _ _ (iu hx h)
 cases x with
 |val v s'=>
  obtain ⟨μ',V,w',hres,hg,hv,_⟩:=hn
  exact hK.put h hg (ha.mono hg.ext.sub) (hX.mono hg.ext.sub) (hrd.mono hg.ext.sub) hv (.one (uq hp hw (by rw [hsem (by simp)];exact hres)))
 |skip s'=>
  obtain ⟨μ',w',hres,hg⟩:=hn
  exact hK.put h hg (ha.mono hg.ext.sub) (hX.mono hg.ext.sub) (hrd.mono hg.ext.sub) fC (.one (Bh hp hw (by rw [hsem (by simp)];exact hres)))
 |enter f args s'=>
  obtain ⟨us,hres,rfl,hargs⟩:=hn
  obtain ⟨q,hq,h⟩:=aa.1 h
  have hb:=((hr.call f args none a s' q hq).2 μ w (.norm (b.atR ca (.inRegion ops (i::rest)::k)::X.cs u)) .run us hsr hargs (.norm _ _)).back
  exact xn hp hK h ha hX hrd (.one (nW hp hw (by rw [hsem (by simp)];exact hres))) hb
 |round l args s'=>
  obtain ⟨e,us,hl,hres,rfl,hargs⟩:=hn
  obtain ⟨q,hq,h⟩:=aa.1 h
  obtain ⟨fn,tmps,as,bd,hy,hb⟩:=hr.round l args a s' q hq μ w us e hsr hargs hl
  exact xn hp hK h ha hX hrd (.one (nX hp hw (by rw [hsem (by simp),hres];exact hy))) (hb _ _)
 |defer d s'=>
  obtain ⟨c,hres,rfl,hd⟩:=hn
  cases rd with
  |some l=>cases h
  |none=>
  have hro:=Jd hrd
  obtain ⟨e1,e2,e3,e4⟩:=kO a (d::a.defers)
  have ha':AR P μ (a.bK (d::a.defers)) {ca with defers:=c::ca.defers}:=⟨e1▸ha.tm,e2▸ha.size,e3▸.cons d c _ _ hd ha.defers⟩
  have h':qK p.dst .undef K (a.bK (d::a.defers)) s'=some o:=h
  exact hK.put h' hsr.stay ha' (e4▸hX) hrd fC (.one (I9 hro hp hw hres))
 |recover s'=>
  obtain ⟨hres,rfl⟩:=hn
  cases rd with
  |some l=>cases h
  |none=>
  have hro:=Jd hrd
  have h:Ar p.dst K a s' a.rc=some o:=h
  have hst:=Jb (k:=k) (cs:=X.cs u) (rest:=rest) hro hp hw hres
  have none_:tryRecover (b.atR ca (.inRegion ops (i::rest)::k)) (X.cs u)=none→qK p.dst .bu K a s'=some o→At P N b X k (lone (b.atR ca (.inRegion ops (i::rest)::k)) (X.cs u) w) μ s' w o:=by
   intro ht h
   rw [ht] at hst
   exact hK.put h hsr.stay ha hX hrd .bu (.one hst)
  have hX0:=hX
  generalize hrc:a.rc=rc at h hX0
  cases hX0 with
  |norm cs=>
   have hkn:b.kind= .normal:=hk
   exact none_ (by cases cs<;>simp [tryRecover,YS,hkn,Cx.cs]) h
  |wC c₀ cs₀ m _ hm=>
   have hkd:(b.atR ca (.inRegion ops (i::rest)::k)).kind= .deferred:=hk
   rw [tryRecover_deferred hkd] at none_ hst
   cases hm with
   |returning=>exact none_ rfl h
   |panicking c C hc=>cases hc with
    |nil=>exact none_ rfl h
    |cons v r V c C hv hs=>cases r with
     |true=>exact none_ rfl h
     |false=>
      obtain ⟨e1,e2,e3,e4⟩:=Jc a (some (.panicking ((v,true)::c)))
      have ha':AR P μ (a.rK (some (.panicking ((v,true)::c)))) ca:=⟨e1▸ha.tm,e2▸ha.size,e3▸ha.defers⟩
      have h':qK p.dst v K (a.rK (some (.panicking ((v,true)::c)))) s'=some o:=h
      have hX':RR P μ (.wC c₀ cs₀) (a.rK (some (.panicking ((v,true)::c)))).rc (.panicking ({v:=V,recovered:=true}::C)):=by
       rw [e4]
       exact .wC c₀ cs₀ _ _ (.panicking _ _ (.cons v true V c C hv hs))
      exact hK.put h' hsr.stay ha' hX' hrd hv (.one hst)
 |panic v s'=>
  obtain ⟨V,hres,rfl,hv⟩:=hn
  cases h
  exact ⟨μ,w,ca,u,hsr.stay,ha,hX,_,_,.cons v false V [] [] hv .nil,.one (Ja hp hw (by rw [hsem (by simp)];exact hres))⟩
end
end
section
open Go Go.RowKit
variable [Env]
section
variable {P:Program} {N:Nat}
theorem GB (hP:cB P) {r:Rec} (hr:gL P N r) (ops:Array Oper) {rd:Option Pos} {b:Frame} {X:Cx} {k:List Item} (hk:b.kind=X.kind): ∀(l:List Oper) (i:Nat),ops.toList.drop i=l→
 ur P N rd (Io P ops.toList l rd r) b X k (.inRegion ops (Wy i l.length)::k):=by
 intro l
 induction l with
 |nil=>
  intro i _ a s o h μ w u ca hs ha hX hrd
  cases h
  exact ⟨μ,w,ca,u,hs.stay,ha,hX,.one stepR_region_end⟩
 |cons p l ih=>
  intro i hd a s o h μ w u ca hs ha hX hrd
  have hp:ops[i]? =some p:=by
   have:(ops.toList.drop i)[0]? =some p:=by rw [hd];rfl
   simpa using this
  have hd':ops.toList.drop (i+1)=l:=by
   rw [←List.drop_drop,hd];rfl
  have hK:=ih (i+1) hd'
  rw [show Wy i (p::l).length=i::Wy (i+1) l.length from rfl]
  obtain ⟨b',hb',h⟩:=aa.1 (show ab (eG ops.toList a p.guard) (Vc P rd r p (Io P ops.toList l rd r) a s)=some o from h)
  have hw:=Gz ha hb'
  cases b' with
  |true=>
   obtain ⟨x,hx,h⟩:=aa.1 (show ab (gv p.op P a s) (yx rd r p.dst (Io P ops.toList l rd r) a)=some o from h)
   exact GA hP hr hp hK hx h hs ha hX hk hrd hw
  |false=>
   have hskip:=stepR_op_skip (P:=P) (b:=b) (a:=ca) (k:=k) (cs:=X.cs u) (w:=w) (ops:=ops) (i:=i) (rest:=Wy (i+1) l.length) (by rw [hp];exact hw)
   rw [show (ops[i]?).bind (·.dst)=p.dst from by rw [hp];rfl] at hskip
   exact hK.put (show qK p.dst .undef (Io P ops.toList l rd r) a s=some o from h) hs.stay ha hX hrd fC (.one hskip)
def dt (P:Program) (N:Nat) (r:Rec) (sm:Sm) (c:Code):Prop:=
 ∀rd a s o,sm rd r a s=some o→∀μ w b X u k ca,SR P N μ s w→AR P μ a ca→RR P μ X a.rc u→b.kind=X.kind→yR μ rd b.roundOf→(∃fn,P.funcs[b.fn]? =some fn)→
  At P N b X k (lone (b.atR ca (.code c::k)) (X.cs u) w) μ s w o
theorem At.bind {b:Frame} {X:Cx} {k k':List Item} {m:Machine} {μ:bw} {σ:St} {w:World} {o₁ o:Out} (h:At P N b X k' m μ σ w o₁) (hx: ∀id,exitTo id k'=exitTo id k) {K:Kt} (ht:Ap K o₁=some o)
 (hK: ∀a s μ₁ w₁ u ca,bF P N μ σ w μ₁ s w₁→AR P μ₁ a ca→RR P μ₁ X a.rc u→K a s=some o→At P N b X k (lone (b.atR ca k') (X.cs u) w₁) μ₁ s w₁ o):At P N b X k m μ σ w o:=by
 cases o₁ with
 |fin=>exact h.elim
 | «at» e a' s'=>
  obtain ⟨μ',w',ca',u',h1,h2,h3,h4⟩:=h
  cases e with
  |normal=>exact (hK a' s' μ' w' u' ca' h1 h2 h3 ht).pre h4 h1
  |exit id=>cases ht;obtain ⟨k1,h5,h6⟩:=h4;exact ⟨μ',w',ca',u',h1,h2,h3,k1,h5.trans (hx id),h6⟩
  |ret=>cases ht;exact ⟨μ',w',ca',u',h1,h2,h3,h4⟩
  |panic c=>cases ht;exact ⟨μ',w',ca',u',h1,h2,h3,h4⟩
theorem jo {b:Frame} {a:Act} {k:List Item} {cs:List Frame} {w:World} {c:Code}:YM P (lone (b.atR a (.code (.scope c)::k)) cs w)= .next (lone (b.atR a (.code c::.inScope c::k)) cs w):=
 step_lone_go (by simp [stepG,stepG.exec,YS])
theorem wD {b:Frame} {a:Act} {k:List Item} {cs:List Frame} {w:World} {c:Code}:YM P (lone (b.atR a (.inScope c::k)) cs w)= .next (lone (b.atR a k) cs w):=
 step_lone_go (by simp [stepG,stepG.exec,YS])
theorem GC {k:aY} {lp:eY} (h:Ik k=some lp):k= .loop lp:=by cases k<;>first |(cases h;rfl) |cases h
theorem SR.uu {μ:bw} {s:St} {w:World} (h:SR P N μ s w) {l:Pos} {e:fx} {lp:eY} (hl:μ l=some e) (hlp:s.loop l=some lp):
 s.h.get l=some (.loop lp)∧∃g r,e=⟨⟨g,0,none⟩,none⟩∧N≤g∧w.heap[g]? =some (.loop r)∧LR P μ lp r:=by
 obtain ⟨k,hk,hi⟩:=aa.1 hlp
 obtain rfl:=GC hi
 obtain ⟨k',hk',hbr⟩:=h.bU l e hl
 rw [hk] at hk'
 cases hk'
 exact ⟨hk,hbr⟩
theorem SR.yS {μ:bw} {s:St} {w:World} (h:SR P N μ s w) {l:Pos} {g:Nat} {lp lp':eY} {r r':Loop} (hl:μ l=some ⟨⟨g,0,none⟩,none⟩) (hk:s.h.get l=some (.loop lp)) (hN:N≤g) (hg:w.heap[g]? =some (.loop r)) (hr:LR P μ lp' r'):
 bF P N μ s w μ (s.put l (.loop lp')) (w.putObj g (.loop r')):=by
 have hlt:g<w.heap.size:=(Array.getElem?_eq_some_iff.1 hg).1
 refine h.jA hl hk rfl hN ⟨rfl,rfl,rfl,by simp,fun k _ hne=>?_⟩ ⟨g,r',rfl,hN,YU hlt,hr⟩
 exact YV fun e=>hne (by rw [e])
theorem GD {r:Rec} {sx sy:Sm} {x y:Code} (hx:dt P N r sx x) (hy:dt P N r sy y): ∀rd a s o,RZ sx sy rd r a s=some o→∀μ w b X u k ca,SR P N μ s w→AR P μ a ca→RR P μ X a.rc u→b.kind=X.kind→yR μ rd b.roundOf→(∃fn,P.funcs[b.fn]? =some fn)→
 At P N b X k (lone (b.atR ca (.code (.seq x y)::k)) (X.cs u) w) μ s w o:=by
 intro rd a s o h μ w b X u k ca hs ha hX hk hrd hf
 obtain ⟨o₁,h1,h2⟩:=aa.1 (show ab (sx rd r a s) (Ap (sy rd r))=some o from h)
 have:=hx rd a s o₁ h1 μ w b X u (.code y::k) ca hs ha hX hk hrd hf
 exact (At.bind (k:=k) this (fun id=>rfl) h2 fun a' s' μ₁ w₁ u₁ ca₁ hg ha' hX' hK=>hy rd a' s' o hK μ₁ w₁ b X u₁ k ca₁ hg.sr ha' hX' hk (hrd.mono hg.ext.sub) hf).pre (.one stepR_seq) hs.stay
theorem Dk {r:Rec} {sx:Sm} {x:Code} (hx:dt P N r sx x):dt P N r sx (.scope x):=by
 intro rd a s o h μ w b X u k ca hs ha hX hk hrd hf
 have:=hx rd a s o h μ w b X u (.inScope x::k) ca hs ha hX hk hrd hf
 cases o with
 |fin=>exact this.elim
 | «at» e a' s'=>
  obtain ⟨μ',w',ca',u',h1,h2,h3,h4⟩:=this
  refine ⟨μ',w',ca',u',h1,h2,h3,?_⟩
  cases e with
  |normal=>exact .head jo (h4.trans (.one wD))
  |exit id=>obtain ⟨k1,h5,h6⟩:=h4;exact ⟨k1,h5,.head jo h6⟩
  |ret=>obtain ⟨k1,h6⟩:=h4;exact ⟨k1,.head jo h6⟩
  |panic c=>obtain ⟨k1,C,h5,h6⟩:=h4;exact ⟨k1,C,h5,.head jo h6⟩
theorem GF {r:Rec} {c:Operand} {sx sy:Sm} {x y:Code} (hx:dt P N r sx x) (hy:dt P N r sy y):dt P N r (NU P c sx sy) (.cond c x y):=by
 intro rd a s o h μ w b X u k ca hs ha hX hk hrd hf
 obtain ⟨v,hv,h2⟩:=aa.1 (show ab (a.eval P c) (NT (sx rd r a s) (sy rd r a s))=some o from h)
 have hc:=ha.eval hs hv
 obtain ⟨t,ht,h2⟩:=aa.1 (show ab (fH v) (fun t=>au t (sx rd r a s) (sy rd r a s))=some o from h2)
 have hcv:=nQ hc ht
 cases t with
 |true=>exact (hx rd a s o h2 μ w b X u k ca hs ha hX hk hrd hf).pre (.one (stepR_cond hcv)) hs.stay
 |false=>exact (hy rd a s o h2 μ w b X u k ca hs ha hX hk hrd hf).pre (.one (stepR_cond hcv)) hs.stay
theorem Dl {r:Rec} {id:Nat} {sx:Sm} {x:Code} (hx:dt P N r sx x):dt P N r (Ii id sx) (.block id x):=by
 intro rd a s o h μ w b X u k ca hs ha hX hk hrd hf
 obtain ⟨o₁,h1,h2⟩:=aa.1 (show ab (sx rd r a s) (Aq id)=some o from h)
 have:=hx rd a s o₁ h1 μ w b X u (.inBlock id::k) ca hs ha hX hk hrd hf
 cases o₁ with
 |fin=>exact this.elim
 | «at» e a' s'=>
  obtain ⟨μ',w',ca',u',q1,q2,q3,q4⟩:=this
  cases e with
  |normal=>cases h2;exact ⟨μ',w',ca',u',q1,q2,q3,.head stepR_block (q4.trans (.one stepR_inBlock))⟩
  |exit id'=>
   obtain ⟨k1,h5,h6⟩:=q4
   have h2:au (Vo id' id) (some (Out.at .normal a' s')) (some (.at (.exit id') a' s'))=some o:=h2
   cases hb:Vo id' id with
   |true=>
    rw [hb] at h2
    cases h2
    obtain rfl:id'=id:=VN hb
    rw [show exitTo id' (.inBlock id'::k)=some k from by simp [exitTo]] at h5
    exact ⟨μ',w',ca',u',q1,q2,q3,.head stepR_block (h6.trans (.one (stepR_exit h5)))⟩
   |false=>
    rw [hb] at h2
    cases h2
    have hne: ¬id=id':=fun e=>by subst e;simp at hb
    rw [show exitTo id' (.inBlock id::k)=exitTo id' k from by simp [exitTo,hne]] at h5
    exact ⟨μ',w',ca',u',q1,q2,q3,k1,h5,.head stepR_block h6⟩
  |ret=>cases h2;obtain ⟨k1,h6⟩:=q4;exact ⟨μ',w',ca',u',q1,q2,q3,k1,.head stepR_block h6⟩
  |panic c=>cases h2;obtain ⟨k1,C,h5,h6⟩:=q4;exact ⟨μ',w',ca',u',q1,q2,q3,k1,C,h5,.head stepR_block h6⟩
def Bi (P:Program) (N:Nat) (rd:Option Pos) (c:Code) (a:aN) (s:St) (o:Out):Prop:=
 ∀μ w b X u k ca,SR P N μ s w→AR P μ a ca→RR P μ X a.rc u→b.kind=X.kind→yR μ rd b.roundOf→(∃fn,P.funcs[b.fn]? =some fn)→
  ∀m,YM P m= .next (lone (b.atR ca (.code c::.inLoop c::k)) (X.cs u) w)→At P N b X k m μ s w o
def sE (P:Program) (N:Nat) (hk:Hk):Prop:=∀f p rd a s o,hk f p rd a s=some o→∀c,cF P f p=some (.loop c)→Bi P N rd c a s o
theorem nY {els o:Option Out} {r:Out} (h:rQ els o=some r):o=some r∨els=some r:=by
 cases o with
 |none=>exact .inr h
 |some x=>exact .inl h
theorem GG {r:Rec} (hr:gL P N r) {hk:Hk} (hh:sE P N hk) {f:FuncId} {p:Pos} {x:Code} (hc:cF P f p=some (.loop x)):dt P N r (fun rd r a s=>rQ (r (.loop rd x f p) a s) (hk f p rd a s)) (.loop x):=by
 intro rd a s o h μ w b X u k ca hs ha hX hk hrd hf
 rcases nY h with h |h
 ·exact hh f p rd a s o h x hc μ w b X u k ca hs ha hX hk hrd hf _ stepR_loop
 ·exact hr.loop rd x f p a s o h hc μ w b X u k ca hs ha hX hk hrd hf _ stepR_loop
theorem GH {r:Rec} {id:Nat}:dt P N r (fun _ _ a s=>some (.at (.exit id) a s)) (.exit id):=by
 intro rd a s o h μ w b X u k ca hs ha hX hk hrd hf
 cases h
 exact ⟨μ,w,ca,u,hs.stay,ha,hX,k,rfl,.refl _ _⟩
theorem Je {r:Rec}:dt P N r (fun _ _ a s=>some (.at .ret a s)) .ret:=by
 intro rd a s o h μ w b X u k ca hs ha hX hk hrd hf
 cases h
 exact ⟨μ,w,ca,u,hs.stay,ha,hX,k,.refl _ _⟩
theorem GI {r:Rec}:dt P N r (fun _ _ a s=>some (.at .normal a s)) .skip:=by
 intro rd a s o h μ w b X u k ca hs ha hX hk hrd hf
 cases h
 exact ⟨μ,w,ca,u,hs.stay,ha,hX,.one stepR_skip⟩
theorem Dm {r:Rec} {l:Nat}:dt P N r (fun _ _ a s=>some (.at .normal a s)) (.label l):=by
 intro rd a s o h μ w b X u k ca hs ha hX hk hrd hf
 cases h
 exact ⟨μ,w,ca,u,hs.stay,ha,hX,.one stepR_label⟩
theorem Bj (hP:cB P) {r:Rec} (hr:gL P N r) {id:Nat} {ops:Array Oper}:dt P N r (pq P ops false) (.region id ops false):=by
 intro rd a s o h μ w b X u k ca hs ha hX hk hrd hf
 have:=GB hP hr ops (rd:=rd) (k:=k) hk ops.toList 0 (by simp) a s o h μ w u ca hs ha hX hrd
 refine At.pre (.one stepR_region) hs.stay ?_
 rw [List.range_eq_range']
 simpa using this
end
end
section
open Go Go.RowKit
variable [Env]
section
variable {P:Program} {N:Nat}
theorem MD {a:aN} {s:St} {j:Option Code} {o:Out} (h:Ij a s j=some o) {b:Frame} {X:Cx} {k:List Item} {m:Machine} {μ₀ μ:bw} {σ₀:St} {w₀ w:World} {u:FrameMode} {ca:Act}
 (hg:bF P N μ₀ σ₀ w₀ μ s w) (ha:AR P μ a ca) (hX:RR P μ X a.rc u) (hs:Steps P m (lone (b.atR ca ((j.map Item.code).toList++k)) (X.cs u) w)):At P N b X k m μ₀ σ₀ w₀ o:=by
 cases j with
 |none=>cases h;exact ⟨μ,w,ca,u,hg,ha,hX,hs⟩
 |some c=>
  cases c<;>first |(cases h;done) |skip
  ·cases h;exact ⟨μ,w,ca,u,hg,ha,hX,k,rfl,hs⟩
  ·cases h;exact ⟨μ,w,ca,u,hg,ha,hX,k,hs⟩
theorem LR.with {μ:bw} {lp:eY} {r:Loop} (h:LR P μ lp r) (st:LoopState) (p:Option Code):LR P μ (lp.with st p) {r with state:=st,pending:=p}:=
 ⟨rfl,rfl,h.tmps,h.size,h.params,h.fn,h.defers,h.code⟩
theorem ME {lp:eY} (h:lp.busy=false):lp.state≠.busy:=by
 intro e
 unfold eY.busy at h
 rw [e] at h
 cases h
theorem Jf {lp:eY} (h:lp.ready=true):lp.state= .ready:=by
 unfold eY.ready at h
 split at h
 ·assumption
 ·cases h
theorem Dp {r:Rec} (hP:cB P) (hr:gL P N r) {fi:FuncId} {pi:Pos} {f:Operand} {ps:Array Tmp} {assign body:Code} (hcode:cF P fi pi=some (.rangeFunc f ps assign body)):dt P N r (Im P fi pi f ps) (.rangeFunc f ps assign body):=by
 intro rd a s o h μ w b X u k ca hs ha hX hk hrd hf
 obtain ⟨v,hv,h1⟩:=aa.1 (show ab (a.eval P f) (Il fi pi ps rd r a s)=some o from h)
 have hx:=ha.eval hs hv
 clear h
 cases v with
 |func g first cap=>
  obtain ⟨⟨d,mark,s₁⟩,hq,h2⟩:=aa.1 (show ab (tW s rd) (EW fi pi first cap g ps r a)=some o from h1)
  obtain ⟨q,hcall,h3⟩:=aa.1 (show ab (r (.call g (first++(.yield s₁.n::cap)) none) a (s₁.push (.loop {state:=.ready,pending:=none,tm:=a.tm,n:=a.n,params:=ps.toList,defers:=d,f:=fi,p:=pi}))) (wT s₁.n (a.bK (mark++a.defers)))=some o from h2)
  clear h1 h2
  have hin: ∃μ₁ w₁ B M,bF P N μ s w μ₁ s₁ w₁∧(∃e,μ₁ d=some e∧e.a.block=B)∧yJ P μ₁ mark M∧
   (YW b.fn ca.tmps ps assign body b.roundOf).run P w= .ok (w₁.heap.size,M) (w₁.alloc (.loop {state:=.ready,pending:=none,fn:=b.fn,tmps:=ca.tmps,params:=ps,assign,body,defers:=B})):=by
   cases rd with
   |none=>
    cases hq
    have hro:=Jd hrd
    have hg:bF P N μ s w (dm μ s.n ⟨⟨w.heap.size,0,none⟩,none⟩) (s.push (.deferred true)) (w.alloc (.deferred (some []))):=
     hs.laid (Wn w _ none) (VY _) ⟨w.heap.size,rfl,hs.hN,heap_alloc_new w _⟩
    refine ⟨_,_,w.heap.size,_,hg,⟨_,dK _ _ _,rfl⟩,.cons _ _ _ _ (.collected s.n _ (dK _ _ _)) .nil,?_⟩
    rw [hro,run_enterLoop_outer]
    simp
   |some l=>
    obtain ⟨lp,hlp,hq⟩:=aO.1 (show omap (s.loop l) (fun r=>(r.defers,[],s))=some (d,mark,s₁) from hq)
    cases hq
    generalize hro:b.roundOf=ro at*
    cases hrd with
    |some _ gl hl=>
     obtain ⟨_,g',rr,he,hN',hg',hLR⟩:=hs.uu hl hlp
     cases he
     obtain ⟨e,he,hb⟩:=hLR.defers
     refine ⟨μ,w,rr.defers,[],hs.stay,⟨e,he,hb.symm⟩,.nil,?_⟩
     unfold YW
     simp only [Wc,run_getLoop hg',Wd,WG,run_newObj_alloc]
  obtain ⟨μ₁,w₁,B,M,hg₁,⟨e,he,hB⟩,hM,hen⟩:=hin
  have hg₂:bF P N μ₁ s₁ w₁ (dm μ₁ s₁.n ⟨⟨w₁.heap.size,0,none⟩,none⟩) (s₁.push (.loop {state:=.ready,pending:=none,tm:=a.tm,n:=a.n,params:=ps.toList,defers:=d,f:=fi,p:=pi}))
   (w₁.alloc (.loop {state:=.ready,pending:=none,fn:=b.fn,tmps:=ca.tmps,params:=ps,assign,body,defers:=B})):=by
   have hsub:=eJ (μ:=μ₁) (b:=s₁.n) (e:=⟨⟨w₁.heap.size,0,none⟩,none⟩) (.inl hg₁.sr.fresh)
   refine hg₁.sr.laid (Wn w₁ _ none) (VY _) ⟨w₁.heap.size,_,rfl,hg₁.sr.hN,heap_alloc_new w₁ _,?_⟩
   exact ⟨rfl,rfl,(ha.tm.mono hg₁.ext.sub).mono hsub,ha.size,rfl,hf,⟨e,hsub _ _ he,hB.symm⟩,⟨f,ps,hcode⟩⟩
  have hg:=hg₁.trans hg₂
  have hx':=hx.mono hg.ext.sub
  have hrd':=hrd.mono hg.ext.sub
  generalize hw₂:w₁.alloc (.loop {state:=.ready,pending:=none,fn:=b.fn,tmps:=ca.tmps,params:=ps,assign,body,defers:=B})=w₂ at*
  generalize hμ₂:dm μ₁ s₁.n ⟨⟨w₁.heap.size,0,none⟩,none⟩=μ₂ at*
  have hl:μ₂ s₁.n=some ⟨⟨w₁.heap.size,0,none⟩,none⟩:=by rw [←hμ₂];exact dK _ _ _
  generalize hF:ca.eval f=F at*
  cases hx' with
  |func _ _ _ Fi C h1 h2=>
  obtain ⟨⟨fn,c,hfn,hbody⟩,hends⟩:=hr.call _ _ _ _ _ _ hcall
  have hargs:b8 P μ₂ (first++(.yield s₁.n::cap)) (Fi++(.func (.yield w₁.heap.size) #[] #[]::C)):=h1.append (.cons _ _ _ _ (.yield s₁.n _ hl) h2)
  obtain ⟨e1,e2,e3,e4⟩:=kO a (mark++a.defers)
  have dapp: ∀{x y:List kz} {cx cy:List Deferred},yJ P μ₂ x cx→yJ P μ₂ y cy→yJ P μ₂ (x++y) (cx++cy):=by
   intro x y cx cy hx hy
   induction hx with
   |nil=>exact hy
   |cons d c ds cs h _ ih=>exact .cons d c _ _ h ih
  have ha':AR P μ₂ (a.bK (mark++a.defers)) {ca with defers:=M++ca.defers}:=
   ⟨e1▸ha.tm.mono hg.ext.sub,e2▸ha.size,e3▸dapp (hM.mono hg₂.ext.sub) (ha.defers.mono hg.ext.sub)⟩
  have hX':RR P μ₂ X (a.bK (mark++a.defers)).rc u:=e4▸hX.mono hg.ext.sub
  have hback:=(hends μ₂ w₂ (.norm (b.atR {ca with defers:=M++ca.defers} (.inRangeFunc w₁.heap.size::k)::X.cs u)) .run _ hg.sr hargs (.norm _ _)).back
  have hstep:YM P (lone (b.atR ca (.code (.rangeFunc f ps assign body)::k)) (X.cs u) w)=
   .next (lone (YN P g (Fi++(.func (.yield w₁.heap.size) #[] #[]::C)).toArray .normal) (b.atR {ca with defers:=M++ca.defers} (.inRangeFunc w₁.heap.size::k)::X.cs u) w₂):=by
   refine stepR_rangeFunc (d:={target:=.fn (.func g) C.toArray,args:=Fi.toArray++ #[.func (.yield w₁.heap.size) #[] #[]]}) (w₁':=w₂) hen ?_ ?_
   ·show (YL (ca.eval f) (#[Operand.const (.func (.yield w₁.heap.size) #[] #[])].map ca.eval):Sem Deferred).run P w₂=_
    rw [hF]
    simp [YL,Act.eval]
   ·have hn: ¬fn.name= "runtime.NumGoroutine" :=fun e=>by have:=hP g fn hfn;rw [e] at this;simp at this
    simp [invoke,callFunc,hfn,hn,hbody]
  cases q with
  | «at» =>exact hback.elim
  |fin ee rc s₃=>
   cases ee with
   |returned v=>
    obtain ⟨μ₃,w₃,V,hg₃,hv,hst⟩:=hback
    rw [finish_atR_inRangeFunc] at hst
    obtain ⟨lp,hlp,h4⟩:=aa.1 (show ab (s₃.loop s₁.n) (fun lp=>au lp.busy none (Ij (a.bK (mark++a.defers)) (s₃.put s₁.n (.loop (lp.with .exhausted lp.pending))) lp.pending))=some o from h3)
    obtain ⟨hbz,h5⟩:=eH.1 h4
    have hl₃:=hg₃.ext.sub _ _ hl
    obtain ⟨hk₃,g',rr,he',hN',hg',hLR⟩:=hg₃.sr.uu hl₃ hlp
    cases he'
    have hg₄:=hg₃.sr.yS hl₃ hk₃ hN' hg' (hLR.with .exhausted lp.pending)
    have hend:=run_endLoop (P:=P) hg' (by rw [hLR.state];exact ME hbz)
    rw [hLR.pending] at hend
    have hsub:=hg₃.ext.sub
    exact MD h5 ((hg.trans hg₃).trans hg₄) (ha'.mono hsub) (hX'.mono hsub) (.head hstep (hst.trans (.one (stepR_endRangeFunc (by rw [hend,←hLR.pending])))))
   |panicked c=>
    obtain ⟨μ₃,w₃,C',hg₃,hc,hst⟩:=hback
    cases h3
    exact ⟨μ₃,w₃,_,u,hg.trans hg₃,ha'.mono hg₃.ext.sub,hX'.mono hg₃.ext.sub,_,C',hc,.head hstep hst⟩
 |_=>cases h1
theorem iT (hP:cB P) {r:Rec} (hr:gL P N r) (hdraw: ∀id ops,dt P N r (pq P ops true) (.region id ops true)) {hk:Hk} (hh:sE P N hk) {f:FuncId}: ∀(c:Code) (p:Pos),cF P f p=some c→dt P N r (jN P hk f c p) c:=by
 intro c
 induction c with
 |skip=>exact fun _ _=>GI
 |region id ops draw=>cases draw with
  |true=>exact fun _ _=>hdraw id ops
  |false=>exact fun _ _=>Bj hP hr
 |seq x y hx hy=>exact fun p h=>GD (hx _ (fe h rfl)) (hy _ (pz h rfl))
 |cond c x y hx hy=>exact fun p h=>GF (hx _ (fe h rfl)) (hy _ (pz h rfl))
 |block id c hc=>exact fun p h=>Dl (hc _ (fe h rfl))
 |loop c _=>exact fun p h=>GG hr hh h
 |rangeFunc g ps as bd _ _=>exact fun p h=>Dp hP hr h
 |exit id=>exact fun _ _=>GH
 |scope c hc=>exact fun p h=>Dk (hc _ (fe h rfl))
 |label l=>exact fun _ _=>Dm
 |goto l=>intro p _ rd a s o h;cases h
 |ret=>exact fun _ _=>Je
 |refuse y=>intro p _ rd a s o h;cases h
end
end
section
open Go Go.RowKit
variable [Env]
section
variable {P:Program} {N:Nat}
def MF (tmps:Array Value):ResultVar→Sem Value
 | .tmp t=>pure (tmps.getD t undef)
 | .cell x t=>do loadVar t (←asAddr (tmps.getD x undef))
theorem Dq {μ:bw} {s:St} {w:World} {a:aN} {tmps:Array Value} (hs:SR P N μ s w) (ht:TR P μ a.tm tmps) {r:ResultVar} {v:AV} (h:CP P a s r=some v):
 ∃V,(MF tmps r).run P w= .ok V w∧VR P μ v V:=by
 cases r with
 |tmp t=>cases h;exact ⟨_,rfl,ht t⟩
 |cell x t=>
  have hx:VR P μ (a.tmp x) (tmps.getD x undef):=ht x
  replace h:EV P t s (a.tmp x)=some v:=h
  show ∃V,(do loadVar t (←asAddr (tmps.getD x undef)):Sem Value).run P w= .ok V w∧VR P μ v V
  generalize a.tmp x=ax at*
  generalize tmps.getD x undef=X at*
  cases ax with
  |ptr b o=>cases hx with
   |ptr _ _ e he=>
    obtain ⟨V,hrun,hv,_⟩:=hs.load he h
    exact ⟨V,by simp [asAddr,hrun],hv⟩
  |_=>cases h
theorem Jg {μ:bw} {s:St} {w:World} {a:aN} {tmps:Array Value} (hs:SR P N μ s w) (ht:TR P μ a.tm tmps): ∀{rs:List ResultVar} {vs:List AV},Md P a s rs=some vs→
 ∃Vs,(rs.mapM (MF tmps)).run P w= .ok Vs w∧b8 P μ vs Vs:=by
 intro rs
 induction rs with
 |nil=>intro vs h;cases h;exact ⟨[],rfl,.nil⟩
 |cons r rs ih=>
  intro vs h
  obtain ⟨v,hv,h⟩:=aa.1 (show ab (CP P a s r) (fun v=>omap (Md P a s rs) (v:: ·))=some vs from h)
  obtain ⟨vs',hvs,rfl⟩:=aO.1 h
  obtain ⟨V,h1,h2⟩:=Dq hs ht hv
  obtain ⟨Vs,h3,h4⟩:=ih hvs
  refine ⟨V::Vs,?_,.cons _ _ _ _ h2 h4⟩
  rw [List.mapM_cons]
  simp only [Wc,h1,h3,Wd,WG]
theorem Bk {μ:bw} {s:St} {w:World} {a:aN} {tmps:Array Value} {fn:Func} {v:AV} (hs:SR P N μ s w) (ht:TR P μ a.tm tmps) (h:tU P fn a s=some v):
 ∃V,(results fn tmps).run P w= .ok V w∧VR P μ v V:=by
 obtain ⟨vs,hvs,rfl⟩:=aO.1 h
 obtain ⟨Vs,h1,h2⟩:=Jg hs ht hvs
 have h1':(fn.results.mapM (MF tmps)).run P w= .ok Vs.toArray w:=by
  rw [Array.mapM_eq_mapM_toList]
  simp [h1]
 refine ⟨if h:Vs.toArray.size=1 then Vs.toArray[0] else .tuple Vs.toArray,?_,?_⟩
 ·have e:results fn tmps=(do let vs ←fn.results.mapM (MF tmps);pure (if h:vs.size=1 then vs[0] else .tuple vs)):=by
   unfold results
   congr 2
  rw [e]
  simp only [Wc,h1',Wd,WG]
 ·cases h2 with
  |nil=>exact .tuple [] [] .nil
  |cons v u vs us hv hs'=>cases hs' with
   |nil=>exact hv
   |cons v' u' vs' us' hv' hs''=>
    have: ¬(u::u'::us').toArray.size=1:=by simp
    rw [dif_neg this]
    exact .tuple _ _ (.cons _ _ _ _ hv (.cons _ _ _ _ hv' hs''))
theorem Bl (hP:cB P) {r:Rec} (hr:gL P N r) {fn:Func} {m:cE} {a:aN} {s:St} {o:Out} (h:yC P fn m r a s=some o) {μ:bw} {w:World} {X:Cx} {u:FrameMode} {fr:Frame}
 (hs:SR P N μ s w) (ht:TR P μ a.tm fr.tmps) (hd:yJ P μ a.defers fr.defers) (hX:RR P μ X a.rc u) (hk:fr.kind=X.kind) (hf:P.funcs[fr.fn]? =some fn) (hm:MR P μ m fr.mode):
 lK P N X fr.fn (lone fr (X.cs u) w) μ s w o:=by
 unfold yC at h
 cases hda:a.defers with
 |nil=>
  rw [hda] at h hd
  replace h:Au P fn a s m=some o:=h
  have hdn:fr.defers=[]:=by
   generalize fr.defers=x at hd
   cases hd
   rfl
  generalize hmode:fr.mode=md at hm
  cases hm with
  |returning=>
   obtain ⟨v,hv,rfl⟩:=aO.1 (show omap (tU P fn a s) (fun v=>Out.fin (.returned v) a.rc s)=some o from h)
   obtain ⟨V,h1,h2⟩:=Bk hs ht hv
   exact ⟨μ,w,u,V,fr,hs.stay,hX,h2,.refl _ _,rfl,hk,hmode,hdn,fn,hf,h1⟩
  |panicking c C hc=>
   cases h
   exact ⟨μ,w,u,C,fr,hs.stay,hX,hc,.refl _ _,rfl,hk,hmode,hdn,fn,hf⟩
 |cons d ds=>
  rw [hda] at h hd
  replace h:Av fn m r (a.bK ds) d.args s d.target=some o:=h
  obtain ⟨e1,e2,e3,e4⟩:=kO a ds
  generalize hfd:fr.defers=FD at hd
  cases hd with
  |cons _ c _ cs hdc hds=>
   cases hdc with
   |fn f cap args C A hc ha=>
    obtain ⟨q,hq,h⟩:=aa.1 (show ab (r (.call f (args++cap) (some m)) (a.bK ds) s) (E1 fn r (a.bK ds))=some o from h)
    obtain ⟨⟨fn',c',hfn,hbody⟩,hends⟩:=hr.call _ _ _ _ _ _ hq
    have hn: ¬fn'.name= "runtime.NumGoroutine" :=fun e=>by have:=hP f fn' hfn;rw [e] at this;simp at this
    have hinv:(invoke (.fn (.func f) C.toArray) A.toArray).run P w= .ok (.enter f (A++C).toArray) w:=by
     simp [invoke,callFunc,hfn,hn,hbody]
    have hstep:=step_defer (cs:=X.cs u) hm.I8 hfd rfl hinv
    have hE:=hends μ w (.wC {fr with defers:=cs} (X.cs u)) fr.mode (A++C) hs (ha.append hc) (.wC _ _ _ _ hm)
    cases q with
    | «at» =>exact hE.elim
    |fin e rc' s'=>
     cases e with
     |returned v=>
      obtain ⟨μ',w',u',V,fr',hg,hR,hv,hst,hfn',hk',hgo⟩:=hE
      generalize hrc:rc'=rc'' at hR
      cases hR with
      |wC _ _ m' _ hm'=>
       subst hrc
       replace h:r (.leave fn (sL m')) (a.bK ds) s'=some o:=h
       have h2:=step_going_returned (c:={{fr with defers:=cs} with mode:=u'}) (cs:=X.cs u) hk' hgo
       have:=hr.leave fn (sL m') (a.bK ds) s' o h μ' w' X u {{{fr with defers:=cs} with mode:=u'} with mode:=settle u'} hg.sr (e1▸ht.mono hg.ext.sub) (e3▸hds.mono hg.ext.sub) (e4▸hX.mono hg.ext.sub) hk hf hm'.settle
       exact this.pre (.head hstep (hst.trans (.one h2))) hg
     |panicked ch=>
      obtain ⟨μ',w',u',C',fr',hg,hR,hv,hst,hfn',hk',hgo⟩:=hE
      generalize hrc:rc'=rc'' at hR
      cases hR with
      |wC _ _ m' _ hm'=>
       subst hrc
       replace h:r (.leave fn (sM m' ch)) (a.bK ds) s'=some o:=h
       have h2:=step_going_panicked (c:={{fr with defers:=cs} with mode:=u'}) (cs:=X.cs u) hgo
       have:=hr.leave fn (sM m' ch) (a.bK ds) s' o h μ' w' X u {{{fr with defers:=cs} with mode:=u'} with mode:=raised u' C'} hg.sr (e1▸ht.mono hg.ext.sub) (e3▸hds.mono hg.ext.sub) (e4▸hX.mono hg.ext.sub) hk hf (hm'.raised hv)
       exact this.pre (.head hstep (hst.trans (.one h2))) hg
   |collected b e he=>
    obtain ⟨bl,hbl,h⟩:=aa.1 (show ab (s.h.get b) (E0 fn m b r (a.bK ds) s)=some o from h)
    obtain ⟨k',hk',hbr⟩:=hs.bU b e he
    rw [hbl] at hk'
    cases hk'
    cases bl with
    |deferred t=>cases t with
     |true=>
      replace h:r (.leave fn m) (a.bK ds) (s.put b (.deferred false))=some o:=h
      obtain ⟨g,rfl,hN,hg⟩:=hbr
      have hlt:g<w.heap.size:=(Array.getElem?_eq_some_iff.1 hg).1
      have hG:bF P N μ s w μ (s.put b (.deferred false)) (w.putObj g (.deferred none)):=by
       refine hs.jA he hbl rfl hN ⟨rfl,rfl,rfl,by simp,fun k _ hne=>?_⟩ ⟨g,rfl,hN,YU hlt⟩
       exact YV fun e=>hne (by rw [e])
      have hstep:=step_collected (cs:=X.cs u) hm.I8 hfd rfl (run_takeDeferred (P:=P) hg)
      have:=hr.leave fn m (a.bK ds) _ o h μ _ X u {fr with defers:=cs} hG.sr (e1▸ht) (e3▸hds) (e4▸hX) hk hf hm
      exact this.pre (.one hstep) hG
     |false=>cases h
    |_=>cases h
theorem MG {μ:bw} {args:List AV} {us:List Value} (h:b8 P μ args us) (n:Nat):TR P μ (iF args .nil 0) (us.toArray++YX (n - us.length) undef):=by
 intro t
 rw [jQ]
 simp only [Xz,true_and,Yq,Nat.sub_zero]
 have hl:=h.length
 by_cases ht:t<args.length
 ·rw [if_pos ht]
  obtain ⟨u,hu,hv⟩:=h.get (Wj ht)
  rw [Wj ht]
  have:(us.toArray++YX (n - us.length) undef).getD t undef=u:=by
   rw [We,Array.getElem?_append_left (by simp;omega)]
   simp [hu]
  rw [this]
  exact hv
 ·rw [if_neg ht,get_nil]
  have:(us.toArray++YX (n - us.length) undef).getD t undef=undef:=by
   rw [We,Array.getElem?_append_right (by simp;omega)]
   cases hq:(YX (n - us.length) undef)[t - us.toArray.size]? with
   |none=>rfl
   |some q=>
    obtain ⟨_,hq'⟩:=Array.getElem?_eq_some_iff.1 hq
    simp at hq'
    rw [←hq'];rfl
  rw [this]
  exact fC
theorem Dr (hP:cB P) {r:Rec} (hr:gL P N r) (hdraw: ∀id ops,dt P N r (pq P ops true) (.region id ops true)) {hk:Hk} (hh:sE P N hk) {f:FuncId} {args:List AV} {rc:Option cE} {s:St} {o:Out} (h:Iy P hk f args rc r s=some o):
 (∃fn c,P.funcs[f]? =some fn∧fn.body=some c)∧∀μ w X u us,SR P N μ s w→b8 P μ args us→RR P μ X rc u→lK P N X f (lone (YN P f us.toArray X.kind) (X.cs u) w) μ s w o:=by
 obtain ⟨fn,hf,h⟩:=aa.1 h
 obtain ⟨c,hb,h⟩:=aa.1 h
 refine ⟨⟨fn,c,hf,hb⟩,fun μ w X u us hs ha hX=>?_⟩
 obtain ⟨q,hq,h⟩:=aa.1 h
 let b:Frame:={fn:=f,tmps:= #[],todo:=[],defers:=[],mode:=.run,kind:=X.kind}
 have henter:YN P f us.toArray X.kind=b.atR {tmps:=us.toArray++YX (fn.ntmps - us.length) undef,defers:=[]} [.code c]:=by
  simp [YN,YS,hf,hb,b]
 have hl:=ha.length
 have hA:AR P μ (.mk (iF args .nil 0) (Nat.max fn.ntmps args.length) [] rc) {tmps:=us.toArray++YX (fn.ntmps - us.length) undef,defers:=[]}:=
  ⟨MG ha _,by simp only [Ym,Yn,Array.size_replicate,hl];show us.length+(fn.ntmps - us.length)=max fn.ntmps us.length;omega,.nil⟩
 have:=iT hP hr hdraw hh c .one (CW hf hb) none _ s q hq μ w b X u [] _ hs hA hX rfl .none ⟨fn,hf⟩
 rw [henter]
 cases q with
 |fin=>exact this.elim
 | «at» e a' s'=>
  obtain ⟨μ',w',ca',u',hg,ha',hX',hst⟩:=this
  cases e with
  |normal=>
   have hl:=hr.leave fn .returning a' s' o h μ' w' X u' {b.atR ca' [] with mode:=.returning} hg.sr ha'.tm ha'.defers hX' rfl hf .returning
   exact hl.pre (YY hst (.one (stepR_end rfl))) hg
  |exit id=>cases h
  |ret=>
   obtain ⟨k1,hst⟩:=hst
   have hl:=hr.leave fn .returning a' s' o h μ' w' X u' {b.atR ca' (.code .ret::k1) with mode:=.returning} hg.sr ha'.tm ha'.defers hX' rfl hf .returning
   exact hl.pre (YY hst (.one (stepR_ret rfl))) hg
  |panic ch=>
   obtain ⟨k1,C,hc,hst⟩:=hst
   have hl:=hr.leave fn (.panicking ch) a' s' o h μ' w' X u' {b.atR ca' k1 with mode:=.panicking C} hg.sr ha'.tm ha'.defers hX' rfl hf (.panicking _ _ hc)
   exact hl.pre hst hg
end
end
section
open Go Go.RowKit
variable [Env]
section
variable {P:Program} {N:Nat}
theorem Ds {n t:Nat} {l:List Tmp} (h:wV n (t::l)=true):t<n∧wV n l=true:=by
 replace h:au (Vv (Vt t) n) (wV n l) false=true:=h
 cases hb:Vv (Vt t) n with
 |true=>rw [hb] at h;exact ⟨VQ hb,h⟩
 |false=>rw [hb] at h;cases h
theorem uw {μ:bw}: ∀(ps:List Tmp) (vs:List AV) (us:List Value) (tm:Tr AV) (tmps:Array Value) (n:Nat),TR P μ tm tmps→tmps.size=n→wV n ps=true→b8 P μ vs us→
 TR P μ (yt ps vs tm) ((ps.zip us).foldl (fun tmps (p:Tmp×Value)=>tmps.setIfInBounds p.1 p.2) tmps)∧((ps.zip us).foldl (fun tmps (p:Tmp×Value)=>tmps.setIfInBounds p.1 p.2) tmps).size=n
 |[],vs,us,tm,tmps,n,ht,hn,ha,hv=>⟨ht,hn⟩
 |p::ps,vs,us,tm,tmps,n,ht,hn,ha,hv=>by
  cases hv with
  |nil=>exact ⟨ht,hn⟩
  |cons v u vs us hv hvs=>
   obtain ⟨h1,h2⟩:=Ds ha
   refine uw ps vs us (tm.set (pos p) v) (tmps.setIfInBounds p u) n (fun t=>?_) (by simpa using hn) h2 hvs
   by_cases htp:p=t
   ·subst htp
    rw [ij]
    have hp:p<tmps.size:=hn.symm▸h1
    simpa [gu,We,hp] using hv
   ·rw [kG _ _ (fun e=>htp (pr e))]
    have:=ht t
    simpa [We,Array.getElem?_setIfInBounds_ne htp] using this
theorem iU {μ:bw} {s:St} {w:World} (hs:SR P N μ s w) {l:Pos} {e:fx} (hl:μ l=some e) {j:Option Code} {o:Out} (h:gd l j s=some o):
 ∃w',(Instr.endRound e.a.block j).run P w= .ok (.bool j.isNone) w'∧∀(c:Frame) (cs:List Frame) (m:Machine),Steps P m (lone (c.finish (.bool j.isNone)) cs w')→Bg P N c cs m μ s w o:=by
 obtain ⟨lp,hlp,rfl⟩:=aO.1 h
 obtain ⟨hk,g,r,rfl,hN,hg,hLR⟩:=hs.uu hl hlp
 have hr:=run_endRound (P:=P) j hg
 have hG:=hs.yS hl hk hN hg (hLR.with (match j with |none=>.ready |some _=>.done) j)
 refine ⟨_,hr,fun c cs m hst=>⟨μ,_,_,?_,.bool j.isNone,hst⟩⟩
 cases j<;>exact hG
theorem Bm {r:Rec} (hr:gL P N r) {hkk:Hk} (hcode: ∀f c p,cF P f p=some c→dt P N r (jN P hkk f c p) c) {l:Pos} {args:List AV} {s:St} {o:Out} (h:CS P hkk l args r s=some o) {μ:bw} {w:World} {us:List Value} {e:fx} (hs:SR P N μ s w) (ha:b8 P μ args us) (hl:μ l=some e):
 ∃fn tmps assign body,(Instr.yield e.a.block us.toArray).run P w= .ok (.round e.a.block fn tmps assign body) w∧∀c cs,Bg P N c cs (lone (YO e.a.block fn tmps assign body .normal) (c::cs) w) μ s w o:=by
 obtain ⟨lp,hlp,h⟩:=aa.1 h
 obtain ⟨hc,h⟩:=aj.1 (show au (Vo args.length lp.params.length&&wV lp.n lp.params) (ab (cF P lp.f (.o lp.p)) fun assign=>ab (cF P lp.f (.i lp.p)) fun body=>ab (jN P hkk lp.f assign (.o lp.p) (some l) r (.mk (yt lp.params args lp.tm) lp.n [] none) s) (tY (rR P hkk l lp.f lp.p body r))) none=some o from h)
 obtain ⟨assign,hassign,h⟩:=aa.1 h
 obtain ⟨body,hbody,h⟩:=aa.1 h
 rw [V1] at hc
 obtain ⟨hc1,hc2⟩:=hc
 obtain ⟨q,hq,h⟩:=aa.1 h
 obtain ⟨hk,g,rr,rfl,hN,hg,hLR⟩:=hs.uu hl hlp
 have hps:us.toArray.size=rr.params.size:=by
  have h1:=ha.length
  have h2:args.length=lp.params.length:=VN hc1
  have h3:=congrArg List.length hLR.params
  simp at h3⊢
  omega
 have hy:=run_yield (P:=P) hg hps
 refine ⟨_,_,_,_,hy,fun c cs=>?_⟩
 let b:Frame:={fn:=rr.fn,tmps:= #[],todo:=[],defers:=[],mode:=.run,kind:=.normal,roundOf:=some g}
 have hzip:(rr.params.zip us.toArray).foldl (fun tmps (p:Tmp×Value)=>tmps.setIfInBounds p.1 p.2) rr.tmps=(lp.params.zip us).foldl (fun tmps (p:Tmp×Value)=>tmps.setIfInBounds p.1 p.2) rr.tmps:=by
  rw [←Array.foldl_toList,Array.toList_zip,hLR.params]
 obtain ⟨ht,hn⟩:=uw lp.params args us lp.tm rr.tmps lp.n hLR.tmps hLR.size hc2 ha
 have hA:AR P μ (.mk (yt lp.params args lp.tm) lp.n [] none) {tmps:=(rr.params.zip us.toArray).foldl (fun tmps (p:Tmp×Value)=>tmps.setIfInBounds p.1 p.2) rr.tmps,defers:=[]}:=
  ⟨by rw [hzip];exact ht,by rw [hzip];exact hn,.nil⟩
 have hfr:YO g rr.fn ((rr.params.zip us.toArray).foldl (fun tmps (p:Tmp×Value)=>tmps.setIfInBounds p.1 p.2) rr.tmps) rr.assign rr.body .normal=
  b.atR {tmps:=(rr.params.zip us.toArray).foldl (fun tmps (p:Tmp×Value)=>tmps.setIfInBounds p.1 p.2) rr.tmps,defers:=[]} [.code rr.assign,.beginRound,.code rr.body]:=rfl
 obtain ⟨fo,fps,hat⟩:=hLR.code
 obtain rfl:assign=rr.assign:=VF (hassign.symm.trans (fe hat rfl))
 obtain rfl:body=rr.body:=VF (hbody.symm.trans (pz hat rfl))
 have h1:=hcode lp.f rr.assign (.o lp.p) (fe hat rfl) (some l) _ s q hq μ w b (.norm (c::cs)) .run [.beginRound,.code rr.body] _ hs hA (.norm _ _) rfl (.some l g hl) hLR.fn
 rw [←hfr] at h1
 cases q with
 |fin=>exact h1.elim
 | «at» x a₁ s₁=>
  cases x with
  |exit id=>cases h
  |ret=>cases h
  |panic ch=>cases h
  |normal=>
   obtain ⟨μ₁,w₁,ca₁,u₁,hg₁,ha₁,hX₁,hst₁⟩:=h1
   obtain ⟨lp₁,hlp₁,h⟩:=aa.1 (show ab (s₁.loop l) (fun lp₁=>au lp₁.ready (ab (jN P hkk lp.f rr.body (.i lp.p) (some l) r a₁ (s₁.put l (.loop (lp₁.with .busy lp₁.pending)))) (Aw l)) none)=some o from h)
   obtain ⟨hrd,h⟩:=aj.1 h
   obtain ⟨q₂,hq₂,h⟩:=aa.1 h
   have hl₁:=hg₁.ext.sub _ _ hl
   obtain ⟨hk₁,g',r₁,he,hN₁,hh₁,hLR₁⟩:=hg₁.sr.uu hl₁ hlp₁
   cases he
   have hG:=hg₁.sr.yS hl₁ hk₁ hN₁ hh₁ (hLR₁.with .busy lp₁.pending)
   have hbr:=run_beginRound (P:=P) hh₁ (by rw [hLR₁.state];exact Jf hrd)
   rw [show ({r₁ with state:=.busy}:Loop)={r₁ with state:=.busy,pending:=lp₁.pending} from by rw [←hLR₁.pending]] at hbr
   have hs2:=stepR_beginRound (b:=b) (a:=ca₁) (k:=[.code rr.body]) (cs:=c::cs) rfl hbr
   have hX₂:RR P μ₁ (.norm (c::cs)) a₁.rc .run:=by
    generalize a₁.rc=x at hX₁
    cases hX₁
    exact .norm _ _
   have h2:=hcode lp.f rr.body (.i lp.p) (pz hat rfl) (some l) a₁ _ q₂ hq₂ μ₁ _ b (.norm (c::cs)) .run [] ca₁ hG.sr ha₁ hX₂ rfl (.some l g hl₁) hLR.fn
   have hgo:=hg₁.trans hG
   have pre: ∀{m₁:Machine} {μ₂:bw} {σ₂:St} {w₂:World},bF P N μ₁ (s₁.put l (.loop (lp₁.with .busy lp₁.pending))) (w₁.putObj g (.loop {r₁ with state:=.busy,pending:=lp₁.pending})) μ₂ σ₂ w₂→
    Steps P (lone (b.atR ca₁ [.code rr.body]) (c::cs) (w₁.putObj g (.loop {r₁ with state:=.busy,pending:=lp₁.pending}))) m₁→Bg P N c cs m₁ μ₂ σ₂ w₂ o→
    Bg P N c cs (lone (YO g rr.fn ((rr.params.zip us.toArray).foldl (fun tmps (p:Tmp×Value)=>tmps.setIfInBounds p.1 p.2) rr.tmps) rr.assign rr.body .normal) (c::cs) w) μ s w o:=by
    intro m₁ μ₂ σ₂ w₂ hg₂ hst hb
    have hall:=YY hst₁ (.head hs2 hst)
    cases o with
    | «at» =>exact hb.elim
    |fin ee rc s'=>
     cases ee with
     |returned v=>obtain ⟨μ',w',V,q1,q2,q3⟩:=hb;exact ⟨μ',w',V,(hgo.trans hg₂).trans q1,q2,hall.trans q3⟩
     |panicked ch=>obtain ⟨μ',w',C,q1,q2,q3⟩:=hb;exact ⟨μ',w',C,(hgo.trans hg₂).trans q1,q2,hall.trans q3⟩
   cases q₂ with
   |fin=>exact h2.elim
   | «at» x a₂ s₂=>
    obtain ⟨μ₂,w₂,ca₂,u₂,hg₂,ha₂,hX₃,hst₂⟩:=h2
    have hl₂:=hg₂.ext.sub _ _ hl₁
    cases x with
    |normal=>
     obtain ⟨w',hrun,hb⟩:=iU hg₂.sr hl₂ (show gd l none s₂=some o from h)
     exact pre hg₂ hst₂ (hb c cs _ (.one (stepR_round_end rfl rfl hrun)))
    |ret=>
     obtain ⟨k1,hst₂⟩:=hst₂
     obtain ⟨w',hrun,hb⟩:=iU hg₂.sr hl₂ (show gd l (some .ret) s₂=some o from h)
     exact pre hg₂ hst₂ (hb c cs _ (.one (stepR_round_ret rfl rfl hrun)))
    |exit id=>
     obtain ⟨k1,hx,hst₂⟩:=hst₂
     obtain ⟨w',hrun,hb⟩:=iU hg₂.sr hl₂ (show gd l (some (.exit id)) s₂=some o from h)
     exact pre hg₂ hst₂ (hb c cs _ (.one (stepR_round_exit rfl rfl hx hrun)))
    |panic ch=>
     obtain ⟨k1,C,hc,hst₂⟩:=hst₂
     replace h: @List.rec kz (fun _=>Option Out) (some (.fin (.panicked ch) none s₂)) (fun _ _ _=>none) a₂.defers=some o:=h
     cases hda:a₂.defers with
     |cons d ds=>rw [hda] at h;cases h
     |nil=>
      rw [hda] at h
      cases h
      have hcd:ca₂.defers=[]:=by
       have:=ha₂.defers
       rw [hda] at this
       generalize ca₂.defers=x at this
       cases this
       rfl
      refine pre hg₂ hst₂ ⟨μ₂,w₂,C,hg₂.sr.stay,hc,.one (step_leave_panicked ⟨rfl,hcd,hLR.fn⟩)⟩
def NY (P:Program) (N:Nat):Prop:=∀r,gL P N r→∀id ops,dt P N r (pq P ops true) (.region id ops true)
def jW (P:Program) (orc:FuncId→List AV→St→Option fj):Prop:=∀f args s x,orc f args s=some x→(∃fn c,P.funcs[f]? =some fn∧fn.body=some c)∧
 ∀N μ w cs us,SR P N μ s w→b8 P μ args us→lK P N (.norm cs) f (lone (YN P f us.toArray .normal) cs w) μ s w (x.out s)
theorem Bn {rc:Option cE} {s:St} {els:Option Out} {o:Option fj} {r:Out} (h:CT rc s els o=some r):(∃x,o=some x∧rc=none∧r=x.out s)∨els=some r:=by
 cases o with
 |none=>exact .inr h
 |some x=>cases rc with
  |none=>exact .inl ⟨x,rfl,rfl,(VF h).symm⟩
  |some m=>exact .inr h
theorem GJ (hP:cB P) (hdraw:NY P N) {orc:NV} (ho:jW P orc.call) (hh:sE P N orc.loop): ∀n,gL P N (run P orc n):=by
 intro n
 induction n with
 |zero=>
  exact ⟨(fun _ _ _ _ _ _ _ h=>by cases h),(fun _ _ _ _ _ _ h=>by cases h),(fun _ _ _ _ _ h=>by cases h),(fun _ _ _ _ _ h=>by cases h)⟩
 |succ n ih=>
  have hcode:=fun f=>iT (f:=f) hP ih (hdraw _ ih) hh
  refine ⟨?_,?_,?_,?_⟩
  ·intro rd c f p a s o h hat μ w b X u k ca hs ha hX hk hrd hf m hm
   rcases nY (show rQ (ab (jN P orc.loop f c (.o p) rd (run P orc n) a s) (Ap (run P orc n (.loop rd c f p)))) (orc.loop f p rd a s)=some o from h) with h |h
   ·exact hh f p rd a s o h c hat μ w b X u k ca hs ha hX hk hrd hf m hm
   obtain ⟨o₁,h1,h2⟩:=aa.1 h
   have:=hcode f c (.o p) (fe hat rfl) rd a s o₁ h1 μ w b X u (.inLoop c::k) ca hs ha hX hk hrd hf
   exact (At.bind (k:=k) this (fun id=>rfl) h2 fun a' s' μ₁ w₁ u₁ ca₁ hg ha' hX' hK=>ih.loop rd c f p a' s' o hK hat μ₁ w₁ b X u₁ k ca₁ hg.sr ha' hX' hk (hrd.mono hg.ext.sub) hf _ stepR_inLoop).pre (.one hm) hs.stay
  ·intro f args rc a s o h
   rcases Bn (show CT rc s (Iy P orc.loop f args rc (run P orc n) s) (orc.call f args s)=some o from h) with ⟨x,hx,rfl,rfl⟩ |h
   ·obtain ⟨h1,h2⟩:=ho f args s x hx
    refine ⟨h1,fun μ w X u us hs ha hX=>?_⟩
    cases hX with
    |norm cs u=>exact h2 N μ w cs us hs ha
   ·exact Dr hP ih (hdraw _ ih) hh h
  ·intro fn m a s o h μ w X u fr hs ht hd hX hk hf hm
   exact Bl hP ih (show yC P fn m (run P orc n) a s=some o from h) hs ht hd hX hk hf hm
  ·intro l args a s o h μ w us e hs ha hl
   exact Bm ih hcode (show CS P orc.loop l args (run P orc n) s=some o from h) hs ha hl
end
end
end Go.Proofs.Sai
