/- Part IC of the proof of VerifyClosed: texts of the interpreter and what it shows, under short names. No condition. -/
import Derived.Test.YtgfhbomiljhjpaaGreatDoorIB
import Derived.Laws.RangeString
import Derived.MapKept
import Derived.Maps.AppendAt
set_option linter.unusedVariables false
set_option linter.unusedSimpArgs false
set_option linter.unusedSectionVars false
open Array renaming getElem?_toList→U8,getElem?_eq_getElem→UG,getElem?_setIfInBounds_ne→Ux,toList_modify→Wk,eraseIdxIfInBounds→Wt,getD_eq_getD_getElem?→Uw
open Bool renaming and_eq_true→Uj,false_eq_true→VV,or_eq_true→Vg,true_and→VZ,eq_iff_iff→T8,or_eq_false_iff→Wg
open ForInStep renaming yield→V9
open Go.Builtin renaming delete_→Wn,append_→Ww,lenOf→Wx,firstCells→Wy,zeroCells→Wz
open Go.ByteArray renaming toList_eq→Va
open Go.Instr renaming makeSlice→VJ,sliceBound→VM,sliceBounds→VP,sliceAt→VQ,slice→VS,sameBits→VY,sameNow→V0,findAsking→V1,findNow→V2,findKey→V3,checkKey→V7,lookup→Wb,mapUpdate→Wi,keyThatStays→Wl,range→Wu,next→Wv
open Go.MapKept renaming run_getObj_map→Wc,run_setObj_map→Wj
open Go.Op renaming equalIn→Vb
open Go.Result renaming andThen_ok→Uv
open Go.Sem renaming run_bind→Uu,run_pure→U2,run→Wa
open Go.World renaming grownBy_alloc→UF
open Int renaming ofNat→TP,natCast_nonneg→U9,natCast_mul→U4,le_trans→VL,ofNat_eq_natCast→T9,toNat_natCast→UM,eq_ofNat_of_zero_le→UL
open List renaming getElem?_append_left→T3,getElem?_append_right→T5,replicate→UQ,flatten_cons→Un,map_cons→Uc,mem_cons_self→Uk,mem_cons_of_mem→Ul,map_nil→Ud,mem_of_mem_take→VX,length_take→Ur,getElem?_take→T4,getElem?_eq_getElem→UB,not_mem_nil→Ub,mem_append_right→V4,mem_append_left→V5,eraseIdx_append_of_length_le→V6,any_cons→Wd,head?→We,any_append→Wh,getElem?_toArray→Wo,getElem?_cons_zero→Wq,getElem?_cons_succ→Wr,length→Ws,append_assoc→UW
open List.cons renaming injEq→Wf
open Nat renaming succ_mul→Uo,mod_eq_of_lt→VH,eq_zero_or_pos→VI,le_of_ble_eq_true→Ua,eq_of_beq_eq_true→T7,mul_comm→VK,beq→TJ,mul_le_mul_right→UN,le_trans→Ui,le_refl→Uh,zero_le→VT,sub_zero→VW,min_eq_left→Us,mul→TW,add→TS
open Option renaming map_some→VN,rec→TH,isSome_none→VU,getD_some→Wm
open Option.some renaming injEq→VO
open PUnit renaming unit→V8
namespace Go.Proofs.Sai
section
open Go Go.RowKit
variable [Env]
section
variable {P:Program} {N:Nat} {μ:bu} {σ:St} {w:World} {a:aV} {ca:Act}
theorem lj (z:List AV): ∀c,(rW z c).length=c*z.length
 |0=>by simp [rW]
 |c+1=>by simp [rW,lj z c,Uo,Nat.add_comm]
theorem zA (z:List AV): ∀(c i:Nat),i<c*z.length→(rW z c)[i]? =z[i % z.length]?
 |0,i,h=>by simp at h
 |c+1,i,h=>by
  unfold rW
  rw [Uo] at h
  by_cases hi:i<z.length
  ·rw [T3 hi,VH hi]
  ·rw [T5 (by omega),zA z c _ (by omega),←Nat.mod_eq_sub_mod (by omega)]
theorem pC {z:List AV} (h:cd z=true): ∀c,cd (rW z c)=true
 |0=>rfl
 |c+1=>eU h (pC h c)
theorem vF {z:List AV} {Z:Array Value} (h:bZ P μ z Z.toList) (c:Nat):bZ P μ (rW z c) (madeCells Z (c*Z.size)).toList:=by
 have hl:z.length=Z.size:=by simpa using h.length
 refine bZ.i7 (by rw [lj,hl];simp [size_madeCells]) fun i v u hv hu=>?_
 have hi:i<c*z.length:=by
  rw [←lj]
  exact (List.getElem?_eq_some_iff.1 hv).1
 have hz:0<z.length:=by
  rcases VI z.length with h0 |h0
  ·rw [h0] at hi;simp at hi
  ·exact h0
 rw [zA z c i hi] at hv
 obtain ⟨u',hu',hr⟩:=h.get hv
 have hm:i % Z.size<Z.size:=Nat.mod_lt _ (by omega)
 have:(madeCells Z (c*Z.size)).toList[i]? =some (Z[i % Z.size]'hm):=by
  simp [madeCells,←hl,hi,List.getElem?_range]
  rw [getElem!_pos Z _ (by rw [hl];exact hm)]
 rw [this] at hu
 cases hu
 rw [hl,U8,UG hm] at hu'
 cases hu'
 exact hr
theorem jv {v:AV} {n:Nat} (h:ph v=some n):v= .int .i64 (TP n):=by
 cases v with
 |int k m=>cases k<;>first |(cases h;done) |(cases m<;>first |(cases h;rfl) |(cases h;done))
 |_=>cases h
noncomputable def zB (t:TypeId) (l c:Operand):Dn:=fun P a s=>ai (a.eval P l) fun l=>ai (a.eval P c) fun c=>ai (ph l) fun l=>ai (ph c) fun c=>ia P t l c s
theorem uS {t:TypeId} {x y:Operand} {r:aW} (h:SR P N μ σ w) (ha:AR P μ a ca) (hr:zB t x y P a σ=some r):
 NR P N μ σ w r ((do pure (.value (←VJ t (ca.eval x) (ca.eval y))):Sem Next).run P w):=by
 obtain ⟨l,hl,hr1⟩:=aa.1 hr
 obtain ⟨c,hc,hr2⟩:=aa.1 hr1
 obtain ⟨ln,hln,hr3⟩:=aa.1 hr2
 obtain ⟨cn,hcn,hr4⟩:=aa.1 hr3
 obtain ⟨e,he,hr5⟩:=aa.1 hr4
 obtain ⟨by_,hby,hr6⟩:=aa.1 hr5
 obtain ⟨sz,hsz,hr7⟩:=aa.1 hr6
 obtain ⟨z,hz,hr8⟩:=aa.1 hr7
 obtain ⟨hb,hr9⟩:=aA.1 hr8
 simp only [Uj] at hb
 obtain ⟨⟨⟨⟨b1,b2⟩,b3⟩,b4⟩,b5⟩:=hb
 cases hr9
 clear hr hr1 hr2 hr3 hr4 hr5 hr6 hr7 hr8
 have hlv:=ha.eval h hl
 have hcv:=ha.eval h hc
 obtain rfl:=jv hln
 obtain rfl:=jv hcn
 generalize ca.eval x=X at*
 generalize ca.eval y=Y at*
 cases hlv
 cases hcv
 have b1:ln≤cn:=Ua b1
 have b2:cn*by_≤140737488355328:=Ua b2
 have b3:cn≤1000000:=Ua b3
 have b5:z.cells.length=sz:=T7 b5
 obtain ⟨zv,_,hzv,i,hi,hzz⟩:=cL (μ:=μ) hz w
 have he:=cB he
 obtain ⟨i',hi',rfl⟩:=eV hby
 rw [hi] at hi'
 cases hi'
 have hsi:i.size=sz:=by unfold bD at hsz;rw [hi] at hsz;cases hsz;rfl
 have hzc:=hzv.cells (bR b4)
 have hzs:zv.cells.size=sz:=by rw [←b5];simpa using hzc.length.symm
 have hrun:=run_make (P:=P) w t e i zv he hi hzz .i64 .i64 (TP ln) (TP cn) (U9 _) (Int.ofNat_le.2 b1)
  (by rw [VK] at b2
      have hq:((i.bytes*cn:Nat):Int)≤((140737488355328:Nat):Int):=Int.ofNat_le.2 b2
      rw [U4] at hq
      exact VL hq (by decide)) (by show ((cn:Nat):Int)≤_;omega)
 simp only [T9,UM] at hrun
 rw [hsi,←hzs] at hrun
 have hg:=h.row e (vF hzc cn) (pC b4 cn)
 refine hg.val hrun ?_
 have:=VR.slice (P:=P) (μ:=dr μ σ.n ⟨⟨w.heap.size,0,none⟩,some ((madeCells zv.cells (cn*zv.cells.size)).size,e)⟩) σ.n 0 ln (TJ ln cn) true _ _ cn (dK _ _ _) (.inl rfl) b1 (by simp only [maxLen];omega)
  (fun h=>(T7 h).symm) (fun _ _ sz' t' h'=>by cases h';rw [cp hsz,size_madeCells,hzs])
 simpa [add_nil] using this
theorem uT {Z:Array Value} {n i j:Nat} (hi:i<n) (hj:j<Z.size):(madeCells Z (n*Z.size))[i*Z.size+j]? =some (Z[j]'hj):=by
 have hlt:i*Z.size+j<n*Z.size:=by
  calc i*Z.size+j<i*Z.size+Z.size:=by omega
   _=(i+1)*Z.size:=by rw [Uo]
   _≤n*Z.size:=UN _ hi
 have hm:(i*Z.size+j) % Z.size=j:=by rw [VK,Nat.mul_add_mod,VH hj]
 have e:(madeCells Z (n*Z.size))[i*Z.size+j]? =some (Z[(i*Z.size+j) % Z.size]!):=by
  simp [madeCells,hlt]
 rw [e,hm,getElem!_pos Z j hj]
theorem zC {z:Nat} {r:List D} (hr:r.length=z): ∀(n j:Nat) (d:D),(UQ n r).flatten[j]? =some d→∃i k,i<n∧k<z∧j=i*z+k∧r[k]? =some d
 |0,j,d,h=>by simp at h
 |n+1,j,d,h=>by
  rw [List.replicate_succ,Un] at h
  by_cases hj:j<z
  ·rw [T3 (by omega)] at h
   exact ⟨0,j,by omega,hj,by omega,h⟩
  ·rw [T5 (by omega),hr] at h
   obtain ⟨i,k,h1,h2,h3,h4⟩:=zC hr n _ d h
   exact ⟨i+1,k,by omega,h2,by rw [Uo];omega,h4⟩
theorem sH {t:TypeId} {n m:Tm} {v:Int} {r:aW} (w:World) (hn:ev n= .int .i64 v) (hr:gH P t σ n m=some r):
 ∃(e c:Nat) (ts:List Ty) (x:Tm) (l:List (List D)) (us:Array Value),n=m∧v=TP c∧r= .val (.vl ts n σ.n) (σ.push (.vec true e ts n x))∧(∀w:World,(VJ t (.int .i64 (TP c)) (.int .i64 (TP c))).run P w= .ok (.slice (some ⟨w.heap.size,0,none⟩) c c) (w.alloc (.cells us e)))∧
  ev x= .aY l∧ev n= .int .i64 (TP l.length)∧bA (.aY ts) (.aY l)∧l.flatten.length≤us.size∧(∀(j:Nat) (d:D),l.flatten[j]? =some d→∃u,us[j]? =some u∧dM μ.fz d u)∧us.size=c*ts.length∧c≤maxLen:=by
 obtain ⟨e,he,hr1⟩:=aa.1 hr
 obtain ⟨by_,hby,hr2⟩:=aa.1 hr1
 obtain ⟨sz,hsz,hr3⟩:=aa.1 hr2
 obtain ⟨z,hz,hr4⟩:=aa.1 hr3
 obtain ⟨ts,hts,hr5⟩:=aa.1 hr4
 obtain ⟨y,hy,hr6⟩:=aa.1 hr5
 obtain ⟨hb,hr7⟩:=aA.1 hr6
 clear hr hr1 hr2 hr3 hr4 hr5 hr6
 simp only [Uj] at hb
 obtain ⟨⟨⟨⟨⟨⟨b1,b2⟩,b3⟩,b4⟩,b5⟩,b6⟩,b7⟩:=hb
 obtain rfl:=cP b1
 have b6:z.cells.length=sz:=T7 b6
 have b7:sz=ts.length:=T7 b7
 have b4:100000000*by_≤140737488355328:=Ua b4
 have hv0:=iP b2 hn
 have hv1:=eB b3 hn (show ev gZ= .int .i64 100000000 from rfl)
 obtain ⟨c,rfl⟩:=UL hv0
 have hc:c≤100000000:=by omega
 have hrest:y.2=[]∧r= .val (.vl ts n σ.n) (σ.push (.vec true e ts n (.op .rep (n::y.1)))):=by
  cases h2:y.2 with
  |nil=>rw [h2] at hr7;cases hr7;exact ⟨rfl,rfl⟩
  |cons _ _=>rw [h2] at hr7;cases hr7
 obtain ⟨hy2,rfl⟩:=hrest
 obtain ⟨zv,_,hzv,i,hi,hzz⟩:=cL (μ:=μ) hz w
 have he:=cB he
 obtain ⟨i',hi',rfl⟩:=eV hby
 rw [hi] at hi'
 cases hi'
 have hsi:i.size=sz:=by unfold bD at hsz;rw [hi] at hsz;cases hsz;rfl
 have hzc:=hzv.cells (bR b5)
 have hzs:zv.cells.size=sz:=by rw [←b6];simpa using hzc.length.symm
 have hcb:c*i.bytes≤140737488355328:=Ui (UN _ hc) b4
 have hrun: ∀w:World,(VJ t (.int .i64 (TP c)) (.int .i64 (TP c))).run P w= .ok (.slice (some ⟨w.heap.size,0,none⟩) c c) (w.alloc (.cells (madeCells zv.cells (c*zv.cells.size)) e)):=fun w=>by
  have hrun:=run_make (P:=P) w t e i zv he hi hzz .i64 .i64 (TP c) (TP c) (U9 _) (Int.le_refl _)
   (by rw [VK] at hcb
       have hq:((i.bytes*c:Nat):Int)≤((140737488355328:Nat):Int):=Int.ofNat_le.2 hcb
       rw [U4] at hq
       exact VL hq (by decide)) (by show ((c:Nat):Int)≤_;omega)
  simp only [T9,UM] at hrun
  rw [hsi,←hzs] at hrun
  exact hrun
 obtain ⟨g1,us',g2,g3,g4,g5⟩:=js hzc hy
 have hyl:(y.1.map ev).length=zv.cells.size:=by rw [bT g1,hzs,b7]
 have hev:ev (.op .rep (n::y.1))= .aY (UQ c (y.1.map ev)):=by
  rw [bN]
  simp only [Uc,hn]
  show D.aY (UQ (c:Int).toNat _)=_
  rw [UM]
 refine ⟨e,c,ts,_,_,_,rfl,rfl,rfl,hrun,hev,by rw [hn];simp,⟨_,rfl,fun r hr=>by rw [(List.mem_replicate.1 hr).2];exact g1⟩,?_,?_,by rw [size_madeCells,hzs,b7],by simp only [maxLen];omega⟩
 ·rw [jr (z:=zv.cells.size) (fun r hr=>by rw [(List.mem_replicate.1 hr).2];exact hyl)];simp [size_madeCells]
 ·intro j d hj
  obtain ⟨i,k,h1,h2,rfl,h4⟩:=zC hyl c j d hj
  obtain ⟨u,q1,q2⟩:=g5 k d h4
  refine ⟨u,?_,q2⟩
  rw [uT h1 h2]
  rw [U8,UG h2] at q1
  exact q1
theorem zD {t:TypeId} {n m:Tm} {X Y:Value} {v:Int} {r:aW} (h:SR P N μ σ w) (hn:ev n= .int .i64 v) (hX:X= .int .i64 v) (hY: ∀v',ev m= .int .i64 v'→Y= .int .i64 v') (hr:gH P t σ n m=some r):
 NR P N μ σ w r ((do pure (.value (←VJ t X Y)):Sem Next).run P w):=by
 obtain ⟨e,c,ts,x,l,us,rfl,rfl,rfl,hrun,f1,f2,f3,f4,f5,f6,f7⟩:=sH (μ:=μ) w hn hr
 obtain rfl:=hY _ hn
 subst hX
 have hg:=h.g9 (w':=w.alloc (.cells us e)) (us:=us) (t:=e) rfl rfl rfl rfl f1 f2 f3 f4 f5
 refine hg.val (hrun w) ?_
 exact .vl ts n σ.n _ _ (dK _ _ _) (.inr ⟨c,c,rfl,rfl,hn,Uh _,f7,fun sz' t' h'=>by cases h';exact f6⟩)
theorem xn {t:TypeId} {x y:Operand} {r:aW} (h:SR P N μ σ w) (ha:AR P μ a ca) (hr:ib t x y P a σ=some r):
 NR P N μ σ w r ((do pure (.value (←VJ t (ca.eval x) (ca.eval y))):Sem Next).run P w):=by
 obtain ⟨l,hl,hr1⟩:=aa.1 hr
 obtain ⟨c,hc,hr2⟩:=aa.1 hr1
 replace hr2:k7 P t σ l c=some r:=hr2
 unfold k7 at hr2
 split at hr2
 ·rename_i n
  have hlv:=ha.eval h hl
  have hcv:=ha.eval h hc
  obtain ⟨m,hm,hr3⟩:=aa.1 hr2
  clear hl hc hr hr1 hr2
  generalize ca.eval x=X at*
  generalize ca.eval y=Y at*
  cases hlv with
  |tm _ _ _ h1 h2=>
   obtain ⟨v,h1⟩:=h1
   rw [h1] at h2
   cases h2
   refine zD h h1 rfl (fun v' hv'=>?_) hr3
   unfold mN at hm
   split at hm
   ·cases hm;cases hcv;cases hv';rfl
   ·cases hm
    cases hcv with
    |tm _ _ _ g1 g2=>rw [show ev m= .int .i64 v' from hv'] at g2;cases g2;rfl
   ·cases hm
 ·rename_i hne
  exact uS h ha (by show ai (a.eval P x) _=_;rw [hl];show ai (a.eval P y) _=_;rw [hc];exact hr2)
theorem dZ {n:Nat} {y:Nat} {code:BoundsCode} (h:n≤y):(VM (.int .i64 (n:Int)) y code).run P w= .ok n w:=by
 have:(0:Int)≤(n:Int)∧(n:Int)≤(y:Int):=by omega
 simp only [VM,asIntOf,Uu,U2,Uv,T9,if_pos this,UM]
theorem dz {d n:Nat} {v:Option AV} {x:Option Operand} (hn:mB d v=some n) (hv:(v=none∧x=none)∨∃u y,v=some u∧x=some y∧VR P μ u (ca.eval y)):
 (v=none∧x.map ca.eval=none∧n=d)∨(v.isSome=true∧x.map ca.eval=some (.int .i64 (TP n))):=by
 rcases hv with ⟨rfl,rfl⟩ |⟨u,y,rfl,rfl,hu⟩
 ·cases hn;exact .inl ⟨rfl,rfl,rfl⟩
 ·obtain rfl:=jv (show ph u=some n from hn)
  refine .inr ⟨rfl,?_⟩
  simp only [VN,VO]
  generalize ca.eval y=Y at*
  cases hu
  rfl
theorem de {isS:Bool} {len cap lo hi:Nat} {low high max:Option Value} (hlo:(low=none∧lo=0)∨low=some (.int .i64 (TP lo))) (hhi:(high=none∧max=none∧hi=len)∨high=some (.int .i64 (TP hi)))
 (hmx:max=none∨max=some (.int .i64 (TP hi))) (h1:lo≤hi) (h2:hi≤cap):
 (VP isS len cap low high max).run P w= .ok (lo,hi,if max.isSome then hi else cap) w:=by
 rcases hmx with rfl |rfl
 ·rcases hhi with ⟨rfl,_,rfl⟩ |rfl
  ·rcases hlo with ⟨rfl,rfl⟩ |rfl
   ·simp [VP]
   ·simp [VP,dZ h1]
  ·rcases hlo with ⟨rfl,rfl⟩ |rfl
   ·simp [VP,dZ h2]
   ·simp [VP,dZ h2,dZ h1]
 ·rcases hhi with ⟨_,h,_⟩ |rfl
  ·cases h
  ·rcases hlo with ⟨rfl,rfl⟩ |rfl
   ·simp [VP,dZ h2,dZ (Uh hi)]
   ·simp [VP,dZ h2,dZ (Uh hi),dZ h1]
theorem vG {o lo hi c z:Nat} {en:eQ} {ad:Addr} (had:ad=en.a.add o∨(c=0∧o≠0)) (m:Nat) (hm:m≤c) (h1:lo≤hi) (h2:hi≤m):
 (if m=lo then some ad else (some ad).map (·.add (lo*z)))=some (if m=lo then ad else ad.add (lo*z))∧
 ((if m=lo then ad else ad.add (lo*z))=en.a.add (o+lo*z)∨(m - lo=0∧o+lo*z≠0)):=by
 refine ⟨by split<;>rfl,?_⟩
 by_cases he:m=lo
 ·rw [if_pos he]
  by_cases hz:o+lo*z=0
  ·left
   have h0:o=0:=by omega
   rcases had with had |⟨_,h⟩
   ·rw [had,h0,show 0+lo*z=0 from by omega]
   ·exact absurd h0 h
  ·exact .inr ⟨by omega,hz⟩
 ·rw [if_neg he]
  rcases had with had |⟨hc,h⟩
  ·left;rw [had,add_add]
  ·omega
theorem eI {d q:Tm} {v:Option AV} {x:Option Operand} (hn:yJ d v=some q) (hv:(v=none∧x=none)∨∃u y,v=some u∧x=some y∧VR P μ u (ca.eval y)):
 (v=none∧x.map ca.eval=none∧q=d)∨∃n:Int,v.isSome=true∧ev q= .int .i64 n∧x.map ca.eval=some (.int .i64 n):=by
 rcases hv with ⟨rfl,rfl⟩ |⟨u,y,rfl,rfl,hu⟩
 ·cases hn;exact .inl ⟨rfl,rfl,rfl⟩
 ·replace hn:mN u=some q:=hn
  refine .inr ?_
  simp only [VN,VO]
  generalize ca.eval y=Y at*
  unfold mN at hn
  split at hn
  ·cases hn;cases hu;exact ⟨_,rfl,rfl,rfl⟩
  ·cases hn
   cases hu with
   |tm _ _ _ h1 h2=>
    obtain ⟨n,h1⟩:=h1
    rw [h1] at h2
    cases h2
    exact ⟨n,rfl,h1,rfl⟩
  ·cases hn
theorem sI {q:Tm} {n:Int} {v:Option AV} {x:Option Operand} (hn:yK q v=true) (hq:ev q= .int .i64 n) (hv:(v=none∧x=none)∨∃u y,v=some u∧x=some y∧VR P μ u (ca.eval y)):
 (v=none∧x.map ca.eval=none)∨(v.isSome=true∧x.map ca.eval=some (.int .i64 n)):=by
 rcases hv with ⟨rfl,rfl⟩ |⟨u,y,rfl,rfl,hu⟩
 ·exact .inl ⟨rfl,rfl⟩
 ·replace hn: @TH Tm (fun _=>Bool) false (fun t=>cK t q) (mN u)=true:=hn
  cases hi:mN u with
  |none=>rw [hi] at hn;cases hn
  |some t=>
   rw [hi] at hn
   have:=cP (show cK t q=true from hn)
   subst this
   rcases eI (d:=t) (v:=some u) (x:=some y) (P:=P) (μ:=μ) (ca:=ca) hi (.inr ⟨u,y,rfl,rfl,hu⟩) with ⟨h,_⟩ |⟨m,h1,h2,h3⟩
   ·cases h
   ·rw [hq] at h2
    cases h2
    exact .inr ⟨rfl,h3⟩
theorem EO {l:List (List D)} {z:Nat} (hz: ∀r∈l,r.length=z): ∀k,(l.drop k).flatten=l.flatten.drop (k*z):=by
 induction l with
 |nil=>intro k;simp
 |cons r l ih=>
  intro k
  cases k with
  |zero=>simp
  |succ k=>
   have hr:=hz r (Uk ..)
   rw [List.drop_succ_cons,ih (fun r hr=>hz r (Ul _ hr)),Un,show (k+1)*z=r.length+k*z by rw [hr,Uo];omega,←List.drop_drop,List.drop_left]
theorem vH {l:List (List D)} {z:Nat} (hz: ∀r∈l,r.length=z): ∀k,(l.take k).flatten=l.flatten.take (k*z):=by
 induction l with
 |nil=>intro k;simp
 |cons r l ih=>
  intro k
  cases k with
  |zero=>simp
  |succ k=>
   have hr:=hz r (Uk ..)
   rw [List.take_succ_cons,Un,ih (fun r hr=>hz r (Ul _ hr)),Un,show (k+1)*z=r.length+k*z by rw [hr,Uo];omega,List.take_length_add_append]
theorem BN {x:Tm} (h:Nn x=true):x= .int .i64 0:=by
 unfold Nn at h
 split at h
 ·rfl
 ·cases h
theorem BO {t:TypeId} {ts:List Ty} {n:Tm} {b:Pos} {X:Value} {lo hi mx:Option Operand} {vlo vhi vmx:Option AV} {r:aW} (h:SR P N μ σ w) (hx:VR P μ (.vl ts n b) X)
 (qlo:(vlo=none∧lo=none)∨∃u y,vlo=some u∧lo=some y∧VR P μ u (ca.eval y)) (qhi:(vhi=none∧hi=none)∨∃u y,vhi=some u∧hi=some y∧VR P μ u (ca.eval y)) (qmx:(vmx=none∧mx=none)∨∃u y,vmx=some u∧mx=some y∧VR P μ u (ca.eval y))
 (hr:Dc P t ts n b vlo vhi vmx σ=some r):NR P N μ σ w r ((do pure (.value (←VQ t X (lo.map ca.eval) (hi.map ca.eval) (mx.map ca.eval))):Sem Next).run P w):=by
 obtain ⟨e,he,hr1⟩:=aa.1 hr
 obtain ⟨z,hz,hr2⟩:=aa.1 hr1
 obtain ⟨l,hl,hr3⟩:=aa.1 hr2
 obtain ⟨g,hg,hr4⟩:=aa.1 hr3
 obtain ⟨hb,hr5⟩:=aA.1 hr4
 cases hr5
 clear hr hr1 hr2 hr3 hr4
 simp only [Uj] at hb
 obtain ⟨⟨⟨⟨b1,b2⟩,b3⟩,b4⟩,b5⟩:=hb
 have b1:z=ts.length:=T7 b1
 obtain rfl:=BN b3
 have hu:=cB he
 have ev0:ev (.int .i64 0)= .int .i64 0:=rfl
 have qlo':(lo.map ca.eval=none∧0=0)∨lo.map ca.eval=some (.int .i64 (TP 0)):=by
  rcases eI hl qlo with ⟨_,q2,_⟩ |⟨n,_,q2,q3⟩
  ·exact .inl ⟨q2,rfl⟩
  ·rw [ev0] at q2;cases q2;exact .inr q3
 have hmx:mx.map ca.eval=none:=by
  rcases qmx with ⟨_,rfl⟩ |⟨_,_,rfl,_,_⟩
  ·rfl
  ·cases b2
 cases hx with
 |vl _ _ _ _ en hen hq=>
  have key: ∀(m:Nat),ev n= .int .i64 (TP m)→∃k:Nat,k≤m∧ev g= .int .i64 (TP k)∧((hi.map ca.eval=none∧mx.map ca.eval=none∧k=m)∨hi.map ca.eval=some (.int .i64 (TP k))):=by
   intro m hm
   rcases eI hg qhi with ⟨_,q2,rfl⟩ |⟨v,_,q2,q3⟩
   ·exact ⟨m,Uh _,hm,.inl ⟨q2,hmx,rfl⟩⟩
   ·have h0:=iP b4 q2
    obtain ⟨k,rfl⟩:=UL h0
    have h1:=eB b5 q2 hm
    exact ⟨k,by have:(TP m:Int)=(m:Int):=rfl;omega,q2,.inr q3⟩
  rcases hq with ⟨hX,q2,q3⟩ |⟨m,c,rfl,q2,q3,q4,q5,q6⟩
  ·obtain ⟨k,k1,k2,k3⟩:=key 0 q3
   obtain rfl:k=0:=by omega
   have hbr:=de (P:=P) (w:=w) (isS:=true) (len:=0) (cap:=0) qlo' k3 (.inl hmx) (Uh 0) (Uh 0)
   rcases hX with rfl |⟨ad,rfl⟩
   ·refine NR.value h (u:=.slice none 0 0) ?_ (.vl ts g b _ en hen (.inl ⟨.inl rfl,q2,k2⟩))
    rw [hmx] at hbr⊢
    simp [VQ,VS,run_underlying hu,hbr,bq hz]
   ·refine NR.value h (u:=.slice (some ad) 0 0) ?_ (.vl ts g b _ en hen (.inl ⟨.inr ⟨ad,rfl⟩,q2,k2⟩))
    rw [hmx] at hbr⊢
    simp [VQ,VS,run_underlying hu,hbr,bq hz]
  ·obtain ⟨k,k1,k2,k3⟩:=key m q3
   have hbr:=de (P:=P) (w:=w) (isS:=true) (len:=m) (cap:=c) qlo' k3 (.inl hmx) (VT k) (by omega)
   refine NR.value h (u:=.slice (some en.a) k c) ?_ (.vl ts g b _ en hen (.inr ⟨k,c,rfl,q2,k2,by omega,q5,q6⟩))
   rw [hmx] at hbr⊢
   simp only [VU,VV,if_false] at hbr
   simp only [VQ,VS,run_underlying hu,hbr,bq hz,Uu,U2,Uv,VW,Nat.zero_mul]
   split<;>simp [add_nil]
theorem zE {t:TypeId} {v:AV} {X:Value} {lo hi mx:Option Operand} {vlo vhi vmx:Option AV} {r:aW} (h:SR P N μ σ w) (hx:VR P μ v X)
 (qlo:(vlo=none∧lo=none)∨∃u y,vlo=some u∧lo=some y∧VR P μ u (ca.eval y)) (qhi:(vhi=none∧hi=none)∨∃u y,vhi=some u∧hi=some y∧VR P μ u (ca.eval y)) (qmx:(vmx=none∧mx=none)∨∃u y,vmx=some u∧mx=some y∧VR P μ u (ca.eval y))
 (hr:jj P t v vlo vhi vmx σ=some r):NR P N μ σ w r ((do pure (.value (←VQ t X (lo.map ca.eval) (hi.map ca.eval) (mx.map ca.eval))):Sem Next).run P w):=by
 unfold jj at hr
 cases v<;>first |(cases hr;done) |skip
 rename_i ty x
 cases ty<;>first |(cases hr;done) |skip
 rename_i ts
 obtain ⟨e,he,hr⟩:=aa.1 hr
 obtain ⟨z,hz,hr⟩:=aa.1 hr
 obtain ⟨l,hl,hr⟩:=aa.1 hr
 obtain ⟨g,hg,hr⟩:=aa.1 hr
 obtain ⟨hb,hr⟩:=aA.1 hr
 have hu:P.underlying t=some (.slice e):=by
  unfold dt at he
  split at he
  ·rename_i e' hu;cases he;exact hu
  ·cases he
 cases he0:(vmx.isSome&&Nn l&&Nn g&&yK g vmx&&C8 x) with
 |true=>
  rw [he0] at hr
  cases hr
  simp only [Uj] at he0
  obtain ⟨⟨⟨⟨e1,e2⟩,e3⟩,e4⟩,e5⟩:=he0
  obtain rfl:=BN e2
  obtain rfl:=BN e3
  have ev0:ev (.int .i64 0)= .int .i64 0:=rfl
  cases hx with
  |tm _ _ _ h1 h2=>
   obtain ⟨L,hL,hrows⟩:=h1
   have hne:=zf e5 hL
   rw [hL] at h2
   cases h2 with
   |nil=>exact absurd rfl hne
   |aY _ ad c u hn hm hf hd=>
    have qlo':(lo.map ca.eval=none∧0=0)∨lo.map ca.eval=some (.int .i64 (TP 0)):=by
     rcases eI hl qlo with ⟨_,q2,_⟩ |⟨n,_,q2,q3⟩
     ·exact .inl ⟨q2,rfl⟩
     ·rw [ev0] at q2;cases q2;exact .inr q3
    have qhi':(hi.map ca.eval=none∧mx.map ca.eval=none∧0=L.length)∨hi.map ca.eval=some (.int .i64 (TP 0)):=by
     rcases eI hg qhi with ⟨_,_,q3⟩ |⟨n,_,q2,q3⟩
     ·cases q3
     ·rw [ev0] at q2;cases q2;exact .inr q3
    have qmx':mx.map ca.eval=some (.int .i64 (TP 0)):=by
     rcases sI e4 ev0 qmx with ⟨h,_⟩ |⟨_,h⟩
     ·rw [h] at e1;cases e1
     ·exact h
    have hbr:=de (P:=P) (w:=w) (isS:=true) (len:=L.length) (cap:=c) qlo' qhi' (.inr qmx') (Uh 0) (VT c)
    refine NR.value h (u:=.slice (some ad) 0 0) ?_ (.e0 true ad 0 (fun _=>rfl) (VT _))
    rw [qmx'] at hbr⊢
    simp only [VQ,VS,run_underlying hu,hbr,bq hz,Uu,U2,Uv]
    rfl
 |false=>
 rw [he0] at hr
 obtain ⟨hc,hr⟩:=aA.1 (show aQ (kP l&&et l g&&(vhi.isNone||et g (.op .len [x]))&&yK g vmx) (some (aW.val (.tm (.aY ts) (.op .sub [x,l,g])) σ)) none=some r from hr)
 cases hr
 simp only [Uj,Vg] at hb hc
 obtain ⟨hzt,hhm⟩:=hb
 obtain ⟨⟨⟨hc1,hc2⟩,hc3⟩,hc4⟩:=hc
 have hzt:=T7 hzt
 cases hx with
 |tm _ _ _ h1 h2=>
  obtain ⟨L,hL,hrows⟩:=h1
  have hlen: ∀r∈L,r.length=z:=fun r hr=>by rw [hzt];exact bT (hrows r hr)
  have hevlen:ev (.op .len [x])= .int .i64 (L.length:Int):=by rw [bN];simp only [Uc,Ud,hL];rfl
  have hle: ∃a:Int,ev l= .int .i64 a∧((lo.map ca.eval=none∧a=0)∨lo.map ca.eval=some (.int .i64 a)):=by
   rcases eI hl qlo with ⟨_,q2,rfl⟩ |⟨n,_,q2,q3⟩
   ·exact ⟨0,rfl,.inl ⟨q2,rfl⟩⟩
   ·exact ⟨n,q2,.inr q3⟩
  obtain ⟨a,ha,hlo⟩:=hle
  have hge: ∃b:Int,ev g= .int .i64 b∧b≤L.length∧((vhi=none∧hi.map ca.eval=none∧b=L.length)∨hi.map ca.eval=some (.int .i64 b)):=by
   rcases eI hg qhi with ⟨q1,q2,rfl⟩ |⟨n,q1,q2,q3⟩
   ·exact ⟨_,hevlen,Int.le_refl _,.inl ⟨q1,q2,rfl⟩⟩
   ·refine ⟨n,q2,?_,.inr q3⟩
    rcases hc3 with h |h
    ·cases vhi with
     |none=>cases q1
     |some _=>cases h
    ·exact eB h q2 hevlen
  obtain ⟨b,hb',hbl,hhi⟩:=hge
  have ha0:=iP hc1 ha
  have hab:=eB hc2 ha hb'
  have hmx:=sI hc4 hb' qmx
  obtain ⟨la,rfl⟩:=UL ha0
  obtain ⟨lb,rfl⟩:=UL (VL ha0 hab)
  have h3:la≤lb:=by omega
  have h4:lb≤L.length:=by omega
  have qlo':(lo.map ca.eval=none∧la=0)∨lo.map ca.eval=some (.int .i64 (TP la)):=by
   rcases hlo with ⟨q1,q2⟩ |q
   ·exact .inl ⟨q1,by omega⟩
   ·exact .inr q
  have qhi':(hi.map ca.eval=none∧mx.map ca.eval=none∧lb=L.length)∨hi.map ca.eval=some (.int .i64 (TP lb)):=by
   rcases hhi with ⟨q0,q1,q2⟩ |q
   ·refine .inl ⟨q1,?_,by omega⟩
    rcases hmx with ⟨_,h⟩ |⟨h5,_⟩
    ·exact h
    ·rcases hhm with h6 |h6
     ·subst q0;cases h6
     ·cases vmx with
      |none=>cases h5
      |some _=>cases h6
   ·exact .inr q
  have qmx':mx.map ca.eval=none∨mx.map ca.eval=some (.int .i64 (TP lb)):=hmx.elim (fun h=>.inl h.2) fun h=>.inr h.2
  have hev:ev (.op .sub [x,l,g])= .aY ((L.take lb).drop la):=by
   rw [bN]
   simp only [Uc,Ud,hL,ha,hb']
   rfl
  have hty:bA (.aY ts) (ev (.op .sub [x,l,g])):=⟨_,hev,fun r hr=>hrows r (VX (List.mem_of_mem_drop hr))⟩
  rw [hL] at h2
  have hsl:((L.take lb).drop la).length=lb - la:=by rw [List.length_drop,Ur,Us h4]
  cases h2 with
  |nil=>
   have hbr:=de (P:=P) (w:=w) (isS:=true) (len:=0) (cap:=0) qlo' qhi' qmx' h3 h4
   have h40:lb=0:=by simpa using h4
   subst h40
   have h30:la=0:=by omega
   subst h30
   refine NR.value h (u:=.slice none 0 0) ?_ (.tm _ _ _ hty (by rw [hev];exact .nil))
   simp [VQ,VS,run_underlying hu,hbr,bq hz]
  |aY _ ad c u hn hm hf hd=>
   have hbr:=de (P:=P) (w:=w) (isS:=true) (len:=L.length) (cap:=c) qlo' qhi' qmx' h3 (Ui h4 hn)
   have hM: ∃M,(if (mx.map ca.eval).isSome=true then lb else c)=M∧lb≤M∧M≤c:=by
    refine ⟨_,rfl,?_,?_⟩<;>split<;>omega
   obtain ⟨M,hM,m1,m2⟩:=hM
   rw [hM] at hbr
   refine NR.value h (u:=.slice (some (if M=la then ad else ad.add (la*z))) (lb - la) (M - la)) ?_ (.tm _ _ _ hty ?_)
   ·simp only [VQ,VS,run_underlying hu,hbr,bq hz,Uu,U2,Uv]
    split<;>rfl
   ·rw [hev,←hsl]
    have hfl: ∀j d,((L.take lb).drop la).flatten[j]? =some d→L.flatten[la*z+j]? =some d∧M≠la:=by
     intro j d hj
     have hlt: ∀r∈L.take lb,r.length=z:=fun r hr=>hlen r (VX hr)
     rw [EO hlt,List.getElem?_drop,vH hlen] at hj
     refine ⟨?_,fun hMl=>?_⟩
     ·rw [T4] at hj
      split at hj
      ·exact hj
      ·cases hj
     ·have:lb≤la:=by omega
      have hle:lb*z≤la*z:=UN _ this
      rw [T4,if_neg (by omega)] at hj
      cases hj
    refine .aY _ _ _ (fun j=>u (la*z+j)) (by rw [hsl];omega) (Ui (Nat.sub_le ..) (Ui m2 hm)) (fun j hj=>?_) fun j d hj=>?_
    ·obtain ⟨h5,h6⟩:=hfl j _ (UB hj)
     rw [if_neg h6,add_add]
     exact hf _ (List.getElem?_eq_some_iff.1 h5).1
    ·exact hd _ _ (hfl j d hj).1
theorem Hl {t:TypeId} {x:Operand} {lo hi mx:Option Operand} {r:aW} (h:SR P N μ σ w) (ha:AR P μ a ca) (hr:se t x lo hi mx P a σ=some r):
 NR P N μ σ w r ((do pure (.value (←VQ t (ca.eval x) (lo.map ca.eval) (hi.map ca.eval) (mx.map ca.eval))):Sem Next).run P w):=by
 obtain ⟨v,hv,hr1⟩:=aa.1 hr
 obtain ⟨vlo,hvlo,hr2⟩:=aa.1 hr1
 obtain ⟨vhi,hvhi,hr3⟩:=aa.1 hr2
 obtain ⟨vmx,hvmx,hr4⟩:=aa.1 hr3
 have hx:=ha.eval h hv
 have qlo:=ha.mE h hvlo
 have qhi:=ha.mE h hvhi
 have qmx:=ha.mE h hvmx
 replace hr4:aQ (fZ v) (jj P t v vlo vhi vmx σ) (rY P t v vlo vhi vmx σ)=some r:=hr4
 cases hst:fZ v with
 |true=>
  rw [hst] at hr4
  exact zE h hx qlo qhi qmx hr4
 |false=>?_
 rw [hst] at hr4
 replace hr4:(rY P t v vlo vhi vmx σ)=some r:=hr4
 by_cases hvl: ∃ts n b,v= .vl ts n b
 ·obtain ⟨ts,n,b,rfl⟩:=hvl
  exact BO h hx qlo qhi qmx hr4
 replace hr4:wM P t v vlo vhi vmx σ=some r:=by
  cases v<;>first |exact hr4 |exact absurd ⟨_,_,_,rfl⟩ hvl
 clear hvl
 clear hst
 obtain ⟨l,hl,hr5⟩:=aa.1 hr4
 have qlo:=dz hl qlo
 have qlo':((lo.map ca.eval)=none∧l=0)∨(lo.map ca.eval)=some (.int .i64 (TP l)):=by
  rcases qlo with ⟨_,h1,h2⟩ |⟨_,h1⟩
  ·exact .inl ⟨h1,h2⟩
  ·exact .inr h1
 clear hr hr1 hr2 hr3 hr4
 generalize ca.eval x=X at*
 split at hr5
 ·rename_i hu
  cases v with
  |str s=>
   obtain ⟨hn,hhn,hr6⟩:=aa.1 hr5
   obtain ⟨hmn,hr7⟩:=aA.1 hr6
   obtain ⟨hb,hr8⟩:=aA.1 hr7
   cases hr8
   simp only [Uj] at hb
   have b1:=Ua hb.1
   have b2:=Ua hb.2
   have hmx:mx.map ca.eval=none:=by
    rcases qmx with ⟨_,rfl⟩ |⟨_,_,rfl,_,_⟩
    ·rfl
    ·cases hmn
   cases hx with
   |str _ S hS=>
    subst hS
    have hsl:(S.data.toList.map (·.toNat)).length=S.size:=by simp
    rw [hsl] at b2 hhn
    have qhi':((hi.map ca.eval)=none∧(none:Option Value)=none∧hn=S.size)∨(hi.map ca.eval)=some (.int .i64 (TP hn)):=by
     rcases dz hhn qhi with ⟨_,h1,h2⟩ |⟨_,h1⟩
     ·exact .inl ⟨h1,rfl,h2⟩
     ·exact .inr h1
    have hbr:=de (P:=P) (w:=w) (isS:=false) (cap:=S.size) qlo' qhi' (.inl rfl) b1 b2
    refine NR.value h (u:=.string (S.extract l hn)) ?_ (.str _ _ ?_)
    ·simp [VQ,VS,run_underlying hu,hmx,hbr]
    ·simp [List.extract_eq_take_drop,List.map_drop,List.map_take,List.drop_take]
  |_=>cases hr5
 ·rename_i e hu
  obtain ⟨z,hz,hr6⟩:=aa.1 hr5
  cases v with
  |slice b o n lim wh=>
   obtain ⟨hn,hhn,hr7⟩:=aa.1 hr6
   obtain ⟨m,hm,hr8⟩:=aa.1 hr7
   obtain ⟨hb,hr9⟩:=aA.1 hr8
   cases hr9
   simp only [Uj] at hb
   have b1:l≤hn:=Ua hb.1.1.1
   have b2:hn≤n:=Ua hb.1.1.2
   obtain rfl:m=hn:=T7 hb.1.2
   have hb4:=hb.2
   cases hx with
   |slice _ _ _ _ _ en ad c hen had hnc hmc hlim hc=>
    have qmx':(vmx=none∧mx.map ca.eval=none)∨(vmx.isSome=true∧mx.map ca.eval=some (.int .i64 (TP m))):=by
     rcases dz hm qmx with ⟨h0,h1,h2⟩ |h1
     ·exact .inl ⟨h0,h1⟩
     ·exact .inr h1
    have qhi':((hi.map ca.eval)=none∧mx.map ca.eval=none∧m=n)∨(hi.map ca.eval)=some (.int .i64 (TP m)):=by
     rcases dz hhn qhi with ⟨h0,h1,h2⟩ |⟨_,h1⟩
     ·refine .inl ⟨h1,?_,h2⟩
      rcases qmx' with ⟨_,h⟩ |⟨h3,_⟩
      ·exact h
      ·subst h0
       cases vmx with
       |none=>cases h3
       |some _=>cases hb4
     ·exact .inr h1
    have hbr:=de (P:=P) (w:=w) (isS:=true) (len:=n) (cap:=c) qlo' qhi' (qmx'.elim (fun h=>.inl h.2) fun h=>.inr h.2) b1 (Ui b2 hnc)
    have hM: ∃M,(if (mx.map ca.eval).isSome=true then m else c)=M∧m≤M∧M≤c∧(vmx=none→M=c)∧(vmx.isSome=true→M=m):=by
     refine ⟨_,rfl,?_,?_,?_,?_⟩
     ·split<;>omega
     ·split<;>omega
     ·intro h0
      rcases qmx' with ⟨_,h⟩ |⟨h3,_⟩
      ·rw [h];rfl
      ·rw [h0] at h3;cases h3
     ·intro h0
      rcases qmx' with ⟨h3,_⟩ |⟨_,h⟩
      ·rw [h3] at h0;cases h0
      ·rw [h];rfl
    obtain ⟨M,hM,m1,m2,m3,m4⟩:=hM
    rw [hM] at hbr
    obtain ⟨g1,g2⟩:=vG (lo:=l) (hi:=m) (z:=z) had M m2 b1 m1
    refine NR.value h (u:=.slice (some (if M=l then ad else ad.add (l*z))) (m - l) (M - l)) ?_ (.slice b (o+l*z) (m - l) _ _ en _ (M - l) hen g2 (by omega) (by omega) ?_ ?_)
    ·simp only [VQ,VS,run_underlying hu,hbr,bq hz,Uu,U2,Uv,g1]
    ·intro hl
     cases vmx with
     |some _=>rw [m4 rfl]
     |none=>
      simp only [VU,Bool.false_or,Uj] at hl
      rw [m3 rfl,hlim hl.1,T7 hl.2]
    ·intro hw ho sz t' hsz
     simp only [Uj,Vg] at hw
     have hc:=hc hw.1.1 (by omega) sz t' hsz
     have hl0:l=0:=T7 hw.1.2
     have hMc:M=c:=by
      cases vmx with
      |none=>exact m3 rfl
      |some _=>
       rcases hw.2 with h2 |h2
       ·cases h2
       ·rw [m4 rfl,hlim h2.1,T7 h2.2]
     rw [hMc,hl0,VW];exact hc
  |aJ=>
   obtain ⟨hn,hhn,hr7⟩:=aa.1 hr6
   obtain ⟨m,hm,hr8⟩:=aa.1 hr7
   obtain ⟨hb,hr9⟩:=aA.1 hr8
   cases hr9
   simp only [Uj] at hb
   have b1:l=0:=T7 hb.1.1.1
   have b2:hn=0:=T7 hb.1.1.2
   have b3:m=hn:=T7 hb.1.2
   have hb4:=hb.2
   subst b1
   subst b2
   subst b3
   have qmx':(vmx=none∧mx.map ca.eval=none)∨(vmx.isSome=true∧mx.map ca.eval=some (.int .i64 (TP 0))):=by
    rcases dz hm qmx with ⟨h0,h1,h2⟩ |h1
    ·exact .inl ⟨h0,h1⟩
    ·exact .inr h1
   have qhi':((hi.map ca.eval)=none∧mx.map ca.eval=none∧0=0)∨(hi.map ca.eval)=some (.int .i64 (TP 0)):=by
    rcases dz hhn qhi with ⟨h0,h1,h2⟩ |⟨_,h1⟩
    ·refine .inl ⟨h1,?_,rfl⟩
     rcases qmx' with ⟨_,h⟩ |⟨h3,_⟩
     ·exact h
     ·subst h0
      cases vmx with
      |none=>cases h3
      |some _=>cases hb4
    ·exact .inr h1
   have hbr:=de (P:=P) (w:=w) (isS:=true) (len:=0) (cap:=0) qlo' qhi' (qmx'.elim (fun h=>.inl h.2) fun h=>.inr h.2) (Uh 0) (Uh 0)
   cases hx
   refine NR.value h (u:=.slice none 0 0) ?_ .aJ
   simp [VQ,VS,run_underlying hu,hbr,bq hz]
  |e0 zz=>
   obtain ⟨hn,hhn,hr7⟩:=aa.1 hr6
   obtain ⟨m,hm,hr8⟩:=aa.1 hr7
   obtain ⟨hb,hr9⟩:=aA.1 hr8
   cases hr9
   simp only [Uj] at hb
   have b1:l=0:=T7 hb.1.1.1
   have b2:hn=0:=T7 hb.1.1.2
   have b3:m=hn:=T7 hb.1.2
   have hb4:=hb.2
   subst b1
   subst b2
   subst b3
   have qmx':(vmx=none∧mx.map ca.eval=none)∨(vmx.isSome=true∧mx.map ca.eval=some (.int .i64 (TP 0))):=by
    rcases dz hm qmx with ⟨h0,h1,h2⟩ |h1
    ·exact .inl ⟨h0,h1⟩
    ·exact .inr h1
   have qhi':((hi.map ca.eval)=none∧mx.map ca.eval=none∧0=0)∨(hi.map ca.eval)=some (.int .i64 (TP 0)):=by
    rcases dz hhn qhi with ⟨h0,h1,h2⟩ |⟨_,h1⟩
    ·refine .inl ⟨h1,?_,rfl⟩
     rcases qmx' with ⟨_,h⟩ |⟨h3,_⟩
     ·exact h
     ·subst h0
      cases vmx with
      |none=>cases h3
      |some _=>cases hb4
    ·exact .inr h1
   have hzS:=hz
   cases hx with
   |e0 _ ad c hz hm0=>
   have hbr:=de (P:=P) (w:=w) (isS:=true) (len:=0) (cap:=c) qlo' qhi' (qmx'.elim (fun h=>.inl h.2) fun h=>.inr h.2) (Uh 0) (VT c)
   rcases qmx' with ⟨h1,h2⟩ |⟨h1,h2⟩
   ·refine NR.value h (u:=.slice (some ad) 0 c) ?_ (.e0 _ ad c (fun h=>hz (by rw [h1] at h;simpa using h)) hm0)
    rw [h2] at hbr⊢
    simp only [VU,VV,if_false] at hbr
    simp only [VQ,VS,run_underlying hu,hbr,bq hzS,Uu,U2,Uv,VW,Nat.zero_mul]
    split<;>simp [add_nil]
   ·refine NR.value h (u:=.slice (some ad) 0 0) ?_ (.e0 _ ad 0 (fun _=>rfl) (VT _))
    rw [h2] at hbr⊢
    simp only [Option.isSome_some,if_true] at hbr
    simp only [VQ,VS,run_underlying hu,hbr,bq hzS,Uu,U2,Uv]
    rfl
  |_=>cases hr6
 ·rename_i n e hu
  obtain ⟨z,hz,hr6⟩:=aa.1 hr5
  cases v with
  |ptr b o=>
   obtain ⟨hn,hhn,hr7⟩:=aa.1 hr6
   obtain ⟨hb,hr8⟩:=aA.1 hr7
   cases hr8
   simp only [Uj] at hb
   have b1:l≤hn:=Ua hb.1.1.1
   obtain rfl:hn=n:=T7 hb.1.1.2
   have b4:=Ua hb.2
   have hmx:mx.map ca.eval=none:=by
    rcases qmx with ⟨_,rfl⟩ |⟨_,_,rfl,_,_⟩
    ·rfl
    ·cases hb.1.2
   have qhi':((hi.map ca.eval)=none∧(none:Option Value)=none∧hn=hn)∨(hi.map ca.eval)=some (.int .i64 (TP hn)):=by
    rcases dz hhn qhi with ⟨_,h1,h2⟩ |⟨_,h1⟩
    ·exact .inl ⟨h1,rfl,h2⟩
    ·exact .inr h1
   have hbr:=de (P:=P) (w:=w) (isS:=false) (len:=hn) (cap:=hn) qlo' qhi' (.inl rfl) b1 (Uh _)
   cases hx with
   |ptr _ _ en hen=>
    obtain ⟨g1,g2⟩:=vG (lo:=l) (hi:=hn) (z:=z) (en:=en) (c:=hn) (ad:=en.a.add o) (.inl rfl) hn (Uh _) b1 (Uh _)
    refine NR.value h (u:=.slice (some (if hn=l then en.a.add o else (en.a.add o).add (l*z))) (hn - l) (hn - l)) ?_ (.slice b (o+l*z) (hn - l) true false en _ (hn - l) hen g2 (Uh _) (by simp only [maxLen];omega) (fun _=>rfl) (by simp))
    simp only [VQ,run_underlying hu,Instr.sureAddr,hmx,hbr,bq hz,Uu,U2,Uv,VU,VV,if_false]
  |_=>cases hr6
 ·cases hr5
end
end
section
open Go Go.RowKit Go.MapKept
variable [Env]
section
variable {P:Program} {N:Nat} {μ:bu} {σ:St} {w:World} {a:aV} {ca:Act}
theorem zG {x y:AV} (h:iK x y=true):x=y:=by
 unfold iK at h
 cases x with
 |int j a=>cases y with
  |int k b=>
   rw [Uj,fk,fI] at h
   rw [of_decide_eq_true h.1,eq_of_beq h.2]
  |_=>cases h
 |str a=>cases y with
  |str b=>
   replace h:vi a b=true:=h
   rw [fj] at h
   rw [eq_of_beq h]
  |_=>cases h
 |bool a=>cases y with
  |bool b=>
   replace h:(a==b)=true:=h
   rw [eq_of_beq h]
  |_=>cases h
 |_=>cases h
theorem pD: ∀{xs ys:List AV},rS xs ys=true→xs=ys∧∀x∈xs,iK x x=true
 |[],[],_=>⟨rfl,by simp⟩
 |[],_::_,h=>by cases h
 |_::_,[],h=>by cases h
 |x::xs,y::ys,h=>by
  have h:aQ (iK x y) (rS xs ys) false=true:=h
  cases hc:iK x y with
  |false=>rw [hc] at h;cases h
  |true=>
   rw [hc] at h
   obtain ⟨rfl,h2⟩:=pD (show rS xs ys=true from h)
   obtain rfl:=zG hc
   exact ⟨rfl,fun z hz=>by cases hz with |head=>exact hc |tail _ hz=>exact h2 z hz⟩
theorem Hm {x y:AV} (h:nE x y=true):x=y:=by
 unfold nE at h
 cases x with
 |agg xs=>cases y with
  |agg ys=>rw [(pD h).1]
  |_=>cases h
 |_=>exact zG h
theorem str_inj {s s':ByteArray} (h:s.data.toList.map (·.toNat)=s'.data.toList.map (·.toNat)):s=s':=by
 have:s.data.toList=s'.data.toList:=by
  have hinj: ∀(x y:List UInt8),x.map (·.toNat)=y.map (·.toNat)→x=y:=by
   intro x
   induction x with
   |nil=>intro y h;cases y with |nil=>rfl |cons _ _=>cases h
   |cons a x ih=>intro y h;cases y with
    |nil=>cases h
    |cons b y=>simp at h;rw [UInt8.toNat_inj.1 h.1,ih y h.2]
  exact hinj _ _ h
 cases s;cases s'
 congr 1
 exact Array.ext' this
theorem nY {x:AV} (h:iK x x=true) {X Y:Value} (hX:VR P μ x X) (hY:VR P μ x Y):X=Y∧∀n,VY n X Y=true:=by
 cases x with
 |int j a=>cases hX;cases hY;exact ⟨rfl,fun n=>by cases n<;>simp [VY]⟩
 |str a=>cases hX with
  |str _ s hs=>cases hY with
   |str _ s' hs'=>
    obtain rfl:=str_inj (hs.trans hs'.symm)
    refine ⟨rfl,fun n=>by cases n<;>simp [VY,bytes_beq]⟩
 |bool a=>cases hX;cases hY;exact ⟨rfl,fun n=>by cases n<;>simp [VY]⟩
 |_=>cases h
theorem zH {x:AV} (h:nE x x=true) (hx:kU x=false):iK x x=true:=by
 cases x<;>first |exact h |cases hx
theorem BP {x:AV} (h:nE x x=true) {X Y:Value} (hX:VR P μ x X) (hY:VR P μ x Y) (n:Nat):VY (n+1) X Y=true:=by
 cases hx:kU x with
 |false=>exact (nY (zH h hx) hX hY).2 _
 |true=>
 obtain ⟨xs,rfl⟩:=vD hx
 have h2:=(pD (show rS xs xs=true from h)).2
 cases hX with
 |agg _ C hC _=>cases hY with
  |agg _ D hD _=>
   have key: ∀(xs:List AV) (C D:List Value),(∀x∈xs,iK x x=true)→bZ P μ xs C→bZ P μ xs D→C=D∧(C.zip D).all (fun (x,y)=>VY n x y)=true:=by
    intro xs
    induction xs with
    |nil=>intro C D _ hC hD;cases hC;cases hD;exact ⟨rfl,rfl⟩
    |cons x xs ih=>
     intro C D h2 hC hD
     cases hC with
     |cons _ u _ us hv hvs=>cases hD with
      |cons _ u' _ us' hv' hvs'=>
       obtain ⟨rfl,hb⟩:=nY (h2 x (Uk ..)) hv hv'
       obtain ⟨rfl,hr⟩:=ih us us' (fun z hz=>h2 z (Ul _ hz)) hvs hvs'
       exact ⟨rfl,by simp only [List.zip_cons_cons,List.all_cons,hb n,VZ];exact hr⟩
   obtain ⟨rfl,h3⟩:=key xs C D h2 hC hD
   unfold VY
   rw [Uj]
   exact ⟨by simp,h3⟩
theorem BQ {t:TypeId} {d:TypeDesc} {x y:AV} {X Y:Value} {b c:Bool} (hX:VR P μ x X) (hY:VR P μ y Y) (h:ji P 8 t x y=some b) (hs:V0 d X Y=some c):c=b:=by
 have h:PA P (ji P 7) t x y=some b:=h
 unfold PA at h
 cases x with
 |int j p=>cases y with
  |int k q=>
   obtain ⟨h1,h2⟩:=aA.1 h
   obtain ⟨_,rfl⟩:=bO h2
   cases hX;cases hY
   rw [fk] at h1
   have h1:=of_decide_eq_true h1
   cases d<;>first |(cases hs;done) |skip
   simp only [V0,if_pos h1] at hs
   cases hs
   rw [fI]
  |_=>cases h
 |str p=>cases y with
  |str q=>
   obtain ⟨_,rfl⟩:=bO h
   cases hX with
   |str _ s hs1=>cases hY with
    |str _ s' hs2=>
     subst hs1;subst hs2
     cases d<;>first |(cases hs;done) |skip
     cases hs
     rw [fj,←jb]
     rw [T8]
     rw [bytes_beq,beq_iff_eq]
     refine ⟨fun h=>by rw [h],fun h=>?_⟩
     rw [Va,Va] at h
     exact str_inj (by rw [h])
  |_=>cases h
 |bool p=>cases y with
  |bool q=>
   obtain ⟨_,rfl⟩:=bO h
   cases hX;cases hY
   cases d<;>first |(cases hs;done) |skip
   cases hs;rfl
  |_=>cases h
 |agg _=>cases y with
  |agg _=>cases hX;cases hY;cases d<;>cases hs
  |_=>cases h
 |_=>first |(cases h;done) |(cases hX<;>cases d<;>cases hs)
def J9 (P:Program) (t:TypeId) (K X:Value) (b:Bool):Prop:=(∀w:World,(Op.equal t K X).run P w= .ok b w)∧∀(d:TypeDesc) (c:Bool),V0 d K X=some c→c=b
theorem Hn {t:TypeId} {k x:AV} {K X:Value} {b:Bool} (hk:VR P μ k K) (hx:VR P μ x X) (h:ji P 8 t k x=some b):J9 P t K X b:=
 ⟨fun w=>gj (P:=P) (μ:=μ) 8 Op.maxDepth t k x K X b (by decide) hk hx h w,fun d c hc=>BQ hk hx h hc⟩
theorem zI {fz:Addr→Option Value} {a c:D} {K X:Value} (hk:dM fz a K) (hx:dM fz c X) {d:TypeDesc} {b:Bool} (hs:V0 d K X=some b) (ht:(∃k,bA (.int k) a∧bA (.int k) c)∨bA .str a∧bA .str c):b=gC a c:=by
 rcases ht with ⟨k,⟨n,rfl⟩,⟨m,rfl⟩⟩ |⟨⟨l,rfl⟩,⟨l',rfl⟩⟩
 ·cases hk;cases hx
  cases d<;>first |(cases hs;done) |skip
  simp only [V0] at hs
  simp only [gC,decide_true,VZ]
  split at hs
  ·cases hs;rfl
  ·cases hs
 ·cases hk with
  |str _ s h1=>cases hx with
   |str _ s' h2=>
    subst h1;subst h2
    cases d<;>first |(cases hs;done) |skip
    cases hs
    show _=(_==_)
    rw [←jb]
    rw [T8]
    rw [bytes_beq,beq_iff_eq]
    refine ⟨fun h=>by rw [h],fun h=>?_⟩
    rw [Va,Va] at h
    exact str_inj (by rw [h])
theorem ru {fz:Addr→Option Value} {t:TypeId} {a c:D} {K X:Value} (hk:dM fz a K) (hx:dM fz c X) (ht:(∃k,bA (.int k) a∧bA (.int k) c∧mM P t 7=true)∨(bA .str a∧bA .str c)∧mM P t 8=true):J9 P t K X (gC a c):=by
 refine ⟨fun w=>?_,fun d b hs=>zI hk hx hs (ht.imp (fun ⟨k,h1,h2,_⟩=>⟨k,h1,h2⟩) (·.1))⟩
 have key: ∀d:Nat,(Vb (d+1) t K X).run P w= .ok (gC a c) w:=by
  intro d
  rcases ht with ⟨k,⟨n,rfl⟩,⟨m,rfl⟩,hK⟩ |⟨⟨⟨l,rfl⟩,⟨l',rfl⟩⟩,hK⟩
  ·obtain ⟨_,hu,_,_,_,_,_,_,_,h7,_⟩:=bk (T7 hK) (by omega)
   obtain ⟨q,rfl⟩:=h7 rfl
   cases hk;cases hx
   simp [Vb,run_underlying hu,gC]
  ·obtain ⟨_,hu,_,_,_,_,_,_,_,_,h8⟩:=bk (T7 hK) (by omega)
   have h8:=h8 rfl
   subst h8
   cases hk with
   |str _ s h1=>cases hx with
    |str _ s' h2=>
     subst h1;subst h2
     simp only [Vb,Uu,run_underlying hu,Uv,gC]
     rw [←jb]
     have:(s==s')=(s.toList==s'.toList):=by
      rw [T8,bytes_beq,beq_iff_eq]
      refine ⟨fun h=>by rw [h],fun h=>?_⟩
      rw [Va,Va] at h
      exact str_inj (by rw [h])
     rw [←this]
     rfl
 exact key 9999
theorem BS {t:TypeId} {x y:AV} {X Y:Value} {b:Bool} (hx:VR P μ x X) (hy:VR P μ y Y) (h:C9 P t x y=some b):b=false∧J9 P t X Y false:=by
 obtain ⟨⟨tp,p⟩,h1,h⟩:=aa.1 h
 obtain ⟨⟨tq,q⟩,h2,h⟩:=aa.1 h
 obtain ⟨c,h3,h⟩:=aa.1 h
 cases c with
 |true=>cases h
 |false=>
  cases h
  refine ⟨rfl,?_⟩
  obtain ⟨g1,g2⟩:=ez hx h1
  obtain ⟨g3,g4⟩:=ez hy h2
  unfold vn at h3
  cases tp with
  |int k=>
   cases tq with
   |int j=>
    obtain ⟨hb,hd⟩:=aA.1 (show aQ (rO k j&&mM P t 7) (fg (.tm .bool (.op (.cmp .eql) [p,q]))) none=some false from h3)
    rw [Uj,fk] at hb
    obtain rfl:=of_decide_eq_true hb.1
    have hev:=cf (show di (.op (.cmp .eql) [p,q])=some false from hd)
    have:=ru (P:=P) (t:=t) g2 g4 (.inl ⟨k,g1,g3,hb.2⟩)
    obtain ⟨n,e1⟩:=g1
    obtain ⟨m,e2⟩:=g3
    rw [bN] at hev
    simp only [Uc,Ud,e1,e2] at hev
    rw [e1,e2] at this
    have hf:(n==m)=false:=by injection hev
    simpa [gC,hf] using this
   |_=>cases h3
  |str=>
   cases tq with
   |str=>
    obtain ⟨hb,hd⟩:=aA.1 (show aQ (mM P t 8) (fg (.tm .bool (.op (.jH .eql) [p,q]))) none=some false from h3)
    have hev:=cf (show di (.op (.jH .eql) [p,q])=some false from hd)
    have:=ru (P:=P) (t:=t) g2 g4 (.inr ⟨⟨g1,g3⟩,hb⟩)
    obtain ⟨n,e1⟩:=g1
    obtain ⟨m,e2⟩:=g3
    rw [bN] at hev
    simp only [Uc,Ud,e1,e2] at hev
    rw [e1,e2] at this
    have hf:(n==m)=false:=by injection hev
    simpa [gC,hf] using this
   |_=>cases h3
  |bool=>
   cases tq with
   |bool=>
    obtain ⟨hb,hd⟩:=aA.1 (show aQ (mM P t 0) (fg (.tm .bool (.op .beq [p,q]))) none=some false from h3)
    have hev:=cf (show di (.op .beq [p,q])=some false from hd)
    obtain ⟨n,e1⟩:=g1
    obtain ⟨m,e2⟩:=g3
    rw [bN] at hev
    simp only [Uc,Ud,e1,e2] at hev
    rw [e1] at g2
    rw [e2] at g4
    have hf:(n==m)=false:=by injection hev
    cases g2
    cases g4
    obtain ⟨_,hu,h0,_⟩:=bk (T7 hb) (by omega)
    have h0:=h0 rfl
    subst h0
    refine ⟨fun w=>?_,fun d c hc=>?_⟩
    ·have key: ∀d:Nat,(Vb (d+1) t (.bool n) (.bool m)).run P w= .ok false w:=fun d=>by
      simp only [Vb,Uu,run_underlying hu,Uv,hf]
      rfl
     exact key 9999
    ·cases d<;>first |(cases hc;done) |skip
     cases hc
     exact hf
   |_=>cases h3
  |_=>cases h3
theorem nZ {t:TypeId} {x y:AV} {X Y:Value} {b:Bool} (hx:VR P μ x X) (hy:VR P μ y Y) (h:J8 P t x y=some b):J9 P t X Y b∧(b=true→x=y∧nE x x=true):=by
 replace h:aQ (fZ x) (C9 P t x y) (ai (ji P 8 t x y) fun b=>aQ b (aQ (nE x y) (some true) none) (some false))=some b:=h
 cases ht:fZ x with
 |true=>
  rw [ht] at h
  obtain ⟨rfl,h1⟩:=BS hx hy (show C9 P t x y=some b from h)
  exact ⟨h1,fun h=>by cases h⟩
 |false=>
 rw [ht] at h
 obtain ⟨c,hc,h⟩:=aa.1 (show ai (ji P 8 t x y) (fun b=>aQ b (aQ (nE x y) (some true) none) (some false))=some b from h)
 cases c with
 |true=>
  obtain ⟨h1,h2⟩:=aA.1 (show aQ (nE x y) (some true) none=some b from h)
  cases h2
  have:=Hm h1
  subst this
  exact ⟨Hn hx hy hc,fun _=>⟨rfl,h1⟩⟩
 |false=>cases h;exact ⟨Hn hx hy hc,fun h=>by cases h⟩
def Found (P:Program) (t:TypeId) (K:Value) (ms:List MapEntry) (r:Option (Nat×Value)):Prop:=
 (∀(i:Nat) (w:World),(V1 t K ms i).run P w= .ok (r.map fun q=>(i+q.1,q.2)) w)∧
 ∀(d:TypeDesc) (i:Nat) (q:Option (Nat×Value)),V2 d K ms i=some q→q=r.map fun q=>(i+q.1,q.2)
theorem Found.nil (t:TypeId) (K:Value):Found P t K [] none:=⟨fun i w=>rfl,fun d i q h=>by cases h;rfl⟩
theorem Found.here {t:TypeId} {K:Value} {m:MapEntry} {ms:List MapEntry} (h:J9 P t K m.key true):Found P t K (m::ms) (some (0,m.val)):=by
 refine ⟨fun i w=>?_,fun d i q hq=>?_⟩
 ·unfold V1
  simp only [Uu,h.1 w,Uv]
  rfl
 ·unfold V2 at hq
  split at hq
  ·cases hq;rfl
  ·rename_i hs;have:=h.2 d _ hs;cases this
  ·cases hq
theorem Found.there {t:TypeId} {K:Value} {m:MapEntry} {ms:List MapEntry} {r:Option (Nat×Value)} (h:J9 P t K m.key false) (hr:Found P t K ms r):
 Found P t K (m::ms) (r.map fun q=>(q.1+1,q.2)):=by
 refine ⟨fun i w=>?_,fun d i q hq=>?_⟩
 ·unfold V1
  simp only [Uu,h.1 w,Uv,VV,if_false,hr.1 (i+1) w]
  cases r with
  |none=>rfl
  |some q=>simp only [VN];congr 3;omega
 ·unfold V2 at hq
  split at hq
  ·rename_i hs;have:=h.2 d _ hs;cases this
  ·rw [hr.2 d (i+1) q hq]
   cases r with
   |none=>rfl
   |some q=>simp only [VN];congr 2;omega
  ·cases hq
theorem Found.run {t:TypeId} {K:Value} {ms:List MapEntry} {r:Option (Nat×Value)} {d:TypeDesc} (h:Found P t K ms r) (hd:P.underlying t=some d) (w:World):(V3 t K ms).run P w= .ok r w:=by
 have e:(r.map fun q:Nat×Value=>(0+q.1,q.2))=r:=by cases r<;>simp
 unfold V3
 simp only [Uu,run_underlying hd,Uv]
 split
 ·rename_i q hq
  rw [h.2 d 0 q hq,e];rfl
 ·rw [h.1 0 w,e]
def mW (P:Program) (t:TypeId) (K:Value) (m:MapEntry):Prop:=J9 P t K m.key false
theorem eJ {t:TypeId} {K:Value}: ∀{ms:List MapEntry},(∀m∈ms,mW P t K m)→Found P t K ms none
 |[],_=>Found.nil t K
 |m::ms,h=>Found.there (h m (Uk ..)) (eJ fun y hy=>h y (Ul _ hy))
theorem fL {t:TypeId} {K:Value} {m:MapEntry} (he:J9 P t K m.key true) {l2:List MapEntry}: ∀{l1:List MapEntry},(∀m∈l1,mW P t K m)→Found P t K (l1++m::l2) (some (l1.length,m.val))
 |[],_=>Found.here he
 |y::l1,h=>by
  have:=Found.there (h y (Uk ..)) (fL he (l2:=l2) (l1:=l1) fun y hy=>h y (Ul _ hy))
  simpa using this
theorem ER.snoc {es es2:List (AV×AV)} {ms ms2:List MapEntry} (h:ER P μ es ms) (h2:ER P μ es2 ms2):ER P μ (es++es2) (ms++ms2):=by
 induction h with
 |nil=>exact h2
 |cons x y m es ms hx hy _ ih=>exact .cons x y m _ _ hx hy ih
theorem sJ {t:TypeId} {k v:AV} {K:Value} (hk:VR P μ k K) {es:List (AV×AV)} {l:List MapEntry} (hm:ER P μ es l): ∀{c:Bool},Ew P t k es=some c→
 (c=false∧(∀m∈l,mW P t K m)∧qA P t k es=some none∧yM P t k v es=some (es++[(k,v)])∧yN P t k es=some es)∨
 (c=true∧∃es1 x y es2 l1 m l2,l=l1++m::l2∧ER P μ es1 l1∧VR P μ x m.key∧VR P μ y m.val∧ER P μ es2 l2∧J8 P t k x=some true∧(∀m∈l1,mW P t K m)∧(∀m∈l2,mW P t K m)∧
  qA P t k es=some (some y)∧yM P t k v es=some (es1++(x,v)::es2)∧yN P t k es=some (es1++es2)):=by
 induction hm with
 |nil=>intro c h;cases h;exact .inl ⟨rfl,fun m h=>absurd h Ub,rfl,rfl,rfl⟩
 |cons x y m es ms hx hy hm ih=>
  intro c h
  obtain ⟨b,hb,h⟩:=aa.1 (show ai (J8 P t k x) (fun b=>ai (Ew P t k es) fun c=>aQ b (aQ c none (some true)) (some c))=some c from h)
  obtain ⟨c',hc',h⟩:=aa.1 h
  have e1:qA P t k ((x,y)::es)=ai (J8 P t k x) fun b=>aQ b (some (some y)) (qA P t k es):=rfl
  have e2:yM P t k v ((x,y)::es)=ai (J8 P t k x) fun b=>aQ b (some ((x,v)::es)) (omap (yM P t k v es) ((x,y):: ·)):=rfl
  have e3:yN P t k ((x,y)::es)=ai (J8 P t k x) fun b=>aQ b (some es) (omap (yN P t k es) ((x,y):: ·)):=rfl
  rw [hb] at e1 e2 e3
  cases b with
  |true=>
   cases c' with
   |true=>cases h
   |false=>
    cases h
    rcases ih hc' with ⟨_,q1,_⟩ |⟨q,_⟩
    ·exact .inr ⟨rfl,[],x,y,es,[],m,ms,rfl,.nil,hx,hy,hm,hb,fun m h=>absurd h Ub,q1,e1,e2,e3⟩
    ·cases q
  |false=>
   cases h
   have hmiss:mW P t K m:=(nZ hk hx hb).1
   replace e1:qA P t k ((x,y)::es)=qA P t k es:=e1
   replace e2:yM P t k v ((x,y)::es)=omap (yM P t k v es) ((x,y):: ·):=e2
   replace e3:yN P t k ((x,y)::es)=omap (yN P t k es) ((x,y):: ·):=e3
   rcases ih hc' with ⟨rfl,q1,q2,q3,q4⟩ |⟨rfl,es1,x',y',es2,l1,m',l2,rfl,r1,r2,r3,r4,r5,r6,r7,r8,r9,r10⟩
   ·refine .inl ⟨rfl,fun z hz=>?_,by rw [e1,q2],by rw [e2,q3]<;>rfl,by rw [e3,q4]<;>rfl⟩
    cases hz with
    |head=>exact hmiss
    |tail _ hz=>exact q1 z hz
   ·refine .inr ⟨rfl,(x,y)::es1,x',y',es2,m::l1,m',l2,rfl,.cons x y m _ _ hx hy r1,r2,r3,r4,r5,fun z hz=>?_,r7,by rw [e1,r8],by rw [e2,r9]<;>rfl,by rw [e3,r10]<;>rfl⟩
    cases hz with
    |head=>exact hmiss
    |tail _ hz=>exact r6 z hz
theorem BT {α:Type} (f:α→α) (m:α) (b:List α): ∀a:List α,(a++m::b).modify a.length f=a++f m::b
 |[]=>rfl
 |x::a=>by
  show (x::(a++m::b)).modify (a.length+1) f=x::(a++f m::b)
  rw [List.modify_succ_cons,BT f m b a]
theorem fM {l1 l2 ms:List MapEntry} {m:MapEntry} (h:(l1++m::l2).Perm ms): ∃a b,ms=a++m::b∧(l1++l2).Perm (a++b):=by
 have hm:m∈ms:=h.mem_iff.1 (V4 _ (Uk ..))
 obtain ⟨a,b,rfl⟩:=List.append_of_mem hm
 refine ⟨a,b,rfl,?_⟩
 have h2:(m::(l1++l2)).Perm (m::(a++b)):=(List.perm_middle.symm.trans h).trans List.perm_middle
 exact h2.cons_inv
theorem ES {t:TypeId} {k:AV} {K:Value} (hk:VR P μ k K) {es:List (AV×AV)} {ms:List MapEntry} (hm:EP P μ es ms) {o:Option AV} (h:L5 P t k es=some o):
 (o=none∧Found P t K ms none)∨∃v j m,o=some v∧Found P t K ms (some (j,m.val))∧ms[j]? =some m∧VR P μ v m.val:=by
 obtain ⟨l,hp,hm⟩:=hm
 obtain ⟨c,hc,h⟩:=aa.1 h
 rcases sJ (v:=.bad) hk hm hc with ⟨rfl,q1,q2,_⟩ |⟨rfl,es1,x,y,es2,l1,m,l2,rfl,r1,r2,r3,r4,r5,r6,r7,r8,_⟩
 ·rw [q2] at h
  cases h
  exact .inl ⟨rfl,eJ fun m hm=>q1 m (hp.mem_iff.2 hm)⟩
 ·rw [r8] at h
  cases h
  obtain ⟨a,b,rfl,hp2⟩:=fM hp
  have hall: ∀z∈a,mW P t K z:=fun z hz=>by
   have:=hp2.mem_iff.2 (V5 b hz)
   rcases List.mem_append.1 this with h |h
   ·exact r6 z h
   ·exact r7 z h
  exact .inr ⟨y,a.length,m,rfl,fL (nZ hk r2 r5).1 hall,by simp,r3⟩
theorem Ho {t:TypeId} {k v:AV} {K V:Value} (hk:VR P μ k K) (hV:VR P μ v V) {es:List (AV×AV)} {ms:List MapEntry} (hm:EP P μ es ms) {es':List (AV×AV)} (h:P4 P t k v es=some es'):
 (Found P t K ms none∧∀b,EP P μ es' (ms++[{key:=K,val:=V,born:=b}]))∨
 ∃j m,Found P t K ms (some (j,m.val))∧ms[j]? =some m∧VY 10000 m.key K=true∧EP P μ es' (ms.modify j fun e=>{e with key:=K,val:=V}):=by
 obtain ⟨l,hp,hm⟩:=hm
 obtain ⟨c,hc,h⟩:=aa.1 h
 rcases sJ (v:=v) hk hm hc with ⟨rfl,q1,_,q2,_⟩ |⟨rfl,es1,x,y,es2,l1,m,l2,rfl,r1,r2,r3,r4,r5,r6,r7,_,r8,_⟩
 ·rw [q2] at h
  cases h
  exact .inl ⟨eJ fun m hm=>q1 m (hp.mem_iff.2 hm),fun b=>⟨l++[{key:=K,val:=V,born:=b}],hp.append_right _,ER.snoc hm (.cons k v _ [] [] hk hV .nil)⟩⟩
 ·rw [r8] at h
  cases h
  obtain ⟨a,b,rfl,hp2⟩:=fM hp
  have hall: ∀z∈a,mW P t K z:=fun z hz=>by
   have:=hp2.mem_iff.2 (V5 b hz)
   rcases List.mem_append.1 this with h |h
   ·exact r6 z h
   ·exact r7 z h
  obtain ⟨h1,h2⟩:=nZ hk r2 r5
  obtain ⟨rfl,hs⟩:=h2 rfl
  refine .inr ⟨a.length,m,fL h1 hall,by simp,BP hs r2 hk 9999,⟨l1++{m with key:=K,val:=V}::l2,?_,ER.snoc r1 (.cons k v _ _ _ hk hV r4)⟩⟩
  have:(a++m::b).modify a.length (fun e=>{e with key:=K,val:=V})=a++{m with key:=K,val:=V}::b:=BT _ _ _ _
  rw [this]
  exact (List.perm_middle.trans (hp2.cons _)).trans List.perm_middle.symm
theorem Hp {t:TypeId} {k:AV} {K:Value} (hk:VR P μ k K) {es:List (AV×AV)} {ms:List MapEntry} (hm:EP P μ es ms) {es':List (AV×AV)} (h:Np P t k es=some es'):
 (Found P t K ms none∧EP P μ es' ms)∨∃j v,Found P t K ms (some (j,v))∧j<ms.length∧EP P μ es' (ms.eraseIdx j):=by
 obtain ⟨l,hp,hm⟩:=hm
 obtain ⟨c,hc,h⟩:=aa.1 h
 rcases sJ (v:=.bad) hk hm hc with ⟨rfl,q1,_,_,q2⟩ |⟨rfl,es1,x,y,es2,l1,m,l2,rfl,r1,r2,r3,r4,r5,r6,r7,_,_,r8⟩
 ·rw [q2] at h
  cases h
  exact .inl ⟨eJ fun m hm=>q1 m (hp.mem_iff.2 hm),l,hp,hm⟩
 ·rw [r8] at h
  cases h
  obtain ⟨a,b,rfl,hp2⟩:=fM hp
  have hall: ∀z∈a,mW P t K z:=fun z hz=>by
   have:=hp2.mem_iff.2 (V5 b hz)
   rcases List.mem_append.1 this with h |h
   ·exact r6 z h
   ·exact r7 z h
  refine .inr ⟨a.length,m.val,fL (nZ hk r2 r5).1 hall,by simp,⟨l1++l2,?_,ER.snoc r1 r4⟩⟩
  have:(a++m::b).eraseIdx a.length=a++b:=by simp [V6]
  rw [this]
  exact hp2
end
end
section
open Go Go.RowKit Go.MapKept
variable [Env]
section
variable {P:Program} {N:Nat} {μ:bu} {σ:St} {w:World} {a:aV} {ca:Act}
theorem dD {t:TypeId} {k:Nat} (h:mM P t k=true):rQ P t=k:=T7 h
theorem pE (em:Bool): ∀(n d:Nat) (t:TypeId) (x:AV) (X:Value),n≤d→VR P μ x X→ga P n t x=true→∀w:World,(V7 em d t X).run P w= .ok () w:=by
 intro n
 induction n with
 |zero=>intro d t x X _ _ h;cases h
 |succ n ih=>
  intro d t x X hd hx h w
  obtain ⟨d,rfl⟩: ∃m,d=m+1:=⟨d - 1,by omega⟩
  replace h:Gn P (ga P n) t x=true:=h
  unfold Gn at h
  cases x with
  |int j a=>
   obtain ⟨_,hu,_,_,_,_,_,_,_,h7,_⟩:=bk (dD h) (by omega)
   obtain ⟨q,rfl⟩:=h7 rfl
   cases hx
   simp [V7,run_underlying hu]
  |str a=>
   obtain ⟨_,hu,_,_,_,_,_,_,_,_,h8⟩:=bk (dD h) (by omega)
   have h8:=h8 rfl
   subst h8
   cases hx
   simp [V7,run_underlying hu]
  |bool a=>
   obtain ⟨_,hu,h0,_⟩:=bk (dD h) (by omega)
   have h0:=h0 rfl
   subst h0
   cases hx
   simp [V7,run_underlying hu]
  |agg xs=>
   replace h: @TH (List (TypeId×Nat)) (fun _=>Bool) false (fun fs=>rT P (ga P n) xs fs) (cS P t)=true:=h
   cases hp:cS P t with
   |none=>rw [hp] at h;cases h
   |some fs=>
    rw [hp] at h
    replace h:rT P (ga P n) xs fs=true:=h
    obtain ⟨fa,hu,_,rfl,hn⟩:=dY hp
    cases hx with
    |agg _ C hC ho=>
     have key: ∀(fl:List Field),rT P (ga P n) xs (fl.map fun f=>(f.type,f.offset))=true→(∀f∈fl,f.name≠ "_")→
      (forIn fl V8 (fun f (_:PUnit)=>if f.name≠ "_" then (do V7 em d f.type (←part f.type C.toArray f.offset);pure (V9 V8):Sem (ForInStep PUnit)) else pure (V9 V8))).run P w= .ok V8 w:=by
      intro fl
      induction fl with
      |nil=>intro _ _;rfl
      |cons f fl ihf=>
       intro h hn
       replace h: @TH AV (fun _=>Bool) false (fun x=>aQ (ga P n f.type x) (rT P (ga P n) xs (fl.map fun f=>(f.type,f.offset))) false) (iJ P f.type xs f.offset)=true:=h
       cases hpa:iJ P f.type xs f.offset with
       |none=>rw [hpa] at h;cases h
       |some p=>
        rw [hpa] at h
        replace h:aQ (ga P n f.type p) (rT P (ga P n) xs (fl.map fun f=>(f.type,f.offset))) false=true:=h
        cases hc:ga P n f.type p with
        |false=>rw [hc] at h;cases h
        |true=>
         rw [hc] at h
         obtain ⟨u,hrun,hv⟩:=fJ (w:=w) hC ho hpa
         have h1:=ih d f.type p u (by omega) hv hc w
         have h2:=ihf h fun f hf=>hn f (Ul _ hf)
         rw [List.forIn_cons]
         simp only [if_pos (hn f (Uk ..)),Uu,hrun,h1,Uv,U2]
         exact h2
     have:=key fa.toList h hn
     unfold V7
     simp only [Uu,run_underlying hu,Uv]
     rw [←Array.forIn_toList]
     have h3:=this
     refine (congrArg (fun r=>Result.andThen r fun _ w'=>Wa P (pure ()) w') (?_:_=Result.ok V8 w)).trans rfl
     exact h3
  |tm ty y=>
   cases ty<;>first |(cases h;done) |skip
   ·obtain ⟨_,hu,_,_,_,_,_,_,_,h7,_⟩:=bk (dD h) (by omega)
    obtain ⟨q,rfl⟩:=h7 rfl
    cases hx with
    |tm _ _ _ h1 h2=>
     obtain ⟨n,h1⟩:=h1
     rw [h1] at h2
     cases h2
     simp [V7,run_underlying hu]
   ·obtain ⟨_,hu,_,_,_,_,_,_,_,_,h8⟩:=bk (dD h) (by omega)
    have h8:=h8 rfl
    subst h8
    cases hx with
    |tm _ _ _ h1 h2=>
     obtain ⟨n,h1⟩:=h1
     rw [h1] at h2
     cases h2
     simp [V7,run_underlying hu]
  |_=>cases h
theorem sK {n:Nat} {t:TypeId} {x:AV} (h:ga P (n+1) t x=true): ∃d,P.underlying t=some d:=by
 replace h:Gn P (ga P n) t x=true:=h
 unfold Gn at h
 cases x with
 |int j a=>obtain ⟨d,hu,_⟩:=bk (dD h) (by omega);exact ⟨d,hu⟩
 |str a=>obtain ⟨d,hu,_⟩:=bk (dD h) (by omega);exact ⟨d,hu⟩
 |bool a=>obtain ⟨d,hu,_⟩:=bk (dD h) (by omega);exact ⟨d,hu⟩
 |agg xs=>
  replace h: @TH (List (TypeId×Nat)) (fun _=>Bool) false (fun fs=>rT P (ga P n) xs fs) (cS P t)=true:=h
  cases hp:cS P t with
  |none=>rw [hp] at h;cases h
  |some fs=>obtain ⟨fa,hu,_⟩:=dY hp;exact ⟨_,hu⟩
 |tm ty y=>
  cases ty<;>first |(cases h;done) |skip
  ·obtain ⟨d,hu,_⟩:=bk (dD h) (by omega);exact ⟨d,hu⟩
  ·obtain ⟨d,hu,_⟩:=bk (dD h) (by omega);exact ⟨d,hu⟩
 |_=>cases h
theorem Hq {k:bf} {es:List (AV×AV)} (h:Gy k=some es):k= .map es:=by cases k<;>first |(cases h;rfl) |cases h
theorem SR.zJ (h:SR P N μ σ w) {b:Pos} {e:eQ} {es:List (AV×AV)} (hb:μ b=some e) (hm:jk σ (.map b)=some es):
 σ.h.get b=some (.map es)∧∃g ents clock,e=⟨⟨g,0,none⟩,none⟩∧N≤g∧w.heap[g]? =some (.map ents clock)∧EP P μ es ents.toList∧jq ents.toList clock:=by
 obtain ⟨k,hk,hi⟩:=aa.1 (show ai (σ.h.get b) Gy=some es from hm)
 obtain rfl:=Hq hi
 obtain ⟨k',hk',hbr⟩:=h.bV b e hb
 rw [hk] at hk'
 cases hk'
 exact ⟨hk,hbr⟩
theorem SR.entries (h:SR P N μ σ w) {m:AV} {M:Value} {es:List (AV×AV)} (hx:VR P μ m M) (hm:jk σ m=some es):
 ∃ents:Array MapEntry,EP P μ es ents.toList∧((M= .map none∧ents= #[])∨∃g clock,M= .map (some g)∧w.heap[g]? =some (.map ents clock)):=by
 cases m with
 |ck=>cases hm;cases hx;exact ⟨#[],EP.nil,.inl ⟨rfl,rfl⟩⟩
 |map b=>
  cases hx with
  |map _ e he=>
   obtain ⟨_,g,ents,clock,rfl,_,h1,h2,_⟩:=h.zJ he hm
   exact ⟨ents,h2,.inr ⟨g,clock,rfl,h1⟩⟩
 |_=>cases hm
theorem n5 {ok b:Bool} {v:AV} {V:Value} (h:VR P μ v V):VR P μ (okV ok v b) (if ok=true then .tuple #[V,.bool b] else V):=by
 cases ok with
 |true=>exact .tuple [v,.bool b] [V,.bool b] (.cons _ _ _ _ h (.cons _ _ _ _ (.bool b) .nil))
 |false=>exact h
theorem BU {t:TypeId} {m kv:AV} {X K:Value} {ok:Bool} {r:aW} (h:SR P N μ σ w) (hx:VR P μ m X) (hk:VR P μ kv K) (hr2:rZ P t ok σ m kv=some r):
 NR P N μ σ w r ((do pure (.value (←Wb t X K ok)):Sem Next).run P w):=by
 obtain ⟨es,hes,hr3⟩:=aa.1 hr2
 obtain ⟨q,hq,hr4⟩:=aa.1 hr3
 obtain ⟨hc,hr5⟩:=aA.1 hr4
 obtain ⟨o,ho,hr6⟩:=aa.1 hr5
 clear hr2 hr3 hr4 hr5
 have hu:=eW hq
 obtain ⟨ents,he,hM⟩:=h.entries hx hes
 obtain ⟨d,hd⟩:=sK (n:=7) hc
 have hchk:=pE (em:=ents.isEmpty) 8 10000 q.1 kv K (by decide) hk hc w
 rcases ES (t:=q.1) hk he ho with ⟨rfl,hf⟩ |⟨v,j,m',rfl,hf,hj,hv⟩
 ·obtain ⟨z,hz,rfl⟩:=ba.1 (show omap (cU P q.2) (fun v=>aW.val (okV ok v false) σ)=some r from hr6)
  obtain ⟨zv,hrun,hzv,_⟩:=cL (μ:=μ) hz w
  refine NR.value h ?_ (n5 hzv)
  have hfk:=hf.run hd w
  unfold Wb
  rcases hM with ⟨rfl,rfl⟩ |⟨g,clock,rfl,hg⟩
  ·simp only [Uu,U2,Uv,run_underlying hu,hchk,hfk,hrun]
  ·simp only [Uu,U2,Uv,run_underlying hu,Wc hg,hchk,hfk,hrun]
 ·cases hr6
  refine NR.value h ?_ (n5 hv)
  have hfk:=hf.run hd w
  unfold Wb
  rcases hM with ⟨rfl,rfl⟩ |⟨g,clock,rfl,hg⟩
  ·simp only [Uu,U2,Uv,run_underlying hu,hchk,hfk]
  ·simp only [Uu,U2,Uv,run_underlying hu,Wc hg,hchk,hfk]
theorem sL {kt:Ty} {k:AV} {K:Value} {x:Tm} (hk:VR P μ k K) (hx:Ki kt k=some x):bA kt (ev x)∧dM μ.fz (ev x) K:=by
 obtain ⟨⟨t',y⟩,h1,hx⟩:=aa.1 hx
 obtain ⟨h2,hx⟩:=aA.1 hx
 cases hx
 have:=jP h2
 subst this
 exact ez hk h1
theorem jU {kt:Ty} {t:TypeId} (h:mM P t (Bi kt)=true):(∃k,kt= .int k∧mM P t 7=true)∨kt= .str∧mM P t 8=true:=by
 cases kt with
 |int k=>exact .inl ⟨k,rfl,h⟩
 |str=>exact .inr ⟨rfl,h⟩
 |_=>
  have h:rQ P t=100:=T7 h
  unfold rQ at h
  split at h<;>cases h
theorem Hr {fz:Addr→Option Value} {kt:Ty} {t:TypeId} {a c:D} {K X:Value} (hK:mM P t (Bi kt)=true) (ha:bA kt a) (hc:bA kt c) (hk:dM fz a K) (hx:dM fz c X):J9 P t K X (gC a c):=by
 rcases jU hK with ⟨k,rfl,h⟩ |⟨rfl,h⟩
 ·exact ru hk hx (.inl ⟨k,ha,hc,h⟩)
 ·exact ru hk hx (.inr ⟨⟨ha,hc⟩,h⟩)
theorem xp {kt:Ty} {t:TypeId} {a:D} {K:Value} {fz:Addr→Option Value} {em:Bool} (hK:mM P t (Bi kt)=true) (ha:bA kt a) (hk:dM fz a K) (w:World):(V7 em 10000 t K).run P w= .ok () w∧∃d,P.underlying t=some d:=by
 have key: ∀n:Nat,(V7 em (n+1) t K).run P w= .ok () w∧∃d,P.underlying t=some d:=by
  intro n
  rcases jU hK with ⟨k,rfl,h⟩ |⟨rfl,h⟩
  ·obtain ⟨_,hu,_,_,_,_,_,_,_,h7,_⟩:=bk (dD h) (by omega)
   obtain ⟨q,rfl⟩:=h7 rfl
   obtain ⟨m,rfl⟩:=ha
   cases hk
   exact ⟨by simp [V7,run_underlying hu],_,hu⟩
  ·obtain ⟨_,hu,_,_,_,_,_,_,_,_,h8⟩:=bk (dD h) (by omega)
   have h8:=h8 rfl
   subst h8
   obtain ⟨m,rfl⟩:=ha
   cases hk
   exact ⟨by simp [V7,run_underlying hu],_,hu⟩
 exact key 9999
theorem KK {kt:Ty} {a c:D} (hkt:(∃k,kt= .int k)∨kt= .str) (ha:bA kt a) (hc:bA kt c) (h:gC a c=true):a=c:=by
 rcases hkt with ⟨k,rfl⟩ |rfl
 ·obtain ⟨n,rfl⟩:=ha
  obtain ⟨m,rfl⟩:=hc
  simp only [gC,decide_true,VZ,beq_iff_eq] at h
  rw [h]
 ·obtain ⟨n,rfl⟩:=ha
  obtain ⟨m,rfl⟩:=hc
  simp only [gC,beq_iff_eq] at h
  rw [h]
theorem PF {kt:Ty} {a:D} (hkt:(∃k,kt= .int k)∨kt= .str) (ha:bA kt a):gC a a=true:=by
 rcases hkt with ⟨k,rfl⟩ |rfl
 ·obtain ⟨n,rfl⟩:=ha
  simp [gC]
 ·obtain ⟨n,rfl⟩:=ha
  simp [gC]
theorem pF {fz:Addr→Option Value} {g:Bool} {kt:Ty} {ts:List Ty} {t:TypeId} {a:D} {K:Value} (hK:mM P t (Bi kt)=true) (ha:bA kt a) (hk:dM fz a K): ∀{l:List (List D)} {ms:List MapEntry},il fz g l ms→(∀r∈l,bg (kt::ts) r)→i9 l→
 (l.any (bC a)=false∧(∀m∈ms,mW P t K m)∧(∀vs,ik a vs l=l++[a::vs])∧kK a l=l)∨
 ∃l1 r l2 m1 m m2,l=l1++r::l2∧ms=m1++m::m2∧il fz g l1 m1∧BA fz g r m∧il fz g l2 m2∧l.any (bC a)=true∧l.find? (bC a)=some r∧r.head?=some a∧J9 P t K m.key true∧(∀x∈m1,mW P t K x)∧(∀x∈m2,mW P t K x)∧(∀vs,ik a vs l=l1++(a::vs)::l2)∧kK a l=l1++l2∧l1.any (bC a)=false∧l2.any (bC a)=false:=by
 have hkt:(∃k,kt= .int k)∨kt= .str:=by
  rcases jU hK with ⟨k,h,_⟩ |⟨h,_⟩
  ·exact .inl ⟨k,h⟩
  ·exact .inr h
 intro l ms h
 induction h with
 |nil=>intro _ _;exact .inl ⟨rfl,fun m h=>absurd h Ub,fun _=>rfl,rfl⟩
 |cons r m l ms hr hs ih=>
  intro hty hko
  obtain ⟨ko1,ko2⟩:=hko
  have ih:=ih (fun r hr=>hty r (Ul _ hr)) ko2
  obtain ⟨d,vs,us,rfl,q1,q2,q3,q4⟩:=hr
  have hr0:BA fz g (d::vs) m:=⟨d,vs,us,rfl,q1,q2,q3,q4⟩
  have hd:bA kt d:=by
   have:=hty _ (Uk ..)
   unfold bg at this
   obtain ⟨d',r',e1,h1,_⟩:=this
   cases e1
   exact h1
  have hEq:=Hr hK ha hd hk q1
  cases hb:gC a d with
  |true=>
   rw [hb] at hEq
   obtain rfl:=KK hkt ha hd hb
   have hany:=ko1 a rfl
   rcases ih with ⟨i1,i2,_,_⟩ |⟨_,_,_,_,_,_,_,_,_,_,_,i1,_⟩
   ·exact .inr ⟨[],a::vs,l,[],m,ms,rfl,rfl,.nil,hr0,hs,by simp [bC,hb],by simp [bC,hb],rfl,hEq,fun m h=>absurd h Ub,i2,fun vs=>by simp [ik,bC,hb],by simp [kK,bC,hb],rfl,i1⟩
   ·rw [hany] at i1;cases i1
  |false=>
   rw [hb] at hEq
   rcases ih with ⟨i1,i2,i3,i4⟩ |⟨l1,r',l2,m1,m',m2,rfl,rfl,j1,j2,j3,j4,j5,j6,j7,j8,j9,j10,j11,j12,j13⟩
   ·refine .inl ⟨by simp [bC,hb,i1],fun x hx=>?_,fun vs'=>by simp [ik,bC,hb,i3],by simp [kK,bC,hb,i4]⟩
    rcases List.mem_cons.1 hx with rfl |hx
    ·exact hEq
    ·exact i2 x hx
   ·refine .inr ⟨(d::vs)::l1,r',l2,m::m1,m',m2,rfl,rfl,.cons _ _ _ _ hr0 j1,j2,j3,by simp only [Wd,j4,Bool.or_true],?_,j6,j7,fun x hx=>?_,j9,fun vs'=>?_,?_,by simp [bC,hb,j12],j13⟩
    ·rw [List.find?_cons_of_neg (by simp [bC,hb])];exact j5
    ·rcases List.mem_cons.1 hx with rfl |hx
     ·exact hEq
     ·exact j8 x hx
    ·show ik a vs' ((d::vs)::(l1++r'::l2))=_
     simp only [ik,bC,hb,cond_false]
     rw [j10 vs'];rfl
    ·show kK a ((d::vs)::(l1++r'::l2))=_
     simp only [kK,bC,hb,cond_false]
     rw [j11];rfl
theorem KL {x k:Tm} {b:Bool} {l:List (List D)} (h:P9 x k=some b) (hx:ev x= .aY l):l.any (bC (ev k))=b:=by
 have:=cf (show di (.op .uL [x,k])=some b from h)
 rw [bN] at this
 simp only [Uc,Ud,hx] at this
 have h2:cD .uL [.aY l,ev k]= .bool (l.any (bC (ev k))):=rfl
 rw [h2] at this
 injection this
theorem SR.gz (h:SR P N μ σ w) {b:Pos} {e:eQ} {g:Bool} {kt:Ty} {ts:List Ty} {x:Tm} (hb:μ b=some e) (hk:σ.h.get b=some (.bW g kt ts x)):BR P N μ w (.bW g kt ts x) e:=by
 obtain ⟨k,h1,h2⟩:=h.bV b e hb
 rw [hk] at h1
 cases h1
 exact h2
theorem ET {t:TypeId} {ok:Bool} {b:Pos} {bl:bf} {kv:AV} {M K:Value} {r:aW} (h:SR P N μ σ w) (hm:VR P μ (.map b) M) (hk:VR P μ kv K) (hb:σ.h.get b=some bl) (hr:Dj P t ok σ kv bl=some r):
 NR P N μ σ w r ((do pure (.value (←Wb t M K ok)):Sem Next).run P w):=by
 cases bl<;>first |(cases hr;done) |skip
 rename_i g kt ts x
 obtain ⟨q,hq,hr1⟩:=aa.1 hr
 obtain ⟨kk,hkk,hr2⟩:=aa.1 hr1
 obtain ⟨hK,hr3⟩:=aA.1 hr2
 obtain ⟨hit,hhit,hr4⟩:=aa.1 hr3
 clear hr hr1 hr2 hr3
 obtain ⟨k1,k2⟩:=sL hk hkk
 have hu:=eW hq
 cases hm with
 |map _ e he=>
  obtain ⟨l,l1,l2,l3,G,ents,clock,ms,rfl,l5,l6,l7,l8,l9⟩:=h.gz he hb
  have hrows: ∀r∈l,bg (kt::ts) r:=by
   obtain ⟨l',e1,h⟩:=l2
   cases e1
   exact h
  obtain ⟨hchk,d,hd⟩:=xp (em:=ents.isEmpty) hK k1 k2 w
  have hany:=KL hhit l1
  rcases pF (P:=P) (t:=q.1) hK k1 k2 l8 hrows l3 with ⟨i1,i2,_⟩ |⟨a1,rr,a2,m1,m,m2,rfl,rfl,j1,j2,j3,j4,j5,j6,j7,j8,j9,_⟩
  ·rw [i1] at hany
   subst hany
   obtain ⟨z,hz,rfl⟩:=ba.1 (show omap (cU P q.2) (fun v=>aW.val (okV ok v false) σ)=some r from hr4)
   obtain ⟨zv,hrun,hzv,_⟩:=cL (μ:=μ) hz w
   have hfk:=(eJ (P:=P) (t:=q.1) (K:=K) (ms:=ents.toList) fun m hm=>i2 m (l7.mem_iff.2 hm)).run hd w
   refine NR.value h ?_ (n5 hzv)
   unfold Wb
   simp only [Uu,U2,Uv,run_underlying hu,Wc l6,hchk,hfk,hrun]
  ·rw [j4] at hany
   subst hany
   cases hr4
   obtain ⟨A,B,hab,hp2⟩:=fM l7
   have hall: ∀z∈A,mW P q.1 K z:=fun z hz=>by
    have:=hp2.mem_iff.2 (V5 B hz)
    rcases List.mem_append.1 this with h |h
    ·exact j8 z h
    ·exact j9 z h
   have hfk:=(fL (P:=P) (t:=q.1) (K:=K) (m:=m) j7 (l2:=B) hall).run hd w
   rw [←hab] at hfk
   obtain ⟨d0,vs,us,rfl,p1,p2,p3,p4⟩:=j2
   have hgot:ev (.op .nA [x,kk])= .ref vs:=by
    rw [bN]
    simp only [Uc,Ud,l1]
    show (match (a1++(d0::vs)::a2).find? (bC (ev kk)) with |some r=>D.ref r.tail |none=>.bad)=_
    rw [j5]
    rfl
   have hvs:bg ts vs:=by
    have:=hrows (d0::vs) (V4 _ (Uk ..))
    unfold bg at this
    obtain ⟨d',r',e1,_,h1⟩:=this
    cases e1
    exact h1
   have hlen:=bT hvs
   have hrep: ∀j d,vs[j]? =some d→dM μ.fz d (us.getD j undef):=fun j d hj=>by
    obtain ⟨u,y1,y2⟩:=p4 j d hj
    rw [List.getD_eq_getElem?_getD,y1]
    exact y2
   have hv:VR P μ (Nw g ts (.op .nA [x,kk])) m.val:=by
    obtain ⟨g1,g2⟩:=gL (P:=P) (μ:=μ) hgot hrep ts 0 hvs
    have hus:(List.range' 0 ts.length).map (fun j=>us.getD j undef)=us:=by
     apply List.ext_getElem
     ·simp;omega
     ·intro i h1 h2
      simp at h1
      simp [UB h2]
    rw [hus] at g1
    unfold Nw
    cases g with
    |true=>
     rw [if_pos rfl] at p2
     rw [p2]
     exact .agg _ _ g1 g2
    |false=>
     rw [if_neg (by simp)] at p2
     subst p2
     cases ts with
     |nil=>simp at hlen;simp at p3;simp [hlen] at p3
     |cons ty ts'=>
      cases g1 with
      |cons _ _ _ _ y1 y2=>exact y1
   refine NR.value h ?_ (n5 hv)
   unfold Wb
   simp only [Uu,U2,Uv,run_underlying hu,Wc l6,hchk,hfk]
theorem vI {m:AV} (h:gz σ m=true): ∃b,m= .map b:=by
 cases m<;>first |exact ⟨_,rfl⟩ |cases h
theorem EU {t:TypeId} {x k:Operand} {ok:Bool} {r:aW} (h:SR P N μ σ w) (ha:AR P μ a ca) (hr:nK t x k ok P a σ=some r):
 NR P N μ σ w r ((do pure (.value (←Wb t (ca.eval x) (ca.eval k) ok)):Sem Next).run P w):=by
 obtain ⟨m,hm,hr1⟩:=aa.1 hr
 obtain ⟨kv,hkv,hr2⟩:=aa.1 hr1
 have hx:=ha.eval h hm
 have hk:=ha.eval h hkv
 replace hr2:aQ (gz σ m) (yP σ m fun _=>Dj P t ok σ kv) (rZ P t ok σ m (kT kv))=some r:=hr2
 cases ht:gz σ m with
 |false=>rw [ht] at hr2;exact BU h hx (sB hk) hr2
 |true=>
  rw [ht] at hr2
  obtain ⟨b,rfl⟩:=vI ht
  obtain ⟨bl,hb,hr3⟩:=aa.1 (show ai (σ.h.get b) (fun k=>Dj P t ok σ kv k)=some r from hr2)
  exact ET h hx hk hb hr3
theorem SR.xq (h:SR P N μ σ w) {b:Pos} {es es':List (AV×AV)} {g clock:Nat} {ents:Array MapEntry} (hb:μ b=some ⟨⟨g,0,none⟩,none⟩) (hk:σ.h.get b=some (.map es)) (hN:N≤g) (hg:w.heap[g]? =some (.map ents clock))
 (ents':Array MapEntry) (clock':Nat) (he:EP P μ es' ents'.toList) (hbn:jq ents'.toList clock'):bI P N μ σ w μ (σ.put b (.map es')) {w with heap:=w.heap.setIfInBounds g (.map ents' clock')}:=by
 have hlt:g<w.heap.size:=(Array.getElem?_eq_some_iff.1 hg).1
 refine h.jO hb hk rfl hN ⟨rfl,rfl,rfl,by simp,fun k _ hne=>?_⟩ ⟨g,ents',clock',rfl,hN,by simp [hlt],he,hbn⟩
 have hne':k≠g:=fun e=>hne (by rw [e])
 exact Ux (Ne.symm hne')
theorem il.append {fz:Addr→Option Value} {g:Bool} {a b:List (List D)} {m n:List MapEntry} (h:il fz g a m) (k:il fz g b n):il fz g (a++b) (m++n):=by
 induction h with
 |nil=>exact k
 |cons r m l ms h _ ih=>exact .cons r m _ _ h ih
theorem EV (a c:D):gC a c=gC c a:=by
 cases a<;>cases c<;>simp only [gC]
 ·rename_i j x k y
  rw [show (decide (j=k))=decide (k=j) from by rw [decide_eq_decide];exact eq_comm,BEq.comm]
 ·rename_i x y
  exact BEq.comm
theorem vJ {k:D}: ∀{l l':List (List D)},l.map We=l'.map We→l.any (bC k)=l'.any (bC k)
 |[],[],_=>rfl
 |[],_::_,h=>by simp at h
 |_::_,[],h=>by simp at h
 |r::l,r'::l',h=>by
  simp only [Uc,Wf] at h
  have:bC k r=bC k r':=by
   cases r<;>cases r'<;>simp_all [bC]
  simp only [Wd,this,vJ h.2]
theorem sM: ∀{l l':List (List D)},l.map We=l'.map We→i9 l→i9 l'
 |[],[],_,h=>h
 |[],_::_,h,_=>by simp at h
 |_::_,[],h,_=>by simp at h
 |r::l,r'::l',h,hk=>by
  simp only [Uc,Wf] at h
  exact ⟨fun k hk'=>by rw [←vJ h.2];exact hk.1 k (h.1.trans hk'),sM h.2 hk.2⟩
theorem vK {a:D} {vs:List D}: ∀{l:List (List D)},i9 l→l.any (bC a)=false→i9 (l++[a::vs])
 |[],_,_=>⟨fun k hk=>by simp,trivial⟩
 |r::l,h,ha=>by
  simp only [Wd,Wg] at ha
  refine ⟨fun k hk=>?_,vK h.2 ha.2⟩
  show (l++[a::vs]).any (bC k)=false
  rw [Wh,h.1 k hk]
  cases r with
  |nil=>simp at hk
  |cons d r=>
   simp at hk
   subst hk
   have:gC a d=false:=ha.1
   simp [bC,EV d a,this]
theorem vL {r:List D} {l2:List (List D)}: ∀{l1:List (List D)},i9 (l1++r::l2)→i9 (l1++l2)
 |[],h=>h.2
 |x::l1,h=>by
  refine ⟨fun k hk=>?_,vL h.2⟩
  have:=h.1 k hk
  replace this:(l1++r::l2).any (bC k)=false:=this
  show (l1++l2).any (bC k)=false
  simp only [Wh,Wd,Wg] at this⊢
  exact ⟨this.1,this.2.2⟩
theorem SR.rv (h:SR P N μ σ w) {b:Pos} {gg gg':Bool} {kt kt':Ty} {ts ts':List Ty} {x x':Tm} {g clock:Nat} {ents:Array MapEntry} (hb:μ b=some ⟨⟨g,0,none⟩,none⟩) (hk:σ.h.get b=some (.bW gg kt ts x)) (hN:N≤g) (hg:w.heap[g]? =some (.map ents clock))
 (ents':Array MapEntry) (clock':Nat) {l:List (List D)} {ms:List MapEntry} (h1:ev x'= .aY l) (h2: ∀r∈l,bg (kt'::ts') r) (h3:i9 l) (h4:ms.Perm ents'.toList) (h5:il μ.fz gg' l ms) (hbn:jq ents'.toList clock'):
 bI P N μ σ w μ (σ.put b (.bW gg' kt' ts' x')) {w with heap:=w.heap.setIfInBounds g (.map ents' clock')}:=by
 have hlt:g<w.heap.size:=(Array.getElem?_eq_some_iff.1 hg).1
 refine h.jO hb hk rfl hN ⟨rfl,rfl,rfl,by simp,fun k _ hne=>?_⟩ ⟨l,h1,⟨l,rfl,h2⟩,h3,g,ents',clock',ms,rfl,hN,by simp [hlt],h4,h5,hbn⟩
 have hne':k≠g:=fun e=>hne (by rw [e])
 exact Ux (Ne.symm hne')
theorem Hs {fz:Addr→Option Value} {kt:Ty} {a:D} {K X:Value} (hkt:(∃k,kt= .int k)∨kt= .str) (ha:bA kt a) (hK:dM fz a K) (hX:dM fz a X) (n:Nat):VY n X K=true:=by
 rcases hkt with ⟨k,rfl⟩ |rfl
 ·obtain ⟨m,rfl⟩:=ha
  cases hK;cases hX
  cases n<;>simp [VY]
 ·obtain ⟨m,rfl⟩:=ha
  cases hK with
  |str _ s h1=>cases hX with
   |str _ s' h2=>
    obtain rfl:=str_inj (h1.trans h2.symm)
    cases n<;>simp [VY,bytes_beq]
theorem Ht {t:TypeId} {b:Pos} {bl:bf} {kv xv:AV} {M K V:Value} {r:aW} (h:SR P N μ σ w) (hm:VR P μ (.map b) M) (hk:VR P μ kv K) (hv:VR P μ xv V) (hb:σ.h.get b=some bl) (hr:Ez P t σ kv xv b bl=some r):
 NR P N μ σ w r ((do Wi t M K V;pure .skip:Sem Next).run P w):=by
 cases bl<;>first |(cases hr;done) |skip
 rename_i g kt ts x
 obtain ⟨q,hq,hr1⟩:=aa.1 hr
 obtain ⟨kk,hkk,hr2⟩:=aa.1 hr1
 obtain ⟨hc,hr3⟩:=aA.1 hr2
 obtain ⟨y,hy,hr4⟩:=aa.1 hr3
 clear hr hr1 hr2 hr3
 rw [Uj] at hc
 obtain ⟨hK,hgg⟩:=hc
 have hgg:=eq_of_beq hgg
 have hrest:y.2=[]∧r= .skip (σ.put b (.bW g kt ts (.op .rN (x::kk::y.1)))):=by
  cases h2:y.2 with
  |nil=>rw [h2] at hr4;cases hr4;exact ⟨rfl,rfl⟩
  |cons _ _=>rw [h2] at hr4;cases hr4
 obtain ⟨hy2,rfl⟩:=hrest
 obtain ⟨k1,k2⟩:=sL hk hkk
 have hu:=eW hq
 have hkt:(∃k,kt= .int k)∨kt= .str:=by
  rcases jU hK with ⟨k,h,_⟩ |⟨h,_⟩
  ·exact .inl ⟨k,h⟩
  ·exact .inr h
 by_cases hbad:xv= .bad
 ·subst hbad
  cases ts with
  |nil=>cases hy;cases hy2
  |cons ty ts=>cases ty<;>cases hy
 have hcells:=hv.cells hbad
 obtain ⟨g1,us',g2,g3,g4,g5⟩:=js hcells hy
 rw [hy2] at g2
 cases g2
 rw [List.append_nil] at g3
 have hlen:V.cells.toList.length=(y.1.map ev).length:=by
  rw [bT g1,g3,Ur,Us g4]
 have hrow: ∀born:Nat,BA μ.fz g (ev kk::y.1.map ev) {key:=K,val:=V,born:=born}:=by
  intro born
  refine ⟨_,_,V.cells.toList,rfl,k2,?_,hlen,fun j d hj=>g5 j d hj⟩
  cases g with
  |true=>
   rw [if_pos rfl]
   cases xv<;>first |(cases hgg;done) |skip
   cases hv with
   |agg _ C _ _=>rfl
  |false=>
   rw [if_neg (by simp)]
   cases hv<;>first |(cases hgg;done) |rfl |skip
   all_goals first
    |(rw [dM.cells (by assumption)])
    |(rename_i hh;rcases hh with ⟨rfl |⟨_,rfl⟩,_⟩ |⟨m,c,rfl,_⟩<;>rfl)
    |(cases hy)
    |(exact absurd rfl hbad)
    |skip
   all_goals (rename_i hh _;cases hy)
 cases hm with
 |map _ e he=>
  obtain ⟨l,l1,l2,l3,G,ents,clock,ms,rfl,l5,l6,l7,l8,l9⟩:=h.gz he hb
  have hrows: ∀r∈l,bg (kt::ts) r:=by
   obtain ⟨l',e1,h⟩:=l2
   cases e1
   exact h
  have hnew:bg (kt::ts) (ev kk::y.1.map ev):=by unfold bg;exact ⟨_,_,rfl,k1,g1⟩
  obtain ⟨hchk,d,hd⟩:=xp (em:=false) hK k1 k2 w
  have hev:ev (.op .rN (x::kk::y.1))= .aY (ik (ev kk) (y.1.map ev) l):=by
   rw [bN]
   simp only [Uc,l1]
   rfl
  rcases pF (P:=P) (t:=q.1) hK k1 k2 l8 hrows l3 with ⟨i1,i2,i3,_⟩ |⟨a1,rr,a2,m1,m,m2,rfl,rfl,j1,j2,j3,j4,j5,j6,j7,j8,j9,j10,_,j12,j13⟩
  ·have hfk:=(eJ (P:=P) (t:=q.1) (K:=K) (ms:=ents.toList) fun m hm=>i2 m (l7.mem_iff.2 hm)).run hd w
   rw [i3] at hev
   refine ⟨μ,_,?_,h.rv he hb l5 l6 (ents.push {key:=K,val:=V,born:=clock}) (clock+1) (ms:=ms++[{key:=K,val:=V,born:=clock}]) hev (fun r hr=>?_) (vK l3 i1) (by simpa using l7.append_right _) (l8.append (.cons _ _ [] [] (hrow clock) .nil)) (by simpa using l9.push {key:=K,val:=V,born:=clock} rfl)⟩
   ·unfold Wi
    simp only [Uu,U2,Uv,run_underlying hu,Wc l6,hchk,hfk,Wj _ l6]
   ·rcases List.mem_append.1 hr with h |h
    ·exact hrows r h
    ·rw [List.mem_singleton.1 h];exact hnew
  ·obtain ⟨A,B,hab,hp2⟩:=fM l7
   have hall: ∀z∈A,mW P q.1 K z:=fun z hz=>by
    have:=hp2.mem_iff.2 (V5 B hz)
    rcases List.mem_append.1 this with h |h
    ·exact j8 z h
    ·exact j9 z h
   have hfk:=(fL (P:=P) (t:=q.1) (K:=K) (m:=m) j7 (l2:=B) hall).run hd w
   rw [←hab] at hfk
   have hje:ents[A.length]? =some m:=by rw [←U8,hab];simp
   obtain ⟨d0,vs,us,rfl,p1,p2,p3,p4⟩:=j2
   obtain rfl:d0=ev kk:=by simpa using j6
   have hbits:=Hs hkt k1 k2 p1 10000
   have hmod:(ents.modify A.length fun e=>{e with key:=K,val:=V}).toList=A++{m with key:=K,val:=V}::B:=by
    rw [Wk,hab]
    exact BT _ _ _ _
   rw [j10] at hev
   refine ⟨μ,_,?_,h.rv he hb l5 l6 (ents.modify A.length fun e=>{e with key:=K,val:=V}) clock (ms:=m1++{m with key:=K,val:=V}::m2) hev (fun r hr=>?_) (sM (by simp) l3) ?_ (j1.append (.cons _ _ _ _ (hrow m.born) j3)) ?_⟩
   ·unfold Wi Wl
    simp only [Uu,U2,Uv,run_underlying hu,Wc l6,hchk,hfk,Wj _ l6,hje,VN,Wm,hbits,if_true]
   ·rcases List.mem_append.1 hr with h |h
    ·exact hrows r (V5 _ h)
    ·rcases List.mem_cons.1 h with rfl |h
     ·exact hnew
     ·exact hrows r (V4 _ (Ul _ h))
   ·rw [hmod]
    exact (List.perm_middle.trans (hp2.cons _)).trans List.perm_middle.symm
   ·rw [Wk]
    exact l9.modify A.length (fun e=>{e with key:=K,val:=V}) (fun _=>rfl)
theorem Hu {t:TypeId} {b:Pos} {bl:bf} {kv:AV} {M K:Value} {r:aW} (h:SR P N μ σ w) (hm:VR P μ (.map b) M) (hk:VR P μ kv K) (hb:σ.h.get b=some bl) (hr:Nq P t σ kv b bl=some r) {ats:Array TypeId} {ty:TypeId} (h0:ats[0]? =some t):
 NR P N μ σ w r ((do pure (.value (←Wn ats ty #[M,K])):Sem Next).run P w):=by
 cases bl<;>first |(cases hr;done) |skip
 rename_i g kt ts x
 obtain ⟨q,hq,hr1⟩:=aa.1 hr
 obtain ⟨kk,hkk,hr2⟩:=aa.1 hr1
 obtain ⟨hK,hr3⟩:=aA.1 hr2
 cases hr3
 clear hr hr1 hr2
 obtain ⟨k1,k2⟩:=sL hk hkk
 have hu:=eW hq
 cases hm with
 |map _ e he=>
  obtain ⟨l,l1,l2,l3,G,ents,clock,ms,rfl,l5,l6,l7,l8,l9⟩:=h.gz he hb
  have hrows: ∀r∈l,bg (kt::ts) r:=by
   obtain ⟨l',e1,h⟩:=l2
   cases e1
   exact h
  obtain ⟨hchk,d,hd⟩:=xp (em:=ents.isEmpty) hK k1 k2 w
  have hgo:=Wc (P:=P) l6
  have hev:ev (.op .Ba [x,kk])= .aY (kK (ev kk) l):=by
   rw [bN]
   simp only [Uc,Ud,l1]
   rfl
  rcases pF (P:=P) (t:=q.1) hK k1 k2 l8 hrows l3 with ⟨i1,i2,_,i4⟩ |⟨a1,rr,a2,m1,m,m2,rfl,rfl,j1,j2,j3,j4,j5,j6,j7,j8,j9,_,j11,j12,j13⟩
  ·have hfk:=(eJ (P:=P) (t:=q.1) (K:=K) (ms:=ents.toList) fun m hm=>i2 m (l7.mem_iff.2 hm)).run hd w
   rw [i4] at hev
   refine (h.rv he hb l5 l6 ents clock hev hrows l3 l7 l8 l9).val (u:=.tuple #[]) ?_ (.tuple [] [] .nil)
   unfold Wn
   simp only [h0,Wo,Wq,Wr,Uu,U2,Uv,run_underlying hu,hgo,hchk,hfk,Wj _ l6]
  ·obtain ⟨A,B,hab,hp2⟩:=fM l7
   have hall: ∀z∈A,mW P q.1 K z:=fun z hz=>by
    have:=hp2.mem_iff.2 (V5 B hz)
    rcases List.mem_append.1 this with h |h
    ·exact j8 z h
    ·exact j9 z h
   have hfk:=(fL (P:=P) (t:=q.1) (K:=K) (m:=m) j7 (l2:=B) hall).run hd w
   rw [←hab] at hfk
   have hlt:A.length<ents.size:=by
    have:=congrArg Ws hab
    simp at this
    omega
   have he2:(ents.eraseIdxIfInBounds A.length).toList=A++B:=by
    simp [Wt,hlt,hab,V6]
   rw [j11] at hev
   refine (h.rv he hb l5 l6 (ents.eraseIdxIfInBounds A.length) clock hev (fun r hr=>?_) (vL l3) (by rw [he2];exact hp2) (j1.append j3) (by simpa [Wt,hlt] using l9.erase A.length)).val (u:=.tuple #[]) ?_ (.tuple [] [] .nil)
   ·rcases List.mem_append.1 hr with h |h
    ·exact hrows r (V5 _ h)
    ·exact hrows r (V4 _ (Ul _ h))
   ·unfold Wn
    simp only [h0,Wo,Wq,Wr,Uu,U2,Uv,run_underlying hu,hgo,hchk,hfk,Wj _ l6]
theorem Hv {t:TypeId} {x:Operand} {r:aW} (h:SR P N μ σ w) (ha:AR P μ a ca) (hr:sh t x P a σ=some r):
 NR P N μ σ w r ((do pure (.value (←Wu t (ca.eval x))):Sem Next).run P w):=by
 obtain ⟨v,hv,hr1⟩:=aa.1 hr
 have hx:=ha.eval h hv
 clear hr
 generalize ca.eval x=X at*
 cases v with
 |str l=>
  obtain ⟨ht,hr2⟩:=aA.1 hr1
  cases hr2
  have hu:=qF ht
  cases hx with
  |str _ s hs=>
   have hg:bI P N μ σ w (dr μ σ.n ⟨⟨w.heap.size,0,none⟩,none⟩) (σ.push (.fD l 0)) (w.alloc (.stringIter s 0)):=
    h.laid (UF w _ none) (Uh _) ⟨w.heap.size,s,rfl,h.hN,heap_alloc_new w _,hs⟩
   refine hg.val (u:=.pointer (some ⟨w.heap.size,0,none⟩)) (by simp [Wu,run_underlying hu]) ?_
   have:=VR.ptr (P:=P) (μ:=dr μ σ.n ⟨⟨w.heap.size,0,none⟩,none⟩) σ.n 0 _ (dK _ _ _)
   simpa [add_nil] using this
 |ck=>
  obtain ⟨q,hq,hr2⟩:=aa.1 hr1
  cases hr2
  have hu:=eW hq
  cases hx
  have hg:bI P N μ σ w (dr μ σ.n ⟨⟨w.heap.size,0,none⟩,none⟩) (σ.push (.A8 none)) (w.alloc (.mapIter none 0 #[] 0)):=
   h.laid (UF w _ none) (Uh _) ⟨w.heap.size,rfl,h.hN,by rw [heap_alloc_new w _];exact ⟨_,_,_,rfl⟩⟩
  refine hg.val (u:=.pointer (some ⟨w.heap.size,0,none⟩)) (by simp [Wu,run_underlying hu]) ?_
  have:=VR.ptr (P:=P) (μ:=dr μ σ.n ⟨⟨w.heap.size,0,none⟩,none⟩) σ.n 0 _ (dK _ _ _)
  simpa [add_nil] using this
 |map b=>
  obtain ⟨q,hq,hr2⟩:=aa.1 hr1
  obtain ⟨es,hes,hr3⟩:=aa.1 hr2
  cases hr3
  have hu:=eW hq
  cases hx with
  |map _ e he=>
   obtain ⟨hk,g,ents,clock,rfl,hN,hgh,_⟩:=h.zJ he hes
   have hsub:Sub μ (dr μ σ.n ⟨⟨w.heap.size,0,none⟩,none⟩):=fq (.inl h.fresh)
   have hg:bI P N μ σ w (dr μ σ.n ⟨⟨w.heap.size,0,none⟩,none⟩) (σ.push (.A8 (some b))) (w.alloc (.mapIter (some g) clock #[] clock)):=
    h.laid (UF w _ none) (Uh _) ⟨w.heap.size,rfl,h.hN,by rw [heap_alloc_new w _];exact ⟨_,_,_,hsub _ _ he,rfl⟩⟩
   refine hg.val (u:=.pointer (some ⟨w.heap.size,0,none⟩)) (by simp [Wu,run_underlying hu,Wc hgh]) ?_
   have:=VR.ptr (P:=P) (μ:=dr μ σ.n ⟨⟨w.heap.size,0,none⟩,none⟩) σ.n 0 _ (dK _ _ _)
   simpa [add_nil] using this
 |_=>cases hr1
theorem KM {x:Operand} {str:Bool} {ty:TypeId} {r:aW} (h:SR P N μ σ w) (ha:AR P μ a ca) (hr:yV x str P a σ=some r):
 NR P N μ σ w r ((do pure (.value (←Wv (ca.eval x) str ty)):Sem Next).run P w):=by
 obtain ⟨v,hv,hr2⟩:=aa.1 hr
 have hx:=ha.eval h hv
 clear hr
 generalize ca.eval x=X at*
 cases v with
 |ptr b o=>cases o with
  |succ o=>cases hr2
  |zero=>
   obtain ⟨k,hk,hr3⟩:=aa.1 hr2
   cases hx with
   |ptr _ _ e he=>
    obtain ⟨k',hk',hbr⟩:=h.bV b e he
    rw [hk] at hk'
    cases hk'
    cases str with
    |false=>
     replace hr3:Dk σ k=some r:=hr3
     cases k with
     |A8 m=>
      obtain ⟨g,rfl,hN,hm⟩:=hbr
      rw [add_nil]
      cases m with
      |none=>
       cases hr3
       obtain ⟨since,seen,last,hg⟩:=hm
       refine NR.value h (u:=.tuple #[.bool false]) ?_ (.tuple _ [_] (.cons _ _ _ _ (.bool false) .nil))
       have hgo:(getObj g).run P w= .ok (.mapIter none since seen last) w:=by simp [getObj,Wa,hg]
       simp [Wv,hgo]
      |some b'=>
       obtain ⟨es,hes,hr4⟩:=aa.1 (show ai (jk σ (.map b')) (yQ σ)=some r from hr3)
       obtain ⟨em,since,last,hem,hg⟩:=hm
       cases es with
       |cons _ _=>cases hr4
       |nil=>
        cases hr4
        obtain ⟨_,gm,ents,clock,rfl,_,hgm,⟨l,hl1,hl2⟩,_⟩:=h.zJ hem hes
        cases hl2
        have he0:ents= #[]:=by
         have:=hl1.length_eq
         apply Array.ext'
         have h0:ents.toList.length=0:=by simpa using this.symm
         rw [List.eq_nil_of_length_eq_zero h0]
        subst he0
        refine NR.value h (u:=.tuple #[.bool false]) ?_ (.tuple _ [_] (.cons _ _ _ _ (.bool false) .nil))
        have hgo:(getObj g).run P w= .ok (.mapIter (some gm) since #[] last) w:=by simp [getObj,Wa,hg]
        simp [Wv,hgo,Wc hgm,choose,Wa,Question.forced]
     |_=>cases hr3
    |true=>
    replace hr3:Bq σ b k=some r:=hr3
    cases k with
    |fD l p=>
     obtain ⟨g,bs,rfl,hN,hg,hl⟩:=hbr
     have hgo:(getObj g).run P w= .ok (.stringIter bs p) w:=by simp [getObj,Wa,hg]
     have hlen:l.length=bs.size:=by rw [←hl];simp
     rw [add_nil]
     unfold Bq at hr3
     simp only at hr3
     split at hr3
     ·rename_i hd
      cases hr3
      have hp: ¬p<bs.size:=by
       have:=congrArg Ws hd
       simp at this
       omega
      refine NR.value h (u:=.tuple #[.bool false]) ?_ (.tuple _ [_] (.cons _ _ _ _ (.bool false) .nil))
      simp [Wv,hgo,hp]
     ·rename_i c rest hd
      obtain ⟨hc,hr4⟩:=aA.1 hr3
      cases hr4
      have hc:c≤127:=Ua hc
      have hp:p<bs.size:=by
       have:=congrArg Ws hd
       simp at this
       omega
      have hcb:(bs[p]'hp).toNat=c:=by
       have h1:l[p]? =some c:=by
        have:=congrArg (·[0]?) hd
        simpa using this
       rw [←hl] at h1
       simp at h1
       obtain ⟨b',hb',rfl⟩:=h1
       have h2:bs.data[p]? =some (bs[p]'hp):=by
        rw [UG (by simpa using hp)];rfl
       rw [h2] at hb'
       cases hb'
       rfl
      have hdec:=decode_ascii bs p hp (by omega)
      have hlt:g<w.heap.size:=(Array.getElem?_eq_some_iff.1 hg).1
      have hset:(setObj g (.stringIter bs (p+1))).run P w= .ok () {w with heap:=w.heap.setIfInBounds g (.stringIter bs (p+1))}:=by simp [setObj,Wa,hg]
      have hG:bI P N μ σ w μ (σ.put b (.fD l (p+1))) {w with heap:=w.heap.setIfInBounds g (.stringIter bs (p+1))}:=by
       refine h.jO he hk rfl hN ⟨rfl,rfl,rfl,by simp,fun k _ hne=>?_⟩ ⟨g,bs,rfl,hN,by simp [hlt],hl⟩
       have hne':k≠g:=fun e=>hne (by rw [e])
       exact Ux (Ne.symm hne')
      refine hG.val (u:=.tuple #[.bool true,.int .i64 (TP p),.int .i32 (TP c)]) ?_ (.tuple _ [_,_,_] (.cons _ _ _ _ (.bool true) (.cons _ _ _ _ (.int _ _) (.cons _ _ _ _ (.int _ _) .nil))))
      simp only [Wv,Uu,U2,Uv,hgo,if_pos hp,hdec,hset,hcb]
      rfl
    |_=>cases hr3
 |_=>cases hr2
end
end
section
open Go Go.RowKit Go.MapKept
variable [Env]
section
variable {P:Program} {N:Nat} {μ:bu} {σ:St} {w:World} {a:aV} {ca:Act}
theorem SR.DA (h:SR P N μ σ w) {w':World} {us':Array Value} {t:TypeId} (hw:w'.heap=w.heap.push (.cells us' t (0,0))) (hos:w'.os=w.os) (htp:w'.tape=w.tape) (hout:w'.output=w.output) {vs:List AV} {us:List Value} (hv:bZ P μ vs us) (ho:cd vs=true)
 (hu:us'.toList.take us.length=us):bI P N μ σ w (dr μ σ.n ⟨⟨w.heap.size,0,none⟩,some (us'.size,t)⟩) (σ.row t vs) w':=by
 have hl:vs.length=us.length:=hv.length
 have hle:us.length≤us'.size:=by
  have:=congrArg Ws hu
  simp at this
  omega
 refine h.laid ⟨hos,htp,hout,by rw [hw];simp,fun k hk _=>by rw [hw,Array.getElem?_push,if_neg (by omega)]⟩ (Uh _) ⟨w.heap.size,us'.size,us',rfl,h.hN,by rw [hw];simp,rfl,by omega,fun i hi=>?_⟩
 obtain ⟨v,hvi⟩: ∃v,vs[i]? =some v:=⟨vs[i],UB hi⟩
 obtain ⟨u,hu',hr⟩:=hv.get hvi
 refine ⟨v,u,by rw [Cs.i7];exact hvi,?_,hr.mono (fq (.inl h.fresh)),gh ho hvi⟩
 rw [←hu,T4,if_pos (by omega)] at hu'
 simpa using hu'
theorem SR.news (h:SR P N μ σ w) {z k:Nat} {y:AV} {Y:Value} {new:List AV} (hy:VR P μ y Y) (hn:Dd z σ y=some (k,new)):
 ∃us:List Value,bZ P μ new us∧cd new=true∧us.length=k*z∧
  ((Y= .slice none 0 0∧k=0)∨∃ad c,Y= .slice (some ad) k c∧∀j u,us[j]? =some u→w.cell? (ad.add j)=some u):=by
 cases y with
 |aJ=>cases hn;cases hy;exact ⟨[],.nil,rfl,by simp,.inl ⟨rfl,rfl⟩⟩
 |e0 zz=>cases hn;cases hy with |e0 _ ad c _ _=>exact ⟨[],.nil,rfl,by simp,.inr ⟨ad,c,rfl,fun j u hj=>by simp at hj⟩⟩
 |slice b o n lim wh=>
  obtain ⟨cs,hcs,hq⟩:=ba.1 (show omap (σ.cells b o (TW n z)) (fun cs=>(n,cs))=some (k,new) from hn)
  cases hq
  cases hy with
  |slice _ _ _ _ _ en ad c he had hnc hm hl hc=>
   obtain ⟨h1,h2,us,h3,h4,h5⟩:=h.gM he hcs
   refine ⟨us,h3,h2,h4,.inr ⟨ad,c,rfl,fun j u hj=>?_⟩⟩
   have hjl:j<us.length:=(List.getElem?_eq_some_iff.1 hj).1
   rw [h4] at hjl
   have hn0:0<k:=by
    rcases VI k with h0 |h0
    ·subst h0;simp at hjl
    ·exact h0
   obtain rfl:ad=en.a.add o:=had.elim id (fun h=>by omega)
   rw [add_add,h5 j hjl]
   exact hj
 |_=>cases hn
theorem iT {t ty e:TypeId} {z:Nat} {base:Option Addr} {n c:Nat} {Y:Value} (ht:P.underlying t=some (.slice e)) (hz:bD P e=some z) (hnc:n≤c) (hY:Y= .slice none 0 0∨∃ad c',Y= .slice (some ad) 0 c'):
 (Ww #[t,t] ty #[.slice base n c,Y]).run P w= .ok (.slice base n c) w:=by
 rcases hY with rfl |⟨ad,c',rfl⟩
 ·cases base with
  |none=>simp [Ww,run_underlying ht,bq hz,Wx,hnc,Wy]
  |some b=>simp [Ww,run_underlying ht,bq hz,Wx,hnc,Wy,storeCells]
 ·cases base with
  |none=>simp [Ww,run_underlying ht,bq hz,Wx,hnc,Wy,loadCells,loadCellsFrom]
  |some b=>simp [Ww,run_underlying ht,bq hz,Wx,hnc,Wy,loadCells,loadCellsFrom,storeCells]
theorem SR.append (h:SR P N μ σ w) {w':World} {b:Pos} {g sz:Nat} {t e:TypeId} {len:Nat} {c c':Cs} {len':Nat} (hb:μ b=some ⟨⟨g,0,none⟩,some (sz,t)⟩) (hk:σ.h.get b=some (.cells true t len c)) (hN:N≤g) {g':Nat} {cur:Array Value}
 (hg:w.grownBy w' (some g)) (hg':g'=g∨g'=w.heap.size) (hcur:w'.heap[g']? =some (.cells cur e (0,0))) (hlen:len'≤cur.size) (hcr:CR P μ c' len' (fun i=>cur[i]?)):
 bI P N μ σ w (dr μ σ.n ⟨⟨g',0,none⟩,some (cur.size,e)⟩) ((σ.put b .dead).push (.cells true e len' c')) w':=by
 have hbr:BR P N μ w (.cells true t len c) ⟨⟨g,0,none⟩,some (sz,t)⟩:=by
  obtain ⟨k,h1,h2⟩:=h.bV b _ hb
  rw [hk] at h1;cases h1;exact h2
 have h1:bI P N μ σ w μ (σ.put b .dead) w:=h.jO (k:=.dead) hb hk rfl hN (iq w _) ⟨.inl hN,hbr.lt⟩
 have hsn:(σ.put b .dead).n=σ.n:=iO σ b .dead
 have hfr:μ σ.n=none:=h.fresh
 have hne: ∀x ex kx,x≠σ.n→μ x=some ex→(σ.put b .dead).h.get x=some kx→bS kx=false→ex.a.block≠g:=by
  intro x ex kx _ hx hkx hd he
  rw [fU] at hkx
  by_cases hxb:b=x
  ·subst hxb;rw [if_pos rfl] at hkx;cases hkx;cases hd
  ·rw [if_neg hxb] at hkx
   exact hxb (h.inj b x _ ex _ kx hb hx hk hkx rfl hd hN he.symm)
 have h2:=h1.sr.BB (w':=w') (b:=σ.n) (e:=⟨⟨g',0,none⟩,some (cur.size,e)⟩) (k:=.cells true e len' c') (σ':=(σ.put b .dead).push (.cells true e len' c')) (some g) hg
  (.inr ⟨hfr,by rw [hsn];exact Uh _,by
   rcases hg' with rfl |rfl
   ·exact .inr ⟨b,_,hb,rfl⟩
   ·exact .inl (Uh _)⟩)
  (fun x=>by rw [bM,hsn]) (by rw [dO,hsn,Pos.bX];omega) (by rw [dO,hsn,Pos.bX];omega)
  ⟨g',cur.size,cur,rfl,hg'.elim (fun q=>q▸hN) (fun q=>q▸h.hN),hcur,rfl,hlen,hcr.mono (fq (.inl hfr))⟩
  (fun g₁ hg₁=>by cases hg₁;exact ⟨hN,⟨b,_,hb,rfl⟩,fun x ex kx hx hm hkx hd=>hne x ex kx hx hm hkx hd⟩)
  (fun _ _ x ex kx hx hm hkx hd=>by
   rcases hg' with rfl |rfl
   ·exact hne x ex kx hx hm hkx hd
   ·obtain ⟨k',_,q2⟩:=h1.sr.bV x ex hm
    have:=q2.lt
    exact Nat.ne_of_lt this)
  (fun g₁ hg₁ ad v ha hbl=>by cases hg₁;exact absurd hbl (h.apart b _ _ hb hk rfl hN ad v ha))
  (fun _ _ ad v ha=>by
   rcases hg' with rfl |rfl
   ·exact h.apart b _ _ hb hk rfl hN ad v ha
   ·exact Nat.ne_of_lt (jN (h.fB ad v ha)))
 exact h1.trans h2
theorem zK {t:TypeId} {ty e z by_ k:Nat} {x y zv:AV} {new:List AV} {X Y:Value} {r:aW} (h:SR P N μ σ w) (hx:VR P μ x X) (hy:VR P μ y Y) (he:dt P t=some e) (hz:bD P e=some z) (hby:iZ P e=some by_) (hzv:cU P e=some zv) (hnew:Dd z σ y=some (k,new))
 (hb:qz e z by_ zv x k=true) (hr6:nG e z k new σ x=some r):NR P N μ σ w r ((do pure (.value (←Ww #[t,t] ty #[X,Y])):Sem Next).run P w):=by
 unfold qz at hb
 simp only [Uj] at hb
 obtain ⟨⟨⟨⟨b1,b2⟩,b3⟩,b4⟩,b5⟩:=hb
 have b1:1≤z:=Ua b1
 have b2:zv.cells.length=z:=T7 b2
 have b4:1≤by_:=Ua b4
 have b5:(lenOf x+k)*by_≤35184372088832:=Ua b5
 have b6:lenOf x+k≤35184372088832:=Ui (Nat.le_mul_of_pos_right _ b4) b5
 have hu:=cB he
 obtain ⟨Z,_,hZ,i,hi,hzz⟩:=cL (μ:=μ) hzv w
 obtain ⟨i',hi',rfl⟩:=eV hby
 rw [hi] at hi'
 cases hi'
 have hsi:i.size=z:=by unfold bD at hz;rw [hi] at hz;cases hz;rfl
 have hzc:=hZ.cells (bR b3)
 have hzs:Z.cells.size=z:=by rw [←b2];simpa using hzc.length.symm
 obtain ⟨us,hus,hou,hul,hY⟩:=h.news hy hnew
 have fresh: ∀(n cap:Nat) (olds:List Value) (gY:List AV),bZ P μ gY olds→cd gY=true→olds.length=n*z→n+k≤35184372088832→∀w',w'=w.drew.alloc (.cells (olds.toArray++us.toArray++Wz Z.cells (grownCap w (n+k) cap e - (n+k))) e)→
  ∀s:Sem Value,s.run P w= .ok (.slice (some ⟨w.heap.size,0,none⟩) (n+k) (grownCap w (n+k) cap e)) w'→
  NR P N μ σ w (.val (.slice σ.n 0 (n+k) false true) (σ.row e (gY++new))) ((do pure (.value (←s)):Sem Next).run P w):=by
  intro n cap olds gY ho1 ho2 hol hnk w' hw s hs
  subst hw
  have hge:=grownCap_ge w (n+k) cap e
  have hle:=grownCap_le_maxLen w (n+k) cap e (by simp only [maxLen];omega)
  have hg:=h.DA (w':=w.drew.alloc (.cells (olds.toArray++us.toArray++Wz Z.cells (grownCap w (n+k) cap e - (n+k))) e))
   (us':=olds.toArray++us.toArray++Wz Z.cells (grownCap w (n+k) cap e - (n+k))) (t:=e) rfl rfl rfl rfl (ho1.append hus) (eU ho2 hou)
   (by simp only [Array.toList_append,UW];rw [←UW];exact List.take_left)
  refine hg.val hs ?_
  refine VR.slice σ.n 0 (n+k) false true _ _ _ (dK _ _ _) (.inl (by rw [add_nil])) hge hle (by simp) (fun _ _ sz t' hsz=>?_)
  cases hsz
  rw [cp hz]
  simp only [Array.size_append,List.size_toArray,size_zeroCells,hzs,hol,hul,←Nat.add_mul]
  congr 1
  omega
 have hk0:k=0→Y= .slice none 0 0∨∃ad c',Y= .slice (some ad) 0 c':=by
  intro hk
  rcases hY with ⟨h1,_⟩ |⟨ad,c,h1,_⟩
  ·exact .inl h1
  ·exact .inr ⟨ad,c,by rw [h1,hk]⟩
 have hk1:k≠0→∃ad c,Y= .slice (some ad) k c∧∀j u,us[j]? =some u→w.cell? (ad.add j)=some u:=by
  intro hk
  rcases hY with ⟨_,h1⟩ |h1
  ·exact absurd h1 hk
  ·exact h1
 cases x with
 |aJ=>
  cases hx
  replace hr6:aQ (TJ k 0) (some (.val .aJ σ)) (some (.val (.slice σ.n 0 k false true) (σ.row e new)))=some r:=hr6
  cases hk:TJ k 0 with
  |true=>
   rw [hk] at hr6
   cases hr6
   exact NR.value h (by simp only [Uu,iT hu hz (Uh 0) (hk0 (T7 hk)),Uv];rfl) .aJ
  |false=>
   rw [hk] at hr6
   cases hr6
   have hk:k≠0:=fun q=>by subst q;cases hk
   obtain ⟨ad,c,rfl,hcell⟩:=hk1 hk
   have hrun:=run_append_nil (P:=P) w t ty e i Z hu hi hzz ad k c us (by rw [hul,hsi]) hcell (by omega) (by simp [lenOf] at b6;omega) (by simp only [lenOf,Nat.zero_add] at b5;omega)
   have:=fresh 0 0 [] [] .nil rfl (by simp) (by simpa [lenOf] using b6) _ rfl (Ww #[t,t] ty #[.slice none 0 0,.slice (some ad) k c]) (by simpa using hrun)
   simpa using this
 |slice b o n lim wh=>
  replace hr6:aQ (TJ k 0) (some (.val (.slice b o n lim wh) σ))
   (aQ lim (omap (σ.cells b o (TW n z)) fun gY=>.val (.slice σ.n 0 (TS n k) false true) (σ.row e (gY++new)))
    (aQ (wh&&TJ o 0) (ai (σ.h.get b) (kW e b n k z new σ)) none))=some r:=hr6
  have hx0:=hx
  cases hx with
  |slice _ _ _ _ _ en ad c hen had hnc hmc hlim hc=>
  cases hk:TJ k 0 with
  |true=>
   rw [hk] at hr6
   cases hr6
   exact NR.value h (by simp only [Uu,iT hu hz hnc (hk0 (T7 hk)),Uv];rfl) hx0
  |false=>
   rw [hk] at hr6
   have hk:k≠0:=fun q=>by subst q;cases hk
   obtain ⟨ady,cy,rfl,hcell⟩:=hk1 hk
   cases hl:lim with
   |true=>
    rw [hl] at hr6
    obtain ⟨gY,hold,rfl⟩:=ba.1 (show omap (σ.cells b o (TW n z)) (fun gY=>aW.val (.slice σ.n 0 (TS n k) false true) (σ.row e (gY++new)))=some r from hr6)
    obtain rfl:=hlim hl
    obtain ⟨h1,h2,ous,h3,h4,h5⟩:=h.gM hen hold
    have holds: ∀j v,ous[j]? =some v→w.cell? (ad.add j)=some v:=by
     intro j v hj
     have hjl:j<ous.length:=(List.getElem?_eq_some_iff.1 hj).1
     rw [h4] at hjl
     have hn0:0<c:=by
      rcases VI c with h0 |h0
      ·rw [h0] at hjl;simp at hjl
      ·exact h0
     obtain rfl:ad=en.a.add o:=had.elim id (fun h=>by omega)
     rw [add_add,h5 j hjl]
     exact hj
    have h4':ous.length=c*z:=h4
    simp only [lenOf] at b5 b6
    have hrun:=run_append_grow (P:=P) w t ty e i Z hu hi hzz ad c c ous (by rw [h4',hsi]) holds ady k cy us (by rw [hul,hsi]) hcell (by omega) (by omega) (growslice_fits (by omega) (by omega))
    exact fresh c c ous gY h3 h2 h4' b6 _ rfl _ hrun
   |false=>
    rw [hl] at hr6
    obtain ⟨hwo,hr7⟩:=aA.1 (show aQ (wh&&TJ o 0) (ai (σ.h.get b) (kW e b n k z new σ)) none=some r from hr6)
    rw [Uj] at hwo
    obtain ⟨hw,ho⟩:=hwo
    have ho:o=0:=T7 ho
    obtain ⟨bl,hbl,hr8⟩:=aa.1 hr7
    cases bl with
    |cells own e' len cs=>
     obtain ⟨hq,hr9⟩:=aA.1 (show aQ (own&&TJ e' e&&Nat.ble (TW n z) len) (some (aW.val (.slice σ.n 0 (TS n k) false true) ((σ.put b .dead).push (.cells true e (TW (TS n k) z) (cs.grow (TW n z) new))))) none=some r from hr8)
     cases hr9
     simp only [Uj] at hq
     obtain ⟨⟨hown,hee⟩,hnl⟩:=hq
     subst hown
     obtain rfl:e'=e:=T7 hee
     have hnl:n*z≤len:=Ua hnl
     have hbr:BR P N μ w (.cells true e' len cs) en:=by
      obtain ⟨k',q1,q2⟩:=h.bV b en hen
      rw [hbl] at q1;cases q1;exact q2
     obtain ⟨g,sz,cur,rfl,hN,h1,h2,h3,h4⟩:=hbr
     subst ho
     obtain rfl:ad=⟨g,0,none⟩:=by
      rcases had with h |⟨_,h⟩
      ·rw [h,add_nil]
      ·exact absurd rfl h
     have hcz:c*z=sz:=by rw [←cp hz];exact hc hw rfl sz e' rfl
     simp only [lenOf] at b5 b6
     have hsz:n*z≤cur.size:=by omega
     have hown:w.ownsRow N e' z (.slice (some ⟨g,0,none⟩) n c) n (cur.toList.take (n*z)):=
      ⟨by simp;omega,.inr ⟨g,c,cur,rfl,hN,h1,hnc,hmc,by rw [h2,hcz],rfl⟩⟩
     have h1c: ∀u∈us,u.oneCell'=true:=by
      intro u hu'
      obtain ⟨j,hj⟩:=List.getElem?_of_mem hu'
      have hjl:j<new.length:=by rw [hus.length];exact (List.getElem?_eq_some_iff.1 hj).1
      obtain ⟨u',q1,q2⟩:=hus.get (UB hjl)
      rw [hj] at q1;cases q1
      exact q2.one (gh hou (UB hjl))
     obtain ⟨v',w',hrun,hown',hgr,hnil,hat⟩:=run_append_own_at (P:=P) w N t ty e' i Z z i.bytes hu hi hzz hsi rfl hzs (by omega) _ n _ hown ady k cy us hul hcell h1c (by simp only [maxLen];omega) (by omega) h.hN
     obtain ⟨hxl,hv' |⟨g',cap',cur',rfl,hN',hh',hnc',hcm',hcs',htk⟩⟩:=hown'
     ·omega
     ·have hg':g'=g∨g'=w.heap.size:=by
       simp only [Value.ownBlock,VO] at hat
       exact hat
      have hcr:CR P μ (cs.grow (n*z) new) ((n+k)*z) (fun i=>cur'[i]?):=by
       intro j hj
       have hgl:n*z+new.length=(n+k)*z:=by rw [hus.length,hul,Nat.add_mul]
       have hget:=Cs.zc (vs:=new) hnl h4.isSome j (by omega)
       have hcj:cur'[j]? =(cur.toList.take (n*z)++us)[j]? :=by
        rw [←htk,T4,if_pos hj];simp
       show ∃av v,(cs.grow (n*z) new).get j=some av∧cur'[j]? =some v∧VR P μ av v∧av.one=true
       rw [hget,hcj]
       by_cases hjn:j<n*z
       ·rw [if_pos hjn,T3 (by simp;omega),T4,if_pos hjn,U8]
        exact h4 j (by omega)
       ·have hlt:(cur.toList.take (n*z)).length=n*z:=by simp;omega
        rw [if_neg hjn,T5 (by omega),hlt]
        have hvi:new[j - n*z]? =some (new[j - n*z]'(by omega)):=UB (by omega)
        obtain ⟨u,q1,q2⟩:=hus.get hvi
        exact ⟨_,u,hvi,q1,q2,gh hou hvi⟩
      have hgo:=h.append (w':=w') (len':=(n+k)*z) (c':=cs.grow (n*z) new) hen hbl hN hgr hg' hh' (by rw [hcs'];exact UN _ hnc') hcr
      refine hgo.val hrun (VR.slice σ.n 0 (n+k) false true _ _ _ (dK _ _ _) (.inl (by rw [add_nil])) hnc' hcm' (by simp) (fun _ _ sz' t' hsz'=>?_))
      cases hsz'
      rw [cp hz,hcs']
    |_=>cases hr8
 |_=>cases hr6
end
end
section
open Go Go.RowKit Go.MapKept
variable [Env]
section
variable {P:Program} {N:Nat} {μ:bu} {σ:St} {w:World} {a:aV} {ca:Act}
def fN (ts:List Ty) (l:List (List D)):Prop:=∀r∈l,bg ts r
theorem fN.len {ts:List Ty} {l:List (List D)} (h:fN ts l): ∀r∈l,r.length=ts.length:=fun r hr=>bT (h r hr)
theorem fN.flat {ts:List Ty} {l:List (List D)} (h:fN ts l):l.flatten.length=l.length*ts.length:=jr h.len
def kL (fz:Addr→Option Value) (l:List (List D)) (us:List Value):Prop:=∀(j:Nat) (d:D),l.flatten[j]? =some d→∃u:Value,us[j]? =some u∧dM fz d u
theorem kL.append {fz:Addr→Option Value} {l m:List (List D)} {us vs:List Value} (h:kL fz l us) (k:kL fz m vs) (hl:us.length=l.flatten.length):kL fz (l++m) (us++vs):=by
 intro j d hj
 rw [List.flatten_append] at hj
 by_cases hjl:j<l.flatten.length
 ·rw [T3 hjl] at hj
  obtain ⟨u,q1,q2⟩:=h j d hj
  exact ⟨u,by rw [T3 (by omega)];exact q1,q2⟩
 ·rw [T5 (by omega)] at hj
  obtain ⟨u,q1,q2⟩:=k _ d hj
  exact ⟨u,by rw [T5 (by omega),hl];exact q1,q2⟩
theorem jw {own:Bool} {ts:List Ty} {n:Tm} {b:Pos} {bl:bf} {t:TypeId} {q:Tm} {X:Value} (h:SR P N μ σ w) (hx:VR P μ (.vl ts n b) X) (hb:σ.h.get b=some bl) (hv:qy own ts n bl=some (t,q)):
 ∃(e:eQ) (L:List (List D)),μ b=some e∧bS bl=false∧(own=true→writes bl=true)∧ev q= .aY L∧ev n= .int .i64 (TP L.length)∧fN ts L∧(((X= .slice none 0 0∨∃ad,X= .slice (some ad) 0 0)∧L=[]∧e=cE∧0<N∧0<w.heap.size)∨
  ∃(g c:Nat) (cur:Array Value),X= .slice (some ⟨g,0,none⟩) L.length c∧e=⟨⟨g,0,none⟩,some (cur.size,t)⟩∧N≤g∧w.heap[g]? =some (.cells cur t (0,0))∧cur.size=c*ts.length∧L.length≤c∧c≤maxLen∧∀(j:Nat) (d:D),L.flatten[j]? =some d→∃u,cur[j]? =some u∧dM μ.fz d u):=by
 cases bl<;>first |(cases hv;done) |skip
 rename_i o t' us m x
 obtain ⟨h1,hv⟩:=aA.1 (show aQ (aQ own o true) (aQ (cM ts us&&et n m) (some (t',kY n m x)) none) none=some (t,q) from hv)
 obtain ⟨h2,hv⟩:=aA.1 hv
 cases hv
 rw [Uj] at h2
 obtain rfl:=cA h2.1
 cases hx with
 |vl _ _ _ _ e he hc=>
  obtain ⟨k',hk',hbr⟩:=h.bV b e he
  rw [hb] at hk'
  cases hk'
  obtain ⟨l,q1,q2,q3,q4⟩:=hbr
  have hrows:fN ts l:=by
   obtain ⟨l',e1,h⟩:=q3
   cases e1
   exact h
  have hfirst: ∀k:Nat,ev n= .int .i64 (TP k)→k≤l.length∧ev (kY n m x)= .aY (l.take k):=by
   intro k hk
   have hle:=eB h2.2 hk q2
   have hle:k≤l.length:=by have h1:(TP k:Int)=(k:Int):=rfl;have h2:(TP l.length:Int)=(l.length:Int):=rfl;omega
   refine ⟨hle,?_⟩
   unfold kY
   cases hnm:cK n m with
   |true=>
    have:=cP hnm
    subst this
    rw [q2] at hk
    have:l.length=k:=by injection hk with _ hk;exact Int.ofNat.inj hk
    show ev x=_
    rw [q1,←this,List.take_length]
   |false=>
    show ev (.op .sub [x,.int .i64 0,n])=_
    rw [bN]
    simp only [Uc,Ud,q1,hk]
    rfl
  have hown:own=true→writes (bf.vec o t ts m x)=true:=by
   rintro rfl
   exact h1
  rcases hc with ⟨hX,c1,c2⟩ |⟨k,c,rfl,c1,c2,c3,c4,c5⟩
  ·obtain ⟨_,hf⟩:=hfirst 0 c2
   rw [List.take_zero] at hf
   rcases q4 with ⟨rfl,r1,r2,r3⟩ |⟨g,cur,rfl,_⟩
   ·exact ⟨cE,[],he,rfl,hown,hf,c2,fun r hr=>absurd hr Ub,.inl ⟨hX,rfl,rfl,r1,r2⟩⟩
   ·exact absurd rfl c1
  ·obtain ⟨hle,hf⟩:=hfirst k c2
   have hlen:(l.take k).length=k:=by rw [Ur,Us hle]
   rcases q4 with ⟨rfl,_⟩ |⟨g,cur,rfl,r1,r2,r3,r4⟩
   ·cases c1
   ·refine ⟨_,l.take k,he,rfl,hown,hf,by rw [hlen];exact c2,fun r hr=>hrows r (VX hr),.inr ⟨g,c,cur,by rw [hlen],rfl,r1,r2,c5 _ _ rfl,by omega,c4,fun j d hj=>?_⟩⟩
    rw [vH hrows.len,T4] at hj
    split at hj
    ·obtain ⟨u,x1,x2,_⟩:=r4 j d hj;exact ⟨u,x1,x2⟩
    ·cases hj
theorem SR.freeze {μ:bu} {σ:St} {w:World} (h:SR P N μ σ w) {b:Pos} {e:eQ} {o:Bool} {t:TypeId} {ts:List Ty} {m x:Tm} (hb:μ b=some e) (hk:σ.h.get b=some (.vec o t ts m x)):
 ∃fz',bI P N μ σ w ⟨μ.f,fz'⟩ (σ.put b (.vec false t ts m x)) w∧∀(g:Nat) (cur:Array Value),e.a=⟨g,0,none⟩→w.heap[g]? =some (.cells cur t (0,0))→N≤g→∀(j:Nat) (u:Value) (l:List (List D)),ev x= .aY l→j<l.flatten.length→cur[j]? =some u→fz' ⟨g,j,none⟩=some u:=by
 obtain ⟨k',hk',hbr⟩:=h.bV b e hb
 rw [hk] at hk'
 cases hk'
 have hbr0:=hbr
 obtain ⟨l,q1,q2,q3,q4⟩:=hbr
 let fz':Addr→Option Value:=fun ad=>match μ.fz ad with |some v=>some v |none=>if N≤ad.block∧ad.block=e.a.block then w.cell? ad else none
 have fold: ∀ad v,μ.fz ad=some v→fz' ad=some v:=fun ad v ha=>by show (match μ.fz ad with |some v=>some v |none=>_)=_;rw [ha]
 have fcell: ∀ad v,fz' ad=some v→w.cell? ad=some v:=fun ad v ha=>by
  cases hf:μ.fz ad with
  |some u=>
   have:fz' ad=some u:=fold ad u hf
   rw [this] at ha
   cases ha
   exact h.fB ad v hf
  |none=>
   replace ha:(match μ.fz ad with |some v=>some v |none=>if N≤ad.block∧ad.block=e.a.block then w.cell? ad else none)=some v:=ha
   rw [hf] at ha
   replace ha:(if N≤ad.block∧ad.block=e.a.block then w.cell? ad else none)=some v:=ha
   split at ha
   ·exact ha
   ·cases ha
 have fnew: ∀ad v,fz' ad=some v→μ.fz ad=some v∨(N≤ad.block∧ad.block=e.a.block):=fun ad v ha=>by
  cases hf:μ.fz ad with
  |some u=>
   have:fz' ad=some u:=fold ad u hf
   rw [this] at ha
   exact .inl ha
  |none=>
   replace ha:(match μ.fz ad with |some v=>some v |none=>if N≤ad.block∧ad.block=e.a.block then w.cell? ad else none)=some v:=ha
   rw [hf] at ha
   replace ha:(if N≤ad.block∧ad.block=e.a.block then w.cell? ad else none)=some v:=ha
   split at ha
   ·rename_i hc;exact .inr hc
   ·cases ha
 have fin: ∀ad v,N≤ad.block→ad.block=e.a.block→w.cell? ad=some v→fz' ad=some v:=fun ad v h1 h2 hc=>by
  cases hf:μ.fz ad with
  |some u=>
   have:=h.fB ad u hf
   rw [hc] at this
   cases this
   exact fold ad v hf
  |none=>
   show (match μ.fz ad with |some v=>some v |none=>if N≤ad.block∧ad.block=e.a.block then w.cell? ad else none)=some v
   rw [hf]
   show (if N≤ad.block∧ad.block=e.a.block then w.cell? ad else none)=some v
   rw [if_pos ⟨h1,h2⟩]
   exact hc
 have hsub:Sub μ ⟨μ.f,fz'⟩:=⟨fun _ _ h=>h,fold⟩
 refine ⟨fz',⟨⟨hsub,fun x ex hx=>.inr ⟨x,ex,hx,rfl⟩,fun ad v ha=>?_⟩,fun x ex hx=>.inl hx,by rw [iO];exact Uh _,Ev.refl _ _ _,⟨fun x ex hx=>?_,?_,fun x ex hx=>by rw [iO];exact h.lt x ex hx,h.hN,h.eH,h.hn,h.base,fcell,?_⟩⟩,?_⟩
 ·rcases fnew ad v ha with h1 |⟨_,h2⟩
  ·exact .inl h1
  ·exact .inr (.inr ⟨b,e,hb,h2.symm⟩)
 ·by_cases hxb:b=x
  ·subst hxb
   replace hx:μ b=some ex:=hx
   rw [hb] at hx
   cases hx
   refine ⟨.vec false t ts m x,by rw [fU,if_pos rfl],l,q1,q2,q3,?_⟩
   rcases q4 with q4 |⟨g,cur,rfl,r1,r2,r3,r4⟩
   ·exact .inl q4
   ·refine .inr ⟨g,cur,rfl,r1,r2,r3,fun j d hj=>?_⟩
    obtain ⟨u,x1,x2,_⟩:=r4 j d hj
    refine ⟨u,x1,x2.mono fold,fun _=>fin ⟨g,j,none⟩ u r1 rfl ?_⟩
    simp only [World.cell?,r2]
    simpa using x1
  ·obtain ⟨k,g1,g2⟩:=h.bV x ex hx
   exact ⟨k,by rw [fU,if_neg hxb];exact g1,g2.bx hsub (Uh _) fun _=>rfl⟩
 ·intro x y ex ey kx ky hx hy gx gy dx dy hN hxy
  rw [fU] at gx gy
  by_cases hxb:b=x
  ·by_cases hyb:b=y
   ·rw [←hxb,←hyb]
   ·subst hxb
    rw [if_neg hyb] at gy
    exact h.inj b y ex ey _ ky hx hy hk gy rfl dy hN hxy
  ·rw [if_neg hxb] at gx
   by_cases hyb:b=y
   ·subst hyb
    exact h.inj x b ex ey kx _ hx hy gx hk dx rfl hN hxy
   ·rw [if_neg hyb] at gy
    exact h.inj x y ex ey kx ky hx hy gx gy dx dy hN hxy
 ·intro x ex kx hx gx hw hN ad v ha
  rw [fU] at gx
  by_cases hxb:b=x
  ·rw [if_pos hxb] at gx
   cases gx
   cases hw
  ·rw [if_neg hxb] at gx
   rcases fnew ad v ha with h1 |⟨h1,h2⟩
   ·exact h.apart x ex kx hx gx hw hN ad v h1
   ·intro heq
    have dx:bS kx=false:=by cases kx<;>first |rfl |cases hw
    exact hxb (h.inj b x e ex _ kx hb hx hk gx rfl dx (h2▸h1) (h2.symm.trans heq))
 ·intro g cur he hg hN j u l' hl' hj hu
  refine fin ⟨g,j,none⟩ u hN (by rw [he]) ?_
  simp only [World.cell?,hg]
  simpa using hu
theorem qI {μ:bu} {σ σ':St} {w:World} (h:SR P N μ σ w) {v v':AV} {u:Value} (hv:VR P μ v u) (hf:wN σ v=some (v',σ')): ∃fz',bI P N μ σ w ⟨μ.f,fz'⟩ σ' w∧σ'.n=σ.n∧VR P ⟨μ.f,fz'⟩ v' u:=by
 have plain:some (v,σ)=some (v',σ')→∃fz',bI P N μ σ w ⟨μ.f,fz'⟩ σ' w∧σ'.n=σ.n∧VR P ⟨μ.f,fz'⟩ v' u:=by
  intro e
  cases e
  exact ⟨μ.fz,h.stay,rfl,hv⟩
 cases v<;>first |exact plain hf |skip
 rename_i ts n b
 obtain ⟨k,hk,hf⟩:=aa.1 hf
 cases k<;>first |(cases hf;done) |skip
 rename_i o t us m x
 obtain ⟨hc,hf2⟩:=aA.1 (show aQ (cM ts us&&et n m) (some (AV.tm (.aY ts) (kY n m x),σ.put b (.vec false t us m x))) none=some (v',σ') from hf)
 cases hf2
 have hvec:qy false ts n (.vec o t us m x)=some (t,kY n m x):=by
  show aQ (aQ false o true) (aQ (cM ts us&&et n m) (some (t,kY n m x)) none) none=_
  rw [hc]
 obtain ⟨e,L,he,_,_,q1,q2,q3,q4⟩:=jw h hv hk hvec
 obtain ⟨fz',hg,hin⟩:=h.freeze he hk
 refine ⟨fz',hg,iO _ _ _,.tm _ _ _ ⟨L,q1,q3⟩ ?_⟩
 rw [q1]
 rcases q4 with ⟨rfl |⟨ad,rfl⟩,rfl,_⟩ |⟨g,c,cur,rfl,rfl,r1,r2,r3,r4,r5,r6⟩
 ·exact .nil
 ·exact py _ (VT _)
 ·obtain ⟨k',hk',hbr⟩:=h.bV b _ he
  rw [hk] at hk'
  cases hk'
  obtain ⟨l,p1,p2,p3,p4⟩:=hbr
  have hLl:L.flatten.length≤l.flatten.length:=by
   rw [Uj] at hc
   have hts:=cA hc.1
   have hle:=eB hc.2 q2 p2
   have hle:L.length≤l.length:=by have h1:(TP L.length:Int)=(L.length:Int):=rfl;have h2:(TP l.length:Int)=(l.length:Int):=rfl;omega
   have hR:fN us l:=by
    obtain ⟨l',e1,h⟩:=p3
    cases e1
    exact h
   rw [q3.flat,hR.flat,←hts]
   exact UN _ hle
  refine .aY L ⟨g,0,none⟩ c (fun j=>cur.getD j undef) r4 r5 (fun j hj=>?_) fun j d hj=>?_
  ·obtain ⟨v,x1,x2⟩:=r6 j _ (UB hj)
   rw [add_zero]
   have:cur.getD j undef=v:=by rw [Uw,x1];rfl
   rw [this]
   exact hin g cur rfl r2 r1 j v l p1 (by omega) x1
  ·obtain ⟨v,x1,x2⟩:=r6 j d hj
   have:cur.getD j undef=v:=by rw [Uw,x1];rfl
   rw [this]
   exact x2.mono hg.ext.sub.fz
theorem eb: ∀{l l':List AV} {μ:bu} {σ σ':St} {w:World} {us:List Value},SR P N μ σ w→bZ P μ l us→dj l σ=some (l',σ')→∃fz',bI P N μ σ w ⟨μ.f,fz'⟩ σ' w∧σ'.n=σ.n∧bZ P ⟨μ.f,fz'⟩ l' us
 |[],l',μ,σ,σ',w,us,h,hv,hf=>by cases hf;cases hv;exact ⟨μ.fz,h.stay,rfl,.nil⟩
 |v::l,l',μ,σ,σ',w,us,h,hv,hf=>by
  unfold dj at hf
  obtain ⟨⟨v1,σ1⟩,h1,hf⟩:=aa.1 hf
  obtain ⟨⟨l2,σ2⟩,h2,hf⟩:=aa.1 hf
  cases hf
  cases hv with
  |cons _ u _ us hv hvs=>
   obtain ⟨fz1,g1,n1,w1⟩:=qI h hv h1
   obtain ⟨fz2,g2,n2,w2⟩:=eb g1.sr (hvs.mono g1.ext.sub) h2
   exact ⟨fz2,g1.trans g2,n2.trans n1,.cons _ _ _ _ (w1.mono g2.ext.sub) w2⟩
theorem EW {v v':AV} {σ':St} {u:Value} (h:SR P N μ σ w) (hv:VR P μ v u) (hf:Kh σ v=some (v',σ')): ∃fz',bI P N μ σ w ⟨μ.f,fz'⟩ σ' w∧σ'.n=σ.n∧VR P ⟨μ.f,fz'⟩ v' u:=by
 have plain:wN σ v=some (v',σ')→∃fz',bI P N μ σ w ⟨μ.f,fz'⟩ σ' w∧σ'.n=σ.n∧VR P ⟨μ.f,fz'⟩ v' u:=qI h hv
 cases v<;>first |exact plain hf |skip
 rename_i l
 obtain ⟨⟨l',s'⟩,h1,h2⟩:=aa.1 (show ai (dj l σ) (fun q=>aQ (cd q.1) (some (AV.agg q.1,q.2)) none)=some (v',σ') from hf)
 obtain ⟨ho,h2⟩:=aA.1 h2
 cases h2
 cases hv with
 |agg _ C hC=>
  obtain ⟨fz',g,n,hl⟩:=eb h hC h1
  exact ⟨fz',g,n,.agg _ _ hl ho⟩
theorem EX {t:TypeId} {k v:AV} {b:Pos} {bl:bf} {r:aW} (h:Ez P t σ k v b bl=some r): ∃σ',r= .skip σ':=by
 cases bl<;>first |(cases h;done) |skip
 rename_i g kt ts x
 obtain ⟨q,_,h1⟩:=aa.1 h
 obtain ⟨kk,_,h2⟩:=aa.1 h1
 obtain ⟨_,h3⟩:=aA.1 h2
 obtain ⟨y,_,h4⟩:=aa.1 h3
 split at h4
 ·cases h4;exact ⟨_,rfl⟩
 ·cases h4
theorem NR.after {μ1:bu} {σ1:St} {r:aW} {res:Result Next} (hg:bI P N μ σ w μ1 σ1 w) (hs: ∃σ',r= .skip σ') (h:NR P N μ1 σ1 w r res):NR P N μ σ w r res:=by
 obtain ⟨σ',rfl⟩:=hs
 obtain ⟨μ',w',h1,h2⟩:=h
 exact ⟨μ',w',h1,hg.trans h2⟩
theorem n6 {t:TypeId} {m k x:Operand} {r:aW} (h:SR P N μ σ w) (ha:AR P μ a ca) (hr:dw t m k x P a σ=some r):
 NR P N μ σ w r ((do Wi t (ca.eval m) (ca.eval k) (ca.eval x);pure .skip:Sem Next).run P w):=by
 obtain ⟨kv,hkv,hr1⟩:=aa.1 hr
 obtain ⟨xv,hxv,hr2⟩:=aa.1 hr1
 obtain ⟨mv,hmv,hr3⟩:=aa.1 hr2
 have hk:=ha.eval h hkv
 have hx:=ha.eval h hxv
 have hm:=ha.eval h hmv
 clear hr hr1 hr2
 generalize ca.eval m=M at*
 generalize ca.eval k=K at*
 generalize ca.eval x=X at*
 replace hr3:aQ (gz σ mv) (ai (Kh σ xv) fun q=>yP q.2 mv (Ez P t q.2 kv q.1)) (k5 P t σ kv xv mv)=some r:=hr3
 cases ht:gz σ mv with
 |true=>
  rw [ht] at hr3
  obtain ⟨b,rfl⟩:=vI ht
  obtain ⟨⟨xv',σ1⟩,hfz,hr4⟩:=aa.1 (show ai (Kh σ xv) (fun q=>yP q.2 (.map b) (Ez P t q.2 kv q.1))=some r from hr3)
  obtain ⟨bl,hb,hr5⟩:=aa.1 (show ai (σ1.h.get b) (fun k=>Ez P t σ1 kv xv' b k)=some r from hr4)
  obtain ⟨fz',hg,_,hx'⟩:=EW h hx hfz
  exact NR.after hg (EX hr5) (Ht hg.sr (hm.mono hg.ext.sub) (hk.mono hg.ext.sub) hx' hb hr5)
 |false=>
 rw [ht] at hr3
 replace hr3:k5 P t σ kv xv mv=some r:=hr3
 clear ht
 cases mv with
 |map b=>
  obtain ⟨q,hq,hr4⟩:=aa.1 hr3
  obtain ⟨hc,hr5⟩:=aA.1 hr4
  obtain ⟨es,hes,hr6⟩:=aa.1 hr5
  obtain ⟨es',hes',rfl⟩:=ba.1 hr6
  clear hr3 hr4 hr5 hr6
  cases hm with
  |map _ e hb=>
   obtain ⟨hkb,g,ents,clock,rfl,hN,hg,he,hbn⟩:=h.zJ hb hes
   have hu:=eW hq
   obtain ⟨d,hd⟩:=sK (n:=7) hc
   have hchk:=pE (em:=false) 8 10000 q.1 kv K (by decide) hk hc w
   rcases Ho (t:=q.1) hk hx he hes' with ⟨hf,hE⟩ |⟨j,m',hf,hj,hbits,hE⟩
   ·have hfk:=hf.run hd w
    refine ⟨μ,_,?_,h.xq hb hkb hN hg (ents.push {key:=K,val:=X,born:=clock}) (clock+1) (by simpa using hE clock) (by simpa using hbn.push {key:=K,val:=X,born:=clock} rfl)⟩
    unfold Wi
    simp only [Uu,U2,Uv,run_underlying hu,Wc hg,hchk,hfk,Wj _ hg]
   ·have hfk:=hf.run hd w
    have hje:ents[j]? =some m':=by simpa using hj
    refine ⟨μ,_,?_,h.xq hb hkb hN hg (ents.modify j fun e=>{e with key:=K,val:=X}) clock (by simpa using hE) (by simpa using hbn.modify j (fun e=>{e with key:=K,val:=X}) (fun _=>rfl))⟩
    unfold Wi Wl
    simp only [Uu,U2,Uv,run_underlying hu,Wc hg,hchk,hfk,Wj _ hg,hje,VN,Wm,hbits,if_true]
 |_=>cases hr3
end
end
end Go.Proofs.Sai
