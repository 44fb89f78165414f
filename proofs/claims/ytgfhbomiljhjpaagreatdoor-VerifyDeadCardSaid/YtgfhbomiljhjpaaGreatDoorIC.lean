/- Part IC of the proof of VerifyDead: texts of the interpreter and what it shows, under short names. No condition. -/
import Derived.Test.YtgfhbomiljhjpaaGreatDoorIB
import Derived.Laws.RangeString
import Derived.MapKept
import Derived.Maps.AppendAt
set_option linter.unusedVariables false
set_option linter.unusedSimpArgs false
set_option linter.unusedSectionVars false
open Array renaming getElem?_toList→WM,getElem?_eq_getElem→Wo,getElem?_setIfInBounds_ne→Wf,toList_modify→X1,eraseIdxIfInBounds→Ya,getD_eq_getD_getElem?→We
open Bool renaming and_eq_true→V1,false_eq_true→XB,or_eq_true→WW,true_and→XF,eq_iff_iff→VO,or_eq_false_iff→XW
open ForInStep renaming yield→XP
open Go.Builtin renaming delete_→X4,append_→Yd,lenOf→Ye,firstCells→Yf,zeroCells→Yg
open Go.ByteArray renaming toList_eq→WO
open Go.Instr renaming makeSlice→Xp,sliceBound→Xs,sliceBounds→Xv,sliceAt→Xx,slice→Xy,sureAddr→WA,sameBits→XE,sameNow→XG,findAsking→XH,findNow→XI,findKey→XJ,checkKey→XN,lookup→XR,mapUpdate→XY,keyThatStays→X2,range→Yb,next→Yc,storeAt→Yj
open Go.MapKept renaming run_getObj_map→XS,run_setObj_map→X0
open Go.Op renaming equalIn→WQ
open Go.Result renaming andThen_ok→Wd
open Go.Sem renaming run_bind→Wc,run_pure→WG,run→XQ
open Go.World renaming grownBy_alloc→Wn
open Int renaming ofNat→Vw,natCast_nonneg→WN,natCast_mul→WI,le_trans→Xr,ofNat_eq_natCast→VP,toNat_natCast→Wt,eq_ofNat_of_zero_le→Ws
open List renaming getElem?_append_left→VJ,getElem?_append_right→VL,replicate→Wx,flatten_cons→V5,map_cons→VT,mem_cons_self→V2,mem_cons_of_mem→V3,drop_drop→Xw,map_nil→VU,mem_of_mem_take→XD,length_take→V9,getElem?_take→VK,getElem?_eq_getElem→Wj,not_mem_nil→VS,mem_append_right→XK,mem_append_left→XL,eraseIdx_append_of_length_le→XM,any_cons→XT,head?→XU,any_append→XX,append_nil→XZ,getElem?_toArray→X5,getElem?_cons_zero→X6,getElem?_cons_succ→X7,length→X8,append_assoc→Xh,getElem?_of_mem→Yh,take_append_drop→Yi
open List.cons renaming injEq→XV
open Nat renaming succ_mul→V6,mod_eq_of_lt→Xn,eq_zero_or_pos→Xo,le_of_ble_eq_true→VQ,eq_of_beq_eq_true→VN,mul_comm→Xq,beq→Vo,mul_le_mul_right→Wu,le_trans→VZ,le_refl→VY,zero_le→Xz,sub_zero→XC,min_eq_left→Wa,mul→VC,add→Vy
open Option renaming map_some→Xt,rec→Vm,isSome_none→XA,getD_some→X3
open Option.some renaming injEq→Xu
open PUnit renaming unit→XO
namespace Go.Proofs.Sai
section
open Go Go.RowKit
variable [Env]
section
variable {P:Program} {N:Nat} {μ:bw} {σ:St} {w:World} {a:aN} {ca:Act}
theorem mi (z:List AV): ∀c,(tB z c).length=c*z.length
 |0=>by simp [tB]
 |c+1=>by simp [tB,mi z c,V6,Nat.add_comm]
theorem AX (z:List AV): ∀(c i:Nat),i<c*z.length→(tB z c)[i]? =z[i % z.length]?
 |0,i,h=>by simp at h
 |c+1,i,h=>by
  unfold tB
  rw [V6] at h
  by_cases hi:i<z.length
  ·rw [VJ hi,Xn hi]
  ·rw [VL (by omega),AX z c _ (by omega),←Nat.mod_eq_sub_mod (by omega)]
theorem qS {z:List AV} (h:cf z=true): ∀c,cf (tB z c)=true
 |0=>rfl
 |c+1=>fy h (qS h c)
theorem xe {z:List AV} {Z:Array Value} (h:b8 P μ z Z.toList) (c:Nat):b8 P μ (tB z c) (madeCells Z (c*Z.size)).toList:=by
 have hl:z.length=Z.size:=by simpa using h.length
 refine b8.jy (by rw [mi,hl];simp [size_madeCells]) fun i v u hv hu=>?_
 have hi:i<c*z.length:=by
  rw [←mi]
  exact (List.getElem?_eq_some_iff.1 hv).1
 have hz:0<z.length:=by
  rcases Xo z.length with h0 |h0
  ·rw [h0] at hi;simp at hi
  ·exact h0
 rw [AX z c i hi] at hv
 obtain ⟨u',hu',hr⟩:=h.get hv
 have hm:i % Z.size<Z.size:=Nat.mod_lt _ (by omega)
 have:(madeCells Z (c*Z.size)).toList[i]? =some (Z[i % Z.size]'hm):=by
  simp [madeCells,←hl,hi,List.getElem?_range]
  rw [getElem!_pos Z _ (by rw [hl];exact hm)]
 rw [this] at hu
 cases hu
 rw [hl,WM,Wo hm] at hu'
 cases hu'
 exact hr
theorem jT {v:AV} {n:Nat} (h:qF v=some n):v= .int .i64 (Vw n):=by
 cases v with
 |int k m=>cases k<;>first |(cases h;done) |(cases m<;>first |(cases h;rfl) |(cases h;done))
 |_=>cases h
noncomputable def AY (t:TypeId) (l c:Operand):Dn:=fun P a s=>ab (a.eval P l) fun l=>ab (a.eval P c) fun c=>ab (qF l) fun l=>ab (qF c) fun c=>iH P t l c s
theorem wA {t:TypeId} {x y:Operand} {r:aG} (h:SR P N μ σ w) (ha:AR P μ a ca) (hr:AY t x y P a σ=some r):
 NR P N μ σ w r ((do pure (.value (←Xp t (ca.eval x) (ca.eval y))):Sem Next).run P w):=by
 obtain ⟨l,hl,hr1⟩:=aa.1 hr
 obtain ⟨c,hc,hr2⟩:=aa.1 hr1
 obtain ⟨ln,hln,hr3⟩:=aa.1 hr2
 obtain ⟨cn,hcn,hr4⟩:=aa.1 hr3
 obtain ⟨e,he,hr5⟩:=aa.1 hr4
 obtain ⟨by_,hby,hr6⟩:=aa.1 hr5
 obtain ⟨sz,hsz,hr7⟩:=aa.1 hr6
 obtain ⟨z,hz,hr8⟩:=aa.1 hr7
 obtain ⟨hb,hr9⟩:=aj.1 hr8
 simp only [V1] at hb
 obtain ⟨⟨⟨⟨b1,b2⟩,b3⟩,b4⟩,b5⟩:=hb
 cases hr9
 clear hr hr1 hr2 hr3 hr4 hr5 hr6 hr7 hr8
 have hlv:=ha.eval h hl
 have hcv:=ha.eval h hc
 obtain rfl:=jT hln
 obtain rfl:=jT hcn
 generalize ca.eval x=X at*
 generalize ca.eval y=Y at*
 cases hlv
 cases hcv
 have b1:ln≤cn:=VQ b1
 have b2:cn*by_≤140737488355328:=VQ b2
 have b3:cn≤1000000:=VQ b3
 have b5:z.cells.length=sz:=VN b5
 obtain ⟨zv,_,hzv,i,hi,hzz⟩:=cN (μ:=μ) hz w
 have he:=cA he
 obtain ⟨i',hi',rfl⟩:=fA hby
 rw [hi] at hi'
 cases hi'
 have hsi:i.size=sz:=by unfold bA at hsz;rw [hi] at hsz;cases hsz;rfl
 have hzc:=hzv.cells (bT b4)
 have hzs:zv.cells.size=sz:=by rw [←b5];simpa using hzc.length.symm
 have hrun:=run_make (P:=P) w t e i zv he hi hzz .i64 .i64 (Vw ln) (Vw cn) (WN _) (Int.ofNat_le.2 b1)
  (by rw [Xq] at b2
      have hq:((i.bytes*cn:Nat):Int)≤((140737488355328:Nat):Int):=Int.ofNat_le.2 b2
      rw [WI] at hq
      exact Xr hq (by decide)) (by show ((cn:Nat):Int)≤_;omega)
 simp only [VP,Wt] at hrun
 rw [hsi,←hzs] at hrun
 have hg:=h.row e (xe hzc cn) (qS b4 cn)
 refine hg.val hrun ?_
 have:=VR.slice (P:=P) (μ:=dm μ σ.n ⟨⟨w.heap.size,0,none⟩,some ((madeCells zv.cells (cn*zv.cells.size)).size,e)⟩) σ.n 0 ln (Vo ln cn) true _ _ cn (dK _ _ _) (.inl rfl) b1 (by simp only [maxLen];omega)
  (fun h=>(VN h).symm) (fun _ _ sz' t' h'=>by cases h';rw [cq hsz,size_madeCells,hzs])
 simpa [add_nil] using this
theorem wB {Z:Array Value} {n i j:Nat} (hi:i<n) (hj:j<Z.size):(madeCells Z (n*Z.size))[i*Z.size+j]? =some (Z[j]'hj):=by
 have hlt:i*Z.size+j<n*Z.size:=by
  calc i*Z.size+j<i*Z.size+Z.size:=by omega
   _=(i+1)*Z.size:=by rw [V6]
   _≤n*Z.size:=Wu _ hi
 have hm:(i*Z.size+j) % Z.size=j:=by rw [Xq,Nat.mul_add_mod,Xn hj]
 have e:(madeCells Z (n*Z.size))[i*Z.size+j]? =some (Z[(i*Z.size+j) % Z.size]!):=by
  simp [madeCells,hlt]
 rw [e,hm,getElem!_pos Z j hj]
theorem AZ {z:Nat} {r:List D} (hr:r.length=z): ∀(n j:Nat) (d:D),(Wx n r).flatten[j]? =some d→∃i k,i<n∧k<z∧j=i*z+k∧r[k]? =some d
 |0,j,d,h=>by simp at h
 |n+1,j,d,h=>by
  rw [List.replicate_succ,V5] at h
  by_cases hj:j<z
  ·rw [VJ (by omega)] at h
   exact ⟨0,j,by omega,hj,by omega,h⟩
  ·rw [VL (by omega),hr] at h
   obtain ⟨i,k,h1,h2,h3,h4⟩:=AZ hr n _ d h
   exact ⟨i+1,k,by omega,h2,by rw [V6];omega,h4⟩
theorem ue {t:TypeId} {n m:Tm} {v:Int} {r:aG} (w:World) (hn:ev n= .int .i64 v) (hr:ig P t σ n m=some r):
 ∃(e c:Nat) (ts:List Ty) (x:Tm) (l:List (List D)) (us:Array Value),n=m∧v=Vw c∧r= .val (.vl ts n σ.n) (σ.push (.vec true e ts n x))∧(∀w:World,(Xp t (.int .i64 (Vw c)) (.int .i64 (Vw c))).run P w= .ok (.slice (some ⟨w.heap.size,0,none⟩) c c) (w.alloc (.cells us e)))∧
  ev x= .aF l∧ev n= .int .i64 (Vw l.length)∧bx (.aF ts) (.aF l)∧l.flatten.length≤us.size∧(∀(j:Nat) (d:D),l.flatten[j]? =some d→∃u,us[j]? =some u∧dY μ.fz d u)∧us.size=c*ts.length∧c≤maxLen:=by
 obtain ⟨e,he,hr1⟩:=aa.1 hr
 obtain ⟨by_,hby,hr2⟩:=aa.1 hr1
 obtain ⟨sz,hsz,hr3⟩:=aa.1 hr2
 obtain ⟨z,hz,hr4⟩:=aa.1 hr3
 obtain ⟨ts,hts,hr5⟩:=aa.1 hr4
 obtain ⟨y,hy,hr6⟩:=aa.1 hr5
 obtain ⟨hb,hr7⟩:=aj.1 hr6
 clear hr hr1 hr2 hr3 hr4 hr5 hr6
 simp only [V1] at hb
 obtain ⟨⟨⟨⟨⟨⟨b1,b2⟩,b3⟩,b4⟩,b5⟩,b6⟩,b7⟩:=hb
 obtain rfl:=cI b1
 have b6:z.cells.length=sz:=VN b6
 have b7:sz=ts.length:=VN b7
 have b4:100000000*by_≤140737488355328:=VQ b4
 have hv0:=jk b2 hn
 have hv1:=dT b3 hn (show ev fc= .int .i64 100000000 from rfl)
 obtain ⟨c,rfl⟩:=Ws hv0
 have hc:c≤100000000:=by omega
 have hrest:y.2=[]∧r= .val (.vl ts n σ.n) (σ.push (.vec true e ts n (.op .rep (n::y.1)))):=by
  cases h2:y.2 with
  |nil=>rw [h2] at hr7;cases hr7;exact ⟨rfl,rfl⟩
  |cons _ _=>rw [h2] at hr7;cases hr7
 obtain ⟨hy2,rfl⟩:=hrest
 obtain ⟨zv,_,hzv,i,hi,hzz⟩:=cN (μ:=μ) hz w
 have he:=cA he
 obtain ⟨i',hi',rfl⟩:=fA hby
 rw [hi] at hi'
 cases hi'
 have hsi:i.size=sz:=by unfold bA at hsz;rw [hi] at hsz;cases hsz;rfl
 have hzc:=hzv.cells (bT b5)
 have hzs:zv.cells.size=sz:=by rw [←b6];simpa using hzc.length.symm
 have hcb:c*i.bytes≤140737488355328:=VZ (Wu _ hc) b4
 have hrun: ∀w:World,(Xp t (.int .i64 (Vw c)) (.int .i64 (Vw c))).run P w= .ok (.slice (some ⟨w.heap.size,0,none⟩) c c) (w.alloc (.cells (madeCells zv.cells (c*zv.cells.size)) e)):=fun w=>by
  have hrun:=run_make (P:=P) w t e i zv he hi hzz .i64 .i64 (Vw c) (Vw c) (WN _) (Int.le_refl _)
   (by rw [Xq] at hcb
       have hq:((i.bytes*c:Nat):Int)≤((140737488355328:Nat):Int):=Int.ofNat_le.2 hcb
       rw [WI] at hq
       exact Xr hq (by decide)) (by show ((c:Nat):Int)≤_;omega)
  simp only [VP,Wt] at hrun
  rw [hsi,←hzs] at hrun
  exact hrun
 obtain ⟨g1,us',g2,g3,g4,g5⟩:=gi hzc hy
 have hyl:(y.1.map ev).length=zv.cells.size:=by rw [bD g1,hzs,b7]
 have hev:ev (.op .rep (n::y.1))= .aF (Wx c (y.1.map ev)):=by
  rw [bH]
  simp only [VT,hn]
  show D.aF (Wx (c:Int).toNat _)=_
  rw [Wt]
 refine ⟨e,c,ts,_,_,_,rfl,rfl,rfl,hrun,hev,by rw [hn];simp,⟨_,rfl,fun r hr=>by rw [(List.mem_replicate.1 hr).2];exact g1⟩,?_,?_,by rw [size_madeCells,hzs,b7],by simp only [maxLen];omega⟩
 ·rw [iO (z:=zv.cells.size) (fun r hr=>by rw [(List.mem_replicate.1 hr).2];exact hyl)];simp [size_madeCells]
 ·intro j d hj
  obtain ⟨i,k,h1,h2,rfl,h4⟩:=AZ hyl c j d hj
  obtain ⟨u,q1,q2⟩:=g5 k d h4
  refine ⟨u,?_,q2⟩
  rw [wB h1 h2]
  rw [WM,Wo h2] at q1
  exact q1
theorem A0 {t:TypeId} {n m:Tm} {X Y:Value} {v:Int} {r:aG} (h:SR P N μ σ w) (hn:ev n= .int .i64 v) (hX:X= .int .i64 v) (hY: ∀v',ev m= .int .i64 v'→Y= .int .i64 v') (hr:ig P t σ n m=some r):
 NR P N μ σ w r ((do pure (.value (←Xp t X Y)):Sem Next).run P w):=by
 obtain ⟨e,c,ts,x,l,us,rfl,rfl,rfl,hrun,f1,f2,f3,f4,f5,f6,f7⟩:=ue (μ:=μ) w hn hr
 obtain rfl:=hY _ hn
 subst hX
 have hg:=h.jw (w':=w.alloc (.cells us e)) (us:=us) (t:=e) rfl rfl rfl rfl f1 f2 f3 f4 f5
 refine hg.val (hrun w) ?_
 exact .vl ts n σ.n _ _ (dK _ _ _) (.inr ⟨c,c,rfl,rfl,hn,VY _,f7,fun sz' t' h'=>by cases h';exact f6⟩)
theorem yN {t:TypeId} {x y:Operand} {r:aG} (h:SR P N μ σ w) (ha:AR P μ a ca) (hr:iI t x y P a σ=some r):
 NR P N μ σ w r ((do pure (.value (←Xp t (ca.eval x) (ca.eval y))):Sem Next).run P w):=by
 obtain ⟨l,hl,hr1⟩:=aa.1 hr
 obtain ⟨c,hc,hr2⟩:=aa.1 hr1
 replace hr2:mb P t σ l c=some r:=hr2
 unfold mb at hr2
 split at hr2
 ·rename_i n
  have hlv:=ha.eval h hl
  have hcv:=ha.eval h hc
  obtain ⟨m,hm,hr3⟩:=aa.1 hr2
  clear hl hc hr hr1 hr2
  generalize ca.eval x=X at*
  generalize ca.eval y=Y at*
  cases hlv with
  |tm _ _ _ h1 h2=>
   obtain ⟨v,h1⟩:=h1
   rw [h1] at h2
   cases h2
   refine A0 h h1 rfl (fun v' hv'=>?_) hr3
   unfold nH at hm
   split at hm
   ·cases hm;cases hcv;cases hv';rfl
   ·cases hm
    cases hcv with
    |tm _ _ _ g1 g2=>rw [show ev m= .int .i64 v' from hv'] at g2;cases g2;rfl
   ·cases hm
 ·rename_i hne
  exact wA h ha (by show ab (a.eval P x) _=_;rw [hl];show ab (a.eval P y) _=_;rw [hc];exact hr2)
theorem eN {n:Nat} {y:Nat} {code:BoundsCode} (h:n≤y):(Xs (.int .i64 (n:Int)) y code).run P w= .ok n w:=by
 have:(0:Int)≤(n:Int)∧(n:Int)≤(y:Int):=by omega
 simp only [Xs,asIntOf,Wc,WG,Wd,VP,if_pos this,Wt]
theorem dO {d n:Nat} {v:Option AV} {x:Option Operand} (hn:nt d v=some n) (hv:(v=none∧x=none)∨∃u y,v=some u∧x=some y∧VR P μ u (ca.eval y)):
 (v=none∧x.map ca.eval=none∧n=d)∨(v.isSome=true∧x.map ca.eval=some (.int .i64 (Vw n))):=by
 rcases hv with ⟨rfl,rfl⟩ |⟨u,y,rfl,rfl,hu⟩
 ·cases hn;exact .inl ⟨rfl,rfl,rfl⟩
 ·obtain rfl:=jT (show qF u=some n from hn)
  refine .inr ⟨rfl,?_⟩
  simp only [Xt,Xu]
  generalize ca.eval y=Y at*
  cases hu
  rfl
theorem dr {isS:Bool} {len cap lo hi:Nat} {low high max:Option Value} (hlo:(low=none∧lo=0)∨low=some (.int .i64 (Vw lo))) (hhi:(high=none∧max=none∧hi=len)∨high=some (.int .i64 (Vw hi)))
 (hmx:max=none∨max=some (.int .i64 (Vw hi))) (h1:lo≤hi) (h2:hi≤cap):
 (Xv isS len cap low high max).run P w= .ok (lo,hi,if max.isSome then hi else cap) w:=by
 rcases hmx with rfl |rfl
 ·rcases hhi with ⟨rfl,_,rfl⟩ |rfl
  ·rcases hlo with ⟨rfl,rfl⟩ |rfl
   ·simp [Xv]
   ·simp [Xv,eN h1]
  ·rcases hlo with ⟨rfl,rfl⟩ |rfl
   ·simp [Xv,eN h2]
   ·simp [Xv,eN h2,eN h1]
 ·rcases hhi with ⟨_,h,_⟩ |rfl
  ·cases h
  ·rcases hlo with ⟨rfl,rfl⟩ |rfl
   ·simp [Xv,eN h2,eN (VY hi)]
   ·simp [Xv,eN h2,eN (VY hi),eN h1]
theorem xf {o lo hi c z:Nat} {en:fx} {ad:Addr} (had:ad=en.a.add o∨(c=0∧o≠0)) (m:Nat) (hm:m≤c) (h1:lo≤hi) (h2:hi≤m):
 (if m=lo then some ad else (some ad).map (·.add (lo*z)))=some (if m=lo then ad else ad.add (lo*z))∧
 ((if m=lo then ad else ad.add (lo*z))=en.a.add (o+lo*z)∨(m - lo=0∧o+lo*z≠0)):=by
 refine ⟨by split<;>rfl,?_⟩
 by_cases he:m=lo
 ·rw [if_pos he]
  by_cases hz:o+lo*z=0
  ·left
   have h0:o=0:=by omega
   rcases had with had |⟨_,h⟩
   ·rw [had,h0,show 0+lo*z=0 from by omega]
   ·exact absurd h0 h
  ·exact .inr ⟨by omega,hz⟩
 ·rw [if_neg he]
  rcases had with had |⟨hc,h⟩
  ·left;rw [had,add_add]
  ·omega
theorem fk {d q:Tm} {v:Option AV} {x:Option Operand} (hn:Aa d v=some q) (hv:(v=none∧x=none)∨∃u y,v=some u∧x=some y∧VR P μ u (ca.eval y)):
 (v=none∧x.map ca.eval=none∧q=d)∨∃n:Int,v.isSome=true∧ev q= .int .i64 n∧x.map ca.eval=some (.int .i64 n):=by
 rcases hv with ⟨rfl,rfl⟩ |⟨u,y,rfl,rfl,hu⟩
 ·cases hn;exact .inl ⟨rfl,rfl,rfl⟩
 ·replace hn:nH u=some q:=hn
  refine .inr ?_
  simp only [Xt,Xu]
  generalize ca.eval y=Y at*
  unfold nH at hn
  split at hn
  ·cases hn;cases hu;exact ⟨_,rfl,rfl,rfl⟩
  ·cases hn
   cases hu with
   |tm _ _ _ h1 h2=>
    obtain ⟨n,h1⟩:=h1
    rw [h1] at h2
    cases h2
    exact ⟨n,rfl,h1,rfl⟩
  ·cases hn
theorem uf {q:Tm} {n:Int} {v:Option AV} {x:Option Operand} (hn:Ab q v=true) (hq:ev q= .int .i64 n) (hv:(v=none∧x=none)∨∃u y,v=some u∧x=some y∧VR P μ u (ca.eval y)):
 (v=none∧x.map ca.eval=none)∨(v.isSome=true∧x.map ca.eval=some (.int .i64 n)):=by
 rcases hv with ⟨rfl,rfl⟩ |⟨u,y,rfl,rfl,hu⟩
 ·exact .inl ⟨rfl,rfl⟩
 ·replace hn: @Vm Tm (fun _=>Bool) false (fun t=>cp t q) (nH u)=true:=hn
  cases hi:nH u with
  |none=>rw [hi] at hn;cases hn
  |some t=>
   rw [hi] at hn
   have:=cI (show cp t q=true from hn)
   subst this
   rcases fk (d:=t) (v:=some u) (x:=some y) (P:=P) (μ:=μ) (ca:=ca) hi (.inr ⟨u,y,rfl,rfl,hu⟩) with ⟨h,_⟩ |⟨m,h1,h2,h3⟩
   ·cases h
   ·rw [hq] at h2
    cases h2
    exact .inr ⟨rfl,h3⟩
theorem Gm {l:List (List D)} {z:Nat} (hz: ∀r∈l,r.length=z): ∀k,(l.drop k).flatten=l.flatten.drop (k*z):=by
 induction l with
 |nil=>intro k;simp
 |cons r l ih=>
  intro k
  cases k with
  |zero=>simp
  |succ k=>
   have hr:=hz r (V2 ..)
   rw [List.drop_succ_cons,ih (fun r hr=>hz r (V3 _ hr)),V5,show (k+1)*z=r.length+k*z by rw [hr,V6];omega,←Xw,List.drop_left]
theorem xg {l:List (List D)} {z:Nat} (hz: ∀r∈l,r.length=z): ∀k,(l.take k).flatten=l.flatten.take (k*z):=by
 induction l with
 |nil=>intro k;simp
 |cons r l ih=>
  intro k
  cases k with
  |zero=>simp
  |succ k=>
   have hr:=hz r (V2 ..)
   rw [List.take_succ_cons,V5,ih (fun r hr=>hz r (V3 _ hr)),V5,show (k+1)*z=r.length+k*z by rw [hr,V6];omega,List.take_length_add_append]
theorem Da {x:Tm} (h:Pc x=true):x= .int .i64 0:=by
 unfold Pc at h
 split at h
 ·rfl
 ·cases h
theorem Db {t:TypeId} {ts:List Ty} {n:Tm} {b:Pos} {X:Value} {lo hi mx:Option Operand} {vlo vhi vmx:Option AV} {r:aG} (h:SR P N μ σ w) (hx:VR P μ (.vl ts n b) X)
 (qlo:(vlo=none∧lo=none)∨∃u y,vlo=some u∧lo=some y∧VR P μ u (ca.eval y)) (qhi:(vhi=none∧hi=none)∨∃u y,vhi=some u∧hi=some y∧VR P μ u (ca.eval y)) (qmx:(vmx=none∧mx=none)∨∃u y,vmx=some u∧mx=some y∧VR P μ u (ca.eval y))
 (hr:EI P t ts n b vlo vhi vmx σ=some r):NR P N μ σ w r ((do pure (.value (←Xx t X (lo.map ca.eval) (hi.map ca.eval) (mx.map ca.eval))):Sem Next).run P w):=by
 obtain ⟨e,he,hr1⟩:=aa.1 hr
 obtain ⟨z,hz,hr2⟩:=aa.1 hr1
 obtain ⟨l,hl,hr3⟩:=aa.1 hr2
 obtain ⟨g,hg,hr4⟩:=aa.1 hr3
 obtain ⟨hb,hr5⟩:=aj.1 hr4
 cases hr5
 clear hr hr1 hr2 hr3 hr4
 simp only [V1] at hb
 obtain ⟨⟨⟨⟨b1,b2⟩,b3⟩,b4⟩,b5⟩:=hb
 have b1:z=ts.length:=VN b1
 obtain rfl:=Da b3
 have hu:=cA he
 have ev0:ev (.int .i64 0)= .int .i64 0:=rfl
 have qlo':(lo.map ca.eval=none∧0=0)∨lo.map ca.eval=some (.int .i64 (Vw 0)):=by
  rcases fk hl qlo with ⟨_,q2,_⟩ |⟨n,_,q2,q3⟩
  ·exact .inl ⟨q2,rfl⟩
  ·rw [ev0] at q2;cases q2;exact .inr q3
 have hmx:mx.map ca.eval=none:=by
  rcases qmx with ⟨_,rfl⟩ |⟨_,_,rfl,_,_⟩
  ·rfl
  ·cases b2
 cases hx with
 |vl _ _ _ _ en hen hq=>
  have key: ∀(m:Nat),ev n= .int .i64 (Vw m)→∃k:Nat,k≤m∧ev g= .int .i64 (Vw k)∧((hi.map ca.eval=none∧mx.map ca.eval=none∧k=m)∨hi.map ca.eval=some (.int .i64 (Vw k))):=by
   intro m hm
   rcases fk hg qhi with ⟨_,q2,rfl⟩ |⟨v,_,q2,q3⟩
   ·exact ⟨m,VY _,hm,.inl ⟨q2,hmx,rfl⟩⟩
   ·have h0:=jk b4 q2
    obtain ⟨k,rfl⟩:=Ws h0
    have h1:=dT b5 q2 hm
    exact ⟨k,by have:(Vw m:Int)=(m:Int):=rfl;omega,q2,.inr q3⟩
  rcases hq with ⟨hX,q2,q3⟩ |⟨m,c,rfl,q2,q3,q4,q5,q6⟩
  ·obtain ⟨k,k1,k2,k3⟩:=key 0 q3
   obtain rfl:k=0:=by omega
   have hbr:=dr (P:=P) (w:=w) (isS:=true) (len:=0) (cap:=0) qlo' k3 (.inl hmx) (VY 0) (VY 0)
   rcases hX with rfl |⟨ad,rfl⟩
   ·refine NR.value h (u:=.slice none 0 0) ?_ (.vl ts g b _ en hen (.inl ⟨.inl rfl,q2,k2⟩))
    rw [hmx] at hbr⊢
    simp [Xx,Xy,run_underlying hu,hbr,bq hz]
   ·refine NR.value h (u:=.slice (some ad) 0 0) ?_ (.vl ts g b _ en hen (.inl ⟨.inr ⟨ad,rfl⟩,q2,k2⟩))
    rw [hmx] at hbr⊢
    simp [Xx,Xy,run_underlying hu,hbr,bq hz]
  ·obtain ⟨k,k1,k2,k3⟩:=key m q3
   have hbr:=dr (P:=P) (w:=w) (isS:=true) (len:=m) (cap:=c) qlo' k3 (.inl hmx) (Xz k) (by omega)
   refine NR.value h (u:=.slice (some en.a) k c) ?_ (.vl ts g b _ en hen (.inr ⟨k,c,rfl,q2,k2,by omega,q5,q6⟩))
   rw [hmx] at hbr⊢
   simp only [XA,XB,if_false] at hbr
   simp only [Xx,Xy,run_underlying hu,hbr,bq hz,Wc,WG,Wd,XC,Nat.zero_mul]
   split<;>simp [add_nil]
theorem A3 {t:TypeId} {v:AV} {X:Value} {lo hi mx:Option Operand} {vlo vhi vmx:Option AV} {r:aG} (h:SR P N μ σ w) (hx:VR P μ v X)
 (qlo:(vlo=none∧lo=none)∨∃u y,vlo=some u∧lo=some y∧VR P μ u (ca.eval y)) (qhi:(vhi=none∧hi=none)∨∃u y,vhi=some u∧hi=some y∧VR P μ u (ca.eval y)) (qmx:(vmx=none∧mx=none)∨∃u y,vmx=some u∧mx=some y∧VR P μ u (ca.eval y))
 (hr:jJ P t v vlo vhi vmx σ=some r):NR P N μ σ w r ((do pure (.value (←Xx t X (lo.map ca.eval) (hi.map ca.eval) (mx.map ca.eval))):Sem Next).run P w):=by
 unfold jJ at hr
 cases v<;>first |(cases hr;done) |skip
 rename_i ty x
 cases ty<;>first |(cases hr;done) |skip
 rename_i ts
 obtain ⟨e,he,hr⟩:=aa.1 hr
 obtain ⟨z,hz,hr⟩:=aa.1 hr
 obtain ⟨l,hl,hr⟩:=aa.1 hr
 obtain ⟨g,hg,hr⟩:=aa.1 hr
 obtain ⟨hb,hr⟩:=aj.1 hr
 have hu:P.underlying t=some (.slice e):=by
  unfold dJ at he
  split at he
  ·rename_i e' hu;cases he;exact hu
  ·cases he
 cases he0:(vmx.isSome&&Pc l&&Pc g&&Ab g vmx&&EE x) with
 |true=>
  rw [he0] at hr
  cases hr
  simp only [V1] at he0
  obtain ⟨⟨⟨⟨e1,e2⟩,e3⟩,e4⟩,e5⟩:=he0
  obtain rfl:=Da e2
  obtain rfl:=Da e3
  have ev0:ev (.int .i64 0)= .int .i64 0:=rfl
  cases hx with
  |tm _ _ _ h1 h2=>
   obtain ⟨L,hL,hrows⟩:=h1
   have hne:=AG e5 hL
   rw [hL] at h2
   cases h2 with
   |nil=>exact absurd rfl hne
   |aF _ ad c u hn hm hf hd=>
    have qlo':(lo.map ca.eval=none∧0=0)∨lo.map ca.eval=some (.int .i64 (Vw 0)):=by
     rcases fk hl qlo with ⟨_,q2,_⟩ |⟨n,_,q2,q3⟩
     ·exact .inl ⟨q2,rfl⟩
     ·rw [ev0] at q2;cases q2;exact .inr q3
    have qhi':(hi.map ca.eval=none∧mx.map ca.eval=none∧0=L.length)∨hi.map ca.eval=some (.int .i64 (Vw 0)):=by
     rcases fk hg qhi with ⟨_,_,q3⟩ |⟨n,_,q2,q3⟩
     ·cases q3
     ·rw [ev0] at q2;cases q2;exact .inr q3
    have qmx':mx.map ca.eval=some (.int .i64 (Vw 0)):=by
     rcases uf e4 ev0 qmx with ⟨h,_⟩ |⟨_,h⟩
     ·rw [h] at e1;cases e1
     ·exact h
    have hbr:=dr (P:=P) (w:=w) (isS:=true) (len:=L.length) (cap:=c) qlo' qhi' (.inr qmx') (VY 0) (Xz c)
    refine NR.value h (u:=.slice (some ad) 0 0) ?_ (.e0 true ad 0 (fun _=>rfl) (Xz _))
    rw [qmx'] at hbr⊢
    simp only [Xx,Xy,run_underlying hu,hbr,bq hz,Wc,WG,Wd]
    rfl
 |false=>
 rw [he0] at hr
 obtain ⟨hc,hr⟩:=aj.1 (show au (lN l&&dD l g&&(vhi.isNone||dD g (.op .len [x]))&&Ab g vmx) (some (aG.val (.tm (.aF ts) (.op .sub [x,l,g])) σ)) none=some r from hr)
 cases hr
 simp only [V1,WW] at hb hc
 obtain ⟨hzt,hhm⟩:=hb
 obtain ⟨⟨⟨hc1,hc2⟩,hc3⟩,hc4⟩:=hc
 have hzt:=VN hzt
 cases hx with
 |tm _ _ _ h1 h2=>
  obtain ⟨L,hL,hrows⟩:=h1
  have hlen: ∀r∈L,r.length=z:=fun r hr=>by rw [hzt];exact bD (hrows r hr)
  have hevlen:ev (.op .len [x])= .int .i64 (L.length:Int):=by rw [bH];simp only [VT,VU,hL];rfl
  have hle: ∃a:Int,ev l= .int .i64 a∧((lo.map ca.eval=none∧a=0)∨lo.map ca.eval=some (.int .i64 a)):=by
   rcases fk hl qlo with ⟨_,q2,rfl⟩ |⟨n,_,q2,q3⟩
   ·exact ⟨0,rfl,.inl ⟨q2,rfl⟩⟩
   ·exact ⟨n,q2,.inr q3⟩
  obtain ⟨a,ha,hlo⟩:=hle
  have hge: ∃b:Int,ev g= .int .i64 b∧b≤L.length∧((vhi=none∧hi.map ca.eval=none∧b=L.length)∨hi.map ca.eval=some (.int .i64 b)):=by
   rcases fk hg qhi with ⟨q1,q2,rfl⟩ |⟨n,q1,q2,q3⟩
   ·exact ⟨_,hevlen,Int.le_refl _,.inl ⟨q1,q2,rfl⟩⟩
   ·refine ⟨n,q2,?_,.inr q3⟩
    rcases hc3 with h |h
    ·cases vhi with
     |none=>cases q1
     |some _=>cases h
    ·exact dT h q2 hevlen
  obtain ⟨b,hb',hbl,hhi⟩:=hge
  have ha0:=jk hc1 ha
  have hab:=dT hc2 ha hb'
  have hmx:=uf hc4 hb' qmx
  obtain ⟨la,rfl⟩:=Ws ha0
  obtain ⟨lb,rfl⟩:=Ws (Xr ha0 hab)
  have h3:la≤lb:=by omega
  have h4:lb≤L.length:=by omega
  have qlo':(lo.map ca.eval=none∧la=0)∨lo.map ca.eval=some (.int .i64 (Vw la)):=by
   rcases hlo with ⟨q1,q2⟩ |q
   ·exact .inl ⟨q1,by omega⟩
   ·exact .inr q
  have qhi':(hi.map ca.eval=none∧mx.map ca.eval=none∧lb=L.length)∨hi.map ca.eval=some (.int .i64 (Vw lb)):=by
   rcases hhi with ⟨q0,q1,q2⟩ |q
   ·refine .inl ⟨q1,?_,by omega⟩
    rcases hmx with ⟨_,h⟩ |⟨h5,_⟩
    ·exact h
    ·rcases hhm with h6 |h6
     ·subst q0;cases h6
     ·cases vmx with
      |none=>cases h5
      |some _=>cases h6
   ·exact .inr q
  have qmx':mx.map ca.eval=none∨mx.map ca.eval=some (.int .i64 (Vw lb)):=hmx.elim (fun h=>.inl h.2) fun h=>.inr h.2
  have hev:ev (.op .sub [x,l,g])= .aF ((L.take lb).drop la):=by
   rw [bH]
   simp only [VT,VU,hL,ha,hb']
   rfl
  have hty:bx (.aF ts) (ev (.op .sub [x,l,g])):=⟨_,hev,fun r hr=>hrows r (XD (List.mem_of_mem_drop hr))⟩
  rw [hL] at h2
  have hsl:((L.take lb).drop la).length=lb - la:=by rw [List.length_drop,V9,Wa h4]
  cases h2 with
  |nil=>
   have hbr:=dr (P:=P) (w:=w) (isS:=true) (len:=0) (cap:=0) qlo' qhi' qmx' h3 h4
   have h40:lb=0:=by simpa using h4
   subst h40
   have h30:la=0:=by omega
   subst h30
   refine NR.value h (u:=.slice none 0 0) ?_ (.tm _ _ _ hty (by rw [hev];exact .nil))
   simp [Xx,Xy,run_underlying hu,hbr,bq hz]
  |aF _ ad c u hn hm hf hd=>
   have hbr:=dr (P:=P) (w:=w) (isS:=true) (len:=L.length) (cap:=c) qlo' qhi' qmx' h3 (VZ h4 hn)
   have hM: ∃M,(if (mx.map ca.eval).isSome=true then lb else c)=M∧lb≤M∧M≤c:=by
    refine ⟨_,rfl,?_,?_⟩<;>split<;>omega
   obtain ⟨M,hM,m1,m2⟩:=hM
   rw [hM] at hbr
   refine NR.value h (u:=.slice (some (if M=la then ad else ad.add (la*z))) (lb - la) (M - la)) ?_ (.tm _ _ _ hty ?_)
   ·simp only [Xx,Xy,run_underlying hu,hbr,bq hz,Wc,WG,Wd]
    split<;>rfl
   ·rw [hev,←hsl]
    have hfl: ∀j d,((L.take lb).drop la).flatten[j]? =some d→L.flatten[la*z+j]? =some d∧M≠la:=by
     intro j d hj
     have hlt: ∀r∈L.take lb,r.length=z:=fun r hr=>hlen r (XD hr)
     rw [Gm hlt,List.getElem?_drop,xg hlen] at hj
     refine ⟨?_,fun hMl=>?_⟩
     ·rw [VK] at hj
      split at hj
      ·exact hj
      ·cases hj
     ·have:lb≤la:=by omega
      have hle:lb*z≤la*z:=Wu _ this
      rw [VK,if_neg (by omega)] at hj
      cases hj
    refine .aF _ _ _ (fun j=>u (la*z+j)) (by rw [hsl];omega) (VZ (Nat.sub_le ..) (VZ m2 hm)) (fun j hj=>?_) fun j d hj=>?_
    ·obtain ⟨h5,h6⟩:=hfl j _ (Wj hj)
     rw [if_neg h6,add_add]
     exact hf _ (List.getElem?_eq_some_iff.1 h5).1
    ·exact hd _ _ (hfl j d hj).1
theorem IP {t:TypeId} {x:Operand} {lo hi mx:Option Operand} {r:aG} (h:SR P N μ σ w) (ha:AR P μ a ca) (hr:tN t x lo hi mx P a σ=some r):
 NR P N μ σ w r ((do pure (.value (←Xx t (ca.eval x) (lo.map ca.eval) (hi.map ca.eval) (mx.map ca.eval))):Sem Next).run P w):=by
 obtain ⟨v,hv,hr1⟩:=aa.1 hr
 obtain ⟨vlo,hvlo,hr2⟩:=aa.1 hr1
 obtain ⟨vhi,hvhi,hr3⟩:=aa.1 hr2
 obtain ⟨vmx,hvmx,hr4⟩:=aa.1 hr3
 have hx:=ha.eval h hv
 have qlo:=ha.nv h hvlo
 have qhi:=ha.nv h hvhi
 have qmx:=ha.nv h hvmx
 replace hr4:au (gC v) (jJ P t v vlo vhi vmx σ) (tD P t v vlo vhi vmx σ)=some r:=hr4
 cases hst:gC v with
 |true=>
  rw [hst] at hr4
  exact A3 h hx qlo qhi qmx hr4
 |false=>?_
 rw [hst] at hr4
 replace hr4:(tD P t v vlo vhi vmx σ)=some r:=hr4
 by_cases hvl: ∃ts n b,v= .vl ts n b
 ·obtain ⟨ts,n,b,rfl⟩:=hvl
  exact Db h hx qlo qhi qmx hr4
 replace hr4:yj P t v vlo vhi vmx σ=some r:=by
  cases v<;>first |exact hr4 |exact absurd ⟨_,_,_,rfl⟩ hvl
 clear hvl
 clear hst
 obtain ⟨l,hl,hr5⟩:=aa.1 hr4
 have qlo:=dO hl qlo
 have qlo':((lo.map ca.eval)=none∧l=0)∨(lo.map ca.eval)=some (.int .i64 (Vw l)):=by
  rcases qlo with ⟨_,h1,h2⟩ |⟨_,h1⟩
  ·exact .inl ⟨h1,h2⟩
  ·exact .inr h1
 clear hr hr1 hr2 hr3 hr4
 generalize ca.eval x=X at*
 split at hr5
 ·rename_i hu
  cases v with
  |str s=>
   obtain ⟨hn,hhn,hr6⟩:=aa.1 hr5
   obtain ⟨hmn,hr7⟩:=aj.1 hr6
   obtain ⟨hb,hr8⟩:=aj.1 hr7
   cases hr8
   simp only [V1] at hb
   have b1:=VQ hb.1
   have b2:=VQ hb.2
   have hmx:mx.map ca.eval=none:=by
    rcases qmx with ⟨_,rfl⟩ |⟨_,_,rfl,_,_⟩
    ·rfl
    ·cases hmn
   cases hx with
   |str _ S hS=>
    subst hS
    have hsl:(S.data.toList.map (·.toNat)).length=S.size:=by simp
    rw [hsl] at b2 hhn
    have qhi':((hi.map ca.eval)=none∧(none:Option Value)=none∧hn=S.size)∨(hi.map ca.eval)=some (.int .i64 (Vw hn)):=by
     rcases dO hhn qhi with ⟨_,h1,h2⟩ |⟨_,h1⟩
     ·exact .inl ⟨h1,rfl,h2⟩
     ·exact .inr h1
    have hbr:=dr (P:=P) (w:=w) (isS:=false) (cap:=S.size) qlo' qhi' (.inl rfl) b1 b2
    refine NR.value h (u:=.string (S.extract l hn)) ?_ (.str _ _ ?_)
    ·simp [Xx,Xy,run_underlying hu,hmx,hbr]
    ·simp [List.extract_eq_take_drop,List.map_drop,List.map_take,List.drop_take]
  |_=>cases hr5
 ·rename_i e hu
  obtain ⟨z,hz,hr6⟩:=aa.1 hr5
  cases v with
  |slice b o n fV wh=>
   obtain ⟨hn,hhn,hr7⟩:=aa.1 hr6
   obtain ⟨m,hm,hr8⟩:=aa.1 hr7
   obtain ⟨hb,hr9⟩:=aj.1 hr8
   cases hr9
   simp only [V1] at hb
   have b1:l≤hn:=VQ hb.1.1.1
   have b2:hn≤n:=VQ hb.1.1.2
   obtain rfl:m=hn:=VN hb.1.2
   have hb4:=hb.2
   cases hx with
   |slice _ _ _ _ _ en ad c hen had hnc hmc hlim hc=>
    have qmx':(vmx=none∧mx.map ca.eval=none)∨(vmx.isSome=true∧mx.map ca.eval=some (.int .i64 (Vw m))):=by
     rcases dO hm qmx with ⟨h0,h1,h2⟩ |h1
     ·exact .inl ⟨h0,h1⟩
     ·exact .inr h1
    have qhi':((hi.map ca.eval)=none∧mx.map ca.eval=none∧m=n)∨(hi.map ca.eval)=some (.int .i64 (Vw m)):=by
     rcases dO hhn qhi with ⟨h0,h1,h2⟩ |⟨_,h1⟩
     ·refine .inl ⟨h1,?_,h2⟩
      rcases qmx' with ⟨_,h⟩ |⟨h3,_⟩
      ·exact h
      ·subst h0
       cases vmx with
       |none=>cases h3
       |some _=>cases hb4
     ·exact .inr h1
    have hbr:=dr (P:=P) (w:=w) (isS:=true) (len:=n) (cap:=c) qlo' qhi' (qmx'.elim (fun h=>.inl h.2) fun h=>.inr h.2) b1 (VZ b2 hnc)
    have hM: ∃M,(if (mx.map ca.eval).isSome=true then m else c)=M∧m≤M∧M≤c∧(vmx=none→M=c)∧(vmx.isSome=true→M=m):=by
     refine ⟨_,rfl,?_,?_,?_,?_⟩
     ·split<;>omega
     ·split<;>omega
     ·intro h0
      rcases qmx' with ⟨_,h⟩ |⟨h3,_⟩
      ·rw [h];rfl
      ·rw [h0] at h3;cases h3
     ·intro h0
      rcases qmx' with ⟨h3,_⟩ |⟨_,h⟩
      ·rw [h3] at h0;cases h0
      ·rw [h];rfl
    obtain ⟨M,hM,m1,m2,m3,m4⟩:=hM
    rw [hM] at hbr
    obtain ⟨g1,g2⟩:=xf (lo:=l) (hi:=m) (z:=z) had M m2 b1 m1
    refine NR.value h (u:=.slice (some (if M=l then ad else ad.add (l*z))) (m - l) (M - l)) ?_ (.slice b (o+l*z) (m - l) _ _ en _ (M - l) hen g2 (by omega) (by omega) ?_ ?_)
    ·simp only [Xx,Xy,run_underlying hu,hbr,bq hz,Wc,WG,Wd,g1]
    ·intro hl
     cases vmx with
     |some _=>rw [m4 rfl]
     |none=>
      simp only [XA,Bool.false_or,V1] at hl
      rw [m3 rfl,hlim hl.1,VN hl.2]
    ·intro hw ho sz t' hsz
     simp only [V1,WW] at hw
     have hc:=hc hw.1.1 (by omega) sz t' hsz
     have hl0:l=0:=VN hw.1.2
     have hMc:M=c:=by
      cases vmx with
      |none=>exact m3 rfl
      |some _=>
       rcases hw.2 with h2 |h2
       ·cases h2
       ·rw [m4 rfl,hlim h2.1,VN h2.2]
     rw [hMc,hl0,XC];exact hc
  |an=>
   obtain ⟨hn,hhn,hr7⟩:=aa.1 hr6
   obtain ⟨m,hm,hr8⟩:=aa.1 hr7
   obtain ⟨hb,hr9⟩:=aj.1 hr8
   cases hr9
   simp only [V1] at hb
   have b1:l=0:=VN hb.1.1.1
   have b2:hn=0:=VN hb.1.1.2
   have b3:m=hn:=VN hb.1.2
   have hb4:=hb.2
   subst b1
   subst b2
   subst b3
   have qmx':(vmx=none∧mx.map ca.eval=none)∨(vmx.isSome=true∧mx.map ca.eval=some (.int .i64 (Vw 0))):=by
    rcases dO hm qmx with ⟨h0,h1,h2⟩ |h1
    ·exact .inl ⟨h0,h1⟩
    ·exact .inr h1
   have qhi':((hi.map ca.eval)=none∧mx.map ca.eval=none∧0=0)∨(hi.map ca.eval)=some (.int .i64 (Vw 0)):=by
    rcases dO hhn qhi with ⟨h0,h1,h2⟩ |⟨_,h1⟩
    ·refine .inl ⟨h1,?_,rfl⟩
     rcases qmx' with ⟨_,h⟩ |⟨h3,_⟩
     ·exact h
     ·subst h0
      cases vmx with
      |none=>cases h3
      |some _=>cases hb4
    ·exact .inr h1
   have hbr:=dr (P:=P) (w:=w) (isS:=true) (len:=0) (cap:=0) qlo' qhi' (qmx'.elim (fun h=>.inl h.2) fun h=>.inr h.2) (VY 0) (VY 0)
   cases hx
   refine NR.value h (u:=.slice none 0 0) ?_ .an
   simp [Xx,Xy,run_underlying hu,hbr,bq hz]
  |e0 zz=>
   obtain ⟨hn,hhn,hr7⟩:=aa.1 hr6
   obtain ⟨m,hm,hr8⟩:=aa.1 hr7
   obtain ⟨hb,hr9⟩:=aj.1 hr8
   cases hr9
   simp only [V1] at hb
   have b1:l=0:=VN hb.1.1.1
   have b2:hn=0:=VN hb.1.1.2
   have b3:m=hn:=VN hb.1.2
   have hb4:=hb.2
   subst b1
   subst b2
   subst b3
   have qmx':(vmx=none∧mx.map ca.eval=none)∨(vmx.isSome=true∧mx.map ca.eval=some (.int .i64 (Vw 0))):=by
    rcases dO hm qmx with ⟨h0,h1,h2⟩ |h1
    ·exact .inl ⟨h0,h1⟩
    ·exact .inr h1
   have qhi':((hi.map ca.eval)=none∧mx.map ca.eval=none∧0=0)∨(hi.map ca.eval)=some (.int .i64 (Vw 0)):=by
    rcases dO hhn qhi with ⟨h0,h1,h2⟩ |⟨_,h1⟩
    ·refine .inl ⟨h1,?_,rfl⟩
     rcases qmx' with ⟨_,h⟩ |⟨h3,_⟩
     ·exact h
     ·subst h0
      cases vmx with
      |none=>cases h3
      |some _=>cases hb4
    ·exact .inr h1
   have hzS:=hz
   cases hx with
   |e0 _ ad c hz hm0=>
   have hbr:=dr (P:=P) (w:=w) (isS:=true) (len:=0) (cap:=c) qlo' qhi' (qmx'.elim (fun h=>.inl h.2) fun h=>.inr h.2) (VY 0) (Xz c)
   rcases qmx' with ⟨h1,h2⟩ |⟨h1,h2⟩
   ·refine NR.value h (u:=.slice (some ad) 0 c) ?_ (.e0 _ ad c (fun h=>hz (by rw [h1] at h;simpa using h)) hm0)
    rw [h2] at hbr⊢
    simp only [XA,XB,if_false] at hbr
    simp only [Xx,Xy,run_underlying hu,hbr,bq hzS,Wc,WG,Wd,XC,Nat.zero_mul]
    split<;>simp [add_nil]
   ·refine NR.value h (u:=.slice (some ad) 0 0) ?_ (.e0 _ ad 0 (fun _=>rfl) (Xz _))
    rw [h2] at hbr⊢
    simp only [Option.isSome_some,if_true] at hbr
    simp only [Xx,Xy,run_underlying hu,hbr,bq hzS,Wc,WG,Wd]
    rfl
  |_=>cases hr6
 ·rename_i n e hu
  obtain ⟨z,hz,hr6⟩:=aa.1 hr5
  cases v with
  |ptr b o=>
   obtain ⟨hn,hhn,hr7⟩:=aa.1 hr6
   obtain ⟨hb,hr8⟩:=aj.1 hr7
   cases hr8
   simp only [V1] at hb
   have b1:l≤hn:=VQ hb.1.1.1
   obtain rfl:hn=n:=VN hb.1.1.2
   have b4:=VQ hb.2
   have hmx:mx.map ca.eval=none:=by
    rcases qmx with ⟨_,rfl⟩ |⟨_,_,rfl,_,_⟩
    ·rfl
    ·cases hb.1.2
   have qhi':((hi.map ca.eval)=none∧(none:Option Value)=none∧hn=hn)∨(hi.map ca.eval)=some (.int .i64 (Vw hn)):=by
    rcases dO hhn qhi with ⟨_,h1,h2⟩ |⟨_,h1⟩
    ·exact .inl ⟨h1,rfl,h2⟩
    ·exact .inr h1
   have hbr:=dr (P:=P) (w:=w) (isS:=false) (len:=hn) (cap:=hn) qlo' qhi' (.inl rfl) b1 (VY _)
   cases hx with
   |ptr _ _ en hen=>
    obtain ⟨g1,g2⟩:=xf (lo:=l) (hi:=hn) (z:=z) (en:=en) (c:=hn) (ad:=en.a.add o) (.inl rfl) hn (VY _) b1 (VY _)
    refine NR.value h (u:=.slice (some (if hn=l then en.a.add o else (en.a.add o).add (l*z))) (hn - l) (hn - l)) ?_ (.slice b (o+l*z) (hn - l) true false en _ (hn - l) hen g2 (VY _) (by simp only [maxLen];omega) (fun _=>rfl) (by simp))
    simp only [Xx,run_underlying hu,WA,hmx,hbr,bq hz,Wc,WG,Wd,XA,XB,if_false]
  |_=>cases hr6
 ·cases hr5
end
end
section
open Go Go.RowKit Go.MapKept
variable [Env]
section
variable {P:Program} {N:Nat} {μ:bw} {σ:St} {w:World} {a:aN} {ca:Act}
theorem A4 {x y:AV} (h:je x y=true):x=y:=by
 unfold je at h
 cases x with
 |int j a=>cases y with
  |int k b=>
   rw [V1,fL,gf] at h
   rw [of_decide_eq_true h.1,eq_of_beq h.2]
  |_=>cases h
 |str a=>cases y with
  |str b=>
   replace h:wM a b=true:=h
   rw [fK] at h
   rw [eq_of_beq h]
  |_=>cases h
 |bool a=>cases y with
  |bool b=>
   replace h:(a==b)=true:=h
   rw [eq_of_beq h]
  |_=>cases h
 |_=>cases h
theorem qT: ∀{xs ys:List AV},tr xs ys=true→xs=ys∧∀x∈xs,je x x=true
 |[],[],_=>⟨rfl,by simp⟩
 |[],_::_,h=>by cases h
 |_::_,[],h=>by cases h
 |x::xs,y::ys,h=>by
  have h:au (je x y) (tr xs ys) false=true:=h
  cases hc:je x y with
  |false=>rw [hc] at h;cases h
  |true=>
   rw [hc] at h
   obtain ⟨rfl,h2⟩:=qT (show tr xs ys=true from h)
   obtain rfl:=A4 hc
   exact ⟨rfl,fun z hz=>by cases hz with |head=>exact hc |tail _ hz=>exact h2 z hz⟩
theorem IQ {x y:AV} (h:o9 x y=true):x=y:=by
 unfold o9 at h
 cases x with
 |agg xs=>cases y with
  |agg ys=>rw [(qT h).1]
  |_=>cases h
 |_=>exact A4 h
theorem str_inj {s s':ByteArray} (h:s.data.toList.map (·.toNat)=s'.data.toList.map (·.toNat)):s=s':=by
 have:s.data.toList=s'.data.toList:=by
  have hinj: ∀(x y:List UInt8),x.map (·.toNat)=y.map (·.toNat)→x=y:=by
   intro x
   induction x with
   |nil=>intro y h;cases y with |nil=>rfl |cons _ _=>cases h
   |cons a x ih=>intro y h;cases y with
    |nil=>cases h
    |cons b y=>simp at h;rw [UInt8.toNat_inj.1 h.1,ih y h.2]
  exact hinj _ _ h
 cases s;cases s'
 congr 1
 exact Array.ext' this
theorem pC {x:AV} (h:je x x=true) {X Y:Value} (hX:VR P μ x X) (hY:VR P μ x Y):X=Y∧∀n,XE n X Y=true:=by
 cases x with
 |int j a=>cases hX;cases hY;exact ⟨rfl,fun n=>by cases n<;>simp [XE]⟩
 |str a=>cases hX with
  |str _ s hs=>cases hY with
   |str _ s' hs'=>
    obtain rfl:=str_inj (hs.trans hs'.symm)
    refine ⟨rfl,fun n=>by cases n<;>simp [XE,bytes_beq]⟩
 |bool a=>cases hX;cases hY;exact ⟨rfl,fun n=>by cases n<;>simp [XE]⟩
 |_=>cases h
theorem A5 {x:AV} (h:o9 x x=true) (hx:lT x=false):je x x=true:=by
 cases x<;>first |exact h |cases hx
theorem Dc {x:AV} (h:o9 x x=true) {X Y:Value} (hX:VR P μ x X) (hY:VR P μ x Y) (n:Nat):XE (n+1) X Y=true:=by
 cases hx:lT x with
 |false=>exact (pC (A5 h hx) hX hY).2 _
 |true=>
 obtain ⟨xs,rfl⟩:=xc hx
 have h2:=(qT (show tr xs xs=true from h)).2
 cases hX with
 |agg _ C hC _=>cases hY with
  |agg _ D hD _=>
   have key: ∀(xs:List AV) (C D:List Value),(∀x∈xs,je x x=true)→b8 P μ xs C→b8 P μ xs D→C=D∧(C.zip D).all (fun (x,y)=>XE n x y)=true:=by
    intro xs
    induction xs with
    |nil=>intro C D _ hC hD;cases hC;cases hD;exact ⟨rfl,rfl⟩
    |cons x xs ih=>
     intro C D h2 hC hD
     cases hC with
     |cons _ u _ us hv hvs=>cases hD with
      |cons _ u' _ us' hv' hvs'=>
       obtain ⟨rfl,hb⟩:=pC (h2 x (V2 ..)) hv hv'
       obtain ⟨rfl,hr⟩:=ih us us' (fun z hz=>h2 z (V3 _ hz)) hvs hvs'
       exact ⟨rfl,by simp only [List.zip_cons_cons,List.all_cons,hb n,XF];exact hr⟩
   obtain ⟨rfl,h3⟩:=key xs C D h2 hC hD
   unfold XE
   rw [V1]
   exact ⟨by simp,h3⟩
theorem Dd {t:TypeId} {d:TypeDesc} {x y:AV} {X Y:Value} {b c:Bool} (hX:VR P μ x X) (hY:VR P μ y Y) (h:jI P 8 t x y=some b) (hs:XG d X Y=some c):c=b:=by
 have h:Rs P (jI P 7) t x y=some b:=h
 unfold Rs at h
 cases x with
 |int j p=>cases y with
  |int k q=>
   obtain ⟨h1,h2⟩:=aj.1 h
   obtain ⟨_,rfl⟩:=bQ h2
   cases hX;cases hY
   rw [fL] at h1
   have h1:=of_decide_eq_true h1
   cases d<;>first |(cases hs;done) |skip
   simp only [XG,if_pos h1] at hs
   cases hs
   rw [gf]
  |_=>cases h
 |str p=>cases y with
  |str q=>
   obtain ⟨_,rfl⟩:=bQ h
   cases hX with
   |str _ s hs1=>cases hY with
    |str _ s' hs2=>
     subst hs1;subst hs2
     cases d<;>first |(cases hs;done) |skip
     cases hs
     rw [fK,←jB]
     rw [VO]
     rw [bytes_beq,beq_iff_eq]
     refine ⟨fun h=>by rw [h],fun h=>?_⟩
     rw [WO,WO] at h
     exact str_inj (by rw [h])
  |_=>cases h
 |bool p=>cases y with
  |bool q=>
   obtain ⟨_,rfl⟩:=bQ h
   cases hX;cases hY
   cases d<;>first |(cases hs;done) |skip
   cases hs;rfl
  |_=>cases h
 |agg _=>cases y with
  |agg _=>cases hX;cases hY;cases d<;>cases hs
  |_=>cases h
 |_=>first |(cases h;done) |(cases hX<;>cases d<;>cases hs)
def LS (P:Program) (t:TypeId) (K X:Value) (b:Bool):Prop:=(∀w:World,(Op.equal t K X).run P w= .ok b w)∧∀(d:TypeDesc) (c:Bool),XG d K X=some c→c=b
theorem IS {t:TypeId} {k x:AV} {K X:Value} {b:Bool} (hk:VR P μ k K) (hx:VR P μ x X) (h:jI P 8 t k x=some b):LS P t K X b:=
 ⟨fun w=>gK (P:=P) (μ:=μ) 8 Op.maxDepth t k x K X b (by decide) hk hx h w,fun d c hc=>Dd hk hx h hc⟩
theorem A6 {fz:Addr→Option Value} {a c:D} {K X:Value} (hk:dY fz a K) (hx:dY fz c X) {d:TypeDesc} {b:Bool} (hs:XG d K X=some b) (ht:(∃k,bx (.int k) a∧bx (.int k) c)∨bx .str a∧bx .str c):b=jb a c:=by
 rcases ht with ⟨k,⟨n,rfl⟩,⟨m,rfl⟩⟩ |⟨⟨l,rfl⟩,⟨l',rfl⟩⟩
 ·cases hk;cases hx
  cases d<;>first |(cases hs;done) |skip
  simp only [XG] at hs
  simp only [jb,decide_true,XF]
  split at hs
  ·cases hs;rfl
  ·cases hs
 ·cases hk with
  |str _ s h1=>cases hx with
   |str _ s' h2=>
    subst h1;subst h2
    cases d<;>first |(cases hs;done) |skip
    cases hs
    show _=(_==_)
    rw [←jB]
    rw [VO]
    rw [bytes_beq,beq_iff_eq]
    refine ⟨fun h=>by rw [h],fun h=>?_⟩
    rw [WO,WO] at h
    exact str_inj (by rw [h])
theorem sO {fz:Addr→Option Value} {t:TypeId} {a c:D} {K X:Value} (hk:dY fz a K) (hx:dY fz c X) (ht:(∃k,bx (.int k) a∧bx (.int k) c∧nG P t 7=true)∨(bx .str a∧bx .str c)∧nG P t 8=true):LS P t K X (jb a c):=by
 refine ⟨fun w=>?_,fun d b hs=>A6 hk hx hs (ht.imp (fun ⟨k,h1,h2,_⟩=>⟨k,h1,h2⟩) (·.1))⟩
 have key: ∀d:Nat,(WQ (d+1) t K X).run P w= .ok (jb a c) w:=by
  intro d
  rcases ht with ⟨k,⟨n,rfl⟩,⟨m,rfl⟩,hK⟩ |⟨⟨⟨l,rfl⟩,⟨l',rfl⟩⟩,hK⟩
  ·obtain ⟨_,hu,_,_,_,_,_,_,_,h7,_⟩:=bm (VN hK) (by omega)
   obtain ⟨q,rfl⟩:=h7 rfl
   cases hk;cases hx
   simp [WQ,run_underlying hu,jb]
  ·obtain ⟨_,hu,_,_,_,_,_,_,_,_,h8⟩:=bm (VN hK) (by omega)
   have h8:=h8 rfl
   subst h8
   cases hk with
   |str _ s h1=>cases hx with
    |str _ s' h2=>
     subst h1;subst h2
     simp only [WQ,Wc,run_underlying hu,Wd,jb]
     rw [←jB]
     have:(s==s')=(s.toList==s'.toList):=by
      rw [VO,bytes_beq,beq_iff_eq]
      refine ⟨fun h=>by rw [h],fun h=>?_⟩
      rw [WO,WO] at h
      exact str_inj (by rw [h])
     rw [←this]
     rfl
 exact key 9999
theorem De {t:TypeId} {x y:AV} {X Y:Value} {b:Bool} (hx:VR P μ x X) (hy:VR P μ y Y) (h:EF P t x y=some b):b=false∧LS P t X Y false:=by
 obtain ⟨⟨tp,p⟩,h1,h⟩:=aa.1 h
 obtain ⟨⟨tq,q⟩,h2,h⟩:=aa.1 h
 obtain ⟨c,h3,h⟩:=aa.1 h
 cases c with
 |true=>cases h
 |false=>
  cases h
  refine ⟨rfl,?_⟩
  obtain ⟨g1,g2⟩:=ff hx h1
  obtain ⟨g3,g4⟩:=ff hy h2
  unfold wQ at h3
  cases tp with
  |int k=>
   cases tq with
   |int j=>
    obtain ⟨hb,hd⟩:=aj.1 (show au (th k j&&nG P t 7) (fH (.tm .bool (.op (.cmp .eql) [p,q]))) none=some false from h3)
    rw [V1,fL] at hb
    obtain rfl:=of_decide_eq_true hb.1
    have hev:=cj (show dB (.op (.cmp .eql) [p,q])=some false from hd)
    have:=sO (P:=P) (t:=t) g2 g4 (.inl ⟨k,g1,g3,hb.2⟩)
    obtain ⟨n,e1⟩:=g1
    obtain ⟨m,e2⟩:=g3
    rw [bH] at hev
    simp only [VT,VU,e1,e2] at hev
    rw [e1,e2] at this
    have hf:(n==m)=false:=by injection hev
    simpa [jb,hf] using this
   |_=>cases h3
  |str=>
   cases tq with
   |str=>
    obtain ⟨hb,hd⟩:=aj.1 (show au (nG P t 8) (fH (.tm .bool (.op (.kr .eql) [p,q]))) none=some false from h3)
    have hev:=cj (show dB (.op (.kr .eql) [p,q])=some false from hd)
    have:=sO (P:=P) (t:=t) g2 g4 (.inr ⟨⟨g1,g3⟩,hb⟩)
    obtain ⟨n,e1⟩:=g1
    obtain ⟨m,e2⟩:=g3
    rw [bH] at hev
    simp only [VT,VU,e1,e2] at hev
    rw [e1,e2] at this
    have hf:(n==m)=false:=by injection hev
    simpa [jb,hf] using this
   |_=>cases h3
  |bool=>
   cases tq with
   |bool=>
    obtain ⟨hb,hd⟩:=aj.1 (show au (nG P t 0) (fH (.tm .bool (.op .beq [p,q]))) none=some false from h3)
    have hev:=cj (show dB (.op .beq [p,q])=some false from hd)
    obtain ⟨n,e1⟩:=g1
    obtain ⟨m,e2⟩:=g3
    rw [bH] at hev
    simp only [VT,VU,e1,e2] at hev
    rw [e1] at g2
    rw [e2] at g4
    have hf:(n==m)=false:=by injection hev
    cases g2
    cases g4
    obtain ⟨_,hu,h0,_⟩:=bm (VN hb) (by omega)
    have h0:=h0 rfl
    subst h0
    refine ⟨fun w=>?_,fun d c hc=>?_⟩
    ·have key: ∀d:Nat,(WQ (d+1) t (.bool n) (.bool m)).run P w= .ok false w:=fun d=>by
      simp only [WQ,Wc,run_underlying hu,Wd,hf]
      rfl
     exact key 9999
    ·cases d<;>first |(cases hc;done) |skip
     cases hc
     exact hf
   |_=>cases h3
  |_=>cases h3
theorem pD {t:TypeId} {x y:AV} {X Y:Value} {b:Bool} (hx:VR P μ x X) (hy:VR P μ y Y) (h:LQ P t x y=some b):LS P t X Y b∧(b=true→x=y∧o9 x x=true):=by
 replace h:au (gC x) (EF P t x y) (ab (jI P 8 t x y) fun b=>au b (au (o9 x y) (some true) none) (some false))=some b:=h
 cases ht:gC x with
 |true=>
  rw [ht] at h
  obtain ⟨rfl,h1⟩:=De hx hy (show EF P t x y=some b from h)
  exact ⟨h1,fun h=>by cases h⟩
 |false=>
 rw [ht] at h
 obtain ⟨c,hc,h⟩:=aa.1 (show ab (jI P 8 t x y) (fun b=>au b (au (o9 x y) (some true) none) (some false))=some b from h)
 cases c with
 |true=>
  obtain ⟨h1,h2⟩:=aj.1 (show au (o9 x y) (some true) none=some b from h)
  cases h2
  have:=IQ h1
  subst this
  exact ⟨IS hx hy hc,fun _=>⟨rfl,h1⟩⟩
 |false=>cases h;exact ⟨IS hx hy hc,fun h=>by cases h⟩
def Found (P:Program) (t:TypeId) (K:Value) (ms:List MapEntry) (r:Option (Nat×Value)):Prop:=
 (∀(i:Nat) (w:World),(XH t K ms i).run P w= .ok (r.map fun q=>(i+q.1,q.2)) w)∧
 ∀(d:TypeDesc) (i:Nat) (q:Option (Nat×Value)),XI d K ms i=some q→q=r.map fun q=>(i+q.1,q.2)
theorem Found.nil (t:TypeId) (K:Value):Found P t K [] none:=⟨fun i w=>rfl,fun d i q h=>by cases h;rfl⟩
theorem Found.here {t:TypeId} {K:Value} {m:MapEntry} {ms:List MapEntry} (h:LS P t K m.key true):Found P t K (m::ms) (some (0,m.val)):=by
 refine ⟨fun i w=>?_,fun d i q hq=>?_⟩
 ·unfold XH
  simp only [Wc,h.1 w,Wd]
  rfl
 ·unfold XI at hq
  split at hq
  ·cases hq;rfl
  ·rename_i hs;have:=h.2 d _ hs;cases this
  ·cases hq
theorem Found.there {t:TypeId} {K:Value} {m:MapEntry} {ms:List MapEntry} {r:Option (Nat×Value)} (h:LS P t K m.key false) (hr:Found P t K ms r):
 Found P t K (m::ms) (r.map fun q=>(q.1+1,q.2)):=by
 refine ⟨fun i w=>?_,fun d i q hq=>?_⟩
 ·unfold XH
  simp only [Wc,h.1 w,Wd,XB,if_false,hr.1 (i+1) w]
  cases r with
  |none=>rfl
  |some q=>simp only [Xt];congr 3;omega
 ·unfold XI at hq
  split at hq
  ·rename_i hs;have:=h.2 d _ hs;cases this
  ·rw [hr.2 d (i+1) q hq]
   cases r with
   |none=>rfl
   |some q=>simp only [Xt];congr 2;omega
  ·cases hq
theorem Found.run {t:TypeId} {K:Value} {ms:List MapEntry} {r:Option (Nat×Value)} {d:TypeDesc} (h:Found P t K ms r) (hd:P.underlying t=some d) (w:World):(XJ t K ms).run P w= .ok r w:=by
 have e:(r.map fun q:Nat×Value=>(0+q.1,q.2))=r:=by cases r<;>simp
 unfold XJ
 simp only [Wc,run_underlying hd,Wd]
 split
 ·rename_i q hq
  rw [h.2 d 0 q hq,e];rfl
 ·rw [h.1 0 w,e]
def nU (P:Program) (t:TypeId) (K:Value) (m:MapEntry):Prop:=LS P t K m.key false
theorem fm {t:TypeId} {K:Value}: ∀{ms:List MapEntry},(∀m∈ms,nU P t K m)→Found P t K ms none
 |[],_=>Found.nil t K
 |m::ms,h=>Found.there (h m (V2 ..)) (fm fun y hy=>h y (V3 _ hy))
theorem gn {t:TypeId} {K:Value} {m:MapEntry} (he:LS P t K m.key true) {l2:List MapEntry}: ∀{l1:List MapEntry},(∀m∈l1,nU P t K m)→Found P t K (l1++m::l2) (some (l1.length,m.val))
 |[],_=>Found.here he
 |y::l1,h=>by
  have:=Found.there (h y (V2 ..)) (gn he (l2:=l2) (l1:=l1) fun y hy=>h y (V3 _ hy))
  simpa using this
theorem ER.snoc {es es2:List (AV×AV)} {ms ms2:List MapEntry} (h:ER P μ es ms) (h2:ER P μ es2 ms2):ER P μ (es++es2) (ms++ms2):=by
 induction h with
 |nil=>exact h2
 |cons x y m es ms hx hy _ ih=>exact .cons x y m _ _ hx hy ih
theorem ug {t:TypeId} {k v:AV} {K:Value} (hk:VR P μ k K) {es:List (AV×AV)} {l:List MapEntry} (hm:ER P μ es l): ∀{c:Bool},F2 P t k es=some c→
 (c=false∧(∀m∈l,nU P t K m)∧rO P t k es=some none∧Ad P t k v es=some (es++[(k,v)])∧Ae P t k es=some es)∨
 (c=true∧∃es1 x y es2 l1 m l2,l=l1++m::l2∧ER P μ es1 l1∧VR P μ x m.key∧VR P μ y m.val∧ER P μ es2 l2∧LQ P t k x=some true∧(∀m∈l1,nU P t K m)∧(∀m∈l2,nU P t K m)∧
  rO P t k es=some (some y)∧Ad P t k v es=some (es1++(x,v)::es2)∧Ae P t k es=some (es1++es2)):=by
 induction hm with
 |nil=>intro c h;cases h;exact .inl ⟨rfl,fun m h=>absurd h VS,rfl,rfl,rfl⟩
 |cons x y m es ms hx hy hm ih=>
  intro c h
  obtain ⟨b,hb,h⟩:=aa.1 (show ab (LQ P t k x) (fun b=>ab (F2 P t k es) fun c=>au b (au c none (some true)) (some c))=some c from h)
  obtain ⟨c',hc',h⟩:=aa.1 h
  have e1:rO P t k ((x,y)::es)=ab (LQ P t k x) fun b=>au b (some (some y)) (rO P t k es):=rfl
  have e2:Ad P t k v ((x,y)::es)=ab (LQ P t k x) fun b=>au b (some ((x,v)::es)) (omap (Ad P t k v es) ((x,y):: ·)):=rfl
  have e3:Ae P t k ((x,y)::es)=ab (LQ P t k x) fun b=>au b (some es) (omap (Ae P t k es) ((x,y):: ·)):=rfl
  rw [hb] at e1 e2 e3
  cases b with
  |true=>
   cases c' with
   |true=>cases h
   |false=>
    cases h
    rcases ih hc' with ⟨_,q1,_⟩ |⟨q,_⟩
    ·exact .inr ⟨rfl,[],x,y,es,[],m,ms,rfl,.nil,hx,hy,hm,hb,fun m h=>absurd h VS,q1,e1,e2,e3⟩
    ·cases q
  |false=>
   cases h
   have hmiss:nU P t K m:=(pD hk hx hb).1
   replace e1:rO P t k ((x,y)::es)=rO P t k es:=e1
   replace e2:Ad P t k v ((x,y)::es)=omap (Ad P t k v es) ((x,y):: ·):=e2
   replace e3:Ae P t k ((x,y)::es)=omap (Ae P t k es) ((x,y):: ·):=e3
   rcases ih hc' with ⟨rfl,q1,q2,q3,q4⟩ |⟨rfl,es1,x',y',es2,l1,m',l2,rfl,r1,r2,r3,r4,r5,r6,r7,r8,r9,r10⟩
   ·refine .inl ⟨rfl,fun z hz=>?_,by rw [e1,q2],by rw [e2,q3]<;>rfl,by rw [e3,q4]<;>rfl⟩
    cases hz with
    |head=>exact hmiss
    |tail _ hz=>exact q1 z hz
   ·refine .inr ⟨rfl,(x,y)::es1,x',y',es2,m::l1,m',l2,rfl,.cons x y m _ _ hx hy r1,r2,r3,r4,r5,fun z hz=>?_,r7,by rw [e1,r8],by rw [e2,r9]<;>rfl,by rw [e3,r10]<;>rfl⟩
    cases hz with
    |head=>exact hmiss
    |tail _ hz=>exact r6 z hz
theorem Df {α:Type} (f:α→α) (m:α) (b:List α): ∀a:List α,(a++m::b).modify a.length f=a++f m::b
 |[]=>rfl
 |x::a=>by
  show (x::(a++m::b)).modify (a.length+1) f=x::(a++f m::b)
  rw [List.modify_succ_cons,Df f m b a]
theorem gp {l1 l2 ms:List MapEntry} {m:MapEntry} (h:(l1++m::l2).Perm ms): ∃a b,ms=a++m::b∧(l1++l2).Perm (a++b):=by
 have hm:m∈ms:=h.mem_iff.1 (XK _ (V2 ..))
 obtain ⟨a,b,rfl⟩:=List.append_of_mem hm
 refine ⟨a,b,rfl,?_⟩
 have h2:(m::(l1++l2)).Perm (m::(a++b)):=(List.perm_middle.symm.trans h).trans List.perm_middle
 exact h2.cons_inv
theorem Gn {t:TypeId} {k:AV} {K:Value} (hk:VR P μ k K) {es:List (AV×AV)} {ms:List MapEntry} (hm:EP P μ es ms) {o:Option AV} (h:NQ P t k es=some o):
 (o=none∧Found P t K ms none)∨∃v j m,o=some v∧Found P t K ms (some (j,m.val))∧ms[j]? =some m∧VR P μ v m.val:=by
 obtain ⟨l,hp,hm⟩:=hm
 obtain ⟨c,hc,h⟩:=aa.1 h
 rcases ug (v:=.bad) hk hm hc with ⟨rfl,q1,q2,_⟩ |⟨rfl,es1,x,y,es2,l1,m,l2,rfl,r1,r2,r3,r4,r5,r6,r7,r8,_⟩
 ·rw [q2] at h
  cases h
  exact .inl ⟨rfl,fm fun m hm=>q1 m (hp.mem_iff.2 hm)⟩
 ·rw [r8] at h
  cases h
  obtain ⟨a,b,rfl,hp2⟩:=gp hp
  have hall: ∀z∈a,nU P t K z:=fun z hz=>by
   have:=hp2.mem_iff.2 (XL b hz)
   rcases List.mem_append.1 this with h |h
   ·exact r6 z h
   ·exact r7 z h
  exact .inr ⟨y,a.length,m,rfl,gn (pD hk r2 r5).1 hall,by simp,r3⟩
theorem IT {t:TypeId} {k v:AV} {K V:Value} (hk:VR P μ k K) (hV:VR P μ v V) {es:List (AV×AV)} {ms:List MapEntry} (hm:EP P μ es ms) {es':List (AV×AV)} (h:RP P t k v es=some es'):
 (Found P t K ms none∧∀b,EP P μ es' (ms++[{key:=K,val:=V,born:=b}]))∨
 ∃j m,Found P t K ms (some (j,m.val))∧ms[j]? =some m∧XE 10000 m.key K=true∧EP P μ es' (ms.modify j fun e=>{e with key:=K,val:=V}):=by
 obtain ⟨l,hp,hm⟩:=hm
 obtain ⟨c,hc,h⟩:=aa.1 h
 rcases ug (v:=v) hk hm hc with ⟨rfl,q1,_,q2,_⟩ |⟨rfl,es1,x,y,es2,l1,m,l2,rfl,r1,r2,r3,r4,r5,r6,r7,_,r8,_⟩
 ·rw [q2] at h
  cases h
  exact .inl ⟨fm fun m hm=>q1 m (hp.mem_iff.2 hm),fun b=>⟨l++[{key:=K,val:=V,born:=b}],hp.append_right _,ER.snoc hm (.cons k v _ [] [] hk hV .nil)⟩⟩
 ·rw [r8] at h
  cases h
  obtain ⟨a,b,rfl,hp2⟩:=gp hp
  have hall: ∀z∈a,nU P t K z:=fun z hz=>by
   have:=hp2.mem_iff.2 (XL b hz)
   rcases List.mem_append.1 this with h |h
   ·exact r6 z h
   ·exact r7 z h
  obtain ⟨h1,h2⟩:=pD hk r2 r5
  obtain ⟨rfl,hs⟩:=h2 rfl
  refine .inr ⟨a.length,m,gn h1 hall,by simp,Dc hs r2 hk 9999,⟨l1++{m with key:=K,val:=V}::l2,?_,ER.snoc r1 (.cons k v _ _ _ hk hV r4)⟩⟩
  have:(a++m::b).modify a.length (fun e=>{e with key:=K,val:=V})=a++{m with key:=K,val:=V}::b:=Df _ _ _ _
  rw [this]
  exact (List.perm_middle.trans (hp2.cons _)).trans List.perm_middle.symm
theorem IU {t:TypeId} {k:AV} {K:Value} (hk:VR P μ k K) {es:List (AV×AV)} {ms:List MapEntry} (hm:EP P μ es ms) {es':List (AV×AV)} (h:Pe P t k es=some es'):
 (Found P t K ms none∧EP P μ es' ms)∨∃j v,Found P t K ms (some (j,v))∧j<ms.length∧EP P μ es' (ms.eraseIdx j):=by
 obtain ⟨l,hp,hm⟩:=hm
 obtain ⟨c,hc,h⟩:=aa.1 h
 rcases ug (v:=.bad) hk hm hc with ⟨rfl,q1,_,_,q2⟩ |⟨rfl,es1,x,y,es2,l1,m,l2,rfl,r1,r2,r3,r4,r5,r6,r7,_,_,r8⟩
 ·rw [q2] at h
  cases h
  exact .inl ⟨fm fun m hm=>q1 m (hp.mem_iff.2 hm),l,hp,hm⟩
 ·rw [r8] at h
  cases h
  obtain ⟨a,b,rfl,hp2⟩:=gp hp
  have hall: ∀z∈a,nU P t K z:=fun z hz=>by
   have:=hp2.mem_iff.2 (XL b hz)
   rcases List.mem_append.1 this with h |h
   ·exact r6 z h
   ·exact r7 z h
  refine .inr ⟨a.length,m.val,gn (pD hk r2 r5).1 hall,by simp,⟨l1++l2,?_,ER.snoc r1 r4⟩⟩
  have:(a++m::b).eraseIdx a.length=a++b:=by simp [XM]
  rw [this]
  exact hp2
end
end
section
open Go Go.RowKit Go.MapKept
variable [Env]
section
variable {P:Program} {N:Nat} {μ:bw} {σ:St} {w:World} {a:aN} {ca:Act}
theorem dU {t:TypeId} {k:Nat} (h:nG P t k=true):tj P t=k:=VN h
theorem qU (em:Bool): ∀(n d:Nat) (t:TypeId) (x:AV) (X:Value),n≤d→VR P μ x X→gE P n t x=true→∀w:World,(XN em d t X).run P w= .ok () w:=by
 intro n
 induction n with
 |zero=>intro d t x X _ _ h;cases h
 |succ n ih=>
  intro d t x X hd hx h w
  obtain ⟨d,rfl⟩: ∃m,d=m+1:=⟨d - 1,by omega⟩
  replace h:HN P (gE P n) t x=true:=h
  unfold HN at h
  cases x with
  |int j a=>
   obtain ⟨_,hu,_,_,_,_,_,_,_,h7,_⟩:=bm (dU h) (by omega)
   obtain ⟨q,rfl⟩:=h7 rfl
   cases hx
   simp [XN,run_underlying hu]
  |str a=>
   obtain ⟨_,hu,_,_,_,_,_,_,_,_,h8⟩:=bm (dU h) (by omega)
   have h8:=h8 rfl
   subst h8
   cases hx
   simp [XN,run_underlying hu]
  |bool a=>
   obtain ⟨_,hu,h0,_⟩:=bm (dU h) (by omega)
   have h0:=h0 rfl
   subst h0
   cases hx
   simp [XN,run_underlying hu]
  |agg xs=>
   replace h: @Vm (List (TypeId×Nat)) (fun _=>Bool) false (fun fs=>tu P (gE P n) xs fs) (cT P t)=true:=h
   cases hp:cT P t with
   |none=>rw [hp] at h;cases h
   |some fs=>
    rw [hp] at h
    replace h:tu P (gE P n) xs fs=true:=h
    obtain ⟨fa,hu,_,rfl,hn⟩:=eM hp
    cases hx with
    |agg _ C hC ho=>
     have key: ∀(fl:List Field),tu P (gE P n) xs (fl.map fun f=>(f.type,f.offset))=true→(∀f∈fl,f.name≠ "_")→
      (forIn fl XO (fun f (_:PUnit)=>if f.name≠ "_" then (do XN em d f.type (←part f.type C.toArray f.offset);pure (XP XO):Sem (ForInStep PUnit)) else pure (XP XO))).run P w= .ok XO w:=by
      intro fl
      induction fl with
      |nil=>intro _ _;rfl
      |cons f fl ihf=>
       intro h hn
       replace h: @Vm AV (fun _=>Bool) false (fun x=>au (gE P n f.type x) (tu P (gE P n) xs (fl.map fun f=>(f.type,f.offset))) false) (jd P f.type xs f.offset)=true:=h
       cases hpa:jd P f.type xs f.offset with
       |none=>rw [hpa] at h;cases h
       |some p=>
        rw [hpa] at h
        replace h:au (gE P n f.type p) (tu P (gE P n) xs (fl.map fun f=>(f.type,f.offset))) false=true:=h
        cases hc:gE P n f.type p with
        |false=>rw [hc] at h;cases h
        |true=>
         rw [hc] at h
         obtain ⟨u,hrun,hv⟩:=gj (w:=w) hC ho hpa
         have h1:=ih d f.type p u (by omega) hv hc w
         have h2:=ihf h fun f hf=>hn f (V3 _ hf)
         rw [List.forIn_cons]
         simp only [if_pos (hn f (V2 ..)),Wc,hrun,h1,Wd,WG]
         exact h2
     have:=key fa.toList h hn
     unfold XN
     simp only [Wc,run_underlying hu,Wd]
     rw [←Array.forIn_toList]
     have h3:=this
     refine (congrArg (fun r=>Result.andThen r fun _ w'=>XQ P (pure ()) w') (?_:_=Result.ok XO w)).trans rfl
     exact h3
  |tm ty y=>
   cases ty<;>first |(cases h;done) |skip
   ·obtain ⟨_,hu,_,_,_,_,_,_,_,h7,_⟩:=bm (dU h) (by omega)
    obtain ⟨q,rfl⟩:=h7 rfl
    cases hx with
    |tm _ _ _ h1 h2=>
     obtain ⟨n,h1⟩:=h1
     rw [h1] at h2
     cases h2
     simp [XN,run_underlying hu]
   ·obtain ⟨_,hu,_,_,_,_,_,_,_,_,h8⟩:=bm (dU h) (by omega)
    have h8:=h8 rfl
    subst h8
    cases hx with
    |tm _ _ _ h1 h2=>
     obtain ⟨n,h1⟩:=h1
     rw [h1] at h2
     cases h2
     simp [XN,run_underlying hu]
  |_=>cases h
theorem uh {n:Nat} {t:TypeId} {x:AV} (h:gE P (n+1) t x=true): ∃d,P.underlying t=some d:=by
 replace h:HN P (gE P n) t x=true:=h
 unfold HN at h
 cases x with
 |int j a=>obtain ⟨d,hu,_⟩:=bm (dU h) (by omega);exact ⟨d,hu⟩
 |str a=>obtain ⟨d,hu,_⟩:=bm (dU h) (by omega);exact ⟨d,hu⟩
 |bool a=>obtain ⟨d,hu,_⟩:=bm (dU h) (by omega);exact ⟨d,hu⟩
 |agg xs=>
  replace h: @Vm (List (TypeId×Nat)) (fun _=>Bool) false (fun fs=>tu P (gE P n) xs fs) (cT P t)=true:=h
  cases hp:cT P t with
  |none=>rw [hp] at h;cases h
  |some fs=>obtain ⟨fa,hu,_⟩:=eM hp;exact ⟨_,hu⟩
 |tm ty y=>
  cases ty<;>first |(cases h;done) |skip
  ·obtain ⟨d,hu,_⟩:=bm (dU h) (by omega);exact ⟨d,hu⟩
  ·obtain ⟨d,hu,_⟩:=bm (dU h) (by omega);exact ⟨d,hu⟩
 |_=>cases h
theorem IV {k:aY} {es:List (AV×AV)} (h:HZ k=some es):k= .map es:=by cases k<;>first |(cases h;rfl) |cases h
theorem SR.A7 (h:SR P N μ σ w) {b:Pos} {e:fx} {es:List (AV×AV)} (hb:μ b=some e) (hm:jK σ (.map b)=some es):
 σ.h.get b=some (.map es)∧∃g ents clock,e=⟨⟨g,0,none⟩,none⟩∧N≤g∧w.heap[g]? =some (.map ents clock)∧EP P μ es ents.toList∧jR ents.toList clock:=by
 obtain ⟨k,hk,hi⟩:=aa.1 (show ab (σ.h.get b) HZ=some es from hm)
 obtain rfl:=IV hi
 obtain ⟨k',hk',hbr⟩:=h.bU b e hb
 rw [hk] at hk'
 cases hk'
 exact ⟨hk,hbr⟩
theorem SR.entries (h:SR P N μ σ w) {m:AV} {M:Value} {es:List (AV×AV)} (hx:VR P μ m M) (hm:jK σ m=some es):
 ∃ents:Array MapEntry,EP P μ es ents.toList∧((M= .map none∧ents= #[])∨∃g clock,M= .map (some g)∧w.heap[g]? =some (.map ents clock)):=by
 cases m with
 |cd=>cases hm;cases hx;exact ⟨#[],EP.nil,.inl ⟨rfl,rfl⟩⟩
 |map b=>
  cases hx with
  |map _ e he=>
   obtain ⟨_,g,ents,clock,rfl,_,h1,h2,_⟩:=h.A7 he hm
   exact ⟨ents,h2,.inr ⟨g,clock,rfl,h1⟩⟩
 |_=>cases hm
theorem pE {ok b:Bool} {v:AV} {V:Value} (h:VR P μ v V):VR P μ (okV ok v b) (if ok=true then .tuple #[V,.bool b] else V):=by
 cases ok with
 |true=>exact .tuple [v,.bool b] [V,.bool b] (.cons _ _ _ _ h (.cons _ _ _ _ (.bool b) .nil))
 |false=>exact h
theorem Dg {t:TypeId} {m kv:AV} {X K:Value} {ok:Bool} {r:aG} (h:SR P N μ σ w) (hx:VR P μ m X) (hk:VR P μ kv K) (hr2:tG P t ok σ m kv=some r):
 NR P N μ σ w r ((do pure (.value (←XR t X K ok)):Sem Next).run P w):=by
 obtain ⟨es,hes,hr3⟩:=aa.1 hr2
 obtain ⟨q,hq,hr4⟩:=aa.1 hr3
 obtain ⟨hc,hr5⟩:=aj.1 hr4
 obtain ⟨o,ho,hr6⟩:=aa.1 hr5
 clear hr2 hr3 hr4 hr5
 have hu:=fB hq
 obtain ⟨ents,he,hM⟩:=h.entries hx hes
 obtain ⟨d,hd⟩:=uh (n:=7) hc
 have hchk:=qU (em:=ents.isEmpty) 8 10000 q.1 kv K (by decide) hk hc w
 rcases Gn (t:=q.1) hk he ho with ⟨rfl,hf⟩ |⟨v,j,m',rfl,hf,hj,hv⟩
 ·obtain ⟨z,hz,rfl⟩:=aO.1 (show omap (cV P q.2) (fun v=>aG.val (okV ok v false) σ)=some r from hr6)
  obtain ⟨zv,hrun,hzv,_⟩:=cN (μ:=μ) hz w
  refine NR.value h ?_ (pE hzv)
  have hfk:=hf.run hd w
  unfold XR
  rcases hM with ⟨rfl,rfl⟩ |⟨g,clock,rfl,hg⟩
  ·simp only [Wc,WG,Wd,run_underlying hu,hchk,hfk,hrun]
  ·simp only [Wc,WG,Wd,run_underlying hu,XS hg,hchk,hfk,hrun]
 ·cases hr6
  refine NR.value h ?_ (pE hv)
  have hfk:=hf.run hd w
  unfold XR
  rcases hM with ⟨rfl,rfl⟩ |⟨g,clock,rfl,hg⟩
  ·simp only [Wc,WG,Wd,run_underlying hu,hchk,hfk]
  ·simp only [Wc,WG,Wd,run_underlying hu,XS hg,hchk,hfk]
theorem ui {kt:Ty} {k:AV} {K:Value} {x:Tm} (hk:VR P μ k K) (hx:L6 kt k=some x):bx kt (ev x)∧dY μ.fz (ev x) K:=by
 obtain ⟨⟨t',y⟩,h1,hx⟩:=aa.1 hx
 obtain ⟨h2,hx⟩:=aj.1 hx
 cases hx
 have:=kI h2
 subst this
 exact ff hk h1
theorem kN {kt:Ty} {t:TypeId} (h:nG P t (CF kt)=true):(∃k,kt= .int k∧nG P t 7=true)∨kt= .str∧nG P t 8=true:=by
 cases kt with
 |int k=>exact .inl ⟨k,rfl,h⟩
 |str=>exact .inr ⟨rfl,h⟩
 |_=>
  have h:tj P t=100:=VN h
  unfold tj at h
  split at h<;>cases h
theorem IW {fz:Addr→Option Value} {kt:Ty} {t:TypeId} {a c:D} {K X:Value} (hK:nG P t (CF kt)=true) (ha:bx kt a) (hc:bx kt c) (hk:dY fz a K) (hx:dY fz c X):LS P t K X (jb a c):=by
 rcases kN hK with ⟨k,rfl,h⟩ |⟨rfl,h⟩
 ·exact sO hk hx (.inl ⟨k,ha,hc,h⟩)
 ·exact sO hk hx (.inr ⟨⟨ha,hc⟩,h⟩)
theorem yO {kt:Ty} {t:TypeId} {a:D} {K:Value} {fz:Addr→Option Value} {em:Bool} (hK:nG P t (CF kt)=true) (ha:bx kt a) (hk:dY fz a K) (w:World):(XN em 10000 t K).run P w= .ok () w∧∃d,P.underlying t=some d:=by
 have key: ∀n:Nat,(XN em (n+1) t K).run P w= .ok () w∧∃d,P.underlying t=some d:=by
  intro n
  rcases kN hK with ⟨k,rfl,h⟩ |⟨rfl,h⟩
  ·obtain ⟨_,hu,_,_,_,_,_,_,_,h7,_⟩:=bm (dU h) (by omega)
   obtain ⟨q,rfl⟩:=h7 rfl
   obtain ⟨m,rfl⟩:=ha
   cases hk
   exact ⟨by simp [XN,run_underlying hu],_,hu⟩
  ·obtain ⟨_,hu,_,_,_,_,_,_,_,_,h8⟩:=bm (dU h) (by omega)
   have h8:=h8 rfl
   subst h8
   obtain ⟨m,rfl⟩:=ha
   cases hk
   exact ⟨by simp [XN,run_underlying hu],_,hu⟩
 exact key 9999
theorem My {kt:Ty} {a c:D} (hkt:(∃k,kt= .int k)∨kt= .str) (ha:bx kt a) (hc:bx kt c) (h:jb a c=true):a=c:=by
 rcases hkt with ⟨k,rfl⟩ |rfl
 ·obtain ⟨n,rfl⟩:=ha
  obtain ⟨m,rfl⟩:=hc
  simp only [jb,decide_true,XF,beq_iff_eq] at h
  rw [h]
 ·obtain ⟨n,rfl⟩:=ha
  obtain ⟨m,rfl⟩:=hc
  simp only [jb,beq_iff_eq] at h
  rw [h]
theorem qV {fz:Addr→Option Value} {g:Bool} {kt:Ty} {ts:List Ty} {t:TypeId} {a:D} {K:Value} (hK:nG P t (CF kt)=true) (ha:bx kt a) (hk:dY fz a K): ∀{l:List (List D)} {ms:List MapEntry},iN fz g l ms→(∀r∈l,aW (kt::ts) r)→jz l→
 (l.any (bC a)=false∧(∀m∈ms,nU P t K m)∧(∀vs,iM a vs l=l++[a::vs])∧lJ a l=l)∨
 ∃l1 r l2 m1 m m2,l=l1++r::l2∧ms=m1++m::m2∧iN fz g l1 m1∧CX fz g r m∧iN fz g l2 m2∧l.any (bC a)=true∧l.find? (bC a)=some r∧r.head?=some a∧LS P t K m.key true∧(∀x∈m1,nU P t K x)∧(∀x∈m2,nU P t K x)∧(∀vs,iM a vs l=l1++(a::vs)::l2)∧lJ a l=l1++l2∧l1.any (bC a)=false∧l2.any (bC a)=false:=by
 have hkt:(∃k,kt= .int k)∨kt= .str:=by
  rcases kN hK with ⟨k,h,_⟩ |⟨h,_⟩
  ·exact .inl ⟨k,h⟩
  ·exact .inr h
 intro l ms h
 induction h with
 |nil=>intro _ _;exact .inl ⟨rfl,fun m h=>absurd h VS,fun _=>rfl,rfl⟩
 |cons r m l ms hr hs ih=>
  intro hty hko
  obtain ⟨ko1,ko2⟩:=hko
  have ih:=ih (fun r hr=>hty r (V3 _ hr)) ko2
  obtain ⟨d,vs,us,rfl,q1,q2,q3,q4⟩:=hr
  have hr0:CX fz g (d::vs) m:=⟨d,vs,us,rfl,q1,q2,q3,q4⟩
  have hd:bx kt d:=by
   have:=hty _ (V2 ..)
   unfold aW at this
   obtain ⟨d',r',e1,h1,_⟩:=this
   cases e1
   exact h1
  have hEq:=IW hK ha hd hk q1
  cases hb:jb a d with
  |true=>
   rw [hb] at hEq
   obtain rfl:=My hkt ha hd hb
   have hany:=ko1 a rfl
   rcases ih with ⟨i1,i2,_,_⟩ |⟨_,_,_,_,_,_,_,_,_,_,_,i1,_⟩
   ·exact .inr ⟨[],a::vs,l,[],m,ms,rfl,rfl,.nil,hr0,hs,by simp [bC,hb],by simp [bC,hb],rfl,hEq,fun m h=>absurd h VS,i2,fun vs=>by simp [iM,bC,hb],by simp [lJ,bC,hb],rfl,i1⟩
   ·rw [hany] at i1;cases i1
  |false=>
   rw [hb] at hEq
   rcases ih with ⟨i1,i2,i3,i4⟩ |⟨l1,r',l2,m1,m',m2,rfl,rfl,j1,j2,j3,j4,j5,j6,j7,j8,j9,j10,j11,j12,j13⟩
   ·refine .inl ⟨by simp [bC,hb,i1],fun x hx=>?_,fun vs'=>by simp [iM,bC,hb,i3],by simp [lJ,bC,hb,i4]⟩
    rcases List.mem_cons.1 hx with rfl |hx
    ·exact hEq
    ·exact i2 x hx
   ·refine .inr ⟨(d::vs)::l1,r',l2,m::m1,m',m2,rfl,rfl,.cons _ _ _ _ hr0 j1,j2,j3,by simp only [XT,j4,Bool.or_true],?_,j6,j7,fun x hx=>?_,j9,fun vs'=>?_,?_,by simp [bC,hb,j12],j13⟩
    ·rw [List.find?_cons_of_neg (by simp [bC,hb])];exact j5
    ·rcases List.mem_cons.1 hx with rfl |hx
     ·exact hEq
     ·exact j8 x hx
    ·show iM a vs' ((d::vs)::(l1++r'::l2))=_
     simp only [iM,bC,hb,cond_false]
     rw [j10 vs'];rfl
    ·show lJ a ((d::vs)::(l1++r'::l2))=_
     simp only [lJ,bC,hb,cond_false]
     rw [j11];rfl
theorem Mz {x k:Tm} {b:Bool} {l:List (List D)} (h:RV x k=some b) (hx:ev x= .aF l):l.any (bC (ev k))=b:=by
 have:=cj (show dB (.op .wt [x,k])=some b from h)
 rw [bH] at this
 simp only [VT,VU,hx] at this
 have h2:cw .wt [.aF l,ev k]= .bool (l.any (bC (ev k))):=rfl
 rw [h2] at this
 injection this
theorem SR.gU (h:SR P N μ σ w) {b:Pos} {e:fx} {g:Bool} {kt:Ty} {ts:List Ty} {x:Tm} (hb:μ b=some e) (hk:σ.h.get b=some (.bY g kt ts x)):BR P N μ w (.bY g kt ts x) e:=by
 obtain ⟨k,h1,h2⟩:=h.bU b e hb
 rw [hk] at h1
 cases h1
 exact h2
theorem Gp {t:TypeId} {ok:Bool} {b:Pos} {bl:aY} {kv:AV} {M K:Value} {r:aG} (h:SR P N μ σ w) (hm:VR P μ (.map b) M) (hk:VR P μ kv K) (hb:σ.h.get b=some bl) (hr:ES P t ok σ kv bl=some r):
 NR P N μ σ w r ((do pure (.value (←XR t M K ok)):Sem Next).run P w):=by
 cases bl<;>first |(cases hr;done) |skip
 rename_i g kt ts x
 obtain ⟨q,hq,hr1⟩:=aa.1 hr
 obtain ⟨kk,hkk,hr2⟩:=aa.1 hr1
 obtain ⟨hK,hr3⟩:=aj.1 hr2
 obtain ⟨hit,hhit,hr4⟩:=aa.1 hr3
 clear hr hr1 hr2 hr3
 obtain ⟨k1,k2⟩:=ui hk hkk
 have hu:=fB hq
 cases hm with
 |map _ e he=>
  obtain ⟨l,l1,l2,l3,G,ents,clock,ms,rfl,l5,l6,l7,l8,l9⟩:=h.gU he hb
  have hrows: ∀r∈l,aW (kt::ts) r:=by
   obtain ⟨l',e1,h⟩:=l2
   cases e1
   exact h
  obtain ⟨hchk,d,hd⟩:=yO (em:=ents.isEmpty) hK k1 k2 w
  have hany:=Mz hhit l1
  rcases qV (P:=P) (t:=q.1) hK k1 k2 l8 hrows l3 with ⟨i1,i2,_⟩ |⟨a1,rr,a2,m1,m,m2,rfl,rfl,j1,j2,j3,j4,j5,j6,j7,j8,j9,_⟩
  ·rw [i1] at hany
   subst hany
   obtain ⟨z,hz,rfl⟩:=aO.1 (show omap (cV P q.2) (fun v=>aG.val (okV ok v false) σ)=some r from hr4)
   obtain ⟨zv,hrun,hzv,_⟩:=cN (μ:=μ) hz w
   have hfk:=(fm (P:=P) (t:=q.1) (K:=K) (ms:=ents.toList) fun m hm=>i2 m (l7.mem_iff.2 hm)).run hd w
   refine NR.value h ?_ (pE hzv)
   unfold XR
   simp only [Wc,WG,Wd,run_underlying hu,XS l6,hchk,hfk,hrun]
  ·rw [j4] at hany
   subst hany
   cases hr4
   obtain ⟨A,B,hab,hp2⟩:=gp l7
   have hall: ∀z∈A,nU P q.1 K z:=fun z hz=>by
    have:=hp2.mem_iff.2 (XL B hz)
    rcases List.mem_append.1 this with h |h
    ·exact j8 z h
    ·exact j9 z h
   have hfk:=(gn (P:=P) (t:=q.1) (K:=K) (m:=m) j7 (l2:=B) hall).run hd w
   rw [←hab] at hfk
   obtain ⟨d0,vs,us,rfl,p1,p2,p3,p4⟩:=j2
   have hgot:ev (.op .o4 [x,kk])= .ref vs:=by
    rw [bH]
    simp only [VT,VU,l1]
    show (match (a1++(d0::vs)::a2).find? (bC (ev kk)) with |some r=>D.ref r.tail |none=>.bad)=_
    rw [j5]
    rfl
   have hvs:aW ts vs:=by
    have:=hrows (d0::vs) (XK _ (V2 ..))
    unfold aW at this
    obtain ⟨d',r',e1,_,h1⟩:=this
    cases e1
    exact h1
   have hlen:=bD hvs
   have hrep: ∀j d,vs[j]? =some d→dY μ.fz d (us.getD j undef):=fun j d hj=>by
    obtain ⟨u,y1,y2⟩:=p4 j d hj
    rw [List.getD_eq_getElem?_getD,y1]
    exact y2
   have hv:VR P μ (Pm g ts (.op .o4 [x,kk])) m.val:=by
    obtain ⟨g1,g2⟩:=im (P:=P) (μ:=μ) hgot hrep ts 0 hvs
    have hus:(List.range' 0 ts.length).map (fun j=>us.getD j undef)=us:=by
     apply List.ext_getElem
     ·simp;omega
     ·intro i h1 h2
      simp at h1
      simp [Wj h2]
    rw [hus] at g1
    unfold Pm
    cases g with
    |true=>
     rw [if_pos rfl] at p2
     rw [p2]
     exact .agg _ _ g1 g2
    |false=>
     rw [if_neg (by simp)] at p2
     subst p2
     cases ts with
     |nil=>simp at hlen;simp at p3;simp [hlen] at p3
     |cons ty ts'=>
      cases g1 with
      |cons _ _ _ _ y1 y2=>exact y1
   refine NR.value h ?_ (pE hv)
   unfold XR
   simp only [Wc,WG,Wd,run_underlying hu,XS l6,hchk,hfk]
theorem xh {m:AV} (h:gU σ m=true): ∃b,m= .map b:=by
 cases m<;>first |exact ⟨_,rfl⟩ |cases h
theorem Gq {t:TypeId} {x k:Operand} {ok:Bool} {r:aG} (h:SR P N μ σ w) (ha:AR P μ a ca) (hr:pg t x k ok P a σ=some r):
 NR P N μ σ w r ((do pure (.value (←XR t (ca.eval x) (ca.eval k) ok)):Sem Next).run P w):=by
 obtain ⟨m,hm,hr1⟩:=aa.1 hr
 obtain ⟨kv,hkv,hr2⟩:=aa.1 hr1
 have hx:=ha.eval h hm
 have hk:=ha.eval h hkv
 replace hr2:au (gU σ m) (Ag σ m fun _=>ES P t ok σ kv) (tG P t ok σ m (lS kv))=some r:=hr2
 cases ht:gU σ m with
 |false=>rw [ht] at hr2;exact Dg h hx (t8 hk) hr2
 |true=>
  rw [ht] at hr2
  obtain ⟨b,rfl⟩:=xh ht
  obtain ⟨bl,hb,hr3⟩:=aa.1 (show ab (σ.h.get b) (fun k=>ES P t ok σ kv k)=some r from hr2)
  exact Gp h hx hk hb hr3
theorem SR.yP (h:SR P N μ σ w) {b:Pos} {es es':List (AV×AV)} {g clock:Nat} {ents:Array MapEntry} (hb:μ b=some ⟨⟨g,0,none⟩,none⟩) (hk:σ.h.get b=some (.map es)) (hN:N≤g) (hg:w.heap[g]? =some (.map ents clock))
 (ents':Array MapEntry) (clock':Nat) (he:EP P μ es' ents'.toList) (hbn:jR ents'.toList clock'):bF P N μ σ w μ (σ.put b (.map es')) {w with heap:=w.heap.setIfInBounds g (.map ents' clock')}:=by
 have hlt:g<w.heap.size:=(Array.getElem?_eq_some_iff.1 hg).1
 refine h.jA hb hk rfl hN ⟨rfl,rfl,rfl,by simp,fun k _ hne=>?_⟩ ⟨g,ents',clock',rfl,hN,by simp [hlt],he,hbn⟩
 have hne':k≠g:=fun e=>hne (by rw [e])
 exact Wf (Ne.symm hne')
theorem iN.append {fz:Addr→Option Value} {g:Bool} {a b:List (List D)} {m n:List MapEntry} (h:iN fz g a m) (k:iN fz g b n):iN fz g (a++b) (m++n):=by
 induction h with
 |nil=>exact k
 |cons r m l ms h _ ih=>exact .cons r m _ _ h ih
theorem Gr (a c:D):jb a c=jb c a:=by
 cases a<;>cases c<;>simp only [jb]
 ·rename_i j x k y
  rw [show (decide (j=k))=decide (k=j) from by rw [decide_eq_decide];exact eq_comm,BEq.comm]
 ·rename_i x y
  exact BEq.comm
theorem xi {k:D}: ∀{l l':List (List D)},l.map XU=l'.map XU→l.any (bC k)=l'.any (bC k)
 |[],[],_=>rfl
 |[],_::_,h=>by simp at h
 |_::_,[],h=>by simp at h
 |r::l,r'::l',h=>by
  simp only [VT,XV] at h
  have:bC k r=bC k r':=by
   cases r<;>cases r'<;>simp_all [bC]
  simp only [XT,this,xi h.2]
theorem uj: ∀{l l':List (List D)},l.map XU=l'.map XU→jz l→jz l'
 |[],[],_,h=>h
 |[],_::_,h,_=>by simp at h
 |_::_,[],h,_=>by simp at h
 |r::l,r'::l',h,hk=>by
  simp only [VT,XV] at h
  exact ⟨fun k hk'=>by rw [←xi h.2];exact hk.1 k (h.1.trans hk'),uj h.2 hk.2⟩
theorem xj {a:D} {vs:List D}: ∀{l:List (List D)},jz l→l.any (bC a)=false→jz (l++[a::vs])
 |[],_,_=>⟨fun k hk=>by simp,trivial⟩
 |r::l,h,ha=>by
  simp only [XT,XW] at ha
  refine ⟨fun k hk=>?_,xj h.2 ha.2⟩
  show (l++[a::vs]).any (bC k)=false
  rw [XX,h.1 k hk]
  cases r with
  |nil=>simp at hk
  |cons d r=>
   simp at hk
   subst hk
   have:jb a d=false:=ha.1
   simp [bC,Gr d a,this]
theorem xk {r:List D} {l2:List (List D)}: ∀{l1:List (List D)},jz (l1++r::l2)→jz (l1++l2)
 |[],h=>h.2
 |x::l1,h=>by
  refine ⟨fun k hk=>?_,xk h.2⟩
  have:=h.1 k hk
  replace this:(l1++r::l2).any (bC k)=false:=this
  show (l1++l2).any (bC k)=false
  simp only [XX,XT,XW] at this⊢
  exact ⟨this.1,this.2.2⟩
theorem SR.sP (h:SR P N μ σ w) {b:Pos} {gg gg':Bool} {kt kt':Ty} {ts ts':List Ty} {x x':Tm} {g clock:Nat} {ents:Array MapEntry} (hb:μ b=some ⟨⟨g,0,none⟩,none⟩) (hk:σ.h.get b=some (.bY gg kt ts x)) (hN:N≤g) (hg:w.heap[g]? =some (.map ents clock))
 (ents':Array MapEntry) (clock':Nat) {l:List (List D)} {ms:List MapEntry} (h1:ev x'= .aF l) (h2: ∀r∈l,aW (kt'::ts') r) (h3:jz l) (h4:ms.Perm ents'.toList) (h5:iN μ.fz gg' l ms) (hbn:jR ents'.toList clock'):
 bF P N μ σ w μ (σ.put b (.bY gg' kt' ts' x')) {w with heap:=w.heap.setIfInBounds g (.map ents' clock')}:=by
 have hlt:g<w.heap.size:=(Array.getElem?_eq_some_iff.1 hg).1
 refine h.jA hb hk rfl hN ⟨rfl,rfl,rfl,by simp,fun k _ hne=>?_⟩ ⟨l,h1,⟨l,rfl,h2⟩,h3,g,ents',clock',ms,rfl,hN,by simp [hlt],h4,h5,hbn⟩
 have hne':k≠g:=fun e=>hne (by rw [e])
 exact Wf (Ne.symm hne')
theorem IX {fz:Addr→Option Value} {kt:Ty} {a:D} {K X:Value} (hkt:(∃k,kt= .int k)∨kt= .str) (ha:bx kt a) (hK:dY fz a K) (hX:dY fz a X) (n:Nat):XE n X K=true:=by
 rcases hkt with ⟨k,rfl⟩ |rfl
 ·obtain ⟨m,rfl⟩:=ha
  cases hK;cases hX
  cases n<;>simp [XE]
 ·obtain ⟨m,rfl⟩:=ha
  cases hK with
  |str _ s h1=>cases hX with
   |str _ s' h2=>
    obtain rfl:=str_inj (h1.trans h2.symm)
    cases n<;>simp [XE,bytes_beq]
theorem IY {t:TypeId} {b:Pos} {bl:aY} {kv xv:AV} {M K V:Value} {r:aG} (h:SR P N μ σ w) (hm:VR P μ (.map b) M) (hk:VR P μ kv K) (hv:VR P μ xv V) (hb:σ.h.get b=some bl) (hr:F5 P t σ kv xv b bl=some r):
 NR P N μ σ w r ((do XY t M K V;pure .skip:Sem Next).run P w):=by
 cases bl<;>first |(cases hr;done) |skip
 rename_i g kt ts x
 obtain ⟨q,hq,hr1⟩:=aa.1 hr
 obtain ⟨kk,hkk,hr2⟩:=aa.1 hr1
 obtain ⟨hc,hr3⟩:=aj.1 hr2
 obtain ⟨y,hy,hr4⟩:=aa.1 hr3
 clear hr hr1 hr2 hr3
 rw [V1] at hc
 obtain ⟨hK,hgg⟩:=hc
 have hgg:=eq_of_beq hgg
 have hrest:y.2=[]∧r= .skip (σ.put b (.bY g kt ts (.op .tg (x::kk::y.1)))):=by
  cases h2:y.2 with
  |nil=>rw [h2] at hr4;cases hr4;exact ⟨rfl,rfl⟩
  |cons _ _=>rw [h2] at hr4;cases hr4
 obtain ⟨hy2,rfl⟩:=hrest
 obtain ⟨k1,k2⟩:=ui hk hkk
 have hu:=fB hq
 have hkt:(∃k,kt= .int k)∨kt= .str:=by
  rcases kN hK with ⟨k,h,_⟩ |⟨h,_⟩
  ·exact .inl ⟨k,h⟩
  ·exact .inr h
 by_cases hbad:xv= .bad
 ·subst hbad
  cases ts with
  |nil=>cases hy;cases hy2
  |cons ty ts=>cases ty<;>cases hy
 have hcells:=hv.cells hbad
 obtain ⟨g1,us',g2,g3,g4,g5⟩:=gi hcells hy
 rw [hy2] at g2
 cases g2
 rw [XZ] at g3
 have hlen:V.cells.toList.length=(y.1.map ev).length:=by
  rw [bD g1,g3,V9,Wa g4]
 have hrow: ∀born:Nat,CX μ.fz g (ev kk::y.1.map ev) {key:=K,val:=V,born:=born}:=by
  intro born
  refine ⟨_,_,V.cells.toList,rfl,k2,?_,hlen,fun j d hj=>g5 j d hj⟩
  cases g with
  |true=>
   rw [if_pos rfl]
   cases xv<;>first |(cases hgg;done) |skip
   cases hv with
   |agg _ C _ _=>rfl
  |false=>
   rw [if_neg (by simp)]
   cases hv<;>first |(cases hgg;done) |rfl |skip
   all_goals first
    |(rw [dY.cells (by assumption)])
    |(rename_i hh;rcases hh with ⟨rfl |⟨_,rfl⟩,_⟩ |⟨m,c,rfl,_⟩<;>rfl)
    |(cases hy)
    |(exact absurd rfl hbad)
    |skip
   all_goals (rename_i hh _;cases hy)
 cases hm with
 |map _ e he=>
  obtain ⟨l,l1,l2,l3,G,ents,clock,ms,rfl,l5,l6,l7,l8,l9⟩:=h.gU he hb
  have hrows: ∀r∈l,aW (kt::ts) r:=by
   obtain ⟨l',e1,h⟩:=l2
   cases e1
   exact h
  have hnew:aW (kt::ts) (ev kk::y.1.map ev):=by unfold aW;exact ⟨_,_,rfl,k1,g1⟩
  obtain ⟨hchk,d,hd⟩:=yO (em:=false) hK k1 k2 w
  have hev:ev (.op .tg (x::kk::y.1))= .aF (iM (ev kk) (y.1.map ev) l):=by
   rw [bH]
   simp only [VT,l1]
   rfl
  rcases qV (P:=P) (t:=q.1) hK k1 k2 l8 hrows l3 with ⟨i1,i2,i3,_⟩ |⟨a1,rr,a2,m1,m,m2,rfl,rfl,j1,j2,j3,j4,j5,j6,j7,j8,j9,j10,_,j12,j13⟩
  ·have hfk:=(fm (P:=P) (t:=q.1) (K:=K) (ms:=ents.toList) fun m hm=>i2 m (l7.mem_iff.2 hm)).run hd w
   rw [i3] at hev
   refine ⟨μ,_,?_,h.sP he hb l5 l6 (ents.push {key:=K,val:=V,born:=clock}) (clock+1) (ms:=ms++[{key:=K,val:=V,born:=clock}]) hev (fun r hr=>?_) (xj l3 i1) (by simpa using l7.append_right _) (l8.append (.cons _ _ [] [] (hrow clock) .nil)) (by simpa using l9.push {key:=K,val:=V,born:=clock} rfl)⟩
   ·unfold XY
    simp only [Wc,WG,Wd,run_underlying hu,XS l6,hchk,hfk,X0 _ l6]
   ·rcases List.mem_append.1 hr with h |h
    ·exact hrows r h
    ·rw [List.mem_singleton.1 h];exact hnew
  ·obtain ⟨A,B,hab,hp2⟩:=gp l7
   have hall: ∀z∈A,nU P q.1 K z:=fun z hz=>by
    have:=hp2.mem_iff.2 (XL B hz)
    rcases List.mem_append.1 this with h |h
    ·exact j8 z h
    ·exact j9 z h
   have hfk:=(gn (P:=P) (t:=q.1) (K:=K) (m:=m) j7 (l2:=B) hall).run hd w
   rw [←hab] at hfk
   have hje:ents[A.length]? =some m:=by rw [←WM,hab];simp
   obtain ⟨d0,vs,us,rfl,p1,p2,p3,p4⟩:=j2
   obtain rfl:d0=ev kk:=by simpa using j6
   have hbits:=IX hkt k1 k2 p1 10000
   have hmod:(ents.modify A.length fun e=>{e with key:=K,val:=V}).toList=A++{m with key:=K,val:=V}::B:=by
    rw [X1,hab]
    exact Df _ _ _ _
   rw [j10] at hev
   refine ⟨μ,_,?_,h.sP he hb l5 l6 (ents.modify A.length fun e=>{e with key:=K,val:=V}) clock (ms:=m1++{m with key:=K,val:=V}::m2) hev (fun r hr=>?_) (uj (by simp) l3) ?_ (j1.append (.cons _ _ _ _ (hrow m.born) j3)) ?_⟩
   ·unfold XY X2
    simp only [Wc,WG,Wd,run_underlying hu,XS l6,hchk,hfk,X0 _ l6,hje,Xt,X3,hbits,if_true]
   ·rcases List.mem_append.1 hr with h |h
    ·exact hrows r (XL _ h)
    ·rcases List.mem_cons.1 h with rfl |h
     ·exact hnew
     ·exact hrows r (XK _ (V3 _ h))
   ·rw [hmod]
    exact (List.perm_middle.trans (hp2.cons _)).trans List.perm_middle.symm
   ·rw [X1]
    exact l9.modify A.length (fun e=>{e with key:=K,val:=V}) (fun _=>rfl)
theorem IZ {t:TypeId} {b:Pos} {bl:aY} {kv:AV} {M K:Value} {r:aG} (h:SR P N μ σ w) (hm:VR P μ (.map b) M) (hk:VR P μ kv K) (hb:σ.h.get b=some bl) (hr:Pf P t σ kv b bl=some r) {ats:Array TypeId} {ty:TypeId} (h0:ats[0]? =some t):
 NR P N μ σ w r ((do pure (.value (←X4 ats ty #[M,K])):Sem Next).run P w):=by
 cases bl<;>first |(cases hr;done) |skip
 rename_i g kt ts x
 obtain ⟨q,hq,hr1⟩:=aa.1 hr
 obtain ⟨kk,hkk,hr2⟩:=aa.1 hr1
 obtain ⟨hK,hr3⟩:=aj.1 hr2
 cases hr3
 clear hr hr1 hr2
 obtain ⟨k1,k2⟩:=ui hk hkk
 have hu:=fB hq
 cases hm with
 |map _ e he=>
  obtain ⟨l,l1,l2,l3,G,ents,clock,ms,rfl,l5,l6,l7,l8,l9⟩:=h.gU he hb
  have hrows: ∀r∈l,aW (kt::ts) r:=by
   obtain ⟨l',e1,h⟩:=l2
   cases e1
   exact h
  obtain ⟨hchk,d,hd⟩:=yO (em:=ents.isEmpty) hK k1 k2 w
  have hgo:=XS (P:=P) l6
  have hev:ev (.op .Cv [x,kk])= .aF (lJ (ev kk) l):=by
   rw [bH]
   simp only [VT,VU,l1]
   rfl
  rcases qV (P:=P) (t:=q.1) hK k1 k2 l8 hrows l3 with ⟨i1,i2,_,i4⟩ |⟨a1,rr,a2,m1,m,m2,rfl,rfl,j1,j2,j3,j4,j5,j6,j7,j8,j9,_,j11,j12,j13⟩
  ·have hfk:=(fm (P:=P) (t:=q.1) (K:=K) (ms:=ents.toList) fun m hm=>i2 m (l7.mem_iff.2 hm)).run hd w
   rw [i4] at hev
   refine (h.sP he hb l5 l6 ents clock hev hrows l3 l7 l8 l9).val (u:=.tuple #[]) ?_ (.tuple [] [] .nil)
   unfold X4
   simp only [h0,X5,X6,X7,Wc,WG,Wd,run_underlying hu,hgo,hchk,hfk,X0 _ l6]
  ·obtain ⟨A,B,hab,hp2⟩:=gp l7
   have hall: ∀z∈A,nU P q.1 K z:=fun z hz=>by
    have:=hp2.mem_iff.2 (XL B hz)
    rcases List.mem_append.1 this with h |h
    ·exact j8 z h
    ·exact j9 z h
   have hfk:=(gn (P:=P) (t:=q.1) (K:=K) (m:=m) j7 (l2:=B) hall).run hd w
   rw [←hab] at hfk
   have hlt:A.length<ents.size:=by
    have:=congrArg X8 hab
    simp at this
    omega
   have he2:(ents.eraseIdxIfInBounds A.length).toList=A++B:=by
    simp [Ya,hlt,hab,XM]
   rw [j11] at hev
   refine (h.sP he hb l5 l6 (ents.eraseIdxIfInBounds A.length) clock hev (fun r hr=>?_) (xk l3) (by rw [he2];exact hp2) (j1.append j3) (by simpa [Ya,hlt] using l9.erase A.length)).val (u:=.tuple #[]) ?_ (.tuple [] [] .nil)
   ·rcases List.mem_append.1 hr with h |h
    ·exact hrows r (XL _ h)
    ·exact hrows r (XK _ (V3 _ h))
   ·unfold X4
    simp only [h0,X5,X6,X7,Wc,WG,Wd,run_underlying hu,hgo,hchk,hfk,X0 _ l6]
theorem I0 {t:TypeId} {x:Operand} {r:aG} (h:SR P N μ σ w) (ha:AR P μ a ca) (hr:tQ t x P a σ=some r):
 NR P N μ σ w r ((do pure (.value (←Yb t (ca.eval x))):Sem Next).run P w):=by
 obtain ⟨v,hv,hr1⟩:=aa.1 hr
 have hx:=ha.eval h hv
 clear hr
 generalize ca.eval x=X at*
 cases v with
 |str l=>
  obtain ⟨ht,hr2⟩:=aj.1 hr1
  cases hr2
  have hu:=rT ht
  cases hx with
  |str _ s hs=>
   have hg:bF P N μ σ w (dm μ σ.n ⟨⟨w.heap.size,0,none⟩,none⟩) (σ.push (.fY l 0)) (w.alloc (.stringIter s 0)):=
    h.laid (Wn w _ none) (VY _) ⟨w.heap.size,s,rfl,h.hN,heap_alloc_new w _,hs⟩
   refine hg.val (u:=.pointer (some ⟨w.heap.size,0,none⟩)) (by simp [Yb,run_underlying hu]) ?_
   have:=VR.ptr (P:=P) (μ:=dm μ σ.n ⟨⟨w.heap.size,0,none⟩,none⟩) σ.n 0 _ (dK _ _ _)
   simpa [add_nil] using this
 |cd=>
  obtain ⟨q,hq,hr2⟩:=aa.1 hr1
  cases hr2
  have hu:=fB hq
  cases hx
  have hg:bF P N μ σ w (dm μ σ.n ⟨⟨w.heap.size,0,none⟩,none⟩) (σ.push (.Cr none)) (w.alloc (.mapIter none 0 #[] 0)):=
   h.laid (Wn w _ none) (VY _) ⟨w.heap.size,rfl,h.hN,by rw [heap_alloc_new w _];exact ⟨_,_,_,rfl⟩⟩
  refine hg.val (u:=.pointer (some ⟨w.heap.size,0,none⟩)) (by simp [Yb,run_underlying hu]) ?_
  have:=VR.ptr (P:=P) (μ:=dm μ σ.n ⟨⟨w.heap.size,0,none⟩,none⟩) σ.n 0 _ (dK _ _ _)
  simpa [add_nil] using this
 |map b=>
  obtain ⟨q,hq,hr2⟩:=aa.1 hr1
  obtain ⟨es,hes,hr3⟩:=aa.1 hr2
  cases hr3
  have hu:=fB hq
  cases hx with
  |map _ e he=>
   obtain ⟨hk,g,ents,clock,rfl,hN,hgh,_⟩:=h.A7 he hes
   have hsub:Sub μ (dm μ σ.n ⟨⟨w.heap.size,0,none⟩,none⟩):=eJ (.inl h.fresh)
   have hg:bF P N μ σ w (dm μ σ.n ⟨⟨w.heap.size,0,none⟩,none⟩) (σ.push (.Cr (some b))) (w.alloc (.mapIter (some g) clock #[] clock)):=
    h.laid (Wn w _ none) (VY _) ⟨w.heap.size,rfl,h.hN,by rw [heap_alloc_new w _];exact ⟨_,_,_,hsub _ _ he,rfl⟩⟩
   refine hg.val (u:=.pointer (some ⟨w.heap.size,0,none⟩)) (by simp [Yb,run_underlying hu,XS hgh]) ?_
   have:=VR.ptr (P:=P) (μ:=dm μ σ.n ⟨⟨w.heap.size,0,none⟩,none⟩) σ.n 0 _ (dK _ _ _)
   simpa [add_nil] using this
 |_=>cases hr1
theorem MA {x:Operand} {str:Bool} {ty:TypeId} {r:aG} (h:SR P N μ σ w) (ha:AR P μ a ca) (hr:An x str P a σ=some r):
 NR P N μ σ w r ((do pure (.value (←Yc (ca.eval x) str ty)):Sem Next).run P w):=by
 obtain ⟨v,hv,hr2⟩:=aa.1 hr
 have hx:=ha.eval h hv
 clear hr
 generalize ca.eval x=X at*
 cases v with
 |ptr b o=>cases o with
  |succ o=>cases hr2
  |zero=>
   obtain ⟨k,hk,hr3⟩:=aa.1 hr2
   cases hx with
   |ptr _ _ e he=>
    obtain ⟨k',hk',hbr⟩:=h.bU b e he
    rw [hk] at hk'
    cases hk'
    cases str with
    |false=>
     replace hr3:ET σ k=some r:=hr3
     cases k with
     |Cr m=>
      obtain ⟨g,rfl,hN,hm⟩:=hbr
      rw [add_nil]
      cases m with
      |none=>
       cases hr3
       obtain ⟨since,seen,last,hg⟩:=hm
       refine NR.value h (u:=.tuple #[.bool false]) ?_ (.tuple _ [_] (.cons _ _ _ _ (.bool false) .nil))
       have hgo:(getObj g).run P w= .ok (.mapIter none since seen last) w:=by simp [getObj,XQ,hg]
       simp [Yc,hgo]
      |some b'=>
       obtain ⟨es,hes,hr4⟩:=aa.1 (show ab (jK σ (.map b')) (Ai σ)=some r from hr3)
       obtain ⟨em,since,last,hem,hg⟩:=hm
       cases es with
       |cons _ _=>cases hr4
       |nil=>
        cases hr4
        obtain ⟨_,gm,ents,clock,rfl,_,hgm,⟨l,hl1,hl2⟩,_⟩:=h.A7 hem hes
        cases hl2
        have he0:ents= #[]:=by
         have:=hl1.length_eq
         apply Array.ext'
         have h0:ents.toList.length=0:=by simpa using this.symm
         rw [List.eq_nil_of_length_eq_zero h0]
        subst he0
        refine NR.value h (u:=.tuple #[.bool false]) ?_ (.tuple _ [_] (.cons _ _ _ _ (.bool false) .nil))
        have hgo:(getObj g).run P w= .ok (.mapIter (some gm) since #[] last) w:=by simp [getObj,XQ,hg]
        simp [Yc,hgo,XS hgm,choose,XQ,Question.forced]
     |_=>cases hr3
    |true=>
    replace hr3:CN σ b k=some r:=hr3
    cases k with
    |fY l p=>
     obtain ⟨g,bs,rfl,hN,hg,hl⟩:=hbr
     have hgo:(getObj g).run P w= .ok (.stringIter bs p) w:=by simp [getObj,XQ,hg]
     have hlen:l.length=bs.size:=by rw [←hl];simp
     rw [add_nil]
     unfold CN at hr3
     simp only at hr3
     split at hr3
     ·rename_i hd
      cases hr3
      have hp: ¬p<bs.size:=by
       have:=congrArg X8 hd
       simp at this
       omega
      refine NR.value h (u:=.tuple #[.bool false]) ?_ (.tuple _ [_] (.cons _ _ _ _ (.bool false) .nil))
      simp [Yc,hgo,hp]
     ·rename_i c rest hd
      obtain ⟨hc,hr4⟩:=aj.1 hr3
      cases hr4
      have hc:c≤127:=VQ hc
      have hp:p<bs.size:=by
       have:=congrArg X8 hd
       simp at this
       omega
      have hcb:(bs[p]'hp).toNat=c:=by
       have h1:l[p]? =some c:=by
        have:=congrArg (·[0]?) hd
        simpa using this
       rw [←hl] at h1
       simp at h1
       obtain ⟨b',hb',rfl⟩:=h1
       have h2:bs.data[p]? =some (bs[p]'hp):=by
        rw [Wo (by simpa using hp)];rfl
       rw [h2] at hb'
       cases hb'
       rfl
      have hdec:=decode_ascii bs p hp (by omega)
      have hlt:g<w.heap.size:=(Array.getElem?_eq_some_iff.1 hg).1
      have hset:(setObj g (.stringIter bs (p+1))).run P w= .ok () {w with heap:=w.heap.setIfInBounds g (.stringIter bs (p+1))}:=by simp [setObj,XQ,hg]
      have hG:bF P N μ σ w μ (σ.put b (.fY l (p+1))) {w with heap:=w.heap.setIfInBounds g (.stringIter bs (p+1))}:=by
       refine h.jA he hk rfl hN ⟨rfl,rfl,rfl,by simp,fun k _ hne=>?_⟩ ⟨g,bs,rfl,hN,by simp [hlt],hl⟩
       have hne':k≠g:=fun e=>hne (by rw [e])
       exact Wf (Ne.symm hne')
      refine hG.val (u:=.tuple #[.bool true,.int .i64 (Vw p),.int .i32 (Vw c)]) ?_ (.tuple _ [_,_,_] (.cons _ _ _ _ (.bool true) (.cons _ _ _ _ (.int _ _) (.cons _ _ _ _ (.int _ _) .nil))))
      simp only [Yc,Wc,WG,Wd,hgo,if_pos hp,hdec,hset,hcb]
      rfl
    |_=>cases hr3
 |_=>cases hr2
end
end
section
open Go Go.RowKit Go.MapKept
variable [Env]
section
variable {P:Program} {N:Nat} {μ:bw} {σ:St} {w:World} {a:aN} {ca:Act}
theorem SR.E9 (h:SR P N μ σ w) {w':World} {us':Array Value} {t:TypeId} (hw:w'.heap=w.heap.push (.cells us' t (0,0))) (hos:w'.os=w.os) (htp:w'.tape=w.tape) (hout:w'.output=w.output) {vs:List AV} {us:List Value} (hv:b8 P μ vs us) (ho:cf vs=true)
 (hu:us'.toList.take us.length=us):bF P N μ σ w (dm μ σ.n ⟨⟨w.heap.size,0,none⟩,some (us'.size,t)⟩) (σ.row t vs) w':=by
 have hl:vs.length=us.length:=hv.length
 have hle:us.length≤us'.size:=by
  have:=congrArg X8 hu
  simp at this
  omega
 refine h.laid ⟨hos,htp,hout,by rw [hw];simp,fun k hk _=>by rw [hw,Array.getElem?_push,if_neg (by omega)]⟩ (VY _) ⟨w.heap.size,us'.size,us',rfl,h.hN,by rw [hw];simp,rfl,by omega,fun i hi=>?_⟩
 obtain ⟨v,hvi⟩: ∃v,vs[i]? =some v:=⟨vs[i],Wj hi⟩
 obtain ⟨u,hu',hr⟩:=hv.get hvi
 refine ⟨v,u,by rw [Cs.jy];exact hvi,?_,hr.mono (eJ (.inl h.fresh)),gH ho hvi⟩
 rw [←hu,VK,if_pos (by omega)] at hu'
 simpa using hu'
theorem SR.news (h:SR P N μ σ w) {z k:Nat} {y:AV} {Y:Value} {new:List AV} (hy:VR P μ y Y) (hn:EJ z σ y=some (k,new)):
 ∃us:List Value,b8 P μ new us∧cf new=true∧us.length=k*z∧
  ((Y= .slice none 0 0∧k=0)∨∃ad c,Y= .slice (some ad) k c∧∀j u,us[j]? =some u→w.cell? (ad.add j)=some u):=by
 cases y with
 |an=>cases hn;cases hy;exact ⟨[],.nil,rfl,by simp,.inl ⟨rfl,rfl⟩⟩
 |e0 zz=>cases hn;cases hy with |e0 _ ad c _ _=>exact ⟨[],.nil,rfl,by simp,.inr ⟨ad,c,rfl,fun j u hj=>by simp at hj⟩⟩
 |slice b o n fV wh=>
  obtain ⟨cs,hcs,hq⟩:=aO.1 (show omap (σ.cells b o (VC n z)) (fun cs=>(n,cs))=some (k,new) from hn)
  cases hq
  cases hy with
  |slice _ _ _ _ _ en ad c he had hnc hm hl hc=>
   obtain ⟨h1,h2,us,h3,h4,h5⟩:=h.iq he hcs
   refine ⟨us,h3,h2,h4,.inr ⟨ad,c,rfl,fun j u hj=>?_⟩⟩
   have hjl:j<us.length:=(List.getElem?_eq_some_iff.1 hj).1
   rw [h4] at hjl
   have hn0:0<k:=by
    rcases Xo k with h0 |h0
    ·subst h0;simp at hjl
    ·exact h0
   obtain rfl:ad=en.a.add o:=had.elim id (fun h=>by omega)
   rw [add_add,h5 j hjl]
   exact hj
 |_=>cases hn
theorem jm {t ty e:TypeId} {z:Nat} {base:Option Addr} {n c:Nat} {Y:Value} (ht:P.underlying t=some (.slice e)) (hz:bA P e=some z) (hnc:n≤c) (hY:Y= .slice none 0 0∨∃ad c',Y= .slice (some ad) 0 c'):
 (Yd #[t,t] ty #[.slice base n c,Y]).run P w= .ok (.slice base n c) w:=by
 rcases hY with rfl |⟨ad,c',rfl⟩
 ·cases base with
  |none=>simp [Yd,run_underlying ht,bq hz,Ye,hnc,Yf]
  |some b=>simp [Yd,run_underlying ht,bq hz,Ye,hnc,Yf,storeCells]
 ·cases base with
  |none=>simp [Yd,run_underlying ht,bq hz,Ye,hnc,Yf,loadCells,loadCellsFrom]
  |some b=>simp [Yd,run_underlying ht,bq hz,Ye,hnc,Yf,loadCells,loadCellsFrom,storeCells]
theorem SR.append (h:SR P N μ σ w) {w':World} {b:Pos} {g sz:Nat} {t e:TypeId} {len:Nat} {c c':Cs} {len':Nat} (hb:μ b=some ⟨⟨g,0,none⟩,some (sz,t)⟩) (hk:σ.h.get b=some (.cells true t len c)) (hN:N≤g) {g':Nat} {cur:Array Value}
 (hg:w.grownBy w' (some g)) (hg':g'=g∨g'=w.heap.size) (hcur:w'.heap[g']? =some (.cells cur e (0,0))) (hlen:len'≤cur.size) (hcr:CR P μ c' len' (fun i=>cur[i]?)):
 bF P N μ σ w (dm μ σ.n ⟨⟨g',0,none⟩,some (cur.size,e)⟩) ((σ.put b .dead).push (.cells true e len' c')) w':=by
 have hbr:BR P N μ w (.cells true t len c) ⟨⟨g,0,none⟩,some (sz,t)⟩:=by
  obtain ⟨k,h1,h2⟩:=h.bU b _ hb
  rw [hk] at h1;cases h1;exact h2
 have h1:bF P N μ σ w μ (σ.put b .dead) w:=h.jA (k:=.dead) hb hk rfl hN (iP w _) ⟨.inl hN,hbr.lt⟩
 have hsn:(σ.put b .dead).n=σ.n:=jj σ b .dead
 have hfr:μ σ.n=none:=h.fresh
 have hne: ∀x ex kx,x≠σ.n→μ x=some ex→(σ.put b .dead).h.get x=some kx→bO kx=false→ex.a.block≠g:=by
  intro x ex kx _ hx hkx hd he
  rw [fM] at hkx
  by_cases hxb:b=x
  ·subst hxb;rw [if_pos rfl] at hkx;cases hkx;cases hd
  ·rw [if_neg hxb] at hkx
   exact hxb (h.inj b x _ ex _ kx hb hx hk hkx rfl hd hN he.symm)
 have h2:=h1.sr.CY (w':=w') (b:=σ.n) (e:=⟨⟨g',0,none⟩,some (cur.size,e)⟩) (k:=.cells true e len' c') (σ':=(σ.put b .dead).push (.cells true e len' c')) (some g) hg
  (.inr ⟨hfr,by rw [hsn];exact VY _,by
   rcases hg' with rfl |rfl
   ·exact .inr ⟨b,_,hb,rfl⟩
   ·exact .inl (VY _)⟩)
  (fun x=>by rw [bP,hsn]) (by rw [eh,hsn,Pos.bZ];omega) (by rw [eh,hsn,Pos.bZ];omega)
  ⟨g',cur.size,cur,rfl,hg'.elim (fun q=>q▸hN) (fun q=>q▸h.hN),hcur,rfl,hlen,hcr.mono (eJ (.inl hfr))⟩
  (fun g₁ hg₁=>by cases hg₁;exact ⟨hN,⟨b,_,hb,rfl⟩,fun x ex kx hx hm hkx hd=>hne x ex kx hx hm hkx hd⟩)
  (fun _ _ x ex kx hx hm hkx hd=>by
   rcases hg' with rfl |rfl
   ·exact hne x ex kx hx hm hkx hd
   ·obtain ⟨k',_,q2⟩:=h1.sr.bU x ex hm
    have:=q2.lt
    exact Nat.ne_of_lt this)
  (fun g₁ hg₁ ad v ha hbl=>by cases hg₁;exact absurd hbl (h.apart b _ _ hb hk rfl hN ad v ha))
  (fun _ _ ad v ha=>by
   rcases hg' with rfl |rfl
   ·exact h.apart b _ _ hb hk rfl hN ad v ha
   ·exact Nat.ne_of_lt (kH (h.fW ad v ha)))
 exact h1.trans h2
theorem A8 {t:TypeId} {ty e z by_ k:Nat} {x y zv:AV} {new:List AV} {X Y:Value} {r:aG} (h:SR P N μ σ w) (hx:VR P μ x X) (hy:VR P μ y Y) (he:dJ P t=some e) (hz:bA P e=some z) (hby:ju P e=some by_) (hzv:cV P e=some zv) (hnew:EJ z σ y=some (k,new))
 (hb:rN e z by_ zv x k=true) (hr6:pb e z k new σ x=some r):NR P N μ σ w r ((do pure (.value (←Yd #[t,t] ty #[X,Y])):Sem Next).run P w):=by
 unfold rN at hb
 simp only [V1] at hb
 obtain ⟨⟨⟨⟨b1,b2⟩,b3⟩,b4⟩,b5⟩:=hb
 have b1:1≤z:=VQ b1
 have b2:zv.cells.length=z:=VN b2
 have b4:1≤by_:=VQ b4
 have b5:(lenOf x+k)*by_≤35184372088832:=VQ b5
 have b6:lenOf x+k≤35184372088832:=VZ (Nat.le_mul_of_pos_right _ b4) b5
 have hu:=cA he
 obtain ⟨Z,_,hZ,i,hi,hzz⟩:=cN (μ:=μ) hzv w
 obtain ⟨i',hi',rfl⟩:=fA hby
 rw [hi] at hi'
 cases hi'
 have hsi:i.size=z:=by unfold bA at hz;rw [hi] at hz;cases hz;rfl
 have hzc:=hZ.cells (bT b3)
 have hzs:Z.cells.size=z:=by rw [←b2];simpa using hzc.length.symm
 obtain ⟨us,hus,hou,hul,hY⟩:=h.news hy hnew
 have fresh: ∀(n cap:Nat) (olds:List Value) (iG:List AV),b8 P μ iG olds→cf iG=true→olds.length=n*z→n+k≤35184372088832→∀w',w'=w.drew.alloc (.cells (olds.toArray++us.toArray++Yg Z.cells (grownCap w (n+k) cap e - (n+k))) e)→
  ∀s:Sem Value,s.run P w= .ok (.slice (some ⟨w.heap.size,0,none⟩) (n+k) (grownCap w (n+k) cap e)) w'→
  NR P N μ σ w (.val (.slice σ.n 0 (n+k) false true) (σ.row e (iG++new))) ((do pure (.value (←s)):Sem Next).run P w):=by
  intro n cap olds iG ho1 ho2 hol hnk w' hw s hs
  subst hw
  have hge:=grownCap_ge w (n+k) cap e
  have hle:=grownCap_le_maxLen w (n+k) cap e (by simp only [maxLen];omega)
  have hg:=h.E9 (w':=w.drew.alloc (.cells (olds.toArray++us.toArray++Yg Z.cells (grownCap w (n+k) cap e - (n+k))) e))
   (us':=olds.toArray++us.toArray++Yg Z.cells (grownCap w (n+k) cap e - (n+k))) (t:=e) rfl rfl rfl rfl (ho1.append hus) (fy ho2 hou)
   (by simp only [Array.toList_append,Xh];rw [←Xh];exact List.take_left)
  refine hg.val hs ?_
  refine VR.slice σ.n 0 (n+k) false true _ _ _ (dK _ _ _) (.inl (by rw [add_nil])) hge hle (by simp) (fun _ _ sz t' hsz=>?_)
  cases hsz
  rw [cq hz]
  simp only [Array.size_append,List.size_toArray,size_zeroCells,hzs,hol,hul,←Nat.add_mul]
  congr 1
  omega
 have hk0:k=0→Y= .slice none 0 0∨∃ad c',Y= .slice (some ad) 0 c':=by
  intro hk
  rcases hY with ⟨h1,_⟩ |⟨ad,c,h1,_⟩
  ·exact .inl h1
  ·exact .inr ⟨ad,c,by rw [h1,hk]⟩
 have hk1:k≠0→∃ad c,Y= .slice (some ad) k c∧∀j u,us[j]? =some u→w.cell? (ad.add j)=some u:=by
  intro hk
  rcases hY with ⟨_,h1⟩ |h1
  ·exact absurd h1 hk
  ·exact h1
 cases x with
 |an=>
  cases hx
  replace hr6:au (Vo k 0) (some (.val .an σ)) (some (.val (.slice σ.n 0 k false true) (σ.row e new)))=some r:=hr6
  cases hk:Vo k 0 with
  |true=>
   rw [hk] at hr6
   cases hr6
   exact NR.value h (by simp only [Wc,jm hu hz (VY 0) (hk0 (VN hk)),Wd];rfl) .an
  |false=>
   rw [hk] at hr6
   cases hr6
   have hk:k≠0:=fun q=>by subst q;cases hk
   obtain ⟨ad,c,rfl,hcell⟩:=hk1 hk
   have hrun:=run_append_nil (P:=P) w t ty e i Z hu hi hzz ad k c us (by rw [hul,hsi]) hcell (by omega) (by simp [lenOf] at b6;omega) (by simp only [lenOf,Nat.zero_add] at b5;omega)
   have:=fresh 0 0 [] [] .nil rfl (by simp) (by simpa [lenOf] using b6) _ rfl (Yd #[t,t] ty #[.slice none 0 0,.slice (some ad) k c]) (by simpa using hrun)
   simpa using this
 |slice b o n fV wh=>
  replace hr6:au (Vo k 0) (some (.val (.slice b o n fV wh) σ))
   (au fV (omap (σ.cells b o (VC n z)) fun iG=>.val (.slice σ.n 0 (Vy n k) false true) (σ.row e (iG++new)))
    (au (wh&&Vo o 0) (ab (σ.h.get b) (lV e b n k z new σ)) none))=some r:=hr6
  have hx0:=hx
  cases hx with
  |slice _ _ _ _ _ en ad c hen had hnc hmc hlim hc=>
  cases hk:Vo k 0 with
  |true=>
   rw [hk] at hr6
   cases hr6
   exact NR.value h (by simp only [Wc,jm hu hz hnc (hk0 (VN hk)),Wd];rfl) hx0
  |false=>
   rw [hk] at hr6
   have hk:k≠0:=fun q=>by subst q;cases hk
   obtain ⟨ady,cy,rfl,hcell⟩:=hk1 hk
   cases hl:fV with
   |true=>
    rw [hl] at hr6
    obtain ⟨iG,hold,rfl⟩:=aO.1 (show omap (σ.cells b o (VC n z)) (fun iG=>aG.val (.slice σ.n 0 (Vy n k) false true) (σ.row e (iG++new)))=some r from hr6)
    obtain rfl:=hlim hl
    obtain ⟨h1,h2,ous,h3,h4,h5⟩:=h.iq hen hold
    have holds: ∀j v,ous[j]? =some v→w.cell? (ad.add j)=some v:=by
     intro j v hj
     have hjl:j<ous.length:=(List.getElem?_eq_some_iff.1 hj).1
     rw [h4] at hjl
     have hn0:0<c:=by
      rcases Xo c with h0 |h0
      ·rw [h0] at hjl;simp at hjl
      ·exact h0
     obtain rfl:ad=en.a.add o:=had.elim id (fun h=>by omega)
     rw [add_add,h5 j hjl]
     exact hj
    have h4':ous.length=c*z:=h4
    simp only [lenOf] at b5 b6
    have hrun:=run_append_grow (P:=P) w t ty e i Z hu hi hzz ad c c ous (by rw [h4',hsi]) holds ady k cy us (by rw [hul,hsi]) hcell (by omega) (by omega) (growslice_fits (by omega) (by omega))
    exact fresh c c ous iG h3 h2 h4' b6 _ rfl _ hrun
   |false=>
    rw [hl] at hr6
    obtain ⟨hwo,hr7⟩:=aj.1 (show au (wh&&Vo o 0) (ab (σ.h.get b) (lV e b n k z new σ)) none=some r from hr6)
    rw [V1] at hwo
    obtain ⟨hw,ho⟩:=hwo
    have ho:o=0:=VN ho
    obtain ⟨bl,hbl,hr8⟩:=aa.1 hr7
    cases bl with
    |cells own e' len cs=>
     obtain ⟨hq,hr9⟩:=aj.1 (show au (own&&Vo e' e&&Nat.ble (VC n z) len) (some (aG.val (.slice σ.n 0 (Vy n k) false true) ((σ.put b .dead).push (.cells true e (VC (Vy n k) z) (cs.grow (VC n z) new))))) none=some r from hr8)
     cases hr9
     simp only [V1] at hq
     obtain ⟨⟨hown,hee⟩,hnl⟩:=hq
     subst hown
     obtain rfl:e'=e:=VN hee
     have hnl:n*z≤len:=VQ hnl
     have hbr:BR P N μ w (.cells true e' len cs) en:=by
      obtain ⟨k',q1,q2⟩:=h.bU b en hen
      rw [hbl] at q1;cases q1;exact q2
     obtain ⟨g,sz,cur,rfl,hN,h1,h2,h3,h4⟩:=hbr
     subst ho
     obtain rfl:ad=⟨g,0,none⟩:=by
      rcases had with h |⟨_,h⟩
      ·rw [h,add_nil]
      ·exact absurd rfl h
     have hcz:c*z=sz:=by rw [←cq hz];exact hc hw rfl sz e' rfl
     simp only [lenOf] at b5 b6
     have hsz:n*z≤cur.size:=by omega
     have hown:w.ownsRow N e' z (.slice (some ⟨g,0,none⟩) n c) n (cur.toList.take (n*z)):=
      ⟨by simp;omega,.inr ⟨g,c,cur,rfl,hN,h1,hnc,hmc,by rw [h2,hcz],rfl⟩⟩
     have h1c: ∀u∈us,u.oneCell'=true:=by
      intro u hu'
      obtain ⟨j,hj⟩:=Yh hu'
      have hjl:j<new.length:=by rw [hus.length];exact (List.getElem?_eq_some_iff.1 hj).1
      obtain ⟨u',q1,q2⟩:=hus.get (Wj hjl)
      rw [hj] at q1;cases q1
      exact q2.one (gH hou (Wj hjl))
     obtain ⟨v',w',hrun,hown',hgr,hnil,hat⟩:=run_append_own_at (P:=P) w N t ty e' i Z z i.bytes hu hi hzz hsi rfl hzs (by omega) _ n _ hown ady k cy us hul hcell h1c (by simp only [maxLen];omega) (by omega) h.hN
     obtain ⟨hxl,hv' |⟨g',cap',cur',rfl,hN',hh',hnc',hcm',hcs',htk⟩⟩:=hown'
     ·omega
     ·have hg':g'=g∨g'=w.heap.size:=by
       simp only [Value.ownBlock,Xu] at hat
       exact hat
      have hcr:CR P μ (cs.grow (n*z) new) ((n+k)*z) (fun i=>cur'[i]?):=by
       intro j hj
       have hgl:n*z+new.length=(n+k)*z:=by rw [hus.length,hul,Nat.add_mul]
       have hget:=Cs.Az (vs:=new) hnl h4.isSome j (by omega)
       have hcj:cur'[j]? =(cur.toList.take (n*z)++us)[j]? :=by
        rw [←htk,VK,if_pos hj];simp
       show ∃av v,(cs.grow (n*z) new).get j=some av∧cur'[j]? =some v∧VR P μ av v∧av.one=true
       rw [hget,hcj]
       by_cases hjn:j<n*z
       ·rw [if_pos hjn,VJ (by simp;omega),VK,if_pos hjn,WM]
        exact h4 j (by omega)
       ·have hlt:(cur.toList.take (n*z)).length=n*z:=by simp;omega
        rw [if_neg hjn,VL (by omega),hlt]
        have hvi:new[j - n*z]? =some (new[j - n*z]'(by omega)):=Wj (by omega)
        obtain ⟨u,q1,q2⟩:=hus.get hvi
        exact ⟨_,u,hvi,q1,q2,gH hou hvi⟩
      have hgo:=h.append (w':=w') (len':=(n+k)*z) (c':=cs.grow (n*z) new) hen hbl hN hgr hg' hh' (by rw [hcs'];exact Wu _ hnc') hcr
      refine hgo.val hrun (VR.slice σ.n 0 (n+k) false true _ _ _ (dK _ _ _) (.inl (by rw [add_nil])) hnc' hcm' (by simp) (fun _ _ sz' t' hsz'=>?_))
      cases hsz'
      rw [cq hz,hcs']
    |_=>cases hr8
 |_=>cases hr6
end
end
section
open Go Go.RowKit Go.MapKept
variable [Env]
section
variable {P:Program} {N:Nat} {μ:bw} {σ:St} {w:World} {a:aN} {ca:Act}
def eo (ts:List Ty) (l:List (List D)):Prop:=∀r∈l,aW ts r
theorem eo.len {ts:List Ty} {l:List (List D)} (h:eo ts l): ∀r∈l,r.length=ts.length:=fun r hr=>bD (h r hr)
theorem eo.flat {ts:List Ty} {l:List (List D)} (h:eo ts l):l.flatten.length=l.length*ts.length:=iO h.len
def iR (fz:Addr→Option Value) (l:List (List D)) (us:List Value):Prop:=∀(j:Nat) (d:D),l.flatten[j]? =some d→∃u:Value,us[j]? =some u∧dY fz d u
theorem iR.append {fz:Addr→Option Value} {l m:List (List D)} {us vs:List Value} (h:iR fz l us) (k:iR fz m vs) (hl:us.length=l.flatten.length):iR fz (l++m) (us++vs):=by
 intro j d hj
 rw [List.flatten_append] at hj
 by_cases hjl:j<l.flatten.length
 ·rw [VJ hjl] at hj
  obtain ⟨u,q1,q2⟩:=h j d hj
  exact ⟨u,by rw [VJ (by omega)];exact q1,q2⟩
 ·rw [VL (by omega)] at hj
  obtain ⟨u,q1,q2⟩:=k _ d hj
  exact ⟨u,by rw [VL (by omega),hl];exact q1,q2⟩
theorem iC {own:Bool} {ts:List Ty} {n:Tm} {b:Pos} {bl:aY} {t:TypeId} {q:Tm} {X:Value} (h:SR P N μ σ w) (hx:VR P μ (.vl ts n b) X) (hb:σ.h.get b=some bl) (hv:pc own ts n bl=some (t,q)):
 ∃(e:fx) (L:List (List D)),μ b=some e∧bO bl=false∧(own=true→writes bl=true)∧ev q= .aF L∧ev n= .int .i64 (Vw L.length)∧eo ts L∧(((X= .slice none 0 0∨∃ad,X= .slice (some ad) 0 0)∧L=[]∧e=cz∧0<N∧0<w.heap.size)∨
  ∃(g c:Nat) (cur:Array Value),X= .slice (some ⟨g,0,none⟩) L.length c∧e=⟨⟨g,0,none⟩,some (cur.size,t)⟩∧N≤g∧w.heap[g]? =some (.cells cur t (0,0))∧cur.size=c*ts.length∧L.length≤c∧c≤maxLen∧∀(j:Nat) (d:D),L.flatten[j]? =some d→∃u,cur[j]? =some u∧dY μ.fz d u):=by
 cases bl<;>first |(cases hv;done) |skip
 rename_i o t' us m x
 obtain ⟨h1,hv⟩:=aj.1 (show au (au own o true) (au (bV ts us&&dD n m) (some (t',kA n m x)) none) none=some (t,q) from hv)
 obtain ⟨h2,hv⟩:=aj.1 hv
 cases hv
 rw [V1] at h2
 obtain rfl:=bW h2.1
 cases hx with
 |vl _ _ _ _ e he hc=>
  obtain ⟨k',hk',hbr⟩:=h.bU b e he
  rw [hb] at hk'
  cases hk'
  obtain ⟨l,q1,q2,q3,q4⟩:=hbr
  have hrows:eo ts l:=by
   obtain ⟨l',e1,h⟩:=q3
   cases e1
   exact h
  have hfirst: ∀k:Nat,ev n= .int .i64 (Vw k)→k≤l.length∧ev (kA n m x)= .aF (l.take k):=by
   intro k hk
   have hle:=dT h2.2 hk q2
   have hle:k≤l.length:=by have h1:(Vw k:Int)=(k:Int):=rfl;have h2:(Vw l.length:Int)=(l.length:Int):=rfl;omega
   refine ⟨hle,?_⟩
   unfold kA
   cases hnm:cp n m with
   |true=>
    have:=cI hnm
    subst this
    rw [q2] at hk
    have:l.length=k:=by injection hk with _ hk;exact Int.ofNat.inj hk
    show ev x=_
    rw [q1,←this,List.take_length]
   |false=>
    show ev (.op .sub [x,.int .i64 0,n])=_
    rw [bH]
    simp only [VT,VU,q1,hk]
    rfl
  have hown:own=true→writes (aY.vec o t ts m x)=true:=by
   rintro rfl
   exact h1
  rcases hc with ⟨hX,c1,c2⟩ |⟨k,c,rfl,c1,c2,c3,c4,c5⟩
  ·obtain ⟨_,hf⟩:=hfirst 0 c2
   rw [List.take_zero] at hf
   rcases q4 with ⟨rfl,r1,r2,r3⟩ |⟨g,cur,rfl,_⟩
   ·exact ⟨cz,[],he,rfl,hown,hf,c2,fun r hr=>absurd hr VS,.inl ⟨hX,rfl,rfl,r1,r2⟩⟩
   ·exact absurd rfl c1
  ·obtain ⟨hle,hf⟩:=hfirst k c2
   have hlen:(l.take k).length=k:=by rw [V9,Wa hle]
   rcases q4 with ⟨rfl,_⟩ |⟨g,cur,rfl,r1,r2,r3,r4⟩
   ·cases c1
   ·refine ⟨_,l.take k,he,rfl,hown,hf,by rw [hlen];exact c2,fun r hr=>hrows r (XD hr),.inr ⟨g,c,cur,by rw [hlen],rfl,r1,r2,c5 _ _ rfl,by omega,c4,fun j d hj=>?_⟩⟩
    rw [xg hrows.len,VK] at hj
    split at hj
    ·obtain ⟨u,x1,x2,_⟩:=r4 j d hj;exact ⟨u,x1,x2⟩
    ·cases hj
theorem SR.freeze {μ:bw} {σ:St} {w:World} (h:SR P N μ σ w) {b:Pos} {e:fx} {o:Bool} {t:TypeId} {ts:List Ty} {m x:Tm} (hb:μ b=some e) (hk:σ.h.get b=some (.vec o t ts m x)):
 ∃fz',bF P N μ σ w ⟨μ.f,fz'⟩ (σ.put b (.vec false t ts m x)) w∧∀(g:Nat) (cur:Array Value),e.a=⟨g,0,none⟩→w.heap[g]? =some (.cells cur t (0,0))→N≤g→∀(j:Nat) (u:Value) (l:List (List D)),ev x= .aF l→j<l.flatten.length→cur[j]? =some u→fz' ⟨g,j,none⟩=some u:=by
 obtain ⟨k',hk',hbr⟩:=h.bU b e hb
 rw [hk] at hk'
 cases hk'
 have hbr0:=hbr
 obtain ⟨l,q1,q2,q3,q4⟩:=hbr
 let fz':Addr→Option Value:=fun ad=>match μ.fz ad with |some v=>some v |none=>if N≤ad.block∧ad.block=e.a.block then w.cell? ad else none
 have fold: ∀ad v,μ.fz ad=some v→fz' ad=some v:=fun ad v ha=>by show (match μ.fz ad with |some v=>some v |none=>_)=_;rw [ha]
 have fcell: ∀ad v,fz' ad=some v→w.cell? ad=some v:=fun ad v ha=>by
  cases hf:μ.fz ad with
  |some u=>
   have:fz' ad=some u:=fold ad u hf
   rw [this] at ha
   cases ha
   exact h.fW ad v hf
  |none=>
   replace ha:(match μ.fz ad with |some v=>some v |none=>if N≤ad.block∧ad.block=e.a.block then w.cell? ad else none)=some v:=ha
   rw [hf] at ha
   replace ha:(if N≤ad.block∧ad.block=e.a.block then w.cell? ad else none)=some v:=ha
   split at ha
   ·exact ha
   ·cases ha
 have fnew: ∀ad v,fz' ad=some v→μ.fz ad=some v∨(N≤ad.block∧ad.block=e.a.block):=fun ad v ha=>by
  cases hf:μ.fz ad with
  |some u=>
   have:fz' ad=some u:=fold ad u hf
   rw [this] at ha
   exact .inl ha
  |none=>
   replace ha:(match μ.fz ad with |some v=>some v |none=>if N≤ad.block∧ad.block=e.a.block then w.cell? ad else none)=some v:=ha
   rw [hf] at ha
   replace ha:(if N≤ad.block∧ad.block=e.a.block then w.cell? ad else none)=some v:=ha
   split at ha
   ·rename_i hc;exact .inr hc
   ·cases ha
 have fin: ∀ad v,N≤ad.block→ad.block=e.a.block→w.cell? ad=some v→fz' ad=some v:=fun ad v h1 h2 hc=>by
  cases hf:μ.fz ad with
  |some u=>
   have:=h.fW ad u hf
   rw [hc] at this
   cases this
   exact fold ad v hf
  |none=>
   show (match μ.fz ad with |some v=>some v |none=>if N≤ad.block∧ad.block=e.a.block then w.cell? ad else none)=some v
   rw [hf]
   show (if N≤ad.block∧ad.block=e.a.block then w.cell? ad else none)=some v
   rw [if_pos ⟨h1,h2⟩]
   exact hc
 have hsub:Sub μ ⟨μ.f,fz'⟩:=⟨fun _ _ h=>h,fold⟩
 refine ⟨fz',⟨⟨hsub,fun x ex hx=>.inr ⟨x,ex,hx,rfl⟩,fun ad v ha=>?_⟩,fun x ex hx=>.inl hx,by rw [jj];exact VY _,Ev.refl _ _ _,⟨fun x ex hx=>?_,?_,fun x ex hx=>by rw [jj];exact h.lt x ex hx,h.hN,h.eZ,h.hn,h.base,fcell,?_⟩⟩,?_⟩
 ·rcases fnew ad v ha with h1 |⟨_,h2⟩
  ·exact .inl h1
  ·exact .inr (.inr ⟨b,e,hb,h2.symm⟩)
 ·by_cases hxb:b=x
  ·subst hxb
   replace hx:μ b=some ex:=hx
   rw [hb] at hx
   cases hx
   refine ⟨.vec false t ts m x,by rw [fM,if_pos rfl],l,q1,q2,q3,?_⟩
   rcases q4 with q4 |⟨g,cur,rfl,r1,r2,r3,r4⟩
   ·exact .inl q4
   ·refine .inr ⟨g,cur,rfl,r1,r2,r3,fun j d hj=>?_⟩
    obtain ⟨u,x1,x2,_⟩:=r4 j d hj
    refine ⟨u,x1,x2.mono fold,fun _=>fin ⟨g,j,none⟩ u r1 rfl ?_⟩
    simp only [World.cell?,r2]
    simpa using x1
  ·obtain ⟨k,g1,g2⟩:=h.bU x ex hx
   exact ⟨k,by rw [fM,if_neg hxb];exact g1,g2.bo hsub (VY _) fun _=>rfl⟩
 ·intro x y ex ey kx ky hx hy gx gy dx dy hN hxy
  rw [fM] at gx gy
  by_cases hxb:b=x
  ·by_cases hyb:b=y
   ·rw [←hxb,←hyb]
   ·subst hxb
    rw [if_neg hyb] at gy
    exact h.inj b y ex ey _ ky hx hy hk gy rfl dy hN hxy
  ·rw [if_neg hxb] at gx
   by_cases hyb:b=y
   ·subst hyb
    exact h.inj x b ex ey kx _ hx hy gx hk dx rfl hN hxy
   ·rw [if_neg hyb] at gy
    exact h.inj x y ex ey kx ky hx hy gx gy dx dy hN hxy
 ·intro x ex kx hx gx hw hN ad v ha
  rw [fM] at gx
  by_cases hxb:b=x
  ·rw [if_pos hxb] at gx
   cases gx
   cases hw
  ·rw [if_neg hxb] at gx
   rcases fnew ad v ha with h1 |⟨h1,h2⟩
   ·exact h.apart x ex kx hx gx hw hN ad v h1
   ·intro heq
    have dx:bO kx=false:=by cases kx<;>first |rfl |cases hw
    exact hxb (h.inj b x e ex _ kx hb hx hk gx rfl dx (h2▸h1) (h2.symm.trans heq))
 ·intro g cur he hg hN j u l' hl' hj hu
  refine fin ⟨g,j,none⟩ u hN (by rw [he]) ?_
  simp only [World.cell?,hg]
  simpa using hu
theorem mj {μ:bw} {σ σ':St} {w:World} (h:SR P N μ σ w) {v v':AV} {u:Value} (hv:VR P μ v u) (hf:nI σ v=some (v',σ')): ∃fz',bF P N μ σ w ⟨μ.f,fz'⟩ σ' w∧σ'.n=σ.n∧VR P ⟨μ.f,fz'⟩ v' u:=by
 have plain:some (v,σ)=some (v',σ')→∃fz',bF P N μ σ w ⟨μ.f,fz'⟩ σ' w∧σ'.n=σ.n∧VR P ⟨μ.f,fz'⟩ v' u:=by
  intro e
  cases e
  exact ⟨μ.fz,h.stay,rfl,hv⟩
 cases v<;>first |exact plain hf |skip
 rename_i ts n b
 obtain ⟨k,hk,hf⟩:=aa.1 hf
 cases k<;>first |(cases hf;done) |skip
 rename_i o t us m x
 obtain ⟨hc,hf2⟩:=aj.1 (show au (bV ts us&&dD n m) (some (AV.tm (.aF ts) (kA n m x),σ.put b (.vec false t us m x))) none=some (v',σ') from hf)
 cases hf2
 have hvec:pc false ts n (.vec o t us m x)=some (t,kA n m x):=by
  show au (au false o true) (au (bV ts us&&dD n m) (some (t,kA n m x)) none) none=_
  rw [hc]
 obtain ⟨e,L,he,_,_,q1,q2,q3,q4⟩:=iC h hv hk hvec
 obtain ⟨fz',hg,hin⟩:=h.freeze he hk
 refine ⟨fz',hg,jj _ _ _,.tm _ _ _ ⟨L,q1,q3⟩ ?_⟩
 rw [q1]
 rcases q4 with ⟨rfl |⟨ad,rfl⟩,rfl,_⟩ |⟨g,c,cur,rfl,rfl,r1,r2,r3,r4,r5,r6⟩
 ·exact .nil
 ·exact nO _ (Xz _)
 ·obtain ⟨k',hk',hbr⟩:=h.bU b _ he
  rw [hk] at hk'
  cases hk'
  obtain ⟨l,p1,p2,p3,p4⟩:=hbr
  have hLl:L.flatten.length≤l.flatten.length:=by
   rw [V1] at hc
   have hts:=bW hc.1
   have hle:=dT hc.2 q2 p2
   have hle:L.length≤l.length:=by have h1:(Vw L.length:Int)=(L.length:Int):=rfl;have h2:(Vw l.length:Int)=(l.length:Int):=rfl;omega
   have hR:eo us l:=by
    obtain ⟨l',e1,h⟩:=p3
    cases e1
    exact h
   rw [q3.flat,hR.flat,←hts]
   exact Wu _ hle
  refine .aF L ⟨g,0,none⟩ c (fun j=>cur.getD j undef) r4 r5 (fun j hj=>?_) fun j d hj=>?_
  ·obtain ⟨v,x1,x2⟩:=r6 j _ (Wj hj)
   rw [add_zero]
   have:cur.getD j undef=v:=by rw [We,x1];rfl
   rw [this]
   exact hin g cur rfl r2 r1 j v l p1 (by omega) x1
  ·obtain ⟨v,x1,x2⟩:=r6 j d hj
   have:cur.getD j undef=v:=by rw [We,x1];rfl
   rw [this]
   exact x2.mono hg.ext.sub.fz
theorem eO: ∀{l l':List AV} {μ:bw} {σ σ':St} {w:World} {us:List Value},SR P N μ σ w→b8 P μ l us→dg l σ=some (l',σ')→∃fz',bF P N μ σ w ⟨μ.f,fz'⟩ σ' w∧σ'.n=σ.n∧b8 P ⟨μ.f,fz'⟩ l' us
 |[],l',μ,σ,σ',w,us,h,hv,hf=>by cases hf;cases hv;exact ⟨μ.fz,h.stay,rfl,.nil⟩
 |v::l,l',μ,σ,σ',w,us,h,hv,hf=>by
  unfold dg at hf
  obtain ⟨⟨v1,σ1⟩,h1,hf⟩:=aa.1 hf
  obtain ⟨⟨l2,σ2⟩,h2,hf⟩:=aa.1 hf
  cases hf
  cases hv with
  |cons _ u _ us hv hvs=>
   obtain ⟨fz1,g1,n1,w1⟩:=mj h hv h1
   obtain ⟨fz2,g2,n2,w2⟩:=eO g1.sr (hvs.mono g1.ext.sub) h2
   exact ⟨fz2,g1.trans g2,n2.trans n1,.cons _ _ _ _ (w1.mono g2.ext.sub) w2⟩
theorem xl {v v':AV} {σ':St} {u:Value} (h:SR P N μ σ w) (hv:VR P μ v u) (hf:HX σ v=some (v',σ')): ∃fz',bF P N μ σ w ⟨μ.f,fz'⟩ σ' w∧σ'.n=σ.n∧VR P ⟨μ.f,fz'⟩ v' u:=by
 have plain:nI σ v=some (v',σ')→∃fz',bF P N μ σ w ⟨μ.f,fz'⟩ σ' w∧σ'.n=σ.n∧VR P ⟨μ.f,fz'⟩ v' u:=mj h hv
 cases v<;>first |exact plain hf |skip
 rename_i l
 obtain ⟨⟨l',s'⟩,h1,h2⟩:=aa.1 (show ab (dg l σ) (fun q=>au (cf q.1) (some (AV.agg q.1,q.2)) none)=some (v',σ') from hf)
 obtain ⟨ho,h2⟩:=aj.1 h2
 cases h2
 cases hv with
 |agg _ C hC=>
  obtain ⟨fz',g,n,hl⟩:=eO h hC h1
  exact ⟨fz',g,n,.agg _ _ hl ho⟩
theorem ml: ∀{l l':List AV} {μ:bw} {σ σ':St} {w:World} {us:List Value},SR P N μ σ w→b8 P μ l us→kB l σ=some (l',σ')→∃fz',bF P N μ σ w ⟨μ.f,fz'⟩ σ' w∧σ'.n=σ.n∧b8 P ⟨μ.f,fz'⟩ l' us
 |[],l',μ,σ,σ',w,us,h,hv,hf=>by cases hf;cases hv;exact ⟨μ.fz,h.stay,rfl,.nil⟩
 |v::l,l',μ,σ,σ',w,us,h,hv,hf=>by
  unfold kB at hf
  obtain ⟨⟨v1,σ1⟩,h1,hf⟩:=aa.1 hf
  obtain ⟨⟨l2,σ2⟩,h2,hf⟩:=aa.1 hf
  cases hf
  cases hv with
  |cons _ u _ us hv hvs=>
   obtain ⟨fz1,g1,n1,w1⟩:=xl h hv h1
   obtain ⟨fz2,g2,n2,w2⟩:=ml g1.sr (hvs.mono g1.ext.sub) h2
   exact ⟨fz2,g1.trans g2,n2.trans n1,.cons _ _ _ _ (w1.mono g2.ext.sub) w2⟩
theorem Gs {t:TypeId} {k v:AV} {b:Pos} {bl:aY} {r:aG} (h:F5 P t σ k v b bl=some r): ∃σ',r= .skip σ':=by
 cases bl<;>first |(cases h;done) |skip
 rename_i g kt ts x
 obtain ⟨q,_,h1⟩:=aa.1 h
 obtain ⟨kk,_,h2⟩:=aa.1 h1
 obtain ⟨_,h3⟩:=aj.1 h2
 obtain ⟨y,_,h4⟩:=aa.1 h3
 split at h4
 ·cases h4;exact ⟨_,rfl⟩
 ·cases h4
theorem NR.after {μ1:bw} {σ1:St} {r:aG} {res:Result Next} (hg:bF P N μ σ w μ1 σ1 w) (hs: ∃σ',r= .skip σ') (h:NR P N μ1 σ1 w r res):NR P N μ σ w r res:=by
 obtain ⟨σ',rfl⟩:=hs
 obtain ⟨μ',w',h1,h2⟩:=h
 exact ⟨μ',w',h1,hg.trans h2⟩
theorem pF {t:TypeId} {m k x:Operand} {r:aG} (h:SR P N μ σ w) (ha:AR P μ a ca) (hr:dM t m k x P a σ=some r):
 NR P N μ σ w r ((do XY t (ca.eval m) (ca.eval k) (ca.eval x);pure .skip:Sem Next).run P w):=by
 obtain ⟨kv,hkv,hr1⟩:=aa.1 hr
 obtain ⟨xv,hxv,hr2⟩:=aa.1 hr1
 obtain ⟨mv,hmv,hr3⟩:=aa.1 hr2
 have hk:=ha.eval h hkv
 have hx:=ha.eval h hxv
 have hm:=ha.eval h hmv
 clear hr hr1 hr2
 generalize ca.eval m=M at*
 generalize ca.eval k=K at*
 generalize ca.eval x=X at*
 replace hr3:au (gU σ mv) (ab (HX σ xv) fun q=>Ag q.2 mv (F5 P t q.2 kv q.1)) (lZ P t σ kv xv mv)=some r:=hr3
 cases ht:gU σ mv with
 |true=>
  rw [ht] at hr3
  obtain ⟨b,rfl⟩:=xh ht
  obtain ⟨⟨xv',σ1⟩,hfz,hr4⟩:=aa.1 (show ab (HX σ xv) (fun q=>Ag q.2 (.map b) (F5 P t q.2 kv q.1))=some r from hr3)
  obtain ⟨bl,hb,hr5⟩:=aa.1 (show ab (σ1.h.get b) (fun k=>F5 P t σ1 kv xv' b k)=some r from hr4)
  obtain ⟨fz',hg,_,hx'⟩:=xl h hx hfz
  exact NR.after hg (Gs hr5) (IY hg.sr (hm.mono hg.ext.sub) (hk.mono hg.ext.sub) hx' hb hr5)
 |false=>
 rw [ht] at hr3
 replace hr3:lZ P t σ kv xv mv=some r:=hr3
 clear ht
 cases mv with
 |map b=>
  obtain ⟨q,hq,hr4⟩:=aa.1 hr3
  obtain ⟨hc,hr5⟩:=aj.1 hr4
  obtain ⟨es,hes,hr6⟩:=aa.1 hr5
  obtain ⟨es',hes',rfl⟩:=aO.1 hr6
  clear hr3 hr4 hr5 hr6
  cases hm with
  |map _ e hb=>
   obtain ⟨hkb,g,ents,clock,rfl,hN,hg,he,hbn⟩:=h.A7 hb hes
   have hu:=fB hq
   obtain ⟨d,hd⟩:=uh (n:=7) hc
   have hchk:=qU (em:=false) 8 10000 q.1 kv K (by decide) hk hc w
   rcases IT (t:=q.1) hk hx he hes' with ⟨hf,hE⟩ |⟨j,m',hf,hj,hbits,hE⟩
   ·have hfk:=hf.run hd w
    refine ⟨μ,_,?_,h.yP hb hkb hN hg (ents.push {key:=K,val:=X,born:=clock}) (clock+1) (by simpa using hE clock) (by simpa using hbn.push {key:=K,val:=X,born:=clock} rfl)⟩
    unfold XY
    simp only [Wc,WG,Wd,run_underlying hu,XS hg,hchk,hfk,X0 _ hg]
   ·have hfk:=hf.run hd w
    have hje:ents[j]? =some m':=by simpa using hj
    refine ⟨μ,_,?_,h.yP hb hkb hN hg (ents.modify j fun e=>{e with key:=K,val:=X}) clock (by simpa using hE) (by simpa using hbn.modify j (fun e=>{e with key:=K,val:=X}) (fun _=>rfl))⟩
    unfold XY X2
    simp only [Wc,WG,Wd,run_underlying hu,XS hg,hchk,hfk,X0 _ hg,hje,Xt,X3,hbits,if_true]
 |_=>cases hr3
theorem uk {σ σ1:St} {v v':AV} {b:Pos} {t:TypeId} {ts:List Ty} {n x i:Tm} {v0:AV} (hf:nI σ v=some (v',σ1)) (hk:σ.h.get b=some (.eE t ts n x i v0)):σ1.h.get b=some (.eE t ts n x i v0):=by
 have plain:some (v,σ)=some (v',σ1)→σ1.h.get b=some (.eE t ts n x i v0):=by
  intro e
  cases e
  exact hk
 cases v<;>first |exact plain hf |skip
 rename_i us m c
 obtain ⟨k,hc,hf⟩:=aa.1 hf
 cases k<;>first |(cases hf;done) |skip
 rename_i o t' us' m' x'
 obtain ⟨_,hf2⟩:=aj.1 (show au (bV us us'&&dD m m') (some (AV.tm (.aF us) (kA m m' x'),σ.put c (.vec false t' us' m' x'))) none=some (v',σ1) from hf)
 cases hf2
 rw [fM]
 by_cases hcb:c=b
 ·subst hcb
  rw [hc] at hk
  cases hk
 ·rw [if_neg hcb]
  exact hk
theorem rW {b:Pos} {t:TypeId} {ts:List Ty} {n x i:Tm} {v0:AV}: ∀{l l':List AV} {σ σ1:St},dg l σ=some (l',σ1)→σ.h.get b=some (.eE t ts n x i v0)→σ1.h.get b=some (.eE t ts n x i v0)
 |[],l',σ,σ1,hf,hk=>by cases hf;exact hk
 |v::l,l',σ,σ1,hf,hk=>by
  unfold dg at hf
  obtain ⟨⟨v1,σ2⟩,h1,hf⟩:=aa.1 hf
  obtain ⟨⟨l2,σ3⟩,h2,hf⟩:=aa.1 hf
  cases hf
  exact rW h2 (uk h1 hk)
theorem I1 {t t':TypeId} {ts us:List Ty} {m x j:Tm} {v0:AV} {b:Pos} {i:Tm} {o:Nat} {u V:Value} {v:AV} {r:aG} (h:SR P N μ σ w) (hx:VR P μ (.pe ts b i o) u) (hv:VR P μ v V) (hk:σ.h.get b=some (.eE t' us m x j v0)) (hl:sJ P t σ v ts b i o (.eE t' us m x j v0)=some r):
 ∃μ' σ' ad w',r= .skip σ'∧u= .pointer (some ad)∧(storeVar t ad V).run P w= .ok () w'∧bF P N μ σ w μ' σ' w':=by
 obtain ⟨z,hz,hl⟩:=aa.1 (show ab (bA P t) (fun z=>au (bV ts us&&(qB i j&&(Vo (Nat.succ o) ts.length&&(Vo z 1&&v.one)))) (ab (nI σ v) fun q=>ab (jf (ts.drop o) [q.1]) fun y=>some (aG.skip (q.2.put b (.vec true t' us m (.op (.dm o z) (x::i::y.1)))))) none)=some r from hl)
 obtain ⟨hb,hl⟩:=aj.1 hl
 obtain ⟨⟨v',σ1⟩,hf,hl⟩:=aa.1 hl
 obtain ⟨y,hy,hl⟩:=aa.1 hl
 cases hl
 simp only [V1] at hb
 obtain ⟨b1,b2,b3,b4,b5⟩:=hb
 obtain rfl:=bW b1
 have b3:o+1=ts.length:=VN b3
 obtain rfl:z=1:=VN b4
 obtain ⟨fz',hg,hn1,hv'⟩:=mj h hv hf
 have hk1:=uk hf hk
 obtain ⟨g1,us',g2,g3,g4,g5⟩:=gi (.cons _ _ _ _ hv' .nil) hy
 have hlz:(ts.drop o).length=1:=by simp;omega
 rw [hlz] at g3 g4
 have hyl:(y.1.map ev).length=1:=by rw [bD g1,hlz]
 obtain ⟨d0,hd0⟩: ∃d0,(y.1.map ev)[0]? =some d0:=⟨_,Wj (by omega)⟩
 obtain ⟨V',hV1,hV2⟩:=g5 0 d0 hd0
 obtain rfl:V=V':=by simpa using hV1
 have hVc:V.cells= #[V]:=hV2.cells
 cases hx with
 |pe _ _ _ _ e kk n he hi=>
  obtain ⟨k',hk',hbr⟩:=hg.sr.bU b e he
  rw [hk1] at hk'
  cases hk'
  obtain ⟨l,iv,q1,q2,q3,q4,q5,G,cur,V0,rfl,r2,r3,r4,r5,r6,r7,r8,r9⟩:=hbr
  obtain ⟨kq,q4⟩:=q4
  obtain ⟨kj,hj⟩:=t7 b2 hi
  rw [hj] at q4
  have hn:n=iv:=by injection q4 with _ q4;have:(Vw iv:Int)=(iv:Int):=rfl;omega
  subst hn
  have hrows: ∀r∈l,aW ts r:=by
   obtain ⟨l',e1,h⟩:=q3
   cases e1
   exact h
  have hlen: ∀r∈l,r.length=ts.length:=fun r hr=>bD (hrows r hr)
  have hln:l[n]? =some l[n]:=Wj q5
  obtain ⟨f1,f2,f3⟩:=AK (o:=o) (v:=y.1.map ev) hlen hln hyl (by omega)
  have hev:ev (.op (.dm o 1) (x::i::y.1))= .aF (l.modify n fun row=>row.take o++y.1.map ev++row.drop (o+1)):=by
   rw [bH]
   simp only [VT,q1,hi]
   show D.aF (l.modify (n:Int).toNat _)=_
   rw [Wt]
  have hfl:=iO hlen
  have hin:n*ts.length+ts.length≤l.flatten.length:=by
   rw [hfl]
   calc n*ts.length+ts.length=(n+1)*ts.length:=by rw [V6]
    _≤l.length*ts.length:=Wu _ q5
  obtain ⟨w',cur',s1,s2,s3,s4,s5⟩:=iQ (P:=P) (g:=G) (o:=n*ts.length+o) (t:=t') [V] 0 cur w r3 (fun u hu=>by rw [List.mem_singleton.1 hu];exact hV2.one) (by simp;omega)
  have hq3:=hrows _ (List.getElem_mem q5)
  have hty:aW ts (l[n].take o++y.1.map ev++l[n].drop (o+1)):=by
   have e1:ts=ts.take o++ts.drop o++ts.drop (o+1):=by
    rw [Yi,List.drop_eq_nil_of_le (by omega),XZ]
   rw [e1]
   exact dV (dV (gJ o hq3) g1) (gI (o+1) hq3)
  refine ⟨_,_,_,w',rfl,rfl,?_,hg.trans (hg.sr.jA he hk1 rfl r2 s2 ⟨_,hev,by rw [q2];simp,⟨_,rfl,fun r hr=>?_⟩,.inr ⟨G,cur',by rw [s4],r2,s3,by rw [f1,s4];exact r4,fun j d hj=>?_⟩⟩)⟩
  ·simp only [storeVar,Wc,bq hz,Wd,hVc]
   simpa using s1
  ·rcases f2 r hr with h |h
   ·exact hrows r h
   ·rw [h];exact hty
  ·rw [f3] at hj
   rw [s5 j]
   simp only [Nat.add_zero,List.length_cons,List.length_nil,Nat.zero_add]
   by_cases hin:n*ts.length+o≤j∧j<n*ts.length+o+1
   ·rw [if_pos hin] at hj⊢
    have hj0:j - (n*ts.length+o)=0:=by omega
    rw [hj0] at hj⊢
    rw [hd0] at hj
    cases hj
    exact ⟨V,rfl,hV2,fun h=>by cases h⟩
   ·rw [if_neg hin] at hj⊢
    obtain ⟨u,x1,x2⟩:=r5 j d hj (by omega)
    exact ⟨u,x1,x2,fun h=>by cases h⟩
theorem A9 {t:TypeId} {ts:List Ty} {b:Pos} {i:Tm} {o:Nat} {u V:Value} {v:AV} {k:aY} {r:aG} (h:SR P N μ σ w) (hx:VR P μ (.pe ts b i o) u) (hv:VR P μ v V) (hk:σ.h.get b=some k) (hl:sJ P t σ v ts b i o k=some r):
 ∃μ' σ' ad w',r= .skip σ'∧u= .pointer (some ad)∧(storeVar t ad V).run P w= .ok () w'∧bF P N μ σ w μ' σ' w':=by
 cases k<;>first |(cases hl;done) |skip
 rotate_left
 ·exact I1 h hx hv hk hl
 rename_i own t' us m x
 obtain ⟨z,hz,hl⟩:=aa.1 (show ab (bA P t) (fun z=>au (own&&bV ts us&&lN i&&gb i m&&Nat.ble (Vy o z) ts.length&&Vo v.cells.length z) (ab (jf ((ts.drop o).take z) v.cells) fun y=>some (aG.skip (σ.put b (.vec own t' us m (.op (.dm o z) (x::i::y.1)))))) none)=some r from hl)
 obtain ⟨hb,hl⟩:=aj.1 hl
 obtain ⟨y,hy,hl⟩:=aa.1 hl
 cases hl
 simp only [V1] at hb
 obtain ⟨⟨⟨⟨⟨b0,b1⟩,b2⟩,b3⟩,b4⟩,b5⟩:=hb
 subst b0
 obtain rfl:=bW b1
 have b4:o+z≤ts.length:=VQ b4
 have b5:v.cells.length=z:=VN b5
 have hlz:((ts.drop o).take z).length=z:=by simp;omega
 have hne:v≠.bad:=by
  rintro rfl
  simp only [AV.cells] at hy b5
  have:z=1:=by simpa using b5.symm
  subst this
  cases hd:(ts.drop o).take 1 with
  |nil=>rw [hd] at hlz;simp at hlz
  |cons ty rest=>rw [hd] at hy;cases ty<;>cases hy
 have hcells:=hv.cells hne
 obtain ⟨g1,us',g2,g3,g4,g5⟩:=gi hcells hy
 rw [hlz] at g3 g4
 have hul:V.cells.toList.length=z:=by rw [←hcells.length];exact b5
 cases hx with
 |pe _ _ _ _ e kk n he hi=>
  obtain ⟨k',hk',hbr⟩:=h.bU b e he
  rw [hk] at hk'
  cases hk'
  have hbr0:=hbr
  obtain ⟨g,n',cur,l,rw_,hn,q1,q2,q3,q4,rfl,q5,q6,q7,q8,q9,q10,q11⟩:=E7 hbr hi b2 b3
  have hn:n=n':=by omega
  subst hn
  obtain ⟨l',p1,p2,p3,_⟩:=hbr0
  rw [q1] at p1
  cases p1
  have hrows: ∀r∈l,aW ts r:=by
   obtain ⟨l',e1,h⟩:=p3
   cases e1
   exact h
  have hlen: ∀r∈l,r.length=ts.length:=fun r hr=>bD (hrows r hr)
  have hyl:(y.1.map ev).length=z:=by rw [bD g1,hlz]
  obtain ⟨f1,f2,f3⟩:=AK (o:=o) (v:=y.1.map ev) hlen q2 hyl b4
  have hev:ev (.op (.dm o z) (x::i::y.1))= .aF (l.modify n fun row=>row.take o++y.1.map ev++row.drop (o+z)):=by
   rw [bH]
   simp only [VT,q1,hi]
   show D.aF (l.modify (n:Int).toNat _)=_
   rw [Wt]
  have hone: ∀u∈V.cells.toList,u.oneCell'=true:=by
   intro u hu
   obtain ⟨j,hj⟩:=Yh hu
   have hjl:j<z:=by rw [←hul];exact (List.getElem?_eq_some_iff.1 hj).1
   obtain ⟨u',x1,x2⟩:=g5 j _ (Wj (by omega))
   rw [hj] at x1
   cases x1
   exact x2.one
  obtain ⟨w',cur',s1,s2,s3,s4,s5⟩:=iQ (P:=P) (g:=g) (o:=n*ts.length+o) (t:=t') V.cells.toList 0 cur w q6 hone (by omega)
  have hty:aW ts (rw_.take o++y.1.map ev++rw_.drop (o+z)):=by
   have e1:ts=ts.take o++(ts.drop o).take z++ts.drop (o+z):=by
    rw [Xh,←Xw,Yi,Yi]
   rw [e1]
   have:=dV (dV (gJ o q3) g1) (gI (o+z) q3)
   exact this
  refine ⟨μ,_,_,w',rfl,rfl,?_,h.jA he hk rfl q5 s2 ⟨_,hev,by rw [p2];simp,⟨_,rfl,fun r hr=>?_⟩,.inr ⟨g,cur',by rw [s4],q5,s3,by rw [f1,s4];exact q8,fun j d hj=>?_⟩⟩⟩
  ·have hsz:V.cells.size=z:=by rw [←hul];simp
   simp only [storeVar,Wc,bq hz,Wd,hsz]
   simpa using s1
  ·rcases f2 r hr with h |h
   ·exact hrows r h
   ·rw [h];exact hty
  ·rw [f3] at hj
   rw [s5 j]
   simp only [Nat.add_zero,hul]
   by_cases hin:n*ts.length+o≤j∧j<n*ts.length+o+z
   ·rw [if_pos hin] at hj⊢
    obtain ⟨u,x1,x2⟩:=g5 _ d hj
    exact ⟨u,x1,x2,fun h=>by cases h⟩
   ·rw [if_neg hin] at hj⊢
    obtain ⟨u,x1,x2⟩:=q10 j d hj
    exact ⟨u,x1,x2,fun h=>by cases h⟩
theorem I2 {t:TypeId} {x y:Operand} {r:aG} (h:SR P N μ σ w) (ha:AR P μ a ca) (hr:tJ t x y P a σ=some r):
 NR P N μ σ w r ((do Yj t (ca.eval x) (ca.eval y);pure .skip:Sem Next).run P w):=by
 obtain ⟨v,hv,hr⟩:=aa.1 hr
 obtain ⟨p,hp,hr⟩:=aa.1 hr
 have hvv:=ha.eval h hv
 have hpp:=ha.eval h hp
 generalize hcv:ca.eval x=cv at*
 cases p<;>first |(cases hr;done) |skip
 rotate_left
 ·rename_i ts b i o
  obtain ⟨k,hk,hr⟩:=aa.1 (show ab (σ.h.get b) (sJ P t σ v ts b i o)=some r from hr)
  obtain ⟨μ',σ',ad,w',rfl,rfl,hrun,hg⟩:=A9 h hpp hvv hk hr
  exact ⟨μ',w',by simp [Yj,WA,hrun],hg⟩
 rename_i b o
 obtain ⟨n,hn,hr⟩:=aa.1 (show ab (bA P t) (fun n=>au (Vo v.cells.length n) (omap (σ.store b o v.cells) .skip) none)=some r from hr)
 obtain ⟨hl,hr⟩:=aj.1 hr
 obtain ⟨σ',hst,rfl⟩:=aO.1 hr
 have hl:v.cells.length=n:=VN hl
 cases hpp with
 |ptr _ _ e he=>
  have ho:cf v.cells=true:=(aj.1 hst).1
  have hcells:=hvv.cells (bT ho)
  obtain ⟨w',hrun,hg⟩:=h.store he hcells hst
  refine ⟨μ,w',?_,hg⟩
  have hsz:(ca.eval y).cells.size=n:=by rw [←hl];simpa using hcells.length.symm
  simp [Yj,WA,storeVar,bq hn,hsz,hrun]
end
end
end Go.Proofs.Sai
