/- Part LD of the proof of VerifyClosed: texts of the interpreter and what it shows, under short names. No condition. -/
import Derived.Test.YtgfhbomiljhjpaaGreatDoorLC
import Derived.DataReads
import Derived.Carry
import Derived.ProofKit
import Derived.OpenShut
import Derived.LaidMore
import Derived.Lay
import Derived.SevenTiedAt
import Derived.Stop.Joined
import Derived.Lib.LaidTab
import Derived.LaidHandle
set_option linter.unusedVariables false
set_option linter.unusedSimpArgs false
set_option linter.unusedSectionVars false
open Bool renaming not_false→X5,not_true→XQ,and_eq_true→Uj
open Go.DataW renaming trod→Ye,TrodAll→Yf
open Go.IntWalk renaming i64_in→U5
open Go.OpenSpec renaming ofChange→Yh
open Go.Value renaming okWide→Yg
open Int renaming toNat_natCast→UM,natCast_nonneg→U9,eq_ofNat_of_zero_le→UL
open List renaming getElem?_eq_getElem→UB,cons_append→UU,nil_append→VF,append_nil→XL,length_map→XV,getElem?_map→Ue,length_cons→Uq,length_nil→X3,mem_of_getElem?→XD,getElem?_range→WA,mem_cons_self→Uk,mem_cons_of_mem→Ul,mem_append_left→V5
open Option renaming map_some→VN
open Option.some renaming inj→TZ
namespace Go.Proofs.Sai
section
open Go
theorem JY (l:List Vr) (hl:l.length≤1000): ∃b:Bool,Ok 41 [.c (.aY (l.map Vr.e))] (.c (.bool b)):=by
 obtain ⟨j,os,⟨rfl,hj⟩,hL⟩:=cX (aY:=l) (enc:=fun k (_:Unit)=>[.aY (l.map Vr.e),.int .i64 k]) (I:=fun _ _=>True) (Q:=fun j os=>os=[]∧j≤1) It (fun _ _=>rfl)
  (fun k u x hk _ hx=>by
   have w:=bm hk (by omega)
   have e1:(k:Int)<l.length:=by omega
   have hx':l[k]? =some x:=by rw [UB hk,hx]
   unfold tI
   simp only [aM,aF,UU,VF,XL,ah,bc,aR,ae,ag,az,XV,aB,aC,aK,aO,aL,aG,au,aw,aD,aN,aI,aq,UM,Ue,VN,an,ar,eS,eT,eL,aU,eF,ak,aj,mj,Vr.e,hx',if_pos e1,if_pos (U9 k)]
   refine aT (fun _=>aH (.exit 0 []) (by simp) (.inl ⟨_,_,rfl,rfl,by omega⟩)) (fun _=>aT (fun _=>aH (.exit 0 []) (by simp) (.inl ⟨_,_,rfl,rfl,by omega⟩)) (fun _=>?_))
   exact aH (.next [.aY (l.map Vr.e),.int .i64 ((k+1:Nat):Int)]) (by simp [w,Vr.e]) (.inr ⟨(),rfl,trivial⟩))
  (fun u _=>aH (.exit 1 []) (by simp [tI]) ⟨_,_,rfl,rfl,by omega⟩) () trivial
 obtain ⟨r,⟨b,rfl⟩,h⟩:=kQ (l:=[.aY (l.map Vr.e)]) (R:=fun r=>∃b:Bool,r= .c (.bool b)) (ds:=[.c (.aY (l.map Vr.e))]) QN (by simp) (by simp) (by
  unfold Ml
  refine aP rfl hL (by simp) ?_
  match j,hj with
  |0,_=>simp only [ay,Uq,X3,true_and];exact aH (.ret (.c (.bool true))) (by simp) ⟨_,rfl,_,rfl⟩
  |1,_=>simp only [aS,ay,Uq,X3,true_and];exact aH (.ret (.c (.bool false))) (by simp) ⟨_,rfl,_,rfl⟩)
 exact ⟨b,h⟩
theorem JZ (l:List Sg) (hl:l.length≤1000) (T i i' s n f b q:D): ∃j os,((j=0∧os.length=4)∨(j=1∧os=[T,i,i',s,n,f,.aY (l.map Sg.e),b,q]))∧Is lH [T,i,.int .i64 0,i',s,n,f,.aY (l.map Sg.e),b,q] j os:=
 cX (aY:=l) (enc:=fun k (_:Unit)=>[T,i,.int .i64 k,i',s,n,f,.aY (l.map Sg.e),b,q]) (I:=fun _ _=>True) (Q:=fun j os=>(j=0∧os.length=4)∨(j=1∧os=[T,i,i',s,n,f,.aY (l.map Sg.e),b,q])) CD (fun _ _=>rfl)
  (fun k u x hk _ hx=>by
   have w:=bm hk (by omega)
   have e1:(k:Int)<l.length:=by omega
   have hx':l[k]? =some x:=by rw [UB hk,hx]
   unfold ng
   simp only [aM,aF,UU,VF,XL,ah,bc,aR,ae,ag,az,XV,aB,aC,aK,aO,aL,aG,au,aw,aD,aN,aI,aq,UM,Ue,VN,an,ar,eS,eT,eL,aU,eF,ak,aj,mj,Sg.e,hx',if_pos e1,if_pos (U9 k)]
   have out: ∀{t':PT} {l':List D},W [(41,none)] [] t' l' (fun o=>o= .exit 0 [q,s,f,.aY (l.map Sg.e)])→W [(41,none)] [] t' l' fun o=>(∃j os,o= .exit j os∧((j=0∧os.length=4)∨(j=1∧os=[T,i,i',s,n,f,.aY (l.map Sg.e),b,q])))∨∃b':Unit,o= .next [T,i,.int .i64 ((k+1:Nat):Int),i',s,n,f,.aY (l.map Sg.e),b,q]∧True:=fun h=>aH _ h (.inl ⟨_,_,rfl,.inl ⟨rfl,rfl⟩⟩)
   refine aT (fun _=>out (by simp [Sg.e])) (fun _=>aT (fun _=>out (by simp [Sg.e])) (fun _=>aT (fun _=>out (by simp [Sg.e])) (fun hp=>?_)))
   obtain ⟨bb,hb⟩:=JY x.p (by omega)
   refine ab rfl hb (by simp [hx',Sg.e]) (by simp) (by simp) (by simp) ?_
   simp only [aM,aF,UU,VF,XL,ah,bc,aR,ae,ag,az,XV,aB,aC,aK,aO,aL,aG,au,aw,aD,aN,aI,aq,UM,Ue,VN,an,ar,eS,eT,eL,aU,eF,ak,aj]
   cases bb
   ·simp only [al]
    exact aH (.next [T,i,.int .i64 ((k+1:Nat):Int),i',s,n,f,.aY (l.map Sg.e),b,q]) (by simp [w,Sg.e]) (.inr ⟨(),rfl,trivial⟩)
   ·simp only [aE]
    exact out (by simp [Sg.e]))
  (fun u _=>aH (.exit 1 [T,i,i',s,n,f,.aY (l.map Sg.e),b,q]) (by simp [ng]) ⟨_,_,rfl,.inr ⟨rfl,rfl⟩⟩) () trivial
theorem J0 (t:List Cl): ∃j os,((j=0∧os=[])∨(j=1∧os=[eT t]))∧Is CE [eT t,.int .i64 0] j os:=
 Nb (enc:=fun k:Nat=>[eT t,.int .i64 k]) (I:=fun k=>k≤10) (μ:=fun k=>10 - k) (Q:=fun _ j os=>(j=0∧os=[])∨(j=1∧os=[eT t])) IA
  (fun k hI=>⟨rfl,by
   have w:IntKind.i64.wrap ((k:Int)+1)=((k+1:Nat):Int):=by rw [U5 _ (by omega)];omega
   unfold AM
   simp only [aM,aF,UU,VF,XL,ah,bc,aR,ae,ag,az,XV,aB,aC,aK,aO,aL,aG,au,aw,aD,aN,aI,aq,UM,Ue,VN,an,ar,eS,eT,eL,aU,eF,ak,aj,mj]
   refine aT (fun h1=>aT (fun h2=>?_) (fun _=>?_)) (fun _=>?_)
   case refine_2=>exact aH (.exit 1 [eT t]) (by simp [eT]) (.inl ⟨_,_,rfl,.inr ⟨rfl,rfl⟩⟩)
   case refine_3=>exact aH (.exit 1 [eT t]) (by simp [eT]) (.inl ⟨_,_,rfl,.inr ⟨rfl,rfl⟩⟩)
   have hx:t[k]? =some (t[k]'(by omega)):=UB _
   generalize (t[k]'(by omega))=c at hx
   simp only [hx,Cl.e,VN,aq,an,ar,mj,aK,az,XV,aj,if_pos (U9 k)]
   have out: ∀{t':PT} {l':List D},W [(41,none)] [lH] t' l' (fun o=>o= .exit 0 [])→W [(41,none)] [lH] t' l' fun o=>(∃j os,o= .exit j os∧((j=0∧os=[])∨(j=1∧os=[eT t])))∨∃a',o= .next [eT t,.int .i64 (a':Nat)]∧a'≤10∧10 - a'<10 - k∧∀j os,((j=0∧os=[])∨(j=1∧os=[eT t]))→((j=0∧os=[])∨(j=1∧os=[eT t])):=fun h=>aH _ h (.inl ⟨_,_,rfl,.inl ⟨rfl,rfl⟩⟩)
   refine aT (fun _=>out (by simp)) (fun _=>aT (fun _=>out (by simp)) (fun _=>aT (fun _=>out (by simp)) (fun h3=>aT (fun _=>out (by simp)) (fun h4=>?_))))
   obtain ⟨bb,hb⟩:=JY c.f (by omega)
   refine ab rfl hb (by simp [hx,Cl.e]) (by simp) (by simp) (by simp) ?_
   simp only [aM,aF,UU,VF,XL,ah,bc,aR,ae,ag,az,XV,aB,aC,aK,aO,aL,aG,au,aw,aD,aN,aI,aq,UM,Ue,VN,an,ar,eS,eT,eL,aU,eF,ak,aj]
   cases bb
   case true=>simp only [aE];exact out (by simp)
   simp only [al]
   obtain ⟨j,os,hj,hL⟩:=JZ c.m (by omega) (eT t) (.int .i64 k) (.int .i64 k) (.str c.s) (.int .i64 c.s.length) (.aY (c.f.map Vr.e)) (.bool false) (.str c.n)
   refine aP rfl hL (by simp [eT,hx,Cl.e]) ?_
   rcases hj with ⟨rfl,hos⟩ |⟨rfl,rfl⟩
   ·match os,hos with
    |[_,_,_,_],_=>simp only [ay,Uq,X3,true_and];exact out (by simp)
   ·simp only [aS,ay,Uq,X3,true_and]
    exact aH (.next [eT t,.int .i64 ((k+1:Nat):Int)]) (by simp [w]) (.inr ⟨k+1,rfl,by omega,by omega,fun _ _ h=>h⟩)⟩) 0 (by omega)
theorem Pr (t:List Cl): ∃b:Bool,Ok 22 [.c (eT t)] (.c (.bool b)):=by
 obtain ⟨r,⟨b,rfl⟩,h⟩:=kQ (l:=[eT t]) (R:=fun r=>∃b:Bool,r= .c (.bool b)) (ds:=[.c (eT t)]) QU (by simp) (by simp) (by
  unfold Ms
  obtain ⟨j,os,hj,hL⟩:=J0 t
  refine aP rfl hL (by simp) ?_
  rcases hj with ⟨rfl,rfl⟩ |⟨rfl,rfl⟩
  ·simp only [ay,Uq,X3,true_and];exact aH (.ret (.c (.bool true))) (by simp) ⟨_,rfl,_,rfl⟩
  ·simp only [aS,ay,Uq,X3,true_and];exact aH (.ret (.c (.bool (decide ((9:Int)<t.length))))) (by simp [eT]) ⟨_,rfl,_,rfl⟩)
 exact ⟨b,h⟩
theorem J1 (l:List bo) (hl:l.length≤120) (T S F:D): ∃j os,((j=0∧os=[T,S,eL l,F])∨(j=1∧∃n:Int,os=[.int .i64 n,T,S,eL l,F]))∧Is tJ [.int .i64 0,.int .i64 0,T,S,eL l,F] j os:=
 cX (aY:=l) (enc:=fun k (n:Int)=>[.int .i64 n,.int .i64 k,T,S,eL l,F]) (I:=fun _ _=>True) (Q:=fun j os=>(j=0∧os=[T,S,eL l,F])∨(j=1∧∃n:Int,os=[.int .i64 n,T,S,eL l,F])) Iv (fun _ _=>rfl)
  (fun k n x hk _ hx=>by
   have w:=bm hk (by omega)
   have e1:(k:Int)<l.length:=by omega
   have hx':l[k]? =some x:=by rw [UB hk,hx]
   unfold tK
   simp only [aM,aF,UU,VF,XL,ah,bc,aR,ae,ag,az,XV,aB,aC,aK,aO,aL,aG,au,aw,aD,aN,aI,aq,UM,Ue,VN,an,ar,eS,eT,eL,aU,eF,ak,aj,mj,hx',if_pos e1,if_pos (U9 k)]
   refine aT (fun _=>aH (.exit 0 [T,S,eL l,F]) (by simp [eL,eS]) (.inl ⟨_,_,rfl,.inl ⟨rfl,rfl⟩⟩)) (fun _=>?_)
   exact aH (.next [.int .i64 (IntKind.i64.wrap (n+x.length)),.int .i64 ((k+1:Nat):Int),T,S,eL l,F]) (by simp [w,eL,eS,hx']) (.inr ⟨_,rfl,trivial⟩))
  (fun n _=>aH (.exit 1 [.int .i64 n,T,S,eL l,F]) (by simp [tK,eL]) ⟨_,_,rfl,.inr ⟨rfl,n,rfl⟩⟩) 0 trivial
theorem J2 (l:List Fu) (hl:l.length≤40) (z:Int) (T S P:D): ∃j os,((j=0∧os=[T,S,P,eF l])∨(j=1∧(∀g∈l,g.l.length≤60)∧os=[.int .i64 z,T,S,P,eF l]))∧Is tN [.int .i64 z,.int .i64 0,.int .i64 0,T,S,P,eF l] j os:=
 cX (aY:=l) (enc:=fun k (n:Int)=>[.int .i64 z,.int .i64 n,.int .i64 k,T,S,P,eF l]) (I:=fun k _=>∀(i:Nat) (g:Fu),i<k→l[i]? =some g→g.l.length≤60) (Q:=fun j os=>(j=0∧os=[T,S,P,eF l])∨(j=1∧(∀g∈l,g.l.length≤60)∧os=[.int .i64 z,T,S,P,eF l])) Iw (fun _ _=>rfl)
  (fun k n x hk hI hx=>by
   have w:=bm hk (by omega)
   have e1:(k:Int)<l.length:=by omega
   have hx':l[k]? =some x:=by rw [UB hk,hx]
   unfold tO
   simp only [aM,aF,UU,VF,XL,ah,bc,aR,ae,ag,az,XV,aB,aC,aK,aO,aL,aG,au,aw,aD,aN,aI,aq,UM,Ue,VN,an,ar,eS,eT,eL,aU,eF,ak,aj,Fu.e,eN,hx',if_pos e1,if_pos (U9 k)]
   refine aT (fun _=>aH (.exit 0 [T,S,P,eF l]) (by simp [eF,Fu.e]) (.inl ⟨_,_,rfl,.inl ⟨rfl,rfl⟩⟩)) (fun h1=>aT (fun _=>aH (.exit 0 [T,S,P,eF l]) (by simp [eF,Fu.e]) (.inl ⟨_,_,rfl,.inl ⟨rfl,rfl⟩⟩)) (fun _=>?_))
   refine aH (.next [.int .i64 z,.int .i64 (IntKind.i64.wrap (n+x.k.length)),.int .i64 ((k+1:Nat):Int),T,S,P,eF l]) (by simp [w,eF,Fu.e,hx']) (.inr ⟨_,rfl,fun i g hi hg=>?_⟩)
   by_cases hik:i=k
   ·subst hik
    rw [hx'] at hg
    rw [←TZ hg];omega
   ·exact hI i g (by omega) hg)
  (fun n hI=>aH (.exit 1 [.int .i64 z,T,S,P,eF l]) (by simp [tO,eF]) ⟨_,_,rfl,.inr ⟨rfl,fun g hg=>by
   obtain ⟨i,hi,rfl⟩:=List.mem_iff_getElem.1 hg
   exact hI i _ hi (UB hi),rfl⟩⟩) 0 (fun i g h=>absurd h (by omega))
theorem RU (m:Mo): ∃b:Bool,(b=false→m.f.length≤40∧Nc m)∧Ok 7 [.agg m.e] (.c (.bool b)):=by
 obtain ⟨r,⟨b,hb,rfl⟩,h⟩:=kQ (l:=[eT m.t,aU m.s,eL m.p,eF m.f]) (R:=fun r=>∃b:Bool,(b=false→m.f.length≤40∧Nc m)∧r= .c (.bool b)) (ds:=[.agg m.e]) S8 (by simp [Mo.e,eT,aU,eL,eF]) (by simp) (by
  have yes: ∀{t':PT} {l':List D},W [(22,none)] [tJ,tN] t' l' (fun o=>o= .ret (.c (.bool true)))→W [(22,none)] [tJ,tN] t' l' fun o=>∃r,o= .ret r∧∃b:Bool,(b=false→m.f.length≤40∧Nc m)∧r= .c (.bool b):=fun h=>aH _ h ⟨_,rfl,true,(fun h=>nomatch h),rfl⟩
  unfold QO
  obtain ⟨b,hb⟩:=Pr m.t
  refine ab rfl hb (by simp) (by simp) (by simp) (by simp) ?_
  simp only [aM,aF,UU,VF,XL,ah,bc,aR,ae,ag,az,XV,aB,aC,aK,aO,aL,aG,au,aw,aD,aN,aI,aq,UM,Ue,VN,an,ar,eS,eT,eL,aU,eF,ak,aj]
  cases b
  case true=>simp only [aE];exact yes (by simp)
  simp only [al]
  refine aT (fun _=>yes (by simp)) (fun h1=>aT (fun _=>yes (by simp)) (fun h2=>aT (fun _=>yes (by simp)) (fun h3=>?_)))
  obtain ⟨j,os,hj,hL⟩:=J1 m.p (by omega) (eT m.t) (aU m.s) (eF m.f)
  refine aP rfl hL (by simp [eT,aU,eL,eF]) ?_
  rcases hj with ⟨rfl,rfl⟩ |⟨rfl,n,rfl⟩
  ·simp only [ay,Uq,X3,true_and];exact yes (by simp)
  simp only [aS,ay,Uq,X3,true_and]
  obtain ⟨j,os,hj,hL⟩:=J2 m.f (by omega) n (eT m.t) (aU m.s) (eL m.p)
  refine aP rfl hL (by simp) ?_
  rcases hj with ⟨rfl,rfl⟩ |⟨rfl,hl,rfl⟩
  ·simp only [ay,Uq,X3,true_and];exact yes (by simp)
  simp only [aS,ay,Uq,X3,true_and]
  exact aH (.ret (.c (.bool (decide (5000<n))))) (by simp) ⟨_,rfl,_,fun _=>⟨by omega,fun g hg=>by have:=hl g hg;omega⟩,rfl⟩)
 exact ⟨b,hb,h⟩
theorem Ps (a:Int) (n:Nat) (h0:0<n) (hn:n≤1000): ∃p:Nat,p<n∧Ok 17 [.c (.int .i64 a),.c (.int .i64 (n:Int))] (.c (.int .i64 (p:Int))):=by
 obtain ⟨r,⟨p,hp,rfl⟩,h⟩:=kQ (l:=[.int .i64 a,.int .i64 (n:Int)]) (R:=fun r=>∃p:Nat,p<n∧r= .c (.int .i64 (p:Int))) (ds:=[.c (.int .i64 a),.c (.int .i64 (n:Int))]) QR (by simp) (by simp) (by
  unfold Mp
  simp only [aM,aF,UU,VF,XL,ah,bc,aR,ae,ag,az,XV,aB,aC,aK,aO,aL,aG,au,aw,aD,aN,aI,aq,UM,Ue,VN,an,ar,eS,eT,eL,aU,eF,ak,aj,N8]
  rw [if_neg (by omega),if_pos (by omega)]
  have l1:a.tmod n<n:=Int.tmod_lt_of_pos a (by omega)
  have l2: -(n:Int)<a.tmod n:=by
   have h3:(a.tmod n).natAbs<n:=by
    have:=Int.natAbs_tmod a n
    have:=Nat.mod_lt a.natAbs (show 0<(n:Int).natAbs by omega)
    omega
   omega
  refine aT (fun h1=>?_) (fun h1=>?_)
  ·have w:IntKind.i64.wrap (a.tmod n+n)=a.tmod n+n:=U5 _ (by omega)
   have e:a.tmod n+n=(((a.tmod n+n).toNat:Nat):Int):=by omega
   exact aH (.ret (.c (.int .i64 (((a.tmod n+n).toNat:Nat):Int)))) (by simp [w];omega) ⟨_,rfl,(a.tmod n+n).toNat,by omega,rfl⟩
  ·exact aH (.ret (.c (.int .i64 (((a.tmod n).toNat:Nat):Int)))) (by simp;omega) ⟨_,rfl,(a.tmod n).toNat,by omega,rfl⟩)
 exact ⟨p,hp,h⟩
noncomputable def wG (m:Mo) (f:Nat):DV:=open Classical in if (ve m).1=0 then Kd m f else .gf [.c (cj []),.agg [.int .i64 (ve m).1,.int .i64 (ve m).2]]
@[simp] theorem Pt {s:vf}:bg [.bool,tL] (ew s)=True:=by simp [ew]
@[simp] theorem PX {S:List vf}:bA (.aY [.bool,tL]) (cj S)=True:=by
 unfold cj
 simp only [wy,List.mem_map,eq_iff_iff,iff_true]
 rintro r ⟨s,_,rfl⟩
 simp
theorem qp {m:Mo} (hm:wE m) {f:Nat} {g:Fu} (hg:m.f[f]? =some g): ∃(S:List vf) (w a:Int),Kd m f= .gf [.c (cj S),.agg [.int .i64 w,.int .i64 a]]∧(w=0→a=0∧RT m f g S)∧(w≠0→S=[]):=by
 rcases (C4 hm hg).1 with ⟨S,hC,h⟩ |⟨w,a,hw,h⟩
 ·exact ⟨S,0,0,h,fun _=>⟨rfl,hC⟩,fun h=>absurd rfl h⟩
 ·exact ⟨[],w,a,h,fun h=>absurd h hw,fun _=>rfl⟩
theorem Pu {m:Mo} (hl:Nc m) {f:Nat} (hf:f<m.f.length):Ok 13 [.agg m.e,.c (.int .i64 (f:Int))] (wG m f):=by
 obtain ⟨h1,hC⟩:=uE hl
 have hg:m.f[f]? =some m.f[f]:=UB hf
 refine nz (l:=[eT m.t,aU m.s,eL m.p,eF m.f,.int .i64 (f:Int)]) QQ (by simp [Mo.e,eT,aU,eL,eF]) (by simp) ?_
 unfold Mn wG
 refine ab rfl hC (by simp [Mo.e,eT,aU,eL,eF]) (by simp) (by simp) (by simp) ?_
 simp only [aM,aF,UU,VF,XL,ah,bc,aR,ae,ag,az,XV,aB,aC,aK,aO,aL,aG,au,aw,aD,aN,aI,aq,UM,Ue,VN,an,ar,eS,eT,eL,aU,eF,ak,aj]
 by_cases hc:(ve m).1=0
 case neg=>rw [if_neg hc,if_neg hc];simp [cj]
 rw [if_pos hc,if_pos hc,if_neg (by omega),if_neg (by omega)]
 obtain ⟨_,hm⟩:=h1 hc
 have hP:=(C4 hm hg).2
 obtain ⟨S,w,a,e,_,_⟩:=qp hm hg
 rw [e] at hP⊢
 refine ab rfl hP (by simp [Mo.e,eT,aU,eL,eF]) (by simp) (by simp) (by simp) ?_
 simp
theorem Pv {m:Mo} (hl:Nc m) (hn:m.f.length≤1000): ∃n w a:Int,(w=0→(ve m).1=0∧∀f:Nat,f<m.f.length→∃S,Kd m f= .gf [.c (cj S),.agg [.int .i64 0,.int .i64 0]])∧Ok 10 [.agg m.e] (.gf [.c (.int .i64 n),.agg [.int .i64 w,.int .i64 a]]):=by
 obtain ⟨h1,hC⟩:=uE hl
 obtain ⟨r,⟨n,w,a,hw,rfl⟩,h⟩:=kQ (l:=[eT m.t,aU m.s,eL m.p,eF m.f]) (R:=fun r=>∃n w a:Int,(w=0→(ve m).1=0∧∀f:Nat,f<m.f.length→∃S,Kd m f= .gf [.c (cj S),.agg [.int .i64 0,.int .i64 0]])∧r= .gf [.c (.int .i64 n),.agg [.int .i64 w,.int .i64 a]]) (ds:=[.agg m.e]) QP (by simp [Mo.e,eT,aU,eL,eF]) (by simp) (by
  unfold Mm
  refine ab rfl hC (by simp [Mo.e,eT,aU,eL,eF]) (by simp) (by simp) (by simp) ?_
  simp only [aM,aF,UU,VF,XL,ah,bc,aR,ae,ag,az,XV,aB,aC,aK,aO,aL,aG,au,aw,aD,aN,aI,aq,UM,Ue,VN,an,ar,eS,eT,eL,aU,eF,ak,aj]
  by_cases hc:(ve m).1=0
  case neg=>
   rw [if_neg hc]
   exact aH (.ret (.gf [.c (.int .i64 (-1)),.agg [.int .i64 (ve m).1,.int .i64 (ve m).2]])) (by simp) ⟨_,rfl,_,_,_,fun h=>absurd h hc,rfl⟩
  rw [if_pos hc]
  obtain ⟨_,hm⟩:=h1 hc
  obtain ⟨j,os,hj,hL⟩:=cX (aY:=m.f) (enc:=fun k (_:Unit)=>[eF m.f,.int .i64 k,eT m.t,aU m.s,eL m.p]) (I:=fun k _=>∀f:Nat,f<k→∃S,Kd m f= .gf [.c (cj S),.agg [.int .i64 0,.int .i64 0]])
   (Q:=fun j os=>(j=0∧∃n w a:Int,w≠0∧os=[.int .i64 n,eT m.t,aU m.s,eL m.p,eF m.f,.int .i64 w,.int .i64 a])∨(j=1∧os=[eT m.t,aU m.s,eL m.p,eF m.f]∧∀f:Nat,f<m.f.length→∃S,Kd m f= .gf [.c (cj S),.agg [.int .i64 0,.int .i64 0]])) Iy (fun _ _=>rfl)
   (fun k u g hk hI hx=>by
    have w:=bm hk (by omega)
    have e1:(k:Int)<m.f.length:=by omega
    have hx':m.f[k]? =some g:=by rw [UB hk,hx]
    unfold tP
    have hP:=(C4 hm hx').2
    obtain ⟨S,w',a,e,h2,_⟩:=qp hm hx'
    rw [e] at hP
    simp only [ah,bc,aR,ae,ag,eF,az,XV,aB,aj,if_pos e1]
    refine ab rfl hP (by simp [Mo.e,eT,aU,eL,eF]) (by simp) (by simp) (by simp) ?_
    simp only [aM,aF,UU,VF,XL,ah,bc,aR,ae,ag,az,XV,aB,aC,aK,aO,aL,aG,au,aw,aD,aN,aI,aq,UM,Ue,VN,an,ar,eS,eT,eL,aU,eF,ak,aj]
    by_cases hw:w'=0
    case neg=>
     rw [if_neg hw]
     exact aH (.exit 0 [.int .i64 k,eT m.t,aU m.s,eL m.p,eF m.f,.int .i64 w',.int .i64 a]) (by simp [eT,aU,eL,eF]) (.inl ⟨_,_,rfl,.inl ⟨rfl,_,_,_,hw,rfl⟩⟩)
    rw [if_pos hw]
    refine aH (.next [eF m.f,.int .i64 ((k+1:Nat):Int),eT m.t,aU m.s,eL m.p]) (by simp [w,eT,aU,eL,eF]) (.inr ⟨(),rfl,fun f hf=>?_⟩)
    by_cases hfk:f=k
    ·subst hfk
     obtain ⟨ha,_⟩:=h2 hw
     rw [hw,ha] at e
     exact ⟨S,e⟩
    ·exact hI f (by omega))
   (fun u hI=>aH (.exit 1 [eT m.t,aU m.s,eL m.p,eF m.f]) (by simp [tP,eF]) ⟨_,_,rfl,.inr ⟨rfl,rfl,hI⟩⟩) () (fun f h=>absurd h (by omega))
  refine aP rfl hL (by simp [eT,aU,eL,eF]) ?_
  rcases hj with ⟨rfl,n,w,a,hw,rfl⟩ |⟨rfl,rfl,hA⟩
  ·simp only [ay,Uq,X3,true_and]
   exact aH (.ret (.gf [.c (.int .i64 n),.agg [.int .i64 w,.int .i64 a]])) (by simp) ⟨_,rfl,_,_,_,fun h=>absurd h hw,rfl⟩
  ·simp only [aS,ay,Uq,X3,true_and]
   exact aH (.ret (.gf [.c (.int .i64 0),.agg [.int .i64 0,.int .i64 0]])) (by simp) ⟨_,rfl,_,_,_,fun _=>⟨hc,hA⟩,rfl⟩)
 exact ⟨n,w,a,hw,h⟩
theorem J3 (t:List Cl) (a w:List bo) (h:gT t a w) (hl:a.length≤2000) (b:D):Is CC [eT t,eL a,.int .i64 0,b,eL w] 1 [b,eL w]:=by
 obtain ⟨j,os,⟨rfl,rfl⟩,hL⟩:=cX (aY:=a) (enc:=fun k (_:Unit)=>[eT t,eL a,.int .i64 k,b,eL w]) (I:=fun _ _=>True) (Q:=fun j os=>j=1∧os=[b,eL w]) Iz (fun _ _=>rfl)
  (fun k u x hk _ hx=>by
   have w':=bm hk (by omega)
   have e1:(k:Int)<a.length:=by omega
   have hx':a[k]? =some x:=by rw [UB hk,hx]
   have e2:(k:Int)<w.length:=by have:=h.1;omega
   have hy':w[k]? =some (w[k]'(by omega)):=UB _
   generalize (w[k]'(by omega))=y at hy'
   unfold tQ
   simp only [aM,aF,UU,VF,XL,ah,bc,aR,ae,ag,az,XV,aB,aC,aK,aO,aL,aG,au,aw,aD,aN,aI,aq,UM,Ue,VN,an,ar,eS,eT,eL,aU,eF,ak,aj,if_pos e1,if_pos e2,if_pos (U9 k)]
   refine ab rfl (kD t x y) (by simp [hx',hy',eT,eS,eL]) (by simp) (by simp) (by simp) ?_
   simp only [aM,aF,UU,VF,XL,ah,bc,aR,ae,ag,az,XV,aB,aC,aK,aO,aL,aG,au,aw,aD,aN,aI,aq,UM,Ue,VN,an,ar,eS,eT,eL,aU,eF,ak,aj,h.2 k x y hx' hy',X5,XQ,aE,al]
   exact aH (.next [eT t,eL a,.int .i64 ((k+1:Nat):Int),b,eL w]) (by simp [w',eT,eL]) (.inr ⟨(),rfl,trivial⟩))
  (fun u _=>aH (.exit 1 [b,eL w]) (by simp [tQ,eL]) ⟨_,_,rfl,rfl,rfl⟩) () trivial
 exact hL
theorem yx (t:List Cl) (a w:List bo) (h:gT t a w) (hl:a.length≤2000):Ok 21 [.c (eT t),.c (eL a),.agg [.bool true,eL w]] (.c (.bool true)):=by
 refine nz (l:=[eT t,eL a,.bool true,eL w]) QT (by simp) (by simp) ?_
 unfold Mr
 simp only [aM,aF,UU,VF,XL,ah,bc,aR,ae,ag,az,XV,aB,aC,aK,aO,aL,aG,au,aw,aD,aN,aI,aq,UM,Ue,VN,an,ar,eS,eT,eL,aU,eF,ak,aj,X5,XQ,aE,al,if_pos (show (a.length:Int)=w.length by rw [h.1])]
 refine aP rfl (J3 t a w h hl (.bool true)) (by simp [eT,eL]) ?_
 simp only [aS,ay,Uq,X3,true_and]
 simp
theorem Pw (l:List bo) (h:l.length≤2000):Is Ti [eL l] 0 [eL l]:=by
 refine iz Ry rfl ?_
 have e1:((l.length:Nat):Int)≤100000000:=by omega
 unfold M8
 simp only [aM,aF,UU,VF,XL,ah,bc,aR,ae,ag,az,XV,aB,aC,aK,aO,aL,aG,au,aw,aD,aN,aI,aq,UM,Ue,VN,an,ar,eS,eT,eL,aU,eF,ak,aj,if_pos e1]
 refine aT (fun _=>by simp [eL]) (fun h0=>?_)
 have:l=[]:=List.eq_nil_of_length_eq_zero (by omega)
 subst this
 simp [eL]
theorem Px (t:List Cl) (st pops:List bo) (push:bo) (hp:nw t st pops) (hl:st.length≤1000):Is Rz [eT t,eL st,eL pops,.str push] 0 [eL (after st pops push)]:=by
 obtain ⟨hpl,hp⟩:=hp
 have wn:IntKind.i64.wrap ((st.length:Int) - pops.length)=((st.length - pops.length:Nat):Int):=by rw [U5 _ (by omega)];omega
 obtain ⟨j,os,⟨rfl,rfl⟩,hL⟩:=cX (aY:=pops) (enc:=fun k (_:Unit)=>[eT t,eL st,.int .i64 ((st.length - pops.length:Nat):Int),.int .i64 k,eL pops,.str push]) (I:=fun _ _=>True) (Q:=fun j os=>j=1∧os=[eL st,.int .i64 ((st.length - pops.length:Nat):Int),eL pops,.str push]) FR (fun _ _=>rfl)
  (fun k u x hk _ hx=>by
   have w':=bm hk (by omega)
   have e1:(k:Int)<pops.length:=by omega
   have hx':pops[k]? =some x:=by rw [UB hk,hx]
   have wk:IntKind.i64.wrap (((st.length - pops.length:Nat):Int)+k)=((k+st.length - pops.length:Nat):Int):=by rw [U5 _ (by omega)];omega
   have e2:((k+st.length - pops.length:Nat):Int)<st.length:=by omega
   have hy':st[k+st.length - pops.length]? =some (st[k+st.length - pops.length]'(by omega)):=UB _
   generalize (st[k+st.length - pops.length]'(by omega))=y at hy'
   have hs:=hp k x y hx' hy'
   unfold qj
   simp only [aM,aF,UU,VF,XL,ah,bc,aR,ae,ag,az,XV,aB,aC,aK,aO,aL,aG,au,aw,aD,aN,aI,aq,UM,Ue,VN,an,ar,eS,eT,eL,aU,eF,ak,aj,eN,hx',wk,if_pos e1,if_pos e2,if_pos (U9 _)]
   have fin: ∀{l':List D},W [(40,none)] [] (.next [.var 0,.var 1,.var 2,.op (.jg .add .i64) [.var 3,.int .i64 1],.var 4,.var 5]) ([eT t,eL st,.int .i64 ((st.length - pops.length:Nat):Int),.int .i64 k,eL pops,.str push]++l') fun o=>(∃i os,o= .exit i os∧i=1∧os=[eL st,.int .i64 ((st.length - pops.length:Nat):Int),eL pops,.str push])∨∃b':Unit,o= .next [eT t,eL st,.int .i64 ((st.length - pops.length:Nat):Int),.int .i64 ((k+1:Nat):Int),eL pops,.str push]∧True:=fun {l'}=>
    aH (.next [eT t,eL st,.int .i64 ((st.length - pops.length:Nat):Int),.int .i64 ((k+1:Nat):Int),eL pops,.str push]) (by simp [w']) (.inr ⟨(),rfl,trivial⟩)
   by_cases h42:x=[42]
   ·rw [if_pos h42];exact fin (l':=[])
   rw [if_neg h42]
   refine ab rfl (kD t y x) (by simp [hx',hy',wk,eT,eS,eL]) (by simp) (by simp) (by simp) ?_
   simp only [aM,aF,UU,VF,XL,ah,bc,aR,ae,ag,az,XV,aB,aC,aK,aO,aL,aG,au,aw,aD,aN,aI,aq,UM,Ue,VN,an,ar,eS,eT,eL,aU,eF,ak,aj,hs.resolve_left h42,X5,XQ,aE,al]
   exact fin (l':=[.bool true]))
  (fun u _=>aH (.exit 1 [eL st,.int .i64 ((st.length - pops.length:Nat):Int),eL pops,.str push]) (by simp [qj,eL]) ⟨_,_,rfl,rfl,rfl⟩) () trivial
 refine iz RA rfl ?_
 unfold M9
 simp only [aM,aF,UU,VF,XL,ah,bc,aR,ae,ag,az,XV,aB,aC,aK,aO,aL,aG,au,aw,aD,aN,aI,aq,UM,Ue,VN,an,ar,eS,eT,eL,aU,eF,ak,aj,wn,if_neg (show ¬((st.length - pops.length:Nat):Int)<0 by omega)]
 refine aP rfl hL (by simp [eT,eL,wn]) ?_
 simp only [aS,ay,Uq,X3,true_and]
 have e4:((st.length - pops.length:Nat):Int)≤st.length:=by omega
 simp only [aM,aF,UU,VF,XL,ah,bc,aR,ae,ag,az,XV,aB,aC,aK,aO,aL,aG,au,aw,aD,aN,aI,aq,UM,Ue,VN,an,ar,eS,eT,eL,aU,eF,ak,aj,if_pos e4,if_pos (U9 _)]
 refine aP rfl (Pw (st.take (st.length - pops.length)) (by simp;omega)) (by simp [eL]) ?_
 simp only [ay,Uq,X3,true_and]
 have e5:(((st.take (st.length - pops.length)).length:Nat):Int)≤100000000:=by simp;omega
 simp only [aM,aF,UU,VF,XL,ah,bc,aR,ae,ag,az,XV,aB,aC,aK,aO,aL,aG,au,aw,aD,aN,aI,aq,UM,Ue,VN,an,ar,eS,eT,eL,aU,eF,ak,aj,if_pos e5]
 unfold after
 by_cases hpu:push=[]
 ·rw [if_pos hpu,if_pos hpu];simp [eL]
 ·rw [if_neg hpu,if_neg hpu];simp [eL,eS]
theorem F7 {st pops:List bo} {push:bo} (h:st.length≤1000):(after st pops push).length≤2000:=by
 unfold after
 split<;>simp<;>omega
theorem F8 {m:Mo} (hl:Nc m) (hc:(ve m).1=0) {f:Nat} {g:Fu} (hg:m.f[f]? =some g) {S:List vf} (hC:RT m f g S) (ok:D):Is rI [ok,.int .i64 (f:Int),cj S,eK g.k,.int .i64 0,eT m.t,aU m.s,eL m.p,eF m.f] 1 [ok,eT m.t,aU m.s,eL m.p,eF m.f]:=by
 obtain ⟨hf,hgf⟩:=List.getElem?_eq_some_iff.1 hg
 have hm:=((uE hl).1 hc).2
 have hkl:=(hm.f g (XD hg)).k
 obtain ⟨j,os,⟨rfl,rfl⟩,hL⟩:=cX (aY:=S) (enc:=fun k (_:Unit)=>[ok,.int .i64 (f:Int),cj S,eK g.k,.int .i64 k,eT m.t,aU m.s,eL m.p,eF m.f]) (I:=fun _ _=>True) (Q:=fun j os=>j=1∧os=[ok,eT m.t,aU m.s,eL m.p,eF m.f]) FT (fun _ _=>rfl)
  (fun k u s hk _ hs=>by
   have hkl':=hC.len
   have w':=bm hk (by omega)
   have e1:(k:Int)<S.length:=by omega
   have hs:S[k]? =some s:=by rw [UB hk,hs]
   have hx:g.k[k]? =some (g.k[k]'(by omega)):=UB _
   generalize (g.k[k]'(by omega))=x at hx
   have e2:(k:Int)<g.k.length:=by omega
   obtain ⟨b,st⟩:=s
   have go: ∀{t':PT} {l':List D},W [(19,none),(21,none)] [Rz] t' l' (fun o=>o= .next [ok,.int .i64 (f:Int),cj S,eK g.k,.int .i64 ((k+1:Nat):Int),eT m.t,aU m.s,eL m.p,eF m.f])→W [(19,none),(21,none)] [Rz] t' l' fun o=>(∃i os,o= .exit i os∧i=1∧os=[ok,eT m.t,aU m.s,eL m.p,eF m.f])∨∃b':Unit,o= .next [ok,.int .i64 (f:Int),cj S,eK g.k,.int .i64 ((k+1:Nat):Int),eT m.t,aU m.s,eL m.p,eF m.f]∧True:=fun h=>aH _ h (.inr ⟨(),rfl,trivial⟩)
   unfold qk
   simp only [aM,aF,UU,VF,XL,ah,bc,aR,ae,ag,az,XV,aB,aC,aK,aO,aL,aG,au,aw,aD,aN,aI,aq,UM,Ue,VN,an,ar,eS,eT,eL,aU,eF,ak,aj,cj,eK,ew,hs,if_pos e1,if_pos (U9 _)]
   cases b
   ·simp only [X5,XQ,aE,al]
    exact go (by simp [w',cj,eK,eT,aU,eL,eF,ew])
   simp only [X5,XQ,aE,al,if_pos e2]
   obtain ⟨⟨he,hp,hd,hsl⟩,hT⟩:=hC.c k x st hx hs
   have hE:=Pm hl hc hf x
   have hQ:=Px m.t st (told m f x).1 (told m f x).2.1 hp hsl
   have hal:=F7 (pops:=(told m f x).1) (push:=(told m f x).2.1) hsl
   generalize hr:told m f x=r at he hE hQ hal hd hT
   obtain ⟨pops,push,e⟩:=r
   simp only at he hE hQ hal hd hT
   subst he
   generalize after st pops push=af at hQ hal hd hT
   obtain ⟨xo,xa,xb,xc⟩:=x
   simp only [In.e] at hE
   simp only [targets] at hT hd
   have hn:True:=trivial
   refine ab rfl hE (by simp [eT,aU,eL,eF,eK,cj,eS,ew,Mo.e,In.e,hx,hs,hn]) (by simp) (by simp) (by simp) ?_
   simp only [aM,aF,UU,VF,XL,ah,bc,aR,ae,ag,az,XV,aB,aC,aK,aO,aL,aG,au,aw,aD,aN,aI,aq,UM,Ue,VN,an,ar,eS,eT,eL,aU,eF,ak,aj,if_true,ite_true]
   refine aP rfl hQ (by simp [eT,aU,eL,eF,eK,cj,eS,ew,Mo.e,In.e,hx,hs,hn]) ?_
   simp only [ay,Uq,X3,true_and]
   simp only [aM,aF,UU,VF,XL,ah,bc,aR,ae,ag,az,XV,aB,aC,aK,aO,aL,aG,au,aw,aD,aN,aI,aq,UM,Ue,VN,an,ar,eS,eT,eL,aU,eF,ak,aj,hx,In.e]
   by_cases h11:xo=11
   ·subst h11
    simp only [if_true,ite_true,if_pos rfl]
    refine ab rfl hE (by simp [eT,aU,eL,eF,eK,cj,eS,ew,Mo.e,In.e,hx,hs,hn]) (by simp) (by simp) (by simp) ?_
    simp only [aM,aF,UU,VF,XL,ah,bc,aR,ae,ag,az,XV,aB,aC,aK,aO,aL,aG,au,aw,aD,aN,aI,aq,UM,Ue,VN,an,ar,eS,eT,eL,aU,eF,ak,aj,if_true,ite_true]
    refine aP rfl hQ (by simp [eT,aU,eL,eF,eK,cj,eS,ew,Mo.e,In.e,hx,hs,hn]) ?_
    simp only [ay,Uq,X3,true_and]
    simp only [aM,aF,UU,VF,XL,ah,bc,aR,ae,ag,az,XV,aB,aC,aK,aO,aL,aG,au,aw,aD,aN,aI,aq,UM,Ue,VN,an,ar,eS,eT,eL,aU,eF,ak,aj,hx,In.e]
    simp only [if_true,ite_true,if_pos rfl,if_neg (show ¬(11:Int)=28 by omega),if_neg (show ¬(11:Int)=12 by omega)] at hT
    obtain ⟨hq,w,hsw,hfw⟩:=hT xa.toNat (by simp)
    have hx0:=(yt hm hg ⟨11,xa,xb,xc⟩).2.2
    rw [hr] at hx0
    obtain ⟨a,rfl⟩:=UL (hx0 rfl (by simp)).1
    simp only [UM] at hq hsw
    have ea:(a:Int)<S.length:=by omega
    rw [if_neg (by omega),if_neg (by omega)]
    simp only [if_pos ea,if_pos (U9 _)]
    refine ab rfl (yx m.t af w hfw hal) (by simp [eT,aU,eL,eF,eK,cj,eS,ew,In.e,hx,hsw]) (by simp) (by simp) (by simp) ?_
    simp only [aM,aF,UU,VF,XL,ah,bc,aR,ae,ag,az,XV,aB,aC,aK,aO,aL,aG,au,aw,aD,aN,aI,aq,UM,Ue,VN,an,ar,eS,eT,eL,aU,eF,ak,aj,X5,XQ,aE,al]
    exact go (by simp [w',cj,eK,eT,aU,eL,eF,ew,eS,In.e])
   simp only [if_neg h11]
   by_cases h28:xo=28
   ·subst h28
    simp only [if_true,ite_true,if_pos rfl]
    refine ab rfl hE (by simp [eT,aU,eL,eF,eK,cj,eS,ew,Mo.e,In.e,hx,hs,hn]) (by simp) (by simp) (by simp) ?_
    simp only [aM,aF,UU,VF,XL,ah,bc,aR,ae,ag,az,XV,aB,aC,aK,aO,aL,aG,au,aw,aD,aN,aI,aq,UM,Ue,VN,an,ar,eS,eT,eL,aU,eF,ak,aj,if_true,ite_true]
    refine aP rfl hQ (by simp [eT,aU,eL,eF,eK,cj,eS,ew,Mo.e,In.e,hx,hs,hn]) ?_
    simp only [ay,Uq,X3,true_and]
    have:=hd rfl
    subst this
    simp only [aM,aF,UU,VF,XL,ah,bc,aR,ae,ag,az,XV,aB,aC,aK,aO,aL,aG,au,aw,aD,aN,aI,aq,UM,Ue,VN,an,ar,eS,eT,eL,aU,eF,ak,aj,hx,In.e]
    rw [if_neg (by simp)]
    exact go (by simp [w',cj,eK,eT,aU,eL,eF,ew,eS,In.e])
   simp only [if_neg h28] at hT⊢
   have hT1:k+1<g.k.length∧∃w,S[k+1]? =some (true,w)∧gT m.t af w:=by
    by_cases h12:xo=12
    ·exact hT (k+1) (by simp [h11,h12])
    ·exact hT (k+1) (by simp [h11,h12])
   obtain ⟨hk1,w,hsw,hfw⟩:=hT1
   have e3:((k+1:Nat):Int)<S.length:=by omega
   simp only [aM,aF,UU,VF,XL,ah,bc,aR,ae,ag,az,XV,aB,aC,aK,aO,aL,aG,au,aw,aD,aN,aI,aq,UM,Ue,VN,an,ar,eS,eT,eL,aU,eF,ak,aj,eN,w',if_pos e3,if_pos (U9 _)]
   rw [if_neg (by omega)]
   refine ab rfl (yx m.t af w hfw hal) (by simp [eT,aU,eL,eF,eK,cj,eS,ew,In.e,hx,hsw,w']) (by simp) (by simp) (by simp) ?_
   simp only [aM,aF,UU,VF,XL,ah,bc,aR,ae,ag,az,XV,aB,aC,aK,aO,aL,aG,au,aw,aD,aN,aI,aq,UM,Ue,VN,an,ar,eS,eT,eL,aU,eF,ak,aj,X5,XQ,aE,al,hx,In.e]
   by_cases h12:xo=12
   ·subst h12
    rw [if_pos rfl]
    refine ab rfl hE (by simp [eT,aU,eL,eF,eK,cj,eS,ew,Mo.e,In.e,hx,hs,hn]) (by simp) (by simp) (by simp) ?_
    simp only [aM,aF,UU,VF,XL,ah,bc,aR,ae,ag,az,XV,aB,aC,aK,aO,aL,aG,au,aw,aD,aN,aI,aq,UM,Ue,VN,an,ar,eS,eT,eL,aU,eF,ak,aj,if_true,ite_true]
    refine aP rfl hQ (by simp [eT,aU,eL,eF,eK,cj,eS,ew,Mo.e,In.e,hx,hs,hn]) ?_
    simp only [ay,Uq,X3,true_and]
    refine ab rfl (yx m.t af w hfw hal) (by simp [eT,aU,eL,eF,eK,cj,eS,ew,In.e,hx,hsw,w']) (by simp) (by simp) (by simp) ?_
    simp only [aM,aF,UU,VF,XL,ah,bc,aR,ae,ag,az,XV,aB,aC,aK,aO,aL,aG,au,aw,aD,aN,aI,aq,UM,Ue,VN,an,ar,eS,eT,eL,aU,eF,ak,aj,X5,XQ,aE,al,hx,In.e]
    clear hsw hfw w
    simp only [if_true,ite_true,if_pos rfl,if_neg (show ¬(12:Int)=11 by omega)] at hT
    obtain ⟨hq,w,hsw,hfw⟩:=hT xa.toNat (by simp)
    have hx0:=(yt hm hg ⟨12,xa,xb,xc⟩).2.2
    rw [hr] at hx0
    obtain ⟨a,rfl⟩:=UL (hx0 rfl (by simp)).1
    simp only [UM] at hq hsw
    have ea:(a:Int)<S.length:=by omega
    rw [if_neg (by omega),if_neg (by omega)]
    simp only [if_pos ea,if_pos (U9 _)]
    refine ab rfl (yx m.t af w hfw hal) (by simp [eT,aU,eL,eF,eK,cj,eS,ew,In.e,hx,hsw]) (by simp) (by simp) (by simp) ?_
    simp only [aM,aF,UU,VF,XL,ah,bc,aR,ae,ag,az,XV,aB,aC,aK,aO,aL,aG,au,aw,aD,aN,aI,aq,UM,Ue,VN,an,ar,eS,eT,eL,aU,eF,ak,aj,X5,XQ,aE,al]
    exact go (by simp [w',cj,eK,eT,aU,eL,eF,ew,eS,In.e])
   rw [if_neg h12]
   exact go (by simp [w',cj,eK,eT,aU,eL,eF,ew,eS,In.e]))
  (fun u _=>aH (.exit 1 [ok,eT m.t,aU m.s,eL m.p,eF m.f]) (by simp [qk,cj]) ⟨_,_,rfl,rfl,rfl⟩) () trivial
 exact hL
theorem RV (m:Mo) (which:Int) (h18:Ok 18 [] (.c (.bool true))):Ok 6 [.agg m.e,.c (.int .i64 which)] (.c (.bool true)):=by
 refine nz (l:=[eT m.t,aU m.s,eL m.p,eF m.f,.int .i64 which]) Tj (by simp [Mo.e,eT,aU,eL,eF]) (by simp) ?_
 unfold RB
 refine ab rfl h18 (by simp) (by simp) (by simp) (by simp) ?_
 obtain ⟨b,hb,h7⟩:=RU m
 refine ab rfl h7 (by simp [Mo.e,eT,aU,eL,eF]) (by simp) (by simp) (by simp) ?_
 simp only [aM,aF,UU,VF,XL,ah,bc,aR,ae,ag,az,XV,aB,aC,aK,aO,aL,aG,au,aw,aD,aN,aI,aq,UM,Ue,VN,an,ar,eS,eT,eL,aU,eF,ak,aj]
 cases b
 case true=>simp only [aE];simp
 simp only [al]
 obtain ⟨hn,hl⟩:=hb rfl
 by_cases h0:(m.f.length:Int)=0
 ·rw [if_pos h0];simp
 rw [if_neg h0]
 obtain ⟨f,hf,h17⟩:=Ps which m.f.length (by omega) (by omega)
 refine ab rfl h17 (by simp [eF]) (by simp) (by simp) (by simp) ?_
 have h13:=Pu hl hf
 have hg:m.f[f]? =some m.f[f]:=UB hf
 generalize m.f[f]=g at hg
 have key:(wG m f= .gf [.c (cj []),.agg [.int .i64 (ve m).1,.int .i64 (ve m).2]]∧(ve m).1≠0)∨((ve m).1=0∧wG m f=Kd m f):=by
  unfold wG
  by_cases hc:(ve m).1=0
  ·exact .inr ⟨hc,if_pos hc⟩
  ·exact .inl ⟨if_neg hc,hc⟩
 have bad: ∀w a:Int,wG m f= .gf [.c (cj []),.agg [.int .i64 w,.int .i64 a]]→w≠0→W [(18,none),(7,none),(17,none),(13,none),(10,none)] [rI] (.call 4 [.agg [.tm tT (.var 0),.tm tS (.var 1),.tm tL (.var 2),.tm tF (.var 3)]] (.tuple [.tm (.int .i64) (.var 11),.agg [.tm (.int .i64) (.var 12),.tm (.int .i64) (.var 13)]]) 3
  (.split (.var 5)
   (.split (.op (.cmp .eql) [.op .len [.var 8],.int .i64 0])
    (.ret (.tm .bool (.op (.cmp .neq) [.var 12,.int .i64 0])))
    (.ret (.bool false)))
   (.ret (.bool false)))) [eT m.t,aU m.s,eL m.p,eF m.f,.int .i64 which,.bool true,.bool false,.int .i64 (f:Int),cj [],.int .i64 w,.int .i64 a] (fun o=>o= .ret (.c (.bool true))):=fun w a hv hw=>by
  obtain ⟨n',w',a',hw',h10⟩:=Pv hl (by omega)
  refine ab rfl h10 (by simp [Mo.e,eT,aU,eL,eF]) (by simp) (by simp) (by simp) ?_
  have:w'≠0:=fun h=>by
   obtain ⟨hc,hA⟩:=hw' h
   obtain ⟨S,hS⟩:=hA f hf
   rcases key with ⟨_,h⟩ |⟨_,h⟩
   ·exact h hc
   ·rw [h,hS] at hv
    injection hv with hv
    injection hv with _ hv
    injection hv with hv _
    injection hv with hv
    injection hv with hv _
    injection hv with _ hv
    exact hw hv.symm
  simp [cj,this]
 rcases key with ⟨hv,hw⟩ |⟨hc,hv⟩
 ·rw [hv] at h13
  refine ab rfl h13 (by simp [Mo.e,eT,aU,eL,eF]) (by simp) (by simp) (by simp) ?_
  refine ah.2 ?_
  simp only [bc,aR,ae,ag,aM,aF,UU,VF,XL,aG,ak,aj,if_neg hw]
  have:=bad _ _ hv hw
  simpa only [eT,aU,eL,eF,cj] using this
 have hm:=((uE hl).1 hc).2
 obtain ⟨S,w,a,e,hw0,hw1⟩:=qp hm hg
 rw [hv,e] at h13
 refine ab rfl h13 (by simp [Mo.e,eT,aU,eL,eF]) (by simp) (by simp) (by simp) ?_
 refine ah.2 ?_
 simp only [bc,aR,ae,ag,aM,aF,UU,VF,XL,aG,ak,aj]
 by_cases hw:w=0
 case neg=>
  rw [if_neg hw]
  obtain rfl:=hw1 hw
  have:=bad w a (by rw [hv,e]) hw
  simpa only [eT,aU,eL,eF,cj] using this
 rw [if_pos hw]
 obtain ⟨rfl,hC⟩:=hw0 hw
 have ef:(f:Int)<m.f.length:=by omega
 have hk0:=(hm.f g (XD hg)).k0
 have hkn:0<g.k.length:=List.length_pos_iff.2 hk0
 have e1:((S.length:Nat):Int)=g.k.length:=by have:=hC.len;omega
 have e2: ¬((S.length:Nat):Int)=0:=by omega
 have e3:(0:Int)<((S.length:Nat):Int):=by omega
 simp only [aM,aF,UU,VF,XL,ah,bc,aR,ae,ag,az,XV,aB,aC,aK,aO,aL,aG,au,aw,aD,aN,aI,aq,UM,Ue,VN,an,ar,eS,eT,eL,aU,eF,ak,aj,cj,Fu.e,hg,if_pos ef,if_pos (U9 _),if_pos e1,if_neg e2,if_pos e3,Int.toNat_zero,hC.z,ew,X5,XQ,aE,al,List.map_nil,X3]
 simp only [show ((0:Nat):Int)=0 from rfl,if_pos rfl,if_true,ite_true]
 refine aP rfl (F8 hl hc hg hC (.bool true)) (by simp [eT,aU,eL,eF,cj,eK,Fu.e,hg,ew]) ?_
 simp only [aS,ay,Uq,X3,true_and]
 simp
theorem Py:Ok 18 [] (.c (.bool true)):=by
 have a0:Is Tf [] 0 []:=iz Ru rfl (by simp [M4])
 have a1:Is Tg [] 0 []:=iz Rv rfl (by simp [M5])
 have a2:Is Th [] 0 []:=iz Rw rfl (by simp [M6])
 have a3:Is Jo [] 0 []:=iz Lb rfl (by simp [DY])
 have a4:Is Jp [] 0 []:=iz Lc rfl (by simp [DZ])
 have a5:Is Jq [] 0 []:=iz Ld rfl (by simp [D0])
 have a6:Is Jr [] 0 []:=iz Le rfl (by simp [D1])
 have a7:Is Js [] 0 []:=iz Lf rfl (by simp [D2])
 have a8:Is Jt [] 0 []:=iz Lg rfl (by simp [D3])
 have a9:Is Ju [] 0 []:=iz Lh rfl (by simp [D4])
 refine nz (l:=[]) Rx (by simp) (by simp) ?_
 unfold M7
 refine aP rfl a0 (by simp) ?_
 simp only [ay,X3,true_and,XL]
 refine aP rfl a1 (by simp) ?_
 simp only [ay,X3,true_and,XL]
 refine aP rfl a2 (by simp) ?_
 simp only [ay,X3,true_and,XL]
 refine aP rfl a3 (by simp) ?_
 simp only [ay,X3,true_and,XL]
 refine aP rfl a4 (by simp) ?_
 simp only [ay,X3,true_and,XL]
 refine aP rfl a5 (by simp) ?_
 simp only [ay,X3,true_and,XL]
 refine aP rfl a6 (by simp) ?_
 simp only [ay,X3,true_and,XL]
 refine aP rfl a7 (by simp) ?_
 simp only [ay,X3,true_and,XL]
 refine aP rfl a8 (by simp) ?_
 simp only [ay,X3,true_and,XL]
 refine aP rfl a9 (by simp) ?_
 simp only [ay,X3,true_and,XL]
 simp
theorem F9 (m:Mo) (which:Int):Ok 6 [.agg m.e,.c (.int .i64 which)] (.c (.bool true)):=RV m which Py
end
section
open Go
def J4 (g:TypeId→Option (List Ty)) (z:TypeId→Nat):List Field→Nat→Option (List Ty)
 |[],_=>some []
 |f::fs,o=>match g f.type with
  |some l=>if f.offset=o∧z f.type=l.length then (J4 g z fs (o+l.length)).map fun r=>l++r else none
  |none=>none
def J5 (P:Program):Nat→TypeId→Option (List Ty)
 |0,_=>none
 |d+1,t=>match P.underlying t with
  |some (.int k)=>some [.int k]
  |some .string=>some [.str]
  |some (.slice e)=>match J5 P d e with
   |some l=>if P.cellsOf e=l.length then some [.aY l] else none
   |none=>none
  |some (.struct fs)=>match J4 (J5 P d) P.cellsOf fs.toList 0 with
   |some l=>if P.cellsOf t=l.length then some l else none
   |none=>none
  |_=>none
theorem Et {α:Type} {Q:Nat→α→Prop}: ∀n:Nat,(∀i,i<n→∃y,Q i y)→∃l:List α,l.length=n∧∀i y,l[i]? =some y→Q i y
 |0,_=>⟨[],rfl,fun i y h=>by simp at h⟩
 |n+1,h=>by
  obtain ⟨l,hl,hq⟩:=Et n fun i hi=>h i (by omega)
  obtain ⟨y,hy⟩:=h n (by omega)
  refine ⟨l++[y],by simp [hl],fun i z hz=>?_⟩
  by_cases hi:i<l.length
  ·rw [List.getElem?_append_left hi] at hz;exact hq i z hz
  ·rw [List.getElem?_append_right (by omega)] at hz
   by_cases he:i - l.length=0
   ·rw [he] at hz
    have:i=n:=by omega
    subst this
    rw [←TZ hz];exact hy
   ·rw [List.getElem?_cons,if_neg he] at hz;simp at hz
theorem iI.get {fz:Addr→Option Value}: ∀{l:List D} {C:List Value},iI fz l C→∀(j:Nat) (d:D),l[j]? =some d→∃u,C[j]? =some u∧dM fz d u
 |_,_,.nil,j,d,h=>by simp at h
 |_,_,.cons d v ds vs h hs,0,d',hd=>⟨v,rfl,by have:=TZ hd;exact this▸h⟩
 |_,_,.cons d v ds vs h hs,j+1,d',hd=>hs.get j d' hd
theorem iI.app {fz:Addr→Option Value} {l m:List D} {C E:List Value} (h:iI fz l C) (k:iI fz m E):iI fz (l++m) (C++E):=by
 induction h with
 |nil=>exact k
 |cons d v ds vs h _ ih=>exact .cons d v _ _ h ih
theorem uG: ∀{ts us:List Ty} {r s:List D},bg ts r→bg us s→bg (ts++us) (r++s)
 |[],us,r,s,h,k=>by unfold bg at h;subst h;exact k
 |t::ts,us,r,s,h,k=>by
  unfold bg at h
  obtain ⟨d,r',rfl,h1,h2⟩:=h
  show bg (t::(ts++us)) (d::(r'++s))
  unfold bg
  exact ⟨d,_,rfl,h1,uG h2 k⟩
theorem Tl (a:Addr) (m k:Nat):(a.add m).add k=a.add (m+k):=by
 unfold Addr.add
 by_cases hk:k=0
 ·subst hk;simp
 ·by_cases hm:m=0
  ·subst hm;simp [hk]
  ·simp [hk,hm,Nat.add_assoc]
section
variable {H:Type} {enc:TypeId×Value→H} {P:Program} {w:World} {sp:Nat→Bool} {held:Bool}
abbrev LZ (w:World):Addr→Option Value:=fun a=>w.cell? a
theorem uH: ∀(d fuel:Nat) (t:TypeId) (cs:List Value) (ts:List Ty) (x:DataW H×List MemPlace),J5 P d t=some ts→Ye enc P w 0 sp held fuel t cs=some x→∃ds,iI (LZ w) ds cs∧bg ts ds
 |0,fuel,t,cs,ts,x,hs,h=>by cases hs
 |d+1,0,t,cs,ts,x,hs,h=>by cases h
 |d+1,fuel+1,t,cs,ts,x,hs,h=>by
  unfold J5 at hs
  unfold Ye at h
  cases hu:P.underlying t with
  |none=>rw [hu] at hs;cases hs
  |some U=>
   rw [hu] at hs h
   cases U<;>first |(cases hs;done) |skip
   case int k=>
    cases hs
    match cs,h with
    |[.int k' n],h=>
     by_cases hk:k'=k
     ·subst hk;exact ⟨[.int k' n],.cons _ _ _ _ (.int _ _) .nil,by simp⟩
     ·simp [hk] at h
   case string=>
    cases hs
    match cs,h with
    |[.string s],h=>exact ⟨[.str (s.data.toList.map (·.toNat))],.cons _ _ _ _ (.str _ s rfl) .nil,by simp⟩
   case slice e=>
    simp only at hs
    cases he:J5 P d e with
    |none=>rw [he] at hs;cases hs
    |some l=>
    rw [he] at hs
    simp only at hs
    split at hs
    case isFalse=>cases hs
    rename_i hz
    cases hs
    match cs,h with
    |[.slice none 0 0],h=>exact ⟨[.aY []],.cons _ _ _ _ .nil .nil,by simp⟩
    |[.slice (some a) len cap],h=>
     simp only at h
     split at h
     case isFalse=>cases h
     rename_i hc
     obtain ⟨elems,h1,h2⟩:=Option.bind_eq_some_iff.1 h
     have hel:=mapM_some_length h1
     rw [List.length_range] at hel
     obtain ⟨rows,hrl,hrows⟩:=Et (Q:=fun i (ds:List D)=>∃row,w.cells? 0 (a.add (i*l.length)) l.length=some row∧iI (LZ w) ds row∧bg l ds) len fun i hi=>by
      have g:=mapM_some_get h1 i i (by rw [WA hi])
      rw [UB (by omega)] at g
      obtain ⟨row,g1,g2⟩:=Option.bind_eq_some_iff.1 g
      obtain ⟨ds,g3,g4⟩:=uH d fuel e row l _ he g2
      rw [hz] at g1
      exact ⟨ds,row,g1,g3,g4⟩
     have hlen: ∀r∈rows,r.length=l.length:=fun r hr=>by
      obtain ⟨i,hi,rfl⟩:=List.mem_iff_getElem.1 hr
      obtain ⟨_,_,_,q⟩:=hrows i _ (UB hi)
      exact bT q
     have hcell: ∀i k,i<len→k<l.length→∃u d,w.cell? (a.add (i*l.length+k))=some u∧rows.flatten[i*l.length+k]? =some d∧dM (LZ w) d u:=fun i k hi hk=>by
      have hr:rows[i]? =some (rows[i]'(by omega)):=UB _
      obtain ⟨row,q1,q2,q3⟩:=hrows i _ hr
      have hrl2:=bT q3
      have hd:(rows[i]'(by omega))[k]? =some ((rows[i]'(by omega))[k]'(by omega)):=UB _
      obtain ⟨u,q4,q5⟩:=q2.get k _ hd
      refine ⟨u,_,?_,by rw [flat_get hlen hr hk];exact hd,q5⟩
      unfold World.cells? at q1
      rw [if_pos (Nat.zero_le _)] at q1
      have:=mapM_some_get q1 k k (by rw [WA hk])
      rw [q4] at this
      rw [←this,Tl]
     have hflat:rows.flatten.length=len*l.length:=by rw [jr hlen,hrl]
     have hall: ∀j,j<rows.flatten.length→∃u d,w.cell? (a.add j)=some u∧rows.flatten[j]? =some d∧dM (LZ w) d u:=fun j hj=>by
      have hzp:0<l.length:=Nat.pos_of_ne_zero fun e=>by rw [hflat,e] at hj;simp at hj
      have h1:j / l.length<len:=Nat.div_lt_of_lt_mul (by rw [hflat,Nat.mul_comm] at hj;exact hj)
      have h2:j % l.length<l.length:=Nat.mod_lt _ hzp
      have h3:j / l.length*l.length+j % l.length=j:=by rw [Nat.mul_comm];exact Nat.div_add_mod j l.length
      have:=hcell _ _ h1 h2
      rwa [h3] at this
     refine ⟨[.aY rows],.cons _ _ _ _ ?_ .nil,?_⟩
     ·subst hrl
      refine .aY rows a cap (fun j=>(w.cell? (a.add j)).getD (.bool false)) hc.2.1 hc.2.2 (fun j hj=>?_) (fun j dd hd=>?_)
      ·obtain ⟨u,_,q,_,_⟩:=hall j hj
       show w.cell? _=_
       rw [q];rfl
      ·obtain ⟨u,d',q,q2,q3⟩:=hall j (List.getElem?_eq_some_iff.1 hd).1
       rw [q2] at hd
       rw [q,←TZ hd];exact q3
     ·simp only [AK,wy,CA,and_true]
      intro r hr
      obtain ⟨i,hi,rfl⟩:=List.mem_iff_getElem.1 hr
      obtain ⟨_,_,_,q⟩:=hrows i _ (UB hi)
      exact q
   case struct fs=>
    simp only at hs h
    cases hF:J4 (J5 P d) P.cellsOf fs.toList 0 with
    |none=>rw [hF] at hs;cases hs
    |some L=>
    rw [hF] at hs
    simp only at hs
    split at hs
    case isFalse=>cases hs
    rename_i hz
    cases hs
    split at h
    case isFalse=>cases h
    rename_i hl
    obtain ⟨xs,h1,h2⟩:=Option.map_eq_some_iff.1 h
    have hall: ∀f∈fs.toList,∃y,Ye enc P w 0 sp held fuel f.type ((cs.drop f.offset).take (P.cellsOf f.type))=some y:=fun f hf=>by
     obtain ⟨i,hi,rfl⟩:=List.mem_iff_getElem.1 hf
     have g:=mapM_some_get h1 i _ (UB hi)
     have hxl:=mapM_some_length h1
     rw [UB (by omega)] at g
     exact ⟨_,g⟩
    have key: ∀(l:List Field) (o:Nat) (L:List Ty),J4 (J5 P d) P.cellsOf l o=some L→(∀f∈l,∃y,Ye enc P w 0 sp held fuel f.type ((cs.drop f.offset).take (P.cellsOf f.type))=some y)→∃ds,iI (LZ w) ds ((cs.drop o).take L.length)∧bg L ds:=by
     intro l
     induction l with
     |nil=>intro o L hL _;cases hL;exact ⟨[],by simpa using iI.nil,by simp⟩
     |cons f l ih=>
      intro o L hL hf
      unfold J4 at hL
      cases hg:J5 P d f.type with
      |none=>rw [hg] at hL;cases hL
      |some a=>
      rw [hg] at hL
      simp only at hL
      split at hL
      case isFalse=>cases hL
      rename_i hc
      obtain ⟨r,hr,rfl⟩:=Option.map_eq_some_iff.1 hL
      obtain ⟨y,hy⟩:=hf f (Uk ..)
      obtain ⟨d1,k1,k2⟩:=uH d fuel f.type _ a y hg hy
      obtain ⟨d2,k3,k4⟩:=ih _ r hr fun f' hf'=>hf f' (Ul _ hf')
      rw [hc.1,hc.2] at k1
      refine ⟨d1++d2,?_,uG k2 k4⟩
      rw [List.length_append,List.take_add,List.drop_drop]
      exact k1.app k3
    obtain ⟨ds,k1,k2⟩:=key fs.toList 0 _ hF hall
    refine ⟨ds,?_,k2⟩
    rw [List.drop_zero,List.take_of_length_le (by omega)] at k1
    exact k1
end
end
section
open Go Go.RowKit Go.ChangeShapes Go.WideShapes Go.ChangeAt
theorem fX {α:Type} {f:α→List D} {ts:List Ty} (h: ∀r,bg ts r→∃x,r=f x): ∀{l:List (List D)},(∀r∈l,bg ts r)→∃m:List α,l=m.map f
 |[],_=>⟨[],rfl⟩
 |r::l,hl=>by
  obtain ⟨x,rfl⟩:=h r (hl r (Uk ..))
  obtain ⟨m,rfl⟩:=fX h fun r hr=>hl r (Ul _ hr)
  exact ⟨x::m,rfl⟩
theorem iD {d:D} (h:bA .str d): ∃s,d= .str s:=by unfold bA at h;exact h
theorem uI {k:IntKind} {d:D} (h:bA (.int k) d): ∃n,d= .int k n:=by unfold bA at h;exact h
theorem kH {ts:List Ty} {d:D} (h:bA (.aY ts) d): ∃l,d= .aY l∧∀r∈l,bg ts r:=by unfold bA at h;exact h
theorem bP {t:Ty} {ts:List Ty} {r:List D} (h:bg (t::ts) r): ∃d r',r=d::r'∧bA t d∧bg ts r':=by unfold bg at h;exact h
theorem iY {r:List D} (h:bg [] r):r=[]:=by unfold bg at h;exact h
theorem RW {r:List D} (h:bg [.str] r): ∃x,r=eS x:=by
 obtain ⟨a,r,rfl,h1,g1⟩:=bP h
 obtain ⟨s,rfl⟩:=iD h1
 obtain rfl:=iY g1
 exact ⟨s,rfl⟩
theorem RX {r:List D} (h:bg [.str,.str] r): ∃x:Vr,r=x.e:=by
 obtain ⟨a,r,rfl,h1,g1⟩:=bP h
 obtain ⟨b,r,rfl,h2,g2⟩:=bP g1
 obtain ⟨s,rfl⟩:=iD h1
 obtain ⟨u,rfl⟩:=iD h2
 obtain rfl:=iY g2
 exact ⟨⟨s,u⟩,rfl⟩
theorem Tn {r:List D} (h:bg [.str,.aY [.str,.str],.str] r): ∃x:Sg,r=x.e:=by
 obtain ⟨a,r,rfl,h1,g1⟩:=bP h
 obtain ⟨b,r,rfl,h2,g2⟩:=bP g1
 obtain ⟨c,r,rfl,h3,g3⟩:=bP g2
 obtain ⟨s,rfl⟩:=iD h1
 obtain ⟨l,rfl,hl⟩:=kH h2
 obtain ⟨m,rfl⟩:=fX (f:=Vr.e) (fun r=>RX) hl
 obtain ⟨u,rfl⟩:=iD h3
 obtain rfl:=iY g3
 exact ⟨⟨s,m,u⟩,rfl⟩
theorem Tp {r:List D} (h:bg [.str,.str,.aY [.str,.str],.aY [.str,.aY [.str,.str],.str]] r): ∃x:Cl,r=x.e:=by
 obtain ⟨a,r,rfl,h1,g1⟩:=bP h
 obtain ⟨b,r,rfl,h2,g2⟩:=bP g1
 obtain ⟨c,r,rfl,h3,g3⟩:=bP g2
 obtain ⟨d,r,rfl,h4,g4⟩:=bP g3
 obtain ⟨s,rfl⟩:=iD h1
 obtain ⟨u,rfl⟩:=iD h2
 obtain ⟨l,rfl,hl⟩:=kH h3
 obtain ⟨m,rfl⟩:=fX (f:=Vr.e) (fun r=>RX) hl
 obtain ⟨l,rfl,hl⟩:=kH h4
 obtain ⟨n,rfl⟩:=fX (f:=Sg.e) (fun r=>Tn) hl
 obtain rfl:=iY g4
 exact ⟨⟨s,u,m,n⟩,rfl⟩
theorem RY {r:List D} (h:bg [.int .i64,.str,.str] r): ∃x:Si,r=x.e:=by
 obtain ⟨a,r,rfl,h1,g1⟩:=bP h
 obtain ⟨b,r,rfl,h2,g2⟩:=bP g1
 obtain ⟨c,r,rfl,h3,g3⟩:=bP g2
 obtain ⟨s,rfl⟩:=uI h1
 obtain ⟨u,rfl⟩:=iD h2
 obtain ⟨v,rfl⟩:=iD h3
 obtain rfl:=iY g3
 exact ⟨⟨s,u,v⟩,rfl⟩
theorem RZ {r:List D} (h:bg [.int .i64,.int .i64,.int .i64,.int .i64] r): ∃x:In,r=x.e:=by
 obtain ⟨a,r,rfl,h1,g1⟩:=bP h
 obtain ⟨b,r,rfl,h2,g2⟩:=bP g1
 obtain ⟨c,r,rfl,h3,g3⟩:=bP g2
 obtain ⟨d,r,rfl,h4,g4⟩:=bP g3
 obtain ⟨s,rfl⟩:=uI h1
 obtain ⟨u,rfl⟩:=uI h2
 obtain ⟨v,rfl⟩:=uI h3
 obtain ⟨x,rfl⟩:=uI h4
 obtain rfl:=iY g4
 exact ⟨⟨s,u,v,x⟩,rfl⟩
theorem R0 {r:List D} (h:bg [.str,.str,.aY [.str],.aY [.int .i64,.int .i64,.int .i64,.int .i64]] r): ∃x:Fu,r=x.e:=by
 obtain ⟨a,r,rfl,h1,g1⟩:=bP h
 obtain ⟨b,r,rfl,h2,g2⟩:=bP g1
 obtain ⟨c,r,rfl,h3,g3⟩:=bP g2
 obtain ⟨d,r,rfl,h4,g4⟩:=bP g3
 obtain ⟨s,rfl⟩:=iD h1
 obtain ⟨u,rfl⟩:=iD h2
 obtain ⟨l,rfl,hl⟩:=kH h3
 obtain ⟨m,rfl⟩:=fX (f:=eS) (fun r=>RW) hl
 obtain ⟨l,rfl,hl⟩:=kH h4
 obtain ⟨n,rfl⟩:=fX (f:=In.e) (fun r=>RZ) hl
 obtain rfl:=iY g4
 exact ⟨⟨s,u,m,n⟩,rfl⟩
theorem R1 {r:List D} (h:bg [tT,tS,tL,tF] r): ∃x:Mo,r=x.e:=by
 obtain ⟨a,r,rfl,h1,g1⟩:=bP h
 obtain ⟨b,r,rfl,h2,g2⟩:=bP g1
 obtain ⟨c,r,rfl,h3,g3⟩:=bP g2
 obtain ⟨d,r,rfl,h4,g4⟩:=bP g3
 obtain ⟨l,rfl,hl⟩:=kH h1
 obtain ⟨m1,rfl⟩:=fX (f:=Cl.e) (fun r=>Tp) hl
 obtain ⟨l,rfl,hl⟩:=kH h2
 obtain ⟨m2,rfl⟩:=fX (f:=Si.e) (fun r=>RY) hl
 obtain ⟨l,rfl,hl⟩:=kH h3
 obtain ⟨m3,rfl⟩:=fX (f:=eS) (fun r=>RW) hl
 obtain ⟨l,rfl,hl⟩:=kH h4
 obtain ⟨m4,rfl⟩:=fX (f:=Fu.e) (fun r=>R0) hl
 obtain rfl:=iY g4
 exact ⟨⟨m1,m2,m3,m4⟩,rfl⟩
theorem Ts:J5 Tryz.prog 8 27=some [tT,tS,tL,tF]:=by kernel_rfl
theorem L1 {fz:Addr→Option Value} {m:Mo} {cs:Array Value} {n:Int} (h:iI fz m.e cs.toList):iw fz [.agg m.e,.c (.int .i64 n)] [.agg cs,.int .i64 n]:=by
 have:=uW.agg m.e cs.toList h
 exact .cons _ _ _ _ this (.cons _ _ _ _ (.c _ _ (.int _ _)) .nil)
theorem A5 {P:Program} {bs:List bf} {f:FuncId} {ds:List DV} {us:List Value} (h:Ax P bs f ds (.c (.bool true))) {w:World} (hb:jD bs w) (hr:iw (LZ w) ds us):Calls P f us.toArray w fun e w'=>e= .returned (.bool true)∧Below w.heap.size w w':=by
 intro cs
 obtain ⟨fz',w',V,fr,_,_,_,hk,hV,hst,hfn,hkind,hgo⟩:=h.run w (LZ w) us cs hb (fun _ _ h=>h) hr trivial
 have hVt:V= .bool true:=by cases hV with |c _ _ h=>cases h;rfl
 subst hVt
 exact ⟨.returned (.bool true),w',fr,⟨rfl,hk.os,hk.tape,hk.output,hk.size,hk.same⟩,hst,hfn,hgo.1,hgo.2.1,hkind,hgo.2.2⟩
theorem J6 {H:Type} {enc:TypeId×Value→H} {P:Program} {w:World} {base:Nat} {sp:Nat→Bool} {held:Bool} {a b:TypeId}: ∀{l:List Value} {ds:List (DataW H)} {p:List MemPlace},Yf enc P w base sp held [a,b] l ds p→∃v u d1 q fuel,l=[v,u]∧Ye enc P w base sp held fuel a v.cells.toList=some (d1,q)
 |[],_,_,h=>by cases ‹List (DataW H)› <;>exact h.elim
 |[v],ds,_,h=>by
  cases ds with
  |nil=>exact h.elim
  |cons d ds=>obtain ⟨_,_,_,h,_⟩:=h;cases ds<;>exact h.elim
 |[v,u],ds,_,h=>by
  cases ds with
  |nil=>exact h.elim
  |cons d ds=>obtain ⟨_,_,⟨fuel,h1⟩,_,_⟩:=h;exact ⟨v,u,d,_,fuel,rfl,h1⟩
 |v::u::x::l,ds,_,h=>by
  cases ds with
  |nil=>exact h.elim
  |cons d ds=>
   obtain ⟨_,_,_,h,_⟩:=h
   cases ds with
   |nil=>exact h.elim
   |cons d ds=>obtain ⟨_,_,_,h,_⟩:=h;cases ds<;>exact h.elim
def A6:Option TypeDesc→Bool
 |some (.struct _)=>true
 |_=>false
theorem R2: ∃fs,Tryz.prog.underlying 27=some (.struct fs):=by
 have h:A6 (Tryz.prog.underlying 27)=true:=by kernel_rfl
 generalize Tryz.prog.underlying 27=x at h
 unfold A6 at h
 split at h
 ·exact ⟨_,rfl⟩
 ·cases h
theorem J7 {H:Type} {enc:TypeId×Value→H} {P:Program} {w:World} {sp:Nat→Bool} {held:Bool} {a:TypeId} {fuel:Nat} {cs:List Value} {x:DataW H×List MemPlace} (hM:J5 P 8 a=some [tT,tS,tL,tF]) (h:Ye enc P w 0 sp held fuel a cs=some x): ∃m:Mo,iI (LZ w) m.e cs:=by
 obtain ⟨es,k1,k2⟩:=uH 8 fuel a _ _ _ hM h
 obtain ⟨m,rfl⟩:=R1 k2
 exact ⟨m,k1⟩
theorem Tt:Tryz.prog.underlying 3=some (.int .i64):=by kernel_rfl
theorem R3 {H:Type} {enc:TypeId×Value→H} {P:Program} {w:World} {base:Nat} {a b:TypeId} {args:Array Value} {ds:List (DataW H)} {p:List MemPlace} (h3:P.underlying b=some (.int .i64)) (h27: ∃fs,P.underlying a=some (.struct fs)) (hM:J5 P 8 a=some [tT,tS,tL,tF])
 (hok: ∀(j:Nat) (t:TypeId) (v:Value),(#[a,b]:Array TypeId)[j]? =some t→args[j]? =some v→Yg P w .any base t v) (hA:Yf enc P w 0 (fun _=>true) true [a,b] args.toList ds p): ∃(m:Mo) (n:Int),iw (LZ w) [.agg m.e,.c (.int .i64 n)] args.toList:=by
 obtain ⟨l⟩:=args
 obtain ⟨v,u,d1,q,fuel,hl,h1⟩:=J6 hA
 obtain rfl:l=[v,u]:=hl
 obtain ⟨n,rfl⟩:=okWide_int h3 (hok 1 b u (by simp) (by simp))
 obtain ⟨fs,hfs⟩:=h27
 obtain ⟨cs,rfl,_⟩:=okWide_struct hfs (hok 0 a v (by simp) (by simp))
 obtain ⟨m,k1⟩:=J7 hM h1
 exact ⟨m,n,L1 k1⟩
set_option maxRecDepth 20000 in
attribute [local irreducible] Tryz.prog in
theorem yz {H:Type} {enc:TypeId×Value→H} {w:World} {base:Nat} {args:Array Value} {ds:List (DataW H)} {p:List MemPlace} (hb:jD bs w)
 (hok: ∀(j:Nat) (t:TypeId) (v:Value),(#[27,3]:Array TypeId)[j]? =some t→args[j]? =some v→Yg Tryz.prog w .any base t v) (hA:Yf enc Tryz.prog w 0 (fun _=>true) true [27,3] args.toList ds p):Calls Tryz.prog 6 args w fun e w'=>e= .returned (.bool true)∧Below w.heap.size w w':=by
 obtain ⟨m,n,hr⟩:=R3 Tt R2 Ts hok hA
 obtain ⟨l⟩:=args
 exact A5 (F9 m n) hb hr
end
section
open Go Go.RowKit Go.ChangeShapes Go.WideShapes Go.ChangeAt
section
variable {P:Program} {w:World}
theorem Ga {P:Program} {w:World} (h:w.ShapedOpen P) (hb:decide (P.globals.size<(begin P (fun _ _=>0) default).world.heap.size)=true):P.globals.size≤w.heap.size:=by
 obtain ⟨o,_,ho,_⟩:=h.2 P.globals.size (Nat.le_refl _) (of_decide_eq_true hb)
 exact Nat.le_of_lt (Array.getElem?_eq_some_iff.1 ho).1
end
section
variable {P:Program} {w:World}
theorem uJ: ∀{l:List (String×DataW Unit)} {ps:List MemPlace},DataW.LaidVars P w l ps→∀n d,(n,d)∈l→
 ∃g t cs fuel p,P.globalNamed n=some g∧(P.globals[g]?).map (·.type)=some t∧w.var? P n=some cs∧Ye (fun _=>()) P w 0 (fun _=>true) false fuel t cs.toList=some (d,p)
 |[],_,_,_,_,hm=>by cases hm
 |(n',d')::r,ps,h,n,d,hm=>by
  obtain ⟨g,t,cs,fuel,p,q,h1,h2,h3,h4,h5,_⟩:=h
  rcases List.mem_cons.1 hm with e |e
  ·cases e
   exact ⟨g,t,cs,fuel,p,h1,h2,h3,h4⟩
  ·exact uJ h5 n d e
theorem vg {laid:List (String×DataW Unit)} (h:laidMetH P laid w):laidMet P (laid.filter fun x=>x.2.handleName?.isNone) w:=by
 unfold laidMetH at h
 split at h
 ·rename_i hf
  have e:(laid.filter fun x=>x.2.handleName?.isNone)=laid:=by
   rw [List.filter_eq_self]
   intro x hx
   have:=(List.filter_eq_nil_iff.1 hf) x hx
   cases hn:x.2.handleName? with
   |none=>rfl
   |some s=>rw [hn] at this;exact absurd rfl this
  rw [e]
  exact h
 ·exact h.1
theorem Gb {laid:List (String×DataW Unit)} (h:laidMetH P laid w) {name:String} {k:IntKind} {zs:List Int} (hm:(name,Lib.tabData k zs)∈laid) {g t e:Nat} {n:Nat}
 (hg:P.globalNamed name=some g) (ht:(P.globals[g]?).map (·.type)=some t) (hu:P.underlying t=some (.array n e)) (he:P.underlying e=some (.int k)) (hce:P.cellsOf e=1) (hct:P.cellsOf t=n) {m:Nat} (hlen:m=zs.length) (t':TypeId):
 xG w g (.cells false t' m (.of (zs.map fun z=>.int k z))):=by
 obtain ⟨ps,hv,_⟩:=vg h
 obtain ⟨g',t'',cs,fuel,p,h1,h2,h3,h4⟩:=uJ hv _ _ (List.mem_filter.2 ⟨hm,rfl⟩)
 obtain rfl:=TZ (hg.symm.trans h1)
 obtain rfl:=TZ (ht.symm.trans h2)
 have hcs:=Lib.cells_of_tab hu he hce hct h4
 refine ⟨t',m,_,rfl,fun i hi=>?_⟩
 have hi':i<zs.length:=by omega
 refine ⟨.int k zs[i],.int k zs[i],by rw [Cs.i7];simp [hi'],?_,rfl,rfl⟩
 rw [World.var?_cell h1 h3 i]
 have:cs.toList[i]? =some (.int k zs[i]):=by rw [hcs];simp [hi']
 simpa using this
theorem iE (g:Nat) (t:TypeId):xG w g (.cells false t 0 (.nB [])):=⟨t,0,_,rfl,fun i hi=>absurd hi (Nat.not_lt_zero i)⟩
end
theorem rb {H:Type} {enc:TypeId×Value→H} {P:Program} {w:World} {base:Nat} {sp:Nat→Bool} {held:Bool}: ∀{ts:List TypeId} {vs:List Value} {ds:List (DataW H)} {ps:List MemPlace},Yf enc P w base sp held ts vs ds ps→vs.length=ts.length∧ds.length=ts.length
 |[],[],[],_,_=>⟨rfl,rfl⟩
 |_::_,_::_,_::_,_,h=>by
  obtain ⟨p,q,_,h2,_⟩:=h
  obtain ⟨e1,e2⟩:=rb h2
  exact ⟨by simp [e1],by simp [e2]⟩
 |[],_::_,_,_,h=>h.elim
 |[],[],_::_,_,h=>h.elim
 |_::_,[],_,_,h=>h.elim
 |_::_,_::_,[],_,h=>h.elim
theorem mL {H:Type} {enc:TypeId×Value→H} {P:Program} (hl:laidOutB P=true) {W W':World} (hb:Below W.heap.size W W'): ∀{ts:List TypeId} {vs:List Value} {ds:List (DataW H)} {ps:List MemPlace},
 (ts.all fun t=>P.readableRec t&&decide (t<P.types.size))=true→Yf enc P W 0 (fun _=>true) true ts vs ds ps→(∀x∈ps,x.block<W.heap.size)→Yf enc P W' 0 (fun b=>decide (b<W.heap.size)) true ts vs ds ps
 |[],[],[],_,_,h,_=>h
 |t::ts,v::vs,d::ds,ps,hr,h,hlt=>by
  rw [List.all_cons,Uj,Uj] at hr
  obtain ⟨p,q,h1,h2,rfl⟩:=h
  exact ⟨p,q,Below.trod hl hr.1.1 (of_decide_eq_true hr.1.2) h1 hb (fun x hx=>hlt x (V5 _ hx)),mL hl hb hr.2 h2 (fun x hx=>hlt x (List.mem_append_right _ hx)),rfl⟩
 |[],_::_,_,_,_,h,_=>h.elim
 |[],[],_::_,_,_,h,_=>h.elim
 |_::_,[],_,_,_,h,_=>h.elim
 |_::_,_::_,[],_,_,h,_=>h.elim
section
variable {H:Type} {enc:TypeId×Value→H}
theorem A7 {C:Checked} {os:Os} {f:FuncId} {fn:Func} {s:ChangeSpec} {conds:List PathCond} {handsOn:Bool} {laid:List (String×DataW Unit)} {t:TypeId}
 (own:ownKnob C.prog.godebug=none) (started:os.Started) (noInit:C.prog.inits.idxOf? f=none) (hfn:C.prog.funcs[f]? =some fn) (hl:laidOutB C.prog=true) (hps:(fn.params.toList.all fun t=>C.prog.readableRec t&&decide (t<C.prog.types.size))=true)
 (hrs:fn.resultTypes= #[t]) (ht:C.prog.underlying t=some .bool) (hvars:s.vars=[])
 (hspec: ∀(H:Type) (ds:List (DataW H)),ds.length=fn.params.toList.length→s.fn H ds={results:=[.lit (.bool true)],args:=ds,vars:=[]})
 (witness: ∃(w:World) (tape:Tape) (i:Input),w.os=os∧(w.forCall tape i).Shaped C.prog∧i.vars=[]∧Input.okWide C.prog (w.forCall tape i) .any w.heap.size f i∧
  ((s.pre enc C.prog fn conds false (w.forCall tape i).memory i.args∧laidMetH C.prog laid (w.forCall tape i).memory)∧sizedMet enc C.prog fn (Yh s) false (w.forCall tape i).memory i.args)∧({}:Assume).holds C.prog (lone (Frame.enter C.prog f i.args .normal) [] (w.forCall tape i)))
 (hcalls: ∀(w:World) (base:Nat) (args:Array Value) (ds:List (DataW H)) (p:List MemPlace),w.ShapedOpen C.prog→laidMetH C.prog laid w→(∀(j:Nat) t v,fn.params[j]? =some t→args[j]? =some v→Yg C.prog w .any base t v)→
  Yf enc C.prog w 0 (fun _=>true) true fn.params.toList args.toList ds p→Calls C.prog f args w fun e w'=>e= .returned (.bool true)∧Below w.heap.size w w'):
 ReturnsInHanded {} C os f .any (fun w args=>(s.pre enc C.prog fn conds false w args∧laidMetH C.prog laid w)∧sizedMet enc C.prog fn (Yh s) false w args) (s.post enc C.prog fn false true handsOn false):=by
 refine returnsInHanded_of_calls own started noInit witness ?_
 intro w tape i _ hshape _ hok hpre hholds
 obtain ⟨_,_,_,fn',hfn',_,_,_,_,hval⟩:=hok
 have e:fn'=fn:=TZ (hfn'.symm.trans hfn)
 subst e
 obtain ⟨⟨⟨ds,gs,before,hw,hc⟩,hx⟩,hz⟩:=hpre
 have hw':=DataW.Whole.of_heap (w':=w.forCall tape i) (by rfl) hw
 have hx':laidMetH C.prog laid (w.forCall tape i):=hx.of_heap (by rfl)
 have hlt: ∀x∈before,x.block<(w.forCall tape i).heap.size:=fun x hx=>hw'.lt x hx
 have hw0:=hw'
 obtain ⟨p,q,hA,hV,rfl,_,_⟩:=hw'
 rw [hvars] at hV
 obtain ⟨rfl,rfl⟩:=trodVars_none hV
 have hlen:=rb hA
 refine (hcalls _ _ i.args ds p hshape hx' hval hA).mono fun e W' ⟨he,hb⟩=>?_
 subst he
 refine ChangeSpec.post_blind ⟨ds,[],p++[],[],p,[],hw0,?_,?_,?_,hb.frame _,fun h=>by cases h⟩
 ·rw [XL,hspec H ds hlen.2,hrs]
  exact trodAll_mk1 (shut_bool ht _)
 ·rw [XL,hspec H ds hlen.2]
  exact mL hl hb hps hA fun x hx=>hlt x (V5 _ hx)
 ·rw [XL,hspec H ds hlen.2,hvars]
  rfl
end
end
end Go.Proofs.Sai
