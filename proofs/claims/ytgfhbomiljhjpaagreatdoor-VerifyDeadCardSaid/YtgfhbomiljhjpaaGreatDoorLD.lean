/- Part LD of the proof of VerifyDead: texts of the interpreter and what it shows, under short names. No condition. -/
import Derived.Test.YtgfhbomiljhjpaaGreatDoorLC
import Derived.DataReads
import Derived.Carry
import Derived.SizedLaws
import Derived.ProofKit
import Derived.OpenShut
import Derived.LaidMore
import Derived.Lay
import Derived.SevenTiedAt
import Derived.Stop.Joined
import Derived.Lib.LaidTab
import Derived.LaidHandle
set_option linter.unusedVariables false
set_option linter.unusedSimpArgs false
set_option linter.unusedSectionVars false
open Bool renaming and_eq_true→V1
open Go.DataW renaming weightsAll→ZY,trod→ZZ,weights→Z0,weights_mem_each→Z2,TrodAll→Z3
open Go.IntWalk renaming i64_in→WJ
open Go.OpenSpec renaming ofChange→Z4
open Go.Value renaming okWide→Z5
open Int renaming toNat_natCast→Wt,natCast_nonneg→WN
open List renaming getElem?_eq_getElem→Wj,cons_append→WB,nil_append→Xl,append_nil→XZ,length_map→ZD,getElem?_map→VV,length_cons→V8,length_nil→ZL,mem_of_getElem?→Zm,getElem?_append_left→VJ,getElem?_set_self→ZQ,getElem?_set_ne→ZX,length_append→V7,length_take→V9,eq_nil_of_length_eq_zero→Wk,length_set→ZI,take_of_length_le→ZJ,getElem?_append_right→VL,mem_append_left→XL,mem_append_right→XK,mem_cons_self→V2,mem_cons_of_mem→V3,getElem?_range→Yk,mem_map_of_mem→Z1
open Nat renaming le_refl→VY,zero_le→Xz
open Option renaming map_some→Xt
open Option.some renaming inj→VF
namespace Go.Proofs.Sai
section
open Go
theorem Lx (l:List Vr) (hl:l.length≤1000): ∃b:Bool,Ok 41 [.c (.aF (l.map Vr.e))] (.c (.bool b)):=by
 obtain ⟨j,os,⟨rfl,hj⟩,hL⟩:=db (aF:=l) (enc:=fun k (_:Unit)=>[.aF (l.map Vr.e),.int .i64 k]) (I:=fun _ _=>True) (Q:=fun j os=>os=[]∧j≤1) JV (fun _ _=>rfl)
  (fun k u x hk _ hx=>by
   have w:=bj hk (by omega)
   have e1:(k:Int)<l.length:=by omega
   have hx':l[k]? =some x:=by rw [Wj hk,hx]
   unfold vd
   simp only [aI,aR,WB,Xl,XZ,ah,bh,aL,ae,ag,aw,ZD,aA,aB,aX,bc,aV,aT,aJ,aM,aP,ba,aU,aE,Wt,VV,Xt,aD,aH,eS,eT,eL,aZ,eF,aC,ak,nc,Vr.e,hx',if_pos e1,if_pos (WN k)]
   refine az (fun _=>aq (.exit 0 []) (by simp) (.inl ⟨_,_,rfl,rfl,by omega⟩)) (fun _=>az (fun _=>aq (.exit 0 []) (by simp) (.inl ⟨_,_,rfl,rfl,by omega⟩)) (fun _=>?_))
   exact aq (.next [.aF (l.map Vr.e),.int .i64 ((k+1:Nat):Int)]) (by simp [w,Vr.e]) (.inr ⟨(),rfl,trivial⟩))
  (fun u _=>aq (.exit 1 []) (by simp [vd]) ⟨_,_,rfl,rfl,by omega⟩) () trivial
 obtain ⟨r,⟨b,rfl⟩,h⟩:=xU (l:=[.aF (l.map Vr.e)]) (R:=fun r=>∃b:Bool,r= .c (.bool b)) (ds:=[.c (.aF (l.map Vr.e))]) Sv (by simp) (by simp) (by
  unfold N7
  refine ar rfl hL (by simp) ?_
  match j,hj with
  |0,_=>simp only [al,V8,ZL,true_and];exact aq (.ret (.c (.bool true))) (by simp) ⟨_,rfl,_,rfl⟩
  |1,_=>simp only [ay,al,V8,ZL,true_and];exact aq (.ret (.c (.bool false))) (by simp) ⟨_,rfl,_,rfl⟩)
 exact ⟨b,h⟩
def HC (c:Cl):Prop:=c.f.length≤7∧c.m.length≤7∧∀x∈c.m,x.p.length≤10
theorem Ly (l:List Sg) (hl:l.length≤1000) (T i i' s n f b q:D): ∃j os,((j=0∧os.length=4)∨(j=1∧(∀x∈l,x.p.length≤10)∧os=[T,i,i',s,n,f,.aF (l.map Sg.e),b,q]))∧Is mG [T,i,.int .i64 0,i',s,n,f,.aF (l.map Sg.e),b,q] j os:=
 db (aF:=l) (enc:=fun k (_:Unit)=>[T,i,.int .i64 k,i',s,n,f,.aF (l.map Sg.e),b,q]) (I:=fun k _=>∀(i:Nat) (x:Sg),i<k→l[i]? =some x→x.p.length≤10) (Q:=fun j os=>(j=0∧os.length=4)∨(j=1∧(∀x∈l,x.p.length≤10)∧os=[T,i,i',s,n,f,.aF (l.map Sg.e),b,q])) DY (fun _ _=>rfl)
  (fun k u x hk hI hx=>by
   have w:=bj hk (by omega)
   have e1:(k:Int)<l.length:=by omega
   have hx':l[k]? =some x:=by rw [Wj hk,hx]
   unfold oD
   simp only [aI,aR,WB,Xl,XZ,ah,bh,aL,ae,ag,aw,ZD,aA,aB,aX,bc,aV,aT,aJ,aM,aP,ba,aU,aE,Wt,VV,Xt,aD,aH,eS,eT,eL,aZ,eF,aC,ak,nc,Sg.e,hx',if_pos e1,if_pos (WN k)]
   have out: ∀{t':PT} {l':List D},W [(41,none)] [] t' l' (fun o=>o= .exit 0 [q,s,f,.aF (l.map Sg.e)])→W [(41,none)] [] t' l' fun o=>(∃j os,o= .exit j os∧((j=0∧os.length=4)∨(j=1∧(∀x∈l,x.p.length≤10)∧os=[T,i,i',s,n,f,.aF (l.map Sg.e),b,q])))∨∃b':Unit,o= .next [T,i,.int .i64 ((k+1:Nat):Int),i',s,n,f,.aF (l.map Sg.e),b,q]∧∀(i:Nat) (x:Sg),i<k+1→l[i]? =some x→x.p.length≤10:=fun h=>aq _ h (.inl ⟨_,_,rfl,.inl ⟨rfl,rfl⟩⟩)
   refine az (fun _=>out (by simp [Sg.e])) (fun _=>az (fun _=>out (by simp [Sg.e])) (fun _=>az (fun _=>out (by simp [Sg.e])) (fun hp=>?_)))
   obtain ⟨bb,hb⟩:=Lx x.p (by omega)
   refine ai rfl hb (by simp [hx',Sg.e]) (by simp) (by simp) (by simp) ?_
   simp only [aI,aR,WB,Xl,XZ,ah,bh,aL,ae,ag,aw,ZD,aA,aB,aX,bc,aV,aT,aJ,aM,aP,ba,aU,aE,Wt,VV,Xt,aD,aH,eS,eT,eL,aZ,eF,aC,ak]
   cases bb
   ·simp only [aQ]
    refine aq (.next [T,i,.int .i64 ((k+1:Nat):Int),i',s,n,f,.aF (l.map Sg.e),b,q]) (by simp [w,Sg.e]) (.inr ⟨(),rfl,fun i z hi hz=>?_⟩)
    by_cases hik:i=k
    ·subst hik;rw [hx'] at hz;rw [←VF hz];omega
    ·exact hI i z (by omega) hz
   ·simp only [a9]
    exact out (by simp [Sg.e]))
  (fun u hI=>aq (.exit 1 [T,i,i',s,n,f,.aF (l.map Sg.e),b,q]) (by simp [oD]) ⟨_,_,rfl,.inr ⟨rfl,fun x hx=>by
   obtain ⟨i,hi,rfl⟩:=List.mem_iff_getElem.1 hx
   exact hI i _ hi (Wj hi),rfl⟩⟩) () (fun i x h=>absurd h (by omega))
theorem Lz (t:List Cl): ∃j os,((j=0∧os=[])∨(j=1∧(t.length≤9→∀c∈t,HC c)∧os=[eT t]))∧Is DZ [eT t,.int .i64 0] j os:=
 LY (enc:=fun k:Nat=>[eT t,.int .i64 k]) (I:=fun k=>k≤10∧∀(i:Nat) (c:Cl),i<k→t[i]? =some c→HC c) (μ:=fun k=>10 - k) (Q:=fun _ j os=>(j=0∧os=[])∨(j=1∧(t.length≤9→∀c∈t,HC c)∧os=[eT t])) J2
  (fun k hI=>⟨rfl,by
   obtain ⟨hI,hC⟩:=hI
   have w:IntKind.i64.wrap ((k:Int)+1)=((k+1:Nat):Int):=by rw [WJ _ (by omega)];omega
   unfold B5
   simp only [aI,aR,WB,Xl,XZ,ah,bh,aL,ae,ag,aw,ZD,aA,aB,aX,bc,aV,aT,aJ,aM,aP,ba,aU,aE,Wt,VV,Xt,aD,aH,eS,eT,eL,aZ,eF,aC,ak,nc]
   refine az (fun h1=>az (fun h2=>?_) (fun _=>?_)) (fun _=>?_)
   case refine_2=>exact aq (.exit 1 [eT t]) (by simp [eT]) (.inl ⟨_,_,rfl,.inr ⟨rfl,fun h=>by omega,rfl⟩⟩)
   case refine_3=>exact aq (.exit 1 [eT t]) (by simp [eT]) (.inl ⟨_,_,rfl,.inr ⟨rfl,fun _ c hc=>by
    obtain ⟨i,hi,rfl⟩:=List.mem_iff_getElem.1 hc
    exact hC i _ (by omega) (Wj hi),rfl⟩⟩)
   have hx:t[k]? =some (t[k]'(by omega)):=Wj _
   generalize (t[k]'(by omega))=c at hx
   simp only [hx,Cl.e,Xt,aE,aD,aH,nc,aX,aw,ZD,ak,if_pos (WN k)]
   have out: ∀{t':PT} {l':List D},W [(41,none)] [mG] t' l' (fun o=>o= .exit 0 [])→W [(41,none)] [mG] t' l' fun o=>(∃j os,o= .exit j os∧((j=0∧os=[])∨(j=1∧(t.length≤9→∀c∈t,HC c)∧os=[eT t])))∨∃a',o= .next [eT t,.int .i64 (a':Nat)]∧(a'≤10∧∀(i:Nat) (c:Cl),i<a'→t[i]? =some c→HC c)∧10 - a'<10 - k∧∀j os,((j=0∧os=[])∨(j=1∧(t.length≤9→∀c∈t,HC c)∧os=[eT t]))→((j=0∧os=[])∨(j=1∧(t.length≤9→∀c∈t,HC c)∧os=[eT t])):=fun h=>aq _ h (.inl ⟨_,_,rfl,.inl ⟨rfl,rfl⟩⟩)
   refine az (fun _=>out (by simp)) (fun _=>az (fun _=>out (by simp)) (fun _=>az (fun _=>out (by simp)) (fun h3=>az (fun _=>out (by simp)) (fun h4=>?_))))
   obtain ⟨bb,hb⟩:=Lx c.f (by omega)
   refine ai rfl hb (by simp [hx,Cl.e]) (by simp) (by simp) (by simp) ?_
   simp only [aI,aR,WB,Xl,XZ,ah,bh,aL,ae,ag,aw,ZD,aA,aB,aX,bc,aV,aT,aJ,aM,aP,ba,aU,aE,Wt,VV,Xt,aD,aH,eS,eT,eL,aZ,eF,aC,ak]
   cases bb
   case true=>simp only [a9];exact out (by simp)
   simp only [aQ]
   obtain ⟨j,os,hj,hL⟩:=Ly c.m (by omega) (eT t) (.int .i64 k) (.int .i64 k) (.str c.s) (.int .i64 c.s.length) (.aF (c.f.map Vr.e)) (.bool false) (.str c.n)
   refine ar rfl hL (by simp [eT,hx,Cl.e]) ?_
   rcases hj with ⟨rfl,hos⟩ |⟨rfl,hps,rfl⟩
   ·match os,hos with
    |[_,_,_,_],_=>simp only [al,V8,ZL,true_and];exact out (by simp)
   ·simp only [ay,al,V8,ZL,true_and]
    refine aq (.next [eT t,.int .i64 ((k+1:Nat):Int)]) (by simp [w]) (.inr ⟨k+1,rfl,⟨by omega,fun i c' hi hc'=>?_⟩,by omega,fun _ _ h=>h⟩)
    by_cases hik:i=k
    ·subst hik;rw [hx] at hc';rw [←VF hc'];exact ⟨by omega,by omega,hps⟩
    ·exact hC i c' (by omega) hc'⟩) 0 ⟨by omega,fun i c h=>absurd h (by omega)⟩
theorem Re (t:List Cl): ∃b:Bool,(b=false→t.length≤9∧∀c∈t,HC c)∧Ok 22 [.c (eT t)] (.c (.bool b)):=by
 obtain ⟨r,⟨b,hb,rfl⟩,h⟩:=xU (l:=[eT t]) (R:=fun r=>∃b:Bool,(b=false→t.length≤9∧∀c∈t,HC c)∧r= .c (.bool b)) (ds:=[.c (eT t)]) SA (by simp) (by simp) (by
  unfold Ob
  obtain ⟨j,os,hj,hL⟩:=Lz t
  refine ar rfl hL (by simp) ?_
  rcases hj with ⟨rfl,rfl⟩ |⟨rfl,hc,rfl⟩
  ·simp only [al,V8,ZL,true_and];exact aq (.ret (.c (.bool true))) (by simp) ⟨_,rfl,true,(fun h=>nomatch h),rfl⟩
  ·simp only [ay,al,V8,ZL,true_and];exact aq (.ret (.c (.bool (decide ((9:Int)<t.length))))) (by simp [eT]) ⟨_,rfl,_,fun h=>by have h:=of_decide_eq_false h;exact ⟨by omega,hc (by omega)⟩,rfl⟩)
 exact ⟨b,hb,h⟩
theorem LA (l:List bn) (hl:l.length≤120) (T S F:D): ∃j os,((j=0∧os=[T,S,eL l,F])∨(j=1∧∃n:Int,os=[.int .i64 n,T,S,eL l,F]))∧Is ve [.int .i64 0,.int .i64 0,T,S,eL l,F] j os:=
 db (aF:=l) (enc:=fun k (n:Int)=>[.int .i64 n,.int .i64 k,T,S,eL l,F]) (I:=fun _ _=>True) (Q:=fun j os=>(j=0∧os=[T,S,eL l,F])∨(j=1∧∃n:Int,os=[.int .i64 n,T,S,eL l,F])) JX (fun _ _=>rfl)
  (fun k n x hk _ hx=>by
   have w:=bj hk (by omega)
   have e1:(k:Int)<l.length:=by omega
   have hx':l[k]? =some x:=by rw [Wj hk,hx]
   unfold vf
   simp only [aI,aR,WB,Xl,XZ,ah,bh,aL,ae,ag,aw,ZD,aA,aB,aX,bc,aV,aT,aJ,aM,aP,ba,aU,aE,Wt,VV,Xt,aD,aH,eS,eT,eL,aZ,eF,aC,ak,nc,hx',if_pos e1,if_pos (WN k)]
   refine az (fun _=>aq (.exit 0 [T,S,eL l,F]) (by simp [eL,eS]) (.inl ⟨_,_,rfl,.inl ⟨rfl,rfl⟩⟩)) (fun _=>?_)
   exact aq (.next [.int .i64 (IntKind.i64.wrap (n+x.length)),.int .i64 ((k+1:Nat):Int),T,S,eL l,F]) (by simp [w,eL,eS,hx']) (.inr ⟨_,rfl,trivial⟩))
  (fun n _=>aq (.exit 1 [.int .i64 n,T,S,eL l,F]) (by simp [vf,eL]) ⟨_,_,rfl,.inr ⟨rfl,n,rfl⟩⟩) 0 trivial
theorem LC (l:List Fu) (hl:l.length≤40) (z:Int) (T S P:D): ∃j os,((j=0∧os=[T,S,P,eF l])∨(j=1∧(∀g∈l,g.l.length≤60)∧((∀g∈l,g.k.length≤140737488355328)→∀g∈l,g.k.length≤1500)∧os=[.int .i64 z,T,S,P,eF l]))∧Is vg [.int .i64 z,.int .i64 0,.int .i64 0,T,S,P,eF l] j os:=
 db (aF:=l) (enc:=fun k (n:Int)=>[.int .i64 z,.int .i64 n,.int .i64 k,T,S,P,eF l]) (I:=fun k n=>(∀(i:Nat) (g:Fu),i<k→l[i]? =some g→g.l.length≤60)∧((∀g∈l,g.k.length≤140737488355328)→0≤n∧n≤1500∧∀(i:Nat) (g:Fu),i<k→l[i]? =some g→g.k.length≤1500)) (Q:=fun j os=>(j=0∧os=[T,S,P,eF l])∨(j=1∧(∀g∈l,g.l.length≤60)∧((∀g∈l,g.k.length≤140737488355328)→∀g∈l,g.k.length≤1500)∧os=[.int .i64 z,T,S,P,eF l])) JY (fun _ _=>rfl)
  (fun k n x hk hI hx=>by
   have w:=bj hk (by omega)
   have e1:(k:Int)<l.length:=by omega
   have hx':l[k]? =some x:=by rw [Wj hk,hx]
   unfold vh
   simp only [aI,aR,WB,Xl,XZ,ah,bh,aL,ae,ag,aw,ZD,aA,aB,aX,bc,aV,aT,aJ,aM,aP,ba,aU,aE,Wt,VV,Xt,aD,aH,eS,eT,eL,aZ,eF,aC,ak,Fu.e,ft,hx',if_pos e1,if_pos (WN k)]
   refine az (fun _=>aq (.exit 0 [T,S,P,eF l]) (by simp [eF,Fu.e]) (.inl ⟨_,_,rfl,.inl ⟨rfl,rfl⟩⟩)) (fun h1=>az (fun _=>aq (.exit 0 [T,S,P,eF l]) (by simp [eF,Fu.e]) (.inl ⟨_,_,rfl,.inl ⟨rfl,rfl⟩⟩)) (fun h2=>?_))
   refine aq (.next [.int .i64 z,.int .i64 (IntKind.i64.wrap (n+x.k.length)),.int .i64 ((k+1:Nat):Int),T,S,P,eF l]) (by simp [w,eF,Fu.e,hx']) (.inr ⟨_,rfl,fun i g hi hg=>?_,fun hk2=>?_⟩)
   ·by_cases hik:i=k
    ·subst hik
     rw [hx'] at hg
     rw [←VF hg];omega
    ·exact hI.1 i g (by omega) hg
   ·obtain ⟨n1,n2,n3⟩:=hI.2 hk2
    have hxl:=hk2 x (Zm hx')
    have hwr:IntKind.i64.wrap (n+x.k.length)=n+x.k.length:=WJ _ (by omega)
    rw [hwr] at h2⊢
    refine ⟨by omega,by omega,fun i g hi hg=>?_⟩
    by_cases hik:i=k
    ·subst hik
     rw [hx'] at hg
     rw [←VF hg];omega
    ·exact n3 i g (by omega) hg)
  (fun n hI=>aq (.exit 1 [.int .i64 z,T,S,P,eF l]) (by simp [vh,eF]) ⟨_,_,rfl,.inr ⟨rfl,fun g hg=>by
   obtain ⟨i,hi,rfl⟩:=List.mem_iff_getElem.1 hg
   exact hI.1 i _ hi (Wj hi),fun hk2 g hg=>by
   obtain ⟨i,hi,rfl⟩:=List.mem_iff_getElem.1 hg
   exact (hI.2 hk2).2.2 i _ hi (Wj hi),rfl⟩⟩) 0 ⟨fun i g h=>absurd h (by omega),fun _=>⟨by omega,by omega,fun i g h=>absurd h (by omega)⟩⟩
structure U4 (m:Mo):Prop where
 t:m.t.length≤9
 c: ∀c∈m.t,HC c
 s:m.s.length≤200
 p:m.p.length≤120
 f:m.f.length≤40
 l: ∀g∈m.f,g.l.length≤60
 k: ∀g∈m.f,g.k.length≤1500
theorem TS (m:Mo) (hK: ∀g∈m.f,g.k.length≤140737488355328): ∃b:Bool,(b=false→U4 m)∧Ok 7 [.agg m.e] (.c (.bool b)):=by
 obtain ⟨r,⟨b,hb,rfl⟩,h⟩:=xU (l:=[eT m.t,aZ m.s,eL m.p,eF m.f]) (R:=fun r=>∃b:Bool,(b=false→U4 m)∧r= .c (.bool b)) (ds:=[.agg m.e]) UN (by simp [Mo.e,eT,aZ,eL,eF]) (by simp) (by
  have yes: ∀{t':PT} {l':List D},W [(22,none)] [ve,vg] t' l' (fun o=>o= .ret (.c (.bool true)))→W [(22,none)] [ve,vg] t' l' fun o=>∃r,o= .ret r∧∃b:Bool,(b=false→U4 m)∧r= .c (.bool b):=fun h=>aq _ h ⟨_,rfl,true,(fun h=>nomatch h),rfl⟩
  unfold Sw
  obtain ⟨b,hbB,hb⟩:=Re m.t
  refine ai rfl hb (by simp) (by simp) (by simp) (by simp) ?_
  simp only [aI,aR,WB,Xl,XZ,ah,bh,aL,ae,ag,aw,ZD,aA,aB,aX,bc,aV,aT,aJ,aM,aP,ba,aU,aE,Wt,VV,Xt,aD,aH,eS,eT,eL,aZ,eF,aC,ak]
  cases b
  case true=>simp only [a9];exact yes (by simp)
  obtain ⟨ht,hc⟩:=hbB rfl
  simp only [aQ]
  refine az (fun _=>yes (by simp)) (fun h1=>az (fun _=>yes (by simp)) (fun h2=>az (fun _=>yes (by simp)) (fun h3=>?_)))
  obtain ⟨j,os,hj,hL⟩:=LA m.p (by omega) (eT m.t) (aZ m.s) (eF m.f)
  refine ar rfl hL (by simp [eT,aZ,eL,eF]) ?_
  rcases hj with ⟨rfl,rfl⟩ |⟨rfl,n,rfl⟩
  ·simp only [al,V8,ZL,true_and];exact yes (by simp)
  simp only [ay,al,V8,ZL,true_and]
  obtain ⟨j,os,hj,hL⟩:=LC m.f (by omega) n (eT m.t) (aZ m.s) (eL m.p)
  refine ar rfl hL (by simp) ?_
  rcases hj with ⟨rfl,rfl⟩ |⟨rfl,hl,hk2,rfl⟩
  ·simp only [al,V8,ZL,true_and];exact yes (by simp)
  simp only [ay,al,V8,ZL,true_and]
  exact aq (.ret (.c (.bool (decide (5000<n))))) (by simp) ⟨_,rfl,_,fun _=>⟨ht,hc,by omega,by omega,by omega,hl,hk2 hK⟩,rfl⟩)
 exact ⟨b,hb,h⟩
theorem Rf (a:Int) (n:Nat) (h0:0<n) (hn:n≤1000): ∃p:Nat,p<n∧Ok 17 [.c (.int .i64 a),.c (.int .i64 (n:Int))] (.c (.int .i64 (p:Int))):=by
 obtain ⟨r,⟨p,hp,rfl⟩,h⟩:=xU (l:=[.int .i64 a,.int .i64 (n:Int)]) (R:=fun r=>∃p:Nat,p<n∧r= .c (.int .i64 (p:Int))) (ds:=[.c (.int .i64 a),.c (.int .i64 (n:Int))]) Sz (by simp) (by simp) (by
  unfold Oa
  simp only [aI,aR,WB,Xl,XZ,ah,bh,aL,ae,ag,aw,ZD,aA,aB,aX,bc,aV,aT,aJ,aM,aP,ba,aU,aE,Wt,VV,Xt,aD,aH,eS,eT,eL,aZ,eF,aC,ak,PV]
  rw [if_neg (by omega),if_pos (by omega)]
  have l1:a.tmod n<n:=Int.tmod_lt_of_pos a (by omega)
  have l2: -(n:Int)<a.tmod n:=by
   have h3:(a.tmod n).natAbs<n:=by
    have:=Int.natAbs_tmod a n
    have:=Nat.mod_lt a.natAbs (show 0<(n:Int).natAbs by omega)
    omega
   omega
  refine az (fun h1=>?_) (fun h1=>?_)
  ·have w:IntKind.i64.wrap (a.tmod n+n)=a.tmod n+n:=WJ _ (by omega)
   have e:a.tmod n+n=(((a.tmod n+n).toNat:Nat):Int):=by omega
   exact aq (.ret (.c (.int .i64 (((a.tmod n+n).toNat:Nat):Int)))) (by simp [w];omega) ⟨_,rfl,(a.tmod n+n).toNat,by omega,rfl⟩
  ·exact aq (.ret (.c (.int .i64 (((a.tmod n).toNat:Nat):Int)))) (by simp;omega) ⟨_,rfl,(a.tmod n).toNat,by omega,rfl⟩)
 exact ⟨p,hp,h⟩
@[simp] theorem Rg {s:oZ}:aW [.bool,tL] (nn s)=True:=by simp [nn]
@[simp] theorem RI {S:List oZ}:bx (.aF [.bool,tL]) (ck S)=True:=by
 unfold ck
 simp only [xR,List.mem_map,eq_iff_iff,iff_true]
 rintro r ⟨s,_,rfl⟩
 simp
abbrev FX (S:List oZ) (w a:Int):DV:=.jO [.c (ck S),.agg [.int .i64 w,.int .i64 a]]
theorem O2 {m:Mo} (hG:Good m) {f:Nat} {g:Fu} (hg:m.f[f]? =some g) {T:In→List bn×bn×Int} (hTO:TO m f g T): ∃S w a,((w=0∧a=0∧yc m T g S)∨w≠0∧iy m.t T g.k g.k.length=none)∧Ok 13 [.agg m.e,.c (.int .i64 (f:Int))] (FX S w a):=by
 have hf:=(List.getElem?_eq_some_iff.1 hg).1
 obtain ⟨r,hR,hP⟩:=Rd hG.ok hg hTO
 obtain ⟨S,w,a,hS,rfl⟩: ∃S w a,((w=0∧a=0∧yc m T g S)∨w≠0∧iy m.t T g.k g.k.length=none)∧r=FX S w a:=by
  rcases hR with ⟨S,h,rfl⟩ |⟨h,w,a,hw,rfl⟩
  ·exact ⟨S,0,0,.inl ⟨rfl,rfl,h⟩,rfl⟩
  ·exact ⟨[],w,a,.inr ⟨hw,h⟩,rfl⟩
 refine ⟨S,w,a,hS,?_⟩
 refine lL (l:=[eT m.t,aZ m.s,eL m.p,eF m.f,.int .i64 (f:Int)]) N8 (by simp [Mo.e,eT,aZ,eL,eF]) (by simp) ?_
 unfold JZ
 refine ai rfl (TJ hG) (by simp [Mo.e,eT,aZ,eL,eF]) (by simp) (by simp) (by simp) ?_
 simp only [aI,aR,WB,Xl,XZ,ah,bh,aL,ae,ag,aw,ZD,aA,aB,aX,bc,aV,aT,aJ,aM,aP,ba,aU,aE,Wt,VV,Xt,aD,aH,eS,eT,eL,aZ,eF,aC,ak]
 rw [if_true,if_neg (by omega),if_neg (by omega)]
 refine ai rfl hP (by simp [Mo.e,eT,aZ,eL,eF]) (by simp) (by simp) (by simp) ?_
 simp
theorem Rh {m:Mo} (hl:LnF m) {f:Nat} {g:Fu} (hg:m.f[f]? =some g): ∃S w a,(w=0→Good m∧yc m (told m f) g S)∧Ok 13 [.agg m.e,.c (.int .i64 (f:Int))] (FX S w a):=by
 obtain ⟨w,a,hw,hC⟩:=QO m hl
 by_cases hc:w=0
 ·obtain ⟨_,hG⟩:=hw hc
  obtain ⟨S,w,a,h1,h⟩:=O2 hG hg (TO.told hG.ok hg)
  exact ⟨S,w,a,fun hw=>⟨hG,(h1.resolve_right fun h=>h.1 hw).2.2⟩,h⟩
 ·refine ⟨[],w,a,fun h=>absurd h hc,?_⟩
  refine lL (l:=[eT m.t,aZ m.s,eL m.p,eF m.f,.int .i64 (f:Int)]) N8 (by simp [Mo.e,eT,aZ,eL,eF]) (by simp) ?_
  unfold JZ
  refine ai rfl hC (by simp [Mo.e,eT,aZ,eL,eF]) (by simp) (by simp) (by simp) ?_
  simp only [aI,aR,WB,Xl,XZ,ah,bh,aL,ae,ag,aV,aT,aC,ak]
  rw [if_neg hc]
  simp [ck]
end
section
open Go
abbrev pad (c:Nat):List oZ:=List.replicate c (false,[])
section
variable {t:List Cl} {n n':Nat} (hn:n≤n') {S:List oZ} (P:List oZ)
include hn
theorem LF {p q:Nat} {st:List bn} {A A':Ah} (hS:S.length=n) (h:e9 t n p q st S A=some A'):e9 t n' p q st (S++P) A=some A':=by
 unfold e9 at h⊢
 by_cases h1:n≤q
 ·rw [if_pos h1] at h;cases h
 rw [if_neg h1] at h
 rw [if_neg (by omega),VJ (by omega)]
 exact h
theorem FY {p:Nat} {st:List bn} (hS:S.length=n): ∀{qs:List Nat} {A A':Ah},cm t n p st S qs A=some A'→cm t n' p st (S++P) qs A=some A'
 |[],_,_,h=>h
 |q::qs,A,A',h=>by
  unfold cm at h⊢
  cases h1:e9 t n p q st S A with
  |none=>rw [h1] at h;cases h
  |some A1=>
   rw [h1] at h
   rw [LF hn P hS h1]
   exact FY hS h
theorem NK {T T':In→List bn×bn×Int} {p:Nat} {x:In} {A:Ah} {b:List oZ×Ah} (hS:S.length=n) (hp:p<n) (hT:(T x).2.2=0→T' x=T x) (h:dI t T n p x S A=some b):dI t T' n' p x (S++P) A=some (b.1++P,b.2):=by
 unfold dI at h⊢
 cases hl:eD A p with
 |none=>rw [hl] at h;obtain rfl:=VF h;rfl
 |some st=>
  rw [hl] at h
  dsimp only at h⊢
  by_cases hs:wj t (T x) st∧(x.o=28→after st (T x).1 (T x).2.1=[])
  case neg=>rw [if_neg hs] at h;cases h
  rw [if_pos hs] at h
  rw [hT hs.1.1,if_pos hs,List.set_append_left _ _ (by omega)]
  cases hm:cm t n p (after st (T x).1 (T x).2.1) (S.set p (true,st)) (targets x p) (cZ p A) with
  |none=>rw [hm] at h;cases h
  |some A'=>
   rw [hm] at h
   obtain rfl:=VF h
   rw [FY hn P (by simpa using hS) hm]
   rfl
end
theorem LG {t:List Cl} {T:In→List bn×bn×Int} {n p:Nat} {x:In} {S:List oZ} {A:Ah} {b:List oZ×Ah} (h:dI t T n p x S A=some b):b.1.length=S.length:=by
 unfold dI at h
 cases hl:eD A p with
 |none=>rw [hl] at h;obtain rfl:=VF h;rfl
 |some st=>
  rw [hl] at h
  dsimp only at h
  split at h
  ·obtain ⟨A',_,rfl⟩:=Option.map_eq_some_iff.1 h
   simp
  ·cases h
section
variable {t:List Cl} {T T':In→List bn×bn×Int} {ks more:List In}
theorem LH (hT: ∀x,(T x).2.2=0→T' x=T x): ∀(k:Nat),k≤ks.length→∀b,iy t T ks k=some b→b.1.length=ks.length∧iy t T' (ks++more) k=some (b.1++pad more.length,b.2)
 |0,_,b,h=>by
  obtain rfl:=VF h
  refine ⟨by simp,?_⟩
  show some _=some _
  simp [pad,List.replicate_append_replicate]
 |k+1,hk,b,h=>by
  cases h1:iy t T ks k with
  |none=>rw [show iy t T ks (k+1)=none from rJ h1 1] at h;cases h
  |some b1=>
   obtain ⟨hl,h2⟩:=LH hT k (by omega) b1 h1
   have hx:ks[k]? =some ks[k]:=Wj (by omega)
   have hx':(ks++more)[k]? =some ks[k]:=by rw [VJ (by omega)];exact hx
   rw [ko hx h1] at h
   rw [ko hx' h2]
   exact ⟨(LG h).trans hl,NK (by simp) _ hl (by omega) (hT _) h⟩
theorem LI {b:List oZ×Ah} {n:Nat} (hn:n≤ks.length) (hA: ∀q,n≤q→eD b.2 q=none) (h:iy t T ks n=some b): ∀c,n+c≤ks.length→iy t T ks (n+c)=some b
 |0,_=>h
 |c+1,hc=>by
  have hx:ks[n+c]? =some ks[n+c]:=Wj (by omega)
  have h1:=LI hn hA h c (by omega)
  show iy t T ks (n+c+1)=some b
  rw [ko hx h1]
  unfold dI
  rw [hA (n+c) (by omega)]
end
def Hu (m:Mo) (f:Nat) (g:Fu) (more:List In):Mo:={m with f:=m.f.set f {g with k:=g.k++more}}
section
variable {m:Mo} {f:Nat} {g:Fu} (hg:m.f[f]? =some g) (more:List In)
include hg
theorem Ex:(Hu m f g more).f[f]? =some {g with k:=g.k++more}:=by
 have hf:=(List.getElem?_eq_some_iff.1 hg).1
 show (m.f.set f _)[f]? =_
 rw [ZQ hf]
theorem Ri:MU m (Hu m f g more):=by
 refine ⟨_,⟨by simp,fun i g' h=>?_⟩,rfl⟩
 by_cases hi:f=i
 ·subst hi
  rw [hg] at h
  obtain rfl:=VF h
  exact ⟨_,Ex hg more,by simp⟩
 ·exact ⟨g'.k,by rw [ZX hi];exact h,VY _⟩
theorem LJ (hG:Good m) (hk:g.k.length+more.length≤20000):Good (Hu m f g more):=by
 have hf:=(List.getElem?_eq_some_iff.1 hg).1
 refine ⟨hG.t,hG.o,hG.sl,hG.s,hG.p,hG.pl,by have:=hG.n;simpa [Hu] using this,fun x h=>?_,fun g' h=>?_⟩
 ·have hx:x<m.f.length:=by simpa [Hu] using h
  have hfit:=hG.fit x hx
  by_cases hxf:f=x
  ·subst hxf
   have e:m.f[f]=g:=VF ((Wj hx).symm.trans hg)
   have e2:(Hu m f g more).f[f]={g with k:=g.k++more}:=VF ((Wj h).symm.trans (Ex hg more))
   rw [e2]
   rw [e] at hfit
   exact hfit
  ·have e2:(Hu m f g more).f[x]=m.f[x]:=List.getElem_set_ne hxf _
   rw [e2]
   exact hfit
 ·rcases List.mem_or_eq_of_mem_set h with h |rfl
  ·exact hG.f g' h
  ·obtain ⟨q1,q2,q3,q4⟩:=hG.f g (Zm hg)
   exact ⟨q1,fun e=>q2 (List.append_eq_nil_iff.1 e).1,by simpa using hk,q4⟩
theorem Rj (hG:Good m) (hk:g.k.length+more.length≤20000) {S:List oZ} (hS:yc m (told m f) g S):Ok 13 [.agg (Hu m f g more).e,.c (.int .i64 (f:Int))] (FX (S++pad more.length) 0 0):=by
 have hG':=LJ hg more hG hk
 have hg':=Ex hg more
 have hTm:=TO.told hG.ok hg
 have hTu:=TO.told hG'.ok hg'
 obtain ⟨A,hl,_,hA,hr⟩:=hS
 open Classical in
 obtain ⟨T',hT',hTO⟩: ∃T':In→List bn×bn×Int,(∀x,(told m f x).2.2=0→T' x=told m f x)∧TO (Hu m f g more) f {g with k:=g.k++more} T':=by
  refine ⟨fun x=>if (told m f x).2.2=0 then told m f x else told (Hu m f g more) f x,fun x h=>if_pos h,fun x hx=>?_⟩
  have hf:=(List.getElem?_eq_some_iff.1 hg).1
  by_cases h:(told m f x).2.2=0
  ·simp only [if_pos h]
   obtain ⟨h1,_,h3⟩:=zX hG.ok hf x
   obtain ⟨q1,q2,q3⟩:=h1 g hg
   refine ⟨⟨q1,q2,fun e ho=>?_⟩,(h3 h).up (Ri hg more)⟩
   obtain ⟨a1,a2⟩:=q3 e ho
   refine ⟨a1,?_⟩
   simp only [V7]
   omega
  ·simp only [if_neg h]
   exact hTu x hx
 obtain ⟨_,h2⟩:=LH (more:=more) hT' g.k.length (VY _) _ hr
 have h3:=LI (by simp) (fun q hq=>by
  cases h:eD A q with
  |none=>rfl
  |some w=>have:=(hA q w hq h).1;omega) h2 more.length (by simp)
 obtain ⟨S',w,a,h4,hOk⟩:=O2 hG' hg' hTO
 have h5:iy (Hu m f g more).t T' (g.k++more) (g.k++more).length=some (S++pad more.length,A):=by rw [V7];exact h3
 rcases h4 with ⟨rfl,rfl,A',_,_,_,h6⟩ |⟨_,h6⟩
 ·have h7:(S++pad more.length,A)=(S',A'):=VF (h5.symm.trans h6)
  rw [show S'=S++pad more.length from (congrArg Prod.fst h7).symm] at hOk
  exact hOk
 ·exact absurd (h5.symm.trans h6) (by simp)
end
end
section
open Go
theorem TT:Ok 8 [] (.c (.bool true)):=by
 have a1:Is UU [] 0 []:=vO Tj rfl (by simp [OT])
 have a2:Is UW [] 0 []:=vO Tk rfl (by simp [OU])
 have a3:Is KS [] 0 []:=vO M3 rfl (by simp [Fz])
 refine lL (l:=[]) UX (by simp) (by simp) ?_
 unfold Tl
 refine ar rfl a1 (by simp) ?_
 simp only [al,ZL,true_and,XZ]
 refine ar rfl a2 (by simp) ?_
 simp only [al,ZL,true_and,XZ]
 refine ar rfl a3 (by simp) ?_
 simp only [al,ZL,true_and,XZ]
 simp
theorem nm {α:Type} {l:List α} {k:Nat} {x:α} (h:l[k]? =some x):l.take k++[x]=l.take (k+1):=by
 obtain ⟨hk,rfl⟩:=List.getElem?_eq_some_iff.1 h
 rw [List.take_succ_eq_append_getElem hk]
theorem LK {α:Type} {fids:List lP} {lds:List LD} {t:PT} {L:LD} {aF:List α} {enc:Nat→List α→List D} {fin:List α→List D} (hc:bg Tryz.prog 100000 L fids lds t=true) (hl: ∀k b,(enc k b).length=L.k)
 (h1: ∀k x,k<aF.length→aF[k]? =some x→W fids lds t (enc k (aF.take k)) fun o=>o= .next (enc (k+1) (aF.take k++[x])))
 (h2:W fids lds t (enc aF.length aF) fun o=>o= .exit 0 (fin aF)):Is L (enc 0 []) 0 (fin aF):=by
 obtain ⟨j,os,⟨rfl,rfl⟩,h⟩:=db (aF:=aF) (enc:=enc) (I:=fun k b=>b=aF.take k) (Q:=fun j os=>j=0∧os=fin aF) hc hl
  (fun k b x hk hI hx=>by
   subst hI
   have hx':aF[k]? =some x:=by rw [Wj hk,hx]
   exact aq _ (h1 k x hk hx') (.inr ⟨_,rfl,nm hx'⟩))
  (fun b hI=>by
   rw [List.take_length] at hI
   subst hI
   exact aq _ h2 ⟨_,_,rfl,rfl,rfl⟩) [] (by simp)
 exact h
theorem Hv (l:List Sg) (n s:bn) (F:D) (h:l.length≤7) (hp: ∀x∈l,x.p.length≤10):Is zg [.aF [],.int .i64 0,.str n,.str s,F,.aF (l.map Sg.e)] 0 [.aF (l.map Sg.e),F,.str n,.str s,.aF (l.map Sg.e)]:=
 LK (aF:=l) (enc:=fun k b=>[.aF (b.map Sg.e),.int .i64 k,.str n,.str s,F,.aF (l.map Sg.e)]) (fin:=fun b=>[.aF (b.map Sg.e),F,.str n,.str s,.aF (l.map Sg.e)]) G1 (fun _ _=>rfl)
  (fun k x hk hx=>by
   have w:=bj hk (by omega)
   have e1:(k:Int)<l.length:=by omega
   have e2:(x.p.length:Int)≤100000000:=by have:=hp x (Zm hx);omega
   have e3:(((l.take k).length:Nat):Int)≤100000000:=by rw [V9];omega
   unfold rp
   simp only [aI,aR,WB,Xl,XZ,ah,bh,aL,ae,ag,aw,ZD,aA,aB,ak,aU,aE,Wt,VV,Xt,aD,aH,Sg.e,hx,if_pos e1,if_pos e2,if_pos e3,if_pos (WN k)]
   refine az (fun _=>by simp [hx,w,Sg.e]) (fun h0=>?_)
   have hp0:x.p=[]:=Wk (by omega)
   simp [hx,w,Sg.e,hp0])
  (by simp [rp])
theorem Rk (c:Cl) (h:HC c):Ok 42 [.agg c.e] (.agg c.e):=by
 obtain ⟨h1,h2,h3⟩:=h
 refine lL (l:=c.e) SF (by simp [Cl.e]) (by simp [Cl.e]) ?_
 have e1:(c.f.length:Int)≤100000000:=by omega
 have hL:=Hv c.m c.n c.s (.aF (c.f.map Vr.e)) h2 h3
 unfold Og
 simp only [Cl.e,ah,bh,aL,ae,ag,aw,ZD,aA,aB,ak,if_pos e1]
 refine az (fun _=>?_) (fun h0=>?_)
 ·refine ar rfl hL (by simp) ?_
  simp only [al,V8,ZL,true_and]
  simp
 ·have hp0:c.f=[]:=Wk (by omega)
  refine ar rfl hL (by simp [hp0]) ?_
  simp only [al,V8,ZL,true_and]
  simp [hp0]
theorem Rl (t:List Cl) (h:t.length≤9) (hc: ∀c∈t,HC c):Ok 26 [.c (eT t)] (.c (eT t)):=by
 have hL:Is D0 [eT t,eT [],.int .i64 0] 0 [eT t]:=
  LK (aF:=t) (enc:=fun k b=>[eT t,eT b,.int .i64 k]) (fin:=fun b=>[eT b]) J3 (fun _ _=>rfl)
   (fun k x hk hx=>by
    have w:=bj hk (by omega)
    have e1:(k:Int)<t.length:=by omega
    have e3:(((t.take k).length:Nat):Int)≤100000000:=by rw [V9];omega
    unfold vj
    simp only [ah,bh,aL,ae,ag,eT,aw,ZD,aA,aB,ak,if_pos e1,if_pos (WN k)]
    refine ai rfl (Rk x (hc x (Zm hx))) (by simp [hx,Cl.e]) (by simp [Cl.e]) (by simp [Cl.e]) (by simp [Cl.e]) ?_
    simp only [aI,aR,Cl.e,WB,Xl,XZ,ah,bh,aL,ae,ag,aw,ZD,aB,ak,if_pos e3]
    simp [w,Cl.e])
   (by simp [vj,eT])
 refine lL (l:=[eT t]) SB (by simp) (by simp) ?_
 unfold Oc
 refine ar rfl hL (by simp [eT]) ?_
 simp only [al,V8,ZL,true_and]
 simp
theorem Rm (l:List Si) (h:l.length≤1000):Ok 27 [.c (aZ l)] (.c (aZ l)):=by
 refine lL (l:=[aZ l]) SC (by simp) (by simp) ?_
 have e1:(l.length:Int)≤100000000:=by omega
 unfold Od
 simp only [ah,bh,aL,ae,ag,aZ,aw,ZD,aA,aB,ak,if_pos e1]
 refine az (fun _=>by simp) (fun h0=>?_)
 obtain rfl:l=[]:=Wk (by omega)
 simp
theorem zY (l:List bn) (h:l.length≤1000):Is LX [eL l] 0 [eL l]:=by
 refine vO Tn rfl ?_
 have e1:(l.length:Int)≤100000000:=by omega
 unfold OV
 simp only [ah,bh,aL,ae,ag,eL,aw,ZD,aA,aB,ak,if_pos e1]
 refine az (fun _=>by simp) (fun h0=>?_)
 obtain rfl:l=[]:=Wk (by omega)
 simp
theorem Rn (l:List bn) (h:l.length≤1000):Ok 35 [.c (eL l),.c (eL l)] (.c (.bool true)):=by
 obtain ⟨j,os,⟨rfl,rfl⟩,hL⟩:=db (aF:=l) (enc:=fun k (_:Unit)=>[eL l,eL l,.bool true,.int .i64 k]) (I:=fun _ _=>True) (Q:=fun j os=>j=0∧os=[.bool true]) J5 (fun _ _=>rfl)
  (fun k u x hk _ hx=>by
   have w:=bj hk (by omega)
   have e1:(k:Int)<l.length:=by omega
   have hx':l[k]? =some x:=by rw [Wj hk,hx]
   unfold vk
   simp only [ah,bh,aL,ae,ag,a9,eL,aw,ZD,aA,aB,ak,if_pos e1,if_pos (WN k)]
   exact aq (.next [eL l,eL l,.bool true,.int .i64 ((k+1:Nat):Int)]) (by simp [w,hx',eL,eS]) (.inr ⟨(),rfl,trivial⟩))
  (fun u _=>aq (.exit 0 [.bool true]) (by simp [vk,eL]) ⟨_,_,rfl,rfl,rfl⟩) () trivial
 refine lL (l:=[eL l,eL l]) SD (by simp) (by simp) ?_
 unfold Oe
 refine ar rfl hL (by simp [eL]) ?_
 simp only [al,V8,ZL,true_and]
 simp
theorem Ro (S:List oZ) (h:S.length≤100000) (hs: ∀s∈S,s.2.length≤1000):Ok 15 [.c (ck S),.c (ck S)] (.c (.bool true)):=by
 obtain ⟨j,os,⟨rfl,rfl⟩,hL⟩:=db (aF:=S) (enc:=fun k (_:Unit)=>[ck S,ck S,.bool true,.int .i64 k]) (I:=fun _ _=>True) (Q:=fun j os=>j=0∧os=[.bool true]) J1 (fun _ _=>rfl)
  (fun k u x hk _ hx=>by
   have w:=bj hk (by omega)
   have e1:(k:Int)<S.length:=by omega
   have hx':S[k]? =some x:=by rw [Wj hk,hx]
   unfold vi
   simp only [ah,bh,aL,ae,ag,a9,ck,aw,ZD,aA,aB,ak,if_pos e1,if_pos (WN k),aU,aE,Wt,VV,hx',Xt,nn,aD,JQ,beq_self_eq_true]
   refine ai rfl (Rn x.2 (hs x (Zm hx'))) (by simp [hx',nn]) (by simp) (by simp) (by simp) ?_
   exact aq (.next [ck S,ck S,.bool true,.int .i64 ((k+1:Nat):Int)]) (by simp [w,ck]) (.inr ⟨(),rfl,trivial⟩))
  (fun u _=>aq (.exit 0 [.bool true]) (by simp [vi,ck]) ⟨_,_,rfl,rfl,rfl⟩) () trivial
 refine lL (l:=[ck S,ck S]) Sy (by simp) (by simp) ?_
 unfold N9
 refine ar rfl hL (by simp [ck]) ?_
 simp only [al,V8,ZL,true_and]
 simp
end
section
open Go
theorem U5 {α:Type} {fids:List lP} {lds:List LD} {t:PT} {L LB:LD} (hc:qf Tryz.prog 100000 L LB fids lds t=true) (hjc:LB.call=false) (hjf:LB.f=L.f) (hjp:LB.p=L.p) (hjk:LB.bo=L.bo) (hjo:LB.outs=L.outs) {enc:α→List D} {I:α→Prop} {μ:α→Nat} {i:Nat} {os:List D}
 (h: ∀a,I a→(enc a).length=L.k∧W fids lds t (enc a) fun o=>(∃a',o= .next (enc a')∧I a'∧μ a'<μ a)∨∃ins',o= .ret (.agg ins')∧Is LB ins' i os) (a:α) (ha:I a):Is L (enc a) i os:=by
 refine xS (JT jF HA K3 gP hc (Fp (L:=LB)) hjc hjf hjp hjk hjo (G:=fun n ins j outs=>∃a,I a∧μ a=n∧ins=enc a∧j=i∧outs=os) fun n ins j outs hg=>?_) fun ins' j outs hg=>by obtain ⟨rfl,rfl,rfl⟩:=hg;exact ⟨μ a,a,ha,rfl,rfl,rfl,rfl⟩
 obtain ⟨a,ha,rfl,rfl,rfl,rfl⟩:=hg
 obtain ⟨hk,l',o,h1,h2⟩:=h a ha
 refine ⟨hk,l',?_⟩
 rcases h2 with ⟨a',rfl,ha',hlt⟩ |⟨ins',rfl,hB⟩
 ·exact .inr (.inl ⟨_,h1,_,hlt,a',ha',rfl,rfl,rfl,rfl⟩)
 ·exact .inr (.inr ⟨ins',h1,hB⟩)
section
variable {F:List Fu} (hF:F.length≤40) (hl: ∀g∈F,g.l.length≤60) (hk: ∀g∈F,g.k.length≤1500) (T S P:D)
include hF hl hk
theorem LL:Is Ei [eF [],.int .i64 0,T,S,P,eF F] 0 [eF F,P,T,S,eF F]:=
 LK (aF:=F) (enc:=fun k b=>[eF b,.int .i64 k,T,S,P,eF F]) (fin:=fun b=>[eF b,P,T,S,eF F]) KT (fun _ _=>rfl)
  (fun k x hkl hx=>by
   have w:=bj hkl (by omega)
   have e1:(k:Int)<F.length:=by omega
   have e2:(x.k.length:Int)≤100000000:=by have:=hk x (Zm hx);omega
   have e3:(((F.take k).length:Nat):Int)≤100000000:=by rw [V9];omega
   unfold vI
   simp only [ah,bh,aL,ae,ag,eF,aw,ZD,aA,aB,ak,if_pos e1,if_pos (WN k)]
   refine ar rfl (zY x.l (by have:=hl x (Zm hx);omega)) (by simp [hx,Fu.e,eL]) ?_
   simp only [al,V8,ZL,true_and,WB,Xl,ah,bh,aL,ae,ag,aU,aE,Wt,VV,hx,Xt,Fu.e,aD,aH,aw,ZD,aA,aB,ak,if_pos e2,if_pos e3]
   refine az (fun _=>by simp [hx,w,Fu.e,eL]) (fun h0=>?_)
   have hp0:x.k=[]:=Wk (by omega)
   simp [hx,w,Fu.e,hp0,eL])
  (by simp [vI,eF])
theorem Rp {f:Nat} {g:Fu} (hg:F[f]? =some g) (d:D):Is UY [eF ((F.set f {g with k:=[]}).take (f+1)),.int .i64 ((f+1:Nat):Int),T,S,P,eF F,.int .i64 (f:Int),d] 0 [eF (F.set f {g with k:=[]}),P,T,S,eF F,.int .i64 (f:Int),d]:=by
 have hf:=(List.getElem?_eq_some_iff.1 hg).1
 obtain ⟨j,os,⟨rfl,rfl⟩,h⟩:=LY (enc:=fun k:Nat=>[eF ((F.set f {g with k:=[]}).take k),.int .i64 (k:Int),T,S,P,eF F,.int .i64 (f:Int),d]) (I:=fun k=>f<k∧k≤F.length) (μ:=fun k=>F.length - k)
  (Q:=fun _ j os=>j=0∧os=[eF (F.set f {g with k:=[]}),P,T,S,eF F,.int .i64 (f:Int),d]) Tp (fun k hI=>⟨rfl,by
   obtain ⟨hfk,hkF⟩:=hI
   by_cases hlt:k<F.length
   ·have hx:F[k]? =some F[k]:=Wj hlt
    generalize F[k]=x at hx
    have hy:(F.set f {g with k:=[]})[k]? =some x:=by rw [ZX (by omega)];exact hx
    have w:=bj hlt (by omega)
    have e1:(k:Int)<F.length:=by omega
    have e2:(x.k.length:Int)≤100000000:=by have:=hk x (Zm hx);omega
    have e3:((((F.set f {g with k:=[]}).take k).length:Nat):Int)≤100000000:=by rw [V9,ZI];omega
    have et:=nm hy
    unfold KV
    simp only [ah,bh,aL,ae,ag,eF,aw,ZD,aA,aB,ak,if_pos e1,if_pos (WN k)]
    refine ar rfl (zY x.l (by have:=hl x (Zm hx);omega)) (by simp [hx,Fu.e,eL]) ?_
    simp only [al,V8,ZL,true_and,WB,Xl,ah,bh,aL,ae,ag,aU,aE,Wt,VV,hx,Xt,Fu.e,aD,aH,aw,ZD,aA,aB,ak,if_pos e2,if_pos e3]
    have nx: ∀{t':PT} {l':List D},W [] [LX] t' l' (fun o=>o= .next [.aF (((F.set f {g with k:=[]}).take k++[x]).map Fu.e),.int .i64 ((k+1:Nat):Int),T,S,P,eF F,.int .i64 (f:Int),d])→W [] [LX] t' l' fun o=>(∃i os,o= .exit i os∧i=0∧os=[eF (F.set f {g with k:=[]}),P,T,S,eF F,.int .i64 (f:Int),d])∨∃a':Nat,o= .next [eF ((F.set f {g with k:=[]}).take a'),.int .i64 (a':Int),T,S,P,eF F,.int .i64 (f:Int),d]∧(f<a'∧a'≤F.length)∧F.length - a'<F.length - k∧∀i os,(i=0∧os=[eF (F.set f {g with k:=[]}),P,T,S,eF F,.int .i64 (f:Int),d])→(i=0∧os=[eF (F.set f {g with k:=[]}),P,T,S,eF F,.int .i64 (f:Int),d]):=
     fun h=>aq _ h (.inr ⟨k+1,by rw [←et];rfl,⟨by omega,by omega⟩,by omega,fun _ _ h=>h⟩)
    refine az (fun _=>nx (by simp [hx,w,Fu.e,eL,eF])) (fun h0=>?_)
    have hp0:x.k=[]:=Wk (by omega)
    exact nx (by simp [hx,w,Fu.e,hp0,eL,eF])
   ·obtain rfl:k=F.length:=by omega
    have et:(F.set f {g with k:=[]}).take F.length=F.set f {g with k:=[]}:=ZJ (by simp)
    rw [et]
    exact aq (.exit 0 [eF (F.set f {g with k:=[]}),P,T,S,eF F,.int .i64 (f:Int),d]) (by simp [KV,eF]) (.inl ⟨_,_,rfl,rfl,rfl⟩)⟩) (f+1) ⟨by omega,by omega⟩
 exact h
theorem Rq {f:Nat} {g:Fu} (hg:F[f]? =some g) (hk0:g.k≠[]):Is UZ [eF [],.int .i64 0,T,S,P,eF F,.int .i64 (f:Int)] 0 [eF (F.set f {g with k:=[]}),P,T,S,eF F,.int .i64 (f:Int),eK g.k]:=by
 have hf:=(List.getElem?_eq_some_iff.1 hg).1
 refine U5 (enc:=fun k:Nat=>[eF (F.take k),.int .i64 (k:Int),T,S,P,eF F,.int .i64 (f:Int)]) (I:=fun k=>k≤f) (μ:=fun k=>f - k) Ts rfl rfl rfl rfl rfl (fun k hI=>⟨rfl,?_⟩) 0 (Xz _)
 have hlt:k<F.length:=by omega
 have hx:F[k]? =some F[k]:=Wj hlt
 generalize F[k]=x at hx
 have w:=bj hlt (by omega)
 have e1:(k:Int)<F.length:=by omega
 have e2:(x.k.length:Int)≤100000000:=by have:=hk x (Zm hx);omega
 have e3:(((F.take k).length:Nat):Int)≤100000000:=by rw [V9];omega
 have et:=nm hx
 have el:(F.take k).length=k:=by rw [V9];omega
 unfold OW
 simp only [ah,bh,aL,ae,ag,eF,aw,ZD,aA,aB,ak,if_pos e1,if_pos (WN k)]
 refine ar rfl (zY x.l (by have:=hl x (Zm hx);omega)) (by simp [hx,Fu.e,eL]) ?_
 simp only [al,V8,ZL,true_and,WB,Xl,ah,bh,aL,ae,ag,aU,aE,Wt,VV,hx,Xt,Fu.e,aD,aH,aw,ZD,aA,aB,aV,ak,JQ,if_pos e2,if_pos e3,beq_self_eq_true,a9]
 by_cases hkf:k=f
 ·subst hkf
  rw [hg] at hx
  obtain rfl:=VF hx
  have h0:(0:Int)<g.k.length:=by have:=List.length_pos_iff.2 hk0;omega
  rw [if_pos (by rw [el]),if_pos h0]
  have hB:=Rp hF hl hk T S P hg (eK g.k)
  have es:(F.set k {g with k:=[]}).take (k+1)=F.take k++[{g with k:=[]}]:=by
   have hy:(F.set k {g with k:=[]})[k]? =some {g with k:=[]}:=ZQ hf
   rw [←nm hy,List.take_set_of_le (VY _)]
  rw [es] at hB
  exact aq (.ret (.agg [eF (F.take k++[{g with k:=[]}]),.int .i64 ((k+1:Nat):Int),T,S,P,eF F,.int .i64 (k:Int),eK g.k])) (by simp [hg,w,Fu.e,eL,eF,eK]) (.inr ⟨_,rfl,hB⟩)
 ·rw [if_neg (by rw [el];omega)]
  have nx: ∀{t':PT} {l':List D} {K:k9→Prop},W [] [LX] t' l' (fun o=>o= .next [.aF ((F.take k++[x]).map Fu.e),.int .i64 ((k+1:Nat):Int),T,S,P,eF F,.int .i64 (f:Int)])→W [] [LX] t' l' fun o=>(∃a':Nat,o= .next [eF (F.take a'),.int .i64 (a':Int),T,S,P,eF F,.int .i64 (f:Int)]∧a'≤f∧f - a'<f - k)∨K o:=
   fun h=>aq _ h (.inl ⟨k+1,by rw [←et];rfl,by omega,by omega⟩)
  refine az (fun _=>nx (by simp [hx,w,Fu.e,eL,eF])) (fun h0=>?_)
  have hp0:x.k=[]:=Wk (by omega)
  exact nx (by simp [hx,w,Fu.e,hp0,eL,eF])
end
theorem Ey (S:List oZ) (c:Nat) (hS:S.length≤20000) (hc:c≤10):Is vJ [.bool true,ck S,ck (S++pad c),.int .i64 (S.length:Int)] 1 [.bool true,ck S,ck (S++pad c)]:=by
 obtain ⟨j,os,⟨rfl,rfl⟩,h⟩:=LY (enc:=fun k:Nat=>[.bool true,ck S,ck (S++pad c),.int .i64 ((S.length+k:Nat):Int)]) (I:=fun k=>k≤c) (μ:=fun k=>c - k)
  (Q:=fun _ j os=>j=1∧os=[.bool true,ck S,ck (S++pad c)]) Ej (fun k hI=>⟨rfl,by
   have el:(S++pad c).length=S.length+c:=by simp
   unfold vK
   simp only [ah,bh,aL,ae,ag,ck,aw,ZD,aA,aB,ak,el]
   by_cases hk:k<c
   ·have e1:((S.length+k:Nat):Int)<((S.length+c:Nat):Int):=by omega
    have hx:(S++pad c)[S.length+k]? =some (false,[]):=by rw [VL (by omega),List.getElem?_replicate,if_pos (by omega)]
    have w:IntKind.i64.wrap ((S.length:Int)+k+1)=(S.length:Int)+(k+1):=by rw [WJ _ (by omega)];omega
    simp only [if_pos e1,if_pos (WN _),aU,aE,Wt,VV,hx,Xt,nn,aD,aH,aQ,eL,aw,aX,List.map_nil,ZL,ak]
    rw [if_neg (by omega)]
    exact aq (.next [.bool true,ck S,ck (S++pad c),.int .i64 ((S.length+(k+1):Nat):Int)]) (by simp [w,ck]) (.inr ⟨k+1,rfl,by omega,by omega,fun _ _ h=>h⟩)
   ·rw [if_neg (by omega)]
    exact aq (.exit 1 [.bool true,ck S,ck (S++pad c)]) (by simp [ck]) (.inl ⟨_,_,rfl,rfl,rfl⟩)⟩) 0 (Xz _)
 exact h
end
section
open Go
@[simp] theorem TU {l:List In}:bx (.aF [.int .i64,.int .i64,.int .i64,.int .i64]) (eK l)=True:=by simp [eK]
theorem LM {F:List Fu} {f:Nat} {g:Fu} (hg:F[f]? =some g) (k:List In):((F.set f {g with k:=[]}).map Fu.e).modify f (fun row=>row.take 3++[eK k]++row.drop (3+1))=(F.set f {g with k:=k}).map Fu.e:=by
 have hf:=(List.getElem?_eq_some_iff.1 hg).1
 apply List.ext_getElem?
 intro i
 simp only [List.getElem?_modify,VV,List.getElem?_set]
 by_cases h:f=i
 ·subst h
  simp [hf,Fu.e,eK]
 ·simp [h]
set_option maxHeartbeats 1000000 in
theorem NL (m:Mo) (which:Int) (more:List In) (hK: ∀g∈m.f,g.k.length≤140737488355328):Ok 5 [.agg m.e,.c (.int .i64 which),.c (eK more)] (.c (.bool true)):=by
 refine lL (l:=[eT m.t,aZ m.s,eL m.p,eF m.f,.int .i64 which,eK more]) U0 (by simp [Mo.e,eT,aZ,eL,eF]) (by simp) ?_
 unfold Tt
 refine ai rfl TT (by simp) (by simp) (by simp) (by simp) ?_
 obtain ⟨b,hb,h7⟩:=TS m hK
 refine ai rfl h7 (by simp [Mo.e,eT,aZ,eL,eF]) (by simp) (by simp) (by simp) ?_
 simp only [aI,aR,WB,Xl,XZ,ah,bh,aL,ae,ag,eF,eK,aw,ZD,aV,aX,ak]
 cases b
 case true=>simp only [a9];simp
 simp only [aQ]
 have hB:=hb rfl
 refine az (fun _=>by simp) (fun h0=>az (fun _=>by simp) (fun hm10=>?_))
 have hmf:=hB.f
 obtain ⟨f,hf,h17⟩:=Rf which m.f.length (by omega) (by omega)
 refine ai rfl h17 (by simp) (by simp) (by simp) (by simp) ?_
 have hg:m.f[f]? =some m.f[f]:=Wj hf
 generalize m.f[f]=g at hg
 obtain ⟨Sx,w,a,hw,h13⟩:=Rh (fun g hg=>by have:=hB.l g hg;omega) hg
 refine ai rfl h13 (by simp [Mo.e,eT,aZ,eL,eF]) (by simp) (by simp) (by simp) ?_
 refine ai rfl (Rl m.t hB.t hB.c) (by simp) (by simp) (by simp) (by simp) ?_
 refine ai rfl (Rm m.s (by have:=hB.s;omega)) (by simp) (by simp) (by simp) (by simp) ?_
 refine ar rfl (zY m.p (by have:=hB.p;omega)) (by simp) ?_
 simp only [al,V8,ZL,true_and,aI,aR,WB,Xl,XZ,ah,bh,aL,ae,ag,aV,ak]
 by_cases hw0:w=0
 case neg=>
  rw [if_neg hw0]
  refine ar rfl (LL hB.f hB.l hB.k (eT m.t) (aZ m.s) (eL m.p)) (by simp [eF]) ?_
  simp only [al,V8,ZL,true_and,aI,aR,WB,Xl,XZ,ah,bh,aL,ae,ag,aT,aC,ak]
  rw [if_neg hw0]
  simp
 subst hw0
 obtain ⟨hG,hS⟩:=hw rfl
 have hgk:=hB.k g (Zm hg)
 have hk0:=(hG.f g (Zm hg)).2.1
 have hkl:=List.length_pos_iff.2 hk0
 have hS':=hS
 obtain ⟨A,hSl,hSt,_⟩:=hS'
 have hm:=more.length
 have eS0: ¬((Sx.length:Nat):Int)=0:=by omega
 simp only [if_true,ck,aw,ZD,aV,ak,if_neg eS0]
 refine ar rfl (Rq hB.f hB.l hB.k (eT m.t) (aZ m.s) (eL m.p) hg hk0) (by simp [eF]) ?_
 have ef:(f:Int)<((m.f.set f {g with k:=[]}).length:Nat):=by rw [ZI];omega
 have em:((more.length:Nat):Int)≤100000000:=by omega
 have eg:((g.k.length:Nat):Int)≤100000000:=by omega
 simp only [al,V8,ZL,true_and,aI,aR,WB,Xl,XZ,ah,bh,aL,ae,ag,aT,aV,aA,aB,aw,ZD,aC,ak,if_true,eF,eK,if_pos ef,if_pos em,if_pos eg,if_pos (WN f)]
 have h13':=Rj hg more hG (by omega) hS
 have hpS:(Sx++pad more.length).length=Sx.length+more.length:=by simp
 have hw2:IntKind.i64.wrap ((Sx.length:Int)+more.length)=((Sx.length+more.length:Nat):Int):=by rw [WJ _ (by omega)];omega
 have h15:=Ro Sx (by omega) hSt
 have hu:=LM hg (g.k++more)
 have hL:=Ey Sx more.length (by omega) (by omega)
 refine az (fun hpos=>?_) (fun hpos=>?_)
 ·refine ai rfl h13' ?_ (by simp) (by simp) (by simp) ?_
  ·simp [Mo.e,Hu,eT,aZ,eL]
   simpa [eK] using hu
  simp only [aI,aR,WB,Xl,XZ,ah,bh,aL,ae,ag,aT,aV,aA,aB,aw,ZD,aC,ak,if_true,ck,ft,hpS,hw2]
  refine ar rfl hL (by simp [ck]) ?_
  simp only [ay,al,V8,ZL,true_and,aI,aR,WB,Xl,XZ,ah,bh,aL,ae,ag,a9,aB,aw,ZD,ak,ck,if_pos (WN _),hpS]
  rw [if_pos (by omega)]
  refine ai rfl h15 (by simp [ck]) (by simp) (by simp) (by simp) ?_
  simp
 ·have hmo:more=[]:=Wk (by omega)
  refine ai rfl h13' ?_ (by simp) (by simp) (by simp) ?_
  ·simp [Mo.e,Hu,eT,aZ,eL,hmo]
   simpa [eK,hmo] using hu
  simp only [aI,aR,WB,Xl,XZ,ah,bh,aL,ae,ag,aT,aV,aA,aB,aw,ZD,aC,ak,if_true,ck,ft,hpS,hw2]
  refine ar rfl hL (by simp [ck]) ?_
  simp only [ay,al,V8,ZL,true_and,aI,aR,WB,Xl,XZ,ah,bh,aL,ae,ag,a9,aB,aw,ZD,ak,ck,if_pos (WN _),hpS]
  rw [if_pos (by omega)]
  refine ai rfl h15 (by simp [ck]) (by simp) (by simp) (by simp) ?_
  simp
end
section
open Go
def LN (g:TypeId→Option (List Ty)) (z:TypeId→Nat):List Field→Nat→Option (List Ty)
 |[],_=>some []
 |f::fs,o=>match g f.type with
  |some l=>if f.offset=o∧z f.type=l.length then (LN g z fs (o+l.length)).map fun r=>l++r else none
  |none=>none
def HD (P:Program):Nat→TypeId→Option (List Ty)
 |0,_=>none
 |d+1,t=>match P.underlying t with
  |some (.int k)=>some [.int k]
  |some .string=>some [.str]
  |some (.slice e)=>match HD P d e with
   |some l=>if P.cellsOf e=l.length∧0<P.bytesOf e then some [.aF l] else none
   |none=>none
  |some (.struct fs)=>match LN (HD P d) P.cellsOf fs.toList 0 with
   |some l=>if P.cellsOf t=l.length then some l else none
   |none=>none
  |_=>none
mutual
def fV (b:Nat):Ty→D→Prop
 | .aF ts,d=>∃l,d= .aF l∧l.length≤b∧∀r∈l,lO b ts r
 |_,_=>True
def lO (b:Nat):List Ty→List D→Prop
 |[],_=>True
 |t::ts,r=>∃d r',r=d::r'∧fV b t d∧lO b ts r'
end
theorem qw {b:Nat} {t:Ty} {d:D} (h:fV b t d):lO b [t] [d]:=by unfold lO;exact ⟨d,[],rfl,h,by unfold lO;trivial⟩
theorem Cn {b:Nat}: ∀{ts us:List Ty} {r s:List D},aW ts r→lO b ts r→lO b us s→lO b (ts++us) (r++s)
 |[],us,r,s,h,_,k=>by unfold aW at h;subst h;exact k
 |t::ts,us,r,s,h,g,k=>by
  unfold aW at h
  obtain ⟨d,r',rfl,h1,h2⟩:=h
  unfold lO at g
  obtain ⟨d',r'',e,g1,g2⟩:=g
  cases e
  show lO b (t::(ts++us)) (d::(r'++s))
  unfold lO
  exact ⟨d,_,rfl,g1,Cn h2 g2 k⟩
theorem sA {H:Type} {P:Program} {e:TypeId}: ∀{l:List (DataW H)} {d:DataW H},d∈l→∀n∈d.weights P e,n∈ZY P e l
 |x::l,d,h,n,hn=>by
  unfold ZY
  rcases List.mem_cons.1 h with rfl |h
  ·exact XL _ hn
  ·exact XK _ (sA h n hn)
theorem FZ {α:Type} {Q:Nat→α→Prop}: ∀n:Nat,(∀i,i<n→∃y,Q i y)→∃l:List α,l.length=n∧∀i y,l[i]? =some y→Q i y
 |0,_=>⟨[],rfl,fun i y h=>by simp at h⟩
 |n+1,h=>by
  obtain ⟨l,hl,hq⟩:=FZ n fun i hi=>h i (by omega)
  obtain ⟨y,hy⟩:=h n (by omega)
  refine ⟨l++[y],by simp [hl],fun i z hz=>?_⟩
  by_cases hi:i<l.length
  ·rw [VJ hi] at hz;exact hq i z hz
  ·rw [VL (by omega)] at hz
   by_cases he:i - l.length=0
   ·rw [he] at hz
    have:i=n:=by omega
    subst this
    rw [←VF hz];exact hy
   ·rw [List.getElem?_cons,if_neg he] at hz;simp at hz
theorem kf.get {fz:Addr→Option Value}: ∀{l:List D} {C:List Value},kf fz l C→∀(j:Nat) (d:D),l[j]? =some d→∃u,C[j]? =some u∧dY fz d u
 |_,_,.nil,j,d,h=>by simp at h
 |_,_,.cons d v ds vs h hs,0,d',hd=>⟨v,rfl,by have:=VF hd;exact this▸h⟩
 |_,_,.cons d v ds vs h hs,j+1,d',hd=>hs.get j d' hd
theorem kf.app {fz:Addr→Option Value} {l m:List D} {C E:List Value} (h:kf fz l C) (k:kf fz m E):kf fz (l++m) (C++E):=by
 induction h with
 |nil=>exact k
 |cons d v ds vs h _ ih=>exact .cons d v _ _ h ih
theorem wk: ∀{ts us:List Ty} {r s:List D},aW ts r→aW us s→aW (ts++us) (r++s)
 |[],us,r,s,h,k=>by unfold aW at h;subst h;exact k
 |t::ts,us,r,s,h,k=>by
  unfold aW at h
  obtain ⟨d,r',rfl,h1,h2⟩:=h
  show aW (t::(ts++us)) (d::(r'++s))
  unfold aW
  exact ⟨d,_,rfl,h1,wk h2 k⟩
theorem U6 (a:Addr) (m k:Nat):(a.add m).add k=a.add (m+k):=by
 unfold Addr.add
 by_cases hk:k=0
 ·subst hk;simp
 ·by_cases hm:m=0
  ·subst hm;simp [hk]
  ·simp [hk,hm,Nat.add_assoc]
section
variable {H:Type} {enc:TypeId×Value→H} {P:Program} {w:World} {sp:Nat→Bool} {held:Bool}
abbrev O3 (w:World):Addr→Option Value:=fun a=>w.cell? a
theorem qy {B:Nat}: ∀(d fuel:Nat) (t:TypeId) (cs:List Value) (ts:List Ty) (x:DataW H×List MemPlace),HD P d t=some ts→ZZ enc P w 0 sp held fuel t cs=some x→(∀n∈x.1.weights P t,n≤B)→∃ds,kf (O3 w) ds cs∧aW ts ds∧lO B ts ds
 |0,fuel,t,cs,ts,x,hs,h,hB=>by cases hs
 |d+1,0,t,cs,ts,x,hs,h,hB=>by cases h
 |d+1,fuel+1,t,cs,ts,x,hs,h,hB=>by
  unfold HD at hs
  unfold ZZ at h
  cases hu:P.underlying t with
  |none=>rw [hu] at hs;cases hs
  |some U=>
   rw [hu] at hs h
   cases U<;>first |(cases hs;done) |skip
   case int k=>
    cases hs
    match cs,h with
    |[.int k' n],h=>
     by_cases hk:k'=k
     ·subst hk;exact ⟨[.int k' n],.cons _ _ _ _ (.int _ _) .nil,by simp,qw (by unfold fV;trivial)⟩
     ·simp [hk] at h
   case string=>
    cases hs
    match cs,h with
    |[.string s],h=>exact ⟨[.str (s.data.toList.map (·.toNat))],.cons _ _ _ _ (.str _ s rfl) .nil,by simp,qw (by unfold fV;trivial)⟩
   case slice e=>
    simp only at hs
    cases he:HD P d e with
    |none=>rw [he] at hs;cases hs
    |some l=>
    rw [he] at hs
    simp only at hs
    split at hs
    case isFalse=>cases hs
    rename_i hz
    obtain ⟨hz,hbe⟩:=hz
    cases hs
    match cs,h with
    |[.slice none 0 0],h=>exact ⟨[.aF []],.cons _ _ _ _ .nil .nil,by simp,qw (by unfold fV;exact ⟨[],rfl,Xz _,fun r hr=>by cases hr⟩)⟩
    |[.slice (some a) len cap],h=>
     simp only at h
     split at h
     case isFalse=>cases h
     rename_i hc
     obtain ⟨elems,h1,h2⟩:=Option.bind_eq_some_iff.1 h
     have hel:=mapM_some_length h1
     obtain ⟨rest,_,hx⟩:=Option.map_eq_some_iff.1 h2
     have hxw: ∀n,n=(elems.length+rest.length)*P.bytesOf e∨n∈ZY P e (elems.map (·.1))→n≤B:=fun n hn=>hB n (by
      rw [←hx]
      show n∈Z0 P t (.slice (elems.map (·.1)) (rest.map (·.1)))
      simp only [Z0,hu,ZD]
      rcases hn with rfl |hn
      ·exact V2 ..
      ·exact V3 _ (XL _ hn))
     rw [List.length_range] at hel
     obtain ⟨rows,hrl,hrows⟩:=FZ (Q:=fun i (ds:List D)=>∃row,w.cells? 0 (a.add (i*l.length)) l.length=some row∧kf (O3 w) ds row∧aW l ds∧lO B l ds) len fun i hi=>by
      have g:=mapM_some_get h1 i i (by rw [Yk hi])
      rw [Wj (by omega)] at g
      obtain ⟨row,g1,g2⟩:=Option.bind_eq_some_iff.1 g
      obtain ⟨ds,g3,g4,g5⟩:=qy d fuel e row l _ he g2 fun n hn=>hxw n (.inr (sA (Z1 (List.getElem_mem _)) n hn))
      rw [hz] at g1
      exact ⟨ds,row,g1,g3,g4,g5⟩
     have hlen: ∀r∈rows,r.length=l.length:=fun r hr=>by
      obtain ⟨i,hi,rfl⟩:=List.mem_iff_getElem.1 hr
      obtain ⟨_,_,_,q,_⟩:=hrows i _ (Wj hi)
      exact bD q
     have hcell: ∀i k,i<len→k<l.length→∃u d,w.cell? (a.add (i*l.length+k))=some u∧rows.flatten[i*l.length+k]? =some d∧dY (O3 w) d u:=fun i k hi hk=>by
      have hr:rows[i]? =some (rows[i]'(by omega)):=Wj _
      obtain ⟨row,q1,q2,q3,_⟩:=hrows i _ hr
      have hrl2:=bD q3
      have hd:(rows[i]'(by omega))[k]? =some ((rows[i]'(by omega))[k]'(by omega)):=Wj _
      obtain ⟨u,q4,q5⟩:=q2.get k _ hd
      refine ⟨u,_,?_,by rw [flat_get hlen hr hk];exact hd,q5⟩
      unfold World.cells? at q1
      rw [if_pos (Xz _)] at q1
      have:=mapM_some_get q1 k k (by rw [Yk hk])
      rw [q4] at this
      rw [←this,U6]
     have hflat:rows.flatten.length=len*l.length:=by rw [iO hlen,hrl]
     have hall: ∀j,j<rows.flatten.length→∃u d,w.cell? (a.add j)=some u∧rows.flatten[j]? =some d∧dY (O3 w) d u:=fun j hj=>by
      have hzp:0<l.length:=Nat.pos_of_ne_zero fun e=>by rw [hflat,e] at hj;simp at hj
      have h1:j / l.length<len:=Nat.div_lt_of_lt_mul (by rw [hflat,Nat.mul_comm] at hj;exact hj)
      have h2:j % l.length<l.length:=Nat.mod_lt _ hzp
      have h3:j / l.length*l.length+j % l.length=j:=by rw [Nat.mul_comm];exact Nat.div_add_mod j l.length
      have:=hcell _ _ h1 h2
      rwa [h3] at this
     refine ⟨[.aF rows],.cons _ _ _ _ ?_ .nil,?_,qw ?_⟩
     ·subst hrl
      refine .aF rows a cap (fun j=>(w.cell? (a.add j)).getD (.bool false)) hc.2.1 hc.2.2 (fun j hj=>?_) (fun j dd hd=>?_)
      ·obtain ⟨u,_,q,_,_⟩:=hall j hj
       show w.cell? _=_
       rw [q];rfl
      ·obtain ⟨u,d',q,q2,q3⟩:=hall j (List.getElem?_eq_some_iff.1 hd).1
       rw [q2] at hd
       rw [q,←VF hd];exact q3
     ·simp only [B1,xR,DW,and_true]
      intro r hr
      obtain ⟨i,hi,rfl⟩:=List.mem_iff_getElem.1 hr
      obtain ⟨_,_,_,q,_⟩:=hrows i _ (Wj hi)
      exact q
     ·unfold fV
      refine ⟨rows,rfl,?_,fun r hr=>?_⟩
      ·have h3:=hxw _ (.inl rfl)
       have h4:elems.length+rest.length≤(elems.length+rest.length)*P.bytesOf e:=Nat.le_mul_of_pos_right _ hbe
       omega
      ·obtain ⟨i,hi,rfl⟩:=List.mem_iff_getElem.1 hr
       obtain ⟨_,_,_,_,q⟩:=hrows i _ (Wj hi)
       exact q
   case struct fs=>
    simp only at hs h
    cases hF:LN (HD P d) P.cellsOf fs.toList 0 with
    |none=>rw [hF] at hs;cases hs
    |some L=>
    rw [hF] at hs
    simp only at hs
    split at hs
    case isFalse=>cases hs
    rename_i hz
    cases hs
    split at h
    case isFalse=>cases h
    rename_i hl
    obtain ⟨xs,h1,h2⟩:=Option.map_eq_some_iff.1 h
    have hall: ∀f∈fs.toList,∃y,ZZ enc P w 0 sp held fuel f.type ((cs.drop f.offset).take (P.cellsOf f.type))=some y∧∀n∈y.1.weights P f.type,n≤B:=fun f hf=>by
     obtain ⟨i,hi,rfl⟩:=List.mem_iff_getElem.1 hf
     have g:=mapM_some_get h1 i _ (Wj hi)
     have hxl:=mapM_some_length h1
     rw [Wj (by omega)] at g
     refine ⟨_,g,fun n hn=>hB n ?_⟩
     rw [←h2]
     show n∈Z0 P t (.agg (xs.map (·.1)))
     simp only [Z0,hu]
     exact Z2 (j:=i) (by rw [VV,Wj hi];rfl) (by rw [VV,Wj (by omega)];rfl) n hn
    have key: ∀(l:List Field) (o:Nat) (L:List Ty),LN (HD P d) P.cellsOf l o=some L→(∀f∈l,∃y,ZZ enc P w 0 sp held fuel f.type ((cs.drop f.offset).take (P.cellsOf f.type))=some y∧∀n∈y.1.weights P f.type,n≤B)→∃ds,kf (O3 w) ds ((cs.drop o).take L.length)∧aW L ds∧lO B L ds:=by
     intro l
     induction l with
     |nil=>intro o L hL _;cases hL;exact ⟨[],by simpa using kf.nil,by simp,by unfold lO;trivial⟩
     |cons f l ih=>
      intro o L hL hf
      unfold LN at hL
      cases hg:HD P d f.type with
      |none=>rw [hg] at hL;cases hL
      |some a=>
      rw [hg] at hL
      simp only at hL
      split at hL
      case isFalse=>cases hL
      rename_i hc
      obtain ⟨r,hr,rfl⟩:=Option.map_eq_some_iff.1 hL
      obtain ⟨y,hy,hyB⟩:=hf f (V2 ..)
      obtain ⟨d1,k1,k2,k5⟩:=qy d fuel f.type _ a y hg hy hyB
      obtain ⟨d2,k3,k4,k6⟩:=ih _ r hr fun f' hf'=>hf f' (V3 _ hf')
      rw [hc.1,hc.2] at k1
      refine ⟨d1++d2,?_,wk k2 k4,Cn k2 k5 k6⟩
      rw [V7,List.take_add,List.drop_drop]
      exact k1.app k3
    obtain ⟨ds,k1,k2,k3⟩:=key fs.toList 0 _ hF hall
    refine ⟨ds,?_,k2,k3⟩
    rw [List.drop_zero,ZJ (by omega)] at k1
    exact k1
end
end
section
open Go Go.RowKit Go.ChangeShapes Go.WideShapes Go.ChangeAt
section
variable {P:Program} {w:World}
theorem Hw {P:Program} {w:World} (h:w.ShapedOpen P) (hb:decide (P.globals.size<(begin P (fun _ _=>0) default).world.heap.size)=true):P.globals.size≤w.heap.size:=by
 obtain ⟨o,_,ho,_⟩:=h.2 P.globals.size (VY _) (of_decide_eq_true hb)
 exact Nat.le_of_lt (Array.getElem?_eq_some_iff.1 ho).1
end
section
variable {P:Program} {w:World}
theorem wm: ∀{l:List (String×DataW Unit)} {ps:List MemPlace},DataW.LaidVars P w l ps→∀n d,(n,d)∈l→
 ∃g t cs fuel p,P.globalNamed n=some g∧(P.globals[g]?).map (·.type)=some t∧w.var? P n=some cs∧ZZ (fun _=>()) P w 0 (fun _=>true) false fuel t cs.toList=some (d,p)
 |[],_,_,_,_,hm=>by cases hm
 |(n',d')::r,ps,h,n,d,hm=>by
  obtain ⟨g,t,cs,fuel,p,q,h1,h2,h3,h4,h5,_⟩:=h
  rcases List.mem_cons.1 hm with e |e
  ·cases e
   exact ⟨g,t,cs,fuel,p,h1,h2,h3,h4⟩
  ·exact wm h5 n d e
theorem wK {laid:List (String×DataW Unit)} (h:laidMetH P laid w):laidMet P (laid.filter fun x=>x.2.handleName?.isNone) w:=by
 unfold laidMetH at h
 split at h
 ·rename_i hf
  have e:(laid.filter fun x=>x.2.handleName?.isNone)=laid:=by
   rw [List.filter_eq_self]
   intro x hx
   have:=(List.filter_eq_nil_iff.1 hf) x hx
   cases hn:x.2.handleName? with
   |none=>rfl
   |some s=>rw [hn] at this;exact absurd rfl this
  rw [e]
  exact h
 ·exact h.1
theorem Hx {laid:List (String×DataW Unit)} (h:laidMetH P laid w) {name:String} {k:IntKind} {zs:List Int} (hm:(name,Lib.tabData k zs)∈laid) {g t e:Nat} {n:Nat}
 (hg:P.globalNamed name=some g) (ht:(P.globals[g]?).map (·.type)=some t) (hu:P.underlying t=some (.array n e)) (he:P.underlying e=some (.int k)) (hce:P.cellsOf e=1) (hct:P.cellsOf t=n) {m:Nat} (hlen:m=zs.length) (t':TypeId):
 y5 w g (.cells false t' m (.of (zs.map fun z=>.int k z))):=by
 obtain ⟨ps,hv,_⟩:=wK h
 obtain ⟨g',t'',cs,fuel,p,h1,h2,h3,h4⟩:=wm hv _ _ (List.mem_filter.2 ⟨hm,rfl⟩)
 obtain rfl:=VF (hg.symm.trans h1)
 obtain rfl:=VF (ht.symm.trans h2)
 have hcs:=Lib.cells_of_tab hu he hce hct h4
 refine ⟨t',m,_,rfl,fun i hi=>?_⟩
 have hi':i<zs.length:=by omega
 refine ⟨.int k zs[i],.int k zs[i],by rw [Cs.jy];simp [hi'],?_,rfl,rfl⟩
 rw [World.var?_cell h1 h3 i]
 have:cs.toList[i]? =some (.int k zs[i]):=by rw [hcs];simp [hi']
 simpa using this
theorem i7 (g:Nat) (t:TypeId):y5 w g (.cells false t 0 (.o5 [])):=⟨t,0,_,rfl,fun i hi=>absurd hi (Nat.not_lt_zero i)⟩
end
theorem mP {H:Type} {enc:TypeId×Value→H} {P:Program} {w:World} {base:Nat} {sp:Nat→Bool} {held:Bool}: ∀{ts:List TypeId} {vs:List Value} {ds:List (DataW H)} {ps:List MemPlace},Z3 enc P w base sp held ts vs ds ps→vs.length=ts.length∧ds.length=ts.length
 |[],[],[],_,_=>⟨rfl,rfl⟩
 |_::_,_::_,_::_,_,h=>by
  obtain ⟨p,q,_,h2,_⟩:=h
  obtain ⟨e1,e2⟩:=mP h2
  exact ⟨by simp [e1],by simp [e2]⟩
 |[],_::_,_,_,h=>h.elim
 |[],[],_::_,_,h=>h.elim
 |_::_,[],_,_,h=>h.elim
 |_::_,_::_,[],_,h=>h.elim
theorem nF {H:Type} {enc:TypeId×Value→H} {P:Program} (hl:laidOutB P=true) {W W':World} (hb:Below W.heap.size W W'): ∀{ts:List TypeId} {vs:List Value} {ds:List (DataW H)} {ps:List MemPlace},
 (ts.all fun t=>P.readableRec t&&decide (t<P.types.size))=true→Z3 enc P W 0 (fun _=>true) true ts vs ds ps→(∀x∈ps,x.block<W.heap.size)→Z3 enc P W' 0 (fun b=>decide (b<W.heap.size)) true ts vs ds ps
 |[],[],[],_,_,h,_=>h
 |t::ts,v::vs,d::ds,ps,hr,h,hlt=>by
  rw [List.all_cons,V1,V1] at hr
  obtain ⟨p,q,h1,h2,rfl⟩:=h
  exact ⟨p,q,Below.trod hl hr.1.1 (of_decide_eq_true hr.1.2) h1 hb (fun x hx=>hlt x (XL _ hx)),nF hl hb hr.2 h2 (fun x hx=>hlt x (XK _ hx)),rfl⟩
 |[],_::_,_,_,_,h,_=>h.elim
 |[],[],_::_,_,_,h,_=>h.elim
 |_::_,[],_,_,_,h,_=>h.elim
 |_::_,_::_,[],_,_,h,_=>h.elim
section
variable {H:Type} {enc:TypeId×Value→H}
theorem Co {C:Checked} {os:Os} {f:FuncId} {fn:Func} {s:ChangeSpec} {conds:List PathCond} {handsOn:Bool} {laid:List (String×DataW Unit)} {t:TypeId}
 (own:ownKnob C.prog.godebug=none) (started:os.Started) (noInit:C.prog.inits.idxOf? f=none) (hfn:C.prog.funcs[f]? =some fn) (hl:laidOutB C.prog=true) (hps:(fn.params.toList.all fun t=>C.prog.readableRec t&&decide (t<C.prog.types.size))=true)
 (hrs:fn.resultTypes= #[t]) (ht:C.prog.underlying t=some .bool) (hvars:s.vars=[])
 (hspec: ∀(H:Type) (ds:List (DataW H)),ds.length=fn.params.toList.length→s.fn H ds={results:=[.lit (.bool true)],args:=ds,vars:=[]})
 (witness: ∃(w:World) (tape:Tape) (i:Input),w.os=os∧(w.forCall tape i).Shaped C.prog∧i.vars=[]∧Input.okWide C.prog (w.forCall tape i) .any w.heap.size f i∧
  ((s.pre enc C.prog fn conds false (w.forCall tape i).memory i.args∧laidMetH C.prog laid (w.forCall tape i).memory)∧sizedMet enc C.prog fn (Z4 s) false (w.forCall tape i).memory i.args)∧({}:Assume).holds C.prog (lone (Frame.enter C.prog f i.args .normal) [] (w.forCall tape i)))
 (hcalls: ∀(w:World) (base:Nat) (args:Array Value) (ds:List (DataW H)) (p:List MemPlace),w.ShapedOpen C.prog→laidMetH C.prog laid w→(∀(j:Nat) t v,fn.params[j]? =some t→args[j]? =some v→Z5 C.prog w .any base t v)→
  Z3 enc C.prog w 0 (fun _=>true) true fn.params.toList args.toList ds p→(∀(j:Nat) (t:TypeId) (d:DataW H),fn.params.toList[j]? =some t→ds[j]? =some d→∀n∈d.weights C.prog t,n≤reachBytes)→Calls C.prog f args w fun e w'=>e= .returned (.bool true)∧Below w.heap.size w w'):
 ReturnsInHanded {} C os f .any (fun w args=>(s.pre enc C.prog fn conds false w args∧laidMetH C.prog laid w)∧sizedMet enc C.prog fn (Z4 s) false w args) (s.post enc C.prog fn false true handsOn false):=by
 refine returnsInHanded_of_calls own started noInit witness ?_
 intro w tape i _ hshape _ hok hpre hholds
 obtain ⟨_,_,_,fn',hfn',_,_,_,_,hval⟩:=hok
 have e:fn'=fn:=VF (hfn'.symm.trans hfn)
 subst e
 obtain ⟨⟨⟨ds,gs,before,hw,hc⟩,hx⟩,hz⟩:=hpre
 have hsz:=hz.weights hw
 have hw':=DataW.Whole.of_heap (w':=w.forCall tape i) (by rfl) hw
 have hx':laidMetH C.prog laid (w.forCall tape i):=hx.of_heap (by rfl)
 have hlt: ∀x∈before,x.block<(w.forCall tape i).heap.size:=fun x hx=>hw'.lt x hx
 have hw0:=hw'
 obtain ⟨p,q,hA,hV,rfl,_,_⟩:=hw'
 rw [hvars] at hV
 obtain ⟨rfl,rfl⟩:=trodVars_none hV
 have hlen:=mP hA
 have hsz': ∀(j:Nat) (t:TypeId) (d:DataW H),fn'.params.toList[j]? =some t→ds[j]? =some d→∀n∈d.weights C.prog t,n≤reachBytes:=fun j t d ht hd n hn=>by
  have h1:=(List.getElem?_eq_some_iff.1 ht).1
  have h2:=(List.getElem?_eq_some_iff.1 hd).1
  have h3:=List.all_eq_true.1 hsz n (Z2 (j:=j) (by rw [VJ h1];exact ht) (by rw [VJ h2];exact hd) n hn)
  exact of_decide_eq_true h3
 refine (hcalls _ _ i.args ds p hshape hx' hval hA hsz').mono fun e W' ⟨he,hb⟩=>?_
 subst he
 refine ChangeSpec.post_blind ⟨ds,[],p++[],[],p,[],hw0,?_,?_,?_,hb.frame _,fun h=>by cases h⟩
 ·rw [XZ,hspec H ds hlen.2,hrs]
  exact trodAll_mk1 (shut_bool ht _)
 ·rw [XZ,hspec H ds hlen.2]
  exact nF hl hb hps hA fun x hx=>hlt x (XL _ hx)
 ·rw [XZ,hspec H ds hlen.2,hvars]
  rfl
end
end
section
open Go Go.RowKit Go.ChangeShapes Go.WideShapes Go.ChangeAt
theorem fU {α:Type} {f:α→List D} {ts:List Ty} (h: ∀r,aW ts r→∃x,r=f x): ∀{l:List (List D)},(∀r∈l,aW ts r)→∃m:List α,l=m.map f
 |[],_=>⟨[],rfl⟩
 |r::l,hl=>by
  obtain ⟨x,rfl⟩:=h r (hl r (V2 ..))
  obtain ⟨m,rfl⟩:=fU h fun r hr=>hl r (V3 _ hr)
  exact ⟨x::m,rfl⟩
theorem i9 {d:D} (h:bx .str d): ∃s,d= .str s:=by unfold bx at h;exact h
theorem wo {k:IntKind} {d:D} (h:bx (.int k) d): ∃n,d= .int k n:=by unfold bx at h;exact h
theorem jH {ts:List Ty} {d:D} (h:bx (.aF ts) d): ∃l,d= .aF l∧∀r∈l,aW ts r:=by unfold bx at h;exact h
theorem bM {t:Ty} {ts:List Ty} {r:List D} (h:aW (t::ts) r): ∃d r',r=d::r'∧bx t d∧aW ts r':=by unfold aW at h;exact h
theorem iz {r:List D} (h:aW [] r):r=[]:=by unfold aW at h;exact h
theorem TV {r:List D} (h:aW [.str] r): ∃x,r=eS x:=by
 obtain ⟨a,r,rfl,h1,g1⟩:=bM h
 obtain ⟨s,rfl⟩:=i9 h1
 obtain rfl:=iz g1
 exact ⟨s,rfl⟩
theorem TW {r:List D} (h:aW [.str,.str] r): ∃x:Vr,r=x.e:=by
 obtain ⟨a,r,rfl,h1,g1⟩:=bM h
 obtain ⟨b,r,rfl,h2,g2⟩:=bM g1
 obtain ⟨s,rfl⟩:=i9 h1
 obtain ⟨u,rfl⟩:=i9 h2
 obtain rfl:=iz g2
 exact ⟨⟨s,u⟩,rfl⟩
theorem U7 {r:List D} (h:aW [.str,.aF [.str,.str],.str] r): ∃x:Sg,r=x.e:=by
 obtain ⟨a,r,rfl,h1,g1⟩:=bM h
 obtain ⟨b,r,rfl,h2,g2⟩:=bM g1
 obtain ⟨c,r,rfl,h3,g3⟩:=bM g2
 obtain ⟨s,rfl⟩:=i9 h1
 obtain ⟨l,rfl,hl⟩:=jH h2
 obtain ⟨m,rfl⟩:=fU (f:=Vr.e) (fun r=>TW) hl
 obtain ⟨u,rfl⟩:=i9 h3
 obtain rfl:=iz g3
 exact ⟨⟨s,m,u⟩,rfl⟩
theorem U8 {r:List D} (h:aW [.str,.str,.aF [.str,.str],.aF [.str,.aF [.str,.str],.str]] r): ∃x:Cl,r=x.e:=by
 obtain ⟨a,r,rfl,h1,g1⟩:=bM h
 obtain ⟨b,r,rfl,h2,g2⟩:=bM g1
 obtain ⟨c,r,rfl,h3,g3⟩:=bM g2
 obtain ⟨d,r,rfl,h4,g4⟩:=bM g3
 obtain ⟨s,rfl⟩:=i9 h1
 obtain ⟨u,rfl⟩:=i9 h2
 obtain ⟨l,rfl,hl⟩:=jH h3
 obtain ⟨m,rfl⟩:=fU (f:=Vr.e) (fun r=>TW) hl
 obtain ⟨l,rfl,hl⟩:=jH h4
 obtain ⟨n,rfl⟩:=fU (f:=Sg.e) (fun r=>U7) hl
 obtain rfl:=iz g4
 exact ⟨⟨s,u,m,n⟩,rfl⟩
theorem TX {r:List D} (h:aW [.int .i64,.str,.str] r): ∃x:Si,r=x.e:=by
 obtain ⟨a,r,rfl,h1,g1⟩:=bM h
 obtain ⟨b,r,rfl,h2,g2⟩:=bM g1
 obtain ⟨c,r,rfl,h3,g3⟩:=bM g2
 obtain ⟨s,rfl⟩:=wo h1
 obtain ⟨u,rfl⟩:=i9 h2
 obtain ⟨v,rfl⟩:=i9 h3
 obtain rfl:=iz g3
 exact ⟨⟨s,u,v⟩,rfl⟩
theorem O4 {r:List D} (h:aW [.int .i64,.int .i64,.int .i64,.int .i64] r): ∃x:In,r=x.e:=by
 obtain ⟨a,r,rfl,h1,g1⟩:=bM h
 obtain ⟨b,r,rfl,h2,g2⟩:=bM g1
 obtain ⟨c,r,rfl,h3,g3⟩:=bM g2
 obtain ⟨d,r,rfl,h4,g4⟩:=bM g3
 obtain ⟨s,rfl⟩:=wo h1
 obtain ⟨u,rfl⟩:=wo h2
 obtain ⟨v,rfl⟩:=wo h3
 obtain ⟨x,rfl⟩:=wo h4
 obtain rfl:=iz g4
 exact ⟨⟨s,u,v,x⟩,rfl⟩
theorem TY {r:List D} (h:aW [.str,.str,.aF [.str],.aF [.int .i64,.int .i64,.int .i64,.int .i64]] r): ∃x:Fu,r=x.e:=by
 obtain ⟨a,r,rfl,h1,g1⟩:=bM h
 obtain ⟨b,r,rfl,h2,g2⟩:=bM g1
 obtain ⟨c,r,rfl,h3,g3⟩:=bM g2
 obtain ⟨d,r,rfl,h4,g4⟩:=bM g3
 obtain ⟨s,rfl⟩:=i9 h1
 obtain ⟨u,rfl⟩:=i9 h2
 obtain ⟨l,rfl,hl⟩:=jH h3
 obtain ⟨m,rfl⟩:=fU (f:=eS) (fun r=>TV) hl
 obtain ⟨l,rfl,hl⟩:=jH h4
 obtain ⟨n,rfl⟩:=fU (f:=In.e) (fun r=>O4) hl
 obtain rfl:=iz g4
 exact ⟨⟨s,u,m,n⟩,rfl⟩
theorem TZ {r:List D} (h:aW [tT,tS,tL,tF] r): ∃x:Mo,r=x.e:=by
 obtain ⟨a,r,rfl,h1,g1⟩:=bM h
 obtain ⟨b,r,rfl,h2,g2⟩:=bM g1
 obtain ⟨c,r,rfl,h3,g3⟩:=bM g2
 obtain ⟨d,r,rfl,h4,g4⟩:=bM g3
 obtain ⟨l,rfl,hl⟩:=jH h1
 obtain ⟨m1,rfl⟩:=fU (f:=Cl.e) (fun r=>U8) hl
 obtain ⟨l,rfl,hl⟩:=jH h2
 obtain ⟨m2,rfl⟩:=fU (f:=Si.e) (fun r=>TX) hl
 obtain ⟨l,rfl,hl⟩:=jH h3
 obtain ⟨m3,rfl⟩:=fU (f:=eS) (fun r=>TV) hl
 obtain ⟨l,rfl,hl⟩:=jH h4
 obtain ⟨m4,rfl⟩:=fU (f:=Fu.e) (fun r=>TY) hl
 obtain rfl:=iz g4
 exact ⟨⟨m1,m2,m3,m4⟩,rfl⟩
theorem U9:HD Tryz.prog 8 27=some [tT,tS,tL,tF]:=by kernel_rfl
theorem Va:HD Tryz.prog 8 45=some [.aF [.int .i64,.int .i64,.int .i64,.int .i64]]:=by kernel_rfl
theorem Cp {P:Program} {bs:List aY} {f:FuncId} {ds:List DV} {us:List Value} (h:BL P bs f ds (.c (.bool true))) {w:World} (hb:ke bs w) (hr:js (O3 w) ds us):Calls P f us.toArray w fun e w'=>e= .returned (.bool true)∧Below w.heap.size w w':=by
 intro cs
 obtain ⟨fz',w',V,fr,_,_,_,hk,hV,hst,hfn,hkind,hgo⟩:=h.run w (O3 w) us cs hb (fun _ _ h=>h) hr trivial
 have hVt:V= .bool true:=by cases hV with |c _ _ h=>cases h;rfl
 subst hVt
 exact ⟨.returned (.bool true),w',fr,⟨rfl,hk.os,hk.tape,hk.output,hk.size,hk.same⟩,hst,hfn,hgo.1,hgo.2.1,hkind,hgo.2.2⟩
theorem Ez {H:Type} {enc:TypeId×Value→H} {P:Program} {w:World} {base:Nat} {sp:Nat→Bool} {held:Bool} {a b c:TypeId} {l:List Value} {ds:List (DataW H)} {p:List MemPlace} (h:Z3 enc P w base sp held [a,b,c] l ds p): ∃v u x dv du dx q r fuel fuel',l=[v,u,x]∧ds=[dv,du,dx]∧ZZ enc P w base sp held fuel a v.cells.toList=some (dv,q)∧ZZ enc P w base sp held fuel' c x.cells.toList=some (dx,r):=by
 obtain ⟨e1,e2⟩:=mP h
 match l,ds,e1,e2,h with
 |[v,u,x],[dv,du,dx],_,_,h=>
  obtain ⟨_,_,⟨f1,h1⟩,⟨_,_,_,⟨_,_,⟨f3,h3⟩,_,_⟩,_⟩,_⟩:=h
  exact ⟨v,u,x,dv,du,dx,_,_,f1,f3,rfl,rfl,h1,h3⟩
def Cq:Option TypeDesc→Bool
 |some (.struct _)=>true
 |_=>false
theorem T0: ∃fs,Tryz.prog.underlying 27=some (.struct fs):=by
 have h:Cq (Tryz.prog.underlying 27)=true:=by kernel_rfl
 generalize Tryz.prog.underlying 27=x at h
 unfold Cq at h
 split at h
 ·exact ⟨_,rfl⟩
 ·cases h
theorem Vb:Tryz.prog.underlying 3=some (.int .i64):=by kernel_rfl
theorem T1 {b:Nat} {m:Mo} (h:lO b [tT,tS,tL,tF] m.e): ∀g∈m.f,g.k.length≤b:=by
 intro g hg
 simp only [lO,Mo.e] at h
 obtain ⟨_,_,e,_,_,_,e2,_,_,_,e3,_,_,_,e4,h4,_⟩:=h
 cases e;cases e2;cases e3;cases e4
 unfold tF fV at h4
 obtain ⟨l,e,_,h5⟩:=h4
 cases e
 have h6:=h5 g.e (Z1 hg)
 simp only [lO,Fu.e] at h6
 obtain ⟨_,_,e,_,_,_,e2,_,_,_,e3,_,_,_,e4,h7,_⟩:=h6
 cases e;cases e2;cases e3;cases e4
 unfold fV at h7
 obtain ⟨l,e,h8,_⟩:=h7
 cases e
 simpa using h8
theorem LP:reachBytes≤140737488355328:=by decide
theorem Rr {H:Type} {enc:TypeId×Value→H} {P:Program} {w:World} {base:Nat} {a b c:TypeId} {args:Array Value} {ds:List (DataW H)} {p:List MemPlace} (h3:P.underlying b=some (.int .i64)) (h27: ∃fs,P.underlying a=some (.struct fs)) (hM:HD P 8 a=some [tT,tS,tL,tF]) (hK:HD P 8 c=some [.aF [.int .i64,.int .i64,.int .i64,.int .i64]]) (h45: ∃e,P.underlying c=some (.slice e))
 (hok: ∀(j:Nat) (t:TypeId) (v:Value),(#[a,b,c]:Array TypeId)[j]? =some t→args[j]? =some v→Z5 P w .any base t v) (hA:Z3 enc P w 0 (fun _=>true) true [a,b,c] args.toList ds p) (hS: ∀(j:Nat) (t:TypeId) (d:DataW H),[a,b,c][j]? =some t→ds[j]? =some d→∀n∈d.weights P t,n≤reachBytes):
 ∃(m:Mo) (n:Int) (k:List In),(∀g∈m.f,g.k.length≤140737488355328)∧js (O3 w) [.agg m.e,.c (.int .i64 n),.c (eK k)] args.toList:=by
 obtain ⟨l⟩:=args
 obtain ⟨v,u,x,dv,du,dx,q,r,fuel,fuel',hl,rfl,h1,h2⟩:=Ez hA
 obtain rfl:l=[v,u,x]:=hl
 obtain ⟨n,rfl⟩:=okWide_int h3 (hok 1 b u (by simp) (by simp))
 obtain ⟨fs,hfs⟩:=h27
 obtain ⟨cs,rfl,_⟩:=okWide_struct hfs (hok 0 a v (by simp) (by simp))
 obtain ⟨es,k1,k2,k3⟩:=qy 8 fuel a _ _ _ hM h1 (hS 0 a dv rfl rfl)
 obtain ⟨m,rfl⟩:=TZ k2
 obtain ⟨ks,g1,g2,_⟩:=qy 8 fuel' c _ _ _ hK h2 (hS 2 c dx rfl rfl)
 obtain ⟨d,r',rfl,hd,g4⟩:=bM g2
 obtain rfl:=iz g4
 obtain ⟨rows,rfl,hrows⟩:=jH hd
 obtain ⟨k,rfl⟩:=fU (f:=In.e) (fun r=>O4) hrows
 refine ⟨m,n,k,fun g hg=>Nat.le_trans (T1 k3 g hg) LP,?_⟩
 have hx:x.cells.toList=[x]:=by
  obtain ⟨e,he⟩:=h45
  obtain ⟨a',len,cap,rfl⟩:=okWide_slice he (hok 2 c x (by simp) (by simp))
  rfl
 rw [hx] at g1
 have hagg:=wE.agg m.e cs.toList k1
 cases g1 with
 |cons _ _ _ _ g5 _=>exact .cons _ _ _ _ hagg (.cons _ _ _ _ (.c _ _ (.int _ _)) (.cons _ _ _ _ (.c _ _ g5) .nil))
def isSlice:Option TypeDesc→Bool
 |some (.slice _)=>true
 |_=>false
theorem T2: ∃e,Tryz.prog.underlying 45=some (.slice e):=by
 have h:isSlice (Tryz.prog.underlying 45)=true:=by kernel_rfl
 generalize Tryz.prog.underlying 45=x at h
 unfold isSlice at h
 split at h
 ·exact ⟨_,rfl⟩
 ·cases h
set_option maxRecDepth 20000 in
attribute [local irreducible] Tryz.prog in
theorem EA {H:Type} {enc:TypeId×Value→H} {w:World} {base:Nat} {args:Array Value} {ds:List (DataW H)} {p:List MemPlace} (hb:ke bs w)
 (hok: ∀(j:Nat) (t:TypeId) (v:Value),(#[27,3,45]:Array TypeId)[j]? =some t→args[j]? =some v→Z5 Tryz.prog w .any base t v) (hA:Z3 enc Tryz.prog w 0 (fun _=>true) true [27,3,45] args.toList ds p) (hS: ∀(j:Nat) (t:TypeId) (d:DataW H),[27,3,45][j]? =some t→ds[j]? =some d→∀n∈d.weights Tryz.prog t,n≤reachBytes):Calls Tryz.prog 5 args w fun e w'=>e= .returned (.bool true)∧Below w.heap.size w w':=by
 obtain ⟨m,n,k,hk,hr⟩:=Rr Vb T0 U9 Va T2 hok hA hS
 obtain ⟨l⟩:=args
 exact Cp (NL m n k hk) hb hr
end
end Go.Proofs.Sai
