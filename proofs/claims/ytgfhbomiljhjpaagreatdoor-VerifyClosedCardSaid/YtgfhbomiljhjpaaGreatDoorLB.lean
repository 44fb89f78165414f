/- Part LB of the proof of VerifyClosed: texts of the interpreter and what it shows, under short names. No condition. -/
import Derived.Test.YtgfhbomiljhjpaaGreatDoorLA
set_option linter.unusedVariables false
set_option linter.unusedSimpArgs false
set_option linter.unusedSectionVars false
open Bool renaming not_false→X5,not_true→XQ
open Go.IntWalk renaming i64_in→U5
open Int renaming natCast_nonneg→U9,toNat_natCast→UM
open List renaming ext_getElem?→XX,getElem?_map→Ue,getElem?_set→XZ,getElem?_eq_getElem→UB,map_cons→Uc,map_nil→Ud,length_range→X6,length_cons→Uq,length_nil→X3,cons_append→UU,nil_append→VF,append_nil→XL,length_map→XV,getElem_mem→UO,replicate→UQ,length_replicate→X7,length_append→Up,mem_of_find?_eq_some→XN
open Option renaming isSome_none→VU,isSome_some→XP,map_some→VN
namespace Go.Proofs.Sai
section
open Go
def eP (p:List Bool):D:=.aY (p.map fun b=>[.bool b])
theorem lP (l:List Bool) (i:Nat) (c:Bool):(l.map fun b=>[D.bool b]).modify i (fun row=>row.take 0++[.bool c]++row.drop (0+1))=(l.set i c).map fun b=>[D.bool b]:=by
 apply XX
 intro x
 rw [List.getElem?_modify,Ue,Ue,XZ]
 by_cases h:i=x
 ·subst h
  cases hx:l[i]? with
  |none=>simp [List.getElem?_eq_none_iff.1 hx]
  |some y=>obtain ⟨h1,_⟩:=List.getElem?_eq_some_iff.1 hx;simp [h1]
 ·simp [h]
def fy (p:List Bool):Nat:=p.count true
theorem F1 {p:List Bool} {i:Nat} (h:i<p.length) (hp:p[i]=true):fy (p.set i false)+1=fy p∧p.set i true=p:=by
 refine ⟨?_,?_⟩
 ·unfold fy
  induction p generalizing i with
  |nil=>simp at h
  |cons x p ih=>
   cases i with
   |zero=>simp at hp;subst hp;simp
   |succ i=>
    simp only [List.set_cons_succ,List.count_cons]
    have:=ih (by simpa using h) (by simpa using hp)
    omega
 ·apply XX
  intro x
  rw [XZ]
  by_cases hx:i=x
  ·subst hx;rw [if_pos rfl,if_pos h,UB h,hp]
  ·rw [if_neg hx]
theorem A3 (p:List Bool):fy p≤p.length:=List.count_le_length
theorem yp {i k:Nat} (hi:i<40) (hk:k<40):IntKind.i64.wrap ((i:Int)*40)=(i:Int)*40∧IntKind.i64.wrap ((i:Int)*40+k)=((40*i+k:Nat):Int):=by
 refine ⟨by rw [U5 _ (by omega)],?_⟩
 rw [U5 _ (by omega)];omega
theorem F2 (d:D) (i:Nat) (hi:i<40) (p:List Bool) (hp:p.length=1600): ∃j os,(j=0∧∃p',p'.length=1600∧os=[d,.int .i64 i,eP p'])∧Is nk [d,.int .i64 i,.int .i64 i,.int .i64 0,eP p] j os:=by
 have:=cX (aY:=List.range 40) (enc:=fun k (p:List Bool)=>[d,.int .i64 i,.int .i64 i,.int .i64 k,eP p]) (I:=fun k p=>p.length=1600) (Q:=fun j os=>j=0∧∃p',p'.length=1600∧os=[d,.int .i64 i,eP p']) xT (fun _ _=>rfl)
  (fun k p x hk hI hx=>by
   have hk':k<40:=by simpa using hk
   have w:=bm hk' (by omega)
   obtain ⟨w1,w2⟩:=yp hi hk'
   have e1:(k:Int)<40:=by omega
   have e2:(i:Int)<40:=by omega
   have e3:(i:Int)*40≤100000000:=by omega
   have e4:((40*i+k:Nat):Int)<1600:=by omega
   refine aH (.next [d,.int .i64 i,.int .i64 i,.int .i64 ((k+1:Nat):Int),eP (p.set (40*i+k) true)]) ?_ (.inr ⟨_,rfl,by simp [hI]⟩)
   simp only [ko,ah,bc,aR,ae,ag,aB,aj,if_pos e1,aC,if_pos (U9 _),if_pos e2,nc,w1,if_pos e3,eN,w2,if_pos e4,mi,Uc,Ud,w,eP,nd,UM,lP])
  (fun p hI=>by
   rw [X6]
   exact aH (.exit 0 [d,.int .i64 i,eP p]) (by simp [ko]) ⟨_,_,rfl,rfl,p,hI,rfl⟩) p hp
 exact this
theorem LI (d:D) (p:List Bool) (hp:p.length=1600): ∃j os,(j=0∧∃p',p'.length=1600∧os=[d,eP p'])∧Is lJ [d,.int .i64 0,eP p] j os:=by
 have:=cX (aY:=List.range 40) (enc:=fun k (p:List Bool)=>[d,.int .i64 k,eP p]) (I:=fun k p=>p.length=1600) (Q:=fun j os=>j=0∧∃p',p'.length=1600∧os=[d,eP p']) CM (fun _ _=>rfl)
  (fun k p x hk hI hx=>by
   have hk':k<40:=by simpa using hk
   have w:=bm hk' (by omega)
   have e1:(k:Int)<40:=by omega
   unfold nm
   simp only [ah,bc,aR,ae,ag,aB,aj,if_pos e1]
   obtain ⟨j,os,⟨rfl,p',hp',rfl⟩,hL⟩:=F2 d k hk' p hI
   refine aP rfl hL (by simp) ?_
   simp only [ay,Uq,X3,true_and]
   exact aH (.next [d,.int .i64 ((k+1:Nat):Int),eP p']) (by simp [w]) (.inr ⟨_,rfl,hp'⟩))
  (fun p hI=>by
   rw [X6]
   exact aH (.exit 0 [d,eP p]) (by simp [nm]) ⟨_,_,rfl,rfl,p,hI,rfl⟩) p hp
 exact this
theorem mr (t:List Cl) (hl:t.length≤40) (s u:bo) (p:List Bool) (hp:p.length=1600): ∃j os,((j=0∧os=[eP p])∨(j=1∧∃b,os=[.bool b,eP p]))∧Is AQ [eT t,.str s,.str u,eP p] j os:=by
 refine Ge OG rfl ?_
 have hsl:(cg t s).length≤41:=by rw [cQ];have:=dH t s;simp;omega
 unfold Jc
 simp only [ah,bc,aR,ae,ag,au,aj]
 by_cases h1:s=[63]
 ·rw [if_pos h1];exact aH (.exit 0 [eP p]) (by simp) ⟨_,_,rfl,.inl ⟨rfl,rfl⟩⟩
 rw [if_neg h1]
 by_cases h2:u=[63]
 ·rw [if_pos h2];exact aH (.exit 0 [eP p]) (by simp) ⟨_,_,rfl,.inl ⟨rfl,rfl⟩⟩
 rw [if_neg h2]
 by_cases h3:s=u
 ·rw [if_pos h3];exact aH (.exit 0 [eP p]) (by simp) ⟨_,_,rfl,.inl ⟨rfl,rfl⟩⟩
 rw [if_neg h3]
 refine ab rfl (qm t s (by omega)) (by simp) (by simp) (by simp) (by simp) ?_
 refine ab rfl (gD (cg t s) u (by omega)) (by simp) (by simp) (by simp) (by simp) ?_
 simp only [aM,UU,VF,ah,bc,aR,ae,ag,aj]
 by_cases h4:u∈cg t s
 ·rw [if_pos h4];exact aH (.exit 0 [eP p]) (by simp) ⟨_,_,rfl,.inl ⟨rfl,rfl⟩⟩
 rw [if_neg h4]
 refine ab rfl (dB t s (by omega)) (by simp) (by simp) (by simp) (by simp) ?_
 refine ab rfl (dB t u (by omega)) (by simp) (by simp) (by simp) (by simp) ?_
 simp only [aM,aF,XL,UU,VF,ah,bc,aR,ae,ag]
 rw [←kz,←kz]
 cases hs:eD t s with
 |none=>simp only [VU,al];exact aH (.exit 1 [.bool false,eP p]) (by simp) ⟨_,_,rfl,.inr ⟨rfl,_,rfl⟩⟩
 |some a=>
  cases hu:eD t u with
  |none=>simp only [VU,XP,aE,al];exact aH (.exit 1 [.bool false,eP p]) (by simp) ⟨_,_,rfl,.inr ⟨rfl,_,rfl⟩⟩
  |some b=>
   obtain ⟨ha,_⟩:=gu hs
   obtain ⟨hb,_⟩:=gu hu
   obtain ⟨w1,w2⟩:=yp (show a<40 by omega) (show b<40 by omega)
   have e1:(a:Int)<40:=by omega
   have e2:(b:Int)<40:=by omega
   have e3:(a:Int)*40≤100000000:=by omega
   have e4:((40*a+b:Nat):Int)<1600:=by omega
   have e5:40*a+b<p.length:=by omega
   have e6:(40*(a:Int)+b).toNat=40*a+b:=by omega
   simp only [XP,aE,Option.getD_some,aC,aj,if_pos (U9 _),aB,if_pos e1,if_pos e2,nc,w1,if_pos e3,eN,w2,if_pos e4]
   exact aH (.exit 1 [.bool p[40*a+b],eP p]) (by simp [w1,w2,eP,e5,e6]) ⟨_,_,rfl,.inr ⟨rfl,_,rfl⟩⟩
def RO (t:List Cl) (s u:bo) (p:List Bool) (kk ii:Nat) (j:Nat) (os:List D):Prop:=
 ∃b,(j=0∧os=[.int .i64 kk,.int .i64 ii,.str u,.str s,eT t,.bool b,eP p])∨(j=1∧os=[.bool b,eT t,eP p,.str s,.str u,.int .i64 kk,.int .i64 ii])
theorem JG (t:List Cl) (hs:dS t) (s u:bo) (p:List Bool) (hp:p.length=1600) (fv:List Vr) (hf:fv.length≤1000) (b:Bool) (kk ii:Nat): ∃j os,RO t s u p kk ii j os∧Is CN [.aY (fv.map Vr.e),.int .i64 0,eP p,eT t,.bool b,.str s,.str u,.int .i64 kk,.int .i64 ii] j os:=by
 have hl:=hs.len
 have:=cX (aY:=fv) (enc:=fun k (b:Bool)=>[.aY (fv.map Vr.e),.int .i64 k,eP p,eT t,.bool b,.str s,.str u,.int .i64 kk,.int .i64 ii]) (I:=fun _ _=>True) (Q:=RO t s u p kk ii) Jd (fun _ _=>rfl)
  (fun k b v hk _ hx=>by
   have w:=bm hk (by omega)
   have e1:(k:Int)<fv.length:=by omega
   have hx':fv[k]? =some v:=by rw [UB hk,hx]
   unfold t9
   simp only [ah,bc,aR,ae,ag,az,XV,aB,aj,if_pos e1,aC,if_pos (U9 k)]
   obtain ⟨x,y,hF⟩: ∃x y,Ok 141 [.c (eT t),.c (.str s),.c (.str v.n)] (.gf [.c (.str x),.c (.bool y)]):=⟨_,_,yh t s v.n hs⟩
   refine ab rfl hF (by simp [hx',Vr.e]) (by simp) (by simp) (by simp) ?_
   simp only [aM,aF,XL,UU,VF]
   obtain ⟨j,os,hQ,hL⟩:=mr t hl x v.t p hp
   refine aP rfl hL (by simp [hx',Vr.e]) ?_
   rcases hQ with ⟨rfl,rfl⟩ |⟨rfl,b1,rfl⟩
   ·simp only [ay,Uq,X3,true_and,UU,VF]
    obtain ⟨j,os,hQ,hL⟩:=mr t hl v.t x p hp
    refine aP rfl hL (by simp [hx',Vr.e]) ?_
    rcases hQ with ⟨rfl,rfl⟩ |⟨rfl,b2,rfl⟩
    ·simp only [ay,Uq,X3,true_and]
     exact aH (.next [.aY (fv.map Vr.e),.int .i64 ((k+1:Nat):Int),eP p,eT t,.bool true,.str s,.str u,.int .i64 kk,.int .i64 ii]) (by simp [w]) (.inr ⟨_,rfl,trivial⟩)
    ·simp only [aS,ay,Uq,X3,true_and,ah,bc,aR,UU,VF,ae,ag,aD]
     cases b2
     ·simp only [X5,aE]
      exact aH (.exit 0 [.int .i64 kk,.int .i64 ii,.str u,.str s,eT t,.bool false,eP p]) (by simp) (.inl ⟨_,_,rfl,_,.inl ⟨rfl,rfl⟩⟩)
     ·simp only [XQ,al]
      exact aH (.next [.aY (fv.map Vr.e),.int .i64 ((k+1:Nat):Int),eP p,eT t,.bool true,.str s,.str u,.int .i64 kk,.int .i64 ii]) (by simp [w]) (.inr ⟨_,rfl,trivial⟩)
   ·simp only [aS,ay,Uq,X3,true_and,ah,bc,aR,UU,VF,ae,ag,aD]
    cases b1
    ·simp only [X5,aE]
     exact aH (.exit 0 [.int .i64 kk,.int .i64 ii,.str u,.str s,eT t,.bool false,eP p]) (by simp) (.inl ⟨_,_,rfl,_,.inl ⟨rfl,rfl⟩⟩)
    ·simp only [XQ,al]
     obtain ⟨j,os,hQ,hL⟩:=mr t hl v.t x p hp
     refine aP rfl hL (by simp [hx',Vr.e]) ?_
     rcases hQ with ⟨rfl,rfl⟩ |⟨rfl,b2,rfl⟩
     ·simp only [ay,Uq,X3,true_and]
      exact aH (.next [.aY (fv.map Vr.e),.int .i64 ((k+1:Nat):Int),eP p,eT t,.bool true,.str s,.str u,.int .i64 kk,.int .i64 ii]) (by simp [w]) (.inr ⟨_,rfl,trivial⟩)
     ·simp only [aS,ay,Uq,X3,true_and,ah,bc,aR,UU,VF,ae,ag,aD]
      cases b2
      ·simp only [X5,aE]
       exact aH (.exit 0 [.int .i64 kk,.int .i64 ii,.str u,.str s,eT t,.bool false,eP p]) (by simp) (.inl ⟨_,_,rfl,_,.inl ⟨rfl,rfl⟩⟩)
      ·simp only [XQ,al]
       exact aH (.next [.aY (fv.map Vr.e),.int .i64 ((k+1:Nat):Int),eP p,eT t,.bool true,.str s,.str u,.int .i64 kk,.int .i64 ii]) (by simp [w]) (.inr ⟨_,rfl,trivial⟩))
  (fun b _=>aH (.exit 1 [.bool b,eT t,eP p,.str s,.str u,.int .i64 kk,.int .i64 ii]) (by simp [t9]) ⟨_,_,rfl,_,.inr ⟨rfl,rfl⟩⟩) b trivial
 exact this
def RP (t:List Cl) (s u:bo) (p:List Bool) (kk ii:Nat) (ms:List Sg) (k:Nat) (j:Nat) (os:List D):Prop:=
 (j=0∧∃a b c d e f x,os=[a,b,c,d,e,f,.int .i64 kk,.int .i64 ii,.str u,.str s,eT t,.bool x,eP p])∨(j=1∧∃a b c d e f x,os=[.aY (ms.map Sg.e),.int .i64 k,a,b,c,d,e,f,.str u,.bool x,eT t,eP p,.str s,.int .i64 kk,.int .i64 ii])
theorem JH (t:List Cl) (hs:dS t) (s u:bo) (p:List Bool) (hp:p.length=1600) (ms:List Sg) (k0:Nat) (m x:Sg) (hm:m.p.length≤10) (hx0:x.p.length=m.p.length) (b:Bool) (kk ii:Nat):
 ∃j os,RP t s u p kk ii ms k0 j os∧Is nn [.aY (ms.map Sg.e),.int .i64 k0,.aY (m.p.map Vr.e),.int .i64 0,eP p,eT t,.bool b,.str s,.str u,.int .i64 kk,.int .i64 ii,.str m.n,.str m.r,.str x.n,.aY (x.p.map Vr.e),.str x.r] j os:=by
 have hl:=hs.len
 have:=cX (aY:=m.p) (enc:=fun k (b:Bool)=>[.aY (ms.map Sg.e),.int .i64 k0,.aY (m.p.map Vr.e),.int .i64 k,eP p,eT t,.bool b,.str s,.str u,.int .i64 kk,.int .i64 ii,.str m.n,.str m.r,.str x.n,.aY (x.p.map Vr.e),.str x.r]) (I:=fun _ _=>True) (Q:=RP t s u p kk ii ms k0) xU (fun _ _=>rfl)
  (fun k b v hk _ hx=>by
   have w:=bm hk (by omega)
   have e1:(k:Int)<m.p.length:=by omega
   have e2:(k:Int)<x.p.length:=by omega
   have e3:k<x.p.length:=by omega
   have hx':m.p[k]? =some v:=by rw [UB hk,hx]
   unfold kp
   simp only [ah,bc,aR,ae,ag,az,XV,aB,aj,if_pos e1,aC,if_pos (U9 k),if_pos e2]
   obtain ⟨j,os,hQ,hL⟩:=mr t hl v.t x.p[k].t p hp
   refine aP rfl hL (by simp [hx',Vr.e,e3]) ?_
   rcases hQ with ⟨rfl,rfl⟩ |⟨rfl,b2,rfl⟩
   ·simp only [ay,Uq,X3,true_and]
    exact aH (.next [.aY (ms.map Sg.e),.int .i64 k0,.aY (m.p.map Vr.e),.int .i64 ((k+1:Nat):Int),eP p,eT t,.bool true,.str s,.str u,.int .i64 kk,.int .i64 ii,.str m.n,.str m.r,.str x.n,.aY (x.p.map Vr.e),.str x.r]) (by simp [w]) (.inr ⟨_,rfl,trivial⟩)
   ·simp only [aS,ay,Uq,X3,true_and,ah,bc,aR,UU,VF,ae,ag,aD]
    cases b2
    ·simp only [X5,aE]
     exact aH (.exit 0 [.str x.n,.aY (x.p.map Vr.e),.str x.r,.str m.n,.aY (m.p.map Vr.e),.str m.r,.int .i64 kk,.int .i64 ii,.str u,.str s,eT t,.bool false,eP p]) (by simp) (.inl ⟨_,_,rfl,.inl ⟨rfl,_,_,_,_,_,_,_,rfl⟩⟩)
    ·simp only [XQ,al]
     exact aH (.next [.aY (ms.map Sg.e),.int .i64 k0,.aY (m.p.map Vr.e),.int .i64 ((k+1:Nat):Int),eP p,eT t,.bool true,.str s,.str u,.int .i64 kk,.int .i64 ii,.str m.n,.str m.r,.str x.n,.aY (x.p.map Vr.e),.str x.r]) (by simp [w]) (.inr ⟨_,rfl,trivial⟩))
  (fun b _=>aH (.exit 1 [.aY (ms.map Sg.e),.int .i64 k0,.str x.n,.aY (x.p.map Vr.e),.str x.r,.str m.n,.aY (m.p.map Vr.e),.str m.r,.str u,.bool b,eT t,eP p,.str s,.int .i64 kk,.int .i64 ii]) (by simp [kp]) ⟨_,_,rfl,.inr ⟨rfl,_,_,_,_,_,_,_,rfl⟩⟩) b trivial
 exact this
theorem JI (t:List Cl) (hs:dS t) (s u:bo) (p:List Bool) (hp:p.length=1600) (ms:List Sg) (hml:ms.length≤1000) (hM: ∀m∈ms,m.p.length≤10∧∃x o,methodOf t s m.n=some (x,o)∧x.p.length=m.p.length) (b:Bool) (kk ii:Nat):
 ∃j os,((j≤1∧∃x,os=[.int .i64 kk,.int .i64 ii,.str u,.str s,eT t,.bool x,eP p]))∧Is xV [.aY (ms.map Sg.e),.int .i64 0,eP p,eT t,.bool b,.str s,.str u,.int .i64 kk,.int .i64 ii] j os:=by
 have hl:=hs.len
 have:=cX (aY:=ms) (enc:=fun k (b:Bool)=>[.aY (ms.map Sg.e),.int .i64 k,eP p,eT t,.bool b,.str s,.str u,.int .i64 kk,.int .i64 ii]) (I:=fun _ _=>True) (Q:=fun j os=>j≤1∧∃x,os=[.int .i64 kk,.int .i64 ii,.str u,.str s,eT t,.bool x,eP p]) FM (fun _ _=>rfl)
  (fun k b m hk _ hx=>by
   have w:=bm hk (by omega)
   have e1:(k:Int)<ms.length:=by omega
   have hx':ms[k]? =some m:=by rw [UB hk,hx]
   obtain ⟨hmp,x,o,hmo,hxp⟩:=hM m (hx▸UO hk)
   have hF:=o5 t s m.n hs
   rw [hmo] at hF
   unfold qe
   simp only [ah,bc,aR,ae,ag,az,XV,aB,aj,if_pos e1,aC,if_pos (U9 k)]
   refine ab rfl hF (by simp [hx',Sg.e]) (by simp [Sg.e]) (by simp [Sg.e]) (by simp [Sg.e]) ?_
   simp only [aM,aF,Sg.e,XL,UU,VF]
   obtain ⟨j,os,hQ,hL⟩:=mr t hl x.r m.r p hp
   refine aP rfl hL (by simp [hx',Sg.e]) ?_
   have par:=fun b=>JH t hs s u p hp ms k m x hmp hxp b kk ii
   rcases hQ with ⟨rfl,rfl⟩ |⟨rfl,b2,rfl⟩
   ·simp only [ay,Uq,X3,true_and,UU,VF]
    obtain ⟨j,os,hQ,hL⟩:=par true
    refine aP rfl hL (by simp [hx',Sg.e]) ?_
    rcases hQ with ⟨rfl,a1,a2,a3,a4,a5,a6,y,rfl⟩ |⟨rfl,a1,a2,a3,a4,a5,a6,y,rfl⟩
    ·simp only [ay,Uq,X3,true_and,UU,VF]
     exact aH (.exit 0 [.int .i64 kk,.int .i64 ii,.str u,.str s,eT t,.bool y,eP p]) (by simp) (.inl ⟨_,_,rfl,by omega,_,rfl⟩)
    ·simp only [aS,ay,Uq,X3,true_and,UU,VF]
     exact aH (.next [.aY (ms.map Sg.e),.int .i64 ((k+1:Nat):Int),eP p,eT t,.bool y,.str s,.str u,.int .i64 kk,.int .i64 ii]) (by simp [w]) (.inr ⟨_,rfl,trivial⟩)
   ·simp only [aS,ay,Uq,X3,true_and,ah,bc,aR,UU,VF,ae,ag,aD]
    cases b2
    ·simp only [X5,aE]
     exact aH (.exit 0 [.int .i64 kk,.int .i64 ii,.str u,.str s,eT t,.bool false,eP p]) (by simp) (.inl ⟨_,_,rfl,by omega,_,rfl⟩)
    ·simp only [XQ,al]
     obtain ⟨j,os,hQ,hL⟩:=par true
     refine aP rfl hL (by simp [hx',Sg.e]) ?_
     rcases hQ with ⟨rfl,a1,a2,a3,a4,a5,a6,y,rfl⟩ |⟨rfl,a1,a2,a3,a4,a5,a6,y,rfl⟩
     ·simp only [ay,Uq,X3,true_and,UU,VF]
      exact aH (.exit 0 [.int .i64 kk,.int .i64 ii,.str u,.str s,eT t,.bool y,eP p]) (by simp) (.inl ⟨_,_,rfl,by omega,_,rfl⟩)
     ·simp only [aS,ay,Uq,X3,true_and,UU,VF]
      exact aH (.next [.aY (ms.map Sg.e),.int .i64 ((k+1:Nat):Int),eP p,eT t,.bool y,.str s,.str u,.int .i64 kk,.int .i64 ii]) (by simp [w]) (.inr ⟨_,rfl,trivial⟩))
  (fun b _=>aH (.exit 1 [.int .i64 kk,.int .i64 ii,.str u,.str s,eT t,.bool b,eP p]) (by simp [qe]) ⟨_,_,rfl,by omega,_,rfl⟩) b trivial
 exact this
theorem LJ (t:List Cl) (hT:FZ t) (i k:Nat) (hi:i<t.length) (hk:k<t.length) (p:List Bool) (hp:p.length=1600): ∃j os,((j=0∧os=[eP p])∨(j=1∧∃b p',os=[.bool b,eP p']∧p'.length=1600∧fy p'+b.toNat=fy p))∧Is OH [eT t,.int .i64 i,.int .i64 k,eP p] j os:=by
 have hs:=o6 hT.len hT.sz
 have hl:=hT.len
 refine Ge OI rfl ?_
 have e1:(i:Int)<t.length:=by omega
 have e2:(k:Int)<t.length:=by omega
 have e1':(i:Int)<40:=by omega
 have e2':(k:Int)<40:=by omega
 obtain ⟨w1,w2⟩:=yp (show i<40 by omega) (show k<40 by omega)
 have e3:(i:Int)*40≤100000000:=by omega
 have e4:((40*i+k:Nat):Int)<1600:=by omega
 have e5:40*i+k<p.length:=by omega
 have hxi:t[i]? =some t[i]:=UB hi
 have hxk:t[k]? =some t[k]:=UB hk
 generalize t[i]=c at hxi
 generalize t[k]=d at hxk
 have hsl:(cg t c.n).length≤41:=by rw [cQ];have:=dH t c.n;simp;omega
 have hpe:p[40*i+k]? =some p[40*i+k]:=UB e5
 unfold Je
 simp only [ah,bc,aR,ae,ag,aC,aj,if_pos (U9 _),eT,az,XV,aB,if_pos e1,if_pos e2,if_pos e1',if_pos e2',nc,w1,if_pos e3,eN,w2,if_pos e4,eP,aI,UM,Ue,hpe,hxi,hxk,VN,aq,an,aD,Cl.e,au]
 cases hb:p[40*i+k]
 ·simp only [X5,aE]
  exact aH (.exit 0 [eP p]) (by simp [eP]) ⟨_,_,rfl,.inl ⟨rfl,rfl⟩⟩
 obtain ⟨q1,q2⟩:=F1 e5 hb
 have fin: ∀b:Bool,∃p',((j:Nat)→(os:List D)→j=1→os=[.bool (!b),eP p']→(j=0∧os=[eP p])∨(j=1∧∃b p',os=[.bool b,eP p']∧p'.length=1600∧fy p'+b.toNat=fy p))∧p'=p.set (40*i+k) b:=fun b=>⟨_,fun j os hj ho=>.inr ⟨hj,_,_,ho,by simp [hp],by
  cases b
  ·exact q1
  ·rw [q2];rfl⟩,rfl⟩
 simp only [XQ,al]
 by_cases h1:c.n=d.n
 ·rw [if_pos h1];exact aH (.exit 0 [eP p]) (by simp [eP]) ⟨_,_,rfl,.inl ⟨rfl,rfl⟩⟩
 rw [if_neg h1]
 refine ab rfl (qm t c.n (by omega)) (by simp [eT,hxi,Cl.e]) (by simp) (by simp) (by simp) ?_
 refine ab rfl (gD (cg t c.n) d.n (by omega)) (by simp [hxk,Cl.e]) (by simp) (by simp) (by simp) ?_
 simp only [aM,UU,VF,ah,bc,aR,ae,ag,aj]
 by_cases h2:d.n∈cg t c.n
 ·rw [if_pos h2];exact aH (.exit 0 [eP p]) (by simp [eP]) ⟨_,_,rfl,.inl ⟨rfl,rfl⟩⟩
 rw [if_neg h2]
 refine ab rfl (Lu t c.n d.n hs) (by simp [eT,hxi,hxk,Cl.e]) (by simp) (by simp) (by simp) ?_
 simp only [aM,UU,VF,ah,bc,aR,ae,ag]
 cases hh:hasB t c.n d.n
 ·simp only [al]
  obtain ⟨p',f1,rfl⟩:=fin false
  exact aH (.exit 1 [.bool (!false),eP (p.set (40*i+k) false)]) (by simp only [wp_exit,Uc,Ud,bc,aR,ae,ag,aD,nc,eN,w1,w2,nd,UM,lP,eP]) ⟨_,_,rfl,f1 _ _ rfl rfl⟩
 simp only [aE]
 refine ab rfl (yg t d.n hs) (by simp [eT,hxk,Cl.e]) (by simp) (by simp) (by simp) ?_
 simp only [aM,UU,VF]
 have hfl:=nu hs d.n
 obtain ⟨j,os,⟨b,hQ⟩,hL⟩:=JG t hs c.n d.n p hp (fieldsOf t d.n) (by omega) true k i
 refine aP rfl hL (by simp [hxi,hxk,Cl.e,eT,eP]) ?_
 rcases hQ with ⟨rfl,rfl⟩ |⟨rfl,rfl⟩
 ·simp only [ay,Uq,X3,true_and,UU,VF]
  obtain ⟨p',f1,rfl⟩:=fin b
  exact aH (.exit 1 [.bool (!b),eP (p.set (40*i+k) b)]) (by simp only [wp_exit,Uc,Ud,bc,aR,ae,ag,aD,nc,eN,w1,w2,nd,UM,lP,eP]) ⟨_,_,rfl,f1 _ _ rfl rfl⟩
 ·simp only [aS,ay,Uq,X3,true_and,UU,VF]
  obtain ⟨hM,hml⟩:=Ee t d.n hs
  refine ab rfl hM (by simp) (by simp) (by simp) (by simp) ?_
  simp only [aM,UU,VF]
  obtain ⟨j,os,⟨hj,x,rfl⟩,hL⟩:=JI t hs c.n d.n p hp (methodsOf t d.n) (by omega) (fun m hm=>by
   obtain ⟨c',hc',hmc⟩:=qX hm
   exact ⟨hs.p c' (fe hc') m hmc,CZ hT hh hm⟩) b k i
  refine aP rfl hL (by simp) ?_
  obtain ⟨p',f1,rfl⟩:=fin x
  match j,hj with
  |0,_=>
   simp only [ay,Uq,X3,true_and,UU,VF]
   exact aH (.exit 1 [.bool (!x),eP (p.set (40*i+k) x)]) (by simp only [wp_exit,Uc,Ud,bc,aR,ae,ag,aD,nc,eN,w1,w2,nd,UM,lP,eP]) ⟨_,_,rfl,f1 _ _ rfl rfl⟩
  |1,_=>
   simp only [aS,ay,Uq,X3,true_and,UU,VF]
   exact aH (.exit 1 [.bool (!x),eP (p.set (40*i+k) x)]) (by simp only [wp_exit,Uc,Ud,bc,aR,ae,ag,aD,nc,eN,w1,w2,nd,UM,lP,eP]) ⟨_,_,rfl,f1 _ _ rfl rfl⟩
def LK (t:List Cl) (n:Nat) (a:List D) (j:Nat) (os:List D):Prop:=j=0∧∃(s:Nat) (p:List Bool),p.length=1600∧s+fy p=n∧os=[eT t,.int .i64 s]++a++[eP p]
theorem LL (t:List Cl) (hT:FZ t) (i:Nat) (hi:i<t.length) (s0:Nat) (p:List Bool) (hp:p.length=1600) (hs0:s0≤1600): ∃j os,LK t (s0+fy p) [.int .i64 i] j os∧Is kq [eT t,.int .i64 s0,.int .i64 i,.int .i64 i,.int .i64 0,eP p] j os:=by
 have hl:=hT.len
 have htr:s0+fy p≤3200:=by have:=A3 p;omega
 have:=cX (aY:=t) (enc:=fun k (b:Nat×List Bool)=>[eT t,.int .i64 b.1,.int .i64 i,.int .i64 i,.int .i64 k,eP b.2]) (I:=fun _ b=>b.2.length=1600∧b.1+fy b.2=s0+fy p) (Q:=LK t (s0+fy p) [.int .i64 i]) ua (fun _ _=>rfl)
  (fun k b c hk hI hx=>by
   obtain ⟨h1,h2⟩:=hI
   have w:=bm hk (by omega)
   have w':IntKind.i64.wrap ((b.1:Int)+1)=((b.1+1:Nat):Int):=bm (n:=4000) (by omega) (by omega)
   have e1:(k:Int)<t.length:=by omega
   unfold iy
   simp only [ah,bc,aR,ae,ag,eT,az,XV,aB,aj,if_pos e1]
   obtain ⟨j,os,hQ,hL⟩:=LJ t hT i k hi hk b.2 h1
   refine aP rfl hL (by simp [eT]) ?_
   rcases hQ with ⟨rfl,rfl⟩ |⟨rfl,x,p',rfl,hp',hc⟩
   ·simp only [ay,Uq,X3,true_and]
    exact aH (.next [eT t,.int .i64 b.1,.int .i64 i,.int .i64 i,.int .i64 ((k+1:Nat):Int),eP b.2]) (by simp [w,eT]) (.inr ⟨b,rfl,h1,h2⟩)
   ·simp only [aS,ay,Uq,X3,true_and,ah,bc,aR,UU,VF,ae,ag]
    cases x
    ·simp only [al]
     exact aH (.next [eT t,.int .i64 b.1,.int .i64 i,.int .i64 i,.int .i64 ((k+1:Nat):Int),eP p']) (by simp [w,eT]) (.inr ⟨(b.1,p'),rfl,hp',by simp at hc;simp only;omega⟩)
    ·simp only [aE]
     exact aH (.next [eT t,.int .i64 ((b.1+1:Nat):Int),.int .i64 i,.int .i64 i,.int .i64 ((k+1:Nat):Int),eP p']) (by simp [w,w',eT]) (.inr ⟨(b.1+1,p'),rfl,hp',by simp at hc;simp only;omega⟩))
  (fun b hI=>aH (.exit 0 [eT t,.int .i64 b.1,.int .i64 i,eP b.2]) (by simp [iy,eT]) ⟨_,_,rfl,rfl,b.1,b.2,hI.1,hI.2,rfl⟩) (s0,p) ⟨hp,rfl⟩
 exact this
theorem LM (t:List Cl) (hT:FZ t) (p:List Bool) (hp:p.length=1600): ∃j os,LK t (fy p) [] j os∧Is np [eT t,.int .i64 0,.int .i64 0,eP p] j os:=by
 have hl:=hT.len
 have htr:=A3 p
 have:=cX (aY:=t) (enc:=fun k (b:Nat×List Bool)=>[eT t,.int .i64 b.1,.int .i64 k,eP b.2]) (I:=fun _ b=>b.2.length=1600∧b.1+fy b.2=fy p) (Q:=LK t (fy p) []) xW (fun _ _=>rfl)
  (fun k b c hk hI hx=>by
   obtain ⟨h1,h2⟩:=hI
   have w:=bm hk (by omega)
   have e1:(k:Int)<t.length:=by omega
   unfold kr
   simp only [ah,bc,aR,ae,ag,eT,az,XV,aB,aj,if_pos e1]
   obtain ⟨j,os,⟨rfl,s,p',hp',hc,rfl⟩,hL⟩:=LL t hT k hk b.1 b.2 h1 (by omega)
   refine aP rfl hL (by simp [eT]) ?_
   simp only [ay,UU,VF,Uq,X3,true_and]
   exact aH (.next [eT t,.int .i64 s,.int .i64 ((k+1:Nat):Int),eP p']) (by simp [w,eT]) (.inr ⟨(s,p'),rfl,hp',by simp only;omega⟩))
  (fun b hI=>aH (.exit 0 [eT t,.int .i64 b.1,eP b.2]) (by simp [kr,eT]) ⟨_,_,rfl,rfl,b.1,b.2,hI.1,hI.2,rfl⟩) (0,p) ⟨hp,by simp⟩
 exact this
theorem LN (t:List Cl) (hT:FZ t) (p:List Bool) (hp:p.length=1600): ∃j os,(j=0∧∃p',p'.length=1600∧os=[eP p'])∧Is lK [eT t,eP p] j os:=by
 have:=Nb (α:=List Bool) (enc:=fun p=>[eT t,eP p]) (I:=fun p=>p.length=1600) (μ:=fy) (Q:=fun _ j os=>j=0∧∃p',p'.length=1600∧os=[eP p']) CO (by
  intro p hp
  refine ⟨rfl,?_⟩
  unfold ub
  obtain ⟨j,os,⟨rfl,s,p',hp',hc,rfl⟩,hL⟩:=LM t hT p hp
  refine aP rfl hL (by simp) ?_
  simp only [ay,UU,VF,Uq,X3,true_and,ah,bc,aR,ae,ag,aL,aj]
  by_cases h0:(s:Int)=0
  ·rw [if_pos h0]
   exact aH (.exit 0 [eP p']) (by simp) (.inl ⟨_,_,rfl,rfl,p',hp',rfl⟩)
  ·rw [if_neg h0]
   exact aH (.next [eT t,eP p']) (by simp) (.inr ⟨p',rfl,hp',by omega,fun j os h=>h⟩)) p hp
 exact this
theorem LP (t:List Cl) (s u:bo): ∃b,(b=true→gR t=0∧typed t s=true∧typed t u=true)∧Ok 112 [.c (eT t),.c (.str s),.c (.str u)] (.c (.bool b)):=by
 obtain ⟨r,⟨b,hb,rfl⟩,h⟩:=kQ (l:=[eT t,.str s,.str u]) (R:=fun r=>∃b,(b=true→gR t=0∧typed t s=true∧typed t u=true)∧r= .c (.bool b)) (ds:=[.c (eT t),.c (.str s),.c (.str u)]) OJ (by simp) (by simp) (by
  have no: ∀{t':PT} {l},W [(43,none),(40,none)] [lJ,lK,AQ] t' l (fun o=>o= .ret (.c (.bool false)))→W [(43,none),(40,none)] [lJ,lK,AQ] t' l fun o=>∃r,o= .ret r∧∃b,(b=true→gR t=0∧typed t s=true∧typed t u=true)∧r= .c (.bool b):=fun h=>aH _ h ⟨_,rfl,false,(fun h=>by cases h),rfl⟩
  unfold Jf
  refine ab rfl (yn t) (by simp) (by simp) (by simp) (by simp) ?_
  simp only [aM,UU,VF,ah,bc,aR,ae,ag,aL,aj]
  by_cases hw:gR t=0
  case neg=>rw [if_neg hw];exact no (by simp)
  obtain ⟨ha,hT⟩:=uy hw
  rw [if_pos hw,if_pos ha]
  refine ab rfl (kD t s s) (by simp) (by simp) (by simp) (by simp) ?_
  simp only [aM,UU,VF,ah,bc,aR,ae,ag]
  cases h1:cZ t s s
  ·simp only [al];exact no (by simp)
  simp only [aE]
  refine ab rfl (kD t u u) (by simp) (by simp) (by simp) (by simp) ?_
  simp only [aM,UU,VF,ah,bc,aR,ae,ag]
  cases h2:cZ t u u
  ·simp only [al];exact no (by simp)
  simp only [aE]
  have yes: ∀b:Bool,b=true→gR t=0∧typed t s=true∧typed t u=true:=fun _ _=>⟨hw,((fW hw).1 h1).1,((fW hw).1 h2).1⟩
  obtain ⟨j,os,⟨rfl,p,hp,rfl⟩,hL⟩:=LI (eT t) (UQ 1600 false) X7
  refine aP rfl hL (by simp only [Uc,Ud,bc,aR,ae,ag,Oa,eP,List.map_replicate];rw [show (1600:Int).toNat=1600 from rfl]) ?_
  simp only [ay,Uq,X3,true_and,UU,VF]
  obtain ⟨j,os,⟨rfl,p,hp,rfl⟩,hL⟩:=LN t hT p hp
  refine aP rfl hL (by simp) ?_
  simp only [ay,Uq,X3,true_and,UU,VF]
  obtain ⟨j,os,hQ,hL⟩:=mr t hT.len s u p hp
  refine aP rfl hL (by simp) ?_
  rcases hQ with ⟨rfl,rfl⟩ |⟨rfl,b,rfl⟩
  ·simp only [ay,Uq,X3,true_and]
   exact aH (.ret (.c (.bool true))) (by simp) ⟨_,rfl,_,yes _,rfl⟩
  ·simp only [aS,ay,Uq,X3,true_and]
   exact aH (.ret (.c (.bool b))) (by simp) ⟨_,rfl,_,yes _,rfl⟩)
 exact ⟨b,hb,h⟩
structure vc (t:List Cl) (s:Si):Prop where
 f:typed t s.f=true
 t:typed t s.t=true
 w:s.w≠1→s.f=[63]∧s.t=[63]
theorem O1 (t:List Cl) (s:Si): ∃w,(w=0→vc t s)∧Ok 65 [.c (eT t),.agg s.e] (.c (.int .i64 w)):=by
 obtain ⟨r,⟨w,hw,rfl⟩,h⟩:=kQ (l:=[eT t]++s.e) (R:=fun r=>∃w,(w=0→vc t s)∧r= .c (.int .i64 w)) (ds:=[.c (eT t),.agg s.e]) Q2 (by simp [Si.e]) (by simp [Si.e]) (by
  have no: ∀{t':PT} {l} (n:Int),n≠0→W [(112,none),(40,none)] [] t' l (fun o=>o= .ret (.c (.int .i64 n)))→W [(112,none),(40,none)] [] t' l fun o=>∃r,o= .ret r∧∃w,(w=0→vc t s)∧r= .c (.int .i64 w):=fun n hn h=>aH _ h ⟨_,rfl,n,fun h=>absurd h hn,rfl⟩
  have yes: ∀{t':PT} {l},vc t s→W [(112,none),(40,none)] [] t' l (fun o=>o= .ret (.c (.int .i64 0)))→W [(112,none),(40,none)] [] t' l fun o=>∃r,o= .ret r∧∃w,(w=0→vc t s)∧r= .c (.int .i64 w):=fun hn h=>aH _ h ⟨_,rfl,0,fun _=>hn,rfl⟩
  have hq:typed t [63]=true:=by simp [typed]
  unfold MA
  simp only [Si.e,UU,VF,ah,bc,aR,ae,ag,aB,aK,aG,aL,aw,ak,aj]
  by_cases h1:s.w<1
  ·rw [if_pos h1];exact no 2 (by omega) (by simp)
  rw [if_neg h1]
  by_cases h2:5<s.w
  ·rw [if_pos h2];exact no 2 (by omega) (by simp)
  rw [if_neg h2]
  by_cases h3:s.w=1
  ·rw [if_pos h3,if_pos h3]
   obtain ⟨b,hb,hG⟩:=LP t s.f s.t
   refine ab rfl hG (by simp) (by simp) (by simp) (by simp) ?_
   simp only [aM,UU,VF,ah,bc,aR,ae,ag,aD]
   cases b
   ·simp only [X5,aE];exact no 7 (by omega) (by simp)
   simp only [XQ,al]
   refine ab rfl (kD t s.f s.t) (by simp) (by simp) (by simp) (by simp) ?_
   simp only [aM,UU,VF,ah,bc,aR,ae,ag]
   obtain ⟨_,q1,q2⟩:=hb rfl
   cases cZ t s.f s.t
   ·simp only [al];exact yes ⟨q1,q2,fun h=>absurd h3 h⟩ (by simp)
   ·simp only [aE];exact no 7 (by omega) (by simp)
  ·rw [if_neg h3]
   by_cases h4:s.f=[63]
   case neg=>rw [if_neg h4];exact no 2 (by omega) (by simp)
   rw [if_pos h4]
   by_cases h5:s.t=[63]
   case neg=>rw [if_neg h5];exact no 2 (by omega) (by simp)
   rw [if_pos h5,if_neg h3]
   exact yes ⟨by rw [h4];exact hq,by rw [h5];exact hq,fun _=>⟨h4,h5⟩⟩ (by simp))
 exact ⟨w,hw,h⟩
def aU (l:List Si):D:=.aY (l.map Si.e)
@[simp] theorem PW {l:List Si}:bA tS (aU l)=True:=by simp [tS,aU]
theorem O2 (t:List Cl) (l:List Si): ∃w a,(w=0→l.length≤5000∧∀s∈l,vc t s)∧Ok 44 [.c (eT t),.c (aU l)] (.agg [.int .i64 w,.int .i64 a]):=by
 obtain ⟨r,⟨w,a,hw,rfl⟩,h⟩:=kQ (l:=[eT t,aU l]) (R:=fun r=>∃(w a:Int),(w=0→l.length≤5000∧∀s∈l,vc t s)∧r= .agg [.int .i64 w,.int .i64 a]) (ds:=[.c (eT t),.c (aU l)]) QW (by simp) (by simp) (by
  unfold Mu
  simp only [ah,bc,aR,ae,ag,aU,az,XV,aK,aj]
  by_cases hl:(5000:Int)<l.length
  ·rw [if_pos hl]
   exact aH (.ret (.agg [.int .i64 12,.int .i64 5000])) (by simp) ⟨_,rfl,_,_,fun h=>by omega,rfl⟩
  rw [if_neg hl]
  have:=cX (aY:=l) (enc:=fun k (_:Unit)=>[eT t,aU l,.int .i64 k]) (I:=fun k _=>∀(x:Nat) (h:x<l.length),x<k→vc t l[x]) (Q:=fun j os=>(j=0∧∃w n:Int,w≠0∧os=[.int .i64 w,.int .i64 n])∨(j=1∧os=[]∧∀s∈l,vc t s)) IC (fun _ _=>rfl)
   (fun k b s hk hI hx=>by
    have w:=bm hk (by omega)
    have e1:(k:Int)<l.length:=by omega
    have hx':l[k]? =some s:=by rw [UB hk,hx]
    unfold tR
    simp only [ah,bc,aR,ae,ag,aU,az,XV,aB,aj,if_pos e1,aC,if_pos (U9 k)]
    obtain ⟨w',hw',hF⟩:=O1 t s
    refine ab rfl hF (by simp [hx',Si.e]) (by simp) (by simp) (by simp) ?_
    simp only [aM,UU,VF,ah,bc,aR,ae,ag,aG,ak,aj]
    by_cases h0:w'=0
    ·rw [if_pos h0]
     refine aH (.next [eT t,aU l,.int .i64 ((k+1:Nat):Int)]) (by simp [w,aU]) (.inr ⟨(),rfl,fun x h h2=>?_⟩)
     by_cases hxk:x=k
     ·subst hxk;rw [hx];exact hw' h0
     ·exact hI x h (by omega)
    ·rw [if_neg h0]
     exact aH (.exit 0 [.int .i64 w',.int .i64 k]) (by simp) (.inl ⟨_,_,rfl,.inl ⟨rfl,_,_,h0,rfl⟩⟩))
   (fun b hI=>aH (.exit 1 []) (by simp [tR,aU]) ⟨_,_,rfl,.inr ⟨rfl,rfl,fun s hs=>by
    obtain ⟨x,h,rfl⟩:=List.mem_iff_getElem.1 hs
    exact hI x h h⟩⟩) () (fun x h h2=>by omega)
  obtain ⟨j,os,hQ,hL⟩:=this
  refine aP rfl hL (by simp [aU]) ?_
  rcases hQ with ⟨rfl,w,n,hw,rfl⟩ |⟨rfl,rfl,hS⟩
  ·simp only [ay,Uq,X3,true_and]
   exact aH (.ret (.agg [.int .i64 w,.int .i64 n])) (by simp) ⟨_,rfl,_,_,fun h=>absurd h hw,rfl⟩
  ·simp only [aS,ay,X3,true_and]
   exact aH (.ret (.agg [.int .i64 0,.int .i64 0])) (by simp) ⟨_,rfl,_,_,fun _=>⟨by omega,hS⟩,rfl⟩)
 exact ⟨w,a,hw,h⟩
def eF (l:List Fu):D:=.aY (l.map Fu.e)
@[simp] theorem RQ {l:List Fu}:bA tF (eF l)=True:=by simp [tF,eF]
def o9 (c:Cl) (m:Sg):Fu:=⟨c.n,m.n,m.p.map (·.t),[]⟩
def gS (t:List Cl):List Fu:=(t.flatMap fun c=>c.m.map (o9 c))++[⟨[],[109,97,105,110],[],[]⟩]
theorem JJ (d:D) (k0:Int) (c:Cl) (out:List Fu) (hm:c.m.length≤20) (hp: ∀m∈c.m,m.p.length≤10) (ho:out.length≤1000):Is tU [eF out,d,.int .i64 k0,.aY (c.m.map Sg.e),.int .i64 0,.str c.n,.str c.s,.aY (c.f.map Vr.e)] 0 [eF (out++c.m.map (o9 c)),d,.int .i64 k0,.str c.n,.str c.s,.aY (c.f.map Vr.e),.aY (c.m.map Sg.e)]:=by
 have h:=AX (aY:=c.m) (enc:=fun k (b:List Fu)=>[eF b,d,.int .i64 k0,.aY (c.m.map Sg.e),.int .i64 k,.str c.n,.str c.s,.aY (c.f.map Vr.e)]) (I:=fun k b=>b.length≤1000+k) (g:=fun m b=>b++[o9 c m]) (fin:=fun b=>[eF b,d,.int .i64 k0,.str c.n,.str c.s,.aY (c.f.map Vr.e),.aY (c.m.map Sg.e)]) CF (fun _ _=>rfl)
  (fun k b m hk hI hx=>by
   have w:=bm hk (by omega)
   have e1:(k:Int)<c.m.length:=by omega
   have hx':c.m[k]? =some m:=by rw [UB hk,hx]
   have hmp:=hp m (hx▸UO hk)
   unfold nh
   simp only [ah,bc,aR,ae,ag,az,XV,aB,aj,if_pos e1,aC,if_pos (U9 k)]
   refine ab rfl (um m.p (by omega)) (by simp [hx',Sg.e]) (by simp) (by simp) (by simp) ?_
   have e2:((b.length:Nat):Int)≤100000000:=by omega
   simp only [aM,UU,VF,ah,bc,aR,ae,ag,eF,az,XV,aC,aj,if_pos e2]
   exact aH (.next [eF (b++[o9 c m]),d,.int .i64 k0,.aY (c.m.map Sg.e),.int .i64 ((k+1:Nat):Int),.str c.n,.str c.s,.aY (c.f.map Vr.e)]) (by simp [eF,hx',Sg.e,w,Fu.e,o9,eL]) ⟨rfl,by simp;omega⟩)
  (fun b _=>by simp [nh]) out (by omega)
 rw [kC] at h
 exact h
theorem wD {t:List Cl} (hs:dS t):(gS t).length≤801:=by
 have key: ∀l:List Cl,(∀c∈l,c.m.length≤20)→(l.flatMap fun c=>c.m.map (o9 c)).length≤20*l.length:=by
  intro l
  induction l with
  |nil=>simp
  |cons c l ih=>
   intro h
   have:=ih fun x hx=>h x (List.mem_cons_of_mem _ hx)
   have:=h c (List.mem_cons_self ..)
   simp only [List.flatMap_cons,Up,Uq,XV];omega
 have:=key t hs.m
 have:=hs.len
 unfold gS
 simp only [Up,Uq,X3]
 omega
theorem O3 (t:List Cl) (hs:dS t):Ok 46 [.c (eT t)] (.c (eF (gS t))):=by
 have hl:=hs.len
 refine nz (l:=[eT t]) QX (by simp) (by simp) ?_
 unfold Mv
 have hL:=AX (aY:=t) (enc:=fun k (b:List Fu)=>[eF b,eT t,.int .i64 k]) (I:=fun k b=>b.length≤20*k∧k≤40) (g:=fun c b=>b++c.m.map (o9 c)) (fin:=fun b=>[eF b]) IE (fun _ _=>rfl)
  (fun k b c hk hI hx=>by
   have w:=bm hk (by omega)
   have e1:(k:Int)<t.length:=by omega
   have hx':t[k]? =some c:=by rw [UB hk,hx]
   have hc:c∈t:=hx▸UO hk
   unfold tW
   simp only [ah,bc,aR,ae,ag,eT,az,XV,aB,aj,if_pos e1,aC,if_pos (U9 k)]
   refine aP rfl (JJ (eT t) k c b (hs.m c hc) (hs.p c hc) (by omega)) (by simp [eT,hx',Cl.e]) ?_
   simp only [ay,Uq,X3,true_and]
   have:=hs.m c hc
   exact aH (.next [eF (b++c.m.map (o9 c)),eT t,.int .i64 ((k+1:Nat):Int)]) (by simp [w,eT]) ⟨rfl,by simp;omega,by omega⟩)
  (fun b _=>by simp [tW,eT]) [] ⟨by simp,by omega⟩
 rw [nv] at hL
 refine aP rfl hL (by simp [eF]) ?_
 have hfl:=wD hs
 simp only [ay,Uq,X3,true_and,UU,VF,ah,bc,aR,ae,ag]
 have e2:(((t.flatMap fun c=>c.m.map (o9 c)).length:Nat):Int)≤100000000:=by unfold gS at hfl;simp only [Up,Uq,X3] at hfl;omega
 simp only [eF,az,XV,aC,aj,if_pos e2]
 simp [eF,gS,Fu.e]
theorem F3 {t:List Cl} (hT:FZ t) {f:Fu} (h:f∈gS t):f.c=[]∨(cls t f.c).isSome=true:=by
 unfold gS at h
 rcases List.mem_append.1 h with h |h
 ·obtain ⟨c,hc,hf⟩:=List.mem_flatMap.1 h
  obtain ⟨m,_,rfl⟩:=List.mem_map.1 hf
  obtain ⟨i,hi,rfl⟩:=List.mem_iff_getElem.1 hc
  have:=(hT.sz i hi).at_
  show t[i].n=[]∨(cls t t[i].n).isSome=true
  rw [jG this,UB hi]
  exact .inr rfl
 ·rw [List.mem_singleton.1 h]
  exact .inl rfl
structure FOK (t:List Cl) (f:Fu):Prop where
 c:f.c=[]∨(cls t f.c).isSome=true
 l:f.l.length≤200
 k0:f.k≠[]
 k:f.k.length≤20000
 ty: ∀s∈f.l,typed t s=true
structure wE (m:Mo):Prop where
 t:gR m.t=0
 sl:m.s.length≤5000
 s: ∀s∈m.s,vc m.t s
 p:m.p.length≤2000
 fl:m.f.length≤801
 f: ∀f∈m.f,FOK m.t f
theorem LQ (l:List bo) (hl:l.length≤2000) (a b c:D): ∃j os,((j=0∧∃n:Int,os=[a,b,eL l,c,.int .i64 n])∨(j=1∧os=[a,b,eL l,c]))∧Is yd [eL l,.int .i64 0,a,b,c] j os:=
 cX (aY:=l) (enc:=fun k (_:Unit)=>[eL l,.int .i64 k,a,b,c]) (I:=fun _ _=>True) (Q:=fun j os=>(j=0∧∃n:Int,os=[a,b,eL l,c,.int .i64 n])∨(j=1∧os=[a,b,eL l,c])) FU (fun _ _=>rfl)
  (fun k u x hk _ hx=>by
   have w:=bm hk (by omega)
   have e1:(k:Int)<l.length:=by omega
   have hx':l[k]? =some x:=by rw [UB hk,hx]
   simp only [ql,ah,bc,aR,ae,ag,eL,az,XV,aB,aj,if_pos e1,aC,if_pos (U9 k),aI,UM,Ue,hx',VN,aq,eS,an,mj,aK]
   by_cases h:(1000:Int)<x.length
   ·rw [if_pos h]
    exact aH (.exit 0 [a,b,eL l,c,.int .i64 k]) (by simp [eL]) (.inl ⟨_,_,rfl,.inl ⟨rfl,_,rfl⟩⟩)
   ·rw [if_neg h]
    exact aH (.next [eL l,.int .i64 ((k+1:Nat):Int),a,b,c]) (by simp [eL,w]) (.inr ⟨(),rfl,trivial⟩))
  (fun u _=>aH (.exit 1 [a,b,eL l,c]) (by simp [ql,eL]) ⟨_,_,rfl,.inr ⟨rfl,rfl⟩⟩) () trivial
theorem O4 (a b:List Fu) (hl:a.length=b.length) (hb:b.length≤1000000) (hf: ∀f∈b,f.l.length≤9223372036854775807): ∃j os,(os=[]∧(j=0∨(j=1∧∀(x:Nat) (h:x<b.length),b[x].fits (a[x]'(by omega))=true)))∧Is CW [eF a,eF b,.int .i64 0] j os:=
 cX (aY:=b) (enc:=fun k (_:Unit)=>[eF a,eF b,.int .i64 k]) (I:=fun k _=>∀(x:Nat) (h:x<b.length),x<k→b[x].fits (a[x]'(by omega))=true) (Q:=fun j os=>os=[]∧(j=0∨(j=1∧∀(x:Nat) (h:x<b.length),b[x].fits (a[x]'(by omega))=true))) Jx (fun _ _=>rfl)
  (fun k u f hk hI hx=>by
   have w:=bm hk (by omega)
   have e1:(k:Int)<b.length:=by omega
   have e2:(k:Int)<a.length:=by omega
   have k2:k<a.length:=by omega
   have hx':b[k]? =some f:=by rw [UB hk,hx]
   have hy':a[k]? =some a[k]:=UB k2
   unfold uh
   simp only [ah,bc,aR,ae,ag,eF,az,XV,aB,aj,if_pos e1,if_pos e2,aC,if_pos (U9 k)]
   refine ab rfl (OU f a[k] (hf f (hx▸UO hk))) (by simp [hx',hy',Fu.e]) (by simp) (by simp) (by simp) ?_
   simp only [aM,UU,VF,ah,bc,aR,ae,ag,aD]
   cases hft:f.fits a[k]
   ·simp only [X5,aE]
    exact aH (.exit 0 []) (by simp) (.inl ⟨_,_,rfl,rfl,.inl rfl⟩)
   ·simp only [XQ,al]
    refine aH (.next [eF a,eF b,.int .i64 ((k+1:Nat):Int)]) (by simp [w,eF]) (.inr ⟨(),rfl,fun x h h2=>?_⟩)
    by_cases hxk:x=k
    ·subst hxk;rw [hx];exact hft
    ·exact hI x h (by omega))
  (fun u hI=>aH (.exit 1 []) (by simp [uh,eF]) ⟨_,_,rfl,rfl,.inr ⟨rfl,fun x h=>hI x h h⟩⟩) () (fun x h h2=>by omega)
theorem O5 (t:List Cl) (l:List bo) (hl:l.length≤1000) (a b c:D): ∃j os,((j=0∧∃n:Nat,os=[.int .i64 n,eT t,a,b,c])∨(j=1∧os=[eT t,a,b,c]∧∀s∈l,cZ t s s=true))∧Is CX [eL l,.int .i64 0,eT t,a,b,c] j os:=
 cX (aY:=l) (enc:=fun k (_:Unit)=>[eL l,.int .i64 k,eT t,a,b,c]) (I:=fun k _=>∀(x:Nat) (h:x<l.length),x<k→cZ t l[x] l[x]=true) (Q:=fun j os=>(j=0∧∃n:Nat,os=[.int .i64 n,eT t,a,b,c])∨(j=1∧os=[eT t,a,b,c]∧∀s∈l,cZ t s s=true)) Jy (fun _ _=>rfl)
  (fun k u x hk hI hx=>by
   have w:=bm hk (by omega)
   have e1:(k:Int)<l.length:=by omega
   have hx':l[k]? =some x:=by rw [UB hk,hx]
   unfold ui
   simp only [ah,bc,aR,ae,ag,eL,az,XV,aB,aj,if_pos e1,aC,if_pos (U9 k)]
   refine ab rfl (kD t x x) (by simp [hx',eS]) (by simp) (by simp) (by simp) ?_
   simp only [aM,UU,VF,ah,bc,aR,ae,ag,aD]
   cases hs:cZ t x x
   ·simp only [X5,aE]
    exact aH (.exit 0 [.int .i64 k,eT t,a,b,c]) (by simp) (.inl ⟨_,_,rfl,.inl ⟨rfl,_,rfl⟩⟩)
   ·simp only [XQ,al]
    refine aH (.next [eL l,.int .i64 ((k+1:Nat):Int),eT t,a,b,c]) (by simp [w,eL]) (.inr ⟨(),rfl,fun y h h2=>?_⟩)
    by_cases hyk:y=k
    ·subst hyk;rw [hx];exact hs
    ·exact hI y h (by omega))
  (fun u hI=>aH (.exit 1 [eT t,a,b,c]) (by simp [ui,eL]) ⟨_,_,rfl,.inr ⟨rfl,rfl,fun s hs=>by
   obtain ⟨x,h,rfl⟩:=List.mem_iff_getElem.1 hs
   exact hI x h h⟩⟩) () (fun x h h2=>by omega)
def RS (t:List Cl) (l:List Fu) (a b c:D) (j:Nat) (os:List D):Prop:=
 (j≤1∧∃n:Int,os=[eT t,a,b,c,.int .i64 n])∨(j=2∧os=[eT t,a,b,c]∧∀f∈l,f.l.length≤200∧f.k≠[]∧f.k.length≤20000∧∀s∈f.l,cZ t s s=true)
theorem JK (t:List Cl) (l:List Fu) (hl:l.length≤1000000) (a b c:D): ∃j os,RS t l a b c j os∧Is uj [eF l,.int .i64 0,eT t,a,b,c] j os:=
 cX (aY:=l) (enc:=fun k (_:Unit)=>[eF l,.int .i64 k,eT t,a,b,c]) (I:=fun k _=>∀(x:Nat) (h:x<l.length),x<k→l[x].l.length≤200∧l[x].k≠[]∧l[x].k.length≤20000∧∀s∈l[x].l,cZ t s s=true) (Q:=RS t l a b c) CY (fun _ _=>rfl)
  (fun k u f hk hI hx=>by
   have w:=bm hk (by omega)
   have e1:(k:Int)<l.length:=by omega
   have hx':l[k]? =some f:=by rw [UB hk,hx]
   unfold nt
   simp only [ah,bc,aR,ae,ag,eF,az,XV,aB,aj,if_pos e1,aC,if_pos (U9 k),aI,UM,Ue,hx',VN,aq,Fu.e,ar,an,aK,aL]
   by_cases h1:(200:Int)<f.l.length
   ·rw [if_pos h1];exact aH (.exit 0 [eT t,a,b,c,.int .i64 k]) (by simp) (.inl ⟨_,_,rfl,.inl ⟨by omega,_,rfl⟩⟩)
   rw [if_neg h1]
   by_cases h2:((f.k.length:Nat):Int)=0
   ·rw [if_pos h2];exact aH (.exit 0 [eT t,a,b,c,.int .i64 k]) (by simp) (.inl ⟨_,_,rfl,.inl ⟨by omega,_,rfl⟩⟩)
   rw [if_neg h2]
   by_cases h3:(20000:Int)<f.k.length
   ·rw [if_pos h3];exact aH (.exit 0 [eT t,a,b,c,.int .i64 k]) (by simp) (.inl ⟨_,_,rfl,.inl ⟨by omega,_,rfl⟩⟩)
   rw [if_neg h3]
   obtain ⟨j,os,hQ,hL⟩:=O5 t f.l (by omega) a b c
   refine aP rfl hL (by simp [hx',Fu.e,eL]) ?_
   rcases hQ with ⟨rfl,n,rfl⟩ |⟨rfl,rfl,hS⟩
   ·have e2:(0:Int)≤n:=U9 n
    simp only [ay,Uq,X3,true_and,UU,VF,ah,bc,aR,ae,ag,aO,aj,if_pos e2]
    exact aH (.exit 1 [eT t,a,b,c,.int .i64 k]) (by simp) (.inl ⟨_,_,rfl,.inl ⟨by omega,_,rfl⟩⟩)
   ·simp only [aS,ay,Uq,X3,true_and,UU,VF]
    refine aH (.next [eF l,.int .i64 ((k+1:Nat):Int),eT t,a,b,c]) (by simp [w,eF]) (.inr ⟨(),rfl,fun x h h2'=>?_⟩)
    by_cases hxk:x=k
    ·subst hxk
     rw [hx]
     exact ⟨by omega,fun e=>h2 (by rw [e];rfl),by omega,hS⟩
    ·exact hI x h (by omega))
  (fun u hI=>aH (.exit 2 [eT t,a,b,c]) (by simp [nt,eF]) ⟨_,_,rfl,.inr ⟨rfl,rfl,fun f hf=>by
   obtain ⟨x,h,rfl⟩:=List.mem_iff_getElem.1 hf
   exact hI x h h⟩⟩) () (fun x h h2=>by omega)
theorem O6 (m:Mo) (hf: ∀f∈m.f,f.l.length≤9223372036854775807): ∃w a,(w=0→a=0∧wE m)∧Ok 29 [.agg m.e] (.agg [.int .i64 w,.int .i64 a]):=by
 obtain ⟨r,⟨w,a,hw,rfl⟩,h⟩:=kQ (l:=[eT m.t,aU m.s,eL m.p,eF m.f]) (R:=fun r=>∃(w a:Int),(w=0→a=0∧wE m)∧r= .agg [.int .i64 w,.int .i64 a]) (ds:=[.agg m.e]) RC (by simp [Mo.e,eT,aU,eL,eF]) (by simp) (by
  unfold Na
  refine ab rfl (yn m.t) (by simp) (by simp) (by simp) (by simp) ?_
  simp only [aM,UU,VF,ah,bc,aR,ae,ag,aG,ak,aj]
  by_cases h1:gR m.t=0
  case neg=>
   rw [if_neg h1]
   exact aH (.ret (.agg [.int .i64 (gR m.t),.int .i64 (O0 m.t)])) (by simp) ⟨_,rfl,_,_,fun h=>absurd h h1,rfl⟩
  rw [if_pos h1]
  obtain ⟨_,hT⟩:=uy h1
  have hs:=o6 hT.len hT.sz
  obtain ⟨w2,a2,hw2,hF⟩:=O2 m.t m.s
  refine ab rfl hF (by simp [eT,aU]) (by simp) (by simp) (by simp) ?_
  simp only [aM,UU,VF,ah,bc,aR,ae,ag,aG,ak,aj]
  by_cases h2:w2=0
  case neg=>
   rw [if_neg h2]
   exact aH (.ret (.agg [.int .i64 w2,.int .i64 a2])) (by simp) ⟨_,rfl,_,_,fun h=>absurd h h2,rfl⟩
  rw [if_pos h2]
  obtain ⟨hsl,hS⟩:=hw2 h2
  simp only [eL,az,XV,aK,aj]
  by_cases h3:(2000:Int)<m.p.length
  ·rw [if_pos h3]
   exact aH (.ret (.agg [.int .i64 12,.int .i64 2000])) (by simp) ⟨_,rfl,_,_,fun h=>by omega,rfl⟩
  rw [if_neg h3]
  obtain ⟨j,os,hQ,hL⟩:=LQ m.p (by omega) (eT m.t) (aU m.s) (eF m.f)
  refine aP rfl hL (by simp [eT,aU,eF,eL]) ?_
  rcases hQ with ⟨rfl,n,rfl⟩ |⟨rfl,rfl⟩
  ·simp only [ay,Uq,X3,true_and]
   exact aH (.ret (.agg [.int .i64 4,.int .i64 n])) (by simp) ⟨_,rfl,_,_,fun h=>by omega,rfl⟩
  simp only [aS,ay,Uq,X3,true_and,UU,VF]
  refine ab rfl (O3 m.t hs) (by simp) (by simp) (by simp) (by simp) ?_
  simp only [aM,UU,VF,ah,bc,aR,ae,ag,aG,ak,aj,eF,az,XV]
  by_cases h4:(m.f.length:Int)=(gS m.t).length
  case neg=>
   rw [if_neg h4]
   exact aH (.ret (.agg [.int .i64 2,.int .i64 0])) (by simp) ⟨_,rfl,_,_,fun h=>by omega,rfl⟩
  rw [if_pos h4]
  have hfl:=wD hs
  obtain ⟨j,os,⟨rfl,hQ⟩,hL⟩:=O4 (gS m.t) m.f (by omega) (by omega) hf
  refine aP rfl hL (by simp [eF]) ?_
  rcases hQ with rfl |⟨rfl,hfit⟩
  ·simp only [ay,X3,true_and]
   exact aH (.ret (.agg [.int .i64 2,.int .i64 0])) (by simp) ⟨_,rfl,_,_,fun h=>by omega,rfl⟩
  simp only [aS,ay,X3,true_and,XL]
  obtain ⟨j,os,hQ,hL⟩:=JK m.t m.f (by omega) (aU m.s) (eL m.p) (eF m.f)
  refine aP rfl hL (by simp [eF]) ?_
  rcases hQ with ⟨hj,n,rfl⟩ |⟨rfl,rfl,hFn⟩
  ·match j,hj with
   |0,_=>simp only [ay,Uq,X3,true_and];exact aH (.ret (.agg [.int .i64 12,.int .i64 n])) (by simp) ⟨_,rfl,_,_,fun h=>by omega,rfl⟩
   |1,_=>simp only [aS,ay,Uq,X3,true_and];exact aH (.ret (.agg [.int .i64 7,.int .i64 n])) (by simp) ⟨_,rfl,_,_,fun h=>by omega,rfl⟩
  simp only [aS,ay,Uq,X3,true_and]
  refine aH (.ret (.agg [.int .i64 0,.int .i64 0])) (by simp) ⟨_,rfl,_,_,fun _=>⟨rfl,h1,hsl,hS,by omega,by omega,fun f hfm=>?_⟩,rfl⟩
  obtain ⟨q1,q2,q3,q4⟩:=hFn f hfm
  refine ⟨?_,q1,q2,q3,fun s hs=>((fW h1).1 (q4 s hs)).1⟩
  obtain ⟨x,hx,rfl⟩:=List.mem_iff_getElem.1 hfm
  have:=hfit x hx
  unfold Fu.fits at this
  rw [Bool.and_eq_true] at this
  rw [of_decide_eq_true this.1]
  exact F3 hT (UO _))
 exact ⟨w,a,hw,h⟩
def O7 (s:bo):Prop:=s=[]∨s=[63]∨s∈fc
def qY:DV→Prop
 | .gf [.agg [.str _,.str s,.bool _],.c (.int .i64 _)]=>O7 s
 |_=>False
theorem iB {r:DV} (h:qY r): ∃a s d w,r= .gf [.agg [.str a,.str s,.bool d],.c (.int .i64 w)]∧O7 s:=by
 unfold qY at h
 split at h
 ·exact ⟨_,_,_,_,rfl,h⟩
 ·exact h.elim
theorem TG {s:bo} (h:s∈fc):O7 s:=.inr (.inr h)
theorem yq (a b:bo): ∃r,qY r∧Ok 139 [.c (.str a),.c (.str b)] r:=by
 refine kQ (l:=[.str a,.str b]) Om (by simp) (by simp) ?_
 unfold IU
 simp only [ah,bc,aR,ae,ag,au,aw,aD,ak,aj]
 repeat' split
 all_goals simp [qY,O7,fc]
theorem Eg (a b:bo): ∃r,qY r∧Ok 138 [.c (.str a),.c (.str b)] r:=by
 refine kQ (l:=[.str a,.str b]) Ol (by simp) (by simp) ?_
 unfold IT
 simp only [ah,bc,aR,ae,ag,au,aw,aD,ak,aj]
 repeat' split
 all_goals simp_all [qY,O7,fc]
theorem aT {c:Prop} [Decidable c] {P Q:Prop} (h1:c→P) (h2: ¬c→Q):if c then P else Q:=by
 split
 ·exact h1 ‹_›
 ·exact h2 ‹_›
set_option maxHeartbeats 2000000 in
theorem Eh (a b c:bo): ∃r,qY r∧Ok 136 [.c (.str a),.c (.str b),.c (.str c)] r:=by
 refine kQ (l:=[.str a,.str b,.str c]) OR (by simp) (by simp) ?_
 unfold Jv
 have hb:=rK b
 have hc:=rK c
 generalize o4 b=x at hb
 generalize o4 c=y at hc
 simp only [ah,bc,aR,ae,ag,au,aw,aD,ak,aj]
 repeat' (first
  |refine aT (fun _=>?_) (fun _=>?_)
  |(refine ab rfl hb (by simp) (by simp) (by simp) (by simp) ?_;cases x<;>simp only [aM,UU,VF,ah,bc,aR,ae,ag,au,aw,aD,ak,aj,aE,al])
  |(refine ab rfl hc (by simp) (by simp) (by simp) (by simp) ?_;cases y<;>simp only [aM,UU,VF,ah,bc,aR,ae,ag,au,aw,aD,ak,aj,aE,al]))
 all_goals (try (clear hb hc;simp_all [qY,O7,fc];done))
end
section
open Go
theorem qZ {t:List Cl} {n k:bo} (h:fV t n k):typed t k=true:=by
 obtain ⟨_,h1,h2⟩:=h
 unfold o4 at h1
 unfold typed
 simp only [Bool.or_eq_true,decide_eq_true_eq] at h1⊢
 rcases h1 with (h1 |h1) |h1
 ·exact .inr h1
 ·exact .inl (.inr h1)
 ·exact .inl (.inl (h2 h1))
theorem A4 {t:List Cl} (hT:FZ t) {s q:bo} {v:Vr} (h:mq t s q=some v):typed t v.t=true:=by
 have hm:=XN h
 unfold fieldsOf at hm
 obtain ⟨c,hc,hv⟩:=List.mem_flatMap.1 hm
 exact qZ ((hT.ow c (fe (List.mem_reverse.1 hc))).f v hv).2
theorem uC {t:List Cl} (hT:FZ t) {s q o:bo} {m:Sg} (h:methodOf t s q=some (m,o)):typed t m.r=true∧m.p.length≤8:=by
 unfold methodOf at h
 obtain ⟨c,hc,h2⟩:=List.exists_of_findSome?_eq_some h
 simp only [Option.map_eq_some_iff,Prod.mk.injEq] at h2
 obtain ⟨m',hm,rfl,_⟩:=h2
 have hmem:m'∈c.m:=XN hm
 have hct:=fe hc
 refine ⟨qZ ((hT.ow c hct).m m' hmem).r,?_⟩
 obtain ⟨i,hi,rfl⟩:=List.mem_iff_getElem.1 hct
 exact (hT.sz i hi).p m' hmem
theorem cY {t:List Cl} {s:bo} (h:s∈fc):typed t s=true:=by simp [typed,h]
theorem rM {t:List Cl}:typed t [63]=true:=by simp [typed]
theorem iC {t:List Cl} {s:bo} (h:O7 s):s=[]∨typed t s=true:=by
 rcases h with h |rfl |h
 ·exact .inl h
 ·exact .inr rM
 ·exact .inr (cY h)
def kG (t:List Cl):DV→Prop
 | .gf [.agg [.aY ps,.str push],.c (.int .i64 e)]=>(∃pops:List bo,ps=pops.map eS∧pops.length≤900)∧(e=0→push=[]∨typed t push=true)
 |_=>False
theorem Ei {t:List Cl} (pops:List bo) (push:bo) (e:Int) (h1:pops.length≤900) (h2:e=0→push=[]∨typed t push=true):kG t (.gf [.agg [eL pops,.str push],.c (.int .i64 e)]):=⟨⟨pops,rfl,h1⟩,h2⟩
theorem LS {t:List Cl} {r:DV} (h:kG t r): ∃(pops:List bo) (push:bo) (e:Int),r= .gf [.agg [eL pops,.str push],.c (.int .i64 e)]∧pops.length≤900∧(e=0→push=[]∨typed t push=true):=by
 unfold kG at h
 split at h
 ·obtain ⟨⟨pops,rfl,h1⟩,h2⟩:=h
  exact ⟨pops,_,_,rfl,h1,h2⟩
 ·exact h.elim
abbrev Ef (t:List Cl) (o:mu):Prop:=∃r,o= .ret r∧kG t r
section
variable {fids:List uY} {lds:List LD} {l:List D} {t:List Cl}
theorem no (e:Int) (he:e≠0):W fids lds (.ret (.tuple [.agg [.tm (.aY []) (.op .nil []),.str []],.int .i64 e])) l (Ef t):=
 aH (.ret (.gf [.agg [eL [],.str []],.c (.int .i64 e)])) (by simp [eL]) ⟨_,rfl,Ei _ _ _ (by simp) (fun h=>absurd h he)⟩
theorem yes {p:PT} (pops:List bo) (push:bo) (h1:pops.length≤900) (h2:push=[]∨typed t push=true) (h:W fids lds p l (fun o=>o= .ret (.gf [.agg [eL pops,.str push],.c (.int .i64 0)]))):W fids lds p l (Ef t):=
 aH _ h ⟨_,rfl,Ei _ _ _ h1 (fun _=>h2)⟩
end
section
variable {m:Mo} (hm:wE m)
include hm
theorem wE.T:FZ m.t:=(uy hm.t).2
theorem wE.S:dS m.t:=o6 hm.T.len hm.T.sz
abbrev dk (m:Mo) (f:Nat):DV:=.agg (m.e++[.int .i64 (f:Int)])
abbrev xs (o a b c:Int):DV:=.agg [.int .i64 o,.int .i64 a,.int .i64 b,.int .i64 c]
abbrev en (m:Mo) (f:Nat) (o a b c:Int):List D:=[eT m.t,aU m.s,eL m.p,eF m.f,.int .i64 (f:Int),.int .i64 o,.int .i64 a,.int .i64 b,.int .i64 c]
theorem O8 (f:Nat) (o b c:Int) (i:Nat) (hi:i<m.p.length): ∃r,kG m.t r∧Ok 84 [dk m f,xs o i b c] r:=by
 refine kQ (l:=en m f o i b c) Q5 (by simp [Mo.e,eT,aU,eL,eF]) (by simp) ?_
 have hx:m.p[i]? =some m.p[i]:=UB hi
 have e1:(i:Int)<m.p.length:=by omega
 generalize m.p[i]=s at hx
 unfold MD
 simp only [aM,aF,UU,VF,XL,ah,bc,aR,ae,ag,az,XV,aB,aC,aK,aO,aL,aG,au,aw,aD,aN,aI,aq,UM,Ue,VN,an,ar,eS,eT,eL,aU,eF,ak,aj,if_pos e1,if_pos (U9 i)]
 refine ab rfl (dB m.t s (by have:=hm.S.len;omega)) (by simp [hx,eT,eS,aU,eL,eF,Fu.e,Si.e]) (by simp) (by simp) (by simp) ?_
 simp only [aM,aF,UU,VF,XL,ah,bc,aR,ae,ag,az,XV,aB,aC,aK,aO,aL,aG,au,aw,aD,aN,aI,aq,UM,Ue,VN,an,ar,eS,eT,eL,aU,eF,ak,aj,hx]
 cases hc:(cls m.t s).isSome
 ·simp only [X5,XQ,aE,al];exact no 6 (by omega)
 ·simp only [X5,XQ,aE,al]
  exact yes [] s (by simp) (.inr (by simp [typed,hc])) (by simp [eL,eS,hx,eT,aU,eF,Fu.e,Si.e])
theorem O9 (f:Nat) (hf:f<m.f.length) (o a b c:Int): ∃r,kG m.t r∧Ok 85 [dk m f,xs o a b c] r:=by
 refine kQ (l:=en m f o a b c) Q6 (by simp [Mo.e,eT,aU,eL,eF]) (by simp) ?_
 have hx:m.f[f]? =some m.f[f]:=UB hf
 have e1:(f:Int)<m.f.length:=by omega
 have hF:=hm.f m.f[f] (UO hf)
 generalize m.f[f]=g at hx hF
 unfold ME
 simp only [aM,aF,UU,VF,XL,ah,bc,aR,ae,ag,az,XV,aB,aC,aK,aO,aL,aG,au,aw,aD,aN,aI,aq,UM,Ue,VN,an,ar,eS,eT,eL,aU,eF,ak,aj,if_pos e1,if_pos (U9 f),hx,Fu.e]
 by_cases h:g.c=[]
 ·rw [if_pos h];exact no 6 (by omega)
 ·rw [if_neg h]
  exact yes [] g.c (by simp) (.inr (by simp [typed,hF.c.resolve_left h])) (by simp [eL,Fu.e,hx,eT,aU,eF,eS,Si.e])
theorem Pa (f:Nat) (hf:f<m.f.length) (o b c:Int) (i:Nat) (hi:i<(m.f[f]).l.length): ∃r,kG m.t r∧Ok 86 [dk m f,xs o i b c] r:=by
 refine kQ (l:=en m f o i b c) Q7 (by simp [Mo.e,eT,aU,eL,eF]) (by simp) ?_
 have hx:m.f[f]? =some m.f[f]:=UB hf
 have e1:(f:Int)<m.f.length:=by omega
 have hF:=hm.f m.f[f] (UO hf)
 generalize m.f[f]=g at hx hF hi
 have hy:g.l[i]? =some g.l[i]:=UB hi
 have ht:=hF.ty g.l[i] (UO hi)
 have e2:(i:Int)<g.l.length:=by omega
 generalize g.l[i]=s at hy ht
 unfold MF
 simp only [aM,aF,UU,VF,XL,ah,bc,aR,ae,ag,az,XV,aB,aC,aK,aO,aL,aG,au,aw,aD,aN,aI,aq,UM,Ue,VN,an,ar,eS,eT,eL,aU,eF,ak,aj,if_pos e1,if_pos (U9 _),hx,Fu.e,if_pos e2]
 exact yes [] s (by simp) (.inr ht) (by simp [eL,eS,Fu.e,hx,hy,eT,aU,eF,Si.e])
theorem Pb (f:Nat) (hf:f<m.f.length) (o b c:Int) (i:Nat) (hi:i<(m.f[f]).l.length): ∃r,kG m.t r∧Ok 87 [dk m f,xs o i b c] r:=by
 refine kQ (l:=en m f o i b c) Q8 (by simp [Mo.e,eT,aU,eL,eF]) (by simp) ?_
 have hx:m.f[f]? =some m.f[f]:=UB hf
 have e1:(f:Int)<m.f.length:=by omega
 generalize m.f[f]=g at hx hi
 have hy:g.l[i]? =some g.l[i]:=UB hi
 have e2:(i:Int)<g.l.length:=by omega
 generalize g.l[i]=s at hy
 unfold MG
 simp only [aM,aF,UU,VF,XL,ah,bc,aR,ae,ag,az,XV,aB,aC,aK,aO,aL,aG,au,aw,aD,aN,aI,aq,UM,Ue,VN,an,ar,eS,eT,eL,aU,eF,ak,aj,if_pos e1,if_pos (U9 _),hx,Fu.e,if_pos e2]
 exact yes [s] [] (by simp) (.inl rfl) (by simp [eL,eS,Fu.e,hx,hy,eT,aU,eF,Si.e])
omit hm in
theorem Ej (n:Int): ∃(s:bo) (e:Int),Ok 135 [.c (.int .i64 n)] (.gf [.c (.str s),.c (.int .i64 e)]):=by
 obtain ⟨r,⟨s,e,rfl⟩,h⟩:=kQ (l:=[.int .i64 n]) (R:=fun r=>∃(s:bo) (e:Int),r= .gf [.c (.str s),.c (.int .i64 e)]) (ds:=[.c (.int .i64 n)]) Oj (by simp) (by simp) (by
  have go: ∀{p:PT} {l:List D} (s:bo) (e:Int),W [] [] p l (fun o=>o= .ret (.gf [.c (.str s),.c (.int .i64 e)]))→W [] [] p l fun o=>∃r,o= .ret r∧∃(s:bo) (e:Int),r= .gf [.c (.str s),.c (.int .i64 e)]:=fun s e h=>aH _ h ⟨_,rfl,s,e,rfl⟩
  unfold IS
  simp only [aM,aF,UU,VF,XL,ah,bc,aR,ae,ag,az,XV,aB,aC,aK,aO,aL,aG,au,aw,aD,aN,aI,aq,UM,Ue,VN,an,ar,eS,eT,eL,aU,eF,ak,aj]
  refine aT (fun _=>go [] 7 (by simp)) (fun h1=>?_)
  refine aT (fun _=>go [] 7 (by simp)) (fun h2=>?_)
  have e:IntKind.i64.wrap (n - 1)=n - 1:=U5 _ (by omega)
  rw [e]
  refine aT (fun _=>go [105,110,116] 0 (by simp)) (fun h3=>?_)
  refine aT (fun _=>go [114,101,97,108] 0 (by simp)) (fun h4=>?_)
  refine aT (fun _=>go [98,111,111,108] 0 (by simp)) (fun h5=>?_)
  refine aT (fun _=>go [115,116,114] 0 (by simp)) (fun h6=>?_)
  refine aT (fun _=>go [117,110,105,116] 0 (by simp)) (fun h7=>?_)
  omega)
 exact ⟨s,e,h⟩
def fA:List bo:=[[61,61],[33,61],[60],[60,61],[43],[45],[42],[47],[37]]
omit hm in
theorem yr:Ok 99 [] (.c (eL fA)):=nz (l:=[]) Rk (by simp) (by simp) (by simp [MT,eL,fA,eS])
theorem Pc (f:Nat) (o b c:Int) (i:Nat) (hi:i<9): ∃r,kG m.t r∧Ok 88 [dk m f,xs o i b c] r:=by
 refine kQ (l:=en m f o i b c) Q9 (by simp [Mo.e,eT,aU,eL,eF]) (by simp) ?_
 unfold MH
 obtain ⟨s,e,h1⟩:=Ej b
 refine ab rfl h1 (by simp) (by simp) (by simp) (by simp) ?_
 simp only [aM,aF,UU,VF,XL,ah,bc,aR,ae,ag,az,XV,aB,aC,aK,aO,aL,aG,au,aw,aD,aN,aI,aq,UM,Ue,VN,an,ar,eS,eT,eL,aU,eF,ak,aj]
 refine aT (fun _=>?_) (fun _=>?_)
 ·by_cases hb:b=0
  ·rw [if_pos hb];exact yes [[42],[42]] [98,111,111,108] (by simp) (.inr (cY (by simp [fc]))) (by simp [eL,eS,eT,aU,eF,Fu.e,Si.e])
  ·rw [if_neg hb];exact no 7 (by omega)
 refine ab rfl yr (by simp) (by simp) (by simp) (by simp) ?_
 have e1:(i:Int)<fA.length:=by simp [fA];omega
 have hx:fA[i]? =some (fA[i]'(by simp [fA];omega)):=UB _
 generalize (fA[i]'(by simp [fA];omega))=g at hx
 simp only [aM,aF,UU,VF,XL,ah,bc,aR,ae,ag,az,XV,aB,aC,aK,aO,aL,aG,au,aw,aD,aN,aI,aq,UM,Ue,VN,an,ar,eS,eT,eL,aU,eF,ak,aj,if_pos e1,if_pos (U9 _)]
 obtain ⟨r,hr,hF⟩:=Eh g s s
 obtain ⟨a1,a2,d,w,rfl,ho⟩:=iB hr
 refine ab rfl hF (by simp [hx,eT,aU,eL,eF,eS,Fu.e,Si.e]) (by simp) (by simp) (by simp) ?_
 simp only [aM,aF,UU,VF,XL,ah,bc,aR,ae,ag,az,XV,aB,aC,aK,aO,aL,aG,au,aw,aD,aN,aI,aq,UM,Ue,VN,an,ar,eS,eT,eL,aU,eF,ak,aj]
 by_cases he:e=0
 ·rw [if_pos he]
  by_cases hw:w=0
  ·rw [if_pos hw];exact yes [s,s] a2 (by simp) (iC ho) (by simp [eL,eS,eT,aU,eF,Fu.e,Si.e])
  ·rw [if_neg hw];exact no 7 (by omega)
 ·rw [if_neg he];exact no 7 (by omega)
theorem Pd (f:Nat) (o c:Int) (i j:Nat) (hi:i<9) (hj0:1≤j) (hj:j≤m.s.length): ∃r,kG m.t r∧Ok 89 [dk m f,xs o i j c] r:=by
 refine kQ (l:=en m f o i j c) Ra (by simp [Mo.e,eT,aU,eL,eF]) (by simp) ?_
 obtain ⟨k,rfl⟩: ∃k,j=k+1:=⟨j - 1,by omega⟩
 have hsl:=hm.sl
 have w1:IntKind.i64.wrap (((k+1:Nat):Int) - 1)=k:=by rw [U5 _ (by omega)];omega
 have e1:(k:Int)<m.s.length:=by omega
 have hx:m.s[k]? =some (m.s[k]'(by omega)):=UB _
 generalize (m.s[k]'(by omega))=g at hx
 unfold MI
 simp only [aM,aF,UU,VF,XL,ah,bc,aR,ae,ag,az,XV,aB,aC,aK,aO,aL,aG,au,aw,aD,aN,aI,aq,UM,Ue,VN,an,ar,eS,eT,eL,aU,eF,ak,aj,w1,if_pos e1,if_pos (U9 _),hx,Si.e]
 by_cases hg:g.w=5
 case neg=>rw [if_neg hg];exact no 7 (by omega)
 rw [if_pos hg]
 refine ab rfl yr (by simp) (by simp) (by simp) (by simp) ?_
 have e1:(i:Int)<fA.length:=by simp [fA];omega
 have hx:fA[i]? =some (fA[i]'(by simp [fA];omega)):=UB _
 generalize (fA[i]'(by simp [fA];omega))=g at hx
 simp only [aM,aF,UU,VF,XL,ah,bc,aR,ae,ag,az,XV,aB,aC,aK,aO,aL,aG,au,aw,aD,aN,aI,aq,UM,Ue,VN,an,ar,eS,eT,eL,aU,eF,ak,aj,if_pos e1,if_pos (U9 _)]
 obtain ⟨r,hr,hF⟩:=Eh g [63] [63]
 obtain ⟨a1,a2,d,w,rfl,ho⟩:=iB hr
 refine ab rfl hF (by simp [hx,eT,aU,eL,eF,eS,Fu.e,Si.e]) (by simp) (by simp) (by simp) ?_
 exact yes [[63],[63]] a2 (by simp) (iC ho) (by simp [eL,eS,eT,aU,eF,Fu.e,Si.e])
theorem Pe (f:Nat) (o b c:Int) (i:Nat) (hi:i<2): ∃r,kG m.t r∧Ok 90 [dk m f,xs o i b c] r:=by
 refine kQ (l:=en m f o i b c) Rb (by simp [Mo.e,eT,aU,eL,eF]) (by simp) ?_
 unfold MJ
 obtain ⟨s,e,h1⟩:=Ej b
 refine ab rfl h1 (by simp) (by simp) (by simp) (by simp) ?_
 simp only [aM,aF,UU,VF,XL,ah,bc,aR,ae,ag,az,XV,aB,aC,aK,aO,aL,aG,au,aw,aD,aN,aI,aq,UM,Ue,VN,an,ar,eS,eT,eL,aU,eF,ak,aj]
 refine aT (fun _=>?_) (fun _=>?_)
 ·obtain ⟨r,hr,hF⟩:=Eg [45] s
  obtain ⟨a1,a2,d,w,rfl,ho⟩:=iB hr
  refine ab rfl hF (by simp) (by simp) (by simp) (by simp) ?_
  simp only [aM,aF,UU,VF,XL,ah,bc,aR,ae,ag,az,XV,aB,aC,aK,aO,aL,aG,au,aw,aD,aN,aI,aq,UM,Ue,VN,an,ar,eS,eT,eL,aU,eF,ak,aj]
  by_cases he:e=0
  ·rw [if_pos he]
   by_cases hw:w=0
   ·rw [if_pos hw];exact yes [s] a2 (by simp) (iC ho) (by simp [eL,eS,eT,aU,eF,Fu.e,Si.e])
   ·rw [if_neg hw];exact no 7 (by omega)
  ·rw [if_neg he];exact no 7 (by omega)
 refine aT (fun _=>?_) (fun _=>by omega)
 obtain ⟨r,hr,hF⟩:=Eg [33] s
 obtain ⟨a1,a2,d,w,rfl,ho⟩:=iB hr
 refine ab rfl hF (by simp) (by simp) (by simp) (by simp) ?_
 simp only [aM,aF,UU,VF,XL,ah,bc,aR,ae,ag,az,XV,aB,aC,aK,aO,aL,aG,au,aw,aD,aN,aI,aq,UM,Ue,VN,an,ar,eS,eT,eL,aU,eF,ak,aj]
 by_cases he:e=0
 ·rw [if_pos he]
  by_cases hw:w=0
  ·rw [if_pos hw];exact yes [s] a2 (by simp) (iC ho) (by simp [eL,eS,eT,aU,eF,Fu.e,Si.e])
  ·rw [if_neg hw];exact no 7 (by omega)
 ·rw [if_neg he];exact no 7 (by omega)
theorem Pf (f:Nat) (o b c:Int) (i:Nat) (hi:i<3): ∃r,kG m.t r∧Ok 91 [dk m f,xs o i b c] r:=by
 refine kQ (l:=en m f o i b c) Rc (by simp [Mo.e,eT,aU,eL,eF]) (by simp) ?_
 unfold MK
 simp only [aM,aF,UU,VF,XL,ah,bc,aR,ae,ag,az,XV,aB,aC,aK,aO,aL,aG,au,aw,aD,aN,aI,aq,UM,Ue,VN,an,ar,eS,eT,eL,aU,eF,ak,aj]
 refine aT (fun _=>?_) (fun _=>aT (fun _=>?_) (fun _=>aT (fun _=>?_) (fun _=>by omega)))
 ·obtain ⟨r,hr,hF⟩:=yq [114,101,97,108] [63]
  obtain ⟨a1,a2,d,w,rfl,ho⟩:=iB hr
  refine ab rfl hF (by simp) (by simp) (by simp) (by simp) ?_
  exact yes [a1] a2 (by simp) (iC ho) (by simp [eL,eS,eT,aU,eF,Fu.e,Si.e])
 ·obtain ⟨r,hr,hF⟩:=yq [105,110,116] [63]
  obtain ⟨a1,a2,d,w,rfl,ho⟩:=iB hr
  refine ab rfl hF (by simp) (by simp) (by simp) (by simp) ?_
  exact yes [a1] a2 (by simp) (iC ho) (by simp [eL,eS,eT,aU,eF,Fu.e,Si.e])
 ·obtain ⟨r,hr,hF⟩:=yq [108,101,110] [63]
  obtain ⟨a1,a2,d,w,rfl,ho⟩:=iB hr
  refine ab rfl hF (by simp) (by simp) (by simp) (by simp) ?_
  exact yes [a1] a2 (by simp) (iC ho) (by simp [eL,eS,eT,aU,eF,Fu.e,Si.e])
theorem Pg (f:Nat) (o b c:Int) (j:Nat) (hj0:1≤j) (hj:j≤m.s.length): ∃r,kG m.t r∧Ok 92 [dk m f,xs o j b c] r:=by
 refine kQ (l:=en m f o j b c) Rd (by simp [Mo.e,eT,aU,eL,eF]) (by simp) ?_
 obtain ⟨k,rfl⟩: ∃k,j=k+1:=⟨j - 1,by omega⟩
 have hsl:=hm.sl
 have w1:IntKind.i64.wrap (((k+1:Nat):Int) - 1)=k:=by rw [U5 _ (by omega)];omega
 have e1:(k:Int)<m.s.length:=by omega
 have hx:m.s[k]? =some (m.s[k]'(by omega)):=UB _
 have hS:=hm.s (m.s[k]'(by omega)) (UO _)
 generalize (m.s[k]'(by omega))=g at hx hS
 unfold ML
 simp only [aM,aF,UU,VF,XL,ah,bc,aR,ae,ag,az,XV,aB,aC,aK,aO,aL,aG,au,aw,aD,aN,aI,aq,UM,Ue,VN,an,ar,eS,eT,eL,aU,eF,ak,aj,w1,if_pos e1,if_pos (U9 _),hx,Si.e]
 by_cases hg:g.w=1
 case neg=>rw [if_neg hg];exact no 7 (by omega)
 rw [if_pos hg]
 have w2:IntKind.i64.wrap (k:Int)=k:=U5 _ (by omega)
 exact yes [g.f] g.t (by simp) (.inr hS.t) (by simp [w2,eL,eS,aU,w1,hx,Si.e,eT,eF,Fu.e])
theorem JL (f:Nat) (o c:Int) (i j:Nat) (hi:i<m.p.length) (hj:j<m.p.length): ∃r,kG m.t r∧Ok 93 [dk m f,xs o i j c] r:=by
 refine kQ (l:=en m f o i j c) Re (by simp [Mo.e,eT,aU,eL,eF]) (by simp) ?_
 have hx:m.p[i]? =some m.p[i]:=UB hi
 have hy:m.p[j]? =some m.p[j]:=UB hj
 have e1:(i:Int)<m.p.length:=by omega
 have e2:(j:Int)<m.p.length:=by omega
 generalize m.p[i]=s at hx
 generalize m.p[j]=q at hy
 unfold MM
 simp only [aM,aF,UU,VF,XL,ah,bc,aR,ae,ag,az,XV,aB,aC,aK,aO,aL,aG,au,aw,aD,aN,aI,aq,UM,Ue,VN,an,ar,eS,eT,eL,aU,eF,ak,aj,if_pos e1,if_pos e2,if_pos (U9 _)]
 refine ab rfl (yh m.t s q hm.S) (by simp [hx,hy,eT,eS,aU,eL,eF,Fu.e,Si.e]) (by simp) (by simp) (by simp) ?_
 simp only [aM,aF,UU,VF,XL,ah,bc,aR,ae,ag,az,XV,aB,aC,aK,aO,aL,aG,au,aw,aD,aN,aI,aq,UM,Ue,VN,an,ar,eS,eT,eL,aU,eF,ak,aj,hx]
 cases hc:mq m.t s q with
 |none=>simp only [VU,X5,XQ,aE,al];exact no 6 (by omega)
 |some v=>
  simp only [XP,X5,XQ,aE,al]
  refine aT (fun _=>?_) (fun _=>?_)
  ·exact yes [s] v.t (by simp) (.inr (A4 hm.T hc)) (by simp [eL,eS,hx,eT,aU,eF,Fu.e,Si.e])
  ·exact yes [s,v.t] [117,110,105,116] (by simp) (.inr (cY (by simp [fc]))) (by simp [eL,eS,hx,eT,aU,eF,Fu.e,Si.e])
theorem JM (f:Nat) (hf:f<m.f.length) (o c:Int) (i j:Nat) (hi:i<m.p.length) (hj:j<m.p.length): ∃r,kG m.t r∧Ok 94 [dk m f,xs o i j c] r:=by
 refine kQ (l:=en m f o i j c) Rf (by simp [Mo.e,eT,aU,eL,eF]) (by simp) ?_
 have hx:m.p[i]? =some m.p[i]:=UB hi
 have hy:m.p[j]? =some m.p[j]:=UB hj
 have hz:m.f[f]? =some m.f[f]:=UB hf
 have e1:(i:Int)<m.p.length:=by omega
 have e2:(j:Int)<m.p.length:=by omega
 have e3:(f:Int)<m.f.length:=by omega
 generalize m.p[i]=s at hx
 generalize m.p[j]=q at hy
 generalize m.f[f]=g at hz
 unfold MN
 simp only [aM,aF,UU,VF,XL,ah,bc,aR,ae,ag,az,XV,aB,aC,aK,aO,aL,aG,au,aw,aD,aN,aI,aq,UM,Ue,VN,an,ar,eS,eT,eL,aU,eF,ak,aj,if_pos e1,if_pos e2,if_pos e3,if_pos (U9 _)]
 have h1:=o5 m.t s q hm.S
 cases hc:methodOf m.t s q with
 |none=>
  rw [hc] at h1
  refine ab rfl h1 (by simp [hx,hy,eT,eS,aU,eL,eF,Fu.e,Si.e]) (by simp) (by simp) (by simp) ?_
  simp only [aM,aF,UU,VF,XL,ah,bc,aR,ae,ag,az,XV,aB,aC,aK,aO,aL,aG,au,aw,aD,aN,aI,aq,UM,Ue,VN,an,ar,eS,eT,eL,aU,eF,ak,aj,X5,XQ,aE,al];exact no 6 (by omega)
 |some mo=>
  obtain ⟨mm,ow⟩:=mo
  rw [hc] at h1
  obtain ⟨ht,hl⟩:=uC hm.T hc
  refine ab rfl h1 (by simp [hx,hy,eT,eS,aU,eL,eF,Fu.e,Si.e]) (by simp [Sg.e]) (by simp [Sg.e]) (by simp [Sg.e]) ?_
  simp only [aM,aF,UU,VF,XL,ah,bc,aR,ae,ag,az,XV,aB,aC,aK,aO,aL,aG,au,aw,aD,aN,aI,aq,UM,Ue,VN,an,ar,eS,eT,eL,aU,eF,ak,aj,Sg.e,X5,XQ,aE,al,hz,hx,Fu.e]
  refine aT (fun _=>?_) (fun _=>?_)
  ·by_cases h2:g.c=[]
   ·rw [if_pos h2];exact no 6 (by omega)
   rw [if_neg h2]
   by_cases h3:g.c=s
   ·rw [if_pos h3];exact no 6 (by omega)
   rw [if_neg h3]
   refine ab rfl (kD m.t g.c s) (by simp [hz,hx,eT,Fu.e,aU,eL,eF,eS,Si.e]) (by simp) (by simp) (by simp) ?_
   simp only [aM,aF,UU,VF,XL,ah,bc,aR,ae,ag,az,XV,aB,aC,aK,aO,aL,aG,au,aw,aD,aN,aI,aq,UM,Ue,VN,an,ar,eS,eT,eL,aU,eF,ak,aj]
   cases cZ m.t g.c s
   ·simp only [X5,XQ,aE,al];exact no 6 (by omega)
   simp only [X5,XQ,aE,al]
   refine ab rfl (um mm.p (by omega)) (by simp) (by simp) (by simp) (by simp) ?_
   exact yes (mm.p.map (·.t)) mm.r (by simp;omega) (.inr ht) (by simp)
  ·refine ab rfl (um mm.p (by omega)) (by simp) (by simp) (by simp) (by simp) ?_
   have e4:((mm.p.length:Nat):Int)≤100000000:=by omega
   simp only [aM,aF,UU,VF,XL,ah,bc,aR,ae,ag,az,XV,aB,aC,aK,aO,aL,aG,au,aw,aD,aN,aI,aq,UM,Ue,VN,an,ar,eS,eT,eL,aU,eF,ak,aj,if_pos e4]
   refine aT (fun h0=>?_) (fun h0=>?_)
   ·exact yes (s::mm.p.map (·.t)) mm.r (by simp;omega) (.inr ht) (by simp [eL,eS,hx,eT,aU,eF,Fu.e,Si.e])
   ·exact yes [s] mm.r (by simp) (.inr ht) (by simp [eL,eS,hx,eT,aU,eF,Fu.e,Si.e])
theorem Ph (f:Nat) (o b c:Int) (i:Nat) (hi:i<m.p.length): ∃r,kG m.t r∧Ok 95 [dk m f,xs o i b c] r:=by
 refine kQ (l:=en m f o i b c) Rg (by simp [Mo.e,eT,aU,eL,eF]) (by simp) ?_
 have hx:m.p[i]? =some m.p[i]:=UB hi
 have e1:(i:Int)<m.p.length:=by omega
 generalize m.p[i]=s at hx
 unfold MO
 simp only [aM,aF,UU,VF,XL,ah,bc,aR,ae,ag,az,XV,aB,aC,aK,aO,aL,aG,au,aw,aD,aN,aI,aq,UM,Ue,VN,an,ar,eS,eT,eL,aU,eF,ak,aj,if_pos e1,if_pos (U9 i)]
 refine ab rfl (dB m.t s (by have:=hm.S.len;omega)) (by simp [hx,eT,eS,aU,eL,eF,Fu.e,Si.e]) (by simp) (by simp) (by simp) ?_
 simp only [aM,aF,UU,VF,XL,ah,bc,aR,ae,ag,az,XV,aB,aC,aK,aO,aL,aG,au,aw,aD,aN,aI,aq,UM,Ue,VN,an,ar,eS,eT,eL,aU,eF,ak,aj,hx]
 cases hc:(cls m.t s).isSome
 ·simp only [X5,XQ,aE,al];exact no 6 (by omega)
 simp only [X5,XQ,aE,al]
 have hty:typed m.t s=true:=by simp [typed,hc]
 have h1:=o5 m.t s [105,110,105,116] hm.S
 cases hc:methodOf m.t s [105,110,105,116] with
 |none=>
  rw [hc] at h1
  refine ab rfl h1 (by simp [hx,eT,eS,aU,eL,eF,Fu.e,Si.e]) (by simp) (by simp) (by simp) ?_
  refine ab rfl (um [] (by simp)) (by simp) (by simp) (by simp) (by simp) ?_
  exact yes [] s (by simp) (.inr hty) (by simp [eL,eS,hx,eT,aU,eF,Fu.e,Si.e])
 |some mo=>
  obtain ⟨mm,ow⟩:=mo
  rw [hc] at h1
  obtain ⟨ht,hl⟩:=uC hm.T hc
  refine ab rfl h1 (by simp [hx,eT,eS,aU,eL,eF,Fu.e,Si.e]) (by simp [Sg.e]) (by simp [Sg.e]) (by simp [Sg.e]) ?_
  refine ab rfl (um mm.p (by omega)) (by simp [Sg.e]) (by simp) (by simp [Sg.e]) (by simp [Sg.e]) ?_
  exact yes (mm.p.map (·.t)) s (by simp;omega) (.inr hty) (by simp [Sg.e,eL,eS,hx,eT,aU,eF,Fu.e,Si.e])
theorem Pj (f:Nat) (hf:f<m.f.length) (o a b c:Int): ∃r,kG m.t r∧Ok 97 [dk m f,xs o a b c] r:=by
 refine kQ (l:=en m f o a b c) Ri (by simp [Mo.e,eT,aU,eL,eF]) (by simp) ?_
 have hx:m.f[f]? =some m.f[f]:=UB hf
 have e1:(f:Int)<m.f.length:=by omega
 generalize m.f[f]=g at hx
 unfold MQ
 simp only [aM,aF,UU,VF,XL,ah,bc,aR,ae,ag,az,XV,aB,aC,aK,aO,aL,aG,au,aw,aD,aN,aI,aq,UM,Ue,VN,an,ar,eS,eT,eL,aU,eF,ak,aj,if_pos e1,if_pos (U9 f),hx,Fu.e]
 by_cases h:g.c=[]
 ·rw [if_pos h];exact yes [[42]] [] (by simp) (.inl rfl) (by simp [eL,eS,eT,aU,eF,Fu.e,Si.e])
 rw [if_neg h]
 have h1:=o5 m.t g.c g.n hm.S
 cases hc:methodOf m.t g.c g.n with
 |none=>
  rw [hc] at h1
  refine ab rfl h1 (by simp [hx,eT,Fu.e,aU,eL,eF,eS,Si.e]) (by simp) (by simp) (by simp) ?_
  exact yes [[]] [] (by simp) (.inl rfl) (by simp [eL,eS,eT,aU,eF,Fu.e,Si.e])
 |some mo=>
  obtain ⟨mm,ow⟩:=mo
  rw [hc] at h1
  refine ab rfl h1 (by simp [hx,eT,Fu.e,aU,eL,eF,eS,Si.e]) (by simp [Sg.e]) (by simp [Sg.e]) (by simp [Sg.e]) ?_
  exact yes [mm.r] [] (by simp) (.inl rfl) (by simp [eL,eS,Sg.e,eT,aU,eF,Fu.e,Si.e])
end
end
section
open Go
theorem Pk (n:Int): ∃r:Int,Ok 98 [.c (.int .u64 n)] (.c (.int .u64 r)):=by
 obtain ⟨r,⟨w,rfl⟩,h⟩:=kQ (l:=[.int .u64 n]) (R:=fun r=>∃w:Int,r= .c (.int .u64 w)) (ds:=[.c (.int .u64 n)]) Rj (by simp) (by simp) (by
  unfold MS
  simp only [ah,bc,aR,ae,ag]
  have e:cD .Bb [.int .u64 n]= .bool (FloatKind.f64.format.order n.toNat n.toNat != some .eq):=rfl
  rw [e]
  cases FloatKind.f64.format.order n.toNat n.toNat != some .eq
  ·rw [al]
   exact aH (.ret (.c (.int .u64 n))) (by simp) ⟨_,rfl,_,rfl⟩
  ·rw [aE]
   exact aH (.ret (.c (.int .u64 9221120237041090560))) (by simp) ⟨_,rfl,_,rfl⟩)
 exact ⟨w,h⟩
theorem F4:fA.length=9:=rfl
section
variable {m:Mo} (hm:wE m)
include hm
omit hm in
theorem JN (c:Nat) (hc1:1≤c) (hc:c≤8) (T S P F f o a b:D) (n:Nat) (hn:n≤c):Is tY [eL (UQ (n+1) [63]),.int .i64 (c:Int),.int .i64 (n:Int),T,S,P,F,f,o,a,b] 0 [eL (UQ (c+1) [63]),o,a,b,.int .i64 (c:Int),T,S,P,F,f]:=by
 obtain ⟨i,os,⟨rfl,rfl⟩,h⟩:=Nb (enc:=fun n:Nat=>[eL (UQ (n+1) [63]),.int .i64 (c:Int),.int .i64 (n:Int),T,S,P,F,f,o,a,b]) (I:=fun n=>n≤c) (μ:=fun n=>c - n)
  (Q:=fun _ i os=>i=0∧os=[eL (UQ (c+1) [63]),o,a,b,.int .i64 (c:Int),T,S,P,F,f]) CH (fun n hn=>⟨rfl,by
   unfold tZ
   simp only [aM,aF,UU,VF,XL,ah,bc,aR,ae,ag,az,XV,aB,aC,aK,aO,aL,aG,au,aw,aD,aN,aI,aq,UM,Ue,VN,an,ar,eS,eT,eL,aU,eF,ak,aj,X7]
   by_cases h:(n:Int)<c
   ·have e:(((n+1:Nat)):Int)≤100000000:=by omega
    have w:=bm (show n<c by omega) (by omega)
    rw [if_pos h,if_pos e]
    exact aH (.next [eL (UQ (n+1+1) [63]),.int .i64 (c:Int),.int .i64 ((n+1:Nat):Int),T,S,P,F,f,o,a,b]) (by simp [eL,eS,w,List.replicate_succ']) (.inr ⟨n+1,rfl,by omega,by omega,fun i os h=>h⟩)
   ·rw [if_neg h]
    have:n=c:=by omega
    subst this
    exact aH (.exit 0 [eL (UQ (n+1) [63]),o,a,b,.int .i64 (n:Int),T,S,P,F,f]) (by simp [eL,eS]) (.inl ⟨_,_,rfl,rfl,rfl⟩)⟩) n hn
 exact h
theorem C0 (f:Nat) (o:Int) (i j k:Nat) (hi:i<m.p.length) (hj0:1≤j) (hj:j≤m.s.length) (hk:k≤8): ∃r,kG m.t r∧Ok 96 [dk m f,xs o i j k] r:=by
 refine kQ (l:=en m f o i j k) Rh (by simp [Mo.e,eT,aU,eL,eF]) (by simp) ?_
 obtain ⟨q,rfl⟩: ∃q,j=q+1:=⟨j - 1,by omega⟩
 have hsl:=hm.sl
 have w1:IntKind.i64.wrap (((q+1:Nat):Int) - 1)=q:=by rw [U5 _ (by omega)];omega
 have e1:(q:Int)<m.s.length:=by omega
 have hx:m.s[q]? =some (m.s[q]'(by omega)):=UB _
 generalize (m.s[q]'(by omega))=g at hx
 have e2:(i:Int)<m.p.length:=by omega
 have hy:m.p[i]? =some m.p[i]:=UB hi
 generalize m.p[i]=s at hy
 have hN:=ye s
 generalize wA s=w at hN
 unfold MP
 simp only [aM,aF,UU,VF,XL,ah,bc,aR,ae,ag,az,XV,aB,aC,aK,aO,aL,aG,au,aw,aD,aN,aI,aq,UM,Ue,VN,an,ar,eS,eT,eL,aU,eF,ak,aj,if_pos e2,if_pos (U9 _)]
 refine aT (fun _=>?_) (fun _=>aT (fun _=>aT (fun hk0=>?_) (fun _=>?_)) (fun _=>?_))
 ·refine ab rfl hN (by simp [hy,eT,aU,eL,eF,eS]) (by simp) (by simp) (by simp) ?_
  simp only [aM,aF,UU,VF,XL,ah,bc,aR,ae,ag,az,XV,aB,aC,aK,aO,aL,aG,au,aw,aD,aN,aI,aq,UM,Ue,VN,an,ar,eS,eT,eL,aU,eF,ak,aj,w1,if_pos e1,if_pos (U9 _),hx,Si.e]
  cases w
  ·simp only [X5,XQ,aE,al];exact no 6 (by omega)
  simp only [X5,XQ,aE,al]
  refine aT (fun _=>?_) (fun _=>no 7 (by omega))
  exact yes [[63],[63]] [117,110,105,116] (by simp) (.inr (cY (by simp [fc]))) (by simp [eL,eS])
 ·refine aP rfl (JN k (by omega) (by omega) (eT m.t) (aU m.s) (eL m.p) (eF m.f) (.int .i64 (f:Int)) (.int .i64 o) (.int .i64 (i:Int)) (.int .i64 ((q+1:Nat):Int)) 1 (by omega)) (by simp [eT,aU,eL,eF,eS,UQ]) ?_
  simp only [ay,Uq,X3,true_and,aM,aF,UU,VF,XL,ah,bc,aR,ae,ag,az,XV,aB,aC,aK,aO,aL,aG,au,aw,aD,aN,aI,aq,UM,Ue,VN,an,ar,eS,eT,eL,aU,eF,ak,aj,if_pos e2,if_pos (U9 _)]
  refine ab rfl hN (by simp [hy,eT,aU,eL,eF,eS]) (by simp) (by simp) (by simp) ?_
  simp only [aM,aF,UU,VF,XL,ah,bc,aR,ae,ag,az,XV,aB,aC,aK,aO,aL,aG,au,aw,aD,aN,aI,aq,UM,Ue,VN,an,ar,eS,eT,eL,aU,eF,ak,aj,w1,if_pos e1,if_pos (U9 _),hx,Si.e]
  cases w
  ·simp only [X5,XQ,aE,al];exact no 6 (by omega)
  simp only [X5,XQ,aE,al]
  refine aT (fun _=>?_) (fun _=>no 7 (by omega))
  exact yes (UQ (k+1) [63]) [63] (by simp;omega) (.inr rM) (by simp [eL,eS])
 ·refine ab rfl hN (by simp [hy,eT,aU,eL,eF,eS]) (by simp) (by simp) (by simp) ?_
  simp only [aM,aF,UU,VF,XL,ah,bc,aR,ae,ag,az,XV,aB,aC,aK,aO,aL,aG,au,aw,aD,aN,aI,aq,UM,Ue,VN,an,ar,eS,eT,eL,aU,eF,ak,aj,w1,if_pos e1,if_pos (U9 _),hx,Si.e]
  cases w
  ·simp only [X5,XQ,aE,al];exact no 6 (by omega)
  simp only [X5,XQ,aE,al]
  refine aT (fun _=>?_) (fun _=>no 7 (by omega))
  exact yes [[63]] [63] (by simp) (.inr rM) (by simp [eL,eS])
 ·refine ab rfl hN (by simp [hy,eT,aU,eL,eF,eS]) (by simp) (by simp) (by simp) ?_
  simp only [aM,aF,UU,VF,XL,ah,bc,aR,ae,ag,az,XV,aB,aC,aK,aO,aL,aG,au,aw,aD,aN,aI,aq,UM,Ue,VN,an,ar,eS,eT,eL,aU,eF,ak,aj,w1,if_pos e1,if_pos (U9 _),hx,Si.e]
  cases w
  ·simp only [X5,XQ,aE,al];exact no 6 (by omega)
  simp only [X5,XQ,aE,al]
  refine aT (fun _=>?_) (fun _=>no 7 (by omega))
  exact yes [[63]] [63] (by simp) (.inr rM) (by simp [eL,eS])
def yC (m:Mo) (g:Fu) (k v:Int):Prop:=(k=4→0≤v∧v<m.p.length)∧(k=5→0≤v∧v<g.l.length)∧(k=6→0≤v∧v<g.k.length)∧(k=7→0≤v∧v<9)∧(k=8→0≤v∧v<9)∧(k=10→0≤v∧v<2)∧(k=11→0≤v∧v<3)∧(k=12→1≤v∧v≤m.s.length)∧(k=13→0≤v∧v<9)
theorem bj (f:Nat) (hf:f<m.f.length) (g:Fu) (hg:m.f[f]=g) (k v:Int): ∃w:Bool,(w=true→yC m g k v)∧Ok 58 [dk m f,.c (.int .i64 k),.c (.int .i64 v)] (.c (.bool w)):=by
 obtain ⟨r,⟨w,hw,rfl⟩,h⟩:=kQ (l:=[eT m.t,aU m.s,eL m.p,eF m.f,.int .i64 (f:Int),.int .i64 k,.int .i64 v]) (R:=fun r=>∃w:Bool,(w=true→yC m g k v)∧r= .c (.bool w)) (ds:=[dk m f,.c (.int .i64 k),.c (.int .i64 v)]) QZ (by simp [Mo.e,eT,aU,eL,eF]) (by simp) (by
  have hx:m.f[f]? =some g:=by rw [←hg];exact UB hf
  have e1:(f:Int)<m.f.length:=by omega
  have go: ∀{p:PT} {l:List D} (p':Prop) [Decidable p'],(p'→yC m g k v)→W [(98,none),(99,none)] [] p l (fun o=>o= .ret (.c (.bool (decide p'))))→W [(98,none),(99,none)] [] p l fun o=>∃r,o= .ret r∧∃w:Bool,(w=true→yC m g k v)∧r= .c (.bool w):=
   fun p' _ h1 h=>aH _ h ⟨_,rfl,_,fun hw=>h1 (of_decide_eq_true hw),rfl⟩
  unfold Mx
  simp only [aM,aF,UU,VF,XL,ah,bc,aR,ae,ag,az,XV,aB,aC,aK,aO,aL,aG,au,aw,aD,aN,aI,aq,UM,Ue,VN,an,ar,eS,eT,eL,aU,eF,ak,aj]
  have sl:=F4
  by_cases h0:k=0
  ·rw [if_pos h0];exact go True (fun _=>by unfold yC;omega) (by simp)
  rw [if_neg h0]
  by_cases h1:k=1
  ·rw [if_pos h1];exact go True (fun _=>by unfold yC;omega) (by simp)
  rw [if_neg h1]
  by_cases h9:k=9
  ·rw [if_pos h9];exact go True (fun _=>by unfold yC;omega) (by simp)
  rw [if_neg h9]
  by_cases h2:k=2
  ·rw [if_pos h2]
   obtain ⟨r,hr⟩:=Pk (IntKind.u64.wrap v)
   refine ab rfl hr (by simp) (by simp) (by simp) (by simp) ?_
   exact go (r=IntKind.u64.wrap v) (fun _=>by unfold yC;omega) (by simp)
  rw [if_neg h2]
  by_cases h12:k=12
  ·rw [if_pos h12]
   by_cases hv:1≤v
   ·rw [if_pos hv];exact go (v≤m.s.length) (fun _=>by unfold yC;omega) (by simp)
   ·rw [if_neg hv];exact go False (fun h=>h.elim) (by simp)
  rw [if_neg h12]
  by_cases h8:k=8
  ·rw [if_pos h8]
   by_cases hv:2≤v
   ·rw [if_pos hv]
    refine ab rfl yr (by simp) (by simp) (by simp) (by simp) ?_
    exact go (v<fA.length) (fun _=>by unfold yC;omega) (by simp [eL])
   ·rw [if_neg hv];exact go False (fun h=>h.elim) (by simp)
  rw [if_neg h8]
  by_cases h3:k=3
  ·rw [if_pos h3]
   by_cases hv:0≤v
   ·rw [if_pos hv];exact go (v<2) (fun _=>by unfold yC;omega) (by simp)
   ·rw [if_neg hv];exact go False (fun h=>h.elim) (by simp)
  rw [if_neg h3]
  by_cases h10:k=10
  ·rw [if_pos h10]
   by_cases hv:0≤v
   ·rw [if_pos hv];exact go (v<2) (fun _=>by unfold yC;omega) (by simp)
   ·rw [if_neg hv];exact go False (fun h=>h.elim) (by simp)
  rw [if_neg h10]
  by_cases h11:k=11
  ·rw [if_pos h11]
   by_cases hv:0≤v
   ·rw [if_pos hv];exact go (v<3) (fun _=>by unfold yC;omega) (by simp)
   ·rw [if_neg hv];exact go False (fun h=>h.elim) (by simp)
  rw [if_neg h11]
  by_cases h13:k=13
  ·rw [if_pos h13]
   by_cases hv:0≤v
   ·rw [if_pos hv];exact go (v<9) (fun _=>by unfold yC;omega) (by simp)
   ·rw [if_neg hv];exact go False (fun h=>h.elim) (by simp)
  rw [if_neg h13]
  by_cases h7:k=7
  ·rw [if_pos h7]
   refine ab rfl yr (by simp) (by simp) (by simp) (by simp) ?_
   simp only [aM,aF,UU,VF,XL,ah,bc,aR,ae,ag,az,XV,aB,aC,aK,aO,aL,aG,au,aw,aD,aN,aI,aq,UM,Ue,VN,an,ar,eS,eT,eL,aU,eF,ak,aj]
   by_cases hv:0≤v
   ·rw [if_pos hv];exact go (v<fA.length) (fun _=>by unfold yC;omega) (by simp [eL])
   ·rw [if_neg hv];exact go False (fun h=>h.elim) (by simp)
  rw [if_neg h7]
  by_cases h4:k=4
  ·rw [if_pos h4]
   by_cases hv:0≤v
   ·rw [if_pos hv];exact go (v<m.p.length) (fun _=>by unfold yC;omega) (by simp)
   ·rw [if_neg hv];exact go False (fun h=>h.elim) (by simp)
  rw [if_neg h4]
  by_cases h5:k=5
  ·rw [if_pos h5,if_pos (U9 f),if_pos e1]
   by_cases hv:0≤v
   ·rw [if_pos hv];exact go (v<g.l.length) (fun _=>by unfold yC;omega) (by simp [hx,Fu.e])
   ·rw [if_neg hv];exact go False (fun h=>h.elim) (by simp)
  rw [if_neg h5]
  by_cases h6:k=6
  ·rw [if_pos h6,if_pos (U9 f),if_pos e1]
   by_cases hv:0≤v
   ·rw [if_pos hv];exact go (v<g.k.length) (fun _=>by unfold yC;omega) (by simp [hx,Fu.e])
   ·rw [if_neg hv];exact go False (fun h=>h.elim) (by simp)
  rw [if_neg h6]
  by_cases hv:0≤v
  ·rw [if_pos hv];exact go (v<0) (fun _=>by omega) (by simp)
  ·rw [if_neg hv];exact go False (fun h=>h.elim) (by simp))
 exact ⟨w,hw,h⟩
end
end
end Go.Proofs.Sai
