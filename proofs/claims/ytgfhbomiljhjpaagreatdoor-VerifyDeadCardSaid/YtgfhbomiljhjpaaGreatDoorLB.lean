/- Part LB of the proof of VerifyDead: texts of the interpreter and what it shows, under short names. No condition. -/
import Derived.Test.YtgfhbomiljhjpaaGreatDoorLA
set_option linter.unusedVariables false
set_option linter.unusedSimpArgs false
set_option linter.unusedSectionVars false
open Bool renaming not_false→ZN,not_true→Zy,and_eq_true→V1,or_eq_true→WW
open Go.IntWalk renaming i64_in→WJ
open Int renaming natCast_nonneg→WN,toNat_natCast→Wt
open List renaming ext_getElem?→ZF,getElem?_map→VV,getElem?_set→ZH,getElem?_eq_getElem→Wj,map_cons→VT,map_nil→VU,length_range→ZO,length_cons→V8,length_nil→ZL,cons_append→WB,nil_append→Xl,append_nil→XZ,length_map→ZD,getElem_mem→Wv,replicate→Wx,length_replicate→ZP,length_append→V7,mem_of_getElem?→Zm,getElem?_set_self→ZQ,map_inj_right→ZR,mem_of_find?_eq_some→Zv
open List.cons renaming injEq→XV
open Nat renaming beq→Vo,eq_of_beq_eq_true→VN
open Option renaming isSome_none→XA,isSome_some→Zx,map_some→Xt
open Option.some renaming inj→VF
namespace Go.Proofs.Sai
section
open Go
def eP (p:List Bool):D:=.aF (p.map fun b=>[.bool b])
theorem mN (l:List Bool) (i:Nat) (c:Bool):(l.map fun b=>[D.bool b]).modify i (fun row=>row.take 0++[.bool c]++row.drop (0+1))=(l.set i c).map fun b=>[D.bool b]:=by
 apply ZF
 intro x
 rw [List.getElem?_modify,VV,VV,ZH]
 by_cases h:i=x
 ·subst h
  cases hx:l[i]? with
  |none=>simp [List.getElem?_eq_none_iff.1 hx]
  |some y=>obtain ⟨h1,_⟩:=List.getElem?_eq_some_iff.1 hx;simp [h1]
 ·simp [h]
def fT (p:List Bool):Nat:=p.count true
theorem Ho {p:List Bool} {i:Nat} (h:i<p.length) (hp:p[i]=true):fT (p.set i false)+1=fT p∧p.set i true=p:=by
 refine ⟨?_,?_⟩
 ·unfold fT
  induction p generalizing i with
  |nil=>simp at h
  |cons x p ih=>
   cases i with
   |zero=>simp at hp;subst hp;simp
   |succ i=>
    simp only [List.set_cons_succ,List.count_cons]
    have:=ih (by simpa using h) (by simpa using hp)
    omega
 ·apply ZF
  intro x
  rw [ZH]
  by_cases hx:i=x
  ·subst hx;rw [if_pos rfl,if_pos h,Wj h,hp]
  ·rw [if_neg hx]
theorem Cg (p:List Bool):fT p≤p.length:=List.count_le_length
theorem zJ {i k:Nat} (hi:i<40) (hk:k<40):IntKind.i64.wrap ((i:Int)*40)=(i:Int)*40∧IntKind.i64.wrap ((i:Int)*40+k)=((40*i+k:Nat):Int):=by
 refine ⟨by rw [WJ _ (by omega)],?_⟩
 rw [WJ _ (by omega)];omega
theorem Hp (d:D) (i:Nat) (hi:i<40) (p:List Bool) (hp:p.length=1600): ∃j os,(j=0∧∃p',p'.length=1600∧os=[d,.int .i64 i,eP p'])∧Is oI [d,.int .i64 i,.int .i64 i,.int .i64 0,eP p] j os:=by
 have:=db (aF:=List.range 40) (enc:=fun k (p:List Bool)=>[d,.int .i64 i,.int .i64 i,.int .i64 k,eP p]) (I:=fun k p=>p.length=1600) (Q:=fun j os=>j=0∧∃p',p'.length=1600∧os=[d,.int .i64 i,eP p']) zl (fun _ _=>rfl)
  (fun k p x hk hI hx=>by
   have hk':k<40:=by simpa using hk
   have w:=bj hk' (by omega)
   obtain ⟨w1,w2⟩:=zJ hi hk'
   have e1:(k:Int)<40:=by omega
   have e2:(i:Int)<40:=by omega
   have e3:(i:Int)*40≤100000000:=by omega
   have e4:((40*i+k:Nat):Int)<1600:=by omega
   refine aq (.next [d,.int .i64 i,.int .i64 i,.int .i64 ((k+1:Nat):Int),eP (p.set (40*i+k) true)]) ?_ (.inr ⟨_,rfl,by simp [hI]⟩)
   simp only [lk,ah,bh,aL,ae,ag,aA,ak,if_pos e1,aB,if_pos (WN _),if_pos e2,oA,w1,if_pos e3,ft,w2,if_pos e4,nb,VT,VU,w,eP,oB,Wt,mN])
  (fun p hI=>by
   rw [ZO]
   exact aq (.exit 0 [d,.int .i64 i,eP p]) (by simp [lk]) ⟨_,_,rfl,rfl,p,hI,rfl⟩) p hp
 exact this
theorem Ns (d:D) (p:List Bool) (hp:p.length=1600): ∃j os,(j=0∧∃p',p'.length=1600∧os=[d,eP p'])∧Is mI [d,.int .i64 0,eP p] j os:=by
 have:=db (aF:=List.range 40) (enc:=fun k (p:List Bool)=>[d,.int .i64 k,eP p]) (I:=fun k p=>p.length=1600) (Q:=fun j os=>j=0∧∃p',p'.length=1600∧os=[d,eP p']) D8 (fun _ _=>rfl)
  (fun k p x hk hI hx=>by
   have hk':k<40:=by simpa using hk
   have w:=bj hk' (by omega)
   have e1:(k:Int)<40:=by omega
   unfold oJ
   simp only [ah,bh,aL,ae,ag,aA,ak,if_pos e1]
   obtain ⟨j,os,⟨rfl,p',hp',rfl⟩,hL⟩:=Hp d k hk' p hI
   refine ar rfl hL (by simp) ?_
   simp only [al,V8,ZL,true_and]
   exact aq (.next [d,.int .i64 ((k+1:Nat):Int),eP p']) (by simp [w]) (.inr ⟨_,rfl,hp'⟩))
  (fun p hI=>by
   rw [ZO]
   exact aq (.exit 0 [d,eP p]) (by simp [oJ]) ⟨_,_,rfl,rfl,p,hI,rfl⟩) p hp
 exact this
theorem nh (t:List Cl) (hl:t.length≤40) (s u:bn) (p:List Bool) (hp:p.length=1600): ∃j os,((j=0∧os=[eP p])∨(j=1∧∃b,os=[.bool b,eP p]))∧Is B9 [eT t,.str s,.str u,eP p] j os:=by
 refine HB Qq rfl ?_
 have hsl:(cG t s).length≤41:=by rw [dj];have:=dX t s;simp;omega
 unfold KG
 simp only [ah,bh,aL,ae,ag,aJ,ak]
 by_cases h1:s=[63]
 ·rw [if_pos h1];exact aq (.exit 0 [eP p]) (by simp) ⟨_,_,rfl,.inl ⟨rfl,rfl⟩⟩
 rw [if_neg h1]
 by_cases h2:u=[63]
 ·rw [if_pos h2];exact aq (.exit 0 [eP p]) (by simp) ⟨_,_,rfl,.inl ⟨rfl,rfl⟩⟩
 rw [if_neg h2]
 by_cases h3:s=u
 ·rw [if_pos h3];exact aq (.exit 0 [eP p]) (by simp) ⟨_,_,rfl,.inl ⟨rfl,rfl⟩⟩
 rw [if_neg h3]
 refine ai rfl (rI t s (by omega)) (by simp) (by simp) (by simp) (by simp) ?_
 refine ai rfl (gZ (cG t s) u (by omega)) (by simp) (by simp) (by simp) (by simp) ?_
 simp only [aI,WB,Xl,ah,bh,aL,ae,ag,ak]
 by_cases h4:u∈cG t s
 ·rw [if_pos h4];exact aq (.exit 0 [eP p]) (by simp) ⟨_,_,rfl,.inl ⟨rfl,rfl⟩⟩
 rw [if_neg h4]
 refine ai rfl (dS t s (by omega)) (by simp) (by simp) (by simp) (by simp) ?_
 refine ai rfl (dS t u (by omega)) (by simp) (by simp) (by simp) (by simp) ?_
 simp only [aI,aR,XZ,WB,Xl,ah,bh,aL,ae,ag]
 rw [←lz,←lz]
 cases hs:fh t s with
 |none=>simp only [XA,aQ];exact aq (.exit 1 [.bool false,eP p]) (by simp) ⟨_,_,rfl,.inr ⟨rfl,_,rfl⟩⟩
 |some a=>
  cases hu:fh t u with
  |none=>simp only [XA,Zx,a9,aQ];exact aq (.exit 1 [.bool false,eP p]) (by simp) ⟨_,_,rfl,.inr ⟨rfl,_,rfl⟩⟩
  |some b=>
   obtain ⟨ha,_⟩:=gR hs
   obtain ⟨hb,_⟩:=gR hu
   obtain ⟨w1,w2⟩:=zJ (show a<40 by omega) (show b<40 by omega)
   have e1:(a:Int)<40:=by omega
   have e2:(b:Int)<40:=by omega
   have e3:(a:Int)*40≤100000000:=by omega
   have e4:((40*a+b:Nat):Int)<1600:=by omega
   have e5:40*a+b<p.length:=by omega
   have e6:(40*(a:Int)+b).toNat=40*a+b:=by omega
   simp only [Zx,a9,Option.getD_some,aB,ak,if_pos (WN _),aA,if_pos e1,if_pos e2,oA,w1,if_pos e3,ft,w2,if_pos e4]
   exact aq (.exit 1 [.bool p[40*a+b],eP p]) (by simp [w1,w2,eP,e5,e6]) ⟨_,_,rfl,.inr ⟨rfl,_,rfl⟩⟩
def TF (t:List Cl) (s u:bn) (p:List Bool) (kk ii:Nat) (j:Nat) (os:List D):Prop:=
 ∃b,(j=0∧os=[.int .i64 kk,.int .i64 ii,.str u,.str s,eT t,.bool b,eP p])∨(j=1∧os=[.bool b,eT t,eP p,.str s,.str u,.int .i64 kk,.int .i64 ii])
theorem La (t:List Cl) (hs:eB t) (s u:bn) (p:List Bool) (hp:p.length=1600) (fv:List Vr) (hf:fv.length≤1000) (b:Bool) (kk ii:Nat): ∃j os,TF t s u p kk ii j os∧Is D9 [.aF (fv.map Vr.e),.int .i64 0,eP p,eT t,.bool b,.str s,.str u,.int .i64 kk,.int .i64 ii] j os:=by
 have hl:=hs.len
 have:=db (aF:=fv) (enc:=fun k (b:Bool)=>[.aF (fv.map Vr.e),.int .i64 k,eP p,eT t,.bool b,.str s,.str u,.int .i64 kk,.int .i64 ii]) (I:=fun _ _=>True) (Q:=TF t s u p kk ii) KH (fun _ _=>rfl)
  (fun k b v hk _ hx=>by
   have w:=bj hk (by omega)
   have e1:(k:Int)<fv.length:=by omega
   have hx':fv[k]? =some v:=by rw [Wj hk,hx]
   unfold vB
   simp only [ah,bh,aL,ae,ag,aw,ZD,aA,ak,if_pos e1,aB,if_pos (WN k)]
   obtain ⟨x,y,hF⟩: ∃x y,Ok 141 [.c (eT t),.c (.str s),.c (.str v.n)] (.jO [.c (.str x),.c (.bool y)]):=⟨_,_,zC t s v.n hs⟩
   refine ai rfl hF (by simp [hx',Vr.e]) (by simp) (by simp) (by simp) ?_
   simp only [aI,aR,XZ,WB,Xl]
   obtain ⟨j,os,hQ,hL⟩:=nh t hl x v.t p hp
   refine ar rfl hL (by simp [hx',Vr.e]) ?_
   rcases hQ with ⟨rfl,rfl⟩ |⟨rfl,b1,rfl⟩
   ·simp only [al,V8,ZL,true_and,WB,Xl]
    obtain ⟨j,os,hQ,hL⟩:=nh t hl v.t x p hp
    refine ar rfl hL (by simp [hx',Vr.e]) ?_
    rcases hQ with ⟨rfl,rfl⟩ |⟨rfl,b2,rfl⟩
    ·simp only [al,V8,ZL,true_and]
     exact aq (.next [.aF (fv.map Vr.e),.int .i64 ((k+1:Nat):Int),eP p,eT t,.bool true,.str s,.str u,.int .i64 kk,.int .i64 ii]) (by simp [w]) (.inr ⟨_,rfl,trivial⟩)
    ·simp only [ay,al,V8,ZL,true_and,ah,bh,aL,WB,Xl,ae,ag,aP]
     cases b2
     ·simp only [ZN,a9]
      exact aq (.exit 0 [.int .i64 kk,.int .i64 ii,.str u,.str s,eT t,.bool false,eP p]) (by simp) (.inl ⟨_,_,rfl,_,.inl ⟨rfl,rfl⟩⟩)
     ·simp only [Zy,aQ]
      exact aq (.next [.aF (fv.map Vr.e),.int .i64 ((k+1:Nat):Int),eP p,eT t,.bool true,.str s,.str u,.int .i64 kk,.int .i64 ii]) (by simp [w]) (.inr ⟨_,rfl,trivial⟩)
   ·simp only [ay,al,V8,ZL,true_and,ah,bh,aL,WB,Xl,ae,ag,aP]
    cases b1
    ·simp only [ZN,a9]
     exact aq (.exit 0 [.int .i64 kk,.int .i64 ii,.str u,.str s,eT t,.bool false,eP p]) (by simp) (.inl ⟨_,_,rfl,_,.inl ⟨rfl,rfl⟩⟩)
    ·simp only [Zy,aQ]
     obtain ⟨j,os,hQ,hL⟩:=nh t hl v.t x p hp
     refine ar rfl hL (by simp [hx',Vr.e]) ?_
     rcases hQ with ⟨rfl,rfl⟩ |⟨rfl,b2,rfl⟩
     ·simp only [al,V8,ZL,true_and]
      exact aq (.next [.aF (fv.map Vr.e),.int .i64 ((k+1:Nat):Int),eP p,eT t,.bool true,.str s,.str u,.int .i64 kk,.int .i64 ii]) (by simp [w]) (.inr ⟨_,rfl,trivial⟩)
     ·simp only [ay,al,V8,ZL,true_and,ah,bh,aL,WB,Xl,ae,ag,aP]
      cases b2
      ·simp only [ZN,a9]
       exact aq (.exit 0 [.int .i64 kk,.int .i64 ii,.str u,.str s,eT t,.bool false,eP p]) (by simp) (.inl ⟨_,_,rfl,_,.inl ⟨rfl,rfl⟩⟩)
      ·simp only [Zy,aQ]
       exact aq (.next [.aF (fv.map Vr.e),.int .i64 ((k+1:Nat):Int),eP p,eT t,.bool true,.str s,.str u,.int .i64 kk,.int .i64 ii]) (by simp [w]) (.inr ⟨_,rfl,trivial⟩))
  (fun b _=>aq (.exit 1 [.bool b,eT t,eP p,.str s,.str u,.int .i64 kk,.int .i64 ii]) (by simp [vB]) ⟨_,_,rfl,_,.inr ⟨rfl,rfl⟩⟩) b trivial
 exact this
def TG (t:List Cl) (s u:bn) (p:List Bool) (kk ii:Nat) (ms:List Sg) (k:Nat) (j:Nat) (os:List D):Prop:=
 (j=0∧∃a b c d e f x,os=[a,b,c,d,e,f,.int .i64 kk,.int .i64 ii,.str u,.str s,eT t,.bool x,eP p])∨(j=1∧∃a b c d e f x,os=[.aF (ms.map Sg.e),.int .i64 k,a,b,c,d,e,f,.str u,.bool x,eT t,eP p,.str s,.int .i64 kk,.int .i64 ii])
theorem Lb (t:List Cl) (hs:eB t) (s u:bn) (p:List Bool) (hp:p.length=1600) (ms:List Sg) (k0:Nat) (m x:Sg) (hm:m.p.length≤10) (hx0:x.p.length=m.p.length) (b:Bool) (kk ii:Nat):
 ∃j os,TG t s u p kk ii ms k0 j os∧Is oK [.aF (ms.map Sg.e),.int .i64 k0,.aF (m.p.map Vr.e),.int .i64 0,eP p,eT t,.bool b,.str s,.str u,.int .i64 kk,.int .i64 ii,.str m.n,.str m.r,.str x.n,.aF (x.p.map Vr.e),.str x.r] j os:=by
 have hl:=hs.len
 have:=db (aF:=m.p) (enc:=fun k (b:Bool)=>[.aF (ms.map Sg.e),.int .i64 k0,.aF (m.p.map Vr.e),.int .i64 k,eP p,eT t,.bool b,.str s,.str u,.int .i64 kk,.int .i64 ii,.str m.n,.str m.r,.str x.n,.aF (x.p.map Vr.e),.str x.r]) (I:=fun _ _=>True) (Q:=TG t s u p kk ii ms k0) zm (fun _ _=>rfl)
  (fun k b v hk _ hx=>by
   have w:=bj hk (by omega)
   have e1:(k:Int)<m.p.length:=by omega
   have e2:(k:Int)<x.p.length:=by omega
   have e3:k<x.p.length:=by omega
   have hx':m.p[k]? =some v:=by rw [Wj hk,hx]
   unfold lr
   simp only [ah,bh,aL,ae,ag,aw,ZD,aA,ak,if_pos e1,aB,if_pos (WN k),if_pos e2]
   obtain ⟨j,os,hQ,hL⟩:=nh t hl v.t x.p[k].t p hp
   refine ar rfl hL (by simp [hx',Vr.e,e3]) ?_
   rcases hQ with ⟨rfl,rfl⟩ |⟨rfl,b2,rfl⟩
   ·simp only [al,V8,ZL,true_and]
    exact aq (.next [.aF (ms.map Sg.e),.int .i64 k0,.aF (m.p.map Vr.e),.int .i64 ((k+1:Nat):Int),eP p,eT t,.bool true,.str s,.str u,.int .i64 kk,.int .i64 ii,.str m.n,.str m.r,.str x.n,.aF (x.p.map Vr.e),.str x.r]) (by simp [w]) (.inr ⟨_,rfl,trivial⟩)
   ·simp only [ay,al,V8,ZL,true_and,ah,bh,aL,WB,Xl,ae,ag,aP]
    cases b2
    ·simp only [ZN,a9]
     exact aq (.exit 0 [.str x.n,.aF (x.p.map Vr.e),.str x.r,.str m.n,.aF (m.p.map Vr.e),.str m.r,.int .i64 kk,.int .i64 ii,.str u,.str s,eT t,.bool false,eP p]) (by simp) (.inl ⟨_,_,rfl,.inl ⟨rfl,_,_,_,_,_,_,_,rfl⟩⟩)
    ·simp only [Zy,aQ]
     exact aq (.next [.aF (ms.map Sg.e),.int .i64 k0,.aF (m.p.map Vr.e),.int .i64 ((k+1:Nat):Int),eP p,eT t,.bool true,.str s,.str u,.int .i64 kk,.int .i64 ii,.str m.n,.str m.r,.str x.n,.aF (x.p.map Vr.e),.str x.r]) (by simp [w]) (.inr ⟨_,rfl,trivial⟩))
  (fun b _=>aq (.exit 1 [.aF (ms.map Sg.e),.int .i64 k0,.str x.n,.aF (x.p.map Vr.e),.str x.r,.str m.n,.aF (m.p.map Vr.e),.str m.r,.str u,.bool b,eT t,eP p,.str s,.int .i64 kk,.int .i64 ii]) (by simp [lr]) ⟨_,_,rfl,.inr ⟨rfl,_,_,_,_,_,_,_,rfl⟩⟩) b trivial
 exact this
theorem Lc (t:List Cl) (hs:eB t) (s u:bn) (p:List Bool) (hp:p.length=1600) (ms:List Sg) (hml:ms.length≤1000) (hM: ∀m∈ms,m.p.length≤10∧∃x o,methodOf t s m.n=some (x,o)∧x.p.length=m.p.length) (b:Bool) (kk ii:Nat):
 ∃j os,((j≤1∧∃x,os=[.int .i64 kk,.int .i64 ii,.str u,.str s,eT t,.bool x,eP p]))∧Is zo [.aF (ms.map Sg.e),.int .i64 0,eP p,eT t,.bool b,.str s,.str u,.int .i64 kk,.int .i64 ii] j os:=by
 have hl:=hs.len
 have:=db (aF:=ms) (enc:=fun k (b:Bool)=>[.aF (ms.map Sg.e),.int .i64 k,eP p,eT t,.bool b,.str s,.str u,.int .i64 kk,.int .i64 ii]) (I:=fun _ _=>True) (Q:=fun j os=>j≤1∧∃x,os=[.int .i64 kk,.int .i64 ii,.str u,.str s,eT t,.bool x,eP p]) Hb (fun _ _=>rfl)
  (fun k b m hk _ hx=>by
   have w:=bj hk (by omega)
   have e1:(k:Int)<ms.length:=by omega
   have hx':ms[k]? =some m:=by rw [Wj hk,hx]
   obtain ⟨hmp,x,o,hmo,hxp⟩:=hM m (hx▸Wv hk)
   have hF:=ql t s m.n hs
   rw [hmo] at hF
   unfold rD
   simp only [ah,bh,aL,ae,ag,aw,ZD,aA,ak,if_pos e1,aB,if_pos (WN k)]
   refine ai rfl hF (by simp [hx',Sg.e]) (by simp [Sg.e]) (by simp [Sg.e]) (by simp [Sg.e]) ?_
   simp only [aI,aR,Sg.e,XZ,WB,Xl]
   obtain ⟨j,os,hQ,hL⟩:=nh t hl x.r m.r p hp
   refine ar rfl hL (by simp [hx',Sg.e]) ?_
   have par:=fun b=>Lb t hs s u p hp ms k m x hmp hxp b kk ii
   rcases hQ with ⟨rfl,rfl⟩ |⟨rfl,b2,rfl⟩
   ·simp only [al,V8,ZL,true_and,WB,Xl]
    obtain ⟨j,os,hQ,hL⟩:=par true
    refine ar rfl hL (by simp [hx',Sg.e]) ?_
    rcases hQ with ⟨rfl,a1,a2,a3,a4,a5,a6,y,rfl⟩ |⟨rfl,a1,a2,a3,a4,a5,a6,y,rfl⟩
    ·simp only [al,V8,ZL,true_and,WB,Xl]
     exact aq (.exit 0 [.int .i64 kk,.int .i64 ii,.str u,.str s,eT t,.bool y,eP p]) (by simp) (.inl ⟨_,_,rfl,by omega,_,rfl⟩)
    ·simp only [ay,al,V8,ZL,true_and,WB,Xl]
     exact aq (.next [.aF (ms.map Sg.e),.int .i64 ((k+1:Nat):Int),eP p,eT t,.bool y,.str s,.str u,.int .i64 kk,.int .i64 ii]) (by simp [w]) (.inr ⟨_,rfl,trivial⟩)
   ·simp only [ay,al,V8,ZL,true_and,ah,bh,aL,WB,Xl,ae,ag,aP]
    cases b2
    ·simp only [ZN,a9]
     exact aq (.exit 0 [.int .i64 kk,.int .i64 ii,.str u,.str s,eT t,.bool false,eP p]) (by simp) (.inl ⟨_,_,rfl,by omega,_,rfl⟩)
    ·simp only [Zy,aQ]
     obtain ⟨j,os,hQ,hL⟩:=par true
     refine ar rfl hL (by simp [hx',Sg.e]) ?_
     rcases hQ with ⟨rfl,a1,a2,a3,a4,a5,a6,y,rfl⟩ |⟨rfl,a1,a2,a3,a4,a5,a6,y,rfl⟩
     ·simp only [al,V8,ZL,true_and,WB,Xl]
      exact aq (.exit 0 [.int .i64 kk,.int .i64 ii,.str u,.str s,eT t,.bool y,eP p]) (by simp) (.inl ⟨_,_,rfl,by omega,_,rfl⟩)
     ·simp only [ay,al,V8,ZL,true_and,WB,Xl]
      exact aq (.next [.aF (ms.map Sg.e),.int .i64 ((k+1:Nat):Int),eP p,eT t,.bool y,.str s,.str u,.int .i64 kk,.int .i64 ii]) (by simp [w]) (.inr ⟨_,rfl,trivial⟩))
  (fun b _=>aq (.exit 1 [.int .i64 kk,.int .i64 ii,.str u,.str s,eT t,.bool b,eP p]) (by simp [rD]) ⟨_,_,rfl,by omega,_,rfl⟩) b trivial
 exact this
theorem Nt (t:List Cl) (hT:Hn t) (i k:Nat) (hi:i<t.length) (hk:k<t.length) (p:List Bool) (hp:p.length=1600): ∃j os,((j=0∧os=[eP p])∨(j=1∧∃b p',os=[.bool b,eP p']∧p'.length=1600∧fT p'+b.toNat=fT p))∧Is Qr [eT t,.int .i64 i,.int .i64 k,eP p] j os:=by
 have hs:=kl hT.len hT.sz
 have hl:=hT.len
 refine HB Qs rfl ?_
 have e1:(i:Int)<t.length:=by omega
 have e2:(k:Int)<t.length:=by omega
 have e1':(i:Int)<40:=by omega
 have e2':(k:Int)<40:=by omega
 obtain ⟨w1,w2⟩:=zJ (show i<40 by omega) (show k<40 by omega)
 have e3:(i:Int)*40≤100000000:=by omega
 have e4:((40*i+k:Nat):Int)<1600:=by omega
 have e5:40*i+k<p.length:=by omega
 have hxi:t[i]? =some t[i]:=Wj hi
 have hxk:t[k]? =some t[k]:=Wj hk
 generalize t[i]=c at hxi
 generalize t[k]=d at hxk
 have hsl:(cG t c.n).length≤41:=by rw [dj];have:=dX t c.n;simp;omega
 have hpe:p[40*i+k]? =some p[40*i+k]:=Wj e5
 unfold KI
 simp only [ah,bh,aL,ae,ag,aB,ak,if_pos (WN _),eT,aw,ZD,aA,if_pos e1,if_pos e2,if_pos e1',if_pos e2',oA,w1,if_pos e3,ft,w2,if_pos e4,eP,aU,Wt,VV,hpe,hxi,hxk,Xt,aE,aD,aP,Cl.e,aJ]
 cases hb:p[40*i+k]
 ·simp only [ZN,a9]
  exact aq (.exit 0 [eP p]) (by simp [eP]) ⟨_,_,rfl,.inl ⟨rfl,rfl⟩⟩
 obtain ⟨q1,q2⟩:=Ho e5 hb
 have fin: ∀b:Bool,∃p',((j:Nat)→(os:List D)→j=1→os=[.bool (!b),eP p']→(j=0∧os=[eP p])∨(j=1∧∃b p',os=[.bool b,eP p']∧p'.length=1600∧fT p'+b.toNat=fT p))∧p'=p.set (40*i+k) b:=fun b=>⟨_,fun j os hj ho=>.inr ⟨hj,_,_,ho,by simp [hp],by
  cases b
  ·exact q1
  ·rw [q2];rfl⟩,rfl⟩
 simp only [Zy,aQ]
 by_cases h1:c.n=d.n
 ·rw [if_pos h1];exact aq (.exit 0 [eP p]) (by simp [eP]) ⟨_,_,rfl,.inl ⟨rfl,rfl⟩⟩
 rw [if_neg h1]
 refine ai rfl (rI t c.n (by omega)) (by simp [eT,hxi,Cl.e]) (by simp) (by simp) (by simp) ?_
 refine ai rfl (gZ (cG t c.n) d.n (by omega)) (by simp [hxk,Cl.e]) (by simp) (by simp) (by simp) ?_
 simp only [aI,WB,Xl,ah,bh,aL,ae,ag,ak]
 by_cases h2:d.n∈cG t c.n
 ·rw [if_pos h2];exact aq (.exit 0 [eP p]) (by simp [eP]) ⟨_,_,rfl,.inl ⟨rfl,rfl⟩⟩
 rw [if_neg h2]
 refine ai rfl (Ng t c.n d.n hs) (by simp [eT,hxi,hxk,Cl.e]) (by simp) (by simp) (by simp) ?_
 simp only [aI,WB,Xl,ah,bh,aL,ae,ag]
 cases hh:hasB t c.n d.n
 ·simp only [aQ]
  obtain ⟨p',f1,rfl⟩:=fin false
  exact aq (.exit 1 [.bool (!false),eP (p.set (40*i+k) false)]) (by simp only [wp_exit,VT,VU,bh,aL,ae,ag,aP,oA,ft,w1,w2,oB,Wt,mN,eP]) ⟨_,_,rfl,f1 _ _ rfl rfl⟩
 simp only [a9]
 refine ai rfl (zB t d.n hs) (by simp [eT,hxk,Cl.e]) (by simp) (by simp) (by simp) ?_
 simp only [aI,WB,Xl]
 have hfl:=oU hs d.n
 obtain ⟨j,os,⟨b,hQ⟩,hL⟩:=La t hs c.n d.n p hp (fieldsOf t d.n) (by omega) true k i
 refine ar rfl hL (by simp [hxi,hxk,Cl.e,eT,eP]) ?_
 rcases hQ with ⟨rfl,rfl⟩ |⟨rfl,rfl⟩
 ·simp only [al,V8,ZL,true_and,WB,Xl]
  obtain ⟨p',f1,rfl⟩:=fin b
  exact aq (.exit 1 [.bool (!b),eP (p.set (40*i+k) b)]) (by simp only [wp_exit,VT,VU,bh,aL,ae,ag,aP,oA,ft,w1,w2,oB,Wt,mN,eP]) ⟨_,_,rfl,f1 _ _ rfl rfl⟩
 ·simp only [ay,al,V8,ZL,true_and,WB,Xl]
  obtain ⟨hM,hml⟩:=FJ t d.n hs
  refine ai rfl hM (by simp) (by simp) (by simp) (by simp) ?_
  simp only [aI,WB,Xl]
  obtain ⟨j,os,⟨hj,x,rfl⟩,hL⟩:=Lc t hs c.n d.n p hp (methodsOf t d.n) (by omega) (fun m hm=>by
   obtain ⟨c',hc',hmc⟩:=ss hm
   exact ⟨hs.p c' (fF hc') m hmc,En hT hh hm⟩) b k i
  refine ar rfl hL (by simp) ?_
  obtain ⟨p',f1,rfl⟩:=fin x
  match j,hj with
  |0,_=>
   simp only [al,V8,ZL,true_and,WB,Xl]
   exact aq (.exit 1 [.bool (!x),eP (p.set (40*i+k) x)]) (by simp only [wp_exit,VT,VU,bh,aL,ae,ag,aP,oA,ft,w1,w2,oB,Wt,mN,eP]) ⟨_,_,rfl,f1 _ _ rfl rfl⟩
  |1,_=>
   simp only [ay,al,V8,ZL,true_and,WB,Xl]
   exact aq (.exit 1 [.bool (!x),eP (p.set (40*i+k) x)]) (by simp only [wp_exit,VT,VU,bh,aL,ae,ag,aP,oA,ft,w1,w2,oB,Wt,mN,eP]) ⟨_,_,rfl,f1 _ _ rfl rfl⟩
def Nu (t:List Cl) (n:Nat) (a:List D) (j:Nat) (os:List D):Prop:=j=0∧∃(s:Nat) (p:List Bool),p.length=1600∧s+fT p=n∧os=[eT t,.int .i64 s]++a++[eP p]
theorem Nv (t:List Cl) (hT:Hn t) (i:Nat) (hi:i<t.length) (s0:Nat) (p:List Bool) (hp:p.length=1600) (hs0:s0≤1600): ∃j os,Nu t (s0+fT p) [.int .i64 i] j os∧Is lu [eT t,.int .i64 s0,.int .i64 i,.int .i64 i,.int .i64 0,eP p] j os:=by
 have hl:=hT.len
 have htr:s0+fT p≤3200:=by have:=Cg p;omega
 have:=db (aF:=t) (enc:=fun k (b:Nat×List Bool)=>[eT t,.int .i64 b.1,.int .i64 i,.int .i64 i,.int .i64 k,eP b.2]) (I:=fun _ b=>b.2.length=1600∧b.1+fT b.2=s0+fT p) (Q:=Nu t (s0+fT p) [.int .i64 i]) vC (fun _ _=>rfl)
  (fun k b c hk hI hx=>by
   obtain ⟨h1,h2⟩:=hI
   have w:=bj hk (by omega)
   have w':IntKind.i64.wrap ((b.1:Int)+1)=((b.1+1:Nat):Int):=bj (n:=4000) (by omega) (by omega)
   have e1:(k:Int)<t.length:=by omega
   unfold iY
   simp only [ah,bh,aL,ae,ag,eT,aw,ZD,aA,ak,if_pos e1]
   obtain ⟨j,os,hQ,hL⟩:=Nt t hT i k hi hk b.2 h1
   refine ar rfl hL (by simp [eT]) ?_
   rcases hQ with ⟨rfl,rfl⟩ |⟨rfl,x,p',rfl,hp',hc⟩
   ·simp only [al,V8,ZL,true_and]
    exact aq (.next [eT t,.int .i64 b.1,.int .i64 i,.int .i64 i,.int .i64 ((k+1:Nat):Int),eP b.2]) (by simp [w,eT]) (.inr ⟨b,rfl,h1,h2⟩)
   ·simp only [ay,al,V8,ZL,true_and,ah,bh,aL,WB,Xl,ae,ag]
    cases x
    ·simp only [aQ]
     exact aq (.next [eT t,.int .i64 b.1,.int .i64 i,.int .i64 i,.int .i64 ((k+1:Nat):Int),eP p']) (by simp [w,eT]) (.inr ⟨(b.1,p'),rfl,hp',by simp at hc;simp only;omega⟩)
    ·simp only [a9]
     exact aq (.next [eT t,.int .i64 ((b.1+1:Nat):Int),.int .i64 i,.int .i64 i,.int .i64 ((k+1:Nat):Int),eP p']) (by simp [w,w',eT]) (.inr ⟨(b.1+1,p'),rfl,hp',by simp at hc;simp only;omega⟩))
  (fun b hI=>aq (.exit 0 [eT t,.int .i64 b.1,.int .i64 i,eP b.2]) (by simp [iY,eT]) ⟨_,_,rfl,rfl,b.1,b.2,hI.1,hI.2,rfl⟩) (s0,p) ⟨hp,rfl⟩
 exact this
theorem Nw (t:List Cl) (hT:Hn t) (p:List Bool) (hp:p.length=1600): ∃j os,Nu t (fT p) [] j os∧Is oM [eT t,.int .i64 0,.int .i64 0,eP p] j os:=by
 have hl:=hT.len
 have htr:=Cg p
 have:=db (aF:=t) (enc:=fun k (b:Nat×List Bool)=>[eT t,.int .i64 b.1,.int .i64 k,eP b.2]) (I:=fun _ b=>b.2.length=1600∧b.1+fT b.2=fT p) (Q:=Nu t (fT p) []) zq (fun _ _=>rfl)
  (fun k b c hk hI hx=>by
   obtain ⟨h1,h2⟩:=hI
   have w:=bj hk (by omega)
   have e1:(k:Int)<t.length:=by omega
   unfold lx
   simp only [ah,bh,aL,ae,ag,eT,aw,ZD,aA,ak,if_pos e1]
   obtain ⟨j,os,⟨rfl,s,p',hp',hc,rfl⟩,hL⟩:=Nv t hT k hk b.1 b.2 h1 (by omega)
   refine ar rfl hL (by simp [eT]) ?_
   simp only [al,WB,Xl,V8,ZL,true_and]
   exact aq (.next [eT t,.int .i64 s,.int .i64 ((k+1:Nat):Int),eP p']) (by simp [w,eT]) (.inr ⟨(s,p'),rfl,hp',by simp only;omega⟩))
  (fun b hI=>aq (.exit 0 [eT t,.int .i64 b.1,eP b.2]) (by simp [lx,eT]) ⟨_,_,rfl,rfl,b.1,b.2,hI.1,hI.2,rfl⟩) (0,p) ⟨hp,by simp⟩
 exact this
theorem Nx (t:List Cl) (hT:Hn t) (p:List Bool) (hp:p.length=1600): ∃j os,(j=0∧∃p',p'.length=1600∧os=[eP p'])∧Is mJ [eT t,eP p] j os:=by
 have:=LY (α:=List Bool) (enc:=fun p=>[eT t,eP p]) (I:=fun p=>p.length=1600) (μ:=fT) (Q:=fun _ j os=>j=0∧∃p',p'.length=1600∧os=[eP p']) Ea (by
  intro p hp
  refine ⟨rfl,?_⟩
  unfold vD
  obtain ⟨j,os,⟨rfl,s,p',hp',hc,rfl⟩,hL⟩:=Nw t hT p hp
  refine ar rfl hL (by simp) ?_
  simp only [al,WB,Xl,V8,ZL,true_and,ah,bh,aL,ae,ag,aV,ak]
  by_cases h0:(s:Int)=0
  ·rw [if_pos h0]
   exact aq (.exit 0 [eP p']) (by simp) (.inl ⟨_,_,rfl,rfl,p',hp',rfl⟩)
  ·rw [if_neg h0]
   exact aq (.next [eT t,eP p']) (by simp) (.inr ⟨p',rfl,hp',by omega,fun j os h=>h⟩)) p hp
 exact this
theorem Ny (t:List Cl) (s u:bn): ∃b,(b=true→km t=0∧typed t s=true∧typed t u=true)∧Ok 112 [.c (eT t),.c (.str s),.c (.str u)] (.c (.bool b)):=by
 obtain ⟨r,⟨b,hb,rfl⟩,h⟩:=xU (l:=[eT t,.str s,.str u]) (R:=fun r=>∃b,(b=true→km t=0∧typed t s=true∧typed t u=true)∧r= .c (.bool b)) (ds:=[.c (eT t),.c (.str s),.c (.str u)]) Qt (by simp) (by simp) (by
  have no: ∀{t':PT} {l},W [(43,none),(40,none)] [mI,mJ,B9] t' l (fun o=>o= .ret (.c (.bool false)))→W [(43,none),(40,none)] [mI,mJ,B9] t' l fun o=>∃r,o= .ret r∧∃b,(b=true→km t=0∧typed t s=true∧typed t u=true)∧r= .c (.bool b):=fun h=>aq _ h ⟨_,rfl,false,(fun h=>by cases h),rfl⟩
  unfold KJ
  refine ai rfl (vZ t) (by simp) (by simp) (by simp) (by simp) ?_
  simp only [aI,WB,Xl,ah,bh,aL,ae,ag,aV,ak]
  by_cases hw:km t=0
  case neg=>rw [if_neg hw];exact no (by simp)
  obtain ⟨ha,hT⟩:=oW hw
  rw [if_pos hw,if_pos ha]
  refine ai rfl (oX t s s) (by simp) (by simp) (by simp) (by simp) ?_
  simp only [aI,WB,Xl,ah,bh,aL,ae,ag]
  cases h1:dL t s s
  ·simp only [aQ];exact no (by simp)
  simp only [a9]
  refine ai rfl (oX t u u) (by simp) (by simp) (by simp) (by simp) ?_
  simp only [aI,WB,Xl,ah,bh,aL,ae,ag]
  cases h2:dL t u u
  ·simp only [aQ];exact no (by simp)
  simp only [a9]
  have yes: ∀b:Bool,b=true→km t=0∧typed t s=true∧typed t u=true:=fun _ _=>⟨hw,((lD hw).1 h1).1,((lD hw).1 h2).1⟩
  obtain ⟨j,os,⟨rfl,p,hp,rfl⟩,hL⟩:=Ns (eT t) (Wx 1600 false) ZP
  refine ar rfl hL (by simp only [VT,VU,bh,aL,ae,ag,PX,eP,List.map_replicate];rw [show (1600:Int).toNat=1600 from rfl]) ?_
  simp only [al,V8,ZL,true_and,WB,Xl]
  obtain ⟨j,os,⟨rfl,p,hp,rfl⟩,hL⟩:=Nx t hT p hp
  refine ar rfl hL (by simp) ?_
  simp only [al,V8,ZL,true_and,WB,Xl]
  obtain ⟨j,os,hQ,hL⟩:=nh t hT.len s u p hp
  refine ar rfl hL (by simp) ?_
  rcases hQ with ⟨rfl,rfl⟩ |⟨rfl,b,rfl⟩
  ·simp only [al,V8,ZL,true_and]
   exact aq (.ret (.c (.bool true))) (by simp) ⟨_,rfl,_,yes _,rfl⟩
  ·simp only [ay,al,V8,ZL,true_and]
   exact aq (.ret (.c (.bool b))) (by simp) ⟨_,rfl,_,yes _,rfl⟩)
 exact ⟨b,hb,h⟩
structure wc (t:List Cl) (s:Si):Prop where
 f:typed t s.f=true
 t:typed t s.t=true
 w:s.w≠1→s.f=[63]∧s.t=[63]
theorem QL (t:List Cl) (s:Si): ∃w,(w=0→wc t s)∧Ok 65 [.c (eT t),.agg s.e] (.c (.int .i64 w)):=by
 obtain ⟨r,⟨w,hw,rfl⟩,h⟩:=xU (l:=[eT t]++s.e) (R:=fun r=>∃w,(w=0→wc t s)∧r= .c (.int .i64 w)) (ds:=[.c (eT t),.agg s.e]) SM (by simp [Si.e]) (by simp [Si.e]) (by
  have no: ∀{t':PT} {l} (n:Int),n≠0→W [(112,none),(40,none)] [] t' l (fun o=>o= .ret (.c (.int .i64 n)))→W [(112,none),(40,none)] [] t' l fun o=>∃r,o= .ret r∧∃w,(w=0→wc t s)∧r= .c (.int .i64 w):=fun n hn h=>aq _ h ⟨_,rfl,n,fun h=>absurd h hn,rfl⟩
  have yes: ∀{t':PT} {l},wc t s→W [(112,none),(40,none)] [] t' l (fun o=>o= .ret (.c (.int .i64 0)))→W [(112,none),(40,none)] [] t' l fun o=>∃r,o= .ret r∧∃w,(w=0→wc t s)∧r= .c (.int .i64 w):=fun hn h=>aq _ h ⟨_,rfl,0,fun _=>hn,rfl⟩
  have hq:typed t [63]=true:=by simp [typed]
  unfold Oo
  simp only [Si.e,WB,Xl,ah,bh,aL,ae,ag,aA,aX,aT,aV,aM,aC,ak]
  by_cases h1:s.w<1
  ·rw [if_pos h1];exact no 2 (by omega) (by simp)
  rw [if_neg h1]
  by_cases h2:5<s.w
  ·rw [if_pos h2];exact no 2 (by omega) (by simp)
  rw [if_neg h2]
  by_cases h3:s.w=1
  ·rw [if_pos h3,if_pos h3]
   obtain ⟨b,hb,hG⟩:=Ny t s.f s.t
   refine ai rfl hG (by simp) (by simp) (by simp) (by simp) ?_
   simp only [aI,WB,Xl,ah,bh,aL,ae,ag,aP]
   cases b
   ·simp only [ZN,a9];exact no 7 (by omega) (by simp)
   simp only [Zy,aQ]
   refine ai rfl (oX t s.f s.t) (by simp) (by simp) (by simp) (by simp) ?_
   simp only [aI,WB,Xl,ah,bh,aL,ae,ag]
   obtain ⟨_,q1,q2⟩:=hb rfl
   cases dL t s.f s.t
   ·simp only [aQ];exact yes ⟨q1,q2,fun h=>absurd h3 h⟩ (by simp)
   ·simp only [a9];exact no 7 (by omega) (by simp)
  ·rw [if_neg h3]
   by_cases h4:s.f=[63]
   case neg=>rw [if_neg h4];exact no 2 (by omega) (by simp)
   rw [if_pos h4]
   by_cases h5:s.t=[63]
   case neg=>rw [if_neg h5];exact no 2 (by omega) (by simp)
   rw [if_pos h5,if_neg h3]
   exact yes ⟨by rw [h4];exact hq,by rw [h5];exact hq,fun _=>⟨h4,h5⟩⟩ (by simp))
 exact ⟨w,hw,h⟩
def aZ (l:List Si):D:=.aF (l.map Si.e)
@[simp] theorem RG {l:List Si}:bx tS (aZ l)=True:=by simp [tS,aZ]
theorem QM (t:List Cl) (l:List Si): ∃w a,(w=0→l.length≤5000∧∀s∈l,wc t s)∧Ok 44 [.c (eT t),.c (aZ l)] (.agg [.int .i64 w,.int .i64 a]):=by
 obtain ⟨r,⟨w,a,hw,rfl⟩,h⟩:=xU (l:=[eT t,aZ l]) (R:=fun r=>∃(w a:Int),(w=0→l.length≤5000∧∀s∈l,wc t s)∧r= .agg [.int .i64 w,.int .i64 a]) (ds:=[.c (eT t),.c (aZ l)]) SG (by simp) (by simp) (by
  unfold Oh
  simp only [ah,bh,aL,ae,ag,aZ,aw,ZD,aX,ak]
  by_cases hl:(5000:Int)<l.length
  ·rw [if_pos hl]
   exact aq (.ret (.agg [.int .i64 12,.int .i64 5000])) (by simp) ⟨_,rfl,_,_,fun h=>by omega,rfl⟩
  rw [if_neg hl]
  have:=db (aF:=l) (enc:=fun k (_:Unit)=>[eT t,aZ l,.int .i64 k]) (I:=fun k _=>∀(x:Nat) (h:x<l.length),x<k→wc t l[x]) (Q:=fun j os=>(j=0∧∃w n:Int,w≠0∧os=[.int .i64 w,.int .i64 n])∨(j=1∧os=[]∧∀s∈l,wc t s)) J7 (fun _ _=>rfl)
   (fun k b s hk hI hx=>by
    have w:=bj hk (by omega)
    have e1:(k:Int)<l.length:=by omega
    have hx':l[k]? =some s:=by rw [Wj hk,hx]
    unfold vn
    simp only [ah,bh,aL,ae,ag,aZ,aw,ZD,aA,ak,if_pos e1,aB,if_pos (WN k)]
    obtain ⟨w',hw',hF⟩:=QL t s
    refine ai rfl hF (by simp [hx',Si.e]) (by simp) (by simp) (by simp) ?_
    simp only [aI,WB,Xl,ah,bh,aL,ae,ag,aT,aC,ak]
    by_cases h0:w'=0
    ·rw [if_pos h0]
     refine aq (.next [eT t,aZ l,.int .i64 ((k+1:Nat):Int)]) (by simp [w,aZ]) (.inr ⟨(),rfl,fun x h h2=>?_⟩)
     by_cases hxk:x=k
     ·subst hxk;rw [hx];exact hw' h0
     ·exact hI x h (by omega)
    ·rw [if_neg h0]
     exact aq (.exit 0 [.int .i64 w',.int .i64 k]) (by simp) (.inl ⟨_,_,rfl,.inl ⟨rfl,_,_,h0,rfl⟩⟩))
   (fun b hI=>aq (.exit 1 []) (by simp [vn,aZ]) ⟨_,_,rfl,.inr ⟨rfl,rfl,fun s hs=>by
    obtain ⟨x,h,rfl⟩:=List.mem_iff_getElem.1 hs
    exact hI x h h⟩⟩) () (fun x h h2=>by omega)
  obtain ⟨j,os,hQ,hL⟩:=this
  refine ar rfl hL (by simp [aZ]) ?_
  rcases hQ with ⟨rfl,w,n,hw,rfl⟩ |⟨rfl,rfl,hS⟩
  ·simp only [al,V8,ZL,true_and]
   exact aq (.ret (.agg [.int .i64 w,.int .i64 n])) (by simp) ⟨_,rfl,_,_,fun h=>absurd h hw,rfl⟩
  ·simp only [ay,al,ZL,true_and]
   exact aq (.ret (.agg [.int .i64 0,.int .i64 0])) (by simp) ⟨_,rfl,_,_,fun _=>⟨by omega,hS⟩,rfl⟩)
 exact ⟨w,a,hw,h⟩
def eF (l:List Fu):D:=.aF (l.map Fu.e)
@[simp] theorem TH {l:List Fu}:bx tF (eF l)=True:=by simp [tF,eF]
def qn (c:Cl) (m:Sg):Fu:=⟨c.n,m.n,m.p.map (·.t),[]⟩
def eX (t:List Cl):List Fu:=(t.flatMap fun c=>c.m.map (qn c))++[⟨[],[109,97,105,110],[],[]⟩]
theorem Ld (d:D) (k0:Int) (c:Cl) (out:List Fu) (hm:c.m.length≤20) (hp: ∀m∈c.m,m.p.length≤10) (ho:out.length≤1000):Is vp [eF out,d,.int .i64 k0,.aF (c.m.map Sg.e),.int .i64 0,.str c.n,.str c.s,.aF (c.f.map Vr.e)] 0 [eF (out++c.m.map (qn c)),d,.int .i64 k0,.str c.n,.str c.s,.aF (c.f.map Vr.e),.aF (c.m.map Sg.e)]:=by
 have h:=Ce (aF:=c.m) (enc:=fun k (b:List Fu)=>[eF b,d,.int .i64 k0,.aF (c.m.map Sg.e),.int .i64 k,.str c.n,.str c.s,.aF (c.f.map Vr.e)]) (I:=fun k b=>b.length≤1000+k) (g:=fun m b=>b++[qn c m]) (fin:=fun b=>[eF b,d,.int .i64 k0,.str c.n,.str c.s,.aF (c.f.map Vr.e),.aF (c.m.map Sg.e)]) D1 (fun _ _=>rfl)
  (fun k b m hk hI hx=>by
   have w:=bj hk (by omega)
   have e1:(k:Int)<c.m.length:=by omega
   have hx':c.m[k]? =some m:=by rw [Wj hk,hx]
   have hmp:=hp m (hx▸Wv hk)
   unfold oF
   simp only [ah,bh,aL,ae,ag,aw,ZD,aA,ak,if_pos e1,aB,if_pos (WN k)]
   refine ai rfl (vR m.p (by omega)) (by simp [hx',Sg.e]) (by simp) (by simp) (by simp) ?_
   have e2:((b.length:Nat):Int)≤100000000:=by omega
   simp only [aI,WB,Xl,ah,bh,aL,ae,ag,eF,aw,ZD,aB,ak,if_pos e2]
   exact aq (.next [eF (b++[qn c m]),d,.int .i64 k0,.aF (c.m.map Sg.e),.int .i64 ((k+1:Nat):Int),.str c.n,.str c.s,.aF (c.f.map Vr.e)]) (by simp [eF,hx',Sg.e,w,Fu.e,qn,eL]) ⟨rfl,by simp;omega⟩)
  (fun b _=>by simp [oF]) out (by omega)
 rw [lC] at h
 exact h
theorem ni {t:List Cl} (hs:eB t):(eX t).length≤801:=by
 have key: ∀l:List Cl,(∀c∈l,c.m.length≤20)→(l.flatMap fun c=>c.m.map (qn c)).length≤20*l.length:=by
  intro l
  induction l with
  |nil=>simp
  |cons c l ih=>
   intro h
   have:=ih fun x hx=>h x (List.mem_cons_of_mem _ hx)
   have:=h c (List.mem_cons_self ..)
   simp only [List.flatMap_cons,V7,V8,ZD];omega
 have:=key t hs.m
 have:=hs.len
 unfold eX
 simp only [V7,V8,ZL]
 omega
theorem Le (t:List Cl) (hs:eB t):Ok 46 [.c (eT t)] (.c (eF (eX t))):=by
 have hl:=hs.len
 refine lL (l:=[eT t]) SH (by simp) (by simp) ?_
 unfold Oi
 have hL:=Ce (aF:=t) (enc:=fun k (b:List Fu)=>[eF b,eT t,.int .i64 k]) (I:=fun k b=>b.length≤20*k∧k≤40) (g:=fun c b=>b++c.m.map (qn c)) (fin:=fun b=>[eF b]) J9 (fun _ _=>rfl)
  (fun k b c hk hI hx=>by
   have w:=bj hk (by omega)
   have e1:(k:Int)<t.length:=by omega
   have hx':t[k]? =some c:=by rw [Wj hk,hx]
   have hc:c∈t:=hx▸Wv hk
   unfold vq
   simp only [ah,bh,aL,ae,ag,eT,aw,ZD,aA,ak,if_pos e1,aB,if_pos (WN k)]
   refine ar rfl (Ld (eT t) k c b (hs.m c hc) (hs.p c hc) (by omega)) (by simp [eT,hx',Cl.e]) ?_
   simp only [al,V8,ZL,true_and]
   have:=hs.m c hc
   exact aq (.next [eF (b++c.m.map (qn c)),eT t,.int .i64 ((k+1:Nat):Int)]) (by simp [w,eT]) ⟨rfl,by simp;omega,by omega⟩)
  (fun b _=>by simp [vq,eT]) [] ⟨by simp,by omega⟩
 rw [oV] at hL
 refine ar rfl hL (by simp [eF]) ?_
 have hfl:=ni hs
 simp only [al,V8,ZL,true_and,WB,Xl,ah,bh,aL,ae,ag]
 have e2:(((t.flatMap fun c=>c.m.map (qn c)).length:Nat):Int)≤100000000:=by unfold eX at hfl;simp only [V7,V8,ZL] at hfl;omega
 simp only [eF,aw,ZD,aB,ak,if_pos e2]
 simp [eF,eX,Fu.e]
theorem Hq {t:List Cl} (hT:Hn t) {f:Fu} (h:f∈eX t):f.c=[]∨(cls t f.c).isSome=true:=by
 unfold eX at h
 rcases List.mem_append.1 h with h |h
 ·obtain ⟨c,hc,hf⟩:=List.mem_flatMap.1 h
  obtain ⟨m,_,rfl⟩:=List.mem_map.1 hf
  obtain ⟨i,hi,rfl⟩:=List.mem_iff_getElem.1 hc
  have:=(hT.sz i hi).at_
  show t[i].n=[]∨(cls t t[i].n).isSome=true
  rw [ki this,Wj hi]
  exact .inr rfl
 ·rw [List.mem_singleton.1 h]
  exact .inl rfl
structure FOK (t:List Cl) (f:Fu):Prop where
 c:f.c=[]∨(cls t f.c).isSome=true
 l:f.l.length≤200
 k0:f.k≠[]
 k:f.k.length≤20000
 ty: ∀s∈f.l,typed t s=true
structure Ep (m:Mo):Prop where
 t:km m.t=0
 sl:m.s.length≤5000
 s: ∀s∈m.s,wc m.t s
 p:m.p.length≤2000
 fl:m.f.length≤801
 f: ∀f∈m.f,FOK m.t f
theorem FK (l:List bn) (hl:l.length≤2000) (a b c:D): ∃j os,((j=0∧(∃s∈l,1000<s.length)∧∃n:Int,os=[a,b,eL l,c,.int .i64 n])∨(j=1∧(∀s∈l,s.length≤1000)∧os=[a,b,eL l,c]))∧Is zx [eL l,.int .i64 0,a,b,c] j os:=
 db (aF:=l) (enc:=fun k (_:Unit)=>[eL l,.int .i64 k,a,b,c]) (I:=fun k _=>∀(i:Nat) (s:bn),i<k→l[i]? =some s→s.length≤1000) (Q:=fun j os=>(j=0∧(∃s∈l,1000<s.length)∧∃n:Int,os=[a,b,eL l,c,.int .i64 n])∨(j=1∧(∀s∈l,s.length≤1000)∧os=[a,b,eL l,c])) Hg (fun _ _=>rfl)
  (fun k u x hk hI hx=>by
   have w:=bj hk (by omega)
   have e1:(k:Int)<l.length:=by omega
   have hx':l[k]? =some x:=by rw [Wj hk,hx]
   simp only [rH,ah,bh,aL,ae,ag,eL,aw,ZD,aA,ak,if_pos e1,aB,if_pos (WN k),aU,Wt,VV,hx',Xt,aE,eS,aD,nc,aX]
   by_cases h:(1000:Int)<x.length
   ·rw [if_pos h]
    exact aq (.exit 0 [a,b,eL l,c,.int .i64 k]) (by simp [eL]) (.inl ⟨_,_,rfl,.inl ⟨rfl,⟨x,Zm hx',by omega⟩,_,rfl⟩⟩)
   ·rw [if_neg h]
    refine aq (.next [eL l,.int .i64 ((k+1:Nat):Int),a,b,c]) (by simp [eL,w]) (.inr ⟨(),rfl,fun i s hi hs=>?_⟩)
    by_cases hik:i=k
    ·subst hik;rw [hx'] at hs;rw [←VF hs];omega
    ·exact hI i s (by omega) hs)
  (fun u hI=>aq (.exit 1 [a,b,eL l,c]) (by simp [rH,eL]) ⟨_,_,rfl,.inr ⟨rfl,fun s hs=>by
   obtain ⟨i,hi,rfl⟩:=List.mem_iff_getElem.1 hs
   exact hI i _ hi (Wj hi),rfl⟩⟩) () (fun i s h=>absurd h (by omega))
theorem Lf (a b:List Fu) (hl:a.length=b.length) (hb:b.length≤1000000) (hf: ∀f∈b,f.l.length≤9223372036854775807): ∃j os,(os=[]∧(j=0∧(∃(x:Nat) (h:x<b.length),b[x].fits (a[x]'(by omega))=false)∨(j=1∧∀(x:Nat) (h:x<b.length),b[x].fits (a[x]'(by omega))=true)))∧Is Ek [eF a,eF b,.int .i64 0] j os:=
 db (aF:=b) (enc:=fun k (_:Unit)=>[eF a,eF b,.int .i64 k]) (I:=fun k _=>∀(x:Nat) (h:x<b.length),x<k→b[x].fits (a[x]'(by omega))=true) (Q:=fun j os=>os=[]∧(j=0∧(∃(x:Nat) (h:x<b.length),b[x].fits (a[x]'(by omega))=false)∨(j=1∧∀(x:Nat) (h:x<b.length),b[x].fits (a[x]'(by omega))=true))) KZ (fun _ _=>rfl)
  (fun k u f hk hI hx=>by
   have w:=bj hk (by omega)
   have e1:(k:Int)<b.length:=by omega
   have e2:(k:Int)<a.length:=by omega
   have k2:k<a.length:=by omega
   have hx':b[k]? =some f:=by rw [Wj hk,hx]
   have hy':a[k]? =some a[k]:=Wj k2
   unfold vL
   simp only [ah,bh,aL,ae,ag,eF,aw,ZD,aA,ak,if_pos e1,if_pos e2,aB,if_pos (WN k)]
   refine ai rfl (QE f a[k] (hf f (hx▸Wv hk))) (by simp [hx',hy',Fu.e]) (by simp) (by simp) (by simp) ?_
   simp only [aI,WB,Xl,ah,bh,aL,ae,ag,aP]
   cases hft:f.fits a[k]
   ·simp only [ZN,a9]
    exact aq (.exit 0 []) (by simp) (.inl ⟨_,_,rfl,rfl,.inl ⟨rfl,k,hk,by rw [hx];exact hft⟩⟩)
   ·simp only [Zy,aQ]
    refine aq (.next [eF a,eF b,.int .i64 ((k+1:Nat):Int)]) (by simp [w,eF]) (.inr ⟨(),rfl,fun x h h2=>?_⟩)
    by_cases hxk:x=k
    ·subst hxk;rw [hx];exact hft
    ·exact hI x h (by omega))
  (fun u hI=>aq (.exit 1 []) (by simp [vL,eF]) ⟨_,_,rfl,rfl,.inr ⟨rfl,fun x h=>hI x h h⟩⟩) () (fun x h h2=>by omega)
theorem QN (t:List Cl) (l:List bn) (hl:l.length≤1000) (a b c:D): ∃j os,((j=0∧(∃s∈l,dL t s s=false)∧∃n:Nat,os=[.int .i64 n,eT t,a,b,c])∨(j=1∧os=[eT t,a,b,c]∧∀s∈l,dL t s s=true))∧Is El [eL l,.int .i64 0,eT t,a,b,c] j os:=
 db (aF:=l) (enc:=fun k (_:Unit)=>[eL l,.int .i64 k,eT t,a,b,c]) (I:=fun k _=>∀(x:Nat) (h:x<l.length),x<k→dL t l[x] l[x]=true) (Q:=fun j os=>(j=0∧(∃s∈l,dL t s s=false)∧∃n:Nat,os=[.int .i64 n,eT t,a,b,c])∨(j=1∧os=[eT t,a,b,c]∧∀s∈l,dL t s s=true)) K0 (fun _ _=>rfl)
  (fun k u x hk hI hx=>by
   have w:=bj hk (by omega)
   have e1:(k:Int)<l.length:=by omega
   have hx':l[k]? =some x:=by rw [Wj hk,hx]
   unfold vM
   simp only [ah,bh,aL,ae,ag,eL,aw,ZD,aA,ak,if_pos e1,aB,if_pos (WN k)]
   refine ai rfl (oX t x x) (by simp [hx',eS]) (by simp) (by simp) (by simp) ?_
   simp only [aI,WB,Xl,ah,bh,aL,ae,ag,aP]
   cases hs:dL t x x
   ·simp only [ZN,a9]
    exact aq (.exit 0 [.int .i64 k,eT t,a,b,c]) (by simp) (.inl ⟨_,_,rfl,.inl ⟨rfl,⟨x,Zm hx',hs⟩,_,rfl⟩⟩)
   ·simp only [Zy,aQ]
    refine aq (.next [eL l,.int .i64 ((k+1:Nat):Int),eT t,a,b,c]) (by simp [w,eL]) (.inr ⟨(),rfl,fun y h h2=>?_⟩)
    by_cases hyk:y=k
    ·subst hyk;rw [hx];exact hs
    ·exact hI y h (by omega))
  (fun u hI=>aq (.exit 1 [eT t,a,b,c]) (by simp [vM,eL]) ⟨_,_,rfl,.inr ⟨rfl,rfl,fun s hs=>by
   obtain ⟨x,h,rfl⟩:=List.mem_iff_getElem.1 hs
   exact hI x h h⟩⟩) () (fun x h h2=>by omega)
def Hr (t:List Cl) (f:Fu):Prop:=f.l.length≤200∧f.k≠[]∧f.k.length≤20000∧∀s∈f.l,dL t s s=true
def TI (t:List Cl) (l:List Fu) (a b c:D) (j:Nat) (os:List D):Prop:=
 (j≤1∧(∃f∈l,¬Hr t f)∧∃n:Int,os=[eT t,a,b,c,.int .i64 n])∨(j=2∧os=[eT t,a,b,c]∧∀f∈l,Hr t f)
theorem Ch (t:List Cl) (l:List Fu) (hl:l.length≤1000000) (a b c:D): ∃j os,TI t l a b c j os∧Is vN [eF l,.int .i64 0,eT t,a,b,c] j os:=
 db (aF:=l) (enc:=fun k (_:Unit)=>[eF l,.int .i64 k,eT t,a,b,c]) (I:=fun k _=>∀(x:Nat) (h:x<l.length),x<k→Hr t l[x]) (Q:=TI t l a b c) Em (fun _ _=>rfl)
  (fun k u f hk hI hx=>by
   have w:=bj hk (by omega)
   have e1:(k:Int)<l.length:=by omega
   have hx':l[k]? =some f:=by rw [Wj hk,hx]
   unfold oR
   simp only [ah,bh,aL,ae,ag,eF,aw,ZD,aA,ak,if_pos e1,aB,if_pos (WN k),aU,Wt,VV,hx',Xt,aE,Fu.e,aH,aD,aX,aV]
   have bad: ¬Hr t f→∃f∈l,¬Hr t f:=fun h=>⟨f,Zm hx',h⟩
   by_cases h1:(200:Int)<f.l.length
   ·rw [if_pos h1];exact aq (.exit 0 [eT t,a,b,c,.int .i64 k]) (by simp) (.inl ⟨_,_,rfl,.inl ⟨by omega,bad fun h=>by have:=h.1;omega,_,rfl⟩⟩)
   rw [if_neg h1]
   by_cases h2:((f.k.length:Nat):Int)=0
   ·rw [if_pos h2];exact aq (.exit 0 [eT t,a,b,c,.int .i64 k]) (by simp) (.inl ⟨_,_,rfl,.inl ⟨by omega,bad fun h=>h.2.1 (List.eq_nil_of_length_eq_zero (by omega)),_,rfl⟩⟩)
   rw [if_neg h2]
   by_cases h3:(20000:Int)<f.k.length
   ·rw [if_pos h3];exact aq (.exit 0 [eT t,a,b,c,.int .i64 k]) (by simp) (.inl ⟨_,_,rfl,.inl ⟨by omega,bad fun h=>by have:=h.2.2.1;omega,_,rfl⟩⟩)
   rw [if_neg h3]
   obtain ⟨j,os,hQ,hL⟩:=QN t f.l (by omega) a b c
   refine ar rfl hL (by simp [hx',Fu.e,eL]) ?_
   rcases hQ with ⟨rfl,⟨z,hz1,hz2⟩,n,rfl⟩ |⟨rfl,rfl,hS⟩
   ·have e2:(0:Int)≤n:=WN n
    simp only [al,V8,ZL,true_and,WB,Xl,ah,bh,aL,ae,ag,bc,ak,if_pos e2]
    exact aq (.exit 1 [eT t,a,b,c,.int .i64 k]) (by simp) (.inl ⟨_,_,rfl,.inl ⟨by omega,bad (fun h=>by rw [h.2.2.2 z hz1] at hz2;cases hz2),_,rfl⟩⟩)
   ·simp only [ay,al,V8,ZL,true_and,WB,Xl]
    refine aq (.next [eF l,.int .i64 ((k+1:Nat):Int),eT t,a,b,c]) (by simp [w,eF]) (.inr ⟨(),rfl,fun x h h2'=>?_⟩)
    by_cases hxk:x=k
    ·subst hxk
     rw [hx]
     exact ⟨by omega,fun e=>h2 (by rw [e];rfl),by omega,hS⟩
    ·exact hI x h (by omega))
  (fun u hI=>aq (.exit 2 [eT t,a,b,c]) (by simp [oR,eF]) ⟨_,_,rfl,.inr ⟨rfl,rfl,fun f hf=>by
   obtain ⟨x,h,rfl⟩:=List.mem_iff_getElem.1 hf
   exact hI x h h⟩⟩) () (fun x h h2=>by omega)
structure Good (m:Mo):Prop where
 t:km m.t=0
 o: ∃a:Int,Ok 44 [.c (eT m.t),.c (aZ m.s)] (.agg [.int .i64 0,.int .i64 a])
 sl:m.s.length≤5000
 s: ∀s∈m.s,wc m.t s
 p:m.p.length≤2000
 pl: ∀s∈m.p,s.length≤1000
 n:(eX m.t).length=m.f.length
 fit: ∀(x:Nat) (h:x<m.f.length),m.f[x].fits ((eX m.t)[x]'(by omega))=true
 f: ∀f∈m.f,Hr m.t f
theorem Good.ok {m:Mo} (h:Good m):Ep m:=by
 obtain ⟨_,hT⟩:=oW h.t
 have hfl:=ni (kl hT.len hT.sz)
 refine ⟨h.t,h.sl,h.s,h.p,by have:=h.n;omega,fun f hfm=>?_⟩
 obtain ⟨q1,q2,q3,q4⟩:=h.f f hfm
 refine ⟨?_,q1,q2,q3,fun s hs=>((lD h.t).1 (q4 s hs)).1⟩
 obtain ⟨x,hx,rfl⟩:=List.mem_iff_getElem.1 hfm
 have:=h.fit x hx
 unfold Fu.fits at this
 rw [V1] at this
 rw [of_decide_eq_true this.1]
 exact Hq hT (Wv _)
theorem QO (m:Mo) (hf: ∀f∈m.f,f.l.length≤9223372036854775807): ∃w a,(w=0→a=0∧Good m)∧Ok 29 [.agg m.e] (.agg [.int .i64 w,.int .i64 a]):=by
 obtain ⟨r,⟨w,a,hw,rfl⟩,h⟩:=xU (l:=[eT m.t,aZ m.s,eL m.p,eF m.f]) (R:=fun r=>∃(w a:Int),(w=0→a=0∧Good m)∧r= .agg [.int .i64 w,.int .i64 a]) (ds:=[.agg m.e]) OX (by simp [Mo.e,eT,aZ,eL,eF]) (by simp) (by
  unfold K1
  refine ai rfl (vZ m.t) (by simp) (by simp) (by simp) (by simp) ?_
  simp only [aI,WB,Xl,ah,bh,aL,ae,ag,aT,aC,ak]
  by_cases h1:km m.t=0
  case neg=>
   rw [if_neg h1]
   exact aq (.ret (.agg [.int .i64 (km m.t),.int .i64 (QK m.t)])) (by simp) ⟨_,rfl,_,_,fun h=>absurd h h1,rfl⟩
  rw [if_pos h1]
  obtain ⟨_,hT⟩:=oW h1
  have hs:=kl hT.len hT.sz
  obtain ⟨w2,a2,hw2,hF⟩:=QM m.t m.s
  refine ai rfl hF (by simp [eT,aZ]) (by simp) (by simp) (by simp) ?_
  simp only [aI,WB,Xl,ah,bh,aL,ae,ag,aT,aC,ak]
  by_cases h2:w2=0
  case neg=>
   rw [if_neg h2]
   exact aq (.ret (.agg [.int .i64 w2,.int .i64 a2])) (by simp) ⟨_,rfl,_,_,fun h=>absurd h h2,rfl⟩
  rw [if_pos h2]
  obtain ⟨hsl,hS⟩:=hw2 h2
  simp only [eL,aw,ZD,aX,ak]
  by_cases h3:(2000:Int)<m.p.length
  ·rw [if_pos h3]
   exact aq (.ret (.agg [.int .i64 12,.int .i64 2000])) (by simp) ⟨_,rfl,_,_,fun h=>by omega,rfl⟩
  rw [if_neg h3]
  obtain ⟨j,os,hQ,hL⟩:=FK m.p (by omega) (eT m.t) (aZ m.s) (eF m.f)
  refine ar rfl hL (by simp [eT,aZ,eF,eL]) ?_
  rcases hQ with ⟨rfl,_,n,rfl⟩ |⟨rfl,hpl,rfl⟩
  ·simp only [al,V8,ZL,true_and]
   exact aq (.ret (.agg [.int .i64 4,.int .i64 n])) (by simp) ⟨_,rfl,_,_,fun h=>by omega,rfl⟩
  simp only [ay,al,V8,ZL,true_and,WB,Xl]
  refine ai rfl (Le m.t hs) (by simp) (by simp) (by simp) (by simp) ?_
  simp only [aI,WB,Xl,ah,bh,aL,ae,ag,aT,aC,ak,eF,aw,ZD]
  by_cases h4:(m.f.length:Int)=(eX m.t).length
  case neg=>
   rw [if_neg h4]
   exact aq (.ret (.agg [.int .i64 2,.int .i64 0])) (by simp) ⟨_,rfl,_,_,fun h=>by omega,rfl⟩
  rw [if_pos h4]
  have hfl:=ni hs
  obtain ⟨j,os,⟨rfl,hQ⟩,hL⟩:=Lf (eX m.t) m.f (by omega) (by omega) hf
  refine ar rfl hL (by simp [eF]) ?_
  rcases hQ with ⟨rfl,_⟩ |⟨rfl,hfit⟩
  ·simp only [al,ZL,true_and]
   exact aq (.ret (.agg [.int .i64 2,.int .i64 0])) (by simp) ⟨_,rfl,_,_,fun h=>by omega,rfl⟩
  simp only [ay,al,ZL,true_and,XZ]
  obtain ⟨j,os,hQ,hL⟩:=Ch m.t m.f (by omega) (aZ m.s) (eL m.p) (eF m.f)
  refine ar rfl hL (by simp [eF]) ?_
  rcases hQ with ⟨hj,_,n,rfl⟩ |⟨rfl,rfl,hFn⟩
  ·match j,hj with
   |0,_=>simp only [al,V8,ZL,true_and];exact aq (.ret (.agg [.int .i64 12,.int .i64 n])) (by simp) ⟨_,rfl,_,_,fun h=>by omega,rfl⟩
   |1,_=>simp only [ay,al,V8,ZL,true_and];exact aq (.ret (.agg [.int .i64 7,.int .i64 n])) (by simp) ⟨_,rfl,_,_,fun h=>by omega,rfl⟩
  simp only [ay,al,V8,ZL,true_and]
  exact aq (.ret (.agg [.int .i64 0,.int .i64 0])) (by simp) ⟨_,rfl,_,_,fun _=>⟨rfl,h1,⟨a2,by rw [h2] at hF;exact hF⟩,hsl,hS,by omega,hpl,by omega,hfit,hFn⟩,rfl⟩)
 exact ⟨w,a,hw,h⟩
theorem TJ {m:Mo} (hG:Good m):Ok 29 [.agg m.e] (.agg [.int .i64 0,.int .i64 0]):=by
 refine lL (l:=[eT m.t,aZ m.s,eL m.p,eF m.f]) OX (by simp [Mo.e,eT,aZ,eL,eF]) (by simp) ?_
 unfold K1
 refine ai rfl (vZ m.t) (by simp) (by simp) (by simp) (by simp) ?_
 simp only [aI,WB,Xl,ah,bh,aL,ae,ag,aT,aC,ak]
 rw [if_pos hG.t]
 obtain ⟨_,hT⟩:=oW hG.t
 have hs:=kl hT.len hT.sz
 obtain ⟨a2,hF⟩:=hG.o
 refine ai rfl hF (by simp [eT,aZ]) (by simp) (by simp) (by simp) ?_
 have hp:=hG.p
 have h3: ¬(2000:Int)<m.p.length:=by omega
 simp only [aI,WB,Xl,ah,bh,aL,ae,ag,aT,aC,ak,if_true,eL,aw,ZD,aX,if_neg h3]
 obtain ⟨j,os,hQ,hL⟩:=FK m.p (by omega) (eT m.t) (aZ m.s) (eF m.f)
 refine ar rfl hL (by simp [eT,aZ,eF,eL]) ?_
 rcases hQ with ⟨_,⟨z,hz1,hz2⟩,_⟩ |⟨rfl,hpl,rfl⟩
 ·have:=hG.pl z hz1;omega
 simp only [ay,al,V8,ZL,true_and,WB,Xl]
 refine ai rfl (Le m.t hs) (by simp) (by simp) (by simp) (by simp) ?_
 have hn:=hG.n
 have h4:(m.f.length:Int)=(eX m.t).length:=by omega
 have hfl:=ni hs
 simp only [aI,WB,Xl,ah,bh,aL,ae,ag,aT,aC,ak,eF,aw,ZD,if_pos h4]
 obtain ⟨j,os,⟨rfl,hQ⟩,hL⟩:=Lf (eX m.t) m.f hn (by omega) (fun f hf=>by have:=(hG.f f hf).1;omega)
 refine ar rfl hL (by simp [eF]) ?_
 rcases hQ with ⟨_,x,hx,hf⟩ |⟨rfl,_⟩
 ·rw [hG.fit x hx] at hf;cases hf
 simp only [ay,al,ZL,true_and,XZ]
 obtain ⟨j,os,hQ,hL⟩:=Ch m.t m.f (by omega) (aZ m.s) (eL m.p) (eF m.f)
 refine ar rfl hL (by simp [eF]) ?_
 rcases hQ with ⟨_,⟨z,hz1,hz2⟩,_⟩ |⟨rfl,rfl,_⟩
 ·exact absurd (hG.f z hz1) hz2
 simp only [ay,al,V8,ZL,true_and]
 simp
def RH (s:bn):Prop:=s=[]∨s=[63]∨s∈fQ
def su:DV→Prop
 | .jO [.agg [.str _,.str s,.bool _],.c (.int .i64 _)]=>RH s
 |_=>False
theorem i5 {r:DV} (h:su r): ∃a s d w,r= .jO [.agg [.str a,.str s,.bool d],.c (.int .i64 w)]∧RH s:=by
 unfold su at h
 split at h
 ·exact ⟨_,_,_,_,rfl,h⟩
 ·exact h.elim
theorem zK (a b:bn): ∃r,su r∧Ok 139 [.c (.str a),.c (.str b)] r:=by
 refine xU (l:=[.str a,.str b]) P9 (by simp) (by simp) ?_
 unfold Kn
 simp only [ah,bh,aL,ae,ag,aJ,aM,aP,aC,ak]
 repeat' split
 all_goals simp [su,RH,fQ]
theorem FL (a b:bn): ∃r,su r∧Ok 138 [.c (.str a),.c (.str b)] r:=by
 refine xU (l:=[.str a,.str b]) P8 (by simp) (by simp) ?_
 unfold Km
 simp only [ah,bh,aL,ae,ag,aJ,aM,aP,aC,ak]
 repeat' split
 all_goals simp_all [su,RH,fQ]
theorem az {c:Prop} [Decidable c] {P Q:Prop} (h1:c→P) (h2: ¬c→Q):if c then P else Q:=by
 split
 ·exact h1 ‹_›
 ·exact h2 ‹_›
set_option maxHeartbeats 2000000 in
theorem FM (a b c:bn): ∃r,su r∧Ok 136 [.c (.str a),.c (.str b),.c (.str c)] r:=by
 refine xU (l:=[.str a,.str b,.str c]) QB (by simp) (by simp) ?_
 unfold KW
 have hb:=s9 b
 have hc:=s9 c
 generalize qk b=x at hb
 generalize qk c=y at hc
 simp only [ah,bh,aL,ae,ag,aJ,aM,aP,aC,ak]
 repeat' (first
  |refine az (fun _=>?_) (fun _=>?_)
  |(refine ai rfl hb (by simp) (by simp) (by simp) (by simp) ?_;cases x<;>simp only [aI,WB,Xl,ah,bh,aL,ae,ag,aJ,aM,aP,aC,ak,a9,aQ])
  |(refine ai rfl hc (by simp) (by simp) (by simp) (by simp) ?_;cases y<;>simp only [aI,WB,Xl,ah,bh,aL,ae,ag,aJ,aM,aP,aC,ak,a9,aQ]))
 all_goals (try (clear hb hc;simp_all [su,RH,fQ];done))
end
section
open Go
def FU (F F1:List Fu):Prop:=F.length=F1.length∧∀(i:Nat) (g:Fu),F[i]? =some g→∃k,F1[i]? =some {g with k:=k}∧g.k.length≤k.length
theorem FU.refl (F:List Fu):FU F F:=⟨rfl,fun i g h=>⟨g.k,h,Nat.le_refl _⟩⟩
def MU (m m1:Mo):Prop:=∃F1,FU m.f F1∧m1={m with f:=F1}
def DU (ds ds1:List DV):Prop:=ds1=ds∨∃T S L F F1 rest tl,FU F F1∧ds= .agg (T::S::L::eF F::rest)::tl∧ds1= .agg (T::S::L::eF F1::rest)::tl
def KU (f:lP) (ds:List DV) (r:DV):Prop:=∀ds1,DU ds ds1→PL Tryz.prog bs f.1 f.2 ds1 r
abbrev we (f:FuncId) (ds:List DV) (r:DV):Prop:=KU (f,none) ds r
theorem we.ok {f:FuncId} {ds:List DV} {r:DV} (h:we f ds r):Ok f ds r:=h ds (.inl rfl)
theorem we.up {f:FuncId} {m m1:Mo} {rest:List D} {tl:List DV} {r:DV} (h:we f (.agg (m.e++rest)::tl) r) (hu:MU m m1):Ok f (.agg (m1.e++rest)::tl) r:=by
 obtain ⟨F1,h1,rfl⟩:=hu
 exact h _ (.inr ⟨_,_,_,m.f,F1,rest,tl,h1,rfl,rfl⟩)
def QP (fids:List lP):List (List DV→DV→Prop):=fids.map KU
abbrev WU (fids:List lP):=Wp bs (QP fids) (MZ Tryz.prog bs [])
def U2 (o:NM) (l:List Tm):Bool:=
 match o,l with
 | .len,[.var n]=>Vo n 3
 | .cell c,[.op .zZ [.var n,.var k]]=>Vo n 3&&(Nat.ble c 2&& !Vo k 3)
 |_,_=>false
mutual
def nT:Tm→Bool
 | .var n=> !Vo n 3
 | .op o l=>U2 o l||OY l
 |_=>true
def OY:List Tm→Bool
 |[]=>true
 |x::l=>nT x&&OY l
end
def nA:AV→Bool
 | .tm _ x=>nT x
 |_=>true
def LZ:List AV→Bool
 |[]=>true
 |v::l=>nA v&&LZ l
mutual
def nV:AV→Bool
 | .agg l=>LZ l
 | .tuple l=>Nz l
 |v=>nA v
def Nz:List AV→Bool
 |[]=>true
 |v::l=>nV v&&Nz l
end
def TK:AV→Bool
 | .tm _ (.var n)=>Vo n 3
 |_=>false
def zN:List AV→Bool
 | .agg (a::b::c::d::rest)::tl=>LZ [a,b,c]&&(TK d&&(LZ rest&&Nz tl))
 |_=>false
mutual
def nP:PT→Bool
 | .ret v=>nV v
 | .dead=>true
 | .next q=>OY q
 | .exit _ q=>OY q
 | .split c y n=>nT c&&(nP y&&nP n)
 | .call _ args v _ nx=>(Nz args||zN args)&&(nV v&&nP nx)
 | .loop .. =>false
end
def E3 (l l1:List D):Prop:=∃F F1,FU F F1∧l[3]? =some (eF F)∧l1=l.set 3 (eF F1)
theorem E3.get {l l1:List D} (h:E3 l l1) {n:Nat} (hn:n≠3):dp l1 n=dp l n:=by
 obtain ⟨F,F1,_,_,rfl⟩:=h
 show D.at _ n=D.at l n
 unfold D.at
 rw [List.getElem?_set_ne (Ne.symm hn)]
theorem E3.funcs {l l1:List D} (h:E3 l l1): ∃F F1,FU F F1∧dp l 3=eF F∧dp l1 3=eF F1:=by
 obtain ⟨F,F1,h1,h2,rfl⟩:=h
 have hlt:=(List.getElem?_eq_some_iff.1 h2).1
 exact ⟨F,F1,h1,by show D.at l 3=_;unfold D.at;rw [h2],by show D.at _ 3=_;unfold D.at;rw [ZQ hlt]⟩
theorem QQ {l l1:List D} (h:E3 l l1) {o:NM} {q:List Tm} (hq:U2 o q=true):bh (dp l1) (.op o q)=bh (dp l) (.op o q):=by
 obtain ⟨F,F1,⟨e1,e2⟩,h1,h2⟩:=h.funcs
 unfold U2 at hq
 split at hq
 ·rename_i n
  obtain rfl:n=3:=VN hq
  simp only [bh,aL,h1,h2,eF]
  show D.int .i64 (F1.map Fu.e).length= .int .i64 (F.map Fu.e).length
  simp [e1]
 ·rename_i c n k
  simp only [V1,Bool.not_eq_true'] at hq
  obtain ⟨q1,q2,q3⟩:=hq
  obtain rfl:n=3:=VN q1
  have q2:c≤2:=Nat.le_of_ble_eq_true q2
  have q3:k≠3:=fun e=>by subst e;cases q3
  simp only [bh,aL,h1,h2,eF,h.get q3]
  generalize dp l k=d
  cases d<;>first |rfl |skip
  rename_i kk i
  show cw (.cell c) [match (F1.map Fu.e)[i.toNat]? with |some r=>D.ref r |none=>.bad]=cw (.cell c) [match (F.map Fu.e)[i.toNat]? with |some r=>D.ref r |none=>.bad]
  rw [VV,VV]
  cases hg:F[i.toNat]? with
  |none=>
   have:F1[i.toNat]? =none:=by rw [List.getElem?_eq_none_iff] at hg⊢;omega
   rw [this]
  |some g=>
   obtain ⟨k',g1,_⟩:=e2 _ g hg
   rw [g1]
   show D.at ({g with k:=k'}:Fu).e c=D.at g.e c
   match c,q2 with
   |0,_=>rfl
   |1,_=>rfl
   |2,_=>rfl
 ·cases hq
mutual
theorem xY {l l1:List D} (h:E3 l l1): ∀{x:Tm},nT x=true→bh (dp l1) x=bh (dp l) x
 | .var n,hx=>by
  unfold nT at hx
  unfold bh
  exact h.get fun e=>by subst e;cases hx
 | .op o q,hx=>by
  unfold nT at hx
  rw [WW] at hx
  rcases hx with hx |hx
  ·exact QQ h hx
  ·unfold bh;rw [Lg h hx]
 | .int ..,_=>by unfold bh;rfl
 | .bool _,_=>by unfold bh;rfl
 | .str _,_=>by unfold bh;rfl
theorem Lg {l l1:List D} (h:E3 l l1): ∀{q:List Tm},OY q=true→aL (dp l1) q=aL (dp l) q
 |[],_=>by unfold aL;rfl
 |x::q,hx=>by
  unfold OY at hx
  rw [V1] at hx
  unfold aL
  rw [xY h hx.1,Lg h hx.2]
end
theorem zO {l l1:List D} (h:E3 l l1): ∀{q:List Tm},OY q=true→q.map (bh (dp l1))=q.map (bh (dp l))
 |[],_=>rfl
 |x::q,hx=>by
  unfold OY at hx
  rw [V1] at hx
  rw [VT,VT,xY h hx.1,zO h hx.2]
theorem fX {l l1:List D} (h:E3 l l1) {v:AV} (hv:nA v=true): @od (bf l1 bs) v= @od (bf l bs) v:=by
 unfold od
 cases v<;>first |rfl |skip
 rename_i t x
 show some (bh (dp l1) x)=some (bh (dp l) x)
 rw [xY h hv]
theorem FN {l l1:List D} (h:E3 l l1): ∀{q:List AV},LZ q=true→@dz (bf l1 bs) q= @dz (bf l bs) q
 |[],_=>rfl
 |x::q,hx=>by
  unfold LZ at hx
  rw [V1] at hx
  unfold dz
  rw [fX h hx.1,FN h hx.2]
mutual
theorem QR {l l1:List D} (h:E3 l l1): ∀{v:AV},nV v=true→@bk (bf l1 bs) v= @bk (bf l bs) v
 | .agg q,hv=>by unfold bk;rw [FN h (by unfold nV at hv;exact hv)]
 | .tuple q,hv=>by unfold bk;rw [Ci h (by unfold nV at hv;exact hv)]
 | .bool b,hv=>by unfold bk;rw [fX h rfl]
 | .int k m,hv=>by unfold bk;rw [fX h rfl]
 | .str _,hv=>by unfold bk;rw [fX h rfl]
 | .an,hv=>by unfold bk;rw [fX h rfl]
 | .tm t x,hv=>by unfold bk;rw [fX h (by unfold nV at hv;exact hv)]
 | .float ..,hv=>by unfold bk;rw [fX h rfl]
 | .ptr ..,hv=>by unfold bk;rw [fX h rfl]
 | .bX,hv=>by unfold bk;rw [fX h rfl]
 | .slice ..,hv=>by unfold bk;rw [fX h rfl]
 | .map _,hv=>by unfold bk;rw [fX h rfl]
 | .cd,hv=>by unfold bk;rw [fX h rfl]
 | .func ..,hv=>by unfold bk;rw [fX h rfl]
 | .yield _,hv=>by unfold bk;rw [fX h rfl]
 | .bN,hv=>by unfold bk;rw [fX h rfl]
 | .iface ..,hv=>by unfold bk;rw [fX h rfl]
 | .bu,hv=>by unfold bk;rw [fX h rfl]
 | .bad,hv=>by unfold bk;rw [fX h rfl]
 | .vl ..,hv=>by unfold bk;rw [fX h rfl]
 | .e0 _,hv=>by unfold bk;rw [fX h rfl]
 | .pe ..,hv=>by unfold bk;rw [fX h rfl]
 | .fb ..,hv=>by unfold bk;rw [fX h rfl]
theorem Ci {l l1:List D} (h:E3 l l1): ∀{q:List AV},Nz q=true→@bI (bf l1 bs) q= @bI (bf l bs) q
 |[],_=>by unfold bI;rfl
 |v::q,hv=>by
  unfold Nz at hv
  rw [V1] at hv
  unfold bI
  rw [QR h hv.1,Ci h hv.2]
end
theorem E3.app {l l1:List D} (h:E3 l l1) (q:List D):E3 (l++q) (l1++q):=by
 obtain ⟨F,F1,h1,h2,rfl⟩:=h
 have hlt:=(List.getElem?_eq_some_iff.1 h2).1
 exact ⟨F,F1,h1,by rw [List.getElem?_append_left hlt];exact h2,by rw [List.set_append_left _ _ hlt]⟩
theorem cP {l l1:List D} (h:E3 l l1) {v:AV} (hv:nA v=true) (ht: @oq (bf l bs) v): @oq (bf l1 bs) v:=by
 cases v<;>first |exact ht |skip
 rename_i t x
 show bx t (bh (dp l1) x)
 rw [xY h hv]
 exact ht
theorem zP {l l1:List D} (h:E3 l l1): ∀{q:List AV},LZ q=true→@kg (bf l bs) q→@kg (bf l1 bs) q
 |[],_,_=>trivial
 |x::q,hx,ht=>by
  unfold LZ at hx
  rw [V1] at hx
  exact ⟨cP h hx.1 ht.1,zP h hx.2 ht.2⟩
mutual
theorem Lh {l l1:List D} (h:E3 l l1): ∀{v:AV},nV v=true→@cO (bf l bs) v→@cO (bf l1 bs) v
 | .agg q,hv,ht=>by unfold cO at ht⊢;exact zP h (by unfold nV at hv;exact hv) ht
 | .tuple q,hv,ht=>by unfold cO at ht⊢;exact zQ h (by unfold nV at hv;exact hv) ht
 | .bool b,hv,ht=>by unfold cO at ht⊢;exact cP h rfl ht
 | .int k m,hv,ht=>by unfold cO at ht⊢;exact cP h rfl ht
 | .str _,hv,ht=>by unfold cO at ht⊢;exact cP h rfl ht
 | .an,hv,ht=>by unfold cO at ht⊢;exact cP h rfl ht
 | .tm t x,hv,ht=>by unfold cO at ht⊢;exact cP h (by unfold nV at hv;exact hv) ht
 | .float ..,hv,ht=>by unfold cO at ht⊢;exact cP h rfl ht
 | .ptr ..,hv,ht=>by unfold cO at ht⊢;exact cP h rfl ht
 | .bX,hv,ht=>by unfold cO at ht⊢;exact cP h rfl ht
 | .slice ..,hv,ht=>by unfold cO at ht⊢;exact cP h rfl ht
 | .map _,hv,ht=>by unfold cO at ht⊢;exact cP h rfl ht
 | .cd,hv,ht=>by unfold cO at ht⊢;exact cP h rfl ht
 | .func ..,hv,ht=>by unfold cO at ht⊢;exact cP h rfl ht
 | .yield _,hv,ht=>by unfold cO at ht⊢;exact cP h rfl ht
 | .bN,hv,ht=>by unfold cO at ht⊢;exact cP h rfl ht
 | .iface ..,hv,ht=>by unfold cO at ht⊢;exact cP h rfl ht
 | .bu,hv,ht=>by unfold cO at ht⊢;exact cP h rfl ht
 | .bad,hv,ht=>by unfold cO at ht⊢;exact cP h rfl ht
 | .vl ..,hv,ht=>by unfold cO at ht⊢;exact cP h rfl ht
 | .e0 _,hv,ht=>by unfold cO at ht⊢;exact cP h rfl ht
 | .pe ..,hv,ht=>by unfold cO at ht⊢;exact cP h rfl ht
 | .fb ..,hv,ht=>by unfold cO at ht⊢;exact cP h rfl ht
theorem zQ {l l1:List D} (h:E3 l l1): ∀{q:List AV},Nz q=true→@eW (bf l bs) q→@eW (bf l1 bs) q
 |[],_,ht=>by unfold eW;trivial
 |v::q,hv,ht=>by
  unfold Nz at hv
  rw [V1] at hv
  unfold eW at ht⊢
  exact ⟨Lh h hv.1 ht.1,zQ h hv.2 ht.2⟩
end
theorem TL {l l1:List D} (h:E3 l l1) {q:List AV} (hq:zN q=true) {ds:List DV} (hd: @bI (bf l bs) q=some ds): ∃ds1,@bI (bf l1 bs) q=some ds1∧DU ds ds1:=by
 unfold zN at hq
 split at hq
 ·rename_i a b c d rest tl
  simp only [V1] at hq
  obtain ⟨q1,q2,q3,q4⟩:=hq
  simp only [LZ,V1] at q1
  obtain ⟨a1,b1,c1,_⟩:=q1
  obtain ⟨F,F1,hF,e1,e2⟩:=h.funcs
  have hd3: ∃t,d= .tm t (.var 3):=by
   unfold TK at q2
   split at q2
   ·rename_i t n;exact ⟨t,by rw [VN q2]⟩
   ·cases q2
  obtain ⟨t,rfl⟩:=hd3
  unfold bI bk dz at hd⊢
  rw [fX h a1]
  unfold dz at hd⊢
  rw [fX h b1]
  unfold dz at hd⊢
  rw [fX h c1]
  unfold dz at hd⊢
  rw [FN h q3,Ci h q4]
  have c2: @od (bf l bs) (.tm t (.var 3))=some (eF F):=by show some (bh (dp l) (.var 3))=_;unfold bh;rw [e1]
  have c3: @od (bf l1 bs) (.tm t (.var 3))=some (eF F1):=by show some (bh (dp l1) (.var 3))=_;unfold bh;rw [e2]
  rw [c2] at hd
  rw [c3]
  cases ha: @od (bf l bs) a with
  |none=>rw [ha] at hd;cases hd
  |some A=>
  cases hb: @od (bf l bs) b with
  |none=>rw [ha,hb] at hd;cases hd
  |some B=>
  cases hc: @od (bf l bs) c with
  |none=>rw [ha,hb,hc] at hd;cases hd
  |some C=>
  cases hr: @dz (bf l bs) rest with
  |none=>rw [ha,hb,hc,hr] at hd;cases hd
  |some R=>
  cases ht: @bI (bf l bs) tl with
  |none=>rw [ha,hb,hc,hr,ht] at hd;cases hd
  |some T=>
  rw [ha,hb,hc,hr,ht] at hd
  cases hd
  exact ⟨_,rfl,.inr ⟨A,B,C,F,F1,R,T,hF,rfl,rfl⟩⟩
 ·cases hq
theorem zR {fids:List lP}: ∀{t:PT} {l l' l1:List D} {o:k9},nP t=true→E3 l l1→iE bs (QP fids) (MZ Tryz.prog bs []) t l l' o→∃l1',iE bs (P0 Tryz.prog bs fids) (MZ Tryz.prog bs []) t l1 l1' o
 | .ret v,l,l',l1,o,hn,hE,h=>by
  unfold nP at hn
  unfold iE at h
  obtain ⟨_,r,h1,rfl⟩:=h
  exact ⟨l1,by unfold iE;exact ⟨rfl,r,(QR hE hn).trans h1,rfl⟩⟩
 | .dead,l,l',l1,o,hn,hE,h=>by unfold iE at h;exact h.elim
 | .next q,l,l',l1,o,hn,hE,h=>by
  unfold nP at hn
  unfold iE at h
  obtain ⟨_,rfl⟩:=h
  exact ⟨l1,by unfold iE;exact ⟨rfl,by rw [zO hE hn]⟩⟩
 | .exit i q,l,l',l1,o,hn,hE,h=>by
  unfold nP at hn
  unfold iE at h
  obtain ⟨_,rfl⟩:=h
  exact ⟨l1,by unfold iE;exact ⟨rfl,by rw [zO hE hn]⟩⟩
 | .split c y z,l,l',l1,o,hn,hE,h=>by
  unfold nP at hn
  simp only [V1] at hn
  unfold iE at h
  rcases h with ⟨hc,h⟩ |⟨hc,h⟩
  ·obtain ⟨l1',h1⟩:=zR hn.2.1 hE h
   exact ⟨l1',by unfold iE;exact .inl ⟨(xY hE hn.1).trans hc,h1⟩⟩
  ·obtain ⟨l1',h1⟩:=zR hn.2.2 hE h
   exact ⟨l1',by unfold iE;exact .inr ⟨(xY hE hn.1).trans hc,h1⟩⟩
 | .call i args v k nx,l,l',l1,o,hn,hE,h=>by
  unfold nP at hn
  simp only [V1,WW] at hn
  unfold iE at h
  obtain ⟨R,ds,r,h1,h2,h3,h4,h5,h6,h7⟩:=h
  obtain ⟨l1',h8⟩:=zR hn.2.2 (hE.app (aI r)) h7
  unfold QP at h1
  rw [VV] at h1
  obtain ⟨f,hf,rfl⟩:=Option.map_eq_some_iff.1 h1
  obtain ⟨ds1,g1,g2⟩: ∃ds1,@bI (bf l1 bs) args=some ds1∧DU ds ds1:=by
   rcases hn.1 with ha |ha
   ·exact ⟨ds,(Ci hE ha).trans h2,.inl rfl⟩
   ·exact TL hE ha h2
  refine ⟨l1',?_⟩
  unfold iE
  exact ⟨PL Tryz.prog bs f.1 f.2,ds1,r,by unfold P0;rw [VV,hf];rfl,g1,h3 ds1 g2,h4,(QR (hE.app _) hn.2.1).trans h5,Lh (hE.app _) hn.2.1 h6,h8⟩
 | .loop i q b,l,l',l1,o,hn,hE,h=>by unfold nP at hn;cases hn
def QS:Ty→Bool
 | .aF [.str,.str,.aF [.str],.aF [.int .i64,.int .i64,.int .i64,.int .i64]]=>true
 |_=>false
def tf:List AV→Bool
 | .agg (.tm _ (.var a)::.tm _ (.var b)::.tm _ (.var c)::.tm t (.var d)::rest)::tl=>Vo a 0&&(Vo b 1&&(Vo c 2&&(Vo d 3&&(QS t&&(LZ rest&&Nz tl)))))
 |_=>false
theorem QT {x y:In} (h:x.e=y.e):x=y:=by
 obtain ⟨a,b,c,d⟩:=x
 obtain ⟨a',b',c',d'⟩:=y
 simp only [In.e,XV,D.int.injEq,true_and,and_true] at h
 obtain ⟨rfl,rfl,rfl,rfl⟩:=h
 rfl
theorem Li {x y:Fu} (h:x.e=y.e):x=y:=by
 obtain ⟨a,b,c,d⟩:=x
 obtain ⟨a',b',c',d'⟩:=y
 simp only [Fu.e,XV,D.str.injEq,D.aF.injEq,and_true] at h
 obtain ⟨rfl,rfl,h1,h2⟩:=h
 obtain rfl:=(ZR fun x y h=>by simpa [eS] using h).1 h1
 obtain rfl:=(ZR fun _ _=>QT).1 h2
 rfl
theorem QU {l:List D} {F:List Fu} (h:l[3]? =some (eF F)):dp l 3=eF F:=by
 show D.at l 3=_
 unfold D.at
 rw [h]
theorem NA {t:Ty} (h:QS t=true) (F:List Fu):bx t (eF F):=by
 unfold QS at h
 split at h
 ·unfold bx
  exact ⟨_,rfl,fun r hr=>by
   obtain ⟨g,_,rfl⟩:=List.mem_map.1 hr
   exact (Hh (x:=g)).mpr trivial⟩
 ·cases h
theorem Es {l:List D} {q:List AV} (hq:tf q=true) {F:List Fu} (hF:l[3]? =some (eF F)) {ds ds1:List DV} (hd: @bI (bf l bs) q=some ds) (ht: @eW (bf l bs) q) (hu:DU ds ds1):
 ∃l1,E3 l l1∧l1.length=l.length∧@bI (bf l1 bs) q=some ds1∧@eW (bf l1 bs) q:=by
 unfold tf at hq
 split at hq
 ·rename_i ta a tb b tc c t d rest tl
  simp only [V1] at hq
  obtain ⟨q0,q1,q2,q3,q4,q5,q6⟩:=hq
  obtain rfl:a=0:=VN q0
  obtain rfl:b=1:=VN q1
  obtain rfl:c=2:=VN q2
  obtain rfl:d=3:=VN q3
  have key: ∀F1,FU F F1→∃l1,E3 l l1∧l1.length=l.length∧l1=l.set 3 (eF F1):=fun F1 h=>⟨_,⟨F,F1,h,hF,rfl⟩,by simp,rfl⟩
  have hlt:=(List.getElem?_eq_some_iff.1 hF).1
  have typ: ∀F1 l1,E3 l l1→l1=l.set 3 (eF F1)→@eW (bf l1 bs) (.agg (.tm ta (.var 0)::.tm tb (.var 1)::.tm tc (.var 2)::.tm t (.var 3)::rest)::tl):=by
   intro F1 l1 hE he
   unfold eW cO at ht⊢
   obtain ⟨⟨t0,t1,t2,t3,t4⟩,t5⟩:=ht
   refine ⟨⟨cP hE rfl t0,cP hE rfl t1,cP hE rfl t2,?_,zP hE q5 t4⟩,zQ hE q6 t5⟩
   show bx t (bh (dp l1) (.var 3))
   have:bh (dp l1) (.var 3)=eF F1:=by unfold bh;exact QU (by rw [he,ZQ hlt])
   rw [this]
   exact NA q4 F1
  have c3: ∀F1 l1,l1=l.set 3 (eF F1)→@od (bf l1 bs) (.tm t (.var 3))=some (eF F1):=by
   intro F1 l1 he
   show some (bh (dp l1) (.var 3))=_
   unfold bh
   rw [QU (F:=F1) (by rw [he,ZQ hlt])]
  have c2: @od (bf l bs) (.tm t (.var 3))=some (eF F):=by show some (bh (dp l) (.var 3))=_;unfold bh;rw [QU hF]
  cases hr: @dz (bf l bs) rest with
  |none=>unfold bI bk dz dz dz dz at hd;rw [c2,hr] at hd;cases hd
  |some R=>
  cases htl: @bI (bf l bs) tl with
  |none=>unfold bI bk dz dz dz dz at hd;rw [c2,hr,htl] at hd;cases hd
  |some T=>
  have e0:ds= .agg (dp l 0::dp l 1::dp l 2::eF F::R)::T:=by
   unfold bI bk dz dz dz dz at hd
   rw [c2,hr,htl] at hd
   exact (VF hd).symm
  have go: ∀F1,FU F F1→ds1= .agg (dp l 0::dp l 1::dp l 2::eF F1::R)::T→∃l1,E3 l l1∧l1.length=l.length∧@bI (bf l1 bs) (.agg (.tm ta (.var 0)::.tm tb (.var 1)::.tm tc (.var 2)::.tm t (.var 3)::rest)::tl)=some ds1∧@eW (bf l1 bs) (.agg (.tm ta (.var 0)::.tm tb (.var 1)::.tm tc (.var 2)::.tm t (.var 3)::rest)::tl):=by
   intro F1 h1 he1
   obtain ⟨l1,hE,hl,he⟩:=key F1 h1
   refine ⟨l1,hE,hl,?_,typ F1 l1 hE he⟩
   unfold bI bk dz dz dz dz
   rw [c3 F1 l1 he,FN hE q5,hr,Ci hE q6,htl,fX (v:=.tm ta (.var 0)) hE rfl,fX (v:=.tm tb (.var 1)) hE rfl,fX (v:=.tm tc (.var 2)) hE rfl,he1]
   rfl
  rcases hu with rfl |⟨A,B,C,F',F1,R',T',h1,h2,h3⟩
  ·exact go F (FU.refl F) e0
  ·rw [e0] at h2
   simp only [XV,DV.agg.injEq] at h2
   obtain ⟨⟨rfl,rfl,rfl,hFF,rfl⟩,rfl⟩:=h2
   have:F=F':=by
    unfold eF at hFF
    injection hFF with hFF
    exact (ZR fun _ _=>Li).1 hFF
   subst this
   exact go F1 h1 h3
 ·cases hq
theorem qp {fids:List lP} {f:FuncId} {args:List AV} {t:PT} {l:List D} {ds:List DV} {R:DV→Prop} (hc:bt Tryz.prog bs 100000 f args fids [] t l.length=true) (ha: @bI (bf l bs) args=some ds) (hta: @eW (bf l bs) args)
 (hw:WU fids t l fun o=>∃r,o= .ret r∧R r) (hm:tf args=true:=by kernel_rfl) (hp:nP t=true:=by kernel_rfl) (hF: ∃F,l[3]? =some (eF F):=by exact ⟨_,rfl⟩): ∃r,R r∧we f ds r:=by
 obtain ⟨l',o,h1,r,rfl,hR⟩:=hw
 obtain ⟨F,hF⟩:=hF
 refine ⟨r,hR,fun ds1 hu=>?_⟩
 obtain ⟨l1,hE,hl,hd,ht⟩:=Es hm hF ha hta hu
 obtain ⟨l1',h2⟩:=zR hp hE h1
 exact JL jF HA K3 gP (by rw [hl];exact hc) h2 hd ht
def NB:List DV→Bool
 | .agg (_::_::_::.aF _::_)::_=>false
 |_=>true
theorem sH {f:FuncId} {ds:List DV} {r:DV} (h:Ok f ds r) (hd:NB ds=true:=by rfl):we f ds r:=by
 rintro ds1 (rfl |⟨T,S,L,F,F1,rest,tl,_,rfl,rfl⟩)
 ·exact h
 ·cases hd
end
section
open Go
theorem sv {t:List Cl} {n k:bn} (h:gA t n k):typed t k=true:=by
 obtain ⟨_,h1,h2⟩:=h
 unfold qk at h1
 unfold typed
 simp only [WW,decide_eq_true_eq] at h1⊢
 rcases h1 with (h1 |h1) |h1
 ·exact .inr h1
 ·exact .inl (.inr h1)
 ·exact .inl (.inl (h2 h1))
theorem Cj {t:List Cl} (hT:Hn t) {s q:bn} {v:Vr} (h:ng t s q=some v):typed t v.t=true:=by
 have hm:=Zv h
 unfold fieldsOf at hm
 obtain ⟨c,hc,hv⟩:=List.mem_flatMap.1 hm
 exact sv ((hT.ow c (fF (List.mem_reverse.1 hc))).f v hv).2
theorem wg {t:List Cl} (hT:Hn t) {s q o:bn} {m:Sg} (h:methodOf t s q=some (m,o)):typed t m.r=true∧m.p.length≤8:=by
 unfold methodOf at h
 obtain ⟨c,hc,h2⟩:=List.exists_of_findSome?_eq_some h
 simp only [Option.map_eq_some_iff,Prod.mk.injEq] at h2
 obtain ⟨m',hm,rfl,_⟩:=h2
 have hmem:m'∈c.m:=Zv hm
 have hct:=fF hc
 refine ⟨sv ((hT.ow c hct).m m' hmem).r,?_⟩
 obtain ⟨i,hi,rfl⟩:=List.mem_iff_getElem.1 hct
 exact (hT.sz i hi).p m' hmem
theorem cY {t:List Cl} {s:bn} (h:s∈fQ):typed t s=true:=by simp [typed,h]
theorem zU {t:List Cl}:typed t [63]=true:=by simp [typed]
theorem i6 {t:List Cl} {s:bn} (h:RH s):s=[]∨typed t s=true:=by
 rcases h with h |rfl |h
 ·exact .inl h
 ·exact .inr zU
 ·exact .inr (cY h)
def jG (t:List Cl):DV→Prop
 | .jO [.agg [.aF ps,.str push],.c (.int .i64 e)]=>(∃pops:List bn,ps=pops.map eS∧pops.length≤900)∧(e=0→push=[]∨typed t push=true)
 |_=>False
theorem nj {t:List Cl} (pops:List bn) (push:bn) (e:Int) (h1:pops.length≤900) (h2:e=0→push=[]∨typed t push=true):jG t (.jO [.agg [eL pops,.str push],.c (.int .i64 e)]):=⟨⟨pops,rfl,h1⟩,h2⟩
theorem NC {t:List Cl} {r:DV} (h:jG t r): ∃(pops:List bn) (push:bn) (e:Int),r= .jO [.agg [eL pops,.str push],.c (.int .i64 e)]∧pops.length≤900∧(e=0→push=[]∨typed t push=true):=by
 unfold jG at h
 split at h
 ·obtain ⟨⟨pops,rfl,h1⟩,h2⟩:=h
  exact ⟨pops,_,_,rfl,h1,h2⟩
 ·exact h.elim
abbrev Ef (t:List Cl) (o:k9):Prop:=∃r,o= .ret r∧jG t r
section
variable {fids:List lP} {l:List D} {t:List Cl}
theorem no (e:Int) (he:e≠0):WU fids (.ret (.tuple [.agg [.tm (.aF []) (.op .nil []),.str []],.int .i64 e])) l (Ef t):=
 aq (.ret (.jO [.agg [eL [],.str []],.c (.int .i64 e)])) (by simp [eL]) ⟨_,rfl,nj _ _ _ (by simp) (fun h=>absurd h he)⟩
theorem yes {p:PT} (pops:List bn) (push:bn) (h1:pops.length≤900) (h2:push=[]∨typed t push=true) (h:WU fids p l (fun o=>o= .ret (.jO [.agg [eL pops,.str push],.c (.int .i64 0)]))):WU fids p l (Ef t):=
 aq _ h ⟨_,rfl,nj _ _ _ h1 (fun _=>h2)⟩
end
section
variable {m:Mo} (hm:Ep m)
include hm
theorem Ep.T:Hn m.t:=(oW hm.t).2
theorem Ep.S:eB m.t:=kl hm.T.len hm.T.sz
abbrev dk (m:Mo) (f:Nat):DV:=.agg (m.e++[.int .i64 (f:Int)])
abbrev xs (o a b c:Int):DV:=.agg [.int .i64 o,.int .i64 a,.int .i64 b,.int .i64 c]
abbrev en (m:Mo) (f:Nat) (o a b c:Int):List D:=[eT m.t,aZ m.s,eL m.p,eF m.f,.int .i64 (f:Int),.int .i64 o,.int .i64 a,.int .i64 b,.int .i64 c]
theorem QV (f:Nat) (o b c:Int) (i:Nat) (hi:i<m.p.length): ∃r,jG m.t r∧we 84 [dk m f,xs o i b c] r:=by
 refine qp (l:=en m f o i b c) SP (by simp [Mo.e,eT,aZ,eL,eF]) (by simp) ?_
 have hx:m.p[i]? =some m.p[i]:=Wj hi
 have e1:(i:Int)<m.p.length:=by omega
 generalize m.p[i]=s at hx
 unfold Ou
 simp only [aI,aR,WB,Xl,XZ,ah,bh,aL,ae,ag,aw,ZD,aA,aB,aX,bc,aV,aT,aJ,aM,aP,ba,aU,aE,Wt,VV,Xt,aD,aH,eS,eT,eL,aZ,eF,aC,ak,if_pos e1,if_pos (WN i)]
 refine ai rfl (sH (dS m.t s (by have:=hm.S.len;omega))) (by simp [hx,eT,eS,aZ,eL,eF,Fu.e,Si.e]) (by simp) (by simp) (by simp) ?_
 simp only [aI,aR,WB,Xl,XZ,ah,bh,aL,ae,ag,aw,ZD,aA,aB,aX,bc,aV,aT,aJ,aM,aP,ba,aU,aE,Wt,VV,Xt,aD,aH,eS,eT,eL,aZ,eF,aC,ak,hx]
 cases hc:(cls m.t s).isSome
 ·simp only [ZN,Zy,a9,aQ];exact no 6 (by omega)
 ·simp only [ZN,Zy,a9,aQ]
  exact yes [] s (by simp) (.inr (by simp [typed,hc])) (by simp [eL,eS,hx,eT,aZ,eF,Fu.e,Si.e])
theorem QW (f:Nat) (hf:f<m.f.length) (o a b c:Int): ∃r,jG m.t r∧we 85 [dk m f,xs o a b c] r:=by
 refine qp (l:=en m f o a b c) SQ (by simp [Mo.e,eT,aZ,eL,eF]) (by simp) ?_
 have hx:m.f[f]? =some m.f[f]:=Wj hf
 have e1:(f:Int)<m.f.length:=by omega
 have hF:=hm.f m.f[f] (Wv hf)
 generalize m.f[f]=g at hx hF
 unfold Ov
 simp only [aI,aR,WB,Xl,XZ,ah,bh,aL,ae,ag,aw,ZD,aA,aB,aX,bc,aV,aT,aJ,aM,aP,ba,aU,aE,Wt,VV,Xt,aD,aH,eS,eT,eL,aZ,eF,aC,ak,if_pos e1,if_pos (WN f),hx,Fu.e]
 by_cases h:g.c=[]
 ·rw [if_pos h];exact no 6 (by omega)
 ·rw [if_neg h]
  exact yes [] g.c (by simp) (.inr (by simp [typed,hF.c.resolve_left h])) (by simp [eL,Fu.e,hx,eT,aZ,eF,eS,Si.e])
theorem QX (f:Nat) (hf:f<m.f.length) (o b c:Int) (i:Nat) (hi:i<(m.f[f]).l.length): ∃r,jG m.t r∧we 86 [dk m f,xs o i b c] r:=by
 refine qp (l:=en m f o i b c) SU (by simp [Mo.e,eT,aZ,eL,eF]) (by simp) ?_
 have hx:m.f[f]? =some m.f[f]:=Wj hf
 have e1:(f:Int)<m.f.length:=by omega
 have hF:=hm.f m.f[f] (Wv hf)
 generalize m.f[f]=g at hx hF hi
 have hy:g.l[i]? =some g.l[i]:=Wj hi
 have ht:=hF.ty g.l[i] (Wv hi)
 have e2:(i:Int)<g.l.length:=by omega
 generalize g.l[i]=s at hy ht
 unfold Ow
 simp only [aI,aR,WB,Xl,XZ,ah,bh,aL,ae,ag,aw,ZD,aA,aB,aX,bc,aV,aT,aJ,aM,aP,ba,aU,aE,Wt,VV,Xt,aD,aH,eS,eT,eL,aZ,eF,aC,ak,if_pos e1,if_pos (WN _),hx,Fu.e,if_pos e2]
 exact yes [] s (by simp) (.inr ht) (by simp [eL,eS,Fu.e,hx,hy,eT,aZ,eF,Si.e])
theorem QY (f:Nat) (hf:f<m.f.length) (o b c:Int) (i:Nat) (hi:i<(m.f[f]).l.length): ∃r,jG m.t r∧we 87 [dk m f,xs o i b c] r:=by
 refine qp (l:=en m f o i b c) SV (by simp [Mo.e,eT,aZ,eL,eF]) (by simp) ?_
 have hx:m.f[f]? =some m.f[f]:=Wj hf
 have e1:(f:Int)<m.f.length:=by omega
 generalize m.f[f]=g at hx hi
 have hy:g.l[i]? =some g.l[i]:=Wj hi
 have e2:(i:Int)<g.l.length:=by omega
 generalize g.l[i]=s at hy
 unfold Ox
 simp only [aI,aR,WB,Xl,XZ,ah,bh,aL,ae,ag,aw,ZD,aA,aB,aX,bc,aV,aT,aJ,aM,aP,ba,aU,aE,Wt,VV,Xt,aD,aH,eS,eT,eL,aZ,eF,aC,ak,if_pos e1,if_pos (WN _),hx,Fu.e,if_pos e2]
 exact yes [s] [] (by simp) (.inl rfl) (by simp [eL,eS,Fu.e,hx,hy,eT,aZ,eF,Si.e])
omit hm in
theorem FO (n:Int): ∃(s:bn) (e:Int),Ok 135 [.c (.int .i64 n)] (.jO [.c (.str s),.c (.int .i64 e)]):=by
 obtain ⟨r,⟨s,e,rfl⟩,h⟩:=xU (l:=[.int .i64 n]) (R:=fun r=>∃(s:bn) (e:Int),r= .jO [.c (.str s),.c (.int .i64 e)]) (ds:=[.c (.int .i64 n)]) P7 (by simp) (by simp) (by
  have go: ∀{p:PT} {l:List D} (s:bn) (e:Int),W [] [] p l (fun o=>o= .ret (.jO [.c (.str s),.c (.int .i64 e)]))→W [] [] p l fun o=>∃r,o= .ret r∧∃(s:bn) (e:Int),r= .jO [.c (.str s),.c (.int .i64 e)]:=fun s e h=>aq _ h ⟨_,rfl,s,e,rfl⟩
  unfold Kl
  simp only [aI,aR,WB,Xl,XZ,ah,bh,aL,ae,ag,aw,ZD,aA,aB,aX,bc,aV,aT,aJ,aM,aP,ba,aU,aE,Wt,VV,Xt,aD,aH,eS,eT,eL,aZ,eF,aC,ak]
  refine az (fun _=>go [] 7 (by simp)) (fun h1=>?_)
  refine az (fun _=>go [] 7 (by simp)) (fun h2=>?_)
  have e:IntKind.i64.wrap (n - 1)=n - 1:=WJ _ (by omega)
  rw [e]
  refine az (fun _=>go [105,110,116] 0 (by simp)) (fun h3=>?_)
  refine az (fun _=>go [114,101,97,108] 0 (by simp)) (fun h4=>?_)
  refine az (fun _=>go [98,111,111,108] 0 (by simp)) (fun h5=>?_)
  refine az (fun _=>go [115,116,114] 0 (by simp)) (fun h6=>?_)
  refine az (fun _=>go [117,110,105,116] 0 (by simp)) (fun h7=>?_)
  omega)
 exact ⟨s,e,h⟩
def gS:List bn:=[[61,61],[33,61],[60],[60,61],[43],[45],[42],[47],[37]]
omit hm in
theorem zW:Ok 99 [] (.c (eL gS)):=lL (l:=[]) S9 (by simp) (by simp) (by simp [OJ,eL,gS,eS])
theorem QZ (f:Nat) (o b c:Int) (i:Nat) (hi:i<9): ∃r,jG m.t r∧we 88 [dk m f,xs o i b c] r:=by
 refine qp (l:=en m f o i b c) SW (by simp [Mo.e,eT,aZ,eL,eF]) (by simp) ?_
 unfold Oy
 obtain ⟨s,e,h1⟩:=FO b
 refine ai rfl (sH h1) (by simp) (by simp) (by simp) (by simp) ?_
 simp only [aI,aR,WB,Xl,XZ,ah,bh,aL,ae,ag,aw,ZD,aA,aB,aX,bc,aV,aT,aJ,aM,aP,ba,aU,aE,Wt,VV,Xt,aD,aH,eS,eT,eL,aZ,eF,aC,ak]
 refine az (fun _=>?_) (fun _=>?_)
 ·by_cases hb:b=0
  ·rw [if_pos hb];exact yes [[42],[42]] [98,111,111,108] (by simp) (.inr (cY (by simp [fQ]))) (by simp [eL,eS,eT,aZ,eF,Fu.e,Si.e])
  ·rw [if_neg hb];exact no 7 (by omega)
 refine ai rfl (sH zW) (by simp) (by simp) (by simp) (by simp) ?_
 have e1:(i:Int)<gS.length:=by simp [gS];omega
 have hx:gS[i]? =some (gS[i]'(by simp [gS];omega)):=Wj _
 generalize (gS[i]'(by simp [gS];omega))=g at hx
 simp only [aI,aR,WB,Xl,XZ,ah,bh,aL,ae,ag,aw,ZD,aA,aB,aX,bc,aV,aT,aJ,aM,aP,ba,aU,aE,Wt,VV,Xt,aD,aH,eS,eT,eL,aZ,eF,aC,ak,if_pos e1,if_pos (WN _)]
 obtain ⟨r,hr,hF⟩:=FM g s s
 obtain ⟨a1,a2,d,w,rfl,ho⟩:=i5 hr
 refine ai rfl (sH hF) (by simp [hx,eT,aZ,eL,eF,eS,Fu.e,Si.e]) (by simp) (by simp) (by simp) ?_
 simp only [aI,aR,WB,Xl,XZ,ah,bh,aL,ae,ag,aw,ZD,aA,aB,aX,bc,aV,aT,aJ,aM,aP,ba,aU,aE,Wt,VV,Xt,aD,aH,eS,eT,eL,aZ,eF,aC,ak]
 by_cases he:e=0
 ·rw [if_pos he]
  by_cases hw:w=0
  ·rw [if_pos hw];exact yes [s,s] a2 (by simp) (i6 ho) (by simp [eL,eS,eT,aZ,eF,Fu.e,Si.e])
  ·rw [if_neg hw];exact no 7 (by omega)
 ·rw [if_neg he];exact no 7 (by omega)
theorem Q0 (f:Nat) (o c:Int) (i j:Nat) (hi:i<9) (hj0:1≤j) (hj:j≤m.s.length): ∃r,jG m.t r∧we 89 [dk m f,xs o i j c] r:=by
 refine qp (l:=en m f o i j c) SX (by simp [Mo.e,eT,aZ,eL,eF]) (by simp) ?_
 obtain ⟨k,rfl⟩: ∃k,j=k+1:=⟨j - 1,by omega⟩
 have hsl:=hm.sl
 have w1:IntKind.i64.wrap (((k+1:Nat):Int) - 1)=k:=by rw [WJ _ (by omega)];omega
 have e1:(k:Int)<m.s.length:=by omega
 have hx:m.s[k]? =some (m.s[k]'(by omega)):=Wj _
 generalize (m.s[k]'(by omega))=g at hx
 unfold Oz
 simp only [aI,aR,WB,Xl,XZ,ah,bh,aL,ae,ag,aw,ZD,aA,aB,aX,bc,aV,aT,aJ,aM,aP,ba,aU,aE,Wt,VV,Xt,aD,aH,eS,eT,eL,aZ,eF,aC,ak,w1,if_pos e1,if_pos (WN _),hx,Si.e]
 by_cases hg:g.w=5
 case neg=>rw [if_neg hg];exact no 7 (by omega)
 rw [if_pos hg]
 refine ai rfl (sH zW) (by simp) (by simp) (by simp) (by simp) ?_
 have e1:(i:Int)<gS.length:=by simp [gS];omega
 have hx:gS[i]? =some (gS[i]'(by simp [gS];omega)):=Wj _
 generalize (gS[i]'(by simp [gS];omega))=g at hx
 simp only [aI,aR,WB,Xl,XZ,ah,bh,aL,ae,ag,aw,ZD,aA,aB,aX,bc,aV,aT,aJ,aM,aP,ba,aU,aE,Wt,VV,Xt,aD,aH,eS,eT,eL,aZ,eF,aC,ak,if_pos e1,if_pos (WN _)]
 obtain ⟨r,hr,hF⟩:=FM g [63] [63]
 obtain ⟨a1,a2,d,w,rfl,ho⟩:=i5 hr
 refine ai rfl (sH hF) (by simp [hx,eT,aZ,eL,eF,eS,Fu.e,Si.e]) (by simp) (by simp) (by simp) ?_
 exact yes [[63],[63]] a2 (by simp) (i6 ho) (by simp [eL,eS,eT,aZ,eF,Fu.e,Si.e])
theorem Q1 (f:Nat) (o b c:Int) (i:Nat) (hi:i<2): ∃r,jG m.t r∧we 90 [dk m f,xs o i b c] r:=by
 refine qp (l:=en m f o i b c) SY (by simp [Mo.e,eT,aZ,eL,eF]) (by simp) ?_
 unfold OA
 obtain ⟨s,e,h1⟩:=FO b
 refine ai rfl (sH h1) (by simp) (by simp) (by simp) (by simp) ?_
 simp only [aI,aR,WB,Xl,XZ,ah,bh,aL,ae,ag,aw,ZD,aA,aB,aX,bc,aV,aT,aJ,aM,aP,ba,aU,aE,Wt,VV,Xt,aD,aH,eS,eT,eL,aZ,eF,aC,ak]
 refine az (fun _=>?_) (fun _=>?_)
 ·obtain ⟨r,hr,hF⟩:=FL [45] s
  obtain ⟨a1,a2,d,w,rfl,ho⟩:=i5 hr
  refine ai rfl (sH hF) (by simp) (by simp) (by simp) (by simp) ?_
  simp only [aI,aR,WB,Xl,XZ,ah,bh,aL,ae,ag,aw,ZD,aA,aB,aX,bc,aV,aT,aJ,aM,aP,ba,aU,aE,Wt,VV,Xt,aD,aH,eS,eT,eL,aZ,eF,aC,ak]
  by_cases he:e=0
  ·rw [if_pos he]
   by_cases hw:w=0
   ·rw [if_pos hw];exact yes [s] a2 (by simp) (i6 ho) (by simp [eL,eS,eT,aZ,eF,Fu.e,Si.e])
   ·rw [if_neg hw];exact no 7 (by omega)
  ·rw [if_neg he];exact no 7 (by omega)
 refine az (fun _=>?_) (fun _=>by omega)
 obtain ⟨r,hr,hF⟩:=FL [33] s
 obtain ⟨a1,a2,d,w,rfl,ho⟩:=i5 hr
 refine ai rfl (sH hF) (by simp) (by simp) (by simp) (by simp) ?_
 simp only [aI,aR,WB,Xl,XZ,ah,bh,aL,ae,ag,aw,ZD,aA,aB,aX,bc,aV,aT,aJ,aM,aP,ba,aU,aE,Wt,VV,Xt,aD,aH,eS,eT,eL,aZ,eF,aC,ak]
 by_cases he:e=0
 ·rw [if_pos he]
  by_cases hw:w=0
  ·rw [if_pos hw];exact yes [s] a2 (by simp) (i6 ho) (by simp [eL,eS,eT,aZ,eF,Fu.e,Si.e])
  ·rw [if_neg hw];exact no 7 (by omega)
 ·rw [if_neg he];exact no 7 (by omega)
theorem Q2 (f:Nat) (o b c:Int) (i:Nat) (hi:i<3): ∃r,jG m.t r∧we 91 [dk m f,xs o i b c] r:=by
 refine qp (l:=en m f o i b c) SZ (by simp [Mo.e,eT,aZ,eL,eF]) (by simp) ?_
 unfold OB
 simp only [aI,aR,WB,Xl,XZ,ah,bh,aL,ae,ag,aw,ZD,aA,aB,aX,bc,aV,aT,aJ,aM,aP,ba,aU,aE,Wt,VV,Xt,aD,aH,eS,eT,eL,aZ,eF,aC,ak]
 refine az (fun _=>?_) (fun _=>az (fun _=>?_) (fun _=>az (fun _=>?_) (fun _=>by omega)))
 ·obtain ⟨r,hr,hF⟩:=zK [114,101,97,108] [63]
  obtain ⟨a1,a2,d,w,rfl,ho⟩:=i5 hr
  refine ai rfl (sH hF) (by simp) (by simp) (by simp) (by simp) ?_
  exact yes [a1] a2 (by simp) (i6 ho) (by simp [eL,eS,eT,aZ,eF,Fu.e,Si.e])
 ·obtain ⟨r,hr,hF⟩:=zK [105,110,116] [63]
  obtain ⟨a1,a2,d,w,rfl,ho⟩:=i5 hr
  refine ai rfl (sH hF) (by simp) (by simp) (by simp) (by simp) ?_
  exact yes [a1] a2 (by simp) (i6 ho) (by simp [eL,eS,eT,aZ,eF,Fu.e,Si.e])
 ·obtain ⟨r,hr,hF⟩:=zK [108,101,110] [63]
  obtain ⟨a1,a2,d,w,rfl,ho⟩:=i5 hr
  refine ai rfl (sH hF) (by simp) (by simp) (by simp) (by simp) ?_
  exact yes [a1] a2 (by simp) (i6 ho) (by simp [eL,eS,eT,aZ,eF,Fu.e,Si.e])
theorem Q3 (f:Nat) (o b c:Int) (j:Nat) (hj0:1≤j) (hj:j≤m.s.length): ∃r,jG m.t r∧we 92 [dk m f,xs o j b c] r:=by
 refine qp (l:=en m f o j b c) S0 (by simp [Mo.e,eT,aZ,eL,eF]) (by simp) ?_
 obtain ⟨k,rfl⟩: ∃k,j=k+1:=⟨j - 1,by omega⟩
 have hsl:=hm.sl
 have w1:IntKind.i64.wrap (((k+1:Nat):Int) - 1)=k:=by rw [WJ _ (by omega)];omega
 have e1:(k:Int)<m.s.length:=by omega
 have hx:m.s[k]? =some (m.s[k]'(by omega)):=Wj _
 have hS:=hm.s (m.s[k]'(by omega)) (Wv _)
 generalize (m.s[k]'(by omega))=g at hx hS
 unfold OC
 simp only [aI,aR,WB,Xl,XZ,ah,bh,aL,ae,ag,aw,ZD,aA,aB,aX,bc,aV,aT,aJ,aM,aP,ba,aU,aE,Wt,VV,Xt,aD,aH,eS,eT,eL,aZ,eF,aC,ak,w1,if_pos e1,if_pos (WN _),hx,Si.e]
 by_cases hg:g.w=1
 case neg=>rw [if_neg hg];exact no 7 (by omega)
 rw [if_pos hg]
 have w2:IntKind.i64.wrap (k:Int)=k:=WJ _ (by omega)
 exact yes [g.f] g.t (by simp) (.inr hS.t) (by simp [w2,eL,eS,aZ,w1,hx,Si.e,eT,eF,Fu.e])
theorem Lj (f:Nat) (o c:Int) (i j:Nat) (hi:i<m.p.length) (hj:j<m.p.length): ∃r,jG m.t r∧we 93 [dk m f,xs o i j c] r:=by
 refine qp (l:=en m f o i j c) S3 (by simp [Mo.e,eT,aZ,eL,eF]) (by simp) ?_
 have hx:m.p[i]? =some m.p[i]:=Wj hi
 have hy:m.p[j]? =some m.p[j]:=Wj hj
 have e1:(i:Int)<m.p.length:=by omega
 have e2:(j:Int)<m.p.length:=by omega
 generalize m.p[i]=s at hx
 generalize m.p[j]=q at hy
 unfold OD
 simp only [aI,aR,WB,Xl,XZ,ah,bh,aL,ae,ag,aw,ZD,aA,aB,aX,bc,aV,aT,aJ,aM,aP,ba,aU,aE,Wt,VV,Xt,aD,aH,eS,eT,eL,aZ,eF,aC,ak,if_pos e1,if_pos e2,if_pos (WN _)]
 refine ai rfl (sH (zC m.t s q hm.S)) (by simp [hx,hy,eT,eS,aZ,eL,eF,Fu.e,Si.e]) (by simp) (by simp) (by simp) ?_
 simp only [aI,aR,WB,Xl,XZ,ah,bh,aL,ae,ag,aw,ZD,aA,aB,aX,bc,aV,aT,aJ,aM,aP,ba,aU,aE,Wt,VV,Xt,aD,aH,eS,eT,eL,aZ,eF,aC,ak,hx]
 cases hc:ng m.t s q with
 |none=>simp only [XA,ZN,Zy,a9,aQ];exact no 6 (by omega)
 |some v=>
  simp only [Zx,ZN,Zy,a9,aQ]
  refine az (fun _=>?_) (fun _=>?_)
  ·exact yes [s] v.t (by simp) (.inr (Cj hm.T hc)) (by simp [eL,eS,hx,eT,aZ,eF,Fu.e,Si.e])
  ·exact yes [s,v.t] [117,110,105,116] (by simp) (.inr (cY (by simp [fQ]))) (by simp [eL,eS,hx,eT,aZ,eF,Fu.e,Si.e])
theorem Lk (f:Nat) (hf:f<m.f.length) (o c:Int) (i j:Nat) (hi:i<m.p.length) (hj:j<m.p.length): ∃r,jG m.t r∧we 94 [dk m f,xs o i j c] r:=by
 refine qp (l:=en m f o i j c) S4 (by simp [Mo.e,eT,aZ,eL,eF]) (by simp) ?_
 have hx:m.p[i]? =some m.p[i]:=Wj hi
 have hy:m.p[j]? =some m.p[j]:=Wj hj
 have hz:m.f[f]? =some m.f[f]:=Wj hf
 have e1:(i:Int)<m.p.length:=by omega
 have e2:(j:Int)<m.p.length:=by omega
 have e3:(f:Int)<m.f.length:=by omega
 generalize m.p[i]=s at hx
 generalize m.p[j]=q at hy
 generalize m.f[f]=g at hz
 unfold OE
 simp only [aI,aR,WB,Xl,XZ,ah,bh,aL,ae,ag,aw,ZD,aA,aB,aX,bc,aV,aT,aJ,aM,aP,ba,aU,aE,Wt,VV,Xt,aD,aH,eS,eT,eL,aZ,eF,aC,ak,if_pos e1,if_pos e2,if_pos e3,if_pos (WN _)]
 have h1:=ql m.t s q hm.S
 cases hc:methodOf m.t s q with
 |none=>
  rw [hc] at h1
  refine ai rfl (sH h1) (by simp [hx,hy,eT,eS,aZ,eL,eF,Fu.e,Si.e]) (by simp) (by simp) (by simp) ?_
  simp only [aI,aR,WB,Xl,XZ,ah,bh,aL,ae,ag,aw,ZD,aA,aB,aX,bc,aV,aT,aJ,aM,aP,ba,aU,aE,Wt,VV,Xt,aD,aH,eS,eT,eL,aZ,eF,aC,ak,ZN,Zy,a9,aQ];exact no 6 (by omega)
 |some mo=>
  obtain ⟨mm,ow⟩:=mo
  rw [hc] at h1
  obtain ⟨ht,hl⟩:=wg hm.T hc
  refine ai rfl (sH h1) (by simp [hx,hy,eT,eS,aZ,eL,eF,Fu.e,Si.e]) (by simp [Sg.e]) (by simp [Sg.e]) (by simp [Sg.e]) ?_
  simp only [aI,aR,WB,Xl,XZ,ah,bh,aL,ae,ag,aw,ZD,aA,aB,aX,bc,aV,aT,aJ,aM,aP,ba,aU,aE,Wt,VV,Xt,aD,aH,eS,eT,eL,aZ,eF,aC,ak,Sg.e,ZN,Zy,a9,aQ,hz,hx,Fu.e]
  refine az (fun _=>?_) (fun _=>?_)
  ·by_cases h2:g.c=[]
   ·rw [if_pos h2];exact no 6 (by omega)
   rw [if_neg h2]
   by_cases h3:g.c=s
   ·rw [if_pos h3];exact no 6 (by omega)
   rw [if_neg h3]
   refine ai rfl (sH (oX m.t g.c s)) (by simp [hz,hx,eT,Fu.e,aZ,eL,eF,eS,Si.e]) (by simp) (by simp) (by simp) ?_
   simp only [aI,aR,WB,Xl,XZ,ah,bh,aL,ae,ag,aw,ZD,aA,aB,aX,bc,aV,aT,aJ,aM,aP,ba,aU,aE,Wt,VV,Xt,aD,aH,eS,eT,eL,aZ,eF,aC,ak]
   cases dL m.t g.c s
   ·simp only [ZN,Zy,a9,aQ];exact no 6 (by omega)
   simp only [ZN,Zy,a9,aQ]
   refine ai rfl (sH (vR mm.p (by omega))) (by simp) (by simp) (by simp) (by simp) ?_
   exact yes (mm.p.map (·.t)) mm.r (by simp;omega) (.inr ht) (by simp)
  ·refine ai rfl (sH (vR mm.p (by omega))) (by simp) (by simp) (by simp) (by simp) ?_
   have e4:((mm.p.length:Nat):Int)≤100000000:=by omega
   simp only [aI,aR,WB,Xl,XZ,ah,bh,aL,ae,ag,aw,ZD,aA,aB,aX,bc,aV,aT,aJ,aM,aP,ba,aU,aE,Wt,VV,Xt,aD,aH,eS,eT,eL,aZ,eF,aC,ak,if_pos e4]
   refine az (fun h0=>?_) (fun h0=>?_)
   ·exact yes (s::mm.p.map (·.t)) mm.r (by simp;omega) (.inr ht) (by simp [eL,eS,hx,eT,aZ,eF,Fu.e,Si.e])
   ·exact yes [s] mm.r (by simp) (.inr ht) (by simp [eL,eS,hx,eT,aZ,eF,Fu.e,Si.e])
theorem Q4 (f:Nat) (o b c:Int) (i:Nat) (hi:i<m.p.length): ∃r,jG m.t r∧we 95 [dk m f,xs o i b c] r:=by
 refine qp (l:=en m f o i b c) S5 (by simp [Mo.e,eT,aZ,eL,eF]) (by simp) ?_
 have hx:m.p[i]? =some m.p[i]:=Wj hi
 have e1:(i:Int)<m.p.length:=by omega
 generalize m.p[i]=s at hx
 unfold OF
 simp only [aI,aR,WB,Xl,XZ,ah,bh,aL,ae,ag,aw,ZD,aA,aB,aX,bc,aV,aT,aJ,aM,aP,ba,aU,aE,Wt,VV,Xt,aD,aH,eS,eT,eL,aZ,eF,aC,ak,if_pos e1,if_pos (WN i)]
 refine ai rfl (sH (dS m.t s (by have:=hm.S.len;omega))) (by simp [hx,eT,eS,aZ,eL,eF,Fu.e,Si.e]) (by simp) (by simp) (by simp) ?_
 simp only [aI,aR,WB,Xl,XZ,ah,bh,aL,ae,ag,aw,ZD,aA,aB,aX,bc,aV,aT,aJ,aM,aP,ba,aU,aE,Wt,VV,Xt,aD,aH,eS,eT,eL,aZ,eF,aC,ak,hx]
 cases hc:(cls m.t s).isSome
 ·simp only [ZN,Zy,a9,aQ];exact no 6 (by omega)
 simp only [ZN,Zy,a9,aQ]
 have hty:typed m.t s=true:=by simp [typed,hc]
 have h1:=ql m.t s [105,110,105,116] hm.S
 cases hc:methodOf m.t s [105,110,105,116] with
 |none=>
  rw [hc] at h1
  refine ai rfl (sH h1) (by simp [hx,eT,eS,aZ,eL,eF,Fu.e,Si.e]) (by simp) (by simp) (by simp) ?_
  refine ai rfl (sH (vR [] (by simp))) (by simp) (by simp) (by simp) (by simp) ?_
  exact yes [] s (by simp) (.inr hty) (by simp [eL,eS,hx,eT,aZ,eF,Fu.e,Si.e])
 |some mo=>
  obtain ⟨mm,ow⟩:=mo
  rw [hc] at h1
  obtain ⟨ht,hl⟩:=wg hm.T hc
  refine ai rfl (sH h1) (by simp [hx,eT,eS,aZ,eL,eF,Fu.e,Si.e]) (by simp [Sg.e]) (by simp [Sg.e]) (by simp [Sg.e]) ?_
  refine ai rfl (sH (vR mm.p (by omega))) (by simp [Sg.e]) (by simp) (by simp [Sg.e]) (by simp [Sg.e]) ?_
  exact yes (mm.p.map (·.t)) s (by simp;omega) (.inr hty) (by simp [Sg.e,eL,eS,hx,eT,aZ,eF,Fu.e,Si.e])
theorem Q5 (f:Nat) (hf:f<m.f.length) (o a b c:Int): ∃r,jG m.t r∧we 97 [dk m f,xs o a b c] r:=by
 refine qp (l:=en m f o a b c) S7 (by simp [Mo.e,eT,aZ,eL,eF]) (by simp) ?_
 have hx:m.f[f]? =some m.f[f]:=Wj hf
 have e1:(f:Int)<m.f.length:=by omega
 generalize m.f[f]=g at hx
 unfold OH
 simp only [aI,aR,WB,Xl,XZ,ah,bh,aL,ae,ag,aw,ZD,aA,aB,aX,bc,aV,aT,aJ,aM,aP,ba,aU,aE,Wt,VV,Xt,aD,aH,eS,eT,eL,aZ,eF,aC,ak,if_pos e1,if_pos (WN f),hx,Fu.e]
 by_cases h:g.c=[]
 ·rw [if_pos h];exact yes [[42]] [] (by simp) (.inl rfl) (by simp [eL,eS,eT,aZ,eF,Fu.e,Si.e])
 rw [if_neg h]
 have h1:=ql m.t g.c g.n hm.S
 cases hc:methodOf m.t g.c g.n with
 |none=>
  rw [hc] at h1
  refine ai rfl (sH h1) (by simp [hx,eT,Fu.e,aZ,eL,eF,eS,Si.e]) (by simp) (by simp) (by simp) ?_
  exact yes [[]] [] (by simp) (.inl rfl) (by simp [eL,eS,eT,aZ,eF,Fu.e,Si.e])
 |some mo=>
  obtain ⟨mm,ow⟩:=mo
  rw [hc] at h1
  refine ai rfl (sH h1) (by simp [hx,eT,Fu.e,aZ,eL,eF,eS,Si.e]) (by simp [Sg.e]) (by simp [Sg.e]) (by simp [Sg.e]) ?_
  exact yes [mm.r] [] (by simp) (.inl rfl) (by simp [eL,eS,Sg.e,eT,aZ,eF,Fu.e,Si.e])
end
end
section
open Go
def KX:Bool→lP→List DV→DV→Prop
 |true=>KU
 |false=>fun f=>PL Tryz.prog bs f.1 f.2
theorem KU.x {u:Bool} {f:lP} {ds:List DV} {r:DV} (h:KU f ds r):KX u f ds r:=match u with
 |true=>h
 |false=>h ds (.inl rfl)
def Q6 (u:Bool) (fids:List lP):List (List DV→DV→Prop):=fids.map (KX u)
abbrev WX (u:Bool) (fids:List lP):=Wp bs (Q6 u fids) (MZ Tryz.prog bs [])
theorem U3 {u:Bool} {fids:List lP} {f:FuncId} {args:List AV} {t:PT} {l:List D} {ds:List DV} {R:DV→Prop} (hc:bt Tryz.prog bs 100000 f args fids [] t l.length=true) (ha: @bI (bf l bs) args=some ds) (hta: @eW (bf l bs) args)
 (hw:WX u fids t l fun o=>∃r,o= .ret r∧R r) (hm:tf args=true:=by kernel_rfl) (hp:nP t=true:=by kernel_rfl) (hF: ∃F,l[3]? =some (eF F):=by exact ⟨_,rfl⟩): ∃r,R r∧KX u (f,none) ds r:=match u,hw with
 |true,hw=>qp hc ha hta hw hm hp hF
 |false,hw=>xU (lds:=[]) hc ha hta hw
theorem FP {f:FuncId} {m:Mo} {rest:List D} {tl:List DV} {r:DV} (h: ∀F1,FU m.f F1→Ok f (.agg (({m with f:=F1}:Mo).e++rest)::tl) r):we f (.agg (m.e++rest)::tl) r:=by
 rintro ds1 (rfl |⟨A,B,C,F,F1,R,T,h1,h2,rfl⟩)
 ·exact h m.f (FU.refl _)
 ·simp only [Mo.e,WB,Xl,XV,DV.agg.injEq] at h2
  obtain ⟨⟨rfl,rfl,rfl,hFF,rfl⟩,rfl⟩:=h2
  have:m.f=F:=by
   unfold eF at hFF
   injection hFF with hFF
   exact (ZR fun _ _=>Li).1 hFF
  subst this
  exact h F1 h1
def canon (n:Int):Int:=if FloatKind.f64.format.order n.toNat n.toNat != some .eq then 9221120237041090560 else n
theorem Q7 (n:Int):Ok 98 [.c (.int .u64 n)] (.c (.int .u64 (canon n))):=by
 refine lL (l:=[.int .u64 n]) S8 (by simp) (by simp) ?_
 unfold OI canon
 simp only [ah,bh,aL,ae,ag]
 have e:cw .Cw [.int .u64 n]= .bool (FloatKind.f64.format.order n.toNat n.toNat != some .eq):=rfl
 rw [e]
 cases FloatKind.f64.format.order n.toNat n.toNat != some .eq
 ·rw [aQ];simp
 ·rw [a9];simp
theorem Hs:gS.length=9:=rfl
section
variable {m:Mo} (hm:Ep m)
include hm
omit hm in
theorem Ll (c:Nat) (hc1:1≤c) (hc:c≤8) (T S P F f o a b:D) (n:Nat) (hn:n≤c):Is vt [eL (Wx (n+1) [63]),.int .i64 (c:Int),.int .i64 (n:Int),T,S,P,F,f,o,a,b] 0 [eL (Wx (c+1) [63]),o,a,b,.int .i64 (c:Int),T,S,P,F,f]:=by
 obtain ⟨i,os,⟨rfl,rfl⟩,h⟩:=LY (enc:=fun n:Nat=>[eL (Wx (n+1) [63]),.int .i64 (c:Int),.int .i64 (n:Int),T,S,P,F,f,o,a,b]) (I:=fun n=>n≤c) (μ:=fun n=>c - n)
  (Q:=fun _ i os=>i=0∧os=[eL (Wx (c+1) [63]),o,a,b,.int .i64 (c:Int),T,S,P,F,f]) D3 (fun n hn=>⟨rfl,by
   unfold vu
   simp only [aI,aR,WB,Xl,XZ,ah,bh,aL,ae,ag,aw,ZD,aA,aB,aX,bc,aV,aT,aJ,aM,aP,ba,aU,aE,Wt,VV,Xt,aD,aH,eS,eT,eL,aZ,eF,aC,ak,ZP]
   by_cases h:(n:Int)<c
   ·have e:(((n+1:Nat)):Int)≤100000000:=by omega
    have w:=bj (show n<c by omega) (by omega)
    rw [if_pos h,if_pos e]
    exact aq (.next [eL (Wx (n+1+1) [63]),.int .i64 (c:Int),.int .i64 ((n+1:Nat):Int),T,S,P,F,f,o,a,b]) (by simp [eL,eS,w,List.replicate_succ']) (.inr ⟨n+1,rfl,by omega,by omega,fun i os h=>h⟩)
   ·rw [if_neg h]
    have:n=c:=by omega
    subst this
    exact aq (.exit 0 [eL (Wx (n+1) [63]),o,a,b,.int .i64 (n:Int),T,S,P,F,f]) (by simp [eL,eS]) (.inl ⟨_,_,rfl,rfl,rfl⟩)⟩) n hn
 exact h
def kn (pops:List bn) (push:bn) (e:Int):DV:=.jO [.agg [eL pops,.str push],.c (.int .i64 e)]
def f9 (w:Bool) (kd o:Int) (k:Nat):DV:=
 if w then (if o=24 then (if kd=3 then kn [[63],[63]] [117,110,105,116] 0 else kn [] [] 7) else if o=25 then (if kd=4 then kn (Wx (k+1) [63]) [63] 0 else kn [] [] 7) else (if kd=2 then kn [[63]] [63] 0 else kn [] [] 7)) else kn [] [] 6
omit hm in
theorem ND (w:Bool) (kd o:Int) (k:Nat) (hk:k≤8):jG m.t (f9 w kd o k):=by
 have b: ∀e:Int,e≠0→jG m.t (kn [] [] e):=fun e he=>nj _ _ _ (by simp) (fun h=>absurd h he)
 unfold f9
 repeat' split
 ·exact nj _ _ _ (by simp) (fun _=>.inr (cY (by simp [fQ])))
 ·exact b 7 (by omega)
 ·exact nj _ _ _ (by simp;omega) (fun _=>.inr zU)
 ·exact b 7 (by omega)
 ·exact nj _ _ _ (by simp) (fun _=>.inr zU)
 ·exact b 7 (by omega)
 ·exact b 6 (by omega)
omit hm in
theorem Q8 (hsl:m.s.length≤9223372036854775807) (f:Nat) (o:Int) (i j k:Nat) (hi:i<m.p.length) (hj0:1≤j) (hj:j≤m.s.length) (hk:k≤8):Ok 96 [dk m f,xs o i j k] (f9 (nC (m.p[i]?.getD [])) ((m.s[j - 1]?.map Si.w).getD 0) o k):=by
 refine lL (l:=en m f o i j k) S6 (by simp [Mo.e,eT,aZ,eL,eF]) (by simp) ?_
 obtain ⟨q,rfl⟩: ∃q,j=q+1:=⟨j - 1,by omega⟩
 have w1:IntKind.i64.wrap (((q+1:Nat):Int) - 1)=q:=by rw [WJ _ (by omega)];omega
 have e1:(q:Int)<m.s.length:=by omega
 have hx:m.s[q]? =some (m.s[q]'(by omega)):=Wj _
 generalize (m.s[q]'(by omega))=g at hx
 have e2:(i:Int)<m.p.length:=by omega
 have hy:m.p[i]? =some m.p[i]:=Wj hi
 generalize m.p[i]=s at hy
 have hN:=zy s
 have ez:f9 (nC (m.p[i]?.getD [])) ((m.s[q+1 - 1]?.map Si.w).getD 0) o k=f9 (nC s) g.w o k:=by rw [hy,Nat.add_sub_cancel,hx];rfl
 rw [ez]
 generalize nC s=w at hN
 unfold OG
 simp only [aI,aR,WB,Xl,XZ,ah,bh,aL,ae,ag,aw,ZD,aA,aB,aX,bc,aV,aT,aJ,aM,aP,ba,aU,aE,Wt,VV,Xt,aD,aH,eS,eT,eL,aZ,eF,aC,ak,if_pos e2,if_pos (WN _)]
 refine az (fun h24=>?_) (fun h24=>az (fun h25=>az (fun hk0=>?_) (fun hk0=>?_)) (fun h25=>?_))
 ·refine ai rfl hN (by simp [hy,eT,aZ,eL,eF,eS]) (by simp) (by simp) (by simp) ?_
  simp only [aI,aR,WB,Xl,XZ,ah,bh,aL,ae,ag,aw,ZD,aA,aB,aX,bc,aV,aT,aJ,aM,aP,ba,aU,aE,Wt,VV,Xt,aD,aH,eS,eT,eL,aZ,eF,aC,ak,w1,if_pos e1,if_pos (WN _),hx,Si.e]
  cases w
  ·simp only [ZN,Zy,a9,aQ];simp [f9,kn,eL]
  simp only [ZN,Zy,a9,aQ]
  refine az (fun hkd=>?_) (fun hkd=>by simp [f9,kn,eL,hkd, *])
  simp [f9,kn,eL,eS,hkd, *]
 ·refine ar rfl (Ll k (by omega) (by omega) (eT m.t) (aZ m.s) (eL m.p) (eF m.f) (.int .i64 (f:Int)) (.int .i64 o) (.int .i64 (i:Int)) (.int .i64 ((q+1:Nat):Int)) 1 (by omega)) (by simp [eT,aZ,eL,eF,eS,Wx]) ?_
  simp only [al,V8,ZL,true_and,aI,aR,WB,Xl,XZ,ah,bh,aL,ae,ag,aw,ZD,aA,aB,aX,bc,aV,aT,aJ,aM,aP,ba,aU,aE,Wt,VV,Xt,aD,aH,eS,eT,eL,aZ,eF,aC,ak,if_pos e2,if_pos (WN _)]
  refine ai rfl hN (by simp [hy,eT,aZ,eL,eF,eS]) (by simp) (by simp) (by simp) ?_
  simp only [aI,aR,WB,Xl,XZ,ah,bh,aL,ae,ag,aw,ZD,aA,aB,aX,bc,aV,aT,aJ,aM,aP,ba,aU,aE,Wt,VV,Xt,aD,aH,eS,eT,eL,aZ,eF,aC,ak,w1,if_pos e1,if_pos (WN _),hx,Si.e]
  cases w
  ·simp only [ZN,Zy,a9,aQ];simp [f9,kn,eL]
  simp only [ZN,Zy,a9,aQ]
  refine az (fun hkd=>?_) (fun hkd=>by simp [f9,kn,eL,hkd, *])
  simp [f9,kn,eL,eS,hkd, *]
 ·refine ai rfl hN (by simp [hy,eT,aZ,eL,eF,eS]) (by simp) (by simp) (by simp) ?_
  simp only [aI,aR,WB,Xl,XZ,ah,bh,aL,ae,ag,aw,ZD,aA,aB,aX,bc,aV,aT,aJ,aM,aP,ba,aU,aE,Wt,VV,Xt,aD,aH,eS,eT,eL,aZ,eF,aC,ak,w1,if_pos e1,if_pos (WN _),hx,Si.e]
  cases w
  ·simp only [ZN,Zy,a9,aQ];simp [f9,kn,eL]
  simp only [ZN,Zy,a9,aQ]
  refine az (fun hkd=>?_) (fun hkd=>by simp [f9,kn,eL,hkd, *])
  obtain rfl:k=0:=by omega
  simp [f9,kn,eL,eS,hkd, *]
 ·refine ai rfl hN (by simp [hy,eT,aZ,eL,eF,eS]) (by simp) (by simp) (by simp) ?_
  simp only [aI,aR,WB,Xl,XZ,ah,bh,aL,ae,ag,aw,ZD,aA,aB,aX,bc,aV,aT,aJ,aM,aP,ba,aU,aE,Wt,VV,Xt,aD,aH,eS,eT,eL,aZ,eF,aC,ak,w1,if_pos e1,if_pos (WN _),hx,Si.e]
  cases w
  ·simp only [ZN,Zy,a9,aQ];simp [f9,kn,eL]
  simp only [ZN,Zy,a9,aQ]
  refine az (fun hkd=>?_) (fun hkd=>by simp [f9,kn,eL,hkd, *])
  simp [f9,kn,eL,eS,hkd, *]
theorem Et (f:Nat) (o:Int) (i j k:Nat) (hi:i<m.p.length) (hj0:1≤j) (hj:j≤m.s.length) (hk:k≤8): ∃r,jG m.t r∧we 96 [dk m f,xs o i j k] r:=
 ⟨f9 (nC (m.p[i]?.getD [])) ((m.s[j - 1]?.map Si.w).getD 0) o k,ND _ _ _ _ hk,FP fun F1 _=>Q8 (m:={m with f:=F1}) (Nat.le_trans hm.sl (by omega)) f o i j k hi hj0 hj hk⟩
def Vl (m:Mo) (g:Fu) (k v:Int):Prop:=(k=4→0≤v∧v<m.p.length)∧(k=5→0≤v∧v<g.l.length)∧(k=6→0≤v∧v<g.k.length)∧(k=7→0≤v∧v<9)∧(k=8→0≤v∧v<9)∧(k=10→0≤v∧v<2)∧(k=11→0≤v∧v<3)∧(k=12→1≤v∧v≤m.s.length)∧(k=13→0≤v∧v<9)
def nk (P S L K:Nat) (k v:Int):Bool:=
 if k=0 then true else if k=1 then true else if k=9 then true else if k=2 then decide (canon (IntKind.u64.wrap v)=IntKind.u64.wrap v) else if k=12 then decide (1≤v∧v≤S) else if k=8 then decide (2≤v∧v<9) else if k=3 then decide (0≤v∧v<2) else if k=10 then decide (0≤v∧v<2) else if k=11 then decide (0≤v∧v<3) else if k=13 then decide (0≤v∧v<9) else if k=7 then decide (0≤v∧v<9) else if k=4 then decide (0≤v∧v<P) else if k=5 then decide (0≤v∧v<L) else if k=6 then decide (0≤v∧v<K) else false
omit hm in
theorem TM {g:Fu} {k v:Int} (h:nk m.p.length m.s.length g.l.length g.k.length k v=true):Vl m g k v:=by
 refine ⟨?_,?_,?_,?_,?_,?_,?_,?_,?_⟩<;>(rintro rfl;simp [nk] at h;omega)
omit hm in
theorem TN {P S L K K':Nat} {k v:Int} (hK:K≤K') (h:k=6→0≤v∧v<K):nk P S L K' k v=nk P S L K k v:=by
 unfold nk
 by_cases h6:k=6
 ·obtain ⟨h1,h2⟩:=h h6
  have h3:v<K':=by omega
  simp [h6,h1,h2,h3]
 ·simp only [if_neg h6]
omit hm in
theorem Lm (f:Nat) (g:Fu) (hx:m.f[f]? =some g) (k v:Int):Ok 58 [dk m f,.c (.int .i64 k),.c (.int .i64 v)] (.c (.bool (nk m.p.length m.s.length g.l.length g.k.length k v))):=by
 have hf:=(List.getElem?_eq_some_iff.1 hx).1
 refine lL (l:=[eT m.t,aZ m.s,eL m.p,eF m.f,.int .i64 (f:Int),.int .i64 k,.int .i64 v]) SJ (by simp [Mo.e,eT,aZ,eL,eF]) (by simp) ?_
 have e1:(f:Int)<m.f.length:=by omega
 have go: ∀{p:PT} {l:List D} (b:Bool),nk m.p.length m.s.length g.l.length g.k.length k v=b→W [(98,none),(99,none)] [] p l (fun o=>o= .ret (.c (.bool b)))→W [(98,none),(99,none)] [] p l fun o=>o= .ret (.c (.bool (nk m.p.length m.s.length g.l.length g.k.length k v))):=
  fun b h1 h=>by rw [h1];exact h
 unfold Ol
 simp only [aI,aR,WB,Xl,XZ,ah,bh,aL,ae,ag,aw,ZD,aA,aB,aX,bc,aV,aT,aJ,aM,aP,ba,aU,aE,Wt,VV,Xt,aD,aH,eS,eT,eL,aZ,eF,aC,ak]
 have sl:=Hs
 by_cases h0:k=0
 ·rw [if_pos h0];exact go (true) (by simp [nk,h0]) (by simp)
 rw [if_neg h0]
 by_cases h1:k=1
 ·rw [if_pos h1];exact go (true) (by simp [nk,h0,h1]) (by simp)
 rw [if_neg h1]
 by_cases h9:k=9
 ·rw [if_pos h9];exact go (true) (by simp [nk,h0,h1,h9]) (by simp)
 rw [if_neg h9]
 by_cases h2:k=2
 ·rw [if_pos h2]
  refine ai rfl (Q7 (IntKind.u64.wrap v)) (by simp) (by simp) (by simp) (by simp) ?_
  exact go (decide (canon (IntKind.u64.wrap v)=IntKind.u64.wrap v)) (by simp [nk,h0,h1,h9,h2]) (by simp)
 rw [if_neg h2]
 by_cases h12:k=12
 ·rw [if_pos h12]
  by_cases hv:1≤v
  ·rw [if_pos hv]
   exact go (decide (v≤m.s.length)) (by simp [nk,h0,h1,h9,h2,h12,hv]) (by simp)
  ·rw [if_neg hv];exact go false (by simp [nk,h0,h1,h9,h2,h12,hv]) (by simp)
 rw [if_neg h12]
 by_cases h8:k=8
 ·rw [if_pos h8]
  by_cases hv:2≤v
  ·rw [if_pos hv]
   refine ai rfl zW (by simp) (by simp) (by simp) (by simp) ?_
   exact go (decide (v<9)) (by simp [nk,h0,h1,h9,h2,h12,h8,hv]) (by simp [eL,sl])
  ·rw [if_neg hv];exact go false (by simp [nk,h0,h1,h9,h2,h12,h8,hv]) (by simp)
 rw [if_neg h8]
 by_cases h3:k=3
 ·rw [if_pos h3]
  by_cases hv:0≤v
  ·rw [if_pos hv]
   exact go (decide (v<2)) (by simp [nk,h0,h1,h9,h2,h12,h8,h3,hv]) (by simp)
  ·rw [if_neg hv];exact go false (by simp [nk,h0,h1,h9,h2,h12,h8,h3,hv]) (by simp)
 rw [if_neg h3]
 by_cases h10:k=10
 ·rw [if_pos h10]
  by_cases hv:0≤v
  ·rw [if_pos hv]
   exact go (decide (v<2)) (by simp [nk,h0,h1,h9,h2,h12,h8,h3,h10,hv]) (by simp)
  ·rw [if_neg hv];exact go false (by simp [nk,h0,h1,h9,h2,h12,h8,h3,h10,hv]) (by simp)
 rw [if_neg h10]
 by_cases h11:k=11
 ·rw [if_pos h11]
  by_cases hv:0≤v
  ·rw [if_pos hv]
   exact go (decide (v<3)) (by simp [nk,h0,h1,h9,h2,h12,h8,h3,h10,h11,hv]) (by simp)
  ·rw [if_neg hv];exact go false (by simp [nk,h0,h1,h9,h2,h12,h8,h3,h10,h11,hv]) (by simp)
 rw [if_neg h11]
 by_cases h13:k=13
 ·rw [if_pos h13]
  by_cases hv:0≤v
  ·rw [if_pos hv]
   exact go (decide (v<9)) (by simp [nk,h0,h1,h9,h2,h12,h8,h3,h10,h11,h13,hv]) (by simp)
  ·rw [if_neg hv];exact go false (by simp [nk,h0,h1,h9,h2,h12,h8,h3,h10,h11,h13,hv]) (by simp)
 rw [if_neg h13]
 by_cases h7:k=7
 ·rw [if_pos h7]
  refine ai rfl zW (by simp) (by simp) (by simp) (by simp) ?_
  simp only [aI,aR,WB,Xl,XZ,ah,bh,aL,ae,ag,aw,ZD,aA,aB,aX,bc,aV,aT,aJ,aM,aP,ba,aU,aE,Wt,VV,Xt,aD,aH,eS,eT,eL,aZ,eF,aC,ak]
  by_cases hv:0≤v
  ·rw [if_pos hv]
   exact go (decide (v<9)) (by simp [nk,h0,h1,h9,h2,h12,h8,h3,h10,h11,h13,h7,hv]) (by simp [eL,sl])
  ·rw [if_neg hv];exact go false (by simp [nk,h0,h1,h9,h2,h12,h8,h3,h10,h11,h13,h7,hv]) (by simp)
 rw [if_neg h7]
 by_cases h4:k=4
 ·rw [if_pos h4]
  by_cases hv:0≤v
  ·rw [if_pos hv]
   exact go (decide (v<m.p.length)) (by simp [nk,h0,h1,h9,h2,h12,h8,h3,h10,h11,h13,h7,h4,hv]) (by simp)
  ·rw [if_neg hv];exact go false (by simp [nk,h0,h1,h9,h2,h12,h8,h3,h10,h11,h13,h7,h4,hv]) (by simp)
 rw [if_neg h4]
 by_cases h5:k=5
 ·rw [if_pos h5,if_pos (WN f),if_pos e1]
  by_cases hv:0≤v
  ·rw [if_pos hv]
   exact go (decide (v<g.l.length)) (by simp [nk,h0,h1,h9,h2,h12,h8,h3,h10,h11,h13,h7,h4,h5,hv]) (by simp [hx,Fu.e])
  ·rw [if_neg hv];exact go false (by simp [nk,h0,h1,h9,h2,h12,h8,h3,h10,h11,h13,h7,h4,h5,hv]) (by simp)
 rw [if_neg h5]
 by_cases h6:k=6
 ·rw [if_pos h6,if_pos (WN f),if_pos e1]
  by_cases hv:0≤v
  ·rw [if_pos hv]
   exact go (decide (v<g.k.length)) (by simp [nk,h0,h1,h9,h2,h12,h8,h3,h10,h11,h13,h7,h4,h5,h6,hv]) (by simp [hx,Fu.e])
  ·rw [if_neg hv];exact go false (by simp [nk,h0,h1,h9,h2,h12,h8,h3,h10,h11,h13,h7,h4,h5,h6,hv]) (by simp)
 rw [if_neg h6]
 by_cases hv:0≤v
 ·rw [if_pos hv];exact go (decide (v<0)) (by simp [nk,h0,h1,h9,h2,h12,h8,h3,h10,h11,h13,h7,h4,h5,h6];omega) (by simp)
 ·rw [if_neg hv];exact go false (by simp [nk,h0,h1,h9,h2,h12,h8,h3,h10,h11,h13,h7,h4,h5,h6]) (by simp)
omit hm in
theorem bp (f:Nat) (hf:f<m.f.length) (g:Fu) (hg:m.f[f]=g) (u:Bool) (k v:Int) (h6:u=true→k=6→0≤v∧v<g.k.length): ∃w:Bool,(w=true→Vl m g k v)∧KX u (58,none) [dk m f,.c (.int .i64 k),.c (.int .i64 v)] (.c (.bool w)):=by
 have hx:m.f[f]? =some g:=by rw [←hg];exact Wj hf
 refine ⟨_,TM,?_⟩
 cases u with
 |false=>exact Lm f g hx k v
 |true=>
  refine FP fun F1 hF=>?_
  obtain ⟨k1,h1,h2⟩:=hF.2 f g hx
  have h:=Lm (m:={m with f:=F1}) f {g with k:=k1} h1 k v
  rw [←TN h2 (h6 rfl)]
  exact h
end
end
end Go.Proofs.Sai
