/- Part IF of the proof of VerifyDead: texts of the interpreter and what it shows, under short names. No condition. -/
import Derived.Test.YtgfhbomiljhjpaaGreatDoorIE
set_option linter.unusedVariables false
set_option linter.unusedSimpArgs false
set_option linter.unusedSectionVars false
open Array renaming getD_eq_getD_getElem?→We,replicate→YX,getElem?_eq_getElem→Wo
open Bool renaming and_eq_true→V1,or_eq_false_iff→XW
open Go.Oper renaming semAt_eq→Zq
open Go.Region renaming wanted→YP,ready→Zd
open Go.Region.linearise renaming go→Zf
open List renaming not_mem_nil→VS,mem_cons_of_mem→V3,mem_cons_self→V2,getElem?_cons_succ→X7,mem_of_getElem?→Zm,getElem?_eq_getElem→Wj,getElem?_append_left→VJ,getElem?_append_right→VL
open Nat renaming beq→Vo,blt→VE,blt_eq→Y2,ble→Vv,le_of_ble_eq_true→VQ,eq_of_beq_eq_true→VN,zero_add→Yq,lt_of_lt_of_le→VX,le_refl→VY,ne_of_lt→Zn,le_of_lt→Y9,le_trans→VZ,zero_le→Xz,lt_irrefl→Zp,lt_or_ge→VI,le_antisymm→Zr,sub_self→Zs
open Ne renaming symm→Zo
open Option.some renaming inj→VF
namespace Go.Proofs.Sai
section
open Go Go.RowKit
variable [Env]
section
variable {P:Program}
theorem pQ {b:List Nat} {cl:List (Nat×Nat)} {hs:List (Nat×Tr aY)}: ∀{l:List gw},cR P b cl hs l=true→∀t∈l,t.w=true→
 (bJ P t.o.op=0→gG P b cl t.i t.o t.a t.s t.v hs=true)∧(bJ P t.o.op=1→nK P b cl t.i t.o t.a t.s hs=true)
 |[],_,t,ht,_=>absurd ht VS
 |x::l,h,t,ht,hw=>by
  replace h:au x.w (au (Vo (bJ P x.o.op) 0) (au (gG P b cl x.i x.o x.a x.s x.v hs) (cR P b cl hs l) false) (au (Vo (bJ P x.o.op) 1) (au (nK P b cl x.i x.o x.a x.s hs) (cR P b cl hs l) false) (cR P b cl hs l))) (cR P b cl hs l)=true:=h
  have hrest:cR P b cl hs l=true:=by
   cases hxw:x.w with
   |false=>rw [hxw] at h;exact h
   |true=>
    rw [hxw] at h
    replace h:au (Vo (bJ P x.o.op) 0) (au (gG P b cl x.i x.o x.a x.s x.v hs) (cR P b cl hs l) false) (au (Vo (bJ P x.o.op) 1) (au (nK P b cl x.i x.o x.a x.s hs) (cR P b cl hs l) false) (cR P b cl hs l))=true:=h
    cases h0:Vo (bJ P x.o.op) 0 with
    |true=>rw [h0] at h;exact (bB h).2
    |false=>
     rw [h0] at h
     replace h:au (Vo (bJ P x.o.op) 1) (au (nK P b cl x.i x.o x.a x.s hs) (cR P b cl hs l) false) (cR P b cl hs l)=true:=h
     cases h1:Vo (bJ P x.o.op) 1 with
     |true=>rw [h1] at h;exact (bB h).2
     |false=>rw [h1] at h;exact h
  cases ht with
  |tail _ ht=>exact pQ hrest t ht hw
  |head=>
   rw [hw] at h
   replace h:au (Vo (bJ P x.o.op) 0) (au (gG P b cl x.i x.o x.a x.s x.v hs) (cR P b cl hs l) false) (au (Vo (bJ P x.o.op) 1) (au (nK P b cl x.i x.o x.a x.s hs) (cR P b cl hs l) false) (cR P b cl hs l))=true:=h
   refine ⟨fun hc=>?_,fun hc=>?_⟩
   ·rw [hc] at h;exact (bB h).1
   ·rw [hc] at h;exact (bB h).1
theorem jC {b:List Nat} {cl:List (Nat×Nat)} {i:Nat} {o:Oper} {a:aN} {s:St} {v:AV}: ∀{hs:List (Nat×Tr aY)},gG P b cl i o a s v hs=true→∀h∈hs,ia b i h.1 cl=true→jx b i h.1 cl=true∧jM P o a s v h.2=true
 |x::hs,hc,h,hm,hb=>by
  replace hc:au (ia b i x.1 cl) (au (jx b i x.1 cl) (au (jM P o a s v x.2) (gG P b cl i o a s v hs) false) false) (gG P b cl i o a s v hs)=true:=hc
  cases hm with
  |head=>
   rw [hb] at hc
   obtain ⟨h1,h2⟩:=bB (b:=jx b i x.1 cl) hc
   exact ⟨h1,(bB h2).1⟩
  |tail _ hm=>
   cases hq:ia b i x.1 cl with
   |true=>
    rw [hq] at hc
    obtain ⟨h1,h2⟩:=bB (b:=jx b i x.1 cl) hc
    exact jC (bB h2).2 h hm hb
   |false=>rw [hq] at hc;exact jC hc h hm hb
theorem sc {b:List Nat} {cl:List (Nat×Nat)} {i:Nat} {n:Pos} {s:St}: ∀{hs:List (Nat×Tr aY)},iL b cl i n s hs=true→∀h∈hs,i<h.1→ia b i h.1 cl=true→calm i h.1 cl=true∨F7 (s.h.get n) (h.2.get n)=true
 |x::hs,hc,h,hm,hlt,hb=>by
  replace hc:au (VE i x.1) (au (ia b i x.1 cl) (au (au (calm i x.1 cl) true (F7 (s.h.get n) (x.2.get n))) (iL b cl i n s hs) false) (iL b cl i n s hs)) (iL b cl i n s hs)=true:=hc
  have hrest:iL b cl i n s hs=true:=by
   cases h1:VE i x.1 with
   |false=>rw [h1] at hc;exact hc
   |true=>
    rw [h1] at hc
    replace hc:au (ia b i x.1 cl) (au (au (calm i x.1 cl) true (F7 (s.h.get n) (x.2.get n))) (iL b cl i n s hs) false) (iL b cl i n s hs)=true:=hc
    cases h2:ia b i x.1 cl with
    |false=>rw [h2] at hc;exact hc
    |true=>rw [h2] at hc;exact (bB hc).2
  cases hm with
  |tail _ hm=>exact sc hrest h hm hlt hb
  |head=>
   have h1:VE i x.1=true:=by simpa [Y2] using hlt
   rw [h1] at hc
   replace hc:au (ia b i x.1 cl) (au (au (calm i x.1 cl) true (F7 (s.h.get n) (x.2.get n))) (iL b cl i n s hs) false) (iL b cl i n s hs)=true:=hc
   rw [hb] at hc
   have h2:=(bB hc).1
   cases h3:calm i x.1 cl with
   |true=>exact .inl rfl
   |false=>rw [h3] at h2;exact .inr h2
theorem xu {i h:Nat}: ∀{l:List (Nat×Nat)},calm i h l=true→∀x∈l,x.2=2→i<x.1→h≤x.1
 |[],_,x,hx,_,_=>absurd hx VS
 |y::l,hl,x,hx,hc,hi=>by
  replace hl:au (Vo y.2 2) (au (au (VE i y.1) (Vv h y.1) true) (calm i h l) false) (calm i h l)=true:=hl
  have hrest:calm i h l=true:=by
   cases h1:Vo y.2 2 with
   |false=>rw [h1] at hl;exact hl
   |true=>rw [h1] at hl;exact (bB hl).2
  cases hx with
  |tail _ hx=>exact xu hrest x hx hc hi
  |head=>
   rw [hc] at hl
   have h2:=(bB (show au (au (VE i y.1) (Vv h y.1) true) (calm i h l) false=true from hl)).1
   rw [show VE i y.1=true by simpa [Y2] using hi] at h2
   exact VQ h2
theorem Bw {b:List Nat} {i h:Nat}: ∀{l:List (Nat×Nat)},(∀x∈l,x.2=2→(bit b i x.1=true→x.1<h)∧(bit b x.1 i=true→h≤x.1))→ia b i h l=true
 |[],_=>rfl
 |x::l,hl=>by
  show au (Vo x.2 2) (au (au (bit b i x.1) (VE x.1 h) true) (au (au (bit b x.1 i) (Vv h x.1) true) (ia b i h l) false) false) (ia b i h l)=true
  have ih:=Bw (b:=b) (i:=i) (h:=h) (l:=l) fun y hy=>hl y (V3 _ hy)
  cases hc:Vo x.2 2 with
  |false=>exact ih
  |true=>
   obtain ⟨h1,h2⟩:=hl x (V2 ..) (VN hc)
   have e1:au (bit b i x.1) (VE x.1 h) true=true:=by
    cases hb:bit b i x.1 with
    |false=>rfl
    |true=>show VE x.1 h=true;simpa [Y2] using h1 hb
   have e2:au (bit b x.1 i) (Vv h x.1) true=true:=by
    cases hb:bit b x.1 i with
    |false=>rfl
    |true=>exact Nat.ble_eq_true_of_le (h2 hb)
   show au (au (bit b i x.1) (VE x.1 h) true) (au (au (bit b x.1 i) (Vv h x.1) true) (ia b i h l) false) false=true
   rw [e1]
   show au (au (bit b x.1 i) (Vv h x.1) true) (ia b i h l) false=true
   rw [e2]
   exact ih
theorem sd {b:List Nat} {i h:Nat}: ∀{l:List (Nat×Nat)},jx b i h l=true→∀x∈l,x.2=1→bit b i x.1=true→x.1<h
 |[],_,x,hx,_,_=>absurd hx VS
 |y::l,hl,x,hx,hc,hb=>by
  replace hl:au (Vo y.2 1) (au (au (bit b i y.1) (VE y.1 h) true) (jx b i h l) false) (jx b i h l)=true:=hl
  have hrest:jx b i h l=true:=by
   cases h1:Vo y.2 1 with
   |false=>rw [h1] at hl;exact hl
   |true=>rw [h1] at hl;exact (bB hl).2
  cases hx with
  |tail _ hx=>exact sd hrest x hx hc hb
  |head=>
   rw [hc] at hl
   have h2:=(bB (show au (au (bit b i y.1) (VE y.1 h) true) (jx b i h l) false=true from hl)).1
   rw [hb] at h2
   simpa [Y2] using h2
theorem uG: ∀(l:List Oper) (i k:Nat),(qL P l i)[k]? =(l[k]?).map fun o=>(i+k,bJ P o.op)
 |[],i,k=>by simp [qL]
 |o::l,i,k=>by
  have e:qL P (o::l) i=(i,bJ P o.op)::qL P l (Nat.succ i):=rfl
  rw [e]
  cases k with
  |zero=>rfl
  |succ k=>
   rw [X7,X7,uG l (Nat.succ i) k]
   rw [show Nat.succ i+k=i+(k+1) by omega]
theorem Bx {l:List Oper} {k:Nat} {o:Oper} (h:l[k]? =some o):(k,bJ P o.op)∈qL P l 0:=by
 refine Zm (i:=k) ?_
 rw [uG,h,Yq]
 rfl
theorem MI {l:List Oper} {x:Nat×Nat} (h:x∈qL P l 0): ∃o,l[x.1]? =some o∧x.2=bJ P o.op:=by
 obtain ⟨k,hk⟩:=List.mem_iff_getElem?.1 h
 rw [uG] at hk
 obtain ⟨o,ho,rfl⟩:=Option.map_eq_some_iff.1 hk
 exact ⟨o,by rw [Yq];exact ho,rfl⟩
theorem ra {n:Nat} {s:St}: ∀{l:List gw},(n,s.h)∈mf P n s l∧∀t∈l,bJ P t.o.op=2→(t.i,t.s.h)∈mf P n s l
 |[]=>⟨V2 ..,fun t ht=>absurd ht VS⟩
 |x::l=>by
  obtain ⟨h1,h2⟩:=ra (n:=n) (s:=s) (l:=l)
  have e:mf P n s (x::l)=au (Vo (bJ P x.o.op) 2) ((x.i,x.s.h)::mf P n s l) (mf P n s l):=rfl
  rw [e]
  cases hc:Vo (bJ P x.o.op) 2 with
  |true=>
   refine ⟨V3 _ h1,fun t ht hcl=>?_⟩
   cases ht with
   |head=>exact V2 ..
   |tail _ ht=>exact V3 _ (h2 t ht hcl)
  |false=>
   refine ⟨h1,fun t ht hcl=>?_⟩
   cases ht with
   |head=>rw [hcl] at hc;cases hc
   |tail _ ht=>exact h2 t ht hcl
end
end
section
open Go Go.RowKit
variable [Env]
section
variable {P:Program} {N:Nat} {r:Rec} {ops:List Oper} {tels:List gw} {A:Nat→aN} {S:Nat→St} {B:Nat→Bool} {μ₀ μ:bw} {w₀ w:World} {D:Nat→Bool} {h:Nat} {ca:Act}
theorem Inv.places (hT:jX P r ops ops 0 tels A S B) (hI:Inv P N ops tels A S μ₀ w₀ D h μ ca w):iV P N μ w (S ops.length).n.toNat:=by
 have key: ∀b e,μ b=some e→(b.toNat<(S h).n.toNat∧cC μ (jq S h) b=some e)∨∃j t bU,tels[j]? =some t∧b=(S j).n∧S (j+1)=(S j).push bU∧BR P N (cC μ (qZ P ops tels S h j)) w bU e∧N≤e.a.block:=by
  intro b e he
  rcases hI.Hz b e he with hb |⟨j,h1,h2,t,h3,h4,h5,rfl⟩
  ·exact .inl ⟨hb,bz.2 ⟨hb,he⟩⟩
  ·obtain ⟨e',bU,p1,p2,p3,p4,p5,_⟩:=hI.Jq j t h1 h2 h3 h4 h5
   rw [he] at p1
   cases p1
   exact .inr ⟨j,t,bU,h3,rfl,p2,p4,p5⟩
 refine ⟨fun b e he=>?_,fun b e he=>?_,fun g hg=>(bz.1 (hI.sr.eZ g hg)).2,hI.sr.hN,hI.sr.hn,hI.sr.base,hI.sr.fW⟩
 ·rcases key b e he with ⟨hb,_⟩ |⟨j,t,bU,h1,rfl,h2,_⟩
  ·exact VX hb (hT.mono hI.hle (VY _))
  ·have hj:=hT.lt h1
   have:(S (j+1)).n.toNat=(S j).n.toNat+1:=by rw [h2,eh,Pos.bZ]
   have:=hT.mono (j:=j+1) (k:=ops.length) (by omega) (VY _)
   omega
 ·rcases key b e he with ⟨_,hb⟩ |⟨j,t,bU,h1,rfl,h2,h3,h4⟩
  ·exact hI.sr.places.GO b e hb
  ·exact ⟨h3.lt,.inr h4⟩
theorem iV.sub {m:Nat} (hp:iV P N μ w m) {p:Pos→Prop} (hg: ∀g,g<P.globals.size→p (pos g)):iV P N (cC μ p) w m:=
 ⟨fun b e he=>hp.Hz b e (bz.1 he).2,fun b e he=>hp.GO b e (bz.1 he).2,fun g h=>bz.2 ⟨hg g h,hp.eZ g h⟩,hp.hN,hp.hn,hp.base,hp.fW⟩
theorem Inv.pure (hP:cB P) (hF:Fit P ops) (hT:jX P r ops ops 0 tels A S B) (hI:Inv P N ops tels A S μ₀ w₀ D h μ ca w) {q:Nat} {t:gw} (hq:tels[q]? =some t) (hD:D q=false) (hdone: ∀j,bit (ahead ops) q j=true→D j=true)
 (hc:bJ P t.o.op=4) {s1:St} (hx:gv t.o.op P (A q) (S q)=some (.val t.v s1)):
 ∃u w',(execOp ca.eval t.o).run P w= .ok (.value u) w'∧Inv P N ops tels A S μ₀ w₀ (mr D q) h μ (ca.put t.o.dst u) w':=by
 obtain ⟨a',ha,hsame⟩:=hI.mask hF hT hq hD hdone
 have hg: ∀g,g<P.globals.size→yX P ops tels S h q (pos g):=fun g hg=>.inl (bz.1 (hI.sr.eZ g hg)).1
 obtain ⟨u,w',h1,h2,h3⟩:=Dw hP hc (by rw [hsame];exact hx) ha ((hI.places hT).sub hg)
 refine ⟨u,w',h1,hI.uz hF hT hq hD hdone (by rw [hc];decide) (fun _=>by rw [hc];decide) (h2.mono (cL fun b e hb he=>⟨?_,he⟩)) h3⟩
 rcases hb with hb |⟨i,h4,h5⟩
 ·exact .inl hb
 ·exact .inr ⟨i,h4,.inr h5⟩
theorem Inv.idle (hF:Fit P ops) (hT:jX P r ops ops 0 tels A S B) (hI:Inv P N ops tels A S μ₀ w₀ D h μ ca w) {q:Nat} {t:gw} (hq:tels[q]? =some t) (hD:D q=false) (hdone: ∀j,bit (ahead ops) q j=true→D j=true)
 (hc:bJ P t.o.op≠2) (hw:t.w=false) (hv:t.v= .undef):Inv P N ops tels A S μ₀ w₀ (mr D q) h μ (ca.put t.o.dst undef) w:=
 hI.uz hF hT hq hD hdone hc (fun e=>by rw [hw] at e;cases e) (by rw [hv];exact fC) ⟨rfl,rfl,rfl,VY _,fun _ _=>rfl⟩
end
end
section
open Go Go.RowKit
variable [Env]
section
variable {P:Program} {N:Nat}
theorem uH (w:World) (obj:Obj):Kept w (w.alloc obj):=⟨rfl,rfl,rfl,by simp,fun k hk=>by rw [heap_alloc_old w obj k hk]⟩
theorem SR.late {μ:bw} {σ:St} {w:World} {obj:Obj} {b:Pos} {bU:aY} {e:fx} (h:SR P N μ σ w) (hb:μ b=none) (hlt:b.toNat<σ.n.toNat) (hget:σ.h.get b=some bU) (he:e.a.block=w.heap.size)
 (hbr:BR P N (dm μ b e) (w.alloc obj) bU e):SR P N (dm μ b e) σ (w.alloc obj):=by
 have hsub:Sub μ (dm μ b e):=eJ (.inl hb)
 have hk:=h.kept (uH w obj)
 have hpl: ∀x ex,μ x=some ex→ex.a.block<w.heap.size:=fun x ex hx=>let ⟨k,_,h2⟩:=h.bU x ex hx;h2.lt
 refine ⟨fun x ex hx=>?_,?_,fun x ex hx=>?_,hk.hN,fun g hg=>hsub _ _ (h.eZ g hg),hk.hn,hk.base,hk.fW,fun x ex kx hx gx hw hNx ad v ha=>(by
  by_cases hxb:x=b
  ·subst hxb
   rw [bG] at hx
   cases hx
   rw [he]
   exact Zn (kH (h.fW ad v ha))
  ·rw [ct μ e hxb] at hx
   exact h.apart x ex kx hx gx hw hNx ad v ha)⟩
 ·by_cases hxb:x=b
  ·subst hxb
   rw [bG] at hx
   cases hx
   exact ⟨bU,hget,hbr⟩
  ·rw [ct μ e hxb] at hx
   obtain ⟨k,h1,h2⟩:=hk.bU x ex hx
   exact ⟨k,h1,h2.bo hsub (VY _) fun _=>rfl⟩
 ·intro x y ex ey kx ky hx hy gx gy dx dy hN hxy
  by_cases hxb:x=b
  ·by_cases hyb:y=b
   ·rw [hxb,hyb]
   ·subst hxb
    rw [bG] at hx
    cases hx
    rw [ct μ e hyb] at hy
    have:=hpl y ey hy
    omega
  ·rw [ct μ e hxb] at hx
   by_cases hyb:y=b
   ·subst hyb
    rw [bG] at hy
    cases hy
    have:=hpl x ex hx
    omega
   ·rw [ct μ e hyb] at hy
    exact h.inj x y ex ey kx ky hx hy gx gy dx dy hN hxy
 ·by_cases hxb:x=b
  ·subst hxb;exact hlt
  ·rw [ct μ e hxb] at hx
   exact h.lt x ex hx
theorem By {μ:bw} {b:Pos} {e:fx} {p:Pos→Prop} (h:p b):cC (dm μ b e) p=dm (cC μ p) b e:=by
 classical
 refine bw.same (fun x=>?_) rfl
 show (if p x then (if x=b then some e else μ x) else none)=if x=b then some e else if p x then μ x else none
 by_cases hx:x=b
 ·subst hx;simp [h]
 ·simp [hx]
theorem Bz {μ:bw} {b:Pos} {e:fx} {p:Pos→Prop} (h: ¬p b):cC (dm μ b e) p=cC μ p:=by
 classical
 refine bw.same (fun x=>?_) rfl
 show (if p x then (if x=b then some e else μ x) else none)=if p x then μ x else none
 by_cases hx:x=b
 ·subst hx;simp [h]
 ·simp [hx]
section
variable {r:Rec} {ops:List Oper} {tels:List gw} {A:Nat→aN} {S:Nat→St} {B:Nat→Bool} {μ₀ μ:bw} {w₀ w:World} {D:Nat→Bool} {h:Nat} {ca:Act}
theorem Inv.lay (hF:Fit P ops) (hT:jX P r ops ops 0 tels A S B) (hI:Inv P N ops tels A S μ₀ w₀ D h μ ca w) {q:Nat} {t:gw} (hq:tels[q]? =some t) (hD:D q=false) (hdone: ∀j,bit (ahead ops) q j=true→D j=true)
 (hw:t.w=true) (hc:bJ P t.o.op=1) (hx:gv t.o.op P (A q) (S q)=some (.val t.v (S (q+1)))) (hrow:q<h→∀bU,S (q+1)=(S q).push bU→(S h).h.get (S q).n=some bU):
 ∃μ' u w',(execOp ca.eval t.o).run P w= .ok (.value u) w'∧Inv P N ops tels A S μ₀ w₀ (mr D q) h μ' (ca.put t.o.dst u) w':=by
 obtain ⟨a',ha,hsame⟩:=hI.mask hF hT hq hD hdone
 have hg: ∀g,g<P.globals.size→yX P ops tels S h q (pos g):=fun g hg=>.inl (bz.1 (hI.sr.eZ g hg)).1
 have hqo:=(hT.mY q t hq).1
 have hql:=hT.lt hq
 obtain ⟨v,bU,obj,U,own,hL⟩:=GP hc ((hI.places hT).sub hg).sr ha (by rw [hsame];exact hx)
 have hsays:=hL.Uu (S q)
 rw [hsame,hx] at hsays
 obtain ⟨hv,hpush⟩:t.v=v (S q).n∧S (q+1)=(S q).push bU:=by
  have:=VF hsays
  injection this with h1 h2
  exact ⟨h1,h2⟩
 have hnone:=hI.uF q t hD hq hw hc
 have hsub:Sub μ (dm μ (S q).n ⟨⟨w.heap.size,0,none⟩,own⟩):=eJ (.inl hnone)
 have hn1:(S (q+1)).n.toNat=(S q).n.toNat+1:=by rw [hpush,eh,Pos.bZ]
 have hqh:q≠h:=fun e=>by
  subst e
  have:=(hI.Jp t.o hqo).1
  rw [hc] at this
  cases this
 have hpl: ∀x ex,μ x=some ex→ex.a.block<w.heap.size:=fun x ex hx=>((hI.places hT).GO x ex hx).1
 have hNw:N≤w.heap.size:=hI.sr.hN
 have hnm:qZ P ops tels S h q (S q).n:=.inr ⟨q,⟨t,hq,hw,hc,rfl⟩,.inl rfl⟩
 have hu:VR P (cC (dm μ (S q).n ⟨⟨w.heap.size,0,none⟩,own⟩) (qZ P ops tels S h q)) t.v (U w.heap.size):=by
  rw [hv]
  exact hL.val _ _ _ (bz.2 ⟨hnm,dK _ _ _⟩)
 have hbr: ∀(p:Pos→Prop),(∀b,yX P ops tels S h q b→p b)→BR P N (cC (dm μ (S q).n ⟨⟨w.heap.size,0,none⟩,own⟩) p) (w.alloc obj) bU ⟨⟨w.heap.size,0,none⟩,own⟩:=fun p hp=>
  hL.br _ _ _ (cL fun b e hb he=>⟨hp b hb,hsub b e he⟩) hNw (heap_alloc_new w obj)
 obtain ⟨h1,h2⟩:=hI.Fc hF hT hq hD hsub (VY _) hu
 refine ⟨dm μ (S q).n ⟨⟨w.heap.size,0,none⟩,own⟩,U w.heap.size,w.alloc obj,hL.run w,?_⟩
 have hk:=uH w obj
 refine ⟨fun i hi=>?_,fun i j hi hb=>?_,hI.hle,fun o ho=>?_,fun e o ho hh=>?_,by rw [pP];exact hI.size,?_,h1,h2,?_,fun j y hj hhj hy hwy hcl=>?_,fun b e hb=>?_,fun j y hj hy hwy hcl=>?_,?_,?_,?_⟩
 ·by_cases hiq:i=q
  ·subst hiq;exact hql
  ·rw [bS D hiq] at hi;exact hI.lt i hi
 ·by_cases hiq:i=q
  ·subst hiq;exact de (hdone j hb)
  ·rw [bS D hiq] at hi;exact de (hI.down i j hi hb)
 ·obtain ⟨g1,g2⟩:=hI.Jp o ho
  exact ⟨g1,by rw [bS D (Zo hqh)];exact g2⟩
 ·have hne:e≠q:=fun e'=>by subst e';rw [hqo] at ho;cases ho;rw [hc] at hh;cases hh
  rw [bS D hne]
  exact hI.MH e o ho hh
 ·rw [sR]
  exact hI.wC.mono (cL fun b e hb he=>⟨hb,hsub b e he⟩)
 ·by_cases hlt:q<h
  ·have hb:jq S h (S q).n:=by
    have:=hT.mono (j:=q+1) (k:=h) (by omega) hI.hle
    show (S q).n.toNat<(S h).n.toNat
    omega
   rw [By hb]
   refine hI.sr.late ?_ hb (hrow hlt bU hpush) rfl ?_
   ·rw [kU,if_pos hb];exact hnone
   ·rw [←By hb]
    refine hbr _ fun b hb'=>?_
    rcases hb' with hb' |⟨i,⟨y,q1,q2,q3,rfl⟩,hbi⟩
    ·exact hb'
    ·have hiq:=kR q i hbi
     have:=hT.mono (j:=i) (k:=q) (by omega) (by omega)
     show (S i).n.toNat<(S h).n.toNat
     have hb:(S q).n.toNat<(S h).n.toNat:=hb
     omega
  ·have hb: ¬jq S h (S q).n:=fun hb=>by
    have:=hT.mono (j:=h) (k:=q) (by omega) (by omega)
    have hb:(S q).n.toNat<(S h).n.toNat:=hb
    omega
   rw [Bz hb]
   exact hI.sr.kept hk
 ·by_cases hjq:j=q
  ·subst hjq
   refine ⟨_,bU,dK _ _ _,hpush,hL.alive,hbr _ fun b hb=>hb.imp id fun ⟨i,h4,h5⟩=>⟨i,h4,.inr h5⟩,hNw,fun b' e' hne hb'=>?_,fun ad v ha=>Zn (kH (hI.sr.fW ad v ha))⟩
   rw [ct _ _ hne] at hb'
   exact Zn (hpl b' e' hb')
  ·rw [bS D hjq] at hj
   obtain ⟨e,blk',p1,p2,p3,p4,p5,p6,p7⟩:=hI.Jq j y hj hhj hy hwy hcl
   refine ⟨e,blk',hsub _ _ p1,p2,p3,p4.bo (cL fun b e hb he=>⟨hb,hsub b e he⟩) hk.size (fun _=>hk.same _ p4.lt),p5,fun b' e' hne hb'=>?_,p7⟩
   by_cases hbq:b'=(S q).n
   ·subst hbq
    rw [bG] at hb'
    cases hb'
    exact Nat.ne_of_gt p4.lt
   ·rw [ct _ _ hbq] at hb'
    exact p6 b' e' hne hb'
 ·by_cases hbq:b=(S q).n
  ·subst hbq
   by_cases hlt:q<h
   ·left
    have:=hT.mono (j:=q+1) (k:=h) (by omega) hI.hle
    omega
   ·exact .inr ⟨q,eQ D q,by omega,t,hq,hw,hc,rfl⟩
  ·rw [ct _ _ hbq] at hb
   rcases hI.Hz b e hb with hb' |⟨j,q1,q2,q3⟩
   ·exact .inl hb'
   ·exact .inr ⟨j,de q1,q2,q3⟩
 ·have hne:j≠q:=fun e'=>by subst e';rw [eQ] at hj;cases hj
  rw [bS D hne] at hj
  have hnn:(S j).n≠(S q).n:=by
   intro he
   rcases Nat.lt_or_gt_of_ne hne with hl |hl
   ·have hn2:=hT.Dt hF hy hwy hcl
    have:=hT.mono (j:=j+1) (k:=q) (by omega) (by omega)
    rw [he] at hn2
    omega
   ·have:=hT.mono (j:=q+1) (k:=j) (by omega) (Y9 (hT.lt hy))
    rw [he] at this
    omega
  rw [ct _ _ hnn]
  exact hI.uF j y hj hy hwy hcl
 ·exact ⟨hI.ev.os,hI.ev.tape,hI.ev.output,VZ hI.ev.size hk.size,fun k hk1 hk2=>(hk.same k (VX hk1 hI.ev.size)).trans (hI.ev.same k hk1 hk2)⟩
 ·refine ⟨hI.ext.sub.trans hsub,fun b e hb=>?_,hI.ext.fZ⟩
  by_cases hbq:b=(S q).n
  ·subst hbq
   rw [bG] at hb
   cases hb
   exact .inl hI.ev.size
  ·rw [ct _ _ hbq] at hb
   exact hI.ext.new b e hb
 ·intro b e hb
  by_cases hbq:b=(S q).n
  ·subst hbq
   exact .inr (hT.mono (Xz _) (Y9 hql))
  ·rw [ct _ _ hbq] at hb
   exact hI.fresh b e hb
end
end
end
section
open Go Go.RowKit
variable [Env]
def HE (f:St→Option aG):Prop:=∀h n x,f ⟨h,n⟩=some x→∃v,x= .val v ⟨h,n⟩∧∀n',f ⟨h,n'⟩=some (.val v ⟨h,n'⟩)
def HO {α:Type} (o:St→Option α):Prop:=∀h n n',o ⟨h,n⟩=o ⟨h,n'⟩
theorem PU.he {f:St→Option aG} (h:PU f):HE f:=by
 intro s n x hx
 obtain ⟨F,hF⟩:=h
 rw [hF] at hx
 obtain ⟨v,rfl,rfl⟩:=aO.1 hx
 exact ⟨v,rfl,fun n'=>by rw [hF]⟩
theorem HE.none:HE fun _=>Option.none:=fun h n x hx=>by cases hx
theorem HE.ab {α:Type} (o:Option α) {g:α→St→Option aG} (h: ∀x,HE (g x)):HE fun s=>Sai.ab o fun x=>g x s:=by
 cases o with
 |none=>exact HE.none
 |some x=>exact h x
theorem HE.kP {α:Type} {o:St→Option α} (ho:HO o) {g:α→St→Option aG} (h: ∀x,HE (g x)):HE fun s=>Sai.ab (o s) fun x=>g x s:=by
 intro s n x hx
 obtain ⟨y,hy,hx⟩:=aa.1 hx
 obtain ⟨v,e,hv⟩:=h y s n x hx
 refine ⟨v,e,fun n'=>?_⟩
 have:o ⟨s,n'⟩=some y:=by rw [←hy];exact ho s n' n
 show Sai.ab (o ⟨s,n'⟩) _=_
 rw [this]
 exact hv n'
theorem HE.Bo {α:Type} {o:St→Option α} (ho:HO o) (g:α→AV):HE fun s=>Sai.omap (o s) fun x=>.val (g x) s:=by
 intro s n x hx
 obtain ⟨y,hy,rfl⟩:=aO.1 hx
 refine ⟨g y,rfl,fun n'=>?_⟩
 have:o ⟨s,n'⟩=some y:=by rw [←hy];exact ho s n' n
 show Sai.omap (o ⟨s,n'⟩) _=_
 rw [this]
theorem HE.au (b:Bool) {f g:St→Option aG} (h:HE f) (k:HE g):HE fun s=>Sai.au b (f s) (g s):=by cases b<;>assumption
theorem HE.PE {b:St→Bool} (hb: ∀h n n',b ⟨h,n⟩=b ⟨h,n'⟩) {f g:St→Option aG} (h:HE f) (k:HE g):HE fun s=>Sai.au (b s) (f s) (g s):=by
 intro s n x hx
 replace hx:Sai.au (b ⟨s,n⟩) (f ⟨s,n⟩) (g ⟨s,n⟩)=some x:=hx
 cases hbv:b ⟨s,n⟩ with
 |true=>
  rw [hbv] at hx
  obtain ⟨v,e,hv⟩:=h s n x hx
  refine ⟨v,e,fun n'=>?_⟩
  show Sai.au (b ⟨s,n'⟩) _ _=_
  rw [hb s n' n,hbv]
  exact hv n'
 |false=>
  rw [hbv] at hx
  obtain ⟨v,e,hv⟩:=k s n x hx
  refine ⟨v,e,fun n'=>?_⟩
  show Sai.au (b ⟨s,n'⟩) _ _=_
  rw [hb s n' n,hbv]
  exact hv n'
section
variable (P:Program) (a:aN)
theorem Jr (b:Pos):HO fun s=>s.h.get b:=fun h n n'=>rfl
theorem MJ (t:TypeId) (b:Pos) (o:Nat):HO fun s=>s.load P t b o:=fun h n n'=>rfl
theorem Js (b:Pos) (o k:Nat):HO fun s=>s.cells b o k:=fun h n n'=>rfl
theorem Sa (m:AV):HO fun s=>jK s m:=fun h n n'=>by unfold jK;cases m<;>rfl
theorem PI (t:TypeId) (x:AV):HO fun s=>H0 P t s x:=fun h n n'=>by unfold H0;cases x<;>rfl
theorem BA {op:Op} (h:bJ P op=0):HE fun s=>gv op P a s:=by
 cases op<;>first |(cases h;done) |skip
 case load t x=>
  refine HE.ab _ fun v=>?_
  cases v<;>first |exact HE.none |exact HE.Bo (MJ P t _ _) _ |skip
  ·rename_i ty y
   cases ty<;>first |exact HE.none |exact (PU.omap _ _).he
  ·rename_i ts b i o
   exact HE.kP (Jr b) fun k=>(PU.omap _ _).he
 case convert s d x=>
  refine HE.ab _ fun v=>HE.ab _ fun us=>?_
  have bytes:HE fun s'=>Sai.ab (dJ P s) fun e=>mQ P e v s':=by
   refine HE.ab _ fun e=>HE.au _ ?_ HE.none
   cases v<;>first |exact HE.none |exact (PU.val _).he |exact HE.kP (Js _ _ _) fun cs=>(PU.omap _ _).he
  simp only [bJ] at h
  cases hd:P.underlying d with
  |none=>exact HE.none
  |some ud=>
   rw [hd] at h
   cases ud<;>first |(cases h;done) |exact HE.none |skip
   ·cases v<;>first |exact HE.none |exact (PU.val _).he |skip
    rename_i ty y
    cases ty<;>first |exact HE.none |exact (PU.val _).he
   ·cases v<;>first |exact HE.none |exact (PU.val _).he |exact (PU.au _ (PU.val _) PU.none).he
   ·cases v<;>first |exact bytes |exact (PU.val _).he |skip
    rename_i n
    cases n with
    |ofNat n=>exact (PU.au _ (PU.val _) PU.none).he
    |negSucc n=>exact bytes
 case lookup t x k ok=>
  refine HE.ab _ fun m=>HE.ab _ fun k=>?_
  refine HE.PE (fun h n n'=>rfl) (HE.ab _ fun b=>HE.kP (Jr b) fun bl=>?_) ?_
  ·cases bl<;>first |exact HE.none |skip
   refine HE.ab _ fun q=>HE.ab _ fun kk=>HE.au _ (HE.ab _ fun hit=>HE.au _ ?_ ?_) HE.none
   ·exact (PU.val _).he
   ·exact (PU.omap _ _).he
  refine HE.kP (Sa m) fun es=>HE.ab _ fun q=>HE.au _ (HE.ab _ fun o=>?_) HE.none
  cases o with
  |none=>exact (PU.omap _ _).he
  |some v=>exact (PU.val _).he
 case call c=>
  refine HE.ab _ fun args=>?_
  simp only [bJ] at h
  split at h<;>first |(cases h;done) |skip
  rename_i hc
  rw [hc]
  show HE fun s=>CH P c.argTypes.toList args s
  unfold CH
  split
  ·split
   ·intro s n x hx
    revert hx
    generalize hq:ym P _ _=q
    intro hx
    cases q with
    |none=>exact HE.Bo (PI P _ _) _ s n x hx
    |some v=>exact (PU.val v).he s n x hx
   ·exact HE.none
  ·exact HE.none
end
section
variable {P:Program} {N:Nat} {r:Rec} {ops:List Oper} {tels:List gw} {A:Nat→aN} {S:Nat→St} {B:Nat→Bool} {μ₀ μ:bw} {w₀ w:World} {D:Nat→Bool} {h:Nat} {ca:Act}
theorem Inv.yY (hI:Inv P N ops tels A S μ₀ w₀ D h μ ca w) {w':World} (hev:Ev N (cC μ (jq S h)) w w'):Ev N μ₀ w₀ w':=by
 refine ⟨hev.os.trans hI.ev.os,hev.tape.trans hI.ev.tape,hev.output.trans hI.ev.output,VZ hI.ev.size hev.size,fun k hk hc=>?_⟩
 refine (hev.same k (VX hk hI.ev.size) ?_).trans (hI.ev.same k hk hc)
 rcases hc with hc |hc
 ·exact .inl hc
 ·refine .inr fun b e hb hne=>?_
  obtain ⟨_,hb⟩:=bz.1 hb
  rcases hI.ext.new b e hb with h1 |⟨b₀,e₀,h1,h2⟩
  ·omega
  ·exact hc b₀ e₀ h1 (h2.trans hne)
theorem Inv.BB (hT:jX P r ops ops 0 tels A S B) (hI:Inv P N ops tels A S μ₀ w₀ D h μ ca w) {w':World} (hev:Ev N (cC μ (jq S h)) w w') {j:Nat} (hj:j≤ops.length) (hhj:h≤j) {bU:aY} {e:fx} {ν:bw}
 (p4:BR P N ν w bU e) (p6: ∀b' e',b'≠(S j).n→μ b'=some e'→e'.a.block≠e.a.block):w'.heap[e.a.block]? =w.heap[e.a.block]? :=by
 refine hev.same _ p4.lt (.inr fun b e' hb=>?_)
 obtain ⟨h1,h2⟩:=bz.1 hb
 refine p6 b e' (fun hn=>?_) h2
 have:=hT.mono hhj hj
 rw [hn] at h1
 have h1:(S j).n.toNat<(S h).n.toNat:=h1
 omega
theorem Inv.Uv (hF:Fit P ops) (hT:jX P r ops ops 0 tels A S B) (hI:Inv P N ops tels A S μ₀ w₀ D h μ ca w) {q:Nat} {t:gw} (hq:tels[q]? =some t) (hD:D q=false) (hdone: ∀j,bit (ahead ops) q j=true→D j=true)
 (hc:bJ P t.o.op≠2) (hl:t.w=true→bJ P t.o.op≠1) {u:Value} {w':World} (hu:VR P (cC μ (qZ P ops tels S h q)) t.v u)
 (hsr:SR P N (cC μ (jq S h)) (S h) w') (hev:Ev N (cC μ (jq S h)) w w'):
 Inv P N ops tels A S μ₀ w₀ (mr D q) h μ (ca.put t.o.dst u) w':=by
 have hqo:=(hT.mY q t hq).1
 obtain ⟨h1,h2⟩:=hI.Fc hF hT hq hD (Sub.refl μ) (VY _) hu
 refine ⟨fun i hi=>?_,fun i j hi hb=>?_,hI.hle,fun o ho=>?_,fun e o ho hh=>?_,by rw [pP];exact hI.size,by rw [sR];exact hI.wC,h1,h2,hsr,fun j y hj hhj hy hw hcl=>?_,fun b e hb=>?_,fun j y hj hy hw hcl=>?_,hI.yY hev,hI.ext,hI.fresh⟩
 ·by_cases hiq:i=q
  ·subst hiq;exact hT.lt hq
  ·rw [bS D hiq] at hi;exact hI.lt i hi
 ·by_cases hiq:i=q
  ·subst hiq;exact de (hdone j hb)
  ·rw [bS D hiq] at hi;exact de (hI.down i j hi hb)
 ·obtain ⟨g1,g2⟩:=hI.Jp o ho
  refine ⟨g1,?_⟩
  have hne:h≠q:=fun e=>by subst e;rw [hqo] at ho;cases ho;exact hc g1
  rw [bS D hne];exact g2
 ·have hne:e≠q:=fun e'=>by subst e';rw [hqo] at ho;cases ho;exact hc hh
  rw [bS D hne]
  exact hI.MH e o ho hh
 ·have hne:j≠q:=fun e'=>by subst e';rw [hq] at hy;cases hy;exact hl hw hcl
  rw [bS D hne] at hj
  obtain ⟨e,bU,p1,p2,p3,p4,p5,p6,p7⟩:=hI.Jq j y hj hhj hy hw hcl
  exact ⟨e,bU,p1,p2,p3,p4.bo (Sub.refl _) hev.size fun _=>hI.BB hT hev (Y9 (hT.lt hy)) (Y9 hhj) p4 p6,p5,p6,p7⟩
 ·rcases hI.Hz b e hb with hb' |⟨j,q1,q2,q3⟩
  ·exact .inl hb'
  ·exact .inr ⟨j,de q1,q2,q3⟩
 ·have hne:j≠q:=fun e'=>by subst e';rw [eQ] at hj;cases hj
  rw [bS D hne] at hj
  exact hI.uF j y hj hy hw hcl
theorem BC {v:AV} {x:aG} (h:yB v x=true): ∃s,x= .val v s:=by
 cases x with
 |val u s=>exact ⟨s,by rw [sQ 12 u v h]⟩
 |_=>cases h
theorem Inv.read (hP:cB P) (hF:Fit P ops) (hT:jX P r ops ops 0 tels A S B) (hI:Inv P N ops tels A S μ₀ w₀ D h μ ca w) {q:Nat} {t:gw} (hq:tels[q]? =some t) (hD:D q=false) (hdone: ∀j,bit (ahead ops) q j=true→D j=true)
 (hw:t.w=true) (hc:bJ P t.o.op=0) (hlb: ∀j y,tels[j]? =some y→bJ P y.o.op=1→bit (ahead ops) q j=true→j<h) (hat:jM P t.o t.a t.s t.v (S h).h=true):
 ∃u w',(execOp ca.eval t.o).run P w= .ok (.value u) w'∧Inv P N ops tels A S μ₀ w₀ (mr D q) h μ (ca.put t.o.dst u) w':=by
 obtain ⟨a',ha,hsame⟩:=hI.mask hF hT hq hD hdone
 obtain ⟨_,_,htA,htS,_⟩:=hT.mY q t hq
 have hval:gv t.o.op P a' (S h)=some (.val t.v (S h)):=by
  unfold jM at hat
  cases hx:gv t.o.op P t.a ⟨(S h).h,t.s.n⟩ with
  |none=>rw [hx] at hat;cases hat
  |some x=>
   rw [hx] at hat
   obtain ⟨s,rfl⟩:=BC (show yB t.v x=true from hat)
   obtain ⟨v,e,hv⟩:=BA P t.a hc (S h).h t.s.n _ hx
   cases e
   rw [hsame,←htA]
   exact hv (S h).n
 have hsub:Sub (cC μ (yX P ops tels S h q)) (cC μ (jq S h)):=cL fun b e hb he=>⟨by
  rcases hb with hb |⟨i,⟨y,h1,h2,h3,rfl⟩,hbi⟩
  ·exact hb
  ·have hlt:=hlb i y h1 h3 hbi
   have:=hT.mono (j:=i+1) (k:=h) (by omega) hI.hle
   have hn2:=hT.Dt hF h1 h2 h3
   show (S i).n.toNat<(S h).n.toNat
   omega,he⟩
 obtain ⟨μ',u,w',hrun,hg,hv,heq⟩:=dW hP hI.sr (ha.mono hsub) hval
 rw [heq rfl] at hg hv
 exact ⟨u,w',hrun,hI.Uv hF hT hq hD hdone (by rw [hc];decide) (fun _=>by rw [hc];decide) (hv.mono (cL fun b e hb he=>⟨.inl hb,he⟩)) hg.sr hg.ev⟩
end
end
section
open Go Go.RowKit
variable [Env]
section
variable {P:Program} {N:Nat}
theorem xw (P:Program) (ops:List Oper): ∀d h,ops.length - h=d→h≤ops.length→∃h',h≤h'∧h'≤ops.length∧(∀o,ops[h']? =some o→bJ P o.op=2)∧∀e o,h≤e→e<h'→ops[e]? =some o→bJ P o.op≠2:=by
 intro d
 induction d with
 |zero=>
  intro h hd hle
  refine ⟨h,VY _,hle,fun o ho=>?_,fun e o h1 h2=>by omega⟩
  have:=(List.getElem?_eq_some_iff.1 ho).1
  omega
 |succ d ih=>
  intro h hd hle
  have hlt:h<ops.length:=by omega
  have ho:ops[h]? =some ops[h]:=Wj hlt
  by_cases hc:bJ P (ops[h]).op=2
  ·exact ⟨h,VY _,hle,fun o h'=>by rw [ho] at h';cases h';exact hc,fun e o h1 h2=>by omega⟩
  ·obtain ⟨h',h1,h2,h3,h4⟩:=ih (h+1) (by omega) (by omega)
   refine ⟨h',by omega,h2,h3,fun e o g1 g2 g3=>?_⟩
   by_cases he:e=h
   ·subst he;rw [ho] at g3;cases g3;exact hc
   ·exact h4 e o (by omega) g2 g3
theorem SR.PJ {ν:bw} {σ:St} {w:World} {bU:aY} {e:fx} (h:SR P N ν σ w) (hb:BR P N (dm ν σ.n e) w bU e) (hp: ∀b' e',ν b'=some e'→e'.a.block≠e.a.block) (hz: ∀ad v,ν.fz ad=some v→ad.block≠e.a.block):SR P N (dm ν σ.n e) (σ.push bU) w:=by
 have hsub:Sub ν (dm ν σ.n e):=eJ (.inl h.fresh)
 have hn:(σ.push bU).n.toNat=σ.n.toNat+1:=by rw [eh,Pos.bZ]
 refine ⟨fun x ex hx=>?_,?_,fun x ex hx=>?_,h.hN,fun g hg=>hsub _ _ (h.eZ g hg),h.hn,h.base,h.fW,fun x ex kx hx gx hw hNx ad v ha=>(by
  by_cases hxb:x=σ.n
  ·subst hxb
   rw [bG] at hx
   cases hx
   exact hz ad v ha
  ·rw [ct ν e hxb] at hx
   rw [bP,if_neg (Zo hxb)] at gx
   exact h.apart x ex kx hx gx hw hNx ad v ha)⟩
 ·by_cases hxb:x=σ.n
  ·subst hxb
   rw [bG] at hx
   cases hx
   exact ⟨bU,by rw [bP,if_pos rfl],hb⟩
  ·rw [ct ν e hxb] at hx
   obtain ⟨k,h1,h2⟩:=h.bU x ex hx
   exact ⟨k,by rw [bP,if_neg (Zo hxb)];exact h1,h2.bo hsub (VY _) fun _=>rfl⟩
 ·intro x y ex ey kx ky hx hy gx gy dx dy hN hxy
  by_cases hxb:x=σ.n
  ·by_cases hyb:y=σ.n
   ·rw [hxb,hyb]
   ·subst hxb
    rw [bG] at hx
    cases hx
    rw [ct ν e hyb] at hy
    exact absurd hxy.symm (hp y ey hy)
  ·rw [ct ν e hxb] at hx
   by_cases hyb:y=σ.n
   ·subst hyb
    rw [bG] at hy
    cases hy
    exact absurd hxy (hp x ex hx)
   ·rw [ct ν e hyb] at hy
    rw [bP,if_neg (Zo hxb)] at gx
    rw [bP,if_neg (Zo hyb)] at gy
    exact h.inj x y ex ey kx ky hx hy gx gy dx dy hN hxy
 ·rw [hn]
  by_cases hxb:x=σ.n
  ·subst hxb;omega
  ·rw [ct ν e hxb] at hx
   have:=h.lt x ex hx
   omega
theorem SR.Jt {ν:bw} {σ:St} {w:World} {bU:aY} (h:SR P N ν σ w):SR P N ν (σ.push bU) w:=by
 have hn:(σ.push bU).n.toNat=σ.n.toNat+1:=by rw [eh,Pos.bZ]
 have hne: ∀x ex,ν x=some ex→σ.n≠x:=fun x ex hx e=>by have:=h.fresh;rw [e,hx] at this;cases this
 refine ⟨fun x ex hx=>?_,fun x y ex ey kx ky hx hy gx gy=>?_,fun x ex hx=>(by have:=h.lt x ex hx;omega),h.hN,h.eZ,h.hn,h.base,h.fW,fun x ex kx hx gx hw=>h.apart x ex kx hx (by rw [bP,if_neg (hne x ex hx)] at gx;exact gx) hw⟩
 ·obtain ⟨k,h1,h2⟩:=h.bU x ex hx
  exact ⟨k,by rw [bP,if_neg (hne x ex hx)];exact h1,h2⟩
 ·rw [bP,if_neg (hne x ex hx)] at gx
  rw [bP,if_neg (hne y ey hy)] at gy
  exact h.inj x y ex ey kx ky hx hy gx gy
section
variable {r:Rec} {ops:List Oper} {tels:List gw} {A:Nat→aN} {S:Nat→St} {B:Nat→Bool} {μ₀ μ:bw} {w₀ w:World} {D:Nat→Bool} {h:Nat} {ca:Act}
def jY (n:Nat) (μ₁ μ:bw):bw:=⟨fun b=>if b.toNat<n then μ₁ b else μ b,μ₁.fz⟩
theorem jZ {n:Nat} {μ₁ μ:bw} {b:Pos} (h:b.toNat<n):jY n μ₁ μ b=μ₁ b:=if_pos h
theorem j0 {n:Nat} {μ₁ μ:bw} {b:Pos} (h:n≤b.toNat):jY n μ₁ μ b=μ b:=if_neg (Nat.not_lt.2 h)
theorem Inv.Bq (hF:Fit P ops) (hT:jX P r ops ops 0 tels A S B) (hI:Inv P N ops tels A S μ₀ w₀ D h μ ca w) {t:gw} (hq:tels[h]? =some t) (hdone: ∀j,bit (ahead ops) h j=true→D j=true)
 (hc:bJ P t.o.op=2) {μ₁:bw} {w₁:World} {u:Value} (hg:bF P N (cC μ (jq S h)) (S h) w μ₁ (S (h+1)) w₁) (hu:VR P μ₁ t.v u):
 ∃μ' h',Inv P N ops tels A S μ₀ w₀ (mr D h) h' μ' (ca.put t.o.dst u) w₁:=by
 obtain ⟨hqo,_⟩:=hT.mY h t hq
 have hql:=hT.lt hq
 have hDh:D h=false:=(hI.Jp t.o hqo).2
 obtain ⟨h',hh1,hh2,hh3,hh4⟩:=xw P ops _ (h+1) rfl (by omega)
 let μ':bw:=jY (S (h+1)).n.toNat μ₁ μ
 have hSh:(S h).n.toNat≤(S (h+1)).n.toNat:=hg.le
 have hS':(S (h+1)).n.toNat≤(S h').n.toNat:=hT.mono hh1 hh2
 have f1:Sub μ₁ μ':=⟨fun b e hb=>by show jY _ _ _ b=_;rw [jZ (hg.sr.lt b e hb)];exact hb,fun _ _ h=>h⟩
 have f0: ∀j,h<j→j≤ops.length→(S (h+1)).n.toNat≤(S j).n.toNat:=fun j hj hl=>hT.mono hj hl
 have f2:Sub μ μ':=⟨fun b e hb=>by
  rcases hI.Hz b e hb with hlo |⟨j,q1,q2,q3⟩
  ·exact f1 b e (hg.ext.sub b e (bz.2 ⟨hlo,hb⟩))
  ·obtain ⟨y,q3,q4,q5,rfl⟩:=q3
   show jY _ _ _ _=_
   rw [j0 (f0 j q2 (Y9 (hT.lt q3)))]
   exact hb,hg.ext.sub.fz⟩
 have f3:cC μ' (jq S (h+1))=μ₁:=by
  refine bw.same (fun b=>?_) rfl
  rw [kU]
  by_cases hb:jq S (h+1) b
  ·rw [if_pos hb];exact jZ hb
  ·rw [if_neg hb]
   cases hb':μ₁ b with
   |none=>rfl
   |some e=>exact absurd (hg.sr.lt b e hb') hb
 have f4: ∀b e,μ₁ b=some e→w.heap.size≤e.a.block∨∃b₀ e₀,b₀.toNat<(S h).n.toNat∧μ b₀=some e₀∧e₀.a.block=e.a.block:=fun b e hb=>by
  rcases hg.ext.new b e hb with q |⟨b₀,e₀,q1,q2⟩
  ·exact .inl q
  ·obtain ⟨q3,q4⟩:=bz.1 q1
   exact .inr ⟨b₀,e₀,q3,q4,q2⟩
 have fp: ∀j y,D j=true→h<j→tels[j]? =some y→y.w=true→bJ P y.o.op=1→∃e bU,μ' (S j).n=some e∧S (j+1)=(S j).push bU∧bO bU=false∧BR P N (cC μ' (qZ P ops tels S h j)) w₁ bU e∧N≤e.a.block∧
  (∀b' e',b'≠(S j).n→μ' b'=some e'→e'.a.block≠e.a.block)∧∀ad v,μ'.fz ad=some v→ad.block≠e.a.block:=by
  intro j y hj hhj hy hw hcl
  obtain ⟨e,bU,p1,p2,p3,p4,p5,p6,p7⟩:=hI.Jq j y hj hhj hy hw hcl
  have hjl:=hT.lt hy
  have hne: ∀b₀ e₀,b₀.toNat<(S h).n.toNat→μ b₀=some e₀→e₀.a.block≠e.a.block:=fun b₀ e₀ hlo hb=>p6 b₀ e₀ (fun e=>by
   have:=f0 j hhj (Y9 hjl)
   rw [e] at hlo
   omega) hb
  refine ⟨e,bU,f2 _ _ p1,p2,p3,p4.bo (cL (fun b e hb he=>⟨hb,f2 b e he⟩) f2.fz) hg.ev.size fun _=>hI.BB hT hg.ev (Y9 hjl) (Y9 hhj) p4 p6,p5,fun b' e' hn hb'=>?_,fun ad v ha=>?_⟩
  rotate_left
  ·rcases hg.ext.fZ ad v ha with q |q |⟨b₀,e₀,q1,q2⟩
   ·exact p7 ad v q
   ·have:=p4.lt;omega
   ·obtain ⟨q3,q4⟩:=bz.1 q1
    rw [←q2]
    exact hne b₀ e₀ q3 q4
  by_cases hlo:b'.toNat<(S (h+1)).n.toNat
  ·replace hb':jY _ _ _ b'=_:=hb'
   rw [jZ hlo] at hb'
   rcases f4 b' e' hb' with q |⟨b₀,e₀,q1,q2,q3⟩
   ·have:=p4.lt;omega
   ·rw [←q3];exact hne b₀ e₀ q1 q2
  ·replace hb':jY _ _ _ b'=_:=hb'
   rw [j0 (Nat.not_lt.1 hlo)] at hb'
   exact p6 b' e' hn hb'
 have fu: ∀j y,mr D h j=false→tels[j]? =some y→y.w=true→bJ P y.o.op=1→μ' (S j).n=none:=by
  intro j y hj hy hw hcl
  have hjh:j≠h:=fun e=>by subst e;rw [eQ] at hj;cases hj
  rw [bS D hjh] at hj
  have hno:=hI.uF j y hj hy hw hcl
  show jY _ _ _ _=_
  by_cases hlt:j<h
  ·have:=hT.mono (j:=j+1) (k:=h) hlt (Y9 hql)
   have hl1:=hT.Dt hF hy hw hcl
   rw [jZ (by omega)]
   cases hb:μ₁ (S j).n with
   |none=>rfl
   |some e=>
    rcases hg.fresh _ e hb with q |q
    ·rw [(bz.1 q).2] at hno;cases hno
    ·omega
  ·rw [j0 (f0 j (by omega) (Y9 (hT.lt hy)))]
   exact hno
 have along: ∀d,h+1+d≤h'→SR P N (cC μ' (jq S (h+1+d))) (S (h+1+d)) w₁:=by
  intro d
  induction d with
  |zero=>intro _;rw [Nat.add_zero,f3];exact hg.sr
  |succ d ih=>
   intro hd
   have ih:=ih (by omega)
   generalize hjd:h+1+d=j at ih
   have hjl:j<ops.length:=by omega
   obtain ⟨y,hy⟩:=hT.get hjl
   have hyo:=(hT.mY j y hy).1
   rw [show h+1+(d+1)=j+1 from by omega]
   rcases hT.uz hF hy (hh4 j y.o (by omega) (by omega) hyo) with ⟨hyw,hyc,bU,hdd,e⟩ |⟨_,e⟩
   ·rw [e]
    have hnn:(S (j+1)).n.toNat=(S j).n.toNat+1:=hT.Dt hF hy hyw hyc
    cases hDj:D j with
    |true=>
     obtain ⟨en,blk',p1,p2,p3,p4,p5,p6,p7⟩:=fp j y hDj (by omega) hy hyw hyc
     have hbb:blk'=bU:=by
      rw [e] at p2
      have:=congrArg (fun s=>s.h.get (S j).n) p2
      simp only [bP,if_true] at this
      exact (VF this).symm
     subst hbb
     have hre:cC μ' (jq S (j+1))=dm (cC μ' (jq S j)) (S j).n en:=by
      refine bw.same (fun b=>?_) rfl
      by_cases hb:b=(S j).n
      ·subst hb
       rw [bG]
       exact bz.2 ⟨by show (S j).n.toNat<_;omega,p1⟩
      ·rw [ct _ _ hb]
       rw [kU,kU]
       have:jq S (j+1) b↔jq S j b:=by
        show b.toNat<_↔b.toNat<_
        have:b.toNat≠(S j).n.toNat:=fun e=>hb (Pos.toNat_inj e)
        omega
       by_cases hb2:jq S j b
       ·rw [if_pos hb2,if_pos (this.2 hb2)]
       ·rw [if_neg hb2,if_neg (fun q=>hb2 (this.1 q))]
     rw [hre]
     refine ih.PJ ?_ (fun b' e' hb'=>?_) p7
     ·rw [←hre]
      refine p4.bo (cL fun b e hb he=>⟨?_,he⟩) (VY _) fun _=>rfl
      show b.toNat<_
      have hhj:=hT.mono (j:=h) (k:=j) (by omega) (by omega)
      rcases hb with hb |⟨i,⟨yi,_,_,_,rfl⟩,rfl |hbi⟩
      ·omega
      ·omega
      ·have:=hT.mono (j:=i) (k:=j) (Y9 (kR j i hbi)) (by omega)
       omega
     ·obtain ⟨q1,q2⟩:=bz.1 hb'
      refine p6 b' e' (fun e=>?_) q2
      rw [e] at q1
      exact Zp _ q1
    |false=>
     have hno:=fu j y (by rw [bS D (by omega)];exact hDj) hy hyw hyc
     have hre:cC μ' (jq S (j+1))=cC μ' (jq S j):=by
      refine bw.same (fun b=>?_) rfl
      rw [kU,kU]
      by_cases hb:b=(S j).n
      ·subst hb
       by_cases hb2:jq S j (S j).n
       ·exact absurd hb2 (Zp _)
       ·rw [if_neg hb2]
        split
        ·exact hno
        ·rfl
      ·have:jq S (j+1) b↔jq S j b:=by
        show b.toNat<_↔b.toNat<_
        have:b.toNat≠(S j).n.toNat:=fun e=>hb (Pos.toNat_inj e)
        omega
       by_cases hb2:jq S j b
       ·rw [if_pos hb2,if_pos (this.2 hb2)]
       ·rw [if_neg hb2,if_neg (fun q=>hb2 (this.1 q))]
     rw [hre]
     exact ih.Jt
   ·have hre:cC μ' (jq S (j+1))=cC μ' (jq S j):=by unfold jq;rw [e]
    rw [hre,e]
    exact ih
 have hsr':SR P N (cC μ' (jq S h')) (S h') w₁:=by
  have:=along (h' - (h+1)) (by omega)
  rwa [show h+1+(h' - (h+1))=h' from by omega] at this
 have hle0:(S 0).n.toNat≤(S h).n.toNat:=hT.mono (Xz _) hI.hle
 have hu':VR P (cC μ' (qZ P ops tels S h' h)) t.v u:=hu.mono ⟨fun b e hb=>bz.2 ⟨.inl (VX (hg.sr.lt b e hb) hS'),f1 b e hb⟩,fun _ _ h=>h⟩
 obtain ⟨h1,h2⟩:=hI.Fc hF hT hq hDh f2 (VZ hSh hS') hu'
 refine ⟨μ',h',fun i hi=>?_,fun i j hi hb=>?_,hh2,fun o ho=>⟨hh3 o ho,?_⟩,fun e o ho hcl=>?_,by rw [pP];exact hI.size,by rw [sR];exact hI.wC.mono (cL (fun b e hb he=>⟨hb,f2 b e he⟩) f2.fz),h1,h2,hsr',
  fun j y hj hhj hy hw hcl=>?_,fun b e hb=>?_,fu,hI.yY hg.ev,⟨hI.ext.sub.trans f2,fun b e hb=>?_,fun ad v ha=>?_⟩,fun b e hb=>?_⟩
 ·by_cases hih:i=h
  ·subst hih;exact hql
  ·rw [bS D hih] at hi;exact hI.lt i hi
 ·by_cases hih:i=h
  ·subst hih;exact de (hdone j hb)
  ·rw [bS D hih] at hi;exact de (hI.down i j hi hb)
 ·have hlt:h'<ops.length:=(List.getElem?_eq_some_iff.1 ho).1
  rw [bS D (by omega)]
  cases hD':D h' with
  |false=>rfl
  |true=>have:=(hI.MH h' o ho (hh3 o ho)).1 hD';omega
 ·by_cases heh:e=h
  ·subst heh;rw [eQ];exact ⟨fun _=>by omega,fun _=>rfl⟩
  ·rw [bS D heh,hI.MH e o ho hcl]
   constructor
   ·intro q;omega
   ·intro q
    rcases VI e h with q' |q'
    ·exact q'
    ·exact absurd hcl (hh4 e o (by omega) q ho)
 ·have hjh:j≠h:=by omega
  rw [bS D hjh] at hj
  obtain ⟨e,bU,p1,p2,p3,p4,p5,p6,p7⟩:=fp j y hj (by omega) hy hw hcl
  refine ⟨e,bU,p1,p2,p3,p4.bo (cL fun b e hb he=>⟨hb.imp (fun q=>?_) id,he⟩) (VY _) fun _=>rfl,p5,p6,p7⟩
  omega
 ·by_cases hlo:b.toNat<(S (h+1)).n.toNat
  ·exact .inl (VX hlo hS')
  ·replace hb:jY _ _ _ b=_:=hb
   rw [j0 (Nat.not_lt.1 hlo)] at hb
   rcases hI.Hz b e hb with q |⟨j,q1,q2,q3⟩
   ·omega
   ·by_cases hjh:h'<j
    ·exact .inr ⟨j,de q1,hjh,q3⟩
    ·left
     obtain ⟨y,q3,q4,q5,rfl⟩:=q3
     have hl1:=hT.Dt hF q3 q4 q5
     have hjne:j≠h':=fun e=>by
      subst e
      have:=hh3 y.o (hT.mY j y q3).1
      rw [q5] at this;cases this
     have:=hT.mono (j:=j+1) (k:=h') (by omega) hh2
     omega
 ·by_cases hlo:b.toNat<(S (h+1)).n.toNat
  ·replace hb:jY _ _ _ b=_:=hb
   rw [jZ hlo] at hb
   rcases f4 b e hb with q |⟨b₀,e₀,q1,q2,q3⟩
   ·exact .inl (VZ hI.ev.size q)
   ·rcases hI.ext.new b₀ e₀ q2 with q |⟨b₁,e₁,q4,q5⟩
    ·exact .inl (q3▸q)
    ·exact .inr ⟨b₁,e₁,q4,q5.trans q3⟩
  ·replace hb:jY _ _ _ b=_:=hb
   rw [j0 (Nat.not_lt.1 hlo)] at hb
   exact hI.ext.new b e hb
 ·rcases hg.ext.fZ ad v ha with q |q |⟨b₀,e₀,q1,q2⟩
  ·exact hI.ext.fZ ad v q
  ·exact .inr (.inl (VZ hI.ev.size q))
  ·rcases hI.ext.new b₀ e₀ (bz.1 q1).2 with q |⟨b₁,e₁,q4,q5⟩
   ·exact .inr (.inl (q2▸q))
   ·exact .inr (.inr ⟨b₁,e₁,q4,q5.trans q2⟩)
 ·by_cases hlo:b.toNat<(S (h+1)).n.toNat
  ·replace hb:jY _ _ _ b=_:=hb
   rw [jZ hlo] at hb
   rcases hg.fresh b e hb with q |q
   ·exact hI.fresh b e (bz.1 q).2
   ·exact .inr (VZ hle0 q)
  ·replace hb:jY _ _ _ b=_:=hb
   rw [j0 (Nat.not_lt.1 hlo)] at hb
   exact hI.fresh b e hb
end
end
end
section
open Go Go.RowKit
variable [Env]
section
variable {P:Program} {N:Nat}
theorem Ju {x y:aY} (h:Ir x y=true):x=y:=by
 unfold Ir at h
 split at h
 ·split at h
  ·simp only [V1] at h
   obtain ⟨⟨h1,h2⟩,h3⟩:=h
   rw [VN h1,VN h2,nZ (sQ 12) h3]
  ·cases h
 ·split at h
  ·rfl
  ·cases h
 ·split at h
  ·simp only [V1] at h
   obtain ⟨⟨⟨⟨h1,h2⟩,h3⟩,h4⟩,h5⟩:=h
   rw [eq_of_beq h1,show _=_ from VN h2,bW h3,cI h4,cI h5]
  ·cases h
 ·split at h
  ·simp only [V1] at h
   obtain ⟨⟨⟨h1,h2⟩,h3⟩,h4⟩:=h
   rw [eq_of_beq h1,kI h2,bW h3,cI h4]
  ·cases h
 ·cases h
theorem MK {x y:Option aY} (h:F7 x y=true) {b:aY} (hx:x=some b):y=some b:=by
 subst hx
 cases y with
 |none=>cases h
 |some y=>rw [Ju (x:=b) (y:=y) h]
theorem xx {ops:Array Oper} {o:Oper} {a:aN} {ca:Act} {μ:bw} {r:Bool} (hv: ∀(g:Nat×Bool) (p:Oper) (d:Tmp),o.guard=some g→ops[g.1]? =some p→p.dst=some d→VR P μ (a.tmp d) (ca.tmps.getD d undef)) (h:eG ops.toList a o.guard=some r):
 YP o (yielded ops ca.tmps)=r:=by
 unfold YP
 cases hg:o.guard with
 |none=>rw [hg] at h;cases h;rfl
 |some g=>
  rw [hg] at h
  obtain ⟨j,want⟩:=g
  obtain ⟨p,hp,h⟩:=aa.1 (show ab (ops.toList[j]?) (fun p=>ab p.dst fun d=>pj want (a.tmp d))=some r from h)
  obtain ⟨d,hd,h⟩:=aa.1 h
  have hpj:ops[j]? =some p:=by simpa using hp
  have hv:=hv _ p d hg hpj hd
  simp only
  have hy:yielded ops ca.tmps j=match ca.tmps[d]? with |some (.bool b)=>some b |_=>none:=by
   unfold yielded
   rw [hpj]
   simp only [Option.bind_some,hd]
   cases ca.tmps[d]? with
   |none=>rfl
   |some q=>cases q<;>rfl
  rw [hy]
  rcases rY h hv with ⟨b,h1,rfl⟩ |⟨h1,rfl⟩
  ·have:ca.tmps[d]? =some (.bool b):=by
    rw [We] at h1
    cases hq:ca.tmps[d]? with
    |none=>rw [hq] at h1;cases h1
    |some q=>rw [hq] at h1;exact congrArg some h1
   rw [this]
   cases b<;>cases want<;>rfl
  ·have:ca.tmps[d]? =none∨ca.tmps[d]? =some undef:=by
    rw [We] at h1
    cases hq:ca.tmps[d]? with
    |none=>exact .inl rfl
    |some q=>rw [hq] at h1;exact .inr (congrArg some h1)
   rcases this with h |h<;>rw [h]<;>rfl
section
variable {r:Rec} {ops:Array Oper} {tels:List gw} {A:Nat→aN} {S:Nat→St} {B:Nat→Bool} {μ₀ μ:bw} {w₀ w:World} {D:Nat→Bool} {h:Nat} {ca:Act}
theorem GR (hP:cB P) (hr:gL P N r) {ops:Array Oper} {q:Nat} {o:Oper} (ho:ops[q]? =some o) {a a':aN} {s s1:St} {v:AV} (hst:pM P r o a s true v s1) (hsame: ∀s,gv o.op P a' s=gv o.op P a s) {ν:bw} (hsr:SR P N ν s w) (ha:AR P ν a' ca)
 {b:Frame} {cs:List Frame} {k:List Item} {rest:List Nat} (hw:YP o (yielded ops ca.tmps)=true):
 ∃μ₁ w₁ V,bF P N ν s w μ₁ s1 w₁∧VR P μ₁ v V∧Steps P (lone (b.atR ca (.inRegion ops (q::rest)::k)) cs w) (lone (b.atR (ca.put o.dst V) (.inRegion ops rest::k)) cs w₁):=by
 have hsem: ∀{x},gv o.op P a' s=some x→(∀d s',x≠.defer d s')→o.semAt b.roundOf ca.eval=execOp ca.eval o:=fun hx h=>Zq _ _ _ (iu hx h)
 have fin: ∀{m₁:Machine} {v:AV} {rc:Option cE} {s1:St},Steps P (lone (b.atR ca (.inRegion ops (q::rest)::k)) cs w) m₁→Bg P N (b.atR ca (.inRegion ops (q::rest)::k)) cs m₁ ν s w (.fin (.returned v) rc s1)→
  ∃μ₁ w₁ V,bF P N ν s w μ₁ s1 w₁∧VR P μ₁ v V∧Steps P (lone (b.atR ca (.inRegion ops (q::rest)::k)) cs w) (lone (b.atR (ca.put o.dst V) (.inRegion ops rest::k)) cs w₁):=by
  intro m₁ v rc s1 hs hb
  obtain ⟨μ',w',V,hg,hv,hst⟩:=hb
  rw [Frame.finish_atR,show (ops[q]?).bind (·.dst)=o.dst from by rw [ho];rfl] at hst
  exact ⟨μ',w',V,hg,hv,hs.trans hst⟩
 cases hst with
 |val _ _ hx=>
  rw [←hsame] at hx
  obtain ⟨μ',V,w',hres,hg,hv,_⟩:=dW hP hsr ha hx
  exact ⟨μ',w',V,hg,hv,.one (uq ho hw (by rw [hsem hx (by simp)];exact hres))⟩
 |skip _ hx=>
  rw [←hsame] at hx
  obtain ⟨μ',w',hres,hg⟩:=dW hP hsr ha hx
  exact ⟨μ',w',undef,hg,fC,.one (Bh ho hw (by rw [hsem hx (by simp)];exact hres))⟩
 |enter f args s0 v rc s1 hx hq=>
  rw [←hsame] at hx
  obtain ⟨us,hres,rfl,hargs⟩:=dW hP hsr ha hx
  have hb:=((hr.call f args none a s0 _ hq).2 ν w (.norm (b.atR ca (.inRegion ops (q::rest)::k)::cs)) .run us hsr hargs (.norm _ _)).back
  exact fin (.one (nW ho hw (by rw [hsem hx (by simp)];exact hres))) hb
 |round l args s0 v rc s1 hx hq=>
  rw [←hsame] at hx
  obtain ⟨e,us,hl,hres,rfl,hargs⟩:=dW hP hsr ha hx
  obtain ⟨fn,tmps,as,bd,hy,hb⟩:=hr.round l args a s0 _ hq ν w us e hsr hargs hl
  exact fin (.one (nX ho hw (by rw [hsem hx (by simp),hres];exact hy))) (hb _ _)
theorem Inv.step (hP:cB P) (hr:gL P N r) (hF:Fit P ops.toList) (hT:jX P r ops.toList ops.toList 0 tels A S B) {hs:List (Nat×Tr aY)} (hchk:cR P (ahead ops.toList) (qL P ops.toList 0) hs tels=true) (hhead:(h,(S h).h)∈hs)
 (hI:Inv P N ops.toList tels A S μ₀ w₀ D h μ ca w) {q:Nat} {t:gw} (hq:tels[q]? =some t) (hB:B q=false) (hD:D q=false) (hdone: ∀j,bit (ahead ops.toList) q j=true→D j=true) (b:Frame) (cs:List Frame) (k:List Item) (rest:List Nat):
 ∃μ' h' ca' w',Steps P (lone (b.atR ca (.inRegion ops (q::rest)::k)) cs w) (lone (b.atR ca' (.inRegion ops rest::k)) cs w')∧Inv P N ops.toList tels A S μ₀ w₀ (mr D q) h' μ' ca' w':=by
 obtain ⟨hqo,hti,htA,htS,htw,hst,hle,hput⟩:=hT.mY q t hq
 replace htw:=htw hB
 replace hst:=hst.1 hB
 have hql:=hT.lt hq
 have ho:ops[q]? =some t.o:=by simpa using hqo
 have hmem:t∈tels:=Zm hq
 have htiq:t.i=q:=by omega
 have hwant:YP t.o (yielded ops ca.tmps)=t.w:=by
  refine xx (P:=P) (μ:=cC μ (qZ P ops.toList tels S h q)) (a:=A q) (fun g p d hg hp hd=>?_) htw
  have hbit:=hF.guard q t.o g hqo hg
  have hgq:=kR q g.1 hbit
  obtain ⟨y,hy⟩:=hT.get (k:=g.1) (by omega)
  have hyo:y.o=p:=by
   have h1:=(hT.mY g.1 y hy).1
   have h2:ops.toList[g.1]? =some p:=by simpa using hp
   rw [h2] at h1
   exact (VF h1).symm
  rw [hT.new hF hy (by rw [hyo];exact hd) q hgq (Y9 hql)]
  refine (hI.done g.1 y d (hdone g.1 hbit) hy (by rw [hyo];exact hd)).mono (cL fun b e hb he=>⟨?_,he⟩)
  rcases hb with hb |⟨i,h1,rfl |h2⟩
  ·exact .inl hb
  ·exact .inr ⟨_,h1,.inr hbit⟩
  ·exact .inr ⟨i,h1,.inr (qY q g.1 i hbit h2)⟩
 have hheavy:bJ P t.o.op=2→q=h:=by
  intro hc
  rcases Nat.lt_trichotomy q h with hl |hl |hl
  ·have:=(hI.MH q t.o hqo hc).2 hl
   rw [hD] at this;cases this
  ·exact hl
  ·have hhl:h<ops.toList.length:=by omega
   have hho:ops.toList[h]? =some ops.toList[h]:=Wj hhl
   obtain ⟨h1,h2⟩:=hI.Jp _ hho
   have:=hdone h (hF.Bq h q _ t.o hl hho hqo h1 hc)
   rw [h2] at this;cases this
 have hmay:ia (ahead ops.toList) t.i h (qL P ops.toList 0)=true:=by
  rw [htiq]
  refine Bw fun x hx hcx=>?_
  obtain ⟨o,g1,hco⟩:=MI hx
  rw [hcx] at hco
  have hcy:=hco.symm
  generalize x.1=e at g1
  refine ⟨fun hb=>(hI.MH e o g1 hcy).1 (hdone e hb),fun hb=>?_⟩
  rcases VI e h with hl |hl
  ·have:=hI.down e q ((hI.MH e o g1 hcy).2 hl) hb
   rw [hD] at this;cases this
  ·exact hl
 have hsemN: ∀{x},gv t.o.op P (A q) (S q)=some x→(∀d s',x≠.defer d s')→t.o.semAt b.roundOf ca.eval=execOp ca.eval t.o:=fun hx h=>Zq _ _ _ (iu hx h)
 cases hw:t.w with
 |false=>
  have hskip:Steps P (lone (b.atR ca (.inRegion ops (q::rest)::k)) cs w) (lone (b.atR (ca.put t.o.dst undef) (.inRegion ops rest::k)) cs w):=by
   have:=stepR_op_skip (P:=P) (b:=b) (a:=ca) (k:=k) (cs:=cs) (w:=w) (ops:=ops) (i:=q) (rest:=rest) (by rw [ho];simp [hwant,hw])
   rw [show (ops[q]?).bind (·.dst)=t.o.dst from by rw [ho];rfl] at this
   exact .one this
  have hv:t.v= .undef∧S (q+1)=S q:=by
   rw [hw] at hst
   generalize t.v=tv at hst
   generalize S (q+1)=sq at hst
   cases hst
   exact ⟨rfl,rfl⟩
  by_cases hc:bJ P t.o.op=2
  ·have:=hheavy hc
   subst this
   obtain ⟨μ',h',hI'⟩:=hI.Bq hF hT hq hdone hc (μ₁:=cC μ (jq S q)) (w₁:=w) (u:=undef) (by rw [hv.2];exact hI.sr.stay) (by rw [hv.1];exact fC)
   exact ⟨μ',h',_,_,hskip,hI'⟩
  ·exact ⟨μ,h,_,_,hskip,hI.idle hF hT hq hD hdone hc hw hv.1⟩
 |true=>
  have hspec:=pQ hchk t hmem hw
  rw [hw] at hst hwant
  have stp: ∀{u:Value} {w':World},(execOp ca.eval t.o).run P w= .ok (.value u) w'→∀{x},gv t.o.op P (A q) (S q)=some x→(∀d s',x≠.defer d s')→
   Steps P (lone (b.atR ca (.inRegion ops (q::rest)::k)) cs w) (lone (b.atR (ca.put t.o.dst u) (.inRegion ops rest::k)) cs w'):=fun h1 _ hx hn=>.one (uq ho hwant (by rw [hsemN hx hn];exact h1))
  rcases yV P t.o.op with hc |hc |hc |hc |hc
  ·
   obtain ⟨hlb,hat⟩:=jC (hspec.1 hc) _ hhead hmay
   obtain ⟨u,w',h1,h2⟩:=hI.read hP hF hT hq hD hdone hw hc (fun j y hy hcy hb=>by
    exact sd hlb _ (Bx (P:=P) (hT.mY j y hy).1) hcy (by rw [htiq];exact hb)) hat
   have hx: ∃v,gv t.o.op P (A q) (S q)=some (.val v (S q)):=by
    generalize t.v=tv at hst
    generalize S (q+1)=sq at hst
    cases hst with
    |val _ _ hx=>obtain ⟨v,e,_⟩:=BA P (A q) hc (S q).h (S q).n _ hx;cases e;exact ⟨_,hx⟩
    |skip _ hx=>obtain ⟨v,e,_⟩:=BA P (A q) hc (S q).h (S q).n _ hx;cases e
    |enter f args s0 v rc s1 hx _=>obtain ⟨v,e,_⟩:=BA P (A q) hc (S q).h (S q).n _ hx;cases e
    |round l args s0 v rc s1 hx _=>obtain ⟨v,e,_⟩:=BA P (A q) hc (S q).h (S q).n _ hx;cases e
   obtain ⟨v,hx⟩:=hx
   exact ⟨μ,h,_,_,stp h1 hx (by simp),h2⟩
  ·
   have hx:gv t.o.op P (A q) (S q)=some (.val t.v (S (q+1))):=by
    generalize t.v=tv at hst
    generalize S (q+1)=sq at hst
    cases hst with
    |val _ _ hx=>exact hx
    |skip _ hx=>obtain ⟨v,bU,_,e,_⟩:=pJ P (A q) hc (S q) _ hx;cases e
    |enter f args s0 v rc s1 hx _=>obtain ⟨v,bU,_,e,_⟩:=pJ P (A q) hc (S q) _ hx;cases e
    |round l args s0 v rc s1 hx _=>obtain ⟨v,bU,_,e,_⟩:=pJ P (A q) hc (S q) _ hx;cases e
   have hrow:q<h→∀bU,S (q+1)=(S q).push bU→(S h).h.get (S q).n=some bU:=by
    intro hlt bU hpush
    have hlay:=hspec.2 hc
    unfold nK at hlay
    rw [htA,htS,hx] at hlay
    have hr:=sc (show iL (ahead ops.toList) (qL P ops.toList 0) t.i (S q).n (S (q+1)) _=true from hlay) _ hhead (by rw [htiq];exact hlt) hmay
    rw [htiq] at hr
    rcases hr with hr |hr
    ·have key: ∀d,q+1+d≤h→(S (q+1+d)).h.get (S q).n=some bU:=by
      intro d
      induction d with
      |zero=>intro _;rw [Nat.add_zero,hpush,bP,if_pos rfl]
      |succ d ih=>
       intro hd
       have ih:=ih (by omega)
       generalize hjd:q+1+d=j at ih
       have hle:=hI.hle
       obtain ⟨y,hy⟩:=hT.get (k:=j) (by omega)
       obtain ⟨hyo,hyi,_⟩:=hT.mY j y hy
       have hc2:bJ P y.o.op≠2:=fun e=>by
        have:h≤j:=xu hr _ (Bx (P:=P) hyo) e (show q<j by omega)
        omega
       rw [show q+1+(d+1)=j+1 from by omega]
       rcases hT.uz hF hy hc2 with ⟨_,_,blk',_,e⟩ |⟨_,e⟩
       ·rw [e,bP,if_neg (fun e=>?_)]
        ·exact ih
        ·have h1:=hT.mono (j:=q+1) (k:=j) (by omega) (by omega)
         have h2:(S (q+1)).n.toNat=(S q).n.toNat+1:=by rw [hpush,eh,Pos.bZ]
         rw [e] at h1
         omega
       ·rw [e];exact ih
     have:=key (h - (q+1)) (by omega)
     rwa [show q+1+(h - (q+1))=h from by omega] at this
    ·refine MK hr ?_
     rw [hpush,bP,if_pos rfl]
   obtain ⟨μ',u,w',h1,h2⟩:=hI.lay hF hT hq hD hdone hw hc hx hrow
   exact ⟨μ',h,_,_,stp h1 hx (by simp),h2⟩
  ·
   have:=hheavy hc
   subst this
   obtain ⟨a',ha,hsame⟩:=hI.mask hF hT hq hD hdone
   have hsub:Sub (cC μ (yX P ops.toList tels S q q)) (cC μ (jq S q)):=cL fun b e hb he=>⟨by
    rcases hb with hb |⟨i,⟨y,h1,h2,h3,rfl⟩,hbi⟩
    ·exact hb
    ·have:=kR q i hbi
     have:=hT.mono (j:=i+1) (k:=q) (by omega) (by omega)
     have:=hT.Dt hF h1 h2 h3
     show (S i).n.toNat<(S q).n.toNat
     omega,he⟩
   obtain ⟨μ₁,w₁,V,hg,hv,hsteps⟩:=GR hP hr ho hst hsame hI.sr (ha.mono hsub) (b:=b) (cs:=cs) (k:=k) (rest:=rest) hwant
   obtain ⟨μ',h',hI'⟩:=hI.Bq hF hT hq hdone hc hg hv
   exact ⟨μ',h',_,_,hsteps,hI'⟩
  ·exact absurd hc (hF.cls q t.o hqo)
  ·
   have hx: ∃s1,gv t.o.op P (A q) (S q)=some (.val t.v s1):=by
    generalize t.v=tv at hst
    generalize S (q+1)=sq at hst
    cases hst with
    |val _ _ hx=>exact ⟨_,hx⟩
    |skip _ hx=>obtain ⟨v,e⟩:=(xp P (A q) hc).re (S q) _ hx;cases e
    |enter f args s0 v rc s1 hx _=>obtain ⟨v,e⟩:=(xp P (A q) hc).re (S q) _ hx;cases e
    |round l args s0 v rc s1 hx _=>obtain ⟨v,e⟩:=(xp P (A q) hc).re (S q) _ hx;cases e
   obtain ⟨s1,hx⟩:=hx
   obtain ⟨u,w',h1,h2⟩:=hI.pure hP hF hT hq hD hdone hc hx
   exact ⟨μ,h,_,_,stp h1 hx (by simp),h2⟩
theorem xy (hF:Fit P ops.toList) (hT:jX P r ops.toList ops.toList 0 tels A S B) (hs:SR P N μ₀ (S 0) w₀) (ha:AR P μ₀ (A 0) ca): ∃h,Inv P N ops.toList tels A S μ₀ w₀ (fun _=>false) h μ₀ ca w₀:=by
 obtain ⟨h,_,hh2,hh3,hh4⟩:=xw P ops.toList _ 0 rfl (Xz _)
 have hres: ∀j,j≤ops.toList.length→cC μ₀ (jq S j)=μ₀:=fun j hj=>by
  refine bw.same (fun b=>?_) rfl
  rw [kU]
  by_cases hb:jq S j b
  ·rw [if_pos hb]
  ·rw [if_neg hb]
   cases hm:μ₀ b with
   |none=>rfl
   |some e=>exact absurd (VX (hs.lt b e hm) (hT.mono (Xz _) hj)) hb
 have along: ∀j,j≤h→SR P N μ₀ (S j) w₀:=by
  intro j
  induction j with
  |zero=>intro _;exact hs
  |succ j ih=>
   intro hj
   have ih:=ih (by omega)
   obtain ⟨y,hy⟩:=hT.get (k:=j) (by omega)
   rcases hT.uz hF hy (hh4 j y.o (Xz _) (by omega) (hT.mY j y hy).1) with ⟨_,_,bU,_,e⟩ |⟨_,e⟩
   ·rw [e];exact ih.Jt
   ·rw [e];exact ih
 refine ⟨h,(fun i hi=>absurd hi (by simp)),(fun i j hi=>absurd hi (by simp)),hh2,fun o ho=>⟨hh3 o ho,rfl⟩,fun e o ho hc=>⟨(fun q=>absurd q (by simp)),fun q=>absurd hc (hh4 e o (Xz _) q ho)⟩,ha.size,?_,(fun i t d hi=>absurd hi (by simp)),fun d _=>?_,?_,(fun j t hj=>absurd hj (by simp)),
  fun b e hb=>.inl (VX (hs.lt b e hb) (hT.mono (Xz _) hh2)),fun j t _ ht _ _=>?_,Ev.refl _ _ _,Ext.refl _ _,fun b e hb=>.inl hb⟩
 ·rw [hres 0 (Xz _)];exact ha.defers
 ·rw [hres 0 (Xz _)];exact ha.tm d
 ·rw [hres h hh2];exact along h (VY _)
 ·cases hm:μ₀ (S j).n with
  |none=>rfl
  |some e=>
   have:=hs.lt _ _ hm
   have:=hT.mono (j:=0) (k:=j) (Xz _) (Y9 (hT.lt ht))
   omega
theorem Inv.end (hF:Fit P ops.toList) (hT:jX P r ops.toList ops.toList 0 tels A S B) (hs:SR P N μ₀ (S 0) w₀) (hI:Inv P N ops.toList tels A S μ₀ w₀ D h μ ca w) (hall: ∀i,i<ops.size→D i=true):
 bF P N μ₀ (S 0) w₀ μ (S ops.toList.length) w∧AR P μ (A ops.toList.length) ca:=by
 have hh:h=ops.toList.length:=by
  rcases VI h ops.toList.length with hl |hl
  ·have:=(hI.Jp _ (Wj hl)).2
   rw [hall h (by simpa using hl)] at this
   cases this
  ·exact Zr hI.hle hl
 have hlt: ∀b e,μ b=some e→jq S h b:=fun b e hb=>by
  rcases hI.Hz b e hb with q |⟨j,_,q,y,hy,_⟩
  ·exact q
  ·have:=hT.lt hy;omega
 have hres:cC μ (jq S h)=μ:=by
  refine bw.same (fun b=>?_) rfl
  rw [kU]
  by_cases hb:jq S h b
  ·rw [if_pos hb]
  ·rw [if_neg hb]
   cases hm:μ b with
   |none=>rfl
   |some e=>exact absurd (hlt b e hm) hb
 have hsr:=hI.sr
 rw [hres,hh] at hsr
 have hany: ∀(p:Pos→Prop),Sub (cC μ p) μ:=fun p=>⟨fun b e hb=>(bz.1 hb).2,fun _ _ h=>h⟩
 obtain ⟨e1,e2,e3⟩:=hT.same ops.toList.length (VY _)
 refine ⟨⟨hI.ext,hI.fresh,hT.mono (Xz _) (VY _),hI.ev,hsr⟩,⟨fun d=>?_,by rw [e1];exact hI.size,by rw [e2];exact hI.wC.mono (hany _)⟩⟩
 show VR P μ ((A ops.toList.length).tmp d) _
 by_cases hw: ∃(j:Nat) (o:Oper),ops.toList[j]? =some o∧o.dst=some d
 ·obtain ⟨j,o,hj,hd⟩:=hw
  have hjl:j<ops.toList.length:=(List.getElem?_eq_some_iff.1 hj).1
  obtain ⟨y,hy⟩:=hT.get hjl
  have hyo:y.o=o:=by
   have:=(hT.mY j y hy).1
   rw [hj] at this
   exact (VF this).symm
  subst hyo
  rw [hT.new hF hy hd _ hjl (VY _)]
  exact (hI.done j y d (hall j (by simpa using hjl)) hy hd).mono (hany _)
 ·have hn: ∀(i:Nat) (o:Oper),ops.toList[i]? =some o→o.dst≠some d:=fun i o ho hd=>hw ⟨i,o,ho,hd⟩
  rw [hT.iG _ (VY _) fun j o _ ho=>hn j o ho]
  exact (hI.iG d fun i o ho hd=>absurd hd (hn i o ho)).mono (hany _)
end
end
end
section
open Go Go.RowKit
variable [Env]
section
variable {P:Program} {N:Nat}
theorem Dz {m:Region.Mode} {ops:Array Oper} (hR:uC m ops) {b:Frame} {k:List Item} {cs:List Frame} {I:Array Bool→Act→World→Prop} {Q:Machine→Prop}
 (hstep: ∀(listed:Array Bool) (ca:Act) (w:World) (i:Nat),I listed ca w→i∈Zd m ops listed→∀rest,
  (∃ca' w',Steps P (lone (b.atR ca (.inRegion ops (i::rest)::k)) cs w) (lone (b.atR ca' (.inRegion ops rest::k)) cs w')∧I (listed.setIfInBounds i true) ca' w')∨∃m',Q m'∧Steps P (lone (b.atR ca (.inRegion ops (i::rest)::k)) cs w) m'):
 ∀(fuel t:Nat) (listed:Array Bool) (ca:Act) (w:World),listed.size=ops.size→fg listed=fuel→I listed ca w→
  (∃listed' ca' w',(∀i,i<ops.size→listed'.getD i true=true)∧I listed' ca' w'∧Steps P (lone (b.atR ca (.inRegion ops (Zf m ops fuel t listed [])::k)) cs w) (lone (b.atR ca' k) cs w'))∨
   ∃m',Q m'∧Steps P (lone (b.atR ca (.inRegion ops (Zf m ops fuel t listed [])::k)) cs w) m':=by
 obtain ⟨ρ,hρ⟩:=hR
 intro fuel
 induction fuel with
 |zero=>
  intro t listed ca w hsz hun hI
  exact .inl ⟨listed,ca,w,fun i hi=>ny hun (by omega),hI,.one stepR_region_end⟩
 |succ fuel ih=>
  intro t listed ca w hsz hun hI
  obtain ⟨i0,hi0,hl0⟩:=pO (listed:=listed) (by omega)
  have hne:=uD hsz hρ (ρ i0) i0 rfl (by omega) hl0
  have hlen:0<(Zd m ops listed).length:=List.length_pos_iff.2 hne
  have hget:(Zd m ops listed)[t % (Zd m ops listed).length]? =some ((Zd m ops listed)[t % (Zd m ops listed).length]'(Nat.mod_lt _ hlen)):=Wj _
  generalize hi:(Zd m ops listed)[t % (Zd m ops listed).length]'(Nat.mod_lt _ hlen)=i at hget
  have hmem:i∈Zd m ops listed:=by rw [←hi];exact List.getElem_mem _
  have hgo:Zf m ops (fuel+1) t listed []=i::Zf m ops fuel (t / (Zd m ops listed).length) (listed.setIfInBounds i true) []:=by
   show (match (Zd m ops listed)[t % (Zd m ops listed).length]? with |some i=>Zf m ops fuel (t / (Zd m ops listed).length) (listed.setIfInBounds i true) [i] |none=>[].reverse)=_
   rw [hget]
   show Zf m ops fuel (t / (Zd m ops listed).length) (listed.setIfInBounds i true) [i]=_
   rw [linearise_go_acc]
   rfl
  rw [hgo]
  rcases hstep listed ca w i hI hmem (Zf m ops fuel (t / (Zd m ops listed).length) (listed.setIfInBounds i true) []) with ⟨ca₁,w₁,hs,hI₁⟩ |⟨m',h1,h2⟩
  ·have hun₁:=kS (mem_ready.1 hmem).1
   rcases ih (t / (Zd m ops listed).length) (listed.setIfInBounds i true) ca₁ w₁ (by simpa using hsz) (by omega) hI₁ with ⟨listed',ca',w',h1,h2,h3⟩ |⟨m',h1,h2⟩
   ·exact .inl ⟨listed',ca',w',h1,h2,hs.trans h3⟩
   ·exact .inr ⟨m',h1,hs.trans h2⟩
  ·exact .inr ⟨m',h1,h2⟩
theorem BD {o:Oper} {k:Nat→aN→St→Option (List gw)} {i:Nat} {a:aN} {s:St} {w:Bool} {v:AV} {s':St} {q:List gw} (h:qM o k i a s w v s'=some q):
 s.n.toNat≤s'.n.toNat∧∃a' q',a.put o.dst v=some a'∧k (i+1) a' s'=some q'∧q=⟨i,o,a,s,w,v⟩::q':=by
 obtain ⟨h1,h2⟩:=aj.1 h
 rw [yT,yT] at h1
 obtain ⟨a',h3,h4⟩:=aa.1 h2
 obtain ⟨q',h5,h6⟩:=aO.1 h4
 exact ⟨VQ h1,a',q',h3,h5,h6.symm⟩
def Jv (b:List Nat) (n i:Nat):Bool:=Vo i n||bit b i n
theorem uI {r:Rec} {all:List Oper} {b:List Nat} {n:Nat}: ∀(l:List Oper) (i:Nat) (a:aN) (s:St) (q:List gw),nL P all b n l i a s=some q→
 ∃A S,A 0=a∧S 0=s∧jX P r all l i q A S fun k=>Jv b n (i+k)
 |[],i,a,s,q,h=>by
  cases h
  exact ⟨fun _=>a,fun _=>s,rfl,rfl,rfl,fun k t h=>by simp at h⟩
 |o::l,i,a,s,q,h=>by
  replace h:au (Jv b n i) (qM o (nL P all b n l) i a s false .undef s) (ab (eG all a o.guard) (Iu P o (nL P all b n l) i a s))=some q:=h
  have key: ∃w v s1,(Jv b n i=false→eG all a o.guard=some w)∧((Jv b n i=false→pM P r o a s w v s1)∧(Jv b n i=true→w=false∧v= .undef∧s1=s))∧qM o (nL P all b n l) i a s w v s1=some q:=by
   cases hB:Jv b n i with
   |true=>
    rw [hB] at h
    exact ⟨false,.undef,s,(fun e=>by cases e),⟨(fun e=>by cases e),fun _=>⟨rfl,rfl,rfl⟩⟩,h⟩
   |false=>
    rw [hB] at h
    obtain ⟨w,hw,h⟩:=aa.1 (show ab (eG all a o.guard) (Iu P o (nL P all b n l) i a s)=some q from h)
    cases w with
    |false=>exact ⟨false,.undef,s,fun _=>hw,⟨fun _=>.no,(fun e=>by cases e)⟩,h⟩
    |true=>
     obtain ⟨x,hx,h⟩:=aa.1 (show ab (gv o.op P a s) (It o (nL P all b n l) i a s)=some q from h)
     cases x with
     |val v s1=>exact ⟨true,v,s1,fun _=>hw,⟨fun _=>.val v s1 hx,(fun e=>by cases e)⟩,h⟩
     |_=>cases h
  obtain ⟨w,v,s1,hw,hst,hp⟩:=key
  obtain ⟨hle,a',q',h3,h5,rfl⟩:=BD hp
  obtain ⟨A,S,rfl,rfl,hT⟩:=uI l (i+1) a' s1 q' h5
  refine ⟨fun k=>match k with |0=>a |k+1=>A k,fun k=>match k with |0=>s |k+1=>S k,rfl,rfl,congrArg (· +1) hT.len,fun k t ht=>?_⟩
  cases k with
  |zero=>
   simp at ht
   subst ht
   exact ⟨rfl,rfl,rfl,rfl,hw,hst,hle,h3⟩
  |succ k=>
   obtain ⟨g1,g2,g3,g4,g5,g6,g7,g8⟩:=hT.mY k t (by simpa using ht)
   have e:i+(k+1)=i+1+k:=by omega
   refine ⟨by simpa using g1,by omega,g3,g4,?_,?_,g7,g8⟩
   ·rw [e];exact g5
   ·rw [e];exact g6
theorem jX.append {r:Rec} {all l1 l2:List Oper} {i:Nat} {t1 t2:List gw} {A1 A2:Nat→aN} {S1 S2:Nat→St} {B:Nat→Bool} (h1:jX P r all l1 i t1 A1 S1 B) (h2:jX P r all l2 (i+l1.length) t2 A2 S2 fun k=>B (l1.length+k))
 (hA:A1 l1.length=A2 0) (hS:S1 l1.length=S2 0):
 jX P r all (l1++l2) i (t1++t2) (fun k=>if k<l1.length then A1 k else A2 (k - l1.length)) (fun k=>if k<l1.length then S1 k else S2 (k - l1.length)) B:=by
 refine ⟨by simp [h1.len,h2.len],fun k t ht=>?_⟩
 by_cases hk:k<l1.length
 ·rw [VJ (by rw [h1.len];exact hk)] at ht
  obtain ⟨g1,g2,g3,g4,g5,g6,g7,g8⟩:=h1.mY k t ht
  have eA:(if k+1<l1.length then A1 (k+1) else A2 (k+1 - l1.length))=A1 (k+1):=by
   by_cases hk1:k+1<l1.length
   ·rw [if_pos hk1]
   ·rw [if_neg hk1,show k+1=l1.length by omega,Zs,hA]
  have eS:(if k+1<l1.length then S1 (k+1) else S2 (k+1 - l1.length))=S1 (k+1):=by
   by_cases hk1:k+1<l1.length
   ·rw [if_pos hk1]
   ·rw [if_neg hk1,show k+1=l1.length by omega,Zs,hS]
  simp only [if_pos hk,eA,eS]
  exact ⟨by rw [VJ hk];exact g1,g2,g3,g4,g5,g6,g7,g8⟩
 ·rw [VL (by rw [h1.len];omega),h1.len] at ht
  obtain ⟨g1,g2,g3,g4,g5,g6,g7,g8⟩:=h2.mY _ t ht
  have e1:l1.length+(k - l1.length)=k:=by omega
  have e2:k+1 - l1.length=k - l1.length+1:=by omega
  simp only [e1] at g5 g6
  simp only [if_neg hk,if_neg (show ¬k+1<l1.length by omega),e2]
  exact ⟨by rw [VL (by omega)];exact g1,by omega,g3,g4,g5,g6,g7,g8⟩
theorem BE {d:Nat}: ∀(l:List Oper) (t:Tr AV),(∃o,o∈l∧o.dst=some d)∧(F8 l t).get (pos d)=some .bad∨((F8 l t).get (pos d)=t.get (pos d)∧∀o∈l,o.dst≠some d)
 |[],t=>.inr ⟨rfl,fun _ h=>by cases h⟩
 |o::l,t=>by
  have key:F8 (o::l) t=F8 l (@Option.rec Tmp (fun _=>Tr AV) t (fun d=>t.set (pos d) .bad) o.dst):=rfl
  rw [key]
  rcases BE (d:=d) l (@Option.rec Tmp (fun _=>Tr AV) t (fun d=>t.set (pos d) .bad) o.dst) with ⟨⟨o',h1,h2⟩,h3⟩ |⟨h1,h2⟩
  ·exact .inl ⟨⟨o',V3 _ h1,h2⟩,h3⟩
  ·rw [h1]
   cases hd:o.dst with
   |none=>
    refine .inr ⟨rfl,fun o' ho=>?_⟩
    cases ho with
    |head=>rw [hd];exact fun e=>by cases e
    |tail _ ho=>exact h2 o' ho
   |some x=>
    by_cases hx:x=d
    ·subst hx
     exact .inl ⟨⟨o,V2 ..,hd⟩,ij _ _ _⟩
    ·refine .inr ⟨kG _ _ (fun e=>hx (pr e)),fun o' ho=>?_⟩
     cases ho with
     |head=>rw [hd];exact fun e=>hx (VF e)
     |tail _ ho=>exact h2 o' ho
section
variable {r:Rec} {ops:Array Oper} {tels:List gw} {A:Nat→aN} {S:Nat→St} {B:Nat→Bool} {μ₀ μ:bw} {w₀ w:World} {D:Nat→Bool} {h:Nat} {ca:Act}
theorem GS (hF:Fit P ops.toList) {o:Oper} {n:Nat} (ho:ops.toList[n]? =some o) {a:aN} {s s1:St} {c:ed} (hp:GN P r o a s c s1):bJ P o.op=2:=by
 have h3:=hF.cls n o ho
 have key: ∀x,gv o.op P a s=some x→(∀v s',x≠.val v s')→bJ P o.op=2:=by
  intro x hx hn
  rcases yV P o.op with h |h |h |h |h
  ·obtain ⟨v,e⟩:=NZ P a h s x hx;exact absurd e (hn _ _)
  ·obtain ⟨v,bU,_,e,_⟩:=pJ P a h s x hx;exact absurd e (hn _ _)
  ·exact h
  ·exact absurd h h3
  ·obtain ⟨v,e⟩:=(xp P a h).re s x hx;exact absurd e (hn _ _)
 cases hp with
 |enter f args s0 c rc s1 hx _=>exact key _ hx (by simp)
 |round l args s0 c rc s1 hx _=>exact key _ hx (by simp)
theorem Inv.panics (hP:cB P) (hr:gL P N r) (hF:Fit P ops.toList) (hT:jX P r ops.toList ops.toList 0 tels A S B) (hs0:SR P N μ₀ (S 0) w₀) (hI:Inv P N ops.toList tels A S μ₀ w₀ D h μ ca w) {t:gw} (hq:tels[h]? =some t)
 (hdone: ∀j,bit (ahead ops.toList) h j=true→D j=true) (hwt:eG ops.toList (A h) t.o.guard=some true) {c:ed} {s1:St} (hp:GN P r t.o (A h) (S h) c s1) (b:Frame) (cs:List Frame) (k:List Item) (rest:List Nat):
 ∃μ₁ w₁ C k1,bF P N μ₀ (S 0) w₀ μ₁ s1 w₁∧AR P μ₁ (As ops.toList (A h)) ca∧z1 P μ₁ c C∧Steps P (lone (b.atR ca (.inRegion ops (h::rest)::k)) cs w) (lone ((b.atR ca k1).raise C) cs w₁):=by
 obtain ⟨hqo,_⟩:=hT.mY h t hq
 have hql:=hT.lt hq
 have ho:ops[h]? =some t.o:=by simpa using hqo
 have hw:YP t.o (yielded ops ca.tmps)=true:=by
  refine xx (P:=P) (μ:=cC μ (qZ P ops.toList tels S h h)) (a:=A h) (fun g p d hg hp hd=>?_) hwt
  have hbit:=hF.guard h t.o g hqo hg
  have hgq:=kR h g.1 hbit
  obtain ⟨y,hy⟩:=hT.get (k:=g.1) (by omega)
  have hyo:y.o=p:=by
   have h1:=(hT.mY g.1 y hy).1
   have h2:ops.toList[g.1]? =some p:=by simpa using hp
   rw [h2] at h1
   exact (VF h1).symm
  rw [hT.new hF hy (by rw [hyo];exact hd) h hgq (Y9 hql)]
  refine (hI.done g.1 y d (hdone g.1 hbit) hy (by rw [hyo];exact hd)).mono (cL fun b e hb he=>⟨?_,he⟩)
  rcases hb with hb |⟨i,h1,rfl |h2⟩
  ·exact .inl hb
  ·exact .inr ⟨_,h1,.inr hbit⟩
  ·exact .inr ⟨i,h1,.inr (qY h g.1 i hbit h2)⟩
 obtain ⟨a',ha,hsame⟩:=hI.mask hF hT hq (hI.Jp t.o hqo).2 hdone
 have hsub:Sub (cC μ (yX P ops.toList tels S h h)) (cC μ (jq S h)):=cL fun b e hb he=>⟨by
  rcases hb with hb |⟨i,⟨y,h1,h2,h3,rfl⟩,hbi⟩
  ·exact hb
  ·have:=kR h i hbi
   have:=hT.mono (j:=i+1) (k:=h) (by omega) (by omega)
   have:=hT.Dt hF h1 h2 h3
   show (S i).n.toNat<(S h).n.toNat
   omega,he⟩
 replace ha:=ha.mono hsub
 have hsem: ∀{x},gv t.o.op P a' (S h)=some x→(∀d s',x≠.defer d s')→t.o.semAt b.roundOf ca.eval=execOp ca.eval t.o:=fun hx h=>Zq _ _ _ (iu hx h)
 have back: ∃μ₁ w₁ C,bF P N (cC μ (jq S h)) (S h) w μ₁ s1 w₁∧z1 P μ₁ c C∧Steps P (lone (b.atR ca (.inRegion ops (h::rest)::k)) cs w) (lone ((b.atR ca (.inRegion ops (h::rest)::k)).raise C) cs w₁):=by
  cases hp with
  |enter f args s0 c rc s1 hx hq=>
   rw [←hsame] at hx
   obtain ⟨us,hres,rfl,hargs⟩:=dW hP hI.sr ha hx
   obtain ⟨μ',w',C,hg,hc,hst⟩:=((hr.call f args none (A h) (S h) _ hq).2 (cC μ (jq S h)) w (.norm (b.atR ca (.inRegion ops (h::rest)::k)::cs)) .run us hI.sr hargs (.norm _ _)).back
   exact ⟨μ',w',C,hg,hc,.head (nW ho hw (by rw [hsem hx (by simp)];exact hres)) hst⟩
  |round l args s0 c rc s1 hx hq=>
   rw [←hsame] at hx
   obtain ⟨e,us,hl,hres,rfl,hargs⟩:=dW hP hI.sr ha hx
   obtain ⟨fn,tmps,as,bd,hy,hb⟩:=hr.round l args (A h) (S h) _ hq (cC μ (jq S h)) w us e hI.sr hargs hl
   obtain ⟨μ',w',C,hg,hc,hst⟩:=hb (b.atR ca (.inRegion ops (h::rest)::k)) cs
   exact ⟨μ',w',C,hg,hc,.head (nX ho hw (by rw [hsem hx (by simp),hres];exact hy)) hst⟩
 obtain ⟨μ₁,w₁,C,hg,hc,hst⟩:=back
 have hle0:(S 0).n.toNat≤(S h).n.toNat:=hT.mono (Xz _) (Y9 hql)
 have hs1:Sub μ₀ μ₁:=⟨fun b e hb=>hg.ext.sub b e (bz.2 ⟨VX (hs0.lt b e hb) hle0,hI.ext.sub b e hb⟩),fun ad v h=>hg.ext.sub.fz ad v (hI.ext.sub.fz ad v h)⟩
 have hsn:Sub (cC μ (jq S 0)) μ₁:=⟨fun b e hb=>by
  obtain ⟨h1,h2⟩:=bz.1 hb
  exact hg.ext.sub b e (bz.2 ⟨VX h1 hle0,h2⟩),hg.ext.sub.fz⟩
 obtain ⟨e1,e2,e3⟩:=hT.same h (Y9 hql)
 refine ⟨μ₁,w₁,C,_,⟨⟨hs1,fun b e hb=>?_,fun ad v ha=>?_⟩,fun b e hb=>?_,VZ hle0 hg.le,hI.yY hg.ev,hg.sr⟩,⟨fun d=>?_,?_,?_⟩,hc,hst⟩
 ·rcases hg.ext.new b e hb with q |⟨b₀,e₀,q1,q2⟩
  ·exact .inl (VZ hI.ev.size q)
  ·rcases hI.ext.new b₀ e₀ (bz.1 q1).2 with q |⟨b₁,e₁,q3,q4⟩
   ·exact .inl (q2▸q)
   ·exact .inr ⟨b₁,e₁,q3,q4.trans q2⟩
 ·rcases hg.ext.fZ ad v ha with q |q |⟨b₀,e₀,q1,q2⟩
  ·exact hI.ext.fZ ad v q
  ·exact .inr (.inl (VZ hI.ev.size q))
  ·rcases hI.ext.new b₀ e₀ (bz.1 q1).2 with q |⟨b₁,e₁,q3,q4⟩
   ·exact .inr (.inl (q2▸q))
   ·exact .inr (.inr ⟨b₁,e₁,q3,q4.trans q2⟩)
 ·rcases hg.fresh b e hb with q |q
  ·exact hI.fresh b e (bz.1 q).2
  ·exact .inr (VZ hle0 q)
 ·have hget:(As ops.toList (A h)).tm=F8 ops.toList (A h).tm:=by generalize A h=a;cases a;rfl
  rw [hget]
  rcases BE (d:=d) ops.toList (A h).tm with ⟨_,e⟩ |⟨e,hn⟩
  ·rw [e];exact .bad _
  ·rw [e]
   have hn': ∀(i:Nat) (o:Oper),ops.toList[i]? =some o→o.dst≠some d:=fun i o ho=>hn o (Zm ho)
   have:=hI.iG d fun i o ho hd=>absurd hd (hn' i o ho)
   rw [←hT.iG h (Y9 hql) fun j o _ ho=>hn' j o ho] at this
   exact this.mono hsn
 ·have:(As ops.toList (A h)).n=(A h).n:=by generalize A h=a;cases a;rfl
  rw [this,e1];exact hI.size
 ·have:(As ops.toList (A h)).defers=(A h).defers:=by generalize A h=a;cases a;rfl
  rw [this,e2];exact hI.wC.mono hsn
end
theorem ML (l:List Oper) (a:aN):(As l a).rc=a.rc:=by cases a;rfl
theorem m0 (hP:cB P):NY P N:=by
 intro r hr id ops rd a s o h μ w b X u k ca hs ha hX hk hrd hf
 obtain ⟨hok,h⟩:=aj.1 (show au (yA P ops.toList) (ab (jg P ops.toList r ops.toList 0 a s) (mW P ops.toList)) none=some o from h)
 obtain ⟨q,hq,hE⟩:=aa.1 h
 clear h
 have hF:=PH hok
 obtain ⟨A,S,rfl,rfl,hlen,hEnd,hT0⟩:=sb _ _ _ _ _ hq
 let w₀:World:={w with drawn:=w.drawn+1}
 have hk0:Kept w w₀:=⟨rfl,rfl,rfl,VY _,fun _ _=>rfl⟩
 have hs0:SR P N μ (S 0) w₀:=hs.kept hk0
 have hg0:bF P N μ (S 0) w μ (S 0) w₀:=⟨Ext.refl _ _,fun _ _ h=>.inl h,VY _,⟨rfl,rfl,rfl,VY _,fun _ _ _=>rfl⟩,hs0⟩
 obtain ⟨m,t',hsch,hR,hbinds⟩:=Jo hF (P.follows .mixedOrders) (w.tape w.drawn (.order b.fn id))
 have hempty:fg (YX ops.size false)=ops.size:=by
  unfold fg
  simp
 have hstep0:Steps P (lone (b.atR ca (.code (.region id ops true)::k)) (X.cs u) w) (lone (b.atR ca (.inRegion ops (Region.linearise m ops t')::k)) (X.cs u) w₀):=by
  rw [←hsch]
  exact .one stepR_region_draw
 have hD0: ∀i,false=(YX ops.size false).getD i false:=fun i=>by
  rw [We]
  cases hx:(YX ops.size false)[i]? with
  |none=>rfl
  |some x=>
   have:=Array.mem_of_getElem? hx
   simp at this
   rw [this.2];rfl
 have ready: ∀{D:Nat→Bool} {tels:List gw} {A:Nat→aN} {S:Nat→St} {B:Nat→Bool} {h:Nat} {μ':bw} {ca:Act} {w:World} {listed:Array Bool} {i:Nat},jX P r ops.toList ops.toList 0 tels A S B→listed.size=ops.size→(∀i,D i=listed.getD i false)→
  Inv P N ops.toList tels A S μ w₀ D h μ' ca w→i∈Zd m ops listed→∃t,tels[i]? =some t∧D i=false∧(∀j,bit (ahead ops.toList) i j=true→D j=true)∧i<ops.size:=by
  intro D tels A S B h μ' ca w listed i hT hsz hDl hI hready
  obtain ⟨hnl,o,ho,hedge⟩:=mem_ready.1 hready
  have hi:i<ops.size:=(Array.getElem?_eq_some_iff.1 ho).1
  obtain ⟨t,ht⟩:=hT.get (k:=i) (by simpa using hi)
  refine ⟨t,ht,?_,fun j hb=>?_,hi⟩
  ·rw [hDl]
   rw [We,Wo (by omega)] at hnl⊢
   simpa using hnl
  ·obtain ⟨e,he,hbi,hlt,hor⟩:=ux (ops:=ops.toList) (by simpa using ho) hb
   have hDe:D e.on=true:=by rw [hDl];exact hedge e (by simpa using he) (hbinds e hbi)
   rcases hor with rfl |hor
   ·exact hDe
   ·exact hI.down e.on j hDe hor
 have andD_l: ∀{D:Nat→Bool} {listed:Array Bool} {i:Nat},listed.size=ops.size→i<ops.size→(∀i,D i=listed.getD i false)→∀j,mr D i j=(listed.setIfInBounds i true).getD j false:=by
  intro D listed i hsz hi hDl j
  by_cases hj:j=i
  ·subst hj
   rw [eQ,We,Array.getElem?_setIfInBounds_self_of_lt (by omega)]
   rfl
  ·rw [bS D hj,hDl,We,We,Array.getElem?_setIfInBounds_ne (Zo hj)]
 cases hq2:q.2 with
 |done a' s'=>
  rw [hq2] at hEnd
  obtain ⟨hn,hAn,hSn⟩:=hEnd
  have h:au (cR P (ahead ops.toList) (qL P ops.toList 0) (mf P ops.toList.length s' q.1) q.1) (some (.at .normal a' s')) none=some o:=by
   have h:mW P ops.toList q=some o:=hE
   unfold mW at h
   rw [hq2] at h
   exact h
  obtain ⟨hchk,h⟩:=aj.1 h
  cases h
  rw [hn] at hAn hSn
  rw [hn,List.take_length] at hT0
  have hT:=hT0
  rw [←hSn] at hchk
  rw [←hAn,←hSn]
  obtain ⟨h0,hI0⟩:=xy hF hT hs0 ha
  have hhead: ∀{D:Nat→Bool} {h:Nat} {μ':bw} {ca:Act} {w:World},Inv P N ops.toList q.1 A S μ w₀ D h μ' ca w→(h,(S h).h)∈mf P ops.toList.length (S ops.toList.length) q.1:=by
   intro D h μ' ca w hI
   obtain ⟨m1,m2⟩:=ra (P:=P) (n:=ops.toList.length) (s:=S ops.toList.length) (l:=q.1)
   rcases VI h ops.toList.length with hl |hl
   ·obtain ⟨y,hy⟩:=hT.get hl
    obtain ⟨g1,g2,_,g4,_⟩:=hT.mY h y hy
    have:=m2 y (Zm hy) (hI.Jp y.o g1).1
    rw [g4] at this
    rwa [show y.i=h from by omega] at this
   ·have:h=ops.toList.length:=Zr hI.hle hl
    rw [this]
    exact m1
  obtain ⟨listed,ca',w',hall,⟨hsz,D,h',μ',hDl,hI⟩,hsteps⟩:=GQ (P:=P) hR (b:=b) (k:=k) (cs:=X.cs u)
   (I:=fun listed ca w=>listed.size=ops.size∧∃D h μ',(∀i,D i=listed.getD i false)∧Inv P N ops.toList q.1 A S μ w₀ D h μ' ca w)
   (fun listed ca w i hI hready rest=>by
    obtain ⟨hsz,D,h,μ',hDl,hI⟩:=hI
    obtain ⟨t,ht,hD,hdone,hi⟩:=ready hT hsz hDl hI hready
    obtain ⟨μ₂,h₂,ca₂,w₂,hst,hI₂⟩:=hI.step hP hr hF hT hchk (hhead hI) ht rfl hD hdone b (X.cs u) k rest
    exact ⟨ca₂,w₂,hst,by simpa using hsz,mr D i,h₂,μ₂,andD_l hsz hi hDl,hI₂⟩)
   ops.size t' (YX ops.size false) ca w₀ (by simp) hempty ⟨by simp,_,h0,μ,hD0,hI0⟩
  obtain ⟨hg,hA⟩:=hI.end hF hT hs0 fun i hi=>by
   rw [hDl,We,Wo (by omega)]
   have:=hall i hi
   rw [We,Wo (by omega)] at this
   simpa using this
  have hrc:=(hT.same ops.toList.length (VY _)).2.2
  exact ⟨μ',w',ca',u,hg0.trans hg,hA,by rw [hrc];exact hX.mono hg.ext.sub,hstep0.trans hsteps⟩
 |Pq p a' s' c s1=>
  rw [hq2] at hEnd
  obtain ⟨hpn,hAn,hSn,hwn,hpc⟩:=hEnd
  generalize hnn:q.1.length=n at*
  have hnl:n<ops.toList.length:=(List.getElem?_eq_some_iff.1 hpn).1
  have h:EZ P ops.toList q.1 n a' s' c s1=some o:=by
   have h:mW P ops.toList q=some o:=hE
   unfold mW at h
   rw [hq2] at h
   rw [←hnn]
   exact h
  obtain ⟨us,hus,h⟩:=aa.1 h
  obtain ⟨hchk,h⟩:=aj.1 (show au (cR P (ahead ops.toList) (qL P ops.toList 0) (mf P n s' q.1) (q.1++us)) (some (.at (.panic c) (As ops.toList a') s1)) none=some o from h)
  cases h
  obtain ⟨A2,S2,hA2,hS2,hT2⟩:=uI (r:=r) _ _ _ _ _ hus
  have htl:(ops.toList.take n).length=n:=by rw [List.length_take];omega
  have hT1:jX P r ops.toList (ops.toList.take n) 0 q.1 A S (Jv (ahead ops.toList) n):=by
   refine ⟨hT0.len,fun k t ht=>?_⟩
   obtain ⟨g1,g2,g3,g4,g5,g6,g7,g8⟩:=hT0.mY k t ht
   have hkn:k<n:=by rw [←hnn];exact (List.getElem?_eq_some_iff.1 ht).1
   have hB:Jv (ahead ops.toList) n k=false:=by
    unfold Jv
    rw [XW]
    refine ⟨by cases hb:Vo k n with
    |false=>rfl
    |true=>have:=VN hb;omega,?_⟩
    cases hb:bit (ahead ops.toList) k n with
    |false=>rfl
    |true=>have:=kR k n hb;omega
   exact ⟨g1,g2,g3,g4,fun _=>g5 rfl,⟨fun _=>g6.1 rfl,fun e=>by rw [hB] at e;cases e⟩,g7,g8⟩
  have hT:=hT1.append (l2:=ops.toList.drop n) (t2:=us) (A2:=A2) (S2:=S2) (by rw [htl,Yq];exact hT2) (by rw [htl,hA2,hAn]) (by rw [htl,hS2,hSn])
  rw [List.take_append_drop] at hT
  rw [htl] at hT
  generalize hAA:(fun k=>if k<n then A k else A2 (k - n))=AA at hT
  generalize hSS:(fun k=>if k<n then S k else S2 (k - n))=SS at hT
  have lo: ∀k,k≤n→AA k=A k∧SS k=S k:=fun k hk=>by
   rw [←hAA,←hSS]
   by_cases hkn:k<n
   ·simp only [if_pos hkn,and_self]
   ·have:k=n:=by omega
    subst this
    simp only [Zp,if_false,Zs,hA2,hS2,hAn,hSn,and_self]
  have hA0:=(lo 0 (Xz _)).1
  have hS0:=(lo 0 (Xz _)).2
  obtain ⟨hAnn,hSnn⟩:=lo n (VY _)
  rw [←hA0] at ha
  rw [←hS0] at hs0 hg0
  obtain ⟨h0,hI0⟩:=xy hF hT hs0 ha
  have hp2:=GS hF hpn hpc
  obtain ⟨tn,htn⟩:=hT.get hnl
  have htno:tn.o=p:=by
   have:=(hT.mY n tn htn).1
   rw [hpn] at this
   exact (VF this).symm
  have hle: ∀{D:Nat→Bool} {h:Nat} {μ':bw} {ca:Act} {w:World},Inv P N ops.toList (q.1++us) AA SS μ w₀ D h μ' ca w→D n=false→h≤n:=by
   intro D h μ' ca w hI hDn
   rcases VI n h with hl |hl
   ·rw [(hI.MH n p hpn hp2).2 hl] at hDn;cases hDn
   ·exact hl
  have hhead: ∀{D:Nat→Bool} {h:Nat} {μ':bw} {ca:Act} {w:World},Inv P N ops.toList (q.1++us) AA SS μ w₀ D h μ' ca w→D n=false→(h,(SS h).h)∈mf P n s' q.1:=by
   intro D h μ' ca w hI hDn
   obtain ⟨m1,m2⟩:=ra (P:=P) (n:=n) (s:=s') (l:=q.1)
   have hhn:=hle hI hDn
   rcases VI h n with hl |hl
   ·obtain ⟨y,hy⟩: ∃y,q.1[h]? =some y:=⟨_,Wj (by rw [hnn];exact hl)⟩
    obtain ⟨g1,g2,_,g4,_⟩:=hT1.mY h y hy
    rw [List.getElem?_take,if_pos hl] at g1
    have:=m2 y (Zm hy) (hI.Jp y.o g1).1
    rw [g4] at this
    rw [(lo h (Y9 hl)).2]
    rwa [show y.i=h from by omega] at this
   ·have:h=n:=Zr hhn hl
    rw [this,hSnn,hSn]
    exact m1
  rcases Dz (P:=P) hR (b:=b) (k:=k) (cs:=X.cs u)
   (I:=fun listed ca w=>listed.size=ops.size∧∃D h μ',(∀i,D i=listed.getD i false)∧D n=false∧Inv P N ops.toList (q.1++us) AA SS μ w₀ D h μ' ca w)
   (Q:=fun m'=>∃μ₁ w₁ C k1 ca₁,bF P N μ (SS 0) w₀ μ₁ s1 w₁∧AR P μ₁ (As ops.toList (A n)) ca₁∧z1 P μ₁ c C∧m'=lone ((b.atR ca₁ k1).raise C) (X.cs u) w₁)
   (fun listed ca w i hI hready rest=>by
    obtain ⟨hsz,D,e0,μ',hDl,hDn,hI⟩:=hI
    obtain ⟨t,ht,hD,hdone,hi⟩:=ready hT hsz hDl hI hready
    by_cases hin:i=n
    ·subst hin
     have hh:i=e0:=by
      have:=hle hI hDn
      rcases VI e0 i with hl |hl
      ·have hhl:e0<ops.toList.length:=by omega
       have hho:ops.toList[e0]? =some ops.toList[e0]:=Wj hhl
       obtain ⟨h1,h2⟩:=hI.Jp _ hho
       have:=hdone e0 (hF.Bq e0 i _ p hl hho hpn h1 hp2)
       rw [h2] at this;cases this
      ·omega
     subst hh
     rw [ht] at htn
     cases htn
     obtain ⟨μ₁,w₁,C,k1,q1,q2,q3,q4⟩:=hI.panics hP hr hF hT hs0 ht hdone (by rw [htno,hAnn];exact hwn) (by rw [htno,hAnn,hSnn];exact hpc) b (X.cs u) k rest
     rw [hAnn] at q2
     exact .inr ⟨_,⟨μ₁,w₁,C,k1,ca,q1,q2,q3,rfl⟩,q4⟩
    ·have hB:Jv (ahead ops.toList) n i=false:=by
      unfold Jv
      rw [XW]
      refine ⟨by cases hb:Vo i n with
      |false=>rfl
      |true=>exact absurd (VN hb) hin,?_⟩
      cases hb:bit (ahead ops.toList) i n with
      |false=>rfl
      |true=>have:=hdone n hb;rw [hDn] at this;cases this
     obtain ⟨μ₂,h₂,ca₂,w₂,hst,hI₂⟩:=hI.step hP hr hF hT hchk (hhead hI hDn) ht hB hD hdone b (X.cs u) k rest
     exact .inl ⟨ca₂,w₂,hst,by simpa using hsz,mr D i,h₂,μ₂,andD_l hsz hi hDl,by rw [bS D (Zo hin)];exact hDn,hI₂⟩)
   ops.size t' (YX ops.size false) ca w₀ (by simp) hempty ⟨by simp,_,h0,μ,hD0,rfl,hI0⟩ with ⟨listed,ca',w',hall,⟨hsz,D,h',μ',hDl,hDn,hI⟩,_⟩ |⟨m',⟨μ₁,w₁,C,k1,ca₁,q1,q2,q3,rfl⟩,hsteps⟩
  ·exfalso
   have hns:n<ops.size:=by simpa using hnl
   rw [hDl,We,Wo (by omega)] at hDn
   have:=hall n hns
   rw [We,Wo (by omega)] at this
   simp at this hDn
   rw [this] at hDn
   cases hDn
  ·rw [←hAn]
   refine ⟨μ₁,w₁,ca₁,u,?_,q2,?_,k1,C,q3,hstep0.trans hsteps⟩
   ·rw [←hS0];exact hg0.trans q1
   ·rw [ML,←hAnn,(hT.same n (Y9 hnl)).2.2,hA0]
    exact hX.mono q1.ext.sub
theorem kV (hP:cB P) {orc:NV} (ho:jW P orc.call) (hh:sE P N orc.loop): ∀n,gL P N (run P orc n):=GJ hP (m0 hP) ho hh
end
end
end Go.Proofs.Sai
