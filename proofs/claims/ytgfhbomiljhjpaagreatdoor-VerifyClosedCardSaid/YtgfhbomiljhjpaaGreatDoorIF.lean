/- Part IF of the proof of VerifyClosed: texts of the interpreter and what it shows, under short names. No condition. -/
import Derived.Test.YtgfhbomiljhjpaaGreatDoorIE
set_option linter.unusedVariables false
set_option linter.unusedSimpArgs false
set_option linter.unusedSectionVars false
open Array renaming getD_eq_getD_getElem?→Uw,replicate→Xe,getElem?_eq_getElem→UG
open Bool renaming and_eq_true→Uj,or_eq_false_iff→Wg
open Go.Oper renaming semAt_eq→XH
open Go.Region renaming wanted→W6,ready→Xu
open Go.Region.linearise renaming go→Xw
open List renaming not_mem_nil→Ub,mem_cons_of_mem→Ul,mem_cons_self→Uk,getElem?_cons_succ→Wr,mem_of_getElem?→XD,getElem?_eq_getElem→UB,getElem?_append_left→T3,getElem?_append_right→T5
open Nat renaming beq→TJ,blt→TY,blt_eq→Xj,ble→TO,le_of_ble_eq_true→Ua,eq_of_beq_eq_true→T7,zero_add→WH,lt_of_lt_of_le→Ug,le_refl→Uh,ne_of_lt→XE,le_of_lt→Xq,le_trans→Ui,zero_le→VT,lt_irrefl→XG,lt_or_ge→T2,le_antisymm→XI,sub_self→XJ
open Ne renaming symm→XF
open Option.some renaming inj→TZ
namespace Go.Proofs.Sai
section
open Go Go.RowKit
variable [Env]
section
variable {P:Program}
theorem oB {b:List Nat} {cl:List (Nat×Nat)} {hs:List (Nat×Tr bf)}: ∀{l:List fS},cO P b cl hs l=true→∀t∈l,t.w=true→
 (bF P t.o.op=0→gd P b cl t.i t.o t.a t.s t.v hs=true)∧(bF P t.o.op=1→mQ P b cl t.i t.o t.a t.s hs=true)
 |[],_,t,ht,_=>absurd ht Ub
 |x::l,h,t,ht,hw=>by
  replace h:aQ x.w (aQ (TJ (bF P x.o.op) 0) (aQ (gd P b cl x.i x.o x.a x.s x.v hs) (cO P b cl hs l) false) (aQ (TJ (bF P x.o.op) 1) (aQ (mQ P b cl x.i x.o x.a x.s hs) (cO P b cl hs l) false) (cO P b cl hs l))) (cO P b cl hs l)=true:=h
  have hrest:cO P b cl hs l=true:=by
   cases hxw:x.w with
   |false=>rw [hxw] at h;exact h
   |true=>
    rw [hxw] at h
    replace h:aQ (TJ (bF P x.o.op) 0) (aQ (gd P b cl x.i x.o x.a x.s x.v hs) (cO P b cl hs l) false) (aQ (TJ (bF P x.o.op) 1) (aQ (mQ P b cl x.i x.o x.a x.s hs) (cO P b cl hs l) false) (cO P b cl hs l))=true:=h
    cases h0:TJ (bF P x.o.op) 0 with
    |true=>rw [h0] at h;exact (bB h).2
    |false=>
     rw [h0] at h
     replace h:aQ (TJ (bF P x.o.op) 1) (aQ (mQ P b cl x.i x.o x.a x.s hs) (cO P b cl hs l) false) (cO P b cl hs l)=true:=h
     cases h1:TJ (bF P x.o.op) 1 with
     |true=>rw [h1] at h;exact (bB h).2
     |false=>rw [h1] at h;exact h
  cases ht with
  |tail _ ht=>exact oB hrest t ht hw
  |head=>
   rw [hw] at h
   replace h:aQ (TJ (bF P x.o.op) 0) (aQ (gd P b cl x.i x.o x.a x.s x.v hs) (cO P b cl hs l) false) (aQ (TJ (bF P x.o.op) 1) (aQ (mQ P b cl x.i x.o x.a x.s hs) (cO P b cl hs l) false) (cO P b cl hs l))=true:=h
   refine ⟨fun hc=>?_,fun hc=>?_⟩
   ·rw [hc] at h;exact (bB h).1
   ·rw [hc] at h;exact (bB h).1
theorem jc {b:List Nat} {cl:List (Nat×Nat)} {i:Nat} {o:Oper} {a:aV} {s:St} {v:AV}: ∀{hs:List (Nat×Tr bf)},gd P b cl i o a s v hs=true→∀h∈hs,gE b i h.1 cl=true→i6 b i h.1 cl=true∧jm P o a s v h.2=true
 |x::hs,hc,h,hm,hb=>by
  replace hc:aQ (gE b i x.1 cl) (aQ (i6 b i x.1 cl) (aQ (jm P o a s v x.2) (gd P b cl i o a s v hs) false) false) (gd P b cl i o a s v hs)=true:=hc
  cases hm with
  |head=>
   rw [hb] at hc
   obtain ⟨h1,h2⟩:=bB (b:=i6 b i x.1 cl) hc
   exact ⟨h1,(bB h2).1⟩
  |tail _ hm=>
   cases hq:gE b i x.1 cl with
   |true=>
    rw [hq] at hc
    obtain ⟨h1,h2⟩:=bB (b:=i6 b i x.1 cl) hc
    exact jc (bB h2).2 h hm hb
   |false=>rw [hq] at hc;exact jc hc h hm hb
theorem qO {b:List Nat} {cl:List (Nat×Nat)} {i:Nat} {n:Pos} {s:St}: ∀{hs:List (Nat×Tr bf)},ij b cl i n s hs=true→∀h∈hs,i<h.1→gE b i h.1 cl=true→calm i h.1 cl=true∨EA (s.h.get n) (h.2.get n)=true
 |x::hs,hc,h,hm,hlt,hb=>by
  replace hc:aQ (TY i x.1) (aQ (gE b i x.1 cl) (aQ (aQ (calm i x.1 cl) true (EA (s.h.get n) (x.2.get n))) (ij b cl i n s hs) false) (ij b cl i n s hs)) (ij b cl i n s hs)=true:=hc
  have hrest:ij b cl i n s hs=true:=by
   cases h1:TY i x.1 with
   |false=>rw [h1] at hc;exact hc
   |true=>
    rw [h1] at hc
    replace hc:aQ (gE b i x.1 cl) (aQ (aQ (calm i x.1 cl) true (EA (s.h.get n) (x.2.get n))) (ij b cl i n s hs) false) (ij b cl i n s hs)=true:=hc
    cases h2:gE b i x.1 cl with
    |false=>rw [h2] at hc;exact hc
    |true=>rw [h2] at hc;exact (bB hc).2
  cases hm with
  |tail _ hm=>exact qO hrest h hm hlt hb
  |head=>
   have h1:TY i x.1=true:=by simpa [Xj] using hlt
   rw [h1] at hc
   replace hc:aQ (gE b i x.1 cl) (aQ (aQ (calm i x.1 cl) true (EA (s.h.get n) (x.2.get n))) (ij b cl i n s hs) false) (ij b cl i n s hs)=true:=hc
   rw [hb] at hc
   have h2:=(bB hc).1
   cases h3:calm i x.1 cl with
   |true=>exact .inl rfl
   |false=>rw [h3] at h2;exact .inr h2
theorem vT {i h:Nat}: ∀{l:List (Nat×Nat)},calm i h l=true→∀x∈l,x.2=2→i<x.1→h≤x.1
 |[],_,x,hx,_,_=>absurd hx Ub
 |y::l,hl,x,hx,hc,hi=>by
  replace hl:aQ (TJ y.2 2) (aQ (aQ (TY i y.1) (TO h y.1) true) (calm i h l) false) (calm i h l)=true:=hl
  have hrest:calm i h l=true:=by
   cases h1:TJ y.2 2 with
   |false=>rw [h1] at hl;exact hl
   |true=>rw [h1] at hl;exact (bB hl).2
  cases hx with
  |tail _ hx=>exact vT hrest x hx hc hi
  |head=>
   rw [hc] at hl
   have h2:=(bB (show aQ (aQ (TY i y.1) (TO h y.1) true) (calm i h l) false=true from hl)).1
   rw [show TY i y.1=true by simpa [Xj] using hi] at h2
   exact Ua h2
theorem Af {b:List Nat} {i h:Nat}: ∀{l:List (Nat×Nat)},(∀x∈l,x.2=2→(bit b i x.1=true→x.1<h)∧(bit b x.1 i=true→h≤x.1))→gE b i h l=true
 |[],_=>rfl
 |x::l,hl=>by
  show aQ (TJ x.2 2) (aQ (aQ (bit b i x.1) (TY x.1 h) true) (aQ (aQ (bit b x.1 i) (TO h x.1) true) (gE b i h l) false) false) (gE b i h l)=true
  have ih:=Af (b:=b) (i:=i) (h:=h) (l:=l) fun y hy=>hl y (Ul _ hy)
  cases hc:TJ x.2 2 with
  |false=>exact ih
  |true=>
   obtain ⟨h1,h2⟩:=hl x (Uk ..) (T7 hc)
   have e1:aQ (bit b i x.1) (TY x.1 h) true=true:=by
    cases hb:bit b i x.1 with
    |false=>rfl
    |true=>show TY x.1 h=true;simpa [Xj] using h1 hb
   have e2:aQ (bit b x.1 i) (TO h x.1) true=true:=by
    cases hb:bit b x.1 i with
    |false=>rfl
    |true=>exact Nat.ble_eq_true_of_le (h2 hb)
   show aQ (aQ (bit b i x.1) (TY x.1 h) true) (aQ (aQ (bit b x.1 i) (TO h x.1) true) (gE b i h l) false) false=true
   rw [e1]
   show aQ (aQ (bit b x.1 i) (TO h x.1) true) (gE b i h l) false=true
   rw [e2]
   exact ih
theorem qP {b:List Nat} {i h:Nat}: ∀{l:List (Nat×Nat)},i6 b i h l=true→∀x∈l,x.2=1→bit b i x.1=true→x.1<h
 |[],_,x,hx,_,_=>absurd hx Ub
 |y::l,hl,x,hx,hc,hb=>by
  replace hl:aQ (TJ y.2 1) (aQ (aQ (bit b i y.1) (TY y.1 h) true) (i6 b i h l) false) (i6 b i h l)=true:=hl
  have hrest:i6 b i h l=true:=by
   cases h1:TJ y.2 1 with
   |false=>rw [h1] at hl;exact hl
   |true=>rw [h1] at hl;exact (bB hl).2
  cases hx with
  |tail _ hx=>exact qP hrest x hx hc hb
  |head=>
   rw [hc] at hl
   have h2:=(bB (show aQ (aQ (bit b i y.1) (TY y.1 h) true) (i6 b i h l) false=true from hl)).1
   rw [hb] at h2
   simpa [Xj] using h2
theorem tb: ∀(l:List Oper) (i k:Nat),(pr P l i)[k]? =(l[k]?).map fun o=>(i+k,bF P o.op)
 |[],i,k=>by simp [pr]
 |o::l,i,k=>by
  have e:pr P (o::l) i=(i,bF P o.op)::pr P l (Nat.succ i):=rfl
  rw [e]
  cases k with
  |zero=>rfl
  |succ k=>
   rw [Wr,Wr,tb l (Nat.succ i) k]
   rw [show Nat.succ i+k=i+(k+1) by omega]
theorem Ag {l:List Oper} {k:Nat} {o:Oper} (h:l[k]? =some o):(k,bF P o.op)∈pr P l 0:=by
 refine XD (i:=k) ?_
 rw [tb,h,WH]
 rfl
theorem KU {l:List Oper} {x:Nat×Nat} (h:x∈pr P l 0): ∃o,l[x.1]? =some o∧x.2=bF P o.op:=by
 obtain ⟨k,hk⟩:=List.mem_iff_getElem?.1 h
 rw [tb] at hk
 obtain ⟨o,ho,rfl⟩:=Option.map_eq_some_iff.1 hk
 exact ⟨o,by rw [WH];exact ho,rfl⟩
theorem pI {n:Nat} {s:St}: ∀{l:List fS},(n,s.h)∈ld P n s l∧∀t∈l,bF P t.o.op=2→(t.i,t.s.h)∈ld P n s l
 |[]=>⟨Uk ..,fun t ht=>absurd ht Ub⟩
 |x::l=>by
  obtain ⟨h1,h2⟩:=pI (n:=n) (s:=s) (l:=l)
  have e:ld P n s (x::l)=aQ (TJ (bF P x.o.op) 2) ((x.i,x.s.h)::ld P n s l) (ld P n s l):=rfl
  rw [e]
  cases hc:TJ (bF P x.o.op) 2 with
  |true=>
   refine ⟨Ul _ h1,fun t ht hcl=>?_⟩
   cases ht with
   |head=>exact Uk ..
   |tail _ ht=>exact Ul _ (h2 t ht hcl)
  |false=>
   refine ⟨h1,fun t ht hcl=>?_⟩
   cases ht with
   |head=>rw [hcl] at hc;cases hc
   |tail _ ht=>exact h2 t ht hcl
end
end
section
open Go Go.RowKit
variable [Env]
section
variable {P:Program} {N:Nat} {r:Rec} {ops:List Oper} {tels:List fS} {A:Nat→aV} {S:Nat→St} {B:Nat→Bool} {μ₀ μ:bu} {w₀ w:World} {D:Nat→Bool} {h:Nat} {ca:Act}
theorem Inv.places (hT:jf P r ops ops 0 tels A S B) (hI:Inv P N ops tels A S μ₀ w₀ D h μ ca w):iu P N μ w (S ops.length).n.toNat:=by
 have key: ∀b e,μ b=some e→(b.toNat<(S h).n.toNat∧cw μ (iF S h) b=some e)∨∃j t bV,tels[j]? =some t∧b=(S j).n∧S (j+1)=(S j).push bV∧BR P N (cw μ (pH P ops tels S h j)) w bV e∧N≤e.a.block:=by
  intro b e he
  rcases hI.Gd b e he with hb |⟨j,h1,h2,t,h3,h4,h5,rfl⟩
  ·exact .inl ⟨hb,bz.2 ⟨hb,he⟩⟩
  ·obtain ⟨e',bV,p1,p2,p3,p4,p5,_⟩:=hI.HU j t h1 h2 h3 h4 h5
   rw [he] at p1
   cases p1
   exact .inr ⟨j,t,bV,h3,rfl,p2,p4,p5⟩
 refine ⟨fun b e he=>?_,fun b e he=>?_,fun g hg=>(bz.1 (hI.sr.eH g hg)).2,hI.sr.hN,hI.sr.hn,hI.sr.base,hI.sr.fB⟩
 ·rcases key b e he with ⟨hb,_⟩ |⟨j,t,bV,h1,rfl,h2,_⟩
  ·exact Ug hb (hT.mono hI.hle (Uh _))
  ·have hj:=hT.lt h1
   have:(S (j+1)).n.toNat=(S j).n.toNat+1:=by rw [h2,dO,Pos.bX]
   have:=hT.mono (j:=j+1) (k:=ops.length) (by omega) (Uh _)
   omega
 ·rcases key b e he with ⟨_,hb⟩ |⟨j,t,bV,h1,rfl,h2,h3,h4⟩
  ·exact hI.sr.places.Fk b e hb
  ·exact ⟨h3.lt,.inr h4⟩
theorem iu.sub {m:Nat} (hp:iu P N μ w m) {p:Pos→Prop} (hg: ∀g,g<P.globals.size→p (pos g)):iu P N (cw μ p) w m:=
 ⟨fun b e he=>hp.Gd b e (bz.1 he).2,fun b e he=>hp.Fk b e (bz.1 he).2,fun g h=>bz.2 ⟨hg g h,hp.eH g h⟩,hp.hN,hp.hn,hp.base,hp.fB⟩
theorem Inv.pure (hP:cH P) (hF:Fit P ops) (hT:jf P r ops ops 0 tels A S B) (hI:Inv P N ops tels A S μ₀ w₀ D h μ ca w) {q:Nat} {t:fS} (hq:tels[q]? =some t) (hD:D q=false) (hdone: ∀j,bit (ahead ops) q j=true→D j=true)
 (hc:bF P t.o.op=4) {s1:St} (hx:fR t.o.op P (A q) (S q)=some (.val t.v s1)):
 ∃u w',(execOp ca.eval t.o).run P w= .ok (.value u) w'∧Inv P N ops tels A S μ₀ w₀ (lu D q) h μ (ca.put t.o.dst u) w':=by
 obtain ⟨a',ha,hsame⟩:=hI.mask hF hT hq hD hdone
 have hg: ∀g,g<P.globals.size→xz P ops tels S h q (pos g):=fun g hg=>.inl (bz.1 (hI.sr.eH g hg)).1
 obtain ⟨u,w',h1,h2,h3⟩:=B8 hP hc (by rw [hsame];exact hx) ha ((hI.places hT).sub hg)
 refine ⟨u,w',h1,hI.sW hF hT hq hD hdone (by rw [hc];decide) (fun _=>by rw [hc];decide) (h2.mono (cC fun b e hb he=>⟨?_,he⟩)) h3⟩
 rcases hb with hb |⟨i,h4,h5⟩
 ·exact .inl hb
 ·exact .inr ⟨i,h4,.inr h5⟩
theorem Inv.idle (hF:Fit P ops) (hT:jf P r ops ops 0 tels A S B) (hI:Inv P N ops tels A S μ₀ w₀ D h μ ca w) {q:Nat} {t:fS} (hq:tels[q]? =some t) (hD:D q=false) (hdone: ∀j,bit (ahead ops) q j=true→D j=true)
 (hc:bF P t.o.op≠2) (hw:t.w=false) (hv:t.v= .undef):Inv P N ops tels A S μ₀ w₀ (lu D q) h μ (ca.put t.o.dst undef) w:=
 hI.sW hF hT hq hD hdone hc (fun e=>by rw [hw] at e;cases e) (by rw [hv];exact eY) ⟨rfl,rfl,rfl,Uh _,fun _ _=>rfl⟩
end
end
section
open Go Go.RowKit
variable [Env]
section
variable {P:Program} {N:Nat}
theorem tc (w:World) (obj:Obj):Kept w (w.alloc obj):=⟨rfl,rfl,rfl,by simp,fun k hk=>by rw [heap_alloc_old w obj k hk]⟩
theorem SR.late {μ:bu} {σ:St} {w:World} {obj:Obj} {b:Pos} {bV:bf} {e:eQ} (h:SR P N μ σ w) (hb:μ b=none) (hlt:b.toNat<σ.n.toNat) (hget:σ.h.get b=some bV) (he:e.a.block=w.heap.size)
 (hbr:BR P N (dr μ b e) (w.alloc obj) bV e):SR P N (dr μ b e) σ (w.alloc obj):=by
 have hsub:Sub μ (dr μ b e):=fq (.inl hb)
 have hk:=h.kept (tc w obj)
 have hpl: ∀x ex,μ x=some ex→ex.a.block<w.heap.size:=fun x ex hx=>let ⟨k,_,h2⟩:=h.bV x ex hx;h2.lt
 refine ⟨fun x ex hx=>?_,?_,fun x ex hx=>?_,hk.hN,fun g hg=>hsub _ _ (h.eH g hg),hk.hn,hk.base,hk.fB,fun x ex kx hx gx hw hNx ad v ha=>(by
  by_cases hxb:x=b
  ·subst hxb
   rw [bE] at hx
   cases hx
   rw [he]
   exact XE (jN (h.fB ad v ha))
  ·rw [ct μ e hxb] at hx
   exact h.apart x ex kx hx gx hw hNx ad v ha)⟩
 ·by_cases hxb:x=b
  ·subst hxb
   rw [bE] at hx
   cases hx
   exact ⟨bV,hget,hbr⟩
  ·rw [ct μ e hxb] at hx
   obtain ⟨k,h1,h2⟩:=hk.bV x ex hx
   exact ⟨k,h1,h2.bx hsub (Uh _) fun _=>rfl⟩
 ·intro x y ex ey kx ky hx hy gx gy dx dy hN hxy
  by_cases hxb:x=b
  ·by_cases hyb:y=b
   ·rw [hxb,hyb]
   ·subst hxb
    rw [bE] at hx
    cases hx
    rw [ct μ e hyb] at hy
    have:=hpl y ey hy
    omega
  ·rw [ct μ e hxb] at hx
   by_cases hyb:y=b
   ·subst hyb
    rw [bE] at hy
    cases hy
    have:=hpl x ex hx
    omega
   ·rw [ct μ e hyb] at hy
    exact h.inj x y ex ey kx ky hx hy gx gy dx dy hN hxy
 ·by_cases hxb:x=b
  ·subst hxb;exact hlt
  ·rw [ct μ e hxb] at hx
   exact h.lt x ex hx
theorem Ai {μ:bu} {b:Pos} {e:eQ} {p:Pos→Prop} (h:p b):cw (dr μ b e) p=dr (cw μ p) b e:=by
 classical
 refine bu.same (fun x=>?_) rfl
 show (if p x then (if x=b then some e else μ x) else none)=if x=b then some e else if p x then μ x else none
 by_cases hx:x=b
 ·subst hx;simp [h]
 ·simp [hx]
theorem Aj {μ:bu} {b:Pos} {e:eQ} {p:Pos→Prop} (h: ¬p b):cw (dr μ b e) p=cw μ p:=by
 classical
 refine bu.same (fun x=>?_) rfl
 show (if p x then (if x=b then some e else μ x) else none)=if p x then μ x else none
 by_cases hx:x=b
 ·subst hx;simp [h]
 ·simp [hx]
section
variable {r:Rec} {ops:List Oper} {tels:List fS} {A:Nat→aV} {S:Nat→St} {B:Nat→Bool} {μ₀ μ:bu} {w₀ w:World} {D:Nat→Bool} {h:Nat} {ca:Act}
theorem Inv.lay (hF:Fit P ops) (hT:jf P r ops ops 0 tels A S B) (hI:Inv P N ops tels A S μ₀ w₀ D h μ ca w) {q:Nat} {t:fS} (hq:tels[q]? =some t) (hD:D q=false) (hdone: ∀j,bit (ahead ops) q j=true→D j=true)
 (hw:t.w=true) (hc:bF P t.o.op=1) (hx:fR t.o.op P (A q) (S q)=some (.val t.v (S (q+1)))) (hrow:q<h→∀bV,S (q+1)=(S q).push bV→(S h).h.get (S q).n=some bV):
 ∃μ' u w',(execOp ca.eval t.o).run P w= .ok (.value u) w'∧Inv P N ops tels A S μ₀ w₀ (lu D q) h μ' (ca.put t.o.dst u) w':=by
 obtain ⟨a',ha,hsame⟩:=hI.mask hF hT hq hD hdone
 have hg: ∀g,g<P.globals.size→xz P ops tels S h q (pos g):=fun g hg=>.inl (bz.1 (hI.sr.eH g hg)).1
 have hqo:=(hT.lZ q t hq).1
 have hql:=hT.lt hq
 obtain ⟨v,bV,obj,U,own,hL⟩:=Fl hc ((hI.places hT).sub hg).sr ha (by rw [hsame];exact hx)
 have hsays:=hL.SI (S q)
 rw [hsame,hx] at hsays
 obtain ⟨hv,hpush⟩:t.v=v (S q).n∧S (q+1)=(S q).push bV:=by
  have:=TZ hsays
  injection this with h1 h2
  exact ⟨h1,h2⟩
 have hnone:=hI.ta q t hD hq hw hc
 have hsub:Sub μ (dr μ (S q).n ⟨⟨w.heap.size,0,none⟩,own⟩):=fq (.inl hnone)
 have hn1:(S (q+1)).n.toNat=(S q).n.toNat+1:=by rw [hpush,dO,Pos.bX]
 have hqh:q≠h:=fun e=>by
  subst e
  have:=(hI.HT t.o hqo).1
  rw [hc] at this
  cases this
 have hpl: ∀x ex,μ x=some ex→ex.a.block<w.heap.size:=fun x ex hx=>((hI.places hT).Fk x ex hx).1
 have hNw:N≤w.heap.size:=hI.sr.hN
 have hnm:pH P ops tels S h q (S q).n:=.inr ⟨q,⟨t,hq,hw,hc,rfl⟩,.inl rfl⟩
 have hu:VR P (cw (dr μ (S q).n ⟨⟨w.heap.size,0,none⟩,own⟩) (pH P ops tels S h q)) t.v (U w.heap.size):=by
  rw [hv]
  exact hL.val _ _ _ (bz.2 ⟨hnm,dK _ _ _⟩)
 have hbr: ∀(p:Pos→Prop),(∀b,xz P ops tels S h q b→p b)→BR P N (cw (dr μ (S q).n ⟨⟨w.heap.size,0,none⟩,own⟩) p) (w.alloc obj) bV ⟨⟨w.heap.size,0,none⟩,own⟩:=fun p hp=>
  hL.br _ _ _ (cC fun b e hb he=>⟨hp b hb,hsub b e he⟩) hNw (heap_alloc_new w obj)
 obtain ⟨h1,h2⟩:=hI.DD hF hT hq hD hsub (Uh _) hu
 refine ⟨dr μ (S q).n ⟨⟨w.heap.size,0,none⟩,own⟩,U w.heap.size,w.alloc obj,hL.run w,?_⟩
 have hk:=tc w obj
 refine ⟨fun i hi=>?_,fun i j hi hb=>?_,hI.hle,fun o ho=>?_,fun e o ho hh=>?_,by rw [oA];exact hI.size,?_,h1,h2,?_,fun j y hj hhj hy hwy hcl=>?_,fun b e hb=>?_,fun j y hj hy hwy hcl=>?_,?_,?_,?_⟩
 ·by_cases hiq:i=q
  ·subst hiq;exact hql
  ·rw [bQ D hiq] at hi;exact hI.lt i hi
 ·by_cases hiq:i=q
  ·subst hiq;exact da (hdone j hb)
  ·rw [bQ D hiq] at hi;exact da (hI.down i j hi hb)
 ·obtain ⟨g1,g2⟩:=hI.HT o ho
  exact ⟨g1,by rw [bQ D (XF hqh)];exact g2⟩
 ·have hne:e≠q:=fun e'=>by subst e';rw [hqo] at ho;cases ho;rw [hc] at hh;cases hh
  rw [bQ D hne]
  exact hI.KT e o ho hh
 ·rw [rz]
  exact hI.uU.mono (cC fun b e hb he=>⟨hb,hsub b e he⟩)
 ·by_cases hlt:q<h
  ·have hb:iF S h (S q).n:=by
    have:=hT.mono (j:=q+1) (k:=h) (by omega) hI.hle
    show (S q).n.toNat<(S h).n.toNat
    omega
   rw [Ai hb]
   refine hI.sr.late ?_ hb (hrow hlt bV hpush) rfl ?_
   ·rw [kc,if_pos hb];exact hnone
   ·rw [←Ai hb]
    refine hbr _ fun b hb'=>?_
    rcases hb' with hb' |⟨i,⟨y,q1,q2,q3,rfl⟩,hbi⟩
    ·exact hb'
    ·have hiq:=jZ q i hbi
     have:=hT.mono (j:=i) (k:=q) (by omega) (by omega)
     show (S i).n.toNat<(S h).n.toNat
     have hb:(S q).n.toNat<(S h).n.toNat:=hb
     omega
  ·have hb: ¬iF S h (S q).n:=fun hb=>by
    have:=hT.mono (j:=h) (k:=q) (by omega) (by omega)
    have hb:(S q).n.toNat<(S h).n.toNat:=hb
    omega
   rw [Aj hb]
   exact hI.sr.kept hk
 ·by_cases hjq:j=q
  ·subst hjq
   refine ⟨_,bV,dK _ _ _,hpush,hL.alive,hbr _ fun b hb=>hb.imp id fun ⟨i,h4,h5⟩=>⟨i,h4,.inr h5⟩,hNw,fun b' e' hne hb'=>?_,fun ad v ha=>XE (jN (hI.sr.fB ad v ha))⟩
   rw [ct _ _ hne] at hb'
   exact XE (hpl b' e' hb')
  ·rw [bQ D hjq] at hj
   obtain ⟨e,blk',p1,p2,p3,p4,p5,p6,p7⟩:=hI.HU j y hj hhj hy hwy hcl
   refine ⟨e,blk',hsub _ _ p1,p2,p3,p4.bx (cC fun b e hb he=>⟨hb,hsub b e he⟩) hk.size (fun _=>hk.same _ p4.lt),p5,fun b' e' hne hb'=>?_,p7⟩
   by_cases hbq:b'=(S q).n
   ·subst hbq
    rw [bE] at hb'
    cases hb'
    exact Nat.ne_of_gt p4.lt
   ·rw [ct _ _ hbq] at hb'
    exact p6 b' e' hne hb'
 ·by_cases hbq:b=(S q).n
  ·subst hbq
   by_cases hlt:q<h
   ·left
    have:=hT.mono (j:=q+1) (k:=h) (by omega) hI.hle
    omega
   ·exact .inr ⟨q,ec D q,by omega,t,hq,hw,hc,rfl⟩
  ·rw [ct _ _ hbq] at hb
   rcases hI.Gd b e hb with hb' |⟨j,q1,q2,q3⟩
   ·exact .inl hb'
   ·exact .inr ⟨j,da q1,q2,q3⟩
 ·have hne:j≠q:=fun e'=>by subst e';rw [ec] at hj;cases hj
  rw [bQ D hne] at hj
  have hnn:(S j).n≠(S q).n:=by
   intro he
   rcases Nat.lt_or_gt_of_ne hne with hl |hl
   ·have hn2:=hT.B5 hF hy hwy hcl
    have:=hT.mono (j:=j+1) (k:=q) (by omega) (by omega)
    rw [he] at hn2
    omega
   ·have:=hT.mono (j:=q+1) (k:=j) (by omega) (Xq (hT.lt hy))
    rw [he] at this
    omega
  rw [ct _ _ hnn]
  exact hI.ta j y hj hy hwy hcl
 ·exact ⟨hI.ev.os,hI.ev.tape,hI.ev.output,Ui hI.ev.size hk.size,fun k hk1 hk2=>(hk.same k (Ug hk1 hI.ev.size)).trans (hI.ev.same k hk1 hk2)⟩
 ·refine ⟨hI.ext.sub.trans hsub,fun b e hb=>?_,hI.ext.fE⟩
  by_cases hbq:b=(S q).n
  ·subst hbq
   rw [bE] at hb
   cases hb
   exact .inl hI.ev.size
  ·rw [ct _ _ hbq] at hb
   exact hI.ext.new b e hb
 ·intro b e hb
  by_cases hbq:b=(S q).n
  ·subst hbq
   exact .inr (hT.mono (VT _) (Xq hql))
  ·rw [ct _ _ hbq] at hb
   exact hI.fresh b e hb
end
end
end
section
open Go Go.RowKit
variable [Env]
def HE (f:St→Option aW):Prop:=∀h n x,f ⟨h,n⟩=some x→∃v,x= .val v ⟨h,n⟩∧∀n',f ⟨h,n'⟩=some (.val v ⟨h,n'⟩)
def HO {α:Type} (o:St→Option α):Prop:=∀h n n',o ⟨h,n⟩=o ⟨h,n'⟩
theorem PU.he {f:St→Option aW} (h:PU f):HE f:=by
 intro s n x hx
 obtain ⟨F,hF⟩:=h
 rw [hF] at hx
 obtain ⟨v,rfl,rfl⟩:=ba.1 hx
 exact ⟨v,rfl,fun n'=>by rw [hF]⟩
theorem HE.none:HE fun _=>Option.none:=fun h n x hx=>by cases hx
theorem HE.ai {α:Type} (o:Option α) {g:α→St→Option aW} (h: ∀x,HE (g x)):HE fun s=>Sai.ai o fun x=>g x s:=by
 cases o with
 |none=>exact HE.none
 |some x=>exact h x
theorem HE.jX {α:Type} {o:St→Option α} (ho:HO o) {g:α→St→Option aW} (h: ∀x,HE (g x)):HE fun s=>Sai.ai (o s) fun x=>g x s:=by
 intro s n x hx
 obtain ⟨y,hy,hx⟩:=aa.1 hx
 obtain ⟨v,e,hv⟩:=h y s n x hx
 refine ⟨v,e,fun n'=>?_⟩
 have:o ⟨s,n'⟩=some y:=by rw [←hy];exact ho s n' n
 show Sai.ai (o ⟨s,n'⟩) _=_
 rw [this]
 exact hv n'
theorem HE.z4 {α:Type} {o:St→Option α} (ho:HO o) (g:α→AV):HE fun s=>Sai.omap (o s) fun x=>.val (g x) s:=by
 intro s n x hx
 obtain ⟨y,hy,rfl⟩:=ba.1 hx
 refine ⟨g y,rfl,fun n'=>?_⟩
 have:o ⟨s,n'⟩=some y:=by rw [←hy];exact ho s n' n
 show Sai.omap (o ⟨s,n'⟩) _=_
 rw [this]
theorem HE.aQ (b:Bool) {f g:St→Option aW} (h:HE f) (k:HE g):HE fun s=>Sai.aQ b (f s) (g s):=by cases b<;>assumption
theorem HE.NQ {b:St→Bool} (hb: ∀h n n',b ⟨h,n⟩=b ⟨h,n'⟩) {f g:St→Option aW} (h:HE f) (k:HE g):HE fun s=>Sai.aQ (b s) (f s) (g s):=by
 intro s n x hx
 replace hx:Sai.aQ (b ⟨s,n⟩) (f ⟨s,n⟩) (g ⟨s,n⟩)=some x:=hx
 cases hbv:b ⟨s,n⟩ with
 |true=>
  rw [hbv] at hx
  obtain ⟨v,e,hv⟩:=h s n x hx
  refine ⟨v,e,fun n'=>?_⟩
  show Sai.aQ (b ⟨s,n'⟩) _ _=_
  rw [hb s n' n,hbv]
  exact hv n'
 |false=>
  rw [hbv] at hx
  obtain ⟨v,e,hv⟩:=k s n x hx
  refine ⟨v,e,fun n'=>?_⟩
  show Sai.aQ (b ⟨s,n'⟩) _ _=_
  rw [hb s n' n,hbv]
  exact hv n'
section
variable (P:Program) (a:aV)
theorem HV (b:Pos):HO fun s=>s.h.get b:=fun h n n'=>rfl
theorem KV (t:TypeId) (b:Pos) (o:Nat):HO fun s=>s.load P t b o:=fun h n n'=>rfl
theorem HW (b:Pos) (o k:Nat):HO fun s=>s.cells b o k:=fun h n n'=>rfl
theorem Qu (m:AV):HO fun s=>jk s m:=fun h n n'=>by unfold jk;cases m<;>rfl
theorem NV (t:TypeId) (x:AV):HO fun s=>Gz P t s x:=fun h n n'=>by unfold Gz;cases x<;>rfl
theorem Ak {op:Op} (h:bF P op=0):HE fun s=>fR op P a s:=by
 cases op<;>first |(cases h;done) |skip
 case load t x=>
  refine HE.ai _ fun v=>?_
  cases v<;>first |exact HE.none |exact HE.z4 (KV P t _ _) _ |skip
  ·rename_i ty y
   cases ty<;>first |exact HE.none |exact (PU.omap _ _).he
  ·rename_i ts b i o
   exact HE.jX (HV b) fun k=>(PU.omap _ _).he
 case convert s d x=>
  refine HE.ai _ fun v=>HE.ai _ fun us=>?_
  have bytes:HE fun s'=>Sai.ai (dt P s) fun e=>lS P e v s':=by
   refine HE.ai _ fun e=>HE.aQ _ ?_ HE.none
   cases v<;>first |exact HE.none |exact (PU.val _).he |exact HE.jX (HW _ _ _) fun cs=>(PU.omap _ _).he
  simp only [bF] at h
  cases hd:P.underlying d with
  |none=>exact HE.none
  |some ud=>
   rw [hd] at h
   cases ud<;>first |(cases h;done) |exact HE.none |skip
   ·cases v<;>first |exact HE.none |exact (PU.val _).he |skip
    rename_i ty y
    cases ty<;>first |exact HE.none |exact (PU.val _).he
   ·cases v<;>first |exact HE.none |exact (PU.val _).he |exact (PU.aQ _ (PU.val _) PU.none).he
   ·cases v<;>first |exact bytes |exact (PU.val _).he |skip
    rename_i n
    cases n with
    |ofNat n=>exact (PU.aQ _ (PU.val _) PU.none).he
    |negSucc n=>exact bytes
 case lookup t x k ok=>
  refine HE.ai _ fun m=>HE.ai _ fun k=>?_
  refine HE.NQ (fun h n n'=>rfl) (HE.ai _ fun b=>HE.jX (HV b) fun bl=>?_) ?_
  ·cases bl<;>first |exact HE.none |skip
   refine HE.ai _ fun q=>HE.ai _ fun kk=>HE.aQ _ (HE.ai _ fun hit=>HE.aQ _ ?_ ?_) HE.none
   ·exact (PU.val _).he
   ·exact (PU.omap _ _).he
  refine HE.jX (Qu m) fun es=>HE.ai _ fun q=>HE.aQ _ (HE.ai _ fun o=>?_) HE.none
  cases o with
  |none=>exact (PU.omap _ _).he
  |some v=>exact (PU.val _).he
 case call c=>
  refine HE.ai _ fun args=>?_
  simp only [bF] at h
  split at h<;>first |(cases h;done) |skip
  rename_i hc
  rw [hc]
  show HE fun s=>Bk P c.argTypes.toList args s
  unfold Bk
  split
  ·split
   ·intro s n x hx
    revert hx
    generalize hq:wQ P _ _=q
    intro hx
    cases q with
    |none=>exact HE.z4 (NV P _ _) _ s n x hx
    |some v=>exact (PU.val v).he s n x hx
   ·exact HE.none
  ·exact HE.none
end
section
variable {P:Program} {N:Nat} {r:Rec} {ops:List Oper} {tels:List fS} {A:Nat→aV} {S:Nat→St} {B:Nat→Bool} {μ₀ μ:bu} {w₀ w:World} {D:Nat→Bool} {h:Nat} {ca:Act}
theorem Inv.xA (hI:Inv P N ops tels A S μ₀ w₀ D h μ ca w) {w':World} (hev:Ev N (cw μ (iF S h)) w w'):Ev N μ₀ w₀ w':=by
 refine ⟨hev.os.trans hI.ev.os,hev.tape.trans hI.ev.tape,hev.output.trans hI.ev.output,Ui hI.ev.size hev.size,fun k hk hc=>?_⟩
 refine (hev.same k (Ug hk hI.ev.size) ?_).trans (hI.ev.same k hk hc)
 rcases hc with hc |hc
 ·exact .inl hc
 ·refine .inr fun b e hb hne=>?_
  obtain ⟨_,hb⟩:=bz.1 hb
  rcases hI.ext.new b e hb with h1 |⟨b₀,e₀,h1,h2⟩
  ·omega
  ·exact hc b₀ e₀ h1 (h2.trans hne)
theorem Inv.Al (hT:jf P r ops ops 0 tels A S B) (hI:Inv P N ops tels A S μ₀ w₀ D h μ ca w) {w':World} (hev:Ev N (cw μ (iF S h)) w w') {j:Nat} (hj:j≤ops.length) (hhj:h≤j) {bV:bf} {e:eQ} {ν:bu}
 (p4:BR P N ν w bV e) (p6: ∀b' e',b'≠(S j).n→μ b'=some e'→e'.a.block≠e.a.block):w'.heap[e.a.block]? =w.heap[e.a.block]? :=by
 refine hev.same _ p4.lt (.inr fun b e' hb=>?_)
 obtain ⟨h1,h2⟩:=bz.1 hb
 refine p6 b e' (fun hn=>?_) h2
 have:=hT.mono hhj hj
 rw [hn] at h1
 have h1:(S j).n.toNat<(S h).n.toNat:=h1
 omega
theorem Inv.SK (hF:Fit P ops) (hT:jf P r ops ops 0 tels A S B) (hI:Inv P N ops tels A S μ₀ w₀ D h μ ca w) {q:Nat} {t:fS} (hq:tels[q]? =some t) (hD:D q=false) (hdone: ∀j,bit (ahead ops) q j=true→D j=true)
 (hc:bF P t.o.op≠2) (hl:t.w=true→bF P t.o.op≠1) {u:Value} {w':World} (hu:VR P (cw μ (pH P ops tels S h q)) t.v u)
 (hsr:SR P N (cw μ (iF S h)) (S h) w') (hev:Ev N (cw μ (iF S h)) w w'):
 Inv P N ops tels A S μ₀ w₀ (lu D q) h μ (ca.put t.o.dst u) w':=by
 have hqo:=(hT.lZ q t hq).1
 obtain ⟨h1,h2⟩:=hI.DD hF hT hq hD (Sub.refl μ) (Uh _) hu
 refine ⟨fun i hi=>?_,fun i j hi hb=>?_,hI.hle,fun o ho=>?_,fun e o ho hh=>?_,by rw [oA];exact hI.size,by rw [rz];exact hI.uU,h1,h2,hsr,fun j y hj hhj hy hw hcl=>?_,fun b e hb=>?_,fun j y hj hy hw hcl=>?_,hI.xA hev,hI.ext,hI.fresh⟩
 ·by_cases hiq:i=q
  ·subst hiq;exact hT.lt hq
  ·rw [bQ D hiq] at hi;exact hI.lt i hi
 ·by_cases hiq:i=q
  ·subst hiq;exact da (hdone j hb)
  ·rw [bQ D hiq] at hi;exact da (hI.down i j hi hb)
 ·obtain ⟨g1,g2⟩:=hI.HT o ho
  refine ⟨g1,?_⟩
  have hne:h≠q:=fun e=>by subst e;rw [hqo] at ho;cases ho;exact hc g1
  rw [bQ D hne];exact g2
 ·have hne:e≠q:=fun e'=>by subst e';rw [hqo] at ho;cases ho;exact hc hh
  rw [bQ D hne]
  exact hI.KT e o ho hh
 ·have hne:j≠q:=fun e'=>by subst e';rw [hq] at hy;cases hy;exact hl hw hcl
  rw [bQ D hne] at hj
  obtain ⟨e,bV,p1,p2,p3,p4,p5,p6,p7⟩:=hI.HU j y hj hhj hy hw hcl
  exact ⟨e,bV,p1,p2,p3,p4.bx (Sub.refl _) hev.size fun _=>hI.Al hT hev (Xq (hT.lt hy)) (Xq hhj) p4 p6,p5,p6,p7⟩
 ·rcases hI.Gd b e hb with hb' |⟨j,q1,q2,q3⟩
  ·exact .inl hb'
  ·exact .inr ⟨j,da q1,q2,q3⟩
 ·have hne:j≠q:=fun e'=>by subst e';rw [ec] at hj;cases hj
  rw [bQ D hne] at hj
  exact hI.ta j y hj hy hw hcl
theorem Am {v:AV} {x:aW} (h:xd v x=true): ∃s,x= .val v s:=by
 cases x with
 |val u s=>exact ⟨s,by rw [ry 12 u v h]⟩
 |_=>cases h
theorem Inv.read (hP:cH P) (hF:Fit P ops) (hT:jf P r ops ops 0 tels A S B) (hI:Inv P N ops tels A S μ₀ w₀ D h μ ca w) {q:Nat} {t:fS} (hq:tels[q]? =some t) (hD:D q=false) (hdone: ∀j,bit (ahead ops) q j=true→D j=true)
 (hw:t.w=true) (hc:bF P t.o.op=0) (hlb: ∀j y,tels[j]? =some y→bF P y.o.op=1→bit (ahead ops) q j=true→j<h) (hat:jm P t.o t.a t.s t.v (S h).h=true):
 ∃u w',(execOp ca.eval t.o).run P w= .ok (.value u) w'∧Inv P N ops tels A S μ₀ w₀ (lu D q) h μ (ca.put t.o.dst u) w':=by
 obtain ⟨a',ha,hsame⟩:=hI.mask hF hT hq hD hdone
 obtain ⟨_,_,htA,htS,_⟩:=hT.lZ q t hq
 have hval:fR t.o.op P a' (S h)=some (.val t.v (S h)):=by
  unfold jm at hat
  cases hx:fR t.o.op P t.a ⟨(S h).h,t.s.n⟩ with
  |none=>rw [hx] at hat;cases hat
  |some x=>
   rw [hx] at hat
   obtain ⟨s,rfl⟩:=Am (show xd t.v x=true from hat)
   obtain ⟨v,e,hv⟩:=Ak P t.a hc (S h).h t.s.n _ hx
   cases e
   rw [hsame,←htA]
   exact hv (S h).n
 have hsub:Sub (cw μ (xz P ops tels S h q)) (cw μ (iF S h)):=cC fun b e hb he=>⟨by
  rcases hb with hb |⟨i,⟨y,h1,h2,h3,rfl⟩,hbi⟩
  ·exact hb
  ·have hlt:=hlb i y h1 h3 hbi
   have:=hT.mono (j:=i+1) (k:=h) (by omega) hI.hle
   have hn2:=hT.B5 hF h1 h2 h3
   show (S i).n.toNat<(S h).n.toNat
   omega,he⟩
 obtain ⟨μ',u,w',hrun,hg,hv,heq⟩:=dG hP hI.sr (ha.mono hsub) hval
 rw [heq rfl] at hg hv
 exact ⟨u,w',hrun,hI.SK hF hT hq hD hdone (by rw [hc];decide) (fun _=>by rw [hc];decide) (hv.mono (cC fun b e hb he=>⟨.inl hb,he⟩)) hg.sr hg.ev⟩
end
end
section
open Go Go.RowKit
variable [Env]
section
variable {P:Program} {N:Nat}
theorem vU (P:Program) (ops:List Oper): ∀d h,ops.length - h=d→h≤ops.length→∃h',h≤h'∧h'≤ops.length∧(∀o,ops[h']? =some o→bF P o.op=2)∧∀e o,h≤e→e<h'→ops[e]? =some o→bF P o.op≠2:=by
 intro d
 induction d with
 |zero=>
  intro h hd hle
  refine ⟨h,Uh _,hle,fun o ho=>?_,fun e o h1 h2=>by omega⟩
  have:=(List.getElem?_eq_some_iff.1 ho).1
  omega
 |succ d ih=>
  intro h hd hle
  have hlt:h<ops.length:=by omega
  have ho:ops[h]? =some ops[h]:=UB hlt
  by_cases hc:bF P (ops[h]).op=2
  ·exact ⟨h,Uh _,hle,fun o h'=>by rw [ho] at h';cases h';exact hc,fun e o h1 h2=>by omega⟩
  ·obtain ⟨h',h1,h2,h3,h4⟩:=ih (h+1) (by omega) (by omega)
   refine ⟨h',by omega,h2,h3,fun e o g1 g2 g3=>?_⟩
   by_cases he:e=h
   ·subst he;rw [ho] at g3;cases g3;exact hc
   ·exact h4 e o (by omega) g2 g3
theorem SR.NW {ν:bu} {σ:St} {w:World} {bV:bf} {e:eQ} (h:SR P N ν σ w) (hb:BR P N (dr ν σ.n e) w bV e) (hp: ∀b' e',ν b'=some e'→e'.a.block≠e.a.block) (hz: ∀ad v,ν.fz ad=some v→ad.block≠e.a.block):SR P N (dr ν σ.n e) (σ.push bV) w:=by
 have hsub:Sub ν (dr ν σ.n e):=fq (.inl h.fresh)
 have hn:(σ.push bV).n.toNat=σ.n.toNat+1:=by rw [dO,Pos.bX]
 refine ⟨fun x ex hx=>?_,?_,fun x ex hx=>?_,h.hN,fun g hg=>hsub _ _ (h.eH g hg),h.hn,h.base,h.fB,fun x ex kx hx gx hw hNx ad v ha=>(by
  by_cases hxb:x=σ.n
  ·subst hxb
   rw [bE] at hx
   cases hx
   exact hz ad v ha
  ·rw [ct ν e hxb] at hx
   rw [bM,if_neg (XF hxb)] at gx
   exact h.apart x ex kx hx gx hw hNx ad v ha)⟩
 ·by_cases hxb:x=σ.n
  ·subst hxb
   rw [bE] at hx
   cases hx
   exact ⟨bV,by rw [bM,if_pos rfl],hb⟩
  ·rw [ct ν e hxb] at hx
   obtain ⟨k,h1,h2⟩:=h.bV x ex hx
   exact ⟨k,by rw [bM,if_neg (XF hxb)];exact h1,h2.bx hsub (Uh _) fun _=>rfl⟩
 ·intro x y ex ey kx ky hx hy gx gy dx dy hN hxy
  by_cases hxb:x=σ.n
  ·by_cases hyb:y=σ.n
   ·rw [hxb,hyb]
   ·subst hxb
    rw [bE] at hx
    cases hx
    rw [ct ν e hyb] at hy
    exact absurd hxy.symm (hp y ey hy)
  ·rw [ct ν e hxb] at hx
   by_cases hyb:y=σ.n
   ·subst hyb
    rw [bE] at hy
    cases hy
    exact absurd hxy (hp x ex hx)
   ·rw [ct ν e hyb] at hy
    rw [bM,if_neg (XF hxb)] at gx
    rw [bM,if_neg (XF hyb)] at gy
    exact h.inj x y ex ey kx ky hx hy gx gy dx dy hN hxy
 ·rw [hn]
  by_cases hxb:x=σ.n
  ·subst hxb;omega
  ·rw [ct ν e hxb] at hx
   have:=h.lt x ex hx
   omega
theorem SR.HX {ν:bu} {σ:St} {w:World} {bV:bf} (h:SR P N ν σ w):SR P N ν (σ.push bV) w:=by
 have hn:(σ.push bV).n.toNat=σ.n.toNat+1:=by rw [dO,Pos.bX]
 have hne: ∀x ex,ν x=some ex→σ.n≠x:=fun x ex hx e=>by have:=h.fresh;rw [e,hx] at this;cases this
 refine ⟨fun x ex hx=>?_,fun x y ex ey kx ky hx hy gx gy=>?_,fun x ex hx=>(by have:=h.lt x ex hx;omega),h.hN,h.eH,h.hn,h.base,h.fB,fun x ex kx hx gx hw=>h.apart x ex kx hx (by rw [bM,if_neg (hne x ex hx)] at gx;exact gx) hw⟩
 ·obtain ⟨k,h1,h2⟩:=h.bV x ex hx
  exact ⟨k,by rw [bM,if_neg (hne x ex hx)];exact h1,h2⟩
 ·rw [bM,if_neg (hne x ex hx)] at gx
  rw [bM,if_neg (hne y ey hy)] at gy
  exact h.inj x y ex ey kx ky hx hy gx gy
section
variable {r:Rec} {ops:List Oper} {tels:List fS} {A:Nat→aV} {S:Nat→St} {B:Nat→Bool} {μ₀ μ:bu} {w₀ w:World} {D:Nat→Bool} {h:Nat} {ca:Act}
def jz (n:Nat) (μ₁ μ:bu):bu:=⟨fun b=>if b.toNat<n then μ₁ b else μ b,μ₁.fz⟩
theorem jA {n:Nat} {μ₁ μ:bu} {b:Pos} (h:b.toNat<n):jz n μ₁ μ b=μ₁ b:=if_pos h
theorem jB {n:Nat} {μ₁ μ:bu} {b:Pos} (h:n≤b.toNat):jz n μ₁ μ b=μ b:=if_neg (Nat.not_lt.2 h)
theorem Inv.z9 (hF:Fit P ops) (hT:jf P r ops ops 0 tels A S B) (hI:Inv P N ops tels A S μ₀ w₀ D h μ ca w) {t:fS} (hq:tels[h]? =some t) (hdone: ∀j,bit (ahead ops) h j=true→D j=true)
 (hc:bF P t.o.op=2) {μ₁:bu} {w₁:World} {u:Value} (hg:bI P N (cw μ (iF S h)) (S h) w μ₁ (S (h+1)) w₁) (hu:VR P μ₁ t.v u):
 ∃μ' h',Inv P N ops tels A S μ₀ w₀ (lu D h) h' μ' (ca.put t.o.dst u) w₁:=by
 obtain ⟨hqo,_⟩:=hT.lZ h t hq
 have hql:=hT.lt hq
 have hDh:D h=false:=(hI.HT t.o hqo).2
 obtain ⟨h',hh1,hh2,hh3,hh4⟩:=vU P ops _ (h+1) rfl (by omega)
 let μ':bu:=jz (S (h+1)).n.toNat μ₁ μ
 have hSh:(S h).n.toNat≤(S (h+1)).n.toNat:=hg.le
 have hS':(S (h+1)).n.toNat≤(S h').n.toNat:=hT.mono hh1 hh2
 have f1:Sub μ₁ μ':=⟨fun b e hb=>by show jz _ _ _ b=_;rw [jA (hg.sr.lt b e hb)];exact hb,fun _ _ h=>h⟩
 have f0: ∀j,h<j→j≤ops.length→(S (h+1)).n.toNat≤(S j).n.toNat:=fun j hj hl=>hT.mono hj hl
 have f2:Sub μ μ':=⟨fun b e hb=>by
  rcases hI.Gd b e hb with hlo |⟨j,q1,q2,q3⟩
  ·exact f1 b e (hg.ext.sub b e (bz.2 ⟨hlo,hb⟩))
  ·obtain ⟨y,q3,q4,q5,rfl⟩:=q3
   show jz _ _ _ _=_
   rw [jB (f0 j q2 (Xq (hT.lt q3)))]
   exact hb,hg.ext.sub.fz⟩
 have f3:cw μ' (iF S (h+1))=μ₁:=by
  refine bu.same (fun b=>?_) rfl
  rw [kc]
  by_cases hb:iF S (h+1) b
  ·rw [if_pos hb];exact jA hb
  ·rw [if_neg hb]
   cases hb':μ₁ b with
   |none=>rfl
   |some e=>exact absurd (hg.sr.lt b e hb') hb
 have f4: ∀b e,μ₁ b=some e→w.heap.size≤e.a.block∨∃b₀ e₀,b₀.toNat<(S h).n.toNat∧μ b₀=some e₀∧e₀.a.block=e.a.block:=fun b e hb=>by
  rcases hg.ext.new b e hb with q |⟨b₀,e₀,q1,q2⟩
  ·exact .inl q
  ·obtain ⟨q3,q4⟩:=bz.1 q1
   exact .inr ⟨b₀,e₀,q3,q4,q2⟩
 have fp: ∀j y,D j=true→h<j→tels[j]? =some y→y.w=true→bF P y.o.op=1→∃e bV,μ' (S j).n=some e∧S (j+1)=(S j).push bV∧bS bV=false∧BR P N (cw μ' (pH P ops tels S h j)) w₁ bV e∧N≤e.a.block∧
  (∀b' e',b'≠(S j).n→μ' b'=some e'→e'.a.block≠e.a.block)∧∀ad v,μ'.fz ad=some v→ad.block≠e.a.block:=by
  intro j y hj hhj hy hw hcl
  obtain ⟨e,bV,p1,p2,p3,p4,p5,p6,p7⟩:=hI.HU j y hj hhj hy hw hcl
  have hjl:=hT.lt hy
  have hne: ∀b₀ e₀,b₀.toNat<(S h).n.toNat→μ b₀=some e₀→e₀.a.block≠e.a.block:=fun b₀ e₀ hlo hb=>p6 b₀ e₀ (fun e=>by
   have:=f0 j hhj (Xq hjl)
   rw [e] at hlo
   omega) hb
  refine ⟨e,bV,f2 _ _ p1,p2,p3,p4.bx (cC (fun b e hb he=>⟨hb,f2 b e he⟩) f2.fz) hg.ev.size fun _=>hI.Al hT hg.ev (Xq hjl) (Xq hhj) p4 p6,p5,fun b' e' hn hb'=>?_,fun ad v ha=>?_⟩
  rotate_left
  ·rcases hg.ext.fE ad v ha with q |q |⟨b₀,e₀,q1,q2⟩
   ·exact p7 ad v q
   ·have:=p4.lt;omega
   ·obtain ⟨q3,q4⟩:=bz.1 q1
    rw [←q2]
    exact hne b₀ e₀ q3 q4
  by_cases hlo:b'.toNat<(S (h+1)).n.toNat
  ·replace hb':jz _ _ _ b'=_:=hb'
   rw [jA hlo] at hb'
   rcases f4 b' e' hb' with q |⟨b₀,e₀,q1,q2,q3⟩
   ·have:=p4.lt;omega
   ·rw [←q3];exact hne b₀ e₀ q1 q2
  ·replace hb':jz _ _ _ b'=_:=hb'
   rw [jB (Nat.not_lt.1 hlo)] at hb'
   exact p6 b' e' hn hb'
 have fu: ∀j y,lu D h j=false→tels[j]? =some y→y.w=true→bF P y.o.op=1→μ' (S j).n=none:=by
  intro j y hj hy hw hcl
  have hjh:j≠h:=fun e=>by subst e;rw [ec] at hj;cases hj
  rw [bQ D hjh] at hj
  have hno:=hI.ta j y hj hy hw hcl
  show jz _ _ _ _=_
  by_cases hlt:j<h
  ·have:=hT.mono (j:=j+1) (k:=h) hlt (Xq hql)
   have hl1:=hT.B5 hF hy hw hcl
   rw [jA (by omega)]
   cases hb:μ₁ (S j).n with
   |none=>rfl
   |some e=>
    rcases hg.fresh _ e hb with q |q
    ·rw [(bz.1 q).2] at hno;cases hno
    ·omega
  ·rw [jB (f0 j (by omega) (Xq (hT.lt hy)))]
   exact hno
 have along: ∀d,h+1+d≤h'→SR P N (cw μ' (iF S (h+1+d))) (S (h+1+d)) w₁:=by
  intro d
  induction d with
  |zero=>intro _;rw [Nat.add_zero,f3];exact hg.sr
  |succ d ih=>
   intro hd
   have ih:=ih (by omega)
   generalize hjd:h+1+d=j at ih
   have hjl:j<ops.length:=by omega
   obtain ⟨y,hy⟩:=hT.get hjl
   have hyo:=(hT.lZ j y hy).1
   rw [show h+1+(d+1)=j+1 from by omega]
   rcases hT.sW hF hy (hh4 j y.o (by omega) (by omega) hyo) with ⟨hyw,hyc,bV,hdd,e⟩ |⟨_,e⟩
   ·rw [e]
    have hnn:(S (j+1)).n.toNat=(S j).n.toNat+1:=hT.B5 hF hy hyw hyc
    cases hDj:D j with
    |true=>
     obtain ⟨en,blk',p1,p2,p3,p4,p5,p6,p7⟩:=fp j y hDj (by omega) hy hyw hyc
     have hbb:blk'=bV:=by
      rw [e] at p2
      have:=congrArg (fun s=>s.h.get (S j).n) p2
      simp only [bM,if_true] at this
      exact (TZ this).symm
     subst hbb
     have hre:cw μ' (iF S (j+1))=dr (cw μ' (iF S j)) (S j).n en:=by
      refine bu.same (fun b=>?_) rfl
      by_cases hb:b=(S j).n
      ·subst hb
       rw [bE]
       exact bz.2 ⟨by show (S j).n.toNat<_;omega,p1⟩
      ·rw [ct _ _ hb]
       rw [kc,kc]
       have:iF S (j+1) b↔iF S j b:=by
        show b.toNat<_↔b.toNat<_
        have:b.toNat≠(S j).n.toNat:=fun e=>hb (Pos.toNat_inj e)
        omega
       by_cases hb2:iF S j b
       ·rw [if_pos hb2,if_pos (this.2 hb2)]
       ·rw [if_neg hb2,if_neg (fun q=>hb2 (this.1 q))]
     rw [hre]
     refine ih.NW ?_ (fun b' e' hb'=>?_) p7
     ·rw [←hre]
      refine p4.bx (cC fun b e hb he=>⟨?_,he⟩) (Uh _) fun _=>rfl
      show b.toNat<_
      have hhj:=hT.mono (j:=h) (k:=j) (by omega) (by omega)
      rcases hb with hb |⟨i,⟨yi,_,_,_,rfl⟩,rfl |hbi⟩
      ·omega
      ·omega
      ·have:=hT.mono (j:=i) (k:=j) (Xq (jZ j i hbi)) (by omega)
       omega
     ·obtain ⟨q1,q2⟩:=bz.1 hb'
      refine p6 b' e' (fun e=>?_) q2
      rw [e] at q1
      exact XG _ q1
    |false=>
     have hno:=fu j y (by rw [bQ D (by omega)];exact hDj) hy hyw hyc
     have hre:cw μ' (iF S (j+1))=cw μ' (iF S j):=by
      refine bu.same (fun b=>?_) rfl
      rw [kc,kc]
      by_cases hb:b=(S j).n
      ·subst hb
       by_cases hb2:iF S j (S j).n
       ·exact absurd hb2 (XG _)
       ·rw [if_neg hb2]
        split
        ·exact hno
        ·rfl
      ·have:iF S (j+1) b↔iF S j b:=by
        show b.toNat<_↔b.toNat<_
        have:b.toNat≠(S j).n.toNat:=fun e=>hb (Pos.toNat_inj e)
        omega
       by_cases hb2:iF S j b
       ·rw [if_pos hb2,if_pos (this.2 hb2)]
       ·rw [if_neg hb2,if_neg (fun q=>hb2 (this.1 q))]
     rw [hre]
     exact ih.HX
   ·have hre:cw μ' (iF S (j+1))=cw μ' (iF S j):=by unfold iF;rw [e]
    rw [hre,e]
    exact ih
 have hsr':SR P N (cw μ' (iF S h')) (S h') w₁:=by
  have:=along (h' - (h+1)) (by omega)
  rwa [show h+1+(h' - (h+1))=h' from by omega] at this
 have hle0:(S 0).n.toNat≤(S h).n.toNat:=hT.mono (VT _) hI.hle
 have hu':VR P (cw μ' (pH P ops tels S h' h)) t.v u:=hu.mono ⟨fun b e hb=>bz.2 ⟨.inl (Ug (hg.sr.lt b e hb) hS'),f1 b e hb⟩,fun _ _ h=>h⟩
 obtain ⟨h1,h2⟩:=hI.DD hF hT hq hDh f2 (Ui hSh hS') hu'
 refine ⟨μ',h',fun i hi=>?_,fun i j hi hb=>?_,hh2,fun o ho=>⟨hh3 o ho,?_⟩,fun e o ho hcl=>?_,by rw [oA];exact hI.size,by rw [rz];exact hI.uU.mono (cC (fun b e hb he=>⟨hb,f2 b e he⟩) f2.fz),h1,h2,hsr',
  fun j y hj hhj hy hw hcl=>?_,fun b e hb=>?_,fu,hI.xA hg.ev,⟨hI.ext.sub.trans f2,fun b e hb=>?_,fun ad v ha=>?_⟩,fun b e hb=>?_⟩
 ·by_cases hih:i=h
  ·subst hih;exact hql
  ·rw [bQ D hih] at hi;exact hI.lt i hi
 ·by_cases hih:i=h
  ·subst hih;exact da (hdone j hb)
  ·rw [bQ D hih] at hi;exact da (hI.down i j hi hb)
 ·have hlt:h'<ops.length:=(List.getElem?_eq_some_iff.1 ho).1
  rw [bQ D (by omega)]
  cases hD':D h' with
  |false=>rfl
  |true=>have:=(hI.KT h' o ho (hh3 o ho)).1 hD';omega
 ·by_cases heh:e=h
  ·subst heh;rw [ec];exact ⟨fun _=>by omega,fun _=>rfl⟩
  ·rw [bQ D heh,hI.KT e o ho hcl]
   constructor
   ·intro q;omega
   ·intro q
    rcases T2 e h with q' |q'
    ·exact q'
    ·exact absurd hcl (hh4 e o (by omega) q ho)
 ·have hjh:j≠h:=by omega
  rw [bQ D hjh] at hj
  obtain ⟨e,bV,p1,p2,p3,p4,p5,p6,p7⟩:=fp j y hj (by omega) hy hw hcl
  refine ⟨e,bV,p1,p2,p3,p4.bx (cC fun b e hb he=>⟨hb.imp (fun q=>?_) id,he⟩) (Uh _) fun _=>rfl,p5,p6,p7⟩
  omega
 ·by_cases hlo:b.toNat<(S (h+1)).n.toNat
  ·exact .inl (Ug hlo hS')
  ·replace hb:jz _ _ _ b=_:=hb
   rw [jB (Nat.not_lt.1 hlo)] at hb
   rcases hI.Gd b e hb with q |⟨j,q1,q2,q3⟩
   ·omega
   ·by_cases hjh:h'<j
    ·exact .inr ⟨j,da q1,hjh,q3⟩
    ·left
     obtain ⟨y,q3,q4,q5,rfl⟩:=q3
     have hl1:=hT.B5 hF q3 q4 q5
     have hjne:j≠h':=fun e=>by
      subst e
      have:=hh3 y.o (hT.lZ j y q3).1
      rw [q5] at this;cases this
     have:=hT.mono (j:=j+1) (k:=h') (by omega) hh2
     omega
 ·by_cases hlo:b.toNat<(S (h+1)).n.toNat
  ·replace hb:jz _ _ _ b=_:=hb
   rw [jA hlo] at hb
   rcases f4 b e hb with q |⟨b₀,e₀,q1,q2,q3⟩
   ·exact .inl (Ui hI.ev.size q)
   ·rcases hI.ext.new b₀ e₀ q2 with q |⟨b₁,e₁,q4,q5⟩
    ·exact .inl (q3▸q)
    ·exact .inr ⟨b₁,e₁,q4,q5.trans q3⟩
  ·replace hb:jz _ _ _ b=_:=hb
   rw [jB (Nat.not_lt.1 hlo)] at hb
   exact hI.ext.new b e hb
 ·rcases hg.ext.fE ad v ha with q |q |⟨b₀,e₀,q1,q2⟩
  ·exact hI.ext.fE ad v q
  ·exact .inr (.inl (Ui hI.ev.size q))
  ·rcases hI.ext.new b₀ e₀ (bz.1 q1).2 with q |⟨b₁,e₁,q4,q5⟩
   ·exact .inr (.inl (q2▸q))
   ·exact .inr (.inr ⟨b₁,e₁,q4,q5.trans q2⟩)
 ·by_cases hlo:b.toNat<(S (h+1)).n.toNat
  ·replace hb:jz _ _ _ b=_:=hb
   rw [jA hlo] at hb
   rcases hg.fresh b e hb with q |q
   ·exact hI.fresh b e (bz.1 q).2
   ·exact .inr (Ui hle0 q)
  ·replace hb:jz _ _ _ b=_:=hb
   rw [jB (Nat.not_lt.1 hlo)] at hb
   exact hI.fresh b e hb
end
end
end
section
open Go Go.RowKit
variable [Env]
section
variable {P:Program} {N:Nat}
theorem HY {x y:bf} (h:GY x y=true):x=y:=by
 unfold GY at h
 split at h
 ·split at h
  ·simp only [Uj] at h
   obtain ⟨⟨h1,h2⟩,h3⟩:=h
   rw [T7 h1,T7 h2,m0 (ry 12) h3]
  ·cases h
 ·split at h
  ·rfl
  ·cases h
 ·split at h
  ·simp only [Uj] at h
   obtain ⟨⟨⟨⟨h1,h2⟩,h3⟩,h4⟩,h5⟩:=h
   rw [eq_of_beq h1,show _=_ from T7 h2,cA h3,cP h4,cP h5]
  ·cases h
 ·split at h
  ·simp only [Uj] at h
   obtain ⟨⟨⟨h1,h2⟩,h3⟩,h4⟩:=h
   rw [eq_of_beq h1,jP h2,cA h3,cP h4]
  ·cases h
 ·cases h
theorem KW {x y:Option bf} (h:EA x y=true) {b:bf} (hx:x=some b):y=some b:=by
 subst hx
 cases y with
 |none=>cases h
 |some y=>rw [HY (x:=b) (y:=y) h]
theorem vV {ops:Array Oper} {o:Oper} {a:aV} {ca:Act} {μ:bu} {r:Bool} (hv: ∀(g:Nat×Bool) (p:Oper) (d:Tmp),o.guard=some g→ops[g.1]? =some p→p.dst=some d→VR P μ (a.tmp d) (ca.tmps.getD d undef)) (h:dU ops.toList a o.guard=some r):
 W6 o (yielded ops ca.tmps)=r:=by
 unfold W6
 cases hg:o.guard with
 |none=>rw [hg] at h;cases h;rfl
 |some g=>
  rw [hg] at h
  obtain ⟨j,want⟩:=g
  obtain ⟨p,hp,h⟩:=aa.1 (show ai (ops.toList[j]?) (fun p=>ai p.dst fun d=>nM want (a.tmp d))=some r from h)
  obtain ⟨d,hd,h⟩:=aa.1 h
  have hpj:ops[j]? =some p:=by simpa using hp
  have hv:=hv _ p d hg hpj hd
  simp only
  have hy:yielded ops ca.tmps j=match ca.tmps[d]? with |some (.bool b)=>some b |_=>none:=by
   unfold yielded
   rw [hpj]
   simp only [Option.bind_some,hd]
   cases ca.tmps[d]? with
   |none=>rfl
   |some q=>cases q<;>rfl
  rw [hy]
  rcases qK h hv with ⟨b,h1,rfl⟩ |⟨h1,rfl⟩
  ·have:ca.tmps[d]? =some (.bool b):=by
    rw [Uw] at h1
    cases hq:ca.tmps[d]? with
    |none=>rw [hq] at h1;cases h1
    |some q=>rw [hq] at h1;exact congrArg some h1
   rw [this]
   cases b<;>cases want<;>rfl
  ·have:ca.tmps[d]? =none∨ca.tmps[d]? =some undef:=by
    rw [Uw] at h1
    cases hq:ca.tmps[d]? with
    |none=>exact .inl rfl
    |some q=>rw [hq] at h1;exact .inr (congrArg some h1)
   rcases this with h |h<;>rw [h]<;>rfl
section
variable {r:Rec} {ops:Array Oper} {tels:List fS} {A:Nat→aV} {S:Nat→St} {B:Nat→Bool} {μ₀ μ:bu} {w₀ w:World} {D:Nat→Bool} {h:Nat} {ca:Act}
theorem Fo (hP:cH P) (hr:gk P N r) {ops:Array Oper} {q:Nat} {o:Oper} (ho:ops[q]? =some o) {a a':aV} {s s1:St} {v:AV} (hst:ou P r o a s true v s1) (hsame: ∀s,fR o.op P a' s=fR o.op P a s) {ν:bu} (hsr:SR P N ν s w) (ha:AR P ν a' ca)
 {b:Frame} {cs:List Frame} {k:List Item} {rest:List Nat} (hw:W6 o (yielded ops ca.tmps)=true):
 ∃μ₁ w₁ V,bI P N ν s w μ₁ s1 w₁∧VR P μ₁ v V∧Steps P (lone (b.atR ca (.inRegion ops (q::rest)::k)) cs w) (lone (b.atR (ca.put o.dst V) (.inRegion ops rest::k)) cs w₁):=by
 have hsem: ∀{x},fR o.op P a' s=some x→(∀d s',x≠.defer d s')→o.semAt b.roundOf ca.eval=execOp ca.eval o:=fun hx h=>XH _ _ _ (gO hx h)
 have fin: ∀{m₁:Machine} {v:AV} {rc:Option cz} {s1:St},Steps P (lone (b.atR ca (.inRegion ops (q::rest)::k)) cs w) m₁→zR P N (b.atR ca (.inRegion ops (q::rest)::k)) cs m₁ ν s w (.fin (.returned v) rc s1)→
  ∃μ₁ w₁ V,bI P N ν s w μ₁ s1 w₁∧VR P μ₁ v V∧Steps P (lone (b.atR ca (.inRegion ops (q::rest)::k)) cs w) (lone (b.atR (ca.put o.dst V) (.inRegion ops rest::k)) cs w₁):=by
  intro m₁ v rc s1 hs hb
  obtain ⟨μ',w',V,hg,hv,hst⟩:=hb
  rw [Frame.finish_atR,show (ops[q]?).bind (·.dst)=o.dst from by rw [ho];rfl] at hst
  exact ⟨μ',w',V,hg,hv,hs.trans hst⟩
 cases hst with
 |val _ _ hx=>
  rw [←hsame] at hx
  obtain ⟨μ',V,w',hres,hg,hv,_⟩:=dG hP hsr ha hx
  exact ⟨μ',w',V,hg,hv,.one (sP ho hw (by rw [hsem hx (by simp)];exact hres))⟩
 |skip _ hx=>
  rw [←hsame] at hx
  obtain ⟨μ',w',hres,hg⟩:=dG hP hsr ha hx
  exact ⟨μ',w',undef,hg,eY,.one (zU ho hw (by rw [hsem hx (by simp)];exact hres))⟩
 |enter f args s0 v rc s1 hx hq=>
  rw [←hsame] at hx
  obtain ⟨us,hres,rfl,hargs⟩:=dG hP hsr ha hx
  have hb:=((hr.call f args none a s0 _ hq).2 ν w (.norm (b.atR ca (.inRegion ops (q::rest)::k)::cs)) .run us hsr hargs (.norm _ _)).back
  exact fin (.one (mX ho hw (by rw [hsem hx (by simp)];exact hres))) hb
 |round l args s0 v rc s1 hx hq=>
  rw [←hsame] at hx
  obtain ⟨e,us,hl,hres,rfl,hargs⟩:=dG hP hsr ha hx
  obtain ⟨fn,tmps,as,bd,hy,hb⟩:=hr.round l args a s0 _ hq ν w us e hsr hargs hl
  exact fin (.one (mY ho hw (by rw [hsem hx (by simp),hres];exact hy))) (hb _ _)
theorem Inv.step (hP:cH P) (hr:gk P N r) (hF:Fit P ops.toList) (hT:jf P r ops.toList ops.toList 0 tels A S B) {hs:List (Nat×Tr bf)} (hchk:cO P (ahead ops.toList) (pr P ops.toList 0) hs tels=true) (hhead:(h,(S h).h)∈hs)
 (hI:Inv P N ops.toList tels A S μ₀ w₀ D h μ ca w) {q:Nat} {t:fS} (hq:tels[q]? =some t) (hB:B q=false) (hD:D q=false) (hdone: ∀j,bit (ahead ops.toList) q j=true→D j=true) (b:Frame) (cs:List Frame) (k:List Item) (rest:List Nat):
 ∃μ' h' ca' w',Steps P (lone (b.atR ca (.inRegion ops (q::rest)::k)) cs w) (lone (b.atR ca' (.inRegion ops rest::k)) cs w')∧Inv P N ops.toList tels A S μ₀ w₀ (lu D q) h' μ' ca' w':=by
 obtain ⟨hqo,hti,htA,htS,htw,hst,hle,hput⟩:=hT.lZ q t hq
 replace htw:=htw hB
 replace hst:=hst.1 hB
 have hql:=hT.lt hq
 have ho:ops[q]? =some t.o:=by simpa using hqo
 have hmem:t∈tels:=XD hq
 have htiq:t.i=q:=by omega
 have hwant:W6 t.o (yielded ops ca.tmps)=t.w:=by
  refine vV (P:=P) (μ:=cw μ (pH P ops.toList tels S h q)) (a:=A q) (fun g p d hg hp hd=>?_) htw
  have hbit:=hF.guard q t.o g hqo hg
  have hgq:=jZ q g.1 hbit
  obtain ⟨y,hy⟩:=hT.get (k:=g.1) (by omega)
  have hyo:y.o=p:=by
   have h1:=(hT.lZ g.1 y hy).1
   have h2:ops.toList[g.1]? =some p:=by simpa using hp
   rw [h2] at h1
   exact (TZ h1).symm
  rw [hT.new hF hy (by rw [hyo];exact hd) q hgq (Xq hql)]
  refine (hI.done g.1 y d (hdone g.1 hbit) hy (by rw [hyo];exact hd)).mono (cC fun b e hb he=>⟨?_,he⟩)
  rcases hb with hb |⟨i,h1,rfl |h2⟩
  ·exact .inl hb
  ·exact .inr ⟨_,h1,.inr hbit⟩
  ·exact .inr ⟨i,h1,.inr (pG q g.1 i hbit h2)⟩
 have hheavy:bF P t.o.op=2→q=h:=by
  intro hc
  rcases Nat.lt_trichotomy q h with hl |hl |hl
  ·have:=(hI.KT q t.o hqo hc).2 hl
   rw [hD] at this;cases this
  ·exact hl
  ·have hhl:h<ops.toList.length:=by omega
   have hho:ops.toList[h]? =some ops.toList[h]:=UB hhl
   obtain ⟨h1,h2⟩:=hI.HT _ hho
   have:=hdone h (hF.z9 h q _ t.o hl hho hqo h1 hc)
   rw [h2] at this;cases this
 have hmay:gE (ahead ops.toList) t.i h (pr P ops.toList 0)=true:=by
  rw [htiq]
  refine Af fun x hx hcx=>?_
  obtain ⟨o,g1,hco⟩:=KU hx
  rw [hcx] at hco
  have hcy:=hco.symm
  generalize x.1=e at g1
  refine ⟨fun hb=>(hI.KT e o g1 hcy).1 (hdone e hb),fun hb=>?_⟩
  rcases T2 e h with hl |hl
  ·have:=hI.down e q ((hI.KT e o g1 hcy).2 hl) hb
   rw [hD] at this;cases this
  ·exact hl
 have hsemN: ∀{x},fR t.o.op P (A q) (S q)=some x→(∀d s',x≠.defer d s')→t.o.semAt b.roundOf ca.eval=execOp ca.eval t.o:=fun hx h=>XH _ _ _ (gO hx h)
 cases hw:t.w with
 |false=>
  have hskip:Steps P (lone (b.atR ca (.inRegion ops (q::rest)::k)) cs w) (lone (b.atR (ca.put t.o.dst undef) (.inRegion ops rest::k)) cs w):=by
   have:=stepR_op_skip (P:=P) (b:=b) (a:=ca) (k:=k) (cs:=cs) (w:=w) (ops:=ops) (i:=q) (rest:=rest) (by rw [ho];simp [hwant,hw])
   rw [show (ops[q]?).bind (·.dst)=t.o.dst from by rw [ho];rfl] at this
   exact .one this
  have hv:t.v= .undef∧S (q+1)=S q:=by
   rw [hw] at hst
   generalize t.v=tv at hst
   generalize S (q+1)=sq at hst
   cases hst
   exact ⟨rfl,rfl⟩
  by_cases hc:bF P t.o.op=2
  ·have:=hheavy hc
   subst this
   obtain ⟨μ',h',hI'⟩:=hI.z9 hF hT hq hdone hc (μ₁:=cw μ (iF S q)) (w₁:=w) (u:=undef) (by rw [hv.2];exact hI.sr.stay) (by rw [hv.1];exact eY)
   exact ⟨μ',h',_,_,hskip,hI'⟩
  ·exact ⟨μ,h,_,_,hskip,hI.idle hF hT hq hD hdone hc hw hv.1⟩
 |true=>
  have hspec:=oB hchk t hmem hw
  rw [hw] at hst hwant
  have stp: ∀{u:Value} {w':World},(execOp ca.eval t.o).run P w= .ok (.value u) w'→∀{x},fR t.o.op P (A q) (S q)=some x→(∀d s',x≠.defer d s')→
   Steps P (lone (b.atR ca (.inRegion ops (q::rest)::k)) cs w) (lone (b.atR (ca.put t.o.dst u) (.inRegion ops rest::k)) cs w'):=fun h1 _ hx hn=>.one (sP ho hwant (by rw [hsemN hx hn];exact h1))
  rcases xx P t.o.op with hc |hc |hc |hc |hc
  ·
   obtain ⟨hlb,hat⟩:=jc (hspec.1 hc) _ hhead hmay
   obtain ⟨u,w',h1,h2⟩:=hI.read hP hF hT hq hD hdone hw hc (fun j y hy hcy hb=>by
    exact qP hlb _ (Ag (P:=P) (hT.lZ j y hy).1) hcy (by rw [htiq];exact hb)) hat
   have hx: ∃v,fR t.o.op P (A q) (S q)=some (.val v (S q)):=by
    generalize t.v=tv at hst
    generalize S (q+1)=sq at hst
    cases hst with
    |val _ _ hx=>obtain ⟨v,e,_⟩:=Ak P (A q) hc (S q).h (S q).n _ hx;cases e;exact ⟨_,hx⟩
    |skip _ hx=>obtain ⟨v,e,_⟩:=Ak P (A q) hc (S q).h (S q).n _ hx;cases e
    |enter f args s0 v rc s1 hx _=>obtain ⟨v,e,_⟩:=Ak P (A q) hc (S q).h (S q).n _ hx;cases e
    |round l args s0 v rc s1 hx _=>obtain ⟨v,e,_⟩:=Ak P (A q) hc (S q).h (S q).n _ hx;cases e
   obtain ⟨v,hx⟩:=hx
   exact ⟨μ,h,_,_,stp h1 hx (by simp),h2⟩
  ·
   have hx:fR t.o.op P (A q) (S q)=some (.val t.v (S (q+1))):=by
    generalize t.v=tv at hst
    generalize S (q+1)=sq at hst
    cases hst with
    |val _ _ hx=>exact hx
    |skip _ hx=>obtain ⟨v,bV,_,e,_⟩:=od P (A q) hc (S q) _ hx;cases e
    |enter f args s0 v rc s1 hx _=>obtain ⟨v,bV,_,e,_⟩:=od P (A q) hc (S q) _ hx;cases e
    |round l args s0 v rc s1 hx _=>obtain ⟨v,bV,_,e,_⟩:=od P (A q) hc (S q) _ hx;cases e
   have hrow:q<h→∀bV,S (q+1)=(S q).push bV→(S h).h.get (S q).n=some bV:=by
    intro hlt bV hpush
    have hlay:=hspec.2 hc
    unfold mQ at hlay
    rw [htA,htS,hx] at hlay
    have hr:=qO (show ij (ahead ops.toList) (pr P ops.toList 0) t.i (S q).n (S (q+1)) _=true from hlay) _ hhead (by rw [htiq];exact hlt) hmay
    rw [htiq] at hr
    rcases hr with hr |hr
    ·have key: ∀d,q+1+d≤h→(S (q+1+d)).h.get (S q).n=some bV:=by
      intro d
      induction d with
      |zero=>intro _;rw [Nat.add_zero,hpush,bM,if_pos rfl]
      |succ d ih=>
       intro hd
       have ih:=ih (by omega)
       generalize hjd:q+1+d=j at ih
       have hle:=hI.hle
       obtain ⟨y,hy⟩:=hT.get (k:=j) (by omega)
       obtain ⟨hyo,hyi,_⟩:=hT.lZ j y hy
       have hc2:bF P y.o.op≠2:=fun e=>by
        have:h≤j:=vT hr _ (Ag (P:=P) hyo) e (show q<j by omega)
        omega
       rw [show q+1+(d+1)=j+1 from by omega]
       rcases hT.sW hF hy hc2 with ⟨_,_,blk',_,e⟩ |⟨_,e⟩
       ·rw [e,bM,if_neg (fun e=>?_)]
        ·exact ih
        ·have h1:=hT.mono (j:=q+1) (k:=j) (by omega) (by omega)
         have h2:(S (q+1)).n.toNat=(S q).n.toNat+1:=by rw [hpush,dO,Pos.bX]
         rw [e] at h1
         omega
       ·rw [e];exact ih
     have:=key (h - (q+1)) (by omega)
     rwa [show q+1+(h - (q+1))=h from by omega] at this
    ·refine KW hr ?_
     rw [hpush,bM,if_pos rfl]
   obtain ⟨μ',u,w',h1,h2⟩:=hI.lay hF hT hq hD hdone hw hc hx hrow
   exact ⟨μ',h,_,_,stp h1 hx (by simp),h2⟩
  ·
   have:=hheavy hc
   subst this
   obtain ⟨a',ha,hsame⟩:=hI.mask hF hT hq hD hdone
   have hsub:Sub (cw μ (xz P ops.toList tels S q q)) (cw μ (iF S q)):=cC fun b e hb he=>⟨by
    rcases hb with hb |⟨i,⟨y,h1,h2,h3,rfl⟩,hbi⟩
    ·exact hb
    ·have:=jZ q i hbi
     have:=hT.mono (j:=i+1) (k:=q) (by omega) (by omega)
     have:=hT.B5 hF h1 h2 h3
     show (S i).n.toNat<(S q).n.toNat
     omega,he⟩
   obtain ⟨μ₁,w₁,V,hg,hv,hsteps⟩:=Fo hP hr ho hst hsame hI.sr (ha.mono hsub) (b:=b) (cs:=cs) (k:=k) (rest:=rest) hwant
   obtain ⟨μ',h',hI'⟩:=hI.z9 hF hT hq hdone hc hg hv
   exact ⟨μ',h',_,_,hsteps,hI'⟩
  ·exact absurd hc (hF.cls q t.o hqo)
  ·
   have hx: ∃s1,fR t.o.op P (A q) (S q)=some (.val t.v s1):=by
    generalize t.v=tv at hst
    generalize S (q+1)=sq at hst
    cases hst with
    |val _ _ hx=>exact ⟨_,hx⟩
    |skip _ hx=>obtain ⟨v,e⟩:=(vQ P (A q) hc).re (S q) _ hx;cases e
    |enter f args s0 v rc s1 hx _=>obtain ⟨v,e⟩:=(vQ P (A q) hc).re (S q) _ hx;cases e
    |round l args s0 v rc s1 hx _=>obtain ⟨v,e⟩:=(vQ P (A q) hc).re (S q) _ hx;cases e
   obtain ⟨s1,hx⟩:=hx
   obtain ⟨u,w',h1,h2⟩:=hI.pure hP hF hT hq hD hdone hc hx
   exact ⟨μ,h,_,_,stp h1 hx (by simp),h2⟩
theorem vW (hF:Fit P ops.toList) (hT:jf P r ops.toList ops.toList 0 tels A S B) (hs:SR P N μ₀ (S 0) w₀) (ha:AR P μ₀ (A 0) ca): ∃h,Inv P N ops.toList tels A S μ₀ w₀ (fun _=>false) h μ₀ ca w₀:=by
 obtain ⟨h,_,hh2,hh3,hh4⟩:=vU P ops.toList _ 0 rfl (VT _)
 have hres: ∀j,j≤ops.toList.length→cw μ₀ (iF S j)=μ₀:=fun j hj=>by
  refine bu.same (fun b=>?_) rfl
  rw [kc]
  by_cases hb:iF S j b
  ·rw [if_pos hb]
  ·rw [if_neg hb]
   cases hm:μ₀ b with
   |none=>rfl
   |some e=>exact absurd (Ug (hs.lt b e hm) (hT.mono (VT _) hj)) hb
 have along: ∀j,j≤h→SR P N μ₀ (S j) w₀:=by
  intro j
  induction j with
  |zero=>intro _;exact hs
  |succ j ih=>
   intro hj
   have ih:=ih (by omega)
   obtain ⟨y,hy⟩:=hT.get (k:=j) (by omega)
   rcases hT.sW hF hy (hh4 j y.o (VT _) (by omega) (hT.lZ j y hy).1) with ⟨_,_,bV,_,e⟩ |⟨_,e⟩
   ·rw [e];exact ih.HX
   ·rw [e];exact ih
 refine ⟨h,(fun i hi=>absurd hi (by simp)),(fun i j hi=>absurd hi (by simp)),hh2,fun o ho=>⟨hh3 o ho,rfl⟩,fun e o ho hc=>⟨(fun q=>absurd q (by simp)),fun q=>absurd hc (hh4 e o (VT _) q ho)⟩,ha.size,?_,(fun i t d hi=>absurd hi (by simp)),fun d _=>?_,?_,(fun j t hj=>absurd hj (by simp)),
  fun b e hb=>.inl (Ug (hs.lt b e hb) (hT.mono (VT _) hh2)),fun j t _ ht _ _=>?_,Ev.refl _ _ _,Ext.refl _ _,fun b e hb=>.inl hb⟩
 ·rw [hres 0 (VT _)];exact ha.defers
 ·rw [hres 0 (VT _)];exact ha.tm d
 ·rw [hres h hh2];exact along h (Uh _)
 ·cases hm:μ₀ (S j).n with
  |none=>rfl
  |some e=>
   have:=hs.lt _ _ hm
   have:=hT.mono (j:=0) (k:=j) (VT _) (Xq (hT.lt ht))
   omega
theorem Inv.end (hF:Fit P ops.toList) (hT:jf P r ops.toList ops.toList 0 tels A S B) (hs:SR P N μ₀ (S 0) w₀) (hI:Inv P N ops.toList tels A S μ₀ w₀ D h μ ca w) (hall: ∀i,i<ops.size→D i=true):
 bI P N μ₀ (S 0) w₀ μ (S ops.toList.length) w∧AR P μ (A ops.toList.length) ca:=by
 have hh:h=ops.toList.length:=by
  rcases T2 h ops.toList.length with hl |hl
  ·have:=(hI.HT _ (UB hl)).2
   rw [hall h (by simpa using hl)] at this
   cases this
  ·exact XI hI.hle hl
 have hlt: ∀b e,μ b=some e→iF S h b:=fun b e hb=>by
  rcases hI.Gd b e hb with q |⟨j,_,q,y,hy,_⟩
  ·exact q
  ·have:=hT.lt hy;omega
 have hres:cw μ (iF S h)=μ:=by
  refine bu.same (fun b=>?_) rfl
  rw [kc]
  by_cases hb:iF S h b
  ·rw [if_pos hb]
  ·rw [if_neg hb]
   cases hm:μ b with
   |none=>rfl
   |some e=>exact absurd (hlt b e hm) hb
 have hsr:=hI.sr
 rw [hres,hh] at hsr
 have hany: ∀(p:Pos→Prop),Sub (cw μ p) μ:=fun p=>⟨fun b e hb=>(bz.1 hb).2,fun _ _ h=>h⟩
 obtain ⟨e1,e2,e3⟩:=hT.same ops.toList.length (Uh _)
 refine ⟨⟨hI.ext,hI.fresh,hT.mono (VT _) (Uh _),hI.ev,hsr⟩,⟨fun d=>?_,by rw [e1];exact hI.size,by rw [e2];exact hI.uU.mono (hany _)⟩⟩
 show VR P μ ((A ops.toList.length).tmp d) _
 by_cases hw: ∃(j:Nat) (o:Oper),ops.toList[j]? =some o∧o.dst=some d
 ·obtain ⟨j,o,hj,hd⟩:=hw
  have hjl:j<ops.toList.length:=(List.getElem?_eq_some_iff.1 hj).1
  obtain ⟨y,hy⟩:=hT.get hjl
  have hyo:y.o=o:=by
   have:=(hT.lZ j y hy).1
   rw [hj] at this
   exact (TZ this).symm
  subst hyo
  rw [hT.new hF hy hd _ hjl (Uh _)]
  exact (hI.done j y d (hall j (by simpa using hjl)) hy hd).mono (hany _)
 ·have hn: ∀(i:Nat) (o:Oper),ops.toList[i]? =some o→o.dst≠some d:=fun i o ho hd=>hw ⟨i,o,ho,hd⟩
  rw [hT.gY _ (Uh _) fun j o _ ho=>hn j o ho]
  exact (hI.gY d fun i o ho hd=>absurd hd (hn i o ho)).mono (hany _)
end
end
end
section
open Go Go.RowKit
variable [Env]
section
variable {P:Program} {N:Nat}
theorem Cb {m:Region.Mode} {ops:Array Oper} (hR:sZ m ops) {b:Frame} {k:List Item} {cs:List Frame} {I:Array Bool→Act→World→Prop} {Q:Machine→Prop}
 (hstep: ∀(listed:Array Bool) (ca:Act) (w:World) (i:Nat),I listed ca w→i∈Xu m ops listed→∀rest,
  (∃ca' w',Steps P (lone (b.atR ca (.inRegion ops (i::rest)::k)) cs w) (lone (b.atR ca' (.inRegion ops rest::k)) cs w')∧I (listed.setIfInBounds i true) ca' w')∨∃m',Q m'∧Steps P (lone (b.atR ca (.inRegion ops (i::rest)::k)) cs w) m'):
 ∀(fuel t:Nat) (listed:Array Bool) (ca:Act) (w:World),listed.size=ops.size→eC listed=fuel→I listed ca w→
  (∃listed' ca' w',(∀i,i<ops.size→listed'.getD i true=true)∧I listed' ca' w'∧Steps P (lone (b.atR ca (.inRegion ops (Xw m ops fuel t listed [])::k)) cs w) (lone (b.atR ca' k) cs w'))∨
   ∃m',Q m'∧Steps P (lone (b.atR ca (.inRegion ops (Xw m ops fuel t listed [])::k)) cs w) m':=by
 obtain ⟨ρ,hρ⟩:=hR
 intro fuel
 induction fuel with
 |zero=>
  intro t listed ca w hsz hun hI
  exact .inl ⟨listed,ca,w,fun i hi=>mG hun (by omega),hI,.one stepR_region_end⟩
 |succ fuel ih=>
  intro t listed ca w hsz hun hI
  obtain ⟨i0,hi0,hl0⟩:=oz (listed:=listed) (by omega)
  have hne:=s6 hsz hρ (ρ i0) i0 rfl (by omega) hl0
  have hlen:0<(Xu m ops listed).length:=List.length_pos_iff.2 hne
  have hget:(Xu m ops listed)[t % (Xu m ops listed).length]? =some ((Xu m ops listed)[t % (Xu m ops listed).length]'(Nat.mod_lt _ hlen)):=UB _
  generalize hi:(Xu m ops listed)[t % (Xu m ops listed).length]'(Nat.mod_lt _ hlen)=i at hget
  have hmem:i∈Xu m ops listed:=by rw [←hi];exact List.getElem_mem _
  have hgo:Xw m ops (fuel+1) t listed []=i::Xw m ops fuel (t / (Xu m ops listed).length) (listed.setIfInBounds i true) []:=by
   show (match (Xu m ops listed)[t % (Xu m ops listed).length]? with |some i=>Xw m ops fuel (t / (Xu m ops listed).length) (listed.setIfInBounds i true) [i] |none=>[].reverse)=_
   rw [hget]
   show Xw m ops fuel (t / (Xu m ops listed).length) (listed.setIfInBounds i true) [i]=_
   rw [linearise_go_acc]
   rfl
  rw [hgo]
  rcases hstep listed ca w i hI hmem (Xw m ops fuel (t / (Xu m ops listed).length) (listed.setIfInBounds i true) []) with ⟨ca₁,w₁,hs,hI₁⟩ |⟨m',h1,h2⟩
  ·have hun₁:=j0 (mem_ready.1 hmem).1
   rcases ih (t / (Xu m ops listed).length) (listed.setIfInBounds i true) ca₁ w₁ (by simpa using hsz) (by omega) hI₁ with ⟨listed',ca',w',h1,h2,h3⟩ |⟨m',h1,h2⟩
   ·exact .inl ⟨listed',ca',w',h1,h2,hs.trans h3⟩
   ·exact .inr ⟨m',h1,hs.trans h2⟩
  ·exact .inr ⟨m',h1,h2⟩
theorem An {o:Oper} {k:Nat→aV→St→Option (List fS)} {i:Nat} {a:aV} {s:St} {w:Bool} {v:AV} {s':St} {q:List fS} (h:pt o k i a s w v s'=some q):
 s.n.toNat≤s'.n.toNat∧∃a' q',a.put o.dst v=some a'∧k (i+1) a' s'=some q'∧q=⟨i,o,a,s,w,v⟩::q':=by
 obtain ⟨h1,h2⟩:=aA.1 h
 rw [xu,xu] at h1
 obtain ⟨a',h3,h4⟩:=aa.1 h2
 obtain ⟨q',h5,h6⟩:=ba.1 h4
 exact ⟨Ua h1,a',q',h3,h5,h6.symm⟩
def HZ (b:List Nat) (n i:Nat):Bool:=TJ i n||bit b i n
theorem td {r:Rec} {all:List Oper} {b:List Nat} {n:Nat}: ∀(l:List Oper) (i:Nat) (a:aV) (s:St) (q:List fS),mR P all b n l i a s=some q→
 ∃A S,A 0=a∧S 0=s∧jf P r all l i q A S fun k=>HZ b n (i+k)
 |[],i,a,s,q,h=>by
  cases h
  exact ⟨fun _=>a,fun _=>s,rfl,rfl,rfl,fun k t h=>by simp at h⟩
 |o::l,i,a,s,q,h=>by
  replace h:aQ (HZ b n i) (pt o (mR P all b n l) i a s false .undef s) (ai (dU all a o.guard) (G0 P o (mR P all b n l) i a s))=some q:=h
  have key: ∃w v s1,(HZ b n i=false→dU all a o.guard=some w)∧((HZ b n i=false→ou P r o a s w v s1)∧(HZ b n i=true→w=false∧v= .undef∧s1=s))∧pt o (mR P all b n l) i a s w v s1=some q:=by
   cases hB:HZ b n i with
   |true=>
    rw [hB] at h
    exact ⟨false,.undef,s,(fun e=>by cases e),⟨(fun e=>by cases e),fun _=>⟨rfl,rfl,rfl⟩⟩,h⟩
   |false=>
    rw [hB] at h
    obtain ⟨w,hw,h⟩:=aa.1 (show ai (dU all a o.guard) (G0 P o (mR P all b n l) i a s)=some q from h)
    cases w with
    |false=>exact ⟨false,.undef,s,fun _=>hw,⟨fun _=>.no,(fun e=>by cases e)⟩,h⟩
    |true=>
     obtain ⟨x,hx,h⟩:=aa.1 (show ai (fR o.op P a s) (GZ o (mR P all b n l) i a s)=some q from h)
     cases x with
     |val v s1=>exact ⟨true,v,s1,fun _=>hw,⟨fun _=>.val v s1 hx,(fun e=>by cases e)⟩,h⟩
     |_=>cases h
  obtain ⟨w,v,s1,hw,hst,hp⟩:=key
  obtain ⟨hle,a',q',h3,h5,rfl⟩:=An hp
  obtain ⟨A,S,rfl,rfl,hT⟩:=td l (i+1) a' s1 q' h5
  refine ⟨fun k=>match k with |0=>a |k+1=>A k,fun k=>match k with |0=>s |k+1=>S k,rfl,rfl,congrArg (· +1) hT.len,fun k t ht=>?_⟩
  cases k with
  |zero=>
   simp at ht
   subst ht
   exact ⟨rfl,rfl,rfl,rfl,hw,hst,hle,h3⟩
  |succ k=>
   obtain ⟨g1,g2,g3,g4,g5,g6,g7,g8⟩:=hT.lZ k t (by simpa using ht)
   have e:i+(k+1)=i+1+k:=by omega
   refine ⟨by simpa using g1,by omega,g3,g4,?_,?_,g7,g8⟩
   ·rw [e];exact g5
   ·rw [e];exact g6
theorem jf.append {r:Rec} {all l1 l2:List Oper} {i:Nat} {t1 t2:List fS} {A1 A2:Nat→aV} {S1 S2:Nat→St} {B:Nat→Bool} (h1:jf P r all l1 i t1 A1 S1 B) (h2:jf P r all l2 (i+l1.length) t2 A2 S2 fun k=>B (l1.length+k))
 (hA:A1 l1.length=A2 0) (hS:S1 l1.length=S2 0):
 jf P r all (l1++l2) i (t1++t2) (fun k=>if k<l1.length then A1 k else A2 (k - l1.length)) (fun k=>if k<l1.length then S1 k else S2 (k - l1.length)) B:=by
 refine ⟨by simp [h1.len,h2.len],fun k t ht=>?_⟩
 by_cases hk:k<l1.length
 ·rw [T3 (by rw [h1.len];exact hk)] at ht
  obtain ⟨g1,g2,g3,g4,g5,g6,g7,g8⟩:=h1.lZ k t ht
  have eA:(if k+1<l1.length then A1 (k+1) else A2 (k+1 - l1.length))=A1 (k+1):=by
   by_cases hk1:k+1<l1.length
   ·rw [if_pos hk1]
   ·rw [if_neg hk1,show k+1=l1.length by omega,XJ,hA]
  have eS:(if k+1<l1.length then S1 (k+1) else S2 (k+1 - l1.length))=S1 (k+1):=by
   by_cases hk1:k+1<l1.length
   ·rw [if_pos hk1]
   ·rw [if_neg hk1,show k+1=l1.length by omega,XJ,hS]
  simp only [if_pos hk,eA,eS]
  exact ⟨by rw [T3 hk];exact g1,g2,g3,g4,g5,g6,g7,g8⟩
 ·rw [T5 (by rw [h1.len];omega),h1.len] at ht
  obtain ⟨g1,g2,g3,g4,g5,g6,g7,g8⟩:=h2.lZ _ t ht
  have e1:l1.length+(k - l1.length)=k:=by omega
  have e2:k+1 - l1.length=k - l1.length+1:=by omega
  simp only [e1] at g5 g6
  simp only [if_neg hk,if_neg (show ¬k+1<l1.length by omega),e2]
  exact ⟨by rw [T5 (by omega)];exact g1,by omega,g3,g4,g5,g6,g7,g8⟩
theorem Ao {d:Nat}: ∀(l:List Oper) (t:Tr AV),(∃o,o∈l∧o.dst=some d)∧(EB l t).get (pos d)=some .bad∨((EB l t).get (pos d)=t.get (pos d)∧∀o∈l,o.dst≠some d)
 |[],t=>.inr ⟨rfl,fun _ h=>by cases h⟩
 |o::l,t=>by
  have key:EB (o::l) t=EB l (@Option.rec Tmp (fun _=>Tr AV) t (fun d=>t.set (pos d) .bad) o.dst):=rfl
  rw [key]
  rcases Ao (d:=d) l (@Option.rec Tmp (fun _=>Tr AV) t (fun d=>t.set (pos d) .bad) o.dst) with ⟨⟨o',h1,h2⟩,h3⟩ |⟨h1,h2⟩
  ·exact .inl ⟨⟨o',Ul _ h1,h2⟩,h3⟩
  ·rw [h1]
   cases hd:o.dst with
   |none=>
    refine .inr ⟨rfl,fun o' ho=>?_⟩
    cases ho with
    |head=>rw [hd];exact fun e=>by cases e
    |tail _ ho=>exact h2 o' ho
   |some x=>
    by_cases hx:x=d
    ·subst hx
     exact .inl ⟨⟨o,Uk ..,hd⟩,gI _ _ _⟩
    ·refine .inr ⟨jM _ _ (fun e=>hx (nR e)),fun o' ho=>?_⟩
     cases ho with
     |head=>rw [hd];exact fun e=>hx (TZ e)
     |tail _ ho=>exact h2 o' ho
section
variable {r:Rec} {ops:Array Oper} {tels:List fS} {A:Nat→aV} {S:Nat→St} {B:Nat→Bool} {μ₀ μ:bu} {w₀ w:World} {D:Nat→Bool} {h:Nat} {ca:Act}
theorem Fp (hF:Fit P ops.toList) {o:Oper} {n:Nat} (ho:ops.toList[n]? =some o) {a:aV} {s s1:St} {c:dN} (hp:Fj P r o a s c s1):bF P o.op=2:=by
 have h3:=hF.cls n o ho
 have key: ∀x,fR o.op P a s=some x→(∀v s',x≠.val v s')→bF P o.op=2:=by
  intro x hx hn
  rcases xx P o.op with h |h |h |h |h
  ·obtain ⟨v,e⟩:=Md P a h s x hx;exact absurd e (hn _ _)
  ·obtain ⟨v,bV,_,e,_⟩:=od P a h s x hx;exact absurd e (hn _ _)
  ·exact h
  ·exact absurd h h3
  ·obtain ⟨v,e⟩:=(vQ P a h).re s x hx;exact absurd e (hn _ _)
 cases hp with
 |enter f args s0 c rc s1 hx _=>exact key _ hx (by simp)
 |round l args s0 c rc s1 hx _=>exact key _ hx (by simp)
theorem Inv.panics (hP:cH P) (hr:gk P N r) (hF:Fit P ops.toList) (hT:jf P r ops.toList ops.toList 0 tels A S B) (hs0:SR P N μ₀ (S 0) w₀) (hI:Inv P N ops.toList tels A S μ₀ w₀ D h μ ca w) {t:fS} (hq:tels[h]? =some t)
 (hdone: ∀j,bit (ahead ops.toList) h j=true→D j=true) (hwt:dU ops.toList (A h) t.o.guard=some true) {c:dN} {s1:St} (hp:Fj P r t.o (A h) (S h) c s1) (b:Frame) (cs:List Frame) (k:List Item) (rest:List Nat):
 ∃μ₁ w₁ C k1,bI P N μ₀ (S 0) w₀ μ₁ s1 w₁∧AR P μ₁ (y0 ops.toList (A h)) ca∧yA P μ₁ c C∧Steps P (lone (b.atR ca (.inRegion ops (h::rest)::k)) cs w) (lone ((b.atR ca k1).raise C) cs w₁):=by
 obtain ⟨hqo,_⟩:=hT.lZ h t hq
 have hql:=hT.lt hq
 have ho:ops[h]? =some t.o:=by simpa using hqo
 have hw:W6 t.o (yielded ops ca.tmps)=true:=by
  refine vV (P:=P) (μ:=cw μ (pH P ops.toList tels S h h)) (a:=A h) (fun g p d hg hp hd=>?_) hwt
  have hbit:=hF.guard h t.o g hqo hg
  have hgq:=jZ h g.1 hbit
  obtain ⟨y,hy⟩:=hT.get (k:=g.1) (by omega)
  have hyo:y.o=p:=by
   have h1:=(hT.lZ g.1 y hy).1
   have h2:ops.toList[g.1]? =some p:=by simpa using hp
   rw [h2] at h1
   exact (TZ h1).symm
  rw [hT.new hF hy (by rw [hyo];exact hd) h hgq (Xq hql)]
  refine (hI.done g.1 y d (hdone g.1 hbit) hy (by rw [hyo];exact hd)).mono (cC fun b e hb he=>⟨?_,he⟩)
  rcases hb with hb |⟨i,h1,rfl |h2⟩
  ·exact .inl hb
  ·exact .inr ⟨_,h1,.inr hbit⟩
  ·exact .inr ⟨i,h1,.inr (pG h g.1 i hbit h2)⟩
 obtain ⟨a',ha,hsame⟩:=hI.mask hF hT hq (hI.HT t.o hqo).2 hdone
 have hsub:Sub (cw μ (xz P ops.toList tels S h h)) (cw μ (iF S h)):=cC fun b e hb he=>⟨by
  rcases hb with hb |⟨i,⟨y,h1,h2,h3,rfl⟩,hbi⟩
  ·exact hb
  ·have:=jZ h i hbi
   have:=hT.mono (j:=i+1) (k:=h) (by omega) (by omega)
   have:=hT.B5 hF h1 h2 h3
   show (S i).n.toNat<(S h).n.toNat
   omega,he⟩
 replace ha:=ha.mono hsub
 have hsem: ∀{x},fR t.o.op P a' (S h)=some x→(∀d s',x≠.defer d s')→t.o.semAt b.roundOf ca.eval=execOp ca.eval t.o:=fun hx h=>XH _ _ _ (gO hx h)
 have back: ∃μ₁ w₁ C,bI P N (cw μ (iF S h)) (S h) w μ₁ s1 w₁∧yA P μ₁ c C∧Steps P (lone (b.atR ca (.inRegion ops (h::rest)::k)) cs w) (lone ((b.atR ca (.inRegion ops (h::rest)::k)).raise C) cs w₁):=by
  cases hp with
  |enter f args s0 c rc s1 hx hq=>
   rw [←hsame] at hx
   obtain ⟨us,hres,rfl,hargs⟩:=dG hP hI.sr ha hx
   obtain ⟨μ',w',C,hg,hc,hst⟩:=((hr.call f args none (A h) (S h) _ hq).2 (cw μ (iF S h)) w (.norm (b.atR ca (.inRegion ops (h::rest)::k)::cs)) .run us hI.sr hargs (.norm _ _)).back
   exact ⟨μ',w',C,hg,hc,.head (mX ho hw (by rw [hsem hx (by simp)];exact hres)) hst⟩
  |round l args s0 c rc s1 hx hq=>
   rw [←hsame] at hx
   obtain ⟨e,us,hl,hres,rfl,hargs⟩:=dG hP hI.sr ha hx
   obtain ⟨fn,tmps,as,bd,hy,hb⟩:=hr.round l args (A h) (S h) _ hq (cw μ (iF S h)) w us e hI.sr hargs hl
   obtain ⟨μ',w',C,hg,hc,hst⟩:=hb (b.atR ca (.inRegion ops (h::rest)::k)) cs
   exact ⟨μ',w',C,hg,hc,.head (mY ho hw (by rw [hsem hx (by simp),hres];exact hy)) hst⟩
 obtain ⟨μ₁,w₁,C,hg,hc,hst⟩:=back
 have hle0:(S 0).n.toNat≤(S h).n.toNat:=hT.mono (VT _) (Xq hql)
 have hs1:Sub μ₀ μ₁:=⟨fun b e hb=>hg.ext.sub b e (bz.2 ⟨Ug (hs0.lt b e hb) hle0,hI.ext.sub b e hb⟩),fun ad v h=>hg.ext.sub.fz ad v (hI.ext.sub.fz ad v h)⟩
 have hsn:Sub (cw μ (iF S 0)) μ₁:=⟨fun b e hb=>by
  obtain ⟨h1,h2⟩:=bz.1 hb
  exact hg.ext.sub b e (bz.2 ⟨Ug h1 hle0,h2⟩),hg.ext.sub.fz⟩
 obtain ⟨e1,e2,e3⟩:=hT.same h (Xq hql)
 refine ⟨μ₁,w₁,C,_,⟨⟨hs1,fun b e hb=>?_,fun ad v ha=>?_⟩,fun b e hb=>?_,Ui hle0 hg.le,hI.xA hg.ev,hg.sr⟩,⟨fun d=>?_,?_,?_⟩,hc,hst⟩
 ·rcases hg.ext.new b e hb with q |⟨b₀,e₀,q1,q2⟩
  ·exact .inl (Ui hI.ev.size q)
  ·rcases hI.ext.new b₀ e₀ (bz.1 q1).2 with q |⟨b₁,e₁,q3,q4⟩
   ·exact .inl (q2▸q)
   ·exact .inr ⟨b₁,e₁,q3,q4.trans q2⟩
 ·rcases hg.ext.fE ad v ha with q |q |⟨b₀,e₀,q1,q2⟩
  ·exact hI.ext.fE ad v q
  ·exact .inr (.inl (Ui hI.ev.size q))
  ·rcases hI.ext.new b₀ e₀ (bz.1 q1).2 with q |⟨b₁,e₁,q3,q4⟩
   ·exact .inr (.inl (q2▸q))
   ·exact .inr (.inr ⟨b₁,e₁,q3,q4.trans q2⟩)
 ·rcases hg.fresh b e hb with q |q
  ·exact hI.fresh b e (bz.1 q).2
  ·exact .inr (Ui hle0 q)
 ·have hget:(y0 ops.toList (A h)).tm=EB ops.toList (A h).tm:=by generalize A h=a;cases a;rfl
  rw [hget]
  rcases Ao (d:=d) ops.toList (A h).tm with ⟨_,e⟩ |⟨e,hn⟩
  ·rw [e];exact .bad _
  ·rw [e]
   have hn': ∀(i:Nat) (o:Oper),ops.toList[i]? =some o→o.dst≠some d:=fun i o ho=>hn o (XD ho)
   have:=hI.gY d fun i o ho hd=>absurd hd (hn' i o ho)
   rw [←hT.gY h (Xq hql) fun j o _ ho=>hn' j o ho] at this
   exact this.mono hsn
 ·have:(y0 ops.toList (A h)).n=(A h).n:=by generalize A h=a;cases a;rfl
  rw [this,e1];exact hI.size
 ·have:(y0 ops.toList (A h)).defers=(A h).defers:=by generalize A h=a;cases a;rfl
  rw [this,e2];exact hI.uU.mono hsn
end
theorem KX (l:List Oper) (a:aV):(y0 l a).rc=a.rc:=by cases a;rfl
theorem pJ (hP:cH P):Mc P N:=by
 intro r hr id ops rd a s o h μ w b X u k ca hs ha hX hk hrd hf
 obtain ⟨hok,h⟩:=aA.1 (show aQ (w9 P ops.toList) (ai (iL P ops.toList r ops.toList 0 a s) (lX P ops.toList)) none=some o from h)
 obtain ⟨q,hq,hE⟩:=aa.1 h
 clear h
 have hF:=NU hok
 obtain ⟨A,S,rfl,rfl,hlen,hEnd,hT0⟩:=qN _ _ _ _ _ hq
 let w₀:World:={w with drawn:=w.drawn+1}
 have hk0:Kept w w₀:=⟨rfl,rfl,rfl,Uh _,fun _ _=>rfl⟩
 have hs0:SR P N μ (S 0) w₀:=hs.kept hk0
 have hg0:bI P N μ (S 0) w μ (S 0) w₀:=⟨Ext.refl _ _,fun _ _ h=>.inl h,Uh _,⟨rfl,rfl,rfl,Uh _,fun _ _ _=>rfl⟩,hs0⟩
 obtain ⟨m,t',hsch,hR,hbinds⟩:=HS hF (P.follows .mixedOrders) (w.tape w.drawn (.order b.fn id))
 have hempty:eC (Xe ops.size false)=ops.size:=by
  unfold eC
  simp
 have hstep0:Steps P (lone (b.atR ca (.code (.region id ops true)::k)) (X.cs u) w) (lone (b.atR ca (.inRegion ops (Region.linearise m ops t')::k)) (X.cs u) w₀):=by
  rw [←hsch]
  exact .one stepR_region_draw
 have hD0: ∀i,false=(Xe ops.size false).getD i false:=fun i=>by
  rw [Uw]
  cases hx:(Xe ops.size false)[i]? with
  |none=>rfl
  |some x=>
   have:=Array.mem_of_getElem? hx
   simp at this
   rw [this.2];rfl
 have ready: ∀{D:Nat→Bool} {tels:List fS} {A:Nat→aV} {S:Nat→St} {B:Nat→Bool} {h:Nat} {μ':bu} {ca:Act} {w:World} {listed:Array Bool} {i:Nat},jf P r ops.toList ops.toList 0 tels A S B→listed.size=ops.size→(∀i,D i=listed.getD i false)→
  Inv P N ops.toList tels A S μ w₀ D h μ' ca w→i∈Xu m ops listed→∃t,tels[i]? =some t∧D i=false∧(∀j,bit (ahead ops.toList) i j=true→D j=true)∧i<ops.size:=by
  intro D tels A S B h μ' ca w listed i hT hsz hDl hI hready
  obtain ⟨hnl,o,ho,hedge⟩:=mem_ready.1 hready
  have hi:i<ops.size:=(Array.getElem?_eq_some_iff.1 ho).1
  obtain ⟨t,ht⟩:=hT.get (k:=i) (by simpa using hi)
  refine ⟨t,ht,?_,fun j hb=>?_,hi⟩
  ·rw [hDl]
   rw [Uw,UG (by omega)] at hnl⊢
   simpa using hnl
  ·obtain ⟨e,he,hbi,hlt,hor⟩:=sU (ops:=ops.toList) (by simpa using ho) hb
   have hDe:D e.on=true:=by rw [hDl];exact hedge e (by simpa using he) (hbinds e hbi)
   rcases hor with rfl |hor
   ·exact hDe
   ·exact hI.down e.on j hDe hor
 have andD_l: ∀{D:Nat→Bool} {listed:Array Bool} {i:Nat},listed.size=ops.size→i<ops.size→(∀i,D i=listed.getD i false)→∀j,lu D i j=(listed.setIfInBounds i true).getD j false:=by
  intro D listed i hsz hi hDl j
  by_cases hj:j=i
  ·subst hj
   rw [ec,Uw,Array.getElem?_setIfInBounds_self_of_lt (by omega)]
   rfl
  ·rw [bQ D hj,hDl,Uw,Uw,Array.getElem?_setIfInBounds_ne (XF hj)]
 cases hq2:q.2 with
 |done a' s'=>
  rw [hq2] at hEnd
  obtain ⟨hn,hAn,hSn⟩:=hEnd
  have h:aQ (cO P (ahead ops.toList) (pr P ops.toList 0) (ld P ops.toList.length s' q.1) q.1) (some (.at .normal a' s')) none=some o:=by
   have h:lX P ops.toList q=some o:=hE
   unfold lX at h
   rw [hq2] at h
   exact h
  obtain ⟨hchk,h⟩:=aA.1 h
  cases h
  rw [hn] at hAn hSn
  rw [hn,List.take_length] at hT0
  have hT:=hT0
  rw [←hSn] at hchk
  rw [←hAn,←hSn]
  obtain ⟨h0,hI0⟩:=vW hF hT hs0 ha
  have hhead: ∀{D:Nat→Bool} {h:Nat} {μ':bu} {ca:Act} {w:World},Inv P N ops.toList q.1 A S μ w₀ D h μ' ca w→(h,(S h).h)∈ld P ops.toList.length (S ops.toList.length) q.1:=by
   intro D h μ' ca w hI
   obtain ⟨m1,m2⟩:=pI (P:=P) (n:=ops.toList.length) (s:=S ops.toList.length) (l:=q.1)
   rcases T2 h ops.toList.length with hl |hl
   ·obtain ⟨y,hy⟩:=hT.get hl
    obtain ⟨g1,g2,_,g4,_⟩:=hT.lZ h y hy
    have:=m2 y (XD hy) (hI.HT y.o g1).1
    rw [g4] at this
    rwa [show y.i=h from by omega] at this
   ·have:h=ops.toList.length:=XI hI.hle hl
    rw [this]
    exact m1
  obtain ⟨listed,ca',w',hall,⟨hsz,D,h',μ',hDl,hI⟩,hsteps⟩:=Fm (P:=P) hR (b:=b) (k:=k) (cs:=X.cs u)
   (I:=fun listed ca w=>listed.size=ops.size∧∃D h μ',(∀i,D i=listed.getD i false)∧Inv P N ops.toList q.1 A S μ w₀ D h μ' ca w)
   (fun listed ca w i hI hready rest=>by
    obtain ⟨hsz,D,h,μ',hDl,hI⟩:=hI
    obtain ⟨t,ht,hD,hdone,hi⟩:=ready hT hsz hDl hI hready
    obtain ⟨μ₂,h₂,ca₂,w₂,hst,hI₂⟩:=hI.step hP hr hF hT hchk (hhead hI) ht rfl hD hdone b (X.cs u) k rest
    exact ⟨ca₂,w₂,hst,by simpa using hsz,lu D i,h₂,μ₂,andD_l hsz hi hDl,hI₂⟩)
   ops.size t' (Xe ops.size false) ca w₀ (by simp) hempty ⟨by simp,_,h0,μ,hD0,hI0⟩
  obtain ⟨hg,hA⟩:=hI.end hF hT hs0 fun i hi=>by
   rw [hDl,Uw,UG (by omega)]
   have:=hall i hi
   rw [Uw,UG (by omega)] at this
   simpa using this
  have hrc:=(hT.same ops.toList.length (Uh _)).2.2
  exact ⟨μ',w',ca',u,hg0.trans hg,hA,by rw [hrc];exact hX.mono hg.ext.sub,hstep0.trans hsteps⟩
 |NA p a' s' c s1=>
  rw [hq2] at hEnd
  obtain ⟨hpn,hAn,hSn,hwn,hpc⟩:=hEnd
  generalize hnn:q.1.length=n at*
  have hnl:n<ops.toList.length:=(List.getElem?_eq_some_iff.1 hpn).1
  have h:Ds P ops.toList q.1 n a' s' c s1=some o:=by
   have h:lX P ops.toList q=some o:=hE
   unfold lX at h
   rw [hq2] at h
   rw [←hnn]
   exact h
  obtain ⟨us,hus,h⟩:=aa.1 h
  obtain ⟨hchk,h⟩:=aA.1 (show aQ (cO P (ahead ops.toList) (pr P ops.toList 0) (ld P n s' q.1) (q.1++us)) (some (.at (.panic c) (y0 ops.toList a') s1)) none=some o from h)
  cases h
  obtain ⟨A2,S2,hA2,hS2,hT2⟩:=td (r:=r) _ _ _ _ _ hus
  have htl:(ops.toList.take n).length=n:=by rw [List.length_take];omega
  have hT1:jf P r ops.toList (ops.toList.take n) 0 q.1 A S (HZ (ahead ops.toList) n):=by
   refine ⟨hT0.len,fun k t ht=>?_⟩
   obtain ⟨g1,g2,g3,g4,g5,g6,g7,g8⟩:=hT0.lZ k t ht
   have hkn:k<n:=by rw [←hnn];exact (List.getElem?_eq_some_iff.1 ht).1
   have hB:HZ (ahead ops.toList) n k=false:=by
    unfold HZ
    rw [Wg]
    refine ⟨by cases hb:TJ k n with
    |false=>rfl
    |true=>have:=T7 hb;omega,?_⟩
    cases hb:bit (ahead ops.toList) k n with
    |false=>rfl
    |true=>have:=jZ k n hb;omega
   exact ⟨g1,g2,g3,g4,fun _=>g5 rfl,⟨fun _=>g6.1 rfl,fun e=>by rw [hB] at e;cases e⟩,g7,g8⟩
  have hT:=hT1.append (l2:=ops.toList.drop n) (t2:=us) (A2:=A2) (S2:=S2) (by rw [htl,WH];exact hT2) (by rw [htl,hA2,hAn]) (by rw [htl,hS2,hSn])
  rw [List.take_append_drop] at hT
  rw [htl] at hT
  generalize hAA:(fun k=>if k<n then A k else A2 (k - n))=AA at hT
  generalize hSS:(fun k=>if k<n then S k else S2 (k - n))=SS at hT
  have lo: ∀k,k≤n→AA k=A k∧SS k=S k:=fun k hk=>by
   rw [←hAA,←hSS]
   by_cases hkn:k<n
   ·simp only [if_pos hkn,and_self]
   ·have:k=n:=by omega
    subst this
    simp only [XG,if_false,XJ,hA2,hS2,hAn,hSn,and_self]
  have hA0:=(lo 0 (VT _)).1
  have hS0:=(lo 0 (VT _)).2
  obtain ⟨hAnn,hSnn⟩:=lo n (Uh _)
  rw [←hA0] at ha
  rw [←hS0] at hs0 hg0
  obtain ⟨h0,hI0⟩:=vW hF hT hs0 ha
  have hp2:=Fp hF hpn hpc
  obtain ⟨tn,htn⟩:=hT.get hnl
  have htno:tn.o=p:=by
   have:=(hT.lZ n tn htn).1
   rw [hpn] at this
   exact (TZ this).symm
  have hle: ∀{D:Nat→Bool} {h:Nat} {μ':bu} {ca:Act} {w:World},Inv P N ops.toList (q.1++us) AA SS μ w₀ D h μ' ca w→D n=false→h≤n:=by
   intro D h μ' ca w hI hDn
   rcases T2 n h with hl |hl
   ·rw [(hI.KT n p hpn hp2).2 hl] at hDn;cases hDn
   ·exact hl
  have hhead: ∀{D:Nat→Bool} {h:Nat} {μ':bu} {ca:Act} {w:World},Inv P N ops.toList (q.1++us) AA SS μ w₀ D h μ' ca w→D n=false→(h,(SS h).h)∈ld P n s' q.1:=by
   intro D h μ' ca w hI hDn
   obtain ⟨m1,m2⟩:=pI (P:=P) (n:=n) (s:=s') (l:=q.1)
   have hhn:=hle hI hDn
   rcases T2 h n with hl |hl
   ·obtain ⟨y,hy⟩: ∃y,q.1[h]? =some y:=⟨_,UB (by rw [hnn];exact hl)⟩
    obtain ⟨g1,g2,_,g4,_⟩:=hT1.lZ h y hy
    rw [List.getElem?_take,if_pos hl] at g1
    have:=m2 y (XD hy) (hI.HT y.o g1).1
    rw [g4] at this
    rw [(lo h (Xq hl)).2]
    rwa [show y.i=h from by omega] at this
   ·have:h=n:=XI hhn hl
    rw [this,hSnn,hSn]
    exact m1
  rcases Cb (P:=P) hR (b:=b) (k:=k) (cs:=X.cs u)
   (I:=fun listed ca w=>listed.size=ops.size∧∃D h μ',(∀i,D i=listed.getD i false)∧D n=false∧Inv P N ops.toList (q.1++us) AA SS μ w₀ D h μ' ca w)
   (Q:=fun m'=>∃μ₁ w₁ C k1 ca₁,bI P N μ (SS 0) w₀ μ₁ s1 w₁∧AR P μ₁ (y0 ops.toList (A n)) ca₁∧yA P μ₁ c C∧m'=lone ((b.atR ca₁ k1).raise C) (X.cs u) w₁)
   (fun listed ca w i hI hready rest=>by
    obtain ⟨hsz,D,e0,μ',hDl,hDn,hI⟩:=hI
    obtain ⟨t,ht,hD,hdone,hi⟩:=ready hT hsz hDl hI hready
    by_cases hin:i=n
    ·subst hin
     have hh:i=e0:=by
      have:=hle hI hDn
      rcases T2 e0 i with hl |hl
      ·have hhl:e0<ops.toList.length:=by omega
       have hho:ops.toList[e0]? =some ops.toList[e0]:=UB hhl
       obtain ⟨h1,h2⟩:=hI.HT _ hho
       have:=hdone e0 (hF.z9 e0 i _ p hl hho hpn h1 hp2)
       rw [h2] at this;cases this
      ·omega
     subst hh
     rw [ht] at htn
     cases htn
     obtain ⟨μ₁,w₁,C,k1,q1,q2,q3,q4⟩:=hI.panics hP hr hF hT hs0 ht hdone (by rw [htno,hAnn];exact hwn) (by rw [htno,hAnn,hSnn];exact hpc) b (X.cs u) k rest
     rw [hAnn] at q2
     exact .inr ⟨_,⟨μ₁,w₁,C,k1,ca,q1,q2,q3,rfl⟩,q4⟩
    ·have hB:HZ (ahead ops.toList) n i=false:=by
      unfold HZ
      rw [Wg]
      refine ⟨by cases hb:TJ i n with
      |false=>rfl
      |true=>exact absurd (T7 hb) hin,?_⟩
      cases hb:bit (ahead ops.toList) i n with
      |false=>rfl
      |true=>have:=hdone n hb;rw [hDn] at this;cases this
     obtain ⟨μ₂,h₂,ca₂,w₂,hst,hI₂⟩:=hI.step hP hr hF hT hchk (hhead hI hDn) ht hB hD hdone b (X.cs u) k rest
     exact .inl ⟨ca₂,w₂,hst,by simpa using hsz,lu D i,h₂,μ₂,andD_l hsz hi hDl,by rw [bQ D (XF hin)];exact hDn,hI₂⟩)
   ops.size t' (Xe ops.size false) ca w₀ (by simp) hempty ⟨by simp,_,h0,μ,hD0,rfl,hI0⟩ with ⟨listed,ca',w',hall,⟨hsz,D,h',μ',hDl,hDn,hI⟩,_⟩ |⟨m',⟨μ₁,w₁,C,k1,ca₁,q1,q2,q3,rfl⟩,hsteps⟩
  ·exfalso
   have hns:n<ops.size:=by simpa using hnl
   rw [hDl,Uw,UG (by omega)] at hDn
   have:=hall n hns
   rw [Uw,UG (by omega)] at this
   simp at this hDn
   rw [this] at hDn
   cases hDn
  ·rw [←hAn]
   refine ⟨μ₁,w₁,ca₁,u,?_,q2,?_,k1,C,q3,hstep0.trans hsteps⟩
   ·rw [←hS0];exact hg0.trans q1
   ·rw [KX,←hAnn,(hT.same n (Xq hnl)).2.2,hA0]
    exact hX.mono q1.ext.sub
theorem mb (hP:cH P) {orc:Ks} (ho:kN P orc.call) (hh:sS P N orc.loop): ∀n,gk P N (run P orc n):=Fe hP (pJ hP) ho hh
end
end
end Go.Proofs.Sai
