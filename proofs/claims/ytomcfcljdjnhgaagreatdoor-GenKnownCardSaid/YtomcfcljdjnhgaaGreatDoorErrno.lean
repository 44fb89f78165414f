/- errors.As at the target of typed.errno: an error of the type typed.wrong is found, and its number told (condition: package errors' variable errorType holds the handle of the type error). -/
import Derived.Test.YtomcfcljdjnhgaaGreatDoorProg
import Derived.WalkKit
import Derived.LaidEql
import Derived.Stop.Asserts
import Derived.RowKitTokens
import Derived.Carry
set_option linter.unusedSimpArgs false
set_option linter.unusedVariables false
namespace Go.Proofs.YtomcfcljdjnhgaaGreatDoor
open Go Go.RowKit Go.Extern.Stop Go.Stop Go.Extern

/-! ### Closed facts on the model's entries for internal/reflectlite -/
theorem e_valueOfP (t : Addr) (w : World) : (ReflectliteValue.unpack (.iface 137 (.pointer (some t)))).run Tryz.prog w
    = .ok (.agg #[.pointer (some ⟨8, 137, none⟩), .pointer (some ⟨w.heap.size, 0, none⟩), .int .u64 150]) (w.alloc (.cells #[.pointer (some t)] 137)) := by kernel_rfl
theorem e_valueOfT (e : Int) (w : World) : (ReflectliteValue.unpack (.iface 135 (.agg #[.int .i64 e]))).run Tryz.prog w
    = .ok (.agg #[.pointer (some ⟨8, 135, none⟩), .pointer (some ⟨w.heap.size, 0, none⟩), .int .u64 153]) (w.alloc (.cells #[.int .i64 e] 135)) := by kernel_rfl
theorem e_typeP (a : Addr) (w : World) : (ReflectliteValue.methodAny (ReflectliteValue.valueError "reflectlite.Value.Type" 0) (fun t _ _ _ => ReflectliteType.toType t) #[.agg #[.pointer (some ⟨8, 137, none⟩), .pointer (some a), .int .u64 150]]).run Tryz.prog w
    = .ok (.iface 224 (.agg #[.pointer (some ⟨8, 137, none⟩)])) w := by kernel_rfl
theorem e_methodKind (h : Value) (w : World) : (Go.method 489 224 (.agg #[h]) "Kind").run Tryz.prog w = .ok (309, h) w := by kernel_rfl
theorem e_kindP (w : World) : ((ReflectliteType.abiMethod fun t => (fun a : Nat => Value.int IntKind.u8 (a : Int)) <$> Rtype.kind t) #[.pointer (some ⟨8, 137, none⟩)]).run Tryz.prog w = .ok (.int .u8 22) w := by kernel_rfl
theorem e_kindT (w : World) : ((ReflectliteType.abiMethod fun t => (fun a : Nat => Value.int IntKind.u8 (a : Int)) <$> Rtype.kind t) #[.pointer (some ⟨8, 135, none⟩)]).run Tryz.prog w = .ok (.int .u8 25) w := by kernel_rfl
theorem e_rlm (z : Sem Value) (f : TypeId → Addr → Nat → Nat → Sem Value) (v : Value) :
    ReflectliteValue.method z f #[v] = (do match ← ReflectliteValue.parts v with | none => z | some (t, a, fl) => f t a fl (fl % 32)) := rfl
theorem e_partsP (a : Addr) (w : World) : (ReflectliteValue.parts (.agg #[.pointer (some ⟨8, 137, none⟩), .pointer (some a), .int .u64 150])).run Tryz.prog w = .ok (some (137, a, 150)) w := by kernel_rfl
theorem e_underP : Tryz.prog.underlying 137 = some (.pointer 135) := by kernel_rfl
theorem e_isNilP (a p : Addr) (W : World) (ha : W.cell? a = some (.pointer (some p))) :
    (ReflectliteValue.method (ReflectliteValue.valueError "reflectlite.Value.IsNil" 0) ReflectliteValue.isNil #[.agg #[.pointer (some ⟨8, 137, none⟩), .pointer (some a), .int .u64 150]]).run Tryz.prog W = .ok (.bool false) W := by
  rw [e_rlm]
  simp only [Sem.run_bind, e_partsP, Result.andThen]
  simp [ReflectliteValue.isNil, loadVar, isAgg, underlying, e_underP, ha, Result.andThen]
theorem e_methodElem (h : Value) (w : World) : (Go.method 489 224 (.agg #[h]) "Elem").run Tryz.prog w = .ok (320, .agg #[h]) w := by kernel_rfl
theorem e_methodImplements (h : Value) (w : World) : (Go.method 489 224 (.agg #[h]) "Implements").run Tryz.prog w = .ok (321, .agg #[h]) w := by kernel_rfl
theorem e_methodAssignableTo (h : Value) (w : World) : (Go.method 489 224 (.agg #[h]) "AssignableTo").run Tryz.prog w = .ok (318, .agg #[h]) w := by kernel_rfl
theorem e_elemP (w : World) : (ReflectliteType.method ReflectliteType.elem #[.agg #[.pointer (some ⟨8, 137, none⟩)]]).run Tryz.prog w = .ok (.iface 224 (.agg #[.pointer (some ⟨8, 135, none⟩)])) w := by kernel_rfl
theorem e_implT (w : World) : (ReflectliteType.relation "Implements" ReflectliteType.implements_ #[.agg #[.pointer (some ⟨8, 135, none⟩)], .iface 224 (.agg #[.pointer (some ⟨8, 100, none⟩)])]).run Tryz.prog w = .ok (.bool true) w := by kernel_rfl
theorem e_typeOfT (v : Value) (w : World) : (ReflectliteType.typeOf #[.iface 135 v]).run Tryz.prog w = .ok (.iface 224 (.agg #[.pointer (some ⟨8, 135, none⟩)])) w := by kernel_rfl
theorem e_assT (w : World) : (ReflectliteType.relation "AssignableTo" ReflectliteType.assignableTo #[.agg #[.pointer (some ⟨8, 135, none⟩)], .iface 224 (.agg #[.pointer (some ⟨8, 135, none⟩)])]).run Tryz.prog w = .ok (.bool true) w := by kernel_rfl
theorem e_elemOfP (w : World) : (Rtype.elem? 137).run Tryz.prog w = .ok (some 135) w := by kernel_rfl
theorem e_mkT (p : Addr) (w : World) : (ReflectliteValue.mk 135 p ReflectliteValue.flagAddr).run Tryz.prog w = .ok (.agg #[.pointer (some ⟨8, 135, none⟩), .pointer (some p), .int .u64 409]) w := by kernel_rfl
theorem e_elemVP (a p : Addr) (W : World) (ha : W.cell? a = some (.pointer (some p))) :
    (ReflectliteValue.method (ReflectliteValue.valueError "reflectlite.Value.Elem" 0) ReflectliteValue.elem #[.agg #[.pointer (some ⟨8, 137, none⟩), .pointer (some a), .int .u64 150]]).run Tryz.prog W
      = .ok (.agg #[.pointer (some ⟨8, 135, none⟩), .pointer (some p), .int .u64 409]) W := by
  rw [e_rlm]
  simp only [Sem.run_bind, e_partsP, Result.andThen]
  simp [ReflectliteValue.elem, loadVar, isAgg, underlying, e_underP, ha, Result.andThen, e_elemOfP, e_mkT]
theorem e_rls (v x : Value) : ReflectliteValue.set #[v, x] = (do
    let (some (dst, a, fl), some (src, b, _)) := (← ReflectliteValue.parts v, ← ReflectliteValue.parts x)
      | unsupported (.noEntry "extern/(internal/reflectlite.Value).Set.zeroValue")
    if fl / ReflectliteValue.flagAddr % 2 == 0 then unsupported (.noEntry "extern/(internal/reflectlite.Value).Set.unaddressable")
    let val ← loadVar src b
    if ← Rtype.directlyAssignable dst src then storeVar dst a val
    else if ← Rtype.implements dst src then
      if (← Rtype.kind src) == 20 then
        match val with
        | .nilIface => unsupported (.noEntry "extern/reflectlite: a nil value of one interface type handed on as a value of another")
        | _ => storeVar dst a val
      else storeVar dst a (.iface src val)
    else panicString ("reflectlite.Set: value of type " ++ (← Rtype.spelt src) ++ " is not assignable to type " ++ (← Rtype.spelt dst))
    pure (.tuple #[])) := rfl
theorem e_partsTa (a : Addr) (w : World) : (ReflectliteValue.parts (.agg #[.pointer (some ⟨8, 135, none⟩), .pointer (some a), .int .u64 409])).run Tryz.prog w = .ok (some (135, a, 409)) w := by kernel_rfl
theorem e_partsT (a : Addr) (w : World) : (ReflectliteValue.parts (.agg #[.pointer (some ⟨8, 135, none⟩), .pointer (some a), .int .u64 153])).run Tryz.prog w = .ok (some (135, a, 153)) w := by kernel_rfl
theorem e_directT (w : World) : (Rtype.directlyAssignable 135 135).run Tryz.prog w = .ok true w := by kernel_rfl
theorem e_sizeT (w : World) : (sizeOf 135).run Tryz.prog w = .ok 1 w := by kernel_rfl
theorem e_aggT (w : World) : (isAgg 135).run Tryz.prog w = .ok true w := by kernel_rfl
/-- (Value).Set: the variable at 'ta' gets what the Value's own variable 'b' holds. -/
theorem e_setT (ta b : Addr) (e : Int) (old : Value) (W : World) (hb : W.cell? b = some (.int .i64 e)) (ht : W.cell? ta = some old) (hf : W.frozen? ta = false) :
    (ReflectliteValue.set #[.agg #[.pointer (some ⟨8, 135, none⟩), .pointer (some ta), .int .u64 409], .agg #[.pointer (some ⟨8, 135, none⟩), .pointer (some b), .int .u64 153]]).run Tryz.prog W
      = .ok (.tuple #[]) (W.setCell ta (.int .i64 e)) := by
  rw [e_rls]
  simp only [Sem.run_bind, e_partsTa, e_partsT, Result.andThen]
  have hl : (loadVar 135 b).run Tryz.prog W = .ok (.agg #[.int .i64 e]) W := by
    simp [loadVar, e_aggT, e_sizeT, loadCells, loadCellsFrom, Addr.add, hb, Result.andThen]
  have hs : (storeVar 135 ta (.agg #[.int .i64 e])).run Tryz.prog W = .ok () (W.setCell ta (.int .i64 e)) := by
    simp [storeVar, Value.cells, storeCells, Addr.add, Result.andThen]
    rw [run_store Tryz.prog W ta _ _ (by rfl)]
    simp [ht, hf]
  simp [ReflectliteValue.flagAddr, hl, e_directT, hs, Result.andThen]

set_option maxHeartbeats 4000000 in
theorem as2_hit (e : Int) (t a : Addr) (old tv : Value) (w : World) (ha : w.cell? a = some (.pointer (some t))) (ht0 : w.cell? t = some old) (hf0 : w.frozen? t = false) :
    Calls Tryz.prog 155 #[.iface 135 (.agg #[.int .i64 e]), tv, .agg #[.pointer (some ⟨8, 137, none⟩), .pointer (some a), .int .u64 150], .iface 224 (.agg #[.pointer (some ⟨8, 135, none⟩)])] w
      fun ev w' => ev = .returned (.bool true) ∧ w' = ((w.alloc (.cells #[.pointer (some ⟨8, 137, none⟩), .pointer (some a), .int .u64 150] 180)).alloc (.cells #[.int .i64 e] 135)).setCell t (.int .i64 e) := by
  have h10 := @run_callFunc_extern Tryz.prog 186 _ ReflectliteType.typeOf Tryz.func186 (by kernel_rfl) (by kernel_rfl) (by kernel_rfl) (by kernel_rfl)
  have h35 := @run_callFunc_extern Tryz.prog 318 _ (ReflectliteType.relation "AssignableTo" ReflectliteType.assignableTo) Tryz.func318 (by kernel_rfl) (by kernel_rfl) (by kernel_rfl) (by kernel_rfl)
  have h11 := @run_callFunc_extern Tryz.prog 187 _ (ReflectliteValue.method (ReflectliteValue.valueError "reflectlite.Value.Elem" 0) ReflectliteValue.elem) Tryz.func187 (by kernel_rfl) (by kernel_rfl) (by kernel_rfl) (by kernel_rfl)
  have h12 := @run_callFunc_extern Tryz.prog 188 _ ReflectliteValue.set Tryz.func188 (by kernel_rfl) (by kernel_rfl) (by kernel_rfl) (by kernel_rfl)
  have h6 := @run_callFunc_extern Tryz.prog 152 _ (fun args => ReflectliteValue.unpack (args.getD 0 (.tuple #[]))) Tryz.func152 (by kernel_rfl) (by kernel_rfl) (by kernel_rfl) (by kernel_rfl)
  have tO := e_typeOfT
  have mA := e_methodAssignableTo
  have aT := e_assT
  have vT := e_valueOfT
  have hal : a.block < w.heap.size := by
    rcases Nat.lt_or_ge a.block w.heap.size with h | h
    · exact h
    · simp [World.cell?, Array.getElem?_eq_none h] at ha
  have htl : t.block < w.heap.size := by
    rcases Nat.lt_or_ge t.block w.heap.size with h | h
    · exact h
    · simp [World.cell?, Array.getElem?_eq_none h] at ht0
  have el := e_elemVP a t (w.alloc (.cells #[.pointer (some ⟨8, 137, none⟩), .pointer (some a), .int .u64 150] 180)) (by rw [World.cell?_alloc_lt _ _ a hal]; exact ha)
  have st := e_setT t ⟨w.heap.size + 1, 0, none⟩ e old ((w.alloc (.cells #[.pointer (some ⟨8, 137, none⟩), .pointer (some a), .int .u64 150] 180)).alloc (.cells #[.int .i64 e] 135))
    (by rw [World.cell?_alloc_at _ _ _ _ (by simp)]; rfl)
    (by rw [World.cell?_alloc_lt _ _ t (by first | (simp; done) | (simp; omega)), World.cell?_alloc_lt _ _ t htl]; exact ht0)
    (by rw [World.frozen?_alloc_old _ _ t (by first | (simp; done) | (simp; omega)), World.frozen?_alloc_old _ _ t (Nat.ne_of_lt htl)]; exact hf0)
  go_enter Tryz.func155, Tryz.ntmps155
  go_wp2
  refine wp_loop_rounds 1 ?_
  rw [rounds_succ]
  go_wp2
  go_ret
  exact ⟨rfl, rfl⟩

/-- package errors' 'errorType'. -/
def HandleAt (w : World) : Prop := w.cell? ⟨0, 0, none⟩ = some (.iface 224 (.agg #[.pointer (some ⟨8, 100, none⟩)]))
set_option maxHeartbeats 4000000 in
theorem as_hit (e : Int) (t : Addr) (old : Value) (w : World) (hg : HandleAt w) (ht0 : w.cell? t = some old) (hf0 : w.frozen? t = false) :
    Calls Tryz.prog 99 #[.iface 135 (.agg #[.int .i64 e]), .iface 137 (.pointer (some t))] w fun ev w' => ev = .returned (.bool true) ∧
      w' = ((((w.alloc (.cells #[.pointer (some t)] 137)).alloc (.cells #[.pointer (some ⟨8, 137, none⟩), .pointer (some ⟨w.heap.size, 0, none⟩), .int .u64 150] 180)).alloc (.cells #[.pointer (some ⟨8, 137, none⟩), .pointer (some ⟨w.heap.size, 0, none⟩), .int .u64 150] 180)).alloc (.cells #[.int .i64 e] 135)).setCell t (.int .i64 e) := by
  have h6 := @run_callFunc_extern Tryz.prog 152 _ (fun args => ReflectliteValue.unpack (args.getD 0 (.tuple #[]))) Tryz.func152 (by kernel_rfl) (by kernel_rfl) (by kernel_rfl) (by kernel_rfl)
  have h7 := @run_callFunc_extern Tryz.prog 153 _ (ReflectliteValue.methodAny (ReflectliteValue.valueError "reflectlite.Value.Type" 0) (fun t _ _ _ => ReflectliteType.toType t)) Tryz.func153 (by kernel_rfl) (by kernel_rfl) (by kernel_rfl) (by kernel_rfl)
  have h8 := @run_callFunc_extern Tryz.prog 154 _ (ReflectliteValue.method (ReflectliteValue.valueError "reflectlite.Value.IsNil" 0) ReflectliteValue.isNil) Tryz.func154 (by kernel_rfl) (by kernel_rfl) (by kernel_rfl) (by kernel_rfl)
  have h27 := @run_callFunc_extern Tryz.prog 309 _ (ReflectliteType.abiMethod fun t => do pure (.int .u8 (← Rtype.kind t))) Tryz.func309 (by kernel_rfl) (by kernel_rfl) (by kernel_rfl) (by kernel_rfl)
  have h37 := @run_callFunc_extern Tryz.prog 320 _ (ReflectliteType.method ReflectliteType.elem) Tryz.func320 (by kernel_rfl) (by kernel_rfl) (by kernel_rfl) (by kernel_rfl)
  have h38 := @run_callFunc_extern Tryz.prog 321 _ (ReflectliteType.relation "Implements" ReflectliteType.implements_) Tryz.func321 (by kernel_rfl) (by kernel_rfl) (by kernel_rfl) (by kernel_rfl)
  have f6 := e_valueOfP
  have f7 := e_typeP
  have mK := e_methodKind
  have mE := e_methodElem
  have mI := e_methodImplements
  have kP := e_kindP
  have kT := e_kindT
  have eP := e_elemP
  have iT := e_implT
  have n8 := e_isNilP ⟨w.heap.size, 0, none⟩ t ((w.alloc (.cells #[.pointer (some t)] 137)).alloc (.cells #[.pointer (some ⟨8, 137, none⟩), .pointer (some ⟨w.heap.size, 0, none⟩), .int .u64 150] 180)) (by simp)
  unfold HandleAt at hg
  have hlt : 0 < w.heap.size := by
    rcases Nat.lt_or_ge 0 w.heap.size with h | h
    · exact h
    · simp [World.cell?, Array.getElem?_eq_none h] at hg
  have hg2 : ((w.alloc (.cells #[.pointer (some t)] 137)).alloc (.cells #[.pointer (some ⟨8, 137, none⟩), .pointer (some ⟨w.heap.size, 0, none⟩), .int .u64 150] 180)).cell? ⟨0, 0, none⟩ = some (.iface 224 (.agg #[.pointer (some ⟨8, 100, none⟩)])) := by
    rw [World.cell?_alloc_lt _ _ ⟨0, 0, none⟩ (by first | (simp; done) | (simp; omega)), World.cell?_alloc_lt _ _ ⟨0, 0, none⟩ hlt]; exact hg
  have htl : t.block < w.heap.size := by
    rcases Nat.lt_or_ge t.block w.heap.size with h | h
    · exact h
    · simp [World.cell?, Array.getElem?_eq_none h] at ht0
  have hx := as2_hit e t ⟨w.heap.size, 0, none⟩ old (.iface 137 (.pointer (some t))) ((w.alloc (.cells #[.pointer (some t)] 137)).alloc (.cells #[.pointer (some ⟨8, 137, none⟩), .pointer (some ⟨w.heap.size, 0, none⟩), .int .u64 150] 180))
    (by simp) (by rw [World.cell?_alloc_lt _ _ t (by first | (simp; done) | (simp; omega)), World.cell?_alloc_lt _ _ t htl]; exact ht0) (by rw [World.frozen?_alloc_old _ _ t (by first | (simp; done) | (simp; omega)), World.frozen?_alloc_old _ _ t (Nat.ne_of_lt htl)]; exact hf0)
  go_enter Tryz.func99, Tryz.ntmps99
  go_wp2_with (first | (go_at_call 155; refine hx.mono ?_; rintro ev w' ⟨rfl, rfl⟩))
  go_ret
  exact ⟨rfl, rfl⟩
set_option maxHeartbeats 4000000 in
theorem errno_hit (e : Int) (w : World) (hg : HandleAt w) : Calls Tryz.prog 38 #[.iface 135 (.agg #[.int .i64 e])] w fun ev w' => ev = .returned (.int .i64 e) ∧ Below w.heap.size w w' := by
  have hlt : 0 < w.heap.size := by
    unfold HandleAt at hg
    rcases Nat.lt_or_ge 0 w.heap.size with h | h
    · exact h
    · simp [World.cell?, Array.getElem?_eq_none h] at hg
  have hg1 : HandleAt (w.alloc (.cells #[.int .i64 0] 135)) := by
    unfold HandleAt
    rw [World.cell?_alloc_lt _ _ ⟨0, 0, none⟩ hlt]; exact hg
  have hx := as_hit e ⟨w.heap.size, 0, none⟩ (.int .i64 0) (w.alloc (.cells #[.int .i64 0] 135)) hg1 (by simp) (by simp)
  generalize hW : (((((w.alloc (.cells #[.int .i64 0] 135)).alloc (.cells #[.pointer (some ⟨w.heap.size, 0, none⟩)] 137)).alloc (.cells #[.pointer (some ⟨8, 137, none⟩), .pointer (some ⟨(w.alloc (.cells #[.int .i64 0] 135)).heap.size, 0, none⟩), .int .u64 150] 180)).alloc (.cells #[.pointer (some ⟨8, 137, none⟩), .pointer (some ⟨(w.alloc (.cells #[.int .i64 0] 135)).heap.size, 0, none⟩), .int .u64 150] 180)).alloc (.cells #[.int .i64 e] 135)).setCell ⟨w.heap.size, 0, none⟩ (.int .i64 e) = W at hx
  have hc : W.cell? ⟨w.heap.size, 0, none⟩ = some (.int .i64 e) := by
    rw [← hW]
    refine World.cell?_setCell_same (u := .int .i64 0) _ _ _ ?_
    rw [World.cell?_alloc_lt _ _ ⟨w.heap.size, 0, none⟩ (by first | (simp; done) | (simp; omega)), World.cell?_alloc_lt _ _ ⟨w.heap.size, 0, none⟩ (by first | (simp; done) | (simp; omega)), World.cell?_alloc_lt _ _ ⟨w.heap.size, 0, none⟩ (by first | (simp; done) | (simp; omega)), World.cell?_alloc_lt _ _ ⟨w.heap.size, 0, none⟩ (by first | (simp; done) | (simp; omega))]
    simp
  have hb : Below w.heap.size w W := by
    rw [← hW]
    exact Below.setCell (Below.alloc (Below.alloc (Below.alloc (Below.alloc (Below.alloc (Below.refl _ w) (Nat.le_refl _) _) (by simp) _) (by first | (simp; done) | (simp; omega)) _) (by first | (simp; done) | (simp; omega)) _) (by first | (simp; done) | (simp; omega)) _) (Nat.le_refl _) _
  go_enter Tryz.func38, Tryz.ntmps38
  go_wp2_with (first | (go_at_call 99; refine hx.mono ?_; rintro ev w' ⟨rfl, rfl⟩))
  go_ret
  exact ⟨rfl, hb⟩
end Go.Proofs.YtomcfcljdjnhgaaGreatDoor
