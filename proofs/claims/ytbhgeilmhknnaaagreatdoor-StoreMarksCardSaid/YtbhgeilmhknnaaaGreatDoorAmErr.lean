/- errors.Is, errors.As at the values that the program hands them (turned from the worked examples ToyasAs and SentryIs). Printed by mkerr.py. -/
import Derived.Test.YtbhgeilmhknnaaaGreatDoorAmNd
import Derived.Test.YtbhgeilmhknnaaaGreatDoorAmSeat
import Derived.WalkKit
import Derived.LaidEql
import Derived.Stop.Asserts
import Derived.RowKitTokens
namespace Go.Am
open Go.Proofs Go.RowKit Go.Extern.Stop Go.Stop Go.Extern
set_option maxRecDepth 100000
theorem rlm (z : Sem Value) (f : TypeId → Addr → Nat → Nat → Sem Value) (v : Value) :
    ReflectliteValue.method z f #[v] = (do match ← ReflectliteValue.parts v with | none => z | some (t, a, fl) => f t a fl (fl % 32)) := rfl
theorem rls (v x : Value) : ReflectliteValue.set #[v, x] = (do
    let (some (dst, a, fl), some (src, b, _)) := (← ReflectliteValue.parts v, ← ReflectliteValue.parts x)
      | unsupported (.noEntry "extern/(internal/reflectlite.Value).Set.zeroValue")
    if fl / ReflectliteValue.flagAddr % 2 == 0 then unsupported (.noEntry "extern/(internal/reflectlite.Value).Set.unaddressable")
    let val ← loadVar src b
    if ← Rtype.directlyAssignable dst src then storeVar dst a val
    else if ← Rtype.implements dst src then
      if (← Rtype.kind src) == 20 then
        match val with
        | .nilIface => unsupported (.noEntry "extern/reflectlite: a nil value of one interface type handed on as a value of another")
        | _ => storeVar dst a val
      else storeVar dst a (.iface src val)
    else panicString ("reflectlite.Set: value of type " ++ (← Rtype.spelt src) ++ " is not assignable to type " ++ (← Rtype.spelt dst))
    pure (.tuple #[])) := rfl
theorem er_methodKind (h : Value) (w : World) : (Go.method 515 340 (.agg #[h]) "Kind").run Tryz.prog w = .ok (394, h) w := by kernel_rfl
theorem er_methodElem (h : Value) (w : World) : (Go.method 515 340 (.agg #[h]) "Elem").run Tryz.prog w = .ok (408, .agg #[h]) w := by kernel_rfl
theorem er_methodImplements (h : Value) (w : World) : (Go.method 515 340 (.agg #[h]) "Implements").run Tryz.prog w = .ok (409, .agg #[h]) w := by kernel_rfl
theorem er_methodAssignableTo (h : Value) (w : World) : (Go.method 515 340 (.agg #[h]) "AssignableTo").run Tryz.prog w = .ok (406, .agg #[h]) w := by kernel_rfl

theorem ew_valueOfP (t : Addr) (w : World) : (ReflectliteValue.unpack (.iface 230 (.pointer (some t)))).run Tryz.prog w
    = .ok (.agg #[.pointer (some ⟨2, 230, none⟩), .pointer (some ⟨w.heap.size, 0, none⟩), .int .u64 150]) (w.alloc (.cells #[.pointer (some t)] 230)) := by kernel_rfl
theorem ew_typeP (a : Addr) (w : World) : (ReflectliteValue.methodAny (ReflectliteValue.valueError "reflectlite.Value.Type" 0) (fun t _ _ _ => ReflectliteType.toType t) #[.agg #[.pointer (some ⟨2, 230, none⟩), .pointer (some a), .int .u64 150]]).run Tryz.prog w
    = .ok (.iface 340 (.agg #[.pointer (some ⟨2, 230, none⟩)])) w := by kernel_rfl
theorem ew_kindP (w : World) : ((ReflectliteType.abiMethod fun t => (fun a : Nat => Value.int IntKind.u8 (a : Int)) <$> Rtype.kind t) #[.pointer (some ⟨2, 230, none⟩)]).run Tryz.prog w = .ok (.int .u8 22) w := by kernel_rfl
theorem ew_kindE (w : World) : ((ReflectliteType.abiMethod fun t => (fun a : Nat => Value.int IntKind.u8 (a : Int)) <$> Rtype.kind t) #[.pointer (some ⟨2, 227, none⟩)]).run Tryz.prog w = .ok (.int .u8 22) w := by kernel_rfl
theorem ew_partsP (a : Addr) (w : World) : (ReflectliteValue.parts (.agg #[.pointer (some ⟨2, 230, none⟩), .pointer (some a), .int .u64 150])).run Tryz.prog w = .ok (some (230, a, 150)) w := by kernel_rfl
theorem ew_isNilP (a p : Addr) (W : World) (ha : W.cell? a = some (.pointer (some p))) :
    (ReflectliteValue.method (ReflectliteValue.valueError "reflectlite.Value.IsNil" 0) ReflectliteValue.isNil #[.agg #[.pointer (some ⟨2, 230, none⟩), .pointer (some a), .int .u64 150]]).run Tryz.prog W = .ok (.bool false) W := by
  rw [rlm]
  simp only [Sem.run_bind, ew_partsP, Result.andThen]
  simp [ReflectliteValue.isNil, loadVar, isAgg, underlying, Tryz.underlying230, ha, Result.andThen]
theorem ew_elemP (w : World) : (ReflectliteType.method ReflectliteType.elem #[.agg #[.pointer (some ⟨2, 230, none⟩)]]).run Tryz.prog w = .ok (.iface 340 (.agg #[.pointer (some ⟨2, 227, none⟩)])) w := by kernel_rfl
theorem ew_implements (w : World) : (ReflectliteType.relation "Implements" ReflectliteType.implements_ #[.agg #[.pointer (some ⟨2, 227, none⟩)], .iface 340 (.agg #[.pointer (some ⟨2, 224, none⟩)])]).run Tryz.prog w = .ok (.bool true) w := by kernel_rfl
theorem ew_typeOf (v : Value) (w : World) : (ReflectliteType.typeOf #[.iface 227 v]).run Tryz.prog w = .ok (.iface 340 (.agg #[.pointer (some ⟨2, 227, none⟩)])) w := by kernel_rfl
theorem ew_assignable (w : World) : (ReflectliteType.relation "AssignableTo" ReflectliteType.assignableTo #[.agg #[.pointer (some ⟨2, 227, none⟩)], .iface 340 (.agg #[.pointer (some ⟨2, 227, none⟩)])]).run Tryz.prog w = .ok (.bool true) w := by kernel_rfl
theorem ew_valueOf (e : Addr) (w : World) : (ReflectliteValue.unpack (.iface 227 (.pointer (some e)))).run Tryz.prog w
    = .ok (.agg #[.pointer (some ⟨2, 227, none⟩), .pointer (some ⟨w.heap.size, 0, none⟩), .int .u64 150]) (w.alloc (.cells #[.pointer (some e)] 227)) := by kernel_rfl
theorem ew_elemOfP (w : World) : (Rtype.elem? 230).run Tryz.prog w = .ok (some 227) w := by kernel_rfl
theorem ew_mkE (p : Addr) (w : World) : (ReflectliteValue.mk 227 p ReflectliteValue.flagAddr).run Tryz.prog w = .ok (.agg #[.pointer (some ⟨2, 227, none⟩), .pointer (some p), .int .u64 406]) w := by kernel_rfl
theorem ew_elemV (a p : Addr) (W : World) (ha : W.cell? a = some (.pointer (some p))) :
    (ReflectliteValue.method (ReflectliteValue.valueError "reflectlite.Value.Elem" 0) ReflectliteValue.elem #[.agg #[.pointer (some ⟨2, 230, none⟩), .pointer (some a), .int .u64 150]]).run Tryz.prog W
      = .ok (.agg #[.pointer (some ⟨2, 227, none⟩), .pointer (some p), .int .u64 406]) W := by
  rw [rlm]
  simp only [Sem.run_bind, ew_partsP, Result.andThen]
  simp [ReflectliteValue.elem, loadVar, isAgg, underlying, Tryz.underlying230, ha, Result.andThen, ew_elemOfP, ew_mkE]
theorem ew_partsEa (a : Addr) (w : World) : (ReflectliteValue.parts (.agg #[.pointer (some ⟨2, 227, none⟩), .pointer (some a), .int .u64 406])).run Tryz.prog w = .ok (some (227, a, 406)) w := by kernel_rfl
theorem ew_partsE (a : Addr) (w : World) : (ReflectliteValue.parts (.agg #[.pointer (some ⟨2, 227, none⟩), .pointer (some a), .int .u64 150])).run Tryz.prog w = .ok (some (227, a, 150)) w := by kernel_rfl
theorem ew_direct (w : World) : (Rtype.directlyAssignable 227 227).run Tryz.prog w = .ok true w := by kernel_rfl
theorem ew_size (w : World) : (sizeOf 227).run Tryz.prog w = .ok 1 w := by kernel_rfl
theorem ew_set (ta b : Addr) (e : Addr) (old : Value) (W : World) (hb : W.cell? b = some (.pointer (some e))) (ht : W.cell? ta = some old) (hf : W.frozen? ta = false) :
    (ReflectliteValue.set #[.agg #[.pointer (some ⟨2, 227, none⟩), .pointer (some ta), .int .u64 406], .agg #[.pointer (some ⟨2, 227, none⟩), .pointer (some b), .int .u64 150]]).run Tryz.prog W
      = .ok (.tuple #[]) (W.setCell ta (.pointer (some e))) := by
  rw [rls]
  simp only [Sem.run_bind, ew_partsEa, ew_partsE, Result.andThen]
  simp [ReflectliteValue.flagAddr, loadVar, isAgg, underlying, Tryz.underlying227, hb, Result.andThen, ew_direct, storeVar, Value.cells, storeCells, Addr.add]
  rw [run_store Tryz.prog W ta _ _ (by rfl)]
  simp [ht, hf]
set_option maxHeartbeats 4000000 in
theorem ew_hit (t : Addr) (e : Addr) (old : Value) (w : World) (hg : w.cell? ⟨0, 0, none⟩ = some (.iface 340 (.agg #[.pointer (some ⟨2, 224, none⟩)]))) (ht0 : w.cell? t = some old) (hf0 : w.frozen? t = false) :
    Calls Tryz.prog 215 #[.iface 227 (.pointer (some e)), .iface 230 (.pointer (some t))] w fun ev w' => ev = .returned (.bool true) ∧ w' = ((((w.alloc (.cells #[.pointer (some t)] 230)).alloc (.cells #[.pointer (some ⟨2, 230, none⟩), .pointer (some ⟨w.heap.size, 0, none⟩), .int .u64 150] 300)).alloc (.cells #[.pointer (some ⟨2, 230, none⟩), .pointer (some ⟨w.heap.size, 0, none⟩), .int .u64 150] 300)).alloc (.cells #[.pointer (some e)] 227)).setCell t (.pointer (some e)) := by
  have h6 := @run_callFunc_extern Tryz.prog 271 _ (fun args => ReflectliteValue.unpack (args.getD 0 (.tuple #[]))) Tryz.func271 (by kernel_rfl) (by kernel_rfl) (by kernel_rfl) (by kernel_rfl)
  have h7 := @run_callFunc_extern Tryz.prog 272 _ (ReflectliteValue.methodAny (ReflectliteValue.valueError "reflectlite.Value.Type" 0) (fun t _ _ _ => ReflectliteType.toType t)) Tryz.func272 (by kernel_rfl) (by kernel_rfl) (by kernel_rfl) (by kernel_rfl)
  have h8 := @run_callFunc_extern Tryz.prog 273 _ (ReflectliteValue.method (ReflectliteValue.valueError "reflectlite.Value.IsNil" 0) ReflectliteValue.isNil) Tryz.func273 (by kernel_rfl) (by kernel_rfl) (by kernel_rfl) (by kernel_rfl)
  have h27 := @run_callFunc_extern Tryz.prog 394 _ (ReflectliteType.abiMethod fun t => do pure (.int .u8 (← Rtype.kind t))) Tryz.func394 (by kernel_rfl) (by kernel_rfl) (by kernel_rfl) (by kernel_rfl)
  have h37 := @run_callFunc_extern Tryz.prog 408 _ (ReflectliteType.method ReflectliteType.elem) Tryz.func408 (by kernel_rfl) (by kernel_rfl) (by kernel_rfl) (by kernel_rfl)
  have h38 := @run_callFunc_extern Tryz.prog 409 _ (ReflectliteType.relation "Implements" ReflectliteType.implements_) Tryz.func409 (by kernel_rfl) (by kernel_rfl) (by kernel_rfl) (by kernel_rfl)
  have h10 := @run_callFunc_extern Tryz.prog 269 _ ReflectliteType.typeOf Tryz.func269 (by kernel_rfl) (by kernel_rfl) (by kernel_rfl) (by kernel_rfl)
  have h35 := @run_callFunc_extern Tryz.prog 406 _ (ReflectliteType.relation "AssignableTo" ReflectliteType.assignableTo) Tryz.func406 (by kernel_rfl) (by kernel_rfl) (by kernel_rfl) (by kernel_rfl)
  have h11 := @run_callFunc_extern Tryz.prog 311 _ (ReflectliteValue.method (ReflectliteValue.valueError "reflectlite.Value.Elem" 0) ReflectliteValue.elem) Tryz.func311 (by kernel_rfl) (by kernel_rfl) (by kernel_rfl) (by kernel_rfl)
  have h12 := @run_callFunc_extern Tryz.prog 312 _ ReflectliteValue.set Tryz.func312 (by kernel_rfl) (by kernel_rfl) (by kernel_rfl) (by kernel_rfl)
  have tO := ew_typeOf
  have mA := er_methodAssignableTo
  have a25 := ew_assignable
  have v25 := ew_valueOf
  have f6 := ew_valueOfP
  have f7 := ew_typeP
  have mK := er_methodKind
  have mE := er_methodElem
  have mI := er_methodImplements
  have k27 := ew_kindP
  have k25 := ew_kindE
  have e27 := ew_elemP
  have i25 := ew_implements
  have n8 := ew_isNilP ⟨w.heap.size, 0, none⟩ t ((w.alloc (.cells #[.pointer (some t)] 230)).alloc (.cells #[.pointer (some ⟨2, 230, none⟩), .pointer (some ⟨w.heap.size, 0, none⟩), .int .u64 150] 300)) (by simp)
  have hlt : 0 < w.heap.size := by
    rcases Nat.eq_zero_or_pos w.heap.size with h0 | h
    · simp [World.cell?, h0] at hg
    · exact h
  have hg2 : ((w.alloc (.cells #[.pointer (some t)] 230)).alloc (.cells #[.pointer (some ⟨2, 230, none⟩), .pointer (some ⟨w.heap.size, 0, none⟩), .int .u64 150] 300)).cell? ⟨0, 0, none⟩ = some (.iface 340 (.agg #[.pointer (some ⟨2, 224, none⟩)])) := by
    rw [World.cell?_alloc_lt _ _ ⟨0, 0, none⟩ (by simp), World.cell?_alloc_lt _ _ ⟨0, 0, none⟩ hlt]; exact hg
  have htl : t.block < w.heap.size := by
    rcases Nat.lt_or_ge t.block w.heap.size with h | h
    · exact h
    · simp [World.cell?, Array.getElem?_eq_none h] at ht0
  have el := ew_elemV ⟨w.heap.size, 0, none⟩ t (((w.alloc (.cells #[.pointer (some t)] 230)).alloc (.cells #[.pointer (some ⟨2, 230, none⟩), .pointer (some ⟨w.heap.size, 0, none⟩), .int .u64 150] 300)).alloc (.cells #[.pointer (some ⟨2, 230, none⟩), .pointer (some ⟨w.heap.size, 0, none⟩), .int .u64 150] 300)) (by rw [World.cell?_alloc_lt _ _ ⟨w.heap.size, 0, none⟩ (by simp; omega)]; simp)
  have st := ew_set t ⟨w.heap.size + 1 + 1 + 1, 0, none⟩ e old ((((w.alloc (.cells #[.pointer (some t)] 230)).alloc (.cells #[.pointer (some ⟨2, 230, none⟩), .pointer (some ⟨w.heap.size, 0, none⟩), .int .u64 150] 300)).alloc (.cells #[.pointer (some ⟨2, 230, none⟩), .pointer (some ⟨w.heap.size, 0, none⟩), .int .u64 150] 300)).alloc (.cells #[.pointer (some e)] 227))
    (by rw [World.cell?_alloc_at _ _ _ _ (by simp)]; rfl)
    (by rw [World.cell?_alloc_lt _ _ t (by simp; omega), World.cell?_alloc_lt _ _ t (by simp; omega), World.cell?_alloc_lt _ _ t (by simp; omega), World.cell?_alloc_lt _ _ t htl]; exact ht0)
    (by rw [World.frozen?_alloc_old _ _ t (by simp; omega), World.frozen?_alloc_old _ _ t (by simp; omega), World.frozen?_alloc_old _ _ t (by simp; omega), World.frozen?_alloc_old _ _ t (Nat.ne_of_lt htl)]; exact hf0)
  go_enter Tryz.func215, Tryz.ntmps215
  go_wp2
  refine wp_loop_rounds 1 ?_
  rw [rounds_succ]
  go_wp2
  go_ret
  exact ⟨rfl, rfl⟩
theorem en_valueOfP (t : Addr) (w : World) : (ReflectliteValue.unpack (.iface 233 (.pointer (some t)))).run Tryz.prog w
    = .ok (.agg #[.pointer (some ⟨2, 233, none⟩), .pointer (some ⟨w.heap.size, 0, none⟩), .int .u64 150]) (w.alloc (.cells #[.pointer (some t)] 233)) := by kernel_rfl
theorem en_typeP (a : Addr) (w : World) : (ReflectliteValue.methodAny (ReflectliteValue.valueError "reflectlite.Value.Type" 0) (fun t _ _ _ => ReflectliteType.toType t) #[.agg #[.pointer (some ⟨2, 233, none⟩), .pointer (some a), .int .u64 150]]).run Tryz.prog w
    = .ok (.iface 340 (.agg #[.pointer (some ⟨2, 233, none⟩)])) w := by kernel_rfl
theorem en_kindP (w : World) : ((ReflectliteType.abiMethod fun t => (fun a : Nat => Value.int IntKind.u8 (a : Int)) <$> Rtype.kind t) #[.pointer (some ⟨2, 233, none⟩)]).run Tryz.prog w = .ok (.int .u8 22) w := by kernel_rfl
theorem en_kindE (w : World) : ((ReflectliteType.abiMethod fun t => (fun a : Nat => Value.int IntKind.u8 (a : Int)) <$> Rtype.kind t) #[.pointer (some ⟨2, 40, none⟩)]).run Tryz.prog w = .ok (.int .u8 2) w := by kernel_rfl
theorem en_partsP (a : Addr) (w : World) : (ReflectliteValue.parts (.agg #[.pointer (some ⟨2, 233, none⟩), .pointer (some a), .int .u64 150])).run Tryz.prog w = .ok (some (233, a, 150)) w := by kernel_rfl
theorem en_isNilP (a p : Addr) (W : World) (ha : W.cell? a = some (.pointer (some p))) :
    (ReflectliteValue.method (ReflectliteValue.valueError "reflectlite.Value.IsNil" 0) ReflectliteValue.isNil #[.agg #[.pointer (some ⟨2, 233, none⟩), .pointer (some a), .int .u64 150]]).run Tryz.prog W = .ok (.bool false) W := by
  rw [rlm]
  simp only [Sem.run_bind, en_partsP, Result.andThen]
  simp [ReflectliteValue.isNil, loadVar, isAgg, underlying, Tryz.underlying233, ha, Result.andThen]
theorem en_elemP (w : World) : (ReflectliteType.method ReflectliteType.elem #[.agg #[.pointer (some ⟨2, 233, none⟩)]]).run Tryz.prog w = .ok (.iface 340 (.agg #[.pointer (some ⟨2, 40, none⟩)])) w := by kernel_rfl
theorem en_implements (w : World) : (ReflectliteType.relation "Implements" ReflectliteType.implements_ #[.agg #[.pointer (some ⟨2, 40, none⟩)], .iface 340 (.agg #[.pointer (some ⟨2, 224, none⟩)])]).run Tryz.prog w = .ok (.bool true) w := by kernel_rfl
theorem en_typeOf (v : Value) (w : World) : (ReflectliteType.typeOf #[.iface 40 v]).run Tryz.prog w = .ok (.iface 340 (.agg #[.pointer (some ⟨2, 40, none⟩)])) w := by kernel_rfl
theorem en_assignable (w : World) : (ReflectliteType.relation "AssignableTo" ReflectliteType.assignableTo #[.agg #[.pointer (some ⟨2, 40, none⟩)], .iface 340 (.agg #[.pointer (some ⟨2, 40, none⟩)])]).run Tryz.prog w = .ok (.bool true) w := by kernel_rfl
theorem en_valueOf (n : Int) (w : World) : (ReflectliteValue.unpack (.iface 40 (.int .i64 n))).run Tryz.prog w
    = .ok (.agg #[.pointer (some ⟨2, 40, none⟩), .pointer (some ⟨w.heap.size, 0, none⟩), .int .u64 130]) (w.alloc (.cells #[.int .i64 n] 40)) := by kernel_rfl
theorem en_elemOfP (w : World) : (Rtype.elem? 233).run Tryz.prog w = .ok (some 40) w := by kernel_rfl
theorem en_mkE (p : Addr) (w : World) : (ReflectliteValue.mk 40 p ReflectliteValue.flagAddr).run Tryz.prog w = .ok (.agg #[.pointer (some ⟨2, 40, none⟩), .pointer (some p), .int .u64 386]) w := by kernel_rfl
theorem en_elemV (a p : Addr) (W : World) (ha : W.cell? a = some (.pointer (some p))) :
    (ReflectliteValue.method (ReflectliteValue.valueError "reflectlite.Value.Elem" 0) ReflectliteValue.elem #[.agg #[.pointer (some ⟨2, 233, none⟩), .pointer (some a), .int .u64 150]]).run Tryz.prog W
      = .ok (.agg #[.pointer (some ⟨2, 40, none⟩), .pointer (some p), .int .u64 386]) W := by
  rw [rlm]
  simp only [Sem.run_bind, en_partsP, Result.andThen]
  simp [ReflectliteValue.elem, loadVar, isAgg, underlying, Tryz.underlying233, ha, Result.andThen, en_elemOfP, en_mkE]
theorem en_partsEa (a : Addr) (w : World) : (ReflectliteValue.parts (.agg #[.pointer (some ⟨2, 40, none⟩), .pointer (some a), .int .u64 386])).run Tryz.prog w = .ok (some (40, a, 386)) w := by kernel_rfl
theorem en_partsE (a : Addr) (w : World) : (ReflectliteValue.parts (.agg #[.pointer (some ⟨2, 40, none⟩), .pointer (some a), .int .u64 130])).run Tryz.prog w = .ok (some (40, a, 130)) w := by kernel_rfl
theorem en_direct (w : World) : (Rtype.directlyAssignable 40 40).run Tryz.prog w = .ok true w := by kernel_rfl
theorem en_size (w : World) : (sizeOf 40).run Tryz.prog w = .ok 1 w := by kernel_rfl
theorem en_set (ta b : Addr) (n : Int) (old : Value) (W : World) (hb : W.cell? b = some (.int .i64 n)) (ht : W.cell? ta = some old) (hf : W.frozen? ta = false) :
    (ReflectliteValue.set #[.agg #[.pointer (some ⟨2, 40, none⟩), .pointer (some ta), .int .u64 386], .agg #[.pointer (some ⟨2, 40, none⟩), .pointer (some b), .int .u64 130]]).run Tryz.prog W
      = .ok (.tuple #[]) (W.setCell ta (.int .i64 n)) := by
  rw [rls]
  simp only [Sem.run_bind, en_partsEa, en_partsE, Result.andThen]
  simp [ReflectliteValue.flagAddr, loadVar, isAgg, underlying, Tryz.underlying40, hb, Result.andThen, en_direct, storeVar, Value.cells, storeCells, Addr.add]
  rw [run_store Tryz.prog W ta _ _ (by rfl)]
  simp [ht, hf]
set_option maxHeartbeats 4000000 in
theorem en_hit (t : Addr) (n : Int) (old : Value) (w : World) (hg : w.cell? ⟨0, 0, none⟩ = some (.iface 340 (.agg #[.pointer (some ⟨2, 224, none⟩)]))) (ht0 : w.cell? t = some old) (hf0 : w.frozen? t = false) :
    Calls Tryz.prog 215 #[.iface 40 (.int .i64 n), .iface 233 (.pointer (some t))] w fun ev w' => ev = .returned (.bool true) ∧ w' = ((((w.alloc (.cells #[.pointer (some t)] 233)).alloc (.cells #[.pointer (some ⟨2, 233, none⟩), .pointer (some ⟨w.heap.size, 0, none⟩), .int .u64 150] 300)).alloc (.cells #[.pointer (some ⟨2, 233, none⟩), .pointer (some ⟨w.heap.size, 0, none⟩), .int .u64 150] 300)).alloc (.cells #[.int .i64 n] 40)).setCell t (.int .i64 n) := by
  have h6 := @run_callFunc_extern Tryz.prog 271 _ (fun args => ReflectliteValue.unpack (args.getD 0 (.tuple #[]))) Tryz.func271 (by kernel_rfl) (by kernel_rfl) (by kernel_rfl) (by kernel_rfl)
  have h7 := @run_callFunc_extern Tryz.prog 272 _ (ReflectliteValue.methodAny (ReflectliteValue.valueError "reflectlite.Value.Type" 0) (fun t _ _ _ => ReflectliteType.toType t)) Tryz.func272 (by kernel_rfl) (by kernel_rfl) (by kernel_rfl) (by kernel_rfl)
  have h8 := @run_callFunc_extern Tryz.prog 273 _ (ReflectliteValue.method (ReflectliteValue.valueError "reflectlite.Value.IsNil" 0) ReflectliteValue.isNil) Tryz.func273 (by kernel_rfl) (by kernel_rfl) (by kernel_rfl) (by kernel_rfl)
  have h27 := @run_callFunc_extern Tryz.prog 394 _ (ReflectliteType.abiMethod fun t => do pure (.int .u8 (← Rtype.kind t))) Tryz.func394 (by kernel_rfl) (by kernel_rfl) (by kernel_rfl) (by kernel_rfl)
  have h37 := @run_callFunc_extern Tryz.prog 408 _ (ReflectliteType.method ReflectliteType.elem) Tryz.func408 (by kernel_rfl) (by kernel_rfl) (by kernel_rfl) (by kernel_rfl)
  have h38 := @run_callFunc_extern Tryz.prog 409 _ (ReflectliteType.relation "Implements" ReflectliteType.implements_) Tryz.func409 (by kernel_rfl) (by kernel_rfl) (by kernel_rfl) (by kernel_rfl)
  have h10 := @run_callFunc_extern Tryz.prog 269 _ ReflectliteType.typeOf Tryz.func269 (by kernel_rfl) (by kernel_rfl) (by kernel_rfl) (by kernel_rfl)
  have h35 := @run_callFunc_extern Tryz.prog 406 _ (ReflectliteType.relation "AssignableTo" ReflectliteType.assignableTo) Tryz.func406 (by kernel_rfl) (by kernel_rfl) (by kernel_rfl) (by kernel_rfl)
  have h11 := @run_callFunc_extern Tryz.prog 311 _ (ReflectliteValue.method (ReflectliteValue.valueError "reflectlite.Value.Elem" 0) ReflectliteValue.elem) Tryz.func311 (by kernel_rfl) (by kernel_rfl) (by kernel_rfl) (by kernel_rfl)
  have h12 := @run_callFunc_extern Tryz.prog 312 _ ReflectliteValue.set Tryz.func312 (by kernel_rfl) (by kernel_rfl) (by kernel_rfl) (by kernel_rfl)
  have tO := en_typeOf
  have mA := er_methodAssignableTo
  have a25 := en_assignable
  have v25 := en_valueOf
  have f6 := en_valueOfP
  have f7 := en_typeP
  have mK := er_methodKind
  have mE := er_methodElem
  have mI := er_methodImplements
  have k27 := en_kindP
  have k25 := en_kindE
  have e27 := en_elemP
  have i25 := en_implements
  have n8 := en_isNilP ⟨w.heap.size, 0, none⟩ t ((w.alloc (.cells #[.pointer (some t)] 233)).alloc (.cells #[.pointer (some ⟨2, 233, none⟩), .pointer (some ⟨w.heap.size, 0, none⟩), .int .u64 150] 300)) (by simp)
  have hlt : 0 < w.heap.size := by
    rcases Nat.eq_zero_or_pos w.heap.size with h0 | h
    · simp [World.cell?, h0] at hg
    · exact h
  have hg2 : ((w.alloc (.cells #[.pointer (some t)] 233)).alloc (.cells #[.pointer (some ⟨2, 233, none⟩), .pointer (some ⟨w.heap.size, 0, none⟩), .int .u64 150] 300)).cell? ⟨0, 0, none⟩ = some (.iface 340 (.agg #[.pointer (some ⟨2, 224, none⟩)])) := by
    rw [World.cell?_alloc_lt _ _ ⟨0, 0, none⟩ (by simp), World.cell?_alloc_lt _ _ ⟨0, 0, none⟩ hlt]; exact hg
  have htl : t.block < w.heap.size := by
    rcases Nat.lt_or_ge t.block w.heap.size with h | h
    · exact h
    · simp [World.cell?, Array.getElem?_eq_none h] at ht0
  have el := en_elemV ⟨w.heap.size, 0, none⟩ t (((w.alloc (.cells #[.pointer (some t)] 233)).alloc (.cells #[.pointer (some ⟨2, 233, none⟩), .pointer (some ⟨w.heap.size, 0, none⟩), .int .u64 150] 300)).alloc (.cells #[.pointer (some ⟨2, 233, none⟩), .pointer (some ⟨w.heap.size, 0, none⟩), .int .u64 150] 300)) (by rw [World.cell?_alloc_lt _ _ ⟨w.heap.size, 0, none⟩ (by simp; omega)]; simp)
  have st := en_set t ⟨w.heap.size + 1 + 1 + 1, 0, none⟩ n old ((((w.alloc (.cells #[.pointer (some t)] 233)).alloc (.cells #[.pointer (some ⟨2, 233, none⟩), .pointer (some ⟨w.heap.size, 0, none⟩), .int .u64 150] 300)).alloc (.cells #[.pointer (some ⟨2, 233, none⟩), .pointer (some ⟨w.heap.size, 0, none⟩), .int .u64 150] 300)).alloc (.cells #[.int .i64 n] 40))
    (by rw [World.cell?_alloc_at _ _ _ _ (by simp)]; rfl)
    (by rw [World.cell?_alloc_lt _ _ t (by simp; omega), World.cell?_alloc_lt _ _ t (by simp; omega), World.cell?_alloc_lt _ _ t (by simp; omega), World.cell?_alloc_lt _ _ t htl]; exact ht0)
    (by rw [World.frozen?_alloc_old _ _ t (by simp; omega), World.frozen?_alloc_old _ _ t (by simp; omega), World.frozen?_alloc_old _ _ t (by simp; omega), World.frozen?_alloc_old _ _ t (Nat.ne_of_lt htl)]; exact hf0)
  go_enter Tryz.func215, Tryz.ntmps215
  go_wp2
  refine wp_loop_rounds 1 ?_
  rw [rounds_succ]
  go_wp2
  go_ret
  exact ⟨rfl, rfl⟩

/-! ### errors.Is(*super.wrong, Errno) -/
theorem run_equalIn_iface_int {P : Program} (w : World) (d : Nat) {ti tn : TypeId} {ms : Array (String × TypeId)} {i : TypeInfo} {k : IntKind} (a b : Int)
    (hi : P.underlying ti = some (.interface ms)) (hn : P.underlying tn = some (.int k)) (hinfo : P.info? tn = some i) (hcomp : i.comparable = true) :
    (Op.equalIn (d + 2) ti (.iface tn (.int k a)) (.iface tn (.int k b))).run P w = .ok (a == b) w := by
  simp [Op.equalIn, run_underlying hi, run_underlying hn, typeInfo, hinfo, hcomp]
theorem run_eql_iface_int {P : Program} (w : World) {ti tn : TypeId} {ms : Array (String × TypeId)} {i : TypeInfo} {k : IntKind} (a b : Int)
    (hi : P.underlying ti = some (.interface ms)) (hn : P.underlying tn = some (.int k)) (hinfo : P.info? tn = some i) (hcomp : i.comparable = true) :
    (binOp .eql ti (.iface tn (.int k a)) (.iface tn (.int k b))).run P w = .ok (.bool (a == b)) w := by
  simp only [binOp]
  simp [Op.equal, Op.maxDepth, run_equalIn_iface_int w 9998 a b hi hn hinfo hcomp]
theorem is_typeOf (v : Value) (w : World) : (Extern.ReflectliteType.typeOf #[.iface 40 v]).run Tryz.prog w = .ok (.iface 340 (.agg #[.pointer (some ⟨2, 40, none⟩)])) w := by kernel_rfl
theorem is_methodComparable (v : Value) (w : World) : (Go.method 515 340 v "Comparable").run Tryz.prog w = .ok (407, v) w := by kernel_rfl
theorem is_comp : (Tryz.prog.info? 40).map (·.comparable) = some true := by kernel_rfl
theorem is_noIsE (v : Value) (xT : TypeId) (w : World) : (Instr.typeAssert (.iface 40 v) xT 342 true).run Tryz.prog w = .ok (.tuple #[.nilIface, .bool false]) w := run_typeAssert_lacksB Tryz.underlying342 (by kernel_rfl) (by kernel_rfl) v xT w
theorem is_noUnwrapE (v : Value) (xT : TypeId) (w : World) : (Instr.typeAssert (.iface 40 v) xT 345 true).run Tryz.prog w = .ok (.tuple #[.nilIface, .bool false]) w := run_typeAssert_lacksB Tryz.underlying345 (by kernel_rfl) (by kernel_rfl) v xT w
theorem is_noUnwrapsE (v : Value) (xT : TypeId) (w : World) : (Instr.typeAssert (.iface 40 v) xT 347 true).run Tryz.prog w = .ok (.tuple #[.nilIface, .bool false]) w := run_typeAssert_lacksB Tryz.underlying347 (by kernel_rfl) (by kernel_rfl) v xT w
theorem is_noIsW (v : Value) (xT : TypeId) (w : World) : (Instr.typeAssert (.iface 227 v) xT 342 true).run Tryz.prog w = .ok (.tuple #[.nilIface, .bool false]) w := run_typeAssert_lacksB Tryz.underlying342 (by kernel_rfl) (by kernel_rfl) v xT w
theorem is_hasUnwrapW (v : Value) (xT : TypeId) (w : World) : (Instr.typeAssert (.iface 227 v) xT 345 true).run Tryz.prog w = .ok (.tuple #[.iface 227 v, .bool true]) w := run_typeAssert_hasB Tryz.underlying345 (by kernel_rfl) v xT w
theorem is_methodUnwrap (v : Value) (w : World) : (Go.method 515 227 v "Unwrap").run Tryz.prog w = .ok (399, v) w := by kernel_rfl
set_option maxHeartbeats 4000000 in
theorem er_is (pb : Nat) (n m : Int) (w : World) (hnm : (n == m) = false) (h1 : w.cell? ⟨pb, 0 + 1, none⟩ = some (.iface 40 (.int .i64 n))) :
    Calls Tryz.prog 214 #[.iface 227 (.pointer (some ⟨pb, 0, none⟩)), .iface 40 (.int .i64 m)] w fun e w' => e = .returned (.bool false) ∧ w' = w := by
  obtain ⟨i, hi, hcmp⟩ := Option.map_eq_some_iff.1 is_comp
  have h8 := @run_callFunc_extern Tryz.prog 269 _ Extern.ReflectliteType.typeOf Tryz.func269 (by kernel_rfl) (by kernel_rfl) (by kernel_rfl) (by kernel_rfl)
  have h32 : ∀ w : World, (callFunc 407 #[.agg #[.pointer (some ⟨2, 40, none⟩)]]).run Tryz.prog w = .ok (.value (.bool true)) w := fun w => by kernel_rfl
  have tT := is_typeOf
  have mR := is_methodComparable
  have nE := is_noIsE
  have uE := is_noUnwrapE
  have vE := is_noUnwrapsE
  have nW := is_noIsW
  have uW := is_hasUnwrapW
  have mU := is_methodUnwrap
  have heq := run_eql_iface_int (P := Tryz.prog) w n m Tryz.underlying224 Tryz.underlying40 hi hcmp
  rw [hnm] at heq
  have hty := run_eql_iface_types (P := Tryz.prog) 227 40 (.pointer (some ⟨pb, 0, none⟩)) (.int .i64 m) Tryz.underlying224 (by decide) w
  go_enter Tryz.func214, Tryz.ntmps214
  go_wp2
  refine wp_loop_rounds 2 ?_
  rw [rounds_succ]
  go_wp2
  rw [rounds_succ]
  go_wp2
  go_ret
  exact ⟨rfl, rfl⟩
end Go.Am
