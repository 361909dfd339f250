/- Err, Err2, Err3 -/
import Derived.Test.YtfbndfkahodheaaGreatDoorMg3
import Derived.LaidEql
import Derived.Stop.Asserts
import Derived.RowKitTokens
/- errors.As at *api.Fault, errors.Is at the sentinels, plain.Code: by contracts. -/
namespace Go.Proofs.YtfbndfkahodheaaGreatDoor
open Go.RowKit Go.Extern.Stop Go.Stop Go.Extern

/-! The numbers: the fault's pointer type 105, a pointer to such 138, error 30, reflectlite's rtype 200. -/
theorem rl_valueOfPP (t : Addr) (w : World) : (ReflectliteValue.unpack (.iface 138 (.pointer (some t)))).run Tryz.prog w
    = .ok (.agg #[.pointer (some ⟨25, 138, none⟩), .pointer (some ⟨w.heap.size, 0, none⟩), .int .u64 150]) (w.alloc (.cells #[.pointer (some t)] 138)) := by kernel_rfl
theorem rl_typePP (a : Addr) (w : World) : (ReflectliteValue.methodAny (ReflectliteValue.valueError "reflectlite.Value.Type" 0) (fun t _ _ _ => ReflectliteType.toType t) #[.agg #[.pointer (some ⟨25, 138, none⟩), .pointer (some a), .int .u64 150]]).run Tryz.prog w
    = .ok (.iface 200 (.agg #[.pointer (some ⟨25, 138, none⟩)])) w := by kernel_rfl
theorem rl_methodKind (h : Value) (w : World) : (Go.method 397 200 (.agg #[h]) "Kind").run Tryz.prog w = .ok (210, h) w := by kernel_rfl
theorem rl_kindPP (w : World) : ((ReflectliteType.abiMethod fun t => (fun a : Nat => Value.int IntKind.u8 (a : Int)) <$> Rtype.kind t) #[.pointer (some ⟨25, 138, none⟩)]).run Tryz.prog w = .ok (.int .u8 22) w := by kernel_rfl
theorem rl_kindP (w : World) : ((ReflectliteType.abiMethod fun t => (fun a : Nat => Value.int IntKind.u8 (a : Int)) <$> Rtype.kind t) #[.pointer (some ⟨25, 105, none⟩)]).run Tryz.prog w = .ok (.int .u8 22) w := by kernel_rfl
theorem rlm (z : Sem Value) (f : TypeId → Addr → Nat → Nat → Sem Value) (v : Value) :
    ReflectliteValue.method z f #[v] = (do match ← ReflectliteValue.parts v with | none => z | some (t, a, fl) => f t a fl (fl % 32)) := rfl
theorem rl_partsPP (a : Addr) (w : World) : (ReflectliteValue.parts (.agg #[.pointer (some ⟨25, 138, none⟩), .pointer (some a), .int .u64 150])).run Tryz.prog w = .ok (some (138, a, 150)) w := by kernel_rfl
theorem rl_isNilPP (a p : Addr) (W : World) (ha : W.cell? a = some (.pointer (some p))) :
    (ReflectliteValue.method (ReflectliteValue.valueError "reflectlite.Value.IsNil" 0) ReflectliteValue.isNil #[.agg #[.pointer (some ⟨25, 138, none⟩), .pointer (some a), .int .u64 150]]).run Tryz.prog W = .ok (.bool false) W := by
  rw [rlm]
  simp only [Sem.run_bind, rl_partsPP, Result.andThen]
  simp [ReflectliteValue.isNil, loadVar, isAgg, underlying, Tryz.underlying138, ha, Result.andThen]
theorem rl_methodElem (h : Value) (w : World) : (Go.method 397 200 (.agg #[h]) "Elem").run Tryz.prog w = .ok (223, .agg #[h]) w := by kernel_rfl
theorem rl_methodImplements (h : Value) (w : World) : (Go.method 397 200 (.agg #[h]) "Implements").run Tryz.prog w = .ok (224, .agg #[h]) w := by kernel_rfl
theorem rl_methodAssignableTo (h : Value) (w : World) : (Go.method 397 200 (.agg #[h]) "AssignableTo").run Tryz.prog w = .ok (221, .agg #[h]) w := by kernel_rfl
theorem rl_elemPP (w : World) : (ReflectliteType.method ReflectliteType.elem #[.agg #[.pointer (some ⟨25, 138, none⟩)]]).run Tryz.prog w = .ok (.iface 200 (.agg #[.pointer (some ⟨25, 105, none⟩)])) w := by kernel_rfl
theorem rl_implementsP (w : World) : (ReflectliteType.relation "Implements" ReflectliteType.implements_ #[.agg #[.pointer (some ⟨25, 105, none⟩)], .iface 200 (.agg #[.pointer (some ⟨25, 30, none⟩)])]).run Tryz.prog w = .ok (.bool true) w := by kernel_rfl
theorem rl_typeOfP (v : Value) (w : World) : (ReflectliteType.typeOf #[.iface 105 v]).run Tryz.prog w = .ok (.iface 200 (.agg #[.pointer (some ⟨25, 105, none⟩)])) w := by kernel_rfl
theorem rl_typeOfS (v : Value) (w : World) : (ReflectliteType.typeOf #[.iface 258 v]).run Tryz.prog w = .ok (.iface 200 (.agg #[.pointer (some ⟨25, 258, none⟩)])) w := by kernel_rfl
theorem rl_assignableP (w : World) : (ReflectliteType.relation "AssignableTo" ReflectliteType.assignableTo #[.agg #[.pointer (some ⟨25, 105, none⟩)], .iface 200 (.agg #[.pointer (some ⟨25, 105, none⟩)])]).run Tryz.prog w = .ok (.bool true) w := by kernel_rfl
theorem rl_assignableS (w : World) : (ReflectliteType.relation "AssignableTo" ReflectliteType.assignableTo #[.agg #[.pointer (some ⟨25, 258, none⟩)], .iface 200 (.agg #[.pointer (some ⟨25, 105, none⟩)])]).run Tryz.prog w = .ok (.bool false) w := by kernel_rfl
theorem rl_valueOfP (e : Addr) (w : World) : (ReflectliteValue.unpack (.iface 105 (.pointer (some e)))).run Tryz.prog w
    = .ok (.agg #[.pointer (some ⟨25, 105, none⟩), .pointer (some ⟨w.heap.size, 0, none⟩), .int .u64 150]) (w.alloc (.cells #[.pointer (some e)] 105)) := by kernel_rfl
theorem rl_elemOfPP (w : World) : (Rtype.elem? 138).run Tryz.prog w = .ok (some 105) w := by kernel_rfl
theorem rl_mkP (p : Addr) (w : World) : (ReflectliteValue.mk 105 p ReflectliteValue.flagAddr).run Tryz.prog w = .ok (.agg #[.pointer (some ⟨25, 105, none⟩), .pointer (some p), .int .u64 406]) w := by kernel_rfl
theorem rl_elemVPP (a p : Addr) (W : World) (ha : W.cell? a = some (.pointer (some p))) :
    (ReflectliteValue.method (ReflectliteValue.valueError "reflectlite.Value.Elem" 0) ReflectliteValue.elem #[.agg #[.pointer (some ⟨25, 138, none⟩), .pointer (some a), .int .u64 150]]).run Tryz.prog W
      = .ok (.agg #[.pointer (some ⟨25, 105, none⟩), .pointer (some p), .int .u64 406]) W := by
  rw [rlm]
  simp only [Sem.run_bind, rl_partsPP, Result.andThen]
  simp [ReflectliteValue.elem, loadVar, isAgg, underlying, Tryz.underlying138, ha, Result.andThen, rl_elemOfPP, rl_mkP]
theorem rls (v x : Value) : ReflectliteValue.set #[v, x] = (do
    let (some (dst, a, fl), some (src, b, _)) := (← ReflectliteValue.parts v, ← ReflectliteValue.parts x)
      | unsupported (.noEntry "extern/(internal/reflectlite.Value).Set.zeroValue")
    if fl / ReflectliteValue.flagAddr % 2 == 0 then unsupported (.noEntry "extern/(internal/reflectlite.Value).Set.unaddressable")
    let val ← loadVar src b
    if ← Rtype.directlyAssignable dst src then storeVar dst a val
    else if ← Rtype.implements dst src then
      if (← Rtype.kind src) == 20 then
        match val with
        | .nilIface => unsupported (.noEntry "extern/reflectlite: a nil value of one interface type handed on as a value of another")
        | _ => storeVar dst a val
      else storeVar dst a (.iface src val)
    else panicString ("reflectlite.Set: value of type " ++ (← Rtype.spelt src) ++ " is not assignable to type " ++ (← Rtype.spelt dst))
    pure (.tuple #[])) := rfl
theorem rl_partsPa (a : Addr) (w : World) : (ReflectliteValue.parts (.agg #[.pointer (some ⟨25, 105, none⟩), .pointer (some a), .int .u64 406])).run Tryz.prog w = .ok (some (105, a, 406)) w := by kernel_rfl
theorem rl_partsP (a : Addr) (w : World) : (ReflectliteValue.parts (.agg #[.pointer (some ⟨25, 105, none⟩), .pointer (some a), .int .u64 150])).run Tryz.prog w = .ok (some (105, a, 150)) w := by kernel_rfl
theorem rl_direct (w : World) : (Rtype.directlyAssignable 105 105).run Tryz.prog w = .ok true w := by kernel_rfl
theorem rl_setP (ta b e : Addr) (old : Value) (W : World) (hb : W.cell? b = some (.pointer (some e))) (ht : W.cell? ta = some old) (hf : W.frozen? ta = false) :
    (ReflectliteValue.set #[.agg #[.pointer (some ⟨25, 105, none⟩), .pointer (some ta), .int .u64 406], .agg #[.pointer (some ⟨25, 105, none⟩), .pointer (some b), .int .u64 150]]).run Tryz.prog W
      = .ok (.tuple #[]) (W.setCell ta (.pointer (some e))) := by
  rw [rls]
  simp only [Sem.run_bind, rl_partsPa, rl_partsP, Result.andThen]
  simp [ReflectliteValue.flagAddr, loadVar, isAgg, underlying, Tryz.underlying105, hb, Result.andThen, rl_direct, storeVar, Value.cells, storeCells, Addr.add]
  rw [run_store Tryz.prog W ta _ _ (by rfl)]
  simp [ht, hf]
theorem rl_noAsS (v : Value) (xT : TypeId) (w : World) : (Instr.typeAssert (.iface 258 v) xT 204 true).run Tryz.prog w = .ok (.tuple #[.nilIface, .bool false]) w := run_typeAssert_lacksB Tryz.underlying204 (by kernel_rfl) (by kernel_rfl) v xT w
theorem rl_noUnwrapS (v : Value) (xT : TypeId) (w : World) : (Instr.typeAssert (.iface 258 v) xT 207 true).run Tryz.prog w = .ok (.tuple #[.nilIface, .bool false]) w := run_typeAssert_lacksB Tryz.underlying207 (by kernel_rfl) (by kernel_rfl) v xT w
theorem rl_noUnwrapsS (v : Value) (xT : TypeId) (w : World) : (Instr.typeAssert (.iface 258 v) xT 209 true).run Tryz.prog w = .ok (.tuple #[.nilIface, .bool false]) w := run_typeAssert_lacksB Tryz.underlying209 (by kernel_rfl) (by kernel_rfl) v xT w
theorem rl_noIsS (v : Value) (xT : TypeId) (w : World) : (Instr.typeAssert (.iface 258 v) xT 211 true).run Tryz.prog w = .ok (.tuple #[.nilIface, .bool false]) w := run_typeAssert_lacksB Tryz.underlying211 (by kernel_rfl) (by kernel_rfl) v xT w
theorem rl_noIsF (v : Value) (xT : TypeId) (w : World) : (Instr.typeAssert (.iface 105 v) xT 211 true).run Tryz.prog w = .ok (.tuple #[.nilIface, .bool false]) w := run_typeAssert_lacksB Tryz.underlying211 (by kernel_rfl) (by kernel_rfl) v xT w
theorem rl_hasUnwrapF (v : Value) (xT : TypeId) (w : World) : (Instr.typeAssert (.iface 105 v) xT 207 true).run Tryz.prog w = .ok (.tuple #[.iface 105 v, .bool true]) w := run_typeAssert_hasB Tryz.underlying207 (by kernel_rfl) v xT w
theorem rl_methodUnwrap (v : Value) (w : World) : (Go.method 397 105 v "Unwrap").run Tryz.prog w = .ok (215, v) w := by kernel_rfl
theorem rl_isMethodComparable (v : Value) (w : World) : (Go.method 397 200 v "Comparable").run Tryz.prog w = .ok (222, v) w := by kernel_rfl
theorem rl_isComp : (Tryz.prog.info? 258).map (·.comparable) = some true := by kernel_rfl
theorem rl_isSize : (Tryz.prog.info? 260).map (·.size) = some 1 := by kernel_rfl

end Go.Proofs.YtfbndfkahodheaaGreatDoor

/- errors.As at *api.Fault and errors.Is at the sentinels, walked through Go's own text. -/
namespace Go.Proofs.YtfbndfkahodheaaGreatDoor
open Go.RowKit Go.Extern.Stop Go.Stop Go.Extern

set_option maxHeartbeats 4000000 in
theorem as_hit (e t : Addr) (old : Value) (w : World) (hg : w.cell? ⟨16, 0, none⟩ = some (.iface 200 (.agg #[.pointer (some ⟨25, 30, none⟩)]))) (ht0 : w.cell? t = some old) (hf0 : w.frozen? t = false) :
    Calls Tryz.prog 75 #[.iface 105 (.pointer (some e)), .iface 138 (.pointer (some t))] w fun ev w' => ev = .returned (.bool true) ∧ w' = ((((w.alloc (.cells #[.pointer (some t)] 138)).alloc (.cells #[.pointer (some ⟨25, 138, none⟩), .pointer (some ⟨w.heap.size, 0, none⟩), .int .u64 150] 171)).alloc (.cells #[.pointer (some ⟨25, 138, none⟩), .pointer (some ⟨w.heap.size, 0, none⟩), .int .u64 150] 171)).alloc (.cells #[.pointer (some e)] 105)).setCell t (.pointer (some e)) := by
  have h6 := @run_callFunc_extern Tryz.prog 107 _ (fun args => ReflectliteValue.unpack (args.getD 0 (.tuple #[]))) Tryz.func107 (by kernel_rfl) (by kernel_rfl) (by kernel_rfl) (by kernel_rfl)
  have h7 := @run_callFunc_extern Tryz.prog 108 _ (ReflectliteValue.methodAny (ReflectliteValue.valueError "reflectlite.Value.Type" 0) (fun t _ _ _ => ReflectliteType.toType t)) Tryz.func108 (by kernel_rfl) (by kernel_rfl) (by kernel_rfl) (by kernel_rfl)
  have h8 := @run_callFunc_extern Tryz.prog 109 _ (ReflectliteValue.method (ReflectliteValue.valueError "reflectlite.Value.IsNil" 0) ReflectliteValue.isNil) Tryz.func109 (by kernel_rfl) (by kernel_rfl) (by kernel_rfl) (by kernel_rfl)
  have h27 := @run_callFunc_extern Tryz.prog 210 _ (ReflectliteType.abiMethod fun t => do pure (.int .u8 (← Rtype.kind t))) Tryz.func210 (by kernel_rfl) (by kernel_rfl) (by kernel_rfl) (by kernel_rfl)
  have h37 := @run_callFunc_extern Tryz.prog 223 _ (ReflectliteType.method ReflectliteType.elem) Tryz.func223 (by kernel_rfl) (by kernel_rfl) (by kernel_rfl) (by kernel_rfl)
  have h38 := @run_callFunc_extern Tryz.prog 224 _ (ReflectliteType.relation "Implements" ReflectliteType.implements_) Tryz.func224 (by kernel_rfl) (by kernel_rfl) (by kernel_rfl) (by kernel_rfl)
  have h10 := @run_callFunc_extern Tryz.prog 111 _ ReflectliteType.typeOf Tryz.func111 (by kernel_rfl) (by kernel_rfl) (by kernel_rfl) (by kernel_rfl)
  have h35 := @run_callFunc_extern Tryz.prog 221 _ (ReflectliteType.relation "AssignableTo" ReflectliteType.assignableTo) Tryz.func221 (by kernel_rfl) (by kernel_rfl) (by kernel_rfl) (by kernel_rfl)
  have h11 := @run_callFunc_extern Tryz.prog 136 _ (ReflectliteValue.method (ReflectliteValue.valueError "reflectlite.Value.Elem" 0) ReflectliteValue.elem) Tryz.func136 (by kernel_rfl) (by kernel_rfl) (by kernel_rfl) (by kernel_rfl)
  have h12 := @run_callFunc_extern Tryz.prog 137 _ ReflectliteValue.set Tryz.func137 (by kernel_rfl) (by kernel_rfl) (by kernel_rfl) (by kernel_rfl)
  have tO := rl_typeOfP
  have mA := rl_methodAssignableTo
  have a25 := rl_assignableP
  have v25 := rl_valueOfP
  have f6 := rl_valueOfPP
  have f7 := rl_typePP
  have mK := rl_methodKind
  have mE := rl_methodElem
  have mI := rl_methodImplements
  have k27 := rl_kindPP
  have k25 := rl_kindP
  have e27 := rl_elemPP
  have i25 := rl_implementsP
  have hlt : 16 < w.heap.size := World.block_lt_of_cell? w ⟨16, 0, none⟩ hg
  have hg2 : ((w.alloc (.cells #[.pointer (some t)] 138)).alloc (.cells #[.pointer (some ⟨25, 138, none⟩), .pointer (some ⟨w.heap.size, 0, none⟩), .int .u64 150] 171)).cell? ⟨16, 0, none⟩ = some (.iface 200 (.agg #[.pointer (some ⟨25, 30, none⟩)])) := by
    rw [World.cell?_alloc_lt _ _ ⟨16, 0, none⟩ (by simp; omega), World.cell?_alloc_lt _ _ ⟨16, 0, none⟩ hlt]; exact hg
  have n8 := rl_isNilPP ⟨w.heap.size, 0, none⟩ t ((w.alloc (.cells #[.pointer (some t)] 138)).alloc (.cells #[.pointer (some ⟨25, 138, none⟩), .pointer (some ⟨w.heap.size, 0, none⟩), .int .u64 150] 171)) (by simp)
  have htl : t.block < w.heap.size := World.block_lt_of_cell? w t ht0
  have el := rl_elemVPP ⟨w.heap.size, 0, none⟩ t (((w.alloc (.cells #[.pointer (some t)] 138)).alloc (.cells #[.pointer (some ⟨25, 138, none⟩), .pointer (some ⟨w.heap.size, 0, none⟩), .int .u64 150] 171)).alloc (.cells #[.pointer (some ⟨25, 138, none⟩), .pointer (some ⟨w.heap.size, 0, none⟩), .int .u64 150] 171)) (by rw [World.cell?_alloc_lt _ _ ⟨w.heap.size, 0, none⟩ (by simp; omega)]; simp)
  have st := rl_setP t ⟨w.heap.size + 1 + 1 + 1, 0, none⟩ e old ((((w.alloc (.cells #[.pointer (some t)] 138)).alloc (.cells #[.pointer (some ⟨25, 138, none⟩), .pointer (some ⟨w.heap.size, 0, none⟩), .int .u64 150] 171)).alloc (.cells #[.pointer (some ⟨25, 138, none⟩), .pointer (some ⟨w.heap.size, 0, none⟩), .int .u64 150] 171)).alloc (.cells #[.pointer (some e)] 105))
    (by rw [World.cell?_alloc_at _ _ _ _ (by simp)]; rfl)
    (by rw [World.cell?_alloc_lt _ _ t (by simp; omega), World.cell?_alloc_lt _ _ t (by simp; omega), World.cell?_alloc_lt _ _ t (by simp; omega), World.cell?_alloc_lt _ _ t htl]; exact ht0)
    (by rw [World.frozen?_alloc_old _ _ t (by simp; omega), World.frozen?_alloc_old _ _ t (by simp; omega), World.frozen?_alloc_old _ _ t (by simp; omega), World.frozen?_alloc_old _ _ t (Nat.ne_of_lt htl)]; exact hf0)
  go_enter Tryz.func75, Tryz.ntmps75
  go_wp2
  refine wp_loop_rounds 1 ?_
  rw [rounds_succ]
  go_wp2
  go_ret
  exact ⟨rfl, rfl⟩

set_option maxHeartbeats 4000000 in
theorem as_miss (e t : Addr) (w : World) (hg : w.cell? ⟨16, 0, none⟩ = some (.iface 200 (.agg #[.pointer (some ⟨25, 30, none⟩)]))) :
    Calls Tryz.prog 75 #[.iface 258 (.pointer (some e)), .iface 138 (.pointer (some t))] w fun ev w' => ev = .returned (.bool false) ∧ w' = (((w.alloc (.cells #[.pointer (some t)] 138)).alloc (.cells #[.pointer (some ⟨25, 138, none⟩), .pointer (some ⟨w.heap.size, 0, none⟩), .int .u64 150] 171)).alloc (.cells #[.pointer (some ⟨25, 138, none⟩), .pointer (some ⟨w.heap.size, 0, none⟩), .int .u64 150] 171)) := by
  have h6 := @run_callFunc_extern Tryz.prog 107 _ (fun args => ReflectliteValue.unpack (args.getD 0 (.tuple #[]))) Tryz.func107 (by kernel_rfl) (by kernel_rfl) (by kernel_rfl) (by kernel_rfl)
  have h7 := @run_callFunc_extern Tryz.prog 108 _ (ReflectliteValue.methodAny (ReflectliteValue.valueError "reflectlite.Value.Type" 0) (fun t _ _ _ => ReflectliteType.toType t)) Tryz.func108 (by kernel_rfl) (by kernel_rfl) (by kernel_rfl) (by kernel_rfl)
  have h8 := @run_callFunc_extern Tryz.prog 109 _ (ReflectliteValue.method (ReflectliteValue.valueError "reflectlite.Value.IsNil" 0) ReflectliteValue.isNil) Tryz.func109 (by kernel_rfl) (by kernel_rfl) (by kernel_rfl) (by kernel_rfl)
  have h27 := @run_callFunc_extern Tryz.prog 210 _ (ReflectliteType.abiMethod fun t => do pure (.int .u8 (← Rtype.kind t))) Tryz.func210 (by kernel_rfl) (by kernel_rfl) (by kernel_rfl) (by kernel_rfl)
  have h37 := @run_callFunc_extern Tryz.prog 223 _ (ReflectliteType.method ReflectliteType.elem) Tryz.func223 (by kernel_rfl) (by kernel_rfl) (by kernel_rfl) (by kernel_rfl)
  have h38 := @run_callFunc_extern Tryz.prog 224 _ (ReflectliteType.relation "Implements" ReflectliteType.implements_) Tryz.func224 (by kernel_rfl) (by kernel_rfl) (by kernel_rfl) (by kernel_rfl)
  have h10 := @run_callFunc_extern Tryz.prog 111 _ ReflectliteType.typeOf Tryz.func111 (by kernel_rfl) (by kernel_rfl) (by kernel_rfl) (by kernel_rfl)
  have h35 := @run_callFunc_extern Tryz.prog 221 _ (ReflectliteType.relation "AssignableTo" ReflectliteType.assignableTo) Tryz.func221 (by kernel_rfl) (by kernel_rfl) (by kernel_rfl) (by kernel_rfl)
  have h11 := @run_callFunc_extern Tryz.prog 136 _ (ReflectliteValue.method (ReflectliteValue.valueError "reflectlite.Value.Elem" 0) ReflectliteValue.elem) Tryz.func136 (by kernel_rfl) (by kernel_rfl) (by kernel_rfl) (by kernel_rfl)
  have h12 := @run_callFunc_extern Tryz.prog 137 _ ReflectliteValue.set Tryz.func137 (by kernel_rfl) (by kernel_rfl) (by kernel_rfl) (by kernel_rfl)
  have tO := rl_typeOfS
  have mA := rl_methodAssignableTo
  have a25 := rl_assignableS
  have v25 := rl_valueOfP
  have f6 := rl_valueOfPP
  have f7 := rl_typePP
  have mK := rl_methodKind
  have mE := rl_methodElem
  have mI := rl_methodImplements
  have k27 := rl_kindPP
  have k25 := rl_kindP
  have e27 := rl_elemPP
  have i25 := rl_implementsP
  have hlt : 16 < w.heap.size := World.block_lt_of_cell? w ⟨16, 0, none⟩ hg
  have hg2 : ((w.alloc (.cells #[.pointer (some t)] 138)).alloc (.cells #[.pointer (some ⟨25, 138, none⟩), .pointer (some ⟨w.heap.size, 0, none⟩), .int .u64 150] 171)).cell? ⟨16, 0, none⟩ = some (.iface 200 (.agg #[.pointer (some ⟨25, 30, none⟩)])) := by
    rw [World.cell?_alloc_lt _ _ ⟨16, 0, none⟩ (by simp; omega), World.cell?_alloc_lt _ _ ⟨16, 0, none⟩ hlt]; exact hg
  have n8 := rl_isNilPP ⟨w.heap.size, 0, none⟩ t ((w.alloc (.cells #[.pointer (some t)] 138)).alloc (.cells #[.pointer (some ⟨25, 138, none⟩), .pointer (some ⟨w.heap.size, 0, none⟩), .int .u64 150] 171)) (by simp)
  have nA := rl_noAsS
  have nU := rl_noUnwrapS
  have nV := rl_noUnwrapsS
  go_enter Tryz.func75, Tryz.ntmps75
  go_wp2
  refine wp_loop_rounds 1 ?_
  rw [rounds_succ]
  go_wp2
  go_ret
  exact ⟨rfl, rfl⟩

end Go.Proofs.YtfbndfkahodheaaGreatDoor

/- errors.Is at the sentinels, walked through Go's own text. -/
namespace Go.Proofs.YtfbndfkahodheaaGreatDoor
open Go.RowKit Go.Extern.Stop Go.Stop Go.Extern
/-- What the model runs for (reflectlite.rtype).Comparable. -/
def cmpEntry : Array Value → Sem Value := ReflectliteType.method fun t => do Rtype.noPackHeld "Comparable" t; pure (.bool (← typeInfo t).comparable)
theorem rl_isComparable (w : World) : (cmpEntry #[.agg #[.pointer (some ⟨25, 258, none⟩)]]).run Tryz.prog w = .ok (.bool true) w := by kernel_rfl
/-- errors.Is of two pointers to errors.errorString, the same one. -/
theorem is_same (a : Addr) (w : World) :
    Calls Tryz.prog 76 #[.iface 258 (.pointer (some a)), .iface 258 (.pointer (some a))] w fun e w' => e = .returned (.bool true) ∧ w = w' := by
  obtain ⟨i, hi, hcmp⟩ := Option.map_eq_some_iff.1 rl_isComp
  obtain ⟨j, hj, hjs⟩ := Option.map_eq_some_iff.1 rl_isSize
  have h8 := @run_callFunc_extern Tryz.prog 111 _ Extern.ReflectliteType.typeOf Tryz.func111 (by kernel_rfl) (by kernel_rfl) (by kernel_rfl) (by kernel_rfl)
  have h32 := @run_callFunc_extern Tryz.prog 222 _ cmpEntry Tryz.func222 (by kernel_rfl) (by kernel_rfl) (by kernel_rfl) (by kernel_rfl)
  have tT := rl_typeOfS
  have cT := rl_isComparable
  have mR := rl_isMethodComparable
  have heq := run_eql_iface_ptr_same (P := Tryz.prog) w a Tryz.underlying30 Tryz.underlying258 hi hcmp hj
  go_enter Tryz.func76, Tryz.ntmps76
  go_wp2
  refine wp_loop_rounds 1 ?_
  rw [rounds_succ]
  go_wp2
  go_ret
  exact ⟨rfl, rfl⟩
/-- .. two different ones. -/
theorem is_other (a b : Addr) (ca cb : Array Value) (ta tb : TypeId) (w : World) (hne : a ≠ b) (ha : w.heap[a.block]? = some (.cells ca ta (0, 0))) (hb : w.heap[b.block]? = some (.cells cb tb (0, 0))) :
    Calls Tryz.prog 76 #[.iface 258 (.pointer (some a)), .iface 258 (.pointer (some b))] w fun e w' => e = .returned (.bool false) ∧ w = w' := by
  obtain ⟨i, hi, hcmp⟩ := Option.map_eq_some_iff.1 rl_isComp
  obtain ⟨j, hj, hjs⟩ := Option.map_eq_some_iff.1 rl_isSize
  have h8 := @run_callFunc_extern Tryz.prog 111 _ Extern.ReflectliteType.typeOf Tryz.func111 (by kernel_rfl) (by kernel_rfl) (by kernel_rfl) (by kernel_rfl)
  have h32 := @run_callFunc_extern Tryz.prog 222 _ cmpEntry Tryz.func222 (by kernel_rfl) (by kernel_rfl) (by kernel_rfl) (by kernel_rfl)
  have tT := rl_typeOfS
  have cT := rl_isComparable
  have mR := rl_isMethodComparable
  have nE := rl_noIsS
  have uE := rl_noUnwrapS
  have vE := rl_noUnwrapsS
  have heq := run_eql_iface_ptr_other (P := Tryz.prog) w Tryz.underlying30 Tryz.underlying258 hi hcmp hj (by rw [hjs]; decide) hne ha hb
  go_enter Tryz.func76, Tryz.ntmps76
  go_wp2
  refine wp_loop_rounds 1 ?_
  rw [rounds_succ]
  go_wp2
  go_ret
  exact ⟨rfl, rfl⟩
/-- .. of a fault that wraps the sentinel itself. -/
theorem is_fault_same (pb po : Nat) (b : Addr) (w : World) (h1 : w.cell? ⟨pb, po + 1, none⟩ = some (.iface 258 (.pointer (some b)))) :
    Calls Tryz.prog 76 #[.iface 105 (.pointer (some ⟨pb, po, none⟩)), .iface 258 (.pointer (some b))] w fun e w' => e = .returned (.bool true) ∧ w = w' := by
  obtain ⟨i, hi, hcmp⟩ := Option.map_eq_some_iff.1 rl_isComp
  obtain ⟨j, hj, hjs⟩ := Option.map_eq_some_iff.1 rl_isSize
  have h8 := @run_callFunc_extern Tryz.prog 111 _ Extern.ReflectliteType.typeOf Tryz.func111 (by kernel_rfl) (by kernel_rfl) (by kernel_rfl) (by kernel_rfl)
  have h32 := @run_callFunc_extern Tryz.prog 222 _ cmpEntry Tryz.func222 (by kernel_rfl) (by kernel_rfl) (by kernel_rfl) (by kernel_rfl)
  have tT := rl_typeOfS
  have cT := rl_isComparable
  have mR := rl_isMethodComparable
  have nW := rl_noIsF
  have uW := rl_hasUnwrapF
  have mU := rl_methodUnwrap
  have heq := run_eql_iface_ptr_same (P := Tryz.prog) w b Tryz.underlying30 Tryz.underlying258 hi hcmp hj
  have hty := run_eql_iface_types (P := Tryz.prog) 105 258 (.pointer (some ⟨pb, po, none⟩)) (.pointer (some b)) Tryz.underlying30 (by decide) w
  go_enter Tryz.func76, Tryz.ntmps76
  go_wp2
  refine wp_loop_rounds 2 ?_
  rw [rounds_succ]
  go_wp2
  rw [rounds_succ]
  go_wp2
  go_ret
  exact ⟨rfl, rfl⟩
theorem is_fault_other (pb po : Nat) (b a : Addr) (ca cb : Array Value) (ta tb : TypeId) (w : World) (h1 : w.cell? ⟨pb, po + 1, none⟩ = some (.iface 258 (.pointer (some a)))) (hne : a ≠ b) (ha : w.heap[a.block]? = some (.cells ca ta (0, 0))) (hb : w.heap[b.block]? = some (.cells cb tb (0, 0))) :
    Calls Tryz.prog 76 #[.iface 105 (.pointer (some ⟨pb, po, none⟩)), .iface 258 (.pointer (some b))] w fun e w' => e = .returned (.bool false) ∧ w = w' := by
  obtain ⟨i, hi, hcmp⟩ := Option.map_eq_some_iff.1 rl_isComp
  obtain ⟨j, hj, hjs⟩ := Option.map_eq_some_iff.1 rl_isSize
  have h8 := @run_callFunc_extern Tryz.prog 111 _ Extern.ReflectliteType.typeOf Tryz.func111 (by kernel_rfl) (by kernel_rfl) (by kernel_rfl) (by kernel_rfl)
  have h32 := @run_callFunc_extern Tryz.prog 222 _ cmpEntry Tryz.func222 (by kernel_rfl) (by kernel_rfl) (by kernel_rfl) (by kernel_rfl)
  have tT := rl_typeOfS
  have cT := rl_isComparable
  have mR := rl_isMethodComparable
  have nE := rl_noIsS
  have uE := rl_noUnwrapS
  have vE := rl_noUnwrapsS
  have nW := rl_noIsF
  have uW := rl_hasUnwrapF
  have mU := rl_methodUnwrap
  have heq := run_eql_iface_ptr_other (P := Tryz.prog) w Tryz.underlying30 Tryz.underlying258 hi hcmp hj (by rw [hjs]; decide) hne ha hb
  have hty := run_eql_iface_types (P := Tryz.prog) 105 258 (.pointer (some ⟨pb, po, none⟩)) (.pointer (some b)) Tryz.underlying30 (by decide) w
  go_enter Tryz.func76, Tryz.ntmps76
  go_wp2
  refine wp_loop_rounds 2 ?_
  rw [rounds_succ]
  go_wp2
  rw [rounds_succ]
  go_wp2
  go_ret
  exact ⟨rfl, rfl⟩
end Go.Proofs.YtfbndfkahodheaaGreatDoor
