/- errors.As at *api.Fault and errors.Is at the sentinels, walked through Go's own text. -/
import Derived.Test.YtphjjaanclpagaaDoorErr
namespace Go.Proofs.YtphjjaanclpagaaDoor
open Go.RowKit Go.Extern.Stop Go.Stop Go.Extern

set_option maxHeartbeats 4000000 in
theorem as_hit (e t : Addr) (old : Value) (w : World) (hg : w.cell? ⟨17, 0, none⟩ = some (.iface 213 (.agg #[.pointer (some ⟨25, 27, none⟩)]))) (ht0 : w.cell? t = some old) (hf0 : w.frozen? t = false) :
    Calls Tryd.prog 92 #[.iface 138 (.pointer (some e)), .iface 153 (.pointer (some t))] w fun ev w' => ev = .returned (.bool true) ∧ w' = ((((w.alloc (.cells #[.pointer (some t)] 153)).alloc (.cells #[.pointer (some ⟨25, 153, none⟩), .pointer (some ⟨w.heap.size, 0, none⟩), .int .u64 150] 182)).alloc (.cells #[.pointer (some ⟨25, 153, none⟩), .pointer (some ⟨w.heap.size, 0, none⟩), .int .u64 150] 182)).alloc (.cells #[.pointer (some e)] 138)).setCell t (.pointer (some e)) := by
  have h6 := @run_callFunc_extern Tryd.prog 124 _ (fun args => ReflectliteValue.unpack (args.getD 0 (.tuple #[]))) Tryd.func124 (by kernel_rfl) (by kernel_rfl) (by kernel_rfl) (by kernel_rfl)
  have h7 := @run_callFunc_extern Tryd.prog 125 _ (ReflectliteValue.methodAny (ReflectliteValue.valueError "reflectlite.Value.Type" 0) (fun t _ _ _ => ReflectliteType.toType t)) Tryd.func125 (by kernel_rfl) (by kernel_rfl) (by kernel_rfl) (by kernel_rfl)
  have h8 := @run_callFunc_extern Tryd.prog 126 _ (ReflectliteValue.method (ReflectliteValue.valueError "reflectlite.Value.IsNil" 0) ReflectliteValue.isNil) Tryd.func126 (by kernel_rfl) (by kernel_rfl) (by kernel_rfl) (by kernel_rfl)
  have h27 := @run_callFunc_extern Tryd.prog 209 _ (ReflectliteType.abiMethod fun t => do pure (.int .u8 (← Rtype.kind t))) Tryd.func209 (by kernel_rfl) (by kernel_rfl) (by kernel_rfl) (by kernel_rfl)
  have h37 := @run_callFunc_extern Tryd.prog 223 _ (ReflectliteType.method ReflectliteType.elem) Tryd.func223 (by kernel_rfl) (by kernel_rfl) (by kernel_rfl) (by kernel_rfl)
  have h38 := @run_callFunc_extern Tryd.prog 224 _ (ReflectliteType.relation "Implements" ReflectliteType.implements_) Tryd.func224 (by kernel_rfl) (by kernel_rfl) (by kernel_rfl) (by kernel_rfl)
  have h10 := @run_callFunc_extern Tryd.prog 128 _ ReflectliteType.typeOf Tryd.func128 (by kernel_rfl) (by kernel_rfl) (by kernel_rfl) (by kernel_rfl)
  have h35 := @run_callFunc_extern Tryd.prog 221 _ (ReflectliteType.relation "AssignableTo" ReflectliteType.assignableTo) Tryd.func221 (by kernel_rfl) (by kernel_rfl) (by kernel_rfl) (by kernel_rfl)
  have h11 := @run_callFunc_extern Tryd.prog 151 _ (ReflectliteValue.method (ReflectliteValue.valueError "reflectlite.Value.Elem" 0) ReflectliteValue.elem) Tryd.func151 (by kernel_rfl) (by kernel_rfl) (by kernel_rfl) (by kernel_rfl)
  have h12 := @run_callFunc_extern Tryd.prog 152 _ ReflectliteValue.set Tryd.func152 (by kernel_rfl) (by kernel_rfl) (by kernel_rfl) (by kernel_rfl)
  have tO := rl_typeOfP
  have mA := rl_methodAssignableTo
  have a25 := rl_assignableP
  have v25 := rl_valueOfP
  have f6 := rl_valueOfPP
  have f7 := rl_typePP
  have mK := rl_methodKind
  have mE := rl_methodElem
  have mI := rl_methodImplements
  have k27 := rl_kindPP
  have k25 := rl_kindP
  have e27 := rl_elemPP
  have i25 := rl_implementsP
  have hlt : 17 < w.heap.size := World.block_lt_of_cell? w ⟨17, 0, none⟩ hg
  have hg2 : ((w.alloc (.cells #[.pointer (some t)] 153)).alloc (.cells #[.pointer (some ⟨25, 153, none⟩), .pointer (some ⟨w.heap.size, 0, none⟩), .int .u64 150] 182)).cell? ⟨17, 0, none⟩ = some (.iface 213 (.agg #[.pointer (some ⟨25, 27, none⟩)])) := by
    rw [World.cell?_alloc_lt _ _ ⟨17, 0, none⟩ (by simp; omega), World.cell?_alloc_lt _ _ ⟨17, 0, none⟩ hlt]; exact hg
  have n8 := rl_isNilPP ⟨w.heap.size, 0, none⟩ t ((w.alloc (.cells #[.pointer (some t)] 153)).alloc (.cells #[.pointer (some ⟨25, 153, none⟩), .pointer (some ⟨w.heap.size, 0, none⟩), .int .u64 150] 182)) (by simp)
  have htl : t.block < w.heap.size := World.block_lt_of_cell? w t ht0
  have el := rl_elemVPP ⟨w.heap.size, 0, none⟩ t (((w.alloc (.cells #[.pointer (some t)] 153)).alloc (.cells #[.pointer (some ⟨25, 153, none⟩), .pointer (some ⟨w.heap.size, 0, none⟩), .int .u64 150] 182)).alloc (.cells #[.pointer (some ⟨25, 153, none⟩), .pointer (some ⟨w.heap.size, 0, none⟩), .int .u64 150] 182)) (by rw [World.cell?_alloc_lt _ _ ⟨w.heap.size, 0, none⟩ (by simp; omega)]; simp)
  have st := rl_setP t ⟨w.heap.size + 1 + 1 + 1, 0, none⟩ e old ((((w.alloc (.cells #[.pointer (some t)] 153)).alloc (.cells #[.pointer (some ⟨25, 153, none⟩), .pointer (some ⟨w.heap.size, 0, none⟩), .int .u64 150] 182)).alloc (.cells #[.pointer (some ⟨25, 153, none⟩), .pointer (some ⟨w.heap.size, 0, none⟩), .int .u64 150] 182)).alloc (.cells #[.pointer (some e)] 138))
    (by rw [World.cell?_alloc_at _ _ _ _ (by simp)]; rfl)
    (by rw [World.cell?_alloc_lt _ _ t (by simp; omega), World.cell?_alloc_lt _ _ t (by simp; omega), World.cell?_alloc_lt _ _ t (by simp; omega), World.cell?_alloc_lt _ _ t htl]; exact ht0)
    (by rw [World.frozen?_alloc_old _ _ t (by simp; omega), World.frozen?_alloc_old _ _ t (by simp; omega), World.frozen?_alloc_old _ _ t (by simp; omega), World.frozen?_alloc_old _ _ t (Nat.ne_of_lt htl)]; exact hf0)
  go_enter Tryd.func92, Tryd.ntmps92
  go_wp2
  refine wp_loop_rounds 1 ?_
  rw [rounds_succ]
  go_wp2
  go_ret
  exact ⟨rfl, rfl⟩

set_option maxHeartbeats 4000000 in
theorem as_miss (e t : Addr) (w : World) (hg : w.cell? ⟨17, 0, none⟩ = some (.iface 213 (.agg #[.pointer (some ⟨25, 27, none⟩)]))) :
    Calls Tryd.prog 92 #[.iface 259 (.pointer (some e)), .iface 153 (.pointer (some t))] w fun ev w' => ev = .returned (.bool false) ∧ w' = (((w.alloc (.cells #[.pointer (some t)] 153)).alloc (.cells #[.pointer (some ⟨25, 153, none⟩), .pointer (some ⟨w.heap.size, 0, none⟩), .int .u64 150] 182)).alloc (.cells #[.pointer (some ⟨25, 153, none⟩), .pointer (some ⟨w.heap.size, 0, none⟩), .int .u64 150] 182)) := by
  have h6 := @run_callFunc_extern Tryd.prog 124 _ (fun args => ReflectliteValue.unpack (args.getD 0 (.tuple #[]))) Tryd.func124 (by kernel_rfl) (by kernel_rfl) (by kernel_rfl) (by kernel_rfl)
  have h7 := @run_callFunc_extern Tryd.prog 125 _ (ReflectliteValue.methodAny (ReflectliteValue.valueError "reflectlite.Value.Type" 0) (fun t _ _ _ => ReflectliteType.toType t)) Tryd.func125 (by kernel_rfl) (by kernel_rfl) (by kernel_rfl) (by kernel_rfl)
  have h8 := @run_callFunc_extern Tryd.prog 126 _ (ReflectliteValue.method (ReflectliteValue.valueError "reflectlite.Value.IsNil" 0) ReflectliteValue.isNil) Tryd.func126 (by kernel_rfl) (by kernel_rfl) (by kernel_rfl) (by kernel_rfl)
  have h27 := @run_callFunc_extern Tryd.prog 209 _ (ReflectliteType.abiMethod fun t => do pure (.int .u8 (← Rtype.kind t))) Tryd.func209 (by kernel_rfl) (by kernel_rfl) (by kernel_rfl) (by kernel_rfl)
  have h37 := @run_callFunc_extern Tryd.prog 223 _ (ReflectliteType.method ReflectliteType.elem) Tryd.func223 (by kernel_rfl) (by kernel_rfl) (by kernel_rfl) (by kernel_rfl)
  have h38 := @run_callFunc_extern Tryd.prog 224 _ (ReflectliteType.relation "Implements" ReflectliteType.implements_) Tryd.func224 (by kernel_rfl) (by kernel_rfl) (by kernel_rfl) (by kernel_rfl)
  have h10 := @run_callFunc_extern Tryd.prog 128 _ ReflectliteType.typeOf Tryd.func128 (by kernel_rfl) (by kernel_rfl) (by kernel_rfl) (by kernel_rfl)
  have h35 := @run_callFunc_extern Tryd.prog 221 _ (ReflectliteType.relation "AssignableTo" ReflectliteType.assignableTo) Tryd.func221 (by kernel_rfl) (by kernel_rfl) (by kernel_rfl) (by kernel_rfl)
  have h11 := @run_callFunc_extern Tryd.prog 151 _ (ReflectliteValue.method (ReflectliteValue.valueError "reflectlite.Value.Elem" 0) ReflectliteValue.elem) Tryd.func151 (by kernel_rfl) (by kernel_rfl) (by kernel_rfl) (by kernel_rfl)
  have h12 := @run_callFunc_extern Tryd.prog 152 _ ReflectliteValue.set Tryd.func152 (by kernel_rfl) (by kernel_rfl) (by kernel_rfl) (by kernel_rfl)
  have tO := rl_typeOfS
  have mA := rl_methodAssignableTo
  have a25 := rl_assignableS
  have v25 := rl_valueOfP
  have f6 := rl_valueOfPP
  have f7 := rl_typePP
  have mK := rl_methodKind
  have mE := rl_methodElem
  have mI := rl_methodImplements
  have k27 := rl_kindPP
  have k25 := rl_kindP
  have e27 := rl_elemPP
  have i25 := rl_implementsP
  have hlt : 17 < w.heap.size := World.block_lt_of_cell? w ⟨17, 0, none⟩ hg
  have hg2 : ((w.alloc (.cells #[.pointer (some t)] 153)).alloc (.cells #[.pointer (some ⟨25, 153, none⟩), .pointer (some ⟨w.heap.size, 0, none⟩), .int .u64 150] 182)).cell? ⟨17, 0, none⟩ = some (.iface 213 (.agg #[.pointer (some ⟨25, 27, none⟩)])) := by
    rw [World.cell?_alloc_lt _ _ ⟨17, 0, none⟩ (by simp; omega), World.cell?_alloc_lt _ _ ⟨17, 0, none⟩ hlt]; exact hg
  have n8 := rl_isNilPP ⟨w.heap.size, 0, none⟩ t ((w.alloc (.cells #[.pointer (some t)] 153)).alloc (.cells #[.pointer (some ⟨25, 153, none⟩), .pointer (some ⟨w.heap.size, 0, none⟩), .int .u64 150] 182)) (by simp)
  have nA := rl_noAsS
  have nU := rl_noUnwrapS
  have nV := rl_noUnwrapsS
  go_enter Tryd.func92, Tryd.ntmps92
  go_wp2
  refine wp_loop_rounds 1 ?_
  rw [rounds_succ]
  go_wp2
  go_ret
  exact ⟨rfl, rfl⟩

end Go.Proofs.YtphjjaanclpagaaDoor
