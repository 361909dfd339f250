/- Err2, Err3, Code, CodeLe -/
import Derived.Test.YtkhphdkjnpcnnaaGreatDoorMg18
import Derived.Test.YtkhphdkjnpcnnaaGreatDoorMg4
import Derived.Test.YtkhphdkjnpcnnaaGreatDoorMg11
/- errors.As at *api.Fault and errors.Is at the sentinels, walked through Go's own text. -/
namespace Go.Proofs.YtkhphdkjnpcnnaaGreatDoor
open Go.RowKit Go.Extern.Stop Go.Stop Go.Extern

set_option maxHeartbeats 4000000 in
theorem as_hit (e t : Addr) (old : Value) (w : World) (hg : w.cell? ⟨16, 0, none⟩ = some (.iface 237 (.agg #[.pointer (some ⟨25, 27, none⟩)]))) (ht0 : w.cell? t = some old) (hf0 : w.frozen? t = false) :
    Calls Tryz.prog 114 #[.iface 155 (.pointer (some e)), .iface 171 (.pointer (some t))] w fun ev w' => ev = .returned (.bool true) ∧ w' = ((((w.alloc (.cells #[.pointer (some t)] 171)).alloc (.cells #[.pointer (some ⟨25, 171, none⟩), .pointer (some ⟨w.heap.size, 0, none⟩), .int .u64 150] 208)).alloc (.cells #[.pointer (some ⟨25, 171, none⟩), .pointer (some ⟨w.heap.size, 0, none⟩), .int .u64 150] 208)).alloc (.cells #[.pointer (some e)] 155)).setCell t (.pointer (some e)) := by
  have h6 := @run_callFunc_extern Tryz.prog 150 _ (fun args => ReflectliteValue.unpack (args.getD 0 (.tuple #[]))) Tryz.func150 (by kernel_rfl) (by kernel_rfl) (by kernel_rfl) (by kernel_rfl)
  have h7 := @run_callFunc_extern Tryz.prog 151 _ (ReflectliteValue.methodAny (ReflectliteValue.valueError "reflectlite.Value.Type" 0) (fun t _ _ _ => ReflectliteType.toType t)) Tryz.func151 (by kernel_rfl) (by kernel_rfl) (by kernel_rfl) (by kernel_rfl)
  have h8 := @run_callFunc_extern Tryz.prog 152 _ (ReflectliteValue.method (ReflectliteValue.valueError "reflectlite.Value.IsNil" 0) ReflectliteValue.isNil) Tryz.func152 (by kernel_rfl) (by kernel_rfl) (by kernel_rfl) (by kernel_rfl)
  have h27 := @run_callFunc_extern Tryz.prog 271 _ (ReflectliteType.abiMethod fun t => do pure (.int .u8 (← Rtype.kind t))) Tryz.func271 (by kernel_rfl) (by kernel_rfl) (by kernel_rfl) (by kernel_rfl)
  have h37 := @run_callFunc_extern Tryz.prog 283 _ (ReflectliteType.method ReflectliteType.elem) Tryz.func283 (by kernel_rfl) (by kernel_rfl) (by kernel_rfl) (by kernel_rfl)
  have h38 := @run_callFunc_extern Tryz.prog 284 _ (ReflectliteType.relation "Implements" ReflectliteType.implements_) Tryz.func284 (by kernel_rfl) (by kernel_rfl) (by kernel_rfl) (by kernel_rfl)
  have h10 := @run_callFunc_extern Tryz.prog 154 _ ReflectliteType.typeOf Tryz.func154 (by kernel_rfl) (by kernel_rfl) (by kernel_rfl) (by kernel_rfl)
  have h35 := @run_callFunc_extern Tryz.prog 281 _ (ReflectliteType.relation "AssignableTo" ReflectliteType.assignableTo) Tryz.func281 (by kernel_rfl) (by kernel_rfl) (by kernel_rfl) (by kernel_rfl)
  have h11 := @run_callFunc_extern Tryz.prog 180 _ (ReflectliteValue.method (ReflectliteValue.valueError "reflectlite.Value.Elem" 0) ReflectliteValue.elem) Tryz.func180 (by kernel_rfl) (by kernel_rfl) (by kernel_rfl) (by kernel_rfl)
  have h12 := @run_callFunc_extern Tryz.prog 181 _ ReflectliteValue.set Tryz.func181 (by kernel_rfl) (by kernel_rfl) (by kernel_rfl) (by kernel_rfl)
  have tO := rl_typeOfP
  have mA := rl_methodAssignableTo
  have a25 := rl_assignableP
  have v25 := rl_valueOfP
  have f6 := rl_valueOfPP
  have f7 := rl_typePP
  have mK := rl_methodKind
  have mE := rl_methodElem
  have mI := rl_methodImplements
  have k27 := rl_kindPP
  have k25 := rl_kindP
  have e27 := rl_elemPP
  have i25 := rl_implementsP
  have hlt : 16 < w.heap.size := World.block_lt_of_cell? w ⟨16, 0, none⟩ hg
  have hg2 : ((w.alloc (.cells #[.pointer (some t)] 171)).alloc (.cells #[.pointer (some ⟨25, 171, none⟩), .pointer (some ⟨w.heap.size, 0, none⟩), .int .u64 150] 208)).cell? ⟨16, 0, none⟩ = some (.iface 237 (.agg #[.pointer (some ⟨25, 27, none⟩)])) := by
    rw [World.cell?_alloc_lt _ _ ⟨16, 0, none⟩ (by simp; omega), World.cell?_alloc_lt _ _ ⟨16, 0, none⟩ hlt]; exact hg
  have n8 := rl_isNilPP ⟨w.heap.size, 0, none⟩ t ((w.alloc (.cells #[.pointer (some t)] 171)).alloc (.cells #[.pointer (some ⟨25, 171, none⟩), .pointer (some ⟨w.heap.size, 0, none⟩), .int .u64 150] 208)) (by simp)
  have htl : t.block < w.heap.size := World.block_lt_of_cell? w t ht0
  have el := rl_elemVPP ⟨w.heap.size, 0, none⟩ t (((w.alloc (.cells #[.pointer (some t)] 171)).alloc (.cells #[.pointer (some ⟨25, 171, none⟩), .pointer (some ⟨w.heap.size, 0, none⟩), .int .u64 150] 208)).alloc (.cells #[.pointer (some ⟨25, 171, none⟩), .pointer (some ⟨w.heap.size, 0, none⟩), .int .u64 150] 208)) (by rw [World.cell?_alloc_lt _ _ ⟨w.heap.size, 0, none⟩ (by simp; omega)]; simp)
  have st := rl_setP t ⟨w.heap.size + 1 + 1 + 1, 0, none⟩ e old ((((w.alloc (.cells #[.pointer (some t)] 171)).alloc (.cells #[.pointer (some ⟨25, 171, none⟩), .pointer (some ⟨w.heap.size, 0, none⟩), .int .u64 150] 208)).alloc (.cells #[.pointer (some ⟨25, 171, none⟩), .pointer (some ⟨w.heap.size, 0, none⟩), .int .u64 150] 208)).alloc (.cells #[.pointer (some e)] 155))
    (by rw [World.cell?_alloc_at _ _ _ _ (by simp)]; rfl)
    (by rw [World.cell?_alloc_lt _ _ t (by simp; omega), World.cell?_alloc_lt _ _ t (by simp; omega), World.cell?_alloc_lt _ _ t (by simp; omega), World.cell?_alloc_lt _ _ t htl]; exact ht0)
    (by rw [World.frozen?_alloc_old _ _ t (by simp; omega), World.frozen?_alloc_old _ _ t (by simp; omega), World.frozen?_alloc_old _ _ t (by simp; omega), World.frozen?_alloc_old _ _ t (Nat.ne_of_lt htl)]; exact hf0)
  go_enter Tryz.func114, Tryz.ntmps114
  go_wp2
  refine wp_loop_rounds 1 ?_
  rw [rounds_succ]
  go_wp2
  go_ret
  exact ⟨rfl, rfl⟩

set_option maxHeartbeats 4000000 in
theorem as_miss (e t : Addr) (w : World) (hg : w.cell? ⟨16, 0, none⟩ = some (.iface 237 (.agg #[.pointer (some ⟨25, 27, none⟩)]))) :
    Calls Tryz.prog 114 #[.iface 309 (.pointer (some e)), .iface 171 (.pointer (some t))] w fun ev w' => ev = .returned (.bool false) ∧ w' = (((w.alloc (.cells #[.pointer (some t)] 171)).alloc (.cells #[.pointer (some ⟨25, 171, none⟩), .pointer (some ⟨w.heap.size, 0, none⟩), .int .u64 150] 208)).alloc (.cells #[.pointer (some ⟨25, 171, none⟩), .pointer (some ⟨w.heap.size, 0, none⟩), .int .u64 150] 208)) := by
  have h6 := @run_callFunc_extern Tryz.prog 150 _ (fun args => ReflectliteValue.unpack (args.getD 0 (.tuple #[]))) Tryz.func150 (by kernel_rfl) (by kernel_rfl) (by kernel_rfl) (by kernel_rfl)
  have h7 := @run_callFunc_extern Tryz.prog 151 _ (ReflectliteValue.methodAny (ReflectliteValue.valueError "reflectlite.Value.Type" 0) (fun t _ _ _ => ReflectliteType.toType t)) Tryz.func151 (by kernel_rfl) (by kernel_rfl) (by kernel_rfl) (by kernel_rfl)
  have h8 := @run_callFunc_extern Tryz.prog 152 _ (ReflectliteValue.method (ReflectliteValue.valueError "reflectlite.Value.IsNil" 0) ReflectliteValue.isNil) Tryz.func152 (by kernel_rfl) (by kernel_rfl) (by kernel_rfl) (by kernel_rfl)
  have h27 := @run_callFunc_extern Tryz.prog 271 _ (ReflectliteType.abiMethod fun t => do pure (.int .u8 (← Rtype.kind t))) Tryz.func271 (by kernel_rfl) (by kernel_rfl) (by kernel_rfl) (by kernel_rfl)
  have h37 := @run_callFunc_extern Tryz.prog 283 _ (ReflectliteType.method ReflectliteType.elem) Tryz.func283 (by kernel_rfl) (by kernel_rfl) (by kernel_rfl) (by kernel_rfl)
  have h38 := @run_callFunc_extern Tryz.prog 284 _ (ReflectliteType.relation "Implements" ReflectliteType.implements_) Tryz.func284 (by kernel_rfl) (by kernel_rfl) (by kernel_rfl) (by kernel_rfl)
  have h10 := @run_callFunc_extern Tryz.prog 154 _ ReflectliteType.typeOf Tryz.func154 (by kernel_rfl) (by kernel_rfl) (by kernel_rfl) (by kernel_rfl)
  have h35 := @run_callFunc_extern Tryz.prog 281 _ (ReflectliteType.relation "AssignableTo" ReflectliteType.assignableTo) Tryz.func281 (by kernel_rfl) (by kernel_rfl) (by kernel_rfl) (by kernel_rfl)
  have h11 := @run_callFunc_extern Tryz.prog 180 _ (ReflectliteValue.method (ReflectliteValue.valueError "reflectlite.Value.Elem" 0) ReflectliteValue.elem) Tryz.func180 (by kernel_rfl) (by kernel_rfl) (by kernel_rfl) (by kernel_rfl)
  have h12 := @run_callFunc_extern Tryz.prog 181 _ ReflectliteValue.set Tryz.func181 (by kernel_rfl) (by kernel_rfl) (by kernel_rfl) (by kernel_rfl)
  have tO := rl_typeOfS
  have mA := rl_methodAssignableTo
  have a25 := rl_assignableS
  have v25 := rl_valueOfP
  have f6 := rl_valueOfPP
  have f7 := rl_typePP
  have mK := rl_methodKind
  have mE := rl_methodElem
  have mI := rl_methodImplements
  have k27 := rl_kindPP
  have k25 := rl_kindP
  have e27 := rl_elemPP
  have i25 := rl_implementsP
  have hlt : 16 < w.heap.size := World.block_lt_of_cell? w ⟨16, 0, none⟩ hg
  have hg2 : ((w.alloc (.cells #[.pointer (some t)] 171)).alloc (.cells #[.pointer (some ⟨25, 171, none⟩), .pointer (some ⟨w.heap.size, 0, none⟩), .int .u64 150] 208)).cell? ⟨16, 0, none⟩ = some (.iface 237 (.agg #[.pointer (some ⟨25, 27, none⟩)])) := by
    rw [World.cell?_alloc_lt _ _ ⟨16, 0, none⟩ (by simp; omega), World.cell?_alloc_lt _ _ ⟨16, 0, none⟩ hlt]; exact hg
  have n8 := rl_isNilPP ⟨w.heap.size, 0, none⟩ t ((w.alloc (.cells #[.pointer (some t)] 171)).alloc (.cells #[.pointer (some ⟨25, 171, none⟩), .pointer (some ⟨w.heap.size, 0, none⟩), .int .u64 150] 208)) (by simp)
  have nA := rl_noAsS
  have nU := rl_noUnwrapS
  have nV := rl_noUnwrapsS
  go_enter Tryz.func114, Tryz.ntmps114
  go_wp2
  refine wp_loop_rounds 1 ?_
  rw [rounds_succ]
  go_wp2
  go_ret
  exact ⟨rfl, rfl⟩

end Go.Proofs.YtkhphdkjnpcnnaaGreatDoor

/- errors.Is at the sentinels, walked through Go's own text. -/
namespace Go.Proofs.YtkhphdkjnpcnnaaGreatDoor
open Go.RowKit Go.Extern.Stop Go.Stop Go.Extern
/-- What the model runs for (reflectlite.rtype).Comparable. -/
def cmpEntry : Array Value → Sem Value := ReflectliteType.method fun t => do Rtype.noPackHeld "Comparable" t; pure (.bool (← typeInfo t).comparable)
theorem rl_isComparable (w : World) : (cmpEntry #[.agg #[.pointer (some ⟨25, 309, none⟩)]]).run Tryz.prog w = .ok (.bool true) w := by kernel_rfl
/-- errors.Is of two pointers to errors.errorString, the same one. -/
theorem is_same (a : Addr) (w : World) :
    Calls Tryz.prog 115 #[.iface 309 (.pointer (some a)), .iface 309 (.pointer (some a))] w fun e w' => e = .returned (.bool true) ∧ w = w' := by
  obtain ⟨i, hi, hcmp⟩ := Option.map_eq_some_iff.1 rl_isComp
  obtain ⟨j, hj, hjs⟩ := Option.map_eq_some_iff.1 rl_isSize
  have h8 := @run_callFunc_extern Tryz.prog 154 _ Extern.ReflectliteType.typeOf Tryz.func154 (by kernel_rfl) (by kernel_rfl) (by kernel_rfl) (by kernel_rfl)
  have h32 := @run_callFunc_extern Tryz.prog 282 _ cmpEntry Tryz.func282 (by kernel_rfl) (by kernel_rfl) (by kernel_rfl) (by kernel_rfl)
  have tT := rl_typeOfS
  have cT := rl_isComparable
  have mR := rl_isMethodComparable
  have heq := run_eql_iface_ptr_same (P := Tryz.prog) w a Tryz.underlying27 Tryz.underlying309 hi hcmp hj
  go_enter Tryz.func115, Tryz.ntmps115
  go_wp2
  refine wp_loop_rounds 1 ?_
  rw [rounds_succ]
  go_wp2
  go_ret
  exact ⟨rfl, rfl⟩
/-- .. two different ones. -/
theorem is_other (a b : Addr) (ca cb : Array Value) (ta tb : TypeId) (w : World) (hne : a ≠ b) (ha : w.heap[a.block]? = some (.cells ca ta (0, 0))) (hb : w.heap[b.block]? = some (.cells cb tb (0, 0))) :
    Calls Tryz.prog 115 #[.iface 309 (.pointer (some a)), .iface 309 (.pointer (some b))] w fun e w' => e = .returned (.bool false) ∧ w = w' := by
  obtain ⟨i, hi, hcmp⟩ := Option.map_eq_some_iff.1 rl_isComp
  obtain ⟨j, hj, hjs⟩ := Option.map_eq_some_iff.1 rl_isSize
  have h8 := @run_callFunc_extern Tryz.prog 154 _ Extern.ReflectliteType.typeOf Tryz.func154 (by kernel_rfl) (by kernel_rfl) (by kernel_rfl) (by kernel_rfl)
  have h32 := @run_callFunc_extern Tryz.prog 282 _ cmpEntry Tryz.func282 (by kernel_rfl) (by kernel_rfl) (by kernel_rfl) (by kernel_rfl)
  have tT := rl_typeOfS
  have cT := rl_isComparable
  have mR := rl_isMethodComparable
  have nE := rl_noIsS
  have uE := rl_noUnwrapS
  have vE := rl_noUnwrapsS
  have heq := run_eql_iface_ptr_other (P := Tryz.prog) w Tryz.underlying27 Tryz.underlying309 hi hcmp hj (by rw [hjs]; decide) hne ha hb
  go_enter Tryz.func115, Tryz.ntmps115
  go_wp2
  refine wp_loop_rounds 1 ?_
  rw [rounds_succ]
  go_wp2
  go_ret
  exact ⟨rfl, rfl⟩
/-- .. of a fault that wraps the sentinel itself. -/
theorem is_fault_same (pb po : Nat) (b : Addr) (w : World) (h1 : w.cell? ⟨pb, po + 1, none⟩ = some (.iface 309 (.pointer (some b)))) :
    Calls Tryz.prog 115 #[.iface 155 (.pointer (some ⟨pb, po, none⟩)), .iface 309 (.pointer (some b))] w fun e w' => e = .returned (.bool true) ∧ w = w' := by
  obtain ⟨i, hi, hcmp⟩ := Option.map_eq_some_iff.1 rl_isComp
  obtain ⟨j, hj, hjs⟩ := Option.map_eq_some_iff.1 rl_isSize
  have h8 := @run_callFunc_extern Tryz.prog 154 _ Extern.ReflectliteType.typeOf Tryz.func154 (by kernel_rfl) (by kernel_rfl) (by kernel_rfl) (by kernel_rfl)
  have h32 := @run_callFunc_extern Tryz.prog 282 _ cmpEntry Tryz.func282 (by kernel_rfl) (by kernel_rfl) (by kernel_rfl) (by kernel_rfl)
  have tT := rl_typeOfS
  have cT := rl_isComparable
  have mR := rl_isMethodComparable
  have nW := rl_noIsF
  have uW := rl_hasUnwrapF
  have mU := rl_methodUnwrap
  have heq := run_eql_iface_ptr_same (P := Tryz.prog) w b Tryz.underlying27 Tryz.underlying309 hi hcmp hj
  have hty := run_eql_iface_types (P := Tryz.prog) 155 309 (.pointer (some ⟨pb, po, none⟩)) (.pointer (some b)) Tryz.underlying27 (by decide) w
  go_enter Tryz.func115, Tryz.ntmps115
  go_wp2
  refine wp_loop_rounds 2 ?_
  rw [rounds_succ]
  go_wp2
  rw [rounds_succ]
  go_wp2
  go_ret
  exact ⟨rfl, rfl⟩
theorem is_fault_other (pb po : Nat) (b a : Addr) (ca cb : Array Value) (ta tb : TypeId) (w : World) (h1 : w.cell? ⟨pb, po + 1, none⟩ = some (.iface 309 (.pointer (some a)))) (hne : a ≠ b) (ha : w.heap[a.block]? = some (.cells ca ta (0, 0))) (hb : w.heap[b.block]? = some (.cells cb tb (0, 0))) :
    Calls Tryz.prog 115 #[.iface 155 (.pointer (some ⟨pb, po, none⟩)), .iface 309 (.pointer (some b))] w fun e w' => e = .returned (.bool false) ∧ w = w' := by
  obtain ⟨i, hi, hcmp⟩ := Option.map_eq_some_iff.1 rl_isComp
  obtain ⟨j, hj, hjs⟩ := Option.map_eq_some_iff.1 rl_isSize
  have h8 := @run_callFunc_extern Tryz.prog 154 _ Extern.ReflectliteType.typeOf Tryz.func154 (by kernel_rfl) (by kernel_rfl) (by kernel_rfl) (by kernel_rfl)
  have h32 := @run_callFunc_extern Tryz.prog 282 _ cmpEntry Tryz.func282 (by kernel_rfl) (by kernel_rfl) (by kernel_rfl) (by kernel_rfl)
  have tT := rl_typeOfS
  have cT := rl_isComparable
  have mR := rl_isMethodComparable
  have nE := rl_noIsS
  have uE := rl_noUnwrapS
  have vE := rl_noUnwrapsS
  have nW := rl_noIsF
  have uW := rl_hasUnwrapF
  have mU := rl_methodUnwrap
  have heq := run_eql_iface_ptr_other (P := Tryz.prog) w Tryz.underlying27 Tryz.underlying309 hi hcmp hj (by rw [hjs]; decide) hne ha hb
  have hty := run_eql_iface_types (P := Tryz.prog) 155 309 (.pointer (some ⟨pb, po, none⟩)) (.pointer (some b)) Tryz.underlying27 (by decide) w
  go_enter Tryz.func115, Tryz.ntmps115
  go_wp2
  refine wp_loop_rounds 2 ?_
  rw [rounds_succ]
  go_wp2
  rw [rounds_succ]
  go_wp2
  go_ret
  exact ⟨rfl, rfl⟩
end Go.Proofs.YtkhphdkjnpcnnaaGreatDoor

/- plain.Code and coded: an error's number and place. -/
namespace Go.Proofs.YtkhphdkjnpcnnaaGreatDoor
open Go.RowKit

/-- The sentinels lie in rows of their own, each in another one; errors' own variable too. -/
structure LaidR (E : Nat → Addr) (w : World) : Prop where
  laid : Laid E w
  et : w.cell? ⟨16, 0, none⟩ = some (.iface 237 (.agg #[.pointer (some ⟨25, 27, none⟩)]))
  row : ∀ c, 1 ≤ c → c ≤ 16 → ∃ cs t, w.heap[(E c).block]? = some (.cells cs t (0, 0))
  inj : ∀ c d, 1 ≤ c → c ≤ 16 → 1 ≤ d → d ≤ 16 → E c = E d → c = d
theorem block_below {w w' : World} (hb : Below w.heap.size w w') {b : Nat} {o : Obj} (h : w.heap[b]? = some o) : w'.heap[b]? = some o :=
  (hb.block b (Array.getElem?_eq_some_iff.1 h).1).trans h
theorem LaidR.below {E : Nat → Addr} {w w' : World} (h : LaidR E w) (hb : Below w.heap.size w w') : LaidR E w' where
  laid := h.laid.below hb
  et := cell_below hb h.et
  row := fun c h1 h2 => let ⟨cs, t, e⟩ := h.row c h1 h2; ⟨cs, t, block_below hb e⟩
  inj := h.inj

/-- errors.Is between sentinels. -/
theorem is_sent {E : Nat → Addr} (c i : Nat) (w : World) (hL : LaidR E w) (h1 : 1 ≤ c) (h2 : c ≤ 16) (hi : i < 16) :
    Calls Tryz.prog 115 #[.iface 309 (.pointer (some (E c))), .iface 309 (.pointer (some (E (i + 1))))] w fun e w' => e = .returned (.bool (decide (i + 1 = c))) ∧ w = w' := by
  by_cases h : i + 1 = c
  · subst h
    rw [decide_eq_true rfl]
    exact is_same _ w
  · rw [decide_eq_false h]
    obtain ⟨ca, ta, ha⟩ := hL.row c h1 h2
    obtain ⟨cb, tb, hb⟩ := hL.row (i + 1) (by omega) (by omega)
    exact is_other _ _ ca cb ta tb w (fun e => h (hL.inj _ _ (by omega) (by omega) h1 h2 e.symm)) ha hb
theorem is_out {E : Nat → Addr} (a : Addr) (ca : Array Value) (ta : TypeId) (i : Nat) (w : World) (hL : LaidR E w) (ha : w.heap[a.block]? = some (.cells ca ta (0, 0))) (hne : ∀ c, 1 ≤ c → c ≤ 16 → a ≠ E c) (hi : i < 16) :
    Calls Tryz.prog 115 #[.iface 309 (.pointer (some a)), .iface 309 (.pointer (some (E (i + 1))))] w fun e w' => e = .returned (.bool false) ∧ w = w' := by
  obtain ⟨cb, tb, hb⟩ := hL.row (i + 1) (by omega) (by omega)
  exact is_other _ _ ca cb ta tb w (hne _ (by omega) (by omega)) ha hb
theorem is_fault {E : Nat → Addr} (pb po : Nat) (c i : Nat) (w : World) (hL : LaidR E w) (h1 : 1 ≤ c) (h2 : c ≤ 16) (hi : i < 16) (hc : w.cell? ⟨pb, po + 1, none⟩ = some (.iface 309 (.pointer (some (E c))))) :
    Calls Tryz.prog 115 #[.iface 155 (.pointer (some ⟨pb, po, none⟩)), .iface 309 (.pointer (some (E (i + 1))))] w fun e w' => e = .returned (.bool (decide (i + 1 = c))) ∧ w = w' := by
  by_cases h : i + 1 = c
  · subst h
    rw [decide_eq_true rfl]
    exact is_fault_same _ _ _ w hc
  · rw [decide_eq_false h]
    obtain ⟨ca, ta, ha⟩ := hL.row c h1 h2
    obtain ⟨cb, tb, hb⟩ := hL.row (i + 1) (by omega) (by omega)
    exact is_fault_other _ _ _ _ ca cb ta tb w hc (fun e => h (hL.inj _ _ (by omega) (by omega) h1 h2 e.symm)) ha hb

theorem as_miss_below (e t : Addr) (w : World) (hg : w.cell? ⟨16, 0, none⟩ = some (.iface 237 (.agg #[.pointer (some ⟨25, 27, none⟩)]))) :
    Calls Tryz.prog 114 #[.iface 309 (.pointer (some e)), .iface 171 (.pointer (some t))] w fun ev w' => ev = .returned (.bool false) ∧ Below w.heap.size w w' :=
  (as_miss e t w hg).mono fun ev w' ⟨he, hw⟩ => ⟨he, by
    rw [hw]
    exact (((Below.refl _ _).alloc (Nat.le_refl _) _).alloc (by simp) _).alloc (by simp; omega) _⟩
theorem as_hit_below (e t : Addr) (old : Value) (w : World) (hg : w.cell? ⟨16, 0, none⟩ = some (.iface 237 (.agg #[.pointer (some ⟨25, 27, none⟩)]))) (ht0 : w.cell? t = some old) (hf0 : w.frozen? t = false) :
    Calls Tryz.prog 114 #[.iface 155 (.pointer (some e)), .iface 171 (.pointer (some t))] w fun ev w' => ev = .returned (.bool true) ∧ ∃ w1, Below w.heap.size w w1 ∧ w' = w1.setCell t (.pointer (some e)) :=
  (as_hit e t old w hg ht0 hf0).mono fun ev w' ⟨he, hw⟩ => ⟨he, _, by
    exact ((((Below.refl _ _).alloc (Nat.le_refl _) _).alloc (by simp) _).alloc (by simp; omega) _).alloc (by simp; omega) _, hw⟩

/-- The number that Code tells. -/
def codeRes (c : Nat) : Int := if c ≤ 16 then (c : Int) else -1
theorem errs_get (E : Nat → Addr) (T : TypeId) (i : Nat) (h : i < 16) : (#[.iface T (.pointer (some (E 1))), .iface T (.pointer (some (E 2))), .iface T (.pointer (some (E 3))), .iface T (.pointer (some (E 4))), .iface T (.pointer (some (E 5))), .iface T (.pointer (some (E 6))), .iface T (.pointer (some (E 7))), .iface T (.pointer (some (E 8))), .iface T (.pointer (some (E 9))), .iface T (.pointer (some (E 10))), .iface T (.pointer (some (E 11))), .iface T (.pointer (some (E 12))), .iface T (.pointer (some (E 13))), .iface T (.pointer (some (E 14))), .iface T (.pointer (some (E 15))), .iface T (.pointer (some (E 16)))] : Array Value)[i]? = some (.iface T (.pointer (some (E (i + 1))))) := by
  rcases i with _ | _ | _ | _ | _ | _ | _ | _ | _ | _ | _ | _ | _ | _ | _ | _ | i
  all_goals first | rfl | omega

set_option maxHeartbeats 1000000 in
set_option maxRecDepth 100000 in
/-- Code of what is no fault: the first sentinel that errors.Is knows it by. -/
theorem code_string {E : Nat → Addr} (a : Addr) (c : Nat) (w : World) (hL : LaidR E w) (h1 : 1 ≤ c) (h2 : c ≤ 17)
    (hIs : ∀ i w', i < 16 → Below w.heap.size w w' → Calls Tryz.prog 115 #[.iface 309 (.pointer (some a)), .iface 309 (.pointer (some (E (i + 1))))] w' fun e w'' => e = .returned (.bool (decide (i + 1 = c))) ∧ w' = w'') :
    Calls Tryz.prog 68 #[.iface 309 (.pointer (some a))] w fun e w' => e = .returned (.tuple #[.int .i64 (codeRes c), .int .i64 (-1)]) ∧ Below w.heap.size w w' := by
  have hIs := Lib.hid hIs
  have hA : Below w.heap.size w (w.alloc (.cells #[.pointer none] 155)) := (Below.refl _ _).alloc (Nat.le_refl _) _
  have hAs := as_miss_below a ⟨w.heap.size, 0, none⟩ (w.alloc (.cells #[.pointer none] 155)) (hL.below hA).et
  go_enter Tryz.func68, Tryz.ntmps68
  go_wp2_with fail
  refine hAs.mono ?_
  clear hAs
  rintro e w1 ⟨rfl, hb1⟩
  have hb : Below w.heap.size w w1 := below_trans hA hb1
  have hL1 := (hL.below hb).laid
  obtain ⟨e1, e2, e3, e4, e5, e6, e7, e8, e9, e10, e11, e12, e13, e14, e15, e16⟩ := hL1
  simp only [errV] at e1 e2 e3 e4 e5 e6 e7 e8 e9 e10 e11 e12 e13 e14 e15 e16
  have hb := Lib.hid hb
  clear hb1 hA hL
  go_wp2_with fail
  go_loopw [2, 3, 5, 34] (fun _ s3 _ i wr => ∃ j : Nat, j ≤ 16 ∧ j < c ∧ i = .int .i64 j ∧ s3 = .int .i64 (-1) ∧ Below w.heap.size w wr ∧ ∀ j, j < 16 → wr.cell? ⟨w1.heap.size, j, none⟩ = some (.iface 309 (.pointer (some (E (j + 1)))))) (fun _ _ _ i _ => 16 - (intOf i).toNat)
  case atStart =>
    refine ⟨0, by omega, h1, rfl, rfl, hb.out.alloc hb.out.size _, fun j hj => ?_⟩
    rw [World.cell?_alloc_new]
    exact errs_get E _ j hj
  case round =>
    obtain ⟨j, hj, hjc, rfl, rfl, hbr, hcells⟩ := hrel
    have hI := Lib.hid (hIs.out j wr · hbr)
    by_cases hlt : j < 16
    · have hcell := hcells j hlt
      have hcells := Lib.hid hcells
      have hbr := Lib.hid hbr
      by_cases hjj : j + 1 = c
      · have hr := Lib.hid (show codeRes c = (j : Int) + 1 by unfold codeRes; rw [if_pos (by omega)]; omega)
        have hd : decide (j + 1 = c) = true := decide_eq_true hjj
        have hI := hI.out hlt
        rw [hd] at hI
        have hI := Lib.hid hI
        clear hd hjj
        go_wp2_with fail
        refine (hI.out).mono ?_
        rintro e w2 ⟨rfl, rfl⟩
        go_wp2_with fail
        go_ret2
        exact ⟨ret_int2 hr.out.symm, hbr.out⟩
      · have hd : decide (j + 1 = c) = false := decide_eq_false hjj
        have hI := hI.out hlt
        rw [hd] at hI
        have hI := Lib.hid hI
        have hjj' : j + 1 < c := by omega
        clear hd hjj
        go_wp2_with fail
        refine (hI.out).mono ?_
        rintro e w2 ⟨rfl, rfl⟩
        go_wp2_with fail
        go_roundw
        case rel => exact ⟨j + 1, by omega, hjj', by go_num, rfl, hbr.out, hcells.out⟩
        case measure => simp [intOf]; omega
    · have hr := Lib.hid (show codeRes c = -1 by unfold codeRes; rw [if_neg (by omega)])
      have hcells := Lib.hid hcells
      have hbr := Lib.hid hbr
      go_wp2_with fail
      go_ret2
      exact ⟨ret_int2 hr.out.symm, hbr.out⟩
theorem code_nil (w : World) :
    Calls Tryz.prog 68 #[.nilIface] w fun e w' => e = .returned (.tuple #[.int .i64 0, .int .i64 (-1)]) ∧ Below w.heap.size w w' := by
  go_enter Tryz.func68, Tryz.ntmps68
  go_wp2
  go_ret2
  exact ⟨rfl, Below.refl _ _⟩
theorem code_errV {E : Nat → Addr} (c : Nat) (w : World) (hL : LaidR E w) (h2 : c ≤ 16) :
    Calls Tryz.prog 68 #[errV E c] w fun e w' => e = .returned (.tuple #[.int .i64 (c : Int), .int .i64 (-1)]) ∧ Below w.heap.size w w' := by
  rcases c with _ | c
  · exact code_nil w
  · have h := code_string (E (c + 1)) (c + 1) w hL (by omega) (by omega) (fun i w' hi hb => is_sent (c + 1) i w' (hL.below hb) (by omega) h2 hi)
    unfold codeRes at h
    rw [if_pos h2] at h
    exact h
theorem code_out {E : Nat → Addr} (a : Addr) (ca : Array Value) (ta : TypeId) (w : World) (hL : LaidR E w) (ha : w.heap[a.block]? = some (.cells ca ta (0, 0))) (hne : ∀ c, 1 ≤ c → c ≤ 16 → a ≠ E c) :
    Calls Tryz.prog 68 #[.iface 309 (.pointer (some a))] w fun e w' => e = .returned (.tuple #[.int .i64 (-1), .int .i64 (-1)]) ∧ Below w.heap.size w w' := by
  refine code_string a 17 w hL (by omega) (by omega) (fun i w' hi hb => ?_)
  have h := is_out a ca ta i w' (hL.below hb) (block_below hb ha) hne hi
  rw [show decide (i + 1 = 17) = false from decide_eq_false (by omega)]
  exact h
/-- An error is this sentinel, bare: what a law asks. -/
def codedB (c : Nat) (code : Int) : Bool := decide ((c : Int) = code)
theorem coded_any {E : Nat → Addr} (c : Nat) (code : Int) (w : World) (hL : LaidR E w) (h2 : c ≤ 16) :
    Calls Tryz.prog 21 #[errV E c, .int .i64 code] w fun e w' => e = .returned (.bool (codedB c code)) ∧ Below w.heap.size w w' := by
  have h := code_errV c w hL h2
  generalize errV E c = v at *
  go_enter Tryz.func21, Tryz.ntmps21
  go_wp2_with fail
  refine h.mono ?_
  rintro e w' ⟨rfl, hb⟩
  by_cases hc : (c : Int) = code
  · have hr := Lib.hid (show codedB c code = true from decide_eq_true hc)
    subst hc
    go_wp2
    go_ret
    exact ⟨ret_bool hr.out.symm, hb⟩
  · have hc' : ((c : Int) == code) = false := by simpa using hc
    have hr := Lib.hid (show codedB c code = false from decide_eq_false hc)
    clear hc
    go_wp2
    go_ret
    exact ⟨ret_bool hr.out.symm, hb⟩

set_option maxHeartbeats 1000000 in
set_option maxRecDepth 100000 in
/-- Code of a fault: its error's number, and its place. -/
theorem code_fault {E : Nat → Addr} (pb po : Nat) (at_ : Int) (c : Nat) (w : World) (hL : LaidR E w) (h1 : 1 ≤ c) (h2 : c ≤ 16)
    (hp0 : w.cell? ⟨pb, po, none⟩ = some (.int .i64 at_)) (hp1 : w.cell? ⟨pb, po + 1, none⟩ = some (.iface 309 (.pointer (some (E c))))) :
    Calls Tryz.prog 68 #[.iface 155 (.pointer (some ⟨pb, po, none⟩))] w fun e w' => e = .returned (.tuple #[.int .i64 (c : Int), .int .i64 at_]) ∧ Below w.heap.size w w' := by
  have hA : Below w.heap.size w (w.alloc (.cells #[.pointer none] 155)) := (Below.refl _ _).alloc (Nat.le_refl _) _
  have hc0 : (w.alloc (.cells #[.pointer none] 155)).cell? ⟨w.heap.size, 0, none⟩ = some (.pointer none) := by simp
  have hAs := as_hit_below ⟨pb, po, none⟩ ⟨w.heap.size, 0, none⟩ (.pointer none) (w.alloc (.cells #[.pointer none] 155)) (hL.below hA).et (by simp) (by simp)
  go_enter Tryz.func68, Tryz.ntmps68
  go_wp2_with fail
  refine hAs.mono ?_
  clear hAs
  rintro e w2 ⟨rfl, w1, hb1, hw2⟩
  have hb0 : Below w.heap.size w w1 := below_trans hA hb1
  have hb : Below w.heap.size w w2 := by rw [hw2]; exact hb0.setCell (Nat.le_refl _) _
  have ht : w2.cell? ⟨w.heap.size, 0, none⟩ = some (.pointer (some ⟨pb, po, none⟩)) := by
    rw [hw2]; exact World.cell?_setCell_same _ _ _ (cell_below hb1 hc0)
  clear hw2 hb1 hb0 hA hc0 w1
  have hL1 := (hL.below hb).laid
  obtain ⟨e1, e2, e3, e4, e5, e6, e7, e8, e9, e10, e11, e12, e13, e14, e15, e16⟩ := hL1
  simp only [errV] at e1 e2 e3 e4 e5 e6 e7 e8 e9 e10 e11 e12 e13 e14 e15 e16
  have hq0 := cell_below hb hp0
  have hq1 := Lib.hid (cell_below hb hp1)
  have hp1 := Lib.hid hp1
  clear hp0
  have hb := Lib.hid hb
  go_wp2_with fail
  go_loopw [2, 3, 5, 34] (fun _ s3 _ i wr => ∃ j : Nat, j ≤ 16 ∧ j < c ∧ i = .int .i64 j ∧ s3 = .int .i64 at_ ∧ Below w.heap.size w wr ∧ ∀ j, j < 16 → wr.cell? ⟨w2.heap.size, j, none⟩ = some (.iface 309 (.pointer (some (E (j + 1)))))) (fun _ _ _ i _ => 16 - (intOf i).toNat)
  case atStart =>
    refine ⟨0, by omega, h1, rfl, rfl, hb.out.alloc hb.out.size _, fun j hj => ?_⟩
    rw [World.cell?_alloc_new]
    exact errs_get E _ j hj
  case round =>
    obtain ⟨j, hj, hjc, rfl, rfl, hbr, hcells⟩ := hrel
    have hlt : j < 16 := by omega
    have hI := Lib.hid (is_fault pb po c j wr (hL.below hbr) h1 h2 hlt (cell_below hbr hp1.out))
    have hcell := hcells j hlt
    have hcells := Lib.hid hcells
    have hbr := Lib.hid hbr
    by_cases hjj : j + 1 = c
    · have hr := Lib.hid (show (c : Int) = (j : Int) + 1 by omega)
      have hd : decide (j + 1 = c) = true := decide_eq_true hjj
      have hI := hI.out
      rw [hd] at hI
      have hI := Lib.hid hI
      clear hd hjj
      go_wp2_with fail
      refine (hI.out).mono ?_
      rintro e w3 ⟨rfl, rfl⟩
      go_wp2_with fail
      go_ret2
      exact ⟨ret_int2 hr.out.symm, hbr.out⟩
    · have hd : decide (j + 1 = c) = false := decide_eq_false hjj
      have hI := hI.out
      rw [hd] at hI
      have hI := Lib.hid hI
      have hjj' : j + 1 < c := by omega
      clear hd hjj
      go_wp2_with fail
      refine (hI.out).mono ?_
      rintro e w3 ⟨rfl, rfl⟩
      go_wp2_with fail
      go_roundw
      case rel => exact ⟨j + 1, by omega, hjj', by go_num, rfl, hbr.out, hcells.out⟩
      case measure => simp [intOf]; omega
end Go.Proofs.YtkhphdkjnpcnnaaGreatDoor

/- Errors' numbers are 16 at most: no program in sight; both what is laid and the rows of errors.Is. -/
namespace Go.Proofs.YtkhphdkjnpcnnaaGreatDoor
open Go.RowKit

/-- The sentinels, the library's variables, and errors.Is's rows. -/
structure LaidF (E : Nat → Addr) (w : World) : Prop where
  s : LaidS E w
  r : LaidR E w
theorem LaidF.below {E : Nat → Addr} {w w' : World} (h : LaidF E w) (hb : Below w.heap.size w w') : LaidF E w' := ⟨h.s.below hb, h.r.below hb⟩
theorem rightOf_code2 (k : Int) (s : List UInt8) (n : Int) : rightOf k s n ≤ 16 := by
  have hm : (markOf k s).2 ≤ 16 := by unfold markOf; split <;> simp
  unfold rightOf
  split
  · split <;> simp
  · exact hm
theorem lookOf_code2 (s : List UInt8) : (lookOf s).2.2.2 ≤ 16 := by
  unfold lookOf
  split
  · simp
  · cases lastCut 32 s with
    | none => simp
    | some x =>
      dsimp only
      split
      · simp
      · split
        · simp
        · split <;> simp
theorem openOf_code2 (k : Int) (s : List UInt8) : (openOf k s).2 ≤ 16 := by
  unfold openOf
  split
  · simp
  · split
    · split
      · simp
      · exact rightOf_code2 k _ _
    · exact lookOf_code2 s
theorem ofHead_code (W : List (List UInt8)) : (ofHead W).2 ≤ 16 := by
  match W with
  | [a, b, c, d] => unfold ofHead; dsimp only; split <;> simp
  | [] => simp [ofHead]
  | [_] => simp [ofHead]
  | [_, _] => simp [ofHead]
  | [_, _, _] => simp [ofHead]
  | _ :: _ :: _ :: _ :: _ :: _ => simp [ofHead]
theorem openH_code (k : Int) (s : List UInt8) : (openH k s).2 ≤ 16 := by
  unfold openH
  split
  · exact ofHead_code _
  · exact openOf_code2 k s
theorem headOf_code (k : Int) (L : List Ent) (t : Int) : (headOf k L t).2.1 ≤ 16 := by
  unfold headOf
  split
  · simp
  · split
    · exact floorsE_le L
    · split <;> simp
theorem sinceE_code (L : List Ent) (n : Int) : (sinceE L n).2.1 ≤ 16 := by
  unfold sinceE
  split
  · exact checkE_le L
  · split
    · simp
    · split <;> simp
theorem takeF_code (f : Fol) (s : List UInt8) (M : List Ent) : (takeF f s M).1 ≤ 16 := by
  unfold takeF
  split
  · exact openH_code _ _
  · split
    · simp
    · split
      · simp
      · split
        · exact floorsE_le _
        · split <;> simp
end Go.Proofs.YtkhphdkjnpcnnaaGreatDoor
