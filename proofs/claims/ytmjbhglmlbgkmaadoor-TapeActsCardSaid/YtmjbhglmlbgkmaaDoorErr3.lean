/- errors.Is at the sentinels, walked through Go's own text. -/
import Derived.Test.YtmjbhglmlbgkmaaDoorErr
namespace Go.Proofs.YtmjbhglmlbgkmaaDoor
open Go.RowKit Go.Extern.Stop Go.Stop Go.Extern
/-- What the model runs for (reflectlite.rtype).Comparable. -/
def cmpEntry : Array Value → Sem Value := ReflectliteType.method fun t => do Rtype.noPackHeld "Comparable" t; pure (.bool (← typeInfo t).comparable)
theorem rl_isComparable (w : World) : (cmpEntry #[.agg #[.pointer (some ⟨25, 242, none⟩)]]).run Tryd.prog w = .ok (.bool true) w := by kernel_rfl
/-- errors.Is of two pointers to errors.errorString, the same one. -/
theorem is_same (a : Addr) (w : World) :
    Calls Tryd.prog 72 #[.iface 242 (.pointer (some a)), .iface 242 (.pointer (some a))] w fun e w' => e = .returned (.bool true) ∧ w = w' := by
  obtain ⟨i, hi, hcmp⟩ := Option.map_eq_some_iff.1 rl_isComp
  obtain ⟨j, hj, hjs⟩ := Option.map_eq_some_iff.1 rl_isSize
  have h8 := @run_callFunc_extern Tryd.prog 99 _ Extern.ReflectliteType.typeOf Tryd.func99 (by kernel_rfl) (by kernel_rfl) (by kernel_rfl) (by kernel_rfl)
  have h32 := @run_callFunc_extern Tryd.prog 200 _ cmpEntry Tryd.func200 (by kernel_rfl) (by kernel_rfl) (by kernel_rfl) (by kernel_rfl)
  have tT := rl_typeOfS
  have cT := rl_isComparable
  have mR := rl_isMethodComparable
  have heq := run_eql_iface_ptr_same (P := Tryd.prog) w a Tryd.underlying34 Tryd.underlying242 hi hcmp hj
  go_enter Tryd.func72, Tryd.ntmps72
  go_wp2
  refine wp_loop_rounds 1 ?_
  rw [rounds_succ]
  go_wp2
  go_ret
  exact ⟨rfl, rfl⟩
/-- .. two different ones. -/
theorem is_other (a b : Addr) (ca cb : Array Value) (ta tb : TypeId) (w : World) (hne : a ≠ b) (ha : w.heap[a.block]? = some (.cells ca ta (0, 0))) (hb : w.heap[b.block]? = some (.cells cb tb (0, 0))) :
    Calls Tryd.prog 72 #[.iface 242 (.pointer (some a)), .iface 242 (.pointer (some b))] w fun e w' => e = .returned (.bool false) ∧ w = w' := by
  obtain ⟨i, hi, hcmp⟩ := Option.map_eq_some_iff.1 rl_isComp
  obtain ⟨j, hj, hjs⟩ := Option.map_eq_some_iff.1 rl_isSize
  have h8 := @run_callFunc_extern Tryd.prog 99 _ Extern.ReflectliteType.typeOf Tryd.func99 (by kernel_rfl) (by kernel_rfl) (by kernel_rfl) (by kernel_rfl)
  have h32 := @run_callFunc_extern Tryd.prog 200 _ cmpEntry Tryd.func200 (by kernel_rfl) (by kernel_rfl) (by kernel_rfl) (by kernel_rfl)
  have tT := rl_typeOfS
  have cT := rl_isComparable
  have mR := rl_isMethodComparable
  have nE := rl_noIsS
  have uE := rl_noUnwrapS
  have vE := rl_noUnwrapsS
  have heq := run_eql_iface_ptr_other (P := Tryd.prog) w Tryd.underlying34 Tryd.underlying242 hi hcmp hj (by rw [hjs]; decide) hne ha hb
  go_enter Tryd.func72, Tryd.ntmps72
  go_wp2
  refine wp_loop_rounds 1 ?_
  rw [rounds_succ]
  go_wp2
  go_ret
  exact ⟨rfl, rfl⟩
/-- .. of a fault that wraps the sentinel itself. -/
theorem is_fault_same (pb po : Nat) (b : Addr) (w : World) (h1 : w.cell? ⟨pb, po + 1, none⟩ = some (.iface 242 (.pointer (some b)))) :
    Calls Tryd.prog 72 #[.iface 127 (.pointer (some ⟨pb, po, none⟩)), .iface 242 (.pointer (some b))] w fun e w' => e = .returned (.bool true) ∧ w = w' := by
  obtain ⟨i, hi, hcmp⟩ := Option.map_eq_some_iff.1 rl_isComp
  obtain ⟨j, hj, hjs⟩ := Option.map_eq_some_iff.1 rl_isSize
  have h8 := @run_callFunc_extern Tryd.prog 99 _ Extern.ReflectliteType.typeOf Tryd.func99 (by kernel_rfl) (by kernel_rfl) (by kernel_rfl) (by kernel_rfl)
  have h32 := @run_callFunc_extern Tryd.prog 200 _ cmpEntry Tryd.func200 (by kernel_rfl) (by kernel_rfl) (by kernel_rfl) (by kernel_rfl)
  have tT := rl_typeOfS
  have cT := rl_isComparable
  have mR := rl_isMethodComparable
  have nW := rl_noIsF
  have uW := rl_hasUnwrapF
  have mU := rl_methodUnwrap
  have heq := run_eql_iface_ptr_same (P := Tryd.prog) w b Tryd.underlying34 Tryd.underlying242 hi hcmp hj
  have hty := run_eql_iface_types (P := Tryd.prog) 127 242 (.pointer (some ⟨pb, po, none⟩)) (.pointer (some b)) Tryd.underlying34 (by decide) w
  go_enter Tryd.func72, Tryd.ntmps72
  go_wp2
  refine wp_loop_rounds 2 ?_
  rw [rounds_succ]
  go_wp2
  rw [rounds_succ]
  go_wp2
  go_ret
  exact ⟨rfl, rfl⟩
theorem is_fault_other (pb po : Nat) (b a : Addr) (ca cb : Array Value) (ta tb : TypeId) (w : World) (h1 : w.cell? ⟨pb, po + 1, none⟩ = some (.iface 242 (.pointer (some a)))) (hne : a ≠ b) (ha : w.heap[a.block]? = some (.cells ca ta (0, 0))) (hb : w.heap[b.block]? = some (.cells cb tb (0, 0))) :
    Calls Tryd.prog 72 #[.iface 127 (.pointer (some ⟨pb, po, none⟩)), .iface 242 (.pointer (some b))] w fun e w' => e = .returned (.bool false) ∧ w = w' := by
  obtain ⟨i, hi, hcmp⟩ := Option.map_eq_some_iff.1 rl_isComp
  obtain ⟨j, hj, hjs⟩ := Option.map_eq_some_iff.1 rl_isSize
  have h8 := @run_callFunc_extern Tryd.prog 99 _ Extern.ReflectliteType.typeOf Tryd.func99 (by kernel_rfl) (by kernel_rfl) (by kernel_rfl) (by kernel_rfl)
  have h32 := @run_callFunc_extern Tryd.prog 200 _ cmpEntry Tryd.func200 (by kernel_rfl) (by kernel_rfl) (by kernel_rfl) (by kernel_rfl)
  have tT := rl_typeOfS
  have cT := rl_isComparable
  have mR := rl_isMethodComparable
  have nE := rl_noIsS
  have uE := rl_noUnwrapS
  have vE := rl_noUnwrapsS
  have nW := rl_noIsF
  have uW := rl_hasUnwrapF
  have mU := rl_methodUnwrap
  have heq := run_eql_iface_ptr_other (P := Tryd.prog) w Tryd.underlying34 Tryd.underlying242 hi hcmp hj (by rw [hjs]; decide) hne ha hb
  have hty := run_eql_iface_types (P := Tryd.prog) 127 242 (.pointer (some ⟨pb, po, none⟩)) (.pointer (some b)) Tryd.underlying34 (by decide) w
  go_enter Tryd.func72, Tryd.ntmps72
  go_wp2
  refine wp_loop_rounds 2 ?_
  rw [rounds_succ]
  go_wp2
  rw [rounds_succ]
  go_wp2
  go_ret
  exact ⟨rfl, rfl⟩
end Go.Proofs.YtmjbhglmlbgkmaaDoor
