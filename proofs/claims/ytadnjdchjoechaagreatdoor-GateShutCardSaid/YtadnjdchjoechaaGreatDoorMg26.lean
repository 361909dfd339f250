/- NewsB, Err, Err2 -/
import Derived.Test.YtadnjdchjoechaaGreatDoorMg25
import Derived.Test.YtadnjdchjoechaaGreatDoorMg13
import Derived.LaidEql
import Derived.Stop.Asserts
import Derived.RowKitTokens
/- NewsOf, its entries in the feed's own row: walked. -/
namespace Go.Proofs.YtadnjdchjoechaaGreatDoor
open Go.RowKit

def NewsResF (w0 : World) (hd : List UInt8) (M : List Ent) (e : Ending) : Prop := ∃ v', e = .returned (.tuple #[.string (bs hd), v']) ∧ ∀ wx, Below w0.heap.size w0 wx → EntsAt wx v' M
theorem NewsResF.mk {w0 : World} {hd H : List UInt8} {M : List Ent} {v : Value} {x : ByteArray} (h : hd = H) (hx : x = bs H) (hv : ∀ wx, Below w0.heap.size w0 wx → EntsAt wx v M) : NewsResF w0 hd M (.returned (.tuple #[.string x, v])) := by
  subst h hx
  exact ⟨v, rfl, hv⟩
set_option maxHeartbeats 8000000 in
set_option maxRecDepth 100000 in
theorem newsOf_from (w0 : World) (v : Value) (L : List Ent) (n : News) (w : World) (hw0 : Below w0.heap.size w0 w) (hv : EntsAt w0 v L) (hm : ∀ e ∈ L, e.f.who.length ≤ maxLen) (hl : L.length ≤ 1000) (ht : n.text.length ≤ maxLen) :
    Calls Tryz.prog 11 #[v, n.val] w fun e w' => NewsResF w0 (newsHead L n) (newsEnts L n) e ∧ Below w.heap.size w w' := by
  have hvH := Lib.hid (fun wx (hx : Below w0.heap.size w0 wx) => (show EntsAt wx v L from AtG.below hv hx))
  have hw0H := Lib.hid hw0
  obtain ⟨a0, c0, hv0⟩ := AtG.sl hv
  have hcap : L.length ≤ c0 := by
    obtain ⟨_, _, he, _, h, _⟩ := hv
    rw [hv0] at he
    cases he
    exact h
  have hmu : newsMany L n = if n.many < 0 ∨ (L.length : Int) < n.many then L.length else n.many.toNat := rfl
  have hfu : newsFrom L n = if n.frm < 0 ∨ (newsMany L n : Int) < n.frm then newsMany L n else n.frm.toNat := rfl
  have hml := newsMany_le L n
  have hfl := newsFrom_le L n
  have hhu : newsHead L n = if n.text = [] then (headOf n.key (L.take (newsMany L n)) n.time).1 else n.text := rfl
  have heu : newsEnts L n = (L.take (newsMany L n)).drop (newsFrom L n) := rfl
  obtain ⟨mn, fr, tm, ky, tx⟩ := n
  dsimp only [News.val] at *
  generalize newsMany L ⟨mn, fr, tm, ky, tx⟩ = m at *
  generalize newsFrom L ⟨mn, fr, tm, ky, tx⟩ = f at *
  generalize newsHead L ⟨mn, fr, tm, ky, tx⟩ = hd at *
  generalize newsEnts L ⟨mn, fr, tm, ky, tx⟩ = M at *
  have hmH := Lib.hid hm
  have heuH := Lib.hid heu
  have hhuH := Lib.hid hhu
  have hbox := heap_alloc_new w (.cells #[.int .i64 mn, .int .i64 fr, .int .i64 tm, .int .i64 ky, .string (bs tx)] 38)
  have hB0 : Below w.heap.size w (w.alloc (.cells #[.int .i64 mn, .int .i64 fr, .int .i64 tm, .int .i64 ky, .string (bs tx)] 38)) := (Below.refl _ _).alloc (Nat.le_refl _) _
  have hboxH := Lib.hid hbox
  have hB0H := Lib.hid hB0
  have hmuH := Lib.hid hmu
  have hfuH := Lib.hid hfu
  clear hm hv hw0 hmu hfu hB0 hbox heu hhu
  subst hv0
  go_enter Tryz.func11, Tryz.ntmps11
  go_upto_region 2 with fail
  generalize hW : w.alloc (.cells #[.int .i64 mn, .int .i64 fr, .int .i64 tm, .int .i64 ky, .string (bs tx)] 38) = W at *
  obtain ⟨⟨k0, k1, k2, k3, k4⟩, hfz⟩ := fol_cells hboxH.out
  clear hW hfz
  go_cut [19] from 12 to 19 (fun s19 wx => s19 = .bool (decide (mn < 0 ∨ (L.length : Int) < mn)) ∧ W = wx)
  case first =>
    by_cases h1 : mn < 0
    · have hm1 := Lib.hid (show decide (mn < 0 ∨ (L.length : Int) < mn) = true from decide_eq_true (.inl h1))
      go_wp2_with fail
      go_meet
      exact ⟨by rw [hm1.out], rfl⟩
    by_cases h2 : (L.length : Int) < mn
    · have hm1 := Lib.hid (show decide (mn < 0 ∨ (L.length : Int) < mn) = true from decide_eq_true (.inr h2))
      go_wp2_with fail
      go_meet
      exact ⟨by rw [hm1.out], rfl⟩
    · have hm1 := Lib.hid (show decide (mn < 0 ∨ (L.length : Int) < mn) = false from decide_eq_false (by omega))
      go_wp2_with fail
      go_meet
      exact ⟨by rw [hm1.out], rfl⟩
  obtain ⟨rfl, rfl⟩ := hcut
  have hb1 : ∃ b, decide (mn < 0 ∨ (L.length : Int) < mn) = b := ⟨_, rfl⟩
  obtain ⟨b19, hb1⟩ := hb1
  rw [hb1]
  have hb1 := Lib.hid hb1
  go_upto_if 19 with fail
  go_cut [6] from 20 to 21 (fun s6 wx => s6 = .int .i64 m ∧ W = wx)
  case first =>
    cases b19 with
    | true =>
      have hm1 := Lib.hid (show m = L.length by rw [hmuH.out, if_pos (of_decide_eq_true hb1.out)])
      go_wp2_with fail
      go_meet
      exact ⟨by rw [hm1.out], rfl⟩
    | false =>
      have hm1 := Lib.hid (show (m : Int) = mn by
        have := of_decide_eq_false hb1.out
        rw [hmuH.out, if_neg this]; omega)
      go_wp2_with fail
      go_meet
      exact ⟨by rw [hm1.out], rfl⟩
  obtain ⟨rfl, rfl⟩ := hcut
  clear hb1 hmuH
  go_upto_region 5 with fail
  go_cut [30] from 24 to 30 (fun s30 wx => s30 = .bool (decide (fr < 0 ∨ (m : Int) < fr)) ∧ W = wx)
  case first =>
    by_cases h1 : fr < 0
    · have hm1 := Lib.hid (show decide (fr < 0 ∨ (m : Int) < fr) = true from decide_eq_true (.inl h1))
      go_wp2_with fail
      go_meet
      exact ⟨by rw [hm1.out], rfl⟩
    by_cases h2 : (m : Int) < fr
    · have hm1 := Lib.hid (show decide (fr < 0 ∨ (m : Int) < fr) = true from decide_eq_true (.inr h2))
      go_wp2_with fail
      go_meet
      exact ⟨by rw [hm1.out], rfl⟩
    · have hm1 := Lib.hid (show decide (fr < 0 ∨ (m : Int) < fr) = false from decide_eq_false (by omega))
      go_wp2_with fail
      go_meet
      exact ⟨by rw [hm1.out], rfl⟩
  obtain ⟨rfl, rfl⟩ := hcut
  have hb1 : ∃ b, decide (fr < 0 ∨ (m : Int) < fr) = b := ⟨_, rfl⟩
  obtain ⟨b30, hb1⟩ := hb1
  rw [hb1]
  have hb1 := Lib.hid hb1
  go_upto_if 30 with fail
  go_cut [7] from 31 to 31 (fun s7 wx => s7 = .int .i64 f ∧ W = wx)
  case first =>
    cases b30 with
    | true =>
      have hm1 := Lib.hid (show f = m by rw [hfuH.out, if_pos (of_decide_eq_true hb1.out)])
      go_wp2_with fail
      go_meet
      exact ⟨by rw [hm1.out], rfl⟩
    | false =>
      have hm1 := Lib.hid (show (f : Int) = fr by
        have := of_decide_eq_false hb1.out
        rw [hfuH.out, if_neg this]; omega)
      go_wp2_with fail
      go_meet
      exact ⟨by rw [hm1.out], rfl⟩
  obtain ⟨rfl, rfl⟩ := hcut
  clear hb1 hfuH
  have hcm : m ≤ c0 := Nat.le_trans hml hcap
  have hhd := Lib.hid (fun wx (hx : Below w.heap.size w wx) => (show Calls Tryz.prog 36 #[.int .i64 ky, .slice a0 m c0, .int .i64 tm] wx (fun e w' => e = .returned (.tuple #[.string (bs (headOf ky (L.take m) tm).1), .agg #[.int .i64 ((headOf ky (L.take m) tm).2.1 : Nat), .int .i64 (headOf ky (L.take m) tm).2.2]]) ∧ Below wx.heap.size wx w') from headR_any ky _ (L.take m) tm wx (AtG.take (hvH.out wx (below_trans hw0H.out hx)) hml) (fun e he => hmH.out e (List.mem_of_mem_take he))))
  have hkS := Lib.hid (fun (wx : World) (hx : Below W.heap.size W wx) => (show Below W.heap.size W wx ∧ wx.cell? ⟨w.heap.size, 2, none⟩ = some (.int .i64 tm) ∧ wx.cell? ⟨w.heap.size, 3, none⟩ = some (.int .i64 ky) from ⟨hx, cell_below hx k2, cell_below hx k3⟩))
  have hS : Below W.heap.size W W := Below.refl _ _
  have hBW := Lib.hid (fun wx (hx : Below W.heap.size W wx) => below_trans hB0H.out hx)
  obtain ⟨H, hH⟩ : ∃ H, (headOf ky (L.take m) tm).1 = H := ⟨_, rfl⟩
  rw [hH] at hhd
  have hhu2 := hhuH.out
  rw [hH] at hhu2
  have hhuK := Lib.hid hhu2
  clear hhu2 hhuH
  generalize ((headOf ky (L.take m) tm).2.1 : Nat) = hc at *
  generalize (headOf ky (L.take m) tm).2.2 = ha at *
  generalize hci : ((hc : Nat) : Int) = hci at *
  clear hH hci
  go_upto_region 7 with fail
  go_cut [8, 9] from 32 to 42 (fun s8 _ wx => s8 = .string (bs H) ∧ Hid (Below W.heap.size W wx))
  case first =>
    have hF : True := trivial
    go_region_held3 (fun w' => Below W.heap.size W w' ∧ w'.cell? ⟨w.heap.size, 2, none⟩ = some (.int .i64 tm) ∧ w'.cell? ⟨w.heap.size, 3, none⟩ = some (.int .i64 ky))
      ((refine hkS.out _ ?_; (first | exact hS | exact below_set2 hS (by omega) _ _ | exact hS.drew | exact hS.alloc hS.size _ | exact (hS.alloc hS.size _).drew | exact hS.drew.alloc hS.drew.size _)))
      ((go_at_call 36; refine (hhd.out _ (hBW.out _ (by (first | exact hS | exact hS.drew | exact hS.alloc hS.size _ | exact (hS.alloc hS.size _).drew | exact hS.drew.alloc hS.drew.size _)))).mono ?_; rintro e w' ⟨rfl, hbx⟩; have hS : Below W.heap.size W w' := below_trans (by (first | exact hS | exact hS.drew | exact hS.alloc hS.size _ | exact (hS.alloc hS.size _).drew | exact hS.drew.alloc hS.drew.size _)) hbx; have hz : W.heap.size ≤ w'.heap.size := hS.size; (first | (have hF : w'.heap[_]? = some (Obj.cells #[Value.int .i64 0, Value.int .i64 0] 87 (0, 0)) := new_down hbx) | (have hF : w'.heap[_]? = some (Obj.cells #[Value.int .i64 0, Value.int .i64 0] 87 (0, 0)) := new_downD hbx) | skip); (first | (have hK2 := two_kept (Below.refl _ _) hF; (try simp only [World.size_alloc] at hK2); (try simp only [drew_heap] at hK2); obtain ⟨⟨r0, r1⟩, f0, f1⟩ := hK2) | skip)))
    all_goals
      go_wp2_with fail
      go_meet
      exact ⟨rfl, Lib.hid (And.left (by assumption : Below W.heap.size W _ ∧ _))⟩
  obtain ⟨rfl, hWc⟩ := hcut
  clear hS hkS k0 k1 k2 k3 hhd
  have k4 := cell_below hWc.out k4
  have hfin := Lib.hid (fun n => (show Below w.heap.size w (wc.drewN n) from below_drawn (hBW.out _ hWc.out) n))
  have hrow := Lib.hid (fun wx (hx : Below w0.heap.size w0 wx) => AtG.drop (n := f) (ents_cut (hvH.out wx hx) hml) (by rw [List.length_take]; omega))
  have htl : (L.take m).length = m := by rw [List.length_take]; omega
  rw [htl] at hrow
  have hEnd : ∃ av, Hid (∀ wx, Below w0.heap.size w0 wx → EntsAt wx av M) ∧ ((c0 = f ∧ m = f ∧ av = .slice a0 0 0) ∨ (¬ c0 = f ∧ av = .slice (Option.map (fun x => x.add (f * 4)) a0) (m - f) (c0 - f))) := by
    by_cases hcf : c0 = f
    · refine ⟨_, Lib.hid (fun wx hx => ?_), .inl ⟨hcf, by omega, rfl⟩⟩
      have h := hrow.out wx hx
      rw [if_pos hcf, show m - f = 0 by omega, show c0 - f = 0 by omega] at h
      rw [heuH.out]
      exact h
    · refine ⟨_, Lib.hid (fun wx hx => ?_), .inr ⟨hcf, rfl⟩⟩
      have h := hrow.out wx hx
      rw [if_neg hcf] at h
      rw [heuH.out]
      exact h
  clear hrow htl heuH
  obtain ⟨av, hav, hcs⟩ := hEnd
  have htx : tx = [] ∨ tx ≠ [] := Classical.em _
  rcases htx with htx | htx
  case' inl =>
    have hh0 := hhuK.out
    rw [if_pos htx] at hh0
    have hh := Lib.hid hh0
    clear hh0
    subst htx
    rw [show bs [] = (⟨#[]⟩ : ByteArray) from rfl] at k4
  case' inr =>
    have hh0 := hhuK.out
    rw [if_neg htx] at hh0
    have hh := Lib.hid hh0
    clear hh0
    have htx2 : ¬ (bs tx).toList = [] := by rw [toList_data, bs_list]; exact htx
    have htx3 : (!(bs tx).toList.isEmpty) = true := by rw [toList_data, bs_list]; cases tx with | nil => exact absurd rfl htx | cons => rfl
    have htx4 : ((bs tx).toList == []) = false := beq_eq_false_iff_ne.2 htx2
    clear htx
  all_goals
    clear hhuK
    rcases hcs with ⟨h1, h2, rfl⟩ | ⟨h1, rfl⟩
    · obtain rfl : m = f := h2
      obtain rfl : m = c0 := h1.symm
      clear hcap hfl hcm
      go_upto_region 10 with fail
      go_quiet (fail)
      go_wp2_with fail
      go_ret2
      exact ⟨NewsResF.mk hh.out rfl hav.out, hfin.out _⟩
    · go_upto_region 10 with fail
      go_quiet (fail)
      go_wp2_with fail
      go_ret2
      exact ⟨NewsResF.mk hh.out rfl hav.out, hfin.out _⟩
end Go.Proofs.YtadnjdchjoechaaGreatDoor

/- errors.As at *api.Fault, errors.Is at the sentinels, plain.Code: by contracts. -/
namespace Go.Proofs.YtadnjdchjoechaaGreatDoor
open Go.RowKit Go.Extern.Stop Go.Stop Go.Extern

/-! The numbers: the fault's pointer type 111, a pointer to such 131, error 32, reflectlite's rtype 213. -/
theorem rl_valueOfPP (t : Addr) (w : World) : (ReflectliteValue.unpack (.iface 131 (.pointer (some t)))).run Tryz.prog w
    = .ok (.agg #[.pointer (some ⟨25, 131, none⟩), .pointer (some ⟨w.heap.size, 0, none⟩), .int .u64 150]) (w.alloc (.cells #[.pointer (some t)] 131)) := by kernel_rfl
theorem rl_typePP (a : Addr) (w : World) : (ReflectliteValue.methodAny (ReflectliteValue.valueError "reflectlite.Value.Type" 0) (fun t _ _ _ => ReflectliteType.toType t) #[.agg #[.pointer (some ⟨25, 131, none⟩), .pointer (some a), .int .u64 150]]).run Tryz.prog w
    = .ok (.iface 213 (.agg #[.pointer (some ⟨25, 131, none⟩)])) w := by kernel_rfl
theorem rl_methodKind (h : Value) (w : World) : (Go.method 398 213 (.agg #[h]) "Kind").run Tryz.prog w = .ok (208, h) w := by kernel_rfl
theorem rl_kindPP (w : World) : ((ReflectliteType.abiMethod fun t => (fun a : Nat => Value.int IntKind.u8 (a : Int)) <$> Rtype.kind t) #[.pointer (some ⟨25, 131, none⟩)]).run Tryz.prog w = .ok (.int .u8 22) w := by kernel_rfl
theorem rl_kindP (w : World) : ((ReflectliteType.abiMethod fun t => (fun a : Nat => Value.int IntKind.u8 (a : Int)) <$> Rtype.kind t) #[.pointer (some ⟨25, 111, none⟩)]).run Tryz.prog w = .ok (.int .u8 22) w := by kernel_rfl
theorem rlm (z : Sem Value) (f : TypeId → Addr → Nat → Nat → Sem Value) (v : Value) :
    ReflectliteValue.method z f #[v] = (do match ← ReflectliteValue.parts v with | none => z | some (t, a, fl) => f t a fl (fl % 32)) := rfl
theorem rl_partsPP (a : Addr) (w : World) : (ReflectliteValue.parts (.agg #[.pointer (some ⟨25, 131, none⟩), .pointer (some a), .int .u64 150])).run Tryz.prog w = .ok (some (131, a, 150)) w := by kernel_rfl
theorem rl_isNilPP (a p : Addr) (W : World) (ha : W.cell? a = some (.pointer (some p))) :
    (ReflectliteValue.method (ReflectliteValue.valueError "reflectlite.Value.IsNil" 0) ReflectliteValue.isNil #[.agg #[.pointer (some ⟨25, 131, none⟩), .pointer (some a), .int .u64 150]]).run Tryz.prog W = .ok (.bool false) W := by
  rw [rlm]
  simp only [Sem.run_bind, rl_partsPP, Result.andThen]
  simp [ReflectliteValue.isNil, loadVar, isAgg, underlying, Tryz.underlying131, ha, Result.andThen]
theorem rl_methodElem (h : Value) (w : World) : (Go.method 398 213 (.agg #[h]) "Elem").run Tryz.prog w = .ok (223, .agg #[h]) w := by kernel_rfl
theorem rl_methodImplements (h : Value) (w : World) : (Go.method 398 213 (.agg #[h]) "Implements").run Tryz.prog w = .ok (224, .agg #[h]) w := by kernel_rfl
theorem rl_methodAssignableTo (h : Value) (w : World) : (Go.method 398 213 (.agg #[h]) "AssignableTo").run Tryz.prog w = .ok (221, .agg #[h]) w := by kernel_rfl
theorem rl_elemPP (w : World) : (ReflectliteType.method ReflectliteType.elem #[.agg #[.pointer (some ⟨25, 131, none⟩)]]).run Tryz.prog w = .ok (.iface 213 (.agg #[.pointer (some ⟨25, 111, none⟩)])) w := by kernel_rfl
theorem rl_implementsP (w : World) : (ReflectliteType.relation "Implements" ReflectliteType.implements_ #[.agg #[.pointer (some ⟨25, 111, none⟩)], .iface 213 (.agg #[.pointer (some ⟨25, 32, none⟩)])]).run Tryz.prog w = .ok (.bool true) w := by kernel_rfl
theorem rl_typeOfP (v : Value) (w : World) : (ReflectliteType.typeOf #[.iface 111 v]).run Tryz.prog w = .ok (.iface 213 (.agg #[.pointer (some ⟨25, 111, none⟩)])) w := by kernel_rfl
theorem rl_typeOfS (v : Value) (w : World) : (ReflectliteType.typeOf #[.iface 265 v]).run Tryz.prog w = .ok (.iface 213 (.agg #[.pointer (some ⟨25, 265, none⟩)])) w := by kernel_rfl
theorem rl_assignableP (w : World) : (ReflectliteType.relation "AssignableTo" ReflectliteType.assignableTo #[.agg #[.pointer (some ⟨25, 111, none⟩)], .iface 213 (.agg #[.pointer (some ⟨25, 111, none⟩)])]).run Tryz.prog w = .ok (.bool true) w := by kernel_rfl
theorem rl_assignableS (w : World) : (ReflectliteType.relation "AssignableTo" ReflectliteType.assignableTo #[.agg #[.pointer (some ⟨25, 265, none⟩)], .iface 213 (.agg #[.pointer (some ⟨25, 111, none⟩)])]).run Tryz.prog w = .ok (.bool false) w := by kernel_rfl
theorem rl_valueOfP (e : Addr) (w : World) : (ReflectliteValue.unpack (.iface 111 (.pointer (some e)))).run Tryz.prog w
    = .ok (.agg #[.pointer (some ⟨25, 111, none⟩), .pointer (some ⟨w.heap.size, 0, none⟩), .int .u64 150]) (w.alloc (.cells #[.pointer (some e)] 111)) := by kernel_rfl
theorem rl_elemOfPP (w : World) : (Rtype.elem? 131).run Tryz.prog w = .ok (some 111) w := by kernel_rfl
theorem rl_mkP (p : Addr) (w : World) : (ReflectliteValue.mk 111 p ReflectliteValue.flagAddr).run Tryz.prog w = .ok (.agg #[.pointer (some ⟨25, 111, none⟩), .pointer (some p), .int .u64 406]) w := by kernel_rfl
theorem rl_elemVPP (a p : Addr) (W : World) (ha : W.cell? a = some (.pointer (some p))) :
    (ReflectliteValue.method (ReflectliteValue.valueError "reflectlite.Value.Elem" 0) ReflectliteValue.elem #[.agg #[.pointer (some ⟨25, 131, none⟩), .pointer (some a), .int .u64 150]]).run Tryz.prog W
      = .ok (.agg #[.pointer (some ⟨25, 111, none⟩), .pointer (some p), .int .u64 406]) W := by
  rw [rlm]
  simp only [Sem.run_bind, rl_partsPP, Result.andThen]
  simp [ReflectliteValue.elem, loadVar, isAgg, underlying, Tryz.underlying131, ha, Result.andThen, rl_elemOfPP, rl_mkP]
theorem rls (v x : Value) : ReflectliteValue.set #[v, x] = (do
    let (some (dst, a, fl), some (src, b, _)) := (← ReflectliteValue.parts v, ← ReflectliteValue.parts x)
      | unsupported (.noEntry "extern/(internal/reflectlite.Value).Set.zeroValue")
    if fl / ReflectliteValue.flagAddr % 2 == 0 then unsupported (.noEntry "extern/(internal/reflectlite.Value).Set.unaddressable")
    let val ← loadVar src b
    if ← Rtype.directlyAssignable dst src then storeVar dst a val
    else if ← Rtype.implements dst src then
      if (← Rtype.kind src) == 20 then
        match val with
        | .nilIface => unsupported (.noEntry "extern/reflectlite: a nil value of one interface type handed on as a value of another")
        | _ => storeVar dst a val
      else storeVar dst a (.iface src val)
    else panicString ("reflectlite.Set: value of type " ++ (← Rtype.spelt src) ++ " is not assignable to type " ++ (← Rtype.spelt dst))
    pure (.tuple #[])) := rfl
theorem rl_partsPa (a : Addr) (w : World) : (ReflectliteValue.parts (.agg #[.pointer (some ⟨25, 111, none⟩), .pointer (some a), .int .u64 406])).run Tryz.prog w = .ok (some (111, a, 406)) w := by kernel_rfl
theorem rl_partsP (a : Addr) (w : World) : (ReflectliteValue.parts (.agg #[.pointer (some ⟨25, 111, none⟩), .pointer (some a), .int .u64 150])).run Tryz.prog w = .ok (some (111, a, 150)) w := by kernel_rfl
theorem rl_direct (w : World) : (Rtype.directlyAssignable 111 111).run Tryz.prog w = .ok true w := by kernel_rfl
theorem rl_setP (ta b e : Addr) (old : Value) (W : World) (hb : W.cell? b = some (.pointer (some e))) (ht : W.cell? ta = some old) (hf : W.frozen? ta = false) :
    (ReflectliteValue.set #[.agg #[.pointer (some ⟨25, 111, none⟩), .pointer (some ta), .int .u64 406], .agg #[.pointer (some ⟨25, 111, none⟩), .pointer (some b), .int .u64 150]]).run Tryz.prog W
      = .ok (.tuple #[]) (W.setCell ta (.pointer (some e))) := by
  rw [rls]
  simp only [Sem.run_bind, rl_partsPa, rl_partsP, Result.andThen]
  simp [ReflectliteValue.flagAddr, loadVar, isAgg, underlying, Tryz.underlying111, hb, Result.andThen, rl_direct, storeVar, Value.cells, storeCells, Addr.add]
  rw [run_store Tryz.prog W ta _ _ (by rfl)]
  simp [ht, hf]
theorem rl_noAsS (v : Value) (xT : TypeId) (w : World) : (Instr.typeAssert (.iface 265 v) xT 217 true).run Tryz.prog w = .ok (.tuple #[.nilIface, .bool false]) w := run_typeAssert_lacksB Tryz.underlying217 (by kernel_rfl) (by kernel_rfl) v xT w
theorem rl_noUnwrapS (v : Value) (xT : TypeId) (w : World) : (Instr.typeAssert (.iface 265 v) xT 220 true).run Tryz.prog w = .ok (.tuple #[.nilIface, .bool false]) w := run_typeAssert_lacksB Tryz.underlying220 (by kernel_rfl) (by kernel_rfl) v xT w
theorem rl_noUnwrapsS (v : Value) (xT : TypeId) (w : World) : (Instr.typeAssert (.iface 265 v) xT 222 true).run Tryz.prog w = .ok (.tuple #[.nilIface, .bool false]) w := run_typeAssert_lacksB Tryz.underlying222 (by kernel_rfl) (by kernel_rfl) v xT w
theorem rl_noIsS (v : Value) (xT : TypeId) (w : World) : (Instr.typeAssert (.iface 265 v) xT 224 true).run Tryz.prog w = .ok (.tuple #[.nilIface, .bool false]) w := run_typeAssert_lacksB Tryz.underlying224 (by kernel_rfl) (by kernel_rfl) v xT w
theorem rl_noIsF (v : Value) (xT : TypeId) (w : World) : (Instr.typeAssert (.iface 111 v) xT 224 true).run Tryz.prog w = .ok (.tuple #[.nilIface, .bool false]) w := run_typeAssert_lacksB Tryz.underlying224 (by kernel_rfl) (by kernel_rfl) v xT w
theorem rl_hasUnwrapF (v : Value) (xT : TypeId) (w : World) : (Instr.typeAssert (.iface 111 v) xT 220 true).run Tryz.prog w = .ok (.tuple #[.iface 111 v, .bool true]) w := run_typeAssert_hasB Tryz.underlying220 (by kernel_rfl) v xT w
theorem rl_methodUnwrap (v : Value) (w : World) : (Go.method 398 111 v "Unwrap").run Tryz.prog w = .ok (215, v) w := by kernel_rfl
theorem rl_isMethodComparable (v : Value) (w : World) : (Go.method 398 213 v "Comparable").run Tryz.prog w = .ok (222, v) w := by kernel_rfl
theorem rl_isComp : (Tryz.prog.info? 265).map (·.comparable) = some true := by kernel_rfl
theorem rl_isSize : (Tryz.prog.info? 267).map (·.size) = some 1 := by kernel_rfl

end Go.Proofs.YtadnjdchjoechaaGreatDoor

/- errors.As at *api.Fault and errors.Is at the sentinels, walked through Go's own text. -/
namespace Go.Proofs.YtadnjdchjoechaaGreatDoor
open Go.RowKit Go.Extern.Stop Go.Stop Go.Extern

set_option maxHeartbeats 4000000 in
theorem as_hit (e t : Addr) (old : Value) (w : World) (hg : w.cell? ⟨16, 0, none⟩ = some (.iface 213 (.agg #[.pointer (some ⟨25, 32, none⟩)]))) (ht0 : w.cell? t = some old) (hf0 : w.frozen? t = false) :
    Calls Tryz.prog 74 #[.iface 111 (.pointer (some e)), .iface 131 (.pointer (some t))] w fun ev w' => ev = .returned (.bool true) ∧ w' = ((((w.alloc (.cells #[.pointer (some t)] 131)).alloc (.cells #[.pointer (some ⟨25, 131, none⟩), .pointer (some ⟨w.heap.size, 0, none⟩), .int .u64 150] 174)).alloc (.cells #[.pointer (some ⟨25, 131, none⟩), .pointer (some ⟨w.heap.size, 0, none⟩), .int .u64 150] 174)).alloc (.cells #[.pointer (some e)] 111)).setCell t (.pointer (some e)) := by
  have h6 := @run_callFunc_extern Tryz.prog 109 _ (fun args => ReflectliteValue.unpack (args.getD 0 (.tuple #[]))) Tryz.func109 (by kernel_rfl) (by kernel_rfl) (by kernel_rfl) (by kernel_rfl)
  have h7 := @run_callFunc_extern Tryz.prog 110 _ (ReflectliteValue.methodAny (ReflectliteValue.valueError "reflectlite.Value.Type" 0) (fun t _ _ _ => ReflectliteType.toType t)) Tryz.func110 (by kernel_rfl) (by kernel_rfl) (by kernel_rfl) (by kernel_rfl)
  have h8 := @run_callFunc_extern Tryz.prog 111 _ (ReflectliteValue.method (ReflectliteValue.valueError "reflectlite.Value.IsNil" 0) ReflectliteValue.isNil) Tryz.func111 (by kernel_rfl) (by kernel_rfl) (by kernel_rfl) (by kernel_rfl)
  have h27 := @run_callFunc_extern Tryz.prog 208 _ (ReflectliteType.abiMethod fun t => do pure (.int .u8 (← Rtype.kind t))) Tryz.func208 (by kernel_rfl) (by kernel_rfl) (by kernel_rfl) (by kernel_rfl)
  have h37 := @run_callFunc_extern Tryz.prog 223 _ (ReflectliteType.method ReflectliteType.elem) Tryz.func223 (by kernel_rfl) (by kernel_rfl) (by kernel_rfl) (by kernel_rfl)
  have h38 := @run_callFunc_extern Tryz.prog 224 _ (ReflectliteType.relation "Implements" ReflectliteType.implements_) Tryz.func224 (by kernel_rfl) (by kernel_rfl) (by kernel_rfl) (by kernel_rfl)
  have h10 := @run_callFunc_extern Tryz.prog 113 _ ReflectliteType.typeOf Tryz.func113 (by kernel_rfl) (by kernel_rfl) (by kernel_rfl) (by kernel_rfl)
  have h35 := @run_callFunc_extern Tryz.prog 221 _ (ReflectliteType.relation "AssignableTo" ReflectliteType.assignableTo) Tryz.func221 (by kernel_rfl) (by kernel_rfl) (by kernel_rfl) (by kernel_rfl)
  have h11 := @run_callFunc_extern Tryz.prog 145 _ (ReflectliteValue.method (ReflectliteValue.valueError "reflectlite.Value.Elem" 0) ReflectliteValue.elem) Tryz.func145 (by kernel_rfl) (by kernel_rfl) (by kernel_rfl) (by kernel_rfl)
  have h12 := @run_callFunc_extern Tryz.prog 146 _ ReflectliteValue.set Tryz.func146 (by kernel_rfl) (by kernel_rfl) (by kernel_rfl) (by kernel_rfl)
  have tO := rl_typeOfP
  have mA := rl_methodAssignableTo
  have a25 := rl_assignableP
  have v25 := rl_valueOfP
  have f6 := rl_valueOfPP
  have f7 := rl_typePP
  have mK := rl_methodKind
  have mE := rl_methodElem
  have mI := rl_methodImplements
  have k27 := rl_kindPP
  have k25 := rl_kindP
  have e27 := rl_elemPP
  have i25 := rl_implementsP
  have hlt : 16 < w.heap.size := World.block_lt_of_cell? w ⟨16, 0, none⟩ hg
  have hg2 : ((w.alloc (.cells #[.pointer (some t)] 131)).alloc (.cells #[.pointer (some ⟨25, 131, none⟩), .pointer (some ⟨w.heap.size, 0, none⟩), .int .u64 150] 174)).cell? ⟨16, 0, none⟩ = some (.iface 213 (.agg #[.pointer (some ⟨25, 32, none⟩)])) := by
    rw [World.cell?_alloc_lt _ _ ⟨16, 0, none⟩ (by simp; omega), World.cell?_alloc_lt _ _ ⟨16, 0, none⟩ hlt]; exact hg
  have n8 := rl_isNilPP ⟨w.heap.size, 0, none⟩ t ((w.alloc (.cells #[.pointer (some t)] 131)).alloc (.cells #[.pointer (some ⟨25, 131, none⟩), .pointer (some ⟨w.heap.size, 0, none⟩), .int .u64 150] 174)) (by simp)
  have htl : t.block < w.heap.size := World.block_lt_of_cell? w t ht0
  have el := rl_elemVPP ⟨w.heap.size, 0, none⟩ t (((w.alloc (.cells #[.pointer (some t)] 131)).alloc (.cells #[.pointer (some ⟨25, 131, none⟩), .pointer (some ⟨w.heap.size, 0, none⟩), .int .u64 150] 174)).alloc (.cells #[.pointer (some ⟨25, 131, none⟩), .pointer (some ⟨w.heap.size, 0, none⟩), .int .u64 150] 174)) (by rw [World.cell?_alloc_lt _ _ ⟨w.heap.size, 0, none⟩ (by simp; omega)]; simp)
  have st := rl_setP t ⟨w.heap.size + 1 + 1 + 1, 0, none⟩ e old ((((w.alloc (.cells #[.pointer (some t)] 131)).alloc (.cells #[.pointer (some ⟨25, 131, none⟩), .pointer (some ⟨w.heap.size, 0, none⟩), .int .u64 150] 174)).alloc (.cells #[.pointer (some ⟨25, 131, none⟩), .pointer (some ⟨w.heap.size, 0, none⟩), .int .u64 150] 174)).alloc (.cells #[.pointer (some e)] 111))
    (by rw [World.cell?_alloc_at _ _ _ _ (by simp)]; rfl)
    (by rw [World.cell?_alloc_lt _ _ t (by simp; omega), World.cell?_alloc_lt _ _ t (by simp; omega), World.cell?_alloc_lt _ _ t (by simp; omega), World.cell?_alloc_lt _ _ t htl]; exact ht0)
    (by rw [World.frozen?_alloc_old _ _ t (by simp; omega), World.frozen?_alloc_old _ _ t (by simp; omega), World.frozen?_alloc_old _ _ t (by simp; omega), World.frozen?_alloc_old _ _ t (Nat.ne_of_lt htl)]; exact hf0)
  go_enter Tryz.func74, Tryz.ntmps74
  go_wp2
  refine wp_loop_rounds 1 ?_
  rw [rounds_succ]
  go_wp2
  go_ret
  exact ⟨rfl, rfl⟩

set_option maxHeartbeats 4000000 in
theorem as_miss (e t : Addr) (w : World) (hg : w.cell? ⟨16, 0, none⟩ = some (.iface 213 (.agg #[.pointer (some ⟨25, 32, none⟩)]))) :
    Calls Tryz.prog 74 #[.iface 265 (.pointer (some e)), .iface 131 (.pointer (some t))] w fun ev w' => ev = .returned (.bool false) ∧ w' = (((w.alloc (.cells #[.pointer (some t)] 131)).alloc (.cells #[.pointer (some ⟨25, 131, none⟩), .pointer (some ⟨w.heap.size, 0, none⟩), .int .u64 150] 174)).alloc (.cells #[.pointer (some ⟨25, 131, none⟩), .pointer (some ⟨w.heap.size, 0, none⟩), .int .u64 150] 174)) := by
  have h6 := @run_callFunc_extern Tryz.prog 109 _ (fun args => ReflectliteValue.unpack (args.getD 0 (.tuple #[]))) Tryz.func109 (by kernel_rfl) (by kernel_rfl) (by kernel_rfl) (by kernel_rfl)
  have h7 := @run_callFunc_extern Tryz.prog 110 _ (ReflectliteValue.methodAny (ReflectliteValue.valueError "reflectlite.Value.Type" 0) (fun t _ _ _ => ReflectliteType.toType t)) Tryz.func110 (by kernel_rfl) (by kernel_rfl) (by kernel_rfl) (by kernel_rfl)
  have h8 := @run_callFunc_extern Tryz.prog 111 _ (ReflectliteValue.method (ReflectliteValue.valueError "reflectlite.Value.IsNil" 0) ReflectliteValue.isNil) Tryz.func111 (by kernel_rfl) (by kernel_rfl) (by kernel_rfl) (by kernel_rfl)
  have h27 := @run_callFunc_extern Tryz.prog 208 _ (ReflectliteType.abiMethod fun t => do pure (.int .u8 (← Rtype.kind t))) Tryz.func208 (by kernel_rfl) (by kernel_rfl) (by kernel_rfl) (by kernel_rfl)
  have h37 := @run_callFunc_extern Tryz.prog 223 _ (ReflectliteType.method ReflectliteType.elem) Tryz.func223 (by kernel_rfl) (by kernel_rfl) (by kernel_rfl) (by kernel_rfl)
  have h38 := @run_callFunc_extern Tryz.prog 224 _ (ReflectliteType.relation "Implements" ReflectliteType.implements_) Tryz.func224 (by kernel_rfl) (by kernel_rfl) (by kernel_rfl) (by kernel_rfl)
  have h10 := @run_callFunc_extern Tryz.prog 113 _ ReflectliteType.typeOf Tryz.func113 (by kernel_rfl) (by kernel_rfl) (by kernel_rfl) (by kernel_rfl)
  have h35 := @run_callFunc_extern Tryz.prog 221 _ (ReflectliteType.relation "AssignableTo" ReflectliteType.assignableTo) Tryz.func221 (by kernel_rfl) (by kernel_rfl) (by kernel_rfl) (by kernel_rfl)
  have h11 := @run_callFunc_extern Tryz.prog 145 _ (ReflectliteValue.method (ReflectliteValue.valueError "reflectlite.Value.Elem" 0) ReflectliteValue.elem) Tryz.func145 (by kernel_rfl) (by kernel_rfl) (by kernel_rfl) (by kernel_rfl)
  have h12 := @run_callFunc_extern Tryz.prog 146 _ ReflectliteValue.set Tryz.func146 (by kernel_rfl) (by kernel_rfl) (by kernel_rfl) (by kernel_rfl)
  have tO := rl_typeOfS
  have mA := rl_methodAssignableTo
  have a25 := rl_assignableS
  have v25 := rl_valueOfP
  have f6 := rl_valueOfPP
  have f7 := rl_typePP
  have mK := rl_methodKind
  have mE := rl_methodElem
  have mI := rl_methodImplements
  have k27 := rl_kindPP
  have k25 := rl_kindP
  have e27 := rl_elemPP
  have i25 := rl_implementsP
  have hlt : 16 < w.heap.size := World.block_lt_of_cell? w ⟨16, 0, none⟩ hg
  have hg2 : ((w.alloc (.cells #[.pointer (some t)] 131)).alloc (.cells #[.pointer (some ⟨25, 131, none⟩), .pointer (some ⟨w.heap.size, 0, none⟩), .int .u64 150] 174)).cell? ⟨16, 0, none⟩ = some (.iface 213 (.agg #[.pointer (some ⟨25, 32, none⟩)])) := by
    rw [World.cell?_alloc_lt _ _ ⟨16, 0, none⟩ (by simp; omega), World.cell?_alloc_lt _ _ ⟨16, 0, none⟩ hlt]; exact hg
  have n8 := rl_isNilPP ⟨w.heap.size, 0, none⟩ t ((w.alloc (.cells #[.pointer (some t)] 131)).alloc (.cells #[.pointer (some ⟨25, 131, none⟩), .pointer (some ⟨w.heap.size, 0, none⟩), .int .u64 150] 174)) (by simp)
  have nA := rl_noAsS
  have nU := rl_noUnwrapS
  have nV := rl_noUnwrapsS
  go_enter Tryz.func74, Tryz.ntmps74
  go_wp2
  refine wp_loop_rounds 1 ?_
  rw [rounds_succ]
  go_wp2
  go_ret
  exact ⟨rfl, rfl⟩

end Go.Proofs.YtadnjdchjoechaaGreatDoor
