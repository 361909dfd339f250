/- Asked -/
import Derived.Test.YtkhphdkjnpcnnaaGreatDoorMg42
import Derived.Test.YtkhphdkjnpcnnaaGreatDoorMg19
import Derived.Test.YtkhphdkjnpcnnaaGreatDoorMg43
import Derived.Test.YtkhphdkjnpcnnaaGreatDoorMg8
/- The law's helper asked: walked. -/
namespace Go.Proofs.YtkhphdkjnpcnnaaGreatDoor
open Go.RowKit

theorem ask_ty : ¬ RTy 36 := by decide
theorem ret_arm {am : List UInt8 × Rlm} {x : List UInt8} {R1 : Rlm} (h : am = (x, R1)) : Ending.returned (.tuple #[.string (bs x), .bool true]) = .returned (.tuple #[.string (bs am.1), .bool true]) := by rw [h]
set_option maxHeartbeats 16000000 in
set_option maxRecDepth 100000 in
theorem asked_any {E : Nat → Addr} {base a m : Nat} {R : Rlm} (q : AskV) (la : List UInt8) (w : World) (hL : ∀ wx, Below base w wx → LaidF E wx) (hR : MidR base a m R R w) (hG : GoodM R) (hqq : ¬ badAsk q) (hla : la.length ≤ 1000) :
    Calls Tryz.prog 10 #[.pointer (some ⟨a, 0, none⟩), .pointer (some ⟨m, 0, none⟩), .agg #[.string (bs q.kind), .string (bs q.a), .string (bs q.b), .string (bs q.s), .int .i64 q.n, .bool q.is], .string (bs la)] w fun e w' => e = .returned (.tuple #[.string (bs (askM R q la).1), .bool true]) ∧ MidR base a m (askM R q la).2 (askM R q la).2 w' ∧ Ok base w w' := by
  have hLw := Lib.hid hL
  have hna := Lib.hid (show q.a.length ≤ maxLen by unfold badAsk at hqq; unfold maxLen; omega)
  have hna1 := Lib.hid (show q.a.length ≤ 1000 by unfold badAsk at hqq; omega)
  have hnb1 := Lib.hid (show q.b.length ≤ 1000 by unfold badAsk at hqq; omega)
  have hns1 := Lib.hid (show q.s.length ≤ 1000 by unfold badAsk at hqq; omega)
  obtain ⟨qk, qa, qb, qs, qn, qi⟩ := q
  dsimp only at *
  have hB0 : Below w.heap.size w (w.alloc (.cells #[.string (bs qk), .string (bs qa), .string (bs qb), .string (bs qs), .int .i64 qn, .bool qi] 36)) := (Below.refl _ _).alloc (Nat.le_refl _) _
  have hbx := heap_alloc_new w (.cells #[.string (bs qk), .string (bs qa), .string (bs qb), .string (bs qs), .int .i64 qn, .bool qi] 36)
  have hM0 := Lib.hid (hR.below hB0)
  have hO0 := Lib.hid (Ok.of_below hR.hb hB0)
  clear hB0 hR hqq hL
  obtain ⟨am, ham⟩ : ∃ am, am = askM R ⟨qk, qa, qb, qs, qn, qi⟩ la := ⟨_, rfl⟩
  rw [← ham]
  go_enter Tryz.func10, Tryz.ntmps10
  go_upto_region 1 with fail
  generalize hxb : w.heap.size = xb at *
  generalize w.alloc (.cells #[.string (bs qk), .string (bs qa), .string (bs qb), .string (bs qs), .int .i64 qn, .bool qi] 36) = W at *
  have hx0 := Lib.hid hbx
  clear hbx
  obtain ⟨x0, x1, x2, x3, x4, x5⟩ := (six_of hx0.out).1
  by_cases k0 : qk = kAdd
  case pos =>
    have hq := Lib.hid (show am = ([], (addM R qa qn).2) by rw [ham]; unfold askM; dsimp only; rw [if_pos k0])
    clear ham
    have e0 : ((bs qk).toList == [97, 100, 100]) = true := by rw [toList_data, bs_list, k0]; rfl
    clear k0
    have hcl := (hG.add qa qn).2
    have hp := Lib.hid (fun wx (hM : MidR base a m R R wx) (hx : Below base w wx) => hM.addP (hLw.out wx hx).s hG qa qn hna.out)
    have hr := Lib.hid (fun R1 wx (hM : MidR base a m R1 R wx) => hM.addR hG qa qn hna.out)
    have hSA := Lib.hid (fun (wx : World) (h : wx.heap[xb]? = some (.cells #[.string (bs qk), .string (bs qa), .string (bs qb), .string (bs qs), .int .i64 qn, .bool qi] 36 (0, 0))) => (show wx.cell? ⟨xb, 1, none⟩ = some (.string (bs qa)) ∧ wx.cell? ⟨xb, 4, none⟩ = some (.int .i64 qn) from ⟨(six_of h).1.2.1, (six_of h).1.2.2.2.2.1⟩))
    generalize addM R qa qn = lm at *
    obtain ⟨lc, R1⟩ := lm
    dsimp only at *
    have hx1 := Lib.hid (show W.drew.heap[xb]? = some (.cells #[.string (bs qk), .string (bs qa), .string (bs qb), .string (bs qs), .int .i64 qn, .bool qi] 36 (0, 0)) from hx0.out)
    have hM1 := Lib.hid (hM0.out.below ((Below.refl _ _).drew))
    have hO1 := Lib.hid (hO0.out.trans (Ok.of_below hM0.out.hb ((Below.refl _ _).drew)))
    go_upto_region 3 with fail
    clear x0 x1 x2 x3 x4 x5
    refine wp_region_noPanic ?_
    refine wp_region_held_drew (S := fun wx => wx.cell? ⟨xb, 1, none⟩ = some (.string (bs qa)) ∧ wx.cell? ⟨xb, 4, none⟩ = some (.int .i64 qn)) (by kernel_rfl) ?_ (fun hHeld => ?_)
    · exact hSA.out _ hx1.out
    refine' held_take (i := 0) (d := some 44) (v := _) rfl rfl (by kernel_rfl) (by kernel_rfl) (by kernel_rfl) (fun _ _ _ h => h) rfl (by assumption) ?hy_1 ?re_1
    case hy_1 =>
      intro w hSw
      try dsimp only at hSw
      go_simp
      try with_reducible rfl
    simp only [Act.put, List.setIfInBounds_toArray, List.set_cons_zero, List.set_cons_succ]
    refine' held_take (i := 1) (d := some 45) (v := _) rfl rfl (by kernel_rfl) (by kernel_rfl) (by kernel_rfl) (fun _ _ _ h => h) rfl (by assumption) ?hy_2 ?re_2
    case hy_2 =>
      intro w hSw
      try dsimp only at hSw
      go_simp
      try with_reducible rfl
    simp only [Act.put, List.setIfInBounds_toArray, List.set_cons_zero, List.set_cons_succ]
    refine' held_take (i := 2) (d := some 46) (v := _) rfl rfl (by kernel_rfl) (by kernel_rfl) (by kernel_rfl) (fun _ _ _ h => h) rfl (by assumption) ?hy_3 ?re_3
    case hy_3 =>
      intro w hSw
      try dsimp only at hSw
      go_simp
      try with_reducible rfl
    simp only [Act.put, List.setIfInBounds_toArray, List.set_cons_zero, List.set_cons_succ]
    refine' held_take (i := 3) (d := some 47) (v := _) rfl rfl (by kernel_rfl) (by kernel_rfl) (by kernel_rfl) (fun _ _ _ h => h) rfl (by assumption) ?hy_4 ?re_4
    case hy_4 =>
      intro w hSw
      try dsimp only at hSw
      go_simp
      try with_reducible rfl
    simp only [Act.put, List.setIfInBounds_toArray, List.set_cons_zero, List.set_cons_succ]
    refine' held_take (i := 4) (d := some 48) (v := _) rfl rfl (by kernel_rfl) (by kernel_rfl) (by kernel_rfl) (fun _ _ _ h => h) rfl (by assumption) ?hy_5 ?re_5
    case hy_5 =>
      intro w hSw
      try dsimp only at hSw
      go_simp
      try with_reducible rfl
    simp only [Act.put, List.setIfInBounds_toArray, List.set_cons_zero, List.set_cons_succ]
    refine' held_take (i := 6) (d := some 50) (v := _) rfl rfl (by kernel_rfl) (by kernel_rfl) (by kernel_rfl) (fun _ _ _ h => h) rfl (by assumption) ?hy_6 ?re_6
    case hy_6 =>
      intro w hSw
      try dsimp only at hSw
      go_simp
      try with_reducible rfl
    simp only [Act.put, List.setIfInBounds_toArray, List.set_cons_zero, List.set_cons_succ]
    refine' held_take (i := 7) (d := some 51) (v := _) rfl rfl (by kernel_rfl) (by kernel_rfl) (by kernel_rfl) (fun _ _ _ h => h) rfl (by assumption) ?hy_7 ?re_7
    case hy_7 =>
      intro w hSw
      try dsimp only at hSw
      go_simp
      try with_reducible rfl
    simp only [Act.put, List.setIfInBounds_toArray, List.set_cons_zero, List.set_cons_succ]
    refine' held_take (i := 8) (d := some 52) (v := _) rfl rfl (by kernel_rfl) (by kernel_rfl) (by kernel_rfl) (fun _ _ _ h => h) rfl (by assumption) ?hy_8 ?re_8
    case hy_8 =>
      intro w hSw
      try dsimp only at hSw
      go_simp
      try with_reducible rfl
    simp only [Act.put, List.setIfInBounds_toArray, List.set_cons_zero, List.set_cons_succ]
    refine' held_take (i := 9) (d := some 53) (v := _) rfl rfl (by kernel_rfl) (by kernel_rfl) (by kernel_rfl) (fun _ _ _ h => h) rfl (by assumption) ?hy_9 ?re_9
    case hy_9 =>
      intro w hSw
      try dsimp only at hSw
      go_simp
      try with_reducible rfl
    simp only [Act.put, List.setIfInBounds_toArray, List.set_cons_zero, List.set_cons_succ]
    refine' held_take (i := 10) (d := some 54) (v := _) rfl rfl (by kernel_rfl) (by kernel_rfl) (by kernel_rfl) (fun _ _ _ h => h) rfl (by assumption) ?hy_10 ?re_10
    case hy_10 =>
      intro w hSw
      try dsimp only at hSw
      go_simp
      try with_reducible rfl
    simp only [Act.put, List.setIfInBounds_toArray, List.set_cons_zero, List.set_cons_succ]
    refine wpAnyH_ready (rs := [5]) (by kernel_rfl) (by simp) ?_
    refine AllReadyH.cons rfl (fun K hK => ?_) AllReadyH.nil
    go_simp
    refine (hp.out _ hM1.out hO1.out.below).mono ?_
    rintro e w2 ⟨rfl, hM, hO⟩
    have hO2 := Lib.hid (hO1.out.trans hO)
    have hM2 := Lib.hid hM
    have hx2 := Lib.hid (hO.kept _ _ _ _ hx1.out ask_ty)
    clear hO
    go_wp2_with fail
    refine hK.out _ _ ?_ (fun hHeld => ?_)
    · exact hSA.out _ hx2.out
    clear hK K
    try simp only [Act.put, List.setIfInBounds_toArray, List.set_cons_zero, List.set_cons_succ]
    refine wpAnyH_ready (rs := [11]) (by kernel_rfl) (by simp) ?_
    refine AllReadyH.cons rfl (fun K hK => ?_) AllReadyH.nil
    go_simp
    refine (hr.out _ _ hM2.out).mono ?_
    rintro e w3 ⟨rfl, hM, hO⟩
    have hO3 := Lib.hid (hO2.out.trans hO)
    have hM3 := Lib.hid hM
    have hx3 := Lib.hid (hO.kept _ _ _ _ hx2.out ask_ty)
    clear hO
    go_wp2_with fail
    refine hK.out _ _ ?_ (fun hHeld => ?_)
    · exact hSA.out _ hx3.out
    clear hK K
    try simp only [Act.put, List.setIfInBounds_toArray, List.set_cons_zero, List.set_cons_succ]
    refine wpAnyH_ready (rs := [12]) (by kernel_rfl) (by simp) ?_
    refine AllReadyH.cons rfl (fun K hK => ?_) AllReadyH.nil
    go_simp
    refine (coded_same lc _ (hLw.out _ hO3.out.below).r hcl).mono ?_
    rintro e w4 ⟨rfl, hb⟩
    have hO4 := Lib.hid (hO3.out.trans (Ok.of_below hM3.out.hb hb))
    have hM4 := Lib.hid (hM3.out.below hb)
    have hx4 := Lib.hid (heap_down hb hx3.out)
    clear hb
    go_wp2_with fail
    refine hK.out _ _ ?_ (fun hHeld => ?_)
    · exact hSA.out _ hx4.out
    clear hK K
    try simp only [Act.put, List.setIfInBounds_toArray, List.set_cons_zero, List.set_cons_succ]
    refine' held_take (i := 13) (d := some 8) (v := _) rfl rfl (by kernel_rfl) (by kernel_rfl) (by kernel_rfl) (fun _ _ _ h => h) rfl (by assumption) ?hy_11 ?re_11
    case hy_11 =>
      intro w hSw
      try dsimp only at hSw
      go_simp
      try with_reducible rfl
    simp only [Act.put, List.setIfInBounds_toArray, List.set_cons_zero, List.set_cons_succ]
    refine' held_take (i := 14) (d := some 9) (v := _) rfl rfl (by kernel_rfl) (by kernel_rfl) (by kernel_rfl) (fun _ _ _ h => h) rfl (by assumption) ?hy_12 ?re_12
    case hy_12 =>
      intro w hSw
      try dsimp only at hSw
      go_simp
      try with_reducible rfl
    simp only [Act.put, List.setIfInBounds_toArray, List.set_cons_zero, List.set_cons_succ]
    refine wpAnyH_done (by kernel_rfl) ?_ _
    refine NoPanic.normal ?_
    go_wp2_with fail
    go_ret2
    exact ⟨ret_arm hq.out, by rw [hq.out]; exact hM4.out, hO4.out⟩
  have e0 : ((bs qk).toList == [97, 100, 100]) = false := by rw [toList_data, bs_list, beq_eq_false_iff_ne]; exact k0
  by_cases k1 : qk = kOff
  case pos =>
    have hq := Lib.hid (show am = ([], (offM R qa qi).2) by rw [ham]; unfold askM; dsimp only; rw [if_neg k0]; rw [if_pos k1])
    clear ham
    have e1 : ((bs qk).toList == [111, 102, 102]) = true := by rw [toList_data, bs_list, k1]; rfl
    clear k0 k1
    have hcl := (hG.off qa qi).2
    have hp := Lib.hid (fun b' wx (hM : MidR base a m R R wx) (hm : RRlmAt wx base m b' R) (hx : Below base w wx) => hM.offP2 hm (hLw.out wx hx).s.laid qa qi)
    have hr := Lib.hid (fun R1 b' wx (hM : MidR base a m R1 R wx) (hm : RRlmAt wx base m b' R) => hM.offR hm hG qa qi)
    have hx1 := Lib.hid (show W.drew.heap[xb]? = some (.cells #[.string (bs qk), .string (bs qa), .string (bs qb), .string (bs qs), .int .i64 qn, .bool qi] 36 (0, 0)) from hx0.out)
    have hM1 := Lib.hid (hM0.out.below ((Below.refl _ _).drew))
    have hO1 := Lib.hid (hO0.out.trans (Ok.of_below hM0.out.hb ((Below.refl _ _).drew)))
    obtain ⟨b', hm1⟩ := hM1.out.m
    have hSA := Lib.hid (fun (wx : World) (R' : Rlm) (h : wx.heap[xb]? = some (.cells #[.string (bs qk), .string (bs qa), .string (bs qb), .string (bs qs), .int .i64 qn, .bool qi] 36 (0, 0))) (hm : RRlmAt wx base m b' R') => (show wx.cell? ⟨xb, 1, none⟩ = some (.string (bs qa)) ∧ wx.cell? ⟨xb, 5, none⟩ = some (.bool qi) ∧ wx.cell? ⟨m, 4, none⟩ = some (.pointer (some ⟨b', 0, none⟩)) from ⟨(six_of h).1.2.1, (six_of h).1.2.2.2.2.2, by obtain ⟨_, _, h, _⟩ := hm.cells; exact h.2.2.2.2.1⟩))
    have hm1 := Lib.hid hm1
    generalize offM R qa qi = lm at *
    obtain ⟨lc, R1⟩ := lm
    dsimp only at *
    go_upto_region 5 with fail
    clear x0 x1 x2 x3 x4 x5
    refine wp_region_noPanic ?_
    refine wp_region_held_drew (S := fun wx => wx.cell? ⟨xb, 1, none⟩ = some (.string (bs qa)) ∧ wx.cell? ⟨xb, 5, none⟩ = some (.bool qi) ∧ wx.cell? ⟨m, 4, none⟩ = some (.pointer (some ⟨b', 0, none⟩))) (by kernel_rfl) ?_ (fun hHeld => ?_)
    · exact hSA.out _ _ hx1.out hm1.out
    refine' held_take (i := 0) (d := some 59) (v := _) rfl rfl (by kernel_rfl) (by kernel_rfl) (by kernel_rfl) (fun _ _ _ h => h) rfl (by assumption) ?hy_13 ?re_13
    case hy_13 =>
      intro w hSw
      try dsimp only at hSw
      go_simp
      try with_reducible rfl
    simp only [Act.put, List.setIfInBounds_toArray, List.set_cons_zero, List.set_cons_succ]
    refine' held_take (i := 1) (d := some 60) (v := _) rfl rfl (by kernel_rfl) (by kernel_rfl) (by kernel_rfl) (fun _ _ _ h => h) rfl (by assumption) ?hy_14 ?re_14
    case hy_14 =>
      intro w hSw
      try dsimp only at hSw
      go_simp
      try with_reducible rfl
    simp only [Act.put, List.setIfInBounds_toArray, List.set_cons_zero, List.set_cons_succ]
    refine' held_take (i := 2) (d := some 61) (v := _) rfl rfl (by kernel_rfl) (by kernel_rfl) (by kernel_rfl) (fun _ _ _ h => h) rfl (by assumption) ?hy_15 ?re_15
    case hy_15 =>
      intro w hSw
      try dsimp only at hSw
      go_simp
      try with_reducible rfl
    simp only [Act.put, List.setIfInBounds_toArray, List.set_cons_zero, List.set_cons_succ]
    refine' held_take (i := 3) (d := some 62) (v := _) rfl rfl (by kernel_rfl) (by kernel_rfl) (by kernel_rfl) (fun _ _ _ h => h) rfl (by assumption) ?hy_16 ?re_16
    case hy_16 =>
      intro w hSw
      try dsimp only at hSw
      go_simp
      try with_reducible rfl
    simp only [Act.put, List.setIfInBounds_toArray, List.set_cons_zero, List.set_cons_succ]
    refine' held_take (i := 4) (d := some 63) (v := _) rfl rfl (by kernel_rfl) (by kernel_rfl) (by kernel_rfl) (fun _ _ _ h => h) rfl (by assumption) ?hy_17 ?re_17
    case hy_17 =>
      intro w hSw
      try dsimp only at hSw
      go_simp
      try with_reducible rfl
    simp only [Act.put, List.setIfInBounds_toArray, List.set_cons_zero, List.set_cons_succ]
    refine' held_take (i := 6) (d := some 65) (v := _) rfl rfl (by kernel_rfl) (by kernel_rfl) (by kernel_rfl) (fun _ _ _ h => h) rfl (by assumption) ?hy_18 ?re_18
    case hy_18 =>
      intro w hSw
      try dsimp only at hSw
      go_simp
      try with_reducible rfl
    simp only [Act.put, List.setIfInBounds_toArray, List.set_cons_zero, List.set_cons_succ]
    refine' held_take (i := 7) (d := some 66) (v := _) rfl rfl (by kernel_rfl) (by kernel_rfl) (by kernel_rfl) (fun _ _ _ h => h) rfl (by assumption) ?hy_19 ?re_19
    case hy_19 =>
      intro w hSw
      try dsimp only at hSw
      go_simp
      try with_reducible rfl
    simp only [Act.put, List.setIfInBounds_toArray, List.set_cons_zero, List.set_cons_succ]
    refine' held_take (i := 8) (d := some 67) (v := _) rfl rfl (by kernel_rfl) (by kernel_rfl) (by kernel_rfl) (fun _ _ _ h => h) rfl (by assumption) ?hy_20 ?re_20
    case hy_20 =>
      intro w hSw
      try dsimp only at hSw
      go_simp
      try with_reducible rfl
    simp only [Act.put, List.setIfInBounds_toArray, List.set_cons_zero, List.set_cons_succ]
    refine' held_take (i := 9) (d := some 68) (v := _) rfl rfl (by kernel_rfl) (by kernel_rfl) (by kernel_rfl) (fun _ _ _ h => h) rfl (by assumption) ?hy_21 ?re_21
    case hy_21 =>
      intro w hSw
      try dsimp only at hSw
      go_simp
      try with_reducible rfl
    simp only [Act.put, List.setIfInBounds_toArray, List.set_cons_zero, List.set_cons_succ]
    refine' held_take (i := 10) (d := some 69) (v := _) rfl rfl (by kernel_rfl) (by kernel_rfl) (by kernel_rfl) (fun _ _ _ h => h) rfl (by assumption) ?hy_22 ?re_22
    case hy_22 =>
      intro w hSw
      try dsimp only at hSw
      go_simp
      try with_reducible rfl
    simp only [Act.put, List.setIfInBounds_toArray, List.set_cons_zero, List.set_cons_succ]
    refine' held_take (i := 11) (d := some 70) (v := _) rfl rfl (by kernel_rfl) (by kernel_rfl) (by kernel_rfl) (fun _ _ _ h => h) rfl (by assumption) ?hy_23 ?re_23
    case hy_23 =>
      intro w hSw
      try dsimp only at hSw
      go_simp
      try with_reducible rfl
    simp only [Act.put, List.setIfInBounds_toArray, List.set_cons_zero, List.set_cons_succ]
    refine' held_take (i := 12) (d := some 71) (v := _) rfl rfl (by kernel_rfl) (by kernel_rfl) (by kernel_rfl) (fun _ _ _ h => h) rfl (by assumption) ?hy_24 ?re_24
    case hy_24 =>
      intro w hSw
      try dsimp only at hSw
      go_simp
      try with_reducible rfl
    simp only [Act.put, List.setIfInBounds_toArray, List.set_cons_zero, List.set_cons_succ]
    refine' held_take (i := 13) (d := some 72) (v := _) rfl rfl (by kernel_rfl) (by kernel_rfl) (by kernel_rfl) (fun _ _ _ h => h) rfl (by assumption) ?hy_25 ?re_25
    case hy_25 =>
      intro w hSw
      try dsimp only at hSw
      go_simp
      try with_reducible rfl
    simp only [Act.put, List.setIfInBounds_toArray, List.set_cons_zero, List.set_cons_succ]
    refine wpAnyH_ready (rs := [5]) (by kernel_rfl) (by simp) ?_
    refine AllReadyH.cons rfl (fun K hK => ?_) AllReadyH.nil
    go_simp
    refine (hp.out _ _ hM1.out hm1.out hO1.out.below).mono ?_
    rintro e w2 ⟨rfl, ⟨hM, hm⟩, hO⟩
    have hO2 := Lib.hid (hO1.out.trans hO)
    have hM2 := Lib.hid hM
    have hm2 := Lib.hid hm
    have hx2 := Lib.hid (hO.kept _ _ _ _ hx1.out ask_ty)
    clear hO
    go_wp2_with fail
    refine hK.out _ _ ?_ (fun hHeld => ?_)
    · exact hSA.out _ _ hx2.out hm2.out
    clear hK K
    try simp only [Act.put, List.setIfInBounds_toArray, List.set_cons_zero, List.set_cons_succ]
    refine wpAnyH_ready (rs := [14]) (by kernel_rfl) (by simp) ?_
    refine AllReadyH.cons rfl (fun K hK => ?_) AllReadyH.nil
    go_simp
    refine (hr.out _ _ _ hM2.out hm2.out).mono ?_
    rintro e w3 ⟨rfl, ⟨hM, hm⟩, hO⟩
    have hO3 := Lib.hid (hO2.out.trans hO)
    have hM3 := Lib.hid hM
    have hm3 := Lib.hid hm
    have hx3 := Lib.hid (hO.kept _ _ _ _ hx2.out ask_ty)
    clear hO
    go_wp2_with fail
    refine hK.out _ _ ?_ (fun hHeld => ?_)
    · exact hSA.out _ _ hx3.out hm3.out
    clear hK K
    try simp only [Act.put, List.setIfInBounds_toArray, List.set_cons_zero, List.set_cons_succ]
    refine wpAnyH_ready (rs := [15]) (by kernel_rfl) (by simp) ?_
    refine AllReadyH.cons rfl (fun K hK => ?_) AllReadyH.nil
    go_simp
    refine (coded_same lc _ (hLw.out _ hO3.out.below).r hcl).mono ?_
    rintro e w4 ⟨rfl, hb⟩
    have hO4 := Lib.hid (hO3.out.trans (Ok.of_below hM3.out.hb hb))
    have hM4 := Lib.hid (hM3.out.below hb)
    have hx4 := Lib.hid (heap_down hb hx3.out)
    have hm4 := Lib.hid (hm3.out.below hb)
    clear hb
    go_wp2_with fail
    refine hK.out _ _ ?_ (fun hHeld => ?_)
    · exact hSA.out _ _ hx4.out hm4.out
    clear hK K
    try simp only [Act.put, List.setIfInBounds_toArray, List.set_cons_zero, List.set_cons_succ]
    refine' held_take (i := 16) (d := some 8) (v := _) rfl rfl (by kernel_rfl) (by kernel_rfl) (by kernel_rfl) (fun _ _ _ h => h) rfl (by assumption) ?hy_26 ?re_26
    case hy_26 =>
      intro w hSw
      try dsimp only at hSw
      go_simp
      try with_reducible rfl
    simp only [Act.put, List.setIfInBounds_toArray, List.set_cons_zero, List.set_cons_succ]
    refine' held_take (i := 17) (d := some 9) (v := _) rfl rfl (by kernel_rfl) (by kernel_rfl) (by kernel_rfl) (fun _ _ _ h => h) rfl (by assumption) ?hy_27 ?re_27
    case hy_27 =>
      intro w hSw
      try dsimp only at hSw
      go_simp
      try with_reducible rfl
    simp only [Act.put, List.setIfInBounds_toArray, List.set_cons_zero, List.set_cons_succ]
    refine wpAnyH_done (by kernel_rfl) ?_ _
    refine NoPanic.normal ?_
    go_wp2_with fail
    go_ret2
    exact ⟨ret_arm hq.out, by rw [hq.out]; exact hM4.out, hO4.out⟩
  have e1 : ((bs qk).toList == [111, 102, 102]) = false := by rw [toList_data, bs_list, beq_eq_false_iff_ne]; exact k1
  by_cases k2 : qk = kLogin
  case pos =>
    have hq := Lib.hid (show am = ((loginM R qa (proofOf R ⟨qk, qa, qb, qs, qn, qi⟩) qb).1, (loginM R qa (proofOf R ⟨qk, qa, qb, qs, qn, qi⟩) qb).2.2) by rw [ham]; unfold askM; dsimp only; rw [if_neg k0]; rw [if_neg k1]; rw [if_pos k2])
    clear ham
    have e2 : ((bs qk).toList == [108, 111, 103, 105, 110]) = true := by rw [toList_data, bs_list, k2]; rfl
    clear k0 k1 k2
    have hcl := login_code R qa (proofOf R ⟨qk, qa, qb, qs, qn, qi⟩) qb
    have hpf := Lib.hid (fun wx (hM : MidR base a m R R wx) => hM.proof hG ⟨qk, qa, qb, qs, qn, qi⟩ hna1.out)
    generalize proofOf R ⟨qk, qa, qb, qs, qn, qi⟩ = pr at *
    have hp := Lib.hid (fun wx (hM : MidR base a m R R wx) (hx : Below base w wx) => hM.loginP (hLw.out wx hx).s hG qa qb pr hna1.out hnb1.out)
    have hr := Lib.hid (fun R1 wx (hM : MidR base a m R1 R wx) => hM.loginR hG qa qb pr hna1.out hnb1.out)
    generalize loginM R qa pr qb = lm at *
    obtain ⟨lt, lc, R1⟩ := lm
    dsimp only at *
    go_wp2_with fail
    refine (hpf.out _ hM0.out).mono ?_
    rintro e w1 ⟨rfl, hb⟩
    have hO1 := Lib.hid (hO0.out.trans (Ok.of_below hM0.out.hb hb))
    have hM1 := Lib.hid (hM0.out.below hb)
    have hx1 := Lib.hid (heap_down hb hx0.out)
    clear hb
    clear x0 x1 x2 x3 x4 x5
    obtain ⟨x0, x1, x2, x3, x4, x5⟩ := (six_of hx1.out).1
    go_wp2_with fail
    refine (hp.out _ hM1.out hO1.out.below).mono ?_
    rintro e w2 ⟨rfl, hM, hO⟩
    have hO2 := Lib.hid (hO1.out.trans hO)
    have hM2 := Lib.hid hM
    have hx2 := Lib.hid (hO.kept _ _ _ _ hx1.out ask_ty)
    clear hO
    clear x0 x1 x2 x3 x4 x5
    obtain ⟨x0, x1, x2, x3, x4, x5⟩ := (six_of hx2.out).1
    go_wp2_with fail
    refine (hr.out _ _ hM2.out).mono ?_
    rintro e w3 ⟨rfl, hM, hO⟩
    have hO3 := Lib.hid (hO2.out.trans hO)
    have hM3 := Lib.hid hM
    have hx3 := Lib.hid (hO.kept _ _ _ _ hx2.out ask_ty)
    clear hO
    clear x0 x1 x2 x3 x4 x5
    obtain ⟨x0, x1, x2, x3, x4, x5⟩ := (six_of hx3.out).1
    go_wp2_with fail
    refine (coded_same lc _ (hLw.out _ hO3.out.below).r hcl).mono ?_
    rintro e w4 ⟨rfl, hb⟩
    have hO4 := Lib.hid (hO3.out.trans (Ok.of_below hM3.out.hb hb))
    have hM4 := Lib.hid (hM3.out.below hb)
    have hx4 := Lib.hid (heap_down hb hx3.out)
    clear hb
    go_wp2_with fail
    go_ret2
    exact ⟨ret_arm hq.out, by rw [hq.out]; exact hM4.out, hO4.out⟩
  have e2 : ((bs qk).toList == [108, 111, 103, 105, 110]) = false := by rw [toList_data, bs_list, beq_eq_false_iff_ne]; exact k2
  by_cases k3 : qk = kRenew
  case pos =>
    have hq := Lib.hid (show am = ((renewM R (if qs = [] then la else qs) qb).1, (renewM R (if qs = [] then la else qs) qb).2.2) by rw [ham]; unfold askM; dsimp only; rw [if_neg k0]; rw [if_neg k1]; rw [if_neg k2]; rw [if_pos k3])
    clear ham
    have e3 : ((bs qk).toList == [114, 101, 110, 101, 119]) = true := by rw [toList_data, bs_list, k3]; rfl
    clear k0 k1 k2 k3
    have hcl := renew_code R (if qs = [] then la else qs) qb
    have hsl : (if qs = [] then la else qs).length ≤ 1000 := by split <;> first | exact hla | exact hns1.out
    have hp := Lib.hid (fun wx (hM : MidR base a m R R wx) (hx : Below base w wx) => hM.renewP (hLw.out wx hx).s hG (if qs = [] then la else qs) qb hsl hnb1.out)
    have hr := Lib.hid (fun R1 wx (hM : MidR base a m R1 R wx) => hM.renewR hG (if qs = [] then la else qs) qb hsl hnb1.out)
    generalize renewM R (if qs = [] then la else qs) qb = lm at *
    obtain ⟨lt, lc, R1⟩ := lm
    dsimp only at *
    clear hsl
    by_cases hz : qs = []
    · have hz1 : ((bs qs).toList == []) = true := by rw [toList_data, bs_list] ; rw [hz] ; rfl
      rw [if_pos hz] at hp hr
      clear hz
      go_wp2_with fail
      refine (hp.out _ hM0.out hO0.out.below).mono ?_
      rintro e w1 ⟨rfl, hM, hO⟩
      have hO1 := Lib.hid (hO0.out.trans hO)
      have hM1 := Lib.hid hM
      have hx1 := Lib.hid (hO.kept _ _ _ _ hx0.out ask_ty)
      clear hO
      clear x0 x1 x2 x3 x4 x5
      obtain ⟨x0, x1, x2, x3, x4, x5⟩ := (six_of hx1.out).1
      go_wp2_with fail
      refine (hr.out _ _ hM1.out).mono ?_
      rintro e w2 ⟨rfl, hM, hO⟩
      have hO2 := Lib.hid (hO1.out.trans hO)
      have hM2 := Lib.hid hM
      have hx2 := Lib.hid (hO.kept _ _ _ _ hx1.out ask_ty)
      clear hO
      clear x0 x1 x2 x3 x4 x5
      obtain ⟨x0, x1, x2, x3, x4, x5⟩ := (six_of hx2.out).1
      go_wp2_with fail
      refine (coded_same lc _ (hLw.out _ hO2.out.below).r hcl).mono ?_
      rintro e w3 ⟨rfl, hb⟩
      have hO3 := Lib.hid (hO2.out.trans (Ok.of_below hM2.out.hb hb))
      have hM3 := Lib.hid (hM2.out.below hb)
      have hx3 := Lib.hid (heap_down hb hx2.out)
      clear hb
      go_wp2_with fail
      go_ret2
      exact ⟨ret_arm hq.out, by rw [hq.out]; exact hM3.out, hO3.out⟩
    · have hz1 : ((bs qs).toList == []) = false := by rw [toList_data, bs_list] ; simpa using hz
      rw [if_neg hz] at hp hr
      clear hz
      go_wp2_with fail
      refine (hp.out _ hM0.out hO0.out.below).mono ?_
      rintro e w1 ⟨rfl, hM, hO⟩
      have hO1 := Lib.hid (hO0.out.trans hO)
      have hM1 := Lib.hid hM
      have hx1 := Lib.hid (hO.kept _ _ _ _ hx0.out ask_ty)
      clear hO
      clear x0 x1 x2 x3 x4 x5
      obtain ⟨x0, x1, x2, x3, x4, x5⟩ := (six_of hx1.out).1
      go_wp2_with fail
      refine (hr.out _ _ hM1.out).mono ?_
      rintro e w2 ⟨rfl, hM, hO⟩
      have hO2 := Lib.hid (hO1.out.trans hO)
      have hM2 := Lib.hid hM
      have hx2 := Lib.hid (hO.kept _ _ _ _ hx1.out ask_ty)
      clear hO
      clear x0 x1 x2 x3 x4 x5
      obtain ⟨x0, x1, x2, x3, x4, x5⟩ := (six_of hx2.out).1
      go_wp2_with fail
      refine (coded_same lc _ (hLw.out _ hO2.out.below).r hcl).mono ?_
      rintro e w3 ⟨rfl, hb⟩
      have hO3 := Lib.hid (hO2.out.trans (Ok.of_below hM2.out.hb hb))
      have hM3 := Lib.hid (hM2.out.below hb)
      have hx3 := Lib.hid (heap_down hb hx2.out)
      clear hb
      go_wp2_with fail
      go_ret2
      exact ⟨ret_arm hq.out, by rw [hq.out]; exact hM3.out, hO3.out⟩
  have e3 : ((bs qk).toList == [114, 101, 110, 101, 119]) = false := by rw [toList_data, bs_list, beq_eq_false_iff_ne]; exact k3
  by_cases k4 : qk = kRevoke
  case pos =>
    have hq := Lib.hid (show am = ([], (revokeM R qa).2.2) by rw [ham]; unfold askM; dsimp only; rw [if_neg k0]; rw [if_neg k1]; rw [if_neg k2]; rw [if_neg k3]; rw [if_pos k4])
    clear ham
    have e4 : ((bs qk).toList == [114, 101, 118, 111, 107, 101]) = true := by rw [toList_data, bs_list, k4]; rfl
    clear k0 k1 k2 k3 k4
    have hcl := (hG.revoke qa).2
    have hp := Lib.hid (fun wx (hM : MidR base a m R R wx) (hx : Below base w wx) => hM.revokeP (hLw.out wx hx).s hG qa hna.out)
    have hr := Lib.hid (fun R1 wx (hM : MidR base a m R1 R wx) => hM.revokeR hG qa hna.out)
    generalize revokeM R qa = lm at *
    obtain ⟨lt, lc, R1⟩ := lm
    dsimp only at *
    go_wp2_with fail
    refine (hp.out _ hM0.out hO0.out.below).mono ?_
    rintro e w1 ⟨rfl, hM, hO⟩
    have hO1 := Lib.hid (hO0.out.trans hO)
    have hM1 := Lib.hid hM
    have hx1 := Lib.hid (hO.kept _ _ _ _ hx0.out ask_ty)
    clear hO
    clear x0 x1 x2 x3 x4 x5
    obtain ⟨x0, x1, x2, x3, x4, x5⟩ := (six_of hx1.out).1
    go_wp2_with fail
    refine (hr.out _ _ hM1.out).mono ?_
    rintro e w2 ⟨rfl, hM, hO⟩
    have hO2 := Lib.hid (hO1.out.trans hO)
    have hM2 := Lib.hid hM
    have hx2 := Lib.hid (hO.kept _ _ _ _ hx1.out ask_ty)
    clear hO
    clear x0 x1 x2 x3 x4 x5
    obtain ⟨x0, x1, x2, x3, x4, x5⟩ := (six_of hx2.out).1
    go_wp2_with fail
    refine (coded_same lc _ (hLw.out _ hO2.out.below).r hcl).mono ?_
    rintro e w3 ⟨rfl, hb⟩
    have hO3 := Lib.hid (hO2.out.trans (Ok.of_below hM2.out.hb hb))
    have hM3 := Lib.hid (hM2.out.below hb)
    have hx3 := Lib.hid (heap_down hb hx2.out)
    clear hb
    go_wp2_with fail
    go_ret2
    exact ⟨ret_arm hq.out, by rw [hq.out]; exact hM3.out, hO3.out⟩
  have e4 : ((bs qk).toList == [114, 101, 118, 111, 107, 101]) = false := by rw [toList_data, bs_list, beq_eq_false_iff_ne]; exact k4
  by_cases k5 : qk = kRekey
  case pos =>
    have hq := Lib.hid (show am = ([], (rekeyM R qa qn).2.2) by rw [ham]; unfold askM; dsimp only; rw [if_neg k0]; rw [if_neg k1]; rw [if_neg k2]; rw [if_neg k3]; rw [if_neg k4]; rw [if_pos k5])
    clear ham
    have e5 : ((bs qk).toList == [114, 101, 107, 101, 121]) = true := by rw [toList_data, bs_list, k5]; rfl
    clear k0 k1 k2 k3 k4 k5
    have hcl := (hG.rekey qa qn).2
    have hp := Lib.hid (fun wx (hM : MidR base a m R R wx) (hx : Below base w wx) => hM.rekeyP (hLw.out wx hx).s hG qa qn hna.out)
    have hr := Lib.hid (fun R1 wx (hM : MidR base a m R1 R wx) => hM.rekeyR hG qa qn hna.out)
    generalize rekeyM R qa qn = lm at *
    obtain ⟨lt, lc, R1⟩ := lm
    dsimp only at *
    go_wp2_with fail
    refine (hp.out _ hM0.out hO0.out.below).mono ?_
    rintro e w1 ⟨rfl, hM, hO⟩
    have hO1 := Lib.hid (hO0.out.trans hO)
    have hM1 := Lib.hid hM
    have hx1 := Lib.hid (hO.kept _ _ _ _ hx0.out ask_ty)
    clear hO
    clear x0 x1 x2 x3 x4 x5
    obtain ⟨x0, x1, x2, x3, x4, x5⟩ := (six_of hx1.out).1
    go_wp2_with fail
    refine (hr.out _ _ hM1.out).mono ?_
    rintro e w2 ⟨rfl, hM, hO⟩
    have hO2 := Lib.hid (hO1.out.trans hO)
    have hM2 := Lib.hid hM
    have hx2 := Lib.hid (hO.kept _ _ _ _ hx1.out ask_ty)
    clear hO
    clear x0 x1 x2 x3 x4 x5
    obtain ⟨x0, x1, x2, x3, x4, x5⟩ := (six_of hx2.out).1
    go_wp2_with fail
    refine (coded_same lc _ (hLw.out _ hO2.out.below).r hcl).mono ?_
    rintro e w3 ⟨rfl, hb⟩
    have hO3 := Lib.hid (hO2.out.trans (Ok.of_below hM2.out.hb hb))
    have hM3 := Lib.hid (hM2.out.below hb)
    have hx3 := Lib.hid (heap_down hb hx2.out)
    clear hb
    go_wp2_with fail
    go_ret2
    exact ⟨ret_arm hq.out, by rw [hq.out]; exact hM3.out, hO3.out⟩
  have e5 : ((bs qk).toList == [114, 101, 107, 101, 121]) = false := by rw [toList_data, bs_list, beq_eq_false_iff_ne]; exact k5
  by_cases k6 : qk = kFlush
  case pos =>
    have hq := Lib.hid (show am = ([], (flushM R).2.2) by rw [ham]; unfold askM; dsimp only; rw [if_neg k0]; rw [if_neg k1]; rw [if_neg k2]; rw [if_neg k3]; rw [if_neg k4]; rw [if_neg k5]; rw [if_pos k6])
    clear ham
    have e6 : ((bs qk).toList == [102, 108, 117, 115, 104]) = true := by rw [toList_data, bs_list, k6]; rfl
    clear k0 k1 k2 k3 k4 k5 k6
    have hcl := hG.flush.2
    have hp := Lib.hid (fun wx (hM : MidR base a m R R wx) (hx : Below base w wx) => hM.flushP (hLw.out wx hx).s hG)
    have hr := Lib.hid (fun R1 wx (hM : MidR base a m R1 R wx) => hM.flushR hG)
    generalize flushM R = lm at *
    obtain ⟨lt, lc, R1⟩ := lm
    dsimp only at *
    go_wp2_with fail
    refine (hp.out _ hM0.out hO0.out.below).mono ?_
    rintro e w1 ⟨rfl, hM, hO⟩
    have hO1 := Lib.hid (hO0.out.trans hO)
    have hM1 := Lib.hid hM
    have hx1 := Lib.hid (hO.kept _ _ _ _ hx0.out ask_ty)
    clear hO
    clear x0 x1 x2 x3 x4 x5
    obtain ⟨x0, x1, x2, x3, x4, x5⟩ := (six_of hx1.out).1
    go_wp2_with fail
    refine (hr.out _ _ hM1.out).mono ?_
    rintro e w2 ⟨rfl, hM, hO⟩
    have hO2 := Lib.hid (hO1.out.trans hO)
    have hM2 := Lib.hid hM
    have hx2 := Lib.hid (hO.kept _ _ _ _ hx1.out ask_ty)
    clear hO
    clear x0 x1 x2 x3 x4 x5
    obtain ⟨x0, x1, x2, x3, x4, x5⟩ := (six_of hx2.out).1
    go_wp2_with fail
    refine (coded_same lc _ (hLw.out _ hO2.out.below).r hcl).mono ?_
    rintro e w3 ⟨rfl, hb⟩
    have hO3 := Lib.hid (hO2.out.trans (Ok.of_below hM2.out.hb hb))
    have hM3 := Lib.hid (hM2.out.below hb)
    have hx3 := Lib.hid (heap_down hb hx2.out)
    clear hb
    go_wp2_with fail
    go_ret2
    exact ⟨ret_arm hq.out, by rw [hq.out]; exact hM3.out, hO3.out⟩
  have e6 : ((bs qk).toList == [102, 108, 117, 115, 104]) = false := by rw [toList_data, bs_list, beq_eq_false_iff_ne]; exact k6
  by_cases k7 : qk = kNext
  case pos =>
    have hq := Lib.hid (show am = ([], (nextM R qn).2.2) by rw [ham]; unfold askM; dsimp only; rw [if_neg k0]; rw [if_neg k1]; rw [if_neg k2]; rw [if_neg k3]; rw [if_neg k4]; rw [if_neg k5]; rw [if_neg k6]; rw [if_pos k7])
    clear ham
    have e7 : ((bs qk).toList == [110, 101, 120, 116]) = true := by rw [toList_data, bs_list, k7]; rfl
    clear k0 k1 k2 k3 k4 k5 k6 k7
    have hcl := (hG.next qn).2
    have hp := Lib.hid (fun wx (hM : MidR base a m R R wx) (hx : Below base w wx) => hM.nextP (hLw.out wx hx).s.laid hG qn)
    have hr := Lib.hid (fun R1 wx (hM : MidR base a m R1 R wx) => hM.nextR hG qn)
    generalize nextM R qn = lm at *
    obtain ⟨lt, lc, R1⟩ := lm
    dsimp only at *
    go_wp2_with fail
    refine (hp.out _ hM0.out hO0.out.below).mono ?_
    rintro e w1 ⟨rfl, hM, hO⟩
    have hO1 := Lib.hid (hO0.out.trans hO)
    have hM1 := Lib.hid hM
    have hx1 := Lib.hid (hO.kept _ _ _ _ hx0.out ask_ty)
    clear hO
    clear x0 x1 x2 x3 x4 x5
    obtain ⟨x0, x1, x2, x3, x4, x5⟩ := (six_of hx1.out).1
    go_wp2_with fail
    refine (hr.out _ _ hM1.out).mono ?_
    rintro e w2 ⟨rfl, hM, hO⟩
    have hO2 := Lib.hid (hO1.out.trans hO)
    have hM2 := Lib.hid hM
    have hx2 := Lib.hid (hO.kept _ _ _ _ hx1.out ask_ty)
    clear hO
    clear x0 x1 x2 x3 x4 x5
    obtain ⟨x0, x1, x2, x3, x4, x5⟩ := (six_of hx2.out).1
    go_wp2_with fail
    refine (coded_same lc _ (hLw.out _ hO2.out.below).r hcl).mono ?_
    rintro e w3 ⟨rfl, hb⟩
    have hO3 := Lib.hid (hO2.out.trans (Ok.of_below hM2.out.hb hb))
    have hM3 := Lib.hid (hM2.out.below hb)
    have hx3 := Lib.hid (heap_down hb hx2.out)
    clear hb
    go_wp2_with fail
    go_ret2
    exact ⟨ret_arm hq.out, by rw [hq.out]; exact hM3.out, hO3.out⟩
  have e7 : ((bs qk).toList == [110, 101, 120, 116]) = false := by rw [toList_data, bs_list, beq_eq_false_iff_ne]; exact k7
  have hq := Lib.hid (show am = ([], R) by rw [ham]; unfold askM; dsimp only; rw [if_neg k0]; rw [if_neg k1]; rw [if_neg k2]; rw [if_neg k3]; rw [if_neg k4]; rw [if_neg k5]; rw [if_neg k6]; rw [if_neg k7])
  clear ham
  clear k0 k1 k2 k3 k4 k5 k6 k7
  have hcl := headOf_code R.key R.l R.time
  have hck := congrArg Prod.fst hG.f
  obtain ⟨_, ⟨b, r, hpP⟩, b', hmM⟩ := hM0.out
  obtain ⟨al, cl, ⟨c0, _, c2, _, _, c5⟩, _, hrow⟩ := hmM.cells
  have hhd := Lib.hid (headM_any (E := E) W (hLw.out W hO0.out.below).s hpP hck)
  have hhr := Lib.hid (fun wx (hx : Below W.heap.size W wx) => headR_any R.key (.slice al R.l.length cl) R.l R.time wx (RowG.at_ (hrow.below hx)) (ents_who hck))
  have hcw := Lib.hid (fun wx (hx : Below W.heap.size W wx) => (show wx.cell? ⟨m, 0, none⟩ = some (.int .i64 R.key) ∧ wx.cell? ⟨m, 2, none⟩ = some (.int .i64 R.time) ∧ wx.cell? ⟨m, 5, none⟩ = some (.slice al R.l.length cl) from ⟨cell_below hx c0, cell_below hx c2, cell_below hx c5⟩))
  have hfl := Lib.hid (fun v c at_ wx (hx : Below base w wx) (h : ErrAt E wx v c at_) (h2 : c ≤ 16) => faulted_self v c at_ wx (hLw.out wx hx).r h h2)
  clear c0 c2 c5 hrow hmM hpP hck
  generalize headOf R.key R.l R.time = hh at *
  obtain ⟨ht, hc, ha⟩ := hh
  dsimp only [TextRes, HeadRes, faultF] at *
  go_wp2_with fail
  refine hhd.out.mono ?_
  rintro e w1 ⟨⟨ev, rfl, hev⟩, hb⟩
  have hB1 := Lib.hid hb
  have hev1 := Lib.hid hev
  clear hb hev hhd
  go_upto_region 35 with fail
  have hD0 := Lib.hid (show Below w1.heap.size w1 w1.drew from (Below.refl _ _).drew)
  have hSC := Lib.hid (fun wx (hx : Below w1.heap.size w1 wx) => hcw.out wx (below_trans hB1.out hx))
  clear x0 x1 x2 x3 x4 x5
  go_cut [38, 39] from 38 to 257 (fun s38 s39 wx => ∃ xt, s38 = .string (bs ht) ∧ s39 = .pointer (some ⟨xt, 0, none⟩) ∧ Hid (Below w1.heap.size w1 wx ∧ wx.heap[xt]? = some (.cells #[.int .i64 (hc : Nat), .int .i64 ha] 98 (0, 0))))
  case first =>
    refine wp_region_noPanic ?_
    refine wp_region_held_drew (S := fun wx => wx.cell? ⟨m, 0, none⟩ = some (.int .i64 R.key) ∧ wx.cell? ⟨m, 2, none⟩ = some (.int .i64 R.time) ∧ wx.cell? ⟨m, 5, none⟩ = some (.slice al R.l.length cl)) (by kernel_rfl) ?_ (fun hHeld => ?_)
    · exact hSC.out _ hD0.out
    refine' held_take (i := 0) (d := some 243) (v := _) rfl rfl (by kernel_rfl) (by kernel_rfl) (by kernel_rfl) (fun _ _ _ h => h) rfl (by assumption) ?hy_28 ?re_28
    case hy_28 =>
      intro w hSw
      try dsimp only at hSw
      go_simp
      try with_reducible rfl
    simp only [Act.put, List.setIfInBounds_toArray, List.set_cons_zero, List.set_cons_succ]
    refine' held_take (i := 1) (d := some 244) (v := _) rfl rfl (by kernel_rfl) (by kernel_rfl) (by kernel_rfl) (fun _ _ _ h => h) rfl (by assumption) ?hy_29 ?re_29
    case hy_29 =>
      intro w hSw
      try dsimp only at hSw
      go_simp
      try with_reducible rfl
    simp only [Act.put, List.setIfInBounds_toArray, List.set_cons_zero, List.set_cons_succ]
    refine' held_take (i := 2) (d := some 245) (v := _) rfl rfl (by kernel_rfl) (by kernel_rfl) (by kernel_rfl) (fun _ _ _ h => h) rfl (by assumption) ?hy_30 ?re_30
    case hy_30 =>
      intro w hSw
      try dsimp only at hSw
      go_simp
      try with_reducible rfl
    simp only [Act.put, List.setIfInBounds_toArray, List.set_cons_zero, List.set_cons_succ]
    refine' held_take (i := 3) (d := some 246) (v := _) rfl rfl (by kernel_rfl) (by kernel_rfl) (by kernel_rfl) (fun _ _ _ h => h) rfl (by assumption) ?hy_31 ?re_31
    case hy_31 =>
      intro w hSw
      try dsimp only at hSw
      go_simp
      try with_reducible rfl
    simp only [Act.put, List.setIfInBounds_toArray, List.set_cons_zero, List.set_cons_succ]
    refine' held_take (i := 4) (d := some 247) (v := _) rfl rfl (by kernel_rfl) (by kernel_rfl) (by kernel_rfl) (fun _ _ _ h => h) rfl (by assumption) ?hy_32 ?re_32
    case hy_32 =>
      intro w hSw
      try dsimp only at hSw
      go_simp
      try with_reducible rfl
    simp only [Act.put, List.setIfInBounds_toArray, List.set_cons_zero, List.set_cons_succ]
    refine' held_take (i := 5) (d := some 248) (v := _) rfl rfl (by kernel_rfl) (by kernel_rfl) (by kernel_rfl) (fun _ _ _ h => h) rfl (by assumption) ?hy_33 ?re_33
    case hy_33 =>
      intro w hSw
      try dsimp only at hSw
      go_simp
      try with_reducible rfl
    simp only [Act.put, List.setIfInBounds_toArray, List.set_cons_zero, List.set_cons_succ]
    refine' held_take (i := 6) (d := some 249) (v := _) rfl rfl (by kernel_rfl) (by kernel_rfl) (by kernel_rfl) (fun _ _ _ h => h) rfl (by assumption) ?hy_34 ?re_34
    case hy_34 =>
      intro w hSw
      try dsimp only at hSw
      go_simp
      try with_reducible rfl
    simp only [Act.put, List.setIfInBounds_toArray, List.set_cons_zero, List.set_cons_succ]
    refine' held_take (i := 7) (d := some 250) (v := _) rfl rfl (by kernel_rfl) (by kernel_rfl) (by kernel_rfl) (fun _ _ _ h => h) rfl (by assumption) ?hy_35 ?re_35
    case hy_35 =>
      intro w hSw
      try dsimp only at hSw
      go_simp
      try with_reducible rfl
    simp only [Act.put, List.setIfInBounds_toArray, List.set_cons_zero, List.set_cons_succ]
    refine' held_take (i := 8) (d := some 251) (v := _) rfl rfl (by kernel_rfl) (by kernel_rfl) (by kernel_rfl) (fun _ _ _ h => h) rfl (by assumption) ?hy_36 ?re_36
    case hy_36 =>
      intro w hSw
      try dsimp only at hSw
      go_simp
      try with_reducible rfl
    simp only [Act.put, List.setIfInBounds_toArray, List.set_cons_zero, List.set_cons_succ]
    refine' held_take (i := 9) (d := some 252) (v := _) rfl rfl (by kernel_rfl) (by kernel_rfl) (by kernel_rfl) (fun _ _ _ h => h) rfl (by assumption) ?hy_37 ?re_37
    case hy_37 =>
      intro w hSw
      try dsimp only at hSw
      go_simp
      try with_reducible rfl
    simp only [Act.put, List.setIfInBounds_toArray, List.set_cons_zero, List.set_cons_succ]
    refine' held_take (i := 10) (d := some 253) (v := _) rfl rfl (by kernel_rfl) (by kernel_rfl) (by kernel_rfl) (fun _ _ _ h => h) rfl (by assumption) ?hy_38 ?re_38
    case hy_38 =>
      intro w hSw
      try dsimp only at hSw
      go_simp
      try with_reducible rfl
    simp only [Act.put, List.setIfInBounds_toArray, List.set_cons_zero, List.set_cons_succ]
    refine' held_take (i := 11) (d := some 254) (v := _) rfl rfl (by kernel_rfl) (by kernel_rfl) (by kernel_rfl) (fun _ _ _ h => h) rfl (by assumption) ?hy_39 ?re_39
    case hy_39 =>
      intro w hSw
      try dsimp only at hSw
      go_simp
      try with_reducible rfl
    simp only [Act.put, List.setIfInBounds_toArray, List.set_cons_zero, List.set_cons_succ]
    refine wpAnyH_ready (rs := [12, 16]) (by kernel_rfl) (by simp) ?_
    refine AllReadyH.cons rfl (fun K hK => ?_) (AllReadyH.cons rfl (fun K hK => ?_) AllReadyH.nil)
    · go_simp
      refine (hhr.out _ (below_trans hB1.out hD0.out)).mono ?_
      rintro e wd ⟨rfl, hb⟩
      have hDc := Lib.hid (below_trans hD0.out hb)
      clear hb
      go_wp2_with fail
      refine hK.out _ _ ?_ (fun hHeld => ?_)
      · exact hSC.out _ hDc.out
      clear hK K
      try simp only [Act.put, List.setIfInBounds_toArray, List.set_cons_zero, List.set_cons_succ]
      refine' held_take (i := 13) (d := some 242) (v := _) rfl rfl (by kernel_rfl) (by kernel_rfl) (by kernel_rfl) (fun _ _ _ h => h) rfl (by assumption) ?hy_40 ?re_40
      case hy_40 =>
        intro w hSw
        try dsimp only at hSw
        go_simp
        try with_reducible rfl
      simp only [Act.put, List.setIfInBounds_toArray, List.set_cons_zero, List.set_cons_succ]
      refine' held_take (i := 14) (d := some 256) (v := _) rfl rfl (by kernel_rfl) (by kernel_rfl) (by kernel_rfl) (fun _ _ _ h => h) rfl (by assumption) ?hy_41 ?re_41
      case hy_41 =>
        intro w hSw
        try dsimp only at hSw
        go_simp
        try with_reducible rfl
      simp only [Act.put, List.setIfInBounds_toArray, List.set_cons_zero, List.set_cons_succ]
      refine' held_take (i := 15) (d := some 257) (v := _) rfl rfl (by kernel_rfl) (by kernel_rfl) (by kernel_rfl) (fun _ _ _ h => h) rfl (by assumption) ?hy_42 ?re_42
      case hy_42 =>
        intro w hSw
        try dsimp only at hSw
        go_simp
        try with_reducible rfl
      simp only [Act.put, List.setIfInBounds_toArray, List.set_cons_zero, List.set_cons_succ]
      refine wpAnyH_ready (rs := [16]) (by kernel_rfl) (by simp) ?_
      refine AllReadyH.cons rfl (fun K hK => ?_) AllReadyH.nil
      go_simp
      refine hK.out _ _ ?_ (fun hHeld => ?_)
      · exact hSC.out _ (hDc.out.alloc hDc.out.size (.cells #[.int .i64 0, .int .i64 0] 98))
      clear hK K
      try simp only [Act.put, List.setIfInBounds_toArray, List.set_cons_zero, List.set_cons_succ]
      refine' held_take (i := 17) (d := some 38) (v := _) rfl rfl (by kernel_rfl) (by kernel_rfl) (by kernel_rfl) (fun _ _ _ h => h) rfl (by assumption) ?hy_43 ?re_43
      case hy_43 =>
        intro w hSw
        try dsimp only at hSw
        go_simp
        try with_reducible rfl
      simp only [Act.put, List.setIfInBounds_toArray, List.set_cons_zero, List.set_cons_succ]
      refine wpAnyH_ready (rs := [18]) (by kernel_rfl) (by simp) ?_
      refine AllReadyH.cons rfl (fun K hK => ?_) AllReadyH.nil
      go_simp
      have hfz := Lib.hid (show Below w1.heap.size w1 (wd.alloc (.cells #[.int .i64 (hc : Nat), .int .i64 ha] 98)) ∧ (wd.alloc (.cells #[.int .i64 (hc : Nat), .int .i64 ha] 98)).heap[wd.heap.size]? = some (.cells #[.int .i64 (hc : Nat), .int .i64 ha] 98 (0, 0)) from ⟨hDc.out.alloc hDc.out.size _, heap_alloc_new wd _⟩)
      refine hK.out _ _ ?_ (fun hHeld => ?_)
      · exact hSC.out _ hfz.out.1
      clear hK K
      try simp only [Act.put, List.setIfInBounds_toArray, List.set_cons_zero, List.set_cons_succ]
      refine wpAnyH_done (by kernel_rfl) ?_ _
      refine NoPanic.normal ?_
      go_wp2_with fail
      go_meet
      exact ⟨_, rfl, rfl, hfz⟩
    · go_simp
      have hDa := Lib.hid (((Below.refl w1.heap.size w1).alloc (Nat.le_refl _) (.cells #[.int .i64 0, .int .i64 0] 98)).drew)
      have hba := heap_down ((Below.refl _ _).drew) (heap_alloc_new w1 (.cells #[.int .i64 0, .int .i64 0] 98))
      refine hK.out _ _ ?_ (fun hHeld => ?_)
      · exact hSC.out _ hDa.out
      clear hK K
      try simp only [Act.put, List.setIfInBounds_toArray, List.set_cons_zero, List.set_cons_succ]
      refine wpAnyH_ready (rs := [12]) (by kernel_rfl) (by simp) ?_
      refine AllReadyH.cons rfl (fun K hK => ?_) AllReadyH.nil
      go_simp
      refine (hhr.out _ (below_trans hB1.out hDa.out)).mono ?_
      rintro e wd ⟨rfl, hb⟩
      have hDc := Lib.hid (below_trans hDa.out hb)
      have hrow := heap_down hb hba
      obtain ⟨_, f0, f1⟩ := twoC_cells hrow
      have hrow := Lib.hid hrow
      clear hb
      go_wp2_with fail
      refine hK.out _ _ ?_ (fun hHeld => ?_)
      · exact hSC.out _ hDc.out
      clear hK K
      try simp only [Act.put, List.setIfInBounds_toArray, List.set_cons_zero, List.set_cons_succ]
      refine' held_take (i := 13) (d := some 242) (v := _) rfl rfl (by kernel_rfl) (by kernel_rfl) (by kernel_rfl) (fun _ _ _ h => h) rfl (by assumption) ?hy_44 ?re_44
      case hy_44 =>
        intro w hSw
        try dsimp only at hSw
        go_simp
        try with_reducible rfl
      simp only [Act.put, List.setIfInBounds_toArray, List.set_cons_zero, List.set_cons_succ]
      refine' held_take (i := 14) (d := some 256) (v := _) rfl rfl (by kernel_rfl) (by kernel_rfl) (by kernel_rfl) (fun _ _ _ h => h) rfl (by assumption) ?hy_45 ?re_45
      case hy_45 =>
        intro w hSw
        try dsimp only at hSw
        go_simp
        try with_reducible rfl
      simp only [Act.put, List.setIfInBounds_toArray, List.set_cons_zero, List.set_cons_succ]
      refine' held_take (i := 15) (d := some 257) (v := _) rfl rfl (by kernel_rfl) (by kernel_rfl) (by kernel_rfl) (fun _ _ _ h => h) rfl (by assumption) ?hy_46 ?re_46
      case hy_46 =>
        intro w hSw
        try dsimp only at hSw
        go_simp
        try with_reducible rfl
      simp only [Act.put, List.setIfInBounds_toArray, List.set_cons_zero, List.set_cons_succ]
      refine' held_take (i := 17) (d := some 38) (v := _) rfl rfl (by kernel_rfl) (by kernel_rfl) (by kernel_rfl) (fun _ _ _ h => h) rfl (by assumption) ?hy_47 ?re_47
      case hy_47 =>
        intro w hSw
        try dsimp only at hSw
        go_simp
        try with_reducible rfl
      simp only [Act.put, List.setIfInBounds_toArray, List.set_cons_zero, List.set_cons_succ]
      refine wpAnyH_ready (rs := [18]) (by kernel_rfl) (by simp) ?_
      refine AllReadyH.cons rfl (fun K hK => ?_) AllReadyH.nil
      go_simp
      have hfz := Lib.hid (And.intro (below_set2 hDc.out (Nat.le_refl w1.heap.size) (.int .i64 (hc : Nat)) (.int .i64 ha)) (row_set2 hrow.out (.int .i64 (hc : Nat)) (.int .i64 ha)))
      refine hK.out _ _ ?_ (fun hHeld => ?_)
      · exact hSC.out _ hfz.out.1
      clear hK K
      try simp only [Act.put, List.setIfInBounds_toArray, List.set_cons_zero, List.set_cons_succ]
      refine wpAnyH_done (by kernel_rfl) ?_ _
      refine NoPanic.normal ?_
      go_wp2_with fail
      go_meet
      exact ⟨_, rfl, rfl, hfz⟩
  obtain ⟨xt, rfl, rfl, hX⟩ := hcut
  obtain ⟨hX1, hX2⟩ := hX.out
  obtain ⟨y0, y1⟩ := (twoC_cells hX2).1
  have hev2 := Lib.hid (hev1.out.below hX1)
  have hO2 := Lib.hid (hO0.out.trans (Ok.of_below hM0.out.hb (below_trans hB1.out hX1)))
  have hM2 := Lib.hid (hM0.out.below (below_trans hB1.out hX1))
  clear hX hX1 hX2 hD0 hSC hhr hcw
  generalize wc = w2 at *
  have hfl := Lib.hid (hfl.out ev hc ha w2 hO2.out.below hev2.out hcl)
  go_wp2_with fail
  refine hfl.out.mono ?_
  rintro e w3 ⟨rfl, hb⟩
  have hO3 := Lib.hid (hO2.out.trans (Ok.of_below hM2.out.hb hb))
  have hM3 := Lib.hid (hM2.out.below hb)
  clear hb
  go_wp2_with fail
  go_ret2
  exact ⟨ret_arm hq.out, by rw [hq.out]; exact hM3.out, hO3.out⟩
end Go.Proofs.YtkhphdkjnpcnnaaGreatDoor
