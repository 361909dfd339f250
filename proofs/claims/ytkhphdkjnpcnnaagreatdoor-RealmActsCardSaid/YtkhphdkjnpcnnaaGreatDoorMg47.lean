/- RealmA -/
import Derived.Test.YtkhphdkjnpcnnaaGreatDoorMg44
import Derived.Test.YtkhphdkjnpcnnaaGreatDoorMg45
import Derived.Test.YtkhphdkjnpcnnaaGreatDoorMg42
import Derived.Test.YtkhphdkjnpcnnaaGreatDoorMg46
import Derived.Test.YtkhphdkjnpcnnaaGreatDoorMg34
/- RealmActs: walked. -/
namespace Go.Proofs.YtkhphdkjnpcnnaaGreatDoor
open Go.RowKit

set_option maxHeartbeats 32000000 in
set_option maxRecDepth 100000 in
theorem realmActs_any {E : Nat → Addr} (key long : Int) (v : Value) (M : List AskV) (w : World) (hL : LaidF E w) (hM : AtG askC w v M) (hm : ∀ n ∈ M, AskLen n) :
    Calls Tryz.prog 5 #[.int .i64 key, .int .i64 long, v] w fun e w' => e = .returned (.bool true) ∧ Below w.heap.size w w' := by
  have hLw := Lib.hid (fun wx (hx : Below w.heap.size w wx) => hL.below hx)
  have hMv := Lib.hid (fun wx (hx : Below w.heap.size w wx) => (show AtG askC wx v M from AtG.below hM hx))
  have hrg := Lib.hid (reigned_any (E := E) w hL.s)
  have hln := Lib.hid (fun wx (hx : Below w.heap.size w wx) => longQ_any v M 70 wx (hMv.out wx hx) hm)
  obtain ⟨an, cn, hn0⟩ := AtG.sl hM
  have hnl := AtG.len hM
  unfold maxLen at hnl
  subst hn0
  clear hL hm hM
  go_enter Tryz.func5, Tryz.ntmps5
  go_wp2_with fail
  refine hrg.out.mono ?_
  rintro e w1 ⟨rfl, hb1⟩
  have hln1 := hln.out _ hb1
  have hb1 := Lib.hid hb1
  clear hrg hln
  cases hlo : longQ 70 M with
  | true =>
    rw [hlo] at hln1
    have hln1 := Lib.hid hln1
    clear hlo
    go_wp2_with fail
    refine hln1.out.mono ?_
    rintro e w2 ⟨rfl, rfl⟩
    go_wp2_with fail
    go_ret
    exact ⟨rfl, hb1.out⟩
  | false =>
  rw [hlo] at hln1
  have hln1 := Lib.hid hln1
  have hM50 := (longQ_false hlo).1
  have hMq := Lib.hid (longQ_false hlo).2
  clear hlo
  by_cases hz : newE key long = 0
  case neg =>
    have hnp := Lib.hid (newP_bad hz w1 (hLw.out _ hb1.out).s.laid)
    have hnr := Lib.hid (fun wx => newR_bad hz wx)
    have hcd := Lib.hid (fun wx (hx : Below w.heap.size w wx) => coded_same (E := E) (newE key long) wx (hLw.out wx hx).r (newE_code key long))
    obtain ⟨T1, x1, hev⟩ := errV_ifc E hz
    rw [hev] at hnp hcd
    have hz1 : (0 : Int) < (newE key long : Int) := by omega
    generalize (newE key long : Int) = zi at *
    clear hev hz
    go_wp2_with fail
    refine hln1.out.mono ?_
    rintro e w2 ⟨rfl, rfl⟩
    go_wp2_with fail
    refine hnp.out.mono ?_
    rintro e w2 ⟨rfl, hb⟩
    have hb2 := Lib.hid (below_trans hb1.out hb)
    clear hb
    go_wp2_with fail
    refine (hnr.out _).mono ?_
    rintro e w3 ⟨rfl, hb⟩
    have hb3 := Lib.hid (below_trans hb2.out hb)
    clear hb
    go_wp2_with fail
    refine (hcd.out _ hb3.out).mono ?_
    rintro e w4 ⟨rfl, hb⟩
    have hb4 := Lib.hid (below_trans hb3.out hb)
    clear hb
    go_wp2_with fail
    go_ret
    exact ⟨rfl, hb4.out⟩
  have hG0 := Lib.hid (newE_good hz)
  have hnp := Lib.hid (newP_good hz w1 (hLw.out _ hb1.out).s.laid)
  have hnr := Lib.hid (fun wx => newR_good hz wx)
  clear hz
  go_wp2_with fail
  refine hln1.out.mono ?_
  rintro e w2 ⟨rfl, rfl⟩
  go_wp2_with fail
  refine hnp.out.mono ?_
  rintro e w2 ⟨⟨ra, rb0, rr0, rfl, hP⟩, hb⟩
  have hb2 := Lib.hid (below_trans hb1.out hb)
  have hP := Lib.hid (hP.mono hb1.out.size)
  clear hb hnp hln1
  go_wp2_with fail
  refine (hnr.out _).mono ?_
  rintro e w3 ⟨⟨rm, rb1, rfl, hR⟩, hb⟩
  have hb3 := Lib.hid (below_trans hb2.out hb)
  have hS3 := Lib.hid (show MidR w.heap.size ra rm (newRlm key long) (newRlm key long) w3 from ⟨hb3.out.size, ⟨_, _, hP.out.below hb⟩, _, hR.mono hb2.out.size⟩)
  clear hb hnr hP hR hb1 hb2
  go_wp2_with fail
  go_loopg [12, 13] (M.length + 1) (fun g s12 s13 wr => ∃ (j : Nat) (la : List UInt8) (R : Rlm), s12 = .string (bs la) ∧ s13 = .int .i64 j ∧ j ≤ M.length ∧ M.length - j + 1 ≤ g ∧ Hid (GoodM R ∧ R.serial ≤ 1 + j ∧ la.length ≤ 1000) ∧ Hid (MidR w.heap.size ra rm R R wr) ∧ Hid (Below w.heap.size w wr))
  case atStart => exact ⟨0, [], newRlm key long, rfl, rfl, Nat.zero_le _, by omega, Lib.hid ⟨hG0.out, by show (1 : Int) ≤ _; omega, by decide⟩, hS3, hb3⟩
  case round =>
    clear hS3 hb3 hG0
    obtain ⟨j, la, R, rfl, rfl, hj, hg, hO, hS, hKw⟩ := hrel
    by_cases hlt : j < M.length
    · obtain ⟨_, _, he, _, _, _, hcs⟩ := hMv.out _ hKw.out
      cases he
      obtain ⟨bb, oo, rfl, hc⟩ := hcs j hlt
      have hnq := hMq.out M[j] (List.getElem_mem hlt)
      have d0 : wr.cell? ⟨bb, oo + j * 6, none⟩ = some (.string (bs M[j].kind)) := hc 0 _ rfl
      have d1 : wr.cell? ⟨bb, oo + j * 6 + 1, none⟩ = some (.string (bs M[j].a)) := hc 1 _ rfl
      have d2 : wr.cell? ⟨bb, oo + j * 6 + 2, none⟩ = some (.string (bs M[j].b)) := hc 2 _ rfl
      have d3 : wr.cell? ⟨bb, oo + j * 6 + 3, none⟩ = some (.string (bs M[j].s)) := hc 3 _ rfl
      have d4 : wr.cell? ⟨bb, oo + j * 6 + 4, none⟩ = some (.int .i64 M[j].n) := hc 4 _ rfl
      have d5 : wr.cell? ⟨bb, oo + j * 6 + 5, none⟩ = some (.bool M[j].is) := hc 5 _ rfl
      have hak := Lib.hid (asked_any (E := E) M[j] la wr (fun wx hx => hLw.out wx (hKw.out.trans hx)) hS.out hO.out.1 hnq hO.out.2.2)
      have hser := ask_serial R M[j] la
      have hlen := ask_len R M[j] la
      have hG' := Lib.hid (hO.out.1.ask M[j] la)
      generalize askM R M[j] la = am at *
      generalize M[j] = nn at *
      obtain ⟨kd, ka, kb, ks, kn, ki⟩ := nn
      obtain ⟨at_, R'⟩ := am
      dsimp only at *
      clear hcs hc hnq
      have hk0 : (0 : Int) ≤ (j : Int) := by omega
      have hk1 : (j : Int) < (M.length : Int) := by omega
      have hO' := hO.out.2.1
      go_wp2_with fail
      refine hak.out.mono ?_
      rintro e w4 ⟨rfl, hS4, hOk⟩
      have hS4 := Lib.hid hS4
      have hK4 := Lib.hid (hKw.out.trans hOk.below)
      clear hOk hak d0 d1 d2 d3 d4 d5
      have htm := Lib.hid (hS4.out.below ((Below.refl w4.heap.size w4).drew)).time
      have hS4d := Lib.hid (hS4.out.below ((Below.refl w4.heap.size w4).drew))
      have hK4d := Lib.hid (show Below w.heap.size w w4.drew from hK4.out.drew)
      have hlen' := Lib.hid hlen
      by_cases he : at_ = []
      · subst he
        have he1 : ((bs ([] : List UInt8)).toList == []) = true := by rw [toList_data, bs_list]; rfl
        have he2 : (bs ([] : List UInt8)).toList = [] := by rw [toList_data, bs_list]
        go_upto_region 15 with fail
        refine wp_region_noPanic ?_
        refine wp_region_held_drew (S := fun wx => wx.cell? ⟨rm, 2, none⟩ = some (.int .i64 R'.time)) (by kernel_rfl) ?_ (fun hHeld => ?_)
        · exact hS4d.out.timeR
        refine' held_take (i := 0) (d := some 69) (v := _) rfl rfl (by kernel_rfl) (by kernel_rfl) (by kernel_rfl) (fun _ _ _ h => h) rfl (by assumption) ?hy_1 ?re_1
        case hy_1 =>
          intro w hSw
          try dsimp only at hSw
          go_simp
          try with_reducible rfl
        simp only [Act.put, List.setIfInBounds_toArray, List.set_cons_zero, List.set_cons_succ]
        refine' held_take (i := 1) (d := some 70) (v := _) rfl rfl (by kernel_rfl) (by kernel_rfl) (by kernel_rfl) (fun _ _ _ h => h) rfl (by assumption) ?hy_2 ?re_2
        case hy_2 =>
          intro w hSw
          try dsimp only at hSw
          go_simp
          try with_reducible rfl
        simp only [Act.put, List.setIfInBounds_toArray, List.set_cons_zero, List.set_cons_succ]
        try simp only [ne_eq, not_true_eq_false, not_false_eq_true, decide_false, decide_true, bne_self_eq_false, beq_self_eq_true, Bool.not_true, Bool.not_false]
        refine' held_take (i := 2) (d := some 71) (v := _) rfl rfl (by kernel_rfl) (by kernel_rfl) (by kernel_rfl) (fun _ _ _ h => h) rfl (by assumption) ?hy_3 ?re_3
        case hy_3 =>
          intro w hSw
          try dsimp only at hSw
          go_simp
          try with_reducible rfl
        simp only [Act.put, List.setIfInBounds_toArray, List.set_cons_zero, List.set_cons_succ]
        refine' held_take (i := 3) (d := some 72) (v := _) rfl rfl (by kernel_rfl) (by kernel_rfl) (by kernel_rfl) (fun _ _ _ h => h) rfl (by assumption) ?hy_4 ?re_4
        case hy_4 =>
          intro w hSw
          try dsimp only at hSw
          go_simp
          try with_reducible rfl
        simp only [Act.put, List.setIfInBounds_toArray, List.set_cons_zero, List.set_cons_succ]
        refine' held_take (i := 5) (d := some 74) (v := _) rfl rfl (by kernel_rfl) (by kernel_rfl) (by kernel_rfl) (fun _ _ _ h => h) rfl (by assumption) ?hy_5 ?re_5
        case hy_5 =>
          intro w hSw
          try dsimp only at hSw
          go_simp
          try with_reducible rfl
        simp only [Act.put, List.setIfInBounds_toArray, List.set_cons_zero, List.set_cons_succ]
        refine' held_take (i := 6) (d := some 75) (v := _) rfl rfl (by kernel_rfl) (by kernel_rfl) (by kernel_rfl) (fun _ _ _ h => h) rfl (by assumption) ?hy_6 ?re_6
        case hy_6 =>
          intro w hSw
          try dsimp only at hSw
          go_simp
          try with_reducible rfl
        simp only [Act.put, List.setIfInBounds_toArray, List.set_cons_zero, List.set_cons_succ]
        refine' held_take (i := 7) (d := some 76) (v := _) rfl rfl (by kernel_rfl) (by kernel_rfl) (by kernel_rfl) (fun _ _ _ h => h) rfl (by assumption) ?hy_7 ?re_7
        case hy_7 =>
          intro w hSw
          try dsimp only at hSw
          go_simp
          try with_reducible rfl
        simp only [Act.put, List.setIfInBounds_toArray, List.set_cons_zero, List.set_cons_succ]
        refine' held_take (i := 8) (d := some 77) (v := _) rfl rfl (by kernel_rfl) (by kernel_rfl) (by kernel_rfl) (fun _ _ _ h => h) rfl (by assumption) ?hy_8 ?re_8
        case hy_8 =>
          intro w hSw
          try dsimp only at hSw
          go_simp
          try with_reducible rfl
        simp only [Act.put, List.setIfInBounds_toArray, List.set_cons_zero, List.set_cons_succ]
        refine wpAnyH_ready (rs := [4]) (by kernel_rfl) (by simp) ?_
        refine AllReadyH.cons rfl (fun K hK => ?_) AllReadyH.nil
        go_simp
        refine htm.out.mono ?_
        rintro e wd ⟨rfl, rfl⟩
        go_wp2_with fail
        refine hK.out _ _ ?_ (fun hHeld => ?_)
        · exact hS4d.out.timeR
        clear hK K
        try simp only [Act.put, List.setIfInBounds_toArray, List.set_cons_zero, List.set_cons_succ]
        refine' held_take (i := 9) (d := some 78) (v := _) rfl rfl (by kernel_rfl) (by kernel_rfl) (by kernel_rfl) (fun _ _ _ h => h) rfl (by assumption) ?hy_9 ?re_9
        case hy_9 =>
          intro w hSw
          try dsimp only at hSw
          go_simp
          try with_reducible rfl
        simp only [Act.put, List.setIfInBounds_toArray, List.set_cons_zero, List.set_cons_succ]
        try simp only [ne_eq, not_true_eq_false, not_false_eq_true, decide_false, decide_true, bne_self_eq_false, beq_self_eq_true, Bool.not_true, Bool.not_false]
        refine' held_take (i := 10) (d := some 79) (v := _) rfl rfl (by kernel_rfl) (by kernel_rfl) (by kernel_rfl) (fun _ _ _ h => h) rfl (by assumption) ?hy_10 ?re_10
        case hy_10 =>
          intro w hSw
          try dsimp only at hSw
          go_simp
          try with_reducible rfl
        simp only [Act.put, List.setIfInBounds_toArray, List.set_cons_zero, List.set_cons_succ]
        try simp only [ne_eq, not_true_eq_false, not_false_eq_true, decide_false, decide_true, bne_self_eq_false, beq_self_eq_true, Bool.not_true, Bool.not_false]
        refine wpAnyH_done (by kernel_rfl) ?_ _
        refine NoPanic.normal ?_
        go_wp2_with fail
        go_roundg (M.length - j)
        case measure => omega
        case rel => exact ⟨j + 1, la, R', rfl, by simp, hlt, by omega, Lib.hid ⟨hG'.out, by omega, hO.out.2.2⟩, hS4d, hK4d⟩
      · have he1 : ((bs at_).toList == []) = false := by rw [toList_data, bs_list, beq_eq_false_iff_ne]; exact he
        go_upto_region 15 with fail
        refine wp_region_noPanic ?_
        refine wp_region_held_drew (S := fun wx => wx.cell? ⟨rm, 2, none⟩ = some (.int .i64 R'.time)) (by kernel_rfl) ?_ (fun hHeld => ?_)
        · exact hS4d.out.timeR
        refine' held_take (i := 0) (d := some 69) (v := _) rfl rfl (by kernel_rfl) (by kernel_rfl) (by kernel_rfl) (fun _ _ _ h => h) rfl (by assumption) ?hy_11 ?re_11
        case hy_11 =>
          intro w hSw
          try dsimp only at hSw
          go_simp
          try with_reducible rfl
        simp only [Act.put, List.setIfInBounds_toArray, List.set_cons_zero, List.set_cons_succ]
        refine' held_take (i := 1) (d := some 70) (v := _) rfl rfl (by kernel_rfl) (by kernel_rfl) (by kernel_rfl) (fun _ _ _ h => h) rfl (by assumption) ?hy_12 ?re_12
        case hy_12 =>
          intro w hSw
          try dsimp only at hSw
          go_simp
          try with_reducible rfl
        simp only [Act.put, List.setIfInBounds_toArray, List.set_cons_zero, List.set_cons_succ]
        try simp only [ne_eq, not_true_eq_false, not_false_eq_true, decide_false, decide_true, bne_self_eq_false, beq_self_eq_true, Bool.not_true, Bool.not_false]
        refine' held_take (i := 2) (d := some 71) (v := _) rfl rfl (by kernel_rfl) (by kernel_rfl) (by kernel_rfl) (fun _ _ _ h => h) rfl (by assumption) ?hy_13 ?re_13
        case hy_13 =>
          intro w hSw
          try dsimp only at hSw
          go_simp
          try with_reducible rfl
        simp only [Act.put, List.setIfInBounds_toArray, List.set_cons_zero, List.set_cons_succ]
        refine' held_take (i := 3) (d := some 72) (v := _) rfl rfl (by kernel_rfl) (by kernel_rfl) (by kernel_rfl) (fun _ _ _ h => h) rfl (by assumption) ?hy_14 ?re_14
        case hy_14 =>
          intro w hSw
          try dsimp only at hSw
          go_simp
          try with_reducible rfl
        simp only [Act.put, List.setIfInBounds_toArray, List.set_cons_zero, List.set_cons_succ]
        refine' held_take (i := 5) (d := some 74) (v := _) rfl rfl (by kernel_rfl) (by kernel_rfl) (by kernel_rfl) (fun _ _ _ h => h) rfl (by assumption) ?hy_15 ?re_15
        case hy_15 =>
          intro w hSw
          try dsimp only at hSw
          go_simp
          try with_reducible rfl
        simp only [Act.put, List.setIfInBounds_toArray, List.set_cons_zero, List.set_cons_succ]
        refine' held_take (i := 6) (d := some 75) (v := _) rfl rfl (by kernel_rfl) (by kernel_rfl) (by kernel_rfl) (fun _ _ _ h => h) rfl (by assumption) ?hy_16 ?re_16
        case hy_16 =>
          intro w hSw
          try dsimp only at hSw
          go_simp
          try with_reducible rfl
        simp only [Act.put, List.setIfInBounds_toArray, List.set_cons_zero, List.set_cons_succ]
        refine' held_take (i := 7) (d := some 76) (v := _) rfl rfl (by kernel_rfl) (by kernel_rfl) (by kernel_rfl) (fun _ _ _ h => h) rfl (by assumption) ?hy_17 ?re_17
        case hy_17 =>
          intro w hSw
          try dsimp only at hSw
          go_simp
          try with_reducible rfl
        simp only [Act.put, List.setIfInBounds_toArray, List.set_cons_zero, List.set_cons_succ]
        refine' held_take (i := 8) (d := some 77) (v := _) rfl rfl (by kernel_rfl) (by kernel_rfl) (by kernel_rfl) (fun _ _ _ h => h) rfl (by assumption) ?hy_18 ?re_18
        case hy_18 =>
          intro w hSw
          try dsimp only at hSw
          go_simp
          try with_reducible rfl
        simp only [Act.put, List.setIfInBounds_toArray, List.set_cons_zero, List.set_cons_succ]
        refine wpAnyH_ready (rs := [4]) (by kernel_rfl) (by simp) ?_
        refine AllReadyH.cons rfl (fun K hK => ?_) AllReadyH.nil
        go_simp
        refine htm.out.mono ?_
        rintro e wd ⟨rfl, rfl⟩
        go_wp2_with fail
        refine hK.out _ _ ?_ (fun hHeld => ?_)
        · exact hS4d.out.timeR
        clear hK K
        try simp only [Act.put, List.setIfInBounds_toArray, List.set_cons_zero, List.set_cons_succ]
        refine' held_take (i := 9) (d := some 78) (v := _) rfl rfl (by kernel_rfl) (by kernel_rfl) (by kernel_rfl) (fun _ _ _ h => h) rfl (by assumption) ?hy_19 ?re_19
        case hy_19 =>
          intro w hSw
          try dsimp only at hSw
          go_simp
          try with_reducible rfl
        simp only [Act.put, List.setIfInBounds_toArray, List.set_cons_zero, List.set_cons_succ]
        try simp only [ne_eq, not_true_eq_false, not_false_eq_true, decide_false, decide_true, bne_self_eq_false, beq_self_eq_true, Bool.not_true, Bool.not_false]
        refine' held_take (i := 10) (d := some 79) (v := _) rfl rfl (by kernel_rfl) (by kernel_rfl) (by kernel_rfl) (fun _ _ _ h => h) rfl (by assumption) ?hy_20 ?re_20
        case hy_20 =>
          intro w hSw
          try dsimp only at hSw
          go_simp
          try with_reducible rfl
        simp only [Act.put, List.setIfInBounds_toArray, List.set_cons_zero, List.set_cons_succ]
        try simp only [ne_eq, not_true_eq_false, not_false_eq_true, decide_false, decide_true, bne_self_eq_false, beq_self_eq_true, Bool.not_true, Bool.not_false]
        refine wpAnyH_done (by kernel_rfl) ?_ _
        refine NoPanic.normal ?_
        go_wp2_with fail
        go_roundg (M.length - j)
        case measure => omega
        case rel => exact ⟨j + 1, at_, R', rfl, by simp, hlt, by omega, Lib.hid ⟨hG'.out, by omega, by have := hlen'.out; omega⟩, hS4d, hK4d⟩
    · have hge : ¬ ((j : Int) < (M.length : Int)) := by omega
      have hG := Lib.hid hO.out.1
      clear hlt hj hg hMv hMq hO
      obtain ⟨hbase, ⟨bp, rp, hP⟩, bm, hR⟩ := hS.out
      have hcp := Lib.hid (copyM_any wr hP (feed_len hG.out))
      have hPw := Lib.hid hP
      have hRw := Lib.hid hR
      clear hS hP hR hbase
      go_wp2_with fail
      refine hcp.out.mono ?_
      rintro e w4 ⟨a2, b2, r2, rfl, hC, hb⟩
      have hK4 := Lib.hid (below_trans hKw.out hb)
      have hP4 := hPw.out.below hb
      have hR4 := hRw.out.below hb
      clear hb hKw hcp hPw hRw
      obtain ⟨al, cl, ⟨_, _, _, _, c4, c5⟩, _, hrow⟩ := hR4.cells
      have hbkR := hR4.book
      obtain ⟨vB, k0, kO, _, _⟩ := hbkR.at0
      have hpB := (persAt_of_ownsRow (by have := hG.out.b.many; unfold maxLen; omega) kO).1
      have hsm := Lib.hid (fun wx (hx : Below w4.heap.size w4 wx) => sameM_any wx (hP4.below hx) (hC.below hx) hG.out.b)
      have hpe := Lib.hid (fun wx (hx : Below w4.heap.size w4 wx) => peopleM_any wx (hP4.below hx) hG.out.b)
      have hfe := Lib.hid (fun wx (hx : Below w4.heap.size w4 wx) => feedM_any wx (hP4.below hx) (feed_len hG.out))
      have hsp := Lib.hid (fun vp wx (hx : Below w4.heap.size w4 wx) (hv : PersAt wx vp R.b) => same_any vp vB R.b wx hv (hpB.below hx))
      have hse := Lib.hid (fun vf wx (hx : Below w4.heap.size w4 wx) (hv : EntsAt wx vf R.l) => same_ent vf (.slice al R.l.length cl) R.l wx hv (RowG.at_ (hrow.below hx)))
      have hSB := Lib.hid (fun wx (hx : Below w4.heap.size w4 wx) => (show (wx.cell? ⟨rm, 4, none⟩ = some (.pointer (some ⟨bm, 0, none⟩)) ∧ wx.cell? ⟨rm, 5, none⟩ = some (.slice al R.l.length cl)) ∧ wx.cell? ⟨bm, 0, none⟩ = some vB from ⟨⟨cell_below hx c4, cell_below hx c5⟩, cell_below hx k0⟩))
      have hD0 := Lib.hid (show Below w4.heap.size w4 w4.drew from (Below.refl _ _).drew)
      clear hC hP4 hR4 hrow hbkR kO k0 hpB c4 c5
      go_upto_region 20 with fail
      refine wp_region_noPanic ?_
      refine wp_region_held_drew (S := fun wx => (wx.cell? ⟨rm, 4, none⟩ = some (.pointer (some ⟨bm, 0, none⟩)) ∧ wx.cell? ⟨rm, 5, none⟩ = some (.slice al R.l.length cl)) ∧ wx.cell? ⟨bm, 0, none⟩ = some vB) (by kernel_rfl) ?_ (fun hHeld => ?_)
      · exact hSB.out _ hD0.out
      refine' held_take (i := 0) (d := some 85) (v := _) rfl rfl (by kernel_rfl) (by kernel_rfl) (by kernel_rfl) (fun _ _ _ h => h) rfl (by assumption) ?hy_21 ?re_21
      case hy_21 =>
        intro w hSw
        try dsimp only at hSw
        go_simp
        try with_reducible rfl
      simp only [Act.put, List.setIfInBounds_toArray, List.set_cons_zero, List.set_cons_succ]
      refine' held_take (i := 1) (d := some 86) (v := _) rfl rfl (by kernel_rfl) (by kernel_rfl) (by kernel_rfl) (fun _ _ _ h => h) rfl (by assumption) ?hy_22 ?re_22
      case hy_22 =>
        intro w hSw
        try dsimp only at hSw
        go_simp
        try with_reducible rfl
      simp only [Act.put, List.setIfInBounds_toArray, List.set_cons_zero, List.set_cons_succ]
      refine wpAnyH_ready (rs := [2]) (by kernel_rfl) (by simp) ?_
      refine AllReadyH.cons rfl (fun K hK => ?_) AllReadyH.nil
      go_simp
      refine (hsm.out _ hD0.out).mono ?_
      rintro e wd1 ⟨rfl, hb⟩
      have hD1 := Lib.hid (below_trans hD0.out hb)
      clear hb
      go_wp2_with fail
      refine hK.out _ _ ?_ (fun hHeld => ?_)
      · exact hSB.out _ hD1.out
      clear hK K
      try simp only [Act.put, List.setIfInBounds_toArray, List.set_cons_zero, List.set_cons_succ]
      refine' held_take (i := 3) (d := some 88) (v := _) rfl rfl (by kernel_rfl) (by kernel_rfl) (by kernel_rfl) (fun _ _ _ h => h) rfl (by assumption) ?hy_23 ?re_23
      case hy_23 =>
        intro w hSw
        try dsimp only at hSw
        go_simp
        try with_reducible rfl
      simp only [Act.put, List.setIfInBounds_toArray, List.set_cons_zero, List.set_cons_succ]
      refine' held_take (i := 4) (d := some 89) (v := _) rfl rfl (by kernel_rfl) (by kernel_rfl) (by kernel_rfl) (fun _ _ _ h => h) rfl (by assumption) ?hy_24 ?re_24
      case hy_24 =>
        intro w hSw
        try dsimp only at hSw
        go_simp
        try with_reducible rfl
      simp only [Act.put, List.setIfInBounds_toArray, List.set_cons_zero, List.set_cons_succ]
      refine wpAnyH_ready (rs := [5]) (by kernel_rfl) (by simp) ?_
      refine AllReadyH.cons rfl (fun K hK => ?_) AllReadyH.nil
      go_simp
      refine (sameM_none ra _).mono ?_
      rintro e wd2 ⟨rfl, hb⟩
      have hD2 := Lib.hid (below_trans hD1.out hb)
      clear hb
      go_wp2_with fail
      refine hK.out _ _ ?_ (fun hHeld => ?_)
      · exact hSB.out _ hD2.out
      clear hK K
      try simp only [Act.put, List.setIfInBounds_toArray, List.set_cons_zero, List.set_cons_succ]
      refine' held_take (i := 6) (d := some 91) (v := _) rfl rfl (by kernel_rfl) (by kernel_rfl) (by kernel_rfl) (fun _ _ _ h => h) rfl (by assumption) ?hy_25 ?re_25
      case hy_25 =>
        intro w hSw
        try dsimp only at hSw
        go_simp
        try with_reducible rfl
      simp only [Act.put, List.setIfInBounds_toArray, List.set_cons_zero, List.set_cons_succ]
      try simp only [ne_eq, not_true_eq_false, not_false_eq_true, decide_false, decide_true, bne_self_eq_false, beq_self_eq_true, Bool.not_true, Bool.not_false]
      refine' held_take (i := 7) (d := some 92) (v := _) rfl rfl (by kernel_rfl) (by kernel_rfl) (by kernel_rfl) (fun _ _ _ h => h) rfl (by assumption) ?hy_26 ?re_26
      case hy_26 =>
        intro w hSw
        try dsimp only at hSw
        go_simp
        try with_reducible rfl
      simp only [Act.put, List.setIfInBounds_toArray, List.set_cons_zero, List.set_cons_succ]
      try simp only [ne_eq, not_true_eq_false, not_false_eq_true, decide_false, decide_true, bne_self_eq_false, beq_self_eq_true, Bool.not_true, Bool.not_false]
      refine' held_take (i := 8) (d := some 93) (v := _) rfl rfl (by kernel_rfl) (by kernel_rfl) (by kernel_rfl) (fun _ _ _ h => h) rfl (by assumption) ?hy_27 ?re_27
      case hy_27 =>
        intro w hSw
        try dsimp only at hSw
        go_simp
        try with_reducible rfl
      simp only [Act.put, List.setIfInBounds_toArray, List.set_cons_zero, List.set_cons_succ]
      refine wpAnyH_ready (rs := [9]) (by kernel_rfl) (by simp) ?_
      refine AllReadyH.cons rfl (fun K hK => ?_) AllReadyH.nil
      go_simp
      refine (sameM_nil _).mono ?_
      rintro e wd3 ⟨rfl, hb⟩
      have hD3 := Lib.hid (below_trans hD2.out hb)
      clear hb
      go_wp2_with fail
      refine hK.out _ _ ?_ (fun hHeld => ?_)
      · exact hSB.out _ hD3.out
      clear hK K
      try simp only [Act.put, List.setIfInBounds_toArray, List.set_cons_zero, List.set_cons_succ]
      refine' held_take (i := 10) (d := some 95) (v := _) rfl rfl (by kernel_rfl) (by kernel_rfl) (by kernel_rfl) (fun _ _ _ h => h) rfl (by assumption) ?hy_28 ?re_28
      case hy_28 =>
        intro w hSw
        try dsimp only at hSw
        go_simp
        try with_reducible rfl
      simp only [Act.put, List.setIfInBounds_toArray, List.set_cons_zero, List.set_cons_succ]
      try simp only [ne_eq, not_true_eq_false, not_false_eq_true, decide_false, decide_true, bne_self_eq_false, beq_self_eq_true, Bool.not_true, Bool.not_false]
      refine' held_take (i := 11) (d := some 96) (v := _) rfl rfl (by kernel_rfl) (by kernel_rfl) (by kernel_rfl) (fun _ _ _ h => h) rfl (by assumption) ?hy_29 ?re_29
      case hy_29 =>
        intro w hSw
        try dsimp only at hSw
        go_simp
        try with_reducible rfl
      simp only [Act.put, List.setIfInBounds_toArray, List.set_cons_zero, List.set_cons_succ]
      refine' held_take (i := 12) (d := some 97) (v := _) rfl rfl (by kernel_rfl) (by kernel_rfl) (by kernel_rfl) (fun _ _ _ h => h) rfl (by assumption) ?hy_30 ?re_30
      case hy_30 =>
        intro w hSw
        try dsimp only at hSw
        go_simp
        try with_reducible rfl
      simp only [Act.put, List.setIfInBounds_toArray, List.set_cons_zero, List.set_cons_succ]
      refine' held_take (i := 14) (d := some 99) (v := _) rfl rfl (by kernel_rfl) (by kernel_rfl) (by kernel_rfl) (fun _ _ _ h => h) rfl (by assumption) ?hy_31 ?re_31
      case hy_31 =>
        intro w hSw
        try dsimp only at hSw
        go_simp
        try with_reducible rfl
      simp only [Act.put, List.setIfInBounds_toArray, List.set_cons_zero, List.set_cons_succ]
      refine' held_take (i := 15) (d := some 100) (v := _) rfl rfl (by kernel_rfl) (by kernel_rfl) (by kernel_rfl) (fun _ _ _ h => h) rfl (by assumption) ?hy_32 ?re_32
      case hy_32 =>
        intro w hSw
        try dsimp only at hSw
        go_simp
        try with_reducible rfl
      simp only [Act.put, List.setIfInBounds_toArray, List.set_cons_zero, List.set_cons_succ]
      refine' held_take (i := 16) (d := some 101) (v := _) rfl rfl (by kernel_rfl) (by kernel_rfl) (by kernel_rfl) (fun _ _ _ h => h) rfl (by assumption) ?hy_33 ?re_33
      case hy_33 =>
        intro w hSw
        try dsimp only at hSw
        go_simp
        try with_reducible rfl
      simp only [Act.put, List.setIfInBounds_toArray, List.set_cons_zero, List.set_cons_succ]
      refine' held_take (i := 17) (d := some 102) (v := _) rfl rfl (by kernel_rfl) (by kernel_rfl) (by kernel_rfl) (fun _ _ _ h => h) rfl (by assumption) ?hy_34 ?re_34
      case hy_34 =>
        intro w hSw
        try dsimp only at hSw
        go_simp
        try with_reducible rfl
      simp only [Act.put, List.setIfInBounds_toArray, List.set_cons_zero, List.set_cons_succ]
      refine' held_take (i := 18) (d := some 103) (v := _) rfl rfl (by kernel_rfl) (by kernel_rfl) (by kernel_rfl) (fun _ _ _ h => h) rfl (by assumption) ?hy_35 ?re_35
      case hy_35 =>
        intro w hSw
        try dsimp only at hSw
        go_simp
        try with_reducible rfl
      simp only [Act.put, List.setIfInBounds_toArray, List.set_cons_zero, List.set_cons_succ]
      refine' held_take (i := 19) (d := some 104) (v := _) rfl rfl (by kernel_rfl) (by kernel_rfl) (by kernel_rfl) (fun _ _ _ h => h) rfl (by assumption) ?hy_36 ?re_36
      case hy_36 =>
        intro w hSw
        try dsimp only at hSw
        go_simp
        try with_reducible rfl
      simp only [Act.put, List.setIfInBounds_toArray, List.set_cons_zero, List.set_cons_succ]
      refine' held_take (i := 20) (d := some 105) (v := _) rfl rfl (by kernel_rfl) (by kernel_rfl) (by kernel_rfl) (fun _ _ _ h => h) rfl (by assumption) ?hy_37 ?re_37
      case hy_37 =>
        intro w hSw
        try dsimp only at hSw
        go_simp
        try with_reducible rfl
      simp only [Act.put, List.setIfInBounds_toArray, List.set_cons_zero, List.set_cons_succ]
      refine wpAnyH_ready (rs := [13]) (by kernel_rfl) (by simp) ?_
      refine AllReadyH.cons rfl (fun K hK => ?_) AllReadyH.nil
      go_simp
      refine (hpe.out _ hD3.out).mono ?_
      rintro e wd4 ⟨⟨vp, rfl, hvp, _⟩, hb⟩
      have hD4 := Lib.hid (below_trans hD3.out hb)
      have hvp := Lib.hid hvp
      clear hb
      go_wp2_with fail
      refine hK.out _ _ ?_ (fun hHeld => ?_)
      · exact hSB.out _ hD4.out
      clear hK K
      try simp only [Act.put, List.setIfInBounds_toArray, List.set_cons_zero, List.set_cons_succ]
      refine wpAnyH_ready (rs := [21]) (by kernel_rfl) (by simp) ?_
      refine AllReadyH.cons rfl (fun K hK => ?_) AllReadyH.nil
      go_simp
      refine (hsp.out vp _ hD4.out hvp.out).mono ?_
      rintro e wd5 ⟨rfl, hb⟩
      have hD5 := Lib.hid (below_trans hD4.out hb)
      clear hb
      go_wp2_with fail
      refine hK.out _ _ ?_ (fun hHeld => ?_)
      · exact hSB.out _ hD5.out
      clear hK K
      try simp only [Act.put, List.setIfInBounds_toArray, List.set_cons_zero, List.set_cons_succ]
      refine' held_take (i := 22) (d := some 107) (v := _) rfl rfl (by kernel_rfl) (by kernel_rfl) (by kernel_rfl) (fun _ _ _ h => h) rfl (by assumption) ?hy_38 ?re_38
      case hy_38 =>
        intro w hSw
        try dsimp only at hSw
        go_simp
        try with_reducible rfl
      simp only [Act.put, List.setIfInBounds_toArray, List.set_cons_zero, List.set_cons_succ]
      try simp only [ne_eq, not_true_eq_false, not_false_eq_true, decide_false, decide_true, bne_self_eq_false, beq_self_eq_true, Bool.not_true, Bool.not_false]
      refine' held_take (i := 23) (d := some 108) (v := _) rfl rfl (by kernel_rfl) (by kernel_rfl) (by kernel_rfl) (fun _ _ _ h => h) rfl (by assumption) ?hy_39 ?re_39
      case hy_39 =>
        intro w hSw
        try dsimp only at hSw
        go_simp
        try with_reducible rfl
      simp only [Act.put, List.setIfInBounds_toArray, List.set_cons_zero, List.set_cons_succ]
      try simp only [ne_eq, not_true_eq_false, not_false_eq_true, decide_false, decide_true, bne_self_eq_false, beq_self_eq_true, Bool.not_true, Bool.not_false]
      refine' held_take (i := 24) (d := some 109) (v := _) rfl rfl (by kernel_rfl) (by kernel_rfl) (by kernel_rfl) (fun _ _ _ h => h) rfl (by assumption) ?hy_40 ?re_40
      case hy_40 =>
        intro w hSw
        try dsimp only at hSw
        go_simp
        try with_reducible rfl
      simp only [Act.put, List.setIfInBounds_toArray, List.set_cons_zero, List.set_cons_succ]
      refine' held_take (i := 25) (d := some 110) (v := _) rfl rfl (by kernel_rfl) (by kernel_rfl) (by kernel_rfl) (fun _ _ _ h => h) rfl (by assumption) ?hy_41 ?re_41
      case hy_41 =>
        intro w hSw
        try dsimp only at hSw
        go_simp
        try with_reducible rfl
      simp only [Act.put, List.setIfInBounds_toArray, List.set_cons_zero, List.set_cons_succ]
      refine' held_take (i := 27) (d := some 112) (v := _) rfl rfl (by kernel_rfl) (by kernel_rfl) (by kernel_rfl) (fun _ _ _ h => h) rfl (by assumption) ?hy_42 ?re_42
      case hy_42 =>
        intro w hSw
        try dsimp only at hSw
        go_simp
        try with_reducible rfl
      simp only [Act.put, List.setIfInBounds_toArray, List.set_cons_zero, List.set_cons_succ]
      refine' held_take (i := 28) (d := some 113) (v := _) rfl rfl (by kernel_rfl) (by kernel_rfl) (by kernel_rfl) (fun _ _ _ h => h) rfl (by assumption) ?hy_43 ?re_43
      case hy_43 =>
        intro w hSw
        try dsimp only at hSw
        go_simp
        try with_reducible rfl
      simp only [Act.put, List.setIfInBounds_toArray, List.set_cons_zero, List.set_cons_succ]
      refine' held_take (i := 29) (d := some 114) (v := _) rfl rfl (by kernel_rfl) (by kernel_rfl) (by kernel_rfl) (fun _ _ _ h => h) rfl (by assumption) ?hy_44 ?re_44
      case hy_44 =>
        intro w hSw
        try dsimp only at hSw
        go_simp
        try with_reducible rfl
      simp only [Act.put, List.setIfInBounds_toArray, List.set_cons_zero, List.set_cons_succ]
      refine' held_take (i := 30) (d := some 115) (v := _) rfl rfl (by kernel_rfl) (by kernel_rfl) (by kernel_rfl) (fun _ _ _ h => h) rfl (by assumption) ?hy_45 ?re_45
      case hy_45 =>
        intro w hSw
        try dsimp only at hSw
        go_simp
        try with_reducible rfl
      simp only [Act.put, List.setIfInBounds_toArray, List.set_cons_zero, List.set_cons_succ]
      refine wpAnyH_ready (rs := [26]) (by kernel_rfl) (by simp) ?_
      refine AllReadyH.cons rfl (fun K hK => ?_) AllReadyH.nil
      go_simp
      refine (hfe.out _ hD5.out).mono ?_
      rintro e wd6 ⟨⟨vf, rfl, hvf⟩, hb⟩
      have hD6 := Lib.hid (below_trans hD5.out hb)
      have hvf := Lib.hid (RowG.at_ hvf)
      clear hb
      go_wp2_with fail
      refine hK.out _ _ ?_ (fun hHeld => ?_)
      · exact hSB.out _ hD6.out
      clear hK K
      try simp only [Act.put, List.setIfInBounds_toArray, List.set_cons_zero, List.set_cons_succ]
      refine wpAnyH_ready (rs := [31]) (by kernel_rfl) (by simp) ?_
      refine AllReadyH.cons rfl (fun K hK => ?_) AllReadyH.nil
      go_simp
      refine (hse.out vf _ hD6.out hvf.out).mono ?_
      rintro e wd7 ⟨rfl, hb⟩
      have hD7 := Lib.hid (below_trans hD6.out hb)
      clear hb
      go_wp2_with fail
      refine hK.out _ _ ?_ (fun hHeld => ?_)
      · exact hSB.out _ hD7.out
      clear hK K
      try simp only [Act.put, List.setIfInBounds_toArray, List.set_cons_zero, List.set_cons_succ]
      refine' held_take (i := 32) (d := some 117) (v := _) rfl rfl (by kernel_rfl) (by kernel_rfl) (by kernel_rfl) (fun _ _ _ h => h) rfl (by assumption) ?hy_46 ?re_46
      case hy_46 =>
        intro w hSw
        try dsimp only at hSw
        go_simp
        try with_reducible rfl
      simp only [Act.put, List.setIfInBounds_toArray, List.set_cons_zero, List.set_cons_succ]
      try simp only [ne_eq, not_true_eq_false, not_false_eq_true, decide_false, decide_true, bne_self_eq_false, beq_self_eq_true, Bool.not_true, Bool.not_false]
      refine' held_take (i := 33) (d := some 6) (v := _) rfl rfl (by kernel_rfl) (by kernel_rfl) (by kernel_rfl) (fun _ _ _ h => h) rfl (by assumption) ?hy_47 ?re_47
      case hy_47 =>
        intro w hSw
        try dsimp only at hSw
        go_simp
        try with_reducible rfl
      simp only [Act.put, List.setIfInBounds_toArray, List.set_cons_zero, List.set_cons_succ]
      refine wpAnyH_done (by kernel_rfl) ?_ _
      refine NoPanic.normal ?_
      have hfin := Lib.hid (below_trans hK4.out hD7.out)
      go_wp2_with fail
      go_ret
      exact ⟨rfl, hfin.out⟩
end Go.Proofs.YtkhphdkjnpcnnaaGreatDoor
