/- FedHL -/
import Derived.Test.YthbaicdohjbeeaaGreatDoorMg20
import Derived.Deep.CutRange
/- FeedHeads: walked. -/
namespace Go.Proofs.YthbaicdohjbeeaaGreatDoor
open Go.RowKit Go.Shelf Go.Lib

theorem floorsE_mem {L : List Ent} : ∀ g ∈ (floorsE L).1, g.who.length ≤ maxLen := by
  intro g hg
  by_cases h : (floorsE L).2.1 = 0
  · exact who_len ((floorsE_good h).g.one g hg)
  · rw [floorsE_bad h] at hg; cases hg
theorem FlRow.at2 {w : World} {base : Nat} {v : Value} {L : List Flo} (h : FlRow w base v L) : FloorsAt w v L := floorsAt_of (RowG.at_ (floRow_G.1 h))
set_option maxHeartbeats 8000000 in
set_option maxRecDepth 100000 in
theorem feedHeads_any {E : Nat → Addr} (key : Int) (v : Value) (L : List Ent) (time : Int) (f : Flo) (seq : Int) (nm : List UInt8) (w : World) (hL : LaidS E w) (hv : EntsAt w v L) (hm : ∀ e ∈ L, e.f.who.length ≤ maxLen) (hf : f.who.length ≤ maxLen) (hn : nm.length ≤ maxLen) :
    Calls Tryz.prog 3 #[.int .i64 key, v, .int .i64 time, f.val, .int .i64 seq, .string (bs nm)] w fun e w' => e = .returned (.bool true) ∧ Below w.heap.size w w' := by
  have hA : Below w.heap.size w (w.alloc (.cells f.cells.toArray 24)) := (Below.refl _ _).alloc (Nat.le_refl _) _
  have hbox := heap_alloc_new w (.cells f.cells.toArray 24)
  have hfd := Lib.hid (fed_any (E := E) _ (hL.below hA))
  have hEv := Lib.hid (fun wx (hx : Below w.heap.size w wx) => (show EntsAt wx v L from AtG.below hv hx))
  have hlg := Lib.hid (fun wx (hx : Below w.heap.size w wx) => long_ent v L wx (hEv.out wx hx) hm)
  have hck := Lib.hid (fun wx (hx : Below w.heap.size w wx) => check_ent (E := E) v L wx (hL.below hx).laid (hEv.out wx hx) hm)
  have hfl := Lib.hid (fun vx (M : List Ent) wx (hx : Below w.heap.size w wx) (hvx : EntsAt wx vx M) (hM : ∀ e ∈ M, e.f.who.length ≤ maxLen) => floors_ent (E := E) vx M wx (hL.below hx).laid hvx hM)
  have hmk := Lib.hid (fun wx (hx : Below w.heap.size w wx) => makeF_any (E := E) key v L time wx (hL.below hx) (hEv.out wx hx) hm)
  have hop := Lib.hid (fun wx (hx : Below w.heap.size w wx) => openF_any (E := E) key (bs (headOf key L time).1) wx (hL.below hx) (by rw [bs_size]; have := @headOf_len key L time; omega))
  have hsu := Lib.hid (fun vx wx (hx : Below w.heap.size w wx) (hvx : FloorsAt wx vx (floorsE L).1) => sum_flo (E := E) vx (floorsE L).1 wx (hL.below hx) hvx floorsE_mem)
  have hsi := Lib.hid (fun wx (hx : Below w.heap.size w wx) => since_ent (E := E) v L seq wx (hL.below hx).laid (hEv.out wx hx) hm)
  have had := Lib.hid (fun wx (hx : Below w.heap.size w wx) => add_ent (E := E) v L time f wx (hL.below hx).laid (hEv.out wx hx) hm hf)
  have hmM := Lib.hid (fun e (he : e ∈ L ++ [(⟨(L.length : Int) + 1, time, f⟩ : Ent)]) => (show e.f.who.length ≤ maxLen from by
    rcases List.mem_append.1 he with h | h
    · exact hm e h
    · obtain rfl := List.mem_singleton.1 h
      exact hf))
  have hmH := Lib.hid hm
  have hc5 : (checkE L).1 = 0 → headOf key L time = headOf key L time := fun _ => rfl
  obtain ⟨a0, c0, hv0⟩ := AtG.sl hv
  have hml := AtG.len hv
  unfold maxLen at hml hf hn
  have hcap : L.length ≤ c0 := by
    obtain ⟨_, _, he, _, h, _⟩ := hv
    rw [hv0] at he
    cases he
    exact h
  subst hv0
  have hsf := bs_size f.who
  have hsn := bs_size nm
  obtain ⟨fw, fe⟩ := f
  dsimp only [Flo.val, Flo.cells] at *
  have hAH := Lib.hid hA
  have hboxH := Lib.hid hbox
  clear hA hbox hL hm hv hc5
  go_enter Tryz.func3, Tryz.ntmps3
  go_wp2_with fail
  refine hfd.out.mono ?_
  rintro e w1 ⟨rfl, hb1⟩
  have hrow1 := Lib.hid (heap_down hb1 hboxH.out)
  have hbx := Lib.hid (fun wx (hx : Below w1.heap.size w1 wx) => (show wx.cell? ⟨w.heap.size, 0, none⟩ = some (.string (bs fw)) ∧ wx.cell? ⟨w.heap.size, 1, none⟩ = some (.int .i64 fe) from
    ⟨by rw [cell_of_row _ _ _ _ _ _ (heap_down hx hrow1.out)]; rfl, by rw [cell_of_row _ _ _ _ _ _ (heap_down hx hrow1.out)]; rfl⟩))
  have hb1 := Lib.hid (below_trans hAH.out hb1)
  have hlg1 := hlg.out _ hb1.out
  clear hfd hlg hboxH hrow1
  cases hlo : longE L with
  | true =>
    rw [show longEI L = 1 by unfold longEI; rw [if_pos hlo]] at hlg1
    have hlg1 := Lib.hid hlg1
    clear hlo
    go_wp2_with fail
    refine hlg1.out.mono ?_
    rintro e w2 ⟨rfl, hb2⟩
    obtain ⟨q0, q1⟩ := hbx.out _ hb2
    have hb2 := Lib.hid (below_trans hb1.out hb2)
    go_wp2_with fail
    go_ret
    exact ⟨rfl, hb2.out⟩
  | false =>
  rw [show longEI L = 0 by unfold longEI; rw [if_neg (by rw [hlo]; decide)]] at hlg1
  have hlg1 := Lib.hid hlg1
  have hl61 := (longE_false hlo).1
  clear hlo
  go_wp2_with fail
  refine hlg1.out.mono ?_
  rintro e w2 ⟨rfl, hb2⟩
  obtain ⟨q0, q1⟩ := hbx.out _ hb2
  have hC2 := Lib.hid hb2
  have hb2 := Lib.hid (below_trans hb1.out hb2)
  clear hlg1
  by_cases hf20 : 20 < fw.length
  case pos =>
    go_wp2_with fail
    go_ret
    exact ⟨rfl, hb2.out⟩
  by_cases hn20 : 20 < nm.length
  case pos =>
    have hf20i : ¬ (20 : Int) < (fw.length : Int) := by omega
    go_wp2_with fail
    go_ret
    exact ⟨rfl, hb2.out⟩
  have hf20i : ¬ (20 : Int) < (fw.length : Int) := by omega
  have hn20i : ¬ (20 : Int) < (nm.length : Int) := by omega
  go_wp2_with fail
  refine (hck.out _ hb2.out).mono ?_
  rintro e w3 ⟨ev3, rfl, he3, hb3⟩
  have hC3 := Lib.hid (below_trans hC2.out hb3)
  have hb3 := Lib.hid (below_trans hb2.out hb3)
  clear q0 q1 hck
  by_cases hc : (checkE L).1 = 0
  case neg =>
    obtain ⟨T3, x3, rfl⟩ := he3.iface hc
    clear he3
    go_wp2_with fail
    go_ret
    exact ⟨rfl, hb3.out⟩
  obtain ⟨rfl, _⟩ := he3.zero hc
  have hcH := Lib.hid hc
  have hl60 := (checkE_zero hc).1
  clear he3 hc hf20 hn20
  go_wp2_with fail
  refine (hfl.out _ L _ hb3.out (hEv.out _ hb3.out) hmH.out).mono ?_
  rintro e w4 ⟨⟨v4, ev4, rfl, hrow4, he4⟩, hb4⟩
  have hC4 := Lib.hid (below_trans hC3.out hb4)
  have hb4 := Lib.hid (below_trans hb3.out hb4)
  obtain ⟨a4, c4, hv4⟩ := hrow4.sl
  by_cases hfz : (floorsE L).2.1 = 0
  case neg =>
    obtain ⟨T4, x4, rfl⟩ := he4.iface hfz
    rw [floorsE_bad hfz] at hv4
    simp only [List.length_nil] at hv4
    subst hv4
    clear he4 hrow4
    go_wp2_with fail
    go_ret
    exact ⟨rfl, hb4.out⟩
  obtain ⟨rfl, _⟩ := he4.zero hfz
  have hfzH := Lib.hid hfz
  have hF4 := Lib.hid (fun wx (hx : Below w4.heap.size w4 wx) => (hrow4.below hx).at2)
  have hX4 := Lib.hid (fun wx (hx : Below w4.heap.size w4 wx) => below_trans hb4.out hx)
  have hbx4 := Lib.hid (fun wx (hx : Below w4.heap.size w4 wx) => hbx.out _ (below_trans hC4.out hx))
  have hmk4 := Lib.hid (hmk.out _ hb4.out)
  subst hv4
  clear he4 hrow4 hfz hmk
  go_wp2_with fail
  refine hmk4.out.mono ?_
  rintro e w5 ⟨⟨ev5, rfl, he5⟩, hb5⟩
  have hC5 := Lib.hid hb5
  generalize hdz : decide ((headOf key L time).2.1 = 0) = bz
  have hdzH := Lib.hid hdz
  clear hb5 hmk4
  go_upto_region 8 with fail
  go_cut [66] from 67 (fun s66 wx => s66 = .bool bz ∧ Hid (Below w4.heap.size w4 wx))
  case first =>
    by_cases hz : (headOf key L time).2.1 = 0
    · obtain ⟨rfl, _⟩ := he5.zero hz
      rw [decide_eq_true hz] at hdz
      subst hdz
      clear he5 hz
      go_wp2_with fail
      go_meet
      case rel => exact ⟨rfl, hC5⟩
    · obtain ⟨T5, x5, rfl⟩ := he5.iface hz
      rw [decide_eq_false hz] at hdz
      subst hdz
      clear he5 hz
      go_wp2_with fail
      go_meet
      case rel => exact ⟨rfl, hC5⟩
  case rest =>
  obtain ⟨rfl, hC5'⟩ := hcut
  clear he5 hdz hC5
  have hC5 := Lib.hid hC5'.out
  clear hC5'
  go_upto_if 66 with fail
  go_cut [] from 23 (fun wx => Hid (Below w4.heap.size w4 wx))
  case first =>
    cases bz with
    | false =>
      go_wp2_with fail
      go_meet
      case rel => exact hC5
    | true =>
    have hz := of_decide_eq_true hdzH.out
    have ho := (headOf_zero hz).2.2.2.2.2.2
    have hop5 := hop.out _ (hX4.out _ hC5.out)
    simp only [bs_list, ho, Hd.val, errV_zero] at hop5
    have hop5 := Lib.hid hop5
    clear ho hop hz
    generalize sumF (floorsE L).1 = sm at *
    go_wp2_with fail
    refine hop5.out.mono ?_
    rintro e w6 ⟨rfl, hb6⟩
    have hC6 := below_trans hC5.out hb6
    have hrow := heap_alloc_new w6 (.cells #[.int .i64 L.length, .int .i64 time, .int .i64 sm] 36)
    have hCX := hC6.alloc hC6.size (.cells #[.int .i64 L.length, .int .i64 time, .int .i64 sm] 36)
    clear hb6 hop5 hC6
    go_upto_region 10 with fail
    generalize hbd : w6.heap.size = box at *
    generalize w6.alloc (.cells #[.int .i64 L.length, .int .i64 time, .int .i64 sm] 36) = W at *
    clear hbd
    have hCXH := Lib.hid hCX
    have hkS := Lib.hid (fun (w' : World) (h : w'.heap[box]? = some (.cells #[.int .i64 L.length, .int .i64 time, .int .i64 sm] 36 (0, 0))) => (head_kept h).1)
    have hrD := Lib.hid (show W.drew.heap[box]? = some (.cells #[.int .i64 L.length, .int .i64 time, .int .i64 sm] 36 (0, 0)) from hrow)
    have hsu5 := Lib.hid (hsu.out _ _ (hX4.out _ (hCXH.out.drew)) (hF4.out _ (hCXH.out.drew)))
    have hcD := hkS.out _ hrD.out
    clear hCX hrow
    refine wp_region_noPanic ?_
    refine wp_region_held_drew (S := fun w' => w'.cell? ⟨box, 0, none⟩ = some (.int .i64 L.length) ∧ w'.cell? ⟨box, 1, none⟩ = some (.int .i64 time) ∧ w'.cell? ⟨box, 2, none⟩ = some (.int .i64 sm)) (by kernel_rfl) ?_ (fun hHeld => ?_)
    · exact hcD
    refine' held_take (i := 0) (d := some 73) (v := _) rfl rfl (by kernel_rfl) (by kernel_rfl) (by kernel_rfl) (fun _ _ _ h => h) rfl (by assumption) ?hy_1 ?re_1
    case hy_1 =>
      intro w hSw
      try dsimp only at hSw
      go_simp
      try with_reducible rfl
    simp only [Act.put, List.setIfInBounds_toArray, List.set_cons_zero, List.set_cons_succ]
    refine' held_take (i := 1) (d := some 74) (v := _) rfl rfl (by kernel_rfl) (by kernel_rfl) (by kernel_rfl) (fun _ _ _ h => h) rfl (by assumption) ?hy_2 ?re_2
    case hy_2 =>
      intro w hSw
      try dsimp only at hSw
      go_simp
      try with_reducible rfl
    simp only [Act.put, List.setIfInBounds_toArray, List.set_cons_zero, List.set_cons_succ]
    refine' held_take (i := 2) (d := some 75) (v := _) rfl rfl (by kernel_rfl) (by kernel_rfl) (by kernel_rfl) (fun _ _ _ h => h) rfl (by assumption) ?hy_3 ?re_3
    case hy_3 =>
      intro w hSw
      try dsimp only at hSw
      go_simp
      try with_reducible rfl
    simp only [Act.put, List.setIfInBounds_toArray, List.set_cons_zero, List.set_cons_succ]
    refine' held_take (i := 3) (d := some 76) (v := _) rfl rfl (by kernel_rfl) (by kernel_rfl) (by kernel_rfl) (fun _ _ _ h => h) rfl (by assumption) ?hy_4 ?re_4
    case hy_4 =>
      intro w hSw
      try dsimp only at hSw
      go_simp
      try with_reducible rfl
    simp only [Act.put, List.setIfInBounds_toArray, List.set_cons_zero, List.set_cons_succ]
    refine' held_take (i := 4) (d := some 77) (v := _) rfl rfl (by kernel_rfl) (by kernel_rfl) (by kernel_rfl) (fun _ _ _ h => h) rfl (by assumption) ?hy_5 ?re_5
    case hy_5 =>
      intro w hSw
      try dsimp only at hSw
      go_simp
      try with_reducible rfl
    simp only [Act.put, List.setIfInBounds_toArray, List.set_cons_zero, List.set_cons_succ]
    refine' held_take (i := 5) (d := some 78) (v := _) rfl rfl (by kernel_rfl) (by kernel_rfl) (by kernel_rfl) (fun _ _ _ h => h) rfl (by assumption) ?hy_6 ?re_6
    case hy_6 =>
      intro w hSw
      try dsimp only at hSw
      go_simp
      try with_reducible rfl
    simp only [Act.put, List.setIfInBounds_toArray, List.set_cons_zero, List.set_cons_succ]
    refine' held_take (i := 6) (d := some 79) (v := _) rfl rfl (by kernel_rfl) (by kernel_rfl) (by kernel_rfl) (fun _ _ _ h => h) rfl (by assumption) ?hy_7 ?re_7
    case hy_7 =>
      intro w hSw
      try dsimp only at hSw
      go_simp
      try with_reducible rfl
    simp only [Act.put, List.setIfInBounds_toArray, List.set_cons_zero, List.set_cons_succ]
    refine' held_take (i := 7) (d := some 80) (v := _) rfl rfl (by kernel_rfl) (by kernel_rfl) (by kernel_rfl) (fun _ _ _ h => h) rfl (by assumption) ?hy_8 ?re_8
    case hy_8 =>
      intro w hSw
      try dsimp only at hSw
      go_simp
      try with_reducible rfl
    simp only [Act.put, List.setIfInBounds_toArray, List.set_cons_zero, List.set_cons_succ]
    refine' held_take (i := 8) (d := some 81) (v := _) rfl rfl (by kernel_rfl) (by kernel_rfl) (by kernel_rfl) (fun _ _ _ h => h) rfl (by assumption) ?hy_9 ?re_9
    case hy_9 =>
      intro w hSw
      try dsimp only at hSw
      go_simp
      try with_reducible rfl
    simp only [Act.put, List.setIfInBounds_toArray, List.set_cons_zero, List.set_cons_succ]
    refine' held_take (i := 9) (d := some 82) (v := _) rfl rfl (by kernel_rfl) (by kernel_rfl) (by kernel_rfl) (fun _ _ _ h => h) rfl (by assumption) ?hy_10 ?re_10
    case hy_10 =>
      intro w hSw
      try dsimp only at hSw
      go_simp
      try with_reducible rfl
    simp only [Act.put, List.setIfInBounds_toArray, List.set_cons_zero, List.set_cons_succ]
    refine' held_take (i := 10) (d := some 83) (v := _) rfl rfl (by kernel_rfl) (by kernel_rfl) (by kernel_rfl) (fun _ _ _ h => h) rfl (by assumption) ?hy_11 ?re_11
    case hy_11 =>
      intro w hSw
      try dsimp only at hSw
      go_simp
      try with_reducible rfl
    simp only [Act.put, List.setIfInBounds_toArray, List.set_cons_zero, List.set_cons_succ]
    refine' held_take (i := 11) (d := some 84) (v := _) rfl rfl (by kernel_rfl) (by kernel_rfl) (by kernel_rfl) (fun _ _ _ h => h) rfl (by assumption) ?hy_12 ?re_12
    case hy_12 =>
      intro w hSw
      try dsimp only at hSw
      go_simp
      try with_reducible rfl
    simp only [Act.put, List.setIfInBounds_toArray, List.set_cons_zero, List.set_cons_succ]
    refine' held_take (i := 12) (d := some 85) (v := _) rfl rfl (by kernel_rfl) (by kernel_rfl) (by kernel_rfl) (fun _ _ _ h => h) rfl (by assumption) ?hy_13 ?re_13
    case hy_13 =>
      intro w hSw
      try dsimp only at hSw
      go_simp
      try with_reducible rfl
    simp only [Act.put, List.setIfInBounds_toArray, List.set_cons_zero, List.set_cons_succ]
    refine' held_take (i := 13) (d := some 86) (v := _) rfl rfl (by kernel_rfl) (by kernel_rfl) (by kernel_rfl) (fun _ _ _ h => h) rfl (by assumption) ?hy_14 ?re_14
    case hy_14 =>
      intro w hSw
      try dsimp only at hSw
      go_simp
      try with_reducible rfl
    simp only [Act.put, List.setIfInBounds_toArray, List.set_cons_zero, List.set_cons_succ]
    refine' held_take (i := 14) (d := some 87) (v := _) rfl rfl (by kernel_rfl) (by kernel_rfl) (by kernel_rfl) (fun _ _ _ h => h) rfl (by assumption) ?hy_15 ?re_15
    case hy_15 =>
      intro w hSw
      try dsimp only at hSw
      go_simp
      try with_reducible rfl
    simp only [Act.put, List.setIfInBounds_toArray, List.set_cons_zero, List.set_cons_succ]
    refine' held_take (i := 15) (d := some 88) (v := _) rfl rfl (by kernel_rfl) (by kernel_rfl) (by kernel_rfl) (fun _ _ _ h => h) rfl (by assumption) ?hy_16 ?re_16
    case hy_16 =>
      intro w hSw
      try dsimp only at hSw
      go_simp
      try with_reducible rfl
    simp only [Act.put, List.setIfInBounds_toArray, List.set_cons_zero, List.set_cons_succ]
    refine' held_take (i := 16) (d := some 89) (v := _) rfl rfl (by kernel_rfl) (by kernel_rfl) (by kernel_rfl) (fun _ _ _ h => h) rfl (by assumption) ?hy_17 ?re_17
    case hy_17 =>
      intro w hSw
      try dsimp only at hSw
      go_simp
      try with_reducible rfl
    simp only [Act.put, List.setIfInBounds_toArray, List.set_cons_zero, List.set_cons_succ]
    refine' held_take (i := 17) (d := some 90) (v := _) rfl rfl (by kernel_rfl) (by kernel_rfl) (by kernel_rfl) (fun _ _ _ h => h) rfl (by assumption) ?hy_18 ?re_18
    case hy_18 =>
      intro w hSw
      try dsimp only at hSw
      go_simp
      try with_reducible rfl
    simp only [Act.put, List.setIfInBounds_toArray, List.set_cons_zero, List.set_cons_succ]
    refine' held_take (i := 18) (d := some 91) (v := _) rfl rfl (by kernel_rfl) (by kernel_rfl) (by kernel_rfl) (fun _ _ _ h => h) rfl (by assumption) ?hy_19 ?re_19
    case hy_19 =>
      intro w hSw
      try dsimp only at hSw
      go_simp
      try with_reducible rfl
    simp only [Act.put, List.setIfInBounds_toArray, List.set_cons_zero, List.set_cons_succ]
    refine wpAnyH_ready (rs := [19]) (by kernel_rfl) (by simp) ?_
    refine AllReadyH.cons rfl (fun K hK => ?_) AllReadyH.nil
    go_simp
    refine hsu5.out.mono ?_
    rintro e w7 ⟨rfl, hb7⟩
    have hr7 := Lib.hid (heap_down hb7 hrD.out)
    have hC7 := Lib.hid (below_trans (hCXH.out.drew) hb7)
    clear hb7
    go_wp2_with fail
    refine hK.out _ _ ?_ (fun hHeld => ?_)
    · exact hkS.out _ hr7.out
    clear hK K
    try simp only [Act.put, List.setIfInBounds_toArray, List.set_cons_zero, List.set_cons_succ]
    refine' held_take (i := 20) (d := some 93) (v := _) rfl rfl (by kernel_rfl) (by kernel_rfl) (by kernel_rfl) (fun _ _ _ h => h) rfl (by assumption) ?hy_20 ?re_20
    case hy_20 =>
      intro w hSw
      try dsimp only at hSw
      go_simp
      try with_reducible rfl
    simp only [Act.put, List.setIfInBounds_toArray, List.set_cons_zero, List.set_cons_succ]
    refine' held_take (i := 21) (d := some 94) (v := _) rfl rfl (by kernel_rfl) (by kernel_rfl) (by kernel_rfl) (fun _ _ _ h => h) rfl (by assumption) ?hy_21 ?re_21
    case hy_21 =>
      intro w hSw
      try dsimp only at hSw
      go_simp
      try with_reducible rfl
    simp only [Act.put, List.setIfInBounds_toArray, List.set_cons_zero, List.set_cons_succ]
    refine wpAnyH_done (by kernel_rfl) ?_ _
    refine NoPanic.normal ?_
    go_wp2_with fail
    go_meet
    case rel => exact hC7
  case rest =>
    have hC6 := Lib.hid hcut.out
    have hsi6 := hsi.out _ (hX4.out _ hC6.out)
    have hsz := (sinceE_of hcH.out seq).1
    have hsg := Lib.hid (sinceE_of hcH.out seq).2
    clear hcut hop hsu
    go_wp2_with fail
    refine hsi6.mono ?_
    rintro e w7 ⟨⟨v7, ev7, rfl, hrow7, he7⟩, hb7⟩
    have hC7 := Lib.hid (below_trans hC6.out hb7)
    clear hb7 hsi6
    by_cases hq : (sinceE L seq).2.1 = 0
    · obtain ⟨rfl, _⟩ := he7.zero hq
      obtain ⟨hq0, hq1⟩ := hsz.1 hq
      obtain ⟨n, rfl⟩ : ∃ n : Nat, seq = n := ⟨seq.toNat, by omega⟩
      have hn : n ≤ L.length := by omega
      rw [hsg.out hq0 hq1] at hrow7
      dsimp only [Int.toNat_natCast] at hrow7
      have hd : L.take n ++ L.drop n = L := List.take_append_drop n L
      have hq0' : decide ((0 : Int) ≤ (n : Int)) = true := decide_eq_true hq0
      have hq1' : decide ((n : Int) ≤ (L.length : Int)) = true := decide_eq_true hq1
      have hdH := Lib.hid hd
      have hown := Lib.hid (own_ent _ (L.take n) w7 (AtG.take (hEv.out _ (hX4.out _ hC7.out)) hn) (by rw [List.length_take]; omega))
      have hr7 := Lib.hid hrow7
      obtain ⟨a7, c7, hv7⟩ := hrow7.sl
      have htl : (L.take n).length = n := by rw [List.length_take]; omega
      have hdl : (L.drop n).length = L.length - n := List.length_drop
      rw [hdl] at hv7
      subst hv7
      clear hq hsz hrow7 he7 hd
      go_wp2_with fail
      refine hown.out.mono ?_
      rintro e w8 ⟨v8, rfl, hrow8, hb8⟩
      have hr8 := Lib.hid (RowG.below hr7.out hb8)
      have hC8 := Lib.hid (below_trans hC7.out hb8)
      have hb8s := hb8.size
      have hrow8H := Lib.hid hrow8
      clear hb8 hown hrow8
      go_wp2_with (first
        | (at_builtin; refine wpList_appG entC _ rfl _ _ 22 rfl 48 (.agg #[.int .i64 0, .int .i64 0, .string ⟨#[]⟩, .int .i64 0]) 40 Tryz.underlying22 info_ent rfl (by decide) w7.heap.size _ (L.take n) rfl hrow8H.out _ (L.drop n) rfl (EntRow.at_ hr8.out) (by omega) hb8s ?_)
        | go_in)
      intro v9 w9 hown9 hb9 _ _
      have hA9 : EntsAt w9 v9 L := by simpa only [List.take_append_drop] using (EntRow.at_ hown9)
      have hC9 := Lib.hid (hC8.out.trans (hb9.mono hC7.out.size))
      have hsm := Lib.hid (same_ent v9 _ L w9 hA9 (hEv.out _ (hX4.out _ hC9.out)))
      clear hown9 hb9 hA9
      go_wp2_with fail
      refine hsm.out.mono ?_
      rintro e w10 ⟨rfl, hb10⟩
      have hC10 := Lib.hid (below_trans hC9.out hb10)
      clear hb10 hsm
      obtain ⟨q0, q1⟩ := hbx4.out _ hC10.out
      have had10 := Lib.hid (had.out _ (hX4.out _ hC10.out))
      go_wp2_with fail
      refine had10.out.mono ?_
      rintro e w11 ⟨⟨v11, ev11, rfl, hrow11, he11⟩, hb11⟩
      have hC11 := Lib.hid (below_trans hC10.out hb11)
      obtain ⟨a11, c11, hv11⟩ := hrow11.sl
      clear hb11 q0 q1 had10
      by_cases hz : (addE L time ⟨fw, fe⟩).2.1 = 0
      case neg =>
        obtain ⟨T11, x11, rfl⟩ := he11.iface hz
        rw [addE_bad hz] at hv11
        simp only [List.length_nil] at hv11
        subst hv11
        have hfin := Lib.hid (hX4.out _ hC11.out)
        clear he11 hrow11 hz
        go_wp2_with fail
        go_ret
        exact ⟨rfl, hfin.out⟩
      obtain ⟨rfl, _⟩ := he11.zero hz
      obtain ⟨_, _, _, hae, _⟩ := addE_zero hz
      rw [hae] at hrow11 hv11
      try dsimp only at hrow11 hv11
      have hml : (L ++ [(⟨(L.length : Int) + 1, time, ⟨fw, fe⟩⟩ : Ent)]).length = L.length + 1 := by rw [List.length_append]; rfl
      rw [hml] at hv11
      subst hv11
      have hfl11 := Lib.hid (hfl.out _ _ _ (hX4.out _ hC11.out) (EntRow.at_ hrow11) hmM.out)
      have hle1 := @floorsE_left L [(⟨(L.length : Int) + 1, time, ⟨fw, fe⟩⟩ : Ent)]
      have hle2 := @floorsE_snoc L (⟨(L.length : Int) + 1, time, ⟨fw, fe⟩⟩ : Ent)
      have hmem := @floorsE_mem (L ++ [(⟨(L.length : Int) + 1, time, ⟨fw, fe⟩⟩ : Ent)])
      have hbad := @floorsE_bad (L ++ [(⟨(L.length : Int) + 1, time, ⟨fw, fe⟩⟩ : Ent)])
      generalize floorsE (L ++ [(⟨(L.length : Int) + 1, time, ⟨fw, fe⟩⟩ : Ent)]) = r at *
      obtain ⟨F2, cd, pl⟩ := r
      try dsimp only at hle1 hle2 hmem hbad
      have hle1 := Lib.hid hle1
      have hle2 := Lib.hid hle2
      have hmemH := Lib.hid hmem
      have hbadH := Lib.hid hbad
      have hof := Lib.hid (fun n wx (hx : Below w4.heap.size w4 wx) => of_flo _ (floorsE L).1 n wx (hF4.out wx hx) floorsE_mem)
      have hi11 := IntWalk.i64_in ((L.length : Int) + 1) (by omega)
      clear he11 hrow11 hz hae hml hmem hbad
      go_wp2_with fail
      refine hfl11.out.mono ?_
      rintro e w12 ⟨⟨v12, ev12, rfl, hrow12, he12⟩, hb12⟩
      try dsimp only at hrow12 he12
      have hC12 := Lib.hid (below_trans hC11.out hb12)
      obtain ⟨a12, c12, hv12⟩ := hrow12.sl
      clear hb12 hfl11
      by_cases hz : cd = 0
      case neg =>
        obtain ⟨T12, x12, rfl⟩ := he12.iface hz
        rw [hbadH.out hz] at hv12
        simp only [List.length_nil] at hv12
        subst hv12
        have hfin := Lib.hid (hX4.out _ hC12.out)
        clear he12 hrow12 hz
        go_wp2_with fail
        go_ret
        exact ⟨rfl, hfin.out⟩
      obtain ⟨rfl, _⟩ := he12.zero hz
      subst hz
      have hge1 := (hle1.out rfl).2 nm
      have hge2 := hle2.out rfl
      try dsimp only at hge2
      have hge1' : decide (ofF (floorsE L).1 nm ≤ ofF F2 nm) = true := decide_eq_true hge1
      have hge2' : decide (fe ≤ ofF F2 fw) = true := decide_eq_true hge2
      have hof2 := Lib.hid (fun n wx (hx : Below w12.heap.size w12 wx) => of_flo _ F2 n wx (hrow12.below hx).at2 hmemH.out)
      have hof1 := Lib.hid (hof.out nm)
      have hof := Lib.hid (fun wx (hx : Below w12.heap.size w12 wx) => hof1.out _ (below_trans hC12.out hx))
      have hfin := Lib.hid (fun wx (hx : Below w12.heap.size w12 wx) => hX4.out _ (below_trans hC12.out hx))
      have hkS := Lib.hid (fun wx (hx : Below w12.heap.size w12 wx) => hbx4.out _ (below_trans hC12.out hx))
      have hS12 : Below w12.heap.size w12 w12 := Below.refl _ _
      have hD12 := Lib.hid hS12.drew
      have hcD := hkS.out _ hD12.out
      subst hv12
      clear he12 hrow12 hS12 hle1 hle2
      go_upto_region 25 with fail
      refine wp_region_noPanic ?_
      refine wp_region_held_drew (S := fun w' => w'.cell? ⟨w.heap.size, 0, none⟩ = some (.string (bs fw)) ∧ w'.cell? ⟨w.heap.size, 1, none⟩ = some (.int .i64 fe)) (by kernel_rfl) ?_ (fun hHeld => ?_)
      · exact hcD
      refine' held_take (i := 0) (d := some 146) (v := _) rfl rfl (by kernel_rfl) (by kernel_rfl) (by kernel_rfl) (fun _ _ _ h => h) rfl (by assumption) ?hy_22 ?re_22
      case hy_22 =>
        intro w hSw
        try dsimp only at hSw
        go_simp
        try with_reducible rfl
      simp only [Act.put, List.setIfInBounds_toArray, List.set_cons_zero, List.set_cons_succ]
      refine' held_take (i := 1) (d := some 147) (v := _) rfl rfl (by kernel_rfl) (by kernel_rfl) (by kernel_rfl) (fun _ _ _ h => h) rfl (by assumption) ?hy_23 ?re_23
      case hy_23 =>
        intro w hSw
        try dsimp only at hSw
        go_simp
        try with_reducible rfl
      simp only [Act.put, List.setIfInBounds_toArray, List.set_cons_zero, List.set_cons_succ]
      refine' held_take (i := 3) (d := some 149) (v := _) rfl rfl (by kernel_rfl) (by kernel_rfl) (by kernel_rfl) (fun _ _ _ h => h) rfl (by assumption) ?hy_24 ?re_24
      case hy_24 =>
        intro w hSw
        try dsimp only at hSw
        go_simp
        try with_reducible rfl
      simp only [Act.put, List.setIfInBounds_toArray, List.set_cons_zero, List.set_cons_succ]
      refine' held_take (i := 4) (d := some 150) (v := _) rfl rfl (by kernel_rfl) (by kernel_rfl) (by kernel_rfl) (fun _ _ _ h => h) rfl (by assumption) ?hy_25 ?re_25
      case hy_25 =>
        intro w hSw
        try dsimp only at hSw
        go_simp
        try with_reducible rfl
      simp only [Act.put, List.setIfInBounds_toArray, List.set_cons_zero, List.set_cons_succ]
      refine wpAnyH_ready (rs := [2]) (by kernel_rfl) (by simp) ?_
      refine AllReadyH.cons rfl (fun K hK => ?_) AllReadyH.nil
      go_simp
      refine (hof2.out nm _ (hD12.out)).mono ?_
      rintro e w13 ⟨rfl, hb⟩
      have hD13 := Lib.hid (below_trans (hD12.out) hb)
      clear hb
      go_wp2_with fail
      refine hK.out _ _ ?_ (fun hHeld => ?_)
      · exact hkS.out _ hD13.out
      clear hK K
      try simp only [Act.put, List.setIfInBounds_toArray, List.set_cons_zero, List.set_cons_succ]
      refine wpAnyH_ready (rs := [5]) (by kernel_rfl) (by simp) ?_
      refine AllReadyH.cons rfl (fun K hK => ?_) AllReadyH.nil
      go_simp
      refine (hof.out _ (hD13.out)).mono ?_
      rintro e w14 ⟨rfl, hb⟩
      have hD14 := Lib.hid (below_trans (hD13.out) hb)
      clear hb
      go_wp2_with fail
      refine hK.out _ _ ?_ (fun hHeld => ?_)
      · exact hkS.out _ hD14.out
      clear hK K
      try simp only [Act.put, List.setIfInBounds_toArray, List.set_cons_zero, List.set_cons_succ]
      refine' held_take (i := 6) (d := some 152) (v := _) rfl rfl (by kernel_rfl) (by kernel_rfl) (by kernel_rfl) (fun _ _ _ h => h) rfl (by assumption) ?hy_26 ?re_26
      case hy_26 =>
        intro w hSw
        try dsimp only at hSw
        go_simp
        try with_reducible rfl
      simp only [Act.put, List.setIfInBounds_toArray, List.set_cons_zero, List.set_cons_succ]
      try simp only [hge1', ge_iff_le]
      refine' held_take (i := 7) (d := some 153) (v := _) rfl rfl (by kernel_rfl) (by kernel_rfl) (by kernel_rfl) (fun _ _ _ h => h) rfl (by assumption) ?hy_27 ?re_27
      case hy_27 =>
        intro w hSw
        try dsimp only at hSw
        go_simp
        try with_reducible rfl
      simp only [Act.put, List.setIfInBounds_toArray, List.set_cons_zero, List.set_cons_succ]
      refine' held_take (i := 8) (d := some 154) (v := _) rfl rfl (by kernel_rfl) (by kernel_rfl) (by kernel_rfl) (fun _ _ _ h => h) rfl (by assumption) ?hy_28 ?re_28
      case hy_28 =>
        intro w hSw
        try dsimp only at hSw
        go_simp
        try with_reducible rfl
      simp only [Act.put, List.setIfInBounds_toArray, List.set_cons_zero, List.set_cons_succ]
      refine' held_take (i := 9) (d := some 155) (v := _) rfl rfl (by kernel_rfl) (by kernel_rfl) (by kernel_rfl) (fun _ _ _ h => h) rfl (by assumption) ?hy_29 ?re_29
      case hy_29 =>
        intro w hSw
        try dsimp only at hSw
        go_simp
        try with_reducible rfl
      simp only [Act.put, List.setIfInBounds_toArray, List.set_cons_zero, List.set_cons_succ]
      refine' held_take (i := 10) (d := some 156) (v := _) rfl rfl (by kernel_rfl) (by kernel_rfl) (by kernel_rfl) (fun _ _ _ h => h) rfl (by assumption) ?hy_30 ?re_30
      case hy_30 =>
        intro w hSw
        try dsimp only at hSw
        go_simp
        try with_reducible rfl
      simp only [Act.put, List.setIfInBounds_toArray, List.set_cons_zero, List.set_cons_succ]
      refine' held_take (i := 12) (d := some 158) (v := _) rfl rfl (by kernel_rfl) (by kernel_rfl) (by kernel_rfl) (fun _ _ _ h => h) rfl (by assumption) ?hy_31 ?re_31
      case hy_31 =>
        intro w hSw
        try dsimp only at hSw
        go_simp
        try with_reducible rfl
      simp only [Act.put, List.setIfInBounds_toArray, List.set_cons_zero, List.set_cons_succ]
      refine' held_take (i := 13) (d := some 159) (v := _) rfl rfl (by kernel_rfl) (by kernel_rfl) (by kernel_rfl) (fun _ _ _ h => h) rfl (by assumption) ?hy_32 ?re_32
      case hy_32 =>
        intro w hSw
        try dsimp only at hSw
        go_simp
        try with_reducible rfl
      simp only [Act.put, List.setIfInBounds_toArray, List.set_cons_zero, List.set_cons_succ]
      refine wpAnyH_ready (rs := [11]) (by kernel_rfl) (by simp) ?_
      refine AllReadyH.cons rfl (fun K hK => ?_) AllReadyH.nil
      go_simp
      refine (hof2.out fw _ (hD14.out)).mono ?_
      rintro e w15 ⟨rfl, hb⟩
      have hD15 := Lib.hid (below_trans (hD14.out) hb)
      clear hb
      go_wp2_with fail
      refine hK.out _ _ ?_ (fun hHeld => ?_)
      · exact hkS.out _ hD15.out
      clear hK K
      try simp only [Act.put, List.setIfInBounds_toArray, List.set_cons_zero, List.set_cons_succ]
      refine' held_take (i := 14) (d := some 160) (v := _) rfl rfl (by kernel_rfl) (by kernel_rfl) (by kernel_rfl) (fun _ _ _ h => h) rfl (by assumption) ?hy_33 ?re_33
      case hy_33 =>
        intro w hSw
        try dsimp only at hSw
        go_simp
        try with_reducible rfl
      simp only [Act.put, List.setIfInBounds_toArray, List.set_cons_zero, List.set_cons_succ]
      try simp only [hge2', ge_iff_le]
      refine' held_take (i := 15) (d := some 161) (v := _) rfl rfl (by kernel_rfl) (by kernel_rfl) (by kernel_rfl) (fun _ _ _ h => h) rfl (by assumption) ?hy_34 ?re_34
      case hy_34 =>
        intro w hSw
        try dsimp only at hSw
        go_simp
        try with_reducible rfl
      simp only [Act.put, List.setIfInBounds_toArray, List.set_cons_zero, List.set_cons_succ]
      refine' held_take (i := 16) (d := some 162) (v := _) rfl rfl (by kernel_rfl) (by kernel_rfl) (by kernel_rfl) (fun _ _ _ h => h) rfl (by assumption) ?hy_35 ?re_35
      case hy_35 =>
        intro w hSw
        try dsimp only at hSw
        go_simp
        try with_reducible rfl
      simp only [Act.put, List.setIfInBounds_toArray, List.set_cons_zero, List.set_cons_succ]
      refine' held_take (i := 17) (d := some 163) (v := _) rfl rfl (by kernel_rfl) (by kernel_rfl) (by kernel_rfl) (fun _ _ _ h => h) rfl (by assumption) ?hy_36 ?re_36
      case hy_36 =>
        intro w hSw
        try dsimp only at hSw
        go_simp
        try with_reducible rfl
      simp only [Act.put, List.setIfInBounds_toArray, List.set_cons_zero, List.set_cons_succ]
      refine' held_take (i := 18) (d := some 164) (v := _) rfl rfl (by kernel_rfl) (by kernel_rfl) (by kernel_rfl) (fun _ _ _ h => h) rfl (by assumption) ?hy_37 ?re_37
      case hy_37 =>
        intro w hSw
        try dsimp only at hSw
        go_simp
        try with_reducible rfl
      simp only [Act.put, List.setIfInBounds_toArray, List.set_cons_zero, List.set_cons_succ]
      refine' held_take (i := 19) (d := some 165) (v := _) rfl rfl (by kernel_rfl) (by kernel_rfl) (by kernel_rfl) (fun _ _ _ h => h) rfl (by assumption) ?hy_38 ?re_38
      case hy_38 =>
        intro w hSw
        try dsimp only at hSw
        go_simp
        try with_reducible rfl
      simp only [Act.put, List.setIfInBounds_toArray, List.set_cons_zero, List.set_cons_succ]
      refine' held_take (i := 20) (d := some 166) (v := _) rfl rfl (by kernel_rfl) (by kernel_rfl) (by kernel_rfl) (fun _ _ _ h => h) rfl (by assumption) ?hy_39 ?re_39
      case hy_39 =>
        intro w hSw
        try dsimp only at hSw
        go_simp
        try with_reducible rfl
      simp only [Act.put, List.setIfInBounds_toArray, List.set_cons_zero, List.set_cons_succ]
      refine' held_take (i := 21) (d := some 167) (v := _) rfl rfl (by kernel_rfl) (by kernel_rfl) (by kernel_rfl) (fun _ _ _ h => h) rfl (by assumption) ?hy_40 ?re_40
      case hy_40 =>
        intro w hSw
        try dsimp only at hSw
        go_simp
        try with_reducible rfl
      simp only [Act.put, List.setIfInBounds_toArray, List.set_cons_zero, List.set_cons_succ]
      refine' held_take (i := 22) (d := some 168) (v := _) rfl rfl (by kernel_rfl) (by kernel_rfl) (by kernel_rfl) (fun _ _ _ h => h) rfl (by assumption) ?hy_41 ?re_41
      case hy_41 =>
        intro w hSw
        try dsimp only at hSw
        go_simp
        try with_reducible rfl
      simp only [Act.put, List.setIfInBounds_toArray, List.set_cons_zero, List.set_cons_succ]
      refine' held_take (i := 23) (d := some 169) (v := _) rfl rfl (by kernel_rfl) (by kernel_rfl) (by kernel_rfl) (fun _ _ _ h => h) rfl (by assumption) ?hy_42 ?re_42
      case hy_42 =>
        intro w hSw
        try dsimp only at hSw
        go_simp
        try with_reducible rfl
      simp only [Act.put, List.setIfInBounds_toArray, List.set_cons_zero, List.set_cons_succ]
      refine' held_take (i := 24) (d := some 12) (v := _) rfl rfl (by kernel_rfl) (by kernel_rfl) (by kernel_rfl) (fun _ _ _ h => h) rfl (by assumption) ?hy_43 ?re_43
      case hy_43 =>
        intro w hSw
        try dsimp only at hSw
        go_simp
        try with_reducible rfl
      simp only [Act.put, List.setIfInBounds_toArray, List.set_cons_zero, List.set_cons_succ]
      refine wpAnyH_done (by kernel_rfl) ?_ _
      refine NoPanic.normal ?_
      go_wp2_with fail
      go_ret
      exact ⟨rfl, hfin.out _ hD15.out⟩
    · obtain ⟨T7, x7, rfl⟩ := he7.iface hq
      have hC10 := hC7
      have hno := fun h => hq (hsz.2 h)
      clear he7 hq hsz hrow7 hsg
      by_cases h0 : (0 : Int) ≤ seq
      · have h0' : decide ((0 : Int) ≤ seq) = true := decide_eq_true h0
        have h1 : ¬ (seq ≤ (L.length : Int)) := fun h => hno ⟨h0, h⟩
        have h1' : decide (seq ≤ (L.length : Int)) = false := decide_eq_false h1
        clear hno
        obtain ⟨q0, q1⟩ := hbx4.out _ hC10.out
        have had10 := Lib.hid (had.out _ (hX4.out _ hC10.out))
        go_wp2_with fail
        refine had10.out.mono ?_
        rintro e w11 ⟨⟨v11, ev11, rfl, hrow11, he11⟩, hb11⟩
        have hC11 := Lib.hid (below_trans hC10.out hb11)
        obtain ⟨a11, c11, hv11⟩ := hrow11.sl
        clear hb11 q0 q1 had10
        by_cases hz : (addE L time ⟨fw, fe⟩).2.1 = 0
        case neg =>
          obtain ⟨T11, x11, rfl⟩ := he11.iface hz
          rw [addE_bad hz] at hv11
          simp only [List.length_nil] at hv11
          subst hv11
          have hfin := Lib.hid (hX4.out _ hC11.out)
          clear he11 hrow11 hz
          go_wp2_with fail
          go_ret
          exact ⟨rfl, hfin.out⟩
        obtain ⟨rfl, _⟩ := he11.zero hz
        obtain ⟨_, _, _, hae, _⟩ := addE_zero hz
        rw [hae] at hrow11 hv11
        try dsimp only at hrow11 hv11
        have hml : (L ++ [(⟨(L.length : Int) + 1, time, ⟨fw, fe⟩⟩ : Ent)]).length = L.length + 1 := by rw [List.length_append]; rfl
        rw [hml] at hv11
        subst hv11
        have hfl11 := Lib.hid (hfl.out _ _ _ (hX4.out _ hC11.out) (EntRow.at_ hrow11) hmM.out)
        have hle1 := @floorsE_left L [(⟨(L.length : Int) + 1, time, ⟨fw, fe⟩⟩ : Ent)]
        have hle2 := @floorsE_snoc L (⟨(L.length : Int) + 1, time, ⟨fw, fe⟩⟩ : Ent)
        have hmem := @floorsE_mem (L ++ [(⟨(L.length : Int) + 1, time, ⟨fw, fe⟩⟩ : Ent)])
        have hbad := @floorsE_bad (L ++ [(⟨(L.length : Int) + 1, time, ⟨fw, fe⟩⟩ : Ent)])
        generalize floorsE (L ++ [(⟨(L.length : Int) + 1, time, ⟨fw, fe⟩⟩ : Ent)]) = r at *
        obtain ⟨F2, cd, pl⟩ := r
        try dsimp only at hle1 hle2 hmem hbad
        have hle1 := Lib.hid hle1
        have hle2 := Lib.hid hle2
        have hmemH := Lib.hid hmem
        have hbadH := Lib.hid hbad
        have hof := Lib.hid (fun n wx (hx : Below w4.heap.size w4 wx) => of_flo _ (floorsE L).1 n wx (hF4.out wx hx) floorsE_mem)
        have hi11 := IntWalk.i64_in ((L.length : Int) + 1) (by omega)
        clear he11 hrow11 hz hae hml hmem hbad
        go_wp2_with fail
        refine hfl11.out.mono ?_
        rintro e w12 ⟨⟨v12, ev12, rfl, hrow12, he12⟩, hb12⟩
        try dsimp only at hrow12 he12
        have hC12 := Lib.hid (below_trans hC11.out hb12)
        obtain ⟨a12, c12, hv12⟩ := hrow12.sl
        clear hb12 hfl11
        by_cases hz : cd = 0
        case neg =>
          obtain ⟨T12, x12, rfl⟩ := he12.iface hz
          rw [hbadH.out hz] at hv12
          simp only [List.length_nil] at hv12
          subst hv12
          have hfin := Lib.hid (hX4.out _ hC12.out)
          clear he12 hrow12 hz
          go_wp2_with fail
          go_ret
          exact ⟨rfl, hfin.out⟩
        obtain ⟨rfl, _⟩ := he12.zero hz
        subst hz
        have hge1 := (hle1.out rfl).2 nm
        have hge2 := hle2.out rfl
        try dsimp only at hge2
        have hge1' : decide (ofF (floorsE L).1 nm ≤ ofF F2 nm) = true := decide_eq_true hge1
        have hge2' : decide (fe ≤ ofF F2 fw) = true := decide_eq_true hge2
        have hof2 := Lib.hid (fun n wx (hx : Below w12.heap.size w12 wx) => of_flo _ F2 n wx (hrow12.below hx).at2 hmemH.out)
        have hof1 := Lib.hid (hof.out nm)
        have hof := Lib.hid (fun wx (hx : Below w12.heap.size w12 wx) => hof1.out _ (below_trans hC12.out hx))
        have hfin := Lib.hid (fun wx (hx : Below w12.heap.size w12 wx) => hX4.out _ (below_trans hC12.out hx))
        have hkS := Lib.hid (fun wx (hx : Below w12.heap.size w12 wx) => hbx4.out _ (below_trans hC12.out hx))
        have hS12 : Below w12.heap.size w12 w12 := Below.refl _ _
        have hD12 := Lib.hid hS12.drew
        have hcD := hkS.out _ hD12.out
        subst hv12
        clear he12 hrow12 hS12 hle1 hle2
        go_upto_region 25 with fail
        refine wp_region_noPanic ?_
        refine wp_region_held_drew (S := fun w' => w'.cell? ⟨w.heap.size, 0, none⟩ = some (.string (bs fw)) ∧ w'.cell? ⟨w.heap.size, 1, none⟩ = some (.int .i64 fe)) (by kernel_rfl) ?_ (fun hHeld => ?_)
        · exact hcD
        refine' held_take (i := 0) (d := some 146) (v := _) rfl rfl (by kernel_rfl) (by kernel_rfl) (by kernel_rfl) (fun _ _ _ h => h) rfl (by assumption) ?hy_44 ?re_44
        case hy_44 =>
          intro w hSw
          try dsimp only at hSw
          go_simp
          try with_reducible rfl
        simp only [Act.put, List.setIfInBounds_toArray, List.set_cons_zero, List.set_cons_succ]
        refine' held_take (i := 1) (d := some 147) (v := _) rfl rfl (by kernel_rfl) (by kernel_rfl) (by kernel_rfl) (fun _ _ _ h => h) rfl (by assumption) ?hy_45 ?re_45
        case hy_45 =>
          intro w hSw
          try dsimp only at hSw
          go_simp
          try with_reducible rfl
        simp only [Act.put, List.setIfInBounds_toArray, List.set_cons_zero, List.set_cons_succ]
        refine' held_take (i := 3) (d := some 149) (v := _) rfl rfl (by kernel_rfl) (by kernel_rfl) (by kernel_rfl) (fun _ _ _ h => h) rfl (by assumption) ?hy_46 ?re_46
        case hy_46 =>
          intro w hSw
          try dsimp only at hSw
          go_simp
          try with_reducible rfl
        simp only [Act.put, List.setIfInBounds_toArray, List.set_cons_zero, List.set_cons_succ]
        refine' held_take (i := 4) (d := some 150) (v := _) rfl rfl (by kernel_rfl) (by kernel_rfl) (by kernel_rfl) (fun _ _ _ h => h) rfl (by assumption) ?hy_47 ?re_47
        case hy_47 =>
          intro w hSw
          try dsimp only at hSw
          go_simp
          try with_reducible rfl
        simp only [Act.put, List.setIfInBounds_toArray, List.set_cons_zero, List.set_cons_succ]
        refine wpAnyH_ready (rs := [2]) (by kernel_rfl) (by simp) ?_
        refine AllReadyH.cons rfl (fun K hK => ?_) AllReadyH.nil
        go_simp
        refine (hof2.out nm _ (hD12.out)).mono ?_
        rintro e w13 ⟨rfl, hb⟩
        have hD13 := Lib.hid (below_trans (hD12.out) hb)
        clear hb
        go_wp2_with fail
        refine hK.out _ _ ?_ (fun hHeld => ?_)
        · exact hkS.out _ hD13.out
        clear hK K
        try simp only [Act.put, List.setIfInBounds_toArray, List.set_cons_zero, List.set_cons_succ]
        refine wpAnyH_ready (rs := [5]) (by kernel_rfl) (by simp) ?_
        refine AllReadyH.cons rfl (fun K hK => ?_) AllReadyH.nil
        go_simp
        refine (hof.out _ (hD13.out)).mono ?_
        rintro e w14 ⟨rfl, hb⟩
        have hD14 := Lib.hid (below_trans (hD13.out) hb)
        clear hb
        go_wp2_with fail
        refine hK.out _ _ ?_ (fun hHeld => ?_)
        · exact hkS.out _ hD14.out
        clear hK K
        try simp only [Act.put, List.setIfInBounds_toArray, List.set_cons_zero, List.set_cons_succ]
        refine' held_take (i := 6) (d := some 152) (v := _) rfl rfl (by kernel_rfl) (by kernel_rfl) (by kernel_rfl) (fun _ _ _ h => h) rfl (by assumption) ?hy_48 ?re_48
        case hy_48 =>
          intro w hSw
          try dsimp only at hSw
          go_simp
          try with_reducible rfl
        simp only [Act.put, List.setIfInBounds_toArray, List.set_cons_zero, List.set_cons_succ]
        try simp only [hge1', ge_iff_le]
        refine' held_take (i := 7) (d := some 153) (v := _) rfl rfl (by kernel_rfl) (by kernel_rfl) (by kernel_rfl) (fun _ _ _ h => h) rfl (by assumption) ?hy_49 ?re_49
        case hy_49 =>
          intro w hSw
          try dsimp only at hSw
          go_simp
          try with_reducible rfl
        simp only [Act.put, List.setIfInBounds_toArray, List.set_cons_zero, List.set_cons_succ]
        refine' held_take (i := 8) (d := some 154) (v := _) rfl rfl (by kernel_rfl) (by kernel_rfl) (by kernel_rfl) (fun _ _ _ h => h) rfl (by assumption) ?hy_50 ?re_50
        case hy_50 =>
          intro w hSw
          try dsimp only at hSw
          go_simp
          try with_reducible rfl
        simp only [Act.put, List.setIfInBounds_toArray, List.set_cons_zero, List.set_cons_succ]
        refine' held_take (i := 9) (d := some 155) (v := _) rfl rfl (by kernel_rfl) (by kernel_rfl) (by kernel_rfl) (fun _ _ _ h => h) rfl (by assumption) ?hy_51 ?re_51
        case hy_51 =>
          intro w hSw
          try dsimp only at hSw
          go_simp
          try with_reducible rfl
        simp only [Act.put, List.setIfInBounds_toArray, List.set_cons_zero, List.set_cons_succ]
        refine' held_take (i := 10) (d := some 156) (v := _) rfl rfl (by kernel_rfl) (by kernel_rfl) (by kernel_rfl) (fun _ _ _ h => h) rfl (by assumption) ?hy_52 ?re_52
        case hy_52 =>
          intro w hSw
          try dsimp only at hSw
          go_simp
          try with_reducible rfl
        simp only [Act.put, List.setIfInBounds_toArray, List.set_cons_zero, List.set_cons_succ]
        refine' held_take (i := 12) (d := some 158) (v := _) rfl rfl (by kernel_rfl) (by kernel_rfl) (by kernel_rfl) (fun _ _ _ h => h) rfl (by assumption) ?hy_53 ?re_53
        case hy_53 =>
          intro w hSw
          try dsimp only at hSw
          go_simp
          try with_reducible rfl
        simp only [Act.put, List.setIfInBounds_toArray, List.set_cons_zero, List.set_cons_succ]
        refine' held_take (i := 13) (d := some 159) (v := _) rfl rfl (by kernel_rfl) (by kernel_rfl) (by kernel_rfl) (fun _ _ _ h => h) rfl (by assumption) ?hy_54 ?re_54
        case hy_54 =>
          intro w hSw
          try dsimp only at hSw
          go_simp
          try with_reducible rfl
        simp only [Act.put, List.setIfInBounds_toArray, List.set_cons_zero, List.set_cons_succ]
        refine wpAnyH_ready (rs := [11]) (by kernel_rfl) (by simp) ?_
        refine AllReadyH.cons rfl (fun K hK => ?_) AllReadyH.nil
        go_simp
        refine (hof2.out fw _ (hD14.out)).mono ?_
        rintro e w15 ⟨rfl, hb⟩
        have hD15 := Lib.hid (below_trans (hD14.out) hb)
        clear hb
        go_wp2_with fail
        refine hK.out _ _ ?_ (fun hHeld => ?_)
        · exact hkS.out _ hD15.out
        clear hK K
        try simp only [Act.put, List.setIfInBounds_toArray, List.set_cons_zero, List.set_cons_succ]
        refine' held_take (i := 14) (d := some 160) (v := _) rfl rfl (by kernel_rfl) (by kernel_rfl) (by kernel_rfl) (fun _ _ _ h => h) rfl (by assumption) ?hy_55 ?re_55
        case hy_55 =>
          intro w hSw
          try dsimp only at hSw
          go_simp
          try with_reducible rfl
        simp only [Act.put, List.setIfInBounds_toArray, List.set_cons_zero, List.set_cons_succ]
        try simp only [hge2', ge_iff_le]
        refine' held_take (i := 15) (d := some 161) (v := _) rfl rfl (by kernel_rfl) (by kernel_rfl) (by kernel_rfl) (fun _ _ _ h => h) rfl (by assumption) ?hy_56 ?re_56
        case hy_56 =>
          intro w hSw
          try dsimp only at hSw
          go_simp
          try with_reducible rfl
        simp only [Act.put, List.setIfInBounds_toArray, List.set_cons_zero, List.set_cons_succ]
        refine' held_take (i := 16) (d := some 162) (v := _) rfl rfl (by kernel_rfl) (by kernel_rfl) (by kernel_rfl) (fun _ _ _ h => h) rfl (by assumption) ?hy_57 ?re_57
        case hy_57 =>
          intro w hSw
          try dsimp only at hSw
          go_simp
          try with_reducible rfl
        simp only [Act.put, List.setIfInBounds_toArray, List.set_cons_zero, List.set_cons_succ]
        refine' held_take (i := 17) (d := some 163) (v := _) rfl rfl (by kernel_rfl) (by kernel_rfl) (by kernel_rfl) (fun _ _ _ h => h) rfl (by assumption) ?hy_58 ?re_58
        case hy_58 =>
          intro w hSw
          try dsimp only at hSw
          go_simp
          try with_reducible rfl
        simp only [Act.put, List.setIfInBounds_toArray, List.set_cons_zero, List.set_cons_succ]
        refine' held_take (i := 18) (d := some 164) (v := _) rfl rfl (by kernel_rfl) (by kernel_rfl) (by kernel_rfl) (fun _ _ _ h => h) rfl (by assumption) ?hy_59 ?re_59
        case hy_59 =>
          intro w hSw
          try dsimp only at hSw
          go_simp
          try with_reducible rfl
        simp only [Act.put, List.setIfInBounds_toArray, List.set_cons_zero, List.set_cons_succ]
        refine' held_take (i := 19) (d := some 165) (v := _) rfl rfl (by kernel_rfl) (by kernel_rfl) (by kernel_rfl) (fun _ _ _ h => h) rfl (by assumption) ?hy_60 ?re_60
        case hy_60 =>
          intro w hSw
          try dsimp only at hSw
          go_simp
          try with_reducible rfl
        simp only [Act.put, List.setIfInBounds_toArray, List.set_cons_zero, List.set_cons_succ]
        refine' held_take (i := 20) (d := some 166) (v := _) rfl rfl (by kernel_rfl) (by kernel_rfl) (by kernel_rfl) (fun _ _ _ h => h) rfl (by assumption) ?hy_61 ?re_61
        case hy_61 =>
          intro w hSw
          try dsimp only at hSw
          go_simp
          try with_reducible rfl
        simp only [Act.put, List.setIfInBounds_toArray, List.set_cons_zero, List.set_cons_succ]
        refine' held_take (i := 21) (d := some 167) (v := _) rfl rfl (by kernel_rfl) (by kernel_rfl) (by kernel_rfl) (fun _ _ _ h => h) rfl (by assumption) ?hy_62 ?re_62
        case hy_62 =>
          intro w hSw
          try dsimp only at hSw
          go_simp
          try with_reducible rfl
        simp only [Act.put, List.setIfInBounds_toArray, List.set_cons_zero, List.set_cons_succ]
        refine' held_take (i := 22) (d := some 168) (v := _) rfl rfl (by kernel_rfl) (by kernel_rfl) (by kernel_rfl) (fun _ _ _ h => h) rfl (by assumption) ?hy_63 ?re_63
        case hy_63 =>
          intro w hSw
          try dsimp only at hSw
          go_simp
          try with_reducible rfl
        simp only [Act.put, List.setIfInBounds_toArray, List.set_cons_zero, List.set_cons_succ]
        refine' held_take (i := 23) (d := some 169) (v := _) rfl rfl (by kernel_rfl) (by kernel_rfl) (by kernel_rfl) (fun _ _ _ h => h) rfl (by assumption) ?hy_64 ?re_64
        case hy_64 =>
          intro w hSw
          try dsimp only at hSw
          go_simp
          try with_reducible rfl
        simp only [Act.put, List.setIfInBounds_toArray, List.set_cons_zero, List.set_cons_succ]
        refine' held_take (i := 24) (d := some 12) (v := _) rfl rfl (by kernel_rfl) (by kernel_rfl) (by kernel_rfl) (fun _ _ _ h => h) rfl (by assumption) ?hy_65 ?re_65
        case hy_65 =>
          intro w hSw
          try dsimp only at hSw
          go_simp
          try with_reducible rfl
        simp only [Act.put, List.setIfInBounds_toArray, List.set_cons_zero, List.set_cons_succ]
        refine wpAnyH_done (by kernel_rfl) ?_ _
        refine NoPanic.normal ?_
        go_wp2_with fail
        go_ret
        exact ⟨rfl, hfin.out _ hD15.out⟩
      · have h0' : decide ((0 : Int) ≤ seq) = false := decide_eq_false h0
        clear hno
        obtain ⟨q0, q1⟩ := hbx4.out _ hC10.out
        have had10 := Lib.hid (had.out _ (hX4.out _ hC10.out))
        go_wp2_with fail
        refine had10.out.mono ?_
        rintro e w11 ⟨⟨v11, ev11, rfl, hrow11, he11⟩, hb11⟩
        have hC11 := Lib.hid (below_trans hC10.out hb11)
        obtain ⟨a11, c11, hv11⟩ := hrow11.sl
        clear hb11 q0 q1 had10
        by_cases hz : (addE L time ⟨fw, fe⟩).2.1 = 0
        case neg =>
          obtain ⟨T11, x11, rfl⟩ := he11.iface hz
          rw [addE_bad hz] at hv11
          simp only [List.length_nil] at hv11
          subst hv11
          have hfin := Lib.hid (hX4.out _ hC11.out)
          clear he11 hrow11 hz
          go_wp2_with fail
          go_ret
          exact ⟨rfl, hfin.out⟩
        obtain ⟨rfl, _⟩ := he11.zero hz
        obtain ⟨_, _, _, hae, _⟩ := addE_zero hz
        rw [hae] at hrow11 hv11
        try dsimp only at hrow11 hv11
        have hml : (L ++ [(⟨(L.length : Int) + 1, time, ⟨fw, fe⟩⟩ : Ent)]).length = L.length + 1 := by rw [List.length_append]; rfl
        rw [hml] at hv11
        subst hv11
        have hfl11 := Lib.hid (hfl.out _ _ _ (hX4.out _ hC11.out) (EntRow.at_ hrow11) hmM.out)
        have hle1 := @floorsE_left L [(⟨(L.length : Int) + 1, time, ⟨fw, fe⟩⟩ : Ent)]
        have hle2 := @floorsE_snoc L (⟨(L.length : Int) + 1, time, ⟨fw, fe⟩⟩ : Ent)
        have hmem := @floorsE_mem (L ++ [(⟨(L.length : Int) + 1, time, ⟨fw, fe⟩⟩ : Ent)])
        have hbad := @floorsE_bad (L ++ [(⟨(L.length : Int) + 1, time, ⟨fw, fe⟩⟩ : Ent)])
        generalize floorsE (L ++ [(⟨(L.length : Int) + 1, time, ⟨fw, fe⟩⟩ : Ent)]) = r at *
        obtain ⟨F2, cd, pl⟩ := r
        try dsimp only at hle1 hle2 hmem hbad
        have hle1 := Lib.hid hle1
        have hle2 := Lib.hid hle2
        have hmemH := Lib.hid hmem
        have hbadH := Lib.hid hbad
        have hof := Lib.hid (fun n wx (hx : Below w4.heap.size w4 wx) => of_flo _ (floorsE L).1 n wx (hF4.out wx hx) floorsE_mem)
        have hi11 := IntWalk.i64_in ((L.length : Int) + 1) (by omega)
        clear he11 hrow11 hz hae hml hmem hbad
        go_wp2_with fail
        refine hfl11.out.mono ?_
        rintro e w12 ⟨⟨v12, ev12, rfl, hrow12, he12⟩, hb12⟩
        try dsimp only at hrow12 he12
        have hC12 := Lib.hid (below_trans hC11.out hb12)
        obtain ⟨a12, c12, hv12⟩ := hrow12.sl
        clear hb12 hfl11
        by_cases hz : cd = 0
        case neg =>
          obtain ⟨T12, x12, rfl⟩ := he12.iface hz
          rw [hbadH.out hz] at hv12
          simp only [List.length_nil] at hv12
          subst hv12
          have hfin := Lib.hid (hX4.out _ hC12.out)
          clear he12 hrow12 hz
          go_wp2_with fail
          go_ret
          exact ⟨rfl, hfin.out⟩
        obtain ⟨rfl, _⟩ := he12.zero hz
        subst hz
        have hge1 := (hle1.out rfl).2 nm
        have hge2 := hle2.out rfl
        try dsimp only at hge2
        have hge1' : decide (ofF (floorsE L).1 nm ≤ ofF F2 nm) = true := decide_eq_true hge1
        have hge2' : decide (fe ≤ ofF F2 fw) = true := decide_eq_true hge2
        have hof2 := Lib.hid (fun n wx (hx : Below w12.heap.size w12 wx) => of_flo _ F2 n wx (hrow12.below hx).at2 hmemH.out)
        have hof1 := Lib.hid (hof.out nm)
        have hof := Lib.hid (fun wx (hx : Below w12.heap.size w12 wx) => hof1.out _ (below_trans hC12.out hx))
        have hfin := Lib.hid (fun wx (hx : Below w12.heap.size w12 wx) => hX4.out _ (below_trans hC12.out hx))
        have hkS := Lib.hid (fun wx (hx : Below w12.heap.size w12 wx) => hbx4.out _ (below_trans hC12.out hx))
        have hS12 : Below w12.heap.size w12 w12 := Below.refl _ _
        have hD12 := Lib.hid hS12.drew
        have hcD := hkS.out _ hD12.out
        subst hv12
        clear he12 hrow12 hS12 hle1 hle2
        go_upto_region 25 with fail
        refine wp_region_noPanic ?_
        refine wp_region_held_drew (S := fun w' => w'.cell? ⟨w.heap.size, 0, none⟩ = some (.string (bs fw)) ∧ w'.cell? ⟨w.heap.size, 1, none⟩ = some (.int .i64 fe)) (by kernel_rfl) ?_ (fun hHeld => ?_)
        · exact hcD
        refine' held_take (i := 0) (d := some 146) (v := _) rfl rfl (by kernel_rfl) (by kernel_rfl) (by kernel_rfl) (fun _ _ _ h => h) rfl (by assumption) ?hy_66 ?re_66
        case hy_66 =>
          intro w hSw
          try dsimp only at hSw
          go_simp
          try with_reducible rfl
        simp only [Act.put, List.setIfInBounds_toArray, List.set_cons_zero, List.set_cons_succ]
        refine' held_take (i := 1) (d := some 147) (v := _) rfl rfl (by kernel_rfl) (by kernel_rfl) (by kernel_rfl) (fun _ _ _ h => h) rfl (by assumption) ?hy_67 ?re_67
        case hy_67 =>
          intro w hSw
          try dsimp only at hSw
          go_simp
          try with_reducible rfl
        simp only [Act.put, List.setIfInBounds_toArray, List.set_cons_zero, List.set_cons_succ]
        refine' held_take (i := 3) (d := some 149) (v := _) rfl rfl (by kernel_rfl) (by kernel_rfl) (by kernel_rfl) (fun _ _ _ h => h) rfl (by assumption) ?hy_68 ?re_68
        case hy_68 =>
          intro w hSw
          try dsimp only at hSw
          go_simp
          try with_reducible rfl
        simp only [Act.put, List.setIfInBounds_toArray, List.set_cons_zero, List.set_cons_succ]
        refine' held_take (i := 4) (d := some 150) (v := _) rfl rfl (by kernel_rfl) (by kernel_rfl) (by kernel_rfl) (fun _ _ _ h => h) rfl (by assumption) ?hy_69 ?re_69
        case hy_69 =>
          intro w hSw
          try dsimp only at hSw
          go_simp
          try with_reducible rfl
        simp only [Act.put, List.setIfInBounds_toArray, List.set_cons_zero, List.set_cons_succ]
        refine wpAnyH_ready (rs := [2]) (by kernel_rfl) (by simp) ?_
        refine AllReadyH.cons rfl (fun K hK => ?_) AllReadyH.nil
        go_simp
        refine (hof2.out nm _ (hD12.out)).mono ?_
        rintro e w13 ⟨rfl, hb⟩
        have hD13 := Lib.hid (below_trans (hD12.out) hb)
        clear hb
        go_wp2_with fail
        refine hK.out _ _ ?_ (fun hHeld => ?_)
        · exact hkS.out _ hD13.out
        clear hK K
        try simp only [Act.put, List.setIfInBounds_toArray, List.set_cons_zero, List.set_cons_succ]
        refine wpAnyH_ready (rs := [5]) (by kernel_rfl) (by simp) ?_
        refine AllReadyH.cons rfl (fun K hK => ?_) AllReadyH.nil
        go_simp
        refine (hof.out _ (hD13.out)).mono ?_
        rintro e w14 ⟨rfl, hb⟩
        have hD14 := Lib.hid (below_trans (hD13.out) hb)
        clear hb
        go_wp2_with fail
        refine hK.out _ _ ?_ (fun hHeld => ?_)
        · exact hkS.out _ hD14.out
        clear hK K
        try simp only [Act.put, List.setIfInBounds_toArray, List.set_cons_zero, List.set_cons_succ]
        refine' held_take (i := 6) (d := some 152) (v := _) rfl rfl (by kernel_rfl) (by kernel_rfl) (by kernel_rfl) (fun _ _ _ h => h) rfl (by assumption) ?hy_70 ?re_70
        case hy_70 =>
          intro w hSw
          try dsimp only at hSw
          go_simp
          try with_reducible rfl
        simp only [Act.put, List.setIfInBounds_toArray, List.set_cons_zero, List.set_cons_succ]
        try simp only [hge1', ge_iff_le]
        refine' held_take (i := 7) (d := some 153) (v := _) rfl rfl (by kernel_rfl) (by kernel_rfl) (by kernel_rfl) (fun _ _ _ h => h) rfl (by assumption) ?hy_71 ?re_71
        case hy_71 =>
          intro w hSw
          try dsimp only at hSw
          go_simp
          try with_reducible rfl
        simp only [Act.put, List.setIfInBounds_toArray, List.set_cons_zero, List.set_cons_succ]
        refine' held_take (i := 8) (d := some 154) (v := _) rfl rfl (by kernel_rfl) (by kernel_rfl) (by kernel_rfl) (fun _ _ _ h => h) rfl (by assumption) ?hy_72 ?re_72
        case hy_72 =>
          intro w hSw
          try dsimp only at hSw
          go_simp
          try with_reducible rfl
        simp only [Act.put, List.setIfInBounds_toArray, List.set_cons_zero, List.set_cons_succ]
        refine' held_take (i := 9) (d := some 155) (v := _) rfl rfl (by kernel_rfl) (by kernel_rfl) (by kernel_rfl) (fun _ _ _ h => h) rfl (by assumption) ?hy_73 ?re_73
        case hy_73 =>
          intro w hSw
          try dsimp only at hSw
          go_simp
          try with_reducible rfl
        simp only [Act.put, List.setIfInBounds_toArray, List.set_cons_zero, List.set_cons_succ]
        refine' held_take (i := 10) (d := some 156) (v := _) rfl rfl (by kernel_rfl) (by kernel_rfl) (by kernel_rfl) (fun _ _ _ h => h) rfl (by assumption) ?hy_74 ?re_74
        case hy_74 =>
          intro w hSw
          try dsimp only at hSw
          go_simp
          try with_reducible rfl
        simp only [Act.put, List.setIfInBounds_toArray, List.set_cons_zero, List.set_cons_succ]
        refine' held_take (i := 12) (d := some 158) (v := _) rfl rfl (by kernel_rfl) (by kernel_rfl) (by kernel_rfl) (fun _ _ _ h => h) rfl (by assumption) ?hy_75 ?re_75
        case hy_75 =>
          intro w hSw
          try dsimp only at hSw
          go_simp
          try with_reducible rfl
        simp only [Act.put, List.setIfInBounds_toArray, List.set_cons_zero, List.set_cons_succ]
        refine' held_take (i := 13) (d := some 159) (v := _) rfl rfl (by kernel_rfl) (by kernel_rfl) (by kernel_rfl) (fun _ _ _ h => h) rfl (by assumption) ?hy_76 ?re_76
        case hy_76 =>
          intro w hSw
          try dsimp only at hSw
          go_simp
          try with_reducible rfl
        simp only [Act.put, List.setIfInBounds_toArray, List.set_cons_zero, List.set_cons_succ]
        refine wpAnyH_ready (rs := [11]) (by kernel_rfl) (by simp) ?_
        refine AllReadyH.cons rfl (fun K hK => ?_) AllReadyH.nil
        go_simp
        refine (hof2.out fw _ (hD14.out)).mono ?_
        rintro e w15 ⟨rfl, hb⟩
        have hD15 := Lib.hid (below_trans (hD14.out) hb)
        clear hb
        go_wp2_with fail
        refine hK.out _ _ ?_ (fun hHeld => ?_)
        · exact hkS.out _ hD15.out
        clear hK K
        try simp only [Act.put, List.setIfInBounds_toArray, List.set_cons_zero, List.set_cons_succ]
        refine' held_take (i := 14) (d := some 160) (v := _) rfl rfl (by kernel_rfl) (by kernel_rfl) (by kernel_rfl) (fun _ _ _ h => h) rfl (by assumption) ?hy_77 ?re_77
        case hy_77 =>
          intro w hSw
          try dsimp only at hSw
          go_simp
          try with_reducible rfl
        simp only [Act.put, List.setIfInBounds_toArray, List.set_cons_zero, List.set_cons_succ]
        try simp only [hge2', ge_iff_le]
        refine' held_take (i := 15) (d := some 161) (v := _) rfl rfl (by kernel_rfl) (by kernel_rfl) (by kernel_rfl) (fun _ _ _ h => h) rfl (by assumption) ?hy_78 ?re_78
        case hy_78 =>
          intro w hSw
          try dsimp only at hSw
          go_simp
          try with_reducible rfl
        simp only [Act.put, List.setIfInBounds_toArray, List.set_cons_zero, List.set_cons_succ]
        refine' held_take (i := 16) (d := some 162) (v := _) rfl rfl (by kernel_rfl) (by kernel_rfl) (by kernel_rfl) (fun _ _ _ h => h) rfl (by assumption) ?hy_79 ?re_79
        case hy_79 =>
          intro w hSw
          try dsimp only at hSw
          go_simp
          try with_reducible rfl
        simp only [Act.put, List.setIfInBounds_toArray, List.set_cons_zero, List.set_cons_succ]
        refine' held_take (i := 17) (d := some 163) (v := _) rfl rfl (by kernel_rfl) (by kernel_rfl) (by kernel_rfl) (fun _ _ _ h => h) rfl (by assumption) ?hy_80 ?re_80
        case hy_80 =>
          intro w hSw
          try dsimp only at hSw
          go_simp
          try with_reducible rfl
        simp only [Act.put, List.setIfInBounds_toArray, List.set_cons_zero, List.set_cons_succ]
        refine' held_take (i := 18) (d := some 164) (v := _) rfl rfl (by kernel_rfl) (by kernel_rfl) (by kernel_rfl) (fun _ _ _ h => h) rfl (by assumption) ?hy_81 ?re_81
        case hy_81 =>
          intro w hSw
          try dsimp only at hSw
          go_simp
          try with_reducible rfl
        simp only [Act.put, List.setIfInBounds_toArray, List.set_cons_zero, List.set_cons_succ]
        refine' held_take (i := 19) (d := some 165) (v := _) rfl rfl (by kernel_rfl) (by kernel_rfl) (by kernel_rfl) (fun _ _ _ h => h) rfl (by assumption) ?hy_82 ?re_82
        case hy_82 =>
          intro w hSw
          try dsimp only at hSw
          go_simp
          try with_reducible rfl
        simp only [Act.put, List.setIfInBounds_toArray, List.set_cons_zero, List.set_cons_succ]
        refine' held_take (i := 20) (d := some 166) (v := _) rfl rfl (by kernel_rfl) (by kernel_rfl) (by kernel_rfl) (fun _ _ _ h => h) rfl (by assumption) ?hy_83 ?re_83
        case hy_83 =>
          intro w hSw
          try dsimp only at hSw
          go_simp
          try with_reducible rfl
        simp only [Act.put, List.setIfInBounds_toArray, List.set_cons_zero, List.set_cons_succ]
        refine' held_take (i := 21) (d := some 167) (v := _) rfl rfl (by kernel_rfl) (by kernel_rfl) (by kernel_rfl) (fun _ _ _ h => h) rfl (by assumption) ?hy_84 ?re_84
        case hy_84 =>
          intro w hSw
          try dsimp only at hSw
          go_simp
          try with_reducible rfl
        simp only [Act.put, List.setIfInBounds_toArray, List.set_cons_zero, List.set_cons_succ]
        refine' held_take (i := 22) (d := some 168) (v := _) rfl rfl (by kernel_rfl) (by kernel_rfl) (by kernel_rfl) (fun _ _ _ h => h) rfl (by assumption) ?hy_85 ?re_85
        case hy_85 =>
          intro w hSw
          try dsimp only at hSw
          go_simp
          try with_reducible rfl
        simp only [Act.put, List.setIfInBounds_toArray, List.set_cons_zero, List.set_cons_succ]
        refine' held_take (i := 23) (d := some 169) (v := _) rfl rfl (by kernel_rfl) (by kernel_rfl) (by kernel_rfl) (fun _ _ _ h => h) rfl (by assumption) ?hy_86 ?re_86
        case hy_86 =>
          intro w hSw
          try dsimp only at hSw
          go_simp
          try with_reducible rfl
        simp only [Act.put, List.setIfInBounds_toArray, List.set_cons_zero, List.set_cons_succ]
        refine' held_take (i := 24) (d := some 12) (v := _) rfl rfl (by kernel_rfl) (by kernel_rfl) (by kernel_rfl) (fun _ _ _ h => h) rfl (by assumption) ?hy_87 ?re_87
        case hy_87 =>
          intro w hSw
          try dsimp only at hSw
          go_simp
          try with_reducible rfl
        simp only [Act.put, List.setIfInBounds_toArray, List.set_cons_zero, List.set_cons_succ]
        refine wpAnyH_done (by kernel_rfl) ?_ _
        refine NoPanic.normal ?_
        go_wp2_with fail
        go_ret
        exact ⟨rfl, hfin.out _ hD15.out⟩
end Go.Proofs.YthbaicdohjbeeaaGreatDoor
