/- AsFol, RelW -/
import Derived.Test.YtfbndfkahodheaaGreatDoorMg24
import Derived.Test.YtfbndfkahodheaaGreatDoorMg22
import Derived.Test.YtfbndfkahodheaaGreatDoorMg21
import Derived.Test.YtfbndfkahodheaaGreatDoorMg11
import Derived.Deep.CutRange
import Derived.Test.YtfbndfkahodheaaGreatDoorMg23
/- The law's asFollower: walked. -/
namespace Go.Proofs.YtfbndfkahodheaaGreatDoor
open Go.RowKit

theorem bs_self (s : List UInt8) : ((bs s).toList == (bs s).toList) = true := by simp
set_option maxHeartbeats 8000000 in
set_option maxRecDepth 100000 in
theorem asFol_any (base b baser p : Nat) (G : Fol) (w : World) (hF : FolAt w base b G) (hR : RFolAt w baser p G) (hO : FOk G) :
    Calls Tryz.prog 32 #[.pointer (some ⟨b, 0, none⟩), .pointer (some ⟨p, 0, none⟩)] w fun e w' => e = .returned (.bool true) ∧ Below w.heap.size w w' := by
  have hFH := Lib.hid (fun wx (hx : Below w.heap.size w wx) => hF.below hx)
  have hRH := Lib.hid (fun wx (hx : Below w.heap.size w wx) => hR.below hx)
  have hsq := Lib.hid (fun wx (hx : Below w.heap.size w wx) => seq_fol base b G wx (hFH.out wx hx))
  have htm := Lib.hid (fun wx (hx : Below w.heap.size w wx) => time_fol base b G wx (hFH.out wx hx))
  have hhd := Lib.hid (fun wx (hx : Below w.heap.size w wx) => head_fol base b G wx (hFH.out wx hx))
  have hen := Lib.hid (fun wx (hx : Below w.heap.size w wx) => entries_fol base b G wx (hFH.out wx hx) (by have := hO.l60; omega))
  have hfl := Lib.hid (fun wx (hx : Below w.heap.size w wx) => floors_fol base b G wx (hFH.out wx hx) (by have := hO.fl; omega))
  have hfr := Lib.hid (fun wx (hx : Below w.heap.size w wx) => floorsR_fol baser p G wx (hRH.out wx hx) hO)
  have hl60 := hO.l60
  obtain ⟨hge, u, hbk, hu⟩ := hR
  obtain ⟨au, cu, hus⟩ := RowG.sl hu
  subst hus
  have huH := Lib.hid (fun wx (hx : Below w.heap.size w wx) => (show EntsAt wx (.slice au G.l.length cu) G.l from AtG.below (EntRow.at_ hu) hx))
  have hkS := Lib.hid (fun wx (hx : Below w.heap.size w wx) => (show wx.cell? ⟨p, 1, none⟩ = some (.int .i64 G.time) ∧ wx.cell? ⟨p, 2, none⟩ = some (.slice au G.l.length cu) ∧ wx.cell? ⟨p, 3, none⟩ = some (.string (bs G.head)) from
    (fun h => ⟨h.1.2.1, h.1.2.2.1, h.1.2.2.2⟩) (four_kept (heap_down hx hbk))))
  have hD0 := Lib.hid (show Below w.heap.size w w.drew from (Below.refl _ _).drew)
  have hcD := hkS.out _ hD0.out
  have hbe := bs_self G.head
  clear hF hbk hu hge
  go_enter Tryz.func32, Tryz.ntmps32
  go_upto_region 3 with fail
  refine wp_region_noPanic ?_
  refine wp_region_held_drew (S := fun w' => w'.cell? ⟨p, 1, none⟩ = some (.int .i64 G.time) ∧ w'.cell? ⟨p, 2, none⟩ = some (.slice au G.l.length cu) ∧ w'.cell? ⟨p, 3, none⟩ = some (.string (bs G.head))) (by kernel_rfl) ?_ (fun hHeld => ?_)
  · exact hcD
  refine' held_take (i := 0) (d := some 7) (v := _) rfl rfl (by kernel_rfl) (by kernel_rfl) (by kernel_rfl) (fun _ _ _ h => h) rfl (by assumption) ?hy_1 ?re_1
  case hy_1 =>
    intro w hSw
    try dsimp only at hSw
    go_simp
    try with_reducible rfl
  simp only [Act.put, List.setIfInBounds_toArray, List.set_cons_zero, List.set_cons_succ]
  refine' held_take (i := 2) (d := some 9) (v := _) rfl rfl (by kernel_rfl) (by kernel_rfl) (by kernel_rfl) (fun _ _ _ h => h) rfl (by assumption) ?hy_2 ?re_2
  case hy_2 =>
    intro w hSw
    try dsimp only at hSw
    go_simp
    try with_reducible rfl
  simp only [Act.put, List.setIfInBounds_toArray, List.set_cons_zero, List.set_cons_succ]
  refine' held_take (i := 3) (d := some 10) (v := _) rfl rfl (by kernel_rfl) (by kernel_rfl) (by kernel_rfl) (fun _ _ _ h => h) rfl (by assumption) ?hy_3 ?re_3
  case hy_3 =>
    intro w hSw
    try dsimp only at hSw
    go_simp
    try with_reducible rfl
  simp only [Act.put, List.setIfInBounds_toArray, List.set_cons_zero, List.set_cons_succ]
  refine' held_take (i := 4) (d := some 11) (v := _) rfl rfl (by kernel_rfl) (by kernel_rfl) (by kernel_rfl) (fun _ _ _ h => h) rfl (by assumption) ?hy_4 ?re_4
  case hy_4 =>
    intro w hSw
    try dsimp only at hSw
    go_simp
    try with_reducible rfl
  simp only [Act.put, List.setIfInBounds_toArray, List.set_cons_zero, List.set_cons_succ]
  refine' held_take (i := 5) (d := some 12) (v := _) rfl rfl (by kernel_rfl) (by kernel_rfl) (by kernel_rfl) (fun _ _ _ h => h) rfl (by assumption) ?hy_5 ?re_5
  case hy_5 =>
    intro w hSw
    try dsimp only at hSw
    go_simp
    try with_reducible rfl
  simp only [Act.put, List.setIfInBounds_toArray, List.set_cons_zero, List.set_cons_succ]
  refine' held_take (i := 6) (d := some 13) (v := _) rfl rfl (by kernel_rfl) (by kernel_rfl) (by kernel_rfl) (fun _ _ _ h => h) rfl (by assumption) ?hy_6 ?re_6
  case hy_6 =>
    intro w hSw
    try dsimp only at hSw
    go_simp
    try with_reducible rfl
  simp only [Act.put, List.setIfInBounds_toArray, List.set_cons_zero, List.set_cons_succ]
  refine wpAnyH_ready (rs := [1]) (by kernel_rfl) (by simp) ?_
  refine AllReadyH.cons rfl (fun K hK => ?_) AllReadyH.nil
  go_simp
  refine (hsq.out _ hD0.out).mono ?_
  rintro e w1 ⟨rfl, hb⟩
  have hD1 := Lib.hid (below_trans hD0.out hb)
  clear hb
  go_wp2_with fail
  refine hK.out _ _ ?_ (fun hHeld => ?_)
  · exact hkS.out _ hD1.out
  clear hK K
  try simp only [Act.put, List.setIfInBounds_toArray, List.set_cons_zero, List.set_cons_succ]
  refine' held_take (i := 7) (d := some 14) (v := _) rfl rfl (by kernel_rfl) (by kernel_rfl) (by kernel_rfl) (fun _ _ _ h => h) rfl (by assumption) ?hy_7 ?re_7
  case hy_7 =>
    intro w hSw
    try dsimp only at hSw
    go_simp
    try with_reducible rfl
  simp only [Act.put, List.setIfInBounds_toArray, List.set_cons_zero, List.set_cons_succ]
  try simp only [decide_true, beq_self_eq_true]
  refine' held_take (i := 8) (d := some 15) (v := _) rfl rfl (by kernel_rfl) (by kernel_rfl) (by kernel_rfl) (fun _ _ _ h => h) rfl (by assumption) ?hy_8 ?re_8
  case hy_8 =>
    intro w hSw
    try dsimp only at hSw
    go_simp
    try with_reducible rfl
  simp only [Act.put, List.setIfInBounds_toArray, List.set_cons_zero, List.set_cons_succ]
  refine' held_take (i := 9) (d := some 16) (v := _) rfl rfl (by kernel_rfl) (by kernel_rfl) (by kernel_rfl) (fun _ _ _ h => h) rfl (by assumption) ?hy_9 ?re_9
  case hy_9 =>
    intro w hSw
    try dsimp only at hSw
    go_simp
    try with_reducible rfl
  simp only [Act.put, List.setIfInBounds_toArray, List.set_cons_zero, List.set_cons_succ]
  refine' held_take (i := 11) (d := some 18) (v := _) rfl rfl (by kernel_rfl) (by kernel_rfl) (by kernel_rfl) (fun _ _ _ h => h) rfl (by assumption) ?hy_10 ?re_10
  case hy_10 =>
    intro w hSw
    try dsimp only at hSw
    go_simp
    try with_reducible rfl
  simp only [Act.put, List.setIfInBounds_toArray, List.set_cons_zero, List.set_cons_succ]
  refine' held_take (i := 12) (d := some 19) (v := _) rfl rfl (by kernel_rfl) (by kernel_rfl) (by kernel_rfl) (fun _ _ _ h => h) rfl (by assumption) ?hy_11 ?re_11
  case hy_11 =>
    intro w hSw
    try dsimp only at hSw
    go_simp
    try with_reducible rfl
  simp only [Act.put, List.setIfInBounds_toArray, List.set_cons_zero, List.set_cons_succ]
  refine' held_take (i := 13) (d := some 20) (v := _) rfl rfl (by kernel_rfl) (by kernel_rfl) (by kernel_rfl) (fun _ _ _ h => h) rfl (by assumption) ?hy_12 ?re_12
  case hy_12 =>
    intro w hSw
    try dsimp only at hSw
    go_simp
    try with_reducible rfl
  simp only [Act.put, List.setIfInBounds_toArray, List.set_cons_zero, List.set_cons_succ]
  refine' held_take (i := 14) (d := some 21) (v := _) rfl rfl (by kernel_rfl) (by kernel_rfl) (by kernel_rfl) (fun _ _ _ h => h) rfl (by assumption) ?hy_13 ?re_13
  case hy_13 =>
    intro w hSw
    try dsimp only at hSw
    go_simp
    try with_reducible rfl
  simp only [Act.put, List.setIfInBounds_toArray, List.set_cons_zero, List.set_cons_succ]
  refine wpAnyH_ready (rs := [10]) (by kernel_rfl) (by simp) ?_
  refine AllReadyH.cons rfl (fun K hK => ?_) AllReadyH.nil
  go_simp
  refine (htm.out _ hD1.out).mono ?_
  rintro e w2 ⟨rfl, hb⟩
  have hD2 := Lib.hid (below_trans hD1.out hb)
  clear hb
  go_wp2_with fail
  refine hK.out _ _ ?_ (fun hHeld => ?_)
  · exact hkS.out _ hD2.out
  clear hK K
  try simp only [Act.put, List.setIfInBounds_toArray, List.set_cons_zero, List.set_cons_succ]
  refine' held_take (i := 15) (d := some 22) (v := _) rfl rfl (by kernel_rfl) (by kernel_rfl) (by kernel_rfl) (fun _ _ _ h => h) rfl (by assumption) ?hy_14 ?re_14
  case hy_14 =>
    intro w hSw
    try dsimp only at hSw
    go_simp
    try with_reducible rfl
  simp only [Act.put, List.setIfInBounds_toArray, List.set_cons_zero, List.set_cons_succ]
  try simp only [decide_true, beq_self_eq_true]
  refine' held_take (i := 16) (d := some 23) (v := _) rfl rfl (by kernel_rfl) (by kernel_rfl) (by kernel_rfl) (fun _ _ _ h => h) rfl (by assumption) ?hy_15 ?re_15
  case hy_15 =>
    intro w hSw
    try dsimp only at hSw
    go_simp
    try with_reducible rfl
  simp only [Act.put, List.setIfInBounds_toArray, List.set_cons_zero, List.set_cons_succ]
  refine' held_take (i := 17) (d := some 24) (v := _) rfl rfl (by kernel_rfl) (by kernel_rfl) (by kernel_rfl) (fun _ _ _ h => h) rfl (by assumption) ?hy_16 ?re_16
  case hy_16 =>
    intro w hSw
    try dsimp only at hSw
    go_simp
    try with_reducible rfl
  simp only [Act.put, List.setIfInBounds_toArray, List.set_cons_zero, List.set_cons_succ]
  refine' held_take (i := 18) (d := some 25) (v := _) rfl rfl (by kernel_rfl) (by kernel_rfl) (by kernel_rfl) (fun _ _ _ h => h) rfl (by assumption) ?hy_17 ?re_17
  case hy_17 =>
    intro w hSw
    try dsimp only at hSw
    go_simp
    try with_reducible rfl
  simp only [Act.put, List.setIfInBounds_toArray, List.set_cons_zero, List.set_cons_succ]
  refine' held_take (i := 20) (d := some 27) (v := _) rfl rfl (by kernel_rfl) (by kernel_rfl) (by kernel_rfl) (fun _ _ _ h => h) rfl (by assumption) ?hy_18 ?re_18
  case hy_18 =>
    intro w hSw
    try dsimp only at hSw
    go_simp
    try with_reducible rfl
  simp only [Act.put, List.setIfInBounds_toArray, List.set_cons_zero, List.set_cons_succ]
  refine' held_take (i := 21) (d := some 28) (v := _) rfl rfl (by kernel_rfl) (by kernel_rfl) (by kernel_rfl) (fun _ _ _ h => h) rfl (by assumption) ?hy_19 ?re_19
  case hy_19 =>
    intro w hSw
    try dsimp only at hSw
    go_simp
    try with_reducible rfl
  simp only [Act.put, List.setIfInBounds_toArray, List.set_cons_zero, List.set_cons_succ]
  refine' held_take (i := 22) (d := some 29) (v := _) rfl rfl (by kernel_rfl) (by kernel_rfl) (by kernel_rfl) (fun _ _ _ h => h) rfl (by assumption) ?hy_20 ?re_20
  case hy_20 =>
    intro w hSw
    try dsimp only at hSw
    go_simp
    try with_reducible rfl
  simp only [Act.put, List.setIfInBounds_toArray, List.set_cons_zero, List.set_cons_succ]
  refine' held_take (i := 23) (d := some 30) (v := _) rfl rfl (by kernel_rfl) (by kernel_rfl) (by kernel_rfl) (fun _ _ _ h => h) rfl (by assumption) ?hy_21 ?re_21
  case hy_21 =>
    intro w hSw
    try dsimp only at hSw
    go_simp
    try with_reducible rfl
  simp only [Act.put, List.setIfInBounds_toArray, List.set_cons_zero, List.set_cons_succ]
  refine wpAnyH_ready (rs := [19]) (by kernel_rfl) (by simp) ?_
  refine AllReadyH.cons rfl (fun K hK => ?_) AllReadyH.nil
  go_simp
  refine (hhd.out _ hD2.out).mono ?_
  rintro e w3 ⟨rfl, hb⟩
  have hD3 := Lib.hid (below_trans hD2.out hb)
  clear hb
  go_wp2_with fail
  refine hK.out _ _ ?_ (fun hHeld => ?_)
  · exact hkS.out _ hD3.out
  clear hK K
  try simp only [Act.put, List.setIfInBounds_toArray, List.set_cons_zero, List.set_cons_succ]
  refine' held_take (i := 24) (d := some 31) (v := _) rfl rfl (by kernel_rfl) (by kernel_rfl) (by kernel_rfl) (fun _ _ _ h => h) rfl (by assumption) ?hy_22 ?re_22
  case hy_22 =>
    intro w hSw
    try dsimp only at hSw
    go_simp
    try with_reducible rfl
  simp only [Act.put, List.setIfInBounds_toArray, List.set_cons_zero, List.set_cons_succ]
  try simp only [hbe, decide_true, beq_self_eq_true]
  refine' held_take (i := 25) (d := some 32) (v := _) rfl rfl (by kernel_rfl) (by kernel_rfl) (by kernel_rfl) (fun _ _ _ h => h) rfl (by assumption) ?hy_23 ?re_23
  case hy_23 =>
    intro w hSw
    try dsimp only at hSw
    go_simp
    try with_reducible rfl
  simp only [Act.put, List.setIfInBounds_toArray, List.set_cons_zero, List.set_cons_succ]
  refine' held_take (i := 26) (d := some 33) (v := _) rfl rfl (by kernel_rfl) (by kernel_rfl) (by kernel_rfl) (fun _ _ _ h => h) rfl (by assumption) ?hy_24 ?re_24
  case hy_24 =>
    intro w hSw
    try dsimp only at hSw
    go_simp
    try with_reducible rfl
  simp only [Act.put, List.setIfInBounds_toArray, List.set_cons_zero, List.set_cons_succ]
  refine' held_take (i := 27) (d := some 34) (v := _) rfl rfl (by kernel_rfl) (by kernel_rfl) (by kernel_rfl) (fun _ _ _ h => h) rfl (by assumption) ?hy_25 ?re_25
  case hy_25 =>
    intro w hSw
    try dsimp only at hSw
    go_simp
    try with_reducible rfl
  simp only [Act.put, List.setIfInBounds_toArray, List.set_cons_zero, List.set_cons_succ]
  refine' held_take (i := 29) (d := some 36) (v := _) rfl rfl (by kernel_rfl) (by kernel_rfl) (by kernel_rfl) (fun _ _ _ h => h) rfl (by assumption) ?hy_26 ?re_26
  case hy_26 =>
    intro w hSw
    try dsimp only at hSw
    go_simp
    try with_reducible rfl
  simp only [Act.put, List.setIfInBounds_toArray, List.set_cons_zero, List.set_cons_succ]
  refine' held_take (i := 30) (d := some 37) (v := _) rfl rfl (by kernel_rfl) (by kernel_rfl) (by kernel_rfl) (fun _ _ _ h => h) rfl (by assumption) ?hy_27 ?re_27
  case hy_27 =>
    intro w hSw
    try dsimp only at hSw
    go_simp
    try with_reducible rfl
  simp only [Act.put, List.setIfInBounds_toArray, List.set_cons_zero, List.set_cons_succ]
  refine' held_take (i := 31) (d := some 38) (v := _) rfl rfl (by kernel_rfl) (by kernel_rfl) (by kernel_rfl) (fun _ _ _ h => h) rfl (by assumption) ?hy_28 ?re_28
  case hy_28 =>
    intro w hSw
    try dsimp only at hSw
    go_simp
    try with_reducible rfl
  simp only [Act.put, List.setIfInBounds_toArray, List.set_cons_zero, List.set_cons_succ]
  refine' held_take (i := 32) (d := some 39) (v := _) rfl rfl (by kernel_rfl) (by kernel_rfl) (by kernel_rfl) (fun _ _ _ h => h) rfl (by assumption) ?hy_29 ?re_29
  case hy_29 =>
    intro w hSw
    try dsimp only at hSw
    go_simp
    try with_reducible rfl
  simp only [Act.put, List.setIfInBounds_toArray, List.set_cons_zero, List.set_cons_succ]
  refine wpAnyH_ready (rs := [28]) (by kernel_rfl) (by simp) ?_
  refine AllReadyH.cons rfl (fun K hK => ?_) AllReadyH.nil
  go_simp
  refine (hen.out _ hD3.out).mono ?_
  rintro e w4 ⟨v4, rfl, hr4, hb⟩
  have hD4 := Lib.hid (below_trans hD3.out hb)
  have hsm := Lib.hid (same_ent v4 _ G.l w4 (EntRow.at_ hr4) (huH.out _ hD4.out))
  clear hr4
  clear hb
  go_wp2_with fail
  refine hK.out _ _ ?_ (fun hHeld => ?_)
  · exact hkS.out _ hD4.out
  clear hK K
  try simp only [Act.put, List.setIfInBounds_toArray, List.set_cons_zero, List.set_cons_succ]
  refine wpAnyH_ready (rs := [33]) (by kernel_rfl) (by simp) ?_
  refine AllReadyH.cons rfl (fun K hK => ?_) AllReadyH.nil
  go_simp
  refine (hsm.out).mono ?_
  rintro e w5 ⟨rfl, hb⟩
  have hD5 := Lib.hid (below_trans hD4.out hb)
  clear hsm
  clear hb
  go_wp2_with fail
  refine hK.out _ _ ?_ (fun hHeld => ?_)
  · exact hkS.out _ hD5.out
  clear hK K
  try simp only [Act.put, List.setIfInBounds_toArray, List.set_cons_zero, List.set_cons_succ]
  refine' held_take (i := 34) (d := some 41) (v := _) rfl rfl (by kernel_rfl) (by kernel_rfl) (by kernel_rfl) (fun _ _ _ h => h) rfl (by assumption) ?hy_30 ?re_30
  case hy_30 =>
    intro w hSw
    try dsimp only at hSw
    go_simp
    try with_reducible rfl
  simp only [Act.put, List.setIfInBounds_toArray, List.set_cons_zero, List.set_cons_succ]
  refine' held_take (i := 35) (d := some 42) (v := _) rfl rfl (by kernel_rfl) (by kernel_rfl) (by kernel_rfl) (fun _ _ _ h => h) rfl (by assumption) ?hy_31 ?re_31
  case hy_31 =>
    intro w hSw
    try dsimp only at hSw
    go_simp
    try with_reducible rfl
  simp only [Act.put, List.setIfInBounds_toArray, List.set_cons_zero, List.set_cons_succ]
  refine' held_take (i := 36) (d := some 43) (v := _) rfl rfl (by kernel_rfl) (by kernel_rfl) (by kernel_rfl) (fun _ _ _ h => h) rfl (by assumption) ?hy_32 ?re_32
  case hy_32 =>
    intro w hSw
    try dsimp only at hSw
    go_simp
    try with_reducible rfl
  simp only [Act.put, List.setIfInBounds_toArray, List.set_cons_zero, List.set_cons_succ]
  refine' held_take (i := 38) (d := some 45) (v := _) rfl rfl (by kernel_rfl) (by kernel_rfl) (by kernel_rfl) (fun _ _ _ h => h) rfl (by assumption) ?hy_33 ?re_33
  case hy_33 =>
    intro w hSw
    try dsimp only at hSw
    go_simp
    try with_reducible rfl
  simp only [Act.put, List.setIfInBounds_toArray, List.set_cons_zero, List.set_cons_succ]
  refine wpAnyH_ready (rs := [37]) (by kernel_rfl) (by simp) ?_
  refine AllReadyH.cons rfl (fun K hK => ?_) AllReadyH.nil
  go_simp
  refine (hfl.out _ hD5.out).mono ?_
  rintro e w6 ⟨v6, rfl, hr6, hb⟩
  have hD6 := Lib.hid (below_trans hD5.out hb)
  have hr6 := Lib.hid hr6
  clear hb
  go_wp2_with fail
  refine hK.out _ _ ?_ (fun hHeld => ?_)
  · exact hkS.out _ hD6.out
  clear hK K
  try simp only [Act.put, List.setIfInBounds_toArray, List.set_cons_zero, List.set_cons_succ]
  refine wpAnyH_ready (rs := [39]) (by kernel_rfl) (by simp) ?_
  refine AllReadyH.cons rfl (fun K hK => ?_) AllReadyH.nil
  go_simp
  refine (hfr.out _ hD6.out).mono ?_
  rintro e w7 ⟨v7, rfl, hr7, hb⟩
  have hD7 := Lib.hid (below_trans hD6.out hb)
  have hsf := Lib.hid (samef_flo v6 v7 G.floors w7 (floorsAt_of (RowG.at_ (floRow_G.1 (FlRow.below hr6.out hb)))) hr7)
  clear hr7
  clear hb
  go_wp2_with fail
  refine hK.out _ _ ?_ (fun hHeld => ?_)
  · exact hkS.out _ hD7.out
  clear hK K
  try simp only [Act.put, List.setIfInBounds_toArray, List.set_cons_zero, List.set_cons_succ]
  refine wpAnyH_ready (rs := [40]) (by kernel_rfl) (by simp) ?_
  refine AllReadyH.cons rfl (fun K hK => ?_) AllReadyH.nil
  go_simp
  refine (hsf.out).mono ?_
  rintro e w8 ⟨rfl, hb⟩
  have hD8 := Lib.hid (below_trans hD7.out hb)
  clear hsf
  clear hb
  go_wp2_with fail
  refine hK.out _ _ ?_ (fun hHeld => ?_)
  · exact hkS.out _ hD8.out
  clear hK K
  try simp only [Act.put, List.setIfInBounds_toArray, List.set_cons_zero, List.set_cons_succ]
  refine' held_take (i := 41) (d := some 48) (v := _) rfl rfl (by kernel_rfl) (by kernel_rfl) (by kernel_rfl) (fun _ _ _ h => h) rfl (by assumption) ?hy_34 ?re_34
  case hy_34 =>
    intro w hSw
    try dsimp only at hSw
    go_simp
    try with_reducible rfl
  simp only [Act.put, List.setIfInBounds_toArray, List.set_cons_zero, List.set_cons_succ]
  refine' held_take (i := 42) (d := some 4) (v := _) rfl rfl (by kernel_rfl) (by kernel_rfl) (by kernel_rfl) (fun _ _ _ h => h) rfl (by assumption) ?hy_35 ?re_35
  case hy_35 =>
    intro w hSw
    try dsimp only at hSw
    go_simp
    try with_reducible rfl
  simp only [Act.put, List.setIfInBounds_toArray, List.set_cons_zero, List.set_cons_succ]
  refine wpAnyH_done (by kernel_rfl) ?_ _
  refine NoPanic.normal ?_
  go_wp2_with fail
  go_ret
  exact ⟨rfl, hD8.out⟩
end Go.Proofs.YtfbndfkahodheaaGreatDoor

/- Trees: Push, Many, Node: walked. -/
namespace Go.Proofs.YtfbndfkahodheaaGreatDoor
open Go.RowKit

theorem below_base {w w1 w2 : World} {b base : Nat} (h : Below base w w1) (hs : base ≤ w1.heap.size) (hb : base ≤ b) (hk : Keeps (· = b) w1 w2) : Below base w w2 :=
  ⟨hk.os.trans h.os, hk.tape.trans h.tape, hk.output.trans h.output, Nat.le_trans h.size hk.size, fun k hk' => (hk.block k (Nat.lt_of_lt_of_le hk' hs) (fun e => by omega)).trans (h.block k hk')⟩
set_option maxHeartbeats 2000000 in
set_option maxRecDepth 100000 in
theorem push_tree {E : Nat → Addr} (base b : Nat) (ps : List Nat) (T : List Fol) (A : List Int) (s : List UInt8) (v : Value) (M : List Ent) (w : World) (hL : LaidS E w) (hT : TreeAt w base b ps T A) (hp : 0 < ps.length) (hO : FOk (nodeT T 0)) (hv : EntsAt w v M) (hm : ∀ e ∈ M, e.f.who.length ≤ maxLen) (hl : M.length ≤ 1000) (hs : s.length ≤ 300) (hbs : base ≤ w.heap.size) :
    Calls Tryz.prog 39 #[.pointer (some ⟨b, 0, none⟩), .string (bs s), v] w fun e w' => e = .returned (errV E (takeF (nodeT T 0) s M).1) ∧ TreeAt w' base b ps (T.set 0 (takeF (nodeT T 0) s M).2) A ∧ Below base w w' := by
  have htk := Lib.hid (take_fol (E := E) base (ps.getD 0 0) (nodeT T 0) s v M w hL (hT.fol 0 hp) hv hm hO.nm (by have := hO.l60; omega) (by omega) hbs)
  have hTH := Lib.hid hT
  obtain ⟨au, cu, av, cv, c0, c1, l1, _, hps, _⟩ := hT.cells
  obtain ⟨g, o, rfl, p0⟩ := hps 0 hp
  rw [Nat.add_zero] at p0
  obtain ⟨am, cm, hvm⟩ := AtG.sl hv
  subst hvm
  have hset := Lib.hid (fun w' (hf : FolAt w' base (ps.getD 0 0) (takeF (nodeT T 0) s M).2) (hk : Keeps (· = ps.getD 0 0) w w') => (show TreeAt w' base b ps (T.set 0 (takeF (nodeT T 0) s M).2) A ∧ Below base w w' from ⟨hTH.out.set hp hf hk, below_base (Below.refl _ _) hbs (hTH.out.fol 0 hp).1 hk⟩))
  generalize takeF (nodeT T 0) s M = R at *
  obtain ⟨rc, rf⟩ := R
  dsimp only at *
  generalize ps.getD 0 0 = p at *
  unfold maxLen at l1
  have hpi : (0 : Int) < (ps.length : Int) := by omega
  clear hps c1 hL hv hm hO hs hT
  go_enter Tryz.func39, Tryz.ntmps39
  go_wp2_with fail
  refine htk.out.mono ?_
  rintro e w1 ⟨rfl, hf, hk⟩
  have hfin := Lib.hid (hset.out _ hf hk)
  clear hf hk
  go_wp2_with fail
  go_ret
  exact ⟨rfl, hfin.out⟩
set_option maxRecDepth 100000 in
theorem many_tree (base b : Nat) (ps : List Nat) (T : List Fol) (A : List Int) (w : World) (hT : TreeAt w base b ps T A) :
    Calls Tryz.prog 38 #[.pointer (some ⟨b, 0, none⟩)] w fun e w' => e = .returned (.int .i64 T.length) ∧ w = w' := by
  obtain ⟨au, cu, av, cv, c0, c1, l1, _, _, _⟩ := hT.cells
  have hln := Lib.hid hT.len
  unfold maxLen at l1
  clear c1 hT
  go_enter Tryz.func38, Tryz.ntmps38
  go_wp2_with fail
  go_ret
  exact ⟨ret_int (by rw [hln.out]), rfl⟩
set_option maxHeartbeats 2000000 in
set_option maxRecDepth 100000 in
theorem node_tree (base b : Nat) (ps : List Nat) (T : List Fol) (A : List Int) (i : Nat) (w : World) (hT : TreeAt w base b ps T A) (hi : i < T.length) (hO : FOk (nodeT T i)) :
    Calls Tryz.prog 44 #[.pointer (some ⟨b, 0, none⟩), .int .i64 i] w fun e w' => ∃ b', e = .returned (.pointer (some ⟨b', 0, none⟩)) ∧ FolAt w' w.heap.size b' (nodeT T i) ∧ Below w.heap.size w w' := by
  have hi2 : i < ps.length := by rw [hT.len]; exact hi
  have hcp := Lib.hid (copy_fol base (ps.getD i 0) (nodeT T i) w (hT.fol i hi2) (by have := hO.l60; omega) (by have := hO.fl; omega))
  obtain ⟨au, cu, av, cv, c0, c1, l1, _, hps, _⟩ := hT.cells
  obtain ⟨g, o, rfl, p0⟩ := hps i hi2
  unfold maxLen at l1
  have h1 : (0 : Int) ≤ (i : Int) := by omega
  have h2 : (i : Int) < (ps.length : Int) := by omega
  have h3 : ¬ ((i : Int) < 0) := by omega
  have h4 : ¬ ((ps.length : Int) ≤ (i : Int)) := by omega
  generalize nodeT T i = F at *
  generalize ps.getD i 0 = p at *
  clear hps c1 hT hO hi
  go_enter Tryz.func44, Tryz.ntmps44
  go_wp2_with fail
  refine hcp.out.mono ?_
  rintro e w1 ⟨b', rfl, hf, hb⟩
  have hfin := Lib.hid (And.intro hf hb)
  clear hf hb
  go_wp2_with fail
  go_ret
  exact ⟨_, rfl, hfin.out⟩
set_option maxRecDepth 100000 in
theorem node_none (base b : Nat) (ps : List Nat) (T : List Fol) (A : List Int) (i : Int) (w : World) (hT : TreeAt w base b ps T A) (hi : i < 0 ∨ (T.length : Int) ≤ i) :
    Calls Tryz.prog 44 #[.pointer (some ⟨b, 0, none⟩), .int .i64 i] w fun e w' => e = .returned (.pointer none) ∧ w = w' := by
  obtain ⟨au, cu, av, cv, c0, c1, l1, _, _, _⟩ := hT.cells
  unfold maxLen at l1
  have hln := hT.len
  by_cases h0 : i < 0
  · clear c1 hT hi hln
    go_enter Tryz.func44, Tryz.ntmps44
    go_wp2_with fail
    go_ret
    exact ⟨rfl, rfl⟩
  · have h4 : (ps.length : Int) ≤ i := by omega
    clear c1 hT hi hln
    go_enter Tryz.func44, Tryz.ntmps44
    go_wp2_with fail
    go_ret
    exact ⟨rfl, rfl⟩
end Go.Proofs.YtfbndfkahodheaaGreatDoor
