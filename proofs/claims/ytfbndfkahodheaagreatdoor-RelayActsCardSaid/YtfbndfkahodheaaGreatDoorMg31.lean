/- RelV2 -/
import Derived.Test.YtfbndfkahodheaaGreatDoorMg27
import Derived.Test.YtfbndfkahodheaaGreatDoorMg29
import Derived.Test.YtfbndfkahodheaaGreatDoorMg11
import Derived.Test.YtfbndfkahodheaaGreatDoorMg30
import Derived.Deep.LoopGhost
/- The reference's trees: Poll, All: walked. -/
namespace Go.Proofs.YtfbndfkahodheaaGreatDoor
open Go.RowKit

/-- What the reference's poll answers. -/
def PollRR (r : Int × Nat) (e : Ending) : Prop := e = .returned (.tuple #[.int .i64 r.1, .int .i64 (r.2 : Int)])
theorem PollRR.mk {r : Int × Nat} {n z : Int} {c : Nat} (hr : r = (n, c)) (hz : z = (c : Int)) : PollRR r (.returned (.tuple #[.int .i64 n, .int .i64 z])) := by
  subst hr hz
  rfl
set_option maxHeartbeats 16000000 in
set_option maxRecDepth 100000 in
theorem pollR_any (base b : Nat) (ps : List Nat) (T : List Fol) (A : List Int) (i : Int) (w : World) (hT : RTreeAt w base b ps T A) (hO : TOk T) (hA : A.length = T.length) (hup : ∀ i, 1 ≤ i → i < T.length → 0 ≤ A.getD i 0 ∧ A.getD i 0 < (T.length : Int)) (hbs : base ≤ w.heap.size) :
    Calls Tryz.prog 41 #[.pointer (some ⟨b, 0, none⟩), .int .i64 i] w fun e w' => PollRR (pollT T A i).1 e ∧ RTreeAt w' base b ps (pollT T A i).2 A ∧ Keeps (· ∈ ps) w w' := by
  have hTH := Lib.hid hT
  obtain ⟨au, cu, av, cv, c0, c1, l1, l2, hps, hAs⟩ := hT.cells
  have hln := hT.len
  unfold maxLen at l1 l2
  have hbB := Lib.hid (fun wx (hx : Below w.heap.size w wx) => (show Keeps (· ∈ ps) w wx from Keeps.of_below hx))
  by_cases hout : i < 1 ∨ (T.length : Int) ≤ i
  · have hr := Lib.hid (poll_out (A := A) hout)
    by_cases h1 : i < 1
    · clear c1 hps hAs hT hln hout hO hup hA
      go_enter Tryz.func41, Tryz.ntmps41
      go_wp2_with fail
      go_ret2
      exact ⟨PollRR.mk (by first | rfl | rw [hr.out]) rfl, by first | exact hTH.out | (rw [hr.out]; exact hTH.out), Keeps.refl _ _⟩
    · have h2 : (ps.length : Int) ≤ i := by omega
      clear c1 hps hAs hT hln hout hO hup hA
      go_enter Tryz.func41, Tryz.ntmps41
      go_wp2_with fail
      go_ret2
      exact ⟨PollRR.mk (by first | rfl | rw [hr.out]) rfl, by first | exact hTH.out | (rw [hr.out]; exact hTH.out), Keeps.refl _ _⟩
  obtain ⟨n, rfl⟩ := Int.eq_ofNat_of_zero_le (show 0 ≤ i by omega)
  have hn1 : 1 ≤ n := by omega
  have hn2 : n < T.length := by omega
  have hn3 : n < ps.length := by omega
  have hw := poll_ways T A n hn1 hn2
  obtain ⟨hu0, hu1⟩ := hup n hn1 hn2
  have hua : A.getD n 0 = ((upT A n : Nat) : Int) := by unfold upT; omega
  have hul : upT A n < ps.length := by omega
  obtain ⟨ga, oa, rfl, pA⟩ := hAs n (by omega)
  rw [hua] at pA
  obtain ⟨gp, op, rfl, pF⟩ := hps n hn3
  obtain ⟨_, _, he, pU⟩ := hps (upT A n) hul
  cases he
  have hOF := Lib.hid (hO n hn2)
  have hOU := Lib.hid (hO (upT A n) (by omega))
  have hFF := Lib.hid (fun wx (hx : Below w.heap.size w wx) => (hT.fol n hn3).below hx)
  obtain ⟨_, uF, bkF, ruF⟩ := hT.fol n hn3
  obtain ⟨_, uU, bkU, ruU⟩ := hT.fol (upT A n) hul
  have hset := Lib.hid (fun w1 w2 f (hb1 : Below w.heap.size w w1) (hf : RFolAt w2 base (ps.getD n 0) f) (hk : Keeps (· = ps.getD n 0) w1 w2) => (show RTreeAt w2 base b ps (T.set n f) A ∧ Keeps (· ∈ ps) w w2 from ⟨(hTH.out.below hb1).set hn3 hf hk, (Keeps.of_below hb1).trans (hk.mono (fun k e => e ▸ getD_mem hn3))⟩))
  have hk1 : (0 : Int) ≤ (n : Int) := by omega
  have hk2 : (n : Int) < (ps.length : Int) := by omega
  have hk3 : ¬ ((n : Int) < 1) := by omega
  have hk4 : ¬ ((ps.length : Int) ≤ (n : Int)) := by omega
  have hk5 : (0 : Int) ≤ ((upT A n : Nat) : Int) := by omega
  have hk6 : ((upT A n : Nat) : Int) < (ps.length : Int) := by omega
  have hk7 : (n : Int) < (A.length : Int) := by omega
  have hself := Lib.hid (set_self hn2)
  generalize upT A n = up at *
  generalize hFd : nodeT T n = F at *
  generalize hUd : nodeT T up = U at *
  generalize hpf : ps.getD n 0 = pf at *
  generalize ps.getD up 0 = pu at *
  have hwH := Lib.hid hw
  obtain ⟨aF, cF, rfl⟩ := RowG.sl ruF
  obtain ⟨aU, cU, rfl⟩ := RowG.sl ruU
  have hcF := Lib.hid (fun wx (hx : Below w.heap.size w wx) => (four_kept (heap_down hx bkF)).1)
  have hcU := Lib.hid (fun wx (hx : Below w.heap.size w wx) => (four_kept (heap_down hx bkU)).1)
  have hUv := Lib.hid (show EntsAt w (.slice aU U.l.length cU) U.l from EntRow.at_ ruU)
  clear hps hAs hT hln hout hO hup hA hw hFd hUd hpf hua hu0 hu1 bkF ruF bkU ruU
  go_enter Tryz.func41, Tryz.ntmps41
  go_upto_region 4 with fail
  go_quiet (fail)
  have hK1 := Lib.hid (show Below w.heap.size w (w.drewN nq) from below_drawn (Below.refl _ _) nq)
  clear c0 c1 pA pF pU
  generalize hW : w.drewN nq = W at *
  clear hW
  obtain ⟨u0, u1, u2, u3⟩ := hcU.out _ hK1.out
  obtain ⟨f0, f1, f2, f3⟩ := hcF.out _ hK1.out
  by_cases hue : U.head = []
  · have hr := hwH.out
    rw [if_pos hue] at hr
    have hr := Lib.hid hr
    have hbe : (bs U.head).toList = [] := by rw [toList_data, bs_list]; exact hue
    clear hue hwH
    go_wp2_with fail
    go_ret2
    exact ⟨PollRR.mk (by first | rfl | rw [hr.out]) rfl, by first | exact hTH.out.below hK1.out | (rw [hr.out]; exact hTH.out.below hK1.out), hbB.out _ hK1.out⟩
  have hw2 := hwH.out
  rw [if_neg hue] at hw2
  have hw2H := Lib.hid hw2
  have hbe2 : ¬ (bs U.head).toList = [] := by rw [toList_data, bs_list]; exact hue
  have hbe3 : (bs U.head).toList.isEmpty = false := by cases hq : (bs U.head).toList with | nil => exact absurd hq hbe2 | cons => rfl
  have hbe4 : ((bs U.head).toList == []) = false := beq_eq_false_iff_ne.2 hbe2
  clear hue hw2 hwH
  go_upto_region 7 with fail
  go_cut [55] from 47 to 55 (fun s55 wx => s55 = .bool (decide (U.head = F.head)) ∧ Hid (Below W.heap.size W wx))
  case first =>
    by_cases hhe : U.head = F.head
    · have hse : ((bs U.head).toList == (bs F.head).toList) = true := by rw [bs_same]; exact decide_eq_true hhe
      have hse2 : (bs U.head).toList = (bs F.head).toList := by rw [hhe]
      have hdH := Lib.hid (show decide (U.head = F.head) = true from decide_eq_true hhe)
      clear hhe
      go_quiet (fail)
      go_wp2_with fail
      go_meet
      exact ⟨by rw [hdH.out], Lib.hid (below_drawn (Below.refl _ _) _)⟩
    · have hse : ((bs U.head).toList == (bs F.head).toList) = false := by rw [bs_same]; exact decide_eq_false hhe
      have hse2 : ¬ (bs U.head).toList = (bs F.head).toList := by rw [toList_data, toList_data, bs_list, bs_list]; exact hhe
      have hdH := Lib.hid (show decide (U.head = F.head) = false from decide_eq_false hhe)
      clear hhe
      go_quiet (fail)
      go_wp2_with fail
      go_meet
      exact ⟨by rw [hdH.out], Lib.hid (below_drawn (Below.refl _ _) _)⟩
  obtain ⟨rfl, hbc⟩ := hcut
  have hK2 := Lib.hid (below_trans hK1.out hbc.out)
  clear u0 u1 u2 u3 f0 f1 f2 f3 hbc hbe2 hbe3 hbe4
  obtain ⟨u0, u1, u2, u3⟩ := hcU.out _ hK2.out
  obtain ⟨f0, f1, f2, f3⟩ := hcF.out _ hK2.out
  by_cases hhe : U.head = F.head
  · have hr := hw2H.out
    rw [if_pos hhe] at hr
    have hr := Lib.hid hr
    rw [decide_eq_true hhe]
    clear hhe hw2H
    go_wp2_with fail
    go_ret2
    exact ⟨PollRR.mk (by first | rfl | rw [hr.out]) rfl, by first | exact hTH.out.below hK2.out | (rw [hr.out]; exact hTH.out.below hK2.out), hbB.out _ hK2.out⟩
  have hw3 := hw2H.out
  rw [if_neg hhe] at hw3
  have hw3H := Lib.hid hw3
  rw [decide_eq_false hhe]
  clear hhe hw3 hw2H
  go_upto_region 9 with fail
  have hsi := Lib.hid (fun wx (hx : Below w.heap.size w wx) => sinceR_from w (.slice aU U.l.length cU) U.l (F.l.length : Int) wx hx hUv.out hOU.out.nm)
  have hsn := Lib.hid (sinceE_names (n := (F.l.length : Int)) hOU.out.nm)
  have hsl := Lib.hid (Nat.le_trans (sinceE_len U.l (F.l.length : Int)) hOU.out.l60)
  obtain ⟨S, sc, sa, hs⟩ : ∃ S sc sa, sinceE U.l (F.l.length : Int) = (S, sc, sa) := ⟨_, _, _, rfl⟩
  unfold EntRF at hsi
  rw [hs] at hsi hsn hsl hw3H
  dsimp only [faultF] at hsi hsn hsl hw3H
  generalize wc = W2 at *
  generalize hzd : (sc : Int) = zi at *
  have hzd := Lib.hid hzd
  have hkS := Lib.hid (fun (wx : World) (hx : Below W2.heap.size W2 wx) => (show wx.cell? ⟨pu, 2, none⟩ = some (.slice aU U.l.length cU) ∧ wx.cell? ⟨pf, 2, none⟩ = some (.slice aF F.l.length cF) from ⟨(hcU.out wx (below_trans hK2.out hx)).2.2.1, (hcF.out wx (below_trans hK2.out hx)).2.2.1⟩))
  have hD0 := Lib.hid (show Below W2.heap.size W2 W2.drew from (Below.refl _ _).drew)
  have hcD := hkS.out _ hD0.out
  have hltF := Lib.hid (show pf < W2.heap.size from (hFF.out _ hK2.out).lt)
  clear hs u0 u1 u2 u3 f0 f1 f2 f3
  go_cut [8, 9] from 56 to 68 (fun s8 s9 wx => ∃ bx, s9 = .pointer (some ⟨bx, 0, none⟩) ∧ Hid (∀ wy, Below w.heap.size w wy → EntsAt wy s8 S) ∧ Hid (Below W2.heap.size W2 wx) ∧ Hid (wx.cell? ⟨bx, 0, none⟩ = some (.int .i64 zi)))
  case first =>
    refine wp_region_noPanic ?_
    refine wp_region_held_drew (S := fun w' => w'.cell? ⟨pu, 2, none⟩ = some (.slice aU U.l.length cU) ∧ w'.cell? ⟨pf, 2, none⟩ = some (.slice aF F.l.length cF)) (by kernel_rfl) ?_ (fun hHeld => ?_)
    · exact hcD
    refine' held_take (i := 0) (d := some 57) (v := _) rfl rfl (by kernel_rfl) (by kernel_rfl) (by kernel_rfl) (fun _ _ _ h => h) rfl (by assumption) ?hy_1 ?re_1
    case hy_1 =>
      intro w hSw
      try dsimp only at hSw
      go_simp
      try with_reducible rfl
    simp only [Act.put, List.setIfInBounds_toArray, List.set_cons_zero, List.set_cons_succ]
    refine' held_take (i := 1) (d := some 58) (v := _) rfl rfl (by kernel_rfl) (by kernel_rfl) (by kernel_rfl) (fun _ _ _ h => h) rfl (by assumption) ?hy_2 ?re_2
    case hy_2 =>
      intro w hSw
      try dsimp only at hSw
      go_simp
      try with_reducible rfl
    simp only [Act.put, List.setIfInBounds_toArray, List.set_cons_zero, List.set_cons_succ]
    refine' held_take (i := 2) (d := some 59) (v := _) rfl rfl (by kernel_rfl) (by kernel_rfl) (by kernel_rfl) (fun _ _ _ h => h) rfl (by assumption) ?hy_3 ?re_3
    case hy_3 =>
      intro w hSw
      try dsimp only at hSw
      go_simp
      try with_reducible rfl
    simp only [Act.put, List.setIfInBounds_toArray, List.set_cons_zero, List.set_cons_succ]
    refine' held_take (i := 3) (d := some 60) (v := _) rfl rfl (by kernel_rfl) (by kernel_rfl) (by kernel_rfl) (fun _ _ _ h => h) rfl (by assumption) ?hy_4 ?re_4
    case hy_4 =>
      intro w hSw
      try dsimp only at hSw
      go_simp
      try with_reducible rfl
    simp only [Act.put, List.setIfInBounds_toArray, List.set_cons_zero, List.set_cons_succ]
    refine' held_take (i := 4) (d := some 61) (v := _) rfl rfl (by kernel_rfl) (by kernel_rfl) (by kernel_rfl) (fun _ _ _ h => h) rfl (by assumption) ?hy_5 ?re_5
    case hy_5 =>
      intro w hSw
      try dsimp only at hSw
      go_simp
      try with_reducible rfl
    simp only [Act.put, List.setIfInBounds_toArray, List.set_cons_zero, List.set_cons_succ]
    refine' held_take (i := 5) (d := some 62) (v := _) rfl rfl (by kernel_rfl) (by kernel_rfl) (by kernel_rfl) (fun _ _ _ h => h) rfl (by assumption) ?hy_6 ?re_6
    case hy_6 =>
      intro w hSw
      try dsimp only at hSw
      go_simp
      try with_reducible rfl
    simp only [Act.put, List.setIfInBounds_toArray, List.set_cons_zero, List.set_cons_succ]
    refine' held_take (i := 6) (d := some 63) (v := _) rfl rfl (by kernel_rfl) (by kernel_rfl) (by kernel_rfl) (fun _ _ _ h => h) rfl (by assumption) ?hy_7 ?re_7
    case hy_7 =>
      intro w hSw
      try dsimp only at hSw
      go_simp
      try with_reducible rfl
    simp only [Act.put, List.setIfInBounds_toArray, List.set_cons_zero, List.set_cons_succ]
    refine' held_take (i := 7) (d := some 64) (v := _) rfl rfl (by kernel_rfl) (by kernel_rfl) (by kernel_rfl) (fun _ _ _ h => h) rfl (by assumption) ?hy_8 ?re_8
    case hy_8 =>
      intro w hSw
      try dsimp only at hSw
      go_simp
      try with_reducible rfl
    simp only [Act.put, List.setIfInBounds_toArray, List.set_cons_zero, List.set_cons_succ]
    refine' held_take (i := 8) (d := some 65) (v := _) rfl rfl (by kernel_rfl) (by kernel_rfl) (by kernel_rfl) (fun _ _ _ h => h) rfl (by assumption) ?hy_9 ?re_9
    case hy_9 =>
      intro w hSw
      try dsimp only at hSw
      go_simp
      try with_reducible rfl
    simp only [Act.put, List.setIfInBounds_toArray, List.set_cons_zero, List.set_cons_succ]
    refine wpAnyH_ready (rs := [9, 13]) (by kernel_rfl) (by simp) ?_
    refine AllReadyH.cons rfl (fun K hK => ?_) (AllReadyH.cons rfl (fun K hK => ?_) AllReadyH.nil)
    · go_simp
      refine (hsi.out _ (below_trans hK2.out (hD0.out))).mono ?_
      rintro e w5 ⟨⟨v5, rfl, hv5⟩, hb5⟩
      have hB5 := Lib.hid (below_trans (hD0.out) hb5)
      have hv5 := Lib.hid hv5
      clear hb5
      go_wp2_with fail
      refine hK.out _ _ ?_ (fun hHeld => ?_)
      · exact hkS.out _ hB5.out
      clear hK K
      try simp only [Act.put, List.setIfInBounds_toArray, List.set_cons_zero, List.set_cons_succ]
      refine' held_take (i := 10) (d := some 56) (v := _) rfl rfl (by kernel_rfl) (by kernel_rfl) (by kernel_rfl) (fun _ _ _ h => h) rfl (by assumption) ?hy_10 ?re_10
      case hy_10 =>
        intro w hSw
        try dsimp only at hSw
        go_simp
        try with_reducible rfl
      simp only [Act.put, List.setIfInBounds_toArray, List.set_cons_zero, List.set_cons_succ]
      refine' held_take (i := 11) (d := some 67) (v := _) rfl rfl (by kernel_rfl) (by kernel_rfl) (by kernel_rfl) (fun _ _ _ h => h) rfl (by assumption) ?hy_11 ?re_11
      case hy_11 =>
        intro w hSw
        try dsimp only at hSw
        go_simp
        try with_reducible rfl
      simp only [Act.put, List.setIfInBounds_toArray, List.set_cons_zero, List.set_cons_succ]
      refine' held_take (i := 12) (d := some 68) (v := _) rfl rfl (by kernel_rfl) (by kernel_rfl) (by kernel_rfl) (fun _ _ _ h => h) rfl (by assumption) ?hy_12 ?re_12
      case hy_12 =>
        intro w hSw
        try dsimp only at hSw
        go_simp
        try with_reducible rfl
      simp only [Act.put, List.setIfInBounds_toArray, List.set_cons_zero, List.set_cons_succ]
      refine wpAnyH_ready (rs := [13]) (by kernel_rfl) (by simp) ?_
      refine AllReadyH.cons rfl (fun K hK => ?_) AllReadyH.nil
      go_simp
      have hB6 := Lib.hid (fun o => hB5.out.alloc hB5.out.size o)
      have hnew := heap_alloc_new w5 (.cells #[.int .i64 0, .int .i64 0] 33)
      obtain ⟨⟨r0, r1⟩, z0, z1⟩ := two_kept (Below.refl _ _) hnew
      clear hnew
      refine hK.out _ _ ?_ (fun hHeld => ?_)
      · exact hkS.out _ (hB6.out _)
      clear hK K
      try simp only [Act.put, List.setIfInBounds_toArray, List.set_cons_zero, List.set_cons_succ]
      refine' held_take (i := 14) (d := some 8) (v := _) rfl rfl (by kernel_rfl) (by kernel_rfl) (by kernel_rfl) (fun _ _ _ h => h) rfl (by assumption) ?hy_13 ?re_13
      case hy_13 =>
        intro w hSw
        try dsimp only at hSw
        go_simp
        try with_reducible rfl
      simp only [Act.put, List.setIfInBounds_toArray, List.set_cons_zero, List.set_cons_succ]
      refine wpAnyH_ready (rs := [15]) (by kernel_rfl) (by simp) ?_
      refine AllReadyH.cons rfl (fun K hK => ?_) AllReadyH.nil
      go_simp
      refine hK.out _ _ ?_ (fun hHeld => ?_)
      · exact hkS.out _ (hB6.out _)
      clear hK K
      try simp only [Act.put, List.setIfInBounds_toArray, List.set_cons_zero, List.set_cons_succ]
      refine wpAnyH_done (by kernel_rfl) ?_ _
      refine NoPanic.normal ?_
      go_wp2_with fail
      go_meet
      first
        | exact ⟨_, rfl, hv5, Lib.hid (hB6.out _), Lib.hid (two_kept (Below.refl _ _) (heap_alloc_new w5 _)).1.1⟩
        | exact ⟨_, rfl, hv5, Lib.hid (below_set2 hB5.out (Nat.le_refl _) _ _), Lib.hid (two_kept (Below.refl _ _) (row_set2 hnewH.out _ _)).1.1⟩
    · go_simp
      have hnewD : (W2.drew.alloc (.cells #[.int .i64 0, .int .i64 0] 33)).heap[W2.heap.size]? = some (.cells #[.int .i64 0, .int .i64 0] 33 (0, 0)) := heap_alloc_new W2.drew (.cells #[.int .i64 0, .int .i64 0] 33)
      have hB4 := Lib.hid (hD0.out.alloc hD0.out.size (.cells #[.int .i64 0, .int .i64 0] 33))
      have hnewDH := Lib.hid hnewD
      clear hnewD
      refine hK.out _ _ ?_ (fun hHeld => ?_)
      · exact hkS.out _ hB4.out
      clear hK K
      try simp only [Act.put, List.setIfInBounds_toArray, List.set_cons_zero, List.set_cons_succ]
      refine wpAnyH_ready (rs := [9]) (by kernel_rfl) (by simp) ?_
      refine AllReadyH.cons rfl (fun K hK => ?_) AllReadyH.nil
      go_simp
      refine (hsi.out _ (below_trans hK2.out (hB4.out))).mono ?_
      rintro e w5 ⟨⟨v5, rfl, hv5⟩, hb5⟩
      have hB5 := Lib.hid (below_trans (hB4.out) hb5)
      have hnew := heap_down hb5 hnewDH.out
      obtain ⟨⟨r0, r1⟩, z0, z1⟩ := two_kept (Below.refl _ _) hnew
      have hnewH := Lib.hid hnew
      clear hnew
      have hv5 := Lib.hid hv5
      clear hb5
      go_wp2_with fail
      refine hK.out _ _ ?_ (fun hHeld => ?_)
      · exact hkS.out _ hB5.out
      clear hK K
      try simp only [Act.put, List.setIfInBounds_toArray, List.set_cons_zero, List.set_cons_succ]
      refine' held_take (i := 10) (d := some 56) (v := _) rfl rfl (by kernel_rfl) (by kernel_rfl) (by kernel_rfl) (fun _ _ _ h => h) rfl (by assumption) ?hy_14 ?re_14
      case hy_14 =>
        intro w hSw
        try dsimp only at hSw
        go_simp
        try with_reducible rfl
      simp only [Act.put, List.setIfInBounds_toArray, List.set_cons_zero, List.set_cons_succ]
      refine' held_take (i := 11) (d := some 67) (v := _) rfl rfl (by kernel_rfl) (by kernel_rfl) (by kernel_rfl) (fun _ _ _ h => h) rfl (by assumption) ?hy_15 ?re_15
      case hy_15 =>
        intro w hSw
        try dsimp only at hSw
        go_simp
        try with_reducible rfl
      simp only [Act.put, List.setIfInBounds_toArray, List.set_cons_zero, List.set_cons_succ]
      refine' held_take (i := 12) (d := some 68) (v := _) rfl rfl (by kernel_rfl) (by kernel_rfl) (by kernel_rfl) (fun _ _ _ h => h) rfl (by assumption) ?hy_16 ?re_16
      case hy_16 =>
        intro w hSw
        try dsimp only at hSw
        go_simp
        try with_reducible rfl
      simp only [Act.put, List.setIfInBounds_toArray, List.set_cons_zero, List.set_cons_succ]
      refine' held_take (i := 14) (d := some 8) (v := _) rfl rfl (by kernel_rfl) (by kernel_rfl) (by kernel_rfl) (fun _ _ _ h => h) rfl (by assumption) ?hy_17 ?re_17
      case hy_17 =>
        intro w hSw
        try dsimp only at hSw
        go_simp
        try with_reducible rfl
      simp only [Act.put, List.setIfInBounds_toArray, List.set_cons_zero, List.set_cons_succ]
      refine wpAnyH_ready (rs := [15]) (by kernel_rfl) (by simp) ?_
      refine AllReadyH.cons rfl (fun K hK => ?_) AllReadyH.nil
      go_simp
      refine hK.out _ _ ?_ (fun hHeld => ?_)
      · exact hkS.out _ (below_set2 hB5.out (Nat.le_refl _) _ _)
      clear hK K
      try simp only [Act.put, List.setIfInBounds_toArray, List.set_cons_zero, List.set_cons_succ]
      refine wpAnyH_done (by kernel_rfl) ?_ _
      refine NoPanic.normal ?_
      go_wp2_with fail
      go_meet
      first
        | exact ⟨_, rfl, hv5, Lib.hid (hB6.out _), Lib.hid (two_kept (Below.refl _ _) (heap_alloc_new w5 _)).1.1⟩
        | exact ⟨_, rfl, hv5, Lib.hid (below_set2 hB5.out (Nat.le_refl _) _ _), Lib.hid (two_kept (Below.refl _ _) (row_set2 hnewH.out _ _)).1.1⟩
  obtain ⟨bx, rfl, hv8, hbc, hbx⟩ := hcut
  have hK3 := Lib.hid (below_trans hK2.out hbc.out)
  have x0 := hbx.out
  obtain ⟨u0, u1, u2, u3⟩ := hcU.out _ hK3.out
  clear hbc hkS hD0 hcD
  by_cases hsc : sc = 0
  case neg =>
    have hr := hw3H.out
    rw [if_pos hsc] at hr
    have hr := Lib.hid hr
    have hz1 : (0 : Int) < zi := by have := hzd.out; omega
    have hfin := Lib.hid (fun n => (show RTreeAt (wc.drewN n) base b ps T A ∧ Keeps (· ∈ ps) w (wc.drewN n) from ⟨hTH.out.below (below_drawn hK3.out n), hbB.out _ (below_drawn hK3.out n)⟩))
    clear hsc hw3H u0 u1 u2 u3
    go_wp2_with fail
    go_quiet (fail)
    go_wp2_with fail
    go_ret2
    exact ⟨PollRR.mk (by first | rfl | rw [hr.out]) hzd.out.symm, by first | exact (hfin.out _).1 | (rw [hr.out]; exact (hfin.out _).1), (hfin.out _).2⟩
  subst hsc
  obtain rfl : zi = 0 := hzd.out.symm
  have hw4 := hw3H.out
  rw [if_neg (by simp)] at hw4
  have hw4H := Lib.hid hw4
  have htk := takeR_fol base pf F U.head _ S wc (hFF.out _ hK3.out) (hv8.out _ hK3.out) hsn.out hOF.out.nm (by have := hOF.out.l60; have := hsl.out; omega) (by have := hOU.out.hd; omega) (Nat.le_trans hbs hK3.out.size)
  obtain ⟨tc, F', hte⟩ : ∃ tc F', takeF F U.head S = (tc, F') := ⟨_, _, rfl⟩
  have hbad := Lib.hid (fun (h : tc ≠ 0) => (show F' = F from by
    have h2 := takeF_bad (f := F) (s := U.head) (M := S) (by rw [hte]; exact h)
    rw [hte] at h2
    exact h2))
  rw [hte] at htk hw4H
  dsimp only at htk hw4H
  obtain ⟨a8, c8, hs8⟩ := AtG.sl (hv8.out _ hK3.out)
  subst hs8
  have htkH := Lib.hid htk
  generalize htz : (tc : Int) = ti at *
  have htz := Lib.hid htz
  clear htk hte hw4 hw3H
  go_wp2_with fail
  refine htkH.out.mono ?_
  rintro e w9 ⟨rfl, hF9, hk9⟩
  have hfin := hset.out wc w9 F' hK3.out hF9 hk9
  by_cases htc : tc = 0
  case neg =>
    have hr := hw4H.out
    rw [if_pos htc] at hr
    have hr := Lib.hid hr
    obtain rfl := hbad.out htc
    rw [hself.out] at hfin
    have hfinH := Lib.hid hfin
    have hz1 : (0 : Int) < ti := by have := htz.out; omega
    clear hF9 hk9 hfin hw4H hbad htc
    go_wp2_with fail
    go_ret2
    exact ⟨PollRR.mk (by first | rfl | rw [hr.out]) htz.out.symm, by first | exact hfinH.out.1 | (rw [hr.out]; exact hfinH.out.1), hfinH.out.2⟩
  subst htc
  obtain rfl : ti = 0 := htz.out.symm
  have hr := hw4H.out
  rw [if_neg (by simp)] at hr
  have hr := Lib.hid hr
  have hfinH := Lib.hid hfin
  have hSl := hsl.out
  clear hF9 hk9 hfin hw4H
  go_wp2_with fail
  go_ret2
  exact ⟨PollRR.mk (by first | rfl | rw [hr.out]) rfl, by first | exact hfinH.out.1 | (rw [hr.out]; exact hfinH.out.1), hfinH.out.2⟩
theorem allN_one (T : List Fol) (A : List Int) : allN T A 1 = (0, T) := by
  rw [allN, show allN T A 0 = (0, T) from rfl, poll_out (.inl (by decide))]
  rfl
set_option maxHeartbeats 4000000 in
set_option maxRecDepth 100000 in
theorem allR_any (base b : Nat) (ps : List Nat) (T : List Fol) (A : List Int) (w : World) (hT : RTreeAt w base b ps T A) (hO : TOk T) (hA : A.length = T.length) (hup : ∀ i, 1 ≤ i → i < T.length → 0 ≤ A.getD i 0 ∧ A.getD i 0 < (T.length : Int)) (hbs : base ≤ w.heap.size) (h1000 : T.length ≤ 1000) (hpos : 1 ≤ T.length) :
    Calls Tryz.prog 43 #[.pointer (some ⟨b, 0, none⟩)] w fun e w' => e = .returned (.int .i64 ((allT T A).1 : Nat)) ∧ RTreeAt w' base b ps (allT T A).2 A ∧ Keeps (· ∈ ps) w w' := by
  have hupN : ∀ i, 1 ≤ i → i < T.length → upT A i < T.length := fun i h1 h2 => by
    obtain ⟨h3, h4⟩ := hup i h1 h2
    unfold upT
    omega
  have hTH := Lib.hid hT
  have hpo := Lib.hid (fun j wx (hx : Keeps (· ∈ ps) w wx) (hTx : RTreeAt wx base b ps (allN T A j).2 A) => pollR_any base b ps (allN T A j).2 A (j : Int) wx hTx (allN_tok hO hupN j) (by rw [allN_len]; exact hA) (fun i h1 h2 => by rw [allN_len] at h2 ⊢; exact hup i h1 h2) (Nat.le_trans hbs hx.size))
  have hc0 := Lib.hid (fun j wx (hTx : RTreeAt wx base b ps (allN T A j).2 A) => (show ∃ au cu, wx.cell? ⟨b, 0, none⟩ = some (.slice au T.length cu) from by
    obtain ⟨au, cu, av, cv, c0, _⟩ := hTx.cells
    rw [hTx.len, allN_len] at c0
    exact ⟨au, cu, c0⟩))
  have l1 : T.length ≤ 1000000 := by omega
  have hle := Lib.hid (fun j => allN_le T A j)
  have hsu := Lib.hid (fun j => (show allN T A (j + 1) = (if (pollT (allN T A j).2 A j).1.2 = 0 then (allN T A j).1 + 1 else (allN T A j).1, (pollT (allN T A j).2 A j).2) from rfl))
  have hall := Lib.hid (show allT T A = allN T A T.length from rfl)
  have hone := Lib.hid (allN_one T A)
  clear hT hO hA hup hupN
  go_enter Tryz.func43, Tryz.ntmps43
  go_wp2_with fail
  go_loopg [3, 4] (T.length + 1) (fun g s3 s4 wr => ∃ j : Nat, s4 = .int .i64 j ∧ s3 = .int .i64 ((allN T A j).1 : Nat) ∧ j ≤ T.length ∧ T.length - j + 1 ≤ g ∧ Hid (RTreeAt wr base b ps (allN T A j).2 A ∧ Keeps (· ∈ ps) w wr))
  case atStart => exact ⟨1, rfl, by rw [hone.out]; rfl, hpos, by omega, Lib.hid ⟨by rw [hone.out]; exact hTH.out, Keeps.refl _ _⟩⟩
  case round =>
    obtain ⟨j, rfl, rfl, hj, hg, hM⟩ := hrel
    obtain ⟨au, cu, c0⟩ := hc0.out j wr hM.out.1
    by_cases hlt : j < T.length
    · have hx := hpo.out j wr hM.out.2 hM.out.1
      have hs := hsu.out j
      have hl := hle.out j
      generalize hPd : pollT (allN T A j).2 A (j : Int) = R at *
      obtain ⟨⟨rn, rc⟩, T'⟩ := R
      generalize (allN T A j).1 = m at *
      dsimp only at hx hs
      unfold PollRR at hx
      dsimp only at hx
      have hsH := Lib.hid hs
      have hxH := Lib.hid hx
      have hk1 : (j : Int) < (T.length : Int) := by omega
      have hml : (m : Int) ≤ 1000 := by omega
      clear hs hx hPd
      generalize hzd : (rc : Int) = zi at *
      have hzd := Lib.hid hzd
      by_cases hrc : rc = 0
      · obtain rfl : zi = 0 := by rw [← hzd.out, hrc]; rfl
        go_wp2_with fail
        refine hxH.out.mono ?_
        rintro e w1 ⟨rfl, hT1, hb1⟩
        have hfin := Lib.hid (show RTreeAt w1 base b ps (allN T A (j + 1)).2 A ∧ Keeps (· ∈ ps) w w1 from ⟨by rw [hsH.out]; exact hT1, hM.out.2.trans hb1⟩)
        have hc := Lib.hid (show (allN T A (j + 1)).1 = m + 1 by rw [hsH.out, if_pos hrc])
        clear hT1 hb1 hrc
        go_wp2_with fail
        go_roundg (T.length - j)
        case measure => omega
        case rel => exact ⟨j + 1, by simp, by rw [hc.out]; simp, hlt, by omega, hfin⟩
      · have hz1 : ¬ zi = 0 := by have := hzd.out; omega
        go_wp2_with fail
        refine hxH.out.mono ?_
        rintro e w1 ⟨rfl, hT1, hb1⟩
        have hfin := Lib.hid (show RTreeAt w1 base b ps (allN T A (j + 1)).2 A ∧ Keeps (· ∈ ps) w w1 from ⟨by rw [hsH.out]; exact hT1, hM.out.2.trans hb1⟩)
        have hc := Lib.hid (show (allN T A (j + 1)).1 = m by rw [hsH.out, if_neg hrc])
        clear hT1 hb1 hrc
        go_wp2_with fail
        go_roundg (T.length - j)
        case measure => omega
        case rel => exact ⟨j + 1, by simp, by rw [hc.out], hlt, by omega, hfin⟩
    · have hje := Lib.hid (show j = T.length by omega)
      have hge : ¬ ((j : Int) < (T.length : Int)) := by omega
      have hr := Lib.hid (show allT T A = allN T A j by rw [hall.out, hje.out])
      clear hlt hj hg
      go_wp2_with fail
      go_ret
      exact ⟨ret_int (by rw [hr.out]), by rw [hr.out]; exact hM.out.1, hM.out.2⟩
end Go.Proofs.YtfbndfkahodheaaGreatDoor
