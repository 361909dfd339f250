/- RrlB, RrlC -/
import Derived.Test.YtkhphdkjnpcnnaaGreatDoorMg30
import Derived.Test.YtkhphdkjnpcnnaaGreatDoorMg34
import Derived.Test.YtkhphdkjnpcnnaaGreatDoorMg16
import Derived.Deep.LoopGhost
/- The reference's entered, Revoke: walked. -/
namespace Go.Proofs.YtkhphdkjnpcnnaaGreatDoor set_option linter.unusedVariables false set_option linter.unusedSimpArgs false
open Go.RowKit

theorem twoC_cells {w : World} {n : Nat} {v0 v1 : Value} {T : TypeId} (h : w.heap[n]? = some (.cells #[v0, v1] T (0, 0))) :
    (w.cell? ⟨n, 0, none⟩ = some v0 ∧ w.cell? ⟨n, 1, none⟩ = some v1) ∧ w.frozen? ⟨n, 0, none⟩ = false ∧ w.frozen? ⟨n, 1, none⟩ = false := by
  refine ⟨⟨?_, ?_⟩, ?_, ?_⟩
  all_goals first | (rw [cell_of_row _ _ _ _ _ _ h]; rfl) | (simp [World.frozen?, h])
theorem fault_off {w : World} {base n : Nat} {vl : Value} {L : List Ent} {cs : Array Value} (h : RowG entC w base 115 vl L) (hn : w.heap[n]? = some (.cells cs 98 (0, 0))) : ∀ g, vl.ownBlock = some g → g ≠ n :=
  row_ne_of h hn (by decide)
theorem entsR_who {L : List Ent} (h : (checkE L).1 = 0) : ∀ e ∈ L, e.f.who.length ≤ maxLen := fun e he => by
  obtain ⟨i, hi, rfl⟩ := List.getElem_of_mem he
  have := (time_of h hi).2.2.2
  rw [getD_get hi] at this
  unfold maxLen
  rcases (oneF_zero this).1 with hw | hw
  · rw [hw]; decide
  · have := ((isName_iff _).1 hw).2.1
    omega
/-- What a change of the reference's realm hands back. -/
def RChgPost (base m : Nat) (w : World) (res : Int × Nat × Rlm) (e : Ending) (w' : World) : Prop :=
  e = .returned (.tuple #[.int .i64 res.1, .int .i64 (res.2.1 : Nat)]) ∧ (∃ b', RRlmAt w' base m b' res.2.2) ∧ Keeps (RRlmS base w) w w'
theorem RChgPost.mk {base m : Nat} {w w' : World} {res : Int × Nat × Rlm} {e : Ending} {z : Int} {c : Nat} {R' : Rlm} (h : res = (z, c, R')) (he : e = .returned (.tuple #[.int .i64 z, .int .i64 (c : Nat)])) (hR : (∃ b', RRlmAt w' base m b' R') ∧ Keeps (RRlmS base w) w w') : RChgPost base m w res e w' := by
  subst h
  exact ⟨he, hR⟩
theorem RRlmAt.lt {w : World} {base m b : Nat} {R : Rlm} (h : RRlmAt w base m b R) : m < w.heap.size := by
  obtain ⟨vl, h1, _⟩ := h.blk
  exact (Array.getElem?_eq_some_iff.1 h1).1
set_option maxHeartbeats 4000000 in
set_option maxRecDepth 100000 in
theorem entered_any {base m b b2 : Nat} {R : Rlm} {B : List Per} (who : List UInt8) (n : Int) (w : World) (hR : RRlmAt w base m b R) (hB : RefAt w base b2 B) (hc : (checkE R.l).1 = 0) (hwho : who.length ≤ maxLen) :
    Calls Tryz.prog 87 #[.pointer (some ⟨m, 0, none⟩), .pointer (some ⟨b2, 0, none⟩), .string (bs who), .int .i64 n] w fun e w' => RChgPost base m w (changeM R who n B) e w' ∧ Keeps (· = m) w w' := by
  obtain ⟨al, cl, ⟨_, _, c2, _, c4, c5⟩, _, hrow⟩ := hR.cells
  generalize hres : changeM R who n B = res
  have hres := Lib.hid hres
  have hq := Lib.hid (show changeM R who n B = if (addE R.l R.time ⟨who, n⟩).2.1 ≠ 0 then (0, (addE R.l R.time ⟨who, n⟩).2.1, R) else (n, 0, { R with b := B, l := (addE R.l R.time ⟨who, n⟩).1 }) from rfl)
  have hRw := Lib.hid (fun wx (hx : Below w.heap.size w wx) => hR.below hx)
  have hBw := Lib.hid (fun wx (hx : Below w.heap.size w wx) => hB.below hx)
  have had := Lib.hid (fun wx (hx : Below w.heap.size w wx) => addR_row (.slice al R.l.length cl) R.l R.time ⟨who, n⟩ wx (RowG.at_ (hrow.below hx)) (entsR_who hc) hwho)
  have hge := hR.ge
  have hlt := hR.lt
  obtain ⟨rk, rl, rt, rs, rb, rL⟩ := R
  dsimp only at *
  have hlen := hrow.at_.len
  clear hR hB hc hrow
  generalize addE rL rt ⟨who, n⟩ = ad at *
  obtain ⟨al5, ac, aa5⟩ := ad
  dsimp only [Flo.val] at *
  generalize hac : ((ac : Nat) : Int) = ac5 at *
  have hac := Lib.hid hac
  have hS5 := Lib.hid (fun wx (hx : Below w.heap.size w wx) => (show wx.cell? ⟨m, 5, none⟩ = some (.slice al rL.length cl) ∧ wx.cell? ⟨m, 2, none⟩ = some (.int .i64 rt) from ⟨cell_below hx c5, cell_below hx c2⟩))
  have hD0 := Lib.hid (show Below w.heap.size w w.drew from (Below.refl _ _).drew)
  clear c2 c4 c5
  go_enter Tryz.func87, Tryz.ntmps87
  go_upto_region 1 with fail
  go_cut [10, 11] from 10 to 26 (fun s10 s11 wx => ∃ v5 xt, s10 = v5 ∧ s11 = .pointer (some ⟨xt, 0, none⟩) ∧ Hid (Below w.heap.size w wx ∧ RowG entC wx w.heap.size 115 v5 al5 ∧ wx.heap[xt]? = some (.cells #[.int .i64 ac5, .int .i64 aa5] 98 (0, 0))))
  case first =>
    refine wp_region_noPanic ?_
    refine wp_region_held_drew (S := fun wx => wx.cell? ⟨m, 5, none⟩ = some (.slice al rL.length cl) ∧ wx.cell? ⟨m, 2, none⟩ = some (.int .i64 rt)) (by kernel_rfl) ?_ (fun hHeld => ?_)
    · exact hS5.out _ hD0.out
    refine' held_take (i := 0) (d := some 13) (v := _) rfl rfl (by kernel_rfl) (by kernel_rfl) (by kernel_rfl) (fun _ _ _ h => h) rfl (by assumption) ?hy_1 ?re_1
    case hy_1 =>
      intro w hSw
      try dsimp only at hSw
      go_simp
      try with_reducible rfl
    simp only [Act.put, List.setIfInBounds_toArray, List.set_cons_zero, List.set_cons_succ]
    refine' held_take (i := 1) (d := some 14) (v := _) rfl rfl (by kernel_rfl) (by kernel_rfl) (by kernel_rfl) (fun _ _ _ h => h) rfl (by assumption) ?hy_2 ?re_2
    case hy_2 =>
      intro w hSw
      try dsimp only at hSw
      go_simp
      try with_reducible rfl
    simp only [Act.put, List.setIfInBounds_toArray, List.set_cons_zero, List.set_cons_succ]
    refine' held_take (i := 2) (d := some 15) (v := _) rfl rfl (by kernel_rfl) (by kernel_rfl) (by kernel_rfl) (fun _ _ _ h => h) rfl (by assumption) ?hy_3 ?re_3
    case hy_3 =>
      intro w hSw
      try dsimp only at hSw
      go_simp
      try with_reducible rfl
    simp only [Act.put, List.setIfInBounds_toArray, List.set_cons_zero, List.set_cons_succ]
    refine' held_take (i := 3) (d := some 16) (v := _) rfl rfl (by kernel_rfl) (by kernel_rfl) (by kernel_rfl) (fun _ _ _ h => h) rfl (by assumption) ?hy_4 ?re_4
    case hy_4 =>
      intro w hSw
      try dsimp only at hSw
      go_simp
      try with_reducible rfl
    simp only [Act.put, List.setIfInBounds_toArray, List.set_cons_zero, List.set_cons_succ]
    refine' held_take (i := 4) (d := some 17) (v := _) rfl rfl (by kernel_rfl) (by kernel_rfl) (by kernel_rfl) (fun _ _ _ h => h) rfl (by assumption) ?hy_5 ?re_5
    case hy_5 =>
      intro w hSw
      try dsimp only at hSw
      go_simp
      try with_reducible rfl
    simp only [Act.put, List.setIfInBounds_toArray, List.set_cons_zero, List.set_cons_succ]
    refine' held_take (i := 5) (d := some 18) (v := _) rfl rfl (by kernel_rfl) (by kernel_rfl) (by kernel_rfl) (fun _ _ _ h => h) rfl (by assumption) ?hy_6 ?re_6
    case hy_6 =>
      intro w hSw
      try dsimp only at hSw
      go_simp
      try with_reducible rfl
    simp only [Act.put, List.setIfInBounds_toArray, List.set_cons_zero, List.set_cons_succ]
    refine' held_take (i := 6) (d := some 19) (v := _) rfl rfl (by kernel_rfl) (by kernel_rfl) (by kernel_rfl) (fun _ _ _ h => h) rfl (by assumption) ?hy_7 ?re_7
    case hy_7 =>
      intro w hSw
      try dsimp only at hSw
      go_simp
      try with_reducible rfl
    simp only [Act.put, List.setIfInBounds_toArray, List.set_cons_zero, List.set_cons_succ]
    refine' held_take (i := 7) (d := some 20) (v := _) rfl rfl (by kernel_rfl) (by kernel_rfl) (by kernel_rfl) (fun _ _ _ h => h) rfl (by assumption) ?hy_8 ?re_8
    case hy_8 =>
      intro w hSw
      try dsimp only at hSw
      go_simp
      try with_reducible rfl
    simp only [Act.put, List.setIfInBounds_toArray, List.set_cons_zero, List.set_cons_succ]
    refine' held_take (i := 8) (d := some 21) (v := _) rfl rfl (by kernel_rfl) (by kernel_rfl) (by kernel_rfl) (fun _ _ _ h => h) rfl (by assumption) ?hy_9 ?re_9
    case hy_9 =>
      intro w hSw
      try dsimp only at hSw
      go_simp
      try with_reducible rfl
    simp only [Act.put, List.setIfInBounds_toArray, List.set_cons_zero, List.set_cons_succ]
    refine' held_take (i := 9) (d := some 22) (v := _) rfl rfl (by kernel_rfl) (by kernel_rfl) (by kernel_rfl) (fun _ _ _ h => h) rfl (by assumption) ?hy_10 ?re_10
    case hy_10 =>
      intro w hSw
      try dsimp only at hSw
      go_simp
      try with_reducible rfl
    simp only [Act.put, List.setIfInBounds_toArray, List.set_cons_zero, List.set_cons_succ]
    refine' held_take (i := 10) (d := some 23) (v := _) rfl rfl (by kernel_rfl) (by kernel_rfl) (by kernel_rfl) (fun _ _ _ h => h) rfl (by assumption) ?hy_11 ?re_11
    case hy_11 =>
      intro w hSw
      try dsimp only at hSw
      go_simp
      try with_reducible rfl
    simp only [Act.put, List.setIfInBounds_toArray, List.set_cons_zero, List.set_cons_succ]
    refine wpAnyH_ready (rs := [11, 15]) (by kernel_rfl) (by simp) ?_
    refine AllReadyH.cons rfl (fun K hK => ?_) (AllReadyH.cons rfl (fun K hK => ?_) AllReadyH.nil)
    · go_simp
      refine (had.out _ hD0.out).mono ?_
      rintro e wd ⟨⟨v5, rfl, hv5⟩, hb⟩
      have hDc := Lib.hid (below_trans hD0.out hb)
      have hv5 := Lib.hid (RowG.mono hv5 (show w.heap.size ≤ _ from hD0.out.size))
      obtain ⟨a5, c5, hvx⟩ := hv5.out.sl
      subst hvx
      clear hb
      simp only [faultF]
      go_wp2_with fail
      refine hK.out _ _ ?_ (fun hHeld => ?_)
      · exact hS5.out _ hDc.out
      clear hK K
      try simp only [Act.put, List.setIfInBounds_toArray, List.set_cons_zero, List.set_cons_succ]
      refine' held_take (i := 12) (d := some 12) (v := _) rfl rfl (by kernel_rfl) (by kernel_rfl) (by kernel_rfl) (fun _ _ _ h => h) rfl (by assumption) ?hy_12 ?re_12
      case hy_12 =>
        intro w hSw
        try dsimp only at hSw
        go_simp
        try with_reducible rfl
      simp only [Act.put, List.setIfInBounds_toArray, List.set_cons_zero, List.set_cons_succ]
      refine' held_take (i := 13) (d := some 25) (v := _) rfl rfl (by kernel_rfl) (by kernel_rfl) (by kernel_rfl) (fun _ _ _ h => h) rfl (by assumption) ?hy_13 ?re_13
      case hy_13 =>
        intro w hSw
        try dsimp only at hSw
        go_simp
        try with_reducible rfl
      simp only [Act.put, List.setIfInBounds_toArray, List.set_cons_zero, List.set_cons_succ]
      refine' held_take (i := 14) (d := some 26) (v := _) rfl rfl (by kernel_rfl) (by kernel_rfl) (by kernel_rfl) (fun _ _ _ h => h) rfl (by assumption) ?hy_14 ?re_14
      case hy_14 =>
        intro w hSw
        try dsimp only at hSw
        go_simp
        try with_reducible rfl
      simp only [Act.put, List.setIfInBounds_toArray, List.set_cons_zero, List.set_cons_succ]
      refine wpAnyH_ready (rs := [15]) (by kernel_rfl) (by simp) ?_
      refine AllReadyH.cons rfl (fun K hK => ?_) AllReadyH.nil
      go_simp
      refine hK.out _ _ ?_ (fun hHeld => ?_)
      · exact hS5.out _ (hDc.out.alloc hDc.out.size (.cells #[.int .i64 0, .int .i64 0] 98))
      clear hK K
      try simp only [Act.put, List.setIfInBounds_toArray, List.set_cons_zero, List.set_cons_succ]
      refine' held_take (i := 16) (d := some 10) (v := _) rfl rfl (by kernel_rfl) (by kernel_rfl) (by kernel_rfl) (fun _ _ _ h => h) rfl (by assumption) ?hy_15 ?re_15
      case hy_15 =>
        intro w hSw
        try dsimp only at hSw
        go_simp
        try with_reducible rfl
      simp only [Act.put, List.setIfInBounds_toArray, List.set_cons_zero, List.set_cons_succ]
      refine wpAnyH_ready (rs := [17]) (by kernel_rfl) (by simp) ?_
      refine AllReadyH.cons rfl (fun K hK => ?_) AllReadyH.nil
      go_simp
      have hfz := Lib.hid (show Below w.heap.size w (wd.alloc (.cells #[.int .i64 ac5, .int .i64 aa5] 98)) ∧ RowG entC (wd.alloc (.cells #[.int .i64 ac5, .int .i64 aa5] 98)) w.heap.size 115 (.slice a5 al5.length c5) al5 ∧ (wd.alloc (.cells #[.int .i64 ac5, .int .i64 aa5] 98)).heap[wd.heap.size]? = some (.cells #[.int .i64 ac5, .int .i64 aa5] 98 (0, 0)) from ⟨hDc.out.alloc hDc.out.size _, hv5.out.alloc _, heap_alloc_new wd _⟩)
      refine hK.out _ _ ?_ (fun hHeld => ?_)
      · exact hS5.out _ hfz.out.1
      clear hK K
      try simp only [Act.put, List.setIfInBounds_toArray, List.set_cons_zero, List.set_cons_succ]
      refine wpAnyH_done (by kernel_rfl) ?_ _
      refine NoPanic.normal ?_
      go_wp2_with fail
      go_meet
      exact ⟨_, _, rfl, rfl, hfz⟩
    · go_simp
      have hDa := Lib.hid (((Below.refl w.heap.size w).alloc (Nat.le_refl _) (.cells #[.int .i64 0, .int .i64 0] 98)).drew)
      have hba := heap_down ((Below.refl _ _).drew) (heap_alloc_new w (.cells #[.int .i64 0, .int .i64 0] 98))
      refine hK.out _ _ ?_ (fun hHeld => ?_)
      · exact hS5.out _ hDa.out
      clear hK K
      try simp only [Act.put, List.setIfInBounds_toArray, List.set_cons_zero, List.set_cons_succ]
      refine wpAnyH_ready (rs := [11]) (by kernel_rfl) (by simp) ?_
      refine AllReadyH.cons rfl (fun K hK => ?_) AllReadyH.nil
      go_simp
      refine (had.out _ hDa.out).mono ?_
      rintro e wd ⟨⟨v5, rfl, hv5⟩, hb⟩
      have hDc := Lib.hid (below_trans hDa.out hb)
      have hv5 := Lib.hid (RowG.mono hv5 (show w.heap.size ≤ _ from hDa.out.size))
      obtain ⟨a5, c5, hvx⟩ := hv5.out.sl
      subst hvx
      have hrow := heap_down hb hba
      obtain ⟨_, f0, f1⟩ := twoC_cells hrow
      have hrow := Lib.hid hrow
      clear hb
      simp only [faultF]
      go_wp2_with fail
      refine hK.out _ _ ?_ (fun hHeld => ?_)
      · exact hS5.out _ hDc.out
      clear hK K
      try simp only [Act.put, List.setIfInBounds_toArray, List.set_cons_zero, List.set_cons_succ]
      refine' held_take (i := 12) (d := some 12) (v := _) rfl rfl (by kernel_rfl) (by kernel_rfl) (by kernel_rfl) (fun _ _ _ h => h) rfl (by assumption) ?hy_16 ?re_16
      case hy_16 =>
        intro w hSw
        try dsimp only at hSw
        go_simp
        try with_reducible rfl
      simp only [Act.put, List.setIfInBounds_toArray, List.set_cons_zero, List.set_cons_succ]
      refine' held_take (i := 13) (d := some 25) (v := _) rfl rfl (by kernel_rfl) (by kernel_rfl) (by kernel_rfl) (fun _ _ _ h => h) rfl (by assumption) ?hy_17 ?re_17
      case hy_17 =>
        intro w hSw
        try dsimp only at hSw
        go_simp
        try with_reducible rfl
      simp only [Act.put, List.setIfInBounds_toArray, List.set_cons_zero, List.set_cons_succ]
      refine' held_take (i := 14) (d := some 26) (v := _) rfl rfl (by kernel_rfl) (by kernel_rfl) (by kernel_rfl) (fun _ _ _ h => h) rfl (by assumption) ?hy_18 ?re_18
      case hy_18 =>
        intro w hSw
        try dsimp only at hSw
        go_simp
        try with_reducible rfl
      simp only [Act.put, List.setIfInBounds_toArray, List.set_cons_zero, List.set_cons_succ]
      refine' held_take (i := 16) (d := some 10) (v := _) rfl rfl (by kernel_rfl) (by kernel_rfl) (by kernel_rfl) (fun _ _ _ h => h) rfl (by assumption) ?hy_19 ?re_19
      case hy_19 =>
        intro w hSw
        try dsimp only at hSw
        go_simp
        try with_reducible rfl
      simp only [Act.put, List.setIfInBounds_toArray, List.set_cons_zero, List.set_cons_succ]
      refine wpAnyH_ready (rs := [17]) (by kernel_rfl) (by simp) ?_
      refine AllReadyH.cons rfl (fun K hK => ?_) AllReadyH.nil
      go_simp
      have hfz := Lib.hid (show Below w.heap.size w ((wd.setCell ⟨w.heap.size, 0, none⟩ (.int .i64 ac5)).setCell ⟨w.heap.size, 1, none⟩ (.int .i64 aa5)) ∧ RowG entC ((wd.setCell ⟨w.heap.size, 0, none⟩ (.int .i64 ac5)).setCell ⟨w.heap.size, 1, none⟩ (.int .i64 aa5)) w.heap.size 115 (.slice a5 al5.length c5) al5 ∧ ((wd.setCell ⟨w.heap.size, 0, none⟩ (.int .i64 ac5)).setCell ⟨w.heap.size, 1, none⟩ (.int .i64 aa5)).heap[w.heap.size]? = some (.cells #[.int .i64 ac5, .int .i64 aa5] 98 (0, 0)) from ⟨(hDc.out.setCell (Nat.le_refl w.heap.size) _).setCell (Nat.le_refl w.heap.size) _, (hv5.out.other ⟨w.heap.size, 0, none⟩ (.int .i64 ac5) (fault_off hv5.out hrow.out)).other ⟨w.heap.size, 1, none⟩ (.int .i64 aa5) (fault_off hv5.out hrow.out), row_set2 hrow.out (.int .i64 ac5) (.int .i64 aa5)⟩)
      refine hK.out _ _ ?_ (fun hHeld => ?_)
      · exact hS5.out _ hfz.out.1
      clear hK K
      try simp only [Act.put, List.setIfInBounds_toArray, List.set_cons_zero, List.set_cons_succ]
      refine wpAnyH_done (by kernel_rfl) ?_ _
      refine NoPanic.normal ?_
      go_wp2_with fail
      go_meet
      exact ⟨_, _, rfl, rfl, hfz⟩
  obtain ⟨v5, xt, rfl, rfl, hX⟩ := hcut
  obtain ⟨hX1, hX2, hX3⟩ := hX.out
  have hK := Lib.hid hX1
  obtain ⟨⟨x0, x1⟩, _⟩ := twoC_cells hX3
  obtain ⟨av, cv, hvx⟩ := hX2.sl
  subst hvx
  have hrw := Lib.hid hX2
  clear hX hX1 hX2 hX3 hD0 hS5 had
  generalize wc = w3 at *
  by_cases ha0 : ac = 0
  case neg =>
    have hz : (0 : Int) < ac5 := by have := hac.out; omega
    have hfin := Lib.hid (fun k => (show (∃ b', RRlmAt (w3.drewN k) base m b' ⟨rk, rl, rt, rs, rb, rL⟩) ∧ Keeps (RRlmS base w) w (w3.drewN k) from ⟨⟨_, hRw.out _ (below_drawn hK.out k)⟩, Keeps.of_below (below_drawn hK.out k)⟩))
    go_wp2_with fail
    go_quiet (fail)
    go_wp2_with fail
    go_ret2
    exact ⟨.mk (by rw [← hres.out, hq.out, if_pos ha0]) (by rw [hac.out]; rfl) (hfin.out _), Keeps.of_below (below_drawn hK.out _)⟩
  subst ha0
  have hz : ¬ (0 : Int) < ac5 := by have := hac.out; omega
  have hbs : base ≤ w.heap.size := by omega
  have hturn := Lib.hid ((hRw.out _ hK.out).turned (hBw.out _ hK.out) (RowG.mono hrw.out hbs))
  obtain ⟨al2, cl2, _, ⟨_, _, _, _, f4, f5⟩, _⟩ := (hRw.out _ hK.out).cells
  have hfin := Lib.hid (keepsM_below hK.out hturn.out.2)
  have hkm := Lib.hid (show Keeps (· = m) w ((w3.setCell ⟨m, 4, none⟩ (.pointer (some ⟨b2, 0, none⟩))).setCell ⟨m, 5, none⟩ (.slice av al5.length cv)) from (Keeps.of_below hK.out).trans (Keeps.trans (keeps_setCell w3 ⟨m, 4, none⟩ _ rfl) (keeps_setCell _ ⟨m, 5, none⟩ _ rfl)))
  go_wp2_with fail
  go_ret2
  exact ⟨.mk (by rw [← hres.out, hq.out, if_neg (by simp)]) rfl ⟨⟨_, hturn.out.1⟩, hfin.out⟩, hkm.out⟩
/-- A book of its own, far up: what is done to it keeps all that is older. -/
theorem refS_below {base : Nat} {u w : World} (h : Keeps (RefS base u) u w) (hb : base ≤ u.heap.size) : Below base u w := h.below hb fun k hk => hk.1
set_option maxRecDepth 100000 in
theorem revokeRR_any {base m b : Nat} {R : Rlm} (n : List UInt8) (w : World) (hR : RRlmAt w base m b R) (hG : GoodM R) (hn : n.length ≤ maxLen) :
    Calls Tryz.prog 41 #[.pointer (some ⟨m, 0, none⟩), .string (bs n)] w (RChgPost base m w (revokeM R n)) := by
  obtain ⟨al, cl, ⟨_, _, _, _, c4, _⟩, _, _⟩ := hR.cells
  generalize hres : revokeM R n = res
  have hres := Lib.hid hres
  have hcp := Lib.hid (copyRB_any R.b w hR.book hG.b.many)
  have hge := hR.ge
  have hlt := hR.lt
  have hRw := Lib.hid (fun wx (hx : Below w.heap.size w wx) => hR.below hx)
  have hS := Lib.hid hG.b.sorted
  have hMn := Lib.hid hG.b.many
  have hEp := Lib.hid hG.b.epoch
  have hfc := Lib.hid (show (checkE R.l).1 = 0 by rw [hG.f])
  clear hR hG
  go_enter Tryz.func41, Tryz.ntmps41
  go_wp2_with fail
  refine hcp.out.mono ?_
  rintro e w1 ⟨b2, rfl, hB1, hb1⟩
  have hra := Lib.hid (raiseR_any w.heap.size b2 R.b n w1 hB1 hS.out hMn.out hEp.out)
  have hb1 := Lib.hid hb1
  clear hB1 hcp c4
  go_wp2_with fail
  refine hra.out.mono ?_
  rintro e w2 ⟨rfl, hk, hB2⟩
  have hK2 := Lib.hid (hb1.out.trans (refS_below hk hb1.out.size))
  have hB2 := Lib.hid hB2
  have hq := Lib.hid (show revokeM R n = if (raiseOf R.b n).2.1 ≠ 0 then (0, (raiseOf R.b n).2.1, R) else changeM R n (raiseOf R.b n).1 (raiseOf R.b n).2.2 from rfl)
  generalize raiseOf R.b n = ro at *
  obtain ⟨rn, rc, rB⟩ := ro
  dsimp only at *
  clear hk hra
  by_cases hc0 : rc = 0
  case neg =>
    have hz : (0 : Int) < (rc : Int) := by omega
    have hfin := Lib.hid (show (∃ b', RRlmAt w2 base m b' R) ∧ Keeps (RRlmS base w) w w2 from ⟨⟨_, hRw.out _ hK2.out⟩, Keeps.of_below hK2.out⟩)
    have hr := Lib.hid (show res = (0, rc, R) by rw [← hres.out, hq.out, if_pos hc0])
    generalize hzd : (rc : Int) = zi at *
    have hzd := Lib.hid hzd
    go_wp2_with fail
    go_ret2
    exact .mk hr.out (by rw [hzd.out]; rfl) hfin.out
  subst hc0
  have hr : changeM R n rn rB = res := by rw [← hres.out, hq.out, if_neg (by simp)]
  have hen := Lib.hid (entered_any (base := base) n rn w2 (hRw.out _ hK2.out) (hB2.out.mono (show base ≤ w.heap.size by omega)) hfc.out hn)
  rw [hr] at hen
  clear hr
  go_wp2_with fail
  refine hen.out.mono ?_
  rintro e w3 ⟨⟨rfl, h1, h2⟩, _⟩
  have hfin := Lib.hid (show (∃ b', RRlmAt w3 base m b' res.2.2) ∧ Keeps (RRlmS base w) w w3 from ⟨h1, keepsM_below hK2.out h2⟩)
  clear h1 h2
  go_wp2_with fail
  go_ret2
  exact ⟨rfl, hfin.out⟩
end Go.Proofs.YtkhphdkjnpcnnaaGreatDoor

/- The reference's Rekey, Flush: walked. -/
namespace Go.Proofs.YtkhphdkjnpcnnaaGreatDoor set_option linter.unusedVariables false set_option linter.unusedSimpArgs false
open Go.RowKit

set_option maxHeartbeats 4000000 in
set_option maxRecDepth 100000 in
theorem rekeyRR_any {base m b : Nat} {R : Rlm} (n : List UInt8) (x : Int) (w : World) (hR : RRlmAt w base m b R) (hG : GoodM R) (hn : n.length ≤ maxLen) :
    Calls Tryz.prog 43 #[.pointer (some ⟨m, 0, none⟩), .string (bs n), .int .i64 x] w (RChgPost base m w (rekeyM R n x)) := by
  obtain ⟨al, cl, ⟨_, _, _, _, c4, _⟩, _, _⟩ := hR.cells
  generalize hres : rekeyM R n x = res
  have hres := Lib.hid hres
  have hcp := Lib.hid (copyRB_any R.b w hR.book hG.b.many)
  have hge := hR.ge
  have hlt := hR.lt
  have hRw := Lib.hid (fun wx (hx : Below w.heap.size w wx) => hR.below hx)
  have hS := Lib.hid hG.b.sorted
  have hMn := Lib.hid hG.b.many
  have hEp := Lib.hid hG.b.epoch
  have hfc := Lib.hid (show (checkE R.l).1 = 0 by rw [hG.f])
  have hlenB := (rekey_good hG.b n x).1.many
  have hrk := Lib.hid (show (rekeyOf R.b n x).1 = 0 → ∃ q, findP (rekeyOf R.b n x).2 n = some q from fun h => by
    obtain ⟨p, hf, _, _, he⟩ := rekeyOf_some h
    obtain ⟨hp, rfl⟩ := findP_some hf
    rw [he]
    exact ⟨_, findP_set (q := { p with key := x, epoch := p.epoch + 1 }) hG.b.sorted hp rfl⟩)
  clear hR hG
  go_enter Tryz.func43, Tryz.ntmps43
  go_wp2_with fail
  refine hcp.out.mono ?_
  rintro e w1 ⟨b2, rfl, hB1, hb1⟩
  have hra := Lib.hid (rekeyR_any w.heap.size b2 R.b n x w1 hB1 hS.out hMn.out hEp.out)
  have hb1 := Lib.hid hb1
  clear hB1 hcp c4
  go_wp2_with fail
  refine hra.out.mono ?_
  rintro e w2 ⟨rfl, hk, hB2⟩
  have hK2 := Lib.hid (hb1.out.trans (refS_below hk hb1.out.size))
  have hB2 := Lib.hid hB2
  have hq := Lib.hid (show rekeyM R n x = if (rekeyOf R.b n x).1 ≠ 0 then (0, (rekeyOf R.b n x).1, R) else changeM R n (epochOf (rekeyOf R.b n x).2 n) (rekeyOf R.b n x).2 from rfl)
  generalize rekeyOf R.b n x = ro at *
  obtain ⟨rc, rB⟩ := ro
  dsimp only at *
  clear hk hra
  by_cases hc0 : rc = 0
  case neg =>
    have hz : (0 : Int) < (rc : Int) := by omega
    have hfin := Lib.hid (show (∃ b', RRlmAt w2 base m b' R) ∧ Keeps (RRlmS base w) w w2 from ⟨⟨_, hRw.out _ hK2.out⟩, Keeps.of_below hK2.out⟩)
    have hr := Lib.hid (show res = (0, rc, R) by rw [← hres.out, hq.out, if_pos hc0])
    generalize hzd : (rc : Int) = zi at *
    have hzd := Lib.hid hzd
    go_wp2_with fail
    go_ret2
    exact .mk hr.out (by rw [hzd.out]; rfl) hfin.out
  subst hc0
  obtain ⟨q, hfq⟩ := hrk.out rfl
  cases hi : idxP rB n with
  | none => rw [(idxP_none hi).1] at hfq; cases hfq
  | some k =>
    obtain ⟨hk, hfp, hnm⟩ := idxP_some hi
    have hep : epochOf rB n = rB[k].epoch := by unfold epochOf; rw [hfp]
    obtain ⟨g, c, hc, hgb, ⟨_, _, d2, _⟩, _, hSg, _, _⟩ := hB2.out.cells hk
    have hr : changeM R n rB[k].epoch rB = res := by rw [← hres.out, hq.out, if_neg (by simp), hep]
    have hen := Lib.hid (fun wx (hx : Below w2.heap.size w2 wx) => entered_any (base := base) n rB[k].epoch wx (hRw.out _ (below_trans hK2.out hx)) ((hB2.out.below hx).mono (show base ≤ w.heap.size by omega)) hfc.out hn)
    rw [hr] at hen
    have hfi := Lib.hid (fun wx (hx : Below w2.heap.size w2 wx) => findR_any w.heap.size b2 rB n wx (hB2.out.below hx) (by omega))
    rw [findIx_some hi] at hfi
    have hgm : w.heap.size ≤ g := hSg.1
    have hbm : w.heap.size ≤ b2 := hB2.out.ge
    have hS5 := Lib.hid (fun wx (hx : Keeps (· = m) w2 wx) => (show wx.cell? ⟨b2, 0, none⟩ = some (.slice (some ⟨g, 0, none⟩) rB.length c) ∧ wx.cell? ⟨g, k * 4 + 2, none⟩ = some (.int .i64 rB[k].epoch) from ⟨hx.cell hc (show ¬ b2 = m by omega), hx.cell d2 (show ¬ g = m by omega)⟩))
    have hD0 := Lib.hid (show Below w2.heap.size w2 w2.drew from (Below.refl _ _).drew)
    clear hr hi hfp hnm hfq hep hc d2 hgb hSg
    have hlenB' : rB.length ≤ 20 := hlenB
    go_upto_region 5 with fail
    refine wp_region_noPanic ?_
    refine wp_region_held_drew (S := fun wx => wx.cell? ⟨b2, 0, none⟩ = some (.slice (some ⟨g, 0, none⟩) rB.length c) ∧ wx.cell? ⟨g, k * 4 + 2, none⟩ = some (.int .i64 rB[k].epoch)) (by kernel_rfl) ?_ (fun hHeld => ?_)
    · exact hS5.out _ (Keeps.of_below hD0.out)
    refine' held_take (i := 0) (d := some 22) (v := _) rfl rfl (by kernel_rfl) (by kernel_rfl) (by kernel_rfl) (fun _ _ _ h => h) rfl (by assumption) ?hy_1 ?re_1
    case hy_1 =>
      intro w hSw
      try dsimp only at hSw
      go_simp
      try with_reducible rfl
    simp only [Act.put, List.setIfInBounds_toArray, List.set_cons_zero, List.set_cons_succ]
    refine' held_take (i := 1) (d := some 23) (v := _) rfl rfl (by kernel_rfl) (by kernel_rfl) (by kernel_rfl) (fun _ _ _ h => h) rfl (by assumption) ?hy_2 ?re_2
    case hy_2 =>
      intro w hSw
      try dsimp only at hSw
      go_simp
      try with_reducible rfl
    simp only [Act.put, List.setIfInBounds_toArray, List.set_cons_zero, List.set_cons_succ]
    refine' held_take (i := 2) (d := some 24) (v := _) rfl rfl (by kernel_rfl) (by kernel_rfl) (by kernel_rfl) (fun _ _ _ h => h) rfl (by assumption) ?hy_3 ?re_3
    case hy_3 =>
      intro w hSw
      try dsimp only at hSw
      go_simp
      try with_reducible rfl
    simp only [Act.put, List.setIfInBounds_toArray, List.set_cons_zero, List.set_cons_succ]
    refine' held_take (i := 3) (d := some 25) (v := _) rfl rfl (by kernel_rfl) (by kernel_rfl) (by kernel_rfl) (fun _ _ _ h => h) rfl (by assumption) ?hy_4 ?re_4
    case hy_4 =>
      intro w hSw
      try dsimp only at hSw
      go_simp
      try with_reducible rfl
    simp only [Act.put, List.setIfInBounds_toArray, List.set_cons_zero, List.set_cons_succ]
    refine' held_take (i := 4) (d := some 26) (v := _) rfl rfl (by kernel_rfl) (by kernel_rfl) (by kernel_rfl) (fun _ _ _ h => h) rfl (by assumption) ?hy_5 ?re_5
    case hy_5 =>
      intro w hSw
      try dsimp only at hSw
      go_simp
      try with_reducible rfl
    simp only [Act.put, List.setIfInBounds_toArray, List.set_cons_zero, List.set_cons_succ]
    refine' held_take (i := 5) (d := some 27) (v := _) rfl rfl (by kernel_rfl) (by kernel_rfl) (by kernel_rfl) (fun _ _ _ h => h) rfl (by assumption) ?hy_6 ?re_6
    case hy_6 =>
      intro w hSw
      try dsimp only at hSw
      go_simp
      try with_reducible rfl
    simp only [Act.put, List.setIfInBounds_toArray, List.set_cons_zero, List.set_cons_succ]
    refine' held_take (i := 6) (d := some 28) (v := _) rfl rfl (by kernel_rfl) (by kernel_rfl) (by kernel_rfl) (fun _ _ _ h => h) rfl (by assumption) ?hy_7 ?re_7
    case hy_7 =>
      intro w hSw
      try dsimp only at hSw
      go_simp
      try with_reducible rfl
    simp only [Act.put, List.setIfInBounds_toArray, List.set_cons_zero, List.set_cons_succ]
    refine' held_take (i := 7) (d := some 29) (v := _) rfl rfl (by kernel_rfl) (by kernel_rfl) (by kernel_rfl) (fun _ _ _ h => h) rfl (by assumption) ?hy_8 ?re_8
    case hy_8 =>
      intro w hSw
      try dsimp only at hSw
      go_simp
      try with_reducible rfl
    simp only [Act.put, List.setIfInBounds_toArray, List.set_cons_zero, List.set_cons_succ]
    refine' held_take (i := 8) (d := some 30) (v := _) rfl rfl (by kernel_rfl) (by kernel_rfl) (by kernel_rfl) (fun _ _ _ h => h) rfl (by assumption) ?hy_9 ?re_9
    case hy_9 =>
      intro w hSw
      try dsimp only at hSw
      go_simp
      try with_reducible rfl
    simp only [Act.put, List.setIfInBounds_toArray, List.set_cons_zero, List.set_cons_succ]
    refine wpAnyH_ready (rs := [9]) (by kernel_rfl) (by simp) ?_
    refine AllReadyH.cons rfl (fun K hK => ?_) AllReadyH.nil
    go_simp
    refine (hfi.out _ hD0.out).mono ?_
    rintro e wd ⟨rfl, hb⟩
    have hDc := Lib.hid (below_trans hD0.out hb)
    clear hb
    go_wp2_with fail
    refine hK.out _ _ ?_ (fun hHeld => ?_)
    · exact hS5.out _ (Keeps.of_below hDc.out)
    clear hK K
    try simp only [Act.put, List.setIfInBounds_toArray, List.set_cons_zero, List.set_cons_succ]
    refine' held_take (i := 10) (d := some 32) (v := _) rfl rfl (by kernel_rfl) (by kernel_rfl) (by kernel_rfl) (fun _ _ _ h => h) rfl (by assumption) ?hy_10 ?re_10
    case hy_10 =>
      intro w hSw
      try dsimp only at hSw
      go_simp
      try with_reducible rfl
    simp only [Act.put, List.setIfInBounds_toArray, List.set_cons_zero, List.set_cons_succ]
    refine' held_take (i := 11) (d := some 33) (v := _) rfl rfl (by kernel_rfl) (by kernel_rfl) (by kernel_rfl) (fun _ _ _ h => h) rfl (by assumption) ?hy_11 ?re_11
    case hy_11 =>
      intro w hSw
      try dsimp only at hSw
      go_simp
      try with_reducible rfl
    simp only [Act.put, List.setIfInBounds_toArray, List.set_cons_zero, List.set_cons_succ]
    refine' held_take (i := 12) (d := some 34) (v := _) rfl rfl (by kernel_rfl) (by kernel_rfl) (by kernel_rfl) (fun _ _ _ h => h) rfl (by assumption) ?hy_12 ?re_12
    case hy_12 =>
      intro w hSw
      try dsimp only at hSw
      go_simp
      try with_reducible rfl
    simp only [Act.put, List.setIfInBounds_toArray, List.set_cons_zero, List.set_cons_succ]
    refine wpAnyH_ready (rs := [13]) (by kernel_rfl) (by simp) ?_
    refine AllReadyH.cons rfl (fun K hK => ?_) AllReadyH.nil
    go_simp
    refine (hen.out _ hDc.out).mono ?_
    rintro e w3 ⟨⟨rfl, h1, h2⟩, h3⟩
    have hS3 := Lib.hid (hS5.out _ ((Keeps.of_below hDc.out).trans h3))
    have hfin := Lib.hid (show (∃ b', RRlmAt w3 base m b' res.2.2) ∧ Keeps (RRlmS base w) w w3 from ⟨h1, keepsM_below (below_trans hK2.out hDc.out) h2⟩)
    clear h1 h2 h3
    go_wp2_with fail
    refine hK.out _ _ ?_ (fun hHeld => ?_)
    · exact hS3.out
    clear hK K
    try simp only [Act.put, List.setIfInBounds_toArray, List.set_cons_zero, List.set_cons_succ]
    refine' held_take (i := 14) (d := some 36) (v := _) rfl rfl (by kernel_rfl) (by kernel_rfl) (by kernel_rfl) (fun _ _ _ h => h) rfl (by assumption) ?hy_13 ?re_13
    case hy_13 =>
      intro w hSw
      try dsimp only at hSw
      go_simp
      try with_reducible rfl
    simp only [Act.put, List.setIfInBounds_toArray, List.set_cons_zero, List.set_cons_succ]
    refine' held_take (i := 15) (d := some 37) (v := _) rfl rfl (by kernel_rfl) (by kernel_rfl) (by kernel_rfl) (fun _ _ _ h => h) rfl (by assumption) ?hy_14 ?re_14
    case hy_14 =>
      intro w hSw
      try dsimp only at hSw
      go_simp
      try with_reducible rfl
    simp only [Act.put, List.setIfInBounds_toArray, List.set_cons_zero, List.set_cons_succ]
    refine' held_take (i := 16) (d := some 6) (v := _) rfl rfl (by kernel_rfl) (by kernel_rfl) (by kernel_rfl) (fun _ _ _ h => h) rfl (by assumption) ?hy_15 ?re_15
    case hy_15 =>
      intro w hSw
      try dsimp only at hSw
      go_simp
      try with_reducible rfl
    simp only [Act.put, List.setIfInBounds_toArray, List.set_cons_zero, List.set_cons_succ]
    refine' held_take (i := 17) (d := some 7) (v := _) rfl rfl (by kernel_rfl) (by kernel_rfl) (by kernel_rfl) (fun _ _ _ h => h) rfl (by assumption) ?hy_16 ?re_16
    case hy_16 =>
      intro w hSw
      try dsimp only at hSw
      go_simp
      try with_reducible rfl
    simp only [Act.put, List.setIfInBounds_toArray, List.set_cons_zero, List.set_cons_succ]
    refine wpAnyH_done (by kernel_rfl) ?_ _
    refine NoPanic.normal ?_
    go_wp2_with fail
    go_ret2
    exact ⟨rfl, hfin.out⟩
end Go.Proofs.YtkhphdkjnpcnnaaGreatDoor
