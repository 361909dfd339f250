/- RrlN -/
import Derived.Test.YtkhphdkjnpcnnaaGreatDoorMg39
import Derived.Test.YtkhphdkjnpcnnaaGreatDoorMg21
import Derived.Test.YtkhphdkjnpcnnaaGreatDoorMg38
/- The reference's Renew: walked. -/
namespace Go.Proofs.YtkhphdkjnpcnnaaGreatDoor
open Go.RowKit

theorem onC_none {L : List Per} {n : List UInt8} (h : idxP L n = none) : onC L n = 5 := by
  unfold onC
  rw [getC_none h]
  rfl
theorem onC_some {L : List Per} {n : List UInt8} {k : Nat} (h : idxP L n = some k) : ∃ hk : k < L.length, getV L n = L[k] ∧ onC L n = if L[k].off = true then 16 else 0 := by
  obtain ⟨hk, hf, hc⟩ := getV_some h
  refine ⟨hk, hf, ?_⟩
  unfold onC
  rw [hc, hf]
  rfl
set_option maxHeartbeats 8000000 in
set_option maxRecDepth 100000 in
theorem renewRR_any {base m b : Nat} {R : Rlm} (sv svc : List UInt8) (w : World) (hR : RRlmAt w base m b R) (hG : GoodM R) (hs : sv.length ≤ 1000) (_hn : svc.length ≤ 1000) :
    Calls Tryz.prog 40 #[.pointer (some ⟨m, 0, none⟩), .string (bs sv), .string (bs svc)] w fun e w' => e = .returned (.tuple #[.string (bs (renewM R sv svc).1), .int .i64 ((renewM R sv svc).2.1 : Nat)]) ∧ RRlmAt w' base m b (renewM R sv svc).2.2 ∧ Keeps (RRlmS base w) w w' := by
  have hq := renew_eq R sv svc
  have hM := hG.b.many
  have hRw := Lib.hid (fun wx (hx : Below w.heap.size w wx) => hR.below hx)
  have hfi := Lib.hid (fun x wx (hx : Below w.heap.size w wx) => findR_any base b R.b x wx (hR.below hx).book (by omega))
  have hop := Lib.hid (fun k (wx : World) => (show Calls Tryz.prog 83 #[.int .i64 k, .string (bs sv)] wx fun e w' => e = .returned (.tuple #[(openT k sv).1.val, .int .i64 ((openT k sv).2 : Nat)]) ∧ Below wx.heap.size wx w' from openR_tick k (bs sv) wx (by rw [bs_size]; omega)))
  have hlen := Lib.hid (fun k => openT_len k sv)
  have hrn := Lib.hid (fun t now til sr wx (hl : TickLen t) => renewR_tick t now til sr wx hl)
  have hmk := Lib.hid (fun k t wx (hl : TickLen t) => textR_tick k t wx hl)
  have ht0 := hG.t0
  have ht1 := hG.t1
  have hl0 := hG.l0
  have hl1 := hG.l1
  have hs0 := hG.s0
  have hs1 := hG.s1
  have hfin0 := Lib.hid (fun wx (hx : Below w.heap.size w wx) => (show RRlmAt wx base m b R ∧ Keeps (RRlmS base w) w wx from ⟨hR.below hx, Keeps.of_below hx⟩))
  have hfin1 := Lib.hid (fun wx (hx : Below w.heap.size w wx) => (show RRlmAt (wx.setCell ⟨m, 3, none⟩ (.int .i64 (R.serial + 1))) base m b { R with serial := R.serial + 1 } ∧ Keeps (RRlmS base w) w (wx.setCell ⟨m, 3, none⟩ (.int .i64 (R.serial + 1))) from ⟨((hR.below hx).serial _).1, keepsM_below hx ((hR.below hx).serial _).2⟩))
  generalize renewM R sv svc = lm at *
  have hfi1 := Lib.hid (hfi.out svc w (Below.refl _ _))
  obtain ⟨al, cl, ⟨_, c1, c2, c3, c4, _⟩, _, _⟩ := hR.cells
  have hbk := hR.book
  obtain ⟨rk, rl, rt, rs, rb, rL⟩ := R
  dsimp only at *
  clear hG hR
  cases hi : idxP rb svc with
  | none =>
    rw [onC_none hi, if_pos (by decide)] at hq
    subst hq
    dsimp only
    rw [findIx_none hi] at hfi1
    clear hi c1 c2 c3 hbk hfi hop hlen hrn hmk
    go_enter Tryz.func40, Tryz.ntmps40
    go_wp2_with fail
    refine hfi1.out.mono ?_
    rintro e w1 ⟨rfl, hb⟩
    have hfin := Lib.hid (hfin0.out _ hb)
    clear hb
    go_wp2_with fail
    go_ret2
    exact ⟨rfl, hfin.out⟩
  | some ks =>
  obtain ⟨hks, hgv, hon⟩ := onC_some hi
  rw [hgv, hon] at hq
  rw [findIx_some hi] at hfi1
  obtain ⟨g, c, e0, _, ⟨_, e1, _, e3⟩, _⟩ := hbk.cells hks
  have hbkH := Lib.hid hbk
  clear hgv hon hi hbk
  generalize rb[ks] = P at *
  obtain ⟨pn, pk, pe, po⟩ := P
  dsimp only at *
  have hks0 : ¬ ((ks : Int) < 0) := by omega
  have hks1 : (0 : Int) ≤ (ks : Int) := by omega
  have hks2 : (ks : Int) < (rb.length : Int) := by omega
  have hcw := Lib.hid (fun wx (hx : Below w.heap.size w wx) => (show (wx.cell? ⟨m, 1, none⟩ = some (.int .i64 rl) ∧ wx.cell? ⟨m, 2, none⟩ = some (.int .i64 rt) ∧ wx.cell? ⟨m, 3, none⟩ = some (.int .i64 rs) ∧ wx.cell? ⟨m, 4, none⟩ = some (.pointer (some ⟨b, 0, none⟩))) ∧ wx.cell? ⟨b, 0, none⟩ = some (.slice (some ⟨g, 0, none⟩) rb.length c) ∧ wx.cell? ⟨g, ks * 4 + 1, none⟩ = some (.int .i64 pk) ∧ wx.cell? ⟨g, ks * 4 + 3, none⟩ = some (.bool po) from
    ⟨⟨cell_below hx c1, cell_below hx c2, cell_below hx c3, cell_below hx c4⟩, cell_below hx e0, cell_below hx e1, cell_below hx e3⟩))
  clear c1 c2 c3 c4 e1 e3
  have he0 := Lib.hid e0
  clear e0
  go_enter Tryz.func40, Tryz.ntmps40
  obtain ⟨⟨_, _, _, c4⟩, _⟩ := hcw.out _ (Below.refl _ _)
  go_wp2_with fail
  refine hfi1.out.mono ?_
  rintro e w1 ⟨rfl, hb⟩
  have hK1 := Lib.hid hb
  clear hb hfi1 c4
  obtain ⟨⟨_, _, _, c4⟩, e0, e1, e3⟩ := hcw.out _ hK1.out
  cases po with
  | true =>
    rw [if_pos (by simp)] at hq
    subst hq
    try dsimp only
    have hfin := Lib.hid (hfin0.out _ hK1.out)
    go_wp2_with fail
    go_ret2
    exact ⟨rfl, hfin.out⟩
  | false =>
  rw [if_neg (by simp)] at hq
  have hop1 := Lib.hid (hop.out pk w1)
  have hlen := Lib.hid (hlen.out pk)
  generalize openT pk sv = ot at *
  obtain ⟨⟨tw, ts, te, tg, tf, tr⟩, oc⟩ := ot
  dsimp only [Tick.val] at *
  generalize hod : ((oc : Nat) : Int) = oz at *
  have hod := Lib.hid hod
  go_wp2_with fail
  refine hop1.out.mono ?_
  rintro e w2 ⟨rfl, hb⟩
  have hx := hb.alloc hb.size (.cells #[.string (bs tw), .string (bs ts), .int .i64 te, .int .i64 tg, .int .i64 tf, .int .i64 tr] 51)
  have hK2 := Lib.hid (below_trans hK1.out hx)
  have hbT := heap_alloc_new w2 (.cells #[.string (bs tw), .string (bs ts), .int .i64 te, .int .i64 tg, .int .i64 tf, .int .i64 tr] 51)
  have hx9 : w.heap.size ≤ w2.heap.size := (below_trans hK1.out hb).size
  clear hb hx hop hop1 c4 e0 e1 e3
  by_cases ho0 : oc = 0
  case neg =>
    rw [if_pos ho0] at hq
    subst hq
    try dsimp only
    have hfin := Lib.hid (hfin0.out _ hK2.out)
    have hoz : (0 : Int) < oz := by have := hod.out; omega
    clear hbT
    go_wp2_with fail
    go_ret2
    exact ⟨by first | rfl | (rw [hod.out]; rfl), hfin.out⟩
  subst ho0
  rw [if_neg (by simp)] at hq
  have hoz : oz = 0 := by have := hod.out; omega
  subst hoz
  clear hod
  go_upto_region 9 with fail
  generalize w2.heap.size = x9 at *
  generalize w2.alloc (.cells #[.string (bs tw), .string (bs ts), .int .i64 te, .int .i64 tg, .int .i64 tf, .int .i64 tr] 51) = w3 at *
  obtain ⟨⟨g0, g1, g2, g3, g4, g5⟩, _⟩ := six_of hbT
  by_cases hsv : ts = svc
  case neg =>
    rw [if_pos hsv] at hq
    subst hq
    try dsimp only
    have hfin := Lib.hid (hfin0.out _ hK2.out)
    have hse : ((bs ts).toList == (bs svc).toList) = false := bs_beq_ne hsv
    clear hbT
    go_wp2_with fail
    go_ret2
    exact ⟨rfl, hfin.out⟩
  rw [if_neg (by simpa using hsv)] at hq
  have hse : ((bs ts).toList == (bs svc).toList) = true := bs_beq_true hsv
  clear hsv
  obtain ⟨⟨c1, c2, c3, c4⟩, e0, e1, _⟩ := hcw.out _ hK2.out
  have hbT := Lib.hid hbT
  have hfi2 := Lib.hid (fun wx (hx : Below w3.heap.size w3 wx) => hfi.out tw wx (below_trans hK2.out hx))
  have hSA := Lib.hid (fun wx (hx : Below w3.heap.size w3 wx) => (show wx.cell? ⟨m, 4, none⟩ = some (.pointer (some ⟨b, 0, none⟩)) ∧ wx.cell? ⟨x9, 0, none⟩ = some (.string (bs tw)) from ⟨cell_below hx c4, cell_below hx g0⟩))
  have hD0 := Lib.hid (show Below w3.heap.size w3 w3.drew from (Below.refl _ _).drew)
  go_upto_region 11 with (go_quiet (fail))
  clear c1 c2 c3 c4 e0 e1 g0 g1 g2 g3 g4 g5 hfi
  go_cut [11] from 11 to 61 (fun s11 wx => s11 = .int .i64 (findIx rb tw) ∧ Hid (Below w3.heap.size w3 wx))
  case first =>
    refine wp_region_noPanic ?_
    refine wp_region_held_drew (S := fun wx => wx.cell? ⟨m, 4, none⟩ = some (.pointer (some ⟨b, 0, none⟩)) ∧ wx.cell? ⟨x9, 0, none⟩ = some (.string (bs tw))) (by kernel_rfl) ?_ (fun hHeld => ?_)
    · exact hSA.out _ hD0.out
    refine' held_take (i := 0) (d := some 55) (v := _) rfl rfl (by kernel_rfl) (by kernel_rfl) (by kernel_rfl) (fun _ _ _ h => h) rfl (by assumption) ?hy_1 ?re_1
    case hy_1 =>
      intro w hSw
      try dsimp only at hSw
      go_simp
      try with_reducible rfl
    simp only [Act.put, List.setIfInBounds_toArray, List.set_cons_zero, List.set_cons_succ]
    refine' held_take (i := 1) (d := some 56) (v := _) rfl rfl (by kernel_rfl) (by kernel_rfl) (by kernel_rfl) (fun _ _ _ h => h) rfl (by assumption) ?hy_2 ?re_2
    case hy_2 =>
      intro w hSw
      try dsimp only at hSw
      go_simp
      try with_reducible rfl
    simp only [Act.put, List.setIfInBounds_toArray, List.set_cons_zero, List.set_cons_succ]
    refine' held_take (i := 2) (d := some 57) (v := _) rfl rfl (by kernel_rfl) (by kernel_rfl) (by kernel_rfl) (fun _ _ _ h => h) rfl (by assumption) ?hy_3 ?re_3
    case hy_3 =>
      intro w hSw
      try dsimp only at hSw
      go_simp
      try with_reducible rfl
    simp only [Act.put, List.setIfInBounds_toArray, List.set_cons_zero, List.set_cons_succ]
    refine' held_take (i := 3) (d := some 58) (v := _) rfl rfl (by kernel_rfl) (by kernel_rfl) (by kernel_rfl) (fun _ _ _ h => h) rfl (by assumption) ?hy_4 ?re_4
    case hy_4 =>
      intro w hSw
      try dsimp only at hSw
      go_simp
      try with_reducible rfl
    simp only [Act.put, List.setIfInBounds_toArray, List.set_cons_zero, List.set_cons_succ]
    refine' held_take (i := 4) (d := some 59) (v := _) rfl rfl (by kernel_rfl) (by kernel_rfl) (by kernel_rfl) (fun _ _ _ h => h) rfl (by assumption) ?hy_5 ?re_5
    case hy_5 =>
      intro w hSw
      try dsimp only at hSw
      go_simp
      try with_reducible rfl
    simp only [Act.put, List.setIfInBounds_toArray, List.set_cons_zero, List.set_cons_succ]
    refine' held_take (i := 5) (d := some 60) (v := _) rfl rfl (by kernel_rfl) (by kernel_rfl) (by kernel_rfl) (fun _ _ _ h => h) rfl (by assumption) ?hy_6 ?re_6
    case hy_6 =>
      intro w hSw
      try dsimp only at hSw
      go_simp
      try with_reducible rfl
    simp only [Act.put, List.setIfInBounds_toArray, List.set_cons_zero, List.set_cons_succ]
    refine wpAnyH_ready (rs := [6]) (by kernel_rfl) (by simp) ?_
    refine AllReadyH.cons rfl (fun K hK => ?_) AllReadyH.nil
    go_simp
    refine (hfi2.out _ hD0.out).mono ?_
    rintro e wd ⟨rfl, hb⟩
    have hDc := Lib.hid (below_trans hD0.out hb)
    clear hb
    go_wp2_with fail
    refine hK.out _ _ ?_ (fun hHeld => ?_)
    · exact hSA.out _ hDc.out
    clear hK K
    try simp only [Act.put, List.setIfInBounds_toArray, List.set_cons_zero, List.set_cons_succ]
    refine' held_take (i := 7) (d := some 11) (v := _) rfl rfl (by kernel_rfl) (by kernel_rfl) (by kernel_rfl) (fun _ _ _ h => h) rfl (by assumption) ?hy_7 ?re_7
    case hy_7 =>
      intro w hSw
      try dsimp only at hSw
      go_simp
      try with_reducible rfl
    simp only [Act.put, List.setIfInBounds_toArray, List.set_cons_zero, List.set_cons_succ]
    refine wpAnyH_done (by kernel_rfl) ?_ _
    refine NoPanic.normal ?_
    go_wp2_with fail
    go_meet
    exact ⟨rfl, hDc⟩
  obtain ⟨rfl, hX⟩ := hcut
  have hK4 := Lib.hid (below_trans hK2.out hX.out)
  have hbT := Lib.hid (heap_down hX.out hbT.out)
  clear hX hD0 hSA hfi2 hse
  generalize wc = w4 at *
  cases hi : idxP rb tw with
  | none =>
    rw [onC_none hi, if_pos (by decide)] at hq
    subst hq
    rw [findIx_none hi]
    try dsimp only
    have hfin := Lib.hid (hfin0.out _ hK4.out)
    go_wp2_with fail
    go_ret2
    exact ⟨rfl, hfin.out⟩
  | some kp =>
  obtain ⟨hkp, hgv, hon⟩ := onC_some hi
  rw [hgv, hon] at hq
  rw [findIx_some hi]
  obtain ⟨g', c', e0', _, ⟨_, _, e2, e3⟩, _⟩ := hbkH.out.cells hkp
  rw [he0.out] at e0'
  cases e0'
  clear hgv hon hi
  generalize rb[kp] = S at *
  obtain ⟨qn, qk, qe, qo⟩ := S
  dsimp only at *
  have hkp0 : ¬ ((kp : Int) < 0) := by omega
  have hkp1 : (0 : Int) ≤ (kp : Int) := by omega
  have hkp2 : (kp : Int) < (rb.length : Int) := by omega
  have e2 := cell_below hK4.out e2
  have e3 := cell_below hK4.out e3
  obtain ⟨⟨c1, c2, c3, c4⟩, e0, e1, _⟩ := hcw.out _ hK4.out
  cases qo with
  | true =>
    rw [if_pos (by simp)] at hq
    subst hq
    try dsimp only
    have hfin := Lib.hid (hfin0.out _ hK4.out)
    go_wp2_with fail
    go_ret2
    exact ⟨rfl, hfin.out⟩
  | false =>
  rw [if_neg (by simp)] at hq
  obtain ⟨⟨g0, g1, g2, g3, g4, g5⟩, _⟩ := six_of hbT.out
  by_cases hep : te = qe
  case neg =>
    rw [if_pos hep] at hq
    subst hq
    try dsimp only
    have hfin := Lib.hid (fun k => hfin0.out _ (below_drawn hK4.out k))
    go_wp2_with fail
    go_quiet (fail)
    go_wp2_with fail
    go_ret2
    exact ⟨rfl, hfin.out _⟩
  subst hep
  rw [if_neg (by simp)] at hq
  have hTL : TickLen ⟨tw, ts, te, tg, tf, tr⟩ := ⟨Nat.le_trans hlen.out.1 (by decide), Nat.le_trans hlen.out.2 (by decide)⟩
  have hrn2 := Lib.hid (fun wx => hrn.out ⟨tw, ts, te, tg, tf, tr⟩ rt (rt + rl) rs wx hTL)
  have hxL := Lib.hid (renewT_lens hTL rt (rt + rl) rs)
  generalize renewT ⟨tw, ts, te, tg, tf, tr⟩ rt (rt + rl) rs = rr at *
  obtain ⟨⟨xw, xs, xe, xg, xf, xr⟩, rc⟩ := rr
  dsimp only [Tick.val] at *
  generalize hrd : ((rc : Nat) : Int) = rz at *
  have hrd := Lib.hid hrd
  have hwr := Lib.hid (show IntKind.i64.wrap (rt + rl) = rt + rl by rw [IntKind.wrap_i64]; omega)
  have hSB := Lib.hid (fun wx (hx : Below w.heap.size w wx) => (show wx.cell? ⟨m, 1, none⟩ = some (.int .i64 rl) ∧ wx.cell? ⟨m, 2, none⟩ = some (.int .i64 rt) ∧ wx.cell? ⟨m, 3, none⟩ = some (.int .i64 rs) from
    ⟨(hcw.out wx hx).1.1, (hcw.out wx hx).1.2.1, (hcw.out wx hx).1.2.2.1⟩))
  have hD0 := Lib.hid (fun k => (show Below w.heap.size w ((w4.drewN k).drew) from (below_drawn hK4.out k).drew))
  have hrow0 := Lib.hid (fun k => (show ((w4.drewN k).drew).heap[x9]? = some (.cells #[.string (bs tw), .string (bs ts), .int .i64 te, .int .i64 tg, .int .i64 tf, .int .i64 tr] 51 (0, 0)) from hbT.out))
  go_upto_region 18 with (go_quiet (fail))
  clear c1 c2 c3 c4 e0 e1 e2 e3 hlen
  go_cut [10] from 10 to 110 (fun s10 wx => s10 = .int .i64 rz ∧ Hid (Below w.heap.size w wx ∧ wx.heap[x9]? = some (.cells #[.string (bs xw), .string (bs xs), .int .i64 xe, .int .i64 xg, .int .i64 xf, .int .i64 xr] 51 (0, 0))))
  case first =>
    refine wp_region_noPanic ?_
    refine wp_region_held_drew (S := fun wx => wx.cell? ⟨m, 1, none⟩ = some (.int .i64 rl) ∧ wx.cell? ⟨m, 2, none⟩ = some (.int .i64 rt) ∧ wx.cell? ⟨m, 3, none⟩ = some (.int .i64 rs)) (by kernel_rfl) ?_ (fun hHeld => ?_)
    · exact hSB.out _ (hD0.out _)
    refine' held_take (i := 1) (d := some 91) (v := _) rfl rfl (by kernel_rfl) (by kernel_rfl) (by kernel_rfl) (fun _ _ _ h => h) rfl (by assumption) ?hy_8 ?re_8
    case hy_8 =>
      intro w hSw
      try dsimp only at hSw
      go_simp
      try with_reducible rfl
    simp only [Act.put, List.setIfInBounds_toArray, List.set_cons_zero, List.set_cons_succ]
    refine' held_take (i := 2) (d := some 92) (v := _) rfl rfl (by kernel_rfl) (by kernel_rfl) (by kernel_rfl) (fun _ _ _ h => h) rfl (by assumption) ?hy_9 ?re_9
    case hy_9 =>
      intro w hSw
      try dsimp only at hSw
      go_simp
      try with_reducible rfl
    simp only [Act.put, List.setIfInBounds_toArray, List.set_cons_zero, List.set_cons_succ]
    refine' held_take (i := 3) (d := some 93) (v := _) rfl rfl (by kernel_rfl) (by kernel_rfl) (by kernel_rfl) (fun _ _ _ h => h) rfl (by assumption) ?hy_10 ?re_10
    case hy_10 =>
      intro w hSw
      try dsimp only at hSw
      go_simp
      try with_reducible rfl
    simp only [Act.put, List.setIfInBounds_toArray, List.set_cons_zero, List.set_cons_succ]
    refine' held_take (i := 4) (d := some 94) (v := _) rfl rfl (by kernel_rfl) (by kernel_rfl) (by kernel_rfl) (fun _ _ _ h => h) rfl (by assumption) ?hy_11 ?re_11
    case hy_11 =>
      intro w hSw
      try dsimp only at hSw
      go_simp
      try with_reducible rfl
    simp only [Act.put, List.setIfInBounds_toArray, List.set_cons_zero, List.set_cons_succ]
    refine' held_take (i := 5) (d := some 95) (v := _) rfl rfl (by kernel_rfl) (by kernel_rfl) (by kernel_rfl) (fun _ _ _ h => h) rfl (by assumption) ?hy_12 ?re_12
    case hy_12 =>
      intro w hSw
      try dsimp only at hSw
      go_simp
      try with_reducible rfl
    simp only [Act.put, List.setIfInBounds_toArray, List.set_cons_zero, List.set_cons_succ]
    refine' held_take (i := 6) (d := some 96) (v := _) rfl rfl (by kernel_rfl) (by kernel_rfl) (by kernel_rfl) (fun _ _ _ h => h) rfl (by assumption) ?hy_13 ?re_13
    case hy_13 =>
      intro w hSw
      try dsimp only at hSw
      go_simp
      try with_reducible rfl
    simp only [Act.put, List.setIfInBounds_toArray, List.set_cons_zero, List.set_cons_succ]
    refine' held_take (i := 7) (d := some 97) (v := _) rfl rfl (by kernel_rfl) (by kernel_rfl) (by kernel_rfl) (fun _ _ _ h => h) rfl (by assumption) ?hy_14 ?re_14
    case hy_14 =>
      intro w hSw
      try dsimp only at hSw
      go_simp
      try with_reducible rfl
    simp only [Act.put, List.setIfInBounds_toArray, List.set_cons_zero, List.set_cons_succ]
    refine' held_take (i := 8) (d := some 98) (v := _) rfl rfl (by kernel_rfl) (by kernel_rfl) (by kernel_rfl) (fun _ _ _ h => h) rfl (by assumption) ?hy_15 ?re_15
    case hy_15 =>
      intro w hSw
      try dsimp only at hSw
      go_simp
      try with_reducible rfl
    simp only [Act.put, List.setIfInBounds_toArray, List.set_cons_zero, List.set_cons_succ]
    refine' held_take (i := 9) (d := some 99) (v := _) rfl rfl (by kernel_rfl) (by kernel_rfl) (by kernel_rfl) (fun _ _ _ h => h) rfl (by assumption) ?hy_16 ?re_16
    case hy_16 =>
      intro w hSw
      try dsimp only at hSw
      go_simp
      try with_reducible rfl
    simp only [Act.put, List.setIfInBounds_toArray, List.set_cons_zero, List.set_cons_succ]
    refine' held_take (i := 10) (d := some 100) (v := _) rfl rfl (by kernel_rfl) (by kernel_rfl) (by kernel_rfl) (fun _ _ _ h => h) rfl (by assumption) ?hy_17 ?re_17
    case hy_17 =>
      intro w hSw
      try dsimp only at hSw
      go_simp
      try with_reducible rfl
    simp only [Act.put, List.setIfInBounds_toArray, List.set_cons_zero, List.set_cons_succ]
    refine' held_take (i := 11) (d := some 101) (v := _) rfl rfl (by kernel_rfl) (by kernel_rfl) (by kernel_rfl) (fun _ _ _ h => h) rfl (by assumption) ?hy_18 ?re_18
    case hy_18 =>
      intro w hSw
      try dsimp only at hSw
      go_simp
      try with_reducible rfl
    simp only [Act.put, List.setIfInBounds_toArray, List.set_cons_zero, List.set_cons_succ]
    refine' held_take (i := 12) (d := some 102) (v := _) rfl rfl (by kernel_rfl) (by kernel_rfl) (by kernel_rfl) (fun _ _ _ h => h) rfl (by assumption) ?hy_19 ?re_19
    case hy_19 =>
      intro w hSw
      try dsimp only at hSw
      go_simp
      try with_reducible rfl
    simp only [Act.put, List.setIfInBounds_toArray, List.set_cons_zero, List.set_cons_succ]
    refine' held_take (i := 13) (d := some 103) (v := _) rfl rfl (by kernel_rfl) (by kernel_rfl) (by kernel_rfl) (fun _ _ _ h => h) rfl (by assumption) ?hy_20 ?re_20
    case hy_20 =>
      intro w hSw
      try dsimp only at hSw
      go_simp
      try with_reducible rfl
    simp only [Act.put, List.setIfInBounds_toArray, List.set_cons_zero, List.set_cons_succ]
    refine' held_take (i := 14) (d := some 104) (v := _) rfl rfl (by kernel_rfl) (by kernel_rfl) (by kernel_rfl) (fun _ _ _ h => h) rfl (by assumption) ?hy_21 ?re_21
    case hy_21 =>
      intro w hSw
      try dsimp only at hSw
      go_simp
      try with_reducible rfl
    simp only [Act.put, List.setIfInBounds_toArray, List.set_cons_zero, List.set_cons_succ]
    refine' held_take (i := 15) (d := some 105) (v := _) rfl rfl (by kernel_rfl) (by kernel_rfl) (by kernel_rfl) (fun _ _ _ h => h) rfl (by assumption) ?hy_22 ?re_22
    case hy_22 =>
      intro w hSw
      try dsimp only at hSw
      go_simp
      try with_reducible rfl
    simp only [Act.put, List.setIfInBounds_toArray, List.set_cons_zero, List.set_cons_succ]
    refine' held_take (i := 16) (d := some 106) (v := _) rfl rfl (by kernel_rfl) (by kernel_rfl) (by kernel_rfl) (fun _ _ _ h => h) rfl (by assumption) ?hy_23 ?re_23
    case hy_23 =>
      intro w hSw
      try dsimp only at hSw
      go_simp
      try with_reducible rfl
    simp only [Act.put, List.setIfInBounds_toArray, List.set_cons_zero, List.set_cons_succ]
    refine' held_take (i := 17) (d := some 107) (v := _) rfl rfl (by kernel_rfl) (by kernel_rfl) (by kernel_rfl) (fun _ _ _ h => h) rfl (by assumption) ?hy_24 ?re_24
    case hy_24 =>
      intro w hSw
      try dsimp only at hSw
      go_simp
      try with_reducible rfl
    simp only [Act.put, List.setIfInBounds_toArray, List.set_cons_zero, List.set_cons_succ]
    refine wpAnyH_ready (rs := [0]) (by kernel_rfl) (by simp) ?_
    refine AllReadyH.cons rfl (fun K hK => ?_) AllReadyH.nil
    go_simp
    refine hK.out _ _ ?_ (fun hHeld => ?_)
    · exact hSB.out _ (hD0.out _)
    clear hK K
    try simp only [Act.put, List.setIfInBounds_toArray, List.set_cons_zero, List.set_cons_succ]
    refine wpAnyH_ready (rs := [18]) (by kernel_rfl) (by simp) ?_
    refine AllReadyH.cons rfl (fun K hK => ?_) AllReadyH.nil
    go_simp
    try rw [hwr.out]
    refine (hrn2.out _).mono ?_
    rintro e wd ⟨rfl, hb⟩
    have hDc := Lib.hid (below_trans (hD0.out _) hb)
    have hrow := Lib.hid (heap_down hb (hrow0.out _))
    obtain ⟨_, f0, f1, f2, f3, f4, f5⟩ := six_of hrow.out
    clear hb
    go_wp2_with fail
    refine hK.out _ _ ?_ (fun hHeld => ?_)
    · exact hSB.out _ hDc.out
    clear hK K
    try simp only [Act.put, List.setIfInBounds_toArray, List.set_cons_zero, List.set_cons_succ]
    refine' held_take (i := 19) (d := some 89) (v := _) rfl rfl (by kernel_rfl) (by kernel_rfl) (by kernel_rfl) (fun _ _ _ h => h) rfl (by assumption) ?hy_25 ?re_25
    case hy_25 =>
      intro w hSw
      try dsimp only at hSw
      go_simp
      try with_reducible rfl
    simp only [Act.put, List.setIfInBounds_toArray, List.set_cons_zero, List.set_cons_succ]
    refine' held_take (i := 20) (d := some 109) (v := _) rfl rfl (by kernel_rfl) (by kernel_rfl) (by kernel_rfl) (fun _ _ _ h => h) rfl (by assumption) ?hy_26 ?re_26
    case hy_26 =>
      intro w hSw
      try dsimp only at hSw
      go_simp
      try with_reducible rfl
    simp only [Act.put, List.setIfInBounds_toArray, List.set_cons_zero, List.set_cons_succ]
    refine' held_take (i := 21) (d := some 110) (v := _) rfl rfl (by kernel_rfl) (by kernel_rfl) (by kernel_rfl) (fun _ _ _ h => h) rfl (by assumption) ?hy_27 ?re_27
    case hy_27 =>
      intro w hSw
      try dsimp only at hSw
      go_simp
      try with_reducible rfl
    simp only [Act.put, List.setIfInBounds_toArray, List.set_cons_zero, List.set_cons_succ]
    refine wpAnyH_ready (rs := [22]) (by kernel_rfl) (by simp) ?_
    refine AllReadyH.cons rfl (fun K hK => ?_) AllReadyH.nil
    go_simp
    have hfz := Lib.hid (And.intro (below_set6 hDc.out hx9 (.string (bs xw)) (.string (bs xs)) (.int .i64 xe) (.int .i64 xg) (.int .i64 xf) (.int .i64 xr)) (row_set6 hrow.out (.string (bs xw)) (.string (bs xs)) (.int .i64 xe) (.int .i64 xg) (.int .i64 xf) (.int .i64 xr)))
    try go_wp2_with fail
    refine hK.out _ _ ?_ (fun hHeld => ?_)
    · exact hSB.out _ hfz.out.1
    clear hK K
    try simp only [Act.put, List.setIfInBounds_toArray, List.set_cons_zero, List.set_cons_succ]
    refine' held_take (i := 23) (d := some 10) (v := _) rfl rfl (by kernel_rfl) (by kernel_rfl) (by kernel_rfl) (fun _ _ _ h => h) rfl (by assumption) ?hy_28 ?re_28
    case hy_28 =>
      intro w hSw
      try dsimp only at hSw
      go_simp
      try with_reducible rfl
    simp only [Act.put, List.setIfInBounds_toArray, List.set_cons_zero, List.set_cons_succ]
    refine wpAnyH_done (by kernel_rfl) ?_ _
    refine NoPanic.normal ?_
    go_wp2_with fail
    go_meet
    exact ⟨rfl, hfz⟩
  obtain ⟨rfl, hX⟩ := hcut
  obtain ⟨hX1, hX2⟩ := hX.out
  have hK5 := Lib.hid hX1
  have hbT := Lib.hid hX2
  clear hX hX1 hX2 hD0 hSB hrn2 hrow0 g0 g1 g2 g3 g4 g5
  generalize wc = w5 at *
  by_cases hr0 : rc = 0
  case neg =>
    rw [if_pos hr0] at hq
    subst hq
    try dsimp only
    have hrz : (0 : Int) < rz := by have := hrd.out; omega
    have hfin := Lib.hid (hfin0.out _ hK5.out)
    go_wp2_with fail
    go_ret2
    exact ⟨by first | rfl | (rw [hrd.out]; rfl), hfin.out⟩
  subst hr0
  rw [if_neg (by simp)] at hq
  have hrz : rz = 0 := by have := hrd.out; omega
  subst hrz
  clear hrd
  obtain ⟨⟨c1, c2, c3, c4⟩, e0, e1, _⟩ := hcw.out _ hK5.out
  obtain ⟨⟨g0, g1, g2, g3, g4, g5⟩, _⟩ := six_of hbT.out
  have hmk := Lib.hid (fun wx => hmk.out pk ⟨xw, xs, xe, xg, xf, xr⟩ wx hxL.out)
  generalize makeT pk ⟨xw, xs, xe, xg, xf, xr⟩ = mt at *
  obtain ⟨ms, mc⟩ := mt
  dsimp only [Tick.val] at *
  generalize hmd : ((mc : Nat) : Int) = mz at *
  have hmd := Lib.hid hmd
  have hSC := Lib.hid (fun wx (hx : Below w5.heap.size w5 wx) => (show wx.cell? ⟨m, 4, none⟩ = some (.pointer (some ⟨b, 0, none⟩)) ∧ wx.cell? ⟨b, 0, none⟩ = some (.slice (some ⟨g, 0, none⟩) rb.length c) ∧ wx.cell? ⟨g, ks * 4 + 1, none⟩ = some (.int .i64 pk) ∧ (wx.cell? ⟨x9, 0, none⟩ = some (.string (bs xw)) ∧ wx.cell? ⟨x9, 1, none⟩ = some (.string (bs xs)) ∧ wx.cell? ⟨x9, 2, none⟩ = some (.int .i64 xe) ∧ wx.cell? ⟨x9, 3, none⟩ = some (.int .i64 xg) ∧ wx.cell? ⟨x9, 4, none⟩ = some (.int .i64 xf) ∧ wx.cell? ⟨x9, 5, none⟩ = some (.int .i64 xr)) from
    ⟨cell_below hx c4, cell_below hx e0, cell_below hx e1, cell_below hx g0, cell_below hx g1, cell_below hx g2, cell_below hx g3, cell_below hx g4, cell_below hx g5⟩))
  have hD0 := Lib.hid (show Below w5.heap.size w5 w5.drew from (Below.refl _ _).drew)
  go_upto_region 21 with fail
  clear c1 c2 c3 c4 e0 e1 g0 g1 g2 g3 g4 g5
  go_cut [10, 12] from 10 to 129 (fun s10 s12 wx => s10 = .int .i64 mz ∧ s12 = .string (bs ms) ∧ Hid (Below w5.heap.size w5 wx))
  case first =>
    refine wp_region_noPanic ?_
    refine wp_region_held_drew (S := fun wx => wx.cell? ⟨m, 4, none⟩ = some (.pointer (some ⟨b, 0, none⟩)) ∧ wx.cell? ⟨b, 0, none⟩ = some (.slice (some ⟨g, 0, none⟩) rb.length c) ∧ wx.cell? ⟨g, ks * 4 + 1, none⟩ = some (.int .i64 pk) ∧ (wx.cell? ⟨x9, 0, none⟩ = some (.string (bs xw)) ∧ wx.cell? ⟨x9, 1, none⟩ = some (.string (bs xs)) ∧ wx.cell? ⟨x9, 2, none⟩ = some (.int .i64 xe) ∧ wx.cell? ⟨x9, 3, none⟩ = some (.int .i64 xg) ∧ wx.cell? ⟨x9, 4, none⟩ = some (.int .i64 xf) ∧ wx.cell? ⟨x9, 5, none⟩ = some (.int .i64 xr))) (by kernel_rfl) ?_ (fun hHeld => ?_)
    · exact hSC.out _ hD0.out
    refine' held_take (i := 0) (d := some 115) (v := _) rfl rfl (by kernel_rfl) (by kernel_rfl) (by kernel_rfl) (fun _ _ _ h => h) rfl (by assumption) ?hy_29 ?re_29
    case hy_29 =>
      intro w hSw
      try dsimp only at hSw
      go_simp
      try with_reducible rfl
    simp only [Act.put, List.setIfInBounds_toArray, List.set_cons_zero, List.set_cons_succ]
    refine' held_take (i := 1) (d := some 116) (v := _) rfl rfl (by kernel_rfl) (by kernel_rfl) (by kernel_rfl) (fun _ _ _ h => h) rfl (by assumption) ?hy_30 ?re_30
    case hy_30 =>
      intro w hSw
      try dsimp only at hSw
      go_simp
      try with_reducible rfl
    simp only [Act.put, List.setIfInBounds_toArray, List.set_cons_zero, List.set_cons_succ]
    refine' held_take (i := 2) (d := some 117) (v := _) rfl rfl (by kernel_rfl) (by kernel_rfl) (by kernel_rfl) (fun _ _ _ h => h) rfl (by assumption) ?hy_31 ?re_31
    case hy_31 =>
      intro w hSw
      try dsimp only at hSw
      go_simp
      try with_reducible rfl
    simp only [Act.put, List.setIfInBounds_toArray, List.set_cons_zero, List.set_cons_succ]
    refine' held_take (i := 3) (d := some 118) (v := _) rfl rfl (by kernel_rfl) (by kernel_rfl) (by kernel_rfl) (fun _ _ _ h => h) rfl (by assumption) ?hy_32 ?re_32
    case hy_32 =>
      intro w hSw
      try dsimp only at hSw
      go_simp
      try with_reducible rfl
    simp only [Act.put, List.setIfInBounds_toArray, List.set_cons_zero, List.set_cons_succ]
    refine' held_take (i := 4) (d := some 119) (v := _) rfl rfl (by kernel_rfl) (by kernel_rfl) (by kernel_rfl) (fun _ _ _ h => h) rfl (by assumption) ?hy_33 ?re_33
    case hy_33 =>
      intro w hSw
      try dsimp only at hSw
      go_simp
      try with_reducible rfl
    simp only [Act.put, List.setIfInBounds_toArray, List.set_cons_zero, List.set_cons_succ]
    refine' held_take (i := 5) (d := some 120) (v := _) rfl rfl (by kernel_rfl) (by kernel_rfl) (by kernel_rfl) (fun _ _ _ h => h) rfl (by assumption) ?hy_34 ?re_34
    case hy_34 =>
      intro w hSw
      try dsimp only at hSw
      go_simp
      try with_reducible rfl
    simp only [Act.put, List.setIfInBounds_toArray, List.set_cons_zero, List.set_cons_succ]
    refine' held_take (i := 6) (d := some 121) (v := _) rfl rfl (by kernel_rfl) (by kernel_rfl) (by kernel_rfl) (fun _ _ _ h => h) rfl (by assumption) ?hy_35 ?re_35
    case hy_35 =>
      intro w hSw
      try dsimp only at hSw
      go_simp
      try with_reducible rfl
    simp only [Act.put, List.setIfInBounds_toArray, List.set_cons_zero, List.set_cons_succ]
    refine' held_take (i := 7) (d := some 122) (v := _) rfl rfl (by kernel_rfl) (by kernel_rfl) (by kernel_rfl) (fun _ _ _ h => h) rfl (by assumption) ?hy_36 ?re_36
    case hy_36 =>
      intro w hSw
      try dsimp only at hSw
      go_simp
      try with_reducible rfl
    simp only [Act.put, List.setIfInBounds_toArray, List.set_cons_zero, List.set_cons_succ]
    refine' held_take (i := 8) (d := some 123) (v := _) rfl rfl (by kernel_rfl) (by kernel_rfl) (by kernel_rfl) (fun _ _ _ h => h) rfl (by assumption) ?hy_37 ?re_37
    case hy_37 =>
      intro w hSw
      try dsimp only at hSw
      go_simp
      try with_reducible rfl
    simp only [Act.put, List.setIfInBounds_toArray, List.set_cons_zero, List.set_cons_succ]
    refine' held_take (i := 9) (d := some 124) (v := _) rfl rfl (by kernel_rfl) (by kernel_rfl) (by kernel_rfl) (fun _ _ _ h => h) rfl (by assumption) ?hy_38 ?re_38
    case hy_38 =>
      intro w hSw
      try dsimp only at hSw
      go_simp
      try with_reducible rfl
    simp only [Act.put, List.setIfInBounds_toArray, List.set_cons_zero, List.set_cons_succ]
    refine' held_take (i := 10) (d := some 125) (v := _) rfl rfl (by kernel_rfl) (by kernel_rfl) (by kernel_rfl) (fun _ _ _ h => h) rfl (by assumption) ?hy_39 ?re_39
    case hy_39 =>
      intro w hSw
      try dsimp only at hSw
      go_simp
      try with_reducible rfl
    simp only [Act.put, List.setIfInBounds_toArray, List.set_cons_zero, List.set_cons_succ]
    refine' held_take (i := 11) (d := some 126) (v := _) rfl rfl (by kernel_rfl) (by kernel_rfl) (by kernel_rfl) (fun _ _ _ h => h) rfl (by assumption) ?hy_40 ?re_40
    case hy_40 =>
      intro w hSw
      try dsimp only at hSw
      go_simp
      try with_reducible rfl
    simp only [Act.put, List.setIfInBounds_toArray, List.set_cons_zero, List.set_cons_succ]
    refine wpAnyH_ready (rs := [12]) (by kernel_rfl) (by simp) ?_
    refine AllReadyH.cons rfl (fun K hK => ?_) AllReadyH.nil
    go_simp
    refine (hmk.out _).mono ?_
    rintro e wd ⟨rfl, hb⟩
    have hDc := Lib.hid (below_trans hD0.out hb)
    clear hb
    go_wp2_with fail
    refine hK.out _ _ ?_ (fun hHeld => ?_)
    · exact hSC.out _ hDc.out
    clear hK K
    try simp only [Act.put, List.setIfInBounds_toArray, List.set_cons_zero, List.set_cons_succ]
    refine' held_take (i := 13) (d := some 114) (v := _) rfl rfl (by kernel_rfl) (by kernel_rfl) (by kernel_rfl) (fun _ _ _ h => h) rfl (by assumption) ?hy_41 ?re_41
    case hy_41 =>
      intro w hSw
      try dsimp only at hSw
      go_simp
      try with_reducible rfl
    simp only [Act.put, List.setIfInBounds_toArray, List.set_cons_zero, List.set_cons_succ]
    refine' held_take (i := 14) (d := some 128) (v := _) rfl rfl (by kernel_rfl) (by kernel_rfl) (by kernel_rfl) (fun _ _ _ h => h) rfl (by assumption) ?hy_42 ?re_42
    case hy_42 =>
      intro w hSw
      try dsimp only at hSw
      go_simp
      try with_reducible rfl
    simp only [Act.put, List.setIfInBounds_toArray, List.set_cons_zero, List.set_cons_succ]
    refine' held_take (i := 15) (d := some 129) (v := _) rfl rfl (by kernel_rfl) (by kernel_rfl) (by kernel_rfl) (fun _ _ _ h => h) rfl (by assumption) ?hy_43 ?re_43
    case hy_43 =>
      intro w hSw
      try dsimp only at hSw
      go_simp
      try with_reducible rfl
    simp only [Act.put, List.setIfInBounds_toArray, List.set_cons_zero, List.set_cons_succ]
    refine' held_take (i := 16) (d := some 12) (v := _) rfl rfl (by kernel_rfl) (by kernel_rfl) (by kernel_rfl) (fun _ _ _ h => h) rfl (by assumption) ?hy_44 ?re_44
    case hy_44 =>
      intro w hSw
      try dsimp only at hSw
      go_simp
      try with_reducible rfl
    simp only [Act.put, List.setIfInBounds_toArray, List.set_cons_zero, List.set_cons_succ]
    refine' held_take (i := 17) (d := some 10) (v := _) rfl rfl (by kernel_rfl) (by kernel_rfl) (by kernel_rfl) (fun _ _ _ h => h) rfl (by assumption) ?hy_45 ?re_45
    case hy_45 =>
      intro w hSw
      try dsimp only at hSw
      go_simp
      try with_reducible rfl
    simp only [Act.put, List.setIfInBounds_toArray, List.set_cons_zero, List.set_cons_succ]
    refine wpAnyH_done (by kernel_rfl) ?_ _
    refine NoPanic.normal ?_
    go_wp2_with fail
    go_meet
    exact ⟨rfl, rfl, hDc⟩
  obtain ⟨rfl, rfl, hX⟩ := hcut
  have hK6 := Lib.hid (below_trans hK5.out hX.out)
  clear hX hD0 hSC hmk
  generalize wc = w6 at *
  by_cases hm0 : mc = 0
  case neg =>
    rw [if_neg hm0] at hq
    subst hq
    try dsimp only
    have hmz : ¬ mz = 0 := by have := hmd.out; omega
    have hmz2 : (mz == 0) = false := by simpa using hmz
    have hfin := Lib.hid (hfin0.out _ hK6.out)
    go_wp2_with fail
    go_ret2
    exact ⟨by first | rfl | (rw [hmd.out]; rfl), hfin.out⟩
  subst hm0
  rw [if_pos rfl] at hq
  subst hq
  try dsimp only
  have hmz : mz = 0 := by have := hmd.out; omega
  subst hmz
  have hfin := Lib.hid (hfin1.out _ hK6.out)
  obtain ⟨al2, cl2, ⟨_, _, _, c3, _, _⟩, ⟨_, _, _, f3, _, _⟩, _⟩ := (hRw.out _ hK6.out).cells
  try dsimp only at c3
  go_wp2_with fail
  go_ret2
  exact ⟨rfl, hfin.out⟩
end Go.Proofs.YtkhphdkjnpcnnaaGreatDoor
