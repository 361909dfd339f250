/- RlmN -/
import Derived.Test.YtkhphdkjnpcnnaaGreatDoorMg17
import Derived.Test.YtkhphdkjnpcnnaaGreatDoorMg20
import Derived.Test.YtkhphdkjnpcnnaaGreatDoorMg18
import Derived.Test.YtkhphdkjnpcnnaaGreatDoorMg13
/- realm.Renew: walked. -/
namespace Go.Proofs.YtkhphdkjnpcnnaaGreatDoor
open Go.RowKit

theorem renew_eq (R : Rlm) (s svc : List UInt8) : renewM R s svc =
    if onC R.b svc ≠ 0 then ([], onC R.b svc, R)
    else if (openT (getV R.b svc).key s).2 ≠ 0 then ([], (openT (getV R.b svc).key s).2, R)
    else if (openT (getV R.b svc).key s).1.svc ≠ svc then ([], 4, R)
    else if onC R.b (openT (getV R.b svc).key s).1.who ≠ 0 then ([], onC R.b (openT (getV R.b svc).key s).1.who, R)
    else if (openT (getV R.b svc).key s).1.epoch ≠ (getV R.b (openT (getV R.b svc).key s).1.who).epoch then ([], 13, R)
    else if (renewT (openT (getV R.b svc).key s).1 R.time (R.time + R.long) R.serial).2 ≠ 0 then ([], (renewT (openT (getV R.b svc).key s).1 R.time (R.time + R.long) R.serial).2, R)
    else ((makeT (getV R.b svc).key (renewT (openT (getV R.b svc).key s).1 R.time (R.time + R.long) R.serial).1).1, (makeT (getV R.b svc).key (renewT (openT (getV R.b svc).key s).1 R.time (R.time + R.long) R.serial).1).2,
      if (makeT (getV R.b svc).key (renewT (openT (getV R.b svc).key s).1 R.time (R.time + R.long) R.serial).1).2 = 0 then { R with serial := R.serial + 1 } else R) := by
  have h1 : ∀ n, findP R.b n = none → getV R.b n = ⟨[], 0, 0, false⟩ ∧ getC R.b n = 5 ∧ onC R.b n = 5 := fun n h => by unfold onC getV getC; rw [h]; exact ⟨rfl, rfl, rfl⟩
  have h2 : ∀ n p, findP R.b n = some p → getV R.b n = p ∧ getC R.b n = 0 ∧ onC R.b n = (if p.off = true then 16 else 0) := fun n p h => by unfold onC getV getC; rw [h]; exact ⟨rfl, rfl, rfl⟩
  unfold renewM renewM2
  cases hs : findP R.b svc with
  | none => rw [(h1 _ hs).2.2]; rfl
  | some k =>
    obtain ⟨e1, _, e2⟩ := h2 _ _ hs
    rw [e1, e2]
    dsimp only
    by_cases ho : k.off = true
    · simp [ho]
    · rw [if_neg ho, if_neg ho, if_neg (show ¬ ((0 : Nat) ≠ 0) by simp)]
      by_cases h3 : (openT k.key s).2 ≠ 0
      · rw [if_pos h3, if_pos h3]
      · rw [if_neg h3, if_neg h3]
        by_cases h4 : (openT k.key s).1.svc ≠ svc
        · rw [if_pos h4, if_pos h4]
        · rw [if_neg h4, if_neg h4]
          cases hw : findP R.b (openT k.key s).1.who with
          | none => rw [(h1 _ hw).2.2]; rfl
          | some p =>
            obtain ⟨g1, _, g2⟩ := h2 _ _ hw
            rw [g1, g2]
            dsimp only
            by_cases hp : p.off = true
            · simp [hp]
            · rw [if_neg hp, if_neg hp, if_neg (show ¬ ((0 : Nat) ≠ 0) by simp)]
theorem renewT_lens {t : Tick} (h : TickLen t) (now til sr : Int) : TickLen (renewT t now til sr).1 := by
  unfold renewT
  split
  · split
    · exact h
    · exact ⟨Nat.zero_le _, Nat.zero_le _⟩
  · exact ⟨Nat.zero_le _, Nat.zero_le _⟩
set_option maxHeartbeats 4000000 in
set_option maxRecDepth 100000 in
theorem renewM_any {E : Nat → Addr} {base a b r : Nat} {R : Rlm} (sv svc : List UInt8) (w : World) (hL : LaidS E w) (hR : RlmAt w base a b r R) (hG : GoodM R) (hs : sv.length ≤ 1000) (_hn : svc.length ≤ 1000) :
    Calls Tryz.prog 20 #[.pointer (some ⟨a, 0, none⟩), .string (bs sv), .string (bs svc)] w fun e w' => e = .returned (.tuple #[.string (bs (renewM R sv svc).1), errV E (renewM R sv svc).2.1]) ∧ RlmAt w' base a b r (renewM R sv svc).2.2 ∧ Keeps (RlmS a r) w w' := by
  have hq := renew_eq R sv svc
  have hon := Lib.hid (fun m wx (hx : Below w.heap.size w wx) => onM_any (E := E) m wx (hL.below hx).laid (hR.below hx))
  have hop := Lib.hid (fun k (wx : World) (hx : Below w.heap.size w wx) => (show Calls Tryz.prog 14 #[.int .i64 k, .string (bs sv)] wx fun e w' => e = .returned (.tuple #[(openT k sv).1.val, errV E (openT k sv).2]) ∧ Below wx.heap.size wx w' from open_tick k (bs sv) wx (hL.below hx) (by rw [bs_size]; omega)))
  have hlen := Lib.hid (openT_len (getV R.b svc).key sv)
  have hrn := Lib.hid (fun t now til sr wx (hx : Below w.heap.size w wx) (hl : TickLen t) => renew_tick (E := E) t now til sr wx (hL.below hx).laid hl)
  have hmk := Lib.hid (fun k t wx (hx : Below w.heap.size w wx) (hl : TickLen t) => make_tick (E := E) k t wx (hL.below hx) hl)
  have hRw := Lib.hid (fun wx (hx : Below w.heap.size w wx) => hR.below hx)
  have hLw := Lib.hid (fun wx (hx : Below w.heap.size w wx) => hL.below hx)
  have ht0 := hG.t0
  have ht1 := hG.t1
  have hl0 := hG.l0
  have hl1 := hG.l1
  have hs0 := hG.s0
  have hs1 := hG.s1
  have hfin0 := Lib.hid (fun wx (hx : Below w.heap.size w wx) => (show RlmAt wx base a b r R ∧ Keeps (RlmS a r) w wx from ⟨hR.below hx, Keeps.of_below hx⟩))
  have hfin1 := Lib.hid (fun wx (hx : Below w.heap.size w wx) => (show RlmAt (wx.setCell ⟨a, 3, none⟩ (.int .i64 (R.serial + 1))) base a b r { R with serial := R.serial + 1 } ∧ Keeps (RlmS a r) w (wx.setCell ⟨a, 3, none⟩ (.int .i64 (R.serial + 1))) from ⟨((hR.below hx).serial _).1, keepsP_below hx ((hR.below hx).serial _).2⟩))
  have hon1 := Lib.hid (hon.out svc w (Below.refl _ _))
  generalize renewM R sv svc = lm at *
  obtain ⟨rk, rl, rt, rs, rb, rL⟩ := R
  dsimp only at *
  have hwr := Lib.hid (show IntKind.i64.wrap (rt + rl) = rt + rl by rw [IntKind.wrap_i64]; omega)
  generalize hP : getV rb svc = P at *
  generalize onC rb svc = kc at *
  clear hG hR hL hP
  obtain ⟨pn, pk, pe, po⟩ := P
  dsimp only at *
  go_enter Tryz.func20, Tryz.ntmps20
  go_wp2_with fail
  refine hon1.out.mono ?_
  rintro e w1 ⟨rfl, hb⟩
  have hK2 := Lib.hid (hb.alloc hb.size (.cells #[.string (bs pn), .int .i64 pk, .int .i64 pe, .bool po] 46))
  have hbP := heap_alloc_new w1 (.cells #[.string (bs pn), .int .i64 pk, .int .i64 pe, .bool po] 46)
  clear hb hon1
  by_cases hk0 : kc = 0
  case neg =>
    rw [if_pos hk0] at hq
    subst hq
    try dsimp only
    have hfin := Lib.hid (hfin0.out _ hK2.out)
    obtain ⟨T1, x1, hev⟩ := errV_ifc E hk0
    rw [hev]
    clear hbP
    go_wp2_with fail
    go_ret2
    exact ⟨rfl, hfin.out⟩
  subst hk0
  rw [if_neg (by simp)] at hq
  simp only [errV]
  go_upto_region 4 with fail
  generalize w1.heap.size = x8 at *
  generalize w1.alloc (.cells #[.string (bs pn), .int .i64 pk, .int .i64 pe, .bool po] 46) = w2 at *
  obtain ⟨⟨_, p1, _, _⟩, _⟩ := fourC_of hbP
  have hop1 := Lib.hid (hop.out pk w2 hK2.out)
  generalize openT pk sv = ot at *
  obtain ⟨⟨tw, ts, te, tg, tf, tr⟩, oc⟩ := ot
  dsimp only [Tick.val] at *
  have hbP := Lib.hid hbP
  go_wp2_with fail
  refine hop1.out.mono ?_
  rintro e w3 ⟨rfl, hb⟩
  have hx := hb.alloc hb.size (.cells #[.string (bs tw), .string (bs ts), .int .i64 te, .int .i64 tg, .int .i64 tf, .int .i64 tr] 51)
  have hK4 := Lib.hid (below_trans hK2.out hx)
  have hbT := heap_alloc_new w3 (.cells #[.string (bs tw), .string (bs ts), .int .i64 te, .int .i64 tg, .int .i64 tf, .int .i64 tr] 51)
  have hbP := heap_down hx hbP.out
  clear hb hx p1 hop1
  by_cases ho0 : oc = 0
  case neg =>
    rw [if_pos ho0] at hq
    subst hq
    try dsimp only
    have hfin := Lib.hid (hfin0.out _ hK4.out)
    obtain ⟨T1, x1, hev⟩ := errV_ifc E ho0
    rw [hev]
    clear hbT hbP
    go_wp2_with fail
    go_ret2
    exact ⟨rfl, hfin.out⟩
  subst ho0
  rw [if_neg (by simp)] at hq
  simp only [errV]
  go_upto_region 7 with fail
  generalize w3.heap.size = x10 at *
  generalize w3.alloc (.cells #[.string (bs tw), .string (bs ts), .int .i64 te, .int .i64 tg, .int .i64 tf, .int .i64 tr] 51) = w4 at *
  obtain ⟨⟨g0, g1, g2, g3, g4, g5⟩, _⟩ := six_of hbT
  by_cases hsv : ts = svc
  case neg =>
    rw [if_pos hsv] at hq
    subst hq
    try dsimp only
    have he4 := (hLw.out _ hK4.out).laid.e4
    have hfin := Lib.hid (fun k => hfin0.out _ (below_drawn hK4.out k))
    have hse : ((bs ts).toList == (bs svc).toList) = false := bs_beq_ne hsv
    clear hbT hbP
    go_wp2_with fail
    go_quiet (fail)
    go_wp2_with fail
    go_ret2
    exact ⟨rfl, hfin.out _⟩
  rw [if_neg (by simpa using hsv)] at hq
  have hse : ((bs ts).toList == (bs svc).toList) = true := bs_beq_true hsv
  clear hsv
  have hbT := Lib.hid hbT
  have hbP := Lib.hid hbP
  have hon2 := Lib.hid (hon.out tw w4 hK4.out)
  generalize getV rb tw = S at *
  generalize onC rb tw = sc at *
  obtain ⟨qn, qk, qe, qo⟩ := S
  dsimp only at *
  go_wp2_with fail
  refine hon2.out.mono ?_
  rintro e w5 ⟨rfl, hb⟩
  have hx := hb.alloc hb.size (.cells #[.string (bs qn), .int .i64 qk, .int .i64 qe, .bool qo] 46)
  have hK6 := Lib.hid (below_trans hK4.out hx)
  have hbQ := heap_alloc_new w5 (.cells #[.string (bs qn), .int .i64 qk, .int .i64 qe, .bool qo] 46)
  have hbP := heap_down hx hbP.out
  have hbT := heap_down hx hbT.out
  clear hb hx g0 g1 g2 g3 g4 g5 hon2 hse
  by_cases hs0' : sc = 0
  case neg =>
    rw [if_pos hs0'] at hq
    subst hq
    try dsimp only
    have hfin := Lib.hid (hfin0.out _ hK6.out)
    obtain ⟨T1, x1, hev⟩ := errV_ifc E hs0'
    rw [hev]
    clear hbT hbP hbQ
    go_wp2_with fail
    go_ret2
    exact ⟨rfl, hfin.out⟩
  subst hs0'
  rw [if_neg (by simp)] at hq
  simp only [errV]
  go_upto_region 12 with fail
  generalize w5.heap.size = x11 at *
  generalize w5.alloc (.cells #[.string (bs qn), .int .i64 qk, .int .i64 qe, .bool qo] 46) = w6 at *
  obtain ⟨⟨g0, g1, g2, g3, g4, g5⟩, _⟩ := six_of hbT
  obtain ⟨⟨_, _, d2, _⟩, _⟩ := fourC_of hbQ
  by_cases hep : te = qe
  case neg =>
    rw [if_pos hep] at hq
    subst hq
    try dsimp only
    have he13 := (hLw.out _ hK6.out).laid.e13
    have hfin := Lib.hid (fun k => hfin0.out _ (below_drawn hK6.out k))
    clear hbT hbP hbQ
    go_wp2_with fail
    go_quiet (fail)
    go_wp2_with fail
    go_ret2
    exact ⟨rfl, hfin.out _⟩
  subst hep
  rw [if_neg (by simp)] at hq
  obtain ⟨al, cl, ⟨_, c1, c2, c3, _, _⟩, _, _⟩ := (hRw.out _ hK6.out).cells
  dsimp only at c1 c2 c3
  have hTL : TickLen ⟨tw, ts, te, tg, tf, tr⟩ := ⟨Nat.le_trans hlen.out.1 (by decide), Nat.le_trans hlen.out.2 (by decide)⟩
  have hrn2 := Lib.hid (fun wx (hx : Below w6.heap.size w6 wx) => hrn.out ⟨tw, ts, te, tg, tf, tr⟩ rt (rt + rl) rs wx (below_trans hK6.out hx) hTL)
  have hxL := Lib.hid (renewT_lens hTL rt (rt + rl) rs)
  generalize renewT ⟨tw, ts, te, tg, tf, tr⟩ rt (rt + rl) rs = rr at *
  obtain ⟨⟨xw, xs, xe, xg, xf, xr⟩, rc⟩ := rr
  dsimp only [Tick.val] at *
  have hS14 := Lib.hid (fun wx (hx : Below w6.heap.size w6 wx) => (show (wx.cell? ⟨a, 1, none⟩ = some (.int .i64 rl) ∧ wx.cell? ⟨a, 2, none⟩ = some (.int .i64 rt) ∧ wx.cell? ⟨a, 3, none⟩ = some (.int .i64 rs)) ∧ (wx.cell? ⟨x10, 0, none⟩ = some (.string (bs tw)) ∧ wx.cell? ⟨x10, 1, none⟩ = some (.string (bs ts)) ∧ wx.cell? ⟨x10, 2, none⟩ = some (.int .i64 te) ∧ wx.cell? ⟨x10, 3, none⟩ = some (.int .i64 tg) ∧ wx.cell? ⟨x10, 4, none⟩ = some (.int .i64 tf) ∧ wx.cell? ⟨x10, 5, none⟩ = some (.int .i64 tr)) from
    ⟨⟨cell_below hx c1, cell_below hx c2, cell_below hx c3⟩, cell_below hx g0, cell_below hx g1, cell_below hx g2, cell_below hx g3, cell_below hx g4, cell_below hx g5⟩))
  have hD0 := Lib.hid (show Below w6.heap.size w6 w6.drew from (Below.refl _ _).drew)
  have hbP := Lib.hid hbP
  clear hbT hbQ hTL
  go_upto_region 14 with fail
  clear g0 g1 g2 g3 g4 g5 d2 c1 c2 c3
  go_cut [9, 12] from 9 to 79 (fun s9 s12 wx => ∃ xt, s9 = errV E rc ∧ s12 = .pointer (some ⟨xt, 0, none⟩) ∧ Hid (Below w6.heap.size w6 wx ∧ wx.heap[xt]? = some (.cells #[.string (bs xw), .string (bs xs), .int .i64 xe, .int .i64 xg, .int .i64 xf, .int .i64 xr] 51 (0, 0))))
  case first =>
    refine wp_region_noPanic ?_
    refine wp_region_held_drew (S := fun wx => (wx.cell? ⟨a, 1, none⟩ = some (.int .i64 rl) ∧ wx.cell? ⟨a, 2, none⟩ = some (.int .i64 rt) ∧ wx.cell? ⟨a, 3, none⟩ = some (.int .i64 rs)) ∧ (wx.cell? ⟨x10, 0, none⟩ = some (.string (bs tw)) ∧ wx.cell? ⟨x10, 1, none⟩ = some (.string (bs ts)) ∧ wx.cell? ⟨x10, 2, none⟩ = some (.int .i64 te) ∧ wx.cell? ⟨x10, 3, none⟩ = some (.int .i64 tg) ∧ wx.cell? ⟨x10, 4, none⟩ = some (.int .i64 tf) ∧ wx.cell? ⟨x10, 5, none⟩ = some (.int .i64 tr))) (by kernel_rfl) ?_ (fun hHeld => ?_)
    · exact hS14.out _ hD0.out
    refine' held_take (i := 0) (d := some 59) (v := _) rfl rfl (by kernel_rfl) (by kernel_rfl) (by kernel_rfl) (fun _ _ _ h => h) rfl (by assumption) ?hy_1 ?re_1
    case hy_1 =>
      intro w hSw
      try dsimp only at hSw
      go_simp
      try with_reducible rfl
    simp only [Act.put, List.setIfInBounds_toArray, List.set_cons_zero, List.set_cons_succ]
    refine' held_take (i := 1) (d := some 60) (v := _) rfl rfl (by kernel_rfl) (by kernel_rfl) (by kernel_rfl) (fun _ _ _ h => h) rfl (by assumption) ?hy_2 ?re_2
    case hy_2 =>
      intro w hSw
      try dsimp only at hSw
      go_simp
      try with_reducible rfl
    simp only [Act.put, List.setIfInBounds_toArray, List.set_cons_zero, List.set_cons_succ]
    refine' held_take (i := 2) (d := some 61) (v := _) rfl rfl (by kernel_rfl) (by kernel_rfl) (by kernel_rfl) (fun _ _ _ h => h) rfl (by assumption) ?hy_3 ?re_3
    case hy_3 =>
      intro w hSw
      try dsimp only at hSw
      go_simp
      try with_reducible rfl
    simp only [Act.put, List.setIfInBounds_toArray, List.set_cons_zero, List.set_cons_succ]
    refine' held_take (i := 3) (d := some 62) (v := _) rfl rfl (by kernel_rfl) (by kernel_rfl) (by kernel_rfl) (fun _ _ _ h => h) rfl (by assumption) ?hy_4 ?re_4
    case hy_4 =>
      intro w hSw
      try dsimp only at hSw
      go_simp
      try with_reducible rfl
    simp only [Act.put, List.setIfInBounds_toArray, List.set_cons_zero, List.set_cons_succ]
    refine' held_take (i := 4) (d := some 63) (v := _) rfl rfl (by kernel_rfl) (by kernel_rfl) (by kernel_rfl) (fun _ _ _ h => h) rfl (by assumption) ?hy_5 ?re_5
    case hy_5 =>
      intro w hSw
      try dsimp only at hSw
      go_simp
      try with_reducible rfl
    simp only [Act.put, List.setIfInBounds_toArray, List.set_cons_zero, List.set_cons_succ]
    refine' held_take (i := 5) (d := some 64) (v := _) rfl rfl (by kernel_rfl) (by kernel_rfl) (by kernel_rfl) (fun _ _ _ h => h) rfl (by assumption) ?hy_6 ?re_6
    case hy_6 =>
      intro w hSw
      try dsimp only at hSw
      go_simp
      try with_reducible rfl
    simp only [Act.put, List.setIfInBounds_toArray, List.set_cons_zero, List.set_cons_succ]
    refine' held_take (i := 6) (d := some 65) (v := _) rfl rfl (by kernel_rfl) (by kernel_rfl) (by kernel_rfl) (fun _ _ _ h => h) rfl (by assumption) ?hy_7 ?re_7
    case hy_7 =>
      intro w hSw
      try dsimp only at hSw
      go_simp
      try with_reducible rfl
    simp only [Act.put, List.setIfInBounds_toArray, List.set_cons_zero, List.set_cons_succ]
    refine' held_take (i := 7) (d := some 66) (v := _) rfl rfl (by kernel_rfl) (by kernel_rfl) (by kernel_rfl) (fun _ _ _ h => h) rfl (by assumption) ?hy_8 ?re_8
    case hy_8 =>
      intro w hSw
      try dsimp only at hSw
      go_simp
      try with_reducible rfl
    simp only [Act.put, List.setIfInBounds_toArray, List.set_cons_zero, List.set_cons_succ]
    refine' held_take (i := 8) (d := some 67) (v := _) rfl rfl (by kernel_rfl) (by kernel_rfl) (by kernel_rfl) (fun _ _ _ h => h) rfl (by assumption) ?hy_9 ?re_9
    case hy_9 =>
      intro w hSw
      try dsimp only at hSw
      go_simp
      try with_reducible rfl
    simp only [Act.put, List.setIfInBounds_toArray, List.set_cons_zero, List.set_cons_succ]
    refine' held_take (i := 9) (d := some 68) (v := _) rfl rfl (by kernel_rfl) (by kernel_rfl) (by kernel_rfl) (fun _ _ _ h => h) rfl (by assumption) ?hy_10 ?re_10
    case hy_10 =>
      intro w hSw
      try dsimp only at hSw
      go_simp
      try with_reducible rfl
    simp only [Act.put, List.setIfInBounds_toArray, List.set_cons_zero, List.set_cons_succ]
    refine' held_take (i := 10) (d := some 69) (v := _) rfl rfl (by kernel_rfl) (by kernel_rfl) (by kernel_rfl) (fun _ _ _ h => h) rfl (by assumption) ?hy_11 ?re_11
    case hy_11 =>
      intro w hSw
      try dsimp only at hSw
      go_simp
      try with_reducible rfl
    simp only [Act.put, List.setIfInBounds_toArray, List.set_cons_zero, List.set_cons_succ]
    refine' held_take (i := 11) (d := some 70) (v := _) rfl rfl (by kernel_rfl) (by kernel_rfl) (by kernel_rfl) (fun _ _ _ h => h) rfl (by assumption) ?hy_12 ?re_12
    case hy_12 =>
      intro w hSw
      try dsimp only at hSw
      go_simp
      try with_reducible rfl
    simp only [Act.put, List.setIfInBounds_toArray, List.set_cons_zero, List.set_cons_succ]
    refine' held_take (i := 12) (d := some 71) (v := _) rfl rfl (by kernel_rfl) (by kernel_rfl) (by kernel_rfl) (fun _ _ _ h => h) rfl (by assumption) ?hy_13 ?re_13
    case hy_13 =>
      intro w hSw
      try dsimp only at hSw
      go_simp
      try with_reducible rfl
    simp only [Act.put, List.setIfInBounds_toArray, List.set_cons_zero, List.set_cons_succ]
    refine' held_take (i := 13) (d := some 72) (v := _) rfl rfl (by kernel_rfl) (by kernel_rfl) (by kernel_rfl) (fun _ _ _ h => h) rfl (by assumption) ?hy_14 ?re_14
    case hy_14 =>
      intro w hSw
      try dsimp only at hSw
      go_simp
      try with_reducible rfl
    simp only [Act.put, List.setIfInBounds_toArray, List.set_cons_zero, List.set_cons_succ]
    refine' held_take (i := 14) (d := some 73) (v := _) rfl rfl (by kernel_rfl) (by kernel_rfl) (by kernel_rfl) (fun _ _ _ h => h) rfl (by assumption) ?hy_15 ?re_15
    case hy_15 =>
      intro w hSw
      try dsimp only at hSw
      go_simp
      try with_reducible rfl
    simp only [Act.put, List.setIfInBounds_toArray, List.set_cons_zero, List.set_cons_succ]
    refine' held_take (i := 15) (d := some 74) (v := _) rfl rfl (by kernel_rfl) (by kernel_rfl) (by kernel_rfl) (fun _ _ _ h => h) rfl (by assumption) ?hy_16 ?re_16
    case hy_16 =>
      intro w hSw
      try dsimp only at hSw
      go_simp
      try with_reducible rfl
    simp only [Act.put, List.setIfInBounds_toArray, List.set_cons_zero, List.set_cons_succ]
    refine' held_take (i := 16) (d := some 75) (v := _) rfl rfl (by kernel_rfl) (by kernel_rfl) (by kernel_rfl) (fun _ _ _ h => h) rfl (by assumption) ?hy_17 ?re_17
    case hy_17 =>
      intro w hSw
      try dsimp only at hSw
      go_simp
      try with_reducible rfl
    simp only [Act.put, List.setIfInBounds_toArray, List.set_cons_zero, List.set_cons_succ]
    refine' held_take (i := 17) (d := some 76) (v := _) rfl rfl (by kernel_rfl) (by kernel_rfl) (by kernel_rfl) (fun _ _ _ h => h) rfl (by assumption) ?hy_18 ?re_18
    case hy_18 =>
      intro w hSw
      try dsimp only at hSw
      go_simp
      try with_reducible rfl
    simp only [Act.put, List.setIfInBounds_toArray, List.set_cons_zero, List.set_cons_succ]
    refine wpAnyH_ready (rs := [18, 22]) (by kernel_rfl) (by simp) ?_
    refine AllReadyH.cons rfl (fun K hK => ?_) (AllReadyH.cons rfl (fun K hK => ?_) AllReadyH.nil)
    · go_simp
      try rw [hwr.out]
      refine (hrn2.out _ hD0.out).mono ?_
      rintro e wd ⟨rfl, hb⟩
      have hDc := Lib.hid (below_trans hD0.out hb)
      clear hb
      go_wp2_with fail
      refine hK.out _ _ ?_ (fun hHeld => ?_)
      · exact hS14.out _ hDc.out
      clear hK K
      try simp only [Act.put, List.setIfInBounds_toArray, List.set_cons_zero, List.set_cons_succ]
      refine' held_take (i := 19) (d := some 58) (v := _) rfl rfl (by kernel_rfl) (by kernel_rfl) (by kernel_rfl) (fun _ _ _ h => h) rfl (by assumption) ?hy_19 ?re_19
      case hy_19 =>
        intro w hSw
        try dsimp only at hSw
        go_simp
        try with_reducible rfl
      simp only [Act.put, List.setIfInBounds_toArray, List.set_cons_zero, List.set_cons_succ]
      refine' held_take (i := 20) (d := some 78) (v := _) rfl rfl (by kernel_rfl) (by kernel_rfl) (by kernel_rfl) (fun _ _ _ h => h) rfl (by assumption) ?hy_20 ?re_20
      case hy_20 =>
        intro w hSw
        try dsimp only at hSw
        go_simp
        try with_reducible rfl
      simp only [Act.put, List.setIfInBounds_toArray, List.set_cons_zero, List.set_cons_succ]
      refine' held_take (i := 21) (d := some 79) (v := _) rfl rfl (by kernel_rfl) (by kernel_rfl) (by kernel_rfl) (fun _ _ _ h => h) rfl (by assumption) ?hy_21 ?re_21
      case hy_21 =>
        intro w hSw
        try dsimp only at hSw
        go_simp
        try with_reducible rfl
      simp only [Act.put, List.setIfInBounds_toArray, List.set_cons_zero, List.set_cons_succ]
      refine wpAnyH_ready (rs := [22]) (by kernel_rfl) (by simp) ?_
      refine AllReadyH.cons rfl (fun K hK => ?_) AllReadyH.nil
      go_simp
      refine hK.out _ _ ?_ (fun hHeld => ?_)
      · exact hS14.out _ (hDc.out.alloc hDc.out.size (.cells #[.string ⟨#[]⟩, .string ⟨#[]⟩, .int .i64 0, .int .i64 0, .int .i64 0, .int .i64 0] 51))
      clear hK K
      try simp only [Act.put, List.setIfInBounds_toArray, List.set_cons_zero, List.set_cons_succ]
      refine wpAnyH_ready (rs := [23]) (by kernel_rfl) (by simp) ?_
      refine AllReadyH.cons rfl (fun K hK => ?_) AllReadyH.nil
      go_simp
      have hfz := Lib.hid (show Below w6.heap.size w6 (wd.alloc (.cells #[.string (bs xw), .string (bs xs), .int .i64 xe, .int .i64 xg, .int .i64 xf, .int .i64 xr] 51)) ∧ (wd.alloc (.cells #[.string (bs xw), .string (bs xs), .int .i64 xe, .int .i64 xg, .int .i64 xf, .int .i64 xr] 51)).heap[wd.heap.size]? = some (.cells #[.string (bs xw), .string (bs xs), .int .i64 xe, .int .i64 xg, .int .i64 xf, .int .i64 xr] 51 (0, 0)) from ⟨hDc.out.alloc hDc.out.size _, heap_alloc_new wd _⟩)
      refine hK.out _ _ ?_ (fun hHeld => ?_)
      · exact hS14.out _ hfz.out.1
      clear hK K
      try simp only [Act.put, List.setIfInBounds_toArray, List.set_cons_zero, List.set_cons_succ]
      refine' held_take (i := 24) (d := some 9) (v := _) rfl rfl (by kernel_rfl) (by kernel_rfl) (by kernel_rfl) (fun _ _ _ h => h) rfl (by assumption) ?hy_22 ?re_22
      case hy_22 =>
        intro w hSw
        try dsimp only at hSw
        go_simp
        try with_reducible rfl
      simp only [Act.put, List.setIfInBounds_toArray, List.set_cons_zero, List.set_cons_succ]
      refine wpAnyH_done (by kernel_rfl) ?_ _
      refine NoPanic.normal ?_
      go_wp2_with fail
      go_meet
      exact ⟨_, rfl, rfl, hfz⟩
    · go_simp
      have hDa := Lib.hid (((Below.refl w6.heap.size w6).alloc (Nat.le_refl _) (.cells #[.string ⟨#[]⟩, .string ⟨#[]⟩, .int .i64 0, .int .i64 0, .int .i64 0, .int .i64 0] 51)).drew)
      have hba := heap_down ((Below.refl _ _).drew) (heap_alloc_new w6 (.cells #[.string ⟨#[]⟩, .string ⟨#[]⟩, .int .i64 0, .int .i64 0, .int .i64 0, .int .i64 0] 51))
      refine hK.out _ _ ?_ (fun hHeld => ?_)
      · exact hS14.out _ hDa.out
      clear hK K
      try simp only [Act.put, List.setIfInBounds_toArray, List.set_cons_zero, List.set_cons_succ]
      refine wpAnyH_ready (rs := [18]) (by kernel_rfl) (by simp) ?_
      refine AllReadyH.cons rfl (fun K hK => ?_) AllReadyH.nil
      go_simp
      try rw [hwr.out]
      refine (hrn2.out _ hDa.out).mono ?_
      rintro e wd ⟨rfl, hb⟩
      have hDc := Lib.hid (below_trans hDa.out hb)
      have hrow := heap_down hb hba
      obtain ⟨_, f0, f1, f2, f3, f4, f5⟩ := six_of hrow
      have hrow := Lib.hid hrow
      clear hb
      go_wp2_with fail
      refine hK.out _ _ ?_ (fun hHeld => ?_)
      · exact hS14.out _ hDc.out
      clear hK K
      try simp only [Act.put, List.setIfInBounds_toArray, List.set_cons_zero, List.set_cons_succ]
      refine' held_take (i := 19) (d := some 58) (v := _) rfl rfl (by kernel_rfl) (by kernel_rfl) (by kernel_rfl) (fun _ _ _ h => h) rfl (by assumption) ?hy_23 ?re_23
      case hy_23 =>
        intro w hSw
        try dsimp only at hSw
        go_simp
        try with_reducible rfl
      simp only [Act.put, List.setIfInBounds_toArray, List.set_cons_zero, List.set_cons_succ]
      refine' held_take (i := 20) (d := some 78) (v := _) rfl rfl (by kernel_rfl) (by kernel_rfl) (by kernel_rfl) (fun _ _ _ h => h) rfl (by assumption) ?hy_24 ?re_24
      case hy_24 =>
        intro w hSw
        try dsimp only at hSw
        go_simp
        try with_reducible rfl
      simp only [Act.put, List.setIfInBounds_toArray, List.set_cons_zero, List.set_cons_succ]
      refine' held_take (i := 21) (d := some 79) (v := _) rfl rfl (by kernel_rfl) (by kernel_rfl) (by kernel_rfl) (fun _ _ _ h => h) rfl (by assumption) ?hy_25 ?re_25
      case hy_25 =>
        intro w hSw
        try dsimp only at hSw
        go_simp
        try with_reducible rfl
      simp only [Act.put, List.setIfInBounds_toArray, List.set_cons_zero, List.set_cons_succ]
      refine wpAnyH_ready (rs := [23]) (by kernel_rfl) (by simp) ?_
      refine AllReadyH.cons rfl (fun K hK => ?_) AllReadyH.nil
      go_simp
      have hfz := Lib.hid (And.intro (below_set6 hDc.out (Nat.le_refl w6.heap.size) (.string (bs xw)) (.string (bs xs)) (.int .i64 xe) (.int .i64 xg) (.int .i64 xf) (.int .i64 xr)) (row_set6 hrow.out (.string (bs xw)) (.string (bs xs)) (.int .i64 xe) (.int .i64 xg) (.int .i64 xf) (.int .i64 xr)))
      refine hK.out _ _ ?_ (fun hHeld => ?_)
      · exact hS14.out _ hfz.out.1
      clear hK K
      try simp only [Act.put, List.setIfInBounds_toArray, List.set_cons_zero, List.set_cons_succ]
      refine' held_take (i := 24) (d := some 9) (v := _) rfl rfl (by kernel_rfl) (by kernel_rfl) (by kernel_rfl) (fun _ _ _ h => h) rfl (by assumption) ?hy_26 ?re_26
      case hy_26 =>
        intro w hSw
        try dsimp only at hSw
        go_simp
        try with_reducible rfl
      simp only [Act.put, List.setIfInBounds_toArray, List.set_cons_zero, List.set_cons_succ]
      refine wpAnyH_done (by kernel_rfl) ?_ _
      refine NoPanic.normal ?_
      go_wp2_with fail
      go_meet
      exact ⟨_, rfl, rfl, hfz⟩
  obtain ⟨xt, rfl, rfl, hX⟩ := hcut
  obtain ⟨hX1, hX2⟩ := hX.out
  have hK7 := Lib.hid (below_trans hK6.out hX1)
  obtain ⟨⟨_, p1, _, _⟩, _⟩ := fourC_of (heap_down hX1 hbP.out)
  obtain ⟨⟨g0, g1, g2, g3, g4, g5⟩, _⟩ := six_of hX2
  clear hX hX1 hX2 hD0 hS14 hrn2 hbP
  generalize wc = w7 at *
  by_cases hr0 : rc = 0
  case neg =>
    rw [if_pos hr0] at hq
    subst hq
    try dsimp only
    have hfin := Lib.hid (hfin0.out _ hK7.out)
    obtain ⟨T1, x1, hev⟩ := errV_ifc E hr0
    rw [hev]
    go_wp2_with fail
    go_ret2
    exact ⟨rfl, hfin.out⟩
  subst hr0
  rw [if_neg (by simp)] at hq
  simp only [errV]
  have hmk := Lib.hid (hmk.out pk ⟨xw, xs, xe, xg, xf, xr⟩ w7 hK7.out hxL.out)
  generalize makeT pk ⟨xw, xs, xe, xg, xf, xr⟩ = mt at *
  obtain ⟨ms, mc⟩ := mt
  dsimp only [Tick.val] at *
  go_wp2_with fail
  refine hmk.out.mono ?_
  rintro e w8 ⟨rfl, hb⟩
  have hK8 := Lib.hid (below_trans hK7.out hb)
  clear hb hmk g0 g1 g2 g3 g4 g5 p1
  by_cases hmz : mc = 0
  case neg =>
    rw [if_neg hmz] at hq
    subst hq
    try dsimp only
    have hfin := Lib.hid (hfin0.out _ hK8.out)
    obtain ⟨T1, x1, hev⟩ := errV_ifc E hmz
    rw [hev]
    go_wp2_with fail
    go_ret2
    exact ⟨rfl, hfin.out⟩
  subst hmz
  rw [if_pos rfl] at hq
  subst hq
  try dsimp only
  have hfin := Lib.hid (hfin1.out _ hK8.out)
  obtain ⟨al, cl, ⟨_, _, _, c3, _, _⟩, ⟨_, _, _, f3, _, _⟩, _⟩ := (hRw.out _ hK8.out).cells
  try dsimp only at c3
  simp only [errV]
  go_wp2_with fail
  go_ret2
  exact ⟨rfl, hfin.out⟩
end Go.Proofs.YtkhphdkjnpcnnaaGreatDoor
