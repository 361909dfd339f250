/- RlmG, RlmF -/
import Derived.Test.YtkhphdkjnpcnnaaGreatDoorMg13
import Derived.Test.YtkhphdkjnpcnnaaGreatDoorMg16
import Derived.Test.YtkhphdkjnpcnnaaGreatDoorMg8
/- realm.Login: walked. -/
namespace Go.Proofs.YtkhphdkjnpcnnaaGreatDoor
open Go.RowKit

theorem login_eq (R : Rlm) (n : List UInt8) (pr : Int) (svc : List UInt8) : loginM R n pr svc =
    if twoC R.b n svc ≠ 0 then ([], twoC R.b n svc, R)
    else if rightOf (getV R.b n).key (proofM R n) pr ≠ 0 then ([], rightOf (getV R.b n).key (proofM R n) pr, R)
    else if 1000000 ≤ R.time ∨ 1073741824 < R.serial then ([], 2, R)
    else ((makeT (getV R.b svc).key ⟨n, svc, (getV R.b n).epoch, R.time, min (R.time + R.long) 1000000, R.serial⟩).1, (makeT (getV R.b svc).key ⟨n, svc, (getV R.b n).epoch, R.time, min (R.time + R.long) 1000000, R.serial⟩).2,
      if (makeT (getV R.b svc).key ⟨n, svc, (getV R.b n).epoch, R.time, min (R.time + R.long) 1000000, R.serial⟩).2 = 0 then { R with serial := R.serial + 1 } else R) := by
  unfold loginM twoC getV getC
  cases hn : findP R.b n with
  | none => rfl
  | some p =>
    cases hs : findP R.b svc with
    | none => rfl
    | some s =>
      by_cases ho : p.off = true ∨ s.off = true
      · simp [ho]
      · simp [ho]
theorem errV_ifc (E : Nat → Addr) {c : Nat} (h : c ≠ 0) : ∃ T x, errV E c = .iface T x := by
  cases c with
  | zero => exact absurd rfl h
  | succ c => exact ⟨_, _, rfl⟩
theorem twoC_of (L : List Per) (n m : List UInt8) : twoC L n m = 0 ∨ twoC L n m = 5 ∨ twoC L n m = 16 := by
  unfold twoC
  split
  · simp
  · split <;> simp
theorem rightOf_of (k : Int) (s : List UInt8) (n : Int) : rightOf k s n = 0 ∨ rightOf k s n = 9 ∨ rightOf k s n = 10 := by
  have hm : (markOf k s).2 = 0 ∨ (markOf k s).2 = 10 := by unfold markOf; split <;> simp
  unfold rightOf
  split
  · split <;> simp
  · rcases hm with h | h <;> rw [h] <;> simp
set_option maxHeartbeats 4000000 in
set_option maxRecDepth 100000 in
theorem loginM_any {E : Nat → Addr} {base a b r : Nat} {R : Rlm} (n svc : List UInt8) (pr : Int) (w : World) (hL : LaidS E w) (hR : RlmAt w base a b r R) (hG : GoodM R) (hn : n.length ≤ 1000) (hs : svc.length ≤ 1000) :
    Calls Tryz.prog 12 #[.pointer (some ⟨a, 0, none⟩), .string (bs n), .int .i64 pr, .string (bs svc)] w fun e w' => e = .returned (.tuple #[.string (bs (loginM R n pr svc).1), errV E (loginM R n pr svc).2.1]) ∧ RlmAt w' base a b r (loginM R n pr svc).2.2 ∧ Keeps (RlmS a r) w w' := by
  have hq := login_eq R n pr svc
  have htw := Lib.hid (two_any (E := E) n svc w hL.laid hR)
  have hRw := Lib.hid (fun wx (hx : Below w.heap.size w wx) => hR.below hx)
  have hLw := Lib.hid (fun wx (hx : Below w.heap.size w wx) => hL.below hx)
  have hpf := Lib.hid (fun wx (hx : Below w.heap.size w wx) => proof_any (E := E) n wx (hL.below hx) (hR.below hx) hn hG.t0 hG.t1)
  have hrg := Lib.hid (fun k (wx : World) (hx : Below w.heap.size w wx) => (show Calls Tryz.prog 51 #[.int .i64 k, .string (bs (proofM R n)), .int .i64 pr] wx fun e w' => e = .returned (errV E (rightOf k (proofM R n) pr)) ∧ Below wx.heap.size wx w' from right_any k pr (bs (proofM R n)) wx (hL.below hx).laid (by
    rw [bs_size]
    unfold proofM maxLen
    have h1 := hG.t0
    have h2 := hG.t1
    have := itoa_len (n := R.time) (by omega) (by omega)
    rw [List.length_append, List.length_cons]
    omega)))
  have htc := twoC_of R.b n svc
  have ht0 := hG.t0
  have ht1 := hG.t1
  have hl0 := hG.l0
  have hl1 := hG.l1
  have hs0 := hG.s0
  have hs1 := hG.s1
  have hfin0 := Lib.hid (fun wx (hx : Below w.heap.size w wx) => (show RlmAt wx base a b r R ∧ Keeps (RlmS a r) w wx from ⟨hR.below hx, Keeps.of_below hx⟩))
  have hfin1 := Lib.hid (fun wx (hx : Below w.heap.size w wx) => (show RlmAt (wx.setCell ⟨a, 3, none⟩ (.int .i64 (R.serial + 1))) base a b r { R with serial := R.serial + 1 } ∧ Keeps (RlmS a r) w (wx.setCell ⟨a, 3, none⟩ (.int .i64 (R.serial + 1))) from ⟨((hR.below hx).serial _).1, keepsP_below hx ((hR.below hx).serial _).2⟩))
  have hrt := rightOf_of (getV R.b n).key (proofM R n) pr
  generalize proofM R n = pf at *
  generalize loginM R n pr svc = lm at *
  obtain ⟨rk, rl, rt, rs, rb, rL⟩ := R
  dsimp only at *
  generalize hP : getV rb n = P at *
  generalize hS : getV rb svc = S at *
  generalize twoC rb n svc = tc at *
  clear hG hR hL hP hS
  obtain ⟨pn, pk, pe, po⟩ := P
  obtain ⟨qn, qk, qe, qo⟩ := S
  dsimp only at *
  have hAl := Lib.hid (fun wx (hx : Below w.heap.size w wx) => (hx.alloc hx.size (.cells #[.string (bs pn), .int .i64 pk, .int .i64 pe, .bool po] 46)).alloc (Nat.le_trans hx.size (by simp)) (.cells #[.string (bs qn), .int .i64 qk, .int .i64 qe, .bool qo] 46))
  by_cases htz : tc = 0
  case neg =>
    rw [if_pos htz] at hq
    subst hq
    dsimp only
    rcases htc with rfl | rfl | rfl
    · exact absurd rfl htz
    all_goals
      clear hrt
      go_enter Tryz.func12, Tryz.ntmps12
      go_wp2_with fail
      refine htw.out.mono ?_
      rintro e w1 ⟨rfl, hb⟩
      have hfin := Lib.hid (hfin0.out _ (hAl.out _ hb))
      clear hb
      simp only [errV]
      go_wp2_with fail
      go_ret2
      exact ⟨rfl, hfin.out⟩
  subst htz
  rw [if_neg (by simp)] at hq
  have hrg := Lib.hid (hrg.out pk)
  generalize hkk : rightOf pk pf pr = kk at *
  go_enter Tryz.func12, Tryz.ntmps12
  go_wp2_with fail
  refine htw.out.mono ?_
  rintro e w1 ⟨rfl, hb⟩
  have hK2 := Lib.hid (hAl.out _ hb)
  have hbP := heap_down ((Below.refl _ _).alloc (Nat.le_refl _) (.cells #[.string (bs qn), .int .i64 qk, .int .i64 qe, .bool qo] 46)) (heap_alloc_new w1 (.cells #[.string (bs pn), .int .i64 pk, .int .i64 pe, .bool po] 46))
  have hbQ := heap_alloc_new (w1.alloc (.cells #[.string (bs pn), .int .i64 pk, .int .i64 pe, .bool po] 46)) (.cells #[.string (bs qn), .int .i64 qk, .int .i64 qe, .bool qo] 46)
  rw [World.size_alloc] at hbQ
  clear hb htw hAl
  simp only [errV]
  go_upto_region 4 with fail
  generalize w1.heap.size = xb at *
  generalize (w1.alloc (.cells #[.string (bs pn), .int .i64 pk, .int .i64 pe, .bool po] 46)).alloc (.cells #[.string (bs qn), .int .i64 qk, .int .i64 qe, .bool qo] 46) = w2 at *
  have hPw := Lib.hid (fun wx (hx : Below w2.heap.size w2 wx) => (fourC_of (heap_down hx hbP)).1)
  have hQw := Lib.hid (fun wx (hx : Below w2.heap.size w2 wx) => (fourC_of (heap_down hx hbQ)).1)
  have hkS := Lib.hid (fun wx (hx : Below w2.heap.size w2 wx) => (hPw.out wx hx).2.1)
  have hpf := Lib.hid (fun wx (hx : Below w2.heap.size w2 wx) => hpf.out wx (below_trans hK2.out hx))
  have hrg := Lib.hid (fun wx (hx : Below w2.heap.size w2 wx) => hrg.out wx (below_trans hK2.out hx))
  have hD0 := Lib.hid (show Below w2.heap.size w2 w2.drew from (Below.refl _ _).drew)
  clear hbP hbQ
  go_cut [13] from 13 to 33 (fun s13 wx => s13 = errV E kk ∧ Hid (Below w2.heap.size w2 wx))
  case first =>
    refine wp_region_noPanic ?_
    refine wp_region_held_drew (S := fun wx => wx.cell? ⟨xb, 1, none⟩ = some (.int .i64 pk)) (by kernel_rfl) ?_ (fun hHeld => ?_)
    · exact hkS.out _ hD0.out
    refine' held_take (i := 0) (d := some 27) (v := _) rfl rfl (by kernel_rfl) (by kernel_rfl) (by kernel_rfl) (fun _ _ _ h => h) rfl (by assumption) ?hy_1 ?re_1
    case hy_1 =>
      intro w hSw
      try dsimp only at hSw
      go_simp
      try with_reducible rfl
    simp only [Act.put, List.setIfInBounds_toArray, List.set_cons_zero, List.set_cons_succ]
    refine' held_take (i := 1) (d := some 28) (v := _) rfl rfl (by kernel_rfl) (by kernel_rfl) (by kernel_rfl) (fun _ _ _ h => h) rfl (by assumption) ?hy_2 ?re_2
    case hy_2 =>
      intro w hSw
      try dsimp only at hSw
      go_simp
      try with_reducible rfl
    simp only [Act.put, List.setIfInBounds_toArray, List.set_cons_zero, List.set_cons_succ]
    refine' held_take (i := 2) (d := some 29) (v := _) rfl rfl (by kernel_rfl) (by kernel_rfl) (by kernel_rfl) (fun _ _ _ h => h) rfl (by assumption) ?hy_3 ?re_3
    case hy_3 =>
      intro w hSw
      try dsimp only at hSw
      go_simp
      try with_reducible rfl
    simp only [Act.put, List.setIfInBounds_toArray, List.set_cons_zero, List.set_cons_succ]
    refine' held_take (i := 3) (d := some 30) (v := _) rfl rfl (by kernel_rfl) (by kernel_rfl) (by kernel_rfl) (fun _ _ _ h => h) rfl (by assumption) ?hy_4 ?re_4
    case hy_4 =>
      intro w hSw
      try dsimp only at hSw
      go_simp
      try with_reducible rfl
    simp only [Act.put, List.setIfInBounds_toArray, List.set_cons_zero, List.set_cons_succ]
    refine' held_take (i := 5) (d := some 32) (v := _) rfl rfl (by kernel_rfl) (by kernel_rfl) (by kernel_rfl) (fun _ _ _ h => h) rfl (by assumption) ?hy_5 ?re_5
    case hy_5 =>
      intro w hSw
      try dsimp only at hSw
      go_simp
      try with_reducible rfl
    simp only [Act.put, List.setIfInBounds_toArray, List.set_cons_zero, List.set_cons_succ]
    refine wpAnyH_ready (rs := [4]) (by kernel_rfl) (by simp) ?_
    refine AllReadyH.cons rfl (fun K hK => ?_) AllReadyH.nil
    go_simp
    refine (hpf.out _ hD0.out).mono ?_
    rintro e wd1 ⟨rfl, hb⟩
    have hD1 := Lib.hid (below_trans hD0.out hb)
    clear hb
    go_wp2_with fail
    refine hK.out _ _ ?_ (fun hHeld => ?_)
    · exact hkS.out _ hD1.out
    clear hK K
    try simp only [Act.put, List.setIfInBounds_toArray, List.set_cons_zero, List.set_cons_succ]
    refine wpAnyH_ready (rs := [6]) (by kernel_rfl) (by simp) ?_
    refine AllReadyH.cons rfl (fun K hK => ?_) AllReadyH.nil
    go_simp
    refine (hrg.out _ hD1.out).mono ?_
    rintro e wd2 ⟨rfl, hb⟩
    have hD2 := Lib.hid (below_trans hD1.out hb)
    clear hb
    go_wp2_with fail
    refine hK.out _ _ ?_ (fun hHeld => ?_)
    · exact hkS.out _ hD2.out
    clear hK K
    try simp only [Act.put, List.setIfInBounds_toArray, List.set_cons_zero, List.set_cons_succ]
    refine' held_take (i := 7) (d := some 13) (v := _) rfl rfl (by kernel_rfl) (by kernel_rfl) (by kernel_rfl) (fun _ _ _ h => h) rfl (by assumption) ?hy_6 ?re_6
    case hy_6 =>
      intro w hSw
      try dsimp only at hSw
      go_simp
      try with_reducible rfl
    simp only [Act.put, List.setIfInBounds_toArray, List.set_cons_zero, List.set_cons_succ]
    refine wpAnyH_done (by kernel_rfl) ?_ _
    refine NoPanic.normal ?_
    go_wp2_with fail
    go_meet
    exact ⟨rfl, hD2⟩
  obtain ⟨rfl, hX⟩ := hcut
  have hK3 := Lib.hid (below_trans hK2.out hX.out)
  obtain ⟨_, _, p2, _⟩ := hPw.out _ hX.out
  obtain ⟨_, q1, _, _⟩ := hQw.out _ hX.out
  clear hX hD0 hkS hpf hrg hPw hQw hK2
  generalize wc = w3 at *
  by_cases hk0 : kk = 0
  case neg =>
    rw [if_pos hk0] at hq
    subst hq
    try dsimp only
    have hfin := Lib.hid (hfin0.out _ hK3.out)
    rcases hrt with rfl | rfl | rfl
    · exact absurd rfl hk0
    all_goals
      simp only [errV]
      go_wp2_with fail
      go_ret2
      exact ⟨rfl, hfin.out⟩
  subst hk0
  rw [if_neg (by simp)] at hq
  simp only [errV]
  obtain ⟨al, cl, ⟨_, c1, c2, c3, c4, _⟩, _, _⟩ := (hRw.out _ hK3.out).cells
  dsimp only at c1 c2 c3
  by_cases ht : 1000000 ≤ rt ∨ 1073741824 < rs
  · rw [if_pos ht] at hq
    subst hq
    try dsimp only
    have he2 := (hLw.out _ hK3.out).laid.e2
    have hfin := Lib.hid (fun k => hfin0.out _ (below_drawn hK3.out k))
    by_cases ht2 : 1000000 ≤ rt
    · clear ht
      go_wp2_with fail
      go_quiet (fail)
      go_wp2_with fail
      go_ret2
      exact ⟨rfl, hfin.out _⟩
    · have ht : 1073741824 < rs := by omega
      go_wp2_with fail
      go_quiet (fail)
      go_wp2_with fail
      go_ret2
      exact ⟨rfl, hfin.out _⟩
  rw [if_neg ht] at hq
  have ht2 : ¬ 1000000 ≤ rt := by omega
  have ht3 : ¬ 1073741824 < rs := by omega
  clear ht
  go_upto_region 9 with fail
  have hwr := Lib.hid (show IntKind.i64.wrap (rt + rl) = rt + rl from by rw [IntKind.wrap_i64]; omega)
  have hS9 := Lib.hid (fun wx (hx : Below w3.heap.size w3 wx) => (show (wx.cell? ⟨a, 1, none⟩ = some (.int .i64 rl) ∧ wx.cell? ⟨a, 2, none⟩ = some (.int .i64 rt) ∧ wx.cell? ⟨a, 3, none⟩ = some (.int .i64 rs)) ∧ wx.cell? ⟨xb, 2, none⟩ = some (.int .i64 pe) from ⟨⟨cell_below hx c1, cell_below hx c2, cell_below hx c3⟩, cell_below hx p2⟩))
  have hD0 := Lib.hid (show Below w3.heap.size w3 w3.drew from (Below.refl _ _).drew)
  go_cut [14] from 14 to 72 (fun s14 wx => ∃ xt, s14 = .pointer (some ⟨xt, 0, none⟩) ∧ Hid (Below w3.heap.size w3 wx ∧ wx.heap[xt]? = some (.cells #[.string (bs n), .string (bs svc), .int .i64 pe, .int .i64 rt, .int .i64 (min (rt + rl) 1000000), .int .i64 rs] 51 (0, 0))))
  case first =>
    refine wp_region_noPanic ?_
    refine wp_region_held_drew (S := fun wx => (wx.cell? ⟨a, 1, none⟩ = some (.int .i64 rl) ∧ wx.cell? ⟨a, 2, none⟩ = some (.int .i64 rt) ∧ wx.cell? ⟨a, 3, none⟩ = some (.int .i64 rs)) ∧ wx.cell? ⟨xb, 2, none⟩ = some (.int .i64 pe)) (by kernel_rfl) ?_ (fun hHeld => ?_)
    · exact hS9.out _ hD0.out
    refine' held_take (i := 0) (d := some 50) (v := _) rfl rfl (by kernel_rfl) (by kernel_rfl) (by kernel_rfl) (fun _ _ _ h => h) rfl (by assumption) ?hy_7 ?re_7
    case hy_7 =>
      intro w hSw
      try dsimp only at hSw
      go_simp
      try with_reducible rfl
    simp only [Act.put, List.setIfInBounds_toArray, List.set_cons_zero, List.set_cons_succ]
    refine' held_take (i := 1) (d := some 51) (v := _) rfl rfl (by kernel_rfl) (by kernel_rfl) (by kernel_rfl) (fun _ _ _ h => h) rfl (by assumption) ?hy_8 ?re_8
    case hy_8 =>
      intro w hSw
      try dsimp only at hSw
      go_simp
      try with_reducible rfl
    simp only [Act.put, List.setIfInBounds_toArray, List.set_cons_zero, List.set_cons_succ]
    refine' held_take (i := 2) (d := some 52) (v := _) rfl rfl (by kernel_rfl) (by kernel_rfl) (by kernel_rfl) (fun _ _ _ h => h) rfl (by assumption) ?hy_9 ?re_9
    case hy_9 =>
      intro w hSw
      try dsimp only at hSw
      go_simp
      try with_reducible rfl
    simp only [Act.put, List.setIfInBounds_toArray, List.set_cons_zero, List.set_cons_succ]
    refine' held_take (i := 3) (d := some 53) (v := _) rfl rfl (by kernel_rfl) (by kernel_rfl) (by kernel_rfl) (fun _ _ _ h => h) rfl (by assumption) ?hy_10 ?re_10
    case hy_10 =>
      intro w hSw
      try dsimp only at hSw
      go_simp
      try with_reducible rfl
    simp only [Act.put, List.setIfInBounds_toArray, List.set_cons_zero, List.set_cons_succ]
    refine' held_take (i := 4) (d := some 54) (v := _) rfl rfl (by kernel_rfl) (by kernel_rfl) (by kernel_rfl) (fun _ _ _ h => h) rfl (by assumption) ?hy_11 ?re_11
    case hy_11 =>
      intro w hSw
      try dsimp only at hSw
      go_simp
      try with_reducible rfl
    simp only [Act.put, List.setIfInBounds_toArray, List.set_cons_zero, List.set_cons_succ]
    refine' held_take (i := 5) (d := some 55) (v := _) rfl rfl (by kernel_rfl) (by kernel_rfl) (by kernel_rfl) (fun _ _ _ h => h) rfl (by assumption) ?hy_12 ?re_12
    case hy_12 =>
      intro w hSw
      try dsimp only at hSw
      go_simp
      try with_reducible rfl
    simp only [Act.put, List.setIfInBounds_toArray, List.set_cons_zero, List.set_cons_succ]
    refine' held_take (i := 6) (d := some 56) (v := _) rfl rfl (by kernel_rfl) (by kernel_rfl) (by kernel_rfl) (fun _ _ _ h => h) rfl (by assumption) ?hy_13 ?re_13
    case hy_13 =>
      intro w hSw
      try dsimp only at hSw
      go_simp
      try with_reducible rfl
    simp only [Act.put, List.setIfInBounds_toArray, List.set_cons_zero, List.set_cons_succ]
    refine' held_take (i := 7) (d := some 57) (v := _) rfl rfl (by kernel_rfl) (by kernel_rfl) (by kernel_rfl) (fun _ _ _ h => h) rfl (by assumption) ?hy_14 ?re_14
    case hy_14 =>
      intro w hSw
      try dsimp only at hSw
      go_simp
      try with_reducible rfl
    simp only [Act.put, List.setIfInBounds_toArray, List.set_cons_zero, List.set_cons_succ]
    refine' held_take (i := 8) (d := some 58) (v := _) rfl rfl (by kernel_rfl) (by kernel_rfl) (by kernel_rfl) (fun _ _ _ h => h) rfl (by assumption) ?hy_15 ?re_15
    case hy_15 =>
      intro w hSw
      try dsimp only at hSw
      go_simp
      try with_reducible rfl
    simp only [Act.put, List.setIfInBounds_toArray, List.set_cons_zero, List.set_cons_succ]
    refine' held_take (i := 9) (d := some 59) (v := _) rfl rfl (by kernel_rfl) (by kernel_rfl) (by kernel_rfl) (fun _ _ _ h => h) rfl (by assumption) ?hy_16 ?re_16
    case hy_16 =>
      intro w hSw
      try dsimp only at hSw
      go_simp
      try with_reducible rfl
    simp only [Act.put, List.setIfInBounds_toArray, List.set_cons_zero, List.set_cons_succ]
    refine' held_take (i := 10) (d := some 60) (v := _) rfl rfl (by kernel_rfl) (by kernel_rfl) (by kernel_rfl) (fun _ _ _ h => h) rfl (by assumption) ?hy_17 ?re_17
    case hy_17 =>
      intro w hSw
      try dsimp only at hSw
      go_simp
      try with_reducible rfl
    simp only [Act.put, List.setIfInBounds_toArray, List.set_cons_zero, List.set_cons_succ]
    refine' held_take (i := 11) (d := some 61) (v := _) rfl rfl (by kernel_rfl) (by kernel_rfl) (by kernel_rfl) (fun _ _ _ h => h) rfl (by assumption) ?hy_18 ?re_18
    case hy_18 =>
      intro w hSw
      try dsimp only at hSw
      go_simp
      try with_reducible rfl
    simp only [Act.put, List.setIfInBounds_toArray, List.set_cons_zero, List.set_cons_succ]
    refine' held_take (i := 12) (d := some 62) (v := _) rfl rfl (by kernel_rfl) (by kernel_rfl) (by kernel_rfl) (fun _ _ _ h => h) rfl (by assumption) ?hy_19 ?re_19
    case hy_19 =>
      intro w hSw
      try dsimp only at hSw
      go_simp
      try with_reducible rfl
    simp only [Act.put, List.setIfInBounds_toArray, List.set_cons_zero, List.set_cons_succ]
    refine' held_take (i := 13) (d := some 63) (v := _) rfl rfl (by kernel_rfl) (by kernel_rfl) (by kernel_rfl) (fun _ _ _ h => h) rfl (by assumption) ?hy_20 ?re_20
    case hy_20 =>
      intro w hSw
      try dsimp only at hSw
      go_simp
      try with_reducible rfl
    simp only [Act.put, List.setIfInBounds_toArray, List.set_cons_zero, List.set_cons_succ]
    refine' held_take (i := 14) (d := some 64) (v := _) rfl rfl (by kernel_rfl) (by kernel_rfl) (by kernel_rfl) (fun _ _ _ h => h) rfl (by assumption) ?hy_21 ?re_21
    case hy_21 =>
      intro w hSw
      try dsimp only at hSw
      go_simp
      try with_reducible rfl
    simp only [Act.put, List.setIfInBounds_toArray, List.set_cons_zero, List.set_cons_succ]
    refine' held_take (i := 15) (d := some 65) (v := _) rfl rfl (by kernel_rfl) (by kernel_rfl) (by kernel_rfl) (fun _ _ _ h => h) rfl (by assumption) ?hy_22 ?re_22
    case hy_22 =>
      intro w hSw
      try dsimp only at hSw
      go_simp
      try with_reducible rfl
    simp only [Act.put, List.setIfInBounds_toArray, List.set_cons_zero, List.set_cons_succ]
    refine' held_take (i := 16) (d := some 66) (v := _) rfl rfl (by kernel_rfl) (by kernel_rfl) (by kernel_rfl) (fun _ _ _ h => h) rfl (by assumption) ?hy_23 ?re_23
    case hy_23 =>
      intro w hSw
      try dsimp only at hSw
      go_simp
      try with_reducible rfl
    simp only [Act.put, List.setIfInBounds_toArray, List.set_cons_zero, List.set_cons_succ]
    refine' held_take (i := 17) (d := some 67) (v := _) rfl rfl (by kernel_rfl) (by kernel_rfl) (by kernel_rfl) (fun _ _ _ h => h) rfl (by assumption) ?hy_24 ?re_24
    case hy_24 =>
      intro w hSw
      try dsimp only at hSw
      go_simp
      try with_reducible rfl
    simp only [Act.put, List.setIfInBounds_toArray, List.set_cons_zero, List.set_cons_succ]
    refine' held_take (i := 18) (d := some 68) (v := _) rfl rfl (by kernel_rfl) (by kernel_rfl) (by kernel_rfl) (fun _ _ _ h => h) rfl (by assumption) ?hy_25 ?re_25
    case hy_25 =>
      intro w hSw
      try dsimp only at hSw
      go_simp
      try with_reducible rfl
    simp only [Act.put, List.setIfInBounds_toArray, List.set_cons_zero, List.set_cons_succ]
    refine' held_take (i := 19) (d := some 69) (v := _) rfl rfl (by kernel_rfl) (by kernel_rfl) (by kernel_rfl) (fun _ _ _ h => h) rfl (by assumption) ?hy_26 ?re_26
    case hy_26 =>
      intro w hSw
      try dsimp only at hSw
      go_simp
      try with_reducible rfl
    simp only [Act.put, List.setIfInBounds_toArray, List.set_cons_zero, List.set_cons_succ]
    refine' held_take (i := 20) (d := some 70) (v := _) rfl rfl (by kernel_rfl) (by kernel_rfl) (by kernel_rfl) (fun _ _ _ h => h) rfl (by assumption) ?hy_27 ?re_27
    case hy_27 =>
      intro w hSw
      try dsimp only at hSw
      go_simp
      try with_reducible rfl
    simp only [Act.put, List.setIfInBounds_toArray, List.set_cons_zero, List.set_cons_succ]
    refine' held_take (i := 21) (d := some 71) (v := _) rfl rfl (by kernel_rfl) (by kernel_rfl) (by kernel_rfl) (fun _ _ _ h => h) rfl (by assumption) ?hy_28 ?re_28
    case hy_28 =>
      intro w hSw
      try dsimp only at hSw
      go_simp
      try with_reducible rfl
    simp only [Act.put, List.setIfInBounds_toArray, List.set_cons_zero, List.set_cons_succ]
    refine' held_take (i := 22) (d := some 72) (v := _) rfl rfl (by kernel_rfl) (by kernel_rfl) (by kernel_rfl) (fun _ _ _ h => h) rfl (by assumption) ?hy_29 ?re_29
    case hy_29 =>
      intro w hSw
      try dsimp only at hSw
      go_simp
      try with_reducible rfl
    simp only [Act.put, List.setIfInBounds_toArray, List.set_cons_zero, List.set_cons_succ]
    refine wpAnyH_ready (rs := [23]) (by kernel_rfl) (by simp) ?_
    refine AllReadyH.cons rfl (fun K hK => ?_) AllReadyH.nil
    go_simp
    refine hK.out _ _ ?_ (fun hHeld => ?_)
    · exact hS9.out _ ((Below.refl _ _).alloc (Nat.le_refl _) _).drew
    clear hK K
    try simp only [Act.put, List.setIfInBounds_toArray, List.set_cons_zero, List.set_cons_succ]
    refine wpAnyH_ready (rs := [24]) (by kernel_rfl) (by simp) ?_
    refine AllReadyH.cons rfl (fun K hK => ?_) AllReadyH.nil
    go_simp
    refine hK.out _ _ ?_ (fun hHeld => ?_)
    · exact hS9.out _ ((Below.refl _ _).alloc (Nat.le_refl _) _).drew
    clear hK K
    try simp only [Act.put, List.setIfInBounds_toArray, List.set_cons_zero, List.set_cons_succ]
    refine wpAnyH_done (by kernel_rfl) ?_ _
    refine NoPanic.normal ?_
    go_wp2_with fail
    go_meet
    exact ⟨_, rfl, Lib.hid ⟨((Below.refl _ _).alloc (Nat.le_refl _) _).drew, by rw [hwr.out]; exact heap_down ((Below.refl _ _).drew) (heap_alloc_new w3 _)⟩⟩
  obtain ⟨xt, rfl, hX⟩ := hcut
  obtain ⟨hX1, hX2⟩ := hX.out
  have hK5 := Lib.hid (below_trans hK3.out hX1)
  obtain ⟨⟨x0, x1, x2, x3, x4, x5⟩, _⟩ := six_of hX2
  have q1 := cell_below hX1 q1
  generalize hTd : min (rt + rl) 1000000 = tl at *
  have hmk := Lib.hid (make_tick (E := E) qk ⟨n, svc, pe, rt, tl, rs⟩ wc (hLw.out _ hK5.out) ⟨Nat.le_trans hn (by decide), Nat.le_trans hs (by decide)⟩)
  generalize makeT qk ⟨n, svc, pe, rt, tl, rs⟩ = mt at *
  obtain ⟨ms, mc⟩ := mt
  dsimp only [Tick.val, Tick.cells] at *
  clear hX hX1 hX2 hD0 hS9 c1 c2 c3 c4 p2
  generalize wc = w5 at *
  go_wp2_with fail
  refine hmk.out.mono ?_
  rintro e w6 ⟨rfl, hb⟩
  have hK6 := Lib.hid (below_trans hK5.out hb)
  clear hb hmk x0 x1 x2 x3 x4 x5 q1
  by_cases hmz : mc = 0
  case neg =>
    rw [if_neg hmz] at hq
    subst hq
    try dsimp only
    have hfin := Lib.hid (hfin0.out _ hK6.out)
    obtain ⟨T1, x1, hev⟩ := errV_ifc E hmz
    rw [hev]
    go_wp2_with fail
    go_ret2
    exact ⟨rfl, hfin.out⟩
  subst hmz
  rw [if_pos rfl] at hq
  subst hq
  try dsimp only
  have hfin := Lib.hid (hfin1.out _ hK6.out)
  obtain ⟨al, cl, ⟨_, _, _, c3, _, _⟩, ⟨_, _, _, f3, _, _⟩, _⟩ := (hRw.out _ hK6.out).cells
  try dsimp only at c3
  simp only [errV]
  go_wp2_with fail
  go_ret2
  exact ⟨rfl, hfin.out⟩
end Go.Proofs.YtkhphdkjnpcnnaaGreatDoor

/- A realm's floors: plain: no program in sight. -/
namespace Go.Proofs.YtkhphdkjnpcnnaaGreatDoor

theorem nodup_le : ∀ (L M : List (List UInt8)), L.Nodup → (∀ x ∈ L, x ∈ M) → L.length ≤ M.length
  | [], M, _, _ => Nat.zero_le _
  | x :: L, M, hn, hs => by
    have hn' := List.nodup_cons.1 hn
    have hx := hs x (by simp)
    have h1 := nodup_le L (M.erase x) hn'.2 (fun y hy => (List.mem_erase_of_ne (fun (e : y = x) => hn'.1 (by rw [← e]; exact hy))).2 (hs y (by simp [hy])))
    rw [List.length_erase_of_mem hx] at h1
    have : 0 < M.length := List.length_pos_of_mem hx
    rw [List.length_cons]
    omega
theorem upF_mem2 {L : List Flo} {f g : Flo} (h : g ∈ upF L f) : g = f ∨ g ∈ L := by
  unfold upF at h
  split at h
  · exact .inr h
  · rcases (insF_mem f g _).1 h with rfl | h
    · exact .inl rfl
    · exact .inr (List.mem_filter.1 h).1
theorem good0_len {L : List Flo} {N : List (List UInt8)} (h : Good0 L) (hN : ∀ f ∈ L, f.who ∈ N) : L.length ≤ N.length := by
  have h1 : (L.map Flo.who).Nodup := List.pairwise_map.2 (h.sorted.imp fun hlt e => by rw [e] at hlt; exact List.lt_irrefl _ hlt)
  have := nodup_le _ N h1 (fun x hx => by
    obtain ⟨f, hf, rfl⟩ := List.mem_map.1 hx
    exact hN f hf)
  rwa [List.length_map] at this
/-- What counts for a name, entry by entry. -/
def upTo (l : List Ent) (n : List UInt8) (m : Int) : Int := l.foldl (fun m e => if e.f.who = starW ∨ n = e.f.who then max m e.f.ep else m) m
theorem upTo_snoc (l : List Ent) (e : Ent) (n : List UInt8) (m : Int) : upTo (l ++ [e]) n m = if e.f.who = starW ∨ n = e.f.who then max (upTo l n m) e.f.ep else upTo l n m := by
  unfold upTo
  rw [List.foldl_append]
  rfl
theorem upTo_le {l : List Ent} {n : List UInt8} {m x : Int} (hm : m ≤ x) (h : ∀ e ∈ l, e.f.who = starW ∨ n = e.f.who → e.f.ep ≤ x) : upTo l n m ≤ x := by
  induction l using snoc_ind with
  | nil => exact hm
  | snoc l e ih =>
    rw [upTo_snoc]
    have h1 := ih (fun e he => h e (List.mem_append_left _ he))
    split
    · rename_i h2
      have := h e (by simp) h2
      omega
    · exact h1
theorem foldR_all {N : List (List UInt8)} (hl : N.length ≤ 21) : ∀ (l : List Ent) (out : List Flo), (∀ e ∈ l, e.f.who ∈ N ∧ oneF e.f = 0) → GoodF out → (∀ f ∈ out, f.who ∈ N) →
    (foldR out l).2 = 0 ∧ GoodF (foldR out l).1 ∧ ∀ n, ofF (foldR out l).1 n = upTo l n (ofF out n)
  | [], out, _, hg, _ => ⟨rfl, hg, fun n => rfl⟩
  | e :: l, out, h, hg, hN => by
    obtain ⟨h1, h2⟩ := h e (by simp)
    obtain ⟨h3, h4⟩ := upF_all hg.g h2
    have h5 : ∀ f ∈ upF out e.f, f.who ∈ N := fun f hf => by
      rcases upF_mem2 hf with rfl | hf
      · exact h1
      · exact hN f hf
    have h6 : (upF out e.f).length ≤ 21 := Nat.le_trans (good0_len h3 h5) hl
    have h7 : raiseF out e.f = (upF out e.f, 0, -1) := by
      unfold raiseF
      rw [if_pos (by rw [check_goodF hg]), if_pos h2, if_neg (by omega)]
    obtain ⟨a1, a2, a3⟩ := foldR_all hl l (upF out e.f) (fun x hx => h x (by simp [hx])) ⟨h3, h6⟩ h5
    rw [foldR, h7, if_pos rfl]
    refine ⟨a1, a2, fun n => ?_⟩
    rw [a3, h4]
    rfl
theorem GoodM.one {R : Rlm} (h : GoodM R) : ∀ e ∈ R.l, oneF e.f = 0 := fun e he => by
  obtain ⟨i, hi, rfl⟩ := List.getElem_of_mem he
  have := (time_of (L := R.l) (by rw [h.f]) hi).2.2.2
  rwa [getD_get hi] at this
/-- The floors of a realm's feed. -/
theorem GoodM.floors {R : Rlm} (h : GoodM R) : ∃ F, floorsE R.l = (F, 0, -1) ∧ GoodF F ∧ ∀ n, ofF F n = upTo R.l n 0 := by
  obtain ⟨h1, h2, h3⟩ := foldR_all (N := starW :: R.b.map Per.name) (by have := h.b.many; rw [List.length_cons, List.length_map]; omega) R.l [] (fun e he => ⟨by
    rcases h.names e he with h4 | ⟨p, hp, h4, _⟩
    · rw [h4]; simp
    · rw [← h4]; exact List.mem_cons_of_mem _ (List.mem_map.2 ⟨p, hp, rfl⟩), h.one e he⟩) goodF_nil (fun f hf => by cases hf)
  refine ⟨_, ?_, h2, h3⟩
  unfold floorsE
  rw [if_pos (by rw [h.f]), h1]
theorem GoodM.up_le {R : Rlm} (h : GoodM R) {p : Per} (hp : p ∈ R.b) : upTo R.l p.name 0 ≤ p.epoch := by
  refine upTo_le (by have := (h.b.epoch p hp).1; omega) fun e he hx => ?_
  rcases hx with hs | hn
  · have h1 := starE_le R.l e he hs
    have h2 := h.top p hp
    omega
  · rcases h.names e he with h4 | ⟨q, hq, h4, h5⟩
    · have h1 := starE_le R.l e he h4
      have h2 := h.top p hp
      omega
    · have := sorted_name_inj h.b.sorted q hq p hp (h4.trans hn.symm)
      rw [← this]
      exact h5
/-- One who is not there: only what is of all counts. -/
theorem GoodM.up_new {R : Rlm} (h : GoodM R) {c : List UInt8} (hc : ∀ p ∈ R.b, p.name ≠ c) : upTo R.l c 0 ≤ starE R.l := by
  refine upTo_le (by have := starE_pos R.l; omega) fun e he hx => ?_
  rcases hx with hs | hn
  · exact starE_le R.l e he hs
  · rcases h.names e he with h4 | ⟨q, hq, h4, h5⟩
    · exact starE_le R.l e he h4
    · exact absurd (h4.trans hn.symm) (hc q hq)
theorem GoodM.star_le {R : Rlm} (h : GoodM R) : starE R.l ≤ maxE R.b + 1 := by
  cases hb : R.b with
  | nil => rw [h.none hb]; decide
  | cons p r =>
    have h1 := h.top p (by rw [hb]; simp)
    have h2 := maxE_le (B := R.b) (p := p) (by rw [hb]; simp)
    rw [hb] at h2
    omega
end Go.Proofs.YtkhphdkjnpcnnaaGreatDoor
