/- RrlG -/
import Derived.Test.YtkhphdkjnpcnnaaGreatDoorMg35
import Derived.Test.YtkhphdkjnpcnnaaGreatDoorMg17
import Derived.Test.YtkhphdkjnpcnnaaGreatDoorMg38
/- The reference's Login: walked. -/
namespace Go.Proofs.YtkhphdkjnpcnnaaGreatDoor
open Go.RowKit

theorem getC_none {L : List Per} {n : List UInt8} (h : idxP L n = none) : getC L n = 5 := by
  unfold getC
  rw [(idxP_none h).1]
  rfl
theorem getV_some {L : List Per} {n : List UInt8} {k : Nat} (h : idxP L n = some k) : ∃ hk : k < L.length, getV L n = L[k] ∧ getC L n = 0 := by
  obtain ⟨hk, hf, _⟩ := idxP_some h
  refine ⟨hk, ?_, ?_⟩
  · unfold getV
    rw [hf]
    rfl
  · unfold getC
    rw [hf]
    rfl
set_option maxHeartbeats 8000000 in
set_option maxRecDepth 100000 in
theorem loginRR_any {base m b : Nat} {R : Rlm} (n svc : List UInt8) (pr : Int) (w : World) (hR : RRlmAt w base m b R) (hG : GoodM R) (hn : n.length ≤ 1000) (hs : svc.length ≤ 1000) :
    Calls Tryz.prog 39 #[.pointer (some ⟨m, 0, none⟩), .string (bs n), .int .i64 pr, .string (bs svc)] w fun e w' => e = .returned (.tuple #[.string (bs (loginM R n pr svc).1), .int .i64 ((loginM R n pr svc).2.1 : Nat)]) ∧ RRlmAt w' base m b (loginM R n pr svc).2.2 ∧ Keeps (RRlmS base w) w w' := by
  have hq := login_eq R n pr svc
  have hM := hG.b.many
  have hRw := Lib.hid (fun wx (hx : Below w.heap.size w wx) => hR.below hx)
  have hfi := Lib.hid (fun x wx (hx : Below w.heap.size w wx) => findR_any base b R.b x wx (hR.below hx).book (by omega))
  have ht0 := hG.t0
  have ht1 := hG.t1
  have hl0 := hG.l0
  have hl1 := hG.l1
  have hs0 := hG.s0
  have hs1 := hG.s1
  have hfin0 := Lib.hid (fun wx (hx : Below w.heap.size w wx) => (show RRlmAt wx base m b R ∧ Keeps (RRlmS base w) w wx from ⟨hR.below hx, Keeps.of_below hx⟩))
  have hfin1 := Lib.hid (fun wx (hx : Below w.heap.size w wx) => (show RRlmAt (wx.setCell ⟨m, 3, none⟩ (.int .i64 (R.serial + 1))) base m b { R with serial := R.serial + 1 } ∧ Keeps (RRlmS base w) w (wx.setCell ⟨m, 3, none⟩ (.int .i64 (R.serial + 1))) from ⟨((hR.below hx).serial _).1, keepsM_below hx ((hR.below hx).serial _).2⟩))
  have hsz : (bs n).size = n.length := bs_size n
  have hsI : (bs (Lib.itoa R.time)).size ≤ 20 := by rw [bs_size]; exact itoa_len (by omega) (by omega)
  have hsA : ¬ 9223372036854775807 < (bs n).size + 1 := by omega
  have hsB : ¬ 9223372036854775807 < (bs n).size + 1 + (bs (Lib.itoa R.time)).size := by omega
  have hpe : bs n ++ (⟨#[32]⟩ : ByteArray) ++ bs (Lib.itoa R.time) = bs (proofM R n) := by
    rw [show (⟨#[32]⟩ : ByteArray) = bs [32] from rfl, str_add, str_add, List.append_assoc]
    rfl
  have hsP : (bs (proofM R n)).size ≤ maxLen := by
    rw [← hpe, ByteArray.size_append, ByteArray.size_append]
    have : (⟨#[32]⟩ : ByteArray).size = 1 := rfl
    unfold maxLen
    omega
  have hme := Lib.hid (fun k (wx : World) => (show Calls Tryz.prog 81 #[.int .i64 k, .string (bs n ++ (⟨#[32]⟩ : ByteArray) ++ bs (Lib.itoa R.time)), .int .i64 pr] wx fun e w' => e = .returned (.int .i64 (rightOf k (proofM R n) pr : Nat)) ∧ Below wx.heap.size wx w' by
    rw [hpe]
    exact (markError_any k pr (bs (proofM R n)) wx hsP).mono fun e w' ⟨h1, h2⟩ => ⟨h1, by rw [← h2]; exact Below.refl _ _⟩))
  have hde := Lib.hid (fun (wx : World) (_ : Below w.heap.size w wx) => decimal_any R.time wx (by omega) (by omega))
  clear hpe hsP hsz
  generalize proofM R n = pf at *
  generalize loginM R n pr svc = lm at *
  have hfi1 := Lib.hid (hfi.out n w (Below.refl _ _))
  have hfi2 := Lib.hid (hfi.out svc)
  obtain ⟨al, cl, ⟨_, c1, c2, c3, c4, _⟩, _, _⟩ := hR.cells
  have hbk := hR.book
  obtain ⟨rk, rl, rt, rs, rb, rL⟩ := R
  dsimp only at *
  have hc4 := Lib.hid (fun wx (hx : Below w.heap.size w wx) => cell_below hx c4)
  clear hfi hG hR
  by_cases hbad : idxP rb n = none ∨ idxP rb svc = none
  · have hq2 : lm = ([], 5, ⟨rk, rl, rt, rs, rb, rL⟩) := by
      have : twoC rb n svc = 5 := by
        unfold twoC
        rcases hbad with h | h <;> rw [getC_none h] <;> simp
      rw [hq, this]
      rfl
    subst hq2
    dsimp only
    clear hq c1 c2 c3 hbk
    cases hi : idxP rb n with
    | none =>
      rw [findIx_none hi] at hfi1
      clear hbad hi
      go_enter Tryz.func39, Tryz.ntmps39
      go_wp2_with fail
      refine hfi1.out.mono ?_
      rintro e w1 ⟨rfl, hb⟩
      have c4 := hc4.out _ hb
      have hfi2 := Lib.hid (hfi2.out _ hb)
      have hK1 := Lib.hid hb
      clear hb
      generalize findIx rb svc = z2 at *
      go_wp2_with fail
      refine hfi2.out.mono ?_
      rintro e w2 ⟨rfl, hb⟩
      have hfin := Lib.hid (hfin0.out _ (below_trans hK1.out hb))
      clear hb
      go_wp2_with fail
      go_ret2
      exact ⟨rfl, hfin.out⟩
    | some kp =>
      have hi2 : idxP rb svc = none := by
        rcases hbad with h | h
        · rw [hi] at h; cases h
        · exact h
      rw [findIx_some hi] at hfi1
      rw [findIx_none hi2] at hfi2
      clear hbad hi hi2
      have hkp : ¬ ((kp : Int) < 0) := by omega
      go_enter Tryz.func39, Tryz.ntmps39
      go_wp2_with fail
      refine hfi1.out.mono ?_
      rintro e w1 ⟨rfl, hb⟩
      have c4 := hc4.out _ hb
      have hfi2 := Lib.hid (hfi2.out _ hb)
      have hK1 := Lib.hid hb
      clear hb
      go_wp2_with fail
      refine hfi2.out.mono ?_
      rintro e w2 ⟨rfl, hb⟩
      have hfin := Lib.hid (hfin0.out _ (below_trans hK1.out hb))
      clear hb
      go_wp2_with fail
      go_ret2
      exact ⟨rfl, hfin.out⟩
  obtain ⟨kp, hi⟩ := Option.ne_none_iff_exists'.1 (fun h => hbad (.inl h))
  obtain ⟨ks, hi2⟩ := Option.ne_none_iff_exists'.1 (fun h => hbad (.inr h))
  obtain ⟨hkp, hgv, hgc⟩ := getV_some hi
  obtain ⟨hks, hgv2, hgc2⟩ := getV_some hi2
  rw [findIx_some hi] at hfi1
  rw [findIx_some hi2] at hfi2
  obtain ⟨g, c, e0, _, ⟨_, e1, e2, e3⟩, _⟩ := hbk.cells hkp
  obtain ⟨g', c', e0', _, ⟨_, f1, _, f3⟩, _⟩ := hbk.cells hks
  rw [e0] at e0'
  cases e0'
  have htc : twoC rb n svc = if rb[kp].off = true ∨ rb[ks].off = true then 16 else 0 := by
    unfold twoC
    rw [hgc, hgc2, hgv, hgv2, if_neg (by simp)]
  rw [htc, hgv, hgv2] at hq
  clear htc hgv hgv2 hgc hgc2 hi hi2 hbad hbk
  generalize rb[kp] = P at *
  generalize rb[ks] = Q at *
  obtain ⟨pn, pk, pe, po⟩ := P
  obtain ⟨qn, qk, qe, qo⟩ := Q
  dsimp only at *
  have hkp0 : ¬ ((kp : Int) < 0) := by omega
  have hkp1 : (0 : Int) ≤ (kp : Int) := by omega
  have hkp2 : (kp : Int) < (rb.length : Int) := by omega
  have hks0 : ¬ ((ks : Int) < 0) := by omega
  have hks1 : (0 : Int) ≤ (ks : Int) := by omega
  have hks2 : (ks : Int) < (rb.length : Int) := by omega
  have hcw := Lib.hid (fun wx (hx : Below w.heap.size w wx) => (show (wx.cell? ⟨m, 1, none⟩ = some (.int .i64 rl) ∧ wx.cell? ⟨m, 2, none⟩ = some (.int .i64 rt) ∧ wx.cell? ⟨m, 3, none⟩ = some (.int .i64 rs) ∧ wx.cell? ⟨m, 4, none⟩ = some (.pointer (some ⟨b, 0, none⟩))) ∧ wx.cell? ⟨b, 0, none⟩ = some (.slice (some ⟨g, 0, none⟩) rb.length c) ∧ (wx.cell? ⟨g, kp * 4 + 1, none⟩ = some (.int .i64 pk) ∧ wx.cell? ⟨g, kp * 4 + 2, none⟩ = some (.int .i64 pe) ∧ wx.cell? ⟨g, kp * 4 + 3, none⟩ = some (.bool po)) ∧ wx.cell? ⟨g, ks * 4 + 1, none⟩ = some (.int .i64 qk) ∧ wx.cell? ⟨g, ks * 4 + 3, none⟩ = some (.bool qo) from
    ⟨⟨cell_below hx c1, cell_below hx c2, cell_below hx c3, cell_below hx c4⟩, cell_below hx e0, ⟨cell_below hx e1, cell_below hx e2, cell_below hx e3⟩, cell_below hx f1, cell_below hx f3⟩))
  clear c1 c2 c3 e0 e1 e2 e3 f1 f3
  go_enter Tryz.func39, Tryz.ntmps39
  go_wp2_with fail
  refine hfi1.out.mono ?_
  rintro e w1 ⟨rfl, hb⟩
  have c4 := hc4.out _ hb
  have hfi2 := Lib.hid (hfi2.out _ hb)
  have hK1 := Lib.hid hb
  clear hb
  go_wp2_with fail
  refine hfi2.out.mono ?_
  rintro e w2 ⟨rfl, hb⟩
  have hK2 := Lib.hid (below_trans hK1.out hb)
  clear hb c4 hfi1 hfi2
  obtain ⟨⟨c1, c2, c3, c4⟩, e0, ⟨e1, e2, e3⟩, f1, f3⟩ := hcw.out _ hK2.out
  by_cases ho : po = true ∨ qo = true
  · rw [if_pos ho, if_pos (by decide)] at hq
    subst hq
    try dsimp only
    have hfin := Lib.hid (hfin0.out _ hK2.out)
    cases po with
    | true =>
      go_wp2_with fail
      go_ret2
      exact ⟨rfl, hfin.out⟩
    | false =>
      have hqo : qo = true := by simpa using ho
      subst hqo
      go_wp2_with fail
      go_ret2
      exact ⟨rfl, hfin.out⟩
  have hpo : po = false := by cases po; rfl; exact absurd (.inl rfl) ho
  have hqo : qo = false := by cases qo; rfl; exact absurd (.inr rfl) ho
  subst hpo
  subst hqo
  rw [if_neg ho, if_neg (by simp)] at hq
  clear ho
  have hme := Lib.hid (fun (wx : World) (_ : Below w2.heap.size w2 wx) => hme.out pk wx)
  have hde := Lib.hid (fun (wx : World) (hx : Below w2.heap.size w2 wx) => hde.out wx (below_trans hK2.out hx))
  generalize rightOf pk pf pr = kk at *
  generalize hkd : ((kk : Nat) : Int) = kz at *
  have hkd := Lib.hid hkd
  have hSA := Lib.hid (fun wx (hx : Below w2.heap.size w2 wx) => (show (wx.cell? ⟨m, 4, none⟩ = some (.pointer (some ⟨b, 0, none⟩)) ∧ wx.cell? ⟨m, 2, none⟩ = some (.int .i64 rt)) ∧ wx.cell? ⟨b, 0, none⟩ = some (.slice (some ⟨g, 0, none⟩) rb.length c) ∧ wx.cell? ⟨g, kp * 4 + 1, none⟩ = some (.int .i64 pk) from ⟨⟨cell_below hx c4, cell_below hx c2⟩, cell_below hx e0, cell_below hx e1⟩))
  have hD0 := Lib.hid (show Below w2.heap.size w2 w2.drew from (Below.refl _ _).drew)
  go_upto_region 7 with fail
  clear c1 c2 c3 c4 e0 e1 e2 e3 f1 f3
  go_cut [12] from 12 to 77 (fun s12 wx => s12 = .int .i64 kz ∧ Hid (Below w2.heap.size w2 wx))
  case first =>
    refine wp_region_noPanic ?_
    refine wp_region_held_drew (S := fun wx => (wx.cell? ⟨m, 4, none⟩ = some (.pointer (some ⟨b, 0, none⟩)) ∧ wx.cell? ⟨m, 2, none⟩ = some (.int .i64 rt)) ∧ wx.cell? ⟨b, 0, none⟩ = some (.slice (some ⟨g, 0, none⟩) rb.length c) ∧ wx.cell? ⟨g, kp * 4 + 1, none⟩ = some (.int .i64 pk)) (by kernel_rfl) ?_ (fun hHeld => ?_)
    · exact hSA.out _ hD0.out
    refine' held_take (i := 0) (d := some 57) (v := _) rfl rfl (by kernel_rfl) (by kernel_rfl) (by kernel_rfl) (fun _ _ _ h => h) rfl (by assumption) ?hy_1 ?re_1
    case hy_1 =>
      intro w hSw
      try dsimp only at hSw
      go_simp
      try with_reducible rfl
    simp only [Act.put, List.setIfInBounds_toArray, List.set_cons_zero, List.set_cons_succ]
    refine' held_take (i := 1) (d := some 58) (v := _) rfl rfl (by kernel_rfl) (by kernel_rfl) (by kernel_rfl) (fun _ _ _ h => h) rfl (by assumption) ?hy_2 ?re_2
    case hy_2 =>
      intro w hSw
      try dsimp only at hSw
      go_simp
      try with_reducible rfl
    simp only [Act.put, List.setIfInBounds_toArray, List.set_cons_zero, List.set_cons_succ]
    refine' held_take (i := 2) (d := some 59) (v := _) rfl rfl (by kernel_rfl) (by kernel_rfl) (by kernel_rfl) (fun _ _ _ h => h) rfl (by assumption) ?hy_3 ?re_3
    case hy_3 =>
      intro w hSw
      try dsimp only at hSw
      go_simp
      try with_reducible rfl
    simp only [Act.put, List.setIfInBounds_toArray, List.set_cons_zero, List.set_cons_succ]
    refine' held_take (i := 3) (d := some 60) (v := _) rfl rfl (by kernel_rfl) (by kernel_rfl) (by kernel_rfl) (fun _ _ _ h => h) rfl (by assumption) ?hy_4 ?re_4
    case hy_4 =>
      intro w hSw
      try dsimp only at hSw
      go_simp
      try with_reducible rfl
    simp only [Act.put, List.setIfInBounds_toArray, List.set_cons_zero, List.set_cons_succ]
    refine' held_take (i := 4) (d := some 61) (v := _) rfl rfl (by kernel_rfl) (by kernel_rfl) (by kernel_rfl) (fun _ _ _ h => h) rfl (by assumption) ?hy_5 ?re_5
    case hy_5 =>
      intro w hSw
      try dsimp only at hSw
      go_simp
      try with_reducible rfl
    simp only [Act.put, List.setIfInBounds_toArray, List.set_cons_zero, List.set_cons_succ]
    refine' held_take (i := 5) (d := some 62) (v := _) rfl rfl (by kernel_rfl) (by kernel_rfl) (by kernel_rfl) (fun _ _ _ h => h) rfl (by assumption) ?hy_6 ?re_6
    case hy_6 =>
      intro w hSw
      try dsimp only at hSw
      go_simp
      try with_reducible rfl
    simp only [Act.put, List.setIfInBounds_toArray, List.set_cons_zero, List.set_cons_succ]
    refine' held_take (i := 6) (d := some 63) (v := _) rfl rfl (by kernel_rfl) (by kernel_rfl) (by kernel_rfl) (fun _ _ _ h => h) rfl (by assumption) ?hy_7 ?re_7
    case hy_7 =>
      intro w hSw
      try dsimp only at hSw
      go_simp
      try with_reducible rfl
    simp only [Act.put, List.setIfInBounds_toArray, List.set_cons_zero, List.set_cons_succ]
    refine' held_take (i := 7) (d := some 64) (v := _) rfl rfl (by kernel_rfl) (by kernel_rfl) (by kernel_rfl) (fun _ _ _ h => h) rfl (by assumption) ?hy_8 ?re_8
    case hy_8 =>
      intro w hSw
      try dsimp only at hSw
      go_simp
      try with_reducible rfl
    simp only [Act.put, List.setIfInBounds_toArray, List.set_cons_zero, List.set_cons_succ]
    refine' held_take (i := 8) (d := some 65) (v := _) rfl rfl (by kernel_rfl) (by kernel_rfl) (by kernel_rfl) (fun _ _ _ h => h) rfl (by assumption) ?hy_9 ?re_9
    case hy_9 =>
      intro w hSw
      try dsimp only at hSw
      go_simp
      try with_reducible rfl
    simp only [Act.put, List.setIfInBounds_toArray, List.set_cons_zero, List.set_cons_succ]
    refine' held_take (i := 9) (d := some 66) (v := _) rfl rfl (by kernel_rfl) (by kernel_rfl) (by kernel_rfl) (fun _ _ _ h => h) rfl (by assumption) ?hy_10 ?re_10
    case hy_10 =>
      intro w hSw
      try dsimp only at hSw
      go_simp
      try with_reducible rfl
    simp only [Act.put, List.setIfInBounds_toArray, List.set_cons_zero, List.set_cons_succ]
    refine' held_take (i := 10) (d := some 67) (v := _) rfl rfl (by kernel_rfl) (by kernel_rfl) (by kernel_rfl) (fun _ _ _ h => h) rfl (by assumption) ?hy_11 ?re_11
    case hy_11 =>
      intro w hSw
      try dsimp only at hSw
      go_simp
      try with_reducible rfl
    simp only [Act.put, List.setIfInBounds_toArray, List.set_cons_zero, List.set_cons_succ]
    refine' held_take (i := 11) (d := some 68) (v := _) rfl rfl (by kernel_rfl) (by kernel_rfl) (by kernel_rfl) (fun _ _ _ h => h) rfl (by assumption) ?hy_12 ?re_12
    case hy_12 =>
      intro w hSw
      try dsimp only at hSw
      go_simp
      try with_reducible rfl
    simp only [Act.put, List.setIfInBounds_toArray, List.set_cons_zero, List.set_cons_succ]
    refine' held_take (i := 12) (d := some 69) (v := _) rfl rfl (by kernel_rfl) (by kernel_rfl) (by kernel_rfl) (fun _ _ _ h => h) rfl (by assumption) ?hy_13 ?re_13
    case hy_13 =>
      intro w hSw
      try dsimp only at hSw
      go_simp
      try with_reducible rfl
    simp only [Act.put, List.setIfInBounds_toArray, List.set_cons_zero, List.set_cons_succ]
    refine' held_take (i := 13) (d := some 70) (v := _) rfl rfl (by kernel_rfl) (by kernel_rfl) (by kernel_rfl) (fun _ _ _ h => h) rfl (by assumption) ?hy_14 ?re_14
    case hy_14 =>
      intro w hSw
      try dsimp only at hSw
      go_simp
      try with_reducible rfl
    simp only [Act.put, List.setIfInBounds_toArray, List.set_cons_zero, List.set_cons_succ]
    refine' held_take (i := 14) (d := some 71) (v := _) rfl rfl (by kernel_rfl) (by kernel_rfl) (by kernel_rfl) (fun _ _ _ h => h) rfl (by assumption) ?hy_15 ?re_15
    case hy_15 =>
      intro w hSw
      try dsimp only at hSw
      go_simp
      try with_reducible rfl
    simp only [Act.put, List.setIfInBounds_toArray, List.set_cons_zero, List.set_cons_succ]
    refine' held_take (i := 15) (d := some 72) (v := _) rfl rfl (by kernel_rfl) (by kernel_rfl) (by kernel_rfl) (fun _ _ _ h => h) rfl (by assumption) ?hy_16 ?re_16
    case hy_16 =>
      intro w hSw
      try dsimp only at hSw
      go_simp
      try with_reducible rfl
    simp only [Act.put, List.setIfInBounds_toArray, List.set_cons_zero, List.set_cons_succ]
    refine' held_take (i := 16) (d := some 73) (v := _) rfl rfl (by kernel_rfl) (by kernel_rfl) (by kernel_rfl) (fun _ _ _ h => h) rfl (by assumption) ?hy_17 ?re_17
    case hy_17 =>
      intro w hSw
      try dsimp only at hSw
      go_simp
      try with_reducible rfl
    simp only [Act.put, List.setIfInBounds_toArray, List.set_cons_zero, List.set_cons_succ]
    refine' held_take (i := 19) (d := some 76) (v := _) rfl rfl (by kernel_rfl) (by kernel_rfl) (by kernel_rfl) (fun _ _ _ h => h) rfl (by assumption) ?hy_18 ?re_18
    case hy_18 =>
      intro w hSw
      try dsimp only at hSw
      go_simp
      try with_reducible rfl
    simp only [Act.put, List.setIfInBounds_toArray, List.set_cons_zero, List.set_cons_succ]
    refine wpAnyH_ready (rs := [17]) (by kernel_rfl) (by simp) ?_
    refine AllReadyH.cons rfl (fun K hK => ?_) AllReadyH.nil
    go_simp
    refine (hde.out _ hD0.out).mono ?_
    rintro e wd1 ⟨rfl, hb⟩
    have hD1 := Lib.hid (below_trans hD0.out hb)
    clear hb
    go_wp2_with fail
    refine hK.out _ _ ?_ (fun hHeld => ?_)
    · exact hSA.out _ hD1.out
    clear hK K
    try simp only [Act.put, List.setIfInBounds_toArray, List.set_cons_zero, List.set_cons_succ]
    refine' held_take (i := 18) (d := some 75) (v := _) rfl rfl (by kernel_rfl) (by kernel_rfl) (by kernel_rfl) (fun _ _ _ h => h) rfl (by assumption) ?hy_19 ?re_19
    case hy_19 =>
      intro w hSw
      try dsimp only at hSw
      go_simp
      try with_reducible rfl
    simp only [Act.put, List.setIfInBounds_toArray, List.set_cons_zero, List.set_cons_succ]
    refine wpAnyH_ready (rs := [20]) (by kernel_rfl) (by simp) ?_
    refine AllReadyH.cons rfl (fun K hK => ?_) AllReadyH.nil
    go_simp
    refine (hme.out _ hD1.out).mono ?_
    rintro e wd2 ⟨rfl, hb⟩
    have hD2 := Lib.hid (below_trans hD1.out hb)
    clear hb
    go_wp2_with fail
    refine hK.out _ _ ?_ (fun hHeld => ?_)
    · exact hSA.out _ hD2.out
    clear hK K
    try simp only [Act.put, List.setIfInBounds_toArray, List.set_cons_zero, List.set_cons_succ]
    refine' held_take (i := 21) (d := some 12) (v := _) rfl rfl (by kernel_rfl) (by kernel_rfl) (by kernel_rfl) (fun _ _ _ h => h) rfl (by assumption) ?hy_20 ?re_20
    case hy_20 =>
      intro w hSw
      try dsimp only at hSw
      go_simp
      try with_reducible rfl
    simp only [Act.put, List.setIfInBounds_toArray, List.set_cons_zero, List.set_cons_succ]
    refine wpAnyH_done (by kernel_rfl) ?_ _
    refine NoPanic.normal ?_
    go_wp2_with fail
    go_meet
    exact ⟨rfl, hD2⟩
  obtain ⟨rfl, hX⟩ := hcut
  have hK3 := Lib.hid (below_trans hK2.out hX.out)
  clear hX hD0 hSA hme hde
  generalize wc = w3 at *
  by_cases hk0 : kk = 0
  case neg =>
    rw [if_pos hk0] at hq
    subst hq
    try dsimp only
    have hkp : (0 : Int) < kz := by have := hkd.out; omega
    have hfin := Lib.hid (hfin0.out _ hK3.out)
    go_wp2_with fail
    go_ret2
    exact ⟨by first | rfl | (rw [hkd.out]; rfl), hfin.out⟩
  subst hk0
  rw [if_neg (by simp)] at hq
  have hkz : kz = 0 := by have := hkd.out; omega
  subst hkz
  clear hkd
  obtain ⟨⟨c1, c2, c3, c4⟩, e0, ⟨e1, e2, e3⟩, f1, f3⟩ := hcw.out _ hK3.out
  by_cases ht : 1000000 ≤ rt ∨ 1073741824 < rs
  · rw [if_pos ht] at hq
    subst hq
    try dsimp only
    have hfin := Lib.hid (hfin0.out _ hK3.out)
    by_cases ht2 : 1000000 ≤ rt
    · clear ht
      go_wp2_with fail
      go_ret2
      exact ⟨rfl, hfin.out⟩
    · have ht : 1073741824 < rs := by omega
      go_wp2_with fail
      go_ret2
      exact ⟨rfl, hfin.out⟩
  rw [if_neg ht] at hq
  have ht2 : ¬ 1000000 ≤ rt := by omega
  have ht3 : ¬ 1073741824 < rs := by omega
  clear ht
  have hSB := Lib.hid (fun wx (hx : Below w3.heap.size w3 wx) => (show (wx.cell? ⟨m, 4, none⟩ = some (.pointer (some ⟨b, 0, none⟩)) ∧ wx.cell? ⟨m, 2, none⟩ = some (.int .i64 rt) ∧ wx.cell? ⟨m, 3, none⟩ = some (.int .i64 rs)) ∧ wx.cell? ⟨b, 0, none⟩ = some (.slice (some ⟨g, 0, none⟩) rb.length c) ∧ wx.cell? ⟨g, ks * 4 + 1, none⟩ = some (.int .i64 qk) ∧ wx.cell? ⟨g, kp * 4 + 2, none⟩ = some (.int .i64 pe) from ⟨⟨cell_below hx c4, cell_below hx c2, cell_below hx c3⟩, cell_below hx e0, cell_below hx f1, cell_below hx e2⟩))
  have hD0 := Lib.hid (fun k => (show Below w3.heap.size w3 ((w3.drewN k).drew) from (below_drawn (Below.refl _ _) k).drew))
  have hwr := IntWalk.i64_in (rt + rl) (by omega)
  have hTL : ∀ tl, TickLen ⟨n, svc, pe, rt, tl, rs⟩ := fun tl => ⟨Nat.le_trans hn (by decide), Nat.le_trans hs (by decide)⟩
  have htt := Lib.hid (fun tl wx (_ : Below w3.heap.size w3 wx) => textR_tick qk ⟨n, svc, pe, rt, tl, rs⟩ wx (hTL tl))
  by_cases hov : 1000000 < rt + rl
  · rw [show min (rt + rl) 1000000 = 1000000 by omega] at hq
    have htt := Lib.hid (htt.out 1000000)
    generalize makeT qk ⟨n, svc, pe, rt, 1000000, rs⟩ = mt at *
    obtain ⟨ms, mc⟩ := mt
    dsimp only [Tick.val] at *
    generalize hmd : ((mc : Nat) : Int) = mz at *
    have hmd := Lib.hid hmd
    go_upto_region 15 with (go_quiet (fail))
    clear c1 c2 c3 c4 e0 e1 e2 e3 f1 f3
    go_cut [12, 14] from 12 to 141 (fun s12 s14 wx => s12 = .int .i64 mz ∧ s14 = .string (bs ms) ∧ Hid (Below w3.heap.size w3 wx))
    case first =>
      refine wp_region_noPanic ?_
      refine wp_region_held_drew (S := fun wx => (wx.cell? ⟨m, 4, none⟩ = some (.pointer (some ⟨b, 0, none⟩)) ∧ wx.cell? ⟨m, 2, none⟩ = some (.int .i64 rt) ∧ wx.cell? ⟨m, 3, none⟩ = some (.int .i64 rs)) ∧ wx.cell? ⟨b, 0, none⟩ = some (.slice (some ⟨g, 0, none⟩) rb.length c) ∧ wx.cell? ⟨g, ks * 4 + 1, none⟩ = some (.int .i64 qk) ∧ wx.cell? ⟨g, kp * 4 + 2, none⟩ = some (.int .i64 pe)) (by kernel_rfl) ?_ (fun hHeld => ?_)
      · exact hSB.out _ (hD0.out _)
      refine' held_take (i := 0) (d := some 105) (v := _) rfl rfl (by kernel_rfl) (by kernel_rfl) (by kernel_rfl) (fun _ _ _ h => h) rfl (by assumption) ?hy_21 ?re_21
      case hy_21 =>
        intro w hSw
        try dsimp only at hSw
        go_simp
        try with_reducible rfl
      simp only [Act.put, List.setIfInBounds_toArray, List.set_cons_zero, List.set_cons_succ]
      refine' held_take (i := 1) (d := some 106) (v := _) rfl rfl (by kernel_rfl) (by kernel_rfl) (by kernel_rfl) (fun _ _ _ h => h) rfl (by assumption) ?hy_22 ?re_22
      case hy_22 =>
        intro w hSw
        try dsimp only at hSw
        go_simp
        try with_reducible rfl
      simp only [Act.put, List.setIfInBounds_toArray, List.set_cons_zero, List.set_cons_succ]
      refine' held_take (i := 2) (d := some 107) (v := _) rfl rfl (by kernel_rfl) (by kernel_rfl) (by kernel_rfl) (fun _ _ _ h => h) rfl (by assumption) ?hy_23 ?re_23
      case hy_23 =>
        intro w hSw
        try dsimp only at hSw
        go_simp
        try with_reducible rfl
      simp only [Act.put, List.setIfInBounds_toArray, List.set_cons_zero, List.set_cons_succ]
      refine' held_take (i := 3) (d := some 108) (v := _) rfl rfl (by kernel_rfl) (by kernel_rfl) (by kernel_rfl) (fun _ _ _ h => h) rfl (by assumption) ?hy_24 ?re_24
      case hy_24 =>
        intro w hSw
        try dsimp only at hSw
        go_simp
        try with_reducible rfl
      simp only [Act.put, List.setIfInBounds_toArray, List.set_cons_zero, List.set_cons_succ]
      refine' held_take (i := 4) (d := some 109) (v := _) rfl rfl (by kernel_rfl) (by kernel_rfl) (by kernel_rfl) (fun _ _ _ h => h) rfl (by assumption) ?hy_25 ?re_25
      case hy_25 =>
        intro w hSw
        try dsimp only at hSw
        go_simp
        try with_reducible rfl
      simp only [Act.put, List.setIfInBounds_toArray, List.set_cons_zero, List.set_cons_succ]
      refine' held_take (i := 5) (d := some 110) (v := _) rfl rfl (by kernel_rfl) (by kernel_rfl) (by kernel_rfl) (fun _ _ _ h => h) rfl (by assumption) ?hy_26 ?re_26
      case hy_26 =>
        intro w hSw
        try dsimp only at hSw
        go_simp
        try with_reducible rfl
      simp only [Act.put, List.setIfInBounds_toArray, List.set_cons_zero, List.set_cons_succ]
      refine' held_take (i := 6) (d := some 111) (v := _) rfl rfl (by kernel_rfl) (by kernel_rfl) (by kernel_rfl) (fun _ _ _ h => h) rfl (by assumption) ?hy_27 ?re_27
      case hy_27 =>
        intro w hSw
        try dsimp only at hSw
        go_simp
        try with_reducible rfl
      simp only [Act.put, List.setIfInBounds_toArray, List.set_cons_zero, List.set_cons_succ]
      refine' held_take (i := 7) (d := some 112) (v := _) rfl rfl (by kernel_rfl) (by kernel_rfl) (by kernel_rfl) (fun _ _ _ h => h) rfl (by assumption) ?hy_28 ?re_28
      case hy_28 =>
        intro w hSw
        try dsimp only at hSw
        go_simp
        try with_reducible rfl
      simp only [Act.put, List.setIfInBounds_toArray, List.set_cons_zero, List.set_cons_succ]
      refine' held_take (i := 8) (d := some 113) (v := _) rfl rfl (by kernel_rfl) (by kernel_rfl) (by kernel_rfl) (fun _ _ _ h => h) rfl (by assumption) ?hy_29 ?re_29
      case hy_29 =>
        intro w hSw
        try dsimp only at hSw
        go_simp
        try with_reducible rfl
      simp only [Act.put, List.setIfInBounds_toArray, List.set_cons_zero, List.set_cons_succ]
      refine' held_take (i := 9) (d := some 114) (v := _) rfl rfl (by kernel_rfl) (by kernel_rfl) (by kernel_rfl) (fun _ _ _ h => h) rfl (by assumption) ?hy_30 ?re_30
      case hy_30 =>
        intro w hSw
        try dsimp only at hSw
        go_simp
        try with_reducible rfl
      simp only [Act.put, List.setIfInBounds_toArray, List.set_cons_zero, List.set_cons_succ]
      refine' held_take (i := 10) (d := some 115) (v := _) rfl rfl (by kernel_rfl) (by kernel_rfl) (by kernel_rfl) (fun _ _ _ h => h) rfl (by assumption) ?hy_31 ?re_31
      case hy_31 =>
        intro w hSw
        try dsimp only at hSw
        go_simp
        try with_reducible rfl
      simp only [Act.put, List.setIfInBounds_toArray, List.set_cons_zero, List.set_cons_succ]
      refine' held_take (i := 11) (d := some 116) (v := _) rfl rfl (by kernel_rfl) (by kernel_rfl) (by kernel_rfl) (fun _ _ _ h => h) rfl (by assumption) ?hy_32 ?re_32
      case hy_32 =>
        intro w hSw
        try dsimp only at hSw
        go_simp
        try with_reducible rfl
      simp only [Act.put, List.setIfInBounds_toArray, List.set_cons_zero, List.set_cons_succ]
      refine' held_take (i := 12) (d := some 117) (v := _) rfl rfl (by kernel_rfl) (by kernel_rfl) (by kernel_rfl) (fun _ _ _ h => h) rfl (by assumption) ?hy_33 ?re_33
      case hy_33 =>
        intro w hSw
        try dsimp only at hSw
        go_simp
        try with_reducible rfl
      simp only [Act.put, List.setIfInBounds_toArray, List.set_cons_zero, List.set_cons_succ]
      refine' held_take (i := 13) (d := some 118) (v := _) rfl rfl (by kernel_rfl) (by kernel_rfl) (by kernel_rfl) (fun _ _ _ h => h) rfl (by assumption) ?hy_34 ?re_34
      case hy_34 =>
        intro w hSw
        try dsimp only at hSw
        go_simp
        try with_reducible rfl
      simp only [Act.put, List.setIfInBounds_toArray, List.set_cons_zero, List.set_cons_succ]
      refine' held_take (i := 14) (d := some 119) (v := _) rfl rfl (by kernel_rfl) (by kernel_rfl) (by kernel_rfl) (fun _ _ _ h => h) rfl (by assumption) ?hy_35 ?re_35
      case hy_35 =>
        intro w hSw
        try dsimp only at hSw
        go_simp
        try with_reducible rfl
      simp only [Act.put, List.setIfInBounds_toArray, List.set_cons_zero, List.set_cons_succ]
      refine' held_take (i := 15) (d := some 120) (v := _) rfl rfl (by kernel_rfl) (by kernel_rfl) (by kernel_rfl) (fun _ _ _ h => h) rfl (by assumption) ?hy_36 ?re_36
      case hy_36 =>
        intro w hSw
        try dsimp only at hSw
        go_simp
        try with_reducible rfl
      simp only [Act.put, List.setIfInBounds_toArray, List.set_cons_zero, List.set_cons_succ]
      refine' held_take (i := 16) (d := some 121) (v := _) rfl rfl (by kernel_rfl) (by kernel_rfl) (by kernel_rfl) (fun _ _ _ h => h) rfl (by assumption) ?hy_37 ?re_37
      case hy_37 =>
        intro w hSw
        try dsimp only at hSw
        go_simp
        try with_reducible rfl
      simp only [Act.put, List.setIfInBounds_toArray, List.set_cons_zero, List.set_cons_succ]
      refine' held_take (i := 17) (d := some 122) (v := _) rfl rfl (by kernel_rfl) (by kernel_rfl) (by kernel_rfl) (fun _ _ _ h => h) rfl (by assumption) ?hy_38 ?re_38
      case hy_38 =>
        intro w hSw
        try dsimp only at hSw
        go_simp
        try with_reducible rfl
      simp only [Act.put, List.setIfInBounds_toArray, List.set_cons_zero, List.set_cons_succ]
      refine' held_take (i := 18) (d := some 123) (v := _) rfl rfl (by kernel_rfl) (by kernel_rfl) (by kernel_rfl) (fun _ _ _ h => h) rfl (by assumption) ?hy_39 ?re_39
      case hy_39 =>
        intro w hSw
        try dsimp only at hSw
        go_simp
        try with_reducible rfl
      simp only [Act.put, List.setIfInBounds_toArray, List.set_cons_zero, List.set_cons_succ]
      refine' held_take (i := 19) (d := some 124) (v := _) rfl rfl (by kernel_rfl) (by kernel_rfl) (by kernel_rfl) (fun _ _ _ h => h) rfl (by assumption) ?hy_40 ?re_40
      case hy_40 =>
        intro w hSw
        try dsimp only at hSw
        go_simp
        try with_reducible rfl
      simp only [Act.put, List.setIfInBounds_toArray, List.set_cons_zero, List.set_cons_succ]
      refine' held_take (i := 20) (d := some 125) (v := _) rfl rfl (by kernel_rfl) (by kernel_rfl) (by kernel_rfl) (fun _ _ _ h => h) rfl (by assumption) ?hy_41 ?re_41
      case hy_41 =>
        intro w hSw
        try dsimp only at hSw
        go_simp
        try with_reducible rfl
      simp only [Act.put, List.setIfInBounds_toArray, List.set_cons_zero, List.set_cons_succ]
      refine' held_take (i := 21) (d := some 126) (v := _) rfl rfl (by kernel_rfl) (by kernel_rfl) (by kernel_rfl) (fun _ _ _ h => h) rfl (by assumption) ?hy_42 ?re_42
      case hy_42 =>
        intro w hSw
        try dsimp only at hSw
        go_simp
        try with_reducible rfl
      simp only [Act.put, List.setIfInBounds_toArray, List.set_cons_zero, List.set_cons_succ]
      refine' held_take (i := 22) (d := some 127) (v := _) rfl rfl (by kernel_rfl) (by kernel_rfl) (by kernel_rfl) (fun _ _ _ h => h) rfl (by assumption) ?hy_43 ?re_43
      case hy_43 =>
        intro w hSw
        try dsimp only at hSw
        go_simp
        try with_reducible rfl
      simp only [Act.put, List.setIfInBounds_toArray, List.set_cons_zero, List.set_cons_succ]
      refine' held_take (i := 23) (d := some 128) (v := _) rfl rfl (by kernel_rfl) (by kernel_rfl) (by kernel_rfl) (fun _ _ _ h => h) rfl (by assumption) ?hy_44 ?re_44
      case hy_44 =>
        intro w hSw
        try dsimp only at hSw
        go_simp
        try with_reducible rfl
      simp only [Act.put, List.setIfInBounds_toArray, List.set_cons_zero, List.set_cons_succ]
      refine' held_take (i := 24) (d := some 129) (v := _) rfl rfl (by kernel_rfl) (by kernel_rfl) (by kernel_rfl) (fun _ _ _ h => h) rfl (by assumption) ?hy_45 ?re_45
      case hy_45 =>
        intro w hSw
        try dsimp only at hSw
        go_simp
        try with_reducible rfl
      simp only [Act.put, List.setIfInBounds_toArray, List.set_cons_zero, List.set_cons_succ]
      refine' held_take (i := 25) (d := some 130) (v := _) rfl rfl (by kernel_rfl) (by kernel_rfl) (by kernel_rfl) (fun _ _ _ h => h) rfl (by assumption) ?hy_46 ?re_46
      case hy_46 =>
        intro w hSw
        try dsimp only at hSw
        go_simp
        try with_reducible rfl
      simp only [Act.put, List.setIfInBounds_toArray, List.set_cons_zero, List.set_cons_succ]
      refine' held_take (i := 26) (d := some 131) (v := _) rfl rfl (by kernel_rfl) (by kernel_rfl) (by kernel_rfl) (fun _ _ _ h => h) rfl (by assumption) ?hy_47 ?re_47
      case hy_47 =>
        intro w hSw
        try dsimp only at hSw
        go_simp
        try with_reducible rfl
      simp only [Act.put, List.setIfInBounds_toArray, List.set_cons_zero, List.set_cons_succ]
      refine' held_take (i := 27) (d := some 132) (v := _) rfl rfl (by kernel_rfl) (by kernel_rfl) (by kernel_rfl) (fun _ _ _ h => h) rfl (by assumption) ?hy_48 ?re_48
      case hy_48 =>
        intro w hSw
        try dsimp only at hSw
        go_simp
        try with_reducible rfl
      simp only [Act.put, List.setIfInBounds_toArray, List.set_cons_zero, List.set_cons_succ]
      refine' held_take (i := 28) (d := some 133) (v := _) rfl rfl (by kernel_rfl) (by kernel_rfl) (by kernel_rfl) (fun _ _ _ h => h) rfl (by assumption) ?hy_49 ?re_49
      case hy_49 =>
        intro w hSw
        try dsimp only at hSw
        go_simp
        try with_reducible rfl
      simp only [Act.put, List.setIfInBounds_toArray, List.set_cons_zero, List.set_cons_succ]
      refine' held_take (i := 29) (d := some 134) (v := _) rfl rfl (by kernel_rfl) (by kernel_rfl) (by kernel_rfl) (fun _ _ _ h => h) rfl (by assumption) ?hy_50 ?re_50
      case hy_50 =>
        intro w hSw
        try dsimp only at hSw
        go_simp
        try with_reducible rfl
      simp only [Act.put, List.setIfInBounds_toArray, List.set_cons_zero, List.set_cons_succ]
      refine' held_take (i := 30) (d := some 135) (v := _) rfl rfl (by kernel_rfl) (by kernel_rfl) (by kernel_rfl) (fun _ _ _ h => h) rfl (by assumption) ?hy_51 ?re_51
      case hy_51 =>
        intro w hSw
        try dsimp only at hSw
        go_simp
        try with_reducible rfl
      simp only [Act.put, List.setIfInBounds_toArray, List.set_cons_zero, List.set_cons_succ]
      refine' held_take (i := 31) (d := some 136) (v := _) rfl rfl (by kernel_rfl) (by kernel_rfl) (by kernel_rfl) (fun _ _ _ h => h) rfl (by assumption) ?hy_52 ?re_52
      case hy_52 =>
        intro w hSw
        try dsimp only at hSw
        go_simp
        try with_reducible rfl
      simp only [Act.put, List.setIfInBounds_toArray, List.set_cons_zero, List.set_cons_succ]
      refine' held_take (i := 32) (d := some 137) (v := _) rfl rfl (by kernel_rfl) (by kernel_rfl) (by kernel_rfl) (fun _ _ _ h => h) rfl (by assumption) ?hy_53 ?re_53
      case hy_53 =>
        intro w hSw
        try dsimp only at hSw
        go_simp
        try with_reducible rfl
      simp only [Act.put, List.setIfInBounds_toArray, List.set_cons_zero, List.set_cons_succ]
      refine' held_take (i := 33) (d := some 138) (v := _) rfl rfl (by kernel_rfl) (by kernel_rfl) (by kernel_rfl) (fun _ _ _ h => h) rfl (by assumption) ?hy_54 ?re_54
      case hy_54 =>
        intro w hSw
        try dsimp only at hSw
        go_simp
        try with_reducible rfl
      simp only [Act.put, List.setIfInBounds_toArray, List.set_cons_zero, List.set_cons_succ]
      refine wpAnyH_ready (rs := [34]) (by kernel_rfl) (by simp) ?_
      refine AllReadyH.cons rfl (fun K hK => ?_) AllReadyH.nil
      go_simp
      refine (htt.out _ (hD0.out _)).mono ?_
      rintro e wd1 ⟨rfl, hb⟩
      have hD1 := Lib.hid (below_trans (hD0.out _) hb)
      clear hb
      go_wp2_with fail
      refine hK.out _ _ ?_ (fun hHeld => ?_)
      · exact hSB.out _ hD1.out
      clear hK K
      try simp only [Act.put, List.setIfInBounds_toArray, List.set_cons_zero, List.set_cons_succ]
      refine' held_take (i := 35) (d := some 104) (v := _) rfl rfl (by kernel_rfl) (by kernel_rfl) (by kernel_rfl) (fun _ _ _ h => h) rfl (by assumption) ?hy_55 ?re_55
      case hy_55 =>
        intro w hSw
        try dsimp only at hSw
        go_simp
        try with_reducible rfl
      simp only [Act.put, List.setIfInBounds_toArray, List.set_cons_zero, List.set_cons_succ]
      refine' held_take (i := 36) (d := some 140) (v := _) rfl rfl (by kernel_rfl) (by kernel_rfl) (by kernel_rfl) (fun _ _ _ h => h) rfl (by assumption) ?hy_56 ?re_56
      case hy_56 =>
        intro w hSw
        try dsimp only at hSw
        go_simp
        try with_reducible rfl
      simp only [Act.put, List.setIfInBounds_toArray, List.set_cons_zero, List.set_cons_succ]
      refine' held_take (i := 37) (d := some 141) (v := _) rfl rfl (by kernel_rfl) (by kernel_rfl) (by kernel_rfl) (fun _ _ _ h => h) rfl (by assumption) ?hy_57 ?re_57
      case hy_57 =>
        intro w hSw
        try dsimp only at hSw
        go_simp
        try with_reducible rfl
      simp only [Act.put, List.setIfInBounds_toArray, List.set_cons_zero, List.set_cons_succ]
      refine' held_take (i := 38) (d := some 14) (v := _) rfl rfl (by kernel_rfl) (by kernel_rfl) (by kernel_rfl) (fun _ _ _ h => h) rfl (by assumption) ?hy_58 ?re_58
      case hy_58 =>
        intro w hSw
        try dsimp only at hSw
        go_simp
        try with_reducible rfl
      simp only [Act.put, List.setIfInBounds_toArray, List.set_cons_zero, List.set_cons_succ]
      refine' held_take (i := 39) (d := some 12) (v := _) rfl rfl (by kernel_rfl) (by kernel_rfl) (by kernel_rfl) (fun _ _ _ h => h) rfl (by assumption) ?hy_59 ?re_59
      case hy_59 =>
        intro w hSw
        try dsimp only at hSw
        go_simp
        try with_reducible rfl
      simp only [Act.put, List.setIfInBounds_toArray, List.set_cons_zero, List.set_cons_succ]
      refine wpAnyH_done (by kernel_rfl) ?_ _
      refine NoPanic.normal ?_
      go_wp2_with fail
      go_meet
      exact ⟨rfl, rfl, hD1⟩
    obtain ⟨rfl, rfl, hX⟩ := hcut
    have hK4 := Lib.hid (below_trans hK3.out hX.out)
    clear hX hD0 hSB htt
    generalize wc = w4 at *
    by_cases hm0 : mc = 0
    case neg =>
      rw [if_neg hm0] at hq
      subst hq
      try dsimp only
      have hmz : ¬ mz = 0 := by have := hmd.out; omega
      have hmz2 : (mz == 0) = false := by simpa using hmz
      have hfin := Lib.hid (hfin0.out _ hK4.out)
      go_wp2_with fail
      go_ret2
      exact ⟨by first | rfl | (rw [hmd.out]; rfl), hfin.out⟩
    subst hm0
    rw [if_pos rfl] at hq
    subst hq
    try dsimp only
    have hmz : mz = 0 := by have := hmd.out; omega
    subst hmz
    have hfin := Lib.hid (hfin1.out _ hK4.out)
    obtain ⟨al2, cl2, ⟨_, _, _, c3, _, _⟩, ⟨_, _, _, g3, _, _⟩, _⟩ := (hRw.out _ hK4.out).cells
    try dsimp only at c3
    go_wp2_with fail
    go_ret2
    exact ⟨rfl, hfin.out⟩
  · rw [show min (rt + rl) 1000000 = rt + rl by omega] at hq
    have htt := Lib.hid (htt.out (rt + rl))
    generalize makeT qk ⟨n, svc, pe, rt, rt + rl, rs⟩ = mt at *
    obtain ⟨ms, mc⟩ := mt
    dsimp only [Tick.val] at *
    generalize hmd : ((mc : Nat) : Int) = mz at *
    have hmd := Lib.hid hmd
    go_upto_region 15 with (go_quiet (fail))
    clear c1 c2 c3 c4 e0 e1 e2 e3 f1 f3
    go_cut [12, 14] from 12 to 141 (fun s12 s14 wx => s12 = .int .i64 mz ∧ s14 = .string (bs ms) ∧ Hid (Below w3.heap.size w3 wx))
    case first =>
      refine wp_region_noPanic ?_
      refine wp_region_held_drew (S := fun wx => (wx.cell? ⟨m, 4, none⟩ = some (.pointer (some ⟨b, 0, none⟩)) ∧ wx.cell? ⟨m, 2, none⟩ = some (.int .i64 rt) ∧ wx.cell? ⟨m, 3, none⟩ = some (.int .i64 rs)) ∧ wx.cell? ⟨b, 0, none⟩ = some (.slice (some ⟨g, 0, none⟩) rb.length c) ∧ wx.cell? ⟨g, ks * 4 + 1, none⟩ = some (.int .i64 qk) ∧ wx.cell? ⟨g, kp * 4 + 2, none⟩ = some (.int .i64 pe)) (by kernel_rfl) ?_ (fun hHeld => ?_)
      · exact hSB.out _ (hD0.out _)
      refine' held_take (i := 0) (d := some 105) (v := _) rfl rfl (by kernel_rfl) (by kernel_rfl) (by kernel_rfl) (fun _ _ _ h => h) rfl (by assumption) ?hy_60 ?re_60
      case hy_60 =>
        intro w hSw
        try dsimp only at hSw
        go_simp
        try with_reducible rfl
      simp only [Act.put, List.setIfInBounds_toArray, List.set_cons_zero, List.set_cons_succ]
      refine' held_take (i := 1) (d := some 106) (v := _) rfl rfl (by kernel_rfl) (by kernel_rfl) (by kernel_rfl) (fun _ _ _ h => h) rfl (by assumption) ?hy_61 ?re_61
      case hy_61 =>
        intro w hSw
        try dsimp only at hSw
        go_simp
        try with_reducible rfl
      simp only [Act.put, List.setIfInBounds_toArray, List.set_cons_zero, List.set_cons_succ]
      refine' held_take (i := 2) (d := some 107) (v := _) rfl rfl (by kernel_rfl) (by kernel_rfl) (by kernel_rfl) (fun _ _ _ h => h) rfl (by assumption) ?hy_62 ?re_62
      case hy_62 =>
        intro w hSw
        try dsimp only at hSw
        go_simp
        try with_reducible rfl
      simp only [Act.put, List.setIfInBounds_toArray, List.set_cons_zero, List.set_cons_succ]
      refine' held_take (i := 3) (d := some 108) (v := _) rfl rfl (by kernel_rfl) (by kernel_rfl) (by kernel_rfl) (fun _ _ _ h => h) rfl (by assumption) ?hy_63 ?re_63
      case hy_63 =>
        intro w hSw
        try dsimp only at hSw
        go_simp
        try with_reducible rfl
      simp only [Act.put, List.setIfInBounds_toArray, List.set_cons_zero, List.set_cons_succ]
      refine' held_take (i := 4) (d := some 109) (v := _) rfl rfl (by kernel_rfl) (by kernel_rfl) (by kernel_rfl) (fun _ _ _ h => h) rfl (by assumption) ?hy_64 ?re_64
      case hy_64 =>
        intro w hSw
        try dsimp only at hSw
        go_simp
        try with_reducible rfl
      simp only [Act.put, List.setIfInBounds_toArray, List.set_cons_zero, List.set_cons_succ]
      refine' held_take (i := 5) (d := some 110) (v := _) rfl rfl (by kernel_rfl) (by kernel_rfl) (by kernel_rfl) (fun _ _ _ h => h) rfl (by assumption) ?hy_65 ?re_65
      case hy_65 =>
        intro w hSw
        try dsimp only at hSw
        go_simp
        try with_reducible rfl
      simp only [Act.put, List.setIfInBounds_toArray, List.set_cons_zero, List.set_cons_succ]
      refine' held_take (i := 6) (d := some 111) (v := _) rfl rfl (by kernel_rfl) (by kernel_rfl) (by kernel_rfl) (fun _ _ _ h => h) rfl (by assumption) ?hy_66 ?re_66
      case hy_66 =>
        intro w hSw
        try dsimp only at hSw
        go_simp
        try with_reducible rfl
      simp only [Act.put, List.setIfInBounds_toArray, List.set_cons_zero, List.set_cons_succ]
      refine' held_take (i := 7) (d := some 112) (v := _) rfl rfl (by kernel_rfl) (by kernel_rfl) (by kernel_rfl) (fun _ _ _ h => h) rfl (by assumption) ?hy_67 ?re_67
      case hy_67 =>
        intro w hSw
        try dsimp only at hSw
        go_simp
        try with_reducible rfl
      simp only [Act.put, List.setIfInBounds_toArray, List.set_cons_zero, List.set_cons_succ]
      refine' held_take (i := 8) (d := some 113) (v := _) rfl rfl (by kernel_rfl) (by kernel_rfl) (by kernel_rfl) (fun _ _ _ h => h) rfl (by assumption) ?hy_68 ?re_68
      case hy_68 =>
        intro w hSw
        try dsimp only at hSw
        go_simp
        try with_reducible rfl
      simp only [Act.put, List.setIfInBounds_toArray, List.set_cons_zero, List.set_cons_succ]
      refine' held_take (i := 9) (d := some 114) (v := _) rfl rfl (by kernel_rfl) (by kernel_rfl) (by kernel_rfl) (fun _ _ _ h => h) rfl (by assumption) ?hy_69 ?re_69
      case hy_69 =>
        intro w hSw
        try dsimp only at hSw
        go_simp
        try with_reducible rfl
      simp only [Act.put, List.setIfInBounds_toArray, List.set_cons_zero, List.set_cons_succ]
      refine' held_take (i := 10) (d := some 115) (v := _) rfl rfl (by kernel_rfl) (by kernel_rfl) (by kernel_rfl) (fun _ _ _ h => h) rfl (by assumption) ?hy_70 ?re_70
      case hy_70 =>
        intro w hSw
        try dsimp only at hSw
        go_simp
        try with_reducible rfl
      simp only [Act.put, List.setIfInBounds_toArray, List.set_cons_zero, List.set_cons_succ]
      refine' held_take (i := 11) (d := some 116) (v := _) rfl rfl (by kernel_rfl) (by kernel_rfl) (by kernel_rfl) (fun _ _ _ h => h) rfl (by assumption) ?hy_71 ?re_71
      case hy_71 =>
        intro w hSw
        try dsimp only at hSw
        go_simp
        try with_reducible rfl
      simp only [Act.put, List.setIfInBounds_toArray, List.set_cons_zero, List.set_cons_succ]
      refine' held_take (i := 12) (d := some 117) (v := _) rfl rfl (by kernel_rfl) (by kernel_rfl) (by kernel_rfl) (fun _ _ _ h => h) rfl (by assumption) ?hy_72 ?re_72
      case hy_72 =>
        intro w hSw
        try dsimp only at hSw
        go_simp
        try with_reducible rfl
      simp only [Act.put, List.setIfInBounds_toArray, List.set_cons_zero, List.set_cons_succ]
      refine' held_take (i := 13) (d := some 118) (v := _) rfl rfl (by kernel_rfl) (by kernel_rfl) (by kernel_rfl) (fun _ _ _ h => h) rfl (by assumption) ?hy_73 ?re_73
      case hy_73 =>
        intro w hSw
        try dsimp only at hSw
        go_simp
        try with_reducible rfl
      simp only [Act.put, List.setIfInBounds_toArray, List.set_cons_zero, List.set_cons_succ]
      refine' held_take (i := 14) (d := some 119) (v := _) rfl rfl (by kernel_rfl) (by kernel_rfl) (by kernel_rfl) (fun _ _ _ h => h) rfl (by assumption) ?hy_74 ?re_74
      case hy_74 =>
        intro w hSw
        try dsimp only at hSw
        go_simp
        try with_reducible rfl
      simp only [Act.put, List.setIfInBounds_toArray, List.set_cons_zero, List.set_cons_succ]
      refine' held_take (i := 15) (d := some 120) (v := _) rfl rfl (by kernel_rfl) (by kernel_rfl) (by kernel_rfl) (fun _ _ _ h => h) rfl (by assumption) ?hy_75 ?re_75
      case hy_75 =>
        intro w hSw
        try dsimp only at hSw
        go_simp
        try with_reducible rfl
      simp only [Act.put, List.setIfInBounds_toArray, List.set_cons_zero, List.set_cons_succ]
      refine' held_take (i := 16) (d := some 121) (v := _) rfl rfl (by kernel_rfl) (by kernel_rfl) (by kernel_rfl) (fun _ _ _ h => h) rfl (by assumption) ?hy_76 ?re_76
      case hy_76 =>
        intro w hSw
        try dsimp only at hSw
        go_simp
        try with_reducible rfl
      simp only [Act.put, List.setIfInBounds_toArray, List.set_cons_zero, List.set_cons_succ]
      refine' held_take (i := 17) (d := some 122) (v := _) rfl rfl (by kernel_rfl) (by kernel_rfl) (by kernel_rfl) (fun _ _ _ h => h) rfl (by assumption) ?hy_77 ?re_77
      case hy_77 =>
        intro w hSw
        try dsimp only at hSw
        go_simp
        try with_reducible rfl
      simp only [Act.put, List.setIfInBounds_toArray, List.set_cons_zero, List.set_cons_succ]
      refine' held_take (i := 18) (d := some 123) (v := _) rfl rfl (by kernel_rfl) (by kernel_rfl) (by kernel_rfl) (fun _ _ _ h => h) rfl (by assumption) ?hy_78 ?re_78
      case hy_78 =>
        intro w hSw
        try dsimp only at hSw
        go_simp
        try with_reducible rfl
      simp only [Act.put, List.setIfInBounds_toArray, List.set_cons_zero, List.set_cons_succ]
      refine' held_take (i := 19) (d := some 124) (v := _) rfl rfl (by kernel_rfl) (by kernel_rfl) (by kernel_rfl) (fun _ _ _ h => h) rfl (by assumption) ?hy_79 ?re_79
      case hy_79 =>
        intro w hSw
        try dsimp only at hSw
        go_simp
        try with_reducible rfl
      simp only [Act.put, List.setIfInBounds_toArray, List.set_cons_zero, List.set_cons_succ]
      refine' held_take (i := 20) (d := some 125) (v := _) rfl rfl (by kernel_rfl) (by kernel_rfl) (by kernel_rfl) (fun _ _ _ h => h) rfl (by assumption) ?hy_80 ?re_80
      case hy_80 =>
        intro w hSw
        try dsimp only at hSw
        go_simp
        try with_reducible rfl
      simp only [Act.put, List.setIfInBounds_toArray, List.set_cons_zero, List.set_cons_succ]
      refine' held_take (i := 21) (d := some 126) (v := _) rfl rfl (by kernel_rfl) (by kernel_rfl) (by kernel_rfl) (fun _ _ _ h => h) rfl (by assumption) ?hy_81 ?re_81
      case hy_81 =>
        intro w hSw
        try dsimp only at hSw
        go_simp
        try with_reducible rfl
      simp only [Act.put, List.setIfInBounds_toArray, List.set_cons_zero, List.set_cons_succ]
      refine' held_take (i := 22) (d := some 127) (v := _) rfl rfl (by kernel_rfl) (by kernel_rfl) (by kernel_rfl) (fun _ _ _ h => h) rfl (by assumption) ?hy_82 ?re_82
      case hy_82 =>
        intro w hSw
        try dsimp only at hSw
        go_simp
        try with_reducible rfl
      simp only [Act.put, List.setIfInBounds_toArray, List.set_cons_zero, List.set_cons_succ]
      refine' held_take (i := 23) (d := some 128) (v := _) rfl rfl (by kernel_rfl) (by kernel_rfl) (by kernel_rfl) (fun _ _ _ h => h) rfl (by assumption) ?hy_83 ?re_83
      case hy_83 =>
        intro w hSw
        try dsimp only at hSw
        go_simp
        try with_reducible rfl
      simp only [Act.put, List.setIfInBounds_toArray, List.set_cons_zero, List.set_cons_succ]
      refine' held_take (i := 24) (d := some 129) (v := _) rfl rfl (by kernel_rfl) (by kernel_rfl) (by kernel_rfl) (fun _ _ _ h => h) rfl (by assumption) ?hy_84 ?re_84
      case hy_84 =>
        intro w hSw
        try dsimp only at hSw
        go_simp
        try with_reducible rfl
      simp only [Act.put, List.setIfInBounds_toArray, List.set_cons_zero, List.set_cons_succ]
      refine' held_take (i := 25) (d := some 130) (v := _) rfl rfl (by kernel_rfl) (by kernel_rfl) (by kernel_rfl) (fun _ _ _ h => h) rfl (by assumption) ?hy_85 ?re_85
      case hy_85 =>
        intro w hSw
        try dsimp only at hSw
        go_simp
        try with_reducible rfl
      simp only [Act.put, List.setIfInBounds_toArray, List.set_cons_zero, List.set_cons_succ]
      refine' held_take (i := 26) (d := some 131) (v := _) rfl rfl (by kernel_rfl) (by kernel_rfl) (by kernel_rfl) (fun _ _ _ h => h) rfl (by assumption) ?hy_86 ?re_86
      case hy_86 =>
        intro w hSw
        try dsimp only at hSw
        go_simp
        try with_reducible rfl
      simp only [Act.put, List.setIfInBounds_toArray, List.set_cons_zero, List.set_cons_succ]
      refine' held_take (i := 27) (d := some 132) (v := _) rfl rfl (by kernel_rfl) (by kernel_rfl) (by kernel_rfl) (fun _ _ _ h => h) rfl (by assumption) ?hy_87 ?re_87
      case hy_87 =>
        intro w hSw
        try dsimp only at hSw
        go_simp
        try with_reducible rfl
      simp only [Act.put, List.setIfInBounds_toArray, List.set_cons_zero, List.set_cons_succ]
      refine' held_take (i := 28) (d := some 133) (v := _) rfl rfl (by kernel_rfl) (by kernel_rfl) (by kernel_rfl) (fun _ _ _ h => h) rfl (by assumption) ?hy_88 ?re_88
      case hy_88 =>
        intro w hSw
        try dsimp only at hSw
        go_simp
        try with_reducible rfl
      simp only [Act.put, List.setIfInBounds_toArray, List.set_cons_zero, List.set_cons_succ]
      refine' held_take (i := 29) (d := some 134) (v := _) rfl rfl (by kernel_rfl) (by kernel_rfl) (by kernel_rfl) (fun _ _ _ h => h) rfl (by assumption) ?hy_89 ?re_89
      case hy_89 =>
        intro w hSw
        try dsimp only at hSw
        go_simp
        try with_reducible rfl
      simp only [Act.put, List.setIfInBounds_toArray, List.set_cons_zero, List.set_cons_succ]
      refine' held_take (i := 30) (d := some 135) (v := _) rfl rfl (by kernel_rfl) (by kernel_rfl) (by kernel_rfl) (fun _ _ _ h => h) rfl (by assumption) ?hy_90 ?re_90
      case hy_90 =>
        intro w hSw
        try dsimp only at hSw
        go_simp
        try with_reducible rfl
      simp only [Act.put, List.setIfInBounds_toArray, List.set_cons_zero, List.set_cons_succ]
      refine' held_take (i := 31) (d := some 136) (v := _) rfl rfl (by kernel_rfl) (by kernel_rfl) (by kernel_rfl) (fun _ _ _ h => h) rfl (by assumption) ?hy_91 ?re_91
      case hy_91 =>
        intro w hSw
        try dsimp only at hSw
        go_simp
        try with_reducible rfl
      simp only [Act.put, List.setIfInBounds_toArray, List.set_cons_zero, List.set_cons_succ]
      refine' held_take (i := 32) (d := some 137) (v := _) rfl rfl (by kernel_rfl) (by kernel_rfl) (by kernel_rfl) (fun _ _ _ h => h) rfl (by assumption) ?hy_92 ?re_92
      case hy_92 =>
        intro w hSw
        try dsimp only at hSw
        go_simp
        try with_reducible rfl
      simp only [Act.put, List.setIfInBounds_toArray, List.set_cons_zero, List.set_cons_succ]
      refine' held_take (i := 33) (d := some 138) (v := _) rfl rfl (by kernel_rfl) (by kernel_rfl) (by kernel_rfl) (fun _ _ _ h => h) rfl (by assumption) ?hy_93 ?re_93
      case hy_93 =>
        intro w hSw
        try dsimp only at hSw
        go_simp
        try with_reducible rfl
      simp only [Act.put, List.setIfInBounds_toArray, List.set_cons_zero, List.set_cons_succ]
      refine wpAnyH_ready (rs := [34]) (by kernel_rfl) (by simp) ?_
      refine AllReadyH.cons rfl (fun K hK => ?_) AllReadyH.nil
      go_simp
      refine (htt.out _ (hD0.out _)).mono ?_
      rintro e wd1 ⟨rfl, hb⟩
      have hD1 := Lib.hid (below_trans (hD0.out _) hb)
      clear hb
      go_wp2_with fail
      refine hK.out _ _ ?_ (fun hHeld => ?_)
      · exact hSB.out _ hD1.out
      clear hK K
      try simp only [Act.put, List.setIfInBounds_toArray, List.set_cons_zero, List.set_cons_succ]
      refine' held_take (i := 35) (d := some 104) (v := _) rfl rfl (by kernel_rfl) (by kernel_rfl) (by kernel_rfl) (fun _ _ _ h => h) rfl (by assumption) ?hy_94 ?re_94
      case hy_94 =>
        intro w hSw
        try dsimp only at hSw
        go_simp
        try with_reducible rfl
      simp only [Act.put, List.setIfInBounds_toArray, List.set_cons_zero, List.set_cons_succ]
      refine' held_take (i := 36) (d := some 140) (v := _) rfl rfl (by kernel_rfl) (by kernel_rfl) (by kernel_rfl) (fun _ _ _ h => h) rfl (by assumption) ?hy_95 ?re_95
      case hy_95 =>
        intro w hSw
        try dsimp only at hSw
        go_simp
        try with_reducible rfl
      simp only [Act.put, List.setIfInBounds_toArray, List.set_cons_zero, List.set_cons_succ]
      refine' held_take (i := 37) (d := some 141) (v := _) rfl rfl (by kernel_rfl) (by kernel_rfl) (by kernel_rfl) (fun _ _ _ h => h) rfl (by assumption) ?hy_96 ?re_96
      case hy_96 =>
        intro w hSw
        try dsimp only at hSw
        go_simp
        try with_reducible rfl
      simp only [Act.put, List.setIfInBounds_toArray, List.set_cons_zero, List.set_cons_succ]
      refine' held_take (i := 38) (d := some 14) (v := _) rfl rfl (by kernel_rfl) (by kernel_rfl) (by kernel_rfl) (fun _ _ _ h => h) rfl (by assumption) ?hy_97 ?re_97
      case hy_97 =>
        intro w hSw
        try dsimp only at hSw
        go_simp
        try with_reducible rfl
      simp only [Act.put, List.setIfInBounds_toArray, List.set_cons_zero, List.set_cons_succ]
      refine' held_take (i := 39) (d := some 12) (v := _) rfl rfl (by kernel_rfl) (by kernel_rfl) (by kernel_rfl) (fun _ _ _ h => h) rfl (by assumption) ?hy_98 ?re_98
      case hy_98 =>
        intro w hSw
        try dsimp only at hSw
        go_simp
        try with_reducible rfl
      simp only [Act.put, List.setIfInBounds_toArray, List.set_cons_zero, List.set_cons_succ]
      refine wpAnyH_done (by kernel_rfl) ?_ _
      refine NoPanic.normal ?_
      go_wp2_with fail
      go_meet
      exact ⟨rfl, rfl, hD1⟩
    obtain ⟨rfl, rfl, hX⟩ := hcut
    have hK4 := Lib.hid (below_trans hK3.out hX.out)
    clear hX hD0 hSB htt
    generalize wc = w4 at *
    by_cases hm0 : mc = 0
    case neg =>
      rw [if_neg hm0] at hq
      subst hq
      try dsimp only
      have hmz : ¬ mz = 0 := by have := hmd.out; omega
      have hmz2 : (mz == 0) = false := by simpa using hmz
      have hfin := Lib.hid (hfin0.out _ hK4.out)
      go_wp2_with fail
      go_ret2
      exact ⟨by first | rfl | (rw [hmd.out]; rfl), hfin.out⟩
    subst hm0
    rw [if_pos rfl] at hq
    subst hq
    try dsimp only
    have hmz : mz = 0 := by have := hmd.out; omega
    subst hmz
    have hfin := Lib.hid (hfin1.out _ hK4.out)
    obtain ⟨al2, cl2, ⟨_, _, _, c3, _, _⟩, ⟨_, _, _, g3, _, _⟩, _⟩ := (hRw.out _ hK4.out).cells
    try dsimp only at c3
    go_wp2_with fail
    go_ret2
    exact ⟨rfl, hfin.out⟩
end Go.Proofs.YtkhphdkjnpcnnaaGreatDoor
