/- ProofL -/
import Derived.Test.YtkhphdkjnpcnnaaGreatDoorMg39
import Derived.Test.YtkhphdkjnpcnnaaGreatDoorMg20
/- The law's helper proof: walked. -/
namespace Go.Proofs.YtkhphdkjnpcnnaaGreatDoor
open Go.RowKit

theorem proofOf_eq (R : Rlm) (q : AskV) : proofOf R q = if q.is = false ∨ getC R.b q.a ≠ 0 then q.n else (markOf (getV R.b q.a).key (proofM R q.a)).1 := by
  unfold proofOf getC getV
  cases findP R.b q.a with
  | none => cases q.is <;> rfl
  | some p => cases q.is <;> rfl
set_option maxHeartbeats 4000000 in
set_option maxRecDepth 100000 in
theorem proofL_any {base m b : Nat} {R : Rlm} (q : AskV) (w : World) (hR : RRlmAt w base m b R) (hG : GoodM R) (hn : q.a.length ≤ 1000) :
    Calls Tryz.prog 13 #[.pointer (some ⟨m, 0, none⟩), .agg #[.string (bs q.kind), .string (bs q.a), .string (bs q.b), .string (bs q.s), .int .i64 q.n, .bool q.is]] w fun e w' => e = .returned (.int .i64 (proofOf R q)) ∧ Below w.heap.size w w' := by
  have hq := proofOf_eq R q
  generalize proofOf R q = po at *
  obtain ⟨qk, qa, qb, qs, qn, qi⟩ := q
  dsimp only at *
  have hB0 : Below w.heap.size w (w.alloc (.cells #[.string (bs qk), .string (bs qa), .string (bs qb), .string (bs qs), .int .i64 qn, .bool qi] 36)) := (Below.refl _ _).alloc (Nat.le_refl _) _
  have hbx := heap_alloc_new w (.cells #[.string (bs qk), .string (bs qa), .string (bs qb), .string (bs qs), .int .i64 qn, .bool qi] 36)
  have hR1 := hR.below hB0
  have hM := hG.b.many
  have ht0 := hG.t0
  have ht1 := hG.t1
  have hBH := Lib.hid hB0
  clear hB0 hR
  go_enter Tryz.func13, Tryz.ntmps13
  go_upto_region 1 with fail
  generalize hxb : w.heap.size = xb at *
  generalize w.alloc (.cells #[.string (bs qk), .string (bs qa), .string (bs qb), .string (bs qs), .int .i64 qn, .bool qi] 36) = W at *
  have hxw := Lib.hid (fun wx (hx : Below W.heap.size W wx) => (six_of (heap_down hx hbx)).1)
  obtain ⟨al, cl, ⟨_, _, c2, _, c4, _⟩, _, _⟩ := hR1.cells
  have hbk := hR1.book
  have hfi := Lib.hid (fun wx (hx : Below W.heap.size W wx) => findR_any base b R.b qa wx (hR1.below hx).book (by omega))
  have hsz : (bs qa).size = qa.length := bs_size qa
  have hsI : (bs (Lib.itoa R.time)).size ≤ 20 := by rw [bs_size]; exact itoa_len (by omega) (by omega)
  have hsA : ¬ 9223372036854775807 < (bs qa).size + 1 := by omega
  have hsB : ¬ 9223372036854775807 < (bs qa).size + 1 + (bs (Lib.itoa R.time)).size := by omega
  have hpe : bs qa ++ (⟨#[32]⟩ : ByteArray) ++ bs (Lib.itoa R.time) = bs (proofM R qa) := by
    rw [show (⟨#[32]⟩ : ByteArray) = bs [32] from rfl, str_add, str_add, List.append_assoc]
    rfl
  have hsP : (bs (proofM R qa)).size ≤ maxLen := by
    rw [← hpe, ByteArray.size_append, ByteArray.size_append]
    have : (⟨#[32]⟩ : ByteArray).size = 1 := rfl
    unfold maxLen
    omega
  have hmo := Lib.hid (fun k (wx : World) => (show Calls Tryz.prog 24 #[.int .i64 k, .string (bs qa ++ (⟨#[32]⟩ : ByteArray) ++ bs (Lib.itoa R.time))] wx fun e w' => e = .returned (.tuple #[.int .i64 (markOf k (proofM R qa)).1, .int .i64 ((markOf k (proofM R qa)).2 : Nat)]) ∧ Below wx.heap.size wx w' by
    rw [hpe]
    exact (markOf_any k (bs (proofM R qa)) wx hsP).mono fun e w' ⟨h1, h2⟩ => ⟨h1, by rw [← h2]; exact Below.refl _ _⟩))
  have hde := Lib.hid (fun (wx : World) (_ : Below W.heap.size W wx) => decimal_any R.time wx (by omega) (by omega))
  clear hpe hsP hsz hG
  generalize proofM R qa = pf at *
  have hSA := Lib.hid (fun wx (hx : Below W.heap.size W wx) => (show wx.cell? ⟨m, 4, none⟩ = some (.pointer (some ⟨b, 0, none⟩)) ∧ wx.cell? ⟨xb, 1, none⟩ = some (.string (bs qa)) from ⟨cell_below hx c4, (hxw.out _ hx).2.1⟩))
  have hD0 := Lib.hid (show Below W.heap.size W W.drew from (Below.refl _ _).drew)
  obtain ⟨rk, rl, rt, rs, rb, rL⟩ := R
  dsimp only at *
  have hcw := Lib.hid (fun wx (hx : Below W.heap.size W wx) => (And.intro (cell_below hx c4) (cell_below hx c2)))
  have hbk := Lib.hid hbk
  clear c2 c4 hbx hR1
  go_cut [5] from 5 to 14 (fun s5 wx => s5 = .int .i64 (findIx rb qa) ∧ Hid (Below W.heap.size W wx))
  case first =>
    refine wp_region_noPanic ?_
    refine wp_region_held_drew (S := fun wx => wx.cell? ⟨m, 4, none⟩ = some (.pointer (some ⟨b, 0, none⟩)) ∧ wx.cell? ⟨xb, 1, none⟩ = some (.string (bs qa))) (by kernel_rfl) ?_ (fun hHeld => ?_)
    · exact hSA.out _ hD0.out
    refine' held_take (i := 0) (d := some 8) (v := _) rfl rfl (by kernel_rfl) (by kernel_rfl) (by kernel_rfl) (fun _ _ _ h => h) rfl (by assumption) ?hy_1 ?re_1
    case hy_1 =>
      intro w hSw
      try dsimp only at hSw
      go_simp
      try with_reducible rfl
    simp only [Act.put, List.setIfInBounds_toArray, List.set_cons_zero, List.set_cons_succ]
    refine' held_take (i := 1) (d := some 9) (v := _) rfl rfl (by kernel_rfl) (by kernel_rfl) (by kernel_rfl) (fun _ _ _ h => h) rfl (by assumption) ?hy_2 ?re_2
    case hy_2 =>
      intro w hSw
      try dsimp only at hSw
      go_simp
      try with_reducible rfl
    simp only [Act.put, List.setIfInBounds_toArray, List.set_cons_zero, List.set_cons_succ]
    refine' held_take (i := 2) (d := some 10) (v := _) rfl rfl (by kernel_rfl) (by kernel_rfl) (by kernel_rfl) (fun _ _ _ h => h) rfl (by assumption) ?hy_3 ?re_3
    case hy_3 =>
      intro w hSw
      try dsimp only at hSw
      go_simp
      try with_reducible rfl
    simp only [Act.put, List.setIfInBounds_toArray, List.set_cons_zero, List.set_cons_succ]
    refine' held_take (i := 3) (d := some 11) (v := _) rfl rfl (by kernel_rfl) (by kernel_rfl) (by kernel_rfl) (fun _ _ _ h => h) rfl (by assumption) ?hy_4 ?re_4
    case hy_4 =>
      intro w hSw
      try dsimp only at hSw
      go_simp
      try with_reducible rfl
    simp only [Act.put, List.setIfInBounds_toArray, List.set_cons_zero, List.set_cons_succ]
    refine' held_take (i := 4) (d := some 12) (v := _) rfl rfl (by kernel_rfl) (by kernel_rfl) (by kernel_rfl) (fun _ _ _ h => h) rfl (by assumption) ?hy_5 ?re_5
    case hy_5 =>
      intro w hSw
      try dsimp only at hSw
      go_simp
      try with_reducible rfl
    simp only [Act.put, List.setIfInBounds_toArray, List.set_cons_zero, List.set_cons_succ]
    refine' held_take (i := 5) (d := some 13) (v := _) rfl rfl (by kernel_rfl) (by kernel_rfl) (by kernel_rfl) (fun _ _ _ h => h) rfl (by assumption) ?hy_6 ?re_6
    case hy_6 =>
      intro w hSw
      try dsimp only at hSw
      go_simp
      try with_reducible rfl
    simp only [Act.put, List.setIfInBounds_toArray, List.set_cons_zero, List.set_cons_succ]
    refine wpAnyH_ready (rs := [6]) (by kernel_rfl) (by simp) ?_
    refine AllReadyH.cons rfl (fun K hK => ?_) AllReadyH.nil
    go_simp
    refine (hfi.out _ hD0.out).mono ?_
    rintro e wd1 ⟨rfl, hb⟩
    have hD1 := Lib.hid (below_trans hD0.out hb)
    clear hb
    go_wp2_with fail
    refine hK.out _ _ ?_ (fun hHeld => ?_)
    · exact hSA.out _ hD1.out
    clear hK K
    try simp only [Act.put, List.setIfInBounds_toArray, List.set_cons_zero, List.set_cons_succ]
    refine' held_take (i := 7) (d := some 5) (v := _) rfl rfl (by kernel_rfl) (by kernel_rfl) (by kernel_rfl) (fun _ _ _ h => h) rfl (by assumption) ?hy_7 ?re_7
    case hy_7 =>
      intro w hSw
      try dsimp only at hSw
      go_simp
      try with_reducible rfl
    simp only [Act.put, List.setIfInBounds_toArray, List.set_cons_zero, List.set_cons_succ]
    refine wpAnyH_done (by kernel_rfl) ?_ _
    refine NoPanic.normal ?_
    go_wp2_with fail
    go_meet
    exact ⟨rfl, hD1⟩
  obtain ⟨rfl, hX⟩ := hcut
  have hK2 := hX
  obtain ⟨x0, x1, x2, x3, x4, x5⟩ := hxw.out _ hK2.out
  clear hX hD0 hSA hfi
  generalize hwc : wc = w2 at *
  cases qi with
  | false =>
    rw [if_pos (.inl rfl)] at hq
    subst hq
    have hfin := Lib.hid (by have := hBH.out.trans (hK2.out.mono (by rw [← hxb]; exact hBH.out.size)); exact this)
    generalize findIx rb qa = z at *
    go_wp2_with fail
    go_ret
    exact ⟨rfl, by rw [hxb]; exact hfin.out⟩
  | true =>
    cases hi : idxP rb qa with
    | none =>
      rw [if_pos (.inr (by rw [getC_none hi]; decide))] at hq
      subst hq
      rw [findIx_none hi]
      have hfin := Lib.hid (by have := hBH.out.trans (hK2.out.mono (by rw [← hxb]; exact hBH.out.size)); exact this)
      go_wp2_with fail
      go_ret
      exact ⟨rfl, by rw [hxb]; exact hfin.out⟩
    | some kp =>
      obtain ⟨hkp, hgv, hgc⟩ := getV_some hi
      rw [if_neg (by rw [hgc]; simp), hgv] at hq
      rw [findIx_some hi]
      obtain ⟨g, c, e0, _, ⟨_, e1, _, _⟩, _⟩ := (hbk.out.below hK2.out).cells hkp
      obtain ⟨c4, c2⟩ := hcw.out _ hK2.out
      generalize rb[kp] = P at *
      obtain ⟨pn, pk, pe, po2⟩ := P
      dsimp only at *
      have hkp0 : ¬ ((kp : Int) < 0) := by omega
      have hkp1 : (0 : Int) ≤ (kp : Int) := by omega
      have hkp2 : (kp : Int) < (rb.length : Int) := by omega
      have hmo := Lib.hid (fun (wx : World) (_ : Below w2.heap.size w2 wx) => hmo.out pk wx)
      have hde := Lib.hid (fun (wx : World) (hx : Below w2.heap.size w2 wx) => hde.out wx (below_trans hK2.out hx))
      generalize markOf pk pf = mo at *
      obtain ⟨mn, mc⟩ := mo
      dsimp only at *
      subst hq
      have hSB := Lib.hid (fun wx (hx : Below w2.heap.size w2 wx) => (show (wx.cell? ⟨m, 4, none⟩ = some (.pointer (some ⟨b, 0, none⟩)) ∧ wx.cell? ⟨m, 2, none⟩ = some (.int .i64 rt)) ∧ wx.cell? ⟨b, 0, none⟩ = some (.slice (some ⟨g, 0, none⟩) rb.length c) ∧ wx.cell? ⟨g, kp * 4 + 1, none⟩ = some (.int .i64 pk) ∧ wx.cell? ⟨xb, 1, none⟩ = some (.string (bs qa)) from ⟨⟨cell_below hx c4, cell_below hx c2⟩, cell_below hx e0, cell_below hx e1, cell_below hx x1⟩))
      have hD0 := Lib.hid (show Below w2.heap.size w2 w2.drew from (Below.refl _ _).drew)
      have hBW := Lib.hid (by have := hBH.out.trans (hK2.out.mono (by rw [← hxb]; exact hBH.out.size)); exact this)
      clear hgv hgc hi
      go_upto_region 4 with fail
      clear c2 c4 e0 e1 x0 x1 x2 x3 x4 x5
      refine wp_region_noPanic ?_
      refine wp_region_held_drew (S := fun wx => (wx.cell? ⟨m, 4, none⟩ = some (.pointer (some ⟨b, 0, none⟩)) ∧ wx.cell? ⟨m, 2, none⟩ = some (.int .i64 rt)) ∧ wx.cell? ⟨b, 0, none⟩ = some (.slice (some ⟨g, 0, none⟩) rb.length c) ∧ wx.cell? ⟨g, kp * 4 + 1, none⟩ = some (.int .i64 pk) ∧ wx.cell? ⟨xb, 1, none⟩ = some (.string (bs qa))) (by kernel_rfl) ?_ (fun hHeld => ?_)
      · exact hSB.out _ hD0.out
      refine' held_take (i := 0) (d := some 25) (v := _) rfl rfl (by kernel_rfl) (by kernel_rfl) (by kernel_rfl) (fun _ _ _ h => h) rfl (by assumption) ?hy_8 ?re_8
      case hy_8 =>
        intro w hSw
        try dsimp only at hSw
        go_simp
        try with_reducible rfl
      simp only [Act.put, List.setIfInBounds_toArray, List.set_cons_zero, List.set_cons_succ]
      refine' held_take (i := 1) (d := some 26) (v := _) rfl rfl (by kernel_rfl) (by kernel_rfl) (by kernel_rfl) (fun _ _ _ h => h) rfl (by assumption) ?hy_9 ?re_9
      case hy_9 =>
        intro w hSw
        try dsimp only at hSw
        go_simp
        try with_reducible rfl
      simp only [Act.put, List.setIfInBounds_toArray, List.set_cons_zero, List.set_cons_succ]
      refine' held_take (i := 2) (d := some 27) (v := _) rfl rfl (by kernel_rfl) (by kernel_rfl) (by kernel_rfl) (fun _ _ _ h => h) rfl (by assumption) ?hy_10 ?re_10
      case hy_10 =>
        intro w hSw
        try dsimp only at hSw
        go_simp
        try with_reducible rfl
      simp only [Act.put, List.setIfInBounds_toArray, List.set_cons_zero, List.set_cons_succ]
      refine' held_take (i := 3) (d := some 28) (v := _) rfl rfl (by kernel_rfl) (by kernel_rfl) (by kernel_rfl) (fun _ _ _ h => h) rfl (by assumption) ?hy_11 ?re_11
      case hy_11 =>
        intro w hSw
        try dsimp only at hSw
        go_simp
        try with_reducible rfl
      simp only [Act.put, List.setIfInBounds_toArray, List.set_cons_zero, List.set_cons_succ]
      refine' held_take (i := 4) (d := some 29) (v := _) rfl rfl (by kernel_rfl) (by kernel_rfl) (by kernel_rfl) (fun _ _ _ h => h) rfl (by assumption) ?hy_12 ?re_12
      case hy_12 =>
        intro w hSw
        try dsimp only at hSw
        go_simp
        try with_reducible rfl
      simp only [Act.put, List.setIfInBounds_toArray, List.set_cons_zero, List.set_cons_succ]
      refine' held_take (i := 5) (d := some 30) (v := _) rfl rfl (by kernel_rfl) (by kernel_rfl) (by kernel_rfl) (fun _ _ _ h => h) rfl (by assumption) ?hy_13 ?re_13
      case hy_13 =>
        intro w hSw
        try dsimp only at hSw
        go_simp
        try with_reducible rfl
      simp only [Act.put, List.setIfInBounds_toArray, List.set_cons_zero, List.set_cons_succ]
      refine' held_take (i := 6) (d := some 31) (v := _) rfl rfl (by kernel_rfl) (by kernel_rfl) (by kernel_rfl) (fun _ _ _ h => h) rfl (by assumption) ?hy_14 ?re_14
      case hy_14 =>
        intro w hSw
        try dsimp only at hSw
        go_simp
        try with_reducible rfl
      simp only [Act.put, List.setIfInBounds_toArray, List.set_cons_zero, List.set_cons_succ]
      refine' held_take (i := 7) (d := some 32) (v := _) rfl rfl (by kernel_rfl) (by kernel_rfl) (by kernel_rfl) (fun _ _ _ h => h) rfl (by assumption) ?hy_15 ?re_15
      case hy_15 =>
        intro w hSw
        try dsimp only at hSw
        go_simp
        try with_reducible rfl
      simp only [Act.put, List.setIfInBounds_toArray, List.set_cons_zero, List.set_cons_succ]
      refine' held_take (i := 8) (d := some 33) (v := _) rfl rfl (by kernel_rfl) (by kernel_rfl) (by kernel_rfl) (fun _ _ _ h => h) rfl (by assumption) ?hy_16 ?re_16
      case hy_16 =>
        intro w hSw
        try dsimp only at hSw
        go_simp
        try with_reducible rfl
      simp only [Act.put, List.setIfInBounds_toArray, List.set_cons_zero, List.set_cons_succ]
      refine' held_take (i := 9) (d := some 34) (v := _) rfl rfl (by kernel_rfl) (by kernel_rfl) (by kernel_rfl) (fun _ _ _ h => h) rfl (by assumption) ?hy_17 ?re_17
      case hy_17 =>
        intro w hSw
        try dsimp only at hSw
        go_simp
        try with_reducible rfl
      simp only [Act.put, List.setIfInBounds_toArray, List.set_cons_zero, List.set_cons_succ]
      refine' held_take (i := 10) (d := some 35) (v := _) rfl rfl (by kernel_rfl) (by kernel_rfl) (by kernel_rfl) (fun _ _ _ h => h) rfl (by assumption) ?hy_18 ?re_18
      case hy_18 =>
        intro w hSw
        try dsimp only at hSw
        go_simp
        try with_reducible rfl
      simp only [Act.put, List.setIfInBounds_toArray, List.set_cons_zero, List.set_cons_succ]
      refine' held_take (i := 11) (d := some 36) (v := _) rfl rfl (by kernel_rfl) (by kernel_rfl) (by kernel_rfl) (fun _ _ _ h => h) rfl (by assumption) ?hy_19 ?re_19
      case hy_19 =>
        intro w hSw
        try dsimp only at hSw
        go_simp
        try with_reducible rfl
      simp only [Act.put, List.setIfInBounds_toArray, List.set_cons_zero, List.set_cons_succ]
      refine' held_take (i := 12) (d := some 37) (v := _) rfl rfl (by kernel_rfl) (by kernel_rfl) (by kernel_rfl) (fun _ _ _ h => h) rfl (by assumption) ?hy_20 ?re_20
      case hy_20 =>
        intro w hSw
        try dsimp only at hSw
        go_simp
        try with_reducible rfl
      simp only [Act.put, List.setIfInBounds_toArray, List.set_cons_zero, List.set_cons_succ]
      refine' held_take (i := 13) (d := some 38) (v := _) rfl rfl (by kernel_rfl) (by kernel_rfl) (by kernel_rfl) (fun _ _ _ h => h) rfl (by assumption) ?hy_21 ?re_21
      case hy_21 =>
        intro w hSw
        try dsimp only at hSw
        go_simp
        try with_reducible rfl
      simp only [Act.put, List.setIfInBounds_toArray, List.set_cons_zero, List.set_cons_succ]
      refine' held_take (i := 14) (d := some 39) (v := _) rfl rfl (by kernel_rfl) (by kernel_rfl) (by kernel_rfl) (fun _ _ _ h => h) rfl (by assumption) ?hy_22 ?re_22
      case hy_22 =>
        intro w hSw
        try dsimp only at hSw
        go_simp
        try with_reducible rfl
      simp only [Act.put, List.setIfInBounds_toArray, List.set_cons_zero, List.set_cons_succ]
      refine' held_take (i := 15) (d := some 40) (v := _) rfl rfl (by kernel_rfl) (by kernel_rfl) (by kernel_rfl) (fun _ _ _ h => h) rfl (by assumption) ?hy_23 ?re_23
      case hy_23 =>
        intro w hSw
        try dsimp only at hSw
        go_simp
        try with_reducible rfl
      simp only [Act.put, List.setIfInBounds_toArray, List.set_cons_zero, List.set_cons_succ]
      refine' held_take (i := 16) (d := some 41) (v := _) rfl rfl (by kernel_rfl) (by kernel_rfl) (by kernel_rfl) (fun _ _ _ h => h) rfl (by assumption) ?hy_24 ?re_24
      case hy_24 =>
        intro w hSw
        try dsimp only at hSw
        go_simp
        try with_reducible rfl
      simp only [Act.put, List.setIfInBounds_toArray, List.set_cons_zero, List.set_cons_succ]
      refine' held_take (i := 17) (d := some 42) (v := _) rfl rfl (by kernel_rfl) (by kernel_rfl) (by kernel_rfl) (fun _ _ _ h => h) rfl (by assumption) ?hy_25 ?re_25
      case hy_25 =>
        intro w hSw
        try dsimp only at hSw
        go_simp
        try with_reducible rfl
      simp only [Act.put, List.setIfInBounds_toArray, List.set_cons_zero, List.set_cons_succ]
      refine wpAnyH_ready (rs := [18]) (by kernel_rfl) (by simp) ?_
      refine AllReadyH.cons rfl (fun K hK => ?_) AllReadyH.nil
      go_simp
      refine (hde.out _ hD0.out).mono ?_
      rintro e wd1 ⟨rfl, hb⟩
      have hD1 := Lib.hid (below_trans hD0.out hb)
      clear hb
      go_wp2_with fail
      refine hK.out _ _ ?_ (fun hHeld => ?_)
      · exact hSB.out _ hD1.out
      clear hK K
      try simp only [Act.put, List.setIfInBounds_toArray, List.set_cons_zero, List.set_cons_succ]
      refine' held_take (i := 19) (d := some 44) (v := _) rfl rfl (by kernel_rfl) (by kernel_rfl) (by kernel_rfl) (fun _ _ _ h => h) rfl (by assumption) ?hy_26 ?re_26
      case hy_26 =>
        intro w hSw
        try dsimp only at hSw
        go_simp
        try with_reducible rfl
      simp only [Act.put, List.setIfInBounds_toArray, List.set_cons_zero, List.set_cons_succ]
      refine wpAnyH_ready (rs := [20]) (by kernel_rfl) (by simp) ?_
      refine AllReadyH.cons rfl (fun K hK => ?_) AllReadyH.nil
      go_simp
      refine (hmo.out _ hD1.out).mono ?_
      rintro e wd2 ⟨rfl, hb⟩
      have hD2 := Lib.hid (below_trans hD1.out hb)
      clear hb
      go_wp2_with fail
      refine hK.out _ _ ?_ (fun hHeld => ?_)
      · exact hSB.out _ hD2.out
      clear hK K
      try simp only [Act.put, List.setIfInBounds_toArray, List.set_cons_zero, List.set_cons_succ]
      refine' held_take (i := 21) (d := some 24) (v := _) rfl rfl (by kernel_rfl) (by kernel_rfl) (by kernel_rfl) (fun _ _ _ h => h) rfl (by assumption) ?hy_27 ?re_27
      case hy_27 =>
        intro w hSw
        try dsimp only at hSw
        go_simp
        try with_reducible rfl
      simp only [Act.put, List.setIfInBounds_toArray, List.set_cons_zero, List.set_cons_succ]
      refine' held_take (i := 22) (d := some 46) (v := _) rfl rfl (by kernel_rfl) (by kernel_rfl) (by kernel_rfl) (fun _ _ _ h => h) rfl (by assumption) ?hy_28 ?re_28
      case hy_28 =>
        intro w hSw
        try dsimp only at hSw
        go_simp
        try with_reducible rfl
      simp only [Act.put, List.setIfInBounds_toArray, List.set_cons_zero, List.set_cons_succ]
      refine' held_take (i := 23) (d := some 47) (v := _) rfl rfl (by kernel_rfl) (by kernel_rfl) (by kernel_rfl) (fun _ _ _ h => h) rfl (by assumption) ?hy_29 ?re_29
      case hy_29 =>
        intro w hSw
        try dsimp only at hSw
        go_simp
        try with_reducible rfl
      simp only [Act.put, List.setIfInBounds_toArray, List.set_cons_zero, List.set_cons_succ]
      refine' held_take (i := 24) (d := some 6) (v := _) rfl rfl (by kernel_rfl) (by kernel_rfl) (by kernel_rfl) (fun _ _ _ h => h) rfl (by assumption) ?hy_30 ?re_30
      case hy_30 =>
        intro w hSw
        try dsimp only at hSw
        go_simp
        try with_reducible rfl
      simp only [Act.put, List.setIfInBounds_toArray, List.set_cons_zero, List.set_cons_succ]
      refine' held_take (i := 25) (d := some 7) (v := _) rfl rfl (by kernel_rfl) (by kernel_rfl) (by kernel_rfl) (fun _ _ _ h => h) rfl (by assumption) ?hy_31 ?re_31
      case hy_31 =>
        intro w hSw
        try dsimp only at hSw
        go_simp
        try with_reducible rfl
      simp only [Act.put, List.setIfInBounds_toArray, List.set_cons_zero, List.set_cons_succ]
      refine wpAnyH_done (by kernel_rfl) ?_ _
      refine NoPanic.normal ?_
      have hfin := Lib.hid (by have := hBW.out.trans (hD2.out.mono (by rw [← hxb]; exact hBW.out.size)); exact this)
      go_wp2_with fail
      go_ret
      exact ⟨rfl, by rw [hxb]; exact hfin.out⟩
end Go.Proofs.YtkhphdkjnpcnnaaGreatDoor
