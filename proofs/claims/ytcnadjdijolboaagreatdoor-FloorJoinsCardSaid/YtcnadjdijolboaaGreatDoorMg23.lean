/- FloY -/
import Derived.Test.YtcnadjdijolboaaGreatDoorMg19
import Derived.Test.YtcnadjdijolboaaGreatDoorMg20
import Derived.Test.YtcnadjdijolboaaGreatDoorMg22
import Derived.Test.YtcnadjdijolboaaGreatDoorMg9
import Derived.Test.YtcnadjdijolboaaGreatDoorMg8
/- FloorJoins: walked. -/
namespace Go.Proofs.YtcnadjdijolboaaGreatDoor
open Go.RowKit

theorem check_nil {E : Nat → Addr} (v : Value) (L : List Flo) (w : World) (hL : Laid E w) (hv : FloorsAt w v L) (hm : ∀ f ∈ L, f.who.length ≤ maxLen) (h : (checkF L).1 = 0) :
    Calls Tryz.prog 7 #[v] w fun e w' => e = .returned .nilIface ∧ Below w.heap.size w w' :=
  (check_flo v L w hL hv hm).mono fun e w' ⟨ev, h1, h2, h3⟩ => by
    obtain ⟨rfl, _⟩ := h2.zero h
    exact ⟨h1, h3⟩
theorem check_err {E : Nat → Addr} (v : Value) (L : List Flo) (w : World) (hL : Laid E w) (hv : FloorsAt w v L) (hm : ∀ f ∈ L, f.who.length ≤ maxLen) (h : (checkF L).1 ≠ 0) :
    Calls Tryz.prog 7 #[v] w fun e w' => ∃ T x, e = .returned (.iface T (.pointer (some x))) ∧ Below w.heap.size w w' :=
  (check_flo v L w hL hv hm).mono fun e w' ⟨ev, h1, h2, h3⟩ => by
    obtain ⟨T, x, rfl⟩ := h2.iface h
    exact ⟨T, x, h1, h3⟩
/-- A join of what is right, by its relation. -/
theorem join_rows {E : Nat → Addr} (va vb : Value) (a b : List Flo) (w : World) (hL : Laid E w) (hva : AtG floC w va a) (hvb : AtG floC w vb b) (hma : ∀ f ∈ a, f.who.length ≤ maxLen) (hmb : ∀ f ∈ b, f.who.length ≤ maxLen) :
    Calls Tryz.prog 10 #[va, vb] w fun e w' => ∃ r ev v, JoinF a b r ∧ e = .returned (.tuple #[v, ev]) ∧ RowG floC w' w.heap.size 24 v r.1 ∧ ErrAt E w' ev r.2.1 r.2.2 ∧ Below w.heap.size w w' :=
  (join_flo va vb a b w hL hva hvb hma hmb).mono fun e w' ⟨⟨r, ev, v, h1, h2, h3, h4⟩, h5⟩ => ⟨r, ev, v, h1, h2, floRow_G.1 h3, h4, h5⟩
theorem good_who {L : List Flo} (h : GoodF L) : ∀ f ∈ L, f.who.length ≤ maxLen := fun f hf => by
  have := (floW_len (h.g.one f hf)).2.1
  unfold maxLen
  omega
set_option maxHeartbeats 32000000 in
set_option maxRecDepth 100000 in
theorem floorJoins_any {E : Nat → Addr} (va vb : Value) (a b : List Flo) (f : Flo) (s : List UInt8) (en : Int) (w : World) (hL : LaidS E w) (hva : AtG floC w va a) (hvb : AtG floC w vb b) (hma : ∀ f ∈ a, f.who.length ≤ maxLen) (hmb : ∀ f ∈ b, f.who.length ≤ maxLen) (hf : f.who.length ≤ maxLen) (hs : s.length ≤ maxLen) :
    Calls Tryz.prog 3 #[va, vb, f.val, .string (bs s), .int .i64 en] w fun e w' => e = .returned (.bool true) ∧ Below w.heap.size w w' := by
  obtain ⟨fw, fe⟩ := f
  dsimp only [Flo.val, Flo.cells] at *
  have hB0 : Below w.heap.size w (w.alloc (.cells #[.string (bs fw), .int .i64 fe] 24)) := (Below.refl _ _).alloc (Nat.le_refl _) _
  have hbx := heap_alloc_new w (.cells #[.string (bs fw), .int .i64 fe] 24)
  have hLw := Lib.hid (fun wx (hx : Below w.heap.size w wx) => hL.below hx)
  have hAv := Lib.hid (fun wx (hx : Below w.heap.size w wx) => (show AtG floC wx va a from AtG.below hva hx))
  have hBv := Lib.hid (fun wx (hx : Below w.heap.size w wx) => (show AtG floC wx vb b from AtG.below hvb hx))
  have hfo := Lib.hid (floored_any (E := E) _ (hL.below hB0).laid)
  have hlgA := Lib.hid (fun wx (hx : Below w.heap.size w wx) => longf_flo va a wx (floorsAt_of (hAv.out wx hx)) hma)
  have hlgB := Lib.hid (fun wx (hx : Below w.heap.size w wx) => longf_flo vb b wx (floorsAt_of (hBv.out wx hx)) hmb)
  have hmaH := Lib.hid hma
  have hmbH := Lib.hid hmb
  have hfH := Lib.hid hf
  obtain ⟨aa, ca0, hsa⟩ := AtG.sl hva
  obtain ⟨ab, cb0, hsb⟩ := AtG.sl hvb
  have hfs := bs_size fw
  have hss := bs_size s
  unfold maxLen at hf hs
  subst hsa
  subst hsb
  have hBH := Lib.hid hB0
  have hbxH := Lib.hid (fun wx (hx : Below (w.alloc (.cells #[.string (bs fw), .int .i64 fe] 24)).heap.size (w.alloc (.cells #[.string (bs fw), .int .i64 fe] 24)) wx) => (two_kept hx hbx).1)
  clear hL hma hmb hva hvb hB0 hbx
  go_enter Tryz.func3, Tryz.ntmps3
  go_wp2_with fail
  generalize hWd : w.alloc (.cells #[.string (bs fw), .int .i64 fe] 24) = W at *
  clear hWd
  refine hfo.out.mono ?_
  rintro e w1 ⟨rfl, hb1⟩
  have hK1 := Lib.hid hb1
  have hlgA1 := hlgA.out _ (below_trans hBH.out hb1)
  clear hfo hlgA hb1
  by_cases hlo : longF a = false ∧ longF b = false
  case neg =>
    have hx : ∃ x y : Int, longI a = x ∧ longI b = y ∧ 0 ≤ x ∧ x ≤ 1 ∧ 0 ≤ y ∧ y ≤ 1 ∧ 0 < x + y := ⟨_, _, rfl, rfl, by unfold longI; split <;> decide, by unfold longI; split <;> decide, by unfold longI; split <;> decide, by unfold longI; split <;> decide, by
      unfold longI
      cases h1 : longF a <;> cases h2 : longF b
      · exact absurd ⟨h1, h2⟩ hlo
      · simp
      · simp
      · simp⟩
    obtain ⟨x, y, hx1, hy1, hx2, hx3, hy2, hy3, hxy⟩ := hx
    rw [hx1] at hlgA1
    have hlgA1 := Lib.hid hlgA1
    have hyH := Lib.hid hy1
    clear hlo hx1 hy1
    go_wp2_with fail
    refine hlgA1.out.mono ?_
    rintro e w2 ⟨rfl, hb2⟩
    have hK2 := Lib.hid (below_trans hBH.out (below_trans hK1.out hb2))
    have hlgB1 := hlgB.out _ hK2.out
    rw [hyH.out] at hlgB1
    have hlgB1 := Lib.hid hlgB1
    clear hb2 hyH hlgA1
    go_wp2_with fail
    refine hlgB1.out.mono ?_
    rintro e w3 ⟨rfl, hb3⟩
    have hb3 := Lib.hid (below_trans hK2.out hb3)
    go_wp2_with fail
    go_ret
    exact ⟨rfl, hb3.out⟩
  obtain ⟨hlo1, hlo2⟩ := hlo
  rw [show longI a = 0 by unfold longI; rw [if_neg (by rw [hlo1]; decide)]] at hlgA1
  have hlgA1 := Lib.hid hlgA1
  have hla25 := (longF_false hlo1).1
  have hlb25 := (longF_false hlo2).1
  have hlB := Lib.hid (show longI b = 0 by unfold longI; rw [if_neg (by rw [hlo2]; decide)])
  clear hlo1 hlo2
  go_wp2_with fail
  refine hlgA1.out.mono ?_
  rintro e w2 ⟨rfl, hb2⟩
  have hK2 := Lib.hid (below_trans hK1.out hb2)
  have hlgB1 := hlgB.out _ (below_trans hBH.out hK2.out)
  rw [hlB.out] at hlgB1
  have hlgB1 := Lib.hid hlgB1
  clear hb2 hlgA1 hlB hlgB
  go_wp2_with fail
  refine hlgB1.out.mono ?_
  rintro e w3 ⟨rfl, hb3⟩
  have hK3 := Lib.hid (below_trans hK2.out hb3)
  obtain ⟨q0, q1⟩ := hbxH.out _ hK3.out
  clear hb3 hlgB1
  by_cases h20 : 20 < (bs fw).size
  case pos =>
    have hfin := Lib.hid (below_trans hBH.out hK3.out)
    go_wp2_with fail
    go_ret
    exact ⟨rfl, hfin.out⟩
  by_cases h400 : 20 < (bs s).size
  case pos =>
    have hfin := Lib.hid (below_trans hBH.out hK3.out)
    go_wp2_with fail
    go_ret
    exact ⟨rfl, hfin.out⟩
  have h20i : ¬ (20 : Int) < ((bs fw).size : Int) := by omega
  have h400i : ¬ (20 : Int) < ((bs s).size : Int) := by omega
  clear h20 h400
  have hLW := Lib.hid (fun wx (hx : Below W.heap.size W wx) => hLw.out wx (below_trans hBH.out hx))
  have hAW := Lib.hid (fun wx (hx : Below W.heap.size W wx) => hAv.out wx (below_trans hBH.out hx))
  have hBW := Lib.hid (fun wx (hx : Below W.heap.size W wx) => hBv.out wx (below_trans hBH.out hx))
  clear hLw hAv hBv
  by_cases hca : (checkF a).1 = 0
  case neg =>
    have hck := Lib.hid (check_err _ a w3 (hLW.out _ hK3.out).laid (floorsAt_of (hAW.out _ hK3.out)) hmaH.out hca)
    clear hca
    go_wp2_with fail
    refine hck.out.mono ?_
    rintro e w4 ⟨T4, x4, rfl, hb4⟩
    have hfin := Lib.hid (below_trans hBH.out (below_trans hK3.out hb4))
    clear hb4
    go_wp2_with fail
    go_ret
    exact ⟨rfl, hfin.out⟩
  have hck := Lib.hid (check_nil _ a w3 (hLW.out _ hK3.out).laid (floorsAt_of (hAW.out _ hK3.out)) hmaH.out hca)
  have hga := Lib.hid (goodF_check hca)
  clear hca
  go_wp2_with fail
  refine hck.out.mono ?_
  rintro e w4 ⟨rfl, hb4⟩
  have hK4 := Lib.hid (below_trans hK3.out hb4)
  clear hb4 hck
  by_cases hcb : (checkF b).1 = 0
  case neg =>
    have hck := Lib.hid (check_err _ b w4 (hLW.out _ hK4.out).laid (floorsAt_of (hBW.out _ hK4.out)) hmbH.out hcb)
    clear hcb
    go_wp2_with fail
    refine hck.out.mono ?_
    rintro e w5 ⟨T4, x4, rfl, hb5⟩
    have hfin := Lib.hid (below_trans hBH.out (below_trans hK4.out hb5))
    clear hb5
    go_wp2_with fail
    go_ret
    exact ⟨rfl, hfin.out⟩
  have hck := Lib.hid (check_nil _ b w4 (hLW.out _ hK4.out).laid (floorsAt_of (hBW.out _ hK4.out)) hmbH.out hcb)
  have hgb := Lib.hid (goodF_check hcb)
  clear hcb
  go_wp2_with fail
  refine hck.out.mono ?_
  rintro e w5 ⟨rfl, hb5⟩
  have hK5 := Lib.hid (below_trans hK4.out hb5)
  have htx := text_flo (E := E) _ a w5 (hLW.out _ hK5.out) (floorsAt_of (hAW.out _ hK5.out)) hmaH.out
  rw [textF_good (by rw [check_goodF hga.out])] at htx
  have htx := Lib.hid htx
  have htl := textL_len (L := a) (by rw [check_goodF hga.out])
  clear hb5 hck q0 q1
  go_wp2_with fail
  refine htx.out.mono ?_
  rintro e w6 ⟨⟨ev6, rfl, he6⟩, hb6⟩
  obtain ⟨rfl, _⟩ := he6.zero rfl
  have hK6 := Lib.hid (below_trans hK5.out hb6)
  have hrd := read_any (E := E) (bs (textL a)) w6 (hLW.out _ hK6.out) (by rw [bs_size]; omega)
  unfold ReadRes at hrd
  rw [bs_list, read_text hga.out] at hrd
  dsimp only at hrd
  have hrd := Lib.hid hrd
  clear hb6 he6 htx htl
  dsimp only
  generalize textL a = TL at *
  go_wp2_with fail
  refine hrd.out.mono ?_
  rintro e w7 ⟨⟨ev7, v7, rfl, hv7, he7⟩, hb7⟩
  obtain ⟨rfl, _⟩ := he7.zero rfl
  have hK7 := Lib.hid (below_trans hK6.out hb7)
  have hown := Lib.hid (own_flo _ a w7 (hAW.out _ hK7.out) (by omega))
  have hT := Lib.hid (fun wx (hx : Below w7.heap.size w7 wx) => hv7.below hx)
  obtain ⟨a7, c7, hs7, _⟩ := hv7
  subst hs7
  clear hb7 he7 hrd
  go_wp2_with fail
  refine hown.out.mono ?_
  rintro e w8 ⟨v8, rfl, hr8, hb8⟩
  have hK8 := Lib.hid (below_trans hK7.out hb8)
  have hT := Lib.hid (fun wx (hx : Below w8.heap.size w8 wx) => hT.out wx (below_trans hb8 hx))
  have hjo := Lib.hid (join_rows (E := E) _ v8 a a w8 (hLW.out _ hK8.out).laid (hAW.out _ hK8.out) (RowG.at_ (floRow_G.1 hr8)) hmaH.out hmaH.out)
  obtain ⟨a8, c8, hs8⟩ := RowG.sl (floRow_G.1 hr8)
  subst hs8
  clear hb8 hr8 hown
  go_wp2_with fail
  refine hjo.out.mono ?_
  rintro e w9 ⟨r9, ev9, v9, hJ9, rfl, hr9, he9, hb9⟩
  have := joinF_self hga.out hJ9
  subst this
  obtain ⟨rfl, _⟩ := he9.zero rfl
  dsimp only at hr9
  have hK9 := Lib.hid (below_trans hK8.out hb9)
  have hT := Lib.hid (fun wx (hx : Below w9.heap.size w9 wx) => (show FloorsAt wx (.slice a7 a.length c7) a ∧ FloorsAt wx v9 a from ⟨hT.out wx (below_trans hb9 hx), (floorsAt_of (RowG.at_ hr9)).below hx⟩))
  obtain ⟨a9, c9, hs9⟩ := RowG.sl hr9
  subst hs9
  have hsa := Lib.hid (samef_flo _ _ a w9 (hT.out _ (Below.refl _ _)).1 (floorsAt_of (hAW.out _ hK9.out)))
  clear hb9 hr9 he9 hJ9 hjo
  go_wp2_with fail
  refine hsa.out.mono ?_
  rintro e w10 ⟨rfl, hb10⟩
  have hK10 := Lib.hid (below_trans hK9.out hb10)
  have hsa := Lib.hid (samef_flo _ _ a w10 (hT.out _ hb10).2 (floorsAt_of (hAW.out _ hK10.out)))
  clear hb10 hT
  go_wp2_with fail
  refine hsa.out.mono ?_
  rintro e w11 ⟨rfl, hb11⟩
  have hK11 := Lib.hid (below_trans hK10.out hb11)
  have hjo := Lib.hid (join_rows (E := E) _ _ a b w11 (hLW.out _ hK11.out).laid (hAW.out _ hK11.out) (hBW.out _ hK11.out) hmaH.out hmbH.out)
  clear hb11 hsa
  go_wp2_with fail
  refine hjo.out.mono ?_
  rintro e w12 ⟨r, ev12, v12, hJ, rfl, hr12, he12, hb12⟩
  have hK12 := Lib.hid (below_trans hK11.out hb12)
  have hjo := Lib.hid (join_rows (E := E) _ _ b a w12 (hLW.out _ hK12.out).laid (hBW.out _ hK12.out) (hAW.out _ hK12.out) hmbH.out hmaH.out)
  obtain ⟨J, rc, ra⟩ := r
  dsimp only at hr12 he12
  obtain ⟨a12, c12, hs12⟩ := RowG.sl hr12
  subst hs12
  have hr12 := Lib.hid hr12
  have he12 := Lib.hid he12
  have hJ := Lib.hid hJ
  clear hb12
  go_wp2_with fail
  refine hjo.out.mono ?_
  rintro e w13 ⟨r2, ev13, v13, hJ2, rfl, hr13, he13, hb13⟩
  have := joinF_comm hga.out hgb.out hJ.out hJ2
  subst this
  dsimp only at hr13 he13
  have hK13 := Lib.hid (below_trans hK12.out hb13)
  have hr12 := Lib.hid (RowG.below hr12.out hb13)
  obtain ⟨a13, c13, hs13⟩ := RowG.sl hr13
  subst hs13
  have he13 := Lib.hid he13
  have hD0 := Lib.hid (show Below w13.heap.size w13 w13.drew from (Below.refl _ _).drew)
  have hsx := Lib.hid (fun wx (hx : Below w13.heap.size w13 wx) => samef_flo (.slice a12 J.length c12) (.slice a13 J.length c13) J wx (floorsAt_of (RowG.at_ (RowG.below hr12.out hx))) (floorsAt_of (RowG.at_ (RowG.below hr13 hx))))
  clear hb13 hJ2 hjo hr13
  go_upto_region 11 with fail
  go_cut [120] from 110 to 120 (fun s120 wx => s120 = .bool false ∧ Hid (Below w13.heap.size w13 wx))
  case first =>
    by_cases hz : rc = 0
    · obtain ⟨rfl, _⟩ := he12.out.zero hz
      obtain ⟨rfl, _⟩ := he13.out.zero hz
      clear hz
      refine wp_region_noPanic ?_
      refine wp_region_held_drew (S := fun _ => True) (by kernel_rfl) ?_ (fun hHeld => ?_)
      · trivial
      refine' held_take (i := 0) (d := some 110) (v := _) rfl rfl (by kernel_rfl) (by kernel_rfl) (by kernel_rfl) (fun _ _ _ h => h) rfl (by assumption) ?hy_1 ?re_1
      case hy_1 =>
        intro w hSw
        try dsimp only at hSw
        go_simp
        try with_reducible rfl
      simp only [Act.put, List.setIfInBounds_toArray, List.set_cons_zero, List.set_cons_succ]
      refine' held_take (i := 1) (d := some 111) (v := _) rfl rfl (by kernel_rfl) (by kernel_rfl) (by kernel_rfl) (fun _ _ _ h => h) rfl (by assumption) ?hy_2 ?re_2
      case hy_2 =>
        intro w hSw
        try dsimp only at hSw
        go_simp
        try with_reducible rfl
      simp only [Act.put, List.setIfInBounds_toArray, List.set_cons_zero, List.set_cons_succ]
      refine' held_take (i := 2) (d := some 112) (v := _) rfl rfl (by kernel_rfl) (by kernel_rfl) (by kernel_rfl) (fun _ _ _ h => h) rfl (by assumption) ?hy_3 ?re_3
      case hy_3 =>
        intro w hSw
        try dsimp only at hSw
        go_simp
        try with_reducible rfl
      simp only [Act.put, List.setIfInBounds_toArray, List.set_cons_zero, List.set_cons_succ]
      refine' held_take (i := 3) (d := some 113) (v := _) rfl rfl (by kernel_rfl) (by kernel_rfl) (by kernel_rfl) (fun _ _ _ h => h) rfl (by assumption) ?hy_4 ?re_4
      case hy_4 =>
        intro w hSw
        try dsimp only at hSw
        go_simp
        try with_reducible rfl
      simp only [Act.put, List.setIfInBounds_toArray, List.set_cons_zero, List.set_cons_succ]
      refine' held_take (i := 4) (d := some 114) (v := _) rfl rfl (by kernel_rfl) (by kernel_rfl) (by kernel_rfl) (fun _ _ _ h => h) rfl (by assumption) ?hy_5 ?re_5
      case hy_5 =>
        intro w hSw
        try dsimp only at hSw
        go_simp
        try with_reducible rfl
      simp only [Act.put, List.setIfInBounds_toArray, List.set_cons_zero, List.set_cons_succ]
      refine' held_take (i := 5) (d := some 115) (v := _) rfl rfl (by kernel_rfl) (by kernel_rfl) (by kernel_rfl) (fun _ _ _ h => h) rfl (by assumption) ?hy_6 ?re_6
      case hy_6 =>
        intro w hSw
        try dsimp only at hSw
        go_simp
        try with_reducible rfl
      simp only [Act.put, List.setIfInBounds_toArray, List.set_cons_zero, List.set_cons_succ]
      refine' held_take (i := 6) (d := some 116) (v := _) rfl rfl (by kernel_rfl) (by kernel_rfl) (by kernel_rfl) (fun _ _ _ h => h) rfl (by assumption) ?hy_7 ?re_7
      case hy_7 =>
        intro w hSw
        try dsimp only at hSw
        go_simp
        try with_reducible rfl
      simp only [Act.put, List.setIfInBounds_toArray, List.set_cons_zero, List.set_cons_succ]
      refine' held_take (i := 7) (d := some 117) (v := _) rfl rfl (by kernel_rfl) (by kernel_rfl) (by kernel_rfl) (fun _ _ _ h => h) rfl (by assumption) ?hy_8 ?re_8
      case hy_8 =>
        intro w hSw
        try dsimp only at hSw
        go_simp
        try with_reducible rfl
      simp only [Act.put, List.setIfInBounds_toArray, List.set_cons_zero, List.set_cons_succ]
      refine wpAnyH_ready (rs := [8]) (by kernel_rfl) (by simp) ?_
      refine AllReadyH.cons rfl (fun K hK => ?_) AllReadyH.nil
      go_simp
      refine (hsx.out _ hD0.out).mono ?_
      rintro e w1 ⟨rfl, hb⟩
      have hD1 := Lib.hid (below_trans hD0.out hb)
      clear hb
      go_wp2_with fail
      refine hK.out _ _ ?_ (fun hHeld => ?_)
      · trivial
      clear hK K
      try simp only [Act.put, List.setIfInBounds_toArray, List.set_cons_zero, List.set_cons_succ]
      refine' held_take (i := 9) (d := some 119) (v := _) rfl rfl (by kernel_rfl) (by kernel_rfl) (by kernel_rfl) (fun _ _ _ h => h) rfl (by assumption) ?hy_9 ?re_9
      case hy_9 =>
        intro w hSw
        try dsimp only at hSw
        go_simp
        try with_reducible rfl
      simp only [Act.put, List.setIfInBounds_toArray, List.set_cons_zero, List.set_cons_succ]
      refine' held_take (i := 10) (d := some 120) (v := _) rfl rfl (by kernel_rfl) (by kernel_rfl) (by kernel_rfl) (fun _ _ _ h => h) rfl (by assumption) ?hy_10 ?re_10
      case hy_10 =>
        intro w hSw
        try dsimp only at hSw
        go_simp
        try with_reducible rfl
      simp only [Act.put, List.setIfInBounds_toArray, List.set_cons_zero, List.set_cons_succ]
      refine wpAnyH_done (by kernel_rfl) ?_ _
      refine NoPanic.normal ?_
      go_wp2_with fail
      go_meet
      exact ⟨rfl, hD1⟩
    · obtain ⟨T1, x1, rfl⟩ := he12.out.iface hz
      obtain ⟨T2, x2, rfl⟩ := he13.out.iface hz
      clear hz
      refine wp_region_noPanic ?_
      refine wp_region_held_drew (S := fun _ => True) (by kernel_rfl) ?_ (fun hHeld => ?_)
      · trivial
      refine' held_take (i := 0) (d := some 110) (v := _) rfl rfl (by kernel_rfl) (by kernel_rfl) (by kernel_rfl) (fun _ _ _ h => h) rfl (by assumption) ?hy_11 ?re_11
      case hy_11 =>
        intro w hSw
        try dsimp only at hSw
        go_simp
        try with_reducible rfl
      simp only [Act.put, List.setIfInBounds_toArray, List.set_cons_zero, List.set_cons_succ]
      refine' held_take (i := 1) (d := some 111) (v := _) rfl rfl (by kernel_rfl) (by kernel_rfl) (by kernel_rfl) (fun _ _ _ h => h) rfl (by assumption) ?hy_12 ?re_12
      case hy_12 =>
        intro w hSw
        try dsimp only at hSw
        go_simp
        try with_reducible rfl
      simp only [Act.put, List.setIfInBounds_toArray, List.set_cons_zero, List.set_cons_succ]
      refine' held_take (i := 2) (d := some 112) (v := _) rfl rfl (by kernel_rfl) (by kernel_rfl) (by kernel_rfl) (fun _ _ _ h => h) rfl (by assumption) ?hy_13 ?re_13
      case hy_13 =>
        intro w hSw
        try dsimp only at hSw
        go_simp
        try with_reducible rfl
      simp only [Act.put, List.setIfInBounds_toArray, List.set_cons_zero, List.set_cons_succ]
      refine' held_take (i := 3) (d := some 113) (v := _) rfl rfl (by kernel_rfl) (by kernel_rfl) (by kernel_rfl) (fun _ _ _ h => h) rfl (by assumption) ?hy_14 ?re_14
      case hy_14 =>
        intro w hSw
        try dsimp only at hSw
        go_simp
        try with_reducible rfl
      simp only [Act.put, List.setIfInBounds_toArray, List.set_cons_zero, List.set_cons_succ]
      refine' held_take (i := 4) (d := some 114) (v := _) rfl rfl (by kernel_rfl) (by kernel_rfl) (by kernel_rfl) (fun _ _ _ h => h) rfl (by assumption) ?hy_15 ?re_15
      case hy_15 =>
        intro w hSw
        try dsimp only at hSw
        go_simp
        try with_reducible rfl
      simp only [Act.put, List.setIfInBounds_toArray, List.set_cons_zero, List.set_cons_succ]
      refine' held_take (i := 5) (d := some 115) (v := _) rfl rfl (by kernel_rfl) (by kernel_rfl) (by kernel_rfl) (fun _ _ _ h => h) rfl (by assumption) ?hy_16 ?re_16
      case hy_16 =>
        intro w hSw
        try dsimp only at hSw
        go_simp
        try with_reducible rfl
      simp only [Act.put, List.setIfInBounds_toArray, List.set_cons_zero, List.set_cons_succ]
      refine' held_take (i := 6) (d := some 116) (v := _) rfl rfl (by kernel_rfl) (by kernel_rfl) (by kernel_rfl) (fun _ _ _ h => h) rfl (by assumption) ?hy_17 ?re_17
      case hy_17 =>
        intro w hSw
        try dsimp only at hSw
        go_simp
        try with_reducible rfl
      simp only [Act.put, List.setIfInBounds_toArray, List.set_cons_zero, List.set_cons_succ]
      refine' held_take (i := 7) (d := some 117) (v := _) rfl rfl (by kernel_rfl) (by kernel_rfl) (by kernel_rfl) (fun _ _ _ h => h) rfl (by assumption) ?hy_18 ?re_18
      case hy_18 =>
        intro w hSw
        try dsimp only at hSw
        go_simp
        try with_reducible rfl
      simp only [Act.put, List.setIfInBounds_toArray, List.set_cons_zero, List.set_cons_succ]
      refine wpAnyH_ready (rs := [8]) (by kernel_rfl) (by simp) ?_
      refine AllReadyH.cons rfl (fun K hK => ?_) AllReadyH.nil
      go_simp
      refine (hsx.out _ hD0.out).mono ?_
      rintro e w1 ⟨rfl, hb⟩
      have hD1 := Lib.hid (below_trans hD0.out hb)
      clear hb
      go_wp2_with fail
      refine hK.out _ _ ?_ (fun hHeld => ?_)
      · trivial
      clear hK K
      try simp only [Act.put, List.setIfInBounds_toArray, List.set_cons_zero, List.set_cons_succ]
      refine' held_take (i := 9) (d := some 119) (v := _) rfl rfl (by kernel_rfl) (by kernel_rfl) (by kernel_rfl) (fun _ _ _ h => h) rfl (by assumption) ?hy_19 ?re_19
      case hy_19 =>
        intro w hSw
        try dsimp only at hSw
        go_simp
        try with_reducible rfl
      simp only [Act.put, List.setIfInBounds_toArray, List.set_cons_zero, List.set_cons_succ]
      refine' held_take (i := 10) (d := some 120) (v := _) rfl rfl (by kernel_rfl) (by kernel_rfl) (by kernel_rfl) (fun _ _ _ h => h) rfl (by assumption) ?hy_20 ?re_20
      case hy_20 =>
        intro w hSw
        try dsimp only at hSw
        go_simp
        try with_reducible rfl
      simp only [Act.put, List.setIfInBounds_toArray, List.set_cons_zero, List.set_cons_succ]
      refine wpAnyH_done (by kernel_rfl) ?_ _
      refine NoPanic.normal ?_
      go_wp2_with fail
      go_meet
      exact ⟨rfl, hD1⟩
  obtain ⟨rfl, hX⟩ := hcut
  have hK14 := Lib.hid (below_trans hK13.out hX.out)
  have hr14 := Lib.hid (RowG.below hr12.out hX.out)
  clear hX hD0 hsx he13 hr12
  generalize wc = w14 at *
  go_upto_region 13 with fail
  go_cut [122] from 121 to 122 (fun s122 wx => s122 = .bool (decide (rc = 0)) ∧ wx = w14)
  case first =>
    by_cases hz : rc = 0
    · obtain ⟨rfl, _⟩ := he12.out.zero hz
      have hzd := Lib.hid (decide_eq_true hz)
      clear hz
      go_wp2_with fail
      go_meet
      exact ⟨by rw [hzd.out], rfl⟩
    · obtain ⟨T1, x1, rfl⟩ := he12.out.iface hz
      have hzd := Lib.hid (decide_eq_false hz)
      clear hz
      go_wp2_with fail
      go_meet
      exact ⟨by rw [hzd.out], rfl⟩
  obtain ⟨rfl, hwx⟩ := hcut
  subst wc
  go_upto_if 122 with fail
  go_cut [21, 22, 23] from 121 to 159 (fun _ _ _ wx => Hid (Below w14.heap.size w14 wx))
  case first =>
    by_cases hz : rc = 0
    case neg =>
      rw [decide_eq_false hz]
      clear hz
      go_wp2_with fail
      go_meet
      exact Lib.hid (Below.refl _ _)
    obtain ⟨hgx, _, hofx, hag⟩ := joinF_good hga.out hgb.out hJ.out hz
    dsimp only at hgx hofx hag
    rw [decide_eq_true hz]
    have hPx := Lib.hid (show decide (ofF J s ≤ en) = (decide (ofF a s ≤ en) && decide (ofF b s ≤ en)) by
      rw [← Bool.decide_and, decide_eq_decide, hofx]
      omega)
    have hmx := Lib.hid (good_who hgx)
    have hgx := Lib.hid hgx
    have hag := Lib.hid hag
    have hpa := passes_flo (.slice aa a.length ca0) a s en w14 (floorsAt_of (hAW.out _ hK14.out)) hmaH.out
    have hpb := fun wx (hx : Below w14.heap.size w14 wx) => passes_flo (.slice ab b.length cb0) b s en wx (floorsAt_of (hBW.out _ (below_trans hK14.out hx))) hmbH.out
    generalize decide (ofF a s ≤ en) = pa at *
    generalize decide (ofF b s ≤ en) = pb at *
    have hpa := Lib.hid hpa
    have hpb := Lib.hid hpb
    clear hz hofx
    go_upto_region 14 with fail
    go_cut [21] from 123 to 132 (fun s21 wx => s21 = .bool (pa && pb) ∧ Hid (Below w14.heap.size w14 wx))
    case first =>
      cases pa with
      | false =>
        go_wp2_with fail
        refine hpa.out.mono ?_
        rintro e w15 ⟨rfl, hb15⟩
        have hb15 := Lib.hid hb15
        go_wp2_with fail
        go_meet
        exact ⟨rfl, hb15⟩
      | true =>
        go_wp2_with fail
        refine hpa.out.mono ?_
        rintro e w15 ⟨rfl, hb15⟩
        have hpb1 := Lib.hid (hpb.out _ hb15)
        have hb15 := Lib.hid hb15
        clear hpb
        cases pb with
        | false =>
          go_wp2_with fail
          refine hpb1.out.mono ?_
          rintro e w16 ⟨rfl, hb16⟩
          have hb16 := Lib.hid (below_trans hb15.out hb16)
          go_wp2_with fail
          go_meet
          exact ⟨rfl, hb16⟩
        | true =>
          go_wp2_with fail
          refine hpb1.out.mono ?_
          rintro e w16 ⟨rfl, hb16⟩
          have hb16 := Lib.hid (below_trans hb15.out hb16)
          go_wp2_with fail
          go_meet
          exact ⟨rfl, hb16⟩
    obtain ⟨rfl, hb15⟩ := hcut
    generalize (pa && pb) = pq at *
    generalize wc = w15 at *
    have hr15 := Lib.hid (RowG.below hr14.out hb15.out)
    have hK15 := Lib.hid (below_trans hK14.out hb15.out)
    have hjo := Lib.hid (join_rows (E := E) _ _ J b w15 (hLW.out _ hK15.out).laid (RowG.at_ hr15.out) (hBW.out _ hK15.out) hmx.out hmbH.out)
    clear hpa hpb
    go_wp2_with fail
    refine hjo.out.mono ?_
    rintro e w16 ⟨r3, ev16, v16, hJ3, rfl, hr16, he16, hb16⟩
    have := hag.out r3 hJ3
    subst this
    obtain ⟨rfl, _⟩ := he16.zero rfl
    dsimp only at hr16
    have hr16x := Lib.hid (RowG.below hr15.out hb16)
    have hK16 := Lib.hid (below_trans hK15.out hb16)
    have hb16 := Lib.hid (below_trans hb15.out hb16)
    obtain ⟨a16, c16, hs16⟩ := RowG.sl hr16
    subst hs16
    have hr16 := Lib.hid hr16
    have hck := Lib.hid (check_nil (E := E) _ J w16 (hLW.out _ hK16.out).laid (floorsAt_of (RowG.at_ hr16x.out)) hmx.out (by rw [check_goodF hgx.out]))
    clear he16 hJ3 hjo hb15
    go_wp2_with fail
    refine hck.out.mono ?_
    rintro e w17 ⟨rfl, hb17⟩
    have hpx := passes_flo (.slice a12 J.length c12) J s en w17 (floorsAt_of (RowG.at_ (RowG.below hr16x.out hb17))) hmx.out
    rw [hPx.out] at hpx
    have hpx := Lib.hid hpx
    have hT := Lib.hid (fun wx (hx : Below w17.heap.size w17 wx) => (show FloorsAt wx (.slice a16 J.length c16) J ∧ FloorsAt wx (.slice a12 J.length c12) J from ⟨floorsAt_of (RowG.at_ (RowG.below (RowG.below hr16.out hb17) hx)), floorsAt_of (RowG.at_ (RowG.below (RowG.below hr16x.out hb17) hx))⟩))
    have hb17 := Lib.hid (below_trans hb16.out hb17)
    clear hck hr16x hr16
    go_wp2_with fail
    refine hpx.out.mono ?_
    rintro e w18 ⟨rfl, hb18⟩
    have hsx := Lib.hid (samef_flo _ _ J w18 (hT.out _ hb18).1 (hT.out _ hb18).2)
    have hb18 := Lib.hid (below_trans hb17.out hb18)
    clear hpx hT
    go_wp2_with fail
    refine hsx.out.mono ?_
    rintro e w19 ⟨rfl, hb19⟩
    have hb19 := Lib.hid (below_trans hb18.out hb19)
    go_wp2_with fail
    go_meet
    exact hb19
  have hK20 := Lib.hid (below_trans hK14.out hcut.out)
  clear hr14 he12 hJ hcut
  generalize wc = w20 at *
  obtain ⟨q0, q1⟩ := hbxH.out _ hK20.out
  have hra := Lib.hid (show Calls Tryz.prog 14 #[.slice aa a.length ca0, .agg #[.string (bs fw), .int .i64 fe]] w20 _ from raise_flo (E := E) _ a ⟨fw, fe⟩ w20 (hLW.out _ hK20.out).laid (floorsAt_of (hAW.out _ hK20.out)) hmaH.out hfH.out)
  have hzb := Lib.hid (show (raiseF a ⟨fw, fe⟩).2.1 ≠ 0 → (raiseF a ⟨fw, fe⟩).1 = [] from fun h => by rw [raiseF_bad h])
  have hzg := Lib.hid (fun (h : (raiseF a ⟨fw, fe⟩).2.1 = 0) => raiseF_rise h s)
  have hzj := Lib.hid (fun (h : (raiseF a ⟨fw, fe⟩).2.1 = 0) r hr => joinF_one (r := r) h hr)
  obtain ⟨Z, zc, za, hZ⟩ : ∃ Z zc za, raiseF a ⟨fw, fe⟩ = (Z, zc, za) := ⟨_, _, _, rfl⟩
  rw [hZ] at hra hzb hzg hzj
  clear hZ
  go_wp2_with fail
  refine hra.out.mono ?_
  rintro e w21 ⟨⟨v21, ev21, rfl, hr21, he21⟩, hb21⟩
  have hr21 := floRow_G.1 hr21
  try dsimp only at hr21 he21
  have hK21 := Lib.hid (below_trans hK20.out hb21)
  clear hb21 hra q0 q1
  by_cases hz : zc = 0
  case neg =>
    have hZ := hzb.out hz
    obtain ⟨T1, x1, rfl⟩ := he21.iface hz
    try dsimp only at hZ
    subst hZ
    obtain ⟨a21, c21, hs21⟩ := RowG.sl hr21
    rw [List.length_nil] at hs21
    subst hs21
    have hfin := Lib.hid (below_trans hBH.out hK21.out)
    clear hr21 he21 hz hzb hzg hzj
    go_wp2_with fail
    go_ret
    exact ⟨rfl, hfin.out⟩
  obtain ⟨hgz, hup1, hup2⟩ := hzg.out hz
  try dsimp only at hgz hup1 hup2
  obtain ⟨rfl, _⟩ := he21.zero hz
  obtain ⟨a21, c21, hs21⟩ := RowG.sl hr21
  subst hs21
  have hmz := Lib.hid (good_who hgz)
  have hZF := Lib.hid (fun wx (hx : Below w21.heap.size w21 wx) => floorsAt_of (RowG.at_ (RowG.below hr21 hx)))
  have hck := Lib.hid (fun wx (hx : Below w21.heap.size w21 wx) => check_nil (E := E) (.slice a21 Z.length c21) Z wx (hLW.out _ (below_trans hK21.out hx)).laid (hZF.out _ hx) hmz.out (by rw [check_goodF hgz]))
  have hoz := Lib.hid (fun wx (hx : Below w21.heap.size w21 wx) => of_flo (.slice a21 Z.length c21) Z s wx (hZF.out _ hx) hmz.out)
  have hof := Lib.hid (fun wx (hx : Below w21.heap.size w21 wx) => of_flo (.slice a21 Z.length c21) Z fw wx (hZF.out _ hx) hmz.out)
  have hoa := Lib.hid (fun wx (hx : Below w21.heap.size w21 wx) => of_flo (.slice aa a.length ca0) a s wx (floorsAt_of (hAW.out _ (below_trans hK21.out hx))) hmaH.out)
  have hzj := Lib.hid (fun r hr => hzj.out hz r hr)
  have hzc := Lib.hid hz
  generalize ofF Z s = oz at *
  generalize ofF Z fw = ow at *
  generalize ofF a s = oa at *
  have hkS := Lib.hid (fun wx (hx : Below w21.heap.size w21 wx) => hbxH.out _ (below_trans hK21.out hx))
  have hD0 := Lib.hid (show Below w21.heap.size w21 w21.drew from (Below.refl _ _).drew)
  clear he21 hz hzb hzg hr21 hgz
  go_upto_region 21 with fail
  go_cut [191] from 171 to 191 (fun s191 wx => s191 = .bool false ∧ Hid (Below w21.heap.size w21 wx))
  case first =>
    refine wp_region_noPanic ?_
    refine wp_region_held_drew (S := fun wx => wx.cell? ⟨w.heap.size, 0, none⟩ = some (.string (bs fw)) ∧ wx.cell? ⟨w.heap.size, 1, none⟩ = some (.int .i64 fe)) (by kernel_rfl) ?_ (fun hHeld => ?_)
    · exact hkS.out _ hD0.out
    refine' held_take (i := 0) (d := some 171) (v := _) rfl rfl (by kernel_rfl) (by kernel_rfl) (by kernel_rfl) (fun _ _ _ h => h) rfl (by assumption) ?hy_21 ?re_21
    case hy_21 =>
      intro w hSw
      try dsimp only at hSw
      go_simp
      try with_reducible rfl
    simp only [Act.put, List.setIfInBounds_toArray, List.set_cons_zero, List.set_cons_succ]
    refine wpAnyH_ready (rs := [1]) (by kernel_rfl) (by simp) ?_
    refine AllReadyH.cons rfl (fun K hK => ?_) AllReadyH.nil
    go_simp
    refine (hck.out _ hD0.out).mono ?_
    rintro e w1 ⟨rfl, hb⟩
    have hD1 := Lib.hid (below_trans hD0.out hb)
    clear hb
    go_wp2_with fail
    refine hK.out _ _ ?_ (fun hHeld => ?_)
    · exact hkS.out _ hD1.out
    clear hK K
    try simp only [Act.put, List.setIfInBounds_toArray, List.set_cons_zero, List.set_cons_succ]
    refine' held_take (i := 2) (d := some 173) (v := _) rfl rfl (by kernel_rfl) (by kernel_rfl) (by kernel_rfl) (fun _ _ _ h => h) rfl (by assumption) ?hy_22 ?re_22
    case hy_22 =>
      intro w hSw
      try dsimp only at hSw
      go_simp
      try with_reducible rfl
    simp only [Act.put, List.setIfInBounds_toArray, List.set_cons_zero, List.set_cons_succ]
    refine' held_take (i := 3) (d := some 174) (v := _) rfl rfl (by kernel_rfl) (by kernel_rfl) (by kernel_rfl) (fun _ _ _ h => h) rfl (by assumption) ?hy_23 ?re_23
    case hy_23 =>
      intro w hSw
      try dsimp only at hSw
      go_simp
      try with_reducible rfl
    simp only [Act.put, List.setIfInBounds_toArray, List.set_cons_zero, List.set_cons_succ]
    refine' held_take (i := 4) (d := some 175) (v := _) rfl rfl (by kernel_rfl) (by kernel_rfl) (by kernel_rfl) (fun _ _ _ h => h) rfl (by assumption) ?hy_24 ?re_24
    case hy_24 =>
      intro w hSw
      try dsimp only at hSw
      go_simp
      try with_reducible rfl
    simp only [Act.put, List.setIfInBounds_toArray, List.set_cons_zero, List.set_cons_succ]
    refine' held_take (i := 5) (d := some 176) (v := _) rfl rfl (by kernel_rfl) (by kernel_rfl) (by kernel_rfl) (fun _ _ _ h => h) rfl (by assumption) ?hy_25 ?re_25
    case hy_25 =>
      intro w hSw
      try dsimp only at hSw
      go_simp
      try with_reducible rfl
    simp only [Act.put, List.setIfInBounds_toArray, List.set_cons_zero, List.set_cons_succ]
    refine' held_take (i := 7) (d := some 178) (v := _) rfl rfl (by kernel_rfl) (by kernel_rfl) (by kernel_rfl) (fun _ _ _ h => h) rfl (by assumption) ?hy_26 ?re_26
    case hy_26 =>
      intro w hSw
      try dsimp only at hSw
      go_simp
      try with_reducible rfl
    simp only [Act.put, List.setIfInBounds_toArray, List.set_cons_zero, List.set_cons_succ]
    refine' held_take (i := 8) (d := some 179) (v := _) rfl rfl (by kernel_rfl) (by kernel_rfl) (by kernel_rfl) (fun _ _ _ h => h) rfl (by assumption) ?hy_27 ?re_27
    case hy_27 =>
      intro w hSw
      try dsimp only at hSw
      go_simp
      try with_reducible rfl
    simp only [Act.put, List.setIfInBounds_toArray, List.set_cons_zero, List.set_cons_succ]
    refine wpAnyH_ready (rs := [6]) (by kernel_rfl) (by simp) ?_
    refine AllReadyH.cons rfl (fun K hK => ?_) AllReadyH.nil
    go_simp
    refine (hoz.out _ hD1.out).mono ?_
    rintro e w2 ⟨rfl, hb⟩
    have hD2 := Lib.hid (below_trans hD1.out hb)
    clear hb
    go_wp2_with fail
    refine hK.out _ _ ?_ (fun hHeld => ?_)
    · exact hkS.out _ hD2.out
    clear hK K
    try simp only [Act.put, List.setIfInBounds_toArray, List.set_cons_zero, List.set_cons_succ]
    refine wpAnyH_ready (rs := [9]) (by kernel_rfl) (by simp) ?_
    refine AllReadyH.cons rfl (fun K hK => ?_) AllReadyH.nil
    go_simp
    refine (hoa.out _ hD2.out).mono ?_
    rintro e w3 ⟨rfl, hb⟩
    have hD3 := Lib.hid (below_trans hD2.out hb)
    clear hb
    go_wp2_with fail
    refine hK.out _ _ ?_ (fun hHeld => ?_)
    · exact hkS.out _ hD3.out
    clear hK K
    try simp only [Act.put, List.setIfInBounds_toArray, List.set_cons_zero, List.set_cons_succ]
    refine' held_take (i := 10) (d := some 181) (v := _) rfl rfl (by kernel_rfl) (by kernel_rfl) (by kernel_rfl) (fun _ _ _ h => h) rfl (by assumption) ?hy_28 ?re_28
    case hy_28 =>
      intro w hSw
      try dsimp only at hSw
      go_simp
      try with_reducible rfl
    simp only [Act.put, List.setIfInBounds_toArray, List.set_cons_zero, List.set_cons_succ]
    simp only [Int.not_lt.2 hup1, decide_false]
    refine' held_take (i := 11) (d := some 182) (v := _) rfl rfl (by kernel_rfl) (by kernel_rfl) (by kernel_rfl) (fun _ _ _ h => h) rfl (by assumption) ?hy_29 ?re_29
    case hy_29 =>
      intro w hSw
      try dsimp only at hSw
      go_simp
      try with_reducible rfl
    simp only [Act.put, List.setIfInBounds_toArray, List.set_cons_zero, List.set_cons_succ]
    refine' held_take (i := 12) (d := some 183) (v := _) rfl rfl (by kernel_rfl) (by kernel_rfl) (by kernel_rfl) (fun _ _ _ h => h) rfl (by assumption) ?hy_30 ?re_30
    case hy_30 =>
      intro w hSw
      try dsimp only at hSw
      go_simp
      try with_reducible rfl
    simp only [Act.put, List.setIfInBounds_toArray, List.set_cons_zero, List.set_cons_succ]
    refine' held_take (i := 13) (d := some 184) (v := _) rfl rfl (by kernel_rfl) (by kernel_rfl) (by kernel_rfl) (fun _ _ _ h => h) rfl (by assumption) ?hy_31 ?re_31
    case hy_31 =>
      intro w hSw
      try dsimp only at hSw
      go_simp
      try with_reducible rfl
    simp only [Act.put, List.setIfInBounds_toArray, List.set_cons_zero, List.set_cons_succ]
    refine' held_take (i := 14) (d := some 185) (v := _) rfl rfl (by kernel_rfl) (by kernel_rfl) (by kernel_rfl) (fun _ _ _ h => h) rfl (by assumption) ?hy_32 ?re_32
    case hy_32 =>
      intro w hSw
      try dsimp only at hSw
      go_simp
      try with_reducible rfl
    simp only [Act.put, List.setIfInBounds_toArray, List.set_cons_zero, List.set_cons_succ]
    refine' held_take (i := 15) (d := some 186) (v := _) rfl rfl (by kernel_rfl) (by kernel_rfl) (by kernel_rfl) (fun _ _ _ h => h) rfl (by assumption) ?hy_33 ?re_33
    case hy_33 =>
      intro w hSw
      try dsimp only at hSw
      go_simp
      try with_reducible rfl
    simp only [Act.put, List.setIfInBounds_toArray, List.set_cons_zero, List.set_cons_succ]
    refine' held_take (i := 17) (d := some 188) (v := _) rfl rfl (by kernel_rfl) (by kernel_rfl) (by kernel_rfl) (fun _ _ _ h => h) rfl (by assumption) ?hy_34 ?re_34
    case hy_34 =>
      intro w hSw
      try dsimp only at hSw
      go_simp
      try with_reducible rfl
    simp only [Act.put, List.setIfInBounds_toArray, List.set_cons_zero, List.set_cons_succ]
    refine' held_take (i := 18) (d := some 189) (v := _) rfl rfl (by kernel_rfl) (by kernel_rfl) (by kernel_rfl) (fun _ _ _ h => h) rfl (by assumption) ?hy_35 ?re_35
    case hy_35 =>
      intro w hSw
      try dsimp only at hSw
      go_simp
      try with_reducible rfl
    simp only [Act.put, List.setIfInBounds_toArray, List.set_cons_zero, List.set_cons_succ]
    refine wpAnyH_ready (rs := [16]) (by kernel_rfl) (by simp) ?_
    refine AllReadyH.cons rfl (fun K hK => ?_) AllReadyH.nil
    go_simp
    refine (hof.out _ hD3.out).mono ?_
    rintro e w4 ⟨rfl, hb⟩
    have hD4 := Lib.hid (below_trans hD3.out hb)
    clear hb
    go_wp2_with fail
    refine hK.out _ _ ?_ (fun hHeld => ?_)
    · exact hkS.out _ hD4.out
    clear hK K
    try simp only [Act.put, List.setIfInBounds_toArray, List.set_cons_zero, List.set_cons_succ]
    refine' held_take (i := 19) (d := some 190) (v := _) rfl rfl (by kernel_rfl) (by kernel_rfl) (by kernel_rfl) (fun _ _ _ h => h) rfl (by assumption) ?hy_36 ?re_36
    case hy_36 =>
      intro w hSw
      try dsimp only at hSw
      go_simp
      try with_reducible rfl
    simp only [Act.put, List.setIfInBounds_toArray, List.set_cons_zero, List.set_cons_succ]
    simp only [Int.not_lt.2 hup2, decide_false]
    refine' held_take (i := 20) (d := some 191) (v := _) rfl rfl (by kernel_rfl) (by kernel_rfl) (by kernel_rfl) (fun _ _ _ h => h) rfl (by assumption) ?hy_37 ?re_37
    case hy_37 =>
      intro w hSw
      try dsimp only at hSw
      go_simp
      try with_reducible rfl
    simp only [Act.put, List.setIfInBounds_toArray, List.set_cons_zero, List.set_cons_succ]
    refine wpAnyH_done (by kernel_rfl) ?_ _
    refine NoPanic.normal ?_
    go_wp2_with fail
    go_meet
    exact ⟨rfl, hD4⟩
  obtain ⟨rfl, hX⟩ := hcut
  have hK22 := Lib.hid (below_trans hK21.out hX.out)
  have hZF := Lib.hid (fun wx (hx : Below wc.heap.size wc wx) => hZF.out wx (below_trans hX.out hx))
  clear hX hD0 hkS hck hoz hof hoa hup1 hup2
  generalize wc = w22 at *
  obtain ⟨q0, q1⟩ := hbxH.out _ hK22.out
  have hal : Below w22.heap.size w22 (w22.alloc (.cells #[.string (bs fw), .int .i64 fe] 24)) := (Below.refl _ _).alloc (Nat.le_refl _) _
  have hjo := Lib.hid (join_rows (E := E) (.slice aa a.length ca0) (.slice (some ⟨w22.heap.size, 0, none⟩) 1 1) a [⟨fw, fe⟩] (w22.alloc (.cells #[.string (bs fw), .int .i64 fe] 24)) (hLW.out _ (below_trans hK22.out hal)).laid (hAW.out _ (below_trans hK22.out hal)) (AtG.new _ _ _ rfl) hmaH.out (fun g hg => by rw [List.mem_singleton.1 hg]; exact hfH.out))
  have hal := Lib.hid hal
  go_wp2_with fail
  refine hjo.out.mono ?_
  rintro e w23 ⟨r4, ev23, v23, hJ4, rfl, hr23, he23, hb23⟩
  have := hzj.out r4 hJ4
  subst this
  dsimp only at hr23 he23
  have hb23 := below_trans hal.out hb23
  have hK23 := Lib.hid (below_trans hK22.out hb23)
  obtain ⟨a23, c23, hs23⟩ := RowG.sl hr23
  subst hs23
  have hsx := Lib.hid (samef_flo _ _ Z w23 (floorsAt_of (RowG.at_ hr23)) (hZF.out _ hb23))
  have he23 := Lib.hid he23
  obtain ⟨rfl, _⟩ := he23.out.zero hzc.out
  clear hb23 hJ4 hr23 hjo q0 q1
  go_wp2_with fail
  refine hsx.out.mono ?_
  rintro e w24 ⟨rfl, hb24⟩
  have hfin := Lib.hid (below_trans hBH.out (below_trans hK23.out hb24))
  clear hb24
  go_wp2_with fail
  go_ret
  exact ⟨rfl, hfin.out⟩
end Go.Proofs.YtcnadjdijolboaaGreatDoor
