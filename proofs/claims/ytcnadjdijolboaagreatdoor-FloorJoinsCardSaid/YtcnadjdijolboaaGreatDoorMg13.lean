/- FloJn, JnP -/
import Derived.Test.YtcnadjdijolboaaGreatDoorMg12
import Derived.Test.YtcnadjdijolboaaGreatDoorMg4
import Derived.Test.YtcnadjdijolboaaGreatDoorMg9
import Derived.Shelf.SlSortCmp.NoneTotal
import Derived.Test.YtcnadjdijolboaaGreatDoorMg11
/- floor.Join: walked. -/
namespace Go.Proofs.YtcnadjdijolboaaGreatDoor
open Go.RowKit

/-- What a join answers. -/
inductive JoinF (a b : List Flo) : List Flo × Nat × Int → Prop
  | one (h : (checkF a).1 ≠ 0) : JoinF a b ([], checkF a)
  | two (h : (checkF a).1 = 0) (h2 : (checkF b).1 ≠ 0) : JoinF a b ([], checkF b)
  | full (h : (checkF a).1 = 0) (h2 : (checkF b).1 = 0) (J : List Flo) (hJ : IsJoin a b J) (hl : 21 < J.length) : JoinF a b ([], 7, -1)
  | good (h : (checkF a).1 = 0) (h2 : (checkF b).1 = 0) (J : List Flo) (hJ : IsJoin a b J) (hl : J.length ≤ 21) : JoinF a b (J, 0, -1)
def JoinRes (E : Nat → Addr) (base : Nat) (w' : World) (a b : List Flo) (e : Ending) : Prop := ∃ r ev v, JoinF a b r ∧ e = .returned (.tuple #[v, ev]) ∧ FlRow w' base v r.1 ∧ ErrAt E w' ev r.2.1 r.2.2
theorem JoinRes.bad {E : Nat → Addr} {base : Nat} {w' : World} {a b : List Flo} {ev : Value} {c : Nat} {p : Int} (h : JoinF a b ([], c, p)) (he : ErrAt E w' ev c p) : JoinRes E base w' a b (.returned (.tuple #[.slice none 0 0, ev])) := ⟨_, ev, _, h, rfl, floRow_G.2 (RowG.nil _ _ _), he⟩
/-- The sort, whatever the slice. -/
theorem sortA_flo {base : Nat} {v : Value} (L : List Flo) (w : World) (h : RowG floC w base 24 v L) (hl : L.length ≤ 1000000) :
    Calls Tryz.prog 33 #[v, .func (.func 34) #[] #[]] w fun e w' => e = .returned (.tuple #[]) ∧ ∃ S : List Flo, (∀ f, f ∈ S ↔ f ∈ L) ∧ S.length = L.length ∧ S.Pairwise (fun f g => ¬ g.who < f.who) ∧ RowG floC w' base 24 v S ∧ Below base w w' := by
  have hc := h
  obtain ⟨hlen, ⟨hv, hn⟩ | ⟨g, cap, cur, hv, hb, _⟩⟩ := hc
  · subst hv
    have hL : L = [] := List.eq_nil_of_length_eq_zero hn
    subst hL
    refine Calls.mono (AnyF.slices_SortFunc_none Tryz.sortf33 none 0 _ w) ?_
    rintro e w' ⟨rfl, rfl⟩
    exact ⟨rfl, [], fun f => Iff.rfl, rfl, List.Pairwise.nil, h, Below.refl _ _⟩
  · subst hv
    refine (sort_flo L w h hl).mono ?_
    rintro e w' ⟨rfl, S, h1, h2, h3, h4, h5⟩
    exact ⟨rfl, S, h1, h2, h3, h4, h5.below (by have := (holdsK_of h).2.1; omega) (fun k e => by rw [e]; exact hb)⟩
set_option maxRecDepth 100000 in
theorem compA_flo {base : Nat} {v : Value} (L : List Flo) (w : World) (h : FlRow w base v L) (hl : L.length ≤ 1000) (hbs : base ≤ w.heap.size) :
    Calls Tryz.prog 36 #[v] w fun e w' => ∃ v', e = .returned v' ∧ FlRow w' base v' (compF L) ∧ Below base w w' := by
  have hc := h
  rcases h.shape with ⟨hv, hn⟩ | ⟨g, cap, cur, hv, hb, _⟩
  · subst hv
    have hL : L = [] := hn
    subst hL
    have hH := Lib.hid h
    clear hc h
    go_enter Tryz.func36, Tryz.ntmps36
    go_wp2_with fail
    go_ret
    exact ⟨_, rfl, hH.out, Below.refl _ _⟩
  · subst hv
    exact (comp_flo L w h hl hb hbs).mono fun e w' ⟨h1, h2, h3⟩ => ⟨_, h1, h2, h3⟩
theorem below_trans' {B : Nat} {x y z : World} (h : Below B x y) (k : Below y.heap.size y z) (hb : B ≤ y.heap.size := by omega) : Below B x z := h.trans (k.mono hb)
set_option maxHeartbeats 16000000 in
set_option maxRecDepth 100000 in
theorem join_flo {E : Nat → Addr} (va vb : Value) (a b : List Flo) (w : World) (hL : Laid E w) (hva : AtG floC w va a) (hvb : AtG floC w vb b) (hma : ∀ f ∈ a, f.who.length ≤ maxLen) (hmb : ∀ f ∈ b, f.who.length ≤ maxLen) :
    Calls Tryz.prog 10 #[va, vb] w fun e w' => JoinRes E w.heap.size w' a b e ∧ Below w.heap.size w w' := by
  have hLw := Lib.hid (fun wx (hx : Below w.heap.size w wx) => hL.below hx)
  have hAw := Lib.hid (fun wx (hx : Below w.heap.size w wx) => (show AtG floC wx va a from AtG.below hva hx))
  have hBw := Lib.hid (fun wx (hx : Below w.heap.size w wx) => (show AtG floC wx vb b from AtG.below hvb hx))
  have hca := Lib.hid (check_flo (E := E) va a w hL (floorsAt_of hva) hma)
  have hcb := Lib.hid (fun wx (hx : Below w.heap.size w wx) => check_flo (E := E) vb b wx (hL.below hx) (floorsAt_of (hBw.out wx hx)) hmb)
  have hmaH := Lib.hid hma
  have hmbH := Lib.hid hmb
  obtain ⟨aa, ca, hsa⟩ := AtG.sl hva
  obtain ⟨ab, cb, hsb⟩ := AtG.sl hvb
  subst hsa
  subst hsb
  clear hL hma hmb hva hvb
  go_enter Tryz.func10, Tryz.ntmps10
  go_wp2_with fail
  refine hca.out.mono ?_
  rintro e w1 ⟨ev1, rfl, he1, hb1⟩
  have hK1 := Lib.hid hb1
  have hcb1 := Lib.hid (hcb.out _ hb1)
  by_cases h1 : (checkF a).1 = 0
  case neg =>
    obtain ⟨T1, x1, rfl⟩ := he1.iface h1
    have hfin := Lib.hid (JoinRes.bad (base := w.heap.size) (JoinF.one (b := b) h1) he1)
    clear hb1 he1 h1 hca hcb1
    go_wp2_with fail
    go_ret2
    exact ⟨hfin.out, hK1.out⟩
  obtain ⟨rfl, _⟩ := he1.zero h1
  clear hb1 he1 hca
  go_wp2_with fail
  refine hcb1.out.mono ?_
  rintro e w2 ⟨ev2, rfl, he2, hb2⟩
  have hK2 := Lib.hid (below_trans hK1.out hb2)
  by_cases h2 : (checkF b).1 = 0
  case neg =>
    obtain ⟨T1, x1, rfl⟩ := he2.iface h2
    have hfin := Lib.hid (JoinRes.bad (base := w.heap.size) (JoinF.two (a := a) h1 h2) he2)
    clear hb2 he2 h1 h2 hcb1
    go_wp2_with fail
    go_ret2
    exact ⟨hfin.out, hK2.out⟩
  obtain ⟨rfl, _⟩ := he2.zero h2
  have hga := Lib.hid (goodF_check h1)
  have hgb := Lib.hid (goodF_check h2)
  have h1H := Lib.hid h1
  have h2H := Lib.hid h2
  have hta := Lib.hid (top_flo _ a w2 (floorsAt_of (hAw.out _ hK2.out)))
  have htb := Lib.hid (top_flo _ b w2 (floorsAt_of (hBw.out _ hK2.out)))
  clear hb2 he2 hcb1 h1 h2
  go_wp2_with fail
  refine hta.out.mono ?_
  rintro e w3 ⟨rfl, rfl⟩
  go_wp2_with fail
  refine htb.out.mono ?_
  rintro e w3 ⟨rfl, rfl⟩
  have hB3 : Below w2.heap.size w2 (w2.alloc (.cells #[.slice aa a.length ca, .slice ab b.length cb] 93)) := (Below.refl _ _).alloc (Nat.le_refl _) _
  have hrow3 := heap_alloc_new w2 (.cells #[.slice aa a.length ca, .slice ab b.length cb] 22)
  obtain ⟨⟨r0, r1⟩, _⟩ := two_kept (Below.refl _ _) hrow3
  have hal := hga.out.len
  have hbl := hgb.out.len
  have hK3 := Lib.hid (hK2.out.alloc hK2.out.size (.cells #[.slice aa a.length ca, .slice ab b.length cb] 22))
  have hcc := Lib.hid (concat_flo w2.heap.size _ _ a b _ r0 r1 (hAw.out _ hK3.out) (hBw.out _ hK3.out) (by omega))
  clear r0 r1 hrow3 hB3
  go_wp2_with fail
  refine hcc.out.mono ?_
  rintro e w4 ⟨v4, rfl, hr4, hb4⟩
  have hK4 := Lib.hid (below_trans hK3.out hb4)
  have hr4 := Lib.hid hr4
  obtain ⟨a4, c4, hs4⟩ := RowG.sl hr4.out
  subst hs4
  clear hb4 hcc
  have hln : (a ++ b).length = a.length + b.length := List.length_append
  have hcat : ∀ f ∈ a ++ b, f.who.length ≤ maxLen := fun f hf => by
    rcases List.mem_append.1 hf with h | h
    · exact hmaH.out f h
    · exact hmbH.out f h
  have hcat := Lib.hid hcat
  have htj : max (topF a) (topF b) = topJ a b := rfl
  rw [htj]
  generalize hC : a ++ b = CC at *
  have hCH := Lib.hid hC
  clear hC htj
  go_wp2_with fail
  go_loopg [9, 32] (CC.length + 1) (fun g s9 i wr => ∃ j : Nat, i = .int .i64 j ∧ j ≤ CC.length ∧ CC.length - j + 1 ≤ g ∧ Hid (RowG floC wr w4.heap.size 24 s9 (preJ a b (CC.take j))) ∧ Hid (Below w.heap.size w wr) ∧ Hid (Below w4.heap.size w4 wr))
  case atStart => exact ⟨0, rfl, Nat.zero_le _, by omega, Lib.hid (RowG.nil _ _ _), hK4, Lib.hid (Below.refl _ _)⟩
  case round =>
    obtain ⟨j, rfl, hj, hg, hrow, hK, hQ⟩ := hrel
    by_cases hlt : j < CC.length
    · have hAt := RowG.at_ (RowG.below hr4.out hQ.out)
      obtain ⟨_, _, he, _, _, _, hcs⟩ := hAt
      cases he
      obtain ⟨bb, oo, rfl, hc⟩ := hcs j hlt
      have hwho := hcat.out CC[j] (List.getElem_mem hlt)
      have hsn : CC.take (j + 1) = CC.take j ++ [CC[j]] := by rw [List.take_add_one, List.getElem?_eq_getElem hlt]; rfl
      generalize CC[j] = FF at *
      have hps := Lib.hid (show preJ a b (CC.take (j + 1)) = if putJ a b FF = true then preJ a b (CC.take j) ++ [⟨FF.who, epJ a b FF.who⟩] else preJ a b (CC.take j) from by rw [hsn, preJ_snoc])
      have hplen : (preJ a b (CC.take j)).length ≤ 1000 := by
        have : (preJ a b (CC.take j)).length ≤ (CC.take j).length := by unfold preJ; rw [List.length_map]; exact List.length_filter_le _ _
        rw [List.length_take] at this
        omega
      have hpd : putJ a b FF = (decide (FF.who = starW) || decide (topJ a b < epJ a b FF.who)) := rfl
      have hpd := Lib.hid hpd
      obtain ⟨fw, fe⟩ := FF
      have d0 : wr.cell? ⟨bb, oo + j * 2, none⟩ = some (.string (bs fw)) := hc 0 _ rfl
      have d1 : wr.cell? ⟨bb, oo + j * 2 + 1, none⟩ = some (.int .i64 fe) := hc 1 _ rfl
      have hk0 : (0 : Int) ≤ (j : Int) := by omega
      have hk1 : (j : Int) < (CC.length : Int) := by omega
      have hoa := Lib.hid (fun wx (hx : Below w.heap.size w wx) => of_flo _ a fw wx (floorsAt_of (hAw.out wx hx)) hmaH.out)
      have hob := Lib.hid (fun wx (hx : Below w.heap.size w wx) => of_flo _ b fw wx (floorsAt_of (hBw.out wx hx)) hmbH.out)
      have hbx := heap_alloc_new wr (.cells #[.string (bs fw), .int .i64 fe] 24)
      have hal1 : Below wr.heap.size wr (wr.alloc (.cells #[.string (bs fw), .int .i64 fe] 24)) := (Below.refl _ _).alloc (Nat.le_refl _) _
      have hKa := Lib.hid (below_trans' hK.out hal1 hK.out.size)
      have hQa := Lib.hid (below_trans hQ.out hal1)
      have hra := Lib.hid (RowG.below hrow.out hal1)
      have hbsz := hK.out.size
      have hbs4 := hQ.out.size
      have hne := Lib.hid (fun g (hg : Value.ownBlock u9 = some g) => show g ≠ wr.heap.size from by obtain ⟨_, cs, hcs'⟩ := RowG.block hrow.out hg; intro e; rw [e] at hcs'; simp at hcs')
      clear hcs hc hsn hal1
      go_upto_region 12 with fail
      generalize wr.heap.size = bx at *
      generalize wr.alloc (.cells #[.string (bs fw), .int .i64 fe] 24) = W at *
      have hkR := Lib.hid (fun wx (hx : Below W.heap.size W wx) => heap_down hx hbx)
      have hkS := Lib.hid (fun wx (hx : Below W.heap.size W wx) => (two_kept hx hbx).1.1)
      have hD0 := Lib.hid (show Below W.heap.size W W.drew from (Below.refl _ _).drew)
      have hcD := hkS.out _ hD0.out
      clear d0 d1 hbx
      refine wp_region_noPanic ?_
      refine wp_region_held_drew (S := fun wx => wx.cell? ⟨bx, 0, none⟩ = some (.string (bs fw))) (by kernel_rfl) ?_ (fun hHeld => ?_)
      · exact hcD
      refine' held_take (i := 0) (d := some 36) (v := _) rfl rfl (by kernel_rfl) (by kernel_rfl) (by kernel_rfl) (fun _ _ _ h => h) rfl (by assumption) ?hy_1 ?re_1
      case hy_1 =>
        intro w hSw
        try dsimp only at hSw
        go_simp
        try with_reducible rfl
      simp only [Act.put, List.setIfInBounds_toArray, List.set_cons_zero, List.set_cons_succ]
      refine' held_take (i := 1) (d := some 37) (v := _) rfl rfl (by kernel_rfl) (by kernel_rfl) (by kernel_rfl) (fun _ _ _ h => h) rfl (by assumption) ?hy_2 ?re_2
      case hy_2 =>
        intro w hSw
        try dsimp only at hSw
        go_simp
        try with_reducible rfl
      simp only [Act.put, List.setIfInBounds_toArray, List.set_cons_zero, List.set_cons_succ]
      refine' held_take (i := 2) (d := some 38) (v := _) rfl rfl (by kernel_rfl) (by kernel_rfl) (by kernel_rfl) (fun _ _ _ h => h) rfl (by assumption) ?hy_3 ?re_3
      case hy_3 =>
        intro w hSw
        try dsimp only at hSw
        go_simp
        try with_reducible rfl
      simp only [Act.put, List.setIfInBounds_toArray, List.set_cons_zero, List.set_cons_succ]
      refine' held_take (i := 4) (d := some 40) (v := _) rfl rfl (by kernel_rfl) (by kernel_rfl) (by kernel_rfl) (fun _ _ _ h => h) rfl (by assumption) ?hy_4 ?re_4
      case hy_4 =>
        intro w hSw
        try dsimp only at hSw
        go_simp
        try with_reducible rfl
      simp only [Act.put, List.setIfInBounds_toArray, List.set_cons_zero, List.set_cons_succ]
      refine' held_take (i := 5) (d := some 41) (v := _) rfl rfl (by kernel_rfl) (by kernel_rfl) (by kernel_rfl) (fun _ _ _ h => h) rfl (by assumption) ?hy_5 ?re_5
      case hy_5 =>
        intro w hSw
        try dsimp only at hSw
        go_simp
        try with_reducible rfl
      simp only [Act.put, List.setIfInBounds_toArray, List.set_cons_zero, List.set_cons_succ]
      refine' held_take (i := 6) (d := some 42) (v := _) rfl rfl (by kernel_rfl) (by kernel_rfl) (by kernel_rfl) (fun _ _ _ h => h) rfl (by assumption) ?hy_6 ?re_6
      case hy_6 =>
        intro w hSw
        try dsimp only at hSw
        go_simp
        try with_reducible rfl
      simp only [Act.put, List.setIfInBounds_toArray, List.set_cons_zero, List.set_cons_succ]
      refine wpAnyH_ready (rs := [3]) (by kernel_rfl) (by simp) ?_
      refine AllReadyH.cons rfl (fun K hK => ?_) AllReadyH.nil
      go_simp
      refine (hoa.out _ (below_trans' hKa.out hD0.out hKa.out.size)).mono ?_
      rintro e w5 ⟨rfl, hb⟩
      have hD1 := Lib.hid (below_trans hD0.out hb)
      clear hb
      go_wp2_with fail
      refine hK.out _ _ ?_ (fun hHeld => ?_)
      · exact hkS.out _ hD1.out
      clear hK K
      try simp only [Act.put, List.setIfInBounds_toArray, List.set_cons_zero, List.set_cons_succ]
      refine wpAnyH_ready (rs := [7]) (by kernel_rfl) (by simp) ?_
      refine AllReadyH.cons rfl (fun K hK => ?_) AllReadyH.nil
      go_simp
      refine (hob.out _ (below_trans' hKa.out hD1.out hKa.out.size)).mono ?_
      rintro e w6 ⟨rfl, hb⟩
      have hD2 := Lib.hid (below_trans hD1.out hb)
      clear hb
      go_wp2_with fail
      refine hK.out _ _ ?_ (fun hHeld => ?_)
      · exact hkS.out _ hD2.out
      clear hK K
      try simp only [Act.put, List.setIfInBounds_toArray, List.set_cons_zero, List.set_cons_succ]
      refine' held_take (i := 8) (d := some 44) (v := _) rfl rfl (by kernel_rfl) (by kernel_rfl) (by kernel_rfl) (fun _ _ _ h => h) rfl (by assumption) ?hy_7 ?re_7
      case hy_7 =>
        intro w hSw
        try dsimp only at hSw
        go_simp
        try with_reducible rfl
      simp only [Act.put, List.setIfInBounds_toArray, List.set_cons_zero, List.set_cons_succ]
      refine' held_take (i := 9) (d := some 45) (v := _) rfl rfl (by kernel_rfl) (by kernel_rfl) (by kernel_rfl) (fun _ _ _ h => h) rfl (by assumption) ?hy_8 ?re_8
      case hy_8 =>
        intro w hSw
        try dsimp only at hSw
        go_simp
        try with_reducible rfl
      simp only [Act.put, List.setIfInBounds_toArray, List.set_cons_zero, List.set_cons_succ]
      refine wpAnyH_ready (rs := [10]) (by kernel_rfl) (by simp) ?_
      refine AllReadyH.cons rfl (fun K hK => ?_) AllReadyH.nil
      have hrw := hkR.out _ hD2.out
      obtain ⟨⟨y0, y1⟩, z0, z1⟩ := two_kept (Below.refl _ _) hrw
      have hrw2 := Lib.hid (heap_setCell_same w6 bx 1 _ _ (.int .i64 (max (ofF a fw) (ofF b fw))) hrw)
      clear hrw
      go_simp
      refine hK.out _ _ ?_ (fun hHeld => ?_)
      · exact (two_kept (Below.refl _ _) hrw2.out).1.1
      clear hK K
      try simp only [Act.put, List.setIfInBounds_toArray, List.set_cons_zero, List.set_cons_succ]
      refine wpAnyH_done (by kernel_rfl) ?_ _
      refine NoPanic.normal ?_
      obtain ⟨⟨s0, s1⟩, _⟩ := two_kept (Below.refl _ _) (show (w6.setCell ⟨bx, 1, none⟩ (.int .i64 (max (ofF a fw) (ofF b fw)))).heap[bx]? = some (.cells #[.string (bs fw), .int .i64 (max (ofF a fw) (ofF b fw))] 24) from hrw2.out)
      have hKX := Lib.hid ((below_trans' hKa.out hD2.out hKa.out.size).setCell (p := ⟨bx, 1, none⟩) hbsz (.int .i64 (max (ofF a fw) (ofF b fw))))
      have hQX := Lib.hid ((below_trans' hQa.out hD2.out hQa.out.size).setCell (p := ⟨bx, 1, none⟩) hbs4 (.int .i64 (max (ofF a fw) (ofF b fw))))
      have hrX := Lib.hid (RowG.other (RowG.below hra.out hD2.out) ⟨bx, 1, none⟩ (.int .i64 (max (ofF a fw) (ofF b fw))) hne.out)
      have hepJ : epJ a b fw = max (ofF a fw) (ofF b fw) := rfl
      generalize w6.setCell ⟨bx, 1, none⟩ (.int .i64 (max (ofF a fw) (ofF b fw))) = X at *
      rw [← hepJ] at s1
      rw [← hepJ]
      generalize epJ a b fw = ee at *
      generalize topJ a b = tt at *
      have hszX := hKX.out.size
      have hszY := hQX.out.size
      clear hepJ hcD hHeld hoa hob hkR hkS hK hQ hrow hKa hQa hra hD0 hD1 hD2 y0 y1 z0 z1 hrw2
      have hst : ((bs fw).toList == [42]) = decide (fw = starW) := by rw [toList_data, bs_list, Bool.eq_iff_iff, decide_eq_true_iff, beq_iff_eq]; exact Iff.rfl
      by_cases hs : fw = starW
      · have hpd1 : putJ a b ⟨fw, fe⟩ = true := by rw [hpd.out, decide_eq_true hs]; rfl
        have hnx := Lib.hid (show preJ a b (CC.take (j + 1)) = preJ a b (CC.take j) ++ [⟨fw, ee⟩] from by rw [hps.out, if_pos hpd1])
        rw [decide_eq_true hs] at hst
        clear hs hpd hpd1 hps
        go_wp2_with (first
          | (at_builtin; refine wpList_appG floC _ rfl _ _ 22 rfl 24 (.agg #[.string ⟨#[]⟩, .int .i64 0]) 24 Tryz.underlying22 info_flo2 rfl (by decide) w4.heap.size _ (preJ a b (CC.take j)) rfl (RowG.alloc hrX.out _) _ [⟨fw, ee⟩] rfl (AtG.new _ _ _ rfl) (by simp; omega) (by simp; omega) ?_)
          | go_in)
        intro v7 w7 hown7 hb7 _ _
        have hK7 := Lib.hid ((hKX.out.alloc hszX _).trans (hb7.mono hK4.out.size))
        have hQ7 := Lib.hid ((hQX.out.alloc hszY _).trans hb7)
        have hown7 := Lib.hid (show RowG floC w7 w4.heap.size 24 v7 (preJ a b (CC.take (j + 1))) by rw [hnx.out]; exact hown7)
        clear hb7 hKX hQX hrX s0 s1 hnx
        go_wp2_with fail
        go_roundg (CC.length - j)
        case measure => omega
        case rel => exact ⟨j + 1, by simp, hlt, by omega, hown7, hK7, hQ7⟩
      · by_cases hgt : tt < ee
        · have hpd1 : putJ a b ⟨fw, fe⟩ = true := by rw [hpd.out, decide_eq_true hgt, Bool.or_true]
          have hnx := Lib.hid (show preJ a b (CC.take (j + 1)) = preJ a b (CC.take j) ++ [⟨fw, ee⟩] from by rw [hps.out, if_pos hpd1])
          rw [decide_eq_false hs] at hst
          clear hs hpd hpd1 hps
          go_wp2_with (first
            | (at_builtin; refine wpList_appG floC _ rfl _ _ 22 rfl 24 (.agg #[.string ⟨#[]⟩, .int .i64 0]) 24 Tryz.underlying22 info_flo2 rfl (by decide) w4.heap.size _ (preJ a b (CC.take j)) rfl (RowG.alloc hrX.out _) _ [⟨fw, ee⟩] rfl (AtG.new _ _ _ rfl) (by simp; omega) (by simp; omega) ?_)
            | go_in)
          intro v7 w7 hown7 hb7 _ _
          have hK7 := Lib.hid ((hKX.out.alloc hszX _).trans (hb7.mono hK4.out.size))
          have hQ7 := Lib.hid ((hQX.out.alloc hszY _).trans hb7)
          have hown7 := Lib.hid (show RowG floC w7 w4.heap.size 24 v7 (preJ a b (CC.take (j + 1))) by rw [hnx.out]; exact hown7)
          clear hb7 hKX hQX hrX s0 s1 hnx
          go_wp2_with fail
          go_roundg (CC.length - j)
          case measure => omega
          case rel => exact ⟨j + 1, by simp, hlt, by omega, hown7, hK7, hQ7⟩
        · have hpd1 : putJ a b ⟨fw, fe⟩ = false := by rw [hpd.out, decide_eq_false hgt, decide_eq_false hs]; rfl
          have hnx := Lib.hid (show preJ a b (CC.take (j + 1)) = preJ a b (CC.take j) from by rw [hps.out, if_neg (by rw [hpd1]; exact Bool.false_ne_true)])
          rw [decide_eq_false hs] at hst
          have hrX := Lib.hid (show RowG floC X w4.heap.size 24 u9 (preJ a b (CC.take (j + 1))) by rw [hnx.out]; exact hrX.out)
          clear hs hpd hpd1 hps hnx
          go_wp2_with fail
          go_roundg (CC.length - j)
          case measure => omega
          case rel => exact ⟨j + 1, by simp, hlt, by omega, hrX, hKX, hQX⟩
    · have hje : CC.take j = CC := List.take_of_length_le (by omega)
      have hge : ¬ ((j : Int) < (CC.length : Int)) := by omega
      have hrE := RowG.mono hrow.out hK4.out.size
      rw [hje] at hrE
      have hpl : (preJ a b CC).length ≤ 1000 := by
        have : (preJ a b CC).length ≤ CC.length := by unfold preJ; rw [List.length_map]; exact List.length_filter_le _ _
        omega
      have hso := Lib.hid (sortA_flo (preJ a b CC) wr hrE (by omega))
      obtain ⟨a9, c9, hs9⟩ := RowG.sl hrE
      subst hs9
      clear hje hlt hj hg hrE hrow
      go_wp2_with fail
      refine hso.out.mono ?_
      rintro e w5 ⟨rfl, S, hm5, hl5, hs5, hr5, hb5⟩
      have hK5 := Lib.hid (hK.out.trans hb5)
      have hJ := Lib.hid (isJoin_of hga.out.g hgb.out.g (S := S) (fun f => by rw [hm5 f, ← hCH.out]) hs5)
      have hcm := Lib.hid (compA_flo S w5 (floRow_G.2 hr5) (by omega) hK5.out.size)
      clear hb5 hm5 hs5 hr5 hso
      go_wp2_with fail
      refine hcm.out.mono ?_
      rintro e w6 ⟨v6, rfl, hr6, hb6⟩
      have hK6 := Lib.hid (hK5.out.trans hb6)
      have hr6 := Lib.hid hr6
      obtain ⟨a6, c6, hs6⟩ := (floRow_G.1 hr6.out).sl
      subst hs6
      clear hb6 hcm
      by_cases h21 : 21 < (compF S).length
      · have h21i : (21 : Int) < ((compF S).length : Int) := by omega
        have he := (hLw.out _ hK6.out).e7
        simp only [errV] at he
        have hr := Lib.hid (JoinF.full h1H.out h2H.out _ hJ.out h21)
        clear h21
        go_wp2_with fail
        go_quiet (fail)
        go_wp2_with fail
        go_ret2
        exact ⟨JoinRes.bad hr.out (ErrAt.bare 7), below_drawn hK6.out _⟩
      · have h21i : ¬ (21 : Int) < ((compF S).length : Int) := by omega
        have hr := Lib.hid (JoinF.good h1H.out h2H.out _ hJ.out (by omega))
        clear h21
        go_wp2_with fail
        go_ret2
        exact ⟨⟨_, _, _, hr.out, rfl, hr6.out, ErrAt.bare 0⟩, hK6.out⟩
end Go.Proofs.YtcnadjdijolboaaGreatDoor

/- Floors joined by one walk over both, as the document does it: no program in sight. -/
namespace Go.Proofs.YtcnadjdijolboaaGreatDoor

/-- How far a walk over both has come. -/
structure MidJ (a b : List Flo) (i k : Nat) (out : List Flo) : Prop where
  mem : ∀ g, g ∈ out ↔ ∃ f ∈ a.take i ++ b.take k, putJ a b f = true ∧ g = ⟨f.who, epJ a b f.who⟩
  sorted : out.Pairwise (fun f g => f.who < g.who)
  cut : ∀ f ∈ a.take i ++ b.take k, ∀ g ∈ a.drop i ++ b.drop k, f.who < g.who
  len : out.length ≤ i + k
theorem MidJ.zero (a b : List Flo) : MidJ a b 0 0 [] := ⟨fun g => by simp, List.Pairwise.nil, fun f hf => by simp at hf, Nat.le_refl _⟩
/-- The next of one. -/
def nextJ (a : List Flo) (i : Nat) (who : List UInt8) : Nat := if (a.getD i ⟨[], 0⟩).who = who ∧ i < a.length then i + 1 else i
theorem next_step {a : List Flo} (hs : a.Pairwise (fun f g => f.who < g.who)) {i : Nat} {who : List UInt8} (hle : ∀ h : i < a.length, ¬ a[i].who < who) :
    i ≤ nextJ a i who ∧ nextJ a i who ≤ i + 1 ∧ (∀ f, f ∈ a.take (nextJ a i who) ↔ f ∈ a.take i ∨ (f ∈ a.drop i ∧ f.who = who)) ∧ (∀ g ∈ a.drop (nextJ a i who), who < g.who ∧ g ∈ a.drop i) := by
  unfold nextJ
  by_cases h : i < a.length
  · have hd : a.drop i = a[i] :: a.drop (i + 1) := List.drop_eq_getElem_cons h
    have hp : (a.drop i).Pairwise (fun f g => f.who < g.who) := hs.sublist (List.drop_sublist i a)
    rw [hd] at hp ⊢
    have hp := List.pairwise_cons.1 hp
    have h0 := hle h
    rw [getD_get h]
    by_cases he : a[i].who = who
    · rw [if_pos ⟨he, h⟩]
      refine ⟨by omega, Nat.le_refl _, fun f => ?_, fun g hg => ⟨by rw [← he]; exact hp.1 g hg, List.mem_cons_of_mem _ hg⟩⟩
      rw [List.take_succ_eq_append_getElem h, List.mem_append, List.mem_singleton]
      constructor
      · rintro (hf | rfl)
        · exact .inl hf
        · exact .inr ⟨List.mem_cons.2 (.inl rfl), he⟩
      · rintro (hf | ⟨hf, hw⟩)
        · exact .inl hf
        · rcases List.mem_cons.1 hf with rfl | hm
          · exact .inr rfl
          · have := hp.1 f hm
            rw [hw, he] at this
            exact absurd this (List.lt_irrefl _)
    · rw [if_neg (fun h => he h.1), hd]
      have hlt : who < a[i].who := lt_total h0 he
      refine ⟨Nat.le_refl _, by omega, fun f => ⟨.inl, ?_⟩, fun g hg => ⟨?_, hg⟩⟩
      · rintro (hf | ⟨hf, hw⟩)
        · exact hf
        · rcases List.mem_cons.1 hf with rfl | hm
          · exact absurd hw he
          · have := List.lt_trans hlt (hp.1 f hm)
            rw [hw] at this
            exact absurd this (List.lt_irrefl _)
      · rcases List.mem_cons.1 hg with rfl | hm
        · exact hlt
        · exact List.lt_trans hlt (hp.1 g hm)
  · rw [if_neg (fun hh => h hh.2), List.drop_eq_nil_of_le (by omega)]
    exact ⟨Nat.le_refl _, by omega, fun f => by simp, fun g hg => by cases hg⟩
theorem next_le {a : List Flo} {i : Nat} (who : List UInt8) (h : i ≤ a.length) : nextJ a i who ≤ a.length := by
  unfold nextJ
  split <;> omega
/-- The first that is left of one; the least that is left of both. -/
def who0J (a : List Flo) (i : Nat) : List UInt8 := if i < a.length then (a.getD i ⟨[], 0⟩).who else []
def whoJ (a b : List Flo) (i k : Nat) : List UInt8 := if k < b.length ∧ (who0J a i = [] ∨ (b.getD k ⟨[], 0⟩).who < who0J a i) then (b.getD k ⟨[], 0⟩).who else who0J a i
theorem who_some {f : Flo} (h : oneF f = 0) : f.who ≠ [] := by
  intro e
  rcases (oneF_zero h).1 with h | h
  · rw [e] at h; cases h
  · rw [e] at h; cases h
theorem whoJ_ok {a b : List Flo} (ha : Good0 a) (hb : Good0 b) {i k : Nat} (h : i < a.length ∨ k < b.length) :
    (∀ h : i < a.length, ¬ a[i].who < whoJ a b i k) ∧ (∀ h : k < b.length, ¬ b[k].who < whoJ a b i k) ∧ ((∃ h : i < a.length, a[i].who = whoJ a b i k) ∨ (∃ h : k < b.length, b[k].who = whoJ a b i k)) := by
  unfold whoJ who0J
  by_cases hi : i < a.length
  · have hne := who_some (ha.one _ (List.getElem_mem hi))
    rw [if_pos hi, getD_get hi]
    by_cases hk : k < b.length
    · rw [getD_get hk]
      by_cases hlt : b[k].who < a[i].who
      · rw [if_pos ⟨hk, .inr hlt⟩]
        exact ⟨fun _ h => List.lt_irrefl _ (List.lt_trans h hlt), fun _ => List.lt_irrefl _, .inr ⟨hk, rfl⟩⟩
      · rw [if_neg (by rintro ⟨_, h | h⟩; exact hne h; exact hlt h)]
        exact ⟨fun _ => List.lt_irrefl _, fun _ => hlt, .inl ⟨hi, rfl⟩⟩
    · rw [if_neg (by rintro ⟨h, _⟩; exact hk h)]
      exact ⟨fun _ => List.lt_irrefl _, fun h => absurd h hk, .inl ⟨hi, rfl⟩⟩
  · have hk : k < b.length := by omega
    rw [if_neg hi, getD_get hk, if_pos ⟨hk, .inl rfl⟩]
    exact ⟨fun h => absurd h hi, fun _ => List.lt_irrefl _, .inr ⟨hk, rfl⟩⟩
/-- What stands there now. -/
def outJ (a b out : List Flo) (who : List UInt8) : List Flo := if putJ a b ⟨who, 0⟩ = true then out ++ [⟨who, epJ a b who⟩] else out
theorem MidJ.step {a b out : List Flo} {i k : Nat} (h : MidJ a b i k out) (ha : a.Pairwise (fun f g => f.who < g.who)) (hb : b.Pairwise (fun f g => f.who < g.who)) {who : List UInt8}
    (hla : ∀ h : i < a.length, ¬ a[i].who < who) (hlb : ∀ h : k < b.length, ¬ b[k].who < who) (hhas : (∃ h : i < a.length, a[i].who = who) ∨ (∃ h : k < b.length, b[k].who = who)) :
    MidJ a b (nextJ a i who) (nextJ b k who) (outJ a b out who) ∧ i + k < nextJ a i who + nextJ b k who := by
  obtain ⟨a1, a2, a3, a4⟩ := next_step ha hla
  obtain ⟨b1, b2, b3, b4⟩ := next_step hb hlb
  have hpt : ∀ f : Flo, f.who = who → putJ a b f = putJ a b ⟨who, 0⟩ := fun f hf => by unfold putJ; rw [hf]
  have hnew : ∃ f ∈ a.drop i ++ b.drop k, f.who = who := by
    rcases hhas with ⟨h1, h2⟩ | ⟨h1, h2⟩
    · exact ⟨a[i], List.mem_append_left _ (by rw [List.drop_eq_getElem_cons h1]; exact List.mem_cons.2 (.inl rfl)), h2⟩
    · exact ⟨b[k], List.mem_append_right _ (by rw [List.drop_eq_getElem_cons h1]; exact List.mem_cons.2 (.inl rfl)), h2⟩
  have hlt : i + k < nextJ a i who + nextJ b k who := by
    rcases hhas with ⟨h1, h2⟩ | ⟨h1, h2⟩
    · have : nextJ a i who = i + 1 := by unfold nextJ; rw [getD_get h1, if_pos ⟨h2, h1⟩]
      omega
    · have : nextJ b k who = k + 1 := by unfold nextJ; rw [getD_get h1, if_pos ⟨h2, h1⟩]
      omega
  have hall : ∀ f, f ∈ a.take (nextJ a i who) ++ b.take (nextJ b k who) ↔ f ∈ a.take i ++ b.take k ∨ (f ∈ a.drop i ++ b.drop k ∧ f.who = who) := fun f => by
    rw [List.mem_append, a3, b3, List.mem_append, List.mem_append]
    constructor
    · rintro ((h | ⟨h, e⟩) | (h | ⟨h, e⟩))
      · exact .inl (.inl h)
      · exact .inr ⟨.inl h, e⟩
      · exact .inl (.inr h)
      · exact .inr ⟨.inr h, e⟩
    · rintro ((h | h) | ⟨h | h, e⟩)
      · exact .inl (.inl h)
      · exact .inr (.inl h)
      · exact .inl (.inr ⟨h, e⟩)
      · exact .inr (.inr ⟨h, e⟩)
  have hold : ∀ f ∈ a.take i ++ b.take k, f.who < who := fun f hf => by
    obtain ⟨g, hg, he⟩ := hnew
    rw [← he]
    exact h.cut f hf g hg
  refine ⟨⟨fun g => ?_, ?_, fun f hf g hg => ?_, ?_⟩, hlt⟩
  · unfold outJ
    by_cases hp : putJ a b ⟨who, 0⟩ = true
    · rw [if_pos hp, List.mem_append, List.mem_singleton, h.mem]
      constructor
      · rintro (⟨f, hf, h1, h2⟩ | rfl)
        · exact ⟨f, (hall f).2 (.inl hf), h1, h2⟩
        · obtain ⟨f, hf, he⟩ := hnew
          exact ⟨f, (hall f).2 (.inr ⟨hf, he⟩), by rw [hpt f he]; exact hp, by rw [he]⟩
      · rintro ⟨f, hf, h1, h2⟩
        rcases (hall f).1 hf with hf | ⟨_, he⟩
        · exact .inl ⟨f, hf, h1, h2⟩
        · exact .inr (by rw [h2, he])
    · rw [if_neg hp, h.mem]
      constructor
      · rintro ⟨f, hf, h1, h2⟩
        exact ⟨f, (hall f).2 (.inl hf), h1, h2⟩
      · rintro ⟨f, hf, h1, h2⟩
        rcases (hall f).1 hf with hf | ⟨_, he⟩
        · exact ⟨f, hf, h1, h2⟩
        · rw [hpt f he] at h1
          exact absurd h1 hp
  · unfold outJ
    split
    · refine List.pairwise_append.2 ⟨h.sorted, by simp, fun f hf g hg => ?_⟩
      rw [List.mem_singleton.1 hg]
      obtain ⟨q, hq, _, rfl⟩ := (h.mem f).1 hf
      exact hold q hq
    · exact h.sorted
  · have hgd : who < g.who ∧ g ∈ a.drop i ++ b.drop k := by
      rcases List.mem_append.1 hg with hg | hg
      · exact ⟨(a4 g hg).1, List.mem_append_left _ (a4 g hg).2⟩
      · exact ⟨(b4 g hg).1, List.mem_append_right _ (b4 g hg).2⟩
    rcases (hall f).1 hf with hf | ⟨_, he⟩
    · exact h.cut f hf g hgd.2
    · rw [he]; exact hgd.1
  · have := h.len
    unfold outJ
    split
    · rw [List.length_append, List.length_singleton]; omega
    · omega
/-- Behind the walk: the join. -/
theorem MidJ.join {a b out : List Flo} {i k : Nat} (h : MidJ a b i k out) (ha : Good0 a) (hb : Good0 b) (hi : a.length ≤ i) (hk : b.length ≤ k) : IsJoin a b out := by
  have hm := h.mem
  rw [List.take_of_length_le hi, List.take_of_length_le hk] at hm
  have hc : compF out = out := by
    have := compF_id (L := out) out.length (Nat.le_refl _) (fun q h1 _ e => by
      have h2 := List.pairwise_iff_getElem.1 h.sorted q (q + 1) (by omega) h1 (by omega)
      rw [e] at h2
      exact List.lt_irrefl _ h2)
    rwa [List.take_length] at this
  rw [← hc]
  exact isJoin_of ha hb (fun f => by rw [hm, preJ_mem]) (h.sorted.imp fun hlt h2 => List.lt_irrefl _ (List.lt_trans hlt h2))
end Go.Proofs.YtcnadjdijolboaaGreatDoor
