/- RefE2, RefE3 -/
import Derived.Test.YtadnjdchjoechaaGreatDoorMg21
import Derived.Test.YtadnjdchjoechaaGreatDoorMg22
import Derived.Test.YtadnjdchjoechaaGreatDoorMg12
import Derived.Test.YtadnjdchjoechaaGreatDoorMg14
import Derived.Test.YtadnjdchjoechaaGreatDoorMg18
import Derived.Deep.RegionHeld3
/- The reference's feeds: FloorsOf: walked. -/
namespace Go.Proofs.YtadnjdchjoechaaGreatDoor
open Go.RowKit

theorem foldR_snocR {L : List Ent} {j : Nat} (h : j < L.length) (h0 : (foldR [] (L.take j)).2 = 0) :
    foldR [] (L.take (j + 1)) = (if (raiseF (foldR [] (L.take j)).1 L[j].f).2.1 = 0 then ((raiseF (foldR [] (L.take j)).1 L[j].f).1, 0) else ([], (raiseF (foldR [] (L.take j)).1 L[j].f).2.1)) := by
  rw [List.take_add_one, List.getElem?_eq_getElem h, Option.toList_some, foldR_append, if_pos h0]
  rfl
theorem foldR_stopR {L : List Ent} {j : Nat} (h : j < L.length) (h0 : (foldR [] (L.take j)).2 = 0) (hb : (raiseF (foldR [] (L.take j)).1 L[j].f).2.1 ≠ 0) :
    foldR [] L = ([], (raiseF (foldR [] (L.take j)).1 L[j].f).2.1) := by
  have h1 := foldR_snocR h h0
  rw [if_neg hb] at h1
  conv => lhs; rw [← List.take_append_drop (j + 1) L]
  rw [foldR_append, h1, if_neg hb]
/-- Two boxes: that of a result that is a fault, and one behind it. -/
structure TBox (n : Nat) (w wx : World) : Prop where
  res : wx.heap[w.heap.size]? = some (.cells #[.int .i64 0, .int .i64 0] 87 (0, 0))
  own : wx.heap[n]? = some (.cells #[.int .i64 0, .int .i64 (-1)] 87 (0, 0))
  ne : w.heap.size < n
  below : Below w.heap.size w wx
theorem TBox.later {n : Nat} {w wx wy : World} (h : TBox n w wx) (hb : Below wx.heap.size wx wy) : TBox n w wy :=
  ⟨heap_down hb h.res, heap_down hb h.own, h.ne, below_trans h.below hb⟩
theorem TBox.fbox {n : Nat} {w wx : World} (h : TBox n w wx) : FBox w wx := ⟨h.res, h.below⟩
theorem TBox.cells {n : Nat} {w wx : World} (h : TBox n w wx) : wx.cell? ⟨n, 0, none⟩ = some (.int .i64 0) ∧ wx.cell? ⟨n, 1, none⟩ = some (.int .i64 (-1)) := (two_kept (Below.refl _ _) h.own).1
set_option maxHeartbeats 8000000 in
set_option maxRecDepth 100000 in
theorem floorsR_ent (v : Value) (L : List Ent) (w : World) (hv : EntsAt w v L) (hm : ∀ e ∈ L, e.f.who.length ≤ maxLen) :
    Calls Tryz.prog 46 #[v] w fun e w' => RaiRes w.heap.size w' (floorsE L) e ∧ Below w.heap.size w w' := by
  have hB0 : FBox w (w.alloc (.cells #[.int .i64 0, .int .i64 0] 87)) := ⟨heap_alloc_new w _, (Below.refl _ _).alloc (Nat.le_refl _) _⟩
  have hff := Lib.hid (feedFaultR_any v L (w.alloc (.cells #[.int .i64 0, .int .i64 0] 87)) (AtG.below hv hB0.2) hm)
  obtain ⟨a, c, rfl, hlen, _, hc⟩ := EntsAt.get hv
  unfold maxLen at hlen
  have hc := Lib.hid hc
  have hm := Lib.hid hm
  have hB0 := Lib.hid hB0
  have hrdef := Lib.hid (show floorsE L = if (checkE L).1 = 0 then ((foldR [] L).1, (foldR [] L).2, -1) else ([], checkE L) from rfl)
  clear hv
  by_cases hck : (checkE L).1 = 0
  case neg =>
    obtain ⟨z, a1, hza⟩ : ∃ (z : Nat) (a1 : Int), checkE L = (z, a1) := ⟨_, _, rfl⟩
    have hr := hrdef.out
    rw [if_neg hck, hza] at hr
    have hr := Lib.hid hr
    have hff := hff.out
    rw [hza] at hck hff
    dsimp only [faultF] at hck hff
    have hz1 : (0 : Int) < (z : Int) := by omega
    have hff := Lib.hid hff
    clear hza hck
    generalize hzd : (z : Int) = zi at *
    have hzd := Lib.hid hzd
    go_enter Tryz.func46, Tryz.ntmps46
    go_wp2_with fail
    refine hff.out.mono ?_
    rintro e w2 ⟨rfl, hb2⟩
    have hR2 := hB0.out.below hb2
    have hRN : FBox w (w2.alloc (.cells #[.int .i64 zi, .int .i64 a1] 87)) := hR2.below ((Below.refl _ _).alloc (Nat.le_refl _) _)
    have hRNH := Lib.hid hRN
    obtain ⟨⟨r0, r1⟩, f0, f1⟩ := hRN.cells
    clear hb2 hR2 hRN
    go_wp2_with fail
    go_region
    all_goals
      go_wp2_with fail
      have hR := hRNH.out.set (.int .i64 zi) (.int .i64 a1)
      have hR0 := set2_first hRNH.out.1 (.int .i64 zi)
      exact bodyPost_ret (v := .tuple #[.slice none 0 0, .agg #[.int .i64 zi, .int .i64 a1]]) (by simp [results, Tryz.results46, go_sem, hR.1, hR0]) rfl ⟨⟨_, by rw [hr.out]; unfold faultF; dsimp only; rw [hzd.out], by rw [hr.out]; exact floorsAt_nil _⟩, hR.2.drew⟩
  have hck2 := checkE_ok hck
  have hr := hrdef.out
  rw [if_pos hck] at hr
  have hrH := Lib.hid hr
  have hff := hff.out
  rw [hck2] at hff
  dsimp only [faultF] at hff
  have hff := Lib.hid hff
  have hgd := Lib.hid (fun j (h : (foldR [] (L.take j)).2 = 0) => (foldR_good (L.take j) [] goodF_nil h).1)
  clear hr hck hck2
  go_enter Tryz.func46, Tryz.ntmps46
  go_wp2_with fail
  refine hff.out.mono ?_
  rintro e w2 ⟨rfl, hb2⟩
  have hR2 := hB0.out.below hb2
  have hRN : TBox w2.heap.size w (w2.alloc (.cells #[.int .i64 0, .int .i64 (-1)] 87)) := ⟨heap_down ((Below.refl _ _).alloc (Nat.le_refl _) _) hR2.1, heap_alloc_new w2 _, (Array.getElem?_eq_some_iff.1 hR2.1).1, hR2.2.alloc hR2.2.size _⟩
  have hRN := Lib.hid hRN
  clear hb2 hR2 hff
  go_wp2_with fail
  generalize w2.heap.size = n4 at *
  go_loopg [5, 6] (L.length + 1) (fun g s5 s6 wr => ∃ j : Nat, s6 = .int .i64 j ∧ j ≤ L.length ∧ L.length - j + 1 ≤ g ∧ Hid ((foldR [] (L.take j)).2 = 0) ∧ Hid (FloorsAt wr s5 (foldR [] (L.take j)).1) ∧ Hid (TBox n4 w wr))
  case atStart => exact ⟨0, rfl, Nat.zero_le _, by omega, Lib.hid rfl, Lib.hid (floorsAt_nil _), hRN⟩
  case round =>
    obtain ⟨j, rfl, hj, hg, hz0, hat, hK⟩ := hrel
    by_cases hlt : j < L.length
    · obtain ⟨b, o, rfl, _, _, d2, d3⟩ := hc.out j hlt
      have d2 := cell_below hK.out.below d2
      have d3 := cell_below hK.out.below d3
      have hk0 : (0 : Int) ≤ (j : Int) := by omega
      have hk1 : (j : Int) < (L.length : Int) := by omega
      have hsn := foldR_snocR hlt hz0.out
      have hsp := foldR_stopR hlt hz0.out
      have hgj := hgd.out j hz0.out
      have hml := hm.out _ (List.getElem_mem hlt)
      obtain ⟨gg, hgg⟩ : ∃ gg, L[j] = gg := ⟨_, rfl⟩
      rw [hgg] at d2 d3 hsn hsp hml
      obtain ⟨s, t, ⟨who, ep⟩⟩ := gg
      have hri := raiseR_flo u5 _ ⟨who, ep⟩ wr hat.out (fun f hf => who_len (hgj.g.one f hf)) hml
      generalize foldR [] (L.take j) = F at *
      obtain ⟨O, oz⟩ := F
      dsimp only at hsn hsp d2 d3 hat hri
      obtain ⟨U, uc, ua, hu⟩ : ∃ U uc ua, raiseF O ⟨who, ep⟩ = (U, uc, ua) := ⟨_, _, _, rfl⟩
      unfold RaiRes at hri
      rw [hu] at hri hsn hsp
      dsimp only [Flo.val, Flo.cells, faultF] at hri hsn hsp
      obtain ⟨a9, c9, hs9, _⟩ := hat.out
      have hri := Lib.hid hri
      subst hs9
      clear hgg hu hat
      by_cases huc : uc = 0
      · rw [if_pos huc] at hsn
        have hsn := Lib.hid hsn
        subst huc
        clear hsp
        go_wp2_with fail
        refine hri.out.mono ?_
        rintro e w5 ⟨⟨v5, rfl, hv5⟩, hb5⟩
        have hfin := Lib.hid (fun o => (show FloorsAt (w5.alloc o) v5 U ∧ TBox n4 w (w5.alloc o) from ⟨hv5.below ((Below.refl _ _).alloc (Nat.le_refl _) _), (hK.out.later hb5).later ((Below.refl _ _).alloc (Nat.le_refl _) _)⟩))
        obtain ⟨a8, c8, hs8, _⟩ := hv5
        subst hs8
        clear hb5 d2 d3 hri
        go_wp2_with fail
        go_roundg (L.length - j)
        case measure => omega
        case rel => exact ⟨j + 1, by simp, hlt, by omega, Lib.hid (by rw [hsn.out]), by rw [hsn.out]; exact Lib.hid (hfin.out _).1, Lib.hid (hfin.out _).2⟩
      · have hsp := hsp huc
        have hr := hrH.out
        rw [hsp] at hr
        have hr := Lib.hid hr
        have hz1 : (0 : Int) < (uc : Int) := by omega
        generalize hzd : (uc : Int) = zi at *
        have hzd := Lib.hid hzd
        clear hsn hsp huc
        go_wp2_with fail
        refine hri.out.mono ?_
        rintro e w5 ⟨⟨v5, rfl, hv5⟩, hb5⟩
        have hK5 := Lib.hid (fun o => (show FBox w (w5.alloc o) from ((hK.out.later hb5).later ((Below.refl _ _).alloc (Nat.le_refl _) _)).fbox))
        have hba := Lib.hid (fun o => bareF_any zi (w5.alloc o))
        obtain ⟨a8, c8, hs8, _⟩ := hv5
        subst hs8
        clear hb5 d2 d3 hri
        go_wp2_with fail
        refine (hba.out _).mono ?_
        rintro e w6 ⟨rfl, hb6⟩
        have hB1 := (hK5.out _).below hb6
        obtain ⟨⟨r0, r1⟩, f0, f1⟩ := hB1.cells
        obtain ⟨⟨q0, q1⟩, hfin⟩ := hB1.set (.int .i64 zi) (.int .i64 (-1))
        have hfin := Lib.hid hfin
        have hq := Lib.hid (And.intro q0 q1)
        clear q0 q1 hb6 hB1 hba
        go_wp2_with fail
        exact bodyPost_ret (v := .tuple #[.slice none 0 0, .agg #[.int .i64 zi, .int .i64 (-1)]]) (by simp [results, Tryz.results46, go_sem, hq.out]) rfl ⟨⟨_, by rw [hr.out]; unfold faultF; dsimp only; rw [hzd.out], by rw [hr.out]; exact floorsAt_nil _⟩, hfin.out⟩
    · have hje : L.take j = L := List.take_of_length_le (by omega)
      rw [hje] at hz0 hat
      have hr := hrH.out
      rw [hz0.out] at hr
      have hr := Lib.hid hr
      have hge : ¬ ((j : Int) < (L.length : Int)) := by omega
      have hatH := Lib.hid hat.out
      generalize (foldR [] L).1 = O at *
      obtain ⟨a9, c9, hs9, _⟩ := hat.out
      subst hs9
      obtain ⟨n0, n1⟩ := hK.out.cells
      obtain ⟨⟨r0, r1⟩, f0, f1⟩ := hK.out.fbox.cells
      clear hje hat
      go_wp2_with fail
      go_region
      all_goals
        go_wp2_with fail
        have hR := hK.out.fbox.set (.int .i64 0) (.int .i64 (-1))
        have hR0 := set2_first hK.out.res (.int .i64 0)
        exact bodyPost_ret (v := .tuple #[.slice a9 O.length c9, .agg #[.int .i64 0, .int .i64 (-1)]]) (by simp [results, Tryz.results46, go_sem, hR.1, hR0]) rfl ⟨⟨_, by rw [hr.out]; rfl, by rw [hr.out]; exact (floorsAt_set2 hK.out.res hatH.out (.int .i64 0) (.int .i64 (-1))).below (below_drawn (Below.refl _ _) 1)⟩, hR.2.drew⟩
end Go.Proofs.YtadnjdchjoechaaGreatDoor

/- The reference's feeds: FloorsText, FloorsSum: walked. -/
namespace Go.Proofs.YtadnjdchjoechaaGreatDoor
open Go.RowKit

/-- The number of a fault, out of its value. -/
theorem fault_code (a b : Int) (w : World) : (Instr.field 87 (.agg #[.int .i64 a, .int .i64 b]) 0).run Tryz.prog w = .ok (.int .i64 a) w := by kernel_rfl
set_option maxHeartbeats 4000000 in
set_option maxRecDepth 100000 in
theorem textR_flo (v : Value) (L : List Flo) (w : World) (hv : FloorsAt w v L) (hG : GoodF L) :
    Calls Tryz.prog 82 #[v] w fun e w' => e = .returned (.string (bs (textL L))) ∧ Below w.heap.size w w' := by
  obtain ⟨a, c, rfl, hmx, _, hc⟩ := hv
  unfold maxLen at hmx
  have hc := Lib.hid hc
  have hgood := Lib.hid hG
  have h21 := hG.len
  clear hG
  have hdec := Lib.hid (fun (n : Int) wx (h0 : 0 ≤ n) (h1 : n ≤ 1073741824) => decimal_any n wx (by omega) (by omega))
  by_cases h0 : L.length = 0
  · have hL0 : textL L = [45] := by
      have : L = [] := List.length_eq_zero_iff.1 h0
      rw [this]; rfl
    have hr := Lib.hid hL0
    have h0' : ((L.length : Int) == 0) = true := by rw [h0]; rfl
    clear hL0 h0
    go_enter Tryz.func82, Tryz.ntmps82
    go_wp2_with fail
    go_ret
    exact ⟨by rw [hr.out]; rfl, Below.refl _ _⟩
  have hL0 : textL L = glue 44 (L.map floW) := by
    unfold textL
    rw [if_neg (by simp; intro h; exact h0 (by rw [h]; rfl))]
  have hr := Lib.hid hL0
  have h0' : ((L.length : Int) == 0) = false := by simp; exact fun h => h0 (by rw [h]; rfl)
  clear hL0 h0
  go_enter Tryz.func82, Tryz.ntmps82
  go_wp2_with fail
  go_loopg [3, 4] (L.length + 1) (fun g v3 i wr => ∃ (j : Nat), i = .int .i64 j ∧ j ≤ L.length ∧ L.length - j + 1 ≤ g ∧ Hid (RowG strC wr w.heap.size 9 v3 ((L.take j).map floW)) ∧ Hid (Below w.heap.size w wr))
  case atStart => exact ⟨0, rfl, Nat.zero_le _, by omega, Lib.hid (RowG.nil _ _ _), Lib.hid (Below.refl _ _)⟩
  case round =>
    obtain ⟨j, rfl, hj, hgj, hF, hK⟩ := hrel
    obtain ⟨a5, c5, hv5⟩ := hF.out.sl
    have hl5 : ((L.take j).map floW).length = j := by rw [List.length_map, List.length_take]; omega
    rw [hl5] at hv5
    subst hv5
    by_cases hlt : j < L.length
    · have hk0 : (0 : Int) ≤ (j : Int) := by omega
      have hk1 : (j : Int) < (L.length : Int) := by omega
      obtain ⟨b, o, rfl, d0, d1⟩ := hc.out j hlt
      have d0 := cell_below hK.out d0
      have d1 := cell_below hK.out d1
      have h1F := hgood.out.g.one _ (List.getElem_mem hlt)
      have hsn : (L.take (j + 1)).map floW = (L.take j).map floW ++ [floW L[j]] := by rw [List.take_succ_eq_append_getElem hlt, List.map_append]; rfl
      generalize L[j] = ej at *
      obtain ⟨fw, fe⟩ := ej
      dsimp only at d0 d1
      obtain ⟨_, hwl, hil⟩ := floW_len h1F
      obtain ⟨_, he0, he1⟩ := oneF_zero h1F
      dsimp only at hwl hil he0 he1
      have hsnH := Lib.hid hsn
      have hde := Lib.hid (fun wx => hdec.out fe wx (by omega) he1)
      have hs1 : (bs fw).size ≤ 8 := by rw [bs_size]; exact hwl
      have hs3 : (bs (Lib.itoa fe)).size ≤ 10 := by rw [bs_size]; exact hil
      have hsA : ¬ 9223372036854775807 < (bs fw).size + 1 := by omega
      have hsB : ¬ 9223372036854775807 < (bs fw).size + 1 + (bs (Lib.itoa fe)).size := by omega
      have hkS := Lib.hid (fun (wx : World) (hx : Below wr.heap.size wr wx) => (show Below wr.heap.size wr wx ∧ wx.cell? ⟨b, o + j * 2, none⟩ = some (.string (bs fw)) ∧ wx.cell? ⟨b, o + j * 2 + 1, none⟩ = some (.int .i64 fe) from ⟨hx, cell_below hx d0, cell_below hx d1⟩))
      clear hsn h1F he0 he1 hwl hil hs1 hs3
      have hS : Below wr.heap.size wr wr := Below.refl _ _
      go_upto_region 7 with fail
      go_cut [5] from 15 to 27 (fun s5 wx => s5 = .string (bs fw ++ (⟨#[58]⟩ : ByteArray) ++ bs (Lib.itoa fe)) ∧ Hid (Below wr.heap.size wr wx))
      case first =>
        go_region_held3 (fun w' => Below wr.heap.size wr w' ∧ w'.cell? ⟨b, o + j * 2, none⟩ = some (.string (bs fw)) ∧ w'.cell? ⟨b, o + j * 2 + 1, none⟩ = some (.int .i64 fe))
          ((refine hkS.out _ ?_; (first | exact hS | exact hS.drew)))
          ((go_at_call 63; refine (hde.out _).mono ?_; rintro e w' ⟨rfl, hbx⟩; have hS : Below wr.heap.size wr w' := below_trans (by (first | exact hS | exact hS.drew)) hbx))
        all_goals
          go_wp2_with fail
          go_meet
          exact ⟨rfl, Lib.hid hS⟩
      obtain ⟨rfl, hbc⟩ := hcut
      have hK2 := Lib.hid (below_trans hK.out hbc.out)
      have hF2 := Lib.hid (RowG.below hF.out hbc.out)
      have hsz2 := hK2.out.size
      clear hF hK hS d0 d1 hkS
      generalize (L.take j).map floW = N at *
      go_wp2_with (first
        | (at_builtin; refine wpList_appG strC _ rfl _ _ 82 rfl 9 (.string ⟨#[]⟩) 16 Tryz.underlying82 info_str rfl (by decide) w.heap.size _ N rfl (RowG.alloc hF2.out _) _ [floW ⟨fw, fe⟩] rfl (AtG.new (C := strC) _ (floW ⟨fw, fe⟩) 9 (floW_cells fw fe)) (by simp; omega) (by simp; omega) ?_)
        | go_in)
      intro v6 w6 hown6 hb6 _ _
      have hfin := Lib.hid (show RowG strC w6 w.heap.size 9 v6 ((L.take (j + 1)).map floW) by rw [hsnH.out]; exact hown6)
      have hbf := Lib.hid ((hK2.out.alloc hsz2 _).trans hb6)
      clear hown6 hb6 hF2 hbc
      go_wp2_with fail
      go_roundg (L.length - j)
      case measure => omega
      case rel => exact ⟨j + 1, by simp, hlt, by omega, hfin, hbf⟩
    · have hge : ¬ ((j : Int) < (L.length : Int)) := by omega
      have hj2 : j = L.length := by omega
      subst hj2
      have hat := RowG.at_ hF.out
      rw [List.take_of_length_le (Nat.le_refl _)] at hat
      have hlen : (glue 44 (L.map floW)).length ≤ 1000000 := by
        have h1 := glue_len 44 (L.map floW) (fun x hx => by
          obtain ⟨f, hf, rfl⟩ := List.mem_map.1 hx
          exact (floW_len (hgood.out.g.one f hf)).1)
        rw [List.length_map] at h1
        omega
      have hjo := glueR_any _ _ 44 wr (textsAt_of hat) hlen
      have hjo := Lib.hid hjo
      clear hat hlen
      go_wp2_with fail
      refine hjo.out.mono ?_
      rintro e w2 ⟨rfl, rfl⟩
      go_wp2_with fail
      go_ret
      exact ⟨congrArg (fun x => Ending.returned (.string (bs x))) hr.out.symm, hK.out⟩
set_option maxHeartbeats 1000000 in
set_option maxRecDepth 100000 in
theorem sumR_flo (v : Value) (L : List Flo) (w : World) (hv : FloorsAt w v L) (hm : ∀ f ∈ L, f.who.length ≤ maxLen) :
    Calls Tryz.prog 47 #[v] w fun e w' => e = .returned (.int .i64 (sumF L)) ∧ Below w.heap.size w w' := by
  have hck := Lib.hid (faultsR_flo v L w hv hm)
  have htx := Lib.hid (fun (h : (checkF L).1 = 0) wx (hx : Below w.heap.size w wx) => textR_flo v L wx (hv.below hx) (goodF_check h))
  have hof := Lib.hid (fun (h : (checkF L).1 = 0) wx => markOf_any 1 (bs (textL L)) wx (by rw [bs_size]; have := textL_len h; unfold maxLen; omega))
  obtain ⟨a0, c0, hv0, hmx, _, _⟩ := id hv
  unfold maxLen at hmx
  clear hv hm
  subst hv0
  by_cases hc0 : (checkF L).1 = 0
  · have hr := Lib.hid (show sumF L = (markOf 1 (textL L)).1 by unfold sumF; rw [if_pos hc0])
    have hck := hck.out
    rw [show checkF L = (0, -1) from check_goodF (goodF_check hc0)] at hck
    dsimp only [faultF] at hck
    have hck := Lib.hid hck
    have hof := hof.out hc0
    have hz : (markOf 1 (textL L)).2 = 0 := by unfold markOf; rw [if_pos (by decide)]
    simp only [bs_list, hz] at hof
    have hof := Lib.hid hof
    have htx := Lib.hid (htx.out hc0)
    generalize (markOf 1 (textL L)).1 = m at *
    have hfd := fault_code 0 (-1)
    clear hc0 hz
    go_enter Tryz.func47, Tryz.ntmps47
    go_wp2_with fail
    refine hck.out.mono ?_
    rintro e w1 ⟨rfl, hb1⟩
    have hb1 := Lib.hid hb1
    go_wp2_with fail
    refine (htx.out _ hb1.out).mono ?_
    rintro e w2 ⟨rfl, hb2⟩
    have hb2 := Lib.hid (below_trans hb1.out hb2)
    go_wp2_with fail
    refine (hof.out _).mono ?_
    rintro e w3 ⟨rfl, rfl⟩
    go_wp2_with fail
    go_ret
    exact ⟨ret_int hr.out.symm, hb2.out⟩
  · have hr := Lib.hid (show sumF L = 0 by unfold sumF; rw [if_neg hc0])
    obtain ⟨z, a1, hza⟩ : ∃ (z : Nat) (a1 : Int), checkF L = (z, a1) := ⟨_, _, rfl⟩
    have hck := hck.out
    rw [hza] at hck hc0
    dsimp only [faultF] at hck hc0
    have hz1 : (0 : Int) < (z : Int) := by omega
    generalize (z : Int) = zi at hck hz1
    have hck := Lib.hid hck
    have hfd := fault_code zi a1
    clear hza hc0
    go_enter Tryz.func47, Tryz.ntmps47
    go_wp2_with fail
    refine hck.out.mono ?_
    rintro e w1 ⟨rfl, hb1⟩
    have hb1 := Lib.hid hb1
    go_wp2_with fail
    go_ret
    exact ⟨ret_int hr.out.symm, hb1.out⟩
end Go.Proofs.YtadnjdchjoechaaGreatDoor
