/- FloT, FedH -/
import Derived.Test.YtkhphdkjnpcnnaaGreatDoorMg22
import Derived.Test.YtkhphdkjnpcnnaaGreatDoorMg10
import Derived.Test.YtkhphdkjnpcnnaaGreatDoorMg12
import Derived.Test.YtkhphdkjnpcnnaaGreatDoorMg16
import Derived.Test.YtkhphdkjnpcnnaaGreatDoorMg27
/- floor.Text, floor.Sum: walked. -/
namespace Go.Proofs.YtkhphdkjnpcnnaaGreatDoor set_option linter.unusedVariables false set_option linter.unusedSimpArgs false
open Go.RowKit

/-- Texts' cells. -/
def strC : Cells (List UInt8) where
  k := 1
  pos := by decide
  f := fun x => [.string (bs x)]
  len := fun _ => rfl
  one := fun e u hu => by
    simp only [List.mem_cons, List.mem_nil_iff, or_false] at hu
    rcases hu with rfl <;> rfl
theorem info_str : (Tryz.prog.info? 9).map (fun i => (i.zero, i.size, i.bytes)) = some (some (.string ⟨#[]⟩), strC.k, 16) := by kernel_rfl
theorem textsAt_of {w : World} {v : Value} {L : List (List UInt8)} (h : AtG strC w v L) : TextsAt w v L := by
  obtain ⟨a, c, h1, h2, h3, _, h5⟩ := h
  refine ⟨a, c, h1, h2, h3, fun i hi => ?_⟩
  obtain ⟨b, o, h6, h7⟩ := h5 i hi
  have := h7 0 _ rfl
  exact ⟨b, o, h6, by simpa [strC] using this⟩
theorem join_wide (v : Value) (W : List (List UInt8)) (w : World) (hv : TextsAt w v W) (h1 : 1 ≤ W.length) (h10 : W.length ≤ 100) (hw : ∀ x ∈ W, x.length ≤ 20) :
    Calls Tryz.prog 141 #[v, .string ⟨#[44]⟩] w fun e w' => e = .returned (.string (bs (glue 44 W))) ∧ Below w.heap.size w w' := by
  obtain ⟨a, c, rfl, _, hcap, hc⟩ := hv
  obtain ⟨b, o, rfl, h0⟩ := hc 0 (by omega)
  have hlt := World.block_lt_of_cell? w _ h0
  have hmap : (W.map bs).map (fun x => x.data.toList) = W := by
    rw [List.map_map]
    have : ((fun x : ByteArray => x.data.toList) ∘ bs) = id := by funext x; exact bs_list x
    rw [this, List.map_id]
  have hj : Lib.join ((W.map bs).map (fun x => x.data.toList)) (⟨#[44]⟩ : ByteArray).data.toList = glue 44 W := by
    rw [hmap]
    exact join_glue 44 W
  have h := Any.strings_Join Tryz.joinL Tryz.joinX b o c (W.map bs) ⟨#[44]⟩ w (fun j x hx => by
      rw [List.getElem?_map] at hx
      cases hj : W[j]? with
      | none => rw [hj] at hx; cases hx
      | some y =>
        rw [hj] at hx
        cases hx
        obtain ⟨hlt2, rfl⟩ := List.getElem?_eq_some_iff.1 hj
        obtain ⟨b2, o2, he, hc2⟩ := hc j hlt2
        cases he
        exact hc2) hlt (by rw [List.length_map]; omega) (by rw [List.length_map]; exact hcap) (by
      rw [hj]
      have := glue_len 44 W hw
      omega)
  rw [hj, List.length_map] at h
  exact h
theorem floW_len {f : Flo} (h : oneF f = 0) : (floW f).length ≤ 20 ∧ f.who.length ≤ 8 ∧ (Lib.itoa f.ep).length ≤ 10 := by
  obtain ⟨h1, h2, h3⟩ := oneF_zero h
  have hw : f.who.length ≤ 8 := by
    rcases h1 with h1 | h1
    · rw [h1]; decide
    · exact ((isName_iff _).1 h1).2.1
  have hi : (Lib.itoa f.ep).length ≤ 10 := by
    exact itoa_len10 (by omega) (by omega)
  unfold floW
  rw [List.length_append, List.length_cons]
  omega
theorem floW_cells (fw : List UInt8) (fe : Int) : #[Value.string (bs fw ++ (⟨#[58]⟩ : ByteArray) ++ bs (Lib.itoa fe))] = (strC.f (floW ⟨fw, fe⟩)).toArray := by
  rw [show (⟨#[58]⟩ : ByteArray) = bs [58] from rfl, str_add, str_add]
  show _ = #[Value.string (bs (fw ++ 58 :: Lib.itoa fe))]
  rw [List.append_assoc]
  rfl
theorem textF_check {L : List Flo} (h : (checkF L).1 ≠ 0) : textF L = ([], (checkF L).1, (checkF L).2) := by unfold textF; rw [if_neg h]
theorem textF_good {L : List Flo} (h : (checkF L).1 = 0) : textF L = (textL L, 0, -1) := by unfold textF; rw [if_pos h]
/-- What hands back a text and an error. -/
def TextRes (E : Nat → Addr) (w' : World) (r : List UInt8 × Nat × Int) (e : Ending) : Prop := ∃ ev, e = .returned (.tuple #[.string (bs r.1), ev]) ∧ ErrAt E w' ev r.2.1 r.2.2
theorem TextRes.mk {E : Nat → Addr} {w' : World} {r : List UInt8 × Nat × Int} {ev : Value} {L : List UInt8} {x : ByteArray} {c : Nat} {a : Int} (hr : r = (L, c, a)) (hv : x = bs L) (he : ErrAt E w' ev c a) : TextRes E w' r (.returned (.tuple #[.string x, ev])) := by
  subst hr
  subst hv
  exact ⟨ev, rfl, he⟩
set_option maxHeartbeats 4000000 in
set_option maxRecDepth 100000 in
theorem text_flo {E : Nat → Addr} (v : Value) (L : List Flo) (w : World) (hL : LaidS E w) (hv : FloorsAt w v L) (hm : ∀ f ∈ L, f.who.length ≤ maxLen) :
    Calls Tryz.prog 164 #[v] w fun e w' => TextRes E w' (textF L) e ∧ Below w.heap.size w w' := by
  have hck := Lib.hid (check_flo (E := E) v L w hL.laid hv hm)
  have hvH := Lib.hid (fun wx (hx : Below w.heap.size w wx) => hv.below hx)
  have hit := Lib.hid (fun (n : Int) wx (hx : Below w.heap.size w wx) (h0 : 0 ≤ n) (h1 : n ≤ 1073741824) => itoa_any (E := E) n (by omega) (by omega) wx (hL.below hx))
  obtain ⟨a0, c0, hv0, hmx, _, _⟩ := id hv
  unfold maxLen at hmx
  clear hv hm hL
  subst hv0
  by_cases hc0 : (checkF L).1 = 0
  case neg =>
    have hr := Lib.hid (textF_check hc0)
    have hc0H := Lib.hid hc0
    clear hc0 hvH hit
    go_enter Tryz.func164, Tryz.ntmps164
    go_wp2_with fail
    refine hck.out.mono ?_
    rintro e w1 ⟨ev, rfl, he, hb1⟩
    obtain ⟨T, x, rfl⟩ := he.iface hc0H.out
    have he := Lib.hid he
    have hb1 := Lib.hid hb1
    go_wp2_with fail
    go_ret2
    exact ⟨TextRes.mk hr.out rfl he.out, hb1.out⟩
  have hc0H := Lib.hid hc0
  have hgood := goodF_check hc0
  have h21 := hgood.len
  have hgoodH := Lib.hid hgood
  have hrT := Lib.hid (textF_good hc0)
  clear hc0 hgood
  go_enter Tryz.func164, Tryz.ntmps164
  go_wp2_with fail
  refine hck.out.mono ?_
  rintro e w1 ⟨ev, rfl, he, hb1⟩
  obtain ⟨rfl, _⟩ := he.zero hc0H.out
  have hb1H := Lib.hid hb1
  clear he hb1 hck
  go_wp2_with fail
  go_loopg [5, 15] (L.length + 1) (fun g v5 i wr => ∃ (j : Nat), i = .int .i64 j ∧ j ≤ L.length ∧ L.length - j + 1 ≤ g ∧ Hid (RowG strC wr w.heap.size 9 v5 ((L.take j).map floW)) ∧ Hid (Below w.heap.size w wr))
  case atStart => exact ⟨0, rfl, Nat.zero_le _, by omega, Lib.hid (RowG.nil _ _ _), hb1H⟩
  case round =>
    obtain ⟨j, rfl, hj, hgj, hF, hK⟩ := hrel
    obtain ⟨a5, c5, hv5⟩ := hF.out.sl
    have hl5 : ((L.take j).map floW).length = j := by rw [List.length_map, List.length_take]; omega
    rw [hl5] at hv5
    subst hv5
    by_cases hlt : j < L.length
    · have hk0 : (0 : Int) ≤ (j : Int) := by omega
      have hk1 : (j : Int) < (L.length : Int) := by omega
      obtain ⟨_, _, he, _, _, hc⟩ := hvH.out _ hK.out
      cases he
      obtain ⟨b, o, rfl, d0, d1⟩ := hc j hlt
      clear hc
      have h1F := hgoodH.out.g.one _ (List.getElem_mem hlt)
      have hsn : (L.take (j + 1)).map floW = (L.take j).map floW ++ [floW L[j]] := by rw [List.take_succ_eq_append_getElem hlt, List.map_append]; rfl
      generalize L[j] = ej at *
      obtain ⟨fw, fe⟩ := ej
      dsimp only at d0 d1
      obtain ⟨_, hwl, hil⟩ := floW_len h1F
      obtain ⟨_, he0, he1⟩ := oneF_zero h1F
      dsimp only at hwl hil he0 he1
      have hsnH := Lib.hid hsn
      have hrow := heap_alloc_new wr (.cells #[.string (bs fw), .int .i64 fe] 113)
      have hbX := (hK.out.alloc hK.out.size (.cells #[.string (bs fw), .int .i64 fe] 113))
      have hFX := Lib.hid (hF.out.alloc (.cells #[.string (bs fw), .int .i64 fe] 113))
      have hszX := hbX.size
      have hitX := Lib.hid (fun wx (hx : Below w.heap.size w wx) => hit.out fe wx hx (by omega) he1)
      have hs1 : (bs fw).size ≤ 8 := by rw [bs_size]; exact hwl
      have hs2 : (bs fw ++ (⟨#[58]⟩ : ByteArray)).size ≤ 9 := by
        rw [ByteArray.size_append]
        have : (⟨#[58]⟩ : ByteArray).size = 1 := rfl
        omega
      have hs3 : (bs (Lib.itoa fe)).size ≤ 10 := by rw [bs_size]; exact hil
      have hsA : ¬ 9223372036854775807 < (bs fw).size + 1 := by omega
      have hsB : ¬ 9223372036854775807 < (bs fw).size + 1 + (bs (Lib.itoa fe)).size := by omega
      clear hsn h1F he0 he1 hwl hil
      go_upto_region 8 with fail
      clear d0 d1
      generalize hbd : wr.heap.size = box at *
      have hlt0 : w.heap.size ≤ box := by rw [← hbd]; exact hK.out.size
      generalize hWX : wr.alloc (.cells #[.string (bs fw), .int .i64 fe] 113) = W at *
      have hrowH := Lib.hid hrow
      have hbXH := Lib.hid hbX
      have hltW : box < W.heap.size := (Array.getElem?_eq_some_iff.1 hrow).1
      have hkS := Lib.hid (fun (w' : World) (h : w'.heap[box]? = some (.cells #[.string (bs fw), .int .i64 fe] 113 (0, 0))) => (show w'.cell? ⟨box, 0, none⟩ = some (.string (bs fw)) ∧ w'.cell? ⟨box, 1, none⟩ = some (.int .i64 fe) from ⟨by rw [cell_of_row _ _ _ _ _ _ h]; rfl, by rw [cell_of_row _ _ _ _ _ _ h]; rfl⟩))
      have hrD := Lib.hid (show W.drew.heap[box]? = some (.cells #[.string (bs fw), .int .i64 fe] 113 (0, 0)) from hrow)
      have hcD := hkS.out _ hrD.out
      have hnb := Lib.hid (show some box ≠ (Value.slice a5 j c5).ownBlock from fun e => by
        obtain ⟨_, cs, h1⟩ := hFX.out.block e.symm
        rw [hrow] at h1
        injection h1 with h1
        injection h1 with _ h1 _
        revert h1
        decide)
      clear hrow hbX hbd hWX hszX
      refine wp_region_noPanic ?_
      refine wp_region_held_drew (S := fun w' => w'.cell? ⟨box, 0, none⟩ = some (.string (bs fw)) ∧ w'.cell? ⟨box, 1, none⟩ = some (.int .i64 fe)) (by kernel_rfl) ?_ (fun hHeld => ?_)
      · exact hcD
      refine' held_take (i := 0) (d := some 19) (v := _) rfl rfl (by kernel_rfl) (by kernel_rfl) (by kernel_rfl) (fun _ _ _ h => h) rfl (by assumption) ?hy_1 ?re_1
      case hy_1 =>
        intro w hSw
        try dsimp only at hSw
        go_simp
        try with_reducible rfl
      simp only [Act.put, List.setIfInBounds_toArray, List.set_cons_zero, List.set_cons_succ]
      refine' held_take (i := 1) (d := some 20) (v := _) rfl rfl (by kernel_rfl) (by kernel_rfl) (by kernel_rfl) (fun _ _ _ h => h) rfl (by assumption) ?hy_2 ?re_2
      case hy_2 =>
        intro w hSw
        try dsimp only at hSw
        go_simp
        try with_reducible rfl
      simp only [Act.put, List.setIfInBounds_toArray, List.set_cons_zero, List.set_cons_succ]
      refine' held_take (i := 2) (d := some 21) (v := _) rfl rfl (by kernel_rfl) (by kernel_rfl) (by kernel_rfl) (fun _ _ _ h => h) rfl (by assumption) ?hy_3 ?re_3
      case hy_3 =>
        intro w hSw
        try dsimp only at hSw
        go_simp
        try with_reducible rfl
      simp only [Act.put, List.setIfInBounds_toArray, List.set_cons_zero, List.set_cons_succ]
      refine' held_take (i := 3) (d := some 22) (v := _) rfl rfl (by kernel_rfl) (by kernel_rfl) (by kernel_rfl) (fun _ _ _ h => h) rfl (by assumption) ?hy_4 ?re_4
      case hy_4 =>
        intro w hSw
        try dsimp only at hSw
        go_simp
        try with_reducible rfl
      simp only [Act.put, List.setIfInBounds_toArray, List.set_cons_zero, List.set_cons_succ]
      refine' held_take (i := 4) (d := some 23) (v := _) rfl rfl (by kernel_rfl) (by kernel_rfl) (by kernel_rfl) (fun _ _ _ h => h) rfl (by assumption) ?hy_5 ?re_5
      case hy_5 =>
        intro w hSw
        try dsimp only at hSw
        go_simp
        try with_reducible rfl
      simp only [Act.put, List.setIfInBounds_toArray, List.set_cons_zero, List.set_cons_succ]
      refine' held_take (i := 5) (d := some 24) (v := _) rfl rfl (by kernel_rfl) (by kernel_rfl) (by kernel_rfl) (fun _ _ _ h => h) rfl (by assumption) ?hy_6 ?re_6
      case hy_6 =>
        intro w hSw
        try dsimp only at hSw
        go_simp
        try with_reducible rfl
      simp only [Act.put, List.setIfInBounds_toArray, List.set_cons_zero, List.set_cons_succ]
      refine wpAnyH_ready (rs := [6]) (by kernel_rfl) (by simp) ?_
      refine AllReadyH.cons rfl (fun K hK => ?_) AllReadyH.nil
      go_simp
      refine (hitX.out _ (hbXH.out.drew)).mono ?_
      rintro e w5 ⟨rfl, hb5⟩
      have hr5 := Lib.hid (heap_down hb5 hrD.out)
      have hF5 := Lib.hid (RowG.below (hFX.out.drewN 1) hb5)
      have hlt5 : box < w5.heap.size := Nat.lt_of_lt_of_le hltW hb5.size
      have hr5A := Lib.hid (fun (o : Obj) => (Below.heap_alloc w5 o box hlt5).trans hr5.out)
      have hb5H := below_trans (hbXH.out.drew) hb5
      have hb5A := Lib.hid (fun (o : Obj) => hb5H.alloc hb5H.size o)
      have hst5 := Lib.hid hb5H.size
      clear hb5 hb5H
      go_wp2_with fail
      refine hK.out _ _ ?_ (fun hHeld => ?_)
      · exact hkS.out _ hr5.out
      clear hK K
      try simp only [Act.put, List.setIfInBounds_toArray, List.set_cons_zero, List.set_cons_succ]
      refine' held_take (i := 7) (d := some 26) (v := _) rfl rfl (by kernel_rfl) (by kernel_rfl) (by kernel_rfl) (fun _ _ _ h => h) rfl (by assumption) ?hy_7 ?re_7
      case hy_7 =>
        intro w hSw
        try dsimp only at hSw
        go_simp
        try with_reducible rfl
      simp only [Act.put, List.setIfInBounds_toArray, List.set_cons_zero, List.set_cons_succ]
      refine wpAnyH_ready (rs := [8]) (by kernel_rfl) (by simp) ?_
      refine AllReadyH.cons rfl (fun K hK => ?_) AllReadyH.nil
      go_simp
      refine hK.out _ _ ?_ (fun hHeld => ?_)
      · exact hkS.out _ (hr5A.out _)
      clear hK K
      try simp only [Act.put, List.setIfInBounds_toArray, List.set_cons_zero, List.set_cons_succ]
      refine wpAnyH_ready (rs := [9]) (by kernel_rfl) (by simp) ?_
      refine AllReadyH.cons rfl (fun K hK => ?_) AllReadyH.nil
      refine step_appG strC _ rfl _ _ 107 rfl 9 (.string ⟨#[]⟩) 16 Tryz.underlying107 info_str rfl (by decide) w.heap.size _ ((L.take j).map floW) (by rfl) (RowG.alloc hF5.out _) _ [floW ⟨fw, fe⟩] (by rfl) (AtG.new (C := strC) _ (floW ⟨fw, fe⟩) 9 (floW_cells fw fe)) (by simp) (by simp; omega) (by have := hst5.out; rw [World.size_alloc]; omega) ?_
      intro v6 w6 hown6 hb6 hg6
      rw [← hsnH.out] at hown6
      have hfin := Lib.hid hown6
      have hbf := Lib.hid ((hb5A.out _).trans hb6)
      have hr6 := Lib.hid ((hg6.block box (by rw [World.size_alloc]; omega) hnb.out).trans (hr5A.out _))
      clear hown6 hb6 hg6
      refine hK.out _ _ ?_ (fun hHeld => ?_)
      · exact hkS.out _ hr6.out
      clear hK K
      try simp only [Act.put, List.setIfInBounds_toArray, List.set_cons_zero, List.set_cons_succ]
      refine' held_take (i := 10) (d := some 5) (v := _) rfl rfl (by kernel_rfl) (by kernel_rfl) (by kernel_rfl) (fun _ _ _ h => h) rfl (by assumption) ?hy_8 ?re_8
      case hy_8 =>
        intro w hSw
        try dsimp only at hSw
        go_simp
        try with_reducible rfl
      simp only [Act.put, List.setIfInBounds_toArray, List.set_cons_zero, List.set_cons_succ]
      refine wpAnyH_done (by kernel_rfl) ?_ _
      refine NoPanic.normal ?_
      go_wp2_with fail
      go_roundg (L.length - j)
      case measure => omega
      case rel => exact ⟨j + 1, by simp, hlt, by omega, hfin, hbf⟩
    · have hge : ¬ ((j : Int) < (L.length : Int)) := by omega
      have hj2 : j = L.length := by omega
      subst hj2
      by_cases h0 : L.length = 0
      · have hL0 : textL L = [45] := by
          have : L = [] := List.length_eq_zero_iff.1 h0
          rw [this]; rfl
        have hr := Lib.hid (hrT.out.trans (by rw [hL0]))
        have h0' : ((L.length : Int) == 0) = true := by rw [h0]; rfl
        clear hL0 h0
        go_wp2_with fail
        go_ret2
        exact ⟨TextRes.mk hr.out rfl (ErrAt.bare 0), hK.out⟩
      · have hL0 : textL L = glue 44 (L.map floW) := by
          unfold textL
          rw [if_neg (by simp; intro h; exact h0 (by rw [h]; rfl))]
        have hr := Lib.hid (hrT.out.trans (by rw [hL0]))
        have h0' : ((L.length : Int) == 0) = false := by simp; exact fun h => h0 (by rw [h]; rfl)
        have hat := RowG.at_ hF.out
        rw [List.take_of_length_le (Nat.le_refl _)] at hat
        have hjo := Lib.hid (join_wide _ _ _ (textsAt_of hat) (by rw [List.length_map]; omega) (by rw [List.length_map]; omega) (fun x hx => by
          obtain ⟨f, hf, rfl⟩ := List.mem_map.1 hx
          exact (floW_len (hgoodH.out.g.one f hf)).1))
        clear hat hL0 h0
        go_wp2_with fail
        refine hjo.out.mono ?_
        rintro e w2 ⟨rfl, hb2⟩
        have hb2 := Lib.hid (below_trans hK.out hb2)
        go_wp2_with fail
        go_ret2
        exact ⟨TextRes.mk hr.out rfl (ErrAt.bare 0), hb2.out⟩
theorem textL_len {L : List Flo} (h : (checkF L).1 = 0) : (textL L).length ≤ 500 := by
  have hg := goodF_check h
  unfold textL
  split
  · simp
  · have h1 := glue_len 44 (L.map floW) (fun x hx => by
      obtain ⟨f, hf, rfl⟩ := List.mem_map.1 hx
      exact (floW_len (hg.g.one f hf)).1)
    have := hg.len
    rw [List.length_map] at h1
    omega
set_option maxHeartbeats 1000000 in
set_option maxRecDepth 100000 in
theorem sum_flo {E : Nat → Addr} (v : Value) (L : List Flo) (w : World) (hL : LaidS E w) (hv : FloorsAt w v L) (hm : ∀ f ∈ L, f.who.length ≤ maxLen) :
    Calls Tryz.prog 127 #[v] w fun e w' => e = .returned (.int .i64 (sumF L)) ∧ Below w.heap.size w w' := by
  have htx := Lib.hid (text_flo (E := E) v L w hL hv hm)
  have hof := Lib.hid (fun (h : (checkF L).1 = 0) wx (hx : Below w.heap.size w wx) => of_any (E := E) 1 (bs (textL L)) wx (hL.below hx).laid (by rw [bs_size]; have := textL_len h; unfold maxLen; omega))
  clear hL hv hm
  by_cases hc0 : (checkF L).1 = 0
  · rw [textF_good hc0] at htx
    have hr := Lib.hid (show sumF L = (markOf 1 (textL L)).1 by unfold sumF; rw [if_pos hc0])
    have hof := hof.out hc0
    have hz : (markOf 1 (textL L)).2 = 0 := by unfold markOf; rw [if_pos (by decide)]
    simp only [bs_list, hz, errV_zero] at hof
    have hof := Lib.hid hof
    clear hc0 hz
    go_enter Tryz.func127, Tryz.ntmps127
    go_wp2_with fail
    refine htx.out.mono ?_
    rintro e w1 ⟨⟨ev, rfl, he⟩, hb1⟩
    obtain ⟨rfl, _⟩ := he.zero rfl
    dsimp only
    have hof := Lib.hid (hof.out _ hb1)
    have hb1 := Lib.hid hb1
    clear he
    go_wp2_with fail
    refine hof.out.mono ?_
    rintro e w2 ⟨rfl, hb2⟩
    have hb2 := Lib.hid (below_trans hb1.out hb2)
    go_wp2_with fail
    go_ret
    exact ⟨by rw [hr.out]; rfl, hb2.out⟩
  · rw [textF_check hc0] at htx
    have hr := Lib.hid (show sumF L = 0 by unfold sumF; rw [if_neg hc0])
    have hc0H := Lib.hid hc0
    clear hof hc0
    go_enter Tryz.func127, Tryz.ntmps127
    go_wp2_with fail
    refine htx.out.mono ?_
    rintro e w1 ⟨⟨ev, rfl, he⟩, hb1⟩
    obtain ⟨T, x, rfl⟩ := he.iface hc0H.out
    have hb1 := Lib.hid hb1
    clear he
    go_wp2_with fail
    go_ret
    exact ⟨by rw [hr.out]; rfl, hb1.out⟩
end Go.Proofs.YtkhphdkjnpcnnaaGreatDoor

/- feed.Make: walked. -/
namespace Go.Proofs.YtkhphdkjnpcnnaaGreatDoor set_option linter.unusedVariables false set_option linter.unusedSimpArgs false
open Go.RowKit

/-- A row of elements that were laid into a block of their own. -/
theorem AtG.newL {α : Type} {C : Cells α} (x : World) (L : List α) (T : TypeId) {cs : Array Value} (hc : cs = (flatG C L).toArray) (hm : L.length ≤ maxLen) : AtG C (x.alloc (.cells cs T)) (.slice (some ⟨x.heap.size, 0, none⟩) L.length L.length) L := by
  subst hc
  have h := heap_alloc_new x (.cells (flatG C L).toArray T)
  refine ⟨_, _, rfl, hm, Nat.le_refl _, (fun e => by cases e), fun i hi => ⟨x.heap.size, 0, rfl, fun j u hu => ?_⟩⟩
  have hj := (List.getElem?_eq_some_iff.1 hu).1
  rw [C.len] at hj
  have h1 := flatG_get C L i hi j hj
  rw [hu] at h1
  rw [cell_of_row _ _ _ _ _ _ h, Nat.zero_add]
  simpa using h1
theorem makeOf_good {k : Int} {W : List (List UInt8)} (hk : isKey k = true) (h1 : 1 ≤ W.length) (h2 : W.length ≤ 10) (hw : ∀ x ∈ W, isWord x = true) : makeOf k W = (sealText k W, 0, -1) := by
  unfold makeOf
  rw [if_neg (by rw [hk]; decide), if_neg (by omega), if_pos ((badIdx_iff W).2 hw)]
theorem headOf_err {key : Int} {L : List Ent} {time : Int} (hk : isKey key = true) (h : (floorsE L).2.1 ≠ 0) : headOf key L time = ([], (floorsE L).2.1, (floorsE L).2.2) := by unfold headOf; rw [if_neg (by rw [hk]; decide), if_pos h]
theorem headOf_time {key : Int} {L : List Ent} {time : Int} (hk : isKey key = true) (h : (floorsE L).2.1 = 0) (ht : time < 0 ∨ 1000000 < time ∨ time < wasE L L.length) : headOf key L time = ([], 2, -1) := by unfold headOf; rw [if_neg (by rw [hk]; decide), if_neg (by simpa using h), if_pos ht]
theorem headOf_ok {key : Int} {L : List Ent} {time : Int} (hk : isKey key = true) (h : (floorsE L).2.1 = 0) (ht : ¬ (time < 0 ∨ 1000000 < time ∨ time < wasE L L.length)) : headOf key L time = (sealText key (headWords L.length time (sumF (floorsE L).1)), 0, -1) := by unfold headOf; rw [if_neg (by rw [hk]; decide), if_neg (by simpa using h), if_neg ht]
set_option maxHeartbeats 4000000 in
set_option maxRecDepth 100000 in
theorem makeF_any {E : Nat → Addr} (k : Int) (v : Value) (L : List Ent) (time : Int) (w : World) (hL : LaidS E w) (hv : EntsAt w v L) (hm : ∀ e ∈ L, e.f.who.length ≤ maxLen) :
    Calls Tryz.prog 92 #[.int .i64 k, v, .int .i64 time] w fun e w' => TextRes E w' (headOf k L time) e ∧ Below w.heap.size w w' := by
  by_cases hk : isKey k = true
  case neg =>
    have hk : isKey k = false := by simpa using hk
    have hr := Lib.hid (show headOf k L time = ([], 10, -1) by unfold headOf; rw [if_pos hk])
    have he := hL.laid.e10
    simp only [errV] at he
    clear hv hm hL
    go_enter Tryz.func92, Tryz.ntmps92
    go_wp2_with (go_at_call 33; refine (key_any _ _).mono ?_; rintro e w' ⟨rfl, rfl⟩)
    go_quiet (fail)
    go_wp2_with fail
    go_ret2
    exact ⟨TextRes.mk hr.out rfl (ErrAt.bare 10), below_drawn (Below.refl _ _) _⟩
  have hfl := Lib.hid (floors_ent (E := E) v L w hL.laid hv hm)
  have hkH := Lib.hid hk
  have hprev := fun q (hq : L.length = q + 1) => (show ∃ b o c, v = .slice (some ⟨b, o, none⟩) L.length c ∧ w.cell? ⟨b, o + q * 4 + 1, none⟩ = some (.int .i64 (wasE L L.length)) from by
    obtain ⟨a, c, rfl, _, _, hc⟩ := EntsAt.get hv
    obtain ⟨b', o', rfl, _, p1, _⟩ := hc q (by omega)
    refine ⟨b', o', c, rfl, ?_⟩
    rw [p1]
    unfold wasE
    rw [if_neg (by omega), show L.length - 1 = q by omega, getD_get (by omega)])
  obtain ⟨a0, c0, hv0⟩ := AtG.sl hv
  have hlen := AtG.len hv
  unfold maxLen at hlen
  by_cases hf : (floorsE L).2.1 = 0
  case neg =>
    have hr := Lib.hid (headOf_err (time := time) hk hf)
    have hfH := Lib.hid hf
    clear hf hprev hv hm hL hv0
    go_enter Tryz.func92, Tryz.ntmps92
    go_wp2_with (go_at_call 33; refine (key_any _ _).mono ?_; rintro e w' ⟨rfl, rfl⟩)
    refine hfl.out.mono ?_
    rintro e w1 ⟨⟨v6, ev6, rfl, _, he⟩, hb1⟩
    obtain ⟨T, x, rfl⟩ := he.iface hfH.out
    have he := Lib.hid he
    have hb1 := Lib.hid hb1
    go_wp2_with fail
    go_ret2
    exact ⟨TextRes.mk hr.out rfl he.out, hb1.out⟩
  have hl60 := (checkE_zero (L := L) (by rw [(floorsE_zero hf).1])).1
  have hfH := Lib.hid hf
  have hL1 := Lib.hid (fun wx (hx : Below w.heap.size w wx) => hL.below hx)
  have hwas0 : L.length = 0 → wasE L L.length = 0 := fun h => by unfold wasE; rw [if_pos h]
  have h5 := Lib.hid (fun (v6 : Value) (w2 wx : World) (hb : Below w.heap.size w w2) (hrow : FlRow w2 w.heap.size v6 (floorsE L).1) (hx : Below w2.heap.size w2 wx) => sum_flo (E := E) v6 (floorsE L).1 wx (hL.below (below_trans hb hx)) (floorsAt_of (RowG.at_ (floRow_G.1 (hrow.below hx)))) (fun f h => who_len ((floorsE_good hf).g.one f h)))
  have hsd := sumF_bd (floorsE L).1
  have hit := Lib.hid (fun (m : Int) wx (hx : Below w.heap.size w wx) (h0 : 0 ≤ m) (h1 : m ≤ 1073741824) => itoa_any (E := E) m (by omega) (by omega) wx (hL.below hx))
  have hwords := Lib.hid (fun (h0 : 0 ≤ time) (h1 : time ≤ 1000000) => headWords_words (n := (L.length : Int)) (time := time) (sum := sumF (floorsE L).1) (by omega) (by omega) hsd)
  have hmk := Lib.hid (fun (vx : Value) (W : List (List UInt8)) wx (hx : Below w.heap.size w wx) (hvx : TextsAt wx vx W) (h1 : 1 ≤ W.length) (h2 : W.length ≤ 10) (hw : ∀ x ∈ W, isWord x = true) => (by
    have h := make_any (E := E) k vx W wx (hL.below hx) hvx (fun x hx => by have := ((isWord_iff x).1 (hw x hx)).2.1; unfold maxLen; omega)
    rw [makeOf_good hk h1 h2 hw] at h
    exact h : Calls Tryz.prog 99 #[.int .i64 k, vx] wx fun e w' => ∃ ev, e = .returned (.tuple #[.string (bs (sealText k W)), ev]) ∧ ErrAt E w' ev 0 (-1) ∧ Below wx.heap.size wx w'))
  have hrT := Lib.hid (fun h => headOf_time (time := time) hk hf h)
  have hrK := Lib.hid (fun h => headOf_ok (time := time) hk hf h)
  generalize wasE L L.length = was at *
  generalize sumF (floorsE L).1 = sm at *
  obtain ⟨n, hn⟩ : ∃ n, L.length = n := ⟨_, rfl⟩
  rw [hn] at hv0 hprev hl60 hrK hwords hwas0 hlen
  clear hf hm hL hv hn
  by_cases ht : time < 0 ∨ 1000000 < time ∨ time < was
  · have hr := Lib.hid (hrT.out ht)
    clear hrT hrK hmk hwords hit h5 hsd
    by_cases ht0 : time < 0
    · clear hprev hwas0 ht
      subst hv0
      go_enter Tryz.func92, Tryz.ntmps92
      go_wp2_with (go_at_call 33; refine (key_any _ _).mono ?_; rintro e w' ⟨rfl, rfl⟩)
      refine hfl.out.mono ?_
      rintro e w1 ⟨⟨v6, ev6, rfl, _, he⟩, hb1⟩
      obtain ⟨rfl, _⟩ := he.zero hfH.out
      have he2 := (hL1.out _ hb1).laid.e2
      simp only [errV] at he2
      have hb1 := Lib.hid hb1
      clear he
      go_wp2_with fail
      go_quiet (fail)
      go_wp2_with fail
      go_ret2
      exact ⟨TextRes.mk hr.out rfl (ErrAt.bare 2), below_drawn hb1.out _⟩
    by_cases ht1 : 1000000 < time
    · clear hprev hwas0 ht
      subst hv0
      go_enter Tryz.func92, Tryz.ntmps92
      go_wp2_with (go_at_call 33; refine (key_any _ _).mono ?_; rintro e w' ⟨rfl, rfl⟩)
      refine hfl.out.mono ?_
      rintro e w1 ⟨⟨v6, ev6, rfl, _, he⟩, hb1⟩
      obtain ⟨rfl, _⟩ := he.zero hfH.out
      have he2 := (hL1.out _ hb1).laid.e2
      simp only [errV] at he2
      have hb1 := Lib.hid hb1
      clear he
      go_wp2_with fail
      go_quiet (fail)
      go_wp2_with fail
      go_ret2
      exact ⟨TextRes.mk hr.out rfl (ErrAt.bare 2), below_drawn hb1.out _⟩
    · have ht2 : time < was := by omega
      have hn0 : n ≠ 0 := fun h => by have := hwas0 h; omega
      obtain ⟨q, rfl⟩ : ∃ q, n = q + 1 := ⟨n - 1, by omega⟩
      obtain ⟨b, o, c, hv1, p1⟩ := hprev q rfl
      clear hprev hwas0 ht hn0 hv0
      subst hv1
      have p1H := Lib.hid p1
      have hq0 : (0 : Int) ≤ (q : Int) := by omega
      have hq1 : (q : Int) < (q : Int) + 1 := by omega
      clear p1
      go_enter Tryz.func92, Tryz.ntmps92
      go_wp2_with (go_at_call 33; refine (key_any _ _).mono ?_; rintro e w' ⟨rfl, rfl⟩)
      refine hfl.out.mono ?_
      rintro e w1 ⟨⟨v6, ev6, rfl, _, he⟩, hb1⟩
      obtain ⟨rfl, _⟩ := he.zero hfH.out
      have he2 := (hL1.out _ hb1).laid.e2
      simp only [errV] at he2
      have p1 := cell_below hb1 p1H.out
      have hb1 := Lib.hid hb1
      clear he
      go_wp2_with fail
      go_quiet (fail)
      go_wp2_with fail
      go_ret2
      exact ⟨TextRes.mk hr.out rfl (ErrAt.bare 2), below_drawn hb1.out _⟩
  have hr := Lib.hid (hrK.out ht)
  have ht0 : ¬ time < 0 := fun h => ht (.inl h)
  have ht1 : ¬ 1000000 < time := fun h => ht (.inr (.inl h))
  have ht2 : ¬ time < was := fun h => ht (.inr (.inr h))
  have hwords := Lib.hid (hwords.out (by omega) (by omega))
  have hnews := Lib.hid (fun (x : World) => AtG.newL (C := strC) x (headWords n time sm) 9 (cs := #[.string ⟨#[104, 101, 97, 100]⟩, .string (bs (Lib.itoa n)), .string (bs (Lib.itoa time)), .string (bs (Lib.itoa sm))]) rfl (by unfold maxLen; simp [headWords]))
  have hit1 := Lib.hid (fun wx hx => hit.out (n : Int) wx hx (by omega) (by omega))
  have hit2 := Lib.hid (fun wx hx => hit.out time wx hx (by omega) (by omega))
  have hit3 := Lib.hid (fun wx hx => hit.out sm wx hx hsd.1 (by omega))
  have hmk := Lib.hid (fun (vx : Value) wx hx hvx => hmk.out vx (headWords n time sm) wx hx hvx (by simp [headWords]) (by simp [headWords]) hwords.out)
  clear hrT hrK ht hsd hit hwords
  by_cases hn0 : n = 0
  · subst hn0
    clear hprev hwas0
    subst hv0
    go_enter Tryz.func92, Tryz.ntmps92
    go_wp2_with (go_at_call 33; refine (key_any _ _).mono ?_; rintro e w' ⟨rfl, rfl⟩)
    refine hfl.out.mono ?_
    rintro e w1 ⟨⟨v6, ev6, rfl, hrow6, he⟩, hb1⟩
    obtain ⟨rfl, _⟩ := he.zero hfH.out
    have h5 := Lib.hid (fun wx hx => h5.out v6 w1 wx hb1 hrow6 hx)
    have hb1 := Lib.hid hb1
    clear he hrow6
    go_wp2_with fail
    refine (hit1.out _ hb1.out).mono ?_
    rintro e w2 ⟨rfl, hb2⟩
    have hc2 := Lib.hid hb2
    clear hb2
    go_wp2_with fail
    refine (hit2.out _ (below_trans hb1.out hc2.out)).mono ?_
    rintro e w3 ⟨rfl, hb3⟩
    have hc3 := Lib.hid (below_trans hc2.out hb3)
    clear hb3
    go_wp2_with fail
    refine (h5.out _ hc3.out).mono ?_
    rintro e w4 ⟨rfl, hb4⟩
    have hc4 := Lib.hid (below_trans hb1.out (below_trans hc3.out hb4))
    clear hb4
    go_wp2_with fail
    refine (hit3.out _ hc4.out).mono ?_
    rintro e w5 ⟨rfl, hb5⟩
    have hc5 := Lib.hid (below_trans hc4.out hb5)
    have hc6 := Lib.hid (fun o => (below_trans hc4.out hb5).alloc (below_trans hc4.out hb5).size o)
    clear hb5
    go_wp2_with fail
    refine (hmk.out _ _ (hc6.out _) (textsAt_of (hnews.out _))).mono ?_
    rintro e w6 ⟨ev, rfl, he, hb6⟩
    obtain ⟨rfl, _⟩ := he.zero rfl
    have hb6 := Lib.hid (below_trans (hc6.out _) hb6)
    clear he
    go_wp2_with fail
    go_ret2
    exact ⟨TextRes.mk hr.out rfl (ErrAt.bare 0), hb6.out⟩
  · obtain ⟨q, rfl⟩ : ∃ q, n = q + 1 := ⟨n - 1, by omega⟩
    obtain ⟨b, o, c, hv1, p1⟩ := hprev q rfl
    clear hprev hwas0 hn0 hv0
    subst hv1
    have p1H := Lib.hid p1
    have hq0 : (0 : Int) ≤ (q : Int) := by omega
    have hq1 : (q : Int) < (q : Int) + 1 := by omega
    clear p1
    go_enter Tryz.func92, Tryz.ntmps92
    go_wp2_with (go_at_call 33; refine (key_any _ _).mono ?_; rintro e w' ⟨rfl, rfl⟩)
    refine hfl.out.mono ?_
    rintro e w1 ⟨⟨v6, ev6, rfl, hrow6, he⟩, hb1⟩
    obtain ⟨rfl, _⟩ := he.zero hfH.out
    have p1 := cell_below hb1 p1H.out
    have h5 := Lib.hid (fun wx hx => h5.out v6 w1 wx hb1 hrow6 hx)
    have hb1 := Lib.hid hb1
    clear he hrow6
    go_wp2_with fail
    refine (hit1.out _ hb1.out).mono ?_
    rintro e w2 ⟨rfl, hb2⟩
    have hc2 := Lib.hid hb2
    clear hb2
    go_wp2_with fail
    refine (hit2.out _ (below_trans hb1.out hc2.out)).mono ?_
    rintro e w3 ⟨rfl, hb3⟩
    have hc3 := Lib.hid (below_trans hc2.out hb3)
    clear hb3
    go_wp2_with fail
    refine (h5.out _ hc3.out).mono ?_
    rintro e w4 ⟨rfl, hb4⟩
    have hc4 := Lib.hid (below_trans hb1.out (below_trans hc3.out hb4))
    clear hb4
    go_wp2_with fail
    refine (hit3.out _ hc4.out).mono ?_
    rintro e w5 ⟨rfl, hb5⟩
    have hc5 := Lib.hid (below_trans hc4.out hb5)
    have hc6 := Lib.hid (fun o => (below_trans hc4.out hb5).alloc (below_trans hc4.out hb5).size o)
    clear hb5
    go_wp2_with fail
    refine (hmk.out _ _ (hc6.out _) (textsAt_of (hnews.out _))).mono ?_
    rintro e w6 ⟨ev, rfl, he, hb6⟩
    obtain ⟨rfl, _⟩ := he.zero rfl
    have hb6 := Lib.hid (below_trans (hc6.out _) hb6)
    clear he
    go_wp2_with fail
    go_ret2
    exact ⟨TextRes.mk hr.out rfl (ErrAt.bare 0), hb6.out⟩
end Go.Proofs.YtkhphdkjnpcnnaaGreatDoor
