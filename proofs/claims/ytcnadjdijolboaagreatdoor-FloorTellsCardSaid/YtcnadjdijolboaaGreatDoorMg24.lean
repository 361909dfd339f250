/- FloX -/
import Derived.Test.YtcnadjdijolboaaGreatDoorMg16
import Derived.Test.YtcnadjdijolboaaGreatDoorMg18
import Derived.Test.YtcnadjdijolboaaGreatDoorMg19
import Derived.Test.YtcnadjdijolboaaGreatDoorMg21
import Derived.Test.YtcnadjdijolboaaGreatDoorMg22
import Derived.Test.YtcnadjdijolboaaGreatDoorMg23
/- FloorTells: walked. -/
namespace Go.Proofs.YtcnadjdijolboaaGreatDoor
open Go.RowKit

theorem checkF_le (L : List Flo) : (checkF L).1 ≤ 16 := by
  rcases checkF_cases L with h | ⟨h, h2⟩ | ⟨h, i, h2, h3, h4⟩
  · rw [checkF_full h]; decide
  · rw [checkF_none h h2]; decide
  · rw [checkF_some h i h2 h3 h4]
    show errAtF L i ≤ 16
    unfold errAtF errF
    have := oneF_le (L.getD i ⟨[], 0⟩)
    split
    · exact this
    · split
      · decide
      · split <;> decide
theorem joinF_le {a b : List Flo} {r : List Flo × Nat × Int} (h : JoinF a b r) : r.2.1 ≤ 16 := by
  cases h
  · exact checkF_le a
  · exact checkF_le b
  · exact Nat.le_of_ble_eq_true rfl
  · exact Nat.zero_le _
theorem readF_le (s : List UInt8) : (readF s).2.1 ≤ 16 := by
  unfold readF
  split
  · decide
  · split
    · split
      · exact Nat.zero_le _
      · exact checkF_le _
    · decide
theorem errAt_set2 {E : Nat → Addr} {w : World} {n : Nat} {x y : Int} {T : TypeId} (h : w.heap[n]? = some (.cells #[.int .i64 x, .int .i64 y] T (0, 0))) {v : Value} {c : Nat} {a : Int} (he : ErrAt E w v c a) (v0 v1 : Value) : ErrAt E ((w.setCell ⟨n, 0, none⟩ v0).setCell ⟨n, 1, none⟩ v1) v c a := by
  rcases he with he | ⟨N, h1, h2, h3, h4⟩
  · exact .inl he
  · have hne : n ≠ N := by
      rintro rfl
      rw [cell_of_row _ _ _ _ _ _ h] at h4
      obtain ⟨d, rfl⟩ : ∃ d, c = d + 1 := ⟨c - 1, by omega⟩
      rw [errV_succ] at h4
      cases h4
    exact .inr ⟨N, h1, h2, (World.cell?_setCell_far _ _ _ _ hne).trans ((World.cell?_setCell_far _ _ _ _ hne).trans h3), (World.cell?_setCell_far _ _ _ _ hne).trans ((World.cell?_setCell_far _ _ _ _ hne).trans h4)⟩
theorem flo_ne_fault : (24 : TypeId) ≠ 42 := by decide
/-- What is kept by a store into the fault's box. -/
structure GB (w0 w : World) (g : Nat) : Prop where
  box : ∃ x y, w.heap[g]? = some (.cells #[.int .i64 x, .int .i64 y] 42 (0, 0))
  ge : w0.heap.size ≤ g
  below : Below w0.heap.size w0 w
theorem GB.later {w0 w w' : World} {g : Nat} (h : GB w0 w g) (hb : Below w.heap.size w w') : GB w0 w' g := by
  obtain ⟨x, y, h1⟩ := h.box
  exact ⟨⟨x, y, heap_down hb h1⟩, h.ge, below_trans h.below hb⟩
theorem GB.cells {w0 w : World} {g : Nat} (h : GB w0 w g) : ∃ x y, (w.cell? ⟨g, 0, none⟩ = some (.int .i64 x) ∧ w.cell? ⟨g, 1, none⟩ = some (.int .i64 y)) ∧ w.frozen? ⟨g, 0, none⟩ = false ∧ w.frozen? ⟨g, 1, none⟩ = false := by
  obtain ⟨x, y, h1⟩ := h.box
  exact ⟨x, y, two_kept (Below.refl _ _) h1⟩
theorem GB.set {w0 w : World} {g : Nat} (h : GB w0 w g) (x y : Int) : let u := (w.setCell ⟨g, 0, none⟩ (.int .i64 x)).setCell ⟨g, 1, none⟩ (.int .i64 y)
    GB w0 u g ∧ (u.cell? ⟨g, 0, none⟩ = some (.int .i64 x) ∧ u.cell? ⟨g, 1, none⟩ = some (.int .i64 y)) ∧ (w.setCell ⟨g, 0, none⟩ (.int .i64 x)).cell? ⟨g, 0, none⟩ = some (.int .i64 x) := by
  obtain ⟨x0, y0, h1⟩ := h.box
  have h2 := row_set2 h1 (.int .i64 x) (.int .i64 y)
  exact ⟨⟨⟨x, y, h2⟩, h.ge, below_set2 h.below h.ge _ _⟩, (two_kept (Below.refl _ _) h2).1, set2_first h1 _⟩
theorem GB.row {w0 w : World} {g : Nat} (h : GB w0 w g) {base : Nat} {v : Value} {L : List Flo} (hr : RowG floC w base 24 v L) (v0 v1 : Value) : RowG floC ((w.setCell ⟨g, 0, none⟩ v0).setCell ⟨g, 1, none⟩ v1) base 24 v L := by
  obtain ⟨x0, y0, h1⟩ := h.box
  have hne : ∀ k, v.ownBlock = some k → k ≠ g := fun k hk e => by
    obtain ⟨_, cs', h4⟩ := RowG.block hr hk
    rw [e, h1] at h4
    injection h4 with h4
    injection h4 with _ h4 _
    exact flo_ne_fault h4.symm
  exact (RowG.other hr ⟨g, 0, none⟩ v0 hne).other ⟨g, 1, none⟩ v1 hne
theorem GB.flo {w0 w : World} {g : Nat} (h : GB w0 w g) {v : Value} {L : List Flo} (hr : FloorsAt w v L) (v0 v1 : Value) : FloorsAt ((w.setCell ⟨g, 0, none⟩ v0).setCell ⟨g, 1, none⟩ v1) v L := by
  obtain ⟨x0, y0, h1⟩ := h.box
  exact floorsAt_set2 h1 hr v0 v1
theorem GB.err {E : Nat → Addr} {w0 w : World} {g : Nat} (h : GB w0 w g) {v : Value} {c : Nat} {a : Int} (hr : ErrAt E w v c a) (v0 v1 : Value) : ErrAt E ((w.setCell ⟨g, 0, none⟩ v0).setCell ⟨g, 1, none⟩ v1) v c a := by
  obtain ⟨x0, y0, h1⟩ := h.box
  exact errAt_set2 h1 hr v0 v1
set_option maxHeartbeats 32000000 in
set_option maxRecDepth 100000 in
theorem floorTells_any {E : Nat → Addr} (va vb : Value) (a b : List Flo) (f : Flo) (s : List UInt8) (w : World) (hL : LaidF E w) (hva : AtG floC w va a) (hvb : AtG floC w vb b) (hma : ∀ f ∈ a, f.who.length ≤ maxLen) (hmb : ∀ f ∈ b, f.who.length ≤ maxLen) (hf : f.who.length ≤ maxLen) (hs : s.length ≤ maxLen) :
    Calls Tryz.prog 4 #[va, vb, f.val, .string (bs s)] w fun e w' => e = .returned (.bool true) ∧ Below w.heap.size w w' := by
  obtain ⟨fw, fe⟩ := f
  dsimp only [Flo.val, Flo.cells] at *
  have hB0 : Below w.heap.size w (w.alloc (.cells #[.string (bs fw), .int .i64 fe] 24)) := (Below.refl _ _).alloc (Nat.le_refl _) _
  have hbx := heap_alloc_new w (.cells #[.string (bs fw), .int .i64 fe] 24)
  have hLw := Lib.hid (fun wx (hx : Below w.heap.size w wx) => hL.below hx)
  have hAv := Lib.hid (fun wx (hx : Below w.heap.size w wx) => (show AtG floC wx va a from AtG.below hva hx))
  have hBv := Lib.hid (fun wx (hx : Below w.heap.size w wx) => (show AtG floC wx vb b from AtG.below hvb hx))
  have hfo := Lib.hid (floored_any (E := E) _ (hL.below hB0).s.laid)
  have hlgA := Lib.hid (fun wx (hx : Below w.heap.size w wx) => longf_flo va a wx (floorsAt_of (hAv.out wx hx)) hma)
  have hlgB := Lib.hid (fun wx (hx : Below w.heap.size w wx) => longf_flo vb b wx (floorsAt_of (hBv.out wx hx)) hmb)
  have hmaH := Lib.hid hma
  have hmbH := Lib.hid hmb
  have hfH := Lib.hid hf
  obtain ⟨aa, ca0, hsa⟩ := AtG.sl hva
  obtain ⟨ab, cb0, hsb⟩ := AtG.sl hvb
  have hfs := bs_size fw
  have hss := bs_size s
  unfold maxLen at hf hs
  subst hsa
  subst hsb
  have hBH := Lib.hid hB0
  have hbxH := Lib.hid (fun wx (hx : Below (w.alloc (.cells #[.string (bs fw), .int .i64 fe] 24)).heap.size (w.alloc (.cells #[.string (bs fw), .int .i64 fe] 24)) wx) => (two_kept hx hbx).1)
  clear hL hma hmb hva hvb hB0 hbx
  go_enter Tryz.func4, Tryz.ntmps4
  go_wp2_with fail
  generalize hWd : w.alloc (.cells #[.string (bs fw), .int .i64 fe] 24) = W at *
  clear hWd
  refine hfo.out.mono ?_
  rintro e w1 ⟨rfl, hb1⟩
  have hK1 := Lib.hid hb1
  have hlgA1 := hlgA.out _ (below_trans hBH.out hb1)
  clear hfo hlgA hb1
  by_cases hlo : longF a = false ∧ longF b = false
  case neg =>
    have hx : ∃ x y : Int, longI a = x ∧ longI b = y ∧ 0 ≤ x ∧ x ≤ 1 ∧ 0 ≤ y ∧ y ≤ 1 ∧ 0 < x + y := ⟨_, _, rfl, rfl, by unfold longI; split <;> decide, by unfold longI; split <;> decide, by unfold longI; split <;> decide, by unfold longI; split <;> decide, by
      unfold longI
      cases h1 : longF a <;> cases h2 : longF b
      · exact absurd ⟨h1, h2⟩ hlo
      · simp
      · simp
      · simp⟩
    obtain ⟨x, y, hx1, hy1, hx2, hx3, hy2, hy3, hxy⟩ := hx
    rw [hx1] at hlgA1
    have hlgA1 := Lib.hid hlgA1
    have hyH := Lib.hid hy1
    clear hlo hx1 hy1
    go_wp2_with fail
    refine hlgA1.out.mono ?_
    rintro e w2 ⟨rfl, hb2⟩
    have hK2 := Lib.hid (below_trans hBH.out (below_trans hK1.out hb2))
    have hlgB1 := hlgB.out _ hK2.out
    rw [hyH.out] at hlgB1
    have hlgB1 := Lib.hid hlgB1
    clear hb2 hyH hlgA1
    go_wp2_with fail
    refine hlgB1.out.mono ?_
    rintro e w3 ⟨rfl, hb3⟩
    have hb3 := Lib.hid (below_trans hK2.out hb3)
    go_wp2_with fail
    go_ret
    exact ⟨rfl, hb3.out⟩
  obtain ⟨hlo1, hlo2⟩ := hlo
  rw [show longI a = 0 by unfold longI; rw [if_neg (by rw [hlo1]; decide)]] at hlgA1
  have hlgA1 := Lib.hid hlgA1
  have hla25 := (longF_false hlo1).1
  have hlb25 := (longF_false hlo2).1
  have hlB := Lib.hid (show longI b = 0 by unfold longI; rw [if_neg (by rw [hlo2]; decide)])
  clear hlo1 hlo2
  go_wp2_with fail
  refine hlgA1.out.mono ?_
  rintro e w2 ⟨rfl, hb2⟩
  have hK2 := Lib.hid (below_trans hK1.out hb2)
  have hlgB1 := hlgB.out _ (below_trans hBH.out hK2.out)
  rw [hlB.out] at hlgB1
  have hlgB1 := Lib.hid hlgB1
  clear hb2 hlgA1 hlB hlgB
  go_wp2_with fail
  refine hlgB1.out.mono ?_
  rintro e w3 ⟨rfl, hb3⟩
  have hK3 := Lib.hid (below_trans hK2.out hb3)
  obtain ⟨q0, q1⟩ := hbxH.out _ hK3.out
  clear hb3 hlgB1
  by_cases h20 : 20 < (bs fw).size
  case pos =>
    have hfin := Lib.hid (below_trans hBH.out hK3.out)
    go_wp2_with fail
    go_ret
    exact ⟨rfl, hfin.out⟩
  by_cases h400 : 400 < (bs s).size
  case pos =>
    have hfin := Lib.hid (below_trans hBH.out hK3.out)
    go_wp2_with fail
    go_ret
    exact ⟨rfl, hfin.out⟩
  have h20i : ¬ (20 : Int) < ((bs fw).size : Int) := by omega
  have h400i : ¬ (400 : Int) < ((bs s).size : Int) := by omega
  have hs400 := Lib.hid (show (bs s).size ≤ 400 by omega)
  have hfa := Lib.hid (fun (ev : Value) (c : Nat) (a : Int) wx (hx : Below W.heap.size W wx) (he : ErrAt E wx ev c a) (hc : c ≤ 16) => faulted_self ev c a wx (hLw.out _ (below_trans hBH.out hx)).r he hc)
  have hown := Lib.hid (own_flo _ a w3 (hAv.out _ (below_trans hBH.out hK3.out)) (by omega))
  clear h20 h400
  go_wp2_with fail
  refine hown.out.mono ?_
  rintro e w4 ⟨v4, rfl, hr4, hb4⟩
  have hK4 := Lib.hid (below_trans hK3.out hb4)
  have hr4 := floRow_G.1 hr4
  obtain ⟨ao, co, hso⟩ := RowG.sl hr4
  subst hso
  have hr4 := Lib.hid hr4
  have hff := faultsR_flo _ a w4 (floorsAt_of (hAv.out _ (below_trans hBH.out hK4.out))) hmaH.out
  have hcl := Lib.hid (checkF_le a)
  obtain ⟨cc, ca, hcf⟩ : ∃ cc ca, checkF a = (cc, ca) := ⟨_, _, rfl⟩
  have hcfH := Lib.hid hcf
  rw [hcf] at hff hcl
  dsimp only [faultF] at hff hcl
  have hff := Lib.hid hff
  clear hb4 hown q0 q1 hcf
  go_wp2_with fail
  refine hff.out.mono ?_
  rintro e w5 ⟨rfl, hb5⟩
  have hGB := Lib.hid (show GB W (w5.alloc (.cells #[.int .i64 (cc : Int), .int .i64 ca] 42)) w5.heap.size from ⟨⟨_, _, heap_alloc_new w5 _⟩, (below_trans hK4.out hb5).size, (below_trans hK4.out hb5).alloc (below_trans hK4.out hb5).size _⟩)
  have hro := Lib.hid (RowG.alloc (RowG.below hr4.out hb5) (.cells #[.int .i64 (cc : Int), .int .i64 ca] 42))
  have hbg := Lib.hid (heap_alloc_new w5 (.cells #[.int .i64 (cc : Int), .int .i64 ca] 42))
  have hx := Lib.hid (text_flo (E := E) _ a _ (hLw.out _ (below_trans hBH.out hGB.out.below)).s (floorsAt_of (RowG.at_ hro.out)) hmaH.out)
  obtain ⟨T, tc, ta, hT⟩ : ∃ T tc ta, textF a = (T, tc, ta) := ⟨_, _, _, rfl⟩
  have htd : textF a = if (checkF a).1 = 0 then (textL a, 0, -1) else ([], checkF a) := rfl
  rw [hT] at hx htd
  rw [hcfH.out] at htd
  have htg : cc = 0 → ca = -1 := fun h => by
    have h2 := check_goodF (goodF_check (show (checkF a).1 = 0 by rw [hcfH.out]; exact h))
    rw [hcfH.out] at h2
    exact (Prod.mk.inj h2).2
  have htc : tc = cc ∧ ta = ca := by
    by_cases h : cc = 0
    · rw [if_pos h] at htd
      have := htg h
      cases htd
      exact ⟨h.symm, this.symm⟩
    · rw [if_neg h] at htd
      cases htd
      exact ⟨rfl, rfl⟩
  obtain ⟨rfl, rfl⟩ := htc
  have htdH := Lib.hid htd
  clear htd hT htg hb5 hr4 hff
  go_wp2_with fail
  generalize w5.alloc (.cells #[.int .i64 (tc : Int), .int .i64 ta] 42) = W5 at *
  generalize w5.heap.size = g at *
  refine hx.out.mono ?_
  rintro e w6 ⟨⟨ev6, rfl, he6⟩, hb6⟩
  have hG6 := Lib.hid (hGB.out.later hb6)
  have hr6 := Lib.hid (RowG.below hro.out hb6)
  have he6 := Lib.hid he6
  have hbg := Lib.hid (heap_down hb6 hbg.out)
  clear hb6 hro hGB hx
  dsimp only at he6 ⊢
  have hck := Lib.hid (fun wx (hx : Below w6.heap.size w6 wx) => (show Calls Tryz.prog 7 #[.slice ao a.length co] wx fun e w' => ∃ ev, e = .returned ev ∧ ErrAt E w' ev tc ta ∧ Below wx.heap.size wx w' from by
    have h := check_flo (E := E) (.slice ao a.length co) a wx (hLw.out _ (below_trans hBH.out (hG6.out.later hx).below)).s.laid (floorsAt_of (RowG.at_ (RowG.below hr6.out hx))) hmaH.out
    rw [hcfH.out] at h
    exact h))
  have hfT := Lib.hid (fun (ev : Value) wx (hx : Below W.heap.size W wx) (he : ErrAt E wx ev tc ta) => hfa.out ev tc ta wx hx he hcl.out)
  have hz1 := Lib.hid (show tc = 0 → (tc : Int) = 0 from fun h => by rw [h]; rfl)
  have hz2 := Lib.hid (show tc ≠ 0 → (0 : Int) < (tc : Int) from fun h => by omega)
  generalize hzi : (tc : Int) = zi at *
  clear hzi
  have hkS := Lib.hid (fun wx (hx : Below w6.heap.size w6 wx) => (two_kept hx hbg.out).1)
  have hDK := Lib.hid (fun wx (hx : Below w6.heap.size w6 wx) => (hG6.out.later hx).below)
  have hD0 := Lib.hid (show Below w6.heap.size w6 w6.drew from (Below.refl _ _).drew)
  trace_state
  go_upto_region 7 with fail
  go_cut [67] from 48 to 67 (fun s67 wx => s67 = .bool false ∧ Hid (Below w6.heap.size w6 wx))
  case first =>
    by_cases hz : tc = 0
    · have hzz := hz1.out hz
      subst hzz
      clear hz
      refine wp_region_noPanic ?_
      refine wp_region_held_drew (S := fun wx => wx.cell? ⟨g, 0, none⟩ = some (.int .i64 0) ∧ wx.cell? ⟨g, 1, none⟩ = some (.int .i64 ta)) (by kernel_rfl) ?_ (fun hHeld => ?_)
      · exact hkS.out _ hD0.out
      refine' held_take (i := 0) (d := some 48) (v := _) rfl rfl (by kernel_rfl) (by kernel_rfl) (by kernel_rfl) (fun _ _ _ h => h) rfl (by assumption) ?hy_1 ?re_1
      case hy_1 =>
        intro w hSw
        try dsimp only at hSw
        go_simp
        try with_reducible rfl
      simp only [Act.put, List.setIfInBounds_toArray, List.set_cons_zero, List.set_cons_succ]
      refine' held_take (i := 2) (d := some 50) (v := _) rfl rfl (by kernel_rfl) (by kernel_rfl) (by kernel_rfl) (fun _ _ _ h => h) rfl (by assumption) ?hy_2 ?re_2
      case hy_2 =>
        intro w hSw
        try dsimp only at hSw
        go_simp
        try with_reducible rfl
      simp only [Act.put, List.setIfInBounds_toArray, List.set_cons_zero, List.set_cons_succ]
      refine wpAnyH_ready (rs := [1]) (by kernel_rfl) (by simp) ?_
      refine AllReadyH.cons rfl (fun K hK => ?_) AllReadyH.nil
      go_simp
      refine (hck.out _ hD0.out).mono ?_
      rintro e w1 ⟨ev7, rfl, he7, hb⟩
      have hD1 := Lib.hid (below_trans hD0.out hb)
      clear hb
      go_wp2_with fail
      refine hK.out _ _ ?_ (fun hHeld => ?_)
      · exact hkS.out _ hD1.out
      clear hK K
      try simp only [Act.put, List.setIfInBounds_toArray, List.set_cons_zero, List.set_cons_succ]
      refine wpAnyH_ready (rs := [3]) (by kernel_rfl) (by simp) ?_
      refine AllReadyH.cons rfl (fun K hK => ?_) AllReadyH.nil
      go_simp
      have hx7 := Lib.hid (hfT.out ev7 _ (hDK.out _ hD1.out) he7)
      clear he7
      refine (hx7.out).mono ?_
      rintro e w2 ⟨rfl, hb⟩
      have hD2 := Lib.hid (below_trans hD1.out hb)
      clear hb
      go_wp2_with fail
      refine hK.out _ _ ?_ (fun hHeld => ?_)
      · exact hkS.out _ hD2.out
      clear hK K
      try simp only [Act.put, List.setIfInBounds_toArray, List.set_cons_zero, List.set_cons_succ]
      refine' held_take (i := 4) (d := some 52) (v := _) rfl rfl (by kernel_rfl) (by kernel_rfl) (by kernel_rfl) (fun _ _ _ h => h) rfl (by assumption) ?hy_3 ?re_3
      case hy_3 =>
        intro w hSw
        try dsimp only at hSw
        go_simp
        try with_reducible rfl
      simp only [Act.put, List.setIfInBounds_toArray, List.set_cons_zero, List.set_cons_succ]
      refine' held_take (i := 5) (d := some 53) (v := _) rfl rfl (by kernel_rfl) (by kernel_rfl) (by kernel_rfl) (fun _ _ _ h => h) rfl (by assumption) ?hy_4 ?re_4
      case hy_4 =>
        intro w hSw
        try dsimp only at hSw
        go_simp
        try with_reducible rfl
      simp only [Act.put, List.setIfInBounds_toArray, List.set_cons_zero, List.set_cons_succ]
      refine' held_take (i := 6) (d := some 54) (v := _) rfl rfl (by kernel_rfl) (by kernel_rfl) (by kernel_rfl) (fun _ _ _ h => h) rfl (by assumption) ?hy_5 ?re_5
      case hy_5 =>
        intro w hSw
        try dsimp only at hSw
        go_simp
        try with_reducible rfl
      simp only [Act.put, List.setIfInBounds_toArray, List.set_cons_zero, List.set_cons_succ]
      refine' held_take (i := 7) (d := some 55) (v := _) rfl rfl (by kernel_rfl) (by kernel_rfl) (by kernel_rfl) (fun _ _ _ h => h) rfl (by assumption) ?hy_6 ?re_6
      case hy_6 =>
        intro w hSw
        try dsimp only at hSw
        go_simp
        try with_reducible rfl
      simp only [Act.put, List.setIfInBounds_toArray, List.set_cons_zero, List.set_cons_succ]
      refine wpAnyH_ready (rs := [8]) (by kernel_rfl) (by simp) ?_
      refine AllReadyH.cons rfl (fun K hK => ?_) AllReadyH.nil
      go_simp
      have hx8 := Lib.hid (hfT.out ev6 _ (hDK.out _ hD2.out) (he6.out.below hD2.out))
      refine (hx8.out).mono ?_
      rintro e w3 ⟨rfl, hb⟩
      have hD3 := Lib.hid (below_trans hD2.out hb)
      clear hb
      go_wp2_with fail
      refine hK.out _ _ ?_ (fun hHeld => ?_)
      · exact hkS.out _ hD3.out
      clear hK K
      try simp only [Act.put, List.setIfInBounds_toArray, List.set_cons_zero, List.set_cons_succ]
      refine' held_take (i := 9) (d := some 57) (v := _) rfl rfl (by kernel_rfl) (by kernel_rfl) (by kernel_rfl) (fun _ _ _ h => h) rfl (by assumption) ?hy_7 ?re_7
      case hy_7 =>
        intro w hSw
        try dsimp only at hSw
        go_simp
        try with_reducible rfl
      simp only [Act.put, List.setIfInBounds_toArray, List.set_cons_zero, List.set_cons_succ]
      refine' held_take (i := 10) (d := some 58) (v := _) rfl rfl (by kernel_rfl) (by kernel_rfl) (by kernel_rfl) (fun _ _ _ h => h) rfl (by assumption) ?hy_8 ?re_8
      case hy_8 =>
        intro w hSw
        try dsimp only at hSw
        go_simp
        try with_reducible rfl
      simp only [Act.put, List.setIfInBounds_toArray, List.set_cons_zero, List.set_cons_succ]
      refine' held_take (i := 11) (d := some 59) (v := _) rfl rfl (by kernel_rfl) (by kernel_rfl) (by kernel_rfl) (fun _ _ _ h => h) rfl (by assumption) ?hy_9 ?re_9
      case hy_9 =>
        intro w hSw
        try dsimp only at hSw
        go_simp
        try with_reducible rfl
      simp only [Act.put, List.setIfInBounds_toArray, List.set_cons_zero, List.set_cons_succ]
      refine' held_take (i := 12) (d := some 60) (v := _) rfl rfl (by kernel_rfl) (by kernel_rfl) (by kernel_rfl) (fun _ _ _ h => h) rfl (by assumption) ?hy_10 ?re_10
      case hy_10 =>
        intro w hSw
        try dsimp only at hSw
        go_simp
        try with_reducible rfl
      simp only [Act.put, List.setIfInBounds_toArray, List.set_cons_zero, List.set_cons_succ]
      refine' held_take (i := 13) (d := some 61) (v := _) rfl rfl (by kernel_rfl) (by kernel_rfl) (by kernel_rfl) (fun _ _ _ h => h) rfl (by assumption) ?hy_11 ?re_11
      case hy_11 =>
        intro w hSw
        try dsimp only at hSw
        go_simp
        try with_reducible rfl
      simp only [Act.put, List.setIfInBounds_toArray, List.set_cons_zero, List.set_cons_succ]
      refine' held_take (i := 14) (d := some 62) (v := _) rfl rfl (by kernel_rfl) (by kernel_rfl) (by kernel_rfl) (fun _ _ _ h => h) rfl (by assumption) ?hy_12 ?re_12
      case hy_12 =>
        intro w hSw
        try dsimp only at hSw
        go_simp
        try with_reducible rfl
      simp only [Act.put, List.setIfInBounds_toArray, List.set_cons_zero, List.set_cons_succ]
      refine' held_take (i := 15) (d := some 63) (v := _) rfl rfl (by kernel_rfl) (by kernel_rfl) (by kernel_rfl) (fun _ _ _ h => h) rfl (by assumption) ?hy_13 ?re_13
      case hy_13 =>
        intro w hSw
        try dsimp only at hSw
        go_simp
        try with_reducible rfl
      simp only [Act.put, List.setIfInBounds_toArray, List.set_cons_zero, List.set_cons_succ]
      refine held_skip (i := 16) (d := some 64) rfl rfl (by kernel_rfl) (by kernel_rfl) (by kernel_rfl) (fun _ _ _ h => h) rfl (by assumption) ?_
      simp only [Act.put, List.setIfInBounds_toArray, List.set_cons_zero, List.set_cons_succ]
      refine held_skip (i := 17) (d := some 65) rfl rfl (by kernel_rfl) (by kernel_rfl) (by kernel_rfl) (fun _ _ _ h => h) rfl (by assumption) ?_
      simp only [Act.put, List.setIfInBounds_toArray, List.set_cons_zero, List.set_cons_succ]
      refine' held_take (i := 18) (d := some 66) (v := _) rfl rfl (by kernel_rfl) (by kernel_rfl) (by kernel_rfl) (fun _ _ _ h => h) rfl (by assumption) ?hy_14 ?re_14
      case hy_14 =>
        intro w hSw
        try dsimp only at hSw
        go_simp
        try with_reducible rfl
      simp only [Act.put, List.setIfInBounds_toArray, List.set_cons_zero, List.set_cons_succ]
      refine' held_take (i := 19) (d := some 67) (v := _) rfl rfl (by kernel_rfl) (by kernel_rfl) (by kernel_rfl) (fun _ _ _ h => h) rfl (by assumption) ?hy_15 ?re_15
      case hy_15 =>
        intro w hSw
        try dsimp only at hSw
        go_simp
        try with_reducible rfl
      simp only [Act.put, List.setIfInBounds_toArray, List.set_cons_zero, List.set_cons_succ]
      refine wpAnyH_done (by kernel_rfl) ?_ _
      refine NoPanic.normal ?_
      go_wp2_with fail
      go_meet
      exact ⟨rfl, hD3⟩
    · have hz0 := hz2.out hz
      have hT : T = [] := by have h := htdH.out; rw [if_neg hz] at h; exact (Prod.mk.inj h).1
      have hT1 : ((bs T).toList != []) = false := by rw [toList_data, bs_list, hT]; rfl
      have hT2 : (bs T).toList = [] := by rw [toList_data, bs_list, hT]
      clear hT hz
      refine wp_region_noPanic ?_
      refine wp_region_held_drew (S := fun wx => wx.cell? ⟨g, 0, none⟩ = some (.int .i64 zi) ∧ wx.cell? ⟨g, 1, none⟩ = some (.int .i64 ta)) (by kernel_rfl) ?_ (fun hHeld => ?_)
      · exact hkS.out _ hD0.out
      refine' held_take (i := 0) (d := some 48) (v := _) rfl rfl (by kernel_rfl) (by kernel_rfl) (by kernel_rfl) (fun _ _ _ h => h) rfl (by assumption) ?hy_16 ?re_16
      case hy_16 =>
        intro w hSw
        try dsimp only at hSw
        go_simp
        try with_reducible rfl
      simp only [Act.put, List.setIfInBounds_toArray, List.set_cons_zero, List.set_cons_succ]
      refine' held_take (i := 2) (d := some 50) (v := _) rfl rfl (by kernel_rfl) (by kernel_rfl) (by kernel_rfl) (fun _ _ _ h => h) rfl (by assumption) ?hy_17 ?re_17
      case hy_17 =>
        intro w hSw
        try dsimp only at hSw
        go_simp
        try with_reducible rfl
      simp only [Act.put, List.setIfInBounds_toArray, List.set_cons_zero, List.set_cons_succ]
      refine wpAnyH_ready (rs := [1]) (by kernel_rfl) (by simp) ?_
      refine AllReadyH.cons rfl (fun K hK => ?_) AllReadyH.nil
      go_simp
      refine (hck.out _ hD0.out).mono ?_
      rintro e w1 ⟨ev7, rfl, he7, hb⟩
      have hD1 := Lib.hid (below_trans hD0.out hb)
      clear hb
      go_wp2_with fail
      refine hK.out _ _ ?_ (fun hHeld => ?_)
      · exact hkS.out _ hD1.out
      clear hK K
      try simp only [Act.put, List.setIfInBounds_toArray, List.set_cons_zero, List.set_cons_succ]
      refine wpAnyH_ready (rs := [3]) (by kernel_rfl) (by simp) ?_
      refine AllReadyH.cons rfl (fun K hK => ?_) AllReadyH.nil
      go_simp
      have hx7 := Lib.hid (hfT.out ev7 _ (hDK.out _ hD1.out) he7)
      clear he7
      refine (hx7.out).mono ?_
      rintro e w2 ⟨rfl, hb⟩
      have hD2 := Lib.hid (below_trans hD1.out hb)
      clear hb
      go_wp2_with fail
      refine hK.out _ _ ?_ (fun hHeld => ?_)
      · exact hkS.out _ hD2.out
      clear hK K
      try simp only [Act.put, List.setIfInBounds_toArray, List.set_cons_zero, List.set_cons_succ]
      refine' held_take (i := 4) (d := some 52) (v := _) rfl rfl (by kernel_rfl) (by kernel_rfl) (by kernel_rfl) (fun _ _ _ h => h) rfl (by assumption) ?hy_18 ?re_18
      case hy_18 =>
        intro w hSw
        try dsimp only at hSw
        go_simp
        try with_reducible rfl
      simp only [Act.put, List.setIfInBounds_toArray, List.set_cons_zero, List.set_cons_succ]
      refine' held_take (i := 5) (d := some 53) (v := _) rfl rfl (by kernel_rfl) (by kernel_rfl) (by kernel_rfl) (fun _ _ _ h => h) rfl (by assumption) ?hy_19 ?re_19
      case hy_19 =>
        intro w hSw
        try dsimp only at hSw
        go_simp
        try with_reducible rfl
      simp only [Act.put, List.setIfInBounds_toArray, List.set_cons_zero, List.set_cons_succ]
      refine' held_take (i := 6) (d := some 54) (v := _) rfl rfl (by kernel_rfl) (by kernel_rfl) (by kernel_rfl) (fun _ _ _ h => h) rfl (by assumption) ?hy_20 ?re_20
      case hy_20 =>
        intro w hSw
        try dsimp only at hSw
        go_simp
        try with_reducible rfl
      simp only [Act.put, List.setIfInBounds_toArray, List.set_cons_zero, List.set_cons_succ]
      refine' held_take (i := 7) (d := some 55) (v := _) rfl rfl (by kernel_rfl) (by kernel_rfl) (by kernel_rfl) (fun _ _ _ h => h) rfl (by assumption) ?hy_21 ?re_21
      case hy_21 =>
        intro w hSw
        try dsimp only at hSw
        go_simp
        try with_reducible rfl
      simp only [Act.put, List.setIfInBounds_toArray, List.set_cons_zero, List.set_cons_succ]
      refine wpAnyH_ready (rs := [8]) (by kernel_rfl) (by simp) ?_
      refine AllReadyH.cons rfl (fun K hK => ?_) AllReadyH.nil
      go_simp
      have hx8 := Lib.hid (hfT.out ev6 _ (hDK.out _ hD2.out) (he6.out.below hD2.out))
      refine (hx8.out).mono ?_
      rintro e w3 ⟨rfl, hb⟩
      have hD3 := Lib.hid (below_trans hD2.out hb)
      clear hb
      go_wp2_with fail
      refine hK.out _ _ ?_ (fun hHeld => ?_)
      · exact hkS.out _ hD3.out
      clear hK K
      try simp only [Act.put, List.setIfInBounds_toArray, List.set_cons_zero, List.set_cons_succ]
      refine' held_take (i := 9) (d := some 57) (v := _) rfl rfl (by kernel_rfl) (by kernel_rfl) (by kernel_rfl) (fun _ _ _ h => h) rfl (by assumption) ?hy_22 ?re_22
      case hy_22 =>
        intro w hSw
        try dsimp only at hSw
        go_simp
        try with_reducible rfl
      simp only [Act.put, List.setIfInBounds_toArray, List.set_cons_zero, List.set_cons_succ]
      refine' held_take (i := 10) (d := some 58) (v := _) rfl rfl (by kernel_rfl) (by kernel_rfl) (by kernel_rfl) (fun _ _ _ h => h) rfl (by assumption) ?hy_23 ?re_23
      case hy_23 =>
        intro w hSw
        try dsimp only at hSw
        go_simp
        try with_reducible rfl
      simp only [Act.put, List.setIfInBounds_toArray, List.set_cons_zero, List.set_cons_succ]
      refine' held_take (i := 11) (d := some 59) (v := _) rfl rfl (by kernel_rfl) (by kernel_rfl) (by kernel_rfl) (fun _ _ _ h => h) rfl (by assumption) ?hy_24 ?re_24
      case hy_24 =>
        intro w hSw
        try dsimp only at hSw
        go_simp
        try with_reducible rfl
      simp only [Act.put, List.setIfInBounds_toArray, List.set_cons_zero, List.set_cons_succ]
      refine' held_take (i := 12) (d := some 60) (v := _) rfl rfl (by kernel_rfl) (by kernel_rfl) (by kernel_rfl) (fun _ _ _ h => h) rfl (by assumption) ?hy_25 ?re_25
      case hy_25 =>
        intro w hSw
        try dsimp only at hSw
        go_simp
        try with_reducible rfl
      simp only [Act.put, List.setIfInBounds_toArray, List.set_cons_zero, List.set_cons_succ]
      refine' held_take (i := 13) (d := some 61) (v := _) rfl rfl (by kernel_rfl) (by kernel_rfl) (by kernel_rfl) (fun _ _ _ h => h) rfl (by assumption) ?hy_26 ?re_26
      case hy_26 =>
        intro w hSw
        try dsimp only at hSw
        go_simp
        try with_reducible rfl
      simp only [Act.put, List.setIfInBounds_toArray, List.set_cons_zero, List.set_cons_succ]
      refine' held_take (i := 14) (d := some 62) (v := _) rfl rfl (by kernel_rfl) (by kernel_rfl) (by kernel_rfl) (fun _ _ _ h => h) rfl (by assumption) ?hy_27 ?re_27
      case hy_27 =>
        intro w hSw
        try dsimp only at hSw
        go_simp
        try with_reducible rfl
      simp only [Act.put, List.setIfInBounds_toArray, List.set_cons_zero, List.set_cons_succ]
      refine' held_take (i := 15) (d := some 63) (v := _) rfl rfl (by kernel_rfl) (by kernel_rfl) (by kernel_rfl) (fun _ _ _ h => h) rfl (by assumption) ?hy_28 ?re_28
      case hy_28 =>
        intro w hSw
        try dsimp only at hSw
        go_simp
        try with_reducible rfl
      simp only [Act.put, List.setIfInBounds_toArray, List.set_cons_zero, List.set_cons_succ]
      refine' held_take (i := 16) (d := some 64) (v := _) rfl rfl (by kernel_rfl) (by kernel_rfl) (by kernel_rfl) (fun _ _ _ h => h) rfl (by assumption) ?hy_29 ?re_29
      case hy_29 =>
        intro w hSw
        try dsimp only at hSw
        go_simp
        try with_reducible rfl
      simp only [Act.put, List.setIfInBounds_toArray, List.set_cons_zero, List.set_cons_succ]
      refine' held_take (i := 17) (d := some 65) (v := _) rfl rfl (by kernel_rfl) (by kernel_rfl) (by kernel_rfl) (fun _ _ _ h => h) rfl (by assumption) ?hy_30 ?re_30
      case hy_30 =>
        intro w hSw
        try dsimp only at hSw
        go_simp
        try with_reducible rfl
      simp only [Act.put, List.setIfInBounds_toArray, List.set_cons_zero, List.set_cons_succ]
      refine' held_take (i := 18) (d := some 66) (v := _) rfl rfl (by kernel_rfl) (by kernel_rfl) (by kernel_rfl) (fun _ _ _ h => h) rfl (by assumption) ?hy_31 ?re_31
      case hy_31 =>
        intro w hSw
        try dsimp only at hSw
        go_simp
        try with_reducible rfl
      simp only [Act.put, List.setIfInBounds_toArray, List.set_cons_zero, List.set_cons_succ]
      refine' held_take (i := 19) (d := some 67) (v := _) rfl rfl (by kernel_rfl) (by kernel_rfl) (by kernel_rfl) (fun _ _ _ h => h) rfl (by assumption) ?hy_32 ?re_32
      case hy_32 =>
        intro w hSw
        try dsimp only at hSw
        go_simp
        try with_reducible rfl
      simp only [Act.put, List.setIfInBounds_toArray, List.set_cons_zero, List.set_cons_succ]
      refine wpAnyH_done (by kernel_rfl) ?_ _
      refine NoPanic.normal ?_
      go_wp2_with fail
      go_meet
      exact ⟨rfl, hD3⟩
  obtain ⟨rfl, hX7⟩ := hcut
  have hG7 := Lib.hid (hG6.out.later hX7.out)
  have hr7 := Lib.hid (RowG.below hr6.out hX7.out)
  have hbg := Lib.hid (heap_down hX7.out hbg.out)
  clear hX7 hr6 hG6 hkS hDK hD0 hck hfT he6
  generalize wc = w7 at *
  have hkS := Lib.hid (fun wx (hx : Below w7.heap.size w7 wx) => (show (wx.cell? ⟨g, 0, none⟩ = some (.int .i64 zi) ∧ wx.cell? ⟨g, 1, none⟩ = some (.int .i64 ta)) ∧ wx.cell? ⟨w.heap.size, 0, none⟩ = some (.string (bs fw)) ∧ wx.cell? ⟨w.heap.size, 1, none⟩ = some (.int .i64 fe) from ⟨(two_kept hx hbg.out).1, hbxH.out _ (hG7.out.later hx).below⟩))
  have hD0 := Lib.hid (show Below w7.heap.size w7 w7.drew from (Below.refl _ _).drew)
  go_upto_region 9 with fail
  go_cut [103] from 68 to 103 (fun s103 wx => s103 = .bool false ∧ Hid (Below w7.heap.size w7 wx))
  case first =>
    by_cases hz : tc = 0
    · have hzz := hz1.out hz
      subst hzz
      have hTd := htdH.out
      rw [if_pos hz] at hTd
      have hT : T = textL a := (Prod.mk.inj hTd).1
      subst hT
      have hgd : (checkF a).1 = 0 := by rw [hcfH.out]; exact hz
      have hft := Lib.hid (fun wx (hx : Below w7.heap.size w7 wx) => textR_flo (.slice aa a.length ca0) a wx (floorsAt_of (hAv.out _ (below_trans hBH.out (hG7.out.later hx).below))) (goodF_check hgd))
      have hor := Lib.hid (fun wx (hx : Below w7.heap.size w7 wx) => ofR_flo (.slice aa a.length ca0) a fw wx (floorsAt_of (hAv.out _ (below_trans hBH.out (hG7.out.later hx).below))) (goodF_check hgd).g)
      have hof := Lib.hid (fun wx (hx : Below w7.heap.size w7 wx) => of_flo (.slice ao a.length co) a fw wx (floorsAt_of (RowG.at_ (RowG.below hr7.out hx))) hmaH.out)
      have hpa := Lib.hid (fun wx (hx : Below w7.heap.size w7 wx) => passes_flo (.slice ao a.length co) a fw fe wx (floorsAt_of (RowG.at_ (RowG.below hr7.out hx))) hmaH.out)
      generalize ofF a fw = ov at *
      generalize textL a = TL at *
      clear hz hgd hTd htdH
      refine wp_region_noPanic ?_
      refine wp_region_held_drew (S := fun wx => (wx.cell? ⟨g, 0, none⟩ = some (.int .i64 0) ∧ wx.cell? ⟨g, 1, none⟩ = some (.int .i64 ta)) ∧ wx.cell? ⟨w.heap.size, 0, none⟩ = some (.string (bs fw)) ∧ wx.cell? ⟨w.heap.size, 1, none⟩ = some (.int .i64 fe)) (by kernel_rfl) ?_ (fun hHeld => ?_)
      · exact hkS.out _ hD0.out
      refine' held_take (i := 0) (d := some 68) (v := _) rfl rfl (by kernel_rfl) (by kernel_rfl) (by kernel_rfl) (fun _ _ _ h => h) rfl (by assumption) ?hy_38 ?re_38
      case hy_38 =>
        intro w hSw
        try dsimp only at hSw
        go_simp
        try with_reducible rfl
      simp only [Act.put, List.setIfInBounds_toArray, List.set_cons_zero, List.set_cons_succ]
      refine' held_take (i := 1) (d := some 69) (v := _) rfl rfl (by kernel_rfl) (by kernel_rfl) (by kernel_rfl) (fun _ _ _ h => h) rfl (by assumption) ?hy_39 ?re_39
      case hy_39 =>
        intro w hSw
        try dsimp only at hSw
        go_simp
        try with_reducible rfl
      simp only [Act.put, List.setIfInBounds_toArray, List.set_cons_zero, List.set_cons_succ]
      refine' held_take (i := 2) (d := some 70) (v := _) rfl rfl (by kernel_rfl) (by kernel_rfl) (by kernel_rfl) (fun _ _ _ h => h) rfl (by assumption) ?hy_40 ?re_40
      case hy_40 =>
        intro w hSw
        try dsimp only at hSw
        go_simp
        try with_reducible rfl
      simp only [Act.put, List.setIfInBounds_toArray, List.set_cons_zero, List.set_cons_succ]
      refine' held_take (i := 3) (d := some 71) (v := _) rfl rfl (by kernel_rfl) (by kernel_rfl) (by kernel_rfl) (fun _ _ _ h => h) rfl (by assumption) ?hy_41 ?re_41
      case hy_41 =>
        intro w hSw
        try dsimp only at hSw
        go_simp
        try with_reducible rfl
      simp only [Act.put, List.setIfInBounds_toArray, List.set_cons_zero, List.set_cons_succ]
      refine' held_take (i := 4) (d := some 72) (v := _) rfl rfl (by kernel_rfl) (by kernel_rfl) (by kernel_rfl) (fun _ _ _ h => h) rfl (by assumption) ?hy_42 ?re_42
      case hy_42 =>
        intro w hSw
        try dsimp only at hSw
        go_simp
        try with_reducible rfl
      simp only [Act.put, List.setIfInBounds_toArray, List.set_cons_zero, List.set_cons_succ]
      refine' held_take (i := 5) (d := some 73) (v := _) rfl rfl (by kernel_rfl) (by kernel_rfl) (by kernel_rfl) (fun _ _ _ h => h) rfl (by assumption) ?hy_43 ?re_43
      case hy_43 =>
        intro w hSw
        try dsimp only at hSw
        go_simp
        try with_reducible rfl
      simp only [Act.put, List.setIfInBounds_toArray, List.set_cons_zero, List.set_cons_succ]
      refine wpAnyH_ready (rs := [6]) (by kernel_rfl) (by simp) ?_
      refine AllReadyH.cons rfl (fun K hK => ?_) AllReadyH.nil
      go_simp
      refine (hft.out _ hD0.out).mono ?_
      rintro e w1 ⟨rfl, hb⟩
      have hD1 := Lib.hid (below_trans hD0.out hb)
      clear hb
      go_wp2_with fail
      refine hK.out _ _ ?_ (fun hHeld => ?_)
      · exact hkS.out _ hD1.out
      clear hK K
      try simp only [Act.put, List.setIfInBounds_toArray, List.set_cons_zero, List.set_cons_succ]
      refine' held_take (i := 7) (d := some 75) (v := _) rfl rfl (by kernel_rfl) (by kernel_rfl) (by kernel_rfl) (fun _ _ _ h => h) rfl (by assumption) ?hy_44 ?re_44
      case hy_44 =>
        intro w hSw
        try dsimp only at hSw
        go_simp
        try with_reducible rfl
      simp only [Act.put, List.setIfInBounds_toArray, List.set_cons_zero, List.set_cons_succ]
      refine' held_take (i := 8) (d := some 76) (v := _) rfl rfl (by kernel_rfl) (by kernel_rfl) (by kernel_rfl) (fun _ _ _ h => h) rfl (by assumption) ?hy_45 ?re_45
      case hy_45 =>
        intro w hSw
        try dsimp only at hSw
        go_simp
        try with_reducible rfl
      simp only [Act.put, List.setIfInBounds_toArray, List.set_cons_zero, List.set_cons_succ]
      refine' held_take (i := 9) (d := some 77) (v := _) rfl rfl (by kernel_rfl) (by kernel_rfl) (by kernel_rfl) (fun _ _ _ h => h) rfl (by assumption) ?hy_46 ?re_46
      case hy_46 =>
        intro w hSw
        try dsimp only at hSw
        go_simp
        try with_reducible rfl
      simp only [Act.put, List.setIfInBounds_toArray, List.set_cons_zero, List.set_cons_succ]
      refine' held_take (i := 10) (d := some 78) (v := _) rfl rfl (by kernel_rfl) (by kernel_rfl) (by kernel_rfl) (fun _ _ _ h => h) rfl (by assumption) ?hy_47 ?re_47
      case hy_47 =>
        intro w hSw
        try dsimp only at hSw
        go_simp
        try with_reducible rfl
      simp only [Act.put, List.setIfInBounds_toArray, List.set_cons_zero, List.set_cons_succ]
      refine' held_take (i := 11) (d := some 79) (v := _) rfl rfl (by kernel_rfl) (by kernel_rfl) (by kernel_rfl) (fun _ _ _ h => h) rfl (by assumption) ?hy_48 ?re_48
      case hy_48 =>
        intro w hSw
        try dsimp only at hSw
        go_simp
        try with_reducible rfl
      simp only [Act.put, List.setIfInBounds_toArray, List.set_cons_zero, List.set_cons_succ]
      refine' held_take (i := 13) (d := some 81) (v := _) rfl rfl (by kernel_rfl) (by kernel_rfl) (by kernel_rfl) (fun _ _ _ h => h) rfl (by assumption) ?hy_49 ?re_49
      case hy_49 =>
        intro w hSw
        try dsimp only at hSw
        go_simp
        try with_reducible rfl
      simp only [Act.put, List.setIfInBounds_toArray, List.set_cons_zero, List.set_cons_succ]
      refine' held_take (i := 14) (d := some 82) (v := _) rfl rfl (by kernel_rfl) (by kernel_rfl) (by kernel_rfl) (fun _ _ _ h => h) rfl (by assumption) ?hy_50 ?re_50
      case hy_50 =>
        intro w hSw
        try dsimp only at hSw
        go_simp
        try with_reducible rfl
      simp only [Act.put, List.setIfInBounds_toArray, List.set_cons_zero, List.set_cons_succ]
      refine' held_take (i := 15) (d := some 83) (v := _) rfl rfl (by kernel_rfl) (by kernel_rfl) (by kernel_rfl) (fun _ _ _ h => h) rfl (by assumption) ?hy_51 ?re_51
      case hy_51 =>
        intro w hSw
        try dsimp only at hSw
        go_simp
        try with_reducible rfl
      simp only [Act.put, List.setIfInBounds_toArray, List.set_cons_zero, List.set_cons_succ]
      refine wpAnyH_ready (rs := [12]) (by kernel_rfl) (by simp) ?_
      refine AllReadyH.cons rfl (fun K hK => ?_) AllReadyH.nil
      go_simp
      refine (hof.out _ hD1.out).mono ?_
      rintro e w2 ⟨rfl, hb⟩
      have hD2 := Lib.hid (below_trans hD1.out hb)
      clear hb
      go_wp2_with fail
      refine hK.out _ _ ?_ (fun hHeld => ?_)
      · exact hkS.out _ hD2.out
      clear hK K
      try simp only [Act.put, List.setIfInBounds_toArray, List.set_cons_zero, List.set_cons_succ]
      refine wpAnyH_ready (rs := [16]) (by kernel_rfl) (by simp) ?_
      refine AllReadyH.cons rfl (fun K hK => ?_) AllReadyH.nil
      go_simp
      refine (hor.out _ hD2.out).mono ?_
      rintro e w3 ⟨rfl, rfl⟩
      go_wp2_with fail
      refine hK.out _ _ ?_ (fun hHeld => ?_)
      · exact hkS.out _ hD2.out
      clear hK K
      try simp only [Act.put, List.setIfInBounds_toArray, List.set_cons_zero, List.set_cons_succ]
      refine' held_take (i := 17) (d := some 85) (v := _) rfl rfl (by kernel_rfl) (by kernel_rfl) (by kernel_rfl) (fun _ _ _ h => h) rfl (by assumption) ?hy_52 ?re_52
      case hy_52 =>
        intro w hSw
        try dsimp only at hSw
        go_simp
        try with_reducible rfl
      simp only [Act.put, List.setIfInBounds_toArray, List.set_cons_zero, List.set_cons_succ]
      refine' held_take (i := 18) (d := some 86) (v := _) rfl rfl (by kernel_rfl) (by kernel_rfl) (by kernel_rfl) (fun _ _ _ h => h) rfl (by assumption) ?hy_53 ?re_53
      case hy_53 =>
        intro w hSw
        try dsimp only at hSw
        go_simp
        try with_reducible rfl
      simp only [Act.put, List.setIfInBounds_toArray, List.set_cons_zero, List.set_cons_succ]
      refine' held_take (i := 19) (d := some 87) (v := _) rfl rfl (by kernel_rfl) (by kernel_rfl) (by kernel_rfl) (fun _ _ _ h => h) rfl (by assumption) ?hy_54 ?re_54
      case hy_54 =>
        intro w hSw
        try dsimp only at hSw
        go_simp
        try with_reducible rfl
      simp only [Act.put, List.setIfInBounds_toArray, List.set_cons_zero, List.set_cons_succ]
      refine' held_take (i := 20) (d := some 88) (v := _) rfl rfl (by kernel_rfl) (by kernel_rfl) (by kernel_rfl) (fun _ _ _ h => h) rfl (by assumption) ?hy_55 ?re_55
      case hy_55 =>
        intro w hSw
        try dsimp only at hSw
        go_simp
        try with_reducible rfl
      simp only [Act.put, List.setIfInBounds_toArray, List.set_cons_zero, List.set_cons_succ]
      refine' held_take (i := 21) (d := some 89) (v := _) rfl rfl (by kernel_rfl) (by kernel_rfl) (by kernel_rfl) (fun _ _ _ h => h) rfl (by assumption) ?hy_56 ?re_56
      case hy_56 =>
        intro w hSw
        try dsimp only at hSw
        go_simp
        try with_reducible rfl
      simp only [Act.put, List.setIfInBounds_toArray, List.set_cons_zero, List.set_cons_succ]
      refine' held_take (i := 22) (d := some 90) (v := _) rfl rfl (by kernel_rfl) (by kernel_rfl) (by kernel_rfl) (fun _ _ _ h => h) rfl (by assumption) ?hy_57 ?re_57
      case hy_57 =>
        intro w hSw
        try dsimp only at hSw
        go_simp
        try with_reducible rfl
      simp only [Act.put, List.setIfInBounds_toArray, List.set_cons_zero, List.set_cons_succ]
      refine' held_take (i := 23) (d := some 91) (v := _) rfl rfl (by kernel_rfl) (by kernel_rfl) (by kernel_rfl) (fun _ _ _ h => h) rfl (by assumption) ?hy_58 ?re_58
      case hy_58 =>
        intro w hSw
        try dsimp only at hSw
        go_simp
        try with_reducible rfl
      simp only [Act.put, List.setIfInBounds_toArray, List.set_cons_zero, List.set_cons_succ]
      refine' held_take (i := 24) (d := some 92) (v := _) rfl rfl (by kernel_rfl) (by kernel_rfl) (by kernel_rfl) (fun _ _ _ h => h) rfl (by assumption) ?hy_59 ?re_59
      case hy_59 =>
        intro w hSw
        try dsimp only at hSw
        go_simp
        try with_reducible rfl
      simp only [Act.put, List.setIfInBounds_toArray, List.set_cons_zero, List.set_cons_succ]
      refine' held_take (i := 26) (d := some 94) (v := _) rfl rfl (by kernel_rfl) (by kernel_rfl) (by kernel_rfl) (fun _ _ _ h => h) rfl (by assumption) ?hy_60 ?re_60
      case hy_60 =>
        intro w hSw
        try dsimp only at hSw
        go_simp
        try with_reducible rfl
      simp only [Act.put, List.setIfInBounds_toArray, List.set_cons_zero, List.set_cons_succ]
      refine' held_take (i := 27) (d := some 95) (v := _) rfl rfl (by kernel_rfl) (by kernel_rfl) (by kernel_rfl) (fun _ _ _ h => h) rfl (by assumption) ?hy_61 ?re_61
      case hy_61 =>
        intro w hSw
        try dsimp only at hSw
        go_simp
        try with_reducible rfl
      simp only [Act.put, List.setIfInBounds_toArray, List.set_cons_zero, List.set_cons_succ]
      refine' held_take (i := 28) (d := some 96) (v := _) rfl rfl (by kernel_rfl) (by kernel_rfl) (by kernel_rfl) (fun _ _ _ h => h) rfl (by assumption) ?hy_62 ?re_62
      case hy_62 =>
        intro w hSw
        try dsimp only at hSw
        go_simp
        try with_reducible rfl
      simp only [Act.put, List.setIfInBounds_toArray, List.set_cons_zero, List.set_cons_succ]
      refine' held_take (i := 29) (d := some 97) (v := _) rfl rfl (by kernel_rfl) (by kernel_rfl) (by kernel_rfl) (fun _ _ _ h => h) rfl (by assumption) ?hy_63 ?re_63
      case hy_63 =>
        intro w hSw
        try dsimp only at hSw
        go_simp
        try with_reducible rfl
      simp only [Act.put, List.setIfInBounds_toArray, List.set_cons_zero, List.set_cons_succ]
      refine' held_take (i := 30) (d := some 98) (v := _) rfl rfl (by kernel_rfl) (by kernel_rfl) (by kernel_rfl) (fun _ _ _ h => h) rfl (by assumption) ?hy_64 ?re_64
      case hy_64 =>
        intro w hSw
        try dsimp only at hSw
        go_simp
        try with_reducible rfl
      simp only [Act.put, List.setIfInBounds_toArray, List.set_cons_zero, List.set_cons_succ]
      refine wpAnyH_ready (rs := [25]) (by kernel_rfl) (by simp) ?_
      refine AllReadyH.cons rfl (fun K hK => ?_) AllReadyH.nil
      go_simp
      refine (hpa.out _ hD2.out).mono ?_
      rintro e w3 ⟨rfl, hb⟩
      have hD3 := Lib.hid (below_trans hD2.out hb)
      clear hb
      go_wp2_with fail
      refine hK.out _ _ ?_ (fun hHeld => ?_)
      · exact hkS.out _ hD3.out
      clear hK K
      try simp only [Act.put, List.setIfInBounds_toArray, List.set_cons_zero, List.set_cons_succ]
      refine wpAnyH_ready (rs := [31]) (by kernel_rfl) (by simp) ?_
      refine AllReadyH.cons rfl (fun K hK => ?_) AllReadyH.nil
      go_simp
      refine (hor.out _ hD3.out).mono ?_
      rintro e w3 ⟨rfl, rfl⟩
      go_wp2_with fail
      refine hK.out _ _ ?_ (fun hHeld => ?_)
      · exact hkS.out _ hD3.out
      clear hK K
      try simp only [Act.put, List.setIfInBounds_toArray, List.set_cons_zero, List.set_cons_succ]
      refine' held_take (i := 32) (d := some 100) (v := _) rfl rfl (by kernel_rfl) (by kernel_rfl) (by kernel_rfl) (fun _ _ _ h => h) rfl (by assumption) ?hy_65 ?re_65
      case hy_65 =>
        intro w hSw
        try dsimp only at hSw
        go_simp
        try with_reducible rfl
      simp only [Act.put, List.setIfInBounds_toArray, List.set_cons_zero, List.set_cons_succ]
      refine' held_take (i := 33) (d := some 101) (v := _) rfl rfl (by kernel_rfl) (by kernel_rfl) (by kernel_rfl) (fun _ _ _ h => h) rfl (by assumption) ?hy_66 ?re_66
      case hy_66 =>
        intro w hSw
        try dsimp only at hSw
        go_simp
        try with_reducible rfl
      simp only [Act.put, List.setIfInBounds_toArray, List.set_cons_zero, List.set_cons_succ]
      refine' held_take (i := 34) (d := some 102) (v := _) rfl rfl (by kernel_rfl) (by kernel_rfl) (by kernel_rfl) (fun _ _ _ h => h) rfl (by assumption) ?hy_67 ?re_67
      case hy_67 =>
        intro w hSw
        try dsimp only at hSw
        go_simp
        try with_reducible rfl
      simp only [Act.put, List.setIfInBounds_toArray, List.set_cons_zero, List.set_cons_succ]
      refine' held_take (i := 35) (d := some 103) (v := _) rfl rfl (by kernel_rfl) (by kernel_rfl) (by kernel_rfl) (fun _ _ _ h => h) rfl (by assumption) ?hy_68 ?re_68
      case hy_68 =>
        intro w hSw
        try dsimp only at hSw
        go_simp
        try with_reducible rfl
      simp only [Act.put, List.setIfInBounds_toArray, List.set_cons_zero, List.set_cons_succ]
      refine wpAnyH_done (by kernel_rfl) ?_ _
      refine NoPanic.normal ?_
      go_wp2_with fail
      go_meet
      exact ⟨rfl, hD3⟩
    · have hz0 := hz2.out hz
      have hz3 : (zi == 0) = false := by rw [beq_eq_false_iff_ne]; omega
      have hz4 : ¬ zi = 0 := by omega
      clear hz
      refine wp_region_noPanic ?_
      refine wp_region_held_drew (S := fun wx => (wx.cell? ⟨g, 0, none⟩ = some (.int .i64 zi) ∧ wx.cell? ⟨g, 1, none⟩ = some (.int .i64 ta)) ∧ wx.cell? ⟨w.heap.size, 0, none⟩ = some (.string (bs fw)) ∧ wx.cell? ⟨w.heap.size, 1, none⟩ = some (.int .i64 fe)) (by kernel_rfl) ?_ (fun hHeld => ?_)
      · exact hkS.out _ hD0.out
      refine' held_take (i := 0) (d := some 68) (v := _) rfl rfl (by kernel_rfl) (by kernel_rfl) (by kernel_rfl) (fun _ _ _ h => h) rfl (by assumption) ?hy_33 ?re_33
      case hy_33 =>
        intro w hSw
        try dsimp only at hSw
        go_simp
        try with_reducible rfl
      simp only [Act.put, List.setIfInBounds_toArray, List.set_cons_zero, List.set_cons_succ]
      refine' held_take (i := 1) (d := some 69) (v := _) rfl rfl (by kernel_rfl) (by kernel_rfl) (by kernel_rfl) (fun _ _ _ h => h) rfl (by assumption) ?hy_34 ?re_34
      case hy_34 =>
        intro w hSw
        try dsimp only at hSw
        go_simp
        try with_reducible rfl
      simp only [Act.put, List.setIfInBounds_toArray, List.set_cons_zero, List.set_cons_succ]
      refine' held_take (i := 2) (d := some 70) (v := _) rfl rfl (by kernel_rfl) (by kernel_rfl) (by kernel_rfl) (fun _ _ _ h => h) rfl (by assumption) ?hy_35 ?re_35
      case hy_35 =>
        intro w hSw
        try dsimp only at hSw
        go_simp
        try with_reducible rfl
      simp only [Act.put, List.setIfInBounds_toArray, List.set_cons_zero, List.set_cons_succ]
      refine' held_take (i := 3) (d := some 71) (v := _) rfl rfl (by kernel_rfl) (by kernel_rfl) (by kernel_rfl) (fun _ _ _ h => h) rfl (by assumption) ?hy_36 ?re_36
      case hy_36 =>
        intro w hSw
        try dsimp only at hSw
        go_simp
        try with_reducible rfl
      simp only [Act.put, List.setIfInBounds_toArray, List.set_cons_zero, List.set_cons_succ]
      refine held_skip (i := 4) (d := some 72) rfl rfl (by kernel_rfl) (by kernel_rfl) (by kernel_rfl) (fun _ _ _ h => h) rfl (by assumption) ?_
      simp only [Act.put, List.setIfInBounds_toArray, List.set_cons_zero, List.set_cons_succ]
      refine held_skip (i := 5) (d := some 73) rfl rfl (by kernel_rfl) (by kernel_rfl) (by kernel_rfl) (fun _ _ _ h => h) rfl (by assumption) ?_
      simp only [Act.put, List.setIfInBounds_toArray, List.set_cons_zero, List.set_cons_succ]
      refine held_skip (i := 6) (d := some 74) rfl rfl (by kernel_rfl) (by kernel_rfl) (by kernel_rfl) (fun _ _ _ h => h) rfl (by assumption) ?_
      simp only [Act.put, List.setIfInBounds_toArray, List.set_cons_zero, List.set_cons_succ]
      refine held_skip (i := 7) (d := some 75) rfl rfl (by kernel_rfl) (by kernel_rfl) (by kernel_rfl) (fun _ _ _ h => h) rfl (by assumption) ?_
      simp only [Act.put, List.setIfInBounds_toArray, List.set_cons_zero, List.set_cons_succ]
      refine held_skip (i := 8) (d := some 76) rfl rfl (by kernel_rfl) (by kernel_rfl) (by kernel_rfl) (fun _ _ _ h => h) rfl (by assumption) ?_
      simp only [Act.put, List.setIfInBounds_toArray, List.set_cons_zero, List.set_cons_succ]
      refine held_skip (i := 9) (d := some 77) rfl rfl (by kernel_rfl) (by kernel_rfl) (by kernel_rfl) (fun _ _ _ h => h) rfl (by assumption) ?_
      simp only [Act.put, List.setIfInBounds_toArray, List.set_cons_zero, List.set_cons_succ]
      refine held_skip (i := 10) (d := some 78) rfl rfl (by kernel_rfl) (by kernel_rfl) (by kernel_rfl) (fun _ _ _ h => h) rfl (by assumption) ?_
      simp only [Act.put, List.setIfInBounds_toArray, List.set_cons_zero, List.set_cons_succ]
      refine held_skip (i := 11) (d := some 79) rfl rfl (by kernel_rfl) (by kernel_rfl) (by kernel_rfl) (fun _ _ _ h => h) rfl (by assumption) ?_
      simp only [Act.put, List.setIfInBounds_toArray, List.set_cons_zero, List.set_cons_succ]
      refine held_skip (i := 12) (d := some 80) rfl rfl (by kernel_rfl) (by kernel_rfl) (by kernel_rfl) (fun _ _ _ h => h) rfl (by assumption) ?_
      simp only [Act.put, List.setIfInBounds_toArray, List.set_cons_zero, List.set_cons_succ]
      refine held_skip (i := 13) (d := some 81) rfl rfl (by kernel_rfl) (by kernel_rfl) (by kernel_rfl) (fun _ _ _ h => h) rfl (by assumption) ?_
      simp only [Act.put, List.setIfInBounds_toArray, List.set_cons_zero, List.set_cons_succ]
      refine held_skip (i := 14) (d := some 82) rfl rfl (by kernel_rfl) (by kernel_rfl) (by kernel_rfl) (fun _ _ _ h => h) rfl (by assumption) ?_
      simp only [Act.put, List.setIfInBounds_toArray, List.set_cons_zero, List.set_cons_succ]
      refine held_skip (i := 15) (d := some 83) rfl rfl (by kernel_rfl) (by kernel_rfl) (by kernel_rfl) (fun _ _ _ h => h) rfl (by assumption) ?_
      simp only [Act.put, List.setIfInBounds_toArray, List.set_cons_zero, List.set_cons_succ]
      refine held_skip (i := 16) (d := some 84) rfl rfl (by kernel_rfl) (by kernel_rfl) (by kernel_rfl) (fun _ _ _ h => h) rfl (by assumption) ?_
      simp only [Act.put, List.setIfInBounds_toArray, List.set_cons_zero, List.set_cons_succ]
      refine held_skip (i := 17) (d := some 85) rfl rfl (by kernel_rfl) (by kernel_rfl) (by kernel_rfl) (fun _ _ _ h => h) rfl (by assumption) ?_
      simp only [Act.put, List.setIfInBounds_toArray, List.set_cons_zero, List.set_cons_succ]
      refine held_skip (i := 18) (d := some 86) rfl rfl (by kernel_rfl) (by kernel_rfl) (by kernel_rfl) (fun _ _ _ h => h) rfl (by assumption) ?_
      simp only [Act.put, List.setIfInBounds_toArray, List.set_cons_zero, List.set_cons_succ]
      refine held_skip (i := 19) (d := some 87) rfl rfl (by kernel_rfl) (by kernel_rfl) (by kernel_rfl) (fun _ _ _ h => h) rfl (by assumption) ?_
      simp only [Act.put, List.setIfInBounds_toArray, List.set_cons_zero, List.set_cons_succ]
      refine held_skip (i := 20) (d := some 88) rfl rfl (by kernel_rfl) (by kernel_rfl) (by kernel_rfl) (fun _ _ _ h => h) rfl (by assumption) ?_
      simp only [Act.put, List.setIfInBounds_toArray, List.set_cons_zero, List.set_cons_succ]
      refine held_skip (i := 21) (d := some 89) rfl rfl (by kernel_rfl) (by kernel_rfl) (by kernel_rfl) (fun _ _ _ h => h) rfl (by assumption) ?_
      simp only [Act.put, List.setIfInBounds_toArray, List.set_cons_zero, List.set_cons_succ]
      refine held_skip (i := 22) (d := some 90) rfl rfl (by kernel_rfl) (by kernel_rfl) (by kernel_rfl) (fun _ _ _ h => h) rfl (by assumption) ?_
      simp only [Act.put, List.setIfInBounds_toArray, List.set_cons_zero, List.set_cons_succ]
      refine held_skip (i := 23) (d := some 91) rfl rfl (by kernel_rfl) (by kernel_rfl) (by kernel_rfl) (fun _ _ _ h => h) rfl (by assumption) ?_
      simp only [Act.put, List.setIfInBounds_toArray, List.set_cons_zero, List.set_cons_succ]
      refine held_skip (i := 24) (d := some 92) rfl rfl (by kernel_rfl) (by kernel_rfl) (by kernel_rfl) (fun _ _ _ h => h) rfl (by assumption) ?_
      simp only [Act.put, List.setIfInBounds_toArray, List.set_cons_zero, List.set_cons_succ]
      refine held_skip (i := 25) (d := some 93) rfl rfl (by kernel_rfl) (by kernel_rfl) (by kernel_rfl) (fun _ _ _ h => h) rfl (by assumption) ?_
      simp only [Act.put, List.setIfInBounds_toArray, List.set_cons_zero, List.set_cons_succ]
      refine held_skip (i := 26) (d := some 94) rfl rfl (by kernel_rfl) (by kernel_rfl) (by kernel_rfl) (fun _ _ _ h => h) rfl (by assumption) ?_
      simp only [Act.put, List.setIfInBounds_toArray, List.set_cons_zero, List.set_cons_succ]
      refine held_skip (i := 27) (d := some 95) rfl rfl (by kernel_rfl) (by kernel_rfl) (by kernel_rfl) (fun _ _ _ h => h) rfl (by assumption) ?_
      simp only [Act.put, List.setIfInBounds_toArray, List.set_cons_zero, List.set_cons_succ]
      refine held_skip (i := 28) (d := some 96) rfl rfl (by kernel_rfl) (by kernel_rfl) (by kernel_rfl) (fun _ _ _ h => h) rfl (by assumption) ?_
      simp only [Act.put, List.setIfInBounds_toArray, List.set_cons_zero, List.set_cons_succ]
      refine held_skip (i := 29) (d := some 97) rfl rfl (by kernel_rfl) (by kernel_rfl) (by kernel_rfl) (fun _ _ _ h => h) rfl (by assumption) ?_
      simp only [Act.put, List.setIfInBounds_toArray, List.set_cons_zero, List.set_cons_succ]
      refine held_skip (i := 30) (d := some 98) rfl rfl (by kernel_rfl) (by kernel_rfl) (by kernel_rfl) (fun _ _ _ h => h) rfl (by assumption) ?_
      simp only [Act.put, List.setIfInBounds_toArray, List.set_cons_zero, List.set_cons_succ]
      refine held_skip (i := 31) (d := some 99) rfl rfl (by kernel_rfl) (by kernel_rfl) (by kernel_rfl) (fun _ _ _ h => h) rfl (by assumption) ?_
      simp only [Act.put, List.setIfInBounds_toArray, List.set_cons_zero, List.set_cons_succ]
      refine held_skip (i := 32) (d := some 100) rfl rfl (by kernel_rfl) (by kernel_rfl) (by kernel_rfl) (fun _ _ _ h => h) rfl (by assumption) ?_
      simp only [Act.put, List.setIfInBounds_toArray, List.set_cons_zero, List.set_cons_succ]
      refine held_skip (i := 33) (d := some 101) rfl rfl (by kernel_rfl) (by kernel_rfl) (by kernel_rfl) (fun _ _ _ h => h) rfl (by assumption) ?_
      simp only [Act.put, List.setIfInBounds_toArray, List.set_cons_zero, List.set_cons_succ]
      refine held_skip (i := 34) (d := some 102) rfl rfl (by kernel_rfl) (by kernel_rfl) (by kernel_rfl) (fun _ _ _ h => h) rfl (by assumption) ?_
      simp only [Act.put, List.setIfInBounds_toArray, List.set_cons_zero, List.set_cons_succ]
      refine' held_take (i := 35) (d := some 103) (v := _) rfl rfl (by kernel_rfl) (by kernel_rfl) (by kernel_rfl) (fun _ _ _ h => h) rfl (by assumption) ?hy_37 ?re_37
      case hy_37 =>
        intro w hSw
        try dsimp only at hSw
        go_simp
        try with_reducible rfl
      simp only [Act.put, List.setIfInBounds_toArray, List.set_cons_zero, List.set_cons_succ]
      refine wpAnyH_done (by kernel_rfl) ?_ _
      refine NoPanic.normal ?_
      go_wp2_with fail
      go_meet
      exact ⟨rfl, hD0⟩
  obtain ⟨rfl, hX8⟩ := hcut
  have hG8 := Lib.hid (hG7.out.later hX8.out)
  have hr8 := Lib.hid (RowG.below hr7.out hX8.out)
  clear hX8 hr7 hG7 hkS hD0 hbg
  generalize wc = w8 at *
  obtain ⟨q0, q1⟩ := hbxH.out _ hG8.out.below
  have hx2 := Lib.hid (show Calls Tryz.prog 14 #[.slice ao a.length co, .agg #[.string (bs fw), .int .i64 fe]] w8 _ from raise_flo (E := E) (.slice ao a.length co) a ⟨fw, fe⟩ w8 (hLw.out _ (below_trans hBH.out hG8.out.below)).s.laid (floorsAt_of (RowG.at_ hr8.out)) hmaH.out hfH.out)
  have hsR := Lib.hid (fun wx (hx : Below W.heap.size W wx) => (show Calls Tryz.prog 20 #[.slice aa a.length ca0, .agg #[.string (bs fw), .int .i64 fe]] wx _ from raiseR_flo (.slice aa a.length ca0) a ⟨fw, fe⟩ wx (floorsAt_of (hAv.out _ (below_trans hBH.out hx))) hmaH.out hfH.out))
  have hac := Lib.hid (raiseF_le a ⟨fw, fe⟩)
  obtain ⟨O, oc, oa, hS⟩ : ∃ O oc oa, raiseF a ⟨fw, fe⟩ = (O, oc, oa) := ⟨_, _, _, rfl⟩
  rw [hS] at hx2 hsR hac
  clear hS
  go_wp2_with fail
  refine hx2.out.mono ?_
  rintro e w9 ⟨⟨v9, ev9, rfl, hr9, he9⟩, hb9⟩
  have hv9 := floorsAt_of (RowG.at_ (floRow_G.1 hr9))
  clear hr9
  have hG9 := Lib.hid (hG8.out.later hb9)
  have hr9o := Lib.hid (RowG.below hr8.out hb9)
  have he9 := Lib.hid he9
  have hv9 := Lib.hid hv9
  clear q0 q1
  obtain ⟨q0, q1⟩ := hbxH.out _ hG9.out.below
  have hsR := Lib.hid (hsR.out w9 hG9.out.below)
  clear hb9 hr8 hx2 hG8
  go_wp2_with fail
  refine hsR.out.mono ?_
  rintro e w10 ⟨⟨v10, rfl, hv10⟩, hb10⟩
  have hG10 := hG9.out.later hb10
  obtain ⟨x0, y0, ⟨g0, g1⟩, f0, f1⟩ := hG10.cells
  obtain ⟨hGs, ⟨s0, s1⟩, s2⟩ := hG10.set (oc : Int) oa
  have hGs := Lib.hid hGs
  have hro := Lib.hid (hG10.row (RowG.below hr9o.out hb10) (.int .i64 (oc : Int)) (.int .i64 oa))
  have hrx := Lib.hid (show FloorsAt _ v9 O ∧ FloorsAt _ v10 O from ⟨hG10.flo (hv9.out.below hb10) (.int .i64 (oc : Int)) (.int .i64 oa), hG10.flo hv10 (.int .i64 (oc : Int)) (.int .i64 oa)⟩)
  have hx := Lib.hid (hfa.out ev9 oc oa _ hGs.out.below (hG10.err (he9.out.below hb10) (.int .i64 (oc : Int)) (.int .i64 oa)) hac.out)
  obtain ⟨a10, c10, hs10, _⟩ := hv10
  subst hs10
  clear hb10 he9 hr9o hsR hG10 hG9 hv9
  unfold faultF
  dsimp only
  go_wp2_with fail
  generalize ((w10.setCell ⟨g, 0, none⟩ (.int .i64 (oc : Int))).setCell ⟨g, 1, none⟩ (.int .i64 oa)) = W10 at *
  refine hx.out.mono ?_
  rintro e w11 ⟨rfl, hb11⟩
  have hG11 := Lib.hid (hGs.out.later hb11)
  have hr11 := Lib.hid (RowG.below hro.out hb11)
  have hx4 := Lib.hid (samef_flo _ _ O w11 (hrx.out.1.below hb11) (hrx.out.2.below hb11))
  clear hb11 hro hrx hGs hx s0 s1 s2 g0 g1 f0 f1
  go_wp2_with fail
  refine hx4.out.mono ?_
  rintro e w12 ⟨rfl, hb12⟩
  have hG12 := Lib.hid (hG11.out.later hb12)
  have hr12 := Lib.hid (RowG.below hr11.out hb12)
  clear hb12 hx4 hr11 hG11 hac
  have hob := Lib.hid (own_flo _ b w12 (hBv.out _ (below_trans hBH.out hG12.out.below)) (by omega))
  clear q0 q1
  go_wp2_with fail
  refine hob.out.mono ?_
  rintro e w13 ⟨v13, rfl, hr13b, hb13⟩
  have hG13 := Lib.hid (hG12.out.later hb13)
  have hr13 := Lib.hid (RowG.below hr12.out hb13)
  have hr13b := Lib.hid (floRow_G.1 hr13b)
  obtain ⟨a13, c13, hs13⟩ := RowG.sl hr13b.out
  subst hs13
  clear hb13 hr12 hG12 hob
  have hx2 := Lib.hid (join_flo (E := E) (.slice ao a.length co) (.slice a13 b.length c13) a b w13 (hLw.out _ (below_trans hBH.out hG13.out.below)).s.laid (RowG.at_ hr13.out) (RowG.at_ hr13b.out) hmaH.out hmbH.out)
  have hsR := Lib.hid (fun wx (hx : Below W.heap.size W wx) => joinR_flo (.slice aa a.length ca0) (.slice ab b.length cb0) a b wx (floorsAt_of (hAv.out _ (below_trans hBH.out hx))) (floorsAt_of (hBv.out _ (below_trans hBH.out hx))) hmaH.out hmbH.out)
  clear hr13b
  go_wp2_with fail
  refine hx2.out.mono ?_
  rintro e w14 ⟨⟨r, ev14, v14, hJ, rfl, hr14, he14⟩, hb14⟩
  have hv14 := floorsAt_of (RowG.at_ (floRow_G.1 hr14))
  have hac := Lib.hid (joinF_le hJ)
  have hJ := Lib.hid hJ
  obtain ⟨O, oc, oa⟩ := r
  dsimp only at hv14 he14 hac
  clear hr14
  have hG14 := Lib.hid (hG13.out.later hb14)
  have hr14o := Lib.hid (RowG.below hr13.out hb14)
  have he14 := Lib.hid he14
  have hv14 := Lib.hid hv14
  have hsR := Lib.hid (hsR.out w14 hG14.out.below)
  clear hb14 hr13 hx2 hG13
  go_wp2_with fail
  refine hsR.out.mono ?_
  rintro e w15 ⟨⟨r2, v15, hJ2, rfl, hv15⟩, hb15⟩
  obtain rfl := hJ.out.one_ans hJ2
  clear hJ2
  have hG15 := hG14.out.later hb15
  obtain ⟨x0, y0, ⟨g0, g1⟩, f0, f1⟩ := hG15.cells
  obtain ⟨hGs, ⟨s0, s1⟩, s2⟩ := hG15.set (oc : Int) oa
  have hGs := Lib.hid hGs
  have hro := Lib.hid (hG15.row (RowG.below hr14o.out hb15) (.int .i64 (oc : Int)) (.int .i64 oa))
  have hrx := Lib.hid (show FloorsAt _ v14 O ∧ FloorsAt _ v15 O from ⟨hG15.flo (hv14.out.below hb15) (.int .i64 (oc : Int)) (.int .i64 oa), hG15.flo hv15 (.int .i64 (oc : Int)) (.int .i64 oa)⟩)
  have hx := Lib.hid (hfa.out ev14 oc oa _ hGs.out.below (hG15.err (he14.out.below hb15) (.int .i64 (oc : Int)) (.int .i64 oa)) hac.out)
  obtain ⟨a15, c15, hs15, _⟩ := hv15
  subst hs15
  clear hb15 he14 hr14o hsR hG15 hG14 hv14
  unfold faultF
  dsimp only
  go_wp2_with fail
  generalize ((w15.setCell ⟨g, 0, none⟩ (.int .i64 (oc : Int))).setCell ⟨g, 1, none⟩ (.int .i64 oa)) = W15 at *
  refine hx.out.mono ?_
  rintro e w16 ⟨rfl, hb16⟩
  have hG16 := Lib.hid (hGs.out.later hb16)
  have hr16 := Lib.hid (RowG.below hro.out hb16)
  have hx4 := Lib.hid (samef_flo _ _ O w16 (hrx.out.1.below hb16) (hrx.out.2.below hb16))
  clear hb16 hro hrx hGs hx s0 s1 s2 g0 g1 f0 f1
  go_wp2_with fail
  refine hx4.out.mono ?_
  rintro e w17 ⟨rfl, hb17⟩
  have hG17 := Lib.hid (hG16.out.later hb17)
  have hr17 := Lib.hid (RowG.below hr16.out hb17)
  clear hb17 hx4 hr16 hG16 hac
  have hx2 := read_any (E := E) (bs s) w17 (hLw.out _ (below_trans hBH.out hG17.out.below)).s hs400.out
  have hsR := fun wx (_ : Below W.heap.size W wx) => readR_any (bs s) wx hs400.out
  have hac := readF_le (bs s).data.toList
  unfold ReadRes at hx2
  obtain ⟨O, oc, oa, hS⟩ : ∃ O oc oa, readF (bs s).data.toList = (O, oc, oa) := ⟨_, _, _, rfl⟩
  rw [hS] at hx2 hac
  simp only [hS] at hsR
  dsimp only at hx2 hac
  have hx2 := Lib.hid hx2
  have hsR := Lib.hid hsR
  have hac := Lib.hid hac
  clear hS hJ
  go_wp2_with fail
  refine hx2.out.mono ?_
  rintro e w18 ⟨⟨ev18, v18, rfl, hv18, he18⟩, hb18⟩
  have hG18 := Lib.hid (hG17.out.later hb18)
  have hr18o := Lib.hid (RowG.below hr17.out hb18)
  have he18 := Lib.hid he18
  have hv18 := Lib.hid hv18
  have hsR := Lib.hid (hsR.out w18 hG18.out.below)
  clear hb18 hr17 hx2 hG17
  go_wp2_with fail
  refine hsR.out.mono ?_
  rintro e w19 ⟨⟨v19, rfl, hv19⟩, hb19⟩
  have hG19 := hG18.out.later hb19
  obtain ⟨x0, y0, ⟨g0, g1⟩, f0, f1⟩ := hG19.cells
  obtain ⟨hGs, ⟨s0, s1⟩, s2⟩ := hG19.set (oc : Int) oa
  have hGs := Lib.hid hGs
  have hro := Lib.hid (hG19.row (RowG.below hr18o.out hb19) (.int .i64 (oc : Int)) (.int .i64 oa))
  have hrx := Lib.hid (show FloorsAt _ v18 O ∧ FloorsAt _ v19 O from ⟨hG19.flo (hv18.out.below hb19) (.int .i64 (oc : Int)) (.int .i64 oa), hG19.flo hv19 (.int .i64 (oc : Int)) (.int .i64 oa)⟩)
  have hx := Lib.hid (hfa.out ev18 oc oa _ hGs.out.below (hG19.err (he18.out.below hb19) (.int .i64 (oc : Int)) (.int .i64 oa)) hac.out)
  obtain ⟨a19, c19, hs19, _⟩ := hv19
  subst hs19
  clear hb19 he18 hr18o hsR hG19 hG18 hv18
  unfold faultF
  dsimp only
  go_wp2_with fail
  generalize ((w19.setCell ⟨g, 0, none⟩ (.int .i64 (oc : Int))).setCell ⟨g, 1, none⟩ (.int .i64 oa)) = W19 at *
  refine hx.out.mono ?_
  rintro e w20 ⟨rfl, hb20⟩
  have hG20 := Lib.hid (hGs.out.later hb20)
  have hr20 := Lib.hid (RowG.below hro.out hb20)
  have hx4 := Lib.hid (samef_flo _ _ O w20 (hrx.out.1.below hb20) (hrx.out.2.below hb20))
  clear hb20 hro hrx hGs hx s0 s1 s2 g0 g1 f0 f1
  go_wp2_with fail
  refine hx4.out.mono ?_
  rintro e w21 ⟨rfl, hb21⟩
  have hG21 := Lib.hid (hG20.out.later hb21)
  have hr21 := Lib.hid (RowG.below hr20.out hb21)
  clear hb21 hx4 hr20 hG20 hac
  have hx2 := Lib.hid (sum_flo (E := E) (.slice ao a.length co) a w21 (hLw.out _ (below_trans hBH.out hG21.out.below)).s (floorsAt_of (RowG.at_ hr21.out)) hmaH.out)
  have hsR := Lib.hid (fun wx (hx : Below W.heap.size W wx) => sumR_flo (.slice aa a.length ca0) a wx (floorsAt_of (hAv.out _ (below_trans hBH.out hx))) hmaH.out)
  go_wp2_with fail
  refine hx2.out.mono ?_
  rintro e w22 ⟨rfl, hb22⟩
  have hG22 := Lib.hid (hG21.out.later hb22)
  have hr22 := Lib.hid (RowG.below hr21.out hb22)
  clear hb22 hr21 hx2 hG21
  go_wp2_with fail
  refine (hsR.out _ hG22.out.below).mono ?_
  rintro e w23 ⟨rfl, hb23⟩
  have hG23 := Lib.hid (hG22.out.later hb23)
  have hx4 := Lib.hid (samef_flo _ _ a w23 (floorsAt_of (RowG.at_ (RowG.below hr22.out hb23))) (floorsAt_of (hAv.out _ (below_trans hBH.out hG23.out.below))))
  clear hb23 hr22 hsR hG22
  go_wp2_with fail
  refine hx4.out.mono ?_
  rintro e w24 ⟨rfl, hb24⟩
  have hfin := Lib.hid (below_trans hBH.out (hG23.out.later hb24).below)
  clear hb24
  go_wp2_with fail
  go_ret
  exact ⟨rfl, hfin.out⟩
end Go.Proofs.YtcnadjdijolboaaGreatDoor
