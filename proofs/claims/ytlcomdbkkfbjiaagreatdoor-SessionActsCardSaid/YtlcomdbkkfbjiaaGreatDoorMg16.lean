/- RefD3 -/
import Derived.Test.YtlcomdbkkfbjiaaGreatDoorMg15
/- The reference's desk: Open: walked. -/
namespace Go.Proofs.YtlcomdbkkfbjiaaGreatDoor
open Go.RowKit Go.Maps

theorem open_ne_desk : (70 : TypeId) ≠ 30 := by decide
theorem DRef.row_ne {w : World} {base b : Nat} {many : Int} {L : List Ses} {v : Value} (h : DRef w base b many L) (hv : w.cell? ⟨b, 1, none⟩ = some v) (ho : RowG sesC w base 70 v L) : ∀ g, v.ownBlock = some g → g ≠ b := by
  rintro g hg rfl
  obtain ⟨_, cs, h1⟩ := ho.block hg
  obtain ⟨_, u, hb, _⟩ := h
  rw [h1] at hb
  injection hb with hb
  injection hb with _ hb _
  exact open_ne_desk hb
set_option maxHeartbeats 4000000 in
set_option maxRecDepth 100000 in
theorem openR_desk (base b : Nat) (many : Int) (L : List Ses) (t : Tick) (now : Int) (w : World) (hB : DRef w base b many L) (h40 : L.length ≤ 40) (hm0 : 0 ≤ many) (hm1 : many ≤ 1000000) (hl : TickLen t) (hbs : base ≤ w.heap.size) :
    Calls Tryz.prog 8 #[.pointer (some ⟨b, 0, none⟩), t.val, .int .i64 now] w fun e w' => e = .returned (.tuple #[.int .i64 (openS (many + 1) L t now).1.1, .int .i64 ((openS (many + 1) L t now).1.2 : Nat)]) ∧ Keeps (DRefS base w) w w' ∧ DRef w' base b ((openS (many + 1) L t now).2.1 - 1) (openS (many + 1) L t now).2.2 := by
  have hA : Below w.heap.size w (w.alloc (.cells t.cells 32)) := (Below.refl _ _).alloc (Nat.le_refl _) _
  have hrow := Lib.hid (heap_alloc_new w (.cells t.cells 32))
  have hgt := goodR_tick t now (w.alloc (.cells t.cells 32)) hl
  have hop : openS (many + 1) L t now = if goodT t now ≠ 0 then ((0, goodT t now), (many + 1, L)) else if 40 ≤ L.length then ((0, 7), (many + 1, L)) else ((many + 1, 0), (many + 1 + 1, L ++ [⟨many + 1, t⟩])) := rfl
  have hBH := Lib.hid hB
  obtain ⟨c0, hfz, v, c1, hown⟩ := hB.at0
  obtain ⟨a, c, rfl, hml, _⟩ := opensAt_of_row (by unfold maxLen; omega) hown
  have hne := hB.row_ne c1 (sesRow_G.1 hown)
  have hownG := Lib.hid (sesRow_G.1 hown)
  have hneH := Lib.hid hne
  have hblt := hB.lt
  have hge := hB.ge
  have hfzH := Lib.hid hfz
  have hAH := Lib.hid hA
  have hman : many + 1 - 1 = many := by omega
  have hmanH := Lib.hid hman
  generalize goodT t now = cd at *
  obtain ⟨who, svc, ep, bg, fn, sr⟩ := t
  dsimp only [Tick.val, Tick.cells] at *
  clear hown hfz hne hman hA hB
  cases cd with
  | succ cd =>
    have hr := Lib.hid (hop.trans (if_pos (Nat.succ_ne_zero cd)))
    have hz1 : (0 : Int) < ((cd + 1 : Nat) : Int) := by omega
    generalize hzd : ((cd + 1 : Nat) : Int) = z at hgt hz1
    have hzdH := Lib.hid hzd
    have hgtH := Lib.hid hgt
    clear hop hzd hgt
    go_enter Tryz.func8, Tryz.ntmps8
    go_wp2_with fail
    refine hgtH.out.mono ?_
    rintro e w1 ⟨rfl, hb⟩
    have hb := Lib.hid (below_trans hAH.out hb)
    go_wp2_with fail
    go_ret2
    exact ⟨by rw [hr.out]; dsimp only; rw [hzdH.out]; rfl, Keeps.of_below hb.out, by rw [hr.out]; dsimp only; rw [hmanH.out]; exact hBH.out.below hb.out⟩
  | zero =>
  have hopH := Lib.hid (hop.trans (if_neg (by simp)))
  have hgtH := Lib.hid hgt
  have c1H := Lib.hid c1
  have c0H := Lib.hid c0
  clear hop hgt c1 c0
  go_enter Tryz.func8, Tryz.ntmps8
  go_wp2_with fail
  refine hgtH.out.mono ?_
  rintro e w1 ⟨rfl, hb⟩
  have hrow1 := heap_below hb hrow.out
  have hb1 := below_trans hAH.out hb
  have c1 := cell_below hb1 c1H.out
  have c0 := cell_below hb1 c0H.out
  have hf0 := (hb1.frozen (p := ⟨b, 0, none⟩) hblt).trans (hfzH.out 0)
  have hb1H := Lib.hid hb1
  by_cases h40b : 40 ≤ L.length
  · have hr := Lib.hid (hopH.out.trans (if_pos h40b))
    have h40i : (40 : Int) ≤ (L.length : Int) := by omega
    clear hrow1 hb hb1 h40b
    go_wp2_with fail
    go_ret2
    exact ⟨by rw [hr.out]; rfl, Keeps.of_below hb1H.out, by rw [hr.out]; dsimp only; rw [hmanH.out]; exact hBH.out.below hb1H.out⟩
  have hr := Lib.hid (hopH.out.trans (if_neg h40b))
  have h40i : ¬ (40 : Int) ≤ (L.length : Int) := by omega
  have hs2 := IntWalk.i64_in (many + 1) (by omega)
  have hB1 := hBH.out.below hb1
  have hboxne : w.heap.size ≠ b := by omega
  have hb1s := hb1.size
  have hboxlt : w.heap.size < w1.heap.size := (Array.getElem?_eq_some_iff.1 hrow1).1
  have hown1 : RowG sesC (w1.setCell ⟨b, 0, none⟩ (.int .i64 (many + 1))) base 70 (.slice a L.length c) L := (hownG.out.below hb1).other _ _ hneH.out
  obtain ⟨_, u1, hbk1, _⟩ := hB1
  have hu1 : u1 = .slice a L.length c := by
    have := cell_of_row w1 b 1 _ _ _ hbk1
    rw [c1] at this
    simpa using this.symm
  subst hu1
  have hbk2 : (w1.setCell ⟨b, 0, none⟩ (.int .i64 (many + 1))).heap[b]? = some (.cells #[.int .i64 (many + 1), .slice a L.length c] 30 (0, 0)) := heap_setCell_same w1 b 0 _ _ _ hbk1
  have hrow2 : (w1.setCell ⟨b, 0, none⟩ (.int .i64 (many + 1))).heap[w.heap.size]? = some (.cells #[.string (bs who), .string (bs svc), .int .i64 ep, .int .i64 bg, .int .i64 fn, .int .i64 sr] 32 (0, 0)) := (heap_setCell_other w1 ⟨b, 0, none⟩ _ _ hboxne).trans hrow1
  have hk2 : Keeps (DRefS base w) w (w1.setCell ⟨b, 0, none⟩ (.int .i64 (many + 1))) := (Keeps.of_below hb1).trans (keeps_setCell _ _ _ (by
    obtain ⟨_, u, h, _⟩ := hBH.out
    exact ⟨hge, _, _, _, h, .inl rfl⟩))
  have hsz2 : w1.heap.size ≤ (w1.setCell ⟨b, 0, none⟩ (.int .i64 (many + 1))).heap.size := by simp [World.setCell]
  generalize hW : (w1.setCell ⟨b, 0, none⟩ (.int .i64 (many + 1))) = W at *
  have hcells : ∀ w' : World, w'.heap[b]? = W.heap[b]? → w'.heap[w.heap.size]? = W.heap[w.heap.size]? → w'.cell? ⟨b, 0, none⟩ = some (.int .i64 (many + 1)) ∧ w'.cell? ⟨w.heap.size, 0, none⟩ = some (.string (bs who)) ∧ w'.cell? ⟨w.heap.size, 1, none⟩ = some (.string (bs svc)) ∧ w'.cell? ⟨w.heap.size, 2, none⟩ = some (.int .i64 ep) ∧ w'.cell? ⟨w.heap.size, 3, none⟩ = some (.int .i64 bg) ∧ w'.cell? ⟨w.heap.size, 4, none⟩ = some (.int .i64 fn) ∧ w'.cell? ⟨w.heap.size, 5, none⟩ = some (.int .i64 sr) := fun w' h1 h2 => by
    have e1 := h1.trans hbk2
    have e2 := h2.trans hrow2
    refine ⟨?_, ?_, ?_, ?_, ?_, ?_, ?_⟩
    · rw [cell_of_row _ _ _ _ _ _ e1]; rfl
    all_goals (rw [cell_of_row _ _ _ _ _ _ e2]; rfl)
  have hgrowE : ∀ (o : Obj) (w' : World), (W.drew.alloc o).grownBy w' (Value.slice a L.length c).ownBlock → w'.heap[b]? = W.heap[b]? ∧ w'.heap[w.heap.size]? = W.heap[w.heap.size]? := fun o w' hg => by
    have hnb : some b ≠ (Value.slice a L.length c).ownBlock := fun e => hneH.out b e.symm rfl
    have hnx : some w.heap.size ≠ (Value.slice a L.length c).ownBlock := fun e => by
      obtain ⟨_, cs, h⟩ := hown1.block e.symm
      rw [hrow2] at h
      injection h with h
      injection h with _ h _
      revert h
      decide
    have hbl : b < W.heap.size := by omega
    have hwl : w.heap.size < W.heap.size := by omega
    exact ⟨(hg.block b (by rw [World.size_alloc]; exact Nat.lt_succ_of_lt hbl) hnb).trans (Below.heap_alloc W.drew o b hbl), (hg.block _ (by rw [World.size_alloc]; exact Nat.lt_succ_of_lt hwl) hnx).trans (Below.heap_alloc W.drew o _ hwl)⟩
  have hW0 := Lib.hid (hcells W.drew rfl rfl)
  have hkA := Lib.hid (fun (o : Obj) => hcells (W.drew.alloc o) (Below.heap_alloc W.drew o b (show b < W.heap.size by omega)) (Below.heap_alloc W.drew o _ (show w.heap.size < W.heap.size by omega)))
  have hkB := Lib.hid (fun (o : Obj) (w' : World) hg => hcells w' (hgrowE o w' hg).1 (hgrowE o w' hg).2)
  have hkC := Lib.hid (fun (w' : World) (u : Value) (h : w'.cell? ⟨b, 0, none⟩ = some (.int .i64 (many + 1)) ∧ w'.cell? ⟨w.heap.size, 0, none⟩ = some (.string (bs who)) ∧ w'.cell? ⟨w.heap.size, 1, none⟩ = some (.string (bs svc)) ∧ w'.cell? ⟨w.heap.size, 2, none⟩ = some (.int .i64 ep) ∧ w'.cell? ⟨w.heap.size, 3, none⟩ = some (.int .i64 bg) ∧ w'.cell? ⟨w.heap.size, 4, none⟩ = some (.int .i64 fn) ∧ w'.cell? ⟨w.heap.size, 5, none⟩ = some (.int .i64 sr)) =>
    (show (w'.setCell ⟨b, 1, none⟩ u).cell? ⟨b, 0, none⟩ = some (.int .i64 (many + 1)) ∧ (w'.setCell ⟨b, 1, none⟩ u).cell? ⟨w.heap.size, 0, none⟩ = some (.string (bs who)) ∧ (w'.setCell ⟨b, 1, none⟩ u).cell? ⟨w.heap.size, 1, none⟩ = some (.string (bs svc)) ∧ (w'.setCell ⟨b, 1, none⟩ u).cell? ⟨w.heap.size, 2, none⟩ = some (.int .i64 ep) ∧ (w'.setCell ⟨b, 1, none⟩ u).cell? ⟨w.heap.size, 3, none⟩ = some (.int .i64 bg) ∧ (w'.setCell ⟨b, 1, none⟩ u).cell? ⟨w.heap.size, 4, none⟩ = some (.int .i64 fn) ∧ (w'.setCell ⟨b, 1, none⟩ u).cell? ⟨w.heap.size, 5, none⟩ = some (.int .i64 sr) from by
      obtain ⟨h0, h1, h2, h3, h4, h5, h6⟩ := h
      have key : ∀ (p : Addr), p ≠ ⟨b, 1, none⟩ → (w'.setCell ⟨b, 1, none⟩ u).cell? p = w'.cell? p := fun p hp => World.cell?_setCell_other w' ⟨b, 1, none⟩ p u (Ne.symm hp)
      have hx : ∀ j, (⟨w.heap.size, j, none⟩ : Addr) ≠ ⟨b, 1, none⟩ := fun j e => hboxne (by injection e)
      exact ⟨(key _ (fun e => by injection e with _ e _; cases e)).trans h0, (key _ (hx _)).trans h1, (key _ (hx _)).trans h2, (key _ (hx _)).trans h3, (key _ (hx _)).trans h4, (key _ (hx _)).trans h5, (key _ (hx _)).trans h6⟩))
  have hfzB := Lib.hid (fun (o : Obj) (w' : World) hg => (show w'.frozen? ⟨b, 1, none⟩ = false ∧ w'.cell? ⟨b, 1, none⟩ = some (.slice a L.length c) from ⟨frozen_of_row _ _ _ _ _ ((hgrowE o w' hg).1.trans hbk2), by rw [cell_of_row _ _ _ _ _ _ ((hgrowE o w' hg).1.trans hbk2)]; rfl⟩))
  have hfinal := Lib.hid (fun (o : Obj) (v' : Value) (w' : World) (ho : RowG sesC w' base 70 v' (L ++ [(⟨many + 1, ⟨who, svc, ep, bg, fn, sr⟩⟩ : Ses)])) (hg : (W.drew.alloc o).grownBy w' (Value.slice a L.length c).ownBlock) =>
    (show Keeps (DRefS base w) w (w'.setCell ⟨b, 1, none⟩ v') ∧ DRef (w'.setCell ⟨b, 1, none⟩ v') base b (many + 1 + 1 - 1) (L ++ [(⟨many + 1, ⟨who, svc, ep, bg, fn, sr⟩⟩ : Ses)]) from by
      have hbk6 := (hgrowE o w' hg).1.trans hbk2
      have hrowblk : ∀ g, (Value.slice a L.length c).ownBlock = some g → DRefS base w g := fun g hg' => by
        obtain ⟨h1, cs, h2⟩ := hownG.out.block hg'
        exact ⟨h1, _, _, _, h2, .inr rfl⟩
      have hbS : DRefS base w b := by
        obtain ⟨_, u, h, _⟩ := hBH.out
        exact ⟨hge, _, _, _, h, .inl rfl⟩
      have hk3 : Keeps (DRefS base w) w w' := ⟨(hg.os.trans rfl).trans hk2.os, (hg.tape.trans rfl).trans hk2.tape, (hg.output.trans rfl).trans hk2.output, by have := hg.size; have := hk2.size; rw [World.size_alloc] at *; exact Nat.le_trans hk2.size (by have h5 : W.drew.heap.size = W.heap.size := rfl; omega), fun k hk hs => by
        have hkW : k < W.heap.size := Nat.lt_of_lt_of_le hk hk2.size
        have e1 := hg.block k (by rw [World.size_alloc]; exact Nat.lt_succ_of_lt hkW) (fun e => hs (hrowblk k e.symm))
        exact (e1.trans (Below.heap_alloc W.drew o k hkW)).trans (hk2.block k hk hs)⟩
      have hne6 : ∀ g, v'.ownBlock = some g → g ≠ b := fun g hg' e => by
        obtain ⟨_, cs, h1⟩ := ho.block hg'
        rw [e, hbk6] at h1
        injection h1 with h1
        injection h1 with _ h1 _
        exact open_ne_desk h1.symm
      refine ⟨hk3.trans (keeps_setCell _ _ _ hbS), hge, v', ?_, sesRow_G.2 (ho.other _ _ hne6)⟩
      rw [show many + 1 + 1 - 1 = many + 1 by omega]
      exact heap_setCell_same w' b 1 _ _ v' hbk6))
  have hrowW := Lib.hid (show RowG sesC W.drew base 70 (.slice a L.length c) L from hown1)
  have hbsW : base ≤ W.drew.heap.size := Nat.le_trans hbs (by have h5 : W.drew.heap.size = W.heap.size := rfl; omega)
  have cW1 : W.drew.cell? ⟨b, 1, none⟩ = some (.slice a L.length c) := by
    have := cell_of_row W.drew b 1 _ _ _ hbk2
    exact this
  have hcA := Lib.hid (fun (o : Obj) => (show (W.alloc o).cell? ⟨b, 1, none⟩ = some (.slice a L.length c) from by
    have h0 : (W.alloc o).heap[b]? = _ := (Below.heap_alloc W o b (by omega)).trans hbk2
    rw [cell_of_row _ _ _ _ _ _ h0]
    rfl))
  have cW0 : W.drew.cell? ⟨b, 0, none⟩ = some (.int .i64 (many + 1)) := by
    have := cell_of_row W.drew b 0 _ _ _ hbk2
    exact this
  clear hcells hgrowE hown1 hbk2 hrow2 hk2 hbk1 hrow1 hb hb1 hgtH hrow
  go_upto_region 7 with fail
  try rw [hW]
  clear hW
  refine wp_region_noPanic ?_
  refine wp_region_held_drew (S := fun w' => w'.cell? ⟨b, 0, none⟩ = some (.int .i64 (many + 1)) ∧ w'.cell? ⟨w.heap.size, 0, none⟩ = some (.string (bs who)) ∧ w'.cell? ⟨w.heap.size, 1, none⟩ = some (.string (bs svc)) ∧ w'.cell? ⟨w.heap.size, 2, none⟩ = some (.int .i64 ep) ∧ w'.cell? ⟨w.heap.size, 3, none⟩ = some (.int .i64 bg) ∧ w'.cell? ⟨w.heap.size, 4, none⟩ = some (.int .i64 fn) ∧ w'.cell? ⟨w.heap.size, 5, none⟩ = some (.int .i64 sr)) (by kernel_rfl) ?_ (fun hHeld => ?_)
  · exact hW0.out
  refine' held_take (i := 0) (d := some 28) (v := _) rfl rfl (by kernel_rfl) (by kernel_rfl) (by kernel_rfl) (fun _ _ _ h => h) rfl (by assumption) ?hy_1 ?re_1
  case hy_1 =>
    intro w hSw
    try dsimp only at hSw
    go_simp
    try with_reducible rfl
  simp only [Act.put, List.setIfInBounds_toArray, List.set_cons_zero, List.set_cons_succ]
  refine' held_take (i := 1) (d := some 29) (v := _) rfl rfl (by kernel_rfl) (by kernel_rfl) (by kernel_rfl) (fun _ _ _ h => h) rfl (by assumption) ?hy_2 ?re_2
  case hy_2 =>
    intro w hSw
    try dsimp only at hSw
    go_simp
    try with_reducible rfl
  simp only [Act.put, List.setIfInBounds_toArray, List.set_cons_zero, List.set_cons_succ]
  refine' held_take (i := 2) (d := some 30) (v := _) rfl rfl (by kernel_rfl) (by kernel_rfl) (by kernel_rfl) (fun _ _ _ h => h) rfl (by assumption) ?hy_3 ?re_3
  case hy_3 =>
    intro w hSw
    try dsimp only at hSw
    go_simp
    try with_reducible rfl
  simp only [Act.put, List.setIfInBounds_toArray, List.set_cons_zero, List.set_cons_succ]
  refine' held_take (i := 3) (d := some 31) (v := _) rfl rfl (by kernel_rfl) (by kernel_rfl) (by kernel_rfl) (fun _ _ _ h => h) rfl (by assumption) ?hy_4 ?re_4
  case hy_4 =>
    intro w hSw
    try dsimp only at hSw
    go_simp
    try with_reducible rfl
  simp only [Act.put, List.setIfInBounds_toArray, List.set_cons_zero, List.set_cons_succ]
  refine' held_take (i := 5) (d := some 33) (v := _) rfl rfl (by kernel_rfl) (by kernel_rfl) (by kernel_rfl) (fun _ _ _ h => h) rfl (by assumption) ?hy_5 ?re_5
  case hy_5 =>
    intro w hSw
    try dsimp only at hSw
    go_simp
    try with_reducible rfl
  simp only [Act.put, List.setIfInBounds_toArray, List.set_cons_zero, List.set_cons_succ]
  refine' held_take (i := 6) (d := some 34) (v := _) rfl rfl (by kernel_rfl) (by kernel_rfl) (by kernel_rfl) (fun _ _ _ h => h) rfl (by assumption) ?hy_6 ?re_6
  case hy_6 =>
    intro w hSw
    try dsimp only at hSw
    go_simp
    try with_reducible rfl
  simp only [Act.put, List.setIfInBounds_toArray, List.set_cons_zero, List.set_cons_succ]
  refine' held_take (i := 7) (d := some 35) (v := _) rfl rfl (by kernel_rfl) (by kernel_rfl) (by kernel_rfl) (fun _ _ _ h => h) rfl (by assumption) ?hy_7 ?re_7
  case hy_7 =>
    intro w hSw
    try dsimp only at hSw
    go_simp
    try with_reducible rfl
  simp only [Act.put, List.setIfInBounds_toArray, List.set_cons_zero, List.set_cons_succ]
  refine' held_take (i := 8) (d := some 36) (v := _) rfl rfl (by kernel_rfl) (by kernel_rfl) (by kernel_rfl) (fun _ _ _ h => h) rfl (by assumption) ?hy_8 ?re_8
  case hy_8 =>
    intro w hSw
    try dsimp only at hSw
    go_simp
    try with_reducible rfl
  simp only [Act.put, List.setIfInBounds_toArray, List.set_cons_zero, List.set_cons_succ]
  refine' held_take (i := 9) (d := some 37) (v := _) rfl rfl (by kernel_rfl) (by kernel_rfl) (by kernel_rfl) (fun _ _ _ h => h) rfl (by assumption) ?hy_9 ?re_9
  case hy_9 =>
    intro w hSw
    try dsimp only at hSw
    go_simp
    try with_reducible rfl
  simp only [Act.put, List.setIfInBounds_toArray, List.set_cons_zero, List.set_cons_succ]
  refine' held_take (i := 10) (d := some 38) (v := _) rfl rfl (by kernel_rfl) (by kernel_rfl) (by kernel_rfl) (fun _ _ _ h => h) rfl (by assumption) ?hy_10 ?re_10
  case hy_10 =>
    intro w hSw
    try dsimp only at hSw
    go_simp
    try with_reducible rfl
  simp only [Act.put, List.setIfInBounds_toArray, List.set_cons_zero, List.set_cons_succ]
  refine wpAnyH_ready (rs := [4, 11]) (by kernel_rfl) (by simp) ?_
  refine AllReadyH.cons rfl (fun K hK => ?_) (AllReadyH.cons rfl (fun K hK => ?_) AllReadyH.nil)
  · have hcAo := hcA.out
    go_simp
    refine hK.out _ _ ?_ (fun hHeld => ?_)
    · first | exact hW0.out | exact hkA.out _
    clear hK K
    try simp only [Act.put, List.setIfInBounds_toArray, List.set_cons_zero, List.set_cons_succ]
    refine wpAnyH_ready (rs := [11]) (by kernel_rfl) (by simp) ?_
    refine AllReadyH.cons rfl (fun K hK => ?_) AllReadyH.nil
    go_simp
    refine hK.out _ _ ?_ (fun hHeld => ?_)
    · exact hkA.out _
    clear hK K
    try simp only [Act.put, List.setIfInBounds_toArray, List.set_cons_zero, List.set_cons_succ]
    refine wpAnyH_ready (rs := [12]) (by kernel_rfl) (by simp) ?_
    refine AllReadyH.cons rfl (fun K hK => ?_) AllReadyH.nil
    refine step_appG sesC _ rfl _ _ 28 rfl 70 (.agg #[.int .i64 0, .string ⟨#[]⟩, .string ⟨#[]⟩, .int .i64 0, .int .i64 0, .int .i64 0, .int .i64 0]) 72 Tryz.underlying28 info_open7 rfl (by decide) base _ L (by rfl) (RowG.alloc hrowW.out _) _ [(⟨many + 1, ⟨who, svc, ep, bg, fn, sr⟩⟩ : Ses)] (by rfl) (AtG.new _ _ _ rfl) (by simp) (by simp; omega) (Nat.le_trans hbsW (by simp)) ?_
    intro v6 w6 hown6 _ hg6
    obtain ⟨a6, c6, hv6⟩ := hown6.sl
    simp only [List.length_append, List.length_cons, List.length_nil, Nat.zero_add] at hv6
    subst hv6
    have hk6 := hkB.out _ _ hg6
    have hfin := Lib.hid (hfinal.out _ _ _ hown6 hg6)
    obtain ⟨hfz6, hcb6⟩ := hfzB.out _ _ hg6
    clear hg6
    refine hK.out _ _ ?_ (fun hHeld => ?_)
    · exact hk6
    clear hK K
    try simp only [Act.put, List.setIfInBounds_toArray, List.set_cons_zero, List.set_cons_succ]
    refine' held_take (i := 13) (d := some 41) (v := _) rfl rfl (by kernel_rfl) (by kernel_rfl) (by kernel_rfl) (fun _ _ _ h => h) rfl (by assumption) ?hy_11 ?re_11
    case hy_11 =>
      intro w hSw
      try dsimp only at hSw
      go_simp
      try with_reducible rfl
    simp only [Act.put, List.setIfInBounds_toArray, List.set_cons_zero, List.set_cons_succ]
    refine' held_take (i := 14) (d := some 42) (v := _) rfl rfl (by kernel_rfl) (by kernel_rfl) (by kernel_rfl) (fun _ _ _ h => h) rfl (by assumption) ?hy_12 ?re_12
    case hy_12 =>
      intro w hSw
      try dsimp only at hSw
      go_simp
      try with_reducible rfl
    simp only [Act.put, List.setIfInBounds_toArray, List.set_cons_zero, List.set_cons_succ]
    refine wpAnyH_ready (rs := [15]) (by kernel_rfl) (by simp) ?_
    refine AllReadyH.cons rfl (fun K hK => ?_) AllReadyH.nil
    go_simp
    refine hK.out _ _ ?_ (fun hHeld => ?_)
    · exact hkC.out _ _ hk6
    clear hK K
    try simp only [Act.put, List.setIfInBounds_toArray, List.set_cons_zero, List.set_cons_succ]
    refine wpAnyH_done (by kernel_rfl) ?_ _
    refine NoPanic.normal ?_
    go_wp2_with fail
    go_ret2
    exact ⟨by rw [hr.out]; rfl, hfin.out.1, by rw [hr.out]; exact hfin.out.2⟩
  · go_simp
    refine hK.out _ _ ?_ (fun hHeld => ?_)
    · exact hkA.out _
    clear hK K
    try simp only [Act.put, List.setIfInBounds_toArray, List.set_cons_zero, List.set_cons_succ]
    refine wpAnyH_ready (rs := [4]) (by kernel_rfl) (by simp) ?_
    refine AllReadyH.cons rfl (fun K hK => ?_) AllReadyH.nil
    have hcAo := hcA.out
    go_simp
    refine hK.out _ _ ?_ (fun hHeld => ?_)
    · first | exact hW0.out | exact hkA.out _
    clear hK K
    try simp only [Act.put, List.setIfInBounds_toArray, List.set_cons_zero, List.set_cons_succ]
    refine wpAnyH_ready (rs := [12]) (by kernel_rfl) (by simp) ?_
    refine AllReadyH.cons rfl (fun K hK => ?_) AllReadyH.nil
    refine step_appG sesC _ rfl _ _ 28 rfl 70 (.agg #[.int .i64 0, .string ⟨#[]⟩, .string ⟨#[]⟩, .int .i64 0, .int .i64 0, .int .i64 0, .int .i64 0]) 72 Tryz.underlying28 info_open7 rfl (by decide) base _ L (by rfl) (RowG.alloc hrowW.out _) _ [(⟨many + 1, ⟨who, svc, ep, bg, fn, sr⟩⟩ : Ses)] (by rfl) (AtG.new _ _ _ rfl) (by simp) (by simp; omega) (Nat.le_trans hbsW (by simp)) ?_
    intro v6 w6 hown6 _ hg6
    obtain ⟨a6, c6, hv6⟩ := hown6.sl
    simp only [List.length_append, List.length_cons, List.length_nil, Nat.zero_add] at hv6
    subst hv6
    have hk6 := hkB.out _ _ hg6
    have hfin := Lib.hid (hfinal.out _ _ _ hown6 hg6)
    obtain ⟨hfz6, hcb6⟩ := hfzB.out _ _ hg6
    clear hg6
    refine hK.out _ _ ?_ (fun hHeld => ?_)
    · exact hk6
    clear hK K
    try simp only [Act.put, List.setIfInBounds_toArray, List.set_cons_zero, List.set_cons_succ]
    refine' held_take (i := 13) (d := some 41) (v := _) rfl rfl (by kernel_rfl) (by kernel_rfl) (by kernel_rfl) (fun _ _ _ h => h) rfl (by assumption) ?hy_13 ?re_13
    case hy_13 =>
      intro w hSw
      try dsimp only at hSw
      go_simp
      try with_reducible rfl
    simp only [Act.put, List.setIfInBounds_toArray, List.set_cons_zero, List.set_cons_succ]
    refine' held_take (i := 14) (d := some 42) (v := _) rfl rfl (by kernel_rfl) (by kernel_rfl) (by kernel_rfl) (fun _ _ _ h => h) rfl (by assumption) ?hy_14 ?re_14
    case hy_14 =>
      intro w hSw
      try dsimp only at hSw
      go_simp
      try with_reducible rfl
    simp only [Act.put, List.setIfInBounds_toArray, List.set_cons_zero, List.set_cons_succ]
    refine wpAnyH_ready (rs := [15]) (by kernel_rfl) (by simp) ?_
    refine AllReadyH.cons rfl (fun K hK => ?_) AllReadyH.nil
    go_simp
    refine hK.out _ _ ?_ (fun hHeld => ?_)
    · exact hkC.out _ _ hk6
    clear hK K
    try simp only [Act.put, List.setIfInBounds_toArray, List.set_cons_zero, List.set_cons_succ]
    refine wpAnyH_done (by kernel_rfl) ?_ _
    refine NoPanic.normal ?_
    go_wp2_with fail
    go_ret2
    exact ⟨by rw [hr.out]; rfl, hfin.out.1, by rw [hr.out]; exact hfin.out.2⟩
end Go.Proofs.YtlcomdbkkfbjiaaGreatDoor
