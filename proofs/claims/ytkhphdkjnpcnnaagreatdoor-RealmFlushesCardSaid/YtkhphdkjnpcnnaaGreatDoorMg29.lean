/- RlmH, RefB2, RlmR -/
import Derived.Test.YtkhphdkjnpcnnaaGreatDoorMg24
import Derived.Test.YtkhphdkjnpcnnaaGreatDoorMg28
import Derived.Test.YtkhphdkjnpcnnaaGreatDoorMg7
import Derived.Test.YtkhphdkjnpcnnaaGreatDoorMg16
import Derived.Test.YtkhphdkjnpcnnaaGreatDoorMg20
import Derived.Test.YtkhphdkjnpcnnaaGreatDoorMg10
/- realm.Head, Feed, People: walked. -/
namespace Go.Proofs.YtkhphdkjnpcnnaaGreatDoor set_option linter.unusedVariables false set_option linter.unusedSimpArgs false
open Go.RowKit

set_option maxHeartbeats 1000000 in
set_option maxRecDepth 100000 in
theorem headM_any {E : Nat → Addr} {base a b r : Nat} {R : Rlm} (w : World) (hL : LaidS E w) (hR : RlmAt w base a b r R) (hc : (checkE R.l).1 = 0) :
    Calls Tryz.prog 47 #[.pointer (some ⟨a, 0, none⟩)] w fun e w' => TextRes E w' (headOf R.key R.l R.time) e ∧ Below w.heap.size w w' := by
  obtain ⟨al, cl, ⟨c0, _, c2, _, _, c5⟩, _, hrow⟩ := hR.cells
  have hmk := Lib.hid (fun wx (hx : Below w.heap.size w wx) => makeF_any (E := E) R.key (.slice al R.l.length cl) R.l R.time wx (hL.below hx) (RowG.at_ (hrow.below hx)) (ents_who hc))
  obtain ⟨rk, rl, rt, rs, rb, rL⟩ := R
  dsimp only at *
  have hSA := Lib.hid (fun wx (hx : Below w.heap.size w wx) => (show wx.cell? ⟨a, 0, none⟩ = some (.int .i64 rk) ∧ wx.cell? ⟨a, 5, none⟩ = some (.slice al rL.length cl) ∧ wx.cell? ⟨a, 2, none⟩ = some (.int .i64 rt) from ⟨cell_below hx c0, cell_below hx c5, cell_below hx c2⟩))
  have hD0 := Lib.hid (show Below w.heap.size w w.drew from (Below.refl _ _).drew)
  clear c0 c2 c5 hrow hR hL hc
  go_enter Tryz.func47, Tryz.ntmps47
  go_upto_region 1 with fail
  refine wp_region_noPanic ?_
  refine wp_region_held_drew (S := fun wx => wx.cell? ⟨a, 0, none⟩ = some (.int .i64 rk) ∧ wx.cell? ⟨a, 5, none⟩ = some (.slice al rL.length cl) ∧ wx.cell? ⟨a, 2, none⟩ = some (.int .i64 rt)) (by kernel_rfl) ?_ (fun hHeld => ?_)
  · exact hSA.out _ hD0.out
  refine' held_take (i := 0) (d := some 4) (v := _) rfl rfl (by kernel_rfl) (by kernel_rfl) (by kernel_rfl) (fun _ _ _ h => h) rfl (by assumption) ?hy_1 ?re_1
  case hy_1 =>
    intro w hSw
    try dsimp only at hSw
    go_simp
    try with_reducible rfl
  simp only [Act.put, List.setIfInBounds_toArray, List.set_cons_zero, List.set_cons_succ]
  refine' held_take (i := 1) (d := some 5) (v := _) rfl rfl (by kernel_rfl) (by kernel_rfl) (by kernel_rfl) (fun _ _ _ h => h) rfl (by assumption) ?hy_2 ?re_2
  case hy_2 =>
    intro w hSw
    try dsimp only at hSw
    go_simp
    try with_reducible rfl
  simp only [Act.put, List.setIfInBounds_toArray, List.set_cons_zero, List.set_cons_succ]
  refine' held_take (i := 2) (d := some 6) (v := _) rfl rfl (by kernel_rfl) (by kernel_rfl) (by kernel_rfl) (fun _ _ _ h => h) rfl (by assumption) ?hy_3 ?re_3
  case hy_3 =>
    intro w hSw
    try dsimp only at hSw
    go_simp
    try with_reducible rfl
  simp only [Act.put, List.setIfInBounds_toArray, List.set_cons_zero, List.set_cons_succ]
  refine' held_take (i := 3) (d := some 7) (v := _) rfl rfl (by kernel_rfl) (by kernel_rfl) (by kernel_rfl) (fun _ _ _ h => h) rfl (by assumption) ?hy_4 ?re_4
  case hy_4 =>
    intro w hSw
    try dsimp only at hSw
    go_simp
    try with_reducible rfl
  simp only [Act.put, List.setIfInBounds_toArray, List.set_cons_zero, List.set_cons_succ]
  refine' held_take (i := 4) (d := some 8) (v := _) rfl rfl (by kernel_rfl) (by kernel_rfl) (by kernel_rfl) (fun _ _ _ h => h) rfl (by assumption) ?hy_5 ?re_5
  case hy_5 =>
    intro w hSw
    try dsimp only at hSw
    go_simp
    try with_reducible rfl
  simp only [Act.put, List.setIfInBounds_toArray, List.set_cons_zero, List.set_cons_succ]
  refine' held_take (i := 5) (d := some 9) (v := _) rfl rfl (by kernel_rfl) (by kernel_rfl) (by kernel_rfl) (fun _ _ _ h => h) rfl (by assumption) ?hy_6 ?re_6
  case hy_6 =>
    intro w hSw
    try dsimp only at hSw
    go_simp
    try with_reducible rfl
  simp only [Act.put, List.setIfInBounds_toArray, List.set_cons_zero, List.set_cons_succ]
  refine' held_take (i := 6) (d := some 10) (v := _) rfl rfl (by kernel_rfl) (by kernel_rfl) (by kernel_rfl) (fun _ _ _ h => h) rfl (by assumption) ?hy_7 ?re_7
  case hy_7 =>
    intro w hSw
    try dsimp only at hSw
    go_simp
    try with_reducible rfl
  simp only [Act.put, List.setIfInBounds_toArray, List.set_cons_zero, List.set_cons_succ]
  refine' held_take (i := 7) (d := some 11) (v := _) rfl rfl (by kernel_rfl) (by kernel_rfl) (by kernel_rfl) (fun _ _ _ h => h) rfl (by assumption) ?hy_8 ?re_8
  case hy_8 =>
    intro w hSw
    try dsimp only at hSw
    go_simp
    try with_reducible rfl
  simp only [Act.put, List.setIfInBounds_toArray, List.set_cons_zero, List.set_cons_succ]
  refine' held_take (i := 8) (d := some 12) (v := _) rfl rfl (by kernel_rfl) (by kernel_rfl) (by kernel_rfl) (fun _ _ _ h => h) rfl (by assumption) ?hy_9 ?re_9
  case hy_9 =>
    intro w hSw
    try dsimp only at hSw
    go_simp
    try with_reducible rfl
  simp only [Act.put, List.setIfInBounds_toArray, List.set_cons_zero, List.set_cons_succ]
  refine' held_take (i := 9) (d := some 13) (v := _) rfl rfl (by kernel_rfl) (by kernel_rfl) (by kernel_rfl) (fun _ _ _ h => h) rfl (by assumption) ?hy_10 ?re_10
  case hy_10 =>
    intro w hSw
    try dsimp only at hSw
    go_simp
    try with_reducible rfl
  simp only [Act.put, List.setIfInBounds_toArray, List.set_cons_zero, List.set_cons_succ]
  refine' held_take (i := 10) (d := some 14) (v := _) rfl rfl (by kernel_rfl) (by kernel_rfl) (by kernel_rfl) (fun _ _ _ h => h) rfl (by assumption) ?hy_11 ?re_11
  case hy_11 =>
    intro w hSw
    try dsimp only at hSw
    go_simp
    try with_reducible rfl
  simp only [Act.put, List.setIfInBounds_toArray, List.set_cons_zero, List.set_cons_succ]
  refine' held_take (i := 11) (d := some 15) (v := _) rfl rfl (by kernel_rfl) (by kernel_rfl) (by kernel_rfl) (fun _ _ _ h => h) rfl (by assumption) ?hy_12 ?re_12
  case hy_12 =>
    intro w hSw
    try dsimp only at hSw
    go_simp
    try with_reducible rfl
  simp only [Act.put, List.setIfInBounds_toArray, List.set_cons_zero, List.set_cons_succ]
  refine wpAnyH_ready (rs := [12]) (by kernel_rfl) (by simp) ?_
  refine AllReadyH.cons rfl (fun K hK => ?_) AllReadyH.nil
  go_simp
  refine (hmk.out _ hD0.out).mono ?_
  rintro e wd ⟨⟨ev, rfl, he⟩, hb⟩
  have hDc := Lib.hid (below_trans hD0.out hb)
  have he := Lib.hid he
  clear hb
  go_wp2_with fail
  refine hK.out _ _ ?_ (fun hHeld => ?_)
  · exact hSA.out _ hDc.out
  clear hK K
  try simp only [Act.put, List.setIfInBounds_toArray, List.set_cons_zero, List.set_cons_succ]
  refine' held_take (i := 13) (d := some 17) (v := _) rfl rfl (by kernel_rfl) (by kernel_rfl) (by kernel_rfl) (fun _ _ _ h => h) rfl (by assumption) ?hy_13 ?re_13
  case hy_13 =>
    intro w hSw
    try dsimp only at hSw
    go_simp
    try with_reducible rfl
  simp only [Act.put, List.setIfInBounds_toArray, List.set_cons_zero, List.set_cons_succ]
  refine' held_take (i := 14) (d := some 18) (v := _) rfl rfl (by kernel_rfl) (by kernel_rfl) (by kernel_rfl) (fun _ _ _ h => h) rfl (by assumption) ?hy_14 ?re_14
  case hy_14 =>
    intro w hSw
    try dsimp only at hSw
    go_simp
    try with_reducible rfl
  simp only [Act.put, List.setIfInBounds_toArray, List.set_cons_zero, List.set_cons_succ]
  refine' held_take (i := 15) (d := some 2) (v := _) rfl rfl (by kernel_rfl) (by kernel_rfl) (by kernel_rfl) (fun _ _ _ h => h) rfl (by assumption) ?hy_15 ?re_15
  case hy_15 =>
    intro w hSw
    try dsimp only at hSw
    go_simp
    try with_reducible rfl
  simp only [Act.put, List.setIfInBounds_toArray, List.set_cons_zero, List.set_cons_succ]
  refine' held_take (i := 16) (d := some 3) (v := _) rfl rfl (by kernel_rfl) (by kernel_rfl) (by kernel_rfl) (fun _ _ _ h => h) rfl (by assumption) ?hy_16 ?re_16
  case hy_16 =>
    intro w hSw
    try dsimp only at hSw
    go_simp
    try with_reducible rfl
  simp only [Act.put, List.setIfInBounds_toArray, List.set_cons_zero, List.set_cons_succ]
  refine wpAnyH_done (by kernel_rfl) ?_ _
  refine NoPanic.normal ?_
  go_wp2_with fail
  go_ret2
  exact ⟨⟨_, rfl, he.out⟩, hDc.out⟩
set_option maxRecDepth 100000 in
theorem feedM_any {base a b r : Nat} {R : Rlm} (w : World) (hR : RlmAt w base a b r R) (hl : R.l.length ≤ 1000) :
    Calls Tryz.prog 16 #[.pointer (some ⟨a, 0, none⟩)] w fun e w' => (∃ v, e = .returned v ∧ RowG entC w' w.heap.size 115 v R.l) ∧ Below w.heap.size w w' := by
  obtain ⟨al, cl, ⟨_, _, _, _, _, c5⟩, _, hrow⟩ := hR.cells
  have hcl := Lib.hid (clone_ent (.slice al R.l.length cl) R.l w (RowG.at_ hrow) hl)
  clear hrow hR
  go_enter Tryz.func16, Tryz.ntmps16
  go_wp2_with fail
  refine hcl.out.mono ?_
  rintro e w1 ⟨v, rfl, hv, hb⟩
  have hfin := Lib.hid (And.intro hv hb)
  clear hv hb
  go_wp2_with fail
  go_ret
  exact ⟨⟨_, rfl, hfin.out.1⟩, hfin.out.2⟩
set_option maxRecDepth 100000 in
theorem peopleM_any {base a b r : Nat} {R : Rlm} (w : World) (hR : RlmAt w base a b r R) (hG : GoodB R.b) :
    Calls Tryz.prog 30 #[.pointer (some ⟨a, 0, none⟩)] w fun e w' => (∃ v, e = .returned v ∧ PersAt w' v R.b ∧ ∀ x, v.ownBlock = some x → w.heap.size ≤ x) ∧ Below w.heap.size w w' := by
  obtain ⟨al, cl, ⟨_, _, _, _, c4, _⟩, _, _⟩ := hR.cells
  have hal := Lib.hid (all_any b r R.b w hR.book (fun p hp => by have := ((isName_iff _).1 (hG.name p hp)).2.1; unfold maxLen; omega) hG.many)
  clear hR hG
  go_enter Tryz.func30, Tryz.ntmps30
  go_wp2_with fail
  refine hal.out.mono ?_
  rintro e w1 ⟨v, rfl, hv, ho, hb⟩
  have hfin := Lib.hid (show PersAt w1 v R.b ∧ (∀ x, v.ownBlock = some x → w.heap.size ≤ x) ∧ Below w.heap.size w w1 from ⟨hv, ho, hb⟩)
  clear hv ho hb
  go_wp2_with fail
  go_ret
  exact ⟨⟨_, rfl, hfin.out.1, hfin.out.2.1⟩, hfin.out.2.2⟩
end Go.Proofs.YtkhphdkjnpcnnaaGreatDoor

/- The reference's book, walked: Rekey, Raise, Off: stores in place. -/
namespace Go.Proofs.YtkhphdkjnpcnnaaGreatDoor set_option linter.unusedVariables false set_option linter.unusedSimpArgs false
open Go.RowKit

/-- What is known where a name stands at k: the slice and its cells. -/
theorem RefAt.cells {w : World} {base b : Nat} {L : List Per} (h : RefAt w base b L) {k : Nat} (hk : k < L.length) :
    ∃ g c, w.cell? ⟨b, 0, none⟩ = some (.slice (some ⟨g, 0, none⟩) L.length c) ∧ g ≠ b ∧
      (w.cell? ⟨g, k * 4, none⟩ = some (.string (bs L[k].name)) ∧ w.cell? ⟨g, k * 4 + 1, none⟩ = some (.int .i64 L[k].key) ∧ w.cell? ⟨g, k * 4 + 2, none⟩ = some (.int .i64 L[k].epoch) ∧ w.cell? ⟨g, k * 4 + 3, none⟩ = some (.bool L[k].off)) ∧
      (∀ i, w.frozen? ⟨g, i, none⟩ = false) ∧ RefS base w g ∧
      (∀ q : Per, q.name = L[k].name → ∀ w', w'.ownsRow base 46 4 (.slice (some ⟨g, 0, none⟩) L.length c) L.length (flatP (L.set k q)) → Keeps (RefS base w) w w' → w'.heap[b]? = w.heap[b]? → RefAt w' base b (L.set k q)) ∧
      w.ownsRow base 46 4 (.slice (some ⟨g, 0, none⟩) L.length c) L.length (flatP L) := by
  obtain ⟨hge, v, hb, ho⟩ := h
  have ho' := ho
  obtain ⟨hl, ⟨_, h0⟩ | ⟨g, cap, cur, rfl, hbg, hg, hc, hm, hsz, ht⟩⟩ := ho
  · omega
  obtain ⟨h0, h1, h2, h3⟩ := flatP_get L k hk
  have key : ∀ i u, i < L.length * 4 → (flatP L)[i]? = some u → w.cell? ⟨g, i, none⟩ = some u := by
    intro i u hi hu
    rw [cell_of_row w g i _ _ _ hg]
    rw [← ht, List.getElem?_take, if_pos hi] at hu
    simpa using hu
  refine ⟨g, cap, by rw [cell_of_row w b 0 _ _ _ hb]; rfl, ?_, ⟨key _ _ (by omega) h0, key _ _ (by omega) h1, key _ _ (by omega) h2, key _ _ (by omega) h3⟩, fun i => frozen_of_row _ _ _ _ _ hg, ⟨hbg, _, _, _, hg, .inr rfl⟩, fun q _ w' ho2 _ hb2 => ⟨hge, _, hb2.trans hb, by rw [List.length_set]; exact ho2⟩, ho'⟩
  rintro rfl
  rw [hb] at hg
  injection hg with hg
  injection hg with _ hg _
  exact absurd hg (by decide)
theorem keepsR_trans {base : Nat} {u v w : World} (h : Keeps (RefS base u) u v) (k : Keeps (RefS base v) v w) : Keeps (RefS base u) u w := by
  refine ⟨k.os.trans h.os, k.tape.trans h.tape, k.output.trans h.output, Nat.le_trans h.size k.size, fun i hi hs => ?_⟩
  have h1 := h.block i hi hs
  refine (k.block i (Nat.lt_of_lt_of_le hi h.size) ?_).trans h1
  rintro ⟨h2, cs, T, z, h3, h4⟩
  exact hs ⟨h2, cs, T, z, h1.symm.trans h3, h4⟩
theorem keepsR_below {base : Nat} {u v w : World} (h : Below u.heap.size u v) (k : Keeps (RefS base v) v w) : Keeps (RefS base u) u w := keepsR_trans (Keeps.of_below h) k
theorem findIx_none {L : List Per} {n : List UInt8} (h : idxP L n = none) : findIx L n = -1 := by unfold findIx; rw [h]
theorem findIx_some {L : List Per} {n : List UInt8} {k : Nat} (h : idxP L n = some k) : findIx L n = (k : Int) := by unfold findIx; rw [h]

set_option maxRecDepth 100000 in
theorem offR_any (base b : Nat) (L : List Per) (n : List UInt8) (o : Bool) (w : World) (hB : RefAt w base b L) (hs : SortedP L) (hm : L.length ≤ 20) :
    Calls Tryz.prog 38 #[.pointer (some ⟨b, 0, none⟩), .string (bs n), .bool o] w fun e w' => e = .returned (.int .i64 ((offOf L n o).1 : Nat)) ∧ Keeps (RefS base w) w w' ∧ RefAt w' base b (offOf L n o).2 := by
  have hf := Lib.hid (findR_any base b L n w hB (by omega))
  cases hi : idxP L n with
  | none =>
    have hr := Lib.hid (show offOf L n o = (5, L) by unfold offOf; rw [(idxP_none hi).1])
    rw [findIx_none hi] at hf
    go_enter Tryz.func38, Tryz.ntmps38
    go_wp2_with fail
    refine hf.out.mono ?_
    rintro e w1 ⟨rfl, hb1⟩
    go_wp2_with fail
    go_ret
    exact ⟨by rw [hr.out]; rfl, Keeps.of_below hb1, by rw [hr.out]; exact hB.below hb1⟩
  | some k =>
    obtain ⟨hk, hfp, hnm⟩ := idxP_some hi
    rw [findIx_some hi] at hf
    by_cases ho : L[k].off = o
    · have hr := Lib.hid (show offOf L n o = (6, L) by unfold offOf; rw [hfp]; exact if_pos ho)
      go_enter Tryz.func38, Tryz.ntmps38
      go_wp2_with fail
      refine hf.out.mono ?_
      rintro e w1 ⟨rfl, hb1⟩
      obtain ⟨g, c, hc, hgb, ⟨c0, c1, c2, c3⟩, hfz, hS, hset, hown⟩ := (hB.below hb1).cells hk
      have hset := Lib.hid hset
      have hown := Lib.hid hown
      have hS := Lib.hid hS
      rw [ho] at c3
      clear c0 c1 c2 hi hfp hnm ho
      go_wp2_with fail
      go_ret
      exact ⟨by rw [hr.out]; rfl, Keeps.of_below hb1, by rw [hr.out]; exact hB.below hb1⟩
    · have hr := Lib.hid (show offOf L n o = (0, L.set k { L[k] with off := o }) by unfold offOf; rw [hfp]; exact (if_neg ho).trans (by rw [setP_set hs hk { L[k] with off := o } rfl]))
      go_enter Tryz.func38, Tryz.ntmps38
      go_wp2_with fail
      refine hf.out.mono ?_
      rintro e w1 ⟨rfl, hb1⟩
      obtain ⟨g, c, hc, hgb, ⟨c0, c1, c2, c3⟩, hfz, hS, hset, hown⟩ := (hB.below hb1).cells hk
      have hfz := hfz (k * 4 + 3)
      have ho2 : (L[k].off == o) = false := by simpa using ho
      have hfin : RefAt (w1.setCell ⟨g, k * 4 + 3, none⟩ (.bool o)) base b (L.set k { L[k] with off := o }) := hset { L[k] with off := o } rfl _ (by rw [← (flatP_set L k hk).2.2 o]; exact ownsRow_setCell hown _ _) (keeps_setCell _ _ _ hS) (heap_setCell_other _ _ _ _ (Ne.symm hgb))
      have hfin := Lib.hid hfin
      have hS := Lib.hid hS
      clear hset hown c0 c1 c2 hi hfp hnm ho
      go_wp2_with fail
      go_ret
      exact ⟨by rw [hr.out]; rfl, keepsR_below hb1 (keeps_setCell _ _ _ hS.out), by rw [hr.out]; exact hfin.out⟩
set_option maxRecDepth 100000 in
theorem raiseR_any (base b : Nat) (L : List Per) (n : List UInt8) (w : World) (hB : RefAt w base b L) (hs : SortedP L) (hm : L.length ≤ 20) (hG : ∀ p ∈ L, 1 ≤ p.epoch ∧ p.epoch ≤ 1073741824) :
    Calls Tryz.prog 86 #[.pointer (some ⟨b, 0, none⟩), .string (bs n)] w fun e w' => e = .returned (.tuple #[.int .i64 (raiseOf L n).1, .int .i64 ((raiseOf L n).2.1 : Nat)]) ∧ Keeps (RefS base w) w w' ∧ RefAt w' base b (raiseOf L n).2.2 := by
  have hf := Lib.hid (findR_any base b L n w hB (by omega))
  cases hi : idxP L n with
  | none =>
    have hr := Lib.hid (show raiseOf L n = (0, 5, L) by unfold raiseOf; rw [(idxP_none hi).1])
    rw [findIx_none hi] at hf
    go_enter Tryz.func86, Tryz.ntmps86
    go_wp2_with fail
    refine hf.out.mono ?_
    rintro e w1 ⟨rfl, hb1⟩
    go_wp2_with fail
    go_ret2
    exact ⟨by rw [hr.out]; rfl, Keeps.of_below hb1, by rw [hr.out]; exact hB.below hb1⟩
  | some k =>
    obtain ⟨hk, hfp, hnm⟩ := idxP_some hi
    rw [findIx_some hi] at hf
    obtain ⟨hp1, hp2⟩ := hG _ (List.getElem_mem hk)
    by_cases ho : 1073741824 ≤ L[k].epoch
    · have hr := Lib.hid (show raiseOf L n = (0, 2, L) by unfold raiseOf; rw [hfp]; exact if_pos ho)
      go_enter Tryz.func86, Tryz.ntmps86
      go_wp2_with fail
      refine hf.out.mono ?_
      rintro e w1 ⟨rfl, hb1⟩
      obtain ⟨g, c, hc, hgb, ⟨c0, c1, c2, c3⟩, hfz, hS, hset, hown⟩ := (hB.below hb1).cells hk
      have hset := Lib.hid hset
      have hown := Lib.hid hown
      have hS := Lib.hid hS
      clear c0 c1 c3 hi hfp hnm
      go_wp2_with fail
      go_ret2
      exact ⟨by rw [hr.out]; rfl, Keeps.of_below hb1, by rw [hr.out]; exact hB.below hb1⟩
    · have hr := Lib.hid (show raiseOf L n = (L[k].epoch + 1, 0, L.set k { L[k] with epoch := L[k].epoch + 1 }) by unfold raiseOf; rw [hfp]; exact (if_neg ho).trans (by rw [setP_set hs hk { L[k] with epoch := L[k].epoch + 1 } rfl]))
      go_enter Tryz.func86, Tryz.ntmps86
      go_wp2_with fail
      refine hf.out.mono ?_
      rintro e w1 ⟨rfl, hb1⟩
      obtain ⟨g, c, hc, hgb, ⟨c0, c1, c2, c3⟩, hfz, hS, hset, hown⟩ := (hB.below hb1).cells hk
      have hfz := hfz (k * 4 + 2)
      have hd := (World.cell?_setCell_other (w := w1) (v := .int .i64 (L[k].epoch + 1)) (a := ⟨g, k * 4 + 2, none⟩) (b := ⟨b, 0, none⟩) (fun e => hgb (congrArg Addr.block e))).trans hc
      have he := World.cell?_setCell_same' w1 ⟨g, k * 4 + 2, none⟩ (.int .i64 (L[k].epoch + 1)) (by rw [c2]; rfl)
      have hfin : RefAt (w1.setCell ⟨g, k * 4 + 2, none⟩ (.int .i64 (L[k].epoch + 1))) base b (L.set k { L[k] with epoch := L[k].epoch + 1 }) := hset { L[k] with epoch := L[k].epoch + 1 } rfl _ (by rw [← (flatP_set L k hk).2.1 (L[k].epoch + 1)]; exact ownsRow_setCell hown _ _) (keeps_setCell _ _ _ hS) (heap_setCell_other _ _ _ _ (Ne.symm hgb))
      have hfin := Lib.hid hfin
      have hS := Lib.hid hS
      clear hset hown c0 c1 c3 hi hfp hnm
      go_wp2_with fail
      go_ret2
      exact ⟨by rw [hr.out]; rfl, keepsR_below hb1 (keeps_setCell _ _ _ hS.out), by rw [hr.out]; exact hfin.out⟩

set_option maxHeartbeats 1000000 in
set_option maxRecDepth 100000 in
theorem rekeyR_any (base b : Nat) (L : List Per) (n : List UInt8) (x : Int) (w : World) (hB : RefAt w base b L) (hs : SortedP L) (hm : L.length ≤ 20) (hG : ∀ p ∈ L, 1 ≤ p.epoch ∧ p.epoch ≤ 1073741824) :
    Calls Tryz.prog 91 #[.pointer (some ⟨b, 0, none⟩), .string (bs n), .int .i64 x] w fun e w' => e = .returned (.int .i64 ((rekeyOf L n x).1 : Nat)) ∧ Keeps (RefS base w) w w' ∧ RefAt w' base b (rekeyOf L n x).2 := by
  have hf := Lib.hid (findR_any base b L n w hB (by omega))
  cases hi : idxP L n with
  | none =>
    have hr := Lib.hid (show rekeyOf L n x = (5, L) by unfold rekeyOf; rw [(idxP_none hi).1])
    rw [findIx_none hi] at hf
    go_enter Tryz.func91, Tryz.ntmps91
    go_wp2_with fail
    refine hf.out.mono ?_
    rintro e w1 ⟨rfl, hb1⟩
    go_wp2_with fail
    go_ret
    exact ⟨by rw [hr.out]; rfl, Keeps.of_below hb1, by rw [hr.out]; exact hB.below hb1⟩
  | some k =>
    obtain ⟨hk, hfp, hnm⟩ := idxP_some hi
    rw [findIx_some hi] at hf
    obtain ⟨hp1, hp2⟩ := hG _ (List.getElem_mem hk)
    have hkw := Lib.hid (fun wx => isKey_any x wx)
    have h2 : isKey x = false ∨ isKey x = true := by cases isKey x <;> simp
    rcases h2 with h2 | h2
    · have hr := Lib.hid (show rekeyOf L n x = (10, L) by unfold rekeyOf; rw [hfp]; exact if_pos h2)
      rw [h2] at hkw
      clear h2 hi hfp hnm
      go_enter Tryz.func91, Tryz.ntmps91
      go_wp2_with fail
      refine hf.out.mono ?_
      rintro e w1 ⟨rfl, hb1⟩
      go_wp2_with fail
      refine (hkw.out _).mono ?_
      rintro e w2 ⟨rfl, rfl⟩
      go_wp2_with fail
      go_ret
      exact ⟨by rw [hr.out]; rfl, Keeps.of_below hb1, by rw [hr.out]; exact hB.below hb1⟩
    rw [h2] at hkw
    by_cases h3 : L[k].key = x
    · have hr := Lib.hid (show rekeyOf L n x = (6, L) by unfold rekeyOf; rw [hfp]; exact (if_neg (by rw [h2]; decide)).trans (if_pos h3))
      have h3b : (L[k].key == x) = true := by rw [h3]; simp
      clear h2 hi hfp hnm h3
      go_enter Tryz.func91, Tryz.ntmps91
      go_wp2_with fail
      refine hf.out.mono ?_
      rintro e w1 ⟨rfl, hb1⟩
      obtain ⟨g, c, hc, hgb, ⟨c0, c1, c2, c3⟩, hfz, hS, hset, hown⟩ := (hB.below hb1).cells hk
      have hset := Lib.hid hset
      have hown := Lib.hid hown
      have hS := Lib.hid hS
      clear c0 c2 c3
      go_wp2_with fail
      refine (hkw.out _).mono ?_
      rintro e w2 ⟨rfl, rfl⟩
      go_wp2_with fail
      go_ret
      exact ⟨by rw [hr.out]; rfl, Keeps.of_below hb1, by rw [hr.out]; exact hB.below hb1⟩
    have h3b : (L[k].key == x) = false := by simpa using h3
    by_cases ho : 1073741824 ≤ L[k].epoch
    · have hr := Lib.hid (show rekeyOf L n x = (2, L) by unfold rekeyOf; rw [hfp]; exact (if_neg (by rw [h2]; decide)).trans ((if_neg h3).trans (if_pos ho)))
      clear h2 hi hfp hnm h3
      go_enter Tryz.func91, Tryz.ntmps91
      go_wp2_with fail
      refine hf.out.mono ?_
      rintro e w1 ⟨rfl, hb1⟩
      obtain ⟨g, c, hc, hgb, ⟨c0, c1, c2, c3⟩, hfz, hS, hset, hown⟩ := (hB.below hb1).cells hk
      have hset := Lib.hid hset
      have hown := Lib.hid hown
      have hS := Lib.hid hS
      clear c0 c3
      go_wp2_with fail
      refine (hkw.out _).mono ?_
      rintro e w2 ⟨rfl, rfl⟩
      go_wp2_with fail
      go_ret
      exact ⟨by rw [hr.out]; rfl, Keeps.of_below hb1, by rw [hr.out]; exact hB.below hb1⟩
    · have hr := Lib.hid (show rekeyOf L n x = (0, L.set k { L[k] with key := x, epoch := L[k].epoch + 1 }) by unfold rekeyOf; rw [hfp]; exact (if_neg (by rw [h2]; decide)).trans ((if_neg h3).trans ((if_neg ho).trans (by rw [setP_set hs hk { L[k] with key := x, epoch := L[k].epoch + 1 } rfl]))))
      go_enter Tryz.func91, Tryz.ntmps91
      go_wp2_with fail
      refine hf.out.mono ?_
      rintro e w1 ⟨rfl, hb1⟩
      obtain ⟨g, c, hc, hgb, ⟨c0, c1, c2, c3⟩, hfz, hS, hset, hown⟩ := (hB.below hb1).cells hk
      have hfz1 := hfz (k * 4 + 1)
      have hfz2 : (w1.setCell ⟨g, k * 4 + 1, none⟩ (.int .i64 x)).frozen? ⟨g, k * 4 + 2, none⟩ = false := by rw [World.frozen?_setCell]; exact hfz _
      have hd := (World.cell?_setCell_other (w := w1) (v := .int .i64 x) (a := ⟨g, k * 4 + 1, none⟩) (b := ⟨b, 0, none⟩) (fun e => hgb (congrArg Addr.block e))).trans hc
      have he := (World.cell?_setCell_other (w := w1) (v := .int .i64 x) (a := ⟨g, k * 4 + 1, none⟩) (b := ⟨g, k * 4 + 2, none⟩) (fun e => by have := congrArg Addr.off e; simp at this)).trans c2
      have hfl : ((flatP L).set (k * 4 + 1) (.int .i64 x)).set (k * 4 + 2) (.int .i64 (L[k].epoch + 1)) = flatP (L.set k { L[k] with key := x, epoch := L[k].epoch + 1 }) := by
        rw [(flatP_set L k hk).1 x, (flatP_set (L.set k { L[k] with key := x }) k (by simpa using hk)).2.1 (L[k].epoch + 1)]
        simp
      have hfin : RefAt ((w1.setCell ⟨g, k * 4 + 1, none⟩ (.int .i64 x)).setCell ⟨g, k * 4 + 2, none⟩ (.int .i64 (L[k].epoch + 1))) base b (L.set k { L[k] with key := x, epoch := L[k].epoch + 1 }) := hset { L[k] with key := x, epoch := L[k].epoch + 1 } rfl _ (by rw [← hfl]; exact ownsRow_setCell (ownsRow_setCell hown _ _) _ _) ((keeps_setCell _ _ _ hS).trans (keeps_setCell _ _ _ hS)) ((heap_setCell_other _ _ _ _ (Ne.symm hgb)).trans (heap_setCell_other _ _ _ _ (Ne.symm hgb)))
      have hfin := Lib.hid hfin
      have hS := Lib.hid hS
      clear hset hown hfl hfz c0 c3 hi hfp hnm h3 h2
      go_wp2_with fail
      refine (hkw.out _).mono ?_
      rintro e w2 ⟨rfl, rfl⟩
      go_wp2_with fail
      go_ret
      exact ⟨by rw [hr.out]; rfl, keepsR_below hb1 ((keeps_setCell _ _ _ hS.out).trans (keeps_setCell _ _ _ hS.out)), by rw [hr.out]; exact hfin.out⟩
end Go.Proofs.YtkhphdkjnpcnnaaGreatDoor

/- The reference's realms in memory: no walk. -/
namespace Go.Proofs.YtkhphdkjnpcnnaaGreatDoor set_option linter.unusedVariables false set_option linter.unusedSimpArgs false
open Go.RowKit

theorem rrlm_ne_ent : (40 : TypeId) ≠ 115 := by decide
theorem rrlm_ne_rlm : (40 : TypeId) ≠ 83 := by decide
theorem book_ne_rlm : (49 : TypeId) ≠ 83 := by decide
theorem per_ne_rlm : (46 : TypeId) ≠ 83 := by decide
theorem ent_ne_rlm : (115 : TypeId) ≠ 83 := by decide
/-- The reference's realm at block m, its book at block b. -/
structure RRlmAt (w : World) (base m b : Nat) (R : Rlm) : Prop where
  ge : base ≤ m
  blk : ∃ vl, w.heap[m]? = some (.cells (rlmCells R b vl) 40 (0, 0)) ∧ RowG entC w base 115 vl R.l
  book : RefAt w base b R.b
/-- The blocks that such a realm's acts may write. -/
def RRlmS (base : Nat) (w : World) (k : Nat) : Prop := base ≤ k ∧ ∃ cs T z, w.heap[k]? = some (.cells cs T z) ∧ (T = 40 ∨ T = 49 ∨ T = 46)
theorem RRlmS.lt {w : World} {base k : Nat} (h : RRlmS base w k) : base ≤ k ∧ k < w.heap.size := by
  obtain ⟨h1, _, _, _, h2, _⟩ := h
  exact ⟨h1, (Array.getElem?_eq_some_iff.1 h2).1⟩
theorem keepsM_of {base : Nat} {u w : World} (h : Keeps (RefS base u) u w) : Keeps (RRlmS base u) u w :=
  h.mono fun k ⟨h1, cs, T, z, h2, h3⟩ => ⟨h1, cs, T, z, h2, .inr h3⟩
theorem keepsM_trans {base : Nat} {u v w : World} (h : Keeps (RRlmS base u) u v) (k : Keeps (RRlmS base v) v w) : Keeps (RRlmS base u) u w := by
  refine ⟨k.os.trans h.os, k.tape.trans h.tape, k.output.trans h.output, Nat.le_trans h.size k.size, fun i hi hs => ?_⟩
  have h1 := h.block i hi hs
  refine (k.block i (Nat.lt_of_lt_of_le hi h.size) ?_).trans h1
  rintro ⟨h2, cs, T, z, h3, h4⟩
  exact hs ⟨h2, cs, T, z, h1.symm.trans h3, h4⟩
theorem keepsM_below {base : Nat} {u v w : World} (h : Below u.heap.size u v) (k : Keeps (RRlmS base v) v w) : Keeps (RRlmS base u) u w := keepsM_trans (Keeps.of_below h) k
theorem keepsM_thenB {base : Nat} {u v w : World} (h : Keeps (RRlmS base u) u v) (k : Below v.heap.size v w) : Keeps (RRlmS base u) u w := keepsM_trans h (Keeps.of_below k)
theorem RRlmAt.below {w w' : World} {base m b : Nat} {R : Rlm} (h : RRlmAt w base m b R) (hb : Below w.heap.size w w') : RRlmAt w' base m b R := by
  obtain ⟨vl, h1, h2⟩ := h.blk
  exact ⟨h.ge, ⟨vl, heap_down hb h1, h2.below hb⟩, h.book.below hb⟩
theorem RRlmAt.cells {w : World} {base m b : Nat} {R : Rlm} (h : RRlmAt w base m b R) : ∃ al cl, (w.cell? ⟨m, 0, none⟩ = some (.int .i64 R.key) ∧ w.cell? ⟨m, 1, none⟩ = some (.int .i64 R.long) ∧ w.cell? ⟨m, 2, none⟩ = some (.int .i64 R.time) ∧ w.cell? ⟨m, 3, none⟩ = some (.int .i64 R.serial) ∧ w.cell? ⟨m, 4, none⟩ = some (.pointer (some ⟨b, 0, none⟩)) ∧ w.cell? ⟨m, 5, none⟩ = some (.slice al R.l.length cl)) ∧
    (w.frozen? ⟨m, 0, none⟩ = false ∧ w.frozen? ⟨m, 1, none⟩ = false ∧ w.frozen? ⟨m, 2, none⟩ = false ∧ w.frozen? ⟨m, 3, none⟩ = false ∧ w.frozen? ⟨m, 4, none⟩ = false ∧ w.frozen? ⟨m, 5, none⟩ = false) ∧ RowG entC w base 115 (.slice al R.l.length cl) R.l := by
  obtain ⟨vl, h1, h2⟩ := h.blk
  obtain ⟨al, cl, rfl⟩ := h2.sl
  obtain ⟨h3, h4⟩ := six_of h1
  exact ⟨al, cl, h3, h4, h2⟩
theorem RRlmAt.ne {w : World} {base m b : Nat} {R : Rlm} (h : RRlmAt w base m b R) : m ≠ b := fun e => by
  obtain ⟨vl, h1, _⟩ := h.blk
  obtain ⟨_, v, h2, _⟩ := h.book
  rw [e, h2] at h1
  injection h1 with h1
  injection h1 with _ h1 _
  revert h1
  decide
/-- The book alone changes. -/
theorem RRlmAt.book' {w w' : World} {base m b : Nat} {R : Rlm} {B : List Per} (h : RRlmAt w base m b R) (hk : Keeps (RefS base w) w w') (hB : RefAt w' base b B) : RRlmAt w' base m b { R with b := B } := by
  obtain ⟨vl, h1, h2⟩ := h.blk
  refine ⟨h.ge, ⟨vl, hk.obj h1 ?_, h2.keeps hk fun g hg => ?_⟩, hB⟩
  · rintro ⟨_, cs, T, z, h3, h4⟩
    rw [h1] at h3
    injection h3 with h3
    injection h3 with _ h3 _
    subst h3
    revert h4
    decide
  · rintro ⟨_, cs, T, z, h3, h4⟩
    obtain ⟨_, cs', h5⟩ := h2.block hg
    rw [h5] at h3
    injection h3 with h3
    injection h3 with _ h3 _
    subst h3
    revert h4
    decide
/-- What changes the program's realm keeps the reference's. -/
theorem RRlmAt.foreign {w w' : World} {base base' m b a b' r : Nat} {R R' : Rlm} (h : RRlmAt w base m b R) (ha : RlmAt w base' a b' r R') (hk : Keeps (RlmS a r) w w') : RRlmAt w' base m b R := by
  obtain ⟨va, g1, _⟩ := ha.blk
  obtain ⟨l, ⟨es, c, gr, _⟩, _⟩ := ha.book.map
  have key : ∀ {k : Nat} {cs : Array Value} {T : TypeId} {z : Nat × Nat}, w.heap[k]? = some (.cells cs T z) → T ≠ 83 → ¬ RlmS a r k := fun {k cs T z} h1 hT hs => by
    rcases hs with rfl | rfl
    · rw [g1] at h1
      injection h1 with h1
      injection h1 with _ h1 _
      exact hT h1.symm
    · rw [gr] at h1
      cases h1
  obtain ⟨vl, h1, h2⟩ := h.blk
  refine ⟨h.ge, ⟨vl, hk.obj h1 (key h1 rrlm_ne_rlm), h2.keeps hk fun g hg => ?_⟩, h.book.keeps hk fun k ⟨_, cs, T, z, h3, h4⟩ => key h3 ?_⟩
  · obtain ⟨_, cs', h5⟩ := h2.block hg
    exact key h5 ent_ne_rlm
  · rcases h4 with rfl | rfl
    · exact book_ne_rlm
    · exact per_ne_rlm
/-- What changes the reference's realm keeps the program's. -/
theorem RlmAt.foreign {w w' : World} {base base' a b r : Nat} {R : Rlm} (h : RlmAt w base a b r R) (hk : Keeps (RRlmS base' w) w w') : RlmAt w' base a b r R := by
  have key : ∀ {k : Nat} {cs : Array Value} {T : TypeId} {z : Nat × Nat}, w.heap[k]? = some (.cells cs T z) → (T = 40 ∨ T = 49 ∨ T = 46 → False) → ¬ RRlmS base' w k := fun {k cs T z} h1 hT hs => by
    obtain ⟨_, cs', T', z', h3, h4⟩ := hs
    rw [h1] at h3
    injection h3 with h3
    injection h3 with _ h3 _
    subst h3
    exact hT h4
  obtain ⟨vl, h1, h2⟩ := h.blk
  obtain ⟨l, ⟨es, c, gr, _⟩, _⟩ := h.book.map
  refine ⟨h.ge, h.gr, ⟨vl, hk.obj h1 (key h1 (by decide)), h2.keeps hk fun g hg => ?_⟩, h.book.keeps hk (key h.book.cell (by decide)) fun hs => ?_⟩
  · obtain ⟨_, cs', h5⟩ := h2.block hg
    exact key h5 (by decide)
  · obtain ⟨_, cs', T', z', h3, _⟩ := hs
    rw [gr] at h3
    cases h3
theorem RRlmS.below {base : Nat} {w w' : World} (h : Keeps (RRlmS base w) w w') (hb : base ≤ w.heap.size) : Below base w w' := h.below hb fun k hk => hk.lt.1
theorem RRlmAt.off_book {w : World} {base m b : Nat} {R : Rlm} (h : RRlmAt w base m b R) : ¬ RefS base w m := by
  obtain ⟨vl, h1, _⟩ := h.blk
  rintro ⟨_, cs, T, z, h3, h4⟩
  rw [h1] at h3
  injection h3 with h3
  injection h3 with _ h3 _
  subst h3
  revert h4
  decide
theorem RRlmAt.inS {w : World} {base m b : Nat} {R : Rlm} (h : RRlmAt w base m b R) : RRlmS base w m := by
  obtain ⟨vl, h1, _⟩ := h.blk
  exact ⟨h.ge, _, _, _, h1, .inl rfl⟩
/-- A number of its own is stored. -/
theorem RRlmAt.num {w : World} {base m b : Nat} {R : Rlm} (h : RRlmAt w base m b R) (i : Nat) (z : Int) (R' : Rlm) (hb : R'.b = R.b) (hl : R'.l = R.l) (hc : ∀ vl, (rlmCells R b vl).setIfInBounds i (.int .i64 z) = rlmCells R' b vl) :
    RRlmAt (w.setCell ⟨m, i, none⟩ (.int .i64 z)) base m b R' ∧ Keeps (RRlmS base w) w (w.setCell ⟨m, i, none⟩ (.int .i64 z)) := by
  obtain ⟨vl, h1, h2⟩ := h.blk
  have hk : Keeps (· = m) w (w.setCell ⟨m, i, none⟩ (.int .i64 z)) := keeps_setCell _ _ _ rfl
  refine ⟨⟨h.ge, ⟨vl, ?_, ?_⟩, ?_⟩, hk.mono fun k hk => by rw [hk]; exact h.inS⟩
  · rw [← hc vl]
    exact heap_setCell_same w m i _ _ (.int .i64 z) h1
  · rw [hl]
    exact h2.other _ _ (row_ne_of h2 h1 rrlm_ne_ent)
  · rw [hb]
    exact h.book.keeps hk fun k hs e => h.off_book (e ▸ hs)
theorem RRlmAt.serial {w : World} {base m b : Nat} {R : Rlm} (h : RRlmAt w base m b R) (z : Int) : RRlmAt (w.setCell ⟨m, 3, none⟩ (.int .i64 z)) base m b { R with serial := z } ∧ Keeps (RRlmS base w) w (w.setCell ⟨m, 3, none⟩ (.int .i64 z)) := h.num 3 z _ rfl rfl (fun _ => rfl)
theorem RRlmAt.timed {w : World} {base m b : Nat} {R : Rlm} (h : RRlmAt w base m b R) (z : Int) : RRlmAt (w.setCell ⟨m, 2, none⟩ (.int .i64 z)) base m b { R with time := z } ∧ Keeps (RRlmS base w) w (w.setCell ⟨m, 2, none⟩ (.int .i64 z)) := h.num 2 z _ rfl rfl (fun _ => rfl)
/-- Another book, and another feed. -/
theorem RRlmAt.turned {w : World} {base m b b2 : Nat} {R : Rlm} {B : List Per} {L : List Ent} {vl2 : Value} (h : RRlmAt w base m b R) (hB : RefAt w base b2 B) (hl : RowG entC w base 115 vl2 L) :
    RRlmAt ((w.setCell ⟨m, 4, none⟩ (.pointer (some ⟨b2, 0, none⟩))).setCell ⟨m, 5, none⟩ vl2) base m b2 { R with b := B, l := L } ∧ Keeps (RRlmS base w) w ((w.setCell ⟨m, 4, none⟩ (.pointer (some ⟨b2, 0, none⟩))).setCell ⟨m, 5, none⟩ vl2) := by
  obtain ⟨vl, h1, h2⟩ := h.blk
  have hk : Keeps (· = m) w (w.setCell ⟨m, 4, none⟩ (.pointer (some ⟨b2, 0, none⟩))) := keeps_setCell _ _ _ rfl
  have hk2 : Keeps (· = m) (w.setCell ⟨m, 4, none⟩ (.pointer (some ⟨b2, 0, none⟩))) ((w.setCell ⟨m, 4, none⟩ (.pointer (some ⟨b2, 0, none⟩))).setCell ⟨m, 5, none⟩ vl2) := keeps_setCell _ _ _ rfl
  have g1 := heap_setCell_same w m 4 _ _ (.pointer (some ⟨b2, 0, none⟩)) h1
  refine ⟨⟨h.ge, ⟨vl2, heap_setCell_same _ m 5 _ _ vl2 g1, ?_⟩, (hB.keeps hk fun k hs e => h.off_book (e ▸ hs)).keeps hk2 fun k ⟨hs, cs, T, z, h3, h4⟩ e => ?_⟩, (hk.trans hk2).mono fun k hk => by rw [hk]; exact h.inS⟩
  · exact (hl.other _ _ (row_ne_of hl h1 rrlm_ne_ent)).other _ _ (row_ne_of (hl.other _ _ (row_ne_of hl h1 rrlm_ne_ent)) g1 rrlm_ne_ent)
  · rw [e, g1] at h3
    injection h3 with h3
    injection h3 with _ h3 _
    subst h3
    revert h4
    decide
end Go.Proofs.YtkhphdkjnpcnnaaGreatDoor
