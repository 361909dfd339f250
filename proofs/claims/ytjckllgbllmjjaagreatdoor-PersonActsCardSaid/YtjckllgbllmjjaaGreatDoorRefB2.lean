/- The reference's book, walked: Rekey, Raise, Off: stores in place. -/
import Derived.Test.YtjckllgbllmjjaaGreatDoorRefB1
namespace Go.Proofs.YtjckllgbllmjjaaGreatDoor
open Go.RowKit

/-- What is known where a name stands at k: the slice and its cells. -/
theorem RefAt.cells {w : World} {base b : Nat} {L : List Per} (h : RefAt w base b L) {k : Nat} (hk : k < L.length) :
    ∃ g c, w.cell? ⟨b, 0, none⟩ = some (.slice (some ⟨g, 0, none⟩) L.length c) ∧ g ≠ b ∧
      (w.cell? ⟨g, k * 4, none⟩ = some (.string (bs L[k].name)) ∧ w.cell? ⟨g, k * 4 + 1, none⟩ = some (.int .i64 L[k].key) ∧ w.cell? ⟨g, k * 4 + 2, none⟩ = some (.int .i64 L[k].epoch) ∧ w.cell? ⟨g, k * 4 + 3, none⟩ = some (.bool L[k].off)) ∧
      (∀ i, w.frozen? ⟨g, i, none⟩ = false) ∧ RefS base w g ∧
      (∀ q : Per, q.name = L[k].name → ∀ w', w'.ownsRow base 24 4 (.slice (some ⟨g, 0, none⟩) L.length c) L.length (flatP (L.set k q)) → Keeps (RefS base w) w w' → w'.heap[b]? = w.heap[b]? → RefAt w' base b (L.set k q)) ∧
      w.ownsRow base 24 4 (.slice (some ⟨g, 0, none⟩) L.length c) L.length (flatP L) := by
  obtain ⟨hge, v, hb, ho⟩ := h
  have ho' := ho
  obtain ⟨hl, ⟨_, h0⟩ | ⟨g, cap, cur, rfl, hbg, hg, hc, hm, hsz, ht⟩⟩ := ho
  · omega
  obtain ⟨h0, h1, h2, h3⟩ := flatP_get L k hk
  have key : ∀ i u, i < L.length * 4 → (flatP L)[i]? = some u → w.cell? ⟨g, i, none⟩ = some u := by
    intro i u hi hu
    rw [cell_of_row w g i _ _ _ hg]
    rw [← ht, List.getElem?_take, if_pos hi] at hu
    simpa using hu
  refine ⟨g, cap, by rw [cell_of_row w b 0 _ _ _ hb]; rfl, ?_, ⟨key _ _ (by omega) h0, key _ _ (by omega) h1, key _ _ (by omega) h2, key _ _ (by omega) h3⟩, fun i => frozen_of_row _ _ _ _ _ hg, ⟨hbg, _, _, _, hg, .inr rfl⟩, fun q _ w' ho2 _ hb2 => ⟨hge, _, hb2.trans hb, by rw [List.length_set]; exact ho2⟩, ho'⟩
  rintro rfl
  rw [hb] at hg
  injection hg with hg
  injection hg with _ hg _
  exact absurd hg (by decide)
theorem keepsR_trans {base : Nat} {u v w : World} (h : Keeps (RefS base u) u v) (k : Keeps (RefS base v) v w) : Keeps (RefS base u) u w := by
  refine ⟨k.os.trans h.os, k.tape.trans h.tape, k.output.trans h.output, Nat.le_trans h.size k.size, fun i hi hs => ?_⟩
  have h1 := h.block i hi hs
  refine (k.block i (Nat.lt_of_lt_of_le hi h.size) ?_).trans h1
  rintro ⟨h2, cs, T, z, h3, h4⟩
  exact hs ⟨h2, cs, T, z, h1.symm.trans h3, h4⟩
theorem keepsR_below {base : Nat} {u v w : World} (h : Below u.heap.size u v) (k : Keeps (RefS base v) v w) : Keeps (RefS base u) u w := keepsR_trans (Keeps.of_below h) k
theorem findIx_none {L : List Per} {n : List UInt8} (h : idxP L n = none) : findIx L n = -1 := by unfold findIx; rw [h]
theorem findIx_some {L : List Per} {n : List UInt8} {k : Nat} (h : idxP L n = some k) : findIx L n = (k : Int) := by unfold findIx; rw [h]

set_option maxRecDepth 100000 in
theorem offR_any (base b : Nat) (L : List Per) (n : List UInt8) (o : Bool) (w : World) (hB : RefAt w base b L) (hs : SortedP L) (hm : L.length ≤ 20) :
    Calls Tryz.prog 17 #[.pointer (some ⟨b, 0, none⟩), .string (bs n), .bool o] w fun e w' => e = .returned (.int .i64 ((offOf L n o).1 : Nat)) ∧ Keeps (RefS base w) w w' ∧ RefAt w' base b (offOf L n o).2 := by
  have hf := Lib.hid (findR_any base b L n w hB (by omega))
  cases hi : idxP L n with
  | none =>
    have hr := Lib.hid (show offOf L n o = (5, L) by unfold offOf; rw [(idxP_none hi).1])
    rw [findIx_none hi] at hf
    go_enter Tryz.func17, Tryz.ntmps17
    go_wp2_with fail
    refine hf.out.mono ?_
    rintro e w1 ⟨rfl, hb1⟩
    go_wp2_with fail
    go_ret
    exact ⟨by rw [hr.out]; rfl, Keeps.of_below hb1, by rw [hr.out]; exact hB.below hb1⟩
  | some k =>
    obtain ⟨hk, hfp, hnm⟩ := idxP_some hi
    rw [findIx_some hi] at hf
    by_cases ho : L[k].off = o
    · have hr := Lib.hid (show offOf L n o = (6, L) by unfold offOf; rw [hfp]; exact if_pos ho)
      go_enter Tryz.func17, Tryz.ntmps17
      go_wp2_with fail
      refine hf.out.mono ?_
      rintro e w1 ⟨rfl, hb1⟩
      obtain ⟨g, c, hc, hgb, ⟨c0, c1, c2, c3⟩, hfz, hS, hset, hown⟩ := (hB.below hb1).cells hk
      have hset := Lib.hid hset
      have hown := Lib.hid hown
      have hS := Lib.hid hS
      rw [ho] at c3
      clear c0 c1 c2 hi hfp hnm ho
      go_wp2_with fail
      go_ret
      exact ⟨by rw [hr.out]; rfl, Keeps.of_below hb1, by rw [hr.out]; exact hB.below hb1⟩
    · have hr := Lib.hid (show offOf L n o = (0, L.set k { L[k] with off := o }) by unfold offOf; rw [hfp]; exact (if_neg ho).trans (by rw [setP_set hs hk { L[k] with off := o } rfl]))
      go_enter Tryz.func17, Tryz.ntmps17
      go_wp2_with fail
      refine hf.out.mono ?_
      rintro e w1 ⟨rfl, hb1⟩
      obtain ⟨g, c, hc, hgb, ⟨c0, c1, c2, c3⟩, hfz, hS, hset, hown⟩ := (hB.below hb1).cells hk
      have hfz := hfz (k * 4 + 3)
      have ho2 : (L[k].off == o) = false := by simpa using ho
      have hfin : RefAt (w1.setCell ⟨g, k * 4 + 3, none⟩ (.bool o)) base b (L.set k { L[k] with off := o }) := hset { L[k] with off := o } rfl _ (by rw [← (flatP_set L k hk).2.2 o]; exact ownsRow_setCell hown _ _) (keeps_setCell _ _ _ hS) (heap_setCell_other _ _ _ _ (Ne.symm hgb))
      have hfin := Lib.hid hfin
      have hS := Lib.hid hS
      clear hset hown c0 c1 c2 hi hfp hnm ho
      go_wp2_with fail
      go_ret
      exact ⟨by rw [hr.out]; rfl, keepsR_below hb1 (keeps_setCell _ _ _ hS.out), by rw [hr.out]; exact hfin.out⟩
set_option maxRecDepth 100000 in
theorem raiseR_any (base b : Nat) (L : List Per) (n : List UInt8) (w : World) (hB : RefAt w base b L) (hs : SortedP L) (hm : L.length ≤ 20) (hG : ∀ p ∈ L, 1 ≤ p.epoch ∧ p.epoch ≤ 1073741824) :
    Calls Tryz.prog 15 #[.pointer (some ⟨b, 0, none⟩), .string (bs n)] w fun e w' => e = .returned (.tuple #[.int .i64 (raiseOf L n).1, .int .i64 ((raiseOf L n).2.1 : Nat)]) ∧ Keeps (RefS base w) w w' ∧ RefAt w' base b (raiseOf L n).2.2 := by
  have hf := Lib.hid (findR_any base b L n w hB (by omega))
  cases hi : idxP L n with
  | none =>
    have hr := Lib.hid (show raiseOf L n = (0, 5, L) by unfold raiseOf; rw [(idxP_none hi).1])
    rw [findIx_none hi] at hf
    go_enter Tryz.func15, Tryz.ntmps15
    go_wp2_with fail
    refine hf.out.mono ?_
    rintro e w1 ⟨rfl, hb1⟩
    go_wp2_with fail
    go_ret2
    exact ⟨by rw [hr.out]; rfl, Keeps.of_below hb1, by rw [hr.out]; exact hB.below hb1⟩
  | some k =>
    obtain ⟨hk, hfp, hnm⟩ := idxP_some hi
    rw [findIx_some hi] at hf
    obtain ⟨hp1, hp2⟩ := hG _ (List.getElem_mem hk)
    by_cases ho : 1073741824 ≤ L[k].epoch
    · have hr := Lib.hid (show raiseOf L n = (0, 2, L) by unfold raiseOf; rw [hfp]; exact if_pos ho)
      go_enter Tryz.func15, Tryz.ntmps15
      go_wp2_with fail
      refine hf.out.mono ?_
      rintro e w1 ⟨rfl, hb1⟩
      obtain ⟨g, c, hc, hgb, ⟨c0, c1, c2, c3⟩, hfz, hS, hset, hown⟩ := (hB.below hb1).cells hk
      have hset := Lib.hid hset
      have hown := Lib.hid hown
      have hS := Lib.hid hS
      clear c0 c1 c3 hi hfp hnm
      go_wp2_with fail
      go_ret2
      exact ⟨by rw [hr.out]; rfl, Keeps.of_below hb1, by rw [hr.out]; exact hB.below hb1⟩
    · have hr := Lib.hid (show raiseOf L n = (L[k].epoch + 1, 0, L.set k { L[k] with epoch := L[k].epoch + 1 }) by unfold raiseOf; rw [hfp]; exact (if_neg ho).trans (by rw [setP_set hs hk { L[k] with epoch := L[k].epoch + 1 } rfl]))
      go_enter Tryz.func15, Tryz.ntmps15
      go_wp2_with fail
      refine hf.out.mono ?_
      rintro e w1 ⟨rfl, hb1⟩
      obtain ⟨g, c, hc, hgb, ⟨c0, c1, c2, c3⟩, hfz, hS, hset, hown⟩ := (hB.below hb1).cells hk
      have hfz := hfz (k * 4 + 2)
      have hd := (World.cell?_setCell_other (w := w1) (v := .int .i64 (L[k].epoch + 1)) (a := ⟨g, k * 4 + 2, none⟩) (b := ⟨b, 0, none⟩) (fun e => hgb (congrArg Addr.block e))).trans hc
      have he := World.cell?_setCell_same' w1 ⟨g, k * 4 + 2, none⟩ (.int .i64 (L[k].epoch + 1)) (by rw [c2]; rfl)
      have hfin : RefAt (w1.setCell ⟨g, k * 4 + 2, none⟩ (.int .i64 (L[k].epoch + 1))) base b (L.set k { L[k] with epoch := L[k].epoch + 1 }) := hset { L[k] with epoch := L[k].epoch + 1 } rfl _ (by rw [← (flatP_set L k hk).2.1 (L[k].epoch + 1)]; exact ownsRow_setCell hown _ _) (keeps_setCell _ _ _ hS) (heap_setCell_other _ _ _ _ (Ne.symm hgb))
      have hfin := Lib.hid hfin
      have hS := Lib.hid hS
      clear hset hown c0 c1 c3 hi hfp hnm
      go_wp2_with fail
      go_ret2
      exact ⟨by rw [hr.out]; rfl, keepsR_below hb1 (keeps_setCell _ _ _ hS.out), by rw [hr.out]; exact hfin.out⟩

set_option maxHeartbeats 1000000 in
set_option maxRecDepth 100000 in
theorem rekeyR_any (base b : Nat) (L : List Per) (n : List UInt8) (x : Int) (w : World) (hB : RefAt w base b L) (hs : SortedP L) (hm : L.length ≤ 20) (hG : ∀ p ∈ L, 1 ≤ p.epoch ∧ p.epoch ≤ 1073741824) :
    Calls Tryz.prog 13 #[.pointer (some ⟨b, 0, none⟩), .string (bs n), .int .i64 x] w fun e w' => e = .returned (.int .i64 ((rekeyOf L n x).1 : Nat)) ∧ Keeps (RefS base w) w w' ∧ RefAt w' base b (rekeyOf L n x).2 := by
  have hf := Lib.hid (findR_any base b L n w hB (by omega))
  cases hi : idxP L n with
  | none =>
    have hr := Lib.hid (show rekeyOf L n x = (5, L) by unfold rekeyOf; rw [(idxP_none hi).1])
    rw [findIx_none hi] at hf
    go_enter Tryz.func13, Tryz.ntmps13
    go_wp2_with fail
    refine hf.out.mono ?_
    rintro e w1 ⟨rfl, hb1⟩
    go_wp2_with fail
    go_ret
    exact ⟨by rw [hr.out]; rfl, Keeps.of_below hb1, by rw [hr.out]; exact hB.below hb1⟩
  | some k =>
    obtain ⟨hk, hfp, hnm⟩ := idxP_some hi
    rw [findIx_some hi] at hf
    obtain ⟨hp1, hp2⟩ := hG _ (List.getElem_mem hk)
    have hkw := Lib.hid (fun wx => isKey_any x wx)
    have h2 : isKey x = false ∨ isKey x = true := by cases isKey x <;> simp
    rcases h2 with h2 | h2
    · have hr := Lib.hid (show rekeyOf L n x = (10, L) by unfold rekeyOf; rw [hfp]; exact if_pos h2)
      rw [h2] at hkw
      clear h2 hi hfp hnm
      go_enter Tryz.func13, Tryz.ntmps13
      go_wp2_with fail
      refine hf.out.mono ?_
      rintro e w1 ⟨rfl, hb1⟩
      go_wp2_with fail
      refine (hkw.out _).mono ?_
      rintro e w2 ⟨rfl, rfl⟩
      go_wp2_with fail
      go_ret
      exact ⟨by rw [hr.out]; rfl, Keeps.of_below hb1, by rw [hr.out]; exact hB.below hb1⟩
    rw [h2] at hkw
    by_cases h3 : L[k].key = x
    · have hr := Lib.hid (show rekeyOf L n x = (6, L) by unfold rekeyOf; rw [hfp]; exact (if_neg (by rw [h2]; decide)).trans (if_pos h3))
      have h3b : (L[k].key == x) = true := by rw [h3]; simp
      clear h2 hi hfp hnm h3
      go_enter Tryz.func13, Tryz.ntmps13
      go_wp2_with fail
      refine hf.out.mono ?_
      rintro e w1 ⟨rfl, hb1⟩
      obtain ⟨g, c, hc, hgb, ⟨c0, c1, c2, c3⟩, hfz, hS, hset, hown⟩ := (hB.below hb1).cells hk
      have hset := Lib.hid hset
      have hown := Lib.hid hown
      have hS := Lib.hid hS
      clear c0 c2 c3
      go_wp2_with fail
      refine (hkw.out _).mono ?_
      rintro e w2 ⟨rfl, rfl⟩
      go_wp2_with fail
      go_ret
      exact ⟨by rw [hr.out]; rfl, Keeps.of_below hb1, by rw [hr.out]; exact hB.below hb1⟩
    have h3b : (L[k].key == x) = false := by simpa using h3
    by_cases ho : 1073741824 ≤ L[k].epoch
    · have hr := Lib.hid (show rekeyOf L n x = (2, L) by unfold rekeyOf; rw [hfp]; exact (if_neg (by rw [h2]; decide)).trans ((if_neg h3).trans (if_pos ho)))
      clear h2 hi hfp hnm h3
      go_enter Tryz.func13, Tryz.ntmps13
      go_wp2_with fail
      refine hf.out.mono ?_
      rintro e w1 ⟨rfl, hb1⟩
      obtain ⟨g, c, hc, hgb, ⟨c0, c1, c2, c3⟩, hfz, hS, hset, hown⟩ := (hB.below hb1).cells hk
      have hset := Lib.hid hset
      have hown := Lib.hid hown
      have hS := Lib.hid hS
      clear c0 c3
      go_wp2_with fail
      refine (hkw.out _).mono ?_
      rintro e w2 ⟨rfl, rfl⟩
      go_wp2_with fail
      go_ret
      exact ⟨by rw [hr.out]; rfl, Keeps.of_below hb1, by rw [hr.out]; exact hB.below hb1⟩
    · have hr := Lib.hid (show rekeyOf L n x = (0, L.set k { L[k] with key := x, epoch := L[k].epoch + 1 }) by unfold rekeyOf; rw [hfp]; exact (if_neg (by rw [h2]; decide)).trans ((if_neg h3).trans ((if_neg ho).trans (by rw [setP_set hs hk { L[k] with key := x, epoch := L[k].epoch + 1 } rfl]))))
      go_enter Tryz.func13, Tryz.ntmps13
      go_wp2_with fail
      refine hf.out.mono ?_
      rintro e w1 ⟨rfl, hb1⟩
      obtain ⟨g, c, hc, hgb, ⟨c0, c1, c2, c3⟩, hfz, hS, hset, hown⟩ := (hB.below hb1).cells hk
      have hfz1 := hfz (k * 4 + 1)
      have hfz2 : (w1.setCell ⟨g, k * 4 + 1, none⟩ (.int .i64 x)).frozen? ⟨g, k * 4 + 2, none⟩ = false := by rw [World.frozen?_setCell]; exact hfz _
      have hd := (World.cell?_setCell_other (w := w1) (v := .int .i64 x) (a := ⟨g, k * 4 + 1, none⟩) (b := ⟨b, 0, none⟩) (fun e => hgb (congrArg Addr.block e))).trans hc
      have he := (World.cell?_setCell_other (w := w1) (v := .int .i64 x) (a := ⟨g, k * 4 + 1, none⟩) (b := ⟨g, k * 4 + 2, none⟩) (fun e => by have := congrArg Addr.off e; simp at this)).trans c2
      have hfl : ((flatP L).set (k * 4 + 1) (.int .i64 x)).set (k * 4 + 2) (.int .i64 (L[k].epoch + 1)) = flatP (L.set k { L[k] with key := x, epoch := L[k].epoch + 1 }) := by
        rw [(flatP_set L k hk).1 x, (flatP_set (L.set k { L[k] with key := x }) k (by simpa using hk)).2.1 (L[k].epoch + 1)]
        simp
      have hfin : RefAt ((w1.setCell ⟨g, k * 4 + 1, none⟩ (.int .i64 x)).setCell ⟨g, k * 4 + 2, none⟩ (.int .i64 (L[k].epoch + 1))) base b (L.set k { L[k] with key := x, epoch := L[k].epoch + 1 }) := hset { L[k] with key := x, epoch := L[k].epoch + 1 } rfl _ (by rw [← hfl]; exact ownsRow_setCell (ownsRow_setCell hown _ _) _ _) ((keeps_setCell _ _ _ hS).trans (keeps_setCell _ _ _ hS)) ((heap_setCell_other _ _ _ _ (Ne.symm hgb)).trans (heap_setCell_other _ _ _ _ (Ne.symm hgb)))
      have hfin := Lib.hid hfin
      have hS := Lib.hid hS
      clear hset hown hfl hfz c0 c3 hi hfp hnm h3 h2
      go_wp2_with fail
      refine (hkw.out _).mono ?_
      rintro e w2 ⟨rfl, rfl⟩
      go_wp2_with fail
      go_ret
      exact ⟨by rw [hr.out]; rfl, keepsR_below hb1 ((keeps_setCell _ _ _ hS.out).trans (keeps_setCell _ _ _ hS.out)), by rw [hr.out]; exact hfin.out⟩
end Go.Proofs.YtjckllgbllmjjaaGreatDoor
