/- Names: the numbers of package api, and of its errors: walked. -/
import Derived.Test.YtgainbpflncgcaaDoorLaw1
namespace Go.Proofs.YtgainbpflncgcaaDoor
open Go.RowKit

/-- A slice of ints, as a list. -/
def IntsAt (w : World) (v : Value) (xs : List Int) : Prop :=
  ∃ a c, v = .slice a xs.length c ∧ xs.length ≤ maxLen ∧ ∀ i (h : i < xs.length), ∃ b o, a = some ⟨b, o, none⟩ ∧ w.cell? ⟨b, o + i, none⟩ = some (.int .i64 xs[i])
theorem IntsAt.below {w w' : World} {v : Value} {xs : List Int} (h : IntsAt w v xs) (hb : Below w.heap.size w w') : IntsAt w' v xs := by
  obtain ⟨a, c, rfl, hm, hc⟩ := h
  exact ⟨a, c, rfl, hm, fun i hi => let ⟨b, o, e, h⟩ := hc i hi; ⟨b, o, e, cell_below hb h⟩⟩
set_option maxHeartbeats 400000 in
set_option maxRecDepth 100000 in
theorem sameInts_any (xs ys : List Int) (v1 v2 : Value) (w : World) (h1 : IntsAt w v1 xs) (h2 : IntsAt w v2 ys) :
    Calls Tryd.prog 7 #[v1, v2] w fun e w' => e = .returned (.bool (decide (xs = ys))) ∧ Below w.heap.size w w' := by
  obtain ⟨a1, c1, rfl, hm1, g1⟩ := h1
  obtain ⟨a2, c2, rfl, hm2, g2⟩ := h2
  unfold maxLen at hm1 hm2
  by_cases hl : xs.length = ys.length
  · by_cases hn : xs.length = 0
    · have e1 := List.eq_nil_of_length_eq_zero hn
      have e2 := List.eq_nil_of_length_eq_zero (hl ▸ hn)
      subst e1 e2
      clear hl hn g1 g2
      go_enter Tryd.func7, Tryd.ntmps7
      go_wp2
      refine wp_loop_rounds 1 ?_
      rw [rounds_succ]
      go_wp2
      go_ret
      exact ⟨rfl, Below.refl _ _⟩
    · obtain ⟨b1, o1, rfl, -⟩ := g1 0 (by omega)
      obtain ⟨b2, o2, rfl, -⟩ := g2 0 (by omega)
      have k1 : ∀ i, i < xs.length → w.cell? ⟨b1, o1 + i, none⟩ = some (.int .i64 (xs.getD i 0)) := fun i hi => by
        obtain ⟨b, o, e, h⟩ := g1 i hi
        cases e
        rw [h]; simp [hi]
      have k2 : ∀ i, i < xs.length → w.cell? ⟨b2, o2 + i, none⟩ = some (.int .i64 (ys.getD i 0)) := fun i hi => by
        obtain ⟨b, o, e, h⟩ := g2 i (by omega)
        cases e
        rw [h]; simp [show i < ys.length by omega]
      have hc1 := Lib.hid k1
      have hc2 := Lib.hid k2
      clear k1 k2 g1 g2
      have hfin : Hid (∀ j, j = xs.length → (∀ i, i < j → xs.getD i 0 = ys.getD i 0) → decide (xs = ys) = true) := fun j hj h => by
        refine decide_eq_true (List.ext_getElem hl fun i h1 h2 => ?_)
        have := h i (by omega)
        simpa [h1, h2] using this
      have hne : Hid (∀ j, j < xs.length → (xs.getD j 0 != ys.getD j 0) = true → decide (xs = ys) = false) := fun j hj h => by
        refine decide_eq_false fun e => ?_
        rw [e] at h
        simp at h
      rw [← hl]
      generalize decide (xs = ys) = r at *
      generalize hN : xs.length = N at *
      clear hl
      have hm1 : N ≤ 9223372036854775807 := by omega
      go_enter Tryd.func7, Tryd.ntmps7
      go_wp2
      go_loopw [5] (fun i wr => ∃ j n : Nat, j ≤ N ∧ i = .int .i64 j ∧ wr = w.drewN n ∧ ∀ i, i < j → xs.getD i 0 = ys.getD i 0) (fun i _ => N - (intOf i).toNat)
      case atStart => exact ⟨0, 0, Nat.zero_le _, rfl, rfl, fun i h => by omega⟩
      case round =>
        obtain ⟨j, n, hj, rfl, rfl, hall⟩ := hrel
        have hall := Lib.hid hall
        by_cases hlt : j < N
        · have k1 := hc1.out j hlt
          have k2 := hc2.out j hlt
          have hne := Lib.hid (hne.out j hlt)
          have hx : Hid ((xs.getD j 0 != ys.getD j 0) = false → ∀ i, i < j + 1 → xs.getD i 0 = ys.getD i 0) := fun h i hi => by
            rcases Nat.lt_succ_iff_lt_or_eq.1 hi with h' | rfl
            · exact hall.out i h'
            · simpa using h
          generalize xs.getD j 0 = x at *
          generalize ys.getD j 0 = y at *
          by_cases hxy : (x != y) = true
          · have hr := Lib.hid (hne.out hxy)
            go_wp2
            go_quiet (fail)
            go_wp2
            go_ret
            exact ⟨ret_bool hr.out.symm, below_drewN (below_drewN (Below.refl _ _) _) _⟩
          · have hxy : (x != y) = false := by simpa using hxy
            have hx := Lib.hid (hx.out hxy)
            go_wp2
            go_quiet (fail)
            go_wp2
            go_roundw
            case rel => exact ⟨j + 1, _, by omega, by go_num, rfl, hx.out⟩
            case measure => simp [intOf]; omega
        · have hr := Lib.hid (hfin.out j (by omega) hall.out)
          go_wp2
          go_ret
          exact ⟨ret_bool hr.out.symm, below_drewN (Below.refl _ _) _⟩
  · have hr := Lib.hid (show decide (xs = ys) = false from decide_eq_false fun e => hl (by rw [e]))
    have hl : ((xs.length : Int) != (ys.length : Int)) = true := by rw [bne_iff_ne]; omega
    clear g1 g2
    generalize xs.length = n1 at *
    generalize ys.length = n2 at *
    go_enter Tryd.func7, Tryd.ntmps7
    go_wp2
    go_ret
    exact ⟨ret_bool hr.out.symm, Below.refl _ _⟩

theorem new_any (s : ByteArray) (w : World) :
    Calls Tryd.prog 10 #[.string s] w fun e w' => e = .returned (.iface 65 (.pointer (some ⟨w.heap.size, 0, none⟩))) ∧ w' = w.alloc (.cells #[.string s] 67) := by
  go_enter Tryd.func10, Tryd.ntmps10
  go_wp2
  go_ret
  exact ⟨rfl, rfl⟩
theorem codeNew_any {E : Nat → Addr} (s : ByteArray) (w w1 : World) (hL : LaidR E w) (h1 : w1 = w.alloc (.cells #[.string s] 67)) :
    Calls Tryd.prog 8 #[.iface 65 (.pointer (some ⟨w.heap.size, 0, none⟩))] w1 fun e w' => e = .returned (.tuple #[.int .i64 (-1), .int .i64 (-1)]) ∧ Below w.heap.size w w' := by
  subst h1
  have hb : Below w.heap.size w (w.alloc (.cells #[.string s] 67)) := (Below.refl _ _).alloc (Nat.le_refl _) _
  refine (code_out (E := E) ⟨w.heap.size, 0, none⟩ #[.string s] 67 _ (hL.below hb) (heap_alloc_new w _) (fun c h1 h2 e => ?_)).mono fun e w' ⟨he, hb'⟩ => ⟨he, below_trans hb hb'⟩
  obtain ⟨cs, t, hr⟩ := hL.row c h1 h2
  rw [← e] at hr
  simp at hr
def limits : List Int := [8, 1000000006, 1073741824, 1000000, 20, 60, 40, 10, 4000, 262144, 80, 16]
theorem limits_cells (w : World) (e : TypeId) : IntsAt (w.alloc (.cells #[.int .i64 8, .int .i64 1000000006, .int .i64 1073741824, .int .i64 1000000, .int .i64 20, .int .i64 60, .int .i64 40, .int .i64 10, .int .i64 4000, .int .i64 262144, .int .i64 80, .int .i64 16] e)) (.slice (some ⟨w.heap.size, 0, none⟩) 12 12) limits := by
  refine ⟨some ⟨w.heap.size, 0, none⟩, 12, rfl, by decide, fun i hi => ⟨w.heap.size, 0, rfl, ?_⟩⟩
  rw [World.cell?_alloc_new, Nat.zero_add]
  have hi' : i < 12 := hi
  rcases i with _ | _ | _ | _ | _ | _ | _ | _ | _ | _ | _ | _ | i
  all_goals first | rfl | omega

set_option maxHeartbeats 1000000 in
set_option maxRecDepth 100000 in
theorem names_any {E : Nat → Addr} (w : World) (hL : LaidR E w) :
    Calls Tryd.prog 3 #[] w fun e w' => e = .returned (.bool true) ∧ Below w.heap.size w w' := by
  have i1 := limits_cells w 3
  have hb1 : Below w.heap.size w (w.alloc (.cells #[.int .i64 8, .int .i64 1000000006, .int .i64 1073741824, .int .i64 1000000, .int .i64 20, .int .i64 60, .int .i64 40, .int .i64 10, .int .i64 4000, .int .i64 262144, .int .i64 80, .int .i64 16] 3)) := (Below.refl _ _).alloc (Nat.le_refl _) _
  have i2 := limits_cells (w.alloc (.cells #[.int .i64 8, .int .i64 1000000006, .int .i64 1073741824, .int .i64 1000000, .int .i64 20, .int .i64 60, .int .i64 40, .int .i64 10, .int .i64 4000, .int .i64 262144, .int .i64 80, .int .i64 16] 3)) 3
  have hb2a : Below (w.alloc (.cells #[.int .i64 8, .int .i64 1000000006, .int .i64 1073741824, .int .i64 1000000, .int .i64 20, .int .i64 60, .int .i64 40, .int .i64 10, .int .i64 4000, .int .i64 262144, .int .i64 80, .int .i64 16] 3)).heap.size (w.alloc (.cells #[.int .i64 8, .int .i64 1000000006, .int .i64 1073741824, .int .i64 1000000, .int .i64 20, .int .i64 60, .int .i64 40, .int .i64 10, .int .i64 4000, .int .i64 262144, .int .i64 80, .int .i64 16] 3)) ((w.alloc (.cells #[.int .i64 8, .int .i64 1000000006, .int .i64 1073741824, .int .i64 1000000, .int .i64 20, .int .i64 60, .int .i64 40, .int .i64 10, .int .i64 4000, .int .i64 262144, .int .i64 80, .int .i64 16] 3)).alloc (.cells #[.int .i64 8, .int .i64 1000000006, .int .i64 1073741824, .int .i64 1000000, .int .i64 20, .int .i64 60, .int .i64 40, .int .i64 10, .int .i64 4000, .int .i64 262144, .int .i64 80, .int .i64 16] 3)) := (Below.refl _ _).alloc (Nat.le_refl _) _
  have hs := sameInts_any limits limits _ _ _ (i1.below hb2a) i2
  have hb2 := below_trans hb1 hb2a
  rw [decide_eq_true (rfl : limits = limits), World.size_alloc] at hs
  have hs := Lib.hid hs
  have hb2 := Lib.hid hb2
  clear i1 i2 hb1 hb2a
  go_enter Tryd.func3, Tryd.ntmps3
  go_wp2_with fail
  refine hs.out.mono ?_
  rintro e w1 ⟨rfl, hb3⟩
  have hb := below_trans hb2.out hb3
  have hL1 := hL.below hb
  have hL1' := hL1.laid
  obtain ⟨e1, e2, e3, e4, e5, e6, e7, e8, e9, e10, e11, e12, e13, e14, e15, e16⟩ := hL1'
  simp only [errV] at e1 e2 e3 e4 e5 e6 e7 e8 e9 e10 e11 e12 e13 e14 e15 e16
  have hb := Lib.hid hb
  clear hb3
  go_wp2_with fail
  go_loopw [4] (fun i wr => ∃ j : Nat, j ≤ 16 ∧ i = .int .i64 j ∧ Below w.heap.size w wr ∧ ∀ j, j < 16 → wr.cell? ⟨w1.heap.size, j, none⟩ = some (.iface 65 (.pointer (some (E (j + 1)))))) (fun i _ => 16 - (intOf i).toNat)
  case atStart =>
    refine ⟨0, by omega, rfl, hb.out.alloc hb.out.size _, fun j hj => ?_⟩
    rw [World.cell?_alloc_new]
    exact errs_get E _ j hj
  case round =>
    obtain ⟨j, hj, rfl, hbr, hcells⟩ := hrel
    by_cases hlt : j < 16
    · have hcell := hcells j hlt
      have hcells := Lib.hid hcells
      have hLr := hL.below hbr
      have hB : Below wr.heap.size wr (wr.alloc (.cells #[.int .i64 7, .iface 65 (.pointer (some (E (j + 1))))] 31)) := (Below.refl _ _).alloc (Nat.le_refl _) _
      have hc := code_fault wr.heap.size 0 7 (j + 1) _ (hLr.below hB) (by omega) (by omega) (by simp) (by simp)
      rw [show ((j + 1 : Nat) : Int) = (j : Int) + 1 by omega] at hc
      have hc := Lib.hid hc
      have hB := Lib.hid hB
      have hbr := Lib.hid hbr
      have hne : (((j : Int) + 1) != ((j : Int) + 1)) = false := by simp
      clear e1 e2 e3 e4 e5 e6 e7 e8 e9 e10 e11 e12 e13 e14 e15 e16
      go_wp2_with fail
      refine hc.out.mono ?_
      rintro e w2 ⟨rfl, hb2⟩
      have hb2 : Below wr.heap.size wr w2 := below_trans hB.out hb2
      have hL2 := hLr.below hb2
      have hcell2 := cell_below hb2 hcell
      have hd := coded_self (E := E) (j + 1) w2 hL2 (by omega)
      rw [show ((j + 1 : Nat) : Int) = (j : Int) + 1 by omega, errV_succ] at hd
      have hd := Lib.hid hd
      have hb2 := Lib.hid hb2
      clear hcell
      go_wp2_with fail
      refine hd.out.mono ?_
      rintro e w3 ⟨rfl, hb3⟩
      have hb3 := Lib.hid (below_trans hb2.out hb3)
      go_wp2_with fail
      go_roundw
      case rel => exact ⟨j + 1, by omega, by go_num, below_trans hbr.out hb3.out, fun i hi => cell_below hb3.out (hcells.out i hi)⟩
      case measure => simp [intOf]; omega
    · have hLr := hL.below hbr
      have hbr := Lib.hid hbr
      clear hcells e1 e2 e3 e4 e5 e6 e7 e8 e9 e10 e11 e12 e13 e14 e15 e16
      go_wp2_with fail
      refine (new_any _ _).mono ?_
      rintro e w2 ⟨rfl, hw2⟩
      have hc := Lib.hid (codeNew_any (E := E) _ wr w2 hLr hw2)
      clear hw2
      go_wp2_with fail
      refine hc.out.mono ?_
      rintro e w3 ⟨rfl, hb3⟩
      have hL3 := hLr.below hb3
      have hd := coded_any (E := E) 0 0 w3 hL3 (by omega)
      rw [show codedB 0 0 = true by decide, errV_zero] at hd
      have hd := Lib.hid hd
      go_wp2_with fail
      refine hd.out.mono ?_
      rintro e w4 ⟨rfl, hb4⟩
      go_wp2_with fail
      go_ret
      exact ⟨rfl, hbr.out.trans ((below_trans hb3 hb4).mono hbr.out.size)⟩
end Go.Proofs.YtgainbpflncgcaaDoor
