/- The laws of chapter 1, walked: marked, MarkTells. -/
import Derived.Test.YtgainbpflncgcaaDoorCode
namespace Go.Proofs.YtgainbpflncgcaaDoor
open Go.RowKit

theorem markOf_5a : markOf 5 [97] = (1388, 0) := by decide
theorem rightOf_5a0 : rightOf 5 [97] 1388 = 0 := by decide
theorem rightOf_5a1 : rightOf 5 [97] 1389 = 9 := by decide
set_option maxHeartbeats 400000 in
theorem marked_any {E : Nat → Addr} (w : World) (hL : LaidR E w) :
    Calls Tryd.prog 11 #[] w fun e w' => e = .returned (.bool true) ∧ Below w.heap.size w w' := by
  have h1 : Hid (∀ w, Laid E w → Calls Tryd.prog 12 #[.int .i64 5, .string ⟨#[97]⟩] w fun e w' => e = .returned (.tuple #[.int .i64 1388, .nilIface]) ∧ Below w.heap.size w w') := fun w hL => by
    have h := of_any (E := E) 5 ⟨#[97]⟩ w hL (by decide)
    rw [show markOf 5 (ByteArray.mk #[97]).data.toList = (1388, 0) from markOf_5a] at h
    exact h
  have h2 : Hid (∀ w, Laid E w → Calls Tryd.prog 14 #[.int .i64 5, .string ⟨#[97]⟩, .int .i64 1388] w fun e w' => e = .returned .nilIface ∧ Below w.heap.size w w') := fun w hL => by
    have h := right_any (E := E) 5 1388 ⟨#[97]⟩ w hL (by decide)
    rw [show rightOf 5 (ByteArray.mk #[97]).data.toList 1388 = 0 from rightOf_5a0] at h
    exact h
  have h3 : Hid (∀ w, Laid E w → Calls Tryd.prog 14 #[.int .i64 5, .string ⟨#[97]⟩, .int .i64 1389] w fun e w' => e = .returned (errV E 9) ∧ Below w.heap.size w w') := fun w hL => by
    have h := right_any (E := E) 5 1389 ⟨#[97]⟩ w hL (by decide)
    rw [show rightOf 5 (ByteArray.mk #[97]).data.toList 1389 = 9 from rightOf_5a1] at h
    exact h
  go_enter Tryd.func11, Tryd.ntmps11
  go_wp2_with fail
  refine (h1.out _ hL.laid).mono ?_
  rintro e w1 ⟨rfl, hb1⟩
  have hL1 := hL.below hb1
  go_wp2_with fail
  refine (h2.out _ hL1.laid).mono ?_
  rintro e w2 ⟨rfl, hb2⟩
  have hL2 := hL1.below hb2
  go_wp2_with fail
  refine (h3.out _ hL2.laid).mono ?_
  rintro e w3 ⟨rfl, hb3⟩
  have hL3 := hL2.below hb3
  have h4 := Lib.hid (coded_any (E := E) 9 9 w3 hL3 (by decide))
  go_wp2_with fail
  refine h4.out.mono ?_
  rintro e w4 ⟨rfl, hb4⟩
  rw [show codedB 9 9 = true by decide]
  go_wp2_with fail
  go_ret
  exact ⟨rfl, below_trans hb1 (below_trans hb2 (below_trans hb3 hb4))⟩
theorem coded_self {E : Nat → Addr} (c : Nat) (w : World) (hL : LaidR E w) (h2 : c ≤ 16) :
    Calls Tryd.prog 9 #[errV E c, .int .i64 (c : Int)] w fun e w' => e = .returned (.bool true) ∧ Below w.heap.size w w' := by
  have h := coded_any (E := E) c (c : Int) w hL h2
  rw [show codedB c (c : Int) = true from decide_eq_true rfl] at h
  exact h
theorem more_code (k n : Int) (s : List UInt8) : (more k n s).2 ≤ 16 := by
  unfold more; split
  · split <;> simp
  · simp
theorem markOf_code (k : Int) (s : List UInt8) : (markOf k s).2 ≤ 16 := by unfold markOf; split <;> simp
theorem rightOf_code (k : Int) (s : List UInt8) (n : Int) : rightOf k s n ≤ 16 := by
  unfold rightOf; split
  · split <;> simp
  · exact markOf_code k s

set_option maxHeartbeats 1000000 in
theorem markTells_any {E : Nat → Addr} (k n : Int) (s : ByteArray) (w : World) (hL : LaidR E w) (hs : s.size ≤ maxLen) :
    Calls Tryd.prog 5 #[.int .i64 k, .string s, .int .i64 n] w fun e w' => e = .returned (.bool true) ∧ Below w.heap.size w w' := by
  have hm := Lib.hid (marked_any w hL)
  have hs' := Lib.hid hs
  unfold maxLen at hs
  by_cases hlen : s.size ≤ 500
  · have o1 := Lib.hid (fun w (hL : Laid E w) => of_any (E := E) k s w hL hs'.out)
    have o2 := Lib.hid (fun w => markOf_any k s w hs'.out)
    have o3 := Lib.hid (fun w (hL : Laid E w) => more_any (E := E) k n s w hL hs'.out)
    have o4 := Lib.hid (fun w => from_any k n s w hs'.out)
    have o5 := Lib.hid (fun w (hL : Laid E w) => right_any (E := E) k n s w hL hs'.out)
    have o6 := Lib.hid (fun w => markError_any k n s w hs'.out)
    have c1 := Lib.hid (markOf_code k s.data.toList)
    have c2 := Lib.hid (more_code k n s.data.toList)
    have c3 := Lib.hid (rightOf_code k s.data.toList n)
    generalize markOf k s.data.toList = p at *
    generalize more k n s.data.toList = q at *
    generalize rightOf k s.data.toList n = r at *
    obtain ⟨pm, pc⟩ := p
    obtain ⟨qm, qc⟩ := q
    go_enter Tryd.func5, Tryd.ntmps5
    go_wp2_with fail
    refine hm.out.mono ?_
    rintro e w1 ⟨rfl, hb1⟩
    have hL1 := hL.below hb1
    go_wp2_with fail
    refine (o1.out _ hL1.laid).mono ?_
    rintro e w2 ⟨rfl, hb2⟩
    have hL2 := hL1.below hb2
    dsimp only
    go_wp2_with fail
    refine (o2.out _).mono ?_
    rintro e w3 ⟨rfl, rfl⟩
    dsimp only
    go_wp2_with fail
    refine (coded_self pc _ hL2 c1.out).mono ?_
    rintro e w3 ⟨rfl, hb3⟩
    have hL3 := hL2.below hb3
    go_wp2_with fail
    refine (o3.out _ hL3.laid).mono ?_
    rintro e w4 ⟨rfl, hb4⟩
    have hL4 := hL3.below hb4
    dsimp only
    go_wp2_with fail
    refine (o4.out _).mono ?_
    rintro e w5 ⟨rfl, rfl⟩
    dsimp only
    go_wp2_with fail
    refine (coded_self qc _ hL4 c2.out).mono ?_
    rintro e w5 ⟨rfl, hb5⟩
    have hL5 := hL4.below hb5
    go_wp2_with fail
    refine (o5.out _ hL5.laid).mono ?_
    rintro e w6 ⟨rfl, hb6⟩
    have hL6 := hL5.below hb6
    go_wp2_with fail
    refine (o6.out _).mono ?_
    rintro e w7 ⟨rfl, rfl⟩
    go_wp2_with fail
    refine (coded_self r _ hL6 c3.out).mono ?_
    rintro e w7 ⟨rfl, hb7⟩
    go_wp2_with fail
    go_ret
    exact ⟨rfl, below_trans hb1 (below_trans hb2 (below_trans hb3 (below_trans hb4 (below_trans hb5 (below_trans hb6 hb7)))))⟩
  · go_enter Tryd.func5, Tryd.ntmps5
    go_wp2_with fail
    refine hm.out.mono ?_
    rintro e w1 ⟨rfl, hb1⟩
    go_wp2_with fail
    go_ret
    exact ⟨rfl, hb1⟩
end Go.Proofs.YtgainbpflncgcaaDoor
