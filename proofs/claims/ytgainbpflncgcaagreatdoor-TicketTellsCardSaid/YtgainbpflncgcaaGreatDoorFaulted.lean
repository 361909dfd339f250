/- The law's faulted: an error's number and place. -/
import Derived.Test.YtgainbpflncgcaaGreatDoorSealed
import Derived.Test.YtgainbpflncgcaaGreatDoorRefW4
namespace Go.Proofs.YtgainbpflncgcaaGreatDoor
open Go.RowKit

theorem code_at {E : Nat → Addr} (v : Value) (c : Nat) (at_ : Int) (w : World) (hL : LaidR E w) (h : ErrAt E w v c at_) (h2 : c ≤ 16) :
    Calls Tryz.prog 55 #[v] w fun e w' => e = .returned (.tuple #[.int .i64 (c : Int), .int .i64 at_]) ∧ Below w.heap.size w w' := by
  rcases h with ⟨rfl, rfl⟩ | ⟨N, rfl, h1, h3, h4⟩
  · exact code_errV c w hL h2
  · obtain ⟨d, rfl⟩ : ∃ d, c = d + 1 := ⟨c - 1, by omega⟩
    exact code_fault N 0 at_ (d + 1) w hL h1 h2 h3 h4
set_option maxRecDepth 100000 in
theorem faulted_self {E : Nat → Addr} (v : Value) (c : Nat) (at_ : Int) (w : World) (hL : LaidR E w) (h : ErrAt E w v c at_) (h2 : c ≤ 16) :
    Calls Tryz.prog 33 #[v, .agg #[.int .i64 (c : Int), .int .i64 at_]] w fun e w' => e = .returned (.bool true) ∧ Below w.heap.size w w' := by
  have hA : Below w.heap.size w (w.alloc (.cells #[.int .i64 (c : Int), .int .i64 at_] 64)) := (Below.refl _ _).alloc (Nat.le_refl _) _
  have hrow := Lib.hid (heap_alloc_new w (.cells #[.int .i64 (c : Int), .int .i64 at_] 64))
  have hc := Lib.hid (code_at v c at_ _ (hL.below hA) (h.below hA) h2)
  clear h
  go_enter Tryz.func33, Tryz.ntmps33
  go_wp2_with fail
  refine hc.out.mono ?_
  rintro e w1 ⟨rfl, hb1⟩
  have hrr := Lib.hid (heap_down hb1 hrow.out)
  have hb2 := Lib.hid (below_trans hA hb1)
  clear hb1
  obtain ⟨⟨r0, r1⟩, _⟩ := two_kept (Below.refl _ _) hrr.out
  by_cases hz : c = 0
  · subst hz
    go_wp2_with fail
    go_ret
    exact ⟨rfl, hb2.out⟩
  · have hz' : ((c : Int) == 0) = false := by rw [beq_eq_false_iff_ne]; omega
    clear hz
    go_wp2_with fail
    go_ret
    exact ⟨rfl, hb2.out⟩
theorem coded_same {E : Nat → Addr} (c : Nat) (w : World) (hL : LaidR E w) (h2 : c ≤ 16) :
    Calls Tryz.prog 10 #[errV E c, .int .i64 (c : Int)] w fun e w' => e = .returned (.bool true) ∧ Below w.heap.size w w' := by
  have h := coded_any (E := E) c (c : Int) w hL h2
  rw [show codedB c (c : Int) = true from decide_eq_true rfl] at h
  exact h
theorem rightOf_code' (k : Int) (s : List UInt8) (n : Int) : rightOf k s n ≤ 16 := by
  have hm : (markOf k s).2 ≤ 16 := by unfold markOf; split <;> simp
  unfold rightOf
  split
  · split <;> simp
  · exact hm
theorem makeOf_code (k : Int) (W : List (List UInt8)) : (makeOf k W).2.1 ≤ 16 := by
  unfold makeOf
  split
  · simp
  · split
    · simp
    · split <;> simp
theorem lookOf_code (s : List UInt8) : (lookOf s).2.2.2 ≤ 16 := by
  unfold lookOf
  split
  · simp
  · cases lastCut 32 s with
    | none => simp
    | some x =>
      dsimp only
      split
      · simp
      · split
        · simp
        · split <;> simp
theorem openOf_code (k : Int) (s : List UInt8) : (openOf k s).2 ≤ 16 := by
  unfold openOf
  split
  · simp
  · split
    · split
      · simp
      · exact rightOf_code' k _ _
    · exact lookOf_code s
end Go.Proofs.YtgainbpflncgcaaGreatDoor
