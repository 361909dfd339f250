/- The law's coded, at an error of its own number. -/
import Derived.Test.YtmjbhglmlbgkmaaDoorCode
namespace Go.Proofs.YtmjbhglmlbgkmaaDoor
open Go.RowKit

theorem coded_same {E : Nat → Addr} (c : Nat) (w : World) (hL : LaidR E w) (h2 : c ≤ 16) :
    Calls Tryd.prog 20 #[errV E c, .int .i64 (c : Int)] w fun e w' => e = .returned (.bool true) ∧ Below w.heap.size w w' := by
  have h := coded_any (E := E) c (c : Int) w hL h2
  rw [show codedB c (c : Int) = true from decide_eq_true rfl] at h
  exact h
end Go.Proofs.YtmjbhglmlbgkmaaDoor
