/- An error value with its place. -/
import Derived.Test.YtphjjaanclpagaaDoorMark0
namespace Go.Proofs.YtphjjaanclpagaaDoor
open Go.RowKit

/-- An error value: its number, its place. -/
def ErrAt (E : Nat → Addr) (w : World) (v : Value) (c : Nat) (at_ : Int) : Prop :=
  (at_ = -1 ∧ v = errV E c) ∨ ∃ N, v = .iface 138 (.pointer (some ⟨N, 0, none⟩)) ∧ 1 ≤ c ∧ w.cell? ⟨N, 0, none⟩ = some (.int .i64 at_) ∧ w.cell? ⟨N, 0 + 1, none⟩ = some (errV E c)
theorem ErrAt.below {E : Nat → Addr} {w w' : World} {v : Value} {c : Nat} {at_ : Int} (h : ErrAt E w v c at_) (hb : Below w.heap.size w w') : ErrAt E w' v c at_ := by
  rcases h with h | ⟨N, h1, h2, h3, h4⟩
  · exact .inl h
  · exact .inr ⟨N, h1, h2, cell_below hb h3, cell_below hb h4⟩
theorem ErrAt.bare {E : Nat → Addr} {w : World} (c : Nat) : ErrAt E w (errV E c) c (-1) := .inl ⟨rfl, rfl⟩

end Go.Proofs.YtphjjaanclpagaaDoor
