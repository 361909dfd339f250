/- An error value with its place. -/
import Derived.Test.YtmjbhglmlbgkmaaDoorMark0
namespace Go.Proofs.YtmjbhglmlbgkmaaDoor
open Go.RowKit

/-- An error value: its number, its place. -/
def ErrAt (E : Nat → Addr) (w : World) (v : Value) (c : Nat) (at_ : Int) : Prop :=
  (at_ = -1 ∧ v = errV E c) ∨ ∃ N, v = .iface 127 (.pointer (some ⟨N, 0, none⟩)) ∧ 1 ≤ c ∧ w.cell? ⟨N, 0, none⟩ = some (.int .i64 at_) ∧ w.cell? ⟨N, 0 + 1, none⟩ = some (errV E c)
theorem ErrAt.below {E : Nat → Addr} {w w' : World} {v : Value} {c : Nat} {at_ : Int} (h : ErrAt E w v c at_) (hb : Below w.heap.size w w') : ErrAt E w' v c at_ := by
  rcases h with h | ⟨N, h1, h2, h3, h4⟩
  · exact .inl h
  · exact .inr ⟨N, h1, h2, cell_below hb h3, cell_below hb h4⟩
theorem ErrAt.bare {E : Nat → Addr} {w : World} (c : Nat) : ErrAt E w (errV E c) c (-1) := .inl ⟨rfl, rfl⟩
theorem ErrAt.iface {E : Nat → Addr} {w : World} {v : Value} {c : Nat} {a : Int} (h : ErrAt E w v c a) (hc : c ≠ 0) : ∃ T x, v = .iface T (.pointer (some x)) := by
  rcases h with ⟨_, rfl⟩ | ⟨N, rfl, _⟩
  · cases c with
    | zero => exact absurd rfl hc
    | succ c => exact ⟨_, _, rfl⟩
  · exact ⟨_, _, rfl⟩
theorem ErrAt.zero {E : Nat → Addr} {w : World} {v : Value} {c : Nat} {a : Int} (h : ErrAt E w v c a) (hc : c = 0) : v = .nilIface ∧ a = -1 := by
  rcases h with ⟨ha, rfl⟩ | ⟨N, rfl, h1, _⟩
  · subst hc
    exact ⟨rfl, ha⟩
  · omega
end Go.Proofs.YtmjbhglmlbgkmaaDoor
