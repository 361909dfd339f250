/- Blocks of two cells, written in place. -/
import Derived.Test.YtmjbhglmlbgkmaaDoorBase
namespace Go.Proofs.YtmjbhglmlbgkmaaDoor
open Go.RowKit

/-- A block of two cells, kept: its cells, and none frozen. -/
theorem two_kept {w0 w1 : World} {n : Nat} {v0 v1 : Value} {T : TypeId} (hb : Below w0.heap.size w0 w1) (h : w0.heap[n]? = some (.cells #[v0, v1] T (0, 0))) :
    (w1.cell? ⟨n, 0, none⟩ = some v0 ∧ w1.cell? ⟨n, 1, none⟩ = some v1) ∧ (w1.frozen? ⟨n, 0, none⟩ = false ∧ w1.frozen? ⟨n, 1, none⟩ = false) := by
  have h1 : w1.heap[n]? = some (.cells #[v0, v1] T (0, 0)) := (hb.block n (Array.getElem?_eq_some_iff.1 h).1).trans h
  refine ⟨⟨?_, ?_⟩, ?_, ?_⟩
  all_goals first
    | (rw [cell_of_row _ _ _ _ _ _ h1]; rfl)
    | exact frozen_of_row _ _ _ _ _ h1
theorem heap_down {w w' : World} (hb : Below w.heap.size w w') {b : Nat} {o : Obj} (h : w.heap[b]? = some o) : w'.heap[b]? = some o :=
  (hb.block b (Array.getElem?_eq_some_iff.1 h).1).trans h
theorem row_set2 {w : World} {n : Nat} {u0 u1 : Value} {T : TypeId} (h : w.heap[n]? = some (.cells #[u0, u1] T (0, 0))) (v0 v1 : Value) :
    ((w.setCell ⟨n, 0, none⟩ v0).setCell ⟨n, 1, none⟩ v1).heap[n]? = some (.cells #[v0, v1] T (0, 0)) := by
  have h0 := heap_setCell_same _ n 0 _ _ v0 h
  exact heap_setCell_same _ n 1 _ _ v1 h0
theorem below_set2 {B : Nat} {a w : World} (h : Below B a w) {n : Nat} (hn : B ≤ n) (v0 v1 : Value) :
    Below B a ((w.setCell ⟨n, 0, none⟩ v0).setCell ⟨n, 1, none⟩ v1) := (h.setCell hn _).setCell hn _
end Go.Proofs.YtmjbhglmlbgkmaaDoor
