/- A slice of texts in memory. -/
import Derived.Test.YtmjbhglmlbgkmaaDoorMark0
import Derived.Test.YtmjbhglmlbgkmaaDoorBook
namespace Go.Proofs.YtmjbhglmlbgkmaaDoor
open Go.RowKit

/-- A slice of texts. -/
def TextsAt (w : World) (v : Value) (N : List (List UInt8)) : Prop :=
  ∃ a c, v = .slice a N.length c ∧ N.length ≤ maxLen ∧ N.length ≤ c ∧ ∀ i (h : i < N.length), ∃ b o, a = some ⟨b, o, none⟩ ∧ w.cell? ⟨b, o + i, none⟩ = some (.string (bs N[i]))
theorem TextsAt.below {w w' : World} {v : Value} {N : List (List UInt8)} (h : TextsAt w v N) (hb : Below w.heap.size w w') : TextsAt w' v N := by
  obtain ⟨a, c, h1, h2, hcap, h3⟩ := h
  refine ⟨a, c, h1, h2, hcap, fun i hi => ?_⟩
  obtain ⟨b, o, h4, h5⟩ := h3 i hi
  exact ⟨b, o, h4, cell_below hb h5⟩
theorem toList_data (s : ByteArray) : s.toList = s.data.toList := ByteArray.toList_eq s
theorem bs_size (n : List UInt8) : (bs n).size = n.length := by simp [bs, ByteArray.size]
end Go.Proofs.YtmjbhglmlbgkmaaDoor
