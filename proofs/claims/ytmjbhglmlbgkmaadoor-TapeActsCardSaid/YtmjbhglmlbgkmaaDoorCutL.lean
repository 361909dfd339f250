/- Bytes of a text ahead of a byte that is sought: lemmas. -/
import Derived.Test.YtmjbhglmlbgkmaaDoorRefW2
namespace Go.Proofs.YtmjbhglmlbgkmaaDoor
open Go.RowKit

theorem extract_bytes (s : ByteArray) (a b : Nat) : s.extract a b = bs ((s.data.toList.drop a).take (b - a)) := by
  apply ByteArray.ext
  apply Array.toList_inj.1
  rw [Lib.extract_data, bs_list]
theorem drop_no {s : ByteArray} {f : Nat} {c : UInt8} (h : ∀ q, f ≤ q → q < s.size → byteAt s q ≠ c) : c ∉ s.data.toList.drop f := by
  intro hm
  obtain ⟨i, hi, e⟩ := List.getElem_of_mem hm
  simp only [List.length_drop, Array.length_toList] at hi
  have hi2 : f + i < s.size := by have : s.data.size = s.size := rfl; omega
  apply h (f + i) (by omega) hi2
  unfold byteAt
  have hi' : f + i < s.data.toList.length := by simpa using hi2
  rw [List.getD_eq_getElem?_getD, List.getElem?_eq_getElem hi']
  rw [List.getElem_drop] at e
  exact e
theorem take_no {s : ByteArray} {f j : Nat} {c : UInt8} (hj : j ≤ s.size) (h : ∀ q, f ≤ q → q < j → byteAt s q ≠ c) : c ∉ (s.data.toList.drop f).take (j - f) := by
  intro hm
  obtain ⟨i, hi, e⟩ := List.getElem_of_mem hm
  simp only [List.length_take, List.length_drop, Array.length_toList] at hi
  have hs : s.data.size = s.size := rfl
  apply h (f + i) (by omega) (by omega)
  unfold byteAt
  have hi' : f + i < s.data.toList.length := by simp; omega
  rw [List.getD_eq_getElem?_getD, List.getElem?_eq_getElem hi']
  rw [List.getElem_take, List.getElem_drop] at e
  exact e
theorem drop_split (s : ByteArray) (f j : Nat) (hf : f ≤ j) (hj : j < s.size) : s.data.toList.drop f = (s.data.toList.drop f).take (j - f) ++ byteAt s j :: s.data.toList.drop (j + 1) := by
  have h1 : (s.data.toList.drop f).drop (j - f) = byteAt s j :: s.data.toList.drop (j + 1) := by
    rw [List.drop_drop, show f + (j - f) = j by omega]
    exact drop_byte s j hj
  rw [← h1, List.take_append_drop]
theorem extract_end (s : ByteArray) (f : Nat) : s.extract f s.size = bs (s.data.toList.drop f) := by
  rw [extract_bytes, List.take_of_length_le]
  simp
end Go.Proofs.YtmjbhglmlbgkmaaDoor
