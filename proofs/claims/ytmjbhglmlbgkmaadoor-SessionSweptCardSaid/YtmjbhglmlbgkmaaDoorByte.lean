/- One byte another one: another mark; a byte stored into a text's bytes. -/
import Derived.Test.YtmjbhglmlbgkmaaDoorPlain
import Derived.WalkKit
import Derived.WalkSpells
namespace Go.Proofs.YtmjbhglmlbgkmaaDoor
open Go.RowKit

theorem mstep_inj (k n m : Int) (c : UInt8) (h0 : 0 ≤ n) (h1 : n < 1000000007) (h2 : 0 ≤ m) (h3 : m < 1000000007) (h : mstep k n c = mstep k m c) : n = m := by
  unfold mstep at h; omega
theorem mfold_inj (k : Int) (l : List UInt8) : ∀ n m : Int, 0 ≤ n → n < 1000000007 → 0 ≤ m → m < 1000000007 → mfold k n l = mfold k m l → n = m := by
  induction l with
  | nil => intro n m _ _ _ _ h; exact h
  | cons c l ih =>
    intro n m h0 h1 h2 h3 h
    exact mstep_inj k n m c h0 h1 h2 h3 (ih _ _ (mstep_bd _ _ _).1 (mstep_bd _ _ _).2 (mstep_bd _ _ _).1 (mstep_bd _ _ _).2 h)
theorem mstep_byte (k n : Int) (c d : UInt8) (h : mstep k n c = mstep k n d) : c = d := by
  unfold mstep at h
  have := UInt8.toNat_lt c
  have := UInt8.toNat_lt d
  exact UInt8.toNat_inj.1 (by omega)
/-- With one byte another one it is another mark. -/
theorem mfold_byte (k n : Int) (l t : List UInt8) (c d : UInt8) (h : mfold k n (l ++ c :: t) = mfold k n (l ++ d :: t)) (h0 : 0 ≤ n) (h1 : n < 1000000007) : c = d := by
  rw [mfold_append, mfold_append] at h
  have hb := mfold_bd k l n h0 h1
  generalize mfold k n l = m at *
  exact mstep_byte k m c d (mfold_inj k t _ _ (mstep_bd _ _ _).1 (mstep_bd _ _ _).2 (mstep_bd _ _ _).1 (mstep_bd _ _ _).2 h)
theorem append_data (a b : ByteArray) : (a ++ b).data.toList = a.data.toList ++ b.data.toList := by simp [ByteArray.data_append]
theorem split_at (l : List UInt8) (i : Nat) (h : i < l.length) (d : UInt8) : l.set i d = l.take i ++ d :: l.drop (i + 1) := List.set_eq_take_append_cons_drop .. |>.trans (by rw [if_pos h])

/-- A byte stored into a text's bytes. -/
theorem storeByte_cells (w : World) (a : ByteArray) (j : Nat) (x : Int) (hj : j < a.size) (hx0 : 0 ≤ x) (hx1 : x ≤ 255) (e : TypeId) (cap : Nat) :
    (w.alloc (.cells (bytesRow a cap) e ((bytesRow a cap).size, (bytesRow a cap).size + 1))).cell? ⟨w.heap.size, j, none⟩ = some (.int .u8 ((byteAt a j).toNat : Int)) ∧
    (w.alloc (.cells (bytesRow a cap) e ((bytesRow a cap).size, (bytesRow a cap).size + 1))).frozen? ⟨w.heap.size, j, none⟩ = false ∧
    ∀ i (hi : i < (a.data.toList.set j (UInt8.ofNat x.toNat)).length), (((w.alloc (.cells (bytesRow a cap) e ((bytesRow a cap).size, (bytesRow a cap).size + 1))).setCell ⟨w.heap.size, j, none⟩ (.int .u8 x)).drew).cell? ((⟨w.heap.size, 0, none⟩ : Addr).add i) = some (.int .u8 ((a.data.toList.set j (UInt8.ofNat x.toNat))[i].toNat : Int)) := by
  have h1 := bytesRow_cell w a j hj e cap ((bytesRow a cap).size, (bytesRow a cap).size + 1)
  have hsz : a.size ≤ (bytesRow a cap).size := by unfold bytesRow; simp
  refine ⟨h1, ?_, ?_⟩
  · rw [World.frozen?_alloc_mark]; simp; omega
  · intro i hi
    have hi' : i < a.size := by simpa using hi
    rw [World.cell?_drew, Addr.add_lit, Nat.zero_add]
    by_cases hij : i = j
    · subst hij
      rw [World.cell?_setCell_same _ _ _ h1]
      have ht : (UInt8.ofNat x.toNat).toNat = x.toNat := by simp; omega
      simp only [List.getElem_set_self, ht]
      rw [Int.toNat_of_nonneg hx0]
    · rw [World.cell?_setCell_other _ _ _ _ (by intro h; cases h; exact hij rfl), bytesRow_cell w a i hi' e cap, byteAt_eq a i hi', List.getElem_set_ne (by omega)]
      rfl
end Go.Proofs.YtmjbhglmlbgkmaaDoor
