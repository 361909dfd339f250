/- Plain definitions and lemmas about marks: no program in sight. -/
import Derived.Laws.IdiomStrings
import Derived.WalkSmall
import Derived.Deep.Draws
namespace Go.Proofs.YtmjbhglmlbgkmaaDoor
open Go.RowKit

/-- Is a number a key? -/
def isKey (k : Int) : Bool := decide (1 ≤ k) && decide (k ≤ 1000000006)
theorem isKey_iff (k : Int) : isKey k = true ↔ 1 ≤ k ∧ k ≤ 1000000006 := by simp [isKey]
theorem isKey_false (k : Int) : isKey k = false ↔ k < 1 ∨ 1000000006 < k := by simp [isKey]; omega

def mstep (k n : Int) (c : UInt8) : Int := (n * 257 + c.toNat + 1 + k) % 1000000007
def mfold (k n : Int) (l : List UInt8) : Int := l.foldl (mstep k) n
theorem mfold_snoc (k n : Int) (l : List UInt8) (c : UInt8) : mfold k n (l ++ [c]) = mstep k (mfold k n l) c := by simp [mfold]
theorem mfold_append (k n : Int) (l m : List UInt8) : mfold k n (l ++ m) = mfold k (mfold k n l) m := by simp [mfold]
theorem mstep_bd (k n : Int) (c : UInt8) : 0 ≤ mstep k n c ∧ mstep k n c < 1000000007 := by unfold mstep; omega
theorem mfold_bd (k : Int) (l : List UInt8) : ∀ n : Int, 0 ≤ n → n < 1000000007 → 0 ≤ mfold k n l ∧ mfold k n l < 1000000007 := by
  induction l with
  | nil => intro n h0 h1; exact ⟨h0, h1⟩
  | cons c l ih => intro n _ _; exact ih _ (mstep_bd k n c).1 (mstep_bd k n c).2
theorem take_snoc (s : ByteArray) (k : Nat) (h : k < s.size) : s.data.toList.take (k + 1) = s.data.toList.take k ++ [s[k]] := by
  rw [List.take_succ_eq_append_getElem (by simpa using h)]; rfl
theorem take_all (s : ByteArray) : s.data.toList.take s.size = s.data.toList := by
  rw [List.take_of_length_le (by simp)]

/-- More of a text: the mark, an error's number. -/
def more (k n : Int) (s : List UInt8) : Int × Nat :=
  if isKey k = true then (if 0 ≤ n ∧ n < 1000000007 then (mfold k n s, 0) else (0, 2)) else (0, 10)
/-- Of a text. -/
def markOf (k : Int) (s : List UInt8) : Int × Nat := if isKey k = true then (mfold k k s, 0) else (0, 10)
theorem more_bd (k n : Int) (s : List UInt8) : 0 ≤ (more k n s).1 ∧ (more k n s).1 < 1000000007 := by
  unfold more
  split
  · split
    · rename_i h; exact mfold_bd k s n h.1 h.2
    · exact ⟨by simp, by simp⟩
  · exact ⟨by simp, by simp⟩
theorem markOf_bd (k : Int) (s : List UInt8) : 0 ≤ (markOf k s).1 ∧ (markOf k s).1 < 1000000007 := by
  unfold markOf
  split
  · rename_i h; have := (isKey_iff k).1 h; exact mfold_bd k s k (by omega) (by omega)
  · exact ⟨by simp, by simp⟩
theorem markOf_more (k : Int) (s : List UInt8) : markOf k s = more k (max k 0 % 1000000007) s := by
  unfold markOf more
  by_cases h : isKey k = true
  · have := (isKey_iff k).1 h
    have e : max k 0 % 1000000007 = k := by omega
    rw [if_pos h, if_pos h, e, if_pos (by omega)]
  · rw [if_neg h, if_neg h]

/-- A text's byte at a place. -/
def byteAt (s : ByteArray) (k : Nat) : UInt8 := s.data.toList.getD k 0
theorem byteAt_eq (s : ByteArray) (k : Nat) (h : k < s.size) : byteAt s k = s[k] := by
  have h' : k < s.data.size := h
  have : s.data[k]? = some s[k] := by rw [Array.getElem?_eq_getElem h']; rfl
  simp [byteAt, this]
theorem take_succ_byte (s : ByteArray) (k : Nat) (h : k < s.size) : s.data.toList.take (k + 1) = s.data.toList.take k ++ [byteAt s k] := by
  rw [take_snoc s k h, byteAt_eq s k h]
/-- A text's bytes, laid as a slice of bytes. -/
theorem bytesRow_cell (w : World) (s : ByteArray) (k : Nat) (h : k < s.size) (e : TypeId) (c : Nat) (f : Nat × Nat) :
    (w.alloc (.cells (bytesRow s c) e f)).cell? ⟨w.heap.size, k, none⟩ = some (.int .u8 ((byteAt s k).toNat : Int)) := by
  rw [World.cell?_alloc_mark, byteAt_eq s k h]
  unfold bytesRow
  have h' : k < s.data.size := h
  rw [Array.getElem?_append_left (by simpa using h)]
  rw [Array.getElem?_map, Array.getElem?_eq_getElem h']
  rfl

theorem mod1 (a b x m : Int) : (a + b * (x % m)) % m = (a + b * x) % m := by
  rw [Int.add_emod, Int.mul_emod, Int.emod_emod_of_dvd _ (Int.dvd_refl _), ← Int.mul_emod, ← Int.add_emod]
theorem mod2 (a b m : Int) : (a % m + b) % m = (a + b) % m := by
  rw [Int.add_emod, Int.emod_emod_of_dvd _ (Int.dvd_refl _), ← Int.add_emod]
theorem mod3 (a b n m : Int) : (a + b % m * n) % m = (a + b * n) % m := by
  rw [Int.mul_comm, mod1, Int.mul_comm]
theorem mod4 (a b c n k m : Int) : (a + b * ((n * 257 + c + 1 + k) % m)) % m = ((a + b * ((c + 1 + k) % m)) % m + b * 257 % m * n) % m := by
  rw [mod1, mod2, mod3, show a + b * ((c + 1 + k) % m) + b * 257 * n = (a + b * 257 * n) + b * ((c + 1 + k) % m) by omega, mod1]
  congr 1
  rw [show n * 257 + c + 1 + k = (c + 1 + k) + 257 * n by omega, Int.mul_add b, ← Int.mul_assoc b]
  omega
/-- What the reference reckons from behind: each byte's part, times the power of all behind it. -/
def msuf (k : Int) : List UInt8 → Int × Int
  | [] => (0, 1)
  | c :: t => (((msuf k t).1 + (msuf k t).2 * (((c.toNat : Int) + 1 + k) % 1000000007)) % 1000000007, (msuf k t).2 * 257 % 1000000007)
theorem msuf_bd (k : Int) : ∀ t, 0 ≤ (msuf k t).1 ∧ (msuf k t).1 < 1000000007 ∧ 0 ≤ (msuf k t).2 ∧ (msuf k t).2 < 1000000007
  | [] => by simp [msuf]
  | c :: t => by simp only [msuf]; omega
theorem mfold_msuf (k : Int) : ∀ (t : List UInt8) (n : Int), 0 ≤ n → n < 1000000007 → mfold k n t = ((msuf k t).1 + (msuf k t).2 * n) % 1000000007
  | [], n, h0, h1 => by simp [msuf, mfold]; omega
  | c :: t, n, _, _ => by
    have ih := mfold_msuf k t (mstep k n c) (mstep_bd k n c).1 (mstep_bd k n c).2
    show mfold k (mstep k n c) t = _
    rw [ih]
    simp only [msuf, mstep]
    generalize (msuf k t).1 = a
    generalize (msuf k t).2 = b
    exact mod4 _ _ _ _ _ _
def rightOf (k : Int) (s : List UInt8) (n : Int) : Nat := if (markOf k s).2 = 0 then (if (markOf k s).1 = n then 0 else 9) else (markOf k s).2
end Go.Proofs.YtmjbhglmlbgkmaaDoor
