/- The walks of the reference's texts: digits, names, words, numbers, cut, glue. -/
import Derived.Test.YtjckllgbllmjjaaGreatDoorSealQ
import Derived.Test.YtjckllgbllmjjaaGreatDoorTexts
import Derived.Test.YtjckllgbllmjjaaGreatDoorMark
import Derived.Maps.AppendAt
import Derived.OwnWalk
namespace Go.Proofs.YtjckllgbllmjjaaGreatDoor
open Go.RowKit Go.Maps

theorem str_cat (a b : List UInt8) : bs a ++ bs b = bs (a ++ b) := by
  apply ByteArray.ext
  simp [bs]
theorem ret_string {a b : ByteArray} (h : a = b) : Ending.returned (.string a) = .returned (.string b) := by rw [h]
theorem digit_byte (n : Int) (h0 : 48 ≤ n) (h1 : n ≤ 57) : ((UInt8.ofNat n.toNat).toNat : Int) = n := by
  simp
  omega
theorem neg_tdiv (u : Nat) : (-(u : Int)).tdiv 10 = -((u / 10 : Nat) : Int) := by
  rw [Int.neg_tdiv]
  rfl
theorem neg_tmod (u : Nat) : (-(u : Int)).tmod 10 = -((u % 10 : Nat) : Int) := by
  rw [Int.neg_tmod]
  rfl
theorem dec_len {u : Nat} (h : u ≤ 9223372036854775807) : (Lib.decDigits u).length ≤ 19 :=
  decDigits_len 18 u (by have : (10 : Nat) ^ (18 + 1) = 10000000000000000000 := by decide
                         omega)
theorem ret_bool2 {a b : Bool} (h : a = b) : Ending.returned (.bool a) = .returned (.bool b) := by rw [h]
set_option maxRecDepth 100000 in
theorem small_any (c : UInt8) (w : World) :
    Calls Tryz.prog 34 #[.int .u8 (c.toNat : Int)] w fun e w' => e = .returned (.bool (smallB c)) ∧ w = w' := by
  have hr := Lib.hid (show smallB c = ((decide (97 ≤ c.toNat) && decide (c.toNat ≤ 122)) || (decide (48 ≤ c.toNat) && decide (c.toNat ≤ 57))) by
    unfold smallB
    simp only [UInt8.le_iff_toNat_le]
    rfl)
  have hc := UInt8.toNat_lt c
  generalize c.toNat = n at *
  by_cases h1 : 97 ≤ n <;> by_cases h2 : n ≤ 122 <;> by_cases h3 : 48 ≤ n <;> by_cases h4 : n ≤ 57
  all_goals first | (exfalso; omega) | skip
  all_goals
    go_enter Tryz.func34, Tryz.ntmps34
    go_wp2_with fail
    go_ret
    exact ⟨ret_bool2 (by rw [hr.out]; simp [h1, h2, h3, h4]; try omega), rfl⟩
end Go.Proofs.YtjckllgbllmjjaaGreatDoor
