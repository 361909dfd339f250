/- The walks of the reference's texts: digits, names, words, numbers, cut, glue. -/
import Derived.Test.YtmjbhglmlbgkmaaDoorSealQ
import Derived.Test.YtmjbhglmlbgkmaaDoorTexts
import Derived.Test.YtmjbhglmlbgkmaaDoorMark
import Derived.Maps.AppendAt
import Derived.OwnWalk
namespace Go.Proofs.YtmjbhglmlbgkmaaDoor
open Go.RowKit Go.Maps

theorem str_cat (a b : List UInt8) : bs a ++ bs b = bs (a ++ b) := by
  apply ByteArray.ext
  simp [bs]
theorem ret_string {a b : ByteArray} (h : a = b) : Ending.returned (.string a) = .returned (.string b) := by rw [h]
theorem digit_byte (n : Int) (h0 : 48 ≤ n) (h1 : n ≤ 57) : ((UInt8.ofNat n.toNat).toNat : Int) = n := by
  simp
  omega
set_option maxRecDepth 100000 in
theorem byte_any (n : Int) (w : World) (h0 : 48 ≤ n) (h1 : n ≤ 57) :
    Calls Tryd.prog 124 #[.int .i64 n] w fun e w' => e = .returned (.string (bs [UInt8.ofNat n.toNat])) ∧ Below w.heap.size w w' := by
  have hcb := run_convert_bytes_back (P := Tryd.prog) (w.alloc (.cells #[.int .u8 n] 5)) 100 9 5 ⟨w.heap.size, 0, none⟩ 1 [UInt8.ofNat n.toNat] Tryd.underlying100 Tryd.underlying5 Tryd.underlying9 (by
    intro i hi
    have : i = 0 := by simpa using hi
    subst this
    rw [List.getElem_singleton, digit_byte n h0 h1]
    simp [Addr.add])
  rw [show [UInt8.ofNat n.toNat].length = 1 from rfl] at hcb
  go_enter Tryd.func124, Tryd.ntmps124
  go_wp2_with fail
  go_ret
  exact ⟨rfl, (Below.refl _ _).alloc (Nat.le_refl _) _⟩

theorem neg_tdiv (u : Nat) : (-(u : Int)).tdiv 10 = -((u / 10 : Nat) : Int) := by
  rw [Int.neg_tdiv]
  rfl
theorem neg_tmod (u : Nat) : (-(u : Int)).tmod 10 = -((u % 10 : Nat) : Int) := by
  rw [Int.neg_tmod]
  rfl
theorem dec_len {u : Nat} (h : u ≤ 9223372036854775807) : (Lib.decDigits u).length ≤ 19 :=
  decDigits_len 18 u (by have : (10 : Nat) ^ (18 + 1) = 10000000000000000000 := by decide
                         omega)
set_option maxRecDepth 100000 in
theorem below_any (u : Nat) : ∀ (w : World), u ≤ 9223372036854775807 →
    Calls Tryd.prog 102 #[.int .i64 (-(u : Int))] w fun e w' => e = .returned (.string (bs (Lib.decDigits u))) ∧ Below w.heap.size w w' := by
  induction u using Nat.strongRecOn with
  | _ u ih =>
    intro w hu
    by_cases h : u < 10
    · have hd := Lib.hid (show Lib.decDigits u = [UInt8.ofNat (48 + u)] by rw [Lib.decDigits, dif_pos h])
      have hb := Lib.hid (byte_any (48 + (u : Int)) w (by omega) (by omega))
      have ht : decide (-10 < -(u : Int)) = true := decide_eq_true (by omega)
      clear ih
      go_enter Tryd.func102, Tryd.ntmps102
      go_wp2_with fail
      refine hb.out.mono ?_
      rintro e w1 ⟨rfl, hb1⟩
      go_wp2_with fail
      go_ret
      exact ⟨ret_string (by rw [hd.out]; congr 1), hb1⟩
    · have hd := Lib.hid (show Lib.decDigits u = Lib.decDigits (u / 10) ++ [UInt8.ofNat (48 + u % 10)] by rw [Lib.decDigits, dif_neg h])
      have ht : decide (-10 < -(u : Int)) = false := decide_eq_false (by omega)
      have hi := Lib.hid (ih (u / 10) (by omega))
      have hb := Lib.hid (fun wx => byte_any (48 + ((u % 10 : Nat) : Int)) wx (by omega) (by omega))
      have hs1 : (bs (Lib.decDigits (u / 10))).size ≤ 19 := by rw [bs_size]; exact dec_len (by omega)
      rw [show (48 + ((u % 10 : Nat) : Int)).toNat = 48 + u % 10 by omega] at hb
      have hs2 : (bs [UInt8.ofNat (48 + u % 10)]).size ≤ 1 := by rw [bs_size]; exact Nat.le_refl 1
      have hfin := Lib.hid (show bs (Lib.decDigits (u / 10)) ++ bs [UInt8.ofNat (48 + u % 10)] = bs (Lib.decDigits u) from (str_cat _ _).trans (by rw [hd.out]))
      generalize bs [UInt8.ofNat (48 + u % 10)] = q at *
      clear ih
      go_enter Tryd.func102, Tryd.ntmps102
      go_wp2_with fail
      rw [show (-((u : Int) / 10)) = -((u / 10 : Nat) : Int) by omega]
      refine (hi.out _ (by omega)).mono ?_
      rintro e w1 ⟨rfl, hb1⟩
      go_wp2_with fail
      rw [show (48 : Int) + (u : Int) % 10 = 48 + ((u % 10 : Nat) : Int) by omega]
      refine (hb.out _).mono ?_
      rintro e w2 ⟨rfl, hb2⟩
      go_wp2_with fail
      go_ret
      exact ⟨ret_string hfin.out, below_trans hb1 hb2⟩
set_option maxRecDepth 100000 in
theorem decimal_any (n : Int) (w : World) (h0 : -9223372036854775807 ≤ n) (h1 : n ≤ 9223372036854775807) :
    Calls Tryd.prog 74 #[.int .i64 n] w fun e w' => e = .returned (.string (bs (Lib.itoa n))) ∧ Below w.heap.size w w' := by
  by_cases h : n < 0
  · obtain ⟨u, rfl⟩ : ∃ u : Nat, n = -(u : Int) := ⟨n.natAbs, by omega⟩
    have hr := Lib.hid (show Lib.itoa (-(u : Int)) = 45 :: Lib.decDigits u by unfold Lib.itoa; rw [if_pos h]; congr 2; omega)
    have hb := Lib.hid (below_any u w (by omega))
    have hs1 : (bs (Lib.decDigits u)).size ≤ 19 := by rw [bs_size]; exact dec_len (by omega)
    have ht : 0 < u := by omega
    clear h
    go_enter Tryd.func74, Tryd.ntmps74
    go_wp2_with fail
    refine hb.out.mono ?_
    rintro e w1 ⟨rfl, hb1⟩
    go_wp2_with fail
    go_ret
    exact ⟨ret_string (by rw [hr.out]; exact (str_cat [45] _)), hb1⟩
  · obtain ⟨u, rfl⟩ : ∃ u : Nat, n = (u : Int) := ⟨n.toNat, by omega⟩
    have hr := Lib.hid (show Lib.itoa (u : Int) = Lib.decDigits u by unfold Lib.itoa; rw [if_neg h, Int.toNat_natCast])
    have hb := Lib.hid (below_any u w (by omega))
    go_enter Tryd.func74, Tryd.ntmps74
    go_wp2_with fail
    refine hb.out.mono ?_
    rintro e w1 ⟨rfl, hb1⟩
    go_wp2_with fail
    go_ret
    exact ⟨ret_string (by rw [hr.out]), hb1⟩

/-! Names, words, numbers. -/
theorem ret_bool2 {a b : Bool} (h : a = b) : Ending.returned (.bool a) = .returned (.bool b) := by rw [h]
set_option maxRecDepth 100000 in
theorem small_any (c : UInt8) (w : World) :
    Calls Tryd.prog 78 #[.int .u8 (c.toNat : Int)] w fun e w' => e = .returned (.bool (smallB c)) ∧ w = w' := by
  have hr := Lib.hid (show smallB c = ((decide (97 ≤ c.toNat) && decide (c.toNat ≤ 122)) || (decide (48 ≤ c.toNat) && decide (c.toNat ≤ 57))) by
    unfold smallB
    simp only [UInt8.le_iff_toNat_le]
    rfl)
  have hc := UInt8.toNat_lt c
  generalize c.toNat = n at *
  by_cases h1 : 97 ≤ n <;> by_cases h2 : n ≤ 122 <;> by_cases h3 : 48 ≤ n <;> by_cases h4 : n ≤ 57
  all_goals first | (exfalso; omega) | skip
  all_goals
    go_enter Tryd.func78, Tryd.ntmps78
    go_wp2_with fail
    go_ret
    exact ⟨ret_bool2 (by rw [hr.out]; simp [h1, h2, h3, h4]; try omega), rfl⟩
end Go.Proofs.YtmjbhglmlbgkmaaDoor
