/- Mark, RefW, RefW2 -/
import Derived.Test.YtcnadjdijolboaaGreatDoorProg
import Derived.Test.YtcnadjdijolboaaGreatDoorMg1
import Derived.WalkKit
import Derived.WalkSpells
import Derived.WalkLawsBesides
import Derived.Lib.Hide
import Derived.Deep.QuietTactic
import Derived.BigQuiet
import Derived.Test.YtcnadjdijolboaaGreatDoorMg7
import Derived.Maps.AppendAt
import Derived.OwnWalk
import Derived.Deep.LoopGhost
/- The walks of package mark and of the reference's marks: each function computes what XPlain's functions say. -/
namespace Go.Proofs.YtcnadjdijolboaaGreatDoor
open Go.RowKit

theorem isKey_any (k : Int) (w : World) :
    Calls Tryz.prog 75 #[.int .i64 k] w fun e w' => e = .returned (.bool (isKey k)) ∧ w = w' := by
  have e : isKey k = (decide (1 ≤ k) && decide (k < 1000000007)) := by unfold isKey; congr 1; exact decide_eq_decide.2 (by omega)
  rw [e]
  by_cases h : 1 ≤ k <;> by_cases h2 : k < 1000000007
  all_goals
    go_enter Tryz.func75, Tryz.ntmps75
    go_wp2
    go_ret
    exact ⟨by simp [h, h2], rfl⟩
set_option maxHeartbeats 400000 in
set_option maxRecDepth 100000 in
theorem more_ok (k n : Int) (s : ByteArray) (w : World) (hk : isKey k = true) (h0 : 0 ≤ n) (h1 : n < 1000000007) (hs : s.size ≤ maxLen):
    Calls Tryz.prog 74 #[.int .i64 k, .int .i64 n, .string s] w fun e w' => e = .returned (.tuple #[.int .i64 (mfold k n s.data.toList), .nilIface]) ∧ Below w.heap.size w w' := by
  unfold maxLen at hs
  have hk' := (isKey_iff k).1 hk
  obtain ⟨hk1, hk2⟩ := hk'
  have hcv := fun w => run_bytes_of_string (P := Tryz.prog) w 9 86 5 s Tryz.underlying9 Tryz.underlying86 Tryz.underlying5
  go_enter Tryz.func74, Tryz.ntmps74
  go_wp2_with (go_at_call 107; refine (key_any _ _).mono ?_; rintro e w' ⟨rfl, rfl⟩)
  go_loop [1, 26] (fun n' i => ∃ j : Nat, j ≤ s.size ∧ i = .int .i64 j ∧ n' = .int .i64 (mfold k n (s.data.toList.take j))) (fun _ i => s.size - (intOf i).toNat)
  case atStart => exact ⟨0, Nat.zero_le _, rfl, by simp [mfold]⟩
  case round =>
    obtain ⟨j, hj, rfl, rfl⟩ := hrel
    have hb := mfold_bd k (s.data.toList.take j) n h0 h1
    obtain ⟨hb0, hb1⟩ := hb
    have hc : j < s.size → ∀ c f, (w.alloc (.cells (bytesRow s c) 5 f)).cell? ⟨w.heap.size, j, none⟩ = some (.int .u8 ((byteAt s j).toNat : Int)) := fun h c f => bytesRow_cell w s j h _ _ _
    have hcb : (byteAt s j).toNat < 256 := UInt8.toNat_lt _
    have hS : Hid (j < s.size → mfold k n (s.data.toList.take (j + 1)) = (mfold k n (s.data.toList.take j) * 257 + (byteAt s j).toNat + 1 + k) % 1000000007) := by
      intro h
      rw [take_succ_byte s j h, mfold_snoc]; rfl
    have hE : Hid (¬ j < s.size → mfold k n (s.data.toList.take j) = mfold k n s.data.toList) := by
      intro h
      rw [show j = s.size by omega, take_all]
    generalize (byteAt s j).toNat = c at *
    generalize mfold k n (s.data.toList.take j) = m at *
    by_cases hlt : j < s.size
    · have hc := hc hlt
      go_wp2
      go_round
      case rel => exact ⟨j + 1, by omega, by go_num, by rw [hS.out hlt]⟩
      case measure => simp [intOf]; omega
    · have hE := Lib.hid (hE.out hlt)
      clear hc hS
      go_wp2
      go_ret2
      exact ⟨ret_int2 hE.out, ((Below.refl _ _).alloc (Nat.le_refl _) _).drew⟩
theorem more_key (E : Addr) (k n : Int) (s : ByteArray) (w : World) (hk : isKey k = false) (hE : w.cell? ⟨9, 0, none⟩ = some (.iface 201 (.pointer (some E)))) :
    Calls Tryz.prog 74 #[.int .i64 k, .int .i64 n, .string s] w fun e w' => e = .returned (.tuple #[.int .i64 0, .iface 201 (.pointer (some E))]) ∧ Below w.heap.size w w' := by
  go_enter Tryz.func74, Tryz.ntmps74
  go_wp2_with (go_at_call 107; refine (key_any _ _).mono ?_; rintro e w' ⟨rfl, rfl⟩)
  go_quiet (fail)
  go_wp2
  go_ret2
  exact ⟨rfl, below_drewN (Below.refl _ _) _⟩
theorem more_bound (E : Addr) (k n : Int) (s : ByteArray) (w : World) (hk : isKey k = true) (hn : ¬ (0 ≤ n ∧ n < 1000000007)) (hE : w.cell? ⟨5, 0, none⟩ = some (.iface 201 (.pointer (some E)))) :
    Calls Tryz.prog 74 #[.int .i64 k, .int .i64 n, .string s] w fun e w' => e = .returned (.tuple #[.int .i64 0, .iface 201 (.pointer (some E))]) ∧ Below w.heap.size w w' := by
  have hn' : n < 0 ∨ 1000000007 ≤ n := by omega
  clear hn
  go_enter Tryz.func74, Tryz.ntmps74
  rcases hn' with h | h
  all_goals
    go_wp2_with (go_at_call 107; refine (key_any _ _).mono ?_; rintro e w' ⟨rfl, rfl⟩)
    go_quiet (fail)
    go_wp2
    go_ret2
    exact ⟨rfl, below_drewN (Below.refl _ _) _⟩

theorem more_any {E : Nat → Addr} (k n : Int) (s : ByteArray) (w : World) (hL : Laid E w) (hs : s.size ≤ maxLen) :
    Calls Tryz.prog 74 #[.int .i64 k, .int .i64 n, .string s] w fun e w' => e = .returned (.tuple #[.int .i64 (more k n s.data.toList).1, errV E (more k n s.data.toList).2]) ∧ Below w.heap.size w w' := by
  unfold more
  by_cases hk : isKey k = true
  · by_cases hn : 0 ≤ n ∧ n < 1000000007
    · rw [if_pos hk, if_pos hn]; exact more_ok k n s w hk hn.1 hn.2 hs
    · rw [if_pos hk, if_neg hn]; exact more_bound _ k n s w hk hn hL.e2
  · rw [if_neg hk]; exact more_key _ k n s w (by simpa using hk) hL.e10
set_option maxRecDepth 100000 in
theorem of_any {E : Nat → Addr} (k : Int) (s : ByteArray) (w : World) (hL : Laid E w) (hs : s.size ≤ maxLen) :
    Calls Tryz.prog 54 #[.int .i64 k, .string s] w fun e w' => e = .returned (.tuple #[.int .i64 (markOf k s.data.toList).1, errV E (markOf k s.data.toList).2]) ∧ Below w.heap.size w w' := by
  by_cases hk : 0 ≤ k
  · have hm := more_any (E := E) k (k % 1000000007) s w hL hs
    rw [markOf_more, show max k 0 = k by omega]
    generalize more k (k % 1000000007) s.data.toList = p at *
    go_enter Tryz.func54, Tryz.ntmps54
    go_wp2_with fail
    all_goals
      (try rw [show max k 0 = k by omega])
      refine hm.mono ?_
      rintro e w' ⟨rfl, hb⟩
      go_wp2
      go_ret2
      exact ⟨rfl, hb⟩
  · have hm := more_any (E := E) k 0 s w hL hs
    rw [markOf_more, show max k 0 % 1000000007 = 0 by omega]
    generalize more k 0 s.data.toList = p at *
    go_enter Tryz.func54, Tryz.ntmps54
    go_wp2_with fail
    all_goals
      (try rw [show max k 0 % 1000000007 = 0 by omega])
      refine hm.mono ?_
      rintro e w' ⟨rfl, hb⟩
      go_wp2
      go_ret2
      exact ⟨rfl, hb⟩
theorem drop_byte (s : ByteArray) (d : Nat) (h : d < s.size) : s.data.toList.drop d = byteAt s d :: s.data.toList.drop (d + 1) := by
  have h' : d < s.data.size := h
  rw [List.drop_eq_getElem_cons (by simpa using h), byteAt_eq s d h]; rfl
theorem drop_all (s : ByteArray) : s.data.toList.drop s.size = [] := List.drop_eq_nil_of_le (by simp)
theorem mul_bd (a b : Int) (h0 : 0 ≤ a) (h1 : a < 1000000007) (h2 : 0 ≤ b) (h3 : b < 1000000007) : 0 ≤ a * b ∧ a * b ≤ 1000000012000000036 :=
  ⟨Int.mul_nonneg h0 h2, by have := Int.mul_le_mul (show a ≤ 1000000006 by omega) (show b ≤ 1000000006 by omega) h2 (by omega); omega⟩
set_option maxHeartbeats 400000 in
set_option maxRecDepth 100000 in
theorem from_ok (k n : Int) (s : ByteArray) (w : World) (hk : isKey k = true) (h0 : 0 ≤ n) (h1 : n < 1000000007) (hs : s.size ≤ maxLen):
    Calls Tryz.prog 76 #[.int .i64 k, .int .i64 n, .string s] w fun e w' => e = .returned (.tuple #[.int .i64 (mfold k n s.data.toList), .int .i64 0]) ∧ w = w' := by
  unfold maxLen at hs
  have hk' := (isKey_iff k).1 hk
  obtain ⟨hk1, hk2⟩ := hk'
  have hfin := Lib.hid (mfold_msuf k s.data.toList n h0 h1)
  go_enter Tryz.func76, Tryz.ntmps76
  go_wp2_with (go_at_call 75; refine (isKey_any _ _).mono ?_; rintro e w' ⟨rfl, rfl⟩)
  go_loop [9, 10, 11] (fun p o i => ∃ d : Nat, d ≤ s.size ∧ i = .int .i64 ((d : Int) - 1) ∧ o = .int .i64 (msuf k (s.data.toList.drop d)).1 ∧ p = .int .i64 (msuf k (s.data.toList.drop d)).2) (fun _ _ i => (intOf i + 1).toNat)
  case atStart => exact ⟨s.size, Nat.le_refl _, rfl, by rw [drop_all]; rfl, by rw [drop_all]; rfl⟩
  case round =>
    obtain ⟨d, hd, rfl, rfl, rfl⟩ := hrel
    rcases d with _ | d
    · rw [show ((0 : Nat) : Int) - 1 = -1 by omega]
      have hfin' : Hid (mfold k n s.data.toList = ((msuf k (s.data.toList.drop 0)).1 + (msuf k (s.data.toList.drop 0)).2 * n) % 1000000007) := by rw [List.drop_zero]; exact hfin.out
      obtain ⟨hb0, hb1, hb2, hb3⟩ := msuf_bd k (s.data.toList.drop 0)
      generalize (msuf k (s.data.toList.drop 0)).2 = p at *
      generalize (msuf k (s.data.toList.drop 0)).1 = o at *
      have hx := mul_bd p n hb2 hb3 h0 h1
      go_wp2
      go_ret2
      exact ⟨ret_int2 hfin'.out.symm, rfl⟩
    · rw [show ((d + 1 : Nat) : Int) - 1 = (d : Int) by omega]
      have hS : Hid (msuf k (s.data.toList.drop d) = (((msuf k (s.data.toList.drop (d + 1))).1 + (msuf k (s.data.toList.drop (d + 1))).2 * (((byteAt s d).toNat + 1 + k) % 1000000007)) % 1000000007, (msuf k (s.data.toList.drop (d + 1))).2 * 257 % 1000000007)) := by
        rw [drop_byte s d hd]; rfl
      obtain ⟨hb0, hb1, hb2, hb3⟩ := msuf_bd k (s.data.toList.drop (d + 1))
      have hx := mul_bd (msuf k (s.data.toList.drop (d + 1))).2 (((s[d].toNat : Int) + 1 + k) % 1000000007) hb2 hb3 (by omega) (by omega)
      generalize (msuf k (s.data.toList.drop (d + 1))).2 = p at *
      generalize (msuf k (s.data.toList.drop (d + 1))).1 = o at *
      have hcb : s[d].toNat < 256 := UInt8.toNat_lt _
      go_wp2
      exact ⟨⟨d, by omega, rfl, by rw [hS.out, byteAt_eq s d hd], by rw [hS.out]⟩, by simp [intOf]⟩

theorem from_any (k n : Int) (s : ByteArray) (w : World) (hs : s.size ≤ maxLen) :
    Calls Tryz.prog 76 #[.int .i64 k, .int .i64 n, .string s] w fun e w' => e = .returned (.tuple #[.int .i64 (more k n s.data.toList).1, .int .i64 ((more k n s.data.toList).2 : Nat)]) ∧ w = w' := by
  unfold more
  by_cases hk : isKey k = true
  · by_cases hn : 0 ≤ n ∧ n < 1000000007
    · rw [if_pos hk, if_pos hn]; exact from_ok k n s w hk hn.1 hn.2 hs
    · rw [if_pos hk, if_neg hn]
      have hn' : n < 0 ∨ 1000000007 ≤ n := by omega
      clear hn
      go_enter Tryz.func76, Tryz.ntmps76
      rcases hn' with h | h
      all_goals
        go_wp2_with (go_at_call 75; refine (isKey_any _ _).mono ?_; rintro e w' ⟨rfl, rfl⟩)
        go_ret2
        exact ⟨rfl, rfl⟩
  · rw [if_neg hk]
    have hk : isKey k = false := by simpa using hk
    go_enter Tryz.func76, Tryz.ntmps76
    go_wp2_with (go_at_call 75; refine (isKey_any _ _).mono ?_; rintro e w' ⟨rfl, rfl⟩)
    go_ret2
    exact ⟨rfl, rfl⟩
theorem markOf_any (k : Int) (s : ByteArray) (w : World) (hs : s.size ≤ maxLen) :
    Calls Tryz.prog 55 #[.int .i64 k, .string s] w fun e w' => e = .returned (.tuple #[.int .i64 (markOf k s.data.toList).1, .int .i64 ((markOf k s.data.toList).2 : Nat)]) ∧ w = w' := by
  unfold markOf
  by_cases hk : isKey k = true
  · rw [if_pos hk]
    have hk' := (isKey_iff k).1 hk
    have hm := from_ok k k s w hk (by omega) (by omega) hs
    clear hk'
    go_enter Tryz.func55, Tryz.ntmps55
    go_wp2_with (first | (go_at_call 75; refine (isKey_any _ _).mono ?_; rintro e w' ⟨rfl, rfl⟩) | (go_at_call 76; refine hm.mono ?_; rintro e w' ⟨rfl, rfl⟩))
    go_ret2
    exact ⟨rfl, rfl⟩
  · rw [if_neg hk]
    have hk : isKey k = false := by simpa using hk
    go_enter Tryz.func55, Tryz.ntmps55
    go_wp2_with (go_at_call 75; refine (isKey_any _ _).mono ?_; rintro e w' ⟨rfl, rfl⟩)
    go_ret2
    exact ⟨rfl, rfl⟩
end Go.Proofs.YtcnadjdijolboaaGreatDoor

/- The walks of the reference's texts: digits, names, words, numbers, cut, glue. -/
namespace Go.Proofs.YtcnadjdijolboaaGreatDoor
open Go.RowKit Go.Maps

theorem str_cat (a b : List UInt8) : bs a ++ bs b = bs (a ++ b) := by
  apply ByteArray.ext
  simp [bs]
theorem ret_string {a b : ByteArray} (h : a = b) : Ending.returned (.string a) = .returned (.string b) := by rw [h]
theorem digit_byte (n : Int) (h0 : 48 ≤ n) (h1 : n ≤ 57) : ((UInt8.ofNat n.toNat).toNat : Int) = n := by
  simp
  omega
set_option maxRecDepth 100000 in
theorem byte_any (n : Int) (w : World) (h0 : 48 ≤ n) (h1 : n ≤ 57) :
    Calls Tryz.prog 106 #[.int .i64 n] w fun e w' => e = .returned (.string (bs [UInt8.ofNat n.toNat])) ∧ Below w.heap.size w w' := by
  have hcb := run_convert_bytes_back (P := Tryz.prog) (w.alloc (.cells #[.int .u8 n] 5)) 86 9 5 ⟨w.heap.size, 0, none⟩ 1 [UInt8.ofNat n.toNat] Tryz.underlying86 Tryz.underlying5 Tryz.underlying9 (by
    intro i hi
    have : i = 0 := by simpa using hi
    subst this
    rw [List.getElem_singleton, digit_byte n h0 h1]
    simp [Addr.add])
  rw [show [UInt8.ofNat n.toNat].length = 1 from rfl] at hcb
  go_enter Tryz.func106, Tryz.ntmps106
  go_wp2_with fail
  go_ret
  exact ⟨rfl, (Below.refl _ _).alloc (Nat.le_refl _) _⟩

theorem neg_tdiv (u : Nat) : (-(u : Int)).tdiv 10 = -((u / 10 : Nat) : Int) := by
  rw [Int.neg_tdiv]
  rfl
theorem neg_tmod (u : Nat) : (-(u : Int)).tmod 10 = -((u % 10 : Nat) : Int) := by
  rw [Int.neg_tmod]
  rfl
theorem dec_len {u : Nat} (h : u ≤ 9223372036854775807) : (Lib.decDigits u).length ≤ 19 :=
  decDigits_len 18 u (by have : (10 : Nat) ^ (18 + 1) = 10000000000000000000 := by decide
                         omega)
set_option maxRecDepth 100000 in
theorem below_any (u : Nat) : ∀ (w : World), u ≤ 9223372036854775807 →
    Calls Tryz.prog 73 #[.int .i64 (-(u : Int))] w fun e w' => e = .returned (.string (bs (Lib.decDigits u))) ∧ Below w.heap.size w w' := by
  induction u using Nat.strongRecOn with
  | _ u ih =>
    intro w hu
    by_cases h : u < 10
    · have hd := Lib.hid (show Lib.decDigits u = [UInt8.ofNat (48 + u)] by rw [Lib.decDigits, dif_pos h])
      have hb := Lib.hid (byte_any (48 + (u : Int)) w (by omega) (by omega))
      have ht : decide (-10 < -(u : Int)) = true := decide_eq_true (by omega)
      clear ih
      go_enter Tryz.func73, Tryz.ntmps73
      go_wp2_with fail
      refine hb.out.mono ?_
      rintro e w1 ⟨rfl, hb1⟩
      go_wp2_with fail
      go_ret
      exact ⟨ret_string (by rw [hd.out]; congr 1), hb1⟩
    · have hd := Lib.hid (show Lib.decDigits u = Lib.decDigits (u / 10) ++ [UInt8.ofNat (48 + u % 10)] by rw [Lib.decDigits, dif_neg h])
      have ht : decide (-10 < -(u : Int)) = false := decide_eq_false (by omega)
      have hi := Lib.hid (ih (u / 10) (by omega))
      have hb := Lib.hid (fun wx => byte_any (48 + ((u % 10 : Nat) : Int)) wx (by omega) (by omega))
      have hs1 : (bs (Lib.decDigits (u / 10))).size ≤ 19 := by rw [bs_size]; exact dec_len (by omega)
      rw [show (48 + ((u % 10 : Nat) : Int)).toNat = 48 + u % 10 by omega] at hb
      have hs2 : (bs [UInt8.ofNat (48 + u % 10)]).size ≤ 1 := by rw [bs_size]; exact Nat.le_refl 1
      have hfin := Lib.hid (show bs (Lib.decDigits (u / 10)) ++ bs [UInt8.ofNat (48 + u % 10)] = bs (Lib.decDigits u) from (str_cat _ _).trans (by rw [hd.out]))
      generalize bs [UInt8.ofNat (48 + u % 10)] = q at *
      clear ih
      go_enter Tryz.func73, Tryz.ntmps73
      go_wp2_with fail
      rw [show (-((u : Int) / 10)) = -((u / 10 : Nat) : Int) by omega]
      refine (hi.out _ (by omega)).mono ?_
      rintro e w1 ⟨rfl, hb1⟩
      go_wp2_with fail
      rw [show (48 : Int) + (u : Int) % 10 = 48 + ((u % 10 : Nat) : Int) by omega]
      refine (hb.out _).mono ?_
      rintro e w2 ⟨rfl, hb2⟩
      go_wp2_with fail
      go_ret
      exact ⟨ret_string hfin.out, below_trans hb1 hb2⟩
set_option maxRecDepth 100000 in
theorem decimal_any (n : Int) (w : World) (h0 : -9223372036854775807 ≤ n) (h1 : n ≤ 9223372036854775807) :
    Calls Tryz.prog 50 #[.int .i64 n] w fun e w' => e = .returned (.string (bs (Lib.itoa n))) ∧ Below w.heap.size w w' := by
  by_cases h : n < 0
  · obtain ⟨u, rfl⟩ : ∃ u : Nat, n = -(u : Int) := ⟨n.natAbs, by omega⟩
    have hr := Lib.hid (show Lib.itoa (-(u : Int)) = 45 :: Lib.decDigits u by unfold Lib.itoa; rw [if_pos h]; congr 2; omega)
    have hb := Lib.hid (below_any u w (by omega))
    have hs1 : (bs (Lib.decDigits u)).size ≤ 19 := by rw [bs_size]; exact dec_len (by omega)
    have ht : 0 < u := by omega
    clear h
    go_enter Tryz.func50, Tryz.ntmps50
    go_wp2_with fail
    refine hb.out.mono ?_
    rintro e w1 ⟨rfl, hb1⟩
    go_wp2_with fail
    go_ret
    exact ⟨ret_string (by rw [hr.out]; exact (str_cat [45] _)), hb1⟩
  · obtain ⟨u, rfl⟩ : ∃ u : Nat, n = (u : Int) := ⟨n.toNat, by omega⟩
    have hr := Lib.hid (show Lib.itoa (u : Int) = Lib.decDigits u by unfold Lib.itoa; rw [if_neg h, Int.toNat_natCast])
    have hb := Lib.hid (below_any u w (by omega))
    go_enter Tryz.func50, Tryz.ntmps50
    go_wp2_with fail
    refine hb.out.mono ?_
    rintro e w1 ⟨rfl, hb1⟩
    go_wp2_with fail
    go_ret
    exact ⟨ret_string (by rw [hr.out]), hb1⟩

/-! Names, words, numbers. -/
theorem ret_bool2 {a b : Bool} (h : a = b) : Ending.returned (.bool a) = .returned (.bool b) := by rw [h]
set_option maxRecDepth 100000 in
theorem small_any (c : UInt8) (w : World) :
    Calls Tryz.prog 99 #[.int .u8 (c.toNat : Int)] w fun e w' => e = .returned (.bool (smallB c)) ∧ w = w' := by
  have hr := Lib.hid (show smallB c = ((decide (97 ≤ c.toNat) && decide (c.toNat ≤ 122)) || (decide (48 ≤ c.toNat) && decide (c.toNat ≤ 57))) by
    unfold smallB
    simp only [UInt8.le_iff_toNat_le]
    rfl)
  have hc := UInt8.toNat_lt c
  generalize c.toNat = n at *
  by_cases h1 : 97 ≤ n <;> by_cases h2 : n ≤ 122 <;> by_cases h3 : 48 ≤ n <;> by_cases h4 : n ≤ 57
  all_goals first | (exfalso; omega) | skip
  all_goals
    go_enter Tryz.func99, Tryz.ntmps99
    go_wp2_with fail
    go_ret
    exact ⟨ret_bool2 (by rw [hr.out]; simp [h1, h2, h3, h4]; try omega), rfl⟩
end Go.Proofs.YtcnadjdijolboaaGreatDoor

/- The walks of the reference's texts: names, words, numbers, cut, glue. -/
namespace Go.Proofs.YtcnadjdijolboaaGreatDoor
open Go.RowKit Go.Maps

theorem all_bytes {p : UInt8 → Bool} {s : ByteArray} (h : ∀ q, q < s.size → p (byteAt s q) = true) : ∀ c ∈ s.data.toList, p c = true := by
  intro c hc
  obtain ⟨i, hi, rfl⟩ := List.getElem_of_mem hc
  have := h i (by simpa using hi)
  unfold byteAt at this
  rwa [List.getD_eq_getElem?_getD, List.getElem?_eq_getElem hi] at this
theorem byte_mem {s : ByteArray} {j : Nat} (h : j < s.size) : byteAt s j ∈ s.data.toList := by
  unfold byteAt
  have hi : j < s.data.toList.length := by simpa using h
  rw [List.getD_eq_getElem?_getD, List.getElem?_eq_getElem hi]
  exact List.getElem_mem hi
set_option maxRecDepth 100000 in
theorem isNameR_any (s : ByteArray) (w : World) (hs : s.size ≤ maxLen) :
    Calls Tryz.prog 70 #[.string s] w fun e w' => e = .returned (.bool (isName s.data.toList)) ∧ w = w' := by
  unfold maxLen at hs
  have hlen : s.data.toList.length = s.size := Array.length_toList
  go_enter Tryz.func70, Tryz.ntmps70
  go_wp2_with fail
  go_loop [3] (fun i => ∃ j : Nat, j ≤ s.size ∧ i = .int .i64 j ∧ Hid (∀ q, q < j → smallB (byteAt s q) = true)) (fun i => s.size - (intOf i).toNat)
  case atStart => exact ⟨0, Nat.zero_le _, rfl, Lib.hid (fun _ h => absurd h (Nat.not_lt_zero _))⟩
  case round =>
    obtain ⟨j, hj, rfl, hall⟩ := hrel
    by_cases hlt : j < s.size
    · have hsm := Lib.hid (fun wx => small_any s[j] wx)
      cases hb : smallB (byteAt s j) with
      | false =>
        rw [← byteAt_eq s j hlt, hb, byteAt_eq s j hlt] at hsm
        have hr := Lib.hid (show isName s.data.toList = false by
          cases hn : isName s.data.toList with
          | false => rfl
          | true =>
            have := ((isName_iff _).1 hn).2.2 _ (byte_mem hlt)
            rw [hb] at this
            cases this)
        clear hb
        go_wp2_with (go_at_call 99; refine (hsm.out _).mono ?_; rintro e w' ⟨rfl, rfl⟩)
        go_ret
        exact ⟨ret_bool2 hr.out.symm, rfl⟩
      | true =>
        rw [← byteAt_eq s j hlt, hb, byteAt_eq s j hlt] at hsm
        have hall2 := Lib.hid (show ∀ q, q < j + 1 → smallB (byteAt s q) = true from fun q hq => by
          rcases Nat.lt_succ_iff_lt_or_eq.1 hq with h' | rfl
          · exact hall.out q h'
          · exact hb)
        clear hb
        go_wp2_with (go_at_call 99; refine (hsm.out _).mono ?_; rintro e w' ⟨rfl, rfl⟩)
        go_round
        case rel => exact ⟨j + 1, hlt, by go_num, hall2⟩
        case measure => simp [intOf]; omega
    · have hr := Lib.hid (show isName s.data.toList = (decide (1 ≤ s.size) && decide (s.size ≤ 8)) by
        have h1 : s.data.toList.all smallB = true := List.all_eq_true.2 (all_bytes fun q hq => hall.out q (by omega))
        unfold isName
        rw [h1, hlen, Bool.and_true])
      clear hlen
      by_cases h1 : 1 ≤ s.size <;> by_cases h8 : s.size ≤ 8
      all_goals first | (exfalso; omega) | skip
      all_goals
        go_wp2_with fail
        go_ret
        exact ⟨ret_bool2 (by rw [hr.out]; simp [h1, h8]; try omega), rfl⟩
/-- What the reference's NumberOf answers (-1: none). -/
def numR (l : List UInt8) (most : Int) : Int := match numOf l with
  | some n => if (n : Int) ≤ most then (n : Int) else -1
  | none => -1
theorem numR_number (l : List UInt8) (most : Int) : numR l most = if (number l most).2 = true then (number l most).1 else -1 := by
  unfold numR number
  cases numOf l with
  | none => rfl
  | some n =>
    by_cases h : (n : Int) ≤ most <;> simp [h]
theorem numR_none {l : List UInt8} {most : Int} (h : goodNum l = false ∨ 10 < l.length) : numR l most = -1 := by
  unfold numR numOf
  rw [if_neg]
  simp only [Bool.and_eq_true, decide_eq_true_eq]
  rintro ⟨h1, h2⟩
  rcases h with h | h
  · rw [h1] at h; cases h
  · omega
theorem numR_some {l : List UInt8} {most : Int} (h : goodNum l = true) (h2 : l.length ≤ 10) : numR l most = if (decVal l : Int) ≤ most then (decVal l : Int) else -1 := by
  unfold numR numOf
  rw [if_pos (by simp [h, h2])]
theorem head_byte (s : ByteArray) (h : 0 < s.size) : s.data.toList.head? = some (byteAt s 0) := by
  have hi : 0 < s.data.toList.length := by simpa using h
  unfold byteAt
  rw [List.head?_eq_getElem?, List.getD_eq_getElem?_getD, List.getElem?_eq_getElem hi]
  rfl
theorem int_eq2 {k : IntKind} {a b : Int} (h : a = b) : Value.int k a = .int k b := by rw [h]
set_option maxHeartbeats 1000000 in
set_option maxRecDepth 100000 in
theorem numberR_any (s : ByteArray) (most : Int) (w : World) (hs : s.size ≤ maxLen) :
    Calls Tryz.prog 53 #[.string s, .int .i64 most] w fun e w' => e = .returned (.int .i64 (numR s.data.toList most)) ∧ w = w' := by
  unfold maxLen at hs
  have hlen : s.data.toList.length = s.size := Array.length_toList
  by_cases h1 : s.size = 0
  · have hr := Lib.hid (show numR s.data.toList most = -1 from numR_none (.inl (by
      rw [List.eq_nil_of_length_eq_zero (hlen.trans h1)]; rfl)))
    have h1 : s.size < 1 := by omega
    clear hlen
    go_enter Tryz.func53, Tryz.ntmps53
    go_wp2_with fail
    go_ret
    exact ⟨ret_int hr.out.symm, rfl⟩
  have h1 : 1 ≤ s.size := by omega
  by_cases h10 : 10 < s.size
  · have hr := Lib.hid (show numR s.data.toList most = -1 from numR_none (.inr (by omega)))
    clear hlen
    go_enter Tryz.func53, Tryz.ntmps53
    go_wp2_with fail
    go_ret
    exact ⟨ret_int hr.out.symm, rfl⟩
  have h10 : s.size ≤ 10 := by omega
  have hh := Lib.hid (head_byte s h1)
  have h0s : 0 < s.size := h1
  have hb0 := Lib.hid (byteAt_eq s 0 h0s)
  by_cases hz : 1 < s.size ∧ (s[0].toNat : Int) = 48
  · have hr := Lib.hid (show numR s.data.toList most = -1 from numR_none (.inl (by
      have e0 : byteAt s 0 = 48 := by rw [hb0.out]; exact UInt8.toNat_inj.1 (by simpa using Int.ofNat.inj hz.2)
      unfold goodNum
      rw [hh.out, e0, hlen]
      have : ¬ s.size = 1 := by omega
      simp [this])))
    obtain ⟨hz1, hz2⟩ := hz
    have hz2 : ((s[0].toNat : Int) == 48) = true := by rw [beq_iff_eq]; exact hz2
    clear hlen
    go_enter Tryz.func53, Tryz.ntmps53
    go_wp2_with fail
    go_ret
    exact ⟨ret_int hr.out.symm, rfl⟩
  have hgood : (s.data.toList.all digB = true) → Hid (goodNum s.data.toList = true) := fun ha => Lib.hid (by
    unfold goodNum
    rw [ha, hlen, hh.out]
    have : byteAt s 0 ≠ 48 ∨ s.size = 1 := by
      by_cases h : s.size = 1
      · exact .inr h
      · left
        intro e
        apply hz
        rw [hb0.out] at e
        exact ⟨by omega, by rw [e]; rfl⟩
    rcases this with h | h
    · simp [h, h1]
    · simp [h])
  have hgood := Lib.hid hgood
  have hsz : s.size = 1 ∨ (1 < s.size ∧ ((s[0].toNat : Int) == 48) = false) := by
    by_cases h : s.size = 1
    · exact .inl h
    · exact .inr ⟨by omega, by rw [beq_eq_false_iff_ne]; exact fun e => hz ⟨by omega, e⟩⟩
  have hlen := Lib.hid hlen
  clear hz
  rcases hsz with hsz | ⟨hsz, hsz2⟩
  all_goals
    try have hsz : s.size < 2 := by omega
    go_enter Tryz.func53, Tryz.ntmps53
    go_wp2_with fail
    go_loop [5, 6] (fun n i => ∃ j : Nat, j ≤ s.size ∧ i = .int .i64 j ∧ n = .int .i64 (decVal (s.data.toList.take j)) ∧ Hid (∀ q, q < j → digB (byteAt s q) = true)) (fun _ i => s.size - (intOf i).toNat)
    case atStart => exact ⟨0, Nat.zero_le _, rfl, rfl, Lib.hid (fun _ h => absurd h (Nat.not_lt_zero _))⟩
    case round =>
      obtain ⟨j, hj, rfl, rfl, hall⟩ := hrel
      have hdl : (s.data.toList.take j).all digB = true := List.all_eq_true.2 fun c hc => by
        obtain ⟨q, hq, rfl⟩ := List.getElem_of_mem hc
        have hq2 : q < j := by simp at hq; omega
        have := hall.out q hq2
        unfold byteAt at this
        rw [List.getD_eq_getElem?_getD, List.getElem?_eq_getElem (by simp at hq ⊢; omega)] at this
        simpa using this
      have hlt10 := decVal_lt _ hdl
      have hp : 10 ^ (s.data.toList.take j).length ≤ 10 ^ 10 := Nat.pow_le_pow_right (by decide) (by simp; omega)
      have hbd : decVal (s.data.toList.take j) < 10000000000 := Nat.lt_of_lt_of_le hlt10 hp
      clear hlt10 hp hdl
      by_cases hlt : j < s.size
      · have hsn := Lib.hid (show decVal (s.data.toList.take (j + 1)) = decVal (s.data.toList.take j) * 10 + (s[j].toNat - 48) by rw [take_succ_byte s j hlt, decVal_snoc, byteAt_eq s j hlt])
        have hcb : s[j].toNat < 256 := UInt8.toNat_lt _
        have hdg := Lib.hid (show digB (byteAt s j) = true ↔ 48 ≤ s[j].toNat ∧ s[j].toNat ≤ 57 by rw [digB_iff, byteAt_eq s j hlt])
        have hno := Lib.hid (show ¬ (48 ≤ s[j].toNat ∧ s[j].toNat ≤ 57) → numR s.data.toList most = -1 from fun h => numR_none (.inl (by
          cases hg : goodNum s.data.toList with
          | false => rfl
          | true =>
            simp only [goodNum, Bool.and_eq_true] at hg
            have := List.all_eq_true.1 hg.1.1 _ (byte_mem hlt)
            exact absurd (hdg.out.1 this) h)))
        generalize decVal (s.data.toList.take j) = m at *
        by_cases ha : s[j].toNat < 48
        · have hr := Lib.hid (hno.out (by omega))
          go_wp2_with fail
          go_ret
          exact ⟨ret_int hr.out.symm, rfl⟩
        · by_cases hb : 57 < s[j].toNat
          · have hr := Lib.hid (hno.out (by omega))
            go_wp2_with fail
            go_ret
            exact ⟨ret_int hr.out.symm, rfl⟩
          · have hall2 := Lib.hid (show ∀ q, q < j + 1 → digB (byteAt s q) = true from fun q hq => by
              rcases Nat.lt_succ_iff_lt_or_eq.1 hq with h' | rfl
              · exact hall.out q h'
              · exact hdg.out.2 ⟨by omega, by omega⟩)
            go_wp2_with fail
            go_round
            case rel => exact ⟨j + 1, hlt, by go_num, by rw [hsn.out]; exact int_eq2 (by omega), hall2⟩
            case measure => simp [intOf]; omega
      · have hje : j = s.size := by omega
        have hg := hgood.out (List.all_eq_true.2 (all_bytes fun q hq => hall.out q (by omega)))
        have htk : s.data.toList.take j = s.data.toList := by rw [hje, take_all]
        rw [htk] at hbd ⊢
        have hr := Lib.hid (numR_some (most := most) hg.out (by rw [hlen.out]; exact h10))
        have hge : ¬ ((j : Int) < (s.size : Int)) := by omega
        clear htk hje
        generalize decVal s.data.toList = m at *
        by_cases hm : (m : Int) ≤ most
        · go_wp2_with fail
          go_ret
          exact ⟨ret_int (by rw [hr.out, if_pos hm]), rfl⟩
        · go_wp2_with fail
          go_ret
          exact ⟨ret_int (by rw [hr.out, if_neg (by omega)]), rfl⟩
end Go.Proofs.YtcnadjdijolboaaGreatDoor
