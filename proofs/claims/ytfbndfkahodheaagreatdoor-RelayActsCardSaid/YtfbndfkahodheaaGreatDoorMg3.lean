/- Mark, RefW -/
import Derived.Test.YtfbndfkahodheaaGreatDoorProg
import Derived.Test.YtfbndfkahodheaaGreatDoorMg2
import Derived.WalkKit
import Derived.WalkSpells
import Derived.WalkLawsBesides
import Derived.Lib.Hide
import Derived.Deep.QuietTactic
import Derived.BigQuiet
import Derived.Maps.AppendAt
import Derived.OwnWalk
/- The walks of package mark and of the reference's marks: each function computes what XPlain's functions say. -/
namespace Go.Proofs.YtfbndfkahodheaaGreatDoor
open Go.RowKit

theorem isKey_any (k : Int) (w : World) :
    Calls Tryz.prog 28 #[.int .i64 k] w fun e w' => e = .returned (.bool (isKey k)) ∧ w = w' := by
  have e : isKey k = (decide (1 ≤ k) && decide (k < 1000000007)) := by unfold isKey; congr 1; exact decide_eq_decide.2 (by omega)
  rw [e]
  by_cases h : 1 ≤ k <;> by_cases h2 : k < 1000000007
  all_goals
    go_enter Tryz.func28, Tryz.ntmps28
    go_wp2
    go_ret
    exact ⟨by simp [h, h2], rfl⟩
set_option maxHeartbeats 400000 in
set_option maxRecDepth 100000 in
theorem more_ok (k n : Int) (s : ByteArray) (w : World) (hk : isKey k = true) (h0 : 0 ≤ n) (h1 : n < 1000000007) (hs : s.size ≤ maxLen):
    Calls Tryz.prog 106 #[.int .i64 k, .int .i64 n, .string s] w fun e w' => e = .returned (.tuple #[.int .i64 (mfold k n s.data.toList), .nilIface]) ∧ Below w.heap.size w w' := by
  unfold maxLen at hs
  have hk' := (isKey_iff k).1 hk
  obtain ⟨hk1, hk2⟩ := hk'
  have hcv := fun w => run_bytes_of_string (P := Tryz.prog) w 9 187 5 s Tryz.underlying9 Tryz.underlying187 Tryz.underlying5
  go_enter Tryz.func106, Tryz.ntmps106
  go_wp2_with (go_at_call 55; refine (key_any _ _).mono ?_; rintro e w' ⟨rfl, rfl⟩)
  go_loop [1, 26] (fun n' i => ∃ j : Nat, j ≤ s.size ∧ i = .int .i64 j ∧ n' = .int .i64 (mfold k n (s.data.toList.take j))) (fun _ i => s.size - (intOf i).toNat)
  case atStart => exact ⟨0, Nat.zero_le _, rfl, by simp [mfold]⟩
  case round =>
    obtain ⟨j, hj, rfl, rfl⟩ := hrel
    have hb := mfold_bd k (s.data.toList.take j) n h0 h1
    obtain ⟨hb0, hb1⟩ := hb
    have hc : j < s.size → ∀ c f, (w.alloc (.cells (bytesRow s c) 5 f)).cell? ⟨w.heap.size, j, none⟩ = some (.int .u8 ((byteAt s j).toNat : Int)) := fun h c f => bytesRow_cell w s j h _ _ _
    have hcb : (byteAt s j).toNat < 256 := UInt8.toNat_lt _
    have hS : Hid (j < s.size → mfold k n (s.data.toList.take (j + 1)) = (mfold k n (s.data.toList.take j) * 257 + (byteAt s j).toNat + 1 + k) % 1000000007) := by
      intro h
      rw [take_succ_byte s j h, mfold_snoc]; rfl
    have hE : Hid (¬ j < s.size → mfold k n (s.data.toList.take j) = mfold k n s.data.toList) := by
      intro h
      rw [show j = s.size by omega, take_all]
    generalize (byteAt s j).toNat = c at *
    generalize mfold k n (s.data.toList.take j) = m at *
    by_cases hlt : j < s.size
    · have hc := hc hlt
      go_wp2
      go_round
      case rel => exact ⟨j + 1, by omega, by go_num, by rw [hS.out hlt]⟩
      case measure => simp [intOf]; omega
    · have hE := Lib.hid (hE.out hlt)
      clear hc hS
      go_wp2
      go_ret2
      exact ⟨ret_int2 hE.out, ((Below.refl _ _).alloc (Nat.le_refl _) _).drew⟩
theorem more_key (E : Addr) (k n : Int) (s : ByteArray) (w : World) (hk : isKey k = false) (hE : w.cell? ⟨3, 0, none⟩ = some (.iface 258 (.pointer (some E)))) :
    Calls Tryz.prog 106 #[.int .i64 k, .int .i64 n, .string s] w fun e w' => e = .returned (.tuple #[.int .i64 0, .iface 258 (.pointer (some E))]) ∧ Below w.heap.size w w' := by
  go_enter Tryz.func106, Tryz.ntmps106
  go_wp2_with (go_at_call 55; refine (key_any _ _).mono ?_; rintro e w' ⟨rfl, rfl⟩)
  go_quiet (fail)
  go_wp2
  go_ret2
  exact ⟨rfl, below_drewN (Below.refl _ _) _⟩
theorem more_bound (E : Addr) (k n : Int) (s : ByteArray) (w : World) (hk : isKey k = true) (hn : ¬ (0 ≤ n ∧ n < 1000000007)) (hE : w.cell? ⟨1, 0, none⟩ = some (.iface 258 (.pointer (some E)))) :
    Calls Tryz.prog 106 #[.int .i64 k, .int .i64 n, .string s] w fun e w' => e = .returned (.tuple #[.int .i64 0, .iface 258 (.pointer (some E))]) ∧ Below w.heap.size w w' := by
  have hn' : n < 0 ∨ 1000000007 ≤ n := by omega
  clear hn
  go_enter Tryz.func106, Tryz.ntmps106
  rcases hn' with h | h
  all_goals
    go_wp2_with (go_at_call 55; refine (key_any _ _).mono ?_; rintro e w' ⟨rfl, rfl⟩)
    go_quiet (fail)
    go_wp2
    go_ret2
    exact ⟨rfl, below_drewN (Below.refl _ _) _⟩

theorem more_any {E : Nat → Addr} (k n : Int) (s : ByteArray) (w : World) (hL : Laid E w) (hs : s.size ≤ maxLen) :
    Calls Tryz.prog 106 #[.int .i64 k, .int .i64 n, .string s] w fun e w' => e = .returned (.tuple #[.int .i64 (more k n s.data.toList).1, errV E (more k n s.data.toList).2]) ∧ Below w.heap.size w w' := by
  unfold more
  by_cases hk : isKey k = true
  · by_cases hn : 0 ≤ n ∧ n < 1000000007
    · rw [if_pos hk, if_pos hn]; exact more_ok k n s w hk hn.1 hn.2 hs
    · rw [if_pos hk, if_neg hn]; exact more_bound _ k n s w hk hn hL.e2
  · rw [if_neg hk]; exact more_key _ k n s w (by simpa using hk) hL.e10
set_option maxRecDepth 100000 in
theorem of_any {E : Nat → Addr} (k : Int) (s : ByteArray) (w : World) (hL : Laid E w) (hs : s.size ≤ maxLen) :
    Calls Tryz.prog 74 #[.int .i64 k, .string s] w fun e w' => e = .returned (.tuple #[.int .i64 (markOf k s.data.toList).1, errV E (markOf k s.data.toList).2]) ∧ Below w.heap.size w w' := by
  by_cases hk : 0 ≤ k
  · have hm := more_any (E := E) k (k % 1000000007) s w hL hs
    rw [markOf_more, show max k 0 = k by omega]
    generalize more k (k % 1000000007) s.data.toList = p at *
    go_enter Tryz.func74, Tryz.ntmps74
    go_wp2_with fail
    all_goals
      (try rw [show max k 0 = k by omega])
      refine hm.mono ?_
      rintro e w' ⟨rfl, hb⟩
      go_wp2
      go_ret2
      exact ⟨rfl, hb⟩
  · have hm := more_any (E := E) k 0 s w hL hs
    rw [markOf_more, show max k 0 % 1000000007 = 0 by omega]
    generalize more k 0 s.data.toList = p at *
    go_enter Tryz.func74, Tryz.ntmps74
    go_wp2_with fail
    all_goals
      (try rw [show max k 0 % 1000000007 = 0 by omega])
      refine hm.mono ?_
      rintro e w' ⟨rfl, hb⟩
      go_wp2
      go_ret2
      exact ⟨rfl, hb⟩
/-- Right: an error's number. -/
theorem right_any {E : Nat → Addr} (k n : Int) (s : ByteArray) (w : World) (hL : Laid E w) (hs : s.size ≤ maxLen) :
    Calls Tryz.prog 101 #[.int .i64 k, .string s, .int .i64 n] w fun e w' => e = .returned (errV E (rightOf k s.data.toList n)) ∧ Below w.heap.size w w' := by
  have hm := of_any (E := E) k s w hL hs
  unfold rightOf
  generalize markOf k s.data.toList = p at *
  obtain ⟨m, c⟩ := p
  dsimp only at *
  rcases c with _ | c
  · by_cases hmn : m = n
    · subst hmn
      rw [if_pos rfl, if_pos rfl]
      go_enter Tryz.func101, Tryz.ntmps101
      go_wp2_with fail
      refine hm.mono ?_
      rintro e w' ⟨rfl, hb⟩
      rw [errV_zero]
      go_wp2
      go_ret
      exact ⟨rfl, hb⟩
    · rw [if_pos rfl, if_neg hmn]
      have hmn' : (m != n) = true := by simpa using hmn
      clear hmn
      go_enter Tryz.func101, Tryz.ntmps101
      go_wp2_with fail
      refine hm.mono ?_
      rintro e w' ⟨rfl, hb⟩
      rw [errV_zero]
      have he := (hL.below hb).e9
      go_wp2
      go_ret
      exact ⟨rfl, hb⟩
  · rw [if_neg (by omega)]
    go_enter Tryz.func101, Tryz.ntmps101
    go_wp2_with fail
    refine hm.mono ?_
    rintro e w' ⟨rfl, hb⟩
    rw [errV_succ]
    go_wp2
    go_ret
    exact ⟨rfl, hb⟩

theorem drop_byte (s : ByteArray) (d : Nat) (h : d < s.size) : s.data.toList.drop d = byteAt s d :: s.data.toList.drop (d + 1) := by
  have h' : d < s.data.size := h
  rw [List.drop_eq_getElem_cons (by simpa using h), byteAt_eq s d h]; rfl
theorem drop_all (s : ByteArray) : s.data.toList.drop s.size = [] := List.drop_eq_nil_of_le (by simp)
theorem mul_bd (a b : Int) (h0 : 0 ≤ a) (h1 : a < 1000000007) (h2 : 0 ≤ b) (h3 : b < 1000000007) : 0 ≤ a * b ∧ a * b ≤ 1000000012000000036 :=
  ⟨Int.mul_nonneg h0 h2, by have := Int.mul_le_mul (show a ≤ 1000000006 by omega) (show b ≤ 1000000006 by omega) h2 (by omega); omega⟩
set_option maxHeartbeats 400000 in
set_option maxRecDepth 100000 in
theorem from_ok (k n : Int) (s : ByteArray) (w : World) (hk : isKey k = true) (h0 : 0 ≤ n) (h1 : n < 1000000007) (hs : s.size ≤ maxLen):
    Calls Tryz.prog 127 #[.int .i64 k, .int .i64 n, .string s] w fun e w' => e = .returned (.tuple #[.int .i64 (mfold k n s.data.toList), .int .i64 0]) ∧ w = w' := by
  unfold maxLen at hs
  have hk' := (isKey_iff k).1 hk
  obtain ⟨hk1, hk2⟩ := hk'
  have hfin := Lib.hid (mfold_msuf k s.data.toList n h0 h1)
  go_enter Tryz.func127, Tryz.ntmps127
  go_wp2_with (go_at_call 28; refine (isKey_any _ _).mono ?_; rintro e w' ⟨rfl, rfl⟩)
  go_loop [9, 10, 11] (fun p o i => ∃ d : Nat, d ≤ s.size ∧ i = .int .i64 ((d : Int) - 1) ∧ o = .int .i64 (msuf k (s.data.toList.drop d)).1 ∧ p = .int .i64 (msuf k (s.data.toList.drop d)).2) (fun _ _ i => (intOf i + 1).toNat)
  case atStart => exact ⟨s.size, Nat.le_refl _, rfl, by rw [drop_all]; rfl, by rw [drop_all]; rfl⟩
  case round =>
    obtain ⟨d, hd, rfl, rfl, rfl⟩ := hrel
    rcases d with _ | d
    · rw [show ((0 : Nat) : Int) - 1 = -1 by omega]
      have hfin' : Hid (mfold k n s.data.toList = ((msuf k (s.data.toList.drop 0)).1 + (msuf k (s.data.toList.drop 0)).2 * n) % 1000000007) := by rw [List.drop_zero]; exact hfin.out
      obtain ⟨hb0, hb1, hb2, hb3⟩ := msuf_bd k (s.data.toList.drop 0)
      generalize (msuf k (s.data.toList.drop 0)).2 = p at *
      generalize (msuf k (s.data.toList.drop 0)).1 = o at *
      have hx := mul_bd p n hb2 hb3 h0 h1
      go_wp2
      go_ret2
      exact ⟨ret_int2 hfin'.out.symm, rfl⟩
    · rw [show ((d + 1 : Nat) : Int) - 1 = (d : Int) by omega]
      have hS : Hid (msuf k (s.data.toList.drop d) = (((msuf k (s.data.toList.drop (d + 1))).1 + (msuf k (s.data.toList.drop (d + 1))).2 * (((byteAt s d).toNat + 1 + k) % 1000000007)) % 1000000007, (msuf k (s.data.toList.drop (d + 1))).2 * 257 % 1000000007)) := by
        rw [drop_byte s d hd]; rfl
      obtain ⟨hb0, hb1, hb2, hb3⟩ := msuf_bd k (s.data.toList.drop (d + 1))
      have hx := mul_bd (msuf k (s.data.toList.drop (d + 1))).2 (((s[d].toNat : Int) + 1 + k) % 1000000007) hb2 hb3 (by omega) (by omega)
      generalize (msuf k (s.data.toList.drop (d + 1))).2 = p at *
      generalize (msuf k (s.data.toList.drop (d + 1))).1 = o at *
      have hcb : s[d].toNat < 256 := UInt8.toNat_lt _
      go_wp2
      exact ⟨⟨d, by omega, rfl, by rw [hS.out, byteAt_eq s d hd], by rw [hS.out]⟩, by simp [intOf]⟩

theorem from_any (k n : Int) (s : ByteArray) (w : World) (hs : s.size ≤ maxLen) :
    Calls Tryz.prog 127 #[.int .i64 k, .int .i64 n, .string s] w fun e w' => e = .returned (.tuple #[.int .i64 (more k n s.data.toList).1, .int .i64 ((more k n s.data.toList).2 : Nat)]) ∧ w = w' := by
  unfold more
  by_cases hk : isKey k = true
  · by_cases hn : 0 ≤ n ∧ n < 1000000007
    · rw [if_pos hk, if_pos hn]; exact from_ok k n s w hk hn.1 hn.2 hs
    · rw [if_pos hk, if_neg hn]
      have hn' : n < 0 ∨ 1000000007 ≤ n := by omega
      clear hn
      go_enter Tryz.func127, Tryz.ntmps127
      rcases hn' with h | h
      all_goals
        go_wp2_with (go_at_call 28; refine (isKey_any _ _).mono ?_; rintro e w' ⟨rfl, rfl⟩)
        go_ret2
        exact ⟨rfl, rfl⟩
  · rw [if_neg hk]
    have hk : isKey k = false := by simpa using hk
    go_enter Tryz.func127, Tryz.ntmps127
    go_wp2_with (go_at_call 28; refine (isKey_any _ _).mono ?_; rintro e w' ⟨rfl, rfl⟩)
    go_ret2
    exact ⟨rfl, rfl⟩
theorem markOf_any (k : Int) (s : ByteArray) (w : World) (hs : s.size ≤ maxLen) :
    Calls Tryz.prog 97 #[.int .i64 k, .string s] w fun e w' => e = .returned (.tuple #[.int .i64 (markOf k s.data.toList).1, .int .i64 ((markOf k s.data.toList).2 : Nat)]) ∧ w = w' := by
  unfold markOf
  by_cases hk : isKey k = true
  · rw [if_pos hk]
    have hk' := (isKey_iff k).1 hk
    have hm := from_ok k k s w hk (by omega) (by omega) hs
    clear hk'
    go_enter Tryz.func97, Tryz.ntmps97
    go_wp2_with (first | (go_at_call 28; refine (isKey_any _ _).mono ?_; rintro e w' ⟨rfl, rfl⟩) | (go_at_call 127; refine hm.mono ?_; rintro e w' ⟨rfl, rfl⟩))
    go_ret2
    exact ⟨rfl, rfl⟩
  · rw [if_neg hk]
    have hk : isKey k = false := by simpa using hk
    go_enter Tryz.func97, Tryz.ntmps97
    go_wp2_with (go_at_call 28; refine (isKey_any _ _).mono ?_; rintro e w' ⟨rfl, rfl⟩)
    go_ret2
    exact ⟨rfl, rfl⟩
theorem markError_any (k n : Int) (s : ByteArray) (w : World) (hs : s.size ≤ maxLen) :
    Calls Tryz.prog 104 #[.int .i64 k, .string s, .int .i64 n] w fun e w' => e = .returned (.int .i64 (rightOf k s.data.toList n : Nat)) ∧ w = w' := by
  have hm := markOf_any k s w hs
  unfold rightOf
  generalize markOf k s.data.toList = p at *
  obtain ⟨m, c⟩ := p
  dsimp only at *
  rcases c with _ | c
  · by_cases hmn : m = n
    · subst hmn
      rw [if_pos rfl, if_pos rfl]
      go_enter Tryz.func104, Tryz.ntmps104
      go_wp2_with fail
      refine hm.mono ?_
      rintro e w' ⟨rfl, rfl⟩
      go_wp2
      go_ret
      exact ⟨rfl, rfl⟩
    · rw [if_pos rfl, if_neg hmn]
      have hmn' : (m != n) = true := by simpa using hmn
      clear hmn
      go_enter Tryz.func104, Tryz.ntmps104
      go_wp2_with fail
      refine hm.mono ?_
      rintro e w' ⟨rfl, rfl⟩
      go_wp2
      go_ret
      exact ⟨rfl, rfl⟩
  · rw [if_neg (by omega)]
    have hc : (((c + 1 : Nat) : Int) == 0) = false := beq_eq_false_iff_ne.2 (by omega)
    generalize ((c + 1 : Nat) : Int) = d at *
    go_enter Tryz.func104, Tryz.ntmps104
    go_wp2_with fail
    refine hm.mono ?_
    rintro e w' ⟨rfl, rfl⟩
    go_wp2
    go_ret
    exact ⟨rfl, rfl⟩
end Go.Proofs.YtfbndfkahodheaaGreatDoor

/- The walks of the reference's texts: digits, names, words, numbers, cut, glue. -/
namespace Go.Proofs.YtfbndfkahodheaaGreatDoor
open Go.RowKit Go.Maps

theorem str_cat (a b : List UInt8) : bs a ++ bs b = bs (a ++ b) := by
  apply ByteArray.ext
  simp [bs]
theorem ret_string {a b : ByteArray} (h : a = b) : Ending.returned (.string a) = .returned (.string b) := by rw [h]
theorem digit_byte (n : Int) (h0 : 48 ≤ n) (h1 : n ≤ 57) : ((UInt8.ofNat n.toNat).toNat : Int) = n := by
  simp
  omega
set_option maxRecDepth 100000 in
theorem byte_any (n : Int) (w : World) (h0 : 48 ≤ n) (h1 : n ≤ 57) :
    Calls Tryz.prog 128 #[.int .i64 n] w fun e w' => e = .returned (.string (bs [UInt8.ofNat n.toNat])) ∧ Below w.heap.size w w' := by
  have hcb := run_convert_bytes_back (P := Tryz.prog) (w.alloc (.cells #[.int .u8 n] 5)) 187 9 5 ⟨w.heap.size, 0, none⟩ 1 [UInt8.ofNat n.toNat] Tryz.underlying187 Tryz.underlying5 Tryz.underlying9 (by
    intro i hi
    have : i = 0 := by simpa using hi
    subst this
    rw [List.getElem_singleton, digit_byte n h0 h1]
    simp [Addr.add])
  rw [show [UInt8.ofNat n.toNat].length = 1 from rfl] at hcb
  go_enter Tryz.func128, Tryz.ntmps128
  go_wp2_with fail
  go_ret
  exact ⟨rfl, (Below.refl _ _).alloc (Nat.le_refl _) _⟩

theorem neg_tdiv (u : Nat) : (-(u : Int)).tdiv 10 = -((u / 10 : Nat) : Int) := by
  rw [Int.neg_tdiv]
  rfl
theorem neg_tmod (u : Nat) : (-(u : Int)).tmod 10 = -((u % 10 : Nat) : Int) := by
  rw [Int.neg_tmod]
  rfl
theorem dec_len {u : Nat} (h : u ≤ 9223372036854775807) : (Lib.decDigits u).length ≤ 19 :=
  decDigits_len 18 u (by have : (10 : Nat) ^ (18 + 1) = 10000000000000000000 := by decide
                         omega)
set_option maxRecDepth 100000 in
theorem below_any (u : Nat) : ∀ (w : World), u ≤ 9223372036854775807 →
    Calls Tryz.prog 98 #[.int .i64 (-(u : Int))] w fun e w' => e = .returned (.string (bs (Lib.decDigits u))) ∧ Below w.heap.size w w' := by
  induction u using Nat.strongRecOn with
  | _ u ih =>
    intro w hu
    by_cases h : u < 10
    · have hd := Lib.hid (show Lib.decDigits u = [UInt8.ofNat (48 + u)] by rw [Lib.decDigits, dif_pos h])
      have hb := Lib.hid (byte_any (48 + (u : Int)) w (by omega) (by omega))
      have ht : decide (-10 < -(u : Int)) = true := decide_eq_true (by omega)
      clear ih
      go_enter Tryz.func98, Tryz.ntmps98
      go_wp2_with fail
      refine hb.out.mono ?_
      rintro e w1 ⟨rfl, hb1⟩
      go_wp2_with fail
      go_ret
      exact ⟨ret_string (by rw [hd.out]; congr 1), hb1⟩
    · have hd := Lib.hid (show Lib.decDigits u = Lib.decDigits (u / 10) ++ [UInt8.ofNat (48 + u % 10)] by rw [Lib.decDigits, dif_neg h])
      have ht : decide (-10 < -(u : Int)) = false := decide_eq_false (by omega)
      have hi := Lib.hid (ih (u / 10) (by omega))
      have hb := Lib.hid (fun wx => byte_any (48 + ((u % 10 : Nat) : Int)) wx (by omega) (by omega))
      have hs1 : (bs (Lib.decDigits (u / 10))).size ≤ 19 := by rw [bs_size]; exact dec_len (by omega)
      rw [show (48 + ((u % 10 : Nat) : Int)).toNat = 48 + u % 10 by omega] at hb
      have hs2 : (bs [UInt8.ofNat (48 + u % 10)]).size ≤ 1 := by rw [bs_size]; exact Nat.le_refl 1
      have hfin := Lib.hid (show bs (Lib.decDigits (u / 10)) ++ bs [UInt8.ofNat (48 + u % 10)] = bs (Lib.decDigits u) from (str_cat _ _).trans (by rw [hd.out]))
      generalize bs [UInt8.ofNat (48 + u % 10)] = q at *
      clear ih
      go_enter Tryz.func98, Tryz.ntmps98
      go_wp2_with fail
      rw [show (-((u : Int) / 10)) = -((u / 10 : Nat) : Int) by omega]
      refine (hi.out _ (by omega)).mono ?_
      rintro e w1 ⟨rfl, hb1⟩
      go_wp2_with fail
      rw [show (48 : Int) + (u : Int) % 10 = 48 + ((u % 10 : Nat) : Int) by omega]
      refine (hb.out _).mono ?_
      rintro e w2 ⟨rfl, hb2⟩
      go_wp2_with fail
      go_ret
      exact ⟨ret_string hfin.out, below_trans hb1 hb2⟩
set_option maxRecDepth 100000 in
theorem decimal_any (n : Int) (w : World) (h0 : -9223372036854775807 ≤ n) (h1 : n ≤ 9223372036854775807) :
    Calls Tryz.prog 59 #[.int .i64 n] w fun e w' => e = .returned (.string (bs (Lib.itoa n))) ∧ Below w.heap.size w w' := by
  by_cases h : n < 0
  · obtain ⟨u, rfl⟩ : ∃ u : Nat, n = -(u : Int) := ⟨n.natAbs, by omega⟩
    have hr := Lib.hid (show Lib.itoa (-(u : Int)) = 45 :: Lib.decDigits u by unfold Lib.itoa; rw [if_pos h]; congr 2; omega)
    have hb := Lib.hid (below_any u w (by omega))
    have hs1 : (bs (Lib.decDigits u)).size ≤ 19 := by rw [bs_size]; exact dec_len (by omega)
    have ht : 0 < u := by omega
    clear h
    go_enter Tryz.func59, Tryz.ntmps59
    go_wp2_with fail
    refine hb.out.mono ?_
    rintro e w1 ⟨rfl, hb1⟩
    go_wp2_with fail
    go_ret
    exact ⟨ret_string (by rw [hr.out]; exact (str_cat [45] _)), hb1⟩
  · obtain ⟨u, rfl⟩ : ∃ u : Nat, n = (u : Int) := ⟨n.toNat, by omega⟩
    have hr := Lib.hid (show Lib.itoa (u : Int) = Lib.decDigits u by unfold Lib.itoa; rw [if_neg h, Int.toNat_natCast])
    have hb := Lib.hid (below_any u w (by omega))
    go_enter Tryz.func59, Tryz.ntmps59
    go_wp2_with fail
    refine hb.out.mono ?_
    rintro e w1 ⟨rfl, hb1⟩
    go_wp2_with fail
    go_ret
    exact ⟨ret_string (by rw [hr.out]), hb1⟩

/-! Names, words, numbers. -/
theorem ret_bool2 {a b : Bool} (h : a = b) : Ending.returned (.bool a) = .returned (.bool b) := by rw [h]
set_option maxRecDepth 100000 in
theorem small_any (c : UInt8) (w : World) :
    Calls Tryz.prog 126 #[.int .u8 (c.toNat : Int)] w fun e w' => e = .returned (.bool (smallB c)) ∧ w = w' := by
  have hr := Lib.hid (show smallB c = ((decide (97 ≤ c.toNat) && decide (c.toNat ≤ 122)) || (decide (48 ≤ c.toNat) && decide (c.toNat ≤ 57))) by
    unfold smallB
    simp only [UInt8.le_iff_toNat_le]
    rfl)
  have hc := UInt8.toNat_lt c
  generalize c.toNat = n at *
  by_cases h1 : 97 ≤ n <;> by_cases h2 : n ≤ 122 <;> by_cases h3 : 48 ≤ n <;> by_cases h4 : n ≤ 57
  all_goals first | (exfalso; omega) | skip
  all_goals
    go_enter Tryz.func126, Tryz.ntmps126
    go_wp2_with fail
    go_ret
    exact ⟨ret_bool2 (by rw [hr.out]; simp [h1, h2, h3, h4]; try omega), rfl⟩
end Go.Proofs.YtfbndfkahodheaaGreatDoor
