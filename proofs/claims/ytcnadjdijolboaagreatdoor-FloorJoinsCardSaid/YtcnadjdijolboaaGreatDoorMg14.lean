/- RefW, RefW2, RefF -/
import Derived.Test.YtcnadjdijolboaaGreatDoorMg5
import Derived.Test.YtcnadjdijolboaaGreatDoorMg3
import Derived.Test.YtcnadjdijolboaaGreatDoorMg9
import Derived.Maps.AppendAt
import Derived.OwnWalk
import Derived.Deep.LoopGhost
import Derived.Test.YtcnadjdijolboaaGreatDoorMg4
/- The walks of the reference's texts: digits, names, words, numbers, cut, glue. -/
namespace Go.Proofs.YtcnadjdijolboaaGreatDoor
open Go.RowKit Go.Maps

theorem str_cat (a b : List UInt8) : bs a ++ bs b = bs (a ++ b) := by
  apply ByteArray.ext
  simp [bs]
theorem ret_string {a b : ByteArray} (h : a = b) : Ending.returned (.string a) = .returned (.string b) := by rw [h]
theorem digit_byte (n : Int) (h0 : 48 ≤ n) (h1 : n ≤ 57) : ((UInt8.ofNat n.toNat).toNat : Int) = n := by
  simp
  omega
set_option maxRecDepth 100000 in
theorem byte_any (n : Int) (w : World) (h0 : 48 ≤ n) (h1 : n ≤ 57) :
    Calls Tryz.prog 106 #[.int .i64 n] w fun e w' => e = .returned (.string (bs [UInt8.ofNat n.toNat])) ∧ Below w.heap.size w w' := by
  have hcb := run_convert_bytes_back (P := Tryz.prog) (w.alloc (.cells #[.int .u8 n] 5)) 86 9 5 ⟨w.heap.size, 0, none⟩ 1 [UInt8.ofNat n.toNat] Tryz.underlying86 Tryz.underlying5 Tryz.underlying9 (by
    intro i hi
    have : i = 0 := by simpa using hi
    subst this
    rw [List.getElem_singleton, digit_byte n h0 h1]
    simp [Addr.add])
  rw [show [UInt8.ofNat n.toNat].length = 1 from rfl] at hcb
  go_enter Tryz.func106, Tryz.ntmps106
  go_wp2_with fail
  go_ret
  exact ⟨rfl, (Below.refl _ _).alloc (Nat.le_refl _) _⟩

theorem neg_tdiv (u : Nat) : (-(u : Int)).tdiv 10 = -((u / 10 : Nat) : Int) := by
  rw [Int.neg_tdiv]
  rfl
theorem neg_tmod (u : Nat) : (-(u : Int)).tmod 10 = -((u % 10 : Nat) : Int) := by
  rw [Int.neg_tmod]
  rfl
theorem dec_len {u : Nat} (h : u ≤ 9223372036854775807) : (Lib.decDigits u).length ≤ 19 :=
  decDigits_len 18 u (by have : (10 : Nat) ^ (18 + 1) = 10000000000000000000 := by decide
                         omega)
set_option maxRecDepth 100000 in
theorem below_any (u : Nat) : ∀ (w : World), u ≤ 9223372036854775807 →
    Calls Tryz.prog 73 #[.int .i64 (-(u : Int))] w fun e w' => e = .returned (.string (bs (Lib.decDigits u))) ∧ Below w.heap.size w w' := by
  induction u using Nat.strongRecOn with
  | _ u ih =>
    intro w hu
    by_cases h : u < 10
    · have hd := Lib.hid (show Lib.decDigits u = [UInt8.ofNat (48 + u)] by rw [Lib.decDigits, dif_pos h])
      have hb := Lib.hid (byte_any (48 + (u : Int)) w (by omega) (by omega))
      have ht : decide (-10 < -(u : Int)) = true := decide_eq_true (by omega)
      clear ih
      go_enter Tryz.func73, Tryz.ntmps73
      go_wp2_with fail
      refine hb.out.mono ?_
      rintro e w1 ⟨rfl, hb1⟩
      go_wp2_with fail
      go_ret
      exact ⟨ret_string (by rw [hd.out]; congr 1), hb1⟩
    · have hd := Lib.hid (show Lib.decDigits u = Lib.decDigits (u / 10) ++ [UInt8.ofNat (48 + u % 10)] by rw [Lib.decDigits, dif_neg h])
      have ht : decide (-10 < -(u : Int)) = false := decide_eq_false (by omega)
      have hi := Lib.hid (ih (u / 10) (by omega))
      have hb := Lib.hid (fun wx => byte_any (48 + ((u % 10 : Nat) : Int)) wx (by omega) (by omega))
      have hs1 : (bs (Lib.decDigits (u / 10))).size ≤ 19 := by rw [bs_size]; exact dec_len (by omega)
      rw [show (48 + ((u % 10 : Nat) : Int)).toNat = 48 + u % 10 by omega] at hb
      have hs2 : (bs [UInt8.ofNat (48 + u % 10)]).size ≤ 1 := by rw [bs_size]; exact Nat.le_refl 1
      have hfin := Lib.hid (show bs (Lib.decDigits (u / 10)) ++ bs [UInt8.ofNat (48 + u % 10)] = bs (Lib.decDigits u) from (str_cat _ _).trans (by rw [hd.out]))
      generalize bs [UInt8.ofNat (48 + u % 10)] = q at *
      clear ih
      go_enter Tryz.func73, Tryz.ntmps73
      go_wp2_with fail
      rw [show (-((u : Int) / 10)) = -((u / 10 : Nat) : Int) by omega]
      refine (hi.out _ (by omega)).mono ?_
      rintro e w1 ⟨rfl, hb1⟩
      go_wp2_with fail
      rw [show (48 : Int) + (u : Int) % 10 = 48 + ((u % 10 : Nat) : Int) by omega]
      refine (hb.out _).mono ?_
      rintro e w2 ⟨rfl, hb2⟩
      go_wp2_with fail
      go_ret
      exact ⟨ret_string hfin.out, below_trans hb1 hb2⟩
set_option maxRecDepth 100000 in
theorem decimal_any (n : Int) (w : World) (h0 : -9223372036854775807 ≤ n) (h1 : n ≤ 9223372036854775807) :
    Calls Tryz.prog 50 #[.int .i64 n] w fun e w' => e = .returned (.string (bs (Lib.itoa n))) ∧ Below w.heap.size w w' := by
  by_cases h : n < 0
  · obtain ⟨u, rfl⟩ : ∃ u : Nat, n = -(u : Int) := ⟨n.natAbs, by omega⟩
    have hr := Lib.hid (show Lib.itoa (-(u : Int)) = 45 :: Lib.decDigits u by unfold Lib.itoa; rw [if_pos h]; congr 2; omega)
    have hb := Lib.hid (below_any u w (by omega))
    have hs1 : (bs (Lib.decDigits u)).size ≤ 19 := by rw [bs_size]; exact dec_len (by omega)
    have ht : 0 < u := by omega
    clear h
    go_enter Tryz.func50, Tryz.ntmps50
    go_wp2_with fail
    refine hb.out.mono ?_
    rintro e w1 ⟨rfl, hb1⟩
    go_wp2_with fail
    go_ret
    exact ⟨ret_string (by rw [hr.out]; exact (str_cat [45] _)), hb1⟩
  · obtain ⟨u, rfl⟩ : ∃ u : Nat, n = (u : Int) := ⟨n.toNat, by omega⟩
    have hr := Lib.hid (show Lib.itoa (u : Int) = Lib.decDigits u by unfold Lib.itoa; rw [if_neg h, Int.toNat_natCast])
    have hb := Lib.hid (below_any u w (by omega))
    go_enter Tryz.func50, Tryz.ntmps50
    go_wp2_with fail
    refine hb.out.mono ?_
    rintro e w1 ⟨rfl, hb1⟩
    go_wp2_with fail
    go_ret
    exact ⟨ret_string (by rw [hr.out]), hb1⟩

/-! Names, words, numbers. -/
theorem ret_bool2 {a b : Bool} (h : a = b) : Ending.returned (.bool a) = .returned (.bool b) := by rw [h]
set_option maxRecDepth 100000 in
theorem small_any (c : UInt8) (w : World) :
    Calls Tryz.prog 99 #[.int .u8 (c.toNat : Int)] w fun e w' => e = .returned (.bool (smallB c)) ∧ w = w' := by
  have hr := Lib.hid (show smallB c = ((decide (97 ≤ c.toNat) && decide (c.toNat ≤ 122)) || (decide (48 ≤ c.toNat) && decide (c.toNat ≤ 57))) by
    unfold smallB
    simp only [UInt8.le_iff_toNat_le]
    rfl)
  have hc := UInt8.toNat_lt c
  generalize c.toNat = n at *
  by_cases h1 : 97 ≤ n <;> by_cases h2 : n ≤ 122 <;> by_cases h3 : 48 ≤ n <;> by_cases h4 : n ≤ 57
  all_goals first | (exfalso; omega) | skip
  all_goals
    go_enter Tryz.func99, Tryz.ntmps99
    go_wp2_with fail
    go_ret
    exact ⟨ret_bool2 (by rw [hr.out]; simp [h1, h2, h3, h4]; try omega), rfl⟩
end Go.Proofs.YtcnadjdijolboaaGreatDoor

/- The walks of the reference's texts: names, words, numbers, cut, glue. -/
namespace Go.Proofs.YtcnadjdijolboaaGreatDoor
open Go.RowKit Go.Maps

theorem all_bytes {p : UInt8 → Bool} {s : ByteArray} (h : ∀ q, q < s.size → p (byteAt s q) = true) : ∀ c ∈ s.data.toList, p c = true := by
  intro c hc
  obtain ⟨i, hi, rfl⟩ := List.getElem_of_mem hc
  have := h i (by simpa using hi)
  unfold byteAt at this
  rwa [List.getD_eq_getElem?_getD, List.getElem?_eq_getElem hi] at this
theorem byte_mem {s : ByteArray} {j : Nat} (h : j < s.size) : byteAt s j ∈ s.data.toList := by
  unfold byteAt
  have hi : j < s.data.toList.length := by simpa using h
  rw [List.getD_eq_getElem?_getD, List.getElem?_eq_getElem hi]
  exact List.getElem_mem hi
set_option maxRecDepth 100000 in
theorem isNameR_any (s : ByteArray) (w : World) (hs : s.size ≤ maxLen) :
    Calls Tryz.prog 70 #[.string s] w fun e w' => e = .returned (.bool (isName s.data.toList)) ∧ w = w' := by
  unfold maxLen at hs
  have hlen : s.data.toList.length = s.size := Array.length_toList
  go_enter Tryz.func70, Tryz.ntmps70
  go_wp2_with fail
  go_loop [3] (fun i => ∃ j : Nat, j ≤ s.size ∧ i = .int .i64 j ∧ Hid (∀ q, q < j → smallB (byteAt s q) = true)) (fun i => s.size - (intOf i).toNat)
  case atStart => exact ⟨0, Nat.zero_le _, rfl, Lib.hid (fun _ h => absurd h (Nat.not_lt_zero _))⟩
  case round =>
    obtain ⟨j, hj, rfl, hall⟩ := hrel
    by_cases hlt : j < s.size
    · have hsm := Lib.hid (fun wx => small_any s[j] wx)
      cases hb : smallB (byteAt s j) with
      | false =>
        rw [← byteAt_eq s j hlt, hb, byteAt_eq s j hlt] at hsm
        have hr := Lib.hid (show isName s.data.toList = false by
          cases hn : isName s.data.toList with
          | false => rfl
          | true =>
            have := ((isName_iff _).1 hn).2.2 _ (byte_mem hlt)
            rw [hb] at this
            cases this)
        clear hb
        go_wp2_with (go_at_call 99; refine (hsm.out _).mono ?_; rintro e w' ⟨rfl, rfl⟩)
        go_ret
        exact ⟨ret_bool2 hr.out.symm, rfl⟩
      | true =>
        rw [← byteAt_eq s j hlt, hb, byteAt_eq s j hlt] at hsm
        have hall2 := Lib.hid (show ∀ q, q < j + 1 → smallB (byteAt s q) = true from fun q hq => by
          rcases Nat.lt_succ_iff_lt_or_eq.1 hq with h' | rfl
          · exact hall.out q h'
          · exact hb)
        clear hb
        go_wp2_with (go_at_call 99; refine (hsm.out _).mono ?_; rintro e w' ⟨rfl, rfl⟩)
        go_round
        case rel => exact ⟨j + 1, hlt, by go_num, hall2⟩
        case measure => simp [intOf]; omega
    · have hr := Lib.hid (show isName s.data.toList = (decide (1 ≤ s.size) && decide (s.size ≤ 8)) by
        have h1 : s.data.toList.all smallB = true := List.all_eq_true.2 (all_bytes fun q hq => hall.out q (by omega))
        unfold isName
        rw [h1, hlen, Bool.and_true])
      clear hlen
      by_cases h1 : 1 ≤ s.size <;> by_cases h8 : s.size ≤ 8
      all_goals first | (exfalso; omega) | skip
      all_goals
        go_wp2_with fail
        go_ret
        exact ⟨ret_bool2 (by rw [hr.out]; simp [h1, h8]; try omega), rfl⟩
/-- What the reference's NumberOf answers (-1: none). -/
def numR (l : List UInt8) (most : Int) : Int := match numOf l with
  | some n => if (n : Int) ≤ most then (n : Int) else -1
  | none => -1
theorem numR_number (l : List UInt8) (most : Int) : numR l most = if (number l most).2 = true then (number l most).1 else -1 := by
  unfold numR number
  cases numOf l with
  | none => rfl
  | some n =>
    by_cases h : (n : Int) ≤ most <;> simp [h]
theorem numR_none {l : List UInt8} {most : Int} (h : goodNum l = false ∨ 10 < l.length) : numR l most = -1 := by
  unfold numR numOf
  rw [if_neg]
  simp only [Bool.and_eq_true, decide_eq_true_eq]
  rintro ⟨h1, h2⟩
  rcases h with h | h
  · rw [h1] at h; cases h
  · omega
theorem numR_some {l : List UInt8} {most : Int} (h : goodNum l = true) (h2 : l.length ≤ 10) : numR l most = if (decVal l : Int) ≤ most then (decVal l : Int) else -1 := by
  unfold numR numOf
  rw [if_pos (by simp [h, h2])]
theorem head_byte (s : ByteArray) (h : 0 < s.size) : s.data.toList.head? = some (byteAt s 0) := by
  have hi : 0 < s.data.toList.length := by simpa using h
  unfold byteAt
  rw [List.head?_eq_getElem?, List.getD_eq_getElem?_getD, List.getElem?_eq_getElem hi]
  rfl
theorem int_eq2 {k : IntKind} {a b : Int} (h : a = b) : Value.int k a = .int k b := by rw [h]
set_option maxHeartbeats 1000000 in
set_option maxRecDepth 100000 in
theorem numberR_any (s : ByteArray) (most : Int) (w : World) (hs : s.size ≤ maxLen) :
    Calls Tryz.prog 53 #[.string s, .int .i64 most] w fun e w' => e = .returned (.int .i64 (numR s.data.toList most)) ∧ w = w' := by
  unfold maxLen at hs
  have hlen : s.data.toList.length = s.size := Array.length_toList
  by_cases h1 : s.size = 0
  · have hr := Lib.hid (show numR s.data.toList most = -1 from numR_none (.inl (by
      rw [List.eq_nil_of_length_eq_zero (hlen.trans h1)]; rfl)))
    have h1 : s.size < 1 := by omega
    clear hlen
    go_enter Tryz.func53, Tryz.ntmps53
    go_wp2_with fail
    go_ret
    exact ⟨ret_int hr.out.symm, rfl⟩
  have h1 : 1 ≤ s.size := by omega
  by_cases h10 : 10 < s.size
  · have hr := Lib.hid (show numR s.data.toList most = -1 from numR_none (.inr (by omega)))
    clear hlen
    go_enter Tryz.func53, Tryz.ntmps53
    go_wp2_with fail
    go_ret
    exact ⟨ret_int hr.out.symm, rfl⟩
  have h10 : s.size ≤ 10 := by omega
  have hh := Lib.hid (head_byte s h1)
  have h0s : 0 < s.size := h1
  have hb0 := Lib.hid (byteAt_eq s 0 h0s)
  by_cases hz : 1 < s.size ∧ (s[0].toNat : Int) = 48
  · have hr := Lib.hid (show numR s.data.toList most = -1 from numR_none (.inl (by
      have e0 : byteAt s 0 = 48 := by rw [hb0.out]; exact UInt8.toNat_inj.1 (by simpa using Int.ofNat.inj hz.2)
      unfold goodNum
      rw [hh.out, e0, hlen]
      have : ¬ s.size = 1 := by omega
      simp [this])))
    obtain ⟨hz1, hz2⟩ := hz
    have hz2 : ((s[0].toNat : Int) == 48) = true := by rw [beq_iff_eq]; exact hz2
    clear hlen
    go_enter Tryz.func53, Tryz.ntmps53
    go_wp2_with fail
    go_ret
    exact ⟨ret_int hr.out.symm, rfl⟩
  have hgood : (s.data.toList.all digB = true) → Hid (goodNum s.data.toList = true) := fun ha => Lib.hid (by
    unfold goodNum
    rw [ha, hlen, hh.out]
    have : byteAt s 0 ≠ 48 ∨ s.size = 1 := by
      by_cases h : s.size = 1
      · exact .inr h
      · left
        intro e
        apply hz
        rw [hb0.out] at e
        exact ⟨by omega, by rw [e]; rfl⟩
    rcases this with h | h
    · simp [h, h1]
    · simp [h])
  have hgood := Lib.hid hgood
  have hsz : s.size = 1 ∨ (1 < s.size ∧ ((s[0].toNat : Int) == 48) = false) := by
    by_cases h : s.size = 1
    · exact .inl h
    · exact .inr ⟨by omega, by rw [beq_eq_false_iff_ne]; exact fun e => hz ⟨by omega, e⟩⟩
  have hlen := Lib.hid hlen
  clear hz
  rcases hsz with hsz | ⟨hsz, hsz2⟩
  all_goals
    try have hsz : s.size < 2 := by omega
    go_enter Tryz.func53, Tryz.ntmps53
    go_wp2_with fail
    go_loop [5, 6] (fun n i => ∃ j : Nat, j ≤ s.size ∧ i = .int .i64 j ∧ n = .int .i64 (decVal (s.data.toList.take j)) ∧ Hid (∀ q, q < j → digB (byteAt s q) = true)) (fun _ i => s.size - (intOf i).toNat)
    case atStart => exact ⟨0, Nat.zero_le _, rfl, rfl, Lib.hid (fun _ h => absurd h (Nat.not_lt_zero _))⟩
    case round =>
      obtain ⟨j, hj, rfl, rfl, hall⟩ := hrel
      have hdl : (s.data.toList.take j).all digB = true := List.all_eq_true.2 fun c hc => by
        obtain ⟨q, hq, rfl⟩ := List.getElem_of_mem hc
        have hq2 : q < j := by simp at hq; omega
        have := hall.out q hq2
        unfold byteAt at this
        rw [List.getD_eq_getElem?_getD, List.getElem?_eq_getElem (by simp at hq ⊢; omega)] at this
        simpa using this
      have hlt10 := decVal_lt _ hdl
      have hp : 10 ^ (s.data.toList.take j).length ≤ 10 ^ 10 := Nat.pow_le_pow_right (by decide) (by simp; omega)
      have hbd : decVal (s.data.toList.take j) < 10000000000 := Nat.lt_of_lt_of_le hlt10 hp
      clear hlt10 hp hdl
      by_cases hlt : j < s.size
      · have hsn := Lib.hid (show decVal (s.data.toList.take (j + 1)) = decVal (s.data.toList.take j) * 10 + (s[j].toNat - 48) by rw [take_succ_byte s j hlt, decVal_snoc, byteAt_eq s j hlt])
        have hcb : s[j].toNat < 256 := UInt8.toNat_lt _
        have hdg := Lib.hid (show digB (byteAt s j) = true ↔ 48 ≤ s[j].toNat ∧ s[j].toNat ≤ 57 by rw [digB_iff, byteAt_eq s j hlt])
        have hno := Lib.hid (show ¬ (48 ≤ s[j].toNat ∧ s[j].toNat ≤ 57) → numR s.data.toList most = -1 from fun h => numR_none (.inl (by
          cases hg : goodNum s.data.toList with
          | false => rfl
          | true =>
            simp only [goodNum, Bool.and_eq_true] at hg
            have := List.all_eq_true.1 hg.1.1 _ (byte_mem hlt)
            exact absurd (hdg.out.1 this) h)))
        generalize decVal (s.data.toList.take j) = m at *
        by_cases ha : s[j].toNat < 48
        · have hr := Lib.hid (hno.out (by omega))
          go_wp2_with fail
          go_ret
          exact ⟨ret_int hr.out.symm, rfl⟩
        · by_cases hb : 57 < s[j].toNat
          · have hr := Lib.hid (hno.out (by omega))
            go_wp2_with fail
            go_ret
            exact ⟨ret_int hr.out.symm, rfl⟩
          · have hall2 := Lib.hid (show ∀ q, q < j + 1 → digB (byteAt s q) = true from fun q hq => by
              rcases Nat.lt_succ_iff_lt_or_eq.1 hq with h' | rfl
              · exact hall.out q h'
              · exact hdg.out.2 ⟨by omega, by omega⟩)
            go_wp2_with fail
            go_round
            case rel => exact ⟨j + 1, hlt, by go_num, by rw [hsn.out]; exact int_eq2 (by omega), hall2⟩
            case measure => simp [intOf]; omega
      · have hje : j = s.size := by omega
        have hg := hgood.out (List.all_eq_true.2 (all_bytes fun q hq => hall.out q (by omega)))
        have htk : s.data.toList.take j = s.data.toList := by rw [hje, take_all]
        rw [htk] at hbd ⊢
        have hr := Lib.hid (numR_some (most := most) hg.out (by rw [hlen.out]; exact h10))
        have hge : ¬ ((j : Int) < (s.size : Int)) := by omega
        clear htk hje
        generalize decVal s.data.toList = m at *
        by_cases hm : (m : Int) ≤ most
        · go_wp2_with fail
          go_ret
          exact ⟨ret_int (by rw [hr.out, if_pos hm]), rfl⟩
        · go_wp2_with fail
          go_ret
          exact ⟨ret_int (by rw [hr.out, if_neg (by omega)]), rfl⟩
end Go.Proofs.YtcnadjdijolboaaGreatDoor

/- The reference's floors: FloorOne, TopOf, FloorOf by contracts. -/
namespace Go.Proofs.YtcnadjdijolboaaGreatDoor
open Go.RowKit

theorem oneF_cases (who : List UInt8) (ep : Int) : (who = starW ∨ who ≠ starW) ∧ ((who ≠ starW ∧ isName who = false ∧ oneF ⟨who, ep⟩ = 4) ∨ ((who = starW ∨ isName who = true) ∧ 1 ≤ ep ∧ ep ≤ 1073741824 ∧ oneF ⟨who, ep⟩ = 0) ∨ ((who = starW ∨ isName who = true) ∧ ep < 1 ∧ oneF ⟨who, ep⟩ = 2) ∨ ((who = starW ∨ isName who = true) ∧ 1 ≤ ep ∧ 1073741824 < ep ∧ oneF ⟨who, ep⟩ = 2)) := by
  refine ⟨Classical.em _, ?_⟩
  unfold oneF
  by_cases hs : who = starW
  · rw [if_neg (fun h => h.1 hs)]
    by_cases h1 : 1 ≤ ep
    · by_cases h2 : ep ≤ 1073741824
      · rw [if_pos ⟨h1, h2⟩]; exact .inr (.inl ⟨.inl hs, h1, h2, rfl⟩)
      · rw [if_neg (fun h => h2 h.2)]; exact .inr (.inr (.inr ⟨.inl hs, h1, by omega, rfl⟩))
    · rw [if_neg (fun h => h1 h.1)]; exact .inr (.inr (.inl ⟨.inl hs, by omega, rfl⟩))
  · cases hn : isName who with
    | false => rw [if_pos ⟨hs, rfl⟩]; exact .inl ⟨hs, rfl, rfl⟩
    | true =>
      rw [if_neg (fun h => by have := h.2; cases this)]
      by_cases h1 : 1 ≤ ep
      · by_cases h2 : ep ≤ 1073741824
        · rw [if_pos ⟨h1, h2⟩]; exact .inr (.inl ⟨.inr rfl, h1, h2, rfl⟩)
        · rw [if_neg (fun h => h2 h.2)]; exact .inr (.inr (.inr ⟨.inr rfl, h1, by omega, rfl⟩))
      · rw [if_neg (fun h => h1 h.1)]; exact .inr (.inr (.inl ⟨.inr rfl, by omega, rfl⟩))
set_option maxRecDepth 100000 in
theorem oneR_flo (f : Flo) (w : World) (hl : f.who.length ≤ maxLen) :
    Calls Tryz.prog 46 #[f.val] w fun e w' => e = .returned (.int .i64 (oneF f : Nat)) ∧ Below w.heap.size w w' := by
  have hB : Below w.heap.size w (w.alloc (.cells f.cells.toArray 24)) := (Below.refl _ _).alloc (Nat.le_refl _) _
  have hnm := fun wx => isNameR_any (bs f.who) wx (by rw [bs_size]; exact hl)
  rw [bs_list] at hnm
  obtain ⟨who, ep⟩ := f
  dsimp only [Flo.val, Flo.cells] at *
  have c0 : (w.alloc (.cells #[.string (bs who), .int .i64 ep] 24)).cell? ⟨w.heap.size, 0, none⟩ = some (.string (bs who)) := by simp
  have c1 : (w.alloc (.cells #[.string (bs who), .int .i64 ep] 24)).cell? ⟨w.heap.size, 1, none⟩ = some (.int .i64 ep) := by simp
  obtain ⟨_, hcs⟩ := oneF_cases who ep
  generalize oneF ⟨who, ep⟩ = r at *
  by_cases hs : who = starW
  · have e1 : ((bs who).toList == [42]) = true := by rw [hs, toList_data]; rfl
    have e2 : ((bs who).toList != [42]) = false := by rw [bne, e1]; rfl
    cases ha : isName who
    all_goals
      rw [ha] at hnm
      have hnm := Lib.hid hnm
      rcases hcs with ⟨h1, _⟩ | ⟨_, h1, h2, hr⟩ | ⟨_, h1, hr⟩ | ⟨_, h1, h2, hr⟩
      · exact absurd hs h1
      all_goals
        clear hs ha
        subst hr
        go_enter Tryz.func46, Tryz.ntmps46
        go_wp2_with fail
        refine (hnm.out _).mono ?_
        rintro e w1 ⟨rfl, rfl⟩
        go_wp2_with fail
        go_ret
        exact ⟨rfl, hB⟩
  · have e1 : ((bs who).toList == [42]) = false := by rw [toList_data, bs_list, beq_eq_false_iff_ne]; exact hs
    have e2 : ((bs who).toList != [42]) = true := by rw [bne, e1]; rfl
    cases ha : isName who with
    | false =>
      rw [ha] at hnm
      have hnm := Lib.hid hnm
      have hr : r = 4 := by
        rcases hcs with ⟨_, _, hr⟩ | ⟨h, _⟩ | ⟨h, _⟩ | ⟨h, _⟩
        · exact hr
        all_goals
          rcases h with h | h
          · exact absurd h hs
          · rw [ha] at h; cases h
      clear hs ha hcs
      subst hr
      go_enter Tryz.func46, Tryz.ntmps46
      go_wp2_with fail
      refine (hnm.out _).mono ?_
      rintro e w1 ⟨rfl, rfl⟩
      go_wp2_with fail
      go_ret
      exact ⟨rfl, hB⟩
    | true =>
      rw [ha] at hnm
      have hnm := Lib.hid hnm
      rcases hcs with ⟨_, h1, _⟩ | ⟨_, h1, h2, hr⟩ | ⟨_, h1, hr⟩ | ⟨_, h1, h2, hr⟩
      · rw [ha] at h1; cases h1
      all_goals
        clear hs ha
        subst hr
        go_enter Tryz.func46, Tryz.ntmps46
        go_wp2_with fail
        refine (hnm.out _).mono ?_
        rintro e w1 ⟨rfl, rfl⟩
        go_wp2_with fail
        go_ret
        exact ⟨rfl, hB⟩

set_option maxRecDepth 100000 in
theorem topR_flo (v : Value) (L : List Flo) (w : World) (hv : FloorsAt w v L) :
    Calls Tryz.prog 47 #[v] w fun e w' => e = .returned (.int .i64 (topF L)) ∧ w = w' := by
  obtain ⟨a, c, rfl, hlen, _, hc⟩ := hv
  cases L with
  | nil =>
    go_enter Tryz.func47, Tryz.ntmps47
    go_wp2_with fail
    go_ret
    exact ⟨rfl, rfl⟩
  | cons f L =>
    obtain ⟨b, o, rfl, h0, h1⟩ := hc 0 (by simp)
    obtain ⟨who, ep⟩ := f
    simp only [List.getElem_cons_zero, Nat.zero_mul, Nat.add_zero] at h0 h1
    have hn : 0 < (⟨who, ep⟩ :: L : List Flo).length := by simp
    have hz : (((⟨who, ep⟩ :: L : List Flo).length : Int) == 0) = false := by rw [beq_eq_false_iff_ne]; omega
    unfold maxLen at hlen
    clear hc
    generalize hm : (⟨who, ep⟩ :: L : List Flo).length = m at *
    clear hm
    by_cases hs : who = starW
    · have e1 : ((bs who).toList == [42]) = true := by rw [hs, toList_data]; rfl
      have hr := Lib.hid (show topF (⟨who, ep⟩ :: L) = ep from if_pos hs)
      clear hs
      go_enter Tryz.func47, Tryz.ntmps47
      go_wp2_with fail
      go_ret
      exact ⟨ret_int hr.out.symm, rfl⟩
    · have e1 : ((bs who).toList == [42]) = false := by rw [toList_data, bs_list, beq_eq_false_iff_ne]; exact hs
      have hr := Lib.hid (show topF (⟨who, ep⟩ :: L) = 0 from if_neg hs)
      clear hs
      go_enter Tryz.func47, Tryz.ntmps47
      go_wp2_with fail
      go_ret
      exact ⟨ret_int hr.out.symm, rfl⟩

/-- What FloorOf knows behind the first j floors. -/
def ofSo (L : List Flo) (n : List UInt8) (j : Nat) (k : Int) : Prop := k = ofF L n ∨ ((∀ i (h : i < L.length), i < j → L[i].who ≠ n) ∧ k = topF L)
theorem ofSo_start (L : List Flo) (n : List UInt8) : ofSo L n 0 (topF L) := .inr ⟨fun _ _ h => absurd h (Nat.not_lt_zero _), rfl⟩
theorem ofSo_skip {L : List Flo} {n : List UInt8} {j : Nat} {k : Int} (hj : j < L.length) (h : ofSo L n j k) (hn : L[j].who ≠ n) : ofSo L n (j + 1) k := by
  rcases h with h | ⟨h, rfl⟩
  · exact .inl h
  · refine .inr ⟨fun i hi hij => ?_, rfl⟩
    rcases Nat.lt_succ_iff_lt_or_eq.1 hij with h' | rfl
    · exact h i hi h'
    · exact hn
theorem ofSo_up {L : List Flo} (hG : Good0 L) {n : List UInt8} {j : Nat} {k : Int} (hj : j < L.length) (h : ofSo L n j k) (hn : L[j].who = n) : ofSo L n (j + 1) (if k < L[j].ep then L[j].ep else k) := by
  have h1 : ofF L n = L[j].ep := by rw [← hn]; exact ofF_mem hG (List.getElem_mem hj)
  have h2 := ofF_top hG n
  refine .inl ?_
  rcases h with rfl | ⟨_, rfl⟩
  · split <;> omega
  · split <;> omega
theorem ofSo_end {L : List Flo} {n : List UInt8} {j : Nat} {k : Int} (hj : L.length ≤ j) (h : ofSo L n j k) : k = ofF L n := by
  rcases h with rfl | ⟨h, rfl⟩
  · rfl
  · refine (ofF_not fun g hg => ?_).symm
    obtain ⟨i, hi, rfl⟩ := List.getElem_of_mem hg
    exact h i hi (by omega)
set_option maxRecDepth 100000 in
theorem ofR_flo (v : Value) (L : List Flo) (n : List UInt8) (w : World) (hv : FloorsAt w v L) (hG : Good0 L) :
    Calls Tryz.prog 19 #[v, .string (bs n)] w fun e w' => e = .returned (.int .i64 (ofF L n)) ∧ w = w' := by
  have htop := Lib.hid (topR_flo v L w hv)
  obtain ⟨a, c, rfl, hlen, _, hc⟩ := hv
  unfold maxLen at hlen
  have hc := Lib.hid hc
  have hG := Lib.hid hG
  go_enter Tryz.func19, Tryz.ntmps19
  go_wp2_with fail
  refine htop.out.mono ?_
  rintro e w1 ⟨rfl, rfl⟩
  clear htop
  go_wp2_with fail
  go_loopw [5, 6] (fun k i wr => ∃ j : Nat, j ≤ L.length ∧ i = .int .i64 j ∧ (∃ x, k = .int .i64 x ∧ Hid (ofSo L n j x)) ∧ wr = w) (fun _ i _ => L.length - (intOf i).toNat)
  case atStart => exact ⟨0, Nat.zero_le _, rfl, ⟨_, rfl, Lib.hid (ofSo_start L n)⟩, rfl⟩
  case round =>
    obtain ⟨j, hj, rfl, ⟨x, rfl, hso⟩, rfl⟩ := hrel
    by_cases hlt : j < L.length
    · obtain ⟨b, o, rfl, h0, h1⟩ := hc.out j hlt
      have hk0 : (0 : Int) ≤ (j : Int) := by omega
      have hk1 : (j : Int) < (L.length : Int) := by omega
      have hskip := fun h : L[j].who ≠ n => ofSo_skip hlt hso.out h
      have hupp := fun h : L[j].who = n => ofSo_up hG.out hlt hso.out h
      obtain ⟨q, hqd⟩ : ∃ q, L[j] = q := ⟨_, rfl⟩
      rw [hqd] at h0 h1 hskip hupp
      clear hqd
      obtain ⟨qw, qe⟩ := q
      dsimp only at h0 h1 hskip hupp
      by_cases hq : qw = n
      · have hup := hupp hq
        by_cases hx : x < qe
        · rw [if_pos hx] at hup
          have hup := Lib.hid hup
          clear hskip hupp
          go_wp2_with fail
          exact ⟨⟨j + 1, hlt, by simp, ⟨_, rfl, hup⟩, by trivial⟩, by simp [intOf]; omega⟩
        · rw [if_neg hx] at hup
          have hup := Lib.hid hup
          clear hskip hupp
          go_wp2_with fail
          exact ⟨⟨j + 1, hlt, by simp, ⟨_, rfl, hup⟩, by trivial⟩, by simp [intOf]; omega⟩
      · have hup := Lib.hid (hskip hq)
        have hs1 : ¬ (bs qw).toList = (bs n).toList := by rw [toList_data, toList_data, bs_list, bs_list]; exact hq
        have hs2 : ((bs qw).toList == (bs n).toList) = false := beq_eq_false_iff_ne.2 hs1
        clear hskip hupp
        go_wp2_with fail
        exact ⟨⟨j + 1, hlt, by simp, ⟨_, rfl, hup⟩, by trivial⟩, by simp [intOf]; omega⟩
    · have hr := Lib.hid (ofSo_end (by omega) hso.out)
      have hge : ¬ ((j : Int) < (L.length : Int)) := by omega
      go_wp2_with fail
      go_ret
      exact ⟨ret_int hr.out, rfl⟩
end Go.Proofs.YtcnadjdijolboaaGreatDoor
