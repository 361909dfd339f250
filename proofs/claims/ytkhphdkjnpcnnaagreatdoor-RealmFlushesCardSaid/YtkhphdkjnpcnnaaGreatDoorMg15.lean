/- RefW2, CutL, RefW3 -/
import Derived.Test.YtkhphdkjnpcnnaaGreatDoorMg14
import Derived.Deep.LoopGhost
/- The walks of the reference's texts: names, words, numbers, cut, glue. -/
namespace Go.Proofs.YtkhphdkjnpcnnaaGreatDoor
open Go.RowKit Go.Maps

theorem all_bytes {p : UInt8 → Bool} {s : ByteArray} (h : ∀ q, q < s.size → p (byteAt s q) = true) : ∀ c ∈ s.data.toList, p c = true := by
  intro c hc
  obtain ⟨i, hi, rfl⟩ := List.getElem_of_mem hc
  have := h i (by simpa using hi)
  unfold byteAt at this
  rwa [List.getD_eq_getElem?_getD, List.getElem?_eq_getElem hi] at this
theorem byte_mem {s : ByteArray} {j : Nat} (h : j < s.size) : byteAt s j ∈ s.data.toList := by
  unfold byteAt
  have hi : j < s.data.toList.length := by simpa using h
  rw [List.getD_eq_getElem?_getD, List.getElem?_eq_getElem hi]
  exact List.getElem_mem hi
set_option maxRecDepth 100000 in
theorem isNameR_any (s : ByteArray) (w : World) (hs : s.size ≤ maxLen) :
    Calls Tryz.prog 160 #[.string s] w fun e w' => e = .returned (.bool (isName s.data.toList)) ∧ w = w' := by
  unfold maxLen at hs
  have hlen : s.data.toList.length = s.size := Array.length_toList
  go_enter Tryz.func160, Tryz.ntmps160
  go_wp2_with fail
  go_loop [3] (fun i => ∃ j : Nat, j ≤ s.size ∧ i = .int .i64 j ∧ Hid (∀ q, q < j → smallB (byteAt s q) = true)) (fun i => s.size - (intOf i).toNat)
  case atStart => exact ⟨0, Nat.zero_le _, rfl, Lib.hid (fun _ h => absurd h (Nat.not_lt_zero _))⟩
  case round =>
    obtain ⟨j, hj, rfl, hall⟩ := hrel
    by_cases hlt : j < s.size
    · have hsm := Lib.hid (fun wx => small_any s[j] wx)
      cases hb : smallB (byteAt s j) with
      | false =>
        rw [← byteAt_eq s j hlt, hb, byteAt_eq s j hlt] at hsm
        have hr := Lib.hid (show isName s.data.toList = false by
          cases hn : isName s.data.toList with
          | false => rfl
          | true =>
            have := ((isName_iff _).1 hn).2.2 _ (byte_mem hlt)
            rw [hb] at this
            cases this)
        clear hb
        go_wp2_with (go_at_call 167; refine (hsm.out _).mono ?_; rintro e w' ⟨rfl, rfl⟩)
        go_ret
        exact ⟨ret_bool2 hr.out.symm, rfl⟩
      | true =>
        rw [← byteAt_eq s j hlt, hb, byteAt_eq s j hlt] at hsm
        have hall2 := Lib.hid (show ∀ q, q < j + 1 → smallB (byteAt s q) = true from fun q hq => by
          rcases Nat.lt_succ_iff_lt_or_eq.1 hq with h' | rfl
          · exact hall.out q h'
          · exact hb)
        clear hb
        go_wp2_with (go_at_call 167; refine (hsm.out _).mono ?_; rintro e w' ⟨rfl, rfl⟩)
        go_round
        case rel => exact ⟨j + 1, hlt, by go_num, hall2⟩
        case measure => simp [intOf]; omega
    · have hr := Lib.hid (show isName s.data.toList = (decide (1 ≤ s.size) && decide (s.size ≤ 8)) by
        have h1 : s.data.toList.all smallB = true := List.all_eq_true.2 (all_bytes fun q hq => hall.out q (by omega))
        unfold isName
        rw [h1, hlen, Bool.and_true])
      clear hlen
      by_cases h1 : 1 ≤ s.size <;> by_cases h8 : s.size ≤ 8
      all_goals first | (exfalso; omega) | skip
      all_goals
        go_wp2_with fail
        go_ret
        exact ⟨ret_bool2 (by rw [hr.out]; simp [h1, h8]; try omega), rfl⟩
set_option maxRecDepth 100000 in
theorem isWordR_any (s : ByteArray) (w : World) (hs : s.size ≤ maxLen) :
    Calls Tryz.prog 130 #[.string s] w fun e w' => e = .returned (.bool (isWord s.data.toList)) ∧ w = w' := by
  unfold maxLen at hs
  have hlen : s.data.toList.length = s.size := Array.length_toList
  go_enter Tryz.func130, Tryz.ntmps130
  go_wp2_with fail
  go_loop [3] (fun i => ∃ j : Nat, j ≤ s.size ∧ i = .int .i64 j ∧ Hid (∀ q, q < j → wordB (byteAt s q) = true)) (fun i => s.size - (intOf i).toNat)
  case atStart => exact ⟨0, Nat.zero_le _, rfl, Lib.hid (fun _ h => absurd h (Nat.not_lt_zero _))⟩
  case round =>
    obtain ⟨j, hj, rfl, hall⟩ := hrel
    by_cases hlt : j < s.size
    · have hsm := Lib.hid (fun wx => small_any s[j] wx)
      have hwb : wordB s[j] = (smallB s[j] || s[j] == 45 || s[j] == 42) := rfl
      have hn1 : s[j] = byteAt s j := (byteAt_eq s j hlt).symm
      have e45 : (((s[j].toNat : Int)) != 45) = !(s[j] == 45) := by
        by_cases h : s[j] = 45
        · rw [h]; rfl
        · have : (s[j].toNat : Int) ≠ 45 := fun e => h (UInt8.toNat_inj.1 (by simpa using Int.ofNat.inj e))
          rw [bne_iff_ne.2 this, beq_eq_false_iff_ne.2 h]; rfl
      have e42 : (((s[j].toNat : Int)) != 42) = !(s[j] == 42) := by
        by_cases h : s[j] = 42
        · rw [h]; rfl
        · have : (s[j].toNat : Int) ≠ 42 := fun e => h (UInt8.toNat_inj.1 (by simpa using Int.ofNat.inj e))
          rw [bne_iff_ne.2 this, beq_eq_false_iff_ne.2 h]; rfl
      have hgo : wordB (byteAt s j) = true → Hid (∀ q, q < j + 1 → wordB (byteAt s q) = true) := fun hb => Lib.hid fun q hq => by
        rcases Nat.lt_succ_iff_lt_or_eq.1 hq with h' | rfl
        · exact hall.out q h'
        · exact hb
      have hno : wordB (byteAt s j) = false → Hid (isWord s.data.toList = false) := fun hb => Lib.hid (by
        cases hn : isWord s.data.toList with
        | false => rfl
        | true =>
          have := ((isWord_iff _).1 hn).2.2 _ (byte_mem hlt)
          rw [hb] at this
          cases this)
      rw [← hn1] at hgo hno
      cases h1 : smallB s[j] with
      | true =>
        rw [h1] at hsm hwb
        have hall2 := hgo (by rw [hwb]; rfl)
        clear h1 hwb hgo hno hn1 e45 e42
        go_wp2_with (go_at_call 167; refine (hsm.out _).mono ?_; rintro e w' ⟨rfl, rfl⟩)
        go_round
        case rel => exact ⟨j + 1, hlt, by go_num, hall2⟩
        case measure => simp [intOf]; omega
      | false =>
        rw [h1] at hsm hwb
        cases h2 : (s[j] == 45) with
        | true =>
          rw [h2] at hwb e45
          have hall2 := hgo (by rw [hwb]; rfl)
          clear h1 h2 hwb hgo hno hn1 e42
          have e45 : ((s[j].toNat : Int) != 45) = false := e45
          go_wp2_with (go_at_call 167; refine (hsm.out _).mono ?_; rintro e w' ⟨rfl, rfl⟩)
          go_round
          case rel => exact ⟨j + 1, hlt, by go_num, hall2⟩
          case measure => simp [intOf]; omega
        | false =>
          rw [h2] at hwb e45
          have e45 : ((s[j].toNat : Int) != 45) = true := e45
          cases h3 : (s[j] == 42) with
          | true =>
            rw [h3] at hwb e42
            have hall2 := hgo (by rw [hwb]; rfl)
            clear h1 h2 h3 hwb hgo hno hn1
            have e42 : ((s[j].toNat : Int) != 42) = false := e42
            go_wp2_with (go_at_call 167; refine (hsm.out _).mono ?_; rintro e w' ⟨rfl, rfl⟩)
            go_round
            case rel => exact ⟨j + 1, hlt, by go_num, hall2⟩
            case measure => simp [intOf]; omega
          | false =>
            rw [h3] at hwb e42
            have hr := hno (by rw [hwb]; rfl)
            clear h1 h2 h3 hwb hgo hno hn1
            have e42 : ((s[j].toNat : Int) != 42) = true := e42
            go_wp2_with (go_at_call 167; refine (hsm.out _).mono ?_; rintro e w' ⟨rfl, rfl⟩)
            go_ret
            exact ⟨ret_bool2 hr.out.symm, rfl⟩
    · have hr := Lib.hid (show isWord s.data.toList = (decide (1 ≤ s.size) && decide (s.size ≤ 20)) by
        have h1 : s.data.toList.all wordB = true := List.all_eq_true.2 (all_bytes fun q hq => hall.out q (by omega))
        unfold isWord
        rw [h1, hlen, Bool.and_true])
      clear hlen
      by_cases h1 : 1 ≤ s.size <;> by_cases h8 : s.size ≤ 20
      all_goals first | (exfalso; omega) | skip
      all_goals
        go_wp2_with fail
        go_ret
        exact ⟨ret_bool2 (by rw [hr.out]; simp [h1, h8]; try omega), rfl⟩

/-- What the reference's NumberOf answers (-1: none). -/
def numR (l : List UInt8) (most : Int) : Int := match numOf l with
  | some n => if (n : Int) ≤ most then (n : Int) else -1
  | none => -1
theorem numR_number (l : List UInt8) (most : Int) : numR l most = if (number l most).2 = true then (number l most).1 else -1 := by
  unfold numR number
  cases numOf l with
  | none => rfl
  | some n =>
    by_cases h : (n : Int) ≤ most <;> simp [h]
theorem numR_none {l : List UInt8} {most : Int} (h : goodNum l = false ∨ 10 < l.length) : numR l most = -1 := by
  unfold numR numOf
  rw [if_neg]
  simp only [Bool.and_eq_true, decide_eq_true_eq]
  rintro ⟨h1, h2⟩
  rcases h with h | h
  · rw [h1] at h; cases h
  · omega
theorem numR_some {l : List UInt8} {most : Int} (h : goodNum l = true) (h2 : l.length ≤ 10) : numR l most = if (decVal l : Int) ≤ most then (decVal l : Int) else -1 := by
  unfold numR numOf
  rw [if_pos (by simp [h, h2])]
theorem head_byte (s : ByteArray) (h : 0 < s.size) : s.data.toList.head? = some (byteAt s 0) := by
  have hi : 0 < s.data.toList.length := by simpa using h
  unfold byteAt
  rw [List.head?_eq_getElem?, List.getD_eq_getElem?_getD, List.getElem?_eq_getElem hi]
  rfl
theorem int_eq2 {k : IntKind} {a b : Int} (h : a = b) : Value.int k a = .int k b := by rw [h]
set_option maxHeartbeats 1000000 in
set_option maxRecDepth 100000 in
theorem numberR_any (s : ByteArray) (most : Int) (w : World) (hs : s.size ≤ maxLen) :
    Calls Tryz.prog 162 #[.string s, .int .i64 most] w fun e w' => e = .returned (.int .i64 (numR s.data.toList most)) ∧ w = w' := by
  unfold maxLen at hs
  have hlen : s.data.toList.length = s.size := Array.length_toList
  by_cases h1 : s.size = 0
  · have hr := Lib.hid (show numR s.data.toList most = -1 from numR_none (.inl (by
      rw [List.eq_nil_of_length_eq_zero (hlen.trans h1)]; rfl)))
    have h1 : s.size < 1 := by omega
    clear hlen
    go_enter Tryz.func162, Tryz.ntmps162
    go_wp2_with fail
    go_ret
    exact ⟨ret_int hr.out.symm, rfl⟩
  have h1 : 1 ≤ s.size := by omega
  by_cases h10 : 10 < s.size
  · have hr := Lib.hid (show numR s.data.toList most = -1 from numR_none (.inr (by omega)))
    clear hlen
    go_enter Tryz.func162, Tryz.ntmps162
    go_wp2_with fail
    go_ret
    exact ⟨ret_int hr.out.symm, rfl⟩
  have h10 : s.size ≤ 10 := by omega
  have hh := Lib.hid (head_byte s h1)
  have h0s : 0 < s.size := h1
  have hb0 := Lib.hid (byteAt_eq s 0 h0s)
  by_cases hz : 1 < s.size ∧ (s[0].toNat : Int) = 48
  · have hr := Lib.hid (show numR s.data.toList most = -1 from numR_none (.inl (by
      have e0 : byteAt s 0 = 48 := by rw [hb0.out]; exact UInt8.toNat_inj.1 (by simpa using Int.ofNat.inj hz.2)
      unfold goodNum
      rw [hh.out, e0, hlen]
      have : ¬ s.size = 1 := by omega
      simp [this])))
    obtain ⟨hz1, hz2⟩ := hz
    have hz2 : ((s[0].toNat : Int) == 48) = true := by rw [beq_iff_eq]; exact hz2
    clear hlen
    go_enter Tryz.func162, Tryz.ntmps162
    go_wp2_with fail
    go_ret
    exact ⟨ret_int hr.out.symm, rfl⟩
  have hgood : (s.data.toList.all digB = true) → Hid (goodNum s.data.toList = true) := fun ha => Lib.hid (by
    unfold goodNum
    rw [ha, hlen, hh.out]
    have : byteAt s 0 ≠ 48 ∨ s.size = 1 := by
      by_cases h : s.size = 1
      · exact .inr h
      · left
        intro e
        apply hz
        rw [hb0.out] at e
        exact ⟨by omega, by rw [e]; rfl⟩
    rcases this with h | h
    · simp [h, h1]
    · simp [h])
  have hgood := Lib.hid hgood
  have hsz : s.size = 1 ∨ (1 < s.size ∧ ((s[0].toNat : Int) == 48) = false) := by
    by_cases h : s.size = 1
    · exact .inl h
    · exact .inr ⟨by omega, by rw [beq_eq_false_iff_ne]; exact fun e => hz ⟨by omega, e⟩⟩
  have hlen := Lib.hid hlen
  clear hz
  rcases hsz with hsz | ⟨hsz, hsz2⟩
  all_goals
    try have hsz : s.size < 2 := by omega
    go_enter Tryz.func162, Tryz.ntmps162
    go_wp2_with fail
    go_loop [5, 6] (fun n i => ∃ j : Nat, j ≤ s.size ∧ i = .int .i64 j ∧ n = .int .i64 (decVal (s.data.toList.take j)) ∧ Hid (∀ q, q < j → digB (byteAt s q) = true)) (fun _ i => s.size - (intOf i).toNat)
    case atStart => exact ⟨0, Nat.zero_le _, rfl, rfl, Lib.hid (fun _ h => absurd h (Nat.not_lt_zero _))⟩
    case round =>
      obtain ⟨j, hj, rfl, rfl, hall⟩ := hrel
      have hdl : (s.data.toList.take j).all digB = true := List.all_eq_true.2 fun c hc => by
        obtain ⟨q, hq, rfl⟩ := List.getElem_of_mem hc
        have hq2 : q < j := by simp at hq; omega
        have := hall.out q hq2
        unfold byteAt at this
        rw [List.getD_eq_getElem?_getD, List.getElem?_eq_getElem (by simp at hq ⊢; omega)] at this
        simpa using this
      have hlt10 := decVal_lt _ hdl
      have hp : 10 ^ (s.data.toList.take j).length ≤ 10 ^ 10 := Nat.pow_le_pow_right (by decide) (by simp; omega)
      have hbd : decVal (s.data.toList.take j) < 10000000000 := Nat.lt_of_lt_of_le hlt10 hp
      clear hlt10 hp hdl
      by_cases hlt : j < s.size
      · have hsn := Lib.hid (show decVal (s.data.toList.take (j + 1)) = decVal (s.data.toList.take j) * 10 + (s[j].toNat - 48) by rw [take_succ_byte s j hlt, decVal_snoc, byteAt_eq s j hlt])
        have hcb : s[j].toNat < 256 := UInt8.toNat_lt _
        have hdg := Lib.hid (show digB (byteAt s j) = true ↔ 48 ≤ s[j].toNat ∧ s[j].toNat ≤ 57 by rw [digB_iff, byteAt_eq s j hlt])
        have hno := Lib.hid (show ¬ (48 ≤ s[j].toNat ∧ s[j].toNat ≤ 57) → numR s.data.toList most = -1 from fun h => numR_none (.inl (by
          cases hg : goodNum s.data.toList with
          | false => rfl
          | true =>
            simp only [goodNum, Bool.and_eq_true] at hg
            have := List.all_eq_true.1 hg.1.1 _ (byte_mem hlt)
            exact absurd (hdg.out.1 this) h)))
        generalize decVal (s.data.toList.take j) = m at *
        by_cases ha : s[j].toNat < 48
        · have hr := Lib.hid (hno.out (by omega))
          go_wp2_with fail
          go_ret
          exact ⟨ret_int hr.out.symm, rfl⟩
        · by_cases hb : 57 < s[j].toNat
          · have hr := Lib.hid (hno.out (by omega))
            go_wp2_with fail
            go_ret
            exact ⟨ret_int hr.out.symm, rfl⟩
          · have hall2 := Lib.hid (show ∀ q, q < j + 1 → digB (byteAt s q) = true from fun q hq => by
              rcases Nat.lt_succ_iff_lt_or_eq.1 hq with h' | rfl
              · exact hall.out q h'
              · exact hdg.out.2 ⟨by omega, by omega⟩)
            go_wp2_with fail
            go_round
            case rel => exact ⟨j + 1, hlt, by go_num, by rw [hsn.out]; exact int_eq2 (by omega), hall2⟩
            case measure => simp [intOf]; omega
      · have hje : j = s.size := by omega
        have hg := hgood.out (List.all_eq_true.2 (all_bytes fun q hq => hall.out q (by omega)))
        have htk : s.data.toList.take j = s.data.toList := by rw [hje, take_all]
        rw [htk] at hbd ⊢
        have hr := Lib.hid (numR_some (most := most) hg.out (by rw [hlen.out]; exact h10))
        have hge : ¬ ((j : Int) < (s.size : Int)) := by omega
        clear htk hje
        generalize decVal s.data.toList = m at *
        by_cases hm : (m : Int) ≤ most
        · go_wp2_with fail
          go_ret
          exact ⟨ret_int (by rw [hr.out, if_pos hm]), rfl⟩
        · go_wp2_with fail
          go_ret
          exact ⟨ret_int (by rw [hr.out, if_neg (by omega)]), rfl⟩
end Go.Proofs.YtkhphdkjnpcnnaaGreatDoor

/- Bytes of a text ahead of a byte that is sought: lemmas. -/
namespace Go.Proofs.YtkhphdkjnpcnnaaGreatDoor
open Go.RowKit

theorem extract_bytes (s : ByteArray) (a b : Nat) : s.extract a b = bs ((s.data.toList.drop a).take (b - a)) := by
  apply ByteArray.ext
  apply Array.toList_inj.1
  rw [Lib.extract_data, bs_list]
theorem drop_no {s : ByteArray} {f : Nat} {c : UInt8} (h : ∀ q, f ≤ q → q < s.size → byteAt s q ≠ c) : c ∉ s.data.toList.drop f := by
  intro hm
  obtain ⟨i, hi, e⟩ := List.getElem_of_mem hm
  simp only [List.length_drop, Array.length_toList] at hi
  have hi2 : f + i < s.size := by have : s.data.size = s.size := rfl; omega
  apply h (f + i) (by omega) hi2
  unfold byteAt
  have hi' : f + i < s.data.toList.length := by simpa using hi2
  rw [List.getD_eq_getElem?_getD, List.getElem?_eq_getElem hi']
  rw [List.getElem_drop] at e
  exact e
theorem take_no {s : ByteArray} {f j : Nat} {c : UInt8} (hj : j ≤ s.size) (h : ∀ q, f ≤ q → q < j → byteAt s q ≠ c) : c ∉ (s.data.toList.drop f).take (j - f) := by
  intro hm
  obtain ⟨i, hi, e⟩ := List.getElem_of_mem hm
  simp only [List.length_take, List.length_drop, Array.length_toList] at hi
  have hs : s.data.size = s.size := rfl
  apply h (f + i) (by omega) (by omega)
  unfold byteAt
  have hi' : f + i < s.data.toList.length := by simp; omega
  rw [List.getD_eq_getElem?_getD, List.getElem?_eq_getElem hi']
  rw [List.getElem_take, List.getElem_drop] at e
  exact e
theorem drop_split (s : ByteArray) (f j : Nat) (hf : f ≤ j) (hj : j < s.size) : s.data.toList.drop f = (s.data.toList.drop f).take (j - f) ++ byteAt s j :: s.data.toList.drop (j + 1) := by
  have h1 : (s.data.toList.drop f).drop (j - f) = byteAt s j :: s.data.toList.drop (j + 1) := by
    rw [List.drop_drop, show f + (j - f) = j by omega]
    exact drop_byte s j hj
  rw [← h1, List.take_append_drop]
theorem extract_end (s : ByteArray) (f : Nat) : s.extract f s.size = bs (s.data.toList.drop f) := by
  rw [extract_bytes, List.take_of_length_le]
  simp
end Go.Proofs.YtkhphdkjnpcnnaaGreatDoor

/- The walks of the reference's texts: cut, glue. -/
namespace Go.Proofs.YtkhphdkjnpcnnaaGreatDoor
open Go.RowKit Go.Maps

theorem info_string : (Tryz.prog.info? 9).map (fun i => (i.zero, i.size, i.bytes)) = some (some (.string ⟨#[]⟩), 1, 16) := by kernel_rfl
def strV (x : List UInt8) : Value := .string (bs x)
theorem textsAt_of_ownsRow {w : World} {base : Nat} {v : Value} {L : List (List UInt8)} (hL : L.length ≤ maxLen) (h : w.ownsRow base 9 1 v L.length (L.map strV)) : TextsAt w v L := by
  obtain ⟨_, ⟨rfl, hn⟩ | ⟨g, cap, cur, rfl, hbg, hg, hc, _, hsz, htake⟩⟩ := h
  · exact ⟨none, 0, by rw [hn], hL, by omega, fun i hi => by omega⟩
  · refine ⟨_, _, rfl, hL, hc, fun i hi => ⟨g, 0, rfl, ?_⟩⟩
    rw [cell_of_row w g (0 + i) _ _ _ hg, Nat.zero_add]
    have h1 : (cur.toList.take (L.length * 1))[i]? = some (strV L[i]) := by rw [htake, List.getElem?_map, List.getElem?_eq_getElem hi]; rfl
    rw [List.getElem?_take, if_pos (by omega)] at h1
    simpa [strV] using h1
/-- A slice's row lies at or above n. -/
def NewIn (n : Nat) (v : Value) : Prop := ∀ a len c, v = .slice (some a) len c → n ≤ a.block
theorem newIn_none (n : Nat) : NewIn n (.slice none 0 0) := fun _ _ _ h => by cases h
theorem newIn_of_ownsRow {w : World} {base : Nat} {v : Value} {e : TypeId} {m size : Nat} {xs : List Value} (h : w.ownsRow base e size v m xs) : NewIn base v := by
  obtain ⟨_, ⟨rfl, _⟩ | ⟨g, cap, cur, rfl, hbg, _⟩⟩ := h
  · exact newIn_none base
  · intro a len c he
    cases he
    exact hbg
/-- Where a cut stands: the pieces so far, the rest. -/
structure CutTo (s : ByteArray) (c : UInt8) (f j : Nat) (P : List (List UInt8)) : Prop where
  many : P.length ≤ f
  fj : f ≤ j
  eq : cutL c s.data.toList = P ++ cutL c (s.data.toList.drop f)
  no : ∀ q, f ≤ q → q < j → byteAt s q ≠ c
theorem cutTo_hit {s : ByteArray} {c : UInt8} {f j : Nat} {P : List (List UInt8)} (h : CutTo s c f j P) (hj : j < s.size) (hc : byteAt s j = c) : CutTo s c (j + 1) (j + 1) (P ++ [(s.data.toList.drop f).take (j - f)]) := by
  refine ⟨by have := h.many; have := h.fj; simp; omega, Nat.le_refl _, ?_, fun q h1 h2 => by omega⟩
  have hd := drop_split s f j h.fj hj
  rw [hc] at hd
  have e := (congrArg (cutL c) hd).trans (cutL_cut c _ _ (take_no (by omega) h.no))
  rw [h.eq, List.append_assoc, e]
  rfl
theorem cutTo_miss {s : ByteArray} {c : UInt8} {f j : Nat} {P : List (List UInt8)} (h : CutTo s c f j P) (hc : byteAt s j ≠ c) : CutTo s c f (j + 1) P :=
  ⟨h.many, by have := h.fj; omega, h.eq, fun q h1 h2 => by
    rcases Nat.lt_succ_iff_lt_or_eq.1 h2 with h' | rfl
    · exact h.no q h1 h'
    · exact hc⟩
theorem cutTo_end {s : ByteArray} {c : UInt8} {f : Nat} {P : List (List UInt8)} (h : CutTo s c f s.size P) : cutL c s.data.toList = P ++ [s.data.toList.drop f] := by
  rw [h.eq, cutL_none c _ (drop_no h.no)]
set_option maxHeartbeats 1000000 in
set_option maxRecDepth 100000 in
theorem cut_new (s : ByteArray) (c : UInt8) (w : World) (hs : s.size ≤ 1000000) :
    Calls Tryz.prog 185 #[.string s, .int .u8 (c.toNat : Int)] w fun e w' => ∃ v, e = .returned v ∧ TextsAt w' v (cutL c s.data.toList) ∧ Below w.heap.size w w' ∧ NewIn w.heap.size v := by
  obtain ⟨i0, hi, hz0, hz1, hz2⟩ := info_parts info_string
  go_enter Tryz.func185, Tryz.ntmps185
  go_wp2_with fail
  go_loopw [5, 6, 7] (fun v fr i wr => ∃ (j f : Nat) (P : List (List UInt8)), j ≤ s.size ∧ f ≤ j ∧ P.length ≤ f ∧ i = .int .i64 j ∧ fr = .int .i64 f ∧ wr.ownsRow w.heap.size 9 1 v P.length (P.map strV) ∧ Below w.heap.size w wr ∧ Hid (CutTo s c f j P)) (fun _ _ i _ => s.size - (intOf i).toNat)
  case atStart => exact ⟨0, 0, [], Nat.zero_le _, Nat.le_refl _, Nat.le_refl _, rfl, rfl, World.ownsRow_nil _ _ _ _, Below.refl _ _, Lib.hid ⟨Nat.le_refl _, Nat.le_refl _, by simp, fun q h1 h2 => absurd h2 (Nat.not_lt_zero _)⟩⟩
  case round =>
    obtain ⟨j, f, P, hj, hfj, hPf, rfl, rfl, hown, hbr, hct⟩ := hrel
    by_cases hlt : j < s.size
    · by_cases hc : byteAt s j = c
      · have hb : ((s[j].toNat : Int) == (c.toNat : Int)) = true := by rw [beq_iff_eq, ← byteAt_eq s j hlt, hc]
        have hct2 := Lib.hid (cutTo_hit hct.out hlt hc)
        have hex := Lib.hid (extract_bytes s f j)
        have hbr := Lib.hid hbr
        clear hc
        go_wp2_with (at_builtin; refine wpList_append_own_at _ rfl _ _ 107 rfl w.heap.size 9 i0 (.string ⟨#[]⟩) 1 16 Tryz.underlying107 hi hz0 hz1 hz2 rfl (by decide) _ _ _ rfl (hown.alloc _) ⟨wr.heap.size, 0, none⟩ 1 1 [.string (s.extract f j)] rfl rfl (cell_one_new _ _ _) (fun u hu => by simp at hu; subst hu; rfl) ?c3 ?c4 ?c5 ?_)
        skip
        case c3 => unfold maxLen; omega
        case c4 => omega
        case c5 => have := hbr.out.size; simp; omega
        intro v' w3 hown' hgrow _ _
        have hb3 := Lib.hid ((hbr.out.alloc hbr.out.size _).grown hgrow (by have := hbr.out.size; simp; omega) (fun k hk => (hown.lt k hk).1))
        have hown3 : w3.ownsRow w.heap.size 9 1 v' (P ++ [(s.data.toList.drop f).take (j - f)]).length ((P ++ [(s.data.toList.drop f).take (j - f)]).map strV) := by
          rw [List.map_append, List.length_append]
          rw [hex.out] at hown'
          exact hown'
        have hown3 := Lib.hid hown3
        clear hown' hgrow hown
        go_wp2_with fail
        go_roundw
        case rel => exact ⟨j + 1, j + 1, _, hlt, Nat.le_refl _, hct2.out.many, by go_num, by go_num, hown3.out, hb3.out, hct2⟩
        case measure => simp [intOf]; omega
      · have hb : ((s[j].toNat : Int) == (c.toNat : Int)) = false := by
          rw [beq_eq_false_iff_ne, ← byteAt_eq s j hlt]
          exact fun e => hc (UInt8.toNat_inj.1 (Int.ofNat.inj e))
        have hct2 := Lib.hid (cutTo_miss hct.out hc)
        have hbr := Lib.hid hbr
        have hown := Lib.hid hown
        clear hc
        go_wp2_with fail
        go_roundw
        case rel => exact ⟨j + 1, f, P, hlt, by omega, hPf, by go_num, rfl, hown.out, hbr.out, hct2⟩
        case measure => simp [intOf]; omega
    · have hje : j = s.size := by omega
      have hend := Lib.hid (show cutL c s.data.toList = P ++ [s.data.toList.drop f] by have := hct.out; rw [hje] at this; exact cutTo_end this)
      have hex := Lib.hid (extract_end s f)
      have hbr := Lib.hid hbr
      have hge : ¬ ((j : Int) < (s.size : Int)) := by omega
      have hfs : f ≤ s.size := by omega
      clear hje
      go_wp2_with (at_builtin; refine wpList_append_own_at _ rfl _ _ 107 rfl w.heap.size 9 i0 (.string ⟨#[]⟩) 1 16 Tryz.underlying107 hi hz0 hz1 hz2 rfl (by decide) _ _ _ rfl (hown.alloc _) ⟨wr.heap.size, 0, none⟩ 1 1 [.string (s.extract f s.size)] rfl rfl (cell_one_new _ _ _) (fun u hu => by simp at hu; subst hu; rfl) ?d3 ?d4 ?d5 ?_)
      skip
      case d3 => unfold maxLen; omega
      case d4 => omega
      case d5 => have := hbr.out.size; simp; omega
      intro v' w3 hown' hgrow _ _
      have hb3 := Lib.hid ((hbr.out.alloc hbr.out.size _).grown hgrow (by have := hbr.out.size; simp; omega) (fun k hk => (hown.lt k hk).1))
      have hT : TextsAt w3 v' (cutL c s.data.toList) := by
        rw [hend.out]
        refine textsAt_of_ownsRow (base := w.heap.size) (by unfold maxLen; simp; omega) ?_
        rw [List.map_append, List.length_append]
        rw [hex.out] at hown'
        exact hown'
      have hT := Lib.hid hT
      have hnew := Lib.hid (newIn_of_ownsRow hown')
      clear hown' hgrow hown
      go_wp2_with fail
      go_ret
      exact ⟨_, rfl, hT.out, hb3.out, hnew.out⟩
theorem cut_any (s : ByteArray) (c : UInt8) (w : World) (hs : s.size ≤ 1000000) :
    Calls Tryz.prog 185 #[.string s, .int .u8 (c.toNat : Int)] w fun e w' => ∃ v, e = .returned v ∧ TextsAt w' v (cutL c s.data.toList) ∧ Below w.heap.size w w' :=
  (cut_new s c w hs).mono fun _ _ ⟨v, h1, h2, h3, _⟩ => ⟨v, h1, h2, h3⟩

theorem glue_take_len (c : UInt8) (W : List (List UInt8)) : ∀ j, (glue c (W.take j)).length ≤ (glue c W).length := by
  intro j
  cases W with
  | nil => simp
  | cons a r =>
    cases j with
    | zero => simp [glue]
    | succ j =>
      simp only [List.take_succ_cons, glue, List.length_append]
      have : ∀ (r : List (List UInt8)) (j : Nat), ((r.take j).flatMap fun y => c :: y).length ≤ (r.flatMap fun y => c :: y).length := by
        intro r
        induction r with
        | nil => intro j; simp
        | cons x r ih =>
          intro j
          cases j with
          | zero => simp
          | succ j =>
            have := ih j
            simp only [List.take_succ_cons, List.flatMap_cons, List.length_append, List.length_cons]
            omega
      have := this r j
      omega
theorem glue_succ (c : UInt8) (W : List (List UInt8)) (j : Nat) (h : j < W.length) : glue c (W.take (j + 1)) = if j = 0 then W[j] else glue c (W.take j) ++ c :: W[j] := by
  rw [List.take_succ_eq_append_getElem h]
  by_cases hj : j = 0
  · subst hj
    rw [if_pos rfl]
    simp [glue]
  · rw [if_neg hj, glue_snoc c (by
      intro e
      have h2 : (W.take j).length = j := by rw [List.length_take]; omega
      rw [e] at h2
      exact hj h2.symm)]
set_option maxHeartbeats 1000000 in
set_option maxRecDepth 100000 in
theorem glueR_any (v : Value) (W : List (List UInt8)) (c : UInt8) (w : World) (hv : TextsAt w v W) (hb : (glue c W).length ≤ 1000000) :
    Calls Tryz.prog 131 #[v, .string ⟨#[c]⟩] w fun e w' => e = .returned (.string (bs (glue c W))) ∧ w = w' := by
  obtain ⟨a, k, rfl, hlen, _, hcell⟩ := hv
  unfold maxLen at hlen
  have hcell := Lib.hid hcell
  have hc1 : (⟨#[c]⟩ : ByteArray).size = 1 := rfl
  have hcc := Lib.hid (show (⟨#[c]⟩ : ByteArray) = bs [c] from rfl)
  have hc1 : (⟨#[c]⟩ : ByteArray).size ≤ 1 := by omega
  generalize (⟨#[c]⟩ : ByteArray) = by_ at *
  go_enter Tryz.func131, Tryz.ntmps131
  go_wp2_with fail
  go_loop [5, 6] (fun s i => ∃ j : Nat, j ≤ W.length ∧ i = .int .i64 j ∧ s = .string (bs (glue c (W.take j)))) (fun _ i => W.length - (intOf i).toNat)
  case atStart => exact ⟨0, Nat.zero_le _, rfl, rfl⟩
  case round =>
    obtain ⟨j, hj, rfl, rfl⟩ := hrel
    by_cases hlt : j < W.length
    · obtain ⟨b, o, rfl, h0⟩ := hcell.out j hlt
      have hg := glue_succ c W j hlt
      obtain ⟨x, hx⟩ : ∃ x, W[j] = x := ⟨_, rfl⟩
      rw [hx] at h0 hg
      have hg := Lib.hid hg
      have hl1 := glue_take_len c W j
      have hl2 := glue_take_len c W (j + 1)
      have hz1 : (bs (glue c (W.take j))).size ≤ 1000000 := by rw [bs_size]; omega
      have hz2 : (bs x).size ≤ 1000000 := by
        rw [bs_size]
        have hl2 := hl2
        rw [hg.out] at hl2
        by_cases hj0 : j = 0
        · rw [if_pos hj0] at hl2; omega
        · rw [if_neg hj0] at hl2; simp at hl2; omega
      have hz3 : (bs (glue c (W.take j)) ++ by_).size ≤ 1000001 := by rw [ByteArray.size_append]; omega
      have hk1 : (j : Int) < (W.length : Int) := by omega
      have hfin := Lib.hid (show (if j = 0 then bs (glue c (W.take j)) ++ bs x else bs (glue c (W.take j)) ++ by_ ++ bs x) = bs (glue c (W.take (j + 1))) by
        rw [hg.out]
        by_cases hj0 : j = 0
        · rw [if_pos hj0, if_pos hj0, str_cat]; subst hj0; rfl
        · rw [if_neg hj0, if_neg hj0, hcc.out, str_cat, str_cat, List.append_assoc]; rfl)
      clear hl1 hl2 hx
      generalize bs (glue c (W.take j)) = sa at *
      generalize bs x = sb at *
      by_cases hj0 : j = 0
      · have hfin := Lib.hid ((if_pos hj0).symm.trans hfin.out)
        subst hj0
        rw [Nat.add_zero] at h0
        go_wp2_with fail
        go_round
        case rel => exact ⟨1, hlt, by go_num, congrArg Value.string hfin.out⟩
        case measure => simp [intOf]; omega
      · have hfin := Lib.hid ((if_neg hj0).symm.trans hfin.out)
        have hj0 : 0 < j := by omega
        go_wp2_with fail
        go_round
        case rel => exact ⟨j + 1, hlt, by go_num, congrArg Value.string hfin.out⟩
        case measure => simp [intOf]; omega
    · have hje : W.take j = W := List.take_of_length_le (by omega)
      rw [hje]
      have hge : ¬ ((j : Int) < (W.length : Int)) := by omega
      clear hje
      go_wp2_with fail
      go_ret
      exact ⟨rfl, rfl⟩
end Go.Proofs.YtkhphdkjnpcnnaaGreatDoor
