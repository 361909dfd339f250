/- The walks of the reference's texts: names, words, numbers, cut, glue. -/
import Derived.Test.YtmjbhglmlbgkmaaDoorRefW
import Derived.Deep.LoopGhost
namespace Go.Proofs.YtmjbhglmlbgkmaaDoor
open Go.RowKit Go.Maps

theorem all_bytes {p : UInt8 → Bool} {s : ByteArray} (h : ∀ q, q < s.size → p (byteAt s q) = true) : ∀ c ∈ s.data.toList, p c = true := by
  intro c hc
  obtain ⟨i, hi, rfl⟩ := List.getElem_of_mem hc
  have := h i (by simpa using hi)
  unfold byteAt at this
  rwa [List.getD_eq_getElem?_getD, List.getElem?_eq_getElem hi] at this
theorem byte_mem {s : ByteArray} {j : Nat} (h : j < s.size) : byteAt s j ∈ s.data.toList := by
  unfold byteAt
  have hi : j < s.data.toList.length := by simpa using h
  rw [List.getD_eq_getElem?_getD, List.getElem?_eq_getElem hi]
  exact List.getElem_mem hi
set_option maxRecDepth 100000 in
theorem isWordR_any (s : ByteArray) (w : World) (hs : s.size ≤ maxLen) :
    Calls Tryd.prog 58 #[.string s] w fun e w' => e = .returned (.bool (isWord s.data.toList)) ∧ w = w' := by
  unfold maxLen at hs
  have hlen : s.data.toList.length = s.size := Array.length_toList
  go_enter Tryd.func58, Tryd.ntmps58
  go_wp2_with fail
  go_loop [3] (fun i => ∃ j : Nat, j ≤ s.size ∧ i = .int .i64 j ∧ Hid (∀ q, q < j → wordB (byteAt s q) = true)) (fun i => s.size - (intOf i).toNat)
  case atStart => exact ⟨0, Nat.zero_le _, rfl, Lib.hid (fun _ h => absurd h (Nat.not_lt_zero _))⟩
  case round =>
    obtain ⟨j, hj, rfl, hall⟩ := hrel
    by_cases hlt : j < s.size
    · have hsm := Lib.hid (fun wx => small_any s[j] wx)
      have hwb : wordB s[j] = (smallB s[j] || s[j] == 45 || s[j] == 42) := rfl
      have hn1 : s[j] = byteAt s j := (byteAt_eq s j hlt).symm
      have e45 : (((s[j].toNat : Int)) != 45) = !(s[j] == 45) := by
        by_cases h : s[j] = 45
        · rw [h]; rfl
        · have : (s[j].toNat : Int) ≠ 45 := fun e => h (UInt8.toNat_inj.1 (by simpa using Int.ofNat.inj e))
          rw [bne_iff_ne.2 this, beq_eq_false_iff_ne.2 h]; rfl
      have e42 : (((s[j].toNat : Int)) != 42) = !(s[j] == 42) := by
        by_cases h : s[j] = 42
        · rw [h]; rfl
        · have : (s[j].toNat : Int) ≠ 42 := fun e => h (UInt8.toNat_inj.1 (by simpa using Int.ofNat.inj e))
          rw [bne_iff_ne.2 this, beq_eq_false_iff_ne.2 h]; rfl
      have hgo : wordB (byteAt s j) = true → Hid (∀ q, q < j + 1 → wordB (byteAt s q) = true) := fun hb => Lib.hid fun q hq => by
        rcases Nat.lt_succ_iff_lt_or_eq.1 hq with h' | rfl
        · exact hall.out q h'
        · exact hb
      have hno : wordB (byteAt s j) = false → Hid (isWord s.data.toList = false) := fun hb => Lib.hid (by
        cases hn : isWord s.data.toList with
        | false => rfl
        | true =>
          have := ((isWord_iff _).1 hn).2.2 _ (byte_mem hlt)
          rw [hb] at this
          cases this)
      rw [← hn1] at hgo hno
      cases h1 : smallB s[j] with
      | true =>
        rw [h1] at hsm hwb
        have hall2 := hgo (by rw [hwb]; rfl)
        clear h1 hwb hgo hno hn1 e45 e42
        go_wp2_with (go_at_call 78; refine (hsm.out _).mono ?_; rintro e w' ⟨rfl, rfl⟩)
        go_round
        case rel => exact ⟨j + 1, hlt, by go_num, hall2⟩
        case measure => simp [intOf]; omega
      | false =>
        rw [h1] at hsm hwb
        cases h2 : (s[j] == 45) with
        | true =>
          rw [h2] at hwb e45
          have hall2 := hgo (by rw [hwb]; rfl)
          clear h1 h2 hwb hgo hno hn1 e42
          have e45 : ((s[j].toNat : Int) != 45) = false := e45
          go_wp2_with (go_at_call 78; refine (hsm.out _).mono ?_; rintro e w' ⟨rfl, rfl⟩)
          go_round
          case rel => exact ⟨j + 1, hlt, by go_num, hall2⟩
          case measure => simp [intOf]; omega
        | false =>
          rw [h2] at hwb e45
          have e45 : ((s[j].toNat : Int) != 45) = true := e45
          cases h3 : (s[j] == 42) with
          | true =>
            rw [h3] at hwb e42
            have hall2 := hgo (by rw [hwb]; rfl)
            clear h1 h2 h3 hwb hgo hno hn1
            have e42 : ((s[j].toNat : Int) != 42) = false := e42
            go_wp2_with (go_at_call 78; refine (hsm.out _).mono ?_; rintro e w' ⟨rfl, rfl⟩)
            go_round
            case rel => exact ⟨j + 1, hlt, by go_num, hall2⟩
            case measure => simp [intOf]; omega
          | false =>
            rw [h3] at hwb e42
            have hr := hno (by rw [hwb]; rfl)
            clear h1 h2 h3 hwb hgo hno hn1
            have e42 : ((s[j].toNat : Int) != 42) = true := e42
            go_wp2_with (go_at_call 78; refine (hsm.out _).mono ?_; rintro e w' ⟨rfl, rfl⟩)
            go_ret
            exact ⟨ret_bool2 hr.out.symm, rfl⟩
    · have hr := Lib.hid (show isWord s.data.toList = (decide (1 ≤ s.size) && decide (s.size ≤ 20)) by
        have h1 : s.data.toList.all wordB = true := List.all_eq_true.2 (all_bytes fun q hq => hall.out q (by omega))
        unfold isWord
        rw [h1, hlen, Bool.and_true])
      clear hlen
      by_cases h1 : 1 ≤ s.size <;> by_cases h8 : s.size ≤ 20
      all_goals first | (exfalso; omega) | skip
      all_goals
        go_wp2_with fail
        go_ret
        exact ⟨ret_bool2 (by rw [hr.out]; simp [h1, h8]; try omega), rfl⟩

/-- What the reference's NumberOf answers (-1: none). -/
def numR (l : List UInt8) (most : Int) : Int := match numOf l with
  | some n => if (n : Int) ≤ most then (n : Int) else -1
  | none => -1
theorem numR_number (l : List UInt8) (most : Int) : numR l most = if (number l most).2 = true then (number l most).1 else -1 := by
  unfold numR number
  cases numOf l with
  | none => rfl
  | some n =>
    by_cases h : (n : Int) ≤ most <;> simp [h]
theorem numR_none {l : List UInt8} {most : Int} (h : goodNum l = false ∨ 10 < l.length) : numR l most = -1 := by
  unfold numR numOf
  rw [if_neg]
  simp only [Bool.and_eq_true, decide_eq_true_eq]
  rintro ⟨h1, h2⟩
  rcases h with h | h
  · rw [h1] at h; cases h
  · omega
theorem numR_some {l : List UInt8} {most : Int} (h : goodNum l = true) (h2 : l.length ≤ 10) : numR l most = if (decVal l : Int) ≤ most then (decVal l : Int) else -1 := by
  unfold numR numOf
  rw [if_pos (by simp [h, h2])]
theorem head_byte (s : ByteArray) (h : 0 < s.size) : s.data.toList.head? = some (byteAt s 0) := by
  have hi : 0 < s.data.toList.length := by simpa using h
  unfold byteAt
  rw [List.head?_eq_getElem?, List.getD_eq_getElem?_getD, List.getElem?_eq_getElem hi]
  rfl
theorem int_eq2 {k : IntKind} {a b : Int} (h : a = b) : Value.int k a = .int k b := by rw [h]
set_option maxHeartbeats 1000000 in
set_option maxRecDepth 100000 in
theorem numberR_any (s : ByteArray) (most : Int) (w : World) (hs : s.size ≤ maxLen) :
    Calls Tryd.prog 53 #[.string s, .int .i64 most] w fun e w' => e = .returned (.int .i64 (numR s.data.toList most)) ∧ w = w' := by
  unfold maxLen at hs
  have hlen : s.data.toList.length = s.size := Array.length_toList
  by_cases h1 : s.size = 0
  · have hr := Lib.hid (show numR s.data.toList most = -1 from numR_none (.inl (by
      rw [List.eq_nil_of_length_eq_zero (hlen.trans h1)]; rfl)))
    have h1 : s.size < 1 := by omega
    clear hlen
    go_enter Tryd.func53, Tryd.ntmps53
    go_wp2_with fail
    go_ret
    exact ⟨ret_int hr.out.symm, rfl⟩
  have h1 : 1 ≤ s.size := by omega
  by_cases h10 : 10 < s.size
  · have hr := Lib.hid (show numR s.data.toList most = -1 from numR_none (.inr (by omega)))
    clear hlen
    go_enter Tryd.func53, Tryd.ntmps53
    go_wp2_with fail
    go_ret
    exact ⟨ret_int hr.out.symm, rfl⟩
  have h10 : s.size ≤ 10 := by omega
  have hh := Lib.hid (head_byte s h1)
  have h0s : 0 < s.size := h1
  have hb0 := Lib.hid (byteAt_eq s 0 h0s)
  by_cases hz : 1 < s.size ∧ (s[0].toNat : Int) = 48
  · have hr := Lib.hid (show numR s.data.toList most = -1 from numR_none (.inl (by
      have e0 : byteAt s 0 = 48 := by rw [hb0.out]; exact UInt8.toNat_inj.1 (by simpa using Int.ofNat.inj hz.2)
      unfold goodNum
      rw [hh.out, e0, hlen]
      have : ¬ s.size = 1 := by omega
      simp [this])))
    obtain ⟨hz1, hz2⟩ := hz
    have hz2 : ((s[0].toNat : Int) == 48) = true := by rw [beq_iff_eq]; exact hz2
    clear hlen
    go_enter Tryd.func53, Tryd.ntmps53
    go_wp2_with fail
    go_ret
    exact ⟨ret_int hr.out.symm, rfl⟩
  have hgood : (s.data.toList.all digB = true) → Hid (goodNum s.data.toList = true) := fun ha => Lib.hid (by
    unfold goodNum
    rw [ha, hlen, hh.out]
    have : byteAt s 0 ≠ 48 ∨ s.size = 1 := by
      by_cases h : s.size = 1
      · exact .inr h
      · left
        intro e
        apply hz
        rw [hb0.out] at e
        exact ⟨by omega, by rw [e]; rfl⟩
    rcases this with h | h
    · simp [h, h1]
    · simp [h])
  have hgood := Lib.hid hgood
  have hsz : s.size = 1 ∨ (1 < s.size ∧ ((s[0].toNat : Int) == 48) = false) := by
    by_cases h : s.size = 1
    · exact .inl h
    · exact .inr ⟨by omega, by rw [beq_eq_false_iff_ne]; exact fun e => hz ⟨by omega, e⟩⟩
  have hlen := Lib.hid hlen
  clear hz
  rcases hsz with hsz | ⟨hsz, hsz2⟩
  all_goals
    try have hsz : s.size < 2 := by omega
    go_enter Tryd.func53, Tryd.ntmps53
    go_wp2_with fail
    go_loop [5, 6] (fun n i => ∃ j : Nat, j ≤ s.size ∧ i = .int .i64 j ∧ n = .int .i64 (decVal (s.data.toList.take j)) ∧ Hid (∀ q, q < j → digB (byteAt s q) = true)) (fun _ i => s.size - (intOf i).toNat)
    case atStart => exact ⟨0, Nat.zero_le _, rfl, rfl, Lib.hid (fun _ h => absurd h (Nat.not_lt_zero _))⟩
    case round =>
      obtain ⟨j, hj, rfl, rfl, hall⟩ := hrel
      have hdl : (s.data.toList.take j).all digB = true := List.all_eq_true.2 fun c hc => by
        obtain ⟨q, hq, rfl⟩ := List.getElem_of_mem hc
        have hq2 : q < j := by simp at hq; omega
        have := hall.out q hq2
        unfold byteAt at this
        rw [List.getD_eq_getElem?_getD, List.getElem?_eq_getElem (by simp at hq ⊢; omega)] at this
        simpa using this
      have hlt10 := decVal_lt _ hdl
      have hp : 10 ^ (s.data.toList.take j).length ≤ 10 ^ 10 := Nat.pow_le_pow_right (by decide) (by simp; omega)
      have hbd : decVal (s.data.toList.take j) < 10000000000 := Nat.lt_of_lt_of_le hlt10 hp
      clear hlt10 hp hdl
      by_cases hlt : j < s.size
      · have hsn := Lib.hid (show decVal (s.data.toList.take (j + 1)) = decVal (s.data.toList.take j) * 10 + (s[j].toNat - 48) by rw [take_succ_byte s j hlt, decVal_snoc, byteAt_eq s j hlt])
        have hcb : s[j].toNat < 256 := UInt8.toNat_lt _
        have hdg := Lib.hid (show digB (byteAt s j) = true ↔ 48 ≤ s[j].toNat ∧ s[j].toNat ≤ 57 by rw [digB_iff, byteAt_eq s j hlt])
        have hno := Lib.hid (show ¬ (48 ≤ s[j].toNat ∧ s[j].toNat ≤ 57) → numR s.data.toList most = -1 from fun h => numR_none (.inl (by
          cases hg : goodNum s.data.toList with
          | false => rfl
          | true =>
            simp only [goodNum, Bool.and_eq_true] at hg
            have := List.all_eq_true.1 hg.1.1 _ (byte_mem hlt)
            exact absurd (hdg.out.1 this) h)))
        generalize decVal (s.data.toList.take j) = m at *
        by_cases ha : s[j].toNat < 48
        · have hr := Lib.hid (hno.out (by omega))
          go_wp2_with fail
          go_ret
          exact ⟨ret_int hr.out.symm, rfl⟩
        · by_cases hb : 57 < s[j].toNat
          · have hr := Lib.hid (hno.out (by omega))
            go_wp2_with fail
            go_ret
            exact ⟨ret_int hr.out.symm, rfl⟩
          · have hall2 := Lib.hid (show ∀ q, q < j + 1 → digB (byteAt s q) = true from fun q hq => by
              rcases Nat.lt_succ_iff_lt_or_eq.1 hq with h' | rfl
              · exact hall.out q h'
              · exact hdg.out.2 ⟨by omega, by omega⟩)
            go_wp2_with fail
            go_round
            case rel => exact ⟨j + 1, hlt, by go_num, by rw [hsn.out]; exact int_eq2 (by omega), hall2⟩
            case measure => simp [intOf]; omega
      · have hje : j = s.size := by omega
        have hg := hgood.out (List.all_eq_true.2 (all_bytes fun q hq => hall.out q (by omega)))
        have htk : s.data.toList.take j = s.data.toList := by rw [hje, take_all]
        rw [htk] at hbd ⊢
        have hr := Lib.hid (numR_some (most := most) hg.out (by rw [hlen.out]; exact h10))
        have hge : ¬ ((j : Int) < (s.size : Int)) := by omega
        clear htk hje
        generalize decVal s.data.toList = m at *
        by_cases hm : (m : Int) ≤ most
        · go_wp2_with fail
          go_ret
          exact ⟨ret_int (by rw [hr.out, if_pos hm]), rfl⟩
        · go_wp2_with fail
          go_ret
          exact ⟨ret_int (by rw [hr.out, if_neg (by omega)]), rfl⟩
end Go.Proofs.YtmjbhglmlbgkmaaDoor
