/- The walks of the reference's texts: names, words, numbers, cut, glue. -/
import Derived.Test.YtjckllgbllmjjaaGreatDoorRefW
import Derived.Deep.LoopGhost
namespace Go.Proofs.YtjckllgbllmjjaaGreatDoor
open Go.RowKit Go.Maps

theorem all_bytes {p : UInt8 → Bool} {s : ByteArray} (h : ∀ q, q < s.size → p (byteAt s q) = true) : ∀ c ∈ s.data.toList, p c = true := by
  intro c hc
  obtain ⟨i, hi, rfl⟩ := List.getElem_of_mem hc
  have := h i (by simpa using hi)
  unfold byteAt at this
  rwa [List.getD_eq_getElem?_getD, List.getElem?_eq_getElem hi] at this
theorem byte_mem {s : ByteArray} {j : Nat} (h : j < s.size) : byteAt s j ∈ s.data.toList := by
  unfold byteAt
  have hi : j < s.data.toList.length := by simpa using h
  rw [List.getD_eq_getElem?_getD, List.getElem?_eq_getElem hi]
  exact List.getElem_mem hi
set_option maxRecDepth 100000 in
theorem isNameR_any (s : ByteArray) (w : World) (hs : s.size ≤ maxLen) :
    Calls Tryz.prog 26 #[.string s] w fun e w' => e = .returned (.bool (isName s.data.toList)) ∧ w = w' := by
  unfold maxLen at hs
  have hlen : s.data.toList.length = s.size := Array.length_toList
  go_enter Tryz.func26, Tryz.ntmps26
  go_wp2_with fail
  go_loop [3] (fun i => ∃ j : Nat, j ≤ s.size ∧ i = .int .i64 j ∧ Hid (∀ q, q < j → smallB (byteAt s q) = true)) (fun i => s.size - (intOf i).toNat)
  case atStart => exact ⟨0, Nat.zero_le _, rfl, Lib.hid (fun _ h => absurd h (Nat.not_lt_zero _))⟩
  case round =>
    obtain ⟨j, hj, rfl, hall⟩ := hrel
    by_cases hlt : j < s.size
    · have hsm := Lib.hid (fun wx => small_any s[j] wx)
      cases hb : smallB (byteAt s j) with
      | false =>
        rw [← byteAt_eq s j hlt, hb, byteAt_eq s j hlt] at hsm
        have hr := Lib.hid (show isName s.data.toList = false by
          cases hn : isName s.data.toList with
          | false => rfl
          | true =>
            have := ((isName_iff _).1 hn).2.2 _ (byte_mem hlt)
            rw [hb] at this
            cases this)
        clear hb
        go_wp2_with (go_at_call 34; refine (hsm.out _).mono ?_; rintro e w' ⟨rfl, rfl⟩)
        go_ret
        exact ⟨ret_bool2 hr.out.symm, rfl⟩
      | true =>
        rw [← byteAt_eq s j hlt, hb, byteAt_eq s j hlt] at hsm
        have hall2 := Lib.hid (show ∀ q, q < j + 1 → smallB (byteAt s q) = true from fun q hq => by
          rcases Nat.lt_succ_iff_lt_or_eq.1 hq with h' | rfl
          · exact hall.out q h'
          · exact hb)
        clear hb
        go_wp2_with (go_at_call 34; refine (hsm.out _).mono ?_; rintro e w' ⟨rfl, rfl⟩)
        go_round
        case rel => exact ⟨j + 1, hlt, by go_num, hall2⟩
        case measure => simp [intOf]; omega
    · have hr := Lib.hid (show isName s.data.toList = (decide (1 ≤ s.size) && decide (s.size ≤ 8)) by
        have h1 : s.data.toList.all smallB = true := List.all_eq_true.2 (all_bytes fun q hq => hall.out q (by omega))
        unfold isName
        rw [h1, hlen, Bool.and_true])
      clear hlen
      by_cases h1 : 1 ≤ s.size <;> by_cases h8 : s.size ≤ 8
      all_goals first | (exfalso; omega) | skip
      all_goals
        go_wp2_with fail
        go_ret
        exact ⟨ret_bool2 (by rw [hr.out]; simp [h1, h8]; try omega), rfl⟩
/-- What the reference's NumberOf answers (-1: none). -/
def numR (l : List UInt8) (most : Int) : Int := match numOf l with
  | some n => if (n : Int) ≤ most then (n : Int) else -1
  | none => -1
theorem numR_number (l : List UInt8) (most : Int) : numR l most = if (number l most).2 = true then (number l most).1 else -1 := by
  unfold numR number
  cases numOf l with
  | none => rfl
  | some n =>
    by_cases h : (n : Int) ≤ most <;> simp [h]
theorem numR_none {l : List UInt8} {most : Int} (h : goodNum l = false ∨ 10 < l.length) : numR l most = -1 := by
  unfold numR numOf
  rw [if_neg]
  simp only [Bool.and_eq_true, decide_eq_true_eq]
  rintro ⟨h1, h2⟩
  rcases h with h | h
  · rw [h1] at h; cases h
  · omega
theorem numR_some {l : List UInt8} {most : Int} (h : goodNum l = true) (h2 : l.length ≤ 10) : numR l most = if (decVal l : Int) ≤ most then (decVal l : Int) else -1 := by
  unfold numR numOf
  rw [if_pos (by simp [h, h2])]
theorem head_byte (s : ByteArray) (h : 0 < s.size) : s.data.toList.head? = some (byteAt s 0) := by
  have hi : 0 < s.data.toList.length := by simpa using h
  unfold byteAt
  rw [List.head?_eq_getElem?, List.getD_eq_getElem?_getD, List.getElem?_eq_getElem hi]
  rfl
theorem int_eq2 {k : IntKind} {a b : Int} (h : a = b) : Value.int k a = .int k b := by rw [h]
end Go.Proofs.YtjckllgbllmjjaaGreatDoor
