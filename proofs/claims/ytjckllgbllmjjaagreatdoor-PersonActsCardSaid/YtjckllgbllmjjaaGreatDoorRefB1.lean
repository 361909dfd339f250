/- The reference's people, walked: PersonError, Find. -/
import Derived.Test.YtjckllgbllmjjaaGreatDoorRefB0
import Derived.Test.YtjckllgbllmjjaaGreatDoorRefW2
namespace Go.Proofs.YtjckllgbllmjjaaGreatDoor
open Go.RowKit

set_option maxRecDepth 100000 in
theorem errR_person (n : List UInt8) (k ep : Int) (o : Bool) (w : World) (hn : n.length ≤ maxLen) :
    Calls Tryz.prog 8 #[.agg #[.string (bs n), .int .i64 k, .int .i64 ep, .bool o]] w fun e w' => e = .returned (.int .i64 (checkOf n k ep : Nat)) ∧ Below w.heap.size w w' := by
  have hB : Below w.heap.size w (w.alloc (.cells #[.string (bs n), .int .i64 k, .int .i64 ep, .bool o] 24)) := (Below.refl _ _).alloc (Nat.le_refl _) _
  have hnw := fun wx => isNameR_any (bs n) wx (by rw [bs_size]; exact hn)
  have hkw := fun wx => isKey_any k wx
  rw [bs_list] at hnw
  have c0 : (w.alloc (.cells #[.string (bs n), .int .i64 k, .int .i64 ep, .bool o] 24)).cell? ⟨w.heap.size, 0, none⟩ = some (.string (bs n)) := by simp
  have c1 : (w.alloc (.cells #[.string (bs n), .int .i64 k, .int .i64 ep, .bool o] 24)).cell? ⟨w.heap.size, 1, none⟩ = some (.int .i64 k) := by simp
  have c2 : (w.alloc (.cells #[.string (bs n), .int .i64 k, .int .i64 ep, .bool o] 24)).cell? ⟨w.heap.size, 2, none⟩ = some (.int .i64 ep) := by simp
  have hcase : (isName n = false ∧ isKey k = false ∧ checkOf n k ep = 4) ∨ (isName n = false ∧ isKey k = true ∧ checkOf n k ep = 4) ∨ (isName n = true ∧ isKey k = false ∧ checkOf n k ep = 10) ∨ (isName n = true ∧ isKey k = true ∧ checkOf n k ep = 2 ∧ ep < 1) ∨ (isName n = true ∧ isKey k = true ∧ checkOf n k ep = 2 ∧ 1 ≤ ep ∧ 1073741824 < ep) ∨ (isName n = true ∧ isKey k = true ∧ checkOf n k ep = 0 ∧ 1 ≤ ep ∧ ep ≤ 1073741824) := by
    unfold checkOf
    cases isName n <;> cases isKey k <;> simp
    omega
  generalize checkOf n k ep = r at *
  rcases hcase with ⟨h1, h2, rfl⟩ | ⟨h1, h2, rfl⟩ | ⟨h1, h2, rfl⟩ | ⟨h1, h2, rfl, h3⟩ | ⟨h1, h2, rfl, h3, h4⟩ | ⟨h1, h2, rfl, h3, h4⟩
  all_goals
    rw [h1] at hnw
    rw [h2] at hkw
    clear h1 h2
    have hnH := Lib.hid hnw
    have hkH := Lib.hid hkw
    clear hnw hkw
    go_enter Tryz.func8, Tryz.ntmps8
    go_wp2_with fail
    refine (hnH.out _).mono ?_
    rintro e w' ⟨rfl, rfl⟩
    go_wp2_with fail
    refine (hkH.out _).mono ?_
    rintro e w' ⟨rfl, rfl⟩
    go_wp2_with fail
    go_ret
    exact ⟨rfl, hB⟩

theorem bs_beq_true {l d : List UInt8} (h : l = d) : ((bs l).toList == (bs d).toList) = true := by rw [h]; exact beq_self_eq_true _
theorem bs_beq_ne {l d : List UInt8} (h : l ≠ d) : ((bs l).toList == (bs d).toList) = false := by
  rw [toList_data, toList_data, bs_list, bs_list]
  exact beq_eq_false_iff_ne.2 h
set_option maxRecDepth 100000 in
theorem findR_any (base b : Nat) (L : List Per) (n : List UInt8) (w : World) (hB : RefAt w base b L) (hm : L.length ≤ 1000) :
    Calls Tryz.prog 19 #[.pointer (some ⟨b, 0, none⟩), .string (bs n)] w fun e w' => e = .returned (.int .i64 (findIx L n)) ∧ Below w.heap.size w w' := by
  obtain ⟨v, hc, ho, _, _⟩ := hB.at0
  obtain ⟨⟨a, c, rfl, hm2, ha⟩, _⟩ := persAt_of_ownsRow (by unfold maxLen; omega) ho
  have ha := Lib.hid ha
  clear ho
  go_enter Tryz.func19, Tryz.ntmps19
  go_wp2_with fail
  go_loopw [5] (fun i wr => ∃ (j m : Nat), j ≤ L.length ∧ i = .int .i64 j ∧ wr = w.drewN m ∧ Hid (∀ q (h : q < L.length), q < j → L[q].name ≠ n)) (fun i _ => L.length - (intOf i).toNat)
  case atStart => exact ⟨0, 0, Nat.zero_le _, rfl, rfl, Lib.hid (fun _ _ h => absurd h (Nat.not_lt_zero _))⟩
  case round =>
    obtain ⟨j, m, hj, rfl, rfl, hall⟩ := hrel
    by_cases hlt : j < L.length
    · obtain ⟨bb, o, rfl, h0, _⟩ := ha.out j hlt
      by_cases he : L[j].name = n
      · have hr := Lib.hid (show findIx L n = (j : Int) by unfold findIx; rw [idxP_at hlt hall.out he])
        have e1 := bs_beq_true he
        clear he
        go_wp2_with fail
        go_ret
        exact ⟨ret_int hr.out.symm, below_drawn (Below.refl _ _) _⟩
      · have hall2 := Lib.hid (show ∀ q (h : q < L.length), q < j + 1 → L[q].name ≠ n from fun q h hq => by
          rcases Nat.lt_succ_iff_lt_or_eq.1 hq with h' | rfl
          · exact hall.out q h h'
          · exact he)
        have e1 := bs_beq_ne he
        clear he
        go_wp2_with fail
        exact ⟨⟨j + 1, _, by omega, by simp, rfl, hall2⟩, by simp [intOf]; omega⟩
    · have hr := Lib.hid (show findIx L n = -1 by
        unfold findIx
        rw [idxP_not (fun p hp => by
          obtain ⟨q, hq, rfl⟩ := List.getElem_of_mem hp
          exact hall.out q hq (by omega))])
      have hge : ¬ ((j : Int) < (L.length : Int)) := by omega
      go_wp2_with fail
      go_ret
      exact ⟨ret_int hr.out.symm, below_drawn (Below.refl _ _) _⟩
end Go.Proofs.YtjckllgbllmjjaaGreatDoor
