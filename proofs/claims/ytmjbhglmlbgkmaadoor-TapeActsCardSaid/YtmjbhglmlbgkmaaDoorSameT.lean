/- SameTexts, walked. -/
import Derived.Test.YtmjbhglmlbgkmaaDoorTexts
import Derived.Test.YtmjbhglmlbgkmaaDoorShelf
import Derived.Deep.LoopGhost
namespace Go.Proofs.YtmjbhglmlbgkmaaDoor
open Go.RowKit

theorem ret_bool' {a b : Bool} (h : a = b) : Ending.returned (.bool a) = .returned (.bool b) := by rw [h]
set_option maxRecDepth 100000 in
theorem sameTexts_any (x y : Value) (A B : List (List UInt8)) (w : World) (hx : TextsAt w x A) (hy : TextsAt w y B) :
    Calls Tryd.prog 28 #[x, y] w fun e w' => e = .returned (.bool (decide (A = B))) ∧ Below w.heap.size w w' := by
  obtain ⟨a, c, rfl, hm, _, ha⟩ := hx
  obtain ⟨a2, c2, rfl, hm2, _, ha2⟩ := hy
  unfold maxLen at hm hm2
  have ha := Lib.hid ha
  have ha2 := Lib.hid ha2
  by_cases hl : A.length = B.length
  case neg =>
    have hr := Lib.hid (show decide (A = B) = false from decide_eq_false (fun e => hl (by rw [e])))
    have hne : ((A.length : Int) != (B.length : Int)) = true := by rw [bne_iff_ne]; omega
    clear hl
    go_enter Tryd.func28, Tryd.ntmps28
    go_wp2_with fail
    go_ret
    exact ⟨ret_bool' hr.out.symm, Below.refl _ _⟩
  have hne : ((A.length : Int) != (B.length : Int)) = false := by rw [bne_eq_false_iff_eq]; omega
  have hl := Lib.hid hl
  go_enter Tryd.func28, Tryd.ntmps28
  go_wp2_with fail
  go_loopg [5] (A.length + 1) (fun g i wr => ∃ j n : Nat, i = .int .i64 j ∧ j ≤ A.length ∧ A.length - j + 1 ≤ g ∧ wr = w.drewN n ∧ Hid (∀ q (h : q < A.length) (h2 : q < B.length), q < j → A[q] = B[q]))
  case atStart => exact ⟨0, 0, rfl, Nat.zero_le _, by omega, rfl, Lib.hid (fun _ _ _ h => absurd h (Nat.not_lt_zero _))⟩
  case round =>
    obtain ⟨j, n, rfl, hj, hgj, rfl, hall⟩ := hrel
    have hl2 := hl.out
    by_cases hlt : j < A.length
    · obtain ⟨b, o, rfl, h0⟩ := ha.out j hlt
      obtain ⟨b2, o2, rfl, k0⟩ := ha2.out j (by omega)
      have hk0 : (0 : Int) ≤ (j : Int) := by omega
      have hk1 : (j : Int) < (A.length : Int) := by omega
      have hk2 : (j : Int) < (B.length : Int) := by omega
      have hjB : j < B.length := by omega
      clear hl2
      by_cases he : A[j] = B[j]
      · have hb : ((bs A[j]).toList == (bs B[j]).toList) = true := by rw [he]; exact beq_self_eq_true _
        have hb2 : ((bs A[j]).toList != (bs B[j]).toList) = false := by rw [he]; exact bne_self_eq_false _
        have hall2 := Lib.hid (show ∀ q (h : q < A.length) (h2 : q < B.length), q < j + 1 → A[q] = B[q] from fun q h h2 hq => by
          rcases Nat.lt_succ_iff_lt_or_eq.1 hq with h' | rfl
          · exact hall.out q h h2 h'
          · exact he)
        generalize bs A[j] = sa at *
        generalize bs B[j] = sb at *
        clear he
        go_wp2_with fail
        go_quiet (fail)
        go_wp2_with fail
        go_roundg (A.length - j)
        case measure => omega
        case rel => exact ⟨j + 1, _, by simp, hlt, by omega, rfl, hall2⟩
      · have hb : ((bs A[j]).toList == (bs B[j]).toList) = false := by rw [toList_data, toList_data, bs_list, bs_list, beq_eq_false_iff_ne]; exact he
        have hr := Lib.hid (show decide (A = B) = false from decide_eq_false (fun e => he (by subst e; rfl)))
        generalize bs A[j] = sa at *
        generalize bs B[j] = sb at *
        clear he
        go_wp2_with fail
        go_quiet (fail)
        go_wp2_with fail
        go_ret
        exact ⟨ret_bool' hr.out.symm, below_drawn (below_drawn (Below.refl _ _) _) _⟩
    · have hr := Lib.hid (show decide (A = B) = true from decide_eq_true (List.ext_getElem hl2 fun i h1 h2 => hall.out i h1 h2 (by omega)))
      have hge : ¬ ((j : Int) < (A.length : Int)) := by omega
      clear hl2
      go_wp2_with fail
      go_ret
      exact ⟨ret_bool' hr.out.symm, below_drawn (Below.refl _ _) _⟩

end Go.Proofs.YtmjbhglmlbgkmaaDoor
