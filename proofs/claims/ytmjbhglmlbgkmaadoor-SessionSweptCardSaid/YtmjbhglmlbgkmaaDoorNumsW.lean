/- SameInts, InInts: walked. -/
import Derived.Test.YtmjbhglmlbgkmaaDoorSesA
namespace Go.Proofs.YtmjbhglmlbgkmaaDoor
open Go.RowKit

/-- A slice of numbers. -/
def NumsAt (w : World) (v : Value) (zs : List Int) : Prop := ∃ a c, v = .slice a zs.length c ∧ zs.length ≤ maxLen ∧ ∀ i (h : i < zs.length), ∃ b o, a = some ⟨b, o, none⟩ ∧ w.cell? ⟨b, o + i, none⟩ = some (.int .i64 zs[i])
theorem NumsAt.below {w w' : World} {v : Value} {zs : List Int} (h : NumsAt w v zs) (hb : Below w.heap.size w w') : NumsAt w' v zs := by
  obtain ⟨a, c, h1, h2, h3⟩ := h
  refine ⟨a, c, h1, h2, fun i hi => ?_⟩
  obtain ⟨b, o, h4, h5⟩ := h3 i hi
  exact ⟨b, o, h4, cell_below hb h5⟩
theorem IntRow.nums {w : World} {base : Nat} {v : Value} {zs : List Int} (h : IntRow w base v zs) (hm : zs.length ≤ maxLen) : NumsAt w v zs := by
  obtain ⟨a, c, rfl⟩ := h.sl
  exact ⟨a, c, rfl, hm, fun i hi => h.at_ i hi⟩
set_option maxRecDepth 100000 in
theorem sameInts_any (x y : Value) (A B : List Int) (w : World) (hx : NumsAt w x A) (hy : NumsAt w y B) :
    Calls Tryd.prog 14 #[x, y] w fun e w' => e = .returned (.bool (decide (A = B))) ∧ Below w.heap.size w w' := by
  obtain ⟨a, c, rfl, hm, ha⟩ := hx
  obtain ⟨a2, c2, rfl, hm2, ha2⟩ := hy
  unfold maxLen at hm hm2
  have ha := Lib.hid ha
  have ha2 := Lib.hid ha2
  by_cases hl : A.length = B.length
  case neg =>
    have hr := Lib.hid (show decide (A = B) = false from decide_eq_false (fun e => hl (by rw [e])))
    have hne : ((A.length : Int) != (B.length : Int)) = true := by rw [bne_iff_ne]; omega
    clear hl
    go_enter Tryd.func14, Tryd.ntmps14
    go_wp2_with fail
    go_ret
    exact ⟨ret_bool hr.out.symm, Below.refl _ _⟩
  have hne : ((A.length : Int) != (B.length : Int)) = false := by rw [bne_eq_false_iff_eq]; omega
  have hl := Lib.hid hl
  go_enter Tryd.func14, Tryd.ntmps14
  go_wp2_with fail
  go_loopg [5] (A.length + 1) (fun g i wr => ∃ j n : Nat, i = .int .i64 j ∧ j ≤ A.length ∧ A.length - j + 1 ≤ g ∧ wr = w.drewN n ∧ Hid (∀ q (h : q < A.length) (h2 : q < B.length), q < j → A[q] = B[q]))
  case atStart => exact ⟨0, 0, rfl, Nat.zero_le _, by omega, rfl, Lib.hid (fun _ _ _ h => absurd h (Nat.not_lt_zero _))⟩
  case round =>
    obtain ⟨j, n, rfl, hj, hgj, rfl, hall⟩ := hrel
    have hl2 := hl.out
    by_cases hlt : j < A.length
    · obtain ⟨b, o, rfl, h0⟩ := ha.out j hlt
      obtain ⟨b2, o2, rfl, k0⟩ := ha2.out j (by omega)
      have hk0 : (0 : Int) ≤ (j : Int) := by omega
      have hk1 : (j : Int) < (A.length : Int) := by omega
      have hk2 : (j : Int) < (B.length : Int) := by omega
      have hjB : j < B.length := by omega
      clear hl2
      by_cases he : A[j] = B[j]
      · have hb2 : (A[j] != B[j]) = false := by rw [he]; exact bne_self_eq_false _
        have hall2 := Lib.hid (show ∀ q (h : q < A.length) (h2 : q < B.length), q < j + 1 → A[q] = B[q] from fun q h h2 hq => by
          rcases Nat.lt_succ_iff_lt_or_eq.1 hq with h' | rfl
          · exact hall.out q h h2 h'
          · exact he)
        generalize A[j] = sa at *
        generalize B[j] = sb at *
        clear he
        go_wp2_with fail
        go_quiet (fail)
        go_wp2_with fail
        go_roundg (A.length - j)
        case measure => omega
        case rel => exact ⟨j + 1, _, by simp, hlt, by omega, rfl, hall2⟩
      · have hb : (A[j] != B[j]) = true := by rw [bne_iff_ne]; exact he
        have hr := Lib.hid (show decide (A = B) = false from decide_eq_false (fun e => he (by subst e; rfl)))
        generalize A[j] = sa at *
        generalize B[j] = sb at *
        clear he
        go_wp2_with fail
        go_quiet (fail)
        go_wp2_with fail
        go_ret
        exact ⟨ret_bool hr.out.symm, below_drawn (below_drawn (Below.refl _ _) _) _⟩
    · have hr := Lib.hid (show decide (A = B) = true from decide_eq_true (List.ext_getElem hl2 fun i h1 h2 => hall.out i h1 h2 (by omega)))
      have hge : ¬ ((j : Int) < (A.length : Int)) := by omega
      clear hl2
      go_wp2_with fail
      go_ret
      exact ⟨ret_bool hr.out.symm, below_drawn (Below.refl _ _) _⟩
set_option maxRecDepth 100000 in
theorem inInts_any (n : Int) (x : Value) (A : List Int) (w : World) (hx : NumsAt w x A) :
    Calls Tryd.prog 15 #[.int .i64 n, x] w fun e w' => e = .returned (.bool (decide (n ∈ A))) ∧ Below w.heap.size w w' := by
  obtain ⟨a, c, rfl, hm, ha⟩ := hx
  unfold maxLen at hm
  have ha := Lib.hid ha
  go_enter Tryd.func15, Tryd.ntmps15
  go_wp2_with fail
  go_loopg [5] (A.length + 1) (fun g i wr => ∃ j : Nat, i = .int .i64 j ∧ j ≤ A.length ∧ A.length - j + 1 ≤ g ∧ wr = w ∧ Hid (∀ q (h : q < A.length), q < j → A[q] ≠ n))
  case atStart => exact ⟨0, rfl, Nat.zero_le _, by omega, rfl, Lib.hid (fun _ _ h => absurd h (Nat.not_lt_zero _))⟩
  case round =>
    obtain ⟨j, rfl, hj, hgj, rfl, hall⟩ := hrel
    by_cases hlt : j < A.length
    · obtain ⟨b, o, rfl, h0⟩ := ha.out j hlt
      have hk0 : (0 : Int) ≤ (j : Int) := by omega
      have hk1 : (j : Int) < (A.length : Int) := by omega
      have hmem := List.getElem_mem hlt
      by_cases he : A[j] = n
      · have hr := Lib.hid (show decide (n ∈ A) = true from decide_eq_true (by rw [← he]; exact hmem))
        have hb : (A[j] == n) = true := by rw [beq_iff_eq]; exact he
        generalize A[j] = sa at *
        clear he hmem
        go_wp2_with fail
        go_ret
        exact ⟨ret_bool hr.out.symm, Below.refl _ _⟩
      · have hb : (A[j] == n) = false := by rw [beq_eq_false_iff_ne]; exact he
        have hall2 := Lib.hid (show ∀ q (h : q < A.length), q < j + 1 → A[q] ≠ n from fun q h hq => by
          rcases Nat.lt_succ_iff_lt_or_eq.1 hq with h' | rfl
          · exact hall.out q h h'
          · exact he)
        generalize A[j] = sa at *
        clear he hmem
        go_wp2_with fail
        go_roundg (A.length - j)
        case measure => omega
        case rel => exact ⟨j + 1, by simp, hlt, by omega, rfl, hall2⟩
    · have hr := Lib.hid (show decide (n ∈ A) = false from decide_eq_false (fun h => by
        obtain ⟨q, hq, e⟩ := List.getElem_of_mem h
        exact hall.out q hq (by omega) e))
      have hge : ¬ ((j : Int) < (A.length : Int)) := by omega
      go_wp2_with fail
      go_ret
      exact ⟨ret_bool hr.out.symm, Below.refl _ _⟩
end Go.Proofs.YtmjbhglmlbgkmaaDoor
