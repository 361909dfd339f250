/- SameTexts, longWords, and the closed fact sealed. -/
import Derived.Test.YtgainbpflncgcaaGreatDoorLook
import Derived.Test.YtgainbpflncgcaaGreatDoorCode
namespace Go.Proofs.YtgainbpflncgcaaGreatDoor
open Go.RowKit

theorem ret_bool' {a b : Bool} (h : a = b) : Ending.returned (.bool a) = .returned (.bool b) := by rw [h]
set_option maxRecDepth 100000 in
theorem sameTexts_any (x y : Value) (A B : List (List UInt8)) (w : World) (hx : TextsAt w x A) (hy : TextsAt w y B) :
    Calls Tryz.prog 31 #[x, y] w fun e w' => e = .returned (.bool (decide (A = B))) ∧ Below w.heap.size w w' := by
  obtain ⟨a, c, rfl, hm, _, ha⟩ := hx
  obtain ⟨a2, c2, rfl, hm2, _, ha2⟩ := hy
  unfold maxLen at hm hm2
  have ha := Lib.hid ha
  have ha2 := Lib.hid ha2
  by_cases hl : A.length = B.length
  case neg =>
    have hr := Lib.hid (show decide (A = B) = false from decide_eq_false (fun e => hl (by rw [e])))
    have hne : ((A.length : Int) != (B.length : Int)) = true := by rw [bne_iff_ne]; omega
    clear hl
    go_enter Tryz.func31, Tryz.ntmps31
    go_wp2_with fail
    go_ret
    exact ⟨ret_bool' hr.out.symm, Below.refl _ _⟩
  have hne : ((A.length : Int) != (B.length : Int)) = false := by rw [bne_eq_false_iff_eq]; omega
  have hl := Lib.hid hl
  go_enter Tryz.func31, Tryz.ntmps31
  go_wp2_with fail
  go_loopg [5] (A.length + 1) (fun g i wr => ∃ j n : Nat, i = .int .i64 j ∧ j ≤ A.length ∧ A.length - j + 1 ≤ g ∧ wr = w.drewN n ∧ Hid (∀ q (h : q < A.length) (h2 : q < B.length), q < j → A[q] = B[q]))
  case atStart => exact ⟨0, 0, rfl, Nat.zero_le _, by omega, rfl, Lib.hid (fun _ _ _ h => absurd h (Nat.not_lt_zero _))⟩
  case round =>
    obtain ⟨j, n, rfl, hj, hgj, rfl, hall⟩ := hrel
    have hl2 := hl.out
    by_cases hlt : j < A.length
    · obtain ⟨b, o, rfl, h0⟩ := ha.out j hlt
      obtain ⟨b2, o2, rfl, k0⟩ := ha2.out j (by omega)
      have hk0 : (0 : Int) ≤ (j : Int) := by omega
      have hk1 : (j : Int) < (A.length : Int) := by omega
      have hk2 : (j : Int) < (B.length : Int) := by omega
      have hjB : j < B.length := by omega
      clear hl2
      by_cases he : A[j] = B[j]
      · have hb : ((bs A[j]).toList == (bs B[j]).toList) = true := by rw [he]; exact beq_self_eq_true _
        have hb2 : ((bs A[j]).toList != (bs B[j]).toList) = false := by rw [he]; exact bne_self_eq_false _
        have hall2 := Lib.hid (show ∀ q (h : q < A.length) (h2 : q < B.length), q < j + 1 → A[q] = B[q] from fun q h h2 hq => by
          rcases Nat.lt_succ_iff_lt_or_eq.1 hq with h' | rfl
          · exact hall.out q h h2 h'
          · exact he)
        generalize bs A[j] = sa at *
        generalize bs B[j] = sb at *
        clear he
        go_wp2_with fail
        go_quiet (fail)
        go_wp2_with fail
        go_roundg (A.length - j)
        case measure => omega
        case rel => exact ⟨j + 1, _, by simp, hlt, by omega, rfl, hall2⟩
      · have hb : ((bs A[j]).toList == (bs B[j]).toList) = false := by rw [toList_data, toList_data, bs_list, bs_list, beq_eq_false_iff_ne]; exact he
        have hr := Lib.hid (show decide (A = B) = false from decide_eq_false (fun e => he (by subst e; rfl)))
        generalize bs A[j] = sa at *
        generalize bs B[j] = sb at *
        clear he
        go_wp2_with fail
        go_quiet (fail)
        go_wp2_with fail
        go_ret
        exact ⟨ret_bool' hr.out.symm, below_drawn (below_drawn (Below.refl _ _) _) _⟩
    · have hr := Lib.hid (show decide (A = B) = true from decide_eq_true (List.ext_getElem hl2 fun i h1 h2 => hall.out i h1 h2 (by omega)))
      have hge : ¬ ((j : Int) < (A.length : Int)) := by omega
      clear hl2
      go_wp2_with fail
      go_ret
      exact ⟨ret_bool' hr.out.symm, below_drawn (Below.refl _ _) _⟩

def longW (W : List (List UInt8)) : Bool := decide (15 < W.length) || W.any fun x => decide (30 < x.length)
set_option maxRecDepth 100000 in
theorem longWords_any (x : Value) (A : List (List UInt8)) (w : World) (hx : TextsAt w x A) (hl : ∀ q ∈ A, q.length ≤ maxLen) :
    Calls Tryz.prog 28 #[x] w fun e w' => e = .returned (.bool (longW A)) ∧ Below w.heap.size w w' := by
  obtain ⟨a, c, rfl, hm, _, ha⟩ := hx
  unfold maxLen at hm
  have hl := Lib.hid hl
  by_cases h15 : 15 < A.length
  · have hr := Lib.hid (show longW A = true by unfold longW; rw [decide_eq_true h15]; rfl)
    go_enter Tryz.func28, Tryz.ntmps28
    go_wp2_with fail
    go_ret
    exact ⟨ret_bool' hr.out.symm, Below.refl _ _⟩
  · have hr := Lib.hid (show longW A = A.any fun x => decide (30 < x.length) by unfold longW; rw [decide_eq_false h15]; rfl)
    have ha := Lib.hid ha
    go_enter Tryz.func28, Tryz.ntmps28
    go_wp2_with fail
    go_loopg [3] (A.length + 1) (fun g i wr => ∃ j : Nat, i = .int .i64 j ∧ j ≤ A.length ∧ A.length - j + 1 ≤ g ∧ wr = w ∧ Hid (∀ q (h : q < A.length), q < j → ¬ (30 < A[q].length)))
    case atStart => exact ⟨0, rfl, Nat.zero_le _, by omega, rfl, Lib.hid (fun _ _ h => absurd h (Nat.not_lt_zero _))⟩
    case round =>
      obtain ⟨j, rfl, hj, hgj, rfl, hall⟩ := hrel
      by_cases hlt : j < A.length
      · obtain ⟨b, o, rfl, h0⟩ := ha.out j hlt
        have hs0 := bs_size A[j]
        have h4 := hl.out _ (List.getElem_mem hlt)
        unfold maxLen at h4
        have hk1 : (j : Int) < (A.length : Int) := by omega
        by_cases hk : 30 < A[j].length
        · have hr2 := Lib.hid (show longW A = true by rw [hr.out, List.any_eq_true]; exact ⟨_, List.getElem_mem hlt, decide_eq_true hk⟩)
          go_wp2_with fail
          go_ret
          exact ⟨ret_bool' hr2.out.symm, Below.refl _ _⟩
        · have hall2 := Lib.hid (show ∀ q (h : q < A.length), q < j + 1 → ¬ (30 < A[q].length) from fun q h hq => by
            rcases Nat.lt_succ_iff_lt_or_eq.1 hq with h' | rfl
            · exact hall.out q h h'
            · exact hk)
          go_wp2_with fail
          go_roundg (A.length - j)
          case measure => omega
          case rel => exact ⟨j + 1, by simp, hlt, by omega, rfl, hall2⟩
      · have hr2 := Lib.hid (show longW A = false by
          rw [hr.out, List.any_eq_false]
          intro y hy
          obtain ⟨q, hq, rfl⟩ := List.getElem_of_mem hy
          have := hall.out q hq (by omega)
          simpa using this)
        have hge : ¬ ((j : Int) < (A.length : Int)) := by omega
        go_wp2_with fail
        go_ret
        exact ⟨ret_bool' hr2.out.symm, Below.refl _ _⟩

/-- The sentinels with their rows, and the library's variables. -/
structure LaidX (E : Nat → Addr) (w : World) : Prop where
  s : LaidS E w
  r : LaidR E w
theorem LaidX.below {E : Nat → Addr} {w w' : World} (h : LaidX E w) (hb : Below w.heap.size w w') : LaidX E w' := ⟨h.s.below hb, h.r.below hb⟩
def abW : List (List UInt8) := [[97], [98, 45, 49]]
theorem ab_make : makeOf 5 abW = (sealText 5 abW, 0, -1) := by decide +kernel
theorem ab_open : openOf 5 (sealText 5 abW) = (abW, 0) := open_of (by decide) (by decide) (by decide) (by decide)
theorem ab_wrong : (openOf 6 (sealText 5 abW)).2 = 9 := by decide +kernel
theorem ab_size : (bs (sealText 5 abW)).size ≤ 100 := by decide +kernel
theorem abAt (w : World) : TextsAt (w.alloc (.cells #[.string ⟨#[97]⟩, .string ⟨#[98, 45, 49]⟩] 9)) (.slice (some ⟨w.heap.size, 0, none⟩) 2 2) abW := by
  refine ⟨_, _, rfl, by decide, by decide, fun i hi => ⟨w.heap.size, 0, rfl, ?_⟩⟩
  have hi : i < 2 := hi
  match i, hi with
  | 0, _ => simp [abW, bs]
  | 1, _ => simp [abW, bs]
theorem ab_le : ∀ x ∈ abW, x.length ≤ maxLen := by
  intro x hx
  have : x.length ≤ 3 := by
    revert x
    decide
  unfold maxLen
  omega
set_option maxRecDepth 100000 in
theorem sealed_any {E : Nat → Addr} (w : World) (hL : LaidX E w) :
    Calls Tryz.prog 27 #[] w fun e w' => e = .returned (.bool true) ∧ Below w.heap.size w w' := by
  have hA : Below w.heap.size w (w.alloc (.cells #[.string ⟨#[97]⟩, .string ⟨#[98, 45, 49]⟩] 9)) := (Below.refl _ _).alloc (Nat.le_refl _) _
  have hmk := Lib.hid (make_any (E := E) 5 _ abW _ (hL.below hA).s (abAt w) ab_le)
  go_enter Tryz.func27, Tryz.ntmps27
  go_wp2_with fail
  refine hmk.out.mono ?_
  rintro e w1 ⟨ev, rfl, hev, hb1⟩
  rw [ab_make] at hev ⊢
  rcases hev with ⟨_, rfl⟩ | ⟨_, _, h1, _⟩
  case inr => exact absurd h1 (by decide)
  have hb1 := Lib.hid (below_trans hA hb1)
  have ho := Lib.hid (open_any (E := E) 5 (bs (sealText 5 abW)) w1 (hL.below hb1.out).s (Nat.le_trans ab_size (by decide)))
  have hlast := Lib.hid ab_size
  generalize hS : bs (sealText 5 abW) = S at *
  have hSd := Lib.hid (show S.data.toList = sealText 5 abW by rw [← hS]; rfl)
  clear hS
  rw [errV_zero]
  go_wp2_with fail
  refine ho.out.mono ?_
  rintro e w2 ⟨v, rfl, hv, hb2⟩
  rw [hSd.out, ab_open] at hv ⊢
  have hb2 := Lib.hid (below_trans hb1.out hb2)
  have hv := Lib.hid hv
  have ho6 := Lib.hid (open_any (E := E) 6 S w2 (hL.below hb2.out).s (Nat.le_trans hlast.out (by decide)))
  rw [errV_zero]
  go_wp2_with fail
  refine ho6.out.mono ?_
  rintro e w3 ⟨v3, rfl, _, hb3⟩
  rw [hSd.out, ab_wrong]
  have hv := Lib.hid (hv.out.below hb3)
  have hb3 := Lib.hid (below_trans hb2.out hb3)
  have hA3 : Below w3.heap.size w3 (w3.alloc (.cells #[.string ⟨#[97]⟩, .string ⟨#[98, 45, 49]⟩] 9)) := (Below.refl _ _).alloc (Nat.le_refl _) _
  have hst := sameTexts_any _ _ abW abW _ (hv.out.below hA3) (abAt w3)
  rw [show decide (abW = abW) = true from decide_eq_true rfl] at hst
  have hst := Lib.hid hst
  have hA3 := Lib.hid (below_trans hb3.out hA3)
  clear ho ho6 hmk
  simp only [errV]
  go_wp2_with fail
  refine hst.out.mono ?_
  rintro e w4 ⟨rfl, hb4⟩
  have hb4 := Lib.hid (below_trans hA3.out hb4)
  have hc9 := coded_any (E := E) 9 9 w4 (hL.below hb4.out).r (by decide)
  rw [show codedB 9 9 = true by decide] at hc9
  simp only [errV] at hc9
  have hc9 := Lib.hid hc9
  go_wp2_with fail
  refine hc9.out.mono ?_
  rintro e w5 ⟨rfl, hb5⟩
  have hb5 := Lib.hid (below_trans hb4.out hb5)
  go_wp2_with fail
  go_ret
  exact ⟨rfl, hb5.out⟩
end Go.Proofs.YtgainbpflncgcaaGreatDoor
