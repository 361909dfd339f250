/- LongFloors, walked. -/
import Derived.Test.YtmjbhglmlbgkmaaDoorFloW
namespace Go.Proofs.YtmjbhglmlbgkmaaDoor
open Go.RowKit

def longF (L : List Flo) : Bool := decide (25 < L.length) || L.any fun f => decide (20 < f.who.length)
def longI (L : List Flo) : Int := if longF L = true then 1 else 0
theorem longF_false {L : List Flo} (h : longF L = false) : L.length ≤ 25 ∧ ∀ f ∈ L, f.who.length ≤ 20 := by
  unfold longF at h
  rw [Bool.or_eq_false_iff, List.any_eq_false] at h
  refine ⟨by have := of_decide_eq_false h.1; omega, fun f hf => ?_⟩
  have := h.2 f hf
  simp at this
  exact this
set_option maxRecDepth 100000 in
theorem longf_flo (x : Value) (A : List Flo) (w : World) (hx : FloorsAt w x A) (hm : ∀ f ∈ A, f.who.length ≤ maxLen) :
    Calls Tryd.prog 8 #[x] w fun e w' => e = .returned (.int .i64 (longI A)) ∧ Below w.heap.size w w' := by
  obtain ⟨a, c, rfl, hml, _, ha⟩ := hx
  unfold maxLen at hml
  by_cases h80 : 25 < A.length
  · have hr := Lib.hid (show longI A = 1 by unfold longI longF; rw [decide_eq_true h80]; rfl)
    go_enter Tryd.func8, Tryd.ntmps8
    go_wp2_with fail
    go_ret
    exact ⟨ret_int hr.out.symm, Below.refl _ _⟩
  · have hr := Lib.hid (show longF A = A.any fun f => decide (20 < f.who.length) by unfold longF; rw [decide_eq_false h80]; rfl)
    go_enter Tryd.func8, Tryd.ntmps8
    go_wp2_with fail
    go_loopw [3] (fun i wr => ∃ j : Nat, j ≤ A.length ∧ i = .int .i64 j ∧ wr = w ∧ ∀ q (h : q < A.length), q < j → ¬ (20 < A[q].who.length)) (fun i _ => A.length - (intOf i).toNat)
    case atStart => exact ⟨0, Nat.zero_le _, rfl, rfl, fun q _ h => by omega⟩
    case round =>
      obtain ⟨j, hj, rfl, rfl, hall⟩ := hrel
      have hall := Lib.hid hall
      by_cases hlt : j < A.length
      · obtain ⟨b, o, rfl, h0, h1⟩ := ha j hlt
        have hs0 := bs_size A[j].who
        have hmem := List.getElem_mem hlt
        have h4 := hm _ hmem
        unfold maxLen at h4
        by_cases hk : 20 < A[j].who.length
        · have hr2 := Lib.hid (show longI A = 1 by unfold longI; rw [hr.out, if_pos (by rw [List.any_eq_true]; exact ⟨_, hmem, decide_eq_true hk⟩)])
          clear hmem
          go_wp2
          go_ret
          exact ⟨ret_int hr2.out.symm, Below.refl _ _⟩
        · clear hmem
          have hall2 := Lib.hid (show ∀ q (h : q < A.length), q < j + 1 → ¬ (20 < A[q].who.length) from fun q h hq => by
            rcases Nat.lt_succ_iff_lt_or_eq.1 hq with h' | rfl
            · exact hall.out q h h'
            · exact hk)
          go_wp2
          exact ⟨⟨j + 1, by omega, by simp, trivial, hall2.out⟩, by simp [intOf]; omega⟩
      · have hr2 := Lib.hid (show longI A = 0 by
          unfold longI
          rw [hr.out, if_neg]
          rw [List.any_eq_true]
          rintro ⟨y, hy, h⟩
          obtain ⟨q, hq, rfl⟩ := List.getElem_of_mem hy
          exact hall.out q hq (by omega) (of_decide_eq_true h))
        go_wp2
        go_ret
        exact ⟨ret_int hr2.out.symm, Below.refl _ _⟩
end Go.Proofs.YtmjbhglmlbgkmaaDoor
