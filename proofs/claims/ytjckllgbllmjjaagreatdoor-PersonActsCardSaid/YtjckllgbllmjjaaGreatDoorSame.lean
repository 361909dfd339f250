/- SamePeople and longActs, walked. -/
import Derived.Test.YtjckllgbllmjjaaGreatDoorAll
namespace Go.Proofs.YtjckllgbllmjjaaGreatDoor
open Go.RowKit

set_option maxRecDepth 100000 in
theorem same_any (x y : Value) (L : List Per) (w : World) (hx : PersAt w x L) (hy : PersAt w y L) :
    Calls Tryz.prog 21 #[x, y] w fun e w' => e = .returned (.int .i64 1) ∧ Below w.heap.size w w' := by
  obtain ⟨a, c, rfl, hm, ha⟩ := hx
  obtain ⟨a2, c2, rfl, _, ha2⟩ := hy
  unfold maxLen at hm
  go_enter Tryz.func21, Tryz.ntmps21
  go_wp2_with fail
  go_loopw [5] (fun i wr => ∃ j n : Nat, j ≤ L.length ∧ i = .int .i64 j ∧ wr = w.drewN n) (fun i _ => L.length - (intOf i).toNat)
  case atStart => exact ⟨0, 0, Nat.zero_le _, rfl, rfl⟩
  case round =>
    obtain ⟨j, n, hj, rfl, rfl⟩ := hrel
    by_cases hlt : j < L.length
    · obtain ⟨b, o, rfl, h0, h1, h2, h3⟩ := ha j hlt
      obtain ⟨b2, o2, rfl, k0, k1, k2, k3⟩ := ha2 j hlt
      go_wp2
      go_quiet (fail)
      go_wp2
      exact ⟨⟨j + 1, _, by omega, by simp, rfl⟩, by simp [intOf]; omega⟩
    · have hje : j = L.length := by omega
      subst hje
      go_wp2
      go_ret
      exact ⟨rfl, below_drawn (Below.refl _ _) _⟩

/-- A slice of acts. -/
structure ActV where
  kind : List UInt8
  name : List UInt8
  key : Int
  is : Bool
def ActsAt (w : World) (v : Value) (A : List ActV) : Prop :=
  ∃ a c, v = .slice a A.length c ∧ A.length ≤ maxLen ∧ ∀ i (h : i < A.length), ∃ b o, a = some ⟨b, o, none⟩ ∧ w.cell? ⟨b, o + i * 4, none⟩ = some (.string (bs A[i].kind)) ∧ w.cell? ⟨b, o + i * 4 + 1, none⟩ = some (.string (bs A[i].name)) ∧ w.cell? ⟨b, o + i * 4 + 2, none⟩ = some (.int .i64 A[i].key) ∧ w.cell? ⟨b, o + i * 4 + 3, none⟩ = some (.bool A[i].is) ∧ A[i].kind.length ≤ maxLen ∧ A[i].name.length ≤ maxLen
theorem ActsAt.below {w w' : World} {v : Value} {A : List ActV} (h : ActsAt w v A) (hb : Below w.heap.size w w') : ActsAt w' v A := by
  obtain ⟨a, c, h1, h2, h3⟩ := h
  refine ⟨a, c, h1, h2, fun i hi => ?_⟩
  obtain ⟨b, o, h4, h5, h6, h7, h8, h9⟩ := h3 i hi
  exact ⟨b, o, h4, cell_below hb h5, cell_below hb h6, cell_below hb h7, cell_below hb h8, h9⟩
def longOf (A : List ActV) : Bool := decide (80 < A.length) || A.any fun a => decide (20 < a.kind.length) || decide (20 < a.name.length)
set_option maxRecDepth 100000 in
theorem long_any (x : Value) (A : List ActV) (w : World) (hx : ActsAt w x A) :
    Calls Tryz.prog 5 #[x] w fun e w' => e = .returned (.bool (longOf A)) ∧ Below w.heap.size w w' := by
  obtain ⟨a, c, rfl, hm, ha⟩ := hx
  unfold maxLen at hm
  by_cases h80 : 80 < A.length
  · have hr := Lib.hid (show longOf A = true by unfold longOf; rw [decide_eq_true h80]; rfl)
    go_enter Tryz.func5, Tryz.ntmps5
    go_wp2_with fail
    go_ret
    exact ⟨ret_bool hr.out.symm, Below.refl _ _⟩
  · have hr := Lib.hid (show longOf A = A.any fun a => decide (20 < a.kind.length) || decide (20 < a.name.length) by unfold longOf; rw [decide_eq_false h80]; rfl)
    go_enter Tryz.func5, Tryz.ntmps5
    go_wp2_with fail
    go_loopw [3] (fun i wr => ∃ j : Nat, j ≤ A.length ∧ i = .int .i64 j ∧ wr = w ∧ ∀ q (h : q < A.length), q < j → ¬ (20 < A[q].kind.length) ∧ ¬ (20 < A[q].name.length)) (fun i _ => A.length - (intOf i).toNat)
    case atStart => exact ⟨0, Nat.zero_le _, rfl, rfl, fun q _ h => by omega⟩
    case round =>
      obtain ⟨j, hj, rfl, rfl, hall⟩ := hrel
      have hall := Lib.hid hall
      by_cases hlt : j < A.length
      · obtain ⟨b, o, rfl, h0, h1, h2, h3, h4, h5⟩ := ha j hlt
        have hs0 := bs_size A[j].kind
        have hs1 := bs_size A[j].name
        have hmem := List.getElem_mem hlt
        unfold maxLen at h4 h5
        by_cases hk : 20 < A[j].kind.length
        · have hr2 := Lib.hid (show longOf A = true by rw [hr.out, List.any_eq_true]; exact ⟨_, hmem, by rw [decide_eq_true hk]; rfl⟩)
          clear hmem
          go_wp2
          go_ret
          exact ⟨ret_bool hr2.out.symm, Below.refl _ _⟩
        · by_cases hn : 20 < A[j].name.length
          · have hr2 := Lib.hid (show longOf A = true by rw [hr.out, List.any_eq_true]; exact ⟨_, hmem, by rw [decide_eq_true hn, Bool.or_true]⟩)
            clear hmem
            go_wp2
            go_ret
            exact ⟨ret_bool hr2.out.symm, Below.refl _ _⟩
          · clear hmem
            have hall2 := Lib.hid (show ∀ q (h : q < A.length), q < j + 1 → ¬ (20 < A[q].kind.length) ∧ ¬ (20 < A[q].name.length) from fun q h hq => by
              rcases Nat.lt_succ_iff_lt_or_eq.1 hq with h' | rfl
              · exact hall.out q h h'
              · exact ⟨hk, hn⟩)
            go_wp2
            exact ⟨⟨j + 1, by omega, by simp, trivial, hall2.out⟩, by simp [intOf]; omega⟩
      · have hr2 := Lib.hid (show longOf A = false by
          rw [hr.out, List.any_eq_false]
          intro y hy
          obtain ⟨q, hq, rfl⟩ := List.getElem_of_mem hy
          have := hall.out q hq (by omega)
          simp [this.1, this.2])
        go_wp2
        go_ret
        exact ⟨ret_bool hr2.out.symm, Below.refl _ _⟩
end Go.Proofs.YtjckllgbllmjjaaGreatDoor
