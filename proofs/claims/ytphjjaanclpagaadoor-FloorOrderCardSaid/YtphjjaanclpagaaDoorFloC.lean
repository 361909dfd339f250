/- slices.Clone at floors; strings.Compare; the search for a floor's place: walked. -/
import Derived.Test.YtphjjaanclpagaaDoorFloI2
import Derived.Test.YtphjjaanclpagaaDoorShelf2
import Derived.Deep.RegionHeld3
namespace Go.Proofs.YtphjjaanclpagaaDoor
open Go.RowKit Go.Shelf Go.Lib

set_option maxHeartbeats 2000000 in
set_option maxRecDepth 100000 in
theorem clone_flo (v : Value) (L : List Flo) (w : World) (hv : FloorsAt w v L) (hL : L.length ≤ 1000) :
    Calls Tryd.prog 54 #[v] w fun e w' => ∃ v', e = .returned v' ∧ FlRow w' w.heap.size v' L ∧ Below w.heap.size w w' := by
  obtain ⟨i0, hi, hz0, hz1, hz2⟩ := info_parts info_floor
  obtain ⟨a, c, rfl, hlen, hcap, hcs⟩ := hv
  have hq := fun (w : World) (a : Option Addr) (n c n' c' : Nat) => Lib.run_eql_slice_nil (P := Tryd.prog) w 37 _ a n c n' c' Tryd.underlying37
  cases a with
  | none =>
    have h0 : L = [] := by
      cases L with
      | nil => rfl
      | cons f r => obtain ⟨b, o, h, _⟩ := hcs 0 (by simp); cases h
    subst h0
    clear hcs
    go_enter Tryd.func54, Tryd.ntmps54
    go_wp2_with fail
    go_ret
    exact ⟨_, rfl, World.ownsRow_nil _ _ _ _, Below.refl _ _⟩
  | some ad =>
    have hcell : ∀ j u, (flatF L)[j]? = some u → w.cell? (ad.add j) = some u := by
      intro j u hj
      have hlt := (List.getElem?_eq_some_iff.1 hj).1
      rw [flatF_len] at hlt
      obtain ⟨b, o, he, h0, h1⟩ := hcs (j / 2) (by omega)
      cases he
      obtain ⟨f0, f1⟩ := flatF_get L (j / 2) (by omega)
      rw [Addr.add_lit]
      rcases (show j = j / 2 * 2 ∨ j = j / 2 * 2 + 1 by omega) with hj2 | hj2
      · rw [← hj2] at h0 f0
        rw [f0] at hj
        cases hj
        exact h0
      · rw [Nat.add_assoc] at h1
        rw [← hj2] at h1 f1
        rw [f1] at hj
        cases hj
        exact h1
    have hcell := Lib.hid hcell
    clear hcs
    go_enter Tryd.func54, Tryd.ntmps54
    go_wp2_with (first
      | (at_builtin; refine wpList_append_own_at _ rfl _ _ 37 rfl w.heap.size 39 i0 (.agg #[.string ⟨#[]⟩, .int .i64 0]) 2 24 Tryd.underlying37 hi hz0 hz1 hz2 rfl (by decide) _ _ _ rfl (World.ownsRow_made w #[] 0 (Nat.le_refl _) (Nat.zero_le _) (by simp)) ad L.length c (flatF L) rfl ?hl ?c1 ?c2 ?c3 ?c4 ?c5 ?_)
      | go_in)
    case hl => exact flatF_len L
    case c1 => exact fun j u hj => Lib.cell?_alloc_some _ (hcell.out j u hj)
    case c2 => exact flatF_one L
    case c3 => unfold maxLen; omega
    case c4 => omega
    case c5 => simp
    intro v1 w1 hown hgrow _ _
    have hfin := Lib.hid (show FlRow w1 w.heap.size v1 L from by unfold FlRow; simpa using hown)
    have hKf := Lib.hid (((Below.refl w.heap.size w).alloc (Nat.le_refl _) _).grown hgrow (by simp) (by intro k hk; simp [Value.ownBlock] at hk; omega))
    clear hown hgrow
    go_wp2_with fail
    go_ret
    exact ⟨_, rfl, hfin.out, hKf.out⟩

theorem compare_neg : ∀ a b : List UInt8, compareBytes a b < 0 ↔ a < b
  | [], [] => by simp [compareBytes]
  | [], y :: b => by simp [compareBytes]
  | x :: a, [] => by simp [compareBytes]
  | x :: a, y :: b => by
    unfold compareBytes
    rw [List.cons_lt_cons_iff]
    by_cases h : x < y
    · simp [h]
    · rw [if_neg h]
      by_cases h2 : y < x
      · have hne : ¬ x = y := fun e => by subst e; exact h h2
        rw [if_pos h2]
        simp [h, hne]
      · have he : x = y := UInt8.le_antisymm (UInt8.not_lt.1 h2) (UInt8.not_lt.1 h)
        rw [if_neg h2, compare_neg a b]
        simp [h, he]
theorem compare_str (a b : List UInt8) (w : World) :
    Calls Tryd.prog 59 #[.string (bs a), .string (bs b)] w fun e w' => e = .returned (.int .i64 (compareBytes a b)) ∧ w' = w :=
  (Any.strings_Compare Tryd.cmpL (bs a) (bs b) w).mono fun e w' h => ⟨by rw [h.1, bs_list, bs_list], h.2⟩
theorem compare_range : ∀ a b : List UInt8, -1 ≤ compareBytes a b ∧ compareBytes a b ≤ 1
  | [], [] => by simp [compareBytes]
  | [], y :: b => by simp [compareBytes]
  | x :: a, [] => by simp [compareBytes]
  | x :: a, y :: b => by
    unfold compareBytes
    split
    · simp
    · split
      · simp
      · exact compare_range a b
theorem insF_at (f : Flo) : ∀ (L : List Flo) (k : Nat), k ≤ L.length → (∀ q (h : q < L.length), q < k → L[q].who < f.who) → (∀ h : k < L.length, ¬ L[k].who < f.who) → insF f L = L.take k ++ f :: L.drop k
  | [], k, hk, _, _ => by
    have : k = 0 := by simpa using hk
    subst this
    rfl
  | g :: r, 0, _, _, h2 => by
    have h3 : ¬ g.who < f.who := h2 (by simp)
    unfold insF
    rw [if_neg h3]
    rfl
  | g :: r, k + 1, hk, h1, h2 => by
    have h3 : g.who < f.who := h1 0 (by simp) (by omega)
    unfold insF
    rw [if_pos h3, insF_at f r k (by simpa using hk) (fun q hq hqk => h1 (q + 1) (by simpa using hq) (by omega)) (fun h => h2 (by simpa using h))]
    rfl
end Go.Proofs.YtphjjaanclpagaaDoor
