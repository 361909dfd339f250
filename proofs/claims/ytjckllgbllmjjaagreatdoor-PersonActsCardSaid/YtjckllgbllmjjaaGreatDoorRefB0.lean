/- The reference's book of people in memory: a row of structs of its own, written in place; no walk. -/
import Derived.Test.YtjckllgbllmjjaaGreatDoorAll
import Derived.Test.YtjckllgbllmjjaaGreatDoorRowOwn
namespace Go.Proofs.YtjckllgbllmjjaaGreatDoor
open Go.RowKit

/-- Where a name stands (-1: nowhere). -/
def idxP : List Per → List UInt8 → Option Nat
  | [], _ => none
  | p :: L, n => if p.name = n then some 0 else (idxP L n).map (· + 1)
def findIx (L : List Per) (n : List UInt8) : Int := match idxP L n with
  | some k => (k : Int)
  | none => -1
theorem idxP_some : ∀ {L : List Per} {n : List UInt8} {k : Nat}, idxP L n = some k → ∃ h : k < L.length, findP L n = some L[k] ∧ L[k].name = n
  | [], _, _, h => by cases h
  | p :: L, n, k, h => by
    unfold idxP at h
    split at h
    · rename_i hp
      cases h
      exact ⟨by simp, by simp [findP, hp], hp⟩
    · rename_i hp
      cases hi : idxP L n with
      | none => rw [hi] at h; cases h
      | some j =>
        rw [hi] at h
        cases h
        obtain ⟨h1, h2, h3⟩ := idxP_some hi
        refine ⟨by simp; omega, ?_, by simpa using h3⟩
        unfold findP at h2 ⊢
        rw [List.find?_cons_of_neg (by simpa using hp), h2]
        simp
theorem idxP_none : ∀ {L : List Per} {n : List UInt8}, idxP L n = none → findP L n = none ∧ ∀ p ∈ L, p.name ≠ n
  | [], _, _ => ⟨rfl, by simp⟩
  | p :: L, n, h => by
    unfold idxP at h
    split at h
    · cases h
    · rename_i hp
      have h1 : idxP L n = none := by simpa using h
      obtain ⟨h2, h3⟩ := idxP_none h1
      refine ⟨?_, fun q hq => ?_⟩
      · unfold findP at h2 ⊢
        rw [List.find?_cons_of_neg (by simpa using hp), h2]
      · rcases List.mem_cons.1 hq with rfl | hq
        · exact hp
        · exact h3 q hq
/-- None of the first j is it, the one at j is it. -/
theorem idxP_at : ∀ {L : List Per} {n : List UInt8} {j : Nat} (h : j < L.length), (∀ q (hq : q < L.length), q < j → L[q].name ≠ n) → L[j].name = n → idxP L n = some j
  | p :: L, n, 0, _, _, he => by
    unfold idxP
    rw [if_pos (by simpa using he)]
  | p :: L, n, j + 1, h, ha, he => by
    have h0 := ha 0 (by simp) (by omega)
    have := idxP_at (L := L) (n := n) (j := j) (by simpa using h) (fun q hq hqj => by
      have := ha (q + 1) (by simp; omega) (by omega)
      simpa using this) (by simpa using he)
    unfold idxP
    rw [if_neg (by simpa using h0), this]
    rfl
theorem idxP_not {n : List UInt8} : ∀ {L : List Per}, (∀ p ∈ L, p.name ≠ n) → idxP L n = none
  | [], _ => rfl
  | p :: L, h => by
    unfold idxP
    rw [if_neg (h p (by simp)), idxP_not (fun q hq => h q (by simp [hq]))]
    rfl
theorem setP_set {L : List Per} (hs : SortedP L) {k : Nat} (hk : k < L.length) (q : Per) (hn : q.name = L[k].name) : setP L q = L.set k q := by
  unfold setP
  apply List.ext_getElem?
  intro i
  rw [List.getElem?_map, List.getElem?_set]
  by_cases hki : k = i
  · subst hki
    rw [if_pos rfl, if_pos hk, List.getElem?_eq_getElem hk]
    simp [hn]
  · rw [if_neg hki]
    cases hi : L[i]? with
    | none => rfl
    | some x =>
      obtain ⟨hil, hix⟩ := List.getElem?_eq_some_iff.1 hi
      have hne : x.name ≠ q.name := by
        intro he
        have h1 : x = L[k] := sorted_name_inj hs x (by rw [← hix]; exact List.getElem_mem hil) L[k] (List.getElem_mem hk) (he.trans hn)
        rcases Nat.lt_or_gt_of_ne hki with h | h
        · have := List.pairwise_iff_getElem.1 hs k i hk hil h
          rw [hix, h1] at this
          exact List.lt_irrefl _ this
        · have := List.pairwise_iff_getElem.1 hs i k hil hk h
          rw [hix, h1] at this
          exact List.lt_irrefl _ this
      show some (if x.name = q.name then q else x) = some x
      rw [if_neg hne]
/-- Where a new one is set: behind all that are less. -/
def lessN (L : List Per) (n : List UInt8) : Nat := (L.takeWhile (fun q => decide (q.name < n))).length
theorem insP_take (p : Per) : ∀ L, insP p L = L.take (lessN L p.name) ++ p :: L.drop (lessN L p.name)
  | [] => rfl
  | q :: r => by
    unfold insP lessN
    by_cases h : q.name < p.name
    · rw [if_pos h, List.takeWhile_cons_of_pos (by simpa using h), insP_take p r]
      rfl
    · rw [if_neg h, List.takeWhile_cons_of_neg (by simpa using h)]
      rfl
theorem lessN_le (L : List Per) (n : List UInt8) : lessN L n ≤ L.length := (List.takeWhile_sublist _).length_le
theorem lessN_at {L : List Per} {n : List UInt8} {j : Nat} (hj : j ≤ L.length) (ha : ∀ q (hq : q < L.length), q < j → L[q].name < n) (he : ∀ h : j < L.length, ¬ L[j].name < n) : lessN L n = j := by
  unfold lessN
  induction L generalizing j with
  | nil => simp at hj; subst hj; rfl
  | cons p L ih =>
    cases j with
    | zero =>
      have := he (by simp)
      rw [List.takeWhile_cons_of_neg (by simpa using this)]
      rfl
    | succ j =>
      have h0 := ha 0 (by simp) (by omega)
      rw [List.takeWhile_cons_of_pos (by simpa using h0), List.length_cons, ih (j := j) (by simpa using hj) (fun q hq hqj => by
        have := ha (q + 1) (by simp; omega) (by omega)
        simpa using this) (fun h => by
        have := he (by simp; omega)
        simpa using this)]

theorem flatP_len : ∀ L : List Per, (flatP L).length = L.length * 4
  | [] => rfl
  | p :: L => by simp [flatP, Per.cells, flatP_len L]; omega
theorem flatP_take : ∀ (L : List Per) (k : Nat), flatP (L.take k) = (flatP L).take (k * 4)
  | [], _ => by simp [flatP]
  | p :: L, 0 => by simp [flatP]
  | p :: L, k + 1 => by
    rw [show (k + 1) * 4 = k * 4 + 4 by omega]
    simp [flatP, Per.cells, flatP_take L k]
theorem flatP_drop : ∀ (L : List Per) (k : Nat), flatP (L.drop k) = (flatP L).drop (k * 4)
  | [], _ => by simp [flatP]
  | p :: L, 0 => by simp [flatP]
  | p :: L, k + 1 => by
    rw [show (k + 1) * 4 = k * 4 + 4 by omega]
    simp [flatP, Per.cells, flatP_drop L k]
theorem flatP_set : ∀ (L : List Per) (k : Nat) (h : k < L.length),
    (∀ x, (flatP L).set (k * 4 + 1) (.int .i64 x) = flatP (L.set k { L[k] with key := x })) ∧
    (∀ x, (flatP L).set (k * 4 + 2) (.int .i64 x) = flatP (L.set k { L[k] with epoch := x })) ∧
    ∀ x, (flatP L).set (k * 4 + 3) (.bool x) = flatP (L.set k { L[k] with off := x })
  | p :: L, 0, _ => by simp [flatP, Per.cells]
  | p :: L, k + 1, h => by
    obtain ⟨h1, h2, h3⟩ := flatP_set L k (by simpa using h)
    rw [show (k + 1) * 4 + 1 = k * 4 + 1 + 4 by omega, show (k + 1) * 4 + 2 = k * 4 + 2 + 4 by omega, show (k + 1) * 4 + 3 = k * 4 + 3 + 4 by omega]
    refine ⟨fun x => ?_, fun x => ?_, fun x => ?_⟩
    · simp [flatP, Per.cells, h1]
    · simp [flatP, Per.cells, h2]
    · simp [flatP, Per.cells, h3]

/-- The reference's book at block b: a row of people of its own. -/
structure RefAt (w : World) (base b : Nat) (L : List Per) : Prop where
  ge : base ≤ b
  row : ∃ v, w.heap[b]? = some (.cells #[v] 37 (0, 0)) ∧ w.ownsRow base 24 4 v L.length (flatP L)
/-- The blocks that such a book may write. -/
def RefS (base : Nat) (w : World) (k : Nat) : Prop := base ≤ k ∧ ∃ cs T z, w.heap[k]? = some (.cells cs T z) ∧ (T = 37 ∨ T = 24)
theorem RefAt.keeps {S : Nat → Prop} {w w' : World} {base b : Nat} {L : List Per} (h : RefAt w base b L) (hk : Keeps S w w') (hs : ∀ k, RefS base w k → ¬ S k) : RefAt w' base b L := by
  obtain ⟨hge, v, hb, ho⟩ := h
  refine ⟨hge, v, hk.obj hb (hs b ⟨hge, _, _, _, hb, .inl rfl⟩), ownsRow_keeps ho hk fun g hg => ?_⟩
  obtain ⟨h1, cs, h2⟩ := ownsRow_block ho hg
  exact hs g ⟨h1, _, _, _, h2, .inr rfl⟩
theorem RefAt.below {w w' : World} {base b : Nat} {L : List Per} (h : RefAt w base b L) (hb : Below w.heap.size w w') : RefAt w' base b L :=
  h.keeps (S := fun _ => False) (Keeps.of_below hb) (fun _ _ h => h)
theorem RefAt.at0 {w : World} {base b : Nat} {L : List Per} (h : RefAt w base b L) : ∃ v, w.cell? ⟨b, 0, none⟩ = some v ∧ w.ownsRow base 24 4 v L.length (flatP L) ∧ w.frozen? ⟨b, 0, none⟩ = false ∧ ∀ g, v.ownBlock = some g → g ≠ b := by
  obtain ⟨hge, v, hb, ho⟩ := h
  refine ⟨v, by rw [cell_of_row w b 0 _ _ _ hb]; rfl, ho, frozen_of_row _ _ _ _ _ hb, fun g hg e => ?_⟩
  obtain ⟨h1, cs, h2⟩ := ownsRow_block ho hg
  subst e
  rw [hb] at h2
  injection h2 with h2
  injection h2 with _ h2 _
  exact absurd h2 (by decide)
theorem RefAt.lt {w : World} {base b : Nat} {L : List Per} (h : RefAt w base b L) : b < w.heap.size := by
  obtain ⟨_, v, hb, _⟩ := h
  exact (Array.getElem?_eq_some_iff.1 hb).1
theorem RefS.lt {w : World} {base k : Nat} (h : RefS base w k) : base ≤ k ∧ k < w.heap.size := by
  obtain ⟨h1, _, _, _, h2, _⟩ := h
  exact ⟨h1, (Array.getElem?_eq_some_iff.1 h2).1⟩
theorem RefAt.slice {w : World} {base b : Nat} {L : List Per} (h : RefAt w base b L) : ∃ a c, w.cell? ⟨b, 0, none⟩ = some (.slice a L.length c) ∧ (∀ i (h : i < L.length), ∃ g, a = some ⟨g, 0, none⟩) := by
  obtain ⟨v, h1, h2, _⟩ := h.at0
  obtain ⟨hl, ⟨rfl, h0⟩ | ⟨g, cap, cur, rfl, _⟩⟩ := h2
  · exact ⟨none, 0, by rw [h1, h0], fun i hi => by omega⟩
  · exact ⟨_, _, h1, fun i _ => ⟨g, rfl⟩⟩
/-- The book of the program is none of these blocks. -/
theorem BookAt.off_ref {w : World} {base b r : Nat} {L : List Per} (h : BookAt w b r L) : ¬ RefS base w b ∧ ¬ RefS base w r := by
  constructor
  · rintro ⟨_, cs, T, z, h1, h2⟩
    rw [h.cell] at h1
    injection h1 with h1
    injection h1 with _ h1 _
    subst h1
    revert h2
    decide
  · rintro ⟨_, cs, T, z, h1, _⟩
    obtain ⟨l, ⟨es, c, hb, _⟩, _⟩ := h.map
    rw [hb] at h1
    cases h1
end Go.Proofs.YtjckllgbllmjjaaGreatDoor
