/- Plain definitions and lemmas about sessions: no program in sight. -/
import Derived.Test.YtmjbhglmlbgkmaaDoorTick
import Derived.Test.YtmjbhglmlbgkmaaDoorFloP
namespace Go.Proofs.YtmjbhglmlbgkmaaDoor

/-- A session: its number, its ticket. -/
structure Ses where
  n : Int
  t : Tick
def SortedS (L : List Ses) : Prop := L.Pairwise fun p q => p.n < q.n
def findS (L : List Ses) (n : Int) : Option Ses := L.find? fun p => p.n == n
def numsS (L : List Ses) : List Int := L.map Ses.n
theorem findS_some {L : List Ses} {n : Int} {p : Ses} (h : findS L n = some p) : p ∈ L ∧ p.n = n :=
  ⟨List.mem_of_find?_eq_some h, by simpa using List.find?_some h⟩
theorem findS_none {L : List Ses} {n : Int} (h : findS L n = none) : ∀ p ∈ L, p.n ≠ n := by
  intro p hp
  simpa using List.find?_eq_none.1 h p hp
theorem sortedS_inj {L : List Ses} (hs : SortedS L) : ∀ p ∈ L, ∀ q ∈ L, p.n = q.n → p = q := by
  induction L with
  | nil => intro p hp; cases hp
  | cons a L ih =>
    have hs' := List.pairwise_cons.1 hs
    intro p hp q hq h
    rcases List.mem_cons.1 hp with hpa | hp' <;> rcases List.mem_cons.1 hq with hqa | hq'
    · rw [hpa, hqa]
    · have := hs'.1 q hq'; rw [hpa] at h; omega
    · have := hs'.1 p hp'; rw [hqa] at h; omega
    · exact ih hs'.2 p hp' q hq' h
theorem findS_mem {L : List Ses} (hs : SortedS L) {p : Ses} (hp : p ∈ L) : findS L p.n = some p := by
  cases h : findS L p.n with
  | none => exact absurd rfl (findS_none h p hp)
  | some q =>
    obtain ⟨h1, h2⟩ := findS_some h
    rw [sortedS_inj hs q h1 p hp h2]
structure GoodS (next : Int) (L : List Ses) : Prop where
  sorted : SortedS L
  lo : ∀ p ∈ L, 1 ≤ p.n ∧ p.n < next
  one : 1 ≤ next
  many : L.length ≤ 40
  tick : ∀ p ∈ L, tickErr p.t = 0
theorem goodT_err {t : Tick} {now : Int} (h : goodT t now = 0) : tickErr t = 0 := by
  unfold goodT at h
  by_cases h1 : tickErr t = 0
  · exact h1
  · rw [if_neg h1] at h; exact absurd h h1
theorem tick_size {t : Tick} (h : tickErr t = 0) : t.who.length ≤ 8 ∧ t.svc.length ≤ 8 := by
  obtain ⟨h1, h2, _⟩ := tickErr_zero h
  exact ⟨((isName_iff _).1 h1).2.1, ((isName_iff _).1 h2).2.1⟩
/-- Open: the number, an error's number, what comes next, what is open. -/
def openS (next : Int) (L : List Ses) (t : Tick) (now : Int) : (Int × Nat) × (Int × List Ses) :=
  if goodT t now ≠ 0 then ((0, goodT t now), (next, L)) else if 40 ≤ L.length then ((0, 7), (next, L)) else ((next, 0), (next + 1, L ++ [⟨next, t⟩]))
def closeS (L : List Ses) (n : Int) : Nat × List Ses := if (findS L n).isSome then (0, L.filter fun p => !(p.n == n)) else (5, L)
def askSs (L : List Ses) (n now : Int) : Tick × Nat := match findS L n with
  | none => (noTick, 5)
  | some p => if goodT p.t now = 0 then (p.t, 0) else (noTick, goodT p.t now)
def badS (F : List Flo) (now : Int) (p : Ses) : Bool := decide (goodT p.t now ≠ 0) || !decide (ofF F p.t.who ≤ p.t.epoch)
/-- Sweep: who is gone, an error's number, its place, what is open. -/
def sweepS (F : List Flo) (now : Int) (L : List Ses) : List Int × (Nat × Int) × List Ses :=
  if (checkF F).1 ≠ 0 then ([], checkF F, L) else if now < 0 ∨ 1000000 < now then ([], (2, -1), L) else (numsS (L.filter (badS F now)), (0, -1), L.filter fun p => !badS F now p)
theorem good_new : GoodS 1 [] := ⟨List.Pairwise.nil, by simp, Int.le_refl _, by simp, by simp⟩
theorem goodS_filter {next : Int} {L : List Ses} (h : GoodS next L) (f : Ses → Bool) : GoodS next (L.filter f) :=
  ⟨h.sorted.filter _, fun p hp => h.lo p (List.mem_filter.1 hp).1, h.one, Nat.le_trans (List.length_filter_le _ _) h.many, fun p hp => h.tick p (List.mem_filter.1 hp).1⟩
theorem open_good {next : Int} {L : List Ses} (h : GoodS next L) (t : Tick) (now : Int) :
    GoodS (openS next L t now).2.1 (openS next L t now).2.2 ∧ (openS next L t now).1.2 ≤ 16 ∧ next ≤ (openS next L t now).2.1 ∧ (openS next L t now).2.1 ≤ next + 1 ∧
      ((openS next L t now).1.2 = 0 → (openS next L t now).1.1 = next ∧ (openS next L t now).2.1 = next + 1) := by
  unfold openS
  by_cases h1 : goodT t now ≠ 0
  · rw [if_pos h1]
    refine ⟨h, ?_, Int.le_refl _, by dsimp only; omega, fun e => absurd e h1⟩
    dsimp only
    unfold goodT
    have hte : tickErr t ≤ 4 := by
      unfold tickErr
      split
      · split <;> omega
      · omega
    split
    · split
      · split
        · omega
        · split <;> omega
      · omega
    · omega
  rw [if_neg h1]
  by_cases h2 : 40 ≤ L.length
  · rw [if_pos h2]
    exact ⟨h, by simp, Int.le_refl _, by dsimp only; omega, fun e => by cases e⟩
  rw [if_neg h2]
  have hg : goodT t now = 0 := by omega
  refine ⟨⟨?_, fun p hp => ?_, by have := h.one; dsimp only; omega, by simp; omega, fun p hp => ?_⟩, Nat.zero_le _, by dsimp only; omega, Int.le_refl _, fun _ => ⟨rfl, rfl⟩⟩
  · refine List.pairwise_append.2 ⟨h.sorted, List.pairwise_singleton _ _, fun p hp q hq => ?_⟩
    simp at hq
    subst hq
    exact (h.lo p hp).2
  · rcases List.mem_append.1 hp with hp | hp
    · have := h.lo p hp; dsimp only; omega
    · simp at hp; subst hp; have := h.one; dsimp only; omega
  · rcases List.mem_append.1 hp with hp | hp
    · exact h.tick p hp
    · simp at hp; subst hp; exact goodT_err hg
theorem close_good {next : Int} {L : List Ses} (h : GoodS next L) (n : Int) : GoodS next (closeS L n).2 ∧ (closeS L n).1 ≤ 16 := by
  unfold closeS
  split
  · exact ⟨goodS_filter h _, by simp⟩
  · exact ⟨h, by simp⟩
theorem sweep_good {next : Int} {L : List Ses} (h : GoodS next L) (F : List Flo) (now : Int) : GoodS next (sweepS F now L).2.2 := by
  unfold sweepS
  split
  · exact h
  split
  · exact h
  · exact goodS_filter h _
/-- Each that was open is gone, or is left, and not both. -/
theorem part_once {L : List Ses} (hs : SortedS L) (f : Ses → Bool) {p : Ses} (hp : p ∈ L) : decide (p.n ∈ numsS (L.filter f)) = !decide (p.n ∈ numsS (L.filter fun q => !f q)) := by
  have key : ∀ g : Ses → Bool, (p.n ∈ numsS (L.filter g)) ↔ g p = true := by
    intro g
    unfold numsS
    rw [List.mem_map]
    constructor
    · rintro ⟨q, hq, e⟩
      obtain ⟨h1, h2⟩ := List.mem_filter.1 hq
      rwa [sortedS_inj hs q h1 p hp e] at h2
    · exact fun h => ⟨p, List.mem_filter.2 ⟨hp, h⟩, rfl⟩
  cases hf : f p <;> simp [key, hf]
theorem part_len (L : List Ses) (f : Ses → Bool) : (numsS (L.filter f)).length + (numsS (L.filter fun q => !f q)).length = (numsS L).length := by
  unfold numsS
  simp only [List.length_map]
  induction L with
  | nil => rfl
  | cons a L ih => cases h : f a <;> simp [h] <;> omega
theorem sweep_again (L : List Ses) (f : Ses → Bool) : (L.filter fun q => !f q).filter f = [] := by
  rw [List.filter_filter, List.filter_eq_nil_iff]
  intro a _
  cases f a <;> simp
theorem nums_sorted {L : List Ses} (hs : SortedS L) : (numsS L).Pairwise (· < ·) := List.pairwise_map.2 hs
/-- What is sorted, of the same numbers, is the same. -/
theorem mergeSort_nums {N ss : List Int} (hs : N.Pairwise (· < ·)) (hp : ss.Perm N) : ss.mergeSort (fun x y => decide (x ≤ y)) = N := by
  have h1 : (ss.mergeSort (fun x y => decide (x ≤ y))).Perm N := (List.mergeSort_perm _ _).trans hp
  have h2 : (ss.mergeSort (fun x y => decide (x ≤ y))).Pairwise (fun x y => decide (x ≤ y) = true) := List.pairwise_mergeSort (fun a b c h h' => by simp at *; omega) (fun a b => by simp; omega) _
  have h3 : N.Pairwise (fun x y => decide (x ≤ y) = true) := hs.imp (fun {a b} h => by simp; omega)
  exact h1.eq_of_pairwise (fun a b _ _ h h' => by simp at h h'; omega) h2 h3
end Go.Proofs.YtmjbhglmlbgkmaaDoor
