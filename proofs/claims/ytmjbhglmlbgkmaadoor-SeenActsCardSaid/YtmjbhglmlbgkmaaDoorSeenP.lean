/- Plain definitions and lemmas about what was seen: no program in sight. -/
import Derived.Test.YtmjbhglmlbgkmaaDoorWords
namespace Go.Proofs.YtmjbhglmlbgkmaaDoor

/-- A word that was seen, and its time. -/
structure Wd where
  s : List UInt8
  t : Int
theorem Wd.ext' {f g : Wd} (h : f.s = g.s) (h2 : f.t = g.t) : f = g := by cases f; cases g; simp_all
def SortedW (L : List Wd) : Prop := L.Pairwise (fun p q => p.s < q.s)
def findW (L : List Wd) (n : List UInt8) : Option Wd := L.find? (fun p => p.s == n)
def insW (p : Wd) : List Wd → List Wd
  | [] => [p]
  | q :: r => if q.s < p.s then q :: insW p r else p :: q :: r
theorem findW_some {L : List Wd} {n : List UInt8} {p : Wd} (h : findW L n = some p) : p ∈ L ∧ p.s = n :=
  ⟨List.mem_of_find?_eq_some h, by simpa using List.find?_some h⟩
theorem findW_none {L : List Wd} {n : List UInt8} (h : findW L n = none) : ∀ p ∈ L, p.s ≠ n := by
  intro p hp
  simpa using List.find?_eq_none.1 h p hp
theorem insW_perm (p : Wd) : ∀ L, (insW p L).Perm (p :: L)
  | [] => List.Perm.refl _
  | q :: r => by
    unfold insW
    split
    · exact ((insW_perm p r).cons q).trans (List.Perm.swap p q r)
    · exact List.Perm.refl _
theorem insW_sorted (p : Wd) : ∀ L, SortedW L → (∀ q ∈ L, q.s ≠ p.s) → SortedW (insW p L)
  | [], _, _ => by simp [insW, SortedW]
  | q :: r, hs, hn => by
    have hs' := List.pairwise_cons.1 hs
    unfold insW
    split
    · rename_i hlt
      refine List.pairwise_cons.2 ⟨fun x hx => ?_, insW_sorted p r hs'.2 (fun x hx => hn x (by simp [hx]))⟩
      rcases List.mem_cons.1 ((insW_perm p r).mem_iff.1 hx) with rfl | h
      · exact hlt
      · exact hs'.1 x h
    · rename_i hlt
      have hpq : p.s < q.s := lt_total hlt (hn q (by simp))
      refine List.pairwise_cons.2 ⟨fun x hx => ?_, hs⟩
      rcases List.mem_cons.1 hx with rfl | h
      · exact hpq
      · exact List.lt_trans hpq (hs'.1 x h)
theorem sortedW_inj {L : List Wd} (hs : SortedW L) : ∀ p ∈ L, ∀ q ∈ L, p.s = q.s → p = q := by
  induction L with
  | nil => intro p hp; cases hp
  | cons a L ih =>
    have hs' := List.pairwise_cons.1 hs
    intro p hp q hq h
    rcases List.mem_cons.1 hp with hpa | hp' <;> rcases List.mem_cons.1 hq with hqa | hq'
    · rw [hpa, hqa]
    · exact absurd (hs'.1 q hq') (by rw [← hpa, h]; exact List.lt_irrefl _)
    · exact absurd (hs'.1 p hp') (by rw [← hqa, h]; exact List.lt_irrefl _)
    · exact ih hs'.2 p hp' q hq' h
def isTime (n : Int) : Bool := decide (0 ≤ n) && decide (n ≤ 1000000)
theorem isTime_iff (n : Int) : isTime n = true ↔ 0 ≤ n ∧ n ≤ 1000000 := by simp [isTime]
/-- Those that are not gone. -/
def keptW (lo : Int) (L : List Wd) : List Wd := L.filter fun p => !decide (p.t < lo)
/-- What seen.Ask answers: an error's number; what was seen. -/
def askS (long : Int) (L : List Wd) (word : List UInt8) (time now : Int) : Nat × List Wd :=
  if isWord word = false then (1, L)
  else if (isTime time && isTime now) = false then (2, L)
  else if now + long < time then (11, L)
  else if time < now - long then (12, L)
  else if (findW (keptW (now - long) L) word).isSome then (6, keptW (now - long) L)
  else if 40 ≤ (keptW (now - long) L).length then (7, keptW (now - long) L)
  else (0, insW ⟨word, time⟩ (keptW (now - long) L))
structure GoodW (L : List Wd) : Prop where
  sorted : SortedW L
  word : ∀ p ∈ L, isWord p.s = true
  time : ∀ p ∈ L, 0 ≤ p.t ∧ p.t ≤ 1000000
  many : L.length ≤ 40
theorem kept_good {L : List Wd} (h : GoodW L) (lo : Int) : GoodW (keptW lo L) :=
  ⟨h.sorted.filter _, fun p hp => h.word p (List.mem_filter.1 hp).1, fun p hp => h.time p (List.mem_filter.1 hp).1, Nat.le_trans (List.length_filter_le _ _) h.many⟩
theorem ask_good {L : List Wd} (h : GoodW L) (long : Int) (word : List UInt8) (time now : Int) : GoodW (askS long L word time now).2 ∧ (askS long L word time now).1 ≤ 16 := by
  unfold askS
  by_cases h1 : isWord word = false
  · rw [if_pos h1]; exact ⟨h, by simp⟩
  rw [if_neg h1]
  by_cases h2 : (isTime time && isTime now) = false
  · rw [if_pos h2]; exact ⟨h, by simp⟩
  rw [if_neg h2]
  by_cases h3 : now + long < time
  · rw [if_pos h3]; exact ⟨h, by simp⟩
  rw [if_neg h3]
  by_cases h4 : time < now - long
  · rw [if_pos h4]; exact ⟨h, by simp⟩
  rw [if_neg h4]
  have hk := kept_good h (now - long)
  by_cases h5 : (findW (keptW (now - long) L) word).isSome = true
  · rw [if_pos h5]; exact ⟨hk, by simp⟩
  rw [if_neg h5]
  by_cases h6 : 40 ≤ (keptW (now - long) L).length
  · rw [if_pos h6]; exact ⟨hk, by simp⟩
  rw [if_neg h6]
  have hnone : findW (keptW (now - long) L) word = none := by simpa using h5
  have hperm := insW_perm ⟨word, time⟩ (keptW (now - long) L)
  have hti : isTime time = true := by
    cases ht : isTime time with
    | true => rfl
    | false => rw [ht] at h2; exact absurd rfl h2
  refine ⟨⟨insW_sorted _ _ hk.sorted (findW_none hnone), fun x hx => ?_, fun x hx => ?_, ?_⟩, Nat.zero_le _⟩
  · rcases List.mem_cons.1 (hperm.mem_iff.1 hx) with rfl | h'
    · simpa using h1
    · exact hk.word x h'
  · rcases List.mem_cons.1 (hperm.mem_iff.1 hx) with rfl | h'
    · exact (isTime_iff _).1 hti
    · exact hk.time x h'
  · rw [hperm.length_eq, List.length_cons]; omega
/-- What passed is still there, or too old. -/
def Passed (long now : Int) (L : List Wd) (P : List Wd) : Prop := ∀ p ∈ P, p ∈ L ∨ p.t < now - long
theorem passed_ask {long now0 now time : Int} {L P : List Wd} {word : List UInt8} (h : Passed long now0 L P) (hn : now0 ≤ now) :
    Passed long now (askS long L word time now).2 P := by
  have hk : Passed long now L P := fun p hp => (h p hp).imp id (fun h => by omega)
  have hkk : Passed long now (keptW (now - long) L) P := fun p hp => by
    rcases hk p hp with h | h
    · by_cases hl : p.t < now - long
      · exact .inr hl
      · exact .inl (List.mem_filter.2 ⟨h, by simpa using hl⟩)
    · exact .inr h
  unfold askS
  split
  · exact hk
  split
  · exact hk
  split
  · exact hk
  split
  · exact hk
  split
  · exact hkk
  split
  · exact hkk
  · intro p hp
    rcases hkk p hp with h | h
    · exact .inl ((insW_perm _ _).mem_iff.2 (by simp [h]))
    · exact .inr h
/-- What passes did not pass before. -/
theorem ask_new {long now0 now time : Int} {L P : List Wd} {word : List UInt8} (h : Passed long now0 L P) (hn : now0 ≤ now) (ha : (askS long L word time now).1 = 0) :
    (⟨word, time⟩ : Wd) ∉ P ∧ now - long ≤ time ∧ time ≤ now + long ∧ Passed long now (askS long L word time now).2 (P ++ [⟨word, time⟩]) ∧ (askS long L word time now).2.length ≤ 40 := by
  have hpa := passed_ask (word := word) (time := time) h hn
  unfold askS at ha hpa ⊢
  by_cases h1 : isWord word = false
  · rw [if_pos h1] at ha; cases ha
  rw [if_neg h1] at ha hpa ⊢
  by_cases h2 : (isTime time && isTime now) = false
  · rw [if_pos h2] at ha; cases ha
  rw [if_neg h2] at ha hpa ⊢
  by_cases h3 : now + long < time
  · rw [if_pos h3] at ha; cases ha
  rw [if_neg h3] at ha hpa ⊢
  by_cases h4 : time < now - long
  · rw [if_pos h4] at ha; cases ha
  rw [if_neg h4] at ha hpa ⊢
  by_cases h5 : (findW (keptW (now - long) L) word).isSome = true
  · rw [if_pos h5] at ha; cases ha
  rw [if_neg h5] at ha hpa ⊢
  by_cases h6 : 40 ≤ (keptW (now - long) L).length
  · rw [if_pos h6] at ha; cases ha
  rw [if_neg h6] at hpa ⊢
  have hnone : findW (keptW (now - long) L) word = none := by simpa using h5
  refine ⟨fun hm => ?_, by omega, by omega, fun p hp => ?_, by rw [(insW_perm _ _).length_eq, List.length_cons]; omega⟩
  · rcases h _ hm with hl | hl
    · exact findW_none hnone _ (List.mem_filter.2 ⟨hl, by simpa using h4⟩) rfl
    · dsimp only at hl; omega
  · rcases List.mem_append.1 hp with hp | hp
    · exact hpa p hp
    · simp at hp
      subst hp
      exact .inl ((insW_perm _ _).mem_iff.2 (by simp))
end Go.Proofs.YtmjbhglmlbgkmaaDoor
