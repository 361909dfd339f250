/- FedP, MapV -/
import Derived.Test.YtcnadjdijolboaaGreatDoorMg2
import Derived.Test.YtcnadjdijolboaaGreatDoorMg5
import Derived.MapKept
import Derived.WalkKit
import Derived.Deep.Draws
/- Plain definitions and lemmas about feeds and who follows them: no program in sight. -/
namespace Go.Proofs.YtcnadjdijolboaaGreatDoor

/-! Floors as a text. -/
def floW (f : Flo) : List UInt8 := f.who ++ 58 :: Lib.itoa f.ep
def textL (L : List Flo) : List UInt8 := if L.isEmpty then [45] else glue 44 (L.map floW)
def textF (L : List Flo) : List UInt8 × Nat × Int := if (checkF L).1 = 0 then (textL L, 0, -1) else ([], checkF L)
def sumF (L : List Flo) : Int := if (checkF L).1 = 0 then (markOf 1 (textL L)).1 else 0
theorem sumF_bd (L : List Flo) : 0 ≤ sumF L ∧ sumF L ≤ 1000000006 := by
  unfold sumF
  split
  · have := markOf_bd 1 (textL L); omega
  · omega

/-- An entry of a feed. -/
structure Ent where
  seq : Int
  time : Int
  f : Flo
def noEnt : Ent := ⟨0, 0, ⟨[], 0⟩⟩
theorem Ent.ext' {e g : Ent} (h : e.seq = g.seq) (h2 : e.time = g.time) (h3 : e.f = g.f) : e = g := by cases e; cases g; simp_all
/-- The time ahead of a place. -/
def wasE (L : List Ent) (i : Nat) : Int := if i = 0 then 0 else (L.getD (i - 1) noEnt).time
def entErr (was : Int) (i : Nat) (e : Ent) : Nat := if e.seq ≠ (i : Int) + 1 then 15 else if e.time < 0 ∨ 1000000 < e.time then 2 else if e.time < was then 8 else oneF e.f
def errAtE (L : List Ent) (i : Nat) : Nat := entErr (wasE L i) i (L.getD i noEnt)
/-- What feed.Check answers: an error's number, its place. -/
def checkE (L : List Ent) : Nat × Int :=
  if 60 < L.length then (7, -1) else match (List.range L.length).find? (fun i => errAtE L i != 0) with
  | none => (0, -1)
  | some i => (errAtE L i, (i : Int))
theorem checkE_full {L : List Ent} (h : 60 < L.length) : checkE L = (7, -1) := by unfold checkE; rw [if_pos h]
theorem checkE_none {L : List Ent} (h : ¬ 60 < L.length) (ha : ∀ i, i < L.length → errAtE L i = 0) : checkE L = (0, -1) := by
  unfold checkE
  rw [if_neg h]
  have : (List.range L.length).find? (fun i => errAtE L i != 0) = none := List.find?_eq_none.2 fun i hi => by
    rw [ha i (List.mem_range.1 hi)]; decide
  rw [this]
theorem checkE_some {L : List Ent} (h : ¬ 60 < L.length) (i : Nat) (hi : i < L.length) (hb : errAtE L i ≠ 0) (ha : ∀ j, j < i → errAtE L j = 0) : checkE L = (errAtE L i, (i : Int)) := by
  unfold checkE
  rw [if_neg h, find_range L.length i hi (by simpa using hb) (fun j hj => by rw [ha j hj]; decide)]
theorem checkE_zero {L : List Ent} (h : (checkE L).1 = 0) : ¬ 60 < L.length ∧ ∀ i, i < L.length → errAtE L i = 0 := by
  unfold checkE at h
  split at h
  · cases h
  · rename_i h1
    refine ⟨h1, fun i hi => ?_⟩
    cases hf : (List.range L.length).find? (fun i => errAtE L i != 0) with
    | none => simpa using List.find?_eq_none.1 hf i (List.mem_range.2 hi)
    | some j =>
      rw [hf] at h
      have := List.find?_some hf
      simp at this
      exact absurd h this
theorem checkE_ok {L : List Ent} (h : (checkE L).1 = 0) : checkE L = (0, -1) := checkE_none (checkE_zero h).1 (checkE_zero h).2
theorem oneF_le (f : Flo) : oneF f ≤ 16 := by unfold oneF; split <;> (try split) <;> omega
theorem entErr_le (was : Int) (i : Nat) (e : Ent) : entErr was i e ≤ 16 := by
  unfold entErr
  have := oneF_le e.f
  split
  · omega
  · split
    · omega
    · split <;> omega
theorem checkE_le (L : List Ent) : (checkE L).1 ≤ 16 := by
  unfold checkE
  split
  · simp
  · split
    · simp
    · exact entErr_le _ _ _
theorem getD_left {α : Type} (L M : List α) (d : α) {i : Nat} (h : i < L.length) : (L ++ M).getD i d = L.getD i d := by
  rw [List.getD_eq_getElem?_getD, List.getD_eq_getElem?_getD, List.getElem?_append_left h]
theorem errAtE_left (L M : List Ent) {i : Nat} (h : i < L.length) : errAtE (L ++ M) i = errAtE L i := by
  unfold errAtE wasE
  rw [getD_left L M _ h]
  by_cases h0 : i = 0
  · rw [if_pos h0, if_pos h0]
  · rw [if_neg h0, if_neg h0, getD_left L M _ (by omega)]
theorem errAtE_last (L : List Ent) (e : Ent) : errAtE (L ++ [e]) L.length = entErr (wasE L L.length) L.length e := by
  unfold errAtE wasE
  have h1 : (L ++ [e]).getD L.length noEnt = e := by rw [List.getD_eq_getElem?_getD, List.getElem?_append_right (Nat.le_refl _)]; simp
  rw [h1]
  by_cases h0 : L.length = 0
  · rw [if_pos h0, if_pos h0]
  · rw [if_neg h0, if_neg h0, getD_left L [e] _ (by omega)]
theorem checkE_left {L M : List Ent} (h : (checkE (L ++ M)).1 = 0) : checkE L = (0, -1) := by
  obtain ⟨h1, h2⟩ := checkE_zero h
  rw [List.length_append] at h1 h2
  exact checkE_none (by omega) fun i hi => by rw [← errAtE_left L M hi]; exact h2 i (by omega)
theorem checkE_snoc {L : List Ent} {e : Ent} (h : (checkE L).1 = 0) (hl : ¬ 60 ≤ L.length) (he : entErr (wasE L L.length) L.length e = 0) : checkE (L ++ [e]) = (0, -1) := by
  obtain ⟨h1, h2⟩ := checkE_zero h
  refine checkE_none (by rw [List.length_append, List.length_singleton]; omega) fun i hi => ?_
  rw [List.length_append, List.length_singleton] at hi
  by_cases h3 : i < L.length
  · rw [errAtE_left L [e] h3]; exact h2 i h3
  · have : i = L.length := by omega
    subst this
    rw [errAtE_last]; exact he
theorem checkE_nil : checkE [] = (0, -1) := checkE_none (by simp) (fun i hi => absurd hi (Nat.not_lt_zero _))
theorem entErr_zero {was : Int} {i : Nat} {e : Ent} (h : entErr was i e = 0) : e.seq = (i : Int) + 1 ∧ 0 ≤ e.time ∧ e.time ≤ 1000000 ∧ was ≤ e.time ∧ oneF e.f = 0 := by
  unfold entErr at h
  by_cases h1 : e.seq = (i : Int) + 1
  · rw [if_neg (by simpa using h1)] at h
    by_cases h2 : e.time < 0 ∨ 1000000 < e.time
    · rw [if_pos h2] at h; cases h
    · rw [if_neg h2] at h
      by_cases h3 : e.time < was
      · rw [if_pos h3] at h; cases h
      · rw [if_neg h3] at h
        exact ⟨h1, by omega, by omega, by omega, h⟩
  · rw [if_pos h1] at h; cases h
/-- Times of a right feed. -/
theorem time_of {L : List Ent} (h : (checkE L).1 = 0) {i : Nat} (hi : i < L.length) : 0 ≤ (L.getD i noEnt).time ∧ (L.getD i noEnt).time ≤ 1000000 ∧ wasE L i ≤ (L.getD i noEnt).time ∧ oneF (L.getD i noEnt).f = 0 := by
  have h1 := (checkE_zero h).2 i hi
  obtain ⟨_, h2, h3, h4, h5⟩ := entErr_zero h1
  exact ⟨h2, h3, h4, h5⟩
theorem wasE_mono {L : List Ent} (h : (checkE L).1 = 0) : ∀ {i j : Nat}, i ≤ j → j ≤ L.length → wasE L i ≤ wasE L j
  | i, 0, hij, _ => by have : i = 0 := by omega
                       subst this; exact Int.le_refl _
  | i, j + 1, hij, hj => by
    by_cases hi : i = j + 1
    · rw [hi]; exact Int.le_refl _
    · have h1 := wasE_mono h (i := i) (j := j) (by omega) (by omega)
      have h2 := (time_of h (i := j) (by omega)).2.2.1
      have h3 : wasE L (j + 1) = (L.getD j noEnt).time := by unfold wasE; rw [if_neg (by omega)]; rfl
      omega
theorem wasE_bd {L : List Ent} (h : (checkE L).1 = 0) {i : Nat} (hi : i ≤ L.length) : 0 ≤ wasE L i ∧ wasE L i ≤ 1000000 := by
  unfold wasE
  split
  · omega
  · have := time_of h (i := i - 1) (by omega)
    omega

/-- An entry more. -/
def addE (L : List Ent) (time : Int) (f : Flo) : List Ent × Nat × Int :=
  if (checkE L).1 ≠ 0 then ([], checkE L) else if 60 ≤ L.length then ([], 7, -1)
  else if entErr (wasE L L.length) L.length ⟨(L.length : Int) + 1, time, f⟩ ≠ 0 then ([], entErr (wasE L L.length) L.length ⟨(L.length : Int) + 1, time, f⟩, -1) else (L ++ [⟨(L.length : Int) + 1, time, f⟩], 0, -1)
theorem addE_zero {L : List Ent} {time : Int} {f : Flo} (h : (addE L time f).2.1 = 0) : checkE L = (0, -1) ∧ L.length < 60 ∧ entErr (wasE L L.length) L.length ⟨(L.length : Int) + 1, time, f⟩ = 0 ∧
    addE L time f = (L ++ [⟨(L.length : Int) + 1, time, f⟩], 0, -1) ∧ checkE (L ++ [⟨(L.length : Int) + 1, time, f⟩]) = (0, -1) := by
  unfold addE at h ⊢
  by_cases h1 : (checkE L).1 = 0
  · rw [if_neg (by simpa using h1)] at h ⊢
    by_cases h2 : 60 ≤ L.length
    · rw [if_pos h2] at h; cases h
    · rw [if_neg h2] at h ⊢
      by_cases h3 : entErr (wasE L L.length) L.length ⟨(L.length : Int) + 1, time, f⟩ = 0
      · rw [if_neg (by simpa using h3)]
        exact ⟨checkE_ok h1, by omega, h3, rfl, checkE_snoc h1 h2 h3⟩
      · rw [if_pos h3] at h; exact absurd h h3
  · rw [if_pos h1] at h; exact absurd h h1
theorem addE_bad {L : List Ent} {time : Int} {f : Flo} (h : (addE L time f).2.1 ≠ 0) : (addE L time f).1 = [] := by
  unfold addE at h ⊢
  split
  · rfl
  · rename_i h1
    rw [if_neg h1] at h
    split
    · rfl
    · rename_i h2
      rw [if_neg h2] at h
      split
      · rfl
      · rename_i h3
        rw [if_neg h3] at h
        exact absurd rfl h
theorem addE_le (L : List Ent) (time : Int) (f : Flo) : (addE L time f).2.1 ≤ 16 := by
  unfold addE
  split
  · exact checkE_le L
  · split
    · simp
    · split
      · exact entErr_le _ _ _
      · simp

/-- Floors of entries, from floors on: an error's number. -/
def foldR : List Flo → List Ent → List Flo × Nat
  | out, [] => (out, 0)
  | out, e :: L => if (raiseF out e.f).2.1 = 0 then foldR (raiseF out e.f).1 L else ([], (raiseF out e.f).2.1)
theorem foldR_append : ∀ (L M : List Ent) (out : List Flo), foldR out (L ++ M) = if (foldR out L).2 = 0 then foldR (foldR out L).1 M else foldR out L
  | [], M, out => by simp [foldR]
  | e :: L, M, out => by
    rw [List.cons_append, foldR, foldR]
    by_cases h : (raiseF out e.f).2.1 = 0
    · rw [if_pos h, if_pos h]; exact foldR_append L M _
    · rw [if_neg h, if_neg h, if_neg h]
theorem foldR_bad : ∀ (L : List Ent) (out : List Flo), (foldR out L).2 ≠ 0 → (foldR out L).1 = []
  | [], out, h => absurd rfl h
  | e :: L, out, h => by
    rw [foldR] at h ⊢
    by_cases h1 : (raiseF out e.f).2.1 = 0
    · rw [if_pos h1] at h ⊢; exact foldR_bad L _ h
    · rw [if_neg h1]
theorem raiseF_le (L : List Flo) (f : Flo) : (raiseF L f).2.1 ≤ 16 := by
  unfold raiseF
  split
  · split
    · split <;> simp
    · exact oneF_le f
  · unfold checkF
    split
    · simp
    · split
      · simp
      · unfold errAtF errF
        have := oneF_le (L.getD ‹_› ⟨[], 0⟩)
        dsimp only
        split
        · omega
        · split
          · omega
          · split <;> omega
theorem foldR_le : ∀ (L : List Ent) (out : List Flo), (foldR out L).2 ≤ 16
  | [], out => by simp [foldR]
  | e :: L, out => by
    rw [foldR]
    split
    · exact foldR_le L _
    · exact raiseF_le _ _
theorem goodF_nil : GoodF [] := ⟨⟨(fun _ h => by cases h), List.Pairwise.nil, (fun _ h => by cases h)⟩, by simp⟩
theorem foldR_good : ∀ (L : List Ent) (out : List Flo), GoodF out → (foldR out L).2 = 0 → GoodF (foldR out L).1 ∧ ∀ n, ofF out n ≤ ofF (foldR out L).1 n
  | [], out, h, _ => ⟨h, fun n => Int.le_refl _⟩
  | e :: L, out, h, h0 => by
    rw [foldR] at h0 ⊢
    by_cases h1 : (raiseF out e.f).2.1 = 0
    · rw [if_pos h1] at h0 ⊢
      obtain ⟨_, ho, hg, he⟩ := raiseF_zero h1
      rw [he] at h0 ⊢
      obtain ⟨h2, h3⟩ := foldR_good L _ hg h0
      exact ⟨h2, fun n => Int.le_trans (upF_mono h.g ho n) (h3 n)⟩
    · rw [if_neg h1] at h0; exact absurd h0 h1
/-- What feed.Floors answers. -/
def floorsE (L : List Ent) : List Flo × Nat × Int := if (checkE L).1 = 0 then ((foldR [] L).1, (foldR [] L).2, -1) else ([], checkE L)
theorem floorsE_zero {L : List Ent} (h : (floorsE L).2.1 = 0) : checkE L = (0, -1) ∧ (foldR [] L).2 = 0 ∧ floorsE L = ((foldR [] L).1, 0, -1) ∧ GoodF (foldR [] L).1 := by
  unfold floorsE at h ⊢
  by_cases h1 : (checkE L).1 = 0
  · rw [if_pos h1] at h ⊢
    have h2 : (foldR [] L).2 = 0 := h
    exact ⟨checkE_ok h1, h2, by rw [h2], (foldR_good L [] goodF_nil h2).1⟩
  · rw [if_neg h1] at h; exact absurd h h1
theorem floorsE_bad {L : List Ent} (h : (floorsE L).2.1 ≠ 0) : (floorsE L).1 = [] := by
  unfold floorsE at h ⊢
  split
  · rename_i h1
    rw [if_pos h1] at h
    exact foldR_bad L [] h
  · rfl
theorem floorsE_le (L : List Ent) : (floorsE L).2.1 ≤ 16 := by
  unfold floorsE
  split
  · exact foldR_le L []
  · exact checkE_le L
theorem floorsE_left {L M : List Ent} (h : (floorsE (L ++ M)).2.1 = 0) : (floorsE L).2.1 = 0 ∧ ∀ n, ofF (floorsE L).1 n ≤ ofF (floorsE (L ++ M)).1 n := by
  obtain ⟨h1, h2, h3, h4⟩ := floorsE_zero h
  have h5 := checkE_left (L := L) (M := M) (by rw [h1])
  rw [foldR_append] at h2 h3
  by_cases h6 : (foldR [] L).2 = 0
  · rw [if_pos h6] at h2 h3
    have h7 : floorsE L = ((foldR [] L).1, 0, -1) := by unfold floorsE; rw [h5, if_pos rfl, h6]
    refine ⟨by rw [h7], fun n => ?_⟩
    rw [h7, h3]
    exact (foldR_good M _ (foldR_good L [] goodF_nil h6).1 h2).2 n
  · rw [if_neg h6] at h2; exact absurd h2 h6
theorem floorsE_nil : floorsE [] = ([], 0, -1) := by unfold floorsE; rw [checkE_nil]; rfl
/-- With one entry more. -/
theorem floorsE_snoc {L : List Ent} {e : Ent} (h : (floorsE (L ++ [e])).2.1 = 0) : e.f.ep ≤ ofF (floorsE (L ++ [e])).1 e.f.who := by
  obtain ⟨h1, h2, h3, h4⟩ := floorsE_zero h
  rw [foldR_append] at h2 h3
  by_cases h6 : (foldR [] L).2 = 0
  · rw [if_pos h6] at h2 h3
    rw [h3]
    have hg := (foldR_good L [] goodF_nil h6).1
    generalize (foldR [] L).1 = F at *
    rw [foldR] at h2 ⊢
    by_cases h7 : (raiseF F e.f).2.1 = 0
    · rw [if_pos h7] at h2 ⊢
      obtain ⟨_, ho, _, he⟩ := raiseF_zero h7
      rw [he]
      show _ ≤ ofF (upF F e.f) e.f.who
      exact upF_own hg.g ho
    · rw [if_neg h7] at h2; exact absurd h2 h7
  · rw [if_neg h6] at h2; exact absurd h2 h6
theorem floorsE_len (L : List Ent) : (floorsE L).1.length ≤ 21 := by
  by_cases h : (floorsE L).2.1 = 0
  · obtain ⟨_, _, h3, h4⟩ := floorsE_zero h
    rw [h3]; exact h4.len
  · rw [floorsE_bad h]; simp
theorem floorsE_good {L : List Ent} (h : (floorsE L).2.1 = 0) : GoodF (floorsE L).1 := by
  obtain ⟨_, _, h3, h4⟩ := floorsE_zero h
  rw [h3]; exact h4

/-! A head. -/
structure Hd where
  seq : Int
  time : Int
  sum : Int
def noHd : Hd := ⟨0, 0, 0⟩
def headW : List UInt8 := [104, 101, 97, 100]
def headWords (n time sum : Int) : List (List UInt8) := [headW, Lib.itoa n, Lib.itoa time, Lib.itoa sum]
def headOf (key : Int) (L : List Ent) (time : Int) : List UInt8 × Nat × Int :=
  if isKey key = false then ([], 10, -1) else if (floorsE L).2.1 ≠ 0 then ([], (floorsE L).2)
  else if time < 0 ∨ 1000000 < time ∨ time < wasE L L.length then ([], 2, -1) else (sealText key (headWords L.length time (sumF (floorsE L).1)), 0, -1)
def ofHead : List (List UInt8) → Hd × Nat
  | [a, b, c, d] => if (decide (a = headW) && (number b 60).2 && (number c 1000000).2 && (number d 1000000006).2) = true then (⟨(number b 60).1, (number c 1000000).1, (number d 1000000006).1⟩, 0) else (noHd, 1)
  | _ => (noHd, 1)
def openH (key : Int) (s : List UInt8) : Hd × Nat := if (openOf key s).2 = 0 then ofHead (openOf key s).1 else (noHd, (openOf key s).2)
theorem headWords_words {n time sum : Int} (h1 : 0 ≤ n ∧ n ≤ 60) (h2 : 0 ≤ time ∧ time ≤ 1000000) (h3 : 0 ≤ sum ∧ sum ≤ 1000000006) : ∀ x ∈ headWords n time sum, isWord x = true := by
  intro x hx
  simp only [headWords, List.mem_cons, List.mem_nil_iff, or_false] at hx
  rcases hx with rfl | rfl | rfl | rfl
  · decide
  · exact itoa_word (by omega) (by omega)
  · exact itoa_word (by omega) (by omega)
  · exact itoa_word (by omega) (by omega)
theorem openH_seal {key n time sum : Int} (hk : isKey key = true) (h1 : 0 ≤ n ∧ n ≤ 60) (h2 : 0 ≤ time ∧ time ≤ 1000000) (h3 : 0 ≤ sum ∧ sum ≤ 1000000006) : openH key (sealText key (headWords n time sum)) = (⟨n, time, sum⟩, 0) := by
  unfold openH
  rw [open_of hk (by simp [headWords]) (by simp [headWords]) (headWords_words h1 h2 h3), if_pos rfl]
  unfold headWords ofHead
  dsimp only
  rw [number_itoa (most := 60) h1.1 (by omega) h1.2, number_itoa (most := 1000000) h2.1 (by omega) h2.2, number_itoa (most := 1000000006) h3.1 (by omega) h3.2]
  rfl
theorem headOf_zero {key : Int} {L : List Ent} {time : Int} (h : (headOf key L time).2.1 = 0) : isKey key = true ∧ (floorsE L).2.1 = 0 ∧ 0 ≤ time ∧ time ≤ 1000000 ∧ wasE L L.length ≤ time ∧
    headOf key L time = (sealText key (headWords L.length time (sumF (floorsE L).1)), 0, -1) ∧ openH key (headOf key L time).1 = (⟨L.length, time, sumF (floorsE L).1⟩, 0) := by
  unfold headOf at h ⊢
  by_cases hk : isKey key = false
  · rw [if_pos hk] at h; cases h
  rw [if_neg hk] at h ⊢
  by_cases hf : (floorsE L).2.1 = 0
  case neg => rw [if_pos hf] at h; exact absurd h hf
  rw [if_neg (by simpa using hf)] at h ⊢
  by_cases ht : time < 0 ∨ 1000000 < time ∨ time < wasE L L.length
  · rw [if_pos ht] at h; cases h
  rw [if_neg ht]
  have hk : isKey key = true := by simpa using hk
  have hl := (checkE_zero (L := L) (by rw [(floorsE_zero hf).1])).1
  exact ⟨hk, hf, by omega, by omega, by omega, rfl, openH_seal hk (by omega) (by omega) (sumF_bd _)⟩
theorem headOf_of {key : Int} {L : List Ent} {time : Int} (hk : isKey key = true) (hf : (floorsE L).2.1 = 0) (h0 : 0 ≤ time) (h1 : time ≤ 1000000) (hw : wasE L L.length ≤ time) : (headOf key L time).2.1 = 0 := by
  unfold headOf
  rw [if_neg (by rw [hk]; decide), if_neg (by simpa using hf), if_neg (by omega)]
theorem headOf_bad {key : Int} {L : List Ent} {time : Int} (h : (headOf key L time).2.1 ≠ 0) : (headOf key L time).1 = [] := by
  unfold headOf at h ⊢
  split
  · rfl
  · rename_i h1
    rw [if_neg h1] at h
    split
    · rfl
    · rename_i h2
      rw [if_neg h2] at h
      split
      · rfl
      · rename_i h3
        rw [if_neg h3] at h
        exact absurd rfl h
theorem openH_bad {key : Int} {s : List UInt8} (h : (openH key s).2 ≠ 0) : (openH key s).1 = noHd := by
  unfold openH at h ⊢
  split
  · rename_i h1
    rw [if_pos h1] at h
    match (openOf key s).1, h with
    | [a, b, c, d], h =>
      unfold ofHead at h ⊢
      dsimp only at h ⊢
      split
      · rename_i h2; rw [if_pos h2] at h; exact absurd rfl h
      · rfl
    | [], _ => rfl
    | [_], _ => rfl
    | [_, _], _ => rfl
    | [_, _, _], _ => rfl
    | _ :: _ :: _ :: _ :: _ :: _, _ => rfl
  · rfl
/-- Entries behind a number. -/
def sinceE (L : List Ent) (seq : Int) : List Ent × Nat × Int :=
  if (checkE L).1 ≠ 0 then ([], checkE L) else if seq < 0 then ([], 2, -1) else if (L.length : Int) < seq then ([], 15, -1) else (L.drop seq.toNat, 0, -1)
theorem sinceE_bad {L : List Ent} {seq : Int} (h : (sinceE L seq).2.1 ≠ 0) : (sinceE L seq).1 = [] := by
  unfold sinceE at h ⊢
  split
  · rfl
  · rename_i h1
    rw [if_neg h1] at h
    split
    · rfl
    · rename_i h2
      rw [if_neg h2] at h
      split
      · rfl
      · rename_i h3
        rw [if_neg h3] at h
        exact absurd rfl h
theorem sinceE_of {L : List Ent} (h : (checkE L).1 = 0) (seq : Int) : ((sinceE L seq).2.1 = 0 ↔ 0 ≤ seq ∧ seq ≤ L.length) ∧ (0 ≤ seq → seq ≤ L.length → sinceE L seq = (L.drop seq.toNat, 0, -1)) := by
  unfold sinceE
  rw [if_neg (by simpa using h)]
  by_cases h1 : seq < 0
  · rw [if_pos h1]
    exact ⟨⟨(fun e => by cases e), (fun e => by omega)⟩, (fun e => by omega)⟩
  rw [if_neg h1]
  by_cases h2 : (L.length : Int) < seq
  · rw [if_pos h2]
    exact ⟨⟨(fun e => by cases e), (fun e => by omega)⟩, (fun _ e => by omega)⟩
  rw [if_neg h2]
  exact ⟨⟨fun _ => ⟨by omega, by omega⟩, fun _ => rfl⟩, fun _ _ => rfl⟩

/-! Who follows. -/
structure Fol where
  key : Int
  l : List Ent
  floors : List Flo
  time : Int
  head : List UInt8
def newFol (key : Int) : Fol := ⟨key, [], [], -1, []⟩
def takeF (f : Fol) (s : List UInt8) (M : List Ent) : Nat × Fol :=
  if (openH f.key s).2 ≠ 0 then ((openH f.key s).2, f) else if (openH f.key s).1.time < f.time then (12, f)
  else if (openH f.key s).1.seq ≠ (f.l.length : Int) + M.length then (15, f) else if (floorsE (f.l ++ M)).2.1 ≠ 0 then ((floorsE (f.l ++ M)).2.1, f)
  else if sumF (floorsE (f.l ++ M)).1 ≠ (openH f.key s).1.sum then (9, f) else (0, ⟨f.key, f.l ++ M, (floorsE (f.l ++ M)).1, (openH f.key s).1.time, s⟩)
theorem takeF_bad {f : Fol} {s : List UInt8} {M : List Ent} (h : (takeF f s M).1 ≠ 0) : (takeF f s M).2 = f := by
  unfold takeF at h ⊢
  split
  · rfl
  rename_i h1
  rw [if_neg h1] at h
  split
  · rfl
  rename_i h2
  rw [if_neg h2] at h
  split
  · rfl
  rename_i h3
  rw [if_neg h3] at h
  split
  · rfl
  rename_i h4
  rw [if_neg h4] at h
  split
  · rfl
  rename_i h5
  rw [if_neg h5] at h
  exact absurd rfl h
theorem takeF_zero {f : Fol} {s : List UInt8} {M : List Ent} (h : (takeF f s M).1 = 0) : (openH f.key s).2 = 0 ∧ f.time ≤ (openH f.key s).1.time ∧ (openH f.key s).1.seq = (f.l.length : Int) + M.length ∧ (floorsE (f.l ++ M)).2.1 = 0 ∧
    sumF (floorsE (f.l ++ M)).1 = (openH f.key s).1.sum ∧ takeF f s M = (0, ⟨f.key, f.l ++ M, (floorsE (f.l ++ M)).1, (openH f.key s).1.time, s⟩) := by
  unfold takeF at h ⊢
  by_cases h1 : (openH f.key s).2 = 0
  case neg => rw [if_pos h1] at h; exact absurd h h1
  rw [if_neg (by simpa using h1)] at h ⊢
  by_cases h2 : (openH f.key s).1.time < f.time
  · rw [if_pos h2] at h; cases h
  rw [if_neg h2] at h ⊢
  by_cases h3 : (openH f.key s).1.seq = (f.l.length : Int) + M.length
  case neg => rw [if_pos h3] at h; cases h
  rw [if_neg (by simpa using h3)] at h ⊢
  by_cases h4 : (floorsE (f.l ++ M)).2.1 = 0
  case neg => rw [if_pos h4] at h; exact absurd h h4
  rw [if_neg (by simpa using h4)] at h ⊢
  by_cases h5 : sumF (floorsE (f.l ++ M)).1 = (openH f.key s).1.sum
  case neg => rw [if_pos h5] at h; cases h
  rw [if_neg (by simpa using h5)]
  exact ⟨h1, by omega, h3, h4, h5, rfl⟩
theorem takeF_of {f : Fol} {s : List UInt8} {M : List Ent} (h1 : (openH f.key s).2 = 0) (h2 : f.time ≤ (openH f.key s).1.time) (h3 : (openH f.key s).1.seq = (f.l.length : Int) + M.length) (h4 : (floorsE (f.l ++ M)).2.1 = 0)
    (h5 : sumF (floorsE (f.l ++ M)).1 = (openH f.key s).1.sum) : takeF f s M = (0, ⟨f.key, f.l ++ M, (floorsE (f.l ++ M)).1, (openH f.key s).1.time, s⟩) := by
  unfold takeF
  rw [if_neg (by simpa using h1), if_neg (by omega), if_neg (by simpa using h3), if_neg (by simpa using h4), if_neg (by simpa using h5)]
/-- What a follower has is right. -/
structure FolOk (f : Fol) : Prop where
  ok : floorsE f.l = (f.floors, 0, -1)
  t0 : -1 ≤ f.time ∧ f.time ≤ 1000000
theorem newFol_ok (key : Int) : FolOk (newFol key) := ⟨floorsE_nil, by simp [newFol]⟩
theorem openH_time {key : Int} {s : List UInt8} (h : (openH key s).2 = 0) : 0 ≤ (openH key s).1.time ∧ (openH key s).1.time ≤ 1000000 ∧ 0 ≤ (openH key s).1.seq ∧ (openH key s).1.seq ≤ 60 := by
  unfold openH at h ⊢
  split
  · rename_i h1
    rw [if_pos h1] at h
    match (openOf key s).1, h with
    | [a, b, c, d], h =>
      unfold ofHead at h ⊢
      dsimp only at h ⊢
      split
      · rename_i h2
        simp only [Bool.and_eq_true] at h2
        have := number_true h2.1.2
        have := number_true h2.1.1.2
        dsimp only
        omega
      · rename_i h2; rw [if_neg h2] at h; cases h
    | [], h => cases h
    | [_], h => cases h
    | [_, _], h => cases h
    | [_, _, _], h => cases h
    | _ :: _ :: _ :: _ :: _ :: _, h => cases h
  · rename_i h1; rw [if_neg h1] at h; exact absurd h h1
theorem take_ok {f : Fol} (hf : FolOk f) (s : List UInt8) (M : List Ent) : FolOk (takeF f s M).2 := by
  by_cases h : (takeF f s M).1 = 0
  · obtain ⟨h1, h2, h3, h4, h5, h6⟩ := takeF_zero h
    rw [h6]
    have := openH_time h1
    obtain ⟨_, _, h7, _⟩ := floorsE_zero h4
    refine ⟨?_, by dsimp only; omega⟩
    dsimp only
    rw [h7]
  · rw [takeF_bad h]; exact hf
end Go.Proofs.YtcnadjdijolboaaGreatDoor

/- A Go map as a list of keys with values: what a look-up, a store, delete and len do, of whatever program. -/
namespace Go.Proofs.YtcnadjdijolboaaGreatDoor
open Go.RowKit Go.MapKept

/-- Block r is a map that holds just these keys and values, in the order in which they came. -/
def MapV (d : TypeDesc) (w : World) (r : Nat) (l : List (Value × Value)) : Prop :=
  ∃ es clock, w.heap[r]? = some (.map es clock) ∧ Stamped es clock ∧ (∀ x ∈ es.toList, IsKey d x.key) ∧ es.toList.map (fun e => (e.key, e.val)) = l

/-- Of the blocks that there were all but those of S are as they were. -/
structure Keeps (S : Nat → Prop) (w w' : World) : Prop where
  os : w'.os = w.os
  tape : w'.tape = w.tape
  output : w'.output = w.output
  size : w.heap.size ≤ w'.heap.size
  block : ∀ k, k < w.heap.size → ¬ S k → w'.heap[k]? = w.heap[k]?
theorem Keeps.refl (S : Nat → Prop) (w : World) : Keeps S w w := ⟨rfl, rfl, rfl, Nat.le_refl _, fun _ _ _ => rfl⟩
theorem Keeps.of_below {S : Nat → Prop} {w w' : World} (h : Below w.heap.size w w') : Keeps S w w' := ⟨h.os, h.tape, h.output, h.size, fun k hk _ => h.block k hk⟩
theorem Keeps.trans {S : Nat → Prop} {a b c : World} (h : Keeps S a b) (k : Keeps S b c) : Keeps S a c :=
  ⟨k.os.trans h.os, k.tape.trans h.tape, k.output.trans h.output, Nat.le_trans h.size k.size, fun i hi hs => (k.block i (Nat.lt_of_lt_of_le hi h.size) hs).trans (h.block i hi hs)⟩
theorem Keeps.mono {S T : Nat → Prop} {w w' : World} (h : Keeps S w w') (hst : ∀ k, S k → T k) : Keeps T w w' :=
  ⟨h.os, h.tape, h.output, h.size, fun k hk hs => h.block k hk (fun hS => hs (hst k hS))⟩
theorem Keeps.below {S : Nat → Prop} {w w' : World} (h : Keeps S w w') {B : Nat} (hB : B ≤ w.heap.size) (hS : ∀ k, S k → B ≤ k) : Below B w w' :=
  ⟨h.os, h.tape, h.output, h.size, fun k hk => h.block k (Nat.lt_of_lt_of_le hk hB) (fun hs => by have := hS k hs; omega)⟩
theorem Keeps.obj {S : Nat → Prop} {w w' : World} (h : Keeps S w w') {b : Nat} {o : Obj} (hb : w.heap[b]? = some o) (hs : ¬ S b) : w'.heap[b]? = some o :=
  (h.block b (Array.getElem?_eq_some_iff.1 hb).1 hs).trans hb
theorem Keeps.cell {S : Nat → Prop} {w w' : World} (h : Keeps S w w') {a : Addr} {v : Value} (hc : w.cell? a = some v) (hs : ¬ S a.block) : w'.cell? a = some v :=
  (World.cell?_of_block (w := w) (h.block a.block (World.block_lt_of_cell? w a hc) hs)).trans hc
theorem Keeps.drew {S : Nat → Prop} {a w : World} (h : Keeps S a w) (n : Nat) : Keeps S a (w.drewN n) := ⟨h.os, h.tape, h.output, h.size, h.block⟩

section
variable {P : Program} {d : TypeDesc} {w : World} {r : Nat} {l : List (Value × Value)} {T K E : TypeId}

theorem MapV.keys_nodup (h : MapV d w r l) : (l.map Prod.fst).Nodup := by
  obtain ⟨es, clock, hb, hs, hk, rfl⟩ := h
  have := hs.2.2
  simpa [Function.comp_def] using this
theorem MapV.key (h : MapV d w r l) : ∀ p ∈ l, IsKey d p.1 := by
  obtain ⟨es, clock, hb, hs, hk, rfl⟩ := h
  intro p hp
  obtain ⟨e, he, rfl⟩ := List.mem_map.1 hp
  exact hk e he
theorem MapV.lt (h : MapV d w r l) : r < w.heap.size := by
  obtain ⟨es, clock, hb, _⟩ := h
  exact (Array.getElem?_eq_some_iff.1 hb).1
theorem MapV.keeps {S : Nat → Prop} {w' : World} (h : MapV d w r l) (hk : Keeps S w w') (hs : ¬ S r) : MapV d w' r l := by
  obtain ⟨es, clock, hb, rest⟩ := h
  exact ⟨es, clock, hk.obj hb hs, rest⟩
theorem MapV.below {w' : World} (h : MapV d w r l) (hk : Below w.heap.size w w') : MapV d w' r l :=
  h.keeps (S := fun _ => False) (Keeps.of_below hk) (fun h => h)
theorem MapV.new (w : World) : MapV d (w.alloc (.map #[] 0)) w.heap.size [] :=
  ⟨#[], 0, (MapKept.heap_alloc w _).1, stamped_empty 0, by simp, by simp⟩

theorem findNow_mem {k v : Value} {es : Array MapEntry} {clock : Nat} (hs : Stamped es clock) (hk : ∀ x ∈ es.toList, IsKey d x.key) (hkk : IsKey d k) (hm : (k, v) ∈ es.toList.map (fun e => (e.key, e.val))) :
    ∃ j e, Instr.findNow d k es.toList 0 = some (some (j, v)) ∧ es[j]? = some e ∧ e.key = k ∧ e.val = v := by
  obtain ⟨e0, he0, heq⟩ := List.mem_map.1 hm
  cases heq
  rcases findNow_spec hkk es.toList 0 hk with ⟨_, h2⟩ | ⟨j, e, h1, h2, h3⟩
  · exact absurd rfl (h2 e0 he0)
  · have hee : e = e0 := by
      obtain ⟨j0, hj0⟩ := List.mem_iff_getElem?.1 he0
      have hnd := hs.2.2
      have hj : (es.toList.map (·.key))[j]? = some e.key := by rw [List.getElem?_map, h2]; rfl
      have hj0' : (es.toList.map (·.key))[j0]? = some e.key := by rw [List.getElem?_map, hj0, h3]; rfl
      have hlt : j < (es.toList.map (·.key)).length := (List.getElem?_eq_some_iff.1 hj).1
      have := (List.getElem?_inj hlt hnd).1 (hj.trans hj0'.symm)
      subst this
      rw [h2] at hj0
      exact Option.some.inj hj0
    subst hee
    refine ⟨j, e, ?_, by simpa using h2, h3, rfl⟩
    rw [h1, Nat.zero_add]
theorem findNow_not {k : Value} {es : Array MapEntry} (hk : ∀ x ∈ es.toList, IsKey d x.key) (hkk : IsKey d k) (hn : ∀ v, (k, v) ∉ es.toList.map (fun e => (e.key, e.val))) :
    Instr.findNow d k es.toList 0 = some none ∧ ∀ x ∈ es.toList, x.key ≠ k := by
  rcases findNow_spec hkk es.toList 0 hk with h | ⟨j, e, h1, h2, h3⟩
  · exact h
  · exact absurd (List.mem_map.2 ⟨e, List.mem_of_getElem? h2, by rw [h3]⟩) (hn e.val)

theorem run_lookup_mem (hT : P.underlying T = some (.map K E)) (hK : P.underlying K = some d) (h : MapV d w r l) {k v : Value} (hkk : IsKey d k) (hm : (k, v) ∈ l) :
    (Instr.lookup T (.map (some r)) k true).run P w = .ok (.tuple #[v, .bool true]) w ∧ (Instr.lookup T (.map (some r)) k false).run P w = .ok v w := by
  obtain ⟨es, clock, hb, hs, hk, rfl⟩ := h
  obtain ⟨j, e, h1, _⟩ := findNow_mem hs hk hkk hm
  constructor
  · simp [Instr.lookup, run_underlying hT, MapKept.run_getObj_map hb, MapKept.run_checkKey hK hkk, MapKept.run_findKey hK h1, Result.andThen]
  · simp [Instr.lookup, run_underlying hT, MapKept.run_getObj_map hb, MapKept.run_checkKey hK hkk, MapKept.run_findKey hK h1, Result.andThen]
theorem run_lookup_not (hT : P.underlying T = some (.map K E)) (hK : P.underlying K = some d) (h : MapV d w r l) {k z : Value} (hkk : IsKey d k) (hn : ∀ v, (k, v) ∉ l) (hz : (zeroValue E).run P w = .ok z w) :
    (Instr.lookup T (.map (some r)) k true).run P w = .ok (.tuple #[z, .bool false]) w := by
  obtain ⟨es, clock, hb, hs, hk, rfl⟩ := h
  have h1 := (findNow_not hk hkk hn).1
  simp [Instr.lookup, run_underlying hT, MapKept.run_getObj_map hb, MapKept.run_checkKey hK hkk, MapKept.run_findKey hK h1, Result.andThen, hz]

/-- A world in which block r is another object. -/
def setObjAt (w : World) (r : Nat) (o : Obj) : World := { w with heap := w.heap.setIfInBounds r o }
theorem Keeps.ofSet (w : World) (r : Nat) (o : Obj) : Keeps (· = r) w (setObjAt w r o) :=
  ⟨rfl, rfl, rfl, by simp [setObjAt], fun k _ hs => by simp [setObjAt, Ne.symm hs]⟩

theorem run_update_mem (hT : P.underlying T = some (.map K E)) (hK : P.underlying K = some d) (h : MapV d w r l) {k v u : Value} (hkk : IsKey d k) (hm : (k, v) ∈ l) :
    ∃ w', (Instr.mapUpdate T (.map (some r)) k u).run P w = .ok () w' ∧ Keeps (· = r) w w' ∧ w'.heap.size = w.heap.size ∧ ∃ j, l[j]? = some (k, v) ∧ MapV d w' r (l.set j (k, u)) := by
  obtain ⟨es, clock, hb, hs, hk, rfl⟩ := h
  obtain ⟨j, e, h1, hj, h3, h4⟩ := findNow_mem hs hk hkk hm
  have hlt : r < w.heap.size := (Array.getElem?_eq_some_iff.1 hb).1
  have hkey : ∀ e', es[j]? = some e' → ({ e' with key := k, val := u } : MapEntry).key = e'.key := fun e' he' => by rw [hj] at he'; cases he'; exact h3.symm
  refine ⟨setObjAt w r (.map (es.modify j fun e => { e with key := k, val := u }) clock), ?_, Keeps.ofSet _ _ _, by simp [setObjAt], j, ?_, ?_⟩
  · simp [Instr.mapUpdate, run_underlying hT, MapKept.run_getObj_map hb, MapKept.run_checkKey hK hkk, MapKept.run_findKey hK h1, hj, h3, MapKept.run_keyThatStays hkk, MapKept.run_setObj_map _ hb, Result.andThen]
    rfl
  · rw [List.getElem?_map, show es.toList[j]? = some e by simpa using hj]
    simp [h3, h4]
  · refine ⟨es.modify j fun e => { e with key := k, val := u }, clock, by simp [setObjAt, hlt], stamped_modify hs j (fun e => { e with key := k, val := u }) (fun _ _ => rfl) (fun e' _ he' => hkey e' he'), isKey_modify hk j (fun e => { e with key := k, val := u }) hkey, ?_⟩
    apply List.ext_getElem?
    intro i
    rw [List.getElem?_map, List.getElem?_set, List.getElem?_map]
    simp only [Array.getElem?_toList, Array.getElem?_modify]
    by_cases hij : j = i
    · subst hij
      rw [if_pos rfl, hj, if_pos rfl]
      have : j < es.size := (Array.getElem?_eq_some_iff.1 hj).1
      simp [this]
    · rw [if_neg hij, if_neg hij]
theorem run_update_not (hT : P.underlying T = some (.map K E)) (hK : P.underlying K = some d) (h : MapV d w r l) {k u : Value} (hkk : IsKey d k) (hn : ∀ v, (k, v) ∉ l) :
    ∃ w', (Instr.mapUpdate T (.map (some r)) k u).run P w = .ok () w' ∧ Keeps (· = r) w w' ∧ w'.heap.size = w.heap.size ∧ MapV d w' r (l ++ [(k, u)]) := by
  obtain ⟨es, clock, hb, hs, hk, rfl⟩ := h
  obtain ⟨h1, h2⟩ := findNow_not hk hkk hn
  have hlt : r < w.heap.size := (Array.getElem?_eq_some_iff.1 hb).1
  refine ⟨setObjAt w r (.map (es.push { key := k, val := u, born := clock }) (clock + 1)), ?_, Keeps.ofSet _ _ _, by simp [setObjAt], ?_⟩
  · simp [Instr.mapUpdate, run_underlying hT, MapKept.run_getObj_map hb, MapKept.run_checkKey hK hkk, MapKept.run_findKey hK h1, MapKept.run_setObj_map _ hb, Result.andThen]
    rfl
  · refine ⟨es.push { key := k, val := u, born := clock }, clock + 1, by simp [setObjAt, hlt], stamped_push hs h2, ?_, by simp⟩
    intro x hx
    simp only [Array.toList_push, List.mem_append, List.mem_singleton] at hx
    rcases hx with hx | rfl
    · exact hk x hx
    · exact hkk
end
end Go.Proofs.YtcnadjdijolboaaGreatDoor
