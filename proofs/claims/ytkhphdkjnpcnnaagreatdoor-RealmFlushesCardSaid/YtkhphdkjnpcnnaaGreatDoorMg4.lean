/- FedP, Mark0, Texts, Name -/
import Derived.Test.YtkhphdkjnpcnnaaGreatDoorMg2
import Derived.Test.YtkhphdkjnpcnnaaGreatDoorMg3
import Derived.Test.YtkhphdkjnpcnnaaGreatDoorProg
import Derived.Test.YtkhphdkjnpcnnaaGreatDoorMg1
import Derived.WalkKit
import Derived.WalkSpells
import Derived.WalkLawsBesides
import Derived.Lib.Hide
import Derived.Deep.QuietTactic
import Derived.BigQuiet
import Derived.Deep.Draws
import Derived.Test.YtkhphdkjnpcnnaaGreatDoorShelf
/- Plain definitions and lemmas about feeds and who follows them: no program in sight. -/
namespace Go.Proofs.YtkhphdkjnpcnnaaGreatDoor

/-! Floors as a text. -/
def floW (f : Flo) : List UInt8 := f.who ++ 58 :: Lib.itoa f.ep
def textL (L : List Flo) : List UInt8 := if L.isEmpty then [45] else glue 44 (L.map floW)
def textF (L : List Flo) : List UInt8 × Nat × Int := if (checkF L).1 = 0 then (textL L, 0, -1) else ([], checkF L)
def sumF (L : List Flo) : Int := if (checkF L).1 = 0 then (markOf 1 (textL L)).1 else 0
theorem sumF_bd (L : List Flo) : 0 ≤ sumF L ∧ sumF L ≤ 1000000006 := by
  unfold sumF
  split
  · have := markOf_bd 1 (textL L); omega
  · omega

/-- An entry of a feed. -/
structure Ent where
  seq : Int
  time : Int
  f : Flo
def noEnt : Ent := ⟨0, 0, ⟨[], 0⟩⟩
theorem Ent.ext' {e g : Ent} (h : e.seq = g.seq) (h2 : e.time = g.time) (h3 : e.f = g.f) : e = g := by cases e; cases g; simp_all
/-- The time ahead of a place. -/
def wasE (L : List Ent) (i : Nat) : Int := if i = 0 then 0 else (L.getD (i - 1) noEnt).time
def entErr (was : Int) (i : Nat) (e : Ent) : Nat := if e.seq ≠ (i : Int) + 1 then 15 else if e.time < 0 ∨ 1000000 < e.time then 2 else if e.time < was then 8 else oneF e.f
def errAtE (L : List Ent) (i : Nat) : Nat := entErr (wasE L i) i (L.getD i noEnt)
/-- What feed.Check answers: an error's number, its place. -/
def checkE (L : List Ent) : Nat × Int :=
  if 60 < L.length then (7, -1) else match (List.range L.length).find? (fun i => errAtE L i != 0) with
  | none => (0, -1)
  | some i => (errAtE L i, (i : Int))
theorem checkE_full {L : List Ent} (h : 60 < L.length) : checkE L = (7, -1) := by unfold checkE; rw [if_pos h]
theorem checkE_none {L : List Ent} (h : ¬ 60 < L.length) (ha : ∀ i, i < L.length → errAtE L i = 0) : checkE L = (0, -1) := by
  unfold checkE
  rw [if_neg h]
  have : (List.range L.length).find? (fun i => errAtE L i != 0) = none := List.find?_eq_none.2 fun i hi => by
    rw [ha i (List.mem_range.1 hi)]; decide
  rw [this]
theorem checkE_some {L : List Ent} (h : ¬ 60 < L.length) (i : Nat) (hi : i < L.length) (hb : errAtE L i ≠ 0) (ha : ∀ j, j < i → errAtE L j = 0) : checkE L = (errAtE L i, (i : Int)) := by
  unfold checkE
  rw [if_neg h, find_range L.length i hi (by simpa using hb) (fun j hj => by rw [ha j hj]; decide)]
theorem checkE_zero {L : List Ent} (h : (checkE L).1 = 0) : ¬ 60 < L.length ∧ ∀ i, i < L.length → errAtE L i = 0 := by
  unfold checkE at h
  split at h
  · cases h
  · rename_i h1
    refine ⟨h1, fun i hi => ?_⟩
    cases hf : (List.range L.length).find? (fun i => errAtE L i != 0) with
    | none => simpa using List.find?_eq_none.1 hf i (List.mem_range.2 hi)
    | some j =>
      rw [hf] at h
      have := List.find?_some hf
      simp at this
      exact absurd h this
theorem checkE_ok {L : List Ent} (h : (checkE L).1 = 0) : checkE L = (0, -1) := checkE_none (checkE_zero h).1 (checkE_zero h).2
theorem oneF_le (f : Flo) : oneF f ≤ 16 := by unfold oneF; split <;> (try split) <;> omega
theorem entErr_le (was : Int) (i : Nat) (e : Ent) : entErr was i e ≤ 16 := by
  unfold entErr
  have := oneF_le e.f
  split
  · omega
  · split
    · omega
    · split <;> omega
theorem checkE_le (L : List Ent) : (checkE L).1 ≤ 16 := by
  unfold checkE
  split
  · simp
  · split
    · simp
    · exact entErr_le _ _ _
theorem getD_left {α : Type} (L M : List α) (d : α) {i : Nat} (h : i < L.length) : (L ++ M).getD i d = L.getD i d := by
  rw [List.getD_eq_getElem?_getD, List.getD_eq_getElem?_getD, List.getElem?_append_left h]
theorem errAtE_left (L M : List Ent) {i : Nat} (h : i < L.length) : errAtE (L ++ M) i = errAtE L i := by
  unfold errAtE wasE
  rw [getD_left L M _ h]
  by_cases h0 : i = 0
  · rw [if_pos h0, if_pos h0]
  · rw [if_neg h0, if_neg h0, getD_left L M _ (by omega)]
theorem errAtE_last (L : List Ent) (e : Ent) : errAtE (L ++ [e]) L.length = entErr (wasE L L.length) L.length e := by
  unfold errAtE wasE
  have h1 : (L ++ [e]).getD L.length noEnt = e := by rw [List.getD_eq_getElem?_getD, List.getElem?_append_right (Nat.le_refl _)]; simp
  rw [h1]
  by_cases h0 : L.length = 0
  · rw [if_pos h0, if_pos h0]
  · rw [if_neg h0, if_neg h0, getD_left L [e] _ (by omega)]
theorem checkE_left {L M : List Ent} (h : (checkE (L ++ M)).1 = 0) : checkE L = (0, -1) := by
  obtain ⟨h1, h2⟩ := checkE_zero h
  rw [List.length_append] at h1 h2
  exact checkE_none (by omega) fun i hi => by rw [← errAtE_left L M hi]; exact h2 i (by omega)
theorem checkE_snoc {L : List Ent} {e : Ent} (h : (checkE L).1 = 0) (hl : ¬ 60 ≤ L.length) (he : entErr (wasE L L.length) L.length e = 0) : checkE (L ++ [e]) = (0, -1) := by
  obtain ⟨h1, h2⟩ := checkE_zero h
  refine checkE_none (by rw [List.length_append, List.length_singleton]; omega) fun i hi => ?_
  rw [List.length_append, List.length_singleton] at hi
  by_cases h3 : i < L.length
  · rw [errAtE_left L [e] h3]; exact h2 i h3
  · have : i = L.length := by omega
    subst this
    rw [errAtE_last]; exact he
theorem checkE_nil : checkE [] = (0, -1) := checkE_none (by simp) (fun i hi => absurd hi (Nat.not_lt_zero _))
theorem entErr_zero {was : Int} {i : Nat} {e : Ent} (h : entErr was i e = 0) : e.seq = (i : Int) + 1 ∧ 0 ≤ e.time ∧ e.time ≤ 1000000 ∧ was ≤ e.time ∧ oneF e.f = 0 := by
  unfold entErr at h
  by_cases h1 : e.seq = (i : Int) + 1
  · rw [if_neg (by simpa using h1)] at h
    by_cases h2 : e.time < 0 ∨ 1000000 < e.time
    · rw [if_pos h2] at h; cases h
    · rw [if_neg h2] at h
      by_cases h3 : e.time < was
      · rw [if_pos h3] at h; cases h
      · rw [if_neg h3] at h
        exact ⟨h1, by omega, by omega, by omega, h⟩
  · rw [if_pos h1] at h; cases h
/-- Times of a right feed. -/
theorem time_of {L : List Ent} (h : (checkE L).1 = 0) {i : Nat} (hi : i < L.length) : 0 ≤ (L.getD i noEnt).time ∧ (L.getD i noEnt).time ≤ 1000000 ∧ wasE L i ≤ (L.getD i noEnt).time ∧ oneF (L.getD i noEnt).f = 0 := by
  have h1 := (checkE_zero h).2 i hi
  obtain ⟨_, h2, h3, h4, h5⟩ := entErr_zero h1
  exact ⟨h2, h3, h4, h5⟩
theorem wasE_mono {L : List Ent} (h : (checkE L).1 = 0) : ∀ {i j : Nat}, i ≤ j → j ≤ L.length → wasE L i ≤ wasE L j
  | i, 0, hij, _ => by have : i = 0 := by omega
                       subst this; exact Int.le_refl _
  | i, j + 1, hij, hj => by
    by_cases hi : i = j + 1
    · rw [hi]; exact Int.le_refl _
    · have h1 := wasE_mono h (i := i) (j := j) (by omega) (by omega)
      have h2 := (time_of h (i := j) (by omega)).2.2.1
      have h3 : wasE L (j + 1) = (L.getD j noEnt).time := by unfold wasE; rw [if_neg (by omega)]; rfl
      omega
theorem wasE_bd {L : List Ent} (h : (checkE L).1 = 0) {i : Nat} (hi : i ≤ L.length) : 0 ≤ wasE L i ∧ wasE L i ≤ 1000000 := by
  unfold wasE
  split
  · omega
  · have := time_of h (i := i - 1) (by omega)
    omega

/-- An entry more. -/
def addE (L : List Ent) (time : Int) (f : Flo) : List Ent × Nat × Int :=
  if (checkE L).1 ≠ 0 then ([], checkE L) else if 60 ≤ L.length then ([], 7, -1)
  else if entErr (wasE L L.length) L.length ⟨(L.length : Int) + 1, time, f⟩ ≠ 0 then ([], entErr (wasE L L.length) L.length ⟨(L.length : Int) + 1, time, f⟩, -1) else (L ++ [⟨(L.length : Int) + 1, time, f⟩], 0, -1)
theorem addE_zero {L : List Ent} {time : Int} {f : Flo} (h : (addE L time f).2.1 = 0) : checkE L = (0, -1) ∧ L.length < 60 ∧ entErr (wasE L L.length) L.length ⟨(L.length : Int) + 1, time, f⟩ = 0 ∧
    addE L time f = (L ++ [⟨(L.length : Int) + 1, time, f⟩], 0, -1) ∧ checkE (L ++ [⟨(L.length : Int) + 1, time, f⟩]) = (0, -1) := by
  unfold addE at h ⊢
  by_cases h1 : (checkE L).1 = 0
  · rw [if_neg (by simpa using h1)] at h ⊢
    by_cases h2 : 60 ≤ L.length
    · rw [if_pos h2] at h; cases h
    · rw [if_neg h2] at h ⊢
      by_cases h3 : entErr (wasE L L.length) L.length ⟨(L.length : Int) + 1, time, f⟩ = 0
      · rw [if_neg (by simpa using h3)]
        exact ⟨checkE_ok h1, by omega, h3, rfl, checkE_snoc h1 h2 h3⟩
      · rw [if_pos h3] at h; exact absurd h h3
  · rw [if_pos h1] at h; exact absurd h h1
theorem addE_bad {L : List Ent} {time : Int} {f : Flo} (h : (addE L time f).2.1 ≠ 0) : (addE L time f).1 = [] := by
  unfold addE at h ⊢
  split
  · rfl
  · rename_i h1
    rw [if_neg h1] at h
    split
    · rfl
    · rename_i h2
      rw [if_neg h2] at h
      split
      · rfl
      · rename_i h3
        rw [if_neg h3] at h
        exact absurd rfl h
theorem addE_le (L : List Ent) (time : Int) (f : Flo) : (addE L time f).2.1 ≤ 16 := by
  unfold addE
  split
  · exact checkE_le L
  · split
    · simp
    · split
      · exact entErr_le _ _ _
      · simp

/-- Floors of entries, from floors on: an error's number. -/
def foldR : List Flo → List Ent → List Flo × Nat
  | out, [] => (out, 0)
  | out, e :: L => if (raiseF out e.f).2.1 = 0 then foldR (raiseF out e.f).1 L else ([], (raiseF out e.f).2.1)
theorem foldR_append : ∀ (L M : List Ent) (out : List Flo), foldR out (L ++ M) = if (foldR out L).2 = 0 then foldR (foldR out L).1 M else foldR out L
  | [], M, out => by simp [foldR]
  | e :: L, M, out => by
    rw [List.cons_append, foldR, foldR]
    by_cases h : (raiseF out e.f).2.1 = 0
    · rw [if_pos h, if_pos h]; exact foldR_append L M _
    · rw [if_neg h, if_neg h, if_neg h]
theorem foldR_bad : ∀ (L : List Ent) (out : List Flo), (foldR out L).2 ≠ 0 → (foldR out L).1 = []
  | [], out, h => absurd rfl h
  | e :: L, out, h => by
    rw [foldR] at h ⊢
    by_cases h1 : (raiseF out e.f).2.1 = 0
    · rw [if_pos h1] at h ⊢; exact foldR_bad L _ h
    · rw [if_neg h1]
theorem raiseF_le (L : List Flo) (f : Flo) : (raiseF L f).2.1 ≤ 16 := by
  unfold raiseF
  split
  · split
    · split <;> simp
    · exact oneF_le f
  · unfold checkF
    split
    · simp
    · split
      · simp
      · unfold errAtF errF
        have := oneF_le (L.getD ‹_› ⟨[], 0⟩)
        dsimp only
        split
        · omega
        · split
          · omega
          · split <;> omega
theorem foldR_le : ∀ (L : List Ent) (out : List Flo), (foldR out L).2 ≤ 16
  | [], out => by simp [foldR]
  | e :: L, out => by
    rw [foldR]
    split
    · exact foldR_le L _
    · exact raiseF_le _ _
theorem goodF_nil : GoodF [] := ⟨⟨(fun _ h => by cases h), List.Pairwise.nil, (fun _ h => by cases h)⟩, by simp⟩
theorem foldR_good : ∀ (L : List Ent) (out : List Flo), GoodF out → (foldR out L).2 = 0 → GoodF (foldR out L).1 ∧ ∀ n, ofF out n ≤ ofF (foldR out L).1 n
  | [], out, h, _ => ⟨h, fun n => Int.le_refl _⟩
  | e :: L, out, h, h0 => by
    rw [foldR] at h0 ⊢
    by_cases h1 : (raiseF out e.f).2.1 = 0
    · rw [if_pos h1] at h0 ⊢
      obtain ⟨_, ho, hg, he⟩ := raiseF_zero h1
      rw [he] at h0 ⊢
      obtain ⟨h2, h3⟩ := foldR_good L _ hg h0
      exact ⟨h2, fun n => Int.le_trans (upF_mono h.g ho n) (h3 n)⟩
    · rw [if_neg h1] at h0; exact absurd h0 h1
/-- What feed.Floors answers. -/
def floorsE (L : List Ent) : List Flo × Nat × Int := if (checkE L).1 = 0 then ((foldR [] L).1, (foldR [] L).2, -1) else ([], checkE L)
theorem floorsE_zero {L : List Ent} (h : (floorsE L).2.1 = 0) : checkE L = (0, -1) ∧ (foldR [] L).2 = 0 ∧ floorsE L = ((foldR [] L).1, 0, -1) ∧ GoodF (foldR [] L).1 := by
  unfold floorsE at h ⊢
  by_cases h1 : (checkE L).1 = 0
  · rw [if_pos h1] at h ⊢
    have h2 : (foldR [] L).2 = 0 := h
    exact ⟨checkE_ok h1, h2, by rw [h2], (foldR_good L [] goodF_nil h2).1⟩
  · rw [if_neg h1] at h; exact absurd h h1
theorem floorsE_bad {L : List Ent} (h : (floorsE L).2.1 ≠ 0) : (floorsE L).1 = [] := by
  unfold floorsE at h ⊢
  split
  · rename_i h1
    rw [if_pos h1] at h
    exact foldR_bad L [] h
  · rfl
theorem floorsE_le (L : List Ent) : (floorsE L).2.1 ≤ 16 := by
  unfold floorsE
  split
  · exact foldR_le L []
  · exact checkE_le L
theorem floorsE_left {L M : List Ent} (h : (floorsE (L ++ M)).2.1 = 0) : (floorsE L).2.1 = 0 ∧ ∀ n, ofF (floorsE L).1 n ≤ ofF (floorsE (L ++ M)).1 n := by
  obtain ⟨h1, h2, h3, h4⟩ := floorsE_zero h
  have h5 := checkE_left (L := L) (M := M) (by rw [h1])
  rw [foldR_append] at h2 h3
  by_cases h6 : (foldR [] L).2 = 0
  · rw [if_pos h6] at h2 h3
    have h7 : floorsE L = ((foldR [] L).1, 0, -1) := by unfold floorsE; rw [h5, if_pos rfl, h6]
    refine ⟨by rw [h7], fun n => ?_⟩
    rw [h7, h3]
    exact (foldR_good M _ (foldR_good L [] goodF_nil h6).1 h2).2 n
  · rw [if_neg h6] at h2; exact absurd h2 h6
theorem floorsE_nil : floorsE [] = ([], 0, -1) := by unfold floorsE; rw [checkE_nil]; rfl
/-- With one entry more. -/
theorem floorsE_snoc {L : List Ent} {e : Ent} (h : (floorsE (L ++ [e])).2.1 = 0) : e.f.ep ≤ ofF (floorsE (L ++ [e])).1 e.f.who := by
  obtain ⟨h1, h2, h3, h4⟩ := floorsE_zero h
  rw [foldR_append] at h2 h3
  by_cases h6 : (foldR [] L).2 = 0
  · rw [if_pos h6] at h2 h3
    rw [h3]
    have hg := (foldR_good L [] goodF_nil h6).1
    generalize (foldR [] L).1 = F at *
    rw [foldR] at h2 ⊢
    by_cases h7 : (raiseF F e.f).2.1 = 0
    · rw [if_pos h7] at h2 ⊢
      obtain ⟨_, ho, _, he⟩ := raiseF_zero h7
      rw [he]
      show _ ≤ ofF (upF F e.f) e.f.who
      exact upF_own hg.g ho
    · rw [if_neg h7] at h2; exact absurd h2 h7
  · rw [if_neg h6] at h2; exact absurd h2 h6
theorem floorsE_len (L : List Ent) : (floorsE L).1.length ≤ 21 := by
  by_cases h : (floorsE L).2.1 = 0
  · obtain ⟨_, _, h3, h4⟩ := floorsE_zero h
    rw [h3]; exact h4.len
  · rw [floorsE_bad h]; simp
theorem floorsE_good {L : List Ent} (h : (floorsE L).2.1 = 0) : GoodF (floorsE L).1 := by
  obtain ⟨_, _, h3, h4⟩ := floorsE_zero h
  rw [h3]; exact h4

/-! A head. -/
structure Hd where
  seq : Int
  time : Int
  sum : Int
def noHd : Hd := ⟨0, 0, 0⟩
def headW : List UInt8 := [104, 101, 97, 100]
def headWords (n time sum : Int) : List (List UInt8) := [headW, Lib.itoa n, Lib.itoa time, Lib.itoa sum]
def headOf (key : Int) (L : List Ent) (time : Int) : List UInt8 × Nat × Int :=
  if isKey key = false then ([], 10, -1) else if (floorsE L).2.1 ≠ 0 then ([], (floorsE L).2)
  else if time < 0 ∨ 1000000 < time ∨ time < wasE L L.length then ([], 2, -1) else (sealText key (headWords L.length time (sumF (floorsE L).1)), 0, -1)
def ofHead : List (List UInt8) → Hd × Nat
  | [a, b, c, d] => if (decide (a = headW) && (number b 60).2 && (number c 1000000).2 && (number d 1000000006).2) = true then (⟨(number b 60).1, (number c 1000000).1, (number d 1000000006).1⟩, 0) else (noHd, 1)
  | _ => (noHd, 1)
def openH (key : Int) (s : List UInt8) : Hd × Nat := if (openOf key s).2 = 0 then ofHead (openOf key s).1 else (noHd, (openOf key s).2)
theorem headWords_words {n time sum : Int} (h1 : 0 ≤ n ∧ n ≤ 60) (h2 : 0 ≤ time ∧ time ≤ 1000000) (h3 : 0 ≤ sum ∧ sum ≤ 1000000006) : ∀ x ∈ headWords n time sum, isWord x = true := by
  intro x hx
  simp only [headWords, List.mem_cons, List.mem_nil_iff, or_false] at hx
  rcases hx with rfl | rfl | rfl | rfl
  · decide
  · exact itoa_word (by omega) (by omega)
  · exact itoa_word (by omega) (by omega)
  · exact itoa_word (by omega) (by omega)
theorem openH_seal {key n time sum : Int} (hk : isKey key = true) (h1 : 0 ≤ n ∧ n ≤ 60) (h2 : 0 ≤ time ∧ time ≤ 1000000) (h3 : 0 ≤ sum ∧ sum ≤ 1000000006) : openH key (sealText key (headWords n time sum)) = (⟨n, time, sum⟩, 0) := by
  unfold openH
  rw [open_of hk (by simp [headWords]) (by simp [headWords]) (headWords_words h1 h2 h3), if_pos rfl]
  unfold headWords ofHead
  dsimp only
  rw [number_itoa (most := 60) h1.1 (by omega) h1.2, number_itoa (most := 1000000) h2.1 (by omega) h2.2, number_itoa (most := 1000000006) h3.1 (by omega) h3.2]
  rfl
theorem headOf_zero {key : Int} {L : List Ent} {time : Int} (h : (headOf key L time).2.1 = 0) : isKey key = true ∧ (floorsE L).2.1 = 0 ∧ 0 ≤ time ∧ time ≤ 1000000 ∧ wasE L L.length ≤ time ∧
    headOf key L time = (sealText key (headWords L.length time (sumF (floorsE L).1)), 0, -1) ∧ openH key (headOf key L time).1 = (⟨L.length, time, sumF (floorsE L).1⟩, 0) := by
  unfold headOf at h ⊢
  by_cases hk : isKey key = false
  · rw [if_pos hk] at h; cases h
  rw [if_neg hk] at h ⊢
  by_cases hf : (floorsE L).2.1 = 0
  case neg => rw [if_pos hf] at h; exact absurd h hf
  rw [if_neg (by simpa using hf)] at h ⊢
  by_cases ht : time < 0 ∨ 1000000 < time ∨ time < wasE L L.length
  · rw [if_pos ht] at h; cases h
  rw [if_neg ht]
  have hk : isKey key = true := by simpa using hk
  have hl := (checkE_zero (L := L) (by rw [(floorsE_zero hf).1])).1
  exact ⟨hk, hf, by omega, by omega, by omega, rfl, openH_seal hk (by omega) (by omega) (sumF_bd _)⟩
theorem headOf_of {key : Int} {L : List Ent} {time : Int} (hk : isKey key = true) (hf : (floorsE L).2.1 = 0) (h0 : 0 ≤ time) (h1 : time ≤ 1000000) (hw : wasE L L.length ≤ time) : (headOf key L time).2.1 = 0 := by
  unfold headOf
  rw [if_neg (by rw [hk]; decide), if_neg (by simpa using hf), if_neg (by omega)]
theorem headOf_bad {key : Int} {L : List Ent} {time : Int} (h : (headOf key L time).2.1 ≠ 0) : (headOf key L time).1 = [] := by
  unfold headOf at h ⊢
  split
  · rfl
  · rename_i h1
    rw [if_neg h1] at h
    split
    · rfl
    · rename_i h2
      rw [if_neg h2] at h
      split
      · rfl
      · rename_i h3
        rw [if_neg h3] at h
        exact absurd rfl h
theorem openH_bad {key : Int} {s : List UInt8} (h : (openH key s).2 ≠ 0) : (openH key s).1 = noHd := by
  unfold openH at h ⊢
  split
  · rename_i h1
    rw [if_pos h1] at h
    match (openOf key s).1, h with
    | [a, b, c, d], h =>
      unfold ofHead at h ⊢
      dsimp only at h ⊢
      split
      · rename_i h2; rw [if_pos h2] at h; exact absurd rfl h
      · rfl
    | [], _ => rfl
    | [_], _ => rfl
    | [_, _], _ => rfl
    | [_, _, _], _ => rfl
    | _ :: _ :: _ :: _ :: _ :: _, _ => rfl
  · rfl
/-- Entries behind a number. -/
def sinceE (L : List Ent) (seq : Int) : List Ent × Nat × Int :=
  if (checkE L).1 ≠ 0 then ([], checkE L) else if seq < 0 then ([], 2, -1) else if (L.length : Int) < seq then ([], 15, -1) else (L.drop seq.toNat, 0, -1)
theorem sinceE_bad {L : List Ent} {seq : Int} (h : (sinceE L seq).2.1 ≠ 0) : (sinceE L seq).1 = [] := by
  unfold sinceE at h ⊢
  split
  · rfl
  · rename_i h1
    rw [if_neg h1] at h
    split
    · rfl
    · rename_i h2
      rw [if_neg h2] at h
      split
      · rfl
      · rename_i h3
        rw [if_neg h3] at h
        exact absurd rfl h
theorem sinceE_of {L : List Ent} (h : (checkE L).1 = 0) (seq : Int) : ((sinceE L seq).2.1 = 0 ↔ 0 ≤ seq ∧ seq ≤ L.length) ∧ (0 ≤ seq → seq ≤ L.length → sinceE L seq = (L.drop seq.toNat, 0, -1)) := by
  unfold sinceE
  rw [if_neg (by simpa using h)]
  by_cases h1 : seq < 0
  · rw [if_pos h1]
    exact ⟨⟨(fun e => by cases e), (fun e => by omega)⟩, (fun e => by omega)⟩
  rw [if_neg h1]
  by_cases h2 : (L.length : Int) < seq
  · rw [if_pos h2]
    exact ⟨⟨(fun e => by cases e), (fun e => by omega)⟩, (fun _ e => by omega)⟩
  rw [if_neg h2]
  exact ⟨⟨fun _ => ⟨by omega, by omega⟩, fun _ => rfl⟩, fun _ _ => rfl⟩

/-! Who follows. -/
structure Fol where
  key : Int
  l : List Ent
  floors : List Flo
  time : Int
  head : List UInt8
def newFol (key : Int) : Fol := ⟨key, [], [], -1, []⟩
def takeF (f : Fol) (s : List UInt8) (M : List Ent) : Nat × Fol :=
  if (openH f.key s).2 ≠ 0 then ((openH f.key s).2, f) else if (openH f.key s).1.time < f.time then (12, f)
  else if (openH f.key s).1.seq ≠ (f.l.length : Int) + M.length then (15, f) else if (floorsE (f.l ++ M)).2.1 ≠ 0 then ((floorsE (f.l ++ M)).2.1, f)
  else if sumF (floorsE (f.l ++ M)).1 ≠ (openH f.key s).1.sum then (9, f) else (0, ⟨f.key, f.l ++ M, (floorsE (f.l ++ M)).1, (openH f.key s).1.time, s⟩)
theorem takeF_bad {f : Fol} {s : List UInt8} {M : List Ent} (h : (takeF f s M).1 ≠ 0) : (takeF f s M).2 = f := by
  unfold takeF at h ⊢
  split
  · rfl
  rename_i h1
  rw [if_neg h1] at h
  split
  · rfl
  rename_i h2
  rw [if_neg h2] at h
  split
  · rfl
  rename_i h3
  rw [if_neg h3] at h
  split
  · rfl
  rename_i h4
  rw [if_neg h4] at h
  split
  · rfl
  rename_i h5
  rw [if_neg h5] at h
  exact absurd rfl h
theorem takeF_zero {f : Fol} {s : List UInt8} {M : List Ent} (h : (takeF f s M).1 = 0) : (openH f.key s).2 = 0 ∧ f.time ≤ (openH f.key s).1.time ∧ (openH f.key s).1.seq = (f.l.length : Int) + M.length ∧ (floorsE (f.l ++ M)).2.1 = 0 ∧
    sumF (floorsE (f.l ++ M)).1 = (openH f.key s).1.sum ∧ takeF f s M = (0, ⟨f.key, f.l ++ M, (floorsE (f.l ++ M)).1, (openH f.key s).1.time, s⟩) := by
  unfold takeF at h ⊢
  by_cases h1 : (openH f.key s).2 = 0
  case neg => rw [if_pos h1] at h; exact absurd h h1
  rw [if_neg (by simpa using h1)] at h ⊢
  by_cases h2 : (openH f.key s).1.time < f.time
  · rw [if_pos h2] at h; cases h
  rw [if_neg h2] at h ⊢
  by_cases h3 : (openH f.key s).1.seq = (f.l.length : Int) + M.length
  case neg => rw [if_pos h3] at h; cases h
  rw [if_neg (by simpa using h3)] at h ⊢
  by_cases h4 : (floorsE (f.l ++ M)).2.1 = 0
  case neg => rw [if_pos h4] at h; exact absurd h h4
  rw [if_neg (by simpa using h4)] at h ⊢
  by_cases h5 : sumF (floorsE (f.l ++ M)).1 = (openH f.key s).1.sum
  case neg => rw [if_pos h5] at h; cases h
  rw [if_neg (by simpa using h5)]
  exact ⟨h1, by omega, h3, h4, h5, rfl⟩
theorem takeF_of {f : Fol} {s : List UInt8} {M : List Ent} (h1 : (openH f.key s).2 = 0) (h2 : f.time ≤ (openH f.key s).1.time) (h3 : (openH f.key s).1.seq = (f.l.length : Int) + M.length) (h4 : (floorsE (f.l ++ M)).2.1 = 0)
    (h5 : sumF (floorsE (f.l ++ M)).1 = (openH f.key s).1.sum) : takeF f s M = (0, ⟨f.key, f.l ++ M, (floorsE (f.l ++ M)).1, (openH f.key s).1.time, s⟩) := by
  unfold takeF
  rw [if_neg (by simpa using h1), if_neg (by omega), if_neg (by simpa using h3), if_neg (by simpa using h4), if_neg (by simpa using h5)]
/-- What a follower has is right. -/
structure FolOk (f : Fol) : Prop where
  ok : floorsE f.l = (f.floors, 0, -1)
  t0 : -1 ≤ f.time ∧ f.time ≤ 1000000
theorem newFol_ok (key : Int) : FolOk (newFol key) := ⟨floorsE_nil, by simp [newFol]⟩
theorem openH_time {key : Int} {s : List UInt8} (h : (openH key s).2 = 0) : 0 ≤ (openH key s).1.time ∧ (openH key s).1.time ≤ 1000000 ∧ 0 ≤ (openH key s).1.seq ∧ (openH key s).1.seq ≤ 60 := by
  unfold openH at h ⊢
  split
  · rename_i h1
    rw [if_pos h1] at h
    match (openOf key s).1, h with
    | [a, b, c, d], h =>
      unfold ofHead at h ⊢
      dsimp only at h ⊢
      split
      · rename_i h2
        simp only [Bool.and_eq_true] at h2
        have := number_true h2.1.2
        have := number_true h2.1.1.2
        dsimp only
        omega
      · rename_i h2; rw [if_neg h2] at h; cases h
    | [], h => cases h
    | [_], h => cases h
    | [_, _], h => cases h
    | [_, _, _], h => cases h
    | _ :: _ :: _ :: _ :: _ :: _, h => cases h
  · rename_i h1; rw [if_neg h1] at h; exact absurd h h1
theorem take_ok {f : Fol} (hf : FolOk f) (s : List UInt8) (M : List Ent) : FolOk (takeF f s M).2 := by
  by_cases h : (takeF f s M).1 = 0
  · obtain ⟨h1, h2, h3, h4, h5, h6⟩ := takeF_zero h
    rw [h6]
    have := openH_time h1
    obtain ⟨_, _, h7, _⟩ := floorsE_zero h4
    refine ⟨?_, by dsimp only; omega⟩
    dsimp only
    rw [h7]
  · rw [takeF_bad h]; exact hf
end Go.Proofs.YtkhphdkjnpcnnaaGreatDoor

/- Errors as values, the sentinels' variables, small lemmas, mark.Key. -/
namespace Go.Proofs.YtkhphdkjnpcnnaaGreatDoor
open Go.RowKit

/-- An error by its number (0: nil). -/
def errV (E : Nat → Addr) : Nat → Value
  | 0 => .nilIface
  | c + 1 => .iface 309 (.pointer (some (E (c + 1))))
theorem errV_zero (E : Nat → Addr) : errV E 0 = .nilIface := rfl
theorem errV_succ (E : Nat → Addr) (c : Nat) : errV E (c + 1) = .iface 309 (.pointer (some (E (c + 1)))) := rfl

/-- The sentinels of package api lie at E, each in a row of its own. -/
structure Laid (E : Nat → Addr) (w : World) : Prop where
  e1 : w.cell? ⟨7, 0, none⟩ = some (errV E 1)
  e2 : w.cell? ⟨1, 0, none⟩ = some (errV E 2)
  e3 : w.cell? ⟨9, 0, none⟩ = some (errV E 3)
  e4 : w.cell? ⟨2, 0, none⟩ = some (errV E 4)
  e5 : w.cell? ⟨4, 0, none⟩ = some (errV E 5)
  e6 : w.cell? ⟨10, 0, none⟩ = some (errV E 6)
  e7 : w.cell? ⟨8, 0, none⟩ = some (errV E 7)
  e8 : w.cell? ⟨11, 0, none⟩ = some (errV E 8)
  e9 : w.cell? ⟨6, 0, none⟩ = some (errV E 9)
  e10 : w.cell? ⟨0, 0, none⟩ = some (errV E 10)
  e11 : w.cell? ⟨12, 0, none⟩ = some (errV E 11)
  e12 : w.cell? ⟨13, 0, none⟩ = some (errV E 12)
  e13 : w.cell? ⟨3, 0, none⟩ = some (errV E 13)
  e14 : w.cell? ⟨14, 0, none⟩ = some (errV E 14)
  e15 : w.cell? ⟨15, 0, none⟩ = some (errV E 15)
  e16 : w.cell? ⟨5, 0, none⟩ = some (errV E 16)
theorem cell_below {w w' : World} (hb : Below w.heap.size w w') {a : Addr} {v : Value} (h : w.cell? a = some v) : w'.cell? a = some v :=
  (hb.cell (World.block_lt_of_cell? w a h)).trans h
theorem Laid.below {E : Nat → Addr} {w w' : World} (h : Laid E w) (hb : Below w.heap.size w w') : Laid E w' where
  e1 := cell_below hb h.e1
  e2 := cell_below hb h.e2
  e3 := cell_below hb h.e3
  e4 := cell_below hb h.e4
  e5 := cell_below hb h.e5
  e6 := cell_below hb h.e6
  e7 := cell_below hb h.e7
  e8 := cell_below hb h.e8
  e9 := cell_below hb h.e9
  e10 := cell_below hb h.e10
  e11 := cell_below hb h.e11
  e12 := cell_below hb h.e12
  e13 := cell_below hb h.e13
  e14 := cell_below hb h.e14
  e15 := cell_below hb h.e15
  e16 := cell_below hb h.e16
theorem below_drawn {B : Nat} {a w : World} (h : Below B a w) (n : Nat) : Below B a (w.drewN n) := ⟨h.os, h.tape, h.output, h.size, h.block⟩
theorem below_trans {w w1 w2 : World} (h : Below w.heap.size w w1) (h' : Below w1.heap.size w1 w2) : Below w.heap.size w w2 := h.trans (h'.mono h.size)
theorem ret_int {a b : Int} (h : a = b) : Ending.returned (.int .i64 a) = .returned (.int .i64 b) := by rw [h]
theorem ret_bool {a b : Bool} (h : a = b) : Ending.returned (.bool a) = .returned (.bool b) := by rw [h]
theorem ret_int2 {a b : Int} {v : Value} (h : a = b) : Ending.returned (.tuple #[.int .i64 a, v]) = .returned (.tuple #[.int .i64 b, v]) := by rw [h]
theorem key_any (k : Int) (w : World) :
    Calls Tryz.prog 33 #[.int .i64 k] w fun e w' => e = .returned (.bool (isKey k)) ∧ w = w' := by
  unfold isKey
  by_cases h : 1 ≤ k <;> by_cases h2 : k ≤ 1000000006
  all_goals
    go_enter Tryz.func33, Tryz.ntmps33
    go_wp2
    go_ret
    exact ⟨by simp [h, h2], rfl⟩
end Go.Proofs.YtkhphdkjnpcnnaaGreatDoor

/- A slice of texts in memory. -/
namespace Go.Proofs.YtkhphdkjnpcnnaaGreatDoor
open Go.RowKit

/-- A slice of texts. -/
def TextsAt (w : World) (v : Value) (N : List (List UInt8)) : Prop :=
  ∃ a c, v = .slice a N.length c ∧ N.length ≤ maxLen ∧ N.length ≤ c ∧ ∀ i (h : i < N.length), ∃ b o, a = some ⟨b, o, none⟩ ∧ w.cell? ⟨b, o + i, none⟩ = some (.string (bs N[i]))
theorem TextsAt.below {w w' : World} {v : Value} {N : List (List UInt8)} (h : TextsAt w v N) (hb : Below w.heap.size w w') : TextsAt w' v N := by
  obtain ⟨a, c, h1, h2, hcap, h3⟩ := h
  refine ⟨a, c, h1, h2, hcap, fun i hi => ?_⟩
  obtain ⟨b, o, h4, h5⟩ := h3 i hi
  exact ⟨b, o, h4, cell_below hb h5⟩
theorem toList_data (s : ByteArray) : s.toList = s.data.toList := ByteArray.toList_eq s
theorem bs_size (n : List UInt8) : (bs n).size = n.length := by simp [bs, ByteArray.size]
end Go.Proofs.YtkhphdkjnpcnnaaGreatDoor

/- seal.Name, by its contract. -/
namespace Go.Proofs.YtkhphdkjnpcnnaaGreatDoor
open Go.RowKit

set_option maxRecDepth 100000 in
theorem trim_small (s : ByteArray) (w : World) (hs : s.size ≤ maxLen) :
    Calls Tryz.prog 170 #[.string s, .string (bs smallCs)] w fun e w' => e = .returned (.string (bs (Lib.trimS s.data.toList smallCs))) ∧ Below w.heap.size w w' :=
  Any.strings_Trim_laid Tryz.trim160 (by kernel_rfl) s (bs smallCs) w hs (by decide) (ascii_of_all (by decide))
set_option maxRecDepth 100000 in
theorem name_any (s : ByteArray) (w : World) (hs : s.size ≤ maxLen) :
    Calls Tryz.prog 136 #[.string s] w fun e w' => e = .returned (.bool (isName s.data.toList)) ∧ Below w.heap.size w w' := by
  have ht := trim_small s w hs
  have hlen : s.data.toList.length = s.size := Array.length_toList
  have htl : s.toList = s.data.toList := toList_data s
  unfold maxLen at hs
  by_cases h0 : s.data.toList = []
  · have hr := Lib.hid (show isName s.data.toList = false by rw [h0]; rfl)
    have hte : s.toList = [] := by rw [htl, h0]
    clear ht hlen htl h0
    go_enter Tryz.func136, Tryz.ntmps136
    go_wp2_with fail
    go_ret
    exact ⟨ret_bool hr.out.symm, Below.refl _ _⟩
  · have hte : s.toList.isEmpty = false := by rw [htl]; simpa using h0
    have h1 : 1 ≤ s.size := by
      rcases Nat.eq_zero_or_pos s.size with h | h
      · exact absurd (List.eq_nil_of_length_eq_zero (hlen.trans h)) h0
      · exact h
    by_cases h8 : s.size ≤ 8
    · have ht := Lib.hid ht
      by_cases hall : Lib.trimS s.data.toList smallCs = []
      · have hr := Lib.hid (show isName s.data.toList = true from (isName_iff _).2 ⟨by omega, by omega, fun c hc => by rw [← smallCs_contains]; exact (trimS_nil_iff _ _).1 hall c hc⟩)
        clear hlen htl h0
        have he : (bs []).toList = [] := by rw [toList_data]; rfl
        go_enter Tryz.func136, Tryz.ntmps136
        go_wp2_with fail
        refine ht.out.mono ?_
        rintro e w1 ⟨rfl, hb⟩
        rw [hall]
        clear hall
        go_wp2_with fail
        go_ret
        exact ⟨ret_bool hr.out.symm, hb⟩
      · have hr := Lib.hid (show isName s.data.toList = false by
          cases hn : isName s.data.toList with
          | false => rfl
          | true =>
            obtain ⟨_, _, h⟩ := (isName_iff _).1 hn
            exact absurd ((trimS_nil_iff _ _).2 (fun c hc => by rw [smallCs_contains]; exact h c hc)) hall)
        clear hlen htl h0
        have he : (bs (Lib.trimS s.data.toList smallCs)).toList.isEmpty = false := by rw [toList_data, bs_list]; simpa using hall
        generalize bs (Lib.trimS s.data.toList smallCs) = t at *
        clear hall
        go_enter Tryz.func136, Tryz.ntmps136
        go_wp2_with fail
        refine ht.out.mono ?_
        rintro e w1 ⟨rfl, hb⟩
        go_wp2_with fail
        go_ret
        exact ⟨ret_bool hr.out.symm, hb⟩
    · have hr := Lib.hid (show isName s.data.toList = false by
        cases hn : isName s.data.toList with
        | false => rfl
        | true => obtain ⟨_, h, _⟩ := (isName_iff _).1 hn; omega)
      clear ht hlen htl h0
      go_enter Tryz.func136, Tryz.ntmps136
      go_wp2_with fail
      go_ret
      exact ⟨ret_bool hr.out.symm, Below.refl _ _⟩
end Go.Proofs.YtkhphdkjnpcnnaaGreatDoor
