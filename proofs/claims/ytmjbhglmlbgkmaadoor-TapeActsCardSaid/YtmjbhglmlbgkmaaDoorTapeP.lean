/- Plain definitions and lemmas about a tape of records: no program in sight. -/
import Derived.Test.YtmjbhglmlbgkmaaDoorTick
namespace Go.Proofs.YtmjbhglmlbgkmaaDoor

/-- A text, cut at the first of a byte. -/
def firstCut (c : UInt8) : List UInt8 → Option (List UInt8 × List UInt8)
  | [] => none
  | a :: l => if a = c then some ([], l) else match firstCut c l with
    | none => none
    | some (h, t) => some (a :: h, t)
theorem firstCut_none (c : UInt8) : ∀ l, firstCut c l = none ↔ c ∉ l
  | [] => by simp [firstCut]
  | a :: l => by
    have ih := firstCut_none c l
    unfold firstCut
    by_cases h : a = c
    · subst h; simp
    · rw [if_neg h]
      cases hf : firstCut c l with
      | none =>
        have := ih.1 hf
        simp only [List.mem_cons, not_or, true_iff]
        exact ⟨fun e => h e.symm, this⟩
      | some x =>
        obtain ⟨p, q⟩ := x
        have hm : ¬ c ∉ l := fun hn => by rw [ih.2 hn] at hf; cases hf
        simp only [List.mem_cons, not_or]
        constructor
        · intro e; cases e
        · intro e; exact absurd e.2 hm
theorem firstCut_some (c : UInt8) : ∀ (l h t : List UInt8), firstCut c l = some (h, t) → l = h ++ c :: t ∧ c ∉ h
  | [], h, t, e => by cases e
  | a :: l, h, t, e => by
    unfold firstCut at e
    by_cases ha : a = c
    · rw [if_pos ha] at e
      cases e
      subst ha
      exact ⟨rfl, by simp⟩
    · rw [if_neg ha] at e
      cases hf : firstCut c l with
      | none => rw [hf] at e; cases e
      | some x =>
        obtain ⟨p, q⟩ := x
        rw [hf] at e
        dsimp only at e
        obtain ⟨rfl, rfl⟩ := Prod.mk.inj (Option.some.inj e)
        obtain ⟨e1, e2⟩ := firstCut_some c l p _ hf
        exact ⟨by rw [e1]; rfl, fun hm => (List.mem_cons.1 hm).elim (fun e => ha e.symm) e2⟩
theorem firstCut_of {c : UInt8} : ∀ {h t : List UInt8}, c ∉ h → firstCut c (h ++ c :: t) = some (h, t)
  | [], t, _ => by unfold firstCut; simp
  | a :: h, t, hn => by
    simp only [List.mem_cons, not_or] at hn
    have := firstCut_of (h := h) (t := t) hn.2
    rw [List.cons_append]
    unfold firstCut
    rw [if_neg (fun e => hn.1 e.symm), this]

/-- A record of a text. -/
def recordT (s : List UInt8) : List UInt8 := Lib.itoa (s.length : Int) ++ 58 :: (s ++ [10, 46])
/-- One record at the beginning. -/
def oneT (b : List UInt8) : Option (List UInt8) := match firstCut 58 b with
  | none => none
  | some (d, r) => match numOf d with
    | none => none
    | some n => if n ≤ 4000 ∧ n + 2 ≤ r.length ∧ (r.drop n).take 2 = [10, 46] then some (r.take n) else none
theorem itoa_no_colon {n : Int} (h0 : 0 ≤ n) : (58 : UInt8) ∉ Lib.itoa n := by
  intro hm
  have := List.all_eq_true.1 (itoa_digits h0) 58 hm
  revert this
  decide
theorem oneT_record {s t : List UInt8} (h : s.length ≤ 4000) : oneT (recordT s ++ t) = some s := by
  have h0 : (0 : Int) ≤ (s.length : Int) := by omega
  unfold oneT recordT
  rw [List.append_assoc, List.cons_append, firstCut_of (itoa_no_colon h0)]
  dsimp only
  rw [numOf_itoa (itoa_len10 h0 (by omega))]
  dsimp only
  rw [if_pos]
  · rw [List.append_assoc, List.take_left]
  · refine ⟨h, by simp only [List.length_append, List.length_cons, List.length_nil]; omega, ?_⟩
    rw [List.append_assoc, List.drop_left]
    rfl
theorem oneT_some {b s : List UInt8} (h : oneT b = some s) : s.length ≤ 4000 ∧ ∃ t, b = recordT s ++ t := by
  unfold oneT at h
  cases hf : firstCut 58 b with
  | none => rw [hf] at h; cases h
  | some x =>
    obtain ⟨d, r⟩ := x
    rw [hf] at h
    dsimp only at h
    obtain ⟨e1, e2⟩ := firstCut_some 58 b d r hf
    cases hn : numOf d with
    | none => rw [hn] at h; cases h
    | some n =>
      rw [hn] at h
      dsimp only at h
      obtain ⟨_, _, _, hi⟩ := numOf_some hn
      split at h
      · rename_i hc
        obtain ⟨c1, c2, c3⟩ := hc
        cases h
        have hl : (r.take n).length = n := by rw [List.length_take]; omega
        refine ⟨by omega, r.drop (n + 2), ?_⟩
        unfold recordT
        rw [hl, hi, e1]
        rw [List.append_assoc, List.cons_append, List.append_assoc]
        congr 2
        have : r = r.take n ++ ((r.drop n).take 2 ++ (r.drop n).drop 2) := by rw [List.take_append_drop, List.take_append_drop]
        rw [List.drop_drop, c3] at this
        exact this
      · cases h
theorem recordT_pos (s : List UInt8) : 4 ≤ (recordT s).length := by
  unfold recordT
  have := itoa_pos (n := (s.length : Int)) (by omega)
  simp
  omega
theorem recordT_len {s : List UInt8} (h : s.length < 10000000000) : (recordT s).length ≤ s.length + 13 := by
  unfold recordT
  have := itoa_len10 (n := (s.length : Int)) (by omega) (by omega)
  simp
  omega
/-- What is only the beginning of a record is none. -/
theorem oneT_part {s p q : List UInt8} (h : recordT s = p ++ q) (hq : q ≠ []) (hs : s.length ≤ 4000) : oneT p = none := by
  cases ho : oneT p with
  | none => rfl
  | some u =>
    obtain ⟨hu, t, e⟩ := oneT_some ho
    have h1 := oneT_record (s := u) (t := t ++ q) hu
    have h2 := oneT_record (s := s) (t := []) hs
    rw [List.append_nil, h, e, List.append_assoc, h1] at h2
    cases h2
    have hl := congrArg List.length h
    rw [e] at hl
    simp only [List.length_append] at hl
    have : q.length = 0 := by omega
    exact absurd (List.eq_nil_of_length_eq_zero this) hq
/-- Records from the beginning. -/
def readF : Nat → List UInt8 → List (List UInt8)
  | 0, _ => []
  | n + 1, b => match oneT b with
    | none => []
    | some s => s :: readF n (b.drop (recordT s).length)
def readT (b : List UInt8) : List (List UInt8) := readF (b.length + 1) b
def flatR : List (List UInt8) → List UInt8
  | [] => []
  | s :: l => recordT s ++ flatR l
theorem flatR_append : ∀ l m, flatR (l ++ m) = flatR l ++ flatR m
  | [], _ => rfl
  | s :: l, m => by simp [flatR, flatR_append l m]
theorem flatR_len : ∀ (l : List (List UInt8)), 4 * l.length ≤ (flatR l).length
  | [] => by simp [flatR]
  | s :: l => by
    have := flatR_len l
    have := recordT_pos s
    simp [flatR]
    omega
theorem readF_of : ∀ (n : Nat) (l : List (List UInt8)) (t : List UInt8), (∀ s ∈ l, s.length ≤ 4000) → oneT t = none → l.length < n → readF n (flatR l ++ t) = l
  | 0, _, _, _, _, h => by omega
  | n + 1, [], t, _, ht, _ => by simp [readF, flatR, ht]
  | n + 1, s :: l, t, hs, ht, hn => by
    have h1 := hs s (by simp)
    unfold readF
    rw [flatR, List.append_assoc, oneT_record h1]
    dsimp only
    rw [List.drop_left, readF_of n l t (fun x hx => hs x (by simp [hx])) ht (by simpa using hn)]
/-- What is read: just the records ahead of what is none. -/
theorem readT_of {l : List (List UInt8)} {t : List UInt8} (hs : ∀ s ∈ l, s.length ≤ 4000) (ht : oneT t = none) : readT (flatR l ++ t) = l :=
  readF_of _ l t hs ht (by have := flatR_len l; simp; omega)

/-- A disk: its bytes, is it off, bytes until power fails (below 0: it does not). -/
structure Dsk where
  b : List UInt8
  off : Bool
  cut : Int
def writeD (d : Dsk) (r : List UInt8) : Nat × Dsk :=
  if d.off = true then (16, d)
  else if 0 ≤ d.cut ∧ d.cut < r.length then (16, ⟨d.b ++ r.take d.cut.toNat, true, d.cut⟩)
  else (0, ⟨d.b ++ r, false, if 0 ≤ d.cut then d.cut - r.length else d.cut⟩)
def appendD (d : Dsk) (s : List UInt8) : Nat × Dsk :=
  if 4000 < s.length then (2, d) else if (262144 : Int) - d.b.length < (recordT s).length then (7, d) else writeD d (recordT s)
def setCutD (d : Dsk) (n : Int) : Nat × Dsk := if n < 0 then (2, d) else if d.off = true then (16, d) else (0, ⟨d.b, d.off, n⟩)
def onD (d : Dsk) : Dsk := ⟨d.b, false, -1⟩
def recoverD (d : Dsk) : Dsk := ⟨flatR (readT d.b), false, -1⟩

/-- A disk that was written on: records, and perhaps the beginning of one. -/
structure DiskOf (d : Dsk) (l : List (List UInt8)) : Prop where
  small : ∀ s ∈ l, s.length ≤ 4000
  bytes : ∃ t, d.b = flatR l ++ t ∧ oneT t = none ∧ (d.off = false → t = [])
theorem oneT_nil : oneT [] = none := rfl
theorem diskOf_append {d : Dsk} {l : List (List UInt8)} (h : DiskOf d l) (s : List UInt8) :
    ((appendD d s).1 = 0 → DiskOf (appendD d s).2 (l ++ [s])) ∧ ((appendD d s).1 ≠ 0 → DiskOf (appendD d s).2 l) := by
  unfold appendD
  by_cases h1 : 4000 < s.length
  · rw [if_pos h1]; exact ⟨fun e => (by cases e), fun _ => h⟩
  rw [if_neg h1]
  by_cases h2 : (262144 : Int) - d.b.length < (recordT s).length
  · rw [if_pos h2]; exact ⟨fun e => (by cases e), fun _ => h⟩
  rw [if_neg h2]
  unfold writeD
  obtain ⟨hs, t, e1, e2, e3⟩ := h
  by_cases ho : d.off = true
  · rw [if_pos ho]; exact ⟨fun e => (by cases e), fun _ => ⟨hs, t, e1, e2, e3⟩⟩
  rw [if_neg ho]
  have ht := e3 (by simpa using ho)
  subst ht
  rw [List.append_nil] at e1
  by_cases hc : 0 ≤ d.cut ∧ d.cut < (recordT s).length
  · rw [if_pos hc]
    refine ⟨fun e => (by cases e), fun _ => ⟨hs, (recordT s).take d.cut.toNat, by rw [e1], ?_, fun e => (by cases e)⟩⟩
    refine oneT_part (s := s) (q := (recordT s).drop d.cut.toNat) (List.take_append_drop _ _).symm ?_ (by omega)
    intro e
    have := congrArg List.length e
    simp at this
    omega
  · rw [if_neg hc]
    refine ⟨fun _ => ⟨fun x hx => ?_, [], ?_, oneT_nil, fun _ => rfl⟩, fun e => absurd rfl e⟩
    · rcases List.mem_append.1 hx with hx | hx
      · exact hs x hx
      · simp at hx; subst hx; omega
    · rw [flatR_append, e1, List.append_nil]; simp [flatR]
theorem readT_disk {d : Dsk} {l : List (List UInt8)} (h : DiskOf d l) : readT d.b = l := by
  obtain ⟨hs, t, e1, e2, _⟩ := h
  rw [e1]
  exact readT_of hs e2
end Go.Proofs.YtmjbhglmlbgkmaaDoor
