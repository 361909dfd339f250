/- Tick -/
import Derived.Test.YtlcomdbkkfbjiaaGreatDoorMg3
/- Plain definitions and lemmas about tickets: no program in sight. -/
namespace Go.Proofs.YtlcomdbkkfbjiaaGreatDoor

/-- A ticket. -/
structure Tick where
  who : List UInt8
  svc : List UInt8
  epoch : Int
  beg : Int
  fin : Int
  serial : Int
theorem Tick.ext' {s t : Tick} (h1 : s.who = t.who) (h2 : s.svc = t.svc) (h3 : s.epoch = t.epoch) (h4 : s.beg = t.beg) (h5 : s.fin = t.fin) (h6 : s.serial = t.serial) : s = t := by
  cases s; cases t; simp_all
def noTick : Tick := ⟨[], [], 0, 0, 0, 0⟩
/-- Are a ticket's numbers right? -/
def tickNum (t : Tick) : Bool := (decide (1 ≤ t.epoch) && decide (t.epoch ≤ 1073741824)) && ((decide (1 ≤ t.serial) && decide (t.serial ≤ 1073741824)) && ((decide (0 ≤ t.beg) && decide (t.beg ≤ 1000000)) && (decide (t.beg ≤ t.fin) && decide (t.fin ≤ 1000000))))
theorem tickNum_iff (t : Tick) : tickNum t = true ↔ (1 ≤ t.epoch ∧ t.epoch ≤ 1073741824) ∧ (1 ≤ t.serial ∧ t.serial ≤ 1073741824) ∧ (0 ≤ t.beg ∧ t.beg ≤ 1000000) ∧ t.beg ≤ t.fin ∧ t.fin ≤ 1000000 := by
  simp [tickNum]
/-- A ticket's error. -/
def tickErr (t : Tick) : Nat := if (isName t.who && isName t.svc) = true then (if tickNum t = true then 0 else 2) else 4
theorem tickErr_zero {t : Tick} (h : tickErr t = 0) : isName t.who = true ∧ isName t.svc = true ∧ tickNum t = true := by
  unfold tickErr at h
  split at h
  · rename_i h1
    simp only [Bool.and_eq_true] at h1
    split at h
    · rename_i h2; exact ⟨h1.1, h1.2, h2⟩
    · cases h
  · cases h
/-- The word ahead of a ticket's words. -/
def ticketW : List UInt8 := [116, 105, 99, 107, 101, 116]
def tickWords (t : Tick) : List (List UInt8) := [ticketW, t.who, t.svc, Lib.itoa t.epoch, Lib.itoa t.beg, Lib.itoa t.fin, Lib.itoa t.serial]
/-- What ticket.Make answers. -/
def makeT (k : Int) (t : Tick) : List UInt8 × Nat := if isKey k = true then (if tickErr t = 0 then (sealText k (tickWords t), 0) else ([], tickErr t)) else ([], 10)
/-- A ticket of words. -/
def ofWords : List (List UInt8) → Tick × Nat
  | [a, b, c, d, e, f, g] => if a = ticketW then match numOf d, numOf e, numOf f, numOf g with
      | some d, some e, some f, some g => if tickErr ⟨b, c, d, e, f, g⟩ = 0 then (⟨b, c, d, e, f, g⟩, 0) else (noTick, tickErr ⟨b, c, d, e, f, g⟩)
      | _, _, _, _ => (noTick, 1)
    else (noTick, 1)
  | _ => (noTick, 1)
/-- Is a ticket good? -/
def goodT (t : Tick) (now : Int) : Nat := if tickErr t = 0 then (if 0 ≤ now ∧ now ≤ 1000000 then (if now < t.beg then 11 else if t.fin ≤ now then 12 else 0) else 2) else tickErr t
def renewed (t : Tick) (now til serial : Int) : Tick := ⟨t.who, t.svc, t.epoch, now, min til t.fin, serial⟩
/-- What ticket.Renew answers. -/
def renewT (t : Tick) (now til serial : Int) : Tick × Nat := if goodT t now = 0 then (if tickErr (renewed t now til serial) = 0 then (renewed t now til serial, 0) else (noTick, tickErr (renewed t now til serial))) else (noTick, goodT t now)
def openT (k : Int) (s : List UInt8) : Tick × Nat := if (openOf k s).2 = 0 then ofWords (openOf k s).1 else (noTick, (openOf k s).2)
def lookT (s : List UInt8) : Tick × Nat := if (lookOf s).2.2.2 = 0 then ofWords (lookOf s).2.1 else (noTick, (lookOf s).2.2.2)

theorem smallB_wordB {c : UInt8} (h : smallB c = true) : wordB c = true := by unfold wordB; rw [h]; rfl
theorem digB_smallB {c : UInt8} (h : digB c = true) : smallB c = true := by
  unfold digB at h
  unfold smallB
  rw [h, Bool.or_true]
theorem isName_isWord {l : List UInt8} (h : isName l = true) : isWord l = true := by
  obtain ⟨h1, h2, h3⟩ := (isName_iff l).1 h
  exact (isWord_iff l).2 ⟨h1, by omega, fun c hc => smallB_wordB (h3 c hc)⟩
theorem itoa_pos {n : Int} (h0 : 0 ≤ n) : 1 ≤ (Lib.itoa n).length := by
  unfold Lib.itoa
  rw [if_neg (by omega)]
  exact decDigits_ne _
theorem itoa_word {n : Int} (h0 : 0 ≤ n) (h1 : n < 10000000000) : isWord (Lib.itoa n) = true :=
  (isWord_iff _).2 ⟨itoa_pos h0, by have := itoa_len10 h0 h1; omega, fun c hc => smallB_wordB (digB_smallB (List.all_eq_true.1 (itoa_digits h0) c hc))⟩
theorem tickWords_len (t : Tick) : (tickWords t).length = 7 := rfl
theorem tickWords_words {t : Tick} (h : tickErr t = 0) : ∀ x ∈ tickWords t, isWord x = true := by
  obtain ⟨h1, h2, h3⟩ := tickErr_zero h
  obtain ⟨⟨a1, a2⟩, ⟨b1, b2⟩, ⟨c1, c2⟩, d1, d2⟩ := (tickNum_iff t).1 h3
  intro x hx
  simp only [tickWords, List.mem_cons, List.mem_nil_iff, or_false] at hx
  rcases hx with rfl | rfl | rfl | rfl | rfl | rfl | rfl
  · decide
  · exact isName_isWord h1
  · exact isName_isWord h2
  · exact itoa_word (by omega) (by omega)
  · exact itoa_word (by omega) (by omega)
  · exact itoa_word (by omega) (by omega)
  · exact itoa_word (by omega) (by omega)
theorem numOf_int {n : Int} (h0 : 0 ≤ n) (h1 : n < 10000000000) : numOf (Lib.itoa n) = some n.toNat := by
  obtain ⟨k, rfl⟩ := Int.eq_ofNat_of_zero_le h0
  exact numOf_itoa (itoa_len10 h0 h1)
theorem ofWords_tick {t : Tick} (h : tickErr t = 0) : ofWords (tickWords t) = (t, 0) := by
  obtain ⟨h1, h2, h3⟩ := tickErr_zero h
  obtain ⟨⟨a1, a2⟩, ⟨b1, b2⟩, ⟨c1, c2⟩, d1, d2⟩ := (tickNum_iff t).1 h3
  unfold tickWords ofWords
  dsimp only
  rw [if_pos rfl, numOf_int (n := t.epoch) (by omega) (by omega), numOf_int (n := t.beg) (by omega) (by omega), numOf_int (n := t.fin) (by omega) (by omega), numOf_int (n := t.serial) (by omega) (by omega)]
  have e : (⟨t.who, t.svc, t.epoch.toNat, t.beg.toNat, t.fin.toNat, t.serial.toNat⟩ : Tick) = t :=
    Tick.ext' rfl rfl (Int.toNat_of_nonneg (by omega)) (Int.toNat_of_nonneg (by omega)) (Int.toNat_of_nonneg (by omega)) (Int.toNat_of_nonneg (by omega))
  simp only [e]
  rw [if_pos h]
theorem makeT_zero {k : Int} {t : Tick} (h : (makeT k t).2 = 0) : isKey k = true ∧ tickErr t = 0 ∧ makeT k t = (sealText k (tickWords t), 0) := by
  unfold makeT at h ⊢
  by_cases hk : isKey k = true
  · rw [if_pos hk] at h ⊢
    by_cases he : tickErr t = 0
    · rw [if_pos he] at h ⊢
      exact ⟨hk, he, rfl⟩
    · rw [if_neg he] at h; exact absurd h he
  · rw [if_neg hk] at h; cases h
theorem makeT_bad {k : Int} {t : Tick} (h : (makeT k t).2 ≠ 0) : (makeT k t).1 = [] := by
  unfold makeT at h ⊢
  by_cases hk : isKey k = true
  · rw [if_pos hk] at h ⊢
    by_cases he : tickErr t = 0
    · rw [if_pos he] at h; exact absurd rfl h
    · rw [if_neg he]
  · rw [if_neg hk]
/-- A ticket is opened as it was made. -/
theorem openT_make {k : Int} {t : Tick} (hk : isKey k = true) (h : tickErr t = 0) : openT k (sealText k (tickWords t)) = (t, 0) := by
  unfold openT
  rw [open_of hk (by rw [tickWords_len]; decide) (by rw [tickWords_len]; decide) (tickWords_words h), if_pos rfl]
  exact ofWords_tick h
theorem look_of_open {k : Int} {s : List UInt8} (h : (openOf k s).2 = 0) : (lookOf s).2.2.2 = 0 ∧ (lookOf s).2.1 = (openOf k s).1 := by
  unfold openOf at h ⊢
  by_cases hk : isKey k = false
  · rw [if_pos hk] at h; cases h
  rw [if_neg hk] at h ⊢
  by_cases hl : (lookOf s).2.2.2 = 0
  case neg => rw [if_neg hl] at h; exact absurd h hl
  rw [if_pos hl] at h ⊢
  by_cases hr : rightOf k (lookOf s).1 (lookOf s).2.2.1 = 0
  · rw [if_pos hr]; exact ⟨hl, rfl⟩
  · rw [if_neg hr] at h; exact absurd h hr
theorem lookT_make {k : Int} {t : Tick} (hk : isKey k = true) (h : tickErr t = 0) : lookT (sealText k (tickWords t)) = (t, 0) := by
  have ho := open_of hk (by rw [tickWords_len]; decide) (by rw [tickWords_len]; decide) (tickWords_words h)
  obtain ⟨h1, h2⟩ := look_of_open (k := k) (s := sealText k (tickWords t)) (by rw [ho])
  unfold lookT
  rw [if_pos h1, h2, ho]
  exact ofWords_tick h
theorem renewT_bad {t : Tick} {now til serial : Int} (h : (renewT t now til serial).2 ≠ 0) : (renewT t now til serial).1 = noTick := by
  unfold renewT at h ⊢
  split
  · rename_i h1
    rw [if_pos h1] at h
    split
    · rename_i h2; rw [if_pos h2] at h; exact absurd rfl h
    · rfl
  · rfl
theorem renewT_zero {t : Tick} {now til serial : Int} (h : (renewT t now til serial).2 = 0) : goodT t now = 0 ∧ tickErr (renewed t now til serial) = 0 ∧ renewT t now til serial = (renewed t now til serial, 0) := by
  unfold renewT at h ⊢
  by_cases h1 : goodT t now = 0
  · rw [if_pos h1] at h ⊢
    by_cases h2 : tickErr (renewed t now til serial) = 0
    · rw [if_pos h2]; exact ⟨h1, h2, rfl⟩
    · rw [if_neg h2] at h; exact absurd h h2
  · rw [if_neg h1] at h; exact absurd h h1
theorem goodT_zero {t : Tick} {now : Int} (h : goodT t now = 0) : tickErr t = 0 ∧ 0 ≤ now ∧ now ≤ 1000000 ∧ t.beg ≤ now ∧ now < t.fin := by
  unfold goodT at h
  by_cases h1 : tickErr t = 0
  · rw [if_pos h1] at h
    by_cases h2 : 0 ≤ now ∧ now ≤ 1000000
    · rw [if_pos h2] at h
      by_cases h3 : now < t.beg
      · rw [if_pos h3] at h; cases h
      · rw [if_neg h3] at h
        by_cases h4 : t.fin ≤ now
        · rw [if_pos h4] at h; cases h
        · exact ⟨h1, h2.1, h2.2, by omega, by omega⟩
    · rw [if_neg h2] at h; cases h
  · rw [if_neg h1] at h; exact absurd h h1
theorem goodT_of {t : Tick} {now : Int} (h1 : tickErr t = 0) (h2 : 0 ≤ now) (h3 : now ≤ 1000000) (h4 : t.beg ≤ now) (h5 : now < t.fin) : goodT t now = 0 := by
  unfold goodT
  rw [if_pos h1, if_pos ⟨h2, h3⟩, if_neg (by omega), if_neg (by omega)]
/-- What is renewed is good no longer than before. -/
theorem renewed_good {t : Tick} {now til serial thn : Int} (hg : goodT t now = 0) (h : goodT (renewed t now til serial) thn = 0) : goodT t thn = 0 ∧ now ≤ thn := by
  obtain ⟨_, a1, a2, a3, a4⟩ := goodT_zero h
  obtain ⟨b0, b1, b2, b3, b4⟩ := goodT_zero hg
  have a3 : now ≤ thn := a3
  have a4 : thn < min til t.fin := a4
  exact ⟨goodT_of b0 a1 a2 (by omega) (by omega), a3⟩
end Go.Proofs.YtlcomdbkkfbjiaaGreatDoor
