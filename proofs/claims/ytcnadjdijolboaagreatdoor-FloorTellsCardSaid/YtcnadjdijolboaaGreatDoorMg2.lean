/- SealP, Words -/
import Derived.Test.YtcnadjdijolboaaGreatDoorMg1
import Derived.Lib.AtoiAll
import Derived.Lib.ItoaNum
import Derived.Lib.Split
import Derived.Lib.SplitLaws
import Derived.Lib.Join
import Derived.Lib.LastIndexByte
/- Plain definitions and lemmas about words, numbers and sealed texts: no program in sight. -/
namespace Go.Proofs.YtcnadjdijolboaaGreatDoor

/-- May a byte stand in a word? -/
def wordB (c : UInt8) : Bool := smallB c || c == 45 || c == 42
/-- Is a text a word? -/
def isWord (l : List UInt8) : Bool := decide (1 ≤ l.length) && decide (l.length ≤ 20) && l.all wordB
theorem isWord_iff (l : List UInt8) : isWord l = true ↔ 1 ≤ l.length ∧ l.length ≤ 20 ∧ ∀ c ∈ l, wordB c = true := by
  simp [isWord, and_assoc]
def wordCs : List UInt8 := smallCs ++ [45, 42]
theorem wordCs_contains (c : UInt8) : wordCs.contains c = wordB c := by
  have h : ∀ n, n < 256 → wordCs.contains (UInt8.ofNat n) = wordB (UInt8.ofNat n) := by decide +kernel
  have := h c.toNat (UInt8.toNat_lt c)
  simpa using this
theorem word_no_space {l : List UInt8} (h : isWord l = true) : (32 : UInt8) ∉ l := by
  intro hm
  have := ((isWord_iff l).1 h).2.2 32 hm
  revert this
  decide

/-! Numbers. -/
def digB (c : UInt8) : Bool := decide (48 ≤ c) && decide (c ≤ 57)
theorem digB_iff (c : UInt8) : digB c = true ↔ 48 ≤ c.toNat ∧ c.toNat ≤ 57 := by
  simp [digB, UInt8.le_iff_toNat_le]
def decVal (l : List UInt8) : Nat := l.foldl (fun n c => n * 10 + (c.toNat - 48)) 0
theorem decVal_snoc (l : List UInt8) (c : UInt8) : decVal (l ++ [c]) = decVal l * 10 + (c.toNat - 48) := by simp [decVal]
/-- Digits, without needless zeros. -/
def goodNum (l : List UInt8) : Bool := l.all digB && (decide (l.head? ≠ some 48) || decide (l.length = 1)) && decide (1 ≤ l.length)
/-- The number of digits without needless zeros, ten at most. -/
def numOf (l : List UInt8) : Option Nat := if goodNum l && decide (l.length ≤ 10) then some (decVal l) else none
/-- .. up to most. -/
def number (l : List UInt8) (most : Int) : Int × Bool := match numOf l with
  | some n => if (n : Int) ≤ most then ((n : Int), true) else (0, false)
  | none => (0, false)

theorem digit_of (d : Nat) (h : d < 10) : digB (UInt8.ofNat (48 + d)) = true ∧ (UInt8.ofNat (48 + d)).toNat - 48 = d := by
  have : ∀ d, d < 10 → digB (UInt8.ofNat (48 + d)) = true ∧ (UInt8.ofNat (48 + d)).toNat - 48 = d := by decide
  exact this d h
theorem ofNat_digit (c : UInt8) (h : digB c = true) : UInt8.ofNat (48 + (c.toNat - 48)) = c := by
  have := (digB_iff c).1 h
  rw [show 48 + (c.toNat - 48) = c.toNat by omega]
  simp
theorem decDigits_ne (u : Nat) : 1 ≤ (Lib.decDigits u).length := by
  rw [Lib.decDigits]
  split
  · simp
  · simp
theorem decVal_decDigits (u : Nat) : decVal (Lib.decDigits u) = u := by
  induction u using Nat.strongRecOn with
  | _ u ih =>
    rw [Lib.decDigits]
    split
    · rename_i h
      have := (digit_of u h).2
      simpa [decVal] using this
    · rw [decVal_snoc, ih (u / 10) (by omega), (digit_of (u % 10) (by omega)).2]
      omega
theorem decDigits_all (u : Nat) : (Lib.decDigits u).all digB = true := by
  induction u using Nat.strongRecOn with
  | _ u ih =>
    rw [Lib.decDigits]
    split
    · rename_i h
      simpa using (digit_of u h).1
    · rw [List.all_append, ih (u / 10) (by omega)]
      simpa using (digit_of (u % 10) (by omega)).1
theorem decDigits_head (u : Nat) : (Lib.decDigits u).head? = some 48 → (Lib.decDigits u).length = 1 := by
  induction u using Nat.strongRecOn with
  | _ u ih =>
    rw [Lib.decDigits]
    split
    · intro _; rfl
    · rename_i h
      intro h0
      have hne := decDigits_ne (u / 10)
      have hh : (Lib.decDigits (u / 10)).head? = some 48 := by
        rw [List.head?_append] at h0
        cases hq : (Lib.decDigits (u / 10)).head? with
        | none => rw [List.head?_eq_none_iff] at hq; rw [hq] at hne; simp at hne
        | some c => rw [hq] at h0; simpa using h0
      have h1 := ih (u / 10) (by omega) hh
      have h2 := decVal_decDigits (u / 10)
      obtain ⟨c, hc⟩ : ∃ c, Lib.decDigits (u / 10) = [c] := List.length_eq_one_iff.1 h1
      rw [hc] at hh h2
      simp at hh
      subst hh
      simp [decVal] at h2
      omega
theorem goodNum_decDigits (u : Nat) : goodNum (Lib.decDigits u) = true := by
  unfold goodNum
  rw [decDigits_all]
  have h := decDigits_head u
  have h1 := decDigits_ne u
  by_cases hh : (Lib.decDigits u).head? = some 48
  · have := h hh; simp [this]
  · simp [hh, h1]
theorem decDigits_decVal : ∀ (n : Nat) (l : List UInt8), l.length = n → goodNum l = true → Lib.decDigits (decVal l) = l := by
  intro n
  induction n with
  | zero =>
    intro l hl hg
    rw [List.length_eq_zero_iff] at hl
    subst hl
    simp [goodNum] at hg
  | succ n ih =>
    intro l hl hg
    obtain ⟨m, c, rfl⟩ : ∃ m c, l = m ++ [c] := by
      rcases List.eq_nil_or_concat l with h | ⟨m, c, h⟩
      · subst h; simp at hl
      · exact ⟨m, c, by simpa using h⟩
    have hml : m.length = n := by simpa using hl
    simp only [goodNum, Bool.and_eq_true, List.all_append, Bool.or_eq_true, decide_eq_true_eq, List.all_cons, List.all_nil, Bool.and_true] at hg
    obtain ⟨⟨⟨hm, hc⟩, hh⟩, _⟩ := hg
    have hcb := (digB_iff c).1 hc
    cases m with
    | nil =>
      rw [Lib.decDigits, dif_pos (by simp [decVal]; omega)]
      simp only [List.nil_append, decVal, List.foldl_cons, List.foldl_nil, Nat.zero_mul, Nat.zero_add]
      rw [ofNat_digit c hc]
    | cons d m =>
      have hgm : goodNum (d :: m) = true := by
        have h0 : ¬ d = 48 := by
          rcases hh with h | h
          · simpa using h
          · simp at h
        simp [goodNum, hm, h0]
      have hi := ih (d :: m) hml hgm
      have hpos : 1 ≤ decVal (d :: m) := by
        rcases Nat.eq_zero_or_pos (decVal (d :: m)) with h | h
        · rw [h] at hi
          rw [Lib.decDigits, dif_pos (by omega)] at hi
          have : d = 48 := by injection hi with hi _; exact hi.symm
          rcases hh with h | h
          · simp [this] at h
          · simp at h
        · exact h
      rw [decVal_snoc]
      rw [Lib.decDigits, dif_neg (by omega)]
      rw [show (decVal (d :: m) * 10 + (c.toNat - 48)) / 10 = decVal (d :: m) by omega, show (decVal (d :: m) * 10 + (c.toNat - 48)) % 10 = c.toNat - 48 by omega, hi, ofNat_digit c hc]
theorem numOf_some {l : List UInt8} {n : Nat} (h : numOf l = some n) : goodNum l = true ∧ l.length ≤ 10 ∧ decVal l = n ∧ Lib.itoa (n : Int) = l := by
  unfold numOf at h
  split at h
  · rename_i hc
    simp only [Bool.and_eq_true, decide_eq_true_eq] at hc
    cases h
    refine ⟨hc.1, hc.2, rfl, ?_⟩
    unfold Lib.itoa
    rw [if_neg (by omega), Int.toNat_natCast]
    exact decDigits_decVal _ l rfl hc.1
  · cases h
theorem numOf_itoa {n : Nat} (h : (Lib.itoa (n : Int)).length ≤ 10) : numOf (Lib.itoa (n : Int)) = some n := by
  have e : Lib.itoa (n : Int) = Lib.decDigits n := by unfold Lib.itoa; rw [if_neg (by omega), Int.toNat_natCast]
  rw [e] at h ⊢
  unfold numOf
  rw [goodNum_decDigits, decide_eq_true h]
  simp [decVal_decDigits]
theorem decVal_from : ∀ (l : List UInt8) (acc : Nat), l.foldl (fun n c => n * 10 + (c.toNat - 48)) acc = acc * 10 ^ l.length + decVal l
  | [], acc => by simp [decVal]
  | c :: l, acc => by
    have h1 := decVal_from l (acc * 10 + (c.toNat - 48))
    have h2 := decVal_from l (0 * 10 + (c.toNat - 48))
    unfold decVal
    simp only [List.foldl_cons]
    rw [h1, h2, List.length_cons, Nat.pow_succ]
    simp only [Nat.zero_mul, Nat.zero_add]
    rw [Nat.add_mul, Nat.mul_assoc, Nat.mul_comm 10, Nat.add_assoc]
theorem decVal_lt : ∀ (l : List UInt8), l.all digB = true → decVal l < 10 ^ l.length
  | [], _ => by simp [decVal]
  | c :: l, h => by
    simp only [List.all_cons, Bool.and_eq_true] at h
    have ih := decVal_lt l h.2
    have hc := (digB_iff c).1 h.1
    have h2 := decVal_from l (0 * 10 + (c.toNat - 48))
    have : decVal (c :: l) = (c.toNat - 48) * 10 ^ l.length + decVal l := by
      unfold decVal
      simp only [List.foldl_cons]
      rw [h2]
      simp [decVal]
    rw [this, List.length_cons, Nat.pow_succ]
    have h3 : (c.toNat - 48) * 10 ^ l.length ≤ 9 * 10 ^ l.length := Nat.mul_le_mul_right _ (by omega)
    omega
theorem parseUint10_good : ∀ (l : List UInt8) (acc : Nat), l.all digB = true → acc * 10 ^ l.length + decVal l < 1000000000000000000 → Lib.parseUint10 acc l = .ok (l.foldl (fun n c => n * 10 + (c.toNat - 48)) acc)
  | [], acc, _, _ => rfl
  | c :: l, acc, h, hlt => by
    simp only [List.all_cons, Bool.and_eq_true] at h
    have hc := (digB_iff c).1 h.1
    have h2 := decVal_from l (0 * 10 + (c.toNat - 48))
    have h4 : decVal (c :: l) = (c.toNat - 48) * 10 ^ l.length + decVal l := by
      unfold decVal
      simp only [List.foldl_cons]
      rw [h2]
      simp [decVal]
    rw [h4, List.length_cons, Nat.pow_succ] at hlt
    have hp : 1 ≤ 10 ^ l.length := Nat.one_le_pow _ _ (by decide)
    have hx : acc * (10 ^ l.length * 10) = acc * 10 * 10 ^ l.length := by rw [Nat.mul_comm (10 ^ l.length), Nat.mul_assoc]
    have hle : (acc * 10 + (c.toNat - 48)) * 10 ^ l.length + decVal l < 1000000000000000000 := by
      rw [Nat.add_mul]; omega
    have hb : acc * 10 + (c.toNat - 48) < 1000000000000000000 := by
      have := Nat.le_mul_of_pos_right (acc * 10 + (c.toNat - 48)) hp
      omega
    simp only [Lib.parseUint10]
    rw [if_pos ⟨hc.1, hc.2⟩, if_neg (by omega), if_neg (by omega), parseUint10_good l _ h.2 hle]
    rfl
theorem atoi_good {l : List UInt8} (hg : goodNum l = true) (hl : l.length ≤ 10) : Lib.atoiAll l = .ok (decVal l : Int) := by
  simp only [goodNum, Bool.and_eq_true, decide_eq_true_eq] at hg
  have hlt := decVal_lt l hg.1.1
  have hp : 10 ^ l.length ≤ 10 ^ 10 := Nat.pow_le_pow_right (by decide) hl
  have hb : decVal l < 10000000000 := Nat.lt_of_lt_of_le hlt hp
  cases l with
  | nil => simp at hg
  | cons c r =>
    have hc := hg.1.1
    simp only [List.all_cons, Bool.and_eq_true] at hc
    have hcb := (digB_iff c).1 hc.1
    unfold Lib.atoiAll
    have hm : Lib.parseMag (c :: r) = .ok (decVal (c :: r)) := by
      unfold Lib.parseMag
      rw [if_neg (by simp), parseUint10_good (c :: r) 0 hg.1.1 (by omega)]
      rfl
    have e1 : ¬ (c.toNat = 43 ∨ c.toNat = 45) := by omega
    have e2 : ¬ (c.toNat = 45) := by omega
    dsimp only
    rw [if_neg e1, hm]
    simp only [e2]
    have e4 : ¬ (¬ False ∧ 9223372036854775808 ≤ decVal (c :: r)) := fun h => absurd h.2 (by omega)
    have e5 : ¬ (False ∧ 9223372036854775808 < decVal (c :: r)) := fun h => h.1
    show (if ¬ False ∧ 9223372036854775808 ≤ decVal (c :: r) then Lib.NumEnd.range else if False ∧ 9223372036854775808 < decVal (c :: r) then Lib.NumEnd.range else Lib.NumEnd.ok (if False then -(decVal (c :: r) : Int) else (decVal (c :: r) : Int))) = _
    rw [if_neg e4, if_neg e5, if_neg (fun h => h)]
theorem decDigits_len : ∀ k u, u < 10 ^ (k + 1) → (Lib.decDigits u).length ≤ k + 1
  | 0, u, h => by
    rw [Lib.decDigits, dif_pos (by omega)]
    simp
  | k + 1, u, h => by
    rw [Lib.decDigits]
    split
    · simp
    · have := decDigits_len k (u / 10) (by rw [Nat.pow_succ] at h; omega)
      simp only [List.length_append, List.length_cons, List.length_nil]
      omega
theorem itoa_len {n : Int} (h0 : -10000000000000000000 < n) (h1 : n < 10000000000000000000) : (Lib.itoa n).length ≤ 20 := by
  unfold Lib.itoa
  split
  · have := decDigits_len 18 n.natAbs (by have : (10 : Nat) ^ (18 + 1) = 10000000000000000000 := by decide
                                          omega)
    simp only [List.length_cons]
    omega
  · have := decDigits_len 18 n.toNat (by have : (10 : Nat) ^ (18 + 1) = 10000000000000000000 := by decide
                                         omega)
    omega
theorem itoa_len10 {n : Int} (h0 : 0 ≤ n) (h1 : n < 10000000000) : (Lib.itoa n).length ≤ 10 := by
  unfold Lib.itoa
  rw [if_neg (by omega)]
  exact decDigits_len 9 n.toNat (by have : (10 : Nat) ^ (9 + 1) = 10000000000 := by decide
                                    omega)
theorem number_bd (l : List UInt8) (most : Int) : 0 ≤ (number l most).1 ∧ (number l most).1 ≤ 9999999999 := by
  unfold number
  cases h : numOf l with
  | none => simp
  | some n =>
    obtain ⟨hg, hl, hv, _⟩ := numOf_some h
    simp only [goodNum, Bool.and_eq_true, decide_eq_true_eq] at hg
    have hlt := decVal_lt l hg.1.1
    have hp : 10 ^ l.length ≤ 10 ^ 10 := Nat.pow_le_pow_right (by decide) hl
    have hb : decVal l < 10000000000 := Nat.lt_of_lt_of_le hlt hp
    show 0 ≤ (if (n : Int) ≤ most then ((n : Int), true) else (0, false)).1 ∧ (if (n : Int) ≤ most then ((n : Int), true) else (0, false)).1 ≤ 9999999999
    by_cases hm : (n : Int) ≤ most
    · rw [if_pos hm]
      exact ⟨Int.natCast_nonneg n, by show (n : Int) ≤ 9999999999; omega⟩
    · rw [if_neg hm]
      simp
end Go.Proofs.YtcnadjdijolboaaGreatDoor

/- Plain: texts cut by a byte, and glued. No program in sight. -/
namespace Go.Proofs.YtcnadjdijolboaaGreatDoor

def cutL (c : UInt8) : List UInt8 → List (List UInt8)
  | [] => [[]]
  | b :: r => if b = c then [] :: cutL c r else match cutL c r with
    | [] => [[b]]
    | h :: t => (b :: h) :: t
theorem cutL_ne (c : UInt8) : ∀ l, cutL c l ≠ []
  | [] => by simp [cutL]
  | b :: r => by
    unfold cutL
    split
    · simp
    · split <;> simp
theorem cutL_length (c : UInt8) (l : List UInt8) : 1 ≤ (cutL c l).length := by
  have := cutL_ne c l
  cases h : cutL c l with
  | nil => exact absurd h this
  | cons x y => simp
theorem cutL_none (c : UInt8) : ∀ l, c ∉ l → cutL c l = [l]
  | [], _ => rfl
  | b :: r, h => by
    have hb : ¬ b = c := fun e => h (by simp [e])
    rw [cutL, if_neg hb, cutL_none c r (fun hm => h (by simp [hm]))]
theorem cutL_cut (c : UInt8) (w : List UInt8) (r : List UInt8) (h : c ∉ w) : cutL c (w ++ c :: r) = w :: cutL c r := by
  induction w with
  | nil => rw [List.nil_append, cutL, if_pos rfl]
  | cons b w ih =>
    have hb : ¬ b = c := fun e => h (by simp [e])
    rw [List.cons_append, cutL, if_neg hb, ih (fun hm => h (by simp [hm]))]
theorem cutL_snoc (c : UInt8) : ∀ (l t : List UInt8), cutL c (l ++ c :: t) = cutL c l ++ cutL c t
  | [], t => by
    show cutL c (c :: t) = [] :: cutL c t
    rw [cutL, if_pos rfl]
  | b :: r, t => by
    by_cases hb : b = c
    · rw [List.cons_append, cutL, if_pos hb, cutL_snoc c r t]
      conv => rhs; rw [cutL, if_pos hb]
      rfl
    · rw [List.cons_append, cutL, if_neg hb, cutL_snoc c r t]
      conv => rhs; rw [cutL, if_neg hb]
      cases h : cutL c r with
      | nil => exact absurd h (cutL_ne c r)
      | cons x y => rfl

theorem cutL_len (c : UInt8) : ∀ l, ∀ x ∈ cutL c l, x.length ≤ l.length
  | [], x, hx => by
    simp [cutL] at hx
    simp [hx]
  | b :: r, x, hx => by
    have ih := cutL_len c r
    unfold cutL at hx
    by_cases hb : b = c
    · rw [if_pos hb] at hx
      rcases List.mem_cons.1 hx with rfl | h
      · simp
      · have := ih x h
        simp only [List.length_cons]
        omega
    · rw [if_neg hb] at hx
      cases hr : cutL c r with
      | nil => exact absurd hr (cutL_ne c r)
      | cons y z =>
        rw [hr] at hx ih
        rcases List.mem_cons.1 hx with rfl | h
        · have := ih y (by simp)
          simp only [List.length_cons]
          omega
        · have := ih x (by simp [h])
          simp only [List.length_cons]
          omega

/-- Texts, with a byte between. -/
def glue (c : UInt8) : List (List UInt8) → List UInt8
  | [] => []
  | w :: r => w ++ r.flatMap (fun y => c :: y)
theorem glue_one (c : UInt8) (w : List UInt8) : glue c [w] = w := by simp [glue]
theorem glue_cons (c : UInt8) (w : List UInt8) {r : List (List UInt8)} (h : r ≠ []) : glue c (w :: r) = w ++ c :: glue c r := by
  cases r with
  | nil => exact absurd rfl h
  | cons x y => simp [glue]
theorem glue_snoc (c : UInt8) {W : List (List UInt8)} (h : W ≠ []) (x : List UInt8) : glue c (W ++ [x]) = glue c W ++ c :: x := by
  cases W with
  | nil => exact absurd rfl h
  | cons w r => simp [glue, List.flatMap_append]
theorem glue_cut (c : UInt8) : ∀ l, glue c (cutL c l) = l
  | [] => rfl
  | b :: r => by
    have ih := glue_cut c r
    by_cases hb : b = c
    · rw [cutL, if_pos hb, glue_cons c [] (cutL_ne c r), ih, hb]; rfl
    · rw [cutL, if_neg hb]
      cases h : cutL c r with
      | nil => exact absurd h (cutL_ne c r)
      | cons x y =>
        rw [h] at ih
        simp only [glue] at ih ⊢
        rw [List.cons_append, ih]
theorem cut_glue (c : UInt8) : ∀ W : List (List UInt8), W ≠ [] → (∀ w ∈ W, c ∉ w) → cutL c (glue c W) = W
  | [], h, _ => absurd rfl h
  | [w], _, h => by rw [glue_one, cutL_none c w (h w (by simp))]
  | w :: x :: r, _, h => by
    rw [glue_cons c w (by simp), cutL_cut c w _ (h w (by simp)), cut_glue c (x :: r) (by simp) (fun y hy => h y (by simp at hy ⊢; exact .inr hy))]
theorem join_glue (c : UInt8) : ∀ W : List (List UInt8), Lib.join W [c] = glue c W
  | [] => rfl
  | [w] => by rw [Lib.join_one, glue_one]
  | w :: x :: r => by
    have ih := join_glue c (x :: r)
    rw [glue_cons c w (by simp), ← ih]
    simp [Lib.join, List.intercalate, List.intersperse]

/-- strings.Split by one byte. -/
theorem splitK_cut (c : UInt8) : ∀ l : List UInt8, Lib.splitK [c] 0 (Lib.count l [c]) l = cutL c l
  | [] => by
    rw [Lib.count_one]
    rfl
  | b :: l => by
    have ih := splitK_cut c l
    by_cases hb : b = c
    · subst hb
      rw [Lib.count_cons_eq, Nat.add_comm]
      have hix : Lib.index (b :: l) [b] = 0 := by rw [Lib.index]; simp [List.isPrefixOf]
      rw [Lib.splitK, hix, if_neg (by decide), cutL, if_pos rfl, ← ih]
      rfl
    · have hp : ([c] : List UInt8).isPrefixOf (b :: l) = false := by simp [List.isPrefixOf, Ne.symm hb]
      have hix : Lib.index (b :: l) [c] = if Lib.index l [c] == -1 then -1 else Lib.index l [c] + 1 := by rw [Lib.index, hp]; simp
      rw [Lib.count_cons_ne b c l hb, cutL, if_neg hb, ← ih]
      cases hk : Lib.count l [c] with
      | zero => rfl
      | succ k =>
        have hge := Lib.index_ge l [c]
        have hm : ¬ Lib.index l [c] = -1 := fun e => by rw [Lib.count_miss e] at hk; cases hk
        obtain ⟨j, hj⟩ : ∃ j : Nat, Lib.index l [c] = j := ⟨(Lib.index l [c]).toNat, by omega⟩
        have h1 : ¬ ((Lib.index l [c] == -1) = true) := fun e => hm (beq_iff_eq.1 e)
        rw [if_neg h1] at hix
        have h2 : ¬ ((Lib.index (b :: l) [c] == -1) = true) := fun e => by have := beq_iff_eq.1 e; omega
        rw [Lib.splitK, Lib.splitK, if_neg h1, if_neg h2, hix, hj]
        have e1 : ((j : Int) + 1).toNat = j + 1 := by omega
        rw [e1, Int.toNat_natCast]
        rfl
/-- The pieces that strings.Split hands back. -/
theorem splitB_cut (c : UInt8) (s : ByteArray) : Lib.splitB ⟨#[c]⟩ 0 (Lib.countB s ⟨#[c]⟩) s = (cutL c s.data.toList).map bs := by
  have h := Lib.splitB_data ⟨#[c]⟩ 0 (Lib.countB s ⟨#[c]⟩) s
  have h2 := splitK_cut c s.data.toList
  have h3 : (Lib.splitB ⟨#[c]⟩ 0 (Lib.countB s ⟨#[c]⟩) s).map (fun x => x.data.toList) = cutL c s.data.toList := by rw [h, ← h2]
  rw [← h3, List.map_map]
  have : (bs ∘ fun x : ByteArray => x.data.toList) = id := by funext x; exact bs_data x
  rw [this, List.map_id]
theorem countB_cut (c : UInt8) (s : ByteArray) : Lib.countB s ⟨#[c]⟩ + 1 = (cutL c s.data.toList).length := by
  have h := Lib.splitB_all ⟨#[c]⟩ (Nat.le_refl 1) 0 _ s rfl
  rw [splitB_cut, List.length_map] at h
  exact h.symm

/-- The last place of a byte: what lies ahead, what lies behind. -/
def lastCut (c : UInt8) : List UInt8 → Option (List UInt8 × List UInt8)
  | [] => none
  | b :: r => match lastCut c r with
    | some (h, t) => some (b :: h, t)
    | none => if b = c then some ([], r) else none
theorem lastCut_none (c : UInt8) : ∀ l, lastCut c l = none ↔ c ∉ l
  | [] => by simp [lastCut]
  | b :: r => by
    have ih := lastCut_none c r
    unfold lastCut
    cases h : lastCut c r with
    | some x =>
      rw [h] at ih
      simp at ih
      simp [ih]
    | none =>
      rw [h] at ih
      have hn := ih.1 rfl
      by_cases hb : b = c
      · simp [hb]
      · simp [hb, hn, Ne.symm hb]
theorem lastCut_some (c : UInt8) : ∀ (l h t : List UInt8), lastCut c l = some (h, t) → l = h ++ c :: t ∧ c ∉ t
  | [], _, _, e => by cases e
  | b :: r, h, t, e => by
    unfold lastCut at e
    cases hr : lastCut c r with
    | some x =>
      obtain ⟨h', t'⟩ := x
      rw [hr] at e
      cases e
      obtain ⟨e1, e2⟩ := lastCut_some c r h' t hr
      exact ⟨by rw [e1]; rfl, e2⟩
    | none =>
      rw [hr] at e
      by_cases hb : b = c
      · simp only [hb, if_true] at e
        cases e
        exact ⟨by rw [hb]; rfl, (lastCut_none c _).1 hr⟩
      · simp [hb] at e
theorem cutL_last {c : UInt8} {l h t : List UInt8} (e : lastCut c l = some (h, t)) : cutL c l = cutL c h ++ [t] := by
  obtain ⟨e1, e2⟩ := lastCut_some c l h t e
  rw [e1, cutL_snoc, cutL_none c t e2]
theorem lastCut_of {c : UInt8} {h t : List UInt8} (e : c ∉ t) : lastCut c (h ++ c :: t) = some (h, t) := by
  induction h with
  | nil =>
    rw [List.nil_append, lastCut, (lastCut_none c t).2 e]
    simp
  | cons b h ih => rw [List.cons_append, lastCut, ih]
theorem lastIndex_cut (c : UInt8) (s : ByteArray) : match lastCut c s.data.toList with
    | none => Lib.lastIndexByte s (c.toNat : Int) = -1
    | some (h, _) => Lib.lastIndexByte s (c.toNat : Int) = (h.length : Int) := by
  have hget : ∀ j, j < s.size → s.data[j]! = s.data.toList.getD j 0 := fun j hj => by
    have hj' : j < s.data.size := hj
    rw [getElem!_pos s.data j hj', List.getD_eq_getElem?_getD, Array.getElem?_toList, Array.getElem?_eq_getElem hj', Option.getD_some]
  have hlen : s.data.toList.length = s.size := Array.length_toList
  cases hc : lastCut c s.data.toList with
  | none =>
    have hn := (lastCut_none c _).1 hc
    rcases Lib.lastIndexByte_spec s (c.toNat : Int) with ⟨h, _⟩ | ⟨i, hi, _, h, _⟩
    · exact h
    · exfalso
      rw [hget i hi] at h
      apply hn
      have e : s.data.toList.getD i 0 = c := UInt8.toNat_inj.1 (by omega)
      rw [← e, List.getD_eq_getElem?_getD, List.getElem?_eq_getElem (by omega), Option.getD_some]
      exact List.getElem_mem _
  | some x =>
    obtain ⟨h, t⟩ := x
    obtain ⟨e1, e2⟩ := lastCut_some c _ h t hc
    have hsz : s.size = h.length + 1 + t.length := by rw [← hlen, e1]; simp; omega
    have hat : s.data.toList.getD h.length 0 = c := by rw [e1]; simp
    have hbe : ∀ j, h.length < j → j < s.size → s.data.toList.getD j 0 ≠ c := fun j h1 h2 he => by
      apply e2
      rw [← he, e1, List.getD_eq_getElem?_getD, List.getElem?_eq_getElem (by simp; omega), Option.getD_some, List.getElem_append_right (by omega)]
      obtain ⟨k, hk⟩ : ∃ k, j - h.length = k + 1 := ⟨j - h.length - 1, by omega⟩
      simp only [hk, List.getElem_cons_succ]
      exact List.getElem_mem _
    rcases Lib.lastIndexByte_spec s (c.toNat : Int) with ⟨_, h0⟩ | ⟨i, hi, h1, h2, h3⟩
    · exact absurd (by rw [hget _ (by omega), hat]) (h0 h.length (by omega))
    · show Lib.lastIndexByte s (c.toNat : Int) = (h.length : Int)
      rw [h1]
      rw [hget i hi] at h2
      rcases Nat.lt_trichotomy i h.length with hlt | heq | hgt
      · exact absurd (by rw [hget _ (by omega), hat]) (h3 h.length hlt (by omega))
      · rw [heq]
      · exact absurd (UInt8.toNat_inj.1 (by omega)) (hbe i hgt hi)
end Go.Proofs.YtcnadjdijolboaaGreatDoor
