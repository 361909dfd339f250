/- Words, Byte, SealQ, Mark0, Texts -/
import Derived.Test.YtfbndfkahodheaaGreatDoorMg1
import Derived.Lib.Split
import Derived.Lib.SplitLaws
import Derived.Lib.Join
import Derived.Lib.LastIndexByte
import Derived.WalkKit
import Derived.WalkSpells
import Derived.Test.YtfbndfkahodheaaGreatDoorProg
import Derived.WalkLawsBesides
import Derived.Lib.Hide
import Derived.Deep.QuietTactic
import Derived.BigQuiet
import Derived.Deep.Draws
/- Plain: texts cut by a byte, and glued. No program in sight. -/
namespace Go.Proofs.YtfbndfkahodheaaGreatDoor

def cutL (c : UInt8) : List UInt8 → List (List UInt8)
  | [] => [[]]
  | b :: r => if b = c then [] :: cutL c r else match cutL c r with
    | [] => [[b]]
    | h :: t => (b :: h) :: t
theorem cutL_ne (c : UInt8) : ∀ l, cutL c l ≠ []
  | [] => by simp [cutL]
  | b :: r => by
    unfold cutL
    split
    · simp
    · split <;> simp
theorem cutL_length (c : UInt8) (l : List UInt8) : 1 ≤ (cutL c l).length := by
  have := cutL_ne c l
  cases h : cutL c l with
  | nil => exact absurd h this
  | cons x y => simp
theorem cutL_none (c : UInt8) : ∀ l, c ∉ l → cutL c l = [l]
  | [], _ => rfl
  | b :: r, h => by
    have hb : ¬ b = c := fun e => h (by simp [e])
    rw [cutL, if_neg hb, cutL_none c r (fun hm => h (by simp [hm]))]
theorem cutL_cut (c : UInt8) (w : List UInt8) (r : List UInt8) (h : c ∉ w) : cutL c (w ++ c :: r) = w :: cutL c r := by
  induction w with
  | nil => rw [List.nil_append, cutL, if_pos rfl]
  | cons b w ih =>
    have hb : ¬ b = c := fun e => h (by simp [e])
    rw [List.cons_append, cutL, if_neg hb, ih (fun hm => h (by simp [hm]))]
theorem cutL_snoc (c : UInt8) : ∀ (l t : List UInt8), cutL c (l ++ c :: t) = cutL c l ++ cutL c t
  | [], t => by
    show cutL c (c :: t) = [] :: cutL c t
    rw [cutL, if_pos rfl]
  | b :: r, t => by
    by_cases hb : b = c
    · rw [List.cons_append, cutL, if_pos hb, cutL_snoc c r t]
      conv => rhs; rw [cutL, if_pos hb]
      rfl
    · rw [List.cons_append, cutL, if_neg hb, cutL_snoc c r t]
      conv => rhs; rw [cutL, if_neg hb]
      cases h : cutL c r with
      | nil => exact absurd h (cutL_ne c r)
      | cons x y => rfl

theorem cutL_len (c : UInt8) : ∀ l, ∀ x ∈ cutL c l, x.length ≤ l.length
  | [], x, hx => by
    simp [cutL] at hx
    simp [hx]
  | b :: r, x, hx => by
    have ih := cutL_len c r
    unfold cutL at hx
    by_cases hb : b = c
    · rw [if_pos hb] at hx
      rcases List.mem_cons.1 hx with rfl | h
      · simp
      · have := ih x h
        simp only [List.length_cons]
        omega
    · rw [if_neg hb] at hx
      cases hr : cutL c r with
      | nil => exact absurd hr (cutL_ne c r)
      | cons y z =>
        rw [hr] at hx ih
        rcases List.mem_cons.1 hx with rfl | h
        · have := ih y (by simp)
          simp only [List.length_cons]
          omega
        · have := ih x (by simp [h])
          simp only [List.length_cons]
          omega

/-- Texts, with a byte between. -/
def glue (c : UInt8) : List (List UInt8) → List UInt8
  | [] => []
  | w :: r => w ++ r.flatMap (fun y => c :: y)
theorem glue_one (c : UInt8) (w : List UInt8) : glue c [w] = w := by simp [glue]
theorem glue_cons (c : UInt8) (w : List UInt8) {r : List (List UInt8)} (h : r ≠ []) : glue c (w :: r) = w ++ c :: glue c r := by
  cases r with
  | nil => exact absurd rfl h
  | cons x y => simp [glue]
theorem glue_snoc (c : UInt8) {W : List (List UInt8)} (h : W ≠ []) (x : List UInt8) : glue c (W ++ [x]) = glue c W ++ c :: x := by
  cases W with
  | nil => exact absurd rfl h
  | cons w r => simp [glue, List.flatMap_append]
theorem glue_cut (c : UInt8) : ∀ l, glue c (cutL c l) = l
  | [] => rfl
  | b :: r => by
    have ih := glue_cut c r
    by_cases hb : b = c
    · rw [cutL, if_pos hb, glue_cons c [] (cutL_ne c r), ih, hb]; rfl
    · rw [cutL, if_neg hb]
      cases h : cutL c r with
      | nil => exact absurd h (cutL_ne c r)
      | cons x y =>
        rw [h] at ih
        simp only [glue] at ih ⊢
        rw [List.cons_append, ih]
theorem cut_glue (c : UInt8) : ∀ W : List (List UInt8), W ≠ [] → (∀ w ∈ W, c ∉ w) → cutL c (glue c W) = W
  | [], h, _ => absurd rfl h
  | [w], _, h => by rw [glue_one, cutL_none c w (h w (by simp))]
  | w :: x :: r, _, h => by
    rw [glue_cons c w (by simp), cutL_cut c w _ (h w (by simp)), cut_glue c (x :: r) (by simp) (fun y hy => h y (by simp at hy ⊢; exact .inr hy))]
theorem join_glue (c : UInt8) : ∀ W : List (List UInt8), Lib.join W [c] = glue c W
  | [] => rfl
  | [w] => by rw [Lib.join_one, glue_one]
  | w :: x :: r => by
    have ih := join_glue c (x :: r)
    rw [glue_cons c w (by simp), ← ih]
    simp [Lib.join, List.intercalate, List.intersperse]

/-- strings.Split by one byte. -/
theorem splitK_cut (c : UInt8) : ∀ l : List UInt8, Lib.splitK [c] 0 (Lib.count l [c]) l = cutL c l
  | [] => by
    rw [Lib.count_one]
    rfl
  | b :: l => by
    have ih := splitK_cut c l
    by_cases hb : b = c
    · subst hb
      rw [Lib.count_cons_eq, Nat.add_comm]
      have hix : Lib.index (b :: l) [b] = 0 := by rw [Lib.index]; simp [List.isPrefixOf]
      rw [Lib.splitK, hix, if_neg (by decide), cutL, if_pos rfl, ← ih]
      rfl
    · have hp : ([c] : List UInt8).isPrefixOf (b :: l) = false := by simp [List.isPrefixOf, Ne.symm hb]
      have hix : Lib.index (b :: l) [c] = if Lib.index l [c] == -1 then -1 else Lib.index l [c] + 1 := by rw [Lib.index, hp]; simp
      rw [Lib.count_cons_ne b c l hb, cutL, if_neg hb, ← ih]
      cases hk : Lib.count l [c] with
      | zero => rfl
      | succ k =>
        have hge := Lib.index_ge l [c]
        have hm : ¬ Lib.index l [c] = -1 := fun e => by rw [Lib.count_miss e] at hk; cases hk
        obtain ⟨j, hj⟩ : ∃ j : Nat, Lib.index l [c] = j := ⟨(Lib.index l [c]).toNat, by omega⟩
        have h1 : ¬ ((Lib.index l [c] == -1) = true) := fun e => hm (beq_iff_eq.1 e)
        rw [if_neg h1] at hix
        have h2 : ¬ ((Lib.index (b :: l) [c] == -1) = true) := fun e => by have := beq_iff_eq.1 e; omega
        rw [Lib.splitK, Lib.splitK, if_neg h1, if_neg h2, hix, hj]
        have e1 : ((j : Int) + 1).toNat = j + 1 := by omega
        rw [e1, Int.toNat_natCast]
        rfl
/-- The pieces that strings.Split hands back. -/
theorem splitB_cut (c : UInt8) (s : ByteArray) : Lib.splitB ⟨#[c]⟩ 0 (Lib.countB s ⟨#[c]⟩) s = (cutL c s.data.toList).map bs := by
  have h := Lib.splitB_data ⟨#[c]⟩ 0 (Lib.countB s ⟨#[c]⟩) s
  have h2 := splitK_cut c s.data.toList
  have h3 : (Lib.splitB ⟨#[c]⟩ 0 (Lib.countB s ⟨#[c]⟩) s).map (fun x => x.data.toList) = cutL c s.data.toList := by rw [h, ← h2]
  rw [← h3, List.map_map]
  have : (bs ∘ fun x : ByteArray => x.data.toList) = id := by funext x; exact bs_data x
  rw [this, List.map_id]
theorem countB_cut (c : UInt8) (s : ByteArray) : Lib.countB s ⟨#[c]⟩ + 1 = (cutL c s.data.toList).length := by
  have h := Lib.splitB_all ⟨#[c]⟩ (Nat.le_refl 1) 0 _ s rfl
  rw [splitB_cut, List.length_map] at h
  exact h.symm

/-- The last place of a byte: what lies ahead, what lies behind. -/
def lastCut (c : UInt8) : List UInt8 → Option (List UInt8 × List UInt8)
  | [] => none
  | b :: r => match lastCut c r with
    | some (h, t) => some (b :: h, t)
    | none => if b = c then some ([], r) else none
theorem lastCut_none (c : UInt8) : ∀ l, lastCut c l = none ↔ c ∉ l
  | [] => by simp [lastCut]
  | b :: r => by
    have ih := lastCut_none c r
    unfold lastCut
    cases h : lastCut c r with
    | some x =>
      rw [h] at ih
      simp at ih
      simp [ih]
    | none =>
      rw [h] at ih
      have hn := ih.1 rfl
      by_cases hb : b = c
      · simp [hb]
      · simp [hb, hn, Ne.symm hb]
theorem lastCut_some (c : UInt8) : ∀ (l h t : List UInt8), lastCut c l = some (h, t) → l = h ++ c :: t ∧ c ∉ t
  | [], _, _, e => by cases e
  | b :: r, h, t, e => by
    unfold lastCut at e
    cases hr : lastCut c r with
    | some x =>
      obtain ⟨h', t'⟩ := x
      rw [hr] at e
      cases e
      obtain ⟨e1, e2⟩ := lastCut_some c r h' t hr
      exact ⟨by rw [e1]; rfl, e2⟩
    | none =>
      rw [hr] at e
      by_cases hb : b = c
      · simp only [hb, if_true] at e
        cases e
        exact ⟨by rw [hb]; rfl, (lastCut_none c _).1 hr⟩
      · simp [hb] at e
theorem cutL_last {c : UInt8} {l h t : List UInt8} (e : lastCut c l = some (h, t)) : cutL c l = cutL c h ++ [t] := by
  obtain ⟨e1, e2⟩ := lastCut_some c l h t e
  rw [e1, cutL_snoc, cutL_none c t e2]
theorem lastCut_of {c : UInt8} {h t : List UInt8} (e : c ∉ t) : lastCut c (h ++ c :: t) = some (h, t) := by
  induction h with
  | nil =>
    rw [List.nil_append, lastCut, (lastCut_none c t).2 e]
    simp
  | cons b h ih => rw [List.cons_append, lastCut, ih]
theorem lastIndex_cut (c : UInt8) (s : ByteArray) : match lastCut c s.data.toList with
    | none => Lib.lastIndexByte s (c.toNat : Int) = -1
    | some (h, _) => Lib.lastIndexByte s (c.toNat : Int) = (h.length : Int) := by
  have hget : ∀ j, j < s.size → s.data[j]! = s.data.toList.getD j 0 := fun j hj => by
    have hj' : j < s.data.size := hj
    rw [getElem!_pos s.data j hj', List.getD_eq_getElem?_getD, Array.getElem?_toList, Array.getElem?_eq_getElem hj', Option.getD_some]
  have hlen : s.data.toList.length = s.size := Array.length_toList
  cases hc : lastCut c s.data.toList with
  | none =>
    have hn := (lastCut_none c _).1 hc
    rcases Lib.lastIndexByte_spec s (c.toNat : Int) with ⟨h, _⟩ | ⟨i, hi, _, h, _⟩
    · exact h
    · exfalso
      rw [hget i hi] at h
      apply hn
      have e : s.data.toList.getD i 0 = c := UInt8.toNat_inj.1 (by omega)
      rw [← e, List.getD_eq_getElem?_getD, List.getElem?_eq_getElem (by omega), Option.getD_some]
      exact List.getElem_mem _
  | some x =>
    obtain ⟨h, t⟩ := x
    obtain ⟨e1, e2⟩ := lastCut_some c _ h t hc
    have hsz : s.size = h.length + 1 + t.length := by rw [← hlen, e1]; simp; omega
    have hat : s.data.toList.getD h.length 0 = c := by rw [e1]; simp
    have hbe : ∀ j, h.length < j → j < s.size → s.data.toList.getD j 0 ≠ c := fun j h1 h2 he => by
      apply e2
      rw [← he, e1, List.getD_eq_getElem?_getD, List.getElem?_eq_getElem (by simp; omega), Option.getD_some, List.getElem_append_right (by omega)]
      obtain ⟨k, hk⟩ : ∃ k, j - h.length = k + 1 := ⟨j - h.length - 1, by omega⟩
      simp only [hk, List.getElem_cons_succ]
      exact List.getElem_mem _
    rcases Lib.lastIndexByte_spec s (c.toNat : Int) with ⟨_, h0⟩ | ⟨i, hi, h1, h2, h3⟩
    · exact absurd (by rw [hget _ (by omega), hat]) (h0 h.length (by omega))
    · show Lib.lastIndexByte s (c.toNat : Int) = (h.length : Int)
      rw [h1]
      rw [hget i hi] at h2
      rcases Nat.lt_trichotomy i h.length with hlt | heq | hgt
      · exact absurd (by rw [hget _ (by omega), hat]) (h3 h.length hlt (by omega))
      · rw [heq]
      · exact absurd (UInt8.toNat_inj.1 (by omega)) (hbe i hgt hi)
end Go.Proofs.YtfbndfkahodheaaGreatDoor

/- One byte another one: another mark; a byte stored into a text's bytes. -/
namespace Go.Proofs.YtfbndfkahodheaaGreatDoor
open Go.RowKit

theorem mstep_inj (k n m : Int) (c : UInt8) (h0 : 0 ≤ n) (h1 : n < 1000000007) (h2 : 0 ≤ m) (h3 : m < 1000000007) (h : mstep k n c = mstep k m c) : n = m := by
  unfold mstep at h; omega
theorem mfold_inj (k : Int) (l : List UInt8) : ∀ n m : Int, 0 ≤ n → n < 1000000007 → 0 ≤ m → m < 1000000007 → mfold k n l = mfold k m l → n = m := by
  induction l with
  | nil => intro n m _ _ _ _ h; exact h
  | cons c l ih =>
    intro n m h0 h1 h2 h3 h
    exact mstep_inj k n m c h0 h1 h2 h3 (ih _ _ (mstep_bd _ _ _).1 (mstep_bd _ _ _).2 (mstep_bd _ _ _).1 (mstep_bd _ _ _).2 h)
theorem mstep_byte (k n : Int) (c d : UInt8) (h : mstep k n c = mstep k n d) : c = d := by
  unfold mstep at h
  have := UInt8.toNat_lt c
  have := UInt8.toNat_lt d
  exact UInt8.toNat_inj.1 (by omega)
/-- With one byte another one it is another mark. -/
theorem mfold_byte (k n : Int) (l t : List UInt8) (c d : UInt8) (h : mfold k n (l ++ c :: t) = mfold k n (l ++ d :: t)) (h0 : 0 ≤ n) (h1 : n < 1000000007) : c = d := by
  rw [mfold_append, mfold_append] at h
  have hb := mfold_bd k l n h0 h1
  generalize mfold k n l = m at *
  exact mstep_byte k m c d (mfold_inj k t _ _ (mstep_bd _ _ _).1 (mstep_bd _ _ _).2 (mstep_bd _ _ _).1 (mstep_bd _ _ _).2 h)
theorem append_data (a b : ByteArray) : (a ++ b).data.toList = a.data.toList ++ b.data.toList := by simp [ByteArray.data_append]
theorem split_at (l : List UInt8) (i : Nat) (h : i < l.length) (d : UInt8) : l.set i d = l.take i ++ d :: l.drop (i + 1) := List.set_eq_take_append_cons_drop .. |>.trans (by rw [if_pos h])

/-- A byte stored into a text's bytes. -/
theorem storeByte_cells (w : World) (a : ByteArray) (j : Nat) (x : Int) (hj : j < a.size) (hx0 : 0 ≤ x) (hx1 : x ≤ 255) (e : TypeId) (cap : Nat) :
    (w.alloc (.cells (bytesRow a cap) e ((bytesRow a cap).size, (bytesRow a cap).size + 1))).cell? ⟨w.heap.size, j, none⟩ = some (.int .u8 ((byteAt a j).toNat : Int)) ∧
    (w.alloc (.cells (bytesRow a cap) e ((bytesRow a cap).size, (bytesRow a cap).size + 1))).frozen? ⟨w.heap.size, j, none⟩ = false ∧
    ∀ i (hi : i < (a.data.toList.set j (UInt8.ofNat x.toNat)).length), (((w.alloc (.cells (bytesRow a cap) e ((bytesRow a cap).size, (bytesRow a cap).size + 1))).setCell ⟨w.heap.size, j, none⟩ (.int .u8 x)).drew).cell? ((⟨w.heap.size, 0, none⟩ : Addr).add i) = some (.int .u8 ((a.data.toList.set j (UInt8.ofNat x.toNat))[i].toNat : Int)) := by
  have h1 := bytesRow_cell w a j hj e cap ((bytesRow a cap).size, (bytesRow a cap).size + 1)
  have hsz : a.size ≤ (bytesRow a cap).size := by unfold bytesRow; simp
  refine ⟨h1, ?_, ?_⟩
  · rw [World.frozen?_alloc_mark]; simp; omega
  · intro i hi
    have hi' : i < a.size := by simpa using hi
    rw [World.cell?_drew, Addr.add_lit, Nat.zero_add]
    by_cases hij : i = j
    · subst hij
      rw [World.cell?_setCell_same _ _ _ h1]
      have ht : (UInt8.ofNat x.toNat).toNat = x.toNat := by simp; omega
      simp only [List.getElem_set_self, ht]
      rw [Int.toNat_of_nonneg hx0]
    · rw [World.cell?_setCell_other _ _ _ _ (by intro h; cases h; exact hij rfl), bytesRow_cell w a i hi' e cap, byteAt_eq a i hi', List.getElem_set_ne (by omega)]
      rfl
end Go.Proofs.YtfbndfkahodheaaGreatDoor

/- Plain: what is sealed is opened as it was; with one byte another one it is not; what is opened is sealed as it was. No program in sight. -/
namespace Go.Proofs.YtfbndfkahodheaaGreatDoor

def badP (x : List UInt8) : Bool := !isWord x
/-- The first text that is no word (-1: none). -/
def badIdx (W : List (List UInt8)) : Int := if W.findIdx badP < W.length then (W.findIdx badP : Int) else -1
theorem badIdx_of {W : List (List UInt8)} {j : Nat} (hj : j < W.length) (hb : isWord W[j] = false) (ha : ∀ i (h : i < W.length), i < j → isWord W[i] = true) : badIdx W = (j : Int) := by
  have : W.findIdx badP = j := (List.findIdx_eq hj).2 ⟨by unfold badP; rw [hb]; rfl, fun i hi => by unfold badP; rw [ha i (by omega) hi]; rfl⟩
  unfold badIdx
  rw [this, if_pos hj]
theorem badIdx_none {W : List (List UInt8)} (ha : ∀ i (h : i < W.length), isWord W[i] = true) : badIdx W = -1 := by
  have : W.findIdx badP = W.length := List.findIdx_eq_length.2 fun x hx => by
    obtain ⟨i, hi, rfl⟩ := List.getElem_of_mem hx
    unfold badP
    rw [ha i hi]
    rfl
  unfold badIdx
  rw [this, if_neg (Nat.lt_irrefl _)]
theorem badIdx_neg {W : List (List UInt8)} (h : ∀ x ∈ W, isWord x = true) : badIdx W = -1 := badIdx_none fun _ hi => h _ (List.getElem_mem hi)
theorem badIdx_cases (W : List (List UInt8)) : (badIdx W = -1 ∧ ∀ x ∈ W, isWord x = true) ∨ ∃ j : Nat, ∃ h : j < W.length, badIdx W = (j : Int) ∧ isWord W[j] = false ∧ ∀ i (h : i < W.length), i < j → isWord W[i] = true := by
  rcases Nat.lt_or_ge (W.findIdx badP) W.length with h | h
  · refine .inr ⟨W.findIdx badP, h, by unfold badIdx; rw [if_pos h], ?_, fun i hi hij => ?_⟩
    · have hq : badP W[W.findIdx badP] = true := List.findIdx_getElem (w := h)
      generalize W[W.findIdx badP] = y at hq ⊢
      unfold badP at hq
      simpa using hq
    · have := List.not_of_lt_findIdx hij
      unfold badP at this
      simpa using this
  · refine .inl ⟨by unfold badIdx; rw [if_neg (by omega)], fun x hx => ?_⟩
    have := List.findIdx_eq_length.1 (Nat.le_antisymm List.findIdx_le_length h) x hx
    unfold badP at this
    simpa using this

theorem glue_len (c : UInt8) : ∀ W : List (List UInt8), (∀ x ∈ W, x.length ≤ 20) → (glue c W).length ≤ 21 * W.length
  | [], _ => by simp [glue]
  | [w], h => by rw [glue_one]; have := h w (by simp); simp; omega
  | w :: x :: r, h => by
    rw [glue_cons c w (by simp)]
    have h1 := h w (by simp)
    have h2 := glue_len c (x :: r) (fun y hy => h y (by simp at hy ⊢; exact .inr hy))
    simp only [List.length_append, List.length_cons] at h2 ⊢
    omega

/-- A sealed text of words. -/
def sealText (k : Int) (W : List (List UInt8)) : List UInt8 := glue 32 W ++ 32 :: Lib.itoa (markOf k (glue 32 W)).1
/-- What seal.Make answers: a text, an error's number, its place. -/
def makeOf (k : Int) (W : List (List UInt8)) : List UInt8 × Nat × Int :=
  if isKey k = false then ([], 10, -1) else if W.length = 0 ∨ 10 < W.length then ([], 3, -1) else if badIdx W = -1 then (sealText k W, 0, -1) else ([], 1, badIdx W)

/-- What seal.look finds: what is marked, its words, its mark; an error's number. -/
def lookOf (s : List UInt8) : List UInt8 × List (List UInt8) × Int × Nat :=
  if 4000 < s.length then ([], [], 0, 2) else match lastCut 32 s with
  | none => ([], [], 0, 1)
  | some (h, t) => if (number t 1000000006).2 = false then ([], [], 0, 1) else if 10 < (cutL 32 h).length then ([], [], 0, 1) else if badIdx (cutL 32 h) = -1 then (h, cutL 32 h, (number t 1000000006).1, 0) else ([], [], 0, 1)
/-- Its words. -/
def openOf (k : Int) (s : List UInt8) : List (List UInt8) × Nat :=
  if isKey k = false then ([], 10) else if (lookOf s).2.2.2 = 0 then (if rightOf k (lookOf s).1 (lookOf s).2.2.1 = 0 then ((lookOf s).2.1, 0) else ([], rightOf k (lookOf s).1 (lookOf s).2.2.1)) else ([], (lookOf s).2.2.2)

theorem lookOf_len (s : List UInt8) : (lookOf s).1.length ≤ s.length := by
  unfold lookOf
  split
  · exact Nat.zero_le _
  · cases hc : lastCut 32 s with
    | none => exact Nat.zero_le _
    | some x =>
      obtain ⟨h, t⟩ := x
      obtain ⟨e, _⟩ := lastCut_some 32 s h t hc
      have : h.length ≤ s.length := by rw [e]; simp
      dsimp only
      split
      · exact Nat.zero_le _
      · split
        · exact Nat.zero_le _
        · split
          · exact this
          · exact Nat.zero_le _

theorem badIdx_iff (W : List (List UInt8)) : badIdx W = -1 ↔ ∀ x ∈ W, isWord x = true := by
  rcases badIdx_cases W with ⟨h, ha⟩ | ⟨j, hj, h, hb, _⟩
  · exact ⟨fun _ => ha, fun _ => h⟩
  · refine ⟨fun e => by omega, fun ha => ?_⟩
    have := ha _ (List.getElem_mem hj)
    rw [hb] at this
    cases this
theorem number_true {t : List UInt8} {most : Int} (h : (number t most).2 = true) : Lib.itoa (number t most).1 = t ∧ 0 ≤ (number t most).1 ∧ (number t most).1 ≤ most ∧ t.length ≤ 10 := by
  unfold number at h ⊢
  cases hn : numOf t with
  | none => rw [hn] at h; cases h
  | some n =>
    rw [hn] at h
    obtain ⟨_, h2, _, h4⟩ := numOf_some hn
    by_cases hm : (n : Int) ≤ most
    · simp only [hm, if_true]
      exact ⟨h4, by omega, trivial, h2⟩
    · simp [hm] at h
theorem number_itoa {n : Int} {most : Int} (h0 : 0 ≤ n) (h1 : n < 10000000000) (hm : n ≤ most) : number (Lib.itoa n) most = (n, true) := by
  obtain ⟨k, rfl⟩ := Int.eq_ofNat_of_zero_le h0
  unfold number
  rw [numOf_itoa (itoa_len10 h0 h1)]
  simp [hm]
theorem itoa_digits {n : Int} (h0 : 0 ≤ n) : (Lib.itoa n).all digB = true := by
  unfold Lib.itoa
  rw [if_neg (by omega)]
  exact decDigits_all _
theorem itoa_no_space {n : Int} (h0 : 0 ≤ n) : (32 : UInt8) ∉ Lib.itoa n := by
  intro hm
  have := List.all_eq_true.1 (itoa_digits h0) 32 hm
  revert this
  decide
/-- What is opened: how it looks. -/
theorem open_shape {k : Int} {s : List UInt8} (h : (openOf k s).2 = 0) :
    isKey k = true ∧ s.length ≤ 4000 ∧ ∃ hd, s = hd ++ 32 :: Lib.itoa (markOf k hd).1 ∧ (openOf k s).1 = cutL 32 hd ∧ (cutL 32 hd).length ≤ 10 ∧ ∀ x ∈ cutL 32 hd, isWord x = true := by
  unfold openOf at h ⊢
  by_cases hk : isKey k = false
  · rw [if_pos hk] at h; cases h
  rw [if_neg hk] at h ⊢
  have hk : isKey k = true := by simpa using hk
  by_cases hl : (lookOf s).2.2.2 = 0
  case neg => rw [if_neg hl] at h; exact absurd h hl
  rw [if_pos hl] at h ⊢
  by_cases hr : rightOf k (lookOf s).1 (lookOf s).2.2.1 = 0
  case neg => rw [if_neg hr] at h; exact absurd h hr
  rw [if_pos hr]
  unfold lookOf at hl hr ⊢
  by_cases h4 : 4000 < s.length
  · rw [if_pos h4] at hl; cases hl
  rw [if_neg h4] at hl hr ⊢
  cases hc : lastCut 32 s with
  | none => rw [hc] at hl; cases hl
  | some x =>
    obtain ⟨hd, t⟩ := x
    rw [hc] at hl hr
    dsimp only at hl hr ⊢
    obtain ⟨e1, e2⟩ := lastCut_some 32 s hd t hc
    by_cases hn : (number t 1000000006).2 = false
    · rw [if_pos hn] at hl; cases hl
    rw [if_neg hn] at hl hr ⊢
    by_cases h10 : 10 < (cutL 32 hd).length
    · rw [if_pos h10] at hl; cases hl
    rw [if_neg h10] at hl hr ⊢
    by_cases hb : badIdx (cutL 32 hd) = -1
    case neg => rw [if_neg hb] at hl; cases hl
    rw [if_pos hb] at hr ⊢
    dsimp only at hr ⊢
    have hn : (number t 1000000006).2 = true := by simpa using hn
    obtain ⟨n1, n2, n3, n4⟩ := number_true hn
    have hm : (markOf k hd).1 = (number t 1000000006).1 := by
      unfold rightOf at hr
      have : (markOf k hd).2 = 0 := by unfold markOf; rw [if_pos hk]
      rw [if_pos this] at hr
      split at hr
      · assumption
      · cases hr
    refine ⟨hk, by omega, hd, ?_, rfl, by omega, (badIdx_iff _).1 hb⟩
    rw [hm, n1]
    exact e1
/-- What looks so is opened. -/
theorem open_of {k : Int} {W : List (List UInt8)} (hk : isKey k = true) (h1 : 1 ≤ W.length) (h10 : W.length ≤ 10) (hw : ∀ x ∈ W, isWord x = true) : openOf k (sealText k W) = (W, 0) := by
  have hm := markOf_bd k (glue 32 W)
  have h20 : ∀ x ∈ W, x.length ≤ 20 := fun x hx => ((isWord_iff x).1 (hw x hx)).2.1
  have hg := glue_len 32 W h20
  have hil := itoa_len10 hm.1 (by omega)
  have hcut : cutL 32 (glue 32 W) = W := cut_glue 32 W (by intro e; rw [e] at h1; cases h1) (fun x hx => word_no_space (hw x hx))
  have hlc : lastCut 32 (sealText k W) = some (glue 32 W, Lib.itoa (markOf k (glue 32 W)).1) := lastCut_of (itoa_no_space hm.1)
  have hlook : lookOf (sealText k W) = (glue 32 W, W, (markOf k (glue 32 W)).1, 0) := by
    unfold lookOf
    have hlen : ¬ 4000 < (sealText k W).length := by unfold sealText; simp; omega
    rw [if_neg hlen, hlc]
    dsimp only
    rw [number_itoa hm.1 (by omega) (by omega), if_neg (show ¬ (true = false) by decide), hcut, if_neg (by omega), if_pos ((badIdx_iff W).2 hw)]
  unfold openOf
  rw [if_neg (by rw [hk]; decide), hlook]
  have hr : rightOf k (glue 32 W) (markOf k (glue 32 W)).1 = 0 := by
    unfold rightOf
    have : (markOf k (glue 32 W)).2 = 0 := by unfold markOf; rw [if_pos hk]
    rw [if_pos this, if_pos rfl]
  dsimp only
  rw [if_pos rfl, if_pos hr]
theorem make_shape {k : Int} {W : List (List UInt8)} (h : (makeOf k W).2.1 = 0) : isKey k = true ∧ 1 ≤ W.length ∧ W.length ≤ 10 ∧ (∀ x ∈ W, isWord x = true) ∧ makeOf k W = (sealText k W, 0, -1) := by
  unfold makeOf at h ⊢
  by_cases hk : isKey k = false
  · rw [if_pos hk] at h; cases h
  rw [if_neg hk] at h ⊢
  by_cases h0 : W.length = 0 ∨ 10 < W.length
  · rw [if_pos h0] at h; cases h
  rw [if_neg h0] at h ⊢
  by_cases hb : badIdx W = -1
  case neg => rw [if_neg hb] at h; cases h
  rw [if_pos hb]
  exact ⟨by simpa using hk, by omega, by omega, (badIdx_iff W).1 hb, rfl⟩
theorem make_of {k : Int} {W : List (List UInt8)} (hk : isKey k = true) (h1 : 1 ≤ W.length) (h10 : W.length ≤ 10) (hw : ∀ x ∈ W, isWord x = true) : makeOf k W = (sealText k W, 0, -1) := by
  unfold makeOf
  rw [if_neg (by rw [hk]; decide), if_neg (by omega), if_pos ((badIdx_iff W).2 hw)]
theorem make_bad {k : Int} {W : List (List UInt8)} (h : (makeOf k W).2.1 ≠ 0) : (makeOf k W).1 = [] := by
  unfold makeOf at h ⊢
  by_cases hk : isKey k = false
  · rw [if_pos hk]
  rw [if_neg hk] at h ⊢
  by_cases h0 : W.length = 0 ∨ 10 < W.length
  · rw [if_pos h0]
  rw [if_neg h0] at h ⊢
  by_cases hb : badIdx W = -1
  · rw [if_pos hb] at h; exact absurd rfl h
  · rw [if_neg hb]
theorem open_bad {k : Int} {s : List UInt8} (h : (openOf k s).2 ≠ 0) : (openOf k s).1 = [] := by
  unfold openOf at h ⊢
  by_cases hk : isKey k = false
  · rw [if_pos hk]
  rw [if_neg hk] at h ⊢
  by_cases hl : (lookOf s).2.2.2 = 0
  · rw [if_pos hl] at h ⊢
    by_cases hr : rightOf k (lookOf s).1 (lookOf s).2.2.1 = 0
    · rw [if_pos hr] at h; exact absurd rfl h
    · rw [if_neg hr]
  · rw [if_neg hl]
/-- What is opened is sealed as it was. -/
theorem seal_opened {k : Int} {s : List UInt8} (h : (openOf k s).2 = 0) : makeOf k (openOf k s).1 = (s, 0, -1) := by
  obtain ⟨hk, _, hd, e, hW, h10, hw⟩ := open_shape h
  rw [hW, make_of hk (cutL_length 32 hd) h10 hw]
  unfold sealText
  rw [glue_cut, ← e]
/-- With one byte another one it is not opened. -/
theorem seal_byte {k : Int} {W : List (List UInt8)} (hk : isKey k = true) (at_ : Nat) (x : UInt8) (hat : at_ < (sealText k W).length) (hx : (sealText k W).getD at_ 0 ≠ x)
    (hl : at_ ≠ (glue 32 W).length) (hs : ¬ ((glue 32 W).length < at_ ∧ x = 32)) : (openOf k ((sealText k W).set at_ x)).2 ≠ 0 := by
  intro h
  obtain ⟨_, _, hd, e, _⟩ := open_shape h
  have hm := markOf_bd k (glue 32 W)
  have hm2 := markOf_bd k hd
  have hns := itoa_no_space hm.1
  have hns2 := itoa_no_space hm2.1
  have hmk : ∀ l, (markOf k l).1 = mfold k k l := fun l => by unfold markOf; rw [if_pos hk]
  have hkk := (isKey_iff k).1 hk
  rcases Nat.lt_or_gt_of_ne hl with hlt | hgt
  · -- ahead of the last space
    have e2 : (sealText k W).set at_ x = (glue 32 W).set at_ x ++ 32 :: Lib.itoa (markOf k (glue 32 W)).1 := by
      unfold sealText
      rw [List.set_append_left _ _ hlt]
    rw [e2] at e
    have h1 := lastCut_of (h := (glue 32 W).set at_ x) hns
    have h2 := lastCut_of (h := hd) hns2
    rw [e, h2] at h1
    simp only [Option.some.injEq, Prod.mk.injEq] at h1
    obtain ⟨h6, h7⟩ := h1
    subst h6
    have h3 : (markOf k (glue 32 W)).1 = (markOf k ((glue 32 W).set at_ x)).1 := by
      have a1 := number_itoa (most := 1000000006) hm.1 (by omega) (by omega)
      have a2 := number_itoa (most := 1000000006) hm2.1 (by omega) (by omega)
      rw [← h7, a2] at a1
      injection a1 with a1 _
      exact a1.symm
    rw [hmk, hmk, split_at _ at_ hlt] at h3
    have h4 : glue 32 W = (glue 32 W).take at_ ++ (glue 32 W)[at_] :: (glue 32 W).drop (at_ + 1) := by rw [← List.drop_eq_getElem_cons hlt, List.take_append_drop]
    have h5 := mfold_byte k k _ _ _ _ (by rw [← h4]; exact h3 : mfold k k ((glue 32 W).take at_ ++ (glue 32 W)[at_] :: (glue 32 W).drop (at_ + 1)) = mfold k k ((glue 32 W).take at_ ++ x :: (glue 32 W).drop (at_ + 1))) (by omega) (by omega)
    apply hx
    unfold sealText
    rw [List.getD_eq_getElem?_getD, List.getElem?_append_left hlt, List.getElem?_eq_getElem hlt]
    exact h5
  · -- behind it
    obtain ⟨j, hj⟩ : ∃ j, at_ = (glue 32 W).length + (j + 1) := ⟨at_ - (glue 32 W).length - 1, by omega⟩
    subst hj
    have hjl : j < (Lib.itoa (markOf k (glue 32 W)).1).length := by
      unfold sealText at hat
      simp at hat
      omega
    have e2 : (sealText k W).set ((glue 32 W).length + (j + 1)) x = glue 32 W ++ 32 :: (Lib.itoa (markOf k (glue 32 W)).1).set j x := by
      unfold sealText
      rw [List.set_append_right _ _ (by omega)]
      simp
    rw [e2] at e
    have hx32 : x ≠ 32 := fun e => hs ⟨by omega, e⟩
    have hns3 : (32 : UInt8) ∉ (Lib.itoa (markOf k (glue 32 W)).1).set j x := fun hmem => by
      rcases List.mem_or_eq_of_mem_set hmem with h' | h'
      · exact hns h'
      · exact hx32 h'.symm
    have h1 := lastCut_of (h := glue 32 W) hns3
    have h2 := lastCut_of (h := hd) hns2
    rw [e, h2] at h1
    simp only [Option.some.injEq, Prod.mk.injEq] at h1
    obtain ⟨h3, h4⟩ := h1
    subst h3
    apply hx
    unfold sealText
    rw [List.getD_eq_getElem?_getD, List.getElem?_append_right (by omega)]
    simp only [Nat.add_sub_cancel_left, List.getElem?_cons_succ]
    rw [h4]
    simp [hjl]
end Go.Proofs.YtfbndfkahodheaaGreatDoor

/- Errors as values, the sentinels' variables, small lemmas, mark.Key. -/
namespace Go.Proofs.YtfbndfkahodheaaGreatDoor
open Go.RowKit

/-- An error by its number (0: nil). -/
def errV (E : Nat → Addr) : Nat → Value
  | 0 => .nilIface
  | c + 1 => .iface 258 (.pointer (some (E (c + 1))))
theorem errV_zero (E : Nat → Addr) : errV E 0 = .nilIface := rfl
theorem errV_succ (E : Nat → Addr) (c : Nat) : errV E (c + 1) = .iface 258 (.pointer (some (E (c + 1)))) := rfl

/-- The sentinels of package api lie at E, each in a row of its own. -/
structure Laid (E : Nat → Addr) (w : World) : Prop where
  e1 : w.cell? ⟨4, 0, none⟩ = some (errV E 1)
  e2 : w.cell? ⟨1, 0, none⟩ = some (errV E 2)
  e3 : w.cell? ⟨8, 0, none⟩ = some (errV E 3)
  e4 : w.cell? ⟨9, 0, none⟩ = some (errV E 4)
  e5 : w.cell? ⟨7, 0, none⟩ = some (errV E 5)
  e6 : w.cell? ⟨10, 0, none⟩ = some (errV E 6)
  e7 : w.cell? ⟨0, 0, none⟩ = some (errV E 7)
  e8 : w.cell? ⟨11, 0, none⟩ = some (errV E 8)
  e9 : w.cell? ⟨6, 0, none⟩ = some (errV E 9)
  e10 : w.cell? ⟨3, 0, none⟩ = some (errV E 10)
  e11 : w.cell? ⟨12, 0, none⟩ = some (errV E 11)
  e12 : w.cell? ⟨5, 0, none⟩ = some (errV E 12)
  e13 : w.cell? ⟨13, 0, none⟩ = some (errV E 13)
  e14 : w.cell? ⟨14, 0, none⟩ = some (errV E 14)
  e15 : w.cell? ⟨2, 0, none⟩ = some (errV E 15)
  e16 : w.cell? ⟨15, 0, none⟩ = some (errV E 16)
theorem cell_below {w w' : World} (hb : Below w.heap.size w w') {a : Addr} {v : Value} (h : w.cell? a = some v) : w'.cell? a = some v :=
  (hb.cell (World.block_lt_of_cell? w a h)).trans h
theorem Laid.below {E : Nat → Addr} {w w' : World} (h : Laid E w) (hb : Below w.heap.size w w') : Laid E w' where
  e1 := cell_below hb h.e1
  e2 := cell_below hb h.e2
  e3 := cell_below hb h.e3
  e4 := cell_below hb h.e4
  e5 := cell_below hb h.e5
  e6 := cell_below hb h.e6
  e7 := cell_below hb h.e7
  e8 := cell_below hb h.e8
  e9 := cell_below hb h.e9
  e10 := cell_below hb h.e10
  e11 := cell_below hb h.e11
  e12 := cell_below hb h.e12
  e13 := cell_below hb h.e13
  e14 := cell_below hb h.e14
  e15 := cell_below hb h.e15
  e16 := cell_below hb h.e16
theorem below_drawn {B : Nat} {a w : World} (h : Below B a w) (n : Nat) : Below B a (w.drewN n) := ⟨h.os, h.tape, h.output, h.size, h.block⟩
theorem below_trans {w w1 w2 : World} (h : Below w.heap.size w w1) (h' : Below w1.heap.size w1 w2) : Below w.heap.size w w2 := h.trans (h'.mono h.size)
theorem ret_int {a b : Int} (h : a = b) : Ending.returned (.int .i64 a) = .returned (.int .i64 b) := by rw [h]
theorem ret_bool {a b : Bool} (h : a = b) : Ending.returned (.bool a) = .returned (.bool b) := by rw [h]
theorem ret_int2 {a b : Int} {v : Value} (h : a = b) : Ending.returned (.tuple #[.int .i64 a, v]) = .returned (.tuple #[.int .i64 b, v]) := by rw [h]
theorem key_any (k : Int) (w : World) :
    Calls Tryz.prog 55 #[.int .i64 k] w fun e w' => e = .returned (.bool (isKey k)) ∧ w = w' := by
  unfold isKey
  by_cases h : 1 ≤ k <;> by_cases h2 : k ≤ 1000000006
  all_goals
    go_enter Tryz.func55, Tryz.ntmps55
    go_wp2
    go_ret
    exact ⟨by simp [h, h2], rfl⟩
end Go.Proofs.YtfbndfkahodheaaGreatDoor

/- A slice of texts in memory. -/
namespace Go.Proofs.YtfbndfkahodheaaGreatDoor
open Go.RowKit

/-- A slice of texts. -/
def TextsAt (w : World) (v : Value) (N : List (List UInt8)) : Prop :=
  ∃ a c, v = .slice a N.length c ∧ N.length ≤ maxLen ∧ N.length ≤ c ∧ ∀ i (h : i < N.length), ∃ b o, a = some ⟨b, o, none⟩ ∧ w.cell? ⟨b, o + i, none⟩ = some (.string (bs N[i]))
theorem TextsAt.below {w w' : World} {v : Value} {N : List (List UInt8)} (h : TextsAt w v N) (hb : Below w.heap.size w w') : TextsAt w' v N := by
  obtain ⟨a, c, h1, h2, hcap, h3⟩ := h
  refine ⟨a, c, h1, h2, hcap, fun i hi => ?_⟩
  obtain ⟨b, o, h4, h5⟩ := h3 i hi
  exact ⟨b, o, h4, cell_below hb h5⟩
theorem toList_data (s : ByteArray) : s.toList = s.data.toList := ByteArray.toList_eq s
theorem bs_size (n : List UInt8) : (bs n).size = n.length := by simp [bs, ByteArray.size]
end Go.Proofs.YtfbndfkahodheaaGreatDoor
