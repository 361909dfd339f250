/- Byte, SealQ, Mark -/
import Derived.Test.YtfbndfkahodheaaGreatDoorMg1
import Derived.WalkKit
import Derived.WalkSpells
import Derived.Test.YtfbndfkahodheaaGreatDoorMg2
import Derived.Test.YtfbndfkahodheaaGreatDoorProg
import Derived.WalkLawsBesides
import Derived.Lib.Hide
import Derived.Deep.QuietTactic
import Derived.BigQuiet
/- One byte another one: another mark; a byte stored into a text's bytes. -/
namespace Go.Proofs.YtfbndfkahodheaaGreatDoor
open Go.RowKit

theorem mstep_inj (k n m : Int) (c : UInt8) (h0 : 0 ≤ n) (h1 : n < 1000000007) (h2 : 0 ≤ m) (h3 : m < 1000000007) (h : mstep k n c = mstep k m c) : n = m := by
  unfold mstep at h; omega
theorem mfold_inj (k : Int) (l : List UInt8) : ∀ n m : Int, 0 ≤ n → n < 1000000007 → 0 ≤ m → m < 1000000007 → mfold k n l = mfold k m l → n = m := by
  induction l with
  | nil => intro n m _ _ _ _ h; exact h
  | cons c l ih =>
    intro n m h0 h1 h2 h3 h
    exact mstep_inj k n m c h0 h1 h2 h3 (ih _ _ (mstep_bd _ _ _).1 (mstep_bd _ _ _).2 (mstep_bd _ _ _).1 (mstep_bd _ _ _).2 h)
theorem mstep_byte (k n : Int) (c d : UInt8) (h : mstep k n c = mstep k n d) : c = d := by
  unfold mstep at h
  have := UInt8.toNat_lt c
  have := UInt8.toNat_lt d
  exact UInt8.toNat_inj.1 (by omega)
/-- With one byte another one it is another mark. -/
theorem mfold_byte (k n : Int) (l t : List UInt8) (c d : UInt8) (h : mfold k n (l ++ c :: t) = mfold k n (l ++ d :: t)) (h0 : 0 ≤ n) (h1 : n < 1000000007) : c = d := by
  rw [mfold_append, mfold_append] at h
  have hb := mfold_bd k l n h0 h1
  generalize mfold k n l = m at *
  exact mstep_byte k m c d (mfold_inj k t _ _ (mstep_bd _ _ _).1 (mstep_bd _ _ _).2 (mstep_bd _ _ _).1 (mstep_bd _ _ _).2 h)
theorem append_data (a b : ByteArray) : (a ++ b).data.toList = a.data.toList ++ b.data.toList := by simp [ByteArray.data_append]
theorem split_at (l : List UInt8) (i : Nat) (h : i < l.length) (d : UInt8) : l.set i d = l.take i ++ d :: l.drop (i + 1) := List.set_eq_take_append_cons_drop .. |>.trans (by rw [if_pos h])

/-- A byte stored into a text's bytes. -/
theorem storeByte_cells (w : World) (a : ByteArray) (j : Nat) (x : Int) (hj : j < a.size) (hx0 : 0 ≤ x) (hx1 : x ≤ 255) (e : TypeId) (cap : Nat) :
    (w.alloc (.cells (bytesRow a cap) e ((bytesRow a cap).size, (bytesRow a cap).size + 1))).cell? ⟨w.heap.size, j, none⟩ = some (.int .u8 ((byteAt a j).toNat : Int)) ∧
    (w.alloc (.cells (bytesRow a cap) e ((bytesRow a cap).size, (bytesRow a cap).size + 1))).frozen? ⟨w.heap.size, j, none⟩ = false ∧
    ∀ i (hi : i < (a.data.toList.set j (UInt8.ofNat x.toNat)).length), (((w.alloc (.cells (bytesRow a cap) e ((bytesRow a cap).size, (bytesRow a cap).size + 1))).setCell ⟨w.heap.size, j, none⟩ (.int .u8 x)).drew).cell? ((⟨w.heap.size, 0, none⟩ : Addr).add i) = some (.int .u8 ((a.data.toList.set j (UInt8.ofNat x.toNat))[i].toNat : Int)) := by
  have h1 := bytesRow_cell w a j hj e cap ((bytesRow a cap).size, (bytesRow a cap).size + 1)
  have hsz : a.size ≤ (bytesRow a cap).size := by unfold bytesRow; simp
  refine ⟨h1, ?_, ?_⟩
  · rw [World.frozen?_alloc_mark]; simp; omega
  · intro i hi
    have hi' : i < a.size := by simpa using hi
    rw [World.cell?_drew, Addr.add_lit, Nat.zero_add]
    by_cases hij : i = j
    · subst hij
      rw [World.cell?_setCell_same _ _ _ h1]
      have ht : (UInt8.ofNat x.toNat).toNat = x.toNat := by simp; omega
      simp only [List.getElem_set_self, ht]
      rw [Int.toNat_of_nonneg hx0]
    · rw [World.cell?_setCell_other _ _ _ _ (by intro h; cases h; exact hij rfl), bytesRow_cell w a i hi' e cap, byteAt_eq a i hi', List.getElem_set_ne (by omega)]
      rfl
end Go.Proofs.YtfbndfkahodheaaGreatDoor

/- Plain: what is sealed is opened as it was; with one byte another one it is not; what is opened is sealed as it was. No program in sight. -/
namespace Go.Proofs.YtfbndfkahodheaaGreatDoor

def badP (x : List UInt8) : Bool := !isWord x
/-- The first text that is no word (-1: none). -/
def badIdx (W : List (List UInt8)) : Int := if W.findIdx badP < W.length then (W.findIdx badP : Int) else -1
theorem badIdx_of {W : List (List UInt8)} {j : Nat} (hj : j < W.length) (hb : isWord W[j] = false) (ha : ∀ i (h : i < W.length), i < j → isWord W[i] = true) : badIdx W = (j : Int) := by
  have : W.findIdx badP = j := (List.findIdx_eq hj).2 ⟨by unfold badP; rw [hb]; rfl, fun i hi => by unfold badP; rw [ha i (by omega) hi]; rfl⟩
  unfold badIdx
  rw [this, if_pos hj]
theorem badIdx_none {W : List (List UInt8)} (ha : ∀ i (h : i < W.length), isWord W[i] = true) : badIdx W = -1 := by
  have : W.findIdx badP = W.length := List.findIdx_eq_length.2 fun x hx => by
    obtain ⟨i, hi, rfl⟩ := List.getElem_of_mem hx
    unfold badP
    rw [ha i hi]
    rfl
  unfold badIdx
  rw [this, if_neg (Nat.lt_irrefl _)]
theorem badIdx_neg {W : List (List UInt8)} (h : ∀ x ∈ W, isWord x = true) : badIdx W = -1 := badIdx_none fun _ hi => h _ (List.getElem_mem hi)
theorem badIdx_cases (W : List (List UInt8)) : (badIdx W = -1 ∧ ∀ x ∈ W, isWord x = true) ∨ ∃ j : Nat, ∃ h : j < W.length, badIdx W = (j : Int) ∧ isWord W[j] = false ∧ ∀ i (h : i < W.length), i < j → isWord W[i] = true := by
  rcases Nat.lt_or_ge (W.findIdx badP) W.length with h | h
  · refine .inr ⟨W.findIdx badP, h, by unfold badIdx; rw [if_pos h], ?_, fun i hi hij => ?_⟩
    · have hq : badP W[W.findIdx badP] = true := List.findIdx_getElem (w := h)
      generalize W[W.findIdx badP] = y at hq ⊢
      unfold badP at hq
      simpa using hq
    · have := List.not_of_lt_findIdx hij
      unfold badP at this
      simpa using this
  · refine .inl ⟨by unfold badIdx; rw [if_neg (by omega)], fun x hx => ?_⟩
    have := List.findIdx_eq_length.1 (Nat.le_antisymm List.findIdx_le_length h) x hx
    unfold badP at this
    simpa using this

theorem glue_len (c : UInt8) : ∀ W : List (List UInt8), (∀ x ∈ W, x.length ≤ 20) → (glue c W).length ≤ 21 * W.length
  | [], _ => by simp [glue]
  | [w], h => by rw [glue_one]; have := h w (by simp); simp; omega
  | w :: x :: r, h => by
    rw [glue_cons c w (by simp)]
    have h1 := h w (by simp)
    have h2 := glue_len c (x :: r) (fun y hy => h y (by simp at hy ⊢; exact .inr hy))
    simp only [List.length_append, List.length_cons] at h2 ⊢
    omega

/-- A sealed text of words. -/
def sealText (k : Int) (W : List (List UInt8)) : List UInt8 := glue 32 W ++ 32 :: Lib.itoa (markOf k (glue 32 W)).1
/-- What seal.Make answers: a text, an error's number, its place. -/
def makeOf (k : Int) (W : List (List UInt8)) : List UInt8 × Nat × Int :=
  if isKey k = false then ([], 10, -1) else if W.length = 0 ∨ 10 < W.length then ([], 3, -1) else if badIdx W = -1 then (sealText k W, 0, -1) else ([], 1, badIdx W)

/-- What seal.look finds: what is marked, its words, its mark; an error's number. -/
def lookOf (s : List UInt8) : List UInt8 × List (List UInt8) × Int × Nat :=
  if 4000 < s.length then ([], [], 0, 2) else match lastCut 32 s with
  | none => ([], [], 0, 1)
  | some (h, t) => if (number t 1000000006).2 = false then ([], [], 0, 1) else if 10 < (cutL 32 h).length then ([], [], 0, 1) else if badIdx (cutL 32 h) = -1 then (h, cutL 32 h, (number t 1000000006).1, 0) else ([], [], 0, 1)
/-- Its words. -/
def openOf (k : Int) (s : List UInt8) : List (List UInt8) × Nat :=
  if isKey k = false then ([], 10) else if (lookOf s).2.2.2 = 0 then (if rightOf k (lookOf s).1 (lookOf s).2.2.1 = 0 then ((lookOf s).2.1, 0) else ([], rightOf k (lookOf s).1 (lookOf s).2.2.1)) else ([], (lookOf s).2.2.2)

theorem lookOf_len (s : List UInt8) : (lookOf s).1.length ≤ s.length := by
  unfold lookOf
  split
  · exact Nat.zero_le _
  · cases hc : lastCut 32 s with
    | none => exact Nat.zero_le _
    | some x =>
      obtain ⟨h, t⟩ := x
      obtain ⟨e, _⟩ := lastCut_some 32 s h t hc
      have : h.length ≤ s.length := by rw [e]; simp
      dsimp only
      split
      · exact Nat.zero_le _
      · split
        · exact Nat.zero_le _
        · split
          · exact this
          · exact Nat.zero_le _

theorem badIdx_iff (W : List (List UInt8)) : badIdx W = -1 ↔ ∀ x ∈ W, isWord x = true := by
  rcases badIdx_cases W with ⟨h, ha⟩ | ⟨j, hj, h, hb, _⟩
  · exact ⟨fun _ => ha, fun _ => h⟩
  · refine ⟨fun e => by omega, fun ha => ?_⟩
    have := ha _ (List.getElem_mem hj)
    rw [hb] at this
    cases this
theorem number_true {t : List UInt8} {most : Int} (h : (number t most).2 = true) : Lib.itoa (number t most).1 = t ∧ 0 ≤ (number t most).1 ∧ (number t most).1 ≤ most ∧ t.length ≤ 10 := by
  unfold number at h ⊢
  cases hn : numOf t with
  | none => rw [hn] at h; cases h
  | some n =>
    rw [hn] at h
    obtain ⟨_, h2, _, h4⟩ := numOf_some hn
    by_cases hm : (n : Int) ≤ most
    · simp only [hm, if_true]
      exact ⟨h4, by omega, trivial, h2⟩
    · simp [hm] at h
theorem number_itoa {n : Int} {most : Int} (h0 : 0 ≤ n) (h1 : n < 10000000000) (hm : n ≤ most) : number (Lib.itoa n) most = (n, true) := by
  obtain ⟨k, rfl⟩ := Int.eq_ofNat_of_zero_le h0
  unfold number
  rw [numOf_itoa (itoa_len10 h0 h1)]
  simp [hm]
theorem itoa_digits {n : Int} (h0 : 0 ≤ n) : (Lib.itoa n).all digB = true := by
  unfold Lib.itoa
  rw [if_neg (by omega)]
  exact decDigits_all _
theorem itoa_no_space {n : Int} (h0 : 0 ≤ n) : (32 : UInt8) ∉ Lib.itoa n := by
  intro hm
  have := List.all_eq_true.1 (itoa_digits h0) 32 hm
  revert this
  decide
/-- What is opened: how it looks. -/
theorem open_shape {k : Int} {s : List UInt8} (h : (openOf k s).2 = 0) :
    isKey k = true ∧ s.length ≤ 4000 ∧ ∃ hd, s = hd ++ 32 :: Lib.itoa (markOf k hd).1 ∧ (openOf k s).1 = cutL 32 hd ∧ (cutL 32 hd).length ≤ 10 ∧ ∀ x ∈ cutL 32 hd, isWord x = true := by
  unfold openOf at h ⊢
  by_cases hk : isKey k = false
  · rw [if_pos hk] at h; cases h
  rw [if_neg hk] at h ⊢
  have hk : isKey k = true := by simpa using hk
  by_cases hl : (lookOf s).2.2.2 = 0
  case neg => rw [if_neg hl] at h; exact absurd h hl
  rw [if_pos hl] at h ⊢
  by_cases hr : rightOf k (lookOf s).1 (lookOf s).2.2.1 = 0
  case neg => rw [if_neg hr] at h; exact absurd h hr
  rw [if_pos hr]
  unfold lookOf at hl hr ⊢
  by_cases h4 : 4000 < s.length
  · rw [if_pos h4] at hl; cases hl
  rw [if_neg h4] at hl hr ⊢
  cases hc : lastCut 32 s with
  | none => rw [hc] at hl; cases hl
  | some x =>
    obtain ⟨hd, t⟩ := x
    rw [hc] at hl hr
    dsimp only at hl hr ⊢
    obtain ⟨e1, e2⟩ := lastCut_some 32 s hd t hc
    by_cases hn : (number t 1000000006).2 = false
    · rw [if_pos hn] at hl; cases hl
    rw [if_neg hn] at hl hr ⊢
    by_cases h10 : 10 < (cutL 32 hd).length
    · rw [if_pos h10] at hl; cases hl
    rw [if_neg h10] at hl hr ⊢
    by_cases hb : badIdx (cutL 32 hd) = -1
    case neg => rw [if_neg hb] at hl; cases hl
    rw [if_pos hb] at hr ⊢
    dsimp only at hr ⊢
    have hn : (number t 1000000006).2 = true := by simpa using hn
    obtain ⟨n1, n2, n3, n4⟩ := number_true hn
    have hm : (markOf k hd).1 = (number t 1000000006).1 := by
      unfold rightOf at hr
      have : (markOf k hd).2 = 0 := by unfold markOf; rw [if_pos hk]
      rw [if_pos this] at hr
      split at hr
      · assumption
      · cases hr
    refine ⟨hk, by omega, hd, ?_, rfl, by omega, (badIdx_iff _).1 hb⟩
    rw [hm, n1]
    exact e1
/-- What looks so is opened. -/
theorem open_of {k : Int} {W : List (List UInt8)} (hk : isKey k = true) (h1 : 1 ≤ W.length) (h10 : W.length ≤ 10) (hw : ∀ x ∈ W, isWord x = true) : openOf k (sealText k W) = (W, 0) := by
  have hm := markOf_bd k (glue 32 W)
  have h20 : ∀ x ∈ W, x.length ≤ 20 := fun x hx => ((isWord_iff x).1 (hw x hx)).2.1
  have hg := glue_len 32 W h20
  have hil := itoa_len10 hm.1 (by omega)
  have hcut : cutL 32 (glue 32 W) = W := cut_glue 32 W (by intro e; rw [e] at h1; cases h1) (fun x hx => word_no_space (hw x hx))
  have hlc : lastCut 32 (sealText k W) = some (glue 32 W, Lib.itoa (markOf k (glue 32 W)).1) := lastCut_of (itoa_no_space hm.1)
  have hlook : lookOf (sealText k W) = (glue 32 W, W, (markOf k (glue 32 W)).1, 0) := by
    unfold lookOf
    have hlen : ¬ 4000 < (sealText k W).length := by unfold sealText; simp; omega
    rw [if_neg hlen, hlc]
    dsimp only
    rw [number_itoa hm.1 (by omega) (by omega), if_neg (show ¬ (true = false) by decide), hcut, if_neg (by omega), if_pos ((badIdx_iff W).2 hw)]
  unfold openOf
  rw [if_neg (by rw [hk]; decide), hlook]
  have hr : rightOf k (glue 32 W) (markOf k (glue 32 W)).1 = 0 := by
    unfold rightOf
    have : (markOf k (glue 32 W)).2 = 0 := by unfold markOf; rw [if_pos hk]
    rw [if_pos this, if_pos rfl]
  dsimp only
  rw [if_pos rfl, if_pos hr]
theorem make_shape {k : Int} {W : List (List UInt8)} (h : (makeOf k W).2.1 = 0) : isKey k = true ∧ 1 ≤ W.length ∧ W.length ≤ 10 ∧ (∀ x ∈ W, isWord x = true) ∧ makeOf k W = (sealText k W, 0, -1) := by
  unfold makeOf at h ⊢
  by_cases hk : isKey k = false
  · rw [if_pos hk] at h; cases h
  rw [if_neg hk] at h ⊢
  by_cases h0 : W.length = 0 ∨ 10 < W.length
  · rw [if_pos h0] at h; cases h
  rw [if_neg h0] at h ⊢
  by_cases hb : badIdx W = -1
  case neg => rw [if_neg hb] at h; cases h
  rw [if_pos hb]
  exact ⟨by simpa using hk, by omega, by omega, (badIdx_iff W).1 hb, rfl⟩
theorem make_of {k : Int} {W : List (List UInt8)} (hk : isKey k = true) (h1 : 1 ≤ W.length) (h10 : W.length ≤ 10) (hw : ∀ x ∈ W, isWord x = true) : makeOf k W = (sealText k W, 0, -1) := by
  unfold makeOf
  rw [if_neg (by rw [hk]; decide), if_neg (by omega), if_pos ((badIdx_iff W).2 hw)]
theorem make_bad {k : Int} {W : List (List UInt8)} (h : (makeOf k W).2.1 ≠ 0) : (makeOf k W).1 = [] := by
  unfold makeOf at h ⊢
  by_cases hk : isKey k = false
  · rw [if_pos hk]
  rw [if_neg hk] at h ⊢
  by_cases h0 : W.length = 0 ∨ 10 < W.length
  · rw [if_pos h0]
  rw [if_neg h0] at h ⊢
  by_cases hb : badIdx W = -1
  · rw [if_pos hb] at h; exact absurd rfl h
  · rw [if_neg hb]
theorem open_bad {k : Int} {s : List UInt8} (h : (openOf k s).2 ≠ 0) : (openOf k s).1 = [] := by
  unfold openOf at h ⊢
  by_cases hk : isKey k = false
  · rw [if_pos hk]
  rw [if_neg hk] at h ⊢
  by_cases hl : (lookOf s).2.2.2 = 0
  · rw [if_pos hl] at h ⊢
    by_cases hr : rightOf k (lookOf s).1 (lookOf s).2.2.1 = 0
    · rw [if_pos hr] at h; exact absurd rfl h
    · rw [if_neg hr]
  · rw [if_neg hl]
/-- What is opened is sealed as it was. -/
theorem seal_opened {k : Int} {s : List UInt8} (h : (openOf k s).2 = 0) : makeOf k (openOf k s).1 = (s, 0, -1) := by
  obtain ⟨hk, _, hd, e, hW, h10, hw⟩ := open_shape h
  rw [hW, make_of hk (cutL_length 32 hd) h10 hw]
  unfold sealText
  rw [glue_cut, ← e]
/-- With one byte another one it is not opened. -/
theorem seal_byte {k : Int} {W : List (List UInt8)} (hk : isKey k = true) (at_ : Nat) (x : UInt8) (hat : at_ < (sealText k W).length) (hx : (sealText k W).getD at_ 0 ≠ x)
    (hl : at_ ≠ (glue 32 W).length) (hs : ¬ ((glue 32 W).length < at_ ∧ x = 32)) : (openOf k ((sealText k W).set at_ x)).2 ≠ 0 := by
  intro h
  obtain ⟨_, _, hd, e, _⟩ := open_shape h
  have hm := markOf_bd k (glue 32 W)
  have hm2 := markOf_bd k hd
  have hns := itoa_no_space hm.1
  have hns2 := itoa_no_space hm2.1
  have hmk : ∀ l, (markOf k l).1 = mfold k k l := fun l => by unfold markOf; rw [if_pos hk]
  have hkk := (isKey_iff k).1 hk
  rcases Nat.lt_or_gt_of_ne hl with hlt | hgt
  · -- ahead of the last space
    have e2 : (sealText k W).set at_ x = (glue 32 W).set at_ x ++ 32 :: Lib.itoa (markOf k (glue 32 W)).1 := by
      unfold sealText
      rw [List.set_append_left _ _ hlt]
    rw [e2] at e
    have h1 := lastCut_of (h := (glue 32 W).set at_ x) hns
    have h2 := lastCut_of (h := hd) hns2
    rw [e, h2] at h1
    simp only [Option.some.injEq, Prod.mk.injEq] at h1
    obtain ⟨h6, h7⟩ := h1
    subst h6
    have h3 : (markOf k (glue 32 W)).1 = (markOf k ((glue 32 W).set at_ x)).1 := by
      have a1 := number_itoa (most := 1000000006) hm.1 (by omega) (by omega)
      have a2 := number_itoa (most := 1000000006) hm2.1 (by omega) (by omega)
      rw [← h7, a2] at a1
      injection a1 with a1 _
      exact a1.symm
    rw [hmk, hmk, split_at _ at_ hlt] at h3
    have h4 : glue 32 W = (glue 32 W).take at_ ++ (glue 32 W)[at_] :: (glue 32 W).drop (at_ + 1) := by rw [← List.drop_eq_getElem_cons hlt, List.take_append_drop]
    have h5 := mfold_byte k k _ _ _ _ (by rw [← h4]; exact h3 : mfold k k ((glue 32 W).take at_ ++ (glue 32 W)[at_] :: (glue 32 W).drop (at_ + 1)) = mfold k k ((glue 32 W).take at_ ++ x :: (glue 32 W).drop (at_ + 1))) (by omega) (by omega)
    apply hx
    unfold sealText
    rw [List.getD_eq_getElem?_getD, List.getElem?_append_left hlt, List.getElem?_eq_getElem hlt]
    exact h5
  · -- behind it
    obtain ⟨j, hj⟩ : ∃ j, at_ = (glue 32 W).length + (j + 1) := ⟨at_ - (glue 32 W).length - 1, by omega⟩
    subst hj
    have hjl : j < (Lib.itoa (markOf k (glue 32 W)).1).length := by
      unfold sealText at hat
      simp at hat
      omega
    have e2 : (sealText k W).set ((glue 32 W).length + (j + 1)) x = glue 32 W ++ 32 :: (Lib.itoa (markOf k (glue 32 W)).1).set j x := by
      unfold sealText
      rw [List.set_append_right _ _ (by omega)]
      simp
    rw [e2] at e
    have hx32 : x ≠ 32 := fun e => hs ⟨by omega, e⟩
    have hns3 : (32 : UInt8) ∉ (Lib.itoa (markOf k (glue 32 W)).1).set j x := fun hmem => by
      rcases List.mem_or_eq_of_mem_set hmem with h' | h'
      · exact hns h'
      · exact hx32 h'.symm
    have h1 := lastCut_of (h := glue 32 W) hns3
    have h2 := lastCut_of (h := hd) hns2
    rw [e, h2] at h1
    simp only [Option.some.injEq, Prod.mk.injEq] at h1
    obtain ⟨h3, h4⟩ := h1
    subst h3
    apply hx
    unfold sealText
    rw [List.getD_eq_getElem?_getD, List.getElem?_append_right (by omega)]
    simp only [Nat.add_sub_cancel_left, List.getElem?_cons_succ]
    rw [h4]
    simp [hjl]
end Go.Proofs.YtfbndfkahodheaaGreatDoor

/- The walks of package mark and of the reference's marks: each function computes what XPlain's functions say. -/
namespace Go.Proofs.YtfbndfkahodheaaGreatDoor
open Go.RowKit

theorem isKey_any (k : Int) (w : World) :
    Calls Tryz.prog 28 #[.int .i64 k] w fun e w' => e = .returned (.bool (isKey k)) ∧ w = w' := by
  have e : isKey k = (decide (1 ≤ k) && decide (k < 1000000007)) := by unfold isKey; congr 1; exact decide_eq_decide.2 (by omega)
  rw [e]
  by_cases h : 1 ≤ k <;> by_cases h2 : k < 1000000007
  all_goals
    go_enter Tryz.func28, Tryz.ntmps28
    go_wp2
    go_ret
    exact ⟨by simp [h, h2], rfl⟩
set_option maxHeartbeats 400000 in
set_option maxRecDepth 100000 in
theorem more_ok (k n : Int) (s : ByteArray) (w : World) (hk : isKey k = true) (h0 : 0 ≤ n) (h1 : n < 1000000007) (hs : s.size ≤ maxLen):
    Calls Tryz.prog 106 #[.int .i64 k, .int .i64 n, .string s] w fun e w' => e = .returned (.tuple #[.int .i64 (mfold k n s.data.toList), .nilIface]) ∧ Below w.heap.size w w' := by
  unfold maxLen at hs
  have hk' := (isKey_iff k).1 hk
  obtain ⟨hk1, hk2⟩ := hk'
  have hcv := fun w => run_bytes_of_string (P := Tryz.prog) w 9 187 5 s Tryz.underlying9 Tryz.underlying187 Tryz.underlying5
  go_enter Tryz.func106, Tryz.ntmps106
  go_wp2_with (go_at_call 55; refine (key_any _ _).mono ?_; rintro e w' ⟨rfl, rfl⟩)
  go_loop [1, 26] (fun n' i => ∃ j : Nat, j ≤ s.size ∧ i = .int .i64 j ∧ n' = .int .i64 (mfold k n (s.data.toList.take j))) (fun _ i => s.size - (intOf i).toNat)
  case atStart => exact ⟨0, Nat.zero_le _, rfl, by simp [mfold]⟩
  case round =>
    obtain ⟨j, hj, rfl, rfl⟩ := hrel
    have hb := mfold_bd k (s.data.toList.take j) n h0 h1
    obtain ⟨hb0, hb1⟩ := hb
    have hc : j < s.size → ∀ c f, (w.alloc (.cells (bytesRow s c) 5 f)).cell? ⟨w.heap.size, j, none⟩ = some (.int .u8 ((byteAt s j).toNat : Int)) := fun h c f => bytesRow_cell w s j h _ _ _
    have hcb : (byteAt s j).toNat < 256 := UInt8.toNat_lt _
    have hS : Hid (j < s.size → mfold k n (s.data.toList.take (j + 1)) = (mfold k n (s.data.toList.take j) * 257 + (byteAt s j).toNat + 1 + k) % 1000000007) := by
      intro h
      rw [take_succ_byte s j h, mfold_snoc]; rfl
    have hE : Hid (¬ j < s.size → mfold k n (s.data.toList.take j) = mfold k n s.data.toList) := by
      intro h
      rw [show j = s.size by omega, take_all]
    generalize (byteAt s j).toNat = c at *
    generalize mfold k n (s.data.toList.take j) = m at *
    by_cases hlt : j < s.size
    · have hc := hc hlt
      go_wp2
      go_round
      case rel => exact ⟨j + 1, by omega, by go_num, by rw [hS.out hlt]⟩
      case measure => simp [intOf]; omega
    · have hE := Lib.hid (hE.out hlt)
      clear hc hS
      go_wp2
      go_ret2
      exact ⟨ret_int2 hE.out, ((Below.refl _ _).alloc (Nat.le_refl _) _).drew⟩
theorem more_key (E : Addr) (k n : Int) (s : ByteArray) (w : World) (hk : isKey k = false) (hE : w.cell? ⟨3, 0, none⟩ = some (.iface 258 (.pointer (some E)))) :
    Calls Tryz.prog 106 #[.int .i64 k, .int .i64 n, .string s] w fun e w' => e = .returned (.tuple #[.int .i64 0, .iface 258 (.pointer (some E))]) ∧ Below w.heap.size w w' := by
  go_enter Tryz.func106, Tryz.ntmps106
  go_wp2_with (go_at_call 55; refine (key_any _ _).mono ?_; rintro e w' ⟨rfl, rfl⟩)
  go_quiet (fail)
  go_wp2
  go_ret2
  exact ⟨rfl, below_drewN (Below.refl _ _) _⟩
theorem more_bound (E : Addr) (k n : Int) (s : ByteArray) (w : World) (hk : isKey k = true) (hn : ¬ (0 ≤ n ∧ n < 1000000007)) (hE : w.cell? ⟨1, 0, none⟩ = some (.iface 258 (.pointer (some E)))) :
    Calls Tryz.prog 106 #[.int .i64 k, .int .i64 n, .string s] w fun e w' => e = .returned (.tuple #[.int .i64 0, .iface 258 (.pointer (some E))]) ∧ Below w.heap.size w w' := by
  have hn' : n < 0 ∨ 1000000007 ≤ n := by omega
  clear hn
  go_enter Tryz.func106, Tryz.ntmps106
  rcases hn' with h | h
  all_goals
    go_wp2_with (go_at_call 55; refine (key_any _ _).mono ?_; rintro e w' ⟨rfl, rfl⟩)
    go_quiet (fail)
    go_wp2
    go_ret2
    exact ⟨rfl, below_drewN (Below.refl _ _) _⟩

theorem more_any {E : Nat → Addr} (k n : Int) (s : ByteArray) (w : World) (hL : Laid E w) (hs : s.size ≤ maxLen) :
    Calls Tryz.prog 106 #[.int .i64 k, .int .i64 n, .string s] w fun e w' => e = .returned (.tuple #[.int .i64 (more k n s.data.toList).1, errV E (more k n s.data.toList).2]) ∧ Below w.heap.size w w' := by
  unfold more
  by_cases hk : isKey k = true
  · by_cases hn : 0 ≤ n ∧ n < 1000000007
    · rw [if_pos hk, if_pos hn]; exact more_ok k n s w hk hn.1 hn.2 hs
    · rw [if_pos hk, if_neg hn]; exact more_bound _ k n s w hk hn hL.e2
  · rw [if_neg hk]; exact more_key _ k n s w (by simpa using hk) hL.e10
set_option maxRecDepth 100000 in
theorem of_any {E : Nat → Addr} (k : Int) (s : ByteArray) (w : World) (hL : Laid E w) (hs : s.size ≤ maxLen) :
    Calls Tryz.prog 74 #[.int .i64 k, .string s] w fun e w' => e = .returned (.tuple #[.int .i64 (markOf k s.data.toList).1, errV E (markOf k s.data.toList).2]) ∧ Below w.heap.size w w' := by
  by_cases hk : 0 ≤ k
  · have hm := more_any (E := E) k (k % 1000000007) s w hL hs
    rw [markOf_more, show max k 0 = k by omega]
    generalize more k (k % 1000000007) s.data.toList = p at *
    go_enter Tryz.func74, Tryz.ntmps74
    go_wp2_with fail
    all_goals
      (try rw [show max k 0 = k by omega])
      refine hm.mono ?_
      rintro e w' ⟨rfl, hb⟩
      go_wp2
      go_ret2
      exact ⟨rfl, hb⟩
  · have hm := more_any (E := E) k 0 s w hL hs
    rw [markOf_more, show max k 0 % 1000000007 = 0 by omega]
    generalize more k 0 s.data.toList = p at *
    go_enter Tryz.func74, Tryz.ntmps74
    go_wp2_with fail
    all_goals
      (try rw [show max k 0 % 1000000007 = 0 by omega])
      refine hm.mono ?_
      rintro e w' ⟨rfl, hb⟩
      go_wp2
      go_ret2
      exact ⟨rfl, hb⟩
/-- Right: an error's number. -/
theorem right_any {E : Nat → Addr} (k n : Int) (s : ByteArray) (w : World) (hL : Laid E w) (hs : s.size ≤ maxLen) :
    Calls Tryz.prog 101 #[.int .i64 k, .string s, .int .i64 n] w fun e w' => e = .returned (errV E (rightOf k s.data.toList n)) ∧ Below w.heap.size w w' := by
  have hm := of_any (E := E) k s w hL hs
  unfold rightOf
  generalize markOf k s.data.toList = p at *
  obtain ⟨m, c⟩ := p
  dsimp only at *
  rcases c with _ | c
  · by_cases hmn : m = n
    · subst hmn
      rw [if_pos rfl, if_pos rfl]
      go_enter Tryz.func101, Tryz.ntmps101
      go_wp2_with fail
      refine hm.mono ?_
      rintro e w' ⟨rfl, hb⟩
      rw [errV_zero]
      go_wp2
      go_ret
      exact ⟨rfl, hb⟩
    · rw [if_pos rfl, if_neg hmn]
      have hmn' : (m != n) = true := by simpa using hmn
      clear hmn
      go_enter Tryz.func101, Tryz.ntmps101
      go_wp2_with fail
      refine hm.mono ?_
      rintro e w' ⟨rfl, hb⟩
      rw [errV_zero]
      have he := (hL.below hb).e9
      go_wp2
      go_ret
      exact ⟨rfl, hb⟩
  · rw [if_neg (by omega)]
    go_enter Tryz.func101, Tryz.ntmps101
    go_wp2_with fail
    refine hm.mono ?_
    rintro e w' ⟨rfl, hb⟩
    rw [errV_succ]
    go_wp2
    go_ret
    exact ⟨rfl, hb⟩

theorem drop_byte (s : ByteArray) (d : Nat) (h : d < s.size) : s.data.toList.drop d = byteAt s d :: s.data.toList.drop (d + 1) := by
  have h' : d < s.data.size := h
  rw [List.drop_eq_getElem_cons (by simpa using h), byteAt_eq s d h]; rfl
theorem drop_all (s : ByteArray) : s.data.toList.drop s.size = [] := List.drop_eq_nil_of_le (by simp)
theorem mul_bd (a b : Int) (h0 : 0 ≤ a) (h1 : a < 1000000007) (h2 : 0 ≤ b) (h3 : b < 1000000007) : 0 ≤ a * b ∧ a * b ≤ 1000000012000000036 :=
  ⟨Int.mul_nonneg h0 h2, by have := Int.mul_le_mul (show a ≤ 1000000006 by omega) (show b ≤ 1000000006 by omega) h2 (by omega); omega⟩
set_option maxHeartbeats 400000 in
set_option maxRecDepth 100000 in
theorem from_ok (k n : Int) (s : ByteArray) (w : World) (hk : isKey k = true) (h0 : 0 ≤ n) (h1 : n < 1000000007) (hs : s.size ≤ maxLen):
    Calls Tryz.prog 127 #[.int .i64 k, .int .i64 n, .string s] w fun e w' => e = .returned (.tuple #[.int .i64 (mfold k n s.data.toList), .int .i64 0]) ∧ w = w' := by
  unfold maxLen at hs
  have hk' := (isKey_iff k).1 hk
  obtain ⟨hk1, hk2⟩ := hk'
  have hfin := Lib.hid (mfold_msuf k s.data.toList n h0 h1)
  go_enter Tryz.func127, Tryz.ntmps127
  go_wp2_with (go_at_call 28; refine (isKey_any _ _).mono ?_; rintro e w' ⟨rfl, rfl⟩)
  go_loop [9, 10, 11] (fun p o i => ∃ d : Nat, d ≤ s.size ∧ i = .int .i64 ((d : Int) - 1) ∧ o = .int .i64 (msuf k (s.data.toList.drop d)).1 ∧ p = .int .i64 (msuf k (s.data.toList.drop d)).2) (fun _ _ i => (intOf i + 1).toNat)
  case atStart => exact ⟨s.size, Nat.le_refl _, rfl, by rw [drop_all]; rfl, by rw [drop_all]; rfl⟩
  case round =>
    obtain ⟨d, hd, rfl, rfl, rfl⟩ := hrel
    rcases d with _ | d
    · rw [show ((0 : Nat) : Int) - 1 = -1 by omega]
      have hfin' : Hid (mfold k n s.data.toList = ((msuf k (s.data.toList.drop 0)).1 + (msuf k (s.data.toList.drop 0)).2 * n) % 1000000007) := by rw [List.drop_zero]; exact hfin.out
      obtain ⟨hb0, hb1, hb2, hb3⟩ := msuf_bd k (s.data.toList.drop 0)
      generalize (msuf k (s.data.toList.drop 0)).2 = p at *
      generalize (msuf k (s.data.toList.drop 0)).1 = o at *
      have hx := mul_bd p n hb2 hb3 h0 h1
      go_wp2
      go_ret2
      exact ⟨ret_int2 hfin'.out.symm, rfl⟩
    · rw [show ((d + 1 : Nat) : Int) - 1 = (d : Int) by omega]
      have hS : Hid (msuf k (s.data.toList.drop d) = (((msuf k (s.data.toList.drop (d + 1))).1 + (msuf k (s.data.toList.drop (d + 1))).2 * (((byteAt s d).toNat + 1 + k) % 1000000007)) % 1000000007, (msuf k (s.data.toList.drop (d + 1))).2 * 257 % 1000000007)) := by
        rw [drop_byte s d hd]; rfl
      obtain ⟨hb0, hb1, hb2, hb3⟩ := msuf_bd k (s.data.toList.drop (d + 1))
      have hx := mul_bd (msuf k (s.data.toList.drop (d + 1))).2 (((s[d].toNat : Int) + 1 + k) % 1000000007) hb2 hb3 (by omega) (by omega)
      generalize (msuf k (s.data.toList.drop (d + 1))).2 = p at *
      generalize (msuf k (s.data.toList.drop (d + 1))).1 = o at *
      have hcb : s[d].toNat < 256 := UInt8.toNat_lt _
      go_wp2
      exact ⟨⟨d, by omega, rfl, by rw [hS.out, byteAt_eq s d hd], by rw [hS.out]⟩, by simp [intOf]⟩

theorem from_any (k n : Int) (s : ByteArray) (w : World) (hs : s.size ≤ maxLen) :
    Calls Tryz.prog 127 #[.int .i64 k, .int .i64 n, .string s] w fun e w' => e = .returned (.tuple #[.int .i64 (more k n s.data.toList).1, .int .i64 ((more k n s.data.toList).2 : Nat)]) ∧ w = w' := by
  unfold more
  by_cases hk : isKey k = true
  · by_cases hn : 0 ≤ n ∧ n < 1000000007
    · rw [if_pos hk, if_pos hn]; exact from_ok k n s w hk hn.1 hn.2 hs
    · rw [if_pos hk, if_neg hn]
      have hn' : n < 0 ∨ 1000000007 ≤ n := by omega
      clear hn
      go_enter Tryz.func127, Tryz.ntmps127
      rcases hn' with h | h
      all_goals
        go_wp2_with (go_at_call 28; refine (isKey_any _ _).mono ?_; rintro e w' ⟨rfl, rfl⟩)
        go_ret2
        exact ⟨rfl, rfl⟩
  · rw [if_neg hk]
    have hk : isKey k = false := by simpa using hk
    go_enter Tryz.func127, Tryz.ntmps127
    go_wp2_with (go_at_call 28; refine (isKey_any _ _).mono ?_; rintro e w' ⟨rfl, rfl⟩)
    go_ret2
    exact ⟨rfl, rfl⟩
theorem markOf_any (k : Int) (s : ByteArray) (w : World) (hs : s.size ≤ maxLen) :
    Calls Tryz.prog 97 #[.int .i64 k, .string s] w fun e w' => e = .returned (.tuple #[.int .i64 (markOf k s.data.toList).1, .int .i64 ((markOf k s.data.toList).2 : Nat)]) ∧ w = w' := by
  unfold markOf
  by_cases hk : isKey k = true
  · rw [if_pos hk]
    have hk' := (isKey_iff k).1 hk
    have hm := from_ok k k s w hk (by omega) (by omega) hs
    clear hk'
    go_enter Tryz.func97, Tryz.ntmps97
    go_wp2_with (first | (go_at_call 28; refine (isKey_any _ _).mono ?_; rintro e w' ⟨rfl, rfl⟩) | (go_at_call 127; refine hm.mono ?_; rintro e w' ⟨rfl, rfl⟩))
    go_ret2
    exact ⟨rfl, rfl⟩
  · rw [if_neg hk]
    have hk : isKey k = false := by simpa using hk
    go_enter Tryz.func97, Tryz.ntmps97
    go_wp2_with (go_at_call 28; refine (isKey_any _ _).mono ?_; rintro e w' ⟨rfl, rfl⟩)
    go_ret2
    exact ⟨rfl, rfl⟩
theorem markError_any (k n : Int) (s : ByteArray) (w : World) (hs : s.size ≤ maxLen) :
    Calls Tryz.prog 104 #[.int .i64 k, .string s, .int .i64 n] w fun e w' => e = .returned (.int .i64 (rightOf k s.data.toList n : Nat)) ∧ w = w' := by
  have hm := markOf_any k s w hs
  unfold rightOf
  generalize markOf k s.data.toList = p at *
  obtain ⟨m, c⟩ := p
  dsimp only at *
  rcases c with _ | c
  · by_cases hmn : m = n
    · subst hmn
      rw [if_pos rfl, if_pos rfl]
      go_enter Tryz.func104, Tryz.ntmps104
      go_wp2_with fail
      refine hm.mono ?_
      rintro e w' ⟨rfl, rfl⟩
      go_wp2
      go_ret
      exact ⟨rfl, rfl⟩
    · rw [if_pos rfl, if_neg hmn]
      have hmn' : (m != n) = true := by simpa using hmn
      clear hmn
      go_enter Tryz.func104, Tryz.ntmps104
      go_wp2_with fail
      refine hm.mono ?_
      rintro e w' ⟨rfl, rfl⟩
      go_wp2
      go_ret
      exact ⟨rfl, rfl⟩
  · rw [if_neg (by omega)]
    have hc : (((c + 1 : Nat) : Int) == 0) = false := beq_eq_false_iff_ne.2 (by omega)
    generalize ((c + 1 : Nat) : Int) = d at *
    go_enter Tryz.func104, Tryz.ntmps104
    go_wp2_with fail
    refine hm.mono ?_
    rintro e w' ⟨rfl, rfl⟩
    go_wp2
    go_ret
    exact ⟨rfl, rfl⟩
end Go.Proofs.YtfbndfkahodheaaGreatDoor
