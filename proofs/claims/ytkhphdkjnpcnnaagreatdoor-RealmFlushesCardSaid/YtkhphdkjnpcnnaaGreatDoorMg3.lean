/- Byte, SealQ, Tick -/
import Derived.Test.YtkhphdkjnpcnnaaGreatDoorMg1
import Derived.WalkKit
import Derived.WalkSpells
import Derived.Test.YtkhphdkjnpcnnaaGreatDoorMg2
/- One byte another one: another mark; a byte stored into a text's bytes. -/
namespace Go.Proofs.YtkhphdkjnpcnnaaGreatDoor
open Go.RowKit

theorem mstep_inj (k n m : Int) (c : UInt8) (h0 : 0 ≤ n) (h1 : n < 1000000007) (h2 : 0 ≤ m) (h3 : m < 1000000007) (h : mstep k n c = mstep k m c) : n = m := by
  unfold mstep at h; omega
theorem mfold_inj (k : Int) (l : List UInt8) : ∀ n m : Int, 0 ≤ n → n < 1000000007 → 0 ≤ m → m < 1000000007 → mfold k n l = mfold k m l → n = m := by
  induction l with
  | nil => intro n m _ _ _ _ h; exact h
  | cons c l ih =>
    intro n m h0 h1 h2 h3 h
    exact mstep_inj k n m c h0 h1 h2 h3 (ih _ _ (mstep_bd _ _ _).1 (mstep_bd _ _ _).2 (mstep_bd _ _ _).1 (mstep_bd _ _ _).2 h)
theorem mstep_byte (k n : Int) (c d : UInt8) (h : mstep k n c = mstep k n d) : c = d := by
  unfold mstep at h
  have := UInt8.toNat_lt c
  have := UInt8.toNat_lt d
  exact UInt8.toNat_inj.1 (by omega)
/-- With one byte another one it is another mark. -/
theorem mfold_byte (k n : Int) (l t : List UInt8) (c d : UInt8) (h : mfold k n (l ++ c :: t) = mfold k n (l ++ d :: t)) (h0 : 0 ≤ n) (h1 : n < 1000000007) : c = d := by
  rw [mfold_append, mfold_append] at h
  have hb := mfold_bd k l n h0 h1
  generalize mfold k n l = m at *
  exact mstep_byte k m c d (mfold_inj k t _ _ (mstep_bd _ _ _).1 (mstep_bd _ _ _).2 (mstep_bd _ _ _).1 (mstep_bd _ _ _).2 h)
theorem append_data (a b : ByteArray) : (a ++ b).data.toList = a.data.toList ++ b.data.toList := by simp [ByteArray.data_append]
theorem split_at (l : List UInt8) (i : Nat) (h : i < l.length) (d : UInt8) : l.set i d = l.take i ++ d :: l.drop (i + 1) := List.set_eq_take_append_cons_drop .. |>.trans (by rw [if_pos h])

/-- A byte stored into a text's bytes. -/
theorem storeByte_cells (w : World) (a : ByteArray) (j : Nat) (x : Int) (hj : j < a.size) (hx0 : 0 ≤ x) (hx1 : x ≤ 255) (e : TypeId) (cap : Nat) :
    (w.alloc (.cells (bytesRow a cap) e ((bytesRow a cap).size, (bytesRow a cap).size + 1))).cell? ⟨w.heap.size, j, none⟩ = some (.int .u8 ((byteAt a j).toNat : Int)) ∧
    (w.alloc (.cells (bytesRow a cap) e ((bytesRow a cap).size, (bytesRow a cap).size + 1))).frozen? ⟨w.heap.size, j, none⟩ = false ∧
    ∀ i (hi : i < (a.data.toList.set j (UInt8.ofNat x.toNat)).length), (((w.alloc (.cells (bytesRow a cap) e ((bytesRow a cap).size, (bytesRow a cap).size + 1))).setCell ⟨w.heap.size, j, none⟩ (.int .u8 x)).drew).cell? ((⟨w.heap.size, 0, none⟩ : Addr).add i) = some (.int .u8 ((a.data.toList.set j (UInt8.ofNat x.toNat))[i].toNat : Int)) := by
  have h1 := bytesRow_cell w a j hj e cap ((bytesRow a cap).size, (bytesRow a cap).size + 1)
  have hsz : a.size ≤ (bytesRow a cap).size := by unfold bytesRow; simp
  refine ⟨h1, ?_, ?_⟩
  · rw [World.frozen?_alloc_mark]; simp; omega
  · intro i hi
    have hi' : i < a.size := by simpa using hi
    rw [World.cell?_drew, Addr.add_lit, Nat.zero_add]
    by_cases hij : i = j
    · subst hij
      rw [World.cell?_setCell_same _ _ _ h1]
      have ht : (UInt8.ofNat x.toNat).toNat = x.toNat := by simp; omega
      simp only [List.getElem_set_self, ht]
      rw [Int.toNat_of_nonneg hx0]
    · rw [World.cell?_setCell_other _ _ _ _ (by intro h; cases h; exact hij rfl), bytesRow_cell w a i hi' e cap, byteAt_eq a i hi', List.getElem_set_ne (by omega)]
      rfl
end Go.Proofs.YtkhphdkjnpcnnaaGreatDoor

/- Plain: what is sealed is opened as it was; with one byte another one it is not; what is opened is sealed as it was. No program in sight. -/
namespace Go.Proofs.YtkhphdkjnpcnnaaGreatDoor

def badP (x : List UInt8) : Bool := !isWord x
/-- The first text that is no word (-1: none). -/
def badIdx (W : List (List UInt8)) : Int := if W.findIdx badP < W.length then (W.findIdx badP : Int) else -1
theorem badIdx_of {W : List (List UInt8)} {j : Nat} (hj : j < W.length) (hb : isWord W[j] = false) (ha : ∀ i (h : i < W.length), i < j → isWord W[i] = true) : badIdx W = (j : Int) := by
  have : W.findIdx badP = j := (List.findIdx_eq hj).2 ⟨by unfold badP; rw [hb]; rfl, fun i hi => by unfold badP; rw [ha i (by omega) hi]; rfl⟩
  unfold badIdx
  rw [this, if_pos hj]
theorem badIdx_none {W : List (List UInt8)} (ha : ∀ i (h : i < W.length), isWord W[i] = true) : badIdx W = -1 := by
  have : W.findIdx badP = W.length := List.findIdx_eq_length.2 fun x hx => by
    obtain ⟨i, hi, rfl⟩ := List.getElem_of_mem hx
    unfold badP
    rw [ha i hi]
    rfl
  unfold badIdx
  rw [this, if_neg (Nat.lt_irrefl _)]
theorem badIdx_neg {W : List (List UInt8)} (h : ∀ x ∈ W, isWord x = true) : badIdx W = -1 := badIdx_none fun _ hi => h _ (List.getElem_mem hi)
theorem badIdx_cases (W : List (List UInt8)) : (badIdx W = -1 ∧ ∀ x ∈ W, isWord x = true) ∨ ∃ j : Nat, ∃ h : j < W.length, badIdx W = (j : Int) ∧ isWord W[j] = false ∧ ∀ i (h : i < W.length), i < j → isWord W[i] = true := by
  rcases Nat.lt_or_ge (W.findIdx badP) W.length with h | h
  · refine .inr ⟨W.findIdx badP, h, by unfold badIdx; rw [if_pos h], ?_, fun i hi hij => ?_⟩
    · have hq : badP W[W.findIdx badP] = true := List.findIdx_getElem (w := h)
      generalize W[W.findIdx badP] = y at hq ⊢
      unfold badP at hq
      simpa using hq
    · have := List.not_of_lt_findIdx hij
      unfold badP at this
      simpa using this
  · refine .inl ⟨by unfold badIdx; rw [if_neg (by omega)], fun x hx => ?_⟩
    have := List.findIdx_eq_length.1 (Nat.le_antisymm List.findIdx_le_length h) x hx
    unfold badP at this
    simpa using this

theorem glue_len (c : UInt8) : ∀ W : List (List UInt8), (∀ x ∈ W, x.length ≤ 20) → (glue c W).length ≤ 21 * W.length
  | [], _ => by simp [glue]
  | [w], h => by rw [glue_one]; have := h w (by simp); simp; omega
  | w :: x :: r, h => by
    rw [glue_cons c w (by simp)]
    have h1 := h w (by simp)
    have h2 := glue_len c (x :: r) (fun y hy => h y (by simp at hy ⊢; exact .inr hy))
    simp only [List.length_append, List.length_cons] at h2 ⊢
    omega

/-- A sealed text of words. -/
def sealText (k : Int) (W : List (List UInt8)) : List UInt8 := glue 32 W ++ 32 :: Lib.itoa (markOf k (glue 32 W)).1
/-- What seal.Make answers: a text, an error's number, its place. -/
def makeOf (k : Int) (W : List (List UInt8)) : List UInt8 × Nat × Int :=
  if isKey k = false then ([], 10, -1) else if W.length = 0 ∨ 10 < W.length then ([], 3, -1) else if badIdx W = -1 then (sealText k W, 0, -1) else ([], 1, badIdx W)

/-- What seal.look finds: what is marked, its words, its mark; an error's number. -/
def lookOf (s : List UInt8) : List UInt8 × List (List UInt8) × Int × Nat :=
  if 4000 < s.length then ([], [], 0, 2) else match lastCut 32 s with
  | none => ([], [], 0, 1)
  | some (h, t) => if (number t 1000000006).2 = false then ([], [], 0, 1) else if 10 < (cutL 32 h).length then ([], [], 0, 1) else if badIdx (cutL 32 h) = -1 then (h, cutL 32 h, (number t 1000000006).1, 0) else ([], [], 0, 1)
/-- Its words. -/
def openOf (k : Int) (s : List UInt8) : List (List UInt8) × Nat :=
  if isKey k = false then ([], 10) else if (lookOf s).2.2.2 = 0 then (if rightOf k (lookOf s).1 (lookOf s).2.2.1 = 0 then ((lookOf s).2.1, 0) else ([], rightOf k (lookOf s).1 (lookOf s).2.2.1)) else ([], (lookOf s).2.2.2)

theorem lookOf_len (s : List UInt8) : (lookOf s).1.length ≤ s.length := by
  unfold lookOf
  split
  · exact Nat.zero_le _
  · cases hc : lastCut 32 s with
    | none => exact Nat.zero_le _
    | some x =>
      obtain ⟨h, t⟩ := x
      obtain ⟨e, _⟩ := lastCut_some 32 s h t hc
      have : h.length ≤ s.length := by rw [e]; simp
      dsimp only
      split
      · exact Nat.zero_le _
      · split
        · exact Nat.zero_le _
        · split
          · exact this
          · exact Nat.zero_le _

theorem badIdx_iff (W : List (List UInt8)) : badIdx W = -1 ↔ ∀ x ∈ W, isWord x = true := by
  rcases badIdx_cases W with ⟨h, ha⟩ | ⟨j, hj, h, hb, _⟩
  · exact ⟨fun _ => ha, fun _ => h⟩
  · refine ⟨fun e => by omega, fun ha => ?_⟩
    have := ha _ (List.getElem_mem hj)
    rw [hb] at this
    cases this
theorem number_true {t : List UInt8} {most : Int} (h : (number t most).2 = true) : Lib.itoa (number t most).1 = t ∧ 0 ≤ (number t most).1 ∧ (number t most).1 ≤ most ∧ t.length ≤ 10 := by
  unfold number at h ⊢
  cases hn : numOf t with
  | none => rw [hn] at h; cases h
  | some n =>
    rw [hn] at h
    obtain ⟨_, h2, _, h4⟩ := numOf_some hn
    by_cases hm : (n : Int) ≤ most
    · simp only [hm, if_true]
      exact ⟨h4, by omega, trivial, h2⟩
    · simp [hm] at h
theorem number_itoa {n : Int} {most : Int} (h0 : 0 ≤ n) (h1 : n < 10000000000) (hm : n ≤ most) : number (Lib.itoa n) most = (n, true) := by
  obtain ⟨k, rfl⟩ := Int.eq_ofNat_of_zero_le h0
  unfold number
  rw [numOf_itoa (itoa_len10 h0 h1)]
  simp [hm]
theorem itoa_digits {n : Int} (h0 : 0 ≤ n) : (Lib.itoa n).all digB = true := by
  unfold Lib.itoa
  rw [if_neg (by omega)]
  exact decDigits_all _
theorem itoa_no_space {n : Int} (h0 : 0 ≤ n) : (32 : UInt8) ∉ Lib.itoa n := by
  intro hm
  have := List.all_eq_true.1 (itoa_digits h0) 32 hm
  revert this
  decide
/-- What is opened: how it looks. -/
theorem open_shape {k : Int} {s : List UInt8} (h : (openOf k s).2 = 0) :
    isKey k = true ∧ s.length ≤ 4000 ∧ ∃ hd, s = hd ++ 32 :: Lib.itoa (markOf k hd).1 ∧ (openOf k s).1 = cutL 32 hd ∧ (cutL 32 hd).length ≤ 10 ∧ ∀ x ∈ cutL 32 hd, isWord x = true := by
  unfold openOf at h ⊢
  by_cases hk : isKey k = false
  · rw [if_pos hk] at h; cases h
  rw [if_neg hk] at h ⊢
  have hk : isKey k = true := by simpa using hk
  by_cases hl : (lookOf s).2.2.2 = 0
  case neg => rw [if_neg hl] at h; exact absurd h hl
  rw [if_pos hl] at h ⊢
  by_cases hr : rightOf k (lookOf s).1 (lookOf s).2.2.1 = 0
  case neg => rw [if_neg hr] at h; exact absurd h hr
  rw [if_pos hr]
  unfold lookOf at hl hr ⊢
  by_cases h4 : 4000 < s.length
  · rw [if_pos h4] at hl; cases hl
  rw [if_neg h4] at hl hr ⊢
  cases hc : lastCut 32 s with
  | none => rw [hc] at hl; cases hl
  | some x =>
    obtain ⟨hd, t⟩ := x
    rw [hc] at hl hr
    dsimp only at hl hr ⊢
    obtain ⟨e1, e2⟩ := lastCut_some 32 s hd t hc
    by_cases hn : (number t 1000000006).2 = false
    · rw [if_pos hn] at hl; cases hl
    rw [if_neg hn] at hl hr ⊢
    by_cases h10 : 10 < (cutL 32 hd).length
    · rw [if_pos h10] at hl; cases hl
    rw [if_neg h10] at hl hr ⊢
    by_cases hb : badIdx (cutL 32 hd) = -1
    case neg => rw [if_neg hb] at hl; cases hl
    rw [if_pos hb] at hr ⊢
    dsimp only at hr ⊢
    have hn : (number t 1000000006).2 = true := by simpa using hn
    obtain ⟨n1, n2, n3, n4⟩ := number_true hn
    have hm : (markOf k hd).1 = (number t 1000000006).1 := by
      unfold rightOf at hr
      have : (markOf k hd).2 = 0 := by unfold markOf; rw [if_pos hk]
      rw [if_pos this] at hr
      split at hr
      · assumption
      · cases hr
    refine ⟨hk, by omega, hd, ?_, rfl, by omega, (badIdx_iff _).1 hb⟩
    rw [hm, n1]
    exact e1
/-- What looks so is opened. -/
theorem open_of {k : Int} {W : List (List UInt8)} (hk : isKey k = true) (h1 : 1 ≤ W.length) (h10 : W.length ≤ 10) (hw : ∀ x ∈ W, isWord x = true) : openOf k (sealText k W) = (W, 0) := by
  have hm := markOf_bd k (glue 32 W)
  have h20 : ∀ x ∈ W, x.length ≤ 20 := fun x hx => ((isWord_iff x).1 (hw x hx)).2.1
  have hg := glue_len 32 W h20
  have hil := itoa_len10 hm.1 (by omega)
  have hcut : cutL 32 (glue 32 W) = W := cut_glue 32 W (by intro e; rw [e] at h1; cases h1) (fun x hx => word_no_space (hw x hx))
  have hlc : lastCut 32 (sealText k W) = some (glue 32 W, Lib.itoa (markOf k (glue 32 W)).1) := lastCut_of (itoa_no_space hm.1)
  have hlook : lookOf (sealText k W) = (glue 32 W, W, (markOf k (glue 32 W)).1, 0) := by
    unfold lookOf
    have hlen : ¬ 4000 < (sealText k W).length := by unfold sealText; simp; omega
    rw [if_neg hlen, hlc]
    dsimp only
    rw [number_itoa hm.1 (by omega) (by omega), if_neg (show ¬ (true = false) by decide), hcut, if_neg (by omega), if_pos ((badIdx_iff W).2 hw)]
  unfold openOf
  rw [if_neg (by rw [hk]; decide), hlook]
  have hr : rightOf k (glue 32 W) (markOf k (glue 32 W)).1 = 0 := by
    unfold rightOf
    have : (markOf k (glue 32 W)).2 = 0 := by unfold markOf; rw [if_pos hk]
    rw [if_pos this, if_pos rfl]
  dsimp only
  rw [if_pos rfl, if_pos hr]
theorem make_shape {k : Int} {W : List (List UInt8)} (h : (makeOf k W).2.1 = 0) : isKey k = true ∧ 1 ≤ W.length ∧ W.length ≤ 10 ∧ (∀ x ∈ W, isWord x = true) ∧ makeOf k W = (sealText k W, 0, -1) := by
  unfold makeOf at h ⊢
  by_cases hk : isKey k = false
  · rw [if_pos hk] at h; cases h
  rw [if_neg hk] at h ⊢
  by_cases h0 : W.length = 0 ∨ 10 < W.length
  · rw [if_pos h0] at h; cases h
  rw [if_neg h0] at h ⊢
  by_cases hb : badIdx W = -1
  case neg => rw [if_neg hb] at h; cases h
  rw [if_pos hb]
  exact ⟨by simpa using hk, by omega, by omega, (badIdx_iff W).1 hb, rfl⟩
theorem make_of {k : Int} {W : List (List UInt8)} (hk : isKey k = true) (h1 : 1 ≤ W.length) (h10 : W.length ≤ 10) (hw : ∀ x ∈ W, isWord x = true) : makeOf k W = (sealText k W, 0, -1) := by
  unfold makeOf
  rw [if_neg (by rw [hk]; decide), if_neg (by omega), if_pos ((badIdx_iff W).2 hw)]
theorem make_bad {k : Int} {W : List (List UInt8)} (h : (makeOf k W).2.1 ≠ 0) : (makeOf k W).1 = [] := by
  unfold makeOf at h ⊢
  by_cases hk : isKey k = false
  · rw [if_pos hk]
  rw [if_neg hk] at h ⊢
  by_cases h0 : W.length = 0 ∨ 10 < W.length
  · rw [if_pos h0]
  rw [if_neg h0] at h ⊢
  by_cases hb : badIdx W = -1
  · rw [if_pos hb] at h; exact absurd rfl h
  · rw [if_neg hb]
theorem open_bad {k : Int} {s : List UInt8} (h : (openOf k s).2 ≠ 0) : (openOf k s).1 = [] := by
  unfold openOf at h ⊢
  by_cases hk : isKey k = false
  · rw [if_pos hk]
  rw [if_neg hk] at h ⊢
  by_cases hl : (lookOf s).2.2.2 = 0
  · rw [if_pos hl] at h ⊢
    by_cases hr : rightOf k (lookOf s).1 (lookOf s).2.2.1 = 0
    · rw [if_pos hr] at h; exact absurd rfl h
    · rw [if_neg hr]
  · rw [if_neg hl]
/-- What is opened is sealed as it was. -/
theorem seal_opened {k : Int} {s : List UInt8} (h : (openOf k s).2 = 0) : makeOf k (openOf k s).1 = (s, 0, -1) := by
  obtain ⟨hk, _, hd, e, hW, h10, hw⟩ := open_shape h
  rw [hW, make_of hk (cutL_length 32 hd) h10 hw]
  unfold sealText
  rw [glue_cut, ← e]
/-- With one byte another one it is not opened. -/
theorem seal_byte {k : Int} {W : List (List UInt8)} (hk : isKey k = true) (at_ : Nat) (x : UInt8) (hat : at_ < (sealText k W).length) (hx : (sealText k W).getD at_ 0 ≠ x)
    (hl : at_ ≠ (glue 32 W).length) (hs : ¬ ((glue 32 W).length < at_ ∧ x = 32)) : (openOf k ((sealText k W).set at_ x)).2 ≠ 0 := by
  intro h
  obtain ⟨_, _, hd, e, _⟩ := open_shape h
  have hm := markOf_bd k (glue 32 W)
  have hm2 := markOf_bd k hd
  have hns := itoa_no_space hm.1
  have hns2 := itoa_no_space hm2.1
  have hmk : ∀ l, (markOf k l).1 = mfold k k l := fun l => by unfold markOf; rw [if_pos hk]
  have hkk := (isKey_iff k).1 hk
  rcases Nat.lt_or_gt_of_ne hl with hlt | hgt
  · -- ahead of the last space
    have e2 : (sealText k W).set at_ x = (glue 32 W).set at_ x ++ 32 :: Lib.itoa (markOf k (glue 32 W)).1 := by
      unfold sealText
      rw [List.set_append_left _ _ hlt]
    rw [e2] at e
    have h1 := lastCut_of (h := (glue 32 W).set at_ x) hns
    have h2 := lastCut_of (h := hd) hns2
    rw [e, h2] at h1
    simp only [Option.some.injEq, Prod.mk.injEq] at h1
    obtain ⟨h6, h7⟩ := h1
    subst h6
    have h3 : (markOf k (glue 32 W)).1 = (markOf k ((glue 32 W).set at_ x)).1 := by
      have a1 := number_itoa (most := 1000000006) hm.1 (by omega) (by omega)
      have a2 := number_itoa (most := 1000000006) hm2.1 (by omega) (by omega)
      rw [← h7, a2] at a1
      injection a1 with a1 _
      exact a1.symm
    rw [hmk, hmk, split_at _ at_ hlt] at h3
    have h4 : glue 32 W = (glue 32 W).take at_ ++ (glue 32 W)[at_] :: (glue 32 W).drop (at_ + 1) := by rw [← List.drop_eq_getElem_cons hlt, List.take_append_drop]
    have h5 := mfold_byte k k _ _ _ _ (by rw [← h4]; exact h3 : mfold k k ((glue 32 W).take at_ ++ (glue 32 W)[at_] :: (glue 32 W).drop (at_ + 1)) = mfold k k ((glue 32 W).take at_ ++ x :: (glue 32 W).drop (at_ + 1))) (by omega) (by omega)
    apply hx
    unfold sealText
    rw [List.getD_eq_getElem?_getD, List.getElem?_append_left hlt, List.getElem?_eq_getElem hlt]
    exact h5
  · -- behind it
    obtain ⟨j, hj⟩ : ∃ j, at_ = (glue 32 W).length + (j + 1) := ⟨at_ - (glue 32 W).length - 1, by omega⟩
    subst hj
    have hjl : j < (Lib.itoa (markOf k (glue 32 W)).1).length := by
      unfold sealText at hat
      simp at hat
      omega
    have e2 : (sealText k W).set ((glue 32 W).length + (j + 1)) x = glue 32 W ++ 32 :: (Lib.itoa (markOf k (glue 32 W)).1).set j x := by
      unfold sealText
      rw [List.set_append_right _ _ (by omega)]
      simp
    rw [e2] at e
    have hx32 : x ≠ 32 := fun e => hs ⟨by omega, e⟩
    have hns3 : (32 : UInt8) ∉ (Lib.itoa (markOf k (glue 32 W)).1).set j x := fun hmem => by
      rcases List.mem_or_eq_of_mem_set hmem with h' | h'
      · exact hns h'
      · exact hx32 h'.symm
    have h1 := lastCut_of (h := glue 32 W) hns3
    have h2 := lastCut_of (h := hd) hns2
    rw [e, h2] at h1
    simp only [Option.some.injEq, Prod.mk.injEq] at h1
    obtain ⟨h3, h4⟩ := h1
    subst h3
    apply hx
    unfold sealText
    rw [List.getD_eq_getElem?_getD, List.getElem?_append_right (by omega)]
    simp only [Nat.add_sub_cancel_left, List.getElem?_cons_succ]
    rw [h4]
    simp [hjl]
end Go.Proofs.YtkhphdkjnpcnnaaGreatDoor

/- Plain definitions and lemmas about tickets: no program in sight. -/
namespace Go.Proofs.YtkhphdkjnpcnnaaGreatDoor

/-- A ticket. -/
structure Tick where
  who : List UInt8
  svc : List UInt8
  epoch : Int
  beg : Int
  fin : Int
  serial : Int
theorem Tick.ext' {s t : Tick} (h1 : s.who = t.who) (h2 : s.svc = t.svc) (h3 : s.epoch = t.epoch) (h4 : s.beg = t.beg) (h5 : s.fin = t.fin) (h6 : s.serial = t.serial) : s = t := by
  cases s; cases t; simp_all
def noTick : Tick := ⟨[], [], 0, 0, 0, 0⟩
/-- Are a ticket's numbers right? -/
def tickNum (t : Tick) : Bool := (decide (1 ≤ t.epoch) && decide (t.epoch ≤ 1073741824)) && ((decide (1 ≤ t.serial) && decide (t.serial ≤ 1073741824)) && ((decide (0 ≤ t.beg) && decide (t.beg ≤ 1000000)) && (decide (t.beg ≤ t.fin) && decide (t.fin ≤ 1000000))))
theorem tickNum_iff (t : Tick) : tickNum t = true ↔ (1 ≤ t.epoch ∧ t.epoch ≤ 1073741824) ∧ (1 ≤ t.serial ∧ t.serial ≤ 1073741824) ∧ (0 ≤ t.beg ∧ t.beg ≤ 1000000) ∧ t.beg ≤ t.fin ∧ t.fin ≤ 1000000 := by
  simp [tickNum]
/-- A ticket's error. -/
def tickErr (t : Tick) : Nat := if (isName t.who && isName t.svc) = true then (if tickNum t = true then 0 else 2) else 4
theorem tickErr_zero {t : Tick} (h : tickErr t = 0) : isName t.who = true ∧ isName t.svc = true ∧ tickNum t = true := by
  unfold tickErr at h
  split at h
  · rename_i h1
    simp only [Bool.and_eq_true] at h1
    split at h
    · rename_i h2; exact ⟨h1.1, h1.2, h2⟩
    · cases h
  · cases h
/-- The word ahead of a ticket's words. -/
def ticketW : List UInt8 := [116, 105, 99, 107, 101, 116]
def tickWords (t : Tick) : List (List UInt8) := [ticketW, t.who, t.svc, Lib.itoa t.epoch, Lib.itoa t.beg, Lib.itoa t.fin, Lib.itoa t.serial]
/-- What ticket.Make answers. -/
def makeT (k : Int) (t : Tick) : List UInt8 × Nat := if isKey k = true then (if tickErr t = 0 then (sealText k (tickWords t), 0) else ([], tickErr t)) else ([], 10)
/-- A ticket of words. -/
def ofWords : List (List UInt8) → Tick × Nat
  | [a, b, c, d, e, f, g] => if a = ticketW then match numOf d, numOf e, numOf f, numOf g with
      | some d, some e, some f, some g => if tickErr ⟨b, c, d, e, f, g⟩ = 0 then (⟨b, c, d, e, f, g⟩, 0) else (noTick, tickErr ⟨b, c, d, e, f, g⟩)
      | _, _, _, _ => (noTick, 1)
    else (noTick, 1)
  | _ => (noTick, 1)
/-- Is a ticket good? -/
def goodT (t : Tick) (now : Int) : Nat := if tickErr t = 0 then (if 0 ≤ now ∧ now ≤ 1000000 then (if now < t.beg then 11 else if t.fin ≤ now then 12 else 0) else 2) else tickErr t
def renewed (t : Tick) (now til serial : Int) : Tick := ⟨t.who, t.svc, t.epoch, now, min til t.fin, serial⟩
/-- What ticket.Renew answers. -/
def renewT (t : Tick) (now til serial : Int) : Tick × Nat := if goodT t now = 0 then (if tickErr (renewed t now til serial) = 0 then (renewed t now til serial, 0) else (noTick, tickErr (renewed t now til serial))) else (noTick, goodT t now)
def openT (k : Int) (s : List UInt8) : Tick × Nat := if (openOf k s).2 = 0 then ofWords (openOf k s).1 else (noTick, (openOf k s).2)
def lookT (s : List UInt8) : Tick × Nat := if (lookOf s).2.2.2 = 0 then ofWords (lookOf s).2.1 else (noTick, (lookOf s).2.2.2)

theorem smallB_wordB {c : UInt8} (h : smallB c = true) : wordB c = true := by unfold wordB; rw [h]; rfl
theorem digB_smallB {c : UInt8} (h : digB c = true) : smallB c = true := by
  unfold digB at h
  unfold smallB
  rw [h, Bool.or_true]
theorem isName_isWord {l : List UInt8} (h : isName l = true) : isWord l = true := by
  obtain ⟨h1, h2, h3⟩ := (isName_iff l).1 h
  exact (isWord_iff l).2 ⟨h1, by omega, fun c hc => smallB_wordB (h3 c hc)⟩
theorem itoa_pos {n : Int} (h0 : 0 ≤ n) : 1 ≤ (Lib.itoa n).length := by
  unfold Lib.itoa
  rw [if_neg (by omega)]
  exact decDigits_ne _
theorem itoa_word {n : Int} (h0 : 0 ≤ n) (h1 : n < 10000000000) : isWord (Lib.itoa n) = true :=
  (isWord_iff _).2 ⟨itoa_pos h0, by have := itoa_len10 h0 h1; omega, fun c hc => smallB_wordB (digB_smallB (List.all_eq_true.1 (itoa_digits h0) c hc))⟩
theorem tickWords_len (t : Tick) : (tickWords t).length = 7 := rfl
theorem tickWords_words {t : Tick} (h : tickErr t = 0) : ∀ x ∈ tickWords t, isWord x = true := by
  obtain ⟨h1, h2, h3⟩ := tickErr_zero h
  obtain ⟨⟨a1, a2⟩, ⟨b1, b2⟩, ⟨c1, c2⟩, d1, d2⟩ := (tickNum_iff t).1 h3
  intro x hx
  simp only [tickWords, List.mem_cons, List.mem_nil_iff, or_false] at hx
  rcases hx with rfl | rfl | rfl | rfl | rfl | rfl | rfl
  · decide
  · exact isName_isWord h1
  · exact isName_isWord h2
  · exact itoa_word (by omega) (by omega)
  · exact itoa_word (by omega) (by omega)
  · exact itoa_word (by omega) (by omega)
  · exact itoa_word (by omega) (by omega)
theorem numOf_int {n : Int} (h0 : 0 ≤ n) (h1 : n < 10000000000) : numOf (Lib.itoa n) = some n.toNat := by
  obtain ⟨k, rfl⟩ := Int.eq_ofNat_of_zero_le h0
  exact numOf_itoa (itoa_len10 h0 h1)
theorem ofWords_tick {t : Tick} (h : tickErr t = 0) : ofWords (tickWords t) = (t, 0) := by
  obtain ⟨h1, h2, h3⟩ := tickErr_zero h
  obtain ⟨⟨a1, a2⟩, ⟨b1, b2⟩, ⟨c1, c2⟩, d1, d2⟩ := (tickNum_iff t).1 h3
  unfold tickWords ofWords
  dsimp only
  rw [if_pos rfl, numOf_int (n := t.epoch) (by omega) (by omega), numOf_int (n := t.beg) (by omega) (by omega), numOf_int (n := t.fin) (by omega) (by omega), numOf_int (n := t.serial) (by omega) (by omega)]
  have e : (⟨t.who, t.svc, t.epoch.toNat, t.beg.toNat, t.fin.toNat, t.serial.toNat⟩ : Tick) = t :=
    Tick.ext' rfl rfl (Int.toNat_of_nonneg (by omega)) (Int.toNat_of_nonneg (by omega)) (Int.toNat_of_nonneg (by omega)) (Int.toNat_of_nonneg (by omega))
  simp only [e]
  rw [if_pos h]
theorem makeT_zero {k : Int} {t : Tick} (h : (makeT k t).2 = 0) : isKey k = true ∧ tickErr t = 0 ∧ makeT k t = (sealText k (tickWords t), 0) := by
  unfold makeT at h ⊢
  by_cases hk : isKey k = true
  · rw [if_pos hk] at h ⊢
    by_cases he : tickErr t = 0
    · rw [if_pos he] at h ⊢
      exact ⟨hk, he, rfl⟩
    · rw [if_neg he] at h; exact absurd h he
  · rw [if_neg hk] at h; cases h
theorem makeT_bad {k : Int} {t : Tick} (h : (makeT k t).2 ≠ 0) : (makeT k t).1 = [] := by
  unfold makeT at h ⊢
  by_cases hk : isKey k = true
  · rw [if_pos hk] at h ⊢
    by_cases he : tickErr t = 0
    · rw [if_pos he] at h; exact absurd rfl h
    · rw [if_neg he]
  · rw [if_neg hk]
/-- A ticket is opened as it was made. -/
theorem openT_make {k : Int} {t : Tick} (hk : isKey k = true) (h : tickErr t = 0) : openT k (sealText k (tickWords t)) = (t, 0) := by
  unfold openT
  rw [open_of hk (by rw [tickWords_len]; decide) (by rw [tickWords_len]; decide) (tickWords_words h), if_pos rfl]
  exact ofWords_tick h
theorem look_of_open {k : Int} {s : List UInt8} (h : (openOf k s).2 = 0) : (lookOf s).2.2.2 = 0 ∧ (lookOf s).2.1 = (openOf k s).1 := by
  unfold openOf at h ⊢
  by_cases hk : isKey k = false
  · rw [if_pos hk] at h; cases h
  rw [if_neg hk] at h ⊢
  by_cases hl : (lookOf s).2.2.2 = 0
  case neg => rw [if_neg hl] at h; exact absurd h hl
  rw [if_pos hl] at h ⊢
  by_cases hr : rightOf k (lookOf s).1 (lookOf s).2.2.1 = 0
  · rw [if_pos hr]; exact ⟨hl, rfl⟩
  · rw [if_neg hr] at h; exact absurd h hr
theorem lookT_make {k : Int} {t : Tick} (hk : isKey k = true) (h : tickErr t = 0) : lookT (sealText k (tickWords t)) = (t, 0) := by
  have ho := open_of hk (by rw [tickWords_len]; decide) (by rw [tickWords_len]; decide) (tickWords_words h)
  obtain ⟨h1, h2⟩ := look_of_open (k := k) (s := sealText k (tickWords t)) (by rw [ho])
  unfold lookT
  rw [if_pos h1, h2, ho]
  exact ofWords_tick h
theorem renewT_bad {t : Tick} {now til serial : Int} (h : (renewT t now til serial).2 ≠ 0) : (renewT t now til serial).1 = noTick := by
  unfold renewT at h ⊢
  split
  · rename_i h1
    rw [if_pos h1] at h
    split
    · rename_i h2; rw [if_pos h2] at h; exact absurd rfl h
    · rfl
  · rfl
theorem renewT_zero {t : Tick} {now til serial : Int} (h : (renewT t now til serial).2 = 0) : goodT t now = 0 ∧ tickErr (renewed t now til serial) = 0 ∧ renewT t now til serial = (renewed t now til serial, 0) := by
  unfold renewT at h ⊢
  by_cases h1 : goodT t now = 0
  · rw [if_pos h1] at h ⊢
    by_cases h2 : tickErr (renewed t now til serial) = 0
    · rw [if_pos h2]; exact ⟨h1, h2, rfl⟩
    · rw [if_neg h2] at h; exact absurd h h2
  · rw [if_neg h1] at h; exact absurd h h1
theorem goodT_zero {t : Tick} {now : Int} (h : goodT t now = 0) : tickErr t = 0 ∧ 0 ≤ now ∧ now ≤ 1000000 ∧ t.beg ≤ now ∧ now < t.fin := by
  unfold goodT at h
  by_cases h1 : tickErr t = 0
  · rw [if_pos h1] at h
    by_cases h2 : 0 ≤ now ∧ now ≤ 1000000
    · rw [if_pos h2] at h
      by_cases h3 : now < t.beg
      · rw [if_pos h3] at h; cases h
      · rw [if_neg h3] at h
        by_cases h4 : t.fin ≤ now
        · rw [if_pos h4] at h; cases h
        · exact ⟨h1, h2.1, h2.2, by omega, by omega⟩
    · rw [if_neg h2] at h; cases h
  · rw [if_neg h1] at h; exact absurd h h1
theorem goodT_of {t : Tick} {now : Int} (h1 : tickErr t = 0) (h2 : 0 ≤ now) (h3 : now ≤ 1000000) (h4 : t.beg ≤ now) (h5 : now < t.fin) : goodT t now = 0 := by
  unfold goodT
  rw [if_pos h1, if_pos ⟨h2, h3⟩, if_neg (by omega), if_neg (by omega)]
/-- What is renewed is good no longer than before. -/
theorem renewed_good {t : Tick} {now til serial thn : Int} (hg : goodT t now = 0) (h : goodT (renewed t now til serial) thn = 0) : goodT t thn = 0 ∧ now ≤ thn := by
  obtain ⟨_, a1, a2, a3, a4⟩ := goodT_zero h
  obtain ⟨b0, b1, b2, b3, b4⟩ := goodT_zero hg
  have a3 : now ≤ thn := a3
  have a4 : thn < min til t.fin := a4
  exact ⟨goodT_of b0 a1 a2 (by omega) (by omega), a3⟩
end Go.Proofs.YtkhphdkjnpcnnaaGreatDoor
