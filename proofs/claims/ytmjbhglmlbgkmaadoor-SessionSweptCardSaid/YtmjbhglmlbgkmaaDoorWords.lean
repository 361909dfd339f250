/- Plain: texts cut by a byte, and glued. No program in sight. -/
import Derived.Test.YtmjbhglmlbgkmaaDoorSealP
import Derived.Lib.Split
import Derived.Lib.SplitLaws
import Derived.Lib.Join
import Derived.Lib.LastIndexByte
namespace Go.Proofs.YtmjbhglmlbgkmaaDoor

def cutL (c : UInt8) : List UInt8 → List (List UInt8)
  | [] => [[]]
  | b :: r => if b = c then [] :: cutL c r else match cutL c r with
    | [] => [[b]]
    | h :: t => (b :: h) :: t
theorem cutL_ne (c : UInt8) : ∀ l, cutL c l ≠ []
  | [] => by simp [cutL]
  | b :: r => by
    unfold cutL
    split
    · simp
    · split <;> simp
theorem cutL_length (c : UInt8) (l : List UInt8) : 1 ≤ (cutL c l).length := by
  have := cutL_ne c l
  cases h : cutL c l with
  | nil => exact absurd h this
  | cons x y => simp
theorem cutL_none (c : UInt8) : ∀ l, c ∉ l → cutL c l = [l]
  | [], _ => rfl
  | b :: r, h => by
    have hb : ¬ b = c := fun e => h (by simp [e])
    rw [cutL, if_neg hb, cutL_none c r (fun hm => h (by simp [hm]))]
theorem cutL_cut (c : UInt8) (w : List UInt8) (r : List UInt8) (h : c ∉ w) : cutL c (w ++ c :: r) = w :: cutL c r := by
  induction w with
  | nil => rw [List.nil_append, cutL, if_pos rfl]
  | cons b w ih =>
    have hb : ¬ b = c := fun e => h (by simp [e])
    rw [List.cons_append, cutL, if_neg hb, ih (fun hm => h (by simp [hm]))]
theorem cutL_snoc (c : UInt8) : ∀ (l t : List UInt8), cutL c (l ++ c :: t) = cutL c l ++ cutL c t
  | [], t => by
    show cutL c (c :: t) = [] :: cutL c t
    rw [cutL, if_pos rfl]
  | b :: r, t => by
    by_cases hb : b = c
    · rw [List.cons_append, cutL, if_pos hb, cutL_snoc c r t]
      conv => rhs; rw [cutL, if_pos hb]
      rfl
    · rw [List.cons_append, cutL, if_neg hb, cutL_snoc c r t]
      conv => rhs; rw [cutL, if_neg hb]
      cases h : cutL c r with
      | nil => exact absurd h (cutL_ne c r)
      | cons x y => rfl

theorem cutL_len (c : UInt8) : ∀ l, ∀ x ∈ cutL c l, x.length ≤ l.length
  | [], x, hx => by
    simp [cutL] at hx
    simp [hx]
  | b :: r, x, hx => by
    have ih := cutL_len c r
    unfold cutL at hx
    by_cases hb : b = c
    · rw [if_pos hb] at hx
      rcases List.mem_cons.1 hx with rfl | h
      · simp
      · have := ih x h
        simp only [List.length_cons]
        omega
    · rw [if_neg hb] at hx
      cases hr : cutL c r with
      | nil => exact absurd hr (cutL_ne c r)
      | cons y z =>
        rw [hr] at hx ih
        rcases List.mem_cons.1 hx with rfl | h
        · have := ih y (by simp)
          simp only [List.length_cons]
          omega
        · have := ih x (by simp [h])
          simp only [List.length_cons]
          omega

/-- Texts, with a byte between. -/
def glue (c : UInt8) : List (List UInt8) → List UInt8
  | [] => []
  | w :: r => w ++ r.flatMap (fun y => c :: y)
theorem glue_one (c : UInt8) (w : List UInt8) : glue c [w] = w := by simp [glue]
theorem glue_cons (c : UInt8) (w : List UInt8) {r : List (List UInt8)} (h : r ≠ []) : glue c (w :: r) = w ++ c :: glue c r := by
  cases r with
  | nil => exact absurd rfl h
  | cons x y => simp [glue]
theorem glue_snoc (c : UInt8) {W : List (List UInt8)} (h : W ≠ []) (x : List UInt8) : glue c (W ++ [x]) = glue c W ++ c :: x := by
  cases W with
  | nil => exact absurd rfl h
  | cons w r => simp [glue, List.flatMap_append]
theorem glue_cut (c : UInt8) : ∀ l, glue c (cutL c l) = l
  | [] => rfl
  | b :: r => by
    have ih := glue_cut c r
    by_cases hb : b = c
    · rw [cutL, if_pos hb, glue_cons c [] (cutL_ne c r), ih, hb]; rfl
    · rw [cutL, if_neg hb]
      cases h : cutL c r with
      | nil => exact absurd h (cutL_ne c r)
      | cons x y =>
        rw [h] at ih
        simp only [glue] at ih ⊢
        rw [List.cons_append, ih]
theorem cut_glue (c : UInt8) : ∀ W : List (List UInt8), W ≠ [] → (∀ w ∈ W, c ∉ w) → cutL c (glue c W) = W
  | [], h, _ => absurd rfl h
  | [w], _, h => by rw [glue_one, cutL_none c w (h w (by simp))]
  | w :: x :: r, _, h => by
    rw [glue_cons c w (by simp), cutL_cut c w _ (h w (by simp)), cut_glue c (x :: r) (by simp) (fun y hy => h y (by simp at hy ⊢; exact .inr hy))]
theorem join_glue (c : UInt8) : ∀ W : List (List UInt8), Lib.join W [c] = glue c W
  | [] => rfl
  | [w] => by rw [Lib.join_one, glue_one]
  | w :: x :: r => by
    have ih := join_glue c (x :: r)
    rw [glue_cons c w (by simp), ← ih]
    simp [Lib.join, List.intercalate, List.intersperse]

/-- strings.Split by one byte. -/
theorem splitK_cut (c : UInt8) : ∀ l : List UInt8, Lib.splitK [c] 0 (Lib.count l [c]) l = cutL c l
  | [] => by
    rw [Lib.count_one]
    rfl
  | b :: l => by
    have ih := splitK_cut c l
    by_cases hb : b = c
    · subst hb
      rw [Lib.count_cons_eq, Nat.add_comm]
      have hix : Lib.index (b :: l) [b] = 0 := by rw [Lib.index]; simp [List.isPrefixOf]
      rw [Lib.splitK, hix, if_neg (by decide), cutL, if_pos rfl, ← ih]
      rfl
    · have hp : ([c] : List UInt8).isPrefixOf (b :: l) = false := by simp [List.isPrefixOf, Ne.symm hb]
      have hix : Lib.index (b :: l) [c] = if Lib.index l [c] == -1 then -1 else Lib.index l [c] + 1 := by rw [Lib.index, hp]; simp
      rw [Lib.count_cons_ne b c l hb, cutL, if_neg hb, ← ih]
      cases hk : Lib.count l [c] with
      | zero => rfl
      | succ k =>
        have hge := Lib.index_ge l [c]
        have hm : ¬ Lib.index l [c] = -1 := fun e => by rw [Lib.count_miss e] at hk; cases hk
        obtain ⟨j, hj⟩ : ∃ j : Nat, Lib.index l [c] = j := ⟨(Lib.index l [c]).toNat, by omega⟩
        have h1 : ¬ ((Lib.index l [c] == -1) = true) := fun e => hm (beq_iff_eq.1 e)
        rw [if_neg h1] at hix
        have h2 : ¬ ((Lib.index (b :: l) [c] == -1) = true) := fun e => by have := beq_iff_eq.1 e; omega
        rw [Lib.splitK, Lib.splitK, if_neg h1, if_neg h2, hix, hj]
        have e1 : ((j : Int) + 1).toNat = j + 1 := by omega
        rw [e1, Int.toNat_natCast]
        rfl
/-- The pieces that strings.Split hands back. -/
theorem splitB_cut (c : UInt8) (s : ByteArray) : Lib.splitB ⟨#[c]⟩ 0 (Lib.countB s ⟨#[c]⟩) s = (cutL c s.data.toList).map bs := by
  have h := Lib.splitB_data ⟨#[c]⟩ 0 (Lib.countB s ⟨#[c]⟩) s
  have h2 := splitK_cut c s.data.toList
  have h3 : (Lib.splitB ⟨#[c]⟩ 0 (Lib.countB s ⟨#[c]⟩) s).map (fun x => x.data.toList) = cutL c s.data.toList := by rw [h, ← h2]
  rw [← h3, List.map_map]
  have : (bs ∘ fun x : ByteArray => x.data.toList) = id := by funext x; exact bs_data x
  rw [this, List.map_id]
theorem countB_cut (c : UInt8) (s : ByteArray) : Lib.countB s ⟨#[c]⟩ + 1 = (cutL c s.data.toList).length := by
  have h := Lib.splitB_all ⟨#[c]⟩ (Nat.le_refl 1) 0 _ s rfl
  rw [splitB_cut, List.length_map] at h
  exact h.symm

/-- The last place of a byte: what lies ahead, what lies behind. -/
def lastCut (c : UInt8) : List UInt8 → Option (List UInt8 × List UInt8)
  | [] => none
  | b :: r => match lastCut c r with
    | some (h, t) => some (b :: h, t)
    | none => if b = c then some ([], r) else none
theorem lastCut_none (c : UInt8) : ∀ l, lastCut c l = none ↔ c ∉ l
  | [] => by simp [lastCut]
  | b :: r => by
    have ih := lastCut_none c r
    unfold lastCut
    cases h : lastCut c r with
    | some x =>
      rw [h] at ih
      simp at ih
      simp [ih]
    | none =>
      rw [h] at ih
      have hn := ih.1 rfl
      by_cases hb : b = c
      · simp [hb]
      · simp [hb, hn, Ne.symm hb]
theorem lastCut_some (c : UInt8) : ∀ (l h t : List UInt8), lastCut c l = some (h, t) → l = h ++ c :: t ∧ c ∉ t
  | [], _, _, e => by cases e
  | b :: r, h, t, e => by
    unfold lastCut at e
    cases hr : lastCut c r with
    | some x =>
      obtain ⟨h', t'⟩ := x
      rw [hr] at e
      cases e
      obtain ⟨e1, e2⟩ := lastCut_some c r h' t hr
      exact ⟨by rw [e1]; rfl, e2⟩
    | none =>
      rw [hr] at e
      by_cases hb : b = c
      · simp only [hb, if_true] at e
        cases e
        exact ⟨by rw [hb]; rfl, (lastCut_none c _).1 hr⟩
      · simp [hb] at e
theorem cutL_last {c : UInt8} {l h t : List UInt8} (e : lastCut c l = some (h, t)) : cutL c l = cutL c h ++ [t] := by
  obtain ⟨e1, e2⟩ := lastCut_some c l h t e
  rw [e1, cutL_snoc, cutL_none c t e2]
theorem lastCut_of {c : UInt8} {h t : List UInt8} (e : c ∉ t) : lastCut c (h ++ c :: t) = some (h, t) := by
  induction h with
  | nil =>
    rw [List.nil_append, lastCut, (lastCut_none c t).2 e]
    simp
  | cons b h ih => rw [List.cons_append, lastCut, ih]
theorem lastIndex_cut (c : UInt8) (s : ByteArray) : match lastCut c s.data.toList with
    | none => Lib.lastIndexByte s (c.toNat : Int) = -1
    | some (h, _) => Lib.lastIndexByte s (c.toNat : Int) = (h.length : Int) := by
  have hget : ∀ j, j < s.size → s.data[j]! = s.data.toList.getD j 0 := fun j hj => by
    have hj' : j < s.data.size := hj
    rw [getElem!_pos s.data j hj', List.getD_eq_getElem?_getD, Array.getElem?_toList, Array.getElem?_eq_getElem hj', Option.getD_some]
  have hlen : s.data.toList.length = s.size := Array.length_toList
  cases hc : lastCut c s.data.toList with
  | none =>
    have hn := (lastCut_none c _).1 hc
    rcases Lib.lastIndexByte_spec s (c.toNat : Int) with ⟨h, _⟩ | ⟨i, hi, _, h, _⟩
    · exact h
    · exfalso
      rw [hget i hi] at h
      apply hn
      have e : s.data.toList.getD i 0 = c := UInt8.toNat_inj.1 (by omega)
      rw [← e, List.getD_eq_getElem?_getD, List.getElem?_eq_getElem (by omega), Option.getD_some]
      exact List.getElem_mem _
  | some x =>
    obtain ⟨h, t⟩ := x
    obtain ⟨e1, e2⟩ := lastCut_some c _ h t hc
    have hsz : s.size = h.length + 1 + t.length := by rw [← hlen, e1]; simp; omega
    have hat : s.data.toList.getD h.length 0 = c := by rw [e1]; simp
    have hbe : ∀ j, h.length < j → j < s.size → s.data.toList.getD j 0 ≠ c := fun j h1 h2 he => by
      apply e2
      rw [← he, e1, List.getD_eq_getElem?_getD, List.getElem?_eq_getElem (by simp; omega), Option.getD_some, List.getElem_append_right (by omega)]
      obtain ⟨k, hk⟩ : ∃ k, j - h.length = k + 1 := ⟨j - h.length - 1, by omega⟩
      simp only [hk, List.getElem_cons_succ]
      exact List.getElem_mem _
    rcases Lib.lastIndexByte_spec s (c.toNat : Int) with ⟨_, h0⟩ | ⟨i, hi, h1, h2, h3⟩
    · exact absurd (by rw [hget _ (by omega), hat]) (h0 h.length (by omega))
    · show Lib.lastIndexByte s (c.toNat : Int) = (h.length : Int)
      rw [h1]
      rw [hget i hi] at h2
      rcases Nat.lt_trichotomy i h.length with hlt | heq | hgt
      · exact absurd (by rw [hget _ (by omega), hat]) (h3 h.length hlt (by omega))
      · rw [heq]
      · exact absurd (UInt8.toNat_inj.1 (by omega)) (hbe i hgt hi)
end Go.Proofs.YtmjbhglmlbgkmaaDoor
