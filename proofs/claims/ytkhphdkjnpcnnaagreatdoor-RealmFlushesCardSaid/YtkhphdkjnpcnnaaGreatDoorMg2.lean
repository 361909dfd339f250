/- Words, FloP -/
import Derived.Test.YtkhphdkjnpcnnaaGreatDoorMg1
import Derived.Lib.Split
import Derived.Lib.SplitLaws
import Derived.Lib.Join
import Derived.Lib.LastIndexByte
/- Plain: texts cut by a byte, and glued. No program in sight. -/
namespace Go.Proofs.YtkhphdkjnpcnnaaGreatDoor

def cutL (c : UInt8) : List UInt8 → List (List UInt8)
  | [] => [[]]
  | b :: r => if b = c then [] :: cutL c r else match cutL c r with
    | [] => [[b]]
    | h :: t => (b :: h) :: t
theorem cutL_ne (c : UInt8) : ∀ l, cutL c l ≠ []
  | [] => by simp [cutL]
  | b :: r => by
    unfold cutL
    split
    · simp
    · split <;> simp
theorem cutL_length (c : UInt8) (l : List UInt8) : 1 ≤ (cutL c l).length := by
  have := cutL_ne c l
  cases h : cutL c l with
  | nil => exact absurd h this
  | cons x y => simp
theorem cutL_none (c : UInt8) : ∀ l, c ∉ l → cutL c l = [l]
  | [], _ => rfl
  | b :: r, h => by
    have hb : ¬ b = c := fun e => h (by simp [e])
    rw [cutL, if_neg hb, cutL_none c r (fun hm => h (by simp [hm]))]
theorem cutL_cut (c : UInt8) (w : List UInt8) (r : List UInt8) (h : c ∉ w) : cutL c (w ++ c :: r) = w :: cutL c r := by
  induction w with
  | nil => rw [List.nil_append, cutL, if_pos rfl]
  | cons b w ih =>
    have hb : ¬ b = c := fun e => h (by simp [e])
    rw [List.cons_append, cutL, if_neg hb, ih (fun hm => h (by simp [hm]))]
theorem cutL_snoc (c : UInt8) : ∀ (l t : List UInt8), cutL c (l ++ c :: t) = cutL c l ++ cutL c t
  | [], t => by
    show cutL c (c :: t) = [] :: cutL c t
    rw [cutL, if_pos rfl]
  | b :: r, t => by
    by_cases hb : b = c
    · rw [List.cons_append, cutL, if_pos hb, cutL_snoc c r t]
      conv => rhs; rw [cutL, if_pos hb]
      rfl
    · rw [List.cons_append, cutL, if_neg hb, cutL_snoc c r t]
      conv => rhs; rw [cutL, if_neg hb]
      cases h : cutL c r with
      | nil => exact absurd h (cutL_ne c r)
      | cons x y => rfl

theorem cutL_len (c : UInt8) : ∀ l, ∀ x ∈ cutL c l, x.length ≤ l.length
  | [], x, hx => by
    simp [cutL] at hx
    simp [hx]
  | b :: r, x, hx => by
    have ih := cutL_len c r
    unfold cutL at hx
    by_cases hb : b = c
    · rw [if_pos hb] at hx
      rcases List.mem_cons.1 hx with rfl | h
      · simp
      · have := ih x h
        simp only [List.length_cons]
        omega
    · rw [if_neg hb] at hx
      cases hr : cutL c r with
      | nil => exact absurd hr (cutL_ne c r)
      | cons y z =>
        rw [hr] at hx ih
        rcases List.mem_cons.1 hx with rfl | h
        · have := ih y (by simp)
          simp only [List.length_cons]
          omega
        · have := ih x (by simp [h])
          simp only [List.length_cons]
          omega

/-- Texts, with a byte between. -/
def glue (c : UInt8) : List (List UInt8) → List UInt8
  | [] => []
  | w :: r => w ++ r.flatMap (fun y => c :: y)
theorem glue_one (c : UInt8) (w : List UInt8) : glue c [w] = w := by simp [glue]
theorem glue_cons (c : UInt8) (w : List UInt8) {r : List (List UInt8)} (h : r ≠ []) : glue c (w :: r) = w ++ c :: glue c r := by
  cases r with
  | nil => exact absurd rfl h
  | cons x y => simp [glue]
theorem glue_snoc (c : UInt8) {W : List (List UInt8)} (h : W ≠ []) (x : List UInt8) : glue c (W ++ [x]) = glue c W ++ c :: x := by
  cases W with
  | nil => exact absurd rfl h
  | cons w r => simp [glue, List.flatMap_append]
theorem glue_cut (c : UInt8) : ∀ l, glue c (cutL c l) = l
  | [] => rfl
  | b :: r => by
    have ih := glue_cut c r
    by_cases hb : b = c
    · rw [cutL, if_pos hb, glue_cons c [] (cutL_ne c r), ih, hb]; rfl
    · rw [cutL, if_neg hb]
      cases h : cutL c r with
      | nil => exact absurd h (cutL_ne c r)
      | cons x y =>
        rw [h] at ih
        simp only [glue] at ih ⊢
        rw [List.cons_append, ih]
theorem cut_glue (c : UInt8) : ∀ W : List (List UInt8), W ≠ [] → (∀ w ∈ W, c ∉ w) → cutL c (glue c W) = W
  | [], h, _ => absurd rfl h
  | [w], _, h => by rw [glue_one, cutL_none c w (h w (by simp))]
  | w :: x :: r, _, h => by
    rw [glue_cons c w (by simp), cutL_cut c w _ (h w (by simp)), cut_glue c (x :: r) (by simp) (fun y hy => h y (by simp at hy ⊢; exact .inr hy))]
theorem join_glue (c : UInt8) : ∀ W : List (List UInt8), Lib.join W [c] = glue c W
  | [] => rfl
  | [w] => by rw [Lib.join_one, glue_one]
  | w :: x :: r => by
    have ih := join_glue c (x :: r)
    rw [glue_cons c w (by simp), ← ih]
    simp [Lib.join, List.intercalate, List.intersperse]

/-- strings.Split by one byte. -/
theorem splitK_cut (c : UInt8) : ∀ l : List UInt8, Lib.splitK [c] 0 (Lib.count l [c]) l = cutL c l
  | [] => by
    rw [Lib.count_one]
    rfl
  | b :: l => by
    have ih := splitK_cut c l
    by_cases hb : b = c
    · subst hb
      rw [Lib.count_cons_eq, Nat.add_comm]
      have hix : Lib.index (b :: l) [b] = 0 := by rw [Lib.index]; simp [List.isPrefixOf]
      rw [Lib.splitK, hix, if_neg (by decide), cutL, if_pos rfl, ← ih]
      rfl
    · have hp : ([c] : List UInt8).isPrefixOf (b :: l) = false := by simp [List.isPrefixOf, Ne.symm hb]
      have hix : Lib.index (b :: l) [c] = if Lib.index l [c] == -1 then -1 else Lib.index l [c] + 1 := by rw [Lib.index, hp]; simp
      rw [Lib.count_cons_ne b c l hb, cutL, if_neg hb, ← ih]
      cases hk : Lib.count l [c] with
      | zero => rfl
      | succ k =>
        have hge := Lib.index_ge l [c]
        have hm : ¬ Lib.index l [c] = -1 := fun e => by rw [Lib.count_miss e] at hk; cases hk
        obtain ⟨j, hj⟩ : ∃ j : Nat, Lib.index l [c] = j := ⟨(Lib.index l [c]).toNat, by omega⟩
        have h1 : ¬ ((Lib.index l [c] == -1) = true) := fun e => hm (beq_iff_eq.1 e)
        rw [if_neg h1] at hix
        have h2 : ¬ ((Lib.index (b :: l) [c] == -1) = true) := fun e => by have := beq_iff_eq.1 e; omega
        rw [Lib.splitK, Lib.splitK, if_neg h1, if_neg h2, hix, hj]
        have e1 : ((j : Int) + 1).toNat = j + 1 := by omega
        rw [e1, Int.toNat_natCast]
        rfl
/-- The pieces that strings.Split hands back. -/
theorem splitB_cut (c : UInt8) (s : ByteArray) : Lib.splitB ⟨#[c]⟩ 0 (Lib.countB s ⟨#[c]⟩) s = (cutL c s.data.toList).map bs := by
  have h := Lib.splitB_data ⟨#[c]⟩ 0 (Lib.countB s ⟨#[c]⟩) s
  have h2 := splitK_cut c s.data.toList
  have h3 : (Lib.splitB ⟨#[c]⟩ 0 (Lib.countB s ⟨#[c]⟩) s).map (fun x => x.data.toList) = cutL c s.data.toList := by rw [h, ← h2]
  rw [← h3, List.map_map]
  have : (bs ∘ fun x : ByteArray => x.data.toList) = id := by funext x; exact bs_data x
  rw [this, List.map_id]
theorem countB_cut (c : UInt8) (s : ByteArray) : Lib.countB s ⟨#[c]⟩ + 1 = (cutL c s.data.toList).length := by
  have h := Lib.splitB_all ⟨#[c]⟩ (Nat.le_refl 1) 0 _ s rfl
  rw [splitB_cut, List.length_map] at h
  exact h.symm

/-- The last place of a byte: what lies ahead, what lies behind. -/
def lastCut (c : UInt8) : List UInt8 → Option (List UInt8 × List UInt8)
  | [] => none
  | b :: r => match lastCut c r with
    | some (h, t) => some (b :: h, t)
    | none => if b = c then some ([], r) else none
theorem lastCut_none (c : UInt8) : ∀ l, lastCut c l = none ↔ c ∉ l
  | [] => by simp [lastCut]
  | b :: r => by
    have ih := lastCut_none c r
    unfold lastCut
    cases h : lastCut c r with
    | some x =>
      rw [h] at ih
      simp at ih
      simp [ih]
    | none =>
      rw [h] at ih
      have hn := ih.1 rfl
      by_cases hb : b = c
      · simp [hb]
      · simp [hb, hn, Ne.symm hb]
theorem lastCut_some (c : UInt8) : ∀ (l h t : List UInt8), lastCut c l = some (h, t) → l = h ++ c :: t ∧ c ∉ t
  | [], _, _, e => by cases e
  | b :: r, h, t, e => by
    unfold lastCut at e
    cases hr : lastCut c r with
    | some x =>
      obtain ⟨h', t'⟩ := x
      rw [hr] at e
      cases e
      obtain ⟨e1, e2⟩ := lastCut_some c r h' t hr
      exact ⟨by rw [e1]; rfl, e2⟩
    | none =>
      rw [hr] at e
      by_cases hb : b = c
      · simp only [hb, if_true] at e
        cases e
        exact ⟨by rw [hb]; rfl, (lastCut_none c _).1 hr⟩
      · simp [hb] at e
theorem cutL_last {c : UInt8} {l h t : List UInt8} (e : lastCut c l = some (h, t)) : cutL c l = cutL c h ++ [t] := by
  obtain ⟨e1, e2⟩ := lastCut_some c l h t e
  rw [e1, cutL_snoc, cutL_none c t e2]
theorem lastCut_of {c : UInt8} {h t : List UInt8} (e : c ∉ t) : lastCut c (h ++ c :: t) = some (h, t) := by
  induction h with
  | nil =>
    rw [List.nil_append, lastCut, (lastCut_none c t).2 e]
    simp
  | cons b h ih => rw [List.cons_append, lastCut, ih]
theorem lastIndex_cut (c : UInt8) (s : ByteArray) : match lastCut c s.data.toList with
    | none => Lib.lastIndexByte s (c.toNat : Int) = -1
    | some (h, _) => Lib.lastIndexByte s (c.toNat : Int) = (h.length : Int) := by
  have hget : ∀ j, j < s.size → s.data[j]! = s.data.toList.getD j 0 := fun j hj => by
    have hj' : j < s.data.size := hj
    rw [getElem!_pos s.data j hj', List.getD_eq_getElem?_getD, Array.getElem?_toList, Array.getElem?_eq_getElem hj', Option.getD_some]
  have hlen : s.data.toList.length = s.size := Array.length_toList
  cases hc : lastCut c s.data.toList with
  | none =>
    have hn := (lastCut_none c _).1 hc
    rcases Lib.lastIndexByte_spec s (c.toNat : Int) with ⟨h, _⟩ | ⟨i, hi, _, h, _⟩
    · exact h
    · exfalso
      rw [hget i hi] at h
      apply hn
      have e : s.data.toList.getD i 0 = c := UInt8.toNat_inj.1 (by omega)
      rw [← e, List.getD_eq_getElem?_getD, List.getElem?_eq_getElem (by omega), Option.getD_some]
      exact List.getElem_mem _
  | some x =>
    obtain ⟨h, t⟩ := x
    obtain ⟨e1, e2⟩ := lastCut_some c _ h t hc
    have hsz : s.size = h.length + 1 + t.length := by rw [← hlen, e1]; simp; omega
    have hat : s.data.toList.getD h.length 0 = c := by rw [e1]; simp
    have hbe : ∀ j, h.length < j → j < s.size → s.data.toList.getD j 0 ≠ c := fun j h1 h2 he => by
      apply e2
      rw [← he, e1, List.getD_eq_getElem?_getD, List.getElem?_eq_getElem (by simp; omega), Option.getD_some, List.getElem_append_right (by omega)]
      obtain ⟨k, hk⟩ : ∃ k, j - h.length = k + 1 := ⟨j - h.length - 1, by omega⟩
      simp only [hk, List.getElem_cons_succ]
      exact List.getElem_mem _
    rcases Lib.lastIndexByte_spec s (c.toNat : Int) with ⟨_, h0⟩ | ⟨i, hi, h1, h2, h3⟩
    · exact absurd (by rw [hget _ (by omega), hat]) (h0 h.length (by omega))
    · show Lib.lastIndexByte s (c.toNat : Int) = (h.length : Int)
      rw [h1]
      rw [hget i hi] at h2
      rcases Nat.lt_trichotomy i h.length with hlt | heq | hgt
      · exact absurd (by rw [hget _ (by omega), hat]) (h3 h.length hlt (by omega))
      · rw [heq]
      · exact absurd (UInt8.toNat_inj.1 (by omega)) (hbe i hgt hi)
end Go.Proofs.YtkhphdkjnpcnnaaGreatDoor

/- Plain definitions and lemmas about floors: no program in sight. -/
namespace Go.Proofs.YtkhphdkjnpcnnaaGreatDoor

/-- A floor. -/
structure Flo where
  who : List UInt8
  ep : Int
theorem Flo.ext' {f g : Flo} (h : f.who = g.who) (h2 : f.ep = g.ep) : f = g := by cases f; cases g; simp_all
def starW : List UInt8 := [42]
def topF : List Flo → Int
  | [] => 0
  | f :: _ => if f.who = starW then f.ep else 0
theorem topF_cons (f : Flo) (L : List Flo) : topF (f :: L) = if f.who = starW then f.ep else 0 := rfl
/-- What counts for a name. -/
def ofF (L : List Flo) (n : List UInt8) : Int := match L.find? (fun f => f.who == n) with
  | none => topF L
  | some f => max f.ep (topF L)
/-- One floor, by itself: an error's number. -/
def oneF (f : Flo) : Nat := if f.who ≠ starW ∧ isName f.who = false then 4 else if 1 ≤ f.ep ∧ f.ep ≤ 1073741824 then 0 else 2
theorem oneF_zero {f : Flo} (h : oneF f = 0) : (f.who = starW ∨ isName f.who = true) ∧ 1 ≤ f.ep ∧ f.ep ≤ 1073741824 := by
  unfold oneF at h
  split at h
  · cases h
  · rename_i h1
    split at h
    · rename_i h2
      refine ⟨?_, h2⟩
      by_cases hs : f.who = starW
      · exact .inl hs
      · right
        cases hn : isName f.who with
        | true => rfl
        | false => exact absurd ⟨hs, hn⟩ h1
    · cases h
/-- What is wrong at a place: an error's number. -/
def errF (L : List Flo) (i : Nat) (f : Flo) : Nat :=
  if oneF f ≠ 0 then oneF f
  else if 0 < i ∧ ¬ ((L.getD (i - 1) ⟨[], 0⟩).who < f.who) then 8
  else if f.who ≠ starW ∧ f.ep ≤ topF L then 3 else 0
def errAtF (L : List Flo) (i : Nat) : Nat := errF L i (L.getD i ⟨[], 0⟩)
/-- What floor.Check answers: an error's number, its place. -/
def checkF (L : List Flo) : Nat × Int :=
  if 21 < L.length then (7, -1) else match (List.range L.length).find? (fun i => errAtF L i != 0) with
  | none => (0, -1)
  | some i => (errAtF L i, (i : Int))
theorem checkF_full {L : List Flo} (h : 21 < L.length) : checkF L = (7, -1) := by unfold checkF; rw [if_pos h]
theorem checkF_none {L : List Flo} (h : ¬ 21 < L.length) (ha : ∀ i, i < L.length → errAtF L i = 0) : checkF L = (0, -1) := by
  unfold checkF
  rw [if_neg h]
  have : (List.range L.length).find? (fun i => errAtF L i != 0) = none := List.find?_eq_none.2 fun i hi => by
    rw [ha i (List.mem_range.1 hi)]; decide
  rw [this]
theorem find_range {p : Nat → Bool} : ∀ (n i : Nat), i < n → p i = true → (∀ j, j < i → p j = false) → (List.range n).find? p = some i := by
  intro n
  induction n with
  | zero => intro i h; cases h
  | succ n ih =>
    intro i hi hp ha
    rw [List.range_succ, List.find?_append]
    by_cases h : i < n
    · rw [ih i h hp ha]; rfl
    · have : i = n := by omega
      subst this
      have : (List.range i).find? p = none := List.find?_eq_none.2 fun j hj => by rw [ha j (List.mem_range.1 hj)]; decide
      rw [this]
      simp [hp]
theorem checkF_some {L : List Flo} (h : ¬ 21 < L.length) (i : Nat) (hi : i < L.length) (hb : errAtF L i ≠ 0) (ha : ∀ j, j < i → errAtF L j = 0) : checkF L = (errAtF L i, (i : Int)) := by
  unfold checkF
  rw [if_neg h, find_range L.length i hi (by simpa using hb) (fun j hj => by rw [ha j hj]; decide)]
theorem checkF_zero {L : List Flo} (h : (checkF L).1 = 0) : ¬ 21 < L.length ∧ ∀ i, i < L.length → errAtF L i = 0 := by
  unfold checkF at h
  split at h
  · cases h
  · rename_i h1
    refine ⟨h1, fun i hi => ?_⟩
    cases hf : (List.range L.length).find? (fun i => errAtF L i != 0) with
    | none => simpa using List.find?_eq_none.1 hf i (List.mem_range.2 hi)
    | some j =>
      rw [hf] at h
      have := List.find?_some hf
      simp at this
      exact absurd h this
theorem checkF_cases (L : List Flo) : (21 < L.length) ∨ (¬ 21 < L.length ∧ ∀ i, i < L.length → errAtF L i = 0) ∨ (¬ 21 < L.length ∧ ∃ i, i < L.length ∧ errAtF L i ≠ 0 ∧ ∀ j, j < i → errAtF L j = 0) := by
  by_cases h : 21 < L.length
  · exact .inl h
  · refine .inr ?_
    by_cases ha : ∀ i, i < L.length → errAtF L i = 0
    · exact .inl ⟨h, ha⟩
    · refine .inr ⟨h, ?_⟩
      cases hf : (List.range L.length).find? (fun i => errAtF L i != 0) with
      | none => exact absurd (fun i hi => by simpa using List.find?_eq_none.1 hf i (List.mem_range.2 hi)) ha
      | some j =>
        obtain ⟨h1, xs0, ys0, h2, h3⟩ := List.find?_eq_some_iff_append.1 hf
        refine ⟨j, List.mem_range.1 (by rw [h2]; simp), by simpa using h1, fun k hk => ?_⟩
        have hj : j < L.length := List.mem_range.1 (by rw [h2]; simp)
        have hlen : xs0.length = j := by
          have h4 : (List.range L.length)[xs0.length]? = some j := by rw [h2]; simp
          rw [List.getElem?_range (by
            have := congrArg List.length h2
            simp at this
            omega)] at h4
          exact Option.some.inj h4
        have hm : k ∈ xs0 := by
          have h5 : (List.range L.length)[k]? = xs0[k]? := by rw [h2, List.getElem?_append_left (by omega)]
          rw [List.getElem?_range (by omega)] at h5
          exact List.mem_of_getElem? h5.symm
        simpa using h3 k hm

/-- Floors that are right, however many. -/
structure Good0 (L : List Flo) : Prop where
  one : ∀ f ∈ L, oneF f = 0
  sorted : L.Pairwise (fun f g => f.who < g.who)
  above : ∀ f ∈ L, f.who ≠ starW → topF L < f.ep
structure GoodF (L : List Flo) : Prop where
  g : Good0 L
  len : L.length ≤ 21
theorem pair_of_next {L : List Flo} (h : ∀ i, 0 < i → i < L.length → (L.getD (i - 1) ⟨[], 0⟩).who < (L.getD i ⟨[], 0⟩).who) : L.Pairwise (fun f g => f.who < g.who) := by
  rw [List.pairwise_iff_getElem]
  intro i j hi hj hij
  have key : ∀ d, ∀ (h : i + (d + 1) < L.length), L[i].who < (L[i + (d + 1)]).who := by
    intro d
    induction d with
    | zero =>
      intro h2
      have := h (i + 1) (by omega) h2
      simp only [Nat.add_sub_cancel, List.getD_eq_getElem?_getD, List.getElem?_eq_getElem hi, List.getElem?_eq_getElem h2, Option.getD_some] at this
      exact this
    | succ d ih =>
      intro h2
      have h4 : i + (d + 1) < L.length := by omega
      have h5 : i + (d + 1) + 1 < L.length := by omega
      have h3 := h (i + (d + 1) + 1) (by omega) h5
      simp only [Nat.add_sub_cancel, List.getD_eq_getElem?_getD, List.getElem?_eq_getElem h4, List.getElem?_eq_getElem h5, Option.getD_some] at h3
      exact List.lt_trans (ih h4) h3
  obtain ⟨d, rfl⟩ : ∃ d, j = i + (d + 1) := ⟨j - i - 1, by omega⟩
  exact key d hj
theorem getD_get {α : Type} {L : List α} {i : Nat} (h : i < L.length) (d : α) : L.getD i d = L[i] := by
  simp [List.getElem?_eq_getElem h]
theorem goodF_check {L : List Flo} (h : (checkF L).1 = 0) : GoodF L := by
  obtain ⟨h1, h2⟩ := checkF_zero h
  have key : ∀ i (hi : i < L.length), oneF L[i] = 0 ∧ (0 < i → (L.getD (i - 1) ⟨[], 0⟩).who < L[i].who) ∧ (L[i].who ≠ starW → topF L < L[i].ep) := by
    intro i hi
    have := h2 i hi
    unfold errAtF at this
    rw [getD_get hi] at this
    unfold errF at this
    by_cases a : oneF L[i] = 0
    · rw [if_neg (by simpa using a)] at this
      by_cases b : 0 < i ∧ ¬ ((L.getD (i - 1) ⟨[], 0⟩).who < L[i].who)
      · rw [if_pos b] at this; cases this
      · rw [if_neg b] at this
        by_cases c : L[i].who ≠ starW ∧ L[i].ep ≤ topF L
        · rw [if_pos c] at this; cases this
        · refine ⟨a, fun hi0 => ?_, fun hs => ?_⟩
          · rcases Classical.em ((L.getD (i - 1) ⟨[], 0⟩).who < L[i].who) with h | h
            · exact h
            · exact absurd ⟨hi0, h⟩ b
          · rcases Int.lt_or_le (topF L) L[i].ep with h | h
            · exact h
            · exact absurd ⟨hs, h⟩ c
    · rw [if_pos a] at this; exact absurd this a
  refine ⟨⟨fun f hf => ?_, pair_of_next fun i h0 hi => ?_, fun f hf hs => ?_⟩, by omega⟩
  · obtain ⟨i, hi, rfl⟩ := List.getElem_of_mem hf
    exact (key i hi).1
  · rw [getD_get hi]; exact (key i hi).2.1 h0
  · obtain ⟨i, hi, rfl⟩ := List.getElem_of_mem hf
    exact (key i hi).2.2 hs
theorem check_goodF {L : List Flo} (h : GoodF L) : checkF L = (0, -1) := by
  refine checkF_none (by have := h.len; omega) fun i hi => ?_
  unfold errAtF
  rw [getD_get hi]
  unfold errF
  have hm := List.getElem_mem hi
  rw [if_neg (by simpa using h.g.one _ hm), if_neg, if_neg]
  · rintro ⟨hs, he⟩
    have := h.g.above _ hm hs
    omega
  · rintro ⟨h0, hn⟩
    apply hn
    rw [getD_get (show i - 1 < L.length by omega)]
    exact List.pairwise_iff_getElem.1 h.g.sorted (i - 1) i (by omega) hi (by omega)

theorem star_lt_name {n : List UInt8} (h : isName n = true) : starW < n := by
  obtain ⟨h1, _, h3⟩ := (isName_iff n).1 h
  cases n with
  | nil => simp at h1
  | cons c r =>
    have hc := h3 c (by simp)
    have : (42 : UInt8) < c := by
      have key : ∀ n, n < 256 → smallB (UInt8.ofNat n) = true → (42 : UInt8) < UInt8.ofNat n := by decide +kernel
      have := key c.toNat (UInt8.toNat_lt c)
      rw [UInt8.ofNat_toNat] at this
      exact this hc
    exact List.cons_lt_cons_iff.2 (.inl this)
theorem who_inj {L : List Flo} (hs : L.Pairwise (fun f g => f.who < g.who)) : ∀ f ∈ L, ∀ g ∈ L, f.who = g.who → f = g := by
  induction L with
  | nil => intro f hf; cases hf
  | cons a L ih =>
    have hs' := List.pairwise_cons.1 hs
    intro f hf g hg h
    rcases List.mem_cons.1 hf with hfa | hf' <;> rcases List.mem_cons.1 hg with hga | hg'
    · rw [hfa, hga]
    · exact absurd (hs'.1 g hg') (by rw [← hfa, h]; exact List.lt_irrefl _)
    · exact absurd (hs'.1 f hf') (by rw [← hga, h]; exact List.lt_irrefl _)
    · exact ih hs'.2 f hf' g hg' h
theorem sorted_ext : ∀ {L M : List Flo}, L.Pairwise (fun f g => f.who < g.who) → M.Pairwise (fun f g => f.who < g.who) → (∀ f, f ∈ L ↔ f ∈ M) → L = M
  | [], [], _, _, _ => rfl
  | [], b :: M, _, _, h => by have := (h b).2 (by simp); cases this
  | a :: L, [], _, _, h => by have := (h a).1 (by simp); cases this
  | a :: L, b :: M, hL, hM, h => by
    have hL' := List.pairwise_cons.1 hL
    have hM' := List.pairwise_cons.1 hM
    have hab : a = b := by
      rcases List.mem_cons.1 ((h a).1 (by simp)) with e | ha
      · exact e
      · rcases List.mem_cons.1 ((h b).2 (by simp)) with e | hb
        · exact e.symm
        · exact absurd (List.lt_trans (hL'.1 b hb) (hM'.1 a ha)) (List.lt_irrefl _)
    subst hab
    have hna : a ∉ L := fun hm => absurd (hL'.1 a hm) (List.lt_irrefl _)
    have hnb : a ∉ M := fun hm => absurd (hM'.1 a hm) (List.lt_irrefl _)
    congr 1
    refine sorted_ext hL'.2 hM'.2 fun f => ⟨fun hf => ?_, fun hf => ?_⟩
    · rcases List.mem_cons.1 ((h f).1 (by simp [hf])) with e | h2
      · exact absurd (e ▸ hf) hna
      · exact h2
    · rcases List.mem_cons.1 ((h f).2 (by simp [hf])) with e | h2
      · exact absurd (e ▸ hf) hnb
      · exact h2

theorem topF_mem {L : List Flo} (h : Good0 L) {g : Flo} (hg : g ∈ L) (hs : g.who = starW) : topF L = g.ep := by
  cases L with
  | nil => cases hg
  | cons a L =>
    rcases List.mem_cons.1 hg with rfl | hm
    · rw [topF_cons, if_pos hs]
    · have hlt := (List.pairwise_cons.1 h.sorted).1 g hm
      rcases (oneF_zero (h.one a (by simp))).1 with ha | ha
      · rw [ha, hs] at hlt; exact absurd hlt (List.lt_irrefl _)
      · have := star_lt_name ha
        rw [hs] at hlt
        exact absurd (List.lt_trans this hlt) (List.lt_irrefl _)
theorem topF_not {L : List Flo} (h : ∀ g ∈ L, g.who ≠ starW) : topF L = 0 := by
  cases L with
  | nil => rfl
  | cons a L => rw [topF_cons, if_neg (h a (by simp))]
theorem topF_nonneg {L : List Flo} (h : Good0 L) : 0 ≤ topF L ∧ topF L ≤ 1073741824 := by
  cases L with
  | nil => simp [topF]
  | cons a L =>
    have := (oneF_zero (h.one a (by simp))).2
    rw [topF_cons]
    split <;> omega
theorem ofF_mem {L : List Flo} (h : Good0 L) {g : Flo} (hg : g ∈ L) : ofF L g.who = g.ep := by
  unfold ofF
  cases hf : L.find? (fun f => f.who == g.who) with
  | none => have := List.find?_eq_none.1 hf g hg; simp at this
  | some f =>
    have h1 := List.mem_of_find?_eq_some hf
    have h2 : f.who = g.who := by simpa using List.find?_some hf
    obtain rfl := who_inj h.sorted f h1 g hg h2
    dsimp only
    by_cases hs : f.who = starW
    · rw [topF_mem h hg hs]; omega
    · have := h.above f hg hs; omega
theorem ofF_not {L : List Flo} {n : List UInt8} (h : ∀ g ∈ L, g.who ≠ n) : ofF L n = topF L := by
  unfold ofF
  have : L.find? (fun f => f.who == n) = none := List.find?_eq_none.2 fun g hg => by simpa using h g hg
  rw [this]
theorem has_or (L : List Flo) (n : List UInt8) : (∃ g ∈ L, g.who = n) ∨ ∀ g ∈ L, g.who ≠ n := by
  by_cases h : ∃ g ∈ L, g.who = n
  · exact .inl h
  · exact .inr fun g hg e => h ⟨g, hg, e⟩
theorem ofF_star {L : List Flo} (h : Good0 L) : ofF L starW = topF L := by
  rcases has_or L starW with ⟨g, hg, hs⟩ | hn
  · have := ofF_mem h hg
    rw [hs] at this
    rw [this, topF_mem h hg hs]
  · exact ofF_not hn
theorem ofF_top {L : List Flo} (h : Good0 L) (n : List UInt8) : topF L ≤ ofF L n := by
  rcases has_or L n with ⟨g, hg, rfl⟩ | hn
  · rw [ofF_mem h hg]
    by_cases hs : g.who = starW
    · rw [topF_mem h hg hs]; omega
    · have := h.above g hg hs; omega
  · rw [ofF_not hn]; omega
theorem ofF_le {L : List Flo} (h : Good0 L) (n : List UInt8) : ofF L n ≤ 1073741824 := by
  rcases has_or L n with ⟨g, hg, rfl⟩ | hn
  · rw [ofF_mem h hg]; exact (oneF_zero (h.one g hg)).2.2
  · rw [ofF_not hn]; exact (topF_nonneg h).2
theorem mem_iff {L : List Flo} (h : Good0 L) (f : Flo) : f ∈ L ↔ 1 ≤ f.ep ∧ ofF L f.who = f.ep ∧ (f.who = starW ∨ ofF L starW < f.ep) := by
  rw [ofF_star h]
  constructor
  · intro hf
    refine ⟨(oneF_zero (h.one f hf)).2.1, ofF_mem h hf, ?_⟩
    by_cases hs : f.who = starW
    · exact .inl hs
    · exact .inr (h.above f hf hs)
  · rintro ⟨h1, h2, h3⟩
    rcases has_or L f.who with ⟨g, hg, he⟩ | hn
    · have := ofF_mem h hg
      rw [he, h2] at this
      have : f = g := Flo.ext' he.symm this
      rw [this]; exact hg
    · rw [ofF_not hn] at h2
      rcases h3 with hs | hlt
      · rw [topF_not (by rw [← hs]; exact hn)] at h2; omega
      · omega
/-- Floors are what they let pass. -/
theorem floors_ext {L M : List Flo} (h : Good0 L) (k : Good0 M) (he : ∀ n, ofF L n = ofF M n) : L = M :=
  sorted_ext h.sorted k.sorted fun f => by rw [mem_iff h, mem_iff k, he, he]

/-! Raised. -/
def keepF (f g : Flo) : Bool := !(g.who == f.who || (f.who == starW && decide (g.ep ≤ f.ep)))
theorem keepF_iff (f g : Flo) : keepF f g = true ↔ g.who ≠ f.who ∧ (f.who = starW → f.ep < g.ep) := by
  unfold keepF
  by_cases h : f.who = starW <;> simp [h]
def insF (f : Flo) : List Flo → List Flo
  | [] => [f]
  | g :: r => if g.who < f.who then g :: insF f r else f :: g :: r
theorem insF_mem (f g : Flo) : ∀ L, g ∈ insF f L ↔ g = f ∨ g ∈ L
  | [] => by simp [insF]
  | a :: r => by
    unfold insF
    split
    · rw [List.mem_cons, insF_mem f g r, List.mem_cons]
      constructor
      · rintro (h | h | h)
        · exact .inr (.inl h)
        · exact .inl h
        · exact .inr (.inr h)
      · rintro (h | h | h)
        · exact .inr (.inl h)
        · exact .inl h
        · exact .inr (.inr h)
    · rw [List.mem_cons]
theorem insF_length (f : Flo) : ∀ L, (insF f L).length = L.length + 1
  | [] => rfl
  | a :: r => by
    unfold insF
    split
    · simp [insF_length f r]
    · simp
theorem insF_sorted (f : Flo) : ∀ L : List Flo, L.Pairwise (fun f g => f.who < g.who) → (∀ g ∈ L, g.who ≠ f.who) → (insF f L).Pairwise (fun f g => f.who < g.who)
  | [], _, _ => by simp [insF]
  | q :: r, hs, hn => by
    have hs' := List.pairwise_cons.1 hs
    unfold insF
    split
    · rename_i hlt
      refine List.pairwise_cons.2 ⟨fun x hx => ?_, insF_sorted f r hs'.2 (fun x hx => hn x (by simp [hx]))⟩
      rcases (insF_mem f x r).1 hx with rfl | h
      · exact hlt
      · exact hs'.1 x h
    · rename_i hlt
      have hpq : f.who < q.who := lt_total hlt (hn q (by simp))
      refine List.pairwise_cons.2 ⟨fun x hx => ?_, hs⟩
      rcases List.mem_cons.1 hx with rfl | h
      · exact hpq
      · exact List.lt_trans hpq (hs'.1 x h)
/-- Floors, with one more. -/
def upF (L : List Flo) (f : Flo) : List Flo := if f.ep ≤ ofF L f.who then L else insF f (L.filter (keepF f))
theorem upF_same {L : List Flo} {f : Flo} (h : f.ep ≤ ofF L f.who) : upF L f = L := by unfold upF; rw [if_pos h]
/-- What floor.Raise answers: floors, an error's number, its place. -/
def raiseF (L : List Flo) (f : Flo) : List Flo × Nat × Int :=
  if (checkF L).1 = 0 then (if oneF f = 0 then (if 21 < (upF L f).length then ([], 7, -1) else (upF L f, 0, -1)) else ([], oneF f, -1)) else ([], checkF L)
theorem upF_all {L : List Flo} (h : Good0 L) {f : Flo} (hf : oneF f = 0) :
    Good0 (upF L f) ∧ ∀ n, ofF (upF L f) n = if f.who = starW ∨ n = f.who then max (ofF L n) f.ep else ofF L n := by
  unfold upF
  by_cases hle : f.ep ≤ ofF L f.who
  · rw [if_pos hle]
    refine ⟨h, fun n => ?_⟩
    split
    · rename_i hc
      rcases hc with hs | rfl
      · have := ofF_top h n
        rw [hs, ofF_star h] at hle
        omega
      · omega
    · rfl
  rw [if_neg hle]
  have hmem : ∀ g, g ∈ insF f (L.filter (keepF f)) ↔ g = f ∨ (g ∈ L ∧ g.who ≠ f.who ∧ (f.who = starW → f.ep < g.ep)) := fun g => by
    rw [insF_mem, List.mem_filter, keepF_iff]
  have hsort : (insF f (L.filter (keepF f))).Pairwise (fun f g => f.who < g.who) :=
    insF_sorted f _ (h.sorted.filter _) fun g hg => ((keepF_iff f g).1 (List.mem_filter.1 hg).2).1
  have hone : ∀ g ∈ insF f (L.filter (keepF f)), oneF g = 0 := fun g hg => by
    rcases (hmem g).1 hg with rfl | ⟨hg, _⟩
    · exact hf
    · exact h.one g hg
  generalize insF f (L.filter (keepF f)) = M at *
  -- the floor of all
  have htop : ∀ g ∈ M, g.who = starW → topF M = g.ep := by
    intro g hg hs
    cases M with
    | nil => cases hg
    | cons a M =>
      rcases List.mem_cons.1 hg with rfl | hm
      · rw [topF_cons, if_pos hs]
      · have hlt := (List.pairwise_cons.1 hsort).1 g hm
        rcases (oneF_zero (hone a (by simp))).1 with ha | ha
        · rw [ha, hs] at hlt; exact absurd hlt (List.lt_irrefl _)
        · have := star_lt_name ha
          rw [hs] at hlt
          exact absurd (List.lt_trans this hlt) (List.lt_irrefl _)
  have hfm : f ∈ M := (hmem f).2 (.inl rfl)
  by_cases hs : f.who = starW
  · have ht : topF M = f.ep := htop f hfm hs
    have hg : Good0 M := ⟨hone, hsort, fun g hg hgs => by
      rw [ht]
      rcases (hmem g).1 hg with rfl | ⟨_, _, h3⟩
      · exact absurd hs hgs
      · exact h3 hs⟩
    refine ⟨hg, fun n => ?_⟩
    rw [if_pos (.inl hs)]
    rw [hs, ofF_star h] at hle
    by_cases hn : n = starW
    · subst hn
      rw [ofF_star h, ofF_star hg, ht]
      omega
    · rcases has_or L n with ⟨g, hgL, rfl⟩ | hno
      · rw [ofF_mem h hgL]
        by_cases hge : g.ep ≤ f.ep
        · rw [ofF_not (fun x hx e => by
            rcases (hmem x).1 hx with rfl | ⟨hx1, _, hx3⟩
            · exact hn (e.symm.trans hs)
            · obtain rfl := who_inj h.sorted x hx1 g hgL e
              have := hx3 hs
              omega), ht]
          omega
        · rw [ofF_mem hg ((hmem g).2 (.inr ⟨hgL, fun e => hn (e.trans hs), fun _ => by omega⟩))]
          omega
      · rw [ofF_not hno, ofF_not (fun x hx e => by
          rcases (hmem x).1 hx with rfl | ⟨hx1, _, _⟩
          · exact hn (e.symm.trans hs)
          · exact hno x hx1 e), ht]
        omega
  · have ht : topF M = topF L := by
      rcases has_or L starW with ⟨g, hgL, hgs⟩ | hno
      · rw [topF_mem h hgL hgs, htop g ((hmem g).2 (.inr ⟨hgL, fun e => hs (e.symm.trans hgs), fun e => absurd e hs⟩)) hgs]
      · rw [topF_not hno, topF_not (fun x hx e => by
          rcases (hmem x).1 hx with rfl | ⟨hx1, _, _⟩
          · exact hs e
          · exact hno x hx1 e)]
    have htf := ofF_top h f.who
    have hg : Good0 M := ⟨hone, hsort, fun g hg hgs => by
      rw [ht]
      rcases (hmem g).1 hg with rfl | ⟨h1, _, _⟩
      · omega
      · exact h.above g h1 hgs⟩
    refine ⟨hg, fun n => ?_⟩
    by_cases hn : n = f.who
    · subst hn
      rw [if_pos (.inr rfl), ofF_mem hg hfm]
      omega
    · rw [if_neg (by rintro (h | h); exact hs h; exact hn h)]
      rcases has_or L n with ⟨g, hgL, rfl⟩ | hno
      · rw [ofF_mem h hgL, ofF_mem hg ((hmem g).2 (.inr ⟨hgL, hn, fun e => absurd e hs⟩))]
      · rw [ofF_not hno, ofF_not (fun x hx e => by
          rcases (hmem x).1 hx with rfl | ⟨hx1, _, _⟩
          · exact hn e.symm
          · exact hno x hx1 e), ht]
theorem raiseF_zero {L : List Flo} {f : Flo} (h : (raiseF L f).2.1 = 0) : GoodF L ∧ oneF f = 0 ∧ GoodF (upF L f) ∧ raiseF L f = (upF L f, 0, -1) := by
  unfold raiseF at h ⊢
  by_cases hc : (checkF L).1 = 0
  · have hg := goodF_check hc
    rw [if_pos hc] at h ⊢
    by_cases ho : oneF f = 0
    · rw [if_pos ho] at h ⊢
      by_cases hl : 21 < (upF L f).length
      · rw [if_pos hl] at h; cases h
      · rw [if_neg hl]
        exact ⟨hg, ho, ⟨(upF_all hg.g ho).1, by omega⟩, rfl⟩
    · rw [if_neg ho] at h; exact absurd h ho
  · rw [if_neg hc] at h; exact absurd h hc
theorem raiseF_bad {L : List Flo} {f : Flo} (h : (raiseF L f).2.1 ≠ 0) : (raiseF L f).1 = [] := by
  unfold raiseF at h ⊢
  by_cases hc : (checkF L).1 = 0
  · rw [if_pos hc] at h ⊢
    by_cases ho : oneF f = 0
    · rw [if_pos ho] at h ⊢
      by_cases hl : 21 < (upF L f).length
      · rw [if_pos hl]
      · rw [if_neg hl] at h; exact absurd rfl h
    · rw [if_neg ho]
  · rw [if_neg hc]
theorem raiseF_of {L : List Flo} {f : Flo} (h : GoodF L) (ho : oneF f = 0) (hl : (upF L f).length ≤ 21) : raiseF L f = (upF L f, 0, -1) := by
  unfold raiseF
  rw [check_goodF h, if_pos rfl, if_pos ho, if_neg (by omega)]
/-- In whatever order two floors are raised, it is the same in the end. -/
theorem raise_order {L : List Flo} {f g : Flo} (h1 : (raiseF L f).2.1 = 0) (h2 : (raiseF L g).2.1 = 0) (h3 : (raiseF (raiseF L f).1 g).2.1 = 0) (h4 : (raiseF (raiseF L g).1 f).2.1 = 0) :
    (raiseF (raiseF L f).1 g).1 = (raiseF (raiseF L g).1 f).1 ∧ raiseF (raiseF (raiseF L f).1 g).1 f = ((raiseF (raiseF L f).1 g).1, 0, -1) := by
  obtain ⟨gL, of_, gA, eA⟩ := raiseF_zero h1
  obtain ⟨_, og, gB, eB⟩ := raiseF_zero h2
  rw [eA] at h3 ⊢
  rw [eB] at h4 ⊢
  obtain ⟨_, _, gX, eX⟩ := raiseF_zero h3
  obtain ⟨_, _, gY, eY⟩ := raiseF_zero h4
  dsimp only at eX eY gX gY ⊢
  rw [eX, eY]
  dsimp only
  have uA := (upF_all gL.g of_).2
  have uB := (upF_all gL.g og).2
  have uX := (upF_all gA.g og).2
  have uY := (upF_all gB.g of_).2
  refine ⟨floors_ext gX.g gY.g fun n => ?_, ?_⟩
  · rw [uX, uY, uA, uB]
    split <;> split <;> omega
  · have hle : f.ep ≤ ofF (upF (upF L f) g) f.who := by
      rw [uX, uA, if_pos (show f.who = starW ∨ f.who = f.who from .inr rfl)]
      split <;> omega
    have hu : upF (upF (upF L f) g) f = upF (upF L f) g := upF_same hle
    rw [raiseF_of gX of_ (by rw [hu]; exact gX.len), hu]
/-- .. and again nothing new. -/
theorem upF_mono {L : List Flo} (h : Good0 L) {f : Flo} (hf : oneF f = 0) (n : List UInt8) : ofF L n ≤ ofF (upF L f) n := by
  rw [(upF_all h hf).2]
  split <;> omega
theorem upF_own {L : List Flo} (h : Good0 L) {f : Flo} (hf : oneF f = 0) : f.ep ≤ ofF (upF L f) f.who := by
  rw [(upF_all h hf).2, if_pos (.inr rfl)]
  omega
end Go.Proofs.YtkhphdkjnpcnnaaGreatDoor
