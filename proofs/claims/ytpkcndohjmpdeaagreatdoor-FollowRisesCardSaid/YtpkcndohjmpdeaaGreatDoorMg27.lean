/- RelP, FolP, FolH -/
import Derived.Test.YtpkcndohjmpdeaaGreatDoorMg5
import Derived.Test.YtpkcndohjmpdeaaGreatDoorMg21
/- Plain definitions and lemmas about relays: no program in sight. -/
namespace Go.Proofs.YtpkcndohjmpdeaaGreatDoor

/-! News of a feed. -/
structure News where
  many : Int
  frm : Int
  time : Int
  key : Int
  text : List UInt8
def newsMany (L : List Ent) (n : News) : Nat := if n.many < 0 ∨ (L.length : Int) < n.many then L.length else n.many.toNat
def newsFrom (L : List Ent) (n : News) : Nat := if n.frm < 0 ∨ (newsMany L n : Int) < n.frm then newsMany L n else n.frm.toNat
def newsHead (L : List Ent) (n : News) : List UInt8 := if n.text = [] then (headOf n.key (L.take (newsMany L n)) n.time).1 else n.text
def newsEnts (L : List Ent) (n : News) : List Ent := (L.take (newsMany L n)).drop (newsFrom L n)
theorem newsMany_le (L : List Ent) (n : News) : newsMany L n ≤ L.length := by unfold newsMany; split <;> omega
theorem newsFrom_le (L : List Ent) (n : News) : newsFrom L n ≤ newsMany L n := by unfold newsFrom; split <;> omega
theorem openH_nil (key : Int) : (openH key []).2 ≠ 0 := by
  intro h
  unfold openH at h
  by_cases h1 : (openOf key []).2 = 0
  · obtain ⟨_, _, hd, e, _⟩ := open_shape h1
    have := congrArg List.length e
    simp at this
  · rw [if_neg h1] at h; exact absurd h h1

/-! One who follows one feed. -/
structure NodeOk (key : Int) (L : List Ent) (f : Fol) : Prop where
  ky : f.key = key
  pre : f.l = L.take f.l.length
  ok : FolOk f
  head : (f.head = [] ∧ f.l = [] ∧ f.time = -1 ∧ f.floors = []) ∨ (f.head ≠ [] ∧ openH key f.head = (⟨(f.l.length : Int), f.time, sumF f.floors⟩, 0))
theorem newNode (key : Int) (L : List Ent) : NodeOk key L (newFol key) := ⟨rfl, rfl, newFol_ok key, .inl ⟨rfl, rfl, rfl, rfl⟩⟩
/-- What is the same: entries as many, the same head. -/
theorem node_eq {key : Int} {L : List Ent} {f g : Fol} (hf : NodeOk key L f) (hg : NodeOk key L g) (h : f.head = g.head) : f = g := by
  have hl : f.l.length = g.l.length ∧ f.time = g.time := by
    rcases hf.head with ⟨h1, h2, h3, _⟩ | ⟨h1, h2⟩ <;> rcases hg.head with ⟨k1, k2, k3, _⟩ | ⟨k1, k2⟩
    · rw [h2, k2, h3, k3]; exact ⟨rfl, rfl⟩
    · exact absurd (h.symm.trans h1) k1
    · exact absurd (h.trans k1) h1
    · rw [h, k2] at h2
      injection h2 with h2 _
      injection h2 with e1 e2 _
      exact ⟨by omega, e2.symm⟩
  have h1 : f.l = g.l := by rw [hf.pre, hg.pre, hl.1]
  have h2 : f.floors = g.floors := by
    have a := hf.ok.ok
    rw [h1, hg.ok.ok] at a
    injection a with a _
    exact a.symm
  have h3 : f.key = g.key := hf.ky.trans hg.ky.symm
  cases f
  cases g
  simp_all
theorem take_node {key : Int} {L : List Ent} {f : Fol} (hf : NodeOk key L f) {s : List UInt8} {M : List Ent} (hpre : (takeF f s M).1 = 0 → f.l ++ M = L.take (f.l ++ M).length) (hs : s ≠ [] ∨ (takeF f s M).1 ≠ 0) :
    NodeOk key L (takeF f s M).2 ∧ f.l.length ≤ (takeF f s M).2.l.length ∧ f.time ≤ (takeF f s M).2.time := by
  by_cases h : (takeF f s M).1 = 0
  · obtain ⟨h1, h2, h3, h4, h5, h6⟩ := takeF_zero h
    have hp := hpre h
    have hok := take_ok hf.ok s M
    rw [h6] at hok ⊢
    refine ⟨⟨hf.ky, hp, hok, .inr ⟨?_, ?_⟩⟩, by dsimp only; rw [List.length_append]; omega, h2⟩
    · rcases hs with hs | hs
      · exact hs
      · exact absurd h hs
    · dsimp only
      rw [← hf.ky]
      refine Prod.ext ?_ h1
      rw [h5, List.length_append]
      generalize (openH f.key s).1 = x at *
      cases x
      simp only [Hd.mk.injEq, and_true]
      dsimp only at h3
      omega
  · rw [takeF_bad h]
    exact ⟨hf, Nat.le_refl _, Int.le_refl _⟩
/-- News taken. -/
theorem news_node {key : Int} {L : List Ent} {f : Fol} (hf : NodeOk key L f) (n : News) (hk : n.key = key) (ht : n.text = []) :
    NodeOk key L (takeF f (newsHead L n) (newsEnts L n)).2 ∧ f.l.length ≤ (takeF f (newsHead L n) (newsEnts L n)).2.l.length ∧ f.time ≤ (takeF f (newsHead L n) (newsEnts L n)).2.time := by
  have hh : newsHead L n = (headOf key (L.take (newsMany L n)) n.time).1 := by unfold newsHead; rw [if_pos ht, hk]
  by_cases hz : (headOf key (L.take (newsMany L n)) n.time).2.1 = 0
  · obtain ⟨_, _, _, _, _, h6, h7⟩ := headOf_zero hz
    have hm := newsMany_le L n
    have hfm := newsFrom_le L n
    have hlm : (L.take (newsMany L n)).length = newsMany L n := by rw [List.length_take]; omega
    refine take_node hf (fun h => ?_) (.inl fun e => ?_)
    · obtain ⟨h1, h2, h3, h4, h5, _⟩ := takeF_zero h
      rw [hf.ky, hh, h7, hlm] at h3
      dsimp only at h3
      have hle : (newsEnts L n).length = newsMany L n - newsFrom L n := by unfold newsEnts; rw [List.length_drop, hlm]
      have hfl : f.l.length = newsFrom L n := by omega
      have hp := hf.pre
      rw [hfl] at hp
      have he : f.l ++ newsEnts L n = L.take (newsMany L n) := by
        unfold newsEnts
        rw [hp]
        conv => rhs; rw [← List.take_append_drop (newsFrom L n) (L.take (newsMany L n))]
        rw [List.take_take, Nat.min_eq_left hfm]
      rw [he, hlm]
    · rw [hh] at e
      have := openH_nil key
      rw [← e, h7] at this
      exact this rfl
  · have he : newsHead L n = [] := by rw [hh]; exact headOf_bad hz
    refine take_node hf (fun h => ?_) (.inr fun h => ?_)
    all_goals
      have := (takeF_zero h).1
      rw [he] at this
      exact absurd this (openH_nil _)

/-! A tree. -/
def nodeT (T : List Fol) (i : Nat) : Fol := T.getD i (newFol 0)
def upT (A : List Int) (i : Nat) : Nat := (A.getD i 0).toNat
def pollT (T : List Fol) (A : List Int) (i : Int) : (Int × Nat) × List Fol :=
  if i < 1 ∨ (T.length : Int) ≤ i then ((0, 2), T)
  else if (nodeT T (upT A i.toNat)).head = [] then ((0, 5), T)
  else if (nodeT T (upT A i.toNat)).head = (nodeT T i.toNat).head then ((0, 12), T)
  else if (sinceE (nodeT T (upT A i.toNat)).l (nodeT T i.toNat).l.length).2.1 ≠ 0 then ((0, (sinceE (nodeT T (upT A i.toNat)).l (nodeT T i.toNat).l.length).2.1), T)
  else if (takeF (nodeT T i.toNat) (nodeT T (upT A i.toNat)).head (sinceE (nodeT T (upT A i.toNat)).l (nodeT T i.toNat).l.length).1).1 ≠ 0 then ((0, (takeF (nodeT T i.toNat) (nodeT T (upT A i.toNat)).head (sinceE (nodeT T (upT A i.toNat)).l (nodeT T i.toNat).l.length).1).1), T)
  else (((sinceE (nodeT T (upT A i.toNat)).l (nodeT T i.toNat).l.length).1.length, 0), T.set i.toNat (takeF (nodeT T i.toNat) (nodeT T (upT A i.toNat)).head (sinceE (nodeT T (upT A i.toNat)).l (nodeT T i.toNat).l.length).1).2)
/-- The first so many poll: how many took something. -/
def allN (T : List Fol) (A : List Int) : Nat → Nat × List Fol
  | 0 => (0, T)
  | n + 1 => (if (pollT (allN T A n).2 A n).1.2 = 0 then (allN T A n).1 + 1 else (allN T A n).1, (pollT (allN T A n).2 A n).2)
def allT (T : List Fol) (A : List Int) : Nat × List Fol := allN T A T.length
theorem pollT_len (T : List Fol) (A : List Int) (i : Int) : (pollT T A i).2.length = T.length := by
  unfold pollT
  split
  · rfl
  split
  · rfl
  split
  · rfl
  split
  · rfl
  split
  · rfl
  · simp
theorem allN_len (T : List Fol) (A : List Int) : ∀ n, (allN T A n).2.length = T.length
  | 0 => rfl
  | n + 1 => by rw [allN, pollT_len, allN_len T A n]
theorem allN_le (T : List Fol) (A : List Int) : ∀ n, (allN T A n).1 ≤ n
  | 0 => Nat.le_refl _
  | n + 1 => by
    rw [allN]
    have := allN_le T A n
    dsimp only
    split <;> omega
structure TreeOk (key : Int) (L : List Ent) (T : List Fol) (A : List Int) : Prop where
  len : A.length = T.length
  pos : 0 < T.length
  up : ∀ i, 1 ≤ i → i < T.length → upT A i < i
  node : ∀ i, i < T.length → NodeOk key L (nodeT T i)
  below : ∀ i, 1 ≤ i → i < T.length → (nodeT T i).l.length ≤ (nodeT T (upT A i)).l.length ∧ (nodeT T i).time ≤ (nodeT T (upT A i)).time
theorem nodeT_set {T : List Fol} {i : Nat} (f : Fol) (j : Nat) (h : i < T.length) : nodeT (T.set i f) j = if j = i then f else nodeT T j := by
  unfold nodeT
  rw [List.getD_eq_getElem?_getD, List.getD_eq_getElem?_getD, List.getElem?_set]
  by_cases hj : j = i
  · subst hj
    simp [h]
  · simp [hj, Ne.symm hj]
theorem set_tree {key : Int} {L : List Ent} {T : List Fol} {A : List Int} (h : TreeOk key L T A) {i : Nat} (hi : i < T.length) {f : Fol} (hf : NodeOk key L f) (h1 : (nodeT T i).l.length ≤ f.l.length ∧ (nodeT T i).time ≤ f.time)
    (h2 : 1 ≤ i → f.l.length ≤ (nodeT T (upT A i)).l.length ∧ f.time ≤ (nodeT T (upT A i)).time) : TreeOk key L (T.set i f) A := by
  refine ⟨by rw [List.length_set]; exact h.len, by rw [List.length_set]; exact h.pos, fun j a b => h.up j a (by rwa [List.length_set] at b), fun j hj => ?_, fun j a b => ?_⟩
  · rw [List.length_set] at hj
    rw [nodeT_set _ _ hi]
    split
    · exact hf
    · exact h.node j hj
  · rw [List.length_set] at b
    rw [nodeT_set _ _ hi, nodeT_set _ _ hi]
    have hup := h.up j a b
    have hb := h.below j a b
    by_cases hj : j = i
    · subst hj
      rw [if_pos rfl, if_neg (by omega)]
      exact h2 a
    · rw [if_neg hj]
      by_cases hu : upT A j = i
      · rw [if_pos hu]
        rw [hu] at hb
        omega
      · rw [if_neg hu]
        exact hb
/-- One poll: the tree is right behind it; who polled has what the one above has; nobody else turned. -/
theorem poll_tree {key : Int} {L : List Ent} {T : List Fol} {A : List Int} (h : TreeOk key L T A) (i : Int) :
    TreeOk key L (pollT T A i).2 A ∧ (∀ j, j ≠ i.toNat → nodeT (pollT T A i).2 j = nodeT T j) ∧ (1 ≤ i → i < T.length → nodeT (pollT T A i).2 i.toNat = nodeT T (upT A i.toNat)) := by
  by_cases h0 : i < 1 ∨ (T.length : Int) ≤ i
  · unfold pollT
    rw [if_pos h0]
    exact ⟨h, fun _ _ => rfl, fun a b => by omega⟩
  obtain ⟨n, rfl⟩ := Int.eq_ofNat_of_zero_le (show 0 ≤ i by omega)
  have hn1 : 1 ≤ n := by omega
  have hnl : n < T.length := by omega
  have hup := h.up n hn1 hnl
  have hf := h.node n hnl
  have hu := h.node (upT A n) (by omega)
  have hb := h.below n hn1 hnl
  rw [Int.toNat_natCast]
  generalize hfd : nodeT T n = f at *
  generalize hud : nodeT T (upT A n) = u at *
  have hp : pollT T A (n : Int) = (if u.head = [] then ((0, 5), T) else if u.head = f.head then ((0, 12), T) else if (sinceE u.l f.l.length).2.1 ≠ 0 then ((0, (sinceE u.l f.l.length).2.1), T)
      else if (takeF f u.head (sinceE u.l f.l.length).1).1 ≠ 0 then ((0, (takeF f u.head (sinceE u.l f.l.length).1).1), T) else (((sinceE u.l f.l.length).1.length, 0), T.set n (takeF f u.head (sinceE u.l f.l.length).1).2) : (Int × Nat) × List Fol) := by
    unfold pollT
    rw [if_neg h0, Int.toNat_natCast, hfd, hud]
  rw [hp]
  by_cases h1 : u.head = []
  · rw [if_pos h1]
    refine ⟨h, fun _ _ => rfl, fun _ _ => ?_⟩
    rw [hfd]
    refine node_eq hf hu ?_
    rcases hu.head with ⟨_, k2, k3, _⟩ | ⟨k1, _⟩
    · rcases hf.head with ⟨q1, _⟩ | ⟨q1, q2⟩
      · rw [q1, h1]
      · have := openH_time (key := key) (s := f.head) (by rw [q2])
        rw [q2] at this
        dsimp only at this
        omega
    · exact absurd h1 k1
  rw [if_neg h1]
  by_cases h2 : u.head = f.head
  · rw [if_pos h2]
    exact ⟨h, fun _ _ => rfl, fun _ _ => by rw [hfd]; exact node_eq hf hu h2.symm⟩
  rw [if_neg h2]
  rcases hu.head with ⟨k1, _⟩ | ⟨_, k2⟩
  · exact absurd k1 h1
  have huc : checkE u.l = (0, -1) := (floorsE_zero (L := u.l) (by rw [hu.ok.ok])).1
  have hs := (sinceE_of (L := u.l) (by rw [huc]) (f.l.length : Int)).2 (by omega) (by omega)
  rw [hs, Int.toNat_natCast]
  dsimp only
  rw [if_neg (by decide)]
  have happ : f.l ++ u.l.drop f.l.length = u.l := by
    have : f.l = u.l.take f.l.length := by
      conv => lhs; rw [hf.pre]
      rw [hu.pre, List.take_take, Nat.min_eq_left hb.1]
    conv => lhs; lhs; rw [this]
    exact List.take_append_drop _ _
  have htk : takeF f u.head (u.l.drop f.l.length) = (0, u) := by
    have h5 := takeF_of (f := f) (s := u.head) (M := u.l.drop f.l.length) (by rw [hf.ky, k2]) (by rw [hf.ky, k2]; exact hb.2) (by rw [hf.ky, k2, List.length_drop]; dsimp only; omega) (by rw [happ, hu.ok.ok]) (by rw [happ, hu.ok.ok, hf.ky, k2])
    rw [h5, happ, hu.ok.ok, hf.ky, k2, ← hu.ky]
  rw [htk, if_neg (show ¬ (0 : Nat) ≠ 0 from fun h => h rfl)]
  dsimp only
  refine ⟨set_tree h hnl hu (by rw [hfd]; exact hb) (fun _ => by rw [hud]; exact ⟨Nat.le_refl _, Int.le_refl _⟩), fun j hj => by rw [nodeT_set _ _ hnl, if_neg hj], fun _ _ => by rw [nodeT_set _ _ hnl, if_pos rfl]⟩
theorem all_tree {key : Int} {L : List Ent} {T : List Fol} {A : List Int} (h : TreeOk key L T A) : ∀ n, n ≤ T.length → TreeOk key L (allN T A n).2 A ∧ ∀ j, j < n → nodeT (allN T A n).2 j = nodeT T 0
  | 0, _ => ⟨h, fun _ hj => absurd hj (Nat.not_lt_zero _)⟩
  | n + 1, hn => by
    obtain ⟨h1, h2⟩ := all_tree h n (by omega)
    have hl := allN_len T A n
    obtain ⟨h3, h4, h5⟩ := poll_tree h1 (n : Int)
    rw [allN]
    dsimp only
    refine ⟨h3, fun j hj => ?_⟩
    by_cases hjn : j = n
    · subst hjn
      by_cases h0 : j = 0
      · subst h0
        unfold pollT
        rw [if_pos (.inl (by omega))]
        rfl
      · have h6 := h5 (by omega) (by omega)
        rw [Int.toNat_natCast] at h6
        rw [h6]
        exact h2 _ (h1.up j (by omega) (by omega))
    · rw [h4 j (by rw [Int.toNat_natCast]; exact hjn)]
      exact h2 j (by omega)
/-- Where all are the same, nobody takes anything. -/
theorem all_still {T : List Fol} {A : List Int} (h : ∀ j, j < T.length → nodeT T j = nodeT T 0) (hup : ∀ i, 1 ≤ i → i < T.length → upT A i < i) : ∀ n, n ≤ T.length → allN T A n = (0, T)
  | 0, _ => rfl
  | n + 1, hn => by
    have h1 := all_still h hup n (by omega)
    have h2 : pollT T A n = ((0, 2), T) ∨ pollT T A n = ((0, 5), T) ∨ pollT T A n = ((0, 12), T) := by
      unfold pollT
      by_cases h0 : (n : Int) < 1 ∨ (T.length : Int) ≤ n
      · rw [if_pos h0]; exact .inl rfl
      · rw [if_neg h0, Int.toNat_natCast, h n (by omega), h (upT A n) (by have := hup n (by omega) (by omega); omega)]
        by_cases h3 : (nodeT T 0).head = []
        · rw [if_pos h3]; exact .inr (.inl rfl)
        · rw [if_neg h3, if_pos rfl]; exact .inr (.inr rfl)
    rw [allN, h1]
    dsimp only
    rcases h2 with h2 | h2 | h2 <;> rw [h2] <;> rfl
end Go.Proofs.YtpkcndohjmpdeaaGreatDoor

/- A feed taken step by step ends as a feed taken at once: no program in sight. -/
namespace Go.Proofs.YtpkcndohjmpdeaaGreatDoor

/-- A follower that has the first n entries of L. -/
structure Mid (key : Int) (L : List Ent) (n : Nat) (g : Fol) : Prop where
  key : g.key = key
  le : n ≤ L.length
  l : g.l = L.take n
  t : g.time ≤ wasE L n
theorem mid_new (key : Int) (L : List Ent) : Mid key L 0 (newFol key) := ⟨rfl, Nat.zero_le _, rfl, by show -1 ≤ wasE L 0; unfold wasE; rw [if_pos rfl]; decide⟩
theorem floorsE_take {L : List Ent} (h : (floorsE L).2.1 = 0) (n : Nat) : (floorsE (L.take n)).2.1 = 0 := by
  have := floorsE_left (L := L.take n) (M := L.drop n) (by rw [List.take_append_drop]; exact h)
  exact this.1
theorem wasE_take {L : List Ent} {n : Nat} (hn : n ≤ L.length) : wasE (L.take n) (L.take n).length = wasE L n := by
  have hl : (L.take n).length = n := by rw [List.length_take]; omega
  rw [hl]
  unfold wasE
  by_cases h0 : n = 0
  · rw [if_pos h0, if_pos h0]
  · rw [if_neg h0, if_neg h0]
    have := getD_left (L.take n) (L.drop n) noEnt (i := n - 1) (by rw [hl]; omega)
    rw [List.take_append_drop] at this
    rw [this]
theorem mid_head {key : Int} {L : List Ent} {n : Nat} (hk : isKey key = true) (hf : (floorsE L).2.1 = 0) (hn : n ≤ L.length) : (headOf key (L.take n) (wasE L n)).2.1 = 0 := by
  have hc : (checkE L).1 = 0 := by rw [(floorsE_zero hf).1]
  have := wasE_bd hc hn
  exact headOf_of hk (floorsE_take hf n) this.1 this.2 (by rw [wasE_take hn]; exact Int.le_refl _)
theorem mid_step {key : Int} {L : List Ent} {have_ n : Nat} {g : Fol} (hM : Mid key L have_ g) (hk : isKey key = true) (hf : (floorsE L).2.1 = 0) (h : have_ ≤ n) (hn : n ≤ L.length) :
    takeF g (headOf key (L.take n) (wasE L n)).1 ((L.take n).drop have_) = (0, ⟨key, L.take n, (floorsE (L.take n)).1, wasE L n, (headOf key (L.take n) (wasE L n)).1⟩) ∧ Mid key L n ⟨key, L.take n, (floorsE (L.take n)).1, wasE L n, (headOf key (L.take n) (wasE L n)).1⟩ := by
  have hz := mid_head hk hf hn
  obtain ⟨_, _, _, _, _, _, ho⟩ := headOf_zero hz
  have hc : (checkE L).1 = 0 := by rw [(floorsE_zero hf).1]
  have hmono := wasE_mono hc h hn
  have hl : (L.take n).length = n := by rw [List.length_take]; omega
  have ht : L.take have_ = (L.take n).take have_ := by rw [List.take_take, Nat.min_eq_left h]
  have hcat : g.l ++ (L.take n).drop have_ = L.take n := by rw [hM.l, ht, List.take_append_drop]
  have hgl : g.l.length = have_ := by rw [hM.l, List.length_take]; have := hM.le; omega
  have hdl : ((L.take n).drop have_).length = n - have_ := by rw [List.length_drop, hl]
  have key' := hM.key
  subst key'
  have := takeF_of (f := g) (s := (headOf g.key (L.take n) (wasE L n)).1) (M := (L.take n).drop have_) (by rw [ho]) (by rw [ho]; have := hM.t; dsimp only; omega) (by rw [ho, hgl, hdl]; dsimp only; rw [hl]; omega) (by rw [hcat]; exact floorsE_take hf n) (by rw [hcat, ho])
  rw [this, hcat, ho]
  exact ⟨rfl, rfl, hn, rfl, Int.le_refl _⟩
theorem mid_last {key : Int} {L : List Ent} {have_ : Nat} {g : Fol} {time : Int} (hM : Mid key L have_ g) (hz : (headOf key L time).2.1 = 0) :
    takeF g (headOf key L time).1 (L.drop have_) = (0, ⟨key, L, (floorsE L).1, time, (headOf key L time).1⟩) := by
  obtain ⟨_, hf, _, _, hw, _, ho⟩ := headOf_zero hz
  have hc : (checkE L).1 = 0 := by rw [(floorsE_zero hf).1]
  have hmono := wasE_mono hc hM.le (Nat.le_refl L.length)
  have hcat : g.l ++ L.drop have_ = L := by rw [hM.l, List.take_append_drop]
  have hgl : g.l.length = have_ := by rw [hM.l, List.length_take]; have := hM.le; omega
  have hdl : (L.drop have_).length = L.length - have_ := List.length_drop
  have hle := hM.le
  have key' := hM.key
  subst key'
  have := takeF_of (f := g) (s := (headOf g.key L time).1) (M := L.drop have_) (by rw [ho]) (by rw [ho]; have := hM.t; dsimp only; omega) (by rw [ho, hgl, hdl]; dsimp only; omega) (by rw [hcat]; exact hf) (by rw [hcat, ho])
  rw [this, hcat, ho]
/-- All at once. -/
theorem mid_once {key : Int} {L : List Ent} {time : Int} (hz : (headOf key L time).2.1 = 0) : takeF (newFol key) (headOf key L time).1 L = (0, ⟨key, L, (floorsE L).1, time, (headOf key L time).1⟩) := by
  have := mid_last (mid_new key L) hz
  rw [List.drop_zero] at this
  exact this
end Go.Proofs.YtpkcndohjmpdeaaGreatDoor

/- Two followers side by side: lemmas. -/
namespace Go.Proofs.YtpkcndohjmpdeaaGreatDoor
open Go.RowKit

theorem below_keeps {w w1 w2 : World} {b : Nat} (h : Below w.heap.size w w1) (hb : w.heap.size ≤ b) (hk : Keeps (· = b) w1 w2) : Below w.heap.size w w2 :=
  ⟨hk.os.trans h.os, hk.tape.trans h.tape, hk.output.trans h.output, Nat.le_trans h.size hk.size, fun k hk' => (hk.block k (Nat.lt_of_lt_of_le hk' h.size) (fun e => by omega)).trans (h.block k hk')⟩
/-- Another follower is kept. -/
theorem FolAt.other {w w' : World} {base b b' : Nat} {f f' : Fol} (h : FolAt w base b f) (h' : FolAt w base b' f') (hne : b ≠ b') (hk : Keeps (· = b') w w') : FolAt w' base b f :=
  h.keeps hk hne (fun k hk => by
    obtain ⟨_, u, v, h1, _⟩ := h'
    subst hk
    exact ⟨_, h1⟩)
theorem FolAt.lt {w : World} {base b : Nat} {f : Fol} (h : FolAt w base b f) : b < w.heap.size := by
  obtain ⟨_, u, v, h1, _⟩ := h
  exact (Array.getElem?_eq_some_iff.1 h1).1
theorem FolAt.mono {w : World} {base base' b : Nat} {f : Fol} (h : FolAt w base b f) (hb : base' ≤ base) : FolAt w base' b f := by
  obtain ⟨h0, u, v, h1, h2, h3⟩ := h
  exact ⟨Nat.le_trans hb h0, u, v, h1, RowG.mono h2 hb, h3.mono hb⟩
/-- l[i:j]. -/
theorem ents_cut {w : World} {a : Option Addr} {c : Nat} {L : List Ent} (h : EntsAt w (.slice a L.length c) L) {n : Nat} (hn : n ≤ L.length) : EntsAt w (.slice a (L.take n).length c) (L.take n) := by
  have := AtG.take h hn
  rwa [show (L.take n).length = n by rw [List.length_take]; omega]
end Go.Proofs.YtpkcndohjmpdeaaGreatDoor
