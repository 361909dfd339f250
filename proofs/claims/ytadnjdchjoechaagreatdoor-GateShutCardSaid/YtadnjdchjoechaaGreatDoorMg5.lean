/- RelP, MapV, RowOwn, Mark0 -/
import Derived.Test.YtadnjdchjoechaaGreatDoorMg4
import Derived.MapKept
import Derived.WalkKit
import Derived.Deep.Draws
import Derived.Laws.AppendOwnNone
import Derived.Maps.AppendAt
import Derived.OwnWalk
import Derived.Test.YtadnjdchjoechaaGreatDoorProg
import Derived.Test.YtadnjdchjoechaaGreatDoorMg1
import Derived.WalkSpells
import Derived.WalkLawsBesides
import Derived.Lib.Hide
import Derived.Deep.QuietTactic
import Derived.BigQuiet
/- Plain definitions and lemmas about relays: no program in sight. -/
namespace Go.Proofs.YtadnjdchjoechaaGreatDoor

/-! News of a feed. -/
structure News where
  many : Int
  frm : Int
  time : Int
  key : Int
  text : List UInt8
def newsMany (L : List Ent) (n : News) : Nat := if n.many < 0 ∨ (L.length : Int) < n.many then L.length else n.many.toNat
def newsFrom (L : List Ent) (n : News) : Nat := if n.frm < 0 ∨ (newsMany L n : Int) < n.frm then newsMany L n else n.frm.toNat
def newsHead (L : List Ent) (n : News) : List UInt8 := if n.text = [] then (headOf n.key (L.take (newsMany L n)) n.time).1 else n.text
def newsEnts (L : List Ent) (n : News) : List Ent := (L.take (newsMany L n)).drop (newsFrom L n)
theorem newsMany_le (L : List Ent) (n : News) : newsMany L n ≤ L.length := by unfold newsMany; split <;> omega
theorem newsFrom_le (L : List Ent) (n : News) : newsFrom L n ≤ newsMany L n := by unfold newsFrom; split <;> omega
theorem openH_nil (key : Int) : (openH key []).2 ≠ 0 := by
  intro h
  unfold openH at h
  by_cases h1 : (openOf key []).2 = 0
  · obtain ⟨_, _, hd, e, _⟩ := open_shape h1
    have := congrArg List.length e
    simp at this
  · rw [if_neg h1] at h; exact absurd h h1

/-! One who follows one feed. -/
structure NodeOk (key : Int) (L : List Ent) (f : Fol) : Prop where
  ky : f.key = key
  pre : f.l = L.take f.l.length
  ok : FolOk f
  head : (f.head = [] ∧ f.l = [] ∧ f.time = -1 ∧ f.floors = []) ∨ (f.head ≠ [] ∧ openH key f.head = (⟨(f.l.length : Int), f.time, sumF f.floors⟩, 0))
theorem newNode (key : Int) (L : List Ent) : NodeOk key L (newFol key) := ⟨rfl, rfl, newFol_ok key, .inl ⟨rfl, rfl, rfl, rfl⟩⟩
/-- What is the same: entries as many, the same head. -/
theorem node_eq {key : Int} {L : List Ent} {f g : Fol} (hf : NodeOk key L f) (hg : NodeOk key L g) (h : f.head = g.head) : f = g := by
  have hl : f.l.length = g.l.length ∧ f.time = g.time := by
    rcases hf.head with ⟨h1, h2, h3, _⟩ | ⟨h1, h2⟩ <;> rcases hg.head with ⟨k1, k2, k3, _⟩ | ⟨k1, k2⟩
    · rw [h2, k2, h3, k3]; exact ⟨rfl, rfl⟩
    · exact absurd (h.symm.trans h1) k1
    · exact absurd (h.trans k1) h1
    · rw [h, k2] at h2
      injection h2 with h2 _
      injection h2 with e1 e2 _
      exact ⟨by omega, e2.symm⟩
  have h1 : f.l = g.l := by rw [hf.pre, hg.pre, hl.1]
  have h2 : f.floors = g.floors := by
    have a := hf.ok.ok
    rw [h1, hg.ok.ok] at a
    injection a with a _
    exact a.symm
  have h3 : f.key = g.key := hf.ky.trans hg.ky.symm
  cases f
  cases g
  simp_all
theorem take_node {key : Int} {L : List Ent} {f : Fol} (hf : NodeOk key L f) {s : List UInt8} {M : List Ent} (hpre : (takeF f s M).1 = 0 → f.l ++ M = L.take (f.l ++ M).length) (hs : s ≠ [] ∨ (takeF f s M).1 ≠ 0) :
    NodeOk key L (takeF f s M).2 ∧ f.l.length ≤ (takeF f s M).2.l.length ∧ f.time ≤ (takeF f s M).2.time := by
  by_cases h : (takeF f s M).1 = 0
  · obtain ⟨h1, h2, h3, h4, h5, h6⟩ := takeF_zero h
    have hp := hpre h
    have hok := take_ok hf.ok s M
    rw [h6] at hok ⊢
    refine ⟨⟨hf.ky, hp, hok, .inr ⟨?_, ?_⟩⟩, by dsimp only; rw [List.length_append]; omega, h2⟩
    · rcases hs with hs | hs
      · exact hs
      · exact absurd h hs
    · dsimp only
      rw [← hf.ky]
      refine Prod.ext ?_ h1
      rw [h5, List.length_append]
      generalize (openH f.key s).1 = x at *
      cases x
      simp only [Hd.mk.injEq, and_true]
      dsimp only at h3
      omega
  · rw [takeF_bad h]
    exact ⟨hf, Nat.le_refl _, Int.le_refl _⟩
/-- News taken. -/
theorem news_node {key : Int} {L : List Ent} {f : Fol} (hf : NodeOk key L f) (n : News) (hk : n.key = key) (ht : n.text = []) :
    NodeOk key L (takeF f (newsHead L n) (newsEnts L n)).2 ∧ f.l.length ≤ (takeF f (newsHead L n) (newsEnts L n)).2.l.length ∧ f.time ≤ (takeF f (newsHead L n) (newsEnts L n)).2.time := by
  have hh : newsHead L n = (headOf key (L.take (newsMany L n)) n.time).1 := by unfold newsHead; rw [if_pos ht, hk]
  by_cases hz : (headOf key (L.take (newsMany L n)) n.time).2.1 = 0
  · obtain ⟨_, _, _, _, _, h6, h7⟩ := headOf_zero hz
    have hm := newsMany_le L n
    have hfm := newsFrom_le L n
    have hlm : (L.take (newsMany L n)).length = newsMany L n := by rw [List.length_take]; omega
    refine take_node hf (fun h => ?_) (.inl fun e => ?_)
    · obtain ⟨h1, h2, h3, h4, h5, _⟩ := takeF_zero h
      rw [hf.ky, hh, h7, hlm] at h3
      dsimp only at h3
      have hle : (newsEnts L n).length = newsMany L n - newsFrom L n := by unfold newsEnts; rw [List.length_drop, hlm]
      have hfl : f.l.length = newsFrom L n := by omega
      have hp := hf.pre
      rw [hfl] at hp
      have he : f.l ++ newsEnts L n = L.take (newsMany L n) := by
        unfold newsEnts
        rw [hp]
        conv => rhs; rw [← List.take_append_drop (newsFrom L n) (L.take (newsMany L n))]
        rw [List.take_take, Nat.min_eq_left hfm]
      rw [he, hlm]
    · rw [hh] at e
      have := openH_nil key
      rw [← e, h7] at this
      exact this rfl
  · have he : newsHead L n = [] := by rw [hh]; exact headOf_bad hz
    refine take_node hf (fun h => ?_) (.inr fun h => ?_)
    all_goals
      have := (takeF_zero h).1
      rw [he] at this
      exact absurd this (openH_nil _)

/-! A tree. -/
def nodeT (T : List Fol) (i : Nat) : Fol := T.getD i (newFol 0)
def upT (A : List Int) (i : Nat) : Nat := (A.getD i 0).toNat
def pollT (T : List Fol) (A : List Int) (i : Int) : (Int × Nat) × List Fol :=
  if i < 1 ∨ (T.length : Int) ≤ i then ((0, 2), T)
  else if (nodeT T (upT A i.toNat)).head = [] then ((0, 5), T)
  else if (nodeT T (upT A i.toNat)).head = (nodeT T i.toNat).head then ((0, 12), T)
  else if (sinceE (nodeT T (upT A i.toNat)).l (nodeT T i.toNat).l.length).2.1 ≠ 0 then ((0, (sinceE (nodeT T (upT A i.toNat)).l (nodeT T i.toNat).l.length).2.1), T)
  else if (takeF (nodeT T i.toNat) (nodeT T (upT A i.toNat)).head (sinceE (nodeT T (upT A i.toNat)).l (nodeT T i.toNat).l.length).1).1 ≠ 0 then ((0, (takeF (nodeT T i.toNat) (nodeT T (upT A i.toNat)).head (sinceE (nodeT T (upT A i.toNat)).l (nodeT T i.toNat).l.length).1).1), T)
  else (((sinceE (nodeT T (upT A i.toNat)).l (nodeT T i.toNat).l.length).1.length, 0), T.set i.toNat (takeF (nodeT T i.toNat) (nodeT T (upT A i.toNat)).head (sinceE (nodeT T (upT A i.toNat)).l (nodeT T i.toNat).l.length).1).2)
/-- The first so many poll: how many took something. -/
def allN (T : List Fol) (A : List Int) : Nat → Nat × List Fol
  | 0 => (0, T)
  | n + 1 => (if (pollT (allN T A n).2 A n).1.2 = 0 then (allN T A n).1 + 1 else (allN T A n).1, (pollT (allN T A n).2 A n).2)
def allT (T : List Fol) (A : List Int) : Nat × List Fol := allN T A T.length
theorem pollT_len (T : List Fol) (A : List Int) (i : Int) : (pollT T A i).2.length = T.length := by
  unfold pollT
  split
  · rfl
  split
  · rfl
  split
  · rfl
  split
  · rfl
  split
  · rfl
  · simp
theorem allN_len (T : List Fol) (A : List Int) : ∀ n, (allN T A n).2.length = T.length
  | 0 => rfl
  | n + 1 => by rw [allN, pollT_len, allN_len T A n]
theorem allN_le (T : List Fol) (A : List Int) : ∀ n, (allN T A n).1 ≤ n
  | 0 => Nat.le_refl _
  | n + 1 => by
    rw [allN]
    have := allN_le T A n
    dsimp only
    split <;> omega
structure TreeOk (key : Int) (L : List Ent) (T : List Fol) (A : List Int) : Prop where
  len : A.length = T.length
  pos : 0 < T.length
  up : ∀ i, 1 ≤ i → i < T.length → upT A i < i
  node : ∀ i, i < T.length → NodeOk key L (nodeT T i)
  below : ∀ i, 1 ≤ i → i < T.length → (nodeT T i).l.length ≤ (nodeT T (upT A i)).l.length ∧ (nodeT T i).time ≤ (nodeT T (upT A i)).time
theorem nodeT_set {T : List Fol} {i : Nat} (f : Fol) (j : Nat) (h : i < T.length) : nodeT (T.set i f) j = if j = i then f else nodeT T j := by
  unfold nodeT
  rw [List.getD_eq_getElem?_getD, List.getD_eq_getElem?_getD, List.getElem?_set]
  by_cases hj : j = i
  · subst hj
    simp [h]
  · simp [hj, Ne.symm hj]
theorem set_tree {key : Int} {L : List Ent} {T : List Fol} {A : List Int} (h : TreeOk key L T A) {i : Nat} (hi : i < T.length) {f : Fol} (hf : NodeOk key L f) (h1 : (nodeT T i).l.length ≤ f.l.length ∧ (nodeT T i).time ≤ f.time)
    (h2 : 1 ≤ i → f.l.length ≤ (nodeT T (upT A i)).l.length ∧ f.time ≤ (nodeT T (upT A i)).time) : TreeOk key L (T.set i f) A := by
  refine ⟨by rw [List.length_set]; exact h.len, by rw [List.length_set]; exact h.pos, fun j a b => h.up j a (by rwa [List.length_set] at b), fun j hj => ?_, fun j a b => ?_⟩
  · rw [List.length_set] at hj
    rw [nodeT_set _ _ hi]
    split
    · exact hf
    · exact h.node j hj
  · rw [List.length_set] at b
    rw [nodeT_set _ _ hi, nodeT_set _ _ hi]
    have hup := h.up j a b
    have hb := h.below j a b
    by_cases hj : j = i
    · subst hj
      rw [if_pos rfl, if_neg (by omega)]
      exact h2 a
    · rw [if_neg hj]
      by_cases hu : upT A j = i
      · rw [if_pos hu]
        rw [hu] at hb
        omega
      · rw [if_neg hu]
        exact hb
/-- One poll: the tree is right behind it; who polled has what the one above has; nobody else turned. -/
theorem poll_tree {key : Int} {L : List Ent} {T : List Fol} {A : List Int} (h : TreeOk key L T A) (i : Int) :
    TreeOk key L (pollT T A i).2 A ∧ (∀ j, j ≠ i.toNat → nodeT (pollT T A i).2 j = nodeT T j) ∧ (1 ≤ i → i < T.length → nodeT (pollT T A i).2 i.toNat = nodeT T (upT A i.toNat)) := by
  by_cases h0 : i < 1 ∨ (T.length : Int) ≤ i
  · unfold pollT
    rw [if_pos h0]
    exact ⟨h, fun _ _ => rfl, fun a b => by omega⟩
  obtain ⟨n, rfl⟩ := Int.eq_ofNat_of_zero_le (show 0 ≤ i by omega)
  have hn1 : 1 ≤ n := by omega
  have hnl : n < T.length := by omega
  have hup := h.up n hn1 hnl
  have hf := h.node n hnl
  have hu := h.node (upT A n) (by omega)
  have hb := h.below n hn1 hnl
  rw [Int.toNat_natCast]
  generalize hfd : nodeT T n = f at *
  generalize hud : nodeT T (upT A n) = u at *
  have hp : pollT T A (n : Int) = (if u.head = [] then ((0, 5), T) else if u.head = f.head then ((0, 12), T) else if (sinceE u.l f.l.length).2.1 ≠ 0 then ((0, (sinceE u.l f.l.length).2.1), T)
      else if (takeF f u.head (sinceE u.l f.l.length).1).1 ≠ 0 then ((0, (takeF f u.head (sinceE u.l f.l.length).1).1), T) else (((sinceE u.l f.l.length).1.length, 0), T.set n (takeF f u.head (sinceE u.l f.l.length).1).2) : (Int × Nat) × List Fol) := by
    unfold pollT
    rw [if_neg h0, Int.toNat_natCast, hfd, hud]
  rw [hp]
  by_cases h1 : u.head = []
  · rw [if_pos h1]
    refine ⟨h, fun _ _ => rfl, fun _ _ => ?_⟩
    rw [hfd]
    refine node_eq hf hu ?_
    rcases hu.head with ⟨_, k2, k3, _⟩ | ⟨k1, _⟩
    · rcases hf.head with ⟨q1, _⟩ | ⟨q1, q2⟩
      · rw [q1, h1]
      · have := openH_time (key := key) (s := f.head) (by rw [q2])
        rw [q2] at this
        dsimp only at this
        omega
    · exact absurd h1 k1
  rw [if_neg h1]
  by_cases h2 : u.head = f.head
  · rw [if_pos h2]
    exact ⟨h, fun _ _ => rfl, fun _ _ => by rw [hfd]; exact node_eq hf hu h2.symm⟩
  rw [if_neg h2]
  rcases hu.head with ⟨k1, _⟩ | ⟨_, k2⟩
  · exact absurd k1 h1
  have huc : checkE u.l = (0, -1) := (floorsE_zero (L := u.l) (by rw [hu.ok.ok])).1
  have hs := (sinceE_of (L := u.l) (by rw [huc]) (f.l.length : Int)).2 (by omega) (by omega)
  rw [hs, Int.toNat_natCast]
  dsimp only
  rw [if_neg (by decide)]
  have happ : f.l ++ u.l.drop f.l.length = u.l := by
    have : f.l = u.l.take f.l.length := by
      conv => lhs; rw [hf.pre]
      rw [hu.pre, List.take_take, Nat.min_eq_left hb.1]
    conv => lhs; lhs; rw [this]
    exact List.take_append_drop _ _
  have htk : takeF f u.head (u.l.drop f.l.length) = (0, u) := by
    have h5 := takeF_of (f := f) (s := u.head) (M := u.l.drop f.l.length) (by rw [hf.ky, k2]) (by rw [hf.ky, k2]; exact hb.2) (by rw [hf.ky, k2, List.length_drop]; dsimp only; omega) (by rw [happ, hu.ok.ok]) (by rw [happ, hu.ok.ok, hf.ky, k2])
    rw [h5, happ, hu.ok.ok, hf.ky, k2, ← hu.ky]
  rw [htk, if_neg (show ¬ (0 : Nat) ≠ 0 from fun h => h rfl)]
  dsimp only
  refine ⟨set_tree h hnl hu (by rw [hfd]; exact hb) (fun _ => by rw [hud]; exact ⟨Nat.le_refl _, Int.le_refl _⟩), fun j hj => by rw [nodeT_set _ _ hnl, if_neg hj], fun _ _ => by rw [nodeT_set _ _ hnl, if_pos rfl]⟩
theorem all_tree {key : Int} {L : List Ent} {T : List Fol} {A : List Int} (h : TreeOk key L T A) : ∀ n, n ≤ T.length → TreeOk key L (allN T A n).2 A ∧ ∀ j, j < n → nodeT (allN T A n).2 j = nodeT T 0
  | 0, _ => ⟨h, fun _ hj => absurd hj (Nat.not_lt_zero _)⟩
  | n + 1, hn => by
    obtain ⟨h1, h2⟩ := all_tree h n (by omega)
    have hl := allN_len T A n
    obtain ⟨h3, h4, h5⟩ := poll_tree h1 (n : Int)
    rw [allN]
    dsimp only
    refine ⟨h3, fun j hj => ?_⟩
    by_cases hjn : j = n
    · subst hjn
      by_cases h0 : j = 0
      · subst h0
        unfold pollT
        rw [if_pos (.inl (by omega))]
        rfl
      · have h6 := h5 (by omega) (by omega)
        rw [Int.toNat_natCast] at h6
        rw [h6]
        exact h2 _ (h1.up j (by omega) (by omega))
    · rw [h4 j (by rw [Int.toNat_natCast]; exact hjn)]
      exact h2 j (by omega)
/-- Where all are the same, nobody takes anything. -/
theorem all_still {T : List Fol} {A : List Int} (h : ∀ j, j < T.length → nodeT T j = nodeT T 0) (hup : ∀ i, 1 ≤ i → i < T.length → upT A i < i) : ∀ n, n ≤ T.length → allN T A n = (0, T)
  | 0, _ => rfl
  | n + 1, hn => by
    have h1 := all_still h hup n (by omega)
    have h2 : pollT T A n = ((0, 2), T) ∨ pollT T A n = ((0, 5), T) ∨ pollT T A n = ((0, 12), T) := by
      unfold pollT
      by_cases h0 : (n : Int) < 1 ∨ (T.length : Int) ≤ n
      · rw [if_pos h0]; exact .inl rfl
      · rw [if_neg h0, Int.toNat_natCast, h n (by omega), h (upT A n) (by have := hup n (by omega) (by omega); omega)]
        by_cases h3 : (nodeT T 0).head = []
        · rw [if_pos h3]; exact .inr (.inl rfl)
        · rw [if_neg h3, if_pos rfl]; exact .inr (.inr rfl)
    rw [allN, h1]
    dsimp only
    rcases h2 with h2 | h2 | h2 <;> rw [h2] <;> rfl
end Go.Proofs.YtadnjdchjoechaaGreatDoor

/- A Go map as a list of keys with values: what a look-up, a store, delete and len do, of whatever program. -/
namespace Go.Proofs.YtadnjdchjoechaaGreatDoor
open Go.RowKit Go.MapKept

/-- Block r is a map that holds just these keys and values, in the order in which they came. -/
def MapV (d : TypeDesc) (w : World) (r : Nat) (l : List (Value × Value)) : Prop :=
  ∃ es clock, w.heap[r]? = some (.map es clock) ∧ Stamped es clock ∧ (∀ x ∈ es.toList, IsKey d x.key) ∧ es.toList.map (fun e => (e.key, e.val)) = l

/-- Of the blocks that there were all but those of S are as they were. -/
structure Keeps (S : Nat → Prop) (w w' : World) : Prop where
  os : w'.os = w.os
  tape : w'.tape = w.tape
  output : w'.output = w.output
  size : w.heap.size ≤ w'.heap.size
  block : ∀ k, k < w.heap.size → ¬ S k → w'.heap[k]? = w.heap[k]?
theorem Keeps.refl (S : Nat → Prop) (w : World) : Keeps S w w := ⟨rfl, rfl, rfl, Nat.le_refl _, fun _ _ _ => rfl⟩
theorem Keeps.of_below {S : Nat → Prop} {w w' : World} (h : Below w.heap.size w w') : Keeps S w w' := ⟨h.os, h.tape, h.output, h.size, fun k hk _ => h.block k hk⟩
theorem Keeps.trans {S : Nat → Prop} {a b c : World} (h : Keeps S a b) (k : Keeps S b c) : Keeps S a c :=
  ⟨k.os.trans h.os, k.tape.trans h.tape, k.output.trans h.output, Nat.le_trans h.size k.size, fun i hi hs => (k.block i (Nat.lt_of_lt_of_le hi h.size) hs).trans (h.block i hi hs)⟩
theorem Keeps.mono {S T : Nat → Prop} {w w' : World} (h : Keeps S w w') (hst : ∀ k, S k → T k) : Keeps T w w' :=
  ⟨h.os, h.tape, h.output, h.size, fun k hk hs => h.block k hk (fun hS => hs (hst k hS))⟩
theorem Keeps.below {S : Nat → Prop} {w w' : World} (h : Keeps S w w') {B : Nat} (hB : B ≤ w.heap.size) (hS : ∀ k, S k → B ≤ k) : Below B w w' :=
  ⟨h.os, h.tape, h.output, h.size, fun k hk => h.block k (Nat.lt_of_lt_of_le hk hB) (fun hs => by have := hS k hs; omega)⟩
theorem Keeps.obj {S : Nat → Prop} {w w' : World} (h : Keeps S w w') {b : Nat} {o : Obj} (hb : w.heap[b]? = some o) (hs : ¬ S b) : w'.heap[b]? = some o :=
  (h.block b (Array.getElem?_eq_some_iff.1 hb).1 hs).trans hb
theorem Keeps.cell {S : Nat → Prop} {w w' : World} (h : Keeps S w w') {a : Addr} {v : Value} (hc : w.cell? a = some v) (hs : ¬ S a.block) : w'.cell? a = some v :=
  (World.cell?_of_block (w := w) (h.block a.block (World.block_lt_of_cell? w a hc) hs)).trans hc
theorem Keeps.drew {S : Nat → Prop} {a w : World} (h : Keeps S a w) (n : Nat) : Keeps S a (w.drewN n) := ⟨h.os, h.tape, h.output, h.size, h.block⟩

section
variable {P : Program} {d : TypeDesc} {w : World} {r : Nat} {l : List (Value × Value)} {T K E : TypeId}

theorem MapV.keys_nodup (h : MapV d w r l) : (l.map Prod.fst).Nodup := by
  obtain ⟨es, clock, hb, hs, hk, rfl⟩ := h
  have := hs.2.2
  simpa [Function.comp_def] using this
theorem MapV.key (h : MapV d w r l) : ∀ p ∈ l, IsKey d p.1 := by
  obtain ⟨es, clock, hb, hs, hk, rfl⟩ := h
  intro p hp
  obtain ⟨e, he, rfl⟩ := List.mem_map.1 hp
  exact hk e he
theorem MapV.lt (h : MapV d w r l) : r < w.heap.size := by
  obtain ⟨es, clock, hb, _⟩ := h
  exact (Array.getElem?_eq_some_iff.1 hb).1
theorem MapV.keeps {S : Nat → Prop} {w' : World} (h : MapV d w r l) (hk : Keeps S w w') (hs : ¬ S r) : MapV d w' r l := by
  obtain ⟨es, clock, hb, rest⟩ := h
  exact ⟨es, clock, hk.obj hb hs, rest⟩
theorem MapV.below {w' : World} (h : MapV d w r l) (hk : Below w.heap.size w w') : MapV d w' r l :=
  h.keeps (S := fun _ => False) (Keeps.of_below hk) (fun h => h)
theorem MapV.new (w : World) : MapV d (w.alloc (.map #[] 0)) w.heap.size [] :=
  ⟨#[], 0, (MapKept.heap_alloc w _).1, stamped_empty 0, by simp, by simp⟩

theorem findNow_mem {k v : Value} {es : Array MapEntry} {clock : Nat} (hs : Stamped es clock) (hk : ∀ x ∈ es.toList, IsKey d x.key) (hkk : IsKey d k) (hm : (k, v) ∈ es.toList.map (fun e => (e.key, e.val))) :
    ∃ j e, Instr.findNow d k es.toList 0 = some (some (j, v)) ∧ es[j]? = some e ∧ e.key = k ∧ e.val = v := by
  obtain ⟨e0, he0, heq⟩ := List.mem_map.1 hm
  cases heq
  rcases findNow_spec hkk es.toList 0 hk with ⟨_, h2⟩ | ⟨j, e, h1, h2, h3⟩
  · exact absurd rfl (h2 e0 he0)
  · have hee : e = e0 := by
      obtain ⟨j0, hj0⟩ := List.mem_iff_getElem?.1 he0
      have hnd := hs.2.2
      have hj : (es.toList.map (·.key))[j]? = some e.key := by rw [List.getElem?_map, h2]; rfl
      have hj0' : (es.toList.map (·.key))[j0]? = some e.key := by rw [List.getElem?_map, hj0, h3]; rfl
      have hlt : j < (es.toList.map (·.key)).length := (List.getElem?_eq_some_iff.1 hj).1
      have := (List.getElem?_inj hlt hnd).1 (hj.trans hj0'.symm)
      subst this
      rw [h2] at hj0
      exact Option.some.inj hj0
    subst hee
    refine ⟨j, e, ?_, by simpa using h2, h3, rfl⟩
    rw [h1, Nat.zero_add]
theorem findNow_not {k : Value} {es : Array MapEntry} (hk : ∀ x ∈ es.toList, IsKey d x.key) (hkk : IsKey d k) (hn : ∀ v, (k, v) ∉ es.toList.map (fun e => (e.key, e.val))) :
    Instr.findNow d k es.toList 0 = some none ∧ ∀ x ∈ es.toList, x.key ≠ k := by
  rcases findNow_spec hkk es.toList 0 hk with h | ⟨j, e, h1, h2, h3⟩
  · exact h
  · exact absurd (List.mem_map.2 ⟨e, List.mem_of_getElem? h2, by rw [h3]⟩) (hn e.val)

theorem run_lookup_mem (hT : P.underlying T = some (.map K E)) (hK : P.underlying K = some d) (h : MapV d w r l) {k v : Value} (hkk : IsKey d k) (hm : (k, v) ∈ l) :
    (Instr.lookup T (.map (some r)) k true).run P w = .ok (.tuple #[v, .bool true]) w ∧ (Instr.lookup T (.map (some r)) k false).run P w = .ok v w := by
  obtain ⟨es, clock, hb, hs, hk, rfl⟩ := h
  obtain ⟨j, e, h1, _⟩ := findNow_mem hs hk hkk hm
  constructor
  · simp [Instr.lookup, run_underlying hT, MapKept.run_getObj_map hb, MapKept.run_checkKey hK hkk, MapKept.run_findKey hK h1, Result.andThen]
  · simp [Instr.lookup, run_underlying hT, MapKept.run_getObj_map hb, MapKept.run_checkKey hK hkk, MapKept.run_findKey hK h1, Result.andThen]
theorem run_lookup_not (hT : P.underlying T = some (.map K E)) (hK : P.underlying K = some d) (h : MapV d w r l) {k z : Value} (hkk : IsKey d k) (hn : ∀ v, (k, v) ∉ l) (hz : (zeroValue E).run P w = .ok z w) :
    (Instr.lookup T (.map (some r)) k true).run P w = .ok (.tuple #[z, .bool false]) w := by
  obtain ⟨es, clock, hb, hs, hk, rfl⟩ := h
  have h1 := (findNow_not hk hkk hn).1
  simp [Instr.lookup, run_underlying hT, MapKept.run_getObj_map hb, MapKept.run_checkKey hK hkk, MapKept.run_findKey hK h1, Result.andThen, hz]

/-- A world in which block r is another object. -/
def setObjAt (w : World) (r : Nat) (o : Obj) : World := { w with heap := w.heap.setIfInBounds r o }
theorem Keeps.ofSet (w : World) (r : Nat) (o : Obj) : Keeps (· = r) w (setObjAt w r o) :=
  ⟨rfl, rfl, rfl, by simp [setObjAt], fun k _ hs => by simp [setObjAt, Ne.symm hs]⟩

theorem run_update_mem (hT : P.underlying T = some (.map K E)) (hK : P.underlying K = some d) (h : MapV d w r l) {k v u : Value} (hkk : IsKey d k) (hm : (k, v) ∈ l) :
    ∃ w', (Instr.mapUpdate T (.map (some r)) k u).run P w = .ok () w' ∧ Keeps (· = r) w w' ∧ w'.heap.size = w.heap.size ∧ ∃ j, l[j]? = some (k, v) ∧ MapV d w' r (l.set j (k, u)) := by
  obtain ⟨es, clock, hb, hs, hk, rfl⟩ := h
  obtain ⟨j, e, h1, hj, h3, h4⟩ := findNow_mem hs hk hkk hm
  have hlt : r < w.heap.size := (Array.getElem?_eq_some_iff.1 hb).1
  have hkey : ∀ e', es[j]? = some e' → ({ e' with key := k, val := u } : MapEntry).key = e'.key := fun e' he' => by rw [hj] at he'; cases he'; exact h3.symm
  refine ⟨setObjAt w r (.map (es.modify j fun e => { e with key := k, val := u }) clock), ?_, Keeps.ofSet _ _ _, by simp [setObjAt], j, ?_, ?_⟩
  · simp [Instr.mapUpdate, run_underlying hT, MapKept.run_getObj_map hb, MapKept.run_checkKey hK hkk, MapKept.run_findKey hK h1, hj, h3, MapKept.run_keyThatStays hkk, MapKept.run_setObj_map _ hb, Result.andThen]
    rfl
  · rw [List.getElem?_map, show es.toList[j]? = some e by simpa using hj]
    simp [h3, h4]
  · refine ⟨es.modify j fun e => { e with key := k, val := u }, clock, by simp [setObjAt, hlt], stamped_modify hs j (fun e => { e with key := k, val := u }) (fun _ _ => rfl) (fun e' _ he' => hkey e' he'), isKey_modify hk j (fun e => { e with key := k, val := u }) hkey, ?_⟩
    apply List.ext_getElem?
    intro i
    rw [List.getElem?_map, List.getElem?_set, List.getElem?_map]
    simp only [Array.getElem?_toList, Array.getElem?_modify]
    by_cases hij : j = i
    · subst hij
      rw [if_pos rfl, hj, if_pos rfl]
      have : j < es.size := (Array.getElem?_eq_some_iff.1 hj).1
      simp [this]
    · rw [if_neg hij, if_neg hij]
theorem run_update_not (hT : P.underlying T = some (.map K E)) (hK : P.underlying K = some d) (h : MapV d w r l) {k u : Value} (hkk : IsKey d k) (hn : ∀ v, (k, v) ∉ l) :
    ∃ w', (Instr.mapUpdate T (.map (some r)) k u).run P w = .ok () w' ∧ Keeps (· = r) w w' ∧ w'.heap.size = w.heap.size ∧ MapV d w' r (l ++ [(k, u)]) := by
  obtain ⟨es, clock, hb, hs, hk, rfl⟩ := h
  obtain ⟨h1, h2⟩ := findNow_not hk hkk hn
  have hlt : r < w.heap.size := (Array.getElem?_eq_some_iff.1 hb).1
  refine ⟨setObjAt w r (.map (es.push { key := k, val := u, born := clock }) (clock + 1)), ?_, Keeps.ofSet _ _ _, by simp [setObjAt], ?_⟩
  · simp [Instr.mapUpdate, run_underlying hT, MapKept.run_getObj_map hb, MapKept.run_checkKey hK hkk, MapKept.run_findKey hK h1, MapKept.run_setObj_map _ hb, Result.andThen]
    rfl
  · refine ⟨es.push { key := k, val := u, born := clock }, clock + 1, by simp [setObjAt, hlt], stamped_push hs h2, ?_, by simp⟩
    intro x hx
    simp only [Array.toList_push, List.mem_append, List.mem_singleton] at hx
    rcases hx with hx | rfl
    · exact hk x hx
    · exact hkk
end
end Go.Proofs.YtadnjdchjoechaaGreatDoor

/- Rows of one's own in memory: stores into them, what keeps them; no program's function. -/
namespace Go.Proofs.YtadnjdchjoechaaGreatDoor
open Go.RowKit

/-- A store into a row of its own. -/
theorem ownsRow_setCell {w : World} {base g cap n size : Nat} {e : TypeId} {xs : List Value} (h : w.ownsRow base e size (.slice (some ⟨g, 0, none⟩) n cap) n xs) (i : Nat) (u : Value) :
    (w.setCell ⟨g, i, none⟩ u).ownsRow base e size (.slice (some ⟨g, 0, none⟩) n cap) n (xs.set i u) := by
  obtain ⟨hl, ⟨h1, _⟩ | ⟨g', cap', cur, he, hb, hg, hc, hm, hsz, ht⟩⟩ := h
  · cases h1
  · cases he
    refine ⟨by rw [List.length_set]; exact hl, .inr ⟨g, cap, cur.setIfInBounds i u, rfl, hb, heap_setCell_same w g i cur e u hg, hc, hm, by simpa using hsz, ?_⟩⟩
    rw [← ht]
    simp [List.take_set]
theorem ownsRow_other {w : World} {base n size : Nat} {e : TypeId} {v : Value} {xs : List Value} (h : w.ownsRow base e size v n xs) (a : Addr) (u : Value) (hne : ∀ g, v.ownBlock = some g → g ≠ a.block) :
    (w.setCell a u).ownsRow base e size v n xs := by
  obtain ⟨hl, h1 | ⟨g', cap', cur, he, hb, hg, hc, hm, hsz, ht⟩⟩ := h
  · exact ⟨hl, .inl h1⟩
  · subst he
    exact ⟨hl, .inr ⟨g', cap', cur, rfl, hb, (heap_setCell_other w a g' u (hne g' rfl)).trans hg, hc, hm, hsz, ht⟩⟩
theorem ownsRow_keeps {S : Nat → Prop} {w w' : World} {base n size : Nat} {e : TypeId} {v : Value} {xs : List Value} (h : w.ownsRow base e size v n xs) (hk : Keeps S w w') (hs : ∀ g, v.ownBlock = some g → ¬ S g) :
    w'.ownsRow base e size v n xs := by
  obtain ⟨hl, h1 | ⟨g', cap', cur, he, hb, hg, hc, hm, hsz, ht⟩⟩ := h
  · exact ⟨hl, .inl h1⟩
  · subst he
    exact ⟨hl, .inr ⟨g', cap', cur, rfl, hb, hk.obj hg (hs g' rfl), hc, hm, hsz, ht⟩⟩
/-- Of what type a row's block is. -/
theorem ownsRow_block {w : World} {base n size g : Nat} {e : TypeId} {v : Value} {xs : List Value} (h : w.ownsRow base e size v n xs) (hg : v.ownBlock = some g) : base ≤ g ∧ ∃ cs, w.heap[g]? = some (.cells cs e (0, 0)) := by
  obtain ⟨hl, ⟨rfl, _⟩ | ⟨g', cap', cur, rfl, hb, hg', hc, hm, hsz, ht⟩⟩ := h
  · cases hg
  · cases hg
    exact ⟨hb, cur, hg'⟩
theorem ownsRow_mono {w : World} {base base' : Nat} {e : TypeId} {size : Nat} {v : Value} {n : Nat} {xs : List Value} (h : w.ownsRow base e size v n xs) (hb : base' ≤ base) : w.ownsRow base' e size v n xs :=
  ⟨h.1, h.2.imp id fun ⟨g, cap, cur, h1, h2, h3⟩ => ⟨g, cap, cur, h1, Nat.le_trans hb h2, h3⟩⟩
theorem keeps_setCell {S : Nat → Prop} (w : World) (a : Addr) (u : Value) (ha : S a.block) : Keeps S w (w.setCell a u) :=
  let h := (Below.refl 0 w).setCell (p := a) (Nat.zero_le _) u
  ⟨h.os, h.tape, h.output, h.size, fun k _ hs => heap_setCell_other w a k u (fun e => hs (by rw [e]; exact ha))⟩
end Go.Proofs.YtadnjdchjoechaaGreatDoor

/- Errors as values, the sentinels' variables, small lemmas, mark.Key. -/
namespace Go.Proofs.YtadnjdchjoechaaGreatDoor
open Go.RowKit

/-- An error by its number (0: nil). -/
def errV (E : Nat → Addr) : Nat → Value
  | 0 => .nilIface
  | c + 1 => .iface 265 (.pointer (some (E (c + 1))))
theorem errV_zero (E : Nat → Addr) : errV E 0 = .nilIface := rfl
theorem errV_succ (E : Nat → Addr) (c : Nat) : errV E (c + 1) = .iface 265 (.pointer (some (E (c + 1)))) := rfl

/-- The sentinels of package api lie at E, each in a row of its own. -/
structure Laid (E : Nat → Addr) (w : World) : Prop where
  e1 : w.cell? ⟨8, 0, none⟩ = some (errV E 1)
  e2 : w.cell? ⟨2, 0, none⟩ = some (errV E 2)
  e3 : w.cell? ⟨7, 0, none⟩ = some (errV E 3)
  e4 : w.cell? ⟨0, 0, none⟩ = some (errV E 4)
  e5 : w.cell? ⟨11, 0, none⟩ = some (errV E 5)
  e6 : w.cell? ⟨12, 0, none⟩ = some (errV E 6)
  e7 : w.cell? ⟨13, 0, none⟩ = some (errV E 7)
  e8 : w.cell? ⟨14, 0, none⟩ = some (errV E 8)
  e9 : w.cell? ⟨10, 0, none⟩ = some (errV E 9)
  e10 : w.cell? ⟨1, 0, none⟩ = some (errV E 10)
  e11 : w.cell? ⟨5, 0, none⟩ = some (errV E 11)
  e12 : w.cell? ⟨6, 0, none⟩ = some (errV E 12)
  e13 : w.cell? ⟨3, 0, none⟩ = some (errV E 13)
  e14 : w.cell? ⟨4, 0, none⟩ = some (errV E 14)
  e15 : w.cell? ⟨9, 0, none⟩ = some (errV E 15)
  e16 : w.cell? ⟨15, 0, none⟩ = some (errV E 16)
theorem cell_below {w w' : World} (hb : Below w.heap.size w w') {a : Addr} {v : Value} (h : w.cell? a = some v) : w'.cell? a = some v :=
  (hb.cell (World.block_lt_of_cell? w a h)).trans h
theorem Laid.below {E : Nat → Addr} {w w' : World} (h : Laid E w) (hb : Below w.heap.size w w') : Laid E w' where
  e1 := cell_below hb h.e1
  e2 := cell_below hb h.e2
  e3 := cell_below hb h.e3
  e4 := cell_below hb h.e4
  e5 := cell_below hb h.e5
  e6 := cell_below hb h.e6
  e7 := cell_below hb h.e7
  e8 := cell_below hb h.e8
  e9 := cell_below hb h.e9
  e10 := cell_below hb h.e10
  e11 := cell_below hb h.e11
  e12 := cell_below hb h.e12
  e13 := cell_below hb h.e13
  e14 := cell_below hb h.e14
  e15 := cell_below hb h.e15
  e16 := cell_below hb h.e16
theorem below_drawn {B : Nat} {a w : World} (h : Below B a w) (n : Nat) : Below B a (w.drewN n) := ⟨h.os, h.tape, h.output, h.size, h.block⟩
theorem below_trans {w w1 w2 : World} (h : Below w.heap.size w w1) (h' : Below w1.heap.size w1 w2) : Below w.heap.size w w2 := h.trans (h'.mono h.size)
theorem ret_int {a b : Int} (h : a = b) : Ending.returned (.int .i64 a) = .returned (.int .i64 b) := by rw [h]
theorem ret_bool {a b : Bool} (h : a = b) : Ending.returned (.bool a) = .returned (.bool b) := by rw [h]
theorem ret_int2 {a b : Int} {v : Value} (h : a = b) : Ending.returned (.tuple #[.int .i64 a, v]) = .returned (.tuple #[.int .i64 b, v]) := by rw [h]
theorem key_any (k : Int) (w : World) :
    Calls Tryz.prog 31 #[.int .i64 k] w fun e w' => e = .returned (.bool (isKey k)) ∧ w = w' := by
  unfold isKey
  by_cases h : 1 ≤ k <;> by_cases h2 : k ≤ 1000000006
  all_goals
    go_enter Tryz.func31, Tryz.ntmps31
    go_wp2
    go_ret
    exact ⟨by simp [h, h2], rfl⟩
end Go.Proofs.YtadnjdchjoechaaGreatDoor
