/- RelP, FolY, NumArg, RelM -/
import Derived.Test.YtfbndfkahodheaaGreatDoorMg7
import Derived.Test.YtfbndfkahodheaaGreatDoorMg21
import Derived.Deep.RegionHeld3
import Derived.Test.YtfbndfkahodheaaGreatDoorMg9
import Derived.Test.YtfbndfkahodheaaGreatDoorMg22
/- Plain definitions and lemmas about relays: no program in sight. -/
namespace Go.Proofs.YtfbndfkahodheaaGreatDoor

/-! News of a feed. -/
structure News where
  many : Int
  frm : Int
  time : Int
  key : Int
  text : List UInt8
def newsMany (L : List Ent) (n : News) : Nat := if n.many < 0 ∨ (L.length : Int) < n.many then L.length else n.many.toNat
def newsFrom (L : List Ent) (n : News) : Nat := if n.frm < 0 ∨ (newsMany L n : Int) < n.frm then newsMany L n else n.frm.toNat
def newsHead (L : List Ent) (n : News) : List UInt8 := if n.text = [] then (headOf n.key (L.take (newsMany L n)) n.time).1 else n.text
def newsEnts (L : List Ent) (n : News) : List Ent := (L.take (newsMany L n)).drop (newsFrom L n)
theorem newsMany_le (L : List Ent) (n : News) : newsMany L n ≤ L.length := by unfold newsMany; split <;> omega
theorem newsFrom_le (L : List Ent) (n : News) : newsFrom L n ≤ newsMany L n := by unfold newsFrom; split <;> omega
theorem openH_nil (key : Int) : (openH key []).2 ≠ 0 := by
  intro h
  unfold openH at h
  by_cases h1 : (openOf key []).2 = 0
  · obtain ⟨_, _, hd, e, _⟩ := open_shape h1
    have := congrArg List.length e
    simp at this
  · rw [if_neg h1] at h; exact absurd h h1

/-! One who follows one feed. -/
structure NodeOk (key : Int) (L : List Ent) (f : Fol) : Prop where
  ky : f.key = key
  pre : f.l = L.take f.l.length
  ok : FolOk f
  head : (f.head = [] ∧ f.l = [] ∧ f.time = -1 ∧ f.floors = []) ∨ (f.head ≠ [] ∧ openH key f.head = (⟨(f.l.length : Int), f.time, sumF f.floors⟩, 0))
theorem newNode (key : Int) (L : List Ent) : NodeOk key L (newFol key) := ⟨rfl, rfl, newFol_ok key, .inl ⟨rfl, rfl, rfl, rfl⟩⟩
/-- What is the same: entries as many, the same head. -/
theorem node_eq {key : Int} {L : List Ent} {f g : Fol} (hf : NodeOk key L f) (hg : NodeOk key L g) (h : f.head = g.head) : f = g := by
  have hl : f.l.length = g.l.length ∧ f.time = g.time := by
    rcases hf.head with ⟨h1, h2, h3, _⟩ | ⟨h1, h2⟩ <;> rcases hg.head with ⟨k1, k2, k3, _⟩ | ⟨k1, k2⟩
    · rw [h2, k2, h3, k3]; exact ⟨rfl, rfl⟩
    · exact absurd (h.symm.trans h1) k1
    · exact absurd (h.trans k1) h1
    · rw [h, k2] at h2
      injection h2 with h2 _
      injection h2 with e1 e2 _
      exact ⟨by omega, e2.symm⟩
  have h1 : f.l = g.l := by rw [hf.pre, hg.pre, hl.1]
  have h2 : f.floors = g.floors := by
    have a := hf.ok.ok
    rw [h1, hg.ok.ok] at a
    injection a with a _
    exact a.symm
  have h3 : f.key = g.key := hf.ky.trans hg.ky.symm
  cases f
  cases g
  simp_all
theorem take_node {key : Int} {L : List Ent} {f : Fol} (hf : NodeOk key L f) {s : List UInt8} {M : List Ent} (hpre : (takeF f s M).1 = 0 → f.l ++ M = L.take (f.l ++ M).length) (hs : s ≠ [] ∨ (takeF f s M).1 ≠ 0) :
    NodeOk key L (takeF f s M).2 ∧ f.l.length ≤ (takeF f s M).2.l.length ∧ f.time ≤ (takeF f s M).2.time := by
  by_cases h : (takeF f s M).1 = 0
  · obtain ⟨h1, h2, h3, h4, h5, h6⟩ := takeF_zero h
    have hp := hpre h
    have hok := take_ok hf.ok s M
    rw [h6] at hok ⊢
    refine ⟨⟨hf.ky, hp, hok, .inr ⟨?_, ?_⟩⟩, by dsimp only; rw [List.length_append]; omega, h2⟩
    · rcases hs with hs | hs
      · exact hs
      · exact absurd h hs
    · dsimp only
      rw [← hf.ky]
      refine Prod.ext ?_ h1
      rw [h5, List.length_append]
      generalize (openH f.key s).1 = x at *
      cases x
      simp only [Hd.mk.injEq, and_true]
      dsimp only at h3
      omega
  · rw [takeF_bad h]
    exact ⟨hf, Nat.le_refl _, Int.le_refl _⟩
/-- News taken. -/
theorem news_node {key : Int} {L : List Ent} {f : Fol} (hf : NodeOk key L f) (n : News) (hk : n.key = key) (ht : n.text = []) :
    NodeOk key L (takeF f (newsHead L n) (newsEnts L n)).2 ∧ f.l.length ≤ (takeF f (newsHead L n) (newsEnts L n)).2.l.length ∧ f.time ≤ (takeF f (newsHead L n) (newsEnts L n)).2.time := by
  have hh : newsHead L n = (headOf key (L.take (newsMany L n)) n.time).1 := by unfold newsHead; rw [if_pos ht, hk]
  by_cases hz : (headOf key (L.take (newsMany L n)) n.time).2.1 = 0
  · obtain ⟨_, _, _, _, _, h6, h7⟩ := headOf_zero hz
    have hm := newsMany_le L n
    have hfm := newsFrom_le L n
    have hlm : (L.take (newsMany L n)).length = newsMany L n := by rw [List.length_take]; omega
    refine take_node hf (fun h => ?_) (.inl fun e => ?_)
    · obtain ⟨h1, h2, h3, h4, h5, _⟩ := takeF_zero h
      rw [hf.ky, hh, h7, hlm] at h3
      dsimp only at h3
      have hle : (newsEnts L n).length = newsMany L n - newsFrom L n := by unfold newsEnts; rw [List.length_drop, hlm]
      have hfl : f.l.length = newsFrom L n := by omega
      have hp := hf.pre
      rw [hfl] at hp
      have he : f.l ++ newsEnts L n = L.take (newsMany L n) := by
        unfold newsEnts
        rw [hp]
        conv => rhs; rw [← List.take_append_drop (newsFrom L n) (L.take (newsMany L n))]
        rw [List.take_take, Nat.min_eq_left hfm]
      rw [he, hlm]
    · rw [hh] at e
      have := openH_nil key
      rw [← e, h7] at this
      exact this rfl
  · have he : newsHead L n = [] := by rw [hh]; exact headOf_bad hz
    refine take_node hf (fun h => ?_) (.inr fun h => ?_)
    all_goals
      have := (takeF_zero h).1
      rw [he] at this
      exact absurd this (openH_nil _)

/-! A tree. -/
def nodeT (T : List Fol) (i : Nat) : Fol := T.getD i (newFol 0)
def upT (A : List Int) (i : Nat) : Nat := (A.getD i 0).toNat
def pollT (T : List Fol) (A : List Int) (i : Int) : (Int × Nat) × List Fol :=
  if i < 1 ∨ (T.length : Int) ≤ i then ((0, 2), T)
  else if (nodeT T (upT A i.toNat)).head = [] then ((0, 5), T)
  else if (nodeT T (upT A i.toNat)).head = (nodeT T i.toNat).head then ((0, 12), T)
  else if (sinceE (nodeT T (upT A i.toNat)).l (nodeT T i.toNat).l.length).2.1 ≠ 0 then ((0, (sinceE (nodeT T (upT A i.toNat)).l (nodeT T i.toNat).l.length).2.1), T)
  else if (takeF (nodeT T i.toNat) (nodeT T (upT A i.toNat)).head (sinceE (nodeT T (upT A i.toNat)).l (nodeT T i.toNat).l.length).1).1 ≠ 0 then ((0, (takeF (nodeT T i.toNat) (nodeT T (upT A i.toNat)).head (sinceE (nodeT T (upT A i.toNat)).l (nodeT T i.toNat).l.length).1).1), T)
  else (((sinceE (nodeT T (upT A i.toNat)).l (nodeT T i.toNat).l.length).1.length, 0), T.set i.toNat (takeF (nodeT T i.toNat) (nodeT T (upT A i.toNat)).head (sinceE (nodeT T (upT A i.toNat)).l (nodeT T i.toNat).l.length).1).2)
/-- The first so many poll: how many took something. -/
def allN (T : List Fol) (A : List Int) : Nat → Nat × List Fol
  | 0 => (0, T)
  | n + 1 => (if (pollT (allN T A n).2 A n).1.2 = 0 then (allN T A n).1 + 1 else (allN T A n).1, (pollT (allN T A n).2 A n).2)
def allT (T : List Fol) (A : List Int) : Nat × List Fol := allN T A T.length
theorem pollT_len (T : List Fol) (A : List Int) (i : Int) : (pollT T A i).2.length = T.length := by
  unfold pollT
  split
  · rfl
  split
  · rfl
  split
  · rfl
  split
  · rfl
  split
  · rfl
  · simp
theorem allN_len (T : List Fol) (A : List Int) : ∀ n, (allN T A n).2.length = T.length
  | 0 => rfl
  | n + 1 => by rw [allN, pollT_len, allN_len T A n]
theorem allN_le (T : List Fol) (A : List Int) : ∀ n, (allN T A n).1 ≤ n
  | 0 => Nat.le_refl _
  | n + 1 => by
    rw [allN]
    have := allN_le T A n
    dsimp only
    split <;> omega
structure TreeOk (key : Int) (L : List Ent) (T : List Fol) (A : List Int) : Prop where
  len : A.length = T.length
  pos : 0 < T.length
  up : ∀ i, 1 ≤ i → i < T.length → upT A i < i
  node : ∀ i, i < T.length → NodeOk key L (nodeT T i)
  below : ∀ i, 1 ≤ i → i < T.length → (nodeT T i).l.length ≤ (nodeT T (upT A i)).l.length ∧ (nodeT T i).time ≤ (nodeT T (upT A i)).time
theorem nodeT_set {T : List Fol} {i : Nat} (f : Fol) (j : Nat) (h : i < T.length) : nodeT (T.set i f) j = if j = i then f else nodeT T j := by
  unfold nodeT
  rw [List.getD_eq_getElem?_getD, List.getD_eq_getElem?_getD, List.getElem?_set]
  by_cases hj : j = i
  · subst hj
    simp [h]
  · simp [hj, Ne.symm hj]
theorem set_tree {key : Int} {L : List Ent} {T : List Fol} {A : List Int} (h : TreeOk key L T A) {i : Nat} (hi : i < T.length) {f : Fol} (hf : NodeOk key L f) (h1 : (nodeT T i).l.length ≤ f.l.length ∧ (nodeT T i).time ≤ f.time)
    (h2 : 1 ≤ i → f.l.length ≤ (nodeT T (upT A i)).l.length ∧ f.time ≤ (nodeT T (upT A i)).time) : TreeOk key L (T.set i f) A := by
  refine ⟨by rw [List.length_set]; exact h.len, by rw [List.length_set]; exact h.pos, fun j a b => h.up j a (by rwa [List.length_set] at b), fun j hj => ?_, fun j a b => ?_⟩
  · rw [List.length_set] at hj
    rw [nodeT_set _ _ hi]
    split
    · exact hf
    · exact h.node j hj
  · rw [List.length_set] at b
    rw [nodeT_set _ _ hi, nodeT_set _ _ hi]
    have hup := h.up j a b
    have hb := h.below j a b
    by_cases hj : j = i
    · subst hj
      rw [if_pos rfl, if_neg (by omega)]
      exact h2 a
    · rw [if_neg hj]
      by_cases hu : upT A j = i
      · rw [if_pos hu]
        rw [hu] at hb
        omega
      · rw [if_neg hu]
        exact hb
/-- One poll: the tree is right behind it; who polled has what the one above has; nobody else turned. -/
theorem poll_tree {key : Int} {L : List Ent} {T : List Fol} {A : List Int} (h : TreeOk key L T A) (i : Int) :
    TreeOk key L (pollT T A i).2 A ∧ (∀ j, j ≠ i.toNat → nodeT (pollT T A i).2 j = nodeT T j) ∧ (1 ≤ i → i < T.length → nodeT (pollT T A i).2 i.toNat = nodeT T (upT A i.toNat)) := by
  by_cases h0 : i < 1 ∨ (T.length : Int) ≤ i
  · unfold pollT
    rw [if_pos h0]
    exact ⟨h, fun _ _ => rfl, fun a b => by omega⟩
  obtain ⟨n, rfl⟩ := Int.eq_ofNat_of_zero_le (show 0 ≤ i by omega)
  have hn1 : 1 ≤ n := by omega
  have hnl : n < T.length := by omega
  have hup := h.up n hn1 hnl
  have hf := h.node n hnl
  have hu := h.node (upT A n) (by omega)
  have hb := h.below n hn1 hnl
  rw [Int.toNat_natCast]
  generalize hfd : nodeT T n = f at *
  generalize hud : nodeT T (upT A n) = u at *
  have hp : pollT T A (n : Int) = (if u.head = [] then ((0, 5), T) else if u.head = f.head then ((0, 12), T) else if (sinceE u.l f.l.length).2.1 ≠ 0 then ((0, (sinceE u.l f.l.length).2.1), T)
      else if (takeF f u.head (sinceE u.l f.l.length).1).1 ≠ 0 then ((0, (takeF f u.head (sinceE u.l f.l.length).1).1), T) else (((sinceE u.l f.l.length).1.length, 0), T.set n (takeF f u.head (sinceE u.l f.l.length).1).2) : (Int × Nat) × List Fol) := by
    unfold pollT
    rw [if_neg h0, Int.toNat_natCast, hfd, hud]
  rw [hp]
  by_cases h1 : u.head = []
  · rw [if_pos h1]
    refine ⟨h, fun _ _ => rfl, fun _ _ => ?_⟩
    rw [hfd]
    refine node_eq hf hu ?_
    rcases hu.head with ⟨_, k2, k3, _⟩ | ⟨k1, _⟩
    · rcases hf.head with ⟨q1, _⟩ | ⟨q1, q2⟩
      · rw [q1, h1]
      · have := openH_time (key := key) (s := f.head) (by rw [q2])
        rw [q2] at this
        dsimp only at this
        omega
    · exact absurd h1 k1
  rw [if_neg h1]
  by_cases h2 : u.head = f.head
  · rw [if_pos h2]
    exact ⟨h, fun _ _ => rfl, fun _ _ => by rw [hfd]; exact node_eq hf hu h2.symm⟩
  rw [if_neg h2]
  rcases hu.head with ⟨k1, _⟩ | ⟨_, k2⟩
  · exact absurd k1 h1
  have huc : checkE u.l = (0, -1) := (floorsE_zero (L := u.l) (by rw [hu.ok.ok])).1
  have hs := (sinceE_of (L := u.l) (by rw [huc]) (f.l.length : Int)).2 (by omega) (by omega)
  rw [hs, Int.toNat_natCast]
  dsimp only
  rw [if_neg (by decide)]
  have happ : f.l ++ u.l.drop f.l.length = u.l := by
    have : f.l = u.l.take f.l.length := by
      conv => lhs; rw [hf.pre]
      rw [hu.pre, List.take_take, Nat.min_eq_left hb.1]
    conv => lhs; lhs; rw [this]
    exact List.take_append_drop _ _
  have htk : takeF f u.head (u.l.drop f.l.length) = (0, u) := by
    have h5 := takeF_of (f := f) (s := u.head) (M := u.l.drop f.l.length) (by rw [hf.ky, k2]) (by rw [hf.ky, k2]; exact hb.2) (by rw [hf.ky, k2, List.length_drop]; dsimp only; omega) (by rw [happ, hu.ok.ok]) (by rw [happ, hu.ok.ok, hf.ky, k2])
    rw [h5, happ, hu.ok.ok, hf.ky, k2, ← hu.ky]
  rw [htk, if_neg (show ¬ (0 : Nat) ≠ 0 from fun h => h rfl)]
  dsimp only
  refine ⟨set_tree h hnl hu (by rw [hfd]; exact hb) (fun _ => by rw [hud]; exact ⟨Nat.le_refl _, Int.le_refl _⟩), fun j hj => by rw [nodeT_set _ _ hnl, if_neg hj], fun _ _ => by rw [nodeT_set _ _ hnl, if_pos rfl]⟩
theorem all_tree {key : Int} {L : List Ent} {T : List Fol} {A : List Int} (h : TreeOk key L T A) : ∀ n, n ≤ T.length → TreeOk key L (allN T A n).2 A ∧ ∀ j, j < n → nodeT (allN T A n).2 j = nodeT T 0
  | 0, _ => ⟨h, fun _ hj => absurd hj (Nat.not_lt_zero _)⟩
  | n + 1, hn => by
    obtain ⟨h1, h2⟩ := all_tree h n (by omega)
    have hl := allN_len T A n
    obtain ⟨h3, h4, h5⟩ := poll_tree h1 (n : Int)
    rw [allN]
    dsimp only
    refine ⟨h3, fun j hj => ?_⟩
    by_cases hjn : j = n
    · subst hjn
      by_cases h0 : j = 0
      · subst h0
        unfold pollT
        rw [if_pos (.inl (by omega))]
        rfl
      · have h6 := h5 (by omega) (by omega)
        rw [Int.toNat_natCast] at h6
        rw [h6]
        exact h2 _ (h1.up j (by omega) (by omega))
    · rw [h4 j (by rw [Int.toNat_natCast]; exact hjn)]
      exact h2 j (by omega)
/-- Where all are the same, nobody takes anything. -/
theorem all_still {T : List Fol} {A : List Int} (h : ∀ j, j < T.length → nodeT T j = nodeT T 0) (hup : ∀ i, 1 ≤ i → i < T.length → upT A i < i) : ∀ n, n ≤ T.length → allN T A n = (0, T)
  | 0, _ => rfl
  | n + 1, hn => by
    have h1 := all_still h hup n (by omega)
    have h2 : pollT T A n = ((0, 2), T) ∨ pollT T A n = ((0, 5), T) ∨ pollT T A n = ((0, 12), T) := by
      unfold pollT
      by_cases h0 : (n : Int) < 1 ∨ (T.length : Int) ≤ n
      · rw [if_pos h0]; exact .inl rfl
      · rw [if_neg h0, Int.toNat_natCast, h n (by omega), h (upT A n) (by have := hup n (by omega) (by omega); omega)]
        by_cases h3 : (nodeT T 0).head = []
        · rw [if_pos h3]; exact .inr (.inl rfl)
        · rw [if_neg h3, if_pos rfl]; exact .inr (.inr rfl)
    rw [allN, h1]
    dsimp only
    rcases h2 with h2 | h2 | h2 <;> rw [h2] <;> rfl
end Go.Proofs.YtfbndfkahodheaaGreatDoor

/- A follower's Copy: walked. -/
namespace Go.Proofs.YtfbndfkahodheaaGreatDoor
open Go.RowKit

set_option maxHeartbeats 4000000 in
set_option maxRecDepth 100000 in
theorem copy_fol (base b : Nat) (f : Fol) (w : World) (hF : FolAt w base b f) (hl : f.l.length ≤ 1000) (hfl : f.floors.length ≤ 1000) :
    Calls Tryz.prog 33 #[.pointer (some ⟨b, 0, none⟩)] w fun e w' => ∃ b', e = .returned (.pointer (some ⟨b', 0, none⟩)) ∧ FolAt w' w.heap.size b' f ∧ Below w.heap.size w w' := by
  obtain ⟨hge, u, v, hbk, hru, hrv⟩ := hF
  have hce := Lib.hid (fun wx (hx : Below w.heap.size w wx) => (clone_ent u f.l wx (EntRow.at_ (RowG.below hru hx)) hl).mono (R' := fun e w' => ∃ v', e = .returned v' ∧ EntRow w' w.heap.size v' f.l ∧ Below wx.heap.size wx w') (fun e w' ⟨v', h1, h2, h3⟩ => ⟨v', h1, RowG.mono h2 hx.size, h3⟩))
  have hcf := Lib.hid (fun wx (hx : Below w.heap.size w wx) => (clone_flo v f.floors wx (floorsAt_of (RowG.at_ (RowG.below (floRow_G.1 hrv) hx))) hfl).mono (R' := fun e w' => ∃ v', e = .returned v' ∧ FlRow w' w.heap.size v' f.floors ∧ Below wx.heap.size wx w') (fun e w' ⟨v', h1, h2, h3⟩ => ⟨v', h1, floRow_G.2 (RowG.mono (floRow_G.1 h2) hx.size), h3⟩))
  obtain ⟨au, cu, hu⟩ := RowG.sl hru
  obtain ⟨av, cv, hv⟩ := hrv.sl
  subst hu hv
  obtain ⟨⟨k0, k1, k2, k3, k4⟩, hfz⟩ := fol_cells hbk
  obtain ⟨key, l, fl, time, head⟩ := f
  dsimp only at *
  have hkS := Lib.hid (fun (wx : World) (hx : Below w.heap.size w wx) => (show Below w.heap.size w wx ∧ wx.cell? ⟨b, 0, none⟩ = some (.int .i64 key) ∧ wx.cell? ⟨b, 1, none⟩ = some (.slice au l.length cu) ∧ wx.cell? ⟨b, 2, none⟩ = some (.slice av fl.length cv) ∧ wx.cell? ⟨b, 3, none⟩ = some (.int .i64 time) ∧ wx.cell? ⟨b, 4, none⟩ = some (.string (bs head)) from ⟨hx, cell_below hx k0, cell_below hx k1, cell_below hx k2, cell_below hx k3, cell_below hx k4⟩))
  have hS : Below w.heap.size w w := Below.refl _ _
  clear hru hrv hbk hfz
  go_enter Tryz.func33, Tryz.ntmps33
  go_upto_region 1 with fail
  go_region_held3 (fun w' => Below w.heap.size w w' ∧ w'.cell? ⟨b, 0, none⟩ = some (.int .i64 key) ∧ w'.cell? ⟨b, 1, none⟩ = some (.slice au l.length cu) ∧ w'.cell? ⟨b, 2, none⟩ = some (.slice av fl.length cv) ∧ w'.cell? ⟨b, 3, none⟩ = some (.int .i64 time) ∧ w'.cell? ⟨b, 4, none⟩ = some (.string (bs head)))
    ((refine hkS.out _ ?_; (first | exact hS | exact hS.drew | exact hS.alloc hS.size _ | exact hS.drew.alloc hS.drew.size _)))
    (first | (go_at_call 51; refine (hce.out _ (by (first | exact hS | exact hS.drew))).mono ?_; rintro e w' ⟨v1, rfl, hr1, hb1⟩; have hS : Below w.heap.size w w' := below_trans (by (first | exact hS | exact hS.drew)) hb1; obtain ⟨a1, k1, rfl⟩ := RowG.sl hr1; have hr1 := Lib.hid hr1) | (go_at_call 72; refine (hcf.out _ (by (first | exact hS | exact hS.drew))).mono ?_; rintro e w' ⟨v2, rfl, hr2, hb2⟩; have hS : Below w.heap.size w w' := below_trans (by (first | exact hS | exact hS.drew)) hb2; obtain ⟨a2, k2, rfl⟩ := RowG.sl (floRow_G.1 hr2); have hr2 := Lib.hid hr2; have hr1 := Lib.hid (RowG.below hr1.out hb2)))
  all_goals
    go_wp2_with fail
    go_ret
    exact ⟨_, rfl, ⟨hS.size, _, _, heap_alloc_new _ _, RowG.alloc hr1.out _, floRow_G.2 (RowG.alloc (floRow_G.1 hr2.out) _)⟩, hS.alloc hS.size _⟩
end Go.Proofs.YtfbndfkahodheaaGreatDoor

/- Numbers that came in: no walk. -/
namespace Go.Proofs.YtfbndfkahodheaaGreatDoor
open Go.ChangeShapes Go.WideShapes Go.ChangeAt Go.RowKit Go.ChangeMaps Go.Deep

def numC : Cells Int where
  k := 1
  pos := by decide
  f := fun n => [.int .i64 n]
  len := fun _ => rfl
  one := fun e u hu => by
    simp only [List.mem_cons, List.mem_nil_iff, or_false] at hu
    subst hu
    rfl
set_option maxRecDepth 100000 in
theorem numsC_of {H : Type} {enc : TypeId × Value → H} {W : World} {base : Nat} {spare : Nat → Bool} {held : Bool} {fuel : Nat} {a : Option Addr} {len cap : Nat} {x : DataW H × List MemPlace}
    (h : DataW.trod enc Tryz.prog W base spare held fuel 79 [.slice a len cap] = some x) : ∃ A, AtG numC W (.slice a len cap) A := by
  have hcap := slice_cap Tryz.underlying79 h
  rcases slice_cells Tryz.underlying79 h with h0 | ⟨a', len', cap', n, hcs, hm, hi⟩
  · cases h0
    exact ⟨[], AtG.nil _⟩
  · cases hcs
    have hC : Tryz.prog.cellsOf 3 = 1 := by kernel_rfl
    rw [hC] at hi
    obtain ⟨A, hl, hA⟩ := list_of (p := fun i (q : Int) => (i = 0 → a' = ⟨a'.block, a'.off, none⟩) ∧ (∀ j u, (numC.f q)[j]? = some u → W.cell? ⟨a'.block, a'.off + i * 1 + j, none⟩ = some u)) len (fun i hil => by
      obtain ⟨cs, y, hcl, hat, ha, ht⟩ := hi i hil
      match cs, hcl with
      | [k0], _ =>
        obtain ⟨q, rfl, _⟩ := read_int Tryz.underlying3 ht
        refine ⟨q, fun h0 => ha 0 (by decide) (by rw [h0]), fun j u hu => ?_⟩
        have hj : j < 1 := (List.getElem?_eq_some_iff.1 hu).1
        have := hat j hj
        rw [show ([Value.int .i64 q] : List Value)[j]? = some u from hu] at this
        simpa [Nat.add_assoc] using this)
    subst hl
    exact ⟨A, some a', cap, rfl, hm, hcap, (fun e => by cases e), fun i hil => ⟨a'.block, a'.off, congrArg some ((hA 0 (Nat.lt_of_le_of_lt (Nat.zero_le _) hil)).1 rfl), (hA i hil).2⟩⟩
end Go.Proofs.YtfbndfkahodheaaGreatDoor

/- Trees of followers in memory: no walk. -/
namespace Go.Proofs.YtfbndfkahodheaaGreatDoor
open Go.RowKit

/-- Pointers' cells. -/
def ptrC : Cells Nat where
  k := 1
  pos := by decide
  f := fun p => [.pointer (some ⟨p, 0, none⟩)]
  len := fun _ => rfl
  one := fun e u hu => by
    simp only [List.mem_cons, List.mem_nil_iff, or_false] at hu
    subst hu
    rfl
theorem info_ptr : (Tryz.prog.info? 63).map (fun i => (i.zero, i.size, i.bytes)) = some (some (.pointer none), ptrC.k, 8) := by kernel_rfl
theorem info_num : (Tryz.prog.info? 3).map (fun i => (i.zero, i.size, i.bytes)) = some (some (.int .i64 0), numC.k, 8) := by kernel_rfl
theorem ptr_ne_fol : (63 : TypeId) ≠ 127 := by decide
theorem num_ne_fol : (3 : TypeId) ≠ 127 := by decide
theorem tree_ne_fol : (134 : TypeId) ≠ 127 := by decide
theorem ptr_ne_tree : (63 : TypeId) ≠ 134 := by decide
theorem num_ne_tree : (3 : TypeId) ≠ 134 := by decide
theorem ptr_ne_num : (63 : TypeId) ≠ 3 := by decide

structure TreeAt (w : World) (base b : Nat) (ps : List Nat) (T : List Fol) (A : List Int) : Prop where
  ge : base ≤ b
  blk : ∃ u v, w.heap[b]? = some (.cells #[u, v] 134 (0, 0)) ∧ RowG ptrC w base 63 u ps ∧ RowG numC w base 3 v A
  len : ps.length = T.length
  nd : ps.Nodup
  fol : ∀ i, i < ps.length → FolAt w base (ps.getD i 0) (nodeT T i)
theorem TreeAt.lt {w : World} {base b : Nat} {ps : List Nat} {T : List Fol} {A : List Int} (h : TreeAt w base b ps T A) : b < w.heap.size := by
  obtain ⟨u, v, h1, _⟩ := h.blk
  exact (Array.getElem?_eq_some_iff.1 h1).1
theorem TreeAt.below {w w' : World} {base b : Nat} {ps : List Nat} {T : List Fol} {A : List Int} (h : TreeAt w base b ps T A) (hb : Below w.heap.size w w') : TreeAt w' base b ps T A := by
  obtain ⟨u, v, h1, h2, h3⟩ := h.blk
  exact ⟨h.ge, ⟨u, v, heap_down hb h1, h2.below hb, h3.below hb⟩, h.len, h.nd, fun i hi => (h.fol i hi).below hb⟩
theorem TreeAt.mono {w : World} {base base' b : Nat} {ps : List Nat} {T : List Fol} {A : List Int} (h : TreeAt w base b ps T A) (hb : base' ≤ base) : TreeAt w base' b ps T A := by
  obtain ⟨u, v, h1, h2, h3⟩ := h.blk
  exact ⟨Nat.le_trans hb h.ge, ⟨u, v, h1, h2.mono hb, h3.mono hb⟩, h.len, h.nd, fun i hi => (h.fol i hi).mono hb⟩
theorem nodup_ne {ps : List Nat} (h : ps.Nodup) {i j : Nat} (hi : i < ps.length) (hj : j < ps.length) (hne : i ≠ j) : ps.getD i 0 ≠ ps.getD j 0 := by
  rw [getD_get hi, getD_get hj]
  intro e
  exact hne ((List.getElem_inj h).1 e)
/-- A block of the type of a follower is not a row's of another type. -/
theorem row_not_fol {α : Type} {C : Cells α} {w : World} {base : Nat} {e : TypeId} {v : Value} {L : List α} (h : RowG C w base e v L) {b : Nat} {cs : Array Value} {T : TypeId} (hb : w.heap[b]? = some (.cells cs T (0, 0))) (hne : e ≠ T) : v.ownBlock ≠ some b := fun hg => by
  obtain ⟨_, cs', h4⟩ := RowG.block h hg
  rw [hb] at h4
  injection h4 with h4
  injection h4 with _ h4 _
  exact hne h4.symm
theorem FolAt.blk {w : World} {base b : Nat} {f : Fol} (h : FolAt w base b f) : ∃ cs, w.heap[b]? = some (.cells cs 127 (0, 0)) := by
  obtain ⟨_, u, v, h1, _⟩ := h
  exact ⟨_, h1⟩
/-- One follower is another one. -/
theorem TreeAt.set {w w' : World} {base b : Nat} {ps : List Nat} {T : List Fol} {A : List Int} (h : TreeAt w base b ps T A) {i : Nat} (hi : i < ps.length) {f : Fol} (hf : FolAt w' base (ps.getD i 0) f) (hk : Keeps (· = ps.getD i 0) w w') :
    TreeAt w' base b ps (T.set i f) A := by
  obtain ⟨u, v, h1, h2, h3⟩ := h.blk
  obtain ⟨cs, hb⟩ := (h.fol i hi).blk
  refine ⟨h.ge, ⟨u, v, (hk.block b (Array.getElem?_eq_some_iff.1 h1).1 (fun e => ?_)).trans h1, h2.keeps hk (fun g hg hs => row_not_fol h2 (by rw [← hs] at hb; exact hb) ptr_ne_fol hg), h3.keeps hk (fun g hg hs => row_not_fol h3 (by rw [← hs] at hb; exact hb) num_ne_fol hg)⟩, by rw [List.length_set]; exact h.len, h.nd, fun j hj => ?_⟩
  · rw [e, hb] at h1
    injection h1 with h1
    injection h1 with _ h1 _
    exact tree_ne_fol h1.symm
  · rw [nodeT_set _ _ (by rw [← h.len]; exact hi)]
    by_cases hji : j = i
    · rw [if_pos hji, hji]; exact hf
    · rw [if_neg hji]
      exact (h.fol j hj).other (h.fol i hi) (nodup_ne h.nd hj hi hji) hk
/-- Below, by a change of one follower alone. -/
theorem TreeAt.below_keeps {w w1 w2 : World} {b base : Nat} {ps : List Nat} {T : List Fol} {A : List Int} (h : TreeAt w1 base b ps T A) {i : Nat} (hi : i < ps.length) (hb : Below w.heap.size w w1) (hbs : w.heap.size ≤ base) (hk : Keeps (· = ps.getD i 0) w1 w2) : Below w.heap.size w w2 :=
  Go.Proofs.YtfbndfkahodheaaGreatDoor.below_keeps hb (Nat.le_trans hbs (h.fol i hi).1) hk
/-- Its cells. -/
theorem TreeAt.cells {w : World} {base b : Nat} {ps : List Nat} {T : List Fol} {A : List Int} (h : TreeAt w base b ps T A) : ∃ au cu av cv, w.cell? ⟨b, 0, none⟩ = some (.slice au ps.length cu) ∧ w.cell? ⟨b, 1, none⟩ = some (.slice av A.length cv) ∧ ps.length ≤ maxLen ∧ A.length ≤ maxLen ∧
    (∀ i, i < ps.length → ∃ g o, au = some ⟨g, o, none⟩ ∧ w.cell? ⟨g, o + i, none⟩ = some (.pointer (some ⟨ps.getD i 0, 0, none⟩))) ∧ (∀ i, i < A.length → ∃ g o, av = some ⟨g, o, none⟩ ∧ w.cell? ⟨g, o + i, none⟩ = some (.int .i64 (A.getD i 0))) := by
  obtain ⟨u, v, h1, h2, h3⟩ := h.blk
  obtain ⟨⟨c0, c1⟩, _⟩ := two_kept (Below.refl _ _) h1
  obtain ⟨au, cu, rfl, l1, _, _, hu⟩ := RowG.at_ h2
  obtain ⟨av, cv, rfl, l2, _, _, hv⟩ := RowG.at_ h3
  refine ⟨au, cu, av, cv, c0, c1, l1, l2, fun i hi => ?_, fun i hi => ?_⟩
  · obtain ⟨g, o, h5, h6⟩ := hu i hi
    have := h6 0 _ rfl
    rw [getD_get hi]
    exact ⟨g, o, h5, by simpa [ptrC] using this⟩
  · obtain ⟨g, o, h5, h6⟩ := hv i hi
    have := h6 0 _ rfl
    rw [getD_get hi]
    exact ⟨g, o, h5, by simpa [numC] using this⟩

/-! Followers that are right. -/
structure FOk (f : Fol) : Prop where
  ok : FolOk f
  hd : f.head.length ≤ 300
  nm : ∀ e ∈ f.l, e.f.who.length ≤ maxLen
theorem FOk.l60 {f : Fol} (h : FOk f) : f.l.length ≤ 60 := by
  have := (checkE_zero (L := f.l) (by rw [(floorsE_zero (L := f.l) (by rw [h.ok.ok])).1])).1
  omega
theorem FOk.fl {f : Fol} (h : FOk f) : f.floors.length ≤ 21 := by
  have := floorsE_len f.l
  rw [h.ok.ok] at this
  exact this
theorem FOk.new (key : Int) : FOk (newFol key) := ⟨newFol_ok key, Nat.zero_le _, fun e he => by cases he⟩
theorem FOk.take {f : Fol} (h : FOk f) {s : List UInt8} {M : List Ent} (hs : s.length ≤ 300) (hM : ∀ e ∈ M, e.f.who.length ≤ maxLen) : FOk (takeF f s M).2 := by
  refine ⟨take_ok h.ok s M, ?_, ?_⟩
  · by_cases hz : (takeF f s M).1 = 0
    · rw [(takeF_zero hz).2.2.2.2.2]; exact hs
    · rw [takeF_bad hz]; exact h.hd
  · by_cases hz : (takeF f s M).1 = 0
    · rw [(takeF_zero hz).2.2.2.2.2]
      intro e he
      rcases List.mem_append.1 he with h1 | h1
      · exact h.nm e h1
      · exact hM e h1
    · rw [takeF_bad hz]; exact h.nm
/-- All of a tree are right. -/
def TOk (T : List Fol) : Prop := ∀ i, i < T.length → FOk (nodeT T i)
theorem TOk.set {T : List Fol} (h : TOk T) {i : Nat} (hi : i < T.length) {f : Fol} (hf : FOk f) : TOk (T.set i f) := fun j hj => by
  rw [List.length_set] at hj
  rw [nodeT_set _ _ hi]
  split
  · exact hf
  · exact h j hj
theorem sinceE_names {L : List Ent} {n : Int} (h : ∀ e ∈ L, e.f.who.length ≤ maxLen) : ∀ e ∈ (sinceE L n).1, e.f.who.length ≤ maxLen := by
  unfold sinceE
  split
  · intro e he; cases he
  · split
    · intro e he; cases he
    · split
      · intro e he; cases he
      · intro e he; exact h e (List.mem_of_mem_drop he)
theorem sinceE_len (L : List Ent) (n : Int) : (sinceE L n).1.length ≤ L.length := by
  unfold sinceE
  split
  · simp
  · split
    · simp
    · split
      · simp
      · rw [List.length_drop]; omega
/-- The ways of a poll, one above and one below. -/
theorem poll_ways (T : List Fol) (A : List Int) (n : Nat) (h1 : 1 ≤ n) (h2 : n < T.length) : pollT T A (n : Int) =
    (if (nodeT T (upT A n)).head = [] then ((0, 5), T) else if (nodeT T (upT A n)).head = (nodeT T n).head then ((0, 12), T) else if (sinceE (nodeT T (upT A n)).l (nodeT T n).l.length).2.1 ≠ 0 then ((0, (sinceE (nodeT T (upT A n)).l (nodeT T n).l.length).2.1), T)
      else if (takeF (nodeT T n) (nodeT T (upT A n)).head (sinceE (nodeT T (upT A n)).l (nodeT T n).l.length).1).1 ≠ 0 then ((0, (takeF (nodeT T n) (nodeT T (upT A n)).head (sinceE (nodeT T (upT A n)).l (nodeT T n).l.length).1).1), T)
      else (((sinceE (nodeT T (upT A n)).l (nodeT T n).l.length).1.length, 0), T.set n (takeF (nodeT T n) (nodeT T (upT A n)).head (sinceE (nodeT T (upT A n)).l (nodeT T n).l.length).1).2) : (Int × Nat) × List Fol) := by
  unfold pollT
  rw [if_neg (by omega), Int.toNat_natCast]
theorem poll_out {T : List Fol} {A : List Int} {i : Int} (h : i < 1 ∨ (T.length : Int) ≤ i) : pollT T A i = ((0, 2), T) := by
  unfold pollT
  rw [if_pos h]
theorem poll_tok {T : List Fol} (A : List Int) (i : Int) (h : TOk T) (hup : ∀ i, 1 ≤ i → i < T.length → upT A i < T.length) : TOk (pollT T A i).2 := by
  by_cases h0 : i < 1 ∨ (T.length : Int) ≤ i
  · rw [poll_out h0]; exact h
  obtain ⟨n, rfl⟩ := Int.eq_ofNat_of_zero_le (show 0 ≤ i by omega)
  rw [poll_ways T A n (by omega) (by omega)]
  split
  · exact h
  split
  · exact h
  split
  · exact h
  split
  · exact h
  · have hu := h (upT A n) (hup n (by omega) (by omega))
    exact h.set (by omega) ((h n (by omega)).take hu.hd (sinceE_names hu.nm))
end Go.Proofs.YtfbndfkahodheaaGreatDoor
