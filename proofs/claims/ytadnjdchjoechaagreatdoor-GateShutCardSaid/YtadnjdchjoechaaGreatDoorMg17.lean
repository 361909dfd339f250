/- FedL, FolL, FolP, FolH, NumArg, RelM, GateP, RefW -/
import Derived.Test.YtadnjdchjoechaaGreatDoorMg14
import Derived.Test.YtadnjdchjoechaaGreatDoorMg15
import Derived.Test.YtadnjdchjoechaaGreatDoorMg16
import Derived.Test.YtadnjdchjoechaaGreatDoorMg9
import Derived.Test.YtadnjdchjoechaaGreatDoorMg4
import Derived.Test.YtadnjdchjoechaaGreatDoorMg7
import Derived.Test.YtadnjdchjoechaaGreatDoorMg5
import Derived.Test.YtadnjdchjoechaaGreatDoorMg3
import Derived.Test.YtadnjdchjoechaaGreatDoorMg6
import Derived.Test.YtadnjdchjoechaaGreatDoorMg13
import Derived.Maps.AppendAt
import Derived.OwnWalk
/- The closed fact about feeds: walked. -/
namespace Go.Proofs.YtadnjdchjoechaaGreatDoor
open Go.RowKit

def annE : List UInt8 := [97, 110, 110]
def oneE : Ent := ⟨1, 3, ⟨annE, 2⟩⟩
theorem fed_add : addE [] 3 ⟨annE, 2⟩ = ([oneE], 0, -1) := by kernel_rfl
theorem fed_floors : floorsE [oneE] = ([⟨annE, 2⟩], 0, -1) := by kernel_rfl
theorem fed_head : (headOf 7 [oneE] 4).2.1 = 0 := headOf_of (by kernel_rfl) (by rw [fed_floors]) (by decide) (by decide) (by rw [show wasE [oneE] [oneE].length = 3 from by kernel_rfl]; decide)
theorem sealText_len {k : Int} {W : List (List UInt8)} (h10 : W.length ≤ 10) (hw : ∀ x ∈ W, isWord x = true) : (sealText k W).length ≤ 300 := by
  have hg := glue_len 32 W (fun x hx => ((isWord_iff x).1 (hw x hx)).2.1)
  have hm := markOf_bd k (glue 32 W)
  have hil := itoa_len10 (n := (markOf k (glue 32 W)).1) hm.1 (by omega)
  unfold sealText
  simp
  omega
theorem headOf_len {key : Int} {L : List Ent} {time : Int} : (headOf key L time).1.length ≤ 300 := by
  by_cases h : (headOf key L time).2.1 = 0
  · obtain ⟨_, hf, h0, h1, _, he, _⟩ := headOf_zero h
    have hl := (checkE_zero (L := L) (by rw [(floorsE_zero hf).1])).1
    rw [he]
    exact sealText_len (by simp [headWords]) (headWords_words (by omega) (by omega) (sumF_bd _))
  · rw [headOf_bad h]; simp
theorem box3 (x : World) (u0 u1 u2 : Value) (T : TypeId) : ((x.alloc (.cells #[u0, u1, u2] T)).cell? ⟨x.heap.size, 0, none⟩ = some u0 ∧ (x.alloc (.cells #[u0, u1, u2] T)).cell? ⟨x.heap.size, 1, none⟩ = some u1 ∧ (x.alloc (.cells #[u0, u1, u2] T)).cell? ⟨x.heap.size, 2, none⟩ = some u2) := (head_kept (heap_alloc_new x _)).1
end Go.Proofs.YtadnjdchjoechaaGreatDoor

/- The closed fact about followers: walked. -/
namespace Go.Proofs.YtadnjdchjoechaaGreatDoor
open Go.RowKit

theorem followed_take : takeF (newFol 7) (headOf 7 [oneE] 4).1 [oneE] = (0, ⟨7, [oneE], [⟨annE, 2⟩], 4, (headOf 7 [oneE] 4).1⟩) := by
  obtain ⟨_, _, _, _, _, _, ho⟩ := headOf_zero fed_head
  have h := takeF_of (f := newFol 7) (s := (headOf 7 [oneE] 4).1) (M := [oneE]) (by show (openH 7 _).2 = 0; rw [ho]) (by show -1 ≤ (openH 7 _).1.time; rw [ho]; decide) (by show (openH 7 _).1.seq = _; rw [ho]; rfl) (by show (floorsE [oneE]).2.1 = 0; rw [fed_floors]) (by show sumF (floorsE [oneE]).1 = (openH 7 _).1.sum; rw [ho])
  rw [h]
  show (0, (⟨7, [oneE], (floorsE [oneE]).1, (openH 7 (headOf 7 [oneE] 4).1).1.time, (headOf 7 [oneE] 4).1⟩ : Fol)) = _
  rw [ho, fed_floors]
end Go.Proofs.YtadnjdchjoechaaGreatDoor

/- A feed taken step by step ends as a feed taken at once: no program in sight. -/
namespace Go.Proofs.YtadnjdchjoechaaGreatDoor

/-- A follower that has the first n entries of L. -/
structure Mid (key : Int) (L : List Ent) (n : Nat) (g : Fol) : Prop where
  key : g.key = key
  le : n ≤ L.length
  l : g.l = L.take n
  t : g.time ≤ wasE L n
theorem mid_new (key : Int) (L : List Ent) : Mid key L 0 (newFol key) := ⟨rfl, Nat.zero_le _, rfl, by show -1 ≤ wasE L 0; unfold wasE; rw [if_pos rfl]; decide⟩
theorem floorsE_take {L : List Ent} (h : (floorsE L).2.1 = 0) (n : Nat) : (floorsE (L.take n)).2.1 = 0 := by
  have := floorsE_left (L := L.take n) (M := L.drop n) (by rw [List.take_append_drop]; exact h)
  exact this.1
theorem wasE_take {L : List Ent} {n : Nat} (hn : n ≤ L.length) : wasE (L.take n) (L.take n).length = wasE L n := by
  have hl : (L.take n).length = n := by rw [List.length_take]; omega
  rw [hl]
  unfold wasE
  by_cases h0 : n = 0
  · rw [if_pos h0, if_pos h0]
  · rw [if_neg h0, if_neg h0]
    have := getD_left (L.take n) (L.drop n) noEnt (i := n - 1) (by rw [hl]; omega)
    rw [List.take_append_drop] at this
    rw [this]
theorem mid_head {key : Int} {L : List Ent} {n : Nat} (hk : isKey key = true) (hf : (floorsE L).2.1 = 0) (hn : n ≤ L.length) : (headOf key (L.take n) (wasE L n)).2.1 = 0 := by
  have hc : (checkE L).1 = 0 := by rw [(floorsE_zero hf).1]
  have := wasE_bd hc hn
  exact headOf_of hk (floorsE_take hf n) this.1 this.2 (by rw [wasE_take hn]; exact Int.le_refl _)
theorem mid_step {key : Int} {L : List Ent} {have_ n : Nat} {g : Fol} (hM : Mid key L have_ g) (hk : isKey key = true) (hf : (floorsE L).2.1 = 0) (h : have_ ≤ n) (hn : n ≤ L.length) :
    takeF g (headOf key (L.take n) (wasE L n)).1 ((L.take n).drop have_) = (0, ⟨key, L.take n, (floorsE (L.take n)).1, wasE L n, (headOf key (L.take n) (wasE L n)).1⟩) ∧ Mid key L n ⟨key, L.take n, (floorsE (L.take n)).1, wasE L n, (headOf key (L.take n) (wasE L n)).1⟩ := by
  have hz := mid_head hk hf hn
  obtain ⟨_, _, _, _, _, _, ho⟩ := headOf_zero hz
  have hc : (checkE L).1 = 0 := by rw [(floorsE_zero hf).1]
  have hmono := wasE_mono hc h hn
  have hl : (L.take n).length = n := by rw [List.length_take]; omega
  have ht : L.take have_ = (L.take n).take have_ := by rw [List.take_take, Nat.min_eq_left h]
  have hcat : g.l ++ (L.take n).drop have_ = L.take n := by rw [hM.l, ht, List.take_append_drop]
  have hgl : g.l.length = have_ := by rw [hM.l, List.length_take]; have := hM.le; omega
  have hdl : ((L.take n).drop have_).length = n - have_ := by rw [List.length_drop, hl]
  have key' := hM.key
  subst key'
  have := takeF_of (f := g) (s := (headOf g.key (L.take n) (wasE L n)).1) (M := (L.take n).drop have_) (by rw [ho]) (by rw [ho]; have := hM.t; dsimp only; omega) (by rw [ho, hgl, hdl]; dsimp only; rw [hl]; omega) (by rw [hcat]; exact floorsE_take hf n) (by rw [hcat, ho])
  rw [this, hcat, ho]
  exact ⟨rfl, rfl, hn, rfl, Int.le_refl _⟩
theorem mid_last {key : Int} {L : List Ent} {have_ : Nat} {g : Fol} {time : Int} (hM : Mid key L have_ g) (hz : (headOf key L time).2.1 = 0) :
    takeF g (headOf key L time).1 (L.drop have_) = (0, ⟨key, L, (floorsE L).1, time, (headOf key L time).1⟩) := by
  obtain ⟨_, hf, _, _, hw, _, ho⟩ := headOf_zero hz
  have hc : (checkE L).1 = 0 := by rw [(floorsE_zero hf).1]
  have hmono := wasE_mono hc hM.le (Nat.le_refl L.length)
  have hcat : g.l ++ L.drop have_ = L := by rw [hM.l, List.take_append_drop]
  have hgl : g.l.length = have_ := by rw [hM.l, List.length_take]; have := hM.le; omega
  have hdl : (L.drop have_).length = L.length - have_ := List.length_drop
  have hle := hM.le
  have key' := hM.key
  subst key'
  have := takeF_of (f := g) (s := (headOf g.key L time).1) (M := L.drop have_) (by rw [ho]) (by rw [ho]; have := hM.t; dsimp only; omega) (by rw [ho, hgl, hdl]; dsimp only; omega) (by rw [hcat]; exact hf) (by rw [hcat, ho])
  rw [this, hcat, ho]
/-- All at once. -/
theorem mid_once {key : Int} {L : List Ent} {time : Int} (hz : (headOf key L time).2.1 = 0) : takeF (newFol key) (headOf key L time).1 L = (0, ⟨key, L, (floorsE L).1, time, (headOf key L time).1⟩) := by
  have := mid_last (mid_new key L) hz
  rw [List.drop_zero] at this
  exact this
end Go.Proofs.YtadnjdchjoechaaGreatDoor

/- Two followers side by side: lemmas. -/
namespace Go.Proofs.YtadnjdchjoechaaGreatDoor
open Go.RowKit

theorem below_keeps {w w1 w2 : World} {b : Nat} (h : Below w.heap.size w w1) (hb : w.heap.size ≤ b) (hk : Keeps (· = b) w1 w2) : Below w.heap.size w w2 :=
  ⟨hk.os.trans h.os, hk.tape.trans h.tape, hk.output.trans h.output, Nat.le_trans h.size hk.size, fun k hk' => (hk.block k (Nat.lt_of_lt_of_le hk' h.size) (fun e => by omega)).trans (h.block k hk')⟩
/-- Another follower is kept. -/
theorem FolAt.other {w w' : World} {base b b' : Nat} {f f' : Fol} (h : FolAt w base b f) (h' : FolAt w base b' f') (hne : b ≠ b') (hk : Keeps (· = b') w w') : FolAt w' base b f :=
  h.keeps hk hne (fun k hk => by
    obtain ⟨_, u, v, h1, _⟩ := h'
    subst hk
    exact ⟨_, h1⟩)
theorem FolAt.lt {w : World} {base b : Nat} {f : Fol} (h : FolAt w base b f) : b < w.heap.size := by
  obtain ⟨_, u, v, h1, _⟩ := h
  exact (Array.getElem?_eq_some_iff.1 h1).1
theorem FolAt.mono {w : World} {base base' b : Nat} {f : Fol} (h : FolAt w base b f) (hb : base' ≤ base) : FolAt w base' b f := by
  obtain ⟨h0, u, v, h1, h2, h3⟩ := h
  exact ⟨Nat.le_trans hb h0, u, v, h1, RowG.mono h2 hb, h3.mono hb⟩
/-- l[i:j]. -/
theorem ents_cut {w : World} {a : Option Addr} {c : Nat} {L : List Ent} (h : EntsAt w (.slice a L.length c) L) {n : Nat} (hn : n ≤ L.length) : EntsAt w (.slice a (L.take n).length c) (L.take n) := by
  have := AtG.take h hn
  rwa [show (L.take n).length = n by rw [List.length_take]; omega]
end Go.Proofs.YtadnjdchjoechaaGreatDoor

/- Numbers that came in: no walk. -/
namespace Go.Proofs.YtadnjdchjoechaaGreatDoor
open Go.ChangeShapes Go.WideShapes Go.ChangeAt Go.RowKit Go.ChangeMaps Go.Deep

def numC : Cells Int where
  k := 1
  pos := by decide
  f := fun n => [.int .i64 n]
  len := fun _ => rfl
  one := fun e u hu => by
    simp only [List.mem_cons, List.mem_nil_iff, or_false] at hu
    subst hu
    rfl
set_option maxRecDepth 100000 in
theorem numsC_of {H : Type} {enc : TypeId × Value → H} {W : World} {base : Nat} {spare : Nat → Bool} {held : Bool} {fuel : Nat} {a : Option Addr} {len cap : Nat} {x : DataW H × List MemPlace}
    (h : DataW.trod enc Tryz.prog W base spare held fuel 83 [.slice a len cap] = some x) : ∃ A, AtG numC W (.slice a len cap) A := by
  have hcap := slice_cap Tryz.underlying83 h
  rcases slice_cells Tryz.underlying83 h with h0 | ⟨a', len', cap', n, hcs, hm, hi⟩
  · cases h0
    exact ⟨[], AtG.nil _⟩
  · cases hcs
    have hC : Tryz.prog.cellsOf 3 = 1 := by kernel_rfl
    rw [hC] at hi
    obtain ⟨A, hl, hA⟩ := list_of (p := fun i (q : Int) => (i = 0 → a' = ⟨a'.block, a'.off, none⟩) ∧ (∀ j u, (numC.f q)[j]? = some u → W.cell? ⟨a'.block, a'.off + i * 1 + j, none⟩ = some u)) len (fun i hil => by
      obtain ⟨cs, y, hcl, hat, ha, ht⟩ := hi i hil
      match cs, hcl with
      | [k0], _ =>
        obtain ⟨q, rfl, _⟩ := read_int Tryz.underlying3 ht
        refine ⟨q, fun h0 => ha 0 (by decide) (by rw [h0]), fun j u hu => ?_⟩
        have hj : j < 1 := (List.getElem?_eq_some_iff.1 hu).1
        have := hat j hj
        rw [show ([Value.int .i64 q] : List Value)[j]? = some u from hu] at this
        simpa [Nat.add_assoc] using this)
    subst hl
    exact ⟨A, some a', cap, rfl, hm, hcap, (fun e => by cases e), fun i hil => ⟨a'.block, a'.off, congrArg some ((hA 0 (Nat.lt_of_le_of_lt (Nat.zero_le _) hil)).1 rfl), (hA i hil).2⟩⟩
end Go.Proofs.YtadnjdchjoechaaGreatDoor

/- Trees of followers in memory: no walk. -/
namespace Go.Proofs.YtadnjdchjoechaaGreatDoor
open Go.RowKit

/-- Pointers' cells. -/
def ptrC : Cells Nat where
  k := 1
  pos := by decide
  f := fun p => [.pointer (some ⟨p, 0, none⟩)]
  len := fun _ => rfl
  one := fun e u hu => by
    simp only [List.mem_cons, List.mem_nil_iff, or_false] at hu
    subst hu
    rfl
theorem info_ptr : (Tryz.prog.info? 44).map (fun i => (i.zero, i.size, i.bytes)) = some (some (.pointer none), ptrC.k, 8) := by kernel_rfl
theorem info_num : (Tryz.prog.info? 3).map (fun i => (i.zero, i.size, i.bytes)) = some (some (.int .i64 0), numC.k, 8) := by kernel_rfl
theorem ptr_ne_fol : (44 : TypeId) ≠ 92 := by decide
theorem num_ne_fol : (3 : TypeId) ≠ 92 := by decide
theorem ptr_ne_num : (44 : TypeId) ≠ 3 := by decide

theorem nodup_ne {ps : List Nat} (h : ps.Nodup) {i j : Nat} (hi : i < ps.length) (hj : j < ps.length) (hne : i ≠ j) : ps.getD i 0 ≠ ps.getD j 0 := by
  rw [getD_get hi, getD_get hj]
  intro e
  exact hne ((List.getElem_inj h).1 e)
/-- A block of the type of a follower is not a row's of another type. -/
theorem row_not_fol {α : Type} {C : Cells α} {w : World} {base : Nat} {e : TypeId} {v : Value} {L : List α} (h : RowG C w base e v L) {b : Nat} {cs : Array Value} {T : TypeId} (hb : w.heap[b]? = some (.cells cs T (0, 0))) (hne : e ≠ T) : v.ownBlock ≠ some b := fun hg => by
  obtain ⟨_, cs', h4⟩ := RowG.block h hg
  rw [hb] at h4
  injection h4 with h4
  injection h4 with _ h4 _
  exact hne h4.symm
theorem FolAt.blk {w : World} {base b : Nat} {f : Fol} (h : FolAt w base b f) : ∃ cs, w.heap[b]? = some (.cells cs 92 (0, 0)) := by
  obtain ⟨_, u, v, h1, _⟩ := h
  exact ⟨_, h1⟩
structure FOk (f : Fol) : Prop where
  ok : FolOk f
  hd : f.head.length ≤ 300
  nm : ∀ e ∈ f.l, e.f.who.length ≤ maxLen
theorem FOk.l60 {f : Fol} (h : FOk f) : f.l.length ≤ 60 := by
  have := (checkE_zero (L := f.l) (by rw [(floorsE_zero (L := f.l) (by rw [h.ok.ok])).1])).1
  omega
theorem FOk.fl {f : Fol} (h : FOk f) : f.floors.length ≤ 21 := by
  have := floorsE_len f.l
  rw [h.ok.ok] at this
  exact this
theorem FOk.new (key : Int) : FOk (newFol key) := ⟨newFol_ok key, Nat.zero_le _, fun e he => by cases he⟩
theorem FOk.take {f : Fol} (h : FOk f) {s : List UInt8} {M : List Ent} (hs : s.length ≤ 300) (hM : ∀ e ∈ M, e.f.who.length ≤ maxLen) : FOk (takeF f s M).2 := by
  refine ⟨take_ok h.ok s M, ?_, ?_⟩
  · by_cases hz : (takeF f s M).1 = 0
    · rw [(takeF_zero hz).2.2.2.2.2]; exact hs
    · rw [takeF_bad hz]; exact h.hd
  · by_cases hz : (takeF f s M).1 = 0
    · rw [(takeF_zero hz).2.2.2.2.2]
      intro e he
      rcases List.mem_append.1 he with h1 | h1
      · exact h.nm e h1
      · exact hM e h1
    · rw [takeF_bad hz]; exact h.nm
/-- All of a tree are right. -/
def TOk (T : List Fol) : Prop := ∀ i, i < T.length → FOk (nodeT T i)
theorem TOk.set {T : List Fol} (h : TOk T) {i : Nat} (hi : i < T.length) {f : Fol} (hf : FOk f) : TOk (T.set i f) := fun j hj => by
  rw [List.length_set] at hj
  rw [nodeT_set _ _ hi]
  split
  · exact hf
  · exact h j hj
theorem sinceE_names {L : List Ent} {n : Int} (h : ∀ e ∈ L, e.f.who.length ≤ maxLen) : ∀ e ∈ (sinceE L n).1, e.f.who.length ≤ maxLen := by
  unfold sinceE
  split
  · intro e he; cases he
  · split
    · intro e he; cases he
    · split
      · intro e he; cases he
      · intro e he; exact h e (List.mem_of_mem_drop he)
theorem sinceE_len (L : List Ent) (n : Int) : (sinceE L n).1.length ≤ L.length := by
  unfold sinceE
  split
  · simp
  · split
    · simp
    · split
      · simp
      · rw [List.length_drop]; omega
/-- The ways of a poll, one above and one below. -/
theorem poll_ways (T : List Fol) (A : List Int) (n : Nat) (h1 : 1 ≤ n) (h2 : n < T.length) : pollT T A (n : Int) =
    (if (nodeT T (upT A n)).head = [] then ((0, 5), T) else if (nodeT T (upT A n)).head = (nodeT T n).head then ((0, 12), T) else if (sinceE (nodeT T (upT A n)).l (nodeT T n).l.length).2.1 ≠ 0 then ((0, (sinceE (nodeT T (upT A n)).l (nodeT T n).l.length).2.1), T)
      else if (takeF (nodeT T n) (nodeT T (upT A n)).head (sinceE (nodeT T (upT A n)).l (nodeT T n).l.length).1).1 ≠ 0 then ((0, (takeF (nodeT T n) (nodeT T (upT A n)).head (sinceE (nodeT T (upT A n)).l (nodeT T n).l.length).1).1), T)
      else (((sinceE (nodeT T (upT A n)).l (nodeT T n).l.length).1.length, 0), T.set n (takeF (nodeT T n) (nodeT T (upT A n)).head (sinceE (nodeT T (upT A n)).l (nodeT T n).l.length).1).2) : (Int × Nat) × List Fol) := by
  unfold pollT
  rw [if_neg (by omega), Int.toNat_natCast]
theorem poll_out {T : List Fol} {A : List Int} {i : Int} (h : i < 1 ∨ (T.length : Int) ≤ i) : pollT T A i = ((0, 2), T) := by
  unfold pollT
  rw [if_pos h]
theorem poll_tok {T : List Fol} (A : List Int) (i : Int) (h : TOk T) (hup : ∀ i, 1 ≤ i → i < T.length → upT A i < T.length) : TOk (pollT T A i).2 := by
  by_cases h0 : i < 1 ∨ (T.length : Int) ≤ i
  · rw [poll_out h0]; exact h
  obtain ⟨n, rfl⟩ := Int.eq_ofNat_of_zero_le (show 0 ≤ i by omega)
  rw [poll_ways T A n (by omega) (by omega)]
  split
  · exact h
  split
  · exact h
  split
  · exact h
  split
  · exact h
  · have hu := h (upT A n) (hup n (by omega) (by omega))
    exact h.set (by omega) ((h n (by omega)).take hu.hd (sinceE_names hu.nm))
end Go.Proofs.YtadnjdchjoechaaGreatDoor

/- Gates: plain definitions: no program in sight. -/
namespace Go.Proofs.YtadnjdchjoechaaGreatDoor

structure Gat where
  name : List UInt8
  key : Int
  old : Int
  f : Fol
/-- Is the newest head? -/
def freshG (g : Gat) (now : Int) : Nat := if now < 0 ∨ 1000000 < now then 2 else if g.f.time < 0 ∨ g.f.time < now - g.old then 14 else 0
/-- What a gate answers. -/
def askG (g : Gat) (s : List UInt8) (now : Int) : Tick × Nat :=
  if freshG g now ≠ 0 then (noTick, freshG g now)
  else if (openT g.key s).2 ≠ 0 then (noTick, (openT g.key s).2)
  else if (openT g.key s).1.svc ≠ g.name then (noTick, 4)
  else if goodT (openT g.key s).1 now ≠ 0 then (noTick, goodT (openT g.key s).1 now)
  else if (openT g.key s).1.epoch < ofF g.f.floors (openT g.key s).1.who then (noTick, 13)
  else ((openT g.key s).1, 0)
theorem askG_stale {g : Gat} {s : List UInt8} {now : Int} (h : freshG g now ≠ 0) : askG g s now = (noTick, freshG g now) := by unfold askG; rw [if_pos h]
theorem askG_open {g : Gat} {s : List UInt8} {now : Int} (h : freshG g now = 0) (h2 : (openT g.key s).2 ≠ 0) : askG g s now = (noTick, (openT g.key s).2) := by
  unfold askG; rw [if_neg (by simpa using h), if_pos h2]
theorem askG_name {g : Gat} {s : List UInt8} {now : Int} (h : freshG g now = 0) (h2 : (openT g.key s).2 = 0) (h3 : (openT g.key s).1.svc ≠ g.name) : askG g s now = (noTick, 4) := by
  unfold askG; rw [if_neg (by simpa using h), if_neg (by simpa using h2), if_pos h3]
theorem askG_good {g : Gat} {s : List UInt8} {now : Int} (h : freshG g now = 0) (h2 : (openT g.key s).2 = 0) (h3 : (openT g.key s).1.svc = g.name) (h4 : goodT (openT g.key s).1 now ≠ 0) : askG g s now = (noTick, goodT (openT g.key s).1 now) := by
  unfold askG; rw [if_neg (by simpa using h), if_neg (by simpa using h2), if_neg (by simpa using h3), if_pos h4]
theorem askG_floor {g : Gat} {s : List UInt8} {now : Int} (h : freshG g now = 0) (h2 : (openT g.key s).2 = 0) (h3 : (openT g.key s).1.svc = g.name) (h4 : goodT (openT g.key s).1 now = 0) (h5 : (openT g.key s).1.epoch < ofF g.f.floors (openT g.key s).1.who) : askG g s now = (noTick, 13) := by
  unfold askG; rw [if_neg (by simpa using h), if_neg (by simpa using h2), if_neg (by simpa using h3), if_neg (by simpa using h4), if_pos h5]
theorem askG_pass {g : Gat} {s : List UInt8} {now : Int} (h : freshG g now = 0) (h2 : (openT g.key s).2 = 0) (h3 : (openT g.key s).1.svc = g.name) (h4 : goodT (openT g.key s).1 now = 0) (h5 : ¬ (openT g.key s).1.epoch < ofF g.f.floors (openT g.key s).1.who) : askG g s now = ((openT g.key s).1, 0) := by
  unfold askG; rw [if_neg (by simpa using h), if_neg (by simpa using h2), if_neg (by simpa using h3), if_neg (by simpa using h4), if_neg h5]
theorem askG_zero {g : Gat} {s : List UInt8} {now : Int} (h : (askG g s now).2 = 0) : freshG g now = 0 ∧ (openT g.key s).2 = 0 ∧ (openT g.key s).1.svc = g.name ∧ goodT (openT g.key s).1 now = 0 ∧ ofF g.f.floors (openT g.key s).1.who ≤ (openT g.key s).1.epoch ∧ (askG g s now).1 = (openT g.key s).1 := by
  by_cases h1 : freshG g now = 0
  case neg => rw [askG_stale h1] at h; exact absurd h h1
  by_cases h2 : (openT g.key s).2 = 0
  case neg => rw [askG_open h1 h2] at h; exact absurd h h2
  by_cases h3 : (openT g.key s).1.svc = g.name
  case neg => rw [askG_name h1 h2 h3] at h; cases h
  by_cases h4 : goodT (openT g.key s).1 now = 0
  case neg => rw [askG_good h1 h2 h3 h4] at h; exact absurd h h4
  by_cases h5 : (openT g.key s).1.epoch < ofF g.f.floors (openT g.key s).1.who
  · rw [askG_floor h1 h2 h3 h4 h5] at h; cases h
  · exact ⟨h1, h2, h3, h4, by omega, by rw [askG_pass h1 h2 h3 h4 h5]⟩
theorem askG_bad {g : Gat} {s : List UInt8} {now : Int} (h : (askG g s now).2 ≠ 0) : (askG g s now).1 = noTick := by
  by_cases h1 : freshG g now = 0
  case neg => rw [askG_stale h1]
  by_cases h2 : (openT g.key s).2 = 0
  case neg => rw [askG_open h1 h2]
  by_cases h3 : (openT g.key s).1.svc = g.name
  case neg => rw [askG_name h1 h2 h3]
  by_cases h4 : goodT (openT g.key s).1 now = 0
  case neg => rw [askG_good h1 h2 h3 h4]
  by_cases h5 : (openT g.key s).1.epoch < ofF g.f.floors (openT g.key s).1.who
  · rw [askG_floor h1 h2 h3 h4 h5]
  · rw [askG_pass h1 h2 h3 h4 h5] at h; exact absurd rfl h
theorem askG_iff {g : Gat} {s : List UInt8} {now : Int} {t : Tick} (h : openT g.key s = (t, 0)) (hn : t.svc = g.name) : (askG g s now).2 = 0 ↔ (freshG g now = 0 ∧ goodT t now = 0 ∧ ofF g.f.floors t.who ≤ t.epoch) := by
  constructor
  · intro h1
    obtain ⟨a, _, _, b, c, _⟩ := askG_zero h1
    rw [h] at b c
    exact ⟨a, b, c⟩
  · rintro ⟨a, b, c⟩
    rw [askG_pass a (by rw [h]) (by rw [h]; exact hn) (by rw [h]; exact b) (by rw [h]; show ¬ t.epoch < ofF g.f.floors t.who; omega)]
/-- What New answers. -/
def newG (n : List UInt8) (key realm old : Int) : Nat := if isName n = false then 4 else if isKey key = false ∨ isKey realm = false then 10 else if old < 0 ∨ 1000000 < old then 2 else 0
theorem freshG_code (g : Gat) (now : Int) : freshG g now ≤ 16 := by
  unfold freshG
  split
  · decide
  split <;> decide
theorem freshG_zero {g : Gat} {now : Int} (h : freshG g now = 0) : 0 ≤ now ∧ now ≤ 1000000 ∧ 0 ≤ g.f.time ∧ now - g.old ≤ g.f.time := by
  unfold freshG at h
  split at h
  · cases h
  rename_i h1
  split at h
  · cases h
  rename_i h2
  omega
theorem newG_zero {n : List UInt8} {key realm old : Int} (h : newG n key realm old = 0) : isName n = true ∧ isKey key = true ∧ isKey realm = true ∧ 0 ≤ old ∧ old ≤ 1000000 := by
  unfold newG at h
  split at h
  · cases h
  rename_i h1
  split at h
  · cases h
  rename_i h2
  split at h
  · cases h
  rename_i h3
  refine ⟨by simpa using h1, ?_, ?_, by omega, by omega⟩
  · cases hk : isKey key with
    | true => rfl
    | false => exact absurd (.inl hk) h2
  · cases hk : isKey realm with
    | true => rfl
    | false => exact absurd (.inr hk) h2
end Go.Proofs.YtadnjdchjoechaaGreatDoor

/- The walks of the reference's texts: digits, names, words, numbers, cut, glue. -/
namespace Go.Proofs.YtadnjdchjoechaaGreatDoor
open Go.RowKit Go.Maps

theorem str_cat (a b : List UInt8) : bs a ++ bs b = bs (a ++ b) := by
  apply ByteArray.ext
  simp [bs]
theorem ret_string {a b : ByteArray} (h : a = b) : Ending.returned (.string a) = .returned (.string b) := by rw [h]
theorem digit_byte (n : Int) (h0 : 48 ≤ n) (h1 : n ≤ 57) : ((UInt8.ofNat n.toNat).toNat : Int) = n := by
  simp
  omega
set_option maxRecDepth 100000 in
theorem byte_any (n : Int) (w : World) (h0 : 48 ≤ n) (h1 : n ≤ 57) :
    Calls Tryz.prog 139 #[.int .i64 n] w fun e w' => e = .returned (.string (bs [UInt8.ofNat n.toNat])) ∧ Below w.heap.size w w' := by
  have hcb := run_convert_bytes_back (P := Tryz.prog) (w.alloc (.cells #[.int .u8 n] 5)) 155 9 5 ⟨w.heap.size, 0, none⟩ 1 [UInt8.ofNat n.toNat] Tryz.underlying155 Tryz.underlying5 Tryz.underlying9 (by
    intro i hi
    have : i = 0 := by simpa using hi
    subst this
    rw [List.getElem_singleton, digit_byte n h0 h1]
    simp [Addr.add])
  rw [show [UInt8.ofNat n.toNat].length = 1 from rfl] at hcb
  go_enter Tryz.func139, Tryz.ntmps139
  go_wp2_with fail
  go_ret
  exact ⟨rfl, (Below.refl _ _).alloc (Nat.le_refl _) _⟩

theorem neg_tdiv (u : Nat) : (-(u : Int)).tdiv 10 = -((u / 10 : Nat) : Int) := by
  rw [Int.neg_tdiv]
  rfl
theorem neg_tmod (u : Nat) : (-(u : Int)).tmod 10 = -((u % 10 : Nat) : Int) := by
  rw [Int.neg_tmod]
  rfl
theorem dec_len {u : Nat} (h : u ≤ 9223372036854775807) : (Lib.decDigits u).length ≤ 19 :=
  decDigits_len 18 u (by have : (10 : Nat) ^ (18 + 1) = 10000000000000000000 := by decide
                         omega)
set_option maxRecDepth 100000 in
theorem below_any (u : Nat) : ∀ (w : World), u ≤ 9223372036854775807 →
    Calls Tryz.prog 104 #[.int .i64 (-(u : Int))] w fun e w' => e = .returned (.string (bs (Lib.decDigits u))) ∧ Below w.heap.size w w' := by
  induction u using Nat.strongRecOn with
  | _ u ih =>
    intro w hu
    by_cases h : u < 10
    · have hd := Lib.hid (show Lib.decDigits u = [UInt8.ofNat (48 + u)] by rw [Lib.decDigits, dif_pos h])
      have hb := Lib.hid (byte_any (48 + (u : Int)) w (by omega) (by omega))
      have ht : decide (-10 < -(u : Int)) = true := decide_eq_true (by omega)
      clear ih
      go_enter Tryz.func104, Tryz.ntmps104
      go_wp2_with fail
      refine hb.out.mono ?_
      rintro e w1 ⟨rfl, hb1⟩
      go_wp2_with fail
      go_ret
      exact ⟨ret_string (by rw [hd.out]; congr 1), hb1⟩
    · have hd := Lib.hid (show Lib.decDigits u = Lib.decDigits (u / 10) ++ [UInt8.ofNat (48 + u % 10)] by rw [Lib.decDigits, dif_neg h])
      have ht : decide (-10 < -(u : Int)) = false := decide_eq_false (by omega)
      have hi := Lib.hid (ih (u / 10) (by omega))
      have hb := Lib.hid (fun wx => byte_any (48 + ((u % 10 : Nat) : Int)) wx (by omega) (by omega))
      have hs1 : (bs (Lib.decDigits (u / 10))).size ≤ 19 := by rw [bs_size]; exact dec_len (by omega)
      rw [show (48 + ((u % 10 : Nat) : Int)).toNat = 48 + u % 10 by omega] at hb
      have hs2 : (bs [UInt8.ofNat (48 + u % 10)]).size ≤ 1 := by rw [bs_size]; exact Nat.le_refl 1
      have hfin := Lib.hid (show bs (Lib.decDigits (u / 10)) ++ bs [UInt8.ofNat (48 + u % 10)] = bs (Lib.decDigits u) from (str_cat _ _).trans (by rw [hd.out]))
      generalize bs [UInt8.ofNat (48 + u % 10)] = q at *
      clear ih
      go_enter Tryz.func104, Tryz.ntmps104
      go_wp2_with fail
      rw [show (-((u : Int) / 10)) = -((u / 10 : Nat) : Int) by omega]
      refine (hi.out _ (by omega)).mono ?_
      rintro e w1 ⟨rfl, hb1⟩
      go_wp2_with fail
      rw [show (48 : Int) + (u : Int) % 10 = 48 + ((u % 10 : Nat) : Int) by omega]
      refine (hb.out _).mono ?_
      rintro e w2 ⟨rfl, hb2⟩
      go_wp2_with fail
      go_ret
      exact ⟨ret_string hfin.out, below_trans hb1 hb2⟩
set_option maxRecDepth 100000 in
theorem decimal_any (n : Int) (w : World) (h0 : -9223372036854775807 ≤ n) (h1 : n ≤ 9223372036854775807) :
    Calls Tryz.prog 63 #[.int .i64 n] w fun e w' => e = .returned (.string (bs (Lib.itoa n))) ∧ Below w.heap.size w w' := by
  by_cases h : n < 0
  · obtain ⟨u, rfl⟩ : ∃ u : Nat, n = -(u : Int) := ⟨n.natAbs, by omega⟩
    have hr := Lib.hid (show Lib.itoa (-(u : Int)) = 45 :: Lib.decDigits u by unfold Lib.itoa; rw [if_pos h]; congr 2; omega)
    have hb := Lib.hid (below_any u w (by omega))
    have hs1 : (bs (Lib.decDigits u)).size ≤ 19 := by rw [bs_size]; exact dec_len (by omega)
    have ht : 0 < u := by omega
    clear h
    go_enter Tryz.func63, Tryz.ntmps63
    go_wp2_with fail
    refine hb.out.mono ?_
    rintro e w1 ⟨rfl, hb1⟩
    go_wp2_with fail
    go_ret
    exact ⟨ret_string (by rw [hr.out]; exact (str_cat [45] _)), hb1⟩
  · obtain ⟨u, rfl⟩ : ∃ u : Nat, n = (u : Int) := ⟨n.toNat, by omega⟩
    have hr := Lib.hid (show Lib.itoa (u : Int) = Lib.decDigits u by unfold Lib.itoa; rw [if_neg h, Int.toNat_natCast])
    have hb := Lib.hid (below_any u w (by omega))
    go_enter Tryz.func63, Tryz.ntmps63
    go_wp2_with fail
    refine hb.out.mono ?_
    rintro e w1 ⟨rfl, hb1⟩
    go_wp2_with fail
    go_ret
    exact ⟨ret_string (by rw [hr.out]), hb1⟩

/-! Names, words, numbers. -/
theorem ret_bool2 {a b : Bool} (h : a = b) : Ending.returned (.bool a) = .returned (.bool b) := by rw [h]
set_option maxRecDepth 100000 in
theorem small_any (c : UInt8) (w : World) :
    Calls Tryz.prog 73 #[.int .u8 (c.toNat : Int)] w fun e w' => e = .returned (.bool (smallB c)) ∧ w = w' := by
  have hr := Lib.hid (show smallB c = ((decide (97 ≤ c.toNat) && decide (c.toNat ≤ 122)) || (decide (48 ≤ c.toNat) && decide (c.toNat ≤ 57))) by
    unfold smallB
    simp only [UInt8.le_iff_toNat_le]
    rfl)
  have hc := UInt8.toNat_lt c
  generalize c.toNat = n at *
  by_cases h1 : 97 ≤ n <;> by_cases h2 : n ≤ 122 <;> by_cases h3 : 48 ≤ n <;> by_cases h4 : n ≤ 57
  all_goals first | (exfalso; omega) | skip
  all_goals
    go_enter Tryz.func73, Tryz.ntmps73
    go_wp2_with fail
    go_ret
    exact ⟨ret_bool2 (by rw [hr.out]; simp [h1, h2, h3, h4]; try omega), rfl⟩
end Go.Proofs.YtadnjdchjoechaaGreatDoor
