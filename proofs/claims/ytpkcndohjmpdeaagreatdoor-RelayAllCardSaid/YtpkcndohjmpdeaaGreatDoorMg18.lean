/- FedL, FolL, FolP, FolH, NumArg, RelM, RelW -/
import Derived.Test.YtpkcndohjmpdeaaGreatDoorMg15
import Derived.Test.YtpkcndohjmpdeaaGreatDoorMg16
import Derived.Test.YtpkcndohjmpdeaaGreatDoorMg17
import Derived.Test.YtpkcndohjmpdeaaGreatDoorMg9
import Derived.Test.YtpkcndohjmpdeaaGreatDoorMg4
import Derived.Test.YtpkcndohjmpdeaaGreatDoorMg7
import Derived.Test.YtpkcndohjmpdeaaGreatDoorMg5
/- The closed fact about feeds: walked. -/
namespace Go.Proofs.YtpkcndohjmpdeaaGreatDoor
open Go.RowKit

def annE : List UInt8 := [97, 110, 110]
def oneE : Ent := ⟨1, 3, ⟨annE, 2⟩⟩
theorem fed_add : addE [] 3 ⟨annE, 2⟩ = ([oneE], 0, -1) := by kernel_rfl
theorem fed_floors : floorsE [oneE] = ([⟨annE, 2⟩], 0, -1) := by kernel_rfl
theorem fed_head : (headOf 7 [oneE] 4).2.1 = 0 := headOf_of (by kernel_rfl) (by rw [fed_floors]) (by decide) (by decide) (by rw [show wasE [oneE] [oneE].length = 3 from by kernel_rfl]; decide)
theorem sealText_len {k : Int} {W : List (List UInt8)} (h10 : W.length ≤ 10) (hw : ∀ x ∈ W, isWord x = true) : (sealText k W).length ≤ 300 := by
  have hg := glue_len 32 W (fun x hx => ((isWord_iff x).1 (hw x hx)).2.1)
  have hm := markOf_bd k (glue 32 W)
  have hil := itoa_len10 (n := (markOf k (glue 32 W)).1) hm.1 (by omega)
  unfold sealText
  simp
  omega
theorem headOf_len {key : Int} {L : List Ent} {time : Int} : (headOf key L time).1.length ≤ 300 := by
  by_cases h : (headOf key L time).2.1 = 0
  · obtain ⟨_, hf, h0, h1, _, he, _⟩ := headOf_zero h
    have hl := (checkE_zero (L := L) (by rw [(floorsE_zero hf).1])).1
    rw [he]
    exact sealText_len (by simp [headWords]) (headWords_words (by omega) (by omega) (sumF_bd _))
  · rw [headOf_bad h]; simp
theorem box3 (x : World) (u0 u1 u2 : Value) (T : TypeId) : ((x.alloc (.cells #[u0, u1, u2] T)).cell? ⟨x.heap.size, 0, none⟩ = some u0 ∧ (x.alloc (.cells #[u0, u1, u2] T)).cell? ⟨x.heap.size, 1, none⟩ = some u1 ∧ (x.alloc (.cells #[u0, u1, u2] T)).cell? ⟨x.heap.size, 2, none⟩ = some u2) := (head_kept (heap_alloc_new x _)).1
end Go.Proofs.YtpkcndohjmpdeaaGreatDoor

/- The closed fact about followers: walked. -/
namespace Go.Proofs.YtpkcndohjmpdeaaGreatDoor
open Go.RowKit

theorem followed_take : takeF (newFol 7) (headOf 7 [oneE] 4).1 [oneE] = (0, ⟨7, [oneE], [⟨annE, 2⟩], 4, (headOf 7 [oneE] 4).1⟩) := by
  obtain ⟨_, _, _, _, _, _, ho⟩ := headOf_zero fed_head
  have h := takeF_of (f := newFol 7) (s := (headOf 7 [oneE] 4).1) (M := [oneE]) (by show (openH 7 _).2 = 0; rw [ho]) (by show -1 ≤ (openH 7 _).1.time; rw [ho]; decide) (by show (openH 7 _).1.seq = _; rw [ho]; rfl) (by show (floorsE [oneE]).2.1 = 0; rw [fed_floors]) (by show sumF (floorsE [oneE]).1 = (openH 7 _).1.sum; rw [ho])
  rw [h]
  show (0, (⟨7, [oneE], (floorsE [oneE]).1, (openH 7 (headOf 7 [oneE] 4).1).1.time, (headOf 7 [oneE] 4).1⟩ : Fol)) = _
  rw [ho, fed_floors]
set_option maxHeartbeats 4000000 in
set_option maxRecDepth 100000 in
theorem followed_any {E : Nat → Addr} (w : World) (hL : LaidS E w) :
    Calls Tryz.prog 6 #[] w fun e w' => e = .returned (.bool true) ∧ Below w.heap.size w w' := by
  have hnw := Lib.hid (newFol_any (E := E) 7 w hL.laid)
  have had := Lib.hid (fun wx (hx : Below w.heap.size w wx) => (by
    have h := add_ent (E := E) (.slice none 0 0) [] 3 ⟨annE, 2⟩ wx (hL.below hx).laid (AtG.nil _) (fun e he => by cases he) (by decide)
    rw [fed_add] at h
    exact h : Calls Tryz.prog 33 #[.slice none 0 0, .int .i64 3, (⟨annE, 2⟩ : Flo).val] wx fun e w' => EntRes E wx.heap.size w' ([oneE], 0, -1) e ∧ Below wx.heap.size wx w'))
  have hmk := Lib.hid (fun v wx (hx : Below w.heap.size w wx) (hv : EntsAt wx v [oneE]) => makeF_any (E := E) 7 v [oneE] 4 wx (hL.below hx) hv (fun e he => by simp at he; subst he; decide))
  have hcode := Lib.hid fed_head
  have htk := Lib.hid (fun b v wx (hx : Below w.heap.size w wx) (hF : FolAt wx w.heap.size b (newFol 7)) (hv : EntsAt wx v [oneE]) => (by
    have h := take_fol (E := E) w.heap.size b (newFol 7) (headOf 7 [oneE] 4).1 v [oneE] wx (hL.below hx) hF hv (fun e he => by simp at he; subst he; decide) (fun e he => by cases he) (by decide) (by have := @headOf_len 7 [oneE] 4; omega) hx.size
    rw [followed_take] at h
    exact h : Calls Tryz.prog 11 #[.pointer (some ⟨b, 0, none⟩), .string (bs (headOf 7 [oneE] 4).1), v] wx fun e w' => e = .returned (errV E 0) ∧ FolAt w' w.heap.size b ⟨7, [oneE], [⟨annE, 2⟩], 4, (headOf 7 [oneE] 4).1⟩ ∧ Keeps (· = b) wx w'))
  generalize headOf 7 [oneE] 4 = H at *
  obtain ⟨H1, H2, H3⟩ := H
  clear hL
  go_enter Tryz.func6, Tryz.ntmps6
  go_wp2_with fail
  refine hnw.out.mono ?_
  rintro e w1 ⟨hor, hb1⟩
  rcases hor with ⟨hk, _⟩ | ⟨_, b, rfl, hF1⟩
  · exact absurd hk (by decide)
  have hF1H := Lib.hid hF1
  have had1 := Lib.hid (had.out _ hb1)
  have hb1H := Lib.hid hb1
  clear hF1 hb1 hnw had
  go_wp2_with fail
  refine had1.out.mono ?_
  rintro e w2 ⟨⟨v2, ev2, rfl, hrow2, he2⟩, hb2⟩
  obtain ⟨rfl, _⟩ := he2.zero rfl
  have hmk2 := Lib.hid (hmk.out _ _ (below_trans hb1H.out hb2) (EntRow.at_ hrow2))
  have hrow2H := Lib.hid hrow2
  have hF2 := Lib.hid (hF1H.out.below hb2)
  have hb2H := Lib.hid (below_trans hb1H.out hb2)
  clear hrow2 he2 hb2 had1 hmk
  go_wp2_with fail
  refine hmk2.out.mono ?_
  rintro e w3 ⟨⟨ev3, rfl, he3⟩, hb3⟩
  obtain ⟨rfl, _⟩ := he3.zero hcode.out
  dsimp only
  have hF3 := hF2.out.below hb3
  have hb3H := Lib.hid (below_trans hb2H.out hb3)
  have htk3 := Lib.hid (htk.out b _ _ (below_trans hb2H.out hb3) hF3 (EntRow.at_ (RowG.below hrow2H.out hb3)))
  clear he3 hb3 hF3 hmk2 htk
  go_wp2_with fail
  refine htk3.out.mono ?_
  rintro e w4 ⟨rfl, hF4, hk4⟩
  rw [errV_zero]
  have hfl4 := Lib.hid (floors_fol w.heap.size b _ w4 hF4 (show 1 ≤ 1000 from by decide))
  have hF4H := Lib.hid hF4
  have hb4 := Lib.hid (show Below w.heap.size w w4 from ⟨hk4.os.trans hb3H.out.os, hk4.tape.trans hb3H.out.tape, hk4.output.trans hb3H.out.output, Nat.le_trans hb3H.out.size hk4.size, fun k hk => (hk4.block k (Nat.lt_of_lt_of_le hk hb3H.out.size) (fun e => by have := hF4.1; omega)).trans (hb3H.out.block k hk)⟩)
  clear hF4 hk4 htk3
  go_wp2_with fail
  refine hfl4.out.mono ?_
  rintro e w5 ⟨v5, rfl, hrow5, hb5⟩
  have hat5 := floorsAt_of (RowG.at_ (floRow_G.1 hrow5))
  obtain ⟨a5, c5, hv5, _, _, hcs⟩ := hat5
  obtain ⟨bb, oo, rfl, h0, h1⟩ := hcs 0 (by decide)
  simp only [List.getElem_cons_zero, Nat.zero_mul, Nat.add_zero] at h0 h1
  simp only [List.length_cons, List.length_nil, Nat.zero_add] at hv5
  subst hv5
  have hF5 := Lib.hid (hF4H.out.below hb5)
  have hb5H := Lib.hid (below_trans hb4.out hb5)
  have h1H := Lib.hid h1
  have hsq := Lib.hid (seq_fol w.heap.size b _ w5 hF5.out)
  clear hcs hrow5 hb5 h0 h1 hfl4
  go_wp2_with fail
  refine hsq.out.mono ?_
  rintro e w6 ⟨rfl, hb6⟩
  have htm := Lib.hid (time_fol w.heap.size b _ w6 (hF5.out.below hb6))
  have h1H := Lib.hid (cell_below hb6 h1H.out)
  have hb6H := Lib.hid (below_trans hb5H.out hb6)
  clear hb6 hsq
  dsimp only
  go_wp2_with fail
  refine htm.out.mono ?_
  rintro e w7 ⟨rfl, hb7⟩
  have h1 := cell_below hb7 h1H.out
  have hb7H := Lib.hid (below_trans hb6H.out hb7)
  clear hb7 htm
  dsimp only
  go_wp2_with fail
  go_ret
  exact ⟨rfl, hb7H.out⟩
end Go.Proofs.YtpkcndohjmpdeaaGreatDoor

/- A feed taken step by step ends as a feed taken at once: no program in sight. -/
namespace Go.Proofs.YtpkcndohjmpdeaaGreatDoor

/-- A follower that has the first n entries of L. -/
structure Mid (key : Int) (L : List Ent) (n : Nat) (g : Fol) : Prop where
  key : g.key = key
  le : n ≤ L.length
  l : g.l = L.take n
  t : g.time ≤ wasE L n
theorem mid_new (key : Int) (L : List Ent) : Mid key L 0 (newFol key) := ⟨rfl, Nat.zero_le _, rfl, by show -1 ≤ wasE L 0; unfold wasE; rw [if_pos rfl]; decide⟩
theorem floorsE_take {L : List Ent} (h : (floorsE L).2.1 = 0) (n : Nat) : (floorsE (L.take n)).2.1 = 0 := by
  have := floorsE_left (L := L.take n) (M := L.drop n) (by rw [List.take_append_drop]; exact h)
  exact this.1
theorem wasE_take {L : List Ent} {n : Nat} (hn : n ≤ L.length) : wasE (L.take n) (L.take n).length = wasE L n := by
  have hl : (L.take n).length = n := by rw [List.length_take]; omega
  rw [hl]
  unfold wasE
  by_cases h0 : n = 0
  · rw [if_pos h0, if_pos h0]
  · rw [if_neg h0, if_neg h0]
    have := getD_left (L.take n) (L.drop n) noEnt (i := n - 1) (by rw [hl]; omega)
    rw [List.take_append_drop] at this
    rw [this]
theorem mid_head {key : Int} {L : List Ent} {n : Nat} (hk : isKey key = true) (hf : (floorsE L).2.1 = 0) (hn : n ≤ L.length) : (headOf key (L.take n) (wasE L n)).2.1 = 0 := by
  have hc : (checkE L).1 = 0 := by rw [(floorsE_zero hf).1]
  have := wasE_bd hc hn
  exact headOf_of hk (floorsE_take hf n) this.1 this.2 (by rw [wasE_take hn]; exact Int.le_refl _)
theorem mid_step {key : Int} {L : List Ent} {have_ n : Nat} {g : Fol} (hM : Mid key L have_ g) (hk : isKey key = true) (hf : (floorsE L).2.1 = 0) (h : have_ ≤ n) (hn : n ≤ L.length) :
    takeF g (headOf key (L.take n) (wasE L n)).1 ((L.take n).drop have_) = (0, ⟨key, L.take n, (floorsE (L.take n)).1, wasE L n, (headOf key (L.take n) (wasE L n)).1⟩) ∧ Mid key L n ⟨key, L.take n, (floorsE (L.take n)).1, wasE L n, (headOf key (L.take n) (wasE L n)).1⟩ := by
  have hz := mid_head hk hf hn
  obtain ⟨_, _, _, _, _, _, ho⟩ := headOf_zero hz
  have hc : (checkE L).1 = 0 := by rw [(floorsE_zero hf).1]
  have hmono := wasE_mono hc h hn
  have hl : (L.take n).length = n := by rw [List.length_take]; omega
  have ht : L.take have_ = (L.take n).take have_ := by rw [List.take_take, Nat.min_eq_left h]
  have hcat : g.l ++ (L.take n).drop have_ = L.take n := by rw [hM.l, ht, List.take_append_drop]
  have hgl : g.l.length = have_ := by rw [hM.l, List.length_take]; have := hM.le; omega
  have hdl : ((L.take n).drop have_).length = n - have_ := by rw [List.length_drop, hl]
  have key' := hM.key
  subst key'
  have := takeF_of (f := g) (s := (headOf g.key (L.take n) (wasE L n)).1) (M := (L.take n).drop have_) (by rw [ho]) (by rw [ho]; have := hM.t; dsimp only; omega) (by rw [ho, hgl, hdl]; dsimp only; rw [hl]; omega) (by rw [hcat]; exact floorsE_take hf n) (by rw [hcat, ho])
  rw [this, hcat, ho]
  exact ⟨rfl, rfl, hn, rfl, Int.le_refl _⟩
theorem mid_last {key : Int} {L : List Ent} {have_ : Nat} {g : Fol} {time : Int} (hM : Mid key L have_ g) (hz : (headOf key L time).2.1 = 0) :
    takeF g (headOf key L time).1 (L.drop have_) = (0, ⟨key, L, (floorsE L).1, time, (headOf key L time).1⟩) := by
  obtain ⟨_, hf, _, _, hw, _, ho⟩ := headOf_zero hz
  have hc : (checkE L).1 = 0 := by rw [(floorsE_zero hf).1]
  have hmono := wasE_mono hc hM.le (Nat.le_refl L.length)
  have hcat : g.l ++ L.drop have_ = L := by rw [hM.l, List.take_append_drop]
  have hgl : g.l.length = have_ := by rw [hM.l, List.length_take]; have := hM.le; omega
  have hdl : (L.drop have_).length = L.length - have_ := List.length_drop
  have hle := hM.le
  have key' := hM.key
  subst key'
  have := takeF_of (f := g) (s := (headOf g.key L time).1) (M := L.drop have_) (by rw [ho]) (by rw [ho]; have := hM.t; dsimp only; omega) (by rw [ho, hgl, hdl]; dsimp only; omega) (by rw [hcat]; exact hf) (by rw [hcat, ho])
  rw [this, hcat, ho]
/-- All at once. -/
theorem mid_once {key : Int} {L : List Ent} {time : Int} (hz : (headOf key L time).2.1 = 0) : takeF (newFol key) (headOf key L time).1 L = (0, ⟨key, L, (floorsE L).1, time, (headOf key L time).1⟩) := by
  have := mid_last (mid_new key L) hz
  rw [List.drop_zero] at this
  exact this
end Go.Proofs.YtpkcndohjmpdeaaGreatDoor

/- Two followers side by side: lemmas. -/
namespace Go.Proofs.YtpkcndohjmpdeaaGreatDoor
open Go.RowKit

theorem below_keeps {w w1 w2 : World} {b : Nat} (h : Below w.heap.size w w1) (hb : w.heap.size ≤ b) (hk : Keeps (· = b) w1 w2) : Below w.heap.size w w2 :=
  ⟨hk.os.trans h.os, hk.tape.trans h.tape, hk.output.trans h.output, Nat.le_trans h.size hk.size, fun k hk' => (hk.block k (Nat.lt_of_lt_of_le hk' h.size) (fun e => by omega)).trans (h.block k hk')⟩
/-- Another follower is kept. -/
theorem FolAt.other {w w' : World} {base b b' : Nat} {f f' : Fol} (h : FolAt w base b f) (h' : FolAt w base b' f') (hne : b ≠ b') (hk : Keeps (· = b') w w') : FolAt w' base b f :=
  h.keeps hk hne (fun k hk => by
    obtain ⟨_, u, v, h1, _⟩ := h'
    subst hk
    exact ⟨_, h1⟩)
theorem FolAt.lt {w : World} {base b : Nat} {f : Fol} (h : FolAt w base b f) : b < w.heap.size := by
  obtain ⟨_, u, v, h1, _⟩ := h
  exact (Array.getElem?_eq_some_iff.1 h1).1
theorem FolAt.mono {w : World} {base base' b : Nat} {f : Fol} (h : FolAt w base b f) (hb : base' ≤ base) : FolAt w base' b f := by
  obtain ⟨h0, u, v, h1, h2, h3⟩ := h
  exact ⟨Nat.le_trans hb h0, u, v, h1, RowG.mono h2 hb, h3.mono hb⟩
/-- l[i:j]. -/
theorem ents_cut {w : World} {a : Option Addr} {c : Nat} {L : List Ent} (h : EntsAt w (.slice a L.length c) L) {n : Nat} (hn : n ≤ L.length) : EntsAt w (.slice a (L.take n).length c) (L.take n) := by
  have := AtG.take h hn
  rwa [show (L.take n).length = n by rw [List.length_take]; omega]
end Go.Proofs.YtpkcndohjmpdeaaGreatDoor

/- Numbers that came in: no walk. -/
namespace Go.Proofs.YtpkcndohjmpdeaaGreatDoor
open Go.ChangeShapes Go.WideShapes Go.ChangeAt Go.RowKit Go.ChangeMaps Go.Deep

def numC : Cells Int where
  k := 1
  pos := by decide
  f := fun n => [.int .i64 n]
  len := fun _ => rfl
  one := fun e u hu => by
    simp only [List.mem_cons, List.mem_nil_iff, or_false] at hu
    subst hu
    rfl
set_option maxRecDepth 100000 in
theorem numsC_of {H : Type} {enc : TypeId × Value → H} {W : World} {base : Nat} {spare : Nat → Bool} {held : Bool} {fuel : Nat} {a : Option Addr} {len cap : Nat} {x : DataW H × List MemPlace}
    (h : DataW.trod enc Tryz.prog W base spare held fuel 23 [.slice a len cap] = some x) : ∃ A, AtG numC W (.slice a len cap) A := by
  have hcap := slice_cap Tryz.underlying23 h
  rcases slice_cells Tryz.underlying23 h with h0 | ⟨a', len', cap', n, hcs, hm, hi⟩
  · cases h0
    exact ⟨[], AtG.nil _⟩
  · cases hcs
    have hC : Tryz.prog.cellsOf 3 = 1 := by kernel_rfl
    rw [hC] at hi
    obtain ⟨A, hl, hA⟩ := list_of (p := fun i (q : Int) => (i = 0 → a' = ⟨a'.block, a'.off, none⟩) ∧ (∀ j u, (numC.f q)[j]? = some u → W.cell? ⟨a'.block, a'.off + i * 1 + j, none⟩ = some u)) len (fun i hil => by
      obtain ⟨cs, y, hcl, hat, ha, ht⟩ := hi i hil
      match cs, hcl with
      | [k0], _ =>
        obtain ⟨q, rfl, _⟩ := read_int Tryz.underlying3 ht
        refine ⟨q, fun h0 => ha 0 (by decide) (by rw [h0]), fun j u hu => ?_⟩
        have hj : j < 1 := (List.getElem?_eq_some_iff.1 hu).1
        have := hat j hj
        rw [show ([Value.int .i64 q] : List Value)[j]? = some u from hu] at this
        simpa [Nat.add_assoc] using this)
    subst hl
    exact ⟨A, some a', cap, rfl, hm, hcap, (fun e => by cases e), fun i hil => ⟨a'.block, a'.off, congrArg some ((hA 0 (Nat.lt_of_le_of_lt (Nat.zero_le _) hil)).1 rfl), (hA i hil).2⟩⟩
end Go.Proofs.YtpkcndohjmpdeaaGreatDoor

/- Trees of followers in memory: no walk. -/
namespace Go.Proofs.YtpkcndohjmpdeaaGreatDoor
open Go.RowKit

/-- Pointers' cells. -/
def ptrC : Cells Nat where
  k := 1
  pos := by decide
  f := fun p => [.pointer (some ⟨p, 0, none⟩)]
  len := fun _ => rfl
  one := fun e u hu => by
    simp only [List.mem_cons, List.mem_nil_iff, or_false] at hu
    subst hu
    rfl
theorem info_ptr : (Tryz.prog.info? 29).map (fun i => (i.zero, i.size, i.bytes)) = some (some (.pointer none), ptrC.k, 8) := by kernel_rfl
theorem info_num : (Tryz.prog.info? 3).map (fun i => (i.zero, i.size, i.bytes)) = some (some (.int .i64 0), numC.k, 8) := by kernel_rfl
theorem ptr_ne_fol : (29 : TypeId) ≠ 78 := by decide
theorem num_ne_fol : (3 : TypeId) ≠ 78 := by decide
theorem tree_ne_fol : (99 : TypeId) ≠ 78 := by decide
theorem ptr_ne_tree : (29 : TypeId) ≠ 99 := by decide
theorem num_ne_tree : (3 : TypeId) ≠ 99 := by decide
theorem ptr_ne_num : (29 : TypeId) ≠ 3 := by decide

structure TreeAt (w : World) (base b : Nat) (ps : List Nat) (T : List Fol) (A : List Int) : Prop where
  ge : base ≤ b
  blk : ∃ u v, w.heap[b]? = some (.cells #[u, v] 99 (0, 0)) ∧ RowG ptrC w base 29 u ps ∧ RowG numC w base 3 v A
  len : ps.length = T.length
  nd : ps.Nodup
  fol : ∀ i, i < ps.length → FolAt w base (ps.getD i 0) (nodeT T i)
theorem TreeAt.lt {w : World} {base b : Nat} {ps : List Nat} {T : List Fol} {A : List Int} (h : TreeAt w base b ps T A) : b < w.heap.size := by
  obtain ⟨u, v, h1, _⟩ := h.blk
  exact (Array.getElem?_eq_some_iff.1 h1).1
theorem TreeAt.below {w w' : World} {base b : Nat} {ps : List Nat} {T : List Fol} {A : List Int} (h : TreeAt w base b ps T A) (hb : Below w.heap.size w w') : TreeAt w' base b ps T A := by
  obtain ⟨u, v, h1, h2, h3⟩ := h.blk
  exact ⟨h.ge, ⟨u, v, heap_down hb h1, h2.below hb, h3.below hb⟩, h.len, h.nd, fun i hi => (h.fol i hi).below hb⟩
theorem TreeAt.mono {w : World} {base base' b : Nat} {ps : List Nat} {T : List Fol} {A : List Int} (h : TreeAt w base b ps T A) (hb : base' ≤ base) : TreeAt w base' b ps T A := by
  obtain ⟨u, v, h1, h2, h3⟩ := h.blk
  exact ⟨Nat.le_trans hb h.ge, ⟨u, v, h1, h2.mono hb, h3.mono hb⟩, h.len, h.nd, fun i hi => (h.fol i hi).mono hb⟩
theorem nodup_ne {ps : List Nat} (h : ps.Nodup) {i j : Nat} (hi : i < ps.length) (hj : j < ps.length) (hne : i ≠ j) : ps.getD i 0 ≠ ps.getD j 0 := by
  rw [getD_get hi, getD_get hj]
  intro e
  exact hne ((List.getElem_inj h).1 e)
/-- A block of the type of a follower is not a row's of another type. -/
theorem row_not_fol {α : Type} {C : Cells α} {w : World} {base : Nat} {e : TypeId} {v : Value} {L : List α} (h : RowG C w base e v L) {b : Nat} {cs : Array Value} {T : TypeId} (hb : w.heap[b]? = some (.cells cs T (0, 0))) (hne : e ≠ T) : v.ownBlock ≠ some b := fun hg => by
  obtain ⟨_, cs', h4⟩ := RowG.block h hg
  rw [hb] at h4
  injection h4 with h4
  injection h4 with _ h4 _
  exact hne h4.symm
theorem FolAt.blk {w : World} {base b : Nat} {f : Fol} (h : FolAt w base b f) : ∃ cs, w.heap[b]? = some (.cells cs 78 (0, 0)) := by
  obtain ⟨_, u, v, h1, _⟩ := h
  exact ⟨_, h1⟩
/-- One follower is another one. -/
theorem TreeAt.set {w w' : World} {base b : Nat} {ps : List Nat} {T : List Fol} {A : List Int} (h : TreeAt w base b ps T A) {i : Nat} (hi : i < ps.length) {f : Fol} (hf : FolAt w' base (ps.getD i 0) f) (hk : Keeps (· = ps.getD i 0) w w') :
    TreeAt w' base b ps (T.set i f) A := by
  obtain ⟨u, v, h1, h2, h3⟩ := h.blk
  obtain ⟨cs, hb⟩ := (h.fol i hi).blk
  refine ⟨h.ge, ⟨u, v, (hk.block b (Array.getElem?_eq_some_iff.1 h1).1 (fun e => ?_)).trans h1, h2.keeps hk (fun g hg hs => row_not_fol h2 (by rw [← hs] at hb; exact hb) ptr_ne_fol hg), h3.keeps hk (fun g hg hs => row_not_fol h3 (by rw [← hs] at hb; exact hb) num_ne_fol hg)⟩, by rw [List.length_set]; exact h.len, h.nd, fun j hj => ?_⟩
  · rw [e, hb] at h1
    injection h1 with h1
    injection h1 with _ h1 _
    exact tree_ne_fol h1.symm
  · rw [nodeT_set _ _ (by rw [← h.len]; exact hi)]
    by_cases hji : j = i
    · rw [if_pos hji, hji]; exact hf
    · rw [if_neg hji]
      exact (h.fol j hj).other (h.fol i hi) (nodup_ne h.nd hj hi hji) hk
/-- Below, by a change of one follower alone. -/
theorem TreeAt.below_keeps {w w1 w2 : World} {b base : Nat} {ps : List Nat} {T : List Fol} {A : List Int} (h : TreeAt w1 base b ps T A) {i : Nat} (hi : i < ps.length) (hb : Below w.heap.size w w1) (hbs : w.heap.size ≤ base) (hk : Keeps (· = ps.getD i 0) w1 w2) : Below w.heap.size w w2 :=
  Go.Proofs.YtpkcndohjmpdeaaGreatDoor.below_keeps hb (Nat.le_trans hbs (h.fol i hi).1) hk
/-- Its cells. -/
theorem TreeAt.cells {w : World} {base b : Nat} {ps : List Nat} {T : List Fol} {A : List Int} (h : TreeAt w base b ps T A) : ∃ au cu av cv, w.cell? ⟨b, 0, none⟩ = some (.slice au ps.length cu) ∧ w.cell? ⟨b, 1, none⟩ = some (.slice av A.length cv) ∧ ps.length ≤ maxLen ∧ A.length ≤ maxLen ∧
    (∀ i, i < ps.length → ∃ g o, au = some ⟨g, o, none⟩ ∧ w.cell? ⟨g, o + i, none⟩ = some (.pointer (some ⟨ps.getD i 0, 0, none⟩))) ∧ (∀ i, i < A.length → ∃ g o, av = some ⟨g, o, none⟩ ∧ w.cell? ⟨g, o + i, none⟩ = some (.int .i64 (A.getD i 0))) := by
  obtain ⟨u, v, h1, h2, h3⟩ := h.blk
  obtain ⟨⟨c0, c1⟩, _⟩ := two_kept (Below.refl _ _) h1
  obtain ⟨au, cu, rfl, l1, _, _, hu⟩ := RowG.at_ h2
  obtain ⟨av, cv, rfl, l2, _, _, hv⟩ := RowG.at_ h3
  refine ⟨au, cu, av, cv, c0, c1, l1, l2, fun i hi => ?_, fun i hi => ?_⟩
  · obtain ⟨g, o, h5, h6⟩ := hu i hi
    have := h6 0 _ rfl
    rw [getD_get hi]
    exact ⟨g, o, h5, by simpa [ptrC] using this⟩
  · obtain ⟨g, o, h5, h6⟩ := hv i hi
    have := h6 0 _ rfl
    rw [getD_get hi]
    exact ⟨g, o, h5, by simpa [numC] using this⟩

/-! Followers that are right. -/
structure FOk (f : Fol) : Prop where
  ok : FolOk f
  hd : f.head.length ≤ 300
  nm : ∀ e ∈ f.l, e.f.who.length ≤ maxLen
theorem FOk.l60 {f : Fol} (h : FOk f) : f.l.length ≤ 60 := by
  have := (checkE_zero (L := f.l) (by rw [(floorsE_zero (L := f.l) (by rw [h.ok.ok])).1])).1
  omega
theorem FOk.fl {f : Fol} (h : FOk f) : f.floors.length ≤ 21 := by
  have := floorsE_len f.l
  rw [h.ok.ok] at this
  exact this
theorem FOk.new (key : Int) : FOk (newFol key) := ⟨newFol_ok key, Nat.zero_le _, fun e he => by cases he⟩
theorem FOk.take {f : Fol} (h : FOk f) {s : List UInt8} {M : List Ent} (hs : s.length ≤ 300) (hM : ∀ e ∈ M, e.f.who.length ≤ maxLen) : FOk (takeF f s M).2 := by
  refine ⟨take_ok h.ok s M, ?_, ?_⟩
  · by_cases hz : (takeF f s M).1 = 0
    · rw [(takeF_zero hz).2.2.2.2.2]; exact hs
    · rw [takeF_bad hz]; exact h.hd
  · by_cases hz : (takeF f s M).1 = 0
    · rw [(takeF_zero hz).2.2.2.2.2]
      intro e he
      rcases List.mem_append.1 he with h1 | h1
      · exact h.nm e h1
      · exact hM e h1
    · rw [takeF_bad hz]; exact h.nm
/-- All of a tree are right. -/
def TOk (T : List Fol) : Prop := ∀ i, i < T.length → FOk (nodeT T i)
theorem TOk.set {T : List Fol} (h : TOk T) {i : Nat} (hi : i < T.length) {f : Fol} (hf : FOk f) : TOk (T.set i f) := fun j hj => by
  rw [List.length_set] at hj
  rw [nodeT_set _ _ hi]
  split
  · exact hf
  · exact h j hj
theorem sinceE_names {L : List Ent} {n : Int} (h : ∀ e ∈ L, e.f.who.length ≤ maxLen) : ∀ e ∈ (sinceE L n).1, e.f.who.length ≤ maxLen := by
  unfold sinceE
  split
  · intro e he; cases he
  · split
    · intro e he; cases he
    · split
      · intro e he; cases he
      · intro e he; exact h e (List.mem_of_mem_drop he)
theorem sinceE_len (L : List Ent) (n : Int) : (sinceE L n).1.length ≤ L.length := by
  unfold sinceE
  split
  · simp
  · split
    · simp
    · split
      · simp
      · rw [List.length_drop]; omega
/-- The ways of a poll, one above and one below. -/
theorem poll_ways (T : List Fol) (A : List Int) (n : Nat) (h1 : 1 ≤ n) (h2 : n < T.length) : pollT T A (n : Int) =
    (if (nodeT T (upT A n)).head = [] then ((0, 5), T) else if (nodeT T (upT A n)).head = (nodeT T n).head then ((0, 12), T) else if (sinceE (nodeT T (upT A n)).l (nodeT T n).l.length).2.1 ≠ 0 then ((0, (sinceE (nodeT T (upT A n)).l (nodeT T n).l.length).2.1), T)
      else if (takeF (nodeT T n) (nodeT T (upT A n)).head (sinceE (nodeT T (upT A n)).l (nodeT T n).l.length).1).1 ≠ 0 then ((0, (takeF (nodeT T n) (nodeT T (upT A n)).head (sinceE (nodeT T (upT A n)).l (nodeT T n).l.length).1).1), T)
      else (((sinceE (nodeT T (upT A n)).l (nodeT T n).l.length).1.length, 0), T.set n (takeF (nodeT T n) (nodeT T (upT A n)).head (sinceE (nodeT T (upT A n)).l (nodeT T n).l.length).1).2) : (Int × Nat) × List Fol) := by
  unfold pollT
  rw [if_neg (by omega), Int.toNat_natCast]
theorem poll_out {T : List Fol} {A : List Int} {i : Int} (h : i < 1 ∨ (T.length : Int) ≤ i) : pollT T A i = ((0, 2), T) := by
  unfold pollT
  rw [if_pos h]
theorem poll_tok {T : List Fol} (A : List Int) (i : Int) (h : TOk T) (hup : ∀ i, 1 ≤ i → i < T.length → upT A i < T.length) : TOk (pollT T A i).2 := by
  by_cases h0 : i < 1 ∨ (T.length : Int) ≤ i
  · rw [poll_out h0]; exact h
  obtain ⟨n, rfl⟩ := Int.eq_ofNat_of_zero_le (show 0 ≤ i by omega)
  rw [poll_ways T A n (by omega) (by omega)]
  split
  · exact h
  split
  · exact h
  split
  · exact h
  split
  · exact h
  · have hu := h (upT A n) (hup n (by omega) (by omega))
    exact h.set (by omega) ((h n (by omega)).take hu.hd (sinceE_names hu.nm))
end Go.Proofs.YtpkcndohjmpdeaaGreatDoor

/- Trees: Push, Many, Node: walked. -/
namespace Go.Proofs.YtpkcndohjmpdeaaGreatDoor
open Go.RowKit

theorem below_base {w w1 w2 : World} {b base : Nat} (h : Below base w w1) (hs : base ≤ w1.heap.size) (hb : base ≤ b) (hk : Keeps (· = b) w1 w2) : Below base w w2 :=
  ⟨hk.os.trans h.os, hk.tape.trans h.tape, hk.output.trans h.output, Nat.le_trans h.size hk.size, fun k hk' => (hk.block k (Nat.lt_of_lt_of_le hk' hs) (fun e => by omega)).trans (h.block k hk')⟩
set_option maxHeartbeats 2000000 in
set_option maxRecDepth 100000 in
theorem push_tree {E : Nat → Addr} (base b : Nat) (ps : List Nat) (T : List Fol) (A : List Int) (s : List UInt8) (v : Value) (M : List Ent) (w : World) (hL : LaidS E w) (hT : TreeAt w base b ps T A) (hp : 0 < ps.length) (hO : FOk (nodeT T 0)) (hv : EntsAt w v M) (hm : ∀ e ∈ M, e.f.who.length ≤ maxLen) (hl : M.length ≤ 1000) (hs : s.length ≤ 300) (hbs : base ≤ w.heap.size) :
    Calls Tryz.prog 28 #[.pointer (some ⟨b, 0, none⟩), .string (bs s), v] w fun e w' => e = .returned (errV E (takeF (nodeT T 0) s M).1) ∧ TreeAt w' base b ps (T.set 0 (takeF (nodeT T 0) s M).2) A ∧ Below base w w' := by
  have htk := Lib.hid (take_fol (E := E) base (ps.getD 0 0) (nodeT T 0) s v M w hL (hT.fol 0 hp) hv hm hO.nm (by have := hO.l60; omega) (by omega) hbs)
  have hTH := Lib.hid hT
  obtain ⟨au, cu, av, cv, c0, c1, l1, _, hps, _⟩ := hT.cells
  obtain ⟨g, o, rfl, p0⟩ := hps 0 hp
  rw [Nat.add_zero] at p0
  obtain ⟨am, cm, hvm⟩ := AtG.sl hv
  subst hvm
  have hset := Lib.hid (fun w' (hf : FolAt w' base (ps.getD 0 0) (takeF (nodeT T 0) s M).2) (hk : Keeps (· = ps.getD 0 0) w w') => (show TreeAt w' base b ps (T.set 0 (takeF (nodeT T 0) s M).2) A ∧ Below base w w' from ⟨hTH.out.set hp hf hk, below_base (Below.refl _ _) hbs (hTH.out.fol 0 hp).1 hk⟩))
  generalize takeF (nodeT T 0) s M = R at *
  obtain ⟨rc, rf⟩ := R
  dsimp only at *
  generalize ps.getD 0 0 = p at *
  unfold maxLen at l1
  have hpi : (0 : Int) < (ps.length : Int) := by omega
  clear hps c1 hL hv hm hO hs hT
  go_enter Tryz.func28, Tryz.ntmps28
  go_wp2_with fail
  refine htk.out.mono ?_
  rintro e w1 ⟨rfl, hf, hk⟩
  have hfin := Lib.hid (hset.out _ hf hk)
  clear hf hk
  go_wp2_with fail
  go_ret
  exact ⟨rfl, hfin.out⟩
set_option maxRecDepth 100000 in
theorem many_tree (base b : Nat) (ps : List Nat) (T : List Fol) (A : List Int) (w : World) (hT : TreeAt w base b ps T A) :
    Calls Tryz.prog 32 #[.pointer (some ⟨b, 0, none⟩)] w fun e w' => e = .returned (.int .i64 T.length) ∧ w = w' := by
  obtain ⟨au, cu, av, cv, c0, c1, l1, _, _, _⟩ := hT.cells
  have hln := Lib.hid hT.len
  unfold maxLen at l1
  clear c1 hT
  go_enter Tryz.func32, Tryz.ntmps32
  go_wp2_with fail
  go_ret
  exact ⟨ret_int (by rw [hln.out]), rfl⟩
set_option maxHeartbeats 2000000 in
set_option maxRecDepth 100000 in
theorem node_tree (base b : Nat) (ps : List Nat) (T : List Fol) (A : List Int) (i : Nat) (w : World) (hT : TreeAt w base b ps T A) (hi : i < T.length) (hO : FOk (nodeT T i)) :
    Calls Tryz.prog 31 #[.pointer (some ⟨b, 0, none⟩), .int .i64 i] w fun e w' => ∃ b', e = .returned (.pointer (some ⟨b', 0, none⟩)) ∧ FolAt w' w.heap.size b' (nodeT T i) ∧ Below w.heap.size w w' := by
  have hi2 : i < ps.length := by rw [hT.len]; exact hi
  have hcp := Lib.hid (copy_fol base (ps.getD i 0) (nodeT T i) w (hT.fol i hi2) (by have := hO.l60; omega) (by have := hO.fl; omega))
  obtain ⟨au, cu, av, cv, c0, c1, l1, _, hps, _⟩ := hT.cells
  obtain ⟨g, o, rfl, p0⟩ := hps i hi2
  unfold maxLen at l1
  have h1 : (0 : Int) ≤ (i : Int) := by omega
  have h2 : (i : Int) < (ps.length : Int) := by omega
  have h3 : ¬ ((i : Int) < 0) := by omega
  have h4 : ¬ ((ps.length : Int) ≤ (i : Int)) := by omega
  generalize nodeT T i = F at *
  generalize ps.getD i 0 = p at *
  clear hps c1 hT hO hi
  go_enter Tryz.func31, Tryz.ntmps31
  go_wp2_with fail
  refine hcp.out.mono ?_
  rintro e w1 ⟨b', rfl, hf, hb⟩
  have hfin := Lib.hid (And.intro hf hb)
  clear hf hb
  go_wp2_with fail
  go_ret
  exact ⟨_, rfl, hfin.out⟩
set_option maxRecDepth 100000 in
theorem node_none (base b : Nat) (ps : List Nat) (T : List Fol) (A : List Int) (i : Int) (w : World) (hT : TreeAt w base b ps T A) (hi : i < 0 ∨ (T.length : Int) ≤ i) :
    Calls Tryz.prog 31 #[.pointer (some ⟨b, 0, none⟩), .int .i64 i] w fun e w' => e = .returned (.pointer none) ∧ w = w' := by
  obtain ⟨au, cu, av, cv, c0, c1, l1, _, _, _⟩ := hT.cells
  unfold maxLen at l1
  have hln := hT.len
  by_cases h0 : i < 0
  · clear c1 hT hi hln
    go_enter Tryz.func31, Tryz.ntmps31
    go_wp2_with fail
    go_ret
    exact ⟨rfl, rfl⟩
  · have h4 : (ps.length : Int) ≤ i := by omega
    clear c1 hT hi hln
    go_enter Tryz.func31, Tryz.ntmps31
    go_wp2_with fail
    go_ret
    exact ⟨rfl, rfl⟩
end Go.Proofs.YtpkcndohjmpdeaaGreatDoor
