/- FedL, FolL, FolP, FolH, FloG, FloL, NumArg -/
import Derived.Test.YtpkcndohjmpdeaaGreatDoorMg18
import Derived.Test.YtpkcndohjmpdeaaGreatDoorMg19
import Derived.Test.YtpkcndohjmpdeaaGreatDoorMg20
import Derived.Test.YtpkcndohjmpdeaaGreatDoorMg10
import Derived.Test.YtpkcndohjmpdeaaGreatDoorMg5
import Derived.Test.YtpkcndohjmpdeaaGreatDoorMg7
import Derived.Test.YtpkcndohjmpdeaaGreatDoorMg8
/- The closed fact about feeds: walked. -/
namespace Go.Proofs.YtpkcndohjmpdeaaGreatDoor
open Go.RowKit

def annE : List UInt8 := [97, 110, 110]
def oneE : Ent := ⟨1, 3, ⟨annE, 2⟩⟩
theorem fed_add : addE [] 3 ⟨annE, 2⟩ = ([oneE], 0, -1) := by kernel_rfl
theorem fed_floors : floorsE [oneE] = ([⟨annE, 2⟩], 0, -1) := by kernel_rfl
theorem fed_head : (headOf 7 [oneE] 4).2.1 = 0 := headOf_of (by kernel_rfl) (by rw [fed_floors]) (by decide) (by decide) (by rw [show wasE [oneE] [oneE].length = 3 from by kernel_rfl]; decide)
theorem sealText_len {k : Int} {W : List (List UInt8)} (h10 : W.length ≤ 10) (hw : ∀ x ∈ W, isWord x = true) : (sealText k W).length ≤ 300 := by
  have hg := glue_len 32 W (fun x hx => ((isWord_iff x).1 (hw x hx)).2.1)
  have hm := markOf_bd k (glue 32 W)
  have hil := itoa_len10 (n := (markOf k (glue 32 W)).1) hm.1 (by omega)
  unfold sealText
  simp
  omega
theorem headOf_len {key : Int} {L : List Ent} {time : Int} : (headOf key L time).1.length ≤ 300 := by
  by_cases h : (headOf key L time).2.1 = 0
  · obtain ⟨_, hf, h0, h1, _, he, _⟩ := headOf_zero h
    have hl := (checkE_zero (L := L) (by rw [(floorsE_zero hf).1])).1
    rw [he]
    exact sealText_len (by simp [headWords]) (headWords_words (by omega) (by omega) (sumF_bd _))
  · rw [headOf_bad h]; simp
theorem box3 (x : World) (u0 u1 u2 : Value) (T : TypeId) : ((x.alloc (.cells #[u0, u1, u2] T)).cell? ⟨x.heap.size, 0, none⟩ = some u0 ∧ (x.alloc (.cells #[u0, u1, u2] T)).cell? ⟨x.heap.size, 1, none⟩ = some u1 ∧ (x.alloc (.cells #[u0, u1, u2] T)).cell? ⟨x.heap.size, 2, none⟩ = some u2) := (head_kept (heap_alloc_new x _)).1
end Go.Proofs.YtpkcndohjmpdeaaGreatDoor

/- The closed fact about followers: walked. -/
namespace Go.Proofs.YtpkcndohjmpdeaaGreatDoor
open Go.RowKit

theorem followed_take : takeF (newFol 7) (headOf 7 [oneE] 4).1 [oneE] = (0, ⟨7, [oneE], [⟨annE, 2⟩], 4, (headOf 7 [oneE] 4).1⟩) := by
  obtain ⟨_, _, _, _, _, _, ho⟩ := headOf_zero fed_head
  have h := takeF_of (f := newFol 7) (s := (headOf 7 [oneE] 4).1) (M := [oneE]) (by show (openH 7 _).2 = 0; rw [ho]) (by show -1 ≤ (openH 7 _).1.time; rw [ho]; decide) (by show (openH 7 _).1.seq = _; rw [ho]; rfl) (by show (floorsE [oneE]).2.1 = 0; rw [fed_floors]) (by show sumF (floorsE [oneE]).1 = (openH 7 _).1.sum; rw [ho])
  rw [h]
  show (0, (⟨7, [oneE], (floorsE [oneE]).1, (openH 7 (headOf 7 [oneE] 4).1).1.time, (headOf 7 [oneE] 4).1⟩ : Fol)) = _
  rw [ho, fed_floors]
set_option maxHeartbeats 4000000 in
set_option maxRecDepth 100000 in
theorem followed_any {E : Nat → Addr} (w : World) (hL : LaidS E w) :
    Calls Tryz.prog 6 #[] w fun e w' => e = .returned (.bool true) ∧ Below w.heap.size w w' := by
  have hnw := Lib.hid (newFol_any (E := E) 7 w hL.laid)
  have had := Lib.hid (fun wx (hx : Below w.heap.size w wx) => (by
    have h := add_ent (E := E) (.slice none 0 0) [] 3 ⟨annE, 2⟩ wx (hL.below hx).laid (AtG.nil _) (fun e he => by cases he) (by decide)
    rw [fed_add] at h
    exact h : Calls Tryz.prog 33 #[.slice none 0 0, .int .i64 3, (⟨annE, 2⟩ : Flo).val] wx fun e w' => EntRes E wx.heap.size w' ([oneE], 0, -1) e ∧ Below wx.heap.size wx w'))
  have hmk := Lib.hid (fun v wx (hx : Below w.heap.size w wx) (hv : EntsAt wx v [oneE]) => makeF_any (E := E) 7 v [oneE] 4 wx (hL.below hx) hv (fun e he => by simp at he; subst he; decide))
  have hcode := Lib.hid fed_head
  have htk := Lib.hid (fun b v wx (hx : Below w.heap.size w wx) (hF : FolAt wx w.heap.size b (newFol 7)) (hv : EntsAt wx v [oneE]) => (by
    have h := take_fol (E := E) w.heap.size b (newFol 7) (headOf 7 [oneE] 4).1 v [oneE] wx (hL.below hx) hF hv (fun e he => by simp at he; subst he; decide) (fun e he => by cases he) (by decide) (by have := @headOf_len 7 [oneE] 4; omega) hx.size
    rw [followed_take] at h
    exact h : Calls Tryz.prog 11 #[.pointer (some ⟨b, 0, none⟩), .string (bs (headOf 7 [oneE] 4).1), v] wx fun e w' => e = .returned (errV E 0) ∧ FolAt w' w.heap.size b ⟨7, [oneE], [⟨annE, 2⟩], 4, (headOf 7 [oneE] 4).1⟩ ∧ Keeps (· = b) wx w'))
  generalize headOf 7 [oneE] 4 = H at *
  obtain ⟨H1, H2, H3⟩ := H
  clear hL
  go_enter Tryz.func6, Tryz.ntmps6
  go_wp2_with fail
  refine hnw.out.mono ?_
  rintro e w1 ⟨hor, hb1⟩
  rcases hor with ⟨hk, _⟩ | ⟨_, b, rfl, hF1⟩
  · exact absurd hk (by decide)
  have hF1H := Lib.hid hF1
  have had1 := Lib.hid (had.out _ hb1)
  have hb1H := Lib.hid hb1
  clear hF1 hb1 hnw had
  go_wp2_with fail
  refine had1.out.mono ?_
  rintro e w2 ⟨⟨v2, ev2, rfl, hrow2, he2⟩, hb2⟩
  obtain ⟨rfl, _⟩ := he2.zero rfl
  have hmk2 := Lib.hid (hmk.out _ _ (below_trans hb1H.out hb2) (EntRow.at_ hrow2))
  have hrow2H := Lib.hid hrow2
  have hF2 := Lib.hid (hF1H.out.below hb2)
  have hb2H := Lib.hid (below_trans hb1H.out hb2)
  clear hrow2 he2 hb2 had1 hmk
  go_wp2_with fail
  refine hmk2.out.mono ?_
  rintro e w3 ⟨⟨ev3, rfl, he3⟩, hb3⟩
  obtain ⟨rfl, _⟩ := he3.zero hcode.out
  dsimp only
  have hF3 := hF2.out.below hb3
  have hb3H := Lib.hid (below_trans hb2H.out hb3)
  have htk3 := Lib.hid (htk.out b _ _ (below_trans hb2H.out hb3) hF3 (EntRow.at_ (RowG.below hrow2H.out hb3)))
  clear he3 hb3 hF3 hmk2 htk
  go_wp2_with fail
  refine htk3.out.mono ?_
  rintro e w4 ⟨rfl, hF4, hk4⟩
  rw [errV_zero]
  have hfl4 := Lib.hid (floors_fol w.heap.size b _ w4 hF4 (show 1 ≤ 1000 from by decide))
  have hF4H := Lib.hid hF4
  have hb4 := Lib.hid (show Below w.heap.size w w4 from ⟨hk4.os.trans hb3H.out.os, hk4.tape.trans hb3H.out.tape, hk4.output.trans hb3H.out.output, Nat.le_trans hb3H.out.size hk4.size, fun k hk => (hk4.block k (Nat.lt_of_lt_of_le hk hb3H.out.size) (fun e => by have := hF4.1; omega)).trans (hb3H.out.block k hk)⟩)
  clear hF4 hk4 htk3
  go_wp2_with fail
  refine hfl4.out.mono ?_
  rintro e w5 ⟨v5, rfl, hrow5, hb5⟩
  have hat5 := floorsAt_of (RowG.at_ (floRow_G.1 hrow5))
  obtain ⟨a5, c5, hv5, _, _, hcs⟩ := hat5
  obtain ⟨bb, oo, rfl, h0, h1⟩ := hcs 0 (by decide)
  simp only [List.getElem_cons_zero, Nat.zero_mul, Nat.add_zero] at h0 h1
  simp only [List.length_cons, List.length_nil, Nat.zero_add] at hv5
  subst hv5
  have hF5 := Lib.hid (hF4H.out.below hb5)
  have hb5H := Lib.hid (below_trans hb4.out hb5)
  have h1H := Lib.hid h1
  have hsq := Lib.hid (seq_fol w.heap.size b _ w5 hF5.out)
  clear hcs hrow5 hb5 h0 h1 hfl4
  go_wp2_with fail
  refine hsq.out.mono ?_
  rintro e w6 ⟨rfl, hb6⟩
  have htm := Lib.hid (time_fol w.heap.size b _ w6 (hF5.out.below hb6))
  have h1H := Lib.hid (cell_below hb6 h1H.out)
  have hb6H := Lib.hid (below_trans hb5H.out hb6)
  clear hb6 hsq
  dsimp only
  go_wp2_with fail
  refine htm.out.mono ?_
  rintro e w7 ⟨rfl, hb7⟩
  have h1 := cell_below hb7 h1H.out
  have hb7H := Lib.hid (below_trans hb6H.out hb7)
  clear hb7 htm
  dsimp only
  go_wp2_with fail
  go_ret
  exact ⟨rfl, hb7H.out⟩
end Go.Proofs.YtpkcndohjmpdeaaGreatDoor

/- A feed taken step by step ends as a feed taken at once: no program in sight. -/
namespace Go.Proofs.YtpkcndohjmpdeaaGreatDoor

/-- A follower that has the first n entries of L. -/
structure Mid (key : Int) (L : List Ent) (n : Nat) (g : Fol) : Prop where
  key : g.key = key
  le : n ≤ L.length
  l : g.l = L.take n
  t : g.time ≤ wasE L n
theorem mid_new (key : Int) (L : List Ent) : Mid key L 0 (newFol key) := ⟨rfl, Nat.zero_le _, rfl, by show -1 ≤ wasE L 0; unfold wasE; rw [if_pos rfl]; decide⟩
theorem floorsE_take {L : List Ent} (h : (floorsE L).2.1 = 0) (n : Nat) : (floorsE (L.take n)).2.1 = 0 := by
  have := floorsE_left (L := L.take n) (M := L.drop n) (by rw [List.take_append_drop]; exact h)
  exact this.1
theorem wasE_take {L : List Ent} {n : Nat} (hn : n ≤ L.length) : wasE (L.take n) (L.take n).length = wasE L n := by
  have hl : (L.take n).length = n := by rw [List.length_take]; omega
  rw [hl]
  unfold wasE
  by_cases h0 : n = 0
  · rw [if_pos h0, if_pos h0]
  · rw [if_neg h0, if_neg h0]
    have := getD_left (L.take n) (L.drop n) noEnt (i := n - 1) (by rw [hl]; omega)
    rw [List.take_append_drop] at this
    rw [this]
theorem mid_head {key : Int} {L : List Ent} {n : Nat} (hk : isKey key = true) (hf : (floorsE L).2.1 = 0) (hn : n ≤ L.length) : (headOf key (L.take n) (wasE L n)).2.1 = 0 := by
  have hc : (checkE L).1 = 0 := by rw [(floorsE_zero hf).1]
  have := wasE_bd hc hn
  exact headOf_of hk (floorsE_take hf n) this.1 this.2 (by rw [wasE_take hn]; exact Int.le_refl _)
theorem mid_step {key : Int} {L : List Ent} {have_ n : Nat} {g : Fol} (hM : Mid key L have_ g) (hk : isKey key = true) (hf : (floorsE L).2.1 = 0) (h : have_ ≤ n) (hn : n ≤ L.length) :
    takeF g (headOf key (L.take n) (wasE L n)).1 ((L.take n).drop have_) = (0, ⟨key, L.take n, (floorsE (L.take n)).1, wasE L n, (headOf key (L.take n) (wasE L n)).1⟩) ∧ Mid key L n ⟨key, L.take n, (floorsE (L.take n)).1, wasE L n, (headOf key (L.take n) (wasE L n)).1⟩ := by
  have hz := mid_head hk hf hn
  obtain ⟨_, _, _, _, _, _, ho⟩ := headOf_zero hz
  have hc : (checkE L).1 = 0 := by rw [(floorsE_zero hf).1]
  have hmono := wasE_mono hc h hn
  have hl : (L.take n).length = n := by rw [List.length_take]; omega
  have ht : L.take have_ = (L.take n).take have_ := by rw [List.take_take, Nat.min_eq_left h]
  have hcat : g.l ++ (L.take n).drop have_ = L.take n := by rw [hM.l, ht, List.take_append_drop]
  have hgl : g.l.length = have_ := by rw [hM.l, List.length_take]; have := hM.le; omega
  have hdl : ((L.take n).drop have_).length = n - have_ := by rw [List.length_drop, hl]
  have key' := hM.key
  subst key'
  have := takeF_of (f := g) (s := (headOf g.key (L.take n) (wasE L n)).1) (M := (L.take n).drop have_) (by rw [ho]) (by rw [ho]; have := hM.t; dsimp only; omega) (by rw [ho, hgl, hdl]; dsimp only; rw [hl]; omega) (by rw [hcat]; exact floorsE_take hf n) (by rw [hcat, ho])
  rw [this, hcat, ho]
  exact ⟨rfl, rfl, hn, rfl, Int.le_refl _⟩
theorem mid_last {key : Int} {L : List Ent} {have_ : Nat} {g : Fol} {time : Int} (hM : Mid key L have_ g) (hz : (headOf key L time).2.1 = 0) :
    takeF g (headOf key L time).1 (L.drop have_) = (0, ⟨key, L, (floorsE L).1, time, (headOf key L time).1⟩) := by
  obtain ⟨_, hf, _, _, hw, _, ho⟩ := headOf_zero hz
  have hc : (checkE L).1 = 0 := by rw [(floorsE_zero hf).1]
  have hmono := wasE_mono hc hM.le (Nat.le_refl L.length)
  have hcat : g.l ++ L.drop have_ = L := by rw [hM.l, List.take_append_drop]
  have hgl : g.l.length = have_ := by rw [hM.l, List.length_take]; have := hM.le; omega
  have hdl : (L.drop have_).length = L.length - have_ := List.length_drop
  have hle := hM.le
  have key' := hM.key
  subst key'
  have := takeF_of (f := g) (s := (headOf g.key L time).1) (M := L.drop have_) (by rw [ho]) (by rw [ho]; have := hM.t; dsimp only; omega) (by rw [ho, hgl, hdl]; dsimp only; omega) (by rw [hcat]; exact hf) (by rw [hcat, ho])
  rw [this, hcat, ho]
/-- All at once. -/
theorem mid_once {key : Int} {L : List Ent} {time : Int} (hz : (headOf key L time).2.1 = 0) : takeF (newFol key) (headOf key L time).1 L = (0, ⟨key, L, (floorsE L).1, time, (headOf key L time).1⟩) := by
  have := mid_last (mid_new key L) hz
  rw [List.drop_zero] at this
  exact this
end Go.Proofs.YtpkcndohjmpdeaaGreatDoor

/- Two followers side by side: lemmas. -/
namespace Go.Proofs.YtpkcndohjmpdeaaGreatDoor
open Go.RowKit

theorem below_keeps {w w1 w2 : World} {b : Nat} (h : Below w.heap.size w w1) (hb : w.heap.size ≤ b) (hk : Keeps (· = b) w1 w2) : Below w.heap.size w w2 :=
  ⟨hk.os.trans h.os, hk.tape.trans h.tape, hk.output.trans h.output, Nat.le_trans h.size hk.size, fun k hk' => (hk.block k (Nat.lt_of_lt_of_le hk' h.size) (fun e => by omega)).trans (h.block k hk')⟩
/-- Another follower is kept. -/
theorem FolAt.other {w w' : World} {base b b' : Nat} {f f' : Fol} (h : FolAt w base b f) (h' : FolAt w base b' f') (hne : b ≠ b') (hk : Keeps (· = b') w w') : FolAt w' base b f :=
  h.keeps hk hne (fun k hk => by
    obtain ⟨_, u, v, h1, _⟩ := h'
    subst hk
    exact ⟨_, h1⟩)
theorem FolAt.lt {w : World} {base b : Nat} {f : Fol} (h : FolAt w base b f) : b < w.heap.size := by
  obtain ⟨_, u, v, h1, _⟩ := h
  exact (Array.getElem?_eq_some_iff.1 h1).1
theorem FolAt.mono {w : World} {base base' b : Nat} {f : Fol} (h : FolAt w base b f) (hb : base' ≤ base) : FolAt w base' b f := by
  obtain ⟨h0, u, v, h1, h2, h3⟩ := h
  exact ⟨Nat.le_trans hb h0, u, v, h1, RowG.mono h2 hb, h3.mono hb⟩
/-- l[i:j]. -/
theorem ents_cut {w : World} {a : Option Addr} {c : Nat} {L : List Ent} (h : EntsAt w (.slice a L.length c) L) {n : Nat} (hn : n ≤ L.length) : EntsAt w (.slice a (L.take n).length c) (L.take n) := by
  have := AtG.take h hn
  rwa [show (L.take n).length = n by rw [List.length_take]; omega]
end Go.Proofs.YtpkcndohjmpdeaaGreatDoor

/- LongFloors, walked. -/
namespace Go.Proofs.YtpkcndohjmpdeaaGreatDoor
open Go.RowKit

def longF (L : List Flo) : Bool := decide (25 < L.length) || L.any fun f => decide (20 < f.who.length)
def longI (L : List Flo) : Int := if longF L = true then 1 else 0
theorem longF_false {L : List Flo} (h : longF L = false) : L.length ≤ 25 ∧ ∀ f ∈ L, f.who.length ≤ 20 := by
  unfold longF at h
  rw [Bool.or_eq_false_iff, List.any_eq_false] at h
  refine ⟨by have := of_decide_eq_false h.1; omega, fun f hf => ?_⟩
  have := h.2 f hf
  simp at this
  exact this
end Go.Proofs.YtpkcndohjmpdeaaGreatDoor

/- SameFloors, walked. -/
namespace Go.Proofs.YtpkcndohjmpdeaaGreatDoor
open Go.RowKit

set_option maxRecDepth 100000 in
theorem samef_flo (x y : Value) (L : List Flo) (w : World) (hx : FloorsAt w x L) (hy : FloorsAt w y L) :
    Calls Tryz.prog 18 #[x, y] w fun e w' => e = .returned (.bool true) ∧ Below w.heap.size w w' := by
  obtain ⟨a, c, rfl, hm, _, ha⟩ := hx
  obtain ⟨a2, c2, rfl, _, _, ha2⟩ := hy
  unfold maxLen at hm
  go_enter Tryz.func18, Tryz.ntmps18
  go_wp2_with fail
  go_loopw [5] (fun i wr => ∃ j n : Nat, j ≤ L.length ∧ i = .int .i64 j ∧ wr = w.drewN n) (fun i _ => L.length - (intOf i).toNat)
  case atStart => exact ⟨0, 0, Nat.zero_le _, rfl, rfl⟩
  case round =>
    obtain ⟨j, n, hj, rfl, rfl⟩ := hrel
    by_cases hlt : j < L.length
    · obtain ⟨b, o, rfl, h0, h1⟩ := ha j hlt
      obtain ⟨b2, o2, rfl, k0, k1⟩ := ha2 j hlt
      go_wp2
      go_quiet (fail)
      go_wp2
      exact ⟨⟨j + 1, _, by omega, by simp, rfl⟩, by simp [intOf]; omega⟩
    · have hje : j = L.length := by omega
      subst hje
      go_wp2
      go_ret
      exact ⟨rfl, below_drawn (Below.refl _ _) _⟩
end Go.Proofs.YtpkcndohjmpdeaaGreatDoor

/- Numbers that came in: no walk. -/
namespace Go.Proofs.YtpkcndohjmpdeaaGreatDoor
open Go.ChangeShapes Go.WideShapes Go.ChangeAt Go.RowKit Go.ChangeMaps Go.Deep

def numC : Cells Int where
  k := 1
  pos := by decide
  f := fun n => [.int .i64 n]
  len := fun _ => rfl
  one := fun e u hu => by
    simp only [List.mem_cons, List.mem_nil_iff, or_false] at hu
    subst hu
    rfl
set_option maxRecDepth 100000 in
theorem numsC_of {H : Type} {enc : TypeId × Value → H} {W : World} {base : Nat} {spare : Nat → Bool} {held : Bool} {fuel : Nat} {a : Option Addr} {len cap : Nat} {x : DataW H × List MemPlace}
    (h : DataW.trod enc Tryz.prog W base spare held fuel 23 [.slice a len cap] = some x) : ∃ A, AtG numC W (.slice a len cap) A := by
  have hcap := slice_cap Tryz.underlying23 h
  rcases slice_cells Tryz.underlying23 h with h0 | ⟨a', len', cap', n, hcs, hm, hi⟩
  · cases h0
    exact ⟨[], AtG.nil _⟩
  · cases hcs
    have hC : Tryz.prog.cellsOf 3 = 1 := by kernel_rfl
    rw [hC] at hi
    obtain ⟨A, hl, hA⟩ := list_of (p := fun i (q : Int) => (i = 0 → a' = ⟨a'.block, a'.off, none⟩) ∧ (∀ j u, (numC.f q)[j]? = some u → W.cell? ⟨a'.block, a'.off + i * 1 + j, none⟩ = some u)) len (fun i hil => by
      obtain ⟨cs, y, hcl, hat, ha, ht⟩ := hi i hil
      match cs, hcl with
      | [k0], _ =>
        obtain ⟨q, rfl, _⟩ := read_int Tryz.underlying3 ht
        refine ⟨q, fun h0 => ha 0 (by decide) (by rw [h0]), fun j u hu => ?_⟩
        have hj : j < 1 := (List.getElem?_eq_some_iff.1 hu).1
        have := hat j hj
        rw [show ([Value.int .i64 q] : List Value)[j]? = some u from hu] at this
        simpa [Nat.add_assoc] using this)
    subst hl
    exact ⟨A, some a', cap, rfl, hm, hcap, (fun e => by cases e), fun i hil => ⟨a'.block, a'.off, congrArg some ((hA 0 (Nat.lt_of_le_of_lt (Nat.zero_le _) hil)).1 rfl), (hA i hil).2⟩⟩
end Go.Proofs.YtpkcndohjmpdeaaGreatDoor
