/- FedL, FolL, FloG, FloL, RefW, RefW2 -/
import Derived.Test.YtpkcndohjmpdeaaGreatDoorMg18
import Derived.Test.YtpkcndohjmpdeaaGreatDoorMg19
import Derived.Test.YtpkcndohjmpdeaaGreatDoorMg20
import Derived.Test.YtpkcndohjmpdeaaGreatDoorMg10
import Derived.Test.YtpkcndohjmpdeaaGreatDoorMg7
import Derived.Test.YtpkcndohjmpdeaaGreatDoorMg8
import Derived.Test.YtpkcndohjmpdeaaGreatDoorMg4
import Derived.Test.YtpkcndohjmpdeaaGreatDoorMg16
import Derived.Maps.AppendAt
import Derived.OwnWalk
import Derived.Deep.LoopGhost
/- The closed fact about feeds: walked. -/
namespace Go.Proofs.YtpkcndohjmpdeaaGreatDoor
open Go.RowKit

def annE : List UInt8 := [97, 110, 110]
def oneE : Ent := ⟨1, 3, ⟨annE, 2⟩⟩
theorem fed_add : addE [] 3 ⟨annE, 2⟩ = ([oneE], 0, -1) := by kernel_rfl
theorem fed_floors : floorsE [oneE] = ([⟨annE, 2⟩], 0, -1) := by kernel_rfl
theorem fed_head : (headOf 7 [oneE] 4).2.1 = 0 := headOf_of (by kernel_rfl) (by rw [fed_floors]) (by decide) (by decide) (by rw [show wasE [oneE] [oneE].length = 3 from by kernel_rfl]; decide)
theorem sealText_len {k : Int} {W : List (List UInt8)} (h10 : W.length ≤ 10) (hw : ∀ x ∈ W, isWord x = true) : (sealText k W).length ≤ 300 := by
  have hg := glue_len 32 W (fun x hx => ((isWord_iff x).1 (hw x hx)).2.1)
  have hm := markOf_bd k (glue 32 W)
  have hil := itoa_len10 (n := (markOf k (glue 32 W)).1) hm.1 (by omega)
  unfold sealText
  simp
  omega
theorem headOf_len {key : Int} {L : List Ent} {time : Int} : (headOf key L time).1.length ≤ 300 := by
  by_cases h : (headOf key L time).2.1 = 0
  · obtain ⟨_, hf, h0, h1, _, he, _⟩ := headOf_zero h
    have hl := (checkE_zero (L := L) (by rw [(floorsE_zero hf).1])).1
    rw [he]
    exact sealText_len (by simp [headWords]) (headWords_words (by omega) (by omega) (sumF_bd _))
  · rw [headOf_bad h]; simp
theorem box3 (x : World) (u0 u1 u2 : Value) (T : TypeId) : ((x.alloc (.cells #[u0, u1, u2] T)).cell? ⟨x.heap.size, 0, none⟩ = some u0 ∧ (x.alloc (.cells #[u0, u1, u2] T)).cell? ⟨x.heap.size, 1, none⟩ = some u1 ∧ (x.alloc (.cells #[u0, u1, u2] T)).cell? ⟨x.heap.size, 2, none⟩ = some u2) := (head_kept (heap_alloc_new x _)).1
end Go.Proofs.YtpkcndohjmpdeaaGreatDoor

/- The closed fact about followers: walked. -/
namespace Go.Proofs.YtpkcndohjmpdeaaGreatDoor
open Go.RowKit

theorem followed_take : takeF (newFol 7) (headOf 7 [oneE] 4).1 [oneE] = (0, ⟨7, [oneE], [⟨annE, 2⟩], 4, (headOf 7 [oneE] 4).1⟩) := by
  obtain ⟨_, _, _, _, _, _, ho⟩ := headOf_zero fed_head
  have h := takeF_of (f := newFol 7) (s := (headOf 7 [oneE] 4).1) (M := [oneE]) (by show (openH 7 _).2 = 0; rw [ho]) (by show -1 ≤ (openH 7 _).1.time; rw [ho]; decide) (by show (openH 7 _).1.seq = _; rw [ho]; rfl) (by show (floorsE [oneE]).2.1 = 0; rw [fed_floors]) (by show sumF (floorsE [oneE]).1 = (openH 7 _).1.sum; rw [ho])
  rw [h]
  show (0, (⟨7, [oneE], (floorsE [oneE]).1, (openH 7 (headOf 7 [oneE] 4).1).1.time, (headOf 7 [oneE] 4).1⟩ : Fol)) = _
  rw [ho, fed_floors]
set_option maxHeartbeats 4000000 in
set_option maxRecDepth 100000 in
theorem followed_any {E : Nat → Addr} (w : World) (hL : LaidS E w) :
    Calls Tryz.prog 6 #[] w fun e w' => e = .returned (.bool true) ∧ Below w.heap.size w w' := by
  have hnw := Lib.hid (newFol_any (E := E) 7 w hL.laid)
  have had := Lib.hid (fun wx (hx : Below w.heap.size w wx) => (by
    have h := add_ent (E := E) (.slice none 0 0) [] 3 ⟨annE, 2⟩ wx (hL.below hx).laid (AtG.nil _) (fun e he => by cases he) (by decide)
    rw [fed_add] at h
    exact h : Calls Tryz.prog 33 #[.slice none 0 0, .int .i64 3, (⟨annE, 2⟩ : Flo).val] wx fun e w' => EntRes E wx.heap.size w' ([oneE], 0, -1) e ∧ Below wx.heap.size wx w'))
  have hmk := Lib.hid (fun v wx (hx : Below w.heap.size w wx) (hv : EntsAt wx v [oneE]) => makeF_any (E := E) 7 v [oneE] 4 wx (hL.below hx) hv (fun e he => by simp at he; subst he; decide))
  have hcode := Lib.hid fed_head
  have htk := Lib.hid (fun b v wx (hx : Below w.heap.size w wx) (hF : FolAt wx w.heap.size b (newFol 7)) (hv : EntsAt wx v [oneE]) => (by
    have h := take_fol (E := E) w.heap.size b (newFol 7) (headOf 7 [oneE] 4).1 v [oneE] wx (hL.below hx) hF hv (fun e he => by simp at he; subst he; decide) (fun e he => by cases he) (by decide) (by have := @headOf_len 7 [oneE] 4; omega) hx.size
    rw [followed_take] at h
    exact h : Calls Tryz.prog 11 #[.pointer (some ⟨b, 0, none⟩), .string (bs (headOf 7 [oneE] 4).1), v] wx fun e w' => e = .returned (errV E 0) ∧ FolAt w' w.heap.size b ⟨7, [oneE], [⟨annE, 2⟩], 4, (headOf 7 [oneE] 4).1⟩ ∧ Keeps (· = b) wx w'))
  generalize headOf 7 [oneE] 4 = H at *
  obtain ⟨H1, H2, H3⟩ := H
  clear hL
  go_enter Tryz.func6, Tryz.ntmps6
  go_wp2_with fail
  refine hnw.out.mono ?_
  rintro e w1 ⟨hor, hb1⟩
  rcases hor with ⟨hk, _⟩ | ⟨_, b, rfl, hF1⟩
  · exact absurd hk (by decide)
  have hF1H := Lib.hid hF1
  have had1 := Lib.hid (had.out _ hb1)
  have hb1H := Lib.hid hb1
  clear hF1 hb1 hnw had
  go_wp2_with fail
  refine had1.out.mono ?_
  rintro e w2 ⟨⟨v2, ev2, rfl, hrow2, he2⟩, hb2⟩
  obtain ⟨rfl, _⟩ := he2.zero rfl
  have hmk2 := Lib.hid (hmk.out _ _ (below_trans hb1H.out hb2) (EntRow.at_ hrow2))
  have hrow2H := Lib.hid hrow2
  have hF2 := Lib.hid (hF1H.out.below hb2)
  have hb2H := Lib.hid (below_trans hb1H.out hb2)
  clear hrow2 he2 hb2 had1 hmk
  go_wp2_with fail
  refine hmk2.out.mono ?_
  rintro e w3 ⟨⟨ev3, rfl, he3⟩, hb3⟩
  obtain ⟨rfl, _⟩ := he3.zero hcode.out
  dsimp only
  have hF3 := hF2.out.below hb3
  have hb3H := Lib.hid (below_trans hb2H.out hb3)
  have htk3 := Lib.hid (htk.out b _ _ (below_trans hb2H.out hb3) hF3 (EntRow.at_ (RowG.below hrow2H.out hb3)))
  clear he3 hb3 hF3 hmk2 htk
  go_wp2_with fail
  refine htk3.out.mono ?_
  rintro e w4 ⟨rfl, hF4, hk4⟩
  rw [errV_zero]
  have hfl4 := Lib.hid (floors_fol w.heap.size b _ w4 hF4 (show 1 ≤ 1000 from by decide))
  have hF4H := Lib.hid hF4
  have hb4 := Lib.hid (show Below w.heap.size w w4 from ⟨hk4.os.trans hb3H.out.os, hk4.tape.trans hb3H.out.tape, hk4.output.trans hb3H.out.output, Nat.le_trans hb3H.out.size hk4.size, fun k hk => (hk4.block k (Nat.lt_of_lt_of_le hk hb3H.out.size) (fun e => by have := hF4.1; omega)).trans (hb3H.out.block k hk)⟩)
  clear hF4 hk4 htk3
  go_wp2_with fail
  refine hfl4.out.mono ?_
  rintro e w5 ⟨v5, rfl, hrow5, hb5⟩
  have hat5 := floorsAt_of (RowG.at_ (floRow_G.1 hrow5))
  obtain ⟨a5, c5, hv5, _, _, hcs⟩ := hat5
  obtain ⟨bb, oo, rfl, h0, h1⟩ := hcs 0 (by decide)
  simp only [List.getElem_cons_zero, Nat.zero_mul, Nat.add_zero] at h0 h1
  simp only [List.length_cons, List.length_nil, Nat.zero_add] at hv5
  subst hv5
  have hF5 := Lib.hid (hF4H.out.below hb5)
  have hb5H := Lib.hid (below_trans hb4.out hb5)
  have h1H := Lib.hid h1
  have hsq := Lib.hid (seq_fol w.heap.size b _ w5 hF5.out)
  clear hcs hrow5 hb5 h0 h1 hfl4
  go_wp2_with fail
  refine hsq.out.mono ?_
  rintro e w6 ⟨rfl, hb6⟩
  have htm := Lib.hid (time_fol w.heap.size b _ w6 (hF5.out.below hb6))
  have h1H := Lib.hid (cell_below hb6 h1H.out)
  have hb6H := Lib.hid (below_trans hb5H.out hb6)
  clear hb6 hsq
  dsimp only
  go_wp2_with fail
  refine htm.out.mono ?_
  rintro e w7 ⟨rfl, hb7⟩
  have h1 := cell_below hb7 h1H.out
  have hb7H := Lib.hid (below_trans hb6H.out hb7)
  clear hb7 htm
  dsimp only
  go_wp2_with fail
  go_ret
  exact ⟨rfl, hb7H.out⟩
end Go.Proofs.YtpkcndohjmpdeaaGreatDoor

/- LongFloors, walked. -/
namespace Go.Proofs.YtpkcndohjmpdeaaGreatDoor
open Go.RowKit

def longF (L : List Flo) : Bool := decide (25 < L.length) || L.any fun f => decide (20 < f.who.length)
def longI (L : List Flo) : Int := if longF L = true then 1 else 0
theorem longF_false {L : List Flo} (h : longF L = false) : L.length ≤ 25 ∧ ∀ f ∈ L, f.who.length ≤ 20 := by
  unfold longF at h
  rw [Bool.or_eq_false_iff, List.any_eq_false] at h
  refine ⟨by have := of_decide_eq_false h.1; omega, fun f hf => ?_⟩
  have := h.2 f hf
  simp at this
  exact this
end Go.Proofs.YtpkcndohjmpdeaaGreatDoor

/- SameFloors, walked. -/
namespace Go.Proofs.YtpkcndohjmpdeaaGreatDoor
open Go.RowKit

set_option maxRecDepth 100000 in
theorem samef_flo (x y : Value) (L : List Flo) (w : World) (hx : FloorsAt w x L) (hy : FloorsAt w y L) :
    Calls Tryz.prog 18 #[x, y] w fun e w' => e = .returned (.bool true) ∧ Below w.heap.size w w' := by
  obtain ⟨a, c, rfl, hm, _, ha⟩ := hx
  obtain ⟨a2, c2, rfl, _, _, ha2⟩ := hy
  unfold maxLen at hm
  go_enter Tryz.func18, Tryz.ntmps18
  go_wp2_with fail
  go_loopw [5] (fun i wr => ∃ j n : Nat, j ≤ L.length ∧ i = .int .i64 j ∧ wr = w.drewN n) (fun i _ => L.length - (intOf i).toNat)
  case atStart => exact ⟨0, 0, Nat.zero_le _, rfl, rfl⟩
  case round =>
    obtain ⟨j, n, hj, rfl, rfl⟩ := hrel
    by_cases hlt : j < L.length
    · obtain ⟨b, o, rfl, h0, h1⟩ := ha j hlt
      obtain ⟨b2, o2, rfl, k0, k1⟩ := ha2 j hlt
      go_wp2
      go_quiet (fail)
      go_wp2
      exact ⟨⟨j + 1, _, by omega, by simp, rfl⟩, by simp [intOf]; omega⟩
    · have hje : j = L.length := by omega
      subst hje
      go_wp2
      go_ret
      exact ⟨rfl, below_drawn (Below.refl _ _) _⟩
end Go.Proofs.YtpkcndohjmpdeaaGreatDoor

/- The walks of the reference's texts: digits, names, words, numbers, cut, glue. -/
namespace Go.Proofs.YtpkcndohjmpdeaaGreatDoor
open Go.RowKit Go.Maps

theorem str_cat (a b : List UInt8) : bs a ++ bs b = bs (a ++ b) := by
  apply ByteArray.ext
  simp [bs]
theorem ret_string {a b : ByteArray} (h : a = b) : Ending.returned (.string a) = .returned (.string b) := by rw [h]
theorem digit_byte (n : Int) (h0 : 48 ≤ n) (h1 : n ≤ 57) : ((UInt8.ofNat n.toNat).toNat : Int) = n := by
  simp
  omega
set_option maxRecDepth 100000 in
theorem byte_any (n : Int) (w : World) (h0 : 48 ≤ n) (h1 : n ≤ 57) :
    Calls Tryz.prog 120 #[.int .i64 n] w fun e w' => e = .returned (.string (bs [UInt8.ofNat n.toNat])) ∧ Below w.heap.size w w' := by
  have hcb := run_convert_bytes_back (P := Tryz.prog) (w.alloc (.cells #[.int .u8 n] 5)) 126 9 5 ⟨w.heap.size, 0, none⟩ 1 [UInt8.ofNat n.toNat] Tryz.underlying126 Tryz.underlying5 Tryz.underlying9 (by
    intro i hi
    have : i = 0 := by simpa using hi
    subst this
    rw [List.getElem_singleton, digit_byte n h0 h1]
    simp [Addr.add])
  rw [show [UInt8.ofNat n.toNat].length = 1 from rfl] at hcb
  go_enter Tryz.func120, Tryz.ntmps120
  go_wp2_with fail
  go_ret
  exact ⟨rfl, (Below.refl _ _).alloc (Nat.le_refl _) _⟩

theorem neg_tdiv (u : Nat) : (-(u : Int)).tdiv 10 = -((u / 10 : Nat) : Int) := by
  rw [Int.neg_tdiv]
  rfl
theorem neg_tmod (u : Nat) : (-(u : Int)).tmod 10 = -((u % 10 : Nat) : Int) := by
  rw [Int.neg_tmod]
  rfl
theorem dec_len {u : Nat} (h : u ≤ 9223372036854775807) : (Lib.decDigits u).length ≤ 19 :=
  decDigits_len 18 u (by have : (10 : Nat) ^ (18 + 1) = 10000000000000000000 := by decide
                         omega)
set_option maxRecDepth 100000 in
theorem below_any (u : Nat) : ∀ (w : World), u ≤ 9223372036854775807 →
    Calls Tryz.prog 90 #[.int .i64 (-(u : Int))] w fun e w' => e = .returned (.string (bs (Lib.decDigits u))) ∧ Below w.heap.size w w' := by
  induction u using Nat.strongRecOn with
  | _ u ih =>
    intro w hu
    by_cases h : u < 10
    · have hd := Lib.hid (show Lib.decDigits u = [UInt8.ofNat (48 + u)] by rw [Lib.decDigits, dif_pos h])
      have hb := Lib.hid (byte_any (48 + (u : Int)) w (by omega) (by omega))
      have ht : decide (-10 < -(u : Int)) = true := decide_eq_true (by omega)
      clear ih
      go_enter Tryz.func90, Tryz.ntmps90
      go_wp2_with fail
      refine hb.out.mono ?_
      rintro e w1 ⟨rfl, hb1⟩
      go_wp2_with fail
      go_ret
      exact ⟨ret_string (by rw [hd.out]; congr 1), hb1⟩
    · have hd := Lib.hid (show Lib.decDigits u = Lib.decDigits (u / 10) ++ [UInt8.ofNat (48 + u % 10)] by rw [Lib.decDigits, dif_neg h])
      have ht : decide (-10 < -(u : Int)) = false := decide_eq_false (by omega)
      have hi := Lib.hid (ih (u / 10) (by omega))
      have hb := Lib.hid (fun wx => byte_any (48 + ((u % 10 : Nat) : Int)) wx (by omega) (by omega))
      have hs1 : (bs (Lib.decDigits (u / 10))).size ≤ 19 := by rw [bs_size]; exact dec_len (by omega)
      rw [show (48 + ((u % 10 : Nat) : Int)).toNat = 48 + u % 10 by omega] at hb
      have hs2 : (bs [UInt8.ofNat (48 + u % 10)]).size ≤ 1 := by rw [bs_size]; exact Nat.le_refl 1
      have hfin := Lib.hid (show bs (Lib.decDigits (u / 10)) ++ bs [UInt8.ofNat (48 + u % 10)] = bs (Lib.decDigits u) from (str_cat _ _).trans (by rw [hd.out]))
      generalize bs [UInt8.ofNat (48 + u % 10)] = q at *
      clear ih
      go_enter Tryz.func90, Tryz.ntmps90
      go_wp2_with fail
      rw [show (-((u : Int) / 10)) = -((u / 10 : Nat) : Int) by omega]
      refine (hi.out _ (by omega)).mono ?_
      rintro e w1 ⟨rfl, hb1⟩
      go_wp2_with fail
      rw [show (48 : Int) + (u : Int) % 10 = 48 + ((u % 10 : Nat) : Int) by omega]
      refine (hb.out _).mono ?_
      rintro e w2 ⟨rfl, hb2⟩
      go_wp2_with fail
      go_ret
      exact ⟨ret_string hfin.out, below_trans hb1 hb2⟩
set_option maxRecDepth 100000 in
theorem decimal_any (n : Int) (w : World) (h0 : -9223372036854775807 ≤ n) (h1 : n ≤ 9223372036854775807) :
    Calls Tryz.prog 65 #[.int .i64 n] w fun e w' => e = .returned (.string (bs (Lib.itoa n))) ∧ Below w.heap.size w w' := by
  by_cases h : n < 0
  · obtain ⟨u, rfl⟩ : ∃ u : Nat, n = -(u : Int) := ⟨n.natAbs, by omega⟩
    have hr := Lib.hid (show Lib.itoa (-(u : Int)) = 45 :: Lib.decDigits u by unfold Lib.itoa; rw [if_pos h]; congr 2; omega)
    have hb := Lib.hid (below_any u w (by omega))
    have hs1 : (bs (Lib.decDigits u)).size ≤ 19 := by rw [bs_size]; exact dec_len (by omega)
    have ht : 0 < u := by omega
    clear h
    go_enter Tryz.func65, Tryz.ntmps65
    go_wp2_with fail
    refine hb.out.mono ?_
    rintro e w1 ⟨rfl, hb1⟩
    go_wp2_with fail
    go_ret
    exact ⟨ret_string (by rw [hr.out]; exact (str_cat [45] _)), hb1⟩
  · obtain ⟨u, rfl⟩ : ∃ u : Nat, n = (u : Int) := ⟨n.toNat, by omega⟩
    have hr := Lib.hid (show Lib.itoa (u : Int) = Lib.decDigits u by unfold Lib.itoa; rw [if_neg h, Int.toNat_natCast])
    have hb := Lib.hid (below_any u w (by omega))
    go_enter Tryz.func65, Tryz.ntmps65
    go_wp2_with fail
    refine hb.out.mono ?_
    rintro e w1 ⟨rfl, hb1⟩
    go_wp2_with fail
    go_ret
    exact ⟨ret_string (by rw [hr.out]), hb1⟩

/-! Names, words, numbers. -/
theorem ret_bool2 {a b : Bool} (h : a = b) : Ending.returned (.bool a) = .returned (.bool b) := by rw [h]
set_option maxRecDepth 100000 in
theorem small_any (c : UInt8) (w : World) :
    Calls Tryz.prog 118 #[.int .u8 (c.toNat : Int)] w fun e w' => e = .returned (.bool (smallB c)) ∧ w = w' := by
  have hr := Lib.hid (show smallB c = ((decide (97 ≤ c.toNat) && decide (c.toNat ≤ 122)) || (decide (48 ≤ c.toNat) && decide (c.toNat ≤ 57))) by
    unfold smallB
    simp only [UInt8.le_iff_toNat_le]
    rfl)
  have hc := UInt8.toNat_lt c
  generalize c.toNat = n at *
  by_cases h1 : 97 ≤ n <;> by_cases h2 : n ≤ 122 <;> by_cases h3 : 48 ≤ n <;> by_cases h4 : n ≤ 57
  all_goals first | (exfalso; omega) | skip
  all_goals
    go_enter Tryz.func118, Tryz.ntmps118
    go_wp2_with fail
    go_ret
    exact ⟨ret_bool2 (by rw [hr.out]; simp [h1, h2, h3, h4]; try omega), rfl⟩
end Go.Proofs.YtpkcndohjmpdeaaGreatDoor

/- The walks of the reference's texts: names, words, numbers, cut, glue. -/
namespace Go.Proofs.YtpkcndohjmpdeaaGreatDoor
open Go.RowKit Go.Maps

theorem all_bytes {p : UInt8 → Bool} {s : ByteArray} (h : ∀ q, q < s.size → p (byteAt s q) = true) : ∀ c ∈ s.data.toList, p c = true := by
  intro c hc
  obtain ⟨i, hi, rfl⟩ := List.getElem_of_mem hc
  have := h i (by simpa using hi)
  unfold byteAt at this
  rwa [List.getD_eq_getElem?_getD, List.getElem?_eq_getElem hi] at this
theorem byte_mem {s : ByteArray} {j : Nat} (h : j < s.size) : byteAt s j ∈ s.data.toList := by
  unfold byteAt
  have hi : j < s.data.toList.length := by simpa using h
  rw [List.getD_eq_getElem?_getD, List.getElem?_eq_getElem hi]
  exact List.getElem_mem hi
set_option maxRecDepth 100000 in
theorem isNameR_any (s : ByteArray) (w : World) (hs : s.size ≤ maxLen) :
    Calls Tryz.prog 142 #[.string s] w fun e w' => e = .returned (.bool (isName s.data.toList)) ∧ w = w' := by
  unfold maxLen at hs
  have hlen : s.data.toList.length = s.size := Array.length_toList
  go_enter Tryz.func142, Tryz.ntmps142
  go_wp2_with fail
  go_loop [3] (fun i => ∃ j : Nat, j ≤ s.size ∧ i = .int .i64 j ∧ Hid (∀ q, q < j → smallB (byteAt s q) = true)) (fun i => s.size - (intOf i).toNat)
  case atStart => exact ⟨0, Nat.zero_le _, rfl, Lib.hid (fun _ h => absurd h (Nat.not_lt_zero _))⟩
  case round =>
    obtain ⟨j, hj, rfl, hall⟩ := hrel
    by_cases hlt : j < s.size
    · have hsm := Lib.hid (fun wx => small_any s[j] wx)
      cases hb : smallB (byteAt s j) with
      | false =>
        rw [← byteAt_eq s j hlt, hb, byteAt_eq s j hlt] at hsm
        have hr := Lib.hid (show isName s.data.toList = false by
          cases hn : isName s.data.toList with
          | false => rfl
          | true =>
            have := ((isName_iff _).1 hn).2.2 _ (byte_mem hlt)
            rw [hb] at this
            cases this)
        clear hb
        go_wp2_with (go_at_call 118; refine (hsm.out _).mono ?_; rintro e w' ⟨rfl, rfl⟩)
        go_ret
        exact ⟨ret_bool2 hr.out.symm, rfl⟩
      | true =>
        rw [← byteAt_eq s j hlt, hb, byteAt_eq s j hlt] at hsm
        have hall2 := Lib.hid (show ∀ q, q < j + 1 → smallB (byteAt s q) = true from fun q hq => by
          rcases Nat.lt_succ_iff_lt_or_eq.1 hq with h' | rfl
          · exact hall.out q h'
          · exact hb)
        clear hb
        go_wp2_with (go_at_call 118; refine (hsm.out _).mono ?_; rintro e w' ⟨rfl, rfl⟩)
        go_round
        case rel => exact ⟨j + 1, hlt, by go_num, hall2⟩
        case measure => simp [intOf]; omega
    · have hr := Lib.hid (show isName s.data.toList = (decide (1 ≤ s.size) && decide (s.size ≤ 8)) by
        have h1 : s.data.toList.all smallB = true := List.all_eq_true.2 (all_bytes fun q hq => hall.out q (by omega))
        unfold isName
        rw [h1, hlen, Bool.and_true])
      clear hlen
      by_cases h1 : 1 ≤ s.size <;> by_cases h8 : s.size ≤ 8
      all_goals first | (exfalso; omega) | skip
      all_goals
        go_wp2_with fail
        go_ret
        exact ⟨ret_bool2 (by rw [hr.out]; simp [h1, h8]; try omega), rfl⟩
set_option maxRecDepth 100000 in
theorem isWordR_any (s : ByteArray) (w : World) (hs : s.size ≤ maxLen) :
    Calls Tryz.prog 86 #[.string s] w fun e w' => e = .returned (.bool (isWord s.data.toList)) ∧ w = w' := by
  unfold maxLen at hs
  have hlen : s.data.toList.length = s.size := Array.length_toList
  go_enter Tryz.func86, Tryz.ntmps86
  go_wp2_with fail
  go_loop [3] (fun i => ∃ j : Nat, j ≤ s.size ∧ i = .int .i64 j ∧ Hid (∀ q, q < j → wordB (byteAt s q) = true)) (fun i => s.size - (intOf i).toNat)
  case atStart => exact ⟨0, Nat.zero_le _, rfl, Lib.hid (fun _ h => absurd h (Nat.not_lt_zero _))⟩
  case round =>
    obtain ⟨j, hj, rfl, hall⟩ := hrel
    by_cases hlt : j < s.size
    · have hsm := Lib.hid (fun wx => small_any s[j] wx)
      have hwb : wordB s[j] = (smallB s[j] || s[j] == 45 || s[j] == 42) := rfl
      have hn1 : s[j] = byteAt s j := (byteAt_eq s j hlt).symm
      have e45 : (((s[j].toNat : Int)) != 45) = !(s[j] == 45) := by
        by_cases h : s[j] = 45
        · rw [h]; rfl
        · have : (s[j].toNat : Int) ≠ 45 := fun e => h (UInt8.toNat_inj.1 (by simpa using Int.ofNat.inj e))
          rw [bne_iff_ne.2 this, beq_eq_false_iff_ne.2 h]; rfl
      have e42 : (((s[j].toNat : Int)) != 42) = !(s[j] == 42) := by
        by_cases h : s[j] = 42
        · rw [h]; rfl
        · have : (s[j].toNat : Int) ≠ 42 := fun e => h (UInt8.toNat_inj.1 (by simpa using Int.ofNat.inj e))
          rw [bne_iff_ne.2 this, beq_eq_false_iff_ne.2 h]; rfl
      have hgo : wordB (byteAt s j) = true → Hid (∀ q, q < j + 1 → wordB (byteAt s q) = true) := fun hb => Lib.hid fun q hq => by
        rcases Nat.lt_succ_iff_lt_or_eq.1 hq with h' | rfl
        · exact hall.out q h'
        · exact hb
      have hno : wordB (byteAt s j) = false → Hid (isWord s.data.toList = false) := fun hb => Lib.hid (by
        cases hn : isWord s.data.toList with
        | false => rfl
        | true =>
          have := ((isWord_iff _).1 hn).2.2 _ (byte_mem hlt)
          rw [hb] at this
          cases this)
      rw [← hn1] at hgo hno
      cases h1 : smallB s[j] with
      | true =>
        rw [h1] at hsm hwb
        have hall2 := hgo (by rw [hwb]; rfl)
        clear h1 hwb hgo hno hn1 e45 e42
        go_wp2_with (go_at_call 118; refine (hsm.out _).mono ?_; rintro e w' ⟨rfl, rfl⟩)
        go_round
        case rel => exact ⟨j + 1, hlt, by go_num, hall2⟩
        case measure => simp [intOf]; omega
      | false =>
        rw [h1] at hsm hwb
        cases h2 : (s[j] == 45) with
        | true =>
          rw [h2] at hwb e45
          have hall2 := hgo (by rw [hwb]; rfl)
          clear h1 h2 hwb hgo hno hn1 e42
          have e45 : ((s[j].toNat : Int) != 45) = false := e45
          go_wp2_with (go_at_call 118; refine (hsm.out _).mono ?_; rintro e w' ⟨rfl, rfl⟩)
          go_round
          case rel => exact ⟨j + 1, hlt, by go_num, hall2⟩
          case measure => simp [intOf]; omega
        | false =>
          rw [h2] at hwb e45
          have e45 : ((s[j].toNat : Int) != 45) = true := e45
          cases h3 : (s[j] == 42) with
          | true =>
            rw [h3] at hwb e42
            have hall2 := hgo (by rw [hwb]; rfl)
            clear h1 h2 h3 hwb hgo hno hn1
            have e42 : ((s[j].toNat : Int) != 42) = false := e42
            go_wp2_with (go_at_call 118; refine (hsm.out _).mono ?_; rintro e w' ⟨rfl, rfl⟩)
            go_round
            case rel => exact ⟨j + 1, hlt, by go_num, hall2⟩
            case measure => simp [intOf]; omega
          | false =>
            rw [h3] at hwb e42
            have hr := hno (by rw [hwb]; rfl)
            clear h1 h2 h3 hwb hgo hno hn1
            have e42 : ((s[j].toNat : Int) != 42) = true := e42
            go_wp2_with (go_at_call 118; refine (hsm.out _).mono ?_; rintro e w' ⟨rfl, rfl⟩)
            go_ret
            exact ⟨ret_bool2 hr.out.symm, rfl⟩
    · have hr := Lib.hid (show isWord s.data.toList = (decide (1 ≤ s.size) && decide (s.size ≤ 20)) by
        have h1 : s.data.toList.all wordB = true := List.all_eq_true.2 (all_bytes fun q hq => hall.out q (by omega))
        unfold isWord
        rw [h1, hlen, Bool.and_true])
      clear hlen
      by_cases h1 : 1 ≤ s.size <;> by_cases h8 : s.size ≤ 20
      all_goals first | (exfalso; omega) | skip
      all_goals
        go_wp2_with fail
        go_ret
        exact ⟨ret_bool2 (by rw [hr.out]; simp [h1, h8]; try omega), rfl⟩

/-- What the reference's NumberOf answers (-1: none). -/
def numR (l : List UInt8) (most : Int) : Int := match numOf l with
  | some n => if (n : Int) ≤ most then (n : Int) else -1
  | none => -1
theorem numR_number (l : List UInt8) (most : Int) : numR l most = if (number l most).2 = true then (number l most).1 else -1 := by
  unfold numR number
  cases numOf l with
  | none => rfl
  | some n =>
    by_cases h : (n : Int) ≤ most <;> simp [h]
theorem numR_none {l : List UInt8} {most : Int} (h : goodNum l = false ∨ 10 < l.length) : numR l most = -1 := by
  unfold numR numOf
  rw [if_neg]
  simp only [Bool.and_eq_true, decide_eq_true_eq]
  rintro ⟨h1, h2⟩
  rcases h with h | h
  · rw [h1] at h; cases h
  · omega
theorem numR_some {l : List UInt8} {most : Int} (h : goodNum l = true) (h2 : l.length ≤ 10) : numR l most = if (decVal l : Int) ≤ most then (decVal l : Int) else -1 := by
  unfold numR numOf
  rw [if_pos (by simp [h, h2])]
theorem head_byte (s : ByteArray) (h : 0 < s.size) : s.data.toList.head? = some (byteAt s 0) := by
  have hi : 0 < s.data.toList.length := by simpa using h
  unfold byteAt
  rw [List.head?_eq_getElem?, List.getD_eq_getElem?_getD, List.getElem?_eq_getElem hi]
  rfl
theorem int_eq2 {k : IntKind} {a b : Int} (h : a = b) : Value.int k a = .int k b := by rw [h]
end Go.Proofs.YtpkcndohjmpdeaaGreatDoor
