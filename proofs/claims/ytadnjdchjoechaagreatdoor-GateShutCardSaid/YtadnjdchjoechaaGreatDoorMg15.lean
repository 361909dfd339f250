/- Look, FedO, FolC -/
import Derived.Test.YtadnjdchjoechaaGreatDoorMg13
import Derived.Test.YtadnjdchjoechaaGreatDoorMg9
import Derived.Test.YtadnjdchjoechaaGreatDoorShelf4
/- seal.look, Look and Open by contracts. -/
namespace Go.Proofs.YtadnjdchjoechaaGreatDoor
open Go.RowKit

theorem textsAt_nil (w : World) : TextsAt w (.slice none 0 0) [] := ⟨none, 0, rfl, Nat.zero_le _, Nat.zero_le _, fun i hi => by cases hi⟩
set_option maxRecDepth 100000 in
theorem split_any {E : Nat → Addr} (s : ByteArray) (w : World) (hL : LaidS E w) (hs : s.size ≤ 1000000) :
    Calls Tryz.prog 142 #[.string s, .string ⟨#[32]⟩] w fun e w' => ∃ v, e = .returned v ∧ TextsAt w' v (cutL 32 s.data.toList) ∧ Below w.heap.size w w' := by
  obtain ⟨m, hm⟩ := hL.mx
  have h := Any.strings_Split Tryz.splitL (by kernel_rfl) s ⟨#[32]⟩ m w (by omega) hm (Nat.le_refl 1)
  refine (show Calls Tryz.prog 142 #[.string s, .string ⟨#[32]⟩] w _ from h).mono ?_
  rintro e w' ⟨rfl, rfl⟩
  have hcut := splitB_cut 32 s
  have hlen := countB_cut 32 s
  rw [hcut, hlen]
  have hle : (cutL 32 s.data.toList).length ≤ s.size + 1 := by
    rw [← hlen]
    have := Lib.countB_le ⟨#[32]⟩ (Nat.le_refl 1) s.size s (Nat.le_refl _)
    omega
  refine ⟨_, rfl, ⟨_, _, rfl, by unfold maxLen; omega, Nat.le_refl _, fun i hi => ⟨w.heap.size, 0, rfl, ?_⟩⟩, (Below.refl _ _).alloc (Nat.le_refl _) _⟩
  rw [World.cell?_alloc_new]
  simp [hi]

set_option maxHeartbeats 1000000 in
set_option maxRecDepth 100000 in
theorem look_any {E : Nat → Addr} (s : ByteArray) (w : World) (hL : LaidS E w) (hs : s.size ≤ 1000000) :
    Calls Tryz.prog 107 #[.string s] w fun e w' => ∃ v, e = .returned (.tuple #[.string (bs (lookOf s.data.toList).1), v, .int .i64 (lookOf s.data.toList).2.2.1, errV E (lookOf s.data.toList).2.2.2]) ∧ TextsAt w' v (lookOf s.data.toList).2.1 ∧ Below w.heap.size w w' := by
  have hlen : s.data.toList.length = s.size := Array.length_toList
  by_cases h4 : 4000 < s.size
  · have hr := Lib.hid (show lookOf s.data.toList = ([], [], 0, 2) by unfold lookOf; rw [if_pos (by omega)])
    have he := hL.laid.e2
    clear hlen
    go_enter Tryz.func107, Tryz.ntmps107
    go_wp2_with fail
    go_quiet (fail)
    go_wp2_with fail
    exact bodyPost_ret (v := .tuple #[.string ⟨#[]⟩, .slice none 0 0, .int .i64 0, errV E 2]) (by simp [results, Tryz.results107, go_sem]) rfl ⟨.slice none 0 0, by rw [hr.out]; rfl, by rw [hr.out]; exact textsAt_nil _, below_drawn (Below.refl _ _) _⟩
  have hlast : Lib.lastIndexByte s 32 = _ := rfl
  have hspec := lastIndex_cut 32 s
  cases hc : lastCut 32 s.data.toList with
  | none =>
    rw [hc] at hspec
    have hli := Lib.hid (show Calls Tryz.prog 141 #[.string s, .int .u8 32] w _ from Any.strings_LastIndexByte Tryz.lastL s 32 (by omega) w)
    have hspec : Lib.lastIndexByte s 32 = -1 := hspec
    rw [hspec] at hli
    have hr := Lib.hid (show lookOf s.data.toList = ([], [], 0, 1) by unfold lookOf; rw [if_neg (by omega), hc])
    have he := hL.laid.e1
    clear hlen hlast hspec hc
    go_enter Tryz.func107, Tryz.ntmps107
    go_wp2_with fail
    refine hli.out.mono ?_
    rintro e w1 ⟨rfl, hw⟩
    subst hw
    go_wp2_with fail
    go_quiet (fail)
    go_wp2_with fail
    exact bodyPost_ret (v := .tuple #[.string ⟨#[]⟩, .slice none 0 0, .int .i64 0, errV E 1]) (by simp [results, Tryz.results107, go_sem]) rfl ⟨.slice none 0 0, by rw [hr.out]; rfl, by rw [hr.out]; exact textsAt_nil _, below_drawn (Below.refl _ _) _⟩
  | some x =>
    obtain ⟨h, t⟩ := x
    obtain ⟨e1, e2⟩ := lastCut_some 32 _ h t hc
    rw [hc] at hspec
    have hli := Lib.hid (show Calls Tryz.prog 141 #[.string s, .int .u8 32] w _ from Any.strings_LastIndexByte Tryz.lastL s 32 (by omega) w)
    have hspec : Lib.lastIndexByte s 32 = (h.length : Int) := hspec
    rw [hspec] at hli
    have hsz : s.size = h.length + 1 + t.length := by rw [← hlen, e1]; simp; omega
    have hex1 := Lib.hid (show s.extract 0 h.length = bs h by
      apply ByteArray.ext
      apply Array.toList_inj.1
      rw [Lib.extract_data, e1, bs_list]
      simp)
    have hex2 := Lib.hid (show s.extract (h.length + 1) s.size = bs t by
      apply ByteArray.ext
      apply Array.toList_inj.1
      rw [Lib.extract_to_end, e1, bs_list]
      simp [List.drop_append])
    have hlk := Lib.hid (show lookOf s.data.toList = if (number t 1000000006).2 = false then ([], [], 0, 1) else if 10 < (cutL 32 h).length then ([], [], 0, 1) else if badIdx (cutL 32 h) = -1 then (h, cutL 32 h, (number t 1000000006).1, 0) else ([], [], 0, 1) by
      unfold lookOf
      rw [if_neg (by omega), hc])
    have hsp := Lib.hid (split_any (bs h) w hL (by rw [bs_size]; omega))
    have hnu := Lib.hid (fun wx (hx : Below w.heap.size w wx) => number_any (bs t) 1000000006 wx (hL.below hx) (by rw [bs_size]; omega))
    have hht : h.length ≤ 4000 := by omega
    have h4 : decide ((4000 : Int) < (s.size : Int)) = false := decide_eq_false (by omega)
    have hlt : (h.length : Int) < (s.size : Int) := by omega
    clear hlast hspec hc e1 e2 hlen hsz
    go_enter Tryz.func107, Tryz.ntmps107
    go_wp2_with fail
    refine hli.out.mono ?_
    rintro e w1 ⟨rfl, hw⟩
    subst hw
    go_wp2_with fail
    rw [hex1.out]
    refine hsp.out.mono ?_
    rintro e w2 ⟨v, rfl, hv, hb2⟩
    have hv' := Lib.hid hv
    obtain ⟨a, c, rfl, hvl, _, _⟩ := hv
    rw [bs_list] at *
    have hcl := cutL_length 32 h
    unfold maxLen at hvl
    have hb2' := Lib.hid hb2
    go_wp2_with fail
    rw [hex2.out]
    refine (hnu.out _ hb2'.out).mono ?_
    rintro e w3 ⟨rfl, hb3⟩
    have hb23 := Lib.hid hb3
    have hb3 := Lib.hid (below_trans hb2'.out hb3)
    unfold numRes
    have hnb := number_bd t 1000000006
    cases hn2 : (number t 1000000006).2 with
    | false =>
      have hr := Lib.hid (show lookOf s.data.toList = ([], [], 0, 1) by rw [hlk.out, if_pos hn2])
      have he := (hL.below hb3.out).laid.e1
      clear hn2
      go_wp2_with fail
      go_quiet (fail)
      go_wp2_with fail
      exact bodyPost_ret (v := .tuple #[.string ⟨#[]⟩, .slice none 0 0, .int .i64 0, errV E 1]) (by simp [results, Tryz.results107, go_sem]) rfl ⟨.slice none 0 0, by rw [hr.out]; rfl, by rw [hr.out]; exact textsAt_nil _, below_drawn hb3.out _⟩
    | true =>
      have hlk := Lib.hid (show lookOf s.data.toList = if 10 < (cutL 32 h).length then ([], [], 0, 1) else if badIdx (cutL 32 h) = -1 then (h, cutL 32 h, (number t 1000000006).1, 0) else ([], [], 0, 1) by rw [hlk.out, if_neg (by rw [hn2]; decide)])
      clear hn2
      by_cases h10 : 10 < (cutL 32 h).length
      · have hr := Lib.hid (show lookOf s.data.toList = ([], [], 0, 1) by rw [hlk.out, if_pos h10])
        have h10' : decide ((10 : Int) < ((cutL 32 h).length : Int)) = true := decide_eq_true (by omega)
        have he := (hL.below hb3.out).laid.e1
        go_wp2_with fail
        go_quiet (fail)
        go_wp2_with fail
        exact bodyPost_ret (v := .tuple #[.string ⟨#[]⟩, .slice none 0 0, .int .i64 0, errV E 1]) (by simp [results, Tryz.results107, go_sem]) rfl ⟨.slice none 0 0, by rw [hr.out]; rfl, by rw [hr.out]; exact textsAt_nil _, below_drawn hb3.out _⟩
      have hlk := Lib.hid (show lookOf s.data.toList = if badIdx (cutL 32 h) = -1 then (h, cutL 32 h, (number t 1000000006).1, 0) else ([], [], 0, 1) by rw [hlk.out, if_neg h10])
      have h10' : decide ((10 : Int) < ((cutL 32 h).length : Int)) = false := decide_eq_false (by omega)
      have hv3 := hv'.out.below hb23.out
      have hco := Lib.hid (contains_any _ (cutL 32 h) 144 w3 hv3 (fun x hx => by have := cutL_len 32 h x hx; unfold maxLen; omega) (look1_bad w3) (enters_of Tryz.func144 (by kernel_rfl) rfl))
      rcases badIdx_cases (cutL 32 h) with ⟨hb, _⟩ | ⟨j, _, hb, _, _⟩
      · have hr := Lib.hid (show lookOf s.data.toList = (h, cutL 32 h, (number t 1000000006).1, 0) by rw [hlk.out, if_pos hb])
        have hd : decide (0 ≤ badIdx (cutL 32 h)) = false := by rw [hb]; rfl
        rw [hd] at hco
        clear hb hd h10
        go_wp2_with fail
        refine hco.out.mono ?_
        rintro e w4 ⟨rfl, hb4⟩
        have hv4 := hv3.below hb4
        have hb4 := Lib.hid (below_trans hb3.out hb4)
        go_wp2_with fail
        refine bodyPost_ret (v := .tuple #[.string (s.extract 0 h.length), .slice a (cutL 32 h).length c, .int .i64 (number t 1000000006).1, .nilIface]) (by simp [results, Tryz.results107, go_sem]) rfl ⟨.slice a (cutL 32 h).length c, ?_, by rw [hr.out]; exact hv4, hb4.out⟩
        rw [hr.out, hex1.out]
        rfl
      · have hr := Lib.hid (show lookOf s.data.toList = ([], [], 0, 1) by rw [hlk.out, if_neg (by rw [hb]; omega)])
        have hd : decide (0 ≤ badIdx (cutL 32 h)) = true := by rw [hb]; exact decide_eq_true (by omega)
        rw [hd] at hco
        clear hb hd h10
        go_wp2_with fail
        refine hco.out.mono ?_
        rintro e w4 ⟨rfl, hb4⟩
        have hb4 := Lib.hid (below_trans hb3.out hb4)
        have he := (hL.below hb4.out).laid.e1
        go_wp2_with fail
        go_quiet (fail)
        go_wp2_with fail
        exact bodyPost_ret (v := .tuple #[.string ⟨#[]⟩, .slice none 0 0, .int .i64 0, errV E 1]) (by simp [results, Tryz.results107, go_sem]) rfl ⟨.slice none 0 0, by rw [hr.out]; rfl, by rw [hr.out]; exact textsAt_nil _, below_drawn hb4.out _⟩
set_option maxHeartbeats 1000000 in
set_option maxRecDepth 100000 in
theorem open_any {E : Nat → Addr} (k : Int) (s : ByteArray) (w : World) (hL : LaidS E w) (hs : s.size ≤ 1000000) :
    Calls Tryz.prog 68 #[.int .i64 k, .string s] w fun e w' => ∃ v, e = .returned (.tuple #[v, errV E (openOf k s.data.toList).2]) ∧ TextsAt w' v (openOf k s.data.toList).1 ∧ Below w.heap.size w w' := by
  by_cases hk : isKey k = true
  case neg =>
    have hk : isKey k = false := by simpa using hk
    have hr := Lib.hid (show openOf k s.data.toList = ([], 10) by unfold openOf; rw [if_pos hk])
    have he := hL.laid.e10
    go_enter Tryz.func68, Tryz.ntmps68
    go_wp2_with (go_at_call 31; refine (key_any _ _).mono ?_; rintro e w' ⟨rfl, rfl⟩)
    go_quiet (fail)
    go_wp2_with fail
    go_ret2
    exact ⟨.slice none 0 0, by rw [hr.out]; rfl, by rw [hr.out]; exact textsAt_nil _, below_drawn (Below.refl _ _) _⟩
  have hl := Lib.hid (look_any s w hL hs)
  have ho := Lib.hid (show openOf k s.data.toList = if (lookOf s.data.toList).2.2.2 = 0 then (if rightOf k (lookOf s.data.toList).1 (lookOf s.data.toList).2.2.1 = 0 then ((lookOf s.data.toList).2.1, 0) else ([], rightOf k (lookOf s.data.toList).1 (lookOf s.data.toList).2.2.1)) else ([], (lookOf s.data.toList).2.2.2) by unfold openOf; rw [if_neg (by rw [hk]; decide)])
  have hlen : (lookOf s.data.toList).1.length ≤ maxLen := by
    have := lookOf_len s.data.toList
    have hl : s.data.toList.length = s.size := Array.length_toList
    unfold maxLen
    omega
  generalize lookOf s.data.toList = q at *
  obtain ⟨hd, W, n, c⟩ := q
  dsimp only at *
  cases c with
  | succ c =>
    have hr := Lib.hid (show openOf k s.data.toList = ([], c + 1) by rw [ho.out, if_neg (by omega)])
    clear hlen
    rw [errV_succ] at hl
    go_enter Tryz.func68, Tryz.ntmps68
    go_wp2_with (go_at_call 31; refine (key_any _ _).mono ?_; rintro e w' ⟨rfl, rfl⟩)
    refine hl.out.mono ?_
    rintro e w1 ⟨v, rfl, hv, hb⟩
    go_wp2_with fail
    go_ret2
    exact ⟨.slice none 0 0, by rw [hr.out]; rfl, by rw [hr.out]; exact textsAt_nil _, hb⟩
  | zero =>
    have ho2 := Lib.hid (show openOf k s.data.toList = if rightOf k hd n = 0 then (W, 0) else ([], rightOf k hd n) by rw [ho.out]; rfl)
    clear ho
    have hri := Lib.hid (fun wx (hx : Below w.heap.size w wx) => right_any k n (bs hd) wx (hL.below hx).laid (by rw [bs_size]; exact hlen))
    rw [errV_zero] at hl
    clear hlen
    go_enter Tryz.func68, Tryz.ntmps68
    go_wp2_with (go_at_call 31; refine (key_any _ _).mono ?_; rintro e w' ⟨rfl, rfl⟩)
    refine hl.out.mono ?_
    rintro e w1 ⟨v, rfl, hv, hb⟩
    have hv := Lib.hid hv
    have hb := Lib.hid hb
    go_wp2_with fail
    refine (hri.out _ hb.out).mono ?_
    rintro e w2 ⟨rfl, hb2⟩
    have hv2 := Lib.hid (hv.out.below hb2)
    have hb2 := Lib.hid (below_trans hb.out hb2)
    rw [bs_list]
    cases hq : rightOf k hd n with
    | zero =>
      have hr := Lib.hid (show openOf k s.data.toList = (W, 0) by rw [ho2.out, if_pos hq])
      clear hq
      rw [errV_zero]
      go_wp2_with fail
      go_ret2
      exact ⟨v, by rw [hr.out]; rfl, by rw [hr.out]; exact hv2.out, hb2.out⟩
    | succ c =>
      have hr := Lib.hid (show openOf k s.data.toList = ([], c + 1) by rw [ho2.out, hq, if_neg (Nat.succ_ne_zero c)])
      clear hq
      rw [errV_succ]
      go_wp2_with fail
      go_ret2
      exact ⟨.slice none 0 0, by rw [hr.out]; rfl, by rw [hr.out]; exact textsAt_nil _, hb2.out⟩
end Go.Proofs.YtadnjdchjoechaaGreatDoor

/- feed.Open, feed.Since: walked. -/
namespace Go.Proofs.YtadnjdchjoechaaGreatDoor
open Go.RowKit

theorem lookW_len (s : List UInt8) : ∀ x ∈ (lookOf s).2.1, x.length ≤ s.length := by
  unfold lookOf
  split
  · intro x hx; cases hx
  · cases hc : lastCut 32 s with
    | none => intro x hx; cases hx
    | some y =>
      obtain ⟨h, t⟩ := y
      obtain ⟨e, _⟩ := lastCut_some 32 s h t hc
      have hl : h.length ≤ s.length := by rw [e]; simp
      dsimp only
      split
      · intro x hx; cases hx
      · split
        · intro x hx; cases hx
        · split
          · intro x hx
            have := cutL_len 32 h x hx
            omega
          · intro x hx; cases hx
theorem openW_len (k : Int) (s : List UInt8) : ∀ x ∈ (openOf k s).1, x.length ≤ s.length := by
  unfold openOf
  split
  · intro x hx; cases hx
  · split
    · split
      · exact lookW_len s
      · intro x hx; cases hx
    · intro x hx; cases hx
def Hd.val (h : Hd) : Value := .agg #[.int .i64 h.seq, .int .i64 h.time, .int .i64 h.sum]
theorem ofHead_len {W : List (List UInt8)} (h : W.length ≠ 4) : ofHead W = (noHd, 1) := by
  match W, h with
  | [], _ => rfl
  | [_], _ => rfl
  | [_, _], _ => rfl
  | [_, _, _], _ => rfl
  | [_, _, _, _], h => exact absurd rfl h
  | _ :: _ :: _ :: _ :: _ :: _, _ => rfl
theorem ofHead_first {a b c d : List UInt8} (h : a ≠ headW) : ofHead [a, b, c, d] = (noHd, 1) := by
  unfold ofHead
  dsimp only
  rw [decide_eq_false h, Bool.false_and, Bool.false_and, Bool.false_and, if_neg (by decide)]
theorem ofHead_nums {b c d : List UInt8} : ofHead [headW, b, c, d] = if ((number b 60).2 && (number c 1000000).2 && (number d 1000000006).2) = true then (⟨(number b 60).1, (number c 1000000).1, (number d 1000000006).1⟩, 0) else (noHd, 1) := by
  unfold ofHead
  dsimp only
  rw [decide_eq_true rfl, Bool.true_and]
theorem row_put3 {w : World} {n : Nat} {u0 u1 u2 : Value} {T : TypeId} (h : w.heap[n]? = some (.cells #[u0, u1, u2] T (0, 0))) (v0 v1 v2 : Value) :
    (((w.setCell ⟨n, 0, none⟩ v0).setCell ⟨n, 1, none⟩ v1).setCell ⟨n, 2, none⟩ v2).heap[n]? = some (.cells #[v0, v1, v2] T (0, 0)) := by
  have h0 := heap_setCell_same _ n 0 _ _ v0 h
  have h1 := heap_setCell_same _ n 1 _ _ v1 h0
  exact heap_setCell_same _ n 2 _ _ v2 h1
theorem below_put3 {B : Nat} {a w : World} (h : Below B a w) {n : Nat} (hn : B ≤ n) (v0 v1 v2 : Value) :
    Below B a (((w.setCell ⟨n, 0, none⟩ v0).setCell ⟨n, 1, none⟩ v1).setCell ⟨n, 2, none⟩ v2) := ((h.setCell hn _).setCell hn _).setCell hn _
theorem head_kept {w1 : World} {n : Nat} {v0 v1 v2 : Value} {T : TypeId} (h1 : w1.heap[n]? = some (.cells #[v0, v1, v2] T (0, 0))) :
    (w1.cell? ⟨n, 0, none⟩ = some v0 ∧ w1.cell? ⟨n, 1, none⟩ = some v1 ∧ w1.cell? ⟨n, 2, none⟩ = some v2) ∧ (w1.frozen? ⟨n, 0, none⟩ = false ∧ w1.frozen? ⟨n, 1, none⟩ = false ∧ w1.frozen? ⟨n, 2, none⟩ = false) := by
  refine ⟨⟨?_, ?_, ?_⟩, ?_, ?_, ?_⟩
  all_goals first
    | (rw [cell_of_row _ _ _ _ _ _ h1]; rfl)
    | exact frozen_of_row _ _ _ _ _ h1
set_option maxHeartbeats 4000000 in
set_option maxRecDepth 100000 in
theorem openF_any {E : Nat → Addr} (k : Int) (s : ByteArray) (w : World) (hL : LaidS E w) (hs : s.size ≤ 1000000) :
    Calls Tryz.prog 64 #[.int .i64 k, .string s] w fun e w' => e = .returned (.tuple #[(openH k s.data.toList).1.val, errV E (openH k s.data.toList).2]) ∧ Below w.heap.size w w' := by
  have hB : Below w.heap.size w (w.alloc (.cells #[.int .i64 0, .int .i64 0, .int .i64 0] 119)) := (Below.refl _ _).alloc (Nat.le_refl _) _
  have hbr := Lib.hid (heap_alloc_new w (.cells #[.int .i64 0, .int .i64 0, .int .i64 0] 119))
  have hso := Lib.hid (open_any (E := E) k s _ (hL.below hB) hs)
  have hBH := Lib.hid hB
  have hLx := Lib.hid (fun wx (hx : Below w.heap.size w wx) => (hL.below hx).laid.e1)
  have hg1 : 8 < w.heap.size := World.block_lt_of_cell? w _ hL.laid.e1
  have hg2 : ¬ (8 = w.heap.size) := by omega
  have hg3 : ¬ (w.heap.size = 8) := by omega
  have hwl := fun x (hx : x ∈ (openOf k s.data.toList).1) => (show x.length ≤ 1000000 from by
    have := openW_len k s.data.toList x hx
    have hl : s.data.toList.length = s.size := Array.length_toList
    omega)
  have hnu := Lib.hid (fun (l : List UInt8) (most : Int) (hl : l.length ≤ 1000000) wx (hx : Below w.heap.size w wx) => number_any (E := E) (bs l) most wx (hL.below hx) (by rw [bs_size]; exact hl))
  have hr0 : openH k s.data.toList = if (openOf k s.data.toList).2 = 0 then ofHead (openOf k s.data.toList).1 else (noHd, (openOf k s.data.toList).2) := rfl
  generalize openH k s.data.toList = p at *
  generalize (openOf k s.data.toList).1 = W at *
  generalize (openOf k s.data.toList).2 = c at *
  clear hB hL
  cases c with
  | succ c =>
    have hr := Lib.hid (hr0.trans (show _ = (noHd, c + 1) from rfl))
    rw [errV_succ] at hso
    clear hr0 hnu hwl
    go_enter Tryz.func64, Tryz.ntmps64
    go_wp2_with fail
    refine hso.out.mono ?_
    rintro e w1 ⟨v, rfl, _, hb⟩
    have hrr := Lib.hid (heap_down hb hbr.out)
    have hb := Lib.hid (below_trans hBH.out hb)
    obtain ⟨⟨r0, r1, r2⟩, f0, f1, f2⟩ := head_kept hrr.out
    have hfin := Lib.hid (below_put3 (n := w.heap.size) hb.out (Nat.le_refl _) (.int .i64 0) (.int .i64 0) (.int .i64 0))
    go_wp2_with fail
    obtain ⟨⟨q0, q1, q2⟩, _⟩ := head_kept (row_put3 hrr.out (.int .i64 0) (.int .i64 0) (.int .i64 0))
    exact bodyPost_ret (v := .tuple #[.agg #[.int .i64 0, .int .i64 0, .int .i64 0], errV E (c + 1)]) (by simp [results, Tryz.results64, go_sem, errV, q0, q1, q2]) rfl ⟨by rw [hr.out]; try rfl, hfin.out⟩
  | zero =>
  have hr := Lib.hid (hr0.trans (show _ = ofHead W from rfl))
  rw [errV_zero] at hso
  clear hr0
  by_cases hl : W.length = 4
  case neg =>
    have hr := Lib.hid (hr.out.trans (ofHead_len hl))
    have hne : ((W.length : Int) != 4) = true := by rw [bne_iff_ne]; omega
    have hlH := Lib.hid hl
    clear hwl hnu hl
    go_enter Tryz.func64, Tryz.ntmps64
    go_wp2_with fail
    refine hso.out.mono ?_
    rintro e w1 ⟨v, rfl, hv, hb⟩
    obtain ⟨a, cp, rfl, hml, _, hcell⟩ := hv
    unfold maxLen at hml
    clear hcell
    have hrr := Lib.hid (heap_down hb hbr.out)
    have hb := Lib.hid (below_trans hBH.out hb)
    have he1 := hLx.out _ hb.out
    simp only [errV] at he1
    obtain ⟨⟨r0, r1, r2⟩, f0, f1, f2⟩ := head_kept hrr.out
    have hfin := Lib.hid (below_put3 (n := w.heap.size) hb.out (Nat.le_refl _) (.int .i64 0) (.int .i64 0) (.int .i64 0))
    go_wp2_with fail
    go_region
    all_goals
      go_wp2_with fail
      obtain ⟨⟨q0, q1, q2⟩, _⟩ := head_kept (row_put3 hrr.out (.int .i64 0) (.int .i64 0) (.int .i64 0))
      exact bodyPost_ret (v := .tuple #[.agg #[.int .i64 0, .int .i64 0, .int .i64 0], errV E 1]) (by simp [results, Tryz.results64, go_sem, errV, q0, q1, q2]) rfl ⟨by rw [hr.out]; rfl, hfin.out.drew⟩
  obtain ⟨a0, a1, a2, a3, rfl⟩ := four_of hl
  clear hl
  have hl1 := hwl a1 (by simp)
  have hl2 := hwl a2 (by simp)
  have hl3 := hwl a3 (by simp)
  have hn1 := Lib.hid (fun wx hx => hnu.out a1 60 hl1 wx hx)
  have hn2 := Lib.hid (fun wx hx => hnu.out a2 1000000 hl2 wx hx)
  have hn3 := Lib.hid (fun wx hx => hnu.out a3 1000000006 hl3 wx hx)
  simp only [bs_list] at hn1 hn2 hn3
  clear hwl hnu hl1 hl2 hl3
  by_cases ha : a0 = headW
  case neg =>
    have hr := Lib.hid (hr.out.trans (ofHead_first ha))
    have hne0 : ((bs a0).toList == [104, 101, 97, 100]) = false := by rw [toList_data, bs_list, beq_eq_false_iff_ne]; exact ha
    have hne : ((bs a0).toList != [104, 101, 97, 100]) = true := by rw [bne, hne0]; rfl
    clear ha hn1 hn2 hn3
    go_enter Tryz.func64, Tryz.ntmps64
    go_wp2_with fail
    refine hso.out.mono ?_
    rintro e w1 ⟨v, rfl, hv, hb⟩
    obtain ⟨a, cp, rfl, hml, hcp, hcell⟩ := hv
    obtain ⟨bb, oo, rfl, c0⟩ := hcell 0 (by simp)
    have c0 : w1.cell? ⟨bb, oo, none⟩ = some (.string (bs a0)) := c0
    have hrr := Lib.hid (heap_down hb hbr.out)
    have hb := Lib.hid (below_trans hBH.out hb)
    have he1 := hLx.out _ hb.out
    simp only [errV] at he1
    clear hcell hml
    simp only [List.length_cons, List.length_nil, Nat.zero_add, Nat.reduceAdd] at hcp
    simp only [List.length_cons, List.length_nil, Nat.zero_add, Nat.reduceAdd]
    obtain ⟨⟨r0, r1, r2⟩, f0, f1, f2⟩ := head_kept hrr.out
    have hfin := Lib.hid (below_put3 (n := w.heap.size) hb.out (Nat.le_refl _) (.int .i64 0) (.int .i64 0) (.int .i64 0))
    go_wp2_with fail
    go_region
    all_goals
      go_wp2_with fail
      obtain ⟨⟨q0, q1, q2⟩, _⟩ := head_kept (row_put3 hrr.out (.int .i64 0) (.int .i64 0) (.int .i64 0))
      exact bodyPost_ret (v := .tuple #[.agg #[.int .i64 0, .int .i64 0, .int .i64 0], errV E 1]) (by simp [results, Tryz.results64, go_sem, errV, q0, q1, q2]) rfl ⟨by rw [hr.out]; rfl, hfin.out.drew⟩
  subst ha
  have hr := Lib.hid (hr.out.trans ofHead_nums)
  have hne0 : ((bs headW).toList == [104, 101, 97, 100]) = true := by rw [toList_data]; rfl
  have hne : ((bs headW).toList != [104, 101, 97, 100]) = false := by rw [bne, hne0]; rfl
  unfold numRes at hn1 hn2 hn3
  generalize number a1 60 = x1 at *
  generalize number a2 1000000 = x2 at *
  generalize number a3 1000000006 = x3 at *
  obtain ⟨n1, o1⟩ := x1
  obtain ⟨n2, o2⟩ := x2
  obtain ⟨n3, o3⟩ := x3
  dsimp only at hn1 hn2 hn3
  obtain ⟨hwb, hhw⟩ : ∃ x, bs headW = x := ⟨_, rfl⟩
  rw [hhw] at hne hne0
  have hhwH := Lib.hid hhw
  clear hhw
  go_enter Tryz.func64, Tryz.ntmps64
  go_wp2_with fail
  refine hso.out.mono ?_
  rintro e w1 ⟨v, rfl, hv, hb⟩
  obtain ⟨a, cp, rfl, hml, hcp, hcell⟩ := hv
  obtain ⟨bb, oo, rfl, c0⟩ := hcell 0 (by simp)
  have c0 : w1.cell? ⟨bb, oo, none⟩ = some (.string (bs headW)) := c0
  rw [hhwH.out] at c0
  have c1 : w1.cell? ⟨bb, oo + 1, none⟩ = some (.string (bs a1)) := by obtain ⟨b', o', he, hc⟩ := hcell 1 (by simp); cases he; exact hc
  have c2 : w1.cell? ⟨bb, oo + 2, none⟩ = some (.string (bs a2)) := by obtain ⟨b', o', he, hc⟩ := hcell 2 (by simp); cases he; exact hc
  have c3 : w1.cell? ⟨bb, oo + 3, none⟩ = some (.string (bs a3)) := by obtain ⟨b', o', he, hc⟩ := hcell 3 (by simp); cases he; exact hc
  have hrr1 := Lib.hid (heap_down hb hbr.out)
  have hb1 := Lib.hid (below_trans hBH.out hb)
  have c2H := Lib.hid c2
  have c3H := Lib.hid c3
  clear hcell hml c2 c3 hb
  simp only [List.length_cons, List.length_nil, Nat.zero_add, Nat.reduceAdd] at hcp
  simp only [List.length_cons, List.length_nil, Nat.zero_add, Nat.reduceAdd]
  go_wp2_with fail
  refine (hn1.out _ hb1.out).mono ?_
  rintro e w2 ⟨rfl, hb2⟩
  have c2 := cell_below hb2 c2H.out
  have c3H := Lib.hid (cell_below hb2 c3H.out)
  have hrr2 := Lib.hid (heap_down hb2 hrr1.out)
  have hb2H := Lib.hid (below_trans hb1.out hb2)
  clear hb2 c0 c1
  go_wp2_with fail
  refine (hn2.out _ hb2H.out).mono ?_
  rintro e w3 ⟨rfl, hb3⟩
  have c3 := cell_below hb3 c3H.out
  have hrr3 := Lib.hid (heap_down hb3 hrr2.out)
  have hb3H := Lib.hid (below_trans hb2H.out hb3)
  clear hb3 c2
  go_wp2_with fail
  refine (hn3.out _ hb3H.out).mono ?_
  rintro e w4 ⟨rfl, hb4⟩
  have hrr := Lib.hid (heap_down hb4 hrr3.out)
  have hb := Lib.hid (below_trans hb3H.out hb4)
  have he1 := hLx.out _ hb.out
  simp only [errV] at he1
  clear hb4 c3
  cases o1 with
  | false =>
    have hr := Lib.hid (hr.out.trans (if_neg (by simp)))
    obtain ⟨⟨r0, r1, r2⟩, f0, f1, f2⟩ := head_kept hrr.out
    have hfin := Lib.hid (below_put3 (n := w.heap.size) hb.out (Nat.le_refl _) (.int .i64 0) (.int .i64 0) (.int .i64 0))
    go_wp2_with fail
    go_region
    all_goals
      go_wp2_with fail
      obtain ⟨⟨q0, q1, q2⟩, _⟩ := head_kept (row_put3 hrr.out (.int .i64 0) (.int .i64 0) (.int .i64 0))
      exact bodyPost_ret (v := .tuple #[.agg #[.int .i64 0, .int .i64 0, .int .i64 0], errV E 1]) (by simp [results, Tryz.results64, go_sem, errV, q0, q1, q2]) rfl ⟨by rw [hr.out]; rfl, hfin.out.drew⟩
  | true =>
  cases o2 with
  | false =>
    have hr := Lib.hid (hr.out.trans (if_neg (by simp)))
    obtain ⟨⟨r0, r1, r2⟩, f0, f1, f2⟩ := head_kept hrr.out
    have hfin := Lib.hid (below_put3 (n := w.heap.size) hb.out (Nat.le_refl _) (.int .i64 0) (.int .i64 0) (.int .i64 0))
    go_wp2_with fail
    go_region
    all_goals
      go_wp2_with fail
      obtain ⟨⟨q0, q1, q2⟩, _⟩ := head_kept (row_put3 hrr.out (.int .i64 0) (.int .i64 0) (.int .i64 0))
      exact bodyPost_ret (v := .tuple #[.agg #[.int .i64 0, .int .i64 0, .int .i64 0], errV E 1]) (by simp [results, Tryz.results64, go_sem, errV, q0, q1, q2]) rfl ⟨by rw [hr.out]; rfl, hfin.out.drew⟩
  | true =>
  cases o3 with
  | false =>
    have hr := Lib.hid (hr.out.trans (if_neg (by simp)))
    obtain ⟨⟨r0, r1, r2⟩, f0, f1, f2⟩ := head_kept hrr.out
    have hfin := Lib.hid (below_put3 (n := w.heap.size) hb.out (Nat.le_refl _) (.int .i64 0) (.int .i64 0) (.int .i64 0))
    go_wp2_with fail
    go_region
    all_goals
      go_wp2_with fail
      obtain ⟨⟨q0, q1, q2⟩, _⟩ := head_kept (row_put3 hrr.out (.int .i64 0) (.int .i64 0) (.int .i64 0))
      exact bodyPost_ret (v := .tuple #[.agg #[.int .i64 0, .int .i64 0, .int .i64 0], errV E 1]) (by simp [results, Tryz.results64, go_sem, errV, q0, q1, q2]) rfl ⟨by rw [hr.out]; rfl, hfin.out.drew⟩
  | true =>
    have hr := Lib.hid (hr.out.trans (if_pos (by simp)))
    obtain ⟨⟨r0, r1, r2⟩, f0, f1, f2⟩ := head_kept hrr.out
    have hfin := Lib.hid (below_put3 (n := w.heap.size) hb.out (Nat.le_refl _) (.int .i64 n1) (.int .i64 n2) (.int .i64 n3))
    go_wp2_with fail
    obtain ⟨⟨q0, q1, q2⟩, _⟩ := head_kept (row_put3 hrr.out (.int .i64 n1) (.int .i64 n2) (.int .i64 n3))
    exact bodyPost_ret (v := .tuple #[.agg #[.int .i64 n1, .int .i64 n2, .int .i64 n3], .nilIface]) (by simp [results, Tryz.results64, go_sem, q0, q1, q2]) rfl ⟨by rw [hr.out]; try rfl, hfin.out⟩
theorem sinceE_check {L : List Ent} {seq : Int} (h : (checkE L).1 ≠ 0) : sinceE L seq = ([], (checkE L).1, (checkE L).2) := by unfold sinceE; rw [if_pos h]
theorem sinceE_neg {L : List Ent} {seq : Int} (h : (checkE L).1 = 0) (h1 : seq < 0) : sinceE L seq = ([], 2, -1) := by unfold sinceE; rw [if_neg (by simpa using h), if_pos h1]
theorem sinceE_far {L : List Ent} {seq : Int} (h : (checkE L).1 = 0) (h1 : ¬ seq < 0) (h2 : (L.length : Int) < seq) : sinceE L seq = ([], 15, -1) := by unfold sinceE; rw [if_neg (by simpa using h), if_neg h1, if_pos h2]
theorem sinceE_good {L : List Ent} (n : Nat) (h : (checkE L).1 = 0) (h2 : n ≤ L.length) : sinceE L n = (L.drop n, 0, -1) := by unfold sinceE; rw [if_neg (by simpa using h), if_neg (by omega), if_neg (by omega)]; rfl
end Go.Proofs.YtadnjdchjoechaaGreatDoor

/- slices.Concat at entries: walked, slices.Grow by its contract. -/
namespace Go.Proofs.YtadnjdchjoechaaGreatDoor
open Go.RowKit Go.Lib Go.Shelf

set_option maxRecDepth 100000 in
/-- A new row of one's own, with room. -/
theorem grow_ent (n : Nat) (w : World) (h0 : 0 < n) (h1 : n ≤ 1000000) :
    Calls Tryz.prog 106 #[.slice none 0 0, .int .i64 n] w fun e w' => ∃ v', e = .returned v' ∧ EntRow w' w.heap.size v' [] ∧ Below w.heap.size w w' := by
  obtain ⟨i0, hi, hz0, hz1, hz2⟩ := info_parts info_ent
  refine (Any8.slices_Grow_grow Tryz.grow106 i0 _ hi hz0 (by rw [hz1]; exact entC.pos) none 0 0 n [] w (Nat.le_refl _) (by omega) (by rw [hz2]; omega) (by omega) (by simp) (fun _ => rfl) (fun a h => by cases h)).mono ?_
  rintro e w' ⟨rfl, rfl⟩
  refine ⟨_, rfl, ?_, ((Below.refl _ _).drew).alloc (Nat.le_refl _) _⟩
  refine ⟨by simp [flatG], .inr ⟨w.heap.size, _, _, rfl, Nat.le_refl _, heap_alloc_new w.drew _, Nat.zero_le _, grownCap_le_maxLen w _ _ _ (by unfold maxLen; omega), ?_, by simp [flatG]⟩⟩
  have hge := grownCap_ge w (0 + n) 0 75
  have hz : (Value.agg #[.int .i64 0, .int .i64 0, .string ⟨#[]⟩, .int .i64 0]).cells.size = 4 := rfl
  have hk : entC.k = 4 := rfl
  rw [Array.size_append, Array.size_append, size_zeroCells, size_zeroCells, hz, hk]
  show (0 + (0 + n - 0) * 4 + (grownCap w (0 + n) 0 75 - (0 + n)) * 4) = grownCap w (0 + n) 0 75 * 4
  omega
theorem grow_none (w : World) :
    Calls Tryz.prog 106 #[.slice none 0 0, .int .i64 0] w fun e w' => e = .returned (.slice none 0 0) ∧ w' = w := by
  have h := Any8.slices_Grow_room Tryz.grow106 none 0 0 0 w (Nat.le_refl _) (by omega) (by omega) (by omega)
  exact h
theorem grow_any (n : Nat) (w : World) (h1 : n ≤ 1000000) :
    Calls Tryz.prog 106 #[.slice none 0 0, .int .i64 n] w fun e w' => ∃ v', e = .returned v' ∧ EntRow w' w.heap.size v' [] ∧ Below w.heap.size w w' := by
  by_cases h0 : n = 0
  · subst h0
    exact (grow_none w).mono fun e w' ⟨he, hw⟩ => ⟨_, he, by rw [hw]; exact RowG.nil _ _ _, by rw [hw]; exact Below.refl _ _⟩
  · exact grow_ent n w (by omega) h1
set_option maxHeartbeats 2000000 in
set_option maxRecDepth 100000 in
theorem concat_ent (g : Nat) (v1 v2 : Value) (A B : List Ent) (w : World) (h0 : w.cell? ⟨g, 0, none⟩ = some v1) (h1 : w.cell? ⟨g, 1, none⟩ = some v2) (hA : EntsAt w v1 A) (hB : EntsAt w v2 B) (hl : A.length + B.length ≤ 1000000) :
    Calls Tryz.prog 65 #[.slice (some ⟨g, 0, none⟩) 2 2] w fun e w' => ∃ v', e = .returned v' ∧ EntRow w' w.heap.size v' (A ++ B) ∧ Below w.heap.size w w' := by
  have hAw := Lib.hid (fun wx (hx : Below w.heap.size w wx) => (show EntsAt wx v1 A from AtG.below hA hx))
  have hBw := Lib.hid (fun wx (hx : Below w.heap.size w wx) => (show EntsAt wx v2 B from AtG.below hB hx))
  have h0H := Lib.hid h0
  have h1H := Lib.hid h1
  obtain ⟨a1, c1, hv1⟩ := EntsAt.sl hA
  obtain ⟨a2, c2, hv2⟩ := EntsAt.sl hB
  have hgr := grow_any (A.length + B.length) w (by omega)
  rw [Int.natCast_add] at hgr
  have hgr := Lib.hid hgr
  have s0 := IntWalk.i64_in (0 + (A.length : Int)) (by omega)
  have s1 := IntWalk.i64_in ((A.length : Int)) (by omega)
  have s2 := IntWalk.i64_in ((A.length : Int) + (B.length : Int)) (by omega)
  have s3 : ¬ ((A.length : Int) < 0) := by omega
  have s4 : ¬ ((A.length : Int) + (B.length : Int) < 0) := by omega
  subst hv1
  subst hv2
  clear hA hB
  go_enter Tryz.func65, Tryz.ntmps65
  go_wp2_with fail
  go_loopg [3, 11] 3 (fun g s3 i wr => w = wr ∧ ((s3 = .int .i64 0 ∧ i = .int .i64 0 ∧ 3 ≤ g) ∨ (s3 = .int .i64 A.length ∧ i = .int .i64 1 ∧ 2 ≤ g) ∨ (s3 = .int .i64 ((A.length : Int) + (B.length : Int)) ∧ i = .int .i64 2 ∧ 1 ≤ g)))
  case atStart => exact ⟨rfl, .inl ⟨rfl, rfl, Nat.le_refl _⟩⟩
  case round =>
    obtain ⟨rfl, ⟨rfl, rfl, hg⟩ | ⟨rfl, rfl, hg⟩ | ⟨rfl, rfl, hg⟩⟩ := hrel
    · go_wp2_with fail
      go_roundg 2
      case measure => omega
      case rel => exact ⟨rfl, .inr (.inl ⟨by simp, by simp, Nat.le_refl _⟩)⟩
    · go_wp2_with fail
      go_roundg 1
      case measure => omega
      case rel => exact ⟨rfl, .inr (.inr ⟨by simp, by simp, Nat.le_refl _⟩)⟩
    · clear h0 h1
      go_wp2_with fail
      refine hgr.out.mono ?_
      rintro e w1 ⟨v6, rfl, hrow6, hb6⟩
      have hrow6 := Lib.hid hrow6
      have hb6 := Lib.hid hb6
      go_wp2_with fail
      go_loopg [6, 27] 3 (fun g v6 i wr => Hid (Below w.heap.size w wr) ∧ ((i = .int .i64 0 ∧ 3 ≤ g ∧ Hid (EntRow wr w.heap.size v6 [])) ∨ (i = .int .i64 1 ∧ 2 ≤ g ∧ Hid (EntRow wr w.heap.size v6 A)) ∨ (i = .int .i64 2 ∧ 1 ≤ g ∧ Hid (EntRow wr w.heap.size v6 (A ++ B)))))
      case atStart => exact ⟨hb6, .inl ⟨rfl, Nat.le_refl _, hrow6⟩⟩
      case round =>
        obtain ⟨hK, ⟨rfl, hg2, hrow⟩ | ⟨rfl, hg2, hrow⟩ | ⟨rfl, hg2, hrow⟩⟩ := hrel
        · have h0 := cell_below hK.out h0H.out
          go_wp2_with (first
            | (at_builtin; refine wpList_appG entC _ rfl _ _ 22 rfl 75 (.agg #[.int .i64 0, .int .i64 0, .string ⟨#[]⟩, .int .i64 0]) 40 Tryz.underlying22 info_ent rfl (by decide) w.heap.size _ [] rfl hrow.out _ A rfl (hAw.out _ hK.out) (by simp; omega) hK.out.size ?_)
            | go_in)
          intro v7 w7 hown hb7 _ _
          have hown := Lib.hid (show EntRow w7 w.heap.size v7 A from hown)
          have hb7 := Lib.hid (hK.out.trans hb7)
          clear h0
          go_wp2_with fail
          go_roundg 2
          case measure => omega
          case rel => exact ⟨hb7, .inr (.inl ⟨by simp, Nat.le_refl _, hown⟩)⟩
        · have h1 := cell_below hK.out h1H.out
          go_wp2_with (first
            | (at_builtin; refine wpList_appG entC _ rfl _ _ 22 rfl 75 (.agg #[.int .i64 0, .int .i64 0, .string ⟨#[]⟩, .int .i64 0]) 40 Tryz.underlying22 info_ent rfl (by decide) w.heap.size _ A rfl hrow.out _ B rfl (hBw.out _ hK.out) (by omega) hK.out.size ?_)
            | go_in)
          intro v7 w7 hown hb7 _ _
          have hown := Lib.hid (show EntRow w7 w.heap.size v7 (A ++ B) from hown)
          have hb7 := Lib.hid (hK.out.trans hb7)
          clear h1
          go_wp2_with fail
          go_roundg 1
          case measure => omega
          case rel => exact ⟨hb7, .inr (.inr ⟨by simp, Nat.le_refl _, hown⟩)⟩
        · go_wp2_with fail
          go_ret
          exact ⟨_, rfl, hrow.out, hK.out⟩
end Go.Proofs.YtadnjdchjoechaaGreatDoor
