/- seal.look, Look and Open by contracts. -/
import Derived.Test.YtgainbpflncgcaaGreatDoorMake
namespace Go.Proofs.YtgainbpflncgcaaGreatDoor
open Go.RowKit

theorem textsAt_nil (w : World) : TextsAt w (.slice none 0 0) [] := ⟨none, 0, rfl, Nat.zero_le _, Nat.zero_le _, fun i hi => by cases hi⟩
set_option maxRecDepth 100000 in
theorem split_any {E : Nat → Addr} (s : ByteArray) (w : World) (hL : LaidS E w) (hs : s.size ≤ 1000000) :
    Calls Tryz.prog 89 #[.string s, .string ⟨#[32]⟩] w fun e w' => ∃ v, e = .returned v ∧ TextsAt w' v (cutL 32 s.data.toList) ∧ Below w.heap.size w w' := by
  obtain ⟨m, hm⟩ := hL.mx
  have h := Any.strings_Split Tryz.splitL (by kernel_rfl) s ⟨#[32]⟩ m w (by omega) hm (Nat.le_refl 1)
  refine (show Calls Tryz.prog 89 #[.string s, .string ⟨#[32]⟩] w _ from h).mono ?_
  rintro e w' ⟨rfl, rfl⟩
  have hcut := splitB_cut 32 s
  have hlen := countB_cut 32 s
  rw [hcut, hlen]
  have hle : (cutL 32 s.data.toList).length ≤ s.size + 1 := by
    rw [← hlen]
    have := Lib.countB_le ⟨#[32]⟩ (Nat.le_refl 1) s.size s (Nat.le_refl _)
    omega
  refine ⟨_, rfl, ⟨_, _, rfl, by unfold maxLen; omega, Nat.le_refl _, fun i hi => ⟨w.heap.size, 0, rfl, ?_⟩⟩, (Below.refl _ _).alloc (Nat.le_refl _) _⟩
  rw [World.cell?_alloc_new]
  simp [hi]

set_option maxHeartbeats 1000000 in
set_option maxRecDepth 100000 in
theorem look_any {E : Nat → Addr} (s : ByteArray) (w : World) (hL : LaidS E w) (hs : s.size ≤ 1000000) :
    Calls Tryz.prog 61 #[.string s] w fun e w' => ∃ v, e = .returned (.tuple #[.string (bs (lookOf s.data.toList).1), v, .int .i64 (lookOf s.data.toList).2.2.1, errV E (lookOf s.data.toList).2.2.2]) ∧ TextsAt w' v (lookOf s.data.toList).2.1 ∧ Below w.heap.size w w' := by
  have hlen : s.data.toList.length = s.size := Array.length_toList
  by_cases h4 : 4000 < s.size
  · have hr := Lib.hid (show lookOf s.data.toList = ([], [], 0, 2) by unfold lookOf; rw [if_pos (by omega)])
    have he := hL.laid.e2
    clear hlen
    go_enter Tryz.func61, Tryz.ntmps61
    go_wp2_with fail
    go_quiet (fail)
    go_wp2_with fail
    exact bodyPost_ret (v := .tuple #[.string ⟨#[]⟩, .slice none 0 0, .int .i64 0, errV E 2]) (by simp [results, Tryz.results61, go_sem]) rfl ⟨.slice none 0 0, by rw [hr.out]; rfl, by rw [hr.out]; exact textsAt_nil _, below_drawn (Below.refl _ _) _⟩
  have hlast : Lib.lastIndexByte s 32 = _ := rfl
  have hspec := lastIndex_cut 32 s
  cases hc : lastCut 32 s.data.toList with
  | none =>
    rw [hc] at hspec
    have hli := Lib.hid (show Calls Tryz.prog 88 #[.string s, .int .u8 32] w _ from Any.strings_LastIndexByte Tryz.lastL s 32 (by omega) w)
    have hspec : Lib.lastIndexByte s 32 = -1 := hspec
    rw [hspec] at hli
    have hr := Lib.hid (show lookOf s.data.toList = ([], [], 0, 1) by unfold lookOf; rw [if_neg (by omega), hc])
    have he := hL.laid.e1
    clear hlen hlast hspec hc
    go_enter Tryz.func61, Tryz.ntmps61
    go_wp2_with fail
    refine hli.out.mono ?_
    rintro e w1 ⟨rfl, hw⟩
    subst hw
    go_wp2_with fail
    go_quiet (fail)
    go_wp2_with fail
    exact bodyPost_ret (v := .tuple #[.string ⟨#[]⟩, .slice none 0 0, .int .i64 0, errV E 1]) (by simp [results, Tryz.results61, go_sem]) rfl ⟨.slice none 0 0, by rw [hr.out]; rfl, by rw [hr.out]; exact textsAt_nil _, below_drawn (Below.refl _ _) _⟩
  | some x =>
    obtain ⟨h, t⟩ := x
    obtain ⟨e1, e2⟩ := lastCut_some 32 _ h t hc
    rw [hc] at hspec
    have hli := Lib.hid (show Calls Tryz.prog 88 #[.string s, .int .u8 32] w _ from Any.strings_LastIndexByte Tryz.lastL s 32 (by omega) w)
    have hspec : Lib.lastIndexByte s 32 = (h.length : Int) := hspec
    rw [hspec] at hli
    have hsz : s.size = h.length + 1 + t.length := by rw [← hlen, e1]; simp; omega
    have hex1 := Lib.hid (show s.extract 0 h.length = bs h by
      apply ByteArray.ext
      apply Array.toList_inj.1
      rw [Lib.extract_data, e1, bs_list]
      simp)
    have hex2 := Lib.hid (show s.extract (h.length + 1) s.size = bs t by
      apply ByteArray.ext
      apply Array.toList_inj.1
      rw [Lib.extract_to_end, e1, bs_list]
      simp [List.drop_append])
    have hlk := Lib.hid (show lookOf s.data.toList = if (number t 1000000006).2 = false then ([], [], 0, 1) else if 10 < (cutL 32 h).length then ([], [], 0, 1) else if badIdx (cutL 32 h) = -1 then (h, cutL 32 h, (number t 1000000006).1, 0) else ([], [], 0, 1) by
      unfold lookOf
      rw [if_neg (by omega), hc])
    have hsp := Lib.hid (split_any (bs h) w hL (by rw [bs_size]; omega))
    have hnu := Lib.hid (fun wx (hx : Below w.heap.size w wx) => number_any (bs t) 1000000006 wx (hL.below hx) (by rw [bs_size]; omega))
    have hht : h.length ≤ 4000 := by omega
    have h4 : decide ((4000 : Int) < (s.size : Int)) = false := decide_eq_false (by omega)
    have hlt : (h.length : Int) < (s.size : Int) := by omega
    clear hlast hspec hc e1 e2 hlen hsz
    go_enter Tryz.func61, Tryz.ntmps61
    go_wp2_with fail
    refine hli.out.mono ?_
    rintro e w1 ⟨rfl, hw⟩
    subst hw
    go_wp2_with fail
    rw [hex1.out]
    refine hsp.out.mono ?_
    rintro e w2 ⟨v, rfl, hv, hb2⟩
    have hv' := Lib.hid hv
    obtain ⟨a, c, rfl, hvl, _, _⟩ := hv
    rw [bs_list] at *
    have hcl := cutL_length 32 h
    unfold maxLen at hvl
    have hb2' := Lib.hid hb2
    go_wp2_with fail
    rw [hex2.out]
    refine (hnu.out _ hb2'.out).mono ?_
    rintro e w3 ⟨rfl, hb3⟩
    have hb23 := Lib.hid hb3
    have hb3 := Lib.hid (below_trans hb2'.out hb3)
    unfold numRes
    have hnb := number_bd t 1000000006
    cases hn2 : (number t 1000000006).2 with
    | false =>
      have hr := Lib.hid (show lookOf s.data.toList = ([], [], 0, 1) by rw [hlk.out, if_pos hn2])
      have he := (hL.below hb3.out).laid.e1
      clear hn2
      go_wp2_with fail
      go_quiet (fail)
      go_wp2_with fail
      exact bodyPost_ret (v := .tuple #[.string ⟨#[]⟩, .slice none 0 0, .int .i64 0, errV E 1]) (by simp [results, Tryz.results61, go_sem]) rfl ⟨.slice none 0 0, by rw [hr.out]; rfl, by rw [hr.out]; exact textsAt_nil _, below_drawn hb3.out _⟩
    | true =>
      have hlk := Lib.hid (show lookOf s.data.toList = if 10 < (cutL 32 h).length then ([], [], 0, 1) else if badIdx (cutL 32 h) = -1 then (h, cutL 32 h, (number t 1000000006).1, 0) else ([], [], 0, 1) by rw [hlk.out, if_neg (by rw [hn2]; decide)])
      clear hn2
      by_cases h10 : 10 < (cutL 32 h).length
      · have hr := Lib.hid (show lookOf s.data.toList = ([], [], 0, 1) by rw [hlk.out, if_pos h10])
        have h10' : decide ((10 : Int) < ((cutL 32 h).length : Int)) = true := decide_eq_true (by omega)
        have he := (hL.below hb3.out).laid.e1
        go_wp2_with fail
        go_quiet (fail)
        go_wp2_with fail
        exact bodyPost_ret (v := .tuple #[.string ⟨#[]⟩, .slice none 0 0, .int .i64 0, errV E 1]) (by simp [results, Tryz.results61, go_sem]) rfl ⟨.slice none 0 0, by rw [hr.out]; rfl, by rw [hr.out]; exact textsAt_nil _, below_drawn hb3.out _⟩
      have hlk := Lib.hid (show lookOf s.data.toList = if badIdx (cutL 32 h) = -1 then (h, cutL 32 h, (number t 1000000006).1, 0) else ([], [], 0, 1) by rw [hlk.out, if_neg h10])
      have h10' : decide ((10 : Int) < ((cutL 32 h).length : Int)) = false := decide_eq_false (by omega)
      have hv3 := hv'.out.below hb23.out
      have hco := Lib.hid (contains_any _ (cutL 32 h) 91 w3 hv3 (fun x hx => by have := cutL_len 32 h x hx; unfold maxLen; omega) (look1_bad w3) (enters_of Tryz.func91 (by kernel_rfl) rfl))
      rcases badIdx_cases (cutL 32 h) with ⟨hb, _⟩ | ⟨j, _, hb, _, _⟩
      · have hr := Lib.hid (show lookOf s.data.toList = (h, cutL 32 h, (number t 1000000006).1, 0) by rw [hlk.out, if_pos hb])
        have hd : decide (0 ≤ badIdx (cutL 32 h)) = false := by rw [hb]; rfl
        rw [hd] at hco
        clear hb hd h10
        go_wp2_with fail
        refine hco.out.mono ?_
        rintro e w4 ⟨rfl, hb4⟩
        have hv4 := hv3.below hb4
        have hb4 := Lib.hid (below_trans hb3.out hb4)
        go_wp2_with fail
        refine bodyPost_ret (v := .tuple #[.string (s.extract 0 h.length), .slice a (cutL 32 h).length c, .int .i64 (number t 1000000006).1, .nilIface]) (by simp [results, Tryz.results61, go_sem]) rfl ⟨.slice a (cutL 32 h).length c, ?_, by rw [hr.out]; exact hv4, hb4.out⟩
        rw [hr.out, hex1.out]
        rfl
      · have hr := Lib.hid (show lookOf s.data.toList = ([], [], 0, 1) by rw [hlk.out, if_neg (by rw [hb]; omega)])
        have hd : decide (0 ≤ badIdx (cutL 32 h)) = true := by rw [hb]; exact decide_eq_true (by omega)
        rw [hd] at hco
        clear hb hd h10
        go_wp2_with fail
        refine hco.out.mono ?_
        rintro e w4 ⟨rfl, hb4⟩
        have hb4 := Lib.hid (below_trans hb3.out hb4)
        have he := (hL.below hb4.out).laid.e1
        go_wp2_with fail
        go_quiet (fail)
        go_wp2_with fail
        exact bodyPost_ret (v := .tuple #[.string ⟨#[]⟩, .slice none 0 0, .int .i64 0, errV E 1]) (by simp [results, Tryz.results61, go_sem]) rfl ⟨.slice none 0 0, by rw [hr.out]; rfl, by rw [hr.out]; exact textsAt_nil _, below_drawn hb4.out _⟩
set_option maxRecDepth 100000 in
theorem Look_any {E : Nat → Addr} (s : ByteArray) (w : World) (hL : LaidS E w) (hs : s.size ≤ 1000000) :
    Calls Tryz.prog 35 #[.string s] w fun e w' => ∃ v, e = .returned (.tuple #[v, errV E (lookOf s.data.toList).2.2.2]) ∧ TextsAt w' v (lookOf s.data.toList).2.1 ∧ Below w.heap.size w w' := by
  have hl := Lib.hid (look_any s w hL hs)
  generalize lookOf s.data.toList = q at *
  generalize hE : errV E q.2.2.2 = ev at *
  have hE := Lib.hid hE
  go_enter Tryz.func35, Tryz.ntmps35
  go_wp2_with fail
  refine hl.out.mono ?_
  rintro e w1 ⟨v, rfl, hv, hb⟩
  go_wp2_with fail
  go_ret2
  exact ⟨v, rfl, hv, hb⟩
set_option maxHeartbeats 1000000 in
set_option maxRecDepth 100000 in
theorem open_any {E : Nat → Addr} (k : Int) (s : ByteArray) (w : World) (hL : LaidS E w) (hs : s.size ≤ 1000000) :
    Calls Tryz.prog 29 #[.int .i64 k, .string s] w fun e w' => ∃ v, e = .returned (.tuple #[v, errV E (openOf k s.data.toList).2]) ∧ TextsAt w' v (openOf k s.data.toList).1 ∧ Below w.heap.size w w' := by
  by_cases hk : isKey k = true
  case neg =>
    have hk : isKey k = false := by simpa using hk
    have hr := Lib.hid (show openOf k s.data.toList = ([], 10) by unfold openOf; rw [if_pos hk])
    have he := hL.laid.e10
    go_enter Tryz.func29, Tryz.ntmps29
    go_wp2_with (go_at_call 56; refine (key_any _ _).mono ?_; rintro e w' ⟨rfl, rfl⟩)
    go_quiet (fail)
    go_wp2_with fail
    go_ret2
    exact ⟨.slice none 0 0, by rw [hr.out]; rfl, by rw [hr.out]; exact textsAt_nil _, below_drawn (Below.refl _ _) _⟩
  have hl := Lib.hid (look_any s w hL hs)
  have ho := Lib.hid (show openOf k s.data.toList = if (lookOf s.data.toList).2.2.2 = 0 then (if rightOf k (lookOf s.data.toList).1 (lookOf s.data.toList).2.2.1 = 0 then ((lookOf s.data.toList).2.1, 0) else ([], rightOf k (lookOf s.data.toList).1 (lookOf s.data.toList).2.2.1)) else ([], (lookOf s.data.toList).2.2.2) by unfold openOf; rw [if_neg (by rw [hk]; decide)])
  have hlen : (lookOf s.data.toList).1.length ≤ maxLen := by
    have := lookOf_len s.data.toList
    have hl : s.data.toList.length = s.size := Array.length_toList
    unfold maxLen
    omega
  generalize lookOf s.data.toList = q at *
  obtain ⟨hd, W, n, c⟩ := q
  dsimp only at *
  cases c with
  | succ c =>
    have hr := Lib.hid (show openOf k s.data.toList = ([], c + 1) by rw [ho.out, if_neg (by omega)])
    clear hlen
    rw [errV_succ] at hl
    go_enter Tryz.func29, Tryz.ntmps29
    go_wp2_with (go_at_call 56; refine (key_any _ _).mono ?_; rintro e w' ⟨rfl, rfl⟩)
    refine hl.out.mono ?_
    rintro e w1 ⟨v, rfl, hv, hb⟩
    go_wp2_with fail
    go_ret2
    exact ⟨.slice none 0 0, by rw [hr.out]; rfl, by rw [hr.out]; exact textsAt_nil _, hb⟩
  | zero =>
    have ho2 := Lib.hid (show openOf k s.data.toList = if rightOf k hd n = 0 then (W, 0) else ([], rightOf k hd n) by rw [ho.out]; rfl)
    clear ho
    have hri := Lib.hid (fun wx (hx : Below w.heap.size w wx) => right_any k n (bs hd) wx (hL.below hx).laid (by rw [bs_size]; exact hlen))
    rw [errV_zero] at hl
    clear hlen
    go_enter Tryz.func29, Tryz.ntmps29
    go_wp2_with (go_at_call 56; refine (key_any _ _).mono ?_; rintro e w' ⟨rfl, rfl⟩)
    refine hl.out.mono ?_
    rintro e w1 ⟨v, rfl, hv, hb⟩
    have hv := Lib.hid hv
    have hb := Lib.hid hb
    go_wp2_with fail
    refine (hri.out _ hb.out).mono ?_
    rintro e w2 ⟨rfl, hb2⟩
    have hv2 := Lib.hid (hv.out.below hb2)
    have hb2 := Lib.hid (below_trans hb.out hb2)
    rw [bs_list]
    cases hq : rightOf k hd n with
    | zero =>
      have hr := Lib.hid (show openOf k s.data.toList = (W, 0) by rw [ho2.out, if_pos hq])
      clear hq
      rw [errV_zero]
      go_wp2_with fail
      go_ret2
      exact ⟨v, by rw [hr.out]; rfl, by rw [hr.out]; exact hv2.out, hb2.out⟩
    | succ c =>
      have hr := Lib.hid (show openOf k s.data.toList = ([], c + 1) by rw [ho2.out, hq, if_neg (Nat.succ_ne_zero c)])
      clear hq
      rw [errV_succ]
      go_wp2_with fail
      go_ret2
      exact ⟨.slice none 0 0, by rw [hr.out]; rfl, by rw [hr.out]; exact textsAt_nil _, hb2.out⟩
end Go.Proofs.YtgainbpflncgcaaGreatDoor
