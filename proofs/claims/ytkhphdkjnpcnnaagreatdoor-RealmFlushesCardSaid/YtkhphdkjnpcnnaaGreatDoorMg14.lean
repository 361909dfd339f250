/- Look, TickW, RefW -/
import Derived.Test.YtkhphdkjnpcnnaaGreatDoorMg12
import Derived.Test.YtkhphdkjnpcnnaaGreatDoorMg13
import Derived.Test.YtkhphdkjnpcnnaaGreatDoorMg3
import Derived.Test.YtkhphdkjnpcnnaaGreatDoorMg4
import Derived.Maps.AppendAt
import Derived.OwnWalk
/- seal.look, Look and Open by contracts. -/
namespace Go.Proofs.YtkhphdkjnpcnnaaGreatDoor
open Go.RowKit

theorem textsAt_nil (w : World) : TextsAt w (.slice none 0 0) [] := ⟨none, 0, rfl, Nat.zero_le _, Nat.zero_le _, fun i hi => by cases hi⟩
set_option maxRecDepth 100000 in
theorem split_any {E : Nat → Addr} (s : ByteArray) (w : World) (hL : LaidS E w) (hs : s.size ≤ 1000000) :
    Calls Tryz.prog 143 #[.string s, .string ⟨#[32]⟩] w fun e w' => ∃ v, e = .returned v ∧ TextsAt w' v (cutL 32 s.data.toList) ∧ Below w.heap.size w w' := by
  obtain ⟨m, hm⟩ := hL.mx
  have h := Any.strings_Split Tryz.splitL (by kernel_rfl) s ⟨#[32]⟩ m w (by omega) hm (Nat.le_refl 1)
  refine (show Calls Tryz.prog 143 #[.string s, .string ⟨#[32]⟩] w _ from h).mono ?_
  rintro e w' ⟨rfl, rfl⟩
  have hcut := splitB_cut 32 s
  have hlen := countB_cut 32 s
  rw [hcut, hlen]
  have hle : (cutL 32 s.data.toList).length ≤ s.size + 1 := by
    rw [← hlen]
    have := Lib.countB_le ⟨#[32]⟩ (Nat.le_refl 1) s.size s (Nat.le_refl _)
    omega
  refine ⟨_, rfl, ⟨_, _, rfl, by unfold maxLen; omega, Nat.le_refl _, fun i hi => ⟨w.heap.size, 0, rfl, ?_⟩⟩, (Below.refl _ _).alloc (Nat.le_refl _) _⟩
  rw [World.cell?_alloc_new]
  simp [hi]

set_option maxHeartbeats 1000000 in
set_option maxRecDepth 100000 in
theorem look_any {E : Nat → Addr} (s : ByteArray) (w : World) (hL : LaidS E w) (hs : s.size ≤ 1000000) :
    Calls Tryz.prog 100 #[.string s] w fun e w' => ∃ v, e = .returned (.tuple #[.string (bs (lookOf s.data.toList).1), v, .int .i64 (lookOf s.data.toList).2.2.1, errV E (lookOf s.data.toList).2.2.2]) ∧ TextsAt w' v (lookOf s.data.toList).2.1 ∧ Below w.heap.size w w' := by
  have hlen : s.data.toList.length = s.size := Array.length_toList
  by_cases h4 : 4000 < s.size
  · have hr := Lib.hid (show lookOf s.data.toList = ([], [], 0, 2) by unfold lookOf; rw [if_pos (by omega)])
    have he := hL.laid.e2
    clear hlen
    go_enter Tryz.func100, Tryz.ntmps100
    go_wp2_with fail
    go_quiet (fail)
    go_wp2_with fail
    exact bodyPost_ret (v := .tuple #[.string ⟨#[]⟩, .slice none 0 0, .int .i64 0, errV E 2]) (by simp [results, Tryz.results100, go_sem]) rfl ⟨.slice none 0 0, by rw [hr.out]; rfl, by rw [hr.out]; exact textsAt_nil _, below_drawn (Below.refl _ _) _⟩
  have hlast : Lib.lastIndexByte s 32 = _ := rfl
  have hspec := lastIndex_cut 32 s
  cases hc : lastCut 32 s.data.toList with
  | none =>
    rw [hc] at hspec
    have hli := Lib.hid (show Calls Tryz.prog 142 #[.string s, .int .u8 32] w _ from Any.strings_LastIndexByte Tryz.lastL s 32 (by omega) w)
    have hspec : Lib.lastIndexByte s 32 = -1 := hspec
    rw [hspec] at hli
    have hr := Lib.hid (show lookOf s.data.toList = ([], [], 0, 1) by unfold lookOf; rw [if_neg (by omega), hc])
    have he := hL.laid.e1
    clear hlen hlast hspec hc
    go_enter Tryz.func100, Tryz.ntmps100
    go_wp2_with fail
    refine hli.out.mono ?_
    rintro e w1 ⟨rfl, hw⟩
    subst hw
    go_wp2_with fail
    go_quiet (fail)
    go_wp2_with fail
    exact bodyPost_ret (v := .tuple #[.string ⟨#[]⟩, .slice none 0 0, .int .i64 0, errV E 1]) (by simp [results, Tryz.results100, go_sem]) rfl ⟨.slice none 0 0, by rw [hr.out]; rfl, by rw [hr.out]; exact textsAt_nil _, below_drawn (Below.refl _ _) _⟩
  | some x =>
    obtain ⟨h, t⟩ := x
    obtain ⟨e1, e2⟩ := lastCut_some 32 _ h t hc
    rw [hc] at hspec
    have hli := Lib.hid (show Calls Tryz.prog 142 #[.string s, .int .u8 32] w _ from Any.strings_LastIndexByte Tryz.lastL s 32 (by omega) w)
    have hspec : Lib.lastIndexByte s 32 = (h.length : Int) := hspec
    rw [hspec] at hli
    have hsz : s.size = h.length + 1 + t.length := by rw [← hlen, e1]; simp; omega
    have hex1 := Lib.hid (show s.extract 0 h.length = bs h by
      apply ByteArray.ext
      apply Array.toList_inj.1
      rw [Lib.extract_data, e1, bs_list]
      simp)
    have hex2 := Lib.hid (show s.extract (h.length + 1) s.size = bs t by
      apply ByteArray.ext
      apply Array.toList_inj.1
      rw [Lib.extract_to_end, e1, bs_list]
      simp [List.drop_append])
    have hlk := Lib.hid (show lookOf s.data.toList = if (number t 1000000006).2 = false then ([], [], 0, 1) else if 10 < (cutL 32 h).length then ([], [], 0, 1) else if badIdx (cutL 32 h) = -1 then (h, cutL 32 h, (number t 1000000006).1, 0) else ([], [], 0, 1) by
      unfold lookOf
      rw [if_neg (by omega), hc])
    have hsp := Lib.hid (split_any (bs h) w hL (by rw [bs_size]; omega))
    have hnu := Lib.hid (fun wx (hx : Below w.heap.size w wx) => number_any (bs t) 1000000006 wx (hL.below hx) (by rw [bs_size]; omega))
    have hht : h.length ≤ 4000 := by omega
    have h4 : decide ((4000 : Int) < (s.size : Int)) = false := decide_eq_false (by omega)
    have hlt : (h.length : Int) < (s.size : Int) := by omega
    clear hlast hspec hc e1 e2 hlen hsz
    go_enter Tryz.func100, Tryz.ntmps100
    go_wp2_with fail
    refine hli.out.mono ?_
    rintro e w1 ⟨rfl, hw⟩
    subst hw
    go_wp2_with fail
    rw [hex1.out]
    refine hsp.out.mono ?_
    rintro e w2 ⟨v, rfl, hv, hb2⟩
    have hv' := Lib.hid hv
    obtain ⟨a, c, rfl, hvl, _, _⟩ := hv
    rw [bs_list] at *
    have hcl := cutL_length 32 h
    unfold maxLen at hvl
    have hb2' := Lib.hid hb2
    go_wp2_with fail
    rw [hex2.out]
    refine (hnu.out _ hb2'.out).mono ?_
    rintro e w3 ⟨rfl, hb3⟩
    have hb23 := Lib.hid hb3
    have hb3 := Lib.hid (below_trans hb2'.out hb3)
    unfold numRes
    have hnb := number_bd t 1000000006
    cases hn2 : (number t 1000000006).2 with
    | false =>
      have hr := Lib.hid (show lookOf s.data.toList = ([], [], 0, 1) by rw [hlk.out, if_pos hn2])
      have he := (hL.below hb3.out).laid.e1
      clear hn2
      go_wp2_with fail
      go_quiet (fail)
      go_wp2_with fail
      exact bodyPost_ret (v := .tuple #[.string ⟨#[]⟩, .slice none 0 0, .int .i64 0, errV E 1]) (by simp [results, Tryz.results100, go_sem]) rfl ⟨.slice none 0 0, by rw [hr.out]; rfl, by rw [hr.out]; exact textsAt_nil _, below_drawn hb3.out _⟩
    | true =>
      have hlk := Lib.hid (show lookOf s.data.toList = if 10 < (cutL 32 h).length then ([], [], 0, 1) else if badIdx (cutL 32 h) = -1 then (h, cutL 32 h, (number t 1000000006).1, 0) else ([], [], 0, 1) by rw [hlk.out, if_neg (by rw [hn2]; decide)])
      clear hn2
      by_cases h10 : 10 < (cutL 32 h).length
      · have hr := Lib.hid (show lookOf s.data.toList = ([], [], 0, 1) by rw [hlk.out, if_pos h10])
        have h10' : decide ((10 : Int) < ((cutL 32 h).length : Int)) = true := decide_eq_true (by omega)
        have he := (hL.below hb3.out).laid.e1
        go_wp2_with fail
        go_quiet (fail)
        go_wp2_with fail
        exact bodyPost_ret (v := .tuple #[.string ⟨#[]⟩, .slice none 0 0, .int .i64 0, errV E 1]) (by simp [results, Tryz.results100, go_sem]) rfl ⟨.slice none 0 0, by rw [hr.out]; rfl, by rw [hr.out]; exact textsAt_nil _, below_drawn hb3.out _⟩
      have hlk := Lib.hid (show lookOf s.data.toList = if badIdx (cutL 32 h) = -1 then (h, cutL 32 h, (number t 1000000006).1, 0) else ([], [], 0, 1) by rw [hlk.out, if_neg h10])
      have h10' : decide ((10 : Int) < ((cutL 32 h).length : Int)) = false := decide_eq_false (by omega)
      have hv3 := hv'.out.below hb23.out
      have hco := Lib.hid (contains_any _ (cutL 32 h) 145 w3 hv3 (fun x hx => by have := cutL_len 32 h x hx; unfold maxLen; omega) (look1_bad w3) (enters_of Tryz.func145 (by kernel_rfl) rfl))
      rcases badIdx_cases (cutL 32 h) with ⟨hb, _⟩ | ⟨j, _, hb, _, _⟩
      · have hr := Lib.hid (show lookOf s.data.toList = (h, cutL 32 h, (number t 1000000006).1, 0) by rw [hlk.out, if_pos hb])
        have hd : decide (0 ≤ badIdx (cutL 32 h)) = false := by rw [hb]; rfl
        rw [hd] at hco
        clear hb hd h10
        go_wp2_with fail
        refine hco.out.mono ?_
        rintro e w4 ⟨rfl, hb4⟩
        have hv4 := hv3.below hb4
        have hb4 := Lib.hid (below_trans hb3.out hb4)
        go_wp2_with fail
        refine bodyPost_ret (v := .tuple #[.string (s.extract 0 h.length), .slice a (cutL 32 h).length c, .int .i64 (number t 1000000006).1, .nilIface]) (by simp [results, Tryz.results100, go_sem]) rfl ⟨.slice a (cutL 32 h).length c, ?_, by rw [hr.out]; exact hv4, hb4.out⟩
        rw [hr.out, hex1.out]
        rfl
      · have hr := Lib.hid (show lookOf s.data.toList = ([], [], 0, 1) by rw [hlk.out, if_neg (by rw [hb]; omega)])
        have hd : decide (0 ≤ badIdx (cutL 32 h)) = true := by rw [hb]; exact decide_eq_true (by omega)
        rw [hd] at hco
        clear hb hd h10
        go_wp2_with fail
        refine hco.out.mono ?_
        rintro e w4 ⟨rfl, hb4⟩
        have hb4 := Lib.hid (below_trans hb3.out hb4)
        have he := (hL.below hb4.out).laid.e1
        go_wp2_with fail
        go_quiet (fail)
        go_wp2_with fail
        exact bodyPost_ret (v := .tuple #[.string ⟨#[]⟩, .slice none 0 0, .int .i64 0, errV E 1]) (by simp [results, Tryz.results100, go_sem]) rfl ⟨.slice none 0 0, by rw [hr.out]; rfl, by rw [hr.out]; exact textsAt_nil _, below_drawn hb4.out _⟩
set_option maxHeartbeats 1000000 in
set_option maxRecDepth 100000 in
theorem open_any {E : Nat → Addr} (k : Int) (s : ByteArray) (w : World) (hL : LaidS E w) (hs : s.size ≤ 1000000) :
    Calls Tryz.prog 54 #[.int .i64 k, .string s] w fun e w' => ∃ v, e = .returned (.tuple #[v, errV E (openOf k s.data.toList).2]) ∧ TextsAt w' v (openOf k s.data.toList).1 ∧ Below w.heap.size w w' := by
  by_cases hk : isKey k = true
  case neg =>
    have hk : isKey k = false := by simpa using hk
    have hr := Lib.hid (show openOf k s.data.toList = ([], 10) by unfold openOf; rw [if_pos hk])
    have he := hL.laid.e10
    go_enter Tryz.func54, Tryz.ntmps54
    go_wp2_with (go_at_call 33; refine (key_any _ _).mono ?_; rintro e w' ⟨rfl, rfl⟩)
    go_quiet (fail)
    go_wp2_with fail
    go_ret2
    exact ⟨.slice none 0 0, by rw [hr.out]; rfl, by rw [hr.out]; exact textsAt_nil _, below_drawn (Below.refl _ _) _⟩
  have hl := Lib.hid (look_any s w hL hs)
  have ho := Lib.hid (show openOf k s.data.toList = if (lookOf s.data.toList).2.2.2 = 0 then (if rightOf k (lookOf s.data.toList).1 (lookOf s.data.toList).2.2.1 = 0 then ((lookOf s.data.toList).2.1, 0) else ([], rightOf k (lookOf s.data.toList).1 (lookOf s.data.toList).2.2.1)) else ([], (lookOf s.data.toList).2.2.2) by unfold openOf; rw [if_neg (by rw [hk]; decide)])
  have hlen : (lookOf s.data.toList).1.length ≤ maxLen := by
    have := lookOf_len s.data.toList
    have hl : s.data.toList.length = s.size := Array.length_toList
    unfold maxLen
    omega
  generalize lookOf s.data.toList = q at *
  obtain ⟨hd, W, n, c⟩ := q
  dsimp only at *
  cases c with
  | succ c =>
    have hr := Lib.hid (show openOf k s.data.toList = ([], c + 1) by rw [ho.out, if_neg (by omega)])
    clear hlen
    rw [errV_succ] at hl
    go_enter Tryz.func54, Tryz.ntmps54
    go_wp2_with (go_at_call 33; refine (key_any _ _).mono ?_; rintro e w' ⟨rfl, rfl⟩)
    refine hl.out.mono ?_
    rintro e w1 ⟨v, rfl, hv, hb⟩
    go_wp2_with fail
    go_ret2
    exact ⟨.slice none 0 0, by rw [hr.out]; rfl, by rw [hr.out]; exact textsAt_nil _, hb⟩
  | zero =>
    have ho2 := Lib.hid (show openOf k s.data.toList = if rightOf k hd n = 0 then (W, 0) else ([], rightOf k hd n) by rw [ho.out]; rfl)
    clear ho
    have hri := Lib.hid (fun wx (hx : Below w.heap.size w wx) => right_any k n (bs hd) wx (hL.below hx).laid (by rw [bs_size]; exact hlen))
    rw [errV_zero] at hl
    clear hlen
    go_enter Tryz.func54, Tryz.ntmps54
    go_wp2_with (go_at_call 33; refine (key_any _ _).mono ?_; rintro e w' ⟨rfl, rfl⟩)
    refine hl.out.mono ?_
    rintro e w1 ⟨v, rfl, hv, hb⟩
    have hv := Lib.hid hv
    have hb := Lib.hid hb
    go_wp2_with fail
    refine (hri.out _ hb.out).mono ?_
    rintro e w2 ⟨rfl, hb2⟩
    have hv2 := Lib.hid (hv.out.below hb2)
    have hb2 := Lib.hid (below_trans hb.out hb2)
    rw [bs_list]
    cases hq : rightOf k hd n with
    | zero =>
      have hr := Lib.hid (show openOf k s.data.toList = (W, 0) by rw [ho2.out, if_pos hq])
      clear hq
      rw [errV_zero]
      go_wp2_with fail
      go_ret2
      exact ⟨v, by rw [hr.out]; rfl, by rw [hr.out]; exact hv2.out, hb2.out⟩
    | succ c =>
      have hr := Lib.hid (show openOf k s.data.toList = ([], c + 1) by rw [ho2.out, hq, if_neg (Nat.succ_ne_zero c)])
      clear hq
      rw [errV_succ]
      go_wp2_with fail
      go_ret2
      exact ⟨.slice none 0 0, by rw [hr.out]; rfl, by rw [hr.out]; exact textsAt_nil _, hb2.out⟩
end Go.Proofs.YtkhphdkjnpcnnaaGreatDoor

/- The walks of package ticket: Renew by contract. -/
namespace Go.Proofs.YtkhphdkjnpcnnaaGreatDoor
open Go.RowKit

set_option maxHeartbeats 1000000 in
set_option maxRecDepth 100000 in
theorem renew_tick {E : Nat → Addr} (t : Tick) (now til serial : Int) (w : World) (hL : Laid E w) (hl : TickLen t) :
    Calls Tryz.prog 67 #[t.val, .int .i64 now, .int .i64 til, .int .i64 serial] w fun e w' => e = .returned (.tuple #[(renewT t now til serial).1.val, errV E (renewT t now til serial).2]) ∧ Below w.heap.size w w' := by
  have hB : Below w.heap.size w ((w.alloc (.cells t.cells 51)).alloc (.cells noTick.cells 51)) := ((Below.refl _ _).alloc (Nat.le_refl _) _).alloc (by simp) _
  have hgt := Lib.hid (good_tick (E := E) t now _ (hL.below hB) hl)
  have hck := Lib.hid (fun wx hx => check_tick (E := E) (renewed t now til serial) wx (hL.below hx) hl)
  have hrn : renewT t now til serial = if goodT t now = 0 then (if tickErr (renewed t now til serial) = 0 then (renewed t now til serial, 0) else (noTick, tickErr (renewed t now til serial))) else (noTick, goodT t now) := rfl
  generalize goodT t now = c at *
  generalize tickErr (renewed t now til serial) = d at *
  obtain ⟨who, svc, ep, bg, fn, sr⟩ := t
  dsimp only [Tick.val, Tick.cells, noTick, renewed] at *
  rw [show bs [] = (⟨#[]⟩ : ByteArray) from rfl] at *
  have hbt := box_at w #[.string (bs who), .string (bs svc), .int .i64 ep, .int .i64 bg, .int .i64 fn, .int .i64 sr] 51 (.cells #[.string ⟨#[]⟩, .string ⟨#[]⟩, .int .i64 0, .int .i64 0, .int .i64 0, .int .i64 0] 51)
  have hbr := box_new w #[.string ⟨#[]⟩, .string ⟨#[]⟩, .int .i64 0, .int .i64 0, .int .i64 0, .int .i64 0] 51 (.cells #[.string (bs who), .string (bs svc), .int .i64 ep, .int .i64 bg, .int .i64 fn, .int .i64 sr] 51)
  have hbt := Lib.hid hbt
  have hbr := Lib.hid hbr
  cases c with
  | succ c =>
    have hr := Lib.hid (hrn.trans (if_neg (Nat.succ_ne_zero c)))
    rw [errV_succ] at hgt
    clear hrn hck
    go_enter Tryz.func67, Tryz.ntmps67
    go_wp2_with fail
    refine hgt.out.mono ?_
    rintro e w1 ⟨rfl, hb⟩
    obtain ⟨⟨r0, r1, r2, r3, r4, r5⟩, f0, f1, f2, f3, f4, f5⟩ := tick_kept hb hbr.out
    have hb' := hb
    have hb := Lib.hid (below_trans hB hb)
    have hfin := Lib.hid (below_set6 (n := w.heap.size + 1) hb.out (by omega) (.string ⟨#[]⟩) (.string ⟨#[]⟩) (.int .i64 0) (.int .i64 0) (.int .i64 0) (.int .i64 0))
    go_wp2_with fail
    obtain ⟨⟨q0, q1, q2, q3, q4, q5⟩, _⟩ := tick_kept (Below.refl _ _) (row_set6 (heap_below hb' hbr.out) (.string ⟨#[]⟩) (.string ⟨#[]⟩) (.int .i64 0) (.int .i64 0) (.int .i64 0) (.int .i64 0))
    exact bodyPost_ret (v := .tuple #[.agg #[.string ⟨#[]⟩, .string ⟨#[]⟩, .int .i64 0, .int .i64 0, .int .i64 0, .int .i64 0], errV E (c + 1)]) (by simp [results, Tryz.results67, go_sem, errV, q0, q1, q2, q3, q4, q5]) rfl ⟨by rw [hr.out]; try rfl, hfin.out⟩
  | zero =>
  rw [errV_zero] at hgt
  go_enter Tryz.func67, Tryz.ntmps67
  go_wp2_with fail
  refine hgt.out.mono ?_
  rintro e w1 ⟨rfl, hb⟩
  obtain ⟨⟨b0, b1, b2, b3, b4, b5⟩, g0, g1, g2, g3, g4, g5⟩ := tick_kept hb hbt.out
  obtain ⟨⟨r0, r1, r2, r3, r4, r5⟩, f0, f1, f2, f3, f4, f5⟩ := tick_kept hb hbr.out
  have hrw := Lib.hid (heap_below hb hbt.out)
  have hrr := Lib.hid (heap_below hb hbr.out)
  have hb := Lib.hid (below_trans hB hb)
  have hB3 := Lib.hid (below_set3 (n := w.heap.size) hb.out (Nat.le_refl _) (.int .i64 now) (.int .i64 (min til fn)) (.int .i64 serial))
  have hrw3 := Lib.hid (row_set3 hrw.out (.int .i64 now) (.int .i64 (min til fn)) (.int .i64 serial))
  have hrr3 := Lib.hid (row_other3 (n := w.heap.size) hrr.out (Nat.succ_ne_self _) (.int .i64 now) (.int .i64 (min til fn)) (.int .i64 serial))
  have hck := Lib.hid (hck.out _ hB3.out)
  cases d with
  | succ d =>
    have hr := Lib.hid (hrn.trans (show _ = ((⟨[], [], 0, 0, 0, 0⟩ : Tick), d + 1) from rfl))
    rw [errV_succ] at hck
    go_wp2_with fail
    refine hck.out.mono ?_
    rintro e w2 ⟨rfl, hb2⟩
    have hrr2 := Lib.hid (heap_below hb2 hrr3.out)
    have hb2 := Lib.hid (below_trans hB3.out hb2)
    clear b0 b1 b2 b3 b4 b5 g0 g1 g2 g3 g4 g5 r0 r1 r2 r3 r4 r5 f0 f1 f2 f3 f4 f5
    obtain ⟨⟨r0, r1, r2, r3, r4, r5⟩, f0, f1, f2, f3, f4, f5⟩ := tick_kept (Below.refl _ _) hrr2.out
    have hfin := Lib.hid (below_set6 (n := w.heap.size + 1) hb2.out (by omega) (.string ⟨#[]⟩) (.string ⟨#[]⟩) (.int .i64 0) (.int .i64 0) (.int .i64 0) (.int .i64 0))
    go_wp2_with fail
    obtain ⟨⟨q0, q1, q2, q3, q4, q5⟩, _⟩ := tick_kept (Below.refl _ _) (row_set6 hrr2.out (.string ⟨#[]⟩) (.string ⟨#[]⟩) (.int .i64 0) (.int .i64 0) (.int .i64 0) (.int .i64 0))
    exact bodyPost_ret (v := .tuple #[.agg #[.string ⟨#[]⟩, .string ⟨#[]⟩, .int .i64 0, .int .i64 0, .int .i64 0, .int .i64 0], errV E (d + 1)]) (by simp [results, Tryz.results67, go_sem, errV, q0, q1, q2, q3, q4, q5]) rfl ⟨by rw [hr.out]; try rfl, hfin.out⟩
  | zero =>
    have hr := Lib.hid (hrn.trans (show _ = ((⟨who, svc, ep, now, min til fn, serial⟩ : Tick), 0) from rfl))
    rw [errV_zero] at hck
    go_wp2_with fail
    refine hck.out.mono ?_
    rintro e w2 ⟨rfl, hb2⟩
    have hrr2 := Lib.hid (heap_below hb2 hrr3.out)
    have hrw2 := Lib.hid (heap_below hb2 hrw3.out)
    have hb2 := Lib.hid (below_trans hB3.out hb2)
    clear b0 b1 b2 b3 b4 b5 g0 g1 g2 g3 g4 g5 r0 r1 r2 r3 r4 r5 f0 f1 f2 f3 f4 f5
    obtain ⟨⟨r0, r1, r2, r3, r4, r5⟩, f0, f1, f2, f3, f4, f5⟩ := tick_kept (Below.refl _ _) hrr2.out
    obtain ⟨⟨b0, b1, b2, b3, b4, b5⟩, _⟩ := tick_kept (Below.refl _ _) hrw2.out
    have hfin := Lib.hid (below_set6 (n := w.heap.size + 1) hb2.out (by omega) (.string (bs who)) (.string (bs svc)) (.int .i64 ep) (.int .i64 now) (.int .i64 (min til fn)) (.int .i64 serial))
    go_wp2_with fail
    obtain ⟨⟨q0, q1, q2, q3, q4, q5⟩, _⟩ := tick_kept (Below.refl _ _) (row_set6 hrr2.out (.string (bs who)) (.string (bs svc)) (.int .i64 ep) (.int .i64 now) (.int .i64 (min til fn)) (.int .i64 serial))
    exact bodyPost_ret (v := .tuple #[.agg #[.string (bs who), .string (bs svc), .int .i64 ep, .int .i64 now, .int .i64 (min til fn), .int .i64 serial], errV E 0]) (by simp [results, Tryz.results67, go_sem, errV, q0, q1, q2, q3, q4, q5]) rfl ⟨by rw [hr.out]; try rfl, hfin.out⟩
end Go.Proofs.YtkhphdkjnpcnnaaGreatDoor

/- The walks of the reference's texts: digits, names, words, numbers, cut, glue. -/
namespace Go.Proofs.YtkhphdkjnpcnnaaGreatDoor
open Go.RowKit Go.Maps

theorem str_cat (a b : List UInt8) : bs a ++ bs b = bs (a ++ b) := by
  apply ByteArray.ext
  simp [bs]
theorem ret_string {a b : ByteArray} (h : a = b) : Ending.returned (.string a) = .returned (.string b) := by rw [h]
theorem digit_byte (n : Int) (h0 : 48 ≤ n) (h1 : n ≤ 57) : ((UInt8.ofNat n.toNat).toNat : Int) = n := by
  simp
  omega
set_option maxRecDepth 100000 in
theorem byte_any (n : Int) (w : World) (h0 : 48 ≤ n) (h1 : n ≤ 57) :
    Calls Tryz.prog 119 #[.int .i64 n] w fun e w' => e = .returned (.string (bs [UInt8.ofNat n.toNat])) ∧ Below w.heap.size w w' := by
  have hcb := run_convert_bytes_back (P := Tryz.prog) (w.alloc (.cells #[.int .u8 n] 5)) 181 9 5 ⟨w.heap.size, 0, none⟩ 1 [UInt8.ofNat n.toNat] Tryz.underlying181 Tryz.underlying5 Tryz.underlying9 (by
    intro i hi
    have : i = 0 := by simpa using hi
    subst this
    rw [List.getElem_singleton, digit_byte n h0 h1]
    simp [Addr.add])
  rw [show [UInt8.ofNat n.toNat].length = 1 from rfl] at hcb
  go_enter Tryz.func119, Tryz.ntmps119
  go_wp2_with fail
  go_ret
  exact ⟨rfl, (Below.refl _ _).alloc (Nat.le_refl _) _⟩

theorem neg_tdiv (u : Nat) : (-(u : Int)).tdiv 10 = -((u / 10 : Nat) : Int) := by
  rw [Int.neg_tdiv]
  rfl
theorem neg_tmod (u : Nat) : (-(u : Int)).tmod 10 = -((u % 10 : Nat) : Int) := by
  rw [Int.neg_tmod]
  rfl
theorem dec_len {u : Nat} (h : u ≤ 9223372036854775807) : (Lib.decDigits u).length ≤ 19 :=
  decDigits_len 18 u (by have : (10 : Nat) ^ (18 + 1) = 10000000000000000000 := by decide
                         omega)
set_option maxRecDepth 100000 in
theorem below_any (u : Nat) : ∀ (w : World), u ≤ 9223372036854775807 →
    Calls Tryz.prog 74 #[.int .i64 (-(u : Int))] w fun e w' => e = .returned (.string (bs (Lib.decDigits u))) ∧ Below w.heap.size w w' := by
  induction u using Nat.strongRecOn with
  | _ u ih =>
    intro w hu
    by_cases h : u < 10
    · have hd := Lib.hid (show Lib.decDigits u = [UInt8.ofNat (48 + u)] by rw [Lib.decDigits, dif_pos h])
      have hb := Lib.hid (byte_any (48 + (u : Int)) w (by omega) (by omega))
      have ht : decide (-10 < -(u : Int)) = true := decide_eq_true (by omega)
      clear ih
      go_enter Tryz.func74, Tryz.ntmps74
      go_wp2_with fail
      refine hb.out.mono ?_
      rintro e w1 ⟨rfl, hb1⟩
      go_wp2_with fail
      go_ret
      exact ⟨ret_string (by rw [hd.out]; congr 1), hb1⟩
    · have hd := Lib.hid (show Lib.decDigits u = Lib.decDigits (u / 10) ++ [UInt8.ofNat (48 + u % 10)] by rw [Lib.decDigits, dif_neg h])
      have ht : decide (-10 < -(u : Int)) = false := decide_eq_false (by omega)
      have hi := Lib.hid (ih (u / 10) (by omega))
      have hb := Lib.hid (fun wx => byte_any (48 + ((u % 10 : Nat) : Int)) wx (by omega) (by omega))
      have hs1 : (bs (Lib.decDigits (u / 10))).size ≤ 19 := by rw [bs_size]; exact dec_len (by omega)
      rw [show (48 + ((u % 10 : Nat) : Int)).toNat = 48 + u % 10 by omega] at hb
      have hs2 : (bs [UInt8.ofNat (48 + u % 10)]).size ≤ 1 := by rw [bs_size]; exact Nat.le_refl 1
      have hfin := Lib.hid (show bs (Lib.decDigits (u / 10)) ++ bs [UInt8.ofNat (48 + u % 10)] = bs (Lib.decDigits u) from (str_cat _ _).trans (by rw [hd.out]))
      generalize bs [UInt8.ofNat (48 + u % 10)] = q at *
      clear ih
      go_enter Tryz.func74, Tryz.ntmps74
      go_wp2_with fail
      rw [show (-((u : Int) / 10)) = -((u / 10 : Nat) : Int) by omega]
      refine (hi.out _ (by omega)).mono ?_
      rintro e w1 ⟨rfl, hb1⟩
      go_wp2_with fail
      rw [show (48 : Int) + (u : Int) % 10 = 48 + ((u % 10 : Nat) : Int) by omega]
      refine (hb.out _).mono ?_
      rintro e w2 ⟨rfl, hb2⟩
      go_wp2_with fail
      go_ret
      exact ⟨ret_string hfin.out, below_trans hb1 hb2⟩
set_option maxRecDepth 100000 in
theorem decimal_any (n : Int) (w : World) (h0 : -9223372036854775807 ≤ n) (h1 : n ≤ 9223372036854775807) :
    Calls Tryz.prog 25 #[.int .i64 n] w fun e w' => e = .returned (.string (bs (Lib.itoa n))) ∧ Below w.heap.size w w' := by
  by_cases h : n < 0
  · obtain ⟨u, rfl⟩ : ∃ u : Nat, n = -(u : Int) := ⟨n.natAbs, by omega⟩
    have hr := Lib.hid (show Lib.itoa (-(u : Int)) = 45 :: Lib.decDigits u by unfold Lib.itoa; rw [if_pos h]; congr 2; omega)
    have hb := Lib.hid (below_any u w (by omega))
    have hs1 : (bs (Lib.decDigits u)).size ≤ 19 := by rw [bs_size]; exact dec_len (by omega)
    have ht : 0 < u := by omega
    clear h
    go_enter Tryz.func25, Tryz.ntmps25
    go_wp2_with fail
    refine hb.out.mono ?_
    rintro e w1 ⟨rfl, hb1⟩
    go_wp2_with fail
    go_ret
    exact ⟨ret_string (by rw [hr.out]; exact (str_cat [45] _)), hb1⟩
  · obtain ⟨u, rfl⟩ : ∃ u : Nat, n = (u : Int) := ⟨n.toNat, by omega⟩
    have hr := Lib.hid (show Lib.itoa (u : Int) = Lib.decDigits u by unfold Lib.itoa; rw [if_neg h, Int.toNat_natCast])
    have hb := Lib.hid (below_any u w (by omega))
    go_enter Tryz.func25, Tryz.ntmps25
    go_wp2_with fail
    refine hb.out.mono ?_
    rintro e w1 ⟨rfl, hb1⟩
    go_wp2_with fail
    go_ret
    exact ⟨ret_string (by rw [hr.out]), hb1⟩

/-! Names, words, numbers. -/
theorem ret_bool2 {a b : Bool} (h : a = b) : Ending.returned (.bool a) = .returned (.bool b) := by rw [h]
set_option maxRecDepth 100000 in
theorem small_any (c : UInt8) (w : World) :
    Calls Tryz.prog 167 #[.int .u8 (c.toNat : Int)] w fun e w' => e = .returned (.bool (smallB c)) ∧ w = w' := by
  have hr := Lib.hid (show smallB c = ((decide (97 ≤ c.toNat) && decide (c.toNat ≤ 122)) || (decide (48 ≤ c.toNat) && decide (c.toNat ≤ 57))) by
    unfold smallB
    simp only [UInt8.le_iff_toNat_le]
    rfl)
  have hc := UInt8.toNat_lt c
  generalize c.toNat = n at *
  by_cases h1 : 97 ≤ n <;> by_cases h2 : n ≤ 122 <;> by_cases h3 : 48 ≤ n <;> by_cases h4 : n ≤ 57
  all_goals first | (exfalso; omega) | skip
  all_goals
    go_enter Tryz.func167, Tryz.ntmps167
    go_wp2_with fail
    go_ret
    exact ⟨ret_bool2 (by rw [hr.out]; simp [h1, h2, h3, h4]; try omega), rfl⟩
end Go.Proofs.YtkhphdkjnpcnnaaGreatDoor
