/- The law TicketBack, walked. -/
import Derived.Test.YtgainbpflncgcaaGreatDoorTickW4
import Derived.Test.YtgainbpflncgcaaGreatDoorSealed
namespace Go.Proofs.YtgainbpflncgcaaGreatDoor
open Go.RowKit Go.Maps

def longT (t : Tick) : Int := if 20 < t.who.length ∨ 20 < t.svc.length then 1 else 0
set_option maxRecDepth 100000 in
theorem longTicket_any (t : Tick) (w : World) (hl : TickLen t) :
    Calls Tryz.prog 42 #[t.val] w fun e w' => e = .returned (.int .i64 (longT t)) ∧ Below w.heap.size w w' := by
  have hB : Below w.heap.size w (w.alloc (.cells t.cells 78)) := (Below.refl _ _).alloc (Nat.le_refl _) _
  have hlt : longT t = if 20 < t.who.length ∨ 20 < t.svc.length then 1 else 0 := rfl
  generalize longT t = q at *
  obtain ⟨h1, h2⟩ := hl
  obtain ⟨who, svc, ep, bg, fn, sr⟩ := t
  dsimp only [Tick.val, Tick.cells] at *
  have s1 := bs_size who
  have s2 := bs_size svc
  unfold maxLen at h1 h2
  by_cases a : 20 < who.length
  · have hr := Lib.hid (hlt.trans (if_pos (.inl a)))
    clear hlt
    go_enter Tryz.func42, Tryz.ntmps42
    go_wp2_with fail
    go_ret
    exact ⟨ret_int hr.out.symm, hB⟩
  · by_cases b : 20 < svc.length
    · have hr := Lib.hid (hlt.trans (if_pos (.inr b)))
      clear hlt
      go_enter Tryz.func42, Tryz.ntmps42
      go_wp2_with fail
      go_ret
      exact ⟨ret_int hr.out.symm, hB⟩
    · have hr := Lib.hid (hlt.trans (if_neg (by rintro (h | h); exact a h; exact b h)))
      clear hlt
      go_enter Tryz.func42, Tryz.ntmps42
      go_wp2_with fail
      go_ret
      exact ⟨ret_int hr.out.symm, hB⟩
theorem sealText_len7 (k : Int) {t : Tick} (h : tickErr t = 0) : (sealText k (tickWords t)).length ≤ 221 := by
  have hm := markOf_bd k (glue 32 (tickWords t))
  have hg := glue_len 32 (tickWords t) (fun x hx => ((isWord_iff x).1 (tickWords_words h x hx)).2.1)
  have hi := itoa_len10 hm.1 (by omega)
  rw [tickWords_len] at hg
  unfold sealText
  simp only [List.length_append, List.length_cons]
  omega
/-- The ticket of the closed fact. -/
def annT : Tick := ⟨[97, 110, 110], [100, 111, 111, 114], 1, 0, 9, 1⟩
theorem annT_err : tickErr annT = 0 := by decide
theorem annT_good8 : goodT annT 8 = 0 := by decide
theorem annT_good9 : goodT annT 9 = 12 := by decide
theorem annT_make : makeT 5 annT = (sealText 5 (tickWords annT), 0) := by
  unfold makeT
  rw [if_pos (by decide), if_pos annT_err]
theorem annT_open : openT 5 (sealText 5 (tickWords annT)) = (annT, 0) := openT_make (by decide) annT_err
theorem annT_size : (bs (sealText 5 (tickWords annT))).size ≤ 300 := by
  rw [bs_size]
  have := sealText_len7 5 annT_err
  omega
set_option maxHeartbeats 1000000 in
set_option maxRecDepth 100000 in
theorem ticketed_any {E : Nat → Addr} (w : World) (hL : LaidX E w) :
    Calls Tryz.prog 41 #[] w fun e w' => e = .returned (.bool true) ∧ Below w.heap.size w w' := by
  have hB : Below w.heap.size w (w.alloc (.cells annT.cells 78)) := (Below.refl _ _).alloc (Nat.le_refl _) _
  have hbt := Lib.hid (heap_alloc_new w (.cells annT.cells 78))
  have hl : TickLen annT := ⟨by decide, by decide⟩
  have hmk := Lib.hid (make_tick (E := E) 5 annT _ (hL.below hB).s hl)
  rw [annT_make, errV_zero] at hmk
  have hop := Lib.hid (fun wx (hx : Below w.heap.size w wx) => open_tick (E := E) 5 (bs (sealText 5 (tickWords annT))) wx (hL.below hx).s (Nat.le_trans annT_size (by decide)))
  rw [bs_list, annT_open, errV_zero] at hop
  have hg8 := Lib.hid (fun wx (hx : Below w.heap.size w wx) => good_tick (E := E) annT 8 wx (hL.below hx).s.laid hl)
  have hg9 := Lib.hid (fun wx (hx : Below w.heap.size w wx) => good_tick (E := E) annT 9 wx (hL.below hx).s.laid hl)
  rw [annT_good8, errV_zero] at hg8
  rw [annT_good9] at hg9
  generalize bs (sealText 5 (tickWords annT)) = S at *
  have hvl : annT.val = .agg #[.string ⟨#[97, 110, 110]⟩, .string ⟨#[100, 111, 111, 114]⟩, .int .i64 1, .int .i64 0, .int .i64 9, .int .i64 1] := rfl
  have hcl : annT.cells = #[.string ⟨#[97, 110, 110]⟩, .string ⟨#[100, 111, 111, 114]⟩, .int .i64 1, .int .i64 0, .int .i64 9, .int .i64 1] := rfl
  simp only [hvl, hcl] at hmk hop hg8 hg9 hB hbt
  clear hvl hcl
  go_enter Tryz.func41, Tryz.ntmps41
  go_wp2_with fail
  refine hmk.out.mono ?_
  rintro e w1 ⟨rfl, hb⟩
  have hrt1 := Lib.hid (heap_below hb hbt.out)
  have hb1 := Lib.hid (below_trans hB hb)
  clear hb
  go_wp2_with fail
  refine (hop.out _ hb1.out).mono ?_
  rintro e w2 ⟨rfl, hb⟩
  have hrt2 := Lib.hid (heap_below hb hrt1.out)
  have hb2 := Lib.hid (below_trans hb1.out hb)
  have hlt2 : w.heap.size < w2.heap.size := (Array.getElem?_eq_some_iff.1 hrt2.out).1
  obtain ⟨⟨b0, b1, b2, b3, b4, b5⟩, _⟩ := tick_kept (Below.refl _ _) hrt2.out
  have hb3 := Lib.hid (hb2.out.alloc hb2.out.size (.cells #[.string ⟨#[97, 110, 110]⟩, .string ⟨#[100, 111, 111, 114]⟩, .int .i64 1, .int .i64 0, .int .i64 9, .int .i64 1] 78))
  have hrt3 := Lib.hid (heap_below ((Below.refl _ _).alloc (Nat.le_refl _) (.cells #[.string ⟨#[97, 110, 110]⟩, .string ⟨#[100, 111, 111, 114]⟩, .int .i64 1, .int .i64 0, .int .i64 9, .int .i64 1] 78)) hrt2.out)
  clear hb
  go_wp2_with fail
  refine (hg8.out _ hb3.out).mono ?_
  rintro e w4 ⟨rfl, hb⟩
  have hrt4 := Lib.hid (heap_below hb hrt3.out)
  have hb4 := Lib.hid (below_trans hb3.out hb)
  clear b0 b1 b2 b3 b4 b5 hb
  obtain ⟨⟨b0, b1, b2, b3, b4, b5⟩, _⟩ := tick_kept (Below.refl _ _) hrt4.out
  go_wp2_with fail
  refine (hg9.out _ hb4.out).mono ?_
  rintro e w5 ⟨rfl, hb⟩
  have hb5 := Lib.hid (below_trans hb4.out hb)
  have hc := coded_any (E := E) 12 12 w5 (hL.below hb5.out).r (by decide)
  rw [show codedB 12 12 = true by decide] at hc
  simp only [errV] at hc
  have hc := Lib.hid hc
  clear b0 b1 b2 b3 b4 b5 hb
  simp only [errV]
  go_wp2_with fail
  refine hc.out.mono ?_
  rintro e w6 ⟨rfl, hb⟩
  have hb6 := Lib.hid (below_trans hb5.out hb)
  clear hb
  go_wp2_with fail
  go_ret
  exact ⟨rfl, hb6.out⟩

set_option maxHeartbeats 2000000 in
set_option maxRecDepth 100000 in
theorem ticketBack_any {E : Nat → Addr} (k : Int) (t : Tick) (now til serial thn : Int) (w : World) (hL : LaidX E w) (hl : TickLen t) :
    Calls Tryz.prog 6 #[.int .i64 k, t.val, .int .i64 now, .int .i64 til, .int .i64 serial, .int .i64 thn] w fun e w' => e = .returned (.bool true) ∧ Below w.heap.size w w' := by
  have hB : Below w.heap.size w (w.alloc (.cells t.cells 78)) := (Below.refl _ _).alloc (Nat.le_refl _) _
  have hbt := Lib.hid (heap_alloc_new w (.cells t.cells 78))
  have htd := Lib.hid (fun wx (hx : Below w.heap.size w wx) => ticketed_any (E := E) wx (hL.below hx))
  have hlo := Lib.hid (fun wx => longTicket_any t wx hl)
  have hmk := Lib.hid (fun wx (hx : Below w.heap.size w wx) => make_tick (E := E) k t wx (hL.below hx).s hl)
  have hgd := Lib.hid (fun (q : Tick) x wx (hx : Below w.heap.size w wx) (hq : TickLen q) => good_tick (E := E) q x wx (hL.below hx).s.laid hq)
  have hrn := Lib.hid (fun wx (hx : Below w.heap.size w wx) => renew_tick (E := E) t now til serial wx (hL.below hx).s.laid hl)
  cases hlt : decide (longT t = 0) with
  | false =>
    have h1 : longT t = 1 := by
      have := of_decide_eq_false hlt
      unfold longT at this ⊢
      split
      · rfl
      · rename_i h; rw [if_neg h] at this; exact absurd rfl this
    rw [h1] at hlo
    clear h1 hlt
    obtain ⟨who, svc, ep, bg, fn, sr⟩ := t
    dsimp only [Tick.val, Tick.cells] at *
    go_enter Tryz.func6, Tryz.ntmps6
    go_wp2_with fail
    refine (htd.out _ hB).mono ?_
    rintro e w1 ⟨rfl, hb⟩
    obtain ⟨⟨b0, b1, b2, b3, b4, b5⟩, _⟩ := tick_kept hb hbt.out
    have hb1 := Lib.hid (below_trans hB hb)
    go_wp2_with fail
    refine (hlo.out _).mono ?_
    rintro e w2 ⟨rfl, hb⟩
    have hb2 := Lib.hid (below_trans hb1.out hb)
    clear b0 b1 b2 b3 b4 b5
    go_wp2_with fail
    go_ret
    exact ⟨rfl, hb2.out⟩
  | true =>
  have h0 : longT t = 0 := of_decide_eq_true hlt
  rw [h0] at hlo
  clear h0 hlt
  by_cases hc : (makeT k t).2 = 0
  case neg =>
    have hbad := makeT_bad hc
    obtain ⟨c, hcd⟩ : ∃ c, (makeT k t).2 = c + 1 := ⟨_, (Nat.succ_pred_eq_of_ne_zero hc).symm⟩
    rw [hbad, hcd, errV_succ] at hmk
    have hbe : ((bs []).toList).isEmpty = true := by rw [toList_data]; rfl
    clear hc hbad hcd
    obtain ⟨who, svc, ep, bg, fn, sr⟩ := t
    dsimp only [Tick.val, Tick.cells] at *
    go_enter Tryz.func6, Tryz.ntmps6
    go_wp2_with fail
    refine (htd.out _ hB).mono ?_
    rintro e w1 ⟨rfl, hb⟩
    obtain ⟨⟨b0, b1, b2, b3, b4, b5⟩, _⟩ := tick_kept hb hbt.out
    have hrt1 := Lib.hid (heap_below hb hbt.out)
    have hb1 := Lib.hid (below_trans hB hb)
    go_wp2_with fail
    refine (hlo.out _).mono ?_
    rintro e w2 ⟨rfl, hb⟩
    have hrt2 := Lib.hid (heap_below hb hrt1.out)
    have hb2 := Lib.hid (below_trans hb1.out hb)
    clear b0 b1 b2 b3 b4 b5
    obtain ⟨⟨b0, b1, b2, b3, b4, b5⟩, _⟩ := tick_kept (Below.refl _ _) hrt2.out
    go_wp2_with fail
    refine (hmk.out _ hb2.out).mono ?_
    rintro e w3 ⟨rfl, hb⟩
    have hb3 := Lib.hid (below_trans hb2.out hb)
    clear b0 b1 b2 b3 b4 b5
    go_wp2_with fail
    go_ret
    exact ⟨rfl, hb3.out⟩
  case pos =>
  obtain ⟨hk, hte, hmo⟩ := makeT_zero hc
  have hsz := sealText_len7 k hte
  rw [hmo, errV_zero] at hmk
  have hop := Lib.hid (fun wx (hx : Below w.heap.size w wx) => open_tick (E := E) k (bs (sealText k (tickWords t))) wx (hL.below hx).s (by rw [bs_size]; omega))
  have hlk := Lib.hid (fun wx (hx : Below w.heap.size w wx) => look_tick (E := E) (bs (sealText k (tickWords t))) wx (hL.below hx).s (by rw [bs_size]; omega))
  rw [bs_list, openT_make hk hte, errV_zero] at hop
  rw [bs_list, lookT_make hk hte, errV_zero] at hlk
  have hgg := Lib.hid (@renewed_good t now til serial thn)
  clear hmo hsz
  generalize bs (sealText k (tickWords t)) = S at *
  by_cases hrc : (renewT t now til serial).2 = 0
  case neg =>
    have hbad := renewT_bad hrc
    obtain ⟨c, hcd⟩ : ∃ c, (renewT t now til serial).2 = c + 1 := ⟨_, (Nat.succ_pred_eq_of_ne_zero hrc).symm⟩
    rw [hbad, hcd, errV_succ] at hrn
    clear hrc hbad hcd hgg
    obtain ⟨who, svc, ep, bg, fn, sr⟩ := t
    dsimp only [Tick.val, Tick.cells, noTick] at *
    rw [show bs [] = (⟨#[]⟩ : ByteArray) from rfl] at *
    go_enter Tryz.func6, Tryz.ntmps6
    go_wp2_with fail
    refine (htd.out _ hB).mono ?_
    rintro e w1 ⟨rfl, hb⟩
    obtain ⟨⟨b0, b1, b2, b3, b4, b5⟩, _⟩ := tick_kept hb hbt.out
    have hrt1 := Lib.hid (heap_below hb hbt.out)
    have hb1 := Lib.hid (below_trans hB hb)
    go_wp2_with fail
    refine (hlo.out _).mono ?_
    rintro e w2 ⟨rfl, hb⟩
    have hrt2 := Lib.hid (heap_below hb hrt1.out)
    have hb2 := Lib.hid (below_trans hb1.out hb)
    clear b0 b1 b2 b3 b4 b5
    obtain ⟨⟨b0, b1, b2, b3, b4, b5⟩, _⟩ := tick_kept (Below.refl _ _) hrt2.out
    go_wp2_with fail
    refine (hmk.out _ hb2.out).mono ?_
    rintro e w3 ⟨rfl, hb⟩
    have hrt3 := Lib.hid (heap_below hb hrt2.out)
    have hb3 := Lib.hid (below_trans hb2.out hb)
    clear b0 b1 b2 b3 b4 b5
    go_wp2_with fail
    refine (hop.out _ hb3.out).mono ?_
    rintro e w4 ⟨rfl, hb⟩
    have hrt4 := Lib.hid (heap_below hb hrt3.out)
    have hb4 := Lib.hid (below_trans hb3.out hb)
    have hA4 := (Below.refl w4.heap.size w4).alloc (Nat.le_refl _) (.cells #[.string (bs who), .string (bs svc), .int .i64 ep, .int .i64 bg, .int .i64 fn, .int .i64 sr] 78)
    have hrt4' := Lib.hid (heap_below hA4 hrt4.out)
    have hrx4 := Lib.hid (heap_alloc_new w4 (.cells #[.string (bs who), .string (bs svc), .int .i64 ep, .int .i64 bg, .int .i64 fn, .int .i64 sr] 78))
    have hb4' := Lib.hid (below_trans hb4.out hA4)
    clear hA4
    go_wp2_with fail
    refine (hlk.out _ hb4'.out).mono ?_
    rintro e w5 ⟨rfl, hb⟩
    have hrt5 := Lib.hid (heap_below hb hrt4'.out)
    have hrx5 := Lib.hid (heap_below hb hrx4.out)
    have hb5 := Lib.hid (below_trans hb4'.out hb)
    have hA5 := (Below.refl w5.heap.size w5).alloc (Nat.le_refl _) (.cells #[.string (bs who), .string (bs svc), .int .i64 ep, .int .i64 bg, .int .i64 fn, .int .i64 sr] 78)
    obtain ⟨⟨b0, b1, b2, b3, b4, b5⟩, _⟩ := tick_kept hA5 hrt5.out
    obtain ⟨⟨x0, x1, x2, x3, x4, x5⟩, _⟩ := tick_kept hA5 hrx5.out
    have hrt5' := Lib.hid (heap_below hA5 hrt5.out)
    have hb5' := Lib.hid (below_trans hb5.out hA5)
    clear hA5
    go_wp2_with fail
    refine (hrn.out _ hb5'.out).mono ?_
    rintro e w6 ⟨rfl, hb⟩
    have hb6 := Lib.hid (below_trans hb5'.out hb)
    have hb6' := Lib.hid (hb6.out.alloc hb6.out.size (.cells #[.string ⟨#[]⟩, .string ⟨#[]⟩, .int .i64 0, .int .i64 0, .int .i64 0, .int .i64 0] 78))
    clear b0 b1 b2 b3 b4 b5 x0 x1 x2 x3 x4 x5 hb
    go_wp2_with fail
    go_ret
    exact ⟨rfl, hb6'.out⟩
  case pos =>
  obtain ⟨hg0, hre, hrr⟩ := renewT_zero hrc
  rw [hrr, errV_zero] at hrn
  have hrl : TickLen (renewed t now til serial) := hl
  have hgr := Lib.hid (fun wx (hx : Below w.heap.size w wx) => hgd.out (renewed t now til serial) thn wx hx hrl)
  have hgt := Lib.hid (fun wx (hx : Below w.heap.size w wx) => hgd.out t thn wx hx hl)
  have hgg := Lib.hid (hgg.out hg0)
  have hgb := Lib.hid (show goodT (renewed t now til serial) thn = 0 → now ≤ thn from fun h => (hgg.out h).2)
  have hgz := Lib.hid (show goodT (renewed t now til serial) thn = 0 → goodT t thn = 0 from fun h => (hgg.out h).1)
  clear hrc hgg hg0 hre hrr
  generalize goodT (renewed t now til serial) thn = gr at *
  generalize goodT t thn = gt at *
  obtain ⟨who, svc, ep, bg, fn, sr⟩ := t
  dsimp only [Tick.val, Tick.cells, renewed] at *
  have hmin : decide (fn < min til fn) = false := decide_eq_false (by omega)
  go_enter Tryz.func6, Tryz.ntmps6
  go_wp2_with fail
  refine (htd.out _ hB).mono ?_
  rintro e w1 ⟨rfl, hb⟩
  obtain ⟨⟨b0, b1, b2, b3, b4, b5⟩, _⟩ := tick_kept hb hbt.out
  have hrt1 := Lib.hid (heap_below hb hbt.out)
  have hb1 := Lib.hid (below_trans hB hb)
  go_wp2_with fail
  refine (hlo.out _).mono ?_
  rintro e w2 ⟨rfl, hb⟩
  have hrt2 := Lib.hid (heap_below hb hrt1.out)
  have hb2 := Lib.hid (below_trans hb1.out hb)
  clear b0 b1 b2 b3 b4 b5
  obtain ⟨⟨b0, b1, b2, b3, b4, b5⟩, _⟩ := tick_kept (Below.refl _ _) hrt2.out
  go_wp2_with fail
  refine (hmk.out _ hb2.out).mono ?_
  rintro e w3 ⟨rfl, hb⟩
  have hrt3 := Lib.hid (heap_below hb hrt2.out)
  have hb3 := Lib.hid (below_trans hb2.out hb)
  clear b0 b1 b2 b3 b4 b5
  go_wp2_with fail
  refine (hop.out _ hb3.out).mono ?_
  rintro e w4 ⟨rfl, hb⟩
  have hrt4 := Lib.hid (heap_below hb hrt3.out)
  have hb4 := Lib.hid (below_trans hb3.out hb)
  have hA4 := (Below.refl w4.heap.size w4).alloc (Nat.le_refl _) (.cells #[.string (bs who), .string (bs svc), .int .i64 ep, .int .i64 bg, .int .i64 fn, .int .i64 sr] 78)
  have hrt4' := Lib.hid (heap_below hA4 hrt4.out)
  have hrx4 := Lib.hid (heap_alloc_new w4 (.cells #[.string (bs who), .string (bs svc), .int .i64 ep, .int .i64 bg, .int .i64 fn, .int .i64 sr] 78))
  have hb4' := Lib.hid (below_trans hb4.out hA4)
  clear hA4
  go_wp2_with fail
  refine (hlk.out _ hb4'.out).mono ?_
  rintro e w5 ⟨rfl, hb⟩
  have hrt5 := Lib.hid (heap_below hb hrt4'.out)
  have hrx5 := Lib.hid (heap_below hb hrx4.out)
  have hb5 := Lib.hid (below_trans hb4'.out hb)
  have hA5 := (Below.refl w5.heap.size w5).alloc (Nat.le_refl _) (.cells #[.string (bs who), .string (bs svc), .int .i64 ep, .int .i64 bg, .int .i64 fn, .int .i64 sr] 78)
  obtain ⟨⟨b0, b1, b2, b3, b4, b5⟩, _⟩ := tick_kept hA5 hrt5.out
  obtain ⟨⟨x0, x1, x2, x3, x4, x5⟩, _⟩ := tick_kept hA5 hrx5.out
  have hrt5' := Lib.hid (heap_below hA5 hrt5.out)
  have hb5' := Lib.hid (below_trans hb5.out hA5)
  clear hA5
  go_wp2_with fail
  refine (hrn.out _ hb5'.out).mono ?_
  rintro e w6 ⟨rfl, hb⟩
  have hrt6 := Lib.hid (heap_below hb hrt5'.out)
  have hb6 := Lib.hid (below_trans hb5'.out hb)
  have hA6 := (Below.refl w6.heap.size w6).alloc (Nat.le_refl _) (.cells #[.string (bs who), .string (bs svc), .int .i64 ep, .int .i64 now, .int .i64 (min til fn), .int .i64 serial] 78)
  have hrt6' := Lib.hid (heap_below hA6 hrt6.out)
  have hb6' := Lib.hid (below_trans hb6.out hA6)
  clear b0 b1 b2 b3 b4 b5 x0 x1 x2 x3 x4 x5 hb
  obtain ⟨⟨b0, b1, b2, b3, b4, b5⟩, _⟩ := tick_kept hA6 hrt6.out
  clear hA6
  go_wp2_with fail
  refine (hgr.out _ hb6'.out).mono ?_
  rintro e w7 ⟨rfl, hb⟩
  have hrt7 := Lib.hid (heap_below hb hrt6'.out)
  have hb7 := Lib.hid (below_trans hb6'.out hb)
  clear b0 b1 b2 b3 b4 b5 hb
  cases gr with
  | succ c =>
    rw [errV_succ]
    go_wp2_with fail
    go_ret
    exact ⟨rfl, hb7.out⟩
  | zero =>
    have hz := hgz.out rfl
    have hge := hgb.out rfl
    subst hz
    obtain ⟨⟨b0, b1, b2, b3, b4, b5⟩, _⟩ := tick_kept (Below.refl _ _) hrt7.out
    rw [errV_zero]
    go_wp2_with fail
    refine (hgt.out _ hb7.out).mono ?_
    rintro e w8 ⟨rfl, hb⟩
    have hb8 := Lib.hid (below_trans hb7.out hb)
    clear b0 b1 b2 b3 b4 b5 hb
    rw [errV_zero]
    go_wp2_with fail
    go_ret
    exact ⟨rfl, hb8.out⟩
end Go.Proofs.YtgainbpflncgcaaGreatDoor
