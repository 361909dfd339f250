/- The law TicketTells, walked. -/
import Derived.Test.YtgainbpflncgcaaGreatDoorTickBackW
import Derived.Test.YtgainbpflncgcaaGreatDoorTickR3
import Derived.Test.YtgainbpflncgcaaGreatDoorFaulted
import Derived.Deep.RegionHeld3
import Derived.Deep.CutRange
import Derived.Deep.CutBlock
import Derived.Deep.DrawnRows
attribute [local go_sem ↓] Go.wp_at_zero Go.wp_at_succ
namespace Go.Proofs.YtgainbpflncgcaaGreatDoor
open Go.RowKit Go.Maps

theorem tickErr_code (t : Tick) : tickErr t ≤ 16 := by
  unfold tickErr
  split
  · split <;> simp
  · simp
theorem ofWords_code (W : List (List UInt8)) : (ofWords W).2 ≤ 16 := by
  by_cases hl : W.length = 7
  · obtain ⟨a, b, c, d, e, f, g, rfl⟩ := seven_of hl
    by_cases ha : a = ticketW
    · subst ha
      cases h0 : numOf d with
      | none => rw [ofWords_none (j := 0) (by decide) h0]; simp
      | some n0 =>
      cases h1 : numOf e with
      | none => rw [ofWords_none (j := 1) (by decide) h1]; simp
      | some n1 =>
      cases h2 : numOf f with
      | none => rw [ofWords_none (j := 2) (by decide) h2]; simp
      | some n2 =>
      cases h3 : numOf g with
      | none => rw [ofWords_none (j := 3) (by decide) h3]; simp
      | some n3 =>
      rw [ofWords_some h0 h1 h2 h3]
      split
      · simp
      · exact tickErr_code _
    · rw [ofWords_first ha]; simp
  · rw [ofWords_len hl]; simp
theorem makeT_code (k : Int) (t : Tick) : (makeT k t).2 ≤ 16 := by
  unfold makeT
  split
  · split
    · simp
    · exact tickErr_code t
  · simp
theorem goodT_code (t : Tick) (now : Int) : goodT t now ≤ 16 := by
  unfold goodT
  split
  · split
    · split
      · simp
      · split <;> simp
    · simp
  · exact tickErr_code t
theorem openT_code (k : Int) (s : List UInt8) : (openT k s).2 ≤ 16 := by
  unfold openT
  split
  · exact ofWords_code _
  · exact openOf_code k s
theorem renewT_code (t : Tick) (now til serial : Int) : (renewT t now til serial).2 ≤ 16 := by
  unfold renewT
  split
  · split
    · simp
    · exact tickErr_code _
  · exact goodT_code t now
theorem row_other6 {w : World} {n m : Nat} {o : Obj} (h : w.heap[m]? = some o) (hne : m ≠ n) (v0 v1 v2 v3 v4 v5 : Value) :
    ((((((w.setCell ⟨n, 0, none⟩ v0).setCell ⟨n, 1, none⟩ v1).setCell ⟨n, 2, none⟩ v2).setCell ⟨n, 3, none⟩ v3).setCell ⟨n, 4, none⟩ v4).setCell ⟨n, 5, none⟩ v5).heap[m]? = some o := by
  rw [heap_setCell_other _ _ _ _ hne, heap_setCell_other _ _ _ _ hne, heap_setCell_other _ _ _ _ hne, heap_setCell_other _ _ _ _ hne, heap_setCell_other _ _ _ _ hne, heap_setCell_other _ _ _ _ hne]
  exact h
theorem cell_other6 {w : World} {n b o : Nat} {v : Value} (h : w.cell? ⟨b, o, none⟩ = some v) (hne : n ≠ b) (v0 v1 v2 v3 v4 v5 : Value) :
    ((((((w.setCell ⟨n, 0, none⟩ v0).setCell ⟨n, 1, none⟩ v1).setCell ⟨n, 2, none⟩ v2).setCell ⟨n, 3, none⟩ v3).setCell ⟨n, 4, none⟩ v4).setCell ⟨n, 5, none⟩ v5).cell? ⟨b, o, none⟩ = some v := by
  rw [World.cell?_setCell_far _ _ _ _ hne, World.cell?_setCell_far _ _ _ _ hne, World.cell?_setCell_far _ _ _ _ hne, World.cell?_setCell_far _ _ _ _ hne, World.cell?_setCell_far _ _ _ _ hne, World.cell?_setCell_far _ _ _ _ hne]
  exact h
/-- Texts in new memory stay where an elder block is written. -/
theorem texts_other6 {w : World} {n N : Nat} {v : Value} {L : List (List UInt8)} (h : TextsAt w v L) (hN : NewIn N v) (hn : n < N) (v0 v1 v2 v3 v4 v5 : Value) :
    TextsAt ((((((w.setCell ⟨n, 0, none⟩ v0).setCell ⟨n, 1, none⟩ v1).setCell ⟨n, 2, none⟩ v2).setCell ⟨n, 3, none⟩ v3).setCell ⟨n, 4, none⟩ v4).setCell ⟨n, 5, none⟩ v5) v L := by
  obtain ⟨a, c, rfl, h2, h3, h4⟩ := h
  refine ⟨a, c, rfl, h2, h3, fun i hi => ?_⟩
  obtain ⟨b, o, rfl, h6⟩ := h4 i hi
  have hb : N ≤ b := hN _ _ _ rfl
  exact ⟨b, o, rfl, cell_other6 h6 (by omega) _ _ _ _ _ _⟩
set_option maxHeartbeats 4000000 in
set_option maxRecDepth 100000 in
theorem ticketTells_any {E : Nat → Addr} (k : Int) (t : Tick) (s : ByteArray) (now til serial : Int) (w : World) (hL : LaidX E w) (hl : TickLen t) (hs : s.size ≤ maxLen) :
    Calls Tryz.prog 7 #[.int .i64 k, t.val, .string s, .int .i64 now, .int .i64 til, .int .i64 serial] w fun e w' => e = .returned (.bool true) ∧ Below w.heap.size w w' := by
  have hB : Below w.heap.size w (w.alloc (.cells t.cells 78)) := (Below.refl _ _).alloc (Nat.le_refl _) _
  have hbt := Lib.hid (heap_alloc_new w (.cells t.cells 78))
  have htd := Lib.hid (fun wx (hx : Below w.heap.size w wx) => ticketed_any (E := E) wx (hL.below hx))
  have hlo := Lib.hid (fun wx => longTicket_any t wx hl)
  unfold maxLen at hs
  by_cases h0 : longT t = 0
  case neg =>
    have h1 : longT t = 1 := by
      unfold longT at h0 ⊢
      split
      · rfl
      · rename_i h; rw [if_neg h] at h0; exact absurd rfl h0
    rw [h1] at hlo
    clear h1 h0
    obtain ⟨who, svc, ep, bg, fn, sr⟩ := t
    dsimp only [Tick.val, Tick.cells] at *
    go_enter Tryz.func7, Tryz.ntmps7
    go_wp2_with fail
    refine (htd.out _ hB).mono ?_
    rintro e w1 ⟨rfl, hb⟩
    obtain ⟨⟨b0, b1, b2, b3, b4, b5⟩, _⟩ := tick_kept hb hbt.out
    have hb1 := Lib.hid (below_trans hB hb)
    go_wp2_with fail
    refine (hlo.out _).mono ?_
    rintro e w2 ⟨rfl, hb⟩
    have hb2 := Lib.hid (below_trans hb1.out hb)
    clear b0 b1 b2 b3 b4 b5
    go_wp2_with fail
    go_ret
    exact ⟨rfl, hb2.out⟩
  rw [h0] at hlo
  clear h0
  by_cases h4 : 400 < s.size
  · obtain ⟨who, svc, ep, bg, fn, sr⟩ := t
    dsimp only [Tick.val, Tick.cells] at *
    go_enter Tryz.func7, Tryz.ntmps7
    go_wp2_with fail
    refine (htd.out _ hB).mono ?_
    rintro e w1 ⟨rfl, hb⟩
    obtain ⟨⟨b0, b1, b2, b3, b4, b5⟩, _⟩ := tick_kept hb hbt.out
    have hb1 := Lib.hid (below_trans hB hb)
    go_wp2_with fail
    refine (hlo.out _).mono ?_
    rintro e w2 ⟨rfl, hb⟩
    have hb2 := Lib.hid (below_trans hb1.out hb)
    clear b0 b1 b2 b3 b4 b5
    go_wp2_with fail
    go_ret
    exact ⟨rfl, hb2.out⟩
  have h400 : s.size ≤ 400 := by omega
  have hmk := fun wx (hx : Below w.heap.size w wx) => make_tick (E := E) k t wx (hL.below hx).s hl
  have htx := fun wx => textR_tick k t wx hl
  have hck := Lib.hid (fun wx (hx : Below w.heap.size w wx) => check_tick (E := E) t wx (hL.below hx).s.laid hl)
  have her := Lib.hid (fun wx => errR_tick t wx hl)
  have hgd := Lib.hid (fun wx (hx : Below w.heap.size w wx) => good_tick (E := E) t now wx (hL.below hx).s.laid hl)
  have hgr := Lib.hid (fun wx => goodR_tick t now wx hl)
  have hco := Lib.hid (fun (c : Nat) (hc : c ≤ 16) wx (hx : Below w.heap.size w wx) => coded_same (E := E) c wx (hL.below hx).r hc)
  have hlk := fun wx (hx : Below w.heap.size w wx) => look_tick (E := E) s wx (hL.below hx).s (by omega)
  have hlR := fun wx => lookR_new s wx (by omega)
  have hof := fun v wx (hv : TextsAt wx v (lookOf s.data.toList).2.1) => ofR_tick v (lookOf s.data.toList).2.1 wx hv (fun x hx => by
    have := look_words_len s.data.toList x hx
    have hl : s.data.toList.length = s.size := Array.length_toList
    omega)
  have hlt0 : lookT s.data.toList = if (lookOf s.data.toList).2.2.2 = 0 then ofWords (lookOf s.data.toList).2.1 else (noTick, (lookOf s.data.toList).2.2.2) := rfl
  have c5 : (lookT s.data.toList).2 ≤ 16 := by
    rw [hlt0]
    split
    · exact ofWords_code _
    · exact lookOf_code _
  generalize lookT s.data.toList = lo at *
  generalize lookOf s.data.toList = lq at *
  obtain ⟨lm, lw, ln, lc⟩ := lq
  obtain ⟨⟨l0, l1, l2, l3, l4, l5⟩, ld⟩ := lo
  dsimp only [Tick.val] at hlk hlR hof hlt0 c5
  have hlkH := Lib.hid hlk
  have hlRH := Lib.hid hlR
  have hofH := Lib.hid hof
  have hltH := Lib.hid hlt0
  clear hlk hlR hof hlt0
  have hop := fun wx (hx : Below w.heap.size w wx) => open_tick (E := E) k s wx (hL.below hx).s (by omega)
  have hopR := fun wx => openR_tick k s wx (by omega)
  have c4 := openT_code k s.data.toList
  generalize openT k s.data.toList = oo at *
  obtain ⟨⟨o0, o1, o2, o3, o4, o5⟩, oc⟩ := oo
  dsimp only [Tick.val] at hop hopR c4
  have hopH := Lib.hid hop
  have hopRH := Lib.hid hopR
  clear hop hopR
  have hrn := fun wx (hx : Below w.heap.size w wx) => renew_tick (E := E) t now til serial wx (hL.below hx).s.laid hl
  have hrnR := fun wx => renewR_tick t now til serial wx hl
  have c6 := renewT_code t now til serial
  generalize renewT t now til serial = ro at *
  obtain ⟨⟨r0, r1, r2, r3, r4, r5⟩, rc⟩ := ro
  dsimp only [Tick.val] at hrn hrnR c6
  have hrnH := Lib.hid hrn
  have hrnRH := Lib.hid hrnR
  clear hrn hrnR
  have c1 := makeT_code k t
  have c2 := tickErr_code t
  have c3 := goodT_code t now
  generalize makeT k t = mo at *
  generalize tickErr t = tc at *
  generalize goodT t now = gc at *
  obtain ⟨mt, mc⟩ := mo
  dsimp only at hmk htx c1
  have hmkH := Lib.hid hmk
  have htxH := Lib.hid htx
  clear hmk htx
  obtain ⟨who, svc, ep, bg, fn, sr⟩ := t
  dsimp only [Tick.val, Tick.cells] at *
  go_enter Tryz.func7, Tryz.ntmps7
  go_wp2_with fail
  refine (htd.out _ hB).mono ?_
  rintro e w1 ⟨rfl, hb⟩
  obtain ⟨⟨b0, b1, b2, b3, b4, b5⟩, _⟩ := tick_kept hb hbt.out
  have hrt1 := Lib.hid (heap_below hb hbt.out)
  have hb1 := Lib.hid (below_trans hB hb)
  go_wp2_with fail
  refine (hlo.out _).mono ?_
  rintro e w2 ⟨rfl, hb⟩
  have hrt2 := Lib.hid (heap_below hb hrt1.out)
  have hb2 := Lib.hid (below_trans hb1.out hb)
  clear b0 b1 b2 b3 b4 b5
  obtain ⟨⟨b0, b1, b2, b3, b4, b5⟩, _⟩ := tick_kept (Below.refl _ _) hrt2.out
  go_wp2_with fail
  refine (hmkH.out _ hb2.out).mono ?_
  rintro e w3 ⟨rfl, hb⟩
  have hrt3 := Lib.hid (heap_below hb hrt2.out)
  have hb3 := Lib.hid (below_trans hb2.out hb)
  clear b0 b1 b2 b3 b4 b5
  obtain ⟨⟨b0, b1, b2, b3, b4, b5⟩, _⟩ := tick_kept (Below.refl _ _) hrt3.out
  go_wp2_with fail
  refine (htxH.out _).mono ?_
  rintro e w4 ⟨rfl, hb⟩
  have hrt4 := Lib.hid (heap_below hb hrt3.out)
  have hb4 := Lib.hid (below_trans hb3.out hb)
  clear b0 b1 b2 b3 b4 b5 hb
  obtain ⟨⟨b0, b1, b2, b3, b4, b5⟩, _⟩ := tick_kept (Below.refl _ _) hrt4.out
  have hk6 := Lib.hid (fun (wx : World) (hx : Below w4.heap.size w4 wx) => (show Below w4.heap.size w4 wx ∧ wx.cell? ⟨w.heap.size, 0, none⟩ = some (.string (bs who)) ∧ wx.cell? ⟨w.heap.size, 1, none⟩ = some (.string (bs svc)) ∧ wx.cell? ⟨w.heap.size, 2, none⟩ = some (.int .i64 ep) ∧ wx.cell? ⟨w.heap.size, 3, none⟩ = some (.int .i64 bg) ∧ wx.cell? ⟨w.heap.size, 4, none⟩ = some (.int .i64 fn) ∧ wx.cell? ⟨w.heap.size, 5, none⟩ = some (.int .i64 sr) from ⟨hx, cell_below hx b0, cell_below hx b1, cell_below hx b2, cell_below hx b3, cell_below hx b4, cell_below hx b5⟩))
  have hS : Below w4.heap.size w4 w4 := Below.refl _ _
  have hBH := Lib.hid hB
  clear hB
  go_upto_region 6 with fail
  go_cut [74] from 48 to 74 (fun s74 wx => s74 = .bool false ∧ Hid (Below w4.heap.size w4 wx))
  case first =>
    go_region_held3 (fun w' => Below w4.heap.size w4 w' ∧ w'.cell? ⟨w.heap.size, 0, none⟩ = some (.string (bs who)) ∧ w'.cell? ⟨w.heap.size, 1, none⟩ = some (.string (bs svc)) ∧ w'.cell? ⟨w.heap.size, 2, none⟩ = some (.int .i64 ep) ∧ w'.cell? ⟨w.heap.size, 3, none⟩ = some (.int .i64 bg) ∧ w'.cell? ⟨w.heap.size, 4, none⟩ = some (.int .i64 fn) ∧ w'.cell? ⟨w.heap.size, 5, none⟩ = some (.int .i64 sr))
      ((refine hk6.out _ ?_; (first | exact hS | exact hS.drew)))
      (first | (go_at_call 10; refine (hco.out _ (by first | with_reducible exact c4 | with_reducible exact c1 | with_reducible exact c2 | with_reducible exact c3) _ (below_trans hb4.out (by (first | exact hS | exact hS.drew)))).mono ?_; rintro e w' ⟨rfl, hbx⟩; have hS : Below w4.heap.size w4 w' := below_trans (by (first | exact hS | exact hS.drew)) hbx) | (go_at_call 49; refine (hck.out _ (below_trans hb4.out (by (first | exact hS | exact hS.drew)))).mono ?_; rintro e w' ⟨rfl, hbx⟩; have hS : Below w4.heap.size w4 w' := below_trans (by (first | exact hS | exact hS.drew)) hbx) | (go_at_call 47; refine (hgd.out _ (below_trans hb4.out (by (first | exact hS | exact hS.drew)))).mono ?_; rintro e w' ⟨rfl, hbx⟩; have hS : Below w4.heap.size w4 w' := below_trans (by (first | exact hS | exact hS.drew)) hbx) | (go_at_call 50; refine (her.out _).mono ?_; rintro e w' ⟨rfl, hbx⟩; have hS : Below w4.heap.size w4 w' := below_trans (by (first | exact hS | exact hS.drew)) hbx) | (go_at_call 51; refine (hgr.out _).mono ?_; rintro e w' ⟨rfl, hbx⟩; have hS : Below w4.heap.size w4 w' := below_trans (by (first | exact hS | exact hS.drew)) hbx))
    all_goals
      go_wp2_with fail
      go_meet
      have hHd := And.left (by assumption : Below w4.heap.size w4 _ ∧ _)
      exact ⟨rfl, Lib.hid (by assumption)⟩
  obtain ⟨rfl, hb5⟩ := hcut
  generalize wc = w5 at *
  have hrt5 := Lib.hid (heap_below hb5.out hrt4.out)
  have hb6 := Lib.hid (below_trans hb4.out hb5.out)
  go_wp2_with fail
  refine (hopH.out _ hb6.out).mono ?_
  rintro e w6 ⟨rfl, hb⟩
  have hrt6 := Lib.hid (heap_below hb hrt5.out)
  have hb7 := Lib.hid (below_trans hb6.out hb)
  have hA6 := (Below.refl w6.heap.size w6).alloc (Nat.le_refl _) (.cells #[.string (bs o0), .string (bs o1), .int .i64 o2, .int .i64 o3, .int .i64 o4, .int .i64 o5] 78)
  have hrt7 := Lib.hid (heap_below hA6 hrt6.out)
  have hrx7 := Lib.hid (heap_alloc_new w6 (.cells #[.string (bs o0), .string (bs o1), .int .i64 o2, .int .i64 o3, .int .i64 o4, .int .i64 o5] 78))
  have hb8 := Lib.hid (below_trans hb7.out hA6)
  clear hA6 hb
  go_wp2_with fail
  refine (hopRH.out _).mono ?_
  rintro e w7 ⟨rfl, hb⟩
  have hrt8 := Lib.hid (heap_below hb hrt7.out)
  have hrx8 := Lib.hid (heap_below hb hrx7.out)
  have hb9 := Lib.hid (below_trans hb8.out hb)
  have hA7 := (Below.refl w7.heap.size w7).alloc (Nat.le_refl _) (.cells #[.string (bs o0), .string (bs o1), .int .i64 o2, .int .i64 o3, .int .i64 o4, .int .i64 o5] 78)
  have hrt9 := Lib.hid (heap_below hA7 hrt8.out)
  have hrx9 := Lib.hid (heap_below hA7 hrx8.out)
  have hry9 := Lib.hid (heap_alloc_new w7 (.cells #[.string (bs o0), .string (bs o1), .int .i64 o2, .int .i64 o3, .int .i64 o4, .int .i64 o5] 78))
  have hb10 := Lib.hid (below_trans hb9.out hA7)
  clear hA7 hb
  go_wp2_with fail
  refine (hco.out oc c4 _ hb10.out).mono ?_
  rintro e w8 ⟨rfl, hb⟩
  have hrt10 := Lib.hid (heap_below hb hrt9.out)
  have hrx10 := Lib.hid (heap_below hb hrx9.out)
  have hry10 := Lib.hid (heap_below hb hry9.out)
  have hb11 := Lib.hid (below_trans hb10.out hb)
  clear hb
  obtain ⟨⟨x0, x1, x2, x3, x4, x5⟩, _⟩ := tick_kept (Below.refl _ _) hrx10.out
  obtain ⟨⟨y0, y1, y2, y3, y4, y5⟩, _⟩ := tick_kept (Below.refl _ _) hry10.out
  go_wp2_with fail
  refine (hlkH.out _ hb11.out).mono ?_
  rintro e w9 ⟨rfl, hb⟩
  have hrt11 := Lib.hid (heap_below hb hrt10.out)
  have hrx11 := Lib.hid (heap_below hb hrx10.out)
  have hry11 := Lib.hid (heap_below hb hry10.out)
  have hb12 := Lib.hid (below_trans hb11.out hb)
  clear x0 x1 x2 x3 x4 x5 y0 y1 y2 y3 y4 y5 hb
  obtain ⟨⟨x0, x1, x2, x3, x4, x5⟩, f0, f1, f2, f3, f4, f5⟩ := tick_kept (Below.refl _ _) hrx11.out
  go_wp2_with fail
  have n1 : w.heap.size < w6.heap.size := (Array.getElem?_eq_some_iff.1 hrt6.out).1
  have n2 : w6.heap.size < w7.heap.size := (Array.getElem?_eq_some_iff.1 hrx8.out).1
  have hrx12 := Lib.hid (row_set6 hrx11.out (.string (bs l0)) (.string (bs l1)) (.int .i64 l2) (.int .i64 l3) (.int .i64 l4) (.int .i64 l5))
  have hry12 := Lib.hid (row_other6 (n := w6.heap.size) hry11.out (by omega) (.string (bs l0)) (.string (bs l1)) (.int .i64 l2) (.int .i64 l3) (.int .i64 l4) (.int .i64 l5))
  have hrt12 := Lib.hid (row_other6 (n := w6.heap.size) hrt11.out (by omega) (.string (bs l0)) (.string (bs l1)) (.int .i64 l2) (.int .i64 l3) (.int .i64 l4) (.int .i64 l5))
  have hb13 := Lib.hid (below_set6 (n := w6.heap.size) hb12.out (by omega) (.string (bs l0)) (.string (bs l1)) (.int .i64 l2) (.int .i64 l3) (.int .i64 l4) (.int .i64 l5))
  clear x0 x1 x2 x3 x4 x5 f0 f1 f2 f3 f4 f5
  refine (hlRH.out _).mono ?_
  rintro e w10 ⟨v10, rfl, hv10, hb, hnw⟩
  have hnwH := Lib.hid hnw
  clear hnw
  have hv10H := Lib.hid hv10
  have hrt13 := Lib.hid (heap_below hb hrt12.out)
  have hrx13 := Lib.hid (heap_below hb hrx12.out)
  have hry13 := Lib.hid (heap_below hb hry12.out)
  have hb14 := Lib.hid (below_trans hb13.out hb)
  clear hb hv10
  obtain ⟨⟨y0, y1, y2, y3, y4, y5⟩, f0, f1, f2, f3, f4, f5⟩ := tick_kept (Below.refl _ _) hry13.out
  have hry14 := Lib.hid (row_set6 hry13.out (.string ⟨#[]⟩) (.string ⟨#[]⟩) (.int .i64 0) (.int .i64 0) (.int .i64 0) (.int .i64 0))
  have hrx14 := Lib.hid (row_other6 (n := w7.heap.size) hrx13.out (by omega) (.string ⟨#[]⟩) (.string ⟨#[]⟩) (.int .i64 0) (.int .i64 0) (.int .i64 0) (.int .i64 0))
  have hrt14 := Lib.hid (row_other6 (n := w7.heap.size) hrt13.out (by omega) (.string ⟨#[]⟩) (.string ⟨#[]⟩) (.int .i64 0) (.int .i64 0) (.int .i64 0) (.int .i64 0))
  have hb15 := Lib.hid (below_set6 (n := w7.heap.size) hb14.out (by omega) (.string ⟨#[]⟩) (.string ⟨#[]⟩) (.int .i64 0) (.int .i64 0) (.int .i64 0) (.int .i64 0))
  have hbS := Lib.hid (below_set6 (n := w7.heap.size) (Below.refl w7.heap.size w10) (Nat.le_refl _) (.string ⟨#[]⟩) (.string ⟨#[]⟩) (.int .i64 0) (.int .i64 0) (.int .i64 0) (.int .i64 0))
  have nv : w7.heap.size < ((((((w9.setCell ⟨w6.heap.size, 0, none⟩ (.string (bs l0))).setCell ⟨w6.heap.size, 1, none⟩ (.string (bs l1))).setCell ⟨w6.heap.size, 2, none⟩ (.int .i64 l2)).setCell ⟨w6.heap.size, 3, none⟩ (.int .i64 l3)).setCell ⟨w6.heap.size, 4, none⟩ (.int .i64 l4)).setCell ⟨w6.heap.size, 5, none⟩ (.int .i64 l5)).heap.size := (Array.getElem?_eq_some_iff.1 hry12.out).1
  have htxA := Lib.hid (texts_other6 (n := w7.heap.size) hv10H.out hnwH.out nv (.string ⟨#[]⟩) (.string ⟨#[]⟩) (.int .i64 0) (.int .i64 0) (.int .i64 0) (.int .i64 0))
  clear nv
  obtain ⟨bz, hbz⟩ : ∃ b, ((lc : Int) == 0) = b := ⟨_, rfl⟩
  go_upto_if 109 with fail
  clear y0 y1 y2 y3 y4 y5 f0 f1 f2 f3 f4 f5
  have hbzH := Lib.hid hbz
  clear hbz
  go_cut [17] from 110 to 114 (fun s17 wx => s17 = .int .i64 (ld : Nat) ∧ Hid (wx.heap[w6.heap.size]? = some (.cells #[.string (bs l0), .string (bs l1), .int .i64 l2, .int .i64 l3, .int .i64 l4, .int .i64 l5] 78 (0, 0))) ∧ Hid (wx.heap[w7.heap.size]? = some (.cells #[.string (bs l0), .string (bs l1), .int .i64 l2, .int .i64 l3, .int .i64 l4, .int .i64 l5] 78 (0, 0))) ∧ Hid (wx.heap[w.heap.size]? = some (.cells #[.string (bs who), .string (bs svc), .int .i64 ep, .int .i64 bg, .int .i64 fn, .int .i64 sr] 78 (0, 0))) ∧ Hid (Below w.heap.size w wx))
  case first =>
    cases bz with
    | true =>
      have hz : lc = 0 := by have := hbzH.out; simpa using this
      have heq := hltH.out.trans (if_pos hz)
      have hof := hofH.out v10 _ htxA.out
      rw [← heq] at hof
      dsimp only [Tick.val] at hof
      have hofX := Lib.hid hof
      clear heq hof hz
      go_wp2_with fail
      refine hofX.out.mono ?_
      rintro e w11 ⟨rfl, hb⟩
      have hrt15 := Lib.hid (heap_below hb hrt14.out)
      have hrx15 := Lib.hid (heap_below hb hrx14.out)
      have hry15 := Lib.hid (heap_below hb hry14.out)
      have hb16 := Lib.hid (below_trans hb15.out hb)
      clear hb
      obtain ⟨⟨y0, y1, y2, y3, y4, y5⟩, f0, f1, f2, f3, f4, f5⟩ := tick_kept (Below.refl _ _) hry15.out
      go_wp2_with fail
      go_meet
      exact ⟨rfl, Lib.hid (row_other6 (n := w7.heap.size) hrx15.out (by omega) _ _ _ _ _ _), Lib.hid (row_set6 hry15.out _ _ _ _ _ _), Lib.hid (row_other6 (n := w7.heap.size) hrt15.out (by omega) _ _ _ _ _ _), Lib.hid (below_set6 (n := w7.heap.size) hb16.out (by omega) _ _ _ _ _ _)⟩
    | false =>
      have hz : ¬ lc = 0 := by have := hbzH.out; simpa using this
      have heq := hltH.out.trans (if_neg hz)
      have e1 := Lib.hid heq
      clear heq
      have hzH := Lib.hid hz
      clear hz
      go_wp2_with fail
      go_meet
      have heq := e1.out
      have ek : ld = lc := (Prod.mk.inj heq).2
      have et := (Prod.mk.inj heq).1
      have hry := hry14.out
      unfold noTick at et
      injection et with t0 t1 t2 t3 t4 t5
      refine ⟨by rw [ek], Lib.hid hrx14.out, Lib.hid ?_, Lib.hid hrt14.out, Lib.hid hb15.out⟩
      rw [t0, t1, t2, t3, t4, t5]
      exact hry
  obtain ⟨rfl, hrx16, hry16, hrt16, hb16⟩ := hcut
  generalize wc = w12 at *
  go_wp2_with fail
  refine (hco.out ld c5 _ hb16.out).mono ?_
  rintro e w13 ⟨rfl, hb⟩
  have hrt17 := Lib.hid (heap_below hb hrt16.out)
  have hrx17 := Lib.hid (heap_below hb hrx16.out)
  have hry17 := Lib.hid (heap_below hb hry16.out)
  have hb17 := Lib.hid (below_trans hb16.out hb)
  clear hb
  obtain ⟨⟨x0, x1, x2, x3, x4, x5⟩, _⟩ := tick_kept (Below.refl _ _) hrx17.out
  obtain ⟨⟨y0, y1, y2, y3, y4, y5⟩, _⟩ := tick_kept (Below.refl _ _) hry17.out
  obtain ⟨⟨b0, b1, b2, b3, b4, b5⟩, _⟩ := tick_kept (Below.refl _ _) hrt17.out
  go_wp2_with fail
  refine (hrnH.out _ hb17.out).mono ?_
  rintro e w14 ⟨rfl, hb⟩
  have hrt18 := Lib.hid (heap_below hb hrt17.out)
  have hrx18 := Lib.hid (heap_below hb hrx17.out)
  have hry18 := Lib.hid (heap_below hb hry17.out)
  have hb18 := Lib.hid (below_trans hb17.out hb)
  clear x0 x1 x2 x3 x4 x5 y0 y1 y2 y3 y4 y5 b0 b1 b2 b3 b4 b5 hb
  obtain ⟨⟨x0, x1, x2, x3, x4, x5⟩, f0, f1, f2, f3, f4, f5⟩ := tick_kept (Below.refl _ _) hrx18.out
  have hrx19 := Lib.hid (row_set6 hrx18.out (.string (bs r0)) (.string (bs r1)) (.int .i64 r2) (.int .i64 r3) (.int .i64 r4) (.int .i64 r5))
  have hry19 := Lib.hid (row_other6 (n := w6.heap.size) hry18.out (by omega) (.string (bs r0)) (.string (bs r1)) (.int .i64 r2) (.int .i64 r3) (.int .i64 r4) (.int .i64 r5))
  have hrt19 := Lib.hid (row_other6 (n := w6.heap.size) hrt18.out (by omega) (.string (bs r0)) (.string (bs r1)) (.int .i64 r2) (.int .i64 r3) (.int .i64 r4) (.int .i64 r5))
  have hb19 := Lib.hid (below_set6 (n := w6.heap.size) hb18.out (by omega) (.string (bs r0)) (.string (bs r1)) (.int .i64 r2) (.int .i64 r3) (.int .i64 r4) (.int .i64 r5))
  obtain ⟨⟨b0, b1, b2, b3, b4, b5⟩, _⟩ := tick_kept (Below.refl _ _) hrt18.out
  go_wp2_with fail
  refine (hrnRH.out _).mono ?_
  rintro e w15 ⟨rfl, hb⟩
  have hrt20 := Lib.hid (heap_below hb hrt19.out)
  have hrx20 := Lib.hid (heap_below hb hrx19.out)
  have hry20 := Lib.hid (heap_below hb hry19.out)
  have hb20 := Lib.hid (below_trans hb19.out hb)
  clear x0 x1 x2 x3 x4 x5 b0 b1 b2 b3 b4 b5 f0 f1 f2 f3 f4 f5 hb
  obtain ⟨⟨y0, y1, y2, y3, y4, y5⟩, f0, f1, f2, f3, f4, f5⟩ := tick_kept (Below.refl _ _) hry20.out
  have hry21 := Lib.hid (row_set6 hry20.out (.string (bs r0)) (.string (bs r1)) (.int .i64 r2) (.int .i64 r3) (.int .i64 r4) (.int .i64 r5))
  have hrx21 := Lib.hid (row_other6 (n := w7.heap.size) hrx20.out (by omega) (.string (bs r0)) (.string (bs r1)) (.int .i64 r2) (.int .i64 r3) (.int .i64 r4) (.int .i64 r5))
  have hb21 := Lib.hid (below_set6 (n := w7.heap.size) hb20.out (by omega) (.string (bs r0)) (.string (bs r1)) (.int .i64 r2) (.int .i64 r3) (.int .i64 r4) (.int .i64 r5))
  go_wp2_with fail
  refine (hco.out rc c6 _ hb21.out).mono ?_
  rintro e w16 ⟨rfl, hb⟩
  have hrx22 := Lib.hid (heap_below hb hrx21.out)
  have hry22 := Lib.hid (heap_below hb hry21.out)
  have hb22 := Lib.hid (below_trans hb21.out hb)
  clear y0 y1 y2 y3 y4 y5 f0 f1 f2 f3 f4 f5 hb
  obtain ⟨⟨x0, x1, x2, x3, x4, x5⟩, _⟩ := tick_kept (Below.refl _ _) hrx22.out
  obtain ⟨⟨y0, y1, y2, y3, y4, y5⟩, _⟩ := tick_kept (Below.refl _ _) hry22.out
  go_wp2_with fail
  go_ret
  exact ⟨rfl, hb22.out⟩
end Go.Proofs.YtgainbpflncgcaaGreatDoor
