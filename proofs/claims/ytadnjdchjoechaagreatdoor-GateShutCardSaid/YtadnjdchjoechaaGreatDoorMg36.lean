/- GateS -/
import Derived.Test.YtadnjdchjoechaaGreatDoorMg35
import Derived.Deep.CutBlock
/- GateShut: walked. -/
namespace Go.Proofs.YtadnjdchjoechaaGreatDoor
open Go.RowKit

theorem tick_ne_fol : (25 : TypeId) ≠ 92 := by decide
theorem tick_ne_ent : (25 : TypeId) ≠ 75 := by decide
theorem tick_ne_flo : (25 : TypeId) ≠ 73 := by decide
theorem tick_ne_gate : (25 : TypeId) ≠ 80 := by decide
/-- The law's ticket: for the door. -/
def dooredT (t : Tick) : Tick := ⟨t.who, doorN, t.epoch, t.beg, t.fin, t.serial⟩
/-- What a ticket's text answers, if it was made. -/
theorem made_ask {t : Tick} (hs : t.svc = doorN) (h : (makeT 5 t).2 = 0) (old : Int) (f : Fol) (now : Int) : (makeT 5 t).1.length ≤ 300 ∧ ((askG ⟨doorN, 5, old, f⟩ (makeT 5 t).1 now).2 = 0 ↔ (freshG ⟨doorN, 5, old, f⟩ now = 0 ∧ goodT t now = 0 ∧ ofF f.floors t.who ≤ t.epoch)) := by
  obtain ⟨hk, h1, h2⟩ := makeT_zero h
  rw [h2]
  dsimp only
  have := sealText_len7 5 h1
  exact ⟨by omega, askG_iff (g := ⟨doorN, 5, old, f⟩) (openT_make hk h1) hs⟩
set_option maxHeartbeats 64000000 in
set_option maxRecDepth 100000 in
theorem gateShut_any {E : Nat → Addr} (own old : Int) (v : Value) (L : List Ent) (vm : Value) (M : List Knock) (t : Tick) (w : World) (hL : LaidF E w) (hv : EntsAt w v L) (hm : ∀ e ∈ L, e.f.who.length ≤ maxLen) (hM : AtG knockC w vm M) (hmm : ∀ n ∈ M, n.kind.length ≤ maxLen ∧ n.s.length ≤ maxLen ∧ n.w.text.length ≤ maxLen) (hl : TickLen t) :
    Calls Tryz.prog 3 #[.int .i64 own, .int .i64 old, v, vm, t.val] w fun e w' => e = .returned (.bool true) ∧ Below w.heap.size w w' := by
  have hB : Below w.heap.size w (w.alloc (.cells t.cells 25)) := (Below.refl _ _).alloc (Nat.le_refl _) _
  have hbt := heap_alloc_new w (.cells t.cells 25)
  have hfo := Lib.hid (gated_any (E := E) _ (hL.below hB))
  have hEv := Lib.hid (fun wx (hx : Below w.heap.size w wx) => (show EntsAt wx v L from AtG.below hv hx))
  have hvH := Lib.hid hv
  have hMv := Lib.hid (fun wx (hx : Below w.heap.size w wx) => (show AtG knockC wx vm M from AtG.below hM hx))
  have hlg := Lib.hid (fun wx (hx : Below w.heap.size w wx) => long_ent v L wx (hEv.out wx hx) hm)
  have hln := Lib.hid (fun wx (hx : Below w.heap.size w wx) => longK_any vm M wx (hMv.out wx hx) hmm)
  have hlt := Lib.hid (fun wx => longTicket_any t wx hl)
  have hnt := Lib.hid (fun wx (hx : Below w.heap.size w wx) => newG_any (E := E) doorN 5 own old wx (hL.s.below hx).laid (by decide))
  have hmk := Lib.hid (fun wx (hx : Below w.heap.size w wx) => make_tick (E := E) 5 (dooredT t) wx (hL.below hx).s ⟨hl.1, (by decide : doorN.length ≤ maxLen)⟩)
  have hgd := Lib.hid (fun (q : Tick) x wx (hx : Below w.heap.size w wx) (hq : TickLen q) => good_tick (E := E) q x wx (hL.below hx).s.laid hq)
  have hmH := Lib.hid hm
  have hlH := Lib.hid hl
  have hlong := Lib.hid (show longT t = if 20 < t.who.length ∨ 20 < t.svc.length then 1 else 0 from rfl)
  have hmade := Lib.hid (fun h f now => made_ask (t := dooredT t) rfl h old f now)
  have hgt := Lib.hid (fun now => (show goodT (dooredT t) now = goodT (dooredT t) now from rfl))
  obtain ⟨a0, c0, hv0⟩ := AtG.sl hv
  obtain ⟨an, cn, hn0⟩ := AtG.sl hM
  have hml := AtG.len hv
  have hnl := AtG.len hM
  unfold maxLen at hml hnl
  subst hv0
  subst hn0
  have hLw := Lib.hid (fun wx (hx : Below w.heap.size w wx) => hL.below hx)
  obtain ⟨who, svc, ep, bg, fn, sr⟩ := t
  dsimp only [Tick.val, Tick.cells, dooredT] at *
  have hBH := Lib.hid hB
  have hbtH := Lib.hid (fun wx (hx : Below (w.alloc (.cells #[.string (bs who), .string (bs svc), .int .i64 ep, .int .i64 bg, .int .i64 fn, .int .i64 sr] 25)).heap.size (w.alloc (.cells #[.string (bs who), .string (bs svc), .int .i64 ep, .int .i64 bg, .int .i64 fn, .int .i64 sr] 25)) wx) => (show wx.heap[w.heap.size]? = some (.cells #[.string (bs who), .string (bs svc), .int .i64 ep, .int .i64 bg, .int .i64 fn, .int .i64 sr] 25 (0, 0)) from heap_below hx hbt))
  clear hL hm hv hM hmm hB hbt hl
  generalize longT ⟨who, svc, ep, bg, fn, sr⟩ = lt at *
  go_enter Tryz.func3, Tryz.ntmps3
  go_wp2_with fail
  refine hfo.out.mono ?_
  rintro e w1 ⟨rfl, hb1⟩
  have hA1 := Lib.hid hb1
  have hlg1 := hlg.out _ (below_trans hBH.out hb1)
  have hb1 := Lib.hid (below_trans hBH.out hb1)
  clear hfo hlg
  cases hlo : longE L with
  | true =>
    rw [show longEI L = 1 by unfold longEI; rw [if_pos hlo]] at hlg1
    have hlg1 := Lib.hid hlg1
    clear hlo
    go_wp2_with fail
    refine hlg1.out.mono ?_
    rintro e w2 ⟨rfl, hb2⟩
    have hb2 := Lib.hid (below_trans hb1.out hb2)
    go_wp2_with fail
    go_ret
    exact ⟨rfl, hb2.out⟩
  | false =>
  rw [show longEI L = 0 by unfold longEI; rw [if_neg (by rw [hlo]; decide)]] at hlg1
  have hlg1 := Lib.hid hlg1
  have hl61 := (longE_false hlo).1
  clear hlo
  go_wp2_with fail
  refine hlg1.out.mono ?_
  rintro e w2 ⟨rfl, hb2⟩
  have hA2 := Lib.hid (below_trans hA1.out hb2)
  have hb2 := Lib.hid (below_trans hb1.out hb2)
  have hln2 := hln.out _ hb2.out
  clear hlg1 hln
  cases hlo : longK M with
  | true =>
    rw [hlo] at hln2
    have hln2 := Lib.hid hln2
    clear hlo
    go_wp2_with fail
    refine hln2.out.mono ?_
    rintro e w3 ⟨rfl, rfl⟩
    go_wp2_with fail
    go_ret
    exact ⟨rfl, hb2.out⟩
  | false =>
  rw [hlo] at hln2
  have hln2 := Lib.hid hln2
  have hM40 := (longK_false hlo).1
  have hM200 := Lib.hid (longK_false hlo).2
  clear hlo
  go_wp2_with fail
  refine hln2.out.mono ?_
  rintro e w3 ⟨rfl, rfl⟩
  obtain ⟨⟨x0, x1, x2, x3, x4, x5⟩, _⟩ := tick_kept (Below.refl _ _) (hbtH.out _ hA2.out)
  clear hln2
  have hlt2 := hlt.out w2
  by_cases hlo : 20 < who.length ∨ 20 < svc.length
  · have hl1 : lt = 1 := by rw [hlong.out, if_pos hlo]
    rw [hl1] at hlt2
    have hlt2 := Lib.hid hlt2
    clear hlo hl1
    go_wp2_with fail
    refine hlt2.out.mono ?_
    rintro e w3 ⟨rfl, hb3⟩
    have hb3 := Lib.hid (below_trans hb2.out hb3)
    go_wp2_with fail
    go_ret
    exact ⟨rfl, hb3.out⟩
  have hl1 : lt = 0 := by rw [hlong.out, if_neg hlo]
  rw [hl1] at hlt2
  have hlt2 := Lib.hid hlt2
  clear hlo hl1
  go_wp2_with fail
  refine hlt2.out.mono ?_
  rintro e w3 ⟨rfl, hb3⟩
  have hA3 := Lib.hid (below_trans hA2.out hb3)
  have hb3 := Lib.hid (below_trans hb2.out hb3)
  clear x0 x1 x2 x3 x4 x5 hlt hlt2 hlong
  have hnt3 : Hid (Calls Tryz.prog 9 #[.string ⟨#[100, 111, 111, 114]⟩, .int .i64 5, .int .i64 own, .int .i64 old] w3 _) := Lib.hid (hnt.out _ hb3.out)
  clear hnt
  go_wp2_with fail
  refine hnt3.out.mono ?_
  rintro e w4 ⟨hor4, hb4⟩
  have hA4 := Lib.hid (below_trans hA3.out hb4)
  have hb4H := Lib.hid (below_trans hb3.out hb4)
  rcases hor4 with ⟨hz, rfl⟩ | ⟨hz, b, pf, rfl, hG4⟩
  · generalize newG doorN 5 own old = r at *
    obtain ⟨T1, y1, hev⟩ := errV_form E hz
    rw [hev]
    clear hev hb4 hz
    go_wp2_with fail
    go_ret
    exact ⟨rfl, hb4H.out⟩
  obtain ⟨_, _, _, ho0, ho1⟩ := newG_zero hz
  have hG4 := hG4.mono hb3.out.size
  obtain ⟨⟨x0, x1, x2, x3, x4, x5⟩, z0, z1, z2, z3, z4, z5⟩ := tick_kept (Below.refl _ _) (hbtH.out _ hA4.out)
  have hrow5 := Lib.hid (heap_setCell_same w4 w.heap.size 1 _ _ (.string ⟨#[100, 111, 111, 114]⟩) (hbtH.out _ hA4.out))
  have hrow5 : Hid ((w4.setCell ⟨w.heap.size, 1, none⟩ (.string ⟨#[100, 111, 111, 114]⟩)).heap[w.heap.size]? = some (.cells #[.string (bs who), .string ⟨#[100, 111, 111, 114]⟩, .int .i64 ep, .int .i64 bg, .int .i64 fn, .int .i64 sr] 25 (0, 0))) := hrow5
  have hG5 := Lib.hid (hG4.foreign2 (keeps_setCell (S := (· = w.heap.size)) w4 ⟨w.heap.size, 1, none⟩ (.string ⟨#[100, 111, 111, 114]⟩) rfl) (fun k e => by subst e; exact ⟨_, _, hbtH.out _ hA4.out, tick_ne_fol, tick_ne_ent, tick_ne_flo, tick_ne_gate⟩))
  have hK5 := Lib.hid (hb4H.out.setCell (p := ⟨w.heap.size, 1, none⟩) (Nat.le_refl _) (.string ⟨#[100, 111, 111, 114]⟩))
  clear hz hb4 hG4 hnt3 z0 z2 z3 z4 z5 x0 x2 x3 x4 x5
  go_upto_region 8 with fail
  generalize w4.setCell ⟨w.heap.size, 1, none⟩ (.string ⟨#[100, 111, 111, 114]⟩) = W5 at *
  clear x1 z1
  obtain ⟨⟨x0, x1, x2, x3, x4, x5⟩, _⟩ := tick_kept (Below.refl _ _) hrow5.out
  have hmk5 : Hid (Calls Tryz.prog 10 #[.int .i64 5, .agg #[.string (bs who), .string ⟨#[100, 111, 111, 114]⟩, .int .i64 ep, .int .i64 bg, .int .i64 fn, .int .i64 sr]] W5 _) := Lib.hid (hmk.out _ hK5.out)
  clear hmk
  go_wp2_with fail
  refine hmk5.out.mono ?_
  rintro e w6 ⟨rfl, hb6⟩
  have hK6 := Lib.hid (below_trans hK5.out hb6)
  have hG6 := Lib.hid (hG5.out.below hb6)
  have hrow6 := Lib.hid (heap_below hb6 hrow5.out)
  have hgk := Lib.hid (fun now wx (hx : Below w.heap.size w wx) => (show Calls Tryz.prog 17 #[.agg #[.string (bs who), .string ⟨#[100, 111, 111, 114]⟩, .int .i64 ep, .int .i64 bg, .int .i64 fn, .int .i64 sr], .int .i64 now] wx fun e w' => e = .returned (errV E (goodT ⟨who, doorN, ep, bg, fn, sr⟩ now)) ∧ Below wx.heap.size wx w' from hgd.out ⟨who, doorN, ep, bg, fn, sr⟩ now wx hx ⟨hlH.out.1, (by decide : doorN.length ≤ maxLen)⟩))
  clear hb6 x0 x1 x2 x3 x4 x5 hmk5
  generalize makeT 5 ⟨who, doorN, ep, bg, fn, sr⟩ = MT at *
  obtain ⟨txt, mc⟩ := MT
  dsimp only at hmade ⊢
  obtain ⟨ev, hev⟩ : ∃ ev, errV E mc = ev := ⟨_, rfl⟩
  rw [hev]
  have hev := Lib.hid hev
  have hTB := Lib.hid hlH.out.1
  go_wp2_with fail
  go_loopg [16] (M.length + 1) (fun g i wr => ∃ (j : Nat) (f : Fol), i = .int .i64 j ∧ j ≤ M.length ∧ M.length - j + 1 ≤ g ∧ Hid (FOk f) ∧ Hid (GateAt wr w.heap.size b pf ⟨doorN, 5, old, f⟩) ∧ Hid (wr.heap[w.heap.size]? = some (.cells #[.string (bs who), .string ⟨#[100, 111, 111, 114]⟩, .int .i64 ep, .int .i64 bg, .int .i64 fn, .int .i64 sr] 25 (0, 0))) ∧ Hid (Below w.heap.size w wr))
  case atStart => exact ⟨0, newFol own, rfl, Nat.zero_le _, by omega, Lib.hid (FOk.new own), hG6, hrow6, hK6⟩
  case round =>
    clear hG5 hK5 hG6 hK6 hrow5 hrow6 hb4H hb3 hb2 hb1 hA1 hA2 hA3 hA4
    obtain ⟨j, f, rfl, hj, hg, hOf, hS, hrow, hKw⟩ := hrel
    have hO := Lib.hid (show GOk ⟨doorN, 5, old, f⟩ from gok_of hOf.out ho0 ho1 (by decide))
    by_cases hlt : j < M.length
    · obtain ⟨_, _, he, _, _, _, hcs⟩ := hMv.out _ hKw.out
      cases he
      obtain ⟨bb, oo, rfl, hc⟩ := hcs j hlt
      have hn2 := hM200.out M[j] (List.getElem_mem hlt)
      generalize M[j] = nn at *
      obtain ⟨kd, ks, n, mn, fr, tm, ky, tx⟩ := nn
      obtain ⟨hn1, hn2⟩ : ks.length ≤ 200 ∧ tx.length ≤ 200 := hn2
      have d0 : wr.cell? ⟨bb, oo + j * 8, none⟩ = some (.string (bs kd)) := hc 0 _ rfl
      have d1 : wr.cell? ⟨bb, oo + j * 8 + 1, none⟩ = some (.string (bs ks)) := hc 1 _ rfl
      have d2 : wr.cell? ⟨bb, oo + j * 8 + 2, none⟩ = some (.int .i64 n) := hc 2 _ rfl
      have d3 : wr.cell? ⟨bb, oo + j * 8 + 3, none⟩ = some (.int .i64 mn) := hc 3 _ rfl
      have d4 : wr.cell? ⟨bb, oo + j * 8 + 4, none⟩ = some (.int .i64 fr) := hc 4 _ rfl
      have d5 : wr.cell? ⟨bb, oo + j * 8 + 5, none⟩ = some (.int .i64 tm) := hc 5 _ rfl
      have d6 : wr.cell? ⟨bb, oo + j * 8 + 6, none⟩ = some (.int .i64 ky) := hc 6 _ rfl
      have d7 : wr.cell? ⟨bb, oo + j * 8 + 7, none⟩ = some (.string (bs tx)) := hc 7 _ rfl
      clear hcs hc
      have hk0 : (0 : Int) ≤ (j : Int) := by omega
      have hk1 : (j : Int) < (M.length : Int) := by omega
      have hal1 := fun o => (show Below wr.heap.size wr (wr.alloc o) from (Below.refl _ _).alloc (Nat.le_refl _) o)
      have hKa := Lib.hid (fun o => below_trans hKw.out (hal1 o))
      have hSa := Lib.hid (fun o => hS.out.below (hal1 o))
      have hra := Lib.hid (fun o => heap_below (hal1 o) hrow.out)
      clear hal1
      go_upto_region 13 with fail
      generalize hWo : wr.alloc (.cells #[.string (bs kd), .string (bs ks), .int .i64 n, .int .i64 mn, .int .i64 fr, .int .i64 tm, .int .i64 ky, .string (bs tx)] 40) = W at *
      have hKW := Lib.hid (show Below w.heap.size w W by rw [← hWo]; exact hKa.out _)
      have hSW := Lib.hid (show GateAt W w.heap.size b pf ⟨doorN, 5, old, f⟩ by rw [← hWo]; exact hSa.out _)
      have hrW := Lib.hid (show W.heap[w.heap.size]? = some (.cells #[.string (bs who), .string ⟨#[100, 111, 111, 114]⟩, .int .i64 ep, .int .i64 bg, .int .i64 fn, .int .i64 sr] 25 (0, 0)) by rw [← hWo]; exact hra.out _)
      have hbx := heap_alloc_new wr (.cells #[.string (bs kd), .string (bs ks), .int .i64 n, .int .i64 mn, .int .i64 fr, .int .i64 tm, .int .i64 ky, .string (bs tx)] 40)
      rw [hWo] at hbx
      have hbxH := Lib.hid hbx
      generalize wr.heap.size = bxn at *
      obtain ⟨x0, x1, x2, x3, x4, x5, x6, x7⟩ := eight_cell hbx
      clear hKa hSa hra hWo hbx d0 d1 d2 d3 d4 d5 d6 d7 hS hKw hrow
      by_cases hpu : kd = [116, 97, 107, 101]
      · have e1 : ((bs kd).toList == [116, 97, 107, 101]) = true := by rw [hpu, toList_data]; rfl
        have e1b : (bs kd).toList = [116, 97, 107, 101] := by rw [hpu, toList_data]; rfl
        have hno := Lib.hid (newsOf_from w (.slice a0 L.length c0) L ⟨mn, fr, tm, ky, tx⟩ W hKW.out hvH.out hmH.out (by omega) (by unfold maxLen; dsimp only; omega))
        have hhl := Lib.hid (newsHead_le (L := L) (n := ⟨mn, fr, tm, ky, tx⟩) hn2)
        have hen := Lib.hid (newsEnts_le L ⟨mn, fr, tm, ky, tx⟩)
        have hnn := Lib.hid (newsEnts_names (L := L) (n := ⟨mn, fr, tm, ky, tx⟩) hmH.out)
        generalize newsHead L ⟨mn, fr, tm, ky, tx⟩ = hd at *
        generalize newsEnts L ⟨mn, fr, tm, ky, tx⟩ = ME at *
        dsimp only [News.val] at hno
        have hO' := Lib.hid (hOf.out.take hhl.out hnn.out)
        have hol := Lib.hid (show ME.length ≤ 1000 by have := hen.out; omega)
        have htg := Lib.hid (fun vx wx (hx : Below w.heap.size w wx) (h : GateAt wx w.heap.size b pf ⟨doorN, 5, old, f⟩) (hvx : EntsAt wx vx ME) => (show Calls Tryz.prog 12 #[.pointer (some ⟨b, 0, none⟩), .string (bs hd), vx] wx fun e w' => e = .returned (errV E (takeF f hd ME).1) ∧ FolAt w' w.heap.size pf (takeF f hd ME).2 ∧ Keeps (· = pf) wx w' from takeG_any (E := E) w.heap.size b pf ⟨doorN, 5, old, f⟩ hd vx ME wx (hLw.out _ hx).s h hOf.out hvx hnn.out hol.out hhl.out hx.size))
        generalize takeF f hd ME = TT at *
        obtain ⟨tc, F'⟩ := TT
        dsimp only at hO' htg
        clear hnn hhl hen hpu x1 x2 hbxH hn1 hn2
        go_wp2_with fail
        refine hno.out.mono ?_
        rintro e w5 ⟨⟨v5, rfl, hv5⟩, hb5⟩
        have hK5 := Lib.hid (below_trans hKW.out hb5)
        have hS5 := Lib.hid (hSW.out.below hb5)
        have hr5 := Lib.hid (heap_below hb5 hrW.out)
        have htg5 := Lib.hid (htg.out v5 _ hK5.out hS5.out (hv5 _ hK5.out))
        clear hb5 hv5 hno x0 x3 x4 x5 x6 x7 htg
        go_wp2_with fail
        refine htg5.out.mono ?_
        rintro e w7 ⟨rfl, hF7, hkk7⟩
        have hK7 := Lib.hid (below_keeps hK5.out hF7.1 hkk7)
        have hS7 := Lib.hid (hS5.out.take hF7 hkk7)
        have hr7 := Lib.hid (hkk7.obj hr5.out (fun e => by
          obtain ⟨cs, h1⟩ := hS5.out.fol.blk
          have h2 := hr5.out
          rw [e, h1] at h2
          injection h2 with h2
          injection h2 with _ h2 _
          exact tick_ne_fol h2.symm))
        clear hF7 hkk7 htg5
        go_wp2_with fail
        go_roundg (M.length - j)
        case measure => omega
        case rel => exact ⟨j + 1, F', by simp, hlt, by omega, hO', hS7, hr7, hK7⟩
      have e1 : ((bs kd).toList == [116, 97, 107, 101]) = false := by rw [toList_data, bs_list, beq_eq_false_iff_ne]; exact hpu
      have e1b : ¬ (bs kd).toList = [116, 97, 107, 101] := by rw [toList_data, bs_list]; exact hpu
      have hfw := Lib.hid (follower_any w.heap.size b pf ⟨doorN, 5, old, f⟩ W hSW.out hOf.out)
      have has := Lib.hid (fun s wx (hx : Below w.heap.size w wx) (h : GateAt wx w.heap.size b pf ⟨doorN, 5, old, f⟩) (hs : s.length ≤ 1000000) => ask_any (E := E) w.heap.size b pf ⟨doorN, 5, old, f⟩ s n wx (hLw.out _ hx).s h hO.out hs)
      have hfr := Lib.hid (fun wx (hx : Below w.heap.size w wx) (h : GateAt wx w.heap.size b pf ⟨doorN, 5, old, f⟩) => fresh_any (E := E) w.heap.size b pf ⟨doorN, 5, old, f⟩ n wx (hLw.out _ hx).s.laid h hO.out)
      have hps := Lib.hid (fun v nm e0 wx (hv : FloorsAt wx v f.floors) => passes_flo v f.floors nm e0 wx hv (fun g hg => who_len ((floorsE_good (L := f.l) (by rw [hOf.out.ok.ok])).g.one g (by rw [hOf.out.ok.ok]; exact hg))))
      have hfl0 := Lib.hid (show f.floors.length ≤ 1000 by have := hOf.out.fl; omega)
      clear hpu x3 x4 x5 x6 x7 hn2
      go_wp2_with fail
      refine hfw.out.mono ?_
      rintro e w5 ⟨b5, rfl, hF5, hb5⟩
      have hK5 := Lib.hid (below_trans hKW.out hb5)
      have hS5 := Lib.hid (hSW.out.below hb5)
      have hr5 := Lib.hid (heap_below hb5 hrW.out)
      have hx5 := heap_below hb5 hbxH.out
      have hF5 := Lib.hid hF5
      clear hb5 hfw x0 x1 x2
      have hBw := Lib.hid (fun wx (hx : Below w5.heap.size w5 wx) => below_trans hK5.out hx)
      have hSw := Lib.hid (fun wx (hx : Below w5.heap.size w5 wx) => hS5.out.below hx)
      have hrw := Lib.hid (fun wx (hx : Below w5.heap.size w5 wx) => heap_below hx hr5.out)
      have hxw := Lib.hid (fun wx (hx : Below w5.heap.size w5 wx) => (show wx.cell? ⟨bxn, 1, none⟩ = some (.string (bs ks)) ∧ wx.cell? ⟨bxn, 2, none⟩ = some (.int .i64 n) from ⟨(eight_cell (heap_below hx hx5)).2.1, (eight_cell (heap_below hx hx5)).2.2.1⟩))
      have htmw := Lib.hid (fun wx (hx : Below w5.heap.size w5 wx) => time_fol _ b5 f wx (hF5.out.below hx))
      have hflw := Lib.hid (fun wx (hx : Below w5.heap.size w5 wx) => floors_fol _ b5 f wx (hF5.out.below hx) hfl0.out)
      clear hx5
      go_upto_region 19 with fail
      go_cut [89] from 88 to 89 (fun s89 wx => s89 = .bool (decide (mc = 0)) ∧ w5 = wx)
      case first =>
        by_cases hmc : mc = 0
        · obtain rfl : ev = .nilIface := by rw [← hev.out, hmc, errV_zero]
          have hdH := Lib.hid (show decide (mc = 0) = true from decide_eq_true hmc)
          clear hmc
          go_wp2_with fail
          go_meet
          exact ⟨by rw [hdH.out], rfl⟩
        · obtain ⟨T1, q1, hev2⟩ := errV_form E hmc
          obtain rfl : ev = .iface T1 q1 := by rw [← hev.out, hev2]
          have hdH := Lib.hid (show decide (mc = 0) = false from decide_eq_false hmc)
          clear hev2 hmc
          go_wp2_with fail
          go_meet
          exact ⟨by rw [hdH.out], rfl⟩
      obtain ⟨rfl, rfl⟩ := hcut
      obtain ⟨bz, hbz⟩ : ∃ bz, decide (mc = 0) = bz := ⟨_, rfl⟩
      rw [hbz]
      have hbz := Lib.hid hbz
      go_upto_if 89 with fail
      go_cut [21, 22, 23] from 90 to 146 (fun _ _ _ wx => Hid (Below w5.heap.size w5 wx))
      case first =>
        cases bz with
        | false =>
          go_wp2_with fail
          go_meet
          exact Lib.hid (Below.refl _ _)
        | true =>
        obtain ⟨y1, y2⟩ := hxw.out _ (Below.refl _ _)
        have hmc : mc = 0 := of_decide_eq_true hbz.out
        obtain ⟨htl, hiff⟩ := hmade.out hmc f n
        have has5 := has.out txt _ hK5.out hS5.out (by omega)
        have hfresh : freshG ⟨doorN, 5, old, f⟩ n = if n < 0 ∨ 1000000 < n then 2 else if f.time < 0 ∨ f.time < n - old then 14 else 0 := rfl
        generalize hac : askG ⟨doorN, 5, old, f⟩ txt n = R at *
        unfold AskRes at has5
        obtain ⟨⟨rw1, rw2, rw3, rw4, rw5, rw6⟩, ac⟩ := R
        dsimp only [Tick.val] at has5 hiff
        have has5 := Lib.hid has5
        obtain ⟨ea, hea⟩ : ∃ ea, errV E ac = ea := ⟨_, rfl⟩
        rw [hea] at has5
        have hea := Lib.hid hea
        have hiff := Lib.hid hiff
        have hfresh := Lib.hid hfresh
        clear hmc hac
        go_wp2_with fail
        refine has5.out.mono ?_
        rintro e w6 ⟨rfl, hb6⟩
        have hA6 := hb6.alloc hb6.size (.cells #[.string (bs rw1), .string (bs rw2), .int .i64 rw3, .int .i64 rw4, .int .i64 rw5, .int .i64 rw6] 25)
        have hC6 := Lib.hid hA6
        have hfr6 := hfr.out _ (hBw.out _ hA6) (hSw.out _ hA6)
        clear hb6 hA6 y1 y2 has5
        go_upto_region 21 with fail
        generalize w6.alloc (.cells #[.string (bs rw1), .string (bs rw2), .int .i64 rw3, .int .i64 rw4, .int .i64 rw5, .int .i64 rw6] 25) = W6 at *
        obtain ⟨y1, y2⟩ := hxw.out _ hC6.out
        generalize freshG ⟨doorN, 5, old, f⟩ n = fc at *
        obtain ⟨ef, hef⟩ : ∃ ef, errV E fc = ef := ⟨_, rfl⟩
        rw [hef] at hfr6
        have hfr6 := Lib.hid hfr6
        have hfcb : Hid ((fc = 0 ∧ ef = .nilIface) ∨ (fc ≠ 0 ∧ ∃ T x, ef = .iface T x)) := Lib.hid (by
          by_cases h : fc = 0
          · exact .inl ⟨h, by rw [← hef, h, errV_zero]⟩
          · obtain ⟨T, x, h2⟩ := errV_form E h
            exact .inr ⟨h, T, x, by rw [← hef, h2]⟩)
        clear hef
        go_cut [23] from 98 to 102 (fun s23 wx => s23 = .bool (decide (fc = 0)) ∧ Hid (Below w5.heap.size w5 wx))
        case first =>
          rcases hfcb.out with ⟨h, rfl⟩ | ⟨h, T, q, rfl⟩
          · have hdH := Lib.hid (show decide (fc = 0) = true from decide_eq_true h)
            clear h
            go_wp2_with fail
            refine hfr6.out.mono ?_
            rintro e w7 ⟨rfl, hb7⟩
            have hC7 := Lib.hid (below_trans hC6.out hb7)
            clear hb7
            go_wp2_with fail
            go_meet
            exact ⟨by rw [hdH.out], hC7⟩
          · have hdH := Lib.hid (show decide (fc = 0) = false from decide_eq_false h)
            clear h
            go_wp2_with fail
            refine hfr6.out.mono ?_
            rintro e w7 ⟨rfl, hb7⟩
            have hC7 := Lib.hid (below_trans hC6.out hb7)
            clear hb7
            go_wp2_with fail
            go_meet
            exact ⟨by rw [hdH.out], hC7⟩
        obtain ⟨rfl, hC7⟩ := hcut
        clear y1 y2 hfr6 hfcb
        by_cases hfc0 : fc = 0
        case neg =>
          rw [show decide (fc = 0) = false from decide_eq_false hfc0]
          go_upto_region 22 with fail
          go_cut [126] from 103 to 126 (fun s126 wx => s126 = .bool false ∧ Hid (Below w5.heap.size w5 wx))
          case first =>
            generalize wc = W7 at *
            have hkS := Lib.hid (fun wx (hx : Below W7.heap.size W7 wx) => (hxw.out _ (below_trans hC7.out hx)).2)
            have hD0 := Lib.hid (show Below W7.heap.size W7 W7.drew from (Below.refl _ _).drew)
            have hcD := hkS.out _ hD0.out
            have htm7 := Lib.hid (fun wx (hx : Below W7.heap.size W7 wx) => htmw.out _ (below_trans hC7.out hx))
            have hfr0 := hfresh.out
            generalize f.time = ft at *
            clear hfresh
            by_cases h1 : n < 0
            · have hn0 : decide ((0 : Int) ≤ n) = false := decide_eq_false (by omega)
              clear hfr0 h1 hfc0
              refine wp_region_noPanic ?_
              refine wp_region_held_drew (S := fun wx => wx.cell? ⟨bxn, 2, none⟩ = some (.int .i64 n)) (by kernel_rfl) ?_ (fun hHeld => ?_)
              · exact hcD
              refine' held_take (i := 0) (d := some 103) (v := _) rfl rfl (by kernel_rfl) (by kernel_rfl) (by kernel_rfl) (fun _ _ _ h => h) rfl (by assumption) ?hy_55 ?re_55
              case hy_55 =>
                intro w hSw
                try dsimp only at hSw
                go_simp
                try with_reducible rfl
              simp only [Act.put, List.setIfInBounds_toArray, List.set_cons_zero, List.set_cons_succ]
              refine' held_take (i := 1) (d := some 104) (v := _) rfl rfl (by kernel_rfl) (by kernel_rfl) (by kernel_rfl) (fun _ _ _ h => h) rfl (by assumption) ?hy_56 ?re_56
              case hy_56 =>
                intro w hSw
                try dsimp only at hSw
                go_simp
                try with_reducible rfl
              simp only [Act.put, List.setIfInBounds_toArray, List.set_cons_zero, List.set_cons_succ]
              refine' held_take (i := 2) (d := some 105) (v := _) rfl rfl (by kernel_rfl) (by kernel_rfl) (by kernel_rfl) (fun _ _ _ h => h) rfl (by assumption) ?hy_57 ?re_57
              case hy_57 =>
                intro w hSw
                try dsimp only at hSw
                go_simp
                try with_reducible rfl
              simp only [Act.put, List.setIfInBounds_toArray, List.set_cons_zero, List.set_cons_succ]
              refine' held_take (i := 3) (d := some 106) (v := _) rfl rfl (by kernel_rfl) (by kernel_rfl) (by kernel_rfl) (fun _ _ _ h => h) rfl (by assumption) ?hy_58 ?re_58
              case hy_58 =>
                intro w hSw
                try dsimp only at hSw
                go_simp
                try with_reducible rfl
              simp only [Act.put, List.setIfInBounds_toArray, List.set_cons_zero, List.set_cons_succ]
              try simp only [hn0, ge_iff_le, reduceCtorEq, ne_eq, not_true_eq_false, not_false_eq_true, decide_false, decide_true, bne_self_eq_false, beq_self_eq_true, Bool.not_true, Bool.not_false]
              refine' held_take (i := 4) (d := some 107) (v := _) rfl rfl (by kernel_rfl) (by kernel_rfl) (by kernel_rfl) (fun _ _ _ h => h) rfl (by assumption) ?hy_59 ?re_59
              case hy_59 =>
                intro w hSw
                try dsimp only at hSw
                go_simp
                try with_reducible rfl
              simp only [Act.put, List.setIfInBounds_toArray, List.set_cons_zero, List.set_cons_succ]
              refine held_skip (i := 5) (d := some 108) rfl rfl (by kernel_rfl) (by kernel_rfl) (by kernel_rfl) (fun _ _ _ h => h) rfl (by assumption) ?_
              simp only [Act.put, List.setIfInBounds_toArray, List.set_cons_zero, List.set_cons_succ]
              refine held_skip (i := 6) (d := some 109) rfl rfl (by kernel_rfl) (by kernel_rfl) (by kernel_rfl) (fun _ _ _ h => h) rfl (by assumption) ?_
              simp only [Act.put, List.setIfInBounds_toArray, List.set_cons_zero, List.set_cons_succ]
              refine held_skip (i := 7) (d := some 110) rfl rfl (by kernel_rfl) (by kernel_rfl) (by kernel_rfl) (fun _ _ _ h => h) rfl (by assumption) ?_
              simp only [Act.put, List.setIfInBounds_toArray, List.set_cons_zero, List.set_cons_succ]
              refine' held_take (i := 8) (d := some 111) (v := _) rfl rfl (by kernel_rfl) (by kernel_rfl) (by kernel_rfl) (fun _ _ _ h => h) rfl (by assumption) ?hy_60 ?re_60
              case hy_60 =>
                intro w hSw
                try dsimp only at hSw
                go_simp
                try with_reducible rfl
              simp only [Act.put, List.setIfInBounds_toArray, List.set_cons_zero, List.set_cons_succ]
              refine' held_take (i := 9) (d := some 112) (v := _) rfl rfl (by kernel_rfl) (by kernel_rfl) (by kernel_rfl) (fun _ _ _ h => h) rfl (by assumption) ?hy_61 ?re_61
              case hy_61 =>
                intro w hSw
                try dsimp only at hSw
                go_simp
                try with_reducible rfl
              simp only [Act.put, List.setIfInBounds_toArray, List.set_cons_zero, List.set_cons_succ]
              refine held_skip (i := 10) (d := some 113) rfl rfl (by kernel_rfl) (by kernel_rfl) (by kernel_rfl) (fun _ _ _ h => h) rfl (by assumption) ?_
              simp only [Act.put, List.setIfInBounds_toArray, List.set_cons_zero, List.set_cons_succ]
              refine held_skip (i := 11) (d := some 114) rfl rfl (by kernel_rfl) (by kernel_rfl) (by kernel_rfl) (fun _ _ _ h => h) rfl (by assumption) ?_
              simp only [Act.put, List.setIfInBounds_toArray, List.set_cons_zero, List.set_cons_succ]
              refine held_skip (i := 12) (d := some 115) rfl rfl (by kernel_rfl) (by kernel_rfl) (by kernel_rfl) (fun _ _ _ h => h) rfl (by assumption) ?_
              simp only [Act.put, List.setIfInBounds_toArray, List.set_cons_zero, List.set_cons_succ]
              refine' held_take (i := 13) (d := some 116) (v := _) rfl rfl (by kernel_rfl) (by kernel_rfl) (by kernel_rfl) (fun _ _ _ h => h) rfl (by assumption) ?hy_62 ?re_62
              case hy_62 =>
                intro w hSw
                try dsimp only at hSw
                go_simp
                try with_reducible rfl
              simp only [Act.put, List.setIfInBounds_toArray, List.set_cons_zero, List.set_cons_succ]
              refine' held_take (i := 14) (d := some 117) (v := _) rfl rfl (by kernel_rfl) (by kernel_rfl) (by kernel_rfl) (fun _ _ _ h => h) rfl (by assumption) ?hy_63 ?re_63
              case hy_63 =>
                intro w hSw
                try dsimp only at hSw
                go_simp
                try with_reducible rfl
              simp only [Act.put, List.setIfInBounds_toArray, List.set_cons_zero, List.set_cons_succ]
              refine held_skip (i := 15) (d := some 118) rfl rfl (by kernel_rfl) (by kernel_rfl) (by kernel_rfl) (fun _ _ _ h => h) rfl (by assumption) ?_
              simp only [Act.put, List.setIfInBounds_toArray, List.set_cons_zero, List.set_cons_succ]
              refine held_skip (i := 16) (d := some 119) rfl rfl (by kernel_rfl) (by kernel_rfl) (by kernel_rfl) (fun _ _ _ h => h) rfl (by assumption) ?_
              simp only [Act.put, List.setIfInBounds_toArray, List.set_cons_zero, List.set_cons_succ]
              refine held_skip (i := 17) (d := some 120) rfl rfl (by kernel_rfl) (by kernel_rfl) (by kernel_rfl) (fun _ _ _ h => h) rfl (by assumption) ?_
              simp only [Act.put, List.setIfInBounds_toArray, List.set_cons_zero, List.set_cons_succ]
              refine held_skip (i := 18) (d := some 121) rfl rfl (by kernel_rfl) (by kernel_rfl) (by kernel_rfl) (fun _ _ _ h => h) rfl (by assumption) ?_
              simp only [Act.put, List.setIfInBounds_toArray, List.set_cons_zero, List.set_cons_succ]
              refine held_skip (i := 19) (d := some 122) rfl rfl (by kernel_rfl) (by kernel_rfl) (by kernel_rfl) (fun _ _ _ h => h) rfl (by assumption) ?_
              simp only [Act.put, List.setIfInBounds_toArray, List.set_cons_zero, List.set_cons_succ]
              refine held_skip (i := 20) (d := some 123) rfl rfl (by kernel_rfl) (by kernel_rfl) (by kernel_rfl) (fun _ _ _ h => h) rfl (by assumption) ?_
              simp only [Act.put, List.setIfInBounds_toArray, List.set_cons_zero, List.set_cons_succ]
              refine held_skip (i := 21) (d := some 124) rfl rfl (by kernel_rfl) (by kernel_rfl) (by kernel_rfl) (fun _ _ _ h => h) rfl (by assumption) ?_
              simp only [Act.put, List.setIfInBounds_toArray, List.set_cons_zero, List.set_cons_succ]
              refine' held_take (i := 22) (d := some 125) (v := _) rfl rfl (by kernel_rfl) (by kernel_rfl) (by kernel_rfl) (fun _ _ _ h => h) rfl (by assumption) ?hy_64 ?re_64
              case hy_64 =>
                intro w hSw
                try dsimp only at hSw
                go_simp
                try with_reducible rfl
              simp only [Act.put, List.setIfInBounds_toArray, List.set_cons_zero, List.set_cons_succ]
              refine' held_take (i := 23) (d := some 126) (v := _) rfl rfl (by kernel_rfl) (by kernel_rfl) (by kernel_rfl) (fun _ _ _ h => h) rfl (by assumption) ?hy_65 ?re_65
              case hy_65 =>
                intro w hSw
                try dsimp only at hSw
                go_simp
                try with_reducible rfl
              simp only [Act.put, List.setIfInBounds_toArray, List.set_cons_zero, List.set_cons_succ]
              try simp only [reduceCtorEq, ne_eq, not_true_eq_false, not_false_eq_true, decide_false, decide_true, bne_self_eq_false, beq_self_eq_true, Bool.not_true, Bool.not_false]
              refine wpAnyH_done (by kernel_rfl) ?_ _
              refine NoPanic.normal ?_
              have hfin := Lib.hid (below_trans hC7.out hD0.out)
              go_wp2_with fail
              go_meet
              exact ⟨rfl, hfin⟩
            have hn0 : decide ((0 : Int) ≤ n) = true := decide_eq_true (by omega)
            by_cases h2 : 1000000 < n
            · have hn1 : decide (n ≤ (1000000 : Int)) = false := decide_eq_false (by omega)
              clear hfr0 h1 h2 hfc0
              refine wp_region_noPanic ?_
              refine wp_region_held_drew (S := fun wx => wx.cell? ⟨bxn, 2, none⟩ = some (.int .i64 n)) (by kernel_rfl) ?_ (fun hHeld => ?_)
              · exact hcD
              refine' held_take (i := 0) (d := some 103) (v := _) rfl rfl (by kernel_rfl) (by kernel_rfl) (by kernel_rfl) (fun _ _ _ h => h) rfl (by assumption) ?hy_66 ?re_66
              case hy_66 =>
                intro w hSw
                try dsimp only at hSw
                go_simp
                try with_reducible rfl
              simp only [Act.put, List.setIfInBounds_toArray, List.set_cons_zero, List.set_cons_succ]
              refine' held_take (i := 1) (d := some 104) (v := _) rfl rfl (by kernel_rfl) (by kernel_rfl) (by kernel_rfl) (fun _ _ _ h => h) rfl (by assumption) ?hy_67 ?re_67
              case hy_67 =>
                intro w hSw
                try dsimp only at hSw
                go_simp
                try with_reducible rfl
              simp only [Act.put, List.setIfInBounds_toArray, List.set_cons_zero, List.set_cons_succ]
              refine' held_take (i := 2) (d := some 105) (v := _) rfl rfl (by kernel_rfl) (by kernel_rfl) (by kernel_rfl) (fun _ _ _ h => h) rfl (by assumption) ?hy_68 ?re_68
              case hy_68 =>
                intro w hSw
                try dsimp only at hSw
                go_simp
                try with_reducible rfl
              simp only [Act.put, List.setIfInBounds_toArray, List.set_cons_zero, List.set_cons_succ]
              refine' held_take (i := 3) (d := some 106) (v := _) rfl rfl (by kernel_rfl) (by kernel_rfl) (by kernel_rfl) (fun _ _ _ h => h) rfl (by assumption) ?hy_69 ?re_69
              case hy_69 =>
                intro w hSw
                try dsimp only at hSw
                go_simp
                try with_reducible rfl
              simp only [Act.put, List.setIfInBounds_toArray, List.set_cons_zero, List.set_cons_succ]
              try simp only [hn0, ge_iff_le, reduceCtorEq, ne_eq, not_true_eq_false, not_false_eq_true, decide_false, decide_true, bne_self_eq_false, beq_self_eq_true, Bool.not_true, Bool.not_false]
              refine' held_take (i := 4) (d := some 107) (v := _) rfl rfl (by kernel_rfl) (by kernel_rfl) (by kernel_rfl) (fun _ _ _ h => h) rfl (by assumption) ?hy_70 ?re_70
              case hy_70 =>
                intro w hSw
                try dsimp only at hSw
                go_simp
                try with_reducible rfl
              simp only [Act.put, List.setIfInBounds_toArray, List.set_cons_zero, List.set_cons_succ]
              refine' held_take (i := 5) (d := some 108) (v := _) rfl rfl (by kernel_rfl) (by kernel_rfl) (by kernel_rfl) (fun _ _ _ h => h) rfl (by assumption) ?hy_71 ?re_71
              case hy_71 =>
                intro w hSw
                try dsimp only at hSw
                go_simp
                try with_reducible rfl
              simp only [Act.put, List.setIfInBounds_toArray, List.set_cons_zero, List.set_cons_succ]
              refine' held_take (i := 6) (d := some 109) (v := _) rfl rfl (by kernel_rfl) (by kernel_rfl) (by kernel_rfl) (fun _ _ _ h => h) rfl (by assumption) ?hy_72 ?re_72
              case hy_72 =>
                intro w hSw
                try dsimp only at hSw
                go_simp
                try with_reducible rfl
              simp only [Act.put, List.setIfInBounds_toArray, List.set_cons_zero, List.set_cons_succ]
              refine' held_take (i := 7) (d := some 110) (v := _) rfl rfl (by kernel_rfl) (by kernel_rfl) (by kernel_rfl) (fun _ _ _ h => h) rfl (by assumption) ?hy_73 ?re_73
              case hy_73 =>
                intro w hSw
                try dsimp only at hSw
                go_simp
                try with_reducible rfl
              simp only [Act.put, List.setIfInBounds_toArray, List.set_cons_zero, List.set_cons_succ]
              try simp only [hn1, ge_iff_le, reduceCtorEq, ne_eq, not_true_eq_false, not_false_eq_true, decide_false, decide_true, bne_self_eq_false, beq_self_eq_true, Bool.not_true, Bool.not_false]
              refine' held_take (i := 8) (d := some 111) (v := _) rfl rfl (by kernel_rfl) (by kernel_rfl) (by kernel_rfl) (fun _ _ _ h => h) rfl (by assumption) ?hy_74 ?re_74
              case hy_74 =>
                intro w hSw
                try dsimp only at hSw
                go_simp
                try with_reducible rfl
              simp only [Act.put, List.setIfInBounds_toArray, List.set_cons_zero, List.set_cons_succ]
              refine' held_take (i := 9) (d := some 112) (v := _) rfl rfl (by kernel_rfl) (by kernel_rfl) (by kernel_rfl) (fun _ _ _ h => h) rfl (by assumption) ?hy_75 ?re_75
              case hy_75 =>
                intro w hSw
                try dsimp only at hSw
                go_simp
                try with_reducible rfl
              simp only [Act.put, List.setIfInBounds_toArray, List.set_cons_zero, List.set_cons_succ]
              refine held_skip (i := 10) (d := some 113) rfl rfl (by kernel_rfl) (by kernel_rfl) (by kernel_rfl) (fun _ _ _ h => h) rfl (by assumption) ?_
              simp only [Act.put, List.setIfInBounds_toArray, List.set_cons_zero, List.set_cons_succ]
              refine held_skip (i := 11) (d := some 114) rfl rfl (by kernel_rfl) (by kernel_rfl) (by kernel_rfl) (fun _ _ _ h => h) rfl (by assumption) ?_
              simp only [Act.put, List.setIfInBounds_toArray, List.set_cons_zero, List.set_cons_succ]
              refine held_skip (i := 12) (d := some 115) rfl rfl (by kernel_rfl) (by kernel_rfl) (by kernel_rfl) (fun _ _ _ h => h) rfl (by assumption) ?_
              simp only [Act.put, List.setIfInBounds_toArray, List.set_cons_zero, List.set_cons_succ]
              refine' held_take (i := 13) (d := some 116) (v := _) rfl rfl (by kernel_rfl) (by kernel_rfl) (by kernel_rfl) (fun _ _ _ h => h) rfl (by assumption) ?hy_76 ?re_76
              case hy_76 =>
                intro w hSw
                try dsimp only at hSw
                go_simp
                try with_reducible rfl
              simp only [Act.put, List.setIfInBounds_toArray, List.set_cons_zero, List.set_cons_succ]
              refine' held_take (i := 14) (d := some 117) (v := _) rfl rfl (by kernel_rfl) (by kernel_rfl) (by kernel_rfl) (fun _ _ _ h => h) rfl (by assumption) ?hy_77 ?re_77
              case hy_77 =>
                intro w hSw
                try dsimp only at hSw
                go_simp
                try with_reducible rfl
              simp only [Act.put, List.setIfInBounds_toArray, List.set_cons_zero, List.set_cons_succ]
              refine held_skip (i := 15) (d := some 118) rfl rfl (by kernel_rfl) (by kernel_rfl) (by kernel_rfl) (fun _ _ _ h => h) rfl (by assumption) ?_
              simp only [Act.put, List.setIfInBounds_toArray, List.set_cons_zero, List.set_cons_succ]
              refine held_skip (i := 16) (d := some 119) rfl rfl (by kernel_rfl) (by kernel_rfl) (by kernel_rfl) (fun _ _ _ h => h) rfl (by assumption) ?_
              simp only [Act.put, List.setIfInBounds_toArray, List.set_cons_zero, List.set_cons_succ]
              refine held_skip (i := 17) (d := some 120) rfl rfl (by kernel_rfl) (by kernel_rfl) (by kernel_rfl) (fun _ _ _ h => h) rfl (by assumption) ?_
              simp only [Act.put, List.setIfInBounds_toArray, List.set_cons_zero, List.set_cons_succ]
              refine held_skip (i := 18) (d := some 121) rfl rfl (by kernel_rfl) (by kernel_rfl) (by kernel_rfl) (fun _ _ _ h => h) rfl (by assumption) ?_
              simp only [Act.put, List.setIfInBounds_toArray, List.set_cons_zero, List.set_cons_succ]
              refine held_skip (i := 19) (d := some 122) rfl rfl (by kernel_rfl) (by kernel_rfl) (by kernel_rfl) (fun _ _ _ h => h) rfl (by assumption) ?_
              simp only [Act.put, List.setIfInBounds_toArray, List.set_cons_zero, List.set_cons_succ]
              refine held_skip (i := 20) (d := some 123) rfl rfl (by kernel_rfl) (by kernel_rfl) (by kernel_rfl) (fun _ _ _ h => h) rfl (by assumption) ?_
              simp only [Act.put, List.setIfInBounds_toArray, List.set_cons_zero, List.set_cons_succ]
              refine held_skip (i := 21) (d := some 124) rfl rfl (by kernel_rfl) (by kernel_rfl) (by kernel_rfl) (fun _ _ _ h => h) rfl (by assumption) ?_
              simp only [Act.put, List.setIfInBounds_toArray, List.set_cons_zero, List.set_cons_succ]
              refine' held_take (i := 22) (d := some 125) (v := _) rfl rfl (by kernel_rfl) (by kernel_rfl) (by kernel_rfl) (fun _ _ _ h => h) rfl (by assumption) ?hy_78 ?re_78
              case hy_78 =>
                intro w hSw
                try dsimp only at hSw
                go_simp
                try with_reducible rfl
              simp only [Act.put, List.setIfInBounds_toArray, List.set_cons_zero, List.set_cons_succ]
              refine' held_take (i := 23) (d := some 126) (v := _) rfl rfl (by kernel_rfl) (by kernel_rfl) (by kernel_rfl) (fun _ _ _ h => h) rfl (by assumption) ?hy_79 ?re_79
              case hy_79 =>
                intro w hSw
                try dsimp only at hSw
                go_simp
                try with_reducible rfl
              simp only [Act.put, List.setIfInBounds_toArray, List.set_cons_zero, List.set_cons_succ]
              try simp only [reduceCtorEq, ne_eq, not_true_eq_false, not_false_eq_true, decide_false, decide_true, bne_self_eq_false, beq_self_eq_true, Bool.not_true, Bool.not_false]
              refine wpAnyH_done (by kernel_rfl) ?_ _
              refine NoPanic.normal ?_
              have hfin := Lib.hid (below_trans hC7.out hD0.out)
              go_wp2_with fail
              go_meet
              exact ⟨rfl, hfin⟩
            have hn1 : decide (n ≤ (1000000 : Int)) = true := decide_eq_true (by omega)
            rw [if_neg (by omega)] at hfr0
            by_cases h3 : ft < 0
            · have ht0 : decide ((0 : Int) ≤ ft) = false := decide_eq_false (by omega)
              clear hfr0 h1 h2 h3 hfc0
              refine wp_region_noPanic ?_
              refine wp_region_held_drew (S := fun wx => wx.cell? ⟨bxn, 2, none⟩ = some (.int .i64 n)) (by kernel_rfl) ?_ (fun hHeld => ?_)
              · exact hcD
              refine' held_take (i := 0) (d := some 103) (v := _) rfl rfl (by kernel_rfl) (by kernel_rfl) (by kernel_rfl) (fun _ _ _ h => h) rfl (by assumption) ?hy_80 ?re_80
              case hy_80 =>
                intro w hSw
                try dsimp only at hSw
                go_simp
                try with_reducible rfl
              simp only [Act.put, List.setIfInBounds_toArray, List.set_cons_zero, List.set_cons_succ]
              refine' held_take (i := 1) (d := some 104) (v := _) rfl rfl (by kernel_rfl) (by kernel_rfl) (by kernel_rfl) (fun _ _ _ h => h) rfl (by assumption) ?hy_81 ?re_81
              case hy_81 =>
                intro w hSw
                try dsimp only at hSw
                go_simp
                try with_reducible rfl
              simp only [Act.put, List.setIfInBounds_toArray, List.set_cons_zero, List.set_cons_succ]
              refine' held_take (i := 2) (d := some 105) (v := _) rfl rfl (by kernel_rfl) (by kernel_rfl) (by kernel_rfl) (fun _ _ _ h => h) rfl (by assumption) ?hy_82 ?re_82
              case hy_82 =>
                intro w hSw
                try dsimp only at hSw
                go_simp
                try with_reducible rfl
              simp only [Act.put, List.setIfInBounds_toArray, List.set_cons_zero, List.set_cons_succ]
              refine' held_take (i := 3) (d := some 106) (v := _) rfl rfl (by kernel_rfl) (by kernel_rfl) (by kernel_rfl) (fun _ _ _ h => h) rfl (by assumption) ?hy_83 ?re_83
              case hy_83 =>
                intro w hSw
                try dsimp only at hSw
                go_simp
                try with_reducible rfl
              simp only [Act.put, List.setIfInBounds_toArray, List.set_cons_zero, List.set_cons_succ]
              try simp only [hn0, ge_iff_le, reduceCtorEq, ne_eq, not_true_eq_false, not_false_eq_true, decide_false, decide_true, bne_self_eq_false, beq_self_eq_true, Bool.not_true, Bool.not_false]
              refine' held_take (i := 4) (d := some 107) (v := _) rfl rfl (by kernel_rfl) (by kernel_rfl) (by kernel_rfl) (fun _ _ _ h => h) rfl (by assumption) ?hy_84 ?re_84
              case hy_84 =>
                intro w hSw
                try dsimp only at hSw
                go_simp
                try with_reducible rfl
              simp only [Act.put, List.setIfInBounds_toArray, List.set_cons_zero, List.set_cons_succ]
              refine' held_take (i := 5) (d := some 108) (v := _) rfl rfl (by kernel_rfl) (by kernel_rfl) (by kernel_rfl) (fun _ _ _ h => h) rfl (by assumption) ?hy_85 ?re_85
              case hy_85 =>
                intro w hSw
                try dsimp only at hSw
                go_simp
                try with_reducible rfl
              simp only [Act.put, List.setIfInBounds_toArray, List.set_cons_zero, List.set_cons_succ]
              refine' held_take (i := 6) (d := some 109) (v := _) rfl rfl (by kernel_rfl) (by kernel_rfl) (by kernel_rfl) (fun _ _ _ h => h) rfl (by assumption) ?hy_86 ?re_86
              case hy_86 =>
                intro w hSw
                try dsimp only at hSw
                go_simp
                try with_reducible rfl
              simp only [Act.put, List.setIfInBounds_toArray, List.set_cons_zero, List.set_cons_succ]
              refine' held_take (i := 7) (d := some 110) (v := _) rfl rfl (by kernel_rfl) (by kernel_rfl) (by kernel_rfl) (fun _ _ _ h => h) rfl (by assumption) ?hy_87 ?re_87
              case hy_87 =>
                intro w hSw
                try dsimp only at hSw
                go_simp
                try with_reducible rfl
              simp only [Act.put, List.setIfInBounds_toArray, List.set_cons_zero, List.set_cons_succ]
              try simp only [hn1, ge_iff_le, reduceCtorEq, ne_eq, not_true_eq_false, not_false_eq_true, decide_false, decide_true, bne_self_eq_false, beq_self_eq_true, Bool.not_true, Bool.not_false]
              refine' held_take (i := 8) (d := some 111) (v := _) rfl rfl (by kernel_rfl) (by kernel_rfl) (by kernel_rfl) (fun _ _ _ h => h) rfl (by assumption) ?hy_88 ?re_88
              case hy_88 =>
                intro w hSw
                try dsimp only at hSw
                go_simp
                try with_reducible rfl
              simp only [Act.put, List.setIfInBounds_toArray, List.set_cons_zero, List.set_cons_succ]
              refine' held_take (i := 9) (d := some 112) (v := _) rfl rfl (by kernel_rfl) (by kernel_rfl) (by kernel_rfl) (fun _ _ _ h => h) rfl (by assumption) ?hy_89 ?re_89
              case hy_89 =>
                intro w hSw
                try dsimp only at hSw
                go_simp
                try with_reducible rfl
              simp only [Act.put, List.setIfInBounds_toArray, List.set_cons_zero, List.set_cons_succ]
              refine' held_take (i := 10) (d := some 113) (v := _) rfl rfl (by kernel_rfl) (by kernel_rfl) (by kernel_rfl) (fun _ _ _ h => h) rfl (by assumption) ?hy_90 ?re_90
              case hy_90 =>
                intro w hSw
                try dsimp only at hSw
                go_simp
                try with_reducible rfl
              simp only [Act.put, List.setIfInBounds_toArray, List.set_cons_zero, List.set_cons_succ]
              refine wpAnyH_ready (rs := [11]) (by kernel_rfl) (by simp) ?_
              refine AllReadyH.cons rfl (fun K hK => ?_) AllReadyH.nil
              go_simp
              refine (htm7.out _ hD0.out).mono ?_
              rintro e v1 ⟨rfl, hb⟩
              have hD1 := Lib.hid (below_trans hD0.out hb)
              clear hb
              go_wp2_with fail
              refine hK.out _ _ ?_ (fun hHeld => ?_)
              · exact hkS.out _ hD1.out
              clear hK K
              try simp only [Act.put, List.setIfInBounds_toArray, List.set_cons_zero, List.set_cons_succ]
              refine' held_take (i := 12) (d := some 115) (v := _) rfl rfl (by kernel_rfl) (by kernel_rfl) (by kernel_rfl) (fun _ _ _ h => h) rfl (by assumption) ?hy_91 ?re_91
              case hy_91 =>
                intro w hSw
                try dsimp only at hSw
                go_simp
                try with_reducible rfl
              simp only [Act.put, List.setIfInBounds_toArray, List.set_cons_zero, List.set_cons_succ]
              try simp only [ht0, ge_iff_le, reduceCtorEq, ne_eq, not_true_eq_false, not_false_eq_true, decide_false, decide_true, bne_self_eq_false, beq_self_eq_true, Bool.not_true, Bool.not_false]
              refine' held_take (i := 13) (d := some 116) (v := _) rfl rfl (by kernel_rfl) (by kernel_rfl) (by kernel_rfl) (fun _ _ _ h => h) rfl (by assumption) ?hy_92 ?re_92
              case hy_92 =>
                intro w hSw
                try dsimp only at hSw
                go_simp
                try with_reducible rfl
              simp only [Act.put, List.setIfInBounds_toArray, List.set_cons_zero, List.set_cons_succ]
              refine' held_take (i := 14) (d := some 117) (v := _) rfl rfl (by kernel_rfl) (by kernel_rfl) (by kernel_rfl) (fun _ _ _ h => h) rfl (by assumption) ?hy_93 ?re_93
              case hy_93 =>
                intro w hSw
                try dsimp only at hSw
                go_simp
                try with_reducible rfl
              simp only [Act.put, List.setIfInBounds_toArray, List.set_cons_zero, List.set_cons_succ]
              refine held_skip (i := 15) (d := some 118) rfl rfl (by kernel_rfl) (by kernel_rfl) (by kernel_rfl) (fun _ _ _ h => h) rfl (by assumption) ?_
              simp only [Act.put, List.setIfInBounds_toArray, List.set_cons_zero, List.set_cons_succ]
              refine held_skip (i := 16) (d := some 119) rfl rfl (by kernel_rfl) (by kernel_rfl) (by kernel_rfl) (fun _ _ _ h => h) rfl (by assumption) ?_
              simp only [Act.put, List.setIfInBounds_toArray, List.set_cons_zero, List.set_cons_succ]
              refine held_skip (i := 17) (d := some 120) rfl rfl (by kernel_rfl) (by kernel_rfl) (by kernel_rfl) (fun _ _ _ h => h) rfl (by assumption) ?_
              simp only [Act.put, List.setIfInBounds_toArray, List.set_cons_zero, List.set_cons_succ]
              refine held_skip (i := 18) (d := some 121) rfl rfl (by kernel_rfl) (by kernel_rfl) (by kernel_rfl) (fun _ _ _ h => h) rfl (by assumption) ?_
              simp only [Act.put, List.setIfInBounds_toArray, List.set_cons_zero, List.set_cons_succ]
              refine held_skip (i := 19) (d := some 122) rfl rfl (by kernel_rfl) (by kernel_rfl) (by kernel_rfl) (fun _ _ _ h => h) rfl (by assumption) ?_
              simp only [Act.put, List.setIfInBounds_toArray, List.set_cons_zero, List.set_cons_succ]
              refine held_skip (i := 20) (d := some 123) rfl rfl (by kernel_rfl) (by kernel_rfl) (by kernel_rfl) (fun _ _ _ h => h) rfl (by assumption) ?_
              simp only [Act.put, List.setIfInBounds_toArray, List.set_cons_zero, List.set_cons_succ]
              refine held_skip (i := 21) (d := some 124) rfl rfl (by kernel_rfl) (by kernel_rfl) (by kernel_rfl) (fun _ _ _ h => h) rfl (by assumption) ?_
              simp only [Act.put, List.setIfInBounds_toArray, List.set_cons_zero, List.set_cons_succ]
              refine' held_take (i := 22) (d := some 125) (v := _) rfl rfl (by kernel_rfl) (by kernel_rfl) (by kernel_rfl) (fun _ _ _ h => h) rfl (by assumption) ?hy_94 ?re_94
              case hy_94 =>
                intro w hSw
                try dsimp only at hSw
                go_simp
                try with_reducible rfl
              simp only [Act.put, List.setIfInBounds_toArray, List.set_cons_zero, List.set_cons_succ]
              refine' held_take (i := 23) (d := some 126) (v := _) rfl rfl (by kernel_rfl) (by kernel_rfl) (by kernel_rfl) (fun _ _ _ h => h) rfl (by assumption) ?hy_95 ?re_95
              case hy_95 =>
                intro w hSw
                try dsimp only at hSw
                go_simp
                try with_reducible rfl
              simp only [Act.put, List.setIfInBounds_toArray, List.set_cons_zero, List.set_cons_succ]
              try simp only [reduceCtorEq, ne_eq, not_true_eq_false, not_false_eq_true, decide_false, decide_true, bne_self_eq_false, beq_self_eq_true, Bool.not_true, Bool.not_false]
              refine wpAnyH_done (by kernel_rfl) ?_ _
              refine NoPanic.normal ?_
              have hfin := Lib.hid (below_trans hC7.out hD1.out)
              go_wp2_with fail
              go_meet
              exact ⟨rfl, hfin⟩
            have ht0 : decide ((0 : Int) ≤ ft) = true := decide_eq_true (by omega)
            have hi := IntWalk.i64_in (n - old) (by omega)
            have h4 : ft < n - old := by
              by_cases h : ft < n - old
              · exact h
              · rw [if_neg (by omega)] at hfr0
                exact absurd hfr0 hfc0
            have ht1 : decide (n - old ≤ ft) = false := decide_eq_false (by omega)
            clear hfr0 h1 h2 h3 h4 hfc0
            refine wp_region_noPanic ?_
            refine wp_region_held_drew (S := fun wx => wx.cell? ⟨bxn, 2, none⟩ = some (.int .i64 n)) (by kernel_rfl) ?_ (fun hHeld => ?_)
            · exact hcD
            refine' held_take (i := 0) (d := some 103) (v := _) rfl rfl (by kernel_rfl) (by kernel_rfl) (by kernel_rfl) (fun _ _ _ h => h) rfl (by assumption) ?hy_96 ?re_96
            case hy_96 =>
              intro w hSw
              try dsimp only at hSw
              go_simp
              try with_reducible rfl
            simp only [Act.put, List.setIfInBounds_toArray, List.set_cons_zero, List.set_cons_succ]
            refine' held_take (i := 1) (d := some 104) (v := _) rfl rfl (by kernel_rfl) (by kernel_rfl) (by kernel_rfl) (fun _ _ _ h => h) rfl (by assumption) ?hy_97 ?re_97
            case hy_97 =>
              intro w hSw
              try dsimp only at hSw
              go_simp
              try with_reducible rfl
            simp only [Act.put, List.setIfInBounds_toArray, List.set_cons_zero, List.set_cons_succ]
            refine' held_take (i := 2) (d := some 105) (v := _) rfl rfl (by kernel_rfl) (by kernel_rfl) (by kernel_rfl) (fun _ _ _ h => h) rfl (by assumption) ?hy_98 ?re_98
            case hy_98 =>
              intro w hSw
              try dsimp only at hSw
              go_simp
              try with_reducible rfl
            simp only [Act.put, List.setIfInBounds_toArray, List.set_cons_zero, List.set_cons_succ]
            refine' held_take (i := 3) (d := some 106) (v := _) rfl rfl (by kernel_rfl) (by kernel_rfl) (by kernel_rfl) (fun _ _ _ h => h) rfl (by assumption) ?hy_99 ?re_99
            case hy_99 =>
              intro w hSw
              try dsimp only at hSw
              go_simp
              try with_reducible rfl
            simp only [Act.put, List.setIfInBounds_toArray, List.set_cons_zero, List.set_cons_succ]
            try simp only [hn0, ge_iff_le, reduceCtorEq, ne_eq, not_true_eq_false, not_false_eq_true, decide_false, decide_true, bne_self_eq_false, beq_self_eq_true, Bool.not_true, Bool.not_false]
            refine' held_take (i := 4) (d := some 107) (v := _) rfl rfl (by kernel_rfl) (by kernel_rfl) (by kernel_rfl) (fun _ _ _ h => h) rfl (by assumption) ?hy_100 ?re_100
            case hy_100 =>
              intro w hSw
              try dsimp only at hSw
              go_simp
              try with_reducible rfl
            simp only [Act.put, List.setIfInBounds_toArray, List.set_cons_zero, List.set_cons_succ]
            refine' held_take (i := 5) (d := some 108) (v := _) rfl rfl (by kernel_rfl) (by kernel_rfl) (by kernel_rfl) (fun _ _ _ h => h) rfl (by assumption) ?hy_101 ?re_101
            case hy_101 =>
              intro w hSw
              try dsimp only at hSw
              go_simp
              try with_reducible rfl
            simp only [Act.put, List.setIfInBounds_toArray, List.set_cons_zero, List.set_cons_succ]
            refine' held_take (i := 6) (d := some 109) (v := _) rfl rfl (by kernel_rfl) (by kernel_rfl) (by kernel_rfl) (fun _ _ _ h => h) rfl (by assumption) ?hy_102 ?re_102
            case hy_102 =>
              intro w hSw
              try dsimp only at hSw
              go_simp
              try with_reducible rfl
            simp only [Act.put, List.setIfInBounds_toArray, List.set_cons_zero, List.set_cons_succ]
            refine' held_take (i := 7) (d := some 110) (v := _) rfl rfl (by kernel_rfl) (by kernel_rfl) (by kernel_rfl) (fun _ _ _ h => h) rfl (by assumption) ?hy_103 ?re_103
            case hy_103 =>
              intro w hSw
              try dsimp only at hSw
              go_simp
              try with_reducible rfl
            simp only [Act.put, List.setIfInBounds_toArray, List.set_cons_zero, List.set_cons_succ]
            try simp only [hn1, ge_iff_le, reduceCtorEq, ne_eq, not_true_eq_false, not_false_eq_true, decide_false, decide_true, bne_self_eq_false, beq_self_eq_true, Bool.not_true, Bool.not_false]
            refine' held_take (i := 8) (d := some 111) (v := _) rfl rfl (by kernel_rfl) (by kernel_rfl) (by kernel_rfl) (fun _ _ _ h => h) rfl (by assumption) ?hy_104 ?re_104
            case hy_104 =>
              intro w hSw
              try dsimp only at hSw
              go_simp
              try with_reducible rfl
            simp only [Act.put, List.setIfInBounds_toArray, List.set_cons_zero, List.set_cons_succ]
            refine' held_take (i := 9) (d := some 112) (v := _) rfl rfl (by kernel_rfl) (by kernel_rfl) (by kernel_rfl) (fun _ _ _ h => h) rfl (by assumption) ?hy_105 ?re_105
            case hy_105 =>
              intro w hSw
              try dsimp only at hSw
              go_simp
              try with_reducible rfl
            simp only [Act.put, List.setIfInBounds_toArray, List.set_cons_zero, List.set_cons_succ]
            refine' held_take (i := 10) (d := some 113) (v := _) rfl rfl (by kernel_rfl) (by kernel_rfl) (by kernel_rfl) (fun _ _ _ h => h) rfl (by assumption) ?hy_106 ?re_106
            case hy_106 =>
              intro w hSw
              try dsimp only at hSw
              go_simp
              try with_reducible rfl
            simp only [Act.put, List.setIfInBounds_toArray, List.set_cons_zero, List.set_cons_succ]
            refine wpAnyH_ready (rs := [11]) (by kernel_rfl) (by simp) ?_
            refine AllReadyH.cons rfl (fun K hK => ?_) AllReadyH.nil
            go_simp
            refine (htm7.out _ hD0.out).mono ?_
            rintro e v1 ⟨rfl, hb⟩
            have hD1 := Lib.hid (below_trans hD0.out hb)
            clear hb
            go_wp2_with fail
            refine hK.out _ _ ?_ (fun hHeld => ?_)
            · exact hkS.out _ hD1.out
            clear hK K
            try simp only [Act.put, List.setIfInBounds_toArray, List.set_cons_zero, List.set_cons_succ]
            refine' held_take (i := 12) (d := some 115) (v := _) rfl rfl (by kernel_rfl) (by kernel_rfl) (by kernel_rfl) (fun _ _ _ h => h) rfl (by assumption) ?hy_107 ?re_107
            case hy_107 =>
              intro w hSw
              try dsimp only at hSw
              go_simp
              try with_reducible rfl
            simp only [Act.put, List.setIfInBounds_toArray, List.set_cons_zero, List.set_cons_succ]
            try simp only [ht0, ge_iff_le, reduceCtorEq, ne_eq, not_true_eq_false, not_false_eq_true, decide_false, decide_true, bne_self_eq_false, beq_self_eq_true, Bool.not_true, Bool.not_false]
            refine' held_take (i := 13) (d := some 116) (v := _) rfl rfl (by kernel_rfl) (by kernel_rfl) (by kernel_rfl) (fun _ _ _ h => h) rfl (by assumption) ?hy_108 ?re_108
            case hy_108 =>
              intro w hSw
              try dsimp only at hSw
              go_simp
              try with_reducible rfl
            simp only [Act.put, List.setIfInBounds_toArray, List.set_cons_zero, List.set_cons_succ]
            refine' held_take (i := 14) (d := some 117) (v := _) rfl rfl (by kernel_rfl) (by kernel_rfl) (by kernel_rfl) (fun _ _ _ h => h) rfl (by assumption) ?hy_109 ?re_109
            case hy_109 =>
              intro w hSw
              try dsimp only at hSw
              go_simp
              try with_reducible rfl
            simp only [Act.put, List.setIfInBounds_toArray, List.set_cons_zero, List.set_cons_succ]
            refine' held_take (i := 15) (d := some 118) (v := _) rfl rfl (by kernel_rfl) (by kernel_rfl) (by kernel_rfl) (fun _ _ _ h => h) rfl (by assumption) ?hy_110 ?re_110
            case hy_110 =>
              intro w hSw
              try dsimp only at hSw
              go_simp
              try with_reducible rfl
            simp only [Act.put, List.setIfInBounds_toArray, List.set_cons_zero, List.set_cons_succ]
            refine' held_take (i := 17) (d := some 120) (v := _) rfl rfl (by kernel_rfl) (by kernel_rfl) (by kernel_rfl) (fun _ _ _ h => h) rfl (by assumption) ?hy_111 ?re_111
            case hy_111 =>
              intro w hSw
              try dsimp only at hSw
              go_simp
              try with_reducible rfl
            simp only [Act.put, List.setIfInBounds_toArray, List.set_cons_zero, List.set_cons_succ]
            refine' held_take (i := 18) (d := some 121) (v := _) rfl rfl (by kernel_rfl) (by kernel_rfl) (by kernel_rfl) (fun _ _ _ h => h) rfl (by assumption) ?hy_112 ?re_112
            case hy_112 =>
              intro w hSw
              try dsimp only at hSw
              go_simp
              try with_reducible rfl
            simp only [Act.put, List.setIfInBounds_toArray, List.set_cons_zero, List.set_cons_succ]
            refine' held_take (i := 19) (d := some 122) (v := _) rfl rfl (by kernel_rfl) (by kernel_rfl) (by kernel_rfl) (fun _ _ _ h => h) rfl (by assumption) ?hy_113 ?re_113
            case hy_113 =>
              intro w hSw
              try dsimp only at hSw
              go_simp
              try with_reducible rfl
            simp only [Act.put, List.setIfInBounds_toArray, List.set_cons_zero, List.set_cons_succ]
            refine' held_take (i := 20) (d := some 123) (v := _) rfl rfl (by kernel_rfl) (by kernel_rfl) (by kernel_rfl) (fun _ _ _ h => h) rfl (by assumption) ?hy_114 ?re_114
            case hy_114 =>
              intro w hSw
              try dsimp only at hSw
              go_simp
              try with_reducible rfl
            simp only [Act.put, List.setIfInBounds_toArray, List.set_cons_zero, List.set_cons_succ]
            refine wpAnyH_ready (rs := [16]) (by kernel_rfl) (by simp) ?_
            refine AllReadyH.cons rfl (fun K hK => ?_) AllReadyH.nil
            go_simp
            refine (htm7.out _ hD1.out).mono ?_
            rintro e v2 ⟨rfl, hb⟩
            have hD2 := Lib.hid (below_trans hD1.out hb)
            clear hb
            go_wp2_with fail
            refine hK.out _ _ ?_ (fun hHeld => ?_)
            · exact hkS.out _ hD2.out
            clear hK K
            try simp only [Act.put, List.setIfInBounds_toArray, List.set_cons_zero, List.set_cons_succ]
            refine' held_take (i := 21) (d := some 124) (v := _) rfl rfl (by kernel_rfl) (by kernel_rfl) (by kernel_rfl) (fun _ _ _ h => h) rfl (by assumption) ?hy_115 ?re_115
            case hy_115 =>
              intro w hSw
              try dsimp only at hSw
              go_simp
              try with_reducible rfl
            simp only [Act.put, List.setIfInBounds_toArray, List.set_cons_zero, List.set_cons_succ]
            try simp only [ht1, ge_iff_le, reduceCtorEq, ne_eq, not_true_eq_false, not_false_eq_true, decide_false, decide_true, bne_self_eq_false, beq_self_eq_true, Bool.not_true, Bool.not_false]
            refine' held_take (i := 22) (d := some 125) (v := _) rfl rfl (by kernel_rfl) (by kernel_rfl) (by kernel_rfl) (fun _ _ _ h => h) rfl (by assumption) ?hy_116 ?re_116
            case hy_116 =>
              intro w hSw
              try dsimp only at hSw
              go_simp
              try with_reducible rfl
            simp only [Act.put, List.setIfInBounds_toArray, List.set_cons_zero, List.set_cons_succ]
            refine' held_take (i := 23) (d := some 126) (v := _) rfl rfl (by kernel_rfl) (by kernel_rfl) (by kernel_rfl) (fun _ _ _ h => h) rfl (by assumption) ?hy_117 ?re_117
            case hy_117 =>
              intro w hSw
              try dsimp only at hSw
              go_simp
              try with_reducible rfl
            simp only [Act.put, List.setIfInBounds_toArray, List.set_cons_zero, List.set_cons_succ]
            try simp only [reduceCtorEq, ne_eq, not_true_eq_false, not_false_eq_true, decide_false, decide_true, bne_self_eq_false, beq_self_eq_true, Bool.not_true, Bool.not_false]
            refine wpAnyH_done (by kernel_rfl) ?_ _
            refine NoPanic.normal ?_
            have hfin := Lib.hid (below_trans hC7.out hD2.out)
            go_wp2_with fail
            go_meet
            exact ⟨rfl, hfin⟩
          obtain ⟨rfl, hC8⟩ := hcut
          clear hC7
          go_upto_region 24 with fail
          go_cut [146] from 127 to 146 (fun s146 wx => s146 = .bool false ∧ Hid (Below w5.heap.size w5 wx))
          case first =>
            generalize wc = W8 at *
            have hkS := Lib.hid (fun wx (hx : Below W8.heap.size W8 wx) => (show (wx.cell? ⟨w.heap.size, 0, none⟩ = some (.string (bs who)) ∧ wx.cell? ⟨w.heap.size, 1, none⟩ = some (.string ⟨#[100, 111, 111, 114]⟩) ∧ wx.cell? ⟨w.heap.size, 2, none⟩ = some (.int .i64 ep) ∧ wx.cell? ⟨w.heap.size, 3, none⟩ = some (.int .i64 bg) ∧ wx.cell? ⟨w.heap.size, 4, none⟩ = some (.int .i64 fn) ∧ wx.cell? ⟨w.heap.size, 5, none⟩ = some (.int .i64 sr)) ∧ wx.cell? ⟨bxn, 2, none⟩ = some (.int .i64 n) from
              ⟨(tick_kept (Below.refl _ _) (hrw.out _ (below_trans hC8.out hx))).1, (hxw.out _ (below_trans hC8.out hx)).2⟩))
            have hD0 := Lib.hid (show Below W8.heap.size W8 W8.drew from (Below.refl _ _).drew)
            have hcD := hkS.out _ hD0.out
            have hgk8 := fun wx (hx : Below W8.heap.size W8 wx) => hgk.out n wx (hBw.out _ (below_trans hC8.out hx))
            have hfl8 := Lib.hid (fun wx (hx : Below W8.heap.size W8 wx) => hflw.out _ (below_trans hC8.out hx))
            generalize hgcd : goodT ⟨who, doorN, ep, bg, fn, sr⟩ n = gc at *
            have hiff := hiff.out
            clear hgcd
            have hne : ac ≠ 0 := fun h => hfc0 (hiff.1 h).1
            obtain ⟨Ta, qa, hea2⟩ := errV_form E hne
            obtain rfl : ea = .iface Ta qa := by rw [← hea.out, hea2]
            clear hea2
            clear hne hiff hfc0 hgk8
            refine wp_region_noPanic ?_
            refine wp_region_held_drew (S := fun wx => (wx.cell? ⟨w.heap.size, 0, none⟩ = some (.string (bs who)) ∧ wx.cell? ⟨w.heap.size, 1, none⟩ = some (.string ⟨#[100, 111, 111, 114]⟩) ∧ wx.cell? ⟨w.heap.size, 2, none⟩ = some (.int .i64 ep) ∧ wx.cell? ⟨w.heap.size, 3, none⟩ = some (.int .i64 bg) ∧ wx.cell? ⟨w.heap.size, 4, none⟩ = some (.int .i64 fn) ∧ wx.cell? ⟨w.heap.size, 5, none⟩ = some (.int .i64 sr)) ∧ wx.cell? ⟨bxn, 2, none⟩ = some (.int .i64 n)) (by kernel_rfl) ?_ (fun hHeld => ?_)
            · exact hcD
            refine' held_take (i := 0) (d := some 127) (v := _) rfl rfl (by kernel_rfl) (by kernel_rfl) (by kernel_rfl) (fun _ _ _ h => h) rfl (by assumption) ?hy_1 ?re_1
            case hy_1 =>
              intro w hSw
              try dsimp only at hSw
              go_simp
              try with_reducible rfl
            simp only [Act.put, List.setIfInBounds_toArray, List.set_cons_zero, List.set_cons_succ]
            refine' held_take (i := 1) (d := some 128) (v := _) rfl rfl (by kernel_rfl) (by kernel_rfl) (by kernel_rfl) (fun _ _ _ h => h) rfl (by assumption) ?hy_2 ?re_2
            case hy_2 =>
              intro w hSw
              try dsimp only at hSw
              go_simp
              try with_reducible rfl
            simp only [Act.put, List.setIfInBounds_toArray, List.set_cons_zero, List.set_cons_succ]
            try simp only [reduceCtorEq, ne_eq, not_true_eq_false, not_false_eq_true, decide_false, decide_true, bne_self_eq_false, beq_self_eq_true, Bool.not_true, Bool.not_false]
            refine' held_take (i := 2) (d := some 129) (v := _) rfl rfl (by kernel_rfl) (by kernel_rfl) (by kernel_rfl) (fun _ _ _ h => h) rfl (by assumption) ?hy_3 ?re_3
            case hy_3 =>
              intro w hSw
              try dsimp only at hSw
              go_simp
              try with_reducible rfl
            simp only [Act.put, List.setIfInBounds_toArray, List.set_cons_zero, List.set_cons_succ]
            refine' held_take (i := 3) (d := some 130) (v := _) rfl rfl (by kernel_rfl) (by kernel_rfl) (by kernel_rfl) (fun _ _ _ h => h) rfl (by assumption) ?hy_4 ?re_4
            case hy_4 =>
              intro w hSw
              try dsimp only at hSw
              go_simp
              try with_reducible rfl
            simp only [Act.put, List.setIfInBounds_toArray, List.set_cons_zero, List.set_cons_succ]
            refine held_skip (i := 4) (d := some 131) rfl rfl (by kernel_rfl) (by kernel_rfl) (by kernel_rfl) (fun _ _ _ h => h) rfl (by assumption) ?_
            simp only [Act.put, List.setIfInBounds_toArray, List.set_cons_zero, List.set_cons_succ]
            refine held_skip (i := 5) (d := some 132) rfl rfl (by kernel_rfl) (by kernel_rfl) (by kernel_rfl) (fun _ _ _ h => h) rfl (by assumption) ?_
            simp only [Act.put, List.setIfInBounds_toArray, List.set_cons_zero, List.set_cons_succ]
            refine held_skip (i := 6) (d := some 133) rfl rfl (by kernel_rfl) (by kernel_rfl) (by kernel_rfl) (fun _ _ _ h => h) rfl (by assumption) ?_
            simp only [Act.put, List.setIfInBounds_toArray, List.set_cons_zero, List.set_cons_succ]
            refine held_skip (i := 7) (d := some 134) rfl rfl (by kernel_rfl) (by kernel_rfl) (by kernel_rfl) (fun _ _ _ h => h) rfl (by assumption) ?_
            simp only [Act.put, List.setIfInBounds_toArray, List.set_cons_zero, List.set_cons_succ]
            refine held_skip (i := 8) (d := some 135) rfl rfl (by kernel_rfl) (by kernel_rfl) (by kernel_rfl) (fun _ _ _ h => h) rfl (by assumption) ?_
            simp only [Act.put, List.setIfInBounds_toArray, List.set_cons_zero, List.set_cons_succ]
            refine' held_take (i := 9) (d := some 136) (v := _) rfl rfl (by kernel_rfl) (by kernel_rfl) (by kernel_rfl) (fun _ _ _ h => h) rfl (by assumption) ?hy_5 ?re_5
            case hy_5 =>
              intro w hSw
              try dsimp only at hSw
              go_simp
              try with_reducible rfl
            simp only [Act.put, List.setIfInBounds_toArray, List.set_cons_zero, List.set_cons_succ]
            refine' held_take (i := 10) (d := some 137) (v := _) rfl rfl (by kernel_rfl) (by kernel_rfl) (by kernel_rfl) (fun _ _ _ h => h) rfl (by assumption) ?hy_6 ?re_6
            case hy_6 =>
              intro w hSw
              try dsimp only at hSw
              go_simp
              try with_reducible rfl
            simp only [Act.put, List.setIfInBounds_toArray, List.set_cons_zero, List.set_cons_succ]
            refine held_skip (i := 11) (d := some 138) rfl rfl (by kernel_rfl) (by kernel_rfl) (by kernel_rfl) (fun _ _ _ h => h) rfl (by assumption) ?_
            simp only [Act.put, List.setIfInBounds_toArray, List.set_cons_zero, List.set_cons_succ]
            refine held_skip (i := 12) (d := some 139) rfl rfl (by kernel_rfl) (by kernel_rfl) (by kernel_rfl) (fun _ _ _ h => h) rfl (by assumption) ?_
            simp only [Act.put, List.setIfInBounds_toArray, List.set_cons_zero, List.set_cons_succ]
            refine held_skip (i := 13) (d := some 140) rfl rfl (by kernel_rfl) (by kernel_rfl) (by kernel_rfl) (fun _ _ _ h => h) rfl (by assumption) ?_
            simp only [Act.put, List.setIfInBounds_toArray, List.set_cons_zero, List.set_cons_succ]
            refine held_skip (i := 14) (d := some 141) rfl rfl (by kernel_rfl) (by kernel_rfl) (by kernel_rfl) (fun _ _ _ h => h) rfl (by assumption) ?_
            simp only [Act.put, List.setIfInBounds_toArray, List.set_cons_zero, List.set_cons_succ]
            refine held_skip (i := 15) (d := some 142) rfl rfl (by kernel_rfl) (by kernel_rfl) (by kernel_rfl) (fun _ _ _ h => h) rfl (by assumption) ?_
            simp only [Act.put, List.setIfInBounds_toArray, List.set_cons_zero, List.set_cons_succ]
            refine held_skip (i := 16) (d := some 143) rfl rfl (by kernel_rfl) (by kernel_rfl) (by kernel_rfl) (fun _ _ _ h => h) rfl (by assumption) ?_
            simp only [Act.put, List.setIfInBounds_toArray, List.set_cons_zero, List.set_cons_succ]
            refine held_skip (i := 17) (d := some 144) rfl rfl (by kernel_rfl) (by kernel_rfl) (by kernel_rfl) (fun _ _ _ h => h) rfl (by assumption) ?_
            simp only [Act.put, List.setIfInBounds_toArray, List.set_cons_zero, List.set_cons_succ]
            refine' held_take (i := 18) (d := some 145) (v := _) rfl rfl (by kernel_rfl) (by kernel_rfl) (by kernel_rfl) (fun _ _ _ h => h) rfl (by assumption) ?hy_7 ?re_7
            case hy_7 =>
              intro w hSw
              try dsimp only at hSw
              go_simp
              try with_reducible rfl
            simp only [Act.put, List.setIfInBounds_toArray, List.set_cons_zero, List.set_cons_succ]
            try simp only [reduceCtorEq, ne_eq, not_true_eq_false, not_false_eq_true, decide_false, decide_true, bne_self_eq_false, beq_self_eq_true, Bool.not_true, Bool.not_false]
            refine' held_take (i := 19) (d := some 146) (v := _) rfl rfl (by kernel_rfl) (by kernel_rfl) (by kernel_rfl) (fun _ _ _ h => h) rfl (by assumption) ?hy_8 ?re_8
            case hy_8 =>
              intro w hSw
              try dsimp only at hSw
              go_simp
              try with_reducible rfl
            simp only [Act.put, List.setIfInBounds_toArray, List.set_cons_zero, List.set_cons_succ]
            try simp only [reduceCtorEq, ne_eq, not_true_eq_false, not_false_eq_true, decide_false, decide_true, bne_self_eq_false, beq_self_eq_true, Bool.not_true, Bool.not_false]
            refine wpAnyH_done (by kernel_rfl) ?_ _
            refine NoPanic.normal ?_
            have hfin := Lib.hid (below_trans hC8.out hD0.out)
            go_wp2_with fail
            go_meet
            exact ⟨rfl, hfin⟩
          obtain ⟨rfl, hC9⟩ := hcut
          go_wp2_with fail
          go_meet
          exact hC9
        rw [show decide (fc = 0) = true from decide_eq_true hfc0]
        go_upto_region 22 with fail
        go_cut [126] from 103 to 126 (fun s126 wx => s126 = .bool false ∧ Hid (Below w5.heap.size w5 wx))
        case first =>
          generalize wc = W7 at *
          have hkS := Lib.hid (fun wx (hx : Below W7.heap.size W7 wx) => (hxw.out _ (below_trans hC7.out hx)).2)
          have hD0 := Lib.hid (show Below W7.heap.size W7 W7.drew from (Below.refl _ _).drew)
          have hcD := hkS.out _ hD0.out
          have htm7 := Lib.hid (fun wx (hx : Below W7.heap.size W7 wx) => htmw.out _ (below_trans hC7.out hx))
          have hfr0 := hfresh.out
          generalize f.time = ft at *
          clear hfresh
          have h1 : ¬ (n < 0 ∨ 1000000 < n) := fun h => by
            rw [if_pos h] at hfr0
            omega
          rw [if_neg h1] at hfr0
          have h2 : ¬ (ft < 0 ∨ ft < n - old) := fun h => by
            rw [if_pos h] at hfr0
            omega
          have hn0 : decide ((0 : Int) ≤ n) = true := decide_eq_true (by omega)
          have hn1 : decide (n ≤ (1000000 : Int)) = true := decide_eq_true (by omega)
          have ht0 : decide ((0 : Int) ≤ ft) = true := decide_eq_true (by omega)
          have hi := IntWalk.i64_in (n - old) (by omega)
          have ht1 : decide (n - old ≤ ft) = true := decide_eq_true (by omega)
          clear hfr0 h1 h2 hfc0
          refine wp_region_noPanic ?_
          refine wp_region_held_drew (S := fun wx => wx.cell? ⟨bxn, 2, none⟩ = some (.int .i64 n)) (by kernel_rfl) ?_ (fun hHeld => ?_)
          · exact hcD
          refine' held_take (i := 0) (d := some 103) (v := _) rfl rfl (by kernel_rfl) (by kernel_rfl) (by kernel_rfl) (fun _ _ _ h => h) rfl (by assumption) ?hy_118 ?re_118
          case hy_118 =>
            intro w hSw
            try dsimp only at hSw
            go_simp
            try with_reducible rfl
          simp only [Act.put, List.setIfInBounds_toArray, List.set_cons_zero, List.set_cons_succ]
          refine' held_take (i := 1) (d := some 104) (v := _) rfl rfl (by kernel_rfl) (by kernel_rfl) (by kernel_rfl) (fun _ _ _ h => h) rfl (by assumption) ?hy_119 ?re_119
          case hy_119 =>
            intro w hSw
            try dsimp only at hSw
            go_simp
            try with_reducible rfl
          simp only [Act.put, List.setIfInBounds_toArray, List.set_cons_zero, List.set_cons_succ]
          refine' held_take (i := 2) (d := some 105) (v := _) rfl rfl (by kernel_rfl) (by kernel_rfl) (by kernel_rfl) (fun _ _ _ h => h) rfl (by assumption) ?hy_120 ?re_120
          case hy_120 =>
            intro w hSw
            try dsimp only at hSw
            go_simp
            try with_reducible rfl
          simp only [Act.put, List.setIfInBounds_toArray, List.set_cons_zero, List.set_cons_succ]
          refine' held_take (i := 3) (d := some 106) (v := _) rfl rfl (by kernel_rfl) (by kernel_rfl) (by kernel_rfl) (fun _ _ _ h => h) rfl (by assumption) ?hy_121 ?re_121
          case hy_121 =>
            intro w hSw
            try dsimp only at hSw
            go_simp
            try with_reducible rfl
          simp only [Act.put, List.setIfInBounds_toArray, List.set_cons_zero, List.set_cons_succ]
          try simp only [hn0, ge_iff_le, reduceCtorEq, ne_eq, not_true_eq_false, not_false_eq_true, decide_false, decide_true, bne_self_eq_false, beq_self_eq_true, Bool.not_true, Bool.not_false]
          refine' held_take (i := 4) (d := some 107) (v := _) rfl rfl (by kernel_rfl) (by kernel_rfl) (by kernel_rfl) (fun _ _ _ h => h) rfl (by assumption) ?hy_122 ?re_122
          case hy_122 =>
            intro w hSw
            try dsimp only at hSw
            go_simp
            try with_reducible rfl
          simp only [Act.put, List.setIfInBounds_toArray, List.set_cons_zero, List.set_cons_succ]
          refine' held_take (i := 5) (d := some 108) (v := _) rfl rfl (by kernel_rfl) (by kernel_rfl) (by kernel_rfl) (fun _ _ _ h => h) rfl (by assumption) ?hy_123 ?re_123
          case hy_123 =>
            intro w hSw
            try dsimp only at hSw
            go_simp
            try with_reducible rfl
          simp only [Act.put, List.setIfInBounds_toArray, List.set_cons_zero, List.set_cons_succ]
          refine' held_take (i := 6) (d := some 109) (v := _) rfl rfl (by kernel_rfl) (by kernel_rfl) (by kernel_rfl) (fun _ _ _ h => h) rfl (by assumption) ?hy_124 ?re_124
          case hy_124 =>
            intro w hSw
            try dsimp only at hSw
            go_simp
            try with_reducible rfl
          simp only [Act.put, List.setIfInBounds_toArray, List.set_cons_zero, List.set_cons_succ]
          refine' held_take (i := 7) (d := some 110) (v := _) rfl rfl (by kernel_rfl) (by kernel_rfl) (by kernel_rfl) (fun _ _ _ h => h) rfl (by assumption) ?hy_125 ?re_125
          case hy_125 =>
            intro w hSw
            try dsimp only at hSw
            go_simp
            try with_reducible rfl
          simp only [Act.put, List.setIfInBounds_toArray, List.set_cons_zero, List.set_cons_succ]
          try simp only [hn1, ge_iff_le, reduceCtorEq, ne_eq, not_true_eq_false, not_false_eq_true, decide_false, decide_true, bne_self_eq_false, beq_self_eq_true, Bool.not_true, Bool.not_false]
          refine' held_take (i := 8) (d := some 111) (v := _) rfl rfl (by kernel_rfl) (by kernel_rfl) (by kernel_rfl) (fun _ _ _ h => h) rfl (by assumption) ?hy_126 ?re_126
          case hy_126 =>
            intro w hSw
            try dsimp only at hSw
            go_simp
            try with_reducible rfl
          simp only [Act.put, List.setIfInBounds_toArray, List.set_cons_zero, List.set_cons_succ]
          refine' held_take (i := 9) (d := some 112) (v := _) rfl rfl (by kernel_rfl) (by kernel_rfl) (by kernel_rfl) (fun _ _ _ h => h) rfl (by assumption) ?hy_127 ?re_127
          case hy_127 =>
            intro w hSw
            try dsimp only at hSw
            go_simp
            try with_reducible rfl
          simp only [Act.put, List.setIfInBounds_toArray, List.set_cons_zero, List.set_cons_succ]
          refine' held_take (i := 10) (d := some 113) (v := _) rfl rfl (by kernel_rfl) (by kernel_rfl) (by kernel_rfl) (fun _ _ _ h => h) rfl (by assumption) ?hy_128 ?re_128
          case hy_128 =>
            intro w hSw
            try dsimp only at hSw
            go_simp
            try with_reducible rfl
          simp only [Act.put, List.setIfInBounds_toArray, List.set_cons_zero, List.set_cons_succ]
          refine wpAnyH_ready (rs := [11]) (by kernel_rfl) (by simp) ?_
          refine AllReadyH.cons rfl (fun K hK => ?_) AllReadyH.nil
          go_simp
          refine (htm7.out _ hD0.out).mono ?_
          rintro e v1 ⟨rfl, hb⟩
          have hD1 := Lib.hid (below_trans hD0.out hb)
          clear hb
          go_wp2_with fail
          refine hK.out _ _ ?_ (fun hHeld => ?_)
          · exact hkS.out _ hD1.out
          clear hK K
          try simp only [Act.put, List.setIfInBounds_toArray, List.set_cons_zero, List.set_cons_succ]
          refine' held_take (i := 12) (d := some 115) (v := _) rfl rfl (by kernel_rfl) (by kernel_rfl) (by kernel_rfl) (fun _ _ _ h => h) rfl (by assumption) ?hy_129 ?re_129
          case hy_129 =>
            intro w hSw
            try dsimp only at hSw
            go_simp
            try with_reducible rfl
          simp only [Act.put, List.setIfInBounds_toArray, List.set_cons_zero, List.set_cons_succ]
          try simp only [ht0, ge_iff_le, reduceCtorEq, ne_eq, not_true_eq_false, not_false_eq_true, decide_false, decide_true, bne_self_eq_false, beq_self_eq_true, Bool.not_true, Bool.not_false]
          refine' held_take (i := 13) (d := some 116) (v := _) rfl rfl (by kernel_rfl) (by kernel_rfl) (by kernel_rfl) (fun _ _ _ h => h) rfl (by assumption) ?hy_130 ?re_130
          case hy_130 =>
            intro w hSw
            try dsimp only at hSw
            go_simp
            try with_reducible rfl
          simp only [Act.put, List.setIfInBounds_toArray, List.set_cons_zero, List.set_cons_succ]
          refine' held_take (i := 14) (d := some 117) (v := _) rfl rfl (by kernel_rfl) (by kernel_rfl) (by kernel_rfl) (fun _ _ _ h => h) rfl (by assumption) ?hy_131 ?re_131
          case hy_131 =>
            intro w hSw
            try dsimp only at hSw
            go_simp
            try with_reducible rfl
          simp only [Act.put, List.setIfInBounds_toArray, List.set_cons_zero, List.set_cons_succ]
          refine' held_take (i := 15) (d := some 118) (v := _) rfl rfl (by kernel_rfl) (by kernel_rfl) (by kernel_rfl) (fun _ _ _ h => h) rfl (by assumption) ?hy_132 ?re_132
          case hy_132 =>
            intro w hSw
            try dsimp only at hSw
            go_simp
            try with_reducible rfl
          simp only [Act.put, List.setIfInBounds_toArray, List.set_cons_zero, List.set_cons_succ]
          refine' held_take (i := 17) (d := some 120) (v := _) rfl rfl (by kernel_rfl) (by kernel_rfl) (by kernel_rfl) (fun _ _ _ h => h) rfl (by assumption) ?hy_133 ?re_133
          case hy_133 =>
            intro w hSw
            try dsimp only at hSw
            go_simp
            try with_reducible rfl
          simp only [Act.put, List.setIfInBounds_toArray, List.set_cons_zero, List.set_cons_succ]
          refine' held_take (i := 18) (d := some 121) (v := _) rfl rfl (by kernel_rfl) (by kernel_rfl) (by kernel_rfl) (fun _ _ _ h => h) rfl (by assumption) ?hy_134 ?re_134
          case hy_134 =>
            intro w hSw
            try dsimp only at hSw
            go_simp
            try with_reducible rfl
          simp only [Act.put, List.setIfInBounds_toArray, List.set_cons_zero, List.set_cons_succ]
          refine' held_take (i := 19) (d := some 122) (v := _) rfl rfl (by kernel_rfl) (by kernel_rfl) (by kernel_rfl) (fun _ _ _ h => h) rfl (by assumption) ?hy_135 ?re_135
          case hy_135 =>
            intro w hSw
            try dsimp only at hSw
            go_simp
            try with_reducible rfl
          simp only [Act.put, List.setIfInBounds_toArray, List.set_cons_zero, List.set_cons_succ]
          refine' held_take (i := 20) (d := some 123) (v := _) rfl rfl (by kernel_rfl) (by kernel_rfl) (by kernel_rfl) (fun _ _ _ h => h) rfl (by assumption) ?hy_136 ?re_136
          case hy_136 =>
            intro w hSw
            try dsimp only at hSw
            go_simp
            try with_reducible rfl
          simp only [Act.put, List.setIfInBounds_toArray, List.set_cons_zero, List.set_cons_succ]
          refine wpAnyH_ready (rs := [16]) (by kernel_rfl) (by simp) ?_
          refine AllReadyH.cons rfl (fun K hK => ?_) AllReadyH.nil
          go_simp
          refine (htm7.out _ hD1.out).mono ?_
          rintro e v2 ⟨rfl, hb⟩
          have hD2 := Lib.hid (below_trans hD1.out hb)
          clear hb
          go_wp2_with fail
          refine hK.out _ _ ?_ (fun hHeld => ?_)
          · exact hkS.out _ hD2.out
          clear hK K
          try simp only [Act.put, List.setIfInBounds_toArray, List.set_cons_zero, List.set_cons_succ]
          refine' held_take (i := 21) (d := some 124) (v := _) rfl rfl (by kernel_rfl) (by kernel_rfl) (by kernel_rfl) (fun _ _ _ h => h) rfl (by assumption) ?hy_137 ?re_137
          case hy_137 =>
            intro w hSw
            try dsimp only at hSw
            go_simp
            try with_reducible rfl
          simp only [Act.put, List.setIfInBounds_toArray, List.set_cons_zero, List.set_cons_succ]
          try simp only [ht1, ge_iff_le, reduceCtorEq, ne_eq, not_true_eq_false, not_false_eq_true, decide_false, decide_true, bne_self_eq_false, beq_self_eq_true, Bool.not_true, Bool.not_false]
          refine' held_take (i := 22) (d := some 125) (v := _) rfl rfl (by kernel_rfl) (by kernel_rfl) (by kernel_rfl) (fun _ _ _ h => h) rfl (by assumption) ?hy_138 ?re_138
          case hy_138 =>
            intro w hSw
            try dsimp only at hSw
            go_simp
            try with_reducible rfl
          simp only [Act.put, List.setIfInBounds_toArray, List.set_cons_zero, List.set_cons_succ]
          refine' held_take (i := 23) (d := some 126) (v := _) rfl rfl (by kernel_rfl) (by kernel_rfl) (by kernel_rfl) (fun _ _ _ h => h) rfl (by assumption) ?hy_139 ?re_139
          case hy_139 =>
            intro w hSw
            try dsimp only at hSw
            go_simp
            try with_reducible rfl
          simp only [Act.put, List.setIfInBounds_toArray, List.set_cons_zero, List.set_cons_succ]
          try simp only [reduceCtorEq, ne_eq, not_true_eq_false, not_false_eq_true, decide_false, decide_true, bne_self_eq_false, beq_self_eq_true, Bool.not_true, Bool.not_false]
          refine wpAnyH_done (by kernel_rfl) ?_ _
          refine NoPanic.normal ?_
          have hfin := Lib.hid (below_trans hC7.out hD2.out)
          go_wp2_with fail
          go_meet
          exact ⟨rfl, hfin⟩
        obtain ⟨rfl, hC8⟩ := hcut
        clear hC7
        go_upto_region 24 with fail
        go_cut [146] from 127 to 146 (fun s146 wx => s146 = .bool false ∧ Hid (Below w5.heap.size w5 wx))
        case first =>
          generalize wc = W8 at *
          have hkS := Lib.hid (fun wx (hx : Below W8.heap.size W8 wx) => (show (wx.cell? ⟨w.heap.size, 0, none⟩ = some (.string (bs who)) ∧ wx.cell? ⟨w.heap.size, 1, none⟩ = some (.string ⟨#[100, 111, 111, 114]⟩) ∧ wx.cell? ⟨w.heap.size, 2, none⟩ = some (.int .i64 ep) ∧ wx.cell? ⟨w.heap.size, 3, none⟩ = some (.int .i64 bg) ∧ wx.cell? ⟨w.heap.size, 4, none⟩ = some (.int .i64 fn) ∧ wx.cell? ⟨w.heap.size, 5, none⟩ = some (.int .i64 sr)) ∧ wx.cell? ⟨bxn, 2, none⟩ = some (.int .i64 n) from
            ⟨(tick_kept (Below.refl _ _) (hrw.out _ (below_trans hC8.out hx))).1, (hxw.out _ (below_trans hC8.out hx)).2⟩))
          have hD0 := Lib.hid (show Below W8.heap.size W8 W8.drew from (Below.refl _ _).drew)
          have hcD := hkS.out _ hD0.out
          have hgk8 := fun wx (hx : Below W8.heap.size W8 wx) => hgk.out n wx (hBw.out _ (below_trans hC8.out hx))
          have hfl8 := Lib.hid (fun wx (hx : Below W8.heap.size W8 wx) => hflw.out _ (below_trans hC8.out hx))
          generalize hgcd : goodT ⟨who, doorN, ep, bg, fn, sr⟩ n = gc at *
          have hiff := hiff.out
          clear hgcd
          by_cases h2 : gc = 0
          case neg =>
            have hne : ac ≠ 0 := fun h => h2 (hiff.1 h).2.1
            obtain ⟨Tg, qg, heg⟩ := errV_form E h2
            rw [heg] at hgk8
            replace hgk8 := Lib.hid hgk8
            obtain ⟨Ta, qa, hea2⟩ := errV_form E hne
            obtain rfl : ea = .iface Ta qa := by rw [← hea.out, hea2]
            clear hea2
            clear hne hiff hfc0 h2 heg
            refine wp_region_noPanic ?_
            refine wp_region_held_drew (S := fun wx => (wx.cell? ⟨w.heap.size, 0, none⟩ = some (.string (bs who)) ∧ wx.cell? ⟨w.heap.size, 1, none⟩ = some (.string ⟨#[100, 111, 111, 114]⟩) ∧ wx.cell? ⟨w.heap.size, 2, none⟩ = some (.int .i64 ep) ∧ wx.cell? ⟨w.heap.size, 3, none⟩ = some (.int .i64 bg) ∧ wx.cell? ⟨w.heap.size, 4, none⟩ = some (.int .i64 fn) ∧ wx.cell? ⟨w.heap.size, 5, none⟩ = some (.int .i64 sr)) ∧ wx.cell? ⟨bxn, 2, none⟩ = some (.int .i64 n)) (by kernel_rfl) ?_ (fun hHeld => ?_)
            · exact hcD
            refine' held_take (i := 0) (d := some 127) (v := _) rfl rfl (by kernel_rfl) (by kernel_rfl) (by kernel_rfl) (fun _ _ _ h => h) rfl (by assumption) ?hy_9 ?re_9
            case hy_9 =>
              intro w hSw
              try dsimp only at hSw
              go_simp
              try with_reducible rfl
            simp only [Act.put, List.setIfInBounds_toArray, List.set_cons_zero, List.set_cons_succ]
            refine' held_take (i := 1) (d := some 128) (v := _) rfl rfl (by kernel_rfl) (by kernel_rfl) (by kernel_rfl) (fun _ _ _ h => h) rfl (by assumption) ?hy_10 ?re_10
            case hy_10 =>
              intro w hSw
              try dsimp only at hSw
              go_simp
              try with_reducible rfl
            simp only [Act.put, List.setIfInBounds_toArray, List.set_cons_zero, List.set_cons_succ]
            try simp only [reduceCtorEq, ne_eq, not_true_eq_false, not_false_eq_true, decide_false, decide_true, bne_self_eq_false, beq_self_eq_true, Bool.not_true, Bool.not_false]
            refine' held_take (i := 2) (d := some 129) (v := _) rfl rfl (by kernel_rfl) (by kernel_rfl) (by kernel_rfl) (fun _ _ _ h => h) rfl (by assumption) ?hy_11 ?re_11
            case hy_11 =>
              intro w hSw
              try dsimp only at hSw
              go_simp
              try with_reducible rfl
            simp only [Act.put, List.setIfInBounds_toArray, List.set_cons_zero, List.set_cons_succ]
            refine' held_take (i := 3) (d := some 130) (v := _) rfl rfl (by kernel_rfl) (by kernel_rfl) (by kernel_rfl) (fun _ _ _ h => h) rfl (by assumption) ?hy_12 ?re_12
            case hy_12 =>
              intro w hSw
              try dsimp only at hSw
              go_simp
              try with_reducible rfl
            simp only [Act.put, List.setIfInBounds_toArray, List.set_cons_zero, List.set_cons_succ]
            refine' held_take (i := 4) (d := some 131) (v := _) rfl rfl (by kernel_rfl) (by kernel_rfl) (by kernel_rfl) (fun _ _ _ h => h) rfl (by assumption) ?hy_13 ?re_13
            case hy_13 =>
              intro w hSw
              try dsimp only at hSw
              go_simp
              try with_reducible rfl
            simp only [Act.put, List.setIfInBounds_toArray, List.set_cons_zero, List.set_cons_succ]
            refine' held_take (i := 5) (d := some 132) (v := _) rfl rfl (by kernel_rfl) (by kernel_rfl) (by kernel_rfl) (fun _ _ _ h => h) rfl (by assumption) ?hy_14 ?re_14
            case hy_14 =>
              intro w hSw
              try dsimp only at hSw
              go_simp
              try with_reducible rfl
            simp only [Act.put, List.setIfInBounds_toArray, List.set_cons_zero, List.set_cons_succ]
            refine' held_take (i := 6) (d := some 133) (v := _) rfl rfl (by kernel_rfl) (by kernel_rfl) (by kernel_rfl) (fun _ _ _ h => h) rfl (by assumption) ?hy_15 ?re_15
            case hy_15 =>
              intro w hSw
              try dsimp only at hSw
              go_simp
              try with_reducible rfl
            simp only [Act.put, List.setIfInBounds_toArray, List.set_cons_zero, List.set_cons_succ]
            refine wpAnyH_ready (rs := [7]) (by kernel_rfl) (by simp) ?_
            refine AllReadyH.cons rfl (fun K hK => ?_) AllReadyH.nil
            go_simp
            refine (hgk8.out _ hD0.out).mono ?_
            rintro e v1 ⟨rfl, hb⟩
            have hD1 := Lib.hid (below_trans hD0.out hb)
            clear hb
            go_wp2_with fail
            refine hK.out _ _ ?_ (fun hHeld => ?_)
            · exact hkS.out _ hD1.out
            clear hK K
            try simp only [Act.put, List.setIfInBounds_toArray, List.set_cons_zero, List.set_cons_succ]
            refine' held_take (i := 8) (d := some 135) (v := _) rfl rfl (by kernel_rfl) (by kernel_rfl) (by kernel_rfl) (fun _ _ _ h => h) rfl (by assumption) ?hy_16 ?re_16
            case hy_16 =>
              intro w hSw
              try dsimp only at hSw
              go_simp
              try with_reducible rfl
            simp only [Act.put, List.setIfInBounds_toArray, List.set_cons_zero, List.set_cons_succ]
            try simp only [reduceCtorEq, ne_eq, not_true_eq_false, not_false_eq_true, decide_false, decide_true, bne_self_eq_false, beq_self_eq_true, Bool.not_true, Bool.not_false]
            refine' held_take (i := 9) (d := some 136) (v := _) rfl rfl (by kernel_rfl) (by kernel_rfl) (by kernel_rfl) (fun _ _ _ h => h) rfl (by assumption) ?hy_17 ?re_17
            case hy_17 =>
              intro w hSw
              try dsimp only at hSw
              go_simp
              try with_reducible rfl
            simp only [Act.put, List.setIfInBounds_toArray, List.set_cons_zero, List.set_cons_succ]
            refine' held_take (i := 10) (d := some 137) (v := _) rfl rfl (by kernel_rfl) (by kernel_rfl) (by kernel_rfl) (fun _ _ _ h => h) rfl (by assumption) ?hy_18 ?re_18
            case hy_18 =>
              intro w hSw
              try dsimp only at hSw
              go_simp
              try with_reducible rfl
            simp only [Act.put, List.setIfInBounds_toArray, List.set_cons_zero, List.set_cons_succ]
            refine held_skip (i := 11) (d := some 138) rfl rfl (by kernel_rfl) (by kernel_rfl) (by kernel_rfl) (fun _ _ _ h => h) rfl (by assumption) ?_
            simp only [Act.put, List.setIfInBounds_toArray, List.set_cons_zero, List.set_cons_succ]
            refine held_skip (i := 12) (d := some 139) rfl rfl (by kernel_rfl) (by kernel_rfl) (by kernel_rfl) (fun _ _ _ h => h) rfl (by assumption) ?_
            simp only [Act.put, List.setIfInBounds_toArray, List.set_cons_zero, List.set_cons_succ]
            refine held_skip (i := 13) (d := some 140) rfl rfl (by kernel_rfl) (by kernel_rfl) (by kernel_rfl) (fun _ _ _ h => h) rfl (by assumption) ?_
            simp only [Act.put, List.setIfInBounds_toArray, List.set_cons_zero, List.set_cons_succ]
            refine held_skip (i := 14) (d := some 141) rfl rfl (by kernel_rfl) (by kernel_rfl) (by kernel_rfl) (fun _ _ _ h => h) rfl (by assumption) ?_
            simp only [Act.put, List.setIfInBounds_toArray, List.set_cons_zero, List.set_cons_succ]
            refine held_skip (i := 15) (d := some 142) rfl rfl (by kernel_rfl) (by kernel_rfl) (by kernel_rfl) (fun _ _ _ h => h) rfl (by assumption) ?_
            simp only [Act.put, List.setIfInBounds_toArray, List.set_cons_zero, List.set_cons_succ]
            refine held_skip (i := 16) (d := some 143) rfl rfl (by kernel_rfl) (by kernel_rfl) (by kernel_rfl) (fun _ _ _ h => h) rfl (by assumption) ?_
            simp only [Act.put, List.setIfInBounds_toArray, List.set_cons_zero, List.set_cons_succ]
            refine held_skip (i := 17) (d := some 144) rfl rfl (by kernel_rfl) (by kernel_rfl) (by kernel_rfl) (fun _ _ _ h => h) rfl (by assumption) ?_
            simp only [Act.put, List.setIfInBounds_toArray, List.set_cons_zero, List.set_cons_succ]
            refine' held_take (i := 18) (d := some 145) (v := _) rfl rfl (by kernel_rfl) (by kernel_rfl) (by kernel_rfl) (fun _ _ _ h => h) rfl (by assumption) ?hy_19 ?re_19
            case hy_19 =>
              intro w hSw
              try dsimp only at hSw
              go_simp
              try with_reducible rfl
            simp only [Act.put, List.setIfInBounds_toArray, List.set_cons_zero, List.set_cons_succ]
            try simp only [reduceCtorEq, ne_eq, not_true_eq_false, not_false_eq_true, decide_false, decide_true, bne_self_eq_false, beq_self_eq_true, Bool.not_true, Bool.not_false]
            refine' held_take (i := 19) (d := some 146) (v := _) rfl rfl (by kernel_rfl) (by kernel_rfl) (by kernel_rfl) (fun _ _ _ h => h) rfl (by assumption) ?hy_20 ?re_20
            case hy_20 =>
              intro w hSw
              try dsimp only at hSw
              go_simp
              try with_reducible rfl
            simp only [Act.put, List.setIfInBounds_toArray, List.set_cons_zero, List.set_cons_succ]
            try simp only [reduceCtorEq, ne_eq, not_true_eq_false, not_false_eq_true, decide_false, decide_true, bne_self_eq_false, beq_self_eq_true, Bool.not_true, Bool.not_false]
            refine wpAnyH_done (by kernel_rfl) ?_ _
            refine NoPanic.normal ?_
            have hfin := Lib.hid (below_trans hC8.out hD1.out)
            go_wp2_with fail
            go_meet
            exact ⟨rfl, hfin⟩
          subst h2
          rw [errV_zero] at hgk8
          replace hgk8 := Lib.hid hgk8
          by_cases h3 : ofF f.floors who ≤ ep
          · have hpb : decide (ofF f.floors who ≤ ep) = true := decide_eq_true h3
            have hac : ac = 0 := hiff.2 ⟨hfc0, by first | rfl | trivial, h3⟩
            obtain rfl : ea = .nilIface := by rw [← hea.out, hac, errV_zero]
            clear hac hiff hfc0 h3
            refine wp_region_noPanic ?_
            refine wp_region_held_drew (S := fun wx => (wx.cell? ⟨w.heap.size, 0, none⟩ = some (.string (bs who)) ∧ wx.cell? ⟨w.heap.size, 1, none⟩ = some (.string ⟨#[100, 111, 111, 114]⟩) ∧ wx.cell? ⟨w.heap.size, 2, none⟩ = some (.int .i64 ep) ∧ wx.cell? ⟨w.heap.size, 3, none⟩ = some (.int .i64 bg) ∧ wx.cell? ⟨w.heap.size, 4, none⟩ = some (.int .i64 fn) ∧ wx.cell? ⟨w.heap.size, 5, none⟩ = some (.int .i64 sr)) ∧ wx.cell? ⟨bxn, 2, none⟩ = some (.int .i64 n)) (by kernel_rfl) ?_ (fun hHeld => ?_)
            · exact hcD
            refine' held_take (i := 0) (d := some 127) (v := _) rfl rfl (by kernel_rfl) (by kernel_rfl) (by kernel_rfl) (fun _ _ _ h => h) rfl (by assumption) ?hy_21 ?re_21
            case hy_21 =>
              intro w hSw
              try dsimp only at hSw
              go_simp
              try with_reducible rfl
            simp only [Act.put, List.setIfInBounds_toArray, List.set_cons_zero, List.set_cons_succ]
            refine' held_take (i := 1) (d := some 128) (v := _) rfl rfl (by kernel_rfl) (by kernel_rfl) (by kernel_rfl) (fun _ _ _ h => h) rfl (by assumption) ?hy_22 ?re_22
            case hy_22 =>
              intro w hSw
              try dsimp only at hSw
              go_simp
              try with_reducible rfl
            simp only [Act.put, List.setIfInBounds_toArray, List.set_cons_zero, List.set_cons_succ]
            try simp only [reduceCtorEq, ne_eq, not_true_eq_false, not_false_eq_true, decide_false, decide_true, bne_self_eq_false, beq_self_eq_true, Bool.not_true, Bool.not_false]
            refine' held_take (i := 2) (d := some 129) (v := _) rfl rfl (by kernel_rfl) (by kernel_rfl) (by kernel_rfl) (fun _ _ _ h => h) rfl (by assumption) ?hy_23 ?re_23
            case hy_23 =>
              intro w hSw
              try dsimp only at hSw
              go_simp
              try with_reducible rfl
            simp only [Act.put, List.setIfInBounds_toArray, List.set_cons_zero, List.set_cons_succ]
            refine' held_take (i := 3) (d := some 130) (v := _) rfl rfl (by kernel_rfl) (by kernel_rfl) (by kernel_rfl) (fun _ _ _ h => h) rfl (by assumption) ?hy_24 ?re_24
            case hy_24 =>
              intro w hSw
              try dsimp only at hSw
              go_simp
              try with_reducible rfl
            simp only [Act.put, List.setIfInBounds_toArray, List.set_cons_zero, List.set_cons_succ]
            refine' held_take (i := 4) (d := some 131) (v := _) rfl rfl (by kernel_rfl) (by kernel_rfl) (by kernel_rfl) (fun _ _ _ h => h) rfl (by assumption) ?hy_25 ?re_25
            case hy_25 =>
              intro w hSw
              try dsimp only at hSw
              go_simp
              try with_reducible rfl
            simp only [Act.put, List.setIfInBounds_toArray, List.set_cons_zero, List.set_cons_succ]
            refine' held_take (i := 5) (d := some 132) (v := _) rfl rfl (by kernel_rfl) (by kernel_rfl) (by kernel_rfl) (fun _ _ _ h => h) rfl (by assumption) ?hy_26 ?re_26
            case hy_26 =>
              intro w hSw
              try dsimp only at hSw
              go_simp
              try with_reducible rfl
            simp only [Act.put, List.setIfInBounds_toArray, List.set_cons_zero, List.set_cons_succ]
            refine' held_take (i := 6) (d := some 133) (v := _) rfl rfl (by kernel_rfl) (by kernel_rfl) (by kernel_rfl) (fun _ _ _ h => h) rfl (by assumption) ?hy_27 ?re_27
            case hy_27 =>
              intro w hSw
              try dsimp only at hSw
              go_simp
              try with_reducible rfl
            simp only [Act.put, List.setIfInBounds_toArray, List.set_cons_zero, List.set_cons_succ]
            refine wpAnyH_ready (rs := [7]) (by kernel_rfl) (by simp) ?_
            refine AllReadyH.cons rfl (fun K hK => ?_) AllReadyH.nil
            go_simp
            refine (hgk8.out _ hD0.out).mono ?_
            rintro e v1 ⟨rfl, hb⟩
            have hD1 := Lib.hid (below_trans hD0.out hb)
            clear hb
            go_wp2_with fail
            refine hK.out _ _ ?_ (fun hHeld => ?_)
            · exact hkS.out _ hD1.out
            clear hK K
            try simp only [Act.put, List.setIfInBounds_toArray, List.set_cons_zero, List.set_cons_succ]
            refine' held_take (i := 8) (d := some 135) (v := _) rfl rfl (by kernel_rfl) (by kernel_rfl) (by kernel_rfl) (fun _ _ _ h => h) rfl (by assumption) ?hy_28 ?re_28
            case hy_28 =>
              intro w hSw
              try dsimp only at hSw
              go_simp
              try with_reducible rfl
            simp only [Act.put, List.setIfInBounds_toArray, List.set_cons_zero, List.set_cons_succ]
            try simp only [reduceCtorEq, ne_eq, not_true_eq_false, not_false_eq_true, decide_false, decide_true, bne_self_eq_false, beq_self_eq_true, Bool.not_true, Bool.not_false]
            refine' held_take (i := 9) (d := some 136) (v := _) rfl rfl (by kernel_rfl) (by kernel_rfl) (by kernel_rfl) (fun _ _ _ h => h) rfl (by assumption) ?hy_29 ?re_29
            case hy_29 =>
              intro w hSw
              try dsimp only at hSw
              go_simp
              try with_reducible rfl
            simp only [Act.put, List.setIfInBounds_toArray, List.set_cons_zero, List.set_cons_succ]
            refine' held_take (i := 10) (d := some 137) (v := _) rfl rfl (by kernel_rfl) (by kernel_rfl) (by kernel_rfl) (fun _ _ _ h => h) rfl (by assumption) ?hy_30 ?re_30
            case hy_30 =>
              intro w hSw
              try dsimp only at hSw
              go_simp
              try with_reducible rfl
            simp only [Act.put, List.setIfInBounds_toArray, List.set_cons_zero, List.set_cons_succ]
            refine' held_take (i := 11) (d := some 138) (v := _) rfl rfl (by kernel_rfl) (by kernel_rfl) (by kernel_rfl) (fun _ _ _ h => h) rfl (by assumption) ?hy_31 ?re_31
            case hy_31 =>
              intro w hSw
              try dsimp only at hSw
              go_simp
              try with_reducible rfl
            simp only [Act.put, List.setIfInBounds_toArray, List.set_cons_zero, List.set_cons_succ]
            refine' held_take (i := 13) (d := some 140) (v := _) rfl rfl (by kernel_rfl) (by kernel_rfl) (by kernel_rfl) (fun _ _ _ h => h) rfl (by assumption) ?hy_32 ?re_32
            case hy_32 =>
              intro w hSw
              try dsimp only at hSw
              go_simp
              try with_reducible rfl
            simp only [Act.put, List.setIfInBounds_toArray, List.set_cons_zero, List.set_cons_succ]
            refine' held_take (i := 14) (d := some 141) (v := _) rfl rfl (by kernel_rfl) (by kernel_rfl) (by kernel_rfl) (fun _ _ _ h => h) rfl (by assumption) ?hy_33 ?re_33
            case hy_33 =>
              intro w hSw
              try dsimp only at hSw
              go_simp
              try with_reducible rfl
            simp only [Act.put, List.setIfInBounds_toArray, List.set_cons_zero, List.set_cons_succ]
            refine' held_take (i := 15) (d := some 142) (v := _) rfl rfl (by kernel_rfl) (by kernel_rfl) (by kernel_rfl) (fun _ _ _ h => h) rfl (by assumption) ?hy_34 ?re_34
            case hy_34 =>
              intro w hSw
              try dsimp only at hSw
              go_simp
              try with_reducible rfl
            simp only [Act.put, List.setIfInBounds_toArray, List.set_cons_zero, List.set_cons_succ]
            refine' held_take (i := 16) (d := some 143) (v := _) rfl rfl (by kernel_rfl) (by kernel_rfl) (by kernel_rfl) (fun _ _ _ h => h) rfl (by assumption) ?hy_35 ?re_35
            case hy_35 =>
              intro w hSw
              try dsimp only at hSw
              go_simp
              try with_reducible rfl
            simp only [Act.put, List.setIfInBounds_toArray, List.set_cons_zero, List.set_cons_succ]
            refine wpAnyH_ready (rs := [12]) (by kernel_rfl) (by simp) ?_
            refine AllReadyH.cons rfl (fun K hK => ?_) AllReadyH.nil
            go_simp
            refine (hfl8.out _ hD1.out).mono ?_
            rintro e v2 ⟨v8, rfl, hr8, hb⟩
            have hD2 := Lib.hid (below_trans hD1.out hb)
            have hps8 := Lib.hid (hps.out v8 who ep v2 (floorsAt_of (RowG.at_ (floRow_G.1 hr8))))
            clear hr8
            clear hb
            go_wp2_with fail
            refine hK.out _ _ ?_ (fun hHeld => ?_)
            · exact hkS.out _ hD2.out
            clear hK K
            try simp only [Act.put, List.setIfInBounds_toArray, List.set_cons_zero, List.set_cons_succ]
            refine wpAnyH_ready (rs := [17]) (by kernel_rfl) (by simp) ?_
            refine AllReadyH.cons rfl (fun K hK => ?_) AllReadyH.nil
            go_simp
            refine hps8.out.mono ?_
            rintro e v3 ⟨rfl, hb⟩
            have hD3 := Lib.hid (below_trans hD2.out hb)
            clear hb
            go_wp2_with fail
            refine hK.out _ _ ?_ (fun hHeld => ?_)
            · exact hkS.out _ hD3.out
            clear hK K
            try simp only [Act.put, List.setIfInBounds_toArray, List.set_cons_zero, List.set_cons_succ]
            refine' held_take (i := 18) (d := some 145) (v := _) rfl rfl (by kernel_rfl) (by kernel_rfl) (by kernel_rfl) (fun _ _ _ h => h) rfl (by assumption) ?hy_36 ?re_36
            case hy_36 =>
              intro w hSw
              try dsimp only at hSw
              go_simp
              try with_reducible rfl
            simp only [Act.put, List.setIfInBounds_toArray, List.set_cons_zero, List.set_cons_succ]
            try simp only [hpb, ge_iff_le, reduceCtorEq, ne_eq, not_true_eq_false, not_false_eq_true, decide_false, decide_true, bne_self_eq_false, beq_self_eq_true, Bool.not_true, Bool.not_false]
            refine' held_take (i := 19) (d := some 146) (v := _) rfl rfl (by kernel_rfl) (by kernel_rfl) (by kernel_rfl) (fun _ _ _ h => h) rfl (by assumption) ?hy_37 ?re_37
            case hy_37 =>
              intro w hSw
              try dsimp only at hSw
              go_simp
              try with_reducible rfl
            simp only [Act.put, List.setIfInBounds_toArray, List.set_cons_zero, List.set_cons_succ]
            try simp only [hpb, ge_iff_le, reduceCtorEq, ne_eq, not_true_eq_false, not_false_eq_true, decide_false, decide_true, bne_self_eq_false, beq_self_eq_true, Bool.not_true, Bool.not_false]
            refine wpAnyH_done (by kernel_rfl) ?_ _
            refine NoPanic.normal ?_
            have hfin := Lib.hid (below_trans hC8.out hD3.out)
            go_wp2_with fail
            go_meet
            exact ⟨rfl, hfin⟩
          · have hpb : decide (ofF f.floors who ≤ ep) = false := decide_eq_false h3
            have hne : ac ≠ 0 := fun h => h3 (hiff.1 h).2.2
            obtain ⟨Ta, qa, hea2⟩ := errV_form E hne
            obtain rfl : ea = .iface Ta qa := by rw [← hea.out, hea2]
            clear hea2
            clear hne hiff hfc0 h3
            refine wp_region_noPanic ?_
            refine wp_region_held_drew (S := fun wx => (wx.cell? ⟨w.heap.size, 0, none⟩ = some (.string (bs who)) ∧ wx.cell? ⟨w.heap.size, 1, none⟩ = some (.string ⟨#[100, 111, 111, 114]⟩) ∧ wx.cell? ⟨w.heap.size, 2, none⟩ = some (.int .i64 ep) ∧ wx.cell? ⟨w.heap.size, 3, none⟩ = some (.int .i64 bg) ∧ wx.cell? ⟨w.heap.size, 4, none⟩ = some (.int .i64 fn) ∧ wx.cell? ⟨w.heap.size, 5, none⟩ = some (.int .i64 sr)) ∧ wx.cell? ⟨bxn, 2, none⟩ = some (.int .i64 n)) (by kernel_rfl) ?_ (fun hHeld => ?_)
            · exact hcD
            refine' held_take (i := 0) (d := some 127) (v := _) rfl rfl (by kernel_rfl) (by kernel_rfl) (by kernel_rfl) (fun _ _ _ h => h) rfl (by assumption) ?hy_38 ?re_38
            case hy_38 =>
              intro w hSw
              try dsimp only at hSw
              go_simp
              try with_reducible rfl
            simp only [Act.put, List.setIfInBounds_toArray, List.set_cons_zero, List.set_cons_succ]
            refine' held_take (i := 1) (d := some 128) (v := _) rfl rfl (by kernel_rfl) (by kernel_rfl) (by kernel_rfl) (fun _ _ _ h => h) rfl (by assumption) ?hy_39 ?re_39
            case hy_39 =>
              intro w hSw
              try dsimp only at hSw
              go_simp
              try with_reducible rfl
            simp only [Act.put, List.setIfInBounds_toArray, List.set_cons_zero, List.set_cons_succ]
            try simp only [reduceCtorEq, ne_eq, not_true_eq_false, not_false_eq_true, decide_false, decide_true, bne_self_eq_false, beq_self_eq_true, Bool.not_true, Bool.not_false]
            refine' held_take (i := 2) (d := some 129) (v := _) rfl rfl (by kernel_rfl) (by kernel_rfl) (by kernel_rfl) (fun _ _ _ h => h) rfl (by assumption) ?hy_40 ?re_40
            case hy_40 =>
              intro w hSw
              try dsimp only at hSw
              go_simp
              try with_reducible rfl
            simp only [Act.put, List.setIfInBounds_toArray, List.set_cons_zero, List.set_cons_succ]
            refine' held_take (i := 3) (d := some 130) (v := _) rfl rfl (by kernel_rfl) (by kernel_rfl) (by kernel_rfl) (fun _ _ _ h => h) rfl (by assumption) ?hy_41 ?re_41
            case hy_41 =>
              intro w hSw
              try dsimp only at hSw
              go_simp
              try with_reducible rfl
            simp only [Act.put, List.setIfInBounds_toArray, List.set_cons_zero, List.set_cons_succ]
            refine' held_take (i := 4) (d := some 131) (v := _) rfl rfl (by kernel_rfl) (by kernel_rfl) (by kernel_rfl) (fun _ _ _ h => h) rfl (by assumption) ?hy_42 ?re_42
            case hy_42 =>
              intro w hSw
              try dsimp only at hSw
              go_simp
              try with_reducible rfl
            simp only [Act.put, List.setIfInBounds_toArray, List.set_cons_zero, List.set_cons_succ]
            refine' held_take (i := 5) (d := some 132) (v := _) rfl rfl (by kernel_rfl) (by kernel_rfl) (by kernel_rfl) (fun _ _ _ h => h) rfl (by assumption) ?hy_43 ?re_43
            case hy_43 =>
              intro w hSw
              try dsimp only at hSw
              go_simp
              try with_reducible rfl
            simp only [Act.put, List.setIfInBounds_toArray, List.set_cons_zero, List.set_cons_succ]
            refine' held_take (i := 6) (d := some 133) (v := _) rfl rfl (by kernel_rfl) (by kernel_rfl) (by kernel_rfl) (fun _ _ _ h => h) rfl (by assumption) ?hy_44 ?re_44
            case hy_44 =>
              intro w hSw
              try dsimp only at hSw
              go_simp
              try with_reducible rfl
            simp only [Act.put, List.setIfInBounds_toArray, List.set_cons_zero, List.set_cons_succ]
            refine wpAnyH_ready (rs := [7]) (by kernel_rfl) (by simp) ?_
            refine AllReadyH.cons rfl (fun K hK => ?_) AllReadyH.nil
            go_simp
            refine (hgk8.out _ hD0.out).mono ?_
            rintro e v1 ⟨rfl, hb⟩
            have hD1 := Lib.hid (below_trans hD0.out hb)
            clear hb
            go_wp2_with fail
            refine hK.out _ _ ?_ (fun hHeld => ?_)
            · exact hkS.out _ hD1.out
            clear hK K
            try simp only [Act.put, List.setIfInBounds_toArray, List.set_cons_zero, List.set_cons_succ]
            refine' held_take (i := 8) (d := some 135) (v := _) rfl rfl (by kernel_rfl) (by kernel_rfl) (by kernel_rfl) (fun _ _ _ h => h) rfl (by assumption) ?hy_45 ?re_45
            case hy_45 =>
              intro w hSw
              try dsimp only at hSw
              go_simp
              try with_reducible rfl
            simp only [Act.put, List.setIfInBounds_toArray, List.set_cons_zero, List.set_cons_succ]
            try simp only [reduceCtorEq, ne_eq, not_true_eq_false, not_false_eq_true, decide_false, decide_true, bne_self_eq_false, beq_self_eq_true, Bool.not_true, Bool.not_false]
            refine' held_take (i := 9) (d := some 136) (v := _) rfl rfl (by kernel_rfl) (by kernel_rfl) (by kernel_rfl) (fun _ _ _ h => h) rfl (by assumption) ?hy_46 ?re_46
            case hy_46 =>
              intro w hSw
              try dsimp only at hSw
              go_simp
              try with_reducible rfl
            simp only [Act.put, List.setIfInBounds_toArray, List.set_cons_zero, List.set_cons_succ]
            refine' held_take (i := 10) (d := some 137) (v := _) rfl rfl (by kernel_rfl) (by kernel_rfl) (by kernel_rfl) (fun _ _ _ h => h) rfl (by assumption) ?hy_47 ?re_47
            case hy_47 =>
              intro w hSw
              try dsimp only at hSw
              go_simp
              try with_reducible rfl
            simp only [Act.put, List.setIfInBounds_toArray, List.set_cons_zero, List.set_cons_succ]
            refine' held_take (i := 11) (d := some 138) (v := _) rfl rfl (by kernel_rfl) (by kernel_rfl) (by kernel_rfl) (fun _ _ _ h => h) rfl (by assumption) ?hy_48 ?re_48
            case hy_48 =>
              intro w hSw
              try dsimp only at hSw
              go_simp
              try with_reducible rfl
            simp only [Act.put, List.setIfInBounds_toArray, List.set_cons_zero, List.set_cons_succ]
            refine' held_take (i := 13) (d := some 140) (v := _) rfl rfl (by kernel_rfl) (by kernel_rfl) (by kernel_rfl) (fun _ _ _ h => h) rfl (by assumption) ?hy_49 ?re_49
            case hy_49 =>
              intro w hSw
              try dsimp only at hSw
              go_simp
              try with_reducible rfl
            simp only [Act.put, List.setIfInBounds_toArray, List.set_cons_zero, List.set_cons_succ]
            refine' held_take (i := 14) (d := some 141) (v := _) rfl rfl (by kernel_rfl) (by kernel_rfl) (by kernel_rfl) (fun _ _ _ h => h) rfl (by assumption) ?hy_50 ?re_50
            case hy_50 =>
              intro w hSw
              try dsimp only at hSw
              go_simp
              try with_reducible rfl
            simp only [Act.put, List.setIfInBounds_toArray, List.set_cons_zero, List.set_cons_succ]
            refine' held_take (i := 15) (d := some 142) (v := _) rfl rfl (by kernel_rfl) (by kernel_rfl) (by kernel_rfl) (fun _ _ _ h => h) rfl (by assumption) ?hy_51 ?re_51
            case hy_51 =>
              intro w hSw
              try dsimp only at hSw
              go_simp
              try with_reducible rfl
            simp only [Act.put, List.setIfInBounds_toArray, List.set_cons_zero, List.set_cons_succ]
            refine' held_take (i := 16) (d := some 143) (v := _) rfl rfl (by kernel_rfl) (by kernel_rfl) (by kernel_rfl) (fun _ _ _ h => h) rfl (by assumption) ?hy_52 ?re_52
            case hy_52 =>
              intro w hSw
              try dsimp only at hSw
              go_simp
              try with_reducible rfl
            simp only [Act.put, List.setIfInBounds_toArray, List.set_cons_zero, List.set_cons_succ]
            refine wpAnyH_ready (rs := [12]) (by kernel_rfl) (by simp) ?_
            refine AllReadyH.cons rfl (fun K hK => ?_) AllReadyH.nil
            go_simp
            refine (hfl8.out _ hD1.out).mono ?_
            rintro e v2 ⟨v8, rfl, hr8, hb⟩
            have hD2 := Lib.hid (below_trans hD1.out hb)
            have hps8 := Lib.hid (hps.out v8 who ep v2 (floorsAt_of (RowG.at_ (floRow_G.1 hr8))))
            clear hr8
            clear hb
            go_wp2_with fail
            refine hK.out _ _ ?_ (fun hHeld => ?_)
            · exact hkS.out _ hD2.out
            clear hK K
            try simp only [Act.put, List.setIfInBounds_toArray, List.set_cons_zero, List.set_cons_succ]
            refine wpAnyH_ready (rs := [17]) (by kernel_rfl) (by simp) ?_
            refine AllReadyH.cons rfl (fun K hK => ?_) AllReadyH.nil
            go_simp
            refine hps8.out.mono ?_
            rintro e v3 ⟨rfl, hb⟩
            have hD3 := Lib.hid (below_trans hD2.out hb)
            clear hb
            go_wp2_with fail
            refine hK.out _ _ ?_ (fun hHeld => ?_)
            · exact hkS.out _ hD3.out
            clear hK K
            try simp only [Act.put, List.setIfInBounds_toArray, List.set_cons_zero, List.set_cons_succ]
            refine' held_take (i := 18) (d := some 145) (v := _) rfl rfl (by kernel_rfl) (by kernel_rfl) (by kernel_rfl) (fun _ _ _ h => h) rfl (by assumption) ?hy_53 ?re_53
            case hy_53 =>
              intro w hSw
              try dsimp only at hSw
              go_simp
              try with_reducible rfl
            simp only [Act.put, List.setIfInBounds_toArray, List.set_cons_zero, List.set_cons_succ]
            try simp only [hpb, ge_iff_le, reduceCtorEq, ne_eq, not_true_eq_false, not_false_eq_true, decide_false, decide_true, bne_self_eq_false, beq_self_eq_true, Bool.not_true, Bool.not_false]
            refine' held_take (i := 19) (d := some 146) (v := _) rfl rfl (by kernel_rfl) (by kernel_rfl) (by kernel_rfl) (fun _ _ _ h => h) rfl (by assumption) ?hy_54 ?re_54
            case hy_54 =>
              intro w hSw
              try dsimp only at hSw
              go_simp
              try with_reducible rfl
            simp only [Act.put, List.setIfInBounds_toArray, List.set_cons_zero, List.set_cons_succ]
            try simp only [hpb, ge_iff_le, reduceCtorEq, ne_eq, not_true_eq_false, not_false_eq_true, decide_false, decide_true, bne_self_eq_false, beq_self_eq_true, Bool.not_true, Bool.not_false]
            refine wpAnyH_done (by kernel_rfl) ?_ _
            refine NoPanic.normal ?_
            have hfin := Lib.hid (below_trans hC8.out hD3.out)
            go_wp2_with fail
            go_meet
            exact ⟨rfl, hfin⟩
        obtain ⟨rfl, hC9⟩ := hcut
        go_wp2_with fail
        go_meet
        exact hC9
      case rest =>
        have hC6 := Lib.hid hcut.out
        have has6 := has.out ks wc (hBw.out _ hC6.out) (hSw.out _ hC6.out) (by omega)
        obtain ⟨y1, y2⟩ := hxw.out _ hC6.out
        have hz6 := fun h => askG_zero (g := ⟨doorN, 5, old, f⟩) (s := ks) (now := n) h
        have hb6 := fun h => askG_bad (g := ⟨doorN, 5, old, f⟩) (s := ks) (now := n) h
        have hol := openT_len 5 ks
        dsimp only at hz6
        generalize openT 5 ks = OT at *
        obtain ⟨⟨o1, o2, o3, o4, o5, o6⟩, oc⟩ := OT
        generalize askG ⟨doorN, 5, old, f⟩ ks n = R at *
        unfold AskRes at has6
        obtain ⟨⟨rw1, rw2, rw3, rw4, rw5, rw6⟩, ac⟩ := R
        dsimp only [Tick.val] at has6 hz6 hb6 hol
        have hz6 := Lib.hid hz6
        have hb6 := Lib.hid hb6
        have hol := Lib.hid hol
        clear hcut hn1
        generalize wc = Wq at *
        by_cases hac : ac = 0
        case neg =>
          obtain ⟨T1, q1, hev2⟩ := errV_form E hac
          rw [hev2] at has6
          have has6 := Lib.hid has6
          have hno := hb6.out hac
          injection hno with h1 h2 h3 h4 h5 h6
          subst h1 h2 h3 h4 h5 h6
          clear hev2 hac hz6 hb6
          go_wp2_with fail
          refine has6.out.mono ?_
          rintro e w7 ⟨rfl, hb7⟩
          have hA7 := below_trans hC6.out (hb7.alloc hb7.size (.cells #[.string (bs []), .string (bs []), .int .i64 0, .int .i64 0, .int .i64 0, .int .i64 0] 25))
          have hrow7 := heap_alloc_new w7 (.cells #[.string (bs []), .string (bs []), .int .i64 0, .int .i64 0, .int .i64 0, .int .i64 0] 25)
          have hC7 := Lib.hid hA7
          obtain ⟨⟨g0, g1, g2, g3, g4, g5⟩, _⟩ := tick_kept (Below.refl _ _) hrow7
          have hbn : bs [] = (⟨#[]⟩ : ByteArray) := rfl
          rw [hbn] at *
          clear hb7 hA7 y1 y2 has6 hrow7 hbn
          go_wp2_with fail
          have hKf := Lib.hid (hBw.out _ hC7.out)
          have hSf := Lib.hid (hSw.out _ hC7.out)
          have hrf := Lib.hid (hrw.out _ hC7.out)
          go_roundg (M.length - j)
          case measure => omega
          case rel => exact ⟨j + 1, f, by simp, hlt, by omega, hOf, hSf, hrf, hKf⟩
        subst hac
        rw [errV_zero] at has6
        have has6 := Lib.hid has6
        obtain ⟨hf0, _, hsv, hgz, hpz, hOT⟩ := hz6.out rfl
        injection hOT with h1 h2 h3 h4 h5 h6
        subst h1 h2 h3 h4 h5 h6
        try dsimp only at hsv hgz hpz
        have hgd7 := Lib.hid (fun wx (hx : Below w.heap.size w wx) => hgd.out ⟨rw1, rw2, rw3, rw4, rw5, rw6⟩ n wx hx ⟨by have := hol.out.1; unfold maxLen; show rw1.length ≤ _; omega, by have := hol.out.2; unfold maxLen; show rw2.length ≤ _; omega⟩)
        rw [hgz, errV_zero] at hgd7
        have hfr7 := hfr.out
        rw [hf0, errV_zero] at hfr7
        have hfr7 := Lib.hid hfr7
        dsimp only [Tick.val] at hgd7
        have hpd : decide (ofF f.floors rw1 ≤ rw3) = true := decide_eq_true hpz
        subst hsv
        clear hz6 hb6 hgz hf0 hpz
        go_wp2_with fail
        refine has6.out.mono ?_
        rintro e w7 ⟨rfl, hb7⟩
        have hA7 := below_trans hC6.out (hb7.alloc hb7.size (.cells #[.string (bs rw1), .string (bs doorN), .int .i64 rw3, .int .i64 rw4, .int .i64 rw5, .int .i64 rw6] 25))
        have hrow7 := heap_alloc_new w7 (.cells #[.string (bs rw1), .string (bs doorN), .int .i64 rw3, .int .i64 rw4, .int .i64 rw5, .int .i64 rw6] 25)
        have hC7 := Lib.hid hA7
        clear hb7 hA7 y1 y2 has6
        go_upto_region 30 with fail
        generalize hp7 : w7.heap.size = p7 at *
        generalize w7.alloc (.cells #[.string (bs rw1), .string (bs doorN), .int .i64 rw3, .int .i64 rw4, .int .i64 rw5, .int .i64 rw6] 25) = W7 at *
        have hkS := Lib.hid (fun wx (hx : Below W7.heap.size W7 wx) => (show (wx.cell? ⟨p7, 0, none⟩ = some (.string (bs rw1)) ∧ wx.cell? ⟨p7, 1, none⟩ = some (.string ⟨#[100, 111, 111, 114]⟩) ∧ wx.cell? ⟨p7, 2, none⟩ = some (.int .i64 rw3) ∧ wx.cell? ⟨p7, 3, none⟩ = some (.int .i64 rw4) ∧ wx.cell? ⟨p7, 4, none⟩ = some (.int .i64 rw5) ∧ wx.cell? ⟨p7, 5, none⟩ = some (.int .i64 rw6)) ∧ wx.cell? ⟨bxn, 2, none⟩ = some (.int .i64 n) from ⟨(tick_kept hx hrow7).1, (hxw.out _ (below_trans hC7.out hx)).2⟩))
        have hgd7 : Hid (∀ wx, Below w.heap.size w wx → Calls Tryz.prog 17 #[.agg #[.string (bs rw1), .string ⟨#[100, 111, 111, 114]⟩, .int .i64 rw3, .int .i64 rw4, .int .i64 rw5, .int .i64 rw6], .int .i64 n] wx fun e w' => e = .returned .nilIface ∧ Below wx.heap.size wx w') := hgd7
        have hD0 := Lib.hid (show Below W7.heap.size W7 W7.drew from (Below.refl _ _).drew)
        have hcD := hkS.out _ hD0.out
        have hf7 := Lib.hid (fun wx (hx : Below W7.heap.size W7 wx) => hfr7.out wx (hBw.out _ (below_trans hC7.out hx)) (hSw.out _ (below_trans hC7.out hx)))
        have hg7 := Lib.hid (fun wx (hx : Below W7.heap.size W7 wx) => hgd7.out wx (hBw.out _ (below_trans hC7.out hx)))
        have hl7 := Lib.hid (fun wx (hx : Below W7.heap.size W7 wx) => hflw.out _ (below_trans hC7.out hx))
        clear hrow7 hp7
        refine wp_region_noPanic ?_
        refine wp_region_held_drew (S := fun wx => (wx.cell? ⟨p7, 0, none⟩ = some (.string (bs rw1)) ∧ wx.cell? ⟨p7, 1, none⟩ = some (.string ⟨#[100, 111, 111, 114]⟩) ∧ wx.cell? ⟨p7, 2, none⟩ = some (.int .i64 rw3) ∧ wx.cell? ⟨p7, 3, none⟩ = some (.int .i64 rw4) ∧ wx.cell? ⟨p7, 4, none⟩ = some (.int .i64 rw5) ∧ wx.cell? ⟨p7, 5, none⟩ = some (.int .i64 rw6)) ∧ wx.cell? ⟨bxn, 2, none⟩ = some (.int .i64 n)) (by kernel_rfl) ?_ (fun hHeld => ?_)
        · exact hcD
        refine' held_take (i := 0) (d := some 161) (v := _) rfl rfl (by kernel_rfl) (by kernel_rfl) (by kernel_rfl) (fun _ _ _ h => h) rfl (by assumption) ?hy_140 ?re_140
        case hy_140 =>
          intro w hSw
          try dsimp only at hSw
          go_simp
          try with_reducible rfl
        simp only [Act.put, List.setIfInBounds_toArray, List.set_cons_zero, List.set_cons_succ]
        refine' held_take (i := 1) (d := some 162) (v := _) rfl rfl (by kernel_rfl) (by kernel_rfl) (by kernel_rfl) (fun _ _ _ h => h) rfl (by assumption) ?hy_141 ?re_141
        case hy_141 =>
          intro w hSw
          try dsimp only at hSw
          go_simp
          try with_reducible rfl
        simp only [Act.put, List.setIfInBounds_toArray, List.set_cons_zero, List.set_cons_succ]
        refine' held_take (i := 2) (d := some 163) (v := _) rfl rfl (by kernel_rfl) (by kernel_rfl) (by kernel_rfl) (fun _ _ _ h => h) rfl (by assumption) ?hy_142 ?re_142
        case hy_142 =>
          intro w hSw
          try dsimp only at hSw
          go_simp
          try with_reducible rfl
        simp only [Act.put, List.setIfInBounds_toArray, List.set_cons_zero, List.set_cons_succ]
        refine wpAnyH_ready (rs := [3]) (by kernel_rfl) (by simp) ?_
        refine AllReadyH.cons rfl (fun K hK => ?_) AllReadyH.nil
        go_simp
        refine (hf7.out _ hD0.out).mono ?_
        rintro e v1 ⟨rfl, hb⟩
        have hD1 := Lib.hid (below_trans hD0.out hb)
        clear hb
        go_wp2_with fail
        refine hK.out _ _ ?_ (fun hHeld => ?_)
        · exact hkS.out _ hD1.out
        clear hK K
        try simp only [Act.put, List.setIfInBounds_toArray, List.set_cons_zero, List.set_cons_succ]
        refine' held_take (i := 4) (d := some 165) (v := _) rfl rfl (by kernel_rfl) (by kernel_rfl) (by kernel_rfl) (fun _ _ _ h => h) rfl (by assumption) ?hy_143 ?re_143
        case hy_143 =>
          intro w hSw
          try dsimp only at hSw
          go_simp
          try with_reducible rfl
        simp only [Act.put, List.setIfInBounds_toArray, List.set_cons_zero, List.set_cons_succ]
        try simp only [reduceCtorEq, ne_eq, not_true_eq_false, not_false_eq_true, decide_false, decide_true, bne_self_eq_false, beq_self_eq_true, Bool.not_true, Bool.not_false]
        refine' held_take (i := 5) (d := some 166) (v := _) rfl rfl (by kernel_rfl) (by kernel_rfl) (by kernel_rfl) (fun _ _ _ h => h) rfl (by assumption) ?hy_144 ?re_144
        case hy_144 =>
          intro w hSw
          try dsimp only at hSw
          go_simp
          try with_reducible rfl
        simp only [Act.put, List.setIfInBounds_toArray, List.set_cons_zero, List.set_cons_succ]
        refine' held_take (i := 6) (d := some 167) (v := _) rfl rfl (by kernel_rfl) (by kernel_rfl) (by kernel_rfl) (fun _ _ _ h => h) rfl (by assumption) ?hy_145 ?re_145
        case hy_145 =>
          intro w hSw
          try dsimp only at hSw
          go_simp
          try with_reducible rfl
        simp only [Act.put, List.setIfInBounds_toArray, List.set_cons_zero, List.set_cons_succ]
        refine' held_take (i := 7) (d := some 168) (v := _) rfl rfl (by kernel_rfl) (by kernel_rfl) (by kernel_rfl) (fun _ _ _ h => h) rfl (by assumption) ?hy_146 ?re_146
        case hy_146 =>
          intro w hSw
          try dsimp only at hSw
          go_simp
          try with_reducible rfl
        simp only [Act.put, List.setIfInBounds_toArray, List.set_cons_zero, List.set_cons_succ]
        refine' held_take (i := 8) (d := some 169) (v := _) rfl rfl (by kernel_rfl) (by kernel_rfl) (by kernel_rfl) (fun _ _ _ h => h) rfl (by assumption) ?hy_147 ?re_147
        case hy_147 =>
          intro w hSw
          try dsimp only at hSw
          go_simp
          try with_reducible rfl
        simp only [Act.put, List.setIfInBounds_toArray, List.set_cons_zero, List.set_cons_succ]
        try simp only [reduceCtorEq, ne_eq, not_true_eq_false, not_false_eq_true, decide_false, decide_true, bne_self_eq_false, beq_self_eq_true, Bool.not_true, Bool.not_false]
        refine' held_take (i := 9) (d := some 170) (v := _) rfl rfl (by kernel_rfl) (by kernel_rfl) (by kernel_rfl) (fun _ _ _ h => h) rfl (by assumption) ?hy_148 ?re_148
        case hy_148 =>
          intro w hSw
          try dsimp only at hSw
          go_simp
          try with_reducible rfl
        simp only [Act.put, List.setIfInBounds_toArray, List.set_cons_zero, List.set_cons_succ]
        refine' held_take (i := 10) (d := some 171) (v := _) rfl rfl (by kernel_rfl) (by kernel_rfl) (by kernel_rfl) (fun _ _ _ h => h) rfl (by assumption) ?hy_149 ?re_149
        case hy_149 =>
          intro w hSw
          try dsimp only at hSw
          go_simp
          try with_reducible rfl
        simp only [Act.put, List.setIfInBounds_toArray, List.set_cons_zero, List.set_cons_succ]
        refine' held_take (i := 11) (d := some 172) (v := _) rfl rfl (by kernel_rfl) (by kernel_rfl) (by kernel_rfl) (fun _ _ _ h => h) rfl (by assumption) ?hy_150 ?re_150
        case hy_150 =>
          intro w hSw
          try dsimp only at hSw
          go_simp
          try with_reducible rfl
        simp only [Act.put, List.setIfInBounds_toArray, List.set_cons_zero, List.set_cons_succ]
        refine' held_take (i := 12) (d := some 173) (v := _) rfl rfl (by kernel_rfl) (by kernel_rfl) (by kernel_rfl) (fun _ _ _ h => h) rfl (by assumption) ?hy_151 ?re_151
        case hy_151 =>
          intro w hSw
          try dsimp only at hSw
          go_simp
          try with_reducible rfl
        simp only [Act.put, List.setIfInBounds_toArray, List.set_cons_zero, List.set_cons_succ]
        refine' held_take (i := 13) (d := some 174) (v := _) rfl rfl (by kernel_rfl) (by kernel_rfl) (by kernel_rfl) (fun _ _ _ h => h) rfl (by assumption) ?hy_152 ?re_152
        case hy_152 =>
          intro w hSw
          try dsimp only at hSw
          go_simp
          try with_reducible rfl
        simp only [Act.put, List.setIfInBounds_toArray, List.set_cons_zero, List.set_cons_succ]
        refine wpAnyH_ready (rs := [14]) (by kernel_rfl) (by simp) ?_
        refine AllReadyH.cons rfl (fun K hK => ?_) AllReadyH.nil
        go_simp
        refine (hg7.out _ hD1.out).mono ?_
        rintro e v2 ⟨rfl, hb⟩
        have hD2 := Lib.hid (below_trans hD1.out hb)
        clear hb
        go_wp2_with fail
        refine hK.out _ _ ?_ (fun hHeld => ?_)
        · exact hkS.out _ hD2.out
        clear hK K
        try simp only [Act.put, List.setIfInBounds_toArray, List.set_cons_zero, List.set_cons_succ]
        refine' held_take (i := 15) (d := some 176) (v := _) rfl rfl (by kernel_rfl) (by kernel_rfl) (by kernel_rfl) (fun _ _ _ h => h) rfl (by assumption) ?hy_153 ?re_153
        case hy_153 =>
          intro w hSw
          try dsimp only at hSw
          go_simp
          try with_reducible rfl
        simp only [Act.put, List.setIfInBounds_toArray, List.set_cons_zero, List.set_cons_succ]
        try simp only [reduceCtorEq, ne_eq, not_true_eq_false, not_false_eq_true, decide_false, decide_true, bne_self_eq_false, beq_self_eq_true, Bool.not_true, Bool.not_false]
        refine' held_take (i := 16) (d := some 177) (v := _) rfl rfl (by kernel_rfl) (by kernel_rfl) (by kernel_rfl) (fun _ _ _ h => h) rfl (by assumption) ?hy_154 ?re_154
        case hy_154 =>
          intro w hSw
          try dsimp only at hSw
          go_simp
          try with_reducible rfl
        simp only [Act.put, List.setIfInBounds_toArray, List.set_cons_zero, List.set_cons_succ]
        refine' held_take (i := 17) (d := some 178) (v := _) rfl rfl (by kernel_rfl) (by kernel_rfl) (by kernel_rfl) (fun _ _ _ h => h) rfl (by assumption) ?hy_155 ?re_155
        case hy_155 =>
          intro w hSw
          try dsimp only at hSw
          go_simp
          try with_reducible rfl
        simp only [Act.put, List.setIfInBounds_toArray, List.set_cons_zero, List.set_cons_succ]
        refine' held_take (i := 18) (d := some 179) (v := _) rfl rfl (by kernel_rfl) (by kernel_rfl) (by kernel_rfl) (fun _ _ _ h => h) rfl (by assumption) ?hy_156 ?re_156
        case hy_156 =>
          intro w hSw
          try dsimp only at hSw
          go_simp
          try with_reducible rfl
        simp only [Act.put, List.setIfInBounds_toArray, List.set_cons_zero, List.set_cons_succ]
        refine' held_take (i := 20) (d := some 181) (v := _) rfl rfl (by kernel_rfl) (by kernel_rfl) (by kernel_rfl) (fun _ _ _ h => h) rfl (by assumption) ?hy_157 ?re_157
        case hy_157 =>
          intro w hSw
          try dsimp only at hSw
          go_simp
          try with_reducible rfl
        simp only [Act.put, List.setIfInBounds_toArray, List.set_cons_zero, List.set_cons_succ]
        refine' held_take (i := 21) (d := some 182) (v := _) rfl rfl (by kernel_rfl) (by kernel_rfl) (by kernel_rfl) (fun _ _ _ h => h) rfl (by assumption) ?hy_158 ?re_158
        case hy_158 =>
          intro w hSw
          try dsimp only at hSw
          go_simp
          try with_reducible rfl
        simp only [Act.put, List.setIfInBounds_toArray, List.set_cons_zero, List.set_cons_succ]
        refine' held_take (i := 22) (d := some 183) (v := _) rfl rfl (by kernel_rfl) (by kernel_rfl) (by kernel_rfl) (fun _ _ _ h => h) rfl (by assumption) ?hy_159 ?re_159
        case hy_159 =>
          intro w hSw
          try dsimp only at hSw
          go_simp
          try with_reducible rfl
        simp only [Act.put, List.setIfInBounds_toArray, List.set_cons_zero, List.set_cons_succ]
        refine' held_take (i := 23) (d := some 184) (v := _) rfl rfl (by kernel_rfl) (by kernel_rfl) (by kernel_rfl) (fun _ _ _ h => h) rfl (by assumption) ?hy_160 ?re_160
        case hy_160 =>
          intro w hSw
          try dsimp only at hSw
          go_simp
          try with_reducible rfl
        simp only [Act.put, List.setIfInBounds_toArray, List.set_cons_zero, List.set_cons_succ]
        refine wpAnyH_ready (rs := [19]) (by kernel_rfl) (by simp) ?_
        refine AllReadyH.cons rfl (fun K hK => ?_) AllReadyH.nil
        go_simp
        refine (hl7.out _ hD2.out).mono ?_
        rintro e v3 ⟨v8, rfl, hr8, hb⟩
        have hD3 := Lib.hid (below_trans hD2.out hb)
        have hps8 := Lib.hid (hps.out v8 rw1 rw3 v3 (floorsAt_of (RowG.at_ (floRow_G.1 hr8))))
        clear hr8
        clear hb
        go_wp2_with fail
        refine hK.out _ _ ?_ (fun hHeld => ?_)
        · exact hkS.out _ hD3.out
        clear hK K
        try simp only [Act.put, List.setIfInBounds_toArray, List.set_cons_zero, List.set_cons_succ]
        refine wpAnyH_ready (rs := [24]) (by kernel_rfl) (by simp) ?_
        refine AllReadyH.cons rfl (fun K hK => ?_) AllReadyH.nil
        go_simp
        refine hps8.out.mono ?_
        rintro e v4 ⟨rfl, hb⟩
        have hD4 := Lib.hid (below_trans hD3.out hb)
        clear hb
        go_wp2_with fail
        refine hK.out _ _ ?_ (fun hHeld => ?_)
        · exact hkS.out _ hD4.out
        clear hK K
        try simp only [Act.put, List.setIfInBounds_toArray, List.set_cons_zero, List.set_cons_succ]
        refine' held_take (i := 25) (d := some 186) (v := _) rfl rfl (by kernel_rfl) (by kernel_rfl) (by kernel_rfl) (fun _ _ _ h => h) rfl (by assumption) ?hy_161 ?re_161
        case hy_161 =>
          intro w hSw
          try dsimp only at hSw
          go_simp
          try with_reducible rfl
        simp only [Act.put, List.setIfInBounds_toArray, List.set_cons_zero, List.set_cons_succ]
        try simp only [hpd, ge_iff_le, reduceCtorEq, ne_eq, not_true_eq_false, not_false_eq_true, decide_false, decide_true, bne_self_eq_false, beq_self_eq_true, Bool.not_true, Bool.not_false]
        refine' held_take (i := 26) (d := some 187) (v := _) rfl rfl (by kernel_rfl) (by kernel_rfl) (by kernel_rfl) (fun _ _ _ h => h) rfl (by assumption) ?hy_162 ?re_162
        case hy_162 =>
          intro w hSw
          try dsimp only at hSw
          go_simp
          try with_reducible rfl
        simp only [Act.put, List.setIfInBounds_toArray, List.set_cons_zero, List.set_cons_succ]
        refine wpAnyH_done (by kernel_rfl) ?_ _
        refine NoPanic.normal ?_
        have hC8 := Lib.hid (below_trans hC7.out hD4.out)
        have hKf := Lib.hid (hBw.out _ hC8.out)
        have hSf := Lib.hid (hSw.out _ hC8.out)
        have hrf := Lib.hid (hrw.out _ hC8.out)
        go_wp2_with fail
        go_roundg (M.length - j)
        case measure => omega
        case rel => exact ⟨j + 1, f, by simp, hlt, by omega, hOf, hSf, hrf, hKf⟩
    · have hge : ¬ ((j : Int) < (M.length : Int)) := by omega
      clear hlt hj hg
      go_wp2_with fail
      go_ret
      exact ⟨rfl, hKw.out⟩
end Go.Proofs.YtadnjdchjoechaaGreatDoor
