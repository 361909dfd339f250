/- The reference's tickets: TicketError, GoodError, RenewOf. -/
import Derived.Test.YtgainbpflncgcaaGreatDoorTickW
import Derived.Test.YtgainbpflncgcaaGreatDoorRefW2
import Derived.Test.YtgainbpflncgcaaGreatDoorTwo
namespace Go.Proofs.YtgainbpflncgcaaGreatDoor
open Go.RowKit

theorem tickErr_two {t : Tick} (h1 : isName t.who = true) (h2 : isName t.svc = true) (h : ¬ ((1 ≤ t.epoch ∧ t.epoch ≤ 1073741824) ∧ (1 ≤ t.serial ∧ t.serial ≤ 1073741824) ∧ (0 ≤ t.beg ∧ t.beg ≤ 1000000) ∧ t.beg ≤ t.fin ∧ t.fin ≤ 1000000)) : tickErr t = 2 := by
  unfold tickErr
  rw [h1, h2]
  rw [if_pos (show (true && true) = true from rfl), if_neg]
  exact fun e => h ((tickNum_iff t).1 e)
theorem tickErr_ok {t : Tick} (h1 : isName t.who = true) (h2 : isName t.svc = true) (h : (1 ≤ t.epoch ∧ t.epoch ≤ 1073741824) ∧ (1 ≤ t.serial ∧ t.serial ≤ 1073741824) ∧ (0 ≤ t.beg ∧ t.beg ≤ 1000000) ∧ t.beg ≤ t.fin ∧ t.fin ≤ 1000000) : tickErr t = 0 := by
  unfold tickErr
  rw [h1, h2]
  rw [if_pos (show (true && true) = true from rfl), if_pos ((tickNum_iff t).2 h)]
theorem tickErr_four {t : Tick} (h : isName t.who = false ∨ isName t.svc = false) : tickErr t = 4 := by
  unfold tickErr
  rw [if_neg]
  rcases h with h | h
  · rw [h]; simp
  · rw [h]; simp
set_option maxHeartbeats 1000000 in
set_option maxRecDepth 100000 in
theorem errR_tick (t : Tick) (w : World) (hl : TickLen t) :
    Calls Tryz.prog 50 #[t.val] w fun e w' => e = .returned (.int .i64 (tickErr t : Nat)) ∧ Below w.heap.size w w' := by
  have hB : Below w.heap.size w (w.alloc (.cells t.cells 78)) := (Below.refl _ _).alloc (Nat.le_refl _) _
  have hnw := fun wx => isNameR_any (bs t.who) wx (by rw [bs_size]; exact hl.1)
  have hns := fun wx => isNameR_any (bs t.svc) wx (by rw [bs_size]; exact hl.2)
  rw [bs_list] at hnw hns
  have h4 := @tickErr_four t
  have h2 := @tickErr_two t
  have h0 := @tickErr_ok t
  generalize tickErr t = r at *
  obtain ⟨who, svc, ep, bg, fn, sr⟩ := t
  dsimp only [Tick.val, Tick.cells] at *
  have hcs := Lib.hid (tick_kept (Below.refl _ _) (heap_alloc_new w (.cells #[.string (bs who), .string (bs svc), .int .i64 ep, .int .i64 bg, .int .i64 fn, .int .i64 sr] 78)))
  cases ha : isName who with
  | false =>
    have hr := Lib.hid (h4 (.inl ha))
    rw [ha] at hnw
    have hnwH := Lib.hid hnw
    have hnsH := Lib.hid hns
    clear h4 h2 h0 ha hnw hns
    cases hb : isName svc
    all_goals
      rw [hb] at hnsH
      clear hb
      obtain ⟨⟨c0, c1, c2, c3, c4, c5⟩, _⟩ := hcs.out
      go_enter Tryz.func50, Tryz.ntmps50
      go_wp2_with fail
      refine (hnwH.out _).mono ?_
      rintro e w' ⟨rfl, rfl⟩
      go_wp2_with fail
      refine (hnsH.out _).mono ?_
      rintro e w' ⟨rfl, rfl⟩
      go_wp2_with fail
      go_ret
      exact ⟨by rw [hr.out]; rfl, hB⟩
  | true =>
  rw [ha] at hnw
  have hnwH := Lib.hid hnw
  clear hnw
  cases hb : isName svc with
  | false =>
    have hr := Lib.hid (h4 (.inr hb))
    rw [hb] at hns
    have hnsH := Lib.hid hns
    clear h4 h2 h0 ha hb hns
    obtain ⟨⟨c0, c1, c2, c3, c4, c5⟩, _⟩ := hcs.out
    go_enter Tryz.func50, Tryz.ntmps50
    go_wp2_with fail
    refine (hnwH.out _).mono ?_
    rintro e w' ⟨rfl, rfl⟩
    go_wp2_with fail
    refine (hnsH.out _).mono ?_
    rintro e w' ⟨rfl, rfl⟩
    go_wp2_with fail
    go_ret
    exact ⟨by rw [hr.out]; rfl, hB⟩
  | true =>
  rw [hb] at hns
  have hnsH := Lib.hid hns
  have h2H := Lib.hid (h2 ha hb)
  have h0H := Lib.hid (h0 ha hb)
  clear h4 h2 h0 ha hb hns
  have hcase : ep < 1 ∨ (1 ≤ ep ∧ 1073741824 < ep) ∨ (1 ≤ ep ∧ ep ≤ 1073741824 ∧ sr < 1) ∨ (1 ≤ ep ∧ ep ≤ 1073741824 ∧ 1 ≤ sr ∧ 1073741824 < sr) ∨ (1 ≤ ep ∧ ep ≤ 1073741824 ∧ 1 ≤ sr ∧ sr ≤ 1073741824 ∧ bg < 0) ∨ (1 ≤ ep ∧ ep ≤ 1073741824 ∧ 1 ≤ sr ∧ sr ≤ 1073741824 ∧ 0 ≤ bg ∧ 1000000 < bg) ∨ (1 ≤ ep ∧ ep ≤ 1073741824 ∧ 1 ≤ sr ∧ sr ≤ 1073741824 ∧ 0 ≤ bg ∧ bg ≤ 1000000 ∧ fn < bg) ∨ (1 ≤ ep ∧ ep ≤ 1073741824 ∧ 1 ≤ sr ∧ sr ≤ 1073741824 ∧ 0 ≤ bg ∧ bg ≤ 1000000 ∧ bg ≤ fn ∧ 1000000 < fn) ∨ (1 ≤ ep ∧ ep ≤ 1073741824 ∧ 1 ≤ sr ∧ sr ≤ 1073741824 ∧ 0 ≤ bg ∧ bg ≤ 1000000 ∧ bg ≤ fn ∧ fn ≤ 1000000) := by omega
  rcases hcase with x1 | ⟨x1, x2⟩ | ⟨x1, x2, x3⟩ | ⟨x1, x2, x3, x4⟩ | ⟨x1, x2, x3, x4, x5⟩ | ⟨x1, x2, x3, x4, x5, x6⟩ | ⟨x1, x2, x3, x4, x5, x6, x7⟩ | ⟨x1, x2, x3, x4, x5, x6, x7, x8⟩ | ⟨x1, x2, x3, x4, x5, x6, x7, x8⟩
  all_goals
    have hr : Hid (r = 2) ∨ Hid (r = 0) := by first | exact .inl (Lib.hid (h2H.out (by omega))) | exact .inr (Lib.hid (h0H.out (by omega)))
    obtain ⟨⟨c0, c1, c2, c3, c4, c5⟩, _⟩ := hcs.out
    go_enter Tryz.func50, Tryz.ntmps50
    go_wp2_with fail
    refine (hnwH.out _).mono ?_
    rintro e w' ⟨rfl, rfl⟩
    go_wp2_with fail
    refine (hnsH.out _).mono ?_
    rintro e w' ⟨rfl, rfl⟩
    go_wp2_with fail
    go_ret
    refine ⟨?_, hB⟩
    rcases hr with hr | hr
    all_goals first | (rw [hr.out]; rfl) | (exfalso; first | (have := h0H.out (by omega); have := hr.out; omega) | (have := h2H.out (by omega); have := hr.out; omega))

set_option maxRecDepth 100000 in
theorem goodR_tick (t : Tick) (now : Int) (w : World) (hl : TickLen t) :
    Calls Tryz.prog 51 #[t.val, .int .i64 now] w fun e w' => e = .returned (.int .i64 (goodT t now : Nat)) ∧ Below w.heap.size w w' := by
  have hB : Below w.heap.size w (w.alloc (.cells t.cells 78)) := (Below.refl _ _).alloc (Nat.le_refl _) _
  have hbt := Lib.hid (heap_alloc_new w (.cells t.cells 78))
  have hck := Lib.hid (errR_tick t (w.alloc (.cells t.cells 78)) hl)
  have hgd : goodT t now = if tickErr t = 0 then (if 0 ≤ now ∧ now ≤ 1000000 then (if now < t.beg then 11 else if t.fin ≤ now then 12 else 0) else 2) else tickErr t := rfl
  generalize tickErr t = c at *
  obtain ⟨who, svc, ep, bg, fn, sr⟩ := t
  dsimp only [Tick.val, Tick.cells] at *
  cases c with
  | succ c =>
    have hr := Lib.hid (hgd.trans (if_neg (Nat.succ_ne_zero c)))
    clear hgd
    go_enter Tryz.func51, Tryz.ntmps51
    go_wp2_with fail
    refine hck.out.mono ?_
    rintro e w1 ⟨rfl, hb⟩
    have hbH := Lib.hid (below_trans hB hb)
    clear hb
    go_wp2_with fail
    go_ret
    exact ⟨by rw [hr.out]; rfl, hbH.out⟩
  | zero =>
  have hgdH := Lib.hid (hgd.trans (if_pos rfl))
  clear hgd
  have hcase : now < 0 ∨ (0 ≤ now ∧ 1000000 < now) ∨ (0 ≤ now ∧ now ≤ 1000000 ∧ now < bg) ∨ (0 ≤ now ∧ now ≤ 1000000 ∧ bg ≤ now ∧ fn ≤ now) ∨ (0 ≤ now ∧ now ≤ 1000000 ∧ bg ≤ now ∧ now < fn) := by omega
  rcases hcase with x1 | ⟨x1, x2⟩ | ⟨x1, x2, x3⟩ | ⟨x1, x2, x3, x4⟩ | ⟨x1, x2, x3, x4⟩
  all_goals
    go_enter Tryz.func51, Tryz.ntmps51
    go_wp2_with fail
    refine hck.out.mono ?_
    rintro e w1 ⟨rfl, hb⟩
    obtain ⟨⟨c0, c1, c2, c3, c4, c5⟩, _⟩ := tick_kept hb hbt.out
    have hbH := Lib.hid (below_trans hB hb)
    clear hb
    go_wp2_with fail
    go_ret
    refine ⟨?_, hbH.out⟩
    have e := hgdH.out
    first
      | (rw [e, if_neg (by omega)]; rfl)
      | (rw [e, if_pos (by omega), if_pos (by omega)]; rfl)
      | (rw [e, if_pos (by omega), if_neg (by omega), if_pos (by omega)]; rfl)
      | (rw [e, if_pos (by omega), if_neg (by omega), if_neg (by omega)]; rfl)

theorem row_set2b {w : World} {n : Nat} {u0 u1 u2 u3 u4 u5 : Value} {T : TypeId} (h : w.heap[n]? = some (.cells #[u0, u1, u2, u3, u4, u5] T (0, 0))) (v3 v5 : Value) :
    ((w.setCell ⟨n, 3, none⟩ v3).setCell ⟨n, 5, none⟩ v5).heap[n]? = some (.cells #[u0, u1, u2, v3, u4, v5] T (0, 0)) := by
  have h3 := heap_setCell_same _ n 3 _ _ v3 h
  exact heap_setCell_same _ n 5 _ _ v5 h3
theorem row_other2b {w : World} {n m : Nat} {o : Obj} (h : w.heap[m]? = some o) (hne : m ≠ n) (v3 v5 : Value) :
    ((w.setCell ⟨n, 3, none⟩ v3).setCell ⟨n, 5, none⟩ v5).heap[m]? = some o := by
  rw [heap_setCell_other _ _ _ _ hne, heap_setCell_other _ _ _ _ hne]
  exact h
theorem below_set2b {B : Nat} {a w : World} (h : Below B a w) {n : Nat} (hn : B ≤ n) (v3 v5 : Value) :
    Below B a ((w.setCell ⟨n, 3, none⟩ v3).setCell ⟨n, 5, none⟩ v5) := (h.setCell hn _).setCell hn _
set_option maxHeartbeats 1000000 in
set_option maxRecDepth 100000 in
theorem renewR_tick (t : Tick) (now til serial : Int) (w : World) (hl : TickLen t) :
    Calls Tryz.prog 54 #[t.val, .int .i64 now, .int .i64 til, .int .i64 serial] w fun e w' => e = .returned (.tuple #[(renewT t now til serial).1.val, .int .i64 ((renewT t now til serial).2 : Nat)]) ∧ Below w.heap.size w w' := by
  have hB : Below w.heap.size w ((w.alloc (.cells t.cells 78)).alloc (.cells noTick.cells 78)) := ((Below.refl _ _).alloc (Nat.le_refl _) _).alloc (by simp) _
  have hgt := Lib.hid (goodR_tick t now ((w.alloc (.cells t.cells 78)).alloc (.cells noTick.cells 78)) hl)
  have hck := Lib.hid (fun wx => errR_tick (renewed t now til serial) wx hl)
  have hrn : renewT t now til serial = if goodT t now = 0 then (if tickErr (renewed t now til serial) = 0 then (renewed t now til serial, 0) else (noTick, tickErr (renewed t now til serial))) else (noTick, goodT t now) := rfl
  generalize goodT t now = c at *
  generalize tickErr (renewed t now til serial) = d at *
  obtain ⟨who, svc, ep, bg, fn, sr⟩ := t
  dsimp only [Tick.val, Tick.cells, noTick, renewed] at *
  rw [show bs [] = (⟨#[]⟩ : ByteArray) from rfl] at *
  have hbt := box_at w #[.string (bs who), .string (bs svc), .int .i64 ep, .int .i64 bg, .int .i64 fn, .int .i64 sr] 78 (.cells #[.string ⟨#[]⟩, .string ⟨#[]⟩, .int .i64 0, .int .i64 0, .int .i64 0, .int .i64 0] 78)
  have hbr := box_new w #[.string ⟨#[]⟩, .string ⟨#[]⟩, .int .i64 0, .int .i64 0, .int .i64 0, .int .i64 0] 78 (.cells #[.string (bs who), .string (bs svc), .int .i64 ep, .int .i64 bg, .int .i64 fn, .int .i64 sr] 78)
  have hbt := Lib.hid hbt
  have hbr := Lib.hid hbr
  cases c with
  | succ c =>
    have hr := Lib.hid (hrn.trans (if_neg (Nat.succ_ne_zero c)))
    clear hrn hck
    go_enter Tryz.func54, Tryz.ntmps54
    go_wp2_with fail
    refine hgt.out.mono ?_
    rintro e w1 ⟨rfl, hb⟩
    obtain ⟨⟨r0, r1, r2, r3, r4, r5⟩, f0, f1, f2, f3, f4, f5⟩ := tick_kept hb hbr.out
    have hb' := hb
    have hb := Lib.hid (below_trans hB hb)
    have hfin := Lib.hid (below_set6 (n := w.heap.size + 1) hb.out (by omega) (.string ⟨#[]⟩) (.string ⟨#[]⟩) (.int .i64 0) (.int .i64 0) (.int .i64 0) (.int .i64 0))
    go_wp2_with fail
    obtain ⟨⟨q0, q1, q2, q3, q4, q5⟩, _⟩ := tick_kept (Below.refl _ _) (row_set6 (heap_below hb' hbr.out) (.string ⟨#[]⟩) (.string ⟨#[]⟩) (.int .i64 0) (.int .i64 0) (.int .i64 0) (.int .i64 0))
    exact bodyPost_ret (v := .tuple #[.agg #[.string ⟨#[]⟩, .string ⟨#[]⟩, .int .i64 0, .int .i64 0, .int .i64 0, .int .i64 0], .int .i64 ((c + 1 : Nat) : Int)]) (by simp [results, Tryz.results54, go_sem, q0, q1, q2, q3, q4, q5]) rfl ⟨by rw [hr.out]; try rfl, hfin.out⟩
  | zero =>
  by_cases hmin : til < fn
  · have hm : min til fn = til := by omega
    rw [hm] at hck hrn
    have hrn := Lib.hid hrn
    clear hm
    go_enter Tryz.func54, Tryz.ntmps54
    go_wp2_with fail
    refine hgt.out.mono ?_
    rintro e w1 ⟨rfl, hb⟩
    obtain ⟨⟨b0, b1, b2, b3, b4, b5⟩, g0, g1, g2, g3, g4, g5⟩ := tick_kept hb hbt.out
    obtain ⟨⟨r0, r1, r2, r3, r4, r5⟩, f0, f1, f2, f3, f4, f5⟩ := tick_kept hb hbr.out
    have hrw := Lib.hid (heap_below hb hbt.out)
    have hrr := Lib.hid (heap_below hb hbr.out)
    have hb := Lib.hid (below_trans hB hb)
    have hB3 := Lib.hid (below_set3 (n := w.heap.size) hb.out (Nat.le_refl _) (.int .i64 now) (.int .i64 til) (.int .i64 serial))
    have hrw3 := Lib.hid (row_set3 hrw.out (.int .i64 now) (.int .i64 til) (.int .i64 serial))
    have hrr3 := Lib.hid (row_other3 (n := w.heap.size) hrr.out (Nat.succ_ne_self _) (.int .i64 now) (.int .i64 til) (.int .i64 serial))
    have hckC := Lib.hid (hck.out (((w1.setCell ⟨w.heap.size, 3, none⟩ (.int .i64 now)).setCell ⟨w.heap.size, 4, none⟩ (.int .i64 til)).setCell ⟨w.heap.size, 5, none⟩ (.int .i64 serial)))
    cases d with
    | succ d =>
      have hr := Lib.hid (hrn.out.trans (show _ = ((⟨[], [], 0, 0, 0, 0⟩ : Tick), d + 1) from rfl))
      go_wp2_with fail
      refine hckC.out.mono ?_
      rintro e w2 ⟨rfl, hb2⟩
      have hrr2 := Lib.hid (heap_below hb2 hrr3.out)
      have hb2 := Lib.hid (below_trans hB3.out hb2)
      clear b0 b1 b2 b3 b4 b5 g0 g1 g2 g3 g4 g5 r0 r1 r2 r3 r4 r5 f0 f1 f2 f3 f4 f5
      obtain ⟨⟨r0, r1, r2, r3, r4, r5⟩, f0, f1, f2, f3, f4, f5⟩ := tick_kept (Below.refl _ _) hrr2.out
      have hfin := Lib.hid (below_set6 (n := w.heap.size + 1) hb2.out (by omega) (.string ⟨#[]⟩) (.string ⟨#[]⟩) (.int .i64 0) (.int .i64 0) (.int .i64 0) (.int .i64 0))
      go_wp2_with fail
      obtain ⟨⟨q0, q1, q2, q3, q4, q5⟩, _⟩ := tick_kept (Below.refl _ _) (row_set6 hrr2.out (.string ⟨#[]⟩) (.string ⟨#[]⟩) (.int .i64 0) (.int .i64 0) (.int .i64 0) (.int .i64 0))
      exact bodyPost_ret (v := .tuple #[.agg #[.string ⟨#[]⟩, .string ⟨#[]⟩, .int .i64 0, .int .i64 0, .int .i64 0, .int .i64 0], .int .i64 ((d + 1 : Nat) : Int)]) (by simp [results, Tryz.results54, go_sem, q0, q1, q2, q3, q4, q5]) rfl ⟨by rw [hr.out]; try rfl, hfin.out⟩
    | zero =>
      have hr := Lib.hid (hrn.out.trans (show _ = ((⟨who, svc, ep, now, til, serial⟩ : Tick), 0) from rfl))
      go_wp2_with fail
      refine hckC.out.mono ?_
      rintro e w2 ⟨rfl, hb2⟩
      have hrr2 := Lib.hid (heap_below hb2 hrr3.out)
      have hrw2 := Lib.hid (heap_below hb2 hrw3.out)
      have hb2 := Lib.hid (below_trans hB3.out hb2)
      clear b0 b1 b2 b3 b4 b5 g0 g1 g2 g3 g4 g5 r0 r1 r2 r3 r4 r5 f0 f1 f2 f3 f4 f5
      obtain ⟨⟨r0, r1, r2, r3, r4, r5⟩, f0, f1, f2, f3, f4, f5⟩ := tick_kept (Below.refl _ _) hrr2.out
      obtain ⟨⟨b0, b1, b2, b3, b4, b5⟩, _⟩ := tick_kept (Below.refl _ _) hrw2.out
      have hfin := Lib.hid (below_set6 (n := w.heap.size + 1) hb2.out (by omega) (.string (bs who)) (.string (bs svc)) (.int .i64 ep) (.int .i64 now) (.int .i64 til) (.int .i64 serial))
      go_wp2_with fail
      obtain ⟨⟨q0, q1, q2, q3, q4, q5⟩, _⟩ := tick_kept (Below.refl _ _) (row_set6 hrr2.out (.string (bs who)) (.string (bs svc)) (.int .i64 ep) (.int .i64 now) (.int .i64 til) (.int .i64 serial))
      exact bodyPost_ret (v := .tuple #[.agg #[.string (bs who), .string (bs svc), .int .i64 ep, .int .i64 now, .int .i64 til, .int .i64 serial], .int .i64 0]) (by simp [results, Tryz.results54, go_sem, q0, q1, q2, q3, q4, q5]) rfl ⟨by rw [hr.out]; try rfl, hfin.out⟩
  · have hm : min til fn = fn := by omega
    rw [hm] at hck hrn
    have hrn := Lib.hid hrn
    clear hm
    go_enter Tryz.func54, Tryz.ntmps54
    go_wp2_with fail
    refine hgt.out.mono ?_
    rintro e w1 ⟨rfl, hb⟩
    obtain ⟨⟨b0, b1, b2, b3, b4, b5⟩, g0, g1, g2, g3, g4, g5⟩ := tick_kept hb hbt.out
    obtain ⟨⟨r0, r1, r2, r3, r4, r5⟩, f0, f1, f2, f3, f4, f5⟩ := tick_kept hb hbr.out
    have hrw := Lib.hid (heap_below hb hbt.out)
    have hrr := Lib.hid (heap_below hb hbr.out)
    have hb := Lib.hid (below_trans hB hb)
    have hB3 := Lib.hid (below_set2b (n := w.heap.size) hb.out (Nat.le_refl _) (.int .i64 now) (.int .i64 serial))
    have hrw3 := Lib.hid (row_set2b hrw.out (.int .i64 now) (.int .i64 serial))
    have hrr3 := Lib.hid (row_other2b (n := w.heap.size) hrr.out (Nat.succ_ne_self _) (.int .i64 now) (.int .i64 serial))
    have hckC := Lib.hid (hck.out ((w1.setCell ⟨w.heap.size, 3, none⟩ (.int .i64 now)).setCell ⟨w.heap.size, 5, none⟩ (.int .i64 serial)))
    cases d with
    | succ d =>
      have hr := Lib.hid (hrn.out.trans (show _ = ((⟨[], [], 0, 0, 0, 0⟩ : Tick), d + 1) from rfl))
      go_wp2_with fail
      refine hckC.out.mono ?_
      rintro e w2 ⟨rfl, hb2⟩
      have hrr2 := Lib.hid (heap_below hb2 hrr3.out)
      have hb2 := Lib.hid (below_trans hB3.out hb2)
      clear b0 b1 b2 b3 b4 b5 g0 g1 g2 g3 g4 g5 r0 r1 r2 r3 r4 r5 f0 f1 f2 f3 f4 f5
      obtain ⟨⟨r0, r1, r2, r3, r4, r5⟩, f0, f1, f2, f3, f4, f5⟩ := tick_kept (Below.refl _ _) hrr2.out
      have hfin := Lib.hid (below_set6 (n := w.heap.size + 1) hb2.out (by omega) (.string ⟨#[]⟩) (.string ⟨#[]⟩) (.int .i64 0) (.int .i64 0) (.int .i64 0) (.int .i64 0))
      go_wp2_with fail
      obtain ⟨⟨q0, q1, q2, q3, q4, q5⟩, _⟩ := tick_kept (Below.refl _ _) (row_set6 hrr2.out (.string ⟨#[]⟩) (.string ⟨#[]⟩) (.int .i64 0) (.int .i64 0) (.int .i64 0) (.int .i64 0))
      exact bodyPost_ret (v := .tuple #[.agg #[.string ⟨#[]⟩, .string ⟨#[]⟩, .int .i64 0, .int .i64 0, .int .i64 0, .int .i64 0], .int .i64 ((d + 1 : Nat) : Int)]) (by simp [results, Tryz.results54, go_sem, q0, q1, q2, q3, q4, q5]) rfl ⟨by rw [hr.out]; try rfl, hfin.out⟩
    | zero =>
      have hr := Lib.hid (hrn.out.trans (show _ = ((⟨who, svc, ep, now, fn, serial⟩ : Tick), 0) from rfl))
      go_wp2_with fail
      refine hckC.out.mono ?_
      rintro e w2 ⟨rfl, hb2⟩
      have hrr2 := Lib.hid (heap_below hb2 hrr3.out)
      have hrw2 := Lib.hid (heap_below hb2 hrw3.out)
      have hb2 := Lib.hid (below_trans hB3.out hb2)
      clear b0 b1 b2 b3 b4 b5 g0 g1 g2 g3 g4 g5 r0 r1 r2 r3 r4 r5 f0 f1 f2 f3 f4 f5
      obtain ⟨⟨r0, r1, r2, r3, r4, r5⟩, f0, f1, f2, f3, f4, f5⟩ := tick_kept (Below.refl _ _) hrr2.out
      obtain ⟨⟨b0, b1, b2, b3, b4, b5⟩, _⟩ := tick_kept (Below.refl _ _) hrw2.out
      have hfin := Lib.hid (below_set6 (n := w.heap.size + 1) hb2.out (by omega) (.string (bs who)) (.string (bs svc)) (.int .i64 ep) (.int .i64 now) (.int .i64 fn) (.int .i64 serial))
      go_wp2_with fail
      obtain ⟨⟨q0, q1, q2, q3, q4, q5⟩, _⟩ := tick_kept (Below.refl _ _) (row_set6 hrr2.out (.string (bs who)) (.string (bs svc)) (.int .i64 ep) (.int .i64 now) (.int .i64 fn) (.int .i64 serial))
      exact bodyPost_ret (v := .tuple #[.agg #[.string (bs who), .string (bs svc), .int .i64 ep, .int .i64 now, .int .i64 fn, .int .i64 serial], .int .i64 0]) (by simp [results, Tryz.results54, go_sem, q0, q1, q2, q3, q4, q5]) rfl ⟨by rw [hr.out]; try rfl, hfin.out⟩
end Go.Proofs.YtgainbpflncgcaaGreatDoor
