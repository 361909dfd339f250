/- The reference's tickets: TicketText. -/
import Derived.Test.YtgainbpflncgcaaGreatDoorTickR2
import Derived.Deep.RegionHeld3
import Derived.Deep.CutRange
import Derived.Deep.CutBlock
import Derived.Deep.DrawnRows
attribute [local go_sem ↓] Go.wp_at_zero Go.wp_at_succ
namespace Go.Proofs.YtgainbpflncgcaaGreatDoor
open Go.RowKit Go.Maps

theorem seven_at (w : World) (x1 x2 x3 x4 x5 x6 : List UInt8) : TextsAt (w.alloc (.cells #[.string ⟨#[116, 105, 99, 107, 101, 116]⟩, .string (bs x1), .string (bs x2), .string (bs x3), .string (bs x4), .string (bs x5), .string (bs x6)] 9)) (.slice (some ⟨w.heap.size, 0, none⟩) 7 7) [ticketW, x1, x2, x3, x4, x5, x6] := by
  refine ⟨_, _, rfl, by show 7 ≤ maxLen; unfold maxLen; decide, Nat.le_refl _, fun i hi => ⟨w.heap.size, 0, rfl, ?_⟩⟩
  have hi : i < 7 := hi
  rw [Nat.zero_add, World.cell?_alloc_new]
  match i, hi with
  | 0, _ => rfl
  | 1, _ => rfl
  | 2, _ => rfl
  | 3, _ => rfl
  | 4, _ => rfl
  | 5, _ => rfl
  | 6, _ => rfl
theorem seven_at2 (w : World) (o : Obj) (x1 x2 x3 x4 x5 x6 : List UInt8) : TextsAt ((w.alloc o).alloc (.cells #[.string ⟨#[116, 105, 99, 107, 101, 116]⟩, .string (bs x1), .string (bs x2), .string (bs x3), .string (bs x4), .string (bs x5), .string (bs x6)] 9)) (.slice (some ⟨w.heap.size + 1, 0, none⟩) 7 7) [ticketW, x1, x2, x3, x4, x5, x6] := by
  have h := seven_at (w.alloc o) x1 x2 x3 x4 x5 x6
  rw [World.size_alloc] at h
  exact h
theorem heap_drew1 (w : World) : w.drew.heap = w.heap := rfl
theorem hd1 {w w' : World} {o : Obj} (hb : Below (w.alloc o).heap.size (w.alloc o) w') : w'.heap[w.heap.size]? = some o := heap_down hb (heap_alloc_new w o)
theorem hd4 {w w' : World} {o : Obj} (hb : Below (w.alloc o).drew.heap.size (w.alloc o).drew w') : w'.heap[w.heap.size]? = some o := heap_down hb (show (w.alloc o).heap[w.heap.size]? = some o from heap_alloc_new w o)
theorem hd2 {w w' : World} {o x : Obj} {n : Nat} (hb : Below (w.alloc o).heap.size (w.alloc o) w') (h : w.heap[n]? = some x) : w'.heap[n]? = some x := heap_down hb (heap_down ((Below.refl _ _).alloc (Nat.le_refl _) _) h)
theorem hd3 {w w' : World} {o x : Obj} (hb : Below ((w.alloc o).alloc x).heap.size ((w.alloc o).alloc x) w') : w'.heap[w.heap.size]? = some o := hd2 hb (heap_alloc_new w o)
set_option maxHeartbeats 4000000 in
set_option maxRecDepth 100000 in
theorem textR_tick (k : Int) (t : Tick) (w : World) (hl : TickLen t) :
    Calls Tryz.prog 48 #[.int .i64 k, t.val] w fun e w' => e = .returned (.tuple #[.string (bs (makeT k t).1), .int .i64 ((makeT k t).2 : Nat)]) ∧ Below w.heap.size w w' := by
  have hB : Below w.heap.size w (w.alloc (.cells t.cells 78)) := (Below.refl _ _).alloc (Nat.le_refl _) _
  have hbt := Lib.hid (heap_alloc_new w (.cells t.cells 78))
  have hck := Lib.hid (errR_tick t (w.alloc (.cells t.cells 78)) hl)
  have hmk : makeT k t = if isKey k = true then (if tickErr t = 0 then (sealText k (tickWords t), 0) else ([], tickErr t)) else ([], 10) := rfl
  generalize hp : makeT k t = p at *
  clear hp
  by_cases hk : isKey k = true
  case neg =>
    have hr := Lib.hid (hmk.trans (if_neg hk))
    have hk : isKey k = false := by simpa using hk
    obtain ⟨who, svc, ep, bg, fn, sr⟩ := t
    dsimp only [Tick.val, Tick.cells] at *
    clear hmk
    go_enter Tryz.func48, Tryz.ntmps48
    go_wp2_with (go_at_call 57; refine (isKey_any _ _).mono ?_; rintro e w' ⟨rfl, rfl⟩)
    go_ret2
    exact ⟨by rw [hr.out]; rfl, hB⟩
  have hmk := hmk.trans (if_pos hk)
  cases hte : tickErr t with
  | succ c =>
    have hr := Lib.hid (show p = ([], c + 1) by rw [hmk, if_neg (by rw [hte]; exact Nat.succ_ne_zero c), hte])
    rw [hte] at hck
    clear hmk hte
    obtain ⟨who, svc, ep, bg, fn, sr⟩ := t
    dsimp only [Tick.val, Tick.cells] at *
    go_enter Tryz.func48, Tryz.ntmps48
    go_wp2_with (go_at_call 57; refine (isKey_any _ _).mono ?_; rintro e w' ⟨rfl, rfl⟩)
    refine hck.out.mono ?_
    rintro e w1 ⟨rfl, hb⟩
    have hbH := Lib.hid (below_trans hB hb)
    clear hb
    go_wp2_with fail
    go_ret2
    exact ⟨by rw [hr.out]; rfl, hbH.out⟩
  | zero =>
  have hr := Lib.hid (show p = (sealText k (tickWords t), 0) by rw [hmk, if_pos hte])
  have hmo := make_of hk (W := tickWords t) (by rw [tickWords_len]; decide) (by rw [tickWords_len]; decide) (tickWords_words hte)
  have hse := fun wx v (hv : TextsAt wx v (tickWords t)) => sealR_any k v (tickWords t) wx hv (fun x hx => by
    have := ((isWord_iff x).1 (tickWords_words hte x hx)).2.1
    unfold maxLen
    omega)
  rw [hmo] at hse
  unfold sealV faultV at hse
  obtain ⟨_, _, hnum⟩ := tickErr_zero hte
  obtain ⟨⟨a1, a2⟩, ⟨d1, d2⟩, ⟨e1, e2⟩, f1, f2⟩ := (tickNum_iff t).1 hnum
  have hdec := Lib.hid (fun (n : Int) (h : 0 ≤ n ∧ n ≤ 1073741824) wx => decimal_any n wx (by omega) (by omega))
  have ge : 0 ≤ t.epoch ∧ t.epoch ≤ 1073741824 := by omega
  have gb : 0 ≤ t.beg ∧ t.beg ≤ 1073741824 := by omega
  have gf : 0 ≤ t.fin ∧ t.fin ≤ 1073741824 := by omega
  have gs : 0 ≤ t.serial ∧ t.serial ≤ 1073741824 := by omega
  have htw : tickWords t = [ticketW, t.who, t.svc, Lib.itoa t.epoch, Lib.itoa t.beg, Lib.itoa t.fin, Lib.itoa t.serial] := rfl
  rw [htw] at hse hr
  rw [hte] at hck
  clear hmk hte hnum a1 a2 d1 d2 e1 e2 f1 f2 hmo htw
  obtain ⟨who, svc, ep, bg, fn, sr⟩ := t
  dsimp only [Tick.val, Tick.cells] at *
  generalize sealText k [ticketW, who, svc, Lib.itoa ep, Lib.itoa bg, Lib.itoa fn, Lib.itoa sr] = T at *
  have hseH := Lib.hid hse
  clear hse hl
  go_enter Tryz.func48, Tryz.ntmps48
  go_wp2_with (go_at_call 57; refine (isKey_any _ _).mono ?_; rintro e w' ⟨rfl, rfl⟩)
  refine hck.out.mono ?_
  rintro e w1 ⟨rfl, hb⟩
  obtain ⟨⟨b0, b1, b2, b3, b4, b5⟩, _⟩ := tick_kept hb hbt.out
  have hbH := Lib.hid (below_trans hB hb)
  have hk6 := Lib.hid (fun (wx : World) (hx : Below w1.heap.size w1 wx) => (show Below w1.heap.size w1 wx ∧ wx.cell? ⟨w.heap.size, 0, none⟩ = some (.string (bs who)) ∧ wx.cell? ⟨w.heap.size, 1, none⟩ = some (.string (bs svc)) ∧ wx.cell? ⟨w.heap.size, 2, none⟩ = some (.int .i64 ep) ∧ wx.cell? ⟨w.heap.size, 3, none⟩ = some (.int .i64 bg) ∧ wx.cell? ⟨w.heap.size, 4, none⟩ = some (.int .i64 fn) ∧ wx.cell? ⟨w.heap.size, 5, none⟩ = some (.int .i64 sr) from ⟨hx, cell_below hx b0, cell_below hx b1, cell_below hx b2, cell_below hx b3, cell_below hx b4, cell_below hx b5⟩))
  have hS : Below w1.heap.size w1 w1 := Below.refl _ _
  have hBH := Lib.hid hB
  clear hB hb
  go_upto_region 7 with fail
  go_cut [8, 9] from 19 to 40 (fun s8 s9 wx => s8 = .string (bs T) ∧ ∃ n, s9 = .pointer (some ⟨n, 0, none⟩) ∧ Hid (wx.cell? ⟨n, 0, none⟩ = some (.int .i64 0)) ∧ Hid (Below w.heap.size w wx))
  case first =>
    clear hck hbt
    have hF : True := trivial
    go_region_held3 (fun w' => Below w1.heap.size w1 w' ∧ w'.cell? ⟨w.heap.size, 0, none⟩ = some (.string (bs who)) ∧ w'.cell? ⟨w.heap.size, 1, none⟩ = some (.string (bs svc)) ∧ w'.cell? ⟨w.heap.size, 2, none⟩ = some (.int .i64 ep) ∧ w'.cell? ⟨w.heap.size, 3, none⟩ = some (.int .i64 bg) ∧ w'.cell? ⟨w.heap.size, 4, none⟩ = some (.int .i64 fn) ∧ w'.cell? ⟨w.heap.size, 5, none⟩ = some (.int .i64 sr))
      ((refine hk6.out _ ?_; (first | exact hS | exact below_set2 hS (by omega) _ _ | exact hS.drew | exact hS.alloc hS.size _ | exact (hS.alloc hS.size _).drew | exact hS.drew.alloc hS.drew.size _ | exact (hS.alloc hS.size _).alloc (hS.alloc hS.size _).size _ | exact (hS.drew.alloc hS.drew.size _).drew | exact ((hS.alloc hS.size _).drew.alloc (hS.alloc hS.size _).drew.size _))))
      (first | (go_at_call 73; refine (hdec.out _ (by first | with_reducible exact ge | with_reducible exact gb | with_reducible exact gf | with_reducible exact gs) _).mono ?_; rintro e w' ⟨rfl, hbx⟩; have hS : Below w1.heap.size w1 w' := below_trans (by (first | exact hS | exact hS.drew | exact hS.alloc hS.size _ | exact (hS.alloc hS.size _).drew | exact hS.drew.alloc hS.drew.size _ | exact (hS.alloc hS.size _).alloc (hS.alloc hS.size _).size _ | exact (hS.drew.alloc hS.drew.size _).drew | exact ((hS.alloc hS.size _).drew.alloc (hS.alloc hS.size _).drew.size _))) hbx; have hz : w1.heap.size ≤ w'.heap.size := hS.size; (first | (have hF : w'.heap[_]? = some (Obj.cells #[Value.int .i64 0, Value.int .i64 0] 64 (0, 0)) := heap_down hbx hF) | (have hF : w'.heap[_]? = some (Obj.cells #[Value.int .i64 0, Value.int .i64 0] 64 (0, 0)) := hd1 hbx) | (have hF : w'.heap[_]? = some (Obj.cells #[Value.int .i64 0, Value.int .i64 0] 64 (0, 0)) := hd4 hbx) | skip)) | (go_at_call 32; refine (hseH.out _ _ ?_).mono ?_; (first | exact seven_at _ who svc (Lib.itoa ep) (Lib.itoa bg) (Lib.itoa fn) (Lib.itoa sr) | exact seven_at2 _ _ who svc (Lib.itoa ep) (Lib.itoa bg) (Lib.itoa fn) (Lib.itoa sr) | exact (seven_at _ who svc (Lib.itoa ep) (Lib.itoa bg) (Lib.itoa fn) (Lib.itoa sr)).below ((Below.refl _ _).alloc (Nat.le_refl _) _)); rintro e w' ⟨rfl, hbx⟩; have hS : Below w1.heap.size w1 w' := below_trans (by (first | exact hS | exact hS.drew | exact hS.alloc hS.size _ | exact (hS.alloc hS.size _).drew | exact hS.drew.alloc hS.drew.size _ | exact (hS.alloc hS.size _).alloc (hS.alloc hS.size _).size _ | exact (hS.drew.alloc hS.drew.size _).drew | exact ((hS.alloc hS.size _).drew.alloc (hS.alloc hS.size _).drew.size _))) hbx; have hz : w1.heap.size ≤ w'.heap.size := hS.size; (first | (have hF : w'.heap[_]? = some (Obj.cells #[Value.int .i64 0, Value.int .i64 0] 64 (0, 0)) := hd2 hbx hF) | (have hF : w'.heap[_]? = some (Obj.cells #[Value.int .i64 0, Value.int .i64 0] 64 (0, 0)) := hd3 hbx) | (have hF : w'.heap[_]? = some (Obj.cells #[Value.int .i64 0, Value.int .i64 0] 64 (0, 0)) := hd1 hbx) | skip); (first | (have hK2 := two_kept (Below.refl _ _) hF; (try simp only [World.size_alloc] at hK2); (try simp only [heap_drew1] at hK2); obtain ⟨⟨r0, r1⟩, f0, f1⟩ := hK2) | skip)))
    all_goals
      go_wp2_with fail
      go_meet
      have hHd := And.left (by assumption : Below w1.heap.size w1 _ ∧ _)
      refine ⟨rfl, _, rfl, Lib.hid ?_, Lib.hid (below_trans hbH.out (by assumption))⟩
      first
        | (simp; done)
        | (simp [r0, r1]; done)
        | (have h := (two_kept (Below.refl _ _) (row_set2 hF (.int .i64 0) (.int .i64 (-1)))).1.1
           (try simp only [World.size_alloc] at h)
           (try simp only [heap_drew1] at h)
           exact h)
  obtain ⟨rfl, n, rfl, hcell, hbc⟩ := hcut
  have hc := hcell.out
  go_wp2_with fail
  go_region
  all_goals
    go_wp2_with fail
    go_ret2
    exact ⟨by rw [hr.out]; rfl, hbc.out.drew⟩
end Go.Proofs.YtgainbpflncgcaaGreatDoor
