/- Package session: New, Open, Close, Ask: walked. -/
import Derived.Test.YtmjbhglmlbgkmaaDoorSesM
import Derived.Deep.RegionHeld3
import Derived.StillTailTactics
import Derived.IntWalk
namespace Go.Proofs.YtmjbhglmlbgkmaaDoor
open Go.RowKit Go.MapKept

/-- The blocks that Open may write. -/
def DeskW (b r k : Nat) : Prop := k = b ∨ k = r
set_option maxRecDepth 100000 in
theorem new_desk (w : World) :
    Calls Tryd.prog 9 #[] w fun e w' => ∃ b r, e = .returned (.pointer (some ⟨b, 0, none⟩)) ∧ Below w.heap.size w w' ∧ w.heap.size ≤ b ∧ w.heap.size ≤ r ∧ DeskS w' b r 1 [] := by
  have hmm := @run_makeMap Tryd.prog
  have hfin : DeskS ((w.alloc (.map #[] 0)).alloc (.cells #[.int .i64 1, .map (some w.heap.size)] 90)) (w.heap.size + 1) w.heap.size 1 [] := by
    refine ⟨?_, [], ?_, List.Perm.refl _⟩
    · have := heap_alloc_new (w.alloc (.map #[] 0)) (.cells #[.int .i64 1, .map (some w.heap.size)] 90)
      rwa [World.size_alloc] at this
    · exact (MapV.new w).below ((Below.refl _ _).alloc (Nat.le_refl _) _)
  have hfin := Lib.hid hfin
  go_enter Tryd.func9, Tryd.ntmps9
  go_wp2
  go_ret
  exact ⟨_, _, rfl, ((Below.refl _ _).alloc (Nat.le_refl _) _).alloc (by simp) _, by omega, Nat.le_refl _, hfin.out⟩
set_option maxHeartbeats 4000000 in
set_option maxRecDepth 100000 in
theorem open_desk {E : Nat → Addr} (b r : Nat) (next : Int) (L : List Ses) (t : Tick) (now : Int) (w : World) (hL : Laid E w) (hD : DeskS w b r next L) (hG : GoodS next L) (hl : TickLen t) (hnx : next ≤ 1000000) :
    Calls Tryd.prog 10 #[.pointer (some ⟨b, 0, none⟩), t.val, .int .i64 now] w fun e w' => e = .returned (.tuple #[.int .i64 (openS next L t now).1.1, errV E (openS next L t now).1.2]) ∧ Keeps (DeskW b r) w w' ∧ DeskS w' b r (openS next L t now).2.1 (openS next L t now).2.2 := by
  have hB : Below w.heap.size w (w.alloc (.cells t.cells 30)) := (Below.refl _ _).alloc (Nat.le_refl _) _
  have hrow := Lib.hid (heap_alloc_new w (.cells t.cells 30))
  have hgt := Lib.hid (good_tick (E := E) t now _ (hL.below hB) hl)
  have hop : openS next L t now = if goodT t now ≠ 0 then ((0, goodT t now), (next, L)) else if 40 ≤ L.length then ((0, 7), (next, L)) else ((next, 0), (next + 1, L ++ [⟨next, t⟩])) := rfl
  have hnew := Lib.hid (show ∀ p ∈ L, p.n ≠ next from fun p hp => by have := (hG.lo p hp).2; omega)
  have h1x := hG.one
  have hmany := hG.many
  have hop := Lib.hid hop
  have hDH := Lib.hid hD
  have hLH := Lib.hid hL
  have htd : t = ⟨t.who, t.svc, t.epoch, t.beg, t.fin, t.serial⟩ := rfl
  generalize goodT t now = c at *
  obtain ⟨who, svc, ep, bg, fn, sr⟩ := t
  dsimp only [Tick.val, Tick.cells] at *
  clear htd hD hL hG
  cases c with
  | succ c =>
    have hr := Lib.hid (hop.out.trans (if_pos (Nat.succ_ne_zero c)))
    rw [errV_succ] at hgt
    go_enter Tryd.func10, Tryd.ntmps10
    go_wp2_with fail
    refine hgt.out.mono ?_
    rintro e w1 ⟨rfl, hb⟩
    have hb := Lib.hid (below_trans hB hb)
    go_wp2_with fail
    go_ret2
    exact ⟨by rw [hr.out]; rfl, Keeps.of_below hb.out, by rw [hr.out]; exact hDH.out.below hb.out⟩
  | zero =>
  have hop := Lib.hid (hop.out.trans (if_neg (by simp)))
  rw [errV_zero] at hgt
  go_enter Tryd.func10, Tryd.ntmps10
  go_wp2_with fail
  refine hgt.out.mono ?_
  rintro e w1 ⟨rfl, hb⟩
  have hrow1 := heap_below hb hrow.out
  have hb := below_trans hB hb
  have hD1 := hDH.out.below hb
  have c1 := hD1.at1
  obtain ⟨c0, hf0⟩ := hD1.at0
  have hln := hD1.run_len
  by_cases h40 : 40 ≤ L.length
  · have hr := Lib.hid (hop.out.trans (if_pos h40))
    have he := (hLH.out.below hb).e7
    have h40i : (40 : Int) ≤ (L.length : Int) := by omega
    have hbd := Lib.hid (fun n => below_drawn hb n)
    have hD1H := Lib.hid hDH
    clear hrow1 hb hD1
    go_wp2_with fail
    go_quiet (fail)
    go_wp2_with fail
    go_ret2
    exact ⟨by rw [hr.out]; rfl, Keeps.of_below (hbd.out _), by rw [hr.out]; exact hDH.out.below (hbd.out _)⟩
  have hr := Lib.hid (hop.out.trans (if_neg h40))
  have h40i : ¬ (40 : Int) ≤ (L.length : Int) := by omega
  have hs2 := IntWalk.i64_in (next + 1) (by omega)
  have hblt := hD1.lt
  have hset := hD1.set0 (next + 1)
  have hbn : w.heap.size ≠ b := by have := hDH.out.lt.1; omega
  have hrow2 : ((w1.setCell ⟨b, 0, none⟩ (.int .i64 (next + 1))).drew).heap[w.heap.size]? = some (.cells #[.string (bs who), .string (bs svc), .int .i64 ep, .int .i64 bg, .int .i64 fn, .int .i64 sr] 30 (0, 0)) := (heap_setCell_other w1 ⟨b, 0, none⟩ _ _ hbn).trans hrow1
  have hsd := hset.below (Below.refl _ _).drew
  obtain ⟨w2, hu, hk2, hD2⟩ := hsd.update (n0 := next) hnew.out ⟨who, svc, ep, bg, fn, sr⟩
  dsimp only [Tick.val] at hu
  have d1 := hsd.at1
  have t0 : ((w1.setCell ⟨b, 0, none⟩ (.int .i64 (next + 1))).drew).cell? ⟨w.heap.size, 0, none⟩ = some (.string (bs who)) := by rw [cell_of_row _ _ _ _ _ _ hrow2]; rfl
  have t1 : ((w1.setCell ⟨b, 0, none⟩ (.int .i64 (next + 1))).drew).cell? ⟨w.heap.size, 1, none⟩ = some (.string (bs svc)) := by rw [cell_of_row _ _ _ _ _ _ hrow2]; rfl
  have t2 : ((w1.setCell ⟨b, 0, none⟩ (.int .i64 (next + 1))).drew).cell? ⟨w.heap.size, 2, none⟩ = some (.int .i64 ep) := by rw [cell_of_row _ _ _ _ _ _ hrow2]; rfl
  have t3 : ((w1.setCell ⟨b, 0, none⟩ (.int .i64 (next + 1))).drew).cell? ⟨w.heap.size, 3, none⟩ = some (.int .i64 bg) := by rw [cell_of_row _ _ _ _ _ _ hrow2]; rfl
  have t4 : ((w1.setCell ⟨b, 0, none⟩ (.int .i64 (next + 1))).drew).cell? ⟨w.heap.size, 4, none⟩ = some (.int .i64 fn) := by rw [cell_of_row _ _ _ _ _ _ hrow2]; rfl
  have t5 : ((w1.setCell ⟨b, 0, none⟩ (.int .i64 (next + 1))).drew).cell? ⟨w.heap.size, 5, none⟩ = some (.int .i64 sr) := by rw [cell_of_row _ _ _ _ _ _ hrow2]; rfl
  have hfin := Lib.hid (show Keeps (DeskW b r) w w2 ∧ DeskS w2 b r (next + 1) (L ++ [⟨next, ⟨who, svc, ep, bg, fn, sr⟩⟩]) from
    ⟨(((Keeps.of_below hb).trans (keeps_setCell (S := DeskW b r) w1 ⟨b, 0, none⟩ _ (.inl rfl))).trans (Keeps.of_below (Below.refl _ _).drew)).trans (hk2.mono fun k h => .inr h), hD2⟩)
  clear hrow1 hrow2 hb hD1 hblt hset hsd hk2 hD2
  go_wp2_with fail
  go_still_tail 6, (by kernel_rfl)
  try change wpStill _ _ (World.drew _) _ _ _
  try (repeat still_step)
  try refine wpStill_nil ?_
  change wpList _ _ _ _ _ (World.drew _)
  go_wp2_with fail
  go_ret2
  exact ⟨by rw [hr.out]; rfl, hfin.out.1, by rw [hr.out]; exact hfin.out.2⟩
set_option maxHeartbeats 4000000 in
set_option maxRecDepth 100000 in
theorem close_desk {E : Nat → Addr} (b r : Nat) (next : Int) (L : List Ses) (n : Int) (w : World) (hL : Laid E w) (hD : DeskS w b r next L) (hG : GoodS next L) :
    Calls Tryd.prog 11 #[.pointer (some ⟨b, 0, none⟩), .int .i64 n] w fun e w' => e = .returned (errV E (closeS L n).1) ∧ Keeps (· = r) w w' ∧ DeskS w' b r next (closeS L n).2 := by
  have c1 := hD.at1
  have hcl : closeS L n = if (findS L n).isSome then (0, L.filter fun p => !(p.n == n)) else (5, L) := rfl
  cases hf : findS L n with
  | none =>
    have hl := hD.lookup_none hf
    dsimp only [noTick, Tick.val] at hl
    have hB : Below w.heap.size w (w.alloc (.cells #[.string (bs []), .string (bs []), .int .i64 0, .int .i64 0, .int .i64 0, .int .i64 0] 30)) := (Below.refl _ _).alloc (Nat.le_refl _) _
    have he := (hL.below hB).e5
    have hr := Lib.hid (hcl.trans (if_neg (by rw [hf]; decide)))
    have hDH := Lib.hid hD
    have hBH := Lib.hid hB
    clear hcl hf hD hB
    go_enter Tryd.func11, Tryd.ntmps11
    go_wp2_with fail
    go_ret
    exact ⟨by rw [hr.out]; rfl, Keeps.of_below hBH.out, by rw [hr.out]; exact hDH.out.below hBH.out⟩
  | some p =>
    obtain ⟨hp, hpn⟩ := findS_some hf
    have hl := hD.lookup_some hf
    have hr := Lib.hid (hcl.trans (if_pos (by rw [hf]; rfl)))
    have hB : Below w.heap.size w (w.alloc (.cells p.t.cells 30)) := (Below.refl _ _).alloc (Nat.le_refl _) _
    have hD1 := hD.below hB
    have d1 := hD1.at1
    obtain ⟨w2, hdel, hk2, hD2⟩ := hD1.delete hG.sorted hp
    rw [hpn] at hdel hD2
    have hfin := Lib.hid (show Keeps (· = r) w w2 ∧ DeskS w2 b r next (L.filter fun q => !(q.n == n)) from ⟨(Keeps.of_below hB).trans hk2, hD2⟩)
    obtain ⟨pn, who, svc, ep, bg, fn, sr⟩ := p
    dsimp only [Tick.val, Tick.cells] at hl d1 hdel
    clear hcl hf hD hB hD1 hk2 hD2 hp hpn
    go_enter Tryd.func11, Tryd.ntmps11
    go_wp2_with fail
    go_ret
    exact ⟨by rw [hr.out]; rfl, hfin.out.1, by rw [hr.out]; exact hfin.out.2⟩
end Go.Proofs.YtmjbhglmlbgkmaaDoor
