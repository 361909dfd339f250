/- TickG, TickW, TickW2 -/
import Derived.Test.YtadnjdchjoechaaGreatDoorMg3
import Derived.Test.YtadnjdchjoechaaGreatDoorMg6
import Derived.Deep.RegionHeld3
import Derived.Deep.LoopGhost
import Derived.IntWalk
import Derived.Test.YtadnjdchjoechaaGreatDoorMg15
import Derived.Test.YtadnjdchjoechaaGreatDoorMg18
/- The walks of package ticket: Check, Good by contracts. -/
namespace Go.Proofs.YtadnjdchjoechaaGreatDoor
open Go.RowKit

def Tick.val (t : Tick) : Value := .agg #[.string (bs t.who), .string (bs t.svc), .int .i64 t.epoch, .int .i64 t.beg, .int .i64 t.fin, .int .i64 t.serial]
def Tick.cells (t : Tick) : Array Value := #[.string (bs t.who), .string (bs t.svc), .int .i64 t.epoch, .int .i64 t.beg, .int .i64 t.fin, .int .i64 t.serial]
/-- Are a ticket's texts short enough for memory? -/
def TickLen (t : Tick) : Prop := t.who.length ≤ maxLen ∧ t.svc.length ≤ maxLen
def inB (n lo hi : Int) : Bool := decide (lo ≤ n) && decide (n ≤ hi)
theorem tickNum_in (t : Tick) : tickNum t = (inB t.epoch 1 1073741824 && (inB t.serial 1 1073741824 && (inB t.beg 0 1000000 && inB t.fin t.beg 1000000))) := rfl
theorem in_any (n lo hi : Int) (b : Bool) (w : World) (h : inB n lo hi = b) :
    Calls Tryz.prog 40 #[.int .i64 n, .int .i64 lo, .int .i64 hi] w fun e w' => e = .returned (.bool b) ∧ w = w' := by
  subst h
  unfold inB
  by_cases h1 : lo ≤ n <;> by_cases h2 : n ≤ hi
  all_goals
    go_enter Tryz.func40, Tryz.ntmps40
    go_wp2
    go_ret
    exact ⟨by simp [h1, h2], rfl⟩
set_option maxRecDepth 100000 in
theorem check_tick {E : Nat → Addr} (t : Tick) (w : World) (hL : Laid E w) (hl : TickLen t) :
    Calls Tryz.prog 33 #[t.val] w fun e w' => e = .returned (errV E (tickErr t)) ∧ Below w.heap.size w w' := by
  have hB : Below w.heap.size w (w.alloc (.cells t.cells 25)) := (Below.refl _ _).alloc (Nat.le_refl _) _
  have hnw := Lib.hid (fun wx => name_any (bs t.who) wx (by rw [bs_size]; exact hl.1))
  have hns := Lib.hid (fun wx => name_any (bs t.svc) wx (by rw [bs_size]; exact hl.2))
  have hte : ∀ a b c, isName t.who = a → isName t.svc = b → tickNum t = c → tickErr t = if (a && b) = true then (if c = true then 0 else 2) else 4 := by
    intro a b c h1 h2 h3; subst h1; subst h2; subst h3; rfl
  have hnum := tickNum_in t
  obtain ⟨who, svc, ep, bg, fn, sr⟩ := t
  dsimp only [Tick.val, Tick.cells] at *
  have c1 : (w.alloc (.cells #[.string (bs who), .string (bs svc), .int .i64 ep, .int .i64 bg, .int .i64 fn, .int .i64 sr] 25)).cell? ⟨w.heap.size, 1, none⟩ = some (.string (bs svc)) := by simp
  have c2 : (w.alloc (.cells #[.string (bs who), .string (bs svc), .int .i64 ep, .int .i64 bg, .int .i64 fn, .int .i64 sr] 25)).cell? ⟨w.heap.size, 2, none⟩ = some (.int .i64 ep) := by simp
  have c3 : (w.alloc (.cells #[.string (bs who), .string (bs svc), .int .i64 ep, .int .i64 bg, .int .i64 fn, .int .i64 sr] 25)).cell? ⟨w.heap.size, 3, none⟩ = some (.int .i64 bg) := by simp
  have c4 : (w.alloc (.cells #[.string (bs who), .string (bs svc), .int .i64 ep, .int .i64 bg, .int .i64 fn, .int .i64 sr] 25)).cell? ⟨w.heap.size, 4, none⟩ = some (.int .i64 fn) := by simp
  have c5 : (w.alloc (.cells #[.string (bs who), .string (bs svc), .int .i64 ep, .int .i64 bg, .int .i64 fn, .int .i64 sr] 25)).cell? ⟨w.heap.size, 5, none⟩ = some (.int .i64 sr) := by simp
  cases ha : isName who with
  | false =>
    have hr := Lib.hid ((hte false (isName svc) _ ha rfl rfl).trans (show _ = 4 from by rw [Bool.false_and]; rfl))
    have ha2 := Lib.hid (show isName (bs who).data.toList = false from ha)
    clear hte hnum ha c1 c2 c3 c4 c5
    go_enter Tryz.func33, Tryz.ntmps33
    go_wp2_with fail
    refine (hnw.out _).mono ?_
    rintro e w1 ⟨rfl, hb⟩
    rw [ha2.out]
    have hb := Lib.hid (below_trans hB hb)
    have he := (hL.below hb.out).e4
    go_wp2_with fail
    go_ret
    exact ⟨by rw [hr.out]; rfl, hb.out⟩
  | true =>
  have ha2 := Lib.hid (show isName (bs who).data.toList = true from ha)
  cases hb' : isName svc with
  | false =>
    have hr := Lib.hid ((hte true false _ ha hb' rfl).trans (show _ = 4 from rfl))
    have hb2 := Lib.hid (show isName (bs svc).data.toList = false from hb')
    clear hte hnum ha hb'
    go_enter Tryz.func33, Tryz.ntmps33
    go_wp2_with fail
    refine (hnw.out _).mono ?_
    rintro e w1 ⟨rfl, hb⟩
    rw [ha2.out]
    have d1 := cell_below hb c1
    have hb := Lib.hid (below_trans hB hb)
    clear c1 c2 c3 c4 c5
    go_wp2_with fail
    refine (hns.out _).mono ?_
    rintro e w2 ⟨rfl, hb3⟩
    rw [hb2.out]
    have hb3 := Lib.hid (below_trans hb.out hb3)
    have he := (hL.below hb3.out).e4
    clear d1
    go_wp2_with fail
    go_ret
    exact ⟨by rw [hr.out]; rfl, hb3.out⟩
  | true =>
  have hb2 := Lib.hid (show isName (bs svc).data.toList = true from hb')
  cases hA : inB ep 1 1073741824 with
  | false =>
    have hr := Lib.hid ((hte true true false ha hb' (hnum.trans (by rw [hA]; rfl))).trans (show _ = 2 from rfl))
    clear hte hnum ha hb'
    go_enter Tryz.func33, Tryz.ntmps33
    go_wp2_with fail
    refine (hnw.out _).mono ?_
    rintro e w1 ⟨rfl, hb⟩
    rw [ha2.out]
    have d1 := cell_below hb c1
    have d2 := cell_below hb c2
    have d3 := cell_below hb c3
    have d4 := cell_below hb c4
    have d5 := cell_below hb c5
    have hb := Lib.hid (below_trans hB hb)
    clear c1 c2 c3 c4 c5
    go_wp2_with fail
    refine (hns.out _).mono ?_
    rintro e w2 ⟨rfl, hb3⟩
    rw [hb2.out]
    have f2 := cell_below hb3 d2
    have f3 := cell_below hb3 d3
    have f4 := cell_below hb3 d4
    have f5 := cell_below hb3 d5
    have hb3 := Lib.hid (below_trans hb.out hb3)
    clear d1 d2 d3 d4 d5
    have he := (hL.below hb3.out).e2
    go_wp2_with (go_at_call 40; refine (in_any _ _ _ _ _ (by assumption)).mono ?_; rintro e w' ⟨rfl, rfl⟩)
    go_ret
    exact ⟨by rw [hr.out]; rfl, hb3.out⟩
  | true =>
  cases hB2 : inB sr 1 1073741824 with
  | false =>
    have hr := Lib.hid ((hte true true false ha hb' (hnum.trans (by rw [hA, hB2]; rfl))).trans (show _ = 2 from rfl))
    clear hte hnum ha hb'
    go_enter Tryz.func33, Tryz.ntmps33
    go_wp2_with fail
    refine (hnw.out _).mono ?_
    rintro e w1 ⟨rfl, hb⟩
    rw [ha2.out]
    have d1 := cell_below hb c1
    have d2 := cell_below hb c2
    have d3 := cell_below hb c3
    have d4 := cell_below hb c4
    have d5 := cell_below hb c5
    have hb := Lib.hid (below_trans hB hb)
    clear c1 c2 c3 c4 c5
    go_wp2_with fail
    refine (hns.out _).mono ?_
    rintro e w2 ⟨rfl, hb3⟩
    rw [hb2.out]
    have f2 := cell_below hb3 d2
    have f3 := cell_below hb3 d3
    have f4 := cell_below hb3 d4
    have f5 := cell_below hb3 d5
    have hb3 := Lib.hid (below_trans hb.out hb3)
    clear d1 d2 d3 d4 d5
    have he := (hL.below hb3.out).e2
    go_wp2_with (go_at_call 40; refine (in_any _ _ _ _ _ (by assumption)).mono ?_; rintro e w' ⟨rfl, rfl⟩)
    go_ret
    exact ⟨by rw [hr.out]; rfl, hb3.out⟩
  | true =>
  cases hC : inB bg 0 1000000 with
  | false =>
    have hr := Lib.hid ((hte true true false ha hb' (hnum.trans (by rw [hA, hB2, hC]; rfl))).trans (show _ = 2 from rfl))
    clear hte hnum ha hb'
    go_enter Tryz.func33, Tryz.ntmps33
    go_wp2_with fail
    refine (hnw.out _).mono ?_
    rintro e w1 ⟨rfl, hb⟩
    rw [ha2.out]
    have d1 := cell_below hb c1
    have d2 := cell_below hb c2
    have d3 := cell_below hb c3
    have d4 := cell_below hb c4
    have d5 := cell_below hb c5
    have hb := Lib.hid (below_trans hB hb)
    clear c1 c2 c3 c4 c5
    go_wp2_with fail
    refine (hns.out _).mono ?_
    rintro e w2 ⟨rfl, hb3⟩
    rw [hb2.out]
    have f2 := cell_below hb3 d2
    have f3 := cell_below hb3 d3
    have f4 := cell_below hb3 d4
    have f5 := cell_below hb3 d5
    have hb3 := Lib.hid (below_trans hb.out hb3)
    clear d1 d2 d3 d4 d5
    have he := (hL.below hb3.out).e2
    go_wp2_with (go_at_call 40; refine (in_any _ _ _ _ _ (by assumption)).mono ?_; rintro e w' ⟨rfl, rfl⟩)
    go_ret
    exact ⟨by rw [hr.out]; rfl, hb3.out⟩
  | true =>
  cases hD : inB fn bg 1000000 with
  | false =>
    have hr := Lib.hid ((hte true true false ha hb' (hnum.trans (by rw [hA, hB2, hC, hD]; rfl))).trans (show _ = 2 from rfl))
    clear hte hnum ha hb'
    go_enter Tryz.func33, Tryz.ntmps33
    go_wp2_with fail
    refine (hnw.out _).mono ?_
    rintro e w1 ⟨rfl, hb⟩
    rw [ha2.out]
    have d1 := cell_below hb c1
    have d2 := cell_below hb c2
    have d3 := cell_below hb c3
    have d4 := cell_below hb c4
    have d5 := cell_below hb c5
    have hb := Lib.hid (below_trans hB hb)
    clear c1 c2 c3 c4 c5
    go_wp2_with fail
    refine (hns.out _).mono ?_
    rintro e w2 ⟨rfl, hb3⟩
    rw [hb2.out]
    have f2 := cell_below hb3 d2
    have f3 := cell_below hb3 d3
    have f4 := cell_below hb3 d4
    have f5 := cell_below hb3 d5
    have hb3 := Lib.hid (below_trans hb.out hb3)
    clear d1 d2 d3 d4 d5
    have he := (hL.below hb3.out).e2
    go_wp2_with (go_at_call 40; refine (in_any _ _ _ _ _ (by assumption)).mono ?_; rintro e w' ⟨rfl, rfl⟩)
    go_ret
    exact ⟨by rw [hr.out]; rfl, hb3.out⟩
  | true =>
  have hr := Lib.hid ((hte true true true ha hb' (hnum.trans (by rw [hA, hB2, hC, hD]; rfl))).trans (show _ = 0 from rfl))
  clear hte hnum ha hb'
  go_enter Tryz.func33, Tryz.ntmps33
  go_wp2_with fail
  refine (hnw.out _).mono ?_
  rintro e w1 ⟨rfl, hb⟩
  rw [ha2.out]
  have d1 := cell_below hb c1
  have d2 := cell_below hb c2
  have d3 := cell_below hb c3
  have d4 := cell_below hb c4
  have d5 := cell_below hb c5
  have hb := Lib.hid (below_trans hB hb)
  clear c1 c2 c3 c4 c5
  go_wp2_with fail
  refine (hns.out _).mono ?_
  rintro e w2 ⟨rfl, hb3⟩
  rw [hb2.out]
  have f2 := cell_below hb3 d2
  have f3 := cell_below hb3 d3
  have f4 := cell_below hb3 d4
  have f5 := cell_below hb3 d5
  have hb3 := Lib.hid (below_trans hb.out hb3)
  clear d1 d2 d3 d4 d5
  go_wp2_with (go_at_call 40; refine (in_any _ _ _ _ _ (by assumption)).mono ?_; rintro e w' ⟨rfl, rfl⟩)
  go_ret
  exact ⟨by rw [hr.out]; rfl, hb3.out⟩

set_option maxRecDepth 100000 in
theorem good_tick {E : Nat → Addr} (t : Tick) (now : Int) (w : World) (hL : Laid E w) (hl : TickLen t) :
    Calls Tryz.prog 17 #[t.val, .int .i64 now] w fun e w' => e = .returned (errV E (goodT t now)) ∧ Below w.heap.size w w' := by
  have hB : Below w.heap.size w (w.alloc (.cells t.cells 25)) := (Below.refl _ _).alloc (Nat.le_refl _) _
  have hck := Lib.hid (check_tick (E := E) t _ (hL.below hB) hl)
  have hgd : goodT t now = if tickErr t = 0 then (if 0 ≤ now ∧ now ≤ 1000000 then (if now < t.beg then 11 else if t.fin ≤ now then 12 else 0) else 2) else tickErr t := rfl
  generalize tickErr t = c at *
  obtain ⟨who, svc, ep, bg, fn, sr⟩ := t
  dsimp only [Tick.val, Tick.cells] at *
  cases c with
  | succ c =>
    have hr := Lib.hid (hgd.trans (if_neg (Nat.succ_ne_zero c)))
    rw [errV_succ] at hck
    clear hgd
    go_enter Tryz.func17, Tryz.ntmps17
    go_wp2_with fail
    refine hck.out.mono ?_
    rintro e w1 ⟨rfl, hb⟩
    have hb := Lib.hid (below_trans hB hb)
    go_wp2_with fail
    go_ret
    exact ⟨by rw [hr.out]; rfl, hb.out⟩
  | zero =>
  rw [errV_zero] at hck
  have hgd := hgd.trans (if_pos rfl)
  have c3 : (w.alloc (.cells #[.string (bs who), .string (bs svc), .int .i64 ep, .int .i64 bg, .int .i64 fn, .int .i64 sr] 25)).cell? ⟨w.heap.size, 3, none⟩ = some (.int .i64 bg) := by simp
  have c4 : (w.alloc (.cells #[.string (bs who), .string (bs svc), .int .i64 ep, .int .i64 bg, .int .i64 fn, .int .i64 sr] 25)).cell? ⟨w.heap.size, 4, none⟩ = some (.int .i64 fn) := by simp
  by_cases h1 : 0 ≤ now ∧ now ≤ 1000000
  case neg =>
    have hr := Lib.hid (hgd.trans (if_neg h1))
    have hI : inB now 0 1000000 = false := by unfold inB; simp; omega
    clear hgd
    go_enter Tryz.func17, Tryz.ntmps17
    go_wp2_with fail
    refine hck.out.mono ?_
    rintro e w1 ⟨rfl, hb⟩
    have d3 := cell_below hb c3
    have d4 := cell_below hb c4
    have hb := Lib.hid (below_trans hB hb)
    have he := (hL.below hb.out).e2
    clear c3 c4
    go_wp2_with (go_at_call 40; refine (in_any _ _ _ _ _ (by assumption)).mono ?_; rintro e w' ⟨rfl, rfl⟩)
    go_ret
    exact ⟨by rw [hr.out]; rfl, hb.out⟩
  have hgd := hgd.trans (if_pos h1)
  by_cases h2 : now < bg
  case pos =>
    have hr := Lib.hid (hgd.trans (if_pos h2))
    have hI : inB now 0 1000000 = true := by unfold inB; simp; omega
    clear hgd
    go_enter Tryz.func17, Tryz.ntmps17
    go_wp2_with fail
    refine hck.out.mono ?_
    rintro e w1 ⟨rfl, hb⟩
    have d3 := cell_below hb c3
    have d4 := cell_below hb c4
    have hb := Lib.hid (below_trans hB hb)
    have he := (hL.below hb.out).e11
    clear c3 c4
    go_wp2_with (go_at_call 40; refine (in_any _ _ _ _ _ (by assumption)).mono ?_; rintro e w' ⟨rfl, rfl⟩)
    go_ret
    exact ⟨by rw [hr.out]; rfl, hb.out⟩
  have hgd := hgd.trans (if_neg h2)
  by_cases h3 : fn ≤ now
  case pos =>
    have hr := Lib.hid (hgd.trans (if_pos h3))
    have hI : inB now 0 1000000 = true := by unfold inB; simp; omega
    clear hgd
    go_enter Tryz.func17, Tryz.ntmps17
    go_wp2_with fail
    refine hck.out.mono ?_
    rintro e w1 ⟨rfl, hb⟩
    have d3 := cell_below hb c3
    have d4 := cell_below hb c4
    have hb := Lib.hid (below_trans hB hb)
    have he := (hL.below hb.out).e12
    clear c3 c4
    go_wp2_with (go_at_call 40; refine (in_any _ _ _ _ _ (by assumption)).mono ?_; rintro e w' ⟨rfl, rfl⟩)
    go_ret
    exact ⟨by rw [hr.out]; rfl, hb.out⟩
  have hr := Lib.hid (hgd.trans (if_neg h3))
  have hI : inB now 0 1000000 = true := by unfold inB; simp; omega
  clear hgd
  go_enter Tryz.func17, Tryz.ntmps17
  go_wp2_with fail
  refine hck.out.mono ?_
  rintro e w1 ⟨rfl, hb⟩
  have d3 := cell_below hb c3
  have d4 := cell_below hb c4
  have hb := Lib.hid (below_trans hB hb)
  clear c3 c4
  go_wp2_with (go_at_call 40; refine (in_any _ _ _ _ _ (by assumption)).mono ?_; rintro e w' ⟨rfl, rfl⟩)
  go_ret
  exact ⟨by rw [hr.out]; rfl, hb.out⟩

/-- A ticket's block, kept: its cells, and none frozen. -/
theorem tick_kept {w0 w1 : World} {n : Nat} {v0 v1 v2 v3 v4 v5 : Value} {T : TypeId} (hb : Below w0.heap.size w0 w1) (h : w0.heap[n]? = some (.cells #[v0, v1, v2, v3, v4, v5] T (0, 0))) :
    (w1.cell? ⟨n, 0, none⟩ = some v0 ∧ w1.cell? ⟨n, 1, none⟩ = some v1 ∧ w1.cell? ⟨n, 2, none⟩ = some v2 ∧ w1.cell? ⟨n, 3, none⟩ = some v3 ∧ w1.cell? ⟨n, 4, none⟩ = some v4 ∧ w1.cell? ⟨n, 5, none⟩ = some v5) ∧
    (w1.frozen? ⟨n, 0, none⟩ = false ∧ w1.frozen? ⟨n, 1, none⟩ = false ∧ w1.frozen? ⟨n, 2, none⟩ = false ∧ w1.frozen? ⟨n, 3, none⟩ = false ∧ w1.frozen? ⟨n, 4, none⟩ = false ∧ w1.frozen? ⟨n, 5, none⟩ = false) := by
  have h1 : w1.heap[n]? = some (.cells #[v0, v1, v2, v3, v4, v5] T (0, 0)) := (hb.block n (Array.getElem?_eq_some_iff.1 h).1).trans h
  refine ⟨⟨?_, ?_, ?_, ?_, ?_, ?_⟩, ?_, ?_, ?_, ?_, ?_, ?_⟩
  all_goals first
    | (rw [cell_of_row _ _ _ _ _ _ h1]; rfl)
    | exact frozen_of_row _ _ _ _ _ h1
theorem heap_below {w w' : World} (hb : Below w.heap.size w w') {b : Nat} {o : Obj} (h : w.heap[b]? = some o) : w'.heap[b]? = some o :=
  (hb.block b (Array.getElem?_eq_some_iff.1 h).1).trans h
theorem box_at (w : World) (cs : Array Value) (T : TypeId) (o : Obj) : ((w.alloc (.cells cs T)).alloc o).heap[w.heap.size]? = some (.cells cs T (0, 0)) := by
  exact heap_below ((Below.refl _ _).alloc (Nat.le_refl _) o) (heap_alloc_new w _)
theorem box_new (w : World) (cs : Array Value) (T : TypeId) (o : Obj) : ((w.alloc o).alloc (.cells cs T)).heap[w.heap.size + 1]? = some (.cells cs T (0, 0)) := by
  have := heap_alloc_new (w.alloc o) (.cells cs T)
  rwa [World.size_alloc] at this
theorem row_set6 {w : World} {n : Nat} {u0 u1 u2 u3 u4 u5 : Value} {T : TypeId} (h : w.heap[n]? = some (.cells #[u0, u1, u2, u3, u4, u5] T (0, 0))) (v0 v1 v2 v3 v4 v5 : Value) :
    ((((((w.setCell ⟨n, 0, none⟩ v0).setCell ⟨n, 1, none⟩ v1).setCell ⟨n, 2, none⟩ v2).setCell ⟨n, 3, none⟩ v3).setCell ⟨n, 4, none⟩ v4).setCell ⟨n, 5, none⟩ v5).heap[n]? = some (.cells #[v0, v1, v2, v3, v4, v5] T (0, 0)) := by
  have h0 := heap_setCell_same _ n 0 _ _ v0 h
  have h1 := heap_setCell_same _ n 1 _ _ v1 h0
  have h2 := heap_setCell_same _ n 2 _ _ v2 h1
  have h3 := heap_setCell_same _ n 3 _ _ v3 h2
  have h4 := heap_setCell_same _ n 4 _ _ v4 h3
  exact heap_setCell_same _ n 5 _ _ v5 h4
theorem row_set3 {w : World} {n : Nat} {u0 u1 u2 u3 u4 u5 : Value} {T : TypeId} (h : w.heap[n]? = some (.cells #[u0, u1, u2, u3, u4, u5] T (0, 0))) (v3 v4 v5 : Value) :
    (((w.setCell ⟨n, 3, none⟩ v3).setCell ⟨n, 4, none⟩ v4).setCell ⟨n, 5, none⟩ v5).heap[n]? = some (.cells #[u0, u1, u2, v3, v4, v5] T (0, 0)) := by
  have h3 := heap_setCell_same _ n 3 _ _ v3 h
  have h4 := heap_setCell_same _ n 4 _ _ v4 h3
  exact heap_setCell_same _ n 5 _ _ v5 h4
theorem row_other3 {w : World} {n m : Nat} {o : Obj} (h : w.heap[m]? = some o) (hne : m ≠ n) (v3 v4 v5 : Value) :
    (((w.setCell ⟨n, 3, none⟩ v3).setCell ⟨n, 4, none⟩ v4).setCell ⟨n, 5, none⟩ v5).heap[m]? = some o := by
  rw [heap_setCell_other _ _ _ _ hne, heap_setCell_other _ _ _ _ hne, heap_setCell_other _ _ _ _ hne]
  exact h
theorem below_set3 {B : Nat} {a w : World} (h : Below B a w) {n : Nat} (hn : B ≤ n) (v3 v4 v5 : Value) :
    Below B a (((w.setCell ⟨n, 3, none⟩ v3).setCell ⟨n, 4, none⟩ v4).setCell ⟨n, 5, none⟩ v5) :=
  ((h.setCell hn _).setCell hn _).setCell hn _
theorem below_set6 {B : Nat} {a w : World} (h : Below B a w) {n : Nat} (hn : B ≤ n) (v0 v1 v2 v3 v4 v5 : Value) :
    Below B a ((((((w.setCell ⟨n, 0, none⟩ v0).setCell ⟨n, 1, none⟩ v1).setCell ⟨n, 2, none⟩ v2).setCell ⟨n, 3, none⟩ v3).setCell ⟨n, 4, none⟩ v4).setCell ⟨n, 5, none⟩ v5) :=
  (((((h.setCell hn _).setCell hn _).setCell hn _).setCell hn _).setCell hn _).setCell hn _
end Go.Proofs.YtadnjdchjoechaaGreatDoor

/- The walks of package ticket: Renew by contract. -/
namespace Go.Proofs.YtadnjdchjoechaaGreatDoor
open Go.RowKit

end Go.Proofs.YtadnjdchjoechaaGreatDoor

/- The walks of package ticket: Make by its contract. -/
namespace Go.Proofs.YtadnjdchjoechaaGreatDoor
open Go.RowKit Go.Maps

theorem ownsRow_below {w w' : World} {base : Nat} {e : TypeId} {size : Nat} {v : Value} {n : Nat} {xs : List Value} (h : w.ownsRow base e size v n xs) (hb : Below w.heap.size w w') : w'.ownsRow base e size v n xs := by
  obtain ⟨h1, h2 | ⟨g, cap, cur, h3, h4, h5, h6⟩⟩ := h
  · exact ⟨h1, .inl h2⟩
  · exact ⟨h1, .inr ⟨g, cap, cur, h3, h4, heap_below hb h5, h6⟩⟩
def tickNums (t : Tick) : List Int := [t.epoch, t.beg, t.fin, t.serial]
theorem tickWords_at (t : Tick) (j : Nat) (h : j < 4) : (tickWords t).take (3 + (j + 1)) = (tickWords t).take (3 + j) ++ [Lib.itoa ((tickNums t).getD j 0)] := by
  match j, h with
  | 0, _ => rfl
  | 1, _ => rfl
  | 2, _ => rfl
  | 3, _ => rfl
theorem tickNums_bd {t : Tick} (h : tickErr t = 0) (j : Nat) (hj : j < 4) : 0 ≤ (tickNums t).getD j 0 ∧ (tickNums t).getD j 0 ≤ 1073741824 := by
  obtain ⟨_, _, h3⟩ := tickErr_zero h
  obtain ⟨⟨a1, a2⟩, ⟨b1, b2⟩, ⟨c1, c2⟩, d1, d2⟩ := (tickNum_iff t).1 h3
  match j, hj with
  | 0, _ => exact ⟨show 0 ≤ t.epoch by omega, show t.epoch ≤ _ by omega⟩
  | 1, _ => exact ⟨show 0 ≤ t.beg by omega, show t.beg ≤ _ by omega⟩
  | 2, _ => exact ⟨show 0 ≤ t.fin by omega, show t.fin ≤ _ by omega⟩
  | 3, _ => exact ⟨show 0 ≤ t.serial by omega, show t.serial ≤ _ by omega⟩
set_option maxHeartbeats 1000000 in
set_option maxRecDepth 100000 in
theorem make_tick {E : Nat → Addr} (k : Int) (t : Tick) (w : World) (hL : LaidS E w) (hl : TickLen t) :
    Calls Tryz.prog 10 #[.int .i64 k, t.val] w fun e w' => e = .returned (.tuple #[.string (bs (makeT k t).1), errV E (makeT k t).2]) ∧ Below w.heap.size w w' := by
  have hB : Below w.heap.size w (w.alloc (.cells t.cells 25)) := (Below.refl _ _).alloc (Nat.le_refl _) _
  have hbt := Lib.hid (heap_alloc_new w (.cells t.cells 25))
  have hck := Lib.hid (check_tick (E := E) t _ (hL.below hB).laid hl)
  have hmk : makeT k t = if isKey k = true then (if tickErr t = 0 then (sealText k (tickWords t), 0) else ([], tickErr t)) else ([], 10) := rfl
  generalize hp : makeT k t = p at *
  clear hp
  by_cases hk : isKey k = true
  case neg =>
    have hr := Lib.hid (hmk.trans (if_neg hk))
    have hk : isKey k = false := by simpa using hk
    have he := (hL.below hB).laid.e10
    obtain ⟨who, svc, ep, bg, fn, sr⟩ := t
    dsimp only [Tick.val, Tick.cells] at *
    clear hmk
    go_enter Tryz.func10, Tryz.ntmps10
    go_wp2_with (go_at_call 31; refine (key_any _ _).mono ?_; rintro e w' ⟨rfl, rfl⟩)
    go_quiet (fail)
    go_wp2_with fail
    go_ret2
    exact ⟨by rw [hr.out]; rfl, below_drawn hB _⟩
  have hmk := hmk.trans (if_pos hk)
  cases hte : tickErr t with
  | succ c =>
    have hr := Lib.hid (show p = ([], c + 1) by rw [hmk, if_neg (by rw [hte]; exact Nat.succ_ne_zero c), hte])
    rw [hte, errV_succ] at hck
    clear hmk hte
    obtain ⟨who, svc, ep, bg, fn, sr⟩ := t
    dsimp only [Tick.val, Tick.cells] at *
    go_enter Tryz.func10, Tryz.ntmps10
    go_wp2_with (go_at_call 31; refine (key_any _ _).mono ?_; rintro e w' ⟨rfl, rfl⟩)
    refine hck.out.mono ?_
    rintro e w1 ⟨rfl, hb⟩
    have hb := Lib.hid (below_trans hB hb)
    go_wp2_with fail
    go_ret2
    exact ⟨by rw [hr.out]; rfl, hb.out⟩
  | zero =>
  have hr := Lib.hid (show p = (sealText k (tickWords t), 0) by rw [hmk, if_pos hte])
  have hms := Lib.hid (fun v wx (hx : Below w.heap.size w wx) (hv : TextsAt wx v (tickWords t)) => make_any (E := E) k v (tickWords t) wx (hL.below hx) hv (fun x hx => by
    have := ((isWord_iff x).1 (tickWords_words hte x hx)).2.1
    unfold maxLen
    omega))
  have hmo := Lib.hid (make_of hk (by rw [tickWords_len]; decide) (by rw [tickWords_len]; decide) (tickWords_words hte))
  have hnb := Lib.hid (tickNums_bd hte)
  have hti := Lib.hid (fun j hj wx (hx : Below w.heap.size w wx) => itoa_any (E := E) ((tickNums t).getD j 0) (by have := tickNums_bd hte j hj; omega) (by have := tickNums_bd hte j hj; omega) wx (hL.below hx))
  have hwa := Lib.hid (tickWords_at t)
  have hw3 := Lib.hid (show (tickWords t).take 3 = [ticketW, t.who, t.svc] from rfl)
  have hw7 := Lib.hid (show (tickWords t).take 7 = tickWords t from rfl)
  have hwl := Lib.hid (tickWords_len t)
  have hn0 := Lib.hid (show (tickNums t).getD 0 0 = t.epoch ∧ (tickNums t).getD 1 0 = t.beg ∧ (tickNums t).getD 2 0 = t.fin ∧ (tickNums t).getD 3 0 = t.serial from ⟨rfl, rfl, rfl, rfl⟩)
  rw [hte, errV_zero] at hck
  clear hmk hte
  generalize tickWords t = TW at *
  generalize tickNums t = TN at *
  obtain ⟨i0, hi, hz0, hz1, hz2⟩ := info_parts info_string
  obtain ⟨who, svc, ep, bg, fn, sr⟩ := t
  dsimp only [Tick.val, Tick.cells] at *
  go_enter Tryz.func10, Tryz.ntmps10
  go_wp2_with (go_at_call 31; refine (key_any _ _).mono ?_; rintro e w' ⟨rfl, rfl⟩)
  refine hck.out.mono ?_
  rintro e w1 ⟨rfl, hb⟩
  obtain ⟨⟨b0, b1, b2, b3, b4, b5⟩, _⟩ := tick_kept hb hbt.out
  have hlt1 := Nat.lt_of_lt_of_le (show w.heap.size < (w.alloc (.cells #[.string (bs who), .string (bs svc), .int .i64 ep, .int .i64 bg, .int .i64 fn, .int .i64 sr] 25)).heap.size by simp) hb.size
  have hb := Lib.hid (below_trans hB hb)
  have hown0 := Lib.hid (ownsRow_below (World.ownsRow_lit (base := w1.heap.size) (e := 9) (size := 1) w1 #[.string ⟨#[116, 105, 99, 107, 101, 116]⟩, .string (bs who), .string (bs svc)] 3 (Nat.le_refl _) (by decide) rfl) ((Below.refl _ _).alloc (Nat.le_refl _) (.cells #[.int .i64 ep, .int .i64 bg, .int .i64 fn, .int .i64 sr] 3)))
  have hb0 := Lib.hid (((Below.refl w1.heap.size w1).alloc (Nat.le_refl _) (.cells #[.string ⟨#[116, 105, 99, 107, 101, 116]⟩, .string (bs who), .string (bs svc)] 9)).alloc (by simp) (.cells #[.int .i64 ep, .int .i64 bg, .int .i64 fn, .int .i64 sr] 3))
  go_wp2_with fail
  go_loopw [7, 34] (fun v i wr => ∃ j : Nat, j ≤ 4 ∧ i = .int .i64 j ∧ Hid (wr.ownsRow w1.heap.size 9 1 v (3 + j) ((TW.take (3 + j)).map strV) ∧ Below w1.heap.size w1 wr ∧ w1.heap.size + 2 ≤ wr.heap.size ∧ (∀ q, q < 4 → wr.cell? ⟨w1.heap.size + 1, q, none⟩ = some (.int .i64 (TN.getD q 0))) ∧ v.ownBlock ≠ some (w1.heap.size + 1))) (fun _ i _ => 4 - (intOf i).toNat)
  case atStart =>
    refine ⟨0, by omega, rfl, Lib.hid ⟨by rw [hw3.out]; exact hown0.out, hb0.out, by simp, fun q hq => ?_, by simp [Value.ownBlock]⟩⟩
    match q, hq with
    | 0, _ => rw [hn0.out.1]; simp
    | 1, _ => rw [hn0.out.2.1]; simp
    | 2, _ => rw [hn0.out.2.2.1]; simp
    | 3, _ => rw [hn0.out.2.2.2]; simp
  case round =>
    obtain ⟨j, hj, rfl, H⟩ := hrel
    obtain ⟨hown, hbr, hsz, hcells, hnb2⟩ := H.out
    clear H
    have hbw := Lib.hid (below_trans hb.out hbr)
    by_cases hlt : j < 4
    · have hc := hcells j hlt
      have hit := hti.out j hlt wr hbw.out
      have hwj := hwa.out j hlt
      have hnl := hnb.out j hlt
      have hsn : (bs (Lib.itoa (TN.getD j 0))).size ≤ 20 := by rw [bs_size]; exact itoa_len (by omega) (by omega)
      obtain ⟨hn1, hn2⟩ := hnl
      generalize TN.getD j 0 = nj at *
      have hit := Lib.hid hit
      have hwj := Lib.hid hwj
      have hcellsH := Lib.hid hcells
      clear hcells
      have hown := Lib.hid hown
      have hbr := Lib.hid hbr
      have hnb2 := Lib.hid hnb2
      have hk1 : (j : Int) < 4 := by omega
      go_wp2_with fail
      refine hit.out.mono ?_
      rintro e w2 ⟨rfl, hb2⟩
      have hown2 := ownsRow_below hown.out hb2
      have hcells2 := Lib.hid (fun q hq => cell_below hb2 (hcellsH.out q hq))
      have hs2 := hb2.size
      have hb2 := Lib.hid (hbr.out.trans (hb2.mono hbr.out.size))
      clear hc
      go_wp2_with (at_builtin; refine wpList_append_own_at _ rfl _ _ 82 rfl w1.heap.size 9 i0 (.string ⟨#[]⟩) 1 16 Tryz.underlying82 hi hz0 hz1 hz2 rfl (by decide) _ _ _ rfl (hown2.alloc _) ⟨w2.heap.size, 0, none⟩ 1 1 [.string (bs (Lib.itoa nj))] rfl rfl (cell_one_new _ _ _) (fun u hu => by simp at hu; subst hu; rfl) ?c3 ?c4 ?c5 ?_)
      case c3 => unfold maxLen; omega
      case c4 => omega
      case c5 => simp; omega
      intro v' w3 hown' hgrow _ hblk
      have hb3 := (hb2.out.alloc hb2.out.size _).grown hgrow (by have := hb2.out.size; simp; omega) (fun k hk => (hown2.lt k hk).1)
      have hs3 := hgrow.size
      have hfin := Lib.hid (show w3.ownsRow w1.heap.size 9 1 v' (3 + (j + 1)) ((TW.take (3 + (j + 1))).map strV) ∧ Below w1.heap.size w1 w3 ∧ w1.heap.size + 2 ≤ w3.heap.size ∧ (∀ q, q < 4 → w3.cell? ⟨w1.heap.size + 1, q, none⟩ = some (.int .i64 (TN.getD q 0))) ∧ v'.ownBlock ≠ some (w1.heap.size + 1) from by
        refine ⟨by rw [hwj.out, List.map_append, List.map_take]; exact hown', hb3, by simp at hs3; omega, fun q hq => ?_, ?_⟩
        · refine hgrow.cell ?_ (fun e => hnb2.out e.symm)
          have h := hcells2.out q hq
          rw [World.cell?_alloc_lt _ _ _ (World.block_lt_of_cell? _ _ h)]
          exact h
        · rcases hblk with h | h
          · rw [h]; exact hnb2.out
          · rw [h]
            intro e
            have := Option.some.inj e
            simp at this
            omega)
      clear hown' hgrow hown2 hb3 hs3 hs2 hblk
      go_wp2_with fail
      go_roundw
      case rel => exact ⟨j + 1, by omega, by go_num, hfin⟩
      case measure => simp [intOf]; omega
    · have hje : j = 4 := by omega
      subst hje
      have hT := textsAt_of_ownsRow (base := w1.heap.size) (w := wr) (L := TW) (by rw [hwl.out]; decide) (by rw [hwl.out]; have := hown; rw [hw7.out] at this; exact this)
      have hmk := Lib.hid (hms.out _ wr hbw.out hT)
      rw [hmo.out] at hmk
      clear hown hcells hnb2 hT hbr
      go_wp2_with fail
      refine hmk.out.mono ?_
      rintro e w2 ⟨ev, rfl, hev, hb2⟩
      rcases hev with ⟨_, rfl⟩ | ⟨_, _, h1, _⟩
      case inr => exact absurd h1 (Nat.not_succ_le_zero 0)
      have hb2 := Lib.hid (below_trans hbw.out hb2)
      rw [errV_zero]
      go_wp2_with fail
      go_ret2
      exact ⟨by rw [hr.out]; rfl, hb2.out⟩
end Go.Proofs.YtadnjdchjoechaaGreatDoor
