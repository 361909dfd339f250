/- What was seen: New, in, the closure of Ask, Many, walked. -/
import Derived.Test.YtmjbhglmlbgkmaaDoorSeenM
import Derived.Test.YtmjbhglmlbgkmaaDoorWord
import Derived.Deep.RegionHeld3
import Derived.IntWalk
import Derived.Deep.LoopGhost
import Derived.Deep.CutRange
import Derived.Deep.CutBlock
namespace Go.Proofs.YtmjbhglmlbgkmaaDoor
open Go.RowKit Go.MapKept

set_option maxRecDepth 100000 in
theorem new_seen (long : Int) (w : World) (h : isTime long = true) :
    Calls Tryd.prog 35 #[.int .i64 long] w fun e w' => ∃ b r, e = .returned (.tuple #[.pointer (some ⟨b, 0, none⟩), .nilIface]) ∧ Below w.heap.size w w' ∧ w.heap.size ≤ b ∧ w.heap.size ≤ r ∧ SeenAt w' b r long [] := by
  obtain ⟨h0, h1⟩ := (isTime_iff _).1 h
  have hmm := @run_makeMap Tryd.prog
  have hfin : SeenAt ((w.alloc (.map #[] 0)).alloc (.cells #[.int .i64 long, .map (some w.heap.size)] 112)) (w.heap.size + 1) w.heap.size long [] := by
    refine ⟨?_, [], ?_, List.Perm.refl _⟩
    · have := heap_alloc_new (w.alloc (.map #[] 0)) (.cells #[.int .i64 long, .map (some w.heap.size)] 112)
      rwa [World.size_alloc] at this
    · exact (MapV.new w).below ((Below.refl _ _).alloc (Nat.le_refl _) _)
  have hfin := Lib.hid hfin
  clear h
  go_enter Tryd.func35, Tryd.ntmps35
  go_wp2
  go_ret2
  exact ⟨_, _, rfl, ((Below.refl _ _).alloc (Nat.le_refl _) _).alloc (by simp) _, by omega, Nat.le_refl _, hfin.out⟩
set_option maxRecDepth 100000 in
theorem new_bad {E : Nat → Addr} (long : Int) (w : World) (hL : Laid E w) (h : isTime long = false) :
    Calls Tryd.prog 35 #[.int .i64 long] w fun e w' => e = .returned (.tuple #[.pointer none, errV E 2]) ∧ Below w.heap.size w w' := by
  have hE := hL.e2
  have h1 : long < 0 ∨ 1000000 < long := by
    unfold isTime at h
    rw [Bool.and_eq_false_iff] at h
    rcases h with h | h
    · left; have := of_decide_eq_false h; omega
    · right; have := of_decide_eq_false h; omega
  clear h
  simp only [errV] at hE ⊢
  rcases h1 with h1 | h1
  all_goals
    go_enter Tryd.func35, Tryd.ntmps35
    go_wp2_with fail
    go_quiet (fail)
    go_wp2
    go_ret2
    exact ⟨rfl, below_drawn (Below.refl _ _) _⟩
set_option maxRecDepth 100000 in
theorem in_seen (n : Int) (w : World) :
    Calls Tryd.prog 55 #[.int .i64 n] w fun e w' => e = .returned (.bool (isTime n)) ∧ Below w.heap.size w w' := by
  have hr := Lib.hid (show isTime n = (decide (0 ≤ n) && decide (n ≤ 1000000)) from rfl)
  by_cases h0 : 0 ≤ n
  · by_cases h1 : n ≤ 1000000
    · have hr := Lib.hid ((isTime_iff n).2 ⟨h0, h1⟩)
      go_enter Tryd.func55, Tryd.ntmps55
      go_wp2_with fail
      go_ret
      exact ⟨ret_bool hr.out.symm, Below.refl _ _⟩
    · have hr := Lib.hid (hr.out.trans (by rw [decide_eq_false h1, Bool.and_false]))
      go_enter Tryd.func55, Tryd.ntmps55
      go_wp2_with fail
      go_ret
      exact ⟨ret_bool hr.out.symm, Below.refl _ _⟩
  · have hr := Lib.hid (hr.out.trans (by rw [decide_eq_false h0, Bool.false_and]))
    go_enter Tryd.func55, Tryd.ntmps55
    go_wp2_with fail
    go_ret
    exact ⟨ret_bool hr.out.symm, Below.refl _ _⟩
set_option maxRecDepth 100000 in
theorem many_seen (b r : Nat) (long : Int) (L : List Wd) (w : World) (hS : SeenAt w b r long L) :
    Calls Tryd.prog 38 #[.pointer (some ⟨b, 0, none⟩)] w fun e w' => e = .returned (.int .i64 L.length) ∧ Below w.heap.size w w' := by
  have c1 := hS.at1
  have hl := hS.run_len
  go_enter Tryd.func38, Tryd.ntmps38
  go_wp2
  go_ret
  exact ⟨rfl, Below.refl _ _⟩
set_option maxRecDepth 100000 in
/-- What Ask gives to maps.DeleteFunc: the word is too old. -/
theorem ask1_seen (b n s : Nat) (long now : Int) (k : List UInt8) (t : Int) (w : World) (hn : w.cell? ⟨n, 0, none⟩ = some (.int .i64 now)) (hp : w.cell? ⟨s, 0, none⟩ = some (.pointer (some ⟨b, 0, none⟩)))
    (hl : w.cell? ⟨b, 0, none⟩ = some (.int .i64 long)) (h1 : 0 ≤ long ∧ long ≤ 1000000) (h2 : 0 ≤ now ∧ now ≤ 1000000) :
    Calls Tryd.prog 57 #[.string (bs k), .int .i64 t, .pointer (some ⟨n, 0, none⟩), .pointer (some ⟨s, 0, none⟩)] w fun e w' => e = .returned (.bool (decide (t < now - long))) ∧ w.grownBy w' none := by
  obtain ⟨h1, h1'⟩ := h1
  obtain ⟨h2, h2'⟩ := h2
  by_cases hlt : t < now - long
  · have hr := Lib.hid (decide_eq_true hlt)
    have hw := IntWalk.i64_in (now - long) (by omega)
    go_enter Tryd.func57, Tryd.ntmps57
    go_wp2_with fail
    go_quiet (fail)
    go_wp2
    go_ret
    exact ⟨ret_bool hr.out.symm, (World.grownBy.refl w none).trans (by exact ⟨rfl, rfl, rfl, Nat.le_refl _, fun _ _ _ => rfl⟩)⟩
  · have hr := Lib.hid (decide_eq_false hlt)
    have hw := IntWalk.i64_in (now - long) (by omega)
    go_enter Tryd.func57, Tryd.ntmps57
    go_wp2_with fail
    go_quiet (fail)
    go_wp2
    go_ret
    exact ⟨rfl, ⟨rfl, rfl, rfl, Nat.le_refl _, fun _ _ _ => rfl⟩⟩
end Go.Proofs.YtmjbhglmlbgkmaaDoor
