/- A ticket that came in by value. -/
import Derived.Test.YtmjbhglmlbgkmaaDoorTickG
import Derived.Test.YtmjbhglmlbgkmaaDoorOpen
import Derived.ProofKit
namespace Go.Proofs.YtmjbhglmlbgkmaaDoor
open Go.ChangeShapes Go.WideShapes Go.ChangeAt Go.RowKit Go.ChangeMaps Go.Deep

theorem six_of {α : Type} {l : List α} (h : l.length = 6) : ∃ a b c d e f, l = [a, b, c, d, e, f] := by
  match l, h with
  | [a, b, c, d, e, f], _ => exact ⟨a, b, c, d, e, f, rfl⟩
set_option maxRecDepth 100000 in
/-- A ticket's cells, read. -/
theorem tick_cells {H : Type} {enc : TypeId × Value → H} {W : World} {base : Nat} {spare : Nat → Bool} {held : Bool} {n : Nat} {cs : List Value} {y : DataW H × List MemPlace}
    (h : DataW.trod enc Tryd.prog W base spare held n 30 cs = some y) : ∃ t : Tick, cs = t.cells.toList ∧ TickLen t := by
  have hC : Tryd.prog.cellsOf 30 = 6 := by kernel_rfl
  have h1 : Tryd.prog.cellsOf 9 = 1 := by kernel_rfl
  have h2 : Tryd.prog.cellsOf 3 = 1 := by kernel_rfl
  obtain ⟨hcl, m, hf⟩ := struct_fields Tryd.underlying30 h
  obtain ⟨k0, k1, k2, k3, k4, k5, rfl⟩ := six_of (hcl.trans hC)
  obtain ⟨_, z0⟩ := hf 0 _ rfl
  obtain ⟨_, z1⟩ := hf 1 _ rfl
  obtain ⟨_, z2⟩ := hf 2 _ rfl
  obtain ⟨_, z3⟩ := hf 3 _ rfl
  obtain ⟨_, z4⟩ := hf 4 _ rfl
  obtain ⟨_, z5⟩ := hf 5 _ rfl
  have z0 := field_one z0 h1 (v := k0) rfl
  have z1 := field_one z1 h1 (v := k1) rfl
  have z2 := field_one z2 h2 (v := k2) rfl
  have z3 := field_one z3 h2 (v := k3) rfl
  have z4 := field_one z4 h2 (v := k4) rfl
  have z5 := field_one z5 h2 (v := k5) rfl
  obtain ⟨s0, rfl, l0⟩ := read_string Tryd.underlying9 z0
  obtain ⟨s1, rfl, l1⟩ := read_string Tryd.underlying9 z1
  obtain ⟨x2, rfl, _⟩ := read_int Tryd.underlying3 z2
  obtain ⟨x3, rfl, _⟩ := read_int Tryd.underlying3 z3
  obtain ⟨x4, rfl, _⟩ := read_int Tryd.underlying3 z4
  obtain ⟨x5, rfl, _⟩ := read_int Tryd.underlying3 z5
  exact ⟨⟨s0, s1, x2, x3, x4, x5⟩, rfl, l0, l1⟩
set_option maxRecDepth 100000 in
/-- A ticket by value. -/
theorem tick_arg {H : Type} {enc : TypeId × Value → H} {W : World} {b0 base : Nat} {spare : Nat → Bool} {held : Bool} {v : Value} {d : DataW H} {p : List MemPlace}
    (hv : Value.okWide Tryd.prog W .any b0 30 v) (h : DataW.Trod enc Tryd.prog W base spare held 30 v d p) : ∃ t : Tick, v = t.val ∧ TickLen t := by
  obtain ⟨cs, rfl, _⟩ := okWide_struct Tryd.underlying30 hv
  obtain ⟨fuel, hf⟩ := h
  obtain ⟨t, ht, hl⟩ := tick_cells hf
  have ht : cs = t.cells := Array.toList_inj.1 ht
  subst ht
  exact ⟨t, rfl, hl⟩
end Go.Proofs.YtmjbhglmlbgkmaaDoor
