/- A person who came in by value. -/
import Derived.Test.YtjckllgbllmjjaaGreatDoorProg
import Derived.Test.YtjckllgbllmjjaaGreatDoorPerson
import Derived.Test.YtjckllgbllmjjaaGreatDoorOpen
import Derived.ProofKit
namespace Go.Proofs.YtjckllgbllmjjaaGreatDoor
open Go.ChangeShapes Go.WideShapes Go.ChangeAt Go.RowKit Go.ChangeMaps Go.Deep

set_option maxRecDepth 100000 in
/-- A person's cells, read. -/
theorem per_cells {H : Type} {enc : TypeId × Value → H} {W : World} {base : Nat} {spare : Nat → Bool} {held : Bool} {n : Nat} {cs : List Value} {y : DataW H × List MemPlace}
    (h : DataW.trod enc Tryz.prog W base spare held n 24 cs = some y) : ∃ p : Per, cs = [.string (bs p.name), .int .i64 p.key, .int .i64 p.epoch, .bool p.off] ∧ p.name.length ≤ maxLen := by
  have hC : Tryz.prog.cellsOf 24 = 4 := by kernel_rfl
  have h1 : Tryz.prog.cellsOf 9 = 1 := by kernel_rfl
  have h2 : Tryz.prog.cellsOf 3 = 1 := by kernel_rfl
  have h3 : Tryz.prog.cellsOf 4 = 1 := by kernel_rfl
  obtain ⟨hcl, m, hf⟩ := struct_fields Tryz.underlying24 h
  obtain ⟨k0, k1, k2, k3, rfl⟩ := four_of (hcl.trans hC)
  obtain ⟨_, z0⟩ := hf 0 _ rfl
  obtain ⟨_, z1⟩ := hf 1 _ rfl
  obtain ⟨_, z2⟩ := hf 2 _ rfl
  obtain ⟨_, z3⟩ := hf 3 _ rfl
  have z0 := field_one z0 h1 (v := k0) rfl
  have z1 := field_one z1 h2 (v := k1) rfl
  have z2 := field_one z2 h2 (v := k2) rfl
  have z3 := field_one z3 h3 (v := k3) rfl
  obtain ⟨s0, rfl, l0⟩ := read_string Tryz.underlying9 z0
  obtain ⟨x1, rfl, _⟩ := read_int Tryz.underlying3 z1
  obtain ⟨x2, rfl, _⟩ := read_int Tryz.underlying3 z2
  obtain ⟨x3, rfl⟩ := read_bool Tryz.underlying4 z3
  exact ⟨⟨s0, x1, x2, x3⟩, rfl, l0⟩
set_option maxRecDepth 100000 in
/-- A person by value. -/
theorem per_arg {H : Type} {enc : TypeId × Value → H} {W : World} {b0 base : Nat} {spare : Nat → Bool} {held : Bool} {v : Value} {d : DataW H} {p : List MemPlace}
    (hv : Value.okWide Tryz.prog W .any b0 24 v) (h : DataW.Trod enc Tryz.prog W base spare held 24 v d p) : ∃ t : Per, v = t.val ∧ t.name.length ≤ maxLen := by
  obtain ⟨cs, rfl, _⟩ := okWide_struct Tryz.underlying24 hv
  obtain ⟨fuel, hf⟩ := h
  obtain ⟨t, ht, hl⟩ := per_cells hf
  have ht : cs = #[.string (bs t.name), .int .i64 t.key, .int .i64 t.epoch, .bool t.off] := Array.toList_inj.1 ht
  subst ht
  exact ⟨t, rfl, hl⟩
end Go.Proofs.YtjckllgbllmjjaaGreatDoor
