/- Errors as values, the sentinels' variables, small lemmas, mark.Key. -/
import Derived.Test.YtmjbhglmlbgkmaaDoorProg
import Derived.Test.YtmjbhglmlbgkmaaDoorPlain
import Derived.WalkKit
import Derived.WalkSpells
import Derived.WalkLawsBesides
import Derived.Lib.Hide
import Derived.Deep.QuietTactic
import Derived.BigQuiet
import Derived.Deep.Draws
namespace Go.Proofs.YtmjbhglmlbgkmaaDoor
open Go.RowKit

/-- An error by its number (0: nil). -/
def errV (E : Nat → Addr) : Nat → Value
  | 0 => .nilIface
  | c + 1 => .iface 242 (.pointer (some (E (c + 1))))
theorem errV_zero (E : Nat → Addr) : errV E 0 = .nilIface := rfl
theorem errV_succ (E : Nat → Addr) (c : Nat) : errV E (c + 1) = .iface 242 (.pointer (some (E (c + 1)))) := rfl

/-- The sentinels of package api lie at E, each in a row of its own. -/
structure Laid (E : Nat → Addr) (w : World) : Prop where
  e2 : w.cell? ⟨2, 0, none⟩ = some (errV E 2)
  e3 : w.cell? ⟨3, 0, none⟩ = some (errV E 3)
  e4 : w.cell? ⟨10, 0, none⟩ = some (errV E 4)
  e5 : w.cell? ⟨1, 0, none⟩ = some (errV E 5)
  e7 : w.cell? ⟨0, 0, none⟩ = some (errV E 7)
  e8 : w.cell? ⟨9, 0, none⟩ = some (errV E 8)
  e11 : w.cell? ⟨6, 0, none⟩ = some (errV E 11)
  e12 : w.cell? ⟨7, 0, none⟩ = some (errV E 12)
theorem cell_below {w w' : World} (hb : Below w.heap.size w w') {a : Addr} {v : Value} (h : w.cell? a = some v) : w'.cell? a = some v :=
  (hb.cell (World.block_lt_of_cell? w a h)).trans h
theorem Laid.below {E : Nat → Addr} {w w' : World} (h : Laid E w) (hb : Below w.heap.size w w') : Laid E w' where
  e2 := cell_below hb h.e2
  e3 := cell_below hb h.e3
  e4 := cell_below hb h.e4
  e5 := cell_below hb h.e5
  e7 := cell_below hb h.e7
  e8 := cell_below hb h.e8
  e11 := cell_below hb h.e11
  e12 := cell_below hb h.e12
theorem below_drawn {B : Nat} {a w : World} (h : Below B a w) (n : Nat) : Below B a (w.drewN n) := ⟨h.os, h.tape, h.output, h.size, h.block⟩
theorem below_trans {w w1 w2 : World} (h : Below w.heap.size w w1) (h' : Below w1.heap.size w1 w2) : Below w.heap.size w w2 := h.trans (h'.mono h.size)
theorem ret_int {a b : Int} (h : a = b) : Ending.returned (.int .i64 a) = .returned (.int .i64 b) := by rw [h]
theorem ret_bool {a b : Bool} (h : a = b) : Ending.returned (.bool a) = .returned (.bool b) := by rw [h]
theorem ret_int2 {a b : Int} {v : Value} (h : a = b) : Ending.returned (.tuple #[.int .i64 a, v]) = .returned (.tuple #[.int .i64 b, v]) := by rw [h]
end Go.Proofs.YtmjbhglmlbgkmaaDoor
