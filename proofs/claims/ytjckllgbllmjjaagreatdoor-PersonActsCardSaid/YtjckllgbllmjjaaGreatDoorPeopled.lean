/- The closed fact peopled, walked. -/
import Derived.Test.YtjckllgbllmjjaaGreatDoorSame
namespace Go.Proofs.YtjckllgbllmjjaaGreatDoor
open Go.RowKit

def annB : List UInt8 := [97, 110, 110]
theorem ann_add : addOf [] annB 5 = (0, [⟨annB, 5, 1, false⟩]) := by rfl
theorem ann_raise : raiseOf [⟨annB, 5, 1, false⟩] annB = (2, 0, [⟨annB, 5, 2, false⟩]) := by rfl
theorem ann_find : findP [⟨annB, 5, 2, false⟩] annB = some ⟨annB, 5, 2, false⟩ := by rfl
set_option maxRecDepth 100000 in
theorem peopled_any {E : Nat → Addr} (w : World) (hL : Laid E w) :
    Calls Tryz.prog 4 #[] w fun e w' => e = .returned (.bool true) ∧ Below w.heap.size w w' := by
  go_enter Tryz.func4, Tryz.ntmps4
  go_wp2_with fail
  refine (new_book _).mono ?_
  rintro e w1 ⟨b, r, rfl, hb1, hbb, hrr, hB⟩
  have hL1 := hL.below hb1
  have hadd := Lib.hid (add_any b r [] annB 5 w1 hL1 hB (by decide) (by decide))
  go_wp2_with fail
  refine hadd.out.mono ?_
  rintro e w2 ⟨rfl, hk2, hB2⟩
  rw [ann_add] at *
  have hb2 : Below w.heap.size w1 w2 := hk2.below hb1.size (fun k hk => by have : k = r := hk; omega)
  have hb2 := hb1.trans hb2
  have hL2 := hL.below hb2
  have hra := Lib.hid (raise_any b r _ annB w2 hL2 hB2 (by intro p hp; simp at hp; subst hp; exact ⟨by decide, by decide⟩))
  clear hadd hk2
  have hb1 := Lib.hid hb1
  have hb2 := Lib.hid hb2
  have hL1 := Lib.hid hL1
  simp only [errV]
  go_wp2_with fail
  refine hra.out.mono ?_
  rintro e w3 ⟨rfl, hk3, hB3⟩
  rw [ann_raise] at *
  have hb3 := hb2.out.trans (hk3.below (B := w.heap.size) hb2.out.size (fun k hk => by have : k = r := hk; omega))
  have hL3 := hL.below hb3
  have hge := Lib.hid (get_some (E := E) b r _ annB _ w3 hB3 ann_find)
  clear hra hk3
  have hb3 := Lib.hid hb3
  simp only [errV]
  go_wp2_with fail
  refine hge.out.mono ?_
  rintro e w4 ⟨rfl, hb4⟩
  have hb4 := Lib.hid (hb3.out.trans (hb4.mono hb3.out.size))
  clear hge
  simp only [errV]
  have hann : bs annB = ⟨#[97, 110, 110]⟩ := rfl
  have hfin := Lib.hid (hb4.out.alloc hb4.out.size (.cells #[.string ⟨#[97, 110, 110]⟩, .int .i64 5, .int .i64 2, .bool false] 24))
  go_wp2
  go_ret
  exact ⟨rfl, hfin.out⟩
end Go.Proofs.YtjckllgbllmjjaaGreatDoor
