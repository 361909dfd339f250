/- A book copied, walked: maps.Clone by the library's contract. -/
import Derived.Test.YtjckllgbllmjjaaGreatDoorPerson2
import Derived.Test.YtjckllgbllmjjaaGreatDoorShelf2
namespace Go.Proofs.YtjckllgbllmjjaaGreatDoor
open Go.RowKit Go.Shelf

theorem clone_book (r : Nat) (es : Array MapEntry) (clock : Nat) (w : World) (hb : w.heap[r]? = some (.map es clock)) :
    Calls Tryz.prog 28 #[.map (some r)] w fun e w' => e = .returned (.map (some w.heap.size)) ∧ w' = w.alloc (.map es clock) :=
  AnyW.maps_Clone Tryz.clone28 r es clock w hb
theorem copy_any (b r : Nat) (L : List Per) (w : World) (hB : BookAt w b r L) :
    Calls Tryz.prog 20 #[.pointer (some ⟨b, 0, none⟩)] w fun e w' => ∃ b2 r2, e = .returned (.pointer (some ⟨b2, 0, none⟩)) ∧ BookAt w' b2 r2 L ∧ Below w.heap.size w w' := by
  have hc := hB.at0
  obtain ⟨l, ⟨es, clock, hb, hs, hk, hl⟩, hp⟩ := hB.map
  have hcl := Lib.hid (clone_book r es clock w hb)
  have hfin : BookAt ((w.alloc (.map es clock)).alloc (.cells #[.map (some w.heap.size)] 59)) (w.heap.size + 1) w.heap.size L := by
    refine ⟨?_, ⟨l, ?_, hp⟩, hB.sorted⟩
    · have := heap_alloc_new (w.alloc (.map es clock)) (.cells #[.map (some w.heap.size)] 59)
      rwa [World.size_alloc] at this
    · exact MapV.below (w := w.alloc (.map es clock)) ⟨es, clock, heap_alloc_new w _, hs, hk, hl⟩ ((Below.refl _ _).alloc (Nat.le_refl _) _)
  have hfin := Lib.hid hfin
  clear hb hs hk hl hp
  go_enter Tryz.func20, Tryz.ntmps20
  go_wp2_with fail
  refine hcl.out.mono ?_
  rintro e w1 ⟨rfl, rfl⟩
  go_wp2_with fail
  go_ret
  exact ⟨_, _, rfl, hfin.out, ((Below.refl _ _).alloc (Nat.le_refl _) _).alloc (by simp) _⟩
end Go.Proofs.YtjckllgbllmjjaaGreatDoor
