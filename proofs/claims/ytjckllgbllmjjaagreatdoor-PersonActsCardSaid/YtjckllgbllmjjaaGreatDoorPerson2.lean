/- New, Get, Add, Rekey, Raise, Off of a book, walked. -/
import Derived.Test.YtjckllgbllmjjaaGreatDoorPerson
namespace Go.Proofs.YtjckllgbllmjjaaGreatDoor
open Go.RowKit

theorem new_book (w : World) :
    Calls Tryz.prog 9 #[] w fun e w' => ∃ b r, e = .returned (.pointer (some ⟨b, 0, none⟩)) ∧ Below w.heap.size w w' ∧ w.heap.size ≤ b ∧ w.heap.size ≤ r ∧ BookAt w' b r [] := by
  have hmm := @run_makeMap Tryz.prog
  have hfin : BookAt ((w.alloc (.map #[] 0)).alloc (.cells #[.map (some w.heap.size)] 59)) (w.heap.size + 1) w.heap.size [] := by
    refine ⟨?_, ⟨[], ?_, List.Perm.refl _⟩, List.Pairwise.nil⟩
    · have := heap_alloc_new (w.alloc (.map #[] 0)) (.cells #[.map (some w.heap.size)] 59)
      rwa [World.size_alloc] at this
    · exact (MapV.new w).below ((Below.refl _ _).alloc (Nat.le_refl _) _)
  have hfin := Lib.hid hfin
  go_enter Tryz.func9, Tryz.ntmps9
  go_wp2
  go_ret
  exact ⟨_, _, rfl, ((Below.refl _ _).alloc (Nat.le_refl _) _).alloc (by simp) _, by omega, Nat.le_refl _, hfin.out⟩

set_option maxRecDepth 100000 in
theorem get_some {E : Nat → Addr} (b r : Nat) (L : List Per) (n : List UInt8) (p : Per) (w : World) (hB : BookAt w b r L) (hf : findP L n = some p) :
    Calls Tryz.prog 18 #[.pointer (some ⟨b, 0, none⟩), .string (bs n)] w fun e w' => e = .returned (.tuple #[.agg #[.string (bs p.name), .int .i64 p.key, .int .i64 p.epoch, .bool p.off], errV E 0]) ∧ Below w.heap.size w w' := by
  have hc := hB.at0
  have hA := fun o : Obj => ((Below.refl w.heap.size w).alloc (Nat.le_refl _) o)
  have hl := fun o : Obj => ((hB.below (hA o)).lookup_some hf).1
  have hcA := fun o : Obj => cell_below (hA o) hc
  simp only [Per.val] at hl
  clear hA
  go_enter Tryz.func18, Tryz.ntmps18
  go_wp2
  exact bodyPost_ret (v := .tuple #[.agg #[.string (bs p.name), .int .i64 p.key, .int .i64 p.epoch, .bool p.off], .nilIface]) (by simp [results, Tryz.results18, go_sem]) rfl ⟨rfl, ((Below.refl _ _).alloc (Nat.le_refl _) _).alloc (by simp) _⟩
set_option maxRecDepth 100000 in
theorem get_none {E : Nat → Addr} (b r : Nat) (L : List Per) (n : List UInt8) (w : World) (hB : BookAt w b r L) (hf : findP L n = none) (hE : w.cell? ⟨5, 0, none⟩ = some (errV E 5)) :
    Calls Tryz.prog 18 #[.pointer (some ⟨b, 0, none⟩), .string (bs n)] w fun e w' => e = .returned (.tuple #[.agg #[.string ⟨#[]⟩, .int .i64 0, .int .i64 0, .bool false], errV E 5]) ∧ Below w.heap.size w w' := by
  have hc := hB.at0
  have hA := fun o : Obj => ((Below.refl w.heap.size w).alloc (Nat.le_refl _) o)
  have hl := fun o : Obj => ((hB.below (hA o)).lookup_none hf)
  have hcA := fun o : Obj => cell_below (hA o) hc
  have hE2 := fun o o2 : Obj => cell_below (((Below.refl w.heap.size w).alloc (Nat.le_refl _) o).alloc (by simp) o2) hE
  simp only [errV] at hE2
  clear hA
  go_enter Tryz.func18, Tryz.ntmps18
  go_wp2
  go_region
  all_goals
    go_wp2
    exact bodyPost_ret (v := .tuple #[.agg #[.string ⟨#[]⟩, .int .i64 0, .int .i64 0, .bool false], errV E 5]) (by simp [results, Tryz.results18, go_sem, errV]) rfl ⟨rfl, (((Below.refl _ _).alloc (Nat.le_refl _) _).alloc (by simp) _).drew⟩
theorem get_any {E : Nat → Addr} (b r : Nat) (L : List Per) (n : List UInt8) (w : World) (hL : Laid E w) (hB : BookAt w b r L) :
    Calls Tryz.prog 18 #[.pointer (some ⟨b, 0, none⟩), .string (bs n)] w fun e w' => ((∃ p, findP L n = some p ∧ e = .returned (.tuple #[.agg #[.string (bs p.name), .int .i64 p.key, .int .i64 p.epoch, .bool p.off], .nilIface])) ∨ (findP L n = none ∧ e = .returned (.tuple #[.agg #[.string ⟨#[]⟩, .int .i64 0, .int .i64 0, .bool false], errV E 5]))) ∧ Below w.heap.size w w' := by
  cases hf : findP L n with
  | some p => exact (get_some (E := E) b r L n p w hB hf).mono fun e w' ⟨he, hb⟩ => ⟨.inl ⟨p, rfl, he⟩, hb⟩
  | none => exact (get_none b r L n w hB hf hL.e5).mono fun e w' ⟨he, hb⟩ => ⟨.inr ⟨rfl, he⟩, hb⟩
end Go.Proofs.YtjckllgbllmjjaaGreatDoor
