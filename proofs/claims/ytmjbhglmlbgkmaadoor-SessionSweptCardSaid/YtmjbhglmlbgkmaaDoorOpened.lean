/- opened, walked: a session ends. -/
import Derived.Test.YtmjbhglmlbgkmaaDoorSesS
import Derived.Test.YtmjbhglmlbgkmaaDoorSesK
import Derived.Test.YtmjbhglmlbgkmaaDoorNumsW
namespace Go.Proofs.YtmjbhglmlbgkmaaDoor
open Go.RowKit Go.MapKept

def annW : List UInt8 := [97, 110, 110]
def doorW : List UInt8 := [100, 111, 111, 114]
def tickA : Tick := ⟨annW, doorW, 1, 0, 9, 1⟩
theorem open_A : openS 1 [] tickA 3 = ((1, 0), (2, [⟨1, tickA⟩])) := by kernel_rfl
theorem sweep_A : sweepS [⟨annW, 2⟩] 3 [⟨1, tickA⟩] = ([1], (0, -1), []) := by kernel_rfl
theorem good_A : GoodS 2 [⟨1, tickA⟩] := by
  have := (open_good good_new tickA 3).1
  rwa [open_A] at this
theorem good_B : GoodS 2 [] := by
  have := goodS_filter good_A (fun _ => false)
  simpa using this
set_option maxHeartbeats 4000000 in
set_option maxRecDepth 100000 in
theorem opened_any {E : Nat → Addr} (w : World) (hL : Laid E w) :
    Calls Tryd.prog 6 #[] w fun e w' => e = .returned (.bool true) ∧ Below w.heap.size w w' := by
  have hLH := Lib.hid hL
  clear hL
  go_enter Tryd.func6, Tryd.ntmps6
  go_wp2_with fail
  refine (new_desk _).mono ?_
  rintro e w1 ⟨b, r, rfl, hb1, hbb, hrr, hD1⟩
  have hop : Calls Tryd.prog 10 #[.pointer (some ⟨b, 0, none⟩), .agg #[.string ⟨#[97, 110, 110]⟩, .string ⟨#[100, 111, 111, 114]⟩, .int .i64 1, .int .i64 0, .int .i64 9, .int .i64 1], .int .i64 3] w1 _ := open_desk (E := E) b r 1 [] tickA 3 w1 (hLH.out.below hb1) hD1 good_new ⟨by decide, by decide⟩ (by decide)
  rw [open_A] at hop
  have hop := Lib.hid hop
  have hb1H := Lib.hid hb1
  clear hD1 hb1
  go_wp2_with fail
  refine hop.out.mono ?_
  rintro e w2 ⟨rfl, hk2, hD2⟩
  have hb2 := hb1H.out.trans (hk2.below hb1H.out.size (fun k h => by rcases h with rfl | rfl <;> assumption))
  have hA2 := (Below.refl w2.heap.size w2).alloc (Nat.le_refl _) (.cells #[.string ⟨#[97, 110, 110]⟩, .int .i64 2] 86)
  have hrow2 := heap_alloc_new w2 (.cells #[.string ⟨#[97, 110, 110]⟩, .int .i64 2] 86)
  have hF : FloorsAt (w2.alloc (.cells #[.string ⟨#[97, 110, 110]⟩, .int .i64 2] 86)) (.slice (some ⟨w2.heap.size, 0, none⟩) 1 1) [⟨annW, 2⟩] := by
    refine ⟨_, _, rfl, by unfold maxLen; simp, Nat.le_refl 1, fun i hi => ⟨w2.heap.size, 0, rfl, ?_⟩⟩
    have h0 : i = 0 := by simpa using hi
    subst h0
    exact ⟨by rw [cell_of_row _ _ _ _ _ _ hrow2]; rfl, by rw [cell_of_row _ _ _ _ _ _ hrow2]; rfl⟩
  have hsw := sweep_desk (E := E) b r 2 [⟨1, tickA⟩] _ [⟨annW, 2⟩] 3 _ (hLH.out.below (below_trans hb2 hA2)) (hD2.below hA2) good_A hF (by decide)
  rw [sweep_A] at hsw
  have hsw := Lib.hid hsw
  have hb3 := Lib.hid (below_trans hb2 hA2)
  have hsz3 := Lib.hid (show w.heap.size ≤ (w2.alloc (.cells #[.string ⟨#[97, 110, 110]⟩, .int .i64 2] 86)).heap.size from (below_trans hb2 hA2).size)
  clear hop hk2 hD2 hb2 hA2 hrow2 hF
  simp only [errV]
  go_wp2_with fail
  refine hsw.out.mono ?_
  rintro e w4 ⟨⟨v, ev, rfl, hrow, hev⟩, hk4, hD4⟩
  obtain ⟨hev0, _⟩ := hev.zero rfl
  subst hev0
  obtain ⟨a, c, hv⟩ := hrow.sl
  subst hv
  have hb4 := hb3.out.trans (hk4.below hsz3.out (fun k h => by rw [h]; exact hrr))
  have hA4 := (Below.refl w4.heap.size w4).alloc (Nat.le_refl _) (.cells #[.int .i64 1] 3)
  have hn1 : NumsAt (w4.alloc (.cells #[.int .i64 1] 3)) (.slice a ([1] : List Int).length c) [1] := (hrow.below hA4).nums (by unfold maxLen; simp)
  have hn2 : NumsAt (w4.alloc (.cells #[.int .i64 1] 3)) (.slice (some ⟨w4.heap.size, 0, none⟩) 1 1) [1] := by
    refine ⟨_, _, rfl, by unfold maxLen; simp, fun i hi => ⟨w4.heap.size, 0, rfl, ?_⟩⟩
    have h0 : i = 0 := by simpa using hi
    subst h0
    simp
  have hsm := Lib.hid (sameInts_any _ _ _ _ _ hn1 hn2)
  have hD5 := Lib.hid (hD4.below hA4)
  have hb5 := Lib.hid (below_trans hb4 hA4)
  clear hsw hrow hev hk4 hD4 hb4 hA4 hn1 hn2
  go_wp2_with fail
  refine hsm.out.mono ?_
  rintro e w6 ⟨rfl, hb6⟩
  have hal := Lib.hid (all_desk b r 2 [] w6 (hD5.out.below hb6) good_B (by decide))
  have hb6 := Lib.hid (below_trans hb5.out hb6)
  clear hsm
  go_wp2_with fail
  refine hal.out.mono ?_
  rintro e w7 ⟨v, rfl, hrow7, hb7⟩
  obtain ⟨a7, c7, hv⟩ := hrow7.sl
  subst hv
  have hb7 := Lib.hid (below_trans hb6.out hb7)
  clear hrow7
  go_wp2_with fail
  go_ret
  exact ⟨rfl, hb7.out⟩
end Go.Proofs.YtmjbhglmlbgkmaaDoor
