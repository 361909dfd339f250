/- saw, walked: a word passes once. -/
import Derived.Test.YtmjbhglmlbgkmaaDoorSeenA
import Derived.Test.YtmjbhglmlbgkmaaDoorLaid
namespace Go.Proofs.YtmjbhglmlbgkmaaDoor
open Go.RowKit Go.MapKept

def wordA : List UInt8 := [97]
theorem saw1 : askS 5 [] wordA 3 4 = (0, [⟨wordA, 3⟩]) := by
  kernel_rfl
theorem saw2 : askS 5 [⟨wordA, 3⟩] wordA 3 4 = (6, [⟨wordA, 3⟩]) := by
  kernel_rfl
theorem good_nil : GoodW [] := ⟨List.Pairwise.nil, by simp, by simp, by simp⟩
set_option maxHeartbeats 4000000 in
set_option maxRecDepth 100000 in
theorem saw_any {E : Nat → Addr} (w : World) (hL : LaidR E w) :
    Calls Tryd.prog 33 #[] w fun e w' => e = .returned (.bool true) ∧ Below w.heap.size w w' := by
  have hLH := Lib.hid hL
  have hg1 : GoodW [⟨wordA, 3⟩] := by
    have := (ask_good good_nil 5 wordA 3 4).1
    rwa [saw1] at this
  have hgH := Lib.hid hg1
  clear hL hg1
  go_enter Tryd.func33, Tryd.ntmps33
  go_wp2_with fail
  refine (new_seen 5 _ (by decide)).mono ?_
  rintro e w1 ⟨b, r, rfl, hb1, hb, hr, hS1⟩
  have hk : ∀ wx, Below w.heap.size w wx → ∀ w', Keeps (· = r) wx w' → Below w.heap.size w w' := fun wx hx w' h => hx.trans (h.below hx.size (fun k e => by rw [e]; exact hr))
  have hkH := Lib.hid hk
  have hb1H := Lib.hid hb1
  have hS1H := Lib.hid hS1
  clear hk hb1 hS1
  go_wp2_with fail
  refine (ask_seen (E := E) b r 5 [] wordA 3 4 _ (fun w' h => (hLH.out.below (hkH.out _ hb1H.out _ h)).laid) hS1H.out good_nil (by decide) (by decide)).mono ?_
  rintro e w2 ⟨rfl, hk2, hS2⟩
  rw [saw1] at hS2
  rw [saw1, show ((0 : Nat), [(⟨wordA, 3⟩ : Wd)]).1 = 0 from rfl, errV_zero]
  have hb2 := Lib.hid (hkH.out _ hb1H.out _ hk2)
  have hS2 := Lib.hid hS2
  clear hk2
  go_wp2_with fail
  refine (ask_seen (E := E) b r 5 _ wordA 3 4 _ (fun w' h => (hLH.out.below (hkH.out _ hb2.out _ h)).laid) hS2.out hgH.out (by decide) (by decide)).mono ?_
  rintro e w3 ⟨rfl, hk3, hS3⟩
  rw [saw2] at hS3
  rw [saw2, show ((6 : Nat), [(⟨wordA, 3⟩ : Wd)]).1 = 6 from rfl]
  have hb3 := Lib.hid (hkH.out _ hb2.out _ hk3)
  have hS3 := Lib.hid hS3
  clear hk3
  go_wp2_with fail
  refine (coded_any 6 6 _ (hLH.out.below hb3.out) (by omega)).mono ?_
  rintro e w4 ⟨rfl, hb4⟩
  have hS4 := Lib.hid (hS3.out.below hb4)
  have hb4 := Lib.hid (below_trans hb3.out hb4)
  have hcd : codedB 6 6 = true := by decide
  go_wp2_with fail
  refine (many_seen b r 5 _ _ hS4.out).mono ?_
  rintro e w5 ⟨rfl, hb5⟩
  have hb5 := Lib.hid (below_trans hb4.out hb5)
  go_wp2_with fail
  go_ret
  exact ⟨rfl, hb5.out⟩
end Go.Proofs.YtmjbhglmlbgkmaaDoor
