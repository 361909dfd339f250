/- longDeals, walked. -/
import Derived.Test.YtmjbhglmlbgkmaaDoorDealArg
import Derived.Deep.LoopGhost
namespace Go.Proofs.YtmjbhglmlbgkmaaDoor
open Go.RowKit

def LongRes (n : Nat) (e : Ending) : Prop := ∃ bb : Bool, e = .returned (.bool bb) ∧ (bb = false → n ≤ 80)
theorem longT_or (t : Tick) : longT t = 1 ∨ longT t = 0 := by unfold longT; split <;> simp
theorem longI_or (L : List Flo) : longI L = 1 ∨ longI L = 0 := by unfold longI; split <;> simp
set_option maxHeartbeats 4000000 in
set_option maxRecDepth 100000 in
theorem longDeals_any (x : Value) (A : List Deal) (w : World) (hx : DealsAt w x A) (hm : ∀ d ∈ A, DealLen d) :
    Calls Tryd.prog 7 #[x] w fun e w' => LongRes A.length e ∧ Below w.heap.size w w' := by
  have hxH := Lib.hid hx
  have hmH := Lib.hid hm
  obtain ⟨a, c, rfl, hml, _, _⟩ := id hx
  unfold maxLen at hml
  clear hx hm
  by_cases h80 : 80 < A.length
  · have h8 : (80 : Int) < (A.length : Int) := by omega
    go_enter Tryd.func7, Tryd.ntmps7
    go_wp2_with fail
    go_ret
    exact ⟨⟨true, rfl, fun h => by cases h⟩, Below.refl _ _⟩
  have h8 : ¬ (80 : Int) < (A.length : Int) := by omega
  go_enter Tryd.func7, Tryd.ntmps7
  go_wp2_with fail
  go_loopg [3] (A.length + 1) (fun g i wr => ∃ j : Nat, i = .int .i64 j ∧ j ≤ A.length ∧ A.length - j + 1 ≤ g ∧ Hid (Below w.heap.size w wr))
  case atStart => exact ⟨0, rfl, Nat.zero_le _, by omega, Lib.hid (Below.refl _ _)⟩
  case round =>
    obtain ⟨j, rfl, hj, hg, hK⟩ := hrel
    by_cases hlt : j < A.length
    · obtain ⟨_, _, he, _, _, hcx⟩ := hxH.out.below hK.out
      cases he
      obtain ⟨bx, ox, rfl, hd⟩ := hcx j hlt
      have hlen := hmH.out _ (List.getElem_mem hlt)
      obtain ⟨q, hqd⟩ : ∃ q, A[j] = q := ⟨_, rfl⟩
      rw [hqd] at hd hlen
      clear hcx hqd
      have hdH := Lib.hid hd
      obtain ⟨hlk, hlT, hlf⟩ := hlen
      have hsk := bs_size q.k
      unfold maxLen at hlk
      have hk0 : (0 : Int) ≤ (j : Int) := by omega
      have hk1 : (j : Int) < (A.length : Int) := by omega
      have c0 := hd.k
      have c1 := hd.t0
      have c2 := hd.t1
      have c3 := hd.t2
      have c4 := hd.t3
      have c5 := hd.t4
      have c6 := hd.t5
      have hlt1 := longTicket_any q.t wr hlT
      dsimp only [Tick.val] at hlt1
      have hor := longT_or q.t
      generalize longT q.t = lt at *
      have hlt1 := Lib.hid hlt1
      by_cases hk : 20 < q.k.length
      · have hki : (20 : Int) < (q.k.length : Int) := by omega
        go_wp2_with fail
        go_ret
        exact ⟨⟨true, rfl, fun h => by cases h⟩, hK.out⟩
      have hki : ¬ (20 : Int) < (q.k.length : Int) := by omega
      rcases hor with rfl | rfl
      · go_wp2_with fail
        refine hlt1.out.mono ?_
        rintro e w1 ⟨rfl, hb1⟩
        have hb1 := Lib.hid (below_trans hK.out hb1)
        clear c0 c1 c2 c3 c4 c5 c6 hd
        go_wp2_with fail
        go_ret
        exact ⟨⟨true, rfl, fun h => by cases h⟩, hb1.out⟩
      go_wp2_with fail
      refine hlt1.out.mono ?_
      rintro e w1 ⟨rfl, hb1⟩
      obtain ⟨u, cf, hF⟩ := (hdH.out.below hb1).f
      have hlf1 := longf_flo u q.f w1 hF hlf
      have hor := longI_or q.f
      generalize longI q.f = li at *
      have hlf1 := Lib.hid hlf1
      have hb1 := Lib.hid (below_trans hK.out hb1)
      clear c0 c1 c2 c3 c4 c5 c6 hd hF
      rcases hor with rfl | rfl
      · go_wp2_with fail
        refine hlf1.out.mono ?_
        rintro e w2 ⟨rfl, hb2⟩
        have hb2 := Lib.hid (below_trans hb1.out hb2)
        go_wp2_with fail
        go_ret
        exact ⟨⟨true, rfl, fun h => by cases h⟩, hb2.out⟩
      · go_wp2_with fail
        refine hlf1.out.mono ?_
        rintro e w2 ⟨rfl, hb2⟩
        have hb2 := Lib.hid (below_trans hb1.out hb2)
        go_wp2_with fail
        go_roundg (A.length - j)
        case measure => omega
        case rel => exact ⟨j + 1, by simp, hlt, by omega, hb2⟩
    · have hge : ¬ ((j : Int) < (A.length : Int)) := by omega
      go_wp2_with fail
      go_ret
      exact ⟨⟨false, rfl, fun _ => by omega⟩, hK.out⟩
end Go.Proofs.YtmjbhglmlbgkmaaDoor
