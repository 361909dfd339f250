/- slices.IndexFunc and ContainsFunc at texts, where a text that is no word is looked for. -/
import Derived.Test.YtgainbpflncgcaaGreatDoorNumber
import Derived.Test.YtgainbpflncgcaaGreatDoorSealQ
namespace Go.Proofs.YtgainbpflncgcaaGreatDoor
open Go.RowKit

/-- What a function that asks for a text that is no word does. -/
def IsBad (g : Nat) (B : Nat) (w : World) : Prop := ∀ (W : World) (s : List UInt8), s.length ≤ maxLen → Below B w W → Calls Tryz.prog g #[.string (bs s)] W fun e w' => e = .returned (.bool (badP s)) ∧ Below W.heap.size W w'
set_option maxRecDepth 100000 in
theorem make1_bad (w : World) : IsBad 64 w.heap.size w := by
  intro W s hs _
  have hw := Lib.hid (word_any (bs s) W (by rw [bs_size]; exact hs))
  unfold badP
  cases hc : isWord s with
  | true =>
    have hc2 := Lib.hid (show isWord (bs s).data.toList = true from hc)
    clear hc
    go_enter Tryz.func64, Tryz.ntmps64
    go_wp2_with fail
    refine hw.out.mono ?_
    rintro e w1 ⟨rfl, hb⟩
    rw [hc2.out]
    go_wp2_with fail
    go_ret
    exact ⟨rfl, hb⟩
  | false =>
    have hc2 := Lib.hid (show isWord (bs s).data.toList = false from hc)
    clear hc
    go_enter Tryz.func64, Tryz.ntmps64
    go_wp2_with fail
    refine hw.out.mono ?_
    rintro e w1 ⟨rfl, hb⟩
    rw [hc2.out]
    go_wp2_with fail
    go_ret
    exact ⟨rfl, hb⟩
set_option maxRecDepth 100000 in
theorem look1_bad (w : World) : IsBad 91 w.heap.size w := by
  intro W s hs _
  have hw := Lib.hid (word_any (bs s) W (by rw [bs_size]; exact hs))
  unfold badP
  cases hc : isWord s with
  | true =>
    have hc2 := Lib.hid (show isWord (bs s).data.toList = true from hc)
    clear hc
    go_enter Tryz.func91, Tryz.ntmps91
    go_wp2_with fail
    refine hw.out.mono ?_
    rintro e w1 ⟨rfl, hb⟩
    rw [hc2.out]
    go_wp2_with fail
    go_ret
    exact ⟨rfl, hb⟩
  | false =>
    have hc2 := Lib.hid (show isWord (bs s).data.toList = false from hc)
    clear hc
    go_enter Tryz.func91, Tryz.ntmps91
    go_wp2_with fail
    refine hw.out.mono ?_
    rintro e w1 ⟨rfl, hb⟩
    rw [hc2.out]
    go_wp2_with fail
    go_ret
    exact ⟨rfl, hb⟩

set_option maxHeartbeats 1000000 in
set_option maxRecDepth 100000 in
theorem index_any (v : Value) (W : List (List UInt8)) (g : Nat) (w : World) (hv : TextsAt w v W) (hm : ∀ x ∈ W, x.length ≤ maxLen) (hg : IsBad g w.heap.size w) (eg : ∀ args w, (callFunc g args).run Tryz.prog w = .ok (.enter g args) w) :
    Calls Tryz.prog 63 #[v, .func (.func g) #[] #[]] w fun e w' => e = .returned (.int .i64 (badIdx W)) ∧ Below w.heap.size w w' := by
  obtain ⟨a, c, rfl, hlen, _, hc⟩ := hv
  unfold maxLen at hlen
  have hc := Lib.hid hc
  have hm := Lib.hid hm
  have hg := Lib.hid hg
  go_enter Tryz.func63, Tryz.ntmps63
  go_wp2_with fail
  go_loopg [8] (W.length + 1) (fun g8 i wr => ∃ j : Nat, i = .int .i64 j ∧ j ≤ W.length ∧ W.length - j + 1 ≤ g8 ∧ Hid (∀ i (h : i < W.length), i < j → isWord W[i] = true) ∧ Hid (Below w.heap.size w wr))
  case atStart => exact ⟨0, rfl, Nat.zero_le _, by omega, Lib.hid (fun _ _ h => absurd h (Nat.not_lt_zero _)), Lib.hid (Below.refl _ _)⟩
  case round =>
    obtain ⟨j, rfl, hj, hgj, hall, hK⟩ := hrel
    by_cases hlt : j < W.length
    · obtain ⟨b, o, rfl, hcell⟩ := hc.out j hlt
      have hcell := cell_below hK.out hcell
      have hk0 : (0 : Int) ≤ (j : Int) := by omega
      have hk1 : (j : Int) < (W.length : Int) := by omega
      have hgc := Lib.hid (hg.out wr W[j] (hm.out _ (List.getElem_mem hlt)) hK.out)
      cases hb : badP W[j] with
      | true =>
        rw [hb] at hgc
        have hr := Lib.hid (show badIdx W = (j : Int) from badIdx_of hlt (by unfold badP at hb; simpa using hb) hall.out)
        clear hb
        go_wp2_with fail
        refine hgc.out.mono ?_
        rintro e w1 ⟨rfl, hb1⟩
        have hb1 := Lib.hid (hK.out.trans (hb1.mono hK.out.size))
        go_wp2_with fail
        go_ret
        exact ⟨ret_int hr.out.symm, hb1.out⟩
      | false =>
        rw [hb] at hgc
        have hall2 := Lib.hid (show ∀ i (h : i < W.length), i < j + 1 → isWord W[i] = true from fun i h hi => by
          rcases Nat.lt_succ_iff_lt_or_eq.1 hi with h' | rfl
          · exact hall.out i h h'
          · unfold badP at hb; simpa using hb)
        clear hb
        go_wp2_with fail
        refine hgc.out.mono ?_
        rintro e w1 ⟨rfl, hb1⟩
        have hb1 := Lib.hid (hK.out.trans (hb1.mono hK.out.size))
        go_wp2_with fail
        go_roundg (W.length - j)
        case measure => omega
        case rel => exact ⟨j + 1, by simp, hlt, by omega, hall2, hb1⟩
    · have hr := Lib.hid (show badIdx W = -1 from badIdx_none fun i hi => hall.out i hi (by omega))
      have hge : ¬ ((j : Int) < (W.length : Int)) := by omega
      go_wp2_with fail
      go_ret
      exact ⟨ret_int hr.out.symm, hK.out⟩
set_option maxRecDepth 100000 in
theorem contains_any (v : Value) (W : List (List UInt8)) (g : Nat) (w : World) (hv : TextsAt w v W) (hm : ∀ x ∈ W, x.length ≤ maxLen) (hg : IsBad g w.heap.size w) (eg : ∀ args w, (callFunc g args).run Tryz.prog w = .ok (.enter g args) w) :
    Calls Tryz.prog 90 #[v, .func (.func g) #[] #[]] w fun e w' => e = .returned (.bool (decide (0 ≤ badIdx W))) ∧ Below w.heap.size w w' := by
  have hi := Lib.hid (index_any v W g w hv hm hg eg)
  rcases badIdx_cases W with ⟨h, _⟩ | ⟨j, _, h, _⟩
  · have hr := Lib.hid (show decide (0 ≤ badIdx W) = false by rw [h]; rfl)
    have h := Lib.hid h
    rw [h.out] at hi
    go_enter Tryz.func90, Tryz.ntmps90
    go_wp2_with fail
    refine hi.out.mono ?_
    rintro e w1 ⟨rfl, hb⟩
    go_wp2_with fail
    go_ret
    exact ⟨ret_bool hr.out.symm, hb⟩
  · have hr := Lib.hid (show decide (0 ≤ badIdx W) = true by rw [h]; exact decide_eq_true (by omega))
    rw [h] at hi
    clear h
    have h0 : (0 : Int) ≤ (j : Int) := by omega
    go_enter Tryz.func90, Tryz.ntmps90
    go_wp2_with fail
    refine hi.out.mono ?_
    rintro e w1 ⟨rfl, hb⟩
    go_wp2_with fail
    go_ret
    exact ⟨ret_bool hr.out.symm, hb⟩
end Go.Proofs.YtgainbpflncgcaaGreatDoor
