/- RefF2, RaiP -/
import Derived.Test.YtcnadjdijolboaaGreatDoorMg14
import Derived.Test.YtcnadjdijolboaaGreatDoorMg7
import Derived.Test.YtcnadjdijolboaaGreatDoorMg2
/- The reference's floors: FloorsFault by a contract. -/
namespace Go.Proofs.YtcnadjdijolboaaGreatDoor
open Go.RowKit

def faultF (c : Nat) (a : Int) : Value := .agg #[.int .i64 (c : Int), .int .i64 a]
set_option maxRecDepth 100000 in
theorem bareF_any (c : Int) (w : World) :
    Calls Tryz.prog 45 #[.int .i64 c] w fun e w' => e = .returned (.agg #[.int .i64 c, .int .i64 (-1)]) ∧ Below w.heap.size w w' := by
  go_enter Tryz.func45, Tryz.ntmps45
  go_wp2_with fail
  exact bodyPost_ret (v := .agg #[.int .i64 c, .int .i64 (-1)]) (by simp [results, Tryz.results45, go_sem]) rfl ⟨rfl, (Below.refl _ _).alloc (Nat.le_refl _) _⟩
set_option maxRecDepth 100000 in
theorem fineF_any (w : World) :
    Calls Tryz.prog 48 #[] w fun e w' => e = .returned (.agg #[.int .i64 0, .int .i64 (-1)]) ∧ Below w.heap.size w w' := by
  go_enter Tryz.func48, Tryz.ntmps48
  go_wp2_with fail
  exact bodyPost_ret (v := .agg #[.int .i64 0, .int .i64 (-1)]) (by simp [results, Tryz.results48, go_sem]) rfl ⟨rfl, (Below.refl _ _).alloc (Nat.le_refl _) _⟩
/-- The cell of a result that is a fault. -/
def FBox (w0 w : World) : Prop := w.heap[w0.heap.size]? = some (.cells #[.int .i64 0, .int .i64 0] 42 (0, 0)) ∧ Below w0.heap.size w0 w
theorem FBox.below {w0 w w' : World} (h : FBox w0 w) (hb : Below w.heap.size w w') : FBox w0 w' := ⟨heap_down hb h.1, below_trans h.2 hb⟩
theorem FBox.cells {w0 w : World} (h : FBox w0 w) : (w.cell? ⟨w0.heap.size, 0, none⟩ = some (.int .i64 0) ∧ w.cell? ⟨w0.heap.size, 1, none⟩ = some (.int .i64 0)) ∧ (w.frozen? ⟨w0.heap.size, 0, none⟩ = false ∧ w.frozen? ⟨w0.heap.size, 1, none⟩ = false) := two_kept (Below.refl _ _) h.1
theorem FBox.set {w0 w : World} (h : FBox w0 w) (v0 v1 : Value) : let x := (w.setCell ⟨w0.heap.size, 0, none⟩ v0).setCell ⟨w0.heap.size, 1, none⟩ v1
    (x.cell? ⟨w0.heap.size, 0, none⟩ = some v0 ∧ x.cell? ⟨w0.heap.size, 1, none⟩ = some v1) ∧ Below w0.heap.size w0 x :=
  ⟨(two_kept (Below.refl _ _) (row_set2 h.1 v0 v1)).1, below_set2 h.2 (Nat.le_refl _) _ _⟩
set_option maxHeartbeats 4000000 in
set_option maxRecDepth 100000 in
theorem faultsR_flo (v : Value) (L : List Flo) (w : World) (hv : FloorsAt w v L) (hm : ∀ f ∈ L, f.who.length ≤ maxLen) :
    Calls Tryz.prog 16 #[v] w fun e w' => e = .returned (faultF (checkF L).1 (checkF L).2) ∧ Below w.heap.size w w' := by
  have hv0 := Lib.hid hv
  have hB0 : FBox w (w.alloc (.cells #[.int .i64 0, .int .i64 0] 42)) := ⟨heap_alloc_new w _, (Below.refl _ _).alloc (Nat.le_refl _) _⟩
  obtain ⟨a, c, rfl, hlen, _, hc⟩ := hv
  unfold maxLen at hlen
  by_cases h21 : 21 < L.length
  · have hr := Lib.hid (checkF_full h21)
    have h21' : (21 : Int) < (L.length : Int) := by omega
    have hba := Lib.hid (bareF_any 7 (w.alloc (.cells #[.int .i64 0, .int .i64 0] 42)))
    have hB0 := Lib.hid hB0
    clear hc
    go_enter Tryz.func16, Tryz.ntmps16
    go_wp2_with fail
    refine hba.out.mono ?_
    rintro e w1 ⟨rfl, hb1⟩
    have hB1 := hB0.out.below hb1
    obtain ⟨⟨r0, r1⟩, f0, f1⟩ := hB1.cells
    obtain ⟨⟨q0, q1⟩, hfin⟩ := hB1.set (.int .i64 7) (.int .i64 (-1))
    have hfin := Lib.hid hfin
    have hq := Lib.hid (And.intro q0 q1)
    clear q0 q1 hb1 hB1
    go_wp2_with fail
    obtain ⟨q0, q1⟩ := hq.out
    exact bodyPost_ret (v := .agg #[.int .i64 7, .int .i64 (-1)]) (by simp [results, Tryz.results16, go_sem, q0, q1]) rfl ⟨by rw [hr.out]; rfl, hfin.out⟩
  have h21' : ¬ (21 : Int) < (L.length : Int) := by omega
  have hc := Lib.hid hc
  have hm := Lib.hid hm
  have htop := Lib.hid (fun wx (hx : Below w.heap.size w wx) => topR_flo _ L wx (hv0.out.below hx))
  have hri := Lib.hid (fun (f : Flo) wx (hl : f.who.length ≤ maxLen) => oneR_flo f wx hl)
  have hB0 := Lib.hid hB0
  go_enter Tryz.func16, Tryz.ntmps16
  go_wp2_with fail
  go_loopg [3] (L.length + 1) (fun g i wr => ∃ j : Nat, i = .int .i64 j ∧ j ≤ L.length ∧ L.length - j + 1 ≤ g ∧ Hid (∀ i, i < j → errAtF L i = 0) ∧ Hid (FBox w wr))
  case atStart => exact ⟨0, rfl, Nat.zero_le _, by omega, Lib.hid (fun _ h => absurd h (Nat.not_lt_zero _)), hB0⟩
  case round =>
    obtain ⟨j, rfl, hj, hgj, hall, hK⟩ := hrel
    by_cases hlt : j < L.length
    · obtain ⟨b, o, rfl, hc0, hc1⟩ := hc.out j hlt
      have hc0 := cell_below hK.out.2 hc0
      have hc1 := cell_below hK.out.2 hc1
      have hk0 : (0 : Int) ≤ (j : Int) := by omega
      have hk1 : (j : Int) < (L.length : Int) := by omega
      have hri := Lib.hid (hri.out L[j] wr (hm.out _ (List.getElem_mem hlt)))
      have hat := Lib.hid (show errAtF L j = errF L j L[j] by unfold errAtF; rw [getD_get hlt])
      have hbad := Lib.hid (fun (hb : errAtF L j ≠ 0) => checkF_some (by omega) j hlt hb hall.out)
      have hnext := Lib.hid (show errAtF L j = 0 → ∀ i, i < j + 1 → errAtF L i = 0 from fun hb i hi => by
        rcases Nat.lt_succ_iff_lt_or_eq.1 hi with h' | rfl
        · exact hall.out i h'
        · exact hb)
      cases ho : oneF L[j] with
      | succ cd =>
        have hr := Lib.hid (show checkF L = (cd + 1, (j : Int)) by
          have h1 : errAtF L j = cd + 1 := by rw [hat.out, errF_one (by rw [ho]; exact Nat.succ_ne_zero _), ho]
          rw [hbad.out (by rw [h1]; exact Nat.succ_ne_zero _), h1])
        rw [ho] at hri
        have hz : (((cd + 1 : Nat) : Int) == 0) = false := by rw [beq_eq_false_iff_ne]; omega
        have hz1 : (0 : Int) < ((cd + 1 : Nat) : Int) := by omega
        have hz2 : ¬ ((cd + 1 : Nat) : Int) = 0 := by omega
        clear ho
        have hzH := Lib.hid (show (((cd + 1 : Nat) : Int)) = ((cd + 1 : Nat) : Int) from rfl)
        generalize hzd : ((cd + 1 : Nat) : Int) = z at hri hz hz1 hz2
        have hzd := Lib.hid hzd
        clear hzH
        go_wp2_with fail
        refine hri.out.mono ?_
        rintro e w1 ⟨rfl, hb1⟩
        have hB1 := hK.out.below hb1
        obtain ⟨⟨r0, r1⟩, f0, f1⟩ := hB1.cells
        have hBd := Lib.hid (fun n => (hB1.below (below_drawn (Below.refl _ _) n)).set (.int .i64 z) (.int .i64 (j : Int)))
        clear hb1 hB1 hc0 hc1
        go_wp2_with fail
        go_quiet (fail)
        go_wp2_with fail
        exact bodyPost_ret (v := .agg #[.int .i64 z, .int .i64 (j : Int)]) (by simp [results, Tryz.results16, go_sem, (hBd.out _).1]) rfl ⟨by rw [hr.out]; unfold faultF; rw [← hzd.out], (hBd.out _).2⟩
      | zero =>
        have ho2 := ho
        rw [ho, show ((0 : Nat) : Int) = 0 from rfl] at hri
        clear ho
        by_cases hord : 0 < j ∧ ¬ ((L.getD (j - 1) ⟨[], 0⟩).who < L[j].who)
        case pos =>
          have hr := Lib.hid (show checkF L = (8, (j : Int)) by
            have h1 : errAtF L j = 8 := by rw [hat.out, errF_order ho2 hord]
            rw [hbad.out (by rw [h1]; decide), h1])
          cases j with
          | zero => exact absurd hord.1 (Nat.lt_irrefl _)
          | succ q =>
            have hq : q < L.length := by omega
            obtain ⟨b', o', hbo, hp0, _⟩ := hc.out q hq
            cases hbo
            have hp0 := cell_below hK.out.2 hp0
            have hno : ¬ (L[q].who < L[q + 1].who) := by have := hord.2; rw [Nat.add_sub_cancel, getD_get hq] at this; exact this
            have hk3 : (q : Int) < (L.length : Int) := by omega
            have hk4 : (0 : Int) ≤ (q : Int) := by omega
            have hle : Op.bytesLess (bs L[q + 1].who).toList (bs L[q].who).toList = true ∨ (Op.bytesLess (bs L[q + 1].who).toList (bs L[q].who).toList = false ∧ ((bs L[q + 1].who).toList == (bs L[q].who).toList) = true) := by
              rw [bs_less, bs_same]
              by_cases he : L[q + 1].who = L[q].who
              · exact .inr ⟨decide_eq_false (by rw [he]; exact List.lt_irrefl _), decide_eq_true he⟩
              · exact .inl (decide_eq_true (lt_total hno (fun e => he e.symm)))
            clear hord ho2 hno
            rcases hle with hle | ⟨hle, hle2⟩
            all_goals
              go_wp2_with fail
              refine hri.out.mono ?_
              rintro e w1 ⟨rfl, hb1⟩
              have hc0 := cell_below hb1 hc0
              have hp0 := cell_below hb1 hp0
              have hB1 := hK.out.below hb1
              obtain ⟨⟨r0, r1⟩, f0, f1⟩ := hB1.cells
              have hBd := Lib.hid (fun n => (hB1.below (below_drawn (Below.refl _ _) n)).set (.int .i64 8) (.int .i64 ((q : Int) + 1)))
              clear hb1 hB1 hc1
              go_wp2_with fail
              go_quiet (fail)
              go_wp2_with fail
              go_quiet (fail)
              go_wp2_with fail
              exact bodyPost_ret (v := .agg #[.int .i64 8, .int .i64 ((q : Int) + 1)]) (by simp [results, Tryz.results16, go_sem, (hBd.out _).1]) rfl ⟨by rw [hr.out]; rfl, (hBd.out _).2⟩
        case neg =>
          have hlast := errF_last ho2 hord
          have hstep : ∃ q : Nat, j = 0 ∨ (j = q + 1 ∧ ∃ hq : q < L.length, L[q].who < L[j].who) := by
            cases j with
            | zero => exact ⟨0, .inl rfl⟩
            | succ q =>
              have hq : q < L.length := by omega
              refine ⟨q, .inr ⟨rfl, hq, ?_⟩⟩
              rcases Classical.em (L[q].who < L[q + 1].who) with h | h
              · exact h
              · exact absurd ⟨by omega, by rw [Nat.add_sub_cancel, getD_get hq]; exact h⟩ hord
          clear hord
          obtain ⟨q, hstep⟩ := hstep
          by_cases hs : L[j].who = starW
          · have h0 : errAtF L j = 0 := by rw [hat.out, hlast, if_neg (fun h => h.1 hs)]
            have hall2 := Lib.hid (hnext.out h0)
            have e1 : ((bs L[j].who).toList == [42]) = true := by rw [hs, toList_data]; rfl
            clear hlast hs h0 ho2
            rcases hstep with hz | ⟨hz, hq, hlt2⟩
            · subst hz
              simp only [Nat.zero_mul, Nat.add_zero] at hc0 hc1
              go_wp2_with fail
              refine hri.out.mono ?_
              rintro e w1 ⟨rfl, hb1⟩
              have hc0 := cell_below hb1 hc0
              have hc1 := cell_below hb1 hc1
              have hB1 := Lib.hid (hK.out.below hb1)
              clear hb1
              obtain ⟨⟨r0, r1⟩, f0, f1⟩ := hB1.out.cells
              go_wp2_with fail
              go_quiet (fail)
              go_wp2_with fail
              go_roundg (L.length - (0))
              case measure => omega
              case rel => exact ⟨0 + 1, by simp, hlt, by omega, hall2, Lib.hid (hB1.out.below (below_drawn (Below.refl _ _) _))⟩
            · subst hz
              obtain ⟨b', o', hbo, hp0, _⟩ := hc.out q hq
              cases hbo
              have hp0 := cell_below hK.out.2 hp0
              have hk3 : (q : Int) < (L.length : Int) := by omega
              have hk4 : (0 : Int) ≤ (q : Int) := by omega
              have hle : Op.bytesLess (bs L[q + 1].who).toList (bs L[q].who).toList = false := by rw [bs_less]; exact decide_eq_false (fun h => List.lt_irrefl _ (List.lt_trans h hlt2))
              have hle2 : ((bs L[q + 1].who).toList == (bs L[q].who).toList) = false := by rw [bs_same]; exact decide_eq_false (fun h => by rw [h] at hlt2; exact List.lt_irrefl _ hlt2)
              clear hlt2
              go_wp2_with fail
              refine hri.out.mono ?_
              rintro e w1 ⟨rfl, hb1⟩
              have hc0 := cell_below hb1 hc0
              have hc1 := cell_below hb1 hc1
              have hp0 := cell_below hb1 hp0
              have hB1 := Lib.hid (hK.out.below hb1)
              clear hb1
              obtain ⟨⟨r0, r1⟩, f0, f1⟩ := hB1.out.cells
              go_wp2_with fail
              go_quiet (fail)
              go_wp2_with fail
              go_quiet (fail)
              go_wp2_with fail
              go_roundg (L.length - (q + 1))
              case measure => omega
              case rel => exact ⟨q + 1 + 1, by simp, hlt, by omega, hall2, Lib.hid (hB1.out.below (below_drawn (Below.refl _ _) _))⟩
          · have e1 : ((bs L[j].who).toList == [42]) = false := by rw [toList_data, bs_list, beq_eq_false_iff_ne]; exact hs
            have e2 : ((bs L[j].who).toList != [42]) = true := by rw [bne, e1]; rfl
            by_cases hlow : L[j].ep ≤ topF L
            · have hr := Lib.hid (show checkF L = (3, (j : Int)) by
                have h1 : errAtF L j = 3 := by rw [hat.out, hlast, if_pos ⟨hs, hlow⟩]
                rw [hbad.out (by rw [h1]; decide), h1])
              clear hlast hs ho2
              generalize topF L = tp at *
              rcases hstep with hz | ⟨hz, hq, hlt2⟩
              · subst hz
                simp only [Nat.zero_mul, Nat.add_zero] at hc0 hc1
                go_wp2_with fail
                refine hri.out.mono ?_
                rintro e w1 ⟨rfl, hb1⟩
                have hc0 := cell_below hb1 hc0
                have hc1 := cell_below hb1 hc1
                have hB1 := Lib.hid (hK.out.below hb1)
                clear hb1
                obtain ⟨⟨r0, r1⟩, f0, f1⟩ := hB1.out.cells
                go_wp2_with fail
                go_quiet ((go_at_call 47; exact (htop.out _ (below_drawn hB1.out.2 _)).mono fun e w' h => ⟨h.1, _, h.2.symm⟩))
                go_wp2_with fail
                have hBd := Lib.hid (fun n => (hB1.out.below (below_drawn (Below.refl _ _) n)).set (.int .i64 3) (.int .i64 (0)))
                exact bodyPost_ret (v := .agg #[.int .i64 3, .int .i64 (0)]) (by simp [results, Tryz.results16, go_sem, (hBd.out _).1]) rfl ⟨by rw [hr.out]; rfl, (hBd.out _).2⟩
              · subst hz
                obtain ⟨b', o', hbo, hp0, _⟩ := hc.out q hq
                cases hbo
                have hp0 := cell_below hK.out.2 hp0
                have hk3 : (q : Int) < (L.length : Int) := by omega
                have hk4 : (0 : Int) ≤ (q : Int) := by omega
                have hle : Op.bytesLess (bs L[q + 1].who).toList (bs L[q].who).toList = false := by rw [bs_less]; exact decide_eq_false (fun h => List.lt_irrefl _ (List.lt_trans h hlt2))
                have hle2 : ((bs L[q + 1].who).toList == (bs L[q].who).toList) = false := by rw [bs_same]; exact decide_eq_false (fun h => by rw [h] at hlt2; exact List.lt_irrefl _ hlt2)
                clear hlt2
                go_wp2_with fail
                refine hri.out.mono ?_
                rintro e w1 ⟨rfl, hb1⟩
                have hc0 := cell_below hb1 hc0
                have hc1 := cell_below hb1 hc1
                have hp0 := cell_below hb1 hp0
                have hB1 := Lib.hid (hK.out.below hb1)
                clear hb1
                obtain ⟨⟨r0, r1⟩, f0, f1⟩ := hB1.out.cells
                go_wp2_with fail
                go_quiet (fail)
                go_wp2_with fail
                go_quiet ((go_at_call 47; exact (htop.out _ (below_drawn hB1.out.2 _)).mono fun e w' h => ⟨h.1, _, h.2.symm⟩))
                go_wp2_with fail
                have hBd := Lib.hid (fun n => (hB1.out.below (below_drawn (Below.refl _ _) n)).set (.int .i64 3) (.int .i64 ((q : Int) + 1)))
                exact bodyPost_ret (v := .agg #[.int .i64 3, .int .i64 ((q : Int) + 1)]) (by simp [results, Tryz.results16, go_sem, (hBd.out _).1]) rfl ⟨by rw [hr.out]; rfl, (hBd.out _).2⟩
            · have h0 : errAtF L j = 0 := by rw [hat.out, hlast, if_neg (fun h => hlow h.2)]
              have hall2 := Lib.hid (hnext.out h0)
              clear hlast hs h0 ho2
              generalize topF L = tp at *
              have hlow2 : decide (L[j].ep ≤ tp) = false := decide_eq_false hlow
              clear hlow
              rcases hstep with hz | ⟨hz, hq, hlt2⟩
              · subst hz
                simp only [Nat.zero_mul, Nat.add_zero] at hc0 hc1
                go_wp2_with fail
                refine hri.out.mono ?_
                rintro e w1 ⟨rfl, hb1⟩
                have hc0 := cell_below hb1 hc0
                have hc1 := cell_below hb1 hc1
                have hB1 := Lib.hid (hK.out.below hb1)
                clear hb1
                obtain ⟨⟨r0, r1⟩, f0, f1⟩ := hB1.out.cells
                go_wp2_with fail
                go_quiet ((go_at_call 47; exact (htop.out _ (below_drawn hB1.out.2 _)).mono fun e w' h => ⟨h.1, _, h.2.symm⟩))
                go_wp2_with fail
                go_roundg (L.length - (0))
                case measure => omega
                case rel => exact ⟨0 + 1, by simp, hlt, by omega, hall2, Lib.hid (hB1.out.below (below_drawn (Below.refl _ _) _))⟩
              · subst hz
                obtain ⟨b', o', hbo, hp0, _⟩ := hc.out q hq
                cases hbo
                have hp0 := cell_below hK.out.2 hp0
                have hk3 : (q : Int) < (L.length : Int) := by omega
                have hk4 : (0 : Int) ≤ (q : Int) := by omega
                have hle : Op.bytesLess (bs L[q + 1].who).toList (bs L[q].who).toList = false := by rw [bs_less]; exact decide_eq_false (fun h => List.lt_irrefl _ (List.lt_trans h hlt2))
                have hle2 : ((bs L[q + 1].who).toList == (bs L[q].who).toList) = false := by rw [bs_same]; exact decide_eq_false (fun h => by rw [h] at hlt2; exact List.lt_irrefl _ hlt2)
                clear hlt2
                go_wp2_with fail
                refine hri.out.mono ?_
                rintro e w1 ⟨rfl, hb1⟩
                have hc0 := cell_below hb1 hc0
                have hc1 := cell_below hb1 hc1
                have hp0 := cell_below hb1 hp0
                have hB1 := Lib.hid (hK.out.below hb1)
                clear hb1
                obtain ⟨⟨r0, r1⟩, f0, f1⟩ := hB1.out.cells
                go_wp2_with fail
                go_quiet (fail)
                go_wp2_with fail
                go_quiet ((go_at_call 47; exact (htop.out _ (below_drawn hB1.out.2 _)).mono fun e w' h => ⟨h.1, _, h.2.symm⟩))
                go_wp2_with fail
                go_roundg (L.length - (q + 1))
                case measure => omega
                case rel => exact ⟨q + 1 + 1, by simp, hlt, by omega, hall2, Lib.hid (hB1.out.below (below_drawn (Below.refl _ _) _))⟩
    · have hr := Lib.hid (show checkF L = (0, -1) from checkF_none (by omega) fun i hi => hall.out i (by omega))
      have hge : ¬ ((j : Int) < (L.length : Int)) := by omega
      have hfi := Lib.hid (fineF_any wr)
      go_wp2_with fail
      refine hfi.out.mono ?_
      rintro e w1 ⟨rfl, hb1⟩
      have hB1 := hK.out.below hb1
      obtain ⟨⟨r0, r1⟩, f0, f1⟩ := hB1.cells
      obtain ⟨⟨q0, q1⟩, hfin⟩ := hB1.set (.int .i64 0) (.int .i64 (-1))
      have hfin := Lib.hid hfin
      have hq := Lib.hid (And.intro q0 q1)
      clear q0 q1 hb1 hB1
      go_wp2_with fail
      obtain ⟨q0, q1⟩ := hq.out
      exact bodyPost_ret (v := .agg #[.int .i64 0, .int .i64 (-1)]) (by simp [results, Tryz.results16, go_sem, q0, q1]) rfl ⟨by rw [hr.out]; rfl, hfin.out⟩
end Go.Proofs.YtcnadjdijolboaaGreatDoor

/- Floors raised by one walk over them, as the document does it: no program in sight. -/
namespace Go.Proofs.YtcnadjdijolboaaGreatDoor

def stepR (f : Flo) (s : List Flo × Bool) (g : Flo) : List Flo × Bool :=
  (if keepF f g = true then (if (decide (f.who < g.who) && !s.2) = true then s.1 ++ [f] else s.1) ++ [g] else (if (decide (f.who < g.who) && !s.2) = true then s.1 ++ [f] else s.1), (decide (f.who < g.who) && !s.2) || s.2)
def accR (f : Flo) (L : List Flo) : List Flo × Bool := L.foldl (stepR f) ([], false)
def endR (f : Flo) (s : List Flo × Bool) : List Flo := if s.2 = true then s.1 else s.1 ++ [f]
theorem accR_snoc (f : Flo) {L : List Flo} {j : Nat} (h : j < L.length) : accR f (L.take (j + 1)) = stepR f (accR f (L.take j)) L[j] := by
  unfold accR
  rw [List.take_add_one, List.getElem?_eq_getElem h, Option.toList_some, List.foldl_append]
  rfl
theorem stepR_len (f : Flo) (s : List Flo × Bool) (g : Flo) : (stepR f s g).1.length ≤ s.1.length + 2 := by
  unfold stepR
  dsimp only
  split <;> split <;> simp
theorem foldR2_len (f : Flo) : ∀ (L : List Flo) (s : List Flo × Bool), (L.foldl (stepR f) s).1.length ≤ s.1.length + 2 * L.length
  | [], s => by simp
  | g :: L, s => by
    have h1 := foldR2_len f L (stepR f s g)
    have h2 := stepR_len f s g
    rw [List.foldl_cons, List.length_cons]
    omega
theorem accR_len (f : Flo) (L : List Flo) : (accR f L).1.length ≤ 2 * L.length := by
  have := foldR2_len f L ([], false)
  simpa [accR] using this
theorem fold_true (f : Flo) : ∀ (L out : List Flo), L.foldl (stepR f) (out, true) = (out ++ L.filter (keepF f), true)
  | [], out => by simp
  | g :: L, out => by
    have h1 : stepR f (out, true) g = (if keepF f g = true then out ++ [g] else out, true) := by
      unfold stepR
      simp
    rw [List.foldl_cons, h1, fold_true f L]
    by_cases hk : keepF f g = true
    · rw [if_pos hk, List.filter_cons_of_pos hk, List.append_assoc]; rfl
    · rw [if_neg hk, List.filter_cons_of_neg hk]
theorem ins_above {f : Flo} : ∀ {M : List Flo}, (∀ g ∈ M, ¬ g.who < f.who) → insF f M = f :: M
  | [], _ => rfl
  | g :: r, h => by
    unfold insF
    rw [if_neg (h g (by simp))]
theorem fold_end (f : Flo) : ∀ (L out : List Flo), L.Pairwise (fun f g => f.who < g.who) → endR f (L.foldl (stepR f) (out, false)) = out ++ insF f (L.filter (keepF f))
  | [], out, _ => by simp [endR, insF]
  | g :: L, out, hs => by
    have hs' := List.pairwise_cons.1 hs
    rw [List.foldl_cons]
    by_cases h : f.who < g.who
    · have h1 : stepR f (out, false) g = ((if keepF f g = true then (out ++ [f]) ++ [g] else out ++ [f]), true) := by
        unfold stepR
        simp [h]
      have h2 : insF f ((g :: L).filter (keepF f)) = f :: (g :: L).filter (keepF f) := ins_above fun x hx hlt => by
        rcases List.mem_cons.1 ((List.mem_filter.1 hx).1) with rfl | hm
        · exact List.lt_irrefl _ (List.lt_trans h hlt)
        · exact List.lt_irrefl _ (List.lt_trans (List.lt_trans h (hs'.1 x hm)) hlt)
      rw [h1, fold_true, h2]
      unfold endR
      rw [if_pos rfl]
      by_cases hk : keepF f g = true
      · rw [if_pos hk, List.filter_cons_of_pos hk]; simp
      · rw [if_neg hk, List.filter_cons_of_neg hk]; simp
    · have h1 : stepR f (out, false) g = ((if keepF f g = true then out ++ [g] else out), false) := by
        unfold stepR
        simp [h]
      rw [h1, fold_end f L _ hs'.2]
      by_cases hk : keepF f g = true
      · rw [if_pos hk, List.filter_cons_of_pos hk]
        have hlt : g.who < f.who := lt_total h (fun e => ((keepF_iff f g).1 hk).1 e.symm)
        rw [show insF f (g :: L.filter (keepF f)) = g :: insF f (L.filter (keepF f)) by conv => lhs; unfold insF; rw [if_pos hlt]]
        simp
      · rw [if_neg hk, List.filter_cons_of_neg hk]
theorem acc_up {L : List Flo} {f : Flo} (h : Good0 L) (hn : ¬ f.ep ≤ ofF L f.who) : endR f (accR f L) = upF L f := by
  unfold upF accR
  rw [if_neg hn, fold_end f L [] h.sorted]
  rfl
end Go.Proofs.YtcnadjdijolboaaGreatDoor
