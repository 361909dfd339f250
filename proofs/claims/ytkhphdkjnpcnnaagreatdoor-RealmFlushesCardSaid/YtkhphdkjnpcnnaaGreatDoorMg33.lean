/- RaiW -/
import Derived.Test.YtkhphdkjnpcnnaaGreatDoorMg31
import Derived.Test.YtkhphdkjnpcnnaaGreatDoorMg32
import Derived.Test.YtkhphdkjnpcnnaaGreatDoorMg10
import Derived.Test.YtkhphdkjnpcnnaaGreatDoorMg26
import Derived.Deep.CutRange
import Derived.Deep.CutBlock
import Derived.Deep.RegionHeld
/- The reference's floors: RaiseOf: walked. -/
namespace Go.Proofs.YtkhphdkjnpcnnaaGreatDoor set_option linter.unusedVariables false set_option linter.unusedSimpArgs false
open Go.RowKit

theorem info_flo3 : (Tryz.prog.info? 113).map (fun i => (i.zero, i.size, i.bytes)) = some (some (.agg #[.string ⟨#[]⟩, .int .i64 0]), floC.k, 24) := by kernel_rfl
/-- The box of the floor that came in, and that of a result that is a fault. -/
structure RBox (f : Flo) (w wx : World) : Prop where
  box : wx.heap[w.heap.size]? = some (.cells #[.string (bs f.who), .int .i64 f.ep] 113 (0, 0))
  res : wx.heap[w.heap.size + 1]? = some (.cells #[.int .i64 0, .int .i64 0] 98 (0, 0))
  below : Below w.heap.size w wx
theorem RBox.size {f : Flo} {w wx : World} (h : RBox f w wx) : w.heap.size + 2 ≤ wx.heap.size := by
  have := (Array.getElem?_eq_some_iff.1 h.res).1
  omega
theorem RBox.keep {f : Flo} {w wx wy : World} (h : RBox f w wx) (hb : Below (w.heap.size + 2) wx wy) : RBox f w wy :=
  ⟨(hb.block _ (by omega)).trans h.box, (hb.block _ (by omega)).trans h.res, h.below.trans (hb.mono (by omega))⟩
theorem RBox.later {f : Flo} {w wx wy : World} (h : RBox f w wx) (hb : Below wx.heap.size wx wy) : RBox f w wy := h.keep (hb.mono h.size)
theorem RBox.cells {f : Flo} {w wx : World} (h : RBox f w wx) : wx.cell? ⟨w.heap.size, 0, none⟩ = some (.string (bs f.who)) ∧ wx.cell? ⟨w.heap.size, 1, none⟩ = some (.int .i64 f.ep) := (two_kept (Below.refl _ _) h.box).1
theorem RBox.rcells {f : Flo} {w wx : World} (h : RBox f w wx) : (wx.cell? ⟨w.heap.size + 1, 0, none⟩ = some (.int .i64 0) ∧ wx.cell? ⟨w.heap.size + 1, 1, none⟩ = some (.int .i64 0)) ∧ wx.frozen? ⟨w.heap.size + 1, 0, none⟩ = false ∧ wx.frozen? ⟨w.heap.size + 1, 1, none⟩ = false := two_kept (Below.refl _ _) h.res
theorem RBox.set {f : Flo} {w wx : World} (h : RBox f w wx) (v0 v1 : Value) : let x := (wx.setCell ⟨w.heap.size + 1, 0, none⟩ v0).setCell ⟨w.heap.size + 1, 1, none⟩ v1
    (x.cell? ⟨w.heap.size + 1, 0, none⟩ = some v0 ∧ x.cell? ⟨w.heap.size + 1, 1, none⟩ = some v1) ∧ Below w.heap.size w x :=
  ⟨(two_kept (Below.refl _ _) (row_set2 h.res v0 v1)).1, below_set2 h.below (by omega) _ _⟩
theorem RowG.len_le {α : Type} {C : Cells α} {w : World} {base : Nat} {e : TypeId} {v : Value} {L : List α} (h : RowG C w base e v L) : L.length ≤ maxLen := (RowG.at_ h).len
theorem set2_first {w : World} {n : Nat} {u0 u1 : Value} {T : TypeId} (h : w.heap[n]? = some (.cells #[u0, u1] T (0, 0))) (v0 : Value) : (w.setCell ⟨n, 0, none⟩ v0).cell? ⟨n, 0, none⟩ = some v0 := by
  rw [cell_of_row _ _ _ _ _ _ (heap_setCell_same _ n 0 _ _ v0 h)]
  rfl
theorem RBox.set0 {f : Flo} {w wx : World} (h : RBox f w wx) (v0 : Value) : (wx.setCell ⟨w.heap.size + 1, 0, none⟩ v0).cell? ⟨w.heap.size + 1, 0, none⟩ = some v0 := set2_first h.res v0
theorem rbox_new (f : Flo) (w : World) : RBox f w ((w.alloc (.cells #[.string (bs f.who), .int .i64 f.ep] 113)).alloc (.cells #[.int .i64 0, .int .i64 0] 98)) := by
  have h1 := heap_alloc_new w (.cells #[.string (bs f.who), .int .i64 f.ep] 113)
  have h2 := heap_alloc_new (w.alloc (.cells #[.string (bs f.who), .int .i64 f.ep] 113)) (.cells #[.int .i64 0, .int .i64 0] 98)
  have hb : Below w.heap.size w (w.alloc (.cells #[.string (bs f.who), .int .i64 f.ep] 113)) := (Below.refl _ _).alloc (Nat.le_refl _) _
  rw [World.size_alloc] at h2
  exact ⟨heap_down ((Below.refl _ _).alloc (Nat.le_refl _) _) h1, h2, hb.alloc hb.size _⟩
/-- Floors are kept by a store into a block of numbers. -/
theorem floorsAt_set2 {w : World} {n : Nat} {a b : Int} {T : TypeId} (h : w.heap[n]? = some (.cells #[.int .i64 a, .int .i64 b] T (0, 0))) {v : Value} {L : List Flo} (hv : FloorsAt w v L) (v0 v1 : Value) :
    FloorsAt ((w.setCell ⟨n, 0, none⟩ v0).setCell ⟨n, 1, none⟩ v1) v L := by
  obtain ⟨ad, c, h1, h2, h3, h4⟩ := hv
  refine ⟨ad, c, h1, h2, h3, fun i hi => ?_⟩
  obtain ⟨bb, o, h5, h6, h7⟩ := h4 i hi
  have hne : bb ≠ n := by
    rintro rfl
    rw [cell_of_row _ _ _ _ _ _ h] at h6
    generalize o + i * 2 = q at h6
    match q, h6 with
    | 0, h6 => cases h6
    | 1, h6 => cases h6
    | q + 2, h6 => simp at h6
  exact ⟨bb, o, h5, (World.cell?_setCell_far _ _ _ _ (Ne.symm hne)).trans ((World.cell?_setCell_far _ _ _ _ (Ne.symm hne)).trans h6), (World.cell?_setCell_far _ _ _ _ (Ne.symm hne)).trans ((World.cell?_setCell_far _ _ _ _ (Ne.symm hne)).trans h7)⟩
/-- What is answered. -/
def RaiRes (base : Nat) (w' : World) (r : List Flo × Nat × Int) (e : Ending) : Prop := ∃ v, e = .returned (.tuple #[v, faultF r.2.1 r.2.2]) ∧ FloorsAt w' v r.1
theorem floorsAt_nil (w : World) : FloorsAt w (.slice none 0 0) [] := ⟨none, 0, rfl, Nat.zero_le _, Nat.zero_le _, fun i hi => absurd hi (Nat.not_lt_zero _)⟩
set_option maxHeartbeats 8000000 in
set_option maxRecDepth 100000 in
theorem raiseR_flo (v : Value) (L : List Flo) (f : Flo) (w : World) (hv : FloorsAt w v L) (hm : ∀ f ∈ L, f.who.length ≤ maxLen) (hf : f.who.length ≤ maxLen) :
    Calls Tryz.prog 129 #[v, f.val] w fun e w' => RaiRes w.heap.size w' (raiseF L f) e ∧ Below w.heap.size w w' := by
  have hB0 := rbox_new f w
  have hvH := Lib.hid hv
  have hft := Lib.hid (fun wx (hx : Below w.heap.size w wx) => faultsR_flo v L wx (hv.below hx) hm)
  have hon := Lib.hid (fun wx => oneR_flo f wx hf)
  obtain ⟨a, c, rfl, hlen, _, hc⟩ := hv
  unfold maxLen at hlen
  obtain ⟨fw, fe⟩ := f
  dsimp only [Flo.val, Flo.cells] at *
  have hBH := Lib.hid hB0
  have hft0 := Lib.hid (hft.out _ hB0.below)
  have hcH := Lib.hid hc
  have hmH := Lib.hid hm
  have hrdef := Lib.hid (show raiseF L ⟨fw, fe⟩ = if (checkF L).1 = 0 then (if oneF ⟨fw, fe⟩ = 0 then (if 21 < (upF L ⟨fw, fe⟩).length then ([], 7, -1) else (upF L ⟨fw, fe⟩, 0, -1)) else ([], oneF ⟨fw, fe⟩, -1)) else ([], checkF L) from rfl)
  clear hc hm hB0 hft hf
  by_cases hck : (checkF L).1 = 0
  case neg =>
    obtain ⟨z, a1, hza⟩ : ∃ (z : Nat) (a1 : Int), checkF L = (z, a1) := ⟨_, _, rfl⟩
    have hr := hrdef.out
    rw [if_neg hck, hza] at hr
    have hr := Lib.hid hr
    have hft0 := hft0.out
    rw [hza] at hck hft0
    dsimp only [faultF] at hck hft0
    have hz1 : (0 : Int) < (z : Int) := by omega
    have hz2 : ((z : Int) == 0) = false := by rw [beq_eq_false_iff_ne]; omega
    have hz3 : ¬ (z : Int) = 0 := by omega
    have hft0 := Lib.hid hft0
    clear hza hck
    generalize hzd : (z : Int) = zi at *
    have hzd := Lib.hid hzd
    go_enter Tryz.func129, Tryz.ntmps129
    go_wp2_with fail
    refine hft0.out.mono ?_
    rintro e w2 ⟨rfl, hb2⟩
    have hR2 := hBH.out.later hb2
    have hRN : RBox ⟨fw, fe⟩ w (w2.alloc (.cells #[.int .i64 zi, .int .i64 a1] 98)) := hR2.later ((Below.refl _ _).alloc (Nat.le_refl _) _)
    have hset := Lib.hid (fun wx (hx : RBox ⟨fw, fe⟩ w wx) => hx.set (.int .i64 zi) (.int .i64 a1))
    have hRNH := Lib.hid hRN
    obtain ⟨⟨r0, r1⟩, f0, f1⟩ := hRN.rcells
    clear hb2 hR2 hRN
    go_wp2_with fail
    go_region
    all_goals
      go_wp2_with fail
      have hR := hset.out _ hRNH.out
      have hR0 := hRNH.out.set0 (.int .i64 zi)
      exact bodyPost_ret (v := .tuple #[.slice none 0 0, .agg #[.int .i64 zi, .int .i64 a1]]) (by simp [results, Tryz.results129, go_sem, hR.1, hR0]) rfl ⟨⟨_, by rw [hr.out]; unfold faultF; dsimp only; rw [hzd.out], by rw [hr.out]; exact floorsAt_nil _⟩, hR.2.drew⟩
  have hgood := goodF_check hck
  have hck2 := check_goodF hgood
  have hr := hrdef.out
  rw [if_pos hck] at hr
  have hft0 := hft0.out
  rw [hck2] at hft0
  dsimp only [faultF] at hft0
  have hft0 := Lib.hid hft0
  have hG := Lib.hid hgood
  obtain ⟨o, ho⟩ : ∃ o, oneF ⟨fw, fe⟩ = o := ⟨_, rfl⟩
  rw [ho] at hon hr
  clear hck hck2 hgood
  have hbox2 := Lib.hid (fun wx wy (n : Nat) (v0 v1 : Value) (hx : RBox ⟨fw, fe⟩ w wx) (hb : Below wx.heap.size wx wy) (hn : wx.heap.size ≤ n + 1) (hn2 : w.heap.size + 2 ≤ n) => (show RBox ⟨fw, fe⟩ w ((wy.setCell ⟨n, 0, none⟩ v0).setCell ⟨n, 1, none⟩ v1) from (hx.later hb).keep (below_set2 (Below.refl _ _) hn2 _ _)))
  by_cases ho0 : o = 0
  case neg =>
    rw [if_neg ho0] at hr
    have hr := Lib.hid hr
    have hz1 : (0 : Int) < (o : Int) := by omega
    generalize hzd : (o : Int) = zi at *
    have hzd := Lib.hid hzd
    have hset := Lib.hid (fun wx (hx : RBox ⟨fw, fe⟩ w wx) => hx.set (.int .i64 zi) (.int .i64 (-1)))
    clear ho0 ho
    go_enter Tryz.func129, Tryz.ntmps129
    go_wp2_with fail
    refine hft0.out.mono ?_
    rintro e w2 ⟨rfl, hb2⟩
    have hR2 := hBH.out.later hb2
    have hn2 := hR2.size
    have hRN : RBox ⟨fw, fe⟩ w (w2.alloc (.cells #[.int .i64 0, .int .i64 (-1)] 98)) := hR2.later ((Below.refl _ _).alloc (Nat.le_refl _) _)
    obtain ⟨b0, b1⟩ := hRN.cells
    have hnew := Lib.hid (heap_alloc_new w2 (.cells #[.int .i64 0, .int .i64 (-1)] 98))
    have hRNH := Lib.hid hRN
    clear hb2 hR2 hRN
    go_wp2_with fail
    refine (hon.out _).mono ?_
    rintro e w3 ⟨rfl, hb3⟩
    have hR3 := Lib.hid (hRNH.out.later hb3)
    have hn3 := Lib.hid (heap_down hb3 hnew.out)
    have hba := Lib.hid (bareF_any zi w3)
    clear hb3 b0 b1
    go_wp2_with fail
    refine hba.out.mono ?_
    rintro e w4 ⟨rfl, hb4⟩
    have hR4 := hR3.out.later hb4
    have hn4 := heap_down hb4 hn3.out
    have hR5 : RBox ⟨fw, fe⟩ w ((w4.setCell ⟨w2.heap.size, 0, none⟩ (.int .i64 zi)).setCell ⟨w2.heap.size, 1, none⟩ (.int .i64 (-1))) := hR4.keep (below_set2 (Below.refl _ _) hn2 _ _)
    obtain ⟨⟨p0, p1⟩, g0, g1⟩ := two_kept (Below.refl _ _) hn4
    have hn5 := row_set2 hn4 (.int .i64 zi) (.int .i64 (-1))
    obtain ⟨⟨q0, q1⟩, _⟩ := two_kept (Below.refl _ _) hn5
    have q2 := set2_first hn4 (.int .i64 zi)
    obtain ⟨⟨r0, r1⟩, f0, f1⟩ := hR5.rcells
    have hR5H := Lib.hid hR5
    clear hb4 hR4 hn4 hn5 hR5
    go_wp2_with fail
    go_region
    all_goals
      go_wp2_with fail
      have hR := hset.out _ hR5H.out
      have hR0 := hR5H.out.set0 (.int .i64 zi)
      exact bodyPost_ret (v := .tuple #[.slice none 0 0, .agg #[.int .i64 zi, .int .i64 (-1)]]) (by simp [results, Tryz.results129, go_sem, hR.1, hR0]) rfl ⟨⟨_, by rw [hr.out]; unfold faultF; dsimp only; rw [hzd.out], by rw [hr.out]; exact floorsAt_nil _⟩, hR.2.drew⟩
  subst ho0
  rw [if_pos rfl] at hr
  have hof := Lib.hid (fun wx (hx : Below w.heap.size w wx) => ofR_flo (.slice a L.length c) L fw wx (hvH.out.below hx) hG.out.g)
  have hset := Lib.hid (fun wx (hx : RBox ⟨fw, fe⟩ w wx) (v0 v1 : Int) => hx.set (.int .i64 v0) (.int .i64 v1))
  have hup1 : fe ≤ ofF L fw → upF L ⟨fw, fe⟩ = L := fun h => upF_same h
  have hacc : ¬ fe ≤ ofF L fw → endR ⟨fw, fe⟩ (accR ⟨fw, fe⟩ L) = upF L ⟨fw, fe⟩ := fun h => acc_up hG.out.g h
  have hl21 := hG.out.len
  generalize ofF L fw = ofv at *
  have hrH := Lib.hid hr
  have hup1 := Lib.hid hup1
  have hacc := Lib.hid hacc
  clear hr ho
  go_enter Tryz.func129, Tryz.ntmps129
  go_wp2_with fail
  refine hft0.out.mono ?_
  rintro e w2 ⟨rfl, hb2⟩
  have hR2 := hBH.out.later hb2
  have hn2 := hR2.size
  have hRN : RBox ⟨fw, fe⟩ w (w2.alloc (.cells #[.int .i64 0, .int .i64 (-1)] 98)) := hR2.later ((Below.refl _ _).alloc (Nat.le_refl _) _)
  obtain ⟨b0, b1⟩ := hRN.cells
  have hnew := Lib.hid (heap_alloc_new w2 (.cells #[.int .i64 0, .int .i64 (-1)] 98))
  have hRNH := Lib.hid hRN
  clear hb2 hR2 hRN
  go_wp2_with fail
  refine (hon.out _).mono ?_
  rintro e w3 ⟨rfl, hb3⟩
  have hR3 := Lib.hid (hRNH.out.later hb3)
  have hn3 := Lib.hid (heap_down hb3 hnew.out)
  have hba := Lib.hid (bareF_any 0 w3)
  clear hb3 b0 b1
  go_wp2_with fail
  refine hba.out.mono ?_
  rintro e w4 ⟨rfl, hb4⟩
  have hR4 := hR3.out.later hb4
  have hn4 := heap_down hb4 hn3.out
  have hR5 : RBox ⟨fw, fe⟩ w ((w4.setCell ⟨w2.heap.size, 0, none⟩ (.int .i64 0)).setCell ⟨w2.heap.size, 1, none⟩ (.int .i64 (-1))) := hR4.keep (below_set2 (Below.refl _ _) hn2 _ _)
  obtain ⟨⟨p0, p1⟩, g0, g1⟩ := two_kept (Below.refl _ _) hn4
  have hn5 := row_set2 hn4 (.int .i64 0) (.int .i64 (-1))
  obtain ⟨⟨q0, q1⟩, _⟩ := two_kept (Below.refl _ _) hn5
  have q2 := set2_first hn4 (.int .i64 0)
  obtain ⟨b0, b1⟩ := hR5.cells
  have hR5H := Lib.hid hR5
  clear hb4 hR4 hn4 hn5 hR5 hft0 hon hba
  go_upto_region 6 with fail
  go_quiet ((go_at_call 166; exact (hof.out _ (below_drawn hR5H.out.below _)).mono fun e w' h => ⟨h.1, _, h.2.symm⟩))
  have hRd := hR5H.out.later (below_drawn (Below.refl _ _) nq)
  clear p0 p1 g0 g1 q0 q1 q2 b0 b1 hR5H hn3 hR3 hRNH hnew
  generalize hW : World.drewN ((w4.setCell ⟨w2.heap.size, 0, none⟩ (.int .i64 0)).setCell ⟨w2.heap.size, 1, none⟩ (.int .i64 (-1))) nq = W at *
  clear hW
  have hRd := Lib.hid hRd
  by_cases hle : fe ≤ ofv
  · have hfi := Lib.hid (fineF_any W)
    have hr := hrH.out
    rw [hup1.out hle, if_neg (by omega)] at hr
    have hr := Lib.hid hr
    clear hof hup1 hacc
    go_wp2_with fail
    refine hfi.out.mono ?_
    rintro e w5 ⟨rfl, hb5⟩
    have hR6 := hRd.out.later hb5
    obtain ⟨⟨r0, r1⟩, f0, f1⟩ := hR6.rcells
    have hR6H := Lib.hid hR6
    have hfl := Lib.hid ((hset.out _ hR6 0 (-1)))
    clear hb5 hR6
    go_wp2_with fail
    exact bodyPost_ret (v := .tuple #[.slice a L.length c, .agg #[.int .i64 0, .int .i64 (-1)]]) (by simp [results, Tryz.results129, go_sem, hfl.out.1, hR6H.out.set0 (.int .i64 0)]) rfl ⟨⟨_, by rw [hr.out]; rfl, by rw [hr.out]; exact hvH.out.below hfl.out.2⟩, hfl.out.2⟩
  have hacc := Lib.hid (hacc.out (by omega))
  have hsz := Lib.hid hRd.out.size
  clear hof hup1
  go_wp2_with fail
  go_loopg [7, 8, 9] (L.length + 1) (fun g s7 s8 s9 wr => ∃ j : Nat, s9 = .int .i64 j ∧ s8 = .bool (accR ⟨fw, fe⟩ (L.take j)).2 ∧ j ≤ L.length ∧ L.length - j + 1 ≤ g ∧ Hid (RowG floC wr (w.heap.size + 2) 113 s7 (accR ⟨fw, fe⟩ (L.take j)).1) ∧ Hid (RBox ⟨fw, fe⟩ w wr))
  case atStart => exact ⟨0, rfl, rfl, Nat.zero_le _, by omega, Lib.hid (RowG.nil _ _ _), hRd⟩
  case round =>
    obtain ⟨j, rfl, rfl, hj, hg, hrow, hK⟩ := hrel
    by_cases hlt : j < L.length
    · obtain ⟨b, o, rfl, h0, h1⟩ := hcH.out j hlt
      have hk0 : (0 : Int) ≤ (j : Int) := by omega
      have hk1 : (j : Int) < (L.length : Int) := by omega
      have hst := accR_snoc ⟨fw, fe⟩ hlt
      have hln := accR_len ⟨fw, fe⟩ (L.take j)
      rw [List.length_take] at hln
      have h42 : (accR ⟨fw, fe⟩ (L.take j)).1.length ≤ 42 := by omega
      obtain ⟨gg, hgg⟩ : ∃ gg, L[j] = gg := ⟨_, rfl⟩
      rw [hgg] at h0 h1 hst
      obtain ⟨gw, ge⟩ := gg
      generalize accR ⟨fw, fe⟩ (L.take j) = s at *
      obtain ⟨out, pl⟩ := s
      unfold stepR at hst
      dsimp only at h0 h1 hst h42 hrow
      have hbzd : ∃ bz, (decide (fw < gw) && !pl) = bz := ⟨_, rfl⟩
      obtain ⟨bz, hbz⟩ := hbzd
      rw [hbz] at hst
      have hstH := Lib.hid hst
      have h0H := Lib.hid (fun wx (hx : RBox ⟨fw, fe⟩ w wx) => cell_below hx.below h0)
      have h1H := Lib.hid (fun wx (hx : RBox ⟨fw, fe⟩ w wx) => cell_below hx.below h1)
      obtain ⟨a9, c9, rfl⟩ := hrow.out.sl
      have d0 := h0H.out _ hK.out
      obtain ⟨b0, b1⟩ := hK.out.cells
      clear hst hln h0 h1 hgg
      dsimp only
      go_upto_region 13 with fail
      go_cut [48] from 37 to 48 (fun s48 wx => s48 = .bool bz ∧ Hid (RowG floC wx (w.heap.size + 2) 113 (.slice a9 out.length c9) out ∧ RBox ⟨fw, fe⟩ w wx))
      case first =>
        have hfin := Lib.hid (fun n => (show RowG floC (wr.drewN n) (w.heap.size + 2) 113 (.slice a9 out.length c9) out ∧ RBox ⟨fw, fe⟩ w (wr.drewN n) from ⟨hrow.out.drewN n, hK.out.later (below_drawn (Below.refl _ _) n)⟩))
        by_cases hgt : fw < gw
        · have e1 : Op.bytesLess (bs gw).toList (bs fw).toList = false := by rw [bs_less]; exact decide_eq_false (fun h => List.lt_irrefl _ (List.lt_trans h hgt))
          have e2 : ((bs gw).toList == (bs fw).toList) = false := by rw [bs_same]; exact decide_eq_false (fun h => by rw [h] at hgt; exact List.lt_irrefl _ hgt)
          rw [decide_eq_true hgt, Bool.true_and] at hbz
          clear hgt
          cases pl
          all_goals
            subst hbz
            go_quiet (fail)
            go_wp2_with fail
            go_meet
            exact ⟨rfl, Lib.hid (hfin.out _)⟩
        · have e0 : (Op.bytesLess (bs gw).toList (bs fw).toList = true) ∨ (Op.bytesLess (bs gw).toList (bs fw).toList = false ∧ ((bs gw).toList == (bs fw).toList) = true) := by
            rw [bs_less, bs_same]
            by_cases he : gw = fw
            · exact .inr ⟨decide_eq_false (by rw [he]; exact List.lt_irrefl _), decide_eq_true he⟩
            · exact .inl (decide_eq_true (lt_total hgt (fun e => he e.symm)))
          rw [decide_eq_false hgt, Bool.false_and] at hbz
          clear hgt
          rcases e0 with e1 | ⟨e1, e2⟩
          all_goals
            subst hbz
            go_quiet (fail)
            go_wp2_with fail
            go_meet
            exact ⟨rfl, Lib.hid (hfin.out _)⟩
      obtain ⟨rfl, hRX⟩ := hcut
      clear hK hrow d0 b0 b1 hbz
      go_upto_if 48 with fail
      go_cut [7, 8] from 49 to 52 (fun s7 s8 wx => s8 = .bool (bz || pl) ∧ Hid (RowG floC wx (w.heap.size + 2) 113 s7 (if bz = true then out ++ [⟨fw, fe⟩] else out) ∧ RBox ⟨fw, fe⟩ w wx))
      case first =>
        cases bz with
        | false =>
          go_wp2_with fail
          go_meet
          exact ⟨rfl, hRX⟩
        | true =>
          obtain ⟨b0, b1⟩ := hRX.out.2.cells
          have hsz2 := hRX.out.2.size
          go_wp2_with (first
            | (at_builtin; refine wpList_appG floC _ rfl _ _ 54 rfl 113 (.agg #[.string ⟨#[]⟩, .int .i64 0]) 24 Tryz.underlying54 info_flo3 rfl (by decide) (w.heap.size + 2) _ out rfl (RowG.alloc hRX.out.1 _) _ [⟨fw, fe⟩] rfl (AtG.new _ _ _ rfl) (by simp; omega) (by simp; omega) ?_)
            | go_in)
          intro v6 w6 hown6 hb6 _ _
          have hfin := Lib.hid (show RowG floC w6 (w.heap.size + 2) 113 v6 (out ++ [⟨fw, fe⟩]) ∧ RBox ⟨fw, fe⟩ w w6 from ⟨hown6, hRX.out.2.keep (((Below.refl _ _).alloc hsz2 _).trans hb6)⟩)
          clear hown6 hb6 hRX b0 b1
          go_wp2_with fail
          go_meet
          exact ⟨rfl, hfin⟩
      obtain ⟨rfl, hRY⟩ := hcut
      clear hRX
      have h43 : (if bz = true then out ++ [⟨fw, fe⟩] else out : List Flo).length ≤ 43 := by
        split
        · rw [List.length_append, List.length_singleton]; omega
        · omega
      generalize (if bz = true then out ++ [⟨fw, fe⟩] else out : List Flo) = o1 at *
      generalize (bz || pl) = pl1 at *
      obtain ⟨a8, c8, rfl⟩ := hRY.out.1.sl
      have d0 := h0H.out _ hRY.out.2
      have d1 := h1H.out _ hRY.out.2
      obtain ⟨b0, b1⟩ := hRY.out.2.cells
      obtain ⟨kz, hkz⟩ : ∃ kz, keepF ⟨fw, fe⟩ ⟨gw, ge⟩ = kz := ⟨_, rfl⟩
      rw [hkz] at hstH
      unfold keepF at hkz
      dsimp only at hkz
      go_upto_region 16 with fail
      go_cut [75] from 53 to 75 (fun s75 wx => s75 = .bool (!kz) ∧ Hid (RowG floC wx (w.heap.size + 2) 113 (.slice a8 o1.length c8) o1 ∧ RBox ⟨fw, fe⟩ w wx))
      case first =>
        have hfin := Lib.hid (fun n => (show RowG floC (wc.drewN n) (w.heap.size + 2) 113 (.slice a8 o1.length c8) o1 ∧ RBox ⟨fw, fe⟩ w (wc.drewN n) from ⟨hRY.out.1.drewN n, hRY.out.2.later (below_drawn (Below.refl _ _) n)⟩))
        clear hRY
        by_cases he : gw = fw
        · have e1 : ((bs gw).toList == (bs fw).toList) = true := by rw [bs_same]; exact decide_eq_true he
          rw [beq_iff_eq.2 he, Bool.true_or] at hkz
          subst hkz
          clear he
          go_quiet (fail)
          go_wp2_with fail
          go_meet
          exact ⟨rfl, Lib.hid (hfin.out _)⟩
        have e1 : ((bs gw).toList == (bs fw).toList) = false := by rw [bs_same]; exact decide_eq_false he
        rw [beq_eq_false_iff_ne.2 he, Bool.false_or] at hkz
        clear he
        by_cases hs : fw = starW
        · have e2 : ((bs fw).toList == [42]) = true := by rw [hs, toList_data]; rfl
          rw [beq_iff_eq.2 hs, Bool.true_and] at hkz
          clear hs
          by_cases hl : ge ≤ fe
          · rw [decide_eq_true hl] at hkz
            subst hkz
            go_quiet (fail)
            go_wp2_with fail
            go_meet
            exact ⟨rfl, Lib.hid (hfin.out _)⟩
          · rw [decide_eq_false hl] at hkz
            subst hkz
            go_quiet (fail)
            go_wp2_with fail
            go_meet
            exact ⟨rfl, Lib.hid (hfin.out _)⟩
        · have e2 : ((bs fw).toList == [42]) = false := by rw [toList_data, bs_list, beq_eq_false_iff_ne]; exact hs
          rw [beq_eq_false_iff_ne.2 hs, Bool.false_and] at hkz
          subst hkz
          clear hs
          go_quiet (fail)
          go_wp2_with fail
          go_meet
          exact ⟨rfl, Lib.hid (hfin.out _)⟩
      obtain ⟨rfl, hRZ⟩ := hcut
      clear hRY hkz b0 b1 d0 d1
      cases kz with
      | false =>
        go_wp2_with fail
        go_roundg (L.length - j)
        case measure => omega
        case rel => exact ⟨j + 1, by simp, by rw [hstH.out], hlt, by omega, by rw [hstH.out]; exact Lib.hid hRZ.out.1, Lib.hid hRZ.out.2⟩
      | true =>
        have d0 := h0H.out _ hRZ.out.2
        have d1 := h1H.out _ hRZ.out.2
        have hsz2 := hRZ.out.2.size
        go_wp2_with (first
          | (at_builtin; refine wpList_appG floC _ rfl _ _ 54 rfl 113 (.agg #[.string ⟨#[]⟩, .int .i64 0]) 24 Tryz.underlying54 info_flo3 rfl (by decide) (w.heap.size + 2) _ o1 rfl (RowG.alloc hRZ.out.1 _) _ [⟨gw, ge⟩] rfl (AtG.new _ _ _ rfl) (by simp; omega) (by simp; omega) ?_)
          | go_in)
        intro v6 w6 hown6 hb6 _ _
        have hfin := Lib.hid (show RowG floC w6 (w.heap.size + 2) 113 v6 (o1 ++ [⟨gw, ge⟩]) ∧ RBox ⟨fw, fe⟩ w w6 from ⟨hown6, hRZ.out.2.keep (((Below.refl _ _).alloc hsz2 _).trans hb6)⟩)
        clear hown6 hb6 hRZ d0 d1
        go_wp2_with fail
        go_roundg (L.length - j)
        case measure => omega
        case rel => exact ⟨j + 1, by simp, by rw [hstH.out], hlt, by omega, by rw [hstH.out]; exact Lib.hid hfin.out.1, Lib.hid hfin.out.2⟩
    · have hje : L.take j = L := List.take_of_length_le (by omega)
      have hln := accR_len ⟨fw, fe⟩ L
      rw [hje] at hrow
      rw [hje]
      have haccH := Lib.hid hacc.out
      have hge : ¬ ((j : Int) < (L.length : Int)) := by omega
      generalize hgs : accR ⟨fw, fe⟩ L = s at *
      obtain ⟨out, pl⟩ := s
      clear hje hgs
      dsimp only at hrow hln ⊢
      obtain ⟨a9, c9, rfl⟩ := hrow.out.sl
      have hup : endR ⟨fw, fe⟩ (out, pl) = if pl = true then out else out ++ [⟨fw, fe⟩] := rfl
      rw [haccH.out] at hup
      have hupH := Lib.hid hup
      clear hup hacc haccH
      go_upto_if 84 with fail
      go_cut [7] from 85 to 88 (fun s7 wx => Hid (RowG floC wx (w.heap.size + 2) 113 s7 (upF L ⟨fw, fe⟩) ∧ RBox ⟨fw, fe⟩ w wx))
      case first =>
        cases pl with
        | true =>
          go_wp2_with fail
          go_meet
          exact Lib.hid (show RowG floC wr (w.heap.size + 2) 113 (.slice a9 out.length c9) (upF L ⟨fw, fe⟩) ∧ RBox ⟨fw, fe⟩ w wr from ⟨by rw [hupH.out, if_pos trivial]; exact hrow.out, hK.out⟩)
        | false =>
          obtain ⟨b0, b1⟩ := hK.out.cells
          have hsz2 := hK.out.size
          go_wp2_with (first
            | (at_builtin; refine wpList_appG floC _ rfl _ _ 54 rfl 113 (.agg #[.string ⟨#[]⟩, .int .i64 0]) 24 Tryz.underlying54 info_flo3 rfl (by decide) (w.heap.size + 2) _ out rfl (RowG.alloc hrow.out _) _ [⟨fw, fe⟩] rfl (AtG.new _ _ _ rfl) (by simp; omega) (by simp; omega) ?_)
            | go_in)
          intro v6 w6 hown6 hb6 _ _
          have hfin := Lib.hid (show RowG floC w6 (w.heap.size + 2) 113 v6 (upF L ⟨fw, fe⟩) ∧ RBox ⟨fw, fe⟩ w w6 from ⟨by rw [hupH.out, if_neg (by decide)]; exact hown6, hK.out.keep (((Below.refl _ _).alloc hsz2 _).trans hb6)⟩)
          clear hown6 hb6 b0 b1
          go_wp2_with fail
          go_meet
          exact hfin
      clear hupH hrow hK hln
      obtain ⟨a8, c8, rfl⟩ := hcut.out.1.sl
      have hl7 := RowG.len_le hcut.out.1
      have hrH2 := Lib.hid hrH.out
      clear hrH
      generalize upF L ⟨fw, fe⟩ = U at *
      by_cases h21 : 21 < U.length
      · have hr := hrH2.out
        rw [if_pos h21] at hr
        have hr := Lib.hid hr
        have h21i : (21 : Int) < (U.length : Int) := by omega
        have hba := Lib.hid (bareF_any 7 wc)
        clear h21 hrH2
        go_wp2_with fail
        refine hba.out.mono ?_
        rintro e w5 ⟨rfl, hb5⟩
        have hR6 := hcut.out.2.later hb5
        obtain ⟨⟨r0, r1⟩, f0, f1⟩ := hR6.rcells
        have hR6H := Lib.hid hR6
        have hfl := Lib.hid ((hset.out _ hR6 7 (-1)))
        clear hb5 hR6 hba
        go_wp2_with fail
        exact bodyPost_ret (v := .tuple #[.slice none 0 0, .agg #[.int .i64 7, .int .i64 (-1)]]) (by simp [results, Tryz.results129, go_sem, hfl.out.1]) rfl ⟨⟨_, by rw [hr.out]; rfl, by rw [hr.out]; exact floorsAt_nil _⟩, hfl.out.2⟩
      · have hr := hrH2.out
        rw [if_neg h21] at hr
        have hr := Lib.hid hr
        have h21i : ¬ (21 : Int) < (U.length : Int) := by omega
        have hfi := Lib.hid (fineF_any wc)
        clear h21 hrH2
        go_wp2_with fail
        refine hfi.out.mono ?_
        rintro e w5 ⟨rfl, hb5⟩
        have hR6 := hcut.out.2.later hb5
        obtain ⟨⟨r0, r1⟩, f0, f1⟩ := hR6.rcells
        have hR6H := Lib.hid hR6
        have hfl := Lib.hid ((hset.out _ hR6 0 (-1)))
        have hro := Lib.hid (RowG.below hcut.out.1 hb5)
        clear hb5 hR6 hfi
        go_wp2_with fail
        have hne : ∀ g, (Value.slice a8 U.length c8).ownBlock = some g → g ≠ w.heap.size + 1 := fun g hg => by have := (hro.out.block hg).1; omega
        have hrow7 := (hro.out.other ⟨w.heap.size + 1, 0, none⟩ (.int .i64 0) hne).other ⟨w.heap.size + 1, 1, none⟩ (.int .i64 (-1)) hne
        exact bodyPost_ret (v := .tuple #[.slice a8 U.length c8, .agg #[.int .i64 0, .int .i64 (-1)]]) (by simp [results, Tryz.results129, go_sem, hfl.out.1]) rfl ⟨⟨_, by rw [hr.out]; rfl, by rw [hr.out]; exact floorsAt_of (RowG.at_ hrow7)⟩, hfl.out.2⟩
end Go.Proofs.YtkhphdkjnpcnnaaGreatDoor
