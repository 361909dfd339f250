/- JnR, CutL -/
import Derived.Test.YtcnadjdijolboaaGreatDoorMg13
import Derived.Test.YtcnadjdijolboaaGreatDoorMg16
import Derived.Test.YtcnadjdijolboaaGreatDoorMg14
/- The reference's JoinFloors: walked. -/
namespace Go.Proofs.YtcnadjdijolboaaGreatDoor
open Go.RowKit

theorem JoinF.one_ans {a b : List Flo} {r s : List Flo × Nat × Int} (h : JoinF a b r) (k : JoinF a b s) : r = s := by
  cases h <;> cases k <;> first | rfl | contradiction | skip
  · rename_i h1 h2 J hJ hl _ _ J2 hJ2 hl2
    have := hJ.unique hJ2
    subst this
    omega
  · rename_i h1 h2 J hJ hl _ _ J2 hJ2 hl2
    have := hJ.unique hJ2
    subst this
    omega
  · rename_i h1 h2 J hJ hl _ _ J2 hJ2 hl2
    have := hJ.unique hJ2
    subst this
    rfl
/-- What is answered. -/
def JoinResR (base : Nat) (w' : World) (a b : List Flo) (e : Ending) : Prop := ∃ r v, JoinF a b r ∧ e = .returned (.tuple #[v, faultF r.2.1 r.2.2]) ∧ FloorsAt w' v r.1
/-- Two boxes: the result's, a fault's. -/
structure JBox (n : Nat) (c p : Int) (w wx : World) : Prop where
  res : wx.heap[w.heap.size]? = some (.cells #[.int .i64 0, .int .i64 0] 42 (0, 0))
  own : wx.heap[n]? = some (.cells #[.int .i64 c, .int .i64 p] 42 (0, 0))
  ne : w.heap.size < n
  below : Below w.heap.size w wx
theorem JBox.later {n : Nat} {c p : Int} {w wx wy : World} (h : JBox n c p w wx) (hb : Below wx.heap.size wx wy) : JBox n c p w wy :=
  ⟨heap_down hb h.res, heap_down hb h.own, h.ne, below_trans h.below hb⟩
theorem JBox.fbox {n : Nat} {c p : Int} {w wx : World} (h : JBox n c p w wx) : FBox w wx := ⟨h.res, h.below⟩
theorem JBox.cells {n : Nat} {c p : Int} {w wx : World} (h : JBox n c p w wx) : (wx.cell? ⟨n, 0, none⟩ = some (.int .i64 c) ∧ wx.cell? ⟨n, 1, none⟩ = some (.int .i64 p)) ∧ wx.frozen? ⟨n, 0, none⟩ = false ∧ wx.frozen? ⟨n, 1, none⟩ = false := two_kept (Below.refl _ _) h.own
theorem JBox.set {n : Nat} {c p : Int} {w wx : World} (h : JBox n c p w wx) (c' p' : Int) : JBox n c' p' w ((wx.setCell ⟨n, 0, none⟩ (.int .i64 c')).setCell ⟨n, 1, none⟩ (.int .i64 p')) :=
  ⟨(heap_setCell_other _ _ _ _ (Nat.ne_of_lt h.ne)).trans ((heap_setCell_other _ _ _ _ (Nat.ne_of_lt h.ne)).trans h.res), row_set2 h.own _ _, h.ne, below_set2 h.below (Nat.le_of_lt h.ne) _ _⟩
theorem JBox.first {n : Nat} {c p : Int} {w wx : World} (h : JBox n c p w wx) (v0 : Value) : (wx.setCell ⟨n, 0, none⟩ v0).cell? ⟨n, 0, none⟩ = some v0 := set2_first h.own v0
set_option maxHeartbeats 8000000 in
set_option maxRecDepth 100000 in
theorem joinR_flo (va vb : Value) (a b : List Flo) (w : World) (hva : FloorsAt w va a) (hvb : FloorsAt w vb b) (hma : ∀ f ∈ a, f.who.length ≤ maxLen) (hmb : ∀ f ∈ b, f.who.length ≤ maxLen) :
    Calls Tryz.prog 21 #[va, vb] w fun e w' => JoinResR w.heap.size w' a b e ∧ Below w.heap.size w w' := by
  have hB0 : FBox w (w.alloc (.cells #[.int .i64 0, .int .i64 0] 42)) := ⟨heap_alloc_new w _, (Below.refl _ _).alloc (Nat.le_refl _) _⟩
  have hAw := Lib.hid (fun wx (hx : Below w.heap.size w wx) => (show FloorsAt wx va a from hva.below hx))
  have hBw := Lib.hid (fun wx (hx : Below w.heap.size w wx) => (show FloorsAt wx vb b from hvb.below hx))
  have hfa := Lib.hid (faultsR_flo va a _ (hAw.out _ hB0.2) hma)
  have hfb := Lib.hid (fun wx (hx : Below w.heap.size w wx) => faultsR_flo vb b wx (hBw.out wx hx) hmb)
  obtain ⟨aa, ca, rfl, hla, hcca, hca⟩ := hva
  obtain ⟨ab, cb, rfl, hlb, hccb, hcb⟩ := hvb
  have hca := Lib.hid hca
  have hcb := Lib.hid hcb
  have hmaH := Lib.hid hma
  have hmbH := Lib.hid hmb
  have hB0 := Lib.hid hB0
  clear hma hmb hla hlb hcca hccb
  obtain ⟨z, p, hza⟩ : ∃ (z : Nat) (p : Int), checkF a = (z, p) := ⟨_, _, rfl⟩
  obtain ⟨z2, p2, hzb⟩ : ∃ (z2 : Nat) (p2 : Int), checkF b = (z2, p2) := ⟨_, _, rfl⟩
  have hfa := hfa.out
  have hfb := hfb.out
  rw [hza] at hfa
  simp only [hzb] at hfb
  dsimp only [faultF] at hfa hfb
  have hfa := Lib.hid hfa
  have hfb := Lib.hid hfb
  have hzaH := Lib.hid hza
  have hzbH := Lib.hid hzb
  clear hza hzb
  have hset := Lib.hid (fun wx (hx : FBox w wx) (v0 v1 : Int) => hx.set (.int .i64 v0) (.int .i64 v1))
  by_cases hz : z = 0
  case neg =>
    have hr := Lib.hid (JoinF.one (b := b) (show (checkF a).1 ≠ 0 by rw [hzaH.out]; exact hz))
    have hz1 : (0 : Int) < (z : Int) := by omega
    have hz2 : ((z : Int) == 0) = false := by rw [beq_eq_false_iff_ne]; omega
    have hz3 : ¬ (z : Int) = 0 := by omega
    have hzd0 := Lib.hid (show faultF (checkF a).1 (checkF a).2 = .agg #[.int .i64 (z : Int), .int .i64 p] by rw [hzaH.out]; rfl)
    generalize hzd : (z : Int) = zi at *
    clear hz hzaH hzbH hzd
    go_enter Tryz.func21, Tryz.ntmps21
    go_wp2_with fail
    refine hfa.out.mono ?_
    rintro e w2 ⟨rfl, hb2⟩
    have hR2 := hB0.out.below hb2
    have hRN : FBox w (w2.alloc (.cells #[.int .i64 zi, .int .i64 p] 42)) := hR2.below ((Below.refl _ _).alloc (Nat.le_refl _) _)
    have hRNH := Lib.hid hRN
    obtain ⟨⟨r0, r1⟩, f0, f1⟩ := hRN.cells
    clear hb2 hR2 hRN
    go_wp2_with fail
    go_region
    all_goals
      go_wp2_with fail
      have hR := hRNH.out.set (.int .i64 zi) (.int .i64 p)
      have hR0 := set2_first hRNH.out.1 (.int .i64 zi)
      exact bodyPost_ret (v := .tuple #[.slice none 0 0, .agg #[.int .i64 zi, .int .i64 p]]) (by simp [results, Tryz.results21, go_sem, hR.1, hR0]) rfl ⟨⟨_, _, hr.out, by rw [hzd0.out], floorsAt_nil _⟩, hR.2.drew⟩
  subst hz
  have h1H := Lib.hid (show (checkF a).1 = 0 by rw [hzaH.out])
  have hga := Lib.hid (goodF_check h1H.out)
  have hp1 : p = -1 := by have h := check_goodF hga.out; rw [hzaH.out] at h; exact (Prod.mk.inj h).2
  subst hp1
  clear hzaH
  by_cases hz : z2 = 0
  case neg =>
    have hr := Lib.hid (JoinF.two (b := b) h1H.out (show (checkF b).1 ≠ 0 by rw [hzbH.out]; exact hz))
    have hz1 : (0 : Int) < (z2 : Int) := by omega
    have hzd0 := Lib.hid (show faultF (checkF b).1 (checkF b).2 = .agg #[.int .i64 (z2 : Int), .int .i64 p2] by rw [hzbH.out]; rfl)
    generalize hzd : (z2 : Int) = zi at *
    clear hz hzbH hzd
    go_enter Tryz.func21, Tryz.ntmps21
    go_wp2_with fail
    refine hfa.out.mono ?_
    rintro e w2 ⟨rfl, hb2⟩
    have hR2 := hB0.out.below hb2
    have hRN : JBox w2.heap.size 0 (-1) w (w2.alloc (.cells #[.int .i64 0, .int .i64 (-1)] 42)) := ⟨heap_down ((Below.refl _ _).alloc (Nat.le_refl _) _) hR2.1, heap_alloc_new w2 _, (Array.getElem?_eq_some_iff.1 hR2.1).1, hR2.2.alloc hR2.2.size _⟩
    have hRNH := Lib.hid hRN
    obtain ⟨⟨b0, b1⟩, _⟩ := hRN.cells
    have hfb2 := Lib.hid (hfb.out _ hRN.below)
    clear hb2 hR2 hRN hfa hfb
    go_wp2_with fail
    refine hfb2.out.mono ?_
    rintro e w3 ⟨rfl, hb3⟩
    have hR3 := hRNH.out.later hb3
    generalize w2.heap.size = n at *
    obtain ⟨⟨p0, p1⟩, g0, g1⟩ := hR3.cells
    have q2 := hR3.first (.int .i64 zi)
    have hR4 := hR3.set zi p2
    obtain ⟨⟨q0, q1⟩, _⟩ := hR4.cells
    have hR4H := Lib.hid hR4
    obtain ⟨⟨r0, r1⟩, f0, f1⟩ := hR4.fbox.cells
    clear hb3 hR3 hR4 hfb2 b0 b1
    go_wp2_with fail
    go_region
    all_goals
      go_wp2_with fail
      have hR := hR4H.out.fbox.set (.int .i64 zi) (.int .i64 p2)
      have hR0 := set2_first hR4H.out.res (.int .i64 zi)
      exact bodyPost_ret (v := .tuple #[.slice none 0 0, .agg #[.int .i64 zi, .int .i64 p2]]) (by simp [results, Tryz.results21, go_sem, hR.1, hR0]) rfl ⟨⟨_, _, hr.out, by rw [hzd0.out], floorsAt_nil _⟩, hR.2.drew⟩
  subst hz
  have h2H := Lib.hid (show (checkF b).1 = 0 by rw [hzbH.out])
  have hgb := Lib.hid (goodF_check h2H.out)
  have hp2 : p2 = -1 := by have h := check_goodF hgb.out; rw [hzbH.out] at h; exact (Prod.mk.inj h).2
  subst hp2
  clear hzbH
  have hta := Lib.hid (fun wx (hx : Below w.heap.size w wx) => topR_flo (.slice aa a.length ca) a wx (hAw.out wx hx))
  have htb := Lib.hid (fun wx (hx : Below w.heap.size w wx) => topR_flo (.slice ab b.length cb) b wx (hBw.out wx hx))
  go_enter Tryz.func21, Tryz.ntmps21
  go_wp2_with fail
  refine hfa.out.mono ?_
  rintro e w2 ⟨rfl, hb2⟩
  have hR2 := hB0.out.below hb2
  have hRN : JBox w2.heap.size 0 (-1) w (w2.alloc (.cells #[.int .i64 0, .int .i64 (-1)] 42)) := ⟨heap_down ((Below.refl _ _).alloc (Nat.le_refl _) _) hR2.1, heap_alloc_new w2 _, (Array.getElem?_eq_some_iff.1 hR2.1).1, hR2.2.alloc hR2.2.size _⟩
  have hRNH := Lib.hid hRN
  obtain ⟨⟨b0, b1⟩, _⟩ := hRN.cells
  have hfb2 := Lib.hid (hfb.out _ hRN.below)
  clear hb2 hR2 hRN hfa hfb
  go_wp2_with fail
  refine hfb2.out.mono ?_
  rintro e w3 ⟨rfl, hb3⟩
  have hR3 := hRNH.out.later hb3
  generalize w2.heap.size = n at *
  obtain ⟨⟨p0, p1⟩, g0, g1⟩ := hR3.cells
  have q2 := hR3.first (.int .i64 0)
  have hR4 := hR3.set 0 (-1)
  obtain ⟨⟨q0, q1⟩, _⟩ := hR4.cells
  have hR4H := Lib.hid hR4
  clear hb3 hR3 hR4 hfb2 b0 b1
  go_upto_region 6 with fail
  generalize (w3.setCell ⟨n, 0, none⟩ (.int .i64 0)).setCell ⟨n, 1, none⟩ (.int .i64 (-1)) = W at *
  have hWK := Lib.hid hR4H.out.below
  have htaW := Lib.hid (hta.out _ hR4H.out.below)
  have htbW := Lib.hid (htb.out _ hR4H.out.below)
  clear p0 p1 g0 g1 q2 q0 q1 hRNH hta htb
  go_wp2_with fail
  refine htaW.out.mono ?_
  rintro e w4 ⟨rfl, rfl⟩
  go_wp2_with fail
  refine htbW.out.mono ?_
  rintro e w4 ⟨rfl, rfl⟩
  go_upto_if 29 with fail
  go_cut [7] from 24 to 31 (fun s7 wx => s7 = .int .i64 (topJ a b) ∧ wx = W)
  case first =>
    by_cases hlt : topF a < topF b
    · have e := Lib.hid (show topF b = topJ a b by unfold topJ; omega)
      go_wp2_with fail
      refine htbW.out.mono ?_
      rintro e w4 ⟨rfl, rfl⟩
      go_wp2_with fail
      go_meet
      exact ⟨by rw [e.out], rfl⟩
    · have e := Lib.hid (show topF a = topJ a b by unfold topJ; omega)
      go_wp2_with fail
      go_meet
      exact ⟨by rw [e.out], rfl⟩
  obtain ⟨rfl, hwx⟩ := hcut
  subst wc
  have hM0 := Lib.hid (MidJ.zero a b)
  have hWH := Lib.hid hR4H.out
  have htop0 := Lib.hid (show topJ a b = topJ a b from rfl)
  clear hR4H htaW htbW
  go_wp2_with fail
  go_loopg [8, 9, 10] (a.length + b.length + 1) (fun g s8 s9 s10 wr => ∃ (i k : Nat) (out : List Flo), s9 = .int .i64 i ∧ s10 = .int .i64 k ∧ i ≤ a.length ∧ k ≤ b.length ∧ a.length + b.length - (i + k) + 1 ≤ g ∧ Hid (MidJ a b i k out) ∧ Hid (RowG floC wr W.heap.size 24 s8 out) ∧ Hid (Below W.heap.size W wr))
  case atStart => exact ⟨0, 0, [], rfl, rfl, Nat.zero_le _, Nat.zero_le _, by omega, hM0, Lib.hid (RowG.nil _ _ _), Lib.hid (Below.refl _ _)⟩
  case round =>
    obtain ⟨i, k, out, rfl, rfl, hi, hk, hg, hM, hrow, hK⟩ := hrel
    have hKw := Lib.hid (below_trans hWK.out hK.out)
    obtain ⟨a8, c8, hs8⟩ := hrow.out.sl
    subst hs8
    by_cases hmore : i < a.length ∨ k < b.length
    · obtain ⟨hw1, hw2, hw3⟩ := whoJ_ok hga.out.g hgb.out.g hmore
      obtain ⟨hst, hlt⟩ := hM.out.step hga.out.g.sorted hgb.out.g.sorted hw1 hw2 hw3
      have hst := Lib.hid hst
      have hn1 := Lib.hid (next_le (whoJ a b i k) hi)
      have hn2 := Lib.hid (next_le (whoJ a b i k) hk)
      have hlenO := hM.out.len
      have hla := hga.out.len
      have hlb := hgb.out.len
      have hwd := Lib.hid (show whoJ a b i k = if k < b.length ∧ (who0J a i = [] ∨ (b.getD k ⟨[], 0⟩).who < who0J a i) then (b.getD k ⟨[], 0⟩).who else who0J a i from rfl)
      have hw0 := Lib.hid (show who0J a i = if i < a.length then (a.getD i ⟨[], 0⟩).who else [] from rfl)
      have hna := Lib.hid (show nextJ a i (whoJ a b i k) = if (a.getD i ⟨[], 0⟩).who = whoJ a b i k ∧ i < a.length then i + 1 else i from rfl)
      have hnb := Lib.hid (show nextJ b k (whoJ a b i k) = if (b.getD k ⟨[], 0⟩).who = whoJ a b i k ∧ k < b.length then k + 1 else k from rfl)
      have hpd := Lib.hid (show putJ a b ⟨whoJ a b i k, 0⟩ = (decide (whoJ a b i k = starW) || decide (topJ a b < epJ a b (whoJ a b i k))) from rfl)
      have hod := Lib.hid (show outJ a b out (whoJ a b i k) = if putJ a b ⟨whoJ a b i k, 0⟩ = true then out ++ [⟨whoJ a b i k, epJ a b (whoJ a b i k)⟩] else out from rfl)
      have hcellA := Lib.hid (fun (h : i < a.length) => (show ∃ bb o, aa = some ⟨bb, o, none⟩ ∧ wr.cell? ⟨bb, o + i * 2, none⟩ = some (.string (bs (a.getD i ⟨[], 0⟩).who)) from by
        obtain ⟨bb, o, h1, h2, _⟩ := hca.out i h
        exact ⟨bb, o, h1, by rw [getD_get h]; exact cell_below hKw.out h2⟩))
      have hcellB := Lib.hid (fun (h : k < b.length) => (show ∃ bb o, ab = some ⟨bb, o, none⟩ ∧ wr.cell? ⟨bb, o + k * 2, none⟩ = some (.string (bs (b.getD k ⟨[], 0⟩).who)) from by
        obtain ⟨bb, o, h1, h2, _⟩ := hcb.out k h
        exact ⟨bb, o, h1, by rw [getD_get h]; exact cell_below hKw.out h2⟩))
      generalize hwa : (a.getD i ⟨[], 0⟩).who = wa at *
      generalize hwb : (b.getD k ⟨[], 0⟩).who = wb at *
      have hwaH := Lib.hid hwa
      have hwbH := Lib.hid hwb
      clear hwa hwb
      generalize whoJ a b i k = who at *
      generalize who0J a i = who0 at *
      clear hw1 hw2 hw3 hM
      have hki0 : (0 : Int) ≤ (i : Int) := by omega
      have hkk0 : (0 : Int) ≤ (k : Int) := by omega
      go_upto_region 12 with fail
      go_cut [41] from 32 to 41 (fun s41 wx => s41 = .bool true ∧ wx = wr)
      case first =>
        by_cases hia : i < a.length
        · have hia2 : (i : Int) < (a.length : Int) := by omega
          clear hmore
          go_wp2_with fail
          go_meet
          exact ⟨rfl, rfl⟩
        · have hia2 : ¬ (i : Int) < (a.length : Int) := by omega
          have hkb2 : (k : Int) < (b.length : Int) := by omega
          clear hmore
          go_wp2_with fail
          go_meet
          exact ⟨rfl, rfl⟩
      obtain ⟨rfl, hwx⟩ := hcut
      subst wc
      go_upto_if 45 with fail
      go_cut [11] from 42 to 50 (fun s11 wx => s11 = .string (bs who0) ∧ wx = wr)
      case first =>
        by_cases hia : i < a.length
        · have hia2 : (i : Int) < (a.length : Int) := by omega
          have e := hw0.out
          rw [if_pos hia] at e
          have e := Lib.hid e
          obtain ⟨bb, o, rfl, d0⟩ := hcellA.out hia
          clear hmore
          go_wp2_with fail
          go_meet
          exact ⟨by rw [e.out], rfl⟩
        · have hia2 : ¬ (i : Int) < (a.length : Int) := by omega
          have e := hw0.out
          rw [if_neg hia] at e
          have e := Lib.hid e
          clear hmore
          go_wp2_with fail
          go_meet
          exact ⟨by rw [e.out]; rfl, rfl⟩
      obtain ⟨rfl, hwx⟩ := hcut
      subst wc
      go_upto_if 54 with fail
      go_cut [11] from 51 to 70 (fun s11 wx => s11 = .string (bs who) ∧ wx = wr)
      case first =>
        by_cases hkb : k < b.length
        · have hkb2 : (k : Int) < (b.length : Int) := by omega
          obtain ⟨bb, o, rfl, d0⟩ := hcellB.out hkb
          by_cases h0 : who0 = []
          · have e := hwd.out
            rw [if_pos ⟨hkb, .inl h0⟩] at e
            have e := Lib.hid e
            have h00 : (bs who0).toList = [] := by rw [toList_data, bs_list]; exact h0
            have h01 : ((bs who0).toList == []) = true := beq_iff_eq.2 h00
            clear hmore h0
            go_wp2_with fail
            go_meet
            exact ⟨by rw [e.out], rfl⟩
          · have h00 : ¬ (bs who0).toList = [] := by rw [toList_data, bs_list]; exact h0
            have h01 : ((bs who0).toList == []) = false := beq_eq_false_iff_ne.2 h00
            by_cases hlt2 : wb < who0
            · have e := hwd.out
              rw [if_pos ⟨hkb, .inr hlt2⟩] at e
              have e := Lib.hid e
              have hbl : Op.bytesLess (bs wb).toList (bs who0).toList = true := by rw [bs_less]; exact decide_eq_true hlt2
              clear hmore hlt2 h0
              go_wp2_with fail
              go_meet
              exact ⟨by rw [e.out], rfl⟩
            · have e := hwd.out
              rw [if_neg (by rintro ⟨_, h | h⟩; exact h0 h; exact hlt2 h)] at e
              have e := Lib.hid e
              have hbl : Op.bytesLess (bs wb).toList (bs who0).toList = false := by rw [bs_less]; exact decide_eq_false hlt2
              clear hmore hlt2 h0
              go_wp2_with fail
              go_meet
              exact ⟨by rw [e.out], rfl⟩
        · have hkb2 : ¬ (k : Int) < (b.length : Int) := by omega
          have e := hwd.out
          rw [if_neg (fun h => hkb h.1)] at e
          have e := Lib.hid e
          clear hmore
          go_wp2_with fail
          go_meet
          exact ⟨by rw [e.out], rfl⟩
      obtain ⟨rfl, hwx⟩ := hcut
      subst wc
      have hoa := Lib.hid (ofR_flo (.slice aa a.length ca) a who wr (hAw.out wr hKw.out) hga.out.g)
      have hob := Lib.hid (ofR_flo (.slice ab b.length cb) b who wr (hBw.out wr hKw.out) hgb.out.g)
      have hepd := Lib.hid (show epJ a b who = max (ofF a who) (ofF b who) from rfl)
      generalize epJ a b who = ep at *
      generalize ofF a who = oa at *
      generalize ofF b who = ob at *
      clear hmore hwd hw0
      go_wp2_with fail
      refine hoa.out.mono ?_
      rintro e w4 ⟨rfl, rfl⟩
      go_wp2_with fail
      refine hob.out.mono ?_
      rintro e w4 ⟨rfl, rfl⟩
      go_upto_if 78 with fail
      go_cut [12] from 74 to 81 (fun s12 wx => s12 = .int .i64 ep ∧ wx = wr)
      case first =>
        by_cases hlo : oa < ob
        · have e := Lib.hid (show ob = ep by rw [hepd.out]; omega)
          go_wp2_with fail
          refine hob.out.mono ?_
          rintro e w4 ⟨rfl, rfl⟩
          go_wp2_with fail
          go_meet
          exact ⟨by rw [e.out], rfl⟩
        · have e := Lib.hid (show oa = ep by rw [hepd.out]; omega)
          go_wp2_with fail
          go_meet
          exact ⟨by rw [e.out], rfl⟩
      obtain ⟨rfl, hwx⟩ := hcut
      subst wc
      clear hoa hob hepd
      go_upto_region 22 with fail
      generalize topJ a b = tp at *
      generalize hpj : putJ a b ⟨who, 0⟩ = pj at *
      go_cut [88] from 82 to 88 (fun s88 wx => s88 = .bool pj ∧ wx = wr)
      case first =>
        by_cases hgt : tp < ep
        · have e := hpd.out
          rw [decide_eq_true hgt, Bool.or_true] at e
          subst e
          go_wp2_with fail
          go_meet
          exact ⟨rfl, rfl⟩
        · have e := hpd.out
          rw [decide_eq_false hgt, Bool.or_false] at e
          have hst2 : ((bs who).toList == [42]) = decide (who = starW) := by rw [toList_data, bs_list, Bool.eq_iff_iff, decide_eq_true_iff, beq_iff_eq]; exact Iff.rfl
          by_cases hss : who = starW
          · rw [decide_eq_true hss] at hst2
            have hst3 : (bs who).toList = [42] := beq_iff_eq.1 hst2
            rw [decide_eq_true hss] at e
            subst e
            clear hss
            go_wp2_with fail
            go_meet
            exact ⟨rfl, rfl⟩
          · rw [decide_eq_false hss] at hst2
            have hst3 : ¬ (bs who).toList = [42] := beq_eq_false_iff_ne.1 hst2
            rw [decide_eq_false hss] at e
            subst e
            clear hss
            go_wp2_with fail
            go_meet
            exact ⟨rfl, rfl⟩
      obtain ⟨rfl, hwx⟩ := hcut
      subst wc
      clear hpd hpj
      go_upto_if 88 with fail
      go_cut [8] from 82 to 94 (fun s8 wx => Hid (RowG floC wx W.heap.size 24 s8 (outJ a b out who)) ∧ Hid (Below W.heap.size W wx))
      case first =>
        have hlo2 : out.length ≤ 42 := by omega
        cases pj with
        | false =>
          have e := hod.out
          rw [if_neg (by decide)] at e
          go_wp2_with fail
          go_meet
          exact ⟨by rw [e]; exact hrow, hK⟩
        | true =>
          have e := hod.out
          rw [if_pos rfl] at e
          have e := Lib.hid e
          have hszK := hK.out.size
          go_wp2_with (first
            | (at_builtin; refine wpList_appG floC _ rfl _ _ 22 rfl 24 (.agg #[.string ⟨#[]⟩, .int .i64 0]) 24 Tryz.underlying22 info_flo3 rfl (by decide) W.heap.size _ out rfl (RowG.alloc hrow.out _) _ [⟨who, ep⟩] rfl (AtG.new _ _ _ rfl) (by simp; omega) (by simp; omega) ?_)
            | go_in)
          intro v6 w6 hown6 hb6 _ _
          have hfin := Lib.hid (show RowG floC w6 W.heap.size 24 v6 (outJ a b out who) ∧ Below W.heap.size W w6 from ⟨by rw [e.out]; exact hown6, (hK.out.alloc hszK _).trans hb6⟩)
          clear hown6 hb6
          go_wp2_with fail
          go_meet
          exact ⟨Lib.hid hfin.out.1, Lib.hid hfin.out.2⟩
      obtain ⟨hrow2, hK2⟩ := hcut
      have hKw2 := Lib.hid (below_trans hWK.out hK2.out)
      have hcA := Lib.hid (fun (h : i < a.length) => (show ∃ bb o, aa = some ⟨bb, o, none⟩ ∧ wc.cell? ⟨bb, o + i * 2, none⟩ = some (.string (bs wa)) from by
        obtain ⟨bb, o, h1, h2, _⟩ := hca.out i h
        exact ⟨bb, o, h1, by rw [← hwaH.out, getD_get h]; exact cell_below hKw2.out h2⟩))
      have hcB := Lib.hid (fun (h : k < b.length) => (show ∃ bb o, ab = some ⟨bb, o, none⟩ ∧ wc.cell? ⟨bb, o + k * 2, none⟩ = some (.string (bs wb)) from by
        obtain ⟨bb, o, h1, h2, _⟩ := hcb.out k h
        exact ⟨bb, o, h1, by rw [← hwbH.out, getD_get h]; exact cell_below hKw2.out h2⟩))
      obtain ⟨a7, c7, hs7⟩ := hrow2.out.sl
      clear hrow hK hcellA hcellB hKw hod hlenO
      generalize outJ a b out who = out2 at *
      subst hs7
      generalize wc = Wy at *
      go_upto_if 98 with fail
      go_cut [9] from 95 to 107 (fun s9 wx => s9 = .int .i64 (nextJ a i who : Nat) ∧ wx = Wy)
      case first =>
        by_cases hia : i < a.length
        · have hia2 : (i : Int) < (a.length : Int) := by omega
          obtain ⟨bb, o, rfl, d0⟩ := hcA.out hia
          have hse := bs_same wa who
          by_cases hew : wa = who
          · have e := hna.out
            rw [if_pos ⟨hew, hia⟩] at e
            have e := Lib.hid e
            rw [decide_eq_true hew] at hse
            have hse2 : (bs wa).toList = (bs who).toList := beq_iff_eq.1 hse
            clear hew
            go_wp2_with fail
            go_meet
            exact ⟨by rw [e.out]; simp, rfl⟩
          · have e := hna.out
            rw [if_neg (fun h => hew h.1)] at e
            have e := Lib.hid e
            rw [decide_eq_false hew] at hse
            have hse2 : ¬ (bs wa).toList = (bs who).toList := beq_eq_false_iff_ne.1 hse
            clear hew
            go_wp2_with fail
            go_meet
            exact ⟨by rw [e.out], rfl⟩
        · have hia2 : ¬ (i : Int) < (a.length : Int) := by omega
          have e := hna.out
          rw [if_neg (fun h => hia h.2)] at e
          have e := Lib.hid e
          go_wp2_with fail
          go_meet
          exact ⟨by rw [e.out], rfl⟩
      obtain ⟨rfl, hwx⟩ := hcut
      subst wc
      by_cases hia : k < b.length
      · have hia2 : (k : Int) < (b.length : Int) := by omega
        obtain ⟨bb, o, rfl, d0⟩ := hcB.out hia
        have hse := bs_same wb who
        by_cases hew : wb = who
        · have e := hnb.out
          rw [if_pos ⟨hew, hia⟩] at e
          have e := Lib.hid e
          rw [decide_eq_true hew] at hse
          have hse2 : (bs wb).toList = (bs who).toList := beq_iff_eq.1 hse
          clear hew
          go_wp2_with fail
          go_roundg (a.length + b.length - (i + k))
          case measure => omega
          case rel => exact ⟨nextJ a i who, nextJ b k who, out2, rfl, by rw [e.out]; simp, hn1.out, hn2.out, by have := hn1.out; have := hn2.out; omega, hst, hrow2, hK2⟩
        · have e := hnb.out
          rw [if_neg (fun h => hew h.1)] at e
          have e := Lib.hid e
          rw [decide_eq_false hew] at hse
          have hse2 : ¬ (bs wb).toList = (bs who).toList := beq_eq_false_iff_ne.1 hse
          clear hew
          go_wp2_with fail
          go_roundg (a.length + b.length - (i + k))
          case measure => omega
          case rel => exact ⟨nextJ a i who, nextJ b k who, out2, rfl, by rw [e.out], hn1.out, hn2.out, by have := hn1.out; have := hn2.out; omega, hst, hrow2, hK2⟩
      · have hia2 : ¬ (k : Int) < (b.length : Int) := by omega
        have e := hnb.out
        rw [if_neg (fun h => hia h.2)] at e
        have e := Lib.hid e
        go_wp2_with fail
        go_roundg (a.length + b.length - (i + k))
        case measure => omega
        case rel => exact ⟨nextJ a i who, nextJ b k who, out2, rfl, by rw [e.out], hn1.out, hn2.out, by have := hn1.out; have := hn2.out; omega, hst, hrow2, hK2⟩
    · have hJ := Lib.hid (hM.out.join hga.out.g hgb.out.g (by omega) (by omega))
      have hia2 : ¬ (i : Int) < (a.length : Int) := by omega
      have hkb2 : ¬ (k : Int) < (b.length : Int) := by omega
      have hF := Lib.hid (hWH.out.fbox.below hK.out)
      have hl7 := RowG.len_le hrow.out
      by_cases h21 : 21 < out.length
      · have hr := Lib.hid (JoinF.full h1H.out h2H.out _ hJ.out h21)
        have h21i : (21 : Int) < (out.length : Int) := by omega
        have hba := Lib.hid (bareF_any 7 wr)
        clear h21 hmore
        go_wp2_with fail
        refine hba.out.mono ?_
        rintro e w5 ⟨rfl, hb5⟩
        have hR6 := hF.out.below hb5
        obtain ⟨⟨r0, r1⟩, f0, f1⟩ := hR6.cells
        have hR6H := Lib.hid hR6
        have hfl := Lib.hid (hR6.set (.int .i64 7) (.int .i64 (-1)))
        clear hb5 hR6 hba
        go_wp2_with fail
        exact bodyPost_ret (v := .tuple #[.slice none 0 0, .agg #[.int .i64 7, .int .i64 (-1)]]) (by simp [results, Tryz.results21, go_sem, hfl.out.1]) rfl ⟨⟨_, _, hr.out, rfl, floorsAt_nil _⟩, hfl.out.2⟩
      · have hr := Lib.hid (JoinF.good h1H.out h2H.out _ hJ.out (by omega))
        have h21i : ¬ (21 : Int) < (out.length : Int) := by omega
        have hfi := Lib.hid (fineF_any wr)
        clear h21 hmore
        go_wp2_with fail
        refine hfi.out.mono ?_
        rintro e w5 ⟨rfl, hb5⟩
        have hR6 := hF.out.below hb5
        obtain ⟨⟨r0, r1⟩, f0, f1⟩ := hR6.cells
        have hR6H := Lib.hid hR6
        have hfl := Lib.hid (hR6.set (.int .i64 0) (.int .i64 (-1)))
        have hro := Lib.hid (RowG.below hrow.out hb5)
        have hnW := Lib.hid (show w.heap.size < W.heap.size from (Array.getElem?_eq_some_iff.1 hWH.out.res).1)
        clear hb5 hR6 hfi
        go_wp2_with fail
        have hne : ∀ g, (Value.slice a8 out.length c8).ownBlock = some g → g ≠ w.heap.size := fun g hg => by have := (hro.out.block hg).1; have := hnW.out; omega
        have hrow7 := (hro.out.other ⟨w.heap.size, 0, none⟩ (.int .i64 0) hne).other ⟨w.heap.size, 1, none⟩ (.int .i64 (-1)) hne
        exact bodyPost_ret (v := .tuple #[.slice a8 out.length c8, .agg #[.int .i64 0, .int .i64 (-1)]]) (by simp [results, Tryz.results21, go_sem, hfl.out.1]) rfl ⟨⟨_, _, hr.out, rfl, floorsAt_of (RowG.at_ hrow7)⟩, hfl.out.2⟩
end Go.Proofs.YtcnadjdijolboaaGreatDoor

/- Bytes of a text ahead of a byte that is sought: lemmas. -/
namespace Go.Proofs.YtcnadjdijolboaaGreatDoor
open Go.RowKit

theorem extract_bytes (s : ByteArray) (a b : Nat) : s.extract a b = bs ((s.data.toList.drop a).take (b - a)) := by
  apply ByteArray.ext
  apply Array.toList_inj.1
  rw [Lib.extract_data, bs_list]
theorem drop_no {s : ByteArray} {f : Nat} {c : UInt8} (h : ∀ q, f ≤ q → q < s.size → byteAt s q ≠ c) : c ∉ s.data.toList.drop f := by
  intro hm
  obtain ⟨i, hi, e⟩ := List.getElem_of_mem hm
  simp only [List.length_drop, Array.length_toList] at hi
  have hi2 : f + i < s.size := by have : s.data.size = s.size := rfl; omega
  apply h (f + i) (by omega) hi2
  unfold byteAt
  have hi' : f + i < s.data.toList.length := by simpa using hi2
  rw [List.getD_eq_getElem?_getD, List.getElem?_eq_getElem hi']
  rw [List.getElem_drop] at e
  exact e
theorem take_no {s : ByteArray} {f j : Nat} {c : UInt8} (hj : j ≤ s.size) (h : ∀ q, f ≤ q → q < j → byteAt s q ≠ c) : c ∉ (s.data.toList.drop f).take (j - f) := by
  intro hm
  obtain ⟨i, hi, e⟩ := List.getElem_of_mem hm
  simp only [List.length_take, List.length_drop, Array.length_toList] at hi
  have hs : s.data.size = s.size := rfl
  apply h (f + i) (by omega) (by omega)
  unfold byteAt
  have hi' : f + i < s.data.toList.length := by simp; omega
  rw [List.getD_eq_getElem?_getD, List.getElem?_eq_getElem hi']
  rw [List.getElem_take, List.getElem_drop] at e
  exact e
theorem drop_split (s : ByteArray) (f j : Nat) (hf : f ≤ j) (hj : j < s.size) : s.data.toList.drop f = (s.data.toList.drop f).take (j - f) ++ byteAt s j :: s.data.toList.drop (j + 1) := by
  have h1 : (s.data.toList.drop f).drop (j - f) = byteAt s j :: s.data.toList.drop (j + 1) := by
    rw [List.drop_drop, show f + (j - f) = j by omega]
    exact drop_byte s j hj
  rw [← h1, List.take_append_drop]
theorem extract_end (s : ByteArray) (f : Nat) : s.extract f s.size = bs (s.data.toList.drop f) := by
  rw [extract_bytes, List.take_of_length_le]
  simp
end Go.Proofs.YtcnadjdijolboaaGreatDoor
