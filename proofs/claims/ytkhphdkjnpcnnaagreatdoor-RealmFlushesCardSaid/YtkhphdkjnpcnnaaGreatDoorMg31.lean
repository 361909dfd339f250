/- RefF, RefF2 -/
import Derived.Test.YtkhphdkjnpcnnaaGreatDoorMg22
import Derived.Test.YtkhphdkjnpcnnaaGreatDoorMg15
import Derived.Test.YtkhphdkjnpcnnaaGreatDoorMg8
/- The reference's floors: FloorOne, TopOf, FloorOf by contracts. -/
namespace Go.Proofs.YtkhphdkjnpcnnaaGreatDoor
open Go.RowKit

theorem oneF_cases (who : List UInt8) (ep : Int) : (who = starW ∨ who ≠ starW) ∧ ((who ≠ starW ∧ isName who = false ∧ oneF ⟨who, ep⟩ = 4) ∨ ((who = starW ∨ isName who = true) ∧ 1 ≤ ep ∧ ep ≤ 1073741824 ∧ oneF ⟨who, ep⟩ = 0) ∨ ((who = starW ∨ isName who = true) ∧ ep < 1 ∧ oneF ⟨who, ep⟩ = 2) ∨ ((who = starW ∨ isName who = true) ∧ 1 ≤ ep ∧ 1073741824 < ep ∧ oneF ⟨who, ep⟩ = 2)) := by
  refine ⟨Classical.em _, ?_⟩
  unfold oneF
  by_cases hs : who = starW
  · rw [if_neg (fun h => h.1 hs)]
    by_cases h1 : 1 ≤ ep
    · by_cases h2 : ep ≤ 1073741824
      · rw [if_pos ⟨h1, h2⟩]; exact .inr (.inl ⟨.inl hs, h1, h2, rfl⟩)
      · rw [if_neg (fun h => h2 h.2)]; exact .inr (.inr (.inr ⟨.inl hs, h1, by omega, rfl⟩))
    · rw [if_neg (fun h => h1 h.1)]; exact .inr (.inr (.inl ⟨.inl hs, by omega, rfl⟩))
  · cases hn : isName who with
    | false => rw [if_pos ⟨hs, rfl⟩]; exact .inl ⟨hs, rfl, rfl⟩
    | true =>
      rw [if_neg (fun h => by have := h.2; cases this)]
      by_cases h1 : 1 ≤ ep
      · by_cases h2 : ep ≤ 1073741824
        · rw [if_pos ⟨h1, h2⟩]; exact .inr (.inl ⟨.inr rfl, h1, h2, rfl⟩)
        · rw [if_neg (fun h => h2 h.2)]; exact .inr (.inr (.inr ⟨.inr rfl, h1, by omega, rfl⟩))
      · rw [if_neg (fun h => h1 h.1)]; exact .inr (.inr (.inl ⟨.inr rfl, by omega, rfl⟩))
set_option maxRecDepth 100000 in
theorem oneR_flo (f : Flo) (w : World) (hl : f.who.length ≤ maxLen) :
    Calls Tryz.prog 165 #[f.val] w fun e w' => e = .returned (.int .i64 (oneF f : Nat)) ∧ Below w.heap.size w w' := by
  have hB : Below w.heap.size w (w.alloc (.cells f.cells.toArray 113)) := (Below.refl _ _).alloc (Nat.le_refl _) _
  have hnm := fun wx => isNameR_any (bs f.who) wx (by rw [bs_size]; exact hl)
  rw [bs_list] at hnm
  obtain ⟨who, ep⟩ := f
  dsimp only [Flo.val, Flo.cells] at *
  have c0 : (w.alloc (.cells #[.string (bs who), .int .i64 ep] 113)).cell? ⟨w.heap.size, 0, none⟩ = some (.string (bs who)) := by simp
  have c1 : (w.alloc (.cells #[.string (bs who), .int .i64 ep] 113)).cell? ⟨w.heap.size, 1, none⟩ = some (.int .i64 ep) := by simp
  obtain ⟨_, hcs⟩ := oneF_cases who ep
  generalize oneF ⟨who, ep⟩ = r at *
  by_cases hs : who = starW
  · have e1 : ((bs who).toList == [42]) = true := by rw [hs, toList_data]; rfl
    have e2 : ((bs who).toList != [42]) = false := by rw [bne, e1]; rfl
    cases ha : isName who
    all_goals
      rw [ha] at hnm
      have hnm := Lib.hid hnm
      rcases hcs with ⟨h1, _⟩ | ⟨_, h1, h2, hr⟩ | ⟨_, h1, hr⟩ | ⟨_, h1, h2, hr⟩
      · exact absurd hs h1
      all_goals
        clear hs ha
        subst hr
        go_enter Tryz.func165, Tryz.ntmps165
        go_wp2_with fail
        refine (hnm.out _).mono ?_
        rintro e w1 ⟨rfl, rfl⟩
        go_wp2_with fail
        go_ret
        exact ⟨rfl, hB⟩
  · have e1 : ((bs who).toList == [42]) = false := by rw [toList_data, bs_list, beq_eq_false_iff_ne]; exact hs
    have e2 : ((bs who).toList != [42]) = true := by rw [bne, e1]; rfl
    cases ha : isName who with
    | false =>
      rw [ha] at hnm
      have hnm := Lib.hid hnm
      have hr : r = 4 := by
        rcases hcs with ⟨_, _, hr⟩ | ⟨h, _⟩ | ⟨h, _⟩ | ⟨h, _⟩
        · exact hr
        all_goals
          rcases h with h | h
          · exact absurd h hs
          · rw [ha] at h; cases h
      clear hs ha hcs
      subst hr
      go_enter Tryz.func165, Tryz.ntmps165
      go_wp2_with fail
      refine (hnm.out _).mono ?_
      rintro e w1 ⟨rfl, rfl⟩
      go_wp2_with fail
      go_ret
      exact ⟨rfl, hB⟩
    | true =>
      rw [ha] at hnm
      have hnm := Lib.hid hnm
      rcases hcs with ⟨_, h1, _⟩ | ⟨_, h1, h2, hr⟩ | ⟨_, h1, hr⟩ | ⟨_, h1, h2, hr⟩
      · rw [ha] at h1; cases h1
      all_goals
        clear hs ha
        subst hr
        go_enter Tryz.func165, Tryz.ntmps165
        go_wp2_with fail
        refine (hnm.out _).mono ?_
        rintro e w1 ⟨rfl, rfl⟩
        go_wp2_with fail
        go_ret
        exact ⟨rfl, hB⟩

set_option maxRecDepth 100000 in
theorem topR_flo (v : Value) (L : List Flo) (w : World) (hv : FloorsAt w v L) :
    Calls Tryz.prog 168 #[v] w fun e w' => e = .returned (.int .i64 (topF L)) ∧ w = w' := by
  obtain ⟨a, c, rfl, hlen, _, hc⟩ := hv
  cases L with
  | nil =>
    go_enter Tryz.func168, Tryz.ntmps168
    go_wp2_with fail
    go_ret
    exact ⟨rfl, rfl⟩
  | cons f L =>
    obtain ⟨b, o, rfl, h0, h1⟩ := hc 0 (by simp)
    obtain ⟨who, ep⟩ := f
    simp only [List.getElem_cons_zero, Nat.zero_mul, Nat.add_zero] at h0 h1
    have hn : 0 < (⟨who, ep⟩ :: L : List Flo).length := by simp
    have hz : (((⟨who, ep⟩ :: L : List Flo).length : Int) == 0) = false := by rw [beq_eq_false_iff_ne]; omega
    unfold maxLen at hlen
    clear hc
    generalize hm : (⟨who, ep⟩ :: L : List Flo).length = m at *
    clear hm
    by_cases hs : who = starW
    · have e1 : ((bs who).toList == [42]) = true := by rw [hs, toList_data]; rfl
      have hr := Lib.hid (show topF (⟨who, ep⟩ :: L) = ep from if_pos hs)
      clear hs
      go_enter Tryz.func168, Tryz.ntmps168
      go_wp2_with fail
      go_ret
      exact ⟨ret_int hr.out.symm, rfl⟩
    · have e1 : ((bs who).toList == [42]) = false := by rw [toList_data, bs_list, beq_eq_false_iff_ne]; exact hs
      have hr := Lib.hid (show topF (⟨who, ep⟩ :: L) = 0 from if_neg hs)
      clear hs
      go_enter Tryz.func168, Tryz.ntmps168
      go_wp2_with fail
      go_ret
      exact ⟨ret_int hr.out.symm, rfl⟩

/-- What FloorOf knows behind the first j floors. -/
def ofSo (L : List Flo) (n : List UInt8) (j : Nat) (k : Int) : Prop := k = ofF L n ∨ ((∀ i (h : i < L.length), i < j → L[i].who ≠ n) ∧ k = topF L)
theorem ofSo_start (L : List Flo) (n : List UInt8) : ofSo L n 0 (topF L) := .inr ⟨fun _ _ h => absurd h (Nat.not_lt_zero _), rfl⟩
theorem ofSo_skip {L : List Flo} {n : List UInt8} {j : Nat} {k : Int} (hj : j < L.length) (h : ofSo L n j k) (hn : L[j].who ≠ n) : ofSo L n (j + 1) k := by
  rcases h with h | ⟨h, rfl⟩
  · exact .inl h
  · refine .inr ⟨fun i hi hij => ?_, rfl⟩
    rcases Nat.lt_succ_iff_lt_or_eq.1 hij with h' | rfl
    · exact h i hi h'
    · exact hn
theorem ofSo_up {L : List Flo} (hG : Good0 L) {n : List UInt8} {j : Nat} {k : Int} (hj : j < L.length) (h : ofSo L n j k) (hn : L[j].who = n) : ofSo L n (j + 1) (if k < L[j].ep then L[j].ep else k) := by
  have h1 : ofF L n = L[j].ep := by rw [← hn]; exact ofF_mem hG (List.getElem_mem hj)
  have h2 := ofF_top hG n
  refine .inl ?_
  rcases h with rfl | ⟨_, rfl⟩
  · split <;> omega
  · split <;> omega
theorem ofSo_end {L : List Flo} {n : List UInt8} {j : Nat} {k : Int} (hj : L.length ≤ j) (h : ofSo L n j k) : k = ofF L n := by
  rcases h with rfl | ⟨h, rfl⟩
  · rfl
  · refine (ofF_not fun g hg => ?_).symm
    obtain ⟨i, hi, rfl⟩ := List.getElem_of_mem hg
    exact h i hi (by omega)
set_option maxRecDepth 100000 in
theorem ofR_flo (v : Value) (L : List Flo) (n : List UInt8) (w : World) (hv : FloorsAt w v L) (hG : Good0 L) :
    Calls Tryz.prog 166 #[v, .string (bs n)] w fun e w' => e = .returned (.int .i64 (ofF L n)) ∧ w = w' := by
  have htop := Lib.hid (topR_flo v L w hv)
  obtain ⟨a, c, rfl, hlen, _, hc⟩ := hv
  unfold maxLen at hlen
  have hc := Lib.hid hc
  have hG := Lib.hid hG
  go_enter Tryz.func166, Tryz.ntmps166
  go_wp2_with fail
  refine htop.out.mono ?_
  rintro e w1 ⟨rfl, rfl⟩
  clear htop
  go_wp2_with fail
  go_loopw [5, 6] (fun k i wr => ∃ j : Nat, j ≤ L.length ∧ i = .int .i64 j ∧ (∃ x, k = .int .i64 x ∧ Hid (ofSo L n j x)) ∧ wr = w) (fun _ i _ => L.length - (intOf i).toNat)
  case atStart => exact ⟨0, Nat.zero_le _, rfl, ⟨_, rfl, Lib.hid (ofSo_start L n)⟩, rfl⟩
  case round =>
    obtain ⟨j, hj, rfl, ⟨x, rfl, hso⟩, rfl⟩ := hrel
    by_cases hlt : j < L.length
    · obtain ⟨b, o, rfl, h0, h1⟩ := hc.out j hlt
      have hk0 : (0 : Int) ≤ (j : Int) := by omega
      have hk1 : (j : Int) < (L.length : Int) := by omega
      have hskip := fun h : L[j].who ≠ n => ofSo_skip hlt hso.out h
      have hupp := fun h : L[j].who = n => ofSo_up hG.out hlt hso.out h
      obtain ⟨q, hqd⟩ : ∃ q, L[j] = q := ⟨_, rfl⟩
      rw [hqd] at h0 h1 hskip hupp
      clear hqd
      obtain ⟨qw, qe⟩ := q
      dsimp only at h0 h1 hskip hupp
      by_cases hq : qw = n
      · have hup := hupp hq
        by_cases hx : x < qe
        · rw [if_pos hx] at hup
          have hup := Lib.hid hup
          clear hskip hupp
          go_wp2_with fail
          exact ⟨⟨j + 1, hlt, by simp, ⟨_, rfl, hup⟩, by trivial⟩, by simp [intOf]; omega⟩
        · rw [if_neg hx] at hup
          have hup := Lib.hid hup
          clear hskip hupp
          go_wp2_with fail
          exact ⟨⟨j + 1, hlt, by simp, ⟨_, rfl, hup⟩, by trivial⟩, by simp [intOf]; omega⟩
      · have hup := Lib.hid (hskip hq)
        have hs1 : ¬ (bs qw).toList = (bs n).toList := by rw [toList_data, toList_data, bs_list, bs_list]; exact hq
        have hs2 : ((bs qw).toList == (bs n).toList) = false := beq_eq_false_iff_ne.2 hs1
        clear hskip hupp
        go_wp2_with fail
        exact ⟨⟨j + 1, hlt, by simp, ⟨_, rfl, hup⟩, by trivial⟩, by simp [intOf]; omega⟩
    · have hr := Lib.hid (ofSo_end (by omega) hso.out)
      have hge : ¬ ((j : Int) < (L.length : Int)) := by omega
      go_wp2_with fail
      go_ret
      exact ⟨ret_int hr.out, rfl⟩
end Go.Proofs.YtkhphdkjnpcnnaaGreatDoor

/- The reference's floors: FloorsFault by a contract. -/
namespace Go.Proofs.YtkhphdkjnpcnnaaGreatDoor
open Go.RowKit

def faultF (c : Nat) (a : Int) : Value := .agg #[.int .i64 (c : Int), .int .i64 a]
set_option maxRecDepth 100000 in
theorem bareF_any (c : Int) (w : World) :
    Calls Tryz.prog 93 #[.int .i64 c] w fun e w' => e = .returned (.agg #[.int .i64 c, .int .i64 (-1)]) ∧ Below w.heap.size w w' := by
  go_enter Tryz.func93, Tryz.ntmps93
  go_wp2_with fail
  exact bodyPost_ret (v := .agg #[.int .i64 c, .int .i64 (-1)]) (by simp [results, Tryz.results93, go_sem]) rfl ⟨rfl, (Below.refl _ _).alloc (Nat.le_refl _) _⟩
set_option maxRecDepth 100000 in
theorem fineF_any (w : World) :
    Calls Tryz.prog 132 #[] w fun e w' => e = .returned (.agg #[.int .i64 0, .int .i64 (-1)]) ∧ Below w.heap.size w w' := by
  go_enter Tryz.func132, Tryz.ntmps132
  go_wp2_with fail
  exact bodyPost_ret (v := .agg #[.int .i64 0, .int .i64 (-1)]) (by simp [results, Tryz.results132, go_sem]) rfl ⟨rfl, (Below.refl _ _).alloc (Nat.le_refl _) _⟩
/-- The cell of a result that is a fault. -/
def FBox (w0 w : World) : Prop := w.heap[w0.heap.size]? = some (.cells #[.int .i64 0, .int .i64 0] 98 (0, 0)) ∧ Below w0.heap.size w0 w
theorem FBox.below {w0 w w' : World} (h : FBox w0 w) (hb : Below w.heap.size w w') : FBox w0 w' := ⟨heap_down hb h.1, below_trans h.2 hb⟩
theorem FBox.cells {w0 w : World} (h : FBox w0 w) : (w.cell? ⟨w0.heap.size, 0, none⟩ = some (.int .i64 0) ∧ w.cell? ⟨w0.heap.size, 1, none⟩ = some (.int .i64 0)) ∧ (w.frozen? ⟨w0.heap.size, 0, none⟩ = false ∧ w.frozen? ⟨w0.heap.size, 1, none⟩ = false) := two_kept (Below.refl _ _) h.1
theorem FBox.set {w0 w : World} (h : FBox w0 w) (v0 v1 : Value) : let x := (w.setCell ⟨w0.heap.size, 0, none⟩ v0).setCell ⟨w0.heap.size, 1, none⟩ v1
    (x.cell? ⟨w0.heap.size, 0, none⟩ = some v0 ∧ x.cell? ⟨w0.heap.size, 1, none⟩ = some v1) ∧ Below w0.heap.size w0 x :=
  ⟨(two_kept (Below.refl _ _) (row_set2 h.1 v0 v1)).1, below_set2 h.2 (Nat.le_refl _) _ _⟩
set_option maxHeartbeats 4000000 in
set_option maxRecDepth 100000 in
theorem faultsR_flo (v : Value) (L : List Flo) (w : World) (hv : FloorsAt w v L) (hm : ∀ f ∈ L, f.who.length ≤ maxLen) :
    Calls Tryz.prog 133 #[v] w fun e w' => e = .returned (faultF (checkF L).1 (checkF L).2) ∧ Below w.heap.size w w' := by
  have hv0 := Lib.hid hv
  have hB0 : FBox w (w.alloc (.cells #[.int .i64 0, .int .i64 0] 98)) := ⟨heap_alloc_new w _, (Below.refl _ _).alloc (Nat.le_refl _) _⟩
  obtain ⟨a, c, rfl, hlen, _, hc⟩ := hv
  unfold maxLen at hlen
  by_cases h21 : 21 < L.length
  · have hr := Lib.hid (checkF_full h21)
    have h21' : (21 : Int) < (L.length : Int) := by omega
    have hba := Lib.hid (bareF_any 7 (w.alloc (.cells #[.int .i64 0, .int .i64 0] 98)))
    have hB0 := Lib.hid hB0
    clear hc
    go_enter Tryz.func133, Tryz.ntmps133
    go_wp2_with fail
    refine hba.out.mono ?_
    rintro e w1 ⟨rfl, hb1⟩
    have hB1 := hB0.out.below hb1
    obtain ⟨⟨r0, r1⟩, f0, f1⟩ := hB1.cells
    obtain ⟨⟨q0, q1⟩, hfin⟩ := hB1.set (.int .i64 7) (.int .i64 (-1))
    have hfin := Lib.hid hfin
    have hq := Lib.hid (And.intro q0 q1)
    clear q0 q1 hb1 hB1
    go_wp2_with fail
    obtain ⟨q0, q1⟩ := hq.out
    exact bodyPost_ret (v := .agg #[.int .i64 7, .int .i64 (-1)]) (by simp [results, Tryz.results133, go_sem, q0, q1]) rfl ⟨by rw [hr.out]; rfl, hfin.out⟩
  have h21' : ¬ (21 : Int) < (L.length : Int) := by omega
  have hc := Lib.hid hc
  have hm := Lib.hid hm
  have htop := Lib.hid (fun wx (hx : Below w.heap.size w wx) => topR_flo _ L wx (hv0.out.below hx))
  have hri := Lib.hid (fun (f : Flo) wx (hl : f.who.length ≤ maxLen) => oneR_flo f wx hl)
  have hB0 := Lib.hid hB0
  go_enter Tryz.func133, Tryz.ntmps133
  go_wp2_with fail
  go_loopg [3] (L.length + 1) (fun g i wr => ∃ j : Nat, i = .int .i64 j ∧ j ≤ L.length ∧ L.length - j + 1 ≤ g ∧ Hid (∀ i, i < j → errAtF L i = 0) ∧ Hid (FBox w wr))
  case atStart => exact ⟨0, rfl, Nat.zero_le _, by omega, Lib.hid (fun _ h => absurd h (Nat.not_lt_zero _)), hB0⟩
  case round =>
    obtain ⟨j, rfl, hj, hgj, hall, hK⟩ := hrel
    by_cases hlt : j < L.length
    · obtain ⟨b, o, rfl, hc0, hc1⟩ := hc.out j hlt
      have hc0 := cell_below hK.out.2 hc0
      have hc1 := cell_below hK.out.2 hc1
      have hk0 : (0 : Int) ≤ (j : Int) := by omega
      have hk1 : (j : Int) < (L.length : Int) := by omega
      have hri := Lib.hid (hri.out L[j] wr (hm.out _ (List.getElem_mem hlt)))
      have hat := Lib.hid (show errAtF L j = errF L j L[j] by unfold errAtF; rw [getD_get hlt])
      have hbad := Lib.hid (fun (hb : errAtF L j ≠ 0) => checkF_some (by omega) j hlt hb hall.out)
      have hnext := Lib.hid (show errAtF L j = 0 → ∀ i, i < j + 1 → errAtF L i = 0 from fun hb i hi => by
        rcases Nat.lt_succ_iff_lt_or_eq.1 hi with h' | rfl
        · exact hall.out i h'
        · exact hb)
      cases ho : oneF L[j] with
      | succ cd =>
        have hr := Lib.hid (show checkF L = (cd + 1, (j : Int)) by
          have h1 : errAtF L j = cd + 1 := by rw [hat.out, errF_one (by rw [ho]; exact Nat.succ_ne_zero _), ho]
          rw [hbad.out (by rw [h1]; exact Nat.succ_ne_zero _), h1])
        rw [ho] at hri
        have hz : (((cd + 1 : Nat) : Int) == 0) = false := by rw [beq_eq_false_iff_ne]; omega
        have hz1 : (0 : Int) < ((cd + 1 : Nat) : Int) := by omega
        have hz2 : ¬ ((cd + 1 : Nat) : Int) = 0 := by omega
        clear ho
        have hzH := Lib.hid (show (((cd + 1 : Nat) : Int)) = ((cd + 1 : Nat) : Int) from rfl)
        generalize hzd : ((cd + 1 : Nat) : Int) = z at hri hz hz1 hz2
        have hzd := Lib.hid hzd
        clear hzH
        go_wp2_with fail
        refine hri.out.mono ?_
        rintro e w1 ⟨rfl, hb1⟩
        have hB1 := hK.out.below hb1
        obtain ⟨⟨r0, r1⟩, f0, f1⟩ := hB1.cells
        have hBd := Lib.hid (fun n => (hB1.below (below_drawn (Below.refl _ _) n)).set (.int .i64 z) (.int .i64 (j : Int)))
        clear hb1 hB1 hc0 hc1
        go_wp2_with fail
        go_quiet (fail)
        go_wp2_with fail
        exact bodyPost_ret (v := .agg #[.int .i64 z, .int .i64 (j : Int)]) (by simp [results, Tryz.results133, go_sem, (hBd.out _).1]) rfl ⟨by rw [hr.out]; unfold faultF; rw [← hzd.out], (hBd.out _).2⟩
      | zero =>
        have ho2 := ho
        rw [ho, show ((0 : Nat) : Int) = 0 from rfl] at hri
        clear ho
        by_cases hord : 0 < j ∧ ¬ ((L.getD (j - 1) ⟨[], 0⟩).who < L[j].who)
        case pos =>
          have hr := Lib.hid (show checkF L = (8, (j : Int)) by
            have h1 : errAtF L j = 8 := by rw [hat.out, errF_order ho2 hord]
            rw [hbad.out (by rw [h1]; decide), h1])
          cases j with
          | zero => exact absurd hord.1 (Nat.lt_irrefl _)
          | succ q =>
            have hq : q < L.length := by omega
            obtain ⟨b', o', hbo, hp0, _⟩ := hc.out q hq
            cases hbo
            have hp0 := cell_below hK.out.2 hp0
            have hno : ¬ (L[q].who < L[q + 1].who) := by have := hord.2; rw [Nat.add_sub_cancel, getD_get hq] at this; exact this
            have hk3 : (q : Int) < (L.length : Int) := by omega
            have hk4 : (0 : Int) ≤ (q : Int) := by omega
            have hle : Op.bytesLess (bs L[q + 1].who).toList (bs L[q].who).toList = true ∨ (Op.bytesLess (bs L[q + 1].who).toList (bs L[q].who).toList = false ∧ ((bs L[q + 1].who).toList == (bs L[q].who).toList) = true) := by
              rw [bs_less, bs_same]
              by_cases he : L[q + 1].who = L[q].who
              · exact .inr ⟨decide_eq_false (by rw [he]; exact List.lt_irrefl _), decide_eq_true he⟩
              · exact .inl (decide_eq_true (lt_total hno (fun e => he e.symm)))
            clear hord ho2 hno
            rcases hle with hle | ⟨hle, hle2⟩
            all_goals
              go_wp2_with fail
              refine hri.out.mono ?_
              rintro e w1 ⟨rfl, hb1⟩
              have hc0 := cell_below hb1 hc0
              have hp0 := cell_below hb1 hp0
              have hB1 := hK.out.below hb1
              obtain ⟨⟨r0, r1⟩, f0, f1⟩ := hB1.cells
              have hBd := Lib.hid (fun n => (hB1.below (below_drawn (Below.refl _ _) n)).set (.int .i64 8) (.int .i64 ((q : Int) + 1)))
              clear hb1 hB1 hc1
              go_wp2_with fail
              go_quiet (fail)
              go_wp2_with fail
              go_quiet (fail)
              go_wp2_with fail
              exact bodyPost_ret (v := .agg #[.int .i64 8, .int .i64 ((q : Int) + 1)]) (by simp [results, Tryz.results133, go_sem, (hBd.out _).1]) rfl ⟨by rw [hr.out]; rfl, (hBd.out _).2⟩
        case neg =>
          have hlast := errF_last ho2 hord
          have hstep : ∃ q : Nat, j = 0 ∨ (j = q + 1 ∧ ∃ hq : q < L.length, L[q].who < L[j].who) := by
            cases j with
            | zero => exact ⟨0, .inl rfl⟩
            | succ q =>
              have hq : q < L.length := by omega
              refine ⟨q, .inr ⟨rfl, hq, ?_⟩⟩
              rcases Classical.em (L[q].who < L[q + 1].who) with h | h
              · exact h
              · exact absurd ⟨by omega, by rw [Nat.add_sub_cancel, getD_get hq]; exact h⟩ hord
          clear hord
          obtain ⟨q, hstep⟩ := hstep
          by_cases hs : L[j].who = starW
          · have h0 : errAtF L j = 0 := by rw [hat.out, hlast, if_neg (fun h => h.1 hs)]
            have hall2 := Lib.hid (hnext.out h0)
            have e1 : ((bs L[j].who).toList == [42]) = true := by rw [hs, toList_data]; rfl
            clear hlast hs h0 ho2
            rcases hstep with hz | ⟨hz, hq, hlt2⟩
            · subst hz
              simp only [Nat.zero_mul, Nat.add_zero] at hc0 hc1
              go_wp2_with fail
              refine hri.out.mono ?_
              rintro e w1 ⟨rfl, hb1⟩
              have hc0 := cell_below hb1 hc0
              have hc1 := cell_below hb1 hc1
              have hB1 := Lib.hid (hK.out.below hb1)
              clear hb1
              obtain ⟨⟨r0, r1⟩, f0, f1⟩ := hB1.out.cells
              go_wp2_with fail
              go_quiet (fail)
              go_wp2_with fail
              go_roundg (L.length - (0))
              case measure => omega
              case rel => exact ⟨0 + 1, by simp, hlt, by omega, hall2, Lib.hid (hB1.out.below (below_drawn (Below.refl _ _) _))⟩
            · subst hz
              obtain ⟨b', o', hbo, hp0, _⟩ := hc.out q hq
              cases hbo
              have hp0 := cell_below hK.out.2 hp0
              have hk3 : (q : Int) < (L.length : Int) := by omega
              have hk4 : (0 : Int) ≤ (q : Int) := by omega
              have hle : Op.bytesLess (bs L[q + 1].who).toList (bs L[q].who).toList = false := by rw [bs_less]; exact decide_eq_false (fun h => List.lt_irrefl _ (List.lt_trans h hlt2))
              have hle2 : ((bs L[q + 1].who).toList == (bs L[q].who).toList) = false := by rw [bs_same]; exact decide_eq_false (fun h => by rw [h] at hlt2; exact List.lt_irrefl _ hlt2)
              clear hlt2
              go_wp2_with fail
              refine hri.out.mono ?_
              rintro e w1 ⟨rfl, hb1⟩
              have hc0 := cell_below hb1 hc0
              have hc1 := cell_below hb1 hc1
              have hp0 := cell_below hb1 hp0
              have hB1 := Lib.hid (hK.out.below hb1)
              clear hb1
              obtain ⟨⟨r0, r1⟩, f0, f1⟩ := hB1.out.cells
              go_wp2_with fail
              go_quiet (fail)
              go_wp2_with fail
              go_quiet (fail)
              go_wp2_with fail
              go_roundg (L.length - (q + 1))
              case measure => omega
              case rel => exact ⟨q + 1 + 1, by simp, hlt, by omega, hall2, Lib.hid (hB1.out.below (below_drawn (Below.refl _ _) _))⟩
          · have e1 : ((bs L[j].who).toList == [42]) = false := by rw [toList_data, bs_list, beq_eq_false_iff_ne]; exact hs
            have e2 : ((bs L[j].who).toList != [42]) = true := by rw [bne, e1]; rfl
            by_cases hlow : L[j].ep ≤ topF L
            · have hr := Lib.hid (show checkF L = (3, (j : Int)) by
                have h1 : errAtF L j = 3 := by rw [hat.out, hlast, if_pos ⟨hs, hlow⟩]
                rw [hbad.out (by rw [h1]; decide), h1])
              clear hlast hs ho2
              generalize topF L = tp at *
              rcases hstep with hz | ⟨hz, hq, hlt2⟩
              · subst hz
                simp only [Nat.zero_mul, Nat.add_zero] at hc0 hc1
                go_wp2_with fail
                refine hri.out.mono ?_
                rintro e w1 ⟨rfl, hb1⟩
                have hc0 := cell_below hb1 hc0
                have hc1 := cell_below hb1 hc1
                have hB1 := Lib.hid (hK.out.below hb1)
                clear hb1
                obtain ⟨⟨r0, r1⟩, f0, f1⟩ := hB1.out.cells
                go_wp2_with fail
                go_quiet ((go_at_call 168; exact (htop.out _ (below_drawn hB1.out.2 _)).mono fun e w' h => ⟨h.1, _, h.2.symm⟩))
                go_wp2_with fail
                have hBd := Lib.hid (fun n => (hB1.out.below (below_drawn (Below.refl _ _) n)).set (.int .i64 3) (.int .i64 (0)))
                exact bodyPost_ret (v := .agg #[.int .i64 3, .int .i64 (0)]) (by simp [results, Tryz.results133, go_sem, (hBd.out _).1]) rfl ⟨by rw [hr.out]; rfl, (hBd.out _).2⟩
              · subst hz
                obtain ⟨b', o', hbo, hp0, _⟩ := hc.out q hq
                cases hbo
                have hp0 := cell_below hK.out.2 hp0
                have hk3 : (q : Int) < (L.length : Int) := by omega
                have hk4 : (0 : Int) ≤ (q : Int) := by omega
                have hle : Op.bytesLess (bs L[q + 1].who).toList (bs L[q].who).toList = false := by rw [bs_less]; exact decide_eq_false (fun h => List.lt_irrefl _ (List.lt_trans h hlt2))
                have hle2 : ((bs L[q + 1].who).toList == (bs L[q].who).toList) = false := by rw [bs_same]; exact decide_eq_false (fun h => by rw [h] at hlt2; exact List.lt_irrefl _ hlt2)
                clear hlt2
                go_wp2_with fail
                refine hri.out.mono ?_
                rintro e w1 ⟨rfl, hb1⟩
                have hc0 := cell_below hb1 hc0
                have hc1 := cell_below hb1 hc1
                have hp0 := cell_below hb1 hp0
                have hB1 := Lib.hid (hK.out.below hb1)
                clear hb1
                obtain ⟨⟨r0, r1⟩, f0, f1⟩ := hB1.out.cells
                go_wp2_with fail
                go_quiet (fail)
                go_wp2_with fail
                go_quiet ((go_at_call 168; exact (htop.out _ (below_drawn hB1.out.2 _)).mono fun e w' h => ⟨h.1, _, h.2.symm⟩))
                go_wp2_with fail
                have hBd := Lib.hid (fun n => (hB1.out.below (below_drawn (Below.refl _ _) n)).set (.int .i64 3) (.int .i64 ((q : Int) + 1)))
                exact bodyPost_ret (v := .agg #[.int .i64 3, .int .i64 ((q : Int) + 1)]) (by simp [results, Tryz.results133, go_sem, (hBd.out _).1]) rfl ⟨by rw [hr.out]; rfl, (hBd.out _).2⟩
            · have h0 : errAtF L j = 0 := by rw [hat.out, hlast, if_neg (fun h => hlow h.2)]
              have hall2 := Lib.hid (hnext.out h0)
              clear hlast hs h0 ho2
              generalize topF L = tp at *
              have hlow2 : decide (L[j].ep ≤ tp) = false := decide_eq_false hlow
              clear hlow
              rcases hstep with hz | ⟨hz, hq, hlt2⟩
              · subst hz
                simp only [Nat.zero_mul, Nat.add_zero] at hc0 hc1
                go_wp2_with fail
                refine hri.out.mono ?_
                rintro e w1 ⟨rfl, hb1⟩
                have hc0 := cell_below hb1 hc0
                have hc1 := cell_below hb1 hc1
                have hB1 := Lib.hid (hK.out.below hb1)
                clear hb1
                obtain ⟨⟨r0, r1⟩, f0, f1⟩ := hB1.out.cells
                go_wp2_with fail
                go_quiet ((go_at_call 168; exact (htop.out _ (below_drawn hB1.out.2 _)).mono fun e w' h => ⟨h.1, _, h.2.symm⟩))
                go_wp2_with fail
                go_roundg (L.length - (0))
                case measure => omega
                case rel => exact ⟨0 + 1, by simp, hlt, by omega, hall2, Lib.hid (hB1.out.below (below_drawn (Below.refl _ _) _))⟩
              · subst hz
                obtain ⟨b', o', hbo, hp0, _⟩ := hc.out q hq
                cases hbo
                have hp0 := cell_below hK.out.2 hp0
                have hk3 : (q : Int) < (L.length : Int) := by omega
                have hk4 : (0 : Int) ≤ (q : Int) := by omega
                have hle : Op.bytesLess (bs L[q + 1].who).toList (bs L[q].who).toList = false := by rw [bs_less]; exact decide_eq_false (fun h => List.lt_irrefl _ (List.lt_trans h hlt2))
                have hle2 : ((bs L[q + 1].who).toList == (bs L[q].who).toList) = false := by rw [bs_same]; exact decide_eq_false (fun h => by rw [h] at hlt2; exact List.lt_irrefl _ hlt2)
                clear hlt2
                go_wp2_with fail
                refine hri.out.mono ?_
                rintro e w1 ⟨rfl, hb1⟩
                have hc0 := cell_below hb1 hc0
                have hc1 := cell_below hb1 hc1
                have hp0 := cell_below hb1 hp0
                have hB1 := Lib.hid (hK.out.below hb1)
                clear hb1
                obtain ⟨⟨r0, r1⟩, f0, f1⟩ := hB1.out.cells
                go_wp2_with fail
                go_quiet (fail)
                go_wp2_with fail
                go_quiet ((go_at_call 168; exact (htop.out _ (below_drawn hB1.out.2 _)).mono fun e w' h => ⟨h.1, _, h.2.symm⟩))
                go_wp2_with fail
                go_roundg (L.length - (q + 1))
                case measure => omega
                case rel => exact ⟨q + 1 + 1, by simp, hlt, by omega, hall2, Lib.hid (hB1.out.below (below_drawn (Below.refl _ _) _))⟩
    · have hr := Lib.hid (show checkF L = (0, -1) from checkF_none (by omega) fun i hi => hall.out i (by omega))
      have hge : ¬ ((j : Int) < (L.length : Int)) := by omega
      have hfi := Lib.hid (fineF_any wr)
      go_wp2_with fail
      refine hfi.out.mono ?_
      rintro e w1 ⟨rfl, hb1⟩
      have hB1 := hK.out.below hb1
      obtain ⟨⟨r0, r1⟩, f0, f1⟩ := hB1.cells
      obtain ⟨⟨q0, q1⟩, hfin⟩ := hB1.set (.int .i64 0) (.int .i64 (-1))
      have hfin := Lib.hid hfin
      have hq := Lib.hid (And.intro q0 q1)
      clear q0 q1 hb1 hB1
      go_wp2_with fail
      obtain ⟨q0, q1⟩ := hq.out
      exact bodyPost_ret (v := .agg #[.int .i64 0, .int .i64 (-1)]) (by simp [results, Tryz.results133, go_sem, q0, q1]) rfl ⟨by rw [hr.out]; rfl, hfin.out⟩
end Go.Proofs.YtkhphdkjnpcnnaaGreatDoor
