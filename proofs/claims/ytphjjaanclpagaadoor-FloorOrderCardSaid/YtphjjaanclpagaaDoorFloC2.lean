/- floor.Raise's second closure; slices.BinarySearchFunc at floors: walked. -/
import Derived.Test.YtphjjaanclpagaaDoorFloC
import Derived.Laws.Shifts
import Derived.IntWalk
import Derived.Deep.RegionHeld3
import Derived.Deep.QuietTactic
import Derived.BigQuiet
namespace Go.Proofs.YtphjjaanclpagaaDoor
open Go.RowKit Go.Shelf Go.Lib

set_option maxRecDepth 100000 in
theorem raise2_cmp (f g : Flo) (w : World) :
    Calls Tryd.prog 58 #[f.val, g.val] w fun e w' => e = .returned (.int .i64 (compareBytes f.who g.who)) ∧ Below w.heap.size w w' := by
  obtain ⟨fw, fe⟩ := f
  obtain ⟨gw, ge⟩ := g
  dsimp only [Flo.val]
  have hB := ((Below.refl w.heap.size w).alloc (Nat.le_refl _) (.cells #[.string (bs fw), .int .i64 fe] 39)).alloc (by simp) (.cells #[.string (bs gw), .int .i64 ge] 39)
  have c0 : ((w.alloc (.cells #[.string (bs fw), .int .i64 fe] 39)).alloc (.cells #[.string (bs gw), .int .i64 ge] 39)).cell? ⟨w.heap.size, 0, none⟩ = some (.string (bs fw)) := by
    rw [World.cell?_alloc_lt _ _ _ (by simp)]; simp
  have c1 : ((w.alloc (.cells #[.string (bs fw), .int .i64 fe] 39)).alloc (.cells #[.string (bs gw), .int .i64 ge] 39)).cell? ⟨w.heap.size + 1, 0, none⟩ = some (.string (bs gw)) := by
    have := World.cell?_alloc_new (w.alloc (.cells #[.string (bs fw), .int .i64 fe] 39)) #[.string (bs gw), .int .i64 ge] 39 0
    rw [World.size_alloc] at this
    exact this
  have hc := Lib.hid (fun wx => compare_str fw gw wx)
  generalize compareBytes fw gw = cc at *
  go_enter Tryd.func58, Tryd.ntmps58
  go_wp2_with fail
  refine (hc.out _).mono ?_
  rintro e w1 ⟨rfl, rfl⟩
  go_wp2_with fail
  go_ret
  exact ⟨rfl, hB⟩
/-- Where a floor is set: behind all that are less. -/
def lessF (L : List Flo) (n : List UInt8) : Nat := (L.takeWhile (fun q => decide (q.who < n))).length
theorem lessF_le (L : List Flo) (n : List UInt8) : lessF L n ≤ L.length := (List.takeWhile_sublist _).length_le
theorem lessF_at {L : List Flo} {n : List UInt8} {j : Nat} (hj : j ≤ L.length) (ha : ∀ q (hq : q < L.length), q < j → L[q].who < n) (he : ∀ h : j < L.length, ¬ L[j].who < n) : lessF L n = j := by
  unfold lessF
  induction L generalizing j with
  | nil => simp at hj; subst hj; rfl
  | cons p L ih =>
    cases j with
    | zero =>
      have := he (by simp)
      rw [List.takeWhile_cons_of_neg (by simpa using this)]
      rfl
    | succ j =>
      have h0 := ha 0 (by simp) (by omega)
      rw [List.takeWhile_cons_of_pos (by simpa using h0), List.length_cons, ih (j := j) (by simpa using hj) (fun q hq hqj => ha (q + 1) (by simpa using hq) (by omega)) (fun h => he (by simpa using h))]
theorem insF_less (f : Flo) (L : List Flo) {k : Nat} (hk : k ≤ L.length) (h1 : ∀ q (h : q < L.length), q < k → L[q].who < f.who) (h2 : ∀ h : k < L.length, ¬ L[k].who < f.who) :
    insF f L = L.take k ++ f :: L.drop k ∧ lessF L f.who = k := ⟨insF_at f L k hk h1 h2, lessF_at hk h1 h2⟩
theorem who_le_of_sorted {L : List Flo} (hs : L.Pairwise (fun f g => f.who < g.who)) {i j : Nat} (hij : i ≤ j) (hj : j < L.length) {n : List UInt8} (h : ¬ L[i].who < n) : ¬ L[j].who < n := by
  rcases Nat.lt_or_eq_of_le hij with h1 | h1
  · intro h2
    exact h (List.lt_trans (List.pairwise_iff_getElem.1 hs i j (by omega) hj h1) h2)
  · subst h1
    exact h
theorem who_lt_of_sorted {L : List Flo} (hs : L.Pairwise (fun f g => f.who < g.who)) {i j : Nat} (hij : i ≤ j) (hj : j < L.length) {n : List UInt8} (h : L[j].who < n) : L[i].who < n := by
  rcases Nat.lt_or_eq_of_le hij with h1 | h1
  · exact List.lt_trans (List.pairwise_iff_getElem.1 hs i j (by omega) hj h1) h
  · subst h1
    exact h
theorem shr_half (lo hi : Nat) (w : World) : (binOp .shr 142 (.int .u64 ((lo : Int) + (hi : Int))) (.int .u64 1)).run Tryd.prog w = .ok (.int .u64 (((lo + hi) / 2 : Nat) : Int)) w := by
  go_simp
set_option maxHeartbeats 4000000 in
set_option maxRecDepth 100000 in
theorem bsearch_flo (v : Value) (L : List Flo) (f : Flo) (w : World) (hv : FloorsAt w v L) (hL : L.length ≤ 1000) (hs : L.Pairwise (fun f g => f.who < g.who)) :
    Calls Tryd.prog 57 #[v, f.val, .func (.func 58) #[] #[]] w fun e w' => ∃ b, e = .returned (.tuple #[.int .i64 (lessF L f.who : Nat), .bool b]) ∧ Below w.heap.size w w' := by
  obtain ⟨a, c, rfl, hlen, _, hc⟩ := hv
  obtain ⟨fw, fe⟩ := f
  dsimp only [Flo.val]
  have hcH := Lib.hid hc
  have hsH := Lib.hid hs
  clear hc hs
  have hcm := Lib.hid (fun (g : Flo) wx => raise2_cmp g ⟨fw, fe⟩ wx)
  have hA : Below w.heap.size w (w.alloc (.cells #[.string (bs fw), .int .i64 fe] 39)) := (Below.refl _ _).alloc (Nat.le_refl _) _
  have b0 : (w.alloc (.cells #[.string (bs fw), .int .i64 fe] 39)).cell? ⟨w.heap.size, 0, none⟩ = some (.string (bs fw)) := by simp
  have b1 : (w.alloc (.cells #[.string (bs fw), .int .i64 fe] 39)).cell? ⟨w.heap.size, 1, none⟩ = some (.int .i64 fe) := by simp
  have b0 := Lib.hid b0
  have b1 := Lib.hid b1
  have hA := Lib.hid hA
  dsimp only [Flo.val] at hcm
  go_enter Tryd.func57, Tryd.ntmps57
  go_wp2_with fail
  go_loopg [9, 10] (L.length + 1) (fun g8 i j wr => ∃ lo hi : Nat, i = .int .i64 lo ∧ j = .int .i64 hi ∧ lo ≤ hi ∧ hi ≤ L.length ∧ hi - lo + 1 ≤ g8 ∧ Hid ((∀ q (h : q < L.length), q < lo → L[q].who < fw) ∧ (∀ q (h : q < L.length), hi ≤ q → ¬ L[q].who < fw)) ∧ Hid (Below (w.alloc (.cells #[.string (bs fw), .int .i64 fe] 39)).heap.size (w.alloc (.cells #[.string (bs fw), .int .i64 fe] 39)) wr))
  case atStart => exact ⟨0, L.length, rfl, rfl, Nat.zero_le _, Nat.le_refl _, by omega, Lib.hid ⟨fun _ _ h => absurd h (Nat.not_lt_zero _), fun q h h2 => by omega⟩, Lib.hid (Below.refl _ _)⟩
  case round =>
    obtain ⟨lo, hi, rfl, rfl, hlh, hhn, hg, hI, hK⟩ := hrel
    have d0 := cell_below hK.out b0.out
    have d1 := cell_below hK.out b1.out
    have hKw := Lib.hid (below_trans hA.out hK.out)
    by_cases hlt : lo < hi
    · obtain ⟨M, hM⟩ : ∃ M, M = (lo + hi) / 2 := ⟨_, rfl⟩
      have a1 : lo ≤ M := by omega
      have a2 : M < hi := by omega
      have hm : M < L.length := by omega
      have hMH := Lib.hid hM
      have hM2 : ((lo : Int) + (hi : Int)) / 2 = (M : Int) := by omega
      have hk0 : (0 : Int) ≤ (M : Int) := by omega
      have hk1 : (M : Int) < (L.length : Int) := by omega
      clear hM
      obtain ⟨b, o, rfl, h0, h1⟩ := hcH.out M hm
      have h0 := cell_below hKw.out h0
      have h1 := cell_below hKw.out h1
      have hcmx := hcm.out L[M]
      have hcv := compare_neg L[M].who fw
      generalize hq : L[M] = q at *
      obtain ⟨qw, qe⟩ := q
      dsimp only at h0 h1 hcv hcmx
      generalize compareBytes qw fw = cc at *
      have hqH := Lib.hid hq
      clear hq
      have hk5 := Lib.hid (fun (wx : World) (hx : Below wr.heap.size wr wx) => (show Below wr.heap.size wr wx ∧ wx.cell? ⟨w.heap.size, 0, none⟩ = some (.string (bs fw)) ∧ wx.cell? ⟨w.heap.size, 1, none⟩ = some (.int .i64 fe) ∧ wx.cell? ⟨b, o + M * 2, none⟩ = some (.string (bs qw)) ∧ wx.cell? ⟨b, o + M * 2 + 1, none⟩ = some (.int .i64 qe) from ⟨hx, cell_below hx d0, cell_below hx d1, cell_below hx h0, cell_below hx h1⟩))
      have hS : Below wr.heap.size wr wr := Below.refl _ _
      by_cases hx : qw < fw
      · have hcn : cc < 0 := hcv.2 hx
        have hI2 : Hid ((∀ q (h : q < L.length), q < M + 1 → L[q].who < fw) ∧ (∀ q (h : q < L.length), hi ≤ q → ¬ L[q].who < fw)) :=
          Lib.hid ⟨fun q h hlt2 => who_lt_of_sorted hsH.out (show q ≤ M by omega) hm (by rw [hqH.out]; exact hx), hI.out.2⟩
        clear hcv hx hI
        go_wp2_with fail
        go_region_held3 (fun w' => Below wr.heap.size wr w' ∧ w'.cell? ⟨w.heap.size, 0, none⟩ = some (.string (bs fw)) ∧ w'.cell? ⟨w.heap.size, 1, none⟩ = some (.int .i64 fe) ∧ w'.cell? ⟨b, o + M * 2, none⟩ = some (.string (bs qw)) ∧ w'.cell? ⟨b, o + M * 2 + 1, none⟩ = some (.int .i64 qe))
          ((refine hk5.out _ ?_; (first | exact hS | exact hS.drew)))
          ((refine (hcmx _).mono ?_; rintro e w' ⟨rfl, hbx⟩; have hS : Below wr.heap.size wr w' := below_trans (by first | exact hS | exact hS.drew) hbx))
        have hK2 := Lib.hid (hK.out.trans (Below.mono (by first | exact hS | exact hS.drew) hK.out.size))
        go_wp2_with fail
        go_roundg (hi - (M + 1) + 1)
        case measure => omega
        case rel => exact ⟨M + 1, hi, by simp, rfl, by omega, hhn, by omega, hI2, hK2⟩
      · have hcn : ¬ cc < 0 := fun h => hx (hcv.1 h)
        have hI2 : Hid ((∀ q (h : q < L.length), q < lo → L[q].who < fw) ∧ (∀ q (h : q < L.length), M ≤ q → ¬ L[q].who < fw)) :=
          Lib.hid ⟨hI.out.1, fun q h hlt2 => who_le_of_sorted hsH.out hlt2 h (by rw [hqH.out]; exact hx)⟩
        clear hcv hx hI
        go_wp2_with fail
        go_region_held3 (fun w' => Below wr.heap.size wr w' ∧ w'.cell? ⟨w.heap.size, 0, none⟩ = some (.string (bs fw)) ∧ w'.cell? ⟨w.heap.size, 1, none⟩ = some (.int .i64 fe) ∧ w'.cell? ⟨b, o + M * 2, none⟩ = some (.string (bs qw)) ∧ w'.cell? ⟨b, o + M * 2 + 1, none⟩ = some (.int .i64 qe))
          ((refine hk5.out _ ?_; (first | exact hS | exact hS.drew)))
          ((refine (hcmx _).mono ?_; rintro e w' ⟨rfl, hbx⟩; have hS : Below wr.heap.size wr w' := below_trans (by first | exact hS | exact hS.drew) hbx))
        have hK2 := Lib.hid (hK.out.trans (Below.mono (by first | exact hS | exact hS.drew) hK.out.size))
        go_wp2_with fail
        go_roundg (M - lo + 1)
        case measure => omega
        case rel => exact ⟨lo, M, rfl, by simp, a1, by omega, by omega, hI2, hK2⟩
    · obtain rfl : lo = hi := by omega
      have hr := Lib.hid (show lessF L fw = lo from lessF_at hhn hI.out.1 (fun h => hI.out.2 lo h (Nat.le_refl _)))
      clear hI
      by_cases hm : lo < L.length
      · obtain ⟨b, o, rfl, h0, h1⟩ := hcH.out lo hm
        have h0 := cell_below hKw.out h0
        have h1 := cell_below hKw.out h1
        have hcmx := hcm.out L[lo]
        generalize hq : L[lo] = q at *
        obtain ⟨qw, qe⟩ := q
        dsimp only at h0 h1 hcmx
        clear hq
        generalize compareBytes qw fw = cc at *
        have hk0 : (0 : Int) ≤ (lo : Int) := by omega
        have hk1 : (lo : Int) < (L.length : Int) := by omega
        have hk2 : decide ((lo : Int) < (L.length : Int)) = true := decide_eq_true hk1
        have hk5 := Lib.hid (fun (wx : World) (hx : Below wr.heap.size wr wx) => (show Below wr.heap.size wr wx ∧ wx.cell? ⟨w.heap.size, 0, none⟩ = some (.string (bs fw)) ∧ wx.cell? ⟨w.heap.size, 1, none⟩ = some (.int .i64 fe) ∧ wx.cell? ⟨b, o + lo * 2, none⟩ = some (.string (bs qw)) ∧ wx.cell? ⟨b, o + lo * 2 + 1, none⟩ = some (.int .i64 qe) from ⟨hx, cell_below hx d0, cell_below hx d1, cell_below hx h0, cell_below hx h1⟩))
        have hS : Below wr.heap.size wr wr := Below.refl _ _
        go_wp2_with fail
        go_region_held3 (fun w' => Below wr.heap.size wr w' ∧ w'.cell? ⟨w.heap.size, 0, none⟩ = some (.string (bs fw)) ∧ w'.cell? ⟨w.heap.size, 1, none⟩ = some (.int .i64 fe) ∧ w'.cell? ⟨b, o + lo * 2, none⟩ = some (.string (bs qw)) ∧ w'.cell? ⟨b, o + lo * 2 + 1, none⟩ = some (.int .i64 qe))
          ((refine hk5.out _ ?_; (first | exact hS | exact hS.drew)))
          ((refine (hcmx _).mono ?_; rintro e w' ⟨rfl, hbx⟩; have hS : Below wr.heap.size wr w' := below_trans (by first | exact hS | exact hS.drew) hbx))
        have hK2 := Lib.hid (below_trans hKw.out (by first | exact hS | exact hS.drew))
        go_wp2_with fail
        go_ret2
        exact ⟨_, by rw [hr.out]; rfl, hK2.out⟩
      · have hk1 : ¬ ((lo : Int) < (L.length : Int)) := by omega
        have hk2 : decide ((lo : Int) < (L.length : Int)) = false := decide_eq_false hk1
        go_wp2_with fail
        go_quiet (fail)
        go_wp2_with fail
        go_ret2
        exact ⟨_, by rw [hr.out]; rfl, below_drawn hKw.out _⟩
end Go.Proofs.YtphjjaanclpagaaDoor
