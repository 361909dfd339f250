/- FloC2, FloRa, FloRb, FedF -/
import Derived.Test.YtkhphdkjnpcnnaaGreatDoorMg26
import Derived.Laws.Shifts
import Derived.IntWalk
import Derived.Deep.RegionHeld3
import Derived.Deep.QuietTactic
import Derived.BigQuiet
import Derived.Test.YtkhphdkjnpcnnaaGreatDoorMg22
import Derived.Test.YtkhphdkjnpcnnaaGreatDoorMg8
import Derived.Test.YtkhphdkjnpcnnaaGreatDoorMg23
/- floor.Raise's second closure; slices.BinarySearchFunc at floors: walked. -/
namespace Go.Proofs.YtkhphdkjnpcnnaaGreatDoor
open Go.RowKit Go.Shelf Go.Lib

set_option maxRecDepth 100000 in
theorem raise2_cmp (f g : Flo) (w : World) :
    Calls Tryz.prog 109 #[f.val, g.val] w fun e w' => e = .returned (.int .i64 (compareBytes f.who g.who)) ∧ Below w.heap.size w w' := by
  obtain ⟨fw, fe⟩ := f
  obtain ⟨gw, ge⟩ := g
  dsimp only [Flo.val]
  have hB := ((Below.refl w.heap.size w).alloc (Nat.le_refl _) (.cells #[.string (bs fw), .int .i64 fe] 113)).alloc (by simp) (.cells #[.string (bs gw), .int .i64 ge] 113)
  have c0 : ((w.alloc (.cells #[.string (bs fw), .int .i64 fe] 113)).alloc (.cells #[.string (bs gw), .int .i64 ge] 113)).cell? ⟨w.heap.size, 0, none⟩ = some (.string (bs fw)) := by
    rw [World.cell?_alloc_lt _ _ _ (by simp)]; simp
  have c1 : ((w.alloc (.cells #[.string (bs fw), .int .i64 fe] 113)).alloc (.cells #[.string (bs gw), .int .i64 ge] 113)).cell? ⟨w.heap.size + 1, 0, none⟩ = some (.string (bs gw)) := by
    have := World.cell?_alloc_new (w.alloc (.cells #[.string (bs fw), .int .i64 fe] 113)) #[.string (bs gw), .int .i64 ge] 113 0
    rw [World.size_alloc] at this
    exact this
  have hc := Lib.hid (fun wx => compare_str fw gw wx)
  generalize compareBytes fw gw = cc at *
  go_enter Tryz.func109, Tryz.ntmps109
  go_wp2_with fail
  refine (hc.out _).mono ?_
  rintro e w1 ⟨rfl, rfl⟩
  go_wp2_with fail
  go_ret
  exact ⟨rfl, hB⟩
/-- Where a floor is set: behind all that are less. -/
def lessF (L : List Flo) (n : List UInt8) : Nat := (L.takeWhile (fun q => decide (q.who < n))).length
theorem lessF_le (L : List Flo) (n : List UInt8) : lessF L n ≤ L.length := (List.takeWhile_sublist _).length_le
theorem lessF_at {L : List Flo} {n : List UInt8} {j : Nat} (hj : j ≤ L.length) (ha : ∀ q (hq : q < L.length), q < j → L[q].who < n) (he : ∀ h : j < L.length, ¬ L[j].who < n) : lessF L n = j := by
  unfold lessF
  induction L generalizing j with
  | nil => simp at hj; subst hj; rfl
  | cons p L ih =>
    cases j with
    | zero =>
      have := he (by simp)
      rw [List.takeWhile_cons_of_neg (by simpa using this)]
      rfl
    | succ j =>
      have h0 := ha 0 (by simp) (by omega)
      rw [List.takeWhile_cons_of_pos (by simpa using h0), List.length_cons, ih (j := j) (by simpa using hj) (fun q hq hqj => ha (q + 1) (by simpa using hq) (by omega)) (fun h => he (by simpa using h))]
theorem insF_less (f : Flo) (L : List Flo) {k : Nat} (hk : k ≤ L.length) (h1 : ∀ q (h : q < L.length), q < k → L[q].who < f.who) (h2 : ∀ h : k < L.length, ¬ L[k].who < f.who) :
    insF f L = L.take k ++ f :: L.drop k ∧ lessF L f.who = k := ⟨insF_at f L k hk h1 h2, lessF_at hk h1 h2⟩
theorem who_le_of_sorted {L : List Flo} (hs : L.Pairwise (fun f g => f.who < g.who)) {i j : Nat} (hij : i ≤ j) (hj : j < L.length) {n : List UInt8} (h : ¬ L[i].who < n) : ¬ L[j].who < n := by
  rcases Nat.lt_or_eq_of_le hij with h1 | h1
  · intro h2
    exact h (List.lt_trans (List.pairwise_iff_getElem.1 hs i j (by omega) hj h1) h2)
  · subst h1
    exact h
theorem who_lt_of_sorted {L : List Flo} (hs : L.Pairwise (fun f g => f.who < g.who)) {i j : Nat} (hij : i ≤ j) (hj : j < L.length) {n : List UInt8} (h : L[j].who < n) : L[i].who < n := by
  rcases Nat.lt_or_eq_of_le hij with h1 | h1
  · exact List.lt_trans (List.pairwise_iff_getElem.1 hs i j (by omega) hj h1) h
  · subst h1
    exact h
theorem shr_half (lo hi : Nat) (w : World) : (binOp .shr 202 (.int .u64 ((lo : Int) + (hi : Int))) (.int .u64 1)).run Tryz.prog w = .ok (.int .u64 (((lo + hi) / 2 : Nat) : Int)) w := by
  go_simp
set_option maxHeartbeats 4000000 in
set_option maxRecDepth 100000 in
theorem bsearch_flo (v : Value) (L : List Flo) (f : Flo) (w : World) (hv : FloorsAt w v L) (hL : L.length ≤ 1000) (hs : L.Pairwise (fun f g => f.who < g.who)) :
    Calls Tryz.prog 108 #[v, f.val, .func (.func 109) #[] #[]] w fun e w' => ∃ b, e = .returned (.tuple #[.int .i64 (lessF L f.who : Nat), .bool b]) ∧ Below w.heap.size w w' := by
  obtain ⟨a, c, rfl, hlen, _, hc⟩ := hv
  obtain ⟨fw, fe⟩ := f
  dsimp only [Flo.val]
  have hcH := Lib.hid hc
  have hsH := Lib.hid hs
  clear hc hs
  have hcm := Lib.hid (fun (g : Flo) wx => raise2_cmp g ⟨fw, fe⟩ wx)
  have hA : Below w.heap.size w (w.alloc (.cells #[.string (bs fw), .int .i64 fe] 113)) := (Below.refl _ _).alloc (Nat.le_refl _) _
  have b0 : (w.alloc (.cells #[.string (bs fw), .int .i64 fe] 113)).cell? ⟨w.heap.size, 0, none⟩ = some (.string (bs fw)) := by simp
  have b1 : (w.alloc (.cells #[.string (bs fw), .int .i64 fe] 113)).cell? ⟨w.heap.size, 1, none⟩ = some (.int .i64 fe) := by simp
  have b0 := Lib.hid b0
  have b1 := Lib.hid b1
  have hA := Lib.hid hA
  dsimp only [Flo.val] at hcm
  go_enter Tryz.func108, Tryz.ntmps108
  go_wp2_with fail
  go_loopg [9, 10] (L.length + 1) (fun g8 i j wr => ∃ lo hi : Nat, i = .int .i64 lo ∧ j = .int .i64 hi ∧ lo ≤ hi ∧ hi ≤ L.length ∧ hi - lo + 1 ≤ g8 ∧ Hid ((∀ q (h : q < L.length), q < lo → L[q].who < fw) ∧ (∀ q (h : q < L.length), hi ≤ q → ¬ L[q].who < fw)) ∧ Hid (Below (w.alloc (.cells #[.string (bs fw), .int .i64 fe] 113)).heap.size (w.alloc (.cells #[.string (bs fw), .int .i64 fe] 113)) wr))
  case atStart => exact ⟨0, L.length, rfl, rfl, Nat.zero_le _, Nat.le_refl _, by omega, Lib.hid ⟨fun _ _ h => absurd h (Nat.not_lt_zero _), fun q h h2 => by omega⟩, Lib.hid (Below.refl _ _)⟩
  case round =>
    obtain ⟨lo, hi, rfl, rfl, hlh, hhn, hg, hI, hK⟩ := hrel
    have d0 := cell_below hK.out b0.out
    have d1 := cell_below hK.out b1.out
    have hKw := Lib.hid (below_trans hA.out hK.out)
    by_cases hlt : lo < hi
    · obtain ⟨M, hM⟩ : ∃ M, M = (lo + hi) / 2 := ⟨_, rfl⟩
      have a1 : lo ≤ M := by omega
      have a2 : M < hi := by omega
      have hm : M < L.length := by omega
      have hMH := Lib.hid hM
      have hM2 : ((lo : Int) + (hi : Int)) / 2 = (M : Int) := by omega
      have hk0 : (0 : Int) ≤ (M : Int) := by omega
      have hk1 : (M : Int) < (L.length : Int) := by omega
      clear hM
      obtain ⟨b, o, rfl, h0, h1⟩ := hcH.out M hm
      have h0 := cell_below hKw.out h0
      have h1 := cell_below hKw.out h1
      have hcmx := hcm.out L[M]
      have hcv := compare_neg L[M].who fw
      generalize hq : L[M] = q at *
      obtain ⟨qw, qe⟩ := q
      dsimp only at h0 h1 hcv hcmx
      generalize compareBytes qw fw = cc at *
      have hqH := Lib.hid hq
      clear hq
      have hk5 := Lib.hid (fun (wx : World) (hx : Below wr.heap.size wr wx) => (show Below wr.heap.size wr wx ∧ wx.cell? ⟨w.heap.size, 0, none⟩ = some (.string (bs fw)) ∧ wx.cell? ⟨w.heap.size, 1, none⟩ = some (.int .i64 fe) ∧ wx.cell? ⟨b, o + M * 2, none⟩ = some (.string (bs qw)) ∧ wx.cell? ⟨b, o + M * 2 + 1, none⟩ = some (.int .i64 qe) from ⟨hx, cell_below hx d0, cell_below hx d1, cell_below hx h0, cell_below hx h1⟩))
      have hS : Below wr.heap.size wr wr := Below.refl _ _
      by_cases hx : qw < fw
      · have hcn : cc < 0 := hcv.2 hx
        have hI2 : Hid ((∀ q (h : q < L.length), q < M + 1 → L[q].who < fw) ∧ (∀ q (h : q < L.length), hi ≤ q → ¬ L[q].who < fw)) :=
          Lib.hid ⟨fun q h hlt2 => who_lt_of_sorted hsH.out (show q ≤ M by omega) hm (by rw [hqH.out]; exact hx), hI.out.2⟩
        clear hcv hx hI
        go_wp2_with fail
        go_region_held3 (fun w' => Below wr.heap.size wr w' ∧ w'.cell? ⟨w.heap.size, 0, none⟩ = some (.string (bs fw)) ∧ w'.cell? ⟨w.heap.size, 1, none⟩ = some (.int .i64 fe) ∧ w'.cell? ⟨b, o + M * 2, none⟩ = some (.string (bs qw)) ∧ w'.cell? ⟨b, o + M * 2 + 1, none⟩ = some (.int .i64 qe))
          ((refine hk5.out _ ?_; (first | exact hS | exact hS.drew)))
          ((refine (hcmx _).mono ?_; rintro e w' ⟨rfl, hbx⟩; have hS : Below wr.heap.size wr w' := below_trans (by first | exact hS | exact hS.drew) hbx))
        have hK2 := Lib.hid (hK.out.trans (Below.mono (by first | exact hS | exact hS.drew) hK.out.size))
        go_wp2_with fail
        go_roundg (hi - (M + 1) + 1)
        case measure => omega
        case rel => exact ⟨M + 1, hi, by simp, rfl, by omega, hhn, by omega, hI2, hK2⟩
      · have hcn : ¬ cc < 0 := fun h => hx (hcv.1 h)
        have hI2 : Hid ((∀ q (h : q < L.length), q < lo → L[q].who < fw) ∧ (∀ q (h : q < L.length), M ≤ q → ¬ L[q].who < fw)) :=
          Lib.hid ⟨hI.out.1, fun q h hlt2 => who_le_of_sorted hsH.out hlt2 h (by rw [hqH.out]; exact hx)⟩
        clear hcv hx hI
        go_wp2_with fail
        go_region_held3 (fun w' => Below wr.heap.size wr w' ∧ w'.cell? ⟨w.heap.size, 0, none⟩ = some (.string (bs fw)) ∧ w'.cell? ⟨w.heap.size, 1, none⟩ = some (.int .i64 fe) ∧ w'.cell? ⟨b, o + M * 2, none⟩ = some (.string (bs qw)) ∧ w'.cell? ⟨b, o + M * 2 + 1, none⟩ = some (.int .i64 qe))
          ((refine hk5.out _ ?_; (first | exact hS | exact hS.drew)))
          ((refine (hcmx _).mono ?_; rintro e w' ⟨rfl, hbx⟩; have hS : Below wr.heap.size wr w' := below_trans (by first | exact hS | exact hS.drew) hbx))
        have hK2 := Lib.hid (hK.out.trans (Below.mono (by first | exact hS | exact hS.drew) hK.out.size))
        go_wp2_with fail
        go_roundg (M - lo + 1)
        case measure => omega
        case rel => exact ⟨lo, M, rfl, by simp, a1, by omega, by omega, hI2, hK2⟩
    · obtain rfl : lo = hi := by omega
      have hr := Lib.hid (show lessF L fw = lo from lessF_at hhn hI.out.1 (fun h => hI.out.2 lo h (Nat.le_refl _)))
      clear hI
      by_cases hm : lo < L.length
      · obtain ⟨b, o, rfl, h0, h1⟩ := hcH.out lo hm
        have h0 := cell_below hKw.out h0
        have h1 := cell_below hKw.out h1
        have hcmx := hcm.out L[lo]
        generalize hq : L[lo] = q at *
        obtain ⟨qw, qe⟩ := q
        dsimp only at h0 h1 hcmx
        clear hq
        generalize compareBytes qw fw = cc at *
        have hk0 : (0 : Int) ≤ (lo : Int) := by omega
        have hk1 : (lo : Int) < (L.length : Int) := by omega
        have hk2 : decide ((lo : Int) < (L.length : Int)) = true := decide_eq_true hk1
        have hk5 := Lib.hid (fun (wx : World) (hx : Below wr.heap.size wr wx) => (show Below wr.heap.size wr wx ∧ wx.cell? ⟨w.heap.size, 0, none⟩ = some (.string (bs fw)) ∧ wx.cell? ⟨w.heap.size, 1, none⟩ = some (.int .i64 fe) ∧ wx.cell? ⟨b, o + lo * 2, none⟩ = some (.string (bs qw)) ∧ wx.cell? ⟨b, o + lo * 2 + 1, none⟩ = some (.int .i64 qe) from ⟨hx, cell_below hx d0, cell_below hx d1, cell_below hx h0, cell_below hx h1⟩))
        have hS : Below wr.heap.size wr wr := Below.refl _ _
        go_wp2_with fail
        go_region_held3 (fun w' => Below wr.heap.size wr w' ∧ w'.cell? ⟨w.heap.size, 0, none⟩ = some (.string (bs fw)) ∧ w'.cell? ⟨w.heap.size, 1, none⟩ = some (.int .i64 fe) ∧ w'.cell? ⟨b, o + lo * 2, none⟩ = some (.string (bs qw)) ∧ w'.cell? ⟨b, o + lo * 2 + 1, none⟩ = some (.int .i64 qe))
          ((refine hk5.out _ ?_; (first | exact hS | exact hS.drew)))
          ((refine (hcmx _).mono ?_; rintro e w' ⟨rfl, hbx⟩; have hS : Below wr.heap.size wr w' := below_trans (by first | exact hS | exact hS.drew) hbx))
        have hK2 := Lib.hid (below_trans hKw.out (by first | exact hS | exact hS.drew))
        go_wp2_with fail
        go_ret2
        exact ⟨_, by rw [hr.out]; rfl, hK2.out⟩
      · have hk1 : ¬ ((lo : Int) < (L.length : Int)) := by omega
        have hk2 : decide ((lo : Int) < (L.length : Int)) = false := decide_eq_false hk1
        go_wp2_with fail
        go_quiet (fail)
        go_wp2_with fail
        go_ret2
        exact ⟨_, by rw [hr.out]; rfl, below_drawn hKw.out _⟩
end Go.Proofs.YtkhphdkjnpcnnaaGreatDoor

/- floor.Raise, walked. -/
namespace Go.Proofs.YtkhphdkjnpcnnaaGreatDoor
open Go.RowKit Go.Shelf Go.Lib

/-- What Raise hands back: floors of its own, an error. -/
def RaiseRes (E : Nat → Addr) (base : Nat) (w' : World) (r : List Flo × Nat × Int) (e : Ending) : Prop := ∃ v ev, e = .returned (.tuple #[v, ev]) ∧ FlRow w' base v r.1 ∧ ErrAt E w' ev r.2.1 r.2.2
theorem RaiseRes.mk {E : Nat → Addr} {base : Nat} {w' : World} {r : List Flo × Nat × Int} {v ev : Value} {L : List Flo} {c : Nat} {a : Int} (hr : r = (L, c, a)) (hv : FlRow w' base v L) (he : ErrAt E w' ev c a) : RaiseRes E base w' r (.returned (.tuple #[v, ev])) := by
  subst hr
  exact ⟨v, ev, rfl, hv, he⟩
theorem FlRow.nil (w : World) (base : Nat) : FlRow w base (.slice none 0 0) [] := World.ownsRow_nil _ _ _ _
theorem FlRow.sl {w : World} {base : Nat} {v : Value} {L : List Flo} (h : FlRow w base v L) : ∃ a c, v = .slice a L.length c := by
  rcases h.shape with ⟨rfl, rfl⟩ | ⟨g, cap, cur, rfl, _⟩
  · exact ⟨_, _, rfl⟩
  · exact ⟨_, _, rfl⟩
theorem raiseF_check {L : List Flo} {f : Flo} (h : (checkF L).1 ≠ 0) : raiseF L f = ([], (checkF L).1, (checkF L).2) := by unfold raiseF; rw [if_neg h]
theorem raiseF_one {L : List Flo} {f : Flo} (h : (checkF L).1 = 0) (h1 : oneF f ≠ 0) : raiseF L f = ([], oneF f, -1) := by unfold raiseF; rw [if_pos h, if_neg h1]
theorem raiseF_low {L : List Flo} {f : Flo} (h : GoodF L) (h1 : oneF f = 0) (hle : f.ep ≤ ofF L f.who) : raiseF L f = (L, 0, -1) := by
  have hu := upF_same hle
  rw [raiseF_of h h1 (by rw [hu]; exact h.len), hu]
theorem raiseF_up {L : List Flo} {f : Flo} (h : GoodF L) (h1 : oneF f = 0) (hle : ¬ f.ep ≤ ofF L f.who) : raiseF L f = if 21 < (insF f (L.filter (keepF f))).length then ([], 7, -1) else (insF f (L.filter (keepF f)), 0, -1) := by
  have hu : upF L f = insF f (L.filter (keepF f)) := by unfold upF; rw [if_neg hle]
  unfold raiseF
  rw [check_goodF h, if_pos rfl, if_pos h1, hu]
theorem filter_nn {L : List Flo} (p : Flo → Bool) : (L.filter fun f => !(!p f)) = L.filter p := by simp
set_option maxHeartbeats 4000000 in
set_option maxRecDepth 100000 in
theorem raise_flo0 {E : Nat → Addr} (v : Value) (L : List Flo) (f : Flo) (w : World) (hL : Laid E w) (hv : FloorsAt w v L) (hm : ∀ f ∈ L, f.who.length ≤ maxLen) (hf : f.who.length ≤ maxLen) (hq : (checkF L).1 = 0 → oneF f = 0 → f.ep ≤ ofF L f.who) :
    Calls Tryz.prog 57 #[v, f.val] w fun e w' => RaiseRes E w.heap.size w' (raiseF L f) e ∧ Below w.heap.size w w' := by
  have hA : Below w.heap.size w (w.alloc (.cells f.cells.toArray 113)) := (Below.refl _ _).alloc (Nat.le_refl _) _
  have hck := Lib.hid (check_flo (E := E) v L _ (hL.below hA) (hv.below hA) hm)
  have hri := Lib.hid (fun wx (hx : Below w.heap.size w wx) => right_flo (E := E) f wx (hL.below hx) hf)
  have hof := Lib.hid (fun wx (hx : Below w.heap.size w wx) => of_flo v L f.who wx (hv.below hx) hm)
  have hbox := heap_alloc_new w (.cells f.cells.toArray 113)
  obtain ⟨fw, fe⟩ := f
  dsimp only [Flo.val, Flo.cells] at *
  have hbox := Lib.hid hbox
  have hAH := Lib.hid hA
  have hvH := Lib.hid hv
  have hmH := Lib.hid hm
  have hqH := Lib.hid hq
  clear hA hv hm hq
  obtain ⟨a0, c0, rfl, hmx, _, _⟩ := id hvH.out
  unfold maxLen at hmx
  by_cases hc0 : (checkF L).1 = 0
  case neg =>
    have hr := Lib.hid (raiseF_check (f := ⟨fw, fe⟩) hc0)
    have hc0H := Lib.hid hc0
    clear hc0
    go_enter Tryz.func57, Tryz.ntmps57
    go_wp2_with fail
    refine hck.out.mono ?_
    rintro e w1 ⟨ev, rfl, he, hb1⟩
    obtain ⟨T, x, rfl⟩ := he.iface hc0H.out
    have he := Lib.hid he
    have hb1 := Lib.hid (below_trans hAH.out hb1)
    go_wp2_with fail
    go_ret2
    exact ⟨RaiseRes.mk hr.out (FlRow.nil _ _) he.out, hb1.out⟩
  have hgood := goodF_check hc0
  have hlen21 := hgood.len
  have hgood := Lib.hid hgood
  have hc0H := Lib.hid hc0
  clear hc0
  cases ho : oneF ⟨fw, fe⟩ with
  | succ cd =>
    rw [ho, errV_succ] at hri
    have hr := Lib.hid (show raiseF L ⟨fw, fe⟩ = ([], cd + 1, -1) by rw [raiseF_one hc0H.out (by rw [ho]; exact Nat.succ_ne_zero _), ho])
    clear ho
    go_enter Tryz.func57, Tryz.ntmps57
    go_wp2_with fail
    refine hck.out.mono ?_
    rintro e w1 ⟨ev, rfl, he, hb1⟩
    obtain ⟨rfl, _⟩ := he.zero hc0H.out
    have hrow1 := heap_down hb1 hbox.out
    have d0 : w1.cell? ⟨w.heap.size, 0, none⟩ = some (.string (bs fw)) := by rw [cell_of_row _ _ _ _ _ _ hrow1]; rfl
    have d1 : w1.cell? ⟨w.heap.size, 1, none⟩ = some (.int .i64 fe) := by rw [cell_of_row _ _ _ _ _ _ hrow1]; rfl
    have hb1 := Lib.hid (below_trans hAH.out hb1)
    clear hrow1 he
    go_wp2_with fail
    refine (hri.out _ hb1.out).mono ?_
    rintro e w2 ⟨rfl, hb2⟩
    have hb2 := Lib.hid (below_trans hb1.out hb2)
    go_wp2_with fail
    go_ret2
    exact ⟨RaiseRes.mk hr.out (FlRow.nil _ _) (ErrAt.bare (cd + 1)), hb2.out⟩
  | zero =>
  rw [ho, errV_zero] at hri
  have hoH := Lib.hid ho
  clear ho
  have hgv0 := hvH.out
  have hle : fe ≤ ofF L fw := hqH.out hc0H.out hoH.out
  · have hr := Lib.hid (raiseF_low hgood.out hoH.out hle)
    have hcl := Lib.hid (fun wx (hx : Below w.heap.size w wx) => clone_flo _ L wx (hvH.out.below hx) (by omega))
    generalize ofF L fw = oq at *
    go_enter Tryz.func57, Tryz.ntmps57
    go_wp2_with fail
    refine hck.out.mono ?_
    rintro e w1 ⟨ev, rfl, he, hb1⟩
    obtain ⟨rfl, _⟩ := he.zero hc0H.out
    have hrow1 := heap_down hb1 hbox.out
    have d0 : w1.cell? ⟨w.heap.size, 0, none⟩ = some (.string (bs fw)) := by rw [cell_of_row _ _ _ _ _ _ hrow1]; rfl
    have d1 : w1.cell? ⟨w.heap.size, 1, none⟩ = some (.int .i64 fe) := by rw [cell_of_row _ _ _ _ _ _ hrow1]; rfl
    have hb1 := Lib.hid (below_trans hAH.out hb1)
    clear hrow1 he
    go_wp2_with fail
    refine (hri.out _ hb1.out).mono ?_
    rintro e w2 ⟨rfl, hb2⟩
    have d0 := cell_below hb2 d0
    have d1 := cell_below hb2 d1
    have hb2 := Lib.hid (below_trans hb1.out hb2)
    have hk := Lib.hid (fun (wx : World) (hx : Below w2.heap.size w2 wx) => (show Below w2.heap.size w2 wx ∧ wx.cell? ⟨w.heap.size, 0, none⟩ = some (.string (bs fw)) ∧ wx.cell? ⟨w.heap.size, 1, none⟩ = some (.int .i64 fe) from ⟨hx, cell_below hx d0, cell_below hx d1⟩))
    have hS : Below w2.heap.size w2 w2 := Below.refl _ _
    go_wp2_with fail
    go_region_held3 (fun w' => Below w2.heap.size w2 w' ∧ w'.cell? ⟨w.heap.size, 0, none⟩ = some (.string (bs fw)) ∧ w'.cell? ⟨w.heap.size, 1, none⟩ = some (.int .i64 fe))
      ((refine hk.out _ ?_; (first | exact hS | exact hS.drew)))
      ((refine (hof.out _ (below_trans hb2.out (by first | exact hS | exact hS.drew))).mono ?_; rintro e w' ⟨rfl, hbx⟩; have hS : Below w2.heap.size w2 w' := below_trans (by first | exact hS | exact hS.drew) hbx))
    all_goals
      have hb3 := Lib.hid (below_trans hb2.out (by first | exact hS | exact hS.drew))
      go_wp2_with fail
      refine (hcl.out _ hb3.out).mono ?_
      rintro e w4 ⟨v4, rfl, hrow4, hb4⟩
      have hrow4 := hrow4.mono hb3.out.size
      have hrow4 := Lib.hid hrow4
      have hb4 := Lib.hid (below_trans hb3.out hb4)
      go_wp2_with fail
      go_ret2
      exact ⟨RaiseRes.mk hr.out hrow4.out (ErrAt.bare 0), hb4.out⟩
end Go.Proofs.YtkhphdkjnpcnnaaGreatDoor

/- floor.Raise where a floor rises, walked; and all ways as one. -/
namespace Go.Proofs.YtkhphdkjnpcnnaaGreatDoor
open Go.RowKit Go.Shelf Go.Lib

theorem insF_take (f : Flo) : ∀ L, insF f L = L.take (lessF L f.who) ++ f :: L.drop (lessF L f.who)
  | [] => rfl
  | q :: r => by
    unfold insF lessF
    by_cases h : q.who < f.who
    · rw [if_pos h, List.takeWhile_cons_of_pos (by simpa using h), insF_take f r]
      rfl
    · rw [if_neg h, List.takeWhile_cons_of_neg (by simpa using h)]
      rfl
theorem len_keep (L : List Flo) (p : Flo → Bool) : (L.filter p).length ≤ L.length := List.length_filter_le _ _
set_option maxHeartbeats 8000000 in
set_option maxRecDepth 100000 in
theorem raise_up {E : Nat → Addr} (v : Value) (L : List Flo) (f : Flo) (w : World) (hL : Laid E w) (hv : FloorsAt w v L) (hm : ∀ f ∈ L, f.who.length ≤ maxLen) (hf : f.who.length ≤ maxLen) (hc0 : (checkF L).1 = 0) (ho : oneF f = 0) (hle : ¬ f.ep ≤ ofF L f.who) :
    Calls Tryz.prog 57 #[v, f.val] w fun e w' => RaiseRes E w.heap.size w' (raiseF L f) e ∧ Below w.heap.size w w' := by
  have hA : Below w.heap.size w (w.alloc (.cells f.cells.toArray 113)) := (Below.refl _ _).alloc (Nat.le_refl _) _
  have hck := Lib.hid (check_flo (E := E) v L _ (hL.below hA) (hv.below hA) hm)
  have hri := Lib.hid (fun wx (hx : Below w.heap.size w wx) => right_flo (E := E) f wx (hL.below hx) hf)
  have hof := Lib.hid (fun wx (hx : Below w.heap.size w wx) => of_flo v L f.who wx (hv.below hx) hm)
  have hgood := goodF_check hc0
  have hlen21 := hgood.len
  have hcl := Lib.hid (fun wx (hx : Below w.heap.size w wx) => clone_flo _ L wx (hv.below hx) (by omega))
  have hr := raiseF_up hgood ho hle
  have hbox := heap_alloc_new w (.cells f.cells.toArray 113)
  have hsrt : (L.filter (keepF f)).Pairwise (fun f g => f.who < g.who) := hgood.g.sorted.filter _
  have hlk := len_keep L (keepF f)
  have hmK : ∀ g ∈ L.filter (keepF f), g.who.length ≤ maxLen := fun g hg => hm g (List.mem_filter.1 hg).1
  have hE9 := Lib.hid (fun wx (hx : Below w.heap.size w wx) => (hL.below hx).e7)
  rw [ho, errV_zero] at hri
  have hel : (insF f (L.filter (keepF f))).length = (L.filter (keepF f)).length + 1 := insF_length f _
  have hiF := insF_take f (L.filter (keepF f))
  have hll := lessF_le (L.filter (keepF f)) f.who
  have hasks := Lib.hid (fun b wx h0 h1 => raise1_asks f b wx h0 h1)
  have hdel := Lib.hid (fun v1 (wb wx : World) (hrow : FlRow wx wb.heap.size v1 L) (hb : Below wb.heap.size wb wx) b h0 h1 => delf_flo wb v1 L 107 #[.pointer (some ⟨b, 0, none⟩)] (fun g => !keepF f g) wx hrow (by omega) hm hb (raise1_asks f b wb h0 h1) (enters_of Tryz.func107 (by kernel_rfl) rfl))
  rw [filter_nn] at hdel
  have hbs := Lib.hid (fun (base : Nat) v2 wx (hrow : FlRow wx base v2 (L.filter (keepF f))) => bsearch_flo v2 (L.filter (keepF f)) f wx (hrow.at_ (by unfold maxLen; omega)) (by omega) hsrt)
  have hin := Lib.hid (fun (base : Nat) v2 gv wx (hrow : FlRow wx base v2 (L.filter (keepF f))) hgv hne hbase => ins_flo base v2 (L.filter (keepF f)) (lessF (L.filter (keepF f)) f.who) f gv wx hrow (by omega) hll hgv hne hbase)
  rw [← hiF] at hin
  generalize hM : L.filter (keepF f) = M at *
  generalize hlf : lessF M f.who = kk at *
  generalize hI : insF f M = I at *
  have hel2 : I.length ≤ 22 := by omega
  clear hM hlf hI hiF hgood hsrt hmK hasks hel
  have hck0 := Lib.hid hc0
  have hvH := Lib.hid hv
  obtain ⟨fw, fe⟩ := f
  dsimp only [Flo.val, Flo.cells] at *
  have hbox := Lib.hid hbox
  have hAH := Lib.hid hA
  have hrH := Lib.hid hr
  have hle2 : ofF L fw < fe := by omega
  generalize ofF L fw = oq at *
  clear hA hv hm hc0 hr ho hle
  obtain ⟨a0, c0, rfl, hmx, _, _⟩ := id hvH.out
  unfold maxLen at hmx
  go_enter Tryz.func57, Tryz.ntmps57
  go_wp2_with fail
  refine hck.out.mono ?_
  rintro e w1 ⟨ev, rfl, he, hb1⟩
  obtain ⟨rfl, _⟩ := he.zero hck0.out
  have hrow1 := heap_down hb1 hbox.out
  have d0 : w1.cell? ⟨w.heap.size, 0, none⟩ = some (.string (bs fw)) := by rw [cell_of_row _ _ _ _ _ _ hrow1]; rfl
  have d1 : w1.cell? ⟨w.heap.size, 1, none⟩ = some (.int .i64 fe) := by rw [cell_of_row _ _ _ _ _ _ hrow1]; rfl
  have hb1 := Lib.hid (below_trans hAH.out hb1)
  clear hrow1 he
  go_wp2_with fail
  refine (hri.out _ hb1.out).mono ?_
  rintro e w2 ⟨rfl, hb2⟩
  have d0 := cell_below hb2 d0
  have d1 := cell_below hb2 d1
  have hb2 := Lib.hid (below_trans hb1.out hb2)
  have hk := Lib.hid (fun (wx : World) (hx : Below w2.heap.size w2 wx) => (show Below w2.heap.size w2 wx ∧ wx.cell? ⟨w.heap.size, 0, none⟩ = some (.string (bs fw)) ∧ wx.cell? ⟨w.heap.size, 1, none⟩ = some (.int .i64 fe) from ⟨hx, cell_below hx d0, cell_below hx d1⟩))
  have hS : Below w2.heap.size w2 w2 := Below.refl _ _
  go_wp2_with fail
  go_region_held3 (fun w' => Below w2.heap.size w2 w' ∧ w'.cell? ⟨w.heap.size, 0, none⟩ = some (.string (bs fw)) ∧ w'.cell? ⟨w.heap.size, 1, none⟩ = some (.int .i64 fe))
    ((refine hk.out _ ?_; (first | exact hS | exact hS.drew)))
    ((refine (hof.out _ (below_trans hb2.out (by first | exact hS | exact hS.drew))).mono ?_; rintro e w' ⟨rfl, hbx⟩; have hS : Below w2.heap.size w2 w' := below_trans (by first | exact hS | exact hS.drew) hbx))
  all_goals
    have hS3 : Below w2.heap.size w2 _ := (by first | exact hS | exact hS.drew)
    obtain ⟨_, e0, e1⟩ := hk.out _ hS3
    have hb3 := Lib.hid (below_trans hb2.out hS3)
    clear d0 d1
    go_wp2_with fail
    refine (hcl.out _ hb3.out).mono ?_
    rintro e w4 ⟨v4, rfl, hrow4, hb4⟩
    have hdl := Lib.hid (hdel.out _ _ _ hrow4 hb4 _ e0 e1)
    have hz4 := hb4.size
    go_wp2_with fail
    refine hdl.out.mono ?_
    rintro e w5 ⟨v5, rfl, hrow5, hb5⟩
    have e0 := cell_below hb5 e0
    have e1 := cell_below hb5 e1
    have hbq := Lib.hid (hbs.out _ _ _ hrow5)
    have hrow5 := Lib.hid hrow5
    have hb5 := Lib.hid hb5
    go_wp2_with fail
    refine hbq.out.mono ?_
    rintro e w6 ⟨bq, rfl, hb6⟩
    have e0 := cell_below hb6 e0
    have e1 := cell_below hb6 e1
    have hrow6 := hrow5.out.below hb6
    have hb6 := hb5.out.trans (hb6.mono hb5.out.size)
    have hz6 := hb6.size
    have hbA : Below w6.heap.size w6 (w6.alloc (.cells #[.string (bs fw), .int .i64 fe] 113)) := (Below.refl _ _).alloc (Nat.le_refl _) _
    have hne : ∀ g, v5.ownBlock = some g → w6.heap.size ≠ g := fun g hg e => by
      obtain ⟨_, cs, h⟩ := ownsRow_block hrow6 hg
      have := (Array.getElem?_eq_some_iff.1 h).1
      omega
    have hins := Lib.hid (hin.out _ _ w6.heap.size _ (hrow6.below hbA) (heap_alloc_new w6 _) hne (by rw [World.size_alloc]; omega))
    have hb6 := Lib.hid (hb6.trans (hbA.mono hz6))
    clear hrow6 hne hbA
    go_wp2_with fail
    refine hins.out.mono ?_
    rintro e w7 ⟨v7, rfl, hrow7, hb7⟩
    obtain ⟨a7, c7, rfl⟩ := hrow7.sl
    have hrow7 := Lib.hid hrow7
    have hb7 := hb6.out.trans hb7
    have hb7 := Lib.hid (below_trans hb3.out hb7)
    have he7 := Lib.hid (hE9.out _ hb7.out)
    by_cases h21 : 21 < I.length
    · have hr := Lib.hid (hrH.out.trans (if_pos h21))
      have h21i : (21 : Int) < (I.length : Int) := by omega
      have he7 := he7.out
      go_wp2_with fail
      go_quiet (fail)
      go_wp2_with fail
      go_ret2
      exact ⟨RaiseRes.mk hr.out (FlRow.nil _ _) (ErrAt.bare 7), below_drawn hb7.out _⟩
    · have hr := Lib.hid (hrH.out.trans (if_neg h21))
      have h21i : ¬ (21 : Int) < (I.length : Int) := by omega
      have hrow8 := Lib.hid (hrow7.out.mono (base' := w.heap.size) (by have := hb3.out.size; omega))
      go_wp2_with fail
      go_ret2
      exact ⟨RaiseRes.mk hr.out hrow8.out (ErrAt.bare 0), hb7.out⟩
theorem raise_flo {E : Nat → Addr} (v : Value) (L : List Flo) (f : Flo) (w : World) (hL : Laid E w) (hv : FloorsAt w v L) (hm : ∀ f ∈ L, f.who.length ≤ maxLen) (hf : f.who.length ≤ maxLen) :
    Calls Tryz.prog 57 #[v, f.val] w fun e w' => RaiseRes E w.heap.size w' (raiseF L f) e ∧ Below w.heap.size w w' := by
  by_cases h : (checkF L).1 = 0 ∧ oneF f = 0 ∧ ¬ f.ep ≤ ofF L f.who
  · exact raise_up v L f w hL hv hm hf h.1 h.2.1 h.2.2
  · exact raise_flo0 v L f w hL hv hm hf (fun h1 h2 => Classical.byContradiction fun h3 => h ⟨h1, h2, h3⟩)
end Go.Proofs.YtkhphdkjnpcnnaaGreatDoor

/- feed.Floors: walked. -/
namespace Go.Proofs.YtkhphdkjnpcnnaaGreatDoor
open Go.RowKit

theorem floorsE_check {L : List Ent} (h : (checkE L).1 ≠ 0) : floorsE L = ([], (checkE L).1, (checkE L).2) := by unfold floorsE; rw [if_neg h]
theorem foldR_at (L : List Ent) (j : Nat) (hj : j < L.length) (h : (foldR [] (L.take j)).2 = 0) : foldR [] (L.take (j + 1)) = foldR (foldR [] (L.take j)).1 [L[j]] := by
  rw [List.take_succ_eq_append_getElem hj, foldR_append, if_pos h]
theorem foldR_stop (L : List Ent) (j : Nat) (h : (foldR [] (L.take j)).2 ≠ 0) : foldR [] L = foldR [] (L.take j) := by
  have := foldR_append (L.take j) (L.drop j) []
  rw [List.take_append_drop, if_neg h] at this
  exact this
theorem who_len {f : Flo} (h : oneF f = 0) : f.who.length ≤ maxLen := by
  rcases (oneF_zero h).1 with h1 | h1
  · rw [h1]; decide
  · have := ((isName_iff _).1 h1).2.1
    unfold maxLen
    omega
set_option maxHeartbeats 4000000 in
set_option maxRecDepth 100000 in
theorem floors_ent {E : Nat → Addr} (v : Value) (L : List Ent) (w : World) (hL : Laid E w) (hv : EntsAt w v L) (hm : ∀ e ∈ L, e.f.who.length ≤ maxLen) :
    Calls Tryz.prog 15 #[v] w fun e w' => RaiseRes E w.heap.size w' (floorsE L) e ∧ Below w.heap.size w w' := by
  have hck := Lib.hid (check_ent (E := E) v L w hL hv hm)
  have hlen := AtG.len hv
  unfold maxLen at hlen
  have hga := Lib.hid (fun wx (hx : Below w.heap.size w wx) => EntsAt.get (AtG.below hv hx))
  obtain ⟨a0, c0, hv0⟩ := AtG.sl hv
  have hra := Lib.hid (fun (vx : Value) (F : List Flo) (f : Flo) (wx : World) (hx : Below w.heap.size w wx) (hvx : FloorsAt wx vx F) (hF : GoodF F) (hf : f.who.length ≤ maxLen) => raise_flo (E := E) vx F f wx (hL.below hx) hvx (fun g hg => who_len (hF.g.one g hg)) hf)
  have hmH := Lib.hid hm
  clear hv hm hL
  subst hv0
  by_cases hc0 : (checkE L).1 = 0
  case neg =>
    have hr := Lib.hid (floorsE_check hc0)
    have hc0H := Lib.hid hc0
    clear hc0 hra hga
    go_enter Tryz.func15, Tryz.ntmps15
    go_wp2_with fail
    refine hck.out.mono ?_
    rintro e w1 ⟨ev, rfl, he, hb1⟩
    obtain ⟨T, x, rfl⟩ := he.iface hc0H.out
    have he := Lib.hid he
    have hb1 := Lib.hid hb1
    go_wp2_with fail
    go_ret2
    exact ⟨RaiseRes.mk hr.out (FlRow.nil _ _) he.out, hb1.out⟩
  have hc0H := Lib.hid hc0
  have hfE := Lib.hid (show floorsE L = ((foldR [] L).1, (foldR [] L).2, -1) by unfold floorsE; rw [if_pos hc0])
  clear hc0
  go_enter Tryz.func15, Tryz.ntmps15
  go_wp2_with fail
  refine hck.out.mono ?_
  rintro e w1 ⟨ev, rfl, he, hb1⟩
  obtain ⟨rfl, _⟩ := he.zero hc0H.out
  have hb1H := Lib.hid hb1
  clear he hb1 hck
  go_wp2_with fail
  go_loopg [5, 17] (L.length + 1) (fun g v5 i wr => ∃ (F : List Flo) (j : Nat), i = .int .i64 j ∧ j ≤ L.length ∧ L.length - j + 1 ≤ g ∧ Hid (FlRow wr w.heap.size v5 F ∧ foldR [] (L.take j) = (F, 0) ∧ GoodF F) ∧ Hid (Below w.heap.size w wr))
  case atStart => exact ⟨[], 0, rfl, Nat.zero_le _, by omega, Lib.hid ⟨FlRow.nil _ _, rfl, goodF_nil⟩, hb1H⟩
  case round =>
    obtain ⟨F, j, rfl, hj, hgj, hF, hK⟩ := hrel
    obtain ⟨a5, c5, hv5⟩ := hF.out.1.sl
    subst hv5
    by_cases hlt : j < L.length
    · have hk0 : (0 : Int) ≤ (j : Int) := by omega
      have hk1 : (j : Int) < (L.length : Int) := by omega
      obtain ⟨_, _, he, _, _, hc⟩ := hga.out _ hK.out
      cases he
      obtain ⟨b, o, rfl, d0, d1, d2, d3⟩ := hc j hlt
      clear hc
      have hstep := foldR_at L j hlt (by rw [hF.out.2.1])
      rw [hF.out.2.1] at hstep
      have hstop := Lib.hid (fun h => foldR_stop L (j + 1) h)
      have hwho := hmH.out _ (List.getElem_mem hlt)
      generalize L[j] = ej at *
      obtain ⟨es, et, ⟨fw, fe⟩⟩ := ej
      dsimp only at d0 d1 d2 d3 hwho
      have hstep := Lib.hid hstep
      have hsz := Lib.hid hK.out.size
      have hr := Lib.hid (fun wx (hx : Below wr.heap.size wr wx) => hra.out _ F ⟨fw, fe⟩ wx (below_trans hK.out hx) (floorsAt_of (RowG.at_ (floRow_G.1 (hF.out.1.below hx)))) hF.out.2.2 hwho)
      have hA := Lib.hid (fun o : Obj => (Below.refl wr.heap.size wr).alloc (Nat.le_refl _) o)
      clear hwho
      go_wp2_with fail
      refine (hr.out _ (hA.out _)).mono ?_
      rintro e w2 ⟨⟨v6, ev6, rfl, hrow6, he6⟩, hb2⟩
      have hfz := Lib.hid hrow6
      by_cases hz : (raiseF F ⟨fw, fe⟩).2.1 = 0
      · obtain ⟨rfl, _⟩ := he6.zero hz
        have hF2 : foldR [] (L.take (j + 1)) = ((raiseF F ⟨fw, fe⟩).1, 0) := by
          rw [hstep.out]
          unfold foldR
          rw [if_pos hz]
          rfl
        have hG2 : GoodF (raiseF F ⟨fw, fe⟩).1 := by
          obtain ⟨_, _, h1, h2⟩ := raiseF_zero hz
          rw [h2]
          exact h1
        have hrow6 := hrow6.mono (base' := w.heap.size) (by rw [World.size_alloc]; have := hsz.out; omega)
        have hF3 := Lib.hid (show FlRow w2 w.heap.size v6 (raiseF F ⟨fw, fe⟩).1 ∧ foldR [] (L.take (j + 1)) = ((raiseF F ⟨fw, fe⟩).1, 0) ∧ GoodF (raiseF F ⟨fw, fe⟩).1 from ⟨hrow6, hF2, hG2⟩)
        have hb2 := Lib.hid (below_trans hK.out (below_trans (hA.out _) hb2))
        clear hF2 hG2 hrow6 he6 hz hfz
        go_wp2_with fail
        go_roundg (L.length - j)
        case measure => omega
        case rel => exact ⟨_, j + 1, by simp, hlt, by omega, hF3, hb2⟩
      · have hz2 : (foldR [] (L.take (j + 1))).2 = (raiseF F ⟨fw, fe⟩).2.1 ∧ (foldR [] (L.take (j + 1))).1 = [] := by
          rw [hstep.out]
          unfold foldR
          rw [if_neg hz]
          exact ⟨rfl, rfl⟩
        have hfe : floorsE L = ([], (raiseF F ⟨fw, fe⟩).2.1, -1) := by
          rw [hfE.out, hstop.out (by rw [hz2.1]; exact hz), hz2.1, hz2.2]
        have hfe := Lib.hid hfe
        obtain ⟨T6, x6, rfl⟩ := he6.iface hz
        have hba := Lib.hid (bare_err _ _ _ w2 he6)
        have hb2 := Lib.hid (below_trans hK.out (below_trans (hA.out _) hb2))
        clear hz2 hrow6 he6 hz hfz
        go_wp2_with fail
        refine hba.out.mono ?_
        rintro e w3 ⟨rfl, rfl⟩
        go_wp2_with fail
        go_ret2
        exact ⟨RaiseRes.mk hfe.out (FlRow.nil _ _) (ErrAt.bare _), hb2.out⟩
    · have hge : ¬ ((j : Int) < (L.length : Int)) := by omega
      have hfe := Lib.hid (show floorsE L = (F, 0, -1) by
        have h1 := hF.out.2.1
        rw [List.take_of_length_le (by omega)] at h1
        rw [hfE.out, h1])
      have hrow := Lib.hid hF.out.1
      go_wp2_with fail
      go_ret2
      exact ⟨RaiseRes.mk hfe.out hrow.out (ErrAt.bare 0), hK.out⟩
end Go.Proofs.YtkhphdkjnpcnnaaGreatDoor
