/- FloorOrder, walked: the closed fact; the law. -/
import Derived.Test.YtphjjaanclpagaaDoorFloRb
import Derived.Test.YtphjjaanclpagaaDoorFloL
import Derived.Deep.CutRange
import Derived.Deep.CutBlock
namespace Go.Proofs.YtphjjaanclpagaaDoor
open Go.RowKit Go.Shelf Go.Lib

theorem upF_memM {L : List Flo} {f : Flo} {m : Nat} (hm : ∀ g ∈ L, g.who.length ≤ m) (hf : f.who.length ≤ m) : ∀ g ∈ upF L f, g.who.length ≤ m := by
  intro g hg
  unfold upF at hg
  split at hg
  · exact hm g hg
  · rcases (insF_mem f g _).1 hg with rfl | h
    · exact hf
    · exact hm g (List.mem_filter.1 h).1
theorem raise_mem {L : List Flo} {f : Flo} {m : Nat} (hm : ∀ g ∈ L, g.who.length ≤ m) (hf : f.who.length ≤ m) : ∀ g ∈ (raiseF L f).1, g.who.length ≤ m := by
  by_cases h : (raiseF L f).2.1 = 0
  · obtain ⟨_, _, _, e⟩ := raiseF_zero h
    rw [e]
    exact upF_memM hm hf
  · rw [raiseF_bad h]
    intro g hg
    cases hg
theorem raise_len {L : List Flo} {f : Flo} : (raiseF L f).1.length ≤ 21 := by
  by_cases h : (raiseF L f).2.1 = 0
  · obtain ⟨_, _, hg, e⟩ := raiseF_zero h
    rw [e]
    exact hg.len
  · rw [raiseF_bad h]
    exact Nat.zero_le _
def annW : List UInt8 := [97, 110, 110]
def bobW : List UInt8 := [98, 111, 98]
theorem floored_fact : raiseF [⟨annW, 2⟩] ⟨starW, 3⟩ = ([⟨starW, 3⟩], 0, -1) := by kernel_rfl
theorem floored_one (w : World) : FloorsAt (w.alloc (.cells #[.string (bs annW), .int .i64 2] 39)) (.slice (some ⟨w.heap.size, 0, none⟩) 1 1) [⟨annW, 2⟩] := by
  refine ⟨_, _, rfl, by decide, by decide, fun i hi => ⟨w.heap.size, 0, rfl, ?_⟩⟩
  have : i = 0 := by simpa using hi
  subst this
  simp
set_option maxHeartbeats 2000000 in
set_option maxRecDepth 100000 in
theorem floored_any {E : Nat → Addr} (w : World) (hL : Laid E w) :
    Calls Tryd.prog 14 #[] w fun e w' => e = .returned (.bool true) ∧ Below w.heap.size w w' := by
  have hA : Below w.heap.size w (w.alloc (.cells #[.string (bs annW), .int .i64 2] 39)) := (Below.refl _ _).alloc (Nat.le_refl _) _
  have hra := raise_flo (E := E) (.slice (some ⟨w.heap.size, 0, none⟩) 1 1) [⟨annW, 2⟩] ⟨starW, 3⟩ _ (hL.below hA) (floored_one w) (by intro g hg; simp at hg; subst hg; decide) (by decide)
  rw [floored_fact] at hra
  have hpa := Lib.hid (fun (v : Value) (n : List UInt8) (e0 : Int) (wx : World) (hv : FloorsAt wx v [⟨starW, 3⟩]) => passes_flo v [⟨starW, 3⟩] n e0 wx hv (by intro g hg; simp at hg; subst hg; decide))
  have hp1 : decide (ofF [⟨starW, 3⟩] annW ≤ 2) = false := by decide +kernel
  have hp2 : decide (ofF [⟨starW, 3⟩] bobW ≤ 3) = true := by decide +kernel
  have hp1 := Lib.hid hp1
  have hp2 := Lib.hid hp2
  have hra := Lib.hid hra
  have hA := Lib.hid hA
  have s1 : (⟨#[97, 110, 110]⟩ : ByteArray) = bs annW := rfl
  have s2 : (⟨#[98, 111, 98]⟩ : ByteArray) = bs bobW := rfl
  have s3 : (⟨#[42]⟩ : ByteArray) = bs starW := rfl
  go_enter Tryd.func14, Tryd.ntmps14
  go_wp2_with fail
  refine hra.out.mono ?_
  rintro e w1 ⟨⟨v, ev, rfl, hrow, he⟩, hb1⟩
  obtain ⟨rfl, _⟩ := he.zero rfl
  have hat := hrow.at_ (by decide)
  obtain ⟨a, c, rfl, _, _, hcs⟩ := id hat
  obtain ⟨b, o, rfl, h0, h1⟩ := hcs 0 (by decide)
  simp only [List.getElem_cons_zero, Nat.zero_mul, Nat.add_zero] at h0 h1
  have hat := Lib.hid hat
  have hb1 := Lib.hid (below_trans hA.out hb1)
  clear hcs hrow he
  go_wp2_with fail
  refine (hpa.out _ annW 2 _ hat.out).mono ?_
  rintro e w2 ⟨rfl, hb2⟩
  rw [hp1.out]
  have hat := Lib.hid (hat.out.below hb2)
  have hb2 := Lib.hid (below_trans hb1.out hb2)
  go_wp2_with fail
  refine (hpa.out _ bobW 3 _ hat.out).mono ?_
  rintro e w3 ⟨rfl, hb3⟩
  rw [hp2.out]
  have hb3 := Lib.hid (below_trans hb2.out hb3)
  go_wp2_with fail
  go_ret
  exact ⟨rfl, hb3.out⟩
/-- The same floors: a slice twice. -/
theorem bad_nil {L : List Flo} {f : Flo} (h : (raiseF L f).2.1 ≠ 0) : (raiseF L f).1.length = 0 := by rw [raiseF_bad h]; rfl
theorem raise_ok {E : Nat → Addr} (v : Value) (M : List Flo) (h : Flo) (w : World) (hL : Laid E w) (hv : FloorsAt w v M) (hm : ∀ f ∈ M, f.who.length ≤ maxLen) (hh : h.who.length ≤ maxLen) (hz : (raiseF M h).2.1 = 0) :
    Calls Tryd.prog 16 #[v, h.val] w fun e w' => ∃ a c, e = .returned (.tuple #[.slice a (raiseF M h).1.length c, .nilIface]) ∧ FloorsAt w' (.slice a (raiseF M h).1.length c) (raiseF M h).1 ∧ Below w.heap.size w w' :=
  (raise_flo v M h w hL hv hm hh).mono fun e w' ⟨⟨v', ev, he, hrow, hev⟩, hb⟩ => by
    obtain ⟨rfl, _⟩ := hev.zero hz
    have hat := hrow.at_ (by have := @raise_len M h; unfold maxLen; omega)
    obtain ⟨a, c, rfl⟩ := hrow.sl
    exact ⟨a, c, he, hat, hb⟩
theorem raise_bad {E : Nat → Addr} (v : Value) (M : List Flo) (h : Flo) (w : World) (hL : Laid E w) (hv : FloorsAt w v M) (hm : ∀ f ∈ M, f.who.length ≤ maxLen) (hh : h.who.length ≤ maxLen) (hz : (raiseF M h).2.1 ≠ 0) :
    Calls Tryd.prog 16 #[v, h.val] w fun e w' => ∃ a c T y, e = .returned (.tuple #[.slice a 0 c, .iface T (.pointer (some y))]) ∧ Below w.heap.size w w' :=
  (raise_flo v M h w hL hv hm hh).mono fun e w' ⟨⟨v', ev, he, hrow, hev⟩, hb⟩ => by
    obtain ⟨T, y, rfl⟩ := hev.iface hz
    obtain ⟨a, c, hv⟩ := hrow.sl
    rw [bad_nil hz] at hv
    subst hv
    exact ⟨a, c, T, y, he, hb⟩
theorem raise_some {E : Nat → Addr} (v : Value) (M : List Flo) (h : Flo) (w : World) (hL : Laid E w) (hv : FloorsAt w v M) (hm : ∀ f ∈ M, f.who.length ≤ maxLen) (hh : h.who.length ≤ maxLen) :
    Calls Tryd.prog 16 #[v, h.val] w fun e w' => ∃ a n c ev, e = .returned (.tuple #[.slice a n c, ev]) ∧ Below w.heap.size w w' :=
  (raise_flo v M h w hL hv hm hh).mono fun e w' ⟨⟨v', ev, he, hrow, hev⟩, hb⟩ => by
    obtain ⟨a, c, rfl⟩ := hrow.sl
    exact ⟨a, _, c, ev, he, hb⟩
set_option maxHeartbeats 8000000 in
set_option maxRecDepth 100000 in
theorem floorder_any {E : Nat → Addr} (x : Value) (L : List Flo) (f g : Flo) (w : World) (hL : Laid E w) (hx : FloorsAt w x L) (hm : ∀ f ∈ L, f.who.length ≤ maxLen) (hf : f.who.length ≤ maxLen) (hg : g.who.length ≤ maxLen) :
    Calls Tryd.prog 4 #[x, f.val, g.val] w fun e w' => e = .returned (.bool true) ∧ Below w.heap.size w w' := by
  have hB := ((Below.refl w.heap.size w).alloc (Nat.le_refl _) (.cells f.cells.toArray 39)).alloc (by simp) (.cells g.cells.toArray 39)
  have hbf : ((w.alloc (.cells f.cells.toArray 39)).alloc (.cells g.cells.toArray 39)).heap[w.heap.size]? = some (.cells f.cells.toArray 39 (0, 0)) :=
    heap_down ((Below.refl _ _).alloc (Nat.le_refl _) _) (heap_alloc_new w _)
  have hbg : ((w.alloc (.cells f.cells.toArray 39)).alloc (.cells g.cells.toArray 39)).heap[w.heap.size + 1]? = some (.cells g.cells.toArray 39 (0, 0)) := by
    have := heap_alloc_new (w.alloc (.cells f.cells.toArray 39)) (.cells g.cells.toArray 39)
    rwa [World.size_alloc] at this
  have hfl := Lib.hid (floored_any (E := E) _ (hL.below hB))
  have hlg := Lib.hid (fun wx (hx' : Below w.heap.size w wx) => longf_flo x L wx (hx.below hx') hm)
  have hrk := Lib.hid (fun (v : Value) (M : List Flo) (h : Flo) wx (hx' : Below w.heap.size w wx) (hv : FloorsAt wx v M) (hmM : ∀ f ∈ M, f.who.length ≤ maxLen) (hh : h.who.length ≤ maxLen) (hz : (raiseF M h).2.1 = 0) => raise_ok (E := E) v M h wx (hL.below hx') hv hmM hh hz)
  have hrb := Lib.hid (fun (v : Value) (M : List Flo) (h : Flo) wx (hx' : Below w.heap.size w wx) (hv : FloorsAt wx v M) (hmM : ∀ f ∈ M, f.who.length ≤ maxLen) (hh : h.who.length ≤ maxLen) (hz : (raiseF M h).2.1 ≠ 0) => raise_bad (E := E) v M h wx (hL.below hx') hv hmM hh hz)
  have hrs := Lib.hid (fun (v : Value) (M : List Flo) (h : Flo) wx (hx' : Below w.heap.size w wx) (hv : FloorsAt wx v M) (hmM : ∀ f ∈ M, f.who.length ≤ maxLen) (hh : h.who.length ≤ maxLen) => raise_some (E := E) v M h wx (hL.below hx') hv hmM hh)
  have hxb := Lib.hid (fun wx (hx' : Below w.heap.size w wx) => hx.below hx')
  have hmf := Lib.hid (raise_mem (L := L) (f := f) hm hf)
  have hmg := Lib.hid (raise_mem (L := L) (f := g) hm hg)
  have hmx := Lib.hid (raise_mem (L := (raiseF L f).1) (f := g) (raise_mem hm hf) hg)
  have hmH := Lib.hid hm
  have hor := Lib.hid (@raise_order L f g)
  obtain ⟨fw, fe⟩ := f
  obtain ⟨gw, ge⟩ := g
  dsimp only [Flo.val, Flo.cells] at *
  have hB := Lib.hid hB
  have hbf := Lib.hid hbf
  have hbg := Lib.hid hbg
  have hfH := Lib.hid hf
  have hgH := Lib.hid hg
  have hsf := bs_size fw
  have hsg := bs_size gw
  obtain ⟨a0, c0, rfl, hmx0, _, _⟩ := id hx
  clear hx hm
  unfold maxLen at hmx0 hf hg
  go_enter Tryd.func4, Tryd.ntmps4
  go_wp2_with fail
  refine hfl.out.mono ?_
  rintro e w1 ⟨rfl, hb1⟩
  have hbf1 := heap_down hb1 hbf.out
  have hbg1 := heap_down hb1 hbg.out
  have hk4 := Lib.hid (fun wx (hx : Below w1.heap.size w1 wx) => (show wx.cell? ⟨w.heap.size, 0, none⟩ = some (.string (bs fw)) ∧ wx.cell? ⟨w.heap.size, 1, none⟩ = some (.int .i64 fe) ∧ wx.cell? ⟨w.heap.size + 1, 0, none⟩ = some (.string (bs gw)) ∧ wx.cell? ⟨w.heap.size + 1, 1, none⟩ = some (.int .i64 ge) from
    ⟨cell_below hx (by rw [cell_of_row _ _ _ _ _ _ hbf1]; rfl), cell_below hx (by rw [cell_of_row _ _ _ _ _ _ hbf1]; rfl), cell_below hx (by rw [cell_of_row _ _ _ _ _ _ hbg1]; rfl), cell_below hx (by rw [cell_of_row _ _ _ _ _ _ hbg1]; rfl)⟩))
  have hb1 := Lib.hid (below_trans hB.out hb1)
  clear hfl hbf1 hbg1 hbf hbg hB
  have hlg1 := Lib.hid (hlg.out _ hb1.out)
  have hC1 : Below w1.heap.size w1 w1 := Below.refl _ _
  have hC1 := Lib.hid hC1
  clear hlg
  cases hlo : longF L with
  | true =>
    rw [show longI L = 1 by unfold longI; rw [if_pos hlo]] at hlg1
    obtain ⟨q0, q1, q2, q3⟩ := hk4.out _ hC1.out
    clear hlo
    go_wp2_with fail
    refine hlg1.out.mono ?_
    rintro e w2 ⟨rfl, hn2⟩
    have hb2 := Lib.hid (below_trans hb1.out hn2)
    clear q0 q1 q2 q3
    obtain ⟨q0, q1, q2, q3⟩ := hk4.out _ hn2
    go_wp2_with fail
    go_ret
    exact ⟨rfl, hb2.out⟩
  | false =>
  rw [show longI L = 0 by unfold longI; rw [if_neg (by rw [hlo]; decide)]] at hlg1
  clear hlo
  by_cases hf20 : 20 < fw.length
  case pos =>
    obtain ⟨q0, q1, q2, q3⟩ := hk4.out _ hC1.out
    go_wp2_with fail
    refine hlg1.out.mono ?_
    rintro e w2 ⟨rfl, hn2⟩
    have hb2 := Lib.hid (below_trans hb1.out hn2)
    clear q0 q1 q2 q3
    obtain ⟨q0, q1, q2, q3⟩ := hk4.out _ hn2
    go_wp2_with fail
    go_ret
    exact ⟨rfl, hb2.out⟩
  by_cases hg20 : 20 < gw.length
  case pos =>
    have hf20i : ¬ (20 : Int) < (fw.length : Int) := by omega
    obtain ⟨q0, q1, q2, q3⟩ := hk4.out _ hC1.out
    go_wp2_with fail
    refine hlg1.out.mono ?_
    rintro e w2 ⟨rfl, hn2⟩
    have hb2 := Lib.hid (below_trans hb1.out hn2)
    clear q0 q1 q2 q3
    obtain ⟨q0, q1, q2, q3⟩ := hk4.out _ hn2
    go_wp2_with fail
    go_ret
    exact ⟨rfl, hb2.out⟩
  have hf20i : ¬ (20 : Int) < (fw.length : Int) := by omega
  have hg20i : ¬ (20 : Int) < (gw.length : Int) := by omega
  obtain ⟨q0, q1, q2, q3⟩ := hk4.out _ hC1.out
  go_wp2_with fail
  refine hlg1.out.mono ?_
  rintro e w2 ⟨rfl, hn2⟩
  have hb2 := Lib.hid (below_trans hb1.out hn2)
  have hC2 := Lib.hid hn2
  clear q0 q1 q2 q3 hn2 hlg1
  obtain ⟨q0, q1, q2, q3⟩ := hk4.out _ hC2.out
  have hX2 := Lib.hid (hxb.out _ hb2.out)
  by_cases k1 : (raiseF L ⟨fw, fe⟩).2.1 = 0
  case neg =>
    have k1 := Lib.hid k1
    go_wp2_with fail
    refine (hrb.out _ L ⟨fw, fe⟩ _ hb2.out hX2.out hmH.out hfH.out k1.out).mono ?_
    rintro e w3 ⟨a3, c3, T3, y3, rfl, hn3⟩
    have hb3 := Lib.hid (below_trans hb2.out hn3)
    have hC3 := Lib.hid (below_trans hC2.out hn3)
    have hX3 := Lib.hid (hxb.out _ hb3.out)
    clear q0 q1 q2 q3 hn3
    obtain ⟨q0, q1, q2, q3⟩ := hk4.out _ hC3.out
    go_wp2_with fail
    refine (hrs.out _ L ⟨gw, ge⟩ _ hb3.out hX3.out hmH.out hgH.out).mono ?_
    rintro e w4 ⟨a4, n4, c4, ev4, rfl, hn4⟩
    have hb4 := Lib.hid (below_trans hb3.out hn4)
    go_wp2_with fail
    go_ret
    exact ⟨rfl, hb4.out⟩
  have k1 := Lib.hid k1
  go_wp2_with fail
  refine (hrk.out _ L ⟨fw, fe⟩ _ hb2.out hX2.out hmH.out hfH.out k1.out).mono ?_
  rintro e w3 ⟨a3, c3, rfl, hA3, hn3⟩
  have hb3 := Lib.hid (below_trans hb2.out hn3)
  have hC3 := Lib.hid (below_trans hC2.out hn3)
  have hX3 := Lib.hid (hxb.out _ hb3.out)
  have hA3 := Lib.hid hA3
  clear q0 q1 q2 q3 hn3
  obtain ⟨q0, q1, q2, q3⟩ := hk4.out _ hC3.out
  by_cases k2 : (raiseF L ⟨gw, ge⟩).2.1 = 0
  case neg =>
    have k2 := Lib.hid k2
    go_wp2_with fail
    refine (hrb.out _ L ⟨gw, ge⟩ _ hb3.out hX3.out hmH.out hgH.out k2.out).mono ?_
    rintro e w4 ⟨a4, c4, T4, y4, rfl, hn4⟩
    have hb4 := Lib.hid (below_trans hb3.out hn4)
    go_wp2_with fail
    go_ret
    exact ⟨rfl, hb4.out⟩
  have k2 := Lib.hid k2
  go_wp2_with fail
  refine (hrk.out _ L ⟨gw, ge⟩ _ hb3.out hX3.out hmH.out hgH.out k2.out).mono ?_
  rintro e w4 ⟨a4, c4, rfl, hA4, hn4⟩
  have hb4 := Lib.hid (below_trans hb3.out hn4)
  have hC4 := Lib.hid (below_trans hC3.out hn4)
  have hA3 := Lib.hid (hA3.out.below hn4)
  have hA4 := Lib.hid hA4
  clear q0 q1 q2 q3 hn4
  obtain ⟨q0, q1, q2, q3⟩ := hk4.out _ hC4.out
  by_cases k3 : (raiseF (raiseF L ⟨fw, fe⟩).1 ⟨gw, ge⟩).2.1 = 0
  case neg =>
    have k3 := Lib.hid k3
    go_wp2_with fail
    refine (hrb.out _ _ ⟨gw, ge⟩ _ hb4.out hA3.out hmf.out hgH.out k3.out).mono ?_
    rintro e w5 ⟨a5, c5, T5, y5, rfl, hn5⟩
    have hb5 := Lib.hid (below_trans hb4.out hn5)
    have hC5 := Lib.hid (below_trans hC4.out hn5)
    have hA4 := Lib.hid (hA4.out.below hn5)
    clear q0 q1 q2 q3 hn5
    obtain ⟨q0, q1, q2, q3⟩ := hk4.out _ hC5.out
    go_wp2_with fail
    refine (hrs.out _ _ ⟨fw, fe⟩ _ hb5.out hA4.out hmg.out hfH.out).mono ?_
    rintro e w6 ⟨a6, n6, c6, ev6, rfl, hn6⟩
    have hb6 := Lib.hid (below_trans hb5.out hn6)
    go_wp2_with fail
    go_ret
    exact ⟨rfl, hb6.out⟩
  have k3 := Lib.hid k3
  go_wp2_with fail
  refine (hrk.out _ _ ⟨gw, ge⟩ _ hb4.out hA3.out hmf.out hgH.out k3.out).mono ?_
  rintro e w5 ⟨a5, c5, rfl, hA5, hn5⟩
  have hb5 := Lib.hid (below_trans hb4.out hn5)
  have hC5 := Lib.hid (below_trans hC4.out hn5)
  have hA4 := Lib.hid (hA4.out.below hn5)
  have hA5 := Lib.hid hA5
  clear q0 q1 q2 q3 hn5
  obtain ⟨q0, q1, q2, q3⟩ := hk4.out _ hC5.out
  by_cases k4 : (raiseF (raiseF L ⟨gw, ge⟩).1 ⟨fw, fe⟩).2.1 = 0
  case neg =>
    have k4 := Lib.hid k4
    go_wp2_with fail
    refine (hrb.out _ _ ⟨fw, fe⟩ _ hb5.out hA4.out hmg.out hfH.out k4.out).mono ?_
    rintro e w6 ⟨a6, c6, T6, y6, rfl, hn6⟩
    have hb6 := Lib.hid (below_trans hb5.out hn6)
    go_wp2_with fail
    go_ret
    exact ⟨rfl, hb6.out⟩
  obtain ⟨hsame, hagain⟩ := hor.out k1.out k2.out k3.out k4
  have k4 := Lib.hid k4
  go_wp2_with fail
  refine (hrk.out _ _ ⟨fw, fe⟩ _ hb5.out hA4.out hmg.out hfH.out k4.out).mono ?_
  rintro e w6 ⟨a6, c6, rfl, hA6, hn6⟩
  rw [← hsame] at hA6
  have hb6 := Lib.hid (below_trans hb5.out hn6)
  have hC6 := Lib.hid (below_trans hC5.out hn6)
  have hA5 := Lib.hid (hA5.out.below hn6)
  have hA6 := Lib.hid hA6
  have hsl : (raiseF (raiseF L ⟨gw, ge⟩).1 ⟨fw, fe⟩).1.length = (raiseF (raiseF L ⟨fw, fe⟩).1 ⟨gw, ge⟩).1.length := by rw [hsame]
  have hsl2 : (raiseF (raiseF (raiseF L ⟨fw, fe⟩).1 ⟨gw, ge⟩).1 ⟨fw, fe⟩).1.length = (raiseF (raiseF L ⟨fw, fe⟩).1 ⟨gw, ge⟩).1.length := by rw [hagain]
  have hagH := Lib.hid hagain
  clear q0 q1 q2 q3 hn6 hsame hagain
  obtain ⟨q0, q1, q2, q3⟩ := hk4.out _ hC6.out
  go_wp2_with fail
  refine (hrk.out _ _ ⟨fw, fe⟩ _ hb6.out hA5.out hmx.out hfH.out (by rw [hagH.out])).mono ?_
  rintro e w7 ⟨a7, c7, rfl, hA7, hn7⟩
  rw [hagH.out] at hA7
  have hb7 := Lib.hid (below_trans hb6.out hn7)
  have hA5 := Lib.hid (hA5.out.below hn7)
  have hA6 := Lib.hid (hA6.out.below hn7)
  have hA7 := Lib.hid hA7
  go_wp2_with fail
  refine (samef_flo _ _ _ _ hA5.out hA6.out).mono ?_
  rintro e w8 ⟨rfl, hn8⟩
  have hb8 := Lib.hid (below_trans hb7.out hn8)
  have hA5 := Lib.hid (hA5.out.below hn8)
  have hA7 := Lib.hid (hA7.out.below hn8)
  go_wp2_with fail
  refine (samef_flo _ _ _ _ hA7.out hA5.out).mono ?_
  rintro e w9 ⟨rfl, hn9⟩
  have hb9 := Lib.hid (below_trans hb8.out hn9)
  go_wp2_with fail
  go_ret
  exact ⟨rfl, hb9.out⟩
end Go.Proofs.YtphjjaanclpagaaDoor
