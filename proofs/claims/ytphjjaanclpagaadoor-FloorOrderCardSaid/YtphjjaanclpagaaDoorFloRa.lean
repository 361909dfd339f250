/- floor.Raise, walked. -/
import Derived.Test.YtphjjaanclpagaaDoorFloC2
import Derived.Test.YtphjjaanclpagaaDoorFloW2
import Derived.Test.YtphjjaanclpagaaDoorTwo
namespace Go.Proofs.YtphjjaanclpagaaDoor
open Go.RowKit Go.Shelf Go.Lib

/-- What Raise hands back: floors of its own, an error. -/
def RaiseRes (E : Nat → Addr) (base : Nat) (w' : World) (r : List Flo × Nat × Int) (e : Ending) : Prop := ∃ v ev, e = .returned (.tuple #[v, ev]) ∧ FlRow w' base v r.1 ∧ ErrAt E w' ev r.2.1 r.2.2
theorem RaiseRes.mk {E : Nat → Addr} {base : Nat} {w' : World} {r : List Flo × Nat × Int} {v ev : Value} {L : List Flo} {c : Nat} {a : Int} (hr : r = (L, c, a)) (hv : FlRow w' base v L) (he : ErrAt E w' ev c a) : RaiseRes E base w' r (.returned (.tuple #[v, ev])) := by
  subst hr
  exact ⟨v, ev, rfl, hv, he⟩
theorem FlRow.nil (w : World) (base : Nat) : FlRow w base (.slice none 0 0) [] := World.ownsRow_nil _ _ _ _
theorem ErrAt.iface {E : Nat → Addr} {w : World} {v : Value} {c : Nat} {a : Int} (h : ErrAt E w v c a) (hc : c ≠ 0) : ∃ T x, v = .iface T (.pointer (some x)) := by
  rcases h with ⟨_, rfl⟩ | ⟨N, rfl, _⟩
  · cases c with
    | zero => exact absurd rfl hc
    | succ c => exact ⟨_, _, rfl⟩
  · exact ⟨_, _, rfl⟩
theorem ErrAt.zero {E : Nat → Addr} {w : World} {v : Value} {c : Nat} {a : Int} (h : ErrAt E w v c a) (hc : c = 0) : v = .nilIface ∧ a = -1 := by
  rcases h with ⟨ha, rfl⟩ | ⟨N, rfl, h1, _⟩
  · subst hc
    exact ⟨rfl, ha⟩
  · omega
theorem FlRow.sl {w : World} {base : Nat} {v : Value} {L : List Flo} (h : FlRow w base v L) : ∃ a c, v = .slice a L.length c := by
  rcases h.shape with ⟨rfl, rfl⟩ | ⟨g, cap, cur, rfl, _⟩
  · exact ⟨_, _, rfl⟩
  · exact ⟨_, _, rfl⟩
theorem raiseF_check {L : List Flo} {f : Flo} (h : (checkF L).1 ≠ 0) : raiseF L f = ([], (checkF L).1, (checkF L).2) := by unfold raiseF; rw [if_neg h]
theorem raiseF_one {L : List Flo} {f : Flo} (h : (checkF L).1 = 0) (h1 : oneF f ≠ 0) : raiseF L f = ([], oneF f, -1) := by unfold raiseF; rw [if_pos h, if_neg h1]
theorem raiseF_low {L : List Flo} {f : Flo} (h : GoodF L) (h1 : oneF f = 0) (hle : f.ep ≤ ofF L f.who) : raiseF L f = (L, 0, -1) := by
  have hu := upF_same hle
  rw [raiseF_of h h1 (by rw [hu]; exact h.len), hu]
theorem raiseF_up {L : List Flo} {f : Flo} (h : GoodF L) (h1 : oneF f = 0) (hle : ¬ f.ep ≤ ofF L f.who) : raiseF L f = if 21 < (insF f (L.filter (keepF f))).length then ([], 7, -1) else (insF f (L.filter (keepF f)), 0, -1) := by
  have hu : upF L f = insF f (L.filter (keepF f)) := by unfold upF; rw [if_neg hle]
  unfold raiseF
  rw [check_goodF h, if_pos rfl, if_pos h1, hu]
theorem filter_nn {L : List Flo} (p : Flo → Bool) : (L.filter fun f => !(!p f)) = L.filter p := by simp
set_option maxHeartbeats 4000000 in
set_option maxRecDepth 100000 in
theorem raise_flo0 {E : Nat → Addr} (v : Value) (L : List Flo) (f : Flo) (w : World) (hL : Laid E w) (hv : FloorsAt w v L) (hm : ∀ f ∈ L, f.who.length ≤ maxLen) (hf : f.who.length ≤ maxLen) (hq : (checkF L).1 = 0 → oneF f = 0 → f.ep ≤ ofF L f.who) :
    Calls Tryd.prog 16 #[v, f.val] w fun e w' => RaiseRes E w.heap.size w' (raiseF L f) e ∧ Below w.heap.size w w' := by
  have hA : Below w.heap.size w (w.alloc (.cells f.cells.toArray 39)) := (Below.refl _ _).alloc (Nat.le_refl _) _
  have hck := Lib.hid (check_flo (E := E) v L _ (hL.below hA) (hv.below hA) hm)
  have hri := Lib.hid (fun wx (hx : Below w.heap.size w wx) => right_flo (E := E) f wx (hL.below hx) hf)
  have hof := Lib.hid (fun wx (hx : Below w.heap.size w wx) => of_flo v L f.who wx (hv.below hx) hm)
  have hbox := heap_alloc_new w (.cells f.cells.toArray 39)
  obtain ⟨fw, fe⟩ := f
  dsimp only [Flo.val, Flo.cells] at *
  have hbox := Lib.hid hbox
  have hAH := Lib.hid hA
  have hvH := Lib.hid hv
  have hmH := Lib.hid hm
  have hqH := Lib.hid hq
  clear hA hv hm hq
  obtain ⟨a0, c0, rfl, hmx, _, _⟩ := id hvH.out
  unfold maxLen at hmx
  by_cases hc0 : (checkF L).1 = 0
  case neg =>
    have hr := Lib.hid (raiseF_check (f := ⟨fw, fe⟩) hc0)
    have hc0H := Lib.hid hc0
    clear hc0
    go_enter Tryd.func16, Tryd.ntmps16
    go_wp2_with fail
    refine hck.out.mono ?_
    rintro e w1 ⟨ev, rfl, he, hb1⟩
    obtain ⟨T, x, rfl⟩ := he.iface hc0H.out
    have he := Lib.hid he
    have hb1 := Lib.hid (below_trans hAH.out hb1)
    go_wp2_with fail
    go_ret2
    exact ⟨RaiseRes.mk hr.out (FlRow.nil _ _) he.out, hb1.out⟩
  have hgood := goodF_check hc0
  have hlen21 := hgood.len
  have hgood := Lib.hid hgood
  have hc0H := Lib.hid hc0
  clear hc0
  cases ho : oneF ⟨fw, fe⟩ with
  | succ cd =>
    rw [ho, errV_succ] at hri
    have hr := Lib.hid (show raiseF L ⟨fw, fe⟩ = ([], cd + 1, -1) by rw [raiseF_one hc0H.out (by rw [ho]; exact Nat.succ_ne_zero _), ho])
    clear ho
    go_enter Tryd.func16, Tryd.ntmps16
    go_wp2_with fail
    refine hck.out.mono ?_
    rintro e w1 ⟨ev, rfl, he, hb1⟩
    obtain ⟨rfl, _⟩ := he.zero hc0H.out
    have hrow1 := heap_down hb1 hbox.out
    have d0 : w1.cell? ⟨w.heap.size, 0, none⟩ = some (.string (bs fw)) := by rw [cell_of_row _ _ _ _ _ _ hrow1]; rfl
    have d1 : w1.cell? ⟨w.heap.size, 1, none⟩ = some (.int .i64 fe) := by rw [cell_of_row _ _ _ _ _ _ hrow1]; rfl
    have hb1 := Lib.hid (below_trans hAH.out hb1)
    clear hrow1 he
    go_wp2_with fail
    refine (hri.out _ hb1.out).mono ?_
    rintro e w2 ⟨rfl, hb2⟩
    have hb2 := Lib.hid (below_trans hb1.out hb2)
    go_wp2_with fail
    go_ret2
    exact ⟨RaiseRes.mk hr.out (FlRow.nil _ _) (ErrAt.bare (cd + 1)), hb2.out⟩
  | zero =>
  rw [ho, errV_zero] at hri
  have hoH := Lib.hid ho
  clear ho
  have hgv0 := hvH.out
  have hle : fe ≤ ofF L fw := hqH.out hc0H.out hoH.out
  · have hr := Lib.hid (raiseF_low hgood.out hoH.out hle)
    have hcl := Lib.hid (fun wx (hx : Below w.heap.size w wx) => clone_flo _ L wx (hvH.out.below hx) (by omega))
    generalize ofF L fw = oq at *
    go_enter Tryd.func16, Tryd.ntmps16
    go_wp2_with fail
    refine hck.out.mono ?_
    rintro e w1 ⟨ev, rfl, he, hb1⟩
    obtain ⟨rfl, _⟩ := he.zero hc0H.out
    have hrow1 := heap_down hb1 hbox.out
    have d0 : w1.cell? ⟨w.heap.size, 0, none⟩ = some (.string (bs fw)) := by rw [cell_of_row _ _ _ _ _ _ hrow1]; rfl
    have d1 : w1.cell? ⟨w.heap.size, 1, none⟩ = some (.int .i64 fe) := by rw [cell_of_row _ _ _ _ _ _ hrow1]; rfl
    have hb1 := Lib.hid (below_trans hAH.out hb1)
    clear hrow1 he
    go_wp2_with fail
    refine (hri.out _ hb1.out).mono ?_
    rintro e w2 ⟨rfl, hb2⟩
    have d0 := cell_below hb2 d0
    have d1 := cell_below hb2 d1
    have hb2 := Lib.hid (below_trans hb1.out hb2)
    have hk := Lib.hid (fun (wx : World) (hx : Below w2.heap.size w2 wx) => (show Below w2.heap.size w2 wx ∧ wx.cell? ⟨w.heap.size, 0, none⟩ = some (.string (bs fw)) ∧ wx.cell? ⟨w.heap.size, 1, none⟩ = some (.int .i64 fe) from ⟨hx, cell_below hx d0, cell_below hx d1⟩))
    have hS : Below w2.heap.size w2 w2 := Below.refl _ _
    go_wp2_with fail
    go_region_held3 (fun w' => Below w2.heap.size w2 w' ∧ w'.cell? ⟨w.heap.size, 0, none⟩ = some (.string (bs fw)) ∧ w'.cell? ⟨w.heap.size, 1, none⟩ = some (.int .i64 fe))
      ((refine hk.out _ ?_; (first | exact hS | exact hS.drew)))
      ((refine (hof.out _ (below_trans hb2.out (by first | exact hS | exact hS.drew))).mono ?_; rintro e w' ⟨rfl, hbx⟩; have hS : Below w2.heap.size w2 w' := below_trans (by first | exact hS | exact hS.drew) hbx))
    all_goals
      have hb3 := Lib.hid (below_trans hb2.out (by first | exact hS | exact hS.drew))
      go_wp2_with fail
      refine (hcl.out _ hb3.out).mono ?_
      rintro e w4 ⟨v4, rfl, hrow4, hb4⟩
      have hrow4 := hrow4.mono hb3.out.size
      have hrow4 := Lib.hid hrow4
      have hb4 := Lib.hid (below_trans hb3.out hb4)
      go_wp2_with fail
      go_ret2
      exact ⟨RaiseRes.mk hr.out hrow4.out (ErrAt.bare 0), hb4.out⟩
end Go.Proofs.YtphjjaanclpagaaDoor
