/- FloRa, FloRb, FedF, RefE2 -/
import Derived.Test.YtfbndfkahodheaaGreatDoorMg17
import Derived.Test.YtfbndfkahodheaaGreatDoorMg10
import Derived.Test.YtfbndfkahodheaaGreatDoorMg5
import Derived.Test.YtfbndfkahodheaaGreatDoorMg11
import Derived.Test.YtfbndfkahodheaaGreatDoorMg15
import Derived.Test.YtfbndfkahodheaaGreatDoorMg16
/- floor.Raise, walked. -/
namespace Go.Proofs.YtfbndfkahodheaaGreatDoor
open Go.RowKit Go.Shelf Go.Lib

/-- What Raise hands back: floors of its own, an error. -/
def RaiseRes (E : Nat → Addr) (base : Nat) (w' : World) (r : List Flo × Nat × Int) (e : Ending) : Prop := ∃ v ev, e = .returned (.tuple #[v, ev]) ∧ FlRow w' base v r.1 ∧ ErrAt E w' ev r.2.1 r.2.2
theorem RaiseRes.mk {E : Nat → Addr} {base : Nat} {w' : World} {r : List Flo × Nat × Int} {v ev : Value} {L : List Flo} {c : Nat} {a : Int} (hr : r = (L, c, a)) (hv : FlRow w' base v L) (he : ErrAt E w' ev c a) : RaiseRes E base w' r (.returned (.tuple #[v, ev])) := by
  subst hr
  exact ⟨v, ev, rfl, hv, he⟩
theorem FlRow.nil (w : World) (base : Nat) : FlRow w base (.slice none 0 0) [] := World.ownsRow_nil _ _ _ _
theorem FlRow.sl {w : World} {base : Nat} {v : Value} {L : List Flo} (h : FlRow w base v L) : ∃ a c, v = .slice a L.length c := by
  rcases h.shape with ⟨rfl, rfl⟩ | ⟨g, cap, cur, rfl, _⟩
  · exact ⟨_, _, rfl⟩
  · exact ⟨_, _, rfl⟩
theorem raiseF_check {L : List Flo} {f : Flo} (h : (checkF L).1 ≠ 0) : raiseF L f = ([], (checkF L).1, (checkF L).2) := by unfold raiseF; rw [if_neg h]
theorem raiseF_one {L : List Flo} {f : Flo} (h : (checkF L).1 = 0) (h1 : oneF f ≠ 0) : raiseF L f = ([], oneF f, -1) := by unfold raiseF; rw [if_pos h, if_neg h1]
theorem raiseF_low {L : List Flo} {f : Flo} (h : GoodF L) (h1 : oneF f = 0) (hle : f.ep ≤ ofF L f.who) : raiseF L f = (L, 0, -1) := by
  have hu := upF_same hle
  rw [raiseF_of h h1 (by rw [hu]; exact h.len), hu]
theorem raiseF_up {L : List Flo} {f : Flo} (h : GoodF L) (h1 : oneF f = 0) (hle : ¬ f.ep ≤ ofF L f.who) : raiseF L f = if 21 < (insF f (L.filter (keepF f))).length then ([], 7, -1) else (insF f (L.filter (keepF f)), 0, -1) := by
  have hu : upF L f = insF f (L.filter (keepF f)) := by unfold upF; rw [if_neg hle]
  unfold raiseF
  rw [check_goodF h, if_pos rfl, if_pos h1, hu]
theorem filter_nn {L : List Flo} (p : Flo → Bool) : (L.filter fun f => !(!p f)) = L.filter p := by simp
set_option maxHeartbeats 4000000 in
set_option maxRecDepth 100000 in
theorem raise_flo0 {E : Nat → Addr} (v : Value) (L : List Flo) (f : Flo) (w : World) (hL : Laid E w) (hv : FloorsAt w v L) (hm : ∀ f ∈ L, f.who.length ≤ maxLen) (hf : f.who.length ≤ maxLen) (hq : (checkF L).1 = 0 → oneF f = 0 → f.ep ≤ ofF L f.who) :
    Calls Tryz.prog 52 #[v, f.val] w fun e w' => RaiseRes E w.heap.size w' (raiseF L f) e ∧ Below w.heap.size w w' := by
  have hA : Below w.heap.size w (w.alloc (.cells f.cells.toArray 24)) := (Below.refl _ _).alloc (Nat.le_refl _) _
  have hck := Lib.hid (check_flo (E := E) v L _ (hL.below hA) (hv.below hA) hm)
  have hri := Lib.hid (fun wx (hx : Below w.heap.size w wx) => right_flo (E := E) f wx (hL.below hx) hf)
  have hof := Lib.hid (fun wx (hx : Below w.heap.size w wx) => of_flo v L f.who wx (hv.below hx) hm)
  have hbox := heap_alloc_new w (.cells f.cells.toArray 24)
  obtain ⟨fw, fe⟩ := f
  dsimp only [Flo.val, Flo.cells] at *
  have hbox := Lib.hid hbox
  have hAH := Lib.hid hA
  have hvH := Lib.hid hv
  have hmH := Lib.hid hm
  have hqH := Lib.hid hq
  clear hA hv hm hq
  obtain ⟨a0, c0, rfl, hmx, _, _⟩ := id hvH.out
  unfold maxLen at hmx
  by_cases hc0 : (checkF L).1 = 0
  case neg =>
    have hr := Lib.hid (raiseF_check (f := ⟨fw, fe⟩) hc0)
    have hc0H := Lib.hid hc0
    clear hc0
    go_enter Tryz.func52, Tryz.ntmps52
    go_wp2_with fail
    refine hck.out.mono ?_
    rintro e w1 ⟨ev, rfl, he, hb1⟩
    obtain ⟨T, x, rfl⟩ := he.iface hc0H.out
    have he := Lib.hid he
    have hb1 := Lib.hid (below_trans hAH.out hb1)
    go_wp2_with fail
    go_ret2
    exact ⟨RaiseRes.mk hr.out (FlRow.nil _ _) he.out, hb1.out⟩
  have hgood := goodF_check hc0
  have hlen21 := hgood.len
  have hgood := Lib.hid hgood
  have hc0H := Lib.hid hc0
  clear hc0
  cases ho : oneF ⟨fw, fe⟩ with
  | succ cd =>
    rw [ho, errV_succ] at hri
    have hr := Lib.hid (show raiseF L ⟨fw, fe⟩ = ([], cd + 1, -1) by rw [raiseF_one hc0H.out (by rw [ho]; exact Nat.succ_ne_zero _), ho])
    clear ho
    go_enter Tryz.func52, Tryz.ntmps52
    go_wp2_with fail
    refine hck.out.mono ?_
    rintro e w1 ⟨ev, rfl, he, hb1⟩
    obtain ⟨rfl, _⟩ := he.zero hc0H.out
    have hrow1 := heap_down hb1 hbox.out
    have d0 : w1.cell? ⟨w.heap.size, 0, none⟩ = some (.string (bs fw)) := by rw [cell_of_row _ _ _ _ _ _ hrow1]; rfl
    have d1 : w1.cell? ⟨w.heap.size, 1, none⟩ = some (.int .i64 fe) := by rw [cell_of_row _ _ _ _ _ _ hrow1]; rfl
    have hb1 := Lib.hid (below_trans hAH.out hb1)
    clear hrow1 he
    go_wp2_with fail
    refine (hri.out _ hb1.out).mono ?_
    rintro e w2 ⟨rfl, hb2⟩
    have hb2 := Lib.hid (below_trans hb1.out hb2)
    go_wp2_with fail
    go_ret2
    exact ⟨RaiseRes.mk hr.out (FlRow.nil _ _) (ErrAt.bare (cd + 1)), hb2.out⟩
  | zero =>
  rw [ho, errV_zero] at hri
  have hoH := Lib.hid ho
  clear ho
  have hgv0 := hvH.out
  have hle : fe ≤ ofF L fw := hqH.out hc0H.out hoH.out
  · have hr := Lib.hid (raiseF_low hgood.out hoH.out hle)
    have hcl := Lib.hid (fun wx (hx : Below w.heap.size w wx) => clone_flo _ L wx (hvH.out.below hx) (by omega))
    generalize ofF L fw = oq at *
    go_enter Tryz.func52, Tryz.ntmps52
    go_wp2_with fail
    refine hck.out.mono ?_
    rintro e w1 ⟨ev, rfl, he, hb1⟩
    obtain ⟨rfl, _⟩ := he.zero hc0H.out
    have hrow1 := heap_down hb1 hbox.out
    have d0 : w1.cell? ⟨w.heap.size, 0, none⟩ = some (.string (bs fw)) := by rw [cell_of_row _ _ _ _ _ _ hrow1]; rfl
    have d1 : w1.cell? ⟨w.heap.size, 1, none⟩ = some (.int .i64 fe) := by rw [cell_of_row _ _ _ _ _ _ hrow1]; rfl
    have hb1 := Lib.hid (below_trans hAH.out hb1)
    clear hrow1 he
    go_wp2_with fail
    refine (hri.out _ hb1.out).mono ?_
    rintro e w2 ⟨rfl, hb2⟩
    have d0 := cell_below hb2 d0
    have d1 := cell_below hb2 d1
    have hb2 := Lib.hid (below_trans hb1.out hb2)
    have hk := Lib.hid (fun (wx : World) (hx : Below w2.heap.size w2 wx) => (show Below w2.heap.size w2 wx ∧ wx.cell? ⟨w.heap.size, 0, none⟩ = some (.string (bs fw)) ∧ wx.cell? ⟨w.heap.size, 1, none⟩ = some (.int .i64 fe) from ⟨hx, cell_below hx d0, cell_below hx d1⟩))
    have hS : Below w2.heap.size w2 w2 := Below.refl _ _
    go_wp2_with fail
    go_region_held3 (fun w' => Below w2.heap.size w2 w' ∧ w'.cell? ⟨w.heap.size, 0, none⟩ = some (.string (bs fw)) ∧ w'.cell? ⟨w.heap.size, 1, none⟩ = some (.int .i64 fe))
      ((refine hk.out _ ?_; (first | exact hS | exact hS.drew)))
      ((refine (hof.out _ (below_trans hb2.out (by first | exact hS | exact hS.drew))).mono ?_; rintro e w' ⟨rfl, hbx⟩; have hS : Below w2.heap.size w2 w' := below_trans (by first | exact hS | exact hS.drew) hbx))
    all_goals
      have hb3 := Lib.hid (below_trans hb2.out (by first | exact hS | exact hS.drew))
      go_wp2_with fail
      refine (hcl.out _ hb3.out).mono ?_
      rintro e w4 ⟨v4, rfl, hrow4, hb4⟩
      have hrow4 := hrow4.mono hb3.out.size
      have hrow4 := Lib.hid hrow4
      have hb4 := Lib.hid (below_trans hb3.out hb4)
      go_wp2_with fail
      go_ret2
      exact ⟨RaiseRes.mk hr.out hrow4.out (ErrAt.bare 0), hb4.out⟩
end Go.Proofs.YtfbndfkahodheaaGreatDoor

/- floor.Raise where a floor rises, walked; and all ways as one. -/
namespace Go.Proofs.YtfbndfkahodheaaGreatDoor
open Go.RowKit Go.Shelf Go.Lib

theorem insF_take (f : Flo) : ∀ L, insF f L = L.take (lessF L f.who) ++ f :: L.drop (lessF L f.who)
  | [] => rfl
  | q :: r => by
    unfold insF lessF
    by_cases h : q.who < f.who
    · rw [if_pos h, List.takeWhile_cons_of_pos (by simpa using h), insF_take f r]
      rfl
    · rw [if_neg h, List.takeWhile_cons_of_neg (by simpa using h)]
      rfl
theorem len_keep (L : List Flo) (p : Flo → Bool) : (L.filter p).length ≤ L.length := List.length_filter_le _ _
set_option maxHeartbeats 8000000 in
set_option maxRecDepth 100000 in
theorem raise_up {E : Nat → Addr} (v : Value) (L : List Flo) (f : Flo) (w : World) (hL : Laid E w) (hv : FloorsAt w v L) (hm : ∀ f ∈ L, f.who.length ≤ maxLen) (hf : f.who.length ≤ maxLen) (hc0 : (checkF L).1 = 0) (ho : oneF f = 0) (hle : ¬ f.ep ≤ ofF L f.who) :
    Calls Tryz.prog 52 #[v, f.val] w fun e w' => RaiseRes E w.heap.size w' (raiseF L f) e ∧ Below w.heap.size w w' := by
  have hA : Below w.heap.size w (w.alloc (.cells f.cells.toArray 24)) := (Below.refl _ _).alloc (Nat.le_refl _) _
  have hck := Lib.hid (check_flo (E := E) v L _ (hL.below hA) (hv.below hA) hm)
  have hri := Lib.hid (fun wx (hx : Below w.heap.size w wx) => right_flo (E := E) f wx (hL.below hx) hf)
  have hof := Lib.hid (fun wx (hx : Below w.heap.size w wx) => of_flo v L f.who wx (hv.below hx) hm)
  have hgood := goodF_check hc0
  have hlen21 := hgood.len
  have hcl := Lib.hid (fun wx (hx : Below w.heap.size w wx) => clone_flo _ L wx (hv.below hx) (by omega))
  have hr := raiseF_up hgood ho hle
  have hbox := heap_alloc_new w (.cells f.cells.toArray 24)
  have hsrt : (L.filter (keepF f)).Pairwise (fun f g => f.who < g.who) := hgood.g.sorted.filter _
  have hlk := len_keep L (keepF f)
  have hmK : ∀ g ∈ L.filter (keepF f), g.who.length ≤ maxLen := fun g hg => hm g (List.mem_filter.1 hg).1
  have hE9 := Lib.hid (fun wx (hx : Below w.heap.size w wx) => (hL.below hx).e7)
  rw [ho, errV_zero] at hri
  have hel : (insF f (L.filter (keepF f))).length = (L.filter (keepF f)).length + 1 := insF_length f _
  have hiF := insF_take f (L.filter (keepF f))
  have hll := lessF_le (L.filter (keepF f)) f.who
  have hasks := Lib.hid (fun b wx h0 h1 => raise1_asks f b wx h0 h1)
  have hdel := Lib.hid (fun v1 (wb wx : World) (hrow : FlRow wx wb.heap.size v1 L) (hb : Below wb.heap.size wb wx) b h0 h1 => delf_flo wb v1 L 83 #[.pointer (some ⟨b, 0, none⟩)] (fun g => !keepF f g) wx hrow (by omega) hm hb (raise1_asks f b wb h0 h1) (enters_of Tryz.func83 (by kernel_rfl) rfl))
  rw [filter_nn] at hdel
  have hbs := Lib.hid (fun (base : Nat) v2 wx (hrow : FlRow wx base v2 (L.filter (keepF f))) => bsearch_flo v2 (L.filter (keepF f)) f wx (hrow.at_ (by unfold maxLen; omega)) (by omega) hsrt)
  have hin := Lib.hid (fun (base : Nat) v2 gv wx (hrow : FlRow wx base v2 (L.filter (keepF f))) hgv hne hbase => ins_flo base v2 (L.filter (keepF f)) (lessF (L.filter (keepF f)) f.who) f gv wx hrow (by omega) hll hgv hne hbase)
  rw [← hiF] at hin
  generalize hM : L.filter (keepF f) = M at *
  generalize hlf : lessF M f.who = kk at *
  generalize hI : insF f M = I at *
  have hel2 : I.length ≤ 22 := by omega
  clear hM hlf hI hiF hgood hsrt hmK hasks hel
  have hck0 := Lib.hid hc0
  have hvH := Lib.hid hv
  obtain ⟨fw, fe⟩ := f
  dsimp only [Flo.val, Flo.cells] at *
  have hbox := Lib.hid hbox
  have hAH := Lib.hid hA
  have hrH := Lib.hid hr
  have hle2 : ofF L fw < fe := by omega
  generalize ofF L fw = oq at *
  clear hA hv hm hc0 hr ho hle
  obtain ⟨a0, c0, rfl, hmx, _, _⟩ := id hvH.out
  unfold maxLen at hmx
  go_enter Tryz.func52, Tryz.ntmps52
  go_wp2_with fail
  refine hck.out.mono ?_
  rintro e w1 ⟨ev, rfl, he, hb1⟩
  obtain ⟨rfl, _⟩ := he.zero hck0.out
  have hrow1 := heap_down hb1 hbox.out
  have d0 : w1.cell? ⟨w.heap.size, 0, none⟩ = some (.string (bs fw)) := by rw [cell_of_row _ _ _ _ _ _ hrow1]; rfl
  have d1 : w1.cell? ⟨w.heap.size, 1, none⟩ = some (.int .i64 fe) := by rw [cell_of_row _ _ _ _ _ _ hrow1]; rfl
  have hb1 := Lib.hid (below_trans hAH.out hb1)
  clear hrow1 he
  go_wp2_with fail
  refine (hri.out _ hb1.out).mono ?_
  rintro e w2 ⟨rfl, hb2⟩
  have d0 := cell_below hb2 d0
  have d1 := cell_below hb2 d1
  have hb2 := Lib.hid (below_trans hb1.out hb2)
  have hk := Lib.hid (fun (wx : World) (hx : Below w2.heap.size w2 wx) => (show Below w2.heap.size w2 wx ∧ wx.cell? ⟨w.heap.size, 0, none⟩ = some (.string (bs fw)) ∧ wx.cell? ⟨w.heap.size, 1, none⟩ = some (.int .i64 fe) from ⟨hx, cell_below hx d0, cell_below hx d1⟩))
  have hS : Below w2.heap.size w2 w2 := Below.refl _ _
  go_wp2_with fail
  go_region_held3 (fun w' => Below w2.heap.size w2 w' ∧ w'.cell? ⟨w.heap.size, 0, none⟩ = some (.string (bs fw)) ∧ w'.cell? ⟨w.heap.size, 1, none⟩ = some (.int .i64 fe))
    ((refine hk.out _ ?_; (first | exact hS | exact hS.drew)))
    ((refine (hof.out _ (below_trans hb2.out (by first | exact hS | exact hS.drew))).mono ?_; rintro e w' ⟨rfl, hbx⟩; have hS : Below w2.heap.size w2 w' := below_trans (by first | exact hS | exact hS.drew) hbx))
  all_goals
    have hS3 : Below w2.heap.size w2 _ := (by first | exact hS | exact hS.drew)
    obtain ⟨_, e0, e1⟩ := hk.out _ hS3
    have hb3 := Lib.hid (below_trans hb2.out hS3)
    clear d0 d1
    go_wp2_with fail
    refine (hcl.out _ hb3.out).mono ?_
    rintro e w4 ⟨v4, rfl, hrow4, hb4⟩
    have hdl := Lib.hid (hdel.out _ _ _ hrow4 hb4 _ e0 e1)
    have hz4 := hb4.size
    go_wp2_with fail
    refine hdl.out.mono ?_
    rintro e w5 ⟨v5, rfl, hrow5, hb5⟩
    have e0 := cell_below hb5 e0
    have e1 := cell_below hb5 e1
    have hbq := Lib.hid (hbs.out _ _ _ hrow5)
    have hrow5 := Lib.hid hrow5
    have hb5 := Lib.hid hb5
    go_wp2_with fail
    refine hbq.out.mono ?_
    rintro e w6 ⟨bq, rfl, hb6⟩
    have e0 := cell_below hb6 e0
    have e1 := cell_below hb6 e1
    have hrow6 := hrow5.out.below hb6
    have hb6 := hb5.out.trans (hb6.mono hb5.out.size)
    have hz6 := hb6.size
    have hbA : Below w6.heap.size w6 (w6.alloc (.cells #[.string (bs fw), .int .i64 fe] 24)) := (Below.refl _ _).alloc (Nat.le_refl _) _
    have hne : ∀ g, v5.ownBlock = some g → w6.heap.size ≠ g := fun g hg e => by
      obtain ⟨_, cs, h⟩ := ownsRow_block hrow6 hg
      have := (Array.getElem?_eq_some_iff.1 h).1
      omega
    have hins := Lib.hid (hin.out _ _ w6.heap.size _ (hrow6.below hbA) (heap_alloc_new w6 _) hne (by rw [World.size_alloc]; omega))
    have hb6 := Lib.hid (hb6.trans (hbA.mono hz6))
    clear hrow6 hne hbA
    go_wp2_with fail
    refine hins.out.mono ?_
    rintro e w7 ⟨v7, rfl, hrow7, hb7⟩
    obtain ⟨a7, c7, rfl⟩ := hrow7.sl
    have hrow7 := Lib.hid hrow7
    have hb7 := hb6.out.trans hb7
    have hb7 := Lib.hid (below_trans hb3.out hb7)
    have he7 := Lib.hid (hE9.out _ hb7.out)
    by_cases h21 : 21 < I.length
    · have hr := Lib.hid (hrH.out.trans (if_pos h21))
      have h21i : (21 : Int) < (I.length : Int) := by omega
      have he7 := he7.out
      go_wp2_with fail
      go_quiet (fail)
      go_wp2_with fail
      go_ret2
      exact ⟨RaiseRes.mk hr.out (FlRow.nil _ _) (ErrAt.bare 7), below_drawn hb7.out _⟩
    · have hr := Lib.hid (hrH.out.trans (if_neg h21))
      have h21i : ¬ (21 : Int) < (I.length : Int) := by omega
      have hrow8 := Lib.hid (hrow7.out.mono (base' := w.heap.size) (by have := hb3.out.size; omega))
      go_wp2_with fail
      go_ret2
      exact ⟨RaiseRes.mk hr.out hrow8.out (ErrAt.bare 0), hb7.out⟩
theorem raise_flo {E : Nat → Addr} (v : Value) (L : List Flo) (f : Flo) (w : World) (hL : Laid E w) (hv : FloorsAt w v L) (hm : ∀ f ∈ L, f.who.length ≤ maxLen) (hf : f.who.length ≤ maxLen) :
    Calls Tryz.prog 52 #[v, f.val] w fun e w' => RaiseRes E w.heap.size w' (raiseF L f) e ∧ Below w.heap.size w w' := by
  by_cases h : (checkF L).1 = 0 ∧ oneF f = 0 ∧ ¬ f.ep ≤ ofF L f.who
  · exact raise_up v L f w hL hv hm hf h.1 h.2.1 h.2.2
  · exact raise_flo0 v L f w hL hv hm hf (fun h1 h2 => Classical.byContradiction fun h3 => h ⟨h1, h2, h3⟩)
end Go.Proofs.YtfbndfkahodheaaGreatDoor

/- feed.Floors: walked. -/
namespace Go.Proofs.YtfbndfkahodheaaGreatDoor
open Go.RowKit

theorem floorsE_check {L : List Ent} (h : (checkE L).1 ≠ 0) : floorsE L = ([], (checkE L).1, (checkE L).2) := by unfold floorsE; rw [if_neg h]
theorem foldR_at (L : List Ent) (j : Nat) (hj : j < L.length) (h : (foldR [] (L.take j)).2 = 0) : foldR [] (L.take (j + 1)) = foldR (foldR [] (L.take j)).1 [L[j]] := by
  rw [List.take_succ_eq_append_getElem hj, foldR_append, if_pos h]
theorem foldR_stop (L : List Ent) (j : Nat) (h : (foldR [] (L.take j)).2 ≠ 0) : foldR [] L = foldR [] (L.take j) := by
  have := foldR_append (L.take j) (L.drop j) []
  rw [List.take_append_drop, if_neg h] at this
  exact this
theorem who_len {f : Flo} (h : oneF f = 0) : f.who.length ≤ maxLen := by
  rcases (oneF_zero h).1 with h1 | h1
  · rw [h1]; decide
  · have := ((isName_iff _).1 h1).2.1
    unfold maxLen
    omega
set_option maxHeartbeats 4000000 in
set_option maxRecDepth 100000 in
theorem floors_ent {E : Nat → Addr} (v : Value) (L : List Ent) (w : World) (hL : Laid E w) (hv : EntsAt w v L) (hm : ∀ e ∈ L, e.f.who.length ≤ maxLen) :
    Calls Tryz.prog 15 #[v] w fun e w' => RaiseRes E w.heap.size w' (floorsE L) e ∧ Below w.heap.size w w' := by
  have hck := Lib.hid (check_ent (E := E) v L w hL hv hm)
  have hlen := AtG.len hv
  unfold maxLen at hlen
  have hga := Lib.hid (fun wx (hx : Below w.heap.size w wx) => EntsAt.get (AtG.below hv hx))
  obtain ⟨a0, c0, hv0⟩ := AtG.sl hv
  have hra := Lib.hid (fun (vx : Value) (F : List Flo) (f : Flo) (wx : World) (hx : Below w.heap.size w wx) (hvx : FloorsAt wx vx F) (hF : GoodF F) (hf : f.who.length ≤ maxLen) => raise_flo (E := E) vx F f wx (hL.below hx) hvx (fun g hg => who_len (hF.g.one g hg)) hf)
  have hmH := Lib.hid hm
  clear hv hm hL
  subst hv0
  by_cases hc0 : (checkE L).1 = 0
  case neg =>
    have hr := Lib.hid (floorsE_check hc0)
    have hc0H := Lib.hid hc0
    clear hc0 hra hga
    go_enter Tryz.func15, Tryz.ntmps15
    go_wp2_with fail
    refine hck.out.mono ?_
    rintro e w1 ⟨ev, rfl, he, hb1⟩
    obtain ⟨T, x, rfl⟩ := he.iface hc0H.out
    have he := Lib.hid he
    have hb1 := Lib.hid hb1
    go_wp2_with fail
    go_ret2
    exact ⟨RaiseRes.mk hr.out (FlRow.nil _ _) he.out, hb1.out⟩
  have hc0H := Lib.hid hc0
  have hfE := Lib.hid (show floorsE L = ((foldR [] L).1, (foldR [] L).2, -1) by unfold floorsE; rw [if_pos hc0])
  clear hc0
  go_enter Tryz.func15, Tryz.ntmps15
  go_wp2_with fail
  refine hck.out.mono ?_
  rintro e w1 ⟨ev, rfl, he, hb1⟩
  obtain ⟨rfl, _⟩ := he.zero hc0H.out
  have hb1H := Lib.hid hb1
  clear he hb1 hck
  go_wp2_with fail
  go_loopg [5, 17] (L.length + 1) (fun g v5 i wr => ∃ (F : List Flo) (j : Nat), i = .int .i64 j ∧ j ≤ L.length ∧ L.length - j + 1 ≤ g ∧ Hid (FlRow wr w.heap.size v5 F ∧ foldR [] (L.take j) = (F, 0) ∧ GoodF F) ∧ Hid (Below w.heap.size w wr))
  case atStart => exact ⟨[], 0, rfl, Nat.zero_le _, by omega, Lib.hid ⟨FlRow.nil _ _, rfl, goodF_nil⟩, hb1H⟩
  case round =>
    obtain ⟨F, j, rfl, hj, hgj, hF, hK⟩ := hrel
    obtain ⟨a5, c5, hv5⟩ := hF.out.1.sl
    subst hv5
    by_cases hlt : j < L.length
    · have hk0 : (0 : Int) ≤ (j : Int) := by omega
      have hk1 : (j : Int) < (L.length : Int) := by omega
      obtain ⟨_, _, he, _, _, hc⟩ := hga.out _ hK.out
      cases he
      obtain ⟨b, o, rfl, d0, d1, d2, d3⟩ := hc j hlt
      clear hc
      have hstep := foldR_at L j hlt (by rw [hF.out.2.1])
      rw [hF.out.2.1] at hstep
      have hstop := Lib.hid (fun h => foldR_stop L (j + 1) h)
      have hwho := hmH.out _ (List.getElem_mem hlt)
      generalize L[j] = ej at *
      obtain ⟨es, et, ⟨fw, fe⟩⟩ := ej
      dsimp only at d0 d1 d2 d3 hwho
      have hstep := Lib.hid hstep
      have hsz := Lib.hid hK.out.size
      have hr := Lib.hid (fun wx (hx : Below wr.heap.size wr wx) => hra.out _ F ⟨fw, fe⟩ wx (below_trans hK.out hx) (floorsAt_of (RowG.at_ (floRow_G.1 (hF.out.1.below hx)))) hF.out.2.2 hwho)
      have hA := Lib.hid (fun o : Obj => (Below.refl wr.heap.size wr).alloc (Nat.le_refl _) o)
      clear hwho
      go_wp2_with fail
      refine (hr.out _ (hA.out _)).mono ?_
      rintro e w2 ⟨⟨v6, ev6, rfl, hrow6, he6⟩, hb2⟩
      have hfz := Lib.hid hrow6
      by_cases hz : (raiseF F ⟨fw, fe⟩).2.1 = 0
      · obtain ⟨rfl, _⟩ := he6.zero hz
        have hF2 : foldR [] (L.take (j + 1)) = ((raiseF F ⟨fw, fe⟩).1, 0) := by
          rw [hstep.out]
          unfold foldR
          rw [if_pos hz]
          rfl
        have hG2 : GoodF (raiseF F ⟨fw, fe⟩).1 := by
          obtain ⟨_, _, h1, h2⟩ := raiseF_zero hz
          rw [h2]
          exact h1
        have hrow6 := hrow6.mono (base' := w.heap.size) (by rw [World.size_alloc]; have := hsz.out; omega)
        have hF3 := Lib.hid (show FlRow w2 w.heap.size v6 (raiseF F ⟨fw, fe⟩).1 ∧ foldR [] (L.take (j + 1)) = ((raiseF F ⟨fw, fe⟩).1, 0) ∧ GoodF (raiseF F ⟨fw, fe⟩).1 from ⟨hrow6, hF2, hG2⟩)
        have hb2 := Lib.hid (below_trans hK.out (below_trans (hA.out _) hb2))
        clear hF2 hG2 hrow6 he6 hz hfz
        go_wp2_with fail
        go_roundg (L.length - j)
        case measure => omega
        case rel => exact ⟨_, j + 1, by simp, hlt, by omega, hF3, hb2⟩
      · have hz2 : (foldR [] (L.take (j + 1))).2 = (raiseF F ⟨fw, fe⟩).2.1 ∧ (foldR [] (L.take (j + 1))).1 = [] := by
          rw [hstep.out]
          unfold foldR
          rw [if_neg hz]
          exact ⟨rfl, rfl⟩
        have hfe : floorsE L = ([], (raiseF F ⟨fw, fe⟩).2.1, -1) := by
          rw [hfE.out, hstop.out (by rw [hz2.1]; exact hz), hz2.1, hz2.2]
        have hfe := Lib.hid hfe
        obtain ⟨T6, x6, rfl⟩ := he6.iface hz
        have hba := Lib.hid (bare_err _ _ _ w2 he6)
        have hb2 := Lib.hid (below_trans hK.out (below_trans (hA.out _) hb2))
        clear hz2 hrow6 he6 hz hfz
        go_wp2_with fail
        refine hba.out.mono ?_
        rintro e w3 ⟨rfl, rfl⟩
        go_wp2_with fail
        go_ret2
        exact ⟨RaiseRes.mk hfe.out (FlRow.nil _ _) (ErrAt.bare _), hb2.out⟩
    · have hge : ¬ ((j : Int) < (L.length : Int)) := by omega
      have hfe := Lib.hid (show floorsE L = (F, 0, -1) by
        have h1 := hF.out.2.1
        rw [List.take_of_length_le (by omega)] at h1
        rw [hfE.out, h1])
      have hrow := Lib.hid hF.out.1
      go_wp2_with fail
      go_ret2
      exact ⟨RaiseRes.mk hfe.out hrow.out (ErrAt.bare 0), hK.out⟩
end Go.Proofs.YtfbndfkahodheaaGreatDoor

/- The reference's feeds: FloorsOf: walked. -/
namespace Go.Proofs.YtfbndfkahodheaaGreatDoor
open Go.RowKit

theorem foldR_snocR {L : List Ent} {j : Nat} (h : j < L.length) (h0 : (foldR [] (L.take j)).2 = 0) :
    foldR [] (L.take (j + 1)) = (if (raiseF (foldR [] (L.take j)).1 L[j].f).2.1 = 0 then ((raiseF (foldR [] (L.take j)).1 L[j].f).1, 0) else ([], (raiseF (foldR [] (L.take j)).1 L[j].f).2.1)) := by
  rw [List.take_add_one, List.getElem?_eq_getElem h, Option.toList_some, foldR_append, if_pos h0]
  rfl
theorem foldR_stopR {L : List Ent} {j : Nat} (h : j < L.length) (h0 : (foldR [] (L.take j)).2 = 0) (hb : (raiseF (foldR [] (L.take j)).1 L[j].f).2.1 ≠ 0) :
    foldR [] L = ([], (raiseF (foldR [] (L.take j)).1 L[j].f).2.1) := by
  have h1 := foldR_snocR h h0
  rw [if_neg hb] at h1
  conv => lhs; rw [← List.take_append_drop (j + 1) L]
  rw [foldR_append, h1, if_neg hb]
/-- Two boxes: that of a result that is a fault, and one behind it. -/
structure TBox (n : Nat) (w wx : World) : Prop where
  res : wx.heap[w.heap.size]? = some (.cells #[.int .i64 0, .int .i64 0] 33 (0, 0))
  own : wx.heap[n]? = some (.cells #[.int .i64 0, .int .i64 (-1)] 33 (0, 0))
  ne : w.heap.size < n
  below : Below w.heap.size w wx
theorem TBox.later {n : Nat} {w wx wy : World} (h : TBox n w wx) (hb : Below wx.heap.size wx wy) : TBox n w wy :=
  ⟨heap_down hb h.res, heap_down hb h.own, h.ne, below_trans h.below hb⟩
theorem TBox.fbox {n : Nat} {w wx : World} (h : TBox n w wx) : FBox w wx := ⟨h.res, h.below⟩
theorem TBox.cells {n : Nat} {w wx : World} (h : TBox n w wx) : wx.cell? ⟨n, 0, none⟩ = some (.int .i64 0) ∧ wx.cell? ⟨n, 1, none⟩ = some (.int .i64 (-1)) := (two_kept (Below.refl _ _) h.own).1
set_option maxHeartbeats 8000000 in
set_option maxRecDepth 100000 in
theorem floorsR_ent (v : Value) (L : List Ent) (w : World) (hv : EntsAt w v L) (hm : ∀ e ∈ L, e.f.who.length ≤ maxLen) :
    Calls Tryz.prog 16 #[v] w fun e w' => RaiRes w.heap.size w' (floorsE L) e ∧ Below w.heap.size w w' := by
  have hB0 : FBox w (w.alloc (.cells #[.int .i64 0, .int .i64 0] 33)) := ⟨heap_alloc_new w _, (Below.refl _ _).alloc (Nat.le_refl _) _⟩
  have hff := Lib.hid (feedFaultR_any v L (w.alloc (.cells #[.int .i64 0, .int .i64 0] 33)) (AtG.below hv hB0.2) hm)
  obtain ⟨a, c, rfl, hlen, _, hc⟩ := EntsAt.get hv
  unfold maxLen at hlen
  have hc := Lib.hid hc
  have hm := Lib.hid hm
  have hB0 := Lib.hid hB0
  have hrdef := Lib.hid (show floorsE L = if (checkE L).1 = 0 then ((foldR [] L).1, (foldR [] L).2, -1) else ([], checkE L) from rfl)
  clear hv
  by_cases hck : (checkE L).1 = 0
  case neg =>
    obtain ⟨z, a1, hza⟩ : ∃ (z : Nat) (a1 : Int), checkE L = (z, a1) := ⟨_, _, rfl⟩
    have hr := hrdef.out
    rw [if_neg hck, hza] at hr
    have hr := Lib.hid hr
    have hff := hff.out
    rw [hza] at hck hff
    dsimp only [faultF] at hck hff
    have hz1 : (0 : Int) < (z : Int) := by omega
    have hff := Lib.hid hff
    clear hza hck
    generalize hzd : (z : Int) = zi at *
    have hzd := Lib.hid hzd
    go_enter Tryz.func16, Tryz.ntmps16
    go_wp2_with fail
    refine hff.out.mono ?_
    rintro e w2 ⟨rfl, hb2⟩
    have hR2 := hB0.out.below hb2
    have hRN : FBox w (w2.alloc (.cells #[.int .i64 zi, .int .i64 a1] 33)) := hR2.below ((Below.refl _ _).alloc (Nat.le_refl _) _)
    have hRNH := Lib.hid hRN
    obtain ⟨⟨r0, r1⟩, f0, f1⟩ := hRN.cells
    clear hb2 hR2 hRN
    go_wp2_with fail
    go_region
    all_goals
      go_wp2_with fail
      have hR := hRNH.out.set (.int .i64 zi) (.int .i64 a1)
      have hR0 := set2_first hRNH.out.1 (.int .i64 zi)
      exact bodyPost_ret (v := .tuple #[.slice none 0 0, .agg #[.int .i64 zi, .int .i64 a1]]) (by simp [results, Tryz.results16, go_sem, hR.1, hR0]) rfl ⟨⟨_, by rw [hr.out]; unfold faultF; dsimp only; rw [hzd.out], by rw [hr.out]; exact floorsAt_nil _⟩, hR.2.drew⟩
  have hck2 := checkE_ok hck
  have hr := hrdef.out
  rw [if_pos hck] at hr
  have hrH := Lib.hid hr
  have hff := hff.out
  rw [hck2] at hff
  dsimp only [faultF] at hff
  have hff := Lib.hid hff
  have hgd := Lib.hid (fun j (h : (foldR [] (L.take j)).2 = 0) => (foldR_good (L.take j) [] goodF_nil h).1)
  clear hr hck hck2
  go_enter Tryz.func16, Tryz.ntmps16
  go_wp2_with fail
  refine hff.out.mono ?_
  rintro e w2 ⟨rfl, hb2⟩
  have hR2 := hB0.out.below hb2
  have hRN : TBox w2.heap.size w (w2.alloc (.cells #[.int .i64 0, .int .i64 (-1)] 33)) := ⟨heap_down ((Below.refl _ _).alloc (Nat.le_refl _) _) hR2.1, heap_alloc_new w2 _, (Array.getElem?_eq_some_iff.1 hR2.1).1, hR2.2.alloc hR2.2.size _⟩
  have hRN := Lib.hid hRN
  clear hb2 hR2 hff
  go_wp2_with fail
  generalize w2.heap.size = n4 at *
  go_loopg [5, 6] (L.length + 1) (fun g s5 s6 wr => ∃ j : Nat, s6 = .int .i64 j ∧ j ≤ L.length ∧ L.length - j + 1 ≤ g ∧ Hid ((foldR [] (L.take j)).2 = 0) ∧ Hid (FloorsAt wr s5 (foldR [] (L.take j)).1) ∧ Hid (TBox n4 w wr))
  case atStart => exact ⟨0, rfl, Nat.zero_le _, by omega, Lib.hid rfl, Lib.hid (floorsAt_nil _), hRN⟩
  case round =>
    obtain ⟨j, rfl, hj, hg, hz0, hat, hK⟩ := hrel
    by_cases hlt : j < L.length
    · obtain ⟨b, o, rfl, _, _, d2, d3⟩ := hc.out j hlt
      have d2 := cell_below hK.out.below d2
      have d3 := cell_below hK.out.below d3
      have hk0 : (0 : Int) ≤ (j : Int) := by omega
      have hk1 : (j : Int) < (L.length : Int) := by omega
      have hsn := foldR_snocR hlt hz0.out
      have hsp := foldR_stopR hlt hz0.out
      have hgj := hgd.out j hz0.out
      have hml := hm.out _ (List.getElem_mem hlt)
      obtain ⟨gg, hgg⟩ : ∃ gg, L[j] = gg := ⟨_, rfl⟩
      rw [hgg] at d2 d3 hsn hsp hml
      obtain ⟨s, t, ⟨who, ep⟩⟩ := gg
      have hri := raiseR_flo u5 _ ⟨who, ep⟩ wr hat.out (fun f hf => who_len (hgj.g.one f hf)) hml
      generalize foldR [] (L.take j) = F at *
      obtain ⟨O, oz⟩ := F
      dsimp only at hsn hsp d2 d3 hat hri
      obtain ⟨U, uc, ua, hu⟩ : ∃ U uc ua, raiseF O ⟨who, ep⟩ = (U, uc, ua) := ⟨_, _, _, rfl⟩
      unfold RaiRes at hri
      rw [hu] at hri hsn hsp
      dsimp only [Flo.val, Flo.cells, faultF] at hri hsn hsp
      obtain ⟨a9, c9, hs9, _⟩ := hat.out
      have hri := Lib.hid hri
      subst hs9
      clear hgg hu hat
      by_cases huc : uc = 0
      · rw [if_pos huc] at hsn
        have hsn := Lib.hid hsn
        subst huc
        clear hsp
        go_wp2_with fail
        refine hri.out.mono ?_
        rintro e w5 ⟨⟨v5, rfl, hv5⟩, hb5⟩
        have hfin := Lib.hid (fun o => (show FloorsAt (w5.alloc o) v5 U ∧ TBox n4 w (w5.alloc o) from ⟨hv5.below ((Below.refl _ _).alloc (Nat.le_refl _) _), (hK.out.later hb5).later ((Below.refl _ _).alloc (Nat.le_refl _) _)⟩))
        obtain ⟨a8, c8, hs8, _⟩ := hv5
        subst hs8
        clear hb5 d2 d3 hri
        go_wp2_with fail
        go_roundg (L.length - j)
        case measure => omega
        case rel => exact ⟨j + 1, by simp, hlt, by omega, Lib.hid (by rw [hsn.out]), by rw [hsn.out]; exact Lib.hid (hfin.out _).1, Lib.hid (hfin.out _).2⟩
      · have hsp := hsp huc
        have hr := hrH.out
        rw [hsp] at hr
        have hr := Lib.hid hr
        have hz1 : (0 : Int) < (uc : Int) := by omega
        generalize hzd : (uc : Int) = zi at *
        have hzd := Lib.hid hzd
        clear hsn hsp huc
        go_wp2_with fail
        refine hri.out.mono ?_
        rintro e w5 ⟨⟨v5, rfl, hv5⟩, hb5⟩
        have hK5 := Lib.hid (fun o => (show FBox w (w5.alloc o) from ((hK.out.later hb5).later ((Below.refl _ _).alloc (Nat.le_refl _) _)).fbox))
        have hba := Lib.hid (fun o => bareF_any zi (w5.alloc o))
        obtain ⟨a8, c8, hs8, _⟩ := hv5
        subst hs8
        clear hb5 d2 d3 hri
        go_wp2_with fail
        refine (hba.out _).mono ?_
        rintro e w6 ⟨rfl, hb6⟩
        have hB1 := (hK5.out _).below hb6
        obtain ⟨⟨r0, r1⟩, f0, f1⟩ := hB1.cells
        obtain ⟨⟨q0, q1⟩, hfin⟩ := hB1.set (.int .i64 zi) (.int .i64 (-1))
        have hfin := Lib.hid hfin
        have hq := Lib.hid (And.intro q0 q1)
        clear q0 q1 hb6 hB1 hba
        go_wp2_with fail
        exact bodyPost_ret (v := .tuple #[.slice none 0 0, .agg #[.int .i64 zi, .int .i64 (-1)]]) (by simp [results, Tryz.results16, go_sem, hq.out]) rfl ⟨⟨_, by rw [hr.out]; unfold faultF; dsimp only; rw [hzd.out], by rw [hr.out]; exact floorsAt_nil _⟩, hfin.out⟩
    · have hje : L.take j = L := List.take_of_length_le (by omega)
      rw [hje] at hz0 hat
      have hr := hrH.out
      rw [hz0.out] at hr
      have hr := Lib.hid hr
      have hge : ¬ ((j : Int) < (L.length : Int)) := by omega
      have hatH := Lib.hid hat.out
      generalize (foldR [] L).1 = O at *
      obtain ⟨a9, c9, hs9, _⟩ := hat.out
      subst hs9
      obtain ⟨n0, n1⟩ := hK.out.cells
      obtain ⟨⟨r0, r1⟩, f0, f1⟩ := hK.out.fbox.cells
      clear hje hat
      go_wp2_with fail
      go_region
      all_goals
        go_wp2_with fail
        have hR := hK.out.fbox.set (.int .i64 0) (.int .i64 (-1))
        have hR0 := set2_first hK.out.res (.int .i64 0)
        exact bodyPost_ret (v := .tuple #[.slice a9 O.length c9, .agg #[.int .i64 0, .int .i64 (-1)]]) (by simp [results, Tryz.results16, go_sem, hR.1, hR0]) rfl ⟨⟨_, by rw [hr.out]; rfl, by rw [hr.out]; exact (floorsAt_set2 hK.out.res hatH.out (.int .i64 0) (.int .i64 (-1))).below (below_drawn (Below.refl _ _) 1)⟩, hR.2.drew⟩
end Go.Proofs.YtfbndfkahodheaaGreatDoor
