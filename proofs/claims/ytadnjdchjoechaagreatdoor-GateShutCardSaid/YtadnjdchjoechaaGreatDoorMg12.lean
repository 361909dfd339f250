/- FloRa, FloRb, FedF, LibS, Word -/
import Derived.Test.YtadnjdchjoechaaGreatDoorMg11
import Derived.Test.YtadnjdchjoechaaGreatDoorMg8
import Derived.Test.YtadnjdchjoechaaGreatDoorMg6
import Derived.Test.YtadnjdchjoechaaGreatDoorMg9
import Derived.Test.YtadnjdchjoechaaGreatDoorMg2
import Derived.Test.YtadnjdchjoechaaGreatDoorMg1
import Derived.Lib.SmallJoins
import Derived.Deep.LoopGhost
/- floor.Raise, walked. -/
namespace Go.Proofs.YtadnjdchjoechaaGreatDoor
open Go.RowKit Go.Shelf Go.Lib

/-- What Raise hands back: floors of its own, an error. -/
def RaiseRes (E : Nat → Addr) (base : Nat) (w' : World) (r : List Flo × Nat × Int) (e : Ending) : Prop := ∃ v ev, e = .returned (.tuple #[v, ev]) ∧ FlRow w' base v r.1 ∧ ErrAt E w' ev r.2.1 r.2.2
theorem RaiseRes.mk {E : Nat → Addr} {base : Nat} {w' : World} {r : List Flo × Nat × Int} {v ev : Value} {L : List Flo} {c : Nat} {a : Int} (hr : r = (L, c, a)) (hv : FlRow w' base v L) (he : ErrAt E w' ev c a) : RaiseRes E base w' r (.returned (.tuple #[v, ev])) := by
  subst hr
  exact ⟨v, ev, rfl, hv, he⟩
theorem FlRow.nil (w : World) (base : Nat) : FlRow w base (.slice none 0 0) [] := World.ownsRow_nil _ _ _ _
theorem FlRow.sl {w : World} {base : Nat} {v : Value} {L : List Flo} (h : FlRow w base v L) : ∃ a c, v = .slice a L.length c := by
  rcases h.shape with ⟨rfl, rfl⟩ | ⟨g, cap, cur, rfl, _⟩
  · exact ⟨_, _, rfl⟩
  · exact ⟨_, _, rfl⟩
theorem raiseF_check {L : List Flo} {f : Flo} (h : (checkF L).1 ≠ 0) : raiseF L f = ([], (checkF L).1, (checkF L).2) := by unfold raiseF; rw [if_neg h]
theorem raiseF_one {L : List Flo} {f : Flo} (h : (checkF L).1 = 0) (h1 : oneF f ≠ 0) : raiseF L f = ([], oneF f, -1) := by unfold raiseF; rw [if_pos h, if_neg h1]
theorem raiseF_low {L : List Flo} {f : Flo} (h : GoodF L) (h1 : oneF f = 0) (hle : f.ep ≤ ofF L f.who) : raiseF L f = (L, 0, -1) := by
  have hu := upF_same hle
  rw [raiseF_of h h1 (by rw [hu]; exact h.len), hu]
theorem raiseF_up {L : List Flo} {f : Flo} (h : GoodF L) (h1 : oneF f = 0) (hle : ¬ f.ep ≤ ofF L f.who) : raiseF L f = if 21 < (insF f (L.filter (keepF f))).length then ([], 7, -1) else (insF f (L.filter (keepF f)), 0, -1) := by
  have hu : upF L f = insF f (L.filter (keepF f)) := by unfold upF; rw [if_neg hle]
  unfold raiseF
  rw [check_goodF h, if_pos rfl, if_pos h1, hu]
theorem filter_nn {L : List Flo} (p : Flo → Bool) : (L.filter fun f => !(!p f)) = L.filter p := by simp
set_option maxHeartbeats 4000000 in
set_option maxRecDepth 100000 in
theorem raise_flo0 {E : Nat → Addr} (v : Value) (L : List Flo) (f : Flo) (w : World) (hL : Laid E w) (hv : FloorsAt w v L) (hm : ∀ f ∈ L, f.who.length ≤ maxLen) (hf : f.who.length ≤ maxLen) (hq : (checkF L).1 = 0 → oneF f = 0 → f.ep ≤ ofF L f.who) :
    Calls Tryz.prog 87 #[v, f.val] w fun e w' => RaiseRes E w.heap.size w' (raiseF L f) e ∧ Below w.heap.size w w' := by
  have hA : Below w.heap.size w (w.alloc (.cells f.cells.toArray 73)) := (Below.refl _ _).alloc (Nat.le_refl _) _
  have hck := Lib.hid (check_flo (E := E) v L _ (hL.below hA) (hv.below hA) hm)
  have hri := Lib.hid (fun wx (hx : Below w.heap.size w wx) => right_flo (E := E) f wx (hL.below hx) hf)
  have hof := Lib.hid (fun wx (hx : Below w.heap.size w wx) => of_flo v L f.who wx (hv.below hx) hm)
  have hbox := heap_alloc_new w (.cells f.cells.toArray 73)
  obtain ⟨fw, fe⟩ := f
  dsimp only [Flo.val, Flo.cells] at *
  have hbox := Lib.hid hbox
  have hAH := Lib.hid hA
  have hvH := Lib.hid hv
  have hmH := Lib.hid hm
  have hqH := Lib.hid hq
  clear hA hv hm hq
  obtain ⟨a0, c0, rfl, hmx, _, _⟩ := id hvH.out
  unfold maxLen at hmx
  by_cases hc0 : (checkF L).1 = 0
  case neg =>
    have hr := Lib.hid (raiseF_check (f := ⟨fw, fe⟩) hc0)
    have hc0H := Lib.hid hc0
    clear hc0
    go_enter Tryz.func87, Tryz.ntmps87
    go_wp2_with fail
    refine hck.out.mono ?_
    rintro e w1 ⟨ev, rfl, he, hb1⟩
    obtain ⟨T, x, rfl⟩ := he.iface hc0H.out
    have he := Lib.hid he
    have hb1 := Lib.hid (below_trans hAH.out hb1)
    go_wp2_with fail
    go_ret2
    exact ⟨RaiseRes.mk hr.out (FlRow.nil _ _) he.out, hb1.out⟩
  have hgood := goodF_check hc0
  have hlen21 := hgood.len
  have hgood := Lib.hid hgood
  have hc0H := Lib.hid hc0
  clear hc0
  cases ho : oneF ⟨fw, fe⟩ with
  | succ cd =>
    rw [ho, errV_succ] at hri
    have hr := Lib.hid (show raiseF L ⟨fw, fe⟩ = ([], cd + 1, -1) by rw [raiseF_one hc0H.out (by rw [ho]; exact Nat.succ_ne_zero _), ho])
    clear ho
    go_enter Tryz.func87, Tryz.ntmps87
    go_wp2_with fail
    refine hck.out.mono ?_
    rintro e w1 ⟨ev, rfl, he, hb1⟩
    obtain ⟨rfl, _⟩ := he.zero hc0H.out
    have hrow1 := heap_down hb1 hbox.out
    have d0 : w1.cell? ⟨w.heap.size, 0, none⟩ = some (.string (bs fw)) := by rw [cell_of_row _ _ _ _ _ _ hrow1]; rfl
    have d1 : w1.cell? ⟨w.heap.size, 1, none⟩ = some (.int .i64 fe) := by rw [cell_of_row _ _ _ _ _ _ hrow1]; rfl
    have hb1 := Lib.hid (below_trans hAH.out hb1)
    clear hrow1 he
    go_wp2_with fail
    refine (hri.out _ hb1.out).mono ?_
    rintro e w2 ⟨rfl, hb2⟩
    have hb2 := Lib.hid (below_trans hb1.out hb2)
    go_wp2_with fail
    go_ret2
    exact ⟨RaiseRes.mk hr.out (FlRow.nil _ _) (ErrAt.bare (cd + 1)), hb2.out⟩
  | zero =>
  rw [ho, errV_zero] at hri
  have hoH := Lib.hid ho
  clear ho
  have hgv0 := hvH.out
  have hle : fe ≤ ofF L fw := hqH.out hc0H.out hoH.out
  · have hr := Lib.hid (raiseF_low hgood.out hoH.out hle)
    have hcl := Lib.hid (fun wx (hx : Below w.heap.size w wx) => clone_flo _ L wx (hvH.out.below hx) (by omega))
    generalize ofF L fw = oq at *
    go_enter Tryz.func87, Tryz.ntmps87
    go_wp2_with fail
    refine hck.out.mono ?_
    rintro e w1 ⟨ev, rfl, he, hb1⟩
    obtain ⟨rfl, _⟩ := he.zero hc0H.out
    have hrow1 := heap_down hb1 hbox.out
    have d0 : w1.cell? ⟨w.heap.size, 0, none⟩ = some (.string (bs fw)) := by rw [cell_of_row _ _ _ _ _ _ hrow1]; rfl
    have d1 : w1.cell? ⟨w.heap.size, 1, none⟩ = some (.int .i64 fe) := by rw [cell_of_row _ _ _ _ _ _ hrow1]; rfl
    have hb1 := Lib.hid (below_trans hAH.out hb1)
    clear hrow1 he
    go_wp2_with fail
    refine (hri.out _ hb1.out).mono ?_
    rintro e w2 ⟨rfl, hb2⟩
    have d0 := cell_below hb2 d0
    have d1 := cell_below hb2 d1
    have hb2 := Lib.hid (below_trans hb1.out hb2)
    have hk := Lib.hid (fun (wx : World) (hx : Below w2.heap.size w2 wx) => (show Below w2.heap.size w2 wx ∧ wx.cell? ⟨w.heap.size, 0, none⟩ = some (.string (bs fw)) ∧ wx.cell? ⟨w.heap.size, 1, none⟩ = some (.int .i64 fe) from ⟨hx, cell_below hx d0, cell_below hx d1⟩))
    have hS : Below w2.heap.size w2 w2 := Below.refl _ _
    go_wp2_with fail
    go_region_held3 (fun w' => Below w2.heap.size w2 w' ∧ w'.cell? ⟨w.heap.size, 0, none⟩ = some (.string (bs fw)) ∧ w'.cell? ⟨w.heap.size, 1, none⟩ = some (.int .i64 fe))
      ((refine hk.out _ ?_; (first | exact hS | exact hS.drew)))
      ((refine (hof.out _ (below_trans hb2.out (by first | exact hS | exact hS.drew))).mono ?_; rintro e w' ⟨rfl, hbx⟩; have hS : Below w2.heap.size w2 w' := below_trans (by first | exact hS | exact hS.drew) hbx))
    all_goals
      have hb3 := Lib.hid (below_trans hb2.out (by first | exact hS | exact hS.drew))
      go_wp2_with fail
      refine (hcl.out _ hb3.out).mono ?_
      rintro e w4 ⟨v4, rfl, hrow4, hb4⟩
      have hrow4 := hrow4.mono hb3.out.size
      have hrow4 := Lib.hid hrow4
      have hb4 := Lib.hid (below_trans hb3.out hb4)
      go_wp2_with fail
      go_ret2
      exact ⟨RaiseRes.mk hr.out hrow4.out (ErrAt.bare 0), hb4.out⟩
end Go.Proofs.YtadnjdchjoechaaGreatDoor

/- floor.Raise where a floor rises, walked; and all ways as one. -/
namespace Go.Proofs.YtadnjdchjoechaaGreatDoor
open Go.RowKit Go.Shelf Go.Lib

theorem insF_take (f : Flo) : ∀ L, insF f L = L.take (lessF L f.who) ++ f :: L.drop (lessF L f.who)
  | [] => rfl
  | q :: r => by
    unfold insF lessF
    by_cases h : q.who < f.who
    · rw [if_pos h, List.takeWhile_cons_of_pos (by simpa using h), insF_take f r]
      rfl
    · rw [if_neg h, List.takeWhile_cons_of_neg (by simpa using h)]
      rfl
theorem len_keep (L : List Flo) (p : Flo → Bool) : (L.filter p).length ≤ L.length := List.length_filter_le _ _
set_option maxHeartbeats 8000000 in
set_option maxRecDepth 100000 in
theorem raise_up {E : Nat → Addr} (v : Value) (L : List Flo) (f : Flo) (w : World) (hL : Laid E w) (hv : FloorsAt w v L) (hm : ∀ f ∈ L, f.who.length ≤ maxLen) (hf : f.who.length ≤ maxLen) (hc0 : (checkF L).1 = 0) (ho : oneF f = 0) (hle : ¬ f.ep ≤ ofF L f.who) :
    Calls Tryz.prog 87 #[v, f.val] w fun e w' => RaiseRes E w.heap.size w' (raiseF L f) e ∧ Below w.heap.size w w' := by
  have hA : Below w.heap.size w (w.alloc (.cells f.cells.toArray 73)) := (Below.refl _ _).alloc (Nat.le_refl _) _
  have hck := Lib.hid (check_flo (E := E) v L _ (hL.below hA) (hv.below hA) hm)
  have hri := Lib.hid (fun wx (hx : Below w.heap.size w wx) => right_flo (E := E) f wx (hL.below hx) hf)
  have hof := Lib.hid (fun wx (hx : Below w.heap.size w wx) => of_flo v L f.who wx (hv.below hx) hm)
  have hgood := goodF_check hc0
  have hlen21 := hgood.len
  have hcl := Lib.hid (fun wx (hx : Below w.heap.size w wx) => clone_flo _ L wx (hv.below hx) (by omega))
  have hr := raiseF_up hgood ho hle
  have hbox := heap_alloc_new w (.cells f.cells.toArray 73)
  have hsrt : (L.filter (keepF f)).Pairwise (fun f g => f.who < g.who) := hgood.g.sorted.filter _
  have hlk := len_keep L (keepF f)
  have hmK : ∀ g ∈ L.filter (keepF f), g.who.length ≤ maxLen := fun g hg => hm g (List.mem_filter.1 hg).1
  have hE9 := Lib.hid (fun wx (hx : Below w.heap.size w wx) => (hL.below hx).e7)
  rw [ho, errV_zero] at hri
  have hel : (insF f (L.filter (keepF f))).length = (L.filter (keepF f)).length + 1 := insF_length f _
  have hiF := insF_take f (L.filter (keepF f))
  have hll := lessF_le (L.filter (keepF f)) f.who
  have hasks := Lib.hid (fun b wx h0 h1 => raise1_asks f b wx h0 h1)
  have hdel := Lib.hid (fun v1 (wb wx : World) (hrow : FlRow wx wb.heap.size v1 L) (hb : Below wb.heap.size wb wx) b h0 h1 => delf_flo wb v1 L 124 #[.pointer (some ⟨b, 0, none⟩)] (fun g => !keepF f g) wx hrow (by omega) hm hb (raise1_asks f b wb h0 h1) (enters_of Tryz.func124 (by kernel_rfl) rfl))
  rw [filter_nn] at hdel
  have hbs := Lib.hid (fun (base : Nat) v2 wx (hrow : FlRow wx base v2 (L.filter (keepF f))) => bsearch_flo v2 (L.filter (keepF f)) f wx (hrow.at_ (by unfold maxLen; omega)) (by omega) hsrt)
  have hin := Lib.hid (fun (base : Nat) v2 gv wx (hrow : FlRow wx base v2 (L.filter (keepF f))) hgv hne hbase => ins_flo base v2 (L.filter (keepF f)) (lessF (L.filter (keepF f)) f.who) f gv wx hrow (by omega) hll hgv hne hbase)
  rw [← hiF] at hin
  generalize hM : L.filter (keepF f) = M at *
  generalize hlf : lessF M f.who = kk at *
  generalize hI : insF f M = I at *
  have hel2 : I.length ≤ 22 := by omega
  clear hM hlf hI hiF hgood hsrt hmK hasks hel
  have hck0 := Lib.hid hc0
  have hvH := Lib.hid hv
  obtain ⟨fw, fe⟩ := f
  dsimp only [Flo.val, Flo.cells] at *
  have hbox := Lib.hid hbox
  have hAH := Lib.hid hA
  have hrH := Lib.hid hr
  have hle2 : ofF L fw < fe := by omega
  generalize ofF L fw = oq at *
  clear hA hv hm hc0 hr ho hle
  obtain ⟨a0, c0, rfl, hmx, _, _⟩ := id hvH.out
  unfold maxLen at hmx
  go_enter Tryz.func87, Tryz.ntmps87
  go_wp2_with fail
  refine hck.out.mono ?_
  rintro e w1 ⟨ev, rfl, he, hb1⟩
  obtain ⟨rfl, _⟩ := he.zero hck0.out
  have hrow1 := heap_down hb1 hbox.out
  have d0 : w1.cell? ⟨w.heap.size, 0, none⟩ = some (.string (bs fw)) := by rw [cell_of_row _ _ _ _ _ _ hrow1]; rfl
  have d1 : w1.cell? ⟨w.heap.size, 1, none⟩ = some (.int .i64 fe) := by rw [cell_of_row _ _ _ _ _ _ hrow1]; rfl
  have hb1 := Lib.hid (below_trans hAH.out hb1)
  clear hrow1 he
  go_wp2_with fail
  refine (hri.out _ hb1.out).mono ?_
  rintro e w2 ⟨rfl, hb2⟩
  have d0 := cell_below hb2 d0
  have d1 := cell_below hb2 d1
  have hb2 := Lib.hid (below_trans hb1.out hb2)
  have hk := Lib.hid (fun (wx : World) (hx : Below w2.heap.size w2 wx) => (show Below w2.heap.size w2 wx ∧ wx.cell? ⟨w.heap.size, 0, none⟩ = some (.string (bs fw)) ∧ wx.cell? ⟨w.heap.size, 1, none⟩ = some (.int .i64 fe) from ⟨hx, cell_below hx d0, cell_below hx d1⟩))
  have hS : Below w2.heap.size w2 w2 := Below.refl _ _
  go_wp2_with fail
  go_region_held3 (fun w' => Below w2.heap.size w2 w' ∧ w'.cell? ⟨w.heap.size, 0, none⟩ = some (.string (bs fw)) ∧ w'.cell? ⟨w.heap.size, 1, none⟩ = some (.int .i64 fe))
    ((refine hk.out _ ?_; (first | exact hS | exact hS.drew)))
    ((refine (hof.out _ (below_trans hb2.out (by first | exact hS | exact hS.drew))).mono ?_; rintro e w' ⟨rfl, hbx⟩; have hS : Below w2.heap.size w2 w' := below_trans (by first | exact hS | exact hS.drew) hbx))
  all_goals
    have hS3 : Below w2.heap.size w2 _ := (by first | exact hS | exact hS.drew)
    obtain ⟨_, e0, e1⟩ := hk.out _ hS3
    have hb3 := Lib.hid (below_trans hb2.out hS3)
    clear d0 d1
    go_wp2_with fail
    refine (hcl.out _ hb3.out).mono ?_
    rintro e w4 ⟨v4, rfl, hrow4, hb4⟩
    have hdl := Lib.hid (hdel.out _ _ _ hrow4 hb4 _ e0 e1)
    have hz4 := hb4.size
    go_wp2_with fail
    refine hdl.out.mono ?_
    rintro e w5 ⟨v5, rfl, hrow5, hb5⟩
    have e0 := cell_below hb5 e0
    have e1 := cell_below hb5 e1
    have hbq := Lib.hid (hbs.out _ _ _ hrow5)
    have hrow5 := Lib.hid hrow5
    have hb5 := Lib.hid hb5
    go_wp2_with fail
    refine hbq.out.mono ?_
    rintro e w6 ⟨bq, rfl, hb6⟩
    have e0 := cell_below hb6 e0
    have e1 := cell_below hb6 e1
    have hrow6 := hrow5.out.below hb6
    have hb6 := hb5.out.trans (hb6.mono hb5.out.size)
    have hz6 := hb6.size
    have hbA : Below w6.heap.size w6 (w6.alloc (.cells #[.string (bs fw), .int .i64 fe] 73)) := (Below.refl _ _).alloc (Nat.le_refl _) _
    have hne : ∀ g, v5.ownBlock = some g → w6.heap.size ≠ g := fun g hg e => by
      obtain ⟨_, cs, h⟩ := ownsRow_block hrow6 hg
      have := (Array.getElem?_eq_some_iff.1 h).1
      omega
    have hins := Lib.hid (hin.out _ _ w6.heap.size _ (hrow6.below hbA) (heap_alloc_new w6 _) hne (by rw [World.size_alloc]; omega))
    have hb6 := Lib.hid (hb6.trans (hbA.mono hz6))
    clear hrow6 hne hbA
    go_wp2_with fail
    refine hins.out.mono ?_
    rintro e w7 ⟨v7, rfl, hrow7, hb7⟩
    obtain ⟨a7, c7, rfl⟩ := hrow7.sl
    have hrow7 := Lib.hid hrow7
    have hb7 := hb6.out.trans hb7
    have hb7 := Lib.hid (below_trans hb3.out hb7)
    have he7 := Lib.hid (hE9.out _ hb7.out)
    by_cases h21 : 21 < I.length
    · have hr := Lib.hid (hrH.out.trans (if_pos h21))
      have h21i : (21 : Int) < (I.length : Int) := by omega
      have he7 := he7.out
      go_wp2_with fail
      go_quiet (fail)
      go_wp2_with fail
      go_ret2
      exact ⟨RaiseRes.mk hr.out (FlRow.nil _ _) (ErrAt.bare 7), below_drawn hb7.out _⟩
    · have hr := Lib.hid (hrH.out.trans (if_neg h21))
      have h21i : ¬ (21 : Int) < (I.length : Int) := by omega
      have hrow8 := Lib.hid (hrow7.out.mono (base' := w.heap.size) (by have := hb3.out.size; omega))
      go_wp2_with fail
      go_ret2
      exact ⟨RaiseRes.mk hr.out hrow8.out (ErrAt.bare 0), hb7.out⟩
theorem raise_flo {E : Nat → Addr} (v : Value) (L : List Flo) (f : Flo) (w : World) (hL : Laid E w) (hv : FloorsAt w v L) (hm : ∀ f ∈ L, f.who.length ≤ maxLen) (hf : f.who.length ≤ maxLen) :
    Calls Tryz.prog 87 #[v, f.val] w fun e w' => RaiseRes E w.heap.size w' (raiseF L f) e ∧ Below w.heap.size w w' := by
  by_cases h : (checkF L).1 = 0 ∧ oneF f = 0 ∧ ¬ f.ep ≤ ofF L f.who
  · exact raise_up v L f w hL hv hm hf h.1 h.2.1 h.2.2
  · exact raise_flo0 v L f w hL hv hm hf (fun h1 h2 => Classical.byContradiction fun h3 => h ⟨h1, h2, h3⟩)
end Go.Proofs.YtadnjdchjoechaaGreatDoor

/- feed.Floors: walked. -/
namespace Go.Proofs.YtadnjdchjoechaaGreatDoor
open Go.RowKit

theorem floorsE_check {L : List Ent} (h : (checkE L).1 ≠ 0) : floorsE L = ([], (checkE L).1, (checkE L).2) := by unfold floorsE; rw [if_neg h]
theorem foldR_at (L : List Ent) (j : Nat) (hj : j < L.length) (h : (foldR [] (L.take j)).2 = 0) : foldR [] (L.take (j + 1)) = foldR (foldR [] (L.take j)).1 [L[j]] := by
  rw [List.take_succ_eq_append_getElem hj, foldR_append, if_pos h]
theorem foldR_stop (L : List Ent) (j : Nat) (h : (foldR [] (L.take j)).2 ≠ 0) : foldR [] L = foldR [] (L.take j) := by
  have := foldR_append (L.take j) (L.drop j) []
  rw [List.take_append_drop, if_neg h] at this
  exact this
theorem who_len {f : Flo} (h : oneF f = 0) : f.who.length ≤ maxLen := by
  rcases (oneF_zero h).1 with h1 | h1
  · rw [h1]; decide
  · have := ((isName_iff _).1 h1).2.1
    unfold maxLen
    omega
set_option maxHeartbeats 4000000 in
set_option maxRecDepth 100000 in
theorem floors_ent {E : Nat → Addr} (v : Value) (L : List Ent) (w : World) (hL : Laid E w) (hv : EntsAt w v L) (hm : ∀ e ∈ L, e.f.who.length ≤ maxLen) :
    Calls Tryz.prog 52 #[v] w fun e w' => RaiseRes E w.heap.size w' (floorsE L) e ∧ Below w.heap.size w w' := by
  have hck := Lib.hid (check_ent (E := E) v L w hL hv hm)
  have hlen := AtG.len hv
  unfold maxLen at hlen
  have hga := Lib.hid (fun wx (hx : Below w.heap.size w wx) => EntsAt.get (AtG.below hv hx))
  obtain ⟨a0, c0, hv0⟩ := AtG.sl hv
  have hra := Lib.hid (fun (vx : Value) (F : List Flo) (f : Flo) (wx : World) (hx : Below w.heap.size w wx) (hvx : FloorsAt wx vx F) (hF : GoodF F) (hf : f.who.length ≤ maxLen) => raise_flo (E := E) vx F f wx (hL.below hx) hvx (fun g hg => who_len (hF.g.one g hg)) hf)
  have hmH := Lib.hid hm
  clear hv hm hL
  subst hv0
  by_cases hc0 : (checkE L).1 = 0
  case neg =>
    have hr := Lib.hid (floorsE_check hc0)
    have hc0H := Lib.hid hc0
    clear hc0 hra hga
    go_enter Tryz.func52, Tryz.ntmps52
    go_wp2_with fail
    refine hck.out.mono ?_
    rintro e w1 ⟨ev, rfl, he, hb1⟩
    obtain ⟨T, x, rfl⟩ := he.iface hc0H.out
    have he := Lib.hid he
    have hb1 := Lib.hid hb1
    go_wp2_with fail
    go_ret2
    exact ⟨RaiseRes.mk hr.out (FlRow.nil _ _) he.out, hb1.out⟩
  have hc0H := Lib.hid hc0
  have hfE := Lib.hid (show floorsE L = ((foldR [] L).1, (foldR [] L).2, -1) by unfold floorsE; rw [if_pos hc0])
  clear hc0
  go_enter Tryz.func52, Tryz.ntmps52
  go_wp2_with fail
  refine hck.out.mono ?_
  rintro e w1 ⟨ev, rfl, he, hb1⟩
  obtain ⟨rfl, _⟩ := he.zero hc0H.out
  have hb1H := Lib.hid hb1
  clear he hb1 hck
  go_wp2_with fail
  go_loopg [5, 17] (L.length + 1) (fun g v5 i wr => ∃ (F : List Flo) (j : Nat), i = .int .i64 j ∧ j ≤ L.length ∧ L.length - j + 1 ≤ g ∧ Hid (FlRow wr w.heap.size v5 F ∧ foldR [] (L.take j) = (F, 0) ∧ GoodF F) ∧ Hid (Below w.heap.size w wr))
  case atStart => exact ⟨[], 0, rfl, Nat.zero_le _, by omega, Lib.hid ⟨FlRow.nil _ _, rfl, goodF_nil⟩, hb1H⟩
  case round =>
    obtain ⟨F, j, rfl, hj, hgj, hF, hK⟩ := hrel
    obtain ⟨a5, c5, hv5⟩ := hF.out.1.sl
    subst hv5
    by_cases hlt : j < L.length
    · have hk0 : (0 : Int) ≤ (j : Int) := by omega
      have hk1 : (j : Int) < (L.length : Int) := by omega
      obtain ⟨_, _, he, _, _, hc⟩ := hga.out _ hK.out
      cases he
      obtain ⟨b, o, rfl, d0, d1, d2, d3⟩ := hc j hlt
      clear hc
      have hstep := foldR_at L j hlt (by rw [hF.out.2.1])
      rw [hF.out.2.1] at hstep
      have hstop := Lib.hid (fun h => foldR_stop L (j + 1) h)
      have hwho := hmH.out _ (List.getElem_mem hlt)
      generalize L[j] = ej at *
      obtain ⟨es, et, ⟨fw, fe⟩⟩ := ej
      dsimp only at d0 d1 d2 d3 hwho
      have hstep := Lib.hid hstep
      have hsz := Lib.hid hK.out.size
      have hr := Lib.hid (fun wx (hx : Below wr.heap.size wr wx) => hra.out _ F ⟨fw, fe⟩ wx (below_trans hK.out hx) (floorsAt_of (RowG.at_ (floRow_G.1 (hF.out.1.below hx)))) hF.out.2.2 hwho)
      have hA := Lib.hid (fun o : Obj => (Below.refl wr.heap.size wr).alloc (Nat.le_refl _) o)
      clear hwho
      go_wp2_with fail
      refine (hr.out _ (hA.out _)).mono ?_
      rintro e w2 ⟨⟨v6, ev6, rfl, hrow6, he6⟩, hb2⟩
      have hfz := Lib.hid hrow6
      by_cases hz : (raiseF F ⟨fw, fe⟩).2.1 = 0
      · obtain ⟨rfl, _⟩ := he6.zero hz
        have hF2 : foldR [] (L.take (j + 1)) = ((raiseF F ⟨fw, fe⟩).1, 0) := by
          rw [hstep.out]
          unfold foldR
          rw [if_pos hz]
          rfl
        have hG2 : GoodF (raiseF F ⟨fw, fe⟩).1 := by
          obtain ⟨_, _, h1, h2⟩ := raiseF_zero hz
          rw [h2]
          exact h1
        have hrow6 := hrow6.mono (base' := w.heap.size) (by rw [World.size_alloc]; have := hsz.out; omega)
        have hF3 := Lib.hid (show FlRow w2 w.heap.size v6 (raiseF F ⟨fw, fe⟩).1 ∧ foldR [] (L.take (j + 1)) = ((raiseF F ⟨fw, fe⟩).1, 0) ∧ GoodF (raiseF F ⟨fw, fe⟩).1 from ⟨hrow6, hF2, hG2⟩)
        have hb2 := Lib.hid (below_trans hK.out (below_trans (hA.out _) hb2))
        clear hF2 hG2 hrow6 he6 hz hfz
        go_wp2_with fail
        go_roundg (L.length - j)
        case measure => omega
        case rel => exact ⟨_, j + 1, by simp, hlt, by omega, hF3, hb2⟩
      · have hz2 : (foldR [] (L.take (j + 1))).2 = (raiseF F ⟨fw, fe⟩).2.1 ∧ (foldR [] (L.take (j + 1))).1 = [] := by
          rw [hstep.out]
          unfold foldR
          rw [if_neg hz]
          exact ⟨rfl, rfl⟩
        have hfe : floorsE L = ([], (raiseF F ⟨fw, fe⟩).2.1, -1) := by
          rw [hfE.out, hstop.out (by rw [hz2.1]; exact hz), hz2.1, hz2.2]
        have hfe := Lib.hid hfe
        obtain ⟨T6, x6, rfl⟩ := he6.iface hz
        have hba := Lib.hid (bare_err _ _ _ w2 he6)
        have hb2 := Lib.hid (below_trans hK.out (below_trans (hA.out _) hb2))
        clear hz2 hrow6 he6 hz hfz
        go_wp2_with fail
        refine hba.out.mono ?_
        rintro e w3 ⟨rfl, rfl⟩
        go_wp2_with fail
        go_ret2
        exact ⟨RaiseRes.mk hfe.out (FlRow.nil _ _) (ErrAt.bare _), hb2.out⟩
    · have hge : ¬ ((j : Int) < (L.length : Int)) := by omega
      have hfe := Lib.hid (show floorsE L = (F, 0, -1) by
        have h1 := hF.out.2.1
        rw [List.take_of_length_le (by omega)] at h1
        rw [hfE.out, h1])
      have hrow := Lib.hid hF.out.1
      go_wp2_with fail
      go_ret2
      exact ⟨RaiseRes.mk hfe.out hrow.out (ErrAt.bare 0), hK.out⟩
end Go.Proofs.YtadnjdchjoechaaGreatDoor

/- What the library's variables hold; strconv.Atoi, strconv.Itoa by contracts. -/
namespace Go.Proofs.YtadnjdchjoechaaGreatDoor
open Go.RowKit Go.Sort

/-- The sentinels, and the library's variables. -/
structure LaidS (E : Nat → Addr) (w : World) : Prop where
  laid : Laid E w
  pow : Lib.TabIs Tryz.prog w "internal/strconv.uint64pow10" .u64 Lib.pow10Tab
  syn : ∃ t p, w.var? Tryz.prog "strconv.ErrSyntax" = some #[.iface t p]
  rng : ∃ t p, w.var? Tryz.prog "strconv.ErrRange" = some #[.iface t p]
  mx : ∃ m, w.cell? ⟨18, 0, none⟩ = some (.int .i64 m)
theorem glob_pow : Tryz.prog.globalNamed "internal/strconv.uint64pow10" = some 17 := by kernel_rfl
theorem glob_syn : Tryz.prog.globalNamed "strconv.ErrSyntax" = some 23 := by kernel_rfl
theorem glob_rng : Tryz.prog.globalNamed "strconv.ErrRange" = some 24 := by kernel_rfl
theorem LaidS.below {E : Nat → Addr} {w w' : World} (h : LaidS E w) (hb : Below w.heap.size w w') : LaidS E w' where
  laid := h.laid.below hb
  pow := Joins.tab_stays glob_pow h.pow hb (Nat.le_refl _)
  syn := let ⟨t, p, e⟩ := h.syn; ⟨t, p, Joins.var_stays glob_syn e hb (Nat.le_refl _)⟩
  rng := let ⟨t, p, e⟩ := h.rng; ⟨t, p, Joins.var_stays glob_rng e hb (Nat.le_refl _)⟩
  mx := let ⟨m, e⟩ := h.mx; ⟨m, cell_below hb e⟩

theorem below_grow (w : World) (k : Nat) (os : Array Obj) : Below w.heap.size w (grow (w.drewN k) os) :=
  ⟨rfl, rfl, rfl, by simp [grow], fun i hi => by
    show (w.heap ++ os)[i]? = w.heap[i]?
    rw [Array.getElem?_append_left hi]⟩
set_option maxRecDepth 100000 in
theorem itoa_any {E : Nat → Addr} (n : Int) (h0 : -9223372036854775808 ≤ n) (h1 : n ≤ 9223372036854775807) (w : World) (hL : LaidS E w) :
    Calls Tryz.prog 34 #[.int .i64 n] w fun e w' => e = .returned (.string (bs (Lib.itoa n))) ∧ Below w.heap.size w w' :=
  (show Calls Tryz.prog 34 #[.int .i64 n] w _ from Any.strconv_Itoa Tryz.itoaL n h0 h1 w hL.pow).mono fun e w' ⟨he, k, os, hw⟩ => ⟨he, by rw [hw]; exact below_grow w k os⟩
set_option maxRecDepth 100000 in
theorem atoi_ok (s : ByteArray) (hs : s.size ≤ 140737488355328) (v : Int) (h : Lib.atoiAll s.data.toList = .ok v) (w : World) :
    Calls Tryz.prog 140 #[.string s] w fun e w' => e = .returned (.tuple #[.int .i64 v, .nilIface]) ∧ Below w.heap.size w w' :=
  (show Calls Tryz.prog 140 #[.string s] w _ from Any.strconv_Atoi_ok Tryz.atoiL s (by omega) v h w).mono fun e w' ⟨he, hw⟩ => ⟨he, by
    rcases hw with rfl | ⟨t, rfl⟩
    · exact Below.refl _ _
    · exact Joins.below_bytesWorld _ _ _ _ (Nat.le_refl _)⟩
set_option maxRecDepth 100000 in
theorem atoi_bad {E : Nat → Addr} (s : ByteArray) (hs : s.size ≤ 140737488355328) (h : ∀ v, Lib.atoiAll s.data.toList ≠ .ok v) (w : World) (hL : LaidS E w) :
    Calls Tryz.prog 140 #[.string s] w fun e w' => ∃ n T N, e = .returned (.tuple #[.int .i64 n, .iface T (.pointer (some ⟨N, 0, none⟩))]) ∧ Below w.heap.size w w' := by
  rcases hc : Lib.atoiAll s.data.toList with v | _ | _
  · exact absurd hc (h v)
  · obtain ⟨t, p, hv⟩ := hL.syn
    exact (show Calls Tryz.prog 140 #[.string s] w _ from Any.strconv_Atoi_syntax_var Tryz.atoiL s (by omega) hc t p w hv).mono fun e w' ⟨N, he, _, _, hb⟩ => ⟨_, _, N, he, hb⟩
  · obtain ⟨t, p, hv⟩ := hL.rng
    exact (show Calls Tryz.prog 140 #[.string s] w _ from Any.strconv_Atoi_range_var Tryz.atoiL s (by omega) hc t p w hv).mono fun e w' ⟨N, he, _, _, hb⟩ => ⟨_, _, N, he, hb⟩

theorem atoiAll_ge {l : List UInt8} {v : Int} (h : Lib.atoiAll l = .ok v) : -9223372036854775808 ≤ v ∧ v ≤ 9223372036854775807 := by
  unfold Lib.atoiAll at h
  cases l with
  | nil => cases h
  | cons c r =>
    dsimp only at h
    rcases hm : Lib.parseMag (if c.toNat = 43 ∨ c.toNat = 45 then r else c :: r) with u | _ | _
    · rw [hm] at h
      dsimp only at h
      by_cases hn : c.toNat = 45
      · simp only [hn, not_true_eq_false, false_and, if_false, true_and, if_true] at h
        split at h
        · cases h
        · cases h; omega
      · simp only [hn, not_false_eq_true, true_and, false_and, if_false] at h
        split at h
        · cases h
        · cases h; omega
    · rw [hm] at h; cases h
    · rw [hm] at h; cases h
end Go.Proofs.YtadnjdchjoechaaGreatDoor

/- seal.Word, by its contract. -/
namespace Go.Proofs.YtadnjdchjoechaaGreatDoor
open Go.RowKit

set_option maxRecDepth 100000 in
theorem trim_word (s : ByteArray) (w : World) (hs : s.size ≤ maxLen) :
    Calls Tryz.prog 54 #[.string s, .string (bs wordCs)] w fun e w' => e = .returned (.string (bs (Lib.trimS s.data.toList wordCs))) ∧ Below w.heap.size w w' :=
  Any.strings_Trim_laid Tryz.trim160 (by kernel_rfl) s (bs wordCs) w hs (by decide) (ascii_of_all (by decide))
set_option maxRecDepth 100000 in
theorem word_any (s : ByteArray) (w : World) (hs : s.size ≤ maxLen) :
    Calls Tryz.prog 58 #[.string s] w fun e w' => e = .returned (.bool (isWord s.data.toList)) ∧ Below w.heap.size w w' := by
  have ht := trim_word s w hs
  have hlen : s.data.toList.length = s.size := Array.length_toList
  have htl : s.toList = s.data.toList := toList_data s
  unfold maxLen at hs
  by_cases h0 : s.data.toList = []
  · have hr := Lib.hid (show isWord s.data.toList = false by rw [h0]; rfl)
    have hte : s.toList = [] := by rw [htl, h0]
    clear ht hlen htl h0
    go_enter Tryz.func58, Tryz.ntmps58
    go_wp2_with fail
    go_ret
    exact ⟨ret_bool hr.out.symm, Below.refl _ _⟩
  · have hte : s.toList.isEmpty = false := by rw [htl]; simpa using h0
    have h1 : 1 ≤ s.size := by
      rcases Nat.eq_zero_or_pos s.size with h | h
      · exact absurd (List.eq_nil_of_length_eq_zero (hlen.trans h)) h0
      · exact h
    by_cases h8 : s.size ≤ 20
    · have ht := Lib.hid ht
      by_cases hall : Lib.trimS s.data.toList wordCs = []
      · have hr := Lib.hid (show isWord s.data.toList = true from (isWord_iff _).2 ⟨by omega, by omega, fun c hc => by rw [← wordCs_contains]; exact (trimS_nil_iff _ _).1 hall c hc⟩)
        clear hlen htl h0
        have he : (bs []).toList = [] := by rw [toList_data]; rfl
        go_enter Tryz.func58, Tryz.ntmps58
        go_wp2_with fail
        refine ht.out.mono ?_
        rintro e w1 ⟨rfl, hb⟩
        rw [hall]
        clear hall
        go_wp2_with fail
        go_ret
        exact ⟨ret_bool hr.out.symm, hb⟩
      · have hr := Lib.hid (show isWord s.data.toList = false by
          cases hn : isWord s.data.toList with
          | false => rfl
          | true =>
            obtain ⟨_, _, h⟩ := (isWord_iff _).1 hn
            exact absurd ((trimS_nil_iff _ _).2 (fun c hc => by rw [wordCs_contains]; exact h c hc)) hall)
        clear hlen htl h0
        have he : (bs (Lib.trimS s.data.toList wordCs)).toList.isEmpty = false := by rw [toList_data, bs_list]; simpa using hall
        generalize bs (Lib.trimS s.data.toList wordCs) = t at *
        clear hall
        go_enter Tryz.func58, Tryz.ntmps58
        go_wp2_with fail
        refine ht.out.mono ?_
        rintro e w1 ⟨rfl, hb⟩
        go_wp2_with fail
        go_ret
        exact ⟨ret_bool hr.out.symm, hb⟩
    · have hr := Lib.hid (show isWord s.data.toList = false by
        cases hn : isWord s.data.toList with
        | false => rfl
        | true => obtain ⟨_, h, _⟩ := (isWord_iff _).1 hn; omega)
      clear ht hlen htl h0
      go_enter Tryz.func58, Tryz.ntmps58
      go_wp2_with fail
      go_ret
      exact ⟨ret_bool hr.out.symm, Below.refl _ _⟩
end Go.Proofs.YtadnjdchjoechaaGreatDoor
