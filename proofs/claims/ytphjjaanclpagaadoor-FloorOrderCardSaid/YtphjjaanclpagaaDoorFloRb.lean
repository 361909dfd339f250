/- floor.Raise where a floor rises, walked; and all ways as one. -/
import Derived.Test.YtphjjaanclpagaaDoorFloRa
namespace Go.Proofs.YtphjjaanclpagaaDoor
open Go.RowKit Go.Shelf Go.Lib

theorem insF_take (f : Flo) : ∀ L, insF f L = L.take (lessF L f.who) ++ f :: L.drop (lessF L f.who)
  | [] => rfl
  | q :: r => by
    unfold insF lessF
    by_cases h : q.who < f.who
    · rw [if_pos h, List.takeWhile_cons_of_pos (by simpa using h), insF_take f r]
      rfl
    · rw [if_neg h, List.takeWhile_cons_of_neg (by simpa using h)]
      rfl
theorem len_keep (L : List Flo) (p : Flo → Bool) : (L.filter p).length ≤ L.length := List.length_filter_le _ _
set_option maxHeartbeats 8000000 in
set_option maxRecDepth 100000 in
theorem raise_up {E : Nat → Addr} (v : Value) (L : List Flo) (f : Flo) (w : World) (hL : Laid E w) (hv : FloorsAt w v L) (hm : ∀ f ∈ L, f.who.length ≤ maxLen) (hf : f.who.length ≤ maxLen) (hc0 : (checkF L).1 = 0) (ho : oneF f = 0) (hle : ¬ f.ep ≤ ofF L f.who) :
    Calls Tryd.prog 16 #[v, f.val] w fun e w' => RaiseRes E w.heap.size w' (raiseF L f) e ∧ Below w.heap.size w w' := by
  have hA : Below w.heap.size w (w.alloc (.cells f.cells.toArray 39)) := (Below.refl _ _).alloc (Nat.le_refl _) _
  have hck := Lib.hid (check_flo (E := E) v L _ (hL.below hA) (hv.below hA) hm)
  have hri := Lib.hid (fun wx (hx : Below w.heap.size w wx) => right_flo (E := E) f wx (hL.below hx) hf)
  have hof := Lib.hid (fun wx (hx : Below w.heap.size w wx) => of_flo v L f.who wx (hv.below hx) hm)
  have hgood := goodF_check hc0
  have hlen21 := hgood.len
  have hcl := Lib.hid (fun wx (hx : Below w.heap.size w wx) => clone_flo _ L wx (hv.below hx) (by omega))
  have hr := raiseF_up hgood ho hle
  have hbox := heap_alloc_new w (.cells f.cells.toArray 39)
  have hsrt : (L.filter (keepF f)).Pairwise (fun f g => f.who < g.who) := hgood.g.sorted.filter _
  have hlk := len_keep L (keepF f)
  have hmK : ∀ g ∈ L.filter (keepF f), g.who.length ≤ maxLen := fun g hg => hm g (List.mem_filter.1 hg).1
  have hE9 := Lib.hid (fun wx (hx : Below w.heap.size w wx) => (hL.below hx).e7)
  rw [ho, errV_zero] at hri
  have hel : (insF f (L.filter (keepF f))).length = (L.filter (keepF f)).length + 1 := insF_length f _
  have hiF := insF_take f (L.filter (keepF f))
  have hll := lessF_le (L.filter (keepF f)) f.who
  have hasks := Lib.hid (fun b wx h0 h1 => raise1_asks f b wx h0 h1)
  have hdel := Lib.hid (fun v1 (wb wx : World) (hrow : FlRow wx wb.heap.size v1 L) (hb : Below wb.heap.size wb wx) b h0 h1 => delf_flo wb v1 L 56 #[.pointer (some ⟨b, 0, none⟩)] (fun g => !keepF f g) wx hrow (by omega) hm hb (raise1_asks f b wb h0 h1) (enters_of Tryd.func56 (by kernel_rfl) rfl))
  rw [filter_nn] at hdel
  have hbs := Lib.hid (fun (base : Nat) v2 wx (hrow : FlRow wx base v2 (L.filter (keepF f))) => bsearch_flo v2 (L.filter (keepF f)) f wx (hrow.at_ (by unfold maxLen; omega)) (by omega) hsrt)
  have hin := Lib.hid (fun (base : Nat) v2 gv wx (hrow : FlRow wx base v2 (L.filter (keepF f))) hgv hne hbase => ins_flo base v2 (L.filter (keepF f)) (lessF (L.filter (keepF f)) f.who) f gv wx hrow (by omega) hll hgv hne hbase)
  rw [← hiF] at hin
  generalize hM : L.filter (keepF f) = M at *
  generalize hlf : lessF M f.who = kk at *
  generalize hI : insF f M = I at *
  have hel2 : I.length ≤ 22 := by omega
  clear hM hlf hI hiF hgood hsrt hmK hasks hel
  have hck0 := Lib.hid hc0
  have hvH := Lib.hid hv
  obtain ⟨fw, fe⟩ := f
  dsimp only [Flo.val, Flo.cells] at *
  have hbox := Lib.hid hbox
  have hAH := Lib.hid hA
  have hrH := Lib.hid hr
  have hle2 : ofF L fw < fe := by omega
  generalize ofF L fw = oq at *
  clear hA hv hm hc0 hr ho hle
  obtain ⟨a0, c0, rfl, hmx, _, _⟩ := id hvH.out
  unfold maxLen at hmx
  go_enter Tryd.func16, Tryd.ntmps16
  go_wp2_with fail
  refine hck.out.mono ?_
  rintro e w1 ⟨ev, rfl, he, hb1⟩
  obtain ⟨rfl, _⟩ := he.zero hck0.out
  have hrow1 := heap_down hb1 hbox.out
  have d0 : w1.cell? ⟨w.heap.size, 0, none⟩ = some (.string (bs fw)) := by rw [cell_of_row _ _ _ _ _ _ hrow1]; rfl
  have d1 : w1.cell? ⟨w.heap.size, 1, none⟩ = some (.int .i64 fe) := by rw [cell_of_row _ _ _ _ _ _ hrow1]; rfl
  have hb1 := Lib.hid (below_trans hAH.out hb1)
  clear hrow1 he
  go_wp2_with fail
  refine (hri.out _ hb1.out).mono ?_
  rintro e w2 ⟨rfl, hb2⟩
  have d0 := cell_below hb2 d0
  have d1 := cell_below hb2 d1
  have hb2 := Lib.hid (below_trans hb1.out hb2)
  have hk := Lib.hid (fun (wx : World) (hx : Below w2.heap.size w2 wx) => (show Below w2.heap.size w2 wx ∧ wx.cell? ⟨w.heap.size, 0, none⟩ = some (.string (bs fw)) ∧ wx.cell? ⟨w.heap.size, 1, none⟩ = some (.int .i64 fe) from ⟨hx, cell_below hx d0, cell_below hx d1⟩))
  have hS : Below w2.heap.size w2 w2 := Below.refl _ _
  go_wp2_with fail
  go_region_held3 (fun w' => Below w2.heap.size w2 w' ∧ w'.cell? ⟨w.heap.size, 0, none⟩ = some (.string (bs fw)) ∧ w'.cell? ⟨w.heap.size, 1, none⟩ = some (.int .i64 fe))
    ((refine hk.out _ ?_; (first | exact hS | exact hS.drew)))
    ((refine (hof.out _ (below_trans hb2.out (by first | exact hS | exact hS.drew))).mono ?_; rintro e w' ⟨rfl, hbx⟩; have hS : Below w2.heap.size w2 w' := below_trans (by first | exact hS | exact hS.drew) hbx))
  all_goals
    have hS3 : Below w2.heap.size w2 _ := (by first | exact hS | exact hS.drew)
    obtain ⟨_, e0, e1⟩ := hk.out _ hS3
    have hb3 := Lib.hid (below_trans hb2.out hS3)
    clear d0 d1
    go_wp2_with fail
    refine (hcl.out _ hb3.out).mono ?_
    rintro e w4 ⟨v4, rfl, hrow4, hb4⟩
    have hdl := Lib.hid (hdel.out _ _ _ hrow4 hb4 _ e0 e1)
    have hz4 := hb4.size
    go_wp2_with fail
    refine hdl.out.mono ?_
    rintro e w5 ⟨v5, rfl, hrow5, hb5⟩
    have e0 := cell_below hb5 e0
    have e1 := cell_below hb5 e1
    have hbq := Lib.hid (hbs.out _ _ _ hrow5)
    have hrow5 := Lib.hid hrow5
    have hb5 := Lib.hid hb5
    go_wp2_with fail
    refine hbq.out.mono ?_
    rintro e w6 ⟨bq, rfl, hb6⟩
    have e0 := cell_below hb6 e0
    have e1 := cell_below hb6 e1
    have hrow6 := hrow5.out.below hb6
    have hb6 := hb5.out.trans (hb6.mono hb5.out.size)
    have hz6 := hb6.size
    have hbA : Below w6.heap.size w6 (w6.alloc (.cells #[.string (bs fw), .int .i64 fe] 39)) := (Below.refl _ _).alloc (Nat.le_refl _) _
    have hne : ∀ g, v5.ownBlock = some g → w6.heap.size ≠ g := fun g hg e => by
      obtain ⟨_, cs, h⟩ := ownsRow_block hrow6 hg
      have := (Array.getElem?_eq_some_iff.1 h).1
      omega
    have hins := Lib.hid (hin.out _ _ w6.heap.size _ (hrow6.below hbA) (heap_alloc_new w6 _) hne (by rw [World.size_alloc]; omega))
    have hb6 := Lib.hid (hb6.trans (hbA.mono hz6))
    clear hrow6 hne hbA
    go_wp2_with fail
    refine hins.out.mono ?_
    rintro e w7 ⟨v7, rfl, hrow7, hb7⟩
    obtain ⟨a7, c7, rfl⟩ := hrow7.sl
    have hrow7 := Lib.hid hrow7
    have hb7 := hb6.out.trans hb7
    have hb7 := Lib.hid (below_trans hb3.out hb7)
    have he7 := Lib.hid (hE9.out _ hb7.out)
    by_cases h21 : 21 < I.length
    · have hr := Lib.hid (hrH.out.trans (if_pos h21))
      have h21i : (21 : Int) < (I.length : Int) := by omega
      have he7 := he7.out
      go_wp2_with fail
      go_quiet (fail)
      go_wp2_with fail
      go_ret2
      exact ⟨RaiseRes.mk hr.out (FlRow.nil _ _) (ErrAt.bare 7), below_drawn hb7.out _⟩
    · have hr := Lib.hid (hrH.out.trans (if_neg h21))
      have h21i : ¬ (21 : Int) < (I.length : Int) := by omega
      have hrow8 := Lib.hid (hrow7.out.mono (base' := w.heap.size) (by have := hb3.out.size; omega))
      go_wp2_with fail
      go_ret2
      exact ⟨RaiseRes.mk hr.out hrow8.out (ErrAt.bare 0), hb7.out⟩
theorem raise_flo {E : Nat → Addr} (v : Value) (L : List Flo) (f : Flo) (w : World) (hL : Laid E w) (hv : FloorsAt w v L) (hm : ∀ f ∈ L, f.who.length ≤ maxLen) (hf : f.who.length ≤ maxLen) :
    Calls Tryd.prog 16 #[v, f.val] w fun e w' => RaiseRes E w.heap.size w' (raiseF L f) e ∧ Below w.heap.size w w' := by
  by_cases h : (checkF L).1 = 0 ∧ oneF f = 0 ∧ ¬ f.ep ≤ ofF L f.who
  · exact raise_up v L f w hL hv hm hf h.1 h.2.1 h.2.2
  · exact raise_flo0 v L f w hL hv hm hf (fun h1 h2 => Classical.byContradiction fun h3 => h ⟨h1, h2, h3⟩)
end Go.Proofs.YtphjjaanclpagaaDoor
