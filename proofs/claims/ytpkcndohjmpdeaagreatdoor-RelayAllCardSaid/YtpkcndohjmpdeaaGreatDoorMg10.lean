/- FedA, FloD -/
import Derived.Test.YtpkcndohjmpdeaaGreatDoorMg9
import Derived.Test.YtpkcndohjmpdeaaGreatDoorMg7
import Derived.Laws.IdiomCopy
/- feed.Add: walked. -/
namespace Go.Proofs.YtpkcndohjmpdeaaGreatDoor
open Go.RowKit

/-- What hands back entries of its own and an error. -/
def EntRes (E : Nat → Addr) (base : Nat) (w' : World) (r : List Ent × Nat × Int) (e : Ending) : Prop := ∃ v ev, e = .returned (.tuple #[v, ev]) ∧ EntRow w' base v r.1 ∧ ErrAt E w' ev r.2.1 r.2.2
theorem EntRes.mk {E : Nat → Addr} {base : Nat} {w' : World} {r : List Ent × Nat × Int} {v ev : Value} {L : List Ent} {c : Nat} {a : Int} (hr : r = (L, c, a)) (hv : EntRow w' base v L) (he : ErrAt E w' ev c a) : EntRes E base w' r (.returned (.tuple #[v, ev])) := by
  subst hr
  exact ⟨v, ev, rfl, hv, he⟩
theorem EntRow.nil (w : World) (base : Nat) : EntRow w base (.slice none 0 0) [] := RowG.nil _ _ _
theorem addE_check {L : List Ent} {time : Int} {f : Flo} (h : (checkE L).1 ≠ 0) : addE L time f = ([], (checkE L).1, (checkE L).2) := by unfold addE; rw [if_pos h]
theorem addE_full {L : List Ent} {time : Int} {f : Flo} (h : (checkE L).1 = 0) (h1 : 60 ≤ L.length) : addE L time f = ([], 7, -1) := by unfold addE; rw [if_neg (by simpa using h), if_pos h1]
theorem addE_one {L : List Ent} {time : Int} {f : Flo} (h : (checkE L).1 = 0) (h1 : ¬ 60 ≤ L.length) {c : Nat} (hc : entErr (wasE L L.length) L.length ⟨(L.length : Int) + 1, time, f⟩ = c + 1) : addE L time f = ([], c + 1, -1) := by
  unfold addE; rw [if_neg (by simpa using h), if_neg h1, hc, if_pos (Nat.succ_ne_zero _)]
theorem addE_good {L : List Ent} {time : Int} {f : Flo} (h : (checkE L).1 = 0) (h1 : ¬ 60 ≤ L.length) (hc : entErr (wasE L L.length) L.length ⟨(L.length : Int) + 1, time, f⟩ = 0) : addE L time f = (L ++ [⟨(L.length : Int) + 1, time, f⟩], 0, -1) := by
  unfold addE; rw [if_neg (by simpa using h), if_neg h1, hc, if_neg (by simp)]
set_option maxHeartbeats 4000000 in
set_option maxRecDepth 100000 in
theorem add_ent {E : Nat → Addr} (v : Value) (L : List Ent) (time : Int) (f : Flo) (w : World) (hL : Laid E w) (hv : EntsAt w v L) (hm : ∀ e ∈ L, e.f.who.length ≤ maxLen) (hf : f.who.length ≤ maxLen) :
    Calls Tryz.prog 33 #[v, .int .i64 time, f.val] w fun e w' => EntRes E w.heap.size w' (addE L time f) e ∧ Below w.heap.size w w' := by
  have hA : Below w.heap.size w (w.alloc (.cells f.cells.toArray 36)) := (Below.refl _ _).alloc (Nat.le_refl _) _
  have hck := Lib.hid (check_ent (E := E) v L _ (hL.below hA) (AtG.below hv hA) hm)
  have hbox := heap_alloc_new w (.cells f.cells.toArray 36)
  have hri := Lib.hid (fun (vx : Value) wx (hx : Below w.heap.size w wx) (hvx : EntsAt wx vx (L ++ [⟨(L.length : Int) + 1, time, f⟩])) => right_ent (E := E) vx (L ++ [⟨(L.length : Int) + 1, time, f⟩]) L.length wx (hL.below hx) hvx (by simp) (by
    rw [List.getD_eq_getElem?_getD, List.getElem?_append_right (Nat.le_refl _)]
    simpa using hf))
  have hlast := errAtE_last L ⟨(L.length : Int) + 1, time, f⟩
  have hlen := AtG.len hv
  unfold maxLen at hlen
  have hcl := Lib.hid (fun (h : L.length ≤ 1000) wx (hx : Below w.heap.size w wx) => clone_ent v L wx (AtG.below hv hx) h)
  obtain ⟨a0, c0, hv0⟩ := AtG.sl hv
  have he7 := Lib.hid (fun wx (hx : Below w.heap.size w wx) => (hL.below hx).e7)
  obtain ⟨fw, fe⟩ := f
  dsimp only [Flo.val, Flo.cells] at *
  have hboxH := Lib.hid hbox
  have hAH := Lib.hid hA
  clear hA hv hm hL hbox
  subst hv0
  by_cases hc0 : (checkE L).1 = 0
  case neg =>
    have hr := Lib.hid (addE_check (time := time) (f := ⟨fw, fe⟩) hc0)
    have hc0H := Lib.hid hc0
    clear hc0 hri hcl hlast
    go_enter Tryz.func33, Tryz.ntmps33
    go_wp2_with fail
    refine hck.out.mono ?_
    rintro e w1 ⟨ev, rfl, he, hb1⟩
    obtain ⟨T, x, rfl⟩ := he.iface hc0H.out
    have he := Lib.hid he
    have hb1 := Lib.hid (below_trans hAH.out hb1)
    go_wp2_with fail
    go_ret2
    exact ⟨EntRes.mk hr.out (EntRow.nil _ _) he.out, hb1.out⟩
  have hc0H := Lib.hid hc0
  clear hc0
  by_cases h60 : 60 ≤ L.length
  · have hr := Lib.hid (addE_full (time := time) (f := ⟨fw, fe⟩) hc0H.out h60)
    have h60' : decide ((60 : Int) ≤ (L.length : Int)) = true := decide_eq_true (by omega)
    clear hri hcl hlast
    go_enter Tryz.func33, Tryz.ntmps33
    go_wp2_with fail
    refine hck.out.mono ?_
    rintro e w1 ⟨ev, rfl, he, hb1⟩
    obtain ⟨rfl, _⟩ := he.zero hc0H.out
    have hbA := below_trans hAH.out hb1
    have he7 := he7.out _ hbA
    simp only [errV] at he7
    have hb1 := Lib.hid hbA
    clear he hbA
    go_wp2_with fail
    go_quiet (fail)
    go_wp2_with fail
    go_ret2
    exact ⟨EntRes.mk hr.out (EntRow.nil _ _) (ErrAt.bare 7), below_drawn hb1.out _⟩
  have h60' : decide ((60 : Int) ≤ (L.length : Int)) = false := decide_eq_false (by omega)
  have hcl := Lib.hid (hcl.out (by omega))
  have hsum := IntWalk.i64_in ((L.length : Int) + 1) (by omega)
  have hrE := Lib.hid (fun (c : Nat) (h : errAtE (L ++ [⟨(L.length : Int) + 1, time, ⟨fw, fe⟩⟩]) L.length = c + 1) => addE_one (time := time) (f := ⟨fw, fe⟩) hc0H.out h60 (hlast.symm.trans h))
  have hrG := Lib.hid (fun (h : errAtE (L ++ [⟨(L.length : Int) + 1, time, ⟨fw, fe⟩⟩]) L.length = 0) => addE_good (time := time) (f := ⟨fw, fe⟩) hc0H.out h60 (hlast.symm.trans h))
  generalize hM : L ++ [(⟨(L.length : Int) + 1, time, ⟨fw, fe⟩⟩ : Ent)] = M at *
  have hMH := Lib.hid hM
  have hlt60 := Lib.hid (Nat.lt_of_not_le h60)
  clear hlast h60 hM
  go_enter Tryz.func33, Tryz.ntmps33
  go_wp2_with fail
  refine hck.out.mono ?_
  rintro e W ⟨ev, rfl, he, hb1⟩
  obtain ⟨rfl, _⟩ := he.zero hc0H.out
  have hrow1 := Lib.hid (heap_down hb1 hboxH.out)
  have hkS := Lib.hid (fun (w' : World) (h : w'.heap[w.heap.size]? = some (.cells #[.string (bs fw), .int .i64 fe] 36 (0, 0))) => (show w'.cell? ⟨w.heap.size, 0, none⟩ = some (.string (bs fw)) ∧ w'.cell? ⟨w.heap.size, 1, none⟩ = some (.int .i64 fe) from ⟨by rw [cell_of_row _ _ _ _ _ _ h]; rfl, by rw [cell_of_row _ _ _ _ _ _ h]; rfl⟩))
  have hltW : w.heap.size < W.heap.size := (Array.getElem?_eq_some_iff.1 hrow1.out).1
  have hbW := Lib.hid (below_trans hAH.out hb1)
  have hbA := Lib.hid (fun (o : Obj) => (show Below w.heap.size w (W.drew.alloc o) from ((below_trans hAH.out hb1).drew).alloc (show w.heap.size ≤ W.drew.heap.size from Nat.le_of_lt hltW) o))
  have hrD := Lib.hid (show W.drew.heap[w.heap.size]? = some (.cells #[.string (bs fw), .int .i64 fe] 36 (0, 0)) from hrow1.out)
  have hrA := Lib.hid (fun (o : Obj) => (Below.heap_alloc W.drew o w.heap.size (show w.heap.size < W.drew.heap.size from hltW)).trans hrD.out)
  have hcD := hkS.out _ hrD.out
  clear hb1 he hck hrow1
  go_upto_region 6 with fail
  refine wp_region_noPanic ?_
  refine wp_region_held_drew (S := fun w' => w'.cell? ⟨w.heap.size, 0, none⟩ = some (.string (bs fw)) ∧ w'.cell? ⟨w.heap.size, 1, none⟩ = some (.int .i64 fe)) (by kernel_rfl) ?_ (fun hHeld => ?_)
  · exact hcD
  refine' held_take (i := 0) (d := some 20) (v := _) rfl rfl (by kernel_rfl) (by kernel_rfl) (by kernel_rfl) (fun _ _ _ h => h) rfl (by assumption) ?hy_1 ?re_1
  case hy_1 =>
    intro w hSw
    try dsimp only at hSw
    go_simp
    try with_reducible rfl
  simp only [Act.put, List.setIfInBounds_toArray, List.set_cons_zero, List.set_cons_succ]
  refine' held_take (i := 2) (d := some 22) (v := _) rfl rfl (by kernel_rfl) (by kernel_rfl) (by kernel_rfl) (fun _ _ _ h => h) rfl (by assumption) ?hy_2 ?re_2
  case hy_2 =>
    intro w hSw
    try dsimp only at hSw
    go_simp
    try with_reducible rfl
  simp only [Act.put, List.setIfInBounds_toArray, List.set_cons_zero, List.set_cons_succ]
  refine' held_take (i := 3) (d := some 23) (v := _) rfl rfl (by kernel_rfl) (by kernel_rfl) (by kernel_rfl) (fun _ _ _ h => h) rfl (by assumption) ?hy_3 ?re_3
  case hy_3 =>
    intro w hSw
    try dsimp only at hSw
    go_simp
    try with_reducible rfl
  simp only [Act.put, List.setIfInBounds_toArray, List.set_cons_zero, List.set_cons_succ]
  refine' held_take (i := 4) (d := some 24) (v := _) rfl rfl (by kernel_rfl) (by kernel_rfl) (by kernel_rfl) (fun _ _ _ h => h) rfl (by assumption) ?hy_4 ?re_4
  case hy_4 =>
    intro w hSw
    try dsimp only at hSw
    go_simp
    try with_reducible rfl
  simp only [Act.put, List.setIfInBounds_toArray, List.set_cons_zero, List.set_cons_succ]
  refine' held_take (i := 5) (d := some 25) (v := _) rfl rfl (by kernel_rfl) (by kernel_rfl) (by kernel_rfl) (fun _ _ _ h => h) rfl (by assumption) ?hy_5 ?re_5
  case hy_5 =>
    intro w hSw
    try dsimp only at hSw
    go_simp
    try with_reducible rfl
  simp only [Act.put, List.setIfInBounds_toArray, List.set_cons_zero, List.set_cons_succ]
  refine' held_take (i := 6) (d := some 26) (v := _) rfl rfl (by kernel_rfl) (by kernel_rfl) (by kernel_rfl) (fun _ _ _ h => h) rfl (by assumption) ?hy_6 ?re_6
  case hy_6 =>
    intro w hSw
    try dsimp only at hSw
    go_simp
    try with_reducible rfl
  simp only [Act.put, List.setIfInBounds_toArray, List.set_cons_zero, List.set_cons_succ]
  refine' held_take (i := 7) (d := some 27) (v := _) rfl rfl (by kernel_rfl) (by kernel_rfl) (by kernel_rfl) (fun _ _ _ h => h) rfl (by assumption) ?hy_7 ?re_7
  case hy_7 =>
    intro w hSw
    try dsimp only at hSw
    go_simp
    try with_reducible rfl
  simp only [Act.put, List.setIfInBounds_toArray, List.set_cons_zero, List.set_cons_succ]
  refine wpAnyH_ready (rs := [1, 8]) (by kernel_rfl) (by simp) ?_
  refine AllReadyH.cons rfl (fun K hK => ?_) (AllReadyH.cons rfl (fun K hK => ?_) AllReadyH.nil)
  · go_simp
    refine (hcl.out _ (hbW.out.drew)).mono ?_
    rintro e w5 ⟨v5, rfl, hrow5, hb5⟩
    have hr5 := Lib.hid (heap_down hb5 (hrD.out))
    have hb5H := Lib.hid (below_trans (hbW.out.drew) hb5)
    have hs5 : W.drew.heap.size ≤ w5.heap.size := Nat.le_trans (by first | exact Nat.le_refl _ | (rw [World.size_alloc]; exact Nat.le_succ _)) hb5.size
    have hrow5H := Lib.hid (RowG.mono hrow5 (base' := W.drew.heap.size) (by first | exact Nat.le_refl _ | (rw [World.size_alloc]; exact Nat.le_succ _)))
    have hlt5 : w.heap.size < w5.heap.size := Nat.lt_of_lt_of_le hltW hs5
    have hr5A := Lib.hid (fun (o : Obj) => (Below.heap_alloc w5 o w.heap.size hlt5).trans hr5.out)
    have hb5A := Lib.hid (fun (o : Obj) => hb5H.out.alloc (Nat.le_of_lt hlt5) o)
    clear hrow5 hb5
    go_wp2_with fail
    refine hK.out _ _ ?_ (fun hHeld => ?_)
    · exact hkS.out _ hr5.out
    clear hK K
    try simp only [Act.put, List.setIfInBounds_toArray, List.set_cons_zero, List.set_cons_succ]
    refine wpAnyH_ready (rs := [8]) (by kernel_rfl) (by simp) ?_
    refine AllReadyH.cons rfl (fun K hK => ?_) AllReadyH.nil
    go_simp
    refine hK.out _ _ ?_ (fun hHeld => ?_)
    · exact hkS.out _ (hr5A.out _)
    clear hK K
    try simp only [Act.put, List.setIfInBounds_toArray, List.set_cons_zero, List.set_cons_succ]
    refine wpAnyH_ready (rs := [9]) (by kernel_rfl) (by simp) ?_
    refine AllReadyH.cons rfl (fun K hK => ?_) AllReadyH.nil
    refine step_appG entC _ rfl _ _ 22 rfl 38 (.agg #[.int .i64 0, .int .i64 0, .string ⟨#[]⟩, .int .i64 0]) 40 Tryz.underlying22 info_ent rfl (by decide) W.drew.heap.size _ L (by rfl) (RowG.alloc hrow5H.out _) _ [(⟨(L.length : Int) + 1, time, ⟨fw, fe⟩⟩ : Ent)] (by rfl) (AtG.new _ _ _ rfl) (by simp) (by have := hlt60.out; simp; omega) (by rw [World.size_alloc]; exact Nat.le_succ_of_le hs5) ?_
    intro v6 w6 hown6 hb6 _
    rw [hMH.out] at hown6
    have hr6 := Lib.hid ((hb6.block w.heap.size hltW).trans (hr5A.out _))
    have hbf := Lib.hid ((hb5A.out _).trans (hb6.mono (show w.heap.size ≤ W.drew.heap.size from Nat.le_of_lt hltW)))
    have hfin := Lib.hid (RowG.mono hown6 (base' := w.heap.size) (show w.heap.size ≤ W.drew.heap.size from Nat.le_of_lt hltW))
    clear hown6 hb6
    refine hK.out _ _ ?_ (fun hHeld => ?_)
    · exact hkS.out _ hr6.out
    clear hK K
    try simp only [Act.put, List.setIfInBounds_toArray, List.set_cons_zero, List.set_cons_succ]
    refine' held_take (i := 10) (d := some 9) (v := _) rfl rfl (by kernel_rfl) (by kernel_rfl) (by kernel_rfl) (fun _ _ _ h => h) rfl (by assumption) ?hy_8 ?re_8
    case hy_8 =>
      intro w hSw
      try dsimp only at hSw
      go_simp
      try with_reducible rfl
    simp only [Act.put, List.setIfInBounds_toArray, List.set_cons_zero, List.set_cons_succ]
    refine wpAnyH_done (by kernel_rfl) ?_ _
    refine NoPanic.normal ?_
    have hr7 := hri.out _ _ hbf.out (EntRow.at_ hfin.out)
    cases hcd : errAtE M L.length with
    | succ cd =>
      rw [hcd, errV_succ] at hr7
      have hr := Lib.hid (hrE.out cd hcd)
      have hr7 := Lib.hid hr7
      clear hcd
      go_wp2_with fail
      refine hr7.out.mono ?_
      rintro e w7 ⟨rfl, hb7⟩
      have hb7 := Lib.hid (below_trans hbf.out hb7)
      go_wp2_with fail
      go_ret2
      exact ⟨EntRes.mk hr.out (EntRow.nil _ _) (ErrAt.bare (cd + 1)), hb7.out⟩
    | zero =>
      rw [hcd, errV_zero] at hr7
      have hr := Lib.hid (hrG.out hcd)
      have hr7 := Lib.hid hr7
      clear hcd
      go_wp2_with fail
      refine hr7.out.mono ?_
      rintro e w7 ⟨rfl, hb7⟩
      have hfin := Lib.hid (RowG.below hfin.out hb7)
      have hb7 := Lib.hid (below_trans hbf.out hb7)
      go_wp2_with fail
      go_ret2
      exact ⟨EntRes.mk hr.out hfin.out (ErrAt.bare 0), hb7.out⟩
  · go_simp
    refine hK.out _ _ ?_ (fun hHeld => ?_)
    · exact hkS.out _ (hrA.out _)
    clear hK K
    try simp only [Act.put, List.setIfInBounds_toArray, List.set_cons_zero, List.set_cons_succ]
    refine wpAnyH_ready (rs := [1]) (by kernel_rfl) (by simp) ?_
    refine AllReadyH.cons rfl (fun K hK => ?_) AllReadyH.nil
    go_simp
    refine (hcl.out _ (hbA.out _)).mono ?_
    rintro e w5 ⟨v5, rfl, hrow5, hb5⟩
    have hr5 := Lib.hid (heap_down hb5 (hrA.out _))
    have hb5H := Lib.hid (below_trans (hbA.out _) hb5)
    have hs5 : W.drew.heap.size ≤ w5.heap.size := Nat.le_trans (by first | exact Nat.le_refl _ | (rw [World.size_alloc]; exact Nat.le_succ _)) hb5.size
    have hrow5H := Lib.hid (RowG.mono hrow5 (base' := W.drew.heap.size) (by first | exact Nat.le_refl _ | (rw [World.size_alloc]; exact Nat.le_succ _)))
    have hlt5 : w.heap.size < w5.heap.size := Nat.lt_of_lt_of_le hltW hs5
    have hr5A := Lib.hid (fun (o : Obj) => (Below.heap_alloc w5 o w.heap.size hlt5).trans hr5.out)
    have hb5A := Lib.hid (fun (o : Obj) => hb5H.out.alloc (Nat.le_of_lt hlt5) o)
    have hnew := Lib.hid ((AtG.new (C := entC) W.drew (⟨(L.length : Int) + 1, time, ⟨fw, fe⟩⟩ : Ent) 38 rfl).below hb5)
    clear hrow5 hb5
    go_wp2_with fail
    refine hK.out _ _ ?_ (fun hHeld => ?_)
    · exact hkS.out _ hr5.out
    clear hK K
    try simp only [Act.put, List.setIfInBounds_toArray, List.set_cons_zero, List.set_cons_succ]
    refine wpAnyH_ready (rs := [9]) (by kernel_rfl) (by simp) ?_
    refine AllReadyH.cons rfl (fun K hK => ?_) AllReadyH.nil
    refine step_appG entC _ rfl _ _ 22 rfl 38 (.agg #[.int .i64 0, .int .i64 0, .string ⟨#[]⟩, .int .i64 0]) 40 Tryz.underlying22 info_ent rfl (by decide) W.drew.heap.size _ L (by rfl) (hrow5H.out) _ [(⟨(L.length : Int) + 1, time, ⟨fw, fe⟩⟩ : Ent)] (by rfl) (hnew.out) (by simp) (by have := hlt60.out; simp; omega) (hs5) ?_
    intro v6 w6 hown6 hb6 _
    rw [hMH.out] at hown6
    have hr6 := Lib.hid ((hb6.block w.heap.size hltW).trans (hr5.out))
    have hbf := Lib.hid ((hb5H.out).trans (hb6.mono (show w.heap.size ≤ W.drew.heap.size from Nat.le_of_lt hltW)))
    have hfin := Lib.hid (RowG.mono hown6 (base' := w.heap.size) (show w.heap.size ≤ W.drew.heap.size from Nat.le_of_lt hltW))
    clear hown6 hb6
    refine hK.out _ _ ?_ (fun hHeld => ?_)
    · exact hkS.out _ hr6.out
    clear hK K
    try simp only [Act.put, List.setIfInBounds_toArray, List.set_cons_zero, List.set_cons_succ]
    refine' held_take (i := 10) (d := some 9) (v := _) rfl rfl (by kernel_rfl) (by kernel_rfl) (by kernel_rfl) (fun _ _ _ h => h) rfl (by assumption) ?hy_9 ?re_9
    case hy_9 =>
      intro w hSw
      try dsimp only at hSw
      go_simp
      try with_reducible rfl
    simp only [Act.put, List.setIfInBounds_toArray, List.set_cons_zero, List.set_cons_succ]
    refine wpAnyH_done (by kernel_rfl) ?_ _
    refine NoPanic.normal ?_
    have hr7 := hri.out _ _ hbf.out (EntRow.at_ hfin.out)
    cases hcd : errAtE M L.length with
    | succ cd =>
      rw [hcd, errV_succ] at hr7
      have hr := Lib.hid (hrE.out cd hcd)
      have hr7 := Lib.hid hr7
      clear hcd
      go_wp2_with fail
      refine hr7.out.mono ?_
      rintro e w7 ⟨rfl, hb7⟩
      have hb7 := Lib.hid (below_trans hbf.out hb7)
      go_wp2_with fail
      go_ret2
      exact ⟨EntRes.mk hr.out (EntRow.nil _ _) (ErrAt.bare (cd + 1)), hb7.out⟩
    | zero =>
      rw [hcd, errV_zero] at hr7
      have hr := Lib.hid (hrG.out hcd)
      have hr7 := Lib.hid hr7
      clear hcd
      go_wp2_with fail
      refine hr7.out.mono ?_
      rintro e w7 ⟨rfl, hb7⟩
      have hfin := Lib.hid (RowG.below hfin.out hb7)
      have hb7 := Lib.hid (below_trans hbf.out hb7)
      go_wp2_with fail
      go_ret2
      exact ⟨EntRes.mk hr.out hfin.out (ErrAt.bare 0), hb7.out⟩
end Go.Proofs.YtpkcndohjmpdeaaGreatDoor

/- floor.Raise's closures; slices.DeleteFunc at floors, walked. -/
namespace Go.Proofs.YtpkcndohjmpdeaaGreatDoor
open Go.RowKit

theorem AsksF.at_below {g : Nat} {cs : Array Value} {p : Flo → Bool} {w w' : World} (h : AsksF g cs p w) (hb : Below w.heap.size w w') : AsksF g cs p w' :=
  fun W f hf hW => h W f hf (hb.trans (hW.mono hb.size))
set_option maxRecDepth 100000 in
theorem raise1_asks (f : Flo) (b : Nat) (w : World) (h0 : w.cell? ⟨b, 0, none⟩ = some (.string (bs f.who))) (h1 : w.cell? ⟨b, 1, none⟩ = some (.int .i64 f.ep)) :
    AsksF 70 #[.pointer (some ⟨b, 0, none⟩)] (fun g => !keepF f g) w := by
  intro W g hl hW
  have h0 := cell_below hW h0
  have h1 := cell_below hW h1
  obtain ⟨fw, fe⟩ := f
  obtain ⟨gw, ge⟩ := g
  dsimp only [Flo.val] at *
  have hlt := World.block_lt_of_cell? W _ h0
  have c0 : ∀ o, (W.alloc o).cell? ⟨b, 0, none⟩ = some (.string (bs fw)) := fun o => by rw [World.cell?_alloc_lt _ _ _ hlt]; exact h0
  have c1 : ∀ o, (W.alloc o).cell? ⟨b, 1, none⟩ = some (.int .i64 fe) := fun o => by rw [World.cell?_alloc_lt _ _ _ (show (⟨b, 1, none⟩ : Addr).block < _ from hlt)]; exact h1
  have hk : (!keepF ⟨fw, fe⟩ ⟨gw, ge⟩) = (gw == fw || (fw == starW && decide (ge ≤ fe))) := by unfold keepF; simp
  have e1 : ((bs gw).toList == (bs fw).toList) = (gw == fw) := by rw [toList_data, toList_data, bs_list, bs_list]
  have e2 : ((bs fw).toList == [42]) = (fw == starW) := by rw [toList_data, bs_list]; rfl
  have hB := (Below.refl W.heap.size W).alloc (Nat.le_refl _) (.cells #[.string (bs gw), .int .i64 ge] 36)
  clear h0 h1 hW
  rw [hk]
  clear hk
  cases q1 : (gw == fw) with
  | true =>
    rw [q1] at e1
    clear q1
    go_enter Tryz.func70, Tryz.ntmps70
    go_wp2_with fail
    go_ret
    exact ⟨rfl, hB⟩
  | false =>
    rw [q1] at e1
    cases q2 : (fw == starW) with
    | false =>
      rw [q2] at e2
      clear q1 q2
      go_enter Tryz.func70, Tryz.ntmps70
      go_wp2_with fail
      go_ret
      exact ⟨rfl, hB⟩
    | true =>
      rw [q2] at e2
      clear q1 q2
      by_cases hle : ge ≤ fe
      all_goals
        go_enter Tryz.func70, Tryz.ntmps70
        go_wp2_with fail
        go_ret
        exact ⟨by simp [hle], hB⟩

/-- Cells written one behind the other into a block. -/
theorem heap_setCells (g : Nat) (T : TypeId) : ∀ (vs : List Value) (o : Nat) (w : World) (cur : Array Value), w.heap[g]? = some (.cells cur T (0, 0)) → o + vs.length ≤ cur.size →
    ∃ cur' : Array Value, (w.setCells g o vs).heap[g]? = some (.cells cur' T (0, 0)) ∧ cur'.size = cur.size ∧ cur'.toList = cur.toList.take o ++ vs ++ cur.toList.drop (o + vs.length)
  | [], o, w, cur, h, _ => ⟨cur, h, rfl, by simp⟩
  | v :: r, o, w, cur, h, hl => by
    have h1 := heap_setCell_same w g o cur T v h
    obtain ⟨cur', h2, h3, h4⟩ := heap_setCells g T r (o + 1) (w.setCell ⟨g, o, none⟩ v) _ h1 (by simp at hl ⊢; omega)
    refine ⟨cur', h2, by simpa using h3, ?_⟩
    rw [h4]
    simp only [List.length_cons] at hl
    have ho : o < cur.toList.length := by simp; omega
    simp only [Array.toList_setIfInBounds, List.length_cons]
    rw [List.take_add_one, List.getElem?_set_self ho, List.take_set_of_le (Nat.le_refl _), List.drop_set_of_lt (by omega), show o + 1 + r.length = o + (r.length + 1) by omega]
    simp
theorem heap_setCells_other (g k : Nat) (h : k ≠ g) : ∀ (vs : List Value) (o : Nat) (w : World), (w.setCells g o vs).heap[k]? = w.heap[k]?
  | [], _, _ => rfl
  | v :: r, o, w => by rw [World.setCells, heap_setCells_other g k h r, heap_setCell_other _ _ _ _ h]
theorem below_setCells {B : Nat} {a : World} (g : Nat) (hg : B ≤ g) : ∀ (vs : List Value) (o : Nat) (w : World), Below B a w → Below B a (w.setCells g o vs)
  | [], _, _, h => h
  | v :: r, o, w, h => below_setCells g hg r (o + 1) _ (h.setCell (p := ⟨g, o, none⟩) hg v)
theorem zero_floor (w : World) : (zeroValue 36).run Tryz.prog w = .ok (.agg #[.string ⟨#[]⟩, .int .i64 0]) w := by kernel_rfl
theorem zeros_floor (n : Nat) : (Builtin.zeroCells (Value.agg #[.string ⟨#[]⟩, .int .i64 0]).cells n).toList.length = n * 2 ∧ ∀ u ∈ (Builtin.zeroCells (Value.agg #[.string ⟨#[]⟩, .int .i64 0]).cells n).toList, u.oneCell' = true := by
  have hs : (Value.agg #[.string ⟨#[]⟩, .int .i64 0]).cells = #[.string ⟨#[]⟩, .int .i64 0] := rfl
  rw [hs]
  refine ⟨by rw [Array.length_toList, size_zeroCells]; rfl, fun u hu => ?_⟩
  unfold Builtin.zeroCells at hu
  simp only [Array.toList_map, List.mem_map] at hu
  obtain ⟨i, _, rfl⟩ := hu
  have : i % 2 = 0 ∨ i % 2 = 1 := by omega
  rcases this with h | h
  · show ((#[Value.string ⟨#[]⟩, .int .i64 0] : Array Value)[i % 2]!).oneCell' = true
    rw [h]; rfl
  · show ((#[Value.string ⟨#[]⟩, .int .i64 0] : Array Value)[i % 2]!).oneCell' = true
    rw [h]; rfl
theorem run_clear_floors (w : World) (ty : TypeId) (b o n c : Nat) (hn : 0 < n) (hc : ∀ j, j < n * 2 → (w.cell? ⟨b, o + j, none⟩).isSome = true) (hf : ∀ j, j < n * 2 → w.frozen? ⟨b, o + j, none⟩ = false) :
    (Builtin.clear_ #[45] ty #[.slice (some ⟨b, o, none⟩) n c]).run Tryz.prog w = .ok (.tuple #[]) (w.setCells b o (Builtin.zeroCells (Value.agg #[.string ⟨#[]⟩, .int .i64 0]).cells n).toList) := by
  obtain ⟨hz1, hz2⟩ := zeros_floor n
  have hst := run_storeCells_cells (P := Tryz.prog) b o (Builtin.zeroCells (Value.agg #[.string ⟨#[]⟩, .int .i64 0]).cells n).toList 0 w (by rw [hz1]; simpa using hc) (by rw [hz1]; simpa using hf) hz2
  simp only [Nat.add_zero] at hst
  obtain ⟨m, rfl⟩ : ∃ m, n = m + 1 := ⟨n - 1, by omega⟩
  simp [Builtin.clear_, run_underlying Tryz.underlying45, zero_floor, hst]

theorem take_keep {p : Flo → Bool} {L : List Flo} {q : Nat} (hq : q < L.length) : (L.take (q + 1)).filter (fun f => !p f) = (L.take q).filter (fun f => !p f) ++ (if p L[q] = true then [] else [L[q]]) := by
  rw [List.take_succ_eq_append_getElem hq, List.filter_append]
  congr 1
  by_cases h : p L[q] = true
  · rw [if_pos h]; simp [h]
  · rw [if_neg h]; simp [h]
set_option maxHeartbeats 2000000 in
set_option maxRecDepth 100000 in
theorem delf_flo (w0 : World) (v : Value) (L : List Flo) (g : Nat) (cs : Array Value) (p : Flo → Bool) (w : World) (hv : FlRow w w0.heap.size v L) (hL : L.length ≤ 1000) (hm : ∀ f ∈ L, f.who.length ≤ maxLen) (hbw : Below w0.heap.size w0 w) (hg : AsksF g cs p w0) (eg : ∀ args w, (callFunc g args).run Tryz.prog w = .ok (.enter g args) w) :
    Calls Tryz.prog 69 #[v, .func (.func g) #[] cs] w fun e w' => ∃ v', e = .returned v' ∧ FlRow w' w0.heap.size v' (L.filter fun f => !p f) ∧ Below w0.heap.size w0 w' := by
  have hix := Lib.hid (index_flo v L g cs p w (hv.at_ (by unfold maxLen; omega)) hm (hg.at_below hbw) eg)
  have hmH := Lib.hid hm
  have hgH := Lib.hid hg
  clear hm hg
  by_cases hall : ∀ i (h : i < L.length), p L[i] = false
  · have hfi := firstF_none hall
    rw [hfi] at hix
    have hfl : L.filter (fun f => !p f) = L := List.filter_eq_self.2 fun f hf => by
      obtain ⟨i, hi, rfl⟩ := List.getElem_of_mem hf
      rw [hall i hi]; rfl
    rw [hfl]
    clear hfi hfl hall
    have hbw := Lib.hid hbw
    rcases hv.shape with ⟨rfl, rfl⟩ | ⟨gb, cap, cur, rfl, _⟩
    all_goals
      go_enter Tryz.func69, Tryz.ntmps69
      go_wp2_with fail
      refine hix.out.mono ?_
      rintro e w1 ⟨rfl, hb1⟩
      have hb1 := Lib.hid hb1
      go_wp2_with fail
      go_ret
      exact ⟨_, rfl, hv.below hb1.out, hbw.out.trans (hb1.out.mono hbw.out.size)⟩
  · obtain ⟨i0, hi0, hp0, hbef⟩ : ∃ (i0 : Nat) (h : i0 < L.length), p L[i0] = true ∧ ∀ i (h : i < L.length), i < i0 → p L[i] = false := by
      have hlt : L.findIdx p < L.length := by
        rcases Nat.lt_or_ge (L.findIdx p) L.length with h | h
        · exact h
        · exfalso
          apply hall
          intro i hi
          have : L.findIdx p = L.length := Nat.le_antisymm List.findIdx_le_length h
          have := (List.findIdx_eq_length.1 this) L[i] (List.getElem_mem hi)
          simpa using this
      refine ⟨L.findIdx p, hlt, List.findIdx_getElem, fun i hi hii => by simpa using List.not_of_lt_findIdx hii⟩
    have hfi := firstF_of hi0 hp0 hbef
    rw [hfi] at hix
    clear hfi hall
    rcases hv.shape with ⟨rfl, rfl⟩ | ⟨gb, cap, cur, rfl, hgb, hgc, hcap, hmx, hsz, htk⟩
    · exact absurd hi0 (Nat.not_lt_zero _)
    have hf0 : (L.take (i0 + 1)).filter (fun f => !p f) = L.take i0 := by
      rw [take_keep hi0, if_pos hp0, List.append_nil]
      refine List.filter_eq_self.2 fun f hf => ?_
      obtain ⟨i, hi, rfl⟩ := List.getElem_of_mem hf
      have hi2 : i < i0 := by rw [List.length_take] at hi; omega
      rw [List.getElem_take, hbef i (by omega) hi2]; rfl
    have hf0 := Lib.hid hf0
    have hbw := Lib.hid hbw
    clear hp0 hbef hgc hsz htk
    go_enter Tryz.func69, Tryz.ntmps69
    go_wp2_with fail
    refine hix.out.mono ?_
    rintro e w1 ⟨rfl, hb1⟩
    have hv1 := Lib.hid (hv.below hb1)
    have hbw1 := Lib.hid (hbw.out.trans (hb1.mono hbw.out.size))
    clear hb1 hv hix
    unfold maxLen at hmx
    go_wp2_with fail
    go_loopg [5, 6] (L.length + 1) (fun g8 i j wr => ∃ (a q : Nat) (X : List Flo), i = .int .i64 a ∧ j = .int .i64 q ∧ a < q ∧ q ≤ L.length ∧ L.length - q + 1 ≤ g8 ∧ X.length = L.length ∧ Hid (X.take a = (L.take q).filter fun f => !p f) ∧ Hid (X.drop q = L.drop q) ∧ Hid (FlRow wr w0.heap.size (.slice (some ⟨gb, 0, none⟩) L.length cap) X) ∧ Hid (Below w0.heap.size w0 wr))
    case atStart => exact ⟨i0, i0 + 1, L, by simp, by simp, by omega, hi0, by omega, rfl, Lib.hid hf0.out.symm, Lib.hid rfl, hv1, hbw1⟩
    case round =>
      obtain ⟨a, q, X, rfl, rfl, haq, hq, hgq, hXL, hXt, hXd, hrow, hK⟩ := hrel
      by_cases hlt : q < L.length
      · have hxq : X[q]? = some L[q] := by
          have h1 : (X.drop q)[0]? = (L.drop q)[0]? := by rw [hXd.out]
          rw [List.getElem?_drop, List.getElem?_drop, Nat.add_zero, List.getElem?_eq_getElem hlt] at h1
          exact h1
        obtain ⟨hqx, hxq⟩ := List.getElem?_eq_some_iff.1 hxq
        have hrowX : FlRow wr w0.heap.size (.slice (some ⟨gb, 0, none⟩) X.length cap) X := by rw [hXL]; exact hrow.out
        obtain ⟨f0, f1⟩ := flatF_get X q hqx
        have c0 := hrowX.cells _ _ f0
        have c1 := hrowX.cells _ _ f1
        rw [hxq] at c0 c1
        clear f0 f1
        have hB := hK.out.alloc hK.out.size (.cells #[.string (bs L[q].who), .int .i64 L[q].ep] 36)
        have hgc := Lib.hid (hgH.out _ L[q] (hmH.out _ (List.getElem_mem hlt)) hB)
        have hk0 : (0 : Int) ≤ (q : Int) := by omega
        have hk1 : (q : Int) < (L.length : Int) := by omega
        have htk := Lib.hid (take_keep (p := p) hlt)
        have hwi : IntKind.i64.wrap ((q : Int) + 1) = (q : Int) + 1 := by rw [IntKind.wrap_i64]; omega
        cases hb : p L[q] with
        | true =>
          rw [hb] at hgc
          have hXt2 := Lib.hid (show X.take a = (L.take (q + 1)).filter fun f => !p f by rw [htk.out, if_pos hb, List.append_nil]; exact hXt.out)
          have hXd2 := Lib.hid (show X.drop (q + 1) = L.drop (q + 1) by rw [← List.drop_drop, ← List.drop_drop, hXd.out])
          clear hb
          go_wp2_with fail
          refine hgc.out.mono ?_
          rintro e w2 ⟨rfl, hb2⟩
          have hA := (Below.refl wr.heap.size wr).alloc (Nat.le_refl _) (.cells #[.string (bs L[q].who), .int .i64 L[q].ep] 36)
          have hrow2 := Lib.hid (hrow.out.below (below_trans hA hb2))
          have hK2 := Lib.hid (hK.out.trans ((below_trans hA hb2).mono hK.out.size))
          clear c0 c1 hA hb2
          go_wp2_with fail
          go_roundg (L.length - q)
          case measure => omega
          case rel => exact ⟨a, q + 1, X, by simp, by simp, by omega, hlt, by omega, hXL, hXt2, hXd2, hrow2, hK2⟩
        | false =>
          rw [hb] at hgc
          have hax : a < X.length := by omega
          have hXt2 := Lib.hid (show (X.set a L[q]).take (a + 1) = (L.take (q + 1)).filter fun f => !p f by
            rw [htk.out, if_neg (by rw [hb]; decide), ← hXt.out, List.take_succ_eq_append_getElem (by rw [List.length_set]; exact hax), List.getElem_set_self, List.take_set_of_le (Nat.le_refl _)])
          have hXd2 := Lib.hid (show (X.set a L[q]).drop (q + 1) = L.drop (q + 1) by
            rw [List.drop_set_of_lt (by omega), ← List.drop_drop, ← List.drop_drop, hXd.out])
          clear hb
          go_wp2_with fail
          refine hgc.out.mono ?_
          rintro e w2 ⟨rfl, hb2⟩
          have hA := (Below.refl wr.heap.size wr).alloc (Nat.le_refl _) (.cells #[.string (bs L[q].who), .int .i64 L[q].ep] 36)
          have d0 := cell_below hb2 (show (wr.alloc (.cells #[.string (bs L[q].who), .int .i64 L[q].ep] 36)).cell? ⟨wr.heap.size, 0, none⟩ = some (.string (bs L[q].who)) by simp)
          have d1 := cell_below hb2 (show (wr.alloc (.cells #[.string (bs L[q].who), .int .i64 L[q].ep] 36)).cell? ⟨wr.heap.size, 1, none⟩ = some (.int .i64 L[q].ep) by simp)
          have hrow2 := hrowX.below (below_trans hA hb2)
          have hK2 := hK.out.trans ((below_trans hA hb2).mono hK.out.size)
          obtain ⟨f0, f1⟩ := flatF_get X a hax
          have s0 := hrow2.cells _ _ f0
          have s1 := hrow2.cells _ _ f1
          have z0 := hrow2.frozen (a * 2)
          have z1 := hrow2.frozen (a * 2 + 1)
          have hka : (0 : Int) ≤ (a : Int) := by omega
          have hka1 : (a : Int) < (L.length : Int) := by omega
          have hwa : IntKind.i64.wrap ((a : Int) + 1) = (a : Int) + 1 := by rw [IntKind.wrap_i64]; omega
          have hrow3 := Lib.hid (show FlRow _ w0.heap.size (.slice (some ⟨gb, 0, none⟩) L.length cap) (X.set a L[q]) from by have := hrow2.set hax L[q]; rw [hXL] at this; exact this)
          have hK3 := Lib.hid ((hK2.setCell (p := ⟨gb, a * 2, none⟩) hgb (.string (bs L[q].who))).setCell (p := ⟨gb, a * 2 + 1, none⟩) hgb (.int .i64 L[q].ep))
          clear c0 c1 hA hb2 hrow2 hrowX f0 f1 hK2
          go_wp2_with fail
          go_roundg (L.length - q)
          case measure => omega
          case rel => exact ⟨a + 1, q + 1, X.set a L[q], by simp, by simp, by omega, hlt, by omega, by rw [List.length_set]; exact hXL, hXt2, hXd2, hrow3, hK3⟩
      · have hqe : q = L.length := by omega
        subst hqe
        have hge : ¬ ((L.length : Int) < (L.length : Int)) := by omega
        have hrowX : FlRow wr w0.heap.size (.slice (some ⟨gb, 0, none⟩) X.length cap) X := by rw [hXL]; exact hrow.out
        have hXt2 := Lib.hid (hXt.out.trans (by rw [List.take_length]))
        rcases hrowX.shape with ⟨h1, _⟩ | ⟨g', cap', cur, he, hb', hg', hc', hm', hsz, htk⟩
        · cases h1
        cases he
        have hcells : ∀ j, j < (L.length - a) * 2 → (wr.cell? ⟨gb, a * 2 + j, none⟩).isSome = true := fun j hj => by
          rw [cell_of_row wr gb _ _ _ _ hg', Array.getElem?_eq_getElem (by rw [hsz]; omega)]; rfl
        have hcl := fun ty => run_clear_floors wr ty gb (a * 2) (L.length - a) (cap - a) (by omega) hcells (fun j _ => frozen_of_row _ _ _ _ _ hg')
        obtain ⟨hz1, _⟩ := zeros_floor (L.length - a)
        obtain ⟨cur', k1, k2, k3⟩ := heap_setCells gb 36 (Builtin.zeroCells (Value.agg #[.string ⟨#[]⟩, .int .i64 0]).cells (L.length - a)).toList (a * 2) wr cur hg' (by rw [hz1, hsz]; omega)
        have hfin := Lib.hid (show FlRow (wr.setCells gb (a * 2) (Builtin.zeroCells (Value.agg #[.string ⟨#[]⟩, .int .i64 0]).cells (L.length - a)).toList) w0.heap.size (.slice (some ⟨gb, 0, none⟩) a cap) (L.filter fun f => !p f) by
          have hla : (L.filter fun f => !p f).length = a := by rw [← hXt2.out, List.length_take]; omega
          unfold FlRow
          rw [hla]
          refine ⟨by rw [flatF_len, hla], .inr ⟨gb, cap, cur', rfl, hgb, k1, by omega, hm', by rw [k2, hsz], ?_⟩⟩
          rw [← hXt2.out, flatF_take, ← htk, List.take_take, Nat.min_eq_left (by omega), k3, List.append_assoc, List.take_append_of_le_length (by simp; omega), List.take_take, Nat.min_self])
        have hKf := Lib.hid (below_setCells gb hgb (Builtin.zeroCells (Value.agg #[.string ⟨#[]⟩, .int .i64 0]).cells (L.length - a)).toList (a * 2) wr hK.out)
        have hal : a ≤ L.length := by omega
        have hac : a ≤ cap := by omega
        clear k1 k2 k3 hz1 hcells hg' hsz htk hrowX
        generalize (Builtin.zeroCells (Value.agg #[.string ⟨#[]⟩, .int .i64 0]).cells (L.length - a)).toList = zs at *
        go_wp2_with fail
        go_ret
        exact ⟨_, rfl, hfin.out, hKf.out⟩
end Go.Proofs.YtpkcndohjmpdeaaGreatDoor
