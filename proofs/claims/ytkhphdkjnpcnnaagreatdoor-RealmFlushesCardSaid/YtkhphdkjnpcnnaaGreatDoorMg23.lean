/- FedW2, FedC, FedA -/
import Derived.Test.YtkhphdkjnpcnnaaGreatDoorMg22
import Derived.Test.YtkhphdkjnpcnnaaGreatDoorMg10
import Derived.Test.YtkhphdkjnpcnnaaGreatDoorMg16
/- Package feed: Check, Bare: walked. -/
namespace Go.Proofs.YtkhphdkjnpcnnaaGreatDoor set_option linter.unusedVariables false set_option linter.unusedSimpArgs false
open Go.RowKit

set_option maxHeartbeats 2000000 in
set_option maxRecDepth 100000 in
theorem check_ent {E : Nat → Addr} (v : Value) (L : List Ent) (w : World) (hL : Laid E w) (hv : EntsAt w v L) (hm : ∀ e ∈ L, e.f.who.length ≤ maxLen) :
    Calls Tryz.prog 56 #[v] w fun e w' => ∃ ev, e = .returned ev ∧ ErrAt E w' ev (checkE L).1 (checkE L).2 ∧ Below w.heap.size w w' := by
  obtain ⟨a, c, hva⟩ := hv.sl
  have hlen := hv.len
  unfold maxLen at hlen
  have hri := Lib.hid (fun (j : Nat) wx (hj : j < L.length) (hx : Below w.heap.size w wx) => right_ent (E := E) v L j wx (hL.below hx) (hv.below hx) hj (by rw [getD_get hj]; exact hm _ (List.getElem_mem hj)))
  subst hva
  by_cases h60 : 60 < L.length
  · have hr := Lib.hid (checkE_full h60)
    have he := hL.e7
    have h60' : decide ((60 : Int) < (L.length : Int)) = true := decide_eq_true (by omega)
    go_enter Tryz.func56, Tryz.ntmps56
    go_wp2_with fail
    go_ret
    exact ⟨_, rfl, by rw [hr.out]; exact ErrAt.bare 7, Below.refl _ _⟩
  have h60' : decide ((60 : Int) < (L.length : Int)) = false := decide_eq_false (by omega)
  clear hv hm hL
  go_enter Tryz.func56, Tryz.ntmps56
  go_wp2_with fail
  go_loopg [11] (L.length + 1) (fun g11 i wr => ∃ j : Nat, i = .int .i64 j ∧ j ≤ L.length ∧ L.length - j + 1 ≤ g11 ∧ Hid (∀ i, i < j → errAtE L i = 0) ∧ Hid (Below w.heap.size w wr))
  case atStart => exact ⟨0, rfl, Nat.zero_le _, by omega, Lib.hid (fun _ h => absurd h (Nat.not_lt_zero _)), Lib.hid (Below.refl _ _)⟩
  case round =>
    obtain ⟨j, rfl, hj, hgj, hall, hK⟩ := hrel
    by_cases hlt : j < L.length
    · have hk0 : (0 : Int) ≤ (j : Int) := by omega
      have hk1 : (j : Int) < (L.length : Int) := by omega
      have hri := hri.out j _ hlt hK.out
      have hbad := Lib.hid (fun (hb : errAtE L j ≠ 0) => checkE_some (by omega) j hlt hb hall.out)
      have hnext := Lib.hid (show errAtE L j = 0 → ∀ i, i < j + 1 → errAtE L i = 0 from fun hb i hi => by
        rcases Nat.lt_succ_iff_lt_or_eq.1 hi with h' | rfl
        · exact hall.out i h'
        · exact hb)
      generalize errAtE L j = cd at *
      cases cd with
      | succ cd =>
        have hr := Lib.hid (hbad.out (Nat.succ_ne_zero _))
        rw [errV_succ] at hri
        have hri := Lib.hid hri
        clear hbad hnext
        go_wp2_with fail
        refine hri.out.mono ?_
        rintro e w1 ⟨rfl, hb1⟩
        have hb1 := Lib.hid (below_trans hK.out hb1)
        go_wp2_with fail
        go_ret
        exact ⟨_, rfl, by rw [hr.out]; exact .inr ⟨_, rfl, by omega, by simp, by simp [errV]⟩, hb1.out.alloc hb1.out.size _⟩
      | zero =>
        have hall2 := Lib.hid (hnext.out rfl)
        rw [errV_zero] at hri
        have hri := Lib.hid hri
        clear hbad hnext
        go_wp2_with fail
        refine hri.out.mono ?_
        rintro e w1 ⟨rfl, hb1⟩
        have hb1 := Lib.hid (below_trans hK.out hb1)
        go_wp2_with fail
        go_roundg (L.length - j)
        case measure => omega
        case rel => exact ⟨j + 1, by simp, hlt, by omega, hall2, hb1⟩
    · have hr := Lib.hid (checkE_none (L := L) (by omega) fun i hi => hall.out i (by omega))
      have hge : ¬ ((j : Int) < (L.length : Int)) := by omega
      go_wp2_with fail
      go_ret
      exact ⟨_, rfl, by rw [hr.out]; exact ErrAt.bare 0, hK.out⟩
theorem assert_text (v : Value) (w : World) : (Instr.typeAssert (.iface 309 v) 27 155 true).run Tryz.prog w = .ok (.tuple #[.pointer none, .bool false]) w := by kernel_rfl
theorem assert_fault (v : Value) (w : World) : (Instr.typeAssert (.iface 155 v) 27 155 true).run Tryz.prog w = .ok (.tuple #[v, .bool true]) w := by kernel_rfl
theorem assert_nil (w : World) : (Instr.typeAssert .nilIface 27 155 true).run Tryz.prog w = .ok (.tuple #[.pointer none, .bool false]) w := by kernel_rfl
set_option maxRecDepth 100000 in
theorem bare_err {E : Nat → Addr} (v : Value) (c : Nat) (at_ : Int) (w : World) (h : ErrAt E w v c at_) :
    Calls Tryz.prog 58 #[v] w fun e w' => e = .returned (errV E c) ∧ w = w' := by
  have a1 := assert_text
  have a2 := assert_fault
  have a3 := assert_nil
  rcases h with ⟨_, rfl⟩ | ⟨N, rfl, h1, c0, c1⟩
  · cases c with
    | zero =>
      rw [errV_zero]
      go_enter Tryz.func58, Tryz.ntmps58
      go_wp2_with fail
      go_ret
      exact ⟨rfl, rfl⟩
    | succ c =>
      rw [errV_succ]
      go_enter Tryz.func58, Tryz.ntmps58
      go_wp2_with fail
      go_ret
      exact ⟨rfl, rfl⟩
  · go_enter Tryz.func58, Tryz.ntmps58
    go_wp2_with fail
    go_ret
    exact ⟨rfl, rfl⟩
end Go.Proofs.YtkhphdkjnpcnnaaGreatDoor

/- slices.Clone at entries: walked. -/
namespace Go.Proofs.YtkhphdkjnpcnnaaGreatDoor set_option linter.unusedVariables false set_option linter.unusedSimpArgs false
open Go.RowKit Go.Lib

set_option maxHeartbeats 2000000 in
set_option maxRecDepth 100000 in
theorem clone_ent (v : Value) (L : List Ent) (w : World) (hv : EntsAt w v L) (hL : L.length ≤ 1000) :
    Calls Tryz.prog 59 #[v] w fun e w' => ∃ v', e = .returned v' ∧ EntRow w' w.heap.size v' L ∧ Below w.heap.size w w' := by
  have hvH := Lib.hid hv
  obtain ⟨a, c, rfl, hmx, _, _, hcs⟩ := hv
  have hq := fun (w : World) (a : Option Addr) (n c n' c' : Nat) => Lib.run_eql_slice_nil (P := Tryz.prog) w 38 _ a n c n' c' Tryz.underlying38
  cases a with
  | none =>
    have h0 : L = [] := by
      cases L with
      | nil => rfl
      | cons f r => obtain ⟨b, o, h, _⟩ := hcs 0 (by simp); cases h
    subst h0
    clear hcs hvH
    go_enter Tryz.func59, Tryz.ntmps59
    go_wp2_with fail
    go_ret
    exact ⟨_, rfl, RowG.nil _ _ _, Below.refl _ _⟩
  | some ad =>
    clear hcs
    have hB0 : Below w.heap.size w (w.alloc (.cells #[] 115)) := (Below.refl _ _).alloc (Nat.le_refl _) _
    have hvA := Lib.hid (hvH.out.below hB0)
    have hB0H := Lib.hid hB0
    clear hB0
    go_enter Tryz.func59, Tryz.ntmps59
    go_wp2_with (first
      | (at_builtin; refine wpList_appG entC _ rfl _ _ 38 rfl 115 (.agg #[.int .i64 0, .int .i64 0, .string ⟨#[]⟩, .int .i64 0]) 40 Tryz.underlying38 info_ent rfl (by decide) w.heap.size _ [] rfl (World.ownsRow_made w #[] 0 (Nat.le_refl _) (Nat.zero_le _) (by simp)) _ L rfl hvA.out (by simp; omega) (by simp) ?_)
      | go_in)
    intro v1 w1 hown hb1 _ _
    have hfin := Lib.hid (show EntRow w1 w.heap.size v1 L from hown)
    have hKf := Lib.hid (hB0H.out.trans hb1)
    clear hown hb1
    go_wp2_with fail
    go_ret
    exact ⟨_, rfl, hfin.out, hKf.out⟩
end Go.Proofs.YtkhphdkjnpcnnaaGreatDoor

/- feed.Add: walked. -/
namespace Go.Proofs.YtkhphdkjnpcnnaaGreatDoor set_option linter.unusedVariables false set_option linter.unusedSimpArgs false
open Go.RowKit

/-- What hands back entries of its own and an error. -/
def EntRes (E : Nat → Addr) (base : Nat) (w' : World) (r : List Ent × Nat × Int) (e : Ending) : Prop := ∃ v ev, e = .returned (.tuple #[v, ev]) ∧ EntRow w' base v r.1 ∧ ErrAt E w' ev r.2.1 r.2.2
theorem EntRes.mk {E : Nat → Addr} {base : Nat} {w' : World} {r : List Ent × Nat × Int} {v ev : Value} {L : List Ent} {c : Nat} {a : Int} (hr : r = (L, c, a)) (hv : EntRow w' base v L) (he : ErrAt E w' ev c a) : EntRes E base w' r (.returned (.tuple #[v, ev])) := by
  subst hr
  exact ⟨v, ev, rfl, hv, he⟩
theorem EntRow.nil (w : World) (base : Nat) : EntRow w base (.slice none 0 0) [] := RowG.nil _ _ _
theorem addE_check {L : List Ent} {time : Int} {f : Flo} (h : (checkE L).1 ≠ 0) : addE L time f = ([], (checkE L).1, (checkE L).2) := by unfold addE; rw [if_pos h]
theorem addE_full {L : List Ent} {time : Int} {f : Flo} (h : (checkE L).1 = 0) (h1 : 60 ≤ L.length) : addE L time f = ([], 7, -1) := by unfold addE; rw [if_neg (by simpa using h), if_pos h1]
theorem addE_one {L : List Ent} {time : Int} {f : Flo} (h : (checkE L).1 = 0) (h1 : ¬ 60 ≤ L.length) {c : Nat} (hc : entErr (wasE L L.length) L.length ⟨(L.length : Int) + 1, time, f⟩ = c + 1) : addE L time f = ([], c + 1, -1) := by
  unfold addE; rw [if_neg (by simpa using h), if_neg h1, hc, if_pos (Nat.succ_ne_zero _)]
theorem addE_good {L : List Ent} {time : Int} {f : Flo} (h : (checkE L).1 = 0) (h1 : ¬ 60 ≤ L.length) (hc : entErr (wasE L L.length) L.length ⟨(L.length : Int) + 1, time, f⟩ = 0) : addE L time f = (L ++ [⟨(L.length : Int) + 1, time, f⟩], 0, -1) := by
  unfold addE; rw [if_neg (by simpa using h), if_neg h1, hc, if_neg (by simp)]
set_option maxHeartbeats 4000000 in
set_option maxRecDepth 100000 in
theorem add_ent {E : Nat → Addr} (v : Value) (L : List Ent) (time : Int) (f : Flo) (w : World) (hL : Laid E w) (hv : EntsAt w v L) (hm : ∀ e ∈ L, e.f.who.length ≤ maxLen) (hf : f.who.length ≤ maxLen) :
    Calls Tryz.prog 112 #[v, .int .i64 time, f.val] w fun e w' => EntRes E w.heap.size w' (addE L time f) e ∧ Below w.heap.size w w' := by
  have hA : Below w.heap.size w (w.alloc (.cells f.cells.toArray 113)) := (Below.refl _ _).alloc (Nat.le_refl _) _
  have hck := Lib.hid (check_ent (E := E) v L _ (hL.below hA) (AtG.below hv hA) hm)
  have hbox := heap_alloc_new w (.cells f.cells.toArray 113)
  have hri := Lib.hid (fun (vx : Value) wx (hx : Below w.heap.size w wx) (hvx : EntsAt wx vx (L ++ [⟨(L.length : Int) + 1, time, f⟩])) => right_ent (E := E) vx (L ++ [⟨(L.length : Int) + 1, time, f⟩]) L.length wx (hL.below hx) hvx (by simp) (by
    rw [List.getD_eq_getElem?_getD, List.getElem?_append_right (Nat.le_refl _)]
    simpa using hf))
  have hlast := errAtE_last L ⟨(L.length : Int) + 1, time, f⟩
  have hlen := AtG.len hv
  unfold maxLen at hlen
  have hcl := Lib.hid (fun (h : L.length ≤ 1000) wx (hx : Below w.heap.size w wx) => clone_ent v L wx (AtG.below hv hx) h)
  obtain ⟨a0, c0, hv0⟩ := AtG.sl hv
  have he7 := Lib.hid (fun wx (hx : Below w.heap.size w wx) => (hL.below hx).e7)
  obtain ⟨fw, fe⟩ := f
  dsimp only [Flo.val, Flo.cells] at *
  have hboxH := Lib.hid hbox
  have hAH := Lib.hid hA
  clear hA hv hm hL hbox
  subst hv0
  by_cases hc0 : (checkE L).1 = 0
  case neg =>
    have hr := Lib.hid (addE_check (time := time) (f := ⟨fw, fe⟩) hc0)
    have hc0H := Lib.hid hc0
    clear hc0 hri hcl hlast
    go_enter Tryz.func112, Tryz.ntmps112
    go_wp2_with fail
    refine hck.out.mono ?_
    rintro e w1 ⟨ev, rfl, he, hb1⟩
    obtain ⟨T, x, rfl⟩ := he.iface hc0H.out
    have he := Lib.hid he
    have hb1 := Lib.hid (below_trans hAH.out hb1)
    go_wp2_with fail
    go_ret2
    exact ⟨EntRes.mk hr.out (EntRow.nil _ _) he.out, hb1.out⟩
  have hc0H := Lib.hid hc0
  clear hc0
  by_cases h60 : 60 ≤ L.length
  · have hr := Lib.hid (addE_full (time := time) (f := ⟨fw, fe⟩) hc0H.out h60)
    have h60' : decide ((60 : Int) ≤ (L.length : Int)) = true := decide_eq_true (by omega)
    clear hri hcl hlast
    go_enter Tryz.func112, Tryz.ntmps112
    go_wp2_with fail
    refine hck.out.mono ?_
    rintro e w1 ⟨ev, rfl, he, hb1⟩
    obtain ⟨rfl, _⟩ := he.zero hc0H.out
    have hbA := below_trans hAH.out hb1
    have he7 := he7.out _ hbA
    simp only [errV] at he7
    have hb1 := Lib.hid hbA
    clear he hbA
    go_wp2_with fail
    go_quiet (fail)
    go_wp2_with fail
    go_ret2
    exact ⟨EntRes.mk hr.out (EntRow.nil _ _) (ErrAt.bare 7), below_drawn hb1.out _⟩
  have h60' : decide ((60 : Int) ≤ (L.length : Int)) = false := decide_eq_false (by omega)
  have hcl := Lib.hid (hcl.out (by omega))
  have hsum := IntWalk.i64_in ((L.length : Int) + 1) (by omega)
  have hrE := Lib.hid (fun (c : Nat) (h : errAtE (L ++ [⟨(L.length : Int) + 1, time, ⟨fw, fe⟩⟩]) L.length = c + 1) => addE_one (time := time) (f := ⟨fw, fe⟩) hc0H.out h60 (hlast.symm.trans h))
  have hrG := Lib.hid (fun (h : errAtE (L ++ [⟨(L.length : Int) + 1, time, ⟨fw, fe⟩⟩]) L.length = 0) => addE_good (time := time) (f := ⟨fw, fe⟩) hc0H.out h60 (hlast.symm.trans h))
  generalize hM : L ++ [(⟨(L.length : Int) + 1, time, ⟨fw, fe⟩⟩ : Ent)] = M at *
  have hMH := Lib.hid hM
  have hlt60 := Lib.hid (Nat.lt_of_not_le h60)
  clear hlast h60 hM
  go_enter Tryz.func112, Tryz.ntmps112
  go_wp2_with fail
  refine hck.out.mono ?_
  rintro e W ⟨ev, rfl, he, hb1⟩
  obtain ⟨rfl, _⟩ := he.zero hc0H.out
  have hrow1 := Lib.hid (heap_down hb1 hboxH.out)
  have hkS := Lib.hid (fun (w' : World) (h : w'.heap[w.heap.size]? = some (.cells #[.string (bs fw), .int .i64 fe] 113 (0, 0))) => (show w'.cell? ⟨w.heap.size, 0, none⟩ = some (.string (bs fw)) ∧ w'.cell? ⟨w.heap.size, 1, none⟩ = some (.int .i64 fe) from ⟨by rw [cell_of_row _ _ _ _ _ _ h]; rfl, by rw [cell_of_row _ _ _ _ _ _ h]; rfl⟩))
  have hltW : w.heap.size < W.heap.size := (Array.getElem?_eq_some_iff.1 hrow1.out).1
  have hbW := Lib.hid (below_trans hAH.out hb1)
  have hbA := Lib.hid (fun (o : Obj) => (show Below w.heap.size w (W.drew.alloc o) from ((below_trans hAH.out hb1).drew).alloc (show w.heap.size ≤ W.drew.heap.size from Nat.le_of_lt hltW) o))
  have hrD := Lib.hid (show W.drew.heap[w.heap.size]? = some (.cells #[.string (bs fw), .int .i64 fe] 113 (0, 0)) from hrow1.out)
  have hrA := Lib.hid (fun (o : Obj) => (Below.heap_alloc W.drew o w.heap.size (show w.heap.size < W.drew.heap.size from hltW)).trans hrD.out)
  have hcD := hkS.out _ hrD.out
  clear hb1 he hck hrow1
  go_upto_region 6 with fail
  refine wp_region_noPanic ?_
  refine wp_region_held_drew (S := fun w' => w'.cell? ⟨w.heap.size, 0, none⟩ = some (.string (bs fw)) ∧ w'.cell? ⟨w.heap.size, 1, none⟩ = some (.int .i64 fe)) (by kernel_rfl) ?_ (fun hHeld => ?_)
  · exact hcD
  refine' held_take (i := 0) (d := some 20) (v := _) rfl rfl (by kernel_rfl) (by kernel_rfl) (by kernel_rfl) (fun _ _ _ h => h) rfl (by assumption) ?hy_1 ?re_1
  case hy_1 =>
    intro w hSw
    try dsimp only at hSw
    go_simp
    try with_reducible rfl
  simp only [Act.put, List.setIfInBounds_toArray, List.set_cons_zero, List.set_cons_succ]
  refine' held_take (i := 2) (d := some 22) (v := _) rfl rfl (by kernel_rfl) (by kernel_rfl) (by kernel_rfl) (fun _ _ _ h => h) rfl (by assumption) ?hy_2 ?re_2
  case hy_2 =>
    intro w hSw
    try dsimp only at hSw
    go_simp
    try with_reducible rfl
  simp only [Act.put, List.setIfInBounds_toArray, List.set_cons_zero, List.set_cons_succ]
  refine' held_take (i := 3) (d := some 23) (v := _) rfl rfl (by kernel_rfl) (by kernel_rfl) (by kernel_rfl) (fun _ _ _ h => h) rfl (by assumption) ?hy_3 ?re_3
  case hy_3 =>
    intro w hSw
    try dsimp only at hSw
    go_simp
    try with_reducible rfl
  simp only [Act.put, List.setIfInBounds_toArray, List.set_cons_zero, List.set_cons_succ]
  refine' held_take (i := 4) (d := some 24) (v := _) rfl rfl (by kernel_rfl) (by kernel_rfl) (by kernel_rfl) (fun _ _ _ h => h) rfl (by assumption) ?hy_4 ?re_4
  case hy_4 =>
    intro w hSw
    try dsimp only at hSw
    go_simp
    try with_reducible rfl
  simp only [Act.put, List.setIfInBounds_toArray, List.set_cons_zero, List.set_cons_succ]
  refine' held_take (i := 5) (d := some 25) (v := _) rfl rfl (by kernel_rfl) (by kernel_rfl) (by kernel_rfl) (fun _ _ _ h => h) rfl (by assumption) ?hy_5 ?re_5
  case hy_5 =>
    intro w hSw
    try dsimp only at hSw
    go_simp
    try with_reducible rfl
  simp only [Act.put, List.setIfInBounds_toArray, List.set_cons_zero, List.set_cons_succ]
  refine' held_take (i := 6) (d := some 26) (v := _) rfl rfl (by kernel_rfl) (by kernel_rfl) (by kernel_rfl) (fun _ _ _ h => h) rfl (by assumption) ?hy_6 ?re_6
  case hy_6 =>
    intro w hSw
    try dsimp only at hSw
    go_simp
    try with_reducible rfl
  simp only [Act.put, List.setIfInBounds_toArray, List.set_cons_zero, List.set_cons_succ]
  refine' held_take (i := 7) (d := some 27) (v := _) rfl rfl (by kernel_rfl) (by kernel_rfl) (by kernel_rfl) (fun _ _ _ h => h) rfl (by assumption) ?hy_7 ?re_7
  case hy_7 =>
    intro w hSw
    try dsimp only at hSw
    go_simp
    try with_reducible rfl
  simp only [Act.put, List.setIfInBounds_toArray, List.set_cons_zero, List.set_cons_succ]
  refine wpAnyH_ready (rs := [1, 8]) (by kernel_rfl) (by simp) ?_
  refine AllReadyH.cons rfl (fun K hK => ?_) (AllReadyH.cons rfl (fun K hK => ?_) AllReadyH.nil)
  · go_simp
    refine (hcl.out _ (hbW.out.drew)).mono ?_
    rintro e w5 ⟨v5, rfl, hrow5, hb5⟩
    have hr5 := Lib.hid (heap_down hb5 (hrD.out))
    have hb5H := Lib.hid (below_trans (hbW.out.drew) hb5)
    have hs5 : W.drew.heap.size ≤ w5.heap.size := Nat.le_trans (by first | exact Nat.le_refl _ | (rw [World.size_alloc]; exact Nat.le_succ _)) hb5.size
    have hrow5H := Lib.hid (RowG.mono hrow5 (base' := W.drew.heap.size) (by first | exact Nat.le_refl _ | (rw [World.size_alloc]; exact Nat.le_succ _)))
    have hlt5 : w.heap.size < w5.heap.size := Nat.lt_of_lt_of_le hltW hs5
    have hr5A := Lib.hid (fun (o : Obj) => (Below.heap_alloc w5 o w.heap.size hlt5).trans hr5.out)
    have hb5A := Lib.hid (fun (o : Obj) => hb5H.out.alloc (Nat.le_of_lt hlt5) o)
    clear hrow5 hb5
    go_wp2_with fail
    refine hK.out _ _ ?_ (fun hHeld => ?_)
    · exact hkS.out _ hr5.out
    clear hK K
    try simp only [Act.put, List.setIfInBounds_toArray, List.set_cons_zero, List.set_cons_succ]
    refine wpAnyH_ready (rs := [8]) (by kernel_rfl) (by simp) ?_
    refine AllReadyH.cons rfl (fun K hK => ?_) AllReadyH.nil
    go_simp
    refine hK.out _ _ ?_ (fun hHeld => ?_)
    · exact hkS.out _ (hr5A.out _)
    clear hK K
    try simp only [Act.put, List.setIfInBounds_toArray, List.set_cons_zero, List.set_cons_succ]
    refine wpAnyH_ready (rs := [9]) (by kernel_rfl) (by simp) ?_
    refine AllReadyH.cons rfl (fun K hK => ?_) AllReadyH.nil
    refine step_appG entC _ rfl _ _ 38 rfl 115 (.agg #[.int .i64 0, .int .i64 0, .string ⟨#[]⟩, .int .i64 0]) 40 Tryz.underlying38 info_ent rfl (by decide) W.drew.heap.size _ L (by rfl) (RowG.alloc hrow5H.out _) _ [(⟨(L.length : Int) + 1, time, ⟨fw, fe⟩⟩ : Ent)] (by rfl) (AtG.new _ _ _ rfl) (by simp) (by have := hlt60.out; simp; omega) (by rw [World.size_alloc]; exact Nat.le_succ_of_le hs5) ?_
    intro v6 w6 hown6 hb6 _
    rw [hMH.out] at hown6
    have hr6 := Lib.hid ((hb6.block w.heap.size hltW).trans (hr5A.out _))
    have hbf := Lib.hid ((hb5A.out _).trans (hb6.mono (show w.heap.size ≤ W.drew.heap.size from Nat.le_of_lt hltW)))
    have hfin := Lib.hid (RowG.mono hown6 (base' := w.heap.size) (show w.heap.size ≤ W.drew.heap.size from Nat.le_of_lt hltW))
    clear hown6 hb6
    refine hK.out _ _ ?_ (fun hHeld => ?_)
    · exact hkS.out _ hr6.out
    clear hK K
    try simp only [Act.put, List.setIfInBounds_toArray, List.set_cons_zero, List.set_cons_succ]
    refine' held_take (i := 10) (d := some 9) (v := _) rfl rfl (by kernel_rfl) (by kernel_rfl) (by kernel_rfl) (fun _ _ _ h => h) rfl (by assumption) ?hy_8 ?re_8
    case hy_8 =>
      intro w hSw
      try dsimp only at hSw
      go_simp
      try with_reducible rfl
    simp only [Act.put, List.setIfInBounds_toArray, List.set_cons_zero, List.set_cons_succ]
    refine wpAnyH_done (by kernel_rfl) ?_ _
    refine NoPanic.normal ?_
    have hr7 := hri.out _ _ hbf.out (EntRow.at_ hfin.out)
    cases hcd : errAtE M L.length with
    | succ cd =>
      rw [hcd, errV_succ] at hr7
      have hr := Lib.hid (hrE.out cd hcd)
      have hr7 := Lib.hid hr7
      clear hcd
      go_wp2_with fail
      refine hr7.out.mono ?_
      rintro e w7 ⟨rfl, hb7⟩
      have hb7 := Lib.hid (below_trans hbf.out hb7)
      go_wp2_with fail
      go_ret2
      exact ⟨EntRes.mk hr.out (EntRow.nil _ _) (ErrAt.bare (cd + 1)), hb7.out⟩
    | zero =>
      rw [hcd, errV_zero] at hr7
      have hr := Lib.hid (hrG.out hcd)
      have hr7 := Lib.hid hr7
      clear hcd
      go_wp2_with fail
      refine hr7.out.mono ?_
      rintro e w7 ⟨rfl, hb7⟩
      have hfin := Lib.hid (RowG.below hfin.out hb7)
      have hb7 := Lib.hid (below_trans hbf.out hb7)
      go_wp2_with fail
      go_ret2
      exact ⟨EntRes.mk hr.out hfin.out (ErrAt.bare 0), hb7.out⟩
  · go_simp
    refine hK.out _ _ ?_ (fun hHeld => ?_)
    · exact hkS.out _ (hrA.out _)
    clear hK K
    try simp only [Act.put, List.setIfInBounds_toArray, List.set_cons_zero, List.set_cons_succ]
    refine wpAnyH_ready (rs := [1]) (by kernel_rfl) (by simp) ?_
    refine AllReadyH.cons rfl (fun K hK => ?_) AllReadyH.nil
    go_simp
    refine (hcl.out _ (hbA.out _)).mono ?_
    rintro e w5 ⟨v5, rfl, hrow5, hb5⟩
    have hr5 := Lib.hid (heap_down hb5 (hrA.out _))
    have hb5H := Lib.hid (below_trans (hbA.out _) hb5)
    have hs5 : W.drew.heap.size ≤ w5.heap.size := Nat.le_trans (by first | exact Nat.le_refl _ | (rw [World.size_alloc]; exact Nat.le_succ _)) hb5.size
    have hrow5H := Lib.hid (RowG.mono hrow5 (base' := W.drew.heap.size) (by first | exact Nat.le_refl _ | (rw [World.size_alloc]; exact Nat.le_succ _)))
    have hlt5 : w.heap.size < w5.heap.size := Nat.lt_of_lt_of_le hltW hs5
    have hr5A := Lib.hid (fun (o : Obj) => (Below.heap_alloc w5 o w.heap.size hlt5).trans hr5.out)
    have hb5A := Lib.hid (fun (o : Obj) => hb5H.out.alloc (Nat.le_of_lt hlt5) o)
    have hnew := Lib.hid ((AtG.new (C := entC) W.drew (⟨(L.length : Int) + 1, time, ⟨fw, fe⟩⟩ : Ent) 115 rfl).below hb5)
    clear hrow5 hb5
    go_wp2_with fail
    refine hK.out _ _ ?_ (fun hHeld => ?_)
    · exact hkS.out _ hr5.out
    clear hK K
    try simp only [Act.put, List.setIfInBounds_toArray, List.set_cons_zero, List.set_cons_succ]
    refine wpAnyH_ready (rs := [9]) (by kernel_rfl) (by simp) ?_
    refine AllReadyH.cons rfl (fun K hK => ?_) AllReadyH.nil
    refine step_appG entC _ rfl _ _ 38 rfl 115 (.agg #[.int .i64 0, .int .i64 0, .string ⟨#[]⟩, .int .i64 0]) 40 Tryz.underlying38 info_ent rfl (by decide) W.drew.heap.size _ L (by rfl) (hrow5H.out) _ [(⟨(L.length : Int) + 1, time, ⟨fw, fe⟩⟩ : Ent)] (by rfl) (hnew.out) (by simp) (by have := hlt60.out; simp; omega) (hs5) ?_
    intro v6 w6 hown6 hb6 _
    rw [hMH.out] at hown6
    have hr6 := Lib.hid ((hb6.block w.heap.size hltW).trans (hr5.out))
    have hbf := Lib.hid ((hb5H.out).trans (hb6.mono (show w.heap.size ≤ W.drew.heap.size from Nat.le_of_lt hltW)))
    have hfin := Lib.hid (RowG.mono hown6 (base' := w.heap.size) (show w.heap.size ≤ W.drew.heap.size from Nat.le_of_lt hltW))
    clear hown6 hb6
    refine hK.out _ _ ?_ (fun hHeld => ?_)
    · exact hkS.out _ hr6.out
    clear hK K
    try simp only [Act.put, List.setIfInBounds_toArray, List.set_cons_zero, List.set_cons_succ]
    refine' held_take (i := 10) (d := some 9) (v := _) rfl rfl (by kernel_rfl) (by kernel_rfl) (by kernel_rfl) (fun _ _ _ h => h) rfl (by assumption) ?hy_9 ?re_9
    case hy_9 =>
      intro w hSw
      try dsimp only at hSw
      go_simp
      try with_reducible rfl
    simp only [Act.put, List.setIfInBounds_toArray, List.set_cons_zero, List.set_cons_succ]
    refine wpAnyH_done (by kernel_rfl) ?_ _
    refine NoPanic.normal ?_
    have hr7 := hri.out _ _ hbf.out (EntRow.at_ hfin.out)
    cases hcd : errAtE M L.length with
    | succ cd =>
      rw [hcd, errV_succ] at hr7
      have hr := Lib.hid (hrE.out cd hcd)
      have hr7 := Lib.hid hr7
      clear hcd
      go_wp2_with fail
      refine hr7.out.mono ?_
      rintro e w7 ⟨rfl, hb7⟩
      have hb7 := Lib.hid (below_trans hbf.out hb7)
      go_wp2_with fail
      go_ret2
      exact ⟨EntRes.mk hr.out (EntRow.nil _ _) (ErrAt.bare (cd + 1)), hb7.out⟩
    | zero =>
      rw [hcd, errV_zero] at hr7
      have hr := Lib.hid (hrG.out hcd)
      have hr7 := Lib.hid hr7
      clear hcd
      go_wp2_with fail
      refine hr7.out.mono ?_
      rintro e w7 ⟨rfl, hb7⟩
      have hfin := Lib.hid (RowG.below hfin.out hb7)
      have hb7 := Lib.hid (below_trans hbf.out hb7)
      go_wp2_with fail
      go_ret2
      exact ⟨EntRes.mk hr.out hfin.out (ErrAt.bare 0), hb7.out⟩
end Go.Proofs.YtkhphdkjnpcnnaaGreatDoor
