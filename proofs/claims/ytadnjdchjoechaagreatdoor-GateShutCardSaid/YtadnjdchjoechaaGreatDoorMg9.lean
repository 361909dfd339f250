/- FedW, FedW2, FedC, Held, FedA -/
import Derived.Test.YtadnjdchjoechaaGreatDoorMg7
import Derived.Test.YtadnjdchjoechaaGreatDoorMg8
import Derived.Deep.LoopGhost
import Derived.Deep.RegionHeld3
import Derived.WalkKit
/- Package feed: right, Check, Bare: walked. -/
namespace Go.Proofs.YtadnjdchjoechaaGreatDoor
open Go.RowKit

theorem ent_cases {was : Int} {i : Nat} {s t : Int} {who : List UInt8} {ep : Int} :
    (s ≠ (i : Int) + 1 ∧ entErr was i ⟨s, t, ⟨who, ep⟩⟩ = 15) ∨ (s = (i : Int) + 1 ∧ t < 0 ∧ entErr was i ⟨s, t, ⟨who, ep⟩⟩ = 2) ∨ (s = (i : Int) + 1 ∧ 0 ≤ t ∧ 1000000 < t ∧ entErr was i ⟨s, t, ⟨who, ep⟩⟩ = 2) ∨
    (s = (i : Int) + 1 ∧ 0 ≤ t ∧ t ≤ 1000000 ∧ t < was ∧ entErr was i ⟨s, t, ⟨who, ep⟩⟩ = 8) ∨ (s = (i : Int) + 1 ∧ 0 ≤ t ∧ t ≤ 1000000 ∧ was ≤ t ∧ entErr was i ⟨s, t, ⟨who, ep⟩⟩ = oneF ⟨who, ep⟩) := by
  unfold entErr
  dsimp only
  by_cases h1 : s = (i : Int) + 1
  · rw [if_neg (by simpa using h1)]
    by_cases h2 : t < 0
    · rw [if_pos (.inl h2)]; exact .inr (.inl ⟨h1, h2, rfl⟩)
    by_cases h3 : 1000000 < t
    · rw [if_pos (.inr h3)]; exact .inr (.inr (.inl ⟨h1, by omega, h3, rfl⟩))
    rw [if_neg (by omega)]
    by_cases h4 : t < was
    · rw [if_pos h4]; exact .inr (.inr (.inr (.inl ⟨h1, by omega, by omega, h4, rfl⟩)))
    · rw [if_neg h4]; exact .inr (.inr (.inr (.inr ⟨h1, by omega, by omega, by omega, rfl⟩)))
  · rw [if_pos h1]; exact .inl ⟨h1, rfl⟩
theorem one_cases {who : List UInt8} {ep : Int} :
    (who = starW ∧ ((1 ≤ ep ∧ ep ≤ 1073741824 ∧ oneF ⟨who, ep⟩ = 0) ∨ (ep < 1 ∧ oneF ⟨who, ep⟩ = 2) ∨ (1 ≤ ep ∧ 1073741824 < ep ∧ oneF ⟨who, ep⟩ = 2))) ∨
    (who ≠ starW ∧ ((isName who = false ∧ oneF ⟨who, ep⟩ = 4) ∨ (isName who = true ∧ ((1 ≤ ep ∧ ep ≤ 1073741824 ∧ oneF ⟨who, ep⟩ = 0) ∨ (ep < 1 ∧ oneF ⟨who, ep⟩ = 2) ∨ (1 ≤ ep ∧ 1073741824 < ep ∧ oneF ⟨who, ep⟩ = 2))))) := by
  unfold oneF
  dsimp only
  by_cases hs : who = starW
  · rw [if_neg (fun h => h.1 hs)]
    refine .inl ⟨hs, ?_⟩
    by_cases h1 : 1 ≤ ep
    · by_cases h2 : ep ≤ 1073741824
      · rw [if_pos ⟨h1, h2⟩]; exact .inl ⟨h1, h2, rfl⟩
      · rw [if_neg (fun h => h2 h.2)]; exact .inr (.inr ⟨h1, by omega, rfl⟩)
    · rw [if_neg (fun h => h1 h.1)]; exact .inr (.inl ⟨by omega, rfl⟩)
  · refine .inr ⟨hs, ?_⟩
    cases hn : isName who with
    | false => rw [if_pos ⟨hs, rfl⟩]; exact .inl ⟨rfl, rfl⟩
    | true =>
      rw [if_neg (fun h => by have := h.2; cases this)]
      refine .inr ⟨rfl, ?_⟩
      by_cases h1 : 1 ≤ ep
      · by_cases h2 : ep ≤ 1073741824
        · rw [if_pos ⟨h1, h2⟩]; exact .inl ⟨h1, h2, rfl⟩
        · rw [if_neg (fun h => h2 h.2)]; exact .inr (.inr ⟨h1, by omega, rfl⟩)
      · rw [if_neg (fun h => h1 h.1)]; exact .inr (.inl ⟨by omega, rfl⟩)
set_option maxHeartbeats 4000000 in
set_option maxRecDepth 100000 in
theorem right_ent {E : Nat → Addr} (v : Value) (L : List Ent) (i : Nat) (w : World) (hL : Laid E w) (hv : EntsAt w v L) (hi : i < L.length) (hm : (L.getD i noEnt).f.who.length ≤ maxLen) :
    Calls Tryz.prog 120 #[v, .int .i64 i] w fun e w' => e = .returned (errV E (errAtE L i)) ∧ Below w.heap.size w w' := by
  obtain ⟨a, c, rfl, hlen, _, hc⟩ := hv.get
  unfold maxLen at hlen
  obtain ⟨b, o, rfl, d0, d1, d2, d3⟩ := hc i hi
  have hat : errAtE L i = entErr (wasE L i) i L[i] := by unfold errAtE; rw [getD_get hi]
  rw [getD_get hi] at hm
  have hprev : i = 0 ∨ ∃ q, i = q + 1 ∧ w.cell? ⟨b, o + q * 4 + 1, none⟩ = some (.int .i64 (wasE L i)) := by
    cases i with
    | zero => exact .inl rfl
    | succ q =>
      refine .inr ⟨q, rfl, ?_⟩
      obtain ⟨b', o', hbo, _, p1, _⟩ := hc q (by omega)
      cases hbo
      rw [p1]
      unfold wasE
      rw [if_neg (by omega), Nat.add_sub_cancel, getD_get (by omega)]
  have hw0 : i = 0 → wasE L i = 0 := fun h => by unfold wasE; rw [if_pos h]
  generalize wasE L i = was at *
  obtain ⟨en, hen⟩ : ∃ en, L[i] = en := ⟨_, rfl⟩
  rw [hen] at d0 d1 d2 d3 hat hm
  obtain ⟨s, t, ⟨who, ep⟩⟩ := en
  dsimp only at d0 d1 d2 d3 hm
  clear hc hv hen
  have hB : Below w.heap.size w (w.alloc (.cells #[.int .i64 s, .int .i64 t, .string (bs who), .int .i64 ep] 75)) := (Below.refl _ _).alloc (Nat.le_refl _) _
  have hL1 := Lib.hid (hL.below hB)
  have hBH := Lib.hid hB
  have hLH := Lib.hid hL
  have hnm := Lib.hid (fun wx => name_any (bs who) wx (by rw [bs_size]; exact hm))
  have hk0 : (0 : Int) ≤ (i : Int) := by omega
  have hk1 : (i : Int) < (L.length : Int) := by omega
  clear hB hL
  rcases ent_cases (was := was) (i := i) (s := s) (t := t) (who := who) (ep := ep) with ⟨h1, he⟩ | ⟨h1, h2, he⟩ | ⟨h1, h2, h3, he⟩ | ⟨h1, h2, h3, h4, he⟩ | ⟨h1, h2, h3, h4, he⟩
  · have hr := Lib.hid (hat.trans he)
    have hb1 : (s != (i : Int) + 1) = true := bne_iff_ne.2 h1
    have hx := hL1.out.e15
    clear hat he h1 hw0 hprev
    go_enter Tryz.func120, Tryz.ntmps120
    go_wp2_with fail
    go_ret
    exact ⟨by rw [hr.out]; rfl, hBH.out⟩
  · have hr := Lib.hid (hat.trans he)
    have hb1 : (s != (i : Int) + 1) = false := by rw [h1]; exact bne_self_eq_false _
    have hx := hL1.out.e2
    clear hat he h1 hw0 hprev
    go_enter Tryz.func120, Tryz.ntmps120
    go_wp2_with fail
    go_ret
    exact ⟨by rw [hr.out]; rfl, hBH.out⟩
  · have hr := Lib.hid (hat.trans he)
    have hb1 : (s != (i : Int) + 1) = false := by rw [h1]; exact bne_self_eq_false _
    have hx := hL1.out.e2
    clear hat he h1 hw0 hprev
    go_enter Tryz.func120, Tryz.ntmps120
    go_wp2_with fail
    go_ret
    exact ⟨by rw [hr.out]; rfl, hBH.out⟩
  · have hr := Lib.hid (hat.trans he)
    have hb1 : (s != (i : Int) + 1) = false := by rw [h1]; exact bne_self_eq_false _
    rcases hprev with h0 | ⟨q, hq, p1⟩
    · have := hw0 h0; omega
    subst hq
    have hd0 := World.cell?_alloc_lt w (.cells #[.int .i64 s, .int .i64 t, .string (bs who), .int .i64 ep] 75) ⟨b, o + q * 4 + 1, none⟩ (World.block_lt_of_cell? w _ p1)
    have p1 := hd0.trans p1
    have hq0 : (0 : Int) ≤ (q : Int) := by omega
    have hq1 : (q : Int) < (L.length : Int) := by omega
    have hx := hL1.out.e8
    simp only [errV] at hx
    have hbd := Lib.hid (fun n => below_drawn hBH.out n)
    clear hat he h1 hw0 hd0
    go_enter Tryz.func120, Tryz.ntmps120
    go_wp2_with fail
    go_quiet (fail)
    go_wp2_with fail
    go_ret
    exact ⟨by rw [hr.out]; rfl, hbd.out _⟩
  have hb1 : (s != (i : Int) + 1) = false := by rw [h1]; exact bne_self_eq_false _
  have hat := Lib.hid (hat.trans he)
  have c0 : (w.alloc (.cells #[.int .i64 s, .int .i64 t, .string (bs who), .int .i64 ep] 75)).cell? ⟨w.heap.size, 1, none⟩ = some (.int .i64 t) := by simp
  have hbd := Lib.hid (fun n => below_drawn hBH.out n)
  have hbox3 := Lib.hid (fun n => (show ((w.alloc (.cells #[.int .i64 s, .int .i64 t, .string (bs who), .int .i64 ep] 75)).drewN n).cell? ⟨w.heap.size, 3, none⟩ = some (.int .i64 ep) by simp))
  clear he h1
  rcases hprev with h0 | ⟨q, hq, p1⟩
  · subst h0
    have hb1 : (s != (1 : Int)) = false := hb1
    simp only [Nat.zero_mul, Nat.add_zero] at d0 d1 d2 d3
    clear hw0 h4
    rcases one_cases (who := who) (ep := ep) with ⟨hs, x⟩ | ⟨hs, x⟩
    · have e1 : ((bs who).toList == [42]) = true := by rw [hs, toList_data]; rfl
      clear hs
      rcases x with ⟨x1, x2, x3⟩ | ⟨x1, x3⟩ | ⟨x1, x2, x3⟩
      all_goals
        have hr := Lib.hid (hat.out.trans x3)
        have hx := hL1.out.e2
        clear x3
        go_enter Tryz.func120, Tryz.ntmps120
        go_wp2_with fail
        go_quiet (fail)
        go_wp2_with fail
        go_ret
        exact ⟨by rw [hr.out]; rfl, hbd.out _⟩
    · have e1 : ((bs who).toList == [42]) = false := by rw [toList_data, bs_list, beq_eq_false_iff_ne]; exact hs
      have e2 : ((bs who).toList != [42]) = true := by rw [bne, e1]; rfl
      clear hs
      rcases x with ⟨ha, x3⟩ | ⟨ha, x⟩
      · have hr := Lib.hid (hat.out.trans x3)
        have ha2 := Lib.hid (show isName (bs who).data.toList = false from ha)
        clear ha x3
        go_enter Tryz.func120, Tryz.ntmps120
        go_wp2_with fail
        go_quiet (fail)
        go_wp2_with fail
        refine (hnm.out _).mono ?_
        rintro e w1 ⟨rfl, hb⟩
        rw [ha2.out]
        have hb := Lib.hid (below_trans (hbd.out _) hb)
        have hx := (hLH.out.below hb.out).e4
        clear c0
        go_wp2_with fail
        go_ret
        exact ⟨by rw [hr.out]; rfl, hb.out⟩
      · have ha2 := Lib.hid (show isName (bs who).data.toList = true from ha)
        clear ha
        rcases x with ⟨x1, x2, x3⟩ | ⟨x1, x3⟩ | ⟨x1, x2, x3⟩
        all_goals
          have hr := Lib.hid (hat.out.trans x3)
          clear x3
          go_enter Tryz.func120, Tryz.ntmps120
          go_wp2_with fail
          go_quiet (fail)
          go_wp2_with fail
          refine (hnm.out _).mono ?_
          rintro e w1 ⟨rfl, hb⟩
          rw [ha2.out]
          have c3 := cell_below hb (show _ = some (Value.int .i64 ep) from hbox3.out _)
          have hb := Lib.hid (below_trans (hbd.out _) hb)
          have hx := (hLH.out.below hb.out).e2
          clear c0
          go_wp2_with fail
          go_ret
          exact ⟨by rw [hr.out]; rfl, hb.out⟩
  · subst hq
    have hd0 := World.cell?_alloc_lt w (.cells #[.int .i64 s, .int .i64 t, .string (bs who), .int .i64 ep] 75) ⟨b, o + q * 4 + 1, none⟩ (World.block_lt_of_cell? w _ p1)
    have p1 := hd0.trans p1
    have hq0 : (0 : Int) ≤ (q : Int) := by omega
    have hq1 : (q : Int) < (L.length : Int) := by omega
    have h4b : ¬ t < was := by omega
    clear hw0 hd0
    rcases one_cases (who := who) (ep := ep) with ⟨hs, x⟩ | ⟨hs, x⟩
    · have e1 : ((bs who).toList == [42]) = true := by rw [hs, toList_data]; rfl
      clear hs
      rcases x with ⟨x1, x2, x3⟩ | ⟨x1, x3⟩ | ⟨x1, x2, x3⟩
      all_goals
        have hr := Lib.hid (hat.out.trans x3)
        have hx := hL1.out.e2
        clear x3
        go_enter Tryz.func120, Tryz.ntmps120
        go_wp2_with fail
        go_quiet (fail)
        go_wp2_with fail
        go_ret
        exact ⟨by rw [hr.out]; rfl, hbd.out _⟩
    · have e1 : ((bs who).toList == [42]) = false := by rw [toList_data, bs_list, beq_eq_false_iff_ne]; exact hs
      have e2 : ((bs who).toList != [42]) = true := by rw [bne, e1]; rfl
      clear hs
      rcases x with ⟨ha, x3⟩ | ⟨ha, x⟩
      · have hr := Lib.hid (hat.out.trans x3)
        have ha2 := Lib.hid (show isName (bs who).data.toList = false from ha)
        clear ha x3
        go_enter Tryz.func120, Tryz.ntmps120
        go_wp2_with fail
        go_quiet (fail)
        go_wp2_with fail
        refine (hnm.out _).mono ?_
        rintro e w1 ⟨rfl, hb⟩
        rw [ha2.out]
        have hb := Lib.hid (below_trans (hbd.out _) hb)
        have hx := (hLH.out.below hb.out).e4
        clear c0
        go_wp2_with fail
        go_ret
        exact ⟨by rw [hr.out]; rfl, hb.out⟩
      · have ha2 := Lib.hid (show isName (bs who).data.toList = true from ha)
        clear ha
        rcases x with ⟨x1, x2, x3⟩ | ⟨x1, x3⟩ | ⟨x1, x2, x3⟩
        all_goals
          have hr := Lib.hid (hat.out.trans x3)
          clear x3
          go_enter Tryz.func120, Tryz.ntmps120
          go_wp2_with fail
          go_quiet (fail)
          go_wp2_with fail
          refine (hnm.out _).mono ?_
          rintro e w1 ⟨rfl, hb⟩
          rw [ha2.out]
          have c3 := cell_below hb (show _ = some (Value.int .i64 ep) from hbox3.out _)
          have hb := Lib.hid (below_trans (hbd.out _) hb)
          have hx := (hLH.out.below hb.out).e2
          clear c0
          go_wp2_with fail
          go_ret
          exact ⟨by rw [hr.out]; rfl, hb.out⟩
end Go.Proofs.YtadnjdchjoechaaGreatDoor

/- Package feed: Check, Bare: walked. -/
namespace Go.Proofs.YtadnjdchjoechaaGreatDoor
open Go.RowKit

set_option maxHeartbeats 2000000 in
set_option maxRecDepth 100000 in
theorem check_ent {E : Nat → Addr} (v : Value) (L : List Ent) (w : World) (hL : Laid E w) (hv : EntsAt w v L) (hm : ∀ e ∈ L, e.f.who.length ≤ maxLen) :
    Calls Tryz.prog 86 #[v] w fun e w' => ∃ ev, e = .returned ev ∧ ErrAt E w' ev (checkE L).1 (checkE L).2 ∧ Below w.heap.size w w' := by
  obtain ⟨a, c, hva⟩ := hv.sl
  have hlen := hv.len
  unfold maxLen at hlen
  have hri := Lib.hid (fun (j : Nat) wx (hj : j < L.length) (hx : Below w.heap.size w wx) => right_ent (E := E) v L j wx (hL.below hx) (hv.below hx) hj (by rw [getD_get hj]; exact hm _ (List.getElem_mem hj)))
  subst hva
  by_cases h60 : 60 < L.length
  · have hr := Lib.hid (checkE_full h60)
    have he := hL.e7
    have h60' : decide ((60 : Int) < (L.length : Int)) = true := decide_eq_true (by omega)
    go_enter Tryz.func86, Tryz.ntmps86
    go_wp2_with fail
    go_ret
    exact ⟨_, rfl, by rw [hr.out]; exact ErrAt.bare 7, Below.refl _ _⟩
  have h60' : decide ((60 : Int) < (L.length : Int)) = false := decide_eq_false (by omega)
  clear hv hm hL
  go_enter Tryz.func86, Tryz.ntmps86
  go_wp2_with fail
  go_loopg [11] (L.length + 1) (fun g11 i wr => ∃ j : Nat, i = .int .i64 j ∧ j ≤ L.length ∧ L.length - j + 1 ≤ g11 ∧ Hid (∀ i, i < j → errAtE L i = 0) ∧ Hid (Below w.heap.size w wr))
  case atStart => exact ⟨0, rfl, Nat.zero_le _, by omega, Lib.hid (fun _ h => absurd h (Nat.not_lt_zero _)), Lib.hid (Below.refl _ _)⟩
  case round =>
    obtain ⟨j, rfl, hj, hgj, hall, hK⟩ := hrel
    by_cases hlt : j < L.length
    · have hk0 : (0 : Int) ≤ (j : Int) := by omega
      have hk1 : (j : Int) < (L.length : Int) := by omega
      have hri := hri.out j _ hlt hK.out
      have hbad := Lib.hid (fun (hb : errAtE L j ≠ 0) => checkE_some (by omega) j hlt hb hall.out)
      have hnext := Lib.hid (show errAtE L j = 0 → ∀ i, i < j + 1 → errAtE L i = 0 from fun hb i hi => by
        rcases Nat.lt_succ_iff_lt_or_eq.1 hi with h' | rfl
        · exact hall.out i h'
        · exact hb)
      generalize errAtE L j = cd at *
      cases cd with
      | succ cd =>
        have hr := Lib.hid (hbad.out (Nat.succ_ne_zero _))
        rw [errV_succ] at hri
        have hri := Lib.hid hri
        clear hbad hnext
        go_wp2_with fail
        refine hri.out.mono ?_
        rintro e w1 ⟨rfl, hb1⟩
        have hb1 := Lib.hid (below_trans hK.out hb1)
        go_wp2_with fail
        go_ret
        exact ⟨_, rfl, by rw [hr.out]; exact .inr ⟨_, rfl, by omega, by simp, by simp [errV]⟩, hb1.out.alloc hb1.out.size _⟩
      | zero =>
        have hall2 := Lib.hid (hnext.out rfl)
        rw [errV_zero] at hri
        have hri := Lib.hid hri
        clear hbad hnext
        go_wp2_with fail
        refine hri.out.mono ?_
        rintro e w1 ⟨rfl, hb1⟩
        have hb1 := Lib.hid (below_trans hK.out hb1)
        go_wp2_with fail
        go_roundg (L.length - j)
        case measure => omega
        case rel => exact ⟨j + 1, by simp, hlt, by omega, hall2, hb1⟩
    · have hr := Lib.hid (checkE_none (L := L) (by omega) fun i hi => hall.out i (by omega))
      have hge : ¬ ((j : Int) < (L.length : Int)) := by omega
      go_wp2_with fail
      go_ret
      exact ⟨_, rfl, by rw [hr.out]; exact ErrAt.bare 0, hK.out⟩
theorem assert_text (v : Value) (w : World) : (Instr.typeAssert (.iface 265 v) 32 111 true).run Tryz.prog w = .ok (.tuple #[.pointer none, .bool false]) w := by kernel_rfl
theorem assert_fault (v : Value) (w : World) : (Instr.typeAssert (.iface 111 v) 32 111 true).run Tryz.prog w = .ok (.tuple #[v, .bool true]) w := by kernel_rfl
theorem assert_nil (w : World) : (Instr.typeAssert .nilIface 32 111 true).run Tryz.prog w = .ok (.tuple #[.pointer none, .bool false]) w := by kernel_rfl
set_option maxRecDepth 100000 in
theorem bare_err {E : Nat → Addr} (v : Value) (c : Nat) (at_ : Int) (w : World) (h : ErrAt E w v c at_) :
    Calls Tryz.prog 66 #[v] w fun e w' => e = .returned (errV E c) ∧ w = w' := by
  have a1 := assert_text
  have a2 := assert_fault
  have a3 := assert_nil
  rcases h with ⟨_, rfl⟩ | ⟨N, rfl, h1, c0, c1⟩
  · cases c with
    | zero =>
      rw [errV_zero]
      go_enter Tryz.func66, Tryz.ntmps66
      go_wp2_with fail
      go_ret
      exact ⟨rfl, rfl⟩
    | succ c =>
      rw [errV_succ]
      go_enter Tryz.func66, Tryz.ntmps66
      go_wp2_with fail
      go_ret
      exact ⟨rfl, rfl⟩
  · go_enter Tryz.func66, Tryz.ntmps66
    go_wp2_with fail
    go_ret
    exact ⟨rfl, rfl⟩
end Go.Proofs.YtadnjdchjoechaaGreatDoor

/- slices.Clone at entries: walked. -/
namespace Go.Proofs.YtadnjdchjoechaaGreatDoor
open Go.RowKit Go.Lib

set_option maxHeartbeats 2000000 in
set_option maxRecDepth 100000 in
theorem clone_ent (v : Value) (L : List Ent) (w : World) (hv : EntsAt w v L) (hL : L.length ≤ 1000) :
    Calls Tryz.prog 67 #[v] w fun e w' => ∃ v', e = .returned v' ∧ EntRow w' w.heap.size v' L ∧ Below w.heap.size w w' := by
  have hvH := Lib.hid hv
  obtain ⟨a, c, rfl, hmx, _, _, hcs⟩ := hv
  have hq := fun (w : World) (a : Option Addr) (n c n' c' : Nat) => Lib.run_eql_slice_nil (P := Tryz.prog) w 22 _ a n c n' c' Tryz.underlying22
  cases a with
  | none =>
    have h0 : L = [] := by
      cases L with
      | nil => rfl
      | cons f r => obtain ⟨b, o, h, _⟩ := hcs 0 (by simp); cases h
    subst h0
    clear hcs hvH
    go_enter Tryz.func67, Tryz.ntmps67
    go_wp2_with fail
    go_ret
    exact ⟨_, rfl, RowG.nil _ _ _, Below.refl _ _⟩
  | some ad =>
    clear hcs
    have hB0 : Below w.heap.size w (w.alloc (.cells #[] 75)) := (Below.refl _ _).alloc (Nat.le_refl _) _
    have hvA := Lib.hid (hvH.out.below hB0)
    have hB0H := Lib.hid hB0
    clear hB0
    go_enter Tryz.func67, Tryz.ntmps67
    go_wp2_with (first
      | (at_builtin; refine wpList_appG entC _ rfl _ _ 22 rfl 75 (.agg #[.int .i64 0, .int .i64 0, .string ⟨#[]⟩, .int .i64 0]) 40 Tryz.underlying22 info_ent rfl (by decide) w.heap.size _ [] rfl (World.ownsRow_made w #[] 0 (Nat.le_refl _) (Nat.zero_le _) (by simp)) _ L rfl hvA.out (by simp; omega) (by simp) ?_)
      | go_in)
    intro v1 w1 hown hb1 _ _
    have hfin := Lib.hid (show EntRow w1 w.heap.size v1 L from hown)
    have hKf := Lib.hid (hB0H.out.trans hb1)
    clear hown hb1
    go_wp2_with fail
    go_ret
    exact ⟨_, rfl, hfin.out, hKf.out⟩
end Go.Proofs.YtadnjdchjoechaaGreatDoor

/- Regions that draw their order, step by step: go_region_held3's own moves as laws, the slot of each operation given. -/
namespace Go.Proofs.YtadnjdchjoechaaGreatDoor
open Go.RowKit

section
variable {P : Program} {md : Region.Mode} {ops : Array Oper} {Q : Exit → Act → World → Prop} {S : World → Prop}
/-- Number i is taken first; its slot is d. -/
theorem held_take {i : Nat} {d : Option Tmp} {oi : Oper} {v : Value} {fuel : Nat} {listed : Array Bool} {a : Act} {w : World} (hi : ops[i]? = some oi) (hd : oi.dst = d)
    (hs : Region.noSelect ops = true) (hf : Region.free md ops listed i = true) (hr : (Region.ready md ops listed).contains i = true)
    (hQ : ∀ c a w, Q (.panic c) (a.put oi.dst v) w → Q (.panic c) a w) (hw : Region.wanted oi (yielded ops a.tmps) = true) (hS : S w) (hy : ∀ w, S w → (execOp a.eval oi).run P w = .ok (.value v) w)
    (h : wpAnyH P md ops Q S fuel (listed.setIfInBounds i true) (a.put d v) w) : wpAnyH P md ops Q S (fuel + 1) listed a w := by
  subst hd
  exact wpAnyH_take hi hs hf hr hQ (.inl ⟨hw, hy⟩) hS h
/-- Number i does not run (its guard says so): its slot d is left as undef. -/
theorem held_skip {i : Nat} {d : Option Tmp} {oi : Oper} {fuel : Nat} {listed : Array Bool} {a : Act} {w : World} (hi : ops[i]? = some oi) (hd : oi.dst = d)
    (hs : Region.noSelect ops = true) (hf : Region.free md ops listed i = true) (hr : (Region.ready md ops listed).contains i = true)
    (hQ : ∀ c a w, Q (.panic c) (a.put oi.dst undef) w → Q (.panic c) a w) (hw : Region.wanted oi (yielded ops a.tmps) = false) (hS : S w)
    (h : wpAnyH P md ops Q S fuel (listed.setIfInBounds i true) (a.put d undef) w) : wpAnyH P md ops Q S (fuel + 1) listed a w := by
  subst hd
  exact wpAnyH_take hi hs hf hr hQ (.inr ⟨hw, rfl⟩) hS h
/-- S may be said more strongly from here on. -/
theorem held_more {S' : World → Prop} (hSS : ∀ w, S' w → S w) : ∀ (fuel : Nat) (listed : Array Bool) (a : Act) (w : World), wpAnyH P md ops Q S' fuel listed a w → wpAnyH P md ops Q S fuel listed a w
  | 0, _, _, _, h => h
  | fuel + 1, _, _, _, h => ⟨h.1, fun i hi => wpOp_mono (fun a' w' h' => ⟨hSS _ h'.1, held_more hSS fuel _ a' w' h'.2⟩) (h.2 i hi)⟩
end
end Go.Proofs.YtadnjdchjoechaaGreatDoor

/- feed.Add: walked. -/
namespace Go.Proofs.YtadnjdchjoechaaGreatDoor
open Go.RowKit

/-- What hands back entries of its own and an error. -/
def EntRes (E : Nat → Addr) (base : Nat) (w' : World) (r : List Ent × Nat × Int) (e : Ending) : Prop := ∃ v ev, e = .returned (.tuple #[v, ev]) ∧ EntRow w' base v r.1 ∧ ErrAt E w' ev r.2.1 r.2.2
theorem EntRes.mk {E : Nat → Addr} {base : Nat} {w' : World} {r : List Ent × Nat × Int} {v ev : Value} {L : List Ent} {c : Nat} {a : Int} (hr : r = (L, c, a)) (hv : EntRow w' base v L) (he : ErrAt E w' ev c a) : EntRes E base w' r (.returned (.tuple #[v, ev])) := by
  subst hr
  exact ⟨v, ev, rfl, hv, he⟩
theorem EntRow.nil (w : World) (base : Nat) : EntRow w base (.slice none 0 0) [] := RowG.nil _ _ _
theorem addE_check {L : List Ent} {time : Int} {f : Flo} (h : (checkE L).1 ≠ 0) : addE L time f = ([], (checkE L).1, (checkE L).2) := by unfold addE; rw [if_pos h]
theorem addE_full {L : List Ent} {time : Int} {f : Flo} (h : (checkE L).1 = 0) (h1 : 60 ≤ L.length) : addE L time f = ([], 7, -1) := by unfold addE; rw [if_neg (by simpa using h), if_pos h1]
theorem addE_one {L : List Ent} {time : Int} {f : Flo} (h : (checkE L).1 = 0) (h1 : ¬ 60 ≤ L.length) {c : Nat} (hc : entErr (wasE L L.length) L.length ⟨(L.length : Int) + 1, time, f⟩ = c + 1) : addE L time f = ([], c + 1, -1) := by
  unfold addE; rw [if_neg (by simpa using h), if_neg h1, hc, if_pos (Nat.succ_ne_zero _)]
theorem addE_good {L : List Ent} {time : Int} {f : Flo} (h : (checkE L).1 = 0) (h1 : ¬ 60 ≤ L.length) (hc : entErr (wasE L L.length) L.length ⟨(L.length : Int) + 1, time, f⟩ = 0) : addE L time f = (L ++ [⟨(L.length : Int) + 1, time, f⟩], 0, -1) := by
  unfold addE; rw [if_neg (by simpa using h), if_neg h1, hc, if_neg (by simp)]
end Go.Proofs.YtadnjdchjoechaaGreatDoor
