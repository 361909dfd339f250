/- FloW2, Byte -/
import Derived.Test.YtcnadjdijolboaaGreatDoorMg3
import Derived.Sort.Walk0
import Derived.Test.YtcnadjdijolboaaGreatDoorMg1
import Derived.WalkKit
import Derived.WalkSpells
/- The walks of package floor: Of, Passes, Check by contracts. -/
namespace Go.Proofs.YtcnadjdijolboaaGreatDoor
open Go.RowKit

theorem firstF_cases (p : Flo → Bool) (L : List Flo) : (firstF p L = -1 ∧ ∀ f ∈ L, p f = false) ∨ ∃ j : Nat, ∃ h : j < L.length, firstF p L = (j : Int) ∧ p L[j] = true ∧ ∀ i (h : i < L.length), i < j → p L[i] = false := by
  rcases Nat.lt_or_ge (L.findIdx p) L.length with h | h
  · refine .inr ⟨L.findIdx p, h, by unfold firstF; rw [if_pos h], List.findIdx_getElem (w := h), fun i hi hij => ?_⟩
    have := List.not_of_lt_findIdx hij
    simpa using this
  · refine .inl ⟨by unfold firstF; rw [if_neg (by omega)], fun x hx => ?_⟩
    exact List.findIdx_eq_length.1 (Nat.le_antisymm List.findIdx_le_length h) x hx
theorem ofF_none {L : List Flo} {n : List UInt8} (h : ∀ f ∈ L, (f.who == n) = false) : ofF L n = topF L := ofF_not fun g hg e => by
  have := h g hg
  rw [e] at this
  simp at this
theorem ofF_at {L : List Flo} {n : List UInt8} {j : Nat} (hj : j < L.length) (hp : (L[j].who == n) = true) (ha : ∀ i (h : i < L.length), i < j → (L[i].who == n) = false) : ofF L n = max L[j].ep (topF L) := by
  have : L.find? (fun f => f.who == n) = some L[j] := List.find?_eq_some_iff_getElem.2 ⟨hp, j, hj, rfl, fun i hi => by rw [ha i (by omega) hi]; rfl⟩
  unfold ofF
  rw [this]
set_option maxRecDepth 100000 in
theorem of_flo (v : Value) (L : List Flo) (n : List UInt8) (w : World) (hv : FloorsAt w v L) (hm : ∀ f ∈ L, f.who.length ≤ maxLen) :
    Calls Tryz.prog 15 #[v, .string (bs n)] w fun e w' => e = .returned (.int .i64 (ofF L n)) ∧ Below w.heap.size w w' := by
  have hB : Below w.heap.size w (w.alloc (.cells #[.string (bs n)] 9)) := (Below.refl _ _).alloc (Nat.le_refl _) _
  have hv0 := Lib.hid hv
  have hix := Lib.hid (index_flo v L 44 #[.pointer (some ⟨w.heap.size, 0, none⟩)] (fun f => f.who == n) _ (hv.below hB) hm (fun W f _ hb => of1_asks n w.heap.size _ (by simp) W f hb) (enters_of Tryz.func44 (by kernel_rfl) rfl))
  obtain ⟨a, c, rfl, hlen, _, hc⟩ := hv
  unfold maxLen at hlen
  rcases firstF_cases (fun f => f.who == n) L with ⟨h1, h2⟩ | ⟨j, hj, h1, h2, h3⟩
  · have hr := Lib.hid (ofF_none h2)
    rw [h1] at hix
    clear h1 h2
    have htop := Lib.hid (fun wx (hx : Below w.heap.size w wx) => top_flo _ L wx (hv0.out.below hx))
    clear hc
    go_enter Tryz.func15, Tryz.ntmps15
    go_wp2_with fail
    refine hix.out.mono ?_
    rintro e w1 ⟨rfl, hb⟩
    have hb := Lib.hid (below_trans hB hb)
    go_wp2_with fail
    refine (htop.out _ hb.out).mono ?_
    rintro e w2 ⟨rfl, rfl⟩
    go_wp2_with fail
    go_ret
    exact ⟨ret_int hr.out.symm, hb.out⟩
  · have hr := Lib.hid (ofF_at hj h2 h3)
    rw [h1] at hix
    clear h1 h2 h3
    obtain ⟨b, o, rfl, hc0, hc1⟩ := hc j hj
    have hk0 : (0 : Int) ≤ (j : Int) := by omega
    have hk1 : (j : Int) < (L.length : Int) := by omega
    have hk2 : decide ((j : Int) < 0) = false := decide_eq_false (by omega)
    have htop := Lib.hid (fun wx (hx : Below w.heap.size w wx) => top_flo _ L wx (hv0.out.below hx))
    clear hc
    go_enter Tryz.func15, Tryz.ntmps15
    go_wp2_with fail
    refine hix.out.mono ?_
    rintro e w1 ⟨rfl, hb⟩
    have hb := Lib.hid (below_trans hB hb)
    have hc1 := cell_below hb.out hc1
    go_wp2_with fail
    go_quiet ((go_at_call 26; exact Calls.quiet_of_same ((htop.out _ (below_drawn hb.out _)).mono fun e w' h => ⟨h.1, h.2.symm⟩)))
    go_wp2_with fail
    go_ret
    exact ⟨ret_int hr.out.symm, below_drawn hb.out _⟩
theorem passes_flo (v : Value) (L : List Flo) (n : List UInt8) (e0 : Int) (w : World) (hv : FloorsAt w v L) (hm : ∀ f ∈ L, f.who.length ≤ maxLen) :
    Calls Tryz.prog 13 #[v, .string (bs n), .int .i64 e0] w fun e w' => e = .returned (.bool (decide (ofF L n ≤ e0))) ∧ Below w.heap.size w w' := by
  have ho := Lib.hid (of_flo v L n w hv hm)
  by_cases h : ofF L n ≤ e0
  · rw [decide_eq_true h]
    generalize ofF L n = x at *
    go_enter Tryz.func13, Tryz.ntmps13
    go_wp2_with fail
    refine ho.out.mono ?_
    rintro e w1 ⟨rfl, hb⟩
    go_wp2_with fail
    go_ret
    exact ⟨rfl, hb⟩
  · rw [decide_eq_false h]
    generalize ofF L n = x at *
    have hd : decide (x ≤ e0) = false := decide_eq_false h
    clear h
    go_enter Tryz.func13, Tryz.ntmps13
    go_wp2_with fail
    refine ho.out.mono ?_
    rintro e w1 ⟨rfl, hb⟩
    go_wp2_with fail
    go_ret
    exact ⟨rfl, hb⟩

theorem errF_one {L : List Flo} {i : Nat} {f : Flo} (h : oneF f ≠ 0) : errF L i f = oneF f := by unfold errF; rw [if_pos h]
theorem errF_order {L : List Flo} {i : Nat} {f : Flo} (h : oneF f = 0) (h2 : 0 < i ∧ ¬ ((L.getD (i - 1) ⟨[], 0⟩).who < f.who)) : errF L i f = 8 := by
  unfold errF; rw [if_neg (by simpa using h), if_pos h2]
theorem errF_last {L : List Flo} {i : Nat} {f : Flo} (h : oneF f = 0) (h2 : ¬ (0 < i ∧ ¬ ((L.getD (i - 1) ⟨[], 0⟩).who < f.who))) : errF L i f = if f.who ≠ starW ∧ f.ep ≤ topF L then 3 else 0 := by
  unfold errF; rw [if_neg (by simpa using h), if_neg h2]
theorem cell_drawn_new (w : World) (n : Nat) (cs : Array Value) (t : TypeId) (k : Nat) : ((w.drewN n).alloc (.cells cs t)).cell? ⟨w.heap.size, k, none⟩ = cs[k]? := World.cell?_alloc_at _ _ _ _ (by simp)
theorem bs_less (a b : List UInt8) : Op.bytesLess (bs a).toList (bs b).toList = decide (a < b) := by
  rw [Go.Proofs.bytesLess_eq, toList_data, toList_data, bs_list, bs_list]
theorem bs_same (a b : List UInt8) : ((bs a).toList == (bs b).toList) = decide (a = b) := by
  rw [toList_data, toList_data, bs_list, bs_list]
  by_cases h : a = b
  · rw [decide_eq_true h, h]; exact beq_self_eq_true _
  · rw [decide_eq_false h, beq_eq_false_iff_ne]; exact h
set_option maxHeartbeats 2000000 in
set_option maxRecDepth 100000 in
theorem check_flo {E : Nat → Addr} (v : Value) (L : List Flo) (w : World) (hL : Laid E w) (hv : FloorsAt w v L) (hm : ∀ f ∈ L, f.who.length ≤ maxLen) :
    Calls Tryz.prog 7 #[v] w fun e w' => ∃ ev, e = .returned ev ∧ ErrAt E w' ev (checkF L).1 (checkF L).2 ∧ Below w.heap.size w w' := by
  have hv0 := Lib.hid hv
  obtain ⟨a, c, rfl, hlen, _, hc⟩ := hv
  unfold maxLen at hlen
  by_cases h21 : 21 < L.length
  · have hr := Lib.hid (checkF_full h21)
    have he := hL.e7
    have h21' : decide ((21 : Int) < (L.length : Int)) = true := decide_eq_true (by omega)
    clear hc
    go_enter Tryz.func7, Tryz.ntmps7
    go_wp2_with fail
    go_ret
    exact ⟨_, rfl, by rw [hr.out]; exact ErrAt.bare 7, Below.refl _ _⟩
  have h21' : decide ((21 : Int) < (L.length : Int)) = false := decide_eq_false (by omega)
  have hc := Lib.hid hc
  have hm := Lib.hid hm
  have htop := Lib.hid (fun wx (hx : Below w.heap.size w wx) => top_flo _ L wx (hv0.out.below hx))
  have hri := Lib.hid (fun (f : Flo) wx (hx : Below w.heap.size w wx) (hl : f.who.length ≤ maxLen) => right_flo (E := E) f wx (hL.below hx) hl)
  go_enter Tryz.func7, Tryz.ntmps7
  go_wp2_with fail
  go_loopg [12] (L.length + 1) (fun g12 i wr => ∃ j : Nat, i = .int .i64 j ∧ j ≤ L.length ∧ L.length - j + 1 ≤ g12 ∧ Hid (∀ i, i < j → errAtF L i = 0) ∧ Hid (Below w.heap.size w wr))
  case atStart => exact ⟨0, rfl, Nat.zero_le _, by omega, Lib.hid (fun _ h => absurd h (Nat.not_lt_zero _)), Lib.hid (Below.refl _ _)⟩
  case round =>
    obtain ⟨j, rfl, hj, hgj, hall, hK⟩ := hrel
    by_cases hlt : j < L.length
    · obtain ⟨b, o, rfl, hc0, hc1⟩ := hc.out j hlt
      have hc0 := cell_below hK.out hc0
      have hc1 := cell_below hK.out hc1
      have hk0 : (0 : Int) ≤ (j : Int) := by omega
      have hk1 : (j : Int) < (L.length : Int) := by omega
      have hB := hK.out.alloc hK.out.size (.cells #[.string (bs L[j].who), .int .i64 L[j].ep] 24)
      have hri := Lib.hid (hri.out L[j] _ hB (hm.out _ (List.getElem_mem hlt)))
      have hat := Lib.hid (show errAtF L j = errF L j L[j] by unfold errAtF; rw [getD_get hlt])
      have hbad := Lib.hid (fun (hb : errAtF L j ≠ 0) => checkF_some (by omega) j hlt hb hall.out)
      have hnext := Lib.hid (show errAtF L j = 0 → ∀ i, i < j + 1 → errAtF L i = 0 from fun hb i hi => by
        rcases Nat.lt_succ_iff_lt_or_eq.1 hi with h' | rfl
        · exact hall.out i h'
        · exact hb)
      cases ho : oneF L[j] with
      | succ cd =>
        have hr := Lib.hid (show checkF L = (cd + 1, (j : Int)) by
          have h1 : errAtF L j = cd + 1 := by rw [hat.out, errF_one (by rw [ho]; exact Nat.succ_ne_zero _), ho]
          rw [hbad.out (by rw [h1]; exact Nat.succ_ne_zero _), h1])
        rw [ho, errV_succ] at hri
        clear ho
        go_wp2_with fail
        refine hri.out.mono ?_
        rintro e w1 ⟨rfl, hb1⟩
        have hb1 := Lib.hid (hB.trans (hb1.mono hB.size))
        go_wp2_with fail
        go_ret
        exact ⟨_, rfl, by rw [hr.out]; exact .inr ⟨_, rfl, by omega, by simp, by simp [errV]⟩, hb1.out.alloc hb1.out.size _⟩
      | zero =>
        have ho2 := ho
        rw [ho, errV_zero] at hri
        clear ho
        have hst := who_star L[j].who
        by_cases hord : 0 < j ∧ ¬ ((L.getD (j - 1) ⟨[], 0⟩).who < L[j].who)
        case pos =>
          have hr := Lib.hid (show checkF L = (8, (j : Int)) by
            have h1 : errAtF L j = 8 := by rw [hat.out, errF_order ho2 hord]
            rw [hbad.out (by rw [h1]; decide), h1])
          cases j with
          | zero => exact absurd hord.1 (Nat.lt_irrefl _)
          | succ q =>
            have hq : q < L.length := by omega
            obtain ⟨b', o', hbo, hp0, _⟩ := hc.out q hq
            cases hbo
            have hp0 := cell_below hK.out hp0
            have hno : ¬ (L[q].who < L[q + 1].who) := by have := hord.2; rw [Nat.add_sub_cancel, getD_get hq] at this; exact this
            have hk3 : (q : Int) < (L.length : Int) := by omega
            have hk4 : (0 : Int) ≤ (q : Int) := by omega
            have hle : Op.bytesLess (bs L[q + 1].who).toList (bs L[q].who).toList = true ∨ (Op.bytesLess (bs L[q + 1].who).toList (bs L[q].who).toList = false ∧ ((bs L[q + 1].who).toList == (bs L[q].who).toList) = true) := by
              rw [bs_less, bs_same]
              by_cases he : L[q + 1].who = L[q].who
              · exact .inr ⟨decide_eq_false (by rw [he]; exact List.lt_irrefl _), decide_eq_true he⟩
              · exact .inl (decide_eq_true (lt_total hno (fun e => he e.symm)))
            clear hord ho2 hst hno
            rcases hle with hle | ⟨hle, hle2⟩
            all_goals
              go_wp2_with fail
              refine hri.out.mono ?_
              rintro e w1 ⟨rfl, hb1⟩
              have hd0 := cell_below hb1 (show (wr.alloc (.cells #[.string (bs L[q + 1].who), .int .i64 L[q + 1].ep] 24)).cell? ⟨wr.heap.size, 0, none⟩ = some (.string (bs L[q + 1].who)) by simp)
              have hp1 := cell_below hb1 ((World.cell?_alloc_lt _ _ _ (World.block_lt_of_cell? wr _ hp0)).trans hp0)
              have hb1 := Lib.hid (hB.trans (hb1.mono hB.size))
              have he := (hL.below hb1.out).e8
              simp only [errV] at he
              go_wp2_with fail
              go_quiet (fail)
              go_wp2_with fail
              go_ret
              exact ⟨_, rfl, by rw [hr.out]; exact .inr ⟨_, rfl, by omega, by rw [cell_drawn_new]; rfl, by rw [cell_drawn_new]; rfl⟩, (below_drawn hb1.out _).alloc hb1.out.size _⟩
        case neg =>
          have hlast := errF_last ho2 hord
          have hstep : ∃ q : Nat, j = 0 ∨ (j = q + 1 ∧ ∃ hq : q < L.length, L[q].who < L[j].who) := by
            cases j with
            | zero => exact ⟨0, .inl rfl⟩
            | succ q =>
              have hq : q < L.length := by omega
              refine ⟨q, .inr ⟨rfl, hq, ?_⟩⟩
              rcases Classical.em (L[q].who < L[q + 1].who) with h | h
              · exact h
              · exact absurd ⟨by omega, by rw [Nat.add_sub_cancel, getD_get hq]; exact h⟩ hord
          clear hord
          obtain ⟨q, hstep⟩ := hstep
          by_cases hs : L[j].who = starW
          · have h0 : errAtF L j = 0 := by rw [hat.out, hlast, if_neg (fun h => h.1 hs)]
            have hall2 := Lib.hid (hnext.out h0)
            have e1 : ((bs L[j].who).toList == [42]) = true := by rw [hs, toList_data]; rfl
            clear hlast hst hs h0 ho2
            rcases hstep with hz | ⟨hz, hq, hlt2⟩
            · subst hz
              simp only [Nat.zero_mul, Nat.add_zero] at hc0 hc1
              go_wp2_with fail
              refine hri.out.mono ?_
              rintro e w1 ⟨rfl, hb1⟩
              have hd0 := cell_below hb1 (show (wr.alloc (.cells #[.string (bs L[0].who), .int .i64 L[0].ep] 24)).cell? ⟨wr.heap.size, 0, none⟩ = some (.string (bs L[0].who)) by simp)
              have hd1 := cell_below hb1 (show (wr.alloc (.cells #[.string (bs L[0].who), .int .i64 L[0].ep] 24)).cell? ⟨wr.heap.size, 1, none⟩ = some (.int .i64 L[0].ep) by simp)
              have hb1 := Lib.hid (hB.trans (hb1.mono hB.size))
              go_wp2_with fail
              go_quiet (fail)
              go_wp2_with fail
              go_quiet (fail)
              go_wp2_with fail
              go_roundg (L.length - (0))
              case measure => omega
              case rel => exact ⟨1, by simp, hlt, by omega, hall2, Lib.hid (below_drawn hb1.out _)⟩
            · subst hz
              obtain ⟨b', o', hbo, hp0, _⟩ := hc.out q hq
              cases hbo
              have hp0 := cell_below hK.out hp0
              have hk3 : (q : Int) < (L.length : Int) := by omega
              have hk4 : (0 : Int) ≤ (q : Int) := by omega
              have hle : Op.bytesLess (bs L[q + 1].who).toList (bs L[q].who).toList = false := by rw [bs_less]; exact decide_eq_false (fun h => List.lt_irrefl _ (List.lt_trans h hlt2))
              have hle2 : ((bs L[q + 1].who).toList == (bs L[q].who).toList) = false := by rw [bs_same]; exact decide_eq_false (fun h => by rw [h] at hlt2; exact List.lt_irrefl _ hlt2)
              clear hlt2
              go_wp2_with fail
              refine hri.out.mono ?_
              rintro e w1 ⟨rfl, hb1⟩
              have hd0 := cell_below hb1 (show (wr.alloc (.cells #[.string (bs L[q + 1].who), .int .i64 L[q + 1].ep] 24)).cell? ⟨wr.heap.size, 0, none⟩ = some (.string (bs L[q + 1].who)) by simp)
              have hd1 := cell_below hb1 (show (wr.alloc (.cells #[.string (bs L[q + 1].who), .int .i64 L[q + 1].ep] 24)).cell? ⟨wr.heap.size, 1, none⟩ = some (.int .i64 L[q + 1].ep) by simp)
              have hp1 := cell_below hb1 ((World.cell?_alloc_lt _ _ _ (World.block_lt_of_cell? wr _ hp0)).trans hp0)
              have hb1 := Lib.hid (hB.trans (hb1.mono hB.size))
              go_wp2_with fail
              go_quiet (fail)
              go_wp2_with fail
              go_quiet (fail)
              go_wp2_with fail
              go_roundg (L.length - (q + 1))
              case measure => omega
              case rel => exact ⟨q + 1 + 1, by simp, hlt, by omega, hall2, Lib.hid (below_drawn hb1.out _)⟩
          · have e1 : ((bs L[j].who).toList == [42]) = false := by rw [toList_data, bs_list, beq_eq_false_iff_ne]; exact hs
            have e2 : ((bs L[j].who).toList != [42]) = true := by rw [bne, e1]; rfl
            by_cases hlow : L[j].ep ≤ topF L
            · have hr := Lib.hid (show checkF L = (3, (j : Int)) by
                have h1 : errAtF L j = 3 := by rw [hat.out, hlast, if_pos ⟨hs, hlow⟩]
                rw [hbad.out (by rw [h1]; decide), h1])
              clear hlast hst hs ho2
              generalize topF L = tp at *
              rcases hstep with hz | ⟨hz, hq, hlt2⟩
              · subst hz
                simp only [Nat.zero_mul, Nat.add_zero] at hc0 hc1
                go_wp2_with fail
                refine hri.out.mono ?_
                rintro e w1 ⟨rfl, hb1⟩
                have hd0 := cell_below hb1 (show (wr.alloc (.cells #[.string (bs L[0].who), .int .i64 L[0].ep] 24)).cell? ⟨wr.heap.size, 0, none⟩ = some (.string (bs L[0].who)) by simp)
                have hd1 := cell_below hb1 (show (wr.alloc (.cells #[.string (bs L[0].who), .int .i64 L[0].ep] 24)).cell? ⟨wr.heap.size, 1, none⟩ = some (.int .i64 L[0].ep) by simp)
                have hb1 := Lib.hid (hB.trans (hb1.mono hB.size))
                go_wp2_with fail
                go_quiet (fail)
                go_wp2_with fail
                go_quiet ((go_at_call 26; exact (htop.out _ (below_drawn hb1.out _)).mono fun e w' h => ⟨h.1, _, h.2.symm⟩))
                have he := (hL.below hb1.out).e3
                simp only [errV] at he
                go_wp2_with fail
                go_ret
                exact ⟨_, rfl, by rw [hr.out]; exact .inr ⟨_, rfl, by omega, by rw [cell_drawn_new]; rfl, by rw [cell_drawn_new]; rfl⟩, (below_drawn hb1.out _).alloc hb1.out.size _⟩
              · subst hz
                obtain ⟨b', o', hbo, hp0, _⟩ := hc.out q hq
                cases hbo
                have hp0 := cell_below hK.out hp0
                have hk3 : (q : Int) < (L.length : Int) := by omega
                have hk4 : (0 : Int) ≤ (q : Int) := by omega
                have hle : Op.bytesLess (bs L[q + 1].who).toList (bs L[q].who).toList = false := by rw [bs_less]; exact decide_eq_false (fun h => List.lt_irrefl _ (List.lt_trans h hlt2))
                have hle2 : ((bs L[q + 1].who).toList == (bs L[q].who).toList) = false := by rw [bs_same]; exact decide_eq_false (fun h => by rw [h] at hlt2; exact List.lt_irrefl _ hlt2)
                clear hlt2
                go_wp2_with fail
                refine hri.out.mono ?_
                rintro e w1 ⟨rfl, hb1⟩
                have hd0 := cell_below hb1 (show (wr.alloc (.cells #[.string (bs L[q + 1].who), .int .i64 L[q + 1].ep] 24)).cell? ⟨wr.heap.size, 0, none⟩ = some (.string (bs L[q + 1].who)) by simp)
                have hd1 := cell_below hb1 (show (wr.alloc (.cells #[.string (bs L[q + 1].who), .int .i64 L[q + 1].ep] 24)).cell? ⟨wr.heap.size, 1, none⟩ = some (.int .i64 L[q + 1].ep) by simp)
                have hp1 := cell_below hb1 ((World.cell?_alloc_lt _ _ _ (World.block_lt_of_cell? wr _ hp0)).trans hp0)
                have hb1 := Lib.hid (hB.trans (hb1.mono hB.size))
                go_wp2_with fail
                go_quiet (fail)
                go_wp2_with fail
                go_quiet ((go_at_call 26; exact (htop.out _ (below_drawn hb1.out _)).mono fun e w' h => ⟨h.1, _, h.2.symm⟩))
                have he := (hL.below hb1.out).e3
                simp only [errV] at he
                go_wp2_with fail
                go_ret
                exact ⟨_, rfl, by rw [hr.out]; exact .inr ⟨_, rfl, by omega, by rw [cell_drawn_new]; rfl, by rw [cell_drawn_new]; rfl⟩, (below_drawn hb1.out _).alloc hb1.out.size _⟩
            · have h0 : errAtF L j = 0 := by rw [hat.out, hlast, if_neg (fun h => hlow h.2)]
              have hall2 := Lib.hid (hnext.out h0)
              clear hlast hst hs h0 ho2
              generalize topF L = tp at *
              have hlow2 : decide (L[j].ep ≤ tp) = false := decide_eq_false hlow
              clear hlow
              rcases hstep with hz | ⟨hz, hq, hlt2⟩
              · subst hz
                simp only [Nat.zero_mul, Nat.add_zero] at hc0 hc1
                go_wp2_with fail
                refine hri.out.mono ?_
                rintro e w1 ⟨rfl, hb1⟩
                have hd0 := cell_below hb1 (show (wr.alloc (.cells #[.string (bs L[0].who), .int .i64 L[0].ep] 24)).cell? ⟨wr.heap.size, 0, none⟩ = some (.string (bs L[0].who)) by simp)
                have hd1 := cell_below hb1 (show (wr.alloc (.cells #[.string (bs L[0].who), .int .i64 L[0].ep] 24)).cell? ⟨wr.heap.size, 1, none⟩ = some (.int .i64 L[0].ep) by simp)
                have hb1 := Lib.hid (hB.trans (hb1.mono hB.size))
                go_wp2_with fail
                go_quiet (fail)
                go_wp2_with fail
                go_quiet ((go_at_call 26; exact (htop.out _ (below_drawn hb1.out _)).mono fun e w' h => ⟨h.1, _, h.2.symm⟩))
                go_wp2_with fail
                go_roundg (L.length - (0))
                case measure => omega
                case rel => exact ⟨1, by simp, hlt, by omega, hall2, Lib.hid (below_drawn hb1.out _)⟩
              · subst hz
                obtain ⟨b', o', hbo, hp0, _⟩ := hc.out q hq
                cases hbo
                have hp0 := cell_below hK.out hp0
                have hk3 : (q : Int) < (L.length : Int) := by omega
                have hk4 : (0 : Int) ≤ (q : Int) := by omega
                have hle : Op.bytesLess (bs L[q + 1].who).toList (bs L[q].who).toList = false := by rw [bs_less]; exact decide_eq_false (fun h => List.lt_irrefl _ (List.lt_trans h hlt2))
                have hle2 : ((bs L[q + 1].who).toList == (bs L[q].who).toList) = false := by rw [bs_same]; exact decide_eq_false (fun h => by rw [h] at hlt2; exact List.lt_irrefl _ hlt2)
                clear hlt2
                go_wp2_with fail
                refine hri.out.mono ?_
                rintro e w1 ⟨rfl, hb1⟩
                have hd0 := cell_below hb1 (show (wr.alloc (.cells #[.string (bs L[q + 1].who), .int .i64 L[q + 1].ep] 24)).cell? ⟨wr.heap.size, 0, none⟩ = some (.string (bs L[q + 1].who)) by simp)
                have hd1 := cell_below hb1 (show (wr.alloc (.cells #[.string (bs L[q + 1].who), .int .i64 L[q + 1].ep] 24)).cell? ⟨wr.heap.size, 1, none⟩ = some (.int .i64 L[q + 1].ep) by simp)
                have hp1 := cell_below hb1 ((World.cell?_alloc_lt _ _ _ (World.block_lt_of_cell? wr _ hp0)).trans hp0)
                have hb1 := Lib.hid (hB.trans (hb1.mono hB.size))
                go_wp2_with fail
                go_quiet (fail)
                go_wp2_with fail
                go_quiet ((go_at_call 26; exact (htop.out _ (below_drawn hb1.out _)).mono fun e w' h => ⟨h.1, _, h.2.symm⟩))
                go_wp2_with fail
                go_roundg (L.length - (q + 1))
                case measure => omega
                case rel => exact ⟨q + 1 + 1, by simp, hlt, by omega, hall2, Lib.hid (below_drawn hb1.out _)⟩
    · have hr := Lib.hid (show checkF L = (0, -1) from checkF_none (by omega) fun i hi => hall.out i (by omega))
      have hge : ¬ ((j : Int) < (L.length : Int)) := by omega
      go_wp2_with fail
      go_ret
      exact ⟨_, rfl, by rw [hr.out]; exact ErrAt.bare 0, hK.out⟩
end Go.Proofs.YtcnadjdijolboaaGreatDoor

/- One byte another one: another mark; a byte stored into a text's bytes. -/
namespace Go.Proofs.YtcnadjdijolboaaGreatDoor
open Go.RowKit

theorem mstep_inj (k n m : Int) (c : UInt8) (h0 : 0 ≤ n) (h1 : n < 1000000007) (h2 : 0 ≤ m) (h3 : m < 1000000007) (h : mstep k n c = mstep k m c) : n = m := by
  unfold mstep at h; omega
theorem mfold_inj (k : Int) (l : List UInt8) : ∀ n m : Int, 0 ≤ n → n < 1000000007 → 0 ≤ m → m < 1000000007 → mfold k n l = mfold k m l → n = m := by
  induction l with
  | nil => intro n m _ _ _ _ h; exact h
  | cons c l ih =>
    intro n m h0 h1 h2 h3 h
    exact mstep_inj k n m c h0 h1 h2 h3 (ih _ _ (mstep_bd _ _ _).1 (mstep_bd _ _ _).2 (mstep_bd _ _ _).1 (mstep_bd _ _ _).2 h)
theorem mstep_byte (k n : Int) (c d : UInt8) (h : mstep k n c = mstep k n d) : c = d := by
  unfold mstep at h
  have := UInt8.toNat_lt c
  have := UInt8.toNat_lt d
  exact UInt8.toNat_inj.1 (by omega)
/-- With one byte another one it is another mark. -/
theorem mfold_byte (k n : Int) (l t : List UInt8) (c d : UInt8) (h : mfold k n (l ++ c :: t) = mfold k n (l ++ d :: t)) (h0 : 0 ≤ n) (h1 : n < 1000000007) : c = d := by
  rw [mfold_append, mfold_append] at h
  have hb := mfold_bd k l n h0 h1
  generalize mfold k n l = m at *
  exact mstep_byte k m c d (mfold_inj k t _ _ (mstep_bd _ _ _).1 (mstep_bd _ _ _).2 (mstep_bd _ _ _).1 (mstep_bd _ _ _).2 h)
theorem append_data (a b : ByteArray) : (a ++ b).data.toList = a.data.toList ++ b.data.toList := by simp [ByteArray.data_append]
theorem split_at (l : List UInt8) (i : Nat) (h : i < l.length) (d : UInt8) : l.set i d = l.take i ++ d :: l.drop (i + 1) := List.set_eq_take_append_cons_drop .. |>.trans (by rw [if_pos h])

/-- A byte stored into a text's bytes. -/
theorem storeByte_cells (w : World) (a : ByteArray) (j : Nat) (x : Int) (hj : j < a.size) (hx0 : 0 ≤ x) (hx1 : x ≤ 255) (e : TypeId) (cap : Nat) :
    (w.alloc (.cells (bytesRow a cap) e ((bytesRow a cap).size, (bytesRow a cap).size + 1))).cell? ⟨w.heap.size, j, none⟩ = some (.int .u8 ((byteAt a j).toNat : Int)) ∧
    (w.alloc (.cells (bytesRow a cap) e ((bytesRow a cap).size, (bytesRow a cap).size + 1))).frozen? ⟨w.heap.size, j, none⟩ = false ∧
    ∀ i (hi : i < (a.data.toList.set j (UInt8.ofNat x.toNat)).length), (((w.alloc (.cells (bytesRow a cap) e ((bytesRow a cap).size, (bytesRow a cap).size + 1))).setCell ⟨w.heap.size, j, none⟩ (.int .u8 x)).drew).cell? ((⟨w.heap.size, 0, none⟩ : Addr).add i) = some (.int .u8 ((a.data.toList.set j (UInt8.ofNat x.toNat))[i].toNat : Int)) := by
  have h1 := bytesRow_cell w a j hj e cap ((bytesRow a cap).size, (bytesRow a cap).size + 1)
  have hsz : a.size ≤ (bytesRow a cap).size := by unfold bytesRow; simp
  refine ⟨h1, ?_, ?_⟩
  · rw [World.frozen?_alloc_mark]; simp; omega
  · intro i hi
    have hi' : i < a.size := by simpa using hi
    rw [World.cell?_drew, Addr.add_lit, Nat.zero_add]
    by_cases hij : i = j
    · subst hij
      rw [World.cell?_setCell_same _ _ _ h1]
      have ht : (UInt8.ofNat x.toNat).toNat = x.toNat := by simp; omega
      simp only [List.getElem_set_self, ht]
      rw [Int.toNat_of_nonneg hx0]
    · rw [World.cell?_setCell_other _ _ _ _ (by intro h; cases h; exact hij rfl), bytesRow_cell w a i hi' e cap, byteAt_eq a i hi', List.getElem_set_ne (by omega)]
      rfl
end Go.Proofs.YtcnadjdijolboaaGreatDoor
