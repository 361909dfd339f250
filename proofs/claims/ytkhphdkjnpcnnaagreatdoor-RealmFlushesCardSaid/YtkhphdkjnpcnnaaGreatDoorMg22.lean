/- FloW2, FedW -/
import Derived.Test.YtkhphdkjnpcnnaaGreatDoorMg9
import Derived.Test.YtkhphdkjnpcnnaaGreatDoorMg12
import Derived.Sort.Walk0
import Derived.Test.YtkhphdkjnpcnnaaGreatDoorMg10
import Derived.Deep.LoopGhost
/- The walks of package floor: Of, Passes, Check by contracts. -/
namespace Go.Proofs.YtkhphdkjnpcnnaaGreatDoor
open Go.RowKit

theorem firstF_cases (p : Flo → Bool) (L : List Flo) : (firstF p L = -1 ∧ ∀ f ∈ L, p f = false) ∨ ∃ j : Nat, ∃ h : j < L.length, firstF p L = (j : Int) ∧ p L[j] = true ∧ ∀ i (h : i < L.length), i < j → p L[i] = false := by
  rcases Nat.lt_or_ge (L.findIdx p) L.length with h | h
  · refine .inr ⟨L.findIdx p, h, by unfold firstF; rw [if_pos h], List.findIdx_getElem (w := h), fun i hi hij => ?_⟩
    have := List.not_of_lt_findIdx hij
    simpa using this
  · refine .inl ⟨by unfold firstF; rw [if_neg (by omega)], fun x hx => ?_⟩
    exact List.findIdx_eq_length.1 (Nat.le_antisymm List.findIdx_le_length h) x hx
theorem ofF_none {L : List Flo} {n : List UInt8} (h : ∀ f ∈ L, (f.who == n) = false) : ofF L n = topF L := ofF_not fun g hg e => by
  have := h g hg
  rw [e] at this
  simp at this
theorem ofF_at {L : List Flo} {n : List UInt8} {j : Nat} (hj : j < L.length) (hp : (L[j].who == n) = true) (ha : ∀ i (h : i < L.length), i < j → (L[i].who == n) = false) : ofF L n = max L[j].ep (topF L) := by
  have : L.find? (fun f => f.who == n) = some L[j] := List.find?_eq_some_iff_getElem.2 ⟨hp, j, hj, rfl, fun i hi => by rw [ha i (by omega) hi]; rfl⟩
  unfold ofF
  rw [this]
set_option maxRecDepth 100000 in
theorem of_flo (v : Value) (L : List Flo) (n : List UInt8) (w : World) (hv : FloorsAt w v L) (hm : ∀ f ∈ L, f.who.length ≤ maxLen) :
    Calls Tryz.prog 19 #[v, .string (bs n)] w fun e w' => e = .returned (.int .i64 (ofF L n)) ∧ Below w.heap.size w w' := by
  have hB : Below w.heap.size w (w.alloc (.cells #[.string (bs n)] 9)) := (Below.refl _ _).alloc (Nat.le_refl _) _
  have hv0 := Lib.hid hv
  have hix := Lib.hid (index_flo v L 64 #[.pointer (some ⟨w.heap.size, 0, none⟩)] (fun f => f.who == n) _ (hv.below hB) hm (fun W f _ hb => of1_asks n w.heap.size _ (by simp) W f hb) (enters_of Tryz.func64 (by kernel_rfl) rfl))
  obtain ⟨a, c, rfl, hlen, _, hc⟩ := hv
  unfold maxLen at hlen
  rcases firstF_cases (fun f => f.who == n) L with ⟨h1, h2⟩ | ⟨j, hj, h1, h2, h3⟩
  · have hr := Lib.hid (ofF_none h2)
    rw [h1] at hix
    clear h1 h2
    have htop := Lib.hid (fun wx (hx : Below w.heap.size w wx) => top_flo _ L wx (hv0.out.below hx))
    clear hc
    go_enter Tryz.func19, Tryz.ntmps19
    go_wp2_with fail
    refine hix.out.mono ?_
    rintro e w1 ⟨rfl, hb⟩
    have hb := Lib.hid (below_trans hB hb)
    go_wp2_with fail
    refine (htop.out _ hb.out).mono ?_
    rintro e w2 ⟨rfl, rfl⟩
    go_wp2_with fail
    go_ret
    exact ⟨ret_int hr.out.symm, hb.out⟩
  · have hr := Lib.hid (ofF_at hj h2 h3)
    rw [h1] at hix
    clear h1 h2 h3
    obtain ⟨b, o, rfl, hc0, hc1⟩ := hc j hj
    have hk0 : (0 : Int) ≤ (j : Int) := by omega
    have hk1 : (j : Int) < (L.length : Int) := by omega
    have hk2 : decide ((j : Int) < 0) = false := decide_eq_false (by omega)
    have htop := Lib.hid (fun wx (hx : Below w.heap.size w wx) => top_flo _ L wx (hv0.out.below hx))
    clear hc
    go_enter Tryz.func19, Tryz.ntmps19
    go_wp2_with fail
    refine hix.out.mono ?_
    rintro e w1 ⟨rfl, hb⟩
    have hb := Lib.hid (below_trans hB hb)
    have hc1 := cell_below hb.out hc1
    go_wp2_with fail
    go_quiet ((go_at_call 65; exact Calls.quiet_of_same ((htop.out _ (below_drawn hb.out _)).mono fun e w' h => ⟨h.1, h.2.symm⟩)))
    go_wp2_with fail
    go_ret
    exact ⟨ret_int hr.out.symm, below_drawn hb.out _⟩
theorem passes_flo (v : Value) (L : List Flo) (n : List UInt8) (e0 : Int) (w : World) (hv : FloorsAt w v L) (hm : ∀ f ∈ L, f.who.length ≤ maxLen) :
    Calls Tryz.prog 18 #[v, .string (bs n), .int .i64 e0] w fun e w' => e = .returned (.bool (decide (ofF L n ≤ e0))) ∧ Below w.heap.size w w' := by
  have ho := Lib.hid (of_flo v L n w hv hm)
  by_cases h : ofF L n ≤ e0
  · rw [decide_eq_true h]
    generalize ofF L n = x at *
    go_enter Tryz.func18, Tryz.ntmps18
    go_wp2_with fail
    refine ho.out.mono ?_
    rintro e w1 ⟨rfl, hb⟩
    go_wp2_with fail
    go_ret
    exact ⟨rfl, hb⟩
  · rw [decide_eq_false h]
    generalize ofF L n = x at *
    have hd : decide (x ≤ e0) = false := decide_eq_false h
    clear h
    go_enter Tryz.func18, Tryz.ntmps18
    go_wp2_with fail
    refine ho.out.mono ?_
    rintro e w1 ⟨rfl, hb⟩
    go_wp2_with fail
    go_ret
    exact ⟨rfl, hb⟩

theorem errF_one {L : List Flo} {i : Nat} {f : Flo} (h : oneF f ≠ 0) : errF L i f = oneF f := by unfold errF; rw [if_pos h]
theorem errF_order {L : List Flo} {i : Nat} {f : Flo} (h : oneF f = 0) (h2 : 0 < i ∧ ¬ ((L.getD (i - 1) ⟨[], 0⟩).who < f.who)) : errF L i f = 8 := by
  unfold errF; rw [if_neg (by simpa using h), if_pos h2]
theorem errF_last {L : List Flo} {i : Nat} {f : Flo} (h : oneF f = 0) (h2 : ¬ (0 < i ∧ ¬ ((L.getD (i - 1) ⟨[], 0⟩).who < f.who))) : errF L i f = if f.who ≠ starW ∧ f.ep ≤ topF L then 3 else 0 := by
  unfold errF; rw [if_neg (by simpa using h), if_neg h2]
theorem cell_drawn_new (w : World) (n : Nat) (cs : Array Value) (t : TypeId) (k : Nat) : ((w.drewN n).alloc (.cells cs t)).cell? ⟨w.heap.size, k, none⟩ = cs[k]? := World.cell?_alloc_at _ _ _ _ (by simp)
theorem bs_less (a b : List UInt8) : Op.bytesLess (bs a).toList (bs b).toList = decide (a < b) := by
  rw [Go.Proofs.bytesLess_eq, toList_data, toList_data, bs_list, bs_list]
theorem bs_same (a b : List UInt8) : ((bs a).toList == (bs b).toList) = decide (a = b) := by
  rw [toList_data, toList_data, bs_list, bs_list]
  by_cases h : a = b
  · rw [decide_eq_true h, h]; exact beq_self_eq_true _
  · rw [decide_eq_false h, beq_eq_false_iff_ne]; exact h
set_option maxHeartbeats 2000000 in
set_option maxRecDepth 100000 in
theorem check_flo {E : Nat → Addr} (v : Value) (L : List Flo) (w : World) (hL : Laid E w) (hv : FloorsAt w v L) (hm : ∀ f ∈ L, f.who.length ≤ maxLen) :
    Calls Tryz.prog 103 #[v] w fun e w' => ∃ ev, e = .returned ev ∧ ErrAt E w' ev (checkF L).1 (checkF L).2 ∧ Below w.heap.size w w' := by
  have hv0 := Lib.hid hv
  obtain ⟨a, c, rfl, hlen, _, hc⟩ := hv
  unfold maxLen at hlen
  by_cases h21 : 21 < L.length
  · have hr := Lib.hid (checkF_full h21)
    have he := hL.e7
    have h21' : decide ((21 : Int) < (L.length : Int)) = true := decide_eq_true (by omega)
    clear hc
    go_enter Tryz.func103, Tryz.ntmps103
    go_wp2_with fail
    go_ret
    exact ⟨_, rfl, by rw [hr.out]; exact ErrAt.bare 7, Below.refl _ _⟩
  have h21' : decide ((21 : Int) < (L.length : Int)) = false := decide_eq_false (by omega)
  have hc := Lib.hid hc
  have hm := Lib.hid hm
  have htop := Lib.hid (fun wx (hx : Below w.heap.size w wx) => top_flo _ L wx (hv0.out.below hx))
  have hri := Lib.hid (fun (f : Flo) wx (hx : Below w.heap.size w wx) (hl : f.who.length ≤ maxLen) => right_flo (E := E) f wx (hL.below hx) hl)
  go_enter Tryz.func103, Tryz.ntmps103
  go_wp2_with fail
  go_loopg [12] (L.length + 1) (fun g12 i wr => ∃ j : Nat, i = .int .i64 j ∧ j ≤ L.length ∧ L.length - j + 1 ≤ g12 ∧ Hid (∀ i, i < j → errAtF L i = 0) ∧ Hid (Below w.heap.size w wr))
  case atStart => exact ⟨0, rfl, Nat.zero_le _, by omega, Lib.hid (fun _ h => absurd h (Nat.not_lt_zero _)), Lib.hid (Below.refl _ _)⟩
  case round =>
    obtain ⟨j, rfl, hj, hgj, hall, hK⟩ := hrel
    by_cases hlt : j < L.length
    · obtain ⟨b, o, rfl, hc0, hc1⟩ := hc.out j hlt
      have hc0 := cell_below hK.out hc0
      have hc1 := cell_below hK.out hc1
      have hk0 : (0 : Int) ≤ (j : Int) := by omega
      have hk1 : (j : Int) < (L.length : Int) := by omega
      have hB := hK.out.alloc hK.out.size (.cells #[.string (bs L[j].who), .int .i64 L[j].ep] 113)
      have hri := Lib.hid (hri.out L[j] _ hB (hm.out _ (List.getElem_mem hlt)))
      have hat := Lib.hid (show errAtF L j = errF L j L[j] by unfold errAtF; rw [getD_get hlt])
      have hbad := Lib.hid (fun (hb : errAtF L j ≠ 0) => checkF_some (by omega) j hlt hb hall.out)
      have hnext := Lib.hid (show errAtF L j = 0 → ∀ i, i < j + 1 → errAtF L i = 0 from fun hb i hi => by
        rcases Nat.lt_succ_iff_lt_or_eq.1 hi with h' | rfl
        · exact hall.out i h'
        · exact hb)
      cases ho : oneF L[j] with
      | succ cd =>
        have hr := Lib.hid (show checkF L = (cd + 1, (j : Int)) by
          have h1 : errAtF L j = cd + 1 := by rw [hat.out, errF_one (by rw [ho]; exact Nat.succ_ne_zero _), ho]
          rw [hbad.out (by rw [h1]; exact Nat.succ_ne_zero _), h1])
        rw [ho, errV_succ] at hri
        clear ho
        go_wp2_with fail
        refine hri.out.mono ?_
        rintro e w1 ⟨rfl, hb1⟩
        have hb1 := Lib.hid (hB.trans (hb1.mono hB.size))
        go_wp2_with fail
        go_ret
        exact ⟨_, rfl, by rw [hr.out]; exact .inr ⟨_, rfl, by omega, by simp, by simp [errV]⟩, hb1.out.alloc hb1.out.size _⟩
      | zero =>
        have ho2 := ho
        rw [ho, errV_zero] at hri
        clear ho
        have hst := who_star L[j].who
        by_cases hord : 0 < j ∧ ¬ ((L.getD (j - 1) ⟨[], 0⟩).who < L[j].who)
        case pos =>
          have hr := Lib.hid (show checkF L = (8, (j : Int)) by
            have h1 : errAtF L j = 8 := by rw [hat.out, errF_order ho2 hord]
            rw [hbad.out (by rw [h1]; decide), h1])
          cases j with
          | zero => exact absurd hord.1 (Nat.lt_irrefl _)
          | succ q =>
            have hq : q < L.length := by omega
            obtain ⟨b', o', hbo, hp0, _⟩ := hc.out q hq
            cases hbo
            have hp0 := cell_below hK.out hp0
            have hno : ¬ (L[q].who < L[q + 1].who) := by have := hord.2; rw [Nat.add_sub_cancel, getD_get hq] at this; exact this
            have hk3 : (q : Int) < (L.length : Int) := by omega
            have hk4 : (0 : Int) ≤ (q : Int) := by omega
            have hle : Op.bytesLess (bs L[q + 1].who).toList (bs L[q].who).toList = true ∨ (Op.bytesLess (bs L[q + 1].who).toList (bs L[q].who).toList = false ∧ ((bs L[q + 1].who).toList == (bs L[q].who).toList) = true) := by
              rw [bs_less, bs_same]
              by_cases he : L[q + 1].who = L[q].who
              · exact .inr ⟨decide_eq_false (by rw [he]; exact List.lt_irrefl _), decide_eq_true he⟩
              · exact .inl (decide_eq_true (lt_total hno (fun e => he e.symm)))
            clear hord ho2 hst hno
            rcases hle with hle | ⟨hle, hle2⟩
            all_goals
              go_wp2_with fail
              refine hri.out.mono ?_
              rintro e w1 ⟨rfl, hb1⟩
              have hd0 := cell_below hb1 (show (wr.alloc (.cells #[.string (bs L[q + 1].who), .int .i64 L[q + 1].ep] 113)).cell? ⟨wr.heap.size, 0, none⟩ = some (.string (bs L[q + 1].who)) by simp)
              have hp1 := cell_below hb1 ((World.cell?_alloc_lt _ _ _ (World.block_lt_of_cell? wr _ hp0)).trans hp0)
              have hb1 := Lib.hid (hB.trans (hb1.mono hB.size))
              have he := (hL.below hb1.out).e8
              simp only [errV] at he
              go_wp2_with fail
              go_quiet (fail)
              go_wp2_with fail
              go_ret
              exact ⟨_, rfl, by rw [hr.out]; exact .inr ⟨_, rfl, by omega, by rw [cell_drawn_new]; rfl, by rw [cell_drawn_new]; rfl⟩, (below_drawn hb1.out _).alloc hb1.out.size _⟩
        case neg =>
          have hlast := errF_last ho2 hord
          have hstep : ∃ q : Nat, j = 0 ∨ (j = q + 1 ∧ ∃ hq : q < L.length, L[q].who < L[j].who) := by
            cases j with
            | zero => exact ⟨0, .inl rfl⟩
            | succ q =>
              have hq : q < L.length := by omega
              refine ⟨q, .inr ⟨rfl, hq, ?_⟩⟩
              rcases Classical.em (L[q].who < L[q + 1].who) with h | h
              · exact h
              · exact absurd ⟨by omega, by rw [Nat.add_sub_cancel, getD_get hq]; exact h⟩ hord
          clear hord
          obtain ⟨q, hstep⟩ := hstep
          by_cases hs : L[j].who = starW
          · have h0 : errAtF L j = 0 := by rw [hat.out, hlast, if_neg (fun h => h.1 hs)]
            have hall2 := Lib.hid (hnext.out h0)
            have e1 : ((bs L[j].who).toList == [42]) = true := by rw [hs, toList_data]; rfl
            clear hlast hst hs h0 ho2
            rcases hstep with hz | ⟨hz, hq, hlt2⟩
            · subst hz
              simp only [Nat.zero_mul, Nat.add_zero] at hc0 hc1
              go_wp2_with fail
              refine hri.out.mono ?_
              rintro e w1 ⟨rfl, hb1⟩
              have hd0 := cell_below hb1 (show (wr.alloc (.cells #[.string (bs L[0].who), .int .i64 L[0].ep] 113)).cell? ⟨wr.heap.size, 0, none⟩ = some (.string (bs L[0].who)) by simp)
              have hd1 := cell_below hb1 (show (wr.alloc (.cells #[.string (bs L[0].who), .int .i64 L[0].ep] 113)).cell? ⟨wr.heap.size, 1, none⟩ = some (.int .i64 L[0].ep) by simp)
              have hb1 := Lib.hid (hB.trans (hb1.mono hB.size))
              go_wp2_with fail
              go_quiet (fail)
              go_wp2_with fail
              go_quiet (fail)
              go_wp2_with fail
              go_roundg (L.length - (0))
              case measure => omega
              case rel => exact ⟨1, by simp, hlt, by omega, hall2, Lib.hid (below_drawn hb1.out _)⟩
            · subst hz
              obtain ⟨b', o', hbo, hp0, _⟩ := hc.out q hq
              cases hbo
              have hp0 := cell_below hK.out hp0
              have hk3 : (q : Int) < (L.length : Int) := by omega
              have hk4 : (0 : Int) ≤ (q : Int) := by omega
              have hle : Op.bytesLess (bs L[q + 1].who).toList (bs L[q].who).toList = false := by rw [bs_less]; exact decide_eq_false (fun h => List.lt_irrefl _ (List.lt_trans h hlt2))
              have hle2 : ((bs L[q + 1].who).toList == (bs L[q].who).toList) = false := by rw [bs_same]; exact decide_eq_false (fun h => by rw [h] at hlt2; exact List.lt_irrefl _ hlt2)
              clear hlt2
              go_wp2_with fail
              refine hri.out.mono ?_
              rintro e w1 ⟨rfl, hb1⟩
              have hd0 := cell_below hb1 (show (wr.alloc (.cells #[.string (bs L[q + 1].who), .int .i64 L[q + 1].ep] 113)).cell? ⟨wr.heap.size, 0, none⟩ = some (.string (bs L[q + 1].who)) by simp)
              have hd1 := cell_below hb1 (show (wr.alloc (.cells #[.string (bs L[q + 1].who), .int .i64 L[q + 1].ep] 113)).cell? ⟨wr.heap.size, 1, none⟩ = some (.int .i64 L[q + 1].ep) by simp)
              have hp1 := cell_below hb1 ((World.cell?_alloc_lt _ _ _ (World.block_lt_of_cell? wr _ hp0)).trans hp0)
              have hb1 := Lib.hid (hB.trans (hb1.mono hB.size))
              go_wp2_with fail
              go_quiet (fail)
              go_wp2_with fail
              go_quiet (fail)
              go_wp2_with fail
              go_roundg (L.length - (q + 1))
              case measure => omega
              case rel => exact ⟨q + 1 + 1, by simp, hlt, by omega, hall2, Lib.hid (below_drawn hb1.out _)⟩
          · have e1 : ((bs L[j].who).toList == [42]) = false := by rw [toList_data, bs_list, beq_eq_false_iff_ne]; exact hs
            have e2 : ((bs L[j].who).toList != [42]) = true := by rw [bne, e1]; rfl
            by_cases hlow : L[j].ep ≤ topF L
            · have hr := Lib.hid (show checkF L = (3, (j : Int)) by
                have h1 : errAtF L j = 3 := by rw [hat.out, hlast, if_pos ⟨hs, hlow⟩]
                rw [hbad.out (by rw [h1]; decide), h1])
              clear hlast hst hs ho2
              generalize topF L = tp at *
              rcases hstep with hz | ⟨hz, hq, hlt2⟩
              · subst hz
                simp only [Nat.zero_mul, Nat.add_zero] at hc0 hc1
                go_wp2_with fail
                refine hri.out.mono ?_
                rintro e w1 ⟨rfl, hb1⟩
                have hd0 := cell_below hb1 (show (wr.alloc (.cells #[.string (bs L[0].who), .int .i64 L[0].ep] 113)).cell? ⟨wr.heap.size, 0, none⟩ = some (.string (bs L[0].who)) by simp)
                have hd1 := cell_below hb1 (show (wr.alloc (.cells #[.string (bs L[0].who), .int .i64 L[0].ep] 113)).cell? ⟨wr.heap.size, 1, none⟩ = some (.int .i64 L[0].ep) by simp)
                have hb1 := Lib.hid (hB.trans (hb1.mono hB.size))
                go_wp2_with fail
                go_quiet (fail)
                go_wp2_with fail
                go_quiet ((go_at_call 65; exact (htop.out _ (below_drawn hb1.out _)).mono fun e w' h => ⟨h.1, _, h.2.symm⟩))
                have he := (hL.below hb1.out).e3
                simp only [errV] at he
                go_wp2_with fail
                go_ret
                exact ⟨_, rfl, by rw [hr.out]; exact .inr ⟨_, rfl, by omega, by rw [cell_drawn_new]; rfl, by rw [cell_drawn_new]; rfl⟩, (below_drawn hb1.out _).alloc hb1.out.size _⟩
              · subst hz
                obtain ⟨b', o', hbo, hp0, _⟩ := hc.out q hq
                cases hbo
                have hp0 := cell_below hK.out hp0
                have hk3 : (q : Int) < (L.length : Int) := by omega
                have hk4 : (0 : Int) ≤ (q : Int) := by omega
                have hle : Op.bytesLess (bs L[q + 1].who).toList (bs L[q].who).toList = false := by rw [bs_less]; exact decide_eq_false (fun h => List.lt_irrefl _ (List.lt_trans h hlt2))
                have hle2 : ((bs L[q + 1].who).toList == (bs L[q].who).toList) = false := by rw [bs_same]; exact decide_eq_false (fun h => by rw [h] at hlt2; exact List.lt_irrefl _ hlt2)
                clear hlt2
                go_wp2_with fail
                refine hri.out.mono ?_
                rintro e w1 ⟨rfl, hb1⟩
                have hd0 := cell_below hb1 (show (wr.alloc (.cells #[.string (bs L[q + 1].who), .int .i64 L[q + 1].ep] 113)).cell? ⟨wr.heap.size, 0, none⟩ = some (.string (bs L[q + 1].who)) by simp)
                have hd1 := cell_below hb1 (show (wr.alloc (.cells #[.string (bs L[q + 1].who), .int .i64 L[q + 1].ep] 113)).cell? ⟨wr.heap.size, 1, none⟩ = some (.int .i64 L[q + 1].ep) by simp)
                have hp1 := cell_below hb1 ((World.cell?_alloc_lt _ _ _ (World.block_lt_of_cell? wr _ hp0)).trans hp0)
                have hb1 := Lib.hid (hB.trans (hb1.mono hB.size))
                go_wp2_with fail
                go_quiet (fail)
                go_wp2_with fail
                go_quiet ((go_at_call 65; exact (htop.out _ (below_drawn hb1.out _)).mono fun e w' h => ⟨h.1, _, h.2.symm⟩))
                have he := (hL.below hb1.out).e3
                simp only [errV] at he
                go_wp2_with fail
                go_ret
                exact ⟨_, rfl, by rw [hr.out]; exact .inr ⟨_, rfl, by omega, by rw [cell_drawn_new]; rfl, by rw [cell_drawn_new]; rfl⟩, (below_drawn hb1.out _).alloc hb1.out.size _⟩
            · have h0 : errAtF L j = 0 := by rw [hat.out, hlast, if_neg (fun h => hlow h.2)]
              have hall2 := Lib.hid (hnext.out h0)
              clear hlast hst hs h0 ho2
              generalize topF L = tp at *
              have hlow2 : decide (L[j].ep ≤ tp) = false := decide_eq_false hlow
              clear hlow
              rcases hstep with hz | ⟨hz, hq, hlt2⟩
              · subst hz
                simp only [Nat.zero_mul, Nat.add_zero] at hc0 hc1
                go_wp2_with fail
                refine hri.out.mono ?_
                rintro e w1 ⟨rfl, hb1⟩
                have hd0 := cell_below hb1 (show (wr.alloc (.cells #[.string (bs L[0].who), .int .i64 L[0].ep] 113)).cell? ⟨wr.heap.size, 0, none⟩ = some (.string (bs L[0].who)) by simp)
                have hd1 := cell_below hb1 (show (wr.alloc (.cells #[.string (bs L[0].who), .int .i64 L[0].ep] 113)).cell? ⟨wr.heap.size, 1, none⟩ = some (.int .i64 L[0].ep) by simp)
                have hb1 := Lib.hid (hB.trans (hb1.mono hB.size))
                go_wp2_with fail
                go_quiet (fail)
                go_wp2_with fail
                go_quiet ((go_at_call 65; exact (htop.out _ (below_drawn hb1.out _)).mono fun e w' h => ⟨h.1, _, h.2.symm⟩))
                go_wp2_with fail
                go_roundg (L.length - (0))
                case measure => omega
                case rel => exact ⟨1, by simp, hlt, by omega, hall2, Lib.hid (below_drawn hb1.out _)⟩
              · subst hz
                obtain ⟨b', o', hbo, hp0, _⟩ := hc.out q hq
                cases hbo
                have hp0 := cell_below hK.out hp0
                have hk3 : (q : Int) < (L.length : Int) := by omega
                have hk4 : (0 : Int) ≤ (q : Int) := by omega
                have hle : Op.bytesLess (bs L[q + 1].who).toList (bs L[q].who).toList = false := by rw [bs_less]; exact decide_eq_false (fun h => List.lt_irrefl _ (List.lt_trans h hlt2))
                have hle2 : ((bs L[q + 1].who).toList == (bs L[q].who).toList) = false := by rw [bs_same]; exact decide_eq_false (fun h => by rw [h] at hlt2; exact List.lt_irrefl _ hlt2)
                clear hlt2
                go_wp2_with fail
                refine hri.out.mono ?_
                rintro e w1 ⟨rfl, hb1⟩
                have hd0 := cell_below hb1 (show (wr.alloc (.cells #[.string (bs L[q + 1].who), .int .i64 L[q + 1].ep] 113)).cell? ⟨wr.heap.size, 0, none⟩ = some (.string (bs L[q + 1].who)) by simp)
                have hd1 := cell_below hb1 (show (wr.alloc (.cells #[.string (bs L[q + 1].who), .int .i64 L[q + 1].ep] 113)).cell? ⟨wr.heap.size, 1, none⟩ = some (.int .i64 L[q + 1].ep) by simp)
                have hp1 := cell_below hb1 ((World.cell?_alloc_lt _ _ _ (World.block_lt_of_cell? wr _ hp0)).trans hp0)
                have hb1 := Lib.hid (hB.trans (hb1.mono hB.size))
                go_wp2_with fail
                go_quiet (fail)
                go_wp2_with fail
                go_quiet ((go_at_call 65; exact (htop.out _ (below_drawn hb1.out _)).mono fun e w' h => ⟨h.1, _, h.2.symm⟩))
                go_wp2_with fail
                go_roundg (L.length - (q + 1))
                case measure => omega
                case rel => exact ⟨q + 1 + 1, by simp, hlt, by omega, hall2, Lib.hid (below_drawn hb1.out _)⟩
    · have hr := Lib.hid (show checkF L = (0, -1) from checkF_none (by omega) fun i hi => hall.out i (by omega))
      have hge : ¬ ((j : Int) < (L.length : Int)) := by omega
      go_wp2_with fail
      go_ret
      exact ⟨_, rfl, by rw [hr.out]; exact ErrAt.bare 0, hK.out⟩
end Go.Proofs.YtkhphdkjnpcnnaaGreatDoor

/- Package feed: right, Check, Bare: walked. -/
namespace Go.Proofs.YtkhphdkjnpcnnaaGreatDoor
open Go.RowKit

theorem ent_cases {was : Int} {i : Nat} {s t : Int} {who : List UInt8} {ep : Int} :
    (s ≠ (i : Int) + 1 ∧ entErr was i ⟨s, t, ⟨who, ep⟩⟩ = 15) ∨ (s = (i : Int) + 1 ∧ t < 0 ∧ entErr was i ⟨s, t, ⟨who, ep⟩⟩ = 2) ∨ (s = (i : Int) + 1 ∧ 0 ≤ t ∧ 1000000 < t ∧ entErr was i ⟨s, t, ⟨who, ep⟩⟩ = 2) ∨
    (s = (i : Int) + 1 ∧ 0 ≤ t ∧ t ≤ 1000000 ∧ t < was ∧ entErr was i ⟨s, t, ⟨who, ep⟩⟩ = 8) ∨ (s = (i : Int) + 1 ∧ 0 ≤ t ∧ t ≤ 1000000 ∧ was ≤ t ∧ entErr was i ⟨s, t, ⟨who, ep⟩⟩ = oneF ⟨who, ep⟩) := by
  unfold entErr
  dsimp only
  by_cases h1 : s = (i : Int) + 1
  · rw [if_neg (by simpa using h1)]
    by_cases h2 : t < 0
    · rw [if_pos (.inl h2)]; exact .inr (.inl ⟨h1, h2, rfl⟩)
    by_cases h3 : 1000000 < t
    · rw [if_pos (.inr h3)]; exact .inr (.inr (.inl ⟨h1, by omega, h3, rfl⟩))
    rw [if_neg (by omega)]
    by_cases h4 : t < was
    · rw [if_pos h4]; exact .inr (.inr (.inr (.inl ⟨h1, by omega, by omega, h4, rfl⟩)))
    · rw [if_neg h4]; exact .inr (.inr (.inr (.inr ⟨h1, by omega, by omega, by omega, rfl⟩)))
  · rw [if_pos h1]; exact .inl ⟨h1, rfl⟩
theorem one_cases {who : List UInt8} {ep : Int} :
    (who = starW ∧ ((1 ≤ ep ∧ ep ≤ 1073741824 ∧ oneF ⟨who, ep⟩ = 0) ∨ (ep < 1 ∧ oneF ⟨who, ep⟩ = 2) ∨ (1 ≤ ep ∧ 1073741824 < ep ∧ oneF ⟨who, ep⟩ = 2))) ∨
    (who ≠ starW ∧ ((isName who = false ∧ oneF ⟨who, ep⟩ = 4) ∨ (isName who = true ∧ ((1 ≤ ep ∧ ep ≤ 1073741824 ∧ oneF ⟨who, ep⟩ = 0) ∨ (ep < 1 ∧ oneF ⟨who, ep⟩ = 2) ∨ (1 ≤ ep ∧ 1073741824 < ep ∧ oneF ⟨who, ep⟩ = 2))))) := by
  unfold oneF
  dsimp only
  by_cases hs : who = starW
  · rw [if_neg (fun h => h.1 hs)]
    refine .inl ⟨hs, ?_⟩
    by_cases h1 : 1 ≤ ep
    · by_cases h2 : ep ≤ 1073741824
      · rw [if_pos ⟨h1, h2⟩]; exact .inl ⟨h1, h2, rfl⟩
      · rw [if_neg (fun h => h2 h.2)]; exact .inr (.inr ⟨h1, by omega, rfl⟩)
    · rw [if_neg (fun h => h1 h.1)]; exact .inr (.inl ⟨by omega, rfl⟩)
  · refine .inr ⟨hs, ?_⟩
    cases hn : isName who with
    | false => rw [if_pos ⟨hs, rfl⟩]; exact .inl ⟨rfl, rfl⟩
    | true =>
      rw [if_neg (fun h => by have := h.2; cases this)]
      refine .inr ⟨rfl, ?_⟩
      by_cases h1 : 1 ≤ ep
      · by_cases h2 : ep ≤ 1073741824
        · rw [if_pos ⟨h1, h2⟩]; exact .inl ⟨h1, h2, rfl⟩
        · rw [if_neg (fun h => h2 h.2)]; exact .inr (.inr ⟨h1, by omega, rfl⟩)
      · rw [if_neg (fun h => h1 h.1)]; exact .inr (.inl ⟨by omega, rfl⟩)
set_option maxHeartbeats 4000000 in
set_option maxRecDepth 100000 in
theorem right_ent {E : Nat → Addr} (v : Value) (L : List Ent) (i : Nat) (w : World) (hL : Laid E w) (hv : EntsAt w v L) (hi : i < L.length) (hm : (L.getD i noEnt).f.who.length ≤ maxLen) :
    Calls Tryz.prog 102 #[v, .int .i64 i] w fun e w' => e = .returned (errV E (errAtE L i)) ∧ Below w.heap.size w w' := by
  obtain ⟨a, c, rfl, hlen, _, hc⟩ := hv.get
  unfold maxLen at hlen
  obtain ⟨b, o, rfl, d0, d1, d2, d3⟩ := hc i hi
  have hat : errAtE L i = entErr (wasE L i) i L[i] := by unfold errAtE; rw [getD_get hi]
  rw [getD_get hi] at hm
  have hprev : i = 0 ∨ ∃ q, i = q + 1 ∧ w.cell? ⟨b, o + q * 4 + 1, none⟩ = some (.int .i64 (wasE L i)) := by
    cases i with
    | zero => exact .inl rfl
    | succ q =>
      refine .inr ⟨q, rfl, ?_⟩
      obtain ⟨b', o', hbo, _, p1, _⟩ := hc q (by omega)
      cases hbo
      rw [p1]
      unfold wasE
      rw [if_neg (by omega), Nat.add_sub_cancel, getD_get (by omega)]
  have hw0 : i = 0 → wasE L i = 0 := fun h => by unfold wasE; rw [if_pos h]
  generalize wasE L i = was at *
  obtain ⟨en, hen⟩ : ∃ en, L[i] = en := ⟨_, rfl⟩
  rw [hen] at d0 d1 d2 d3 hat hm
  obtain ⟨s, t, ⟨who, ep⟩⟩ := en
  dsimp only at d0 d1 d2 d3 hm
  clear hc hv hen
  have hB : Below w.heap.size w (w.alloc (.cells #[.int .i64 s, .int .i64 t, .string (bs who), .int .i64 ep] 115)) := (Below.refl _ _).alloc (Nat.le_refl _) _
  have hL1 := Lib.hid (hL.below hB)
  have hBH := Lib.hid hB
  have hLH := Lib.hid hL
  have hnm := Lib.hid (fun wx => name_any (bs who) wx (by rw [bs_size]; exact hm))
  have hk0 : (0 : Int) ≤ (i : Int) := by omega
  have hk1 : (i : Int) < (L.length : Int) := by omega
  clear hB hL
  rcases ent_cases (was := was) (i := i) (s := s) (t := t) (who := who) (ep := ep) with ⟨h1, he⟩ | ⟨h1, h2, he⟩ | ⟨h1, h2, h3, he⟩ | ⟨h1, h2, h3, h4, he⟩ | ⟨h1, h2, h3, h4, he⟩
  · have hr := Lib.hid (hat.trans he)
    have hb1 : (s != (i : Int) + 1) = true := bne_iff_ne.2 h1
    have hx := hL1.out.e15
    clear hat he h1 hw0 hprev
    go_enter Tryz.func102, Tryz.ntmps102
    go_wp2_with fail
    go_ret
    exact ⟨by rw [hr.out]; rfl, hBH.out⟩
  · have hr := Lib.hid (hat.trans he)
    have hb1 : (s != (i : Int) + 1) = false := by rw [h1]; exact bne_self_eq_false _
    have hx := hL1.out.e2
    clear hat he h1 hw0 hprev
    go_enter Tryz.func102, Tryz.ntmps102
    go_wp2_with fail
    go_ret
    exact ⟨by rw [hr.out]; rfl, hBH.out⟩
  · have hr := Lib.hid (hat.trans he)
    have hb1 : (s != (i : Int) + 1) = false := by rw [h1]; exact bne_self_eq_false _
    have hx := hL1.out.e2
    clear hat he h1 hw0 hprev
    go_enter Tryz.func102, Tryz.ntmps102
    go_wp2_with fail
    go_ret
    exact ⟨by rw [hr.out]; rfl, hBH.out⟩
  · have hr := Lib.hid (hat.trans he)
    have hb1 : (s != (i : Int) + 1) = false := by rw [h1]; exact bne_self_eq_false _
    rcases hprev with h0 | ⟨q, hq, p1⟩
    · have := hw0 h0; omega
    subst hq
    have hd0 := World.cell?_alloc_lt w (.cells #[.int .i64 s, .int .i64 t, .string (bs who), .int .i64 ep] 115) ⟨b, o + q * 4 + 1, none⟩ (World.block_lt_of_cell? w _ p1)
    have p1 := hd0.trans p1
    have hq0 : (0 : Int) ≤ (q : Int) := by omega
    have hq1 : (q : Int) < (L.length : Int) := by omega
    have hx := hL1.out.e8
    simp only [errV] at hx
    have hbd := Lib.hid (fun n => below_drawn hBH.out n)
    clear hat he h1 hw0 hd0
    go_enter Tryz.func102, Tryz.ntmps102
    go_wp2_with fail
    go_quiet (fail)
    go_wp2_with fail
    go_ret
    exact ⟨by rw [hr.out]; rfl, hbd.out _⟩
  have hb1 : (s != (i : Int) + 1) = false := by rw [h1]; exact bne_self_eq_false _
  have hat := Lib.hid (hat.trans he)
  have c0 : (w.alloc (.cells #[.int .i64 s, .int .i64 t, .string (bs who), .int .i64 ep] 115)).cell? ⟨w.heap.size, 1, none⟩ = some (.int .i64 t) := by simp
  have hbd := Lib.hid (fun n => below_drawn hBH.out n)
  have hbox3 := Lib.hid (fun n => (show ((w.alloc (.cells #[.int .i64 s, .int .i64 t, .string (bs who), .int .i64 ep] 115)).drewN n).cell? ⟨w.heap.size, 3, none⟩ = some (.int .i64 ep) by simp))
  clear he h1
  rcases hprev with h0 | ⟨q, hq, p1⟩
  · subst h0
    have hb1 : (s != (1 : Int)) = false := hb1
    simp only [Nat.zero_mul, Nat.add_zero] at d0 d1 d2 d3
    clear hw0 h4
    rcases one_cases (who := who) (ep := ep) with ⟨hs, x⟩ | ⟨hs, x⟩
    · have e1 : ((bs who).toList == [42]) = true := by rw [hs, toList_data]; rfl
      clear hs
      rcases x with ⟨x1, x2, x3⟩ | ⟨x1, x3⟩ | ⟨x1, x2, x3⟩
      all_goals
        have hr := Lib.hid (hat.out.trans x3)
        have hx := hL1.out.e2
        clear x3
        go_enter Tryz.func102, Tryz.ntmps102
        go_wp2_with fail
        go_quiet (fail)
        go_wp2_with fail
        go_ret
        exact ⟨by rw [hr.out]; rfl, hbd.out _⟩
    · have e1 : ((bs who).toList == [42]) = false := by rw [toList_data, bs_list, beq_eq_false_iff_ne]; exact hs
      have e2 : ((bs who).toList != [42]) = true := by rw [bne, e1]; rfl
      clear hs
      rcases x with ⟨ha, x3⟩ | ⟨ha, x⟩
      · have hr := Lib.hid (hat.out.trans x3)
        have ha2 := Lib.hid (show isName (bs who).data.toList = false from ha)
        clear ha x3
        go_enter Tryz.func102, Tryz.ntmps102
        go_wp2_with fail
        go_quiet (fail)
        go_wp2_with fail
        refine (hnm.out _).mono ?_
        rintro e w1 ⟨rfl, hb⟩
        rw [ha2.out]
        have hb := Lib.hid (below_trans (hbd.out _) hb)
        have hx := (hLH.out.below hb.out).e4
        clear c0
        go_wp2_with fail
        go_ret
        exact ⟨by rw [hr.out]; rfl, hb.out⟩
      · have ha2 := Lib.hid (show isName (bs who).data.toList = true from ha)
        clear ha
        rcases x with ⟨x1, x2, x3⟩ | ⟨x1, x3⟩ | ⟨x1, x2, x3⟩
        all_goals
          have hr := Lib.hid (hat.out.trans x3)
          clear x3
          go_enter Tryz.func102, Tryz.ntmps102
          go_wp2_with fail
          go_quiet (fail)
          go_wp2_with fail
          refine (hnm.out _).mono ?_
          rintro e w1 ⟨rfl, hb⟩
          rw [ha2.out]
          have c3 := cell_below hb (show _ = some (Value.int .i64 ep) from hbox3.out _)
          have hb := Lib.hid (below_trans (hbd.out _) hb)
          have hx := (hLH.out.below hb.out).e2
          clear c0
          go_wp2_with fail
          go_ret
          exact ⟨by rw [hr.out]; rfl, hb.out⟩
  · subst hq
    have hd0 := World.cell?_alloc_lt w (.cells #[.int .i64 s, .int .i64 t, .string (bs who), .int .i64 ep] 115) ⟨b, o + q * 4 + 1, none⟩ (World.block_lt_of_cell? w _ p1)
    have p1 := hd0.trans p1
    have hq0 : (0 : Int) ≤ (q : Int) := by omega
    have hq1 : (q : Int) < (L.length : Int) := by omega
    have h4b : ¬ t < was := by omega
    clear hw0 hd0
    rcases one_cases (who := who) (ep := ep) with ⟨hs, x⟩ | ⟨hs, x⟩
    · have e1 : ((bs who).toList == [42]) = true := by rw [hs, toList_data]; rfl
      clear hs
      rcases x with ⟨x1, x2, x3⟩ | ⟨x1, x3⟩ | ⟨x1, x2, x3⟩
      all_goals
        have hr := Lib.hid (hat.out.trans x3)
        have hx := hL1.out.e2
        clear x3
        go_enter Tryz.func102, Tryz.ntmps102
        go_wp2_with fail
        go_quiet (fail)
        go_wp2_with fail
        go_ret
        exact ⟨by rw [hr.out]; rfl, hbd.out _⟩
    · have e1 : ((bs who).toList == [42]) = false := by rw [toList_data, bs_list, beq_eq_false_iff_ne]; exact hs
      have e2 : ((bs who).toList != [42]) = true := by rw [bne, e1]; rfl
      clear hs
      rcases x with ⟨ha, x3⟩ | ⟨ha, x⟩
      · have hr := Lib.hid (hat.out.trans x3)
        have ha2 := Lib.hid (show isName (bs who).data.toList = false from ha)
        clear ha x3
        go_enter Tryz.func102, Tryz.ntmps102
        go_wp2_with fail
        go_quiet (fail)
        go_wp2_with fail
        refine (hnm.out _).mono ?_
        rintro e w1 ⟨rfl, hb⟩
        rw [ha2.out]
        have hb := Lib.hid (below_trans (hbd.out _) hb)
        have hx := (hLH.out.below hb.out).e4
        clear c0
        go_wp2_with fail
        go_ret
        exact ⟨by rw [hr.out]; rfl, hb.out⟩
      · have ha2 := Lib.hid (show isName (bs who).data.toList = true from ha)
        clear ha
        rcases x with ⟨x1, x2, x3⟩ | ⟨x1, x3⟩ | ⟨x1, x2, x3⟩
        all_goals
          have hr := Lib.hid (hat.out.trans x3)
          clear x3
          go_enter Tryz.func102, Tryz.ntmps102
          go_wp2_with fail
          go_quiet (fail)
          go_wp2_with fail
          refine (hnm.out _).mono ?_
          rintro e w1 ⟨rfl, hb⟩
          rw [ha2.out]
          have c3 := cell_below hb (show _ = some (Value.int .i64 ep) from hbox3.out _)
          have hb := Lib.hid (below_trans (hbd.out _) hb)
          have hx := (hLH.out.below hb.out).e2
          clear c0
          go_wp2_with fail
          go_ret
          exact ⟨by rw [hr.out]; rfl, hb.out⟩
end Go.Proofs.YtkhphdkjnpcnnaaGreatDoor
