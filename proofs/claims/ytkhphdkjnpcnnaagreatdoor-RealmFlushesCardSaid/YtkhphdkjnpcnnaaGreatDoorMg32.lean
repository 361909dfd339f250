/- RefE1, RaiP -/
import Derived.Test.YtkhphdkjnpcnnaaGreatDoorMg31
import Derived.Test.YtkhphdkjnpcnnaaGreatDoorMg22
import Derived.Test.YtkhphdkjnpcnnaaGreatDoorMg2
/- The reference's feeds: entryError, FeedFault: walked. -/
namespace Go.Proofs.YtkhphdkjnpcnnaaGreatDoor
open Go.RowKit

set_option maxHeartbeats 1000000 in
set_option maxRecDepth 100000 in
theorem entR_any (en : Ent) (i : Nat) (was : Int) (w : World) (hl : en.f.who.length ≤ maxLen) (hi : i ≤ 1000) :
    Calls Tryz.prog 163 #[en.val, .int .i64 i, .int .i64 was] w fun e w' => e = .returned (.int .i64 (entErr was i en : Nat)) ∧ Below w.heap.size w w' := by
  obtain ⟨s, t, ⟨who, ep⟩⟩ := en
  dsimp only [Ent.val] at *
  have hBH := Lib.hid (show Below w.heap.size w (w.alloc (.cells #[.int .i64 s, .int .i64 t, .string (bs who), .int .i64 ep] 115)) from (Below.refl _ _).alloc (Nat.le_refl _) _)
  have hon := Lib.hid (fun wx => (show Calls Tryz.prog 165 #[.agg #[.string (bs who), .int .i64 ep]] wx _ from oneR_flo ⟨who, ep⟩ wx hl))
  have hb1 : (s != (i : Int) + 1) = true ∨ s = (i : Int) + 1 := by
    by_cases h : s = (i : Int) + 1
    · exact .inr h
    · exact .inl (bne_iff_ne.2 h)
  rcases ent_cases (was := was) (i := i) (s := s) (t := t) (who := who) (ep := ep) with ⟨h1, he⟩ | ⟨h1, h2, he⟩ | ⟨h1, h2, h3, he⟩ | ⟨h1, h2, h3, h4, he⟩ | ⟨h1, h2, h3, h4, he⟩
  · have hr := Lib.hid he
    have hb1 : (s != (i : Int) + 1) = true := bne_iff_ne.2 h1
    clear he h1
    go_enter Tryz.func163, Tryz.ntmps163
    go_wp2_with fail
    go_ret
    exact ⟨by rw [hr.out]; rfl, hBH.out⟩
  · have hr := Lib.hid he
    have hb1 : (s != (i : Int) + 1) = false := by rw [h1]; exact bne_self_eq_false _
    clear he h1
    go_enter Tryz.func163, Tryz.ntmps163
    go_wp2_with fail
    go_ret
    exact ⟨by rw [hr.out]; rfl, hBH.out⟩
  · have hr := Lib.hid he
    have hb1 : (s != (i : Int) + 1) = false := by rw [h1]; exact bne_self_eq_false _
    clear he h1
    go_enter Tryz.func163, Tryz.ntmps163
    go_wp2_with fail
    go_ret
    exact ⟨by rw [hr.out]; rfl, hBH.out⟩
  · have hr := Lib.hid he
    have hb1 : (s != (i : Int) + 1) = false := by rw [h1]; exact bne_self_eq_false _
    clear he h1
    go_enter Tryz.func163, Tryz.ntmps163
    go_wp2_with fail
    go_ret
    exact ⟨by rw [hr.out]; rfl, hBH.out⟩
  · have hr := Lib.hid he
    have hb1 : (s != (i : Int) + 1) = false := by rw [h1]; exact bne_self_eq_false _
    generalize oneF ⟨who, ep⟩ = r at *
    clear he h1
    go_enter Tryz.func163, Tryz.ntmps163
    go_wp2_with fail
    refine (hon.out _).mono ?_
    rintro e w1 ⟨rfl, hb2⟩
    have hfin := Lib.hid (below_trans hBH.out hb2)
    clear hb2
    go_wp2_with fail
    go_ret
    exact ⟨ret_int (by rw [hr.out]), hfin.out⟩
theorem wasE_next {L : List Ent} {j : Nat} (h : j < L.length) : wasE L (j + 1) = L[j].time := by
  unfold wasE
  rw [if_neg (by omega), Nat.add_sub_cancel, getD_get h]
set_option maxHeartbeats 4000000 in
set_option maxRecDepth 100000 in
theorem feedFaultR_any (v : Value) (L : List Ent) (w : World) (hv : EntsAt w v L) (hm : ∀ e ∈ L, e.f.who.length ≤ maxLen) :
    Calls Tryz.prog 128 #[v] w fun e w' => e = .returned (faultF (checkE L).1 (checkE L).2) ∧ Below w.heap.size w w' := by
  have hB0 : FBox w (w.alloc (.cells #[.int .i64 0, .int .i64 0] 98)) := ⟨heap_alloc_new w _, (Below.refl _ _).alloc (Nat.le_refl _) _⟩
  obtain ⟨a, c, rfl, hlen, _, hc⟩ := EntsAt.get hv
  unfold maxLen at hlen
  clear hv
  by_cases h60 : 60 < L.length
  · have hr := Lib.hid (checkE_full h60)
    have h60' : (60 : Int) < (L.length : Int) := by omega
    have hba := Lib.hid (bareF_any 7 (w.alloc (.cells #[.int .i64 0, .int .i64 0] 98)))
    have hB0 := Lib.hid hB0
    clear hc
    go_enter Tryz.func128, Tryz.ntmps128
    go_wp2_with fail
    refine hba.out.mono ?_
    rintro e w1 ⟨rfl, hb1⟩
    have hB1 := hB0.out.below hb1
    obtain ⟨⟨r0, r1⟩, f0, f1⟩ := hB1.cells
    obtain ⟨⟨q0, q1⟩, hfin⟩ := hB1.set (.int .i64 7) (.int .i64 (-1))
    have hfin := Lib.hid hfin
    have hq := Lib.hid (And.intro q0 q1)
    clear q0 q1 hb1 hB1
    go_wp2_with fail
    obtain ⟨q0, q1⟩ := hq.out
    exact bodyPost_ret (v := .agg #[.int .i64 7, .int .i64 (-1)]) (by simp [results, Tryz.results128, go_sem, q0, q1]) rfl ⟨by rw [hr.out]; rfl, hfin.out⟩
  have h60' : ¬ (60 : Int) < (L.length : Int) := by omega
  have hc := Lib.hid hc
  have hm := Lib.hid hm
  have hB0 := Lib.hid hB0
  have hw0 := Lib.hid (show wasE L 0 = 0 by unfold wasE; rw [if_pos rfl])
  go_enter Tryz.func128, Tryz.ntmps128
  go_wp2_with fail
  go_loopg [3, 4] (L.length + 1) (fun g x i wr => ∃ j : Nat, i = .int .i64 j ∧ x = .int .i64 (wasE L j) ∧ j ≤ L.length ∧ L.length - j + 1 ≤ g ∧ Hid (∀ i, i < j → errAtE L i = 0) ∧ Hid (FBox w wr))
  case atStart => exact ⟨0, rfl, by rw [hw0.out], Nat.zero_le _, by omega, Lib.hid (fun _ h => absurd h (Nat.not_lt_zero _)), hB0⟩
  case round =>
    obtain ⟨j, rfl, rfl, hj, hgj, hall, hK⟩ := hrel
    by_cases hlt : j < L.length
    · obtain ⟨b, o, rfl, d0, d1, d2, d3⟩ := hc.out j hlt
      have d0 := cell_below hK.out.2 d0
      have d1 := cell_below hK.out.2 d1
      have d2 := cell_below hK.out.2 d2
      have d3 := cell_below hK.out.2 d3
      have hk0 : (0 : Int) ≤ (j : Int) := by omega
      have hk1 : (j : Int) < (L.length : Int) := by omega
      have hri := Lib.hid (entR_any L[j] j (wasE L j) wr (hm.out _ (List.getElem_mem hlt)) (by omega))
      have hat := Lib.hid (show errAtE L j = entErr (wasE L j) j L[j] by unfold errAtE; rw [getD_get hlt])
      have hbad := Lib.hid (fun (hb : errAtE L j ≠ 0) => checkE_some (by omega) j hlt hb hall.out)
      have hnx := Lib.hid (wasE_next hlt)
      have hnext := Lib.hid (show errAtE L j = 0 → ∀ i, i < j + 1 → errAtE L i = 0 from fun hb i hi => by
        rcases Nat.lt_succ_iff_lt_or_eq.1 hi with h' | rfl
        · exact hall.out i h'
        · exact hb)
      rw [← hat.out] at hri
      generalize wasE L j = was at *
      generalize errAtE L j = cd at *
      obtain ⟨en, hen⟩ : ∃ en, L[j] = en := ⟨_, rfl⟩
      rw [hen] at d0 d1 d2 d3 hri hnx
      clear hen hat
      obtain ⟨s, t, ⟨who, ep⟩⟩ := en
      dsimp only [Ent.val] at d0 d1 d2 d3 hri hnx
      cases cd with
      | succ cd =>
        have hr := Lib.hid (hbad.out (Nat.succ_ne_zero _))
        have hz1 : (0 : Int) < ((cd + 1 : Nat) : Int) := by omega
        generalize hzd : ((cd + 1 : Nat) : Int) = z at hri hz1
        have hzd := Lib.hid hzd
        clear hbad hnext hnx
        go_wp2_with fail
        refine hri.out.mono ?_
        rintro e w1 ⟨rfl, hb1⟩
        have hB1 := hK.out.below hb1
        obtain ⟨⟨r0, r1⟩, f0, f1⟩ := hB1.cells
        have hBd := Lib.hid (hB1.set (.int .i64 z) (.int .i64 (j : Int)))
        clear hb1 hB1 d0 d1 d2 d3
        go_wp2_with fail
        exact bodyPost_ret (v := .agg #[.int .i64 z, .int .i64 (j : Int)]) (by simp [results, Tryz.results128, go_sem, hBd.out.1]) rfl ⟨by rw [hr.out]; unfold faultF; rw [← hzd.out], hBd.out.2⟩
      | zero =>
        have hall2 := Lib.hid (hnext.out rfl)
        have hri := hri.out
        rw [show ((0 : Nat) : Int) = 0 from rfl] at hri
        have hri := Lib.hid hri
        clear hbad hnext
        go_wp2_with fail
        refine hri.out.mono ?_
        rintro e w1 ⟨rfl, hb1⟩
        have d1 := cell_below hb1 d1
        have hB1 := Lib.hid (hK.out.below hb1)
        clear hb1 d0 d2 d3
        go_wp2_with fail
        go_roundg (L.length - j)
        case measure => omega
        case rel => exact ⟨j + 1, by simp, by rw [hnx.out], hlt, by omega, hall2, hB1⟩
    · have hr := Lib.hid (show checkE L = (0, -1) from checkE_none (by omega) fun i hi => hall.out i (by omega))
      have hge : ¬ ((j : Int) < (L.length : Int)) := by omega
      have hfi := Lib.hid (fineF_any wr)
      go_wp2_with fail
      refine hfi.out.mono ?_
      rintro e w1 ⟨rfl, hb1⟩
      have hB1 := hK.out.below hb1
      obtain ⟨⟨r0, r1⟩, f0, f1⟩ := hB1.cells
      obtain ⟨⟨q0, q1⟩, hfin⟩ := hB1.set (.int .i64 0) (.int .i64 (-1))
      have hfin := Lib.hid hfin
      have hq := Lib.hid (And.intro q0 q1)
      clear q0 q1 hb1 hB1
      go_wp2_with fail
      obtain ⟨q0, q1⟩ := hq.out
      exact bodyPost_ret (v := .agg #[.int .i64 0, .int .i64 (-1)]) (by simp [results, Tryz.results128, go_sem, q0, q1]) rfl ⟨by rw [hr.out]; rfl, hfin.out⟩
end Go.Proofs.YtkhphdkjnpcnnaaGreatDoor

/- Floors raised by one walk over them, as the document does it: no program in sight. -/
namespace Go.Proofs.YtkhphdkjnpcnnaaGreatDoor

def stepR (f : Flo) (s : List Flo × Bool) (g : Flo) : List Flo × Bool :=
  (if keepF f g = true then (if (decide (f.who < g.who) && !s.2) = true then s.1 ++ [f] else s.1) ++ [g] else (if (decide (f.who < g.who) && !s.2) = true then s.1 ++ [f] else s.1), (decide (f.who < g.who) && !s.2) || s.2)
def accR (f : Flo) (L : List Flo) : List Flo × Bool := L.foldl (stepR f) ([], false)
def endR (f : Flo) (s : List Flo × Bool) : List Flo := if s.2 = true then s.1 else s.1 ++ [f]
theorem accR_snoc (f : Flo) {L : List Flo} {j : Nat} (h : j < L.length) : accR f (L.take (j + 1)) = stepR f (accR f (L.take j)) L[j] := by
  unfold accR
  rw [List.take_add_one, List.getElem?_eq_getElem h, Option.toList_some, List.foldl_append]
  rfl
theorem stepR_len (f : Flo) (s : List Flo × Bool) (g : Flo) : (stepR f s g).1.length ≤ s.1.length + 2 := by
  unfold stepR
  dsimp only
  split <;> split <;> simp
theorem foldR2_len (f : Flo) : ∀ (L : List Flo) (s : List Flo × Bool), (L.foldl (stepR f) s).1.length ≤ s.1.length + 2 * L.length
  | [], s => by simp
  | g :: L, s => by
    have h1 := foldR2_len f L (stepR f s g)
    have h2 := stepR_len f s g
    rw [List.foldl_cons, List.length_cons]
    omega
theorem accR_len (f : Flo) (L : List Flo) : (accR f L).1.length ≤ 2 * L.length := by
  have := foldR2_len f L ([], false)
  simpa [accR] using this
theorem fold_true (f : Flo) : ∀ (L out : List Flo), L.foldl (stepR f) (out, true) = (out ++ L.filter (keepF f), true)
  | [], out => by simp
  | g :: L, out => by
    have h1 : stepR f (out, true) g = (if keepF f g = true then out ++ [g] else out, true) := by
      unfold stepR
      simp
    rw [List.foldl_cons, h1, fold_true f L]
    by_cases hk : keepF f g = true
    · rw [if_pos hk, List.filter_cons_of_pos hk, List.append_assoc]; rfl
    · rw [if_neg hk, List.filter_cons_of_neg hk]
theorem ins_above {f : Flo} : ∀ {M : List Flo}, (∀ g ∈ M, ¬ g.who < f.who) → insF f M = f :: M
  | [], _ => rfl
  | g :: r, h => by
    unfold insF
    rw [if_neg (h g (by simp))]
theorem fold_end (f : Flo) : ∀ (L out : List Flo), L.Pairwise (fun f g => f.who < g.who) → endR f (L.foldl (stepR f) (out, false)) = out ++ insF f (L.filter (keepF f))
  | [], out, _ => by simp [endR, insF]
  | g :: L, out, hs => by
    have hs' := List.pairwise_cons.1 hs
    rw [List.foldl_cons]
    by_cases h : f.who < g.who
    · have h1 : stepR f (out, false) g = ((if keepF f g = true then (out ++ [f]) ++ [g] else out ++ [f]), true) := by
        unfold stepR
        simp [h]
      have h2 : insF f ((g :: L).filter (keepF f)) = f :: (g :: L).filter (keepF f) := ins_above fun x hx hlt => by
        rcases List.mem_cons.1 ((List.mem_filter.1 hx).1) with rfl | hm
        · exact List.lt_irrefl _ (List.lt_trans h hlt)
        · exact List.lt_irrefl _ (List.lt_trans (List.lt_trans h (hs'.1 x hm)) hlt)
      rw [h1, fold_true, h2]
      unfold endR
      rw [if_pos rfl]
      by_cases hk : keepF f g = true
      · rw [if_pos hk, List.filter_cons_of_pos hk]; simp
      · rw [if_neg hk, List.filter_cons_of_neg hk]; simp
    · have h1 : stepR f (out, false) g = ((if keepF f g = true then out ++ [g] else out), false) := by
        unfold stepR
        simp [h]
      rw [h1, fold_end f L _ hs'.2]
      by_cases hk : keepF f g = true
      · rw [if_pos hk, List.filter_cons_of_pos hk]
        have hlt : g.who < f.who := lt_total h (fun e => ((keepF_iff f g).1 hk).1 e.symm)
        rw [show insF f (g :: L.filter (keepF f)) = g :: insF f (L.filter (keepF f)) by conv => lhs; unfold insF; rw [if_pos hlt]]
        simp
      · rw [if_neg hk, List.filter_cons_of_neg hk]
theorem acc_up {L : List Flo} {f : Flo} (h : Good0 L) (hn : ¬ f.ep ≤ ofF L f.who) : endR f (accR f L) = upF L f := by
  unfold upF accR
  rw [if_neg hn, fold_end f L [] h.sorted]
  rfl
end Go.Proofs.YtkhphdkjnpcnnaaGreatDoor
