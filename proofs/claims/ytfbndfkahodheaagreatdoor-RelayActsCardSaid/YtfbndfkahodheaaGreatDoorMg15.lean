/- RefE1, RaiP, FloD -/
import Derived.Test.YtfbndfkahodheaaGreatDoorMg14
import Derived.Test.YtfbndfkahodheaaGreatDoorMg10
import Derived.Test.YtfbndfkahodheaaGreatDoorMg6
import Derived.Test.YtfbndfkahodheaaGreatDoorMg9
import Derived.Laws.IdiomCopy
/- The reference's feeds: entryError, FeedFault: walked. -/
namespace Go.Proofs.YtfbndfkahodheaaGreatDoor
open Go.RowKit

set_option maxHeartbeats 1000000 in
set_option maxRecDepth 100000 in
theorem entR_any (en : Ent) (i : Nat) (was : Int) (w : World) (hl : en.f.who.length ≤ maxLen) (hi : i ≤ 1000) :
    Calls Tryz.prog 49 #[en.val, .int .i64 i, .int .i64 was] w fun e w' => e = .returned (.int .i64 (entErr was i en : Nat)) ∧ Below w.heap.size w w' := by
  obtain ⟨s, t, ⟨who, ep⟩⟩ := en
  dsimp only [Ent.val] at *
  have hBH := Lib.hid (show Below w.heap.size w (w.alloc (.cells #[.int .i64 s, .int .i64 t, .string (bs who), .int .i64 ep] 102)) from (Below.refl _ _).alloc (Nat.le_refl _) _)
  have hon := Lib.hid (fun wx => (show Calls Tryz.prog 78 #[.agg #[.string (bs who), .int .i64 ep]] wx _ from oneR_flo ⟨who, ep⟩ wx hl))
  have hb1 : (s != (i : Int) + 1) = true ∨ s = (i : Int) + 1 := by
    by_cases h : s = (i : Int) + 1
    · exact .inr h
    · exact .inl (bne_iff_ne.2 h)
  rcases ent_cases (was := was) (i := i) (s := s) (t := t) (who := who) (ep := ep) with ⟨h1, he⟩ | ⟨h1, h2, he⟩ | ⟨h1, h2, h3, he⟩ | ⟨h1, h2, h3, h4, he⟩ | ⟨h1, h2, h3, h4, he⟩
  · have hr := Lib.hid he
    have hb1 : (s != (i : Int) + 1) = true := bne_iff_ne.2 h1
    clear he h1
    go_enter Tryz.func49, Tryz.ntmps49
    go_wp2_with fail
    go_ret
    exact ⟨by rw [hr.out]; rfl, hBH.out⟩
  · have hr := Lib.hid he
    have hb1 : (s != (i : Int) + 1) = false := by rw [h1]; exact bne_self_eq_false _
    clear he h1
    go_enter Tryz.func49, Tryz.ntmps49
    go_wp2_with fail
    go_ret
    exact ⟨by rw [hr.out]; rfl, hBH.out⟩
  · have hr := Lib.hid he
    have hb1 : (s != (i : Int) + 1) = false := by rw [h1]; exact bne_self_eq_false _
    clear he h1
    go_enter Tryz.func49, Tryz.ntmps49
    go_wp2_with fail
    go_ret
    exact ⟨by rw [hr.out]; rfl, hBH.out⟩
  · have hr := Lib.hid he
    have hb1 : (s != (i : Int) + 1) = false := by rw [h1]; exact bne_self_eq_false _
    clear he h1
    go_enter Tryz.func49, Tryz.ntmps49
    go_wp2_with fail
    go_ret
    exact ⟨by rw [hr.out]; rfl, hBH.out⟩
  · have hr := Lib.hid he
    have hb1 : (s != (i : Int) + 1) = false := by rw [h1]; exact bne_self_eq_false _
    generalize oneF ⟨who, ep⟩ = r at *
    clear he h1
    go_enter Tryz.func49, Tryz.ntmps49
    go_wp2_with fail
    refine (hon.out _).mono ?_
    rintro e w1 ⟨rfl, hb2⟩
    have hfin := Lib.hid (below_trans hBH.out hb2)
    clear hb2
    go_wp2_with fail
    go_ret
    exact ⟨ret_int (by rw [hr.out]), hfin.out⟩
theorem wasE_next {L : List Ent} {j : Nat} (h : j < L.length) : wasE L (j + 1) = L[j].time := by
  unfold wasE
  rw [if_neg (by omega), Nat.add_sub_cancel, getD_get h]
set_option maxHeartbeats 4000000 in
set_option maxRecDepth 100000 in
theorem feedFaultR_any (v : Value) (L : List Ent) (w : World) (hv : EntsAt w v L) (hm : ∀ e ∈ L, e.f.who.length ≤ maxLen) :
    Calls Tryz.prog 11 #[v] w fun e w' => e = .returned (faultF (checkE L).1 (checkE L).2) ∧ Below w.heap.size w w' := by
  have hB0 : FBox w (w.alloc (.cells #[.int .i64 0, .int .i64 0] 33)) := ⟨heap_alloc_new w _, (Below.refl _ _).alloc (Nat.le_refl _) _⟩
  obtain ⟨a, c, rfl, hlen, _, hc⟩ := EntsAt.get hv
  unfold maxLen at hlen
  clear hv
  by_cases h60 : 60 < L.length
  · have hr := Lib.hid (checkE_full h60)
    have h60' : (60 : Int) < (L.length : Int) := by omega
    have hba := Lib.hid (bareF_any 7 (w.alloc (.cells #[.int .i64 0, .int .i64 0] 33)))
    have hB0 := Lib.hid hB0
    clear hc
    go_enter Tryz.func11, Tryz.ntmps11
    go_wp2_with fail
    refine hba.out.mono ?_
    rintro e w1 ⟨rfl, hb1⟩
    have hB1 := hB0.out.below hb1
    obtain ⟨⟨r0, r1⟩, f0, f1⟩ := hB1.cells
    obtain ⟨⟨q0, q1⟩, hfin⟩ := hB1.set (.int .i64 7) (.int .i64 (-1))
    have hfin := Lib.hid hfin
    have hq := Lib.hid (And.intro q0 q1)
    clear q0 q1 hb1 hB1
    go_wp2_with fail
    obtain ⟨q0, q1⟩ := hq.out
    exact bodyPost_ret (v := .agg #[.int .i64 7, .int .i64 (-1)]) (by simp [results, Tryz.results11, go_sem, q0, q1]) rfl ⟨by rw [hr.out]; rfl, hfin.out⟩
  have h60' : ¬ (60 : Int) < (L.length : Int) := by omega
  have hc := Lib.hid hc
  have hm := Lib.hid hm
  have hB0 := Lib.hid hB0
  have hw0 := Lib.hid (show wasE L 0 = 0 by unfold wasE; rw [if_pos rfl])
  go_enter Tryz.func11, Tryz.ntmps11
  go_wp2_with fail
  go_loopg [3, 4] (L.length + 1) (fun g x i wr => ∃ j : Nat, i = .int .i64 j ∧ x = .int .i64 (wasE L j) ∧ j ≤ L.length ∧ L.length - j + 1 ≤ g ∧ Hid (∀ i, i < j → errAtE L i = 0) ∧ Hid (FBox w wr))
  case atStart => exact ⟨0, rfl, by rw [hw0.out], Nat.zero_le _, by omega, Lib.hid (fun _ h => absurd h (Nat.not_lt_zero _)), hB0⟩
  case round =>
    obtain ⟨j, rfl, rfl, hj, hgj, hall, hK⟩ := hrel
    by_cases hlt : j < L.length
    · obtain ⟨b, o, rfl, d0, d1, d2, d3⟩ := hc.out j hlt
      have d0 := cell_below hK.out.2 d0
      have d1 := cell_below hK.out.2 d1
      have d2 := cell_below hK.out.2 d2
      have d3 := cell_below hK.out.2 d3
      have hk0 : (0 : Int) ≤ (j : Int) := by omega
      have hk1 : (j : Int) < (L.length : Int) := by omega
      have hri := Lib.hid (entR_any L[j] j (wasE L j) wr (hm.out _ (List.getElem_mem hlt)) (by omega))
      have hat := Lib.hid (show errAtE L j = entErr (wasE L j) j L[j] by unfold errAtE; rw [getD_get hlt])
      have hbad := Lib.hid (fun (hb : errAtE L j ≠ 0) => checkE_some (by omega) j hlt hb hall.out)
      have hnx := Lib.hid (wasE_next hlt)
      have hnext := Lib.hid (show errAtE L j = 0 → ∀ i, i < j + 1 → errAtE L i = 0 from fun hb i hi => by
        rcases Nat.lt_succ_iff_lt_or_eq.1 hi with h' | rfl
        · exact hall.out i h'
        · exact hb)
      rw [← hat.out] at hri
      generalize wasE L j = was at *
      generalize errAtE L j = cd at *
      obtain ⟨en, hen⟩ : ∃ en, L[j] = en := ⟨_, rfl⟩
      rw [hen] at d0 d1 d2 d3 hri hnx
      clear hen hat
      obtain ⟨s, t, ⟨who, ep⟩⟩ := en
      dsimp only [Ent.val] at d0 d1 d2 d3 hri hnx
      cases cd with
      | succ cd =>
        have hr := Lib.hid (hbad.out (Nat.succ_ne_zero _))
        have hz1 : (0 : Int) < ((cd + 1 : Nat) : Int) := by omega
        generalize hzd : ((cd + 1 : Nat) : Int) = z at hri hz1
        have hzd := Lib.hid hzd
        clear hbad hnext hnx
        go_wp2_with fail
        refine hri.out.mono ?_
        rintro e w1 ⟨rfl, hb1⟩
        have hB1 := hK.out.below hb1
        obtain ⟨⟨r0, r1⟩, f0, f1⟩ := hB1.cells
        have hBd := Lib.hid (hB1.set (.int .i64 z) (.int .i64 (j : Int)))
        clear hb1 hB1 d0 d1 d2 d3
        go_wp2_with fail
        exact bodyPost_ret (v := .agg #[.int .i64 z, .int .i64 (j : Int)]) (by simp [results, Tryz.results11, go_sem, hBd.out.1]) rfl ⟨by rw [hr.out]; unfold faultF; rw [← hzd.out], hBd.out.2⟩
      | zero =>
        have hall2 := Lib.hid (hnext.out rfl)
        have hri := hri.out
        rw [show ((0 : Nat) : Int) = 0 from rfl] at hri
        have hri := Lib.hid hri
        clear hbad hnext
        go_wp2_with fail
        refine hri.out.mono ?_
        rintro e w1 ⟨rfl, hb1⟩
        have d1 := cell_below hb1 d1
        have hB1 := Lib.hid (hK.out.below hb1)
        clear hb1 d0 d2 d3
        go_wp2_with fail
        go_roundg (L.length - j)
        case measure => omega
        case rel => exact ⟨j + 1, by simp, by rw [hnx.out], hlt, by omega, hall2, hB1⟩
    · have hr := Lib.hid (show checkE L = (0, -1) from checkE_none (by omega) fun i hi => hall.out i (by omega))
      have hge : ¬ ((j : Int) < (L.length : Int)) := by omega
      have hfi := Lib.hid (fineF_any wr)
      go_wp2_with fail
      refine hfi.out.mono ?_
      rintro e w1 ⟨rfl, hb1⟩
      have hB1 := hK.out.below hb1
      obtain ⟨⟨r0, r1⟩, f0, f1⟩ := hB1.cells
      obtain ⟨⟨q0, q1⟩, hfin⟩ := hB1.set (.int .i64 0) (.int .i64 (-1))
      have hfin := Lib.hid hfin
      have hq := Lib.hid (And.intro q0 q1)
      clear q0 q1 hb1 hB1
      go_wp2_with fail
      obtain ⟨q0, q1⟩ := hq.out
      exact bodyPost_ret (v := .agg #[.int .i64 0, .int .i64 (-1)]) (by simp [results, Tryz.results11, go_sem, q0, q1]) rfl ⟨by rw [hr.out]; rfl, hfin.out⟩
end Go.Proofs.YtfbndfkahodheaaGreatDoor

/- Floors raised by one walk over them, as the document does it: no program in sight. -/
namespace Go.Proofs.YtfbndfkahodheaaGreatDoor

def stepR (f : Flo) (s : List Flo × Bool) (g : Flo) : List Flo × Bool :=
  (if keepF f g = true then (if (decide (f.who < g.who) && !s.2) = true then s.1 ++ [f] else s.1) ++ [g] else (if (decide (f.who < g.who) && !s.2) = true then s.1 ++ [f] else s.1), (decide (f.who < g.who) && !s.2) || s.2)
def accR (f : Flo) (L : List Flo) : List Flo × Bool := L.foldl (stepR f) ([], false)
def endR (f : Flo) (s : List Flo × Bool) : List Flo := if s.2 = true then s.1 else s.1 ++ [f]
theorem accR_snoc (f : Flo) {L : List Flo} {j : Nat} (h : j < L.length) : accR f (L.take (j + 1)) = stepR f (accR f (L.take j)) L[j] := by
  unfold accR
  rw [List.take_add_one, List.getElem?_eq_getElem h, Option.toList_some, List.foldl_append]
  rfl
theorem stepR_len (f : Flo) (s : List Flo × Bool) (g : Flo) : (stepR f s g).1.length ≤ s.1.length + 2 := by
  unfold stepR
  dsimp only
  split <;> split <;> simp
theorem foldR2_len (f : Flo) : ∀ (L : List Flo) (s : List Flo × Bool), (L.foldl (stepR f) s).1.length ≤ s.1.length + 2 * L.length
  | [], s => by simp
  | g :: L, s => by
    have h1 := foldR2_len f L (stepR f s g)
    have h2 := stepR_len f s g
    rw [List.foldl_cons, List.length_cons]
    omega
theorem accR_len (f : Flo) (L : List Flo) : (accR f L).1.length ≤ 2 * L.length := by
  have := foldR2_len f L ([], false)
  simpa [accR] using this
theorem fold_true (f : Flo) : ∀ (L out : List Flo), L.foldl (stepR f) (out, true) = (out ++ L.filter (keepF f), true)
  | [], out => by simp
  | g :: L, out => by
    have h1 : stepR f (out, true) g = (if keepF f g = true then out ++ [g] else out, true) := by
      unfold stepR
      simp
    rw [List.foldl_cons, h1, fold_true f L]
    by_cases hk : keepF f g = true
    · rw [if_pos hk, List.filter_cons_of_pos hk, List.append_assoc]; rfl
    · rw [if_neg hk, List.filter_cons_of_neg hk]
theorem ins_above {f : Flo} : ∀ {M : List Flo}, (∀ g ∈ M, ¬ g.who < f.who) → insF f M = f :: M
  | [], _ => rfl
  | g :: r, h => by
    unfold insF
    rw [if_neg (h g (by simp))]
theorem fold_end (f : Flo) : ∀ (L out : List Flo), L.Pairwise (fun f g => f.who < g.who) → endR f (L.foldl (stepR f) (out, false)) = out ++ insF f (L.filter (keepF f))
  | [], out, _ => by simp [endR, insF]
  | g :: L, out, hs => by
    have hs' := List.pairwise_cons.1 hs
    rw [List.foldl_cons]
    by_cases h : f.who < g.who
    · have h1 : stepR f (out, false) g = ((if keepF f g = true then (out ++ [f]) ++ [g] else out ++ [f]), true) := by
        unfold stepR
        simp [h]
      have h2 : insF f ((g :: L).filter (keepF f)) = f :: (g :: L).filter (keepF f) := ins_above fun x hx hlt => by
        rcases List.mem_cons.1 ((List.mem_filter.1 hx).1) with rfl | hm
        · exact List.lt_irrefl _ (List.lt_trans h hlt)
        · exact List.lt_irrefl _ (List.lt_trans (List.lt_trans h (hs'.1 x hm)) hlt)
      rw [h1, fold_true, h2]
      unfold endR
      rw [if_pos rfl]
      by_cases hk : keepF f g = true
      · rw [if_pos hk, List.filter_cons_of_pos hk]; simp
      · rw [if_neg hk, List.filter_cons_of_neg hk]; simp
    · have h1 : stepR f (out, false) g = ((if keepF f g = true then out ++ [g] else out), false) := by
        unfold stepR
        simp [h]
      rw [h1, fold_end f L _ hs'.2]
      by_cases hk : keepF f g = true
      · rw [if_pos hk, List.filter_cons_of_pos hk]
        have hlt : g.who < f.who := lt_total h (fun e => ((keepF_iff f g).1 hk).1 e.symm)
        rw [show insF f (g :: L.filter (keepF f)) = g :: insF f (L.filter (keepF f)) by conv => lhs; unfold insF; rw [if_pos hlt]]
        simp
      · rw [if_neg hk, List.filter_cons_of_neg hk]
theorem acc_up {L : List Flo} {f : Flo} (h : Good0 L) (hn : ¬ f.ep ≤ ofF L f.who) : endR f (accR f L) = upF L f := by
  unfold upF accR
  rw [if_neg hn, fold_end f L [] h.sorted]
  rfl
end Go.Proofs.YtfbndfkahodheaaGreatDoor

/- floor.Raise's closures; slices.DeleteFunc at floors, walked. -/
namespace Go.Proofs.YtfbndfkahodheaaGreatDoor
open Go.RowKit

theorem AsksF.at_below {g : Nat} {cs : Array Value} {p : Flo → Bool} {w w' : World} (h : AsksF g cs p w) (hb : Below w.heap.size w w') : AsksF g cs p w' :=
  fun W f hf hW => h W f hf (hb.trans (hW.mono hb.size))
set_option maxRecDepth 100000 in
theorem raise1_asks (f : Flo) (b : Nat) (w : World) (h0 : w.cell? ⟨b, 0, none⟩ = some (.string (bs f.who))) (h1 : w.cell? ⟨b, 1, none⟩ = some (.int .i64 f.ep)) :
    AsksF 83 #[.pointer (some ⟨b, 0, none⟩)] (fun g => !keepF f g) w := by
  intro W g hl hW
  have h0 := cell_below hW h0
  have h1 := cell_below hW h1
  obtain ⟨fw, fe⟩ := f
  obtain ⟨gw, ge⟩ := g
  dsimp only [Flo.val] at *
  have hlt := World.block_lt_of_cell? W _ h0
  have c0 : ∀ o, (W.alloc o).cell? ⟨b, 0, none⟩ = some (.string (bs fw)) := fun o => by rw [World.cell?_alloc_lt _ _ _ hlt]; exact h0
  have c1 : ∀ o, (W.alloc o).cell? ⟨b, 1, none⟩ = some (.int .i64 fe) := fun o => by rw [World.cell?_alloc_lt _ _ _ (show (⟨b, 1, none⟩ : Addr).block < _ from hlt)]; exact h1
  have hk : (!keepF ⟨fw, fe⟩ ⟨gw, ge⟩) = (gw == fw || (fw == starW && decide (ge ≤ fe))) := by unfold keepF; simp
  have e1 : ((bs gw).toList == (bs fw).toList) = (gw == fw) := by rw [toList_data, toList_data, bs_list, bs_list]
  have e2 : ((bs fw).toList == [42]) = (fw == starW) := by rw [toList_data, bs_list]; rfl
  have hB := (Below.refl W.heap.size W).alloc (Nat.le_refl _) (.cells #[.string (bs gw), .int .i64 ge] 24)
  clear h0 h1 hW
  rw [hk]
  clear hk
  cases q1 : (gw == fw) with
  | true =>
    rw [q1] at e1
    clear q1
    go_enter Tryz.func83, Tryz.ntmps83
    go_wp2_with fail
    go_ret
    exact ⟨rfl, hB⟩
  | false =>
    rw [q1] at e1
    cases q2 : (fw == starW) with
    | false =>
      rw [q2] at e2
      clear q1 q2
      go_enter Tryz.func83, Tryz.ntmps83
      go_wp2_with fail
      go_ret
      exact ⟨rfl, hB⟩
    | true =>
      rw [q2] at e2
      clear q1 q2
      by_cases hle : ge ≤ fe
      all_goals
        go_enter Tryz.func83, Tryz.ntmps83
        go_wp2_with fail
        go_ret
        exact ⟨by simp [hle], hB⟩

/-- Cells written one behind the other into a block. -/
theorem heap_setCells (g : Nat) (T : TypeId) : ∀ (vs : List Value) (o : Nat) (w : World) (cur : Array Value), w.heap[g]? = some (.cells cur T (0, 0)) → o + vs.length ≤ cur.size →
    ∃ cur' : Array Value, (w.setCells g o vs).heap[g]? = some (.cells cur' T (0, 0)) ∧ cur'.size = cur.size ∧ cur'.toList = cur.toList.take o ++ vs ++ cur.toList.drop (o + vs.length)
  | [], o, w, cur, h, _ => ⟨cur, h, rfl, by simp⟩
  | v :: r, o, w, cur, h, hl => by
    have h1 := heap_setCell_same w g o cur T v h
    obtain ⟨cur', h2, h3, h4⟩ := heap_setCells g T r (o + 1) (w.setCell ⟨g, o, none⟩ v) _ h1 (by simp at hl ⊢; omega)
    refine ⟨cur', h2, by simpa using h3, ?_⟩
    rw [h4]
    simp only [List.length_cons] at hl
    have ho : o < cur.toList.length := by simp; omega
    simp only [Array.toList_setIfInBounds, List.length_cons]
    rw [List.take_add_one, List.getElem?_set_self ho, List.take_set_of_le (Nat.le_refl _), List.drop_set_of_lt (by omega), show o + 1 + r.length = o + (r.length + 1) by omega]
    simp
theorem heap_setCells_other (g k : Nat) (h : k ≠ g) : ∀ (vs : List Value) (o : Nat) (w : World), (w.setCells g o vs).heap[k]? = w.heap[k]?
  | [], _, _ => rfl
  | v :: r, o, w => by rw [World.setCells, heap_setCells_other g k h r, heap_setCell_other _ _ _ _ h]
theorem below_setCells {B : Nat} {a : World} (g : Nat) (hg : B ≤ g) : ∀ (vs : List Value) (o : Nat) (w : World), Below B a w → Below B a (w.setCells g o vs)
  | [], _, _, h => h
  | v :: r, o, w, h => below_setCells g hg r (o + 1) _ (h.setCell (p := ⟨g, o, none⟩) hg v)
theorem zero_floor (w : World) : (zeroValue 24).run Tryz.prog w = .ok (.agg #[.string ⟨#[]⟩, .int .i64 0]) w := by kernel_rfl
theorem zeros_floor (n : Nat) : (Builtin.zeroCells (Value.agg #[.string ⟨#[]⟩, .int .i64 0]).cells n).toList.length = n * 2 ∧ ∀ u ∈ (Builtin.zeroCells (Value.agg #[.string ⟨#[]⟩, .int .i64 0]).cells n).toList, u.oneCell' = true := by
  have hs : (Value.agg #[.string ⟨#[]⟩, .int .i64 0]).cells = #[.string ⟨#[]⟩, .int .i64 0] := rfl
  rw [hs]
  refine ⟨by rw [Array.length_toList, size_zeroCells]; rfl, fun u hu => ?_⟩
  unfold Builtin.zeroCells at hu
  simp only [Array.toList_map, List.mem_map] at hu
  obtain ⟨i, _, rfl⟩ := hu
  have : i % 2 = 0 ∨ i % 2 = 1 := by omega
  rcases this with h | h
  · show ((#[Value.string ⟨#[]⟩, .int .i64 0] : Array Value)[i % 2]!).oneCell' = true
    rw [h]; rfl
  · show ((#[Value.string ⟨#[]⟩, .int .i64 0] : Array Value)[i % 2]!).oneCell' = true
    rw [h]; rfl
theorem run_clear_floors (w : World) (ty : TypeId) (b o n c : Nat) (hn : 0 < n) (hc : ∀ j, j < n * 2 → (w.cell? ⟨b, o + j, none⟩).isSome = true) (hf : ∀ j, j < n * 2 → w.frozen? ⟨b, o + j, none⟩ = false) :
    (Builtin.clear_ #[40] ty #[.slice (some ⟨b, o, none⟩) n c]).run Tryz.prog w = .ok (.tuple #[]) (w.setCells b o (Builtin.zeroCells (Value.agg #[.string ⟨#[]⟩, .int .i64 0]).cells n).toList) := by
  obtain ⟨hz1, hz2⟩ := zeros_floor n
  have hst := run_storeCells_cells (P := Tryz.prog) b o (Builtin.zeroCells (Value.agg #[.string ⟨#[]⟩, .int .i64 0]).cells n).toList 0 w (by rw [hz1]; simpa using hc) (by rw [hz1]; simpa using hf) hz2
  simp only [Nat.add_zero] at hst
  obtain ⟨m, rfl⟩ : ∃ m, n = m + 1 := ⟨n - 1, by omega⟩
  simp [Builtin.clear_, run_underlying Tryz.underlying40, zero_floor, hst]

theorem take_keep {p : Flo → Bool} {L : List Flo} {q : Nat} (hq : q < L.length) : (L.take (q + 1)).filter (fun f => !p f) = (L.take q).filter (fun f => !p f) ++ (if p L[q] = true then [] else [L[q]]) := by
  rw [List.take_succ_eq_append_getElem hq, List.filter_append]
  congr 1
  by_cases h : p L[q] = true
  · rw [if_pos h]; simp [h]
  · rw [if_neg h]; simp [h]
set_option maxHeartbeats 2000000 in
set_option maxRecDepth 100000 in
theorem delf_flo (w0 : World) (v : Value) (L : List Flo) (g : Nat) (cs : Array Value) (p : Flo → Bool) (w : World) (hv : FlRow w w0.heap.size v L) (hL : L.length ≤ 1000) (hm : ∀ f ∈ L, f.who.length ≤ maxLen) (hbw : Below w0.heap.size w0 w) (hg : AsksF g cs p w0) (eg : ∀ args w, (callFunc g args).run Tryz.prog w = .ok (.enter g args) w) :
    Calls Tryz.prog 82 #[v, .func (.func g) #[] cs] w fun e w' => ∃ v', e = .returned v' ∧ FlRow w' w0.heap.size v' (L.filter fun f => !p f) ∧ Below w0.heap.size w0 w' := by
  have hix := Lib.hid (index_flo v L g cs p w (hv.at_ (by unfold maxLen; omega)) hm (hg.at_below hbw) eg)
  have hmH := Lib.hid hm
  have hgH := Lib.hid hg
  clear hm hg
  by_cases hall : ∀ i (h : i < L.length), p L[i] = false
  · have hfi := firstF_none hall
    rw [hfi] at hix
    have hfl : L.filter (fun f => !p f) = L := List.filter_eq_self.2 fun f hf => by
      obtain ⟨i, hi, rfl⟩ := List.getElem_of_mem hf
      rw [hall i hi]; rfl
    rw [hfl]
    clear hfi hfl hall
    have hbw := Lib.hid hbw
    rcases hv.shape with ⟨rfl, rfl⟩ | ⟨gb, cap, cur, rfl, _⟩
    all_goals
      go_enter Tryz.func82, Tryz.ntmps82
      go_wp2_with fail
      refine hix.out.mono ?_
      rintro e w1 ⟨rfl, hb1⟩
      have hb1 := Lib.hid hb1
      go_wp2_with fail
      go_ret
      exact ⟨_, rfl, hv.below hb1.out, hbw.out.trans (hb1.out.mono hbw.out.size)⟩
  · obtain ⟨i0, hi0, hp0, hbef⟩ : ∃ (i0 : Nat) (h : i0 < L.length), p L[i0] = true ∧ ∀ i (h : i < L.length), i < i0 → p L[i] = false := by
      have hlt : L.findIdx p < L.length := by
        rcases Nat.lt_or_ge (L.findIdx p) L.length with h | h
        · exact h
        · exfalso
          apply hall
          intro i hi
          have : L.findIdx p = L.length := Nat.le_antisymm List.findIdx_le_length h
          have := (List.findIdx_eq_length.1 this) L[i] (List.getElem_mem hi)
          simpa using this
      refine ⟨L.findIdx p, hlt, List.findIdx_getElem, fun i hi hii => by simpa using List.not_of_lt_findIdx hii⟩
    have hfi := firstF_of hi0 hp0 hbef
    rw [hfi] at hix
    clear hfi hall
    rcases hv.shape with ⟨rfl, rfl⟩ | ⟨gb, cap, cur, rfl, hgb, hgc, hcap, hmx, hsz, htk⟩
    · exact absurd hi0 (Nat.not_lt_zero _)
    have hf0 : (L.take (i0 + 1)).filter (fun f => !p f) = L.take i0 := by
      rw [take_keep hi0, if_pos hp0, List.append_nil]
      refine List.filter_eq_self.2 fun f hf => ?_
      obtain ⟨i, hi, rfl⟩ := List.getElem_of_mem hf
      have hi2 : i < i0 := by rw [List.length_take] at hi; omega
      rw [List.getElem_take, hbef i (by omega) hi2]; rfl
    have hf0 := Lib.hid hf0
    have hbw := Lib.hid hbw
    clear hp0 hbef hgc hsz htk
    go_enter Tryz.func82, Tryz.ntmps82
    go_wp2_with fail
    refine hix.out.mono ?_
    rintro e w1 ⟨rfl, hb1⟩
    have hv1 := Lib.hid (hv.below hb1)
    have hbw1 := Lib.hid (hbw.out.trans (hb1.mono hbw.out.size))
    clear hb1 hv hix
    unfold maxLen at hmx
    go_wp2_with fail
    go_loopg [5, 6] (L.length + 1) (fun g8 i j wr => ∃ (a q : Nat) (X : List Flo), i = .int .i64 a ∧ j = .int .i64 q ∧ a < q ∧ q ≤ L.length ∧ L.length - q + 1 ≤ g8 ∧ X.length = L.length ∧ Hid (X.take a = (L.take q).filter fun f => !p f) ∧ Hid (X.drop q = L.drop q) ∧ Hid (FlRow wr w0.heap.size (.slice (some ⟨gb, 0, none⟩) L.length cap) X) ∧ Hid (Below w0.heap.size w0 wr))
    case atStart => exact ⟨i0, i0 + 1, L, by simp, by simp, by omega, hi0, by omega, rfl, Lib.hid hf0.out.symm, Lib.hid rfl, hv1, hbw1⟩
    case round =>
      obtain ⟨a, q, X, rfl, rfl, haq, hq, hgq, hXL, hXt, hXd, hrow, hK⟩ := hrel
      by_cases hlt : q < L.length
      · have hxq : X[q]? = some L[q] := by
          have h1 : (X.drop q)[0]? = (L.drop q)[0]? := by rw [hXd.out]
          rw [List.getElem?_drop, List.getElem?_drop, Nat.add_zero, List.getElem?_eq_getElem hlt] at h1
          exact h1
        obtain ⟨hqx, hxq⟩ := List.getElem?_eq_some_iff.1 hxq
        have hrowX : FlRow wr w0.heap.size (.slice (some ⟨gb, 0, none⟩) X.length cap) X := by rw [hXL]; exact hrow.out
        obtain ⟨f0, f1⟩ := flatF_get X q hqx
        have c0 := hrowX.cells _ _ f0
        have c1 := hrowX.cells _ _ f1
        rw [hxq] at c0 c1
        clear f0 f1
        have hB := hK.out.alloc hK.out.size (.cells #[.string (bs L[q].who), .int .i64 L[q].ep] 24)
        have hgc := Lib.hid (hgH.out _ L[q] (hmH.out _ (List.getElem_mem hlt)) hB)
        have hk0 : (0 : Int) ≤ (q : Int) := by omega
        have hk1 : (q : Int) < (L.length : Int) := by omega
        have htk := Lib.hid (take_keep (p := p) hlt)
        have hwi : IntKind.i64.wrap ((q : Int) + 1) = (q : Int) + 1 := by rw [IntKind.wrap_i64]; omega
        cases hb : p L[q] with
        | true =>
          rw [hb] at hgc
          have hXt2 := Lib.hid (show X.take a = (L.take (q + 1)).filter fun f => !p f by rw [htk.out, if_pos hb, List.append_nil]; exact hXt.out)
          have hXd2 := Lib.hid (show X.drop (q + 1) = L.drop (q + 1) by rw [← List.drop_drop, ← List.drop_drop, hXd.out])
          clear hb
          go_wp2_with fail
          refine hgc.out.mono ?_
          rintro e w2 ⟨rfl, hb2⟩
          have hA := (Below.refl wr.heap.size wr).alloc (Nat.le_refl _) (.cells #[.string (bs L[q].who), .int .i64 L[q].ep] 24)
          have hrow2 := Lib.hid (hrow.out.below (below_trans hA hb2))
          have hK2 := Lib.hid (hK.out.trans ((below_trans hA hb2).mono hK.out.size))
          clear c0 c1 hA hb2
          go_wp2_with fail
          go_roundg (L.length - q)
          case measure => omega
          case rel => exact ⟨a, q + 1, X, by simp, by simp, by omega, hlt, by omega, hXL, hXt2, hXd2, hrow2, hK2⟩
        | false =>
          rw [hb] at hgc
          have hax : a < X.length := by omega
          have hXt2 := Lib.hid (show (X.set a L[q]).take (a + 1) = (L.take (q + 1)).filter fun f => !p f by
            rw [htk.out, if_neg (by rw [hb]; decide), ← hXt.out, List.take_succ_eq_append_getElem (by rw [List.length_set]; exact hax), List.getElem_set_self, List.take_set_of_le (Nat.le_refl _)])
          have hXd2 := Lib.hid (show (X.set a L[q]).drop (q + 1) = L.drop (q + 1) by
            rw [List.drop_set_of_lt (by omega), ← List.drop_drop, ← List.drop_drop, hXd.out])
          clear hb
          go_wp2_with fail
          refine hgc.out.mono ?_
          rintro e w2 ⟨rfl, hb2⟩
          have hA := (Below.refl wr.heap.size wr).alloc (Nat.le_refl _) (.cells #[.string (bs L[q].who), .int .i64 L[q].ep] 24)
          have d0 := cell_below hb2 (show (wr.alloc (.cells #[.string (bs L[q].who), .int .i64 L[q].ep] 24)).cell? ⟨wr.heap.size, 0, none⟩ = some (.string (bs L[q].who)) by simp)
          have d1 := cell_below hb2 (show (wr.alloc (.cells #[.string (bs L[q].who), .int .i64 L[q].ep] 24)).cell? ⟨wr.heap.size, 1, none⟩ = some (.int .i64 L[q].ep) by simp)
          have hrow2 := hrowX.below (below_trans hA hb2)
          have hK2 := hK.out.trans ((below_trans hA hb2).mono hK.out.size)
          obtain ⟨f0, f1⟩ := flatF_get X a hax
          have s0 := hrow2.cells _ _ f0
          have s1 := hrow2.cells _ _ f1
          have z0 := hrow2.frozen (a * 2)
          have z1 := hrow2.frozen (a * 2 + 1)
          have hka : (0 : Int) ≤ (a : Int) := by omega
          have hka1 : (a : Int) < (L.length : Int) := by omega
          have hwa : IntKind.i64.wrap ((a : Int) + 1) = (a : Int) + 1 := by rw [IntKind.wrap_i64]; omega
          have hrow3 := Lib.hid (show FlRow _ w0.heap.size (.slice (some ⟨gb, 0, none⟩) L.length cap) (X.set a L[q]) from by have := hrow2.set hax L[q]; rw [hXL] at this; exact this)
          have hK3 := Lib.hid ((hK2.setCell (p := ⟨gb, a * 2, none⟩) hgb (.string (bs L[q].who))).setCell (p := ⟨gb, a * 2 + 1, none⟩) hgb (.int .i64 L[q].ep))
          clear c0 c1 hA hb2 hrow2 hrowX f0 f1 hK2
          go_wp2_with fail
          go_roundg (L.length - q)
          case measure => omega
          case rel => exact ⟨a + 1, q + 1, X.set a L[q], by simp, by simp, by omega, hlt, by omega, by rw [List.length_set]; exact hXL, hXt2, hXd2, hrow3, hK3⟩
      · have hqe : q = L.length := by omega
        subst hqe
        have hge : ¬ ((L.length : Int) < (L.length : Int)) := by omega
        have hrowX : FlRow wr w0.heap.size (.slice (some ⟨gb, 0, none⟩) X.length cap) X := by rw [hXL]; exact hrow.out
        have hXt2 := Lib.hid (hXt.out.trans (by rw [List.take_length]))
        rcases hrowX.shape with ⟨h1, _⟩ | ⟨g', cap', cur, he, hb', hg', hc', hm', hsz, htk⟩
        · cases h1
        cases he
        have hcells : ∀ j, j < (L.length - a) * 2 → (wr.cell? ⟨gb, a * 2 + j, none⟩).isSome = true := fun j hj => by
          rw [cell_of_row wr gb _ _ _ _ hg', Array.getElem?_eq_getElem (by rw [hsz]; omega)]; rfl
        have hcl := fun ty => run_clear_floors wr ty gb (a * 2) (L.length - a) (cap - a) (by omega) hcells (fun j _ => frozen_of_row _ _ _ _ _ hg')
        obtain ⟨hz1, _⟩ := zeros_floor (L.length - a)
        obtain ⟨cur', k1, k2, k3⟩ := heap_setCells gb 24 (Builtin.zeroCells (Value.agg #[.string ⟨#[]⟩, .int .i64 0]).cells (L.length - a)).toList (a * 2) wr cur hg' (by rw [hz1, hsz]; omega)
        have hfin := Lib.hid (show FlRow (wr.setCells gb (a * 2) (Builtin.zeroCells (Value.agg #[.string ⟨#[]⟩, .int .i64 0]).cells (L.length - a)).toList) w0.heap.size (.slice (some ⟨gb, 0, none⟩) a cap) (L.filter fun f => !p f) by
          have hla : (L.filter fun f => !p f).length = a := by rw [← hXt2.out, List.length_take]; omega
          unfold FlRow
          rw [hla]
          refine ⟨by rw [flatF_len, hla], .inr ⟨gb, cap, cur', rfl, hgb, k1, by omega, hm', by rw [k2, hsz], ?_⟩⟩
          rw [← hXt2.out, flatF_take, ← htk, List.take_take, Nat.min_eq_left (by omega), k3, List.append_assoc, List.take_append_of_le_length (by simp; omega), List.take_take, Nat.min_self])
        have hKf := Lib.hid (below_setCells gb hgb (Builtin.zeroCells (Value.agg #[.string ⟨#[]⟩, .int .i64 0]).cells (L.length - a)).toList (a * 2) wr hK.out)
        have hal : a ≤ L.length := by omega
        have hac : a ≤ cap := by omega
        clear k1 k2 k3 hz1 hcells hg' hsz htk hrowX
        generalize (Builtin.zeroCells (Value.agg #[.string ⟨#[]⟩, .int .i64 0]).cells (L.length - a)).toList = zs at *
        go_wp2_with fail
        go_ret
        exact ⟨_, rfl, hfin.out, hKf.out⟩
end Go.Proofs.YtfbndfkahodheaaGreatDoor
