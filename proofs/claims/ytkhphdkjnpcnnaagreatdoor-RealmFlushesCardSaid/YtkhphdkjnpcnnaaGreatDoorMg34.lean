/- RefE2, FedG, RefJ -/
import Derived.Test.YtkhphdkjnpcnnaaGreatDoorMg32
import Derived.Test.YtkhphdkjnpcnnaaGreatDoorMg33
import Derived.Test.YtkhphdkjnpcnnaaGreatDoorMg27
import Derived.Test.YtkhphdkjnpcnnaaGreatDoorMg10
/- The reference's feeds: FloorsOf: walked. -/
namespace Go.Proofs.YtkhphdkjnpcnnaaGreatDoor set_option linter.unusedVariables false set_option linter.unusedSimpArgs false
open Go.RowKit

theorem foldR_snocR {L : List Ent} {j : Nat} (h : j < L.length) (h0 : (foldR [] (L.take j)).2 = 0) :
    foldR [] (L.take (j + 1)) = (if (raiseF (foldR [] (L.take j)).1 L[j].f).2.1 = 0 then ((raiseF (foldR [] (L.take j)).1 L[j].f).1, 0) else ([], (raiseF (foldR [] (L.take j)).1 L[j].f).2.1)) := by
  rw [List.take_add_one, List.getElem?_eq_getElem h, Option.toList_some, foldR_append, if_pos h0]
  rfl
theorem foldR_stopR {L : List Ent} {j : Nat} (h : j < L.length) (h0 : (foldR [] (L.take j)).2 = 0) (hb : (raiseF (foldR [] (L.take j)).1 L[j].f).2.1 ≠ 0) :
    foldR [] L = ([], (raiseF (foldR [] (L.take j)).1 L[j].f).2.1) := by
  have h1 := foldR_snocR h h0
  rw [if_neg hb] at h1
  conv => lhs; rw [← List.take_append_drop (j + 1) L]
  rw [foldR_append, h1, if_neg hb]
/-- Two boxes: that of a result that is a fault, and one behind it. -/
structure TBox (n : Nat) (w wx : World) : Prop where
  res : wx.heap[w.heap.size]? = some (.cells #[.int .i64 0, .int .i64 0] 98 (0, 0))
  own : wx.heap[n]? = some (.cells #[.int .i64 0, .int .i64 (-1)] 98 (0, 0))
  ne : w.heap.size < n
  below : Below w.heap.size w wx
theorem TBox.later {n : Nat} {w wx wy : World} (h : TBox n w wx) (hb : Below wx.heap.size wx wy) : TBox n w wy :=
  ⟨heap_down hb h.res, heap_down hb h.own, h.ne, below_trans h.below hb⟩
theorem TBox.fbox {n : Nat} {w wx : World} (h : TBox n w wx) : FBox w wx := ⟨h.res, h.below⟩
theorem TBox.cells {n : Nat} {w wx : World} (h : TBox n w wx) : wx.cell? ⟨n, 0, none⟩ = some (.int .i64 0) ∧ wx.cell? ⟨n, 1, none⟩ = some (.int .i64 (-1)) := (two_kept (Below.refl _ _) h.own).1
set_option maxHeartbeats 8000000 in
set_option maxRecDepth 100000 in
theorem floorsR_ent (v : Value) (L : List Ent) (w : World) (hv : EntsAt w v L) (hm : ∀ e ∈ L, e.f.who.length ≤ maxLen) :
    Calls Tryz.prog 94 #[v] w fun e w' => RaiRes w.heap.size w' (floorsE L) e ∧ Below w.heap.size w w' := by
  have hB0 : FBox w (w.alloc (.cells #[.int .i64 0, .int .i64 0] 98)) := ⟨heap_alloc_new w _, (Below.refl _ _).alloc (Nat.le_refl _) _⟩
  have hff := Lib.hid (feedFaultR_any v L (w.alloc (.cells #[.int .i64 0, .int .i64 0] 98)) (AtG.below hv hB0.2) hm)
  obtain ⟨a, c, rfl, hlen, _, hc⟩ := EntsAt.get hv
  unfold maxLen at hlen
  have hc := Lib.hid hc
  have hm := Lib.hid hm
  have hB0 := Lib.hid hB0
  have hrdef := Lib.hid (show floorsE L = if (checkE L).1 = 0 then ((foldR [] L).1, (foldR [] L).2, -1) else ([], checkE L) from rfl)
  clear hv
  by_cases hck : (checkE L).1 = 0
  case neg =>
    obtain ⟨z, a1, hza⟩ : ∃ (z : Nat) (a1 : Int), checkE L = (z, a1) := ⟨_, _, rfl⟩
    have hr := hrdef.out
    rw [if_neg hck, hza] at hr
    have hr := Lib.hid hr
    have hff := hff.out
    rw [hza] at hck hff
    dsimp only [faultF] at hck hff
    have hz1 : (0 : Int) < (z : Int) := by omega
    have hff := Lib.hid hff
    clear hza hck
    generalize hzd : (z : Int) = zi at *
    have hzd := Lib.hid hzd
    go_enter Tryz.func94, Tryz.ntmps94
    go_wp2_with fail
    refine hff.out.mono ?_
    rintro e w2 ⟨rfl, hb2⟩
    have hR2 := hB0.out.below hb2
    have hRN : FBox w (w2.alloc (.cells #[.int .i64 zi, .int .i64 a1] 98)) := hR2.below ((Below.refl _ _).alloc (Nat.le_refl _) _)
    have hRNH := Lib.hid hRN
    obtain ⟨⟨r0, r1⟩, f0, f1⟩ := hRN.cells
    clear hb2 hR2 hRN
    go_wp2_with fail
    go_region
    all_goals
      go_wp2_with fail
      have hR := hRNH.out.set (.int .i64 zi) (.int .i64 a1)
      have hR0 := set2_first hRNH.out.1 (.int .i64 zi)
      exact bodyPost_ret (v := .tuple #[.slice none 0 0, .agg #[.int .i64 zi, .int .i64 a1]]) (by simp [results, Tryz.results94, go_sem, hR.1, hR0]) rfl ⟨⟨_, by rw [hr.out]; unfold faultF; dsimp only; rw [hzd.out], by rw [hr.out]; exact floorsAt_nil _⟩, hR.2.drew⟩
  have hck2 := checkE_ok hck
  have hr := hrdef.out
  rw [if_pos hck] at hr
  have hrH := Lib.hid hr
  have hff := hff.out
  rw [hck2] at hff
  dsimp only [faultF] at hff
  have hff := Lib.hid hff
  have hgd := Lib.hid (fun j (h : (foldR [] (L.take j)).2 = 0) => (foldR_good (L.take j) [] goodF_nil h).1)
  clear hr hck hck2
  go_enter Tryz.func94, Tryz.ntmps94
  go_wp2_with fail
  refine hff.out.mono ?_
  rintro e w2 ⟨rfl, hb2⟩
  have hR2 := hB0.out.below hb2
  have hRN : TBox w2.heap.size w (w2.alloc (.cells #[.int .i64 0, .int .i64 (-1)] 98)) := ⟨heap_down ((Below.refl _ _).alloc (Nat.le_refl _) _) hR2.1, heap_alloc_new w2 _, (Array.getElem?_eq_some_iff.1 hR2.1).1, hR2.2.alloc hR2.2.size _⟩
  have hRN := Lib.hid hRN
  clear hb2 hR2 hff
  go_wp2_with fail
  generalize w2.heap.size = n4 at *
  go_loopg [5, 6] (L.length + 1) (fun g s5 s6 wr => ∃ j : Nat, s6 = .int .i64 j ∧ j ≤ L.length ∧ L.length - j + 1 ≤ g ∧ Hid ((foldR [] (L.take j)).2 = 0) ∧ Hid (FloorsAt wr s5 (foldR [] (L.take j)).1) ∧ Hid (TBox n4 w wr))
  case atStart => exact ⟨0, rfl, Nat.zero_le _, by omega, Lib.hid rfl, Lib.hid (floorsAt_nil _), hRN⟩
  case round =>
    obtain ⟨j, rfl, hj, hg, hz0, hat, hK⟩ := hrel
    by_cases hlt : j < L.length
    · obtain ⟨b, o, rfl, _, _, d2, d3⟩ := hc.out j hlt
      have d2 := cell_below hK.out.below d2
      have d3 := cell_below hK.out.below d3
      have hk0 : (0 : Int) ≤ (j : Int) := by omega
      have hk1 : (j : Int) < (L.length : Int) := by omega
      have hsn := foldR_snocR hlt hz0.out
      have hsp := foldR_stopR hlt hz0.out
      have hgj := hgd.out j hz0.out
      have hml := hm.out _ (List.getElem_mem hlt)
      obtain ⟨gg, hgg⟩ : ∃ gg, L[j] = gg := ⟨_, rfl⟩
      rw [hgg] at d2 d3 hsn hsp hml
      obtain ⟨s, t, ⟨who, ep⟩⟩ := gg
      have hri := raiseR_flo u5 _ ⟨who, ep⟩ wr hat.out (fun f hf => who_len (hgj.g.one f hf)) hml
      generalize foldR [] (L.take j) = F at *
      obtain ⟨O, oz⟩ := F
      dsimp only at hsn hsp d2 d3 hat hri
      obtain ⟨U, uc, ua, hu⟩ : ∃ U uc ua, raiseF O ⟨who, ep⟩ = (U, uc, ua) := ⟨_, _, _, rfl⟩
      unfold RaiRes at hri
      rw [hu] at hri hsn hsp
      dsimp only [Flo.val, Flo.cells, faultF] at hri hsn hsp
      obtain ⟨a9, c9, hs9, _⟩ := hat.out
      have hri := Lib.hid hri
      subst hs9
      clear hgg hu hat
      by_cases huc : uc = 0
      · rw [if_pos huc] at hsn
        have hsn := Lib.hid hsn
        subst huc
        clear hsp
        go_wp2_with fail
        refine hri.out.mono ?_
        rintro e w5 ⟨⟨v5, rfl, hv5⟩, hb5⟩
        have hfin := Lib.hid (fun o => (show FloorsAt (w5.alloc o) v5 U ∧ TBox n4 w (w5.alloc o) from ⟨hv5.below ((Below.refl _ _).alloc (Nat.le_refl _) _), (hK.out.later hb5).later ((Below.refl _ _).alloc (Nat.le_refl _) _)⟩))
        obtain ⟨a8, c8, hs8, _⟩ := hv5
        subst hs8
        clear hb5 d2 d3 hri
        go_wp2_with fail
        go_roundg (L.length - j)
        case measure => omega
        case rel => exact ⟨j + 1, by simp, hlt, by omega, Lib.hid (by rw [hsn.out]), by rw [hsn.out]; exact Lib.hid (hfin.out _).1, Lib.hid (hfin.out _).2⟩
      · have hsp := hsp huc
        have hr := hrH.out
        rw [hsp] at hr
        have hr := Lib.hid hr
        have hz1 : (0 : Int) < (uc : Int) := by omega
        generalize hzd : (uc : Int) = zi at *
        have hzd := Lib.hid hzd
        clear hsn hsp huc
        go_wp2_with fail
        refine hri.out.mono ?_
        rintro e w5 ⟨⟨v5, rfl, hv5⟩, hb5⟩
        have hK5 := Lib.hid (fun o => (show FBox w (w5.alloc o) from ((hK.out.later hb5).later ((Below.refl _ _).alloc (Nat.le_refl _) _)).fbox))
        have hba := Lib.hid (fun o => bareF_any zi (w5.alloc o))
        obtain ⟨a8, c8, hs8, _⟩ := hv5
        subst hs8
        clear hb5 d2 d3 hri
        go_wp2_with fail
        refine (hba.out _).mono ?_
        rintro e w6 ⟨rfl, hb6⟩
        have hB1 := (hK5.out _).below hb6
        obtain ⟨⟨r0, r1⟩, f0, f1⟩ := hB1.cells
        obtain ⟨⟨q0, q1⟩, hfin⟩ := hB1.set (.int .i64 zi) (.int .i64 (-1))
        have hfin := Lib.hid hfin
        have hq := Lib.hid (And.intro q0 q1)
        clear q0 q1 hb6 hB1 hba
        go_wp2_with fail
        exact bodyPost_ret (v := .tuple #[.slice none 0 0, .agg #[.int .i64 zi, .int .i64 (-1)]]) (by simp [results, Tryz.results94, go_sem, hq.out]) rfl ⟨⟨_, by rw [hr.out]; unfold faultF; dsimp only; rw [hzd.out], by rw [hr.out]; exact floorsAt_nil _⟩, hfin.out⟩
    · have hje : L.take j = L := List.take_of_length_le (by omega)
      rw [hje] at hz0 hat
      have hr := hrH.out
      rw [hz0.out] at hr
      have hr := Lib.hid hr
      have hge : ¬ ((j : Int) < (L.length : Int)) := by omega
      have hatH := Lib.hid hat.out
      generalize (foldR [] L).1 = O at *
      obtain ⟨a9, c9, hs9, _⟩ := hat.out
      subst hs9
      obtain ⟨n0, n1⟩ := hK.out.cells
      obtain ⟨⟨r0, r1⟩, f0, f1⟩ := hK.out.fbox.cells
      clear hje hat
      go_wp2_with fail
      go_region
      all_goals
        go_wp2_with fail
        have hR := hK.out.fbox.set (.int .i64 0) (.int .i64 (-1))
        have hR0 := set2_first hK.out.res (.int .i64 0)
        exact bodyPost_ret (v := .tuple #[.slice a9 O.length c9, .agg #[.int .i64 0, .int .i64 (-1)]]) (by simp [results, Tryz.results94, go_sem, hR.1, hR0]) rfl ⟨⟨_, by rw [hr.out]; rfl, by rw [hr.out]; exact (floorsAt_set2 hK.out.res hatH.out (.int .i64 0) (.int .i64 (-1))).below (below_drawn (Below.refl _ _) 1)⟩, hR.2.drew⟩
end Go.Proofs.YtkhphdkjnpcnnaaGreatDoor

/- LongEntries, OwnEntries, SameEntries: walked. -/
namespace Go.Proofs.YtkhphdkjnpcnnaaGreatDoor set_option linter.unusedVariables false set_option linter.unusedSimpArgs false
open Go.RowKit

def longE (L : List Ent) : Bool := (decide (30 < L.length) && !decide (L.length = 60) && !decide (L.length = 61)) || L.any fun e => decide (20 < e.f.who.length)
def longEI (L : List Ent) : Int := if longE L = true then 1 else 0
theorem longE_false {L : List Ent} (h : longE L = false) : L.length ≤ 61 ∧ ∀ e ∈ L, e.f.who.length ≤ 20 := by
  unfold longE at h
  rw [Bool.or_eq_false_iff, List.any_eq_false] at h
  refine ⟨?_, fun f hf => ?_⟩
  · by_cases h1 : 30 < L.length
    · by_cases h2 : L.length = 60
      · omega
      · by_cases h3 : L.length = 61
        · omega
        · have := h.1
          simp [h1, h2, h3] at this
    · omega
  · have := h.2 f hf
    simp at this
    exact this
theorem longE_low {L : List Ent} (h : ¬ (30 < L.length ∧ L.length ≠ 60 ∧ L.length ≠ 61)) : longE L = L.any fun e => decide (20 < e.f.who.length) := by
  unfold longE
  by_cases h1 : 30 < L.length
  · by_cases h2 : L.length = 60
    · simp [h2]
    · by_cases h3 : L.length = 61
      · simp [h3]
      · exact absurd ⟨h1, h2, h3⟩ h
  · simp [h1]
set_option maxHeartbeats 1000000 in
set_option maxRecDepth 100000 in
theorem same_ent (x y : Value) (L : List Ent) (w : World) (hx : EntsAt w x L) (hy : EntsAt w y L) :
    Calls Tryz.prog 31 #[x, y] w fun e w' => e = .returned (.bool true) ∧ Below w.heap.size w w' := by
  obtain ⟨a, c, rfl, hm, _, ha⟩ := EntsAt.get hx
  obtain ⟨a2, c2, rfl, _, _, ha2⟩ := EntsAt.get hy
  clear hx hy
  unfold maxLen at hm
  go_enter Tryz.func31, Tryz.ntmps31
  go_wp2_with fail
  go_loopw [5] (fun i wr => ∃ j n : Nat, j ≤ L.length ∧ i = .int .i64 j ∧ wr = w.drewN n) (fun i _ => L.length - (intOf i).toNat)
  case atStart => exact ⟨0, 0, Nat.zero_le _, rfl, rfl⟩
  case round =>
    obtain ⟨j, n, hj, rfl, rfl⟩ := hrel
    by_cases hlt : j < L.length
    · obtain ⟨b, o, rfl, d0, d1, d2, d3⟩ := ha j hlt
      obtain ⟨b2, o2, rfl, k0, k1, k2, k3⟩ := ha2 j hlt
      go_wp2
      go_quiet (fail)
      go_wp2
      exact ⟨⟨j + 1, _, by omega, by simp, rfl⟩, by simp [intOf]; omega⟩
    · have hje : j = L.length := by omega
      subst hje
      go_wp2
      go_ret
      exact ⟨rfl, below_drawn (Below.refl _ _) _⟩
end Go.Proofs.YtkhphdkjnpcnnaaGreatDoor

/- The reference's feeds: SinceOf, AddEntry: walked. -/
namespace Go.Proofs.YtkhphdkjnpcnnaaGreatDoor set_option linter.unusedVariables false set_option linter.unusedSimpArgs false
open Go.RowKit

/-- What is answered: entries, a fault. -/
def EntRR (w' : World) (r : List Ent × Nat × Int) (e : Ending) : Prop := ∃ v, e = .returned (.tuple #[v, faultF r.2.1 r.2.2]) ∧ EntsAt w' v r.1
theorem EntRR.mk {w' : World} {r : List Ent × Nat × Int} {L : List Ent} {c : Nat} {a z : Int} {v : Value} (hr : r = (L, c, a)) (hz : z = (c : Int)) (hv : EntsAt w' v L) : EntRR w' r (.returned (.tuple #[v, .agg #[.int .i64 z, .int .i64 a]])) := by
  subst hr hz
  exact ⟨v, rfl, hv⟩
theorem ent_kept {w1 : World} {n : Nat} {v0 v1 v2 v3 : Value} {T : TypeId} (h1 : w1.heap[n]? = some (.cells #[v0, v1, v2, v3] T (0, 0))) :
    (w1.cell? ⟨n, 0, none⟩ = some v0 ∧ w1.cell? ⟨n, 1, none⟩ = some v1 ∧ w1.cell? ⟨n, 2, none⟩ = some v2 ∧ w1.cell? ⟨n, 3, none⟩ = some v3) ∧ True := by
  refine ⟨⟨?_, ?_, ?_, ?_⟩, trivial⟩
  all_goals (rw [cell_of_row _ _ _ _ _ _ h1]; rfl)
/-- The same, entries of its own. -/
def EntRW (base : Nat) (w' : World) (r : List Ent × Nat × Int) (e : Ending) : Prop := ∃ v, e = .returned (.tuple #[v, faultF r.2.1 r.2.2]) ∧ RowG entC w' base 115 v r.1
theorem EntRW.mk {base : Nat} {w' : World} {r : List Ent × Nat × Int} {L : List Ent} {c : Nat} {a z : Int} {v : Value} (hr : r = (L, c, a)) (hz : z = (c : Int)) (hv : RowG entC w' base 115 v L) : EntRW base w' r (.returned (.tuple #[v, .agg #[.int .i64 z, .int .i64 a]])) := by
  subst hr
  subst hz
  exact ⟨v, rfl, hv⟩
set_option maxHeartbeats 8000000 in
set_option maxRecDepth 100000 in
theorem addR_row (v : Value) (L : List Ent) (time : Int) (f : Flo) (w : World) (hv : EntsAt w v L) (hm : ∀ e ∈ L, e.f.who.length ≤ maxLen) (hf : f.who.length ≤ maxLen) :
    Calls Tryz.prog 126 #[v, .int .i64 time, f.val] w fun e w' => EntRW w.heap.size w' (addE L time f) e ∧ Below w.heap.size w w' := by
  have hB0 := rbox_new f w
  have hff := Lib.hid (feedFaultR_any v L _ (AtG.below hv hB0.below) hm)
  have hvH := Lib.hid (fun wx (hx : Below w.heap.size w wx) => (show EntsAt wx v L from AtG.below hv hx))
  have hprev := fun q (hq : L.length = q + 1) => (show ∃ b o c, v = .slice (some ⟨b, o, none⟩) L.length c ∧ w.cell? ⟨b, o + q * 4 + 1, none⟩ = some (.int .i64 (wasE L L.length)) from by
    obtain ⟨a, c, rfl, _, _, hc⟩ := EntsAt.get hv
    obtain ⟨b', o', rfl, _, p1, _⟩ := hc q (by omega)
    refine ⟨b', o', c, rfl, ?_⟩
    rw [p1]
    unfold wasE
    rw [if_neg (by omega), show L.length - 1 = q by omega, getD_get (by omega)])
  have hwas0 : L.length = 0 → wasE L L.length = 0 := fun h => by unfold wasE; rw [if_pos h]
  obtain ⟨a0, c0, hv0⟩ := AtG.sl hv
  have hlen := AtG.len hv
  unfold maxLen at hlen
  have hent := Lib.hid (fun (hl : ¬ 60 ≤ L.length) wx => entR_any ⟨(L.length : Int) + 1, time, f⟩ L.length (wasE L L.length) wx hf (by omega))
  have hrdef : addE L time f = if (checkE L).1 ≠ 0 then ([], checkE L) else if 60 ≤ L.length then ([], 7, -1)
    else if entErr (wasE L L.length) L.length ⟨(L.length : Int) + 1, time, f⟩ ≠ 0 then ([], entErr (wasE L L.length) L.length ⟨(L.length : Int) + 1, time, f⟩, -1) else (L ++ [⟨(L.length : Int) + 1, time, f⟩], 0, -1) := rfl
  obtain ⟨fw, fe⟩ := f
  dsimp only [Flo.val, Flo.cells, Ent.val] at *
  have hB0 := Lib.hid hB0
  have hrdefH := Lib.hid hrdef
  clear hv hm hrdef hf
  by_cases hck : (checkE L).1 = 0
  case neg =>
    subst hv0
    obtain ⟨z, a1, hza⟩ : ∃ (z : Nat) (a1 : Int), checkE L = (z, a1) := ⟨_, _, rfl⟩
    have hr := hrdefH.out
    rw [if_pos hck, hza] at hr
    have hr := Lib.hid hr
    have hff := hff.out
    rw [hza] at hck hff
    dsimp only [faultF] at hck hff
    have hz1 : (0 : Int) < (z : Int) := by omega
    have hff := Lib.hid hff
    clear hza hck hprev hwas0 hent
    generalize hzd : (z : Int) = zi at *
    have hzd := Lib.hid hzd
    go_enter Tryz.func126, Tryz.ntmps126
    go_wp2_with fail
    refine hff.out.mono ?_
    rintro e w2 ⟨rfl, hb2⟩
    have hRN : RBox ⟨fw, fe⟩ w (w2.alloc (.cells #[.int .i64 zi, .int .i64 a1] 98)) := (hB0.out.later hb2).later ((Below.refl _ _).alloc (Nat.le_refl _) _)
    have hRNH := Lib.hid hRN
    obtain ⟨⟨r0, r1⟩, f0, f1⟩ := hRN.rcells
    clear hb2 hRN
    go_wp2_with fail
    go_region
    all_goals
      go_wp2_with fail
      have hR := hRNH.out.set (.int .i64 zi) (.int .i64 a1)
      have hR0 := hRNH.out.set0 (.int .i64 zi)
      exact bodyPost_ret (v := .tuple #[.slice none 0 0, .agg #[.int .i64 zi, .int .i64 a1]]) (by simp [results, Tryz.results126, go_sem, hR.1, hR0]) rfl ⟨EntRW.mk hr.out hzd.out.symm (RowG.nil _ _ _), hR.2.drew⟩
  have hck2 := checkE_ok hck
  have hr := hrdefH.out
  rw [if_neg (by simpa using hck)] at hr
  have hff := hff.out
  rw [hck2] at hff
  dsimp only [faultF] at hff
  have hff := Lib.hid hff
  clear hck hck2
  by_cases h60 : 60 ≤ L.length
  · subst hv0
    rw [if_pos h60] at hr
    have hr := Lib.hid hr
    have h60i : (60 : Int) ≤ (L.length : Int) := by omega
    clear hprev hwas0 hent
    go_enter Tryz.func126, Tryz.ntmps126
    go_wp2_with fail
    refine hff.out.mono ?_
    rintro e w2 ⟨rfl, hb2⟩
    have hR2 := Lib.hid (fun o => (hB0.out.later hb2).later ((Below.refl _ _).alloc (Nat.le_refl _) o))
    have hba := Lib.hid (fun wx => bareF_any 7 wx)
    clear hb2
    go_wp2_with fail
    refine (hba.out _).mono ?_
    rintro e w3 ⟨rfl, hb3⟩
    have hB3 := (hR2.out _).later hb3
    obtain ⟨⟨r0, r1⟩, f0, f1⟩ := hB3.rcells
    have hset := Lib.hid (hB3.set (.int .i64 7) (.int .i64 (-1)))
    clear hb3 hB3
    go_wp2_with fail
    exact bodyPost_ret (v := .tuple #[.slice none 0 0, .agg #[.int .i64 7, .int .i64 (-1)]]) (by simp [results, Tryz.results126, go_sem, hset.out.1]) rfl ⟨EntRW.mk hr.out rfl (RowG.nil _ _ _), hset.out.2⟩
  rw [if_neg h60] at hr
  have hent := Lib.hid (hent.out h60)
  have h60i : ¬ (60 : Int) ≤ (L.length : Int) := by omega
  generalize wasE L L.length = was at *
  generalize hcd : entErr was L.length ⟨(L.length : Int) + 1, time, ⟨fw, fe⟩⟩ = cd at *
  have hrH := Lib.hid hr
  clear hcd hr
  obtain ⟨n, hn⟩ : ∃ n, L.length = n := ⟨_, rfl⟩
  rw [hn] at hv0 hprev hwas0 h60i hent hlen
  have hn60 : n < 60 := by omega
  have hvH := hvH.out
  rw [hv0] at hvH
  have hvH := Lib.hid hvH
  have hff := hff.out
  rw [hv0] at hff
  have hff := Lib.hid hff
  have hrG := hrH.out
  rw [hn] at hrG
  have hrG := Lib.hid hrG
  have hstep : (n = 0 ∧ was = 0) ∨ ∃ q b o, n = q + 1 ∧ a0 = some ⟨b, o, none⟩ ∧ w.cell? ⟨b, o + q * 4 + 1, none⟩ = some (.int .i64 was) := by
    cases n with
    | zero => exact .inl ⟨rfl, hwas0 rfl⟩
    | succ q =>
      obtain ⟨b, o, c, h1, h2⟩ := hprev q rfl
      rw [hv0] at h1
      cases h1
      exact .inr ⟨q, b, o, rfl, rfl, h2⟩
  have hstep := Lib.hid hstep
  have hnL := Lib.hid hn
  have hcd1 : (0 : Int) < ((cd : Nat) : Int) ∨ cd = 0 := by omega
  clear hprev hwas0 hrH hrdefH h60
  subst hv0
  clear hn
  go_enter Tryz.func126, Tryz.ntmps126
  go_wp2_with fail
  refine hff.out.mono ?_
  rintro e w2 ⟨rfl, hb2⟩
  have hRW := Lib.hid ((hB0.out.later hb2).later ((Below.refl _ _).alloc (Nat.le_refl _) (.cells #[.int .i64 0, .int .i64 (-1)] 98)))
  clear hb2 hff
  go_upto_if 25 with fail
  generalize w2.alloc (.cells #[.int .i64 0, .int .i64 (-1)] 98) = W at *
  go_cut [9] from 26 to 32 (fun s9 wx => s9 = .int .i64 was ∧ W = wx)
  case first =>
    rcases hstep.out with ⟨h0, hw0⟩ | ⟨q, b, o, hq, ha, p1⟩
    · subst h0
      have hw0 := Lib.hid hw0
      go_wp2_with fail
      go_meet
      exact ⟨by rw [hw0.out], rfl⟩
    · subst hq
      subst ha
      have p1 := cell_below hRW.out.below p1
      have hq0 : (0 : Int) ≤ (q : Int) := by omega
      have hq1 : (q : Int) < (q : Int) + 1 := by omega
      go_wp2_with fail
      go_meet
      exact ⟨rfl, rfl⟩
  obtain ⟨rfl, rfl⟩ := hcut
  obtain ⟨b0, b1⟩ := hRW.out.cells
  have hbx := Lib.hid (heap_alloc_new W (.cells #[.int .i64 ((n : Int) + 1), .int .i64 time, .string (bs fw), .int .i64 fe] 115))
  have hRA := Lib.hid (hRW.out.later ((Below.refl _ _).alloc (Nat.le_refl _) (.cells #[.int .i64 ((n : Int) + 1), .int .i64 time, .string (bs fw), .int .i64 fe] 115)))
  have hent2 := Lib.hid (hent.out (W.alloc (.cells #[.int .i64 ((n : Int) + 1), .int .i64 time, .string (bs fw), .int .i64 fe] 115)))
  clear hstep hent
  go_wp2_with fail
  refine hent2.out.mono ?_
  rintro e w3 ⟨rfl, hb3⟩
  have hR3 := Lib.hid (hRA.out.later hb3)
  have hbx3 := Lib.hid (heap_down hb3 hbx.out)
  have hv3 := Lib.hid (hvH.out w3 hR3.out.below)
  clear hb3 hent2 b0 b1 hRA hbx hvH
  generalize W.heap.size = xb at *
  cases cd with
  | succ d =>
    have hr := hrG.out
    rw [if_pos (Nat.succ_ne_zero d)] at hr
    have hr := Lib.hid hr
    have hz1 : (0 : Int) < ((d + 1 : Nat) : Int) := by omega
    generalize hzd : ((d + 1 : Nat) : Int) = zi at *
    have hzd := Lib.hid hzd
    have hba := Lib.hid (bareF_any zi w3)
    clear hrG hcd1
    go_wp2_with fail
    refine hba.out.mono ?_
    rintro e w4 ⟨rfl, hb4⟩
    have hB4 := hR3.out.later hb4
    obtain ⟨⟨r0, r1⟩, f0, f1⟩ := hB4.rcells
    have hset := Lib.hid (hB4.set (.int .i64 zi) (.int .i64 (-1)))
    clear hb4 hB4
    go_wp2_with fail
    exact bodyPost_ret (v := .tuple #[.slice none 0 0, .agg #[.int .i64 zi, .int .i64 (-1)]]) (by simp [results, Tryz.results126, go_sem, hset.out.1]) rfl ⟨EntRW.mk hr.out hzd.out.symm (RowG.nil _ _ _), hset.out.2⟩
  | zero =>
    have hr := hrG.out
    rw [if_neg (by simp)] at hr
    have hr := Lib.hid hr
    have hz0 : (((0 : Nat) : Nat) : Int) = 0 := rfl
    clear hrG hcd1
    have hL60 := Lib.hid (show L.length < 60 by rw [hnL.out]; exact hn60)
    go_wp2_with (first
      | (at_builtin; refine wpList_appG entC _ rfl _ _ 38 rfl 115 (.agg #[.int .i64 0, .int .i64 0, .string ⟨#[]⟩, .int .i64 0]) 40 Tryz.underlying38 info_ent rfl (by decide) w3.heap.size _ [] rfl (RowG.nil _ _ _) _ L rfl hv3.out (by have := hL60.out; simp; omega) (Nat.le_refl _) ?_)
      | go_in)
    intro v6 w6 hown6 hb6 _ _
    obtain ⟨a6, c6, hs6⟩ := hown6.sl
    rw [hnL.out] at hs6
    subst hs6
    have hR6 := Lib.hid (hR3.out.later hb6)
    obtain ⟨⟨x0, x1, x2, x3⟩, _⟩ := ent_kept (heap_down hb6 hbx3.out)
    have hs36 := hb6.size
    have hown6 := Lib.hid hown6
    have hb6H := Lib.hid hb6
    clear hb6
    go_wp2_with (first
      | (at_builtin; refine wpList_appG entC _ rfl _ _ 38 rfl 115 (.agg #[.int .i64 0, .int .i64 0, .string ⟨#[]⟩, .int .i64 0]) 40 Tryz.underlying38 info_ent rfl (by decide) w3.heap.size _ L (by rfl) (RowG.alloc hown6.out _) _ [⟨(n : Int) + 1, time, ⟨fw, fe⟩⟩] rfl (AtG.new _ _ _ rfl) (by have := hL60.out; simp; omega) (by simp; omega) ?_)
      | go_in)
    intro v7 w7 hown7 hb7 _ _
    obtain ⟨a7, c7, hs7⟩ := hown7.sl
    rw [List.length_append, List.length_singleton, hnL.out] at hs7
    subst hs7
    have h36 := Nat.le_trans hR3.out.size hs36
    have hR7 := Lib.hid (hR6.out.keep (((Below.refl _ _).alloc (Nat.le_trans hR3.out.size hs36) _).trans (hb7.mono hR3.out.size)))
    have hown7 := Lib.hid hown7
    have hfi := Lib.hid (fineF_any w7)
    have h2w := Lib.hid hR3.out.size
    clear hb7 x0 x1 x2 x3 hown6
    go_wp2_with fail
    refine hfi.out.mono ?_
    rintro e w8 ⟨rfl, hb8⟩
    have hB8 := hR7.out.later hb8
    have hrow8 := RowG.below hown7.out hb8
    obtain ⟨⟨r0, r1⟩, f0, f1⟩ := hB8.rcells
    have hset := Lib.hid (hB8.set (.int .i64 0) (.int .i64 (-1)))
    have hne : ∀ g, (Value.slice a7 (n + 1) c7).ownBlock = some g → g ≠ w.heap.size + 1 := fun g hg => by have h1 := (hrow8.block hg).1; have h2 := h2w.out; omega
    have hrow9 := Lib.hid ((hrow8.other ⟨w.heap.size + 1, 0, none⟩ (.int .i64 0) hne).other ⟨w.heap.size + 1, 1, none⟩ (.int .i64 (-1)) hne)
    clear hb8 hB8 hrow8 hne
    go_wp2_with fail
    exact bodyPost_ret (v := .tuple #[.slice a7 (n + 1) c7, .agg #[.int .i64 0, .int .i64 (-1)]]) (by simp [results, Tryz.results126, go_sem, hset.out.1]) rfl ⟨EntRW.mk hr.out rfl (RowG.mono hrow9.out (Nat.le_trans (Nat.le_add_right _ _) h2w.out)), hset.out.2⟩
theorem addR_ent (v : Value) (L : List Ent) (time : Int) (f : Flo) (w : World) (hv : EntsAt w v L) (hm : ∀ e ∈ L, e.f.who.length ≤ maxLen) (hf : f.who.length ≤ maxLen) :
    Calls Tryz.prog 126 #[v, .int .i64 time, f.val] w fun e w' => EntRR w' (addE L time f) e ∧ Below w.heap.size w w' :=
  (addR_row v L time f w hv hm hf).mono fun e w' ⟨⟨v, he, hr⟩, hb⟩ => ⟨⟨v, he, RowG.at_ hr⟩, hb⟩
end Go.Proofs.YtkhphdkjnpcnnaaGreatDoor
