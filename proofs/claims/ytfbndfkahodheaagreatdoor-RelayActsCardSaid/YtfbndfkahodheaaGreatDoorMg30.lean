/- RefJ, RefJ2 -/
import Derived.Test.YtfbndfkahodheaaGreatDoorMg18
import Derived.Test.YtfbndfkahodheaaGreatDoorMg21
/- The reference's feeds: SinceOf, AddEntry: walked. -/
namespace Go.Proofs.YtfbndfkahodheaaGreatDoor
open Go.RowKit

/-- What is answered: entries, a fault. -/
def EntRR (w' : World) (r : List Ent × Nat × Int) (e : Ending) : Prop := ∃ v, e = .returned (.tuple #[v, faultF r.2.1 r.2.2]) ∧ EntsAt w' v r.1
theorem EntRR.mk {w' : World} {r : List Ent × Nat × Int} {L : List Ent} {c : Nat} {a z : Int} {v : Value} (hr : r = (L, c, a)) (hz : z = (c : Int)) (hv : EntsAt w' v L) : EntRR w' r (.returned (.tuple #[v, .agg #[.int .i64 z, .int .i64 a]])) := by
  subst hr hz
  exact ⟨v, rfl, hv⟩
set_option maxHeartbeats 8000000 in
set_option maxRecDepth 100000 in
theorem sinceR_ent (v : Value) (L : List Ent) (seq : Int) (w : World) (hv : EntsAt w v L) (hm : ∀ e ∈ L, e.f.who.length ≤ maxLen) :
    Calls Tryz.prog 19 #[v, .int .i64 seq] w fun e w' => EntRR w' (sinceE L seq) e ∧ Below w.heap.size w w' := by
  have hB0 : FBox w (w.alloc (.cells #[.int .i64 0, .int .i64 0] 33)) := ⟨heap_alloc_new w _, (Below.refl _ _).alloc (Nat.le_refl _) _⟩
  have hff := Lib.hid (feedFaultR_any v L (w.alloc (.cells #[.int .i64 0, .int .i64 0] 33)) (AtG.below hv hB0.2) hm)
  have hvH := Lib.hid (fun wx (hx : Below w.heap.size w wx) => (show EntsAt wx v L from AtG.below hv hx))
  obtain ⟨a0, c0, hv0⟩ := AtG.sl hv
  have hcap : L.length ≤ c0 := by
    obtain ⟨_, _, he, _, h, _⟩ := hv
    rw [hv0] at he
    cases he
    exact h
  have hlen := AtG.len hv
  unfold maxLen at hlen
  have hB0 := Lib.hid hB0
  have hrdef := Lib.hid (show sinceE L seq = if (checkE L).1 ≠ 0 then ([], checkE L) else if seq < 0 then ([], 2, -1) else if (L.length : Int) < seq then ([], 15, -1) else (L.drop seq.toNat, 0, -1) from rfl)
  clear hv hm
  subst hv0
  by_cases hck : (checkE L).1 = 0
  case neg =>
    obtain ⟨z, a1, hza⟩ : ∃ (z : Nat) (a1 : Int), checkE L = (z, a1) := ⟨_, _, rfl⟩
    have hr := hrdef.out
    rw [if_pos hck, hza] at hr
    have hr := Lib.hid hr
    have hff := hff.out
    rw [hza] at hck hff
    dsimp only [faultF] at hck hff
    have hz1 : (0 : Int) < (z : Int) := by omega
    have hff := Lib.hid hff
    clear hza hck
    generalize hzd : (z : Int) = zi at *
    have hzd := Lib.hid hzd
    go_enter Tryz.func19, Tryz.ntmps19
    go_wp2_with fail
    refine hff.out.mono ?_
    rintro e w2 ⟨rfl, hb2⟩
    have hR2 := hB0.out.below hb2
    have hRN : FBox w (w2.alloc (.cells #[.int .i64 zi, .int .i64 a1] 33)) := hR2.below ((Below.refl _ _).alloc (Nat.le_refl _) _)
    have hRNH := Lib.hid hRN
    obtain ⟨⟨r0, r1⟩, f0, f1⟩ := hRN.cells
    clear hb2 hR2 hRN
    go_wp2_with fail
    go_region
    all_goals
      go_wp2_with fail
      have hR := hRNH.out.set (.int .i64 zi) (.int .i64 a1)
      have hR0 := set2_first hRNH.out.1 (.int .i64 zi)
      exact bodyPost_ret (v := .tuple #[.slice none 0 0, .agg #[.int .i64 zi, .int .i64 a1]]) (by simp [results, Tryz.results19, go_sem, hR.1, hR0]) rfl ⟨EntRR.mk hr.out hzd.out.symm (AtG.nil _), hR.2.drew⟩
  have hck2 := checkE_ok hck
  have hr := hrdef.out
  rw [if_neg (by simpa using hck)] at hr
  have hff := hff.out
  rw [hck2] at hff
  dsimp only [faultF] at hff
  have hff := Lib.hid hff
  have hrH := Lib.hid hr
  clear hck hck2 hr
  by_cases h0 : seq < 0
  · have hr := hrH.out
    rw [if_pos h0] at hr
    have hr := Lib.hid hr
    go_enter Tryz.func19, Tryz.ntmps19
    go_wp2_with fail
    refine hff.out.mono ?_
    rintro e w2 ⟨rfl, hb2⟩
    have hR2 := Lib.hid (fun o => (hB0.out.below hb2).below ((Below.refl _ _).alloc (Nat.le_refl _) o))
    have hba := Lib.hid (fun wx => bareF_any 2 wx)
    clear hb2
    go_wp2_with fail
    refine (hba.out _).mono ?_
    rintro e w3 ⟨rfl, hb3⟩
    have hB3 := (hR2.out _).below hb3
    obtain ⟨⟨r0, r1⟩, f0, f1⟩ := hB3.cells
    have hset := Lib.hid (hB3.set (.int .i64 2) (.int .i64 (-1)))
    clear hb3 hB3
    go_wp2_with fail
    exact bodyPost_ret (v := .tuple #[.slice none 0 0, .agg #[.int .i64 2, .int .i64 (-1)]]) (by simp [results, Tryz.results19, go_sem, hset.out.1]) rfl ⟨EntRR.mk hr.out rfl (AtG.nil _), hset.out.2⟩
  by_cases h1 : (L.length : Int) < seq
  · have hr := hrH.out
    rw [if_neg h0, if_pos h1] at hr
    have hr := Lib.hid hr
    go_enter Tryz.func19, Tryz.ntmps19
    go_wp2_with fail
    refine hff.out.mono ?_
    rintro e w2 ⟨rfl, hb2⟩
    have hR2 := Lib.hid (fun o => (hB0.out.below hb2).below ((Below.refl _ _).alloc (Nat.le_refl _) o))
    have hba := Lib.hid (fun wx => bareF_any 15 wx)
    clear hb2
    go_wp2_with fail
    refine (hba.out _).mono ?_
    rintro e w3 ⟨rfl, hb3⟩
    have hB3 := (hR2.out _).below hb3
    obtain ⟨⟨r0, r1⟩, f0, f1⟩ := hB3.cells
    have hset := Lib.hid (hB3.set (.int .i64 15) (.int .i64 (-1)))
    clear hb3 hB3
    go_wp2_with fail
    exact bodyPost_ret (v := .tuple #[.slice none 0 0, .agg #[.int .i64 15, .int .i64 (-1)]]) (by simp [results, Tryz.results19, go_sem, hset.out.1]) rfl ⟨EntRR.mk hr.out rfl (AtG.nil _), hset.out.2⟩
  have hr := hrH.out
  rw [if_neg h0, if_neg h1] at hr
  obtain ⟨m, rfl⟩ : ∃ m : Nat, seq = m := ⟨seq.toNat, by omega⟩
  rw [Int.toNat_natCast] at hr
  have hml : m ≤ L.length := by omega
  have hr := Lib.hid hr
  have hEnd : ∃ av, Hid (∀ wx, Below w.heap.size w wx → EntsAt wx av (L.drop m)) ∧ ((c0 = m ∧ L.length = m ∧ av = .slice a0 0 0) ∨ (¬ c0 = m ∧ av = .slice (Option.map (fun x => x.add (m * 4)) a0) (L.length - m) (c0 - m))) := by
    by_cases hcf : c0 = m
    · refine ⟨_, Lib.hid (fun wx hx => ?_), .inl ⟨hcf, by omega, rfl⟩⟩
      have h := AtG.drop (n := m) (hvH.out wx hx) hml
      rw [if_pos hcf, show L.length - m = 0 by omega, show c0 - m = 0 by omega] at h
      exact h
    · refine ⟨_, Lib.hid (fun wx hx => ?_), .inr ⟨hcf, rfl⟩⟩
      have h := AtG.drop (n := m) (hvH.out wx hx) hml
      rw [if_neg hcf] at h
      exact h
  clear hrH h0 h1
  obtain ⟨av, hav, hcs⟩ := hEnd
  rcases hcs with ⟨h1, h2, rfl⟩ | ⟨h1, rfl⟩
  case' inl =>
    generalize hLl : L.length = ll at *
    obtain rfl : m = ll := h2.symm
    obtain rfl : m = c0 := h1.symm
    clear hLl hcap
  all_goals
    go_enter Tryz.func19, Tryz.ntmps19
    go_wp2_with fail
    refine hff.out.mono ?_
    rintro e w2 ⟨rfl, hb2⟩
    have hR2 := hB0.out.below hb2
    have hRN : TBox w2.heap.size w (w2.alloc (.cells #[.int .i64 0, .int .i64 (-1)] 33)) := ⟨heap_down ((Below.refl _ _).alloc (Nat.le_refl _) _) hR2.1, heap_alloc_new w2 _, (Array.getElem?_eq_some_iff.1 hR2.1).1, hR2.2.alloc hR2.2.size _⟩
    obtain ⟨⟨r0, r1⟩, f0, f1⟩ := hRN.fbox.cells
    have hRNH := Lib.hid hRN
    clear hb2 hR2 hRN
    go_wp2_with fail
    go_region
    all_goals
      go_wp2_with fail
      have hR := hRNH.out.fbox.set (.int .i64 0) (.int .i64 (-1))
      have hR0 := set2_first hRNH.out.res (.int .i64 0)
      first
        | exact bodyPost_ret (v := .tuple #[.slice a0 0 0, .agg #[.int .i64 0, .int .i64 (-1)]]) (by simp [results, Tryz.results19, go_sem, hR.1, hR0]) rfl ⟨EntRR.mk hr.out rfl (hav.out _ hR.2.drew), hR.2.drew⟩
        | exact bodyPost_ret (v := .tuple #[.slice (Option.map (fun x => x.add (m * 4)) a0) (L.length - m) (c0 - m), .agg #[.int .i64 0, .int .i64 (-1)]]) (by simp [results, Tryz.results19, go_sem, hR.1, hR0]) rfl ⟨EntRR.mk hr.out rfl (hav.out _ hR.2.drew), hR.2.drew⟩
theorem ent_kept {w1 : World} {n : Nat} {v0 v1 v2 v3 : Value} {T : TypeId} (h1 : w1.heap[n]? = some (.cells #[v0, v1, v2, v3] T (0, 0))) :
    (w1.cell? ⟨n, 0, none⟩ = some v0 ∧ w1.cell? ⟨n, 1, none⟩ = some v1 ∧ w1.cell? ⟨n, 2, none⟩ = some v2 ∧ w1.cell? ⟨n, 3, none⟩ = some v3) ∧ True := by
  refine ⟨⟨?_, ?_, ?_, ?_⟩, trivial⟩
  all_goals (rw [cell_of_row _ _ _ _ _ _ h1]; rfl)
set_option maxHeartbeats 8000000 in
set_option maxRecDepth 100000 in
theorem addR_ent (v : Value) (L : List Ent) (time : Int) (f : Flo) (w : World) (hv : EntsAt w v L) (hm : ∀ e ∈ L, e.f.who.length ≤ maxLen) (hf : f.who.length ≤ maxLen) :
    Calls Tryz.prog 13 #[v, .int .i64 time, f.val] w fun e w' => EntRR w' (addE L time f) e ∧ Below w.heap.size w w' := by
  have hB0 := rbox_new f w
  have hff := Lib.hid (feedFaultR_any v L _ (AtG.below hv hB0.below) hm)
  have hvH := Lib.hid (fun wx (hx : Below w.heap.size w wx) => (show EntsAt wx v L from AtG.below hv hx))
  have hprev := fun q (hq : L.length = q + 1) => (show ∃ b o c, v = .slice (some ⟨b, o, none⟩) L.length c ∧ w.cell? ⟨b, o + q * 4 + 1, none⟩ = some (.int .i64 (wasE L L.length)) from by
    obtain ⟨a, c, rfl, _, _, hc⟩ := EntsAt.get hv
    obtain ⟨b', o', rfl, _, p1, _⟩ := hc q (by omega)
    refine ⟨b', o', c, rfl, ?_⟩
    rw [p1]
    unfold wasE
    rw [if_neg (by omega), show L.length - 1 = q by omega, getD_get (by omega)])
  have hwas0 : L.length = 0 → wasE L L.length = 0 := fun h => by unfold wasE; rw [if_pos h]
  obtain ⟨a0, c0, hv0⟩ := AtG.sl hv
  have hlen := AtG.len hv
  unfold maxLen at hlen
  have hent := Lib.hid (fun (hl : ¬ 60 ≤ L.length) wx => entR_any ⟨(L.length : Int) + 1, time, f⟩ L.length (wasE L L.length) wx hf (by omega))
  have hrdef : addE L time f = if (checkE L).1 ≠ 0 then ([], checkE L) else if 60 ≤ L.length then ([], 7, -1)
    else if entErr (wasE L L.length) L.length ⟨(L.length : Int) + 1, time, f⟩ ≠ 0 then ([], entErr (wasE L L.length) L.length ⟨(L.length : Int) + 1, time, f⟩, -1) else (L ++ [⟨(L.length : Int) + 1, time, f⟩], 0, -1) := rfl
  obtain ⟨fw, fe⟩ := f
  dsimp only [Flo.val, Flo.cells, Ent.val] at *
  have hB0 := Lib.hid hB0
  have hrdefH := Lib.hid hrdef
  clear hv hm hrdef hf
  by_cases hck : (checkE L).1 = 0
  case neg =>
    subst hv0
    obtain ⟨z, a1, hza⟩ : ∃ (z : Nat) (a1 : Int), checkE L = (z, a1) := ⟨_, _, rfl⟩
    have hr := hrdefH.out
    rw [if_pos hck, hza] at hr
    have hr := Lib.hid hr
    have hff := hff.out
    rw [hza] at hck hff
    dsimp only [faultF] at hck hff
    have hz1 : (0 : Int) < (z : Int) := by omega
    have hff := Lib.hid hff
    clear hza hck hprev hwas0 hent
    generalize hzd : (z : Int) = zi at *
    have hzd := Lib.hid hzd
    go_enter Tryz.func13, Tryz.ntmps13
    go_wp2_with fail
    refine hff.out.mono ?_
    rintro e w2 ⟨rfl, hb2⟩
    have hRN : RBox ⟨fw, fe⟩ w (w2.alloc (.cells #[.int .i64 zi, .int .i64 a1] 33)) := (hB0.out.later hb2).later ((Below.refl _ _).alloc (Nat.le_refl _) _)
    have hRNH := Lib.hid hRN
    obtain ⟨⟨r0, r1⟩, f0, f1⟩ := hRN.rcells
    clear hb2 hRN
    go_wp2_with fail
    go_region
    all_goals
      go_wp2_with fail
      have hR := hRNH.out.set (.int .i64 zi) (.int .i64 a1)
      have hR0 := hRNH.out.set0 (.int .i64 zi)
      exact bodyPost_ret (v := .tuple #[.slice none 0 0, .agg #[.int .i64 zi, .int .i64 a1]]) (by simp [results, Tryz.results13, go_sem, hR.1, hR0]) rfl ⟨EntRR.mk hr.out hzd.out.symm (AtG.nil _), hR.2.drew⟩
  have hck2 := checkE_ok hck
  have hr := hrdefH.out
  rw [if_neg (by simpa using hck)] at hr
  have hff := hff.out
  rw [hck2] at hff
  dsimp only [faultF] at hff
  have hff := Lib.hid hff
  clear hck hck2
  by_cases h60 : 60 ≤ L.length
  · subst hv0
    rw [if_pos h60] at hr
    have hr := Lib.hid hr
    have h60i : (60 : Int) ≤ (L.length : Int) := by omega
    clear hprev hwas0 hent
    go_enter Tryz.func13, Tryz.ntmps13
    go_wp2_with fail
    refine hff.out.mono ?_
    rintro e w2 ⟨rfl, hb2⟩
    have hR2 := Lib.hid (fun o => (hB0.out.later hb2).later ((Below.refl _ _).alloc (Nat.le_refl _) o))
    have hba := Lib.hid (fun wx => bareF_any 7 wx)
    clear hb2
    go_wp2_with fail
    refine (hba.out _).mono ?_
    rintro e w3 ⟨rfl, hb3⟩
    have hB3 := (hR2.out _).later hb3
    obtain ⟨⟨r0, r1⟩, f0, f1⟩ := hB3.rcells
    have hset := Lib.hid (hB3.set (.int .i64 7) (.int .i64 (-1)))
    clear hb3 hB3
    go_wp2_with fail
    exact bodyPost_ret (v := .tuple #[.slice none 0 0, .agg #[.int .i64 7, .int .i64 (-1)]]) (by simp [results, Tryz.results13, go_sem, hset.out.1]) rfl ⟨EntRR.mk hr.out rfl (AtG.nil _), hset.out.2⟩
  rw [if_neg h60] at hr
  have hent := Lib.hid (hent.out h60)
  have h60i : ¬ (60 : Int) ≤ (L.length : Int) := by omega
  generalize wasE L L.length = was at *
  generalize hcd : entErr was L.length ⟨(L.length : Int) + 1, time, ⟨fw, fe⟩⟩ = cd at *
  have hrH := Lib.hid hr
  clear hcd hr
  obtain ⟨n, hn⟩ : ∃ n, L.length = n := ⟨_, rfl⟩
  rw [hn] at hv0 hprev hwas0 h60i hent hlen
  have hn60 : n < 60 := by omega
  have hvH := hvH.out
  rw [hv0] at hvH
  have hvH := Lib.hid hvH
  have hff := hff.out
  rw [hv0] at hff
  have hff := Lib.hid hff
  have hrG := hrH.out
  rw [hn] at hrG
  have hrG := Lib.hid hrG
  have hstep : (n = 0 ∧ was = 0) ∨ ∃ q b o, n = q + 1 ∧ a0 = some ⟨b, o, none⟩ ∧ w.cell? ⟨b, o + q * 4 + 1, none⟩ = some (.int .i64 was) := by
    cases n with
    | zero => exact .inl ⟨rfl, hwas0 rfl⟩
    | succ q =>
      obtain ⟨b, o, c, h1, h2⟩ := hprev q rfl
      rw [hv0] at h1
      cases h1
      exact .inr ⟨q, b, o, rfl, rfl, h2⟩
  have hstep := Lib.hid hstep
  have hnL := Lib.hid hn
  have hcd1 : (0 : Int) < ((cd : Nat) : Int) ∨ cd = 0 := by omega
  clear hprev hwas0 hrH hrdefH h60
  subst hv0
  clear hn
  go_enter Tryz.func13, Tryz.ntmps13
  go_wp2_with fail
  refine hff.out.mono ?_
  rintro e w2 ⟨rfl, hb2⟩
  have hRW := Lib.hid ((hB0.out.later hb2).later ((Below.refl _ _).alloc (Nat.le_refl _) (.cells #[.int .i64 0, .int .i64 (-1)] 33)))
  clear hb2 hff
  go_upto_if 25 with fail
  generalize w2.alloc (.cells #[.int .i64 0, .int .i64 (-1)] 33) = W at *
  go_cut [9] from 26 to 32 (fun s9 wx => s9 = .int .i64 was ∧ W = wx)
  case first =>
    rcases hstep.out with ⟨h0, hw0⟩ | ⟨q, b, o, hq, ha, p1⟩
    · subst h0
      have hw0 := Lib.hid hw0
      go_wp2_with fail
      go_meet
      exact ⟨by rw [hw0.out], rfl⟩
    · subst hq
      subst ha
      have p1 := cell_below hRW.out.below p1
      have hq0 : (0 : Int) ≤ (q : Int) := by omega
      have hq1 : (q : Int) < (q : Int) + 1 := by omega
      go_wp2_with fail
      go_meet
      exact ⟨rfl, rfl⟩
  obtain ⟨rfl, rfl⟩ := hcut
  obtain ⟨b0, b1⟩ := hRW.out.cells
  have hbx := Lib.hid (heap_alloc_new W (.cells #[.int .i64 ((n : Int) + 1), .int .i64 time, .string (bs fw), .int .i64 fe] 102))
  have hRA := Lib.hid (hRW.out.later ((Below.refl _ _).alloc (Nat.le_refl _) (.cells #[.int .i64 ((n : Int) + 1), .int .i64 time, .string (bs fw), .int .i64 fe] 102)))
  have hent2 := Lib.hid (hent.out (W.alloc (.cells #[.int .i64 ((n : Int) + 1), .int .i64 time, .string (bs fw), .int .i64 fe] 102)))
  clear hstep hent
  go_wp2_with fail
  refine hent2.out.mono ?_
  rintro e w3 ⟨rfl, hb3⟩
  have hR3 := Lib.hid (hRA.out.later hb3)
  have hbx3 := Lib.hid (heap_down hb3 hbx.out)
  have hv3 := Lib.hid (hvH.out w3 hR3.out.below)
  clear hb3 hent2 b0 b1 hRA hbx hvH
  generalize W.heap.size = xb at *
  cases cd with
  | succ d =>
    have hr := hrG.out
    rw [if_pos (Nat.succ_ne_zero d)] at hr
    have hr := Lib.hid hr
    have hz1 : (0 : Int) < ((d + 1 : Nat) : Int) := by omega
    generalize hzd : ((d + 1 : Nat) : Int) = zi at *
    have hzd := Lib.hid hzd
    have hba := Lib.hid (bareF_any zi w3)
    clear hrG hcd1
    go_wp2_with fail
    refine hba.out.mono ?_
    rintro e w4 ⟨rfl, hb4⟩
    have hB4 := hR3.out.later hb4
    obtain ⟨⟨r0, r1⟩, f0, f1⟩ := hB4.rcells
    have hset := Lib.hid (hB4.set (.int .i64 zi) (.int .i64 (-1)))
    clear hb4 hB4
    go_wp2_with fail
    exact bodyPost_ret (v := .tuple #[.slice none 0 0, .agg #[.int .i64 zi, .int .i64 (-1)]]) (by simp [results, Tryz.results13, go_sem, hset.out.1]) rfl ⟨EntRR.mk hr.out hzd.out.symm (AtG.nil _), hset.out.2⟩
  | zero =>
    have hr := hrG.out
    rw [if_neg (by simp)] at hr
    have hr := Lib.hid hr
    have hz0 : (((0 : Nat) : Nat) : Int) = 0 := rfl
    clear hrG hcd1
    have hL60 := Lib.hid (show L.length < 60 by rw [hnL.out]; exact hn60)
    go_wp2_with (first
      | (at_builtin; refine wpList_appG entC _ rfl _ _ 22 rfl 102 (.agg #[.int .i64 0, .int .i64 0, .string ⟨#[]⟩, .int .i64 0]) 40 Tryz.underlying22 info_ent rfl (by decide) w3.heap.size _ [] rfl (RowG.nil _ _ _) _ L rfl hv3.out (by have := hL60.out; simp; omega) (Nat.le_refl _) ?_)
      | go_in)
    intro v6 w6 hown6 hb6 _ _
    obtain ⟨a6, c6, hs6⟩ := hown6.sl
    rw [hnL.out] at hs6
    subst hs6
    have hR6 := Lib.hid (hR3.out.later hb6)
    obtain ⟨⟨x0, x1, x2, x3⟩, _⟩ := ent_kept (heap_down hb6 hbx3.out)
    have hs36 := hb6.size
    have hown6 := Lib.hid hown6
    have hb6H := Lib.hid hb6
    clear hb6
    go_wp2_with (first
      | (at_builtin; refine wpList_appG entC _ rfl _ _ 22 rfl 102 (.agg #[.int .i64 0, .int .i64 0, .string ⟨#[]⟩, .int .i64 0]) 40 Tryz.underlying22 info_ent rfl (by decide) w3.heap.size _ L (by rfl) (RowG.alloc hown6.out _) _ [⟨(n : Int) + 1, time, ⟨fw, fe⟩⟩] rfl (AtG.new _ _ _ rfl) (by have := hL60.out; simp; omega) (by simp; omega) ?_)
      | go_in)
    intro v7 w7 hown7 hb7 _ _
    obtain ⟨a7, c7, hs7⟩ := hown7.sl
    rw [List.length_append, List.length_singleton, hnL.out] at hs7
    subst hs7
    have h36 := Nat.le_trans hR3.out.size hs36
    have hR7 := Lib.hid (hR6.out.keep (((Below.refl _ _).alloc (Nat.le_trans hR3.out.size hs36) _).trans (hb7.mono hR3.out.size)))
    have hown7 := Lib.hid hown7
    have hfi := Lib.hid (fineF_any w7)
    have h2w := Lib.hid hR3.out.size
    clear hb7 x0 x1 x2 x3 hown6
    go_wp2_with fail
    refine hfi.out.mono ?_
    rintro e w8 ⟨rfl, hb8⟩
    have hB8 := hR7.out.later hb8
    have hrow8 := RowG.below hown7.out hb8
    obtain ⟨⟨r0, r1⟩, f0, f1⟩ := hB8.rcells
    have hset := Lib.hid (hB8.set (.int .i64 0) (.int .i64 (-1)))
    have hne : ∀ g, (Value.slice a7 (n + 1) c7).ownBlock = some g → g ≠ w.heap.size + 1 := fun g hg => by have h1 := (hrow8.block hg).1; have h2 := h2w.out; omega
    have hrow9 := Lib.hid ((hrow8.other ⟨w.heap.size + 1, 0, none⟩ (.int .i64 0) hne).other ⟨w.heap.size + 1, 1, none⟩ (.int .i64 (-1)) hne)
    clear hb8 hB8 hrow8 hne
    go_wp2_with fail
    exact bodyPost_ret (v := .tuple #[.slice a7 (n + 1) c7, .agg #[.int .i64 0, .int .i64 (-1)]]) (by simp [results, Tryz.results13, go_sem, hset.out.1]) rfl ⟨EntRR.mk hr.out rfl (RowG.at_ hrow9.out), hset.out.2⟩
end Go.Proofs.YtfbndfkahodheaaGreatDoor

/- The reference's SinceOf, its entries in the feed's own row: walked. -/
namespace Go.Proofs.YtfbndfkahodheaaGreatDoor
open Go.RowKit

/-- What is answered: entries that lie where the feed's lie, a fault. -/
def EntRF (w0 : World) (r : List Ent × Nat × Int) (e : Ending) : Prop := ∃ v, e = .returned (.tuple #[v, faultF r.2.1 r.2.2]) ∧ ∀ wx, Below w0.heap.size w0 wx → EntsAt wx v r.1
theorem EntRF.mk {w0 : World} {r : List Ent × Nat × Int} {L : List Ent} {c : Nat} {a z : Int} {v : Value} (hr : r = (L, c, a)) (hz : z = (c : Int)) (hv : ∀ wx, Below w0.heap.size w0 wx → EntsAt wx v L) : EntRF w0 r (.returned (.tuple #[v, .agg #[.int .i64 z, .int .i64 a]])) := by
  subst hr hz
  exact ⟨v, rfl, hv⟩
set_option maxHeartbeats 8000000 in
set_option maxRecDepth 100000 in
theorem sinceR_from (w0 : World) (v : Value) (L : List Ent) (seq : Int) (w : World) (hw0 : Below w0.heap.size w0 w) (hv : EntsAt w0 v L) (hm : ∀ e ∈ L, e.f.who.length ≤ maxLen) :
    Calls Tryz.prog 19 #[v, .int .i64 seq] w fun e w' => EntRF w0 (sinceE L seq) e ∧ Below w.heap.size w w' := by
  have hB0 : FBox w (w.alloc (.cells #[.int .i64 0, .int .i64 0] 33)) := ⟨heap_alloc_new w _, (Below.refl _ _).alloc (Nat.le_refl _) _⟩
  have hff := Lib.hid (feedFaultR_any v L (w.alloc (.cells #[.int .i64 0, .int .i64 0] 33)) (AtG.below hv (below_trans hw0 hB0.2)) hm)
  have hvH := Lib.hid (fun wx (hx : Below w0.heap.size w0 wx) => (show EntsAt wx v L from AtG.below hv hx))
  obtain ⟨a0, c0, hv0⟩ := AtG.sl hv
  have hcap : L.length ≤ c0 := by
    obtain ⟨_, _, he, _, h, _⟩ := hv
    rw [hv0] at he
    cases he
    exact h
  have hlen := AtG.len hv
  unfold maxLen at hlen
  have hB0 := Lib.hid hB0
  have hrdef := Lib.hid (show sinceE L seq = if (checkE L).1 ≠ 0 then ([], checkE L) else if seq < 0 then ([], 2, -1) else if (L.length : Int) < seq then ([], 15, -1) else (L.drop seq.toNat, 0, -1) from rfl)
  clear hv hm hw0
  subst hv0
  by_cases hck : (checkE L).1 = 0
  case neg =>
    obtain ⟨z, a1, hza⟩ : ∃ (z : Nat) (a1 : Int), checkE L = (z, a1) := ⟨_, _, rfl⟩
    have hr := hrdef.out
    rw [if_pos hck, hza] at hr
    have hr := Lib.hid hr
    have hff := hff.out
    rw [hza] at hck hff
    dsimp only [faultF] at hck hff
    have hz1 : (0 : Int) < (z : Int) := by omega
    have hff := Lib.hid hff
    clear hza hck
    generalize hzd : (z : Int) = zi at *
    have hzd := Lib.hid hzd
    go_enter Tryz.func19, Tryz.ntmps19
    go_wp2_with fail
    refine hff.out.mono ?_
    rintro e w2 ⟨rfl, hb2⟩
    have hR2 := hB0.out.below hb2
    have hRN : FBox w (w2.alloc (.cells #[.int .i64 zi, .int .i64 a1] 33)) := hR2.below ((Below.refl _ _).alloc (Nat.le_refl _) _)
    have hRNH := Lib.hid hRN
    obtain ⟨⟨r0, r1⟩, f0, f1⟩ := hRN.cells
    clear hb2 hR2 hRN
    go_wp2_with fail
    go_region
    all_goals
      go_wp2_with fail
      have hR := hRNH.out.set (.int .i64 zi) (.int .i64 a1)
      have hR0 := set2_first hRNH.out.1 (.int .i64 zi)
      exact bodyPost_ret (v := .tuple #[.slice none 0 0, .agg #[.int .i64 zi, .int .i64 a1]]) (by simp [results, Tryz.results19, go_sem, hR.1, hR0]) rfl ⟨EntRF.mk hr.out hzd.out.symm (fun _ _ => AtG.nil _), hR.2.drew⟩
  have hck2 := checkE_ok hck
  have hr := hrdef.out
  rw [if_neg (by simpa using hck)] at hr
  have hff := hff.out
  rw [hck2] at hff
  dsimp only [faultF] at hff
  have hff := Lib.hid hff
  have hrH := Lib.hid hr
  clear hck hck2 hr
  by_cases h0 : seq < 0
  · have hr := hrH.out
    rw [if_pos h0] at hr
    have hr := Lib.hid hr
    go_enter Tryz.func19, Tryz.ntmps19
    go_wp2_with fail
    refine hff.out.mono ?_
    rintro e w2 ⟨rfl, hb2⟩
    have hR2 := Lib.hid (fun o => (hB0.out.below hb2).below ((Below.refl _ _).alloc (Nat.le_refl _) o))
    have hba := Lib.hid (fun wx => bareF_any 2 wx)
    clear hb2
    go_wp2_with fail
    refine (hba.out _).mono ?_
    rintro e w3 ⟨rfl, hb3⟩
    have hB3 := (hR2.out _).below hb3
    obtain ⟨⟨r0, r1⟩, f0, f1⟩ := hB3.cells
    have hset := Lib.hid (hB3.set (.int .i64 2) (.int .i64 (-1)))
    clear hb3 hB3
    go_wp2_with fail
    exact bodyPost_ret (v := .tuple #[.slice none 0 0, .agg #[.int .i64 2, .int .i64 (-1)]]) (by simp [results, Tryz.results19, go_sem, hset.out.1]) rfl ⟨EntRF.mk hr.out rfl (fun _ _ => AtG.nil _), hset.out.2⟩
  by_cases h1 : (L.length : Int) < seq
  · have hr := hrH.out
    rw [if_neg h0, if_pos h1] at hr
    have hr := Lib.hid hr
    go_enter Tryz.func19, Tryz.ntmps19
    go_wp2_with fail
    refine hff.out.mono ?_
    rintro e w2 ⟨rfl, hb2⟩
    have hR2 := Lib.hid (fun o => (hB0.out.below hb2).below ((Below.refl _ _).alloc (Nat.le_refl _) o))
    have hba := Lib.hid (fun wx => bareF_any 15 wx)
    clear hb2
    go_wp2_with fail
    refine (hba.out _).mono ?_
    rintro e w3 ⟨rfl, hb3⟩
    have hB3 := (hR2.out _).below hb3
    obtain ⟨⟨r0, r1⟩, f0, f1⟩ := hB3.cells
    have hset := Lib.hid (hB3.set (.int .i64 15) (.int .i64 (-1)))
    clear hb3 hB3
    go_wp2_with fail
    exact bodyPost_ret (v := .tuple #[.slice none 0 0, .agg #[.int .i64 15, .int .i64 (-1)]]) (by simp [results, Tryz.results19, go_sem, hset.out.1]) rfl ⟨EntRF.mk hr.out rfl (fun _ _ => AtG.nil _), hset.out.2⟩
  have hr := hrH.out
  rw [if_neg h0, if_neg h1] at hr
  obtain ⟨m, rfl⟩ : ∃ m : Nat, seq = m := ⟨seq.toNat, by omega⟩
  rw [Int.toNat_natCast] at hr
  have hml : m ≤ L.length := by omega
  have hr := Lib.hid hr
  have hEnd : ∃ av, Hid (∀ wx, Below w0.heap.size w0 wx → EntsAt wx av (L.drop m)) ∧ ((c0 = m ∧ L.length = m ∧ av = .slice a0 0 0) ∨ (¬ c0 = m ∧ av = .slice (Option.map (fun x => x.add (m * 4)) a0) (L.length - m) (c0 - m))) := by
    by_cases hcf : c0 = m
    · refine ⟨_, Lib.hid (fun wx hx => ?_), .inl ⟨hcf, by omega, rfl⟩⟩
      have h := AtG.drop (n := m) (hvH.out wx hx) hml
      rw [if_pos hcf, show L.length - m = 0 by omega, show c0 - m = 0 by omega] at h
      exact h
    · refine ⟨_, Lib.hid (fun wx hx => ?_), .inr ⟨hcf, rfl⟩⟩
      have h := AtG.drop (n := m) (hvH.out wx hx) hml
      rw [if_neg hcf] at h
      exact h
  clear hrH h0 h1
  obtain ⟨av, hav, hcs⟩ := hEnd
  rcases hcs with ⟨h1, h2, rfl⟩ | ⟨h1, rfl⟩
  case' inl =>
    generalize hLl : L.length = ll at *
    obtain rfl : m = ll := h2.symm
    obtain rfl : m = c0 := h1.symm
    clear hLl hcap
  all_goals
    go_enter Tryz.func19, Tryz.ntmps19
    go_wp2_with fail
    refine hff.out.mono ?_
    rintro e w2 ⟨rfl, hb2⟩
    have hR2 := hB0.out.below hb2
    have hRN : TBox w2.heap.size w (w2.alloc (.cells #[.int .i64 0, .int .i64 (-1)] 33)) := ⟨heap_down ((Below.refl _ _).alloc (Nat.le_refl _) _) hR2.1, heap_alloc_new w2 _, (Array.getElem?_eq_some_iff.1 hR2.1).1, hR2.2.alloc hR2.2.size _⟩
    obtain ⟨⟨r0, r1⟩, f0, f1⟩ := hRN.fbox.cells
    have hRNH := Lib.hid hRN
    clear hb2 hR2 hRN
    go_wp2_with fail
    go_region
    all_goals
      go_wp2_with fail
      have hR := hRNH.out.fbox.set (.int .i64 0) (.int .i64 (-1))
      have hR0 := set2_first hRNH.out.res (.int .i64 0)
      first
        | exact bodyPost_ret (v := .tuple #[.slice a0 0 0, .agg #[.int .i64 0, .int .i64 (-1)]]) (by simp [results, Tryz.results19, go_sem, hR.1, hR0]) rfl ⟨EntRF.mk hr.out rfl hav.out, hR.2.drew⟩
        | exact bodyPost_ret (v := .tuple #[.slice (Option.map (fun x => x.add (m * 4)) a0) (L.length - m) (c0 - m), .agg #[.int .i64 0, .int .i64 (-1)]]) (by simp [results, Tryz.results19, go_sem, hR.1, hR0]) rfl ⟨EntRF.mk hr.out rfl hav.out, hR.2.drew⟩
end Go.Proofs.YtfbndfkahodheaaGreatDoor
