/- FedH, FolC, FolW -/
import Derived.Test.YtfbndfkahodheaaGreatDoorMg18
import Derived.Test.YtfbndfkahodheaaGreatDoorMg19
import Derived.Test.YtfbndfkahodheaaGreatDoorMg11
import Derived.Test.YtfbndfkahodheaaGreatDoorShelf4
import Derived.Test.YtfbndfkahodheaaGreatDoorMg13
/- feed.Make: walked. -/
namespace Go.Proofs.YtfbndfkahodheaaGreatDoor
open Go.RowKit

/-- A row of elements that were laid into a block of their own. -/
theorem AtG.newL {α : Type} {C : Cells α} (x : World) (L : List α) (T : TypeId) {cs : Array Value} (hc : cs = (flatG C L).toArray) (hm : L.length ≤ maxLen) : AtG C (x.alloc (.cells cs T)) (.slice (some ⟨x.heap.size, 0, none⟩) L.length L.length) L := by
  subst hc
  have h := heap_alloc_new x (.cells (flatG C L).toArray T)
  refine ⟨_, _, rfl, hm, Nat.le_refl _, (fun e => by cases e), fun i hi => ⟨x.heap.size, 0, rfl, fun j u hu => ?_⟩⟩
  have hj := (List.getElem?_eq_some_iff.1 hu).1
  rw [C.len] at hj
  have h1 := flatG_get C L i hi j hj
  rw [hu] at h1
  rw [cell_of_row _ _ _ _ _ _ h, Nat.zero_add]
  simpa using h1
theorem makeOf_good {k : Int} {W : List (List UInt8)} (hk : isKey k = true) (h1 : 1 ≤ W.length) (h2 : W.length ≤ 10) (hw : ∀ x ∈ W, isWord x = true) : makeOf k W = (sealText k W, 0, -1) := by
  unfold makeOf
  rw [if_neg (by rw [hk]; decide), if_neg (by omega), if_pos ((badIdx_iff W).2 hw)]
theorem headOf_err {key : Int} {L : List Ent} {time : Int} (hk : isKey key = true) (h : (floorsE L).2.1 ≠ 0) : headOf key L time = ([], (floorsE L).2.1, (floorsE L).2.2) := by unfold headOf; rw [if_neg (by rw [hk]; decide), if_pos h]
theorem headOf_time {key : Int} {L : List Ent} {time : Int} (hk : isKey key = true) (h : (floorsE L).2.1 = 0) (ht : time < 0 ∨ 1000000 < time ∨ time < wasE L L.length) : headOf key L time = ([], 2, -1) := by unfold headOf; rw [if_neg (by rw [hk]; decide), if_neg (by simpa using h), if_pos ht]
theorem headOf_ok {key : Int} {L : List Ent} {time : Int} (hk : isKey key = true) (h : (floorsE L).2.1 = 0) (ht : ¬ (time < 0 ∨ 1000000 < time ∨ time < wasE L L.length)) : headOf key L time = (sealText key (headWords L.length time (sumF (floorsE L).1)), 0, -1) := by unfold headOf; rw [if_neg (by rw [hk]; decide), if_neg (by simpa using h), if_neg ht]
set_option maxHeartbeats 4000000 in
set_option maxRecDepth 100000 in
theorem makeF_any {E : Nat → Addr} (k : Int) (v : Value) (L : List Ent) (time : Int) (w : World) (hL : LaidS E w) (hv : EntsAt w v L) (hm : ∀ e ∈ L, e.f.who.length ≤ maxLen) :
    Calls Tryz.prog 20 #[.int .i64 k, v, .int .i64 time] w fun e w' => TextRes E w' (headOf k L time) e ∧ Below w.heap.size w w' := by
  by_cases hk : isKey k = true
  case neg =>
    have hk : isKey k = false := by simpa using hk
    have hr := Lib.hid (show headOf k L time = ([], 10, -1) by unfold headOf; rw [if_pos hk])
    have he := hL.laid.e10
    simp only [errV] at he
    clear hv hm hL
    go_enter Tryz.func20, Tryz.ntmps20
    go_wp2_with (go_at_call 55; refine (key_any _ _).mono ?_; rintro e w' ⟨rfl, rfl⟩)
    go_quiet (fail)
    go_wp2_with fail
    go_ret2
    exact ⟨TextRes.mk hr.out rfl (ErrAt.bare 10), below_drawn (Below.refl _ _) _⟩
  have hfl := Lib.hid (floors_ent (E := E) v L w hL.laid hv hm)
  have hkH := Lib.hid hk
  have hprev := fun q (hq : L.length = q + 1) => (show ∃ b o c, v = .slice (some ⟨b, o, none⟩) L.length c ∧ w.cell? ⟨b, o + q * 4 + 1, none⟩ = some (.int .i64 (wasE L L.length)) from by
    obtain ⟨a, c, rfl, _, _, hc⟩ := EntsAt.get hv
    obtain ⟨b', o', rfl, _, p1, _⟩ := hc q (by omega)
    refine ⟨b', o', c, rfl, ?_⟩
    rw [p1]
    unfold wasE
    rw [if_neg (by omega), show L.length - 1 = q by omega, getD_get (by omega)])
  obtain ⟨a0, c0, hv0⟩ := AtG.sl hv
  have hlen := AtG.len hv
  unfold maxLen at hlen
  by_cases hf : (floorsE L).2.1 = 0
  case neg =>
    have hr := Lib.hid (headOf_err (time := time) hk hf)
    have hfH := Lib.hid hf
    clear hf hprev hv hm hL hv0
    go_enter Tryz.func20, Tryz.ntmps20
    go_wp2_with (go_at_call 55; refine (key_any _ _).mono ?_; rintro e w' ⟨rfl, rfl⟩)
    refine hfl.out.mono ?_
    rintro e w1 ⟨⟨v6, ev6, rfl, _, he⟩, hb1⟩
    obtain ⟨T, x, rfl⟩ := he.iface hfH.out
    have he := Lib.hid he
    have hb1 := Lib.hid hb1
    go_wp2_with fail
    go_ret2
    exact ⟨TextRes.mk hr.out rfl he.out, hb1.out⟩
  have hl60 := (checkE_zero (L := L) (by rw [(floorsE_zero hf).1])).1
  have hfH := Lib.hid hf
  have hL1 := Lib.hid (fun wx (hx : Below w.heap.size w wx) => hL.below hx)
  have hwas0 : L.length = 0 → wasE L L.length = 0 := fun h => by unfold wasE; rw [if_pos h]
  have h5 := Lib.hid (fun (v6 : Value) (w2 wx : World) (hb : Below w.heap.size w w2) (hrow : FlRow w2 w.heap.size v6 (floorsE L).1) (hx : Below w2.heap.size w2 wx) => sum_flo (E := E) v6 (floorsE L).1 wx (hL.below (below_trans hb hx)) (floorsAt_of (RowG.at_ (floRow_G.1 (hrow.below hx)))) (fun f h => who_len ((floorsE_good hf).g.one f h)))
  have hsd := sumF_bd (floorsE L).1
  have hit := Lib.hid (fun (m : Int) wx (hx : Below w.heap.size w wx) (h0 : 0 ≤ m) (h1 : m ≤ 1073741824) => itoa_any (E := E) m (by omega) (by omega) wx (hL.below hx))
  have hwords := Lib.hid (fun (h0 : 0 ≤ time) (h1 : time ≤ 1000000) => headWords_words (n := (L.length : Int)) (time := time) (sum := sumF (floorsE L).1) (by omega) (by omega) hsd)
  have hmk := Lib.hid (fun (vx : Value) (W : List (List UInt8)) wx (hx : Below w.heap.size w wx) (hvx : TextsAt wx vx W) (h1 : 1 ≤ W.length) (h2 : W.length ≤ 10) (hw : ∀ x ∈ W, isWord x = true) => (by
    have h := make_any (E := E) k vx W wx (hL.below hx) hvx (fun x hx => by have := ((isWord_iff x).1 (hw x hx)).2.1; unfold maxLen; omega)
    rw [makeOf_good hk h1 h2 hw] at h
    exact h : Calls Tryz.prog 56 #[.int .i64 k, vx] wx fun e w' => ∃ ev, e = .returned (.tuple #[.string (bs (sealText k W)), ev]) ∧ ErrAt E w' ev 0 (-1) ∧ Below wx.heap.size wx w'))
  have hrT := Lib.hid (fun h => headOf_time (time := time) hk hf h)
  have hrK := Lib.hid (fun h => headOf_ok (time := time) hk hf h)
  generalize wasE L L.length = was at *
  generalize sumF (floorsE L).1 = sm at *
  obtain ⟨n, hn⟩ : ∃ n, L.length = n := ⟨_, rfl⟩
  rw [hn] at hv0 hprev hl60 hrK hwords hwas0 hlen
  clear hf hm hL hv hn
  by_cases ht : time < 0 ∨ 1000000 < time ∨ time < was
  · have hr := Lib.hid (hrT.out ht)
    clear hrT hrK hmk hwords hit h5 hsd
    by_cases ht0 : time < 0
    · clear hprev hwas0 ht
      subst hv0
      go_enter Tryz.func20, Tryz.ntmps20
      go_wp2_with (go_at_call 55; refine (key_any _ _).mono ?_; rintro e w' ⟨rfl, rfl⟩)
      refine hfl.out.mono ?_
      rintro e w1 ⟨⟨v6, ev6, rfl, _, he⟩, hb1⟩
      obtain ⟨rfl, _⟩ := he.zero hfH.out
      have he2 := (hL1.out _ hb1).laid.e2
      simp only [errV] at he2
      have hb1 := Lib.hid hb1
      clear he
      go_wp2_with fail
      go_quiet (fail)
      go_wp2_with fail
      go_ret2
      exact ⟨TextRes.mk hr.out rfl (ErrAt.bare 2), below_drawn hb1.out _⟩
    by_cases ht1 : 1000000 < time
    · clear hprev hwas0 ht
      subst hv0
      go_enter Tryz.func20, Tryz.ntmps20
      go_wp2_with (go_at_call 55; refine (key_any _ _).mono ?_; rintro e w' ⟨rfl, rfl⟩)
      refine hfl.out.mono ?_
      rintro e w1 ⟨⟨v6, ev6, rfl, _, he⟩, hb1⟩
      obtain ⟨rfl, _⟩ := he.zero hfH.out
      have he2 := (hL1.out _ hb1).laid.e2
      simp only [errV] at he2
      have hb1 := Lib.hid hb1
      clear he
      go_wp2_with fail
      go_quiet (fail)
      go_wp2_with fail
      go_ret2
      exact ⟨TextRes.mk hr.out rfl (ErrAt.bare 2), below_drawn hb1.out _⟩
    · have ht2 : time < was := by omega
      have hn0 : n ≠ 0 := fun h => by have := hwas0 h; omega
      obtain ⟨q, rfl⟩ : ∃ q, n = q + 1 := ⟨n - 1, by omega⟩
      obtain ⟨b, o, c, hv1, p1⟩ := hprev q rfl
      clear hprev hwas0 ht hn0 hv0
      subst hv1
      have p1H := Lib.hid p1
      have hq0 : (0 : Int) ≤ (q : Int) := by omega
      have hq1 : (q : Int) < (q : Int) + 1 := by omega
      clear p1
      go_enter Tryz.func20, Tryz.ntmps20
      go_wp2_with (go_at_call 55; refine (key_any _ _).mono ?_; rintro e w' ⟨rfl, rfl⟩)
      refine hfl.out.mono ?_
      rintro e w1 ⟨⟨v6, ev6, rfl, _, he⟩, hb1⟩
      obtain ⟨rfl, _⟩ := he.zero hfH.out
      have he2 := (hL1.out _ hb1).laid.e2
      simp only [errV] at he2
      have p1 := cell_below hb1 p1H.out
      have hb1 := Lib.hid hb1
      clear he
      go_wp2_with fail
      go_quiet (fail)
      go_wp2_with fail
      go_ret2
      exact ⟨TextRes.mk hr.out rfl (ErrAt.bare 2), below_drawn hb1.out _⟩
  have hr := Lib.hid (hrK.out ht)
  have ht0 : ¬ time < 0 := fun h => ht (.inl h)
  have ht1 : ¬ 1000000 < time := fun h => ht (.inr (.inl h))
  have ht2 : ¬ time < was := fun h => ht (.inr (.inr h))
  have hwords := Lib.hid (hwords.out (by omega) (by omega))
  have hnews := Lib.hid (fun (x : World) => AtG.newL (C := strC) x (headWords n time sm) 9 (cs := #[.string ⟨#[104, 101, 97, 100]⟩, .string (bs (Lib.itoa n)), .string (bs (Lib.itoa time)), .string (bs (Lib.itoa sm))]) rfl (by unfold maxLen; simp [headWords]))
  have hit1 := Lib.hid (fun wx hx => hit.out (n : Int) wx hx (by omega) (by omega))
  have hit2 := Lib.hid (fun wx hx => hit.out time wx hx (by omega) (by omega))
  have hit3 := Lib.hid (fun wx hx => hit.out sm wx hx hsd.1 (by omega))
  have hmk := Lib.hid (fun (vx : Value) wx hx hvx => hmk.out vx (headWords n time sm) wx hx hvx (by simp [headWords]) (by simp [headWords]) hwords.out)
  clear hrT hrK ht hsd hit hwords
  by_cases hn0 : n = 0
  · subst hn0
    clear hprev hwas0
    subst hv0
    go_enter Tryz.func20, Tryz.ntmps20
    go_wp2_with (go_at_call 55; refine (key_any _ _).mono ?_; rintro e w' ⟨rfl, rfl⟩)
    refine hfl.out.mono ?_
    rintro e w1 ⟨⟨v6, ev6, rfl, hrow6, he⟩, hb1⟩
    obtain ⟨rfl, _⟩ := he.zero hfH.out
    have h5 := Lib.hid (fun wx hx => h5.out v6 w1 wx hb1 hrow6 hx)
    have hb1 := Lib.hid hb1
    clear he hrow6
    go_wp2_with fail
    refine (hit1.out _ hb1.out).mono ?_
    rintro e w2 ⟨rfl, hb2⟩
    have hc2 := Lib.hid hb2
    clear hb2
    go_wp2_with fail
    refine (hit2.out _ (below_trans hb1.out hc2.out)).mono ?_
    rintro e w3 ⟨rfl, hb3⟩
    have hc3 := Lib.hid (below_trans hc2.out hb3)
    clear hb3
    go_wp2_with fail
    refine (h5.out _ hc3.out).mono ?_
    rintro e w4 ⟨rfl, hb4⟩
    have hc4 := Lib.hid (below_trans hb1.out (below_trans hc3.out hb4))
    clear hb4
    go_wp2_with fail
    refine (hit3.out _ hc4.out).mono ?_
    rintro e w5 ⟨rfl, hb5⟩
    have hc5 := Lib.hid (below_trans hc4.out hb5)
    have hc6 := Lib.hid (fun o => (below_trans hc4.out hb5).alloc (below_trans hc4.out hb5).size o)
    clear hb5
    go_wp2_with fail
    refine (hmk.out _ _ (hc6.out _) (textsAt_of (hnews.out _))).mono ?_
    rintro e w6 ⟨ev, rfl, he, hb6⟩
    obtain ⟨rfl, _⟩ := he.zero rfl
    have hb6 := Lib.hid (below_trans (hc6.out _) hb6)
    clear he
    go_wp2_with fail
    go_ret2
    exact ⟨TextRes.mk hr.out rfl (ErrAt.bare 0), hb6.out⟩
  · obtain ⟨q, rfl⟩ : ∃ q, n = q + 1 := ⟨n - 1, by omega⟩
    obtain ⟨b, o, c, hv1, p1⟩ := hprev q rfl
    clear hprev hwas0 hn0 hv0
    subst hv1
    have p1H := Lib.hid p1
    have hq0 : (0 : Int) ≤ (q : Int) := by omega
    have hq1 : (q : Int) < (q : Int) + 1 := by omega
    clear p1
    go_enter Tryz.func20, Tryz.ntmps20
    go_wp2_with (go_at_call 55; refine (key_any _ _).mono ?_; rintro e w' ⟨rfl, rfl⟩)
    refine hfl.out.mono ?_
    rintro e w1 ⟨⟨v6, ev6, rfl, hrow6, he⟩, hb1⟩
    obtain ⟨rfl, _⟩ := he.zero hfH.out
    have p1 := cell_below hb1 p1H.out
    have h5 := Lib.hid (fun wx hx => h5.out v6 w1 wx hb1 hrow6 hx)
    have hb1 := Lib.hid hb1
    clear he hrow6
    go_wp2_with fail
    refine (hit1.out _ hb1.out).mono ?_
    rintro e w2 ⟨rfl, hb2⟩
    have hc2 := Lib.hid hb2
    clear hb2
    go_wp2_with fail
    refine (hit2.out _ (below_trans hb1.out hc2.out)).mono ?_
    rintro e w3 ⟨rfl, hb3⟩
    have hc3 := Lib.hid (below_trans hc2.out hb3)
    clear hb3
    go_wp2_with fail
    refine (h5.out _ hc3.out).mono ?_
    rintro e w4 ⟨rfl, hb4⟩
    have hc4 := Lib.hid (below_trans hb1.out (below_trans hc3.out hb4))
    clear hb4
    go_wp2_with fail
    refine (hit3.out _ hc4.out).mono ?_
    rintro e w5 ⟨rfl, hb5⟩
    have hc5 := Lib.hid (below_trans hc4.out hb5)
    have hc6 := Lib.hid (fun o => (below_trans hc4.out hb5).alloc (below_trans hc4.out hb5).size o)
    clear hb5
    go_wp2_with fail
    refine (hmk.out _ _ (hc6.out _) (textsAt_of (hnews.out _))).mono ?_
    rintro e w6 ⟨ev, rfl, he, hb6⟩
    obtain ⟨rfl, _⟩ := he.zero rfl
    have hb6 := Lib.hid (below_trans (hc6.out _) hb6)
    clear he
    go_wp2_with fail
    go_ret2
    exact ⟨TextRes.mk hr.out rfl (ErrAt.bare 0), hb6.out⟩
end Go.Proofs.YtfbndfkahodheaaGreatDoor

/- slices.Concat at entries: walked, slices.Grow by its contract. -/
namespace Go.Proofs.YtfbndfkahodheaaGreatDoor
open Go.RowKit Go.Lib Go.Shelf

set_option maxRecDepth 100000 in
/-- A new row of one's own, with room. -/
theorem grow_ent (n : Nat) (w : World) (h0 : 0 < n) (h1 : n ≤ 1000000) :
    Calls Tryz.prog 105 #[.slice none 0 0, .int .i64 n] w fun e w' => ∃ v', e = .returned v' ∧ EntRow w' w.heap.size v' [] ∧ Below w.heap.size w w' := by
  obtain ⟨i0, hi, hz0, hz1, hz2⟩ := info_parts info_ent
  refine (Any8.slices_Grow_grow Tryz.grow105 i0 _ hi hz0 (by rw [hz1]; exact entC.pos) none 0 0 n [] w (Nat.le_refl _) (by omega) (by rw [hz2]; omega) (by omega) (by simp) (fun _ => rfl) (fun a h => by cases h)).mono ?_
  rintro e w' ⟨rfl, rfl⟩
  refine ⟨_, rfl, ?_, ((Below.refl _ _).drew).alloc (Nat.le_refl _) _⟩
  refine ⟨by simp [flatG], .inr ⟨w.heap.size, _, _, rfl, Nat.le_refl _, heap_alloc_new w.drew _, Nat.zero_le _, grownCap_le_maxLen w _ _ _ (by unfold maxLen; omega), ?_, by simp [flatG]⟩⟩
  have hge := grownCap_ge w (0 + n) 0 102
  have hz : (Value.agg #[.int .i64 0, .int .i64 0, .string ⟨#[]⟩, .int .i64 0]).cells.size = 4 := rfl
  have hk : entC.k = 4 := rfl
  rw [Array.size_append, Array.size_append, size_zeroCells, size_zeroCells, hz, hk]
  show (0 + (0 + n - 0) * 4 + (grownCap w (0 + n) 0 102 - (0 + n)) * 4) = grownCap w (0 + n) 0 102 * 4
  omega
theorem grow_none (w : World) :
    Calls Tryz.prog 105 #[.slice none 0 0, .int .i64 0] w fun e w' => e = .returned (.slice none 0 0) ∧ w' = w := by
  have h := Any8.slices_Grow_room Tryz.grow105 none 0 0 0 w (Nat.le_refl _) (by omega) (by omega) (by omega)
  exact h
theorem grow_any (n : Nat) (w : World) (h1 : n ≤ 1000000) :
    Calls Tryz.prog 105 #[.slice none 0 0, .int .i64 n] w fun e w' => ∃ v', e = .returned v' ∧ EntRow w' w.heap.size v' [] ∧ Below w.heap.size w w' := by
  by_cases h0 : n = 0
  · subst h0
    exact (grow_none w).mono fun e w' ⟨he, hw⟩ => ⟨_, he, by rw [hw]; exact RowG.nil _ _ _, by rw [hw]; exact Below.refl _ _⟩
  · exact grow_ent n w (by omega) h1
set_option maxHeartbeats 2000000 in
set_option maxRecDepth 100000 in
theorem concat_ent (g : Nat) (v1 v2 : Value) (A B : List Ent) (w : World) (h0 : w.cell? ⟨g, 0, none⟩ = some v1) (h1 : w.cell? ⟨g, 1, none⟩ = some v2) (hA : EntsAt w v1 A) (hB : EntsAt w v2 B) (hl : A.length + B.length ≤ 1000000) :
    Calls Tryz.prog 68 #[.slice (some ⟨g, 0, none⟩) 2 2] w fun e w' => ∃ v', e = .returned v' ∧ EntRow w' w.heap.size v' (A ++ B) ∧ Below w.heap.size w w' := by
  have hAw := Lib.hid (fun wx (hx : Below w.heap.size w wx) => (show EntsAt wx v1 A from AtG.below hA hx))
  have hBw := Lib.hid (fun wx (hx : Below w.heap.size w wx) => (show EntsAt wx v2 B from AtG.below hB hx))
  have h0H := Lib.hid h0
  have h1H := Lib.hid h1
  obtain ⟨a1, c1, hv1⟩ := EntsAt.sl hA
  obtain ⟨a2, c2, hv2⟩ := EntsAt.sl hB
  have hgr := grow_any (A.length + B.length) w (by omega)
  rw [Int.natCast_add] at hgr
  have hgr := Lib.hid hgr
  have s0 := IntWalk.i64_in (0 + (A.length : Int)) (by omega)
  have s1 := IntWalk.i64_in ((A.length : Int)) (by omega)
  have s2 := IntWalk.i64_in ((A.length : Int) + (B.length : Int)) (by omega)
  have s3 : ¬ ((A.length : Int) < 0) := by omega
  have s4 : ¬ ((A.length : Int) + (B.length : Int) < 0) := by omega
  subst hv1
  subst hv2
  clear hA hB
  go_enter Tryz.func68, Tryz.ntmps68
  go_wp2_with fail
  go_loopg [3, 11] 3 (fun g s3 i wr => w = wr ∧ ((s3 = .int .i64 0 ∧ i = .int .i64 0 ∧ 3 ≤ g) ∨ (s3 = .int .i64 A.length ∧ i = .int .i64 1 ∧ 2 ≤ g) ∨ (s3 = .int .i64 ((A.length : Int) + (B.length : Int)) ∧ i = .int .i64 2 ∧ 1 ≤ g)))
  case atStart => exact ⟨rfl, .inl ⟨rfl, rfl, Nat.le_refl _⟩⟩
  case round =>
    obtain ⟨rfl, ⟨rfl, rfl, hg⟩ | ⟨rfl, rfl, hg⟩ | ⟨rfl, rfl, hg⟩⟩ := hrel
    · go_wp2_with fail
      go_roundg 2
      case measure => omega
      case rel => exact ⟨rfl, .inr (.inl ⟨by simp, by simp, Nat.le_refl _⟩)⟩
    · go_wp2_with fail
      go_roundg 1
      case measure => omega
      case rel => exact ⟨rfl, .inr (.inr ⟨by simp, by simp, Nat.le_refl _⟩)⟩
    · clear h0 h1
      go_wp2_with fail
      refine hgr.out.mono ?_
      rintro e w1 ⟨v6, rfl, hrow6, hb6⟩
      have hrow6 := Lib.hid hrow6
      have hb6 := Lib.hid hb6
      go_wp2_with fail
      go_loopg [6, 27] 3 (fun g v6 i wr => Hid (Below w.heap.size w wr) ∧ ((i = .int .i64 0 ∧ 3 ≤ g ∧ Hid (EntRow wr w.heap.size v6 [])) ∨ (i = .int .i64 1 ∧ 2 ≤ g ∧ Hid (EntRow wr w.heap.size v6 A)) ∨ (i = .int .i64 2 ∧ 1 ≤ g ∧ Hid (EntRow wr w.heap.size v6 (A ++ B)))))
      case atStart => exact ⟨hb6, .inl ⟨rfl, Nat.le_refl _, hrow6⟩⟩
      case round =>
        obtain ⟨hK, ⟨rfl, hg2, hrow⟩ | ⟨rfl, hg2, hrow⟩ | ⟨rfl, hg2, hrow⟩⟩ := hrel
        · have h0 := cell_below hK.out h0H.out
          go_wp2_with (first
            | (at_builtin; refine wpList_appG entC _ rfl _ _ 22 rfl 102 (.agg #[.int .i64 0, .int .i64 0, .string ⟨#[]⟩, .int .i64 0]) 40 Tryz.underlying22 info_ent rfl (by decide) w.heap.size _ [] rfl hrow.out _ A rfl (hAw.out _ hK.out) (by simp; omega) hK.out.size ?_)
            | go_in)
          intro v7 w7 hown hb7 _ _
          have hown := Lib.hid (show EntRow w7 w.heap.size v7 A from hown)
          have hb7 := Lib.hid (hK.out.trans hb7)
          clear h0
          go_wp2_with fail
          go_roundg 2
          case measure => omega
          case rel => exact ⟨hb7, .inr (.inl ⟨by simp, Nat.le_refl _, hown⟩)⟩
        · have h1 := cell_below hK.out h1H.out
          go_wp2_with (first
            | (at_builtin; refine wpList_appG entC _ rfl _ _ 22 rfl 102 (.agg #[.int .i64 0, .int .i64 0, .string ⟨#[]⟩, .int .i64 0]) 40 Tryz.underlying22 info_ent rfl (by decide) w.heap.size _ A rfl hrow.out _ B rfl (hBw.out _ hK.out) (by omega) hK.out.size ?_)
            | go_in)
          intro v7 w7 hown hb7 _ _
          have hown := Lib.hid (show EntRow w7 w.heap.size v7 (A ++ B) from hown)
          have hb7 := Lib.hid (hK.out.trans hb7)
          clear h1
          go_wp2_with fail
          go_roundg 1
          case measure => omega
          case rel => exact ⟨hb7, .inr (.inr ⟨by simp, Nat.le_refl _, hown⟩)⟩
        · go_wp2_with fail
          go_ret
          exact ⟨_, rfl, hrow.out, hK.out⟩
end Go.Proofs.YtfbndfkahodheaaGreatDoor

/- Package follow: followers in memory; New: walked. -/
namespace Go.Proofs.YtfbndfkahodheaaGreatDoor
open Go.RowKit

/-- A follower in memory: its block; rows of its own behind. -/
def FolAt (w : World) (base b : Nat) (f : Fol) : Prop :=
  base ≤ b ∧ ∃ u v, w.heap[b]? = some (.cells #[.int .i64 f.key, u, v, .int .i64 f.time, .string (bs f.head)] 127 (0, 0)) ∧ EntRow w base u f.l ∧ FlRow w base v f.floors
theorem ent_ne_fol : (102 : TypeId) ≠ 127 := by decide
theorem flo_ne_fol : (24 : TypeId) ≠ 127 := by decide
theorem FolAt.keeps {w w' : World} {base b : Nat} {f : Fol} {S : Nat → Prop} (h : FolAt w base b f) (hk : Keeps S w w') (hb : ¬ S b) (hS : ∀ k, S k → ∃ cs, w.heap[k]? = some (.cells cs 127 (0, 0))) : FolAt w' base b f := by
  obtain ⟨h0, u, v, h1, h2, h3⟩ := h
  refine ⟨h0, u, v, (hk.block b (Array.getElem?_eq_some_iff.1 h1).1 hb).trans h1, RowG.keeps h2 hk (fun g hg hs => ?_), floRow_G.2 (RowG.keeps (floRow_G.1 h3) hk (fun g hg hs => ?_))⟩
  · obtain ⟨_, cs, h4⟩ := RowG.block h2 hg
    obtain ⟨cs', h5⟩ := hS g hs
    rw [h4] at h5
    injection h5 with h5
    injection h5 with _ h5 _
    exact ent_ne_fol h5
  · obtain ⟨_, cs, h4⟩ := RowG.block (floRow_G.1 h3) hg
    obtain ⟨cs', h5⟩ := hS g hs
    rw [h4] at h5
    injection h5 with h5
    injection h5 with _ h5 _
    exact flo_ne_fol h5
theorem FolAt.below {w w' : World} {base b : Nat} {f : Fol} (h : FolAt w base b f) (hb : Below w.heap.size w w') : FolAt w' base b f :=
  h.keeps (Keeps.of_below (S := fun _ => False) hb) (fun h => h) (fun _ h => h.elim)
set_option maxHeartbeats 1000000 in
set_option maxRecDepth 100000 in
theorem newFol_any {E : Nat → Addr} (k : Int) (w : World) (hL : Laid E w) :
    Calls Tryz.prog 27 #[.int .i64 k] w fun e w' => (isKey k = false ∧ e = .returned (.tuple #[.pointer none, errV E 10]) ∨ isKey k = true ∧ ∃ b, e = .returned (.tuple #[.pointer (some ⟨b, 0, none⟩), .nilIface]) ∧ FolAt w' w.heap.size b (newFol k)) ∧ Below w.heap.size w w' := by
  by_cases hk : isKey k = true
  case neg =>
    have hk : isKey k = false := by simpa using hk
    have he := hL.e10
    simp only [errV] at he
    go_enter Tryz.func27, Tryz.ntmps27
    go_wp2_with (go_at_call 55; refine (key_any _ _).mono ?_; rintro e w' ⟨rfl, rfl⟩)
    go_quiet (fail)
    go_wp2_with fail
    go_ret2
    exact ⟨.inl ⟨hk, rfl⟩, below_drawn (Below.refl _ _) _⟩
  have hkH := Lib.hid hk
  have hrow := Lib.hid (heap_alloc_new w (.cells #[.int .i64 k, .slice none 0 0, .slice none 0 0, .int .i64 (-1), .string ⟨#[]⟩] 127))
  go_enter Tryz.func27, Tryz.ntmps27
  go_wp2_with (go_at_call 55; refine (key_any _ _).mono ?_; rintro e w' ⟨rfl, rfl⟩)
  go_ret2
  exact ⟨.inr ⟨hkH.out, _, rfl, Nat.le_refl _, _, _, hrow.out, RowG.nil _ _ _, FlRow.nil _ _⟩, (Below.refl _ _).alloc (Nat.le_refl _) _⟩
end Go.Proofs.YtfbndfkahodheaaGreatDoor
