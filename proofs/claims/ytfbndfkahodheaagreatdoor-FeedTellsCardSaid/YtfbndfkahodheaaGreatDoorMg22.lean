/- FedH, RefE4 -/
import Derived.Test.YtfbndfkahodheaaGreatDoorMg15
import Derived.Test.YtfbndfkahodheaaGreatDoorMg21
import Derived.Test.YtfbndfkahodheaaGreatDoorMg18
/- feed.Make: walked. -/
namespace Go.Proofs.YtfbndfkahodheaaGreatDoor
open Go.RowKit

/-- A row of elements that were laid into a block of their own. -/
theorem AtG.newL {α : Type} {C : Cells α} (x : World) (L : List α) (T : TypeId) {cs : Array Value} (hc : cs = (flatG C L).toArray) (hm : L.length ≤ maxLen) : AtG C (x.alloc (.cells cs T)) (.slice (some ⟨x.heap.size, 0, none⟩) L.length L.length) L := by
  subst hc
  have h := heap_alloc_new x (.cells (flatG C L).toArray T)
  refine ⟨_, _, rfl, hm, Nat.le_refl _, (fun e => by cases e), fun i hi => ⟨x.heap.size, 0, rfl, fun j u hu => ?_⟩⟩
  have hj := (List.getElem?_eq_some_iff.1 hu).1
  rw [C.len] at hj
  have h1 := flatG_get C L i hi j hj
  rw [hu] at h1
  rw [cell_of_row _ _ _ _ _ _ h, Nat.zero_add]
  simpa using h1
theorem makeOf_good {k : Int} {W : List (List UInt8)} (hk : isKey k = true) (h1 : 1 ≤ W.length) (h2 : W.length ≤ 10) (hw : ∀ x ∈ W, isWord x = true) : makeOf k W = (sealText k W, 0, -1) := by
  unfold makeOf
  rw [if_neg (by rw [hk]; decide), if_neg (by omega), if_pos ((badIdx_iff W).2 hw)]
theorem headOf_err {key : Int} {L : List Ent} {time : Int} (hk : isKey key = true) (h : (floorsE L).2.1 ≠ 0) : headOf key L time = ([], (floorsE L).2.1, (floorsE L).2.2) := by unfold headOf; rw [if_neg (by rw [hk]; decide), if_pos h]
theorem headOf_time {key : Int} {L : List Ent} {time : Int} (hk : isKey key = true) (h : (floorsE L).2.1 = 0) (ht : time < 0 ∨ 1000000 < time ∨ time < wasE L L.length) : headOf key L time = ([], 2, -1) := by unfold headOf; rw [if_neg (by rw [hk]; decide), if_neg (by simpa using h), if_pos ht]
theorem headOf_ok {key : Int} {L : List Ent} {time : Int} (hk : isKey key = true) (h : (floorsE L).2.1 = 0) (ht : ¬ (time < 0 ∨ 1000000 < time ∨ time < wasE L L.length)) : headOf key L time = (sealText key (headWords L.length time (sumF (floorsE L).1)), 0, -1) := by unfold headOf; rw [if_neg (by rw [hk]; decide), if_neg (by simpa using h), if_neg ht]
set_option maxHeartbeats 4000000 in
set_option maxRecDepth 100000 in
theorem makeF_any {E : Nat → Addr} (k : Int) (v : Value) (L : List Ent) (time : Int) (w : World) (hL : LaidS E w) (hv : EntsAt w v L) (hm : ∀ e ∈ L, e.f.who.length ≤ maxLen) :
    Calls Tryz.prog 20 #[.int .i64 k, v, .int .i64 time] w fun e w' => TextRes E w' (headOf k L time) e ∧ Below w.heap.size w w' := by
  by_cases hk : isKey k = true
  case neg =>
    have hk : isKey k = false := by simpa using hk
    have hr := Lib.hid (show headOf k L time = ([], 10, -1) by unfold headOf; rw [if_pos hk])
    have he := hL.laid.e10
    simp only [errV] at he
    clear hv hm hL
    go_enter Tryz.func20, Tryz.ntmps20
    go_wp2_with (go_at_call 55; refine (key_any _ _).mono ?_; rintro e w' ⟨rfl, rfl⟩)
    go_quiet (fail)
    go_wp2_with fail
    go_ret2
    exact ⟨TextRes.mk hr.out rfl (ErrAt.bare 10), below_drawn (Below.refl _ _) _⟩
  have hfl := Lib.hid (floors_ent (E := E) v L w hL.laid hv hm)
  have hkH := Lib.hid hk
  have hprev := fun q (hq : L.length = q + 1) => (show ∃ b o c, v = .slice (some ⟨b, o, none⟩) L.length c ∧ w.cell? ⟨b, o + q * 4 + 1, none⟩ = some (.int .i64 (wasE L L.length)) from by
    obtain ⟨a, c, rfl, _, _, hc⟩ := EntsAt.get hv
    obtain ⟨b', o', rfl, _, p1, _⟩ := hc q (by omega)
    refine ⟨b', o', c, rfl, ?_⟩
    rw [p1]
    unfold wasE
    rw [if_neg (by omega), show L.length - 1 = q by omega, getD_get (by omega)])
  obtain ⟨a0, c0, hv0⟩ := AtG.sl hv
  have hlen := AtG.len hv
  unfold maxLen at hlen
  by_cases hf : (floorsE L).2.1 = 0
  case neg =>
    have hr := Lib.hid (headOf_err (time := time) hk hf)
    have hfH := Lib.hid hf
    clear hf hprev hv hm hL hv0
    go_enter Tryz.func20, Tryz.ntmps20
    go_wp2_with (go_at_call 55; refine (key_any _ _).mono ?_; rintro e w' ⟨rfl, rfl⟩)
    refine hfl.out.mono ?_
    rintro e w1 ⟨⟨v6, ev6, rfl, _, he⟩, hb1⟩
    obtain ⟨T, x, rfl⟩ := he.iface hfH.out
    have he := Lib.hid he
    have hb1 := Lib.hid hb1
    go_wp2_with fail
    go_ret2
    exact ⟨TextRes.mk hr.out rfl he.out, hb1.out⟩
  have hl60 := (checkE_zero (L := L) (by rw [(floorsE_zero hf).1])).1
  have hfH := Lib.hid hf
  have hL1 := Lib.hid (fun wx (hx : Below w.heap.size w wx) => hL.below hx)
  have hwas0 : L.length = 0 → wasE L L.length = 0 := fun h => by unfold wasE; rw [if_pos h]
  have h5 := Lib.hid (fun (v6 : Value) (w2 wx : World) (hb : Below w.heap.size w w2) (hrow : FlRow w2 w.heap.size v6 (floorsE L).1) (hx : Below w2.heap.size w2 wx) => sum_flo (E := E) v6 (floorsE L).1 wx (hL.below (below_trans hb hx)) (floorsAt_of (RowG.at_ (floRow_G.1 (hrow.below hx)))) (fun f h => who_len ((floorsE_good hf).g.one f h)))
  have hsd := sumF_bd (floorsE L).1
  have hit := Lib.hid (fun (m : Int) wx (hx : Below w.heap.size w wx) (h0 : 0 ≤ m) (h1 : m ≤ 1073741824) => itoa_any (E := E) m (by omega) (by omega) wx (hL.below hx))
  have hwords := Lib.hid (fun (h0 : 0 ≤ time) (h1 : time ≤ 1000000) => headWords_words (n := (L.length : Int)) (time := time) (sum := sumF (floorsE L).1) (by omega) (by omega) hsd)
  have hmk := Lib.hid (fun (vx : Value) (W : List (List UInt8)) wx (hx : Below w.heap.size w wx) (hvx : TextsAt wx vx W) (h1 : 1 ≤ W.length) (h2 : W.length ≤ 10) (hw : ∀ x ∈ W, isWord x = true) => (by
    have h := make_any (E := E) k vx W wx (hL.below hx) hvx (fun x hx => by have := ((isWord_iff x).1 (hw x hx)).2.1; unfold maxLen; omega)
    rw [makeOf_good hk h1 h2 hw] at h
    exact h : Calls Tryz.prog 56 #[.int .i64 k, vx] wx fun e w' => ∃ ev, e = .returned (.tuple #[.string (bs (sealText k W)), ev]) ∧ ErrAt E w' ev 0 (-1) ∧ Below wx.heap.size wx w'))
  have hrT := Lib.hid (fun h => headOf_time (time := time) hk hf h)
  have hrK := Lib.hid (fun h => headOf_ok (time := time) hk hf h)
  generalize wasE L L.length = was at *
  generalize sumF (floorsE L).1 = sm at *
  obtain ⟨n, hn⟩ : ∃ n, L.length = n := ⟨_, rfl⟩
  rw [hn] at hv0 hprev hl60 hrK hwords hwas0 hlen
  clear hf hm hL hv hn
  by_cases ht : time < 0 ∨ 1000000 < time ∨ time < was
  · have hr := Lib.hid (hrT.out ht)
    clear hrT hrK hmk hwords hit h5 hsd
    by_cases ht0 : time < 0
    · clear hprev hwas0 ht
      subst hv0
      go_enter Tryz.func20, Tryz.ntmps20
      go_wp2_with (go_at_call 55; refine (key_any _ _).mono ?_; rintro e w' ⟨rfl, rfl⟩)
      refine hfl.out.mono ?_
      rintro e w1 ⟨⟨v6, ev6, rfl, _, he⟩, hb1⟩
      obtain ⟨rfl, _⟩ := he.zero hfH.out
      have he2 := (hL1.out _ hb1).laid.e2
      simp only [errV] at he2
      have hb1 := Lib.hid hb1
      clear he
      go_wp2_with fail
      go_quiet (fail)
      go_wp2_with fail
      go_ret2
      exact ⟨TextRes.mk hr.out rfl (ErrAt.bare 2), below_drawn hb1.out _⟩
    by_cases ht1 : 1000000 < time
    · clear hprev hwas0 ht
      subst hv0
      go_enter Tryz.func20, Tryz.ntmps20
      go_wp2_with (go_at_call 55; refine (key_any _ _).mono ?_; rintro e w' ⟨rfl, rfl⟩)
      refine hfl.out.mono ?_
      rintro e w1 ⟨⟨v6, ev6, rfl, _, he⟩, hb1⟩
      obtain ⟨rfl, _⟩ := he.zero hfH.out
      have he2 := (hL1.out _ hb1).laid.e2
      simp only [errV] at he2
      have hb1 := Lib.hid hb1
      clear he
      go_wp2_with fail
      go_quiet (fail)
      go_wp2_with fail
      go_ret2
      exact ⟨TextRes.mk hr.out rfl (ErrAt.bare 2), below_drawn hb1.out _⟩
    · have ht2 : time < was := by omega
      have hn0 : n ≠ 0 := fun h => by have := hwas0 h; omega
      obtain ⟨q, rfl⟩ : ∃ q, n = q + 1 := ⟨n - 1, by omega⟩
      obtain ⟨b, o, c, hv1, p1⟩ := hprev q rfl
      clear hprev hwas0 ht hn0 hv0
      subst hv1
      have p1H := Lib.hid p1
      have hq0 : (0 : Int) ≤ (q : Int) := by omega
      have hq1 : (q : Int) < (q : Int) + 1 := by omega
      clear p1
      go_enter Tryz.func20, Tryz.ntmps20
      go_wp2_with (go_at_call 55; refine (key_any _ _).mono ?_; rintro e w' ⟨rfl, rfl⟩)
      refine hfl.out.mono ?_
      rintro e w1 ⟨⟨v6, ev6, rfl, _, he⟩, hb1⟩
      obtain ⟨rfl, _⟩ := he.zero hfH.out
      have he2 := (hL1.out _ hb1).laid.e2
      simp only [errV] at he2
      have p1 := cell_below hb1 p1H.out
      have hb1 := Lib.hid hb1
      clear he
      go_wp2_with fail
      go_quiet (fail)
      go_wp2_with fail
      go_ret2
      exact ⟨TextRes.mk hr.out rfl (ErrAt.bare 2), below_drawn hb1.out _⟩
  have hr := Lib.hid (hrK.out ht)
  have ht0 : ¬ time < 0 := fun h => ht (.inl h)
  have ht1 : ¬ 1000000 < time := fun h => ht (.inr (.inl h))
  have ht2 : ¬ time < was := fun h => ht (.inr (.inr h))
  have hwords := Lib.hid (hwords.out (by omega) (by omega))
  have hnews := Lib.hid (fun (x : World) => AtG.newL (C := strC) x (headWords n time sm) 9 (cs := #[.string ⟨#[104, 101, 97, 100]⟩, .string (bs (Lib.itoa n)), .string (bs (Lib.itoa time)), .string (bs (Lib.itoa sm))]) rfl (by unfold maxLen; simp [headWords]))
  have hit1 := Lib.hid (fun wx hx => hit.out (n : Int) wx hx (by omega) (by omega))
  have hit2 := Lib.hid (fun wx hx => hit.out time wx hx (by omega) (by omega))
  have hit3 := Lib.hid (fun wx hx => hit.out sm wx hx hsd.1 (by omega))
  have hmk := Lib.hid (fun (vx : Value) wx hx hvx => hmk.out vx (headWords n time sm) wx hx hvx (by simp [headWords]) (by simp [headWords]) hwords.out)
  clear hrT hrK ht hsd hit hwords
  by_cases hn0 : n = 0
  · subst hn0
    clear hprev hwas0
    subst hv0
    go_enter Tryz.func20, Tryz.ntmps20
    go_wp2_with (go_at_call 55; refine (key_any _ _).mono ?_; rintro e w' ⟨rfl, rfl⟩)
    refine hfl.out.mono ?_
    rintro e w1 ⟨⟨v6, ev6, rfl, hrow6, he⟩, hb1⟩
    obtain ⟨rfl, _⟩ := he.zero hfH.out
    have h5 := Lib.hid (fun wx hx => h5.out v6 w1 wx hb1 hrow6 hx)
    have hb1 := Lib.hid hb1
    clear he hrow6
    go_wp2_with fail
    refine (hit1.out _ hb1.out).mono ?_
    rintro e w2 ⟨rfl, hb2⟩
    have hc2 := Lib.hid hb2
    clear hb2
    go_wp2_with fail
    refine (hit2.out _ (below_trans hb1.out hc2.out)).mono ?_
    rintro e w3 ⟨rfl, hb3⟩
    have hc3 := Lib.hid (below_trans hc2.out hb3)
    clear hb3
    go_wp2_with fail
    refine (h5.out _ hc3.out).mono ?_
    rintro e w4 ⟨rfl, hb4⟩
    have hc4 := Lib.hid (below_trans hb1.out (below_trans hc3.out hb4))
    clear hb4
    go_wp2_with fail
    refine (hit3.out _ hc4.out).mono ?_
    rintro e w5 ⟨rfl, hb5⟩
    have hc5 := Lib.hid (below_trans hc4.out hb5)
    have hc6 := Lib.hid (fun o => (below_trans hc4.out hb5).alloc (below_trans hc4.out hb5).size o)
    clear hb5
    go_wp2_with fail
    refine (hmk.out _ _ (hc6.out _) (textsAt_of (hnews.out _))).mono ?_
    rintro e w6 ⟨ev, rfl, he, hb6⟩
    obtain ⟨rfl, _⟩ := he.zero rfl
    have hb6 := Lib.hid (below_trans (hc6.out _) hb6)
    clear he
    go_wp2_with fail
    go_ret2
    exact ⟨TextRes.mk hr.out rfl (ErrAt.bare 0), hb6.out⟩
  · obtain ⟨q, rfl⟩ : ∃ q, n = q + 1 := ⟨n - 1, by omega⟩
    obtain ⟨b, o, c, hv1, p1⟩ := hprev q rfl
    clear hprev hwas0 hn0 hv0
    subst hv1
    have p1H := Lib.hid p1
    have hq0 : (0 : Int) ≤ (q : Int) := by omega
    have hq1 : (q : Int) < (q : Int) + 1 := by omega
    clear p1
    go_enter Tryz.func20, Tryz.ntmps20
    go_wp2_with (go_at_call 55; refine (key_any _ _).mono ?_; rintro e w' ⟨rfl, rfl⟩)
    refine hfl.out.mono ?_
    rintro e w1 ⟨⟨v6, ev6, rfl, hrow6, he⟩, hb1⟩
    obtain ⟨rfl, _⟩ := he.zero hfH.out
    have p1 := cell_below hb1 p1H.out
    have h5 := Lib.hid (fun wx hx => h5.out v6 w1 wx hb1 hrow6 hx)
    have hb1 := Lib.hid hb1
    clear he hrow6
    go_wp2_with fail
    refine (hit1.out _ hb1.out).mono ?_
    rintro e w2 ⟨rfl, hb2⟩
    have hc2 := Lib.hid hb2
    clear hb2
    go_wp2_with fail
    refine (hit2.out _ (below_trans hb1.out hc2.out)).mono ?_
    rintro e w3 ⟨rfl, hb3⟩
    have hc3 := Lib.hid (below_trans hc2.out hb3)
    clear hb3
    go_wp2_with fail
    refine (h5.out _ hc3.out).mono ?_
    rintro e w4 ⟨rfl, hb4⟩
    have hc4 := Lib.hid (below_trans hb1.out (below_trans hc3.out hb4))
    clear hb4
    go_wp2_with fail
    refine (hit3.out _ hc4.out).mono ?_
    rintro e w5 ⟨rfl, hb5⟩
    have hc5 := Lib.hid (below_trans hc4.out hb5)
    have hc6 := Lib.hid (fun o => (below_trans hc4.out hb5).alloc (below_trans hc4.out hb5).size o)
    clear hb5
    go_wp2_with fail
    refine (hmk.out _ _ (hc6.out _) (textsAt_of (hnews.out _))).mono ?_
    rintro e w6 ⟨ev, rfl, he, hb6⟩
    obtain ⟨rfl, _⟩ := he.zero rfl
    have hb6 := Lib.hid (below_trans (hc6.out _) hb6)
    clear he
    go_wp2_with fail
    go_ret2
    exact ⟨TextRes.mk hr.out rfl (ErrAt.bare 0), hb6.out⟩
end Go.Proofs.YtfbndfkahodheaaGreatDoor

/- The reference's feeds: HeadOf: walked. -/
namespace Go.Proofs.YtfbndfkahodheaaGreatDoor
open Go.RowKit

/-- What is answered: a text, a fault. -/
def HeadRes (r : List UInt8 × Nat × Int) (e : Ending) : Prop := e = .returned (.tuple #[.string (bs r.1), faultF r.2.1 r.2.2])
theorem HeadRes.mk {r : List UInt8 × Nat × Int} {L : List UInt8} {c : Nat} {a z : Int} {x : ByteArray} (hr : r = (L, c, a)) (hx : x = bs L) (hz : z = (c : Int)) : HeadRes r (.returned (.tuple #[.string x, .agg #[.int .i64 z, .int .i64 a]])) := by
  subst hr hx hz
  rfl
set_option maxHeartbeats 8000000 in
set_option maxRecDepth 100000 in
theorem headR_any (k : Int) (v : Value) (L : List Ent) (time : Int) (w : World) (hv : EntsAt w v L) (hm : ∀ e ∈ L, e.f.who.length ≤ maxLen) :
    Calls Tryz.prog 21 #[.int .i64 k, v, .int .i64 time] w fun e w' => HeadRes (headOf k L time) e ∧ Below w.heap.size w w' := by
  have hB0 : FBox w (w.alloc (.cells #[.int .i64 0, .int .i64 0] 33)) := ⟨heap_alloc_new w _, (Below.refl _ _).alloc (Nat.le_refl _) _⟩
  have hB0H := Lib.hid hB0
  by_cases hk : isKey k = true
  case neg =>
    have hk : isKey k = false := by simpa using hk
    have hr := Lib.hid (show headOf k L time = ([], 10, -1) by unfold headOf; rw [if_pos hk])
    have hba := Lib.hid (bareF_any 10 (w.alloc (.cells #[.int .i64 0, .int .i64 0] 33)))
    clear hv hm hB0
    go_enter Tryz.func21, Tryz.ntmps21
    go_wp2_with (go_at_call 28; refine (isKey_any _ _).mono ?_; rintro e w' ⟨rfl, rfl⟩)
    refine hba.out.mono ?_
    rintro e w1 ⟨rfl, hb1⟩
    have hB1 := hB0H.out.below hb1
    obtain ⟨⟨r0, r1⟩, f0, f1⟩ := hB1.cells
    have hfl := Lib.hid (hB1.set (.int .i64 10) (.int .i64 (-1)))
    clear hb1 hB1
    go_wp2_with fail
    exact bodyPost_ret (v := .tuple #[.string ⟨#[]⟩, .agg #[.int .i64 10, .int .i64 (-1)]]) (by simp [results, Tryz.results21, go_sem, hfl.out.1]) rfl ⟨HeadRes.mk hr.out rfl rfl, hfl.out.2⟩
  have hfl := Lib.hid (floorsR_ent v L (w.alloc (.cells #[.int .i64 0, .int .i64 0] 33)) (AtG.below hv hB0.2) hm)
  have hkH := Lib.hid hk
  have hprev := fun q (hq : L.length = q + 1) => (show ∃ b o c, v = .slice (some ⟨b, o, none⟩) L.length c ∧ w.cell? ⟨b, o + q * 4 + 1, none⟩ = some (.int .i64 (wasE L L.length)) from by
    obtain ⟨a, c, rfl, _, _, hc⟩ := EntsAt.get hv
    obtain ⟨b', o', rfl, _, p1, _⟩ := hc q (by omega)
    refine ⟨b', o', c, rfl, ?_⟩
    rw [p1]
    unfold wasE
    rw [if_neg (by omega), show L.length - 1 = q by omega, getD_get (by omega)])
  obtain ⟨a0, c0, hv0⟩ := AtG.sl hv
  have hlen := AtG.len hv
  unfold maxLen at hlen
  clear hB0
  by_cases hf : (floorsE L).2.1 = 0
  case neg =>
    have hr := headOf_err (time := time) hk hf
    obtain ⟨O, z, a1, hza⟩ : ∃ O z a1, floorsE L = (O, z, a1) := ⟨_, _, _, rfl⟩
    have hfl := hfl.out
    unfold RaiRes at hfl
    rw [hza] at hfl hr hf
    dsimp only [faultF] at hfl hr hf
    have hr := Lib.hid hr
    have hz1 : (0 : Int) < (z : Int) := by omega
    generalize hzd : (z : Int) = zi at *
    have hzd := Lib.hid hzd
    have hfl := Lib.hid hfl
    subst hv0
    clear hf hprev hv hm hza
    go_enter Tryz.func21, Tryz.ntmps21
    go_wp2_with (go_at_call 28; refine (isKey_any _ _).mono ?_; rintro e w' ⟨rfl, rfl⟩)
    refine hfl.out.mono ?_
    rintro e w1 ⟨⟨v9, rfl, hv9⟩, hb1⟩
    obtain ⟨a9, c9, hs9, _⟩ := hv9
    subst hs9
    have hB1 := (hB0H.out.below hb1).below ((Below.refl _ _).alloc (Nat.le_refl _) (.cells #[.int .i64 zi, .int .i64 a1] 33))
    obtain ⟨⟨r0, r1⟩, f0, f1⟩ := hB1.cells
    have hB1H := Lib.hid hB1
    clear hb1 hB1
    go_wp2_with fail
    go_region
    all_goals
      go_wp2_with fail
      have hR := hB1H.out.set (.int .i64 zi) (.int .i64 a1)
      have hR0 := set2_first hB1H.out.1 (.int .i64 zi)
      exact bodyPost_ret (v := .tuple #[.string ⟨#[]⟩, .agg #[.int .i64 zi, .int .i64 a1]]) (by simp [results, Tryz.results21, go_sem, hR.1, hR0]) rfl ⟨HeadRes.mk hr.out rfl hzd.out.symm, hR.2.drew⟩
  obtain ⟨_, _, hfe, hgd⟩ := floorsE_zero hf
  have hl60 := (checkE_zero (L := L) (by rw [(floorsE_zero hf).1])).1
  have hwas0 : L.length = 0 → wasE L L.length = 0 := fun h => by unfold wasE; rw [if_pos h]
  have hrT := Lib.hid (fun h => headOf_time (time := time) hk hf h)
  have hrK := Lib.hid (fun h => headOf_ok (time := time) hk hf h)
  have hfl := hfl.out
  unfold RaiRes at hfl
  have hF2 : floorsE L = ((floorsE L).1, 0, -1) := by rw [hfe]
  have hsum := fun (u : Value) wx (hx : FloorsAt wx u (floorsE L).1) => sumR_flo u (floorsE L).1 wx hx (fun f h => who_len ((floorsE_good hf).g.one f h))
  have hsd := sumF_bd (floorsE L).1
  rw [show (floorsE L).2 = (0, -1) by rw [hfe]] at hfl
  dsimp only [faultF] at hfl
  have hwords := Lib.hid (fun (h0 : 0 ≤ time) (h1 : time ≤ 1000000) => headWords_words (n := (L.length : Int)) (time := time) (sum := sumF (floorsE L).1) (by omega) (by omega) hsd)
  generalize (floorsE L).1 = O at *
  generalize wasE L L.length = was at *
  generalize sumF O = sm at *
  have hfl := Lib.hid hfl
  have hsum := Lib.hid hsum
  obtain ⟨n, hn⟩ : ∃ n, L.length = n := ⟨_, rfl⟩
  rw [hn] at hv0 hprev hl60 hrK hwords hwas0 hlen
  clear hf hm hv hn hfe hF2 hgd
  by_cases ht : time < 0 ∨ 1000000 < time ∨ time < was
  · have hr := Lib.hid (hrT.out ht)
    clear hrT hrK hwords hsum hsd
    by_cases ht0 : time < 0
    · clear hprev hwas0 ht
      subst hv0
      go_enter Tryz.func21, Tryz.ntmps21
      go_wp2_with (go_at_call 28; refine (isKey_any _ _).mono ?_; rintro e w' ⟨rfl, rfl⟩)
      refine hfl.out.mono ?_
      rintro e w1 ⟨⟨v9, rfl, hv9⟩, hb1⟩
      have hv9H := Lib.hid hv9
      obtain ⟨a9, c9, hs9, _⟩ := hv9
      subst hs9
      have hB1 := hB0H.out.below hb1
      have hB1A := Lib.hid (fun o => hB1.below ((Below.refl _ _).alloc (Nat.le_refl _) o))
      clear hB1
      have hba := Lib.hid (fun wx => bareF_any 2 wx)
      clear hb1
      go_wp2_with fail
      refine (hba.out _).mono ?_
      rintro e w2 ⟨rfl, hb2⟩
      have hB2 := (hB1A.out _).below hb2
      obtain ⟨⟨r0, r1⟩, f0, f1⟩ := hB2.cells
      have hset := Lib.hid (hB2.set (.int .i64 2) (.int .i64 (-1)))
      clear hb2 hB2
      go_wp2_with fail
      exact bodyPost_ret (v := .tuple #[.string ⟨#[]⟩, .agg #[.int .i64 2, .int .i64 (-1)]]) (by simp [results, Tryz.results21, go_sem, hset.out.1]) rfl ⟨HeadRes.mk hr.out rfl rfl, hset.out.2⟩
    by_cases ht1 : 1000000 < time
    · clear hprev hwas0 ht
      subst hv0
      go_enter Tryz.func21, Tryz.ntmps21
      go_wp2_with (go_at_call 28; refine (isKey_any _ _).mono ?_; rintro e w' ⟨rfl, rfl⟩)
      refine hfl.out.mono ?_
      rintro e w1 ⟨⟨v9, rfl, hv9⟩, hb1⟩
      have hv9H := Lib.hid hv9
      obtain ⟨a9, c9, hs9, _⟩ := hv9
      subst hs9
      have hB1 := hB0H.out.below hb1
      have hB1A := Lib.hid (fun o => hB1.below ((Below.refl _ _).alloc (Nat.le_refl _) o))
      clear hB1
      have hba := Lib.hid (fun wx => bareF_any 2 wx)
      clear hb1
      go_wp2_with fail
      refine (hba.out _).mono ?_
      rintro e w2 ⟨rfl, hb2⟩
      have hB2 := (hB1A.out _).below hb2
      obtain ⟨⟨r0, r1⟩, f0, f1⟩ := hB2.cells
      have hset := Lib.hid (hB2.set (.int .i64 2) (.int .i64 (-1)))
      clear hb2 hB2
      go_wp2_with fail
      exact bodyPost_ret (v := .tuple #[.string ⟨#[]⟩, .agg #[.int .i64 2, .int .i64 (-1)]]) (by simp [results, Tryz.results21, go_sem, hset.out.1]) rfl ⟨HeadRes.mk hr.out rfl rfl, hset.out.2⟩
    · have ht2 : time < was := by omega
      have hn0 : n ≠ 0 := fun h => by have := hwas0 h; omega
      obtain ⟨q, rfl⟩ : ∃ q, n = q + 1 := ⟨n - 1, by omega⟩
      obtain ⟨b, o, c, hv1, p1⟩ := hprev q rfl
      clear hprev hwas0 ht hn0 hv0
      subst hv1
      have p1H := Lib.hid p1
      have hq0 : (0 : Int) ≤ (q : Int) := by omega
      have hq1 : (q : Int) < (q : Int) + 1 := by omega
      clear p1
      go_enter Tryz.func21, Tryz.ntmps21
      go_wp2_with (go_at_call 28; refine (isKey_any _ _).mono ?_; rintro e w' ⟨rfl, rfl⟩)
      refine hfl.out.mono ?_
      rintro e w1 ⟨⟨v9, rfl, hv9⟩, hb1⟩
      have hv9H := Lib.hid hv9
      obtain ⟨a9, c9, hs9, _⟩ := hv9
      subst hs9
      have hB1 := hB0H.out.below hb1
      have hB1A := Lib.hid (fun o => hB1.below ((Below.refl _ _).alloc (Nat.le_refl _) o))
      clear hB1
      have hba := Lib.hid (fun wx => bareF_any 2 wx)
      have p1 := fun o => cell_below (below_trans (hB1A.out o).2 (Below.refl _ _)) p1H.out
      have p1 := p1 (.cells #[.int .i64 0, .int .i64 (-1)] 33)
      clear hb1
      go_wp2_with fail
      refine (hba.out _).mono ?_
      rintro e w2 ⟨rfl, hb2⟩
      have hB2 := (hB1A.out _).below hb2
      obtain ⟨⟨r0, r1⟩, f0, f1⟩ := hB2.cells
      have hset := Lib.hid (hB2.set (.int .i64 2) (.int .i64 (-1)))
      clear hb2 hB2
      go_wp2_with fail
      exact bodyPost_ret (v := .tuple #[.string ⟨#[]⟩, .agg #[.int .i64 2, .int .i64 (-1)]]) (by simp [results, Tryz.results21, go_sem, hset.out.1]) rfl ⟨HeadRes.mk hr.out rfl rfl, hset.out.2⟩
  have hr := Lib.hid (hrK.out ht)
  have ht0 : ¬ time < 0 := fun h => ht (.inl h)
  have ht1 : ¬ 1000000 < time := fun h => ht (.inr (.inl h))
  have ht2 : ¬ time < was := fun h => ht (.inr (.inr h))
  have hwords := Lib.hid (hwords.out (by omega) (by omega))
  have hnews := Lib.hid (fun (x : World) => textsAt_of (AtG.newL (C := strC) x (headWords n time sm) 9 (cs := #[.string ⟨#[104, 101, 97, 100]⟩, .string (bs (Lib.itoa n)), .string (bs (Lib.itoa time)), .string (bs (Lib.itoa sm))]) rfl (by unfold maxLen; simp [headWords])))
  have hd1 := Lib.hid (fun wx => decimal_any (n : Int) wx (by omega) (by omega))
  have hd2 := Lib.hid (fun wx => decimal_any time wx (by omega) (by omega))
  have hd3 := Lib.hid (fun wx => decimal_any sm wx (by omega) (by omega))
  have hse := fun vx wx (hvx : TextsAt wx vx (headWords n time sm)) => sealR_any k vx (headWords n time sm) wx hvx (fun x hx => by have := ((isWord_iff x).1 (hwords.out x hx)).2.1; unfold maxLen; omega)
  rw [makeOf_good hkH.out (by simp [headWords]) (by simp [headWords]) hwords.out] at hse
  unfold sealV faultV at hse
  dsimp only at hse
  have hse := Lib.hid hse
  have hwl : headWords n time sm = headWords n time sm := rfl
  clear hrT hrK ht hsd hwl
  by_cases hn0 : n = 0
  · subst hn0
    clear hprev hwas0
    subst hv0
    go_enter Tryz.func21, Tryz.ntmps21
    go_wp2_with (go_at_call 28; refine (isKey_any _ _).mono ?_; rintro e w' ⟨rfl, rfl⟩)
    refine hfl.out.mono ?_
    rintro e w1 ⟨⟨v9, rfl, hv9⟩, hb1⟩
    have hv9H := Lib.hid hv9
    obtain ⟨a9, c9, hs9, _⟩ := hv9
    subst hs9
    have hB1 := hB0H.out.below hb1
    have hB1A := Lib.hid (fun o => hB1.below ((Below.refl _ _).alloc (Nat.le_refl _) o))
    clear hB1
    have hv9A := Lib.hid (fun o => hv9H.out.below ((Below.refl _ _).alloc (Nat.le_refl _) o))
    clear hb1
    go_wp2_with fail
    refine (hd1.out _).mono ?_
    rintro e w2 ⟨rfl, hb2⟩
    have hB2 := Lib.hid ((hB1A.out _).below hb2)
    have hv2 := Lib.hid ((hv9A.out _).below hb2)
    clear hb2
    go_wp2_with fail
    refine (hd2.out _).mono ?_
    rintro e w3 ⟨rfl, hb3⟩
    have hB3 := Lib.hid (hB2.out.below hb3)
    have hv3 := Lib.hid (hv2.out.below hb3)
    clear hb3
    go_wp2_with fail
    refine (hsum.out _ _ hv3.out).mono ?_
    rintro e w4 ⟨rfl, hb4⟩
    have hB4 := Lib.hid (hB3.out.below hb4)
    clear hb4
    go_wp2_with fail
    refine (hd3.out _).mono ?_
    rintro e w5 ⟨rfl, hb5⟩
    have hB5 := Lib.hid (fun o => (hB4.out.below hb5).below ((Below.refl _ _).alloc (Nat.le_refl _) o))
    clear hb5
    go_wp2_with fail
    refine (hse.out _ _ (hnews.out _)).mono ?_
    rintro e w6 ⟨rfl, hb6⟩
    have hB6 := (hB5.out _).below hb6
    obtain ⟨⟨r0, r1⟩, f0, f1⟩ := hB6.cells
    have hset := Lib.hid (hB6.set (.int .i64 0) (.int .i64 (-1)))
    clear hb6 hB6
    go_wp2_with fail
    exact bodyPost_ret (v := .tuple #[.string (bs (sealText k (headWords (0 : Nat) time sm))), .agg #[.int .i64 0, .int .i64 (-1)]]) (by simp [results, Tryz.results21, go_sem, hset.out.1]) rfl ⟨HeadRes.mk hr.out rfl rfl, hset.out.2⟩
  · obtain ⟨q, rfl⟩ : ∃ q, n = q + 1 := ⟨n - 1, by omega⟩
    obtain ⟨b, o, c, hv1, p1⟩ := hprev q rfl
    clear hprev hwas0 hn0 hv0
    subst hv1
    have p1H := Lib.hid p1
    have hq0 : (0 : Int) ≤ (q : Int) := by omega
    have hq1 : (q : Int) < (q : Int) + 1 := by omega
    clear p1
    go_enter Tryz.func21, Tryz.ntmps21
    go_wp2_with (go_at_call 28; refine (isKey_any _ _).mono ?_; rintro e w' ⟨rfl, rfl⟩)
    refine hfl.out.mono ?_
    rintro e w1 ⟨⟨v9, rfl, hv9⟩, hb1⟩
    have hv9H := Lib.hid hv9
    obtain ⟨a9, c9, hs9, _⟩ := hv9
    subst hs9
    have hB1 := hB0H.out.below hb1
    have hB1A := Lib.hid (fun o => hB1.below ((Below.refl _ _).alloc (Nat.le_refl _) o))
    clear hB1
    have hv9A := Lib.hid (fun o => hv9H.out.below ((Below.refl _ _).alloc (Nat.le_refl _) o))
    have p1 := cell_below (hB1A.out (.cells #[.int .i64 0, .int .i64 (-1)] 33)).2 p1H.out
    clear hb1
    go_wp2_with fail
    refine (hd1.out _).mono ?_
    rintro e w2 ⟨rfl, hb2⟩
    have hB2 := Lib.hid ((hB1A.out _).below hb2)
    have hv2 := Lib.hid ((hv9A.out _).below hb2)
    clear hb2
    go_wp2_with fail
    refine (hd2.out _).mono ?_
    rintro e w3 ⟨rfl, hb3⟩
    have hB3 := Lib.hid (hB2.out.below hb3)
    have hv3 := Lib.hid (hv2.out.below hb3)
    clear hb3
    go_wp2_with fail
    refine (hsum.out _ _ hv3.out).mono ?_
    rintro e w4 ⟨rfl, hb4⟩
    have hB4 := Lib.hid (hB3.out.below hb4)
    clear hb4
    go_wp2_with fail
    refine (hd3.out _).mono ?_
    rintro e w5 ⟨rfl, hb5⟩
    have hB5 := Lib.hid (fun o => (hB4.out.below hb5).below ((Below.refl _ _).alloc (Nat.le_refl _) o))
    clear hb5
    go_wp2_with fail
    refine (hse.out _ _ (hnews.out _)).mono ?_
    rintro e w6 ⟨rfl, hb6⟩
    have hB6 := (hB5.out _).below hb6
    obtain ⟨⟨r0, r1⟩, f0, f1⟩ := hB6.cells
    have hset := Lib.hid (hB6.set (.int .i64 0) (.int .i64 (-1)))
    clear hb6 hB6
    go_wp2_with fail
    exact bodyPost_ret (v := .tuple #[.string (bs (sealText k (headWords ((q + 1 : Nat) : Int) time sm))), .agg #[.int .i64 0, .int .i64 (-1)]]) (by simp [results, Tryz.results21, go_sem, hset.out.1]) rfl ⟨HeadRes.mk hr.out rfl rfl, hset.out.2⟩
end Go.Proofs.YtfbndfkahodheaaGreatDoor
