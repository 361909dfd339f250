/- FedH, Look -/
import Derived.Test.YtpkcndohjmpdeaaGreatDoorMg12
import Derived.Test.YtpkcndohjmpdeaaGreatDoorMg14
/- feed.Make: walked. -/
namespace Go.Proofs.YtpkcndohjmpdeaaGreatDoor
open Go.RowKit

/-- A row of elements that were laid into a block of their own. -/
theorem AtG.newL {α : Type} {C : Cells α} (x : World) (L : List α) (T : TypeId) {cs : Array Value} (hc : cs = (flatG C L).toArray) (hm : L.length ≤ maxLen) : AtG C (x.alloc (.cells cs T)) (.slice (some ⟨x.heap.size, 0, none⟩) L.length L.length) L := by
  subst hc
  have h := heap_alloc_new x (.cells (flatG C L).toArray T)
  refine ⟨_, _, rfl, hm, Nat.le_refl _, (fun e => by cases e), fun i hi => ⟨x.heap.size, 0, rfl, fun j u hu => ?_⟩⟩
  have hj := (List.getElem?_eq_some_iff.1 hu).1
  rw [C.len] at hj
  have h1 := flatG_get C L i hi j hj
  rw [hu] at h1
  rw [cell_of_row _ _ _ _ _ _ h, Nat.zero_add]
  simpa using h1
theorem makeOf_good {k : Int} {W : List (List UInt8)} (hk : isKey k = true) (h1 : 1 ≤ W.length) (h2 : W.length ≤ 10) (hw : ∀ x ∈ W, isWord x = true) : makeOf k W = (sealText k W, 0, -1) := by
  unfold makeOf
  rw [if_neg (by rw [hk]; decide), if_neg (by omega), if_pos ((badIdx_iff W).2 hw)]
theorem headOf_err {key : Int} {L : List Ent} {time : Int} (hk : isKey key = true) (h : (floorsE L).2.1 ≠ 0) : headOf key L time = ([], (floorsE L).2.1, (floorsE L).2.2) := by unfold headOf; rw [if_neg (by rw [hk]; decide), if_pos h]
theorem headOf_time {key : Int} {L : List Ent} {time : Int} (hk : isKey key = true) (h : (floorsE L).2.1 = 0) (ht : time < 0 ∨ 1000000 < time ∨ time < wasE L L.length) : headOf key L time = ([], 2, -1) := by unfold headOf; rw [if_neg (by rw [hk]; decide), if_neg (by simpa using h), if_pos ht]
theorem headOf_ok {key : Int} {L : List Ent} {time : Int} (hk : isKey key = true) (h : (floorsE L).2.1 = 0) (ht : ¬ (time < 0 ∨ 1000000 < time ∨ time < wasE L L.length)) : headOf key L time = (sealText key (headWords L.length time (sumF (floorsE L).1)), 0, -1) := by unfold headOf; rw [if_neg (by rw [hk]; decide), if_neg (by simpa using h), if_neg ht]
set_option maxHeartbeats 4000000 in
set_option maxRecDepth 100000 in
theorem makeF_any {E : Nat → Addr} (k : Int) (v : Value) (L : List Ent) (time : Int) (w : World) (hL : LaidS E w) (hv : EntsAt w v L) (hm : ∀ e ∈ L, e.f.who.length ≤ maxLen) :
    Calls Tryz.prog 10 #[.int .i64 k, v, .int .i64 time] w fun e w' => TextRes E w' (headOf k L time) e ∧ Below w.heap.size w w' := by
  by_cases hk : isKey k = true
  case neg =>
    have hk : isKey k = false := by simpa using hk
    have hr := Lib.hid (show headOf k L time = ([], 10, -1) by unfold headOf; rw [if_pos hk])
    have he := hL.laid.e10
    simp only [errV] at he
    clear hv hm hL
    go_enter Tryz.func10, Tryz.ntmps10
    go_wp2_with (go_at_call 35; refine (key_any _ _).mono ?_; rintro e w' ⟨rfl, rfl⟩)
    go_quiet (fail)
    go_wp2_with fail
    go_ret2
    exact ⟨TextRes.mk hr.out rfl (ErrAt.bare 10), below_drawn (Below.refl _ _) _⟩
  have hfl := Lib.hid (floors_ent (E := E) v L w hL.laid hv hm)
  have hkH := Lib.hid hk
  have hprev := fun q (hq : L.length = q + 1) => (show ∃ b o c, v = .slice (some ⟨b, o, none⟩) L.length c ∧ w.cell? ⟨b, o + q * 4 + 1, none⟩ = some (.int .i64 (wasE L L.length)) from by
    obtain ⟨a, c, rfl, _, _, hc⟩ := EntsAt.get hv
    obtain ⟨b', o', rfl, _, p1, _⟩ := hc q (by omega)
    refine ⟨b', o', c, rfl, ?_⟩
    rw [p1]
    unfold wasE
    rw [if_neg (by omega), show L.length - 1 = q by omega, getD_get (by omega)])
  obtain ⟨a0, c0, hv0⟩ := AtG.sl hv
  have hlen := AtG.len hv
  unfold maxLen at hlen
  by_cases hf : (floorsE L).2.1 = 0
  case neg =>
    have hr := Lib.hid (headOf_err (time := time) hk hf)
    have hfH := Lib.hid hf
    clear hf hprev hv hm hL hv0
    go_enter Tryz.func10, Tryz.ntmps10
    go_wp2_with (go_at_call 35; refine (key_any _ _).mono ?_; rintro e w' ⟨rfl, rfl⟩)
    refine hfl.out.mono ?_
    rintro e w1 ⟨⟨v6, ev6, rfl, _, he⟩, hb1⟩
    obtain ⟨T, x, rfl⟩ := he.iface hfH.out
    have he := Lib.hid he
    have hb1 := Lib.hid hb1
    go_wp2_with fail
    go_ret2
    exact ⟨TextRes.mk hr.out rfl he.out, hb1.out⟩
  have hl60 := (checkE_zero (L := L) (by rw [(floorsE_zero hf).1])).1
  have hfH := Lib.hid hf
  have hL1 := Lib.hid (fun wx (hx : Below w.heap.size w wx) => hL.below hx)
  have hwas0 : L.length = 0 → wasE L L.length = 0 := fun h => by unfold wasE; rw [if_pos h]
  have h5 := Lib.hid (fun (v6 : Value) (w2 wx : World) (hb : Below w.heap.size w w2) (hrow : FlRow w2 w.heap.size v6 (floorsE L).1) (hx : Below w2.heap.size w2 wx) => sum_flo (E := E) v6 (floorsE L).1 wx (hL.below (below_trans hb hx)) (floorsAt_of (RowG.at_ (floRow_G.1 (hrow.below hx)))) (fun f h => who_len ((floorsE_good hf).g.one f h)))
  have hsd := sumF_bd (floorsE L).1
  have hit := Lib.hid (fun (m : Int) wx (hx : Below w.heap.size w wx) (h0 : 0 ≤ m) (h1 : m ≤ 1073741824) => itoa_any (E := E) m (by omega) (by omega) wx (hL.below hx))
  have hwords := Lib.hid (fun (h0 : 0 ≤ time) (h1 : time ≤ 1000000) => headWords_words (n := (L.length : Int)) (time := time) (sum := sumF (floorsE L).1) (by omega) (by omega) hsd)
  have hmk := Lib.hid (fun (vx : Value) (W : List (List UInt8)) wx (hx : Below w.heap.size w wx) (hvx : TextsAt wx vx W) (h1 : 1 ≤ W.length) (h2 : W.length ≤ 10) (hw : ∀ x ∈ W, isWord x = true) => (by
    have h := make_any (E := E) k vx W wx (hL.below hx) hvx (fun x hx => by have := ((isWord_iff x).1 (hw x hx)).2.1; unfold maxLen; omega)
    rw [makeOf_good hk h1 h2 hw] at h
    exact h : Calls Tryz.prog 36 #[.int .i64 k, vx] wx fun e w' => ∃ ev, e = .returned (.tuple #[.string (bs (sealText k W)), ev]) ∧ ErrAt E w' ev 0 (-1) ∧ Below wx.heap.size wx w'))
  have hrT := Lib.hid (fun h => headOf_time (time := time) hk hf h)
  have hrK := Lib.hid (fun h => headOf_ok (time := time) hk hf h)
  generalize wasE L L.length = was at *
  generalize sumF (floorsE L).1 = sm at *
  obtain ⟨n, hn⟩ : ∃ n, L.length = n := ⟨_, rfl⟩
  rw [hn] at hv0 hprev hl60 hrK hwords hwas0 hlen
  clear hf hm hL hv hn
  by_cases ht : time < 0 ∨ 1000000 < time ∨ time < was
  · have hr := Lib.hid (hrT.out ht)
    clear hrT hrK hmk hwords hit h5 hsd
    by_cases ht0 : time < 0
    · clear hprev hwas0 ht
      subst hv0
      go_enter Tryz.func10, Tryz.ntmps10
      go_wp2_with (go_at_call 35; refine (key_any _ _).mono ?_; rintro e w' ⟨rfl, rfl⟩)
      refine hfl.out.mono ?_
      rintro e w1 ⟨⟨v6, ev6, rfl, _, he⟩, hb1⟩
      obtain ⟨rfl, _⟩ := he.zero hfH.out
      have he2 := (hL1.out _ hb1).laid.e2
      simp only [errV] at he2
      have hb1 := Lib.hid hb1
      clear he
      go_wp2_with fail
      go_quiet (fail)
      go_wp2_with fail
      go_ret2
      exact ⟨TextRes.mk hr.out rfl (ErrAt.bare 2), below_drawn hb1.out _⟩
    by_cases ht1 : 1000000 < time
    · clear hprev hwas0 ht
      subst hv0
      go_enter Tryz.func10, Tryz.ntmps10
      go_wp2_with (go_at_call 35; refine (key_any _ _).mono ?_; rintro e w' ⟨rfl, rfl⟩)
      refine hfl.out.mono ?_
      rintro e w1 ⟨⟨v6, ev6, rfl, _, he⟩, hb1⟩
      obtain ⟨rfl, _⟩ := he.zero hfH.out
      have he2 := (hL1.out _ hb1).laid.e2
      simp only [errV] at he2
      have hb1 := Lib.hid hb1
      clear he
      go_wp2_with fail
      go_quiet (fail)
      go_wp2_with fail
      go_ret2
      exact ⟨TextRes.mk hr.out rfl (ErrAt.bare 2), below_drawn hb1.out _⟩
    · have ht2 : time < was := by omega
      have hn0 : n ≠ 0 := fun h => by have := hwas0 h; omega
      obtain ⟨q, rfl⟩ : ∃ q, n = q + 1 := ⟨n - 1, by omega⟩
      obtain ⟨b, o, c, hv1, p1⟩ := hprev q rfl
      clear hprev hwas0 ht hn0 hv0
      subst hv1
      have p1H := Lib.hid p1
      have hq0 : (0 : Int) ≤ (q : Int) := by omega
      have hq1 : (q : Int) < (q : Int) + 1 := by omega
      clear p1
      go_enter Tryz.func10, Tryz.ntmps10
      go_wp2_with (go_at_call 35; refine (key_any _ _).mono ?_; rintro e w' ⟨rfl, rfl⟩)
      refine hfl.out.mono ?_
      rintro e w1 ⟨⟨v6, ev6, rfl, _, he⟩, hb1⟩
      obtain ⟨rfl, _⟩ := he.zero hfH.out
      have he2 := (hL1.out _ hb1).laid.e2
      simp only [errV] at he2
      have p1 := cell_below hb1 p1H.out
      have hb1 := Lib.hid hb1
      clear he
      go_wp2_with fail
      go_quiet (fail)
      go_wp2_with fail
      go_ret2
      exact ⟨TextRes.mk hr.out rfl (ErrAt.bare 2), below_drawn hb1.out _⟩
  have hr := Lib.hid (hrK.out ht)
  have ht0 : ¬ time < 0 := fun h => ht (.inl h)
  have ht1 : ¬ 1000000 < time := fun h => ht (.inr (.inl h))
  have ht2 : ¬ time < was := fun h => ht (.inr (.inr h))
  have hwords := Lib.hid (hwords.out (by omega) (by omega))
  have hnews := Lib.hid (fun (x : World) => AtG.newL (C := strC) x (headWords n time sm) 9 (cs := #[.string ⟨#[104, 101, 97, 100]⟩, .string (bs (Lib.itoa n)), .string (bs (Lib.itoa time)), .string (bs (Lib.itoa sm))]) rfl (by unfold maxLen; simp [headWords]))
  have hit1 := Lib.hid (fun wx hx => hit.out (n : Int) wx hx (by omega) (by omega))
  have hit2 := Lib.hid (fun wx hx => hit.out time wx hx (by omega) (by omega))
  have hit3 := Lib.hid (fun wx hx => hit.out sm wx hx hsd.1 (by omega))
  have hmk := Lib.hid (fun (vx : Value) wx hx hvx => hmk.out vx (headWords n time sm) wx hx hvx (by simp [headWords]) (by simp [headWords]) hwords.out)
  clear hrT hrK ht hsd hit hwords
  by_cases hn0 : n = 0
  · subst hn0
    clear hprev hwas0
    subst hv0
    go_enter Tryz.func10, Tryz.ntmps10
    go_wp2_with (go_at_call 35; refine (key_any _ _).mono ?_; rintro e w' ⟨rfl, rfl⟩)
    refine hfl.out.mono ?_
    rintro e w1 ⟨⟨v6, ev6, rfl, hrow6, he⟩, hb1⟩
    obtain ⟨rfl, _⟩ := he.zero hfH.out
    have h5 := Lib.hid (fun wx hx => h5.out v6 w1 wx hb1 hrow6 hx)
    have hb1 := Lib.hid hb1
    clear he hrow6
    go_wp2_with fail
    refine (hit1.out _ hb1.out).mono ?_
    rintro e w2 ⟨rfl, hb2⟩
    have hc2 := Lib.hid hb2
    clear hb2
    go_wp2_with fail
    refine (hit2.out _ (below_trans hb1.out hc2.out)).mono ?_
    rintro e w3 ⟨rfl, hb3⟩
    have hc3 := Lib.hid (below_trans hc2.out hb3)
    clear hb3
    go_wp2_with fail
    refine (h5.out _ hc3.out).mono ?_
    rintro e w4 ⟨rfl, hb4⟩
    have hc4 := Lib.hid (below_trans hb1.out (below_trans hc3.out hb4))
    clear hb4
    go_wp2_with fail
    refine (hit3.out _ hc4.out).mono ?_
    rintro e w5 ⟨rfl, hb5⟩
    have hc5 := Lib.hid (below_trans hc4.out hb5)
    have hc6 := Lib.hid (fun o => (below_trans hc4.out hb5).alloc (below_trans hc4.out hb5).size o)
    clear hb5
    go_wp2_with fail
    refine (hmk.out _ _ (hc6.out _) (textsAt_of (hnews.out _))).mono ?_
    rintro e w6 ⟨ev, rfl, he, hb6⟩
    obtain ⟨rfl, _⟩ := he.zero rfl
    have hb6 := Lib.hid (below_trans (hc6.out _) hb6)
    clear he
    go_wp2_with fail
    go_ret2
    exact ⟨TextRes.mk hr.out rfl (ErrAt.bare 0), hb6.out⟩
  · obtain ⟨q, rfl⟩ : ∃ q, n = q + 1 := ⟨n - 1, by omega⟩
    obtain ⟨b, o, c, hv1, p1⟩ := hprev q rfl
    clear hprev hwas0 hn0 hv0
    subst hv1
    have p1H := Lib.hid p1
    have hq0 : (0 : Int) ≤ (q : Int) := by omega
    have hq1 : (q : Int) < (q : Int) + 1 := by omega
    clear p1
    go_enter Tryz.func10, Tryz.ntmps10
    go_wp2_with (go_at_call 35; refine (key_any _ _).mono ?_; rintro e w' ⟨rfl, rfl⟩)
    refine hfl.out.mono ?_
    rintro e w1 ⟨⟨v6, ev6, rfl, hrow6, he⟩, hb1⟩
    obtain ⟨rfl, _⟩ := he.zero hfH.out
    have p1 := cell_below hb1 p1H.out
    have h5 := Lib.hid (fun wx hx => h5.out v6 w1 wx hb1 hrow6 hx)
    have hb1 := Lib.hid hb1
    clear he hrow6
    go_wp2_with fail
    refine (hit1.out _ hb1.out).mono ?_
    rintro e w2 ⟨rfl, hb2⟩
    have hc2 := Lib.hid hb2
    clear hb2
    go_wp2_with fail
    refine (hit2.out _ (below_trans hb1.out hc2.out)).mono ?_
    rintro e w3 ⟨rfl, hb3⟩
    have hc3 := Lib.hid (below_trans hc2.out hb3)
    clear hb3
    go_wp2_with fail
    refine (h5.out _ hc3.out).mono ?_
    rintro e w4 ⟨rfl, hb4⟩
    have hc4 := Lib.hid (below_trans hb1.out (below_trans hc3.out hb4))
    clear hb4
    go_wp2_with fail
    refine (hit3.out _ hc4.out).mono ?_
    rintro e w5 ⟨rfl, hb5⟩
    have hc5 := Lib.hid (below_trans hc4.out hb5)
    have hc6 := Lib.hid (fun o => (below_trans hc4.out hb5).alloc (below_trans hc4.out hb5).size o)
    clear hb5
    go_wp2_with fail
    refine (hmk.out _ _ (hc6.out _) (textsAt_of (hnews.out _))).mono ?_
    rintro e w6 ⟨ev, rfl, he, hb6⟩
    obtain ⟨rfl, _⟩ := he.zero rfl
    have hb6 := Lib.hid (below_trans (hc6.out _) hb6)
    clear he
    go_wp2_with fail
    go_ret2
    exact ⟨TextRes.mk hr.out rfl (ErrAt.bare 0), hb6.out⟩
end Go.Proofs.YtpkcndohjmpdeaaGreatDoor

/- seal.look, Look and Open by contracts. -/
namespace Go.Proofs.YtpkcndohjmpdeaaGreatDoor
open Go.RowKit

theorem textsAt_nil (w : World) : TextsAt w (.slice none 0 0) [] := ⟨none, 0, rfl, Nat.zero_le _, Nat.zero_le _, fun i hi => by cases hi⟩
set_option maxRecDepth 100000 in
theorem split_any {E : Nat → Addr} (s : ByteArray) (w : World) (hL : LaidS E w) (hs : s.size ≤ 1000000) :
    Calls Tryz.prog 110 #[.string s, .string ⟨#[32]⟩] w fun e w' => ∃ v, e = .returned v ∧ TextsAt w' v (cutL 32 s.data.toList) ∧ Below w.heap.size w w' := by
  obtain ⟨m, hm⟩ := hL.mx
  have h := Any.strings_Split Tryz.splitL (by kernel_rfl) s ⟨#[32]⟩ m w (by omega) hm (Nat.le_refl 1)
  refine (show Calls Tryz.prog 110 #[.string s, .string ⟨#[32]⟩] w _ from h).mono ?_
  rintro e w' ⟨rfl, rfl⟩
  have hcut := splitB_cut 32 s
  have hlen := countB_cut 32 s
  rw [hcut, hlen]
  have hle : (cutL 32 s.data.toList).length ≤ s.size + 1 := by
    rw [← hlen]
    have := Lib.countB_le ⟨#[32]⟩ (Nat.le_refl 1) s.size s (Nat.le_refl _)
    omega
  refine ⟨_, rfl, ⟨_, _, rfl, by unfold maxLen; omega, Nat.le_refl _, fun i hi => ⟨w.heap.size, 0, rfl, ?_⟩⟩, (Below.refl _ _).alloc (Nat.le_refl _) _⟩
  rw [World.cell?_alloc_new]
  simp [hi]

set_option maxHeartbeats 1000000 in
set_option maxRecDepth 100000 in
theorem look_any {E : Nat → Addr} (s : ByteArray) (w : World) (hL : LaidS E w) (hs : s.size ≤ 1000000) :
    Calls Tryz.prog 81 #[.string s] w fun e w' => ∃ v, e = .returned (.tuple #[.string (bs (lookOf s.data.toList).1), v, .int .i64 (lookOf s.data.toList).2.2.1, errV E (lookOf s.data.toList).2.2.2]) ∧ TextsAt w' v (lookOf s.data.toList).2.1 ∧ Below w.heap.size w w' := by
  have hlen : s.data.toList.length = s.size := Array.length_toList
  by_cases h4 : 4000 < s.size
  · have hr := Lib.hid (show lookOf s.data.toList = ([], [], 0, 2) by unfold lookOf; rw [if_pos (by omega)])
    have he := hL.laid.e2
    clear hlen
    go_enter Tryz.func81, Tryz.ntmps81
    go_wp2_with fail
    go_quiet (fail)
    go_wp2_with fail
    exact bodyPost_ret (v := .tuple #[.string ⟨#[]⟩, .slice none 0 0, .int .i64 0, errV E 2]) (by simp [results, Tryz.results81, go_sem]) rfl ⟨.slice none 0 0, by rw [hr.out]; rfl, by rw [hr.out]; exact textsAt_nil _, below_drawn (Below.refl _ _) _⟩
  have hlast : Lib.lastIndexByte s 32 = _ := rfl
  have hspec := lastIndex_cut 32 s
  cases hc : lastCut 32 s.data.toList with
  | none =>
    rw [hc] at hspec
    have hli := Lib.hid (show Calls Tryz.prog 109 #[.string s, .int .u8 32] w _ from Any.strings_LastIndexByte Tryz.lastL s 32 (by omega) w)
    have hspec : Lib.lastIndexByte s 32 = -1 := hspec
    rw [hspec] at hli
    have hr := Lib.hid (show lookOf s.data.toList = ([], [], 0, 1) by unfold lookOf; rw [if_neg (by omega), hc])
    have he := hL.laid.e1
    clear hlen hlast hspec hc
    go_enter Tryz.func81, Tryz.ntmps81
    go_wp2_with fail
    refine hli.out.mono ?_
    rintro e w1 ⟨rfl, hw⟩
    subst hw
    go_wp2_with fail
    go_quiet (fail)
    go_wp2_with fail
    exact bodyPost_ret (v := .tuple #[.string ⟨#[]⟩, .slice none 0 0, .int .i64 0, errV E 1]) (by simp [results, Tryz.results81, go_sem]) rfl ⟨.slice none 0 0, by rw [hr.out]; rfl, by rw [hr.out]; exact textsAt_nil _, below_drawn (Below.refl _ _) _⟩
  | some x =>
    obtain ⟨h, t⟩ := x
    obtain ⟨e1, e2⟩ := lastCut_some 32 _ h t hc
    rw [hc] at hspec
    have hli := Lib.hid (show Calls Tryz.prog 109 #[.string s, .int .u8 32] w _ from Any.strings_LastIndexByte Tryz.lastL s 32 (by omega) w)
    have hspec : Lib.lastIndexByte s 32 = (h.length : Int) := hspec
    rw [hspec] at hli
    have hsz : s.size = h.length + 1 + t.length := by rw [← hlen, e1]; simp; omega
    have hex1 := Lib.hid (show s.extract 0 h.length = bs h by
      apply ByteArray.ext
      apply Array.toList_inj.1
      rw [Lib.extract_data, e1, bs_list]
      simp)
    have hex2 := Lib.hid (show s.extract (h.length + 1) s.size = bs t by
      apply ByteArray.ext
      apply Array.toList_inj.1
      rw [Lib.extract_to_end, e1, bs_list]
      simp [List.drop_append])
    have hlk := Lib.hid (show lookOf s.data.toList = if (number t 1000000006).2 = false then ([], [], 0, 1) else if 10 < (cutL 32 h).length then ([], [], 0, 1) else if badIdx (cutL 32 h) = -1 then (h, cutL 32 h, (number t 1000000006).1, 0) else ([], [], 0, 1) by
      unfold lookOf
      rw [if_neg (by omega), hc])
    have hsp := Lib.hid (split_any (bs h) w hL (by rw [bs_size]; omega))
    have hnu := Lib.hid (fun wx (hx : Below w.heap.size w wx) => number_any (bs t) 1000000006 wx (hL.below hx) (by rw [bs_size]; omega))
    have hht : h.length ≤ 4000 := by omega
    have h4 : decide ((4000 : Int) < (s.size : Int)) = false := decide_eq_false (by omega)
    have hlt : (h.length : Int) < (s.size : Int) := by omega
    clear hlast hspec hc e1 e2 hlen hsz
    go_enter Tryz.func81, Tryz.ntmps81
    go_wp2_with fail
    refine hli.out.mono ?_
    rintro e w1 ⟨rfl, hw⟩
    subst hw
    go_wp2_with fail
    rw [hex1.out]
    refine hsp.out.mono ?_
    rintro e w2 ⟨v, rfl, hv, hb2⟩
    have hv' := Lib.hid hv
    obtain ⟨a, c, rfl, hvl, _, _⟩ := hv
    rw [bs_list] at *
    have hcl := cutL_length 32 h
    unfold maxLen at hvl
    have hb2' := Lib.hid hb2
    go_wp2_with fail
    rw [hex2.out]
    refine (hnu.out _ hb2'.out).mono ?_
    rintro e w3 ⟨rfl, hb3⟩
    have hb23 := Lib.hid hb3
    have hb3 := Lib.hid (below_trans hb2'.out hb3)
    unfold numRes
    have hnb := number_bd t 1000000006
    cases hn2 : (number t 1000000006).2 with
    | false =>
      have hr := Lib.hid (show lookOf s.data.toList = ([], [], 0, 1) by rw [hlk.out, if_pos hn2])
      have he := (hL.below hb3.out).laid.e1
      clear hn2
      go_wp2_with fail
      go_quiet (fail)
      go_wp2_with fail
      exact bodyPost_ret (v := .tuple #[.string ⟨#[]⟩, .slice none 0 0, .int .i64 0, errV E 1]) (by simp [results, Tryz.results81, go_sem]) rfl ⟨.slice none 0 0, by rw [hr.out]; rfl, by rw [hr.out]; exact textsAt_nil _, below_drawn hb3.out _⟩
    | true =>
      have hlk := Lib.hid (show lookOf s.data.toList = if 10 < (cutL 32 h).length then ([], [], 0, 1) else if badIdx (cutL 32 h) = -1 then (h, cutL 32 h, (number t 1000000006).1, 0) else ([], [], 0, 1) by rw [hlk.out, if_neg (by rw [hn2]; decide)])
      clear hn2
      by_cases h10 : 10 < (cutL 32 h).length
      · have hr := Lib.hid (show lookOf s.data.toList = ([], [], 0, 1) by rw [hlk.out, if_pos h10])
        have h10' : decide ((10 : Int) < ((cutL 32 h).length : Int)) = true := decide_eq_true (by omega)
        have he := (hL.below hb3.out).laid.e1
        go_wp2_with fail
        go_quiet (fail)
        go_wp2_with fail
        exact bodyPost_ret (v := .tuple #[.string ⟨#[]⟩, .slice none 0 0, .int .i64 0, errV E 1]) (by simp [results, Tryz.results81, go_sem]) rfl ⟨.slice none 0 0, by rw [hr.out]; rfl, by rw [hr.out]; exact textsAt_nil _, below_drawn hb3.out _⟩
      have hlk := Lib.hid (show lookOf s.data.toList = if badIdx (cutL 32 h) = -1 then (h, cutL 32 h, (number t 1000000006).1, 0) else ([], [], 0, 1) by rw [hlk.out, if_neg h10])
      have h10' : decide ((10 : Int) < ((cutL 32 h).length : Int)) = false := decide_eq_false (by omega)
      have hv3 := hv'.out.below hb23.out
      have hco := Lib.hid (contains_any _ (cutL 32 h) 112 w3 hv3 (fun x hx => by have := cutL_len 32 h x hx; unfold maxLen; omega) (look1_bad w3) (enters_of Tryz.func112 (by kernel_rfl) rfl))
      rcases badIdx_cases (cutL 32 h) with ⟨hb, _⟩ | ⟨j, _, hb, _, _⟩
      · have hr := Lib.hid (show lookOf s.data.toList = (h, cutL 32 h, (number t 1000000006).1, 0) by rw [hlk.out, if_pos hb])
        have hd : decide (0 ≤ badIdx (cutL 32 h)) = false := by rw [hb]; rfl
        rw [hd] at hco
        clear hb hd h10
        go_wp2_with fail
        refine hco.out.mono ?_
        rintro e w4 ⟨rfl, hb4⟩
        have hv4 := hv3.below hb4
        have hb4 := Lib.hid (below_trans hb3.out hb4)
        go_wp2_with fail
        refine bodyPost_ret (v := .tuple #[.string (s.extract 0 h.length), .slice a (cutL 32 h).length c, .int .i64 (number t 1000000006).1, .nilIface]) (by simp [results, Tryz.results81, go_sem]) rfl ⟨.slice a (cutL 32 h).length c, ?_, by rw [hr.out]; exact hv4, hb4.out⟩
        rw [hr.out, hex1.out]
        rfl
      · have hr := Lib.hid (show lookOf s.data.toList = ([], [], 0, 1) by rw [hlk.out, if_neg (by rw [hb]; omega)])
        have hd : decide (0 ≤ badIdx (cutL 32 h)) = true := by rw [hb]; exact decide_eq_true (by omega)
        rw [hd] at hco
        clear hb hd h10
        go_wp2_with fail
        refine hco.out.mono ?_
        rintro e w4 ⟨rfl, hb4⟩
        have hb4 := Lib.hid (below_trans hb3.out hb4)
        have he := (hL.below hb4.out).laid.e1
        go_wp2_with fail
        go_quiet (fail)
        go_wp2_with fail
        exact bodyPost_ret (v := .tuple #[.string ⟨#[]⟩, .slice none 0 0, .int .i64 0, errV E 1]) (by simp [results, Tryz.results81, go_sem]) rfl ⟨.slice none 0 0, by rw [hr.out]; rfl, by rw [hr.out]; exact textsAt_nil _, below_drawn hb4.out _⟩
set_option maxHeartbeats 1000000 in
set_option maxRecDepth 100000 in
theorem open_any {E : Nat → Addr} (k : Int) (s : ByteArray) (w : World) (hL : LaidS E w) (hs : s.size ≤ 1000000) :
    Calls Tryz.prog 58 #[.int .i64 k, .string s] w fun e w' => ∃ v, e = .returned (.tuple #[v, errV E (openOf k s.data.toList).2]) ∧ TextsAt w' v (openOf k s.data.toList).1 ∧ Below w.heap.size w w' := by
  by_cases hk : isKey k = true
  case neg =>
    have hk : isKey k = false := by simpa using hk
    have hr := Lib.hid (show openOf k s.data.toList = ([], 10) by unfold openOf; rw [if_pos hk])
    have he := hL.laid.e10
    go_enter Tryz.func58, Tryz.ntmps58
    go_wp2_with (go_at_call 35; refine (key_any _ _).mono ?_; rintro e w' ⟨rfl, rfl⟩)
    go_quiet (fail)
    go_wp2_with fail
    go_ret2
    exact ⟨.slice none 0 0, by rw [hr.out]; rfl, by rw [hr.out]; exact textsAt_nil _, below_drawn (Below.refl _ _) _⟩
  have hl := Lib.hid (look_any s w hL hs)
  have ho := Lib.hid (show openOf k s.data.toList = if (lookOf s.data.toList).2.2.2 = 0 then (if rightOf k (lookOf s.data.toList).1 (lookOf s.data.toList).2.2.1 = 0 then ((lookOf s.data.toList).2.1, 0) else ([], rightOf k (lookOf s.data.toList).1 (lookOf s.data.toList).2.2.1)) else ([], (lookOf s.data.toList).2.2.2) by unfold openOf; rw [if_neg (by rw [hk]; decide)])
  have hlen : (lookOf s.data.toList).1.length ≤ maxLen := by
    have := lookOf_len s.data.toList
    have hl : s.data.toList.length = s.size := Array.length_toList
    unfold maxLen
    omega
  generalize lookOf s.data.toList = q at *
  obtain ⟨hd, W, n, c⟩ := q
  dsimp only at *
  cases c with
  | succ c =>
    have hr := Lib.hid (show openOf k s.data.toList = ([], c + 1) by rw [ho.out, if_neg (by omega)])
    clear hlen
    rw [errV_succ] at hl
    go_enter Tryz.func58, Tryz.ntmps58
    go_wp2_with (go_at_call 35; refine (key_any _ _).mono ?_; rintro e w' ⟨rfl, rfl⟩)
    refine hl.out.mono ?_
    rintro e w1 ⟨v, rfl, hv, hb⟩
    go_wp2_with fail
    go_ret2
    exact ⟨.slice none 0 0, by rw [hr.out]; rfl, by rw [hr.out]; exact textsAt_nil _, hb⟩
  | zero =>
    have ho2 := Lib.hid (show openOf k s.data.toList = if rightOf k hd n = 0 then (W, 0) else ([], rightOf k hd n) by rw [ho.out]; rfl)
    clear ho
    have hri := Lib.hid (fun wx (hx : Below w.heap.size w wx) => right_any k n (bs hd) wx (hL.below hx).laid (by rw [bs_size]; exact hlen))
    rw [errV_zero] at hl
    clear hlen
    go_enter Tryz.func58, Tryz.ntmps58
    go_wp2_with (go_at_call 35; refine (key_any _ _).mono ?_; rintro e w' ⟨rfl, rfl⟩)
    refine hl.out.mono ?_
    rintro e w1 ⟨v, rfl, hv, hb⟩
    have hv := Lib.hid hv
    have hb := Lib.hid hb
    go_wp2_with fail
    refine (hri.out _ hb.out).mono ?_
    rintro e w2 ⟨rfl, hb2⟩
    have hv2 := Lib.hid (hv.out.below hb2)
    have hb2 := Lib.hid (below_trans hb.out hb2)
    rw [bs_list]
    cases hq : rightOf k hd n with
    | zero =>
      have hr := Lib.hid (show openOf k s.data.toList = (W, 0) by rw [ho2.out, if_pos hq])
      clear hq
      rw [errV_zero]
      go_wp2_with fail
      go_ret2
      exact ⟨v, by rw [hr.out]; rfl, by rw [hr.out]; exact hv2.out, hb2.out⟩
    | succ c =>
      have hr := Lib.hid (show openOf k s.data.toList = ([], c + 1) by rw [ho2.out, hq, if_neg (Nat.succ_ne_zero c)])
      clear hq
      rw [errV_succ]
      go_wp2_with fail
      go_ret2
      exact ⟨.slice none 0 0, by rw [hr.out]; rfl, by rw [hr.out]; exact textsAt_nil _, hb2.out⟩
end Go.Proofs.YtpkcndohjmpdeaaGreatDoor
