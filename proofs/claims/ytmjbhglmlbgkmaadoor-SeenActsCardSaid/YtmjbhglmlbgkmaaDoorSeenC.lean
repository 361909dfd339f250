/- SeenActs, walked. -/
import Derived.Test.YtmjbhglmlbgkmaaDoorSortI
import Derived.Test.YtmjbhglmlbgkmaaDoorSameT
import Derived.Test.YtmjbhglmlbgkmaaDoorCodedS
import Derived.Deep.CutRange
import Derived.Deep.CutBlock
import Derived.Deep.LoopGhost
import Derived.Test.YtmjbhglmlbgkmaaDoorHeld
namespace Go.Proofs.YtmjbhglmlbgkmaaDoor
open Go.RowKit Go.MapKept Go.Sort

/-- What both saw, and that nothing older changed. -/
structure S4 (b r base : Nat) (long : Int) (w0 w : World) (p q : List Wd) : Prop where
  sn : SeenAt w b r long p
  rf : SRef w base base long q
  bl : Below w0.heap.size w0 w
section
variable {b r base : Nat} {long : Int} {w0 w w' : World} {p q p' q' : List Wd}
theorem S4.below (h : S4 b r base long w0 w p q) (hb : Below w.heap.size w w') : S4 b r base long w0 w' p q := ⟨h.sn.below hb, h.rf.below hb, h.bl.trans (hb.mono h.bl.size)⟩
theorem S4.drew1 (h : S4 b r base long w0 w p q) : S4 b r base long w0 w.drew p q := h.below (Below.refl _ _).drew
theorem S4.ask (h : S4 b r base long w0 w p q) (hr : w0.heap.size ≤ r) (hk : Keeps (· = r) w w') (hS : SeenAt w' b r long p') : S4 b r base long w0 w' p' q :=
  ⟨hS, h.rf.keeps hk (fun _ hR e => h.sn.off_ref.2 (by rw [← e]; exact hR)), h.bl.trans (hk.below h.bl.size (fun _ e => by rw [e]; exact hr))⟩
theorem S4.ref (h : S4 b r base long w0 w p q) (hb : w0.heap.size ≤ base) (hk : Keeps (SRefS base w) w w') (hR : SRef w' base base long q') : S4 b r base long w0 w' p q' :=
  ⟨h.sn.keeps hk h.sn.off_ref.1 h.sn.off_ref.2, hR, h.bl.trans (hk.below h.bl.size (fun _ hk => Nat.le_trans hb hk.1))⟩
theorem S4.slc (h : S4 b r base long w0 w p q) : ∃ a c, w.cell? ⟨base, 1, none⟩ = some (.slice a q.length c) := by
  obtain ⟨_, v, hv, hr, _⟩ := h.rf.at0
  obtain ⟨a, c, rfl⟩ := row_slN hr
  exact ⟨a, c, hv⟩
end
set_option maxHeartbeats 8000000 in
set_option maxRecDepth 100000 in
theorem seenActs_any {E : Nat → Addr} (long : Int) (x : Value) (A : List Wq) (w : World) (hL : LaidR E w) (hx : WordsAt w x A) (hm : ∀ f ∈ A, f.s.length ≤ maxLen) :
    Calls Tryd.prog 5 #[.int .i64 long, x] w fun e w' => e = .returned (.bool true) ∧ Below w.heap.size w w' := by
  have hsw := Lib.hid (saw_any (E := E) w hL)
  have hla := Lib.hid (fun wx (hb : Below w.heap.size w wx) => longAsked_any x A wx (hx.below hb) hm)
  have hLH := Lib.hid hL
  have hxH := Lib.hid hx
  obtain ⟨a, c, rfl, hml, _, _⟩ := id hx
  unfold maxLen at hml
  clear hL hx hm
  go_enter Tryd.func5, Tryd.ntmps5
  go_wp2_with fail
  refine hsw.out.mono ?_
  rintro e w1 ⟨rfl, hb1⟩
  have hla := Lib.hid (hla.out _ hb1)
  have hb1 := Lib.hid hb1
  clear hsw
  go_wp2_with fail
  refine hla.out.mono ?_
  rintro e w2 ⟨rfl, hb2⟩
  have hb2 := Lib.hid (below_trans hb1.out hb2)
  clear hla
  cases q : longQ A with
  | true =>
    go_wp2_with fail
    go_ret
    exact ⟨rfl, hb2.out⟩
  | false =>
  obtain ⟨h100, h30⟩ := longQ_false q
  have h30 := Lib.hid h30
  clear q
  cases q : isTime long with
  | false =>
    have hn := Lib.hid (new_bad (E := E) long w2 (hLH.out.below hb2.out).laid q)
    have hor : long < 0 ∨ ¬ long < 0 ∧ 1000000 < long := by
      unfold isTime at q
      simp only [Bool.and_eq_false_iff, decide_eq_false_iff_not] at q
      omega
    clear q
    rcases hor with h0 | ⟨h0, h1⟩
    all_goals
      go_wp2_with fail
      refine hn.out.mono ?_
      rintro e w3 ⟨rfl, hb3⟩
      have hb3 := Lib.hid (below_trans hb2.out hb3)
      go_wp2_with fail
      refine (coded_same (E := E) 2 w3 (hLH.out.below hb3.out) (by decide)).mono ?_
      rintro e w4 ⟨rfl, hb4⟩
      have hb4 := Lib.hid (below_trans hb3.out hb4)
      go_wp2_with fail
      go_ret
      exact ⟨rfl, hb4.out⟩
  | true =>
  have hn := Lib.hid (new_seen long w2 q)
  have hq := Lib.hid q
  obtain ⟨hl0, hl1⟩ := (isTime_iff _).1 q
  clear q
  have hl0n : ¬ long < 0 := by omega
  have hl1n : ¬ 1000000 < long := by omega
  go_wp2_with fail
  refine hn.out.mono ?_
  rintro e w3 ⟨b, r, rfl, hb3, hbb, hrr, hS3⟩
  have hrw : w.heap.size ≤ r := Nat.le_trans hb2.out.size hrr
  have hb3 := below_trans hb2.out hb3
  have hA3 : Below w3.heap.size w3 (w3.alloc (.cells #[.int .i64 long, .slice none 0 0] 78)) := (Below.refl _ _).alloc (Nat.le_refl _) _
  have hbase : w.heap.size ≤ w3.heap.size := hb3.size
  have hT0 : S4 b r w3.heap.size long w (w3.alloc (.cells #[.int .i64 long, .slice none 0 0] 78)) [] [] :=
    ⟨hS3.below hA3, ⟨Nat.le_refl _, _, heap_alloc_new w3 _, World.ownsRow_nil _ _ _ _⟩, below_trans hb3 hA3⟩
  have hT0 := Lib.hid hT0
  clear hn hbb hrr hS3 hA3 hb3
  go_wp2_with fail
  generalize hbs : w3.heap.size = base at *
  clear hbs
  go_loopg [9] (A.length + 1) (fun g i wr => ∃ (j : Nat) (L : List Wd), i = .int .i64 j ∧ j ≤ A.length ∧ A.length - j + 1 ≤ g ∧ Hid (S4 b r base long w wr L L ∧ GoodW L))
  case atStart => exact ⟨0, [], rfl, Nat.zero_le _, by omega, Lib.hid ⟨hT0.out, good_nil⟩⟩
  case round =>
    obtain ⟨j, L, rfl, hj, hg, hTG⟩ := hrel
    by_cases hlt : j < A.length
    · obtain ⟨_, _, he, _, _, hcx⟩ := hxH.out
      cases he
      obtain ⟨bx, ox, rfl, h0w, h1w, h2w⟩ := hcx j hlt
      have hsl := h30.out _ (List.getElem_mem hlt)
      obtain ⟨q, hqd⟩ : ∃ q, A[j] = q := ⟨_, rfl⟩
      rw [hqd] at h0w h1w h2w hsl
      clear hcx hqd
      obtain ⟨wd, tm, nw⟩ := q
      dsimp only at h0w h1w h2w hsl
      have hk0 : (0 : Int) ≤ (j : Int) := by omega
      have hk1 : (j : Int) < (A.length : Int) := by omega
      have hkC := Lib.hid (fun wx (h : Below w.heap.size w wx) => (show Below w.heap.size w wx ∧ wx.cell? ⟨bx, ox + j * 3, none⟩ = some (.string (bs wd)) ∧ wx.cell? ⟨bx, ox + j * 3 + 1, none⟩ = some (.int .i64 tm) ∧ wx.cell? ⟨bx, ox + j * 3 + 2, none⟩ = some (.int .i64 nw) from ⟨h, cell_below h h0w, cell_below h h1w, cell_below h h2w⟩))
      clear h0w h1w h2w
      have hgood := ask_good hTG.out.2 long wd tm nw
      have hGL := hTG.out.2
      have hcA : ∀ (wx : World) (q : List Wd), S4 b r base long w wx L q → Calls Tryd.prog 36 #[.pointer (some ⟨b, 0, none⟩), .string (bs wd), .int .i64 tm, .int .i64 nw] wx fun e w' => e = .returned (errV E (askS long L wd tm nw).1) ∧ S4 b r base long w w' (askS long L wd tm nw).2 q := fun wx q hT =>
        (ask_seen (E := E) b r long L wd tm nw wx (fun w' h => (hLH.out.below (hT.bl.trans (h.below hT.bl.size (fun k e => by rw [e]; exact hrw)))).laid) hT.sn hGL hq.out (by unfold maxLen; omega)).mono fun e w' ⟨he, hk, hS⟩ => ⟨he, hT.ask hrw hk hS⟩
      have hcR : ∀ (wx : World) (p : List Wd), S4 b r base long w wx p L → Calls Tryd.prog 37 #[.pointer (some ⟨base, 0, none⟩), .string (bs wd), .int .i64 tm, .int .i64 nw] wx fun e w' => e = .returned (.int .i64 ((askS long L wd tm nw).1 : Nat)) ∧ S4 b r base long w w' p (askS long L wd tm nw).2 := fun wx p hT =>
        (askR_any base base long L wd tm nw wx hT.rf hq.out (by unfold maxLen; omega) hGL.many).mono fun e w' ⟨he, hk, hR⟩ => ⟨he, hT.ref hbase hk hR⟩
      generalize askS long L wd tm nw = q at *
      obtain ⟨cd, L'⟩ := q
      dsimp only at hgood hcA hcR
      obtain ⟨hgood, hcd⟩ := hgood
      have hcC : ∀ (wx : World) (p q : List Wd), S4 b r base long w wx p q → Calls Tryd.prog 20 #[errV E cd, .int .i64 (cd : Int)] wx fun e w' => e = .returned (.bool true) ∧ S4 b r base long w w' p q := fun wx p q hT =>
        (coded_same (E := E) cd wx (hLH.out.below hT.bl) hcd).mono fun e w' ⟨he, hb⟩ => ⟨he, hT.below hb⟩
      have hcM : ∀ (wx : World) (p q : List Wd), S4 b r base long w wx p q → Calls Tryd.prog 38 #[.pointer (some ⟨b, 0, none⟩)] wx fun e w' => e = .returned (.int .i64 p.length) ∧ S4 b r base long w w' p q := fun wx p q hT =>
        (many_seen b r long p wx hT.sn).mono fun e w' ⟨he, hb⟩ => ⟨he, hT.below hb⟩
      have hcC := Lib.hid hcC
      have hcM := Lib.hid hcM
      have hcA := Lib.hid hcA
      have hcR := Lib.hid hcR
      have hgood := Lib.hid hgood
      have hT := hTG.out.1
      clear hTG hGL
      go_upto_region 13 with fail
      go_cut [95] from 44 to 95 (fun s95 wx => s95 = .bool false ∧ Hid (S4 b r base long w wx L' L'))
      case first =>
        refine wp_region_noPanic ?_
        refine wp_region_held_drew (S := fun w' => Below w.heap.size w w' ∧ w'.cell? ⟨bx, ox + j * 3, none⟩ = some (.string (bs wd)) ∧ w'.cell? ⟨bx, ox + j * 3 + 1, none⟩ = some (.int .i64 tm) ∧ w'.cell? ⟨bx, ox + j * 3 + 2, none⟩ = some (.int .i64 nw)) (by kernel_rfl) ?_ (fun hHeld => ?_)
        · exact hkC.out _ hT.drew1.bl
        refine' held_take (i := 0) (d := some 50) (v := _) rfl rfl (by kernel_rfl) (by kernel_rfl) (by kernel_rfl) (fun _ _ _ h => h) rfl (by assumption) ?hy_1 ?re_1
        case hy_1 =>
          intro w hSw
          try dsimp only at hSw
          go_simp
          try with_reducible rfl
        simp only [Act.put, List.setIfInBounds_toArray, List.set_cons_zero, List.set_cons_succ]
        refine' held_take (i := 1) (d := some 51) (v := _) rfl rfl (by kernel_rfl) (by kernel_rfl) (by kernel_rfl) (fun _ _ _ h => h) rfl (by assumption) ?hy_2 ?re_2
        case hy_2 =>
          intro w hSw
          try dsimp only at hSw
          go_simp
          try with_reducible rfl
        simp only [Act.put, List.setIfInBounds_toArray, List.set_cons_zero, List.set_cons_succ]
        refine' held_take (i := 2) (d := some 52) (v := _) rfl rfl (by kernel_rfl) (by kernel_rfl) (by kernel_rfl) (fun _ _ _ h => h) rfl (by assumption) ?hy_3 ?re_3
        case hy_3 =>
          intro w hSw
          try dsimp only at hSw
          go_simp
          try with_reducible rfl
        simp only [Act.put, List.setIfInBounds_toArray, List.set_cons_zero, List.set_cons_succ]
        refine' held_take (i := 3) (d := some 53) (v := _) rfl rfl (by kernel_rfl) (by kernel_rfl) (by kernel_rfl) (fun _ _ _ h => h) rfl (by assumption) ?hy_4 ?re_4
        case hy_4 =>
          intro w hSw
          try dsimp only at hSw
          go_simp
          try with_reducible rfl
        simp only [Act.put, List.setIfInBounds_toArray, List.set_cons_zero, List.set_cons_succ]
        refine' held_take (i := 4) (d := some 54) (v := _) rfl rfl (by kernel_rfl) (by kernel_rfl) (by kernel_rfl) (fun _ _ _ h => h) rfl (by assumption) ?hy_5 ?re_5
        case hy_5 =>
          intro w hSw
          try dsimp only at hSw
          go_simp
          try with_reducible rfl
        simp only [Act.put, List.setIfInBounds_toArray, List.set_cons_zero, List.set_cons_succ]
        refine' held_take (i := 5) (d := some 55) (v := _) rfl rfl (by kernel_rfl) (by kernel_rfl) (by kernel_rfl) (fun _ _ _ h => h) rfl (by assumption) ?hy_6 ?re_6
        case hy_6 =>
          intro w hSw
          try dsimp only at hSw
          go_simp
          try with_reducible rfl
        simp only [Act.put, List.setIfInBounds_toArray, List.set_cons_zero, List.set_cons_succ]
        refine' held_take (i := 6) (d := some 56) (v := _) rfl rfl (by kernel_rfl) (by kernel_rfl) (by kernel_rfl) (fun _ _ _ h => h) rfl (by assumption) ?hy_7 ?re_7
        case hy_7 =>
          intro w hSw
          try dsimp only at hSw
          go_simp
          try with_reducible rfl
        simp only [Act.put, List.setIfInBounds_toArray, List.set_cons_zero, List.set_cons_succ]
        refine' held_take (i := 7) (d := some 57) (v := _) rfl rfl (by kernel_rfl) (by kernel_rfl) (by kernel_rfl) (fun _ _ _ h => h) rfl (by assumption) ?hy_8 ?re_8
        case hy_8 =>
          intro w hSw
          try dsimp only at hSw
          go_simp
          try with_reducible rfl
        simp only [Act.put, List.setIfInBounds_toArray, List.set_cons_zero, List.set_cons_succ]
        refine' held_take (i := 8) (d := some 58) (v := _) rfl rfl (by kernel_rfl) (by kernel_rfl) (by kernel_rfl) (fun _ _ _ h => h) rfl (by assumption) ?hy_9 ?re_9
        case hy_9 =>
          intro w hSw
          try dsimp only at hSw
          go_simp
          try with_reducible rfl
        simp only [Act.put, List.setIfInBounds_toArray, List.set_cons_zero, List.set_cons_succ]
        refine' held_take (i := 9) (d := some 59) (v := _) rfl rfl (by kernel_rfl) (by kernel_rfl) (by kernel_rfl) (fun _ _ _ h => h) rfl (by assumption) ?hy_10 ?re_10
        case hy_10 =>
          intro w hSw
          try dsimp only at hSw
          go_simp
          try with_reducible rfl
        simp only [Act.put, List.setIfInBounds_toArray, List.set_cons_zero, List.set_cons_succ]
        refine' held_take (i := 10) (d := some 60) (v := _) rfl rfl (by kernel_rfl) (by kernel_rfl) (by kernel_rfl) (fun _ _ _ h => h) rfl (by assumption) ?hy_11 ?re_11
        case hy_11 =>
          intro w hSw
          try dsimp only at hSw
          go_simp
          try with_reducible rfl
        simp only [Act.put, List.setIfInBounds_toArray, List.set_cons_zero, List.set_cons_succ]
        refine' held_take (i := 11) (d := some 61) (v := _) rfl rfl (by kernel_rfl) (by kernel_rfl) (by kernel_rfl) (fun _ _ _ h => h) rfl (by assumption) ?hy_12 ?re_12
        case hy_12 =>
          intro w hSw
          try dsimp only at hSw
          go_simp
          try with_reducible rfl
        simp only [Act.put, List.setIfInBounds_toArray, List.set_cons_zero, List.set_cons_succ]
        refine' held_take (i := 12) (d := some 62) (v := _) rfl rfl (by kernel_rfl) (by kernel_rfl) (by kernel_rfl) (fun _ _ _ h => h) rfl (by assumption) ?hy_13 ?re_13
        case hy_13 =>
          intro w hSw
          try dsimp only at hSw
          go_simp
          try with_reducible rfl
        simp only [Act.put, List.setIfInBounds_toArray, List.set_cons_zero, List.set_cons_succ]
        refine' held_take (i := 13) (d := some 63) (v := _) rfl rfl (by kernel_rfl) (by kernel_rfl) (by kernel_rfl) (fun _ _ _ h => h) rfl (by assumption) ?hy_14 ?re_14
        case hy_14 =>
          intro w hSw
          try dsimp only at hSw
          go_simp
          try with_reducible rfl
        simp only [Act.put, List.setIfInBounds_toArray, List.set_cons_zero, List.set_cons_succ]
        refine' held_take (i := 14) (d := some 64) (v := _) rfl rfl (by kernel_rfl) (by kernel_rfl) (by kernel_rfl) (fun _ _ _ h => h) rfl (by assumption) ?hy_15 ?re_15
        case hy_15 =>
          intro w hSw
          try dsimp only at hSw
          go_simp
          try with_reducible rfl
        simp only [Act.put, List.setIfInBounds_toArray, List.set_cons_zero, List.set_cons_succ]
        refine' held_take (i := 15) (d := some 65) (v := _) rfl rfl (by kernel_rfl) (by kernel_rfl) (by kernel_rfl) (fun _ _ _ h => h) rfl (by assumption) ?hy_16 ?re_16
        case hy_16 =>
          intro w hSw
          try dsimp only at hSw
          go_simp
          try with_reducible rfl
        simp only [Act.put, List.setIfInBounds_toArray, List.set_cons_zero, List.set_cons_succ]
        refine' held_take (i := 17) (d := some 67) (v := _) rfl rfl (by kernel_rfl) (by kernel_rfl) (by kernel_rfl) (fun _ _ _ h => h) rfl (by assumption) ?hy_17 ?re_17
        case hy_17 =>
          intro w hSw
          try dsimp only at hSw
          go_simp
          try with_reducible rfl
        simp only [Act.put, List.setIfInBounds_toArray, List.set_cons_zero, List.set_cons_succ]
        refine' held_take (i := 18) (d := some 68) (v := _) rfl rfl (by kernel_rfl) (by kernel_rfl) (by kernel_rfl) (fun _ _ _ h => h) rfl (by assumption) ?hy_18 ?re_18
        case hy_18 =>
          intro w hSw
          try dsimp only at hSw
          go_simp
          try with_reducible rfl
        simp only [Act.put, List.setIfInBounds_toArray, List.set_cons_zero, List.set_cons_succ]
        refine' held_take (i := 19) (d := some 69) (v := _) rfl rfl (by kernel_rfl) (by kernel_rfl) (by kernel_rfl) (fun _ _ _ h => h) rfl (by assumption) ?hy_19 ?re_19
        case hy_19 =>
          intro w hSw
          try dsimp only at hSw
          go_simp
          try with_reducible rfl
        simp only [Act.put, List.setIfInBounds_toArray, List.set_cons_zero, List.set_cons_succ]
        refine' held_take (i := 20) (d := some 70) (v := _) rfl rfl (by kernel_rfl) (by kernel_rfl) (by kernel_rfl) (fun _ _ _ h => h) rfl (by assumption) ?hy_20 ?re_20
        case hy_20 =>
          intro w hSw
          try dsimp only at hSw
          go_simp
          try with_reducible rfl
        simp only [Act.put, List.setIfInBounds_toArray, List.set_cons_zero, List.set_cons_succ]
        refine' held_take (i := 21) (d := some 71) (v := _) rfl rfl (by kernel_rfl) (by kernel_rfl) (by kernel_rfl) (fun _ _ _ h => h) rfl (by assumption) ?hy_21 ?re_21
        case hy_21 =>
          intro w hSw
          try dsimp only at hSw
          go_simp
          try with_reducible rfl
        simp only [Act.put, List.setIfInBounds_toArray, List.set_cons_zero, List.set_cons_succ]
        refine' held_take (i := 22) (d := some 72) (v := _) rfl rfl (by kernel_rfl) (by kernel_rfl) (by kernel_rfl) (fun _ _ _ h => h) rfl (by assumption) ?hy_22 ?re_22
        case hy_22 =>
          intro w hSw
          try dsimp only at hSw
          go_simp
          try with_reducible rfl
        simp only [Act.put, List.setIfInBounds_toArray, List.set_cons_zero, List.set_cons_succ]
        refine' held_take (i := 23) (d := some 73) (v := _) rfl rfl (by kernel_rfl) (by kernel_rfl) (by kernel_rfl) (fun _ _ _ h => h) rfl (by assumption) ?hy_23 ?re_23
        case hy_23 =>
          intro w hSw
          try dsimp only at hSw
          go_simp
          try with_reducible rfl
        simp only [Act.put, List.setIfInBounds_toArray, List.set_cons_zero, List.set_cons_succ]
        refine' held_take (i := 24) (d := some 74) (v := _) rfl rfl (by kernel_rfl) (by kernel_rfl) (by kernel_rfl) (fun _ _ _ h => h) rfl (by assumption) ?hy_24 ?re_24
        case hy_24 =>
          intro w hSw
          try dsimp only at hSw
          go_simp
          try with_reducible rfl
        simp only [Act.put, List.setIfInBounds_toArray, List.set_cons_zero, List.set_cons_succ]
        refine' held_take (i := 25) (d := some 75) (v := _) rfl rfl (by kernel_rfl) (by kernel_rfl) (by kernel_rfl) (fun _ _ _ h => h) rfl (by assumption) ?hy_25 ?re_25
        case hy_25 =>
          intro w hSw
          try dsimp only at hSw
          go_simp
          try with_reducible rfl
        simp only [Act.put, List.setIfInBounds_toArray, List.set_cons_zero, List.set_cons_succ]
        refine' held_take (i := 26) (d := some 76) (v := _) rfl rfl (by kernel_rfl) (by kernel_rfl) (by kernel_rfl) (fun _ _ _ h => h) rfl (by assumption) ?hy_26 ?re_26
        case hy_26 =>
          intro w hSw
          try dsimp only at hSw
          go_simp
          try with_reducible rfl
        simp only [Act.put, List.setIfInBounds_toArray, List.set_cons_zero, List.set_cons_succ]
        refine' held_take (i := 27) (d := some 77) (v := _) rfl rfl (by kernel_rfl) (by kernel_rfl) (by kernel_rfl) (fun _ _ _ h => h) rfl (by assumption) ?hy_27 ?re_27
        case hy_27 =>
          intro w hSw
          try dsimp only at hSw
          go_simp
          try with_reducible rfl
        simp only [Act.put, List.setIfInBounds_toArray, List.set_cons_zero, List.set_cons_succ]
        refine' held_take (i := 28) (d := some 78) (v := _) rfl rfl (by kernel_rfl) (by kernel_rfl) (by kernel_rfl) (fun _ _ _ h => h) rfl (by assumption) ?hy_28 ?re_28
        case hy_28 =>
          intro w hSw
          try dsimp only at hSw
          go_simp
          try with_reducible rfl
        simp only [Act.put, List.setIfInBounds_toArray, List.set_cons_zero, List.set_cons_succ]
        refine' held_take (i := 29) (d := some 79) (v := _) rfl rfl (by kernel_rfl) (by kernel_rfl) (by kernel_rfl) (fun _ _ _ h => h) rfl (by assumption) ?hy_29 ?re_29
        case hy_29 =>
          intro w hSw
          try dsimp only at hSw
          go_simp
          try with_reducible rfl
        simp only [Act.put, List.setIfInBounds_toArray, List.set_cons_zero, List.set_cons_succ]
        refine' held_take (i := 30) (d := some 80) (v := _) rfl rfl (by kernel_rfl) (by kernel_rfl) (by kernel_rfl) (fun _ _ _ h => h) rfl (by assumption) ?hy_30 ?re_30
        case hy_30 =>
          intro w hSw
          try dsimp only at hSw
          go_simp
          try with_reducible rfl
        simp only [Act.put, List.setIfInBounds_toArray, List.set_cons_zero, List.set_cons_succ]
        refine' held_take (i := 31) (d := some 81) (v := _) rfl rfl (by kernel_rfl) (by kernel_rfl) (by kernel_rfl) (fun _ _ _ h => h) rfl (by assumption) ?hy_31 ?re_31
        case hy_31 =>
          intro w hSw
          try dsimp only at hSw
          go_simp
          try with_reducible rfl
        simp only [Act.put, List.setIfInBounds_toArray, List.set_cons_zero, List.set_cons_succ]
        refine' held_take (i := 32) (d := some 82) (v := _) rfl rfl (by kernel_rfl) (by kernel_rfl) (by kernel_rfl) (fun _ _ _ h => h) rfl (by assumption) ?hy_32 ?re_32
        case hy_32 =>
          intro w hSw
          try dsimp only at hSw
          go_simp
          try with_reducible rfl
        simp only [Act.put, List.setIfInBounds_toArray, List.set_cons_zero, List.set_cons_succ]
        refine wpAnyH_ready (rs := [16]) (by kernel_rfl) (by simp) ?_
        refine AllReadyH.cons rfl (fun K hK => ?_) AllReadyH.nil
        go_simp
        refine (hcA.out _ _ (by (first | exact hT | exact hT.drew1))).mono ?_
        rintro e w' ⟨rfl, hT⟩
        go_wp2_with fail
        refine hK.out _ _ ?_ (fun hHeld => ?_)
        · exact hkC.out _ (by (first | exact hT.bl | exact hT.drew1.bl))
        clear hK K
        try simp only [Act.put, List.setIfInBounds_toArray, List.set_cons_zero, List.set_cons_succ]
        refine wpAnyH_ready (rs := [33]) (by kernel_rfl) (by simp) ?_
        refine AllReadyH.cons rfl (fun K hK => ?_) AllReadyH.nil
        go_simp
        refine (hcR.out _ _ hT).mono ?_
        rintro e w' ⟨rfl, hT⟩
        go_wp2_with fail
        refine hK.out _ _ ?_ (fun hHeld => ?_)
        · exact hkC.out _ (by (first | exact hT.bl | exact hT.drew1.bl))
        clear hK K
        try simp only [Act.put, List.setIfInBounds_toArray, List.set_cons_zero, List.set_cons_succ]
        refine wpAnyH_ready (rs := [34]) (by kernel_rfl) (by simp) ?_
        refine AllReadyH.cons rfl (fun K hK => ?_) AllReadyH.nil
        go_simp
        refine (hcC.out _ _ _ hT).mono ?_
        rintro e w' ⟨rfl, hT⟩
        obtain ⟨a9, c9, hc9⟩ := hT.slc
        go_wp2_with fail
        refine hK.out _ _ ?_ (fun hHeld => ?_)
        · exact hkC.out _ (by (first | exact hT.bl | exact hT.drew1.bl))
        clear hK K
        try simp only [Act.put, List.setIfInBounds_toArray, List.set_cons_zero, List.set_cons_succ]
        refine' held_take (i := 35) (d := some 85) (v := _) rfl rfl (by kernel_rfl) (by kernel_rfl) (by kernel_rfl) (fun _ _ _ h => h) rfl (by assumption) ?hy_33 ?re_33
        case hy_33 =>
          intro w hSw
          try dsimp only at hSw
          go_simp
          try with_reducible rfl
        simp only [Act.put, List.setIfInBounds_toArray, List.set_cons_zero, List.set_cons_succ]
        refine' held_take (i := 36) (d := some 86) (v := _) rfl rfl (by kernel_rfl) (by kernel_rfl) (by kernel_rfl) (fun _ _ _ h => h) rfl (by assumption) ?hy_34 ?re_34
        case hy_34 =>
          intro w hSw
          try dsimp only at hSw
          go_simp
          try with_reducible rfl
        simp only [Act.put, List.setIfInBounds_toArray, List.set_cons_zero, List.set_cons_succ]
        refine' held_take (i := 37) (d := some 87) (v := _) rfl rfl (by kernel_rfl) (by kernel_rfl) (by kernel_rfl) (fun _ _ _ h => h) rfl (by assumption) ?hy_35 ?re_35
        case hy_35 =>
          intro w hSw
          try dsimp only at hSw
          go_simp
          try with_reducible rfl
        simp only [Act.put, List.setIfInBounds_toArray, List.set_cons_zero, List.set_cons_succ]
        refine' held_take (i := 39) (d := some 89) (v := _) rfl rfl (by kernel_rfl) (by kernel_rfl) (by kernel_rfl) (fun _ _ _ h => h) rfl (by assumption) ?hy_36 ?re_36
        case hy_36 =>
          intro w hSw
          try dsimp only at hSw
          go_simp
          try with_reducible rfl
        simp only [Act.put, List.setIfInBounds_toArray, List.set_cons_zero, List.set_cons_succ]
        refine' held_take (i := 40) (d := some 90) (v := _) rfl rfl (by kernel_rfl) (by kernel_rfl) (by kernel_rfl) (fun _ _ _ h => h) rfl (by assumption) ?hy_37 ?re_37
        case hy_37 =>
          intro w hSw
          try dsimp only at hSw
          go_simp
          try with_reducible rfl
        simp only [Act.put, List.setIfInBounds_toArray, List.set_cons_zero, List.set_cons_succ]
        refine' held_take (i := 41) (d := some 91) (v := _) rfl rfl (by kernel_rfl) (by kernel_rfl) (by kernel_rfl) (fun _ _ _ h => h) rfl (by assumption) ?hy_38 ?re_38
        case hy_38 =>
          intro w hSw
          try dsimp only at hSw
          go_simp
          try with_reducible rfl
        simp only [Act.put, List.setIfInBounds_toArray, List.set_cons_zero, List.set_cons_succ]
        refine wpAnyH_ready (rs := [38, 42]) (by kernel_rfl) (by simp) ?_
        refine AllReadyH.cons rfl (fun K hK => ?_) (AllReadyH.cons rfl (fun K hK => ?_) AllReadyH.nil)
        · go_simp
          refine (hcM.out _ _ _ hT).mono ?_
          rintro e w' ⟨rfl, hT⟩
          obtain ⟨a9, c9, hc9⟩ := hT.slc
          go_wp2_with fail
          refine hK.out _ _ ?_ (fun hHeld => ?_)
          · exact hkC.out _ (by (first | exact hT.bl | exact hT.drew1.bl))
          clear hK K
          try simp only [Act.put, List.setIfInBounds_toArray, List.set_cons_zero, List.set_cons_succ]
          refine wpAnyH_ready (rs := [42]) (by kernel_rfl) (by simp) ?_
          refine AllReadyH.cons rfl (fun K hK => ?_) AllReadyH.nil
          go_simp
          refine hK.out _ _ ?_ (fun hHeld => ?_)
          · exact hkC.out _ (by (first | exact hT.bl | exact hT.drew1.bl))
          clear hK K
          try simp only [Act.put, List.setIfInBounds_toArray, List.set_cons_zero, List.set_cons_succ]
          refine' held_take (i := 43) (d := some 93) (v := _) rfl rfl (by kernel_rfl) (by kernel_rfl) (by kernel_rfl) (fun _ _ _ h => h) rfl (by assumption) ?hy_39 ?re_39
          case hy_39 =>
            intro w hSw
            try dsimp only at hSw
            go_simp
            try with_reducible rfl
          simp only [Act.put, List.setIfInBounds_toArray, List.set_cons_zero, List.set_cons_succ]
          refine' held_take (i := 44) (d := some 94) (v := _) rfl rfl (by kernel_rfl) (by kernel_rfl) (by kernel_rfl) (fun _ _ _ h => h) rfl (by assumption) ?hy_40 ?re_40
          case hy_40 =>
            intro w hSw
            try dsimp only at hSw
            go_simp
            try with_reducible rfl
          simp only [Act.put, List.setIfInBounds_toArray, List.set_cons_zero, List.set_cons_succ]
          refine' held_take (i := 45) (d := some 95) (v := _) rfl rfl (by kernel_rfl) (by kernel_rfl) (by kernel_rfl) (fun _ _ _ h => h) rfl (by assumption) ?hy_41 ?re_41
          case hy_41 =>
            intro w hSw
            try dsimp only at hSw
            go_simp
            try with_reducible rfl
          simp only [Act.put, List.setIfInBounds_toArray, List.set_cons_zero, List.set_cons_succ]
          refine wpAnyH_done (by kernel_rfl) ?_ _
          refine NoPanic.normal ?_
          go_wp2_with fail
          go_meet
          exact ⟨rfl, Lib.hid hT⟩
        · go_simp
          refine hK.out _ _ ?_ (fun hHeld => ?_)
          · exact hkC.out _ (by (first | exact hT.bl | exact hT.drew1.bl))
          clear hK K
          try simp only [Act.put, List.setIfInBounds_toArray, List.set_cons_zero, List.set_cons_succ]
          refine' held_take (i := 43) (d := some 93) (v := _) rfl rfl (by kernel_rfl) (by kernel_rfl) (by kernel_rfl) (fun _ _ _ h => h) rfl (by assumption) ?hy_42 ?re_42
          case hy_42 =>
            intro w hSw
            try dsimp only at hSw
            go_simp
            try with_reducible rfl
          simp only [Act.put, List.setIfInBounds_toArray, List.set_cons_zero, List.set_cons_succ]
          refine wpAnyH_ready (rs := [38]) (by kernel_rfl) (by simp) ?_
          refine AllReadyH.cons rfl (fun K hK => ?_) AllReadyH.nil
          go_simp
          refine (hcM.out _ _ _ hT).mono ?_
          rintro e w' ⟨rfl, hT⟩
          obtain ⟨a9, c9, hc9⟩ := hT.slc
          go_wp2_with fail
          refine hK.out _ _ ?_ (fun hHeld => ?_)
          · exact hkC.out _ (by (first | exact hT.bl | exact hT.drew1.bl))
          clear hK K
          try simp only [Act.put, List.setIfInBounds_toArray, List.set_cons_zero, List.set_cons_succ]
          refine' held_take (i := 44) (d := some 94) (v := _) rfl rfl (by kernel_rfl) (by kernel_rfl) (by kernel_rfl) (fun _ _ _ h => h) rfl (by assumption) ?hy_43 ?re_43
          case hy_43 =>
            intro w hSw
            try dsimp only at hSw
            go_simp
            try with_reducible rfl
          simp only [Act.put, List.setIfInBounds_toArray, List.set_cons_zero, List.set_cons_succ]
          refine' held_take (i := 45) (d := some 95) (v := _) rfl rfl (by kernel_rfl) (by kernel_rfl) (by kernel_rfl) (fun _ _ _ h => h) rfl (by assumption) ?hy_44 ?re_44
          case hy_44 =>
            intro w hSw
            try dsimp only at hSw
            go_simp
            try with_reducible rfl
          simp only [Act.put, List.setIfInBounds_toArray, List.set_cons_zero, List.set_cons_succ]
          refine wpAnyH_done (by kernel_rfl) ?_ _
          refine NoPanic.normal ?_
          go_wp2_with fail
          go_meet
          exact ⟨rfl, Lib.hid hT⟩
      case rest =>
        obtain ⟨rfl, hT'⟩ := hcut
        clear hkC hT hcA hcR hcC hcM
        go_wp2_with fail
        go_roundg (A.length - j)
        case measure => omega
        case rel => exact ⟨j + 1, L', by simp, hlt, by omega, Lib.hid ⟨hT'.out, hgood.out⟩⟩
    · have hge : ¬ ((j : Int) < (A.length : Int)) := by omega
      obtain ⟨hT, hG⟩ := hTG.out
      have hws := Lib.hid (words_seen b r long L wr hT.sn hG)
      have hTH := Lib.hid hT
      have hGH := Lib.hid hG
      clear hTG hT hG
      go_wp2_with fail
      refine hws.out.mono ?_
      rintro e w5 ⟨v5, rfl, hv5, hb5⟩
      have hT5 := hTH.out.below hb5
      have hv5 := Lib.hid hv5
      clear hws hb5
      go_wp2_with fail
      refine (wordsR_any base base long L w5 hT5.rf hGH.out.many).mono ?_
      rintro e w6 ⟨v6, rfl, hv6, hb6⟩
      have hT6 := hT5.below hb6
      have hv5 := Lib.hid (hv5.out.below hb6)
      have hv6 := Lib.hid hv6
      clear hb6
      go_wp2_with fail
      refine (sameTexts_any v5 v6 _ _ w6 hv5.out hv6.out).mono ?_
      rintro e w7 ⟨rfl, hb7⟩
      have hT7 := hT6.below hb7
      go_wp2_with fail
      go_ret
      exact ⟨rfl, hT7.bl⟩
end Go.Proofs.YtmjbhglmlbgkmaaDoor
