/- RefD4 -/
import Derived.Test.YtlcomdbkkfbjiaaGreatDoorMg16
import Derived.Test.YtlcomdbkkfbjiaaGreatDoorMg18
import Derived.Deep.CutRange
import Derived.Deep.CutBlock
import Derived.RegionTactic
import Derived.ChangeAlike
/- The reference's desk: Sweep: walked. -/
namespace Go.Proofs.YtlcomdbkkfbjiaaGreatDoor
open Go.RowKit Go.Maps

theorem DRef.self {w : World} {base b : Nat} {many : Int} {L : List Ses} (h : DRef w base b many L) : DRefS base w b := by
  obtain ⟨hge, u, hb, _⟩ := h
  exact ⟨hge, _, _, _, hb, .inl rfl⟩
/-- What the reference's Sweep hands back. -/
def SweepResR (base : Nat) (w' : World) (r : List Int × (Nat × Int) × List Ses) (e : Ending) : Prop := ∃ v, e = .returned (.tuple #[v, faultF r.2.1.1 r.2.1.2]) ∧ IntRow w' base v r.1
theorem keeps_set_new {S : Nat → Prop} {w x : World} (h : Keeps S w x) {g : Nat} (hg : w.heap.size ≤ g) (i : Nat) (u : Value) : Keeps S w (x.setCell ⟨g, i, none⟩ u) :=
  ⟨h.os, h.tape, h.output, by have := h.size; simpa [World.setCell] using this, fun k hk hs => (heap_setCell_other x ⟨g, i, none⟩ k u (by dsimp only; omega)).trans (h.block k hk hs)⟩
theorem DRef.set_off {w : World} {base b g : Nat} {many : Int} {L : List Ses} (h : DRef w base b many L) {cs : Array Value} {T : TypeId} {z : Nat × Nat} (hg : w.heap[g]? = some (.cells cs T z)) (h1 : T ≠ 30) (h2 : T ≠ 70) (i : Nat) (u : Value) : DRef (w.setCell ⟨g, i, none⟩ u) base b many L :=
  h.keeps (S := (· = g)) (keeps_setCell w _ _ rfl) (fun k hk e => by
    subst e
    obtain ⟨_, cs', T', z', h3, h4⟩ := hk
    rw [hg] at h3
    injection h3 with h3
    injection h3 with _ h3 _
    subst h3
    rcases h4 with h4 | h4
    · exact h1 h4
    · exact h2 h4)
theorem bad_snoc (F : List Flo) (now : Int) (L : List Ses) (q : Ses) : (numsS ((L ++ [q]).filter (badS F now)) = if badS F now q = true then numsS (L.filter (badS F now)) ++ [q.n] else numsS (L.filter (badS F now))) ∧
    ((L ++ [q]).filter (fun p => !badS F now p) = if badS F now q = true then L.filter (fun p => !badS F now p) else L.filter (fun p => !badS F now p) ++ [q]) := by
  refine ⟨filter_snocS _ _ _, ?_⟩
  rw [List.filter_append]
  cases h : badS F now q <;> simp [h]
theorem rows_apart {w : World} {base : Nat} {v u : Value} {L : List Ses} {zs : List Int} (h : RowG sesC w base 70 v L) (k : RowG intC w base 3 u zs) : ∀ g, v.ownBlock = some g → ¬ u.ownBlock = some g := by
  intro g hg hu
  obtain ⟨_, cs, h1⟩ := h.block hg
  obtain ⟨_, cs2, h2⟩ := k.block hu
  rw [h1] at h2
  injection h2 with h2
  injection h2 with _ h2 _
  revert h2
  decide
set_option maxHeartbeats 8000000 in
set_option maxRecDepth 100000 in
theorem sweepR_desk (base b : Nat) (many : Int) (L : List Ses) (y : Value) (F : List Flo) (now : Int) (w : World) (hB : DRef w base b many L) (h40 : L.length ≤ 40) (ht : ∀ p ∈ L, tickErr p.t = 0) (hy : FloorsAt w y F) (hmF : ∀ f ∈ F, f.who.length ≤ maxLen) (hbs : base ≤ w.heap.size) :
    Calls Tryz.prog 16 #[.pointer (some ⟨b, 0, none⟩), y, .int .i64 now] w fun e w' => SweepResR w.heap.size w' (sweepS F now L) e ∧ Keeps (· = b) w w' ∧ DRef w' base b many (sweepS F now L).2.2 := by
  have hA : Below w.heap.size w (w.alloc (.cells #[.int .i64 0, .int .i64 0] 54)) := (Below.refl _ _).alloc (Nat.le_refl _) _
  have hbox := Lib.hid (heap_alloc_new w (.cells #[.int .i64 0, .int .i64 0] 54))
  have hck := Lib.hid (faultsR_flo y F _ (hy.below hA) hmF)
  have hAH := Lib.hid hA
  have hBH := Lib.hid hB
  have hyH := Lib.hid hy
  have hblt := hB.lt
  obtain ⟨c0, hfz, v, c1, hown⟩ := hB.at0
  obtain ⟨a, c, rfl, hml, hcl0⟩ := opensAt_of_row (by unfold maxLen; omega) hown
  have hcl := Lib.hid hcl0
  have c1W := Lib.hid c1
  have hfW := Lib.hid (hfz 1)
  have htH := Lib.hid ht
  have hE1 := Lib.hid (fun h => sweep_check (F := F) (now := now) (L := L) h)
  have hE2 := Lib.hid (fun h1 h2 => sweep_time (F := F) (now := now) (L := L) h1 h2)
  have hE3 := Lib.hid (fun h1 h2 => sweep_ok (F := F) (now := now) (L := L) h1 h2)
  have hgF := Lib.hid (fun h => goodF_check (L := F) h)
  obtain ⟨ay, cy, hyv⟩ : ∃ a c, y = .slice a F.length c := by
    obtain ⟨a, c, h, _⟩ := hy
    exact ⟨a, c, h⟩
  clear hA hB hy hmF hcl0 c1 c0 hfz hown ht
  have hcd : (checkF F).1 = 0 → (checkF F).2 = -1 := fun h => by rw [check_goodF (goodF_check h)]
  generalize checkF F = ck at *
  obtain ⟨cd, at_⟩ := ck
  dsimp only [faultF] at hck hcd hE1 hE2 hE3 hgF
  subst hyv
  go_enter Tryz.func16, Tryz.ntmps16
  go_wp2_with fail
  refine hck.out.mono ?_
  rintro e w1 ⟨rfl, hb1⟩
  have hbox1 := heap_down hb1 hbox.out
  have hb1H := Lib.hid (below_trans hAH.out hb1)
  have hw1 : w.heap.size < w1.heap.size := (Array.getElem?_eq_some_iff.1 hbox1).1
  clear hb1 hck
  have hboxes : (w1.alloc (.cells #[.int .i64 (cd : Int), .int .i64 at_] 54)).heap[w.heap.size]? = some (.cells #[.int .i64 0, .int .i64 0] 54 (0, 0)) := (Below.heap_alloc w1 _ _ hw1).trans hbox1
  have hboxf := heap_alloc_new w1 (.cells #[.int .i64 (cd : Int), .int .i64 at_] 54)
  have hb2H := Lib.hid (hb1H.out.alloc hb1H.out.size (.cells #[.int .i64 (cd : Int), .int .i64 at_] 54))
  obtain ⟨⟨x0, x1⟩, xf0, xf1⟩ := two_kept (Below.refl _ _) hbox1
  obtain ⟨⟨y0, y1⟩, yf0, yf1⟩ := two_kept (Below.refl _ _) hboxf
  have hne01 : w.heap.size ≠ w1.heap.size := by omega
  have hbxH := Lib.hid hboxes
  have hbfH := Lib.hid hboxf
  have hne10 : w1.heap.size ≠ w.heap.size := by omega
  have hbx1 := Lib.hid hbox1
  clear hboxes hboxf hbox1 hbox
  have hX := Lib.hid (fun (u0 u1 : Value) (o : Obj) => (show ((((w1.setCell ⟨w.heap.size, 0, none⟩ u0).setCell ⟨w.heap.size, 1, none⟩ u1).alloc o).cell? ⟨w.heap.size, 0, none⟩ = some u0 ∧ (((w1.setCell ⟨w.heap.size, 0, none⟩ u0).setCell ⟨w.heap.size, 1, none⟩ u1).alloc o).cell? ⟨w.heap.size, 1, none⟩ = some u1) ∧ Below w.heap.size w (((w1.setCell ⟨w.heap.size, 0, none⟩ u0).setCell ⟨w.heap.size, 1, none⟩ u1).alloc o).drew from by
    have h1 := row_set2 hbx1.out u0 u1
    have h2 := (Below.heap_alloc _ o _ (Array.getElem?_eq_some_iff.1 h1).1).trans h1
    refine ⟨(two_kept (Below.refl _ _) h2).1, ?_⟩
    have h3 := below_set2 hb1H.out (Nat.le_refl _) u0 u1
    exact (h3.alloc h3.size o).drew))
  by_cases hcz : cd = 0
  case neg =>
    have hr := Lib.hid (hE1.out hcz)
    have hz1 : (0 : Int) < (cd : Int) := by omega
    have hz0 : ((cd : Int) == 0) = false := by rw [beq_eq_false_iff_ne]; omega
    clear hcz hcd
    go_wp2_with fail
    go_region
    all_goals
      go_wp2_with fail
      obtain ⟨⟨q0, q1⟩, hbf⟩ := hX.out (.int .i64 (cd : Int)) (.int .i64 at_) (.cells #[.int .i64 (cd : Int), .int .i64 at_] 54)
      exact bodyPost_ret (v := .tuple #[.slice none 0 0, .agg #[.int .i64 (cd : Int), .int .i64 at_]]) (by simp [results, Tryz.results16, go_sem, q0, q1]) rfl ⟨⟨_, by rw [hr.out]; rfl, by rw [hr.out]; exact IntRow.nil _ _⟩, Keeps.of_below hbf, by rw [hr.out]; exact hBH.out.below hbf⟩
  have hat := hcd hcz
  subst hcz hat
  have hz0 : (((0 : Nat) : Int) == 0) = true := rfl
  by_cases htm : now < 0 ∨ 1000000 < now
  · have hr := Lib.hid (hE2.out rfl htm)
    have htm2 : now < 0 ∨ (¬ now < 0 ∧ 1000000 < now) := by omega
    have hba := Lib.hid (bareF_any 2 (w1.alloc (.cells #[.int .i64 0, .int .i64 (-1)] 54)))
    clear htm hcd hX
    rcases htm2 with h1 | ⟨h1, h2⟩
    all_goals
      go_wp2_with fail
      refine hba.out.mono ?_
      rintro e w3 ⟨rfl, hb3⟩
      have hbf3 := heap_down hb3 hbfH.out
      have hbx3 := heap_down hb3 hbxH.out
      obtain ⟨⟨z0, z1⟩, zf0, zf1⟩ := two_kept (Below.refl _ _) hbf3
      obtain ⟨⟨v0, v1⟩, vf0, vf1⟩ := two_kept (Below.refl _ _) hbx3
      have hb3H := Lib.hid (hb2H.out.trans (hb3.mono hb2H.out.size))
      have hfin : ((((((w3.setCell ⟨w1.heap.size, 0, none⟩ (.int .i64 2)).setCell ⟨w1.heap.size, 1, none⟩ (.int .i64 (-1))).setCell ⟨w.heap.size, 0, none⟩ (.int .i64 2)).setCell ⟨w.heap.size, 1, none⟩ (.int .i64 (-1))).cell? ⟨w.heap.size, 0, none⟩ = some (.int .i64 2)) ∧
          (((((w3.setCell ⟨w1.heap.size, 0, none⟩ (.int .i64 2)).setCell ⟨w1.heap.size, 1, none⟩ (.int .i64 (-1))).setCell ⟨w.heap.size, 0, none⟩ (.int .i64 2)).setCell ⟨w.heap.size, 1, none⟩ (.int .i64 (-1))).cell? ⟨w.heap.size, 1, none⟩ = some (.int .i64 (-1)))) ∧
          Below w.heap.size w ((((w3.setCell ⟨w1.heap.size, 0, none⟩ (.int .i64 2)).setCell ⟨w1.heap.size, 1, none⟩ (.int .i64 (-1))).setCell ⟨w.heap.size, 0, none⟩ (.int .i64 2)).setCell ⟨w.heap.size, 1, none⟩ (.int .i64 (-1))).drew := by
        have e1 := (heap_setCell_other (w3.setCell ⟨w1.heap.size, 0, none⟩ (.int .i64 2)) ⟨w1.heap.size, 1, none⟩ w.heap.size (.int .i64 (-1)) hne01).trans ((heap_setCell_other w3 ⟨w1.heap.size, 0, none⟩ w.heap.size (.int .i64 2) hne01).trans hbx3)
        exact ⟨(two_kept (Below.refl _ _) (row_set2 e1 _ _)).1, (below_set2 (below_set2 hb3H.out (by omega) _ _) (Nat.le_refl _) _ _).drew⟩
      have hfin := Lib.hid hfin
      clear hb3 hbf3 hbx3 x0 x1 xf0 xf1 y0 y1 yf0 yf1
      go_wp2_with fail
      go_region
      all_goals
        go_wp2_with fail
        obtain ⟨⟨q0, q1⟩, hbf⟩ := hfin.out
        exact bodyPost_ret (v := .tuple #[.slice none 0 0, .agg #[.int .i64 2, .int .i64 (-1)]]) (by simp [results, Tryz.results16, go_sem, q0, q1]) rfl ⟨⟨_, by rw [hr.out]; rfl, by rw [hr.out]; exact IntRow.nil _ _⟩, Keeps.of_below hbf, by rw [hr.out]; exact hBH.out.below hbf⟩
  have hr := Lib.hid (hE3.out rfl htm)
  have h1 : ¬ now < 0 := by omega
  have h2 : ¬ 1000000 < now := by omega
  have hG := Lib.hid (hgF.out rfl).g
  have hyW := Lib.hid (hyH.out.below hb2H.out)
  have hW2s : w1.heap.size < (w1.alloc (.cells #[.int .i64 ((0 : Nat) : Int), .int .i64 (-1)] 54)).heap.size := by rw [World.size_alloc]; omega
  clear hcd hX htm hE1 hE2 hE3 hgF x0 x1 xf0 xf1
  go_wp2_with fail
  generalize w1.alloc (.cells #[.int .i64 ((0 : Nat) : Int), .int .i64 (-1)] 54) = W2 at *
  have hbW : base ≤ W2.heap.size := Nat.le_trans hbs hb2H.out.size
  go_loopg [9, 10, 11] (L.length + 1) (fun g v9 v10 i wr => ∃ j : Nat, i = .int .i64 j ∧ j ≤ L.length ∧ L.length - j + 1 ≤ g ∧ Hid (RowG sesC wr W2.heap.size 70 v9 ((L.take j).filter fun p => !badS F now p)) ∧ Hid (RowG intC wr W2.heap.size 3 v10 (numsS ((L.take j).filter (badS F now)))) ∧ Hid (Below W2.heap.size W2 wr))
  case atStart => exact ⟨0, rfl, Nat.zero_le _, by omega, Lib.hid (RowG.nil _ _ _), Lib.hid (RowG.nil _ _ _), Lib.hid (Below.refl _ _)⟩
  case round =>
    obtain ⟨j, rfl, hj, hg, hrow9, hrow10, hbx⟩ := hrel
    have hbw := Lib.hid (hb2H.out.trans (hbx.out.mono hb2H.out.size))
    have c1 := cell_below hbw.out c1W.out
    obtain ⟨a9, c9, hv9⟩ := hrow9.out.sl
    obtain ⟨a10, c10, hv10⟩ := hrow10.out.sl
    have hl9 : ((L.take j).filter fun p => !badS F now p).length ≤ 40 := Nat.le_trans (List.length_filter_le _ _) (by rw [List.length_take]; omega)
    have hl10 : (numsS ((L.take j).filter (badS F now))).length ≤ 40 := by rw [nums_len']; exact Nat.le_trans (List.length_filter_le _ _) (by rw [List.length_take]; omega)
    by_cases hlt : j < L.length
    · obtain ⟨bb, o, rfl, d⟩ := hcl.out j hlt
      have hsn := bad_snoc F now (L.take j) L[j]
      rw [← take_snocS hlt] at hsn
      have htk := htH.out _ (List.getElem_mem hlt)
      obtain ⟨q, hqd⟩ : ∃ q, L[j] = q := ⟨_, rfl⟩
      rw [hqd] at d hsn htk
      clear hqd
      have hl := tick_size htk
      have hgd := goodR_tick q.t now
      have hgd := Lib.hid (fun wx => hgd wx (by constructor <;> (unfold maxLen; omega)))
      have hbad : badS F now q = (decide (goodT q.t now ≠ 0) || !decide (ofF F q.t.who ≤ q.t.epoch)) := rfl
      obtain ⟨pn, who, svc, ep, bg, fn, sr⟩ := q
      dsimp only [Tick.val] at d hsn hgd hbad
      obtain ⟨d0, d1, d2, d3, d4, d5, d6⟩ := d
      have e0 := Lib.hid (cell_below hbw.out d0)
      have e1 := Lib.hid (cell_below hbw.out d1)
      have e2 := Lib.hid (cell_below hbw.out d2)
      have e3 := Lib.hid (cell_below hbw.out d3)
      have e4 := Lib.hid (cell_below hbw.out d4)
      have e5 := Lib.hid (cell_below hbw.out d5)
      have e6 := Lib.hid (cell_below hbw.out d6)
      have f1 := e1.out
      have f2 := e2.out
      have f3 := e3.out
      have f4 := e4.out
      have f5 := e5.out
      have f6 := e6.out
      have hk2 : (0 : Int) ≤ (j : Int) := by omega
      have hk3 : (j : Int) < (L.length : Int) := by omega
      have hsz : W2.heap.size ≤ wr.heap.size := hbx.out.size
      have hrt := heap_alloc_new wr (.cells #[.string (bs who), .string (bs svc), .int .i64 ep, .int .i64 bg, .int .i64 fn, .int .i64 sr] 32)
      have hBA : Below wr.heap.size wr (wr.alloc (.cells #[.string (bs who), .string (bs svc), .int .i64 ep, .int .i64 bg, .int .i64 fn, .int .i64 sr] 32)).drew := ((Below.refl _ _).alloc (Nat.le_refl _) _).drew
      have hkC := Lib.hid (fun wx (h : Below (wr.alloc (.cells #[.string (bs who), .string (bs svc), .int .i64 ep, .int .i64 bg, .int .i64 fn, .int .i64 sr] 32)).heap.size (wr.alloc (.cells #[.string (bs who), .string (bs svc), .int .i64 ep, .int .i64 bg, .int .i64 fn, .int .i64 sr] 32)) wx) => (tick_kept h hrt).1)
      have hS0 : Below (wr.alloc (.cells #[.string (bs who), .string (bs svc), .int .i64 ep, .int .i64 bg, .int .i64 fn, .int .i64 sr] 32)).heap.size (wr.alloc (.cells #[.string (bs who), .string (bs svc), .int .i64 ep, .int .i64 bg, .int .i64 fn, .int .i64 sr] 32)) (wr.alloc (.cells #[.string (bs who), .string (bs svc), .int .i64 ep, .int .i64 bg, .int .i64 fn, .int .i64 sr] 32)).drew := (Below.refl _ _).drew
      have hBA0 := Lib.hid (show Below wr.heap.size wr (wr.alloc (.cells #[.string (bs who), .string (bs svc), .int .i64 ep, .int .i64 bg, .int .i64 fn, .int .i64 sr] 32)) from (Below.refl _ _).alloc (Nat.le_refl _) _)
      have hof := Lib.hid (fun wx (h : Below wr.heap.size wr wx) => ofR_flo _ F who wx ((hyW.out.below hbx.out).below h) hG.out)
      clear d0 d1 d2 d3 d4 d5 d6 htk hl hrt hBA
      subst hv9 hv10
      generalize goodT (⟨who, svc, ep, bg, fn, sr⟩ : Tick) now = cg at *
      generalize ((L.take j).filter fun p => !badS F now p) = K9 at *
      generalize numsS ((L.take j).filter (badS F now)) = K10 at *
      cases cg with
      | succ cg =>
        have hbt : badS F now ⟨pn, ⟨who, svc, ep, bg, fn, sr⟩⟩ = true := by rw [hbad]; simp
        rw [hbt, if_pos rfl, if_pos rfl] at hsn
        have hsnH := Lib.hid hsn
        have hz1 : (0 : Int) < ((cg + 1 : Nat) : Int) := by omega
        generalize ((cg + 1 : Nat) : Int) = z at hgd hz1
        have hgdH := Lib.hid (hgd.out)
        clear hsn hbad hbt hgd
        go_wp2_with fail
        refine wp_region_noPanic ?_
        refine wp_region_held_drew (S := fun w' => w'.cell? ⟨wr.heap.size, 0, none⟩ = some (.string (bs who)) ∧ w'.cell? ⟨wr.heap.size, 1, none⟩ = some (.string (bs svc)) ∧ w'.cell? ⟨wr.heap.size, 2, none⟩ = some (.int .i64 ep) ∧ w'.cell? ⟨wr.heap.size, 3, none⟩ = some (.int .i64 bg) ∧ w'.cell? ⟨wr.heap.size, 4, none⟩ = some (.int .i64 fn) ∧ w'.cell? ⟨wr.heap.size, 5, none⟩ = some (.int .i64 sr)) (by kernel_rfl) ?_ (fun hHeld => ?_)
        · exact hkC.out _ hS0
        refine' held_take (i := 0) (d := some 48) (v := _) rfl rfl (by kernel_rfl) (by kernel_rfl) (by kernel_rfl) (fun _ _ _ h => h) rfl (by assumption) ?hy_1 ?re_1
        case hy_1 =>
          intro w hSw
          try dsimp only at hSw
          go_simp
          try with_reducible rfl
        simp only [Act.put, List.setIfInBounds_toArray, List.set_cons_zero, List.set_cons_succ]
        refine' held_take (i := 1) (d := some 49) (v := _) rfl rfl (by kernel_rfl) (by kernel_rfl) (by kernel_rfl) (fun _ _ _ h => h) rfl (by assumption) ?hy_2 ?re_2
        case hy_2 =>
          intro w hSw
          try dsimp only at hSw
          go_simp
          try with_reducible rfl
        simp only [Act.put, List.setIfInBounds_toArray, List.set_cons_zero, List.set_cons_succ]
        refine wpAnyH_ready (rs := [2]) (by kernel_rfl) (by simp) ?_
        refine AllReadyH.cons rfl (fun K hK => ?_) AllReadyH.nil
        go_simp
        refine (hgdH.out _).mono ?_
        rintro e w5 ⟨rfl, hbg⟩
        have hS1 := hS0.trans (hbg.mono hS0.size)
        clear hbg
        go_wp2_with fail
        refine hK.out _ _ ?_ (fun hHeld => ?_)
        · exact hkC.out _ hS1
        clear hK K
        try simp only [Act.put, List.setIfInBounds_toArray, List.set_cons_zero, List.set_cons_succ]
        refine' held_take (i := 3) (d := some 51) (v := _) rfl rfl (by kernel_rfl) (by kernel_rfl) (by kernel_rfl) (fun _ _ _ h => h) rfl (by assumption) ?hy_3 ?re_3
        case hy_3 =>
          intro w hSw
          try dsimp only at hSw
          go_simp
          try with_reducible rfl
        simp only [Act.put, List.setIfInBounds_toArray, List.set_cons_zero, List.set_cons_succ]
        refine' held_take (i := 4) (d := some 52) (v := _) rfl rfl (by kernel_rfl) (by kernel_rfl) (by kernel_rfl) (fun _ _ _ h => h) rfl (by assumption) ?hy_4 ?re_4
        case hy_4 =>
          intro w hSw
          try dsimp only at hSw
          go_simp
          try with_reducible rfl
        simp only [Act.put, List.setIfInBounds_toArray, List.set_cons_zero, List.set_cons_succ]
        refine held_skip (i := 5) (d := some 53) rfl rfl (by kernel_rfl) (by kernel_rfl) (by kernel_rfl) (fun _ _ _ h => h) rfl (by assumption) ?_
        simp only [Act.put, List.setIfInBounds_toArray, List.set_cons_zero, List.set_cons_succ]
        refine held_skip (i := 6) (d := some 54) rfl rfl (by kernel_rfl) (by kernel_rfl) (by kernel_rfl) (fun _ _ _ h => h) rfl (by assumption) ?_
        simp only [Act.put, List.setIfInBounds_toArray, List.set_cons_zero, List.set_cons_succ]
        refine held_skip (i := 7) (d := some 55) rfl rfl (by kernel_rfl) (by kernel_rfl) (by kernel_rfl) (fun _ _ _ h => h) rfl (by assumption) ?_
        simp only [Act.put, List.setIfInBounds_toArray, List.set_cons_zero, List.set_cons_succ]
        refine held_skip (i := 8) (d := some 56) rfl rfl (by kernel_rfl) (by kernel_rfl) (by kernel_rfl) (fun _ _ _ h => h) rfl (by assumption) ?_
        simp only [Act.put, List.setIfInBounds_toArray, List.set_cons_zero, List.set_cons_succ]
        refine held_skip (i := 9) (d := some 57) rfl rfl (by kernel_rfl) (by kernel_rfl) (by kernel_rfl) (fun _ _ _ h => h) rfl (by assumption) ?_
        simp only [Act.put, List.setIfInBounds_toArray, List.set_cons_zero, List.set_cons_succ]
        refine held_skip (i := 10) (d := some 58) rfl rfl (by kernel_rfl) (by kernel_rfl) (by kernel_rfl) (fun _ _ _ h => h) rfl (by assumption) ?_
        simp only [Act.put, List.setIfInBounds_toArray, List.set_cons_zero, List.set_cons_succ]
        refine held_skip (i := 11) (d := some 59) rfl rfl (by kernel_rfl) (by kernel_rfl) (by kernel_rfl) (fun _ _ _ h => h) rfl (by assumption) ?_
        simp only [Act.put, List.setIfInBounds_toArray, List.set_cons_zero, List.set_cons_succ]
        refine' held_take (i := 12) (d := some 60) (v := _) rfl rfl (by kernel_rfl) (by kernel_rfl) (by kernel_rfl) (fun _ _ _ h => h) rfl (by assumption) ?hy_5 ?re_5
        case hy_5 =>
          intro w hSw
          try dsimp only at hSw
          go_simp
          try with_reducible rfl
        simp only [Act.put, List.setIfInBounds_toArray, List.set_cons_zero, List.set_cons_succ]
        refine wpAnyH_done (by kernel_rfl) ?_ _
        refine NoPanic.normal ?_
        skip
        have hb5 := Lib.hid (below_trans hBA0.out hS1)
        clear hS1 hkC f1 f2 f3 f4 f5 f6 c1
        have c1 := cell_below hb5.out (cell_below hbw.out c1W.out)
        have d0 := cell_below hb5.out e0.out
        go_wp2_with (first
          | (at_builtin; refine wpList_appG intC _ rfl _ _ 49 rfl 3 (.int .i64 0) 8 Tryz.underlying49 info_int1 rfl (by decide) W2.heap.size _ K10 rfl (RowG.alloc (hrow10.out.below hb5.out) _) _ [pn] rfl (AtG.new _ _ _ rfl) (by simp; omega) (by have := hb5.out.size; simp; omega) ?_)
          | go_in)
        intro v6 w6 hown6 hb6 hg6 _
        have hr9 := (RowG.alloc (hrow9.out.below hb5.out) (.cells #[.int .i64 pn] 3)).keeps (keeps_grown (base := 0) hg6) (fun g hg h => rows_apart (hrow9.out.below hb5.out) (hrow10.out.below hb5.out) g hg h)
        have hr9 := Lib.hid hr9
        have hr10 := Lib.hid hown6
        have hb7 := Lib.hid (((hbx.out.trans (hb5.out.mono hsz)).alloc (Nat.le_trans hsz hb5.out.size) (.cells #[.int .i64 pn] 3)).trans hb6)
        clear hown6 hb6 hg6 c1 d0
        go_wp2_with fail
        go_roundg (L.length - j)
        case measure => omega
        case rel => exact ⟨j + 1, by simp, hlt, by omega, by rw [hsnH.out.2]; exact hr9, by rw [hsnH.out.1]; exact hr10, hb7⟩
      | zero =>
        have hgdH := Lib.hid (hgd.out)
        clear hgd
        by_cases hfl : ofF F who ≤ ep
        · have hbt : badS F now ⟨pn, ⟨who, svc, ep, bg, fn, sr⟩⟩ = false := by rw [hbad]; simp [hfl]
          rw [hbt, if_neg (by decide), if_neg (by decide)] at hsn
          have hsnH := Lib.hid hsn
          have hlt2 : ¬ ep < ofF F who := by omega
          clear hsn hbad hbt hfl
          generalize ofF F who = oq at *
          go_wp2_with fail
          refine wp_region_noPanic ?_
          refine wp_region_held_drew (S := fun w' => w'.cell? ⟨wr.heap.size, 0, none⟩ = some (.string (bs who)) ∧ w'.cell? ⟨wr.heap.size, 1, none⟩ = some (.string (bs svc)) ∧ w'.cell? ⟨wr.heap.size, 2, none⟩ = some (.int .i64 ep) ∧ w'.cell? ⟨wr.heap.size, 3, none⟩ = some (.int .i64 bg) ∧ w'.cell? ⟨wr.heap.size, 4, none⟩ = some (.int .i64 fn) ∧ w'.cell? ⟨wr.heap.size, 5, none⟩ = some (.int .i64 sr)) (by kernel_rfl) ?_ (fun hHeld => ?_)
          · exact hkC.out _ hS0
          refine' held_take (i := 0) (d := some 48) (v := _) rfl rfl (by kernel_rfl) (by kernel_rfl) (by kernel_rfl) (fun _ _ _ h => h) rfl (by assumption) ?hy_6 ?re_6
          case hy_6 =>
            intro w hSw
            try dsimp only at hSw
            go_simp
            try with_reducible rfl
          simp only [Act.put, List.setIfInBounds_toArray, List.set_cons_zero, List.set_cons_succ]
          refine' held_take (i := 1) (d := some 49) (v := _) rfl rfl (by kernel_rfl) (by kernel_rfl) (by kernel_rfl) (fun _ _ _ h => h) rfl (by assumption) ?hy_7 ?re_7
          case hy_7 =>
            intro w hSw
            try dsimp only at hSw
            go_simp
            try with_reducible rfl
          simp only [Act.put, List.setIfInBounds_toArray, List.set_cons_zero, List.set_cons_succ]
          refine wpAnyH_ready (rs := [2]) (by kernel_rfl) (by simp) ?_
          refine AllReadyH.cons rfl (fun K hK => ?_) AllReadyH.nil
          go_simp
          refine (hgdH.out _).mono ?_
          rintro e w5 ⟨rfl, hbg⟩
          have hS1 := hS0.trans (hbg.mono hS0.size)
          clear hbg
          go_wp2_with fail
          refine hK.out _ _ ?_ (fun hHeld => ?_)
          · exact hkC.out _ hS1
          clear hK K
          try simp only [Act.put, List.setIfInBounds_toArray, List.set_cons_zero, List.set_cons_succ]
          refine' held_take (i := 3) (d := some 51) (v := _) rfl rfl (by kernel_rfl) (by kernel_rfl) (by kernel_rfl) (fun _ _ _ h => h) rfl (by assumption) ?hy_8 ?re_8
          case hy_8 =>
            intro w hSw
            try dsimp only at hSw
            go_simp
            try with_reducible rfl
          simp only [Act.put, List.setIfInBounds_toArray, List.set_cons_zero, List.set_cons_succ]
          refine' held_take (i := 4) (d := some 52) (v := _) rfl rfl (by kernel_rfl) (by kernel_rfl) (by kernel_rfl) (fun _ _ _ h => h) rfl (by assumption) ?hy_9 ?re_9
          case hy_9 =>
            intro w hSw
            try dsimp only at hSw
            go_simp
            try with_reducible rfl
          simp only [Act.put, List.setIfInBounds_toArray, List.set_cons_zero, List.set_cons_succ]
          refine' held_take (i := 5) (d := some 53) (v := _) rfl rfl (by kernel_rfl) (by kernel_rfl) (by kernel_rfl) (fun _ _ _ h => h) rfl (by assumption) ?hy_10 ?re_10
          case hy_10 =>
            intro w hSw
            try dsimp only at hSw
            go_simp
            try with_reducible rfl
          simp only [Act.put, List.setIfInBounds_toArray, List.set_cons_zero, List.set_cons_succ]
          refine' held_take (i := 6) (d := some 54) (v := _) rfl rfl (by kernel_rfl) (by kernel_rfl) (by kernel_rfl) (fun _ _ _ h => h) rfl (by assumption) ?hy_11 ?re_11
          case hy_11 =>
            intro w hSw
            try dsimp only at hSw
            go_simp
            try with_reducible rfl
          simp only [Act.put, List.setIfInBounds_toArray, List.set_cons_zero, List.set_cons_succ]
          refine' held_take (i := 7) (d := some 55) (v := _) rfl rfl (by kernel_rfl) (by kernel_rfl) (by kernel_rfl) (fun _ _ _ h => h) rfl (by assumption) ?hy_12 ?re_12
          case hy_12 =>
            intro w hSw
            try dsimp only at hSw
            go_simp
            try with_reducible rfl
          simp only [Act.put, List.setIfInBounds_toArray, List.set_cons_zero, List.set_cons_succ]
          refine' held_take (i := 8) (d := some 56) (v := _) rfl rfl (by kernel_rfl) (by kernel_rfl) (by kernel_rfl) (fun _ _ _ h => h) rfl (by assumption) ?hy_13 ?re_13
          case hy_13 =>
            intro w hSw
            try dsimp only at hSw
            go_simp
            try with_reducible rfl
          simp only [Act.put, List.setIfInBounds_toArray, List.set_cons_zero, List.set_cons_succ]
          refine' held_take (i := 9) (d := some 57) (v := _) rfl rfl (by kernel_rfl) (by kernel_rfl) (by kernel_rfl) (fun _ _ _ h => h) rfl (by assumption) ?hy_14 ?re_14
          case hy_14 =>
            intro w hSw
            try dsimp only at hSw
            go_simp
            try with_reducible rfl
          simp only [Act.put, List.setIfInBounds_toArray, List.set_cons_zero, List.set_cons_succ]
          refine wpAnyH_ready (rs := [10]) (by kernel_rfl) (by simp) ?_
          refine AllReadyH.cons rfl (fun K hK => ?_) AllReadyH.nil
          go_simp
          refine (hof.out _ (below_trans hBA0.out hS1)).mono ?_
          rintro e w6 ⟨rfl, rfl⟩
          go_wp2_with fail
          refine hK.out _ _ ?_ (fun hHeld => ?_)
          · exact hkC.out _ hS1
          clear hK K
          try simp only [Act.put, List.setIfInBounds_toArray, List.set_cons_zero, List.set_cons_succ]
          refine' held_take (i := 11) (d := some 59) (v := _) rfl rfl (by kernel_rfl) (by kernel_rfl) (by kernel_rfl) (fun _ _ _ h => h) rfl (by assumption) ?hy_15 ?re_15
          case hy_15 =>
            intro w hSw
            try dsimp only at hSw
            go_simp
            try with_reducible rfl
          simp only [Act.put, List.setIfInBounds_toArray, List.set_cons_zero, List.set_cons_succ]
          refine' held_take (i := 12) (d := some 60) (v := _) rfl rfl (by kernel_rfl) (by kernel_rfl) (by kernel_rfl) (fun _ _ _ h => h) rfl (by assumption) ?hy_16 ?re_16
          case hy_16 =>
            intro w hSw
            try dsimp only at hSw
            go_simp
            try with_reducible rfl
          simp only [Act.put, List.setIfInBounds_toArray, List.set_cons_zero, List.set_cons_succ]
          refine wpAnyH_done (by kernel_rfl) ?_ _
          refine NoPanic.normal ?_
          skip
          have hb5 := Lib.hid (below_trans hBA0.out hS1)
          clear hS1 hkC f1 f2 f3 f4 f5 f6 c1
          have c1 := cell_below hb5.out (cell_below hbw.out c1W.out)
          have d0 := cell_below hb5.out e0.out
          have d1 := cell_below hb5.out e1.out
          have d2 := cell_below hb5.out e2.out
          have d3 := cell_below hb5.out e3.out
          have d4 := cell_below hb5.out e4.out
          have d5 := cell_below hb5.out e5.out
          have d6 := cell_below hb5.out e6.out
          go_wp2_with (first
            | (at_builtin; refine wpList_appG sesC _ rfl _ _ 28 rfl 70 (.agg #[.int .i64 0, .string ⟨#[]⟩, .string ⟨#[]⟩, .int .i64 0, .int .i64 0, .int .i64 0, .int .i64 0]) 72 Tryz.underlying28 info_open7 rfl (by decide) W2.heap.size _ K9 rfl (RowG.alloc (hrow9.out.below hb5.out) _) _ [(⟨pn, ⟨who, svc, ep, bg, fn, sr⟩⟩ : Ses)] rfl (AtG.new _ _ _ rfl) (by simp; omega) (by have := hb5.out.size; simp; omega) ?_)
            | go_in)
          intro v6 w6 hown6 hb6 hg6 _
          have hr10 := (RowG.alloc (hrow10.out.below hb5.out) (.cells #[.int .i64 pn, .string (bs who), .string (bs svc), .int .i64 ep, .int .i64 bg, .int .i64 fn, .int .i64 sr] 70)).keeps (keeps_grown (base := 0) hg6) (fun g hg h => rows_apart (hrow9.out.below hb5.out) (hrow10.out.below hb5.out) g h hg)
          have hr10 := Lib.hid hr10
          have hr9 := Lib.hid hown6
          have hb7 := Lib.hid (((hbx.out.trans (hb5.out.mono hsz)).alloc (Nat.le_trans hsz hb5.out.size) (.cells #[.int .i64 pn, .string (bs who), .string (bs svc), .int .i64 ep, .int .i64 bg, .int .i64 fn, .int .i64 sr] 70)).trans hb6)
          clear hown6 hb6 hg6 c1 d0 d1 d2 d3 d4 d5 d6
          go_wp2_with fail
          go_roundg (L.length - j)
          case measure => omega
          case rel => exact ⟨j + 1, by simp, hlt, by omega, by rw [hsnH.out.2]; exact hr9, by rw [hsnH.out.1]; exact hr10, hb7⟩
        · have hbt : badS F now ⟨pn, ⟨who, svc, ep, bg, fn, sr⟩⟩ = true := by rw [hbad]; simp [hfl]
          rw [hbt, if_pos rfl, if_pos rfl] at hsn
          have hsnH := Lib.hid hsn
          have hlt2 : ep < ofF F who := by omega
          clear hsn hbad hbt hfl
          generalize ofF F who = oq at *
          go_wp2_with fail
          refine wp_region_noPanic ?_
          refine wp_region_held_drew (S := fun w' => w'.cell? ⟨wr.heap.size, 0, none⟩ = some (.string (bs who)) ∧ w'.cell? ⟨wr.heap.size, 1, none⟩ = some (.string (bs svc)) ∧ w'.cell? ⟨wr.heap.size, 2, none⟩ = some (.int .i64 ep) ∧ w'.cell? ⟨wr.heap.size, 3, none⟩ = some (.int .i64 bg) ∧ w'.cell? ⟨wr.heap.size, 4, none⟩ = some (.int .i64 fn) ∧ w'.cell? ⟨wr.heap.size, 5, none⟩ = some (.int .i64 sr)) (by kernel_rfl) ?_ (fun hHeld => ?_)
          · exact hkC.out _ hS0
          refine' held_take (i := 0) (d := some 48) (v := _) rfl rfl (by kernel_rfl) (by kernel_rfl) (by kernel_rfl) (fun _ _ _ h => h) rfl (by assumption) ?hy_17 ?re_17
          case hy_17 =>
            intro w hSw
            try dsimp only at hSw
            go_simp
            try with_reducible rfl
          simp only [Act.put, List.setIfInBounds_toArray, List.set_cons_zero, List.set_cons_succ]
          refine' held_take (i := 1) (d := some 49) (v := _) rfl rfl (by kernel_rfl) (by kernel_rfl) (by kernel_rfl) (fun _ _ _ h => h) rfl (by assumption) ?hy_18 ?re_18
          case hy_18 =>
            intro w hSw
            try dsimp only at hSw
            go_simp
            try with_reducible rfl
          simp only [Act.put, List.setIfInBounds_toArray, List.set_cons_zero, List.set_cons_succ]
          refine wpAnyH_ready (rs := [2]) (by kernel_rfl) (by simp) ?_
          refine AllReadyH.cons rfl (fun K hK => ?_) AllReadyH.nil
          go_simp
          refine (hgdH.out _).mono ?_
          rintro e w5 ⟨rfl, hbg⟩
          have hS1 := hS0.trans (hbg.mono hS0.size)
          clear hbg
          go_wp2_with fail
          refine hK.out _ _ ?_ (fun hHeld => ?_)
          · exact hkC.out _ hS1
          clear hK K
          try simp only [Act.put, List.setIfInBounds_toArray, List.set_cons_zero, List.set_cons_succ]
          refine' held_take (i := 3) (d := some 51) (v := _) rfl rfl (by kernel_rfl) (by kernel_rfl) (by kernel_rfl) (fun _ _ _ h => h) rfl (by assumption) ?hy_19 ?re_19
          case hy_19 =>
            intro w hSw
            try dsimp only at hSw
            go_simp
            try with_reducible rfl
          simp only [Act.put, List.setIfInBounds_toArray, List.set_cons_zero, List.set_cons_succ]
          refine' held_take (i := 4) (d := some 52) (v := _) rfl rfl (by kernel_rfl) (by kernel_rfl) (by kernel_rfl) (fun _ _ _ h => h) rfl (by assumption) ?hy_20 ?re_20
          case hy_20 =>
            intro w hSw
            try dsimp only at hSw
            go_simp
            try with_reducible rfl
          simp only [Act.put, List.setIfInBounds_toArray, List.set_cons_zero, List.set_cons_succ]
          refine' held_take (i := 5) (d := some 53) (v := _) rfl rfl (by kernel_rfl) (by kernel_rfl) (by kernel_rfl) (fun _ _ _ h => h) rfl (by assumption) ?hy_21 ?re_21
          case hy_21 =>
            intro w hSw
            try dsimp only at hSw
            go_simp
            try with_reducible rfl
          simp only [Act.put, List.setIfInBounds_toArray, List.set_cons_zero, List.set_cons_succ]
          refine' held_take (i := 6) (d := some 54) (v := _) rfl rfl (by kernel_rfl) (by kernel_rfl) (by kernel_rfl) (fun _ _ _ h => h) rfl (by assumption) ?hy_22 ?re_22
          case hy_22 =>
            intro w hSw
            try dsimp only at hSw
            go_simp
            try with_reducible rfl
          simp only [Act.put, List.setIfInBounds_toArray, List.set_cons_zero, List.set_cons_succ]
          refine' held_take (i := 7) (d := some 55) (v := _) rfl rfl (by kernel_rfl) (by kernel_rfl) (by kernel_rfl) (fun _ _ _ h => h) rfl (by assumption) ?hy_23 ?re_23
          case hy_23 =>
            intro w hSw
            try dsimp only at hSw
            go_simp
            try with_reducible rfl
          simp only [Act.put, List.setIfInBounds_toArray, List.set_cons_zero, List.set_cons_succ]
          refine' held_take (i := 8) (d := some 56) (v := _) rfl rfl (by kernel_rfl) (by kernel_rfl) (by kernel_rfl) (fun _ _ _ h => h) rfl (by assumption) ?hy_24 ?re_24
          case hy_24 =>
            intro w hSw
            try dsimp only at hSw
            go_simp
            try with_reducible rfl
          simp only [Act.put, List.setIfInBounds_toArray, List.set_cons_zero, List.set_cons_succ]
          refine' held_take (i := 9) (d := some 57) (v := _) rfl rfl (by kernel_rfl) (by kernel_rfl) (by kernel_rfl) (fun _ _ _ h => h) rfl (by assumption) ?hy_25 ?re_25
          case hy_25 =>
            intro w hSw
            try dsimp only at hSw
            go_simp
            try with_reducible rfl
          simp only [Act.put, List.setIfInBounds_toArray, List.set_cons_zero, List.set_cons_succ]
          refine wpAnyH_ready (rs := [10]) (by kernel_rfl) (by simp) ?_
          refine AllReadyH.cons rfl (fun K hK => ?_) AllReadyH.nil
          go_simp
          refine (hof.out _ (below_trans hBA0.out hS1)).mono ?_
          rintro e w6 ⟨rfl, rfl⟩
          go_wp2_with fail
          refine hK.out _ _ ?_ (fun hHeld => ?_)
          · exact hkC.out _ hS1
          clear hK K
          try simp only [Act.put, List.setIfInBounds_toArray, List.set_cons_zero, List.set_cons_succ]
          refine' held_take (i := 11) (d := some 59) (v := _) rfl rfl (by kernel_rfl) (by kernel_rfl) (by kernel_rfl) (fun _ _ _ h => h) rfl (by assumption) ?hy_26 ?re_26
          case hy_26 =>
            intro w hSw
            try dsimp only at hSw
            go_simp
            try with_reducible rfl
          simp only [Act.put, List.setIfInBounds_toArray, List.set_cons_zero, List.set_cons_succ]
          refine' held_take (i := 12) (d := some 60) (v := _) rfl rfl (by kernel_rfl) (by kernel_rfl) (by kernel_rfl) (fun _ _ _ h => h) rfl (by assumption) ?hy_27 ?re_27
          case hy_27 =>
            intro w hSw
            try dsimp only at hSw
            go_simp
            try with_reducible rfl
          simp only [Act.put, List.setIfInBounds_toArray, List.set_cons_zero, List.set_cons_succ]
          refine wpAnyH_done (by kernel_rfl) ?_ _
          refine NoPanic.normal ?_
          skip
          have hb5 := Lib.hid (below_trans hBA0.out hS1)
          clear hS1 hkC f1 f2 f3 f4 f5 f6 c1
          have c1 := cell_below hb5.out (cell_below hbw.out c1W.out)
          have d0 := cell_below hb5.out e0.out
          go_wp2_with (first
            | (at_builtin; refine wpList_appG intC _ rfl _ _ 49 rfl 3 (.int .i64 0) 8 Tryz.underlying49 info_int1 rfl (by decide) W2.heap.size _ K10 rfl (RowG.alloc (hrow10.out.below hb5.out) _) _ [pn] rfl (AtG.new _ _ _ rfl) (by simp; omega) (by have := hb5.out.size; simp; omega) ?_)
            | go_in)
          intro v6 w6 hown6 hb6 hg6 _
          have hr9 := (RowG.alloc (hrow9.out.below hb5.out) (.cells #[.int .i64 pn] 3)).keeps (keeps_grown (base := 0) hg6) (fun g hg h => rows_apart (hrow9.out.below hb5.out) (hrow10.out.below hb5.out) g hg h)
          have hr9 := Lib.hid hr9
          have hr10 := Lib.hid hown6
          have hb7 := Lib.hid (((hbx.out.trans (hb5.out.mono hsz)).alloc (Nat.le_trans hsz hb5.out.size) (.cells #[.int .i64 pn] 3)).trans hb6)
          clear hown6 hb6 hg6 c1 d0
          go_wp2_with fail
          go_roundg (L.length - j)
          case measure => omega
          case rel => exact ⟨j + 1, by simp, hlt, by omega, by rw [hsnH.out.2]; exact hr9, by rw [hsnH.out.1]; exact hr10, hb7⟩
    · have hje : L.take j = L := List.take_of_length_le (by omega)
      rw [hje] at hrow9 hrow10 hl9 hl10 hv9 hv10
      have hge : ¬ ((j : Int) < (L.length : Int)) := by omega
      subst hv9 hv10
      have hst := dref_store hBH.out hbw.out (Nat.le_refl _) hbs (sesRow_G.2 (hrow9.out.mono hb2H.out.size))
      have hfz := (hbw.out.frozen (p := ⟨b, 1, none⟩) hblt).trans hfW.out
      have hb0n : b ≠ w.heap.size := by omega
      have hb1n : b ≠ w1.heap.size := by omega
      have hx0 := (heap_setCell_other wr ⟨b, 1, none⟩ w.heap.size (.slice a9 (L.filter fun p => !badS F now p).length c9) hb0n.symm).trans (heap_down hbx.out hbxH.out)
      have hx1 := (heap_setCell_other wr ⟨b, 1, none⟩ w1.heap.size (.slice a9 (L.filter fun p => !badS F now p).length c9) hb1n.symm).trans (heap_down hbx.out hbfH.out)
      have hW2b : ∀ g, (Value.slice a10 (numsS (L.filter (badS F now))).length c10).ownBlock = some g → g ≠ b ∧ g ≠ w.heap.size := fun g hg' => by
        have := (hrow10.out.block hg').1
        constructor <;> omega
      have hr10 := hrow10.out.other ⟨b, 1, none⟩ (.slice a9 (L.filter fun p => !badS F now p).length c9) (fun g hg' => (hW2b g hg').1)
      have hfin : (∀ X : World, wr.setCell ⟨b, 1, none⟩ (.slice a9 (L.filter fun p => !badS F now p).length c9) = X → (((X.setCell ⟨w.heap.size, 0, none⟩ (.int .i64 0)).setCell ⟨w.heap.size, 1, none⟩ (.int .i64 (-1))).cell? ⟨w.heap.size, 0, none⟩ = some (.int .i64 0) ∧ ((X.setCell ⟨w.heap.size, 0, none⟩ (.int .i64 0)).setCell ⟨w.heap.size, 1, none⟩ (.int .i64 (-1))).cell? ⟨w.heap.size, 1, none⟩ = some (.int .i64 (-1))) ∧
          IntRow ((X.setCell ⟨w.heap.size, 0, none⟩ (.int .i64 0)).setCell ⟨w.heap.size, 1, none⟩ (.int .i64 (-1))).drew w.heap.size (.slice a10 (numsS (L.filter (badS F now))).length c10) (numsS (L.filter (badS F now))) ∧
          Keeps (· = b) w ((X.setCell ⟨w.heap.size, 0, none⟩ (.int .i64 0)).setCell ⟨w.heap.size, 1, none⟩ (.int .i64 (-1))).drew ∧ DRef ((X.setCell ⟨w.heap.size, 0, none⟩ (.int .i64 0)).setCell ⟨w.heap.size, 1, none⟩ (.int .i64 (-1))).drew base b many (L.filter fun p => !badS F now p)) := by
        rintro X rfl
        have e1 := heap_setCell_same _ w.heap.size 0 _ _ (.int .i64 0) hx0
        refine ⟨(two_kept (Below.refl _ _) (row_set2 hx0 _ _)).1, ?_, ?_, ?_⟩
        · have h3 := ((hr10.other ⟨w.heap.size, 0, none⟩ (.int .i64 0) (fun g hg' => (hW2b g hg').2)).other ⟨w.heap.size, 1, none⟩ (.int .i64 (-1)) (fun g hg' => (hW2b g hg').2)).below (Below.refl _ _).drew
          exact intRow_G.2 (h3.mono hb2H.out.size)
        · exact (keeps_set_new (keeps_set_new ((Keeps.of_below (S := (· = b)) hbw.out).trans (keeps_setCell _ _ _ rfl)) (Nat.le_refl _) _ _) (Nat.le_refl _) _ _).trans (Keeps.of_below (Below.refl _ _).drew)
        · exact (((hst.2.set_off hx0 (by decide) (by decide) 0 _).set_off e1 (by decide) (by decide) 1 _)).below (Below.refl _ _).drew
      have hfinH := Lib.hid hfin
      obtain ⟨⟨x0, x1⟩, xf0, xf1⟩ := two_kept (Below.refl _ _) hx0
      obtain ⟨⟨y0, y1⟩, yf0, yf1⟩ := two_kept (Below.refl _ _) hx1
      clear hst hx0 hx1 hW2b hr10 hfin hl9 hl10
      generalize hK9 : (L.filter fun p => !badS F now p) = K9 at *
      generalize hK10 : numsS (L.filter (badS F now)) = K10 at *
      have hKH := Lib.hid (And.intro hK9 hK10)
      clear hK9 hK10
      go_upto_region 16 with fail
      generalize hXd : wr.setCell ⟨b, 1, none⟩ (.slice a9 K9.length c9) = X at *
      have hfx := Lib.hid (hfinH.out X rfl)
      clear hXd hfinH
      go_region
      all_goals
        go_wp2_with fail
        obtain ⟨⟨q0, q1⟩, hi, hk, hd⟩ := hfx.out
        refine bodyPost_ret (v := .tuple #[.slice a10 K10.length c10, .agg #[.int .i64 0, .int .i64 (-1)]]) (by simp [results, Tryz.results16, go_sem, q0, q1]) rfl ⟨⟨_, by rw [hr.out]; rfl, ?_⟩, hk, ?_⟩
        · rw [hr.out]; exact hi
        · rw [hr.out]; exact hd
end Go.Proofs.YtlcomdbkkfbjiaaGreatDoor
