/- RefK, FloG, FloL, AsFol, RelW, RelW2, RelN, RelR -/
import Derived.Test.YtadnjdchjoechaaGreatDoorMg19
import Derived.Test.YtadnjdchjoechaaGreatDoorMg23
import Derived.Test.YtadnjdchjoechaaGreatDoorMg17
import Derived.Test.YtadnjdchjoechaaGreatDoorMg16
import Derived.Deep.CutRange
import Derived.Deep.RegionHeld3
import Derived.Test.YtadnjdchjoechaaGreatDoorMg7
import Derived.Test.YtadnjdchjoechaaGreatDoorMg9
import Derived.Deep.LoopGhost
/- The reference's follower in memory; Take, Floors: walked. -/
namespace Go.Proofs.YtadnjdchjoechaaGreatDoor
open Go.RowKit

/-- The reference's follower in memory: its block; a row of its own behind. -/
def RFolAt (w : World) (base b : Nat) (f : Fol) : Prop :=
  base ≤ b ∧ ∃ u, w.heap[b]? = some (.cells #[.int .i64 f.key, .int .i64 f.time, u, .string (bs f.head)] 69 (0, 0)) ∧ EntRow w base u f.l
theorem ent_ne_rfol : (75 : TypeId) ≠ 69 := by decide
theorem RFolAt.keeps {w w' : World} {base b : Nat} {f : Fol} {S : Nat → Prop} (h : RFolAt w base b f) (hk : Keeps S w w') (hb : ¬ S b) (hS : ∀ k, S k → ∃ cs T, w.heap[k]? = some (.cells cs T (0, 0)) ∧ T ≠ 75) : RFolAt w' base b f := by
  obtain ⟨h0, u, h1, h2⟩ := h
  refine ⟨h0, u, hk.obj h1 hb, RowG.keeps h2 hk (fun g hg hs => ?_)⟩
  obtain ⟨_, cs, h4⟩ := RowG.block h2 hg
  obtain ⟨cs', T, h5, h6⟩ := hS g hs
  rw [h4] at h5
  injection h5 with h5
  injection h5 with _ h5 _
  exact h6 h5.symm
theorem RFolAt.below {w w' : World} {base b : Nat} {f : Fol} (h : RFolAt w base b f) (hb : Below w.heap.size w w') : RFolAt w' base b f :=
  h.keeps (Keeps.of_below (S := fun _ => False) hb) (fun h => h) (fun _ h => h.elim)
theorem RFolAt.lt {w : World} {base b : Nat} {f : Fol} (h : RFolAt w base b f) : b < w.heap.size := by
  obtain ⟨_, u, h1, _⟩ := h
  exact (Array.getElem?_eq_some_iff.1 h1).1
theorem RFolAt.mono {w : World} {base base' b : Nat} {f : Fol} (h : RFolAt w base b f) (hb : base' ≤ base) : RFolAt w base' b f := by
  obtain ⟨h0, u, h1, h2⟩ := h
  exact ⟨Nat.le_trans hb h0, u, h1, RowG.mono h2 hb⟩
theorem four_kept {w1 : World} {n : Nat} {v0 v1 v2 v3 : Value} {T : TypeId} (h1 : w1.heap[n]? = some (.cells #[v0, v1, v2, v3] T (0, 0))) :
    (w1.cell? ⟨n, 0, none⟩ = some v0 ∧ w1.cell? ⟨n, 1, none⟩ = some v1 ∧ w1.cell? ⟨n, 2, none⟩ = some v2 ∧ w1.cell? ⟨n, 3, none⟩ = some v3) ∧ (w1.frozen? ⟨n, 0, none⟩ = false ∧ w1.frozen? ⟨n, 1, none⟩ = false ∧ w1.frozen? ⟨n, 2, none⟩ = false ∧ w1.frozen? ⟨n, 3, none⟩ = false) := by
  refine ⟨⟨?_, ?_, ?_, ?_⟩, ?_, ?_, ?_, ?_⟩
  all_goals first
    | (rw [cell_of_row _ _ _ _ _ _ h1]; rfl)
    | exact frozen_of_row _ _ _ _ _ h1
set_option maxHeartbeats 2000000 in
set_option maxRecDepth 100000 in
theorem floorsR_fol (base b : Nat) (f : Fol) (w : World) (hF : RFolAt w base b f) (hO : FOk f) :
    Calls Tryz.prog 51 #[.pointer (some ⟨b, 0, none⟩)] w fun e w' => ∃ v, e = .returned v ∧ FloorsAt w' v f.floors ∧ Below w.heap.size w w' := by
  obtain ⟨hge, u, hbk, hu⟩ := hF
  have hfl := floorsR_ent u f.l w (EntRow.at_ hu) hO.nm
  unfold RaiRes at hfl
  rw [hO.ok.ok] at hfl
  dsimp only [faultF] at hfl
  have hfl := Lib.hid hfl
  obtain ⟨⟨k0, k1, k2, k3⟩, _⟩ := four_kept hbk
  obtain ⟨au, cu, rfl⟩ := RowG.sl hu
  clear hbk hu k0 k1 k3
  go_enter Tryz.func51, Tryz.ntmps51
  go_wp2_with fail
  refine hfl.out.mono ?_
  rintro e w1 ⟨⟨v, rfl, hv⟩, hb⟩
  have hfin := Lib.hid (fun (o : Obj) => (show FloorsAt (w1.alloc o) v f.floors ∧ Below w.heap.size w (w1.alloc o) from ⟨hv.below ((Below.refl _ _).alloc (Nat.le_refl _) _), hb.alloc hb.size _⟩))
  obtain ⟨a9, c9, rfl, _⟩ := hv
  clear hb
  go_wp2_with fail
  go_ret
  exact ⟨_, rfl, hfin.out _⟩
theorem node_who {L : List Ent} (h : (floorsE L).2.1 = 0) : ∀ f ∈ (floorsE L).1, f.who.length ≤ maxLen := fun f hf => who_len ((floorsE_good h).g.one f hf)
theorem rfol_put {w W : World} {base b : Nat} {f : Fol} {u : Value} (hge : base ≤ b) (hbk : W.heap[b]? = some (.cells #[.int .i64 f.key, .int .i64 f.time, u, .string (bs f.head)] 69 (0, 0))) {v : Value} {L : List Ent} (hr : EntRow W base v L) (hk : Keeps (· = b) w W) (t : Int) (s : List UInt8) (F : List Flo) :
    RFolAt (((W.setCell ⟨b, 2, none⟩ v).setCell ⟨b, 1, none⟩ (.int .i64 t)).setCell ⟨b, 3, none⟩ (.string (bs s))) base b ⟨f.key, L, F, t, s⟩ ∧ Keeps (· = b) w (((W.setCell ⟨b, 2, none⟩ v).setCell ⟨b, 1, none⟩ (.int .i64 t)).setCell ⟨b, 3, none⟩ (.string (bs s))) := by
  have h1 := heap_setCell_same _ b 2 _ _ v hbk
  have h2 := heap_setCell_same _ b 1 _ _ (.int .i64 t) h1
  have h3 := heap_setCell_same _ b 3 _ _ (.string (bs s)) h2
  have hne : ∀ g, v.ownBlock = some g → g ≠ b := fun g hg e => row_not_fol hr hbk ent_ne_rfol (by rw [← e]; exact hg)
  exact ⟨⟨hge, v, h3, ((RowG.other hr ⟨b, 2, none⟩ v hne).other ⟨b, 1, none⟩ (.int .i64 t) hne).other ⟨b, 3, none⟩ (.string (bs s)) hne⟩, ((hk.trans (keeps_setCell _ _ _ rfl)).trans (keeps_setCell _ _ _ rfl)).trans (keeps_setCell _ _ _ rfl)⟩
set_option maxHeartbeats 2000000 in
set_option maxRecDepth 100000 in
theorem takeR_fol (base b : Nat) (f : Fol) (s : List UInt8) (v : Value) (M : List Ent) (w : World) (hF : RFolAt w base b f) (hv : EntsAt w v M) (hm : ∀ e ∈ M, e.f.who.length ≤ maxLen) (hfm : ∀ e ∈ f.l, e.f.who.length ≤ maxLen) (hl : f.l.length + M.length ≤ 100000) (hs : s.length ≤ 1000000) (hbs : base ≤ w.heap.size) :
    Calls Tryz.prog 23 #[.pointer (some ⟨b, 0, none⟩), .string (bs s), v] w fun e w' => e = .returned (.int .i64 ((takeF f s M).1 : Nat)) ∧ RFolAt w' base b (takeF f s M).2 ∧ Keeps (· = b) w w' := by
  have hop := openHR_any f.key s w hs
  unfold HdRes at hop
  have hE1 := fun h => takeF_err (f := f) (s := s) (M := M) h
  have hE2 := fun h h1 => takeF_late (f := f) (s := s) (M := M) h h1
  have hE3 := fun h h1 h2 => takeF_gap (f := f) (s := s) (M := M) h h1 h2
  have hE4 := fun h h1 h2 h3 => takeF_bad2 (f := f) (s := s) (M := M) h h1 h2 h3
  have hE5 := fun h h1 h2 h3 h4 => takeF_mark (f := f) (s := s) (M := M) h h1 h2 h3 h4
  have hE6 := fun h h1 h2 h3 h4 => takeF_of (f := f) (s := s) (M := M) h h1 h2 h3 h4
  have hFH := Lib.hid (fun wx (hx : Below w.heap.size w wx) => hF.below hx)
  have hvH := Lib.hid (fun wx (hx : Below w.heap.size w wx) => (show EntsAt wx v M from AtG.below hv hx))
  have hmall := Lib.hid (fun e (he : e ∈ f.l ++ M) => (show e.f.who.length ≤ maxLen from by
    rcases List.mem_append.1 he with h | h
    · exact hfm e h
    · exact hm e h))
  obtain ⟨⟨q, t, sm⟩, c, ho⟩ : ∃ h c, openH f.key s = (h, c) := ⟨_, _, rfl⟩
  rw [ho] at hop hE1 hE2 hE3 hE4 hE5 hE6
  dsimp only [Hd.valR] at hop hE1 hE2 hE3 hE4 hE5 hE6
  generalize takeF f s M = R at *
  obtain ⟨hge, u, hbk, hu⟩ := hF
  have hblt : b < w.heap.size := (Array.getElem?_eq_some_iff.1 hbk).1
  obtain ⟨au, cu, hus⟩ := RowG.sl hu
  obtain ⟨am, cm, hvm⟩ := AtG.sl hv
  subst hus
  subst hvm
  have huH := Lib.hid (fun wx (hx : Below w.heap.size w wx) => (show EntsAt wx (.slice au f.l.length cu) f.l from AtG.below (EntRow.at_ hu) hx))
  have hbkH := Lib.hid (fun wx (hx : Below w.heap.size w wx) => heap_down hx hbk)
  have hkp := Lib.hid (fun wx (hx : Below w.heap.size w wx) => (show RFolAt wx base b f ∧ Keeps (· = b) w wx from ⟨hFH.out wx hx, Keeps.of_below hx⟩))
  obtain ⟨⟨k0, k1, k2, k3⟩, fz0, fz1, fz2, fz3⟩ := four_kept hbk
  clear hu hv hm hfm ho hs
  have hE1 := Lib.hid hE1
  have hE2 := Lib.hid hE2
  have hE3 := Lib.hid hE3
  have hE4 := Lib.hid hE4
  have hE5 := Lib.hid hE5
  have hE6 := Lib.hid hE6
  cases c with
  | succ c =>
    have hr := Lib.hid (hE1.out (Nat.succ_ne_zero c))
    have hz1 : (0 : Int) < ((c + 1 : Nat) : Int) := by omega
    generalize hzd : ((c + 1 : Nat) : Int) = zi at *
    have hzd := Lib.hid hzd
    have hop := Lib.hid hop
    go_enter Tryz.func23, Tryz.ntmps23
    go_wp2_with fail
    refine hop.out.mono ?_
    rintro e w1 ⟨rfl, hb1⟩
    have hfin := Lib.hid (fun o => hkp.out (w1.alloc o) (hb1.alloc hb1.size o))
    clear hb1
    go_wp2_with fail
    go_ret
    exact ⟨ret_int (by rw [hr.out]; exact hzd.out.symm), by rw [hr.out]; exact (hfin.out _).1, (hfin.out _).2⟩
  | zero =>
  have hop := Lib.hid hop
  go_enter Tryz.func23, Tryz.ntmps23
  go_wp2_with fail
  refine hop.out.mono ?_
  rintro e w1 ⟨rfl, hb1⟩
  have hK1 := Lib.hid (show Below w.heap.size w (w1.alloc (.cells #[.int .i64 q, .int .i64 t, .int .i64 sm] 99)) from hb1.alloc hb1.size _)
  have hbx := heap_alloc_new w1 (.cells #[.int .i64 q, .int .i64 t, .int .i64 sm] 99)
  have hs1 := hb1.size
  clear hb1 hop
  go_upto_region 4 with fail
  generalize hxb : w1.heap.size = xb at *
  generalize w1.alloc (.cells #[.int .i64 q, .int .i64 t, .int .i64 sm] 99) = W at *
  obtain ⟨⟨x0, x1, x2⟩, _⟩ := head_kept hbx
  obtain ⟨⟨k0, k1, k2, k3⟩, _⟩ := four_kept (hbkH.out _ hK1.out)
  have hbxH := Lib.hid hbx
  clear hxb hbx
  go_cut [30] from 24 to 30 (fun s30 wx => s30 = .bool (decide (t < f.time)) ∧ Hid (Below W.heap.size W wx))
  case first =>
    go_quiet (fail)
    go_wp2_with fail
    go_meet
    exact ⟨rfl, Lib.hid (below_drawn (Below.refl _ _) _)⟩
  obtain ⟨rfl, hbc⟩ := hcut
  have hK2 := Lib.hid (below_trans hK1.out hbc.out)
  have hbx2 := Lib.hid (heap_down hbc.out hbxH.out)
  clear k0 k1 k2 k3 x0 x1 x2 hbc hbxH
  by_cases hlt : t < f.time
  · have hr := Lib.hid (hE2.out (by trivial) hlt)
    have hfin := Lib.hid (hkp.out _ hK2.out)
    rw [decide_eq_true hlt]
    go_wp2_with fail
    go_ret
    exact ⟨ret_int (by rw [hr.out]; rfl), by rw [hr.out]; exact hfin.out.1, hfin.out.2⟩
  rw [decide_eq_false hlt]
  obtain ⟨⟨x0, x1, x2⟩, _⟩ := head_kept hbx2.out
  obtain ⟨⟨k0, k1, k2, k3⟩, _⟩ := four_kept (hbkH.out _ hK2.out)
  have hltH := Lib.hid hlt
  clear hlt
  go_upto_region 6 with fail
  generalize wc = Wc at *
  go_cut [41] from 31 to 41 (fun s41 wx => s41 = .bool (q != (f.l.length : Int) + (M.length : Int)) ∧ Hid (Below Wc.heap.size Wc wx))
  case first =>
    go_quiet (fail)
    go_wp2_with fail
    go_meet
    exact ⟨rfl, Lib.hid (below_drawn (Below.refl _ _) _)⟩
  obtain ⟨rfl, hbc⟩ := hcut
  have hK3 := Lib.hid (below_trans hK2.out hbc.out)
  have hbx3 := Lib.hid (heap_down hbc.out hbx2.out)
  clear k0 k1 k2 k3 x0 x1 x2 hbc hbx2
  by_cases hsq : q = (f.l.length : Int) + (M.length : Int)
  case neg =>
    have hr := Lib.hid (hE3.out (by trivial) (by have := hltH.out; omega) hsq)
    have hfin := Lib.hid (hkp.out _ hK3.out)
    rw [show (q != (f.l.length : Int) + (M.length : Int)) = true from bne_iff_ne.2 hsq]
    go_wp2_with fail
    go_ret
    exact ⟨ret_int (by rw [hr.out]; rfl), by rw [hr.out]; exact hfin.out.1, hfin.out.2⟩
  rw [show (q != (f.l.length : Int) + (M.length : Int)) = false by rw [hsq]; exact bne_self_eq_false _]
  have hsqH := Lib.hid hsq
  have hxlt := (Array.getElem?_eq_some_iff.1 hbx3.out).1
  have hne1 : b ≠ xb := by omega
  have hne2 : xb ≠ b := by omega
  clear hsq
  obtain ⟨⟨k0, k1, k2, k3⟩, _⟩ := four_kept (hbkH.out _ hK3.out)
  have hll : f.l.length ≤ 100000 := by omega
  go_wp2_with (first
    | (at_builtin; refine wpList_appG entC _ rfl _ _ 22 rfl 75 (.agg #[.int .i64 0, .int .i64 0, .string ⟨#[]⟩, .int .i64 0]) 40 Tryz.underlying22 info_ent rfl (by decide) wc.heap.size _ [] rfl (RowG.nil _ _ _) _ f.l rfl (huH.out _ hK3.out) (by simp; omega) (Nat.le_refl _) ?_)
    | go_in)
  intro v6 w6 hown6 hb6 _ _
  obtain ⟨a6, c6, hs6⟩ := hown6.sl
  subst hs6
  have hK6 := Lib.hid (hK3.out.trans (hb6.mono hK3.out.size))
  have hbx6 := Lib.hid ((hb6.block xb hxlt).trans hbx3.out)
  have hs36 := hb6.size
  have hown6 := Lib.hid hown6
  clear hb6 k0 k1 k2 k3
  go_wp2_with (first
    | (at_builtin; refine wpList_appG entC _ rfl _ _ 22 rfl 75 (.agg #[.int .i64 0, .int .i64 0, .string ⟨#[]⟩, .int .i64 0]) 40 Tryz.underlying22 info_ent rfl (by decide) wc.heap.size _ f.l rfl hown6.out _ M rfl (hvH.out _ hK6.out) (by omega) hs36 ?_)
    | go_in)
  intro v7 w7 hown7 hb7 _ _
  have hK7 := Lib.hid (hK6.out.trans (hb7.mono hK3.out.size))
  have hbx7 := Lib.hid ((hb7.block xb hxlt).trans hbx6.out)
  have hfl := floorsR_ent v7 (f.l ++ M) w7 (RowG.at_ hown7) hmall.out
  unfold RaiRes at hfl
  obtain ⟨a7, c7, hs7⟩ := hown7.sl
  rw [List.length_append] at hs7
  subst hs7
  have hown7 := Lib.hid hown7
  obtain ⟨O, oc, oa, hfd⟩ : ∃ O oc oa, floorsE (f.l ++ M) = (O, oc, oa) := ⟨_, _, _, rfl⟩
  have hnm := fun h => node_who (L := f.l ++ M) h
  rw [hfd] at hfl hnm
  have hE4 := hE4.out
  have hE5 := hE5.out
  have hE6 := hE6.out
  rw [hfd] at hE4 hE5 hE6
  dsimp only [faultF] at hfl hE4 hE5 hE6 hnm
  have hfl := Lib.hid hfl
  have hE4 := Lib.hid hE4
  have hE5 := Lib.hid hE5
  have hE6 := Lib.hid hE6
  have hnm := Lib.hid hnm
  have hkp8 := Lib.hid (fun wx (hx : Below w7.heap.size w7 wx) => below_trans hK7.out hx)
  clear hb7 hfd hs36 hown6
  go_wp2_with fail
  refine hfl.out.mono ?_
  rintro e w8 ⟨⟨v8, rfl, hv8⟩, hb8⟩
  by_cases hoc : oc = 0
  case neg =>
    have hr := Lib.hid (hE4.out (by trivial) (by have := hltH.out; omega) hsqH.out hoc)
    have hz1 : (0 : Int) < (oc : Int) := by omega
    generalize hzd : (oc : Int) = zi at *
    have hzd := Lib.hid hzd
    have hfin := Lib.hid (fun o => hkp.out (w8.alloc o) (hkp8.out _ (hb8.alloc hb8.size o)))
    obtain ⟨a8, c8, hs8, _⟩ := hv8
    subst hs8
    clear hb8 hoc
    go_wp2_with fail
    go_ret
    exact ⟨ret_int (by rw [hr.out]; exact hzd.out.symm), by rw [hr.out]; exact (hfin.out _).1, (hfin.out _).2⟩
  subst hoc
  have hB78 := Lib.hid (fun o => (show Below w7.heap.size w7 (w8.alloc o) from hb8.alloc hb8.size o))
  have hv8A := Lib.hid (fun o => hv8.below ((Below.refl _ _).alloc (Nat.le_refl _) o))
  have hnm := hnm.out rfl
  have hnmH := Lib.hid hnm
  obtain ⟨a8, c8, hs8, _⟩ := hv8
  subst hs8
  clear hb8 hnm hfl
  go_upto_region 14 with fail
  generalize hWd : w8.alloc (.cells #[.int .i64 0, .int .i64 oa] 87) = Wd
  have hB9 := Lib.hid (show Below w7.heap.size w7 Wd by rw [← hWd]; exact hB78.out _)
  have hv9 := Lib.hid (show FloorsAt Wd (.slice a8 O.length c8) O by rw [← hWd]; exact hv8A.out _)
  have hK9 := Lib.hid (hkp8.out _ hB9.out)
  have hbx9 := Lib.hid (heap_down hB9.out hbx7.out)
  have hrow9 := Lib.hid (RowG.below hown7.out hB9.out)
  obtain ⟨⟨x0, x1, x2⟩, _⟩ := head_kept hbx9.out
  have hsu := Lib.hid (fun wx (hx : Below Wd.heap.size Wd wx) => sumR_flo (.slice a8 O.length c8) O wx (hv9.out.below hx) hnmH.out)
  have hkS := Lib.hid (fun wx (hx : Below Wd.heap.size Wd wx) => (show Below Wd.heap.size Wd wx ∧ wx.cell? ⟨xb, 2, none⟩ = some (.int .i64 sm) from ⟨hx, cell_below hx x2⟩))
  have hS : Below Wd.heap.size Wd Wd := Below.refl _ _
  clear hWd hB78 hv8A
  go_cut [65] from 61 to 65 (fun s65 wx => s65 = .bool (sumF O != sm) ∧ Hid (Below Wd.heap.size Wd wx))
  case first =>
    go_region_held3 (fun w' => Below Wd.heap.size Wd w' ∧ w'.cell? ⟨xb, 2, none⟩ = some (.int .i64 sm))
      ((refine hkS.out _ ?_; (first | exact hS | exact hS.drew)))
      ((go_at_call 47; refine (hsu.out _ (by (first | exact hS | exact hS.drew))).mono ?_; rintro e w' ⟨rfl, hbx⟩; have hS : Below Wd.heap.size Wd w' := below_trans (by (first | exact hS | exact hS.drew)) hbx))
    all_goals
      go_wp2_with fail
      go_meet
      exact ⟨rfl, Lib.hid (And.left (by assumption : Below Wd.heap.size Wd _ ∧ _))⟩
  obtain ⟨rfl, hbc⟩ := hcut
  have hK10 := Lib.hid (below_trans hK9.out hbc.out)
  have hbx10 := Lib.hid (heap_down hbc.out hbx9.out)
  have hrow10 := Lib.hid (RowG.below hrow9.out hbc.out)
  clear x0 x1 x2 hkS hS hsu
  by_cases hsm : sumF O = sm
  case neg =>
    have hr := Lib.hid (hE5.out (by trivial) (by have := hltH.out; omega) hsqH.out (by trivial) hsm)
    have hfin := Lib.hid (hkp.out _ hK10.out)
    rw [show (sumF O != sm) = true from bne_iff_ne.2 hsm]
    go_wp2_with fail
    go_ret
    exact ⟨ret_int (by rw [hr.out]; rfl), by rw [hr.out]; exact hfin.out.1, hfin.out.2⟩
  have hr := Lib.hid (hE6.out (by trivial) (by have := hltH.out; omega) hsqH.out (by trivial) hsm)
  rw [show (sumF O != sm) = false by rw [hsm]; exact bne_self_eq_false _]
  obtain ⟨⟨k0, k1, k2, k3⟩, z0, z1, z2, z3⟩ := four_kept (hbkH.out _ hK10.out)
  obtain ⟨⟨x0, x1, x2⟩, _⟩ := head_kept hbx10.out
  have hput := Lib.hid (rfol_put (w := w) hge (hbkH.out _ hK10.out) (RowG.mono hrow10.out (Nat.le_trans hbs hK3.out.size)) (Keeps.of_below hK10.out) t s O)
  clear hsm
  go_wp2_with fail
  go_ret
  exact ⟨ret_int (by rw [hr.out]; rfl), by rw [hr.out]; exact hput.out.1, hput.out.2⟩
end Go.Proofs.YtadnjdchjoechaaGreatDoor

/- LongFloors, walked. -/
namespace Go.Proofs.YtadnjdchjoechaaGreatDoor
open Go.RowKit

def longF (L : List Flo) : Bool := decide (25 < L.length) || L.any fun f => decide (20 < f.who.length)
def longI (L : List Flo) : Int := if longF L = true then 1 else 0
theorem longF_false {L : List Flo} (h : longF L = false) : L.length ≤ 25 ∧ ∀ f ∈ L, f.who.length ≤ 20 := by
  unfold longF at h
  rw [Bool.or_eq_false_iff, List.any_eq_false] at h
  refine ⟨by have := of_decide_eq_false h.1; omega, fun f hf => ?_⟩
  have := h.2 f hf
  simp at this
  exact this
end Go.Proofs.YtadnjdchjoechaaGreatDoor

/- SameFloors, walked. -/
namespace Go.Proofs.YtadnjdchjoechaaGreatDoor
open Go.RowKit

end Go.Proofs.YtadnjdchjoechaaGreatDoor

/- The law's asFollower: walked. -/
namespace Go.Proofs.YtadnjdchjoechaaGreatDoor
open Go.RowKit

theorem bs_self (s : List UInt8) : ((bs s).toList == (bs s).toList) = true := by simp
end Go.Proofs.YtadnjdchjoechaaGreatDoor

/- Trees: Push, Many, Node: walked. -/
namespace Go.Proofs.YtadnjdchjoechaaGreatDoor
open Go.RowKit

theorem below_base {w w1 w2 : World} {b base : Nat} (h : Below base w w1) (hs : base ≤ w1.heap.size) (hb : base ≤ b) (hk : Keeps (· = b) w1 w2) : Below base w w2 :=
  ⟨hk.os.trans h.os, hk.tape.trans h.tape, hk.output.trans h.output, Nat.le_trans h.size hk.size, fun k hk' => (hk.block k (Nat.lt_of_lt_of_le hk' hs) (fun e => by omega)).trans (h.block k hk')⟩
end Go.Proofs.YtadnjdchjoechaaGreatDoor

/- Trees: Poll, All: walked. -/
namespace Go.Proofs.YtadnjdchjoechaaGreatDoor
open Go.RowKit

theorem set_self {T : List Fol} {n : Nat} (h : n < T.length) : T.set n (nodeT T n) = T := by
  unfold nodeT
  rw [getD_get h]
  exact List.set_getElem_self h
/-- What a poll answers. -/
def PollRes (E : Nat → Addr) (r : Int × Nat) (e : Ending) : Prop := e = .returned (.tuple #[.int .i64 r.1, errV E r.2])
theorem PollRes.mk {E : Nat → Addr} {r : Int × Nat} {n : Int} {c : Nat} {ev : Value} (hr : r = (n, c)) (hv : ev = errV E c) : PollRes E r (.returned (.tuple #[.int .i64 n, ev])) := by
  subst hr hv
  rfl
theorem allN_tok {T : List Fol} {A : List Int} (h : TOk T) (hup : ∀ i, 1 ≤ i → i < T.length → upT A i < T.length) : ∀ n, TOk (allN T A n).2
  | 0 => h
  | n + 1 => by
    rw [allN]
    exact poll_tok A n (allN_tok h hup n) (fun i h1 h2 => by rw [allN_len] at h2 ⊢; exact hup i h1 h2)
end Go.Proofs.YtadnjdchjoechaaGreatDoor

/- Trees: New: walked. -/
namespace Go.Proofs.YtadnjdchjoechaaGreatDoor
open Go.RowKit

theorem RowG.new1 {α : Type} {C : Cells α} {base : Nat} (x : World) (p : α) (T : TypeId) {cs : Array Value} (hc : cs = (C.f p).toArray) (hb : base ≤ x.heap.size) : RowG C (x.alloc (.cells cs T)) base T (.slice (some ⟨x.heap.size, 0, none⟩) 1 1) [p] := by
  subst hc
  have h1 : (flatG C [p]) = C.f p := by simp [flatG]
  have h2 := C.len p
  unfold RowG
  refine ⟨by rw [h1, h2]; simp, .inr ⟨x.heap.size, 1, (C.f p).toArray, rfl, hb, heap_alloc_new x _, by simp, by unfold maxLen; decide, by simp [h2], ?_⟩⟩
  rw [h1]
  exact List.take_of_length_le (by simp [h2])
theorem row_other2 {α β : Type} {C : Cells α} {D : Cells β} {w : World} {base : Nat} {e e' : TypeId} {u v : Value} {L : List α} {M : List β} (h : RowG C w base e u L) (h' : RowG D w base e' v M) (hne : e ≠ e') {g : Nat} (hg : u.ownBlock = some g) : v.ownBlock ≠ some g := by
  obtain ⟨_, cs, h4⟩ := RowG.block h hg
  exact row_not_fol h' h4 (fun e => hne e.symm)
theorem ptr_ne_ent : (44 : TypeId) ≠ 75 := by decide
theorem ptr_ne_flo : (44 : TypeId) ≠ 73 := by decide
theorem num_ne_ent : (3 : TypeId) ≠ 75 := by decide
theorem num_ne_flo : (3 : TypeId) ≠ 73 := by decide
/-- A follower is kept by what changes blocks of other types alone. -/
theorem FolAt.keeps2 {w w' : World} {base b : Nat} {f : Fol} {S : Nat → Prop} (h : FolAt w base b f) (hk : Keeps S w w') (hS : ∀ k, S k → ∃ cs T, w.heap[k]? = some (.cells cs T (0, 0)) ∧ T ≠ 92 ∧ T ≠ 75 ∧ T ≠ 73) : FolAt w' base b f := by
  obtain ⟨h0, u, v, h1, h2, h3⟩ := h
  refine ⟨h0, u, v, (hk.block b (Array.getElem?_eq_some_iff.1 h1).1 (fun hs => ?_)).trans h1, RowG.keeps h2 hk (fun g hg hs => ?_), floRow_G.2 (RowG.keeps (floRow_G.1 h3) hk (fun g hg hs => ?_))⟩
  · obtain ⟨cs, T, h4, h5, _⟩ := hS b hs
    rw [h1] at h4
    injection h4 with h4
    injection h4 with _ h4 _
    exact h5 h4.symm
  · obtain ⟨cs, T, h4, _, h5, _⟩ := hS g hs
    exact row_not_fol h2 h4 (fun e => h5 e.symm) hg
  · obtain ⟨cs, T, h4, _, _, h5⟩ := hS g hs
    exact row_not_fol (floRow_G.1 h3) h4 (fun e => h5 e.symm) hg
theorem nodeT_app (T : List Fol) (f : Fol) (i : Nat) : nodeT (T ++ [f]) i = if i < T.length then nodeT T i else if i = T.length then f else newFol 0 := by
  unfold nodeT
  rw [List.getD_eq_getElem?_getD, List.getD_eq_getElem?_getD]
  by_cases h : i < T.length
  · rw [if_pos h, List.getElem?_append_left h]
  · rw [if_neg h, List.getElem?_append_right (by omega)]
    by_cases h2 : i = T.length
    · rw [if_pos h2, h2]; simp
    · rw [if_neg h2]
      have : i - T.length ≠ 0 := by omega
      simp [this]
def badA (A : List Int) (i : Nat) : Bool := decide (A.getD i 0 < 0 ∨ (i : Int) < A.getD i 0)
def newTE (key : Int) (A : List Int) : Nat × Int :=
  if isKey key = false then (10, -1) else if 10 < A.length then (7, -1) else match (List.range A.length).find? (badA A) with
  | none => (0, -1)
  | some i => (2, (i : Int))
theorem newTE_key {key : Int} (A : List Int) (h : isKey key = false) : newTE key A = (10, -1) := by unfold newTE; rw [if_pos h]
theorem newTE_full {key : Int} {A : List Int} (h : isKey key = true) (hl : 10 < A.length) : newTE key A = (7, -1) := by unfold newTE; rw [if_neg (by rw [h]; decide), if_pos hl]
theorem newTE_bad {key : Int} {A : List Int} (h : isKey key = true) (hl : ¬ 10 < A.length) {i : Nat} (hi : i < A.length) (hb : badA A i = true) (ha : ∀ j, j < i → badA A j = false) : newTE key A = (2, (i : Int)) := by
  unfold newTE
  rw [if_neg (by rw [h]; decide), if_neg hl, find_range A.length i hi hb ha]
theorem newTE_good {key : Int} {A : List Int} (h : isKey key = true) (hl : ¬ 10 < A.length) (ha : ∀ j, j < A.length → badA A j = false) : newTE key A = (0, -1) := by
  unfold newTE
  have : (List.range A.length).find? (badA A) = none := List.find?_eq_none.2 fun j hj => by rw [ha j (List.mem_range.1 hj)]; decide
  rw [if_neg (by rw [h]; decide), if_neg hl, this]
theorem newTE_zero {key : Int} {A : List Int} (h : (newTE key A).1 = 0) : isKey key = true ∧ A.length ≤ 10 ∧ ∀ i, i < A.length → 0 ≤ A.getD i 0 ∧ A.getD i 0 ≤ (i : Int) := by
  unfold newTE at h
  by_cases hk : isKey key = false
  · rw [if_pos hk] at h; cases h
  rw [if_neg hk] at h
  by_cases hl : 10 < A.length
  · rw [if_pos hl] at h; cases h
  rw [if_neg hl] at h
  refine ⟨by simpa using hk, by omega, fun i hi => ?_⟩
  cases hf : (List.range A.length).find? (badA A) with
  | none =>
    have h1 : badA A i = false := by simpa using List.find?_eq_none.1 hf i (List.mem_range.2 hi)
    unfold badA at h1
    have := of_decide_eq_false h1
    omega
  | some j => rw [hf] at h; cases h
theorem fault_two {E : Nat → Addr} (x : World) (a : Int) : ErrAt E (x.alloc (.cells #[.int .i64 a, .iface 265 (.pointer (some (E 2)))] 113)).drew (.iface 111 (.pointer (some ⟨x.heap.size, 0, none⟩))) 2 a := by
  have hN : (x.alloc (.cells #[.int .i64 a, .iface 265 (.pointer (some (E 2)))] 113)).drew.heap[x.heap.size]? = some (.cells #[.int .i64 a, .iface 265 (.pointer (some (E 2)))] 113 (0, 0)) := heap_alloc_new x _
  obtain ⟨⟨h1, h2⟩, _⟩ := two_kept (Below.refl _ _) hN
  exact .inr ⟨_, rfl, by decide, h1, h2⟩
theorem replicate_succ' {α : Type} (n : Nat) (a : α) : List.replicate n a ++ [a] = List.replicate (n + 1) a := by rw [List.replicate_succ', ]
end Go.Proofs.YtadnjdchjoechaaGreatDoor

/- The reference's trees in memory: no walk. -/
namespace Go.Proofs.YtadnjdchjoechaaGreatDoor
open Go.RowKit

theorem info_rptr : (Tryz.prog.info? 60).map (fun i => (i.zero, i.size, i.bytes)) = some (some (.pointer none), ptrC.k, 8) := by kernel_rfl
theorem rptr_ne_rfol : (60 : TypeId) ≠ 69 := by decide
theorem num_ne_rfol : (3 : TypeId) ≠ 69 := by decide
theorem rptr_ne_num : (60 : TypeId) ≠ 3 := by decide
theorem rptr_ne_ent : (60 : TypeId) ≠ 75 := by decide
theorem rfol_ne_fol : (69 : TypeId) ≠ 92 := by decide
theorem rfol_ne_flo : (69 : TypeId) ≠ 73 := by decide
theorem ptr_ne_rfol : (44 : TypeId) ≠ 69 := by decide
theorem rptr_ne_fol : (60 : TypeId) ≠ 92 := by decide
theorem RFolAt.keeps2 {w w' : World} {base b : Nat} {f : Fol} {S : Nat → Prop} (h : RFolAt w base b f) (hk : Keeps S w w') (hS : ∀ k, S k → ∃ cs T, w.heap[k]? = some (.cells cs T (0, 0)) ∧ T ≠ 69 ∧ T ≠ 75) : RFolAt w' base b f := by
  obtain ⟨h0, u, h1, h2⟩ := h
  refine ⟨h0, u, (hk.block b (Array.getElem?_eq_some_iff.1 h1).1 (fun hs => ?_)).trans h1, RowG.keeps h2 hk (fun g hg hs => ?_)⟩
  · obtain ⟨cs, T, h4, h5, _⟩ := hS b hs
    rw [h1] at h4
    injection h4 with h4
    injection h4 with _ h4 _
    exact h5 h4.symm
  · obtain ⟨cs, T, h4, _, h5⟩ := hS g hs
    exact row_not_fol h2 h4 (fun e => h5 e.symm) hg
theorem RFolAt.blk {w : World} {base b : Nat} {f : Fol} (h : RFolAt w base b f) : ∃ cs, w.heap[b]? = some (.cells cs 69 (0, 0)) := by
  obtain ⟨_, u, h1, _⟩ := h
  exact ⟨_, h1⟩
/-- Another follower is kept. -/
theorem RFolAt.other {w w' : World} {base b b' : Nat} {f f' : Fol} (h : RFolAt w base b f) (h' : RFolAt w base b' f') (hne : b ≠ b') (hk : Keeps (· = b') w w') : RFolAt w' base b f :=
  h.keeps hk hne (fun k hk => by
    obtain ⟨_, u, h1, _⟩ := h'
    subst hk
    exact ⟨_, _, h1, fun e => ent_ne_rfol e.symm⟩)
/-- What changes the other's followers alone keeps this. -/
theorem FolAt.foreign {w w' : World} {base b : Nat} {f : Fol} {S : Nat → Prop} (h : FolAt w base b f) (hk : Keeps S w w') (hS : ∀ k, S k → ∃ cs, w.heap[k]? = some (.cells cs 69 (0, 0))) : FolAt w' base b f :=
  h.keeps2 hk (fun k hs => by
    obtain ⟨cs, h1⟩ := hS k hs
    exact ⟨cs, _, h1, rfol_ne_fol, fun e => ent_ne_rfol e.symm, rfol_ne_flo⟩)
theorem RFolAt.foreign {w w' : World} {base b : Nat} {f : Fol} {S : Nat → Prop} (h : RFolAt w base b f) (hk : Keeps S w w') (hS : ∀ k, S k → ∃ cs, w.heap[k]? = some (.cells cs 92 (0, 0))) : RFolAt w' base b f :=
  h.keeps2 hk (fun k hs => by
    obtain ⟨cs, h1⟩ := hS k hs
    exact ⟨cs, _, h1, fun e => rfol_ne_fol e.symm, fun e => ent_ne_fol e.symm⟩)
end Go.Proofs.YtadnjdchjoechaaGreatDoor
