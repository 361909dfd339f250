/- RefK, RelW -/
import Derived.Test.YtfbndfkahodheaaGreatDoorMg13
import Derived.Test.YtfbndfkahodheaaGreatDoorMg19
import Derived.Test.YtfbndfkahodheaaGreatDoorMg22
import Derived.Test.YtfbndfkahodheaaGreatDoorMg23
import Derived.Test.YtfbndfkahodheaaGreatDoorMg21
import Derived.Deep.CutRange
import Derived.Deep.RegionHeld3
/- The reference's follower in memory; Take, Floors: walked. -/
namespace Go.Proofs.YtfbndfkahodheaaGreatDoor
open Go.RowKit

/-- The reference's follower in memory: its block; a row of its own behind. -/
def RFolAt (w : World) (base b : Nat) (f : Fol) : Prop :=
  base ≤ b ∧ ∃ u, w.heap[b]? = some (.cells #[.int .i64 f.key, .int .i64 f.time, u, .string (bs f.head)] 69 (0, 0)) ∧ EntRow w base u f.l
theorem ent_ne_rfol : (102 : TypeId) ≠ 69 := by decide
theorem RFolAt.keeps {w w' : World} {base b : Nat} {f : Fol} {S : Nat → Prop} (h : RFolAt w base b f) (hk : Keeps S w w') (hb : ¬ S b) (hS : ∀ k, S k → ∃ cs T, w.heap[k]? = some (.cells cs T (0, 0)) ∧ T ≠ 102) : RFolAt w' base b f := by
  obtain ⟨h0, u, h1, h2⟩ := h
  refine ⟨h0, u, hk.obj h1 hb, RowG.keeps h2 hk (fun g hg hs => ?_)⟩
  obtain ⟨_, cs, h4⟩ := RowG.block h2 hg
  obtain ⟨cs', T, h5, h6⟩ := hS g hs
  rw [h4] at h5
  injection h5 with h5
  injection h5 with _ h5 _
  exact h6 h5.symm
theorem RFolAt.below {w w' : World} {base b : Nat} {f : Fol} (h : RFolAt w base b f) (hb : Below w.heap.size w w') : RFolAt w' base b f :=
  h.keeps (Keeps.of_below (S := fun _ => False) hb) (fun h => h) (fun _ h => h.elim)
theorem RFolAt.lt {w : World} {base b : Nat} {f : Fol} (h : RFolAt w base b f) : b < w.heap.size := by
  obtain ⟨_, u, h1, _⟩ := h
  exact (Array.getElem?_eq_some_iff.1 h1).1
theorem RFolAt.mono {w : World} {base base' b : Nat} {f : Fol} (h : RFolAt w base b f) (hb : base' ≤ base) : RFolAt w base' b f := by
  obtain ⟨h0, u, h1, h2⟩ := h
  exact ⟨Nat.le_trans hb h0, u, h1, RowG.mono h2 hb⟩
theorem four_kept {w1 : World} {n : Nat} {v0 v1 v2 v3 : Value} {T : TypeId} (h1 : w1.heap[n]? = some (.cells #[v0, v1, v2, v3] T (0, 0))) :
    (w1.cell? ⟨n, 0, none⟩ = some v0 ∧ w1.cell? ⟨n, 1, none⟩ = some v1 ∧ w1.cell? ⟨n, 2, none⟩ = some v2 ∧ w1.cell? ⟨n, 3, none⟩ = some v3) ∧ (w1.frozen? ⟨n, 0, none⟩ = false ∧ w1.frozen? ⟨n, 1, none⟩ = false ∧ w1.frozen? ⟨n, 2, none⟩ = false ∧ w1.frozen? ⟨n, 3, none⟩ = false) := by
  refine ⟨⟨?_, ?_, ?_, ?_⟩, ?_, ?_, ?_, ?_⟩
  all_goals first
    | (rw [cell_of_row _ _ _ _ _ _ h1]; rfl)
    | exact frozen_of_row _ _ _ _ _ h1
set_option maxHeartbeats 2000000 in
set_option maxRecDepth 100000 in
theorem floorsR_fol (base b : Nat) (f : Fol) (w : World) (hF : RFolAt w base b f) (hO : FOk f) :
    Calls Tryz.prog 71 #[.pointer (some ⟨b, 0, none⟩)] w fun e w' => ∃ v, e = .returned v ∧ FloorsAt w' v f.floors ∧ Below w.heap.size w w' := by
  obtain ⟨hge, u, hbk, hu⟩ := hF
  have hfl := floorsR_ent u f.l w (EntRow.at_ hu) hO.nm
  unfold RaiRes at hfl
  rw [hO.ok.ok] at hfl
  dsimp only [faultF] at hfl
  have hfl := Lib.hid hfl
  obtain ⟨⟨k0, k1, k2, k3⟩, _⟩ := four_kept hbk
  obtain ⟨au, cu, rfl⟩ := RowG.sl hu
  clear hbk hu k0 k1 k3
  go_enter Tryz.func71, Tryz.ntmps71
  go_wp2_with fail
  refine hfl.out.mono ?_
  rintro e w1 ⟨⟨v, rfl, hv⟩, hb⟩
  have hfin := Lib.hid (fun (o : Obj) => (show FloorsAt (w1.alloc o) v f.floors ∧ Below w.heap.size w (w1.alloc o) from ⟨hv.below ((Below.refl _ _).alloc (Nat.le_refl _) _), hb.alloc hb.size _⟩))
  obtain ⟨a9, c9, rfl, _⟩ := hv
  clear hb
  go_wp2_with fail
  go_ret
  exact ⟨_, rfl, hfin.out _⟩
theorem node_who {L : List Ent} (h : (floorsE L).2.1 = 0) : ∀ f ∈ (floorsE L).1, f.who.length ≤ maxLen := fun f hf => who_len ((floorsE_good h).g.one f hf)
theorem rfol_put {w W : World} {base b : Nat} {f : Fol} {u : Value} (hge : base ≤ b) (hbk : W.heap[b]? = some (.cells #[.int .i64 f.key, .int .i64 f.time, u, .string (bs f.head)] 69 (0, 0))) {v : Value} {L : List Ent} (hr : EntRow W base v L) (hk : Keeps (· = b) w W) (t : Int) (s : List UInt8) (F : List Flo) :
    RFolAt (((W.setCell ⟨b, 2, none⟩ v).setCell ⟨b, 1, none⟩ (.int .i64 t)).setCell ⟨b, 3, none⟩ (.string (bs s))) base b ⟨f.key, L, F, t, s⟩ ∧ Keeps (· = b) w (((W.setCell ⟨b, 2, none⟩ v).setCell ⟨b, 1, none⟩ (.int .i64 t)).setCell ⟨b, 3, none⟩ (.string (bs s))) := by
  have h1 := heap_setCell_same _ b 2 _ _ v hbk
  have h2 := heap_setCell_same _ b 1 _ _ (.int .i64 t) h1
  have h3 := heap_setCell_same _ b 3 _ _ (.string (bs s)) h2
  have hne : ∀ g, v.ownBlock = some g → g ≠ b := fun g hg e => row_not_fol hr hbk ent_ne_rfol (by rw [← e]; exact hg)
  exact ⟨⟨hge, v, h3, ((RowG.other hr ⟨b, 2, none⟩ v hne).other ⟨b, 1, none⟩ (.int .i64 t) hne).other ⟨b, 3, none⟩ (.string (bs s)) hne⟩, ((hk.trans (keeps_setCell _ _ _ rfl)).trans (keeps_setCell _ _ _ rfl)).trans (keeps_setCell _ _ _ rfl)⟩
set_option maxHeartbeats 2000000 in
set_option maxRecDepth 100000 in
theorem takeR_fol (base b : Nat) (f : Fol) (s : List UInt8) (v : Value) (M : List Ent) (w : World) (hF : RFolAt w base b f) (hv : EntsAt w v M) (hm : ∀ e ∈ M, e.f.who.length ≤ maxLen) (hfm : ∀ e ∈ f.l, e.f.who.length ≤ maxLen) (hl : f.l.length + M.length ≤ 100000) (hs : s.length ≤ 1000000) (hbs : base ≤ w.heap.size) :
    Calls Tryz.prog 31 #[.pointer (some ⟨b, 0, none⟩), .string (bs s), v] w fun e w' => e = .returned (.int .i64 ((takeF f s M).1 : Nat)) ∧ RFolAt w' base b (takeF f s M).2 ∧ Keeps (· = b) w w' := by
  have hop := openHR_any f.key s w hs
  unfold HdRes at hop
  have hE1 := fun h => takeF_err (f := f) (s := s) (M := M) h
  have hE2 := fun h h1 => takeF_late (f := f) (s := s) (M := M) h h1
  have hE3 := fun h h1 h2 => takeF_gap (f := f) (s := s) (M := M) h h1 h2
  have hE4 := fun h h1 h2 h3 => takeF_bad2 (f := f) (s := s) (M := M) h h1 h2 h3
  have hE5 := fun h h1 h2 h3 h4 => takeF_mark (f := f) (s := s) (M := M) h h1 h2 h3 h4
  have hE6 := fun h h1 h2 h3 h4 => takeF_of (f := f) (s := s) (M := M) h h1 h2 h3 h4
  have hFH := Lib.hid (fun wx (hx : Below w.heap.size w wx) => hF.below hx)
  have hvH := Lib.hid (fun wx (hx : Below w.heap.size w wx) => (show EntsAt wx v M from AtG.below hv hx))
  have hmall := Lib.hid (fun e (he : e ∈ f.l ++ M) => (show e.f.who.length ≤ maxLen from by
    rcases List.mem_append.1 he with h | h
    · exact hfm e h
    · exact hm e h))
  obtain ⟨⟨q, t, sm⟩, c, ho⟩ : ∃ h c, openH f.key s = (h, c) := ⟨_, _, rfl⟩
  rw [ho] at hop hE1 hE2 hE3 hE4 hE5 hE6
  dsimp only [Hd.valR] at hop hE1 hE2 hE3 hE4 hE5 hE6
  generalize takeF f s M = R at *
  obtain ⟨hge, u, hbk, hu⟩ := hF
  have hblt : b < w.heap.size := (Array.getElem?_eq_some_iff.1 hbk).1
  obtain ⟨au, cu, hus⟩ := RowG.sl hu
  obtain ⟨am, cm, hvm⟩ := AtG.sl hv
  subst hus
  subst hvm
  have huH := Lib.hid (fun wx (hx : Below w.heap.size w wx) => (show EntsAt wx (.slice au f.l.length cu) f.l from AtG.below (EntRow.at_ hu) hx))
  have hbkH := Lib.hid (fun wx (hx : Below w.heap.size w wx) => heap_down hx hbk)
  have hkp := Lib.hid (fun wx (hx : Below w.heap.size w wx) => (show RFolAt wx base b f ∧ Keeps (· = b) w wx from ⟨hFH.out wx hx, Keeps.of_below hx⟩))
  obtain ⟨⟨k0, k1, k2, k3⟩, fz0, fz1, fz2, fz3⟩ := four_kept hbk
  clear hu hv hm hfm ho hs
  have hE1 := Lib.hid hE1
  have hE2 := Lib.hid hE2
  have hE3 := Lib.hid hE3
  have hE4 := Lib.hid hE4
  have hE5 := Lib.hid hE5
  have hE6 := Lib.hid hE6
  cases c with
  | succ c =>
    have hr := Lib.hid (hE1.out (Nat.succ_ne_zero c))
    have hz1 : (0 : Int) < ((c + 1 : Nat) : Int) := by omega
    generalize hzd : ((c + 1 : Nat) : Int) = zi at *
    have hzd := Lib.hid hzd
    have hop := Lib.hid hop
    go_enter Tryz.func31, Tryz.ntmps31
    go_wp2_with fail
    refine hop.out.mono ?_
    rintro e w1 ⟨rfl, hb1⟩
    have hfin := Lib.hid (fun o => hkp.out (w1.alloc o) (hb1.alloc hb1.size o))
    clear hb1
    go_wp2_with fail
    go_ret
    exact ⟨ret_int (by rw [hr.out]; exact hzd.out.symm), by rw [hr.out]; exact (hfin.out _).1, (hfin.out _).2⟩
  | zero =>
  have hop := Lib.hid hop
  go_enter Tryz.func31, Tryz.ntmps31
  go_wp2_with fail
  refine hop.out.mono ?_
  rintro e w1 ⟨rfl, hb1⟩
  have hK1 := Lib.hid (show Below w.heap.size w (w1.alloc (.cells #[.int .i64 q, .int .i64 t, .int .i64 sm] 56)) from hb1.alloc hb1.size _)
  have hbx := heap_alloc_new w1 (.cells #[.int .i64 q, .int .i64 t, .int .i64 sm] 56)
  have hs1 := hb1.size
  clear hb1 hop
  go_upto_region 4 with fail
  generalize hxb : w1.heap.size = xb at *
  generalize w1.alloc (.cells #[.int .i64 q, .int .i64 t, .int .i64 sm] 56) = W at *
  obtain ⟨⟨x0, x1, x2⟩, _⟩ := head_kept hbx
  obtain ⟨⟨k0, k1, k2, k3⟩, _⟩ := four_kept (hbkH.out _ hK1.out)
  have hbxH := Lib.hid hbx
  clear hxb hbx
  go_cut [30] from 24 to 30 (fun s30 wx => s30 = .bool (decide (t < f.time)) ∧ Hid (Below W.heap.size W wx))
  case first =>
    go_quiet (fail)
    go_wp2_with fail
    go_meet
    exact ⟨rfl, Lib.hid (below_drawn (Below.refl _ _) _)⟩
  obtain ⟨rfl, hbc⟩ := hcut
  have hK2 := Lib.hid (below_trans hK1.out hbc.out)
  have hbx2 := Lib.hid (heap_down hbc.out hbxH.out)
  clear k0 k1 k2 k3 x0 x1 x2 hbc hbxH
  by_cases hlt : t < f.time
  · have hr := Lib.hid (hE2.out (by trivial) hlt)
    have hfin := Lib.hid (hkp.out _ hK2.out)
    rw [decide_eq_true hlt]
    go_wp2_with fail
    go_ret
    exact ⟨ret_int (by rw [hr.out]; rfl), by rw [hr.out]; exact hfin.out.1, hfin.out.2⟩
  rw [decide_eq_false hlt]
  obtain ⟨⟨x0, x1, x2⟩, _⟩ := head_kept hbx2.out
  obtain ⟨⟨k0, k1, k2, k3⟩, _⟩ := four_kept (hbkH.out _ hK2.out)
  have hltH := Lib.hid hlt
  clear hlt
  go_upto_region 6 with fail
  generalize wc = Wc at *
  go_cut [41] from 31 to 41 (fun s41 wx => s41 = .bool (q != (f.l.length : Int) + (M.length : Int)) ∧ Hid (Below Wc.heap.size Wc wx))
  case first =>
    go_quiet (fail)
    go_wp2_with fail
    go_meet
    exact ⟨rfl, Lib.hid (below_drawn (Below.refl _ _) _)⟩
  obtain ⟨rfl, hbc⟩ := hcut
  have hK3 := Lib.hid (below_trans hK2.out hbc.out)
  have hbx3 := Lib.hid (heap_down hbc.out hbx2.out)
  clear k0 k1 k2 k3 x0 x1 x2 hbc hbx2
  by_cases hsq : q = (f.l.length : Int) + (M.length : Int)
  case neg =>
    have hr := Lib.hid (hE3.out (by trivial) (by have := hltH.out; omega) hsq)
    have hfin := Lib.hid (hkp.out _ hK3.out)
    rw [show (q != (f.l.length : Int) + (M.length : Int)) = true from bne_iff_ne.2 hsq]
    go_wp2_with fail
    go_ret
    exact ⟨ret_int (by rw [hr.out]; rfl), by rw [hr.out]; exact hfin.out.1, hfin.out.2⟩
  rw [show (q != (f.l.length : Int) + (M.length : Int)) = false by rw [hsq]; exact bne_self_eq_false _]
  have hsqH := Lib.hid hsq
  have hxlt := (Array.getElem?_eq_some_iff.1 hbx3.out).1
  have hne1 : b ≠ xb := by omega
  have hne2 : xb ≠ b := by omega
  clear hsq
  obtain ⟨⟨k0, k1, k2, k3⟩, _⟩ := four_kept (hbkH.out _ hK3.out)
  have hll : f.l.length ≤ 100000 := by omega
  go_wp2_with (first
    | (at_builtin; refine wpList_appG entC _ rfl _ _ 22 rfl 102 (.agg #[.int .i64 0, .int .i64 0, .string ⟨#[]⟩, .int .i64 0]) 40 Tryz.underlying22 info_ent rfl (by decide) wc.heap.size _ [] rfl (RowG.nil _ _ _) _ f.l rfl (huH.out _ hK3.out) (by simp; omega) (Nat.le_refl _) ?_)
    | go_in)
  intro v6 w6 hown6 hb6 _ _
  obtain ⟨a6, c6, hs6⟩ := hown6.sl
  subst hs6
  have hK6 := Lib.hid (hK3.out.trans (hb6.mono hK3.out.size))
  have hbx6 := Lib.hid ((hb6.block xb hxlt).trans hbx3.out)
  have hs36 := hb6.size
  have hown6 := Lib.hid hown6
  clear hb6 k0 k1 k2 k3
  go_wp2_with (first
    | (at_builtin; refine wpList_appG entC _ rfl _ _ 22 rfl 102 (.agg #[.int .i64 0, .int .i64 0, .string ⟨#[]⟩, .int .i64 0]) 40 Tryz.underlying22 info_ent rfl (by decide) wc.heap.size _ f.l rfl hown6.out _ M rfl (hvH.out _ hK6.out) (by omega) hs36 ?_)
    | go_in)
  intro v7 w7 hown7 hb7 _ _
  have hK7 := Lib.hid (hK6.out.trans (hb7.mono hK3.out.size))
  have hbx7 := Lib.hid ((hb7.block xb hxlt).trans hbx6.out)
  have hfl := floorsR_ent v7 (f.l ++ M) w7 (RowG.at_ hown7) hmall.out
  unfold RaiRes at hfl
  obtain ⟨a7, c7, hs7⟩ := hown7.sl
  rw [List.length_append] at hs7
  subst hs7
  have hown7 := Lib.hid hown7
  obtain ⟨O, oc, oa, hfd⟩ : ∃ O oc oa, floorsE (f.l ++ M) = (O, oc, oa) := ⟨_, _, _, rfl⟩
  have hnm := fun h => node_who (L := f.l ++ M) h
  rw [hfd] at hfl hnm
  have hE4 := hE4.out
  have hE5 := hE5.out
  have hE6 := hE6.out
  rw [hfd] at hE4 hE5 hE6
  dsimp only [faultF] at hfl hE4 hE5 hE6 hnm
  have hfl := Lib.hid hfl
  have hE4 := Lib.hid hE4
  have hE5 := Lib.hid hE5
  have hE6 := Lib.hid hE6
  have hnm := Lib.hid hnm
  have hkp8 := Lib.hid (fun wx (hx : Below w7.heap.size w7 wx) => below_trans hK7.out hx)
  clear hb7 hfd hs36 hown6
  go_wp2_with fail
  refine hfl.out.mono ?_
  rintro e w8 ⟨⟨v8, rfl, hv8⟩, hb8⟩
  by_cases hoc : oc = 0
  case neg =>
    have hr := Lib.hid (hE4.out (by trivial) (by have := hltH.out; omega) hsqH.out hoc)
    have hz1 : (0 : Int) < (oc : Int) := by omega
    generalize hzd : (oc : Int) = zi at *
    have hzd := Lib.hid hzd
    have hfin := Lib.hid (fun o => hkp.out (w8.alloc o) (hkp8.out _ (hb8.alloc hb8.size o)))
    obtain ⟨a8, c8, hs8, _⟩ := hv8
    subst hs8
    clear hb8 hoc
    go_wp2_with fail
    go_ret
    exact ⟨ret_int (by rw [hr.out]; exact hzd.out.symm), by rw [hr.out]; exact (hfin.out _).1, (hfin.out _).2⟩
  subst hoc
  have hB78 := Lib.hid (fun o => (show Below w7.heap.size w7 (w8.alloc o) from hb8.alloc hb8.size o))
  have hv8A := Lib.hid (fun o => hv8.below ((Below.refl _ _).alloc (Nat.le_refl _) o))
  have hnm := hnm.out rfl
  have hnmH := Lib.hid hnm
  obtain ⟨a8, c8, hs8, _⟩ := hv8
  subst hs8
  clear hb8 hnm hfl
  go_upto_region 14 with fail
  generalize hWd : w8.alloc (.cells #[.int .i64 0, .int .i64 oa] 33) = Wd
  have hB9 := Lib.hid (show Below w7.heap.size w7 Wd by rw [← hWd]; exact hB78.out _)
  have hv9 := Lib.hid (show FloorsAt Wd (.slice a8 O.length c8) O by rw [← hWd]; exact hv8A.out _)
  have hK9 := Lib.hid (hkp8.out _ hB9.out)
  have hbx9 := Lib.hid (heap_down hB9.out hbx7.out)
  have hrow9 := Lib.hid (RowG.below hown7.out hB9.out)
  obtain ⟨⟨x0, x1, x2⟩, _⟩ := head_kept hbx9.out
  have hsu := Lib.hid (fun wx (hx : Below Wd.heap.size Wd wx) => sumR_flo (.slice a8 O.length c8) O wx (hv9.out.below hx) hnmH.out)
  have hkS := Lib.hid (fun wx (hx : Below Wd.heap.size Wd wx) => (show Below Wd.heap.size Wd wx ∧ wx.cell? ⟨xb, 2, none⟩ = some (.int .i64 sm) from ⟨hx, cell_below hx x2⟩))
  have hS : Below Wd.heap.size Wd Wd := Below.refl _ _
  clear hWd hB78 hv8A
  go_cut [65] from 61 to 65 (fun s65 wx => s65 = .bool (sumF O != sm) ∧ Hid (Below Wd.heap.size Wd wx))
  case first =>
    go_region_held3 (fun w' => Below Wd.heap.size Wd w' ∧ w'.cell? ⟨xb, 2, none⟩ = some (.int .i64 sm))
      ((refine hkS.out _ ?_; (first | exact hS | exact hS.drew)))
      ((go_at_call 60; refine (hsu.out _ (by (first | exact hS | exact hS.drew))).mono ?_; rintro e w' ⟨rfl, hbx⟩; have hS : Below Wd.heap.size Wd w' := below_trans (by (first | exact hS | exact hS.drew)) hbx))
    all_goals
      go_wp2_with fail
      go_meet
      exact ⟨rfl, Lib.hid (And.left (by assumption : Below Wd.heap.size Wd _ ∧ _))⟩
  obtain ⟨rfl, hbc⟩ := hcut
  have hK10 := Lib.hid (below_trans hK9.out hbc.out)
  have hbx10 := Lib.hid (heap_down hbc.out hbx9.out)
  have hrow10 := Lib.hid (RowG.below hrow9.out hbc.out)
  clear x0 x1 x2 hkS hS hsu
  by_cases hsm : sumF O = sm
  case neg =>
    have hr := Lib.hid (hE5.out (by trivial) (by have := hltH.out; omega) hsqH.out (by trivial) hsm)
    have hfin := Lib.hid (hkp.out _ hK10.out)
    rw [show (sumF O != sm) = true from bne_iff_ne.2 hsm]
    go_wp2_with fail
    go_ret
    exact ⟨ret_int (by rw [hr.out]; rfl), by rw [hr.out]; exact hfin.out.1, hfin.out.2⟩
  have hr := Lib.hid (hE6.out (by trivial) (by have := hltH.out; omega) hsqH.out (by trivial) hsm)
  rw [show (sumF O != sm) = false by rw [hsm]; exact bne_self_eq_false _]
  obtain ⟨⟨k0, k1, k2, k3⟩, z0, z1, z2, z3⟩ := four_kept (hbkH.out _ hK10.out)
  obtain ⟨⟨x0, x1, x2⟩, _⟩ := head_kept hbx10.out
  have hput := Lib.hid (rfol_put (w := w) hge (hbkH.out _ hK10.out) (RowG.mono hrow10.out (Nat.le_trans hbs hK3.out.size)) (Keeps.of_below hK10.out) t s O)
  clear hsm
  go_wp2_with fail
  go_ret
  exact ⟨ret_int (by rw [hr.out]; rfl), by rw [hr.out]; exact hput.out.1, hput.out.2⟩
end Go.Proofs.YtfbndfkahodheaaGreatDoor

/- Trees: Push, Many, Node: walked. -/
namespace Go.Proofs.YtfbndfkahodheaaGreatDoor
open Go.RowKit

theorem below_base {w w1 w2 : World} {b base : Nat} (h : Below base w w1) (hs : base ≤ w1.heap.size) (hb : base ≤ b) (hk : Keeps (· = b) w1 w2) : Below base w w2 :=
  ⟨hk.os.trans h.os, hk.tape.trans h.tape, hk.output.trans h.output, Nat.le_trans h.size hk.size, fun k hk' => (hk.block k (Nat.lt_of_lt_of_le hk' hs) (fun e => by omega)).trans (h.block k hk')⟩
set_option maxHeartbeats 2000000 in
set_option maxRecDepth 100000 in
theorem push_tree {E : Nat → Addr} (base b : Nat) (ps : List Nat) (T : List Fol) (A : List Int) (s : List UInt8) (v : Value) (M : List Ent) (w : World) (hL : LaidS E w) (hT : TreeAt w base b ps T A) (hp : 0 < ps.length) (hO : FOk (nodeT T 0)) (hv : EntsAt w v M) (hm : ∀ e ∈ M, e.f.who.length ≤ maxLen) (hl : M.length ≤ 1000) (hs : s.length ≤ 300) (hbs : base ≤ w.heap.size) :
    Calls Tryz.prog 39 #[.pointer (some ⟨b, 0, none⟩), .string (bs s), v] w fun e w' => e = .returned (errV E (takeF (nodeT T 0) s M).1) ∧ TreeAt w' base b ps (T.set 0 (takeF (nodeT T 0) s M).2) A ∧ Below base w w' := by
  have htk := Lib.hid (take_fol (E := E) base (ps.getD 0 0) (nodeT T 0) s v M w hL (hT.fol 0 hp) hv hm hO.nm (by have := hO.l60; omega) (by omega) hbs)
  have hTH := Lib.hid hT
  obtain ⟨au, cu, av, cv, c0, c1, l1, _, hps, _⟩ := hT.cells
  obtain ⟨g, o, rfl, p0⟩ := hps 0 hp
  rw [Nat.add_zero] at p0
  obtain ⟨am, cm, hvm⟩ := AtG.sl hv
  subst hvm
  have hset := Lib.hid (fun w' (hf : FolAt w' base (ps.getD 0 0) (takeF (nodeT T 0) s M).2) (hk : Keeps (· = ps.getD 0 0) w w') => (show TreeAt w' base b ps (T.set 0 (takeF (nodeT T 0) s M).2) A ∧ Below base w w' from ⟨hTH.out.set hp hf hk, below_base (Below.refl _ _) hbs (hTH.out.fol 0 hp).1 hk⟩))
  generalize takeF (nodeT T 0) s M = R at *
  obtain ⟨rc, rf⟩ := R
  dsimp only at *
  generalize ps.getD 0 0 = p at *
  unfold maxLen at l1
  have hpi : (0 : Int) < (ps.length : Int) := by omega
  clear hps c1 hL hv hm hO hs hT
  go_enter Tryz.func39, Tryz.ntmps39
  go_wp2_with fail
  refine htk.out.mono ?_
  rintro e w1 ⟨rfl, hf, hk⟩
  have hfin := Lib.hid (hset.out _ hf hk)
  clear hf hk
  go_wp2_with fail
  go_ret
  exact ⟨rfl, hfin.out⟩
set_option maxRecDepth 100000 in
theorem many_tree (base b : Nat) (ps : List Nat) (T : List Fol) (A : List Int) (w : World) (hT : TreeAt w base b ps T A) :
    Calls Tryz.prog 38 #[.pointer (some ⟨b, 0, none⟩)] w fun e w' => e = .returned (.int .i64 T.length) ∧ w = w' := by
  obtain ⟨au, cu, av, cv, c0, c1, l1, _, _, _⟩ := hT.cells
  have hln := Lib.hid hT.len
  unfold maxLen at l1
  clear c1 hT
  go_enter Tryz.func38, Tryz.ntmps38
  go_wp2_with fail
  go_ret
  exact ⟨ret_int (by rw [hln.out]), rfl⟩
set_option maxHeartbeats 2000000 in
set_option maxRecDepth 100000 in
theorem node_tree (base b : Nat) (ps : List Nat) (T : List Fol) (A : List Int) (i : Nat) (w : World) (hT : TreeAt w base b ps T A) (hi : i < T.length) (hO : FOk (nodeT T i)) :
    Calls Tryz.prog 44 #[.pointer (some ⟨b, 0, none⟩), .int .i64 i] w fun e w' => ∃ b', e = .returned (.pointer (some ⟨b', 0, none⟩)) ∧ FolAt w' w.heap.size b' (nodeT T i) ∧ Below w.heap.size w w' := by
  have hi2 : i < ps.length := by rw [hT.len]; exact hi
  have hcp := Lib.hid (copy_fol base (ps.getD i 0) (nodeT T i) w (hT.fol i hi2) (by have := hO.l60; omega) (by have := hO.fl; omega))
  obtain ⟨au, cu, av, cv, c0, c1, l1, _, hps, _⟩ := hT.cells
  obtain ⟨g, o, rfl, p0⟩ := hps i hi2
  unfold maxLen at l1
  have h1 : (0 : Int) ≤ (i : Int) := by omega
  have h2 : (i : Int) < (ps.length : Int) := by omega
  have h3 : ¬ ((i : Int) < 0) := by omega
  have h4 : ¬ ((ps.length : Int) ≤ (i : Int)) := by omega
  generalize nodeT T i = F at *
  generalize ps.getD i 0 = p at *
  clear hps c1 hT hO hi
  go_enter Tryz.func44, Tryz.ntmps44
  go_wp2_with fail
  refine hcp.out.mono ?_
  rintro e w1 ⟨b', rfl, hf, hb⟩
  have hfin := Lib.hid (And.intro hf hb)
  clear hf hb
  go_wp2_with fail
  go_ret
  exact ⟨_, rfl, hfin.out⟩
set_option maxRecDepth 100000 in
theorem node_none (base b : Nat) (ps : List Nat) (T : List Fol) (A : List Int) (i : Int) (w : World) (hT : TreeAt w base b ps T A) (hi : i < 0 ∨ (T.length : Int) ≤ i) :
    Calls Tryz.prog 44 #[.pointer (some ⟨b, 0, none⟩), .int .i64 i] w fun e w' => e = .returned (.pointer none) ∧ w = w' := by
  obtain ⟨au, cu, av, cv, c0, c1, l1, _, _, _⟩ := hT.cells
  unfold maxLen at l1
  have hln := hT.len
  by_cases h0 : i < 0
  · clear c1 hT hi hln
    go_enter Tryz.func44, Tryz.ntmps44
    go_wp2_with fail
    go_ret
    exact ⟨rfl, rfl⟩
  · have h4 : (ps.length : Int) ≤ i := by omega
    clear c1 hT hi hln
    go_enter Tryz.func44, Tryz.ntmps44
    go_wp2_with fail
    go_ret
    exact ⟨rfl, rfl⟩
end Go.Proofs.YtfbndfkahodheaaGreatDoor
