/- FolW, FolT, FolG, FolY, FedG -/
import Derived.Test.YtadnjdchjoechaaGreatDoorMg14
import Derived.Test.YtadnjdchjoechaaGreatDoorMg15
import Derived.Test.YtadnjdchjoechaaGreatDoorMg12
import Derived.Test.YtadnjdchjoechaaGreatDoorMg9
import Derived.Test.YtadnjdchjoechaaGreatDoorMg11
import Derived.Deep.RegionHeld3
import Derived.Test.YtadnjdchjoechaaGreatDoorMg7
/- Package follow: followers in memory; New: walked. -/
namespace Go.Proofs.YtadnjdchjoechaaGreatDoor
open Go.RowKit

/-- A follower in memory: its block; rows of its own behind. -/
def FolAt (w : World) (base b : Nat) (f : Fol) : Prop :=
  base ≤ b ∧ ∃ u v, w.heap[b]? = some (.cells #[.int .i64 f.key, u, v, .int .i64 f.time, .string (bs f.head)] 92 (0, 0)) ∧ EntRow w base u f.l ∧ FlRow w base v f.floors
theorem ent_ne_fol : (75 : TypeId) ≠ 92 := by decide
theorem flo_ne_fol : (73 : TypeId) ≠ 92 := by decide
theorem FolAt.keeps {w w' : World} {base b : Nat} {f : Fol} {S : Nat → Prop} (h : FolAt w base b f) (hk : Keeps S w w') (hb : ¬ S b) (hS : ∀ k, S k → ∃ cs, w.heap[k]? = some (.cells cs 92 (0, 0))) : FolAt w' base b f := by
  obtain ⟨h0, u, v, h1, h2, h3⟩ := h
  refine ⟨h0, u, v, (hk.block b (Array.getElem?_eq_some_iff.1 h1).1 hb).trans h1, RowG.keeps h2 hk (fun g hg hs => ?_), floRow_G.2 (RowG.keeps (floRow_G.1 h3) hk (fun g hg hs => ?_))⟩
  · obtain ⟨_, cs, h4⟩ := RowG.block h2 hg
    obtain ⟨cs', h5⟩ := hS g hs
    rw [h4] at h5
    injection h5 with h5
    injection h5 with _ h5 _
    exact ent_ne_fol h5
  · obtain ⟨_, cs, h4⟩ := RowG.block (floRow_G.1 h3) hg
    obtain ⟨cs', h5⟩ := hS g hs
    rw [h4] at h5
    injection h5 with h5
    injection h5 with _ h5 _
    exact flo_ne_fol h5
theorem FolAt.below {w w' : World} {base b : Nat} {f : Fol} (h : FolAt w base b f) (hb : Below w.heap.size w w') : FolAt w' base b f :=
  h.keeps (Keeps.of_below (S := fun _ => False) hb) (fun h => h) (fun _ h => h.elim)
set_option maxHeartbeats 1000000 in
set_option maxRecDepth 100000 in
theorem newFol_any {E : Nat → Addr} (k : Int) (w : World) (hL : Laid E w) :
    Calls Tryz.prog 32 #[.int .i64 k] w fun e w' => (isKey k = false ∧ e = .returned (.tuple #[.pointer none, errV E 10]) ∨ isKey k = true ∧ ∃ b, e = .returned (.tuple #[.pointer (some ⟨b, 0, none⟩), .nilIface]) ∧ FolAt w' w.heap.size b (newFol k)) ∧ Below w.heap.size w w' := by
  by_cases hk : isKey k = true
  case neg =>
    have hk : isKey k = false := by simpa using hk
    have he := hL.e10
    simp only [errV] at he
    go_enter Tryz.func32, Tryz.ntmps32
    go_wp2_with (go_at_call 31; refine (key_any _ _).mono ?_; rintro e w' ⟨rfl, rfl⟩)
    go_quiet (fail)
    go_wp2_with fail
    go_ret2
    exact ⟨.inl ⟨hk, rfl⟩, below_drawn (Below.refl _ _) _⟩
  have hkH := Lib.hid hk
  have hrow := Lib.hid (heap_alloc_new w (.cells #[.int .i64 k, .slice none 0 0, .slice none 0 0, .int .i64 (-1), .string ⟨#[]⟩] 92))
  go_enter Tryz.func32, Tryz.ntmps32
  go_wp2_with (go_at_call 31; refine (key_any _ _).mono ?_; rintro e w' ⟨rfl, rfl⟩)
  go_ret2
  exact ⟨.inr ⟨hkH.out, _, rfl, Nat.le_refl _, _, _, hrow.out, RowG.nil _ _ _, FlRow.nil _ _⟩, (Below.refl _ _).alloc (Nat.le_refl _) _⟩
end Go.Proofs.YtadnjdchjoechaaGreatDoor

/- follow's Take: walked. -/
namespace Go.Proofs.YtadnjdchjoechaaGreatDoor
open Go.RowKit

theorem takeF_err {f : Fol} {s : List UInt8} {M : List Ent} (h : (openH f.key s).2 ≠ 0) : takeF f s M = ((openH f.key s).2, f) := by unfold takeF; rw [if_pos h]
theorem takeF_late {f : Fol} {s : List UInt8} {M : List Ent} (h : (openH f.key s).2 = 0) (h1 : (openH f.key s).1.time < f.time) : takeF f s M = (12, f) := by unfold takeF; rw [if_neg (by simpa using h), if_pos h1]
theorem takeF_gap {f : Fol} {s : List UInt8} {M : List Ent} (h : (openH f.key s).2 = 0) (h1 : ¬ (openH f.key s).1.time < f.time) (h2 : (openH f.key s).1.seq ≠ (f.l.length : Int) + M.length) : takeF f s M = (15, f) := by unfold takeF; rw [if_neg (by simpa using h), if_neg h1, if_pos h2]
theorem takeF_bad2 {f : Fol} {s : List UInt8} {M : List Ent} (h : (openH f.key s).2 = 0) (h1 : ¬ (openH f.key s).1.time < f.time) (h2 : (openH f.key s).1.seq = (f.l.length : Int) + M.length) (h3 : (floorsE (f.l ++ M)).2.1 ≠ 0) : takeF f s M = ((floorsE (f.l ++ M)).2.1, f) := by unfold takeF; rw [if_neg (by simpa using h), if_neg h1, if_neg (by simpa using h2), if_pos h3]
theorem takeF_mark {f : Fol} {s : List UInt8} {M : List Ent} (h : (openH f.key s).2 = 0) (h1 : ¬ (openH f.key s).1.time < f.time) (h2 : (openH f.key s).1.seq = (f.l.length : Int) + M.length) (h3 : (floorsE (f.l ++ M)).2.1 = 0) (h4 : sumF (floorsE (f.l ++ M)).1 ≠ (openH f.key s).1.sum) : takeF f s M = (9, f) := by unfold takeF; rw [if_neg (by simpa using h), if_neg h1, if_neg (by simpa using h2), if_neg (by simpa using h3), if_pos h4]
theorem fol_cells {w : World} {b : Nat} {v0 v1 v2 v3 v4 : Value} {T : TypeId} (h1 : w.heap[b]? = some (.cells #[v0, v1, v2, v3, v4] T (0, 0))) :
    (w.cell? ⟨b, 0, none⟩ = some v0 ∧ w.cell? ⟨b, 1, none⟩ = some v1 ∧ w.cell? ⟨b, 2, none⟩ = some v2 ∧ w.cell? ⟨b, 3, none⟩ = some v3 ∧ w.cell? ⟨b, 4, none⟩ = some v4) ∧ (∀ j, w.frozen? ⟨b, j, none⟩ = false) := by
  refine ⟨⟨?_, ?_, ?_, ?_, ?_⟩, fun j => frozen_of_row _ _ _ _ _ h1⟩
  all_goals (rw [cell_of_row _ _ _ _ _ _ h1]; rfl)
theorem fol_put {w w7 : World} {base b : Nat} {f : Fol} {u u' : Value} {v5 v6 : Value} {t0 : Int} {s0 : Value} {L : List Ent} {F : List Flo} (hge : base ≤ b) (hbk : w7.heap[b]? = some (.cells #[.int .i64 f.key, u, u', .int .i64 t0, s0] 92 (0, 0))) (h5 : EntRow w7 base v5 L) (h6 : FlRow w7 base v6 F) (hk : Keeps (· = b) w w7) (t : Int) (s : List UInt8) :
    FolAt ((((w7.setCell ⟨b, 1, none⟩ v5).setCell ⟨b, 2, none⟩ v6).setCell ⟨b, 3, none⟩ (.int .i64 t)).setCell ⟨b, 4, none⟩ (.string (bs s))) base b ⟨f.key, L, F, t, s⟩ ∧ Keeps (· = b) w ((((w7.setCell ⟨b, 1, none⟩ v5).setCell ⟨b, 2, none⟩ v6).setCell ⟨b, 3, none⟩ (.int .i64 t)).setCell ⟨b, 4, none⟩ (.string (bs s))) := by
  have n5 : ∀ g, v5.ownBlock = some g → g ≠ b := by
    rintro g hg rfl
    obtain ⟨_, cs, h⟩ := RowG.block h5 hg
    rw [hbk] at h
    injection h with h
    injection h with _ h _
    exact ent_ne_fol h.symm
  have n6 : ∀ g, v6.ownBlock = some g → g ≠ b := by
    rintro g hg rfl
    obtain ⟨_, cs, h⟩ := RowG.block (floRow_G.1 h6) hg
    rw [hbk] at h
    injection h with h
    injection h with _ h _
    exact flo_ne_fol h.symm
  have b1 := heap_setCell_same _ b 1 _ _ v5 hbk
  have b2 := heap_setCell_same _ b 2 _ _ v6 b1
  have b3 := heap_setCell_same _ b 3 _ _ (.int .i64 t) b2
  have b4 := heap_setCell_same _ b 4 _ _ (.string (bs s)) b3
  exact ⟨⟨hge, v5, v6, b4, RowG.other (RowG.other (RowG.other (RowG.other h5 _ _ n5) _ _ n5) _ _ n5) _ _ n5, floRow_G.2 (RowG.other (RowG.other (RowG.other (RowG.other (floRow_G.1 h6) _ _ n6) _ _ n6) _ _ n6) _ _ n6)⟩,
    (((hk.trans (keeps_setCell _ _ _ rfl)).trans (keeps_setCell _ _ _ rfl)).trans (keeps_setCell _ _ _ rfl)).trans (keeps_setCell _ _ _ rfl)⟩
theorem cellsN (W : World) (n : Nat) (v1 v2 : Value) (T : TypeId) : ((W.drewN n).alloc (.cells #[v1, v2] T)).cell? ⟨W.heap.size, 0, none⟩ = some v1 ∧ ((W.drewN n).alloc (.cells #[v1, v2] T)).cell? ⟨W.heap.size, 1, none⟩ = some v2 := by
  have h : ((W.drewN n).alloc (.cells #[v1, v2] T)).heap[W.heap.size]? = some (.cells #[v1, v2] T (0, 0)) := heap_alloc_new (W.drewN n) _
  exact ⟨by rw [cell_of_row _ _ _ _ _ _ h]; rfl, by rw [cell_of_row _ _ _ _ _ _ h]; rfl⟩
set_option maxHeartbeats 4000000 in
set_option maxRecDepth 100000 in
theorem take_fol {E : Nat → Addr} (base b : Nat) (f : Fol) (s : List UInt8) (v : Value) (M : List Ent) (w : World) (hL : LaidS E w) (hF : FolAt w base b f) (hv : EntsAt w v M) (hm : ∀ e ∈ M, e.f.who.length ≤ maxLen) (hfm : ∀ e ∈ f.l, e.f.who.length ≤ maxLen) (hl : f.l.length + M.length ≤ 1000000) (hs : s.length ≤ 1000000) (hbs : base ≤ w.heap.size) :
    Calls Tryz.prog 37 #[.pointer (some ⟨b, 0, none⟩), .string (bs s), v] w fun e w' => e = .returned (errV E (takeF f s M).1) ∧ FolAt w' base b (takeF f s M).2 ∧ Keeps (· = b) w w' := by
  have hFH := Lib.hid hF
  have hop := openF_any (E := E) f.key (bs s) w hL (by rw [bs_size]; exact hs)
  simp only [bs_list] at hop
  obtain ⟨hge, u, v2, hbk, hru, hrv⟩ := hF
  obtain ⟨⟨k0, k1, k2, k3, k4⟩, hfz⟩ := fol_cells hbk
  obtain ⟨au, cu, hu⟩ := RowG.sl hru
  obtain ⟨am, cm, hvm⟩ := AtG.sl hv
  subst hu
  subst hvm
  have hmall := Lib.hid (fun e (he : e ∈ f.l ++ M) => (show e.f.who.length ≤ maxLen from by
    rcases List.mem_append.1 he with h | h
    · exact hfm e h
    · exact hm e h))
  have hblt : b < w.heap.size := (Array.getElem?_eq_some_iff.1 hbk).1
  have hbkH := Lib.hid hbk
  have hvw := Lib.hid (fun wx (hx : Below w.heap.size w wx) => (show EntsAt wx (.slice am M.length cm) M from AtG.below hv hx))
  have huw := Lib.hid (fun wx (hx : Below w.heap.size w wx) => (show EntsAt wx (.slice au f.l.length cu) f.l from AtG.below (EntRow.at_ hru) hx))
  have hLw := Lib.hid (fun wx (hx : Below w.heap.size w wx) => hL.below hx)
  have hbw := Lib.hid (fun wx (hx : Below w.heap.size w wx) => heap_down hx hbkH.out)
  have hkeep := Lib.hid (fun wx (hx : Below w.heap.size w wx) => And.intro (hFH.out.below hx) (show Keeps (· = b) w wx from Keeps.of_below hx))
  have hsum := IntWalk.i64_in ((f.l.length : Int) + (M.length : Int)) (by omega)
  have tErr := Lib.hid (@takeF_err f s M)
  have tLate := Lib.hid (@takeF_late f s M)
  have tGap := Lib.hid (@takeF_gap f s M)
  have tBad := Lib.hid (@takeF_bad2 f s M)
  have tMark := Lib.hid (@takeF_mark f s M)
  have tOk := Lib.hid (@takeF_of f s M)
  generalize takeF f s M = r at *
  generalize openH f.key s = oh at *
  obtain ⟨⟨hq, ht, hx⟩, cd⟩ := oh
  dsimp only [Hd.val] at *
  have hopH := Lib.hid hop
  clear hv hm hfm hL hru hrv hbk hop hfz
  cases cd with
  | succ cd =>
    have hr := Lib.hid (tErr.out (Nat.succ_ne_zero _))
    have hop := hopH.out
    rw [errV_succ] at hop
    have hop := Lib.hid hop
    clear tErr tLate tGap tBad tMark tOk
    go_enter Tryz.func37, Tryz.ntmps37
    go_wp2_with fail
    refine hop.out.mono ?_
    rintro e w1 ⟨rfl, hb1⟩
    have hb1 := Lib.hid (hb1.alloc (Nat.le_trans (Nat.le_refl _) hb1.size) (.cells #[.int .i64 hq, .int .i64 ht, .int .i64 hx] 119))
    go_wp2_with fail
    go_ret
    exact ⟨by rw [hr.out]; rfl, by rw [hr.out]; exact (hkeep.out _ hb1.out).1, (hkeep.out _ hb1.out).2⟩
  | zero =>
  have hop := hopH.out
  rw [errV_zero] at hop
  have hop := Lib.hid hop
  clear tErr hopH
  go_enter Tryz.func37, Tryz.ntmps37
  go_wp2_with fail
  refine hop.out.mono ?_
  rintro e w1 ⟨rfl, hb1⟩
  have hbX := hb1.alloc hb1.size (.cells #[.int .i64 hq, .int .i64 ht, .int .i64 hx] 119)
  have hrow := heap_alloc_new w1 (.cells #[.int .i64 hq, .int .i64 ht, .int .i64 hx] 119)
  clear hop hb1 k0 k1 k2 k3 k4
  go_upto_region 4 with fail
  generalize hbd : w1.heap.size = box at *
  generalize w1.alloc (.cells #[.int .i64 hq, .int .i64 ht, .int .i64 hx] 119) = W at *
  clear hbd
  have hltW : box < W.heap.size := (Array.getElem?_eq_some_iff.1 hrow).1
  have hbXH := Lib.hid hbX
  have hrowH := Lib.hid hrow
  obtain ⟨⟨k0, k1, k2, k3, k4⟩, hfz⟩ := fol_cells (hbw.out _ hbX)
  obtain ⟨⟨q0, q1, q2⟩, hfq⟩ := head_kept hrow
  have e12 := (hLw.out _ hbX).laid.e12
  have e15 := (hLw.out _ hbX).laid.e15
  simp only [errV] at e12 e15
  clear hbX hrow hfz hfq
  by_cases hlate : ht < f.time
  · have hr := Lib.hid (tLate.out (by first | trivial | rfl) hlate)
    go_quiet (fail)
    go_wp2_with fail
    go_ret
    exact ⟨by rw [hr.out]; rfl, by rw [hr.out]; exact (hkeep.out _ (below_drawn hbXH.out _)).1, (hkeep.out _ (below_drawn hbXH.out _)).2⟩
  by_cases hgap : hq = (f.l.length : Int) + M.length
  case neg =>
    have hr := Lib.hid (tGap.out (by first | trivial | rfl) (by omega) (by first | exact hgap | omega))
    have hgap' : (hq != (f.l.length : Int) + M.length) = true := bne_iff_ne.2 hgap
    go_quiet (fail)
    go_wp2_with fail
    go_quiet (fail)
    go_wp2_with fail
    go_ret
    exact ⟨by rw [hr.out]; rfl, by rw [hr.out]; exact (hkeep.out _ (below_drawn hbXH.out _)).1, (hkeep.out _ (below_drawn hbXH.out _)).2⟩
  have hgap' : (hq != (f.l.length : Int) + M.length) = false := by rw [hgap]; exact bne_self_eq_false _
  have hcc := Lib.hid (fun (g : Nat) wx (hx : Below w.heap.size w wx) h0 h1 => concat_ent g _ _ f.l M wx h0 h1 (huw.out wx hx) (hvw.out wx hx) hl)
  have hfl := Lib.hid (fun vx wx (hx : Below w.heap.size w wx) (hvx : EntsAt wx vx (f.l ++ M)) => floors_ent (E := E) vx (f.l ++ M) wx (hLw.out wx hx).laid hvx hmall.out)
  have hsu := Lib.hid (fun vx wx (hx : Below w.heap.size w wx) (hvx : FloorsAt wx vx (floorsE (f.l ++ M)).1) (hz : (floorsE (f.l ++ M)).2.1 = 0) => sum_flo (E := E) vx (floorsE (f.l ++ M)).1 wx (hLw.out wx hx) hvx (fun g hg => who_len ((floorsE_good hz).g.one g hg)))
  have tBad := Lib.hid (fun h => tBad.out (by first | trivial | rfl) (by omega) (by first | exact hgap | omega) h)
  have tMark := Lib.hid (fun h h' => tMark.out (by first | trivial | rfl) (by omega) (by first | exact hgap | omega) h h')
  have tOk := Lib.hid (fun h h' => tOk.out (by first | trivial | rfl) (by omega) (by first | exact hgap | omega) h h')
  clear tLate tGap hmall
  go_quiet (fail)
  go_wp2_with fail
  go_quiet (fail)
  go_wp2_with fail
  refine (hcc.out _ _ ((below_drawn hbXH.out _).alloc hbXH.out.size _) (cellsN _ _ _ _ _).1 (cellsN _ _ _ _ _).2).mono ?_
  rintro e w5 ⟨v5, rfl, hrow5, hb5⟩
  have hC5 := Lib.hid (below_trans ((below_drawn hbXH.out _).alloc hbXH.out.size _) hb5)
  have hr5 := Lib.hid (heap_down hb5 ((Below.heap_alloc _ _ box (show box < W.heap.size from hltW)).trans hrowH.out))
  have hs5 : base ≤ w5.heap.size := Nat.le_trans hbs hC5.out.size
  have hrow5 := hrow5.mono (base' := base) (Nat.le_trans hbs ((below_drawn hbXH.out _).alloc hbXH.out.size _).size)
  have hfl5 := Lib.hid (hfl.out _ _ hC5.out (EntRow.at_ hrow5))
  have hrow5H := Lib.hid hrow5
  clear k0 k1 k2 k3 k4 q0 q1 q2 hb5 hcc hfl e12 e15 hrow5
  go_wp2_with fail
  refine hfl5.out.mono ?_
  rintro e w6 ⟨⟨v6, ev6, rfl, hrow6, he6⟩, hb6⟩
  have hC6 := Lib.hid (below_trans hC5.out hb6)
  have hr6 := Lib.hid (heap_down hb6 hr5.out)
  have hrow5 := Lib.hid (RowG.below hrow5H.out hb6)
  have hrow6 := Lib.hid (hrow6.mono (base' := base) hs5)
  clear hb6 hfl5
  by_cases hfz : (floorsE (f.l ++ M)).2.1 = 0
  case neg =>
    have hr := Lib.hid (tBad.out hfz)
    obtain ⟨T6, x6, rfl⟩ := he6.iface hfz
    have hba := Lib.hid (bare_err _ _ _ w6 he6)
    clear hfz he6
    go_wp2_with fail
    refine hba.out.mono ?_
    rintro e w7 ⟨rfl, rfl⟩
    go_wp2_with fail
    go_ret
    exact ⟨by rw [hr.out]; rfl, by rw [hr.out]; exact (hkeep.out _ hC6.out).1, (hkeep.out _ hC6.out).2⟩
  obtain ⟨rfl, _⟩ := he6.zero hfz
  have tMark := Lib.hid (fun h => tMark.out hfz h)
  have tOk := Lib.hid (fun h => tOk.out hfz h)
  have hsu6 := Lib.hid (hsu.out _ _ (hC6.out.drew) (floorsAt_of (RowG.at_ (floRow_G.1 (hrow6.out.below (below_drawn (Below.refl _ _) 1))))) hfz)
  have hkS := Lib.hid (fun (w' : World) (h : w'.heap[box]? = some (.cells #[.int .i64 hq, .int .i64 ht, .int .i64 hx] 119 (0, 0))) => (head_kept h).1)
  have hrD := Lib.hid (show w6.drew.heap[box]? = some (.cells #[.int .i64 hq, .int .i64 ht, .int .i64 hx] 119 (0, 0)) from hr6.out)
  have hcD := hkS.out _ hrD.out
  have hC6d := Lib.hid hC6.out.drew
  have e9 := Lib.hid (fun wx (hx : Below w.heap.size w wx) => (hLw.out _ hx).laid.e9)
  generalize hsm : sumF (floorsE (f.l ++ M)).1 = sm at *
  clear he6 hsu hsm
  go_upto_region 12 with fail
  refine wp_region_noPanic ?_
  refine wp_region_held_drew (S := fun w' => w'.cell? ⟨box, 0, none⟩ = some (.int .i64 hq) ∧ w'.cell? ⟨box, 1, none⟩ = some (.int .i64 ht) ∧ w'.cell? ⟨box, 2, none⟩ = some (.int .i64 hx)) (by kernel_rfl) ?_ (fun hHeld => ?_)
  · exact hcD
  refine' held_take (i := 0) (d := some 64) (v := _) rfl rfl (by kernel_rfl) (by kernel_rfl) (by kernel_rfl) (fun _ _ _ h => h) rfl (by assumption) ?hy_1 ?re_1
  case hy_1 =>
    intro w hSw
    try dsimp only at hSw
    go_simp
    try with_reducible rfl
  simp only [Act.put, List.setIfInBounds_toArray, List.set_cons_zero, List.set_cons_succ]
  refine' held_take (i := 2) (d := some 66) (v := _) rfl rfl (by kernel_rfl) (by kernel_rfl) (by kernel_rfl) (fun _ _ _ h => h) rfl (by assumption) ?hy_2 ?re_2
  case hy_2 =>
    intro w hSw
    try dsimp only at hSw
    go_simp
    try with_reducible rfl
  simp only [Act.put, List.setIfInBounds_toArray, List.set_cons_zero, List.set_cons_succ]
  refine' held_take (i := 3) (d := some 67) (v := _) rfl rfl (by kernel_rfl) (by kernel_rfl) (by kernel_rfl) (fun _ _ _ h => h) rfl (by assumption) ?hy_3 ?re_3
  case hy_3 =>
    intro w hSw
    try dsimp only at hSw
    go_simp
    try with_reducible rfl
  simp only [Act.put, List.setIfInBounds_toArray, List.set_cons_zero, List.set_cons_succ]
  refine wpAnyH_ready (rs := [1]) (by kernel_rfl) (by simp) ?_
  refine AllReadyH.cons rfl (fun K hK => ?_) AllReadyH.nil
  go_simp
  refine hsu6.out.mono ?_
  rintro e w7 ⟨rfl, hb7⟩
  have hr7 := Lib.hid (heap_down hb7 hrD.out)
  have hC7 := Lib.hid (below_trans hC6d.out hb7)
  have hrow5 := Lib.hid (RowG.below (hrow5.out.drewN 1) hb7)
  have hrow6 := Lib.hid (RowG.below ((floRow_G.1 hrow6.out).drewN 1) hb7)
  clear hb7
  go_wp2_with fail
  refine hK.out _ _ ?_ (fun hHeld => ?_)
  · exact hkS.out _ hr7.out
  clear hK K
  try simp only [Act.put, List.setIfInBounds_toArray, List.set_cons_zero, List.set_cons_succ]
  refine' held_take (i := 4) (d := some 68) (v := _) rfl rfl (by kernel_rfl) (by kernel_rfl) (by kernel_rfl) (fun _ _ _ h => h) rfl (by assumption) ?hy_4 ?re_4
  case hy_4 =>
    intro w hSw
    try dsimp only at hSw
    go_simp
    try with_reducible rfl
  simp only [Act.put, List.setIfInBounds_toArray, List.set_cons_zero, List.set_cons_succ]
  refine' held_take (i := 5) (d := some 63) (v := _) rfl rfl (by kernel_rfl) (by kernel_rfl) (by kernel_rfl) (fun _ _ _ h => h) rfl (by assumption) ?hy_5 ?re_5
  case hy_5 =>
    intro w hSw
    try dsimp only at hSw
    go_simp
    try with_reducible rfl
  simp only [Act.put, List.setIfInBounds_toArray, List.set_cons_zero, List.set_cons_succ]
  refine wpAnyH_done (by kernel_rfl) ?_ _
  refine NoPanic.normal ?_
  by_cases hms : sm = hx
  case neg =>
    have hr := Lib.hid (tMark.out hms)
    have hms' : (sm != hx) = true := bne_iff_ne.2 hms
    have e9 := e9.out _ hC7.out
    simp only [errV] at e9
    go_wp2_with fail
    go_ret
    exact ⟨by rw [hr.out]; rfl, by rw [hr.out]; exact (hkeep.out _ hC7.out).1, (hkeep.out _ hC7.out).2⟩
  have hr := Lib.hid (tOk.out hms)
  have hms' : (sm != hx) = false := by rw [hms]; exact bne_self_eq_false _
  obtain ⟨⟨k0, k1, k2, k3, k4⟩, hfz⟩ := fol_cells (hbw.out _ hC7.out)
  obtain ⟨⟨q0, q1, q2⟩, hfq⟩ := head_kept hr7.out
  have f1 := hfz 1
  have f2 := hfz 2
  have f3 := hfz 3
  have f4 := hfz 4
  have hbx : box ≠ b := by have := hC7.out.size; intro e; have h1 := hbw.out _ hC7.out; rw [← e, hr7.out] at h1; injection h1 with h1; injection h1 with _ h1 _; revert h1; decide
  have hbx' : b ≠ box := Ne.symm hbx
  obtain ⟨a5, c5, hv5⟩ := RowG.sl hrow5.out
  obtain ⟨a6, c6, hv6⟩ := RowG.sl hrow6.out
  rw [List.length_append] at hv5
  subst hv5
  subst hv6
  have hfin := Lib.hid (fol_put (base := base) (b := b) (f := f) hge (hbw.out _ hC7.out) hrow5.out (floRow_G.2 hrow6.out) (Keeps.of_below (S := (· = b)) hC7.out) ht s)
  clear hfz hfq hms
  go_upto_region 14 with fail
  go_region
  all_goals
    go_wp2_with fail
    go_ret
    exact ⟨by rw [hr.out]; rfl, by rw [hr.out]; exact hfin.out.1, ⟨hfin.out.2.os, hfin.out.2.tape, hfin.out.2.output, hfin.out.2.size, hfin.out.2.block⟩⟩
end Go.Proofs.YtadnjdchjoechaaGreatDoor

/- A follower's Seq, Time, Head, Entries, Floors: walked. -/
namespace Go.Proofs.YtadnjdchjoechaaGreatDoor
open Go.RowKit

set_option maxRecDepth 100000 in
theorem seq_fol (base b : Nat) (f : Fol) (w : World) (hF : FolAt w base b f) :
    Calls Tryz.prog 28 #[.pointer (some ⟨b, 0, none⟩)] w fun e w' => e = .returned (.int .i64 f.l.length) ∧ Below w.heap.size w w' := by
  obtain ⟨hge, u, v, hbk, hru, hrv⟩ := hF
  obtain ⟨au, cu, hu⟩ := RowG.sl hru
  subst hu
  obtain ⟨⟨k0, k1, k2, k3, k4⟩, hfz⟩ := fol_cells hbk
  clear hru hrv hbk hfz k0 k2 k3 k4
  go_enter Tryz.func28, Tryz.ntmps28
  go_wp2_with fail
  go_ret
  exact ⟨rfl, Below.refl _ _⟩
set_option maxRecDepth 100000 in
theorem time_fol (base b : Nat) (f : Fol) (w : World) (hF : FolAt w base b f) :
    Calls Tryz.prog 16 #[.pointer (some ⟨b, 0, none⟩)] w fun e w' => e = .returned (.int .i64 f.time) ∧ Below w.heap.size w w' := by
  obtain ⟨hge, u, v, hbk, hru, hrv⟩ := hF
  obtain ⟨⟨k0, k1, k2, k3, k4⟩, hfz⟩ := fol_cells hbk
  clear hru hrv hbk hfz k0 k1 k2 k4
  go_enter Tryz.func16, Tryz.ntmps16
  go_wp2_with fail
  go_ret
  exact ⟨rfl, Below.refl _ _⟩
set_option maxRecDepth 100000 in
theorem floors_fol (base b : Nat) (f : Fol) (w : World) (hF : FolAt w base b f) (hl : f.floors.length ≤ 1000) :
    Calls Tryz.prog 19 #[.pointer (some ⟨b, 0, none⟩)] w fun e w' => ∃ v', e = .returned v' ∧ FlRow w' w.heap.size v' f.floors ∧ Below w.heap.size w w' := by
  obtain ⟨hge, u, v, hbk, hru, hrv⟩ := hF
  have hcl := Lib.hid (clone_flo v f.floors w (floorsAt_of (RowG.at_ (floRow_G.1 hrv))) hl)
  obtain ⟨av, cv, hv⟩ := hrv.sl
  subst hv
  obtain ⟨⟨k0, k1, k2, k3, k4⟩, hfz⟩ := fol_cells hbk
  clear hru hrv hbk hfz k0 k1 k3 k4
  go_enter Tryz.func19, Tryz.ntmps19
  go_wp2_with fail
  refine hcl.out.mono ?_
  rintro e w1 ⟨v1, rfl, hr1, hb1⟩
  have hfin := Lib.hid (And.intro hr1 hb1)
  clear hr1 hb1
  go_wp2_with fail
  go_ret
  exact ⟨_, rfl, hfin.out.1, hfin.out.2⟩
end Go.Proofs.YtadnjdchjoechaaGreatDoor

/- A follower's Copy: walked. -/
namespace Go.Proofs.YtadnjdchjoechaaGreatDoor
open Go.RowKit

set_option maxHeartbeats 4000000 in
set_option maxRecDepth 100000 in
theorem copy_fol (base b : Nat) (f : Fol) (w : World) (hF : FolAt w base b f) (hl : f.l.length ≤ 1000) (hfl : f.floors.length ≤ 1000) :
    Calls Tryz.prog 38 #[.pointer (some ⟨b, 0, none⟩)] w fun e w' => ∃ b', e = .returned (.pointer (some ⟨b', 0, none⟩)) ∧ FolAt w' w.heap.size b' f ∧ Below w.heap.size w w' := by
  obtain ⟨hge, u, v, hbk, hru, hrv⟩ := hF
  have hce := Lib.hid (fun wx (hx : Below w.heap.size w wx) => (clone_ent u f.l wx (EntRow.at_ (RowG.below hru hx)) hl).mono (R' := fun e w' => ∃ v', e = .returned v' ∧ EntRow w' w.heap.size v' f.l ∧ Below wx.heap.size wx w') (fun e w' ⟨v', h1, h2, h3⟩ => ⟨v', h1, RowG.mono h2 hx.size, h3⟩))
  have hcf := Lib.hid (fun wx (hx : Below w.heap.size w wx) => (clone_flo v f.floors wx (floorsAt_of (RowG.at_ (RowG.below (floRow_G.1 hrv) hx))) hfl).mono (R' := fun e w' => ∃ v', e = .returned v' ∧ FlRow w' w.heap.size v' f.floors ∧ Below wx.heap.size wx w') (fun e w' ⟨v', h1, h2, h3⟩ => ⟨v', h1, floRow_G.2 (RowG.mono (floRow_G.1 h2) hx.size), h3⟩))
  obtain ⟨au, cu, hu⟩ := RowG.sl hru
  obtain ⟨av, cv, hv⟩ := hrv.sl
  subst hu hv
  obtain ⟨⟨k0, k1, k2, k3, k4⟩, hfz⟩ := fol_cells hbk
  obtain ⟨key, l, fl, time, head⟩ := f
  dsimp only at *
  have hkS := Lib.hid (fun (wx : World) (hx : Below w.heap.size w wx) => (show Below w.heap.size w wx ∧ wx.cell? ⟨b, 0, none⟩ = some (.int .i64 key) ∧ wx.cell? ⟨b, 1, none⟩ = some (.slice au l.length cu) ∧ wx.cell? ⟨b, 2, none⟩ = some (.slice av fl.length cv) ∧ wx.cell? ⟨b, 3, none⟩ = some (.int .i64 time) ∧ wx.cell? ⟨b, 4, none⟩ = some (.string (bs head)) from ⟨hx, cell_below hx k0, cell_below hx k1, cell_below hx k2, cell_below hx k3, cell_below hx k4⟩))
  have hS : Below w.heap.size w w := Below.refl _ _
  clear hru hrv hbk hfz
  go_enter Tryz.func38, Tryz.ntmps38
  go_upto_region 1 with fail
  go_region_held3 (fun w' => Below w.heap.size w w' ∧ w'.cell? ⟨b, 0, none⟩ = some (.int .i64 key) ∧ w'.cell? ⟨b, 1, none⟩ = some (.slice au l.length cu) ∧ w'.cell? ⟨b, 2, none⟩ = some (.slice av fl.length cv) ∧ w'.cell? ⟨b, 3, none⟩ = some (.int .i64 time) ∧ w'.cell? ⟨b, 4, none⟩ = some (.string (bs head)))
    ((refine hkS.out _ ?_; (first | exact hS | exact hS.drew | exact hS.alloc hS.size _ | exact hS.drew.alloc hS.drew.size _)))
    (first | (go_at_call 67; refine (hce.out _ (by (first | exact hS | exact hS.drew))).mono ?_; rintro e w' ⟨v1, rfl, hr1, hb1⟩; have hS : Below w.heap.size w w' := below_trans (by (first | exact hS | exact hS.drew)) hb1; obtain ⟨a1, k1, rfl⟩ := RowG.sl hr1; have hr1 := Lib.hid hr1) | (go_at_call 42; refine (hcf.out _ (by (first | exact hS | exact hS.drew))).mono ?_; rintro e w' ⟨v2, rfl, hr2, hb2⟩; have hS : Below w.heap.size w w' := below_trans (by (first | exact hS | exact hS.drew)) hb2; obtain ⟨a2, k2, rfl⟩ := RowG.sl (floRow_G.1 hr2); have hr2 := Lib.hid hr2; have hr1 := Lib.hid (RowG.below hr1.out hb2)))
  all_goals
    go_wp2_with fail
    go_ret
    exact ⟨_, rfl, ⟨hS.size, _, _, heap_alloc_new _ _, RowG.alloc hr1.out _, floRow_G.2 (RowG.alloc (floRow_G.1 hr2.out) _)⟩, hS.alloc hS.size _⟩
end Go.Proofs.YtadnjdchjoechaaGreatDoor

/- LongEntries, OwnEntries, SameEntries: walked. -/
namespace Go.Proofs.YtadnjdchjoechaaGreatDoor
open Go.RowKit

def longE (L : List Ent) : Bool := (decide (30 < L.length) && !decide (L.length = 60) && !decide (L.length = 61)) || L.any fun e => decide (20 < e.f.who.length)
def longEI (L : List Ent) : Int := if longE L = true then 1 else 0
theorem longE_false {L : List Ent} (h : longE L = false) : L.length ≤ 61 ∧ ∀ e ∈ L, e.f.who.length ≤ 20 := by
  unfold longE at h
  rw [Bool.or_eq_false_iff, List.any_eq_false] at h
  refine ⟨?_, fun f hf => ?_⟩
  · by_cases h1 : 30 < L.length
    · by_cases h2 : L.length = 60
      · omega
      · by_cases h3 : L.length = 61
        · omega
        · have := h.1
          simp [h1, h2, h3] at this
    · omega
  · have := h.2 f hf
    simp at this
    exact this
theorem longE_low {L : List Ent} (h : ¬ (30 < L.length ∧ L.length ≠ 60 ∧ L.length ≠ 61)) : longE L = L.any fun e => decide (20 < e.f.who.length) := by
  unfold longE
  by_cases h1 : 30 < L.length
  · by_cases h2 : L.length = 60
    · simp [h2]
    · by_cases h3 : L.length = 61
      · simp [h3]
      · exact absurd ⟨h1, h2, h3⟩ h
  · simp [h1]
set_option maxHeartbeats 1000000 in
set_option maxRecDepth 100000 in
theorem long_ent (x : Value) (A : List Ent) (w : World) (hx : EntsAt w x A) (hm : ∀ e ∈ A, e.f.who.length ≤ maxLen) :
    Calls Tryz.prog 6 #[x] w fun e w' => e = .returned (.int .i64 (longEI A)) ∧ Below w.heap.size w w' := by
  obtain ⟨a, c, rfl, hml, _, ha⟩ := EntsAt.get hx
  clear hx
  unfold maxLen at hml
  by_cases h80 : 30 < A.length ∧ A.length ≠ 60 ∧ A.length ≠ 61
  · have hr := Lib.hid (show longEI A = 1 by unfold longEI longE; rw [decide_eq_true h80.1, decide_eq_false h80.2.1, decide_eq_false h80.2.2]; rfl)
    obtain ⟨g1, g2, g3⟩ := h80
    have n2 : ((A.length : Int) != 60) = true := by rw [bne_iff_ne]; omega
    have n3 : ((A.length : Int) != 61) = true := by rw [bne_iff_ne]; omega
    clear g2 g3
    go_enter Tryz.func6, Tryz.ntmps6
    go_wp2_with fail
    go_ret
    exact ⟨ret_int hr.out.symm, Below.refl _ _⟩
  · have hr := Lib.hid (longE_low h80)
    have h80H := Lib.hid h80
    clear h80
    go_enter Tryz.func6, Tryz.ntmps6
    have hgo : Hid (¬ (30 < A.length) ∨ (30 < A.length ∧ A.length = 60) ∨ (30 < A.length ∧ A.length = 61)) := Lib.hid (by
      have := h80H.out
      omega)
    rcases hgo.out with g1 | ⟨g1, g2⟩ | ⟨g1, g2⟩
    · have g1i : ¬ ((30 : Int) < (A.length : Int)) := by omega
      clear g1
      go_wp2_with fail
      go_loopw [3] (fun i wr => ∃ j : Nat, j ≤ A.length ∧ i = .int .i64 j ∧ wr = w ∧ ∀ q (h : q < A.length), q < j → ¬ (20 < A[q].f.who.length)) (fun i _ => A.length - (intOf i).toNat)
      case atStart => exact ⟨0, Nat.zero_le _, rfl, rfl, fun q _ h => by omega⟩
      case round =>
        obtain ⟨j, hj, rfl, rfl, hall⟩ := hrel
        have hall := Lib.hid hall
        by_cases hlt : j < A.length
        · obtain ⟨b, o, rfl, d0, d1, h0, d3⟩ := ha j hlt
          clear d0 d1 d3
          have hs0 := bs_size A[j].f.who
          have hmem := List.getElem_mem hlt
          have h4 := hm _ hmem
          unfold maxLen at h4
          by_cases hk : 20 < A[j].f.who.length
          · have hr2 := Lib.hid (show longEI A = 1 by unfold longEI; rw [hr.out, if_pos (by rw [List.any_eq_true]; exact ⟨_, hmem, decide_eq_true hk⟩)])
            clear hmem
            go_wp2
            go_ret
            exact ⟨ret_int hr2.out.symm, Below.refl _ _⟩
          · clear hmem
            have hall2 := Lib.hid (show ∀ q (h : q < A.length), q < j + 1 → ¬ (20 < A[q].f.who.length) from fun q h hq => by
              rcases Nat.lt_succ_iff_lt_or_eq.1 hq with h' | rfl
              · exact hall.out q h h'
              · exact hk)
            go_wp2
            exact ⟨⟨j + 1, by omega, by simp, trivial, hall2.out⟩, by simp [intOf]; omega⟩
        · have hr2 := Lib.hid (show longEI A = 0 by
            unfold longEI
            rw [hr.out, if_neg]
            rw [List.any_eq_true]
            rintro ⟨y, hy, h⟩
            obtain ⟨q, hq, rfl⟩ := List.getElem_of_mem hy
            exact hall.out q hq (by omega) (of_decide_eq_true h))
          go_wp2
          go_ret
          exact ⟨ret_int hr2.out.symm, Below.refl _ _⟩
    · have g1i : (30 : Int) < (A.length : Int) := by omega
      have g2i : ((A.length : Int) != 60) = false := by rw [g2]; rfl
      clear g1 g2
      go_wp2_with fail
      go_loopw [3] (fun i wr => ∃ j : Nat, j ≤ A.length ∧ i = .int .i64 j ∧ wr = w ∧ ∀ q (h : q < A.length), q < j → ¬ (20 < A[q].f.who.length)) (fun i _ => A.length - (intOf i).toNat)
      case atStart => exact ⟨0, Nat.zero_le _, rfl, rfl, fun q _ h => by omega⟩
      case round =>
        obtain ⟨j, hj, rfl, rfl, hall⟩ := hrel
        have hall := Lib.hid hall
        by_cases hlt : j < A.length
        · obtain ⟨b, o, rfl, d0, d1, h0, d3⟩ := ha j hlt
          clear d0 d1 d3
          have hs0 := bs_size A[j].f.who
          have hmem := List.getElem_mem hlt
          have h4 := hm _ hmem
          unfold maxLen at h4
          by_cases hk : 20 < A[j].f.who.length
          · have hr2 := Lib.hid (show longEI A = 1 by unfold longEI; rw [hr.out, if_pos (by rw [List.any_eq_true]; exact ⟨_, hmem, decide_eq_true hk⟩)])
            clear hmem
            go_wp2
            go_ret
            exact ⟨ret_int hr2.out.symm, Below.refl _ _⟩
          · clear hmem
            have hall2 := Lib.hid (show ∀ q (h : q < A.length), q < j + 1 → ¬ (20 < A[q].f.who.length) from fun q h hq => by
              rcases Nat.lt_succ_iff_lt_or_eq.1 hq with h' | rfl
              · exact hall.out q h h'
              · exact hk)
            go_wp2
            exact ⟨⟨j + 1, by omega, by simp, trivial, hall2.out⟩, by simp [intOf]; omega⟩
        · have hr2 := Lib.hid (show longEI A = 0 by
            unfold longEI
            rw [hr.out, if_neg]
            rw [List.any_eq_true]
            rintro ⟨y, hy, h⟩
            obtain ⟨q, hq, rfl⟩ := List.getElem_of_mem hy
            exact hall.out q hq (by omega) (of_decide_eq_true h))
          go_wp2
          go_ret
          exact ⟨ret_int hr2.out.symm, Below.refl _ _⟩
    · have g1i : (30 : Int) < (A.length : Int) := by omega
      have g2i : ((A.length : Int) != 60) = true := by rw [g2]; rfl
      have g3i : ((A.length : Int) != 61) = false := by rw [g2]; rfl
      clear g1 g2
      go_wp2_with fail
      go_loopw [3] (fun i wr => ∃ j : Nat, j ≤ A.length ∧ i = .int .i64 j ∧ wr = w ∧ ∀ q (h : q < A.length), q < j → ¬ (20 < A[q].f.who.length)) (fun i _ => A.length - (intOf i).toNat)
      case atStart => exact ⟨0, Nat.zero_le _, rfl, rfl, fun q _ h => by omega⟩
      case round =>
        obtain ⟨j, hj, rfl, rfl, hall⟩ := hrel
        have hall := Lib.hid hall
        by_cases hlt : j < A.length
        · obtain ⟨b, o, rfl, d0, d1, h0, d3⟩ := ha j hlt
          clear d0 d1 d3
          have hs0 := bs_size A[j].f.who
          have hmem := List.getElem_mem hlt
          have h4 := hm _ hmem
          unfold maxLen at h4
          by_cases hk : 20 < A[j].f.who.length
          · have hr2 := Lib.hid (show longEI A = 1 by unfold longEI; rw [hr.out, if_pos (by rw [List.any_eq_true]; exact ⟨_, hmem, decide_eq_true hk⟩)])
            clear hmem
            go_wp2
            go_ret
            exact ⟨ret_int hr2.out.symm, Below.refl _ _⟩
          · clear hmem
            have hall2 := Lib.hid (show ∀ q (h : q < A.length), q < j + 1 → ¬ (20 < A[q].f.who.length) from fun q h hq => by
              rcases Nat.lt_succ_iff_lt_or_eq.1 hq with h' | rfl
              · exact hall.out q h h'
              · exact hk)
            go_wp2
            exact ⟨⟨j + 1, by omega, by simp, trivial, hall2.out⟩, by simp [intOf]; omega⟩
        · have hr2 := Lib.hid (show longEI A = 0 by
            unfold longEI
            rw [hr.out, if_neg]
            rw [List.any_eq_true]
            rintro ⟨y, hy, h⟩
            obtain ⟨q, hq, rfl⟩ := List.getElem_of_mem hy
            exact hall.out q hq (by omega) (of_decide_eq_true h))
          go_wp2
          go_ret
          exact ⟨ret_int hr2.out.symm, Below.refl _ _⟩
set_option maxRecDepth 100000 in
theorem own_ent (v : Value) (F : List Ent) (w : World) (hv : EntsAt w v F) (hl : F.length ≤ 1000) :
    Calls Tryz.prog 22 #[v] w fun e w' => ∃ v', e = .returned v' ∧ EntRow w' w.heap.size v' F ∧ Below w.heap.size w w' := by
  have hvH := Lib.hid hv
  obtain ⟨a, c, rfl⟩ := EntsAt.sl hv
  clear hv
  go_enter Tryz.func22, Tryz.ntmps22
  go_wp2_with (at_builtin; refine wpList_appG entC _ rfl _ _ 22 rfl 75 (.agg #[.int .i64 0, .int .i64 0, .string ⟨#[]⟩, .int .i64 0]) 40 Tryz.underlying22 info_ent rfl (by decide) w.heap.size _ [] rfl (RowG.nil _ _ _) _ F rfl hvH.out (by simp; omega) (Nat.le_refl _) ?_)
  intro v6 w6 hown6 hb6 _ _
  have hfin := Lib.hid (show EntRow w6 w.heap.size v6 F ∧ Below w.heap.size w w6 from And.intro hown6 hb6)
  obtain ⟨a6, c6, hv6⟩ := hown6.sl
  subst hv6
  clear hown6 hb6
  go_wp2_with fail
  go_ret
  exact ⟨_, rfl, hfin.out.1, hfin.out.2⟩
end Go.Proofs.YtadnjdchjoechaaGreatDoor
