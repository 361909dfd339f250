/- RrlD, RrlF, TickR -/
import Derived.Test.YtkhphdkjnpcnnaaGreatDoorMg35
import Derived.Test.YtkhphdkjnpcnnaaGreatDoorMg10
import Derived.Test.YtkhphdkjnpcnnaaGreatDoorMg25
import Derived.Test.YtkhphdkjnpcnnaaGreatDoorMg24
import Derived.StillTailTactics
import Derived.Test.YtkhphdkjnpcnnaaGreatDoorMg14
import Derived.Test.YtkhphdkjnpcnnaaGreatDoorMg15
import Derived.Test.YtkhphdkjnpcnnaaGreatDoorMg8
/- The reference's Flush, Add: walked. -/
namespace Go.Proofs.YtkhphdkjnpcnnaaGreatDoor set_option linter.unusedVariables false set_option linter.unusedSimpArgs false
open Go.RowKit

set_option maxHeartbeats 4000000 in
set_option maxRecDepth 100000 in
theorem flushRR_any {base m b : Nat} {R : Rlm} (w : World) (hR : RRlmAt w base m b R) (hG : GoodM R) :
    Calls Tryz.prog 44 #[.pointer (some ⟨m, 0, none⟩)] w (RChgPost base m w (flushM R)) := by
  obtain ⟨al, cl, ⟨_, _, _, _, c4, _⟩, _, _⟩ := hR.cells
  generalize hres : flushM R = res
  have hres := Lib.hid hres
  have hcp := Lib.hid (copyRB_any R.b w hR.book hG.b.many)
  have hge := hR.ge
  have hlt := hR.lt
  have hRw := Lib.hid (fun wx (hx : Below w.heap.size w wx) => hR.below hx)
  have hS := hG.b.sorted
  have hMn := hG.b.many
  have hEp := hG.b.epoch
  have hfc := Lib.hid (show (checkE R.l).1 = 0 by rw [hG.f])
  have hq := Lib.hid (show flushM R = if 1073741824 ≤ maxE R.b then (0, 2, R) else changeM R starW (maxE R.b + 1) (flushB R.b) from rfl)
  have hfl : flushB R.b = mixB R.b R.b.length (maxE R.b + 1) := (mixB_all R.b _).symm
  have hnn := maxE_nonneg R.b
  have hbd := maxE_bd R.b (fun p hp => (hEp p hp).2)
  clear hR hG
  go_enter Tryz.func44, Tryz.ntmps44
  go_wp2_with fail
  refine hcp.out.mono ?_
  rintro e w1 ⟨b2, rfl, hB1, hb1⟩
  have hb1 := Lib.hid hb1
  have hB1H := Lib.hid hB1
  obtain ⟨a1, c1, e0, _⟩ := hB1.slice
  clear hB1 hcp c4
  go_wp2_with fail
  go_loopg [5, 6] (R.b.length + 1) (fun g v5 i wr => ∃ (j : Nat), i = .int .i64 j ∧ v5 = .int .i64 (maxE (R.b.take j)) ∧ j ≤ R.b.length ∧ R.b.length - j + 1 ≤ g ∧ wr = w1)
  case atStart => exact ⟨0, rfl, rfl, Nat.zero_le _, by omega, rfl⟩
  case round =>
    obtain ⟨j, rfl, rfl, hj, hgj, rfl⟩ := hrel
    by_cases hltj : j < R.b.length
    · have hk0 : (0 : Int) ≤ (j : Int) := by omega
      have hk1 : (j : Int) < (R.b.length : Int) := by omega
      obtain ⟨g, c, hc, hgb, ⟨_, _, d2, _⟩, _, _, _, _⟩ := hB1H.out.cells hltj
      rw [e0] at hc
      cases hc
      have hmt := maxE_take hltj
      by_cases hgt : maxE (R.b.take j) < R.b[j].epoch
      · have hmt2 : maxE (R.b.take (j + 1)) = R.b[j].epoch := by rw [hmt]; omega
        clear hmt
        go_wp2_with fail
        go_roundg (R.b.length - j)
        case measure => omega
        case rel => exact ⟨j + 1, by simp, by rw [hmt2], hltj, by omega, rfl⟩
      · have hmt2 : maxE (R.b.take (j + 1)) = maxE (R.b.take j) := by rw [hmt]; omega
        clear hmt
        go_wp2_with fail
        go_roundg (R.b.length - j)
        case measure => omega
        case rel => exact ⟨j + 1, by simp, by rw [hmt2], hltj, by omega, rfl⟩
    · have hge2 : ¬ ((j : Int) < (R.b.length : Int)) := by omega
      have hj2 : j = R.b.length := by omega
      subst hj2
      rw [List.take_length]
      by_cases hx : 1073741824 ≤ maxE R.b
      · have hr := Lib.hid (show res = (0, 2, R) by rw [← hres.out, hq.out, if_pos hx])
        have hfin := Lib.hid (show (∃ b', RRlmAt wr base m b' R) ∧ Keeps (RRlmS base w) w wr from ⟨⟨_, hRw.out _ hb1.out⟩, Keeps.of_below hb1.out⟩)
        go_wp2_with fail
        go_ret2
        exact .mk hr.out rfl hfin.out
      · have hr : changeM R starW (maxE R.b + 1) (flushB R.b) = res := by rw [← hres.out, hq.out, if_neg hx]
        go_wp2_with fail
        go_loopg [7] (R.b.length + 1) (fun g i wy => ∃ (j : Nat), i = .int .i64 j ∧ j ≤ R.b.length ∧ R.b.length - j + 1 ≤ g ∧ Hid (Keeps (RefS w.heap.size wr) wr wy) ∧ Hid (RefAt wy w.heap.size b2 (mixB R.b j (maxE R.b + 1))))
        case atStart => exact ⟨0, rfl, Nat.zero_le _, by omega, Lib.hid (Keeps.refl _ _), by rw [mixB_zero]; exact hB1H⟩
        case round =>
          obtain ⟨j, rfl, hj, hgj, hK, hB⟩ := hrel
          have hml := mixB_len R.b j (maxE R.b + 1)
          by_cases hltj : j < R.b.length
          · have hk0 : (0 : Int) ≤ (j : Int) := by omega
            have hk1 : (j : Int) < (R.b.length : Int) := by omega
            obtain ⟨g, c, hc, hgb, ⟨_, _, d2, _⟩, hfz, hSg, hset, hown⟩ := hB.out.cells (k := j) (by rw [hml]; exact hltj)
            rw [hml] at hc
            have hfz := hfz (j * 4 + 2)
            have hfin : RefAt (wr.setCell ⟨g, j * 4 + 2, none⟩ (.int .i64 (maxE R.b + 1))) w.heap.size b2 (mixB R.b (j + 1) (maxE R.b + 1)) := by
              have hs := hset { (mixB R.b j (maxE R.b + 1))[j] with epoch := maxE R.b + 1 } rfl _ (by rw [← (flatP_set (mixB R.b j (maxE R.b + 1)) j (by rw [hml]; exact hltj)).2.1 (maxE R.b + 1)]; exact ownsRow_setCell hown _ _) (keeps_setCell _ _ _ hSg) (heap_setCell_other _ _ _ _ (Ne.symm hgb))
              rw [mixB_at hltj, mixB_set hltj] at hs
              exact hs
            have hfin := Lib.hid hfin
            have hkx := Lib.hid (keepsR_trans hK.out (keeps_setCell _ ⟨g, j * 4 + 2, none⟩ (.int .i64 (maxE R.b + 1)) hSg))
            clear hset hown hSg
            go_wp2_with fail
            go_roundg (R.b.length - j)
            case measure => omega
            case rel => exact ⟨j + 1, by simp, hltj, by omega, hkx, hfin⟩
          · have hge3 : ¬ ((j : Int) < (R.b.length : Int)) := by omega
            have hj2 : j = R.b.length := by omega
            subst hj2
            obtain ⟨a2, c2, e2, _⟩ := hB.out.slice
            rw [hml] at e2
            have hK2 := Lib.hid (hb1.out.trans (refS_below hK.out hb1.out.size))
            have hen := Lib.hid (entered_any (base := base) starW (maxE R.b + 1) _ (hRw.out _ hK2.out) (hB.out.mono (show base ≤ w.heap.size by omega)) hfc.out (by decide))
            rw [← hfl, hr] at hen
            go_wp2_with fail
            refine hen.out.mono ?_
            rintro e w3 ⟨⟨rfl, h1, h2⟩, _⟩
            have hfin := Lib.hid (show (∃ b', RRlmAt w3 base m b' res.2.2) ∧ Keeps (RRlmS base w) w w3 from ⟨h1, keepsM_below hK2.out h2⟩)
            clear h1 h2
            go_wp2_with fail
            go_ret2
            exact ⟨rfl, hfin.out⟩
end Go.Proofs.YtkhphdkjnpcnnaaGreatDoor

/- The reference's Add: walked. -/
namespace Go.Proofs.YtkhphdkjnpcnnaaGreatDoor set_option linter.unusedVariables false set_option linter.unusedSimpArgs false
open Go.RowKit

theorem RRlmAt.off_ent {w : World} {base m b : Nat} {vl : Value} {L : List Ent} (h2 : RowG entC w base 115 vl L) : ∀ g, vl.ownBlock = some g → ¬ RefS base w g := fun g hg => by
  rintro ⟨_, cs, T, z, h3, h4⟩
  obtain ⟨_, cs', h5⟩ := h2.block hg
  rw [h5] at h3
  injection h3 with h3
  injection h3 with _ h3 _
  subst h3
  revert h4
  decide
set_option maxHeartbeats 4000000 in
set_option maxRecDepth 100000 in
theorem addRR_any {base m b : Nat} {R : Rlm} (n : List UInt8) (k : Int) (w : World) (hR : RRlmAt w base m b R) (hG : GoodM R) (hn : n.length ≤ maxLen) :
    Calls Tryz.prog 36 #[.pointer (some ⟨m, 0, none⟩), .string (bs n), .int .i64 k] w fun e w' => e = .returned (.int .i64 ((addM R n k).1 : Nat)) ∧ RRlmAt w' base m b (addM R n k).2 ∧ Keeps (RRlmS base w) w w' := by
  obtain ⟨al, cl, ⟨_, _, _, _, c4, c5⟩, _, hrow⟩ := hR.cells
  have had := Lib.hid (addR_any base b R.b n k w hR.book hn hG.b.many)
  generalize hres : addM R n k = res
  have hres := Lib.hid hres
  have hbk := Lib.hid (fun w' B (hk : Keeps (RefS base w) w w') (hB : RefAt w' base b B) => (show RRlmAt w' base m b { R with b := B } ∧ Keeps (RRlmS base w) w w' from ⟨hR.book' hk hB, keepsM_of hk⟩))
  have hrw := Lib.hid (fun w' (hk : Keeps (RefS base w) w w') => hrow.keeps hk (RRlmAt.off_ent (m := m) (b := b) hrow))
  have hcw := Lib.hid (fun w' (hk : Keeps (RefS base w) w w') => (show w'.cell? ⟨m, 4, none⟩ = some (.pointer (some ⟨b, 0, none⟩)) ∧ w'.cell? ⟨m, 5, none⟩ = some (.slice al R.l.length cl) from ⟨hk.cell c4 hR.off_book, hk.cell c5 hR.off_book⟩))
  have hlen := hrow.at_.len
  have hS := hG.b.sorted
  have hMn := hG.b.many
  have hinc := Lib.hid hG.inc
  obtain ⟨rk, rl, rt, rs, rb, rL⟩ := R
  dsimp only at *
  clear hR hG hrow
  unfold maxLen at hlen
  by_cases hc0 : (addOf rb n k).1 = 0
  case neg =>
    have hr := hres.out
    unfold addM at hr
    rw [if_pos hc0] at hr
    subst hr
    dsimp only at *
    rw [addOf_bad hc0] at had
    have hz : (0 : Int) < ((addOf rb n k).1 : Nat) := by omega
    generalize hzd : (((addOf rb n k).1 : Nat) : Int) = zi at *
    have hzd := Lib.hid hzd
    clear hres hc0 c5 hcw
    go_enter Tryz.func36, Tryz.ntmps36
    go_wp2_with fail
    refine had.out.mono ?_
    rintro e w1 ⟨rfl, hk, hB⟩
    have hfin := Lib.hid (hbk.out _ _ hk hB)
    clear hk hB
    go_wp2_with fail
    go_ret
    exact ⟨rfl, hfin.out⟩
  obtain ⟨_, _, hfn, hlt20, heq⟩ := addOf_some hc0
  have hr := hres.out
  unfold addM at hr
  rw [if_neg (by simpa using hc0)] at hr
  subst hr
  dsimp only at *
  rw [heq] at had
  dsimp only at had
  clear hres hc0 heq
  have hins := insP_find (p := ⟨n, k, 1, false⟩) hS hfn
  have hlenB : (insP ⟨n, k, 1, false⟩ rb).length = rb.length + 1 := by rw [(insP_perm _ rb).length_eq]; rfl
  have hsB := insP_sorted ⟨n, k, 1, false⟩ rb hS (findP_none hfn)
  have hset := fun e : Int => insP_set ⟨n, k, 1, false⟩ ⟨n, k, e, false⟩ rfl rb (findP_none hfn)
  generalize insP ⟨n, k, 1, false⟩ rb = B0 at *
  cases hi : idxP B0 n with
  | none => rw [show findP B0 n = none from (idxP_none hi).1] at hins; cases hins
  | some q =>
    obtain ⟨hq, hfp, hnm⟩ := idxP_some hi
    have hat : B0[q] = ⟨n, k, 1, false⟩ := Option.some.inj (hfp.symm.trans hins)
    have hend := fun e : Int => (setP_set hsB hq ⟨n, k, e, false⟩ (by rw [hat])).symm.trans (hset e)
    have hst : B0.set q ⟨n, k, 1, false⟩ = B0 := by rw [← hat]; exact List.set_getElem_self hq
    have hfi := Lib.hid (fun wx (hx : RefAt wx base b B0) => findR_any base b B0 n wx hx (by omega))
    rw [findIx_some hi] at hfi
    have hendH := Lib.hid hend
    clear hfp hnm hins hsB hset hi hend hlenB
    go_enter Tryz.func36, Tryz.ntmps36
    go_wp2_with fail
    refine had.out.mono ?_
    rintro e w1 ⟨rfl, hk, hB⟩
    have hfi := Lib.hid (hfi.out _ hB)
    have hkH := Lib.hid hk
    have hBH := Lib.hid hB
    obtain ⟨c4, c5⟩ := hcw.out _ hk
    clear hk hB had
    go_wp2_with fail
    refine hfi.out.mono ?_
    rintro e w2 ⟨rfl, hb2⟩
    have hk2 := Lib.hid (hkH.out.trans (Keeps.of_below hb2))
    have hB2 := Lib.hid (hBH.out.below hb2)
    clear hb2 c4 c5 hfi
    go_wp2_with fail
    go_loopg [9] (rL.length + 1) (fun g i wr => ∃ (j : Nat), i = .int .i64 j ∧ j ≤ rL.length ∧ rL.length - j + 1 ≤ g ∧ Hid (Keeps (RefS base w) w wr) ∧ Hid (RefAt wr base b (B0.set q ⟨n, k, starE (rL.take j), false⟩)))
    case atStart => exact ⟨0, rfl, Nat.zero_le _, by omega, hk2, by rw [show starE (rL.take 0) = 1 from rfl, hst]; exact hB2⟩
    case round =>
      obtain ⟨j, rfl, hj, hgj, hK, hB⟩ := hrel
      obtain ⟨c4, c5⟩ := hcw.out _ hK.out
      by_cases hlt : j < rL.length
      · have hk0 : (0 : Int) ≤ (j : Int) := by omega
        have hk1 : (j : Int) < (rL.length : Int) := by omega
        obtain ⟨ax, cx, he, _, _, _, hc⟩ := RowG.at_ (hrw.out _ hK.out)
        cases he
        obtain ⟨bb, o, hee, hcs⟩ := hc j hlt
        subst hee
        have d2 : wr.cell? ⟨bb, o + j * 4 + 2, none⟩ = some (.string (bs rL[j].f.who)) := hcs 2 _ rfl
        have d3 : wr.cell? ⟨bb, o + j * 4 + 3, none⟩ = some (.int .i64 rL[j].f.ep) := hcs 3 _ rfl
        clear hcs hc
        have hnx := starE_next hlt
        by_cases hw : rL[j].f.who = starW
        · rw [if_pos hw] at hnx
          have hse : ((bs rL[j].f.who).toList == [42]) = true := by rw [toList_data, bs_list, hw]; rfl
          have hi2 := hinc.out j hlt hw
          try dsimp only at hi2
          rw [show max (starE (rL.take j)) rL[j].f.ep = rL[j].f.ep by omega] at hnx
          have hlq : q < (B0.set q ⟨n, k, starE (rL.take j), false⟩).length := by rw [List.length_set]; exact hq
          obtain ⟨g, c, hc, hgb, _, hfz, hSg, hset, hown⟩ := hB.out.cells (k := q) hlq
          rw [List.length_set] at hc
          have hfz := hfz (q * 4 + 2)
          have hq0 : (0 : Int) ≤ (q : Int) := by omega
          have hq1 : (q : Int) < (B0.length : Int) := by omega
          have hfin : RefAt (wr.setCell ⟨g, q * 4 + 2, none⟩ (.int .i64 rL[j].f.ep)) base b (B0.set q ⟨n, k, starE (rL.take (j + 1)), false⟩) := by
            have hs := hset { (B0.set q ⟨n, k, starE (rL.take j), false⟩)[q] with epoch := rL[j].f.ep } rfl _ (by rw [← (flatP_set (B0.set q ⟨n, k, starE (rL.take j), false⟩) q hlq).2.1 rL[j].f.ep]; exact ownsRow_setCell hown _ _) (keeps_setCell _ _ _ hSg) (heap_setCell_other _ _ _ _ (Ne.symm hgb))
            rw [List.getElem_set_self, List.set_set] at hs
            rw [hnx]
            exact hs
          have hfin := Lib.hid (show RefAt (wr.drew.setCell ⟨g, q * 4 + 2, none⟩ (.int .i64 rL[j].f.ep)) base b (B0.set q ⟨n, k, starE (rL.take (j + 1)), false⟩) ∧ Keeps (RefS base w) w (wr.drew.setCell ⟨g, q * 4 + 2, none⟩ (.int .i64 rL[j].f.ep)) from ⟨hfin.below ((Below.refl _ _).drew), keepsR_trans (hK.out.trans (Keeps.of_below (Below.refl _ _).drew)) (keeps_setCell _ ⟨g, q * 4 + 2, none⟩ (.int .i64 rL[j].f.ep) hSg)⟩)
          clear hset hown hSg hnx hi2 hw
          go_wp2_with fail
          go_still_tail 19, (by kernel_rfl)
          first | (change wpStill _ _ (World.drew _) _ _ _; repeat still_step; try refine wpStill_nil ?_) | skip
          change wpList _ _ _ _ _ (World.drew _)
          go_wp2_with fail
          go_roundg (rL.length - j)
          case measure => omega
          case rel => exact ⟨j + 1, by simp, hlt, by omega, Lib.hid hfin.out.2, Lib.hid hfin.out.1⟩
        · rw [if_neg hw] at hnx
          have hse : ((bs rL[j].f.who).toList == [42]) = false := by
            rw [toList_data, bs_list]
            exact beq_eq_false_iff_ne.2 hw
          have hfin := Lib.hid (show RefAt wr base b (B0.set q ⟨n, k, starE (rL.take (j + 1)), false⟩) by rw [hnx]; exact hB.out)
          clear hnx hw
          go_wp2_with fail
          go_roundg (rL.length - j)
          case measure => omega
          case rel => exact ⟨j + 1, by simp, hlt, by omega, hK, hfin⟩
      · have hge : ¬ ((j : Int) < (rL.length : Int)) := by omega
        have hj2 : j = rL.length := by omega
        subst hj2
        have hB := hB.out
        rw [List.take_length, hendH.out] at hB
        have hfin := Lib.hid (hbk.out _ _ hK.out hB)
        clear hB
        go_wp2_with fail
        go_ret
        exact ⟨rfl, hfin.out⟩
end Go.Proofs.YtkhphdkjnpcnnaaGreatDoor

/- The reference's tickets: TicketError, GoodError, RenewOf. -/
namespace Go.Proofs.YtkhphdkjnpcnnaaGreatDoor set_option linter.unusedVariables false set_option linter.unusedSimpArgs false
open Go.RowKit

theorem tickErr_two {t : Tick} (h1 : isName t.who = true) (h2 : isName t.svc = true) (h : ¬ ((1 ≤ t.epoch ∧ t.epoch ≤ 1073741824) ∧ (1 ≤ t.serial ∧ t.serial ≤ 1073741824) ∧ (0 ≤ t.beg ∧ t.beg ≤ 1000000) ∧ t.beg ≤ t.fin ∧ t.fin ≤ 1000000)) : tickErr t = 2 := by
  unfold tickErr
  rw [h1, h2]
  rw [if_pos (show (true && true) = true from rfl), if_neg]
  exact fun e => h ((tickNum_iff t).1 e)
theorem tickErr_ok {t : Tick} (h1 : isName t.who = true) (h2 : isName t.svc = true) (h : (1 ≤ t.epoch ∧ t.epoch ≤ 1073741824) ∧ (1 ≤ t.serial ∧ t.serial ≤ 1073741824) ∧ (0 ≤ t.beg ∧ t.beg ≤ 1000000) ∧ t.beg ≤ t.fin ∧ t.fin ≤ 1000000) : tickErr t = 0 := by
  unfold tickErr
  rw [h1, h2]
  rw [if_pos (show (true && true) = true from rfl), if_pos ((tickNum_iff t).2 h)]
theorem tickErr_four {t : Tick} (h : isName t.who = false ∨ isName t.svc = false) : tickErr t = 4 := by
  unfold tickErr
  rw [if_neg]
  rcases h with h | h
  · rw [h]; simp
  · rw [h]; simp
set_option maxHeartbeats 1000000 in
set_option maxRecDepth 100000 in
theorem errR_tick (t : Tick) (w : World) (hl : TickLen t) :
    Calls Tryz.prog 122 #[t.val] w fun e w' => e = .returned (.int .i64 (tickErr t : Nat)) ∧ Below w.heap.size w w' := by
  have hB : Below w.heap.size w (w.alloc (.cells t.cells 51)) := (Below.refl _ _).alloc (Nat.le_refl _) _
  have hnw := fun wx => isNameR_any (bs t.who) wx (by rw [bs_size]; exact hl.1)
  have hns := fun wx => isNameR_any (bs t.svc) wx (by rw [bs_size]; exact hl.2)
  rw [bs_list] at hnw hns
  have h4 := @tickErr_four t
  have h2 := @tickErr_two t
  have h0 := @tickErr_ok t
  generalize tickErr t = r at *
  obtain ⟨who, svc, ep, bg, fn, sr⟩ := t
  dsimp only [Tick.val, Tick.cells] at *
  have hcs := Lib.hid (tick_kept (Below.refl _ _) (heap_alloc_new w (.cells #[.string (bs who), .string (bs svc), .int .i64 ep, .int .i64 bg, .int .i64 fn, .int .i64 sr] 51)))
  cases ha : isName who with
  | false =>
    have hr := Lib.hid (h4 (.inl ha))
    rw [ha] at hnw
    have hnwH := Lib.hid hnw
    have hnsH := Lib.hid hns
    clear h4 h2 h0 ha hnw hns
    cases hb : isName svc
    all_goals
      rw [hb] at hnsH
      clear hb
      obtain ⟨⟨c0, c1, c2, c3, c4, c5⟩, _⟩ := hcs.out
      go_enter Tryz.func122, Tryz.ntmps122
      go_wp2_with fail
      refine (hnwH.out _).mono ?_
      rintro e w' ⟨rfl, rfl⟩
      go_wp2_with fail
      refine (hnsH.out _).mono ?_
      rintro e w' ⟨rfl, rfl⟩
      go_wp2_with fail
      go_ret
      exact ⟨by rw [hr.out]; rfl, hB⟩
  | true =>
  rw [ha] at hnw
  have hnwH := Lib.hid hnw
  clear hnw
  cases hb : isName svc with
  | false =>
    have hr := Lib.hid (h4 (.inr hb))
    rw [hb] at hns
    have hnsH := Lib.hid hns
    clear h4 h2 h0 ha hb hns
    obtain ⟨⟨c0, c1, c2, c3, c4, c5⟩, _⟩ := hcs.out
    go_enter Tryz.func122, Tryz.ntmps122
    go_wp2_with fail
    refine (hnwH.out _).mono ?_
    rintro e w' ⟨rfl, rfl⟩
    go_wp2_with fail
    refine (hnsH.out _).mono ?_
    rintro e w' ⟨rfl, rfl⟩
    go_wp2_with fail
    go_ret
    exact ⟨by rw [hr.out]; rfl, hB⟩
  | true =>
  rw [hb] at hns
  have hnsH := Lib.hid hns
  have h2H := Lib.hid (h2 ha hb)
  have h0H := Lib.hid (h0 ha hb)
  clear h4 h2 h0 ha hb hns
  have hcase : ep < 1 ∨ (1 ≤ ep ∧ 1073741824 < ep) ∨ (1 ≤ ep ∧ ep ≤ 1073741824 ∧ sr < 1) ∨ (1 ≤ ep ∧ ep ≤ 1073741824 ∧ 1 ≤ sr ∧ 1073741824 < sr) ∨ (1 ≤ ep ∧ ep ≤ 1073741824 ∧ 1 ≤ sr ∧ sr ≤ 1073741824 ∧ bg < 0) ∨ (1 ≤ ep ∧ ep ≤ 1073741824 ∧ 1 ≤ sr ∧ sr ≤ 1073741824 ∧ 0 ≤ bg ∧ 1000000 < bg) ∨ (1 ≤ ep ∧ ep ≤ 1073741824 ∧ 1 ≤ sr ∧ sr ≤ 1073741824 ∧ 0 ≤ bg ∧ bg ≤ 1000000 ∧ fn < bg) ∨ (1 ≤ ep ∧ ep ≤ 1073741824 ∧ 1 ≤ sr ∧ sr ≤ 1073741824 ∧ 0 ≤ bg ∧ bg ≤ 1000000 ∧ bg ≤ fn ∧ 1000000 < fn) ∨ (1 ≤ ep ∧ ep ≤ 1073741824 ∧ 1 ≤ sr ∧ sr ≤ 1073741824 ∧ 0 ≤ bg ∧ bg ≤ 1000000 ∧ bg ≤ fn ∧ fn ≤ 1000000) := by omega
  rcases hcase with x1 | ⟨x1, x2⟩ | ⟨x1, x2, x3⟩ | ⟨x1, x2, x3, x4⟩ | ⟨x1, x2, x3, x4, x5⟩ | ⟨x1, x2, x3, x4, x5, x6⟩ | ⟨x1, x2, x3, x4, x5, x6, x7⟩ | ⟨x1, x2, x3, x4, x5, x6, x7, x8⟩ | ⟨x1, x2, x3, x4, x5, x6, x7, x8⟩
  all_goals
    have hr : Hid (r = 2) ∨ Hid (r = 0) := by first | exact .inl (Lib.hid (h2H.out (by omega))) | exact .inr (Lib.hid (h0H.out (by omega)))
    obtain ⟨⟨c0, c1, c2, c3, c4, c5⟩, _⟩ := hcs.out
    go_enter Tryz.func122, Tryz.ntmps122
    go_wp2_with fail
    refine (hnwH.out _).mono ?_
    rintro e w' ⟨rfl, rfl⟩
    go_wp2_with fail
    refine (hnsH.out _).mono ?_
    rintro e w' ⟨rfl, rfl⟩
    go_wp2_with fail
    go_ret
    refine ⟨?_, hB⟩
    rcases hr with hr | hr
    all_goals first | (rw [hr.out]; rfl) | (exfalso; first | (have := h0H.out (by omega); have := hr.out; omega) | (have := h2H.out (by omega); have := hr.out; omega))

set_option maxRecDepth 100000 in
theorem goodR_tick (t : Tick) (now : Int) (w : World) (hl : TickLen t) :
    Calls Tryz.prog 125 #[t.val, .int .i64 now] w fun e w' => e = .returned (.int .i64 (goodT t now : Nat)) ∧ Below w.heap.size w w' := by
  have hB : Below w.heap.size w (w.alloc (.cells t.cells 51)) := (Below.refl _ _).alloc (Nat.le_refl _) _
  have hbt := Lib.hid (heap_alloc_new w (.cells t.cells 51))
  have hck := Lib.hid (errR_tick t (w.alloc (.cells t.cells 51)) hl)
  have hgd : goodT t now = if tickErr t = 0 then (if 0 ≤ now ∧ now ≤ 1000000 then (if now < t.beg then 11 else if t.fin ≤ now then 12 else 0) else 2) else tickErr t := rfl
  generalize tickErr t = c at *
  obtain ⟨who, svc, ep, bg, fn, sr⟩ := t
  dsimp only [Tick.val, Tick.cells] at *
  cases c with
  | succ c =>
    have hr := Lib.hid (hgd.trans (if_neg (Nat.succ_ne_zero c)))
    clear hgd
    go_enter Tryz.func125, Tryz.ntmps125
    go_wp2_with fail
    refine hck.out.mono ?_
    rintro e w1 ⟨rfl, hb⟩
    have hbH := Lib.hid (below_trans hB hb)
    clear hb
    go_wp2_with fail
    go_ret
    exact ⟨by rw [hr.out]; rfl, hbH.out⟩
  | zero =>
  have hgdH := Lib.hid (hgd.trans (if_pos rfl))
  clear hgd
  have hcase : now < 0 ∨ (0 ≤ now ∧ 1000000 < now) ∨ (0 ≤ now ∧ now ≤ 1000000 ∧ now < bg) ∨ (0 ≤ now ∧ now ≤ 1000000 ∧ bg ≤ now ∧ fn ≤ now) ∨ (0 ≤ now ∧ now ≤ 1000000 ∧ bg ≤ now ∧ now < fn) := by omega
  rcases hcase with x1 | ⟨x1, x2⟩ | ⟨x1, x2, x3⟩ | ⟨x1, x2, x3, x4⟩ | ⟨x1, x2, x3, x4⟩
  all_goals
    go_enter Tryz.func125, Tryz.ntmps125
    go_wp2_with fail
    refine hck.out.mono ?_
    rintro e w1 ⟨rfl, hb⟩
    obtain ⟨⟨c0, c1, c2, c3, c4, c5⟩, _⟩ := tick_kept hb hbt.out
    have hbH := Lib.hid (below_trans hB hb)
    clear hb
    go_wp2_with fail
    go_ret
    refine ⟨?_, hbH.out⟩
    have e := hgdH.out
    first
      | (rw [e, if_neg (by omega)]; rfl)
      | (rw [e, if_pos (by omega), if_pos (by omega)]; rfl)
      | (rw [e, if_pos (by omega), if_neg (by omega), if_pos (by omega)]; rfl)
      | (rw [e, if_pos (by omega), if_neg (by omega), if_neg (by omega)]; rfl)

theorem row_set2b {w : World} {n : Nat} {u0 u1 u2 u3 u4 u5 : Value} {T : TypeId} (h : w.heap[n]? = some (.cells #[u0, u1, u2, u3, u4, u5] T (0, 0))) (v3 v5 : Value) :
    ((w.setCell ⟨n, 3, none⟩ v3).setCell ⟨n, 5, none⟩ v5).heap[n]? = some (.cells #[u0, u1, u2, v3, u4, v5] T (0, 0)) := by
  have h3 := heap_setCell_same _ n 3 _ _ v3 h
  exact heap_setCell_same _ n 5 _ _ v5 h3
theorem row_other2b {w : World} {n m : Nat} {o : Obj} (h : w.heap[m]? = some o) (hne : m ≠ n) (v3 v5 : Value) :
    ((w.setCell ⟨n, 3, none⟩ v3).setCell ⟨n, 5, none⟩ v5).heap[m]? = some o := by
  rw [heap_setCell_other _ _ _ _ hne, heap_setCell_other _ _ _ _ hne]
  exact h
theorem below_set2b {B : Nat} {a w : World} (h : Below B a w) {n : Nat} (hn : B ≤ n) (v3 v5 : Value) :
    Below B a ((w.setCell ⟨n, 3, none⟩ v3).setCell ⟨n, 5, none⟩ v5) := (h.setCell hn _).setCell hn _
set_option maxHeartbeats 1000000 in
set_option maxRecDepth 100000 in
theorem renewR_tick (t : Tick) (now til serial : Int) (w : World) (hl : TickLen t) :
    Calls Tryz.prog 84 #[t.val, .int .i64 now, .int .i64 til, .int .i64 serial] w fun e w' => e = .returned (.tuple #[(renewT t now til serial).1.val, .int .i64 ((renewT t now til serial).2 : Nat)]) ∧ Below w.heap.size w w' := by
  have hB : Below w.heap.size w ((w.alloc (.cells t.cells 51)).alloc (.cells noTick.cells 51)) := ((Below.refl _ _).alloc (Nat.le_refl _) _).alloc (by simp) _
  have hgt := Lib.hid (goodR_tick t now ((w.alloc (.cells t.cells 51)).alloc (.cells noTick.cells 51)) hl)
  have hck := Lib.hid (fun wx => errR_tick (renewed t now til serial) wx hl)
  have hrn : renewT t now til serial = if goodT t now = 0 then (if tickErr (renewed t now til serial) = 0 then (renewed t now til serial, 0) else (noTick, tickErr (renewed t now til serial))) else (noTick, goodT t now) := rfl
  generalize goodT t now = c at *
  generalize tickErr (renewed t now til serial) = d at *
  obtain ⟨who, svc, ep, bg, fn, sr⟩ := t
  dsimp only [Tick.val, Tick.cells, noTick, renewed] at *
  rw [show bs [] = (⟨#[]⟩ : ByteArray) from rfl] at *
  have hbt := box_at w #[.string (bs who), .string (bs svc), .int .i64 ep, .int .i64 bg, .int .i64 fn, .int .i64 sr] 51 (.cells #[.string ⟨#[]⟩, .string ⟨#[]⟩, .int .i64 0, .int .i64 0, .int .i64 0, .int .i64 0] 51)
  have hbr := box_new w #[.string ⟨#[]⟩, .string ⟨#[]⟩, .int .i64 0, .int .i64 0, .int .i64 0, .int .i64 0] 51 (.cells #[.string (bs who), .string (bs svc), .int .i64 ep, .int .i64 bg, .int .i64 fn, .int .i64 sr] 51)
  have hbt := Lib.hid hbt
  have hbr := Lib.hid hbr
  cases c with
  | succ c =>
    have hr := Lib.hid (hrn.trans (if_neg (Nat.succ_ne_zero c)))
    clear hrn hck
    go_enter Tryz.func84, Tryz.ntmps84
    go_wp2_with fail
    refine hgt.out.mono ?_
    rintro e w1 ⟨rfl, hb⟩
    obtain ⟨⟨r0, r1, r2, r3, r4, r5⟩, f0, f1, f2, f3, f4, f5⟩ := tick_kept hb hbr.out
    have hb' := hb
    have hb := Lib.hid (below_trans hB hb)
    have hfin := Lib.hid (below_set6 (n := w.heap.size + 1) hb.out (by omega) (.string ⟨#[]⟩) (.string ⟨#[]⟩) (.int .i64 0) (.int .i64 0) (.int .i64 0) (.int .i64 0))
    go_wp2_with fail
    obtain ⟨⟨q0, q1, q2, q3, q4, q5⟩, _⟩ := tick_kept (Below.refl _ _) (row_set6 (heap_below hb' hbr.out) (.string ⟨#[]⟩) (.string ⟨#[]⟩) (.int .i64 0) (.int .i64 0) (.int .i64 0) (.int .i64 0))
    exact bodyPost_ret (v := .tuple #[.agg #[.string ⟨#[]⟩, .string ⟨#[]⟩, .int .i64 0, .int .i64 0, .int .i64 0, .int .i64 0], .int .i64 ((c + 1 : Nat) : Int)]) (by simp [results, Tryz.results84, go_sem, q0, q1, q2, q3, q4, q5]) rfl ⟨by rw [hr.out]; try rfl, hfin.out⟩
  | zero =>
  by_cases hmin : til < fn
  · have hm : min til fn = til := by omega
    rw [hm] at hck hrn
    have hrn := Lib.hid hrn
    clear hm
    go_enter Tryz.func84, Tryz.ntmps84
    go_wp2_with fail
    refine hgt.out.mono ?_
    rintro e w1 ⟨rfl, hb⟩
    obtain ⟨⟨b0, b1, b2, b3, b4, b5⟩, g0, g1, g2, g3, g4, g5⟩ := tick_kept hb hbt.out
    obtain ⟨⟨r0, r1, r2, r3, r4, r5⟩, f0, f1, f2, f3, f4, f5⟩ := tick_kept hb hbr.out
    have hrw := Lib.hid (heap_below hb hbt.out)
    have hrr := Lib.hid (heap_below hb hbr.out)
    have hb := Lib.hid (below_trans hB hb)
    have hB3 := Lib.hid (below_set3 (n := w.heap.size) hb.out (Nat.le_refl _) (.int .i64 now) (.int .i64 til) (.int .i64 serial))
    have hrw3 := Lib.hid (row_set3 hrw.out (.int .i64 now) (.int .i64 til) (.int .i64 serial))
    have hrr3 := Lib.hid (row_other3 (n := w.heap.size) hrr.out (Nat.succ_ne_self _) (.int .i64 now) (.int .i64 til) (.int .i64 serial))
    have hckC := Lib.hid (hck.out (((w1.setCell ⟨w.heap.size, 3, none⟩ (.int .i64 now)).setCell ⟨w.heap.size, 4, none⟩ (.int .i64 til)).setCell ⟨w.heap.size, 5, none⟩ (.int .i64 serial)))
    cases d with
    | succ d =>
      have hr := Lib.hid (hrn.out.trans (show _ = ((⟨[], [], 0, 0, 0, 0⟩ : Tick), d + 1) from rfl))
      go_wp2_with fail
      refine hckC.out.mono ?_
      rintro e w2 ⟨rfl, hb2⟩
      have hrr2 := Lib.hid (heap_below hb2 hrr3.out)
      have hb2 := Lib.hid (below_trans hB3.out hb2)
      clear b0 b1 b2 b3 b4 b5 g0 g1 g2 g3 g4 g5 r0 r1 r2 r3 r4 r5 f0 f1 f2 f3 f4 f5
      obtain ⟨⟨r0, r1, r2, r3, r4, r5⟩, f0, f1, f2, f3, f4, f5⟩ := tick_kept (Below.refl _ _) hrr2.out
      have hfin := Lib.hid (below_set6 (n := w.heap.size + 1) hb2.out (by omega) (.string ⟨#[]⟩) (.string ⟨#[]⟩) (.int .i64 0) (.int .i64 0) (.int .i64 0) (.int .i64 0))
      go_wp2_with fail
      obtain ⟨⟨q0, q1, q2, q3, q4, q5⟩, _⟩ := tick_kept (Below.refl _ _) (row_set6 hrr2.out (.string ⟨#[]⟩) (.string ⟨#[]⟩) (.int .i64 0) (.int .i64 0) (.int .i64 0) (.int .i64 0))
      exact bodyPost_ret (v := .tuple #[.agg #[.string ⟨#[]⟩, .string ⟨#[]⟩, .int .i64 0, .int .i64 0, .int .i64 0, .int .i64 0], .int .i64 ((d + 1 : Nat) : Int)]) (by simp [results, Tryz.results84, go_sem, q0, q1, q2, q3, q4, q5]) rfl ⟨by rw [hr.out]; try rfl, hfin.out⟩
    | zero =>
      have hr := Lib.hid (hrn.out.trans (show _ = ((⟨who, svc, ep, now, til, serial⟩ : Tick), 0) from rfl))
      go_wp2_with fail
      refine hckC.out.mono ?_
      rintro e w2 ⟨rfl, hb2⟩
      have hrr2 := Lib.hid (heap_below hb2 hrr3.out)
      have hrw2 := Lib.hid (heap_below hb2 hrw3.out)
      have hb2 := Lib.hid (below_trans hB3.out hb2)
      clear b0 b1 b2 b3 b4 b5 g0 g1 g2 g3 g4 g5 r0 r1 r2 r3 r4 r5 f0 f1 f2 f3 f4 f5
      obtain ⟨⟨r0, r1, r2, r3, r4, r5⟩, f0, f1, f2, f3, f4, f5⟩ := tick_kept (Below.refl _ _) hrr2.out
      obtain ⟨⟨b0, b1, b2, b3, b4, b5⟩, _⟩ := tick_kept (Below.refl _ _) hrw2.out
      have hfin := Lib.hid (below_set6 (n := w.heap.size + 1) hb2.out (by omega) (.string (bs who)) (.string (bs svc)) (.int .i64 ep) (.int .i64 now) (.int .i64 til) (.int .i64 serial))
      go_wp2_with fail
      obtain ⟨⟨q0, q1, q2, q3, q4, q5⟩, _⟩ := tick_kept (Below.refl _ _) (row_set6 hrr2.out (.string (bs who)) (.string (bs svc)) (.int .i64 ep) (.int .i64 now) (.int .i64 til) (.int .i64 serial))
      exact bodyPost_ret (v := .tuple #[.agg #[.string (bs who), .string (bs svc), .int .i64 ep, .int .i64 now, .int .i64 til, .int .i64 serial], .int .i64 0]) (by simp [results, Tryz.results84, go_sem, q0, q1, q2, q3, q4, q5]) rfl ⟨by rw [hr.out]; try rfl, hfin.out⟩
  · have hm : min til fn = fn := by omega
    rw [hm] at hck hrn
    have hrn := Lib.hid hrn
    clear hm
    go_enter Tryz.func84, Tryz.ntmps84
    go_wp2_with fail
    refine hgt.out.mono ?_
    rintro e w1 ⟨rfl, hb⟩
    obtain ⟨⟨b0, b1, b2, b3, b4, b5⟩, g0, g1, g2, g3, g4, g5⟩ := tick_kept hb hbt.out
    obtain ⟨⟨r0, r1, r2, r3, r4, r5⟩, f0, f1, f2, f3, f4, f5⟩ := tick_kept hb hbr.out
    have hrw := Lib.hid (heap_below hb hbt.out)
    have hrr := Lib.hid (heap_below hb hbr.out)
    have hb := Lib.hid (below_trans hB hb)
    have hB3 := Lib.hid (below_set2b (n := w.heap.size) hb.out (Nat.le_refl _) (.int .i64 now) (.int .i64 serial))
    have hrw3 := Lib.hid (row_set2b hrw.out (.int .i64 now) (.int .i64 serial))
    have hrr3 := Lib.hid (row_other2b (n := w.heap.size) hrr.out (Nat.succ_ne_self _) (.int .i64 now) (.int .i64 serial))
    have hckC := Lib.hid (hck.out ((w1.setCell ⟨w.heap.size, 3, none⟩ (.int .i64 now)).setCell ⟨w.heap.size, 5, none⟩ (.int .i64 serial)))
    cases d with
    | succ d =>
      have hr := Lib.hid (hrn.out.trans (show _ = ((⟨[], [], 0, 0, 0, 0⟩ : Tick), d + 1) from rfl))
      go_wp2_with fail
      refine hckC.out.mono ?_
      rintro e w2 ⟨rfl, hb2⟩
      have hrr2 := Lib.hid (heap_below hb2 hrr3.out)
      have hb2 := Lib.hid (below_trans hB3.out hb2)
      clear b0 b1 b2 b3 b4 b5 g0 g1 g2 g3 g4 g5 r0 r1 r2 r3 r4 r5 f0 f1 f2 f3 f4 f5
      obtain ⟨⟨r0, r1, r2, r3, r4, r5⟩, f0, f1, f2, f3, f4, f5⟩ := tick_kept (Below.refl _ _) hrr2.out
      have hfin := Lib.hid (below_set6 (n := w.heap.size + 1) hb2.out (by omega) (.string ⟨#[]⟩) (.string ⟨#[]⟩) (.int .i64 0) (.int .i64 0) (.int .i64 0) (.int .i64 0))
      go_wp2_with fail
      obtain ⟨⟨q0, q1, q2, q3, q4, q5⟩, _⟩ := tick_kept (Below.refl _ _) (row_set6 hrr2.out (.string ⟨#[]⟩) (.string ⟨#[]⟩) (.int .i64 0) (.int .i64 0) (.int .i64 0) (.int .i64 0))
      exact bodyPost_ret (v := .tuple #[.agg #[.string ⟨#[]⟩, .string ⟨#[]⟩, .int .i64 0, .int .i64 0, .int .i64 0, .int .i64 0], .int .i64 ((d + 1 : Nat) : Int)]) (by simp [results, Tryz.results84, go_sem, q0, q1, q2, q3, q4, q5]) rfl ⟨by rw [hr.out]; try rfl, hfin.out⟩
    | zero =>
      have hr := Lib.hid (hrn.out.trans (show _ = ((⟨who, svc, ep, now, fn, serial⟩ : Tick), 0) from rfl))
      go_wp2_with fail
      refine hckC.out.mono ?_
      rintro e w2 ⟨rfl, hb2⟩
      have hrr2 := Lib.hid (heap_below hb2 hrr3.out)
      have hrw2 := Lib.hid (heap_below hb2 hrw3.out)
      have hb2 := Lib.hid (below_trans hB3.out hb2)
      clear b0 b1 b2 b3 b4 b5 g0 g1 g2 g3 g4 g5 r0 r1 r2 r3 r4 r5 f0 f1 f2 f3 f4 f5
      obtain ⟨⟨r0, r1, r2, r3, r4, r5⟩, f0, f1, f2, f3, f4, f5⟩ := tick_kept (Below.refl _ _) hrr2.out
      obtain ⟨⟨b0, b1, b2, b3, b4, b5⟩, _⟩ := tick_kept (Below.refl _ _) hrw2.out
      have hfin := Lib.hid (below_set6 (n := w.heap.size + 1) hb2.out (by omega) (.string (bs who)) (.string (bs svc)) (.int .i64 ep) (.int .i64 now) (.int .i64 fn) (.int .i64 serial))
      go_wp2_with fail
      obtain ⟨⟨q0, q1, q2, q3, q4, q5⟩, _⟩ := tick_kept (Below.refl _ _) (row_set6 hrr2.out (.string (bs who)) (.string (bs svc)) (.int .i64 ep) (.int .i64 now) (.int .i64 fn) (.int .i64 serial))
      exact bodyPost_ret (v := .tuple #[.agg #[.string (bs who), .string (bs svc), .int .i64 ep, .int .i64 now, .int .i64 fn, .int .i64 serial], .int .i64 0]) (by simp [results, Tryz.results84, go_sem, q0, q1, q2, q3, q4, q5]) rfl ⟨by rw [hr.out]; try rfl, hfin.out⟩
end Go.Proofs.YtkhphdkjnpcnnaaGreatDoor
