/- FolS, EndC, EndB -/
import Derived.Test.YtpkcndohjmpdeaaGreatDoorMg21
import Derived.Test.YtpkcndohjmpdeaaGreatDoorMg20
import Derived.Deep.CutRange
import Derived.Test.YtpkcndohjmpdeaaGreatDoorMg6
import Derived.HandedShaped
import Derived.Shelf.Vars
import Derived.Lay
import Derived.Test.YtpkcndohjmpdeaaGreatDoorMg15
import Derived.Test.YtpkcndohjmpdeaaGreatDoorMg8
import Derived.Lib.LaidTab
/- FollowSame: walked. -/
namespace Go.Proofs.YtpkcndohjmpdeaaGreatDoor
open Go.RowKit

set_option maxHeartbeats 8000000 in
set_option maxRecDepth 100000 in
theorem followSame_any {E : Nat → Addr} (key : Int) (v : Value) (L : List Ent) (vs : Value) (N : List Int) (time : Int) (w : World) (hL : LaidS E w) (hv : EntsAt w v L) (hm : ∀ e ∈ L, e.f.who.length ≤ maxLen) (hN : AtG numC w vs N) :
    Calls Tryz.prog 3 #[.int .i64 key, v, vs, .int .i64 time] w fun e w' => e = .returned (.bool true) ∧ Below w.heap.size w w' := by
  have hfo := Lib.hid (followed_any (E := E) w hL)
  have hEv := Lib.hid (fun wx (hx : Below w.heap.size w wx) => (show EntsAt wx v L from AtG.below hv hx))
  have hlg := Lib.hid (fun wx (hx : Below w.heap.size w wx) => long_ent v L wx (hEv.out wx hx) hm)
  have hck := Lib.hid (fun wx (hx : Below w.heap.size w wx) => check_ent (E := E) v L wx (hL.below hx).laid (hEv.out wx hx) hm)
  have hnw := Lib.hid (fun wx (hx : Below w.heap.size w wx) => newFol_any (E := E) key wx (hL.below hx).laid)
  have hmk := Lib.hid (fun wx (hx : Below w.heap.size w wx) => makeF_any (E := E) key v L time wx (hL.below hx) (hEv.out wx hx) hm)
  have hmH := Lib.hid hm
  obtain ⟨a0, c0, hv0⟩ := AtG.sl hv
  obtain ⟨an, cn, hn0⟩ := AtG.sl hN
  have hml := AtG.len hv
  have hnl := AtG.len hN
  unfold maxLen at hml hnl
  subst hv0
  subst hn0
  have hNw := Lib.hid (fun wx (hx : Below w.heap.size w wx) => AtG.below hN hx)
  have hLw := Lib.hid (fun wx (hx : Below w.heap.size w wx) => hL.below hx)
  clear hL hm hv hN
  go_enter Tryz.func3, Tryz.ntmps3
  go_wp2_with fail
  refine hfo.out.mono ?_
  rintro e w1 ⟨rfl, hb1⟩
  have hlg1 := hlg.out _ hb1
  have hb1 := Lib.hid hb1
  clear hfo hlg
  cases hlo : longE L with
  | true =>
    rw [show longEI L = 1 by unfold longEI; rw [if_pos hlo]] at hlg1
    have hlg1 := Lib.hid hlg1
    clear hlo
    go_wp2_with fail
    refine hlg1.out.mono ?_
    rintro e w2 ⟨rfl, hb2⟩
    have hb2 := Lib.hid (below_trans hb1.out hb2)
    go_wp2_with fail
    go_ret
    exact ⟨rfl, hb2.out⟩
  | false =>
  rw [show longEI L = 0 by unfold longEI; rw [if_neg (by rw [hlo]; decide)]] at hlg1
  have hlg1 := Lib.hid hlg1
  have hl61 := (longE_false hlo).1
  clear hlo
  go_wp2_with fail
  refine hlg1.out.mono ?_
  rintro e w2 ⟨rfl, hb2⟩
  have hb2 := Lib.hid (below_trans hb1.out hb2)
  clear hlg1
  by_cases hs20 : 20 < N.length
  case pos =>
    go_wp2_with fail
    go_ret
    exact ⟨rfl, hb2.out⟩
  have hs20i : ¬ (20 : Int) < (N.length : Int) := by omega
  go_wp2_with fail
  refine (hck.out _ hb2.out).mono ?_
  rintro e w3 ⟨ev3, rfl, he3, hb3⟩
  have hb3 := Lib.hid (below_trans hb2.out hb3)
  clear hck
  by_cases hc : (checkE L).1 = 0
  case neg =>
    obtain ⟨T3, x3, rfl⟩ := he3.iface hc
    clear he3
    go_wp2_with fail
    go_ret
    exact ⟨rfl, hb3.out⟩
  obtain ⟨rfl, _⟩ := he3.zero hc
  have hcH := Lib.hid hc
  have hl60 := (checkE_zero hc).1
  clear he3 hc hs20
  go_wp2_with fail
  refine (hnw.out _ hb3.out).mono ?_
  rintro e w4 ⟨hor4, hb4⟩
  have hb4H := Lib.hid (below_trans hb3.out hb4)
  rcases hor4 with ⟨hk, rfl⟩ | ⟨hk, bf, rfl, hF4⟩
  · have hx := Lib.hid (hnw.out _ hb4H.out)
    clear hb4
    go_wp2_with fail
    refine hx.out.mono ?_
    rintro e w5 ⟨hor5, hb5⟩
    rcases hor5 with ⟨_, rfl⟩ | ⟨hk', _⟩
    · have hb5 := Lib.hid (below_trans hb4H.out hb5)
      simp only [errV]
      go_wp2_with fail
      go_ret
      exact ⟨rfl, hb5.out⟩
    · rw [hk] at hk'; cases hk'
  have hF4 := hF4.mono hb3.out.size
  have hF4H := Lib.hid hF4
  have hx := Lib.hid (hnw.out _ hb4H.out)
  have hkH := Lib.hid hk
  clear hb4 hF4 hk hnw
  go_wp2_with fail
  refine hx.out.mono ?_
  rintro e w5 ⟨hor5, hb5⟩
  rcases hor5 with ⟨hk', _⟩ | ⟨_, bg, rfl, hG5⟩
  · rw [hkH.out] at hk'; cases hk'
  have hne : bf ≠ bg := by have := hF4H.out.lt; have := hG5.1; omega
  have hF5 := Lib.hid (hF4H.out.below hb5)
  have hG5 := Lib.hid (hG5.mono hb4H.out.size)
  have hb5 := Lib.hid (below_trans hb4H.out hb5)
  have hmk5 := Lib.hid (hmk.out _ hb5.out)
  clear hx hmk
  go_wp2_with fail
  refine hmk5.out.mono ?_
  rintro e w6 ⟨⟨ev6, rfl, he6⟩, hb6⟩
  by_cases hz : (headOf key L time).2.1 = 0
  case neg =>
    obtain ⟨T6, x6, rfl⟩ := he6.iface hz
    have hfin := Lib.hid (below_trans hb5.out hb6)
    rw [headOf_bad hz]
    have hbs : bs [] = (⟨#[]⟩ : ByteArray) := rfl
    rw [hbs]
    clear he6 hz hb6
    go_wp2_with fail
    go_ret
    exact ⟨rfl, hfin.out⟩
  obtain ⟨rfl, _⟩ := he6.zero hz
  have hzH := Lib.hid hz
  have hb6H := Lib.hid (below_trans hb5.out hb6)
  have hG6 := hG5.out.below hb6
  have htk := take_fol (E := E) w.heap.size bf (newFol key) (headOf key L time).1 _ L w6 (hLw.out _ hb6H.out) (hF5.out.below hb6) (hEv.out _ hb6H.out) hmH.out (fun e he => by cases he) (by show 0 + L.length ≤ 1000000; omega) (by have := @headOf_len key L time; omega) hb6H.out.size
  rw [mid_once hz, errV_zero] at htk
  have hFb := Lib.hid (hF5.out.below hb6)
  have hG6H := Lib.hid hG6
  have htkH := Lib.hid htk
  clear he6 hb6 hz hG6 htk hmk5
  go_wp2_with fail
  refine htkH.out.mono ?_
  rintro e w7 ⟨rfl, hF7, hk7⟩
  have hG7 := Lib.hid (hG6H.out.other hFb.out (Ne.symm hne) hk7)
  have hF7H := Lib.hid hF7
  have hb7 := Lib.hid (below_keeps hb6H.out hF7.1 hk7)
  clear hF7 hk7 htkH
  go_wp2_with fail
  go_loopg [16, 17] (N.length + 1) (fun g s16 i wr => ∃ (hv j : Nat) (G : Fol), s16 = .int .i64 hv ∧ i = .int .i64 j ∧ j ≤ N.length ∧ N.length - j + 1 ≤ g ∧ hv ≤ L.length ∧ Hid (Mid key L hv G ∧ FolAt wr w.heap.size bf ⟨key, L, (floorsE L).1, time, (headOf key L time).1⟩ ∧ FolAt wr w.heap.size bg G) ∧ Hid (Below w.heap.size w wr))
  case atStart => exact ⟨0, 0, newFol key, rfl, rfl, Nat.zero_le _, by omega, Nat.zero_le _, Lib.hid ⟨mid_new key L, hF7H.out, hG7.out⟩, hb7⟩
  case round =>
    obtain ⟨hv, j, G, rfl, rfl, hj, hg, hvl, hM, hK⟩ := hrel
    by_cases hlt : j < N.length
    · obtain ⟨_, _, he, _, _, _, hcs⟩ := hNw.out _ hK.out
      cases he
      obtain ⟨bb, oo, rfl, hc⟩ := hcs j hlt
      have d0 := hc 0 _ rfl
      have d0 : wr.cell? ⟨bb, oo + j, none⟩ = some (.int .i64 N[j]) := by simpa [numC] using d0
      generalize N[j] = n at *
      clear hcs hc
      have hk0 : (0 : Int) ≤ (j : Int) := by omega
      have hk1 : (j : Int) < (N.length : Int) := by omega
      by_cases h1 : n < (hv : Int)
      · go_wp2_with fail
        go_roundg (N.length - j)
        case measure => omega
        case rel => exact ⟨hv, j + 1, G, rfl, by simp, hlt, by omega, hvl, hM, hK⟩
      by_cases h2 : (L.length : Int) < n
      · go_wp2_with fail
        go_roundg (N.length - j)
        case measure => omega
        case rel => exact ⟨hv, j + 1, G, rfl, by simp, hlt, by omega, hvl, hM, hK⟩
      obtain ⟨m, rfl⟩ : ∃ m : Nat, n = m := ⟨n.toNat, by omega⟩
      have hvm : hv ≤ m := by omega
      have hmL : m ≤ L.length := by omega
      have hfl := (headOf_zero hzH.out).2.1
      have hstepH := Lib.hid (mid_step hM.out.1 hkH.out hfl hvm hmL)
      have hmzH := Lib.hid (mid_head hkH.out hfl hmL)
      have hmkm := fun wx (hx : Below w.heap.size w wx) => makeF_any (E := E) key (.slice a0 m c0) (L.take m) (wasE L m) wx (hLw.out _ hx) (AtG.take (hEv.out _ hx) hmL) (fun e he => hmH.out e (List.mem_of_mem_take he))
      have hcap : L.length ≤ c0 := by
        obtain ⟨_, _, he, _, h, _⟩ := hEv.out _ hK.out
        cases he
        exact h
      have htl : (L.take m).length = m := by rw [List.length_take]; omega
      have hown := fun wx (hx : Below w.heap.size w wx) => own_ent _ ((L.take m).drop hv) wx (AtG.drop (n := hv) (ents_cut (hEv.out _ hx) hmL) (by rw [htl]; exact hvm)) (by rw [List.length_drop, htl]; omega)
      have hnames := Lib.hid (fun e (he : e ∈ (L.take m).drop hv) => hmH.out e (List.mem_of_mem_take (List.mem_of_mem_drop he)))
      have hnG := Lib.hid (fun e (he : e ∈ G.l) => hmH.out e (by rw [hM.out.1.l] at he; exact List.mem_of_mem_take he))
      have hGl := Lib.hid (show G.l.length + ((L.take m).drop hv).length ≤ 1000000 by rw [hM.out.1.l, List.length_drop, List.length_take, List.length_take]; omega)
      have htkg := Lib.hid (fun vx wx (hx : Below w.heap.size w wx) (hG : FolAt wx w.heap.size bg G) (hvx : EntsAt wx vx ((L.take m).drop hv)) => (by
        have h := take_fol (E := E) w.heap.size bg G (headOf key (L.take m) (wasE L m)).1 vx _ wx (hLw.out _ hx) hG hvx hnames.out hnG.out hGl.out (by have := @headOf_len key (L.take m) (wasE L m); omega) hx.size
        rw [hstepH.out.1, errV_zero] at h
        exact h : Calls Tryz.prog 11 #[.pointer (some ⟨bg, 0, none⟩), .string (bs (headOf key (L.take m) (wasE L m)).1), vx] wx fun e w' => e = .returned .nilIface ∧ FolAt w' w.heap.size bg ⟨key, L.take m, (floorsE (L.take m)).1, wasE L m, (headOf key (L.take m) (wasE L m)).1⟩ ∧ Keeps (· = bg) wx w'))
      have hmkH := Lib.hid hmkm
      have hownH := Lib.hid hown
      have htlH := Lib.hid htl
      have hcapH := Lib.hid hcap
      clear hmkm hown hfl htl hcap
      go_upto_if 99 with fail
      go_cut [19] from 100 to 105 (fun s19 wx => s19 = .int .i64 (wasE L m) ∧ wx = wr)
      case first =>
        cases m with
        | zero =>
          have hw0 := Lib.hid (show wasE L 0 = 0 by unfold wasE; rw [if_pos rfl])
          go_wp2_with fail
          go_meet
          exact ⟨by rw [hw0.out], rfl⟩
        | succ q =>
          obtain ⟨_, _, he, _, _, hcs⟩ := EntsAt.get (hEv.out _ hK.out)
          cases he
          obtain ⟨b3, o3, rfl, _, p1, _⟩ := hcs q (by omega)
          have hwq : L[q].time = wasE L (q + 1) := by unfold wasE; rw [if_neg (by omega), Nat.add_sub_cancel, getD_get (by omega)]
          rw [hwq] at p1
          have hq0 : (0 : Int) ≤ (q : Int) := by omega
          have hq1 : (q : Int) < (L.length : Int) := by omega
          clear hcs hwq
          go_wp2_with fail
          go_meet
          exact ⟨rfl, rfl⟩
      obtain ⟨rfl, rfl⟩ := hcut
      have hmk9 := Lib.hid (hmkH.out _ hK.out)
      have hcm : m ≤ c0 := Nat.le_trans hmL hcapH.out
      clear hmkH d0
      by_cases hcn : c0 = hv
      case' pos =>
        have hsh := Lib.hid (show ∀ wx, Below w.heap.size w wx → Calls Tryz.prog 12 #[Value.slice a0 0 0] wx fun e w' => ∃ v', e = Ending.returned v' ∧ EntRow w' wx.heap.size v' (List.drop hv (List.take m L)) ∧ Below wx.heap.size wx w' from fun wx hx => by
          have h := hownH.out wx hx
          rw [if_pos hcn, htlH.out, show c0 - hv = 0 by omega, show m - hv = 0 by omega] at h
          exact h)
        have hLm := Lib.hid (show L.length = m by have := hcapH.out; omega)
        obtain rfl : m = hv := by omega
        obtain rfl : m = c0 := by omega
        clear hcm
      case' neg =>
        have hsh := Lib.hid (show ∀ wx, Below w.heap.size w wx → Calls Tryz.prog 12 #[Value.slice (Option.map (fun x => x.add (hv * 4)) a0) (m - hv) (c0 - hv)] wx fun e w' => ∃ v', e = Ending.returned v' ∧ EntRow w' wx.heap.size v' (List.drop hv (List.take m L)) ∧ Below wx.heap.size wx w' from fun wx hx => by
          have h := hownH.out wx hx
          rw [if_neg hcn, htlH.out] at h
          exact h)
      all_goals
        clear hownH
        go_wp2_with fail
        refine (hmk9.out).mono ?_
        rintro e w8 ⟨⟨ev8, rfl, he8⟩, hb8⟩
        obtain ⟨rfl, _⟩ := he8.zero hmzH.out
        have hK8 := Lib.hid (below_trans hK.out hb8)
        have hF8 := Lib.hid (hM.out.2.1.below hb8)
        have hG8 := Lib.hid (hM.out.2.2.below hb8)
        have hown8 := Lib.hid (hsh.out _ hK8.out)
        clear he8 hb8 hmk9 hsh
        go_wp2_with fail
        refine hown8.out.mono ?_
        rintro e w9 ⟨v9, rfl, hrow9, hb9⟩
        have hK9 := Lib.hid (below_trans hK8.out hb9)
        have hF9 := Lib.hid (hF8.out.below hb9)
        have hG9 := Lib.hid (hG8.out.below hb9)
        have htk9 := Lib.hid (htkg.out v9 w9 hK9.out hG9.out (EntRow.at_ hrow9))
        clear hrow9 hb9 hown8
        go_wp2_with fail
        refine htk9.out.mono ?_
        rintro e w10 ⟨rfl, hG10, hk10⟩
        have hF10 := Lib.hid (hF9.out.other hG9.out hne hk10)
        have hK10 := Lib.hid (below_keeps hK9.out hG10.1 hk10)
        have hG10 := Lib.hid hG10
        clear hk10 htk9
        go_wp2_with fail
        go_roundg (N.length - j)
        case measure => omega
        case rel => exact ⟨m, j + 1, _, rfl, by simp, hlt, by omega, hmL, Lib.hid ⟨hstepH.out.2, hF10.out, hG10.out⟩, hK10⟩
    · have hge : ¬ ((j : Int) < (N.length : Int)) := by omega
      have hcap : L.length ≤ c0 := by
        obtain ⟨_, _, he, _, h, _⟩ := hEv.out _ hK.out
        cases he
        exact h
      have hl60 : L.length ≤ 60 := by omega
      have hown := fun wx (hx : Below w.heap.size w wx) => own_ent _ (L.drop hv) wx (AtG.drop (n := hv) (hEv.out _ hx) hvl) (by rw [List.length_drop]; omega)
      have hlast := Lib.hid (mid_last hM.out.1 hzH.out)
      have hGl := Lib.hid (show G.l.length + (L.drop hv).length ≤ 1000000 by rw [hM.out.1.l, List.length_drop, List.length_take]; omega)
      have hnG := Lib.hid (fun e (he : e ∈ G.l) => hmH.out e (by rw [hM.out.1.l] at he; exact List.mem_of_mem_take he))
      have htkg := Lib.hid (fun vx wx (hx : Below w.heap.size w wx) (hG : FolAt wx w.heap.size bg G) (hvx : EntsAt wx vx (L.drop hv)) => (by
        have h := take_fol (E := E) w.heap.size bg G (headOf key L time).1 vx _ wx (hLw.out _ hx) hG hvx (fun e he => hmH.out e (List.mem_of_mem_drop he)) hnG.out hGl.out (by have := @headOf_len key L time; omega) hx.size
        rw [hlast.out, errV_zero] at h
        exact h : Calls Tryz.prog 11 #[.pointer (some ⟨bg, 0, none⟩), .string (bs (headOf key L time).1), vx] wx fun e w' => e = .returned .nilIface ∧ FolAt w' w.heap.size bg ⟨key, L, (floorsE L).1, time, (headOf key L time).1⟩ ∧ Keeps (· = bg) wx w'))
      have hFl := Lib.hid (show (floorsE L).1.length ≤ 1000 by have := floorsE_len L; omega)
      have hsq := Lib.hid (fun b wx (h : FolAt wx w.heap.size b ⟨key, L, (floorsE L).1, time, (headOf key L time).1⟩) => seq_fol w.heap.size b _ wx h)
      have htm := Lib.hid (fun b wx (h : FolAt wx w.heap.size b ⟨key, L, (floorsE L).1, time, (headOf key L time).1⟩) => time_fol w.heap.size b _ wx h)
      have hhd := Lib.hid (fun b wx (h : FolAt wx w.heap.size b ⟨key, L, (floorsE L).1, time, (headOf key L time).1⟩) => head_fol w.heap.size b _ wx h)
      have hen := Lib.hid (fun b wx (h : FolAt wx w.heap.size b ⟨key, L, (floorsE L).1, time, (headOf key L time).1⟩) => entries_fol w.heap.size b _ wx h (show L.length ≤ 1000 by omega))
      have hfl := Lib.hid (fun b wx (h : FolAt wx w.heap.size b ⟨key, L, (floorsE L).1, time, (headOf key L time).1⟩) => floors_fol w.heap.size b _ wx h hFl.out)
      have hmid := Lib.hid hM.out
      by_cases hcn : c0 = hv
      case' pos =>
        have hsh := Lib.hid (show ∀ wx, Below w.heap.size w wx → Calls Tryz.prog 12 #[Value.slice a0 (L.length - hv) 0] wx fun e w' => ∃ v', e = Ending.returned v' ∧ EntRow w' wx.heap.size v' (List.drop hv L) ∧ Below wx.heap.size wx w' from fun wx hx => by
          have h := hown wx hx
          rw [if_pos hcn, show c0 - hv = 0 by omega] at h
          exact h)
        have hLl := Lib.hid (show L.length = hv by omega)
        obtain rfl : hv = c0 := by omega
        clear hcap
      case' neg =>
        have hsh := Lib.hid (show ∀ wx, Below w.heap.size w wx → Calls Tryz.prog 12 #[Value.slice (Option.map (fun x => x.add (hv * 4)) a0) (L.length - hv) (c0 - hv)] wx fun e w' => ∃ v', e = Ending.returned v' ∧ EntRow w' wx.heap.size v' (List.drop hv L) ∧ Below wx.heap.size wx w' from fun wx hx => by
          have h := hown wx hx
          rw [if_neg hcn] at h
          exact h)
      all_goals
        have hown8 := Lib.hid (hsh.out _ hK.out)
        clear hown hsh hFl
        go_wp2_with fail
        refine hown8.out.mono ?_
        rintro e w9 ⟨v9, rfl, hrow9, hb9⟩
        have hK9 := Lib.hid (below_trans hK.out hb9)
        have hF9 := Lib.hid (hmid.out.2.1.below hb9)
        have hG9 := Lib.hid (hmid.out.2.2.below hb9)
        have htk9 := Lib.hid (htkg.out v9 w9 hK9.out hG9.out (EntRow.at_ hrow9))
        clear hrow9 hb9 hown8 htkg
        go_wp2_with fail
        refine htk9.out.mono ?_
        rintro e w10 ⟨rfl, hG10, hk10⟩
        have hF10 := Lib.hid (hF9.out.other hG9.out hne hk10)
        have hK10 := Lib.hid (below_keeps hK9.out hG10.1 hk10)
        have hG10 := Lib.hid hG10
        have hx := Lib.hid (hsq.out bf _ hF10.out)
        clear hk10 htk9
        go_wp2_with fail
        refine hx.out.mono ?_
        rintro e w11 ⟨rfl, hb11⟩
        have hF11 := Lib.hid (hF10.out.below hb11)
        have hG11 := Lib.hid (hG10.out.below hb11)
        have hK11 := Lib.hid (below_trans hK10.out hb11)
        have hx2 := Lib.hid (hsq.out bg _ hG11.out)
        clear hb11 hx hsq
        go_wp2_with fail
        refine hx2.out.mono ?_
        rintro e w12 ⟨rfl, hb12⟩
        have hF12 := Lib.hid (hF11.out.below hb12)
        have hG12 := Lib.hid (hG11.out.below hb12)
        have hK12 := Lib.hid (below_trans hK11.out hb12)
        have hx3 := Lib.hid (htm.out bf _ hF12.out)
        clear hb12 hx2
        go_wp2_with fail
        refine hx3.out.mono ?_
        rintro e w13 ⟨rfl, hb13⟩
        have hF13 := Lib.hid (hF12.out.below hb13)
        have hG13 := Lib.hid (hG12.out.below hb13)
        have hK13 := Lib.hid (below_trans hK12.out hb13)
        have hx4 := Lib.hid (htm.out bg _ hG13.out)
        clear hb13 hx3 htm
        go_wp2_with fail
        refine hx4.out.mono ?_
        rintro e w14 ⟨rfl, hb14⟩
        have hF14 := Lib.hid (hF13.out.below hb14)
        have hG14 := Lib.hid (hG13.out.below hb14)
        have hK14 := Lib.hid (below_trans hK13.out hb14)
        have hx5 := Lib.hid (hhd.out bf _ hF14.out)
        clear hb14 hx4
        go_wp2_with fail
        refine hx5.out.mono ?_
        rintro e w15 ⟨rfl, hb15⟩
        have hF15 := Lib.hid (hF14.out.below hb15)
        have hG15 := Lib.hid (hG14.out.below hb15)
        have hK15 := Lib.hid (below_trans hK14.out hb15)
        have hx6 := Lib.hid (hhd.out bg _ hG15.out)
        clear hb15 hx5 hhd
        go_wp2_with fail
        refine hx6.out.mono ?_
        rintro e w16 ⟨rfl, hb16⟩
        have hF16 := Lib.hid (hF15.out.below hb16)
        have hG16 := Lib.hid (hG15.out.below hb16)
        have hK16 := Lib.hid (below_trans hK15.out hb16)
        have hx7 := Lib.hid (hen.out bf _ hF16.out)
        clear hb16 hx6
        go_wp2_with fail
        refine hx7.out.mono ?_
        rintro e w17 ⟨v17, rfl, hr17, hb17⟩
        have hF17 := Lib.hid (hF16.out.below hb17)
        have hG17 := Lib.hid (hG16.out.below hb17)
        have hK17 := Lib.hid (below_trans hK16.out hb17)
        have hr17 := Lib.hid hr17
        have hx8 := Lib.hid (hen.out bg _ hG17.out)
        clear hb17 hx7 hen
        go_wp2_with fail
        refine hx8.out.mono ?_
        rintro e w18 ⟨v18, rfl, hr18, hb18⟩
        have hF18 := Lib.hid (hF17.out.below hb18)
        have hG18 := Lib.hid (hG17.out.below hb18)
        have hK18 := Lib.hid (below_trans hK17.out hb18)
        have hsm := Lib.hid (same_ent _ _ L w18 (EntRow.at_ (RowG.below hr17.out hb18)) (EntRow.at_ hr18))
        clear hb18 hx8 hr18
        go_wp2_with fail
        refine hsm.out.mono ?_
        rintro e w19 ⟨rfl, hb19⟩
        have hF19 := Lib.hid (hF18.out.below hb19)
        have hG19 := Lib.hid (hG18.out.below hb19)
        have hK19 := Lib.hid (below_trans hK18.out hb19)
        have hx9 := Lib.hid (hfl.out bf _ hF19.out)
        clear hb19 hsm
        go_wp2_with fail
        refine hx9.out.mono ?_
        rintro e w20 ⟨v20, rfl, hr20, hb20⟩
        have hG20 := Lib.hid (hG19.out.below hb20)
        have hK20 := Lib.hid (below_trans hK19.out hb20)
        have hr20 := Lib.hid hr20
        have hx10 := Lib.hid (hfl.out bg _ hG20.out)
        clear hb20 hx9 hfl
        go_wp2_with fail
        refine hx10.out.mono ?_
        rintro e w21 ⟨v21, rfl, hr21, hb21⟩
        have hK21 := Lib.hid (below_trans hK20.out hb21)
        have hsm2 := Lib.hid (samef_flo _ _ _ w21 (floorsAt_of (RowG.at_ (floRow_G.1 (FlRow.below hr20.out hb21)))) (floorsAt_of (RowG.at_ (floRow_G.1 hr21))))
        clear hb21 hx10 hr21
        go_wp2_with fail
        refine hsm2.out.mono ?_
        rintro e w22 ⟨rfl, hb22⟩
        have hK22 := Lib.hid (below_trans hK21.out hb22)
        clear hb22
        go_wp2_with fail
        go_ret
        exact ⟨rfl, hK22.out⟩
end Go.Proofs.YtpkcndohjmpdeaaGreatDoor

/- The row's end, with the world's shape: parts. -/
namespace Go.Proofs.YtpkcndohjmpdeaaGreatDoor
open Go.ChangeShapes Go.WideShapes Go.ChangeAt Go.RowKit Go.ChangeMaps

/-- The wrap with both: a condition on the package-level variables, and the world's shape. -/
theorem returns_both {H : Type} {enc : TypeId × Value → H} {a : Assume} {C : Checked} {os : Os} {f : FuncId} {fn : Func} {s : ChangeSpec} {conds : List PathCond} {apart fresh handsOn again : Bool} {X : World → Array Value → Prop}
    (hX : ∀ (w w' : World) (args : Array Value), w.heap = w'.heap → X w args → X w' args)
    (own : ownKnob C.prog.godebug = none) (started : os.Started) (noInit : C.prog.inits.idxOf? f = none) (hfn : C.prog.funcs[f]? = some fn)
    (witness : ∃ (w : World) (tape : Tape) (i : Input), w.os = os ∧ (w.forCall tape i).Shaped C.prog ∧ i.vars = [] ∧ Input.okWide C.prog (w.forCall tape i) .any w.heap.size f i ∧
      ((s.pre enc C.prog fn conds apart (w.forCall tape i).memory i.args ∧ X (w.forCall tape i).memory i.args) ∧ sizedMet enc C.prog fn (OpenSpec.ofChange s) apart (w.forCall tape i).memory i.args) ∧ a.holds C.prog (lone (Frame.enter C.prog f i.args .normal) [] (w.forCall tape i)))
    (contract : ∀ (W : World) (base : Nat) (args : Array Value) (ds gs : List (DataW H)) (before : List MemPlace),
      (∀ (j : Nat) t v, fn.params[j]? = some t → args[j]? = some v → Value.okWide C.prog W .any base t v) →
      DataW.Whole enc C.prog fn.params.toList s.vars apart W args.toList ds gs before →
      X W args → W.ShapedOpen C.prog →
      Calls C.prog f args W fun e W' => ∃ v, e = .returned v ∧ s.post enc C.prog fn apart fresh handsOn again W args v W') :
    ReturnsInHanded a C os f .any (fun w args => (s.pre enc C.prog fn conds apart w args ∧ X w args) ∧ sizedMet enc C.prog fn (OpenSpec.ofChange s) apart w args) (s.post enc C.prog fn apart fresh handsOn again) := by
  refine returnsInHanded_of_calls own started noInit witness ?_
  intro w tape i _ hsh _ hok hpre hholds
  obtain ⟨_, _, _, fn', hfn', _, _, _, _, hval⟩ := hok
  have e : fn' = fn := Option.some.inj (hfn'.symm.trans hfn)
  subst e
  obtain ⟨⟨⟨ds, gs, before, hw, hc⟩, hx⟩, hz⟩ := hpre
  have hw' := DataW.Whole.of_heap (w' := w.forCall tape i) (by rfl) hw
  refine (contract (w.forCall tape i) w.heap.size i.args ds gs before hval hw' (hX _ _ _ (by rfl) hx) hsh).mono fun e W' ⟨v, he, hp⟩ => ?_
  subst he
  exact ChangeSpec.post_blind hp

/-- A start that meets the condition: whatever world, the plain data laid on it. -/
theorem laidMet_laidOn {P : Program} {w0 : World} {L : List (String × DataW Unit)} (args : Array Value) (hf : w0.layFits P L [] = true) (hi : w0.layIfaces P L (w0.layVars P L) = true) :
    laidMet P L ((w0.layVars P L).forCall (fun _ _ => 0) ⟨#[], args, []⟩).memory := by
  have e1 : (L.filter fun x => (L.map (·.1)).contains x.1) = L := List.filter_eq_self.2 fun x hx => List.contains_iff_mem.2 (List.mem_map.2 ⟨x, hx, rfl⟩)
  have e2 : (L.filter fun x => !(L.map (·.1)).contains x.1) = [] := List.filter_eq_nil_iff.2 fun x hx => by rw [List.contains_iff_mem.2 (List.mem_map.2 ⟨x, hx, rfl⟩)]; simp
  have h : laidMet P L (w0.layVars P L) := laidMet_layVars (w0 := w0) (L.map (·.1)) [] (by rw [e1]) (by rw [e1]; exact hf) (by rw [e1]; exact hi) (by rw [e2]; exact LaidIn.none)
  exact h.of_heap (by simp [World.memory, World.forCall, Input.heap])
end Go.Proofs.YtpkcndohjmpdeaaGreatDoor

/- The row's end for laws that call the library: parts. -/
namespace Go.Proofs.YtpkcndohjmpdeaaGreatDoor
open Go.ChangeShapes Go.WideShapes Go.ChangeAt Go.RowKit Go.ChangeMaps

theorem tab_of {W : World} {laid : List (String × DataW Unit)} (h : laidMetH Tryz.prog laid W) {n : String} {k : IntKind} {zs : List Int} {g : Nat} {t e : TypeId} {m : Nat} (hm : (n, Lib.tabData k zs) ∈ laid)
    (hg : Tryz.prog.globalNamed n = some g) (hty : (Tryz.prog.globals[g]?).map (·.type) = some t) (ht : Tryz.prog.underlying t = some (.array m e)) (he : Tryz.prog.underlying e = some (.int k)) (hce : Tryz.prog.cellsOf e = 1) (hct : Tryz.prog.cellsOf t = m) :
    Lib.TabIs Tryz.prog W n k zs := by
  obtain ⟨ps, hps, _, _⟩ := laidMet_of_H h
  obtain ⟨g0, t0, cs0, f0, p0, hg0, ht0, hv0, hd0, _⟩ := laidVars_mem (ps := ps) _ ps hps n _ (List.mem_filter.2 ⟨hm, rfl⟩)
  obtain rfl := Option.some.inj (hg.symm.trans hg0)
  obtain rfl := Option.some.inj (hty.symm.trans ht0)
  unfold Lib.TabIs
  rw [hv0, ← Lib.cells_of_tab ht he hce hct hd0]
theorem cells_u64 : Tryz.prog.cellsOf 154 = 1 := by kernel_rfl
theorem cells_pow : Tryz.prog.cellsOf 175 = 20 := by kernel_rfl
theorem type_pow : (Tryz.prog.globals[12]?).map (·.type) = some 175 := by kernel_rfl
set_option maxRecDepth 100000 in
theorem sentinel_var {W : World} {laid : List (String × DataW Unit)} (h : laidMetH Tryz.prog laid W) (n : String) (text : List UInt8) (g : Nat)
    (hm : (n, .iface "*errors.errorString" (.ptr (.agg [.lit (.string text)]))) ∈ laid) (hg : Tryz.prog.globalNamed n = some g) (ht : (Tryz.prog.globals[g]?).map (·.type) = some 27) :
    ∃ t p, W.var? Tryz.prog n = some #[.iface t p] := by
  obtain ⟨ps, hps, hnd, hrows⟩ := laidMet_of_H h
  obtain ⟨g0, t0, cs0, f0, p0, hg0, ht0, hv0, hd0, hin, hip⟩ := laidVars_mem (ps := ps) _ ps hps n _ (List.mem_filter.2 ⟨hm, rfl⟩)
  obtain rfl := Option.some.inj (hg.symm.trans hg0)
  obtain rfl := Option.some.inj (ht.symm.trans ht0)
  obtain ⟨l0⟩ := cs0
  have ok0 : ∀ u v, l0 = [.iface u v] → Value.okWide Tryz.prog W .any 0 u v := fun u v e => by
    subst e
    exact (hrows g 0 (hin _ (by simp [MemPlace.row]))).2 u v (by simpa using World.var?_cell hg0 hv0 0)
  obtain ⟨a0, s0, rfl, hc0, hs0, hz0, rfl⟩ := errorString_of_trod Tryz.underlying27 row_errorString Tryz.underlying205 Tryz.underlying207 rfl rfl Tryz.underlying9 cells_errorString cells_string hd0 ok0
  exact ⟨_, _, hv0⟩
theorem max_of {W : World} (hsh : W.ShapedOpen Tryz.prog) : ∃ m, W.cell? ⟨11, 0, none⟩ = some (.int .i64 m) :=
  cell_of_shapedOpen_int (P := Tryz.prog) (g := 11) (t := 3) (zero := #[.int .i64 0]) hsh (of_decide_eq_true (by kernel_rfl)) (by kernel_rfl) rfl (by kernel_rfl) (by kernel_rfl) Tryz.underlying3
section
open Go.Deep
/-- A slice of texts that came in. -/
theorem texts_of {H : Type} {enc : TypeId × Value → H} {W : World} {base : Nat} {spare : Nat → Bool} {held : Bool} {fuel : Nat} {a : Option Addr} {len cap : Nat} {x : DataW H × List MemPlace}
    (h : DataW.trod enc Tryz.prog W base spare held fuel 82 [.slice a len cap] = some x) : ∃ L, TextsAt W (.slice a len cap) L ∧ ∀ y ∈ L, y.length ≤ maxLen := by
  have hC : Tryz.prog.cellsOf 9 = 1 := by kernel_rfl
  rcases open_slice Tryz.underlying82 h with h0 | ⟨a', len', cap', m, n, D, Pl, hcs, _, hl, hm, hmm, _, _⟩
  · cases h0.1
    exact ⟨[], ⟨none, 0, rfl, Nat.zero_le _, Nat.zero_le _, fun i hi => by cases hi⟩, fun y hy => by cases hy⟩
  · rcases slice_cells Tryz.underlying82 h with h0 | ⟨a2, len2, cap2, n2, hcs2, hm2, hi2⟩
    · cases h0
      exact ⟨[], ⟨none, 0, rfl, Nat.zero_le _, Nat.zero_le _, fun i hi => by cases hi⟩, fun y hy => by cases hy⟩
    · cases hcs
      cases hcs2
      rw [hC] at hi2
      obtain ⟨L, hL, hA⟩ := list_of (p := fun i (q : List UInt8) => (i = 0 → a' = ⟨a'.block, a'.off, none⟩) ∧ W.cell? ⟨a'.block, a'.off + i, none⟩ = some (.string (bs q)) ∧ q.length ≤ maxLen) len (fun i hil => by
        obtain ⟨cs, y, hcl, hat, ha, ht⟩ := hi2 i hil
        match cs, hcl with
        | [k0], _ =>
          obtain ⟨s0, rfl, l0⟩ := read_string Tryz.underlying9 ht
          exact ⟨s0, fun h0 => ha 0 (by decide) (by rw [h0]), by simpa using hat 0 (by decide), l0⟩)
      subst hL
      refine ⟨L, ⟨some a', cap, rfl, hm2, hl, fun i hil => ⟨a'.block, a'.off, congrArg some ((hA 0 (Nat.lt_of_le_of_lt (Nat.zero_le _) hil)).1 rfl), (hA i hil).2.1⟩⟩, fun y hy => ?_⟩
      obtain ⟨i, hi, rfl⟩ := List.getElem_of_mem hy
      exact (hA i hi).2.2
theorem texts_form {H : Type} {enc : TypeId × Value → H} {W : World} {base : Nat} {spare : Nat → Bool} {held : Bool} {fuel : Nat} {a : Option Addr} {len cap : Nat} {x : DataW H × List MemPlace}
    (h : DataW.trod enc Tryz.prog W base spare held fuel 82 [.slice a len cap] = some x) : Value.slice a len cap = .slice none 0 0 ∨ ∃ ad m c, Value.slice a len cap = .slice (some ad) m c := by
  rcases open_slice Tryz.underlying82 h with h0 | ⟨a', len', cap', m, n, D, Pl, hcs, _⟩
  · exact .inl (List.singleton_inj.1 h0.1)
  · exact .inr ⟨_, _, _, List.singleton_inj.1 hcs⟩
end
end Go.Proofs.YtpkcndohjmpdeaaGreatDoor
