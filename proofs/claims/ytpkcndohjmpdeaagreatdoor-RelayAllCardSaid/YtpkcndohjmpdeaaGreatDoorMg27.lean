/- FolR -/
import Derived.Test.YtpkcndohjmpdeaaGreatDoorMg18
import Derived.Test.YtpkcndohjmpdeaaGreatDoorMg17
import Derived.Test.YtpkcndohjmpdeaaGreatDoorMg26
/- FollowRises: walked. -/
namespace Go.Proofs.YtpkcndohjmpdeaaGreatDoor
open Go.RowKit

theorem pre_len {key : Int} {L : List Ent} {f : Fol} (h : NodeOk key L f) : f.l.length ≤ L.length := by
  have := congrArg List.length h.pre
  rw [List.length_take] at this
  omega
theorem node_floors {key : Int} {L : List Ent} {f : Fol} (h : NodeOk key L f) : f.floors = (floorsE f.l).1 := by rw [h.ok.ok]
theorem node_names {key : Int} {L : List Ent} {f : Fol} (h : NodeOk key L f) {p : Ent → Prop} (hp : ∀ e ∈ L, p e) : ∀ e ∈ f.l, p e := fun e he => hp e (by rw [h.pre] at he; exact List.mem_of_mem_take he)
theorem news_names {L : List Ent} {n : News} {p : Ent → Prop} (hp : ∀ e ∈ L, p e) : ∀ e ∈ newsEnts L n, p e := fun e he => hp e (List.mem_of_mem_take (List.mem_of_mem_drop he))
theorem newsEnts_len (L : List Ent) (n : News) : (newsEnts L n).length ≤ L.length := by
  unfold newsEnts
  rw [List.length_drop, List.length_take]
  omega
theorem newsHead_len {L : List Ent} {n : News} (h : n.text = []) : (newsHead L n).length ≤ 300 := by
  unfold newsHead
  rw [if_pos h]
  exact headOf_len
theorem take_rises {f : Fol} (hf : FolOk f) {s : List UInt8} {M : List Ent} (h : (takeF f s M).1 = 0) (n : List UInt8) : ofF f.floors n ≤ ofF (takeF f s M).2.floors n := by
  obtain ⟨_, _, _, h4, _, h6⟩ := takeF_zero h
  rw [h6]
  have := (floorsE_left h4).2 n
  rw [hf.ok] at this
  exact this
set_option maxHeartbeats 16000000 in
set_option maxRecDepth 100000 in
theorem followRises_any {E : Nat → Addr} (key : Int) (v : Value) (L : List Ent) (vn : Value) (N : List News) (nm : List UInt8) (w : World) (hL : LaidS E w) (hv : EntsAt w v L) (hm : ∀ e ∈ L, e.f.who.length ≤ maxLen) (hN : AtG newsC w vn N) (hnt : ∀ n ∈ N, n.text.length ≤ maxLen) (hnm : nm.length ≤ maxLen) :
    Calls Tryz.prog 4 #[.int .i64 key, v, vn, .string (bs nm)] w fun e w' => e = .returned (.bool true) ∧ Below w.heap.size w w' := by
  have hfo := Lib.hid (followed_any (E := E) w hL)
  have hEv := Lib.hid (fun wx (hx : Below w.heap.size w wx) => (show EntsAt wx v L from AtG.below hv hx))
  have hNv := Lib.hid (fun wx (hx : Below w.heap.size w wx) => (show AtG newsC wx vn N from AtG.below hN hx))
  have hlg := Lib.hid (fun wx (hx : Below w.heap.size w wx) => long_ent v L wx (hEv.out wx hx) hm)
  have hln := Lib.hid (fun wx (hx : Below w.heap.size w wx) => longN_any vn N wx (hNv.out wx hx) hnt)
  have hck := Lib.hid (fun wx (hx : Below w.heap.size w wx) => check_ent (E := E) v L wx (hL.below hx).laid (hEv.out wx hx) hm)
  have hnw := Lib.hid (fun wx (hx : Below w.heap.size w wx) => newFol_any (E := E) key wx (hL.below hx).laid)
  have hmH := Lib.hid hm
  obtain ⟨a0, c0, hv0⟩ := AtG.sl hv
  obtain ⟨an, cn, hn0⟩ := AtG.sl hN
  have hml := AtG.len hv
  have hnl := AtG.len hN
  have hns := bs_size nm
  unfold maxLen at hml hnl hnm
  subst hv0
  subst hn0
  have hLw := Lib.hid (fun wx (hx : Below w.heap.size w wx) => hL.below hx)
  clear hL hm hv hN hnt
  go_enter Tryz.func4, Tryz.ntmps4
  go_wp2_with fail
  refine hfo.out.mono ?_
  rintro e w1 ⟨rfl, hb1⟩
  have hlg1 := hlg.out _ hb1
  have hb1 := Lib.hid hb1
  clear hfo hlg
  cases hlo : longE L with
  | true =>
    rw [show longEI L = 1 by unfold longEI; rw [if_pos hlo]] at hlg1
    have hlg1 := Lib.hid hlg1
    clear hlo
    go_wp2_with fail
    refine hlg1.out.mono ?_
    rintro e w2 ⟨rfl, hb2⟩
    have hb2 := Lib.hid (below_trans hb1.out hb2)
    go_wp2_with fail
    go_ret
    exact ⟨rfl, hb2.out⟩
  | false =>
  rw [show longEI L = 0 by unfold longEI; rw [if_neg (by rw [hlo]; decide)]] at hlg1
  have hlg1 := Lib.hid hlg1
  have hl61 := (longE_false hlo).1
  clear hlo
  go_wp2_with fail
  refine hlg1.out.mono ?_
  rintro e w2 ⟨rfl, hb2⟩
  have hb2 := Lib.hid (below_trans hb1.out hb2)
  have hln2 := hln.out _ hb2.out
  clear hlg1 hln
  cases hlo : longN N with
  | true =>
    rw [hlo] at hln2
    have hln2 := Lib.hid hln2
    clear hlo
    go_wp2_with fail
    refine hln2.out.mono ?_
    rintro e w3 ⟨rfl, rfl⟩
    go_wp2_with fail
    go_ret
    exact ⟨rfl, hb2.out⟩
  | false =>
  rw [hlo] at hln2
  have hln2 := Lib.hid hln2
  have hN30 := (longN_false hlo).1
  clear hlo
  go_wp2_with fail
  refine hln2.out.mono ?_
  rintro e w3 ⟨rfl, rfl⟩
  clear hln2
  by_cases h20 : 20 < (bs nm).size
  case pos =>
    go_wp2_with fail
    go_ret
    exact ⟨rfl, hb2.out⟩
  have h20i : ¬ (20 : Int) < ((bs nm).size : Int) := by omega
  go_wp2_with fail
  refine (hck.out _ hb2.out).mono ?_
  rintro e w3 ⟨ev3, rfl, he3, hb3⟩
  have hb3 := Lib.hid (below_trans hb2.out hb3)
  clear hck
  by_cases hc : (checkE L).1 = 0
  case neg =>
    obtain ⟨T3, x3, rfl⟩ := he3.iface hc
    clear he3
    go_wp2_with fail
    go_ret
    exact ⟨rfl, hb3.out⟩
  obtain ⟨rfl, _⟩ := he3.zero hc
  clear he3 hc
  go_wp2_with fail
  refine (hnw.out _ hb3.out).mono ?_
  rintro e w4 ⟨hor4, hb4⟩
  have hb4H := Lib.hid (below_trans hb3.out hb4)
  rcases hor4 with ⟨hk, rfl⟩ | ⟨hk, bf, rfl, hF4⟩
  · simp only [errV]
    clear hb4
    go_wp2_with fail
    go_ret
    exact ⟨rfl, hb4H.out⟩
  have hF4H := Lib.hid (hF4.mono hb3.out.size)
  clear hb4 hF4 hnw hk
  go_wp2_with fail
  go_loopg [12] (N.length + 1) (fun g i wr => ∃ (j : Nat) (G : Fol), i = .int .i64 j ∧ j ≤ N.length ∧ N.length - j + 1 ≤ g ∧ Hid (NodeOk key L G ∧ FolAt wr w.heap.size bf G) ∧ Hid (Below w.heap.size w wr))
  case atStart => exact ⟨0, newFol key, rfl, Nat.zero_le _, by omega, Lib.hid ⟨newNode key L, hF4H.out⟩, hb4H⟩
  case round =>
    obtain ⟨j, G, rfl, hj, hg, hM, hK⟩ := hrel
    by_cases hlt : j < N.length
    · obtain ⟨_, _, he, _, _, _, hcs⟩ := hNv.out _ hK.out
      cases he
      obtain ⟨bb, oo, rfl, hc⟩ := hcs j hlt
      have hc := fun j u h => hc j u h
      generalize N[j] = nn at *
      obtain ⟨mn, fr, tm, ky, tx⟩ := nn
      have d0 : wr.cell? ⟨bb, oo + j * 5, none⟩ = some (.int .i64 mn) := hc 0 _ rfl
      have d1 : wr.cell? ⟨bb, oo + j * 5 + 1, none⟩ = some (.int .i64 fr) := hc 1 _ rfl
      have d2 : wr.cell? ⟨bb, oo + j * 5 + 2, none⟩ = some (.int .i64 tm) := hc 2 _ rfl
      have d3 : wr.cell? ⟨bb, oo + j * 5 + 3, none⟩ = some (.int .i64 ky) := hc 3 _ rfl
      have d4 : wr.cell? ⟨bb, oo + j * 5 + 4, none⟩ = some (.string (bs tx)) := hc 4 _ rfl
      clear hcs hc
      have hk0 : (0 : Int) ≤ (j : Int) := by omega
      have hk1 : (j : Int) < (N.length : Int) := by omega
      have hno := Lib.hid (fun wx (hx : Below w.heap.size w wx) => (show Calls Tryz.prog 21 #[.slice a0 L.length c0, .agg #[.int .i64 mn, .int .i64 fr, .int .i64 tm, .int .i64 key, .string ⟨#[]⟩]] wx _ from newsOf_any (.slice a0 L.length c0) L ⟨mn, fr, tm, key, []⟩ wx (hEv.out wx hx) hmH.out (by omega) (Nat.zero_le _)))
      have hnode := Lib.hid (news_node hM.out.1 ⟨mn, fr, tm, key, []⟩ rfl rfl)
      have hhl := Lib.hid (newsHead_len (L := L) (n := ⟨mn, fr, tm, key, []⟩) rfl)
      have hen := Lib.hid (newsEnts_len L ⟨mn, fr, tm, key, []⟩)
      have hnn := Lib.hid (news_names (L := L) (n := ⟨mn, fr, tm, key, []⟩) hmH.out)
      generalize newsHead L ⟨mn, fr, tm, key, []⟩ = hd at *
      generalize newsEnts L ⟨mn, fr, tm, key, []⟩ = M at *
      have hGn := Lib.hid (node_names hM.out.1 hmH.out)
      have hGl := Lib.hid (pre_len hM.out.1)
      have hGf := Lib.hid (show G.floors.length ≤ 1000 by rw [node_floors hM.out.1]; have := floorsE_len G.l; omega)
      have hri := Lib.hid (fun h => take_rises hM.out.1.ok (s := hd) (M := M) h nm)
      have hbad := Lib.hid (fun h => takeF_bad (f := G) (s := hd) (M := M) h)
      have hcp := Lib.hid (fun wx (h : FolAt wx w.heap.size bf G) => copy_fol w.heap.size bf G wx h (by have := hGl.out; omega) hGf.out)
      have htk := Lib.hid (fun vx wx (hx : Below w.heap.size w wx) (hG : FolAt wx w.heap.size bf G) (hvx : EntsAt wx vx M) => take_fol (E := E) w.heap.size bf G hd vx M wx (hLw.out _ hx) hG hvx hnn.out hGn.out (by have := hGl.out; have := hen.out; omega) (by have := hhl.out; omega) hx.size)
      generalize htd : takeF G hd M = T at *
      obtain ⟨tc, G'⟩ := T
      dsimp only at hnode hri hbad htk
      clear hnn hhl hen htd
      go_wp2_with fail
      refine (hno.out _ (hK.out.alloc hK.out.size _)).mono ?_
      rintro e w5 ⟨⟨v5, rfl, hv5⟩, hb5⟩
      have hK5 := Lib.hid (below_trans (hK.out.alloc hK.out.size _) hb5)
      have hF5 := Lib.hid ((hM.out.2.below ((Below.refl _ _).alloc (Nat.le_refl _) _)).below hb5)
      have hv5H := Lib.hid hv5
      have hcp5 := Lib.hid (hcp.out _ hF5.out)
      clear hb5 hv5 d0 d1 d2 d3 d4 hcp hno
      go_wp2_with fail
      refine hcp5.out.mono ?_
      rintro e w6 ⟨bw, rfl, hW6, hb6⟩
      have hK6 := Lib.hid (below_trans hK5.out hb6)
      have hF6 := Lib.hid (hF5.out.below hb6)
      have hne : bf ≠ bw := by have := hF5.out.lt; have := hW6.1; omega
      have hW6 := Lib.hid (hW6.mono hK5.out.size)
      have htk6 := Lib.hid (htk.out v5 _ hK6.out hF6.out (AtG.below hv5H.out hb6))
      clear hb6 hcp5 htk hv5H
      have hsqF := Lib.hid (fun wx (h : FolAt wx w.heap.size bf G') => seq_fol w.heap.size bf G' wx h)
      have hsqW := Lib.hid (fun wx (h : FolAt wx w.heap.size bw G) => seq_fol w.heap.size bw G wx h)
      have htmF := Lib.hid (fun wx (h : FolAt wx w.heap.size bf G') => time_fol w.heap.size bf G' wx h)
      have htmW := Lib.hid (fun wx (h : FolAt wx w.heap.size bw G) => time_fol w.heap.size bw G wx h)
      have hGf' := Lib.hid (show G'.floors.length ≤ 1000 by rw [node_floors hnode.out.1]; have := floorsE_len G'.l; omega)
      have hGl' := Lib.hid (pre_len hnode.out.1)
      have hflF := Lib.hid (fun wx (h : FolAt wx w.heap.size bf G') => floors_fol w.heap.size bf G' wx h hGf'.out)
      have hflW := Lib.hid (fun wx (h : FolAt wx w.heap.size bw G) => floors_fol w.heap.size bw G wx h hGf.out)
      have henF := Lib.hid (fun wx (h : FolAt wx w.heap.size bf G') => entries_fol w.heap.size bf G' wx h (by have := hGl'.out; omega))
      go_wp2_with fail
      refine htk6.out.mono ?_
      rintro e w7 ⟨rfl, hF7, hk7⟩
      have hW7 := Lib.hid (hW6.out.other hF6.out (Ne.symm hne) hk7)
      have hK7 := Lib.hid (below_keeps hK6.out hF7.1 hk7)
      have hF7 := Lib.hid hF7
      clear hk7 htk6
      cases tc with
      | succ cd =>
        rw [errV_succ]
        obtain rfl : G = G' := (hbad.out (Nat.succ_ne_zero cd)).symm
        clear hri hbad
        go_wp2_with fail
        refine (hsqF.out _ hF7.out).mono ?_
        rintro e w8 ⟨rfl, hb8⟩
        have hK8 := Lib.hid (below_trans hK7.out hb8)
        have hF8 := Lib.hid (hF7.out.below hb8)
        have hW8 := Lib.hid (hW7.out.below hb8)
        clear hb8
        go_wp2_with fail
        refine (hsqW.out _ hW8.out).mono ?_
        rintro e w9 ⟨rfl, hb9⟩
        have hK9 := Lib.hid (below_trans hK8.out hb9)
        have hF9 := Lib.hid (hF8.out.below hb9)
        have hW9 := Lib.hid (hW8.out.below hb9)
        clear hb9
        go_wp2_with fail
        refine (htmF.out _ hF9.out).mono ?_
        rintro e w10 ⟨rfl, hb10⟩
        have hK10 := Lib.hid (below_trans hK9.out hb10)
        have hF10 := Lib.hid (hF9.out.below hb10)
        have hW10 := Lib.hid (hW9.out.below hb10)
        clear hb10
        go_wp2_with fail
        refine (htmW.out _ hW10.out).mono ?_
        rintro e w11 ⟨rfl, hb11⟩
        have hK11 := Lib.hid (below_trans hK10.out hb11)
        have hF11 := Lib.hid (hF10.out.below hb11)
        have hW11 := Lib.hid (hW10.out.below hb11)
        clear hb11
        go_wp2_with fail
        refine (hflF.out _ hF11.out).mono ?_
        rintro e w12 ⟨v12, rfl, hr12, hb12⟩
        have hK12 := Lib.hid (below_trans hK11.out hb12)
        have hF12 := Lib.hid (hF11.out.below hb12)
        have hW12 := Lib.hid (hW11.out.below hb12)
        have hr12 := Lib.hid hr12
        clear hb12
        go_wp2_with fail
        refine (hflW.out _ hW12.out).mono ?_
        rintro e w13 ⟨v13, rfl, hr13, hb13⟩
        have hK13 := Lib.hid (below_trans hK12.out hb13)
        have hF13 := Lib.hid (hF12.out.below hb13)
        have hW13 := Lib.hid (hW12.out.below hb13)
        have hsm := Lib.hid (samef_flo _ _ _ w13 (floorsAt_of (RowG.at_ (floRow_G.1 (FlRow.below hr12.out hb13)))) (floorsAt_of (RowG.at_ (floRow_G.1 hr13))))
        clear hr12 hr13
        clear hb13
        go_wp2_with fail
        refine (hsm.out).mono ?_
        rintro e w14 ⟨rfl, hb14⟩
        have hK14 := Lib.hid (below_trans hK13.out hb14)
        have hF14 := Lib.hid (hF13.out.below hb14)
        clear hb14
        go_wp2_with fail
        go_roundg (N.length - j)
        case measure => omega
        case rel => exact ⟨j + 1, G, by simp, hlt, by omega, Lib.hid ⟨hnode.out.1, hF14.out⟩, hK14⟩
      | zero =>
        rw [errV_zero]
        have hl1 := hnode.out.2.1
        have ht1 := hnode.out.2.2
        have hri := hri.out rfl
        have hl1i : ¬ ((G'.l.length : Int) < (G.l.length : Int)) := by omega
        have ht1i : ¬ (G'.time < G.time) := by omega
        have hri1 : ¬ (ofF G'.floors nm < ofF G.floors nm) := by omega
        clear hbad ht1 hl1
        have hofF := Lib.hid (fun vx wx (h : FloorsAt wx vx G'.floors) => of_flo vx G'.floors nm wx h (fun f hf => who_len ((floorsE_good (L := G'.l) (by rw [hnode.out.1.ok.ok])).g.one f (by rw [← node_floors hnode.out.1]; exact hf))))
        have hofW := Lib.hid (fun vx wx (h : FloorsAt wx vx G.floors) => of_flo vx G.floors nm wx h (fun f hf => who_len ((floorsE_good (L := G.l) (by rw [hM.out.1.ok.ok])).g.one f (by rw [← node_floors hM.out.1]; exact hf))))
        have hfeF := Lib.hid (fun vx wx (hx : Below w.heap.size w wx) (h : EntsAt wx vx G'.l) => (by
          have h := floors_ent (E := E) vx G'.l wx (hLw.out _ hx).laid h (node_names hnode.out.1 hmH.out)
          rw [hnode.out.1.ok.ok] at h
          exact h : Calls Tryz.prog 24 #[vx] wx fun e w' => RaiseRes E wx.heap.size w' (G'.floors, 0, -1) e ∧ Below wx.heap.size wx w'))
        have hpre := Lib.hid hnode.out.1.pre
        have hLl := hGl'.out
        go_wp2_with fail
        refine (hsqF.out _ hF7.out).mono ?_
        rintro e w8 ⟨rfl, hb8⟩
        have hK8 := Lib.hid (below_trans hK7.out hb8)
        have hF8 := Lib.hid (hF7.out.below hb8)
        have hW8 := Lib.hid (hW7.out.below hb8)
        clear hb8
        go_wp2_with fail
        refine (hsqW.out _ hW8.out).mono ?_
        rintro e w9 ⟨rfl, hb9⟩
        have hK9 := Lib.hid (below_trans hK8.out hb9)
        have hF9 := Lib.hid (hF8.out.below hb9)
        have hW9 := Lib.hid (hW8.out.below hb9)
        clear hb9
        go_wp2_with fail
        refine (htmF.out _ hF9.out).mono ?_
        rintro e w10 ⟨rfl, hb10⟩
        have hK10 := Lib.hid (below_trans hK9.out hb10)
        have hF10 := Lib.hid (hF9.out.below hb10)
        have hW10 := Lib.hid (hW9.out.below hb10)
        clear hb10
        go_wp2_with fail
        refine (htmW.out _ hW10.out).mono ?_
        rintro e w11 ⟨rfl, hb11⟩
        have hK11 := Lib.hid (below_trans hK10.out hb11)
        have hF11 := Lib.hid (hF10.out.below hb11)
        have hW11 := Lib.hid (hW10.out.below hb11)
        clear hb11
        go_wp2_with fail
        refine (hflF.out _ hF11.out).mono ?_
        rintro e w12 ⟨v12, rfl, hr12, hb12⟩
        have hK12 := Lib.hid (below_trans hK11.out hb12)
        have hF12 := Lib.hid (hF11.out.below hb12)
        have hW12 := Lib.hid (hW11.out.below hb12)
        have hof12 := Lib.hid (hofF.out _ w12 (floorsAt_of (RowG.at_ (floRow_G.1 hr12))))
        clear hr12
        clear hb12
        go_wp2_with fail
        refine (hof12.out).mono ?_
        rintro e w13 ⟨rfl, hb13⟩
        have hK13 := Lib.hid (below_trans hK12.out hb13)
        have hF13 := Lib.hid (hF12.out.below hb13)
        have hW13 := Lib.hid (hW12.out.below hb13)
        clear hof12
        clear hb13
        go_wp2_with fail
        refine (hflW.out _ hW13.out).mono ?_
        rintro e w14 ⟨v14, rfl, hr14, hb14⟩
        have hK14 := Lib.hid (below_trans hK13.out hb14)
        have hF14 := Lib.hid (hF13.out.below hb14)
        have hW14 := Lib.hid (hW13.out.below hb14)
        have hof14 := Lib.hid (hofW.out _ w14 (floorsAt_of (RowG.at_ (floRow_G.1 hr14))))
        clear hr14
        clear hb14
        go_wp2_with fail
        refine (hof14.out).mono ?_
        rintro e w15 ⟨rfl, hb15⟩
        have hK15 := Lib.hid (below_trans hK14.out hb15)
        have hF15 := Lib.hid (hF14.out.below hb15)
        clear hof14
        clear hb15
        go_wp2_with fail
        refine (henF.out _ hF15.out).mono ?_
        rintro e w16 ⟨v16, rfl, hr16, hb16⟩
        have hK16 := Lib.hid (below_trans hK15.out hb16)
        have hF16 := Lib.hid (hF15.out.below hb16)
        have hfe16 := Lib.hid (hfeF.out _ w16 hK16.out (EntRow.at_ hr16))
        clear hr16
        clear hb16
        go_wp2_with fail
        refine (hfe16.out).mono ?_
        rintro e w17 ⟨⟨v17, ev17, rfl, hr17, he17⟩, hb17⟩
        have hK17 := Lib.hid (below_trans hK16.out hb17)
        have hF17 := Lib.hid (hF16.out.below hb17)
        obtain ⟨rfl, _⟩ := he17.zero rfl
        have hr17 := Lib.hid hr17
        obtain ⟨a17, c17, hs17⟩ := hr17.out.sl
        subst hs17
        clear he17 hfe16
        clear hb17
        go_wp2_with fail
        refine (hflF.out _ hF17.out).mono ?_
        rintro e w18 ⟨v18, rfl, hr18, hb18⟩
        have hK18 := Lib.hid (below_trans hK17.out hb18)
        have hF18 := Lib.hid (hF17.out.below hb18)
        have hsm := Lib.hid (samef_flo _ _ _ w18 (floorsAt_of (RowG.at_ (floRow_G.1 (FlRow.below hr17.out hb18)))) (floorsAt_of (RowG.at_ (floRow_G.1 hr18))))
        clear hr18
        clear hb18
        go_wp2_with fail
        refine (hsm.out).mono ?_
        rintro e w19 ⟨rfl, hb19⟩
        have hK19 := Lib.hid (below_trans hK18.out hb19)
        have hF19 := Lib.hid (hF18.out.below hb19)
        clear hsm
        clear hb19
        go_wp2_with fail
        refine (hsqF.out _ hF19.out).mono ?_
        rintro e w20 ⟨rfl, hb20⟩
        have hK20 := Lib.hid (below_trans hK19.out hb20)
        have hF20 := Lib.hid (hF19.out.below hb20)
        clear hb20
        go_wp2_with fail
        refine (henF.out _ hF20.out).mono ?_
        rintro e w21 ⟨v21, rfl, hr21, hb21⟩
        have hK21 := Lib.hid (below_trans hK20.out hb21)
        have hF21 := Lib.hid (hF20.out.below hb21)
        have hr21 := Lib.hid hr21
        clear hb21
        have hcap : L.length ≤ c0 := by
          obtain ⟨_, _, he, _, h, _⟩ := hEv.out _ hK21.out
          cases he
          exact h
        have hcap2 : G'.l.length ≤ c0 := by omega
        go_wp2_with fail
        refine (hsqF.out _ hF21.out).mono ?_
        rintro e w22 ⟨rfl, hb22⟩
        have hK22 := Lib.hid (below_trans hK21.out hb22)
        have hF22 := Lib.hid (hF21.out.below hb22)
        have hsm := Lib.hid (same_ent _ (.slice a0 G'.l.length c0) G'.l w22 (EntRow.at_ (RowG.below hr21.out hb22)) (by have h := AtG.take (hEv.out _ hK22.out) (n := G'.l.length) hLl; rw [← hpre.out] at h; exact h))
        clear hr21
        clear hb22
        go_wp2_with fail
        refine (hsm.out).mono ?_
        rintro e w23 ⟨rfl, hb23⟩
        have hK23 := Lib.hid (below_trans hK22.out hb23)
        have hF23 := Lib.hid (hF22.out.below hb23)
        clear hsm
        clear hb23
        go_wp2_with fail
        go_roundg (N.length - j)
        case measure => omega
        case rel => exact ⟨j + 1, G', by simp, hlt, by omega, Lib.hid ⟨hnode.out.1, hF23.out⟩, hK23⟩
    · have hge : ¬ ((j : Int) < (N.length : Int)) := by omega
      go_wp2_with fail
      go_ret
      exact ⟨rfl, hK.out⟩
end Go.Proofs.YtpkcndohjmpdeaaGreatDoor
