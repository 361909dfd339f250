/- GateA -/
import Derived.Test.YtadnjdchjoechaaGreatDoorMg31
import Derived.Test.YtadnjdchjoechaaGreatDoorMg33
import Derived.Test.YtadnjdchjoechaaGreatDoorMg34
import Derived.Test.YtadnjdchjoechaaGreatDoorMg26
import Derived.Test.YtadnjdchjoechaaGreatDoorMg27
/- GateActs: walked. -/
namespace Go.Proofs.YtadnjdchjoechaaGreatDoor
open Go.RowKit

theorem eight_cell {w : World} {n : Nat} {v0 v1 v2 v3 v4 v5 v6 v7 : Value} {T : TypeId} (h : w.heap[n]? = some (.cells #[v0, v1, v2, v3, v4, v5, v6, v7] T (0, 0))) : w.cell? ⟨n, 0, none⟩ = some v0 ∧ w.cell? ⟨n, 1, none⟩ = some v1 ∧ w.cell? ⟨n, 2, none⟩ = some v2 ∧ w.cell? ⟨n, 3, none⟩ = some v3 ∧ w.cell? ⟨n, 4, none⟩ = some v4 ∧ w.cell? ⟨n, 5, none⟩ = some v5 ∧ w.cell? ⟨n, 6, none⟩ = some v6 ∧ w.cell? ⟨n, 7, none⟩ = some v7 := by
  refine ⟨?_, ?_, ?_, ?_, ?_, ?_, ?_, ?_⟩
  all_goals (rw [cell_of_row _ _ _ _ _ _ h]; rfl)
theorem knock_ne_gate : (40 : TypeId) ≠ 62 := by decide
theorem askG_code (g : Gat) (s : List UInt8) (now : Int) : (askG g s now).2 ≤ 16 := by
  unfold askG
  split
  · exact freshG_code g now
  split
  · exact openT_code _ _
  split
  · exact (by decide : (4 : Nat) ≤ 16)
  split
  · exact goodT_code _ _
  split
  · exact (by decide : (13 : Nat) ≤ 16)
  · exact (by decide : (0 : Nat) ≤ 16)
theorem newG_code (n : List UInt8) (key realm old : Int) : newG n key realm old ≤ 16 := by
  unfold newG
  split
  · decide
  split
  · decide
  split <;> decide
/-- The program's gate and the reference's, side by side. -/
structure TwoG (base b pf rb rpf : Nat) (g g' : Gat) (wx : World) : Prop where
  at_ : GateAt wx base b pf g
  ref : RGateAt wx base rb rpf g'
theorem TwoG.below {base b pf rb rpf : Nat} {g g' : Gat} {wx wy : World} (h : TwoG base b pf rb rpf g g' wx) (hb : Below wx.heap.size wx wy) : TwoG base b pf rb rpf g g' wy := ⟨h.at_.below hb, h.ref.below hb⟩
theorem TwoG.take1 {base b pf rb rpf : Nat} {n : List UInt8} {key old : Int} {f f' : Fol} {g' : Gat} {wx wy : World} (h : TwoG base b pf rb rpf ⟨n, key, old, f⟩ g' wx) (hf : FolAt wy base pf f') (hk : Keeps (· = pf) wx wy) : TwoG base b pf rb rpf ⟨n, key, old, f'⟩ g' wy :=
  ⟨h.at_.take hf hk, h.ref.foreign hk (fun k e => by
    subst e
    obtain ⟨cs, h1⟩ := h.at_.fol.blk
    exact ⟨cs, _, h1, fun e => rfol_ne_fol e.symm, fun e => ent_ne_fol e.symm, fun e => rgate_ne_fol e.symm⟩)⟩
theorem TwoG.take2 {base b pf rb rpf : Nat} {n : List UInt8} {key old : Int} {f f' : Fol} {g : Gat} {wx wy : World} (h : TwoG base b pf rb rpf g ⟨n, key, old, f⟩ wx) (hf : RFolAt wy base rpf f') (hk : Keeps (· = rpf) wx wy) : TwoG base b pf rb rpf g ⟨n, key, old, f'⟩ wy :=
  ⟨h.at_.foreign hk (fun k e => by subst e; exact h.ref.fol.blk), h.ref.take hf hk⟩
theorem TwoG.key2 {base b pf rb rpf : Nat} {n : List UInt8} {key old : Int} {f : Fol} {g : Gat} {wx : World} (h : TwoG base b pf rb rpf g ⟨n, key, old, f⟩ wx) (k : Int) : TwoG base b pf rb rpf g ⟨n, k, old, f⟩ (wx.setCell ⟨rb, 1, none⟩ (.int .i64 k)) :=
  ⟨h.at_.foreign2 (h.ref.rekey k).2 (fun j e => by subst e; exact ⟨_, _, h.ref.blk, rgate_ne_fol, rgate_ne_ent, rgate_ne_flo, rgate_ne_gate⟩), (h.ref.rekey k).1⟩
theorem TwoG.key1 {base b pf rb rpf : Nat} {g g1 g' : Gat} {wx wy : World} (h : TwoG base b pf rb rpf g g' wx) (h1 : GateAt wy base b pf g1) (hk : Keeps (· = b) wx wy) : TwoG base b pf rb rpf g1 g' wy :=
  ⟨h1, h.ref.foreign hk (fun j e => by subst e; exact ⟨_, _, h.at_.blk, gate_ne_rfol, gate_ne_ent, fun e => rgate_ne_gate e.symm⟩)⟩
theorem below_keeps2 {w w1 w2 : World} {b : Nat} (h : Below w.heap.size w w1) (hb : w.heap.size ≤ b) (hk : Keeps (· = b) w1 w2) : Below w.heap.size w w2 := below_keeps h hb hk
set_option maxHeartbeats 32000000 in
set_option maxRecDepth 100000 in
theorem gateActs_any {E : Nat → Addr} (nm : List UInt8) (key own old : Int) (v : Value) (L : List Ent) (vm : Value) (M : List Knock) (w : World) (hL : LaidF E w) (hnm : nm.length ≤ maxLen) (hv : EntsAt w v L) (hm : ∀ e ∈ L, e.f.who.length ≤ maxLen) (hM : AtG knockC w vm M) (hmm : ∀ n ∈ M, n.kind.length ≤ maxLen ∧ n.s.length ≤ maxLen ∧ n.w.text.length ≤ maxLen) :
    Calls Tryz.prog 4 #[.string (bs nm), .int .i64 key, .int .i64 own, .int .i64 old, v, vm] w fun e w' => e = .returned (.bool true) ∧ Below w.heap.size w w' := by
  have hfo := Lib.hid (gated_any (E := E) w hL)
  have hEv := Lib.hid (fun wx (hx : Below w.heap.size w wx) => (show EntsAt wx v L from AtG.below hv hx))
  have hvH := Lib.hid hv
  have hMv := Lib.hid (fun wx (hx : Below w.heap.size w wx) => (show AtG knockC wx vm M from AtG.below hM hx))
  have hlg := Lib.hid (fun wx (hx : Below w.heap.size w wx) => long_ent v L wx (hEv.out wx hx) hm)
  have hln := Lib.hid (fun wx (hx : Below w.heap.size w wx) => longK_any vm M wx (hMv.out wx hx) hmm)
  have hnt := Lib.hid (fun wx (hx : Below w.heap.size w wx) => newG_any (E := E) nm key own old wx (hL.s.below hx).laid hnm)
  have hnr := Lib.hid (fun wx (_ : Below w.heap.size w wx) => newGR_any nm key own old wx hnm)
  have hcd := Lib.hid (fun c wx (hx : Below w.heap.size w wx) (hc : c ≤ 16) => coded_same (E := E) c wx (hL.r.below hx) hc)
  have hmH := Lib.hid hm
  have hns := bs_size nm
  obtain ⟨a0, c0, hv0⟩ := AtG.sl hv
  obtain ⟨an, cn, hn0⟩ := AtG.sl hM
  have hml := AtG.len hv
  have hnl := AtG.len hM
  unfold maxLen at hml hnl hnm
  subst hv0
  subst hn0
  have hLw := Lib.hid (fun wx (hx : Below w.heap.size w wx) => hL.below hx)
  clear hL hm hv hM hmm
  go_enter Tryz.func4, Tryz.ntmps4
  go_wp2_with fail
  refine hfo.out.mono ?_
  rintro e w1 ⟨rfl, hb1⟩
  have hlg1 := hlg.out _ hb1
  have hb1 := Lib.hid hb1
  clear hfo hlg
  by_cases h20 : 20 < (bs nm).size
  case pos =>
    go_wp2_with fail
    go_ret
    exact ⟨rfl, hb1.out⟩
  have h20i : ¬ (20 : Int) < ((bs nm).size : Int) := by omega
  cases hlo : longE L with
  | true =>
    rw [show longEI L = 1 by unfold longEI; rw [if_pos hlo]] at hlg1
    have hlg1 := Lib.hid hlg1
    clear hlo
    go_wp2_with fail
    refine hlg1.out.mono ?_
    rintro e w2 ⟨rfl, hb2⟩
    have hb2 := Lib.hid (below_trans hb1.out hb2)
    go_wp2_with fail
    go_ret
    exact ⟨rfl, hb2.out⟩
  | false =>
  rw [show longEI L = 0 by unfold longEI; rw [if_neg (by rw [hlo]; decide)]] at hlg1
  have hlg1 := Lib.hid hlg1
  have hl61 := (longE_false hlo).1
  clear hlo
  go_wp2_with fail
  refine hlg1.out.mono ?_
  rintro e w2 ⟨rfl, hb2⟩
  have hb2 := Lib.hid (below_trans hb1.out hb2)
  have hln2 := hln.out _ hb2.out
  clear hlg1 hln
  cases hlo : longK M with
  | true =>
    rw [hlo] at hln2
    have hln2 := Lib.hid hln2
    clear hlo
    go_wp2_with fail
    refine hln2.out.mono ?_
    rintro e w3 ⟨rfl, rfl⟩
    go_wp2_with fail
    go_ret
    exact ⟨rfl, hb2.out⟩
  | false =>
  rw [hlo] at hln2
  have hln2 := Lib.hid hln2
  have hM40 := (longK_false hlo).1
  have hM200 := Lib.hid (longK_false hlo).2
  clear hlo
  go_wp2_with fail
  refine hln2.out.mono ?_
  rintro e w3 ⟨rfl, rfl⟩
  have hnt3 := Lib.hid (hnt.out _ hb2.out)
  clear hln2 hnt
  go_wp2_with fail
  refine hnt3.out.mono ?_
  rintro e w4 ⟨hor4, hb4⟩
  have hb4H := Lib.hid (below_trans hb2.out hb4)
  have hnr4 := Lib.hid (hnr.out w4 hb4H.out)
  have hcode := newG_code nm key own old
  rcases hor4 with ⟨hz, rfl⟩ | ⟨hz, b, pf, rfl, hG4⟩
  · have hnr4 := Lib.hid (hnr4.out.mono (R' := fun e w' => e = .returned (.tuple #[.pointer none, .int .i64 (newG nm key own old : Nat)]) ∧ Below w4.heap.size w4 w') (fun e w' ⟨hor, hb⟩ => by
      rcases hor with ⟨_, h⟩ | ⟨h, _⟩
      · exact ⟨h, hb⟩
      · exact absurd h hz))
    have hcd4 := Lib.hid (fun wx (hx : Below w4.heap.size w4 wx) => hcd.out _ wx (below_trans hb4H.out hx) hcode)
    generalize newG nm key own old = r at *
    obtain ⟨T1, x1, hev⟩ := errV_form E hz
    rw [hev] at hcd4 ⊢
    have hz1 : (0 : Int) < (r : Int) := by omega
    generalize (r : Int) = zi at *
    clear hev hb4 hz hcode
    go_wp2_with fail
    refine hnr4.out.mono ?_
    rintro e w5 ⟨rfl, hb5⟩
    have hK5 := Lib.hid (below_trans hb4H.out hb5)
    have hcd5 := Lib.hid (hcd4.out _ hb5)
    clear hb5 hnr4 hcd4
    go_wp2_with fail
    refine hcd5.out.mono ?_
    rintro e w6 ⟨rfl, hb6⟩
    have hfin := Lib.hid (below_trans hK5.out hb6)
    clear hb6
    go_wp2_with fail
    go_ret
    exact ⟨rfl, hfin.out⟩
  have hnr4 := Lib.hid (hnr4.out.mono (R' := fun e w' => (∃ b pf, e = .returned (.tuple #[.pointer (some ⟨b, 0, none⟩), .int .i64 0]) ∧ RGateAt w' w4.heap.size b pf ⟨nm, key, old, newFol own⟩) ∧ Below w4.heap.size w4 w') (fun e w' ⟨hor, hb⟩ => by
    rcases hor with ⟨h, _⟩ | ⟨_, h⟩
    · exact absurd hz h
    · exact ⟨h, hb⟩))
  obtain ⟨_, _, _, ho0, ho1⟩ := newG_zero hz
  have hG4 := Lib.hid (hG4.mono hb2.out.size)
  have hO4 := Lib.hid (show GOk ⟨nm, key, old, newFol own⟩ from gok_of (FOk.new own) ho0 ho1 (by omega))
  clear hz hb4 hnt3 ho0 ho1 hcode
  go_wp2_with fail
  refine hnr4.out.mono ?_
  rintro e w5 ⟨⟨rb, rpf, rfl, hR5⟩, hb5⟩
  have hK5 := Lib.hid (below_trans hb4H.out hb5)
  have hS5 := Lib.hid (show TwoG w.heap.size b pf rb rpf _ _ w5 from ⟨hG4.out.below hb5, hR5.mono hb4H.out.size⟩)
  clear hb5 hR5 hnr4
  go_wp2_with fail
  go_loopg [18] (M.length + 1) (fun g i wr => ∃ (j : Nat) (G : Gat), i = .int .i64 j ∧ j ≤ M.length ∧ M.length - j + 1 ≤ g ∧ Hid (GOk G) ∧ Hid (TwoG w.heap.size b pf rb rpf G G wr) ∧ Hid (Below w.heap.size w wr))
  case atStart => exact ⟨0, ⟨nm, key, old, newFol own⟩, rfl, Nat.zero_le _, by omega, hO4, hS5, hK5⟩
  case round =>
    clear hS5 hK5 hG4 hO4 hb4H
    obtain ⟨j, G, rfl, hj, hg, hO, hS, hKw⟩ := hrel
    by_cases hlt : j < M.length
    · obtain ⟨_, _, he, _, _, _, hcs⟩ := hMv.out _ hKw.out
      cases he
      obtain ⟨bb, oo, rfl, hc⟩ := hcs j hlt
      have hn2 := hM200.out M[j] (List.getElem_mem hlt)
      generalize M[j] = nn at *
      obtain ⟨kd, ks, n, mn, fr, tm, ky, tx⟩ := nn
      obtain ⟨hn1, hn2⟩ : ks.length ≤ 200 ∧ tx.length ≤ 200 := hn2
      have d0 : wr.cell? ⟨bb, oo + j * 8, none⟩ = some (.string (bs kd)) := hc 0 _ rfl
      have d1 : wr.cell? ⟨bb, oo + j * 8 + 1, none⟩ = some (.string (bs ks)) := hc 1 _ rfl
      have d2 : wr.cell? ⟨bb, oo + j * 8 + 2, none⟩ = some (.int .i64 n) := hc 2 _ rfl
      have d3 : wr.cell? ⟨bb, oo + j * 8 + 3, none⟩ = some (.int .i64 mn) := hc 3 _ rfl
      have d4 : wr.cell? ⟨bb, oo + j * 8 + 4, none⟩ = some (.int .i64 fr) := hc 4 _ rfl
      have d5 : wr.cell? ⟨bb, oo + j * 8 + 5, none⟩ = some (.int .i64 tm) := hc 5 _ rfl
      have d6 : wr.cell? ⟨bb, oo + j * 8 + 6, none⟩ = some (.int .i64 ky) := hc 6 _ rfl
      have d7 : wr.cell? ⟨bb, oo + j * 8 + 7, none⟩ = some (.string (bs tx)) := hc 7 _ rfl
      clear hcs hc
      have hk0 : (0 : Int) ≤ (j : Int) := by omega
      have hk1 : (j : Int) < (M.length : Int) := by omega
      have hal1 := fun o => (show Below wr.heap.size wr (wr.alloc o) from (Below.refl _ _).alloc (Nat.le_refl _) o)
      have hKa := Lib.hid (fun o => below_trans hKw.out (hal1 o))
      have hSa := Lib.hid (fun o => hS.out.below (hal1 o))
      clear hal1
      go_upto_region 14 with fail
      generalize hWo : wr.alloc (.cells #[.string (bs kd), .string (bs ks), .int .i64 n, .int .i64 mn, .int .i64 fr, .int .i64 tm, .int .i64 ky, .string (bs tx)] 40) = W at *
      have hKW := Lib.hid (show Below w.heap.size w W by rw [← hWo]; exact hKa.out _)
      have hSW := Lib.hid (show TwoG w.heap.size b pf rb rpf G G W by rw [← hWo]; exact hSa.out _)
      have hbx := heap_alloc_new wr (.cells #[.string (bs kd), .string (bs ks), .int .i64 n, .int .i64 mn, .int .i64 fr, .int .i64 tm, .int .i64 ky, .string (bs tx)] 40)
      rw [hWo] at hbx
      have hbxH := Lib.hid hbx
      generalize wr.heap.size = bxn at *
      obtain ⟨x0, x1, x2, x3, x4, x5, x6, x7⟩ := eight_cell hbx
      obtain ⟨gn, gk, go, gf⟩ := G
      clear hKa hSa hWo hbx d0 d1 d2 d3 d4 d5 d6 d7 hS hKw
      by_cases hpu : kd = [116, 97, 107, 101]
      · have e1 : ((bs kd).toList == [116, 97, 107, 101]) = true := by rw [hpu, toList_data]; rfl
        have e1b : (bs kd).toList = [116, 97, 107, 101] := by rw [hpu, toList_data]; rfl
        have hno := Lib.hid (newsOf_from w (.slice a0 L.length c0) L ⟨mn, fr, tm, ky, tx⟩ W hKW.out hvH.out hmH.out (by omega) (by unfold maxLen; dsimp only; omega))
        have hhl := Lib.hid (newsHead_le (L := L) (n := ⟨mn, fr, tm, ky, tx⟩) hn2)
        have hen := Lib.hid (newsEnts_le L ⟨mn, fr, tm, ky, tx⟩)
        have hnn := Lib.hid (newsEnts_names (L := L) (n := ⟨mn, fr, tm, ky, tx⟩) hmH.out)
        generalize newsHead L ⟨mn, fr, tm, ky, tx⟩ = hd at *
        generalize newsEnts L ⟨mn, fr, tm, ky, tx⟩ = ME at *
        dsimp only [News.val] at hno
        have hOf := Lib.hid (show FOk gf from hO.out.f)
        have hO' := Lib.hid (show GOk ⟨gn, gk, go, (takeF gf hd ME).2⟩ from gok_of (hOf.out.take hhl.out hnn.out) hO.out.o0 hO.out.o1 hO.out.n)
        have htc := takeF_code gf hd ME
        have hol := Lib.hid (show ME.length ≤ 1000 by have := hen.out; omega)
        have htg := Lib.hid (fun g' vx wx (hx : Below w.heap.size w wx) (h : TwoG w.heap.size b pf rb rpf ⟨gn, gk, go, gf⟩ g' wx) (hvx : EntsAt wx vx ME) => (show Calls Tryz.prog 12 #[.pointer (some ⟨b, 0, none⟩), .string (bs hd), vx] wx fun e w' => e = .returned (errV E (takeF gf hd ME).1) ∧ FolAt w' w.heap.size pf (takeF gf hd ME).2 ∧ Keeps (· = pf) wx w' from takeG_any (E := E) w.heap.size b pf ⟨gn, gk, go, gf⟩ hd vx ME wx (hLw.out _ hx).s h.at_ hOf.out hvx hnn.out hol.out hhl.out hx.size))
        have htr := Lib.hid (fun g1 vx wx (hx : Below w.heap.size w wx) (h : TwoG w.heap.size b pf rb rpf g1 ⟨gn, gk, go, gf⟩ wx) (hvx : EntsAt wx vx ME) => takeR_fol w.heap.size rpf gf hd vx ME wx h.ref.fol hvx hnn.out hOf.out.nm (by have := hOf.out.l60; have := hen.out; omega) (by have := hhl.out; omega) hx.size)
        generalize htd : takeF gf hd ME = TT at *
        obtain ⟨tc, F'⟩ := TT
        dsimp only at hO' htc htg htr
        clear hnn hhl hen htd hpu x1 x2 hbxH hn1 hn2
        go_wp2_with fail
        refine hno.out.mono ?_
        rintro e w5 ⟨⟨v5, rfl, hv5⟩, hb5⟩
        have hK5 := Lib.hid (below_trans hKW.out hb5)
        have hS5 := Lib.hid (hSW.out.below hb5)
        have hv5H := Lib.hid hv5
        clear hb5 hv5 hno x0 x3 x4 x5 x6 x7
        have hr1 : rb ≠ pf := fun e => by
          obtain ⟨cs, h1⟩ := hS5.out.at_.fol.blk
          have h2 := hS5.out.ref.blk
          rw [e, h1] at h2
          injection h2 with h2
          injection h2 with _ h2 _
          exact rgate_ne_fol h2.symm
        have hr2 : rb ≠ rpf := hS5.out.ref.ne
        have hcell := (rgate_cells hS5.out.ref).1.2.2.2
        have hkS := Lib.hid (fun wx (hx : Keeps (fun k => k = pf ∨ k = rpf) w5 wx) => hx.cell hcell (fun hs => by rcases hs with h | h; exact hr1 h; exact hr2 h))
        have hD0 := Lib.hid (show Below w5.heap.size w5 w5.drew from (Below.refl _ _).drew)
        have hkD := Lib.hid (show Keeps (fun k => k = pf ∨ k = rpf) w5 w5.drew from Keeps.of_below hD0.out)
        have hcD := hkS.out _ hkD.out
        have hown := Lib.hid (own_ent v5 ME w5.drew (hv5H.out _ (below_trans hK5.out hD0.out)) hol.out)
        clear hcell hr1 hr2
        go_upto_region 21 with fail
        refine wp_region_noPanic ?_
        refine wp_region_held_drew (S := fun w' => w'.cell? ⟨rb, 3, none⟩ = some (.pointer (some ⟨rpf, 0, none⟩))) (by kernel_rfl) ?_ (fun hHeld => ?_)
        · exact hcD
        refine' held_take (i := 0) (d := some 138) (v := _) rfl rfl (by kernel_rfl) (by kernel_rfl) (by kernel_rfl) (fun _ _ _ h => h) rfl (by assumption) ?hy_1 ?re_1
        case hy_1 =>
          intro w hSw
          try dsimp only at hSw
          go_simp
          try with_reducible rfl
        simp only [Act.put, List.setIfInBounds_toArray, List.set_cons_zero, List.set_cons_succ]
        refine' held_take (i := 1) (d := some 139) (v := _) rfl rfl (by kernel_rfl) (by kernel_rfl) (by kernel_rfl) (fun _ _ _ h => h) rfl (by assumption) ?hy_2 ?re_2
        case hy_2 =>
          intro w hSw
          try dsimp only at hSw
          go_simp
          try with_reducible rfl
        simp only [Act.put, List.setIfInBounds_toArray, List.set_cons_zero, List.set_cons_succ]
        refine' held_take (i := 2) (d := some 140) (v := _) rfl rfl (by kernel_rfl) (by kernel_rfl) (by kernel_rfl) (fun _ _ _ h => h) rfl (by assumption) ?hy_3 ?re_3
        case hy_3 =>
          intro w hSw
          try dsimp only at hSw
          go_simp
          try with_reducible rfl
        simp only [Act.put, List.setIfInBounds_toArray, List.set_cons_zero, List.set_cons_succ]
        refine' held_take (i := 5) (d := some 143) (v := _) rfl rfl (by kernel_rfl) (by kernel_rfl) (by kernel_rfl) (fun _ _ _ h => h) rfl (by assumption) ?hy_4 ?re_4
        case hy_4 =>
          intro w hSw
          try dsimp only at hSw
          go_simp
          try with_reducible rfl
        simp only [Act.put, List.setIfInBounds_toArray, List.set_cons_zero, List.set_cons_succ]
        refine' held_take (i := 6) (d := some 144) (v := _) rfl rfl (by kernel_rfl) (by kernel_rfl) (by kernel_rfl) (fun _ _ _ h => h) rfl (by assumption) ?hy_5 ?re_5
        case hy_5 =>
          intro w hSw
          try dsimp only at hSw
          go_simp
          try with_reducible rfl
        simp only [Act.put, List.setIfInBounds_toArray, List.set_cons_zero, List.set_cons_succ]
        refine' held_take (i := 7) (d := some 145) (v := _) rfl rfl (by kernel_rfl) (by kernel_rfl) (by kernel_rfl) (fun _ _ _ h => h) rfl (by assumption) ?hy_6 ?re_6
        case hy_6 =>
          intro w hSw
          try dsimp only at hSw
          go_simp
          try with_reducible rfl
        simp only [Act.put, List.setIfInBounds_toArray, List.set_cons_zero, List.set_cons_succ]
        refine' held_take (i := 8) (d := some 146) (v := _) rfl rfl (by kernel_rfl) (by kernel_rfl) (by kernel_rfl) (fun _ _ _ h => h) rfl (by assumption) ?hy_7 ?re_7
        case hy_7 =>
          intro w hSw
          try dsimp only at hSw
          go_simp
          try with_reducible rfl
        simp only [Act.put, List.setIfInBounds_toArray, List.set_cons_zero, List.set_cons_succ]
        refine' held_take (i := 9) (d := some 147) (v := _) rfl rfl (by kernel_rfl) (by kernel_rfl) (by kernel_rfl) (fun _ _ _ h => h) rfl (by assumption) ?hy_8 ?re_8
        case hy_8 =>
          intro w hSw
          try dsimp only at hSw
          go_simp
          try with_reducible rfl
        simp only [Act.put, List.setIfInBounds_toArray, List.set_cons_zero, List.set_cons_succ]
        refine' held_take (i := 10) (d := some 148) (v := _) rfl rfl (by kernel_rfl) (by kernel_rfl) (by kernel_rfl) (fun _ _ _ h => h) rfl (by assumption) ?hy_9 ?re_9
        case hy_9 =>
          intro w hSw
          try dsimp only at hSw
          go_simp
          try with_reducible rfl
        simp only [Act.put, List.setIfInBounds_toArray, List.set_cons_zero, List.set_cons_succ]
        refine wpAnyH_ready (rs := [3]) (by kernel_rfl) (by simp) ?_
        refine AllReadyH.cons rfl (fun K hK => ?_) AllReadyH.nil
        go_simp
        refine hown.out.mono ?_
        rintro e w6 ⟨v6, rfl, hr6, hb6⟩
        have hb6 := below_trans hD0.out hb6
        have hK6 := Lib.hid (below_trans hK5.out hb6)
        have hS6 := Lib.hid (hS5.out.below hb6)
        have hk6 := Lib.hid (show Keeps (fun k => k = pf ∨ k = rpf) w5 w6 from Keeps.of_below hb6)
        have htg6 := Lib.hid (htg.out _ v6 _ hK6.out hS6.out (EntRow.at_ hr6))
        clear hb6 hr6
        go_wp2_with fail
        refine hK.out _ _ ?_ (fun hHeld => ?_)
        · exact hkS.out _ hk6.out
        clear hK K
        try simp only [Act.put, List.setIfInBounds_toArray, List.set_cons_zero, List.set_cons_succ]
        refine wpAnyH_ready (rs := [4]) (by kernel_rfl) (by simp) ?_
        refine AllReadyH.cons rfl (fun K hK => ?_) AllReadyH.nil
        go_simp
        refine htg6.out.mono ?_
        rintro e w7 ⟨rfl, hF7, hkk7⟩
        have hK7 := Lib.hid (below_keeps hK6.out hF7.1 hkk7)
        have hS7 := Lib.hid (hS6.out.take1 hF7 hkk7)
        have hk7 := Lib.hid (hk6.out.trans (hkk7.mono (fun k h => .inl h)))
        have htr7 := Lib.hid (htr.out _ v5 _ hK7.out hS7.out (hv5H.out _ hK7.out))
        clear hF7 hkk7
        go_wp2_with fail
        refine hK.out _ _ ?_ (fun hHeld => ?_)
        · exact hkS.out _ hk7.out
        clear hK K
        try simp only [Act.put, List.setIfInBounds_toArray, List.set_cons_zero, List.set_cons_succ]
        refine wpAnyH_ready (rs := [11]) (by kernel_rfl) (by simp) ?_
        refine AllReadyH.cons rfl (fun K hK => ?_) AllReadyH.nil
        go_simp
        refine htr7.out.mono ?_
        rintro e w8 ⟨rfl, hR8, hkk8⟩
        have hK8 := Lib.hid (below_keeps hK7.out hR8.1 hkk8)
        have hS8 := Lib.hid (hS7.out.take2 hR8 hkk8)
        have hk8 := Lib.hid (hk7.out.trans (hkk8.mono (fun k e => .inr e)))
        have hcd8 := Lib.hid (hcd.out tc _ hK8.out htc)
        clear hR8 hkk8
        go_wp2_with fail
        refine hK.out _ _ ?_ (fun hHeld => ?_)
        · exact hkS.out _ hk8.out
        clear hK K
        try simp only [Act.put, List.setIfInBounds_toArray, List.set_cons_zero, List.set_cons_succ]
        refine wpAnyH_ready (rs := [12]) (by kernel_rfl) (by simp) ?_
        refine AllReadyH.cons rfl (fun K hK => ?_) AllReadyH.nil
        go_simp
        refine hcd8.out.mono ?_
        rintro e w9 ⟨rfl, hb9⟩
        have hK9 := Lib.hid (below_trans hK8.out hb9)
        have hS9 := Lib.hid (hS8.out.below hb9)
        have hk9 := Lib.hid (hk8.out.trans (Keeps.of_below hb9))
        clear hb9
        go_wp2_with fail
        refine hK.out _ _ ?_ (fun hHeld => ?_)
        · exact hkS.out _ hk9.out
        clear hK K
        try simp only [Act.put, List.setIfInBounds_toArray, List.set_cons_zero, List.set_cons_succ]
        refine' held_take (i := 13) (d := some 151) (v := _) rfl rfl (by kernel_rfl) (by kernel_rfl) (by kernel_rfl) (fun _ _ _ h => h) rfl (by assumption) ?hy_10 ?re_10
        case hy_10 =>
          intro w hSw
          try dsimp only at hSw
          go_simp
          try with_reducible rfl
        simp only [Act.put, List.setIfInBounds_toArray, List.set_cons_zero, List.set_cons_succ]
        refine wpAnyH_done (by kernel_rfl) ?_ _
        refine NoPanic.normal ?_
        go_wp2_with fail
        go_roundg (M.length - j)
        case measure => omega
        case rel => exact ⟨j + 1, ⟨gn, gk, go, F'⟩, by simp, hlt, by omega, hO', hS9, hK9⟩
      have e1 : ((bs kd).toList == [116, 97, 107, 101]) = false := by rw [toList_data, bs_list, beq_eq_false_iff_ne]; exact hpu
      have e1b : ¬ (bs kd).toList = [116, 97, 107, 101] := by rw [toList_data, bs_list]; exact hpu
      by_cases hpo : kd = [114, 101, 107, 101, 121]
      · have e2 : ((bs kd).toList == [114, 101, 107, 101, 121]) = true := by rw [hpo, toList_data]; rfl
        have e2b : (bs kd).toList = [114, 101, 107, 101, 121] := by rw [hpo, toList_data]; rfl
        cases hk : isKey n with
        | true =>
          have hik := isKey_any n W
          rw [hk] at hik
          have hik := Lib.hid hik
          have hkH := Lib.hid hk
          clear hk hpu hpo hn1 hn2
          obtain ⟨⟨y0, y1, y2, y3⟩, z0, z1, z2, z3⟩ := rgate_cells hSW.out.ref
          clear y0 y2 y3 z0 z2 z3
          have hS5 := Lib.hid (hSW.out.key2 n)
          have hK5 := Lib.hid (show Below w.heap.size w (W.setCell ⟨rb, 1, none⟩ (.int .i64 n)) from hKW.out.setCell (p := ⟨rb, 1, none⟩) hSW.out.ref.ge (.int .i64 n))
          have hx5 : (W.setCell ⟨rb, 1, none⟩ (.int .i64 n)).cell? ⟨bxn, 2, none⟩ = some (.int .i64 n) := (eight_cell ((keeps_setCell (S := (· = rb)) W ⟨rb, 1, none⟩ (.int .i64 n) rfl).obj hbxH.out (fun e => by
            have h1 := hSW.out.ref.blk
            rw [← show bxn = rb from e, hbxH.out] at h1
            injection h1 with h1
            injection h1 with _ h1 _
            exact knock_ne_gate h1))).2.2.1
          have hrk := (rekey_any (E := E) w.heap.size b pf gn gk go gf n (W.setCell ⟨rb, 1, none⟩ (.int .i64 n)) (hLw.out _ hK5.out).s.laid hS5.out.at_).mono (R' := fun e w' => e = .returned .nilIface ∧ GateAt w' w.heap.size b pf ⟨gn, n, go, gf⟩ ∧ Keeps (· = b) (W.setCell ⟨rb, 1, none⟩ (.int .i64 n)) w') (fun e w' hor => by
            rcases hor with ⟨h, _⟩ | ⟨_, h⟩
            · rw [hkH.out] at h; cases h
            · exact h)
          have hrk := Lib.hid hrk
          go_wp2_with fail
          refine hik.out.mono ?_
          rintro e w5 ⟨rfl, rfl⟩
          go_wp2_with fail
          refine hrk.out.mono ?_
          rintro e w6 ⟨rfl, hG6, hk6⟩
          have hK6 := Lib.hid (below_keeps2 hK5.out hG6.ge hk6)
          have hS6 := Lib.hid (hS5.out.key1 hG6 hk6)
          have hcd6 := hcd.out 0 _ hK6.out (by decide)
          rw [errV_zero] at hcd6
          have hcd6 := Lib.hid hcd6
          clear hG6 hk6 hx5
          go_wp2_with fail
          refine hcd6.out.mono ?_
          rintro e w7 ⟨rfl, hb7⟩
          have hK7 := Lib.hid (below_trans hK6.out hb7)
          have hS7 := Lib.hid (hS6.out.below hb7)
          have hO7 := Lib.hid (show GOk ⟨gn, n, go, gf⟩ from gok_of hO.out.f hO.out.o0 hO.out.o1 hO.out.n)
          clear hb7
          go_wp2_with fail
          go_roundg (M.length - j)
          case measure => omega
          case rel => exact ⟨j + 1, ⟨gn, n, go, gf⟩, by simp, hlt, by omega, hO7, hS7, hK7⟩
        | false =>
          have hik := isKey_any n W
          rw [hk] at hik
          have hik := Lib.hid hik
          have hkH := Lib.hid hk
          clear hk hpu hpo hn1 hn2
          have hrk := (rekey_any (E := E) w.heap.size b pf gn gk go gf n W (hLw.out _ hKW.out).s.laid hSW.out.at_).mono (R' := fun e w' => e = .returned (errV E 10) ∧ w' = W) (fun e w' hor => by
            rcases hor with ⟨_, h⟩ | ⟨h, _⟩
            · exact h
            · rw [hkH.out] at h; cases h)
          have hcd6 := hcd.out 10 _ hKW.out (by decide)
          simp only [errV] at hcd6 hrk
          have hcd6 := Lib.hid hcd6
          have hrk := Lib.hid hrk
          go_wp2_with fail
          refine hik.out.mono ?_
          rintro e w5 ⟨rfl, rfl⟩
          go_wp2_with fail
          refine hrk.out.mono ?_
          rintro e w6 ⟨rfl, rfl⟩
          go_wp2_with fail
          refine hcd6.out.mono ?_
          rintro e w7 ⟨rfl, hb7⟩
          have hK7 := Lib.hid (below_trans hKW.out hb7)
          have hS7 := Lib.hid (hSW.out.below hb7)
          clear hb7
          go_wp2_with fail
          go_roundg (M.length - j)
          case measure => omega
          case rel => exact ⟨j + 1, ⟨gn, gk, go, gf⟩, by simp, hlt, by omega, hO, hS7, hK7⟩
      have e2 : ((bs kd).toList == [114, 101, 107, 101, 121]) = false := by rw [toList_data, bs_list, beq_eq_false_iff_ne]; exact hpo
      have e2b : ¬ (bs kd).toList = [114, 101, 107, 101, 121] := by rw [toList_data, bs_list]; exact hpo
      have has1 := ask_any (E := E) w.heap.size b pf ⟨gn, gk, go, gf⟩ ks n W (hLw.out _ hKW.out).s hSW.out.at_ hO.out (by omega)
      have has2 := fun wx (h : TwoG w.heap.size b pf rb rpf ⟨gn, gk, go, gf⟩ ⟨gn, gk, go, gf⟩ wx) => askR_any w.heap.size rb rpf ⟨gn, gk, go, gf⟩ ks n wx h.ref hO.out (by omega)
      have hfr1 := Lib.hid (fun wx (hx : Below w.heap.size w wx) (h : TwoG w.heap.size b pf rb rpf ⟨gn, gk, go, gf⟩ ⟨gn, gk, go, gf⟩ wx) => fresh_any (E := E) w.heap.size b pf ⟨gn, gk, go, gf⟩ n wx (hLw.out _ hx).s.laid h.at_ hO.out)
      have hfr2 := Lib.hid (fun wx (h : TwoG w.heap.size b pf rb rpf ⟨gn, gk, go, gf⟩ ⟨gn, gk, go, gf⟩ wx) => freshR_any w.heap.size rb rpf ⟨gn, gk, go, gf⟩ n wx h.ref hO.out)
      have hac := askG_code ⟨gn, gk, go, gf⟩ ks n
      have hfc := freshG_code ⟨gn, gk, go, gf⟩ n
      generalize freshG ⟨gn, gk, go, gf⟩ n = fc at *
      unfold AskRes at has1
      unfold AskRR at has2
      generalize askG ⟨gn, gk, go, gf⟩ ks n = R at *
      obtain ⟨⟨who, svc, ep, bg, fn, sr⟩, ac⟩ := R
      dsimp only [Tick.val] at has1 has2 hac
      have has1 := Lib.hid has1
      have has2 := Lib.hid has2
      clear hpu hpo hn1 hn2
      go_wp2_with fail
      refine has1.out.mono ?_
      rintro e w5 ⟨rfl, hb5⟩
      have hA5 := hb5.alloc hb5.size (.cells #[.string (bs who), .string (bs svc), .int .i64 ep, .int .i64 bg, .int .i64 fn, .int .i64 sr] 25)
      have hrow5 := heap_alloc_new w5 (.cells #[.string (bs who), .string (bs svc), .int .i64 ep, .int .i64 bg, .int .i64 fn, .int .i64 sr] 25)
      have hxr5 := heap_below hA5 hbxH.out
      obtain ⟨y0, y1, y2, y3, y4, y5, y6, y7⟩ := eight_cell hxr5
      have hK5 := Lib.hid (below_trans hKW.out hA5)
      have hS5 := Lib.hid (hSW.out.below hA5)
      clear hb5 hA5 x0 x1 x2 x3 x4 x5 x6 x7 y0 y3 y4 y5 y6 y7
      go_upto_region 16 with fail
      generalize hz5 : w5.heap.size = p5 at *
      generalize w5.alloc (.cells #[.string (bs who), .string (bs svc), .int .i64 ep, .int .i64 bg, .int .i64 fn, .int .i64 sr] 25) = W5 at *
      have has6 := Lib.hid (has2.out _ hS5.out)
      have hrow5 := Lib.hid hrow5
      have hxr5 := Lib.hid hxr5
      clear hz5
      go_wp2_with fail
      refine has6.out.mono ?_
      rintro e w6 ⟨rfl, hb6⟩
      have hA6 := hb6.alloc hb6.size (.cells #[.string (bs who), .string (bs svc), .int .i64 ep, .int .i64 bg, .int .i64 fn, .int .i64 sr] 25)
      have hrow6 := heap_alloc_new w6 (.cells #[.string (bs who), .string (bs svc), .int .i64 ep, .int .i64 bg, .int .i64 fn, .int .i64 sr] 25)
      have hK6 := Lib.hid (below_trans hK5.out hA6)
      have hS6 := Lib.hid (hS5.out.below hA6)
      have hr5 := heap_below hA6 hrow5.out
      have hxr6 := heap_below hA6 hxr5.out
      clear hb6 hA6 y1 y2
      go_upto_region 17 with fail
      generalize hz6 : w6.heap.size = p6 at *
      generalize w6.alloc (.cells #[.string (bs who), .string (bs svc), .int .i64 ep, .int .i64 bg, .int .i64 fn, .int .i64 sr] 25) = W6 at *
      have hkS := Lib.hid (fun wx (hx : Below W6.heap.size W6 wx) => (show (wx.cell? ⟨p5, 0, none⟩ = some (.string (bs who)) ∧ wx.cell? ⟨p5, 1, none⟩ = some (.string (bs svc)) ∧ wx.cell? ⟨p5, 2, none⟩ = some (.int .i64 ep) ∧ wx.cell? ⟨p5, 3, none⟩ = some (.int .i64 bg) ∧ wx.cell? ⟨p5, 4, none⟩ = some (.int .i64 fn) ∧ wx.cell? ⟨p5, 5, none⟩ = some (.int .i64 sr)) ∧ (wx.cell? ⟨p6, 0, none⟩ = some (.string (bs who)) ∧ wx.cell? ⟨p6, 1, none⟩ = some (.string (bs svc)) ∧ wx.cell? ⟨p6, 2, none⟩ = some (.int .i64 ep) ∧ wx.cell? ⟨p6, 3, none⟩ = some (.int .i64 bg) ∧ wx.cell? ⟨p6, 4, none⟩ = some (.int .i64 fn) ∧ wx.cell? ⟨p6, 5, none⟩ = some (.int .i64 sr)) ∧ wx.cell? ⟨bxn, 2, none⟩ = some (.int .i64 n) from
        ⟨(tick_kept hx hr5).1, (tick_kept hx hrow6).1, (eight_cell (heap_below hx hxr6)).2.2.1⟩))
      have hD0 := Lib.hid (show Below W6.heap.size W6 W6.drew from (Below.refl _ _).drew)
      have hcD := hkS.out _ hD0.out
      have hcd7 := Lib.hid (hcd.out ac _ (below_trans hK6.out hD0.out) hac)
      have hfcc := Lib.hid (fun wx (hx : Below w.heap.size w wx) => hcd.out fc wx hx hfc)
      clear hr5 hrow6 hxr6 hz6
      refine wp_region_noPanic ?_
      refine wp_region_held_drew (S := fun wx => (wx.cell? ⟨p5, 0, none⟩ = some (.string (bs who)) ∧ wx.cell? ⟨p5, 1, none⟩ = some (.string (bs svc)) ∧ wx.cell? ⟨p5, 2, none⟩ = some (.int .i64 ep) ∧ wx.cell? ⟨p5, 3, none⟩ = some (.int .i64 bg) ∧ wx.cell? ⟨p5, 4, none⟩ = some (.int .i64 fn) ∧ wx.cell? ⟨p5, 5, none⟩ = some (.int .i64 sr)) ∧ (wx.cell? ⟨p6, 0, none⟩ = some (.string (bs who)) ∧ wx.cell? ⟨p6, 1, none⟩ = some (.string (bs svc)) ∧ wx.cell? ⟨p6, 2, none⟩ = some (.int .i64 ep) ∧ wx.cell? ⟨p6, 3, none⟩ = some (.int .i64 bg) ∧ wx.cell? ⟨p6, 4, none⟩ = some (.int .i64 fn) ∧ wx.cell? ⟨p6, 5, none⟩ = some (.int .i64 sr)) ∧ wx.cell? ⟨bxn, 2, none⟩ = some (.int .i64 n)) (by kernel_rfl) ?_ (fun hHeld => ?_)
      · exact hcD
      refine' held_take (i := 0) (d := some 108) (v := _) rfl rfl (by kernel_rfl) (by kernel_rfl) (by kernel_rfl) (fun _ _ _ h => h) rfl (by assumption) ?hy_11 ?re_11
      case hy_11 =>
        intro w hSw
        try dsimp only at hSw
        go_simp
        try with_reducible rfl
      simp only [Act.put, List.setIfInBounds_toArray, List.set_cons_zero, List.set_cons_succ]
      refine' held_take (i := 1) (d := some 109) (v := _) rfl rfl (by kernel_rfl) (by kernel_rfl) (by kernel_rfl) (fun _ _ _ h => h) rfl (by assumption) ?hy_12 ?re_12
      case hy_12 =>
        intro w hSw
        try dsimp only at hSw
        go_simp
        try with_reducible rfl
      simp only [Act.put, List.setIfInBounds_toArray, List.set_cons_zero, List.set_cons_succ]
      refine wpAnyH_ready (rs := [2]) (by kernel_rfl) (by simp) ?_
      refine AllReadyH.cons rfl (fun K hK => ?_) AllReadyH.nil
      go_simp
      refine hcd7.out.mono ?_
      rintro e w7 ⟨rfl, hb⟩
      have hD1 := Lib.hid (below_trans hD0.out hb)
      have hf7 := Lib.hid (hfr1.out _ (below_trans hK6.out hD1.out) (hS6.out.below hD1.out))
      clear hb
      go_wp2_with fail
      refine hK.out _ _ ?_ (fun hHeld => ?_)
      · exact hkS.out _ hD1.out
      clear hK K
      try simp only [Act.put, List.setIfInBounds_toArray, List.set_cons_zero, List.set_cons_succ]
      refine' held_take (i := 3) (d := some 111) (v := _) rfl rfl (by kernel_rfl) (by kernel_rfl) (by kernel_rfl) (fun _ _ _ h => h) rfl (by assumption) ?hy_13 ?re_13
      case hy_13 =>
        intro w hSw
        try dsimp only at hSw
        go_simp
        try with_reducible rfl
      simp only [Act.put, List.setIfInBounds_toArray, List.set_cons_zero, List.set_cons_succ]
      try simp only [ne_eq, not_true_eq_false, not_false_eq_true, decide_false, decide_true, bne_self_eq_false, beq_self_eq_true, Bool.not_true, Bool.not_false]
      refine' held_take (i := 4) (d := some 112) (v := _) rfl rfl (by kernel_rfl) (by kernel_rfl) (by kernel_rfl) (fun _ _ _ h => h) rfl (by assumption) ?hy_14 ?re_14
      case hy_14 =>
        intro w hSw
        try dsimp only at hSw
        go_simp
        try with_reducible rfl
      simp only [Act.put, List.setIfInBounds_toArray, List.set_cons_zero, List.set_cons_succ]
      refine' held_take (i := 5) (d := some 113) (v := _) rfl rfl (by kernel_rfl) (by kernel_rfl) (by kernel_rfl) (fun _ _ _ h => h) rfl (by assumption) ?hy_15 ?re_15
      case hy_15 =>
        intro w hSw
        try dsimp only at hSw
        go_simp
        try with_reducible rfl
      simp only [Act.put, List.setIfInBounds_toArray, List.set_cons_zero, List.set_cons_succ]
      refine' held_take (i := 6) (d := some 114) (v := _) rfl rfl (by kernel_rfl) (by kernel_rfl) (by kernel_rfl) (fun _ _ _ h => h) rfl (by assumption) ?hy_16 ?re_16
      case hy_16 =>
        intro w hSw
        try dsimp only at hSw
        go_simp
        try with_reducible rfl
      simp only [Act.put, List.setIfInBounds_toArray, List.set_cons_zero, List.set_cons_succ]
      refine' held_take (i := 7) (d := some 115) (v := _) rfl rfl (by kernel_rfl) (by kernel_rfl) (by kernel_rfl) (fun _ _ _ h => h) rfl (by assumption) ?hy_17 ?re_17
      case hy_17 =>
        intro w hSw
        try dsimp only at hSw
        go_simp
        try with_reducible rfl
      simp only [Act.put, List.setIfInBounds_toArray, List.set_cons_zero, List.set_cons_succ]
      try simp only [ne_eq, not_true_eq_false, not_false_eq_true, decide_false, decide_true, bne_self_eq_false, beq_self_eq_true, Bool.not_true, Bool.not_false]
      refine' held_take (i := 8) (d := some 116) (v := _) rfl rfl (by kernel_rfl) (by kernel_rfl) (by kernel_rfl) (fun _ _ _ h => h) rfl (by assumption) ?hy_18 ?re_18
      case hy_18 =>
        intro w hSw
        try dsimp only at hSw
        go_simp
        try with_reducible rfl
      simp only [Act.put, List.setIfInBounds_toArray, List.set_cons_zero, List.set_cons_succ]
      try simp only [ne_eq, not_true_eq_false, not_false_eq_true, decide_false, decide_true, bne_self_eq_false, beq_self_eq_true, Bool.not_true, Bool.not_false]
      refine' held_take (i := 9) (d := some 117) (v := _) rfl rfl (by kernel_rfl) (by kernel_rfl) (by kernel_rfl) (fun _ _ _ h => h) rfl (by assumption) ?hy_19 ?re_19
      case hy_19 =>
        intro w hSw
        try dsimp only at hSw
        go_simp
        try with_reducible rfl
      simp only [Act.put, List.setIfInBounds_toArray, List.set_cons_zero, List.set_cons_succ]
      refine' held_take (i := 10) (d := some 118) (v := _) rfl rfl (by kernel_rfl) (by kernel_rfl) (by kernel_rfl) (fun _ _ _ h => h) rfl (by assumption) ?hy_20 ?re_20
      case hy_20 =>
        intro w hSw
        try dsimp only at hSw
        go_simp
        try with_reducible rfl
      simp only [Act.put, List.setIfInBounds_toArray, List.set_cons_zero, List.set_cons_succ]
      refine' held_take (i := 11) (d := some 119) (v := _) rfl rfl (by kernel_rfl) (by kernel_rfl) (by kernel_rfl) (fun _ _ _ h => h) rfl (by assumption) ?hy_21 ?re_21
      case hy_21 =>
        intro w hSw
        try dsimp only at hSw
        go_simp
        try with_reducible rfl
      simp only [Act.put, List.setIfInBounds_toArray, List.set_cons_zero, List.set_cons_succ]
      refine' held_take (i := 12) (d := some 120) (v := _) rfl rfl (by kernel_rfl) (by kernel_rfl) (by kernel_rfl) (fun _ _ _ h => h) rfl (by assumption) ?hy_22 ?re_22
      case hy_22 =>
        intro w hSw
        try dsimp only at hSw
        go_simp
        try with_reducible rfl
      simp only [Act.put, List.setIfInBounds_toArray, List.set_cons_zero, List.set_cons_succ]
      refine' held_take (i := 14) (d := some 122) (v := _) rfl rfl (by kernel_rfl) (by kernel_rfl) (by kernel_rfl) (fun _ _ _ h => h) rfl (by assumption) ?hy_23 ?re_23
      case hy_23 =>
        intro w hSw
        try dsimp only at hSw
        go_simp
        try with_reducible rfl
      simp only [Act.put, List.setIfInBounds_toArray, List.set_cons_zero, List.set_cons_succ]
      refine' held_take (i := 15) (d := some 123) (v := _) rfl rfl (by kernel_rfl) (by kernel_rfl) (by kernel_rfl) (fun _ _ _ h => h) rfl (by assumption) ?hy_24 ?re_24
      case hy_24 =>
        intro w hSw
        try dsimp only at hSw
        go_simp
        try with_reducible rfl
      simp only [Act.put, List.setIfInBounds_toArray, List.set_cons_zero, List.set_cons_succ]
      refine' held_take (i := 16) (d := some 124) (v := _) rfl rfl (by kernel_rfl) (by kernel_rfl) (by kernel_rfl) (fun _ _ _ h => h) rfl (by assumption) ?hy_25 ?re_25
      case hy_25 =>
        intro w hSw
        try dsimp only at hSw
        go_simp
        try with_reducible rfl
      simp only [Act.put, List.setIfInBounds_toArray, List.set_cons_zero, List.set_cons_succ]
      refine wpAnyH_ready (rs := [13]) (by kernel_rfl) (by simp) ?_
      refine AllReadyH.cons rfl (fun K hK => ?_) AllReadyH.nil
      go_simp
      refine hf7.out.mono ?_
      rintro e w8 ⟨rfl, hb⟩
      have hD2 := Lib.hid (below_trans hD1.out hb)
      have hf8 := Lib.hid (hfr2.out _ (hS6.out.below hD2.out))
      clear hb
      go_wp2_with fail
      refine hK.out _ _ ?_ (fun hHeld => ?_)
      · exact hkS.out _ hD2.out
      clear hK K
      try simp only [Act.put, List.setIfInBounds_toArray, List.set_cons_zero, List.set_cons_succ]
      refine wpAnyH_ready (rs := [17]) (by kernel_rfl) (by simp) ?_
      refine AllReadyH.cons rfl (fun K hK => ?_) AllReadyH.nil
      go_simp
      refine hf8.out.mono ?_
      rintro e w9 ⟨rfl, hb⟩
      have hD3 := Lib.hid (below_trans hD2.out hb)
      have hf9 := Lib.hid (hfcc.out _ (below_trans hK6.out hD3.out))
      clear hb
      go_wp2_with fail
      refine hK.out _ _ ?_ (fun hHeld => ?_)
      · exact hkS.out _ hD3.out
      clear hK K
      try simp only [Act.put, List.setIfInBounds_toArray, List.set_cons_zero, List.set_cons_succ]
      refine wpAnyH_ready (rs := [18]) (by kernel_rfl) (by simp) ?_
      refine AllReadyH.cons rfl (fun K hK => ?_) AllReadyH.nil
      go_simp
      refine hf9.out.mono ?_
      rintro e w10 ⟨rfl, hb⟩
      have hD4 := Lib.hid (below_trans hD3.out hb)
      clear hb
      go_wp2_with fail
      refine hK.out _ _ ?_ (fun hHeld => ?_)
      · exact hkS.out _ hD4.out
      clear hK K
      try simp only [Act.put, List.setIfInBounds_toArray, List.set_cons_zero, List.set_cons_succ]
      refine' held_take (i := 19) (d := some 127) (v := _) rfl rfl (by kernel_rfl) (by kernel_rfl) (by kernel_rfl) (fun _ _ _ h => h) rfl (by assumption) ?hy_26 ?re_26
      case hy_26 =>
        intro w hSw
        try dsimp only at hSw
        go_simp
        try with_reducible rfl
      simp only [Act.put, List.setIfInBounds_toArray, List.set_cons_zero, List.set_cons_succ]
      try simp only [ne_eq, not_true_eq_false, not_false_eq_true, decide_false, decide_true, bne_self_eq_false, beq_self_eq_true, Bool.not_true, Bool.not_false]
      refine' held_take (i := 20) (d := some 128) (v := _) rfl rfl (by kernel_rfl) (by kernel_rfl) (by kernel_rfl) (fun _ _ _ h => h) rfl (by assumption) ?hy_27 ?re_27
      case hy_27 =>
        intro w hSw
        try dsimp only at hSw
        go_simp
        try with_reducible rfl
      simp only [Act.put, List.setIfInBounds_toArray, List.set_cons_zero, List.set_cons_succ]
      refine wpAnyH_done (by kernel_rfl) ?_ _
      refine NoPanic.normal ?_
      have hKf := Lib.hid (below_trans hK6.out hD4.out)
      have hSf := Lib.hid (hS6.out.below hD4.out)
      clear hcD
      go_wp2_with fail
      go_roundg (M.length - j)
      case measure => omega
      case rel => exact ⟨j + 1, ⟨gn, gk, go, gf⟩, by simp, hlt, by omega, hO, hSf, hKf⟩
    · have hge : ¬ ((j : Int) < (M.length : Int)) := by omega
      have hfw := Lib.hid (follower_any w.heap.size b pf G wr hS.out.at_ hO.out.f)
      clear hlt hj hg
      go_wp2_with fail
      refine hfw.out.mono ?_
      rintro e w5 ⟨b5, rfl, hF5, hb5⟩
      have hK5 := Lib.hid (below_trans hKw.out hb5)
      have hS5 := Lib.hid (hS.out.below hb5)
      have hF5 := Lib.hid hF5
      have hl60 := hO.out.f.l60
      obtain ⟨_, uF, bkF, ruF⟩ := hS5.out.ref.fol
      obtain ⟨aF, cF, rfl⟩ := RowG.sl ruF
      have hgc := (rgate_cells hS5.out.ref).1.2.2.2
      have hkS := Lib.hid (fun wx (hx : Below w5.heap.size w5 wx) => (show wx.cell? ⟨rb, 3, none⟩ = some (.pointer (some ⟨rpf, 0, none⟩)) ∧ wx.cell? ⟨rpf, 1, none⟩ = some (.int .i64 G.f.time) ∧ wx.cell? ⟨rpf, 2, none⟩ = some (.slice aF G.f.l.length cF) from
        ⟨cell_below hx hgc, (four_kept (heap_down hx bkF)).1.2.1, (four_kept (heap_down hx bkF)).1.2.2.1⟩))
      have hD0 := Lib.hid (show Below w5.heap.size w5 w5.drew from (Below.refl _ _).drew)
      have hcD := hkS.out _ hD0.out
      have hsq := Lib.hid (fun wx (hx : Below w5.heap.size w5 wx) => seq_fol _ b5 G.f wx (hF5.out.below hx))
      have htm := Lib.hid (fun wx (hx : Below w5.heap.size w5 wx) => time_fol _ b5 G.f wx (hF5.out.below hx))
      generalize G.f.time = ft at *
      generalize G.f.l.length = fl at *
      clear hb5 hfw bkF ruF hgc
      go_upto_region 32 with fail
      refine wp_region_noPanic ?_
      refine wp_region_held_drew (S := fun wx => wx.cell? ⟨rb, 3, none⟩ = some (.pointer (some ⟨rpf, 0, none⟩)) ∧ wx.cell? ⟨rpf, 1, none⟩ = some (.int .i64 ft) ∧ wx.cell? ⟨rpf, 2, none⟩ = some (.slice aF fl cF)) (by kernel_rfl) ?_ (fun hHeld => ?_)
      · exact hcD
      refine' held_take (i := 0) (d := some 172) (v := _) rfl rfl (by kernel_rfl) (by kernel_rfl) (by kernel_rfl) (fun _ _ _ h => h) rfl (by assumption) ?hy_28 ?re_28
      case hy_28 =>
        intro w hSw
        try dsimp only at hSw
        go_simp
        try with_reducible rfl
      simp only [Act.put, List.setIfInBounds_toArray, List.set_cons_zero, List.set_cons_succ]
      refine' held_take (i := 1) (d := some 173) (v := _) rfl rfl (by kernel_rfl) (by kernel_rfl) (by kernel_rfl) (fun _ _ _ h => h) rfl (by assumption) ?hy_29 ?re_29
      case hy_29 =>
        intro w hSw
        try dsimp only at hSw
        go_simp
        try with_reducible rfl
      simp only [Act.put, List.setIfInBounds_toArray, List.set_cons_zero, List.set_cons_succ]
      try simp only [reduceCtorEq, ne_eq, not_true_eq_false, not_false_eq_true, decide_false, decide_true, bne_self_eq_false, beq_self_eq_true, Bool.not_true, Bool.not_false]
      refine' held_take (i := 2) (d := some 174) (v := _) rfl rfl (by kernel_rfl) (by kernel_rfl) (by kernel_rfl) (fun _ _ _ h => h) rfl (by assumption) ?hy_30 ?re_30
      case hy_30 =>
        intro w hSw
        try dsimp only at hSw
        go_simp
        try with_reducible rfl
      simp only [Act.put, List.setIfInBounds_toArray, List.set_cons_zero, List.set_cons_succ]
      refine' held_take (i := 3) (d := some 175) (v := _) rfl rfl (by kernel_rfl) (by kernel_rfl) (by kernel_rfl) (fun _ _ _ h => h) rfl (by assumption) ?hy_31 ?re_31
      case hy_31 =>
        intro w hSw
        try dsimp only at hSw
        go_simp
        try with_reducible rfl
      simp only [Act.put, List.setIfInBounds_toArray, List.set_cons_zero, List.set_cons_succ]
      refine' held_take (i := 5) (d := some 177) (v := _) rfl rfl (by kernel_rfl) (by kernel_rfl) (by kernel_rfl) (fun _ _ _ h => h) rfl (by assumption) ?hy_32 ?re_32
      case hy_32 =>
        intro w hSw
        try dsimp only at hSw
        go_simp
        try with_reducible rfl
      simp only [Act.put, List.setIfInBounds_toArray, List.set_cons_zero, List.set_cons_succ]
      refine' held_take (i := 6) (d := some 178) (v := _) rfl rfl (by kernel_rfl) (by kernel_rfl) (by kernel_rfl) (fun _ _ _ h => h) rfl (by assumption) ?hy_33 ?re_33
      case hy_33 =>
        intro w hSw
        try dsimp only at hSw
        go_simp
        try with_reducible rfl
      simp only [Act.put, List.setIfInBounds_toArray, List.set_cons_zero, List.set_cons_succ]
      refine' held_take (i := 7) (d := some 179) (v := _) rfl rfl (by kernel_rfl) (by kernel_rfl) (by kernel_rfl) (fun _ _ _ h => h) rfl (by assumption) ?hy_34 ?re_34
      case hy_34 =>
        intro w hSw
        try dsimp only at hSw
        go_simp
        try with_reducible rfl
      simp only [Act.put, List.setIfInBounds_toArray, List.set_cons_zero, List.set_cons_succ]
      refine' held_take (i := 8) (d := some 180) (v := _) rfl rfl (by kernel_rfl) (by kernel_rfl) (by kernel_rfl) (fun _ _ _ h => h) rfl (by assumption) ?hy_35 ?re_35
      case hy_35 =>
        intro w hSw
        try dsimp only at hSw
        go_simp
        try with_reducible rfl
      simp only [Act.put, List.setIfInBounds_toArray, List.set_cons_zero, List.set_cons_succ]
      refine' held_take (i := 9) (d := some 181) (v := _) rfl rfl (by kernel_rfl) (by kernel_rfl) (by kernel_rfl) (fun _ _ _ h => h) rfl (by assumption) ?hy_36 ?re_36
      case hy_36 =>
        intro w hSw
        try dsimp only at hSw
        go_simp
        try with_reducible rfl
      simp only [Act.put, List.setIfInBounds_toArray, List.set_cons_zero, List.set_cons_succ]
      refine' held_take (i := 10) (d := some 182) (v := _) rfl rfl (by kernel_rfl) (by kernel_rfl) (by kernel_rfl) (fun _ _ _ h => h) rfl (by assumption) ?hy_37 ?re_37
      case hy_37 =>
        intro w hSw
        try dsimp only at hSw
        go_simp
        try with_reducible rfl
      simp only [Act.put, List.setIfInBounds_toArray, List.set_cons_zero, List.set_cons_succ]
      refine' held_take (i := 11) (d := some 183) (v := _) rfl rfl (by kernel_rfl) (by kernel_rfl) (by kernel_rfl) (fun _ _ _ h => h) rfl (by assumption) ?hy_38 ?re_38
      case hy_38 =>
        intro w hSw
        try dsimp only at hSw
        go_simp
        try with_reducible rfl
      simp only [Act.put, List.setIfInBounds_toArray, List.set_cons_zero, List.set_cons_succ]
      refine' held_take (i := 12) (d := some 184) (v := _) rfl rfl (by kernel_rfl) (by kernel_rfl) (by kernel_rfl) (fun _ _ _ h => h) rfl (by assumption) ?hy_39 ?re_39
      case hy_39 =>
        intro w hSw
        try dsimp only at hSw
        go_simp
        try with_reducible rfl
      simp only [Act.put, List.setIfInBounds_toArray, List.set_cons_zero, List.set_cons_succ]
      refine wpAnyH_ready (rs := [4]) (by kernel_rfl) (by simp) ?_
      refine AllReadyH.cons rfl (fun K hK => ?_) AllReadyH.nil
      go_simp
      refine (hsq.out _ hD0.out).mono ?_
      rintro e w6 ⟨rfl, hb⟩
      have hD1 := Lib.hid (below_trans hD0.out hb)
      clear hb
      go_wp2_with fail
      refine hK.out _ _ ?_ (fun hHeld => ?_)
      · exact hkS.out _ hD1.out
      clear hK K
      try simp only [Act.put, List.setIfInBounds_toArray, List.set_cons_zero, List.set_cons_succ]
      refine' held_take (i := 13) (d := some 185) (v := _) rfl rfl (by kernel_rfl) (by kernel_rfl) (by kernel_rfl) (fun _ _ _ h => h) rfl (by assumption) ?hy_40 ?re_40
      case hy_40 =>
        intro w hSw
        try dsimp only at hSw
        go_simp
        try with_reducible rfl
      simp only [Act.put, List.setIfInBounds_toArray, List.set_cons_zero, List.set_cons_succ]
      try simp only [ne_eq, not_true_eq_false, not_false_eq_true, decide_false, decide_true, bne_self_eq_false, beq_self_eq_true, Bool.not_true, Bool.not_false]
      refine' held_take (i := 14) (d := some 186) (v := _) rfl rfl (by kernel_rfl) (by kernel_rfl) (by kernel_rfl) (fun _ _ _ h => h) rfl (by assumption) ?hy_41 ?re_41
      case hy_41 =>
        intro w hSw
        try dsimp only at hSw
        go_simp
        try with_reducible rfl
      simp only [Act.put, List.setIfInBounds_toArray, List.set_cons_zero, List.set_cons_succ]
      refine' held_take (i := 15) (d := some 187) (v := _) rfl rfl (by kernel_rfl) (by kernel_rfl) (by kernel_rfl) (fun _ _ _ h => h) rfl (by assumption) ?hy_42 ?re_42
      case hy_42 =>
        intro w hSw
        try dsimp only at hSw
        go_simp
        try with_reducible rfl
      simp only [Act.put, List.setIfInBounds_toArray, List.set_cons_zero, List.set_cons_succ]
      refine' held_take (i := 16) (d := some 188) (v := _) rfl rfl (by kernel_rfl) (by kernel_rfl) (by kernel_rfl) (fun _ _ _ h => h) rfl (by assumption) ?hy_43 ?re_43
      case hy_43 =>
        intro w hSw
        try dsimp only at hSw
        go_simp
        try with_reducible rfl
      simp only [Act.put, List.setIfInBounds_toArray, List.set_cons_zero, List.set_cons_succ]
      refine' held_take (i := 18) (d := some 190) (v := _) rfl rfl (by kernel_rfl) (by kernel_rfl) (by kernel_rfl) (fun _ _ _ h => h) rfl (by assumption) ?hy_44 ?re_44
      case hy_44 =>
        intro w hSw
        try dsimp only at hSw
        go_simp
        try with_reducible rfl
      simp only [Act.put, List.setIfInBounds_toArray, List.set_cons_zero, List.set_cons_succ]
      refine' held_take (i := 19) (d := some 191) (v := _) rfl rfl (by kernel_rfl) (by kernel_rfl) (by kernel_rfl) (fun _ _ _ h => h) rfl (by assumption) ?hy_45 ?re_45
      case hy_45 =>
        intro w hSw
        try dsimp only at hSw
        go_simp
        try with_reducible rfl
      simp only [Act.put, List.setIfInBounds_toArray, List.set_cons_zero, List.set_cons_succ]
      refine' held_take (i := 20) (d := some 192) (v := _) rfl rfl (by kernel_rfl) (by kernel_rfl) (by kernel_rfl) (fun _ _ _ h => h) rfl (by assumption) ?hy_46 ?re_46
      case hy_46 =>
        intro w hSw
        try dsimp only at hSw
        go_simp
        try with_reducible rfl
      simp only [Act.put, List.setIfInBounds_toArray, List.set_cons_zero, List.set_cons_succ]
      refine' held_take (i := 21) (d := some 193) (v := _) rfl rfl (by kernel_rfl) (by kernel_rfl) (by kernel_rfl) (fun _ _ _ h => h) rfl (by assumption) ?hy_47 ?re_47
      case hy_47 =>
        intro w hSw
        try dsimp only at hSw
        go_simp
        try with_reducible rfl
      simp only [Act.put, List.setIfInBounds_toArray, List.set_cons_zero, List.set_cons_succ]
      refine' held_take (i := 22) (d := some 194) (v := _) rfl rfl (by kernel_rfl) (by kernel_rfl) (by kernel_rfl) (fun _ _ _ h => h) rfl (by assumption) ?hy_48 ?re_48
      case hy_48 =>
        intro w hSw
        try dsimp only at hSw
        go_simp
        try with_reducible rfl
      simp only [Act.put, List.setIfInBounds_toArray, List.set_cons_zero, List.set_cons_succ]
      refine' held_take (i := 23) (d := some 195) (v := _) rfl rfl (by kernel_rfl) (by kernel_rfl) (by kernel_rfl) (fun _ _ _ h => h) rfl (by assumption) ?hy_49 ?re_49
      case hy_49 =>
        intro w hSw
        try dsimp only at hSw
        go_simp
        try with_reducible rfl
      simp only [Act.put, List.setIfInBounds_toArray, List.set_cons_zero, List.set_cons_succ]
      refine' held_take (i := 24) (d := some 196) (v := _) rfl rfl (by kernel_rfl) (by kernel_rfl) (by kernel_rfl) (fun _ _ _ h => h) rfl (by assumption) ?hy_50 ?re_50
      case hy_50 =>
        intro w hSw
        try dsimp only at hSw
        go_simp
        try with_reducible rfl
      simp only [Act.put, List.setIfInBounds_toArray, List.set_cons_zero, List.set_cons_succ]
      refine wpAnyH_ready (rs := [17]) (by kernel_rfl) (by simp) ?_
      refine AllReadyH.cons rfl (fun K hK => ?_) AllReadyH.nil
      go_simp
      refine (htm.out _ hD1.out).mono ?_
      rintro e w7 ⟨rfl, hb⟩
      have hD2 := Lib.hid (below_trans hD1.out hb)
      clear hb
      go_wp2_with fail
      refine hK.out _ _ ?_ (fun hHeld => ?_)
      · exact hkS.out _ hD2.out
      clear hK K
      try simp only [Act.put, List.setIfInBounds_toArray, List.set_cons_zero, List.set_cons_succ]
      refine' held_take (i := 25) (d := some 197) (v := _) rfl rfl (by kernel_rfl) (by kernel_rfl) (by kernel_rfl) (fun _ _ _ h => h) rfl (by assumption) ?hy_51 ?re_51
      case hy_51 =>
        intro w hSw
        try dsimp only at hSw
        go_simp
        try with_reducible rfl
      simp only [Act.put, List.setIfInBounds_toArray, List.set_cons_zero, List.set_cons_succ]
      try simp only [ne_eq, not_true_eq_false, not_false_eq_true, decide_false, decide_true, bne_self_eq_false, beq_self_eq_true, Bool.not_true, Bool.not_false]
      refine' held_take (i := 26) (d := some 198) (v := _) rfl rfl (by kernel_rfl) (by kernel_rfl) (by kernel_rfl) (fun _ _ _ h => h) rfl (by assumption) ?hy_52 ?re_52
      case hy_52 =>
        intro w hSw
        try dsimp only at hSw
        go_simp
        try with_reducible rfl
      simp only [Act.put, List.setIfInBounds_toArray, List.set_cons_zero, List.set_cons_succ]
      refine' held_take (i := 27) (d := some 12) (v := _) rfl rfl (by kernel_rfl) (by kernel_rfl) (by kernel_rfl) (fun _ _ _ h => h) rfl (by assumption) ?hy_53 ?re_53
      case hy_53 =>
        intro w hSw
        try dsimp only at hSw
        go_simp
        try with_reducible rfl
      simp only [Act.put, List.setIfInBounds_toArray, List.set_cons_zero, List.set_cons_succ]
      refine wpAnyH_done (by kernel_rfl) ?_ _
      refine NoPanic.normal ?_
      have hfin := Lib.hid (below_trans hK5.out hD2.out)
      go_wp2_with fail
      go_ret
      exact ⟨rfl, hfin.out⟩
end Go.Proofs.YtadnjdchjoechaaGreatDoor
