/- FedX, Laid -/
import Derived.Test.YtfbndfkahodheaaGreatDoorMg16
import Derived.Test.YtfbndfkahodheaaGreatDoorMg20
import Derived.Test.YtfbndfkahodheaaGreatDoorMg22
import Derived.Test.YtfbndfkahodheaaGreatDoorMg23
import Derived.Test.YtfbndfkahodheaaGreatDoorMg24
import Derived.Test.YtfbndfkahodheaaGreatDoorMg7
/- FeedTells: walked. -/
namespace Go.Proofs.YtfbndfkahodheaaGreatDoor
open Go.RowKit

theorem errAt_set2 {E : Nat → Addr} {w : World} {n : Nat} {x y : Int} {T : TypeId} (h : w.heap[n]? = some (.cells #[.int .i64 x, .int .i64 y] T (0, 0))) {v : Value} {c : Nat} {a : Int} (he : ErrAt E w v c a) (v0 v1 : Value) : ErrAt E ((w.setCell ⟨n, 0, none⟩ v0).setCell ⟨n, 1, none⟩ v1) v c a := by
  rcases he with he | ⟨N, h1, h2, h3, h4⟩
  · exact .inl he
  · have hne : n ≠ N := by
      rintro rfl
      rw [cell_of_row _ _ _ _ _ _ h] at h4
      obtain ⟨d, rfl⟩ : ∃ d, c = d + 1 := ⟨c - 1, by omega⟩
      rw [errV_succ] at h4
      cases h4
    exact .inr ⟨N, h1, h2, (World.cell?_setCell_far _ _ _ _ hne).trans ((World.cell?_setCell_far _ _ _ _ hne).trans h3), (World.cell?_setCell_far _ _ _ _ hne).trans ((World.cell?_setCell_far _ _ _ _ hne).trans h4)⟩
theorem entsAt_set2 {w : World} {n : Nat} {x y : Int} {T : TypeId} (h : w.heap[n]? = some (.cells #[.int .i64 x, .int .i64 y] T (0, 0))) {v : Value} {L : List Ent} (hv : EntsAt w v L) (v0 v1 : Value) : EntsAt ((w.setCell ⟨n, 0, none⟩ v0).setCell ⟨n, 1, none⟩ v1) v L := by
  obtain ⟨a, c, h1, h2, h3, h4, h5⟩ := hv
  refine ⟨a, c, h1, h2, h3, h4, fun i hi => ?_⟩
  obtain ⟨b, o, h6, h7⟩ := h5 i hi
  have hne : n ≠ b := by
    rintro rfl
    have h8 := h7 2 _ rfl
    rw [cell_of_row _ _ _ _ _ _ h] at h8
    generalize o + i * entC.k = q at h8
    match q, h8 with
    | 0, h8 => cases h8
    | q + 1, h8 => simp at h8
  exact ⟨b, o, h6, fun j u hu => (World.cell?_setCell_far _ _ _ _ hne).trans ((World.cell?_setCell_far _ _ _ _ hne).trans (h7 j u hu))⟩
theorem ent_ne_fault : (102 : TypeId) ≠ 33 := by decide
theorem flo_ne_fault : (24 : TypeId) ≠ 33 := by decide
/-- What is kept by a store into the fault's box. -/
structure GB (w0 w : World) (g : Nat) : Prop where
  box : ∃ x y, w.heap[g]? = some (.cells #[.int .i64 x, .int .i64 y] 33 (0, 0))
  ge : w0.heap.size ≤ g
  below : Below w0.heap.size w0 w
theorem GB.later {w0 w w' : World} {g : Nat} (h : GB w0 w g) (hb : Below w.heap.size w w') : GB w0 w' g := by
  obtain ⟨x, y, h1⟩ := h.box
  exact ⟨⟨x, y, heap_down hb h1⟩, h.ge, below_trans h.below hb⟩
theorem GB.cells {w0 w : World} {g : Nat} (h : GB w0 w g) : ∃ x y, (w.cell? ⟨g, 0, none⟩ = some (.int .i64 x) ∧ w.cell? ⟨g, 1, none⟩ = some (.int .i64 y)) ∧ w.frozen? ⟨g, 0, none⟩ = false ∧ w.frozen? ⟨g, 1, none⟩ = false := by
  obtain ⟨x, y, h1⟩ := h.box
  exact ⟨x, y, two_kept (Below.refl _ _) h1⟩
theorem GB.set {w0 w : World} {g : Nat} (h : GB w0 w g) (x y : Int) : let u := (w.setCell ⟨g, 0, none⟩ (.int .i64 x)).setCell ⟨g, 1, none⟩ (.int .i64 y)
    GB w0 u g ∧ (u.cell? ⟨g, 0, none⟩ = some (.int .i64 x) ∧ u.cell? ⟨g, 1, none⟩ = some (.int .i64 y)) ∧ (w.setCell ⟨g, 0, none⟩ (.int .i64 x)).cell? ⟨g, 0, none⟩ = some (.int .i64 x) := by
  obtain ⟨x0, y0, h1⟩ := h.box
  have h2 := row_set2 h1 (.int .i64 x) (.int .i64 y)
  exact ⟨⟨⟨x, y, h2⟩, h.ge, below_set2 h.below h.ge _ _⟩, (two_kept (Below.refl _ _) h2).1, set2_first h1 _⟩
theorem row_not_fault {w : World} {base : Nat} {v : Value} {L : List Ent} (h : EntRow w base v L) {b : Nat} {cs : Array Value} (hb : w.heap[b]? = some (.cells cs 33 (0, 0))) : v.ownBlock ≠ some b := fun hg => by
  obtain ⟨_, cs', h4⟩ := RowG.block h hg
  rw [hb] at h4
  injection h4 with h4
  injection h4 with _ h4 _
  exact ent_ne_fault h4.symm
theorem GB.row {w0 w : World} {g : Nat} (h : GB w0 w g) {base : Nat} {v : Value} {L : List Ent} (hr : EntRow w base v L) (v0 v1 : Value) : EntRow ((w.setCell ⟨g, 0, none⟩ v0).setCell ⟨g, 1, none⟩ v1) base v L := by
  obtain ⟨x0, y0, h1⟩ := h.box
  have hne : ∀ k, v.ownBlock = some k → k ≠ g := fun k hk e => row_not_fault hr h1 (by rw [← e]; exact hk)
  exact (RowG.other hr ⟨g, 0, none⟩ v0 hne).other ⟨g, 1, none⟩ v1 hne
theorem GB.flo {w0 w : World} {g : Nat} (h : GB w0 w g) {v : Value} {L : List Flo} (hr : FloorsAt w v L) (v0 v1 : Value) : FloorsAt ((w.setCell ⟨g, 0, none⟩ v0).setCell ⟨g, 1, none⟩ v1) v L := by
  obtain ⟨x0, y0, h1⟩ := h.box
  exact floorsAt_set2 h1 hr v0 v1
theorem GB.ents {w0 w : World} {g : Nat} (h : GB w0 w g) {v : Value} {L : List Ent} (hr : EntsAt w v L) (v0 v1 : Value) : EntsAt ((w.setCell ⟨g, 0, none⟩ v0).setCell ⟨g, 1, none⟩ v1) v L := by
  obtain ⟨x0, y0, h1⟩ := h.box
  exact entsAt_set2 h1 hr v0 v1
theorem GB.err {E : Nat → Addr} {w0 w : World} {g : Nat} (h : GB w0 w g) {v : Value} {c : Nat} {a : Int} (hr : ErrAt E w v c a) (v0 v1 : Value) : ErrAt E ((w.setCell ⟨g, 0, none⟩ v0).setCell ⟨g, 1, none⟩ v1) v c a := by
  obtain ⟨x0, y0, h1⟩ := h.box
  exact errAt_set2 h1 hr v0 v1
set_option maxHeartbeats 32000000 in
set_option maxRecDepth 100000 in
theorem feedTells_any {E : Nat → Addr} (key : Int) (v : Value) (L : List Ent) (time : Int) (f : Flo) (seq : Int) (s : List UInt8) (w : World) (hL : LaidF E w) (hv : EntsAt w v L) (hm : ∀ e ∈ L, e.f.who.length ≤ maxLen) (hf : f.who.length ≤ maxLen) (hs : s.length ≤ maxLen) :
    Calls Tryz.prog 3 #[.int .i64 key, v, .int .i64 time, f.val, .int .i64 seq, .string (bs s)] w fun e w' => e = .returned (.bool true) ∧ Below w.heap.size w w' := by
  obtain ⟨fw, fe⟩ := f
  dsimp only [Flo.val, Flo.cells] at *
  have hB0 : Below w.heap.size w (w.alloc (.cells #[.string (bs fw), .int .i64 fe] 24)) := (Below.refl _ _).alloc (Nat.le_refl _) _
  have hbx := heap_alloc_new w (.cells #[.string (bs fw), .int .i64 fe] 24)
  have hLw := Lib.hid (fun wx (hx : Below w.heap.size w wx) => hL.below hx)
  have hEv := Lib.hid (fun wx (hx : Below w.heap.size w wx) => (show EntsAt wx v L from AtG.below hv hx))
  have hfo := Lib.hid (fed_any (E := E) _ (hL.below hB0).s)
  have hlg := Lib.hid (fun wx (hx : Below w.heap.size w wx) => long_ent v L wx (hEv.out wx hx) hm)
  have hmH := Lib.hid hm
  have hfH := Lib.hid hf
  obtain ⟨a0, c0, hv0⟩ := AtG.sl hv
  have hml := AtG.len hv
  have hfs := bs_size fw
  have hss := bs_size s
  unfold maxLen at hml hf hs
  subst hv0
  have hBH := Lib.hid hB0
  have hbxH := Lib.hid (fun wx (hx : Below (w.alloc (.cells #[.string (bs fw), .int .i64 fe] 24)).heap.size (w.alloc (.cells #[.string (bs fw), .int .i64 fe] 24)) wx) => (two_kept hx hbx).1)
  clear hL hm hv hB0 hbx
  go_enter Tryz.func3, Tryz.ntmps3
  go_wp2_with fail
  generalize hWd : w.alloc (.cells #[.string (bs fw), .int .i64 fe] 24) = W at *
  clear hWd
  refine hfo.out.mono ?_
  rintro e w1 ⟨rfl, hb1⟩
  have hK1 := Lib.hid hb1
  have hlg1 := hlg.out _ (below_trans hBH.out hb1)
  clear hfo hlg hb1
  cases hlo : longE L with
  | true =>
    rw [show longEI L = 1 by unfold longEI; rw [if_pos hlo]] at hlg1
    have hlg1 := Lib.hid hlg1
    clear hlo
    go_wp2_with fail
    refine hlg1.out.mono ?_
    rintro e w2 ⟨rfl, hb2⟩
    have hb2 := Lib.hid (below_trans hBH.out (below_trans hK1.out hb2))
    go_wp2_with fail
    go_ret
    exact ⟨rfl, hb2.out⟩
  | false =>
  rw [show longEI L = 0 by unfold longEI; rw [if_neg (by rw [hlo]; decide)]] at hlg1
  have hlg1 := Lib.hid hlg1
  have hl61 := (longE_false hlo).1
  clear hlo
  go_wp2_with fail
  refine hlg1.out.mono ?_
  rintro e w2 ⟨rfl, hb2⟩
  have hK2 := Lib.hid (below_trans hK1.out hb2)
  obtain ⟨q0, q1⟩ := hbxH.out _ hK2.out
  clear hb2 hlg1
  by_cases h20 : 20 < (bs fw).size
  case pos =>
    have hfin := Lib.hid (below_trans hBH.out hK2.out)
    go_wp2_with fail
    go_ret
    exact ⟨rfl, hfin.out⟩
  by_cases h400 : 400 < (bs s).size
  case pos =>
    have hfin := Lib.hid (below_trans hBH.out hK2.out)
    go_wp2_with fail
    go_ret
    exact ⟨rfl, hfin.out⟩
  have h20i : ¬ (20 : Int) < ((bs fw).size : Int) := by omega
  have h400i : ¬ (400 : Int) < ((bs s).size : Int) := by omega
  have hfa := Lib.hid (fun (ev : Value) (c : Nat) (a : Int) wx (hx : Below W.heap.size W wx) (he : ErrAt E wx ev c a) (hc : c ≤ 16) => faulted_self ev c a wx (hLw.out _ (below_trans hBH.out hx)).r he hc)
  have hown := Lib.hid (own_ent (.slice a0 L.length c0) L w2 (hEv.out _ (below_trans hBH.out hK2.out)) (by omega))
  clear h20 h400
  go_wp2_with fail
  refine hown.out.mono ?_
  rintro e w3 ⟨v3, rfl, hr3, hb3⟩
  have hK3 := Lib.hid (below_trans hK2.out hb3)
  obtain ⟨ao, co, hso⟩ := RowG.sl hr3
  subst hso
  have hr3 := Lib.hid hr3
  have hck := Lib.hid (check_ent (E := E) (.slice ao L.length co) L w3 (hLw.out _ (below_trans hBH.out hK3.out)).s.laid (EntRow.at_ hr3.out) hmH.out)
  clear hb3 hown q0 q1
  go_wp2_with fail
  refine hck.out.mono ?_
  rintro e w4 ⟨ev4, rfl, he4, hb4⟩
  have hK4 := Lib.hid (below_trans hK3.out hb4)
  have hr4 := Lib.hid (RowG.below hr3.out hb4)
  have he4 := Lib.hid he4
  have hck := Lib.hid (feedFaultR_any (.slice a0 L.length c0) L w4 (hEv.out _ (below_trans hBH.out hK4.out)) hmH.out)
  clear hb4 hr3
  go_wp2_with fail
  refine hck.out.mono ?_
  rintro e w5 ⟨rfl, hb5⟩
  have hK5 := Lib.hid (below_trans hK4.out hb5)
  have hr5 := Lib.hid (RowG.below hr4.out hb5)
  have hx := Lib.hid (hfa.out _ _ _ w5 hK5.out (he4.out.below hb5) (checkE_le L))
  clear hb5 hr4 he4 hck
  unfold faultF
  go_wp2_with fail
  refine hx.out.mono ?_
  rintro e w6 ⟨rfl, hb6⟩
  have hK6 := Lib.hid (below_trans hK5.out hb6)
  have hr6 := Lib.hid (RowG.below hr5.out hb6)
  obtain ⟨q0, q1⟩ := hbxH.out _ hK6.out
  have hx2 := Lib.hid (show Calls Tryz.prog 12 #[.slice ao L.length co, .int .i64 time, .agg #[.string (bs fw), .int .i64 fe]] w6 _ from add_ent (E := E) (.slice ao L.length co) L time ⟨fw, fe⟩ w6 (hLw.out _ (below_trans hBH.out hK6.out)).s.laid (EntRow.at_ hr6.out) hmH.out hfH.out)
  have haR := Lib.hid (fun wx (hx : Below W.heap.size W wx) => (show Calls Tryz.prog 13 #[.slice a0 L.length c0, .int .i64 time, .agg #[.string (bs fw), .int .i64 fe]] wx _ from addR_ent (.slice a0 L.length c0) L time ⟨fw, fe⟩ wx (hEv.out _ (below_trans hBH.out hx)) hmH.out hfH.out))
  have hac := Lib.hid (addE_le L time ⟨fw, fe⟩)
  obtain ⟨S, sc, sa, hS⟩ : ∃ S sc sa, addE L time ⟨fw, fe⟩ = (S, sc, sa) := ⟨_, _, _, rfl⟩
  rw [hS] at hx2 haR hac
  clear hb6 hr5 hx hS
  go_wp2_with fail
  refine hx2.out.mono ?_
  rintro e w7 ⟨⟨v7, ev7, rfl, hr7, he7⟩, hb7⟩
  have hK7 := Lib.hid (below_trans hK6.out hb7)
  have hr7o := Lib.hid (RowG.below hr6.out hb7)
  obtain ⟨q0, q1⟩ := hbxH.out _ hK7.out
  have hr7 := Lib.hid hr7
  have he7 := Lib.hid he7
  have haR := Lib.hid (haR.out w7 hK7.out)
  clear hb7 hr6 hx2
  go_wp2_with fail
  refine haR.out.mono ?_
  rintro e w8 ⟨⟨v8, rfl, hv8⟩, hb8⟩
  have hK8 := Lib.hid (below_trans hK7.out hb8)
  have hGB := Lib.hid (show GB W (w8.alloc (.cells #[.int .i64 (sc : Int), .int .i64 sa] 33)) w8.heap.size from ⟨⟨_, _, heap_alloc_new w8 _⟩, hK8.out.size, hK8.out.alloc hK8.out.size _⟩)
  have hro := Lib.hid (RowG.alloc (RowG.below hr7o.out hb8) (.cells #[.int .i64 (sc : Int), .int .i64 sa] 33))
  have hrx := Lib.hid (fun wx (hx : Below (w8.alloc (.cells #[.int .i64 (sc : Int), .int .i64 sa] 33)).heap.size (w8.alloc (.cells #[.int .i64 (sc : Int), .int .i64 sa] 33)) wx) => (show EntsAt wx v7 S ∧ EntsAt wx v8 S from ⟨AtG.below (RowG.at_ (RowG.alloc (RowG.below hr7.out hb8) _)) hx, AtG.below (AtG.below hv8 ((Below.refl _ _).alloc (Nat.le_refl _) _)) hx⟩))
  have hx := Lib.hid (hfa.out ev7 sc sa _ hGB.out.below ((he7.out.below hb8).below ((Below.refl _ _).alloc (Nat.le_refl _) _)) hac.out)
  clear hb8 hv8 hr7 he7 hr7o haR q0 q1
  unfold faultF
  dsimp only
  go_wp2_with fail
  generalize w8.alloc (.cells #[.int .i64 (sc : Int), .int .i64 sa] 33) = W8 at *
  generalize w8.heap.size = g at *
  refine hx.out.mono ?_
  rintro e w9 ⟨rfl, hb9⟩
  have hG9 := Lib.hid (hGB.out.later hb9)
  have hr9 := Lib.hid (RowG.below hro.out hb9)
  have hx3 := Lib.hid (same_ent _ _ S w9 (hrx.out w9 hb9).1 (hrx.out w9 hb9).2)
  clear hb9 hro hrx hGB hx
  go_wp2_with fail
  refine hx3.out.mono ?_
  rintro e w10 ⟨rfl, hb10⟩
  have hG10 := Lib.hid (hG9.out.later hb10)
  have hr10 := Lib.hid (RowG.below hr9.out hb10)
  have hx2 := Lib.hid (floors_ent (E := E) (.slice ao L.length co) L w10 (hLw.out _ (below_trans hBH.out hG10.out.below)).s.laid (EntRow.at_ hr10.out) hmH.out)
  have hfR := Lib.hid (fun wx (hx : Below W.heap.size W wx) => floorsR_ent (.slice a0 L.length c0) L wx (hEv.out _ (below_trans hBH.out hx)) hmH.out)
  have hac := Lib.hid (floorsE_le L)
  obtain ⟨O, oc, oa, hS⟩ : ∃ O oc oa, floorsE L = (O, oc, oa) := ⟨_, _, _, rfl⟩
  rw [hS] at hx2 hfR hac
  clear hb10 hr9 hx3 hS hG9
  go_wp2_with fail
  refine hx2.out.mono ?_
  rintro e w11 ⟨⟨v11, ev11, rfl, hr11, he11⟩, hb11⟩
  have hG11 := Lib.hid (hG10.out.later hb11)
  have hr11o := Lib.hid (RowG.below hr10.out hb11)
  have hv11 := Lib.hid (floorsAt_of (RowG.at_ (floRow_G.1 hr11)))
  have he11 := Lib.hid he11
  have hfR := Lib.hid (hfR.out w11 hG11.out.below)
  clear hb11 hr10 hx2 hr11 hG10
  go_wp2_with fail
  refine hfR.out.mono ?_
  rintro e w12 ⟨⟨v12, rfl, hv12⟩, hb12⟩
  have hG12 := hG11.out.later hb12
  obtain ⟨x0, y0, ⟨q0, q1⟩, f0, f1⟩ := hG12.cells
  obtain ⟨hGs, ⟨s0, s1⟩, s2⟩ := hG12.set (oc : Int) oa
  have hGs := Lib.hid hGs
  have hro := Lib.hid (hG12.row (RowG.below hr11o.out hb12) (.int .i64 (oc : Int)) (.int .i64 oa))
  have hrx := Lib.hid (show FloorsAt _ v11 O ∧ FloorsAt _ v12 O from ⟨hG12.flo (hv11.out.below hb12) (.int .i64 (oc : Int)) (.int .i64 oa), hG12.flo hv12 (.int .i64 (oc : Int)) (.int .i64 oa)⟩)
  have hx := Lib.hid (hfa.out ev11 oc oa _ hGs.out.below (hG12.err (he11.out.below hb12) (.int .i64 (oc : Int)) (.int .i64 oa)) hac.out)
  obtain ⟨a12, c12, hs12, _⟩ := hv12
  subst hs12
  clear hb12 he11 hr11o hfR hG12 hG11 hv11
  unfold faultF
  dsimp only
  go_wp2_with fail
  generalize ((w12.setCell ⟨g, 0, none⟩ (.int .i64 (oc : Int))).setCell ⟨g, 1, none⟩ (.int .i64 oa)) = W12 at *
  refine hx.out.mono ?_
  rintro e w13 ⟨rfl, hb13⟩
  have hG13 := Lib.hid (hGs.out.later hb13)
  have hr13 := Lib.hid (RowG.below hro.out hb13)
  have hx4 := Lib.hid (samef_flo _ _ O w13 (hrx.out.1.below hb13) (hrx.out.2.below hb13))
  clear hb13 hro hrx hGs hx
  go_wp2_with fail
  refine hx4.out.mono ?_
  rintro e w14 ⟨rfl, hb14⟩
  have hG14 := Lib.hid (hG13.out.later hb14)
  have hr14 := Lib.hid (RowG.below hr13.out hb14)
  have hx2 := Lib.hid (since_ent (E := E) (.slice ao L.length co) L seq w14 (hLw.out _ (below_trans hBH.out hG14.out.below)).s.laid (EntRow.at_ hr14.out) hmH.out)
  have hsR := Lib.hid (fun wx (hx : Below W.heap.size W wx) => sinceR_ent (.slice a0 L.length c0) L seq wx (hEv.out _ (below_trans hBH.out hx)) hmH.out)
  have hac := Lib.hid (sinceE_code L seq)
  obtain ⟨Q, qc, qa, hS⟩ : ∃ Q qc qa, sinceE L seq = (Q, qc, qa) := ⟨_, _, _, rfl⟩
  rw [hS] at hx2 hsR hac
  clear hb14 hr13 hx4 hS hG13
  go_wp2_with fail
  refine hx2.out.mono ?_
  rintro e w15 ⟨⟨v15, ev15, rfl, hr15, he15⟩, hb15⟩
  have hG15 := Lib.hid (hG14.out.later hb15)
  have hr15o := Lib.hid (RowG.below hr14.out hb15)
  have hr15 := Lib.hid hr15
  have he15 := Lib.hid he15
  have hsR := Lib.hid (hsR.out w15 hG15.out.below)
  clear hb15 hr14 hx2 hG14
  go_wp2_with fail
  refine hsR.out.mono ?_
  rintro e w16 ⟨⟨v16, rfl, hv16⟩, hb16⟩
  have hG16 := hG15.out.later hb16
  obtain ⟨x0, y0, ⟨q0, q1⟩, f0, f1⟩ := hG16.cells
  obtain ⟨hGs, ⟨s0, s1⟩, s2⟩ := hG16.set (qc : Int) qa
  have hGs := Lib.hid hGs
  have hro := Lib.hid (hG16.row (RowG.below hr15o.out hb16) (.int .i64 (qc : Int)) (.int .i64 qa))
  have hrx := Lib.hid (show EntsAt _ v15 Q ∧ EntsAt _ v16 Q from ⟨hG16.ents (AtG.below (RowG.at_ hr15.out) hb16) (.int .i64 (qc : Int)) (.int .i64 qa), hG16.ents hv16 (.int .i64 (qc : Int)) (.int .i64 qa)⟩)
  have hx := Lib.hid (hfa.out ev15 qc qa _ hGs.out.below (hG16.err (he15.out.below hb16) (.int .i64 (qc : Int)) (.int .i64 qa)) hac.out)
  clear hb16 he15 hr15o hsR hG16 hG15 hr15 hv16
  unfold faultF
  dsimp only
  go_wp2_with fail
  generalize ((w16.setCell ⟨g, 0, none⟩ (.int .i64 (qc : Int))).setCell ⟨g, 1, none⟩ (.int .i64 qa)) = W16 at *
  refine hx.out.mono ?_
  rintro e w17 ⟨rfl, hb17⟩
  have hG17 := Lib.hid (hGs.out.later hb17)
  have hr17 := Lib.hid (RowG.below hro.out hb17)
  have hx4 := Lib.hid (same_ent _ _ Q w17 (AtG.below hrx.out.1 hb17) (AtG.below hrx.out.2 hb17))
  clear hb17 hro hrx hGs hx
  go_wp2_with fail
  refine hx4.out.mono ?_
  rintro e w18 ⟨rfl, hb18⟩
  have hG18 := Lib.hid (hG17.out.later hb18)
  have hr18 := Lib.hid (RowG.below hr17.out hb18)
  have hx2 := Lib.hid (makeF_any (E := E) key (.slice ao L.length co) L time w18 (hLw.out _ (below_trans hBH.out hG18.out.below)).s (EntRow.at_ hr18.out) hmH.out)
  have hhR := Lib.hid (fun wx (hx : Below W.heap.size W wx) => headR_any key (.slice a0 L.length c0) L time wx (hEv.out _ (below_trans hBH.out hx)) hmH.out)
  have hac := Lib.hid (headOf_code key L time)
  obtain ⟨H, hc, ha, hS⟩ : ∃ H hc ha, headOf key L time = (H, hc, ha) := ⟨_, _, _, rfl⟩
  rw [hS] at hx2 hhR hac
  unfold HeadRes at hhR
  dsimp only [faultF] at hhR
  clear hb18 hr17 hx4 hS hG17
  go_wp2_with fail
  refine hx2.out.mono ?_
  rintro e w19 ⟨⟨ev19, rfl, he19⟩, hb19⟩
  have hG19 := Lib.hid (hG18.out.later hb19)
  have hr19o := Lib.hid (RowG.below hr18.out hb19)
  have he19 := Lib.hid he19
  have hhR := Lib.hid (hhR.out w19 hG19.out.below)
  clear hb19 hr18 hx2 hG18
  dsimp only
  go_wp2_with fail
  refine hhR.out.mono ?_
  rintro e w20 ⟨rfl, hb20⟩
  have hG20 := hG19.out.later hb20
  obtain ⟨x0, y0, ⟨q0, q1⟩, f0, f1⟩ := hG20.cells
  obtain ⟨hGs, ⟨s0, s1⟩, s2⟩ := hG20.set (hc : Int) ha
  have hGs := Lib.hid hGs
  have hro := Lib.hid (hG20.row (RowG.below hr19o.out hb20) (.int .i64 (hc : Int)) (.int .i64 ha))
  have hx := Lib.hid (hfa.out ev19 hc ha _ hGs.out.below (hG20.err (he19.out.below hb20) (.int .i64 (hc : Int)) (.int .i64 ha)) hac.out)
  clear hb20 he19 hr19o hhR hG20 hG19
  go_wp2_with fail
  generalize ((w20.setCell ⟨g, 0, none⟩ (.int .i64 (hc : Int))).setCell ⟨g, 1, none⟩ (.int .i64 ha)) = W20 at *
  refine hx.out.mono ?_
  rintro e w21 ⟨rfl, hb21⟩
  have hG21 := Lib.hid (hGs.out.later hb21)
  have hr21 := Lib.hid (RowG.below hro.out hb21)
  have hx2 := openF_any (E := E) key (bs s) w21 (hLw.out _ (below_trans hBH.out hG21.out.below)).s (by omega)
  have hoR := fun wx => openHR_any key s wx (by omega)
  have hac := Lib.hid (openH_code key s)
  simp only [bs_list] at hx2
  unfold HdRes at hoR
  obtain ⟨⟨h0, h1, h2⟩, oc2, hS⟩ : ∃ h oc2, openH key s = (h, oc2) := ⟨_, _, rfl⟩
  rw [hS] at hx2 hoR hac
  dsimp only [Hd.val, Hd.valR] at hx2 hoR
  have hx2 := Lib.hid hx2
  have hoR := Lib.hid hoR
  clear hb21 hro hx hGs hS
  go_wp2_with fail
  refine hx2.out.mono ?_
  rintro e w22 ⟨rfl, hb22⟩
  have hG22 := Lib.hid ((hG21.out.later hb22).later ((Below.refl _ _).alloc (Nat.le_refl _) (.cells #[.int .i64 h0, .int .i64 h1, .int .i64 h2] 53)))
  have hr22 := Lib.hid (RowG.alloc (RowG.below hr21.out hb22) (.cells #[.int .i64 h0, .int .i64 h1, .int .i64 h2] 53))
  have hd1 := Lib.hid (heap_alloc_new w22 (.cells #[.int .i64 h0, .int .i64 h1, .int .i64 h2] 53))
  clear hb22 hr21 hx2 hG21
  go_wp2_with fail
  refine (hoR.out _).mono ?_
  rintro e w23 ⟨rfl, hb23⟩
  have hG23 := Lib.hid ((hG22.out.later hb23).later ((Below.refl _ _).alloc (Nat.le_refl _) (.cells #[.int .i64 h0, .int .i64 h1, .int .i64 h2] 56)))
  have hr23 := Lib.hid (RowG.alloc (RowG.below hr22.out hb23) (.cells #[.int .i64 h0, .int .i64 h1, .int .i64 h2] 56))
  have hd1 := Lib.hid (heap_down ((Below.refl _ _).alloc (Nat.le_refl _) (.cells #[.int .i64 h0, .int .i64 h1, .int .i64 h2] 56)) (heap_down hb23 hd1.out))
  have hd2 := Lib.hid (heap_alloc_new w23 (.cells #[.int .i64 h0, .int .i64 h1, .int .i64 h2] 56))
  have hcd := Lib.hid (coded_same (E := E) oc2 _ (hLw.out _ (below_trans hBH.out hG23.out.below)).r hac.out)
  clear hb23 hr22 hoR hG22
  go_wp2_with fail
  refine hcd.out.mono ?_
  rintro e w24 ⟨rfl, hb24⟩
  have hG24 := Lib.hid (hG23.out.later hb24)
  obtain ⟨⟨j0, j1, j2⟩, _⟩ := head_kept (heap_down hb24 hd1.out)
  obtain ⟨⟨l0, l1, l2⟩, _⟩ := head_kept (heap_down hb24 hd2.out)
  have hx4 := Lib.hid (same_ent _ _ L w24 (RowG.at_ (RowG.below hr23.out hb24)) (hEv.out _ (below_trans hBH.out hG24.out.below)))
  clear hb24 hr23 hcd hG23
  go_wp2_with fail
  refine hx4.out.mono ?_
  rintro e w25 ⟨rfl, hb25⟩
  have hfin := Lib.hid (below_trans hBH.out (hG24.out.later hb25).below)
  clear hb25
  go_wp2_with fail
  go_ret
  exact ⟨rfl, hfin.out⟩
end Go.Proofs.YtfbndfkahodheaaGreatDoor

/- The sentinels of package api, out of the rows' condition; a world that meets it. -/
namespace Go.Proofs.YtfbndfkahodheaaGreatDoor
open Go.ChangeShapes Go.WideShapes Go.ChangeAt Go.RowKit Go.ChangeMaps

theorem glob_et : Tryz.prog.globalNamed "errors.errorType" = some 16 := by kernel_rfl
theorem rtype_row : (Tryz.prog.cutTypes.find? (·.1 == "internal/reflectlite.rtype")).map (·.2) = some 200 := by kernel_rfl
theorem error_row : ((List.range 297).filter fun t => Tryz.prog.rowNamed t [101, 114, 114, 111, 114]) = [30] := by kernel_rfl
theorem glob_Text : Tryz.prog.globalNamed "keyholder/api.ErrText" = some 4 ∧ (Tryz.prog.globals[4]?).map (·.type) = some 30 := ⟨by kernel_rfl, by kernel_rfl⟩
theorem glob_Bound : Tryz.prog.globalNamed "keyholder/api.ErrBound" = some 1 ∧ (Tryz.prog.globals[1]?).map (·.type) = some 30 := ⟨by kernel_rfl, by kernel_rfl⟩
theorem glob_Shape : Tryz.prog.globalNamed "keyholder/api.ErrShape" = some 8 ∧ (Tryz.prog.globals[8]?).map (·.type) = some 30 := ⟨by kernel_rfl, by kernel_rfl⟩
theorem glob_Name : Tryz.prog.globalNamed "keyholder/api.ErrName" = some 9 ∧ (Tryz.prog.globals[9]?).map (·.type) = some 30 := ⟨by kernel_rfl, by kernel_rfl⟩
theorem glob_None : Tryz.prog.globalNamed "keyholder/api.ErrNone" = some 7 ∧ (Tryz.prog.globals[7]?).map (·.type) = some 30 := ⟨by kernel_rfl, by kernel_rfl⟩
theorem glob_Exist : Tryz.prog.globalNamed "keyholder/api.ErrExist" = some 10 ∧ (Tryz.prog.globals[10]?).map (·.type) = some 30 := ⟨by kernel_rfl, by kernel_rfl⟩
theorem glob_Full : Tryz.prog.globalNamed "keyholder/api.ErrFull" = some 0 ∧ (Tryz.prog.globals[0]?).map (·.type) = some 30 := ⟨by kernel_rfl, by kernel_rfl⟩
theorem glob_Order : Tryz.prog.globalNamed "keyholder/api.ErrOrder" = some 11 ∧ (Tryz.prog.globals[11]?).map (·.type) = some 30 := ⟨by kernel_rfl, by kernel_rfl⟩
theorem glob_Mark : Tryz.prog.globalNamed "keyholder/api.ErrMark" = some 6 ∧ (Tryz.prog.globals[6]?).map (·.type) = some 30 := ⟨by kernel_rfl, by kernel_rfl⟩
theorem glob_Key : Tryz.prog.globalNamed "keyholder/api.ErrKey" = some 3 ∧ (Tryz.prog.globals[3]?).map (·.type) = some 30 := ⟨by kernel_rfl, by kernel_rfl⟩
theorem glob_Early : Tryz.prog.globalNamed "keyholder/api.ErrEarly" = some 12 ∧ (Tryz.prog.globals[12]?).map (·.type) = some 30 := ⟨by kernel_rfl, by kernel_rfl⟩
theorem glob_Late : Tryz.prog.globalNamed "keyholder/api.ErrLate" = some 5 ∧ (Tryz.prog.globals[5]?).map (·.type) = some 30 := ⟨by kernel_rfl, by kernel_rfl⟩
theorem glob_Floor : Tryz.prog.globalNamed "keyholder/api.ErrFloor" = some 13 ∧ (Tryz.prog.globals[13]?).map (·.type) = some 30 := ⟨by kernel_rfl, by kernel_rfl⟩
theorem glob_Stale : Tryz.prog.globalNamed "keyholder/api.ErrStale" = some 14 ∧ (Tryz.prog.globals[14]?).map (·.type) = some 30 := ⟨by kernel_rfl, by kernel_rfl⟩
theorem glob_Gap : Tryz.prog.globalNamed "keyholder/api.ErrGap" = some 2 ∧ (Tryz.prog.globals[2]?).map (·.type) = some 30 := ⟨by kernel_rfl, by kernel_rfl⟩
theorem glob_Off : Tryz.prog.globalNamed "keyholder/api.ErrOff" = some 15 ∧ (Tryz.prog.globals[15]?).map (·.type) = some 30 := ⟨by kernel_rfl, by kernel_rfl⟩

/-- What a row's list must hold. -/
structure Lists (laid : List (String × DataW Unit)) : Prop where
  et : ("errors.errorType", .iface "internal/reflectlite.rtype" (.agg [.ptr (.lit (.string [101, 114, 114, 111, 114]))])) ∈ laid
  e1 : ("keyholder/api.ErrText", .iface "*errors.errorString" (.ptr (.agg [.lit (.string [107, 101, 121, 104, 111, 108, 100, 101, 114, 58, 32, 116, 101, 120, 116])]))) ∈ laid
  e2 : ("keyholder/api.ErrBound", .iface "*errors.errorString" (.ptr (.agg [.lit (.string [107, 101, 121, 104, 111, 108, 100, 101, 114, 58, 32, 98, 111, 117, 110, 100])]))) ∈ laid
  e3 : ("keyholder/api.ErrShape", .iface "*errors.errorString" (.ptr (.agg [.lit (.string [107, 101, 121, 104, 111, 108, 100, 101, 114, 58, 32, 115, 104, 97, 112, 101])]))) ∈ laid
  e4 : ("keyholder/api.ErrName", .iface "*errors.errorString" (.ptr (.agg [.lit (.string [107, 101, 121, 104, 111, 108, 100, 101, 114, 58, 32, 110, 97, 109, 101])]))) ∈ laid
  e5 : ("keyholder/api.ErrNone", .iface "*errors.errorString" (.ptr (.agg [.lit (.string [107, 101, 121, 104, 111, 108, 100, 101, 114, 58, 32, 110, 111, 110, 101])]))) ∈ laid
  e6 : ("keyholder/api.ErrExist", .iface "*errors.errorString" (.ptr (.agg [.lit (.string [107, 101, 121, 104, 111, 108, 100, 101, 114, 58, 32, 101, 120, 105, 115, 116])]))) ∈ laid
  e7 : ("keyholder/api.ErrFull", .iface "*errors.errorString" (.ptr (.agg [.lit (.string [107, 101, 121, 104, 111, 108, 100, 101, 114, 58, 32, 102, 117, 108, 108])]))) ∈ laid
  e8 : ("keyholder/api.ErrOrder", .iface "*errors.errorString" (.ptr (.agg [.lit (.string [107, 101, 121, 104, 111, 108, 100, 101, 114, 58, 32, 111, 114, 100, 101, 114])]))) ∈ laid
  e9 : ("keyholder/api.ErrMark", .iface "*errors.errorString" (.ptr (.agg [.lit (.string [107, 101, 121, 104, 111, 108, 100, 101, 114, 58, 32, 109, 97, 114, 107])]))) ∈ laid
  e10 : ("keyholder/api.ErrKey", .iface "*errors.errorString" (.ptr (.agg [.lit (.string [107, 101, 121, 104, 111, 108, 100, 101, 114, 58, 32, 107, 101, 121])]))) ∈ laid
  e11 : ("keyholder/api.ErrEarly", .iface "*errors.errorString" (.ptr (.agg [.lit (.string [107, 101, 121, 104, 111, 108, 100, 101, 114, 58, 32, 101, 97, 114, 108, 121])]))) ∈ laid
  e12 : ("keyholder/api.ErrLate", .iface "*errors.errorString" (.ptr (.agg [.lit (.string [107, 101, 121, 104, 111, 108, 100, 101, 114, 58, 32, 108, 97, 116, 101])]))) ∈ laid
  e13 : ("keyholder/api.ErrFloor", .iface "*errors.errorString" (.ptr (.agg [.lit (.string [107, 101, 121, 104, 111, 108, 100, 101, 114, 58, 32, 102, 108, 111, 111, 114])]))) ∈ laid
  e14 : ("keyholder/api.ErrStale", .iface "*errors.errorString" (.ptr (.agg [.lit (.string [107, 101, 121, 104, 111, 108, 100, 101, 114, 58, 32, 115, 116, 97, 108, 101])]))) ∈ laid
  e15 : ("keyholder/api.ErrGap", .iface "*errors.errorString" (.ptr (.agg [.lit (.string [107, 101, 121, 104, 111, 108, 100, 101, 114, 58, 32, 103, 97, 112])]))) ∈ laid
  e16 : ("keyholder/api.ErrOff", .iface "*errors.errorString" (.ptr (.agg [.lit (.string [107, 101, 121, 104, 111, 108, 100, 101, 114, 58, 32, 111, 102, 102])]))) ∈ laid

theorem handle_et {W : World} {laid : List (String × DataW Unit)} (h : laidMetH Tryz.prog laid W) (hl : Lists laid) :
    W.cell? ⟨16, 0, none⟩ = some (.iface 200 (.agg #[.pointer (some ⟨25, 30, none⟩)])) := by
  obtain ⟨name, u, ty, e1, e2, e3, e4, e5⟩ := handles_of_H h _ hl.et rfl _ (List.mem_singleton.2 rfl)
  have en : name = [101, 114, 114, 111, 114] := (Option.some.inj e1).symm
  subst en
  obtain rfl := Option.some.inj (rtype_row.symm.trans e2)
  have hm : ty ∈ (List.range 297).filter fun t => Tryz.prog.rowNamed t [101, 114, 114, 111, 114] := List.mem_filter.2 ⟨List.mem_range.2 (by rw [← types_size]; exact e3), e4⟩
  rw [error_row] at hm
  obtain rfl := List.mem_singleton.1 hm
  have hh : typeHandle Tryz.prog 30 = .pointer (some ⟨25, 30, none⟩) := by kernel_rfl
  rw [hh] at e5
  simpa using World.var?_cell glob_et e5 0

theorem addr_ne {W : World} {a b : Addr} {s t : ByteArray} (ha : W.cell? a = some (.string s)) (hb : W.cell? b = some (.string t)) (h : s.data.toList ≠ t.data.toList) : a ≠ b := by
  rintro rfl
  rw [ha] at hb
  cases hb
  exact h rfl

set_option maxRecDepth 100000 in
theorem laidR_of {W : World} {laid : List (String × DataW Unit)} (h : laidMetH Tryz.prog laid W) (hl : Lists laid) : ∃ E, LaidR E W := by
  obtain ⟨a1, s1, c1, v1, x1, r1⟩ := sentinel_of h _ _ _ hl.e1 glob_Text.1 glob_Text.2
  obtain ⟨a2, s2, c2, v2, x2, r2⟩ := sentinel_of h _ _ _ hl.e2 glob_Bound.1 glob_Bound.2
  obtain ⟨a3, s3, c3, v3, x3, r3⟩ := sentinel_of h _ _ _ hl.e3 glob_Shape.1 glob_Shape.2
  obtain ⟨a4, s4, c4, v4, x4, r4⟩ := sentinel_of h _ _ _ hl.e4 glob_Name.1 glob_Name.2
  obtain ⟨a5, s5, c5, v5, x5, r5⟩ := sentinel_of h _ _ _ hl.e5 glob_None.1 glob_None.2
  obtain ⟨a6, s6, c6, v6, x6, r6⟩ := sentinel_of h _ _ _ hl.e6 glob_Exist.1 glob_Exist.2
  obtain ⟨a7, s7, c7, v7, x7, r7⟩ := sentinel_of h _ _ _ hl.e7 glob_Full.1 glob_Full.2
  obtain ⟨a8, s8, c8, v8, x8, r8⟩ := sentinel_of h _ _ _ hl.e8 glob_Order.1 glob_Order.2
  obtain ⟨a9, s9, c9, v9, x9, r9⟩ := sentinel_of h _ _ _ hl.e9 glob_Mark.1 glob_Mark.2
  obtain ⟨a10, s10, c10, v10, x10, r10⟩ := sentinel_of h _ _ _ hl.e10 glob_Key.1 glob_Key.2
  obtain ⟨a11, s11, c11, v11, x11, r11⟩ := sentinel_of h _ _ _ hl.e11 glob_Early.1 glob_Early.2
  obtain ⟨a12, s12, c12, v12, x12, r12⟩ := sentinel_of h _ _ _ hl.e12 glob_Late.1 glob_Late.2
  obtain ⟨a13, s13, c13, v13, x13, r13⟩ := sentinel_of h _ _ _ hl.e13 glob_Floor.1 glob_Floor.2
  obtain ⟨a14, s14, c14, v14, x14, r14⟩ := sentinel_of h _ _ _ hl.e14 glob_Stale.1 glob_Stale.2
  obtain ⟨a15, s15, c15, v15, x15, r15⟩ := sentinel_of h _ _ _ hl.e15 glob_Gap.1 glob_Gap.2
  obtain ⟨a16, s16, c16, v16, x16, r16⟩ := sentinel_of h _ _ _ hl.e16 glob_Off.1 glob_Off.2
  let A : List Addr := [a1, a2, a3, a4, a5, a6, a7, a8, a9, a10, a11, a12, a13, a14, a15, a16]
  let T : List (List UInt8) := [[107, 101, 121, 104, 111, 108, 100, 101, 114, 58, 32, 116, 101, 120, 116], [107, 101, 121, 104, 111, 108, 100, 101, 114, 58, 32, 98, 111, 117, 110, 100], [107, 101, 121, 104, 111, 108, 100, 101, 114, 58, 32, 115, 104, 97, 112, 101], [107, 101, 121, 104, 111, 108, 100, 101, 114, 58, 32, 110, 97, 109, 101], [107, 101, 121, 104, 111, 108, 100, 101, 114, 58, 32, 110, 111, 110, 101], [107, 101, 121, 104, 111, 108, 100, 101, 114, 58, 32, 101, 120, 105, 115, 116], [107, 101, 121, 104, 111, 108, 100, 101, 114, 58, 32, 102, 117, 108, 108], [107, 101, 121, 104, 111, 108, 100, 101, 114, 58, 32, 111, 114, 100, 101, 114], [107, 101, 121, 104, 111, 108, 100, 101, 114, 58, 32, 109, 97, 114, 107], [107, 101, 121, 104, 111, 108, 100, 101, 114, 58, 32, 107, 101, 121], [107, 101, 121, 104, 111, 108, 100, 101, 114, 58, 32, 101, 97, 114, 108, 121], [107, 101, 121, 104, 111, 108, 100, 101, 114, 58, 32, 108, 97, 116, 101], [107, 101, 121, 104, 111, 108, 100, 101, 114, 58, 32, 102, 108, 111, 111, 114], [107, 101, 121, 104, 111, 108, 100, 101, 114, 58, 32, 115, 116, 97, 108, 101], [107, 101, 121, 104, 111, 108, 100, 101, 114, 58, 32, 103, 97, 112], [107, 101, 121, 104, 111, 108, 100, 101, 114, 58, 32, 111, 102, 102]]
  have hT : ∀ c, 1 ≤ c → c ≤ 16 → ∃ s, W.cell? (A.getD (c - 1) default) = some (.string s) ∧ s.data.toList = T.getD (c - 1) [] := by
    intro c h1 h2
    rcases c with _ | _ | _ | _ | _ | _ | _ | _ | _ | _ | _ | _ | _ | _ | _ | _ | _ | c
    · omega
    · exact ⟨s1, v1, x1⟩
    · exact ⟨s2, v2, x2⟩
    · exact ⟨s3, v3, x3⟩
    · exact ⟨s4, v4, x4⟩
    · exact ⟨s5, v5, x5⟩
    · exact ⟨s6, v6, x6⟩
    · exact ⟨s7, v7, x7⟩
    · exact ⟨s8, v8, x8⟩
    · exact ⟨s9, v9, x9⟩
    · exact ⟨s10, v10, x10⟩
    · exact ⟨s11, v11, x11⟩
    · exact ⟨s12, v12, x12⟩
    · exact ⟨s13, v13, x13⟩
    · exact ⟨s14, v14, x14⟩
    · exact ⟨s15, v15, x15⟩
    · exact ⟨s16, v16, x16⟩
    · omega
  have hN : ∀ c, c < 16 → ∀ d, d < 16 → T.getD c [] = T.getD d [] → c = d := by decide +kernel
  refine ⟨fun c => A.getD (c - 1) default, ⟨⟨c1, c2, c3, c4, c5, c6, c7, c8, c9, c10, c11, c12, c13, c14, c15, c16⟩, handle_et h hl, ?_, ?_⟩⟩
  · intro c h1 h2
    rcases c with _ | _ | _ | _ | _ | _ | _ | _ | _ | _ | _ | _ | _ | _ | _ | _ | _ | c
    · omega
    · exact r1
    · exact r2
    · exact r3
    · exact r4
    · exact r5
    · exact r6
    · exact r7
    · exact r8
    · exact r9
    · exact r10
    · exact r11
    · exact r12
    · exact r13
    · exact r14
    · exact r15
    · exact r16
    · omega
  · intro c d h1 h2 h3 h4 he
    obtain ⟨s, hs, hsT⟩ := hT c h1 h2
    obtain ⟨t, ht, htT⟩ := hT d h3 h4
    have he : A.getD (c - 1) default = A.getD (d - 1) default := he
    rw [he, ht] at hs
    cases hs
    have := hN (c - 1) (by omega) (d - 1) (by omega) (by rw [← hsT, ← htT])
    omega
end Go.Proofs.YtfbndfkahodheaaGreatDoor
