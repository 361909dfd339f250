/- RelX -/
import Derived.Test.YtfbndfkahodheaaGreatDoorMg28
import Derived.Test.YtfbndfkahodheaaGreatDoorMg31
import Derived.Test.YtfbndfkahodheaaGreatDoorMg29
import Derived.Test.YtfbndfkahodheaaGreatDoorMg32
import Derived.Test.YtfbndfkahodheaaGreatDoorMg33
import Derived.Test.YtfbndfkahodheaaGreatDoorMg34
import Derived.Test.YtfbndfkahodheaaGreatDoorMg36
/- RelayActs: walked. -/
namespace Go.Proofs.YtfbndfkahodheaaGreatDoor
open Go.RowKit

theorem node_rep {n i : Nat} {f : Fol} (h : i < n) : nodeT (List.replicate n f) i = f := by
  unfold nodeT
  rw [getD_get (by simpa using h)]
  simp
theorem ups_of {key : Int} {A : List Int} (h : (newTE key A).1 = 0) : ∀ i, 1 ≤ i → i < A.length + 1 → 0 ≤ (-1 :: A : List Int).getD i 0 ∧ (-1 :: A : List Int).getD i 0 < (i : Int) := fun i h1 h2 => by
  obtain ⟨j, rfl⟩ : ∃ j, i = j + 1 := ⟨i - 1, by omega⟩
  have := (newTE_zero h).2.2 j (by omega)
  rw [show (-1 :: A : List Int).getD (j + 1) 0 = A.getD j 0 from by simp]
  omega
theorem tok_rep (key : Int) (n : Nat) : TOk (List.replicate n (newFol key)) := fun i hi => by
  rw [List.length_replicate] at hi
  rw [node_rep hi]
  exact FOk.new key
theorem newTE_code (key : Int) (A : List Int) : (newTE key A).1 ≤ 16 := by
  unfold newTE
  split
  · exact (by decide : (10 : Nat) ≤ 16)
  split
  · exact (by decide : (7 : Nat) ≤ 16)
  split
  · exact (by decide : (0 : Nat) ≤ 16)
  · exact (by decide : (2 : Nat) ≤ 16)
theorem seven_cell {w : World} {n : Nat} {v0 v1 v2 v3 v4 v5 v6 : Value} {T : TypeId} (h : w.heap[n]? = some (.cells #[v0, v1, v2, v3, v4, v5, v6] T (0, 0))) : w.cell? ⟨n, 0, none⟩ = some v0 ∧ w.cell? ⟨n, 1, none⟩ = some v1 ∧ w.cell? ⟨n, 2, none⟩ = some v2 ∧ w.cell? ⟨n, 3, none⟩ = some v3 ∧ w.cell? ⟨n, 4, none⟩ = some v4 ∧ w.cell? ⟨n, 5, none⟩ = some v5 ∧ w.cell? ⟨n, 6, none⟩ = some v6 := by
  refine ⟨?_, ?_, ?_, ?_, ?_, ?_, ?_⟩
  all_goals (rw [cell_of_row _ _ _ _ _ _ h]; rfl)
/-- The program's tree and the reference's, side by side. -/
structure TwoT (base b rb : Nat) (ps rps : List Nat) (A : List Int) (T T' : List Fol) (wx : World) : Prop where
  at_ : TreeAt wx base b ps T A
  ref : RTreeAt wx base rb rps T' A
theorem TwoT.below {base b rb : Nat} {ps rps : List Nat} {A : List Int} {T T' : List Fol} {wx wy : World} (h : TwoT base b rb ps rps A T T' wx) (hb : Below wx.heap.size wx wy) : TwoT base b rb ps rps A T T' wy := ⟨h.at_.below hb, h.ref.below hb⟩
theorem TwoT.prog {base b rb : Nat} {ps rps : List Nat} {A : List Int} {T T1 T' : List Fol} {wx wy : World} (h : TwoT base b rb ps rps A T T' wx) (h1 : TreeAt wy base b ps T1 A) (hk : Keeps (· ∈ ps) wx wy) : TwoT base b rb ps rps A T1 T' wy := ⟨h1, h.ref.foreign hk h.at_.blks⟩
theorem TwoT.refd {base b rb : Nat} {ps rps : List Nat} {A : List Int} {T T' T1 : List Fol} {wx wy : World} (h : TwoT base b rb ps rps A T T' wx) (h1 : RTreeAt wy base rb rps T1 A) (hk : Keeps (· ∈ rps) wx wy) : TwoT base b rb ps rps A T T1 wy := ⟨h.at_.foreign hk h.ref.blks, h1⟩
theorem TwoT.belowP {base b rb : Nat} {ps rps : List Nat} {A : List Int} {T T' : List Fol} {w wx wy : World} (h : TwoT base b rb ps rps A T T' wx) (hB : Below base w wx) (hs : base ≤ wx.heap.size) (hk : Keeps (· ∈ ps) wx wy) : Below base w wy := hB.trans (hk.below hs h.at_.ges)
theorem TwoT.belowR {base b rb : Nat} {ps rps : List Nat} {A : List Int} {T T' : List Fol} {w wx wy : World} (h : TwoT base b rb ps rps A T T' wx) (hB : Below base w wx) (hs : base ≤ wx.heap.size) (hk : Keeps (· ∈ rps) wx wy) : Below base w wy := hB.trans (hk.below hs h.ref.ges)
/-- The reference's tree's cells, kept by what changes followers alone. -/
theorem RTreeAt.elem {w : World} {base b : Nat} {ps : List Nat} {T : List Fol} {A : List Int} (h : RTreeAt w base b ps T A) {i : Nat} (hi : i < ps.length) : ∃ g o c, ∀ w' S, Keeps S w w' → (∀ k, S k → ∃ cs T', w.heap[k]? = some (.cells cs T' (0, 0)) ∧ T' ≠ 91 ∧ T' ≠ 67) →
    w'.cell? ⟨b, 0, none⟩ = some (.slice (some ⟨g, o, none⟩) ps.length c) ∧ w'.cell? ⟨g, o + i, none⟩ = some (.pointer (some ⟨ps.getD i 0, 0, none⟩)) := by
  obtain ⟨u, v, h1, h2, h3⟩ := h.blk
  obtain ⟨⟨c0, _⟩, _⟩ := two_kept (Below.refl _ _) h1
  obtain ⟨au, cu, rfl, _, _, _, hu⟩ := RowG.at_ h2
  obtain ⟨g, o, rfl, h6⟩ := hu i hi
  have h7 : w.cell? ⟨g, o + i, none⟩ = some (.pointer (some ⟨ps.getD i 0, 0, none⟩)) := by
    have := h6 0 _ rfl
    rw [getD_get hi]
    simpa [ptrC] using this
  refine ⟨g, o, cu, fun w' S hk hS => ⟨hk.cell c0 (fun hs => ?_), hk.cell h7 (fun hs => ?_)⟩⟩
  · obtain ⟨cs, T', h8, h9, _⟩ := hS _ hs
    have h8 : w.heap[b]? = some (.cells cs T' (0, 0)) := h8
    rw [h1] at h8
    injection h8 with h8
    injection h8 with _ h8 _
    exact h9 h8.symm
  · obtain ⟨cs, T', h8, _, h9⟩ := hS _ hs
    have h8 : w.heap[g]? = some (.cells cs T' (0, 0)) := h8
    exact row_not_fol h2 h8 (fun e => h9 e.symm) rfl
theorem fol_ne_rtree : (127 : TypeId) ≠ 91 := by decide
theorem fol_ne_rptr : (127 : TypeId) ≠ 67 := by decide
theorem rfol_ne_rtree : (69 : TypeId) ≠ 91 := by decide
theorem rfol_ne_rptr : (69 : TypeId) ≠ 67 := by decide
theorem TwoT.kinds {base b rb : Nat} {ps rps : List Nat} {A : List Int} {T T' : List Fol} {wx : World} (h : TwoT base b rb ps rps A T T' wx) : ∀ k, (k ∈ ps ∨ k ∈ rps) → ∃ cs T', wx.heap[k]? = some (.cells cs T' (0, 0)) ∧ T' ≠ 91 ∧ T' ≠ 67 := fun k hk => by
  rcases hk with hk | hk
  · obtain ⟨cs, h1⟩ := h.at_.blks k hk
    exact ⟨cs, _, h1, fol_ne_rtree, fol_ne_rptr⟩
  · obtain ⟨cs, h1⟩ := h.ref.blks k hk
    exact ⟨cs, _, h1, rfol_ne_rtree, rfol_ne_rptr⟩
theorem move_ne_fol : (93 : TypeId) ≠ 127 := by decide
theorem pollT_code (T : List Fol) (A : List Int) (i : Int) : (pollT T A i).1.2 ≤ 16 := by
  by_cases h0 : i < 1 ∨ (T.length : Int) ≤ i
  · rw [poll_out h0]; exact (by decide : (2 : Nat) ≤ 16)
  obtain ⟨n, rfl⟩ := Int.eq_ofNat_of_zero_le (show 0 ≤ i by omega)
  rw [poll_ways T A n (by omega) (by omega)]
  split
  · exact (by decide : (5 : Nat) ≤ 16)
  split
  · exact (by decide : (12 : Nat) ≤ 16)
  split
  · exact sinceE_code _ _
  split
  · exact takeF_code _ _ _
  · exact (by decide : (0 : Nat) ≤ 16)
set_option maxHeartbeats 32000000 in
set_option maxRecDepth 100000 in
theorem relayActs_any {E : Nat → Addr} (key : Int) (va : Value) (A : List Int) (v : Value) (L : List Ent) (vm : Value) (M : List Move) (w : World) (hL : LaidF E w) (hA : AtG numC w va A) (hv : EntsAt w v L) (hm : ∀ e ∈ L, e.f.who.length ≤ maxLen) (hM : AtG moveC w vm M) (hmm : ∀ n ∈ M, n.kind.length ≤ maxLen ∧ n.w.text.length ≤ maxLen) :
    Calls Tryz.prog 5 #[.int .i64 key, va, v, vm] w fun e w' => e = .returned (.bool true) ∧ Below w.heap.size w w' := by
  have hfo := Lib.hid (relayed_any (E := E) w hL.s)
  have hEv := Lib.hid (fun wx (hx : Below w.heap.size w wx) => (show EntsAt wx v L from AtG.below hv hx))
  have hvH := Lib.hid hv
  have hAv := Lib.hid (fun wx (hx : Below w.heap.size w wx) => (show AtG numC wx va A from AtG.below hA hx))
  have hMv := Lib.hid (fun wx (hx : Below w.heap.size w wx) => (show AtG moveC wx vm M from AtG.below hM hx))
  have hlg := Lib.hid (fun wx (hx : Below w.heap.size w wx) => long_ent v L wx (hEv.out wx hx) hm)
  have hln := Lib.hid (fun wx (hx : Below w.heap.size w wx) => longM_any vm M wx (hMv.out wx hx) hmm)
  have hnt := Lib.hid (fun vx wx (hx : Below w.heap.size w wx) (hvx : AtG numC wx vx A) (hl : A.length ≤ 1000) => newT_any (E := E) key vx A wx (hL.s.below hx) hvx hl)
  have hnr := Lib.hid (fun wx (hx : Below w.heap.size w wx) (hl : A.length ≤ 1000) => newTR_any key va A wx (hAv.out wx hx) hl)
  have hcd := Lib.hid (fun c wx (hx : Below w.heap.size w wx) (hc : c ≤ 16) => coded_same (E := E) c wx (hL.r.below hx) hc)
  have hfa := Lib.hid (fun vx c a wx (hx : Below w.heap.size w wx) (he : ErrAt E wx vx c a) (hc : c ≤ 16) => faulted_self (E := E) vx c a wx (hL.r.below hx) he hc)
  have hmH := Lib.hid hm
  obtain ⟨a0, c0, hv0⟩ := AtG.sl hv
  obtain ⟨aa, ca, ha0⟩ := AtG.sl hA
  obtain ⟨an, cn, hn0⟩ := AtG.sl hM
  have hml := AtG.len hv
  have hal := AtG.len hA
  have hnl := AtG.len hM
  unfold maxLen at hml hnl hal
  subst hv0
  subst hn0
  subst ha0
  have hLw := Lib.hid (fun wx (hx : Below w.heap.size w wx) => hL.below hx)
  clear hL hm hv hM hmm hA
  go_enter Tryz.func5, Tryz.ntmps5
  go_wp2_with fail
  refine hfo.out.mono ?_
  rintro e w1 ⟨rfl, hb1⟩
  have hlg1 := hlg.out _ hb1
  have hb1 := Lib.hid hb1
  clear hfo hlg
  by_cases h15 : 15 < A.length
  case pos =>
    have h15i : (15 : Int) < (A.length : Int) := by omega
    go_wp2_with fail
    go_ret
    exact ⟨rfl, hb1.out⟩
  have h15i : ¬ (15 : Int) < (A.length : Int) := by omega
  cases hlo : longE L with
  | true =>
    rw [show longEI L = 1 by unfold longEI; rw [if_pos hlo]] at hlg1
    have hlg1 := Lib.hid hlg1
    clear hlo
    go_wp2_with fail
    refine hlg1.out.mono ?_
    rintro e w2 ⟨rfl, hb2⟩
    have hb2 := Lib.hid (below_trans hb1.out hb2)
    go_wp2_with fail
    go_ret
    exact ⟨rfl, hb2.out⟩
  | false =>
  rw [show longEI L = 0 by unfold longEI; rw [if_neg (by rw [hlo]; decide)]] at hlg1
  have hlg1 := Lib.hid hlg1
  have hl61 := (longE_false hlo).1
  clear hlo
  go_wp2_with fail
  refine hlg1.out.mono ?_
  rintro e w2 ⟨rfl, hb2⟩
  have hb2 := Lib.hid (below_trans hb1.out hb2)
  have hln2 := hln.out _ hb2.out
  clear hlg1 hln
  cases hlo : longM M with
  | true =>
    rw [hlo] at hln2
    have hln2 := Lib.hid hln2
    clear hlo
    go_wp2_with fail
    refine hln2.out.mono ?_
    rintro e w3 ⟨rfl, rfl⟩
    go_wp2_with fail
    go_ret
    exact ⟨rfl, hb2.out⟩
  | false =>
  rw [hlo] at hln2
  have hln2 := Lib.hid hln2
  have hM40 := (longM_false hlo).1
  have hM200 := Lib.hid (longM_false hlo).2
  clear hlo
  go_wp2_with fail
  refine hln2.out.mono ?_
  rintro e w3 ⟨rfl, rfl⟩
  clear hln2
  go_upto_region 5 with fail
  go_wp2_with (first
    | (at_builtin; refine wpList_appG numC _ rfl _ _ 79 rfl 3 (.int .i64 0) 8 Tryz.underlying79 info_num rfl (by decide) w2.heap.size _ [] rfl (RowG.nil _ _ _) _ A rfl (hAv.out _ hb2.out) (by simp; omega) (Nat.le_refl _) ?_)
    | go_in)
  intro v3 w3 hown3 hb3 _ _
  try rw [List.nil_append] at hown3
  have hb3H := Lib.hid (below_trans hb2.out hb3)
  have hnt3 := Lib.hid (hnt.out v3 w3 hb3H.out (RowG.at_ hown3) (by omega))
  obtain ⟨a3, c3, hs3⟩ := hown3.sl
  subst hs3
  clear hown3 hb3 hnt
  go_wp2_with fail
  refine hnt3.out.mono ?_
  rintro e w4 ⟨hor4, hb4⟩
  have hb4H := Lib.hid (below_trans hb3H.out hb4)
  have hnr4 := Lib.hid (hnr.out w4 hb4H.out (by omega))
  have hcode := Lib.hid (newTE_code key A)
  rcases hor4 with ⟨hz, ev4, rfl, he4⟩ | ⟨hz, b, ps, rfl, hT4⟩
  · have hnr4 := Lib.hid (hnr4.out.mono (R' := fun e w' => e = .returned (.tuple #[.pointer none, faultF (newTE key A).1 (newTE key A).2]) ∧ Below w4.heap.size w4 w') (fun e w' ⟨hor, hb⟩ => by
      rcases hor with ⟨_, h⟩ | ⟨h, _⟩
      · exact ⟨h, hb⟩
      · exact absurd h hz))
    have hfa4 := Lib.hid (fun wx (hx : Below w4.heap.size w4 wx) => hfa.out ev4 _ _ wx (below_trans hb4H.out hx) (he4.below hx) hcode.out)
    generalize newTE key A = r at *
    obtain ⟨rc, ra⟩ := r
    dsimp only [faultF] at hnr4 hfa4 hz
    have hz1 : (0 : Int) < (rc : Int) := by omega
    generalize (rc : Int) = zi at *
    obtain ⟨T4, x4, hev⟩ := he4.iface hz
    subst hev
    clear he4 hb4 hz
    go_wp2_with fail
    refine hnr4.out.mono ?_
    rintro e w5 ⟨rfl, hb5⟩
    have hrow := heap_alloc_new w5 (.cells #[.int .i64 zi, .int .i64 ra] 33)
    obtain ⟨⟨r0, r1⟩, _⟩ := two_kept (Below.refl _ _) hrow
    have hb5H := Lib.hid (hb5.alloc hb5.size (.cells #[.int .i64 zi, .int .i64 ra] 33))
    have hfa5 := Lib.hid (hfa4.out _ hb5H.out)
    clear hb5 hrow hnr4 hfa4
    go_wp2_with fail
    refine hfa5.out.mono ?_
    rintro e w6 ⟨rfl, hb6⟩
    have hfin := Lib.hid (below_trans (below_trans hb4H.out hb5H.out) hb6)
    clear hb6
    go_wp2_with fail
    go_ret
    exact ⟨rfl, hfin.out⟩
  have hnr4 := Lib.hid (hnr4.out.mono (R' := fun e w' => (∃ b ps, e = .returned (.tuple #[.pointer (some ⟨b, 0, none⟩), faultF 0 (-1)]) ∧ RTreeAt w' w4.heap.size b ps (List.replicate (A.length + 1) (newFol key)) (-1 :: A)) ∧ Below w4.heap.size w4 w') (fun e w' ⟨hor, hb⟩ => by
    rcases hor with ⟨h, _⟩ | ⟨_, h⟩
    · exact absurd hz h
    · exact ⟨h, hb⟩))
  have hT4 := Lib.hid (hT4.mono hb3H.out.size)
  have hups := Lib.hid (ups_of hz)
  have hAl := Lib.hid (show (-1 :: A : List Int).length = A.length + 1 from rfl)
  generalize (-1 :: A : List Int) = AJ at *
  simp only [faultF] at hnr4
  clear hz hb4 hnt3 hfa
  go_wp2_with fail
  refine hnr4.out.mono ?_
  rintro e w5 ⟨⟨rb, rps, rfl, hR5⟩, hb5⟩
  have hrow := heap_alloc_new w5 (.cells #[.int .i64 0, .int .i64 (-1)] 33)
  obtain ⟨⟨r0, r1⟩, _⟩ := two_kept (Below.refl _ _) hrow
  have hal5 : Below w5.heap.size w5 (w5.alloc (.cells #[.int .i64 0, .int .i64 (-1)] 33)) := (Below.refl _ _).alloc (Nat.le_refl _) _
  have hK5 := Lib.hid (below_trans (below_trans hb4H.out hb5) hal5)
  have hS5 := Lib.hid (show TwoT w.heap.size b rb ps rps AJ _ _ _ from ⟨(hT4.out.below hb5).below hal5, (hR5.mono hb4H.out.size).below hal5⟩)
  clear hb5 hrow hR5 hnr4 hal5
  go_upto_region 9 with fail
  generalize w5.alloc (.cells #[.int .i64 0, .int .i64 (-1)] 33) = W at *
  generalize hT0 : List.replicate (A.length + 1) (newFol key) = T0 at *
  have hTl : T0.length = A.length + 1 := by rw [← hT0]; simp
  have hTok := Lib.hid (show TOk T0 by rw [← hT0]; exact tok_rep _ _)
  have hpl := hS5.out.at_.len
  have hrl := hS5.out.ref.len
  have hmany := Lib.hid (fun wx (h : TwoT w.heap.size b rb ps rps AJ T0 T0 wx) => many_tree w.heap.size b ps T0 AJ wx h.at_)
  obtain ⟨gr, gro, grc, hel⟩ := hS5.out.ref.elem (i := 0) (by omega)
  have hkS := Lib.hid (fun wx (hx : Below W.heap.size W wx) => (hel wx (fun _ => False) (Keeps.of_below hx) (fun _ h => h.elim)).1)
  have hD0 := Lib.hid (show Below W.heap.size W W.drew from (Below.refl _ _).drew)
  have hcD := hkS.out _ hD0.out
  have hSD := Lib.hid (hS5.out.below hD0.out)
  have hKD := Lib.hid (below_trans hK5.out hD0.out)
  have hmD := hmany.out _ hSD.out
  rw [hTl] at hmD
  have hmD := Lib.hid hmD
  have hrA : (rps.length : Int) = ((A.length + 1 : Nat) : Int) := by omega
  generalize hNd : ((A.length + 1 : Nat) : Int) = NN at *
  clear hel r0 r1
  refine wp_region_noPanic ?_
  refine wp_region_held_drew (S := fun w' => w'.cell? ⟨rb, 0, none⟩ = some (.slice (some ⟨gr, gro, none⟩) rps.length grc)) (by kernel_rfl) ?_ (fun hHeld => ?_)
  · exact hcD
  refine' held_take (i := 0) (d := some 67) (v := _) rfl rfl (by kernel_rfl) (by kernel_rfl) (by kernel_rfl) (fun _ _ _ h => h) rfl (by assumption) ?hy_1 ?re_1
  case hy_1 =>
    intro w hSw
    try dsimp only at hSw
    go_simp
    try with_reducible rfl
  simp only [Act.put, List.setIfInBounds_toArray, List.set_cons_zero, List.set_cons_succ]
  refine' held_take (i := 1) (d := some 68) (v := _) rfl rfl (by kernel_rfl) (by kernel_rfl) (by kernel_rfl) (fun _ _ _ h => h) rfl (by assumption) ?hy_2 ?re_2
  case hy_2 =>
    intro w hSw
    try dsimp only at hSw
    go_simp
    try with_reducible rfl
  simp only [Act.put, List.setIfInBounds_toArray, List.set_cons_zero, List.set_cons_succ]
  try simp only [ne_eq, not_true_eq_false, not_false_eq_true, decide_false, decide_true, bne_self_eq_false, beq_self_eq_true, Bool.not_true, Bool.not_false, hrA, reduceCtorEq]
  refine' held_take (i := 2) (d := some 69) (v := _) rfl rfl (by kernel_rfl) (by kernel_rfl) (by kernel_rfl) (fun _ _ _ h => h) rfl (by assumption) ?hy_3 ?re_3
  case hy_3 =>
    intro w hSw
    try dsimp only at hSw
    go_simp
    try with_reducible rfl
  simp only [Act.put, List.setIfInBounds_toArray, List.set_cons_zero, List.set_cons_succ]
  refine' held_take (i := 3) (d := some 70) (v := _) rfl rfl (by kernel_rfl) (by kernel_rfl) (by kernel_rfl) (fun _ _ _ h => h) rfl (by assumption) ?hy_4 ?re_4
  case hy_4 =>
    intro w hSw
    try dsimp only at hSw
    go_simp
    try with_reducible rfl
  simp only [Act.put, List.setIfInBounds_toArray, List.set_cons_zero, List.set_cons_succ]
  refine' held_take (i := 4) (d := some 71) (v := _) rfl rfl (by kernel_rfl) (by kernel_rfl) (by kernel_rfl) (fun _ _ _ h => h) rfl (by assumption) ?hy_5 ?re_5
  case hy_5 =>
    intro w hSw
    try dsimp only at hSw
    go_simp
    try with_reducible rfl
  simp only [Act.put, List.setIfInBounds_toArray, List.set_cons_zero, List.set_cons_succ]
  try simp only [ne_eq, not_true_eq_false, not_false_eq_true, decide_false, decide_true, bne_self_eq_false, beq_self_eq_true, Bool.not_true, Bool.not_false, hrA, reduceCtorEq]
  refine' held_take (i := 5) (d := some 72) (v := _) rfl rfl (by kernel_rfl) (by kernel_rfl) (by kernel_rfl) (fun _ _ _ h => h) rfl (by assumption) ?hy_6 ?re_6
  case hy_6 =>
    intro w hSw
    try dsimp only at hSw
    go_simp
    try with_reducible rfl
  simp only [Act.put, List.setIfInBounds_toArray, List.set_cons_zero, List.set_cons_succ]
  refine' held_take (i := 6) (d := some 73) (v := _) rfl rfl (by kernel_rfl) (by kernel_rfl) (by kernel_rfl) (fun _ _ _ h => h) rfl (by assumption) ?hy_7 ?re_7
  case hy_7 =>
    intro w hSw
    try dsimp only at hSw
    go_simp
    try with_reducible rfl
  simp only [Act.put, List.setIfInBounds_toArray, List.set_cons_zero, List.set_cons_succ]
  refine' held_take (i := 7) (d := some 74) (v := _) rfl rfl (by kernel_rfl) (by kernel_rfl) (by kernel_rfl) (fun _ _ _ h => h) rfl (by assumption) ?hy_8 ?re_8
  case hy_8 =>
    intro w hSw
    try dsimp only at hSw
    go_simp
    try with_reducible rfl
  simp only [Act.put, List.setIfInBounds_toArray, List.set_cons_zero, List.set_cons_succ]
  refine' held_take (i := 9) (d := some 76) (v := _) rfl rfl (by kernel_rfl) (by kernel_rfl) (by kernel_rfl) (fun _ _ _ h => h) rfl (by assumption) ?hy_9 ?re_9
  case hy_9 =>
    intro w hSw
    try dsimp only at hSw
    go_simp
    try with_reducible rfl
  simp only [Act.put, List.setIfInBounds_toArray, List.set_cons_zero, List.set_cons_succ]
  refine' held_take (i := 10) (d := some 77) (v := _) rfl rfl (by kernel_rfl) (by kernel_rfl) (by kernel_rfl) (fun _ _ _ h => h) rfl (by assumption) ?hy_10 ?re_10
  case hy_10 =>
    intro w hSw
    try dsimp only at hSw
    go_simp
    try with_reducible rfl
  simp only [Act.put, List.setIfInBounds_toArray, List.set_cons_zero, List.set_cons_succ]
  refine' held_take (i := 11) (d := some 78) (v := _) rfl rfl (by kernel_rfl) (by kernel_rfl) (by kernel_rfl) (fun _ _ _ h => h) rfl (by assumption) ?hy_11 ?re_11
  case hy_11 =>
    intro w hSw
    try dsimp only at hSw
    go_simp
    try with_reducible rfl
  simp only [Act.put, List.setIfInBounds_toArray, List.set_cons_zero, List.set_cons_succ]
  refine' held_take (i := 12) (d := some 79) (v := _) rfl rfl (by kernel_rfl) (by kernel_rfl) (by kernel_rfl) (fun _ _ _ h => h) rfl (by assumption) ?hy_12 ?re_12
  case hy_12 =>
    intro w hSw
    try dsimp only at hSw
    go_simp
    try with_reducible rfl
  simp only [Act.put, List.setIfInBounds_toArray, List.set_cons_zero, List.set_cons_succ]
  refine' held_take (i := 13) (d := some 80) (v := _) rfl rfl (by kernel_rfl) (by kernel_rfl) (by kernel_rfl) (fun _ _ _ h => h) rfl (by assumption) ?hy_13 ?re_13
  case hy_13 =>
    intro w hSw
    try dsimp only at hSw
    go_simp
    try with_reducible rfl
  simp only [Act.put, List.setIfInBounds_toArray, List.set_cons_zero, List.set_cons_succ]
  refine wpAnyH_ready (rs := [8]) (by kernel_rfl) (by simp) ?_
  refine AllReadyH.cons rfl (fun K hK => ?_) AllReadyH.nil
  go_simp
  refine hmD.out.mono ?_
  rintro e w7 ⟨rfl, rfl⟩
  go_wp2_with fail
  refine hK.out _ _ ?_ (fun hHeld => ?_)
  · exact hcD
  clear hK K
  try simp only [Act.put, List.setIfInBounds_toArray, List.set_cons_zero, List.set_cons_succ]
  refine' held_take (i := 14) (d := some 81) (v := _) rfl rfl (by kernel_rfl) (by kernel_rfl) (by kernel_rfl) (fun _ _ _ h => h) rfl (by assumption) ?hy_14 ?re_14
  case hy_14 =>
    intro w hSw
    try dsimp only at hSw
    go_simp
    try with_reducible rfl
  simp only [Act.put, List.setIfInBounds_toArray, List.set_cons_zero, List.set_cons_succ]
  try simp only [ne_eq, not_true_eq_false, not_false_eq_true, decide_false, decide_true, bne_self_eq_false, beq_self_eq_true, Bool.not_true, Bool.not_false, hrA, reduceCtorEq]
  refine' held_take (i := 15) (d := some 82) (v := _) rfl rfl (by kernel_rfl) (by kernel_rfl) (by kernel_rfl) (fun _ _ _ h => h) rfl (by assumption) ?hy_15 ?re_15
  case hy_15 =>
    intro w hSw
    try dsimp only at hSw
    go_simp
    try with_reducible rfl
  simp only [Act.put, List.setIfInBounds_toArray, List.set_cons_zero, List.set_cons_succ]
  refine wpAnyH_done (by kernel_rfl) ?_ _
  refine NoPanic.normal ?_
  skip
  clear hkS hD0 hcD hmD hmany hrA
  go_wp2_with fail
  go_loopg [15] (M.length + 1) (fun g i wr => ∃ (j : Nat) (T : List Fol), i = .int .i64 j ∧ j ≤ M.length ∧ M.length - j + 1 ≤ g ∧ T.length = A.length + 1 ∧ Hid (TOk T) ∧ Hid (TwoT w.heap.size b rb ps rps AJ T T wr) ∧ Hid (Below w.heap.size w wr))
  case atStart => exact ⟨0, T0, rfl, Nat.zero_le _, by omega, hTl, hTok, hSD, hKD⟩
  case round =>
    clear hS5 hK5 hSD hKD hT0 hTok hTl hpl hrl hT4 hb4H hb3H hNd
    obtain ⟨j, T, rfl, hj, hg, hTl, hTok, hS, hK⟩ := hrel
    have hpl := hS.out.at_.len
    have hrl := hS.out.ref.len
    have hAT : AJ.length = T.length := by have := hAl.out; omega
    have hup := Lib.hid (fun i (h1 : 1 ≤ i) (h2 : i < T.length) => (show 0 ≤ AJ.getD i 0 ∧ AJ.getD i 0 < (T.length : Int) from by
      have h3 := hups.out i h1 (by omega)
      omega))
    by_cases hlt : j < M.length
    · obtain ⟨_, _, he, _, _, _, hcs⟩ := hMv.out _ hK.out
      cases he
      obtain ⟨bb, oo, rfl, hc⟩ := hcs j hlt
      have hn2 := hM200.out M[j] (List.getElem_mem hlt)
      generalize M[j] = nn at *
      obtain ⟨kd, n, mn, fr, tm, ky, tx⟩ := nn
      have hn2 : tx.length ≤ 200 := hn2.2
      have d0 : wr.cell? ⟨bb, oo + j * 7, none⟩ = some (.string (bs kd)) := hc 0 _ rfl
      have d1 : wr.cell? ⟨bb, oo + j * 7 + 1, none⟩ = some (.int .i64 n) := hc 1 _ rfl
      have d2 : wr.cell? ⟨bb, oo + j * 7 + 2, none⟩ = some (.int .i64 mn) := hc 2 _ rfl
      have d3 : wr.cell? ⟨bb, oo + j * 7 + 3, none⟩ = some (.int .i64 fr) := hc 3 _ rfl
      have d4 : wr.cell? ⟨bb, oo + j * 7 + 4, none⟩ = some (.int .i64 tm) := hc 4 _ rfl
      have d5 : wr.cell? ⟨bb, oo + j * 7 + 5, none⟩ = some (.int .i64 ky) := hc 5 _ rfl
      have d6 : wr.cell? ⟨bb, oo + j * 7 + 6, none⟩ = some (.string (bs tx)) := hc 6 _ rfl
      clear hcs hc
      have hk0 : (0 : Int) ≤ (j : Int) := by omega
      have hk1 : (j : Int) < (M.length : Int) := by omega
      have hal1 := fun o => (show Below wr.heap.size wr (wr.alloc o) from (Below.refl _ _).alloc (Nat.le_refl _) o)
      have hKa := Lib.hid (fun o => below_trans hK.out (hal1 o))
      have hSa := Lib.hid (fun o => hS.out.below (hal1 o))
      clear hal1
      go_upto_region 15 with fail
      generalize hWo : wr.alloc (.cells #[.string (bs kd), .int .i64 n, .int .i64 mn, .int .i64 fr, .int .i64 tm, .int .i64 ky, .string (bs tx)] 93) = W at *
      have hKW := Lib.hid (show Below w.heap.size w W by rw [← hWo]; exact hKa.out _)
      have hSW := Lib.hid (show TwoT w.heap.size b rb ps rps AJ T T W by rw [← hWo]; exact hSa.out _)
      have hbx := heap_alloc_new wr (.cells #[.string (bs kd), .int .i64 n, .int .i64 mn, .int .i64 fr, .int .i64 tm, .int .i64 ky, .string (bs tx)] 93)
      rw [hWo] at hbx
      have hbxH := Lib.hid hbx
      generalize wr.heap.size = bxn at *
      obtain ⟨x0, x1, x2, x3, x4, x5, x6⟩ := seven_cell hbx
      clear hKa hSa hWo hbx d0 d1 d2 d3 d4 d5 d6 hS hK
      by_cases hpu : kd = [112, 117, 115, 104]
      · have e1 : ((bs kd).toList == [112, 117, 115, 104]) = true := by rw [hpu, toList_data]; rfl
        have e1b : (bs kd).toList = [112, 117, 115, 104] := by rw [hpu, toList_data]; rfl
        have hno := Lib.hid (newsOf_from w (.slice a0 L.length c0) L ⟨mn, fr, tm, ky, tx⟩ W hKW.out hvH.out hmH.out (by omega) (by unfold maxLen; dsimp only; omega))
        have hhl := Lib.hid (newsHead_le (L := L) (n := ⟨mn, fr, tm, ky, tx⟩) hn2)
        have hen := Lib.hid (newsEnts_le L ⟨mn, fr, tm, ky, tx⟩)
        have hnn := Lib.hid (newsEnts_names (L := L) (n := ⟨mn, fr, tm, ky, tx⟩) hmH.out)
        generalize newsHead L ⟨mn, fr, tm, ky, tx⟩ = hd at *
        generalize newsEnts L ⟨mn, fr, tm, ky, tx⟩ = ME at *
        dsimp only [News.val] at hno
        have hO := Lib.hid (hTok.out 0 (by omega))
        have hO' := Lib.hid (hO.out.take hhl.out hnn.out)
        have htc := takeF_code (nodeT T 0) hd ME
        have hps0 : 0 < ps.length := by omega
        have hrs0 : 0 < rps.length := by omega
        have hol := Lib.hid (show ME.length ≤ 1000 by have := hen.out; omega)
        have hpu1 := Lib.hid (fun vx wx (hx : Below w.heap.size w wx) (h : TwoT w.heap.size b rb ps rps AJ T T wx) (hvx : EntsAt wx vx ME) => pushK_any (E := E) w.heap.size b ps T AJ hd vx ME wx (hLw.out _ hx).s h.at_ hps0 hO.out hvx hnn.out hol.out hhl.out hx.size)
        have htr := Lib.hid (fun T1 vx wx (hx : Below w.heap.size w wx) (h : TwoT w.heap.size b rb ps rps AJ T1 T wx) (hvx : EntsAt wx vx ME) => takeR_fol w.heap.size (rps.getD 0 0) (nodeT T 0) hd vx ME wx (h.ref.fol 0 hrs0) hvx hnn.out hO.out.nm (by have := hO.out.l60; have := hen.out; omega) (by have := hhl.out; omega) hx.size)
        have hTok' := Lib.hid (hTok.out.set (i := 0) (by omega) hO'.out)
        have hset := Lib.hid (fun T1 (wx wy : World) f (hx : Below w.heap.size w wx) (h : TwoT w.heap.size b rb ps rps AJ T1 T wx) (hf : RFolAt wy w.heap.size (rps.getD 0 0) f) (hk : Keeps (· = rps.getD 0 0) wx wy) => (show TwoT w.heap.size b rb ps rps AJ T1 (T.set 0 f) wy ∧ Below w.heap.size w wy from
          have hk2 : Keeps (· ∈ rps) wx wy := hk.mono (fun k e => e ▸ getD_mem hrs0)
          ⟨h.refd (h.ref.set hrs0 hf hk) hk2, h.belowR hx hx.size hk2⟩))
        have hnx := Lib.hid (fun (wx wy : World) T1 (hx : Below w.heap.size w wx) (h : TwoT w.heap.size b rb ps rps AJ T T wx) (h1 : TreeAt wy w.heap.size b ps T1 AJ) (hk : Keeps (· ∈ ps) wx wy) => (show TwoT w.heap.size b rb ps rps AJ T1 T wy ∧ Below w.heap.size w wy from ⟨h.prog h1 hk, h.belowP hx hx.size hk⟩))
        generalize htd : takeF (nodeT T 0) hd ME = TT at *
        obtain ⟨tc, F'⟩ := TT
        dsimp only at hO' htc hpu1 htr hTok'
        clear hnn hhl hen htd hpu x1 hbxH hn2
        go_wp2_with fail
        refine hno.out.mono ?_
        rintro e w5 ⟨⟨v5, rfl, hv5⟩, hb5⟩
        have hK5 := Lib.hid (below_trans hKW.out hb5)
        have hS5 := Lib.hid (hSW.out.below hb5)
        have hv5H := Lib.hid hv5
        clear hb5 hv5 hno x0 x2 x3 x4 x5 x6
        obtain ⟨gr, gro, grc, hel⟩ := hS5.out.ref.elem (i := 0) hrs0
        rw [Nat.add_zero] at hel
        have hkS := Lib.hid (fun wx (hx : Keeps (fun k => k ∈ ps ∨ k ∈ rps) w5 wx) => hel wx _ hx hS5.out.kinds)
        have hD0 := Lib.hid (show Below w5.heap.size w5 w5.drew from (Below.refl _ _).drew)
        have hkD := Lib.hid (show Keeps (fun k => k ∈ ps ∨ k ∈ rps) w5 w5.drew from Keeps.of_below hD0.out)
        have hcD := hkS.out _ hkD.out
        have hown := Lib.hid (own_ent v5 ME w5.drew (hv5H.out _ (below_trans hK5.out hD0.out)) hol.out)
        have hmr := Lib.hid (getD_mem hrs0)
        have hri : (0 : Int) < (rps.length : Int) := by omega
        have hrle : (rps.length : Int) ≤ 1000 := by omega
        generalize hrp : rps.getD 0 0 = rp at *
        clear hel
        go_upto_region 20 with fail
        refine wp_region_noPanic ?_
        refine wp_region_held_drew (S := fun w' => w'.cell? ⟨rb, 0, none⟩ = some (.slice (some ⟨gr, gro, none⟩) rps.length grc) ∧ w'.cell? ⟨gr, gro, none⟩ = some (.pointer (some ⟨rp, 0, none⟩))) (by kernel_rfl) ?_ (fun hHeld => ?_)
        · exact hcD
        refine' held_take (i := 0) (d := some 109) (v := _) rfl rfl (by kernel_rfl) (by kernel_rfl) (by kernel_rfl) (fun _ _ _ h => h) rfl (by assumption) ?hy_16 ?re_16
        case hy_16 =>
          intro w hSw
          try dsimp only at hSw
          go_simp
          try with_reducible rfl
        simp only [Act.put, List.setIfInBounds_toArray, List.set_cons_zero, List.set_cons_succ]
        refine' held_take (i := 1) (d := some 110) (v := _) rfl rfl (by kernel_rfl) (by kernel_rfl) (by kernel_rfl) (fun _ _ _ h => h) rfl (by assumption) ?hy_17 ?re_17
        case hy_17 =>
          intro w hSw
          try dsimp only at hSw
          go_simp
          try with_reducible rfl
        simp only [Act.put, List.setIfInBounds_toArray, List.set_cons_zero, List.set_cons_succ]
        refine' held_take (i := 2) (d := some 111) (v := _) rfl rfl (by kernel_rfl) (by kernel_rfl) (by kernel_rfl) (fun _ _ _ h => h) rfl (by assumption) ?hy_18 ?re_18
        case hy_18 =>
          intro w hSw
          try dsimp only at hSw
          go_simp
          try with_reducible rfl
        simp only [Act.put, List.setIfInBounds_toArray, List.set_cons_zero, List.set_cons_succ]
        refine' held_take (i := 5) (d := some 114) (v := _) rfl rfl (by kernel_rfl) (by kernel_rfl) (by kernel_rfl) (fun _ _ _ h => h) rfl (by assumption) ?hy_19 ?re_19
        case hy_19 =>
          intro w hSw
          try dsimp only at hSw
          go_simp
          try with_reducible rfl
        simp only [Act.put, List.setIfInBounds_toArray, List.set_cons_zero, List.set_cons_succ]
        refine' held_take (i := 6) (d := some 115) (v := _) rfl rfl (by kernel_rfl) (by kernel_rfl) (by kernel_rfl) (fun _ _ _ h => h) rfl (by assumption) ?hy_20 ?re_20
        case hy_20 =>
          intro w hSw
          try dsimp only at hSw
          go_simp
          try with_reducible rfl
        simp only [Act.put, List.setIfInBounds_toArray, List.set_cons_zero, List.set_cons_succ]
        refine' held_take (i := 7) (d := some 116) (v := _) rfl rfl (by kernel_rfl) (by kernel_rfl) (by kernel_rfl) (fun _ _ _ h => h) rfl (by assumption) ?hy_21 ?re_21
        case hy_21 =>
          intro w hSw
          try dsimp only at hSw
          go_simp
          try with_reducible rfl
        simp only [Act.put, List.setIfInBounds_toArray, List.set_cons_zero, List.set_cons_succ]
        refine' held_take (i := 8) (d := some 117) (v := _) rfl rfl (by kernel_rfl) (by kernel_rfl) (by kernel_rfl) (fun _ _ _ h => h) rfl (by assumption) ?hy_22 ?re_22
        case hy_22 =>
          intro w hSw
          try dsimp only at hSw
          go_simp
          try with_reducible rfl
        simp only [Act.put, List.setIfInBounds_toArray, List.set_cons_zero, List.set_cons_succ]
        refine' held_take (i := 9) (d := some 118) (v := _) rfl rfl (by kernel_rfl) (by kernel_rfl) (by kernel_rfl) (fun _ _ _ h => h) rfl (by assumption) ?hy_23 ?re_23
        case hy_23 =>
          intro w hSw
          try dsimp only at hSw
          go_simp
          try with_reducible rfl
        simp only [Act.put, List.setIfInBounds_toArray, List.set_cons_zero, List.set_cons_succ]
        refine' held_take (i := 10) (d := some 119) (v := _) rfl rfl (by kernel_rfl) (by kernel_rfl) (by kernel_rfl) (fun _ _ _ h => h) rfl (by assumption) ?hy_24 ?re_24
        case hy_24 =>
          intro w hSw
          try dsimp only at hSw
          go_simp
          try with_reducible rfl
        simp only [Act.put, List.setIfInBounds_toArray, List.set_cons_zero, List.set_cons_succ]
        refine' held_take (i := 11) (d := some 120) (v := _) rfl rfl (by kernel_rfl) (by kernel_rfl) (by kernel_rfl) (fun _ _ _ h => h) rfl (by assumption) ?hy_25 ?re_25
        case hy_25 =>
          intro w hSw
          try dsimp only at hSw
          go_simp
          try with_reducible rfl
        simp only [Act.put, List.setIfInBounds_toArray, List.set_cons_zero, List.set_cons_succ]
        refine' held_take (i := 12) (d := some 121) (v := _) rfl rfl (by kernel_rfl) (by kernel_rfl) (by kernel_rfl) (fun _ _ _ h => h) rfl (by assumption) ?hy_26 ?re_26
        case hy_26 =>
          intro w hSw
          try dsimp only at hSw
          go_simp
          try with_reducible rfl
        simp only [Act.put, List.setIfInBounds_toArray, List.set_cons_zero, List.set_cons_succ]
        refine wpAnyH_ready (rs := [3]) (by kernel_rfl) (by simp) ?_
        refine AllReadyH.cons rfl (fun K hK => ?_) AllReadyH.nil
        go_simp
        refine hown.out.mono ?_
        rintro e w6 ⟨v6, rfl, hr6, hb6⟩
        have hb6 := below_trans hD0.out hb6
        have hK6 := Lib.hid (below_trans hK5.out hb6)
        have hS6 := Lib.hid (hS5.out.below hb6)
        have hk6 := Lib.hid (show Keeps (fun k => k ∈ ps ∨ k ∈ rps) w5 w6 from Keeps.of_below hb6)
        have hpu6 := Lib.hid (hpu1.out v6 _ hK6.out hS6.out (EntRow.at_ hr6))
        clear hb6 hr6
        go_wp2_with fail
        refine hK.out _ _ ?_ (fun hHeld => ?_)
        · exact hkS.out _ hk6.out
        clear hK K
        try simp only [Act.put, List.setIfInBounds_toArray, List.set_cons_zero, List.set_cons_succ]
        refine wpAnyH_ready (rs := [4]) (by kernel_rfl) (by simp) ?_
        refine AllReadyH.cons rfl (fun K hK => ?_) AllReadyH.nil
        go_simp
        refine hpu6.out.mono ?_
        rintro e w7 ⟨rfl, hT7, hkk7⟩
        have hN7 := hnx.out w6 w7 _ hK6.out hS6.out hT7 hkk7
        have hK7 := Lib.hid hN7.2
        have hS7 := Lib.hid hN7.1
        have hk7 := Lib.hid (hk6.out.trans (hkk7.mono (fun k h => .inl h)))
        have htr7 := Lib.hid (htr.out _ v5 _ hK7.out hS7.out (hv5H.out _ hK7.out))
        clear hN7 hT7 hkk7
        go_wp2_with fail
        refine hK.out _ _ ?_ (fun hHeld => ?_)
        · exact hkS.out _ hk7.out
        clear hK K
        try simp only [Act.put, List.setIfInBounds_toArray, List.set_cons_zero, List.set_cons_succ]
        refine wpAnyH_ready (rs := [13]) (by kernel_rfl) (by simp) ?_
        refine AllReadyH.cons rfl (fun K hK => ?_) AllReadyH.nil
        go_simp
        refine htr7.out.mono ?_
        rintro e w8 ⟨rfl, hR8, hkk8⟩
        have hN8 := hset.out _ w7 w8 _ hK7.out hS7.out hR8 hkk8
        have hK8 := Lib.hid hN8.2
        have hS8 := Lib.hid hN8.1
        have hk8 := Lib.hid (hk7.out.trans (hkk8.mono (fun k e => .inr (e ▸ hmr.out))))
        have hcd8 := Lib.hid (hcd.out tc _ hK8.out htc)
        clear hN8 hR8 hkk8
        go_wp2_with fail
        refine hK.out _ _ ?_ (fun hHeld => ?_)
        · exact hkS.out _ hk8.out
        clear hK K
        try simp only [Act.put, List.setIfInBounds_toArray, List.set_cons_zero, List.set_cons_succ]
        refine wpAnyH_ready (rs := [14]) (by kernel_rfl) (by simp) ?_
        refine AllReadyH.cons rfl (fun K hK => ?_) AllReadyH.nil
        go_simp
        refine hcd8.out.mono ?_
        rintro e w9 ⟨rfl, hb9⟩
        have hK9 := Lib.hid (below_trans hK8.out hb9)
        have hS9 := Lib.hid (hS8.out.below hb9)
        have hk9 := Lib.hid (hk8.out.trans (Keeps.of_below hb9))
        clear hb9
        go_wp2_with fail
        refine hK.out _ _ ?_ (fun hHeld => ?_)
        · exact hkS.out _ hk9.out
        clear hK K
        try simp only [Act.put, List.setIfInBounds_toArray, List.set_cons_zero, List.set_cons_succ]
        refine' held_take (i := 15) (d := some 124) (v := _) rfl rfl (by kernel_rfl) (by kernel_rfl) (by kernel_rfl) (fun _ _ _ h => h) rfl (by assumption) ?hy_27 ?re_27
        case hy_27 =>
          intro w hSw
          try dsimp only at hSw
          go_simp
          try with_reducible rfl
        simp only [Act.put, List.setIfInBounds_toArray, List.set_cons_zero, List.set_cons_succ]
        refine wpAnyH_done (by kernel_rfl) ?_ _
        refine NoPanic.normal ?_
        go_wp2_with fail
        go_roundg (M.length - j)
        case measure => omega
        case rel => exact ⟨j + 1, T.set 0 F', by simp, hlt, by omega, by rw [List.length_set]; exact hTl, hTok', hS9, hK9⟩
      have e1 : ((bs kd).toList == [112, 117, 115, 104]) = false := by rw [toList_data, bs_list, beq_eq_false_iff_ne]; exact hpu
      have e1b : ¬ (bs kd).toList = [112, 117, 115, 104] := by rw [toList_data, bs_list]; exact hpu
      by_cases hpo : kd = [112, 111, 108, 108]
      · have e2 : ((bs kd).toList == [112, 111, 108, 108]) = true := by rw [hpo, toList_data]; rfl
        have e2b : (bs kd).toList = [112, 111, 108, 108] := by rw [hpo, toList_data]; rfl
        have hpo1 := pollK_any (E := E) w.heap.size b ps T AJ n W (hLw.out _ hKW.out).s hSW.out.at_ hTok.out hAT hup.out hKW.out.size
        have hpo2 := fun wx (hx : Below w.heap.size w wx) T1 (h : TwoT w.heap.size b rb ps rps AJ T1 T wx) => pollR_any w.heap.size rb rps T AJ n wx h.ref hTok.out hAT hup.out hx.size
        have hTok' := Lib.hid (poll_tok AJ n hTok.out (fun i h1 h2 => by have := hup.out i h1 h2; unfold upT; omega))
        have hTl' := pollT_len T AJ n
        have hrc := pollT_code T AJ n
        obtain ⟨rn, rc, T', hR⟩ : ∃ rn rc T', pollT T AJ n = ((rn, rc), T') := ⟨_, _, _, rfl⟩
        unfold PollRes at hpo1
        unfold PollRR at hpo2
        rw [hR] at hpo1 hpo2 hTok' hTl' hrc
        dsimp only at hpo1 hpo2 hTok' hTl' hrc
        have hpo1 := Lib.hid hpo1
        have hpo2 := Lib.hid hpo2
        clear hpu hpo hR hn2
        go_wp2_with fail
        refine hpo1.out.mono ?_
        rintro e w5 ⟨rfl, hT5, hk5⟩
        have hS5 := Lib.hid (hSW.out.prog hT5 hk5)
        have hK5 := Lib.hid (hSW.out.belowP hKW.out hKW.out.size hk5)
        have x1 : w5.cell? ⟨bxn, 1, none⟩ = some (.int .i64 n) := (seven_cell (hk5.obj hbxH.out (fun hm => by
          obtain ⟨cs, h1⟩ := hSW.out.at_.blks _ hm
          rw [hbxH.out] at h1
          injection h1 with h1
          injection h1 with _ h1 _
          exact move_ne_fol h1))).2.1
        have hpo5 := Lib.hid (hpo2.out _ hK5.out _ hS5.out)
        clear hT5 hk5 hpo1 hpo2
        go_wp2_with fail
        refine hpo5.out.mono ?_
        rintro e w6 ⟨rfl, hT6, hk6⟩
        have hS6 := Lib.hid (hS5.out.refd hT6 hk6)
        have hK6 := Lib.hid (hS5.out.belowR hK5.out hK5.out.size hk6)
        have hcd6 := Lib.hid (hcd.out rc _ hK6.out hrc)
        clear hT6 hk6 hpo5 x1
        go_wp2_with fail
        refine hcd6.out.mono ?_
        rintro e w7 ⟨rfl, hb7⟩
        have hK7 := Lib.hid (below_trans hK6.out hb7)
        have hS7 := Lib.hid (hS6.out.below hb7)
        clear hb7 hcd6
        go_wp2_with fail
        go_roundg (M.length - j)
        case measure => omega
        case rel => exact ⟨j + 1, T', by simp, hlt, by omega, by omega, hTok', hS7, hK7⟩
      · have e2 : ((bs kd).toList == [112, 111, 108, 108]) = false := by rw [toList_data, bs_list, beq_eq_false_iff_ne]; exact hpo
        have e2b : ¬ (bs kd).toList = [112, 111, 108, 108] := by rw [toList_data, bs_list]; exact hpo
        have hT1000 : T.length ≤ 1000 := by omega
        have hT1 : 1 ≤ T.length := by omega
        have hal1 := Lib.hid (allK_any (E := E) w.heap.size b ps T AJ W (hLw.out _ hKW.out).s hSW.out.at_ hTok.out hAT hup.out hKW.out.size (fun wx hx => (hLw.out _ (hSW.out.belowP hKW.out hKW.out.size hx)).s) hT1000)
        have hal2 := Lib.hid (fun wx (hx : Below w.heap.size w wx) T1 (h : TwoT w.heap.size b rb ps rps AJ T1 T wx) => allR_any w.heap.size rb rps T AJ wx h.ref hTok.out hAT hup.out hx.size hT1000 hT1)
        have hTok' := Lib.hid (allN_tok hTok.out (A := AJ) (fun i h1 h2 => by have := hup.out i h1 h2; unfold upT; omega) T.length)
        have hTl' := allN_len T AJ T.length
        have hTok' : Hid (TOk (allT T AJ).2) := hTok'
        have hTl' : (allT T AJ).2.length = T.length := hTl'
        generalize allT T AJ = R at *
        obtain ⟨rn, T'⟩ := R
        dsimp only at hal1 hal2 hTok' hTl'
        clear hpu hpo hn2
        go_wp2_with fail
        refine hal1.out.mono ?_
        rintro e w5 ⟨rfl, hT5, hk5⟩
        have hS5 := Lib.hid (hSW.out.prog hT5 hk5)
        have hK5 := Lib.hid (hSW.out.belowP hKW.out hKW.out.size hk5)
        have hal5 := Lib.hid (hal2.out _ hK5.out _ hS5.out)
        clear hT5 hk5 hal1 hal2
        go_wp2_with fail
        refine hal5.out.mono ?_
        rintro e w6 ⟨rfl, hT6, hk6⟩
        have hS6 := Lib.hid (hS5.out.refd hT6 hk6)
        have hK6 := Lib.hid (hS5.out.belowR hK5.out hK5.out.size hk6)
        clear hT6 hk6 hal5
        go_wp2_with fail
        go_roundg (M.length - j)
        case measure => omega
        case rel => exact ⟨j + 1, T', by simp, hlt, by omega, by omega, hTok', hS6, hK6⟩
    · have hge : ¬ ((j : Int) < (M.length : Int)) := by omega
      go_wp2_with fail
      go_loopg [23] (rps.length + 1) (fun g i wx => ∃ k : Nat, i = .int .i64 k ∧ k ≤ rps.length ∧ rps.length - k + 1 ≤ g ∧ Hid (TwoT w.heap.size b rb ps rps AJ T T wx) ∧ Hid (Below w.heap.size w wx))
      case atStart => exact ⟨0, rfl, Nat.zero_le _, by omega, hS, hK⟩
      case round =>
        clear hS hK
        obtain ⟨k, rfl, hkl, hgk, hS, hKq⟩ := hrel
        have hrle : (rps.length : Int) ≤ 1000 := by omega
        by_cases hkA : k < rps.length
        · have hnd := Lib.hid (fun wx (h : TwoT w.heap.size b rb ps rps AJ T T wx) => node_tree w.heap.size b ps T AJ k wx h.at_ (by omega) (hTok.out k (by omega)))
          have hO := Lib.hid (hTok.out k (by omega))
          have hfr := Lib.hid (fun wx (h : TwoT w.heap.size b rb ps rps AJ T T wx) => h.ref.fol k hkA)
          obtain ⟨gr, gro, grc, hel⟩ := hS.out.ref.elem (i := k) hkA
          have hkS := Lib.hid (fun wx (hx : Below wr.heap.size wr wx) => hel wx (fun _ => False) (Keeps.of_below hx) (fun _ h => h.elim))
          obtain ⟨z0, z1⟩ := hkS.out _ (Below.refl _ _)
          have hki : (k : Int) < (rps.length : Int) := by omega
          have hki0 : (0 : Int) ≤ (k : Int) := by omega
          have hD0 := Lib.hid (show Below wr.heap.size wr wr.drew from (Below.refl _ _).drew)
          have hcD := hkS.out _ hD0.out
          generalize nodeT T k = G at *
          generalize rps.getD k 0 = rp at *
          have hndD := Lib.hid (hnd.out _ (hS.out.below hD0.out))
          clear hel hnd
          go_upto_region 30 with fail
          clear z0 z1
          refine wp_region_noPanic ?_
          refine wp_region_held_drew (S := fun w' => w'.cell? ⟨rb, 0, none⟩ = some (.slice (some ⟨gr, gro, none⟩) rps.length grc) ∧ w'.cell? ⟨gr, gro + k, none⟩ = some (.pointer (some ⟨rp, 0, none⟩))) (by kernel_rfl) ?_ (fun hHeld => ?_)
          · exact hcD
          refine' held_take (i := 0) (d := some 159) (v := _) rfl rfl (by kernel_rfl) (by kernel_rfl) (by kernel_rfl) (fun _ _ _ h => h) rfl (by assumption) ?hy_28 ?re_28
          case hy_28 =>
            intro w hSw
            try dsimp only at hSw
            go_simp
            try with_reducible rfl
          simp only [Act.put, List.setIfInBounds_toArray, List.set_cons_zero, List.set_cons_succ]
          refine' held_take (i := 1) (d := some 160) (v := _) rfl rfl (by kernel_rfl) (by kernel_rfl) (by kernel_rfl) (fun _ _ _ h => h) rfl (by assumption) ?hy_29 ?re_29
          case hy_29 =>
            intro w hSw
            try dsimp only at hSw
            go_simp
            try with_reducible rfl
          simp only [Act.put, List.setIfInBounds_toArray, List.set_cons_zero, List.set_cons_succ]
          refine' held_take (i := 3) (d := some 162) (v := _) rfl rfl (by kernel_rfl) (by kernel_rfl) (by kernel_rfl) (fun _ _ _ h => h) rfl (by assumption) ?hy_30 ?re_30
          case hy_30 =>
            intro w hSw
            try dsimp only at hSw
            go_simp
            try with_reducible rfl
          simp only [Act.put, List.setIfInBounds_toArray, List.set_cons_zero, List.set_cons_succ]
          refine' held_take (i := 4) (d := some 163) (v := _) rfl rfl (by kernel_rfl) (by kernel_rfl) (by kernel_rfl) (fun _ _ _ h => h) rfl (by assumption) ?hy_31 ?re_31
          case hy_31 =>
            intro w hSw
            try dsimp only at hSw
            go_simp
            try with_reducible rfl
          simp only [Act.put, List.setIfInBounds_toArray, List.set_cons_zero, List.set_cons_succ]
          refine' held_take (i := 5) (d := some 164) (v := _) rfl rfl (by kernel_rfl) (by kernel_rfl) (by kernel_rfl) (fun _ _ _ h => h) rfl (by assumption) ?hy_32 ?re_32
          case hy_32 =>
            intro w hSw
            try dsimp only at hSw
            go_simp
            try with_reducible rfl
          simp only [Act.put, List.setIfInBounds_toArray, List.set_cons_zero, List.set_cons_succ]
          refine' held_take (i := 6) (d := some 165) (v := _) rfl rfl (by kernel_rfl) (by kernel_rfl) (by kernel_rfl) (fun _ _ _ h => h) rfl (by assumption) ?hy_33 ?re_33
          case hy_33 =>
            intro w hSw
            try dsimp only at hSw
            go_simp
            try with_reducible rfl
          simp only [Act.put, List.setIfInBounds_toArray, List.set_cons_zero, List.set_cons_succ]
          refine' held_take (i := 7) (d := some 166) (v := _) rfl rfl (by kernel_rfl) (by kernel_rfl) (by kernel_rfl) (fun _ _ _ h => h) rfl (by assumption) ?hy_34 ?re_34
          case hy_34 =>
            intro w hSw
            try dsimp only at hSw
            go_simp
            try with_reducible rfl
          simp only [Act.put, List.setIfInBounds_toArray, List.set_cons_zero, List.set_cons_succ]
          refine' held_take (i := 8) (d := some 167) (v := _) rfl rfl (by kernel_rfl) (by kernel_rfl) (by kernel_rfl) (fun _ _ _ h => h) rfl (by assumption) ?hy_35 ?re_35
          case hy_35 =>
            intro w hSw
            try dsimp only at hSw
            go_simp
            try with_reducible rfl
          simp only [Act.put, List.setIfInBounds_toArray, List.set_cons_zero, List.set_cons_succ]
          refine' held_take (i := 9) (d := some 168) (v := _) rfl rfl (by kernel_rfl) (by kernel_rfl) (by kernel_rfl) (fun _ _ _ h => h) rfl (by assumption) ?hy_36 ?re_36
          case hy_36 =>
            intro w hSw
            try dsimp only at hSw
            go_simp
            try with_reducible rfl
          simp only [Act.put, List.setIfInBounds_toArray, List.set_cons_zero, List.set_cons_succ]
          refine wpAnyH_ready (rs := [2]) (by kernel_rfl) (by simp) ?_
          refine AllReadyH.cons rfl (fun K hK => ?_) AllReadyH.nil
          go_simp
          refine hndD.out.mono ?_
          rintro e w5 ⟨b5, rfl, hF5, hb5⟩
          have hb5 := below_trans hD0.out hb5
          have hK5 := Lib.hid (below_trans hKq.out hb5)
          have hS5 := Lib.hid (hS.out.below hb5)
          have has5 := Lib.hid (asFol_any _ b5 w.heap.size rp G w5 hF5 (hfr.out _ hS5.out) hO.out)
          have hb5 := Lib.hid hb5
          clear hF5
          go_wp2_with fail
          refine hK.out _ _ ?_ (fun hHeld => ?_)
          · exact hkS.out _ hb5.out
          clear hK K
          try simp only [Act.put, List.setIfInBounds_toArray, List.set_cons_zero, List.set_cons_succ]
          refine wpAnyH_ready (rs := [10]) (by kernel_rfl) (by simp) ?_
          refine AllReadyH.cons rfl (fun K hK => ?_) AllReadyH.nil
          go_simp
          refine has5.out.mono ?_
          rintro e w6 ⟨rfl, hb6⟩
          have hK6 := Lib.hid (below_trans hK5.out hb6)
          have hS6 := Lib.hid (hS5.out.below hb6)
          have hb6 := Lib.hid (below_trans hb5.out hb6)
          go_wp2_with fail
          refine hK.out _ _ ?_ (fun hHeld => ?_)
          · exact hkS.out _ hb6.out
          clear hK K
          try simp only [Act.put, List.setIfInBounds_toArray, List.set_cons_zero, List.set_cons_succ]
          refine' held_take (i := 11) (d := some 24) (v := _) rfl rfl (by kernel_rfl) (by kernel_rfl) (by kernel_rfl) (fun _ _ _ h => h) rfl (by assumption) ?hy_37 ?re_37
          case hy_37 =>
            intro w hSw
            try dsimp only at hSw
            go_simp
            try with_reducible rfl
          simp only [Act.put, List.setIfInBounds_toArray, List.set_cons_zero, List.set_cons_succ]
          refine wpAnyH_done (by kernel_rfl) ?_ _
          refine NoPanic.normal ?_
          go_wp2_with fail
          go_roundg (rps.length - k)
          case measure => omega
          case rel => exact ⟨k + 1, by simp, hkA, by omega, hS6, hK6⟩
        · have hge2 : ¬ ((k : Int) < (rps.length : Int)) := by omega
          have hn1 := Lib.hid (node_none w.heap.size b ps T AJ (-1) wr hS.out.at_ (.inl (by decide)))
          have hn2 := Lib.hid (node_none w.heap.size b ps T AJ (rps.length : Int) wr hS.out.at_ (.inr (by omega)))
          have hz : ∃ au cu, wr.cell? ⟨rb, 0, none⟩ = some (.slice au rps.length cu) := by
            obtain ⟨au, cu, _, _, z0, _⟩ := hS.out.ref.cells
            exact ⟨au, cu, z0⟩
          obtain ⟨au, cu, z0⟩ := hz
          clear hkA hkl hgk hlt hj hg hge hpl hrl hAT hTl
          go_wp2_with fail
          refine hn1.out.mono ?_
          rintro e w5 ⟨rfl, rfl⟩
          go_wp2_with fail
          refine hn2.out.mono ?_
          rintro e w5 ⟨rfl, rfl⟩
          go_wp2_with fail
          go_ret
          exact ⟨rfl, hKq.out⟩
end Go.Proofs.YtfbndfkahodheaaGreatDoor
