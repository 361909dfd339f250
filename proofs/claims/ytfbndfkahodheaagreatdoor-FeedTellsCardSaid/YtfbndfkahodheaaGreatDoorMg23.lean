/- FedL, FloG, FloL, Err -/
import Derived.Test.YtfbndfkahodheaaGreatDoorMg22
import Derived.Test.YtfbndfkahodheaaGreatDoorMg20
import Derived.Test.YtfbndfkahodheaaGreatDoorMg16
import Derived.Test.YtfbndfkahodheaaGreatDoorMg13
import Derived.Test.YtfbndfkahodheaaGreatDoorMg4
import Derived.Test.YtfbndfkahodheaaGreatDoorMg10
import Derived.Test.YtfbndfkahodheaaGreatDoorMg5
import Derived.LaidEql
import Derived.Stop.Asserts
import Derived.RowKitTokens
/- The closed fact about feeds: walked. -/
namespace Go.Proofs.YtfbndfkahodheaaGreatDoor
open Go.RowKit

def annE : List UInt8 := [97, 110, 110]
def oneE : Ent := ⟨1, 3, ⟨annE, 2⟩⟩
theorem fed_add : addE [] 3 ⟨annE, 2⟩ = ([oneE], 0, -1) := by kernel_rfl
theorem fed_floors : floorsE [oneE] = ([⟨annE, 2⟩], 0, -1) := by kernel_rfl
theorem fed_head : (headOf 7 [oneE] 4).2.1 = 0 := headOf_of (by kernel_rfl) (by rw [fed_floors]) (by decide) (by decide) (by rw [show wasE [oneE] [oneE].length = 3 from by kernel_rfl]; decide)
theorem sealText_len {k : Int} {W : List (List UInt8)} (h10 : W.length ≤ 10) (hw : ∀ x ∈ W, isWord x = true) : (sealText k W).length ≤ 300 := by
  have hg := glue_len 32 W (fun x hx => ((isWord_iff x).1 (hw x hx)).2.1)
  have hm := markOf_bd k (glue 32 W)
  have hil := itoa_len10 (n := (markOf k (glue 32 W)).1) hm.1 (by omega)
  unfold sealText
  simp
  omega
theorem headOf_len {key : Int} {L : List Ent} {time : Int} : (headOf key L time).1.length ≤ 300 := by
  by_cases h : (headOf key L time).2.1 = 0
  · obtain ⟨_, hf, h0, h1, _, he, _⟩ := headOf_zero h
    have hl := (checkE_zero (L := L) (by rw [(floorsE_zero hf).1])).1
    rw [he]
    exact sealText_len (by simp [headWords]) (headWords_words (by omega) (by omega) (sumF_bd _))
  · rw [headOf_bad h]; simp
theorem box3 (x : World) (u0 u1 u2 : Value) (T : TypeId) : ((x.alloc (.cells #[u0, u1, u2] T)).cell? ⟨x.heap.size, 0, none⟩ = some u0 ∧ (x.alloc (.cells #[u0, u1, u2] T)).cell? ⟨x.heap.size, 1, none⟩ = some u1 ∧ (x.alloc (.cells #[u0, u1, u2] T)).cell? ⟨x.heap.size, 2, none⟩ = some u2) := (head_kept (heap_alloc_new x _)).1
set_option maxHeartbeats 4000000 in
set_option maxRecDepth 100000 in
theorem fed_any {E : Nat → Addr} (w : World) (hL : LaidS E w) :
    Calls Tryz.prog 6 #[] w fun e w' => e = .returned (.bool true) ∧ Below w.heap.size w w' := by
  have had := Lib.hid (add_ent (E := E) (.slice none 0 0) [] 3 ⟨annE, 2⟩ w hL.laid (AtG.nil _) (fun e he => by cases he) (by decide))
  rw [fed_add] at had
  have hmk := Lib.hid (fun v wx (hx : Below w.heap.size w wx) (hv : EntsAt wx v [oneE]) => makeF_any (E := E) 7 v [oneE] 4 wx (hL.below hx) hv (fun e he => by simp at he; subst he; decide))
  have hz := headOf_zero fed_head
  rw [fed_floors] at hz
  obtain ⟨_, _, _, _, _, _, ho⟩ := hz
  have hop := Lib.hid (fun wx (hx : Below w.heap.size w wx) => openF_any (E := E) 7 (bs (headOf 7 [oneE] 4).1) wx (hL.below hx) (by rw [bs_size]; have := @headOf_len 7 [oneE] 4; omega))
  simp only [bs_list, ho, Hd.val, errV_zero] at hop
  have hsu := Lib.hid (fun v wx (hx : Below w.heap.size w wx) (hv : AtG floC wx v [⟨annE, 2⟩]) => sum_flo (E := E) v [⟨annE, 2⟩] wx (hL.below hx) (floorsAt_of hv) (fun e he => by simp at he; subst he; decide))
  have hcode := Lib.hid fed_head
  generalize headOf 7 [oneE] 4 = H at *
  obtain ⟨H1, H2, H3⟩ := H
  generalize sumF [⟨annE, 2⟩] = sm at *
  have s1 := Lib.hid (show (⟨#[97, 110, 110]⟩ : ByteArray) = bs annE from rfl)
  clear ho hL
  go_enter Tryz.func6, Tryz.ntmps6
  go_wp2_with fail
  refine had.out.mono ?_
  rintro e w1 ⟨⟨v1, ev1, rfl, hrow1, he1⟩, hb1⟩
  obtain ⟨rfl, _⟩ := he1.zero rfl
  obtain ⟨a1, c1, hv1⟩ := hrow1.sl
  simp only [List.length_cons, List.length_nil, Nat.zero_add] at hv1
  subst hv1
  have hb1H := Lib.hid hb1
  have hmk := Lib.hid (hmk.out _ _ hb1 (EntRow.at_ hrow1))
  clear hrow1 he1 hb1 had
  go_wp2_with fail
  refine hmk.out.mono ?_
  rintro e w2 ⟨⟨ev2, rfl, he2⟩, hb2⟩
  obtain ⟨rfl, _⟩ := he2.zero hcode.out
  dsimp only
  have hb2H := Lib.hid (below_trans hb1H.out hb2)
  have hop := Lib.hid (hop.out _ (below_trans hb1H.out hb2))
  clear he2 hb2 hmk
  go_wp2_with fail
  refine hop.out.mono ?_
  rintro e w3 ⟨rfl, hb3⟩
  have hb3H := Lib.hid (below_trans hb2H.out hb3)
  have hbx := box3 w3 (.int .i64 1) (.int .i64 4) (.int .i64 sm) 53
  have hbX := hb3H.out.alloc hb3H.out.size (.cells #[.int .i64 1, .int .i64 4, .int .i64 sm] 53)
  have hrow := heap_alloc_new w3 (.cells #[.int .i64 1, .int .i64 4, .int .i64 sm] 53)
  clear hb3 hop hbx
  go_upto_region 4 with fail
  generalize hbd : w3.heap.size = box at *
  generalize w3.alloc (.cells #[.int .i64 1, .int .i64 4, .int .i64 sm] 53) = W at *
  clear hbd
  have hbXH := Lib.hid hbX
  have hltW : box < W.heap.size := (Array.getElem?_eq_some_iff.1 hrow).1
  have hkS := Lib.hid (fun (w' : World) (h : w'.heap[box]? = some (.cells #[.int .i64 1, .int .i64 4, .int .i64 sm] 53 (0, 0))) => (head_kept h).1)
  have hrD := Lib.hid (show W.drew.heap[box]? = some (.cells #[.int .i64 1, .int .i64 4, .int .i64 sm] 53 (0, 0)) from hrow)
  have hrA := Lib.hid (fun (o : Obj) => (Below.heap_alloc W.drew o box hltW).trans hrD.out)
  have hbA := Lib.hid (fun (o : Obj) => (hbXH.out.drew).alloc hbXH.out.size o)
  have hnw := Lib.hid (AtG.new (C := floC) W.drew (⟨annE, 2⟩ : Flo) 24 rfl)
  have hcD := hkS.out _ hrD.out
  clear hbX hrow
  refine wp_region_noPanic ?_
  refine wp_region_held_drew (S := fun w' => w'.cell? ⟨box, 0, none⟩ = some (.int .i64 1) ∧ w'.cell? ⟨box, 1, none⟩ = some (.int .i64 4) ∧ w'.cell? ⟨box, 2, none⟩ = some (.int .i64 sm)) (by kernel_rfl) ?_ (fun hHeld => ?_)
  · exact hcD
  refine' held_take (i := 0) (d := some 22) (v := _) rfl rfl (by kernel_rfl) (by kernel_rfl) (by kernel_rfl) (fun _ _ _ h => h) rfl (by assumption) ?hy_1 ?re_1
  case hy_1 =>
    intro w hSw
    try dsimp only at hSw
    go_simp
    try with_reducible rfl
  simp only [Act.put, List.setIfInBounds_toArray, List.set_cons_zero, List.set_cons_succ]
  refine' held_take (i := 1) (d := some 23) (v := _) rfl rfl (by kernel_rfl) (by kernel_rfl) (by kernel_rfl) (fun _ _ _ h => h) rfl (by assumption) ?hy_2 ?re_2
  case hy_2 =>
    intro w hSw
    try dsimp only at hSw
    go_simp
    try with_reducible rfl
  simp only [Act.put, List.setIfInBounds_toArray, List.set_cons_zero, List.set_cons_succ]
  refine' held_take (i := 2) (d := some 24) (v := _) rfl rfl (by kernel_rfl) (by kernel_rfl) (by kernel_rfl) (fun _ _ _ h => h) rfl (by assumption) ?hy_3 ?re_3
  case hy_3 =>
    intro w hSw
    try dsimp only at hSw
    go_simp
    try with_reducible rfl
  simp only [Act.put, List.setIfInBounds_toArray, List.set_cons_zero, List.set_cons_succ]
  refine' held_take (i := 3) (d := some 25) (v := _) rfl rfl (by kernel_rfl) (by kernel_rfl) (by kernel_rfl) (fun _ _ _ h => h) rfl (by assumption) ?hy_4 ?re_4
  case hy_4 =>
    intro w hSw
    try dsimp only at hSw
    go_simp
    try with_reducible rfl
  simp only [Act.put, List.setIfInBounds_toArray, List.set_cons_zero, List.set_cons_succ]
  refine' held_take (i := 4) (d := some 26) (v := _) rfl rfl (by kernel_rfl) (by kernel_rfl) (by kernel_rfl) (fun _ _ _ h => h) rfl (by assumption) ?hy_5 ?re_5
  case hy_5 =>
    intro w hSw
    try dsimp only at hSw
    go_simp
    try with_reducible rfl
  simp only [Act.put, List.setIfInBounds_toArray, List.set_cons_zero, List.set_cons_succ]
  refine' held_take (i := 5) (d := some 27) (v := _) rfl rfl (by kernel_rfl) (by kernel_rfl) (by kernel_rfl) (fun _ _ _ h => h) rfl (by assumption) ?hy_6 ?re_6
  case hy_6 =>
    intro w hSw
    try dsimp only at hSw
    go_simp
    try with_reducible rfl
  simp only [Act.put, List.setIfInBounds_toArray, List.set_cons_zero, List.set_cons_succ]
  refine' held_take (i := 6) (d := some 28) (v := _) rfl rfl (by kernel_rfl) (by kernel_rfl) (by kernel_rfl) (fun _ _ _ h => h) rfl (by assumption) ?hy_7 ?re_7
  case hy_7 =>
    intro w hSw
    try dsimp only at hSw
    go_simp
    try with_reducible rfl
  simp only [Act.put, List.setIfInBounds_toArray, List.set_cons_zero, List.set_cons_succ]
  refine' held_take (i := 7) (d := some 29) (v := _) rfl rfl (by kernel_rfl) (by kernel_rfl) (by kernel_rfl) (fun _ _ _ h => h) rfl (by assumption) ?hy_8 ?re_8
  case hy_8 =>
    intro w hSw
    try dsimp only at hSw
    go_simp
    try with_reducible rfl
  simp only [Act.put, List.setIfInBounds_toArray, List.set_cons_zero, List.set_cons_succ]
  refine' held_take (i := 8) (d := some 30) (v := _) rfl rfl (by kernel_rfl) (by kernel_rfl) (by kernel_rfl) (fun _ _ _ h => h) rfl (by assumption) ?hy_9 ?re_9
  case hy_9 =>
    intro w hSw
    try dsimp only at hSw
    go_simp
    try with_reducible rfl
  simp only [Act.put, List.setIfInBounds_toArray, List.set_cons_zero, List.set_cons_succ]
  refine' held_take (i := 9) (d := some 31) (v := _) rfl rfl (by kernel_rfl) (by kernel_rfl) (by kernel_rfl) (fun _ _ _ h => h) rfl (by assumption) ?hy_10 ?re_10
  case hy_10 =>
    intro w hSw
    try dsimp only at hSw
    go_simp
    try with_reducible rfl
  simp only [Act.put, List.setIfInBounds_toArray, List.set_cons_zero, List.set_cons_succ]
  refine' held_take (i := 10) (d := some 32) (v := _) rfl rfl (by kernel_rfl) (by kernel_rfl) (by kernel_rfl) (fun _ _ _ h => h) rfl (by assumption) ?hy_11 ?re_11
  case hy_11 =>
    intro w hSw
    try dsimp only at hSw
    go_simp
    try with_reducible rfl
  simp only [Act.put, List.setIfInBounds_toArray, List.set_cons_zero, List.set_cons_succ]
  refine' held_take (i := 11) (d := some 33) (v := _) rfl rfl (by kernel_rfl) (by kernel_rfl) (by kernel_rfl) (fun _ _ _ h => h) rfl (by assumption) ?hy_12 ?re_12
  case hy_12 =>
    intro w hSw
    try dsimp only at hSw
    go_simp
    try with_reducible rfl
  simp only [Act.put, List.setIfInBounds_toArray, List.set_cons_zero, List.set_cons_succ]
  refine' held_take (i := 12) (d := some 34) (v := _) rfl rfl (by kernel_rfl) (by kernel_rfl) (by kernel_rfl) (fun _ _ _ h => h) rfl (by assumption) ?hy_13 ?re_13
  case hy_13 =>
    intro w hSw
    try dsimp only at hSw
    go_simp
    try with_reducible rfl
  simp only [Act.put, List.setIfInBounds_toArray, List.set_cons_zero, List.set_cons_succ]
  refine' held_take (i := 13) (d := some 35) (v := _) rfl rfl (by kernel_rfl) (by kernel_rfl) (by kernel_rfl) (fun _ _ _ h => h) rfl (by assumption) ?hy_14 ?re_14
  case hy_14 =>
    intro w hSw
    try dsimp only at hSw
    go_simp
    try with_reducible rfl
  simp only [Act.put, List.setIfInBounds_toArray, List.set_cons_zero, List.set_cons_succ]
  refine' held_take (i := 14) (d := some 36) (v := _) rfl rfl (by kernel_rfl) (by kernel_rfl) (by kernel_rfl) (fun _ _ _ h => h) rfl (by assumption) ?hy_15 ?re_15
  case hy_15 =>
    intro w hSw
    try dsimp only at hSw
    go_simp
    try with_reducible rfl
  simp only [Act.put, List.setIfInBounds_toArray, List.set_cons_zero, List.set_cons_succ]
  refine' held_take (i := 15) (d := some 37) (v := _) rfl rfl (by kernel_rfl) (by kernel_rfl) (by kernel_rfl) (fun _ _ _ h => h) rfl (by assumption) ?hy_16 ?re_16
  case hy_16 =>
    intro w hSw
    try dsimp only at hSw
    go_simp
    try with_reducible rfl
  simp only [Act.put, List.setIfInBounds_toArray, List.set_cons_zero, List.set_cons_succ]
  refine' held_take (i := 16) (d := some 38) (v := _) rfl rfl (by kernel_rfl) (by kernel_rfl) (by kernel_rfl) (fun _ _ _ h => h) rfl (by assumption) ?hy_17 ?re_17
  case hy_17 =>
    intro w hSw
    try dsimp only at hSw
    go_simp
    try with_reducible rfl
  simp only [Act.put, List.setIfInBounds_toArray, List.set_cons_zero, List.set_cons_succ]
  refine' held_take (i := 17) (d := some 39) (v := _) rfl rfl (by kernel_rfl) (by kernel_rfl) (by kernel_rfl) (fun _ _ _ h => h) rfl (by assumption) ?hy_18 ?re_18
  case hy_18 =>
    intro w hSw
    try dsimp only at hSw
    go_simp
    try with_reducible rfl
  simp only [Act.put, List.setIfInBounds_toArray, List.set_cons_zero, List.set_cons_succ]
  refine' held_take (i := 18) (d := some 40) (v := _) rfl rfl (by kernel_rfl) (by kernel_rfl) (by kernel_rfl) (fun _ _ _ h => h) rfl (by assumption) ?hy_19 ?re_19
  case hy_19 =>
    intro w hSw
    try dsimp only at hSw
    go_simp
    try with_reducible rfl
  simp only [Act.put, List.setIfInBounds_toArray, List.set_cons_zero, List.set_cons_succ]
  refine' held_take (i := 19) (d := some 41) (v := _) rfl rfl (by kernel_rfl) (by kernel_rfl) (by kernel_rfl) (fun _ _ _ h => h) rfl (by assumption) ?hy_20 ?re_20
  case hy_20 =>
    intro w hSw
    try dsimp only at hSw
    go_simp
    try with_reducible rfl
  simp only [Act.put, List.setIfInBounds_toArray, List.set_cons_zero, List.set_cons_succ]
  refine' held_take (i := 20) (d := some 42) (v := _) rfl rfl (by kernel_rfl) (by kernel_rfl) (by kernel_rfl) (fun _ _ _ h => h) rfl (by assumption) ?hy_21 ?re_21
  case hy_21 =>
    intro w hSw
    try dsimp only at hSw
    go_simp
    try with_reducible rfl
  simp only [Act.put, List.setIfInBounds_toArray, List.set_cons_zero, List.set_cons_succ]
  refine' held_take (i := 21) (d := some 43) (v := _) rfl rfl (by kernel_rfl) (by kernel_rfl) (by kernel_rfl) (fun _ _ _ h => h) rfl (by assumption) ?hy_22 ?re_22
  case hy_22 =>
    intro w hSw
    try dsimp only at hSw
    go_simp
    try with_reducible rfl
  simp only [Act.put, List.setIfInBounds_toArray, List.set_cons_zero, List.set_cons_succ]
  refine' held_take (i := 22) (d := some 44) (v := _) rfl rfl (by kernel_rfl) (by kernel_rfl) (by kernel_rfl) (fun _ _ _ h => h) rfl (by assumption) ?hy_23 ?re_23
  case hy_23 =>
    intro w hSw
    try dsimp only at hSw
    go_simp
    try with_reducible rfl
  simp only [Act.put, List.setIfInBounds_toArray, List.set_cons_zero, List.set_cons_succ]
  refine' held_take (i := 23) (d := some 45) (v := _) rfl rfl (by kernel_rfl) (by kernel_rfl) (by kernel_rfl) (fun _ _ _ h => h) rfl (by assumption) ?hy_24 ?re_24
  case hy_24 =>
    intro w hSw
    try dsimp only at hSw
    go_simp
    try with_reducible rfl
  simp only [Act.put, List.setIfInBounds_toArray, List.set_cons_zero, List.set_cons_succ]
  refine' held_take (i := 24) (d := some 46) (v := _) rfl rfl (by kernel_rfl) (by kernel_rfl) (by kernel_rfl) (fun _ _ _ h => h) rfl (by assumption) ?hy_25 ?re_25
  case hy_25 =>
    intro w hSw
    try dsimp only at hSw
    go_simp
    try with_reducible rfl
  simp only [Act.put, List.setIfInBounds_toArray, List.set_cons_zero, List.set_cons_succ]
  refine' held_take (i := 25) (d := some 47) (v := _) rfl rfl (by kernel_rfl) (by kernel_rfl) (by kernel_rfl) (fun _ _ _ h => h) rfl (by assumption) ?hy_26 ?re_26
  case hy_26 =>
    intro w hSw
    try dsimp only at hSw
    go_simp
    try with_reducible rfl
  simp only [Act.put, List.setIfInBounds_toArray, List.set_cons_zero, List.set_cons_succ]
  refine' held_take (i := 26) (d := some 48) (v := _) rfl rfl (by kernel_rfl) (by kernel_rfl) (by kernel_rfl) (fun _ _ _ h => h) rfl (by assumption) ?hy_27 ?re_27
  case hy_27 =>
    intro w hSw
    try dsimp only at hSw
    go_simp
    try with_reducible rfl
  simp only [Act.put, List.setIfInBounds_toArray, List.set_cons_zero, List.set_cons_succ]
  refine' held_take (i := 27) (d := some 49) (v := _) rfl rfl (by kernel_rfl) (by kernel_rfl) (by kernel_rfl) (fun _ _ _ h => h) rfl (by assumption) ?hy_28 ?re_28
  case hy_28 =>
    intro w hSw
    try dsimp only at hSw
    go_simp
    try with_reducible rfl
  simp only [Act.put, List.setIfInBounds_toArray, List.set_cons_zero, List.set_cons_succ]
  refine' held_take (i := 28) (d := some 50) (v := _) rfl rfl (by kernel_rfl) (by kernel_rfl) (by kernel_rfl) (fun _ _ _ h => h) rfl (by assumption) ?hy_29 ?re_29
  case hy_29 =>
    intro w hSw
    try dsimp only at hSw
    go_simp
    try with_reducible rfl
  simp only [Act.put, List.setIfInBounds_toArray, List.set_cons_zero, List.set_cons_succ]
  refine wpAnyH_ready (rs := [29]) (by kernel_rfl) (by simp) ?_
  refine AllReadyH.cons rfl (fun K hK => ?_) AllReadyH.nil
  go_simp
  refine hK.out _ _ ?_ (fun hHeld => ?_)
  · exact hkS.out _ (hrA.out _)
  clear hK K
  try simp only [Act.put, List.setIfInBounds_toArray, List.set_cons_zero, List.set_cons_succ]
  refine wpAnyH_ready (rs := [30]) (by kernel_rfl) (by simp) ?_
  refine AllReadyH.cons rfl (fun K hK => ?_) AllReadyH.nil
  go_simp
  refine (hsu.out _ _ (hbA.out _) hnw.out).mono ?_
  rintro e w5 ⟨rfl, hb5⟩
  have hr5 := Lib.hid (heap_down hb5 (hrA.out _))
  have hb5H := Lib.hid (below_trans (hbA.out _) hb5)
  clear hb5
  go_wp2_with fail
  refine hK.out _ _ ?_ (fun hHeld => ?_)
  · exact hkS.out _ hr5.out
  clear hK K
  try simp only [Act.put, List.setIfInBounds_toArray, List.set_cons_zero, List.set_cons_succ]
  refine' held_take (i := 31) (d := some 53) (v := _) rfl rfl (by kernel_rfl) (by kernel_rfl) (by kernel_rfl) (fun _ _ _ h => h) rfl (by assumption) ?hy_30 ?re_30
  case hy_30 =>
    intro w hSw
    try dsimp only at hSw
    go_simp
    try with_reducible rfl
  simp only [Act.put, List.setIfInBounds_toArray, List.set_cons_zero, List.set_cons_succ]
  refine' held_take (i := 32) (d := some 54) (v := _) rfl rfl (by kernel_rfl) (by kernel_rfl) (by kernel_rfl) (fun _ _ _ h => h) rfl (by assumption) ?hy_31 ?re_31
  case hy_31 =>
    intro w hSw
    try dsimp only at hSw
    go_simp
    try with_reducible rfl
  simp only [Act.put, List.setIfInBounds_toArray, List.set_cons_zero, List.set_cons_succ]
  refine' held_take (i := 33) (d := some 0) (v := _) rfl rfl (by kernel_rfl) (by kernel_rfl) (by kernel_rfl) (fun _ _ _ h => h) rfl (by assumption) ?hy_32 ?re_32
  case hy_32 =>
    intro w hSw
    try dsimp only at hSw
    go_simp
    try with_reducible rfl
  simp only [Act.put, List.setIfInBounds_toArray, List.set_cons_zero, List.set_cons_succ]
  refine wpAnyH_done (by kernel_rfl) ?_ _
  refine NoPanic.normal ?_
  go_wp2_with fail
  go_ret
  exact ⟨rfl, hb5H.out⟩
end Go.Proofs.YtfbndfkahodheaaGreatDoor

/- LongFloors, walked. -/
namespace Go.Proofs.YtfbndfkahodheaaGreatDoor
open Go.RowKit

def longF (L : List Flo) : Bool := decide (25 < L.length) || L.any fun f => decide (20 < f.who.length)
def longI (L : List Flo) : Int := if longF L = true then 1 else 0
theorem longF_false {L : List Flo} (h : longF L = false) : L.length ≤ 25 ∧ ∀ f ∈ L, f.who.length ≤ 20 := by
  unfold longF at h
  rw [Bool.or_eq_false_iff, List.any_eq_false] at h
  refine ⟨by have := of_decide_eq_false h.1; omega, fun f hf => ?_⟩
  have := h.2 f hf
  simp at this
  exact this
end Go.Proofs.YtfbndfkahodheaaGreatDoor

/- SameFloors, walked. -/
namespace Go.Proofs.YtfbndfkahodheaaGreatDoor
open Go.RowKit

set_option maxRecDepth 100000 in
theorem samef_flo (x y : Value) (L : List Flo) (w : World) (hx : FloorsAt w x L) (hy : FloorsAt w y L) :
    Calls Tryz.prog 17 #[x, y] w fun e w' => e = .returned (.bool true) ∧ Below w.heap.size w w' := by
  obtain ⟨a, c, rfl, hm, _, ha⟩ := hx
  obtain ⟨a2, c2, rfl, _, _, ha2⟩ := hy
  unfold maxLen at hm
  go_enter Tryz.func17, Tryz.ntmps17
  go_wp2_with fail
  go_loopw [5] (fun i wr => ∃ j n : Nat, j ≤ L.length ∧ i = .int .i64 j ∧ wr = w.drewN n) (fun i _ => L.length - (intOf i).toNat)
  case atStart => exact ⟨0, 0, Nat.zero_le _, rfl, rfl⟩
  case round =>
    obtain ⟨j, n, hj, rfl, rfl⟩ := hrel
    by_cases hlt : j < L.length
    · obtain ⟨b, o, rfl, h0, h1⟩ := ha j hlt
      obtain ⟨b2, o2, rfl, k0, k1⟩ := ha2 j hlt
      go_wp2
      go_quiet (fail)
      go_wp2
      exact ⟨⟨j + 1, _, by omega, by simp, rfl⟩, by simp [intOf]; omega⟩
    · have hje : j = L.length := by omega
      subst hje
      go_wp2
      go_ret
      exact ⟨rfl, below_drawn (Below.refl _ _) _⟩
end Go.Proofs.YtfbndfkahodheaaGreatDoor

/- errors.As at *api.Fault, errors.Is at the sentinels, plain.Code: by contracts. -/
namespace Go.Proofs.YtfbndfkahodheaaGreatDoor
open Go.RowKit Go.Extern.Stop Go.Stop Go.Extern

/-! The numbers: the fault's pointer type 105, a pointer to such 138, error 30, reflectlite's rtype 200. -/
theorem rl_valueOfPP (t : Addr) (w : World) : (ReflectliteValue.unpack (.iface 138 (.pointer (some t)))).run Tryz.prog w
    = .ok (.agg #[.pointer (some ⟨25, 138, none⟩), .pointer (some ⟨w.heap.size, 0, none⟩), .int .u64 150]) (w.alloc (.cells #[.pointer (some t)] 138)) := by kernel_rfl
theorem rl_typePP (a : Addr) (w : World) : (ReflectliteValue.methodAny (ReflectliteValue.valueError "reflectlite.Value.Type" 0) (fun t _ _ _ => ReflectliteType.toType t) #[.agg #[.pointer (some ⟨25, 138, none⟩), .pointer (some a), .int .u64 150]]).run Tryz.prog w
    = .ok (.iface 200 (.agg #[.pointer (some ⟨25, 138, none⟩)])) w := by kernel_rfl
theorem rl_methodKind (h : Value) (w : World) : (Go.method 397 200 (.agg #[h]) "Kind").run Tryz.prog w = .ok (210, h) w := by kernel_rfl
theorem rl_kindPP (w : World) : ((ReflectliteType.abiMethod fun t => (fun a : Nat => Value.int IntKind.u8 (a : Int)) <$> Rtype.kind t) #[.pointer (some ⟨25, 138, none⟩)]).run Tryz.prog w = .ok (.int .u8 22) w := by kernel_rfl
theorem rl_kindP (w : World) : ((ReflectliteType.abiMethod fun t => (fun a : Nat => Value.int IntKind.u8 (a : Int)) <$> Rtype.kind t) #[.pointer (some ⟨25, 105, none⟩)]).run Tryz.prog w = .ok (.int .u8 22) w := by kernel_rfl
theorem rlm (z : Sem Value) (f : TypeId → Addr → Nat → Nat → Sem Value) (v : Value) :
    ReflectliteValue.method z f #[v] = (do match ← ReflectliteValue.parts v with | none => z | some (t, a, fl) => f t a fl (fl % 32)) := rfl
theorem rl_partsPP (a : Addr) (w : World) : (ReflectliteValue.parts (.agg #[.pointer (some ⟨25, 138, none⟩), .pointer (some a), .int .u64 150])).run Tryz.prog w = .ok (some (138, a, 150)) w := by kernel_rfl
theorem rl_isNilPP (a p : Addr) (W : World) (ha : W.cell? a = some (.pointer (some p))) :
    (ReflectliteValue.method (ReflectliteValue.valueError "reflectlite.Value.IsNil" 0) ReflectliteValue.isNil #[.agg #[.pointer (some ⟨25, 138, none⟩), .pointer (some a), .int .u64 150]]).run Tryz.prog W = .ok (.bool false) W := by
  rw [rlm]
  simp only [Sem.run_bind, rl_partsPP, Result.andThen]
  simp [ReflectliteValue.isNil, loadVar, isAgg, underlying, Tryz.underlying138, ha, Result.andThen]
theorem rl_methodElem (h : Value) (w : World) : (Go.method 397 200 (.agg #[h]) "Elem").run Tryz.prog w = .ok (223, .agg #[h]) w := by kernel_rfl
theorem rl_methodImplements (h : Value) (w : World) : (Go.method 397 200 (.agg #[h]) "Implements").run Tryz.prog w = .ok (224, .agg #[h]) w := by kernel_rfl
theorem rl_methodAssignableTo (h : Value) (w : World) : (Go.method 397 200 (.agg #[h]) "AssignableTo").run Tryz.prog w = .ok (221, .agg #[h]) w := by kernel_rfl
theorem rl_elemPP (w : World) : (ReflectliteType.method ReflectliteType.elem #[.agg #[.pointer (some ⟨25, 138, none⟩)]]).run Tryz.prog w = .ok (.iface 200 (.agg #[.pointer (some ⟨25, 105, none⟩)])) w := by kernel_rfl
theorem rl_implementsP (w : World) : (ReflectliteType.relation "Implements" ReflectliteType.implements_ #[.agg #[.pointer (some ⟨25, 105, none⟩)], .iface 200 (.agg #[.pointer (some ⟨25, 30, none⟩)])]).run Tryz.prog w = .ok (.bool true) w := by kernel_rfl
theorem rl_typeOfP (v : Value) (w : World) : (ReflectliteType.typeOf #[.iface 105 v]).run Tryz.prog w = .ok (.iface 200 (.agg #[.pointer (some ⟨25, 105, none⟩)])) w := by kernel_rfl
theorem rl_typeOfS (v : Value) (w : World) : (ReflectliteType.typeOf #[.iface 258 v]).run Tryz.prog w = .ok (.iface 200 (.agg #[.pointer (some ⟨25, 258, none⟩)])) w := by kernel_rfl
theorem rl_assignableP (w : World) : (ReflectliteType.relation "AssignableTo" ReflectliteType.assignableTo #[.agg #[.pointer (some ⟨25, 105, none⟩)], .iface 200 (.agg #[.pointer (some ⟨25, 105, none⟩)])]).run Tryz.prog w = .ok (.bool true) w := by kernel_rfl
theorem rl_assignableS (w : World) : (ReflectliteType.relation "AssignableTo" ReflectliteType.assignableTo #[.agg #[.pointer (some ⟨25, 258, none⟩)], .iface 200 (.agg #[.pointer (some ⟨25, 105, none⟩)])]).run Tryz.prog w = .ok (.bool false) w := by kernel_rfl
theorem rl_valueOfP (e : Addr) (w : World) : (ReflectliteValue.unpack (.iface 105 (.pointer (some e)))).run Tryz.prog w
    = .ok (.agg #[.pointer (some ⟨25, 105, none⟩), .pointer (some ⟨w.heap.size, 0, none⟩), .int .u64 150]) (w.alloc (.cells #[.pointer (some e)] 105)) := by kernel_rfl
theorem rl_elemOfPP (w : World) : (Rtype.elem? 138).run Tryz.prog w = .ok (some 105) w := by kernel_rfl
theorem rl_mkP (p : Addr) (w : World) : (ReflectliteValue.mk 105 p ReflectliteValue.flagAddr).run Tryz.prog w = .ok (.agg #[.pointer (some ⟨25, 105, none⟩), .pointer (some p), .int .u64 406]) w := by kernel_rfl
theorem rl_elemVPP (a p : Addr) (W : World) (ha : W.cell? a = some (.pointer (some p))) :
    (ReflectliteValue.method (ReflectliteValue.valueError "reflectlite.Value.Elem" 0) ReflectliteValue.elem #[.agg #[.pointer (some ⟨25, 138, none⟩), .pointer (some a), .int .u64 150]]).run Tryz.prog W
      = .ok (.agg #[.pointer (some ⟨25, 105, none⟩), .pointer (some p), .int .u64 406]) W := by
  rw [rlm]
  simp only [Sem.run_bind, rl_partsPP, Result.andThen]
  simp [ReflectliteValue.elem, loadVar, isAgg, underlying, Tryz.underlying138, ha, Result.andThen, rl_elemOfPP, rl_mkP]
theorem rls (v x : Value) : ReflectliteValue.set #[v, x] = (do
    let (some (dst, a, fl), some (src, b, _)) := (← ReflectliteValue.parts v, ← ReflectliteValue.parts x)
      | unsupported (.noEntry "extern/(internal/reflectlite.Value).Set.zeroValue")
    if fl / ReflectliteValue.flagAddr % 2 == 0 then unsupported (.noEntry "extern/(internal/reflectlite.Value).Set.unaddressable")
    let val ← loadVar src b
    if ← Rtype.directlyAssignable dst src then storeVar dst a val
    else if ← Rtype.implements dst src then
      if (← Rtype.kind src) == 20 then
        match val with
        | .nilIface => unsupported (.noEntry "extern/reflectlite: a nil value of one interface type handed on as a value of another")
        | _ => storeVar dst a val
      else storeVar dst a (.iface src val)
    else panicString ("reflectlite.Set: value of type " ++ (← Rtype.spelt src) ++ " is not assignable to type " ++ (← Rtype.spelt dst))
    pure (.tuple #[])) := rfl
theorem rl_partsPa (a : Addr) (w : World) : (ReflectliteValue.parts (.agg #[.pointer (some ⟨25, 105, none⟩), .pointer (some a), .int .u64 406])).run Tryz.prog w = .ok (some (105, a, 406)) w := by kernel_rfl
theorem rl_partsP (a : Addr) (w : World) : (ReflectliteValue.parts (.agg #[.pointer (some ⟨25, 105, none⟩), .pointer (some a), .int .u64 150])).run Tryz.prog w = .ok (some (105, a, 150)) w := by kernel_rfl
theorem rl_direct (w : World) : (Rtype.directlyAssignable 105 105).run Tryz.prog w = .ok true w := by kernel_rfl
theorem rl_setP (ta b e : Addr) (old : Value) (W : World) (hb : W.cell? b = some (.pointer (some e))) (ht : W.cell? ta = some old) (hf : W.frozen? ta = false) :
    (ReflectliteValue.set #[.agg #[.pointer (some ⟨25, 105, none⟩), .pointer (some ta), .int .u64 406], .agg #[.pointer (some ⟨25, 105, none⟩), .pointer (some b), .int .u64 150]]).run Tryz.prog W
      = .ok (.tuple #[]) (W.setCell ta (.pointer (some e))) := by
  rw [rls]
  simp only [Sem.run_bind, rl_partsPa, rl_partsP, Result.andThen]
  simp [ReflectliteValue.flagAddr, loadVar, isAgg, underlying, Tryz.underlying105, hb, Result.andThen, rl_direct, storeVar, Value.cells, storeCells, Addr.add]
  rw [run_store Tryz.prog W ta _ _ (by rfl)]
  simp [ht, hf]
theorem rl_noAsS (v : Value) (xT : TypeId) (w : World) : (Instr.typeAssert (.iface 258 v) xT 204 true).run Tryz.prog w = .ok (.tuple #[.nilIface, .bool false]) w := run_typeAssert_lacksB Tryz.underlying204 (by kernel_rfl) (by kernel_rfl) v xT w
theorem rl_noUnwrapS (v : Value) (xT : TypeId) (w : World) : (Instr.typeAssert (.iface 258 v) xT 207 true).run Tryz.prog w = .ok (.tuple #[.nilIface, .bool false]) w := run_typeAssert_lacksB Tryz.underlying207 (by kernel_rfl) (by kernel_rfl) v xT w
theorem rl_noUnwrapsS (v : Value) (xT : TypeId) (w : World) : (Instr.typeAssert (.iface 258 v) xT 209 true).run Tryz.prog w = .ok (.tuple #[.nilIface, .bool false]) w := run_typeAssert_lacksB Tryz.underlying209 (by kernel_rfl) (by kernel_rfl) v xT w
theorem rl_noIsS (v : Value) (xT : TypeId) (w : World) : (Instr.typeAssert (.iface 258 v) xT 211 true).run Tryz.prog w = .ok (.tuple #[.nilIface, .bool false]) w := run_typeAssert_lacksB Tryz.underlying211 (by kernel_rfl) (by kernel_rfl) v xT w
theorem rl_noIsF (v : Value) (xT : TypeId) (w : World) : (Instr.typeAssert (.iface 105 v) xT 211 true).run Tryz.prog w = .ok (.tuple #[.nilIface, .bool false]) w := run_typeAssert_lacksB Tryz.underlying211 (by kernel_rfl) (by kernel_rfl) v xT w
theorem rl_hasUnwrapF (v : Value) (xT : TypeId) (w : World) : (Instr.typeAssert (.iface 105 v) xT 207 true).run Tryz.prog w = .ok (.tuple #[.iface 105 v, .bool true]) w := run_typeAssert_hasB Tryz.underlying207 (by kernel_rfl) v xT w
theorem rl_methodUnwrap (v : Value) (w : World) : (Go.method 397 105 v "Unwrap").run Tryz.prog w = .ok (215, v) w := by kernel_rfl
theorem rl_isMethodComparable (v : Value) (w : World) : (Go.method 397 200 v "Comparable").run Tryz.prog w = .ok (222, v) w := by kernel_rfl
theorem rl_isComp : (Tryz.prog.info? 258).map (·.comparable) = some true := by kernel_rfl
theorem rl_isSize : (Tryz.prog.info? 260).map (·.size) = some 1 := by kernel_rfl

end Go.Proofs.YtfbndfkahodheaaGreatDoor
