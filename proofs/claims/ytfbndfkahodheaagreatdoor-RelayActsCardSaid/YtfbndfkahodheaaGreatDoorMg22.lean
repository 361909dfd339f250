/- FedL, FolL, FolP, FolH -/
import Derived.Test.YtfbndfkahodheaaGreatDoorMg20
import Derived.Test.YtfbndfkahodheaaGreatDoorMg13
import Derived.Test.YtfbndfkahodheaaGreatDoorMg21
import Derived.Test.YtfbndfkahodheaaGreatDoorMg11
import Derived.Test.YtfbndfkahodheaaGreatDoorMg7
/- The closed fact about feeds: walked. -/
namespace Go.Proofs.YtfbndfkahodheaaGreatDoor
open Go.RowKit

def annE : List UInt8 := [97, 110, 110]
def oneE : Ent := ⟨1, 3, ⟨annE, 2⟩⟩
theorem fed_add : addE [] 3 ⟨annE, 2⟩ = ([oneE], 0, -1) := by kernel_rfl
theorem fed_floors : floorsE [oneE] = ([⟨annE, 2⟩], 0, -1) := by kernel_rfl
theorem fed_head : (headOf 7 [oneE] 4).2.1 = 0 := headOf_of (by kernel_rfl) (by rw [fed_floors]) (by decide) (by decide) (by rw [show wasE [oneE] [oneE].length = 3 from by kernel_rfl]; decide)
theorem sealText_len {k : Int} {W : List (List UInt8)} (h10 : W.length ≤ 10) (hw : ∀ x ∈ W, isWord x = true) : (sealText k W).length ≤ 300 := by
  have hg := glue_len 32 W (fun x hx => ((isWord_iff x).1 (hw x hx)).2.1)
  have hm := markOf_bd k (glue 32 W)
  have hil := itoa_len10 (n := (markOf k (glue 32 W)).1) hm.1 (by omega)
  unfold sealText
  simp
  omega
theorem headOf_len {key : Int} {L : List Ent} {time : Int} : (headOf key L time).1.length ≤ 300 := by
  by_cases h : (headOf key L time).2.1 = 0
  · obtain ⟨_, hf, h0, h1, _, he, _⟩ := headOf_zero h
    have hl := (checkE_zero (L := L) (by rw [(floorsE_zero hf).1])).1
    rw [he]
    exact sealText_len (by simp [headWords]) (headWords_words (by omega) (by omega) (sumF_bd _))
  · rw [headOf_bad h]; simp
theorem box3 (x : World) (u0 u1 u2 : Value) (T : TypeId) : ((x.alloc (.cells #[u0, u1, u2] T)).cell? ⟨x.heap.size, 0, none⟩ = some u0 ∧ (x.alloc (.cells #[u0, u1, u2] T)).cell? ⟨x.heap.size, 1, none⟩ = some u1 ∧ (x.alloc (.cells #[u0, u1, u2] T)).cell? ⟨x.heap.size, 2, none⟩ = some u2) := (head_kept (heap_alloc_new x _)).1
set_option maxHeartbeats 4000000 in
set_option maxRecDepth 100000 in
theorem fed_any {E : Nat → Addr} (w : World) (hL : LaidS E w) :
    Calls Tryz.prog 6 #[] w fun e w' => e = .returned (.bool true) ∧ Below w.heap.size w w' := by
  have had := Lib.hid (add_ent (E := E) (.slice none 0 0) [] 3 ⟨annE, 2⟩ w hL.laid (AtG.nil _) (fun e he => by cases he) (by decide))
  rw [fed_add] at had
  have hmk := Lib.hid (fun v wx (hx : Below w.heap.size w wx) (hv : EntsAt wx v [oneE]) => makeF_any (E := E) 7 v [oneE] 4 wx (hL.below hx) hv (fun e he => by simp at he; subst he; decide))
  have hz := headOf_zero fed_head
  rw [fed_floors] at hz
  obtain ⟨_, _, _, _, _, _, ho⟩ := hz
  have hop := Lib.hid (fun wx (hx : Below w.heap.size w wx) => openF_any (E := E) 7 (bs (headOf 7 [oneE] 4).1) wx (hL.below hx) (by rw [bs_size]; have := @headOf_len 7 [oneE] 4; omega))
  simp only [bs_list, ho, Hd.val, errV_zero] at hop
  have hsu := Lib.hid (fun v wx (hx : Below w.heap.size w wx) (hv : AtG floC wx v [⟨annE, 2⟩]) => sum_flo (E := E) v [⟨annE, 2⟩] wx (hL.below hx) (floorsAt_of hv) (fun e he => by simp at he; subst he; decide))
  have hcode := Lib.hid fed_head
  generalize headOf 7 [oneE] 4 = H at *
  obtain ⟨H1, H2, H3⟩ := H
  generalize sumF [⟨annE, 2⟩] = sm at *
  have s1 := Lib.hid (show (⟨#[97, 110, 110]⟩ : ByteArray) = bs annE from rfl)
  clear ho hL
  go_enter Tryz.func6, Tryz.ntmps6
  go_wp2_with fail
  refine had.out.mono ?_
  rintro e w1 ⟨⟨v1, ev1, rfl, hrow1, he1⟩, hb1⟩
  obtain ⟨rfl, _⟩ := he1.zero rfl
  obtain ⟨a1, c1, hv1⟩ := hrow1.sl
  simp only [List.length_cons, List.length_nil, Nat.zero_add] at hv1
  subst hv1
  have hb1H := Lib.hid hb1
  have hmk := Lib.hid (hmk.out _ _ hb1 (EntRow.at_ hrow1))
  clear hrow1 he1 hb1 had
  go_wp2_with fail
  refine hmk.out.mono ?_
  rintro e w2 ⟨⟨ev2, rfl, he2⟩, hb2⟩
  obtain ⟨rfl, _⟩ := he2.zero hcode.out
  dsimp only
  have hb2H := Lib.hid (below_trans hb1H.out hb2)
  have hop := Lib.hid (hop.out _ (below_trans hb1H.out hb2))
  clear he2 hb2 hmk
  go_wp2_with fail
  refine hop.out.mono ?_
  rintro e w3 ⟨rfl, hb3⟩
  have hb3H := Lib.hid (below_trans hb2H.out hb3)
  have hbx := box3 w3 (.int .i64 1) (.int .i64 4) (.int .i64 sm) 53
  have hbX := hb3H.out.alloc hb3H.out.size (.cells #[.int .i64 1, .int .i64 4, .int .i64 sm] 53)
  have hrow := heap_alloc_new w3 (.cells #[.int .i64 1, .int .i64 4, .int .i64 sm] 53)
  clear hb3 hop hbx
  go_upto_region 4 with fail
  generalize hbd : w3.heap.size = box at *
  generalize w3.alloc (.cells #[.int .i64 1, .int .i64 4, .int .i64 sm] 53) = W at *
  clear hbd
  have hbXH := Lib.hid hbX
  have hltW : box < W.heap.size := (Array.getElem?_eq_some_iff.1 hrow).1
  have hkS := Lib.hid (fun (w' : World) (h : w'.heap[box]? = some (.cells #[.int .i64 1, .int .i64 4, .int .i64 sm] 53 (0, 0))) => (head_kept h).1)
  have hrD := Lib.hid (show W.drew.heap[box]? = some (.cells #[.int .i64 1, .int .i64 4, .int .i64 sm] 53 (0, 0)) from hrow)
  have hrA := Lib.hid (fun (o : Obj) => (Below.heap_alloc W.drew o box hltW).trans hrD.out)
  have hbA := Lib.hid (fun (o : Obj) => (hbXH.out.drew).alloc hbXH.out.size o)
  have hnw := Lib.hid (AtG.new (C := floC) W.drew (⟨annE, 2⟩ : Flo) 24 rfl)
  have hcD := hkS.out _ hrD.out
  clear hbX hrow
  refine wp_region_noPanic ?_
  refine wp_region_held_drew (S := fun w' => w'.cell? ⟨box, 0, none⟩ = some (.int .i64 1) ∧ w'.cell? ⟨box, 1, none⟩ = some (.int .i64 4) ∧ w'.cell? ⟨box, 2, none⟩ = some (.int .i64 sm)) (by kernel_rfl) ?_ (fun hHeld => ?_)
  · exact hcD
  refine' held_take (i := 0) (d := some 22) (v := _) rfl rfl (by kernel_rfl) (by kernel_rfl) (by kernel_rfl) (fun _ _ _ h => h) rfl (by assumption) ?hy_1 ?re_1
  case hy_1 =>
    intro w hSw
    try dsimp only at hSw
    go_simp
    try with_reducible rfl
  simp only [Act.put, List.setIfInBounds_toArray, List.set_cons_zero, List.set_cons_succ]
  refine' held_take (i := 1) (d := some 23) (v := _) rfl rfl (by kernel_rfl) (by kernel_rfl) (by kernel_rfl) (fun _ _ _ h => h) rfl (by assumption) ?hy_2 ?re_2
  case hy_2 =>
    intro w hSw
    try dsimp only at hSw
    go_simp
    try with_reducible rfl
  simp only [Act.put, List.setIfInBounds_toArray, List.set_cons_zero, List.set_cons_succ]
  refine' held_take (i := 2) (d := some 24) (v := _) rfl rfl (by kernel_rfl) (by kernel_rfl) (by kernel_rfl) (fun _ _ _ h => h) rfl (by assumption) ?hy_3 ?re_3
  case hy_3 =>
    intro w hSw
    try dsimp only at hSw
    go_simp
    try with_reducible rfl
  simp only [Act.put, List.setIfInBounds_toArray, List.set_cons_zero, List.set_cons_succ]
  refine' held_take (i := 3) (d := some 25) (v := _) rfl rfl (by kernel_rfl) (by kernel_rfl) (by kernel_rfl) (fun _ _ _ h => h) rfl (by assumption) ?hy_4 ?re_4
  case hy_4 =>
    intro w hSw
    try dsimp only at hSw
    go_simp
    try with_reducible rfl
  simp only [Act.put, List.setIfInBounds_toArray, List.set_cons_zero, List.set_cons_succ]
  refine' held_take (i := 4) (d := some 26) (v := _) rfl rfl (by kernel_rfl) (by kernel_rfl) (by kernel_rfl) (fun _ _ _ h => h) rfl (by assumption) ?hy_5 ?re_5
  case hy_5 =>
    intro w hSw
    try dsimp only at hSw
    go_simp
    try with_reducible rfl
  simp only [Act.put, List.setIfInBounds_toArray, List.set_cons_zero, List.set_cons_succ]
  refine' held_take (i := 5) (d := some 27) (v := _) rfl rfl (by kernel_rfl) (by kernel_rfl) (by kernel_rfl) (fun _ _ _ h => h) rfl (by assumption) ?hy_6 ?re_6
  case hy_6 =>
    intro w hSw
    try dsimp only at hSw
    go_simp
    try with_reducible rfl
  simp only [Act.put, List.setIfInBounds_toArray, List.set_cons_zero, List.set_cons_succ]
  refine' held_take (i := 6) (d := some 28) (v := _) rfl rfl (by kernel_rfl) (by kernel_rfl) (by kernel_rfl) (fun _ _ _ h => h) rfl (by assumption) ?hy_7 ?re_7
  case hy_7 =>
    intro w hSw
    try dsimp only at hSw
    go_simp
    try with_reducible rfl
  simp only [Act.put, List.setIfInBounds_toArray, List.set_cons_zero, List.set_cons_succ]
  refine' held_take (i := 7) (d := some 29) (v := _) rfl rfl (by kernel_rfl) (by kernel_rfl) (by kernel_rfl) (fun _ _ _ h => h) rfl (by assumption) ?hy_8 ?re_8
  case hy_8 =>
    intro w hSw
    try dsimp only at hSw
    go_simp
    try with_reducible rfl
  simp only [Act.put, List.setIfInBounds_toArray, List.set_cons_zero, List.set_cons_succ]
  refine' held_take (i := 8) (d := some 30) (v := _) rfl rfl (by kernel_rfl) (by kernel_rfl) (by kernel_rfl) (fun _ _ _ h => h) rfl (by assumption) ?hy_9 ?re_9
  case hy_9 =>
    intro w hSw
    try dsimp only at hSw
    go_simp
    try with_reducible rfl
  simp only [Act.put, List.setIfInBounds_toArray, List.set_cons_zero, List.set_cons_succ]
  refine' held_take (i := 9) (d := some 31) (v := _) rfl rfl (by kernel_rfl) (by kernel_rfl) (by kernel_rfl) (fun _ _ _ h => h) rfl (by assumption) ?hy_10 ?re_10
  case hy_10 =>
    intro w hSw
    try dsimp only at hSw
    go_simp
    try with_reducible rfl
  simp only [Act.put, List.setIfInBounds_toArray, List.set_cons_zero, List.set_cons_succ]
  refine' held_take (i := 10) (d := some 32) (v := _) rfl rfl (by kernel_rfl) (by kernel_rfl) (by kernel_rfl) (fun _ _ _ h => h) rfl (by assumption) ?hy_11 ?re_11
  case hy_11 =>
    intro w hSw
    try dsimp only at hSw
    go_simp
    try with_reducible rfl
  simp only [Act.put, List.setIfInBounds_toArray, List.set_cons_zero, List.set_cons_succ]
  refine' held_take (i := 11) (d := some 33) (v := _) rfl rfl (by kernel_rfl) (by kernel_rfl) (by kernel_rfl) (fun _ _ _ h => h) rfl (by assumption) ?hy_12 ?re_12
  case hy_12 =>
    intro w hSw
    try dsimp only at hSw
    go_simp
    try with_reducible rfl
  simp only [Act.put, List.setIfInBounds_toArray, List.set_cons_zero, List.set_cons_succ]
  refine' held_take (i := 12) (d := some 34) (v := _) rfl rfl (by kernel_rfl) (by kernel_rfl) (by kernel_rfl) (fun _ _ _ h => h) rfl (by assumption) ?hy_13 ?re_13
  case hy_13 =>
    intro w hSw
    try dsimp only at hSw
    go_simp
    try with_reducible rfl
  simp only [Act.put, List.setIfInBounds_toArray, List.set_cons_zero, List.set_cons_succ]
  refine' held_take (i := 13) (d := some 35) (v := _) rfl rfl (by kernel_rfl) (by kernel_rfl) (by kernel_rfl) (fun _ _ _ h => h) rfl (by assumption) ?hy_14 ?re_14
  case hy_14 =>
    intro w hSw
    try dsimp only at hSw
    go_simp
    try with_reducible rfl
  simp only [Act.put, List.setIfInBounds_toArray, List.set_cons_zero, List.set_cons_succ]
  refine' held_take (i := 14) (d := some 36) (v := _) rfl rfl (by kernel_rfl) (by kernel_rfl) (by kernel_rfl) (fun _ _ _ h => h) rfl (by assumption) ?hy_15 ?re_15
  case hy_15 =>
    intro w hSw
    try dsimp only at hSw
    go_simp
    try with_reducible rfl
  simp only [Act.put, List.setIfInBounds_toArray, List.set_cons_zero, List.set_cons_succ]
  refine' held_take (i := 15) (d := some 37) (v := _) rfl rfl (by kernel_rfl) (by kernel_rfl) (by kernel_rfl) (fun _ _ _ h => h) rfl (by assumption) ?hy_16 ?re_16
  case hy_16 =>
    intro w hSw
    try dsimp only at hSw
    go_simp
    try with_reducible rfl
  simp only [Act.put, List.setIfInBounds_toArray, List.set_cons_zero, List.set_cons_succ]
  refine' held_take (i := 16) (d := some 38) (v := _) rfl rfl (by kernel_rfl) (by kernel_rfl) (by kernel_rfl) (fun _ _ _ h => h) rfl (by assumption) ?hy_17 ?re_17
  case hy_17 =>
    intro w hSw
    try dsimp only at hSw
    go_simp
    try with_reducible rfl
  simp only [Act.put, List.setIfInBounds_toArray, List.set_cons_zero, List.set_cons_succ]
  refine' held_take (i := 17) (d := some 39) (v := _) rfl rfl (by kernel_rfl) (by kernel_rfl) (by kernel_rfl) (fun _ _ _ h => h) rfl (by assumption) ?hy_18 ?re_18
  case hy_18 =>
    intro w hSw
    try dsimp only at hSw
    go_simp
    try with_reducible rfl
  simp only [Act.put, List.setIfInBounds_toArray, List.set_cons_zero, List.set_cons_succ]
  refine' held_take (i := 18) (d := some 40) (v := _) rfl rfl (by kernel_rfl) (by kernel_rfl) (by kernel_rfl) (fun _ _ _ h => h) rfl (by assumption) ?hy_19 ?re_19
  case hy_19 =>
    intro w hSw
    try dsimp only at hSw
    go_simp
    try with_reducible rfl
  simp only [Act.put, List.setIfInBounds_toArray, List.set_cons_zero, List.set_cons_succ]
  refine' held_take (i := 19) (d := some 41) (v := _) rfl rfl (by kernel_rfl) (by kernel_rfl) (by kernel_rfl) (fun _ _ _ h => h) rfl (by assumption) ?hy_20 ?re_20
  case hy_20 =>
    intro w hSw
    try dsimp only at hSw
    go_simp
    try with_reducible rfl
  simp only [Act.put, List.setIfInBounds_toArray, List.set_cons_zero, List.set_cons_succ]
  refine' held_take (i := 20) (d := some 42) (v := _) rfl rfl (by kernel_rfl) (by kernel_rfl) (by kernel_rfl) (fun _ _ _ h => h) rfl (by assumption) ?hy_21 ?re_21
  case hy_21 =>
    intro w hSw
    try dsimp only at hSw
    go_simp
    try with_reducible rfl
  simp only [Act.put, List.setIfInBounds_toArray, List.set_cons_zero, List.set_cons_succ]
  refine' held_take (i := 21) (d := some 43) (v := _) rfl rfl (by kernel_rfl) (by kernel_rfl) (by kernel_rfl) (fun _ _ _ h => h) rfl (by assumption) ?hy_22 ?re_22
  case hy_22 =>
    intro w hSw
    try dsimp only at hSw
    go_simp
    try with_reducible rfl
  simp only [Act.put, List.setIfInBounds_toArray, List.set_cons_zero, List.set_cons_succ]
  refine' held_take (i := 22) (d := some 44) (v := _) rfl rfl (by kernel_rfl) (by kernel_rfl) (by kernel_rfl) (fun _ _ _ h => h) rfl (by assumption) ?hy_23 ?re_23
  case hy_23 =>
    intro w hSw
    try dsimp only at hSw
    go_simp
    try with_reducible rfl
  simp only [Act.put, List.setIfInBounds_toArray, List.set_cons_zero, List.set_cons_succ]
  refine' held_take (i := 23) (d := some 45) (v := _) rfl rfl (by kernel_rfl) (by kernel_rfl) (by kernel_rfl) (fun _ _ _ h => h) rfl (by assumption) ?hy_24 ?re_24
  case hy_24 =>
    intro w hSw
    try dsimp only at hSw
    go_simp
    try with_reducible rfl
  simp only [Act.put, List.setIfInBounds_toArray, List.set_cons_zero, List.set_cons_succ]
  refine' held_take (i := 24) (d := some 46) (v := _) rfl rfl (by kernel_rfl) (by kernel_rfl) (by kernel_rfl) (fun _ _ _ h => h) rfl (by assumption) ?hy_25 ?re_25
  case hy_25 =>
    intro w hSw
    try dsimp only at hSw
    go_simp
    try with_reducible rfl
  simp only [Act.put, List.setIfInBounds_toArray, List.set_cons_zero, List.set_cons_succ]
  refine' held_take (i := 25) (d := some 47) (v := _) rfl rfl (by kernel_rfl) (by kernel_rfl) (by kernel_rfl) (fun _ _ _ h => h) rfl (by assumption) ?hy_26 ?re_26
  case hy_26 =>
    intro w hSw
    try dsimp only at hSw
    go_simp
    try with_reducible rfl
  simp only [Act.put, List.setIfInBounds_toArray, List.set_cons_zero, List.set_cons_succ]
  refine' held_take (i := 26) (d := some 48) (v := _) rfl rfl (by kernel_rfl) (by kernel_rfl) (by kernel_rfl) (fun _ _ _ h => h) rfl (by assumption) ?hy_27 ?re_27
  case hy_27 =>
    intro w hSw
    try dsimp only at hSw
    go_simp
    try with_reducible rfl
  simp only [Act.put, List.setIfInBounds_toArray, List.set_cons_zero, List.set_cons_succ]
  refine' held_take (i := 27) (d := some 49) (v := _) rfl rfl (by kernel_rfl) (by kernel_rfl) (by kernel_rfl) (fun _ _ _ h => h) rfl (by assumption) ?hy_28 ?re_28
  case hy_28 =>
    intro w hSw
    try dsimp only at hSw
    go_simp
    try with_reducible rfl
  simp only [Act.put, List.setIfInBounds_toArray, List.set_cons_zero, List.set_cons_succ]
  refine' held_take (i := 28) (d := some 50) (v := _) rfl rfl (by kernel_rfl) (by kernel_rfl) (by kernel_rfl) (fun _ _ _ h => h) rfl (by assumption) ?hy_29 ?re_29
  case hy_29 =>
    intro w hSw
    try dsimp only at hSw
    go_simp
    try with_reducible rfl
  simp only [Act.put, List.setIfInBounds_toArray, List.set_cons_zero, List.set_cons_succ]
  refine wpAnyH_ready (rs := [29]) (by kernel_rfl) (by simp) ?_
  refine AllReadyH.cons rfl (fun K hK => ?_) AllReadyH.nil
  go_simp
  refine hK.out _ _ ?_ (fun hHeld => ?_)
  · exact hkS.out _ (hrA.out _)
  clear hK K
  try simp only [Act.put, List.setIfInBounds_toArray, List.set_cons_zero, List.set_cons_succ]
  refine wpAnyH_ready (rs := [30]) (by kernel_rfl) (by simp) ?_
  refine AllReadyH.cons rfl (fun K hK => ?_) AllReadyH.nil
  go_simp
  refine (hsu.out _ _ (hbA.out _) hnw.out).mono ?_
  rintro e w5 ⟨rfl, hb5⟩
  have hr5 := Lib.hid (heap_down hb5 (hrA.out _))
  have hb5H := Lib.hid (below_trans (hbA.out _) hb5)
  clear hb5
  go_wp2_with fail
  refine hK.out _ _ ?_ (fun hHeld => ?_)
  · exact hkS.out _ hr5.out
  clear hK K
  try simp only [Act.put, List.setIfInBounds_toArray, List.set_cons_zero, List.set_cons_succ]
  refine' held_take (i := 31) (d := some 53) (v := _) rfl rfl (by kernel_rfl) (by kernel_rfl) (by kernel_rfl) (fun _ _ _ h => h) rfl (by assumption) ?hy_30 ?re_30
  case hy_30 =>
    intro w hSw
    try dsimp only at hSw
    go_simp
    try with_reducible rfl
  simp only [Act.put, List.setIfInBounds_toArray, List.set_cons_zero, List.set_cons_succ]
  refine' held_take (i := 32) (d := some 54) (v := _) rfl rfl (by kernel_rfl) (by kernel_rfl) (by kernel_rfl) (fun _ _ _ h => h) rfl (by assumption) ?hy_31 ?re_31
  case hy_31 =>
    intro w hSw
    try dsimp only at hSw
    go_simp
    try with_reducible rfl
  simp only [Act.put, List.setIfInBounds_toArray, List.set_cons_zero, List.set_cons_succ]
  refine' held_take (i := 33) (d := some 0) (v := _) rfl rfl (by kernel_rfl) (by kernel_rfl) (by kernel_rfl) (fun _ _ _ h => h) rfl (by assumption) ?hy_32 ?re_32
  case hy_32 =>
    intro w hSw
    try dsimp only at hSw
    go_simp
    try with_reducible rfl
  simp only [Act.put, List.setIfInBounds_toArray, List.set_cons_zero, List.set_cons_succ]
  refine wpAnyH_done (by kernel_rfl) ?_ _
  refine NoPanic.normal ?_
  go_wp2_with fail
  go_ret
  exact ⟨rfl, hb5H.out⟩
end Go.Proofs.YtfbndfkahodheaaGreatDoor

/- The closed fact about followers: walked. -/
namespace Go.Proofs.YtfbndfkahodheaaGreatDoor
open Go.RowKit

theorem followed_take : takeF (newFol 7) (headOf 7 [oneE] 4).1 [oneE] = (0, ⟨7, [oneE], [⟨annE, 2⟩], 4, (headOf 7 [oneE] 4).1⟩) := by
  obtain ⟨_, _, _, _, _, _, ho⟩ := headOf_zero fed_head
  have h := takeF_of (f := newFol 7) (s := (headOf 7 [oneE] 4).1) (M := [oneE]) (by show (openH 7 _).2 = 0; rw [ho]) (by show -1 ≤ (openH 7 _).1.time; rw [ho]; decide) (by show (openH 7 _).1.seq = _; rw [ho]; rfl) (by show (floorsE [oneE]).2.1 = 0; rw [fed_floors]) (by show sumF (floorsE [oneE]).1 = (openH 7 _).1.sum; rw [ho])
  rw [h]
  show (0, (⟨7, [oneE], (floorsE [oneE]).1, (openH 7 (headOf 7 [oneE] 4).1).1.time, (headOf 7 [oneE] 4).1⟩ : Fol)) = _
  rw [ho, fed_floors]
set_option maxHeartbeats 4000000 in
set_option maxRecDepth 100000 in
theorem followed_any {E : Nat → Addr} (w : World) (hL : LaidS E w) :
    Calls Tryz.prog 25 #[] w fun e w' => e = .returned (.bool true) ∧ Below w.heap.size w w' := by
  have hnw := Lib.hid (newFol_any (E := E) 7 w hL.laid)
  have had := Lib.hid (fun wx (hx : Below w.heap.size w wx) => (by
    have h := add_ent (E := E) (.slice none 0 0) [] 3 ⟨annE, 2⟩ wx (hL.below hx).laid (AtG.nil _) (fun e he => by cases he) (by decide)
    rw [fed_add] at h
    exact h : Calls Tryz.prog 12 #[.slice none 0 0, .int .i64 3, (⟨annE, 2⟩ : Flo).val] wx fun e w' => EntRes E wx.heap.size w' ([oneE], 0, -1) e ∧ Below wx.heap.size wx w'))
  have hmk := Lib.hid (fun v wx (hx : Below w.heap.size w wx) (hv : EntsAt wx v [oneE]) => makeF_any (E := E) 7 v [oneE] 4 wx (hL.below hx) hv (fun e he => by simp at he; subst he; decide))
  have hcode := Lib.hid fed_head
  have htk := Lib.hid (fun b v wx (hx : Below w.heap.size w wx) (hF : FolAt wx w.heap.size b (newFol 7)) (hv : EntsAt wx v [oneE]) => (by
    have h := take_fol (E := E) w.heap.size b (newFol 7) (headOf 7 [oneE] 4).1 v [oneE] wx (hL.below hx) hF hv (fun e he => by simp at he; subst he; decide) (fun e he => by cases he) (by decide) (by have := @headOf_len 7 [oneE] 4; omega) hx.size
    rw [followed_take] at h
    exact h : Calls Tryz.prog 30 #[.pointer (some ⟨b, 0, none⟩), .string (bs (headOf 7 [oneE] 4).1), v] wx fun e w' => e = .returned (errV E 0) ∧ FolAt w' w.heap.size b ⟨7, [oneE], [⟨annE, 2⟩], 4, (headOf 7 [oneE] 4).1⟩ ∧ Keeps (· = b) wx w'))
  generalize headOf 7 [oneE] 4 = H at *
  obtain ⟨H1, H2, H3⟩ := H
  clear hL
  go_enter Tryz.func25, Tryz.ntmps25
  go_wp2_with fail
  refine hnw.out.mono ?_
  rintro e w1 ⟨hor, hb1⟩
  rcases hor with ⟨hk, _⟩ | ⟨_, b, rfl, hF1⟩
  · exact absurd hk (by decide)
  have hF1H := Lib.hid hF1
  have had1 := Lib.hid (had.out _ hb1)
  have hb1H := Lib.hid hb1
  clear hF1 hb1 hnw had
  go_wp2_with fail
  refine had1.out.mono ?_
  rintro e w2 ⟨⟨v2, ev2, rfl, hrow2, he2⟩, hb2⟩
  obtain ⟨rfl, _⟩ := he2.zero rfl
  have hmk2 := Lib.hid (hmk.out _ _ (below_trans hb1H.out hb2) (EntRow.at_ hrow2))
  have hrow2H := Lib.hid hrow2
  have hF2 := Lib.hid (hF1H.out.below hb2)
  have hb2H := Lib.hid (below_trans hb1H.out hb2)
  clear hrow2 he2 hb2 had1 hmk
  go_wp2_with fail
  refine hmk2.out.mono ?_
  rintro e w3 ⟨⟨ev3, rfl, he3⟩, hb3⟩
  obtain ⟨rfl, _⟩ := he3.zero hcode.out
  dsimp only
  have hF3 := hF2.out.below hb3
  have hb3H := Lib.hid (below_trans hb2H.out hb3)
  have htk3 := Lib.hid (htk.out b _ _ (below_trans hb2H.out hb3) hF3 (EntRow.at_ (RowG.below hrow2H.out hb3)))
  clear he3 hb3 hF3 hmk2 htk
  go_wp2_with fail
  refine htk3.out.mono ?_
  rintro e w4 ⟨rfl, hF4, hk4⟩
  rw [errV_zero]
  have hfl4 := Lib.hid (floors_fol w.heap.size b _ w4 hF4 (show 1 ≤ 1000 from by decide))
  have hF4H := Lib.hid hF4
  have hb4 := Lib.hid (show Below w.heap.size w w4 from ⟨hk4.os.trans hb3H.out.os, hk4.tape.trans hb3H.out.tape, hk4.output.trans hb3H.out.output, Nat.le_trans hb3H.out.size hk4.size, fun k hk => (hk4.block k (Nat.lt_of_lt_of_le hk hb3H.out.size) (fun e => by have := hF4.1; omega)).trans (hb3H.out.block k hk)⟩)
  clear hF4 hk4 htk3
  go_wp2_with fail
  refine hfl4.out.mono ?_
  rintro e w5 ⟨v5, rfl, hrow5, hb5⟩
  have hat5 := floorsAt_of (RowG.at_ (floRow_G.1 hrow5))
  obtain ⟨a5, c5, hv5, _, _, hcs⟩ := hat5
  obtain ⟨bb, oo, rfl, h0, h1⟩ := hcs 0 (by decide)
  simp only [List.getElem_cons_zero, Nat.zero_mul, Nat.add_zero] at h0 h1
  simp only [List.length_cons, List.length_nil, Nat.zero_add] at hv5
  subst hv5
  have hF5 := Lib.hid (hF4H.out.below hb5)
  have hb5H := Lib.hid (below_trans hb4.out hb5)
  have h1H := Lib.hid h1
  have hsq := Lib.hid (seq_fol w.heap.size b _ w5 hF5.out)
  clear hcs hrow5 hb5 h0 h1 hfl4
  go_wp2_with fail
  refine hsq.out.mono ?_
  rintro e w6 ⟨rfl, hb6⟩
  have htm := Lib.hid (time_fol w.heap.size b _ w6 (hF5.out.below hb6))
  have h1H := Lib.hid (cell_below hb6 h1H.out)
  have hb6H := Lib.hid (below_trans hb5H.out hb6)
  clear hb6 hsq
  dsimp only
  go_wp2_with fail
  refine htm.out.mono ?_
  rintro e w7 ⟨rfl, hb7⟩
  have h1 := cell_below hb7 h1H.out
  have hb7H := Lib.hid (below_trans hb6H.out hb7)
  clear hb7 htm
  dsimp only
  go_wp2_with fail
  go_ret
  exact ⟨rfl, hb7H.out⟩
end Go.Proofs.YtfbndfkahodheaaGreatDoor

/- A feed taken step by step ends as a feed taken at once: no program in sight. -/
namespace Go.Proofs.YtfbndfkahodheaaGreatDoor

/-- A follower that has the first n entries of L. -/
structure Mid (key : Int) (L : List Ent) (n : Nat) (g : Fol) : Prop where
  key : g.key = key
  le : n ≤ L.length
  l : g.l = L.take n
  t : g.time ≤ wasE L n
theorem mid_new (key : Int) (L : List Ent) : Mid key L 0 (newFol key) := ⟨rfl, Nat.zero_le _, rfl, by show -1 ≤ wasE L 0; unfold wasE; rw [if_pos rfl]; decide⟩
theorem floorsE_take {L : List Ent} (h : (floorsE L).2.1 = 0) (n : Nat) : (floorsE (L.take n)).2.1 = 0 := by
  have := floorsE_left (L := L.take n) (M := L.drop n) (by rw [List.take_append_drop]; exact h)
  exact this.1
theorem wasE_take {L : List Ent} {n : Nat} (hn : n ≤ L.length) : wasE (L.take n) (L.take n).length = wasE L n := by
  have hl : (L.take n).length = n := by rw [List.length_take]; omega
  rw [hl]
  unfold wasE
  by_cases h0 : n = 0
  · rw [if_pos h0, if_pos h0]
  · rw [if_neg h0, if_neg h0]
    have := getD_left (L.take n) (L.drop n) noEnt (i := n - 1) (by rw [hl]; omega)
    rw [List.take_append_drop] at this
    rw [this]
theorem mid_head {key : Int} {L : List Ent} {n : Nat} (hk : isKey key = true) (hf : (floorsE L).2.1 = 0) (hn : n ≤ L.length) : (headOf key (L.take n) (wasE L n)).2.1 = 0 := by
  have hc : (checkE L).1 = 0 := by rw [(floorsE_zero hf).1]
  have := wasE_bd hc hn
  exact headOf_of hk (floorsE_take hf n) this.1 this.2 (by rw [wasE_take hn]; exact Int.le_refl _)
theorem mid_step {key : Int} {L : List Ent} {have_ n : Nat} {g : Fol} (hM : Mid key L have_ g) (hk : isKey key = true) (hf : (floorsE L).2.1 = 0) (h : have_ ≤ n) (hn : n ≤ L.length) :
    takeF g (headOf key (L.take n) (wasE L n)).1 ((L.take n).drop have_) = (0, ⟨key, L.take n, (floorsE (L.take n)).1, wasE L n, (headOf key (L.take n) (wasE L n)).1⟩) ∧ Mid key L n ⟨key, L.take n, (floorsE (L.take n)).1, wasE L n, (headOf key (L.take n) (wasE L n)).1⟩ := by
  have hz := mid_head hk hf hn
  obtain ⟨_, _, _, _, _, _, ho⟩ := headOf_zero hz
  have hc : (checkE L).1 = 0 := by rw [(floorsE_zero hf).1]
  have hmono := wasE_mono hc h hn
  have hl : (L.take n).length = n := by rw [List.length_take]; omega
  have ht : L.take have_ = (L.take n).take have_ := by rw [List.take_take, Nat.min_eq_left h]
  have hcat : g.l ++ (L.take n).drop have_ = L.take n := by rw [hM.l, ht, List.take_append_drop]
  have hgl : g.l.length = have_ := by rw [hM.l, List.length_take]; have := hM.le; omega
  have hdl : ((L.take n).drop have_).length = n - have_ := by rw [List.length_drop, hl]
  have key' := hM.key
  subst key'
  have := takeF_of (f := g) (s := (headOf g.key (L.take n) (wasE L n)).1) (M := (L.take n).drop have_) (by rw [ho]) (by rw [ho]; have := hM.t; dsimp only; omega) (by rw [ho, hgl, hdl]; dsimp only; rw [hl]; omega) (by rw [hcat]; exact floorsE_take hf n) (by rw [hcat, ho])
  rw [this, hcat, ho]
  exact ⟨rfl, rfl, hn, rfl, Int.le_refl _⟩
theorem mid_last {key : Int} {L : List Ent} {have_ : Nat} {g : Fol} {time : Int} (hM : Mid key L have_ g) (hz : (headOf key L time).2.1 = 0) :
    takeF g (headOf key L time).1 (L.drop have_) = (0, ⟨key, L, (floorsE L).1, time, (headOf key L time).1⟩) := by
  obtain ⟨_, hf, _, _, hw, _, ho⟩ := headOf_zero hz
  have hc : (checkE L).1 = 0 := by rw [(floorsE_zero hf).1]
  have hmono := wasE_mono hc hM.le (Nat.le_refl L.length)
  have hcat : g.l ++ L.drop have_ = L := by rw [hM.l, List.take_append_drop]
  have hgl : g.l.length = have_ := by rw [hM.l, List.length_take]; have := hM.le; omega
  have hdl : (L.drop have_).length = L.length - have_ := List.length_drop
  have hle := hM.le
  have key' := hM.key
  subst key'
  have := takeF_of (f := g) (s := (headOf g.key L time).1) (M := L.drop have_) (by rw [ho]) (by rw [ho]; have := hM.t; dsimp only; omega) (by rw [ho, hgl, hdl]; dsimp only; omega) (by rw [hcat]; exact hf) (by rw [hcat, ho])
  rw [this, hcat, ho]
/-- All at once. -/
theorem mid_once {key : Int} {L : List Ent} {time : Int} (hz : (headOf key L time).2.1 = 0) : takeF (newFol key) (headOf key L time).1 L = (0, ⟨key, L, (floorsE L).1, time, (headOf key L time).1⟩) := by
  have := mid_last (mid_new key L) hz
  rw [List.drop_zero] at this
  exact this
end Go.Proofs.YtfbndfkahodheaaGreatDoor

/- Two followers side by side: lemmas. -/
namespace Go.Proofs.YtfbndfkahodheaaGreatDoor
open Go.RowKit

theorem below_keeps {w w1 w2 : World} {b : Nat} (h : Below w.heap.size w w1) (hb : w.heap.size ≤ b) (hk : Keeps (· = b) w1 w2) : Below w.heap.size w w2 :=
  ⟨hk.os.trans h.os, hk.tape.trans h.tape, hk.output.trans h.output, Nat.le_trans h.size hk.size, fun k hk' => (hk.block k (Nat.lt_of_lt_of_le hk' h.size) (fun e => by omega)).trans (h.block k hk')⟩
/-- Another follower is kept. -/
theorem FolAt.other {w w' : World} {base b b' : Nat} {f f' : Fol} (h : FolAt w base b f) (h' : FolAt w base b' f') (hne : b ≠ b') (hk : Keeps (· = b') w w') : FolAt w' base b f :=
  h.keeps hk hne (fun k hk => by
    obtain ⟨_, u, v, h1, _⟩ := h'
    subst hk
    exact ⟨_, h1⟩)
theorem FolAt.lt {w : World} {base b : Nat} {f : Fol} (h : FolAt w base b f) : b < w.heap.size := by
  obtain ⟨_, u, v, h1, _⟩ := h
  exact (Array.getElem?_eq_some_iff.1 h1).1
theorem FolAt.mono {w : World} {base base' b : Nat} {f : Fol} (h : FolAt w base b f) (hb : base' ≤ base) : FolAt w base' b f := by
  obtain ⟨h0, u, v, h1, h2, h3⟩ := h
  exact ⟨Nat.le_trans hb h0, u, v, h1, RowG.mono h2 hb, h3.mono hb⟩
/-- l[i:j]. -/
theorem ents_cut {w : World} {a : Option Addr} {c : Nat} {L : List Ent} (h : EntsAt w (.slice a L.length c) L) {n : Nat} (hn : n ≤ L.length) : EntsAt w (.slice a (L.take n).length c) (L.take n) := by
  have := AtG.take h hn
  rwa [show (L.take n).length = n by rw [List.length_take]; omega]
end Go.Proofs.YtfbndfkahodheaaGreatDoor
