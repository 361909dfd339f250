/- seal.Make by its contract. -/
import Derived.Test.YtgainbpflncgcaaGreatDoorFuncs
import Derived.Test.YtgainbpflncgcaaGreatDoorMark
import Derived.Test.YtgainbpflncgcaaGreatDoorErrAt
import Derived.Deep.RegionHeld3
namespace Go.Proofs.YtgainbpflncgcaaGreatDoor
open Go.RowKit

set_option maxRecDepth 100000 in
theorem join_any (v : Value) (W : List (List UInt8)) (w : World) (hv : TextsAt w v W) (h1 : 1 ≤ W.length) (h10 : W.length ≤ 10) (hw : ∀ x ∈ W, x.length ≤ 20) :
    Calls Tryz.prog 66 #[v, .string ⟨#[32]⟩] w fun e w' => e = .returned (.string (bs (glue 32 W))) ∧ Below w.heap.size w w' := by
  obtain ⟨a, c, rfl, _, hcap, hc⟩ := hv
  obtain ⟨b, o, rfl, h0⟩ := hc 0 (by omega)
  have hlt := World.block_lt_of_cell? w _ h0
  have hmap : (W.map bs).map (fun x => x.data.toList) = W := by
    rw [List.map_map]
    have : ((fun x : ByteArray => x.data.toList) ∘ bs) = id := by funext x; exact bs_list x
    rw [this, List.map_id]
  have hj : Lib.join ((W.map bs).map (fun x => x.data.toList)) (⟨#[32]⟩ : ByteArray).data.toList = glue 32 W := by
    rw [hmap]
    exact join_glue 32 W
  have h := Any.strings_Join Tryz.joinL Tryz.joinX b o c (W.map bs) ⟨#[32]⟩ w (fun j x hx => by
      rw [List.getElem?_map] at hx
      cases hj : W[j]? with
      | none => rw [hj] at hx; cases hx
      | some y =>
        rw [hj] at hx
        cases hx
        obtain ⟨hlt2, rfl⟩ := List.getElem?_eq_some_iff.1 hj
        obtain ⟨b2, o2, he, hc2⟩ := hc j hlt2
        cases he
        exact hc2) hlt (by rw [List.length_map]; omega) (by rw [List.length_map]; exact hcap) (by
      rw [hj]
      have := glue_len 32 W hw
      omega)
  rw [hj, List.length_map] at h
  exact h

theorem ret_str2 {a b : ByteArray} {v : Value} (h : a = b) : Ending.returned (.tuple #[.string a, v]) = .returned (.tuple #[.string b, v]) := by rw [h]
theorem str_add (a b : List UInt8) : bs a ++ bs b = bs (a ++ b) := by
  apply ByteArray.ext
  simp [bs]
set_option maxHeartbeats 1000000 in
set_option maxRecDepth 100000 in
theorem make_any {E : Nat → Addr} (k : Int) (v : Value) (W : List (List UInt8)) (w : World) (hL : LaidS E w) (hv : TextsAt w v W) (hm : ∀ x ∈ W, x.length ≤ maxLen) :
    Calls Tryz.prog 30 #[.int .i64 k, v] w fun e w' => ∃ ev, e = .returned (.tuple #[.string (bs (makeOf k W).1), ev]) ∧ ErrAt E w' ev (makeOf k W).2.1 (makeOf k W).2.2 ∧ Below w.heap.size w w' := by
  have hv' := Lib.hid hv
  obtain ⟨a, c, rfl, hlen, _, _⟩ := hv
  unfold maxLen at hlen
  by_cases hk : isKey k = true
  case neg =>
    have hk : isKey k = false := by simpa using hk
    have hr := Lib.hid (show makeOf k W = ([], 10, -1) by unfold makeOf; rw [if_pos hk])
    have he := hL.laid.e10
    go_enter Tryz.func30, Tryz.ntmps30
    go_wp2_with (go_at_call 56; refine (key_any _ _).mono ?_; rintro e w' ⟨rfl, rfl⟩)
    go_quiet (fail)
    go_wp2_with fail
    go_ret2
    exact ⟨_, by rw [hr.out]; rfl, by rw [hr.out]; exact ErrAt.bare 10, below_drawn (Below.refl _ _) _⟩
  have hk' := Lib.hid (show ¬ isKey k = false by rw [hk]; decide)
  by_cases h0 : W.length = 0
  · have hr := Lib.hid (show makeOf k W = ([], 3, -1) by unfold makeOf; rw [if_neg hk'.out, if_pos (.inl h0)])
    have he := hL.laid.e3
    have hz : ((W.length : Int) == 0) = true := by rw [beq_iff_eq]; omega
    clear h0
    go_enter Tryz.func30, Tryz.ntmps30
    go_wp2_with (go_at_call 56; refine (key_any _ _).mono ?_; rintro e w' ⟨rfl, rfl⟩)
    go_quiet (fail)
    go_wp2_with fail
    go_ret2
    exact ⟨_, by rw [hr.out]; rfl, by rw [hr.out]; exact ErrAt.bare 3, below_drawn (Below.refl _ _) _⟩
  have hz : ((W.length : Int) == 0) = false := by rw [beq_eq_false_iff_ne]; omega
  by_cases h10 : 10 < W.length
  · have hr := Lib.hid (show makeOf k W = ([], 3, -1) by unfold makeOf; rw [if_neg hk'.out, if_pos (.inr h10)])
    have he := hL.laid.e3
    have h10' : decide ((10 : Int) < (W.length : Int)) = true := decide_eq_true (by omega)
    clear h0
    go_enter Tryz.func30, Tryz.ntmps30
    go_wp2_with (go_at_call 56; refine (key_any _ _).mono ?_; rintro e w' ⟨rfl, rfl⟩)
    go_quiet (fail)
    go_wp2_with fail
    go_ret2
    exact ⟨_, by rw [hr.out]; rfl, by rw [hr.out]; exact ErrAt.bare 3, below_drawn (Below.refl _ _) _⟩
  have h10' : decide ((10 : Int) < (W.length : Int)) = false := decide_eq_false (by omega)
  have hix := Lib.hid (index_any _ W 64 w hv'.out hm (make1_bad w) (enters_of Tryz.func64 (by kernel_rfl) rfl))
  have h0' := Lib.hid (show ¬ (W.length = 0 ∨ 10 < W.length) by omega)
  rcases badIdx_cases W with ⟨hb, hall⟩ | ⟨j, hj, hb, _, _⟩
  case inr =>
    have hr := Lib.hid (show makeOf k W = ([], 1, (j : Int)) by unfold makeOf; rw [if_neg hk'.out, if_neg h0'.out, if_neg (by rw [hb]; omega), hb])
    rw [hb] at hix
    have hj0 : (0 : Int) ≤ (j : Int) := by omega
    clear h0 hb h10 hm
    go_enter Tryz.func30, Tryz.ntmps30
    go_wp2_with (go_at_call 56; refine (key_any _ _).mono ?_; rintro e w' ⟨rfl, rfl⟩)
    refine hix.out.mono ?_
    rintro e w1 ⟨rfl, hb1⟩
    have he := (hL.below hb1).laid.e1
    have hb1 := Lib.hid hb1
    simp only [errV] at he
    go_wp2_with fail
    go_region
    all_goals
      go_wp2_with fail
      go_ret2
      refine ⟨_, by rw [hr.out]; rfl, ?_, ((hb1.out.alloc hb1.out.size _)).drew⟩
      rw [hr.out]
      exact .inr ⟨w1.heap.size, rfl, Nat.le_refl 1, by simp, by simp [errV]⟩
  case inl =>
    have hr := Lib.hid (show makeOf k W = (sealText k W, 0, -1) by unfold makeOf; rw [if_neg hk'.out, if_neg h0'.out, if_pos hb])
    rw [hb] at hix
    have hw20 : ∀ x ∈ W, x.length ≤ 20 := fun x hx => ((isWord_iff x).1 (hall x hx)).2.1
    have hgl := glue_len 32 W hw20
    have hjo := Lib.hid (fun wx (hx : Below w.heap.size w wx) => join_any _ W wx (hv'.out.below hx) (by omega) (by omega) hw20)
    have hof := Lib.hid (fun wx (hx : Below w.heap.size w wx) => of_any k (bs (glue 32 W)) wx (hL.below hx).laid (by rw [bs_size]; unfold maxLen; omega))
    have hmb := markOf_bd k (glue 32 W)
    have hit := Lib.hid (fun wx (hx : Below w.heap.size w wx) => itoa_any (markOf k (glue 32 W)).1 (by omega) (by omega) wx (hL.below hx))
    have hcode := Lib.hid (show (markOf k (glue 32 W)).2 = 0 by unfold markOf; rw [if_pos hk])
    have hsz1 : (bs (glue 32 W)).size ≤ 300 := by rw [bs_size]; omega
    have hsz2 : (bs (glue 32 W) ++ (⟨#[32]⟩ : ByteArray)).size ≤ 301 := by
      rw [ByteArray.size_append]
      have : (⟨#[32]⟩ : ByteArray).size = 1 := rfl
      omega
    have hsz3 : (bs (Lib.itoa (markOf k (glue 32 W)).1)).size ≤ 20 := by rw [bs_size]; exact itoa_len (by omega) (by omega)
    clear h0 hb h10 hm hall hw20 hgl
    go_enter Tryz.func30, Tryz.ntmps30
    go_wp2_with (go_at_call 56; refine (key_any _ _).mono ?_; rintro e w' ⟨rfl, rfl⟩)
    refine hix.out.mono ?_
    rintro e w1 ⟨rfl, hb1⟩
    have hb1 := Lib.hid hb1
    go_wp2_with fail
    refine (hjo.out _ hb1.out).mono ?_
    rintro e w2 ⟨rfl, hb2⟩
    have hb2 := Lib.hid (below_trans hb1.out hb2)
    go_wp2_with fail
    refine (hof.out _ hb2.out).mono ?_
    rintro e w3 ⟨rfl, hb3⟩
    have hb3 := Lib.hid (below_trans hb2.out hb3)
    rw [bs_list, hcode.out]
    simp only [errV]
    go_wp2_with fail
    refine (hit.out _ hb3.out).mono ?_
    rintro e w4 ⟨rfl, hb4⟩
    have hb4 := Lib.hid (below_trans hb3.out hb4)
    go_wp2_with fail
    go_ret2
    refine ⟨.nilIface, ?_, by rw [hr.out]; exact ErrAt.bare 0, hb4.out⟩
    rw [hr.out]
    exact ret_str2 (show bs (glue 32 W) ++ bs [32] ++ bs (Lib.itoa (markOf k (glue 32 W)).1) = bs (sealText k W) by
      rw [str_add, str_add, List.append_assoc]
      rfl)
end Go.Proofs.YtgainbpflncgcaaGreatDoor
