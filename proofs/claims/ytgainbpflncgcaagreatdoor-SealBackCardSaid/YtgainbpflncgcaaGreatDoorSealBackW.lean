/- The law SealBack, walked. -/
import Derived.Test.YtgainbpflncgcaaGreatDoorSealed
import Derived.Deep.CutRange
import Derived.Deep.CutBlock
import Derived.Deep.LoopGhost
namespace Go.Proofs.YtgainbpflncgcaaGreatDoor
open Go.RowKit

theorem glue_pos {W : List (List UInt8)} (h1 : 1 ≤ W.length) (hw : ∀ x ∈ W, isWord x = true) : 1 ≤ (glue 32 W).length := by
  cases W with
  | nil => simp at h1
  | cons a r =>
    have := ((isWord_iff a).1 (hw a (by simp))).1
    simp only [glue, List.length_append]
    omega
theorem sealText_at (k : Int) (W : List (List UInt8)) : (sealText k W).getD (glue 32 W).length 0 = 32 := by
  unfold sealText
  simp
theorem sealText_behind (k : Int) (W : List (List UInt8)) (j : Nat) (h : (glue 32 W).length < j) (hj : j < (sealText k W).length) : (sealText k W).getD j 0 ≠ 32 := by
  have hm := markOf_bd k (glue 32 W)
  have hns := itoa_no_space hm.1
  obtain ⟨i, rfl⟩ : ∃ i, j = (glue 32 W).length + (i + 1) := ⟨j - (glue 32 W).length - 1, by omega⟩
  unfold sealText at hj ⊢
  intro e
  apply hns
  have hi : i < (Lib.itoa (markOf k (glue 32 W)).1).length := by simp at hj; omega
  rw [List.getD_eq_getElem?_getD, List.getElem?_append_right (by omega)] at e
  simp only [Nat.add_sub_cancel_left, List.getElem?_cons_succ, List.getElem?_eq_getElem hi, Option.getD_some] at e
  have hmem := List.getElem_mem hi
  rw [e] at hmem
  exact hmem
theorem sealText_len (k : Int) {W : List (List UInt8)} (h10 : W.length ≤ 10) (hw : ∀ x ∈ W, isWord x = true) : (sealText k W).length ≤ 221 := by
  have hm := markOf_bd k (glue 32 W)
  have hg := glue_len 32 W (fun x hx => ((isWord_iff x).1 (hw x hx)).2.1)
  have hi := itoa_len10 hm.1 (by omega)
  unfold sealText
  simp only [List.length_append, List.length_cons]
  omega
theorem sealText_gt (k : Int) (W : List (List UInt8)) : (glue 32 W).length < (sealText k W).length := by
  unfold sealText
  simp only [List.length_append, List.length_cons]
  omega
theorem int_eq {k : IntKind} {a b : Int} (h : a = b) : Value.int k a = .int k b := by rw [h]
theorem getD_byte (T : ByteArray) (j : Nat) (h : j < T.size) : T[j] = T.data.toList.getD j 0 := by
  rw [← byteAt_eq T j h]
  rfl

set_option maxHeartbeats 4000000 in
set_option maxRecDepth 100000 in
theorem sealBack_any {E : Nat → Addr} (k : Int) (v : Value) (W : List (List UInt8)) (s : ByteArray) (at_ x : Int) (w : World) (hL : LaidX E w) (hv : TextsAt w v W) (hm : ∀ q ∈ W, q.length ≤ maxLen) (hs : s.size ≤ maxLen) (hx0 : 0 ≤ x) (hx1 : x ≤ 255) :
    Calls Tryz.prog 4 #[.int .i64 k, v, .string s, .int .i64 at_, .int .u8 x] w fun e w' => e = .returned (.bool true) ∧ Below w.heap.size w w' := by
  have hse := Lib.hid (sealed_any w hL)
  have hlw := Lib.hid (fun wx (hx : Below w.heap.size w wx) => longWords_any v W wx (hv.below hx) hm)
  unfold maxLen at hs
  cases hlo : longW W with
  | true =>
    rw [hlo] at hlw
    obtain ⟨a, c, rfl, hlen, _, _⟩ := id hv
    go_enter Tryz.func4, Tryz.ntmps4
    go_wp2_with fail
    refine hse.out.mono ?_
    rintro e w1 ⟨rfl, hb1⟩
    go_wp2_with fail
    refine (hlw.out _ hb1).mono ?_
    rintro e w2 ⟨rfl, hb2⟩
    have hb2 := Lib.hid (below_trans hb1 hb2)
    go_wp2_with fail
    go_ret
    exact ⟨rfl, hb2.out⟩
  | false =>
  rw [hlo] at hlw
  clear hlo
  by_cases h400 : 400 < s.size
  · have h4 : decide ((400 : Int) < (s.size : Int)) = true := decide_eq_true (by omega)
    obtain ⟨a, c, rfl, hlen, _, _⟩ := id hv
    go_enter Tryz.func4, Tryz.ntmps4
    go_wp2_with fail
    refine hse.out.mono ?_
    rintro e w1 ⟨rfl, hb1⟩
    go_wp2_with fail
    refine (hlw.out _ hb1).mono ?_
    rintro e w2 ⟨rfl, hb2⟩
    have hb2 := Lib.hid (below_trans hb1 hb2)
    go_wp2_with fail
    go_ret
    exact ⟨rfl, hb2.out⟩
  have h4 : decide ((400 : Int) < (s.size : Int)) = false := decide_eq_false (by omega)
  have h400 : s.size ≤ 400 := by omega
  have hv0 := Lib.hid hv
  obtain ⟨a, c, rfl, hlen, _, _⟩ := hv
  have hop := Lib.hid (fun wx (hx : Below w.heap.size w wx) => open_any (E := E) k s wx (hL.below hx).s (by omega))
  have hm := Lib.hid hm
  go_enter Tryz.func4, Tryz.ntmps4
  go_wp2_with fail
  refine hse.out.mono ?_
  rintro e w1 ⟨rfl, hb1⟩
  have hb1 := Lib.hid hb1
  go_wp2_with fail
  refine (hlw.out _ hb1.out).mono ?_
  rintro e w2 ⟨rfl, hb2⟩
  have hb2 := Lib.hid (below_trans hb1.out hb2)
  go_wp2_with fail
  refine (hop.out _ hb2.out).mono ?_
  rintro e w3 ⟨v3, rfl, hv3, hb3⟩
  have hb3 := Lib.hid (below_trans hb2.out hb3)
  have hv3 := Lib.hid hv3
  obtain ⟨ev3, hev3⟩ : ∃ y, errV E (openOf k s.data.toList).2 = y := ⟨_, rfl⟩
  rw [hev3]
  have hev3 := Lib.hid hev3
  go_upto_region 5 with fail
  go_cut [39] from 38 to 38 (fun s39 wx => ∃ b : Bool, s39 = .bool b ∧ wx = w3 ∧ Hid (b = decide ((openOf k s.data.toList).2 = 0)))
  case first =>
    cases hq : (openOf k s.data.toList).2 with
    | succ cd =>
      have hq' := Lib.hid hq
      obtain rfl : ev3 = .iface 234 (.pointer (some (E (cd + 1)))) := by rw [← hev3.out, hq]; rfl
      clear hq
      go_wp2_with fail
      go_meet
      exact ⟨_, rfl, rfl, Lib.hid (by rw [hq'.out]; rfl)⟩
    | zero =>
      have hq' := Lib.hid hq
      obtain rfl : ev3 = .nilIface := by rw [← hev3.out, hq]; rfl
      clear hq
      go_wp2_with fail
      go_meet
      exact ⟨_, rfl, rfl, Lib.hid (by rw [hq'.out]; rfl)⟩
  obtain ⟨bq, rfl, rfl, hbq⟩ := hcut
  go_upto_if 39 with fail
  go_cut [14, 15] from 40 to 52 (fun s14 s15 wx => Hid (Below w.heap.size w wx))
  case first =>
    cases bq with
    | false =>
      go_wp2_with fail
      go_meet
      exact hb3
    | true =>
      have hq : (openOf k s.data.toList).2 = 0 := of_decide_eq_true hbq.out.symm
      have hq2 := Lib.hid (seal_opened hq)
      obtain ⟨hk0, _, hd, hs1, hW3, h310, hw3⟩ := open_shape hq
      have hmk := Lib.hid (make_any (E := E) k v3 (openOf k s.data.toList).1 wc (hL.below hb3.out).s hv3.out (by
        rw [hW3]
        intro y hy
        have := ((isWord_iff y).1 (hw3 y hy)).2.1
        unfold maxLen
        omega))
      obtain ⟨a3, c3, rfl, _, _, _⟩ := id hv3.out
      rw [hq2.out, bs_data] at hmk
      clear hq hs1 hW3 h310 hw3 hk0
      go_wp2_with fail
      refine hmk.out.mono ?_
      rintro e w4 ⟨ev, rfl, hev, hb4⟩
      rcases hev with ⟨_, rfl⟩ | ⟨_, _, h1, _⟩
      case inr => exact absurd h1 (Nat.not_succ_le_zero 0)
      have hb4 := Lib.hid (below_trans hb3.out hb4)
      rw [errV_zero]
      go_wp2_with fail
      go_meet
      exact hb4
  case rest =>
    have hcut := hcut
    have hmk := Lib.hid (make_any (E := E) k _ W wc (hL.below hcut.out).s (hv0.out.below hcut.out) hm.out)
    go_wp2_with fail
    refine hmk.out.mono ?_
    rintro e w4 ⟨ev, rfl, hev, hb4⟩
    have hb4 := Lib.hid (below_trans hcut.out hb4)
    by_cases hcd : (makeOf k W).2.1 = 0
    case neg =>
      have hbad := make_bad hcd
      rw [hbad]
      have hbe : ((bs []).toList).isEmpty = true := by rw [toList_data]; rfl
      rcases hev with ⟨_, hev⟩ | ⟨N, hev, _⟩
      · obtain ⟨cd, hcd2⟩ : ∃ cd, (makeOf k W).2.1 = cd + 1 := ⟨(makeOf k W).2.1 - 1, by omega⟩
        rw [hcd2, errV_succ] at hev
        subst hev
        clear hcd hcd2 hbad
        go_wp2_with fail
        go_ret
        exact ⟨rfl, hb4.out⟩
      · subst hev
        clear hcd hbad
        go_wp2_with fail
        go_ret
        exact ⟨rfl, hb4.out⟩
    case pos =>
      obtain ⟨hk, hW1, hW10, hWw, hmo⟩ := make_shape hcd
      rw [hmo] at hev ⊢
      rcases hev with ⟨_, rfl⟩ | ⟨_, _, h1, _⟩
      case inr => exact absurd h1 (Nat.not_succ_le_zero 0)
      have hop2 := Lib.hid (open_any (E := E) k (bs (sealText k W)) w4 (hL.below hb4.out).s (by
        have := sealText_len k hW10 hWw
        rw [bs_size]
        omega))
      rw [bs_list, open_of hk hW1 hW10 hWw] at hop2
      rw [errV_zero]
      go_wp2_with fail
      refine hop2.out.mono ?_
      rintro e w5 ⟨v5, rfl, hv5, hb5⟩
      have hst := sameTexts_any _ _ W W w5 hv5 (hv0.out.below (below_trans hb4.out hb5))
      rw [decide_eq_true (rfl : W = W)] at hst
      have hst := Lib.hid hst
      obtain ⟨a5, c5, rfl, _, _, _⟩ := id hv5
      have hb5 := Lib.hid (below_trans hb4.out hb5)
      rw [errV_zero]
      go_wp2_with fail
      refine hst.out.mono ?_
      rintro e w6 ⟨rfl, hb6⟩
      have hb6 := Lib.hid (below_trans hb5.out hb6)
      have htl := Lib.hid (show (bs (sealText k W)).size = (sealText k W).length from bs_size _)
      by_cases ha0 : at_ < 0
      · go_wp2_with fail
        go_ret
        exact ⟨rfl, hb6.out⟩
      have ha0 : 0 ≤ at_ := by omega
      obtain ⟨i, rfl⟩ := Int.eq_ofNat_of_zero_le ha0
      obtain ⟨T, hT⟩ : ∃ T, bs (sealText k W) = T := ⟨_, rfl⟩
      rw [hT] at htl ⊢
      have hTl := Lib.hid (show T.data.toList = sealText k W by rw [← hT]; rfl)
      have hT := Lib.hid hT
      by_cases hai : (T.size : Int) ≤ (i : Int)
      · go_wp2_with fail
        go_ret
        exact ⟨rfl, hb6.out⟩
      have hiT : i < T.size := by omega
      have hgp := glue_pos hW1 hWw
      have hgt := sealText_gt k W
      have hga := Lib.hid (sealText_at k W)
      have hgb := Lib.hid (sealText_behind k W)
      have hsb := Lib.hid (fun (y : UInt8) h1 h2 h3 h4 => seal_byte (W := W) hk i y h1 h2 h3 h4)
      have hTs : T.size = (sealText k W).length := htl.out
      have hT2 := sealText_len k hW10 hWw
      obtain ⟨gl, hgl⟩ : ∃ gl, (glue 32 W).length = gl := ⟨_, rfl⟩
      rw [hgl] at hgp hgt hga hgb hsb
      have hgT : gl < T.size := by omega
      have hT2 : T.size ≤ 221 := by omega
      have hat := Lib.hid (show ∀ j (h : j < T.size), T[j] = (sealText k W).getD j 0 from fun j h => by rw [getD_byte T j h, hTl.out])
      have hTsH := Lib.hid hTs
      have hdl : decide (T.size ≤ i) = false := decide_eq_false (by omega)
      have hd0 : decide ((i : Int) < 0) = false := decide_eq_false (by omega)
      clear hgl hgt hcd hmo hmk hop hop2 hst hTs
      go_wp2_with fail
      go_loopg [17] (T.size + 1) (fun g17 s17 wr => ∃ j : Nat, s17 = .int .i64 j ∧ gl ≤ j ∧ j < T.size ∧ j + 1 ≤ g17 ∧ wr = w6)
      case atStart => exact ⟨T.size - 1, int_eq (by omega), by omega, by omega, by omega, rfl⟩
      case round =>
        obtain ⟨j, rfl, hj1, hj2, hjg, rfl⟩ := hrel
        have hj0 : decide ((0 : Int) < (j : Int)) = true := decide_eq_true (by omega)
        by_cases hjj : j = gl
        case neg =>
          have hb : ((T[j].toNat : Int) != 32) = true := by
            rw [bne_iff_ne]
            intro e
            apply hgb.out j (by omega) (by rw [← hTsH.out]; exact hj2)
            rw [← hat.out j hj2]
            exact UInt8.toNat_inj.1 (by simpa using Int.ofNat.inj e)
          go_wp2_with fail
          go_roundg (j - 1 + 1)
          case measure => omega
          case rel => exact ⟨j - 1, int_eq (by omega), by omega, by omega, by omega, rfl⟩
        case pos =>
          subst hjj
          have hb : ((T[j].toNat : Int) != 32) = false := by
            rw [hat.out j hj2, hga.out]
            rfl
          have hi0 : (0 : Int) ≤ (i : Int) := by omega
          have hi1 : (i : Int) < (T.size : Int) := by omega
          by_cases hA : (T[i].toNat : Int) = x
          · have hA' : ((T[i].toNat : Int) == x) = true := by rw [beq_iff_eq]; exact hA
            clear hA
            go_wp2_with fail
            go_ret
            exact ⟨rfl, hb6.out⟩
          have hA' : ((T[i].toNat : Int) == x) = false := by rw [beq_eq_false_iff_ne]; exact hA
          by_cases hB : i = j
          · have hB' : ((i : Int) == (j : Int)) = true := by rw [beq_iff_eq]; omega
            have hA := Lib.hid hA
            clear hB
            go_wp2_with fail
            go_ret
            exact ⟨rfl, hb6.out⟩
          have hB' : ((i : Int) == (j : Int)) = false := by rw [beq_eq_false_iff_ne]; omega
          by_cases hC : j < i ∧ x = 32
          · obtain ⟨hC1, rfl⟩ := hC
            have hC' : decide (j < i) = true := decide_eq_true (by omega)
            clear hA hB
            go_wp2_with fail
            go_ret
            exact ⟨rfl, hb6.out⟩
          have hcode := hsb.out (UInt8.ofNat x.toNat) (by rw [← hTsH.out]; exact hiT) (by
            intro e
            apply hA
            rw [hat.out i hiT, e]
            simp
            omega) hB (by
            rintro ⟨h1, h2⟩
            apply hC
            refine ⟨h1, ?_⟩
            have := congrArg UInt8.toNat h2
            simp at this
            omega)
          have hD : decide (j < i) = false ∨ (decide (j < i) = true ∧ (x == 32) = false) := by
            by_cases h1 : j < i
            · exact .inr ⟨decide_eq_true (by omega), by rw [beq_eq_false_iff_ne]; exact fun e => hC ⟨h1, e⟩⟩
            · exact .inl (decide_eq_false (by omega))
          have hcode2 := Lib.hid hcode
          have hx256 := Lib.hid (show 0 ≤ x ∧ x ≤ 255 from ⟨hx0, hx1⟩)
          have hcv := fun w => run_bytes_of_string (P := Tryz.prog) w 9 61 5 T Tryz.underlying9 Tryz.underlying61 Tryz.underlying5
          have hst := storeByte_cells wr T i x hiT hx0 hx1 5 (grownCap wr T.size 0 5)
          obtain ⟨hc1, hf1, hcs⟩ := hst
          have hcb := run_convert_bytes_back (P := Tryz.prog) _ 61 9 5 ⟨wr.heap.size, 0, none⟩ (grownCap wr T.size 0 5) (T.data.toList.set i (UInt8.ofNat x.toNat)) Tryz.underlying61 Tryz.underlying5 Tryz.underlying9 hcs
          rw [show (T.data.toList.set i (UInt8.ofNat x.toNat)).length = T.size by simp] at hcb
          have hcs := Lib.hid hcs
          have B7 : Below w.heap.size w (((wr.alloc (.cells (bytesRow T (grownCap wr T.size 0 5)) 5 ((bytesRow T (grownCap wr T.size 0 5)).size, (bytesRow T (grownCap wr T.size 0 5)).size + 1))).setCell ⟨wr.heap.size, i, none⟩ (.int .u8 x)).drew) := ((hb6.out.alloc hb6.out.size _).setCell hb6.out.size _).drew
          have hds : (⟨(T.data.toList.set i (UInt8.ofNat x.toNat)).toArray⟩ : ByteArray).size ≤ 1000000 := by
            show (T.data.toList.set i (UInt8.ofNat x.toNat)).toArray.size ≤ 1000000
            simp
            omega
          have ho7 := open_any (E := E) k ⟨(T.data.toList.set i (UInt8.ofNat x.toNat)).toArray⟩ _ (hL.below B7).s hds
          have hcode3 : (openOf k (⟨(T.data.toList.set i (UInt8.ofNat x.toNat)).toArray⟩ : ByteArray).data.toList).2 ≠ 0 := by
            show (openOf k (T.data.toList.set i (UInt8.ofNat x.toNat))).2 ≠ 0
            rw [hTl.out]
            exact hcode2.out
          have hbad := open_bad hcode3
          obtain ⟨cd, hcd⟩ : ∃ cd, (openOf k (⟨(T.data.toList.set i (UInt8.ofNat x.toNat)).toArray⟩ : ByteArray).data.toList).2 = cd + 1 := ⟨_, (Nat.succ_pred_eq_of_ne_zero hcode3).symm⟩
          rw [hcd, hbad, errV_succ] at ho7
          have ho7 := Lib.hid ho7
          have B7 := Lib.hid B7
          clear hcode hcode3 hbad hcd hA hC hds
          rcases hD with hD | ⟨hD, hD2⟩
          all_goals
            go_wp2_with fail
            refine ho7.out.mono ?_
            rintro e w8 ⟨v8, rfl, hv8, hb8⟩
            obtain ⟨a8, c8, rfl, _, _, _⟩ := hv8
            have hb8 := Lib.hid (below_trans B7.out hb8)
            go_wp2_with fail
            go_ret
            exact ⟨rfl, hb8.out⟩
end Go.Proofs.YtgainbpflncgcaaGreatDoor
