/- RefW4 -/
import Derived.Test.YtkhphdkjnpcnnaaGreatDoorMg15
import Derived.Test.YtkhphdkjnpcnnaaGreatDoorMg3
import Derived.Test.YtkhphdkjnpcnnaaGreatDoorMg12
import Derived.Test.YtkhphdkjnpcnnaaGreatDoorMg8
/- The reference's seal: SealOf, LookAt, Unseal. -/
namespace Go.Proofs.YtkhphdkjnpcnnaaGreatDoor
open Go.RowKit

def faultV (c a : Int) : Value := .agg #[.int .i64 c, .int .i64 a]
set_option maxRecDepth 100000 in
theorem bare_any (c : Int) (w : World) :
    Calls Tryz.prog 93 #[.int .i64 c] w fun e w' => e = .returned (faultV c (-1)) ∧ Below w.heap.size w w' := by
  go_enter Tryz.func93, Tryz.ntmps93
  go_wp2_with fail
  exact bodyPost_ret (v := .agg #[.int .i64 c, .int .i64 (-1)]) (by simp [results, Tryz.results93, go_sem]) rfl ⟨rfl, (Below.refl _ _).alloc (Nat.le_refl _) _⟩
set_option maxRecDepth 100000 in
theorem fine_any (w : World) :
    Calls Tryz.prog 132 #[] w fun e w' => e = .returned (faultV 0 (-1)) ∧ Below w.heap.size w w' := by
  go_enter Tryz.func132, Tryz.ntmps132
  go_wp2_with fail
  exact bodyPost_ret (v := .agg #[.int .i64 0, .int .i64 (-1)]) (by simp [results, Tryz.results132, go_sem]) rfl ⟨rfl, (Below.refl _ _).alloc (Nat.le_refl _) _⟩
theorem textsAt_no (w : World) : TextsAt w (.slice none 0 0) [] := ⟨none, 0, rfl, Nat.zero_le _, Nat.zero_le _, fun i hi => by cases hi⟩
theorem textsAt_take {w : World} {a : Option Addr} {c m : Nat} {L X : List (List UInt8)} (h : TextsAt w (.slice a L.length c) L) (hX : L.take m = X) (hm : m ≤ L.length) : TextsAt w (.slice a m c) X := by
  subst hX
  obtain ⟨a', c', he, h2, h3, h4⟩ := h
  cases he
  have hl : (L.take m).length = m := by rw [List.length_take]; omega
  refine ⟨a, c, by rw [hl], by omega, by omega, fun i hi => ?_⟩
  obtain ⟨b, o, h5, h6⟩ := h4 i (by omega)
  exact ⟨b, o, h5, by rw [List.getElem_take]; exact h6⟩
theorem lookOf_glue (s : List UInt8) (h : (lookOf s).2.2.2 = 0) : glue 32 (lookOf s).2.1 = (lookOf s).1 := by
  unfold lookOf at h ⊢
  by_cases h4 : 4000 < s.length
  · rw [if_pos h4] at h; cases h
  rw [if_neg h4] at h ⊢
  cases hc : lastCut 32 s with
  | none => rw [hc] at h; cases h
  | some x =>
    obtain ⟨hd, t⟩ := x
    rw [hc] at h
    dsimp only at h ⊢
    by_cases hn : (number t 1000000006).2 = false
    · rw [if_pos hn] at h; cases h
    rw [if_neg hn] at h ⊢
    by_cases h10 : 10 < (cutL 32 hd).length
    · rw [if_pos h10] at h; cases h
    rw [if_neg h10] at h ⊢
    by_cases hb : badIdx (cutL 32 hd) = -1
    case neg => rw [if_neg hb] at h; cases h
    rw [if_pos hb]
    exact glue_cut 32 hd
/-- What SealOf answers, as a value. -/
def sealV (q : List UInt8 × Nat × Int) : Value := .tuple #[.string (bs q.1), faultV q.2.1 q.2.2]
theorem sealR_key (k : Int) (v : Value) (W : List (List UInt8)) (w : World) (hk : isKey k = false) :
    Calls Tryz.prog 95 #[.int .i64 k, v] w fun e w' => e = .returned (sealV (makeOf k W)) ∧ Below w.heap.size w w' := by
  have hA : Below w.heap.size w (w.alloc (.cells #[.int .i64 0, .int .i64 0] 98)) := (Below.refl _ _).alloc (Nat.le_refl _) _
  have hrow := heap_alloc_new w (.cells #[.int .i64 0, .int .i64 0] 98)
  have hr := Lib.hid (show makeOf k W = ([], 10, -1) by unfold makeOf; rw [if_pos hk])
  have hrow := Lib.hid hrow
  go_enter Tryz.func95, Tryz.ntmps95
  go_wp2_with (go_at_call 35; refine (isKey_any _ _).mono ?_; rintro e w' ⟨rfl, rfl⟩)
  refine (bare_any 10 _).mono ?_
  rintro e w1 ⟨rfl, hb1⟩
  unfold faultV
  have hrr := Lib.hid (heap_down hb1 hrow.out)
  have hb1 := Lib.hid (below_trans hA hb1)
  obtain ⟨⟨r0, r1⟩, f0, f1⟩ := two_kept (Below.refl _ _) hrr.out
  have hfin := Lib.hid (below_set2 (n := w.heap.size) hb1.out (Nat.le_refl _) (.int .i64 10) (.int .i64 (-1)))
  go_wp2_with fail
  obtain ⟨⟨q0, q1⟩, _⟩ := two_kept (Below.refl _ _) (row_set2 hrr.out (.int .i64 10) (.int .i64 (-1)))
  exact bodyPost_ret (v := .tuple #[.string ⟨#[]⟩, .agg #[.int .i64 10, .int .i64 (-1)]]) (by simp [results, Tryz.results95, go_sem, q0, q1]) rfl ⟨by rw [hr.out]; rfl, hfin.out⟩
set_option maxHeartbeats 1000000 in
set_option maxRecDepth 100000 in
theorem sealR_any (k : Int) (v : Value) (W : List (List UInt8)) (w : World) (hv : TextsAt w v W) (hm : ∀ x ∈ W, x.length ≤ maxLen) :
    Calls Tryz.prog 95 #[.int .i64 k, v] w fun e w' => e = .returned (sealV (makeOf k W)) ∧ Below w.heap.size w w' := by
  cases hk : isKey k with
  | false => exact sealR_key k v W w hk
  | true =>
  have hA : Below w.heap.size w (w.alloc (.cells #[.int .i64 0, .int .i64 0] 98)) := (Below.refl _ _).alloc (Nat.le_refl _) _
  have hrow := Lib.hid (heap_alloc_new w (.cells #[.int .i64 0, .int .i64 0] 98))
  have hv1 := Lib.hid (hv.below hA)
  have hm := Lib.hid hm
  have hmk : makeOf k W = if W.length = 0 ∨ 10 < W.length then ([], 3, -1) else if badIdx W = -1 then (sealText k W, 0, -1) else ([], 1, badIdx W) := by unfold makeOf; rw [if_neg (by rw [hk]; decide)]
  by_cases hl : W.length = 0 ∨ 10 < W.length
  · have hr := Lib.hid (hmk.trans (if_pos hl))
    obtain ⟨a, c, rfl, hlen, hcap, hcell⟩ := hv
    unfold maxLen at hlen
    clear hmk hcell
    rcases hl with hl | hl
    all_goals
      go_enter Tryz.func95, Tryz.ntmps95
      go_wp2_with (go_at_call 35; refine (isKey_any _ _).mono ?_; rintro e w' ⟨rfl, rfl⟩)
      refine (bare_any 3 _).mono ?_
      rintro e w1 ⟨rfl, hb1⟩
      unfold faultV
      have hrr := Lib.hid (heap_down hb1 hrow.out)
      have hb1 := Lib.hid (below_trans hA hb1)
      obtain ⟨⟨r0, r1⟩, f0, f1⟩ := two_kept (Below.refl _ _) hrr.out
      have hfin := Lib.hid (below_set2 (n := w.heap.size) hb1.out (Nat.le_refl _) (.int .i64 3) (.int .i64 (-1)))
      go_wp2_with fail
      obtain ⟨⟨q0, q1⟩, _⟩ := two_kept (Below.refl _ _) (row_set2 hrr.out (.int .i64 3) (.int .i64 (-1)))
      exact bodyPost_ret (v := .tuple #[.string ⟨#[]⟩, .agg #[.int .i64 3, .int .i64 (-1)]]) (by simp [results, Tryz.results95, go_sem, q0, q1]) rfl ⟨by rw [hr.out]; rfl, hfin.out⟩
  have hmk := Lib.hid (hmk.trans (if_neg hl))
  have h1 : 1 ≤ W.length := by omega
  have h10 : W.length ≤ 10 := by omega
  obtain ⟨a, c, rfl, hlen, hcap, hcell⟩ := id hv1.out
  have hcell := Lib.hid hcell
  clear hlen hl hv
  go_enter Tryz.func95, Tryz.ntmps95
  go_wp2_with (go_at_call 35; refine (isKey_any _ _).mono ?_; rintro e w' ⟨rfl, rfl⟩)
  generalize (w.alloc (.cells #[.int .i64 0, .int .i64 0] 98)) = w0 at *
  have hA := Lib.hid hA
  go_loopw [7] (fun i wr => ∃ j : Nat, j ≤ W.length ∧ i = .int .i64 j ∧ wr = w0 ∧ Hid (∀ q (h : q < W.length), q < j → isWord W[q] = true)) (fun i _ => W.length - (intOf i).toNat)
  case atStart => exact ⟨0, Nat.zero_le _, rfl, rfl, Lib.hid (fun _ _ h => absurd h (Nat.not_lt_zero _))⟩
  case round =>
    obtain ⟨j, hj, rfl, rfl, hall⟩ := hrel
    by_cases hlt : j < W.length
    · obtain ⟨b, o, rfl, h0⟩ := hcell.out j hlt
      have hwd := isWordR_any (bs W[j]) wr (by rw [bs_size]; exact hm.out _ (List.getElem_mem hlt))
      rw [bs_list] at hwd
      have hk1 : (j : Int) < (W.length : Int) := by omega
      cases hq : isWord W[j] with
      | false =>
        rw [hq] at hwd
        have hwd := Lib.hid hwd
        have hbi := badIdx_of hlt hq (fun i hi hij => hall.out i hi hij)
        have hr := Lib.hid (show makeOf k W = ([], 1, (j : Int)) by rw [hmk.out, if_neg (by omega), hbi])
        obtain ⟨⟨r0, r1⟩, f0, f1⟩ := two_kept (Below.refl _ _) hrow.out
        have hfin := Lib.hid (below_set2 (n := w.heap.size) hA.out (Nat.le_refl _) (.int .i64 1) (.int .i64 (j : Int)))
        clear hbi hq
        go_wp2_with (go_at_call 130; refine hwd.out.mono ?_; rintro e w' ⟨rfl, rfl⟩)
        obtain ⟨⟨q0, q1⟩, _⟩ := two_kept (Below.refl _ _) (row_set2 hrow.out (.int .i64 1) (.int .i64 (j : Int)))
        exact bodyPost_ret (v := .tuple #[.string ⟨#[]⟩, .agg #[.int .i64 1, .int .i64 (j : Int)]]) (by simp [results, Tryz.results95, go_sem, q0, q1]) rfl ⟨by rw [hr.out]; rfl, hfin.out⟩
      | true =>
        rw [hq] at hwd
        have hwd := Lib.hid hwd
        have hall2 := Lib.hid (show ∀ q (h : q < W.length), q < j + 1 → isWord W[q] = true from fun q h h' => by
          rcases Nat.lt_succ_iff_lt_or_eq.1 h' with h' | rfl
          · exact hall.out q h h'
          · exact hq)
        clear hq
        go_wp2_with (go_at_call 130; refine hwd.out.mono ?_; rintro e w' ⟨rfl, rfl⟩)
        go_roundw
        case rel => exact ⟨j + 1, hlt, by go_num, (by first | rfl | trivial), hall2⟩
        case measure => simp [intOf]; omega
    · have hge : ¬ ((j : Int) < (W.length : Int)) := by omega
      have hbi := badIdx_none (fun i hi => hall.out i hi (by omega))
      have hws := (badIdx_iff W).1 hbi
      have hr := Lib.hid (hmk.out.trans (if_pos hbi))
      have hgl := glue_len 32 W (fun x hx => ((isWord_iff x).1 (hws x hx)).2.1)
      have hg := Lib.hid (glueR_any _ W 32 wr hv1.out (by omega))
      have hst := Lib.hid (show sealText k W = glue 32 W ++ 32 :: Lib.itoa (markOf k (glue 32 W)).1 from rfl)
      have hmo := markOf_any k (bs (glue 32 W)) wr (by rw [bs_size]; unfold maxLen; omega)
      rw [bs_list] at hmo
      have hmb := markOf_bd k (glue 32 W)
      obtain ⟨G, hG⟩ : ∃ G, glue 32 W = G := ⟨_, rfl⟩
      rw [hG] at hg hst hmo hmb hgl
      have hmo := Lib.hid hmo
      obtain ⟨⟨mk, mc⟩, hmm⟩ : ∃ m, markOf k G = m := ⟨_, rfl⟩
      rw [hmm] at hmo hmb hst
      dsimp only at hmo hmb hst
      have hdec := Lib.hid (decimal_any mk wr (by omega) (by omega))
      have hil := itoa_len10 hmb.1 (by omega)
      have hz1 : (bs G).size ≤ 1000 := by rw [bs_size]; omega
      have hz2 : (bs (Lib.itoa mk)).size ≤ 10 := by rw [bs_size]; exact hil
      have hcat := Lib.hid (show bs G ++ ⟨#[32]⟩ ++ bs (Lib.itoa mk) = bs (sealText k W) by
        rw [hst.out, show (⟨#[32]⟩ : ByteArray) = bs [32] from rfl, str_cat, str_cat, List.append_assoc]
        rfl)
      clear hbi hws hgl hG hmm hil hmb
      go_wp2_with fail
      refine hg.out.mono ?_
      rintro e w' ⟨rfl, rfl⟩
      go_wp2_with fail
      refine hmo.out.mono ?_
      rintro e w' ⟨rfl, rfl⟩
      go_wp2_with fail
      refine hdec.out.mono ?_
      rintro e w2 ⟨rfl, hb2⟩
      have hrr2 := Lib.hid (heap_down hb2 hrow.out)
      have hb2 := Lib.hid (below_trans hA.out hb2)
      go_wp2_with fail
      refine (fine_any _).mono ?_
      rintro e w3 ⟨rfl, hb3⟩
      unfold faultV
      have hrr3 := Lib.hid (heap_down hb3 hrr2.out)
      have hb3 := Lib.hid (below_trans hb2.out hb3)
      obtain ⟨⟨r0, r1⟩, f0, f1⟩ := two_kept (Below.refl _ _) hrr3.out
      have hfin := Lib.hid (below_set2 (n := w.heap.size) hb3.out (Nat.le_refl _) (.int .i64 0) (.int .i64 (-1)))
      go_wp2_with fail
      obtain ⟨⟨q0, q1⟩, _⟩ := two_kept (Below.refl _ _) (row_set2 hrr3.out (.int .i64 0) (.int .i64 (-1)))
      exact bodyPost_ret (v := .tuple #[.string (bs G ++ ⟨#[32]⟩ ++ bs (Lib.itoa mk)), .agg #[.int .i64 0, .int .i64 (-1)]]) (by simp [results, Tryz.results95, go_sem, q0, q1]) rfl ⟨by rw [hr.out, hcat.out]; rfl, hfin.out⟩

set_option maxHeartbeats 1000000 in
set_option maxRecDepth 100000 in
theorem lookR_new (s : ByteArray) (w : World) (hs : s.size ≤ 1000000) :
    Calls Tryz.prog 161 #[.string s] w fun e w' => ∃ v, e = .returned (.tuple #[v, .int .i64 (lookOf s.data.toList).2.2.1, .int .i64 ((lookOf s.data.toList).2.2.2 : Nat)]) ∧ TextsAt w' v (lookOf s.data.toList).2.1 ∧ Below w.heap.size w w' ∧ NewIn w.heap.size v := by
  have hlen : s.data.toList.length = s.size := Array.length_toList
  by_cases h4 : 4000 < s.size
  · have hr := Lib.hid (show lookOf s.data.toList = ([], [], 0, 2) by unfold lookOf; rw [if_pos (by omega)])
    clear hlen
    go_enter Tryz.func161, Tryz.ntmps161
    go_wp2_with fail
    go_ret3
    exact ⟨.slice none 0 0, by rw [hr.out]; rfl, by rw [hr.out]; exact textsAt_no _, Below.refl _ _, newIn_none _⟩
  have hcut := cut_new s 32 w hs
  have hsz : s.size ≤ 4000 := by omega
  cases hc : lastCut 32 s.data.toList with
  | none =>
    have hr := Lib.hid (show lookOf s.data.toList = ([], [], 0, 1) by unfold lookOf; rw [if_neg (by omega), hc])
    rw [cutL_none 32 _ ((lastCut_none 32 _).1 hc)] at hcut
    have hcut := Lib.hid hcut
    clear hlen hc
    go_enter Tryz.func161, Tryz.ntmps161
    go_wp2_with fail
    refine hcut.out.mono ?_
    rintro e w1 ⟨v, rfl, ⟨a, c, rfl, _, _, _⟩, hb, _⟩
    go_wp2_with fail
    go_ret3
    exact ⟨.slice none 0 0, by rw [hr.out]; rfl, by rw [hr.out]; exact textsAt_no _, hb, newIn_none _⟩
  | some x =>
    obtain ⟨h, t⟩ := x
    have hlo : lookOf s.data.toList = if (number t 1000000006).2 = false then ([], [], 0, 1) else if 10 < (cutL 32 h).length then ([], [], 0, 1) else if badIdx (cutL 32 h) = -1 then (h, cutL 32 h, (number t 1000000006).1, 0) else ([], [], 0, 1) := by
      unfold lookOf; rw [if_neg (by omega), hc]
    obtain ⟨het, _⟩ := lastCut_some 32 _ h t hc
    have htl : t.length ≤ 4000 := by have := congrArg List.length het; simp only [List.length_append, List.length_cons] at this; omega
    have hXl : ∀ x ∈ cutL 32 h, x.length ≤ 4000 := fun x hx => by
      have h1 := cutL_len 32 h x hx
      have := congrArg List.length het
      simp only [List.length_append, List.length_cons] at this
      omega
    have hX1 := cutL_length 32 h
    rw [cutL_last hc] at hcut
    have hcut := Lib.hid hcut
    generalize cutL 32 h = X at *
    have hXl := Lib.hid hXl
    have hnu := numberR_any (bs t) 1000000006
    rw [bs_list, numR_number] at hnu
    clear hlen hc het
    by_cases h10 : 10 < X.length
    · have hr := Lib.hid (show lookOf s.data.toList = ([], [], 0, 1) by
        rw [hlo]
        by_cases hn : (number t 1000000006).2 = false
        · rw [if_pos hn]
        · rw [if_neg hn, if_pos h10])
      clear hlo hnu
      go_enter Tryz.func161, Tryz.ntmps161
      go_wp2_with fail
      refine hcut.out.mono ?_
      rintro e w1 ⟨v, rfl, ⟨a, c, rfl, hm, _, _⟩, hb, _⟩
      have hl2 : (X ++ [t]).length = X.length + 1 := by simp
      rw [hl2] at hm ⊢
      unfold maxLen at hm
      clear hl2
      go_wp2_with fail
      go_ret3
      exact ⟨.slice none 0 0, by rw [hr.out]; rfl, by rw [hr.out]; exact textsAt_no _, hb, newIn_none _⟩
    have h10' : X.length ≤ 10 := by omega
    obtain ⟨⟨n, ok⟩, hnn⟩ : ∃ p, number t 1000000006 = p := ⟨_, rfl⟩
    have hn0 : ok = true → 0 ≤ n := fun e => by subst e; have := (number_true (t := t) (most := 1000000006) (by rw [hnn])).2.1; rwa [hnn] at this
    rw [hnn] at hnu hlo
    dsimp only at hnu hlo
    cases ok with
    | false =>
      have hr := Lib.hid (hlo.trans (if_pos rfl))
      have hnuH := Lib.hid (fun wx => hnu wx (by rw [bs_size]; unfold maxLen; omega))
      rw [if_neg (show ¬ (false = true) by decide)] at hnuH
      clear hlo hnn hn0 hnu
      go_enter Tryz.func161, Tryz.ntmps161
      go_wp2_with fail
      refine hcut.out.mono ?_
      rintro e w1 ⟨v, rfl, ⟨a, c, rfl, hm, _, hcell⟩, hb, _⟩
      have hl2 : (X ++ [t]).length = X.length + 1 := by simp
      obtain ⟨b, o, rfl, h0⟩ := hcell X.length (by omega)
      rw [List.getElem_append_right (Nat.le_refl _)] at h0
      simp only [Nat.sub_self, List.getElem_cons_zero] at h0
      rw [hl2] at hm ⊢
      unfold maxLen at hm
      clear hl2 hcell
      go_wp2_with fail
      refine (hnuH.out _).mono ?_
      rintro e w2 ⟨rfl, rfl⟩
      go_wp2_with fail
      go_ret3
      exact ⟨.slice none 0 0, by rw [hr.out]; rfl, by rw [hr.out]; exact textsAt_no _, hb, newIn_none _⟩
    | true =>
    have hloH := Lib.hid (show lookOf s.data.toList = if badIdx X = -1 then (h, X, n, 0) else ([], [], 0, 1) from (hlo.trans (if_neg (by decide))).trans (if_neg h10))
    have hnuH := Lib.hid (fun wx => hnu wx (by rw [bs_size]; unfold maxLen; omega))
    rw [if_pos rfl] at hnuH
    have hn0 := hn0 rfl
    clear hnn h10 hnu hlo
    go_enter Tryz.func161, Tryz.ntmps161
    go_wp2_with fail
    refine hcut.out.mono ?_
    rintro e w1 ⟨v, rfl, hTA, hb, hnw⟩
    have hTA0 := Lib.hid hTA
    obtain ⟨a, c, rfl, hm, hcc, hcell⟩ := hTA
    have hl2 : (X ++ [t]).length = X.length + 1 := by simp
    obtain ⟨b, o, rfl, h0⟩ := hcell X.length (by omega)
    rw [List.getElem_append_right (Nat.le_refl _)] at h0
    simp only [Nat.sub_self, List.getElem_cons_zero] at h0
    have hX := Lib.hid (show ∀ i (hi : i < X.length), w1.cell? ⟨b, o + i, none⟩ = some (.string (bs X[i])) from fun i hi => by
      obtain ⟨b', o', e, h5⟩ := hcell i (by omega)
      cases e
      rw [List.getElem_append_left hi] at h5
      exact h5)
    have hfin := Lib.hid (textsAt_take (m := X.length) (X := X) hTA0.out (by rw [List.take_left']; rfl) (by omega))
    rw [hl2] at hm hcc hTA0 ⊢
    unfold maxLen at hm
    have hb := Lib.hid hb
    have hnew := Lib.hid (show NewIn w.heap.size (.slice (some ⟨b, o, none⟩) X.length c) from fun a2 l2 c2 e => by
      cases e
      exact hnw _ _ _ rfl)
    clear hl2 hcell hnw
    go_wp2_with fail
    refine (hnuH.out _).mono ?_
    rintro e w2 ⟨rfl, rfl⟩
    go_wp2_with fail
    go_loopw [8] (fun i wr => ∃ j : Nat, j ≤ X.length ∧ i = .int .i64 j ∧ wr = w1 ∧ Hid (∀ q (h : q < X.length), q < j → isWord X[q] = true)) (fun i _ => X.length - (intOf i).toNat)
    case atStart => exact ⟨0, Nat.zero_le _, rfl, rfl, Lib.hid (fun _ _ h => absurd h (Nat.not_lt_zero _))⟩
    case round =>
      obtain ⟨j, hj, rfl, rfl, hall⟩ := hrel
      by_cases hlt : j < X.length
      · have h1 := hX.out j hlt
        have hwd := isWordR_any (bs X[j]) wr (by rw [bs_size]; have := hXl.out _ (List.getElem_mem hlt); unfold maxLen; omega)
        rw [bs_list] at hwd
        have hk1 : (j : Int) < (X.length : Int) := by omega
        cases hq : isWord X[j] with
        | false =>
          rw [hq] at hwd
          have hwd := Lib.hid hwd
          have hbi := badIdx_of hlt hq (fun i hi hij => hall.out i hi hij)
          have hr := Lib.hid (show lookOf s.data.toList = ([], [], 0, 1) by rw [hloH.out, if_neg (by omega)])
          clear hbi hq
          go_wp2_with (go_at_call 130; refine hwd.out.mono ?_; rintro e w' ⟨rfl, rfl⟩)
          go_ret3
          exact ⟨.slice none 0 0, by rw [hr.out]; rfl, by rw [hr.out]; exact textsAt_no _, hb.out, newIn_none _⟩
        | true =>
          rw [hq] at hwd
          have hwd := Lib.hid hwd
          have hall2 := Lib.hid (show ∀ q (h : q < X.length), q < j + 1 → isWord X[q] = true from fun q h h' => by
            rcases Nat.lt_succ_iff_lt_or_eq.1 h' with h' | rfl
            · exact hall.out q h h'
            · exact hq)
          clear hq
          go_wp2_with (go_at_call 130; refine hwd.out.mono ?_; rintro e w' ⟨rfl, rfl⟩)
          go_roundw
          case rel => exact ⟨j + 1, hlt, by go_num, (by first | rfl | trivial), hall2⟩
          case measure => simp [intOf]; omega
      · have hge : ¬ ((j : Int) < (X.length : Int)) := by omega
        have hr := Lib.hid (show lookOf s.data.toList = (h, X, n, 0) by rw [hloH.out, if_pos (badIdx_none (fun i hi => hall.out i hi (by omega)))])
        go_wp2_with fail
        go_ret3
        exact ⟨.slice (some ⟨b, o, none⟩) X.length c, by rw [hr.out]; rfl, by rw [hr.out]; exact hfin.out, hb.out, hnew.out⟩
theorem lookR_any (s : ByteArray) (w : World) (hs : s.size ≤ 1000000) :
    Calls Tryz.prog 161 #[.string s] w fun e w' => ∃ v, e = .returned (.tuple #[v, .int .i64 (lookOf s.data.toList).2.2.1, .int .i64 ((lookOf s.data.toList).2.2.2 : Nat)]) ∧ TextsAt w' v (lookOf s.data.toList).2.1 ∧ Below w.heap.size w w' :=
  (lookR_new s w hs).mono fun _ _ ⟨v, h1, h2, h3, _⟩ => ⟨v, h1, h2, h3⟩
set_option maxHeartbeats 1000000 in
set_option maxRecDepth 100000 in
theorem openR_any (k : Int) (s : ByteArray) (w : World) (hs : s.size ≤ 1000000) :
    Calls Tryz.prog 123 #[.int .i64 k, .string s] w fun e w' => ∃ v, e = .returned (.tuple #[v, .int .i64 ((openOf k s.data.toList).2 : Nat)]) ∧ TextsAt w' v (openOf k s.data.toList).1 ∧ Below w.heap.size w w' := by
  by_cases hk : isKey k = true
  case neg =>
    have hk : isKey k = false := by simpa using hk
    have hr := Lib.hid (show openOf k s.data.toList = ([], 10) by unfold openOf; rw [if_pos hk])
    go_enter Tryz.func123, Tryz.ntmps123
    go_wp2_with (go_at_call 35; refine (isKey_any _ _).mono ?_; rintro e w' ⟨rfl, rfl⟩)
    go_ret2
    exact ⟨.slice none 0 0, by rw [hr.out]; rfl, by rw [hr.out]; exact textsAt_no _, Below.refl _ _⟩
  have hl := Lib.hid (lookR_any s w hs)
  have ho := Lib.hid (show openOf k s.data.toList = if (lookOf s.data.toList).2.2.2 = 0 then (if rightOf k (lookOf s.data.toList).1 (lookOf s.data.toList).2.2.1 = 0 then ((lookOf s.data.toList).2.1, 0) else ([], rightOf k (lookOf s.data.toList).1 (lookOf s.data.toList).2.2.1)) else ([], (lookOf s.data.toList).2.2.2) by unfold openOf; rw [if_neg (by rw [hk]; decide)])
  have hlen : (lookOf s.data.toList).1.length ≤ 1000000 := by
    have := lookOf_len s.data.toList
    have hl : s.data.toList.length = s.size := Array.length_toList
    omega
  have hgl := lookOf_glue s.data.toList
  generalize lookOf s.data.toList = q at *
  obtain ⟨hd, W, n, c⟩ := q
  dsimp only at *
  cases c with
  | succ c =>
    have hr := Lib.hid (show openOf k s.data.toList = ([], c + 1) by rw [ho.out, if_neg (by omega)])
    clear hlen hgl
    go_enter Tryz.func123, Tryz.ntmps123
    go_wp2_with (go_at_call 35; refine (isKey_any _ _).mono ?_; rintro e w' ⟨rfl, rfl⟩)
    refine hl.out.mono ?_
    rintro e w1 ⟨v, rfl, hv, hb⟩
    go_wp2_with fail
    go_ret2
    exact ⟨.slice none 0 0, by rw [hr.out]; rfl, by rw [hr.out]; exact textsAt_no _, hb⟩
  | zero =>
    have ho2 := Lib.hid (show openOf k s.data.toList = if rightOf k hd n = 0 then (W, 0) else ([], rightOf k hd n) by rw [ho.out]; rfl)
    clear ho
    have hgl := hgl rfl
    have hri := Lib.hid (fun wx => markError_any k n (bs hd) wx (by rw [bs_size]; unfold maxLen; omega))
    have hglu := Lib.hid (fun wx v (hv : TextsAt wx v W) => glueR_any v W 32 wx hv (by rw [hgl]; exact hlen))
    rw [hgl] at hglu
    clear hgl
    go_enter Tryz.func123, Tryz.ntmps123
    go_wp2_with (go_at_call 35; refine (isKey_any _ _).mono ?_; rintro e w' ⟨rfl, rfl⟩)
    refine hl.out.mono ?_
    rintro e w1 ⟨v, rfl, hv, hb⟩
    have hv := Lib.hid hv
    have hb := Lib.hid hb
    go_wp2_with fail
    refine (hglu.out _ _ hv.out).mono ?_
    rintro e w2 ⟨rfl, rfl⟩
    go_wp2_with fail
    refine (hri.out _).mono ?_
    rintro e w2 ⟨rfl, rfl⟩
    rw [bs_list]
    cases hq : rightOf k hd n with
    | zero =>
      have hr := Lib.hid (show openOf k s.data.toList = (W, 0) by rw [ho2.out, if_pos hq])
      clear hq
      go_wp2_with fail
      go_ret2
      exact ⟨v, by rw [hr.out]; rfl, by rw [hr.out]; exact hv.out, hb.out⟩
    | succ c =>
      have hr := Lib.hid (show openOf k s.data.toList = ([], c + 1) by rw [ho2.out, hq, if_neg (Nat.succ_ne_zero c)])
      clear hq
      go_wp2_with fail
      go_ret2
      exact ⟨.slice none 0 0, by rw [hr.out]; rfl, by rw [hr.out]; exact textsAt_no _, hb.out⟩

end Go.Proofs.YtkhphdkjnpcnnaaGreatDoor
