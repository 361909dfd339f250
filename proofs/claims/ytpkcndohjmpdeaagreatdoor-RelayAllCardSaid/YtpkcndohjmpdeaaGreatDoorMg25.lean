/- RefW4, RefE4 -/
import Derived.Test.YtpkcndohjmpdeaaGreatDoorMg24
import Derived.Test.YtpkcndohjmpdeaaGreatDoorMg3
import Derived.Test.YtpkcndohjmpdeaaGreatDoorMg13
import Derived.Test.YtpkcndohjmpdeaaGreatDoorMg6
import Derived.Test.YtpkcndohjmpdeaaGreatDoorMg15
/- The reference's seal: SealOf, LookAt, Unseal. -/
namespace Go.Proofs.YtpkcndohjmpdeaaGreatDoor
open Go.RowKit

def faultV (c a : Int) : Value := .agg #[.int .i64 c, .int .i64 a]
set_option maxRecDepth 100000 in
theorem bare_any (c : Int) (w : World) :
    Calls Tryz.prog 62 #[.int .i64 c] w fun e w' => e = .returned (faultV c (-1)) ∧ Below w.heap.size w w' := by
  go_enter Tryz.func62, Tryz.ntmps62
  go_wp2_with fail
  exact bodyPost_ret (v := .agg #[.int .i64 c, .int .i64 (-1)]) (by simp [results, Tryz.results62, go_sem]) rfl ⟨rfl, (Below.refl _ _).alloc (Nat.le_refl _) _⟩
set_option maxRecDepth 100000 in
theorem fine_any (w : World) :
    Calls Tryz.prog 89 #[] w fun e w' => e = .returned (faultV 0 (-1)) ∧ Below w.heap.size w w' := by
  go_enter Tryz.func89, Tryz.ntmps89
  go_wp2_with fail
  exact bodyPost_ret (v := .agg #[.int .i64 0, .int .i64 (-1)]) (by simp [results, Tryz.results89, go_sem]) rfl ⟨rfl, (Below.refl _ _).alloc (Nat.le_refl _) _⟩
theorem textsAt_no (w : World) : TextsAt w (.slice none 0 0) [] := ⟨none, 0, rfl, Nat.zero_le _, Nat.zero_le _, fun i hi => by cases hi⟩
theorem textsAt_take {w : World} {a : Option Addr} {c m : Nat} {L X : List (List UInt8)} (h : TextsAt w (.slice a L.length c) L) (hX : L.take m = X) (hm : m ≤ L.length) : TextsAt w (.slice a m c) X := by
  subst hX
  obtain ⟨a', c', he, h2, h3, h4⟩ := h
  cases he
  have hl : (L.take m).length = m := by rw [List.length_take]; omega
  refine ⟨a, c, by rw [hl], by omega, by omega, fun i hi => ?_⟩
  obtain ⟨b, o, h5, h6⟩ := h4 i (by omega)
  exact ⟨b, o, h5, by rw [List.getElem_take]; exact h6⟩
theorem lookOf_glue (s : List UInt8) (h : (lookOf s).2.2.2 = 0) : glue 32 (lookOf s).2.1 = (lookOf s).1 := by
  unfold lookOf at h ⊢
  by_cases h4 : 4000 < s.length
  · rw [if_pos h4] at h; cases h
  rw [if_neg h4] at h ⊢
  cases hc : lastCut 32 s with
  | none => rw [hc] at h; cases h
  | some x =>
    obtain ⟨hd, t⟩ := x
    rw [hc] at h
    dsimp only at h ⊢
    by_cases hn : (number t 1000000006).2 = false
    · rw [if_pos hn] at h; cases h
    rw [if_neg hn] at h ⊢
    by_cases h10 : 10 < (cutL 32 hd).length
    · rw [if_pos h10] at h; cases h
    rw [if_neg h10] at h ⊢
    by_cases hb : badIdx (cutL 32 hd) = -1
    case neg => rw [if_neg hb] at h; cases h
    rw [if_pos hb]
    exact glue_cut 32 hd
/-- What SealOf answers, as a value. -/
def sealV (q : List UInt8 × Nat × Int) : Value := .tuple #[.string (bs q.1), faultV q.2.1 q.2.2]
theorem sealR_key (k : Int) (v : Value) (W : List (List UInt8)) (w : World) (hk : isKey k = false) :
    Calls Tryz.prog 64 #[.int .i64 k, v] w fun e w' => e = .returned (sealV (makeOf k W)) ∧ Below w.heap.size w w' := by
  have hA : Below w.heap.size w (w.alloc (.cells #[.int .i64 0, .int .i64 0] 91)) := (Below.refl _ _).alloc (Nat.le_refl _) _
  have hrow := heap_alloc_new w (.cells #[.int .i64 0, .int .i64 0] 91)
  have hr := Lib.hid (show makeOf k W = ([], 10, -1) by unfold makeOf; rw [if_pos hk])
  have hrow := Lib.hid hrow
  go_enter Tryz.func64, Tryz.ntmps64
  go_wp2_with (go_at_call 61; refine (isKey_any _ _).mono ?_; rintro e w' ⟨rfl, rfl⟩)
  refine (bare_any 10 _).mono ?_
  rintro e w1 ⟨rfl, hb1⟩
  unfold faultV
  have hrr := Lib.hid (heap_down hb1 hrow.out)
  have hb1 := Lib.hid (below_trans hA hb1)
  obtain ⟨⟨r0, r1⟩, f0, f1⟩ := two_kept (Below.refl _ _) hrr.out
  have hfin := Lib.hid (below_set2 (n := w.heap.size) hb1.out (Nat.le_refl _) (.int .i64 10) (.int .i64 (-1)))
  go_wp2_with fail
  obtain ⟨⟨q0, q1⟩, _⟩ := two_kept (Below.refl _ _) (row_set2 hrr.out (.int .i64 10) (.int .i64 (-1)))
  exact bodyPost_ret (v := .tuple #[.string ⟨#[]⟩, .agg #[.int .i64 10, .int .i64 (-1)]]) (by simp [results, Tryz.results64, go_sem, q0, q1]) rfl ⟨by rw [hr.out]; rfl, hfin.out⟩
set_option maxHeartbeats 1000000 in
set_option maxRecDepth 100000 in
theorem sealR_any (k : Int) (v : Value) (W : List (List UInt8)) (w : World) (hv : TextsAt w v W) (hm : ∀ x ∈ W, x.length ≤ maxLen) :
    Calls Tryz.prog 64 #[.int .i64 k, v] w fun e w' => e = .returned (sealV (makeOf k W)) ∧ Below w.heap.size w w' := by
  cases hk : isKey k with
  | false => exact sealR_key k v W w hk
  | true =>
  have hA : Below w.heap.size w (w.alloc (.cells #[.int .i64 0, .int .i64 0] 91)) := (Below.refl _ _).alloc (Nat.le_refl _) _
  have hrow := Lib.hid (heap_alloc_new w (.cells #[.int .i64 0, .int .i64 0] 91))
  have hv1 := Lib.hid (hv.below hA)
  have hm := Lib.hid hm
  have hmk : makeOf k W = if W.length = 0 ∨ 10 < W.length then ([], 3, -1) else if badIdx W = -1 then (sealText k W, 0, -1) else ([], 1, badIdx W) := by unfold makeOf; rw [if_neg (by rw [hk]; decide)]
  by_cases hl : W.length = 0 ∨ 10 < W.length
  · have hr := Lib.hid (hmk.trans (if_pos hl))
    obtain ⟨a, c, rfl, hlen, hcap, hcell⟩ := hv
    unfold maxLen at hlen
    clear hmk hcell
    rcases hl with hl | hl
    all_goals
      go_enter Tryz.func64, Tryz.ntmps64
      go_wp2_with (go_at_call 61; refine (isKey_any _ _).mono ?_; rintro e w' ⟨rfl, rfl⟩)
      refine (bare_any 3 _).mono ?_
      rintro e w1 ⟨rfl, hb1⟩
      unfold faultV
      have hrr := Lib.hid (heap_down hb1 hrow.out)
      have hb1 := Lib.hid (below_trans hA hb1)
      obtain ⟨⟨r0, r1⟩, f0, f1⟩ := two_kept (Below.refl _ _) hrr.out
      have hfin := Lib.hid (below_set2 (n := w.heap.size) hb1.out (Nat.le_refl _) (.int .i64 3) (.int .i64 (-1)))
      go_wp2_with fail
      obtain ⟨⟨q0, q1⟩, _⟩ := two_kept (Below.refl _ _) (row_set2 hrr.out (.int .i64 3) (.int .i64 (-1)))
      exact bodyPost_ret (v := .tuple #[.string ⟨#[]⟩, .agg #[.int .i64 3, .int .i64 (-1)]]) (by simp [results, Tryz.results64, go_sem, q0, q1]) rfl ⟨by rw [hr.out]; rfl, hfin.out⟩
  have hmk := Lib.hid (hmk.trans (if_neg hl))
  have h1 : 1 ≤ W.length := by omega
  have h10 : W.length ≤ 10 := by omega
  obtain ⟨a, c, rfl, hlen, hcap, hcell⟩ := id hv1.out
  have hcell := Lib.hid hcell
  clear hlen hl hv
  go_enter Tryz.func64, Tryz.ntmps64
  go_wp2_with (go_at_call 61; refine (isKey_any _ _).mono ?_; rintro e w' ⟨rfl, rfl⟩)
  generalize (w.alloc (.cells #[.int .i64 0, .int .i64 0] 91)) = w0 at *
  have hA := Lib.hid hA
  go_loopw [7] (fun i wr => ∃ j : Nat, j ≤ W.length ∧ i = .int .i64 j ∧ wr = w0 ∧ Hid (∀ q (h : q < W.length), q < j → isWord W[q] = true)) (fun i _ => W.length - (intOf i).toNat)
  case atStart => exact ⟨0, Nat.zero_le _, rfl, rfl, Lib.hid (fun _ _ h => absurd h (Nat.not_lt_zero _))⟩
  case round =>
    obtain ⟨j, hj, rfl, rfl, hall⟩ := hrel
    by_cases hlt : j < W.length
    · obtain ⟨b, o, rfl, h0⟩ := hcell.out j hlt
      have hwd := isWordR_any (bs W[j]) wr (by rw [bs_size]; exact hm.out _ (List.getElem_mem hlt))
      rw [bs_list] at hwd
      have hk1 : (j : Int) < (W.length : Int) := by omega
      cases hq : isWord W[j] with
      | false =>
        rw [hq] at hwd
        have hwd := Lib.hid hwd
        have hbi := badIdx_of hlt hq (fun i hi hij => hall.out i hi hij)
        have hr := Lib.hid (show makeOf k W = ([], 1, (j : Int)) by rw [hmk.out, if_neg (by omega), hbi])
        obtain ⟨⟨r0, r1⟩, f0, f1⟩ := two_kept (Below.refl _ _) hrow.out
        have hfin := Lib.hid (below_set2 (n := w.heap.size) hA.out (Nat.le_refl _) (.int .i64 1) (.int .i64 (j : Int)))
        clear hbi hq
        go_wp2_with (go_at_call 86; refine hwd.out.mono ?_; rintro e w' ⟨rfl, rfl⟩)
        obtain ⟨⟨q0, q1⟩, _⟩ := two_kept (Below.refl _ _) (row_set2 hrow.out (.int .i64 1) (.int .i64 (j : Int)))
        exact bodyPost_ret (v := .tuple #[.string ⟨#[]⟩, .agg #[.int .i64 1, .int .i64 (j : Int)]]) (by simp [results, Tryz.results64, go_sem, q0, q1]) rfl ⟨by rw [hr.out]; rfl, hfin.out⟩
      | true =>
        rw [hq] at hwd
        have hwd := Lib.hid hwd
        have hall2 := Lib.hid (show ∀ q (h : q < W.length), q < j + 1 → isWord W[q] = true from fun q h h' => by
          rcases Nat.lt_succ_iff_lt_or_eq.1 h' with h' | rfl
          · exact hall.out q h h'
          · exact hq)
        clear hq
        go_wp2_with (go_at_call 86; refine hwd.out.mono ?_; rintro e w' ⟨rfl, rfl⟩)
        go_roundw
        case rel => exact ⟨j + 1, hlt, by go_num, (by first | rfl | trivial), hall2⟩
        case measure => simp [intOf]; omega
    · have hge : ¬ ((j : Int) < (W.length : Int)) := by omega
      have hbi := badIdx_none (fun i hi => hall.out i hi (by omega))
      have hws := (badIdx_iff W).1 hbi
      have hr := Lib.hid (hmk.out.trans (if_pos hbi))
      have hgl := glue_len 32 W (fun x hx => ((isWord_iff x).1 (hws x hx)).2.1)
      have hg := Lib.hid (glueR_any _ W 32 wr hv1.out (by omega))
      have hst := Lib.hid (show sealText k W = glue 32 W ++ 32 :: Lib.itoa (markOf k (glue 32 W)).1 from rfl)
      have hmo := markOf_any k (bs (glue 32 W)) wr (by rw [bs_size]; unfold maxLen; omega)
      rw [bs_list] at hmo
      have hmb := markOf_bd k (glue 32 W)
      obtain ⟨G, hG⟩ : ∃ G, glue 32 W = G := ⟨_, rfl⟩
      rw [hG] at hg hst hmo hmb hgl
      have hmo := Lib.hid hmo
      obtain ⟨⟨mk, mc⟩, hmm⟩ : ∃ m, markOf k G = m := ⟨_, rfl⟩
      rw [hmm] at hmo hmb hst
      dsimp only at hmo hmb hst
      have hdec := Lib.hid (decimal_any mk wr (by omega) (by omega))
      have hil := itoa_len10 hmb.1 (by omega)
      have hz1 : (bs G).size ≤ 1000 := by rw [bs_size]; omega
      have hz2 : (bs (Lib.itoa mk)).size ≤ 10 := by rw [bs_size]; exact hil
      have hcat := Lib.hid (show bs G ++ ⟨#[32]⟩ ++ bs (Lib.itoa mk) = bs (sealText k W) by
        rw [hst.out, show (⟨#[32]⟩ : ByteArray) = bs [32] from rfl, str_cat, str_cat, List.append_assoc]
        rfl)
      clear hbi hws hgl hG hmm hil hmb
      go_wp2_with fail
      refine hg.out.mono ?_
      rintro e w' ⟨rfl, rfl⟩
      go_wp2_with fail
      refine hmo.out.mono ?_
      rintro e w' ⟨rfl, rfl⟩
      go_wp2_with fail
      refine hdec.out.mono ?_
      rintro e w2 ⟨rfl, hb2⟩
      have hrr2 := Lib.hid (heap_down hb2 hrow.out)
      have hb2 := Lib.hid (below_trans hA.out hb2)
      go_wp2_with fail
      refine (fine_any _).mono ?_
      rintro e w3 ⟨rfl, hb3⟩
      unfold faultV
      have hrr3 := Lib.hid (heap_down hb3 hrr2.out)
      have hb3 := Lib.hid (below_trans hb2.out hb3)
      obtain ⟨⟨r0, r1⟩, f0, f1⟩ := two_kept (Below.refl _ _) hrr3.out
      have hfin := Lib.hid (below_set2 (n := w.heap.size) hb3.out (Nat.le_refl _) (.int .i64 0) (.int .i64 (-1)))
      go_wp2_with fail
      obtain ⟨⟨q0, q1⟩, _⟩ := two_kept (Below.refl _ _) (row_set2 hrr3.out (.int .i64 0) (.int .i64 (-1)))
      exact bodyPost_ret (v := .tuple #[.string (bs G ++ ⟨#[32]⟩ ++ bs (Lib.itoa mk)), .agg #[.int .i64 0, .int .i64 (-1)]]) (by simp [results, Tryz.results64, go_sem, q0, q1]) rfl ⟨by rw [hr.out, hcat.out]; rfl, hfin.out⟩

end Go.Proofs.YtpkcndohjmpdeaaGreatDoor

/- The reference's feeds: HeadOf: walked. -/
namespace Go.Proofs.YtpkcndohjmpdeaaGreatDoor
open Go.RowKit

/-- What is answered: a text, a fault. -/
def HeadRes (r : List UInt8 × Nat × Int) (e : Ending) : Prop := e = .returned (.tuple #[.string (bs r.1), faultF r.2.1 r.2.2])
theorem HeadRes.mk {r : List UInt8 × Nat × Int} {L : List UInt8} {c : Nat} {a z : Int} {x : ByteArray} (hr : r = (L, c, a)) (hx : x = bs L) (hz : z = (c : Int)) : HeadRes r (.returned (.tuple #[.string x, .agg #[.int .i64 z, .int .i64 a]])) := by
  subst hr hx hz
  rfl
set_option maxHeartbeats 8000000 in
set_option maxRecDepth 100000 in
theorem headR_any (k : Int) (v : Value) (L : List Ent) (time : Int) (w : World) (hv : EntsAt w v L) (hm : ∀ e ∈ L, e.f.who.length ≤ maxLen) :
    Calls Tryz.prog 44 #[.int .i64 k, v, .int .i64 time] w fun e w' => HeadRes (headOf k L time) e ∧ Below w.heap.size w w' := by
  have hB0 : FBox w (w.alloc (.cells #[.int .i64 0, .int .i64 0] 91)) := ⟨heap_alloc_new w _, (Below.refl _ _).alloc (Nat.le_refl _) _⟩
  have hB0H := Lib.hid hB0
  by_cases hk : isKey k = true
  case neg =>
    have hk : isKey k = false := by simpa using hk
    have hr := Lib.hid (show headOf k L time = ([], 10, -1) by unfold headOf; rw [if_pos hk])
    have hba := Lib.hid (bareF_any 10 (w.alloc (.cells #[.int .i64 0, .int .i64 0] 91)))
    clear hv hm hB0
    go_enter Tryz.func44, Tryz.ntmps44
    go_wp2_with (go_at_call 61; refine (isKey_any _ _).mono ?_; rintro e w' ⟨rfl, rfl⟩)
    refine hba.out.mono ?_
    rintro e w1 ⟨rfl, hb1⟩
    have hB1 := hB0H.out.below hb1
    obtain ⟨⟨r0, r1⟩, f0, f1⟩ := hB1.cells
    have hfl := Lib.hid (hB1.set (.int .i64 10) (.int .i64 (-1)))
    clear hb1 hB1
    go_wp2_with fail
    exact bodyPost_ret (v := .tuple #[.string ⟨#[]⟩, .agg #[.int .i64 10, .int .i64 (-1)]]) (by simp [results, Tryz.results44, go_sem, hfl.out.1]) rfl ⟨HeadRes.mk hr.out rfl rfl, hfl.out.2⟩
  have hfl := Lib.hid (floorsR_ent v L (w.alloc (.cells #[.int .i64 0, .int .i64 0] 91)) (AtG.below hv hB0.2) hm)
  have hkH := Lib.hid hk
  have hprev := fun q (hq : L.length = q + 1) => (show ∃ b o c, v = .slice (some ⟨b, o, none⟩) L.length c ∧ w.cell? ⟨b, o + q * 4 + 1, none⟩ = some (.int .i64 (wasE L L.length)) from by
    obtain ⟨a, c, rfl, _, _, hc⟩ := EntsAt.get hv
    obtain ⟨b', o', rfl, _, p1, _⟩ := hc q (by omega)
    refine ⟨b', o', c, rfl, ?_⟩
    rw [p1]
    unfold wasE
    rw [if_neg (by omega), show L.length - 1 = q by omega, getD_get (by omega)])
  obtain ⟨a0, c0, hv0⟩ := AtG.sl hv
  have hlen := AtG.len hv
  unfold maxLen at hlen
  clear hB0
  by_cases hf : (floorsE L).2.1 = 0
  case neg =>
    have hr := headOf_err (time := time) hk hf
    obtain ⟨O, z, a1, hza⟩ : ∃ O z a1, floorsE L = (O, z, a1) := ⟨_, _, _, rfl⟩
    have hfl := hfl.out
    unfold RaiRes at hfl
    rw [hza] at hfl hr hf
    dsimp only [faultF] at hfl hr hf
    have hr := Lib.hid hr
    have hz1 : (0 : Int) < (z : Int) := by omega
    generalize hzd : (z : Int) = zi at *
    have hzd := Lib.hid hzd
    have hfl := Lib.hid hfl
    subst hv0
    clear hf hprev hv hm hza
    go_enter Tryz.func44, Tryz.ntmps44
    go_wp2_with (go_at_call 61; refine (isKey_any _ _).mono ?_; rintro e w' ⟨rfl, rfl⟩)
    refine hfl.out.mono ?_
    rintro e w1 ⟨⟨v9, rfl, hv9⟩, hb1⟩
    obtain ⟨a9, c9, hs9, _⟩ := hv9
    subst hs9
    have hB1 := (hB0H.out.below hb1).below ((Below.refl _ _).alloc (Nat.le_refl _) (.cells #[.int .i64 zi, .int .i64 a1] 91))
    obtain ⟨⟨r0, r1⟩, f0, f1⟩ := hB1.cells
    have hB1H := Lib.hid hB1
    clear hb1 hB1
    go_wp2_with fail
    go_region
    all_goals
      go_wp2_with fail
      have hR := hB1H.out.set (.int .i64 zi) (.int .i64 a1)
      have hR0 := set2_first hB1H.out.1 (.int .i64 zi)
      exact bodyPost_ret (v := .tuple #[.string ⟨#[]⟩, .agg #[.int .i64 zi, .int .i64 a1]]) (by simp [results, Tryz.results44, go_sem, hR.1, hR0]) rfl ⟨HeadRes.mk hr.out rfl hzd.out.symm, hR.2.drew⟩
  obtain ⟨_, _, hfe, hgd⟩ := floorsE_zero hf
  have hl60 := (checkE_zero (L := L) (by rw [(floorsE_zero hf).1])).1
  have hwas0 : L.length = 0 → wasE L L.length = 0 := fun h => by unfold wasE; rw [if_pos h]
  have hrT := Lib.hid (fun h => headOf_time (time := time) hk hf h)
  have hrK := Lib.hid (fun h => headOf_ok (time := time) hk hf h)
  have hfl := hfl.out
  unfold RaiRes at hfl
  have hF2 : floorsE L = ((floorsE L).1, 0, -1) := by rw [hfe]
  have hsum := fun (u : Value) wx (hx : FloorsAt wx u (floorsE L).1) => sumR_flo u (floorsE L).1 wx hx (fun f h => who_len ((floorsE_good hf).g.one f h))
  have hsd := sumF_bd (floorsE L).1
  rw [show (floorsE L).2 = (0, -1) by rw [hfe]] at hfl
  dsimp only [faultF] at hfl
  have hwords := Lib.hid (fun (h0 : 0 ≤ time) (h1 : time ≤ 1000000) => headWords_words (n := (L.length : Int)) (time := time) (sum := sumF (floorsE L).1) (by omega) (by omega) hsd)
  generalize (floorsE L).1 = O at *
  generalize wasE L L.length = was at *
  generalize sumF O = sm at *
  have hfl := Lib.hid hfl
  have hsum := Lib.hid hsum
  obtain ⟨n, hn⟩ : ∃ n, L.length = n := ⟨_, rfl⟩
  rw [hn] at hv0 hprev hl60 hrK hwords hwas0 hlen
  clear hf hm hv hn hfe hF2 hgd
  by_cases ht : time < 0 ∨ 1000000 < time ∨ time < was
  · have hr := Lib.hid (hrT.out ht)
    clear hrT hrK hwords hsum hsd
    by_cases ht0 : time < 0
    · clear hprev hwas0 ht
      subst hv0
      go_enter Tryz.func44, Tryz.ntmps44
      go_wp2_with (go_at_call 61; refine (isKey_any _ _).mono ?_; rintro e w' ⟨rfl, rfl⟩)
      refine hfl.out.mono ?_
      rintro e w1 ⟨⟨v9, rfl, hv9⟩, hb1⟩
      have hv9H := Lib.hid hv9
      obtain ⟨a9, c9, hs9, _⟩ := hv9
      subst hs9
      have hB1 := hB0H.out.below hb1
      have hB1A := Lib.hid (fun o => hB1.below ((Below.refl _ _).alloc (Nat.le_refl _) o))
      clear hB1
      have hba := Lib.hid (fun wx => bareF_any 2 wx)
      clear hb1
      go_wp2_with fail
      refine (hba.out _).mono ?_
      rintro e w2 ⟨rfl, hb2⟩
      have hB2 := (hB1A.out _).below hb2
      obtain ⟨⟨r0, r1⟩, f0, f1⟩ := hB2.cells
      have hset := Lib.hid (hB2.set (.int .i64 2) (.int .i64 (-1)))
      clear hb2 hB2
      go_wp2_with fail
      exact bodyPost_ret (v := .tuple #[.string ⟨#[]⟩, .agg #[.int .i64 2, .int .i64 (-1)]]) (by simp [results, Tryz.results44, go_sem, hset.out.1]) rfl ⟨HeadRes.mk hr.out rfl rfl, hset.out.2⟩
    by_cases ht1 : 1000000 < time
    · clear hprev hwas0 ht
      subst hv0
      go_enter Tryz.func44, Tryz.ntmps44
      go_wp2_with (go_at_call 61; refine (isKey_any _ _).mono ?_; rintro e w' ⟨rfl, rfl⟩)
      refine hfl.out.mono ?_
      rintro e w1 ⟨⟨v9, rfl, hv9⟩, hb1⟩
      have hv9H := Lib.hid hv9
      obtain ⟨a9, c9, hs9, _⟩ := hv9
      subst hs9
      have hB1 := hB0H.out.below hb1
      have hB1A := Lib.hid (fun o => hB1.below ((Below.refl _ _).alloc (Nat.le_refl _) o))
      clear hB1
      have hba := Lib.hid (fun wx => bareF_any 2 wx)
      clear hb1
      go_wp2_with fail
      refine (hba.out _).mono ?_
      rintro e w2 ⟨rfl, hb2⟩
      have hB2 := (hB1A.out _).below hb2
      obtain ⟨⟨r0, r1⟩, f0, f1⟩ := hB2.cells
      have hset := Lib.hid (hB2.set (.int .i64 2) (.int .i64 (-1)))
      clear hb2 hB2
      go_wp2_with fail
      exact bodyPost_ret (v := .tuple #[.string ⟨#[]⟩, .agg #[.int .i64 2, .int .i64 (-1)]]) (by simp [results, Tryz.results44, go_sem, hset.out.1]) rfl ⟨HeadRes.mk hr.out rfl rfl, hset.out.2⟩
    · have ht2 : time < was := by omega
      have hn0 : n ≠ 0 := fun h => by have := hwas0 h; omega
      obtain ⟨q, rfl⟩ : ∃ q, n = q + 1 := ⟨n - 1, by omega⟩
      obtain ⟨b, o, c, hv1, p1⟩ := hprev q rfl
      clear hprev hwas0 ht hn0 hv0
      subst hv1
      have p1H := Lib.hid p1
      have hq0 : (0 : Int) ≤ (q : Int) := by omega
      have hq1 : (q : Int) < (q : Int) + 1 := by omega
      clear p1
      go_enter Tryz.func44, Tryz.ntmps44
      go_wp2_with (go_at_call 61; refine (isKey_any _ _).mono ?_; rintro e w' ⟨rfl, rfl⟩)
      refine hfl.out.mono ?_
      rintro e w1 ⟨⟨v9, rfl, hv9⟩, hb1⟩
      have hv9H := Lib.hid hv9
      obtain ⟨a9, c9, hs9, _⟩ := hv9
      subst hs9
      have hB1 := hB0H.out.below hb1
      have hB1A := Lib.hid (fun o => hB1.below ((Below.refl _ _).alloc (Nat.le_refl _) o))
      clear hB1
      have hba := Lib.hid (fun wx => bareF_any 2 wx)
      have p1 := fun o => cell_below (below_trans (hB1A.out o).2 (Below.refl _ _)) p1H.out
      have p1 := p1 (.cells #[.int .i64 0, .int .i64 (-1)] 91)
      clear hb1
      go_wp2_with fail
      refine (hba.out _).mono ?_
      rintro e w2 ⟨rfl, hb2⟩
      have hB2 := (hB1A.out _).below hb2
      obtain ⟨⟨r0, r1⟩, f0, f1⟩ := hB2.cells
      have hset := Lib.hid (hB2.set (.int .i64 2) (.int .i64 (-1)))
      clear hb2 hB2
      go_wp2_with fail
      exact bodyPost_ret (v := .tuple #[.string ⟨#[]⟩, .agg #[.int .i64 2, .int .i64 (-1)]]) (by simp [results, Tryz.results44, go_sem, hset.out.1]) rfl ⟨HeadRes.mk hr.out rfl rfl, hset.out.2⟩
  have hr := Lib.hid (hrK.out ht)
  have ht0 : ¬ time < 0 := fun h => ht (.inl h)
  have ht1 : ¬ 1000000 < time := fun h => ht (.inr (.inl h))
  have ht2 : ¬ time < was := fun h => ht (.inr (.inr h))
  have hwords := Lib.hid (hwords.out (by omega) (by omega))
  have hnews := Lib.hid (fun (x : World) => textsAt_of (AtG.newL (C := strC) x (headWords n time sm) 9 (cs := #[.string ⟨#[104, 101, 97, 100]⟩, .string (bs (Lib.itoa n)), .string (bs (Lib.itoa time)), .string (bs (Lib.itoa sm))]) rfl (by unfold maxLen; simp [headWords])))
  have hd1 := Lib.hid (fun wx => decimal_any (n : Int) wx (by omega) (by omega))
  have hd2 := Lib.hid (fun wx => decimal_any time wx (by omega) (by omega))
  have hd3 := Lib.hid (fun wx => decimal_any sm wx (by omega) (by omega))
  have hse := fun vx wx (hvx : TextsAt wx vx (headWords n time sm)) => sealR_any k vx (headWords n time sm) wx hvx (fun x hx => by have := ((isWord_iff x).1 (hwords.out x hx)).2.1; unfold maxLen; omega)
  rw [makeOf_good hkH.out (by simp [headWords]) (by simp [headWords]) hwords.out] at hse
  unfold sealV faultV at hse
  dsimp only at hse
  have hse := Lib.hid hse
  have hwl : headWords n time sm = headWords n time sm := rfl
  clear hrT hrK ht hsd hwl
  by_cases hn0 : n = 0
  · subst hn0
    clear hprev hwas0
    subst hv0
    go_enter Tryz.func44, Tryz.ntmps44
    go_wp2_with (go_at_call 61; refine (isKey_any _ _).mono ?_; rintro e w' ⟨rfl, rfl⟩)
    refine hfl.out.mono ?_
    rintro e w1 ⟨⟨v9, rfl, hv9⟩, hb1⟩
    have hv9H := Lib.hid hv9
    obtain ⟨a9, c9, hs9, _⟩ := hv9
    subst hs9
    have hB1 := hB0H.out.below hb1
    have hB1A := Lib.hid (fun o => hB1.below ((Below.refl _ _).alloc (Nat.le_refl _) o))
    clear hB1
    have hv9A := Lib.hid (fun o => hv9H.out.below ((Below.refl _ _).alloc (Nat.le_refl _) o))
    clear hb1
    go_wp2_with fail
    refine (hd1.out _).mono ?_
    rintro e w2 ⟨rfl, hb2⟩
    have hB2 := Lib.hid ((hB1A.out _).below hb2)
    have hv2 := Lib.hid ((hv9A.out _).below hb2)
    clear hb2
    go_wp2_with fail
    refine (hd2.out _).mono ?_
    rintro e w3 ⟨rfl, hb3⟩
    have hB3 := Lib.hid (hB2.out.below hb3)
    have hv3 := Lib.hid (hv2.out.below hb3)
    clear hb3
    go_wp2_with fail
    refine (hsum.out _ _ hv3.out).mono ?_
    rintro e w4 ⟨rfl, hb4⟩
    have hB4 := Lib.hid (hB3.out.below hb4)
    clear hb4
    go_wp2_with fail
    refine (hd3.out _).mono ?_
    rintro e w5 ⟨rfl, hb5⟩
    have hB5 := Lib.hid (fun o => (hB4.out.below hb5).below ((Below.refl _ _).alloc (Nat.le_refl _) o))
    clear hb5
    go_wp2_with fail
    refine (hse.out _ _ (hnews.out _)).mono ?_
    rintro e w6 ⟨rfl, hb6⟩
    have hB6 := (hB5.out _).below hb6
    obtain ⟨⟨r0, r1⟩, f0, f1⟩ := hB6.cells
    have hset := Lib.hid (hB6.set (.int .i64 0) (.int .i64 (-1)))
    clear hb6 hB6
    go_wp2_with fail
    exact bodyPost_ret (v := .tuple #[.string (bs (sealText k (headWords (0 : Nat) time sm))), .agg #[.int .i64 0, .int .i64 (-1)]]) (by simp [results, Tryz.results44, go_sem, hset.out.1]) rfl ⟨HeadRes.mk hr.out rfl rfl, hset.out.2⟩
  · obtain ⟨q, rfl⟩ : ∃ q, n = q + 1 := ⟨n - 1, by omega⟩
    obtain ⟨b, o, c, hv1, p1⟩ := hprev q rfl
    clear hprev hwas0 hn0 hv0
    subst hv1
    have p1H := Lib.hid p1
    have hq0 : (0 : Int) ≤ (q : Int) := by omega
    have hq1 : (q : Int) < (q : Int) + 1 := by omega
    clear p1
    go_enter Tryz.func44, Tryz.ntmps44
    go_wp2_with (go_at_call 61; refine (isKey_any _ _).mono ?_; rintro e w' ⟨rfl, rfl⟩)
    refine hfl.out.mono ?_
    rintro e w1 ⟨⟨v9, rfl, hv9⟩, hb1⟩
    have hv9H := Lib.hid hv9
    obtain ⟨a9, c9, hs9, _⟩ := hv9
    subst hs9
    have hB1 := hB0H.out.below hb1
    have hB1A := Lib.hid (fun o => hB1.below ((Below.refl _ _).alloc (Nat.le_refl _) o))
    clear hB1
    have hv9A := Lib.hid (fun o => hv9H.out.below ((Below.refl _ _).alloc (Nat.le_refl _) o))
    have p1 := cell_below (hB1A.out (.cells #[.int .i64 0, .int .i64 (-1)] 91)).2 p1H.out
    clear hb1
    go_wp2_with fail
    refine (hd1.out _).mono ?_
    rintro e w2 ⟨rfl, hb2⟩
    have hB2 := Lib.hid ((hB1A.out _).below hb2)
    have hv2 := Lib.hid ((hv9A.out _).below hb2)
    clear hb2
    go_wp2_with fail
    refine (hd2.out _).mono ?_
    rintro e w3 ⟨rfl, hb3⟩
    have hB3 := Lib.hid (hB2.out.below hb3)
    have hv3 := Lib.hid (hv2.out.below hb3)
    clear hb3
    go_wp2_with fail
    refine (hsum.out _ _ hv3.out).mono ?_
    rintro e w4 ⟨rfl, hb4⟩
    have hB4 := Lib.hid (hB3.out.below hb4)
    clear hb4
    go_wp2_with fail
    refine (hd3.out _).mono ?_
    rintro e w5 ⟨rfl, hb5⟩
    have hB5 := Lib.hid (fun o => (hB4.out.below hb5).below ((Below.refl _ _).alloc (Nat.le_refl _) o))
    clear hb5
    go_wp2_with fail
    refine (hse.out _ _ (hnews.out _)).mono ?_
    rintro e w6 ⟨rfl, hb6⟩
    have hB6 := (hB5.out _).below hb6
    obtain ⟨⟨r0, r1⟩, f0, f1⟩ := hB6.cells
    have hset := Lib.hid (hB6.set (.int .i64 0) (.int .i64 (-1)))
    clear hb6 hB6
    go_wp2_with fail
    exact bodyPost_ret (v := .tuple #[.string (bs (sealText k (headWords ((q + 1 : Nat) : Int) time sm))), .agg #[.int .i64 0, .int .i64 (-1)]]) (by simp [results, Tryz.results44, go_sem, hset.out.1]) rfl ⟨HeadRes.mk hr.out rfl rfl, hset.out.2⟩
end Go.Proofs.YtpkcndohjmpdeaaGreatDoor
