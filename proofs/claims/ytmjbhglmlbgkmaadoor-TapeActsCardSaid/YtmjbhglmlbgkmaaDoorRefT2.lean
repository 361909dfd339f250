/- The reference's tape: Record, SetCut, Append, Recover: walked. -/
import Derived.Test.YtmjbhglmlbgkmaaDoorRefT1
import Derived.StillTailTactics
import Derived.IntWalk
namespace Go.Proofs.YtmjbhglmlbgkmaaDoor
open Go.RowKit Go.Sort

set_option maxRecDepth 100000 in
theorem recordR_any (s : List UInt8) (w : World) (hs : s.length ≤ 1000000) :
    Calls Tryd.prog 51 #[.string (bs s)] w fun e w' => e = .returned (.string (bs (recordT s))) ∧ Below w.heap.size w w' := by
  have hit := Lib.hid (decimal_any (s.length : Int) w (by omega) (by omega))
  have hr := Lib.hid (show bs (Lib.itoa (s.length : Int)) ++ ⟨#[58]⟩ ++ bs s ++ ⟨#[10, 46]⟩ = bs (recordT s) by
    rw [show (⟨#[58]⟩ : ByteArray) = bs [58] from rfl, show (⟨#[10, 46]⟩ : ByteArray) = bs [10, 46] from rfl, str_catT, str_catT, str_catT]
    unfold recordT
    simp)
  have hsz := bs_size s
  have hil : (Lib.itoa (s.length : Int)).length ≤ 10 := itoa_len10 (by omega) (by omega)
  generalize Lib.itoa (s.length : Int) = it at *
  have hsi := bs_size it
  go_enter Tryd.func51, Tryd.ntmps51
  go_wp2_with fail
  refine hit.out.mono ?_
  rintro e w1 ⟨rfl, hb⟩
  have hb := Lib.hid hb
  clear hit
  go_wp2_with fail
  go_ret
  exact ⟨congrArg (fun x => Ending.returned (Value.string x)) hr.out, hb.out⟩
set_option maxRecDepth 100000 in
theorem setcutR_any (b : Nat) (d : Dsk) (n : Int) (w : World) (hT : TpAt w b d) :
    Calls Tryd.prog 24 #[.pointer (some ⟨b, 0, none⟩), .int .i64 n] w fun e w' => e = .returned (.int .i64 ((setCutD d n).1 : Nat)) ∧ Keeps (· = b) w w' ∧ TpAt w' b (setCutD d n).2 := by
  obtain ⟨_, h1, h2, hfz⟩ := hT.cells
  have hf2 := hfz 2
  have hset := Lib.hid (hT.set2 n)
  have hTH := Lib.hid hT
  clear hfz hT
  by_cases hn : n < 0
  · have hs := Lib.hid (show setCutD d n = (2, d) by unfold setCutD; rw [if_pos hn])
    go_enter Tryd.func24, Tryd.ntmps24
    go_wp2_with fail
    go_ret
    exact ⟨by rw [hs.out]; rfl, Keeps.refl _ _, by rw [hs.out]; exact hTH.out⟩
  cases ho : d.off with
  | true =>
    rw [ho] at h1
    have hs := Lib.hid (show setCutD d n = (16, d) by unfold setCutD; rw [if_neg hn, if_pos ho])
    clear ho
    go_enter Tryd.func24, Tryd.ntmps24
    go_wp2_with fail
    go_ret
    exact ⟨by rw [hs.out]; rfl, Keeps.refl _ _, by rw [hs.out]; exact hTH.out⟩
  | false =>
    rw [ho] at h1
    have hs := Lib.hid (show setCutD d n = (0, ⟨d.b, d.off, n⟩) by unfold setCutD; rw [if_neg hn, if_neg (by rw [ho]; decide)])
    clear ho
    go_enter Tryd.func24, Tryd.ntmps24
    go_wp2_with fail
    go_ret
    exact ⟨by rw [hs.out]; rfl, keeps_set _ _ _ _, by rw [hs.out]; exact hset.out⟩
set_option maxHeartbeats 4000000 in
set_option maxRecDepth 100000 in
theorem appendR_any (b : Nat) (d : Dsk) (s : List UInt8) (w : World) (hT : TpAt w b d) (hs : s.length ≤ maxLen) (hok : DskOk d) :
    Calls Tryd.prog 22 #[.pointer (some ⟨b, 0, none⟩), .string (bs s)] w fun e w' => e = .returned (.int .i64 ((appendD d s).1 : Nat)) ∧ Keeps (· = b) w w' ∧ TpAt w' b (appendD d s).2 := by
  obtain ⟨hd1, hd2⟩ := hok
  have hsz := bs_size s
  unfold maxLen at hs
  by_cases h4 : 4000 < s.length
  · have hr := Lib.hid (appendD_big (d := d) h4)
    have hTH := Lib.hid hT
    clear hT
    go_enter Tryd.func22, Tryd.ntmps22
    go_wp2_with fail
    go_ret
    exact ⟨by rw [hr.out]; rfl, Keeps.refl _ _, by rw [hr.out]; exact hTH.out⟩
  have hrec := Lib.hid (recordR_any s w (by omega))
  have hrl := recordT_len (s := s) (by omega)
  have hap := Lib.hid (fun h2 => appendD_ok (d := d) (s := s) h4 h2)
  have hfu := Lib.hid (fun h2 => appendD_full (d := d) (s := s) h4 h2)
  generalize hrq : recordT s = rq at *
  generalize appendD d s = ap at *
  clear hrq
  have hsr := bs_size rq
  have hsb := bs_size d.b
  have hTH := Lib.hid hT
  clear hT
  go_enter Tryd.func22, Tryd.ntmps22
  go_wp2_with fail
  refine hrec.out.mono ?_
  rintro e w1 ⟨rfl, hb1⟩
  have hT1 := hTH.out.below hb1
  have hk1 := Lib.hid (Keeps.of_below (S := (· = b)) hb1)
  obtain ⟨c0, c1, c2, hfz⟩ := hT1.cells
  have hf0 := hfz 0
  have hf1 := hfz 1
  have hf2 := hfz 2
  have hT1 := Lib.hid hT1
  clear hb1 hrec hfz
  by_cases hf : (262144 : Int) - d.b.length < rq.length
  · have hr := Lib.hid (hfu.out (by omega))
    have hfi : (262144 : Int) < (d.b.length : Int) + (rq.length : Int) := by omega
    go_wp2_with fail
    go_ret
    exact ⟨by rw [hr.out]; rfl, hk1.out, by rw [hr.out]; exact hT1.out⟩
  have hap := Lib.hid (hap.out (by omega))
  have hfi : ¬ (262144 : Int) < (d.b.length : Int) + (rq.length : Int) := by omega
  cases ho : d.off with
  | true =>
    rw [ho] at c1
    have hr := Lib.hid (hap.out.trans (writeD_off ho))
    clear ho
    go_wp2_with fail
    go_ret
    exact ⟨by rw [hr.out]; rfl, hk1.out, by rw [hr.out]; exact hT1.out⟩
  | false =>
  rw [ho] at c1
  by_cases hc : 0 ≤ d.cut ∧ d.cut < rq.length
  · have hr := Lib.hid (hap.out.trans (writeD_cut ho hc))
    obtain ⟨hc0, hc1⟩ := hc
    obtain ⟨m, hm⟩ : ∃ m : Nat, d.cut = m := ⟨d.cut.toNat, by omega⟩
    have hex := ext_first rq m
    have htl : (rq.take m).length = m := by rw [List.length_take]; omega
    have hr0 := Lib.hid (show ap = (16, ⟨d.b ++ rq.take m, true, (m : Int)⟩) from by rw [hr.out, hm]; rfl)
    clear hr
    generalize rq.take m = tk at *
    have hcat := str_catT d.b tk
    have hfin := Lib.hid (show TpAt ((w1.drew.setCell ⟨b, 0, none⟩ (.string (bs (d.b ++ tk)))).setCell ⟨b, 1, none⟩ (.bool true)) b ⟨d.b ++ tk, true, (m : Int)⟩ from by
      have h := ((hT1.out.below (Below.refl _ _).drew).set0 (d.b ++ tk)).set1 true
      dsimp only at h
      rwa [hm] at h)
    have hr := hr0
    rw [hm] at c2 hc0 hc1
    have hmi : (m : Int) ≤ (rq.length : Int) := by omega
    have hm0 : (0 : Int) ≤ (m : Int) := by omega
    have g0 : (World.drew w1).cell? ⟨b, 0, none⟩ = some (.string (bs d.b)) := c0
    have g2 : (World.drew w1).cell? ⟨b, 2, none⟩ = some (.int .i64 (m : Int)) := c2
    have hk9 := Lib.hid ((((hk1.out.trans (Keeps.of_below (S := (· = b)) (Below.refl _ _).drew)).trans (keeps_set (World.drew w1) b 0 (.string (bs (d.b ++ tk))))).trans (keeps_set _ b 1 (.bool true))))
    have hst := bs_size tk
    rw [htl] at hst
    have htl := Lib.hid htl
    have hno : ¬ (9223372036854775807 < d.b.length + m) := by omega
    have hadd := fun (wx : World) => (run_string_add_sum (P := Tryd.prog) wx (bs d.b) (bs tk) (by rw [hsb, hst]; omega)).trans (by rw [hcat])
    clear hm ho
    go_wp2_with fail
    go_still_tail 14, (by kernel_rfl)
    try change wpStill _ _ (World.drew _) _ _ _
    try (repeat still_step)
    try refine wpStill_nil ?_
    change wpList _ _ _ _ _ (World.drew _)
    go_wp2_with fail
    go_ret
    exact ⟨by rw [hr.out]; rfl, hk9.out, by rw [hr.out]; exact hfin.out⟩
  · have hr := Lib.hid (hap.out.trans (writeD_ok ho hc))
    have hcat := str_catT d.b rq
    have hoff := Lib.hid ho
    clear ho
    by_cases hc0 : 0 ≤ d.cut
    · have hc1 : ¬ d.cut < (rq.length : Int) := by omega
      have hr := Lib.hid (show ap = (0, ⟨d.b ++ rq, false, d.cut - (rq.length : Int)⟩) from by rw [hr.out, if_pos hc0])
      have hs2 := IntWalk.i64_in (d.cut - (rq.length : Int)) (by omega)
      have hfin := Lib.hid (show TpAt ((w1.setCell ⟨b, 2, none⟩ (.int .i64 (d.cut - (rq.length : Int)))).setCell ⟨b, 0, none⟩ (.string (bs (d.b ++ rq)))) b ⟨d.b ++ rq, d.off, d.cut - (rq.length : Int)⟩ from (hT1.out.set2 (d.cut - (rq.length : Int))).set0 (d.b ++ rq))
      have hk9 := Lib.hid ((hk1.out.trans (keeps_set w1 b 2 (.int .i64 (d.cut - (rq.length : Int))))).trans (keeps_set _ b 0 (.string (bs (d.b ++ rq)))))
      rw [hoff.out] at hfin
      clear hc
      go_wp2_with fail
      go_ret
      exact ⟨by rw [hr.out]; rfl, hk9.out, by rw [hr.out]; exact hfin.out⟩
    · have hr := Lib.hid (show ap = (0, ⟨d.b ++ rq, false, d.cut⟩) from by rw [hr.out, if_neg hc0])
      have hfin := Lib.hid (show TpAt (w1.setCell ⟨b, 0, none⟩ (.string (bs (d.b ++ rq)))) b ⟨d.b ++ rq, d.off, d.cut⟩ from hT1.out.set0 (d.b ++ rq))
      have hk9 := Lib.hid (hk1.out.trans (keeps_set w1 b 0 (.string (bs (d.b ++ rq)))))
      rw [hoff.out] at hfin
      clear hc
      go_wp2_with fail
      go_ret
      exact ⟨by rw [hr.out]; rfl, hk9.out, by rw [hr.out]; exact hfin.out⟩
set_option maxHeartbeats 1000000 in
set_option maxRecDepth 100000 in
theorem recoverR_any (b : Nat) (d : Dsk) (w : World) (hT : TpAt w b d) (hok : DskOk d) :
    Calls Tryd.prog 27 #[.pointer (some ⟨b, 0, none⟩)] w fun e w' => ∃ v, e = .returned v ∧ TxRow w' w.heap.size v (readT d.b) ∧ Keeps (· = b) w w' ∧ TpAt w' b (recoverD d) := by
  obtain ⟨hd1, hd2⟩ := hok
  obtain ⟨c0, _, _, _⟩ := hT.cells
  have hsb := bs_size d.b
  have hre := readTape_any (bs d.b) w (by omega)
  rw [bs_list] at hre
  have hre := Lib.hid hre
  have hblt := hT.lt
  have hTH := Lib.hid hT
  obtain ⟨hf1, hf2⟩ := readT_take d.b
  have hex := ext_first d.b (flatR (readT d.b)).length
  rw [hf2] at hex
  have hrc := Lib.hid (show recoverD d = ⟨flatR (readT d.b), false, -1⟩ from rfl)
  generalize flatR (readT d.b) = f at *
  generalize readT d.b = L at *
  clear hT hf2
  go_enter Tryd.func27, Tryd.ntmps27
  go_wp2_with fail
  refine hre.out.mono ?_
  rintro e w1 ⟨v, rfl, hrow, hb1⟩
  have hT1 := hTH.out.below hb1
  have hfin := ((hT1.set0 f).set1 false).set2 (-1)
  have hk := ((keeps_set w1 b 0 (.string (bs f))).trans (keeps_set _ b 1 (.bool false))).trans (keeps_set _ b 2 (.int .i64 (-1)))
  have hkA := Lib.hid ((Keeps.of_below (S := (· = b)) hb1).trans hk)
  have hrowA := Lib.hid (ownsRow_keeps hrow hk (fun g hg e => by
    have := (ownsRow_block hrow hg).1
    omega))
  obtain ⟨c0, c1, c2, hfz⟩ := hT1.cells
  have hf0 := hfz 0
  have hf1 := hfz 1
  have hf2 := hfz 2
  obtain ⟨a, c, rfl⟩ := hrow.sl
  have hfin := Lib.hid hfin
  clear hrow hb1 hfz hk hT1 hre
  go_wp2_with fail
  go_ret
  exact ⟨_, rfl, hrowA.out, hkA.out, by rw [hrc.out]; exact hfin.out⟩
end Go.Proofs.YtmjbhglmlbgkmaaDoor
