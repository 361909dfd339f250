/- Package tape: one record at the beginning: walked. -/
import Derived.Test.YtmjbhglmlbgkmaaDoorTapeW
namespace Go.Proofs.YtmjbhglmlbgkmaaDoor
open Go.RowKit Go.Sort

theorem oneT_nocut {b : List UInt8} (h : firstCut 58 b = none) : oneT b = none := by unfold oneT; rw [h]
theorem oneT_nonum {b d r : List UInt8} (h : firstCut 58 b = some (d, r)) (hn : numOf d = none) : oneT b = none := by unfold oneT; rw [h]; dsimp only; rw [hn]
theorem oneT_num {b d r : List UInt8} {n : Nat} (h : firstCut 58 b = some (d, r)) (hn : numOf d = some n) : oneT b = if n ≤ 4000 ∧ n + 2 ≤ r.length ∧ (r.drop n).take 2 = [10, 46] then some (r.take n) else none := by
  unfold oneT
  rw [h]
  dsimp only
  rw [hn]
theorem num_big {d : List UInt8} {n : Nat} (hn : numOf d = some n) (h9 : 9 < d.length) : 4000 < n := by
  obtain ⟨_, _, _, hi⟩ := numOf_some hn
  rcases Nat.lt_or_ge 4000 n with h | h
  · exact h
  · exfalso
    have h1 : (Lib.itoa (n : Int)).length ≤ 9 := by
      have e : Lib.itoa (n : Int) = Lib.decDigits n := by unfold Lib.itoa; rw [if_neg (by omega), Int.toNat_natCast]
      rw [e]
      exact decDigits_len 8 n (by have : (10 : Nat) ^ (8 + 1) = 1000000000 := by decide
                                  omega)
    rw [hi] at h1
    omega
set_option maxHeartbeats 4000000 in
set_option maxRecDepth 100000 in
theorem one_any {E : Nat → Addr} (b : List UInt8) (w : World) (hL : LaidS E w) (hb : b.length ≤ 1000000) :
    Calls Tryd.prog 52 #[.string (bs b)] w fun e w' => e = .returned (oneV b) ∧ Below w.heap.size w w' := by
  have hcu := Lib.hid (cut_any (E := E) b w hL (by omega))
  have hcf := cut_first 58 b
  cases hf : firstCut 58 b with
  | none =>
    rw [hf] at hcf
    rw [hcf] at hcu
    have hr := Lib.hid (oneV_none (oneT_nocut hf))
    have hsz := bs_size b
    have hat : ∀ wx, Below w.heap.size w wx → Calls Tryd.prog 76 #[.string (bs b)] wx fun e w' => ∃ n ev, e = .returned (.tuple #[.int .i64 n, ev]) ∧ Below wx.heap.size wx w' := by
      intro wx hx
      by_cases hok : ∃ v, Lib.atoiAll b = .ok v
      · obtain ⟨v, hv⟩ := hok
        exact (atoi_ok (bs b) (by omega) v (by rw [bs_list]; exact hv) wx).mono fun e w' h => ⟨v, _, h.1, h.2⟩
      · exact (atoi_bad (bs b) (by omega) (fun v hv => hok ⟨v, by rw [bs_list] at hv; exact hv⟩) wx (hL.below hx)).mono fun e w' ⟨n, T, N, h1, h2⟩ => ⟨n, _, h1, h2⟩
    have hat := Lib.hid hat
    clear hf hcf
    go_enter Tryd.func52, Tryd.ntmps52
    go_wp2_with fail
    refine hcu.out.mono ?_
    rintro e w1 ⟨rfl, hb1⟩
    have hb1 := Lib.hid hb1
    go_wp2_with fail
    refine (hat.out _ hb1.out).mono ?_
    rintro e w2 ⟨n, ev, rfl, hb2⟩
    have hb2 := Lib.hid (below_trans hb1.out hb2)
    go_wp2_with fail
    go_ret2
    exact ⟨ret_tuple hr.out.symm, hb2.out⟩
  | some x =>
    obtain ⟨d, r⟩ := x
    rw [hf] at hcf
    rw [hcf] at hcu
    obtain ⟨hbe, _⟩ := firstCut_some 58 b d r hf
    have hlen : d.length + r.length + 1 = b.length := by rw [hbe]; simp; omega
    have hsd := bs_size d
    have hsr := bs_size r
    have hfH := Lib.hid hf
    clear hcf hf hbe
    by_cases hok : ∃ v, Lib.atoiAll d = .ok v
    case neg =>
      have hr := Lib.hid (oneV_none (b := b) (oneT_nonum hfH.out (by
        cases hn : numOf d with
        | none => rfl
        | some n => obtain ⟨h1, h2, _⟩ := numOf_some hn; exact absurd ⟨_, atoi_good h1 h2⟩ hok)))
      have hat := Lib.hid (fun wx (hx : Below w.heap.size w wx) => atoi_bad (bs d) (by omega) (fun v hv => hok ⟨v, by rw [bs_list] at hv; exact hv⟩) wx (hL.below hx))
      clear hok
      go_enter Tryd.func52, Tryd.ntmps52
      go_wp2_with fail
      refine hcu.out.mono ?_
      rintro e w1 ⟨rfl, hb1⟩
      have hb1 := Lib.hid hb1
      go_wp2_with fail
      refine (hat.out _ hb1.out).mono ?_
      rintro e w2 ⟨n, T, N, rfl, hb2⟩
      have hb2 := Lib.hid (below_trans hb1.out hb2)
      go_wp2_with fail
      go_ret2
      exact ⟨ret_tuple hr.out.symm, hb2.out⟩
    obtain ⟨v, hv⟩ := hok
    have hat := Lib.hid (fun wx => atoi_ok (bs d) (by omega) v (by rw [bs_list]; exact hv) wx)
    obtain ⟨hv1, hv2⟩ := atoiAll_ge hv
    have hsome : ∀ n, numOf d = some n → v = n ∧ Lib.itoa v = d := fun n hn => by
      obtain ⟨h1, h2, h3, h4⟩ := numOf_some hn
      have := (atoi_good h1 h2).symm.trans hv
      injection this with h5
      rw [h3] at h5
      exact ⟨h5.symm, by rw [← h5]; exact h4⟩
    by_cases h9 : d.length ≤ 9
    case neg =>
      have hr := Lib.hid (oneV_none (b := b) (by
        cases hn : numOf d with
        | none => exact oneT_nonum hfH.out hn
        | some n => rw [oneT_num hfH.out hn, if_neg]; rintro ⟨h, _⟩; have := num_big hn (by omega); omega))
      clear hsome hv
      go_enter Tryd.func52, Tryd.ntmps52
      go_wp2_with fail
      refine hcu.out.mono ?_
      rintro e w1 ⟨rfl, hb1⟩
      have hb1 := Lib.hid hb1
      go_wp2_with fail
      refine (hat.out _).mono ?_
      rintro e w2 ⟨rfl, hb2⟩
      have hb2 := Lib.hid (below_trans hb1.out hb2)
      go_wp2_with fail
      go_ret2
      exact ⟨ret_tuple hr.out.symm, hb2.out⟩
    by_cases hv0 : v < 0
    case pos =>
      have hr := Lib.hid (oneV_none (b := b) (oneT_nonum hfH.out (by
        cases hn : numOf d with
        | none => rfl
        | some n => have := (hsome n hn).1; omega)))
      clear hsome hv
      go_enter Tryd.func52, Tryd.ntmps52
      go_wp2_with fail
      refine hcu.out.mono ?_
      rintro e w1 ⟨rfl, hb1⟩
      have hb1 := Lib.hid hb1
      go_wp2_with fail
      refine (hat.out _).mono ?_
      rintro e w2 ⟨rfl, hb2⟩
      have hb2 := Lib.hid (below_trans hb1.out hb2)
      go_wp2_with fail
      go_ret2
      exact ⟨ret_tuple hr.out.symm, hb2.out⟩
    have hit := Lib.hid (fun wx (hx : Below w.heap.size w wx) => itoa_any (E := E) v hv1 hv2 wx (hL.below hx))
    by_cases he : Lib.itoa v = d
    case neg =>
      have hr := Lib.hid (oneV_none (b := b) (oneT_nonum hfH.out (by
        cases hn : numOf d with
        | none => rfl
        | some n => exact absurd (hsome n hn).2 he)))
      have hbe : ((bs (Lib.itoa v)).toList == (bs d).toList) = false := by rw [toList_data, toList_data, bs_list, bs_list, beq_eq_false_iff_ne]; exact he
      generalize Lib.itoa v = it at *
      clear hsome hv he
      go_enter Tryd.func52, Tryd.ntmps52
      go_wp2_with fail
      refine hcu.out.mono ?_
      rintro e w1 ⟨rfl, hb1⟩
      have hb1 := Lib.hid hb1
      go_wp2_with fail
      refine (hat.out _).mono ?_
      rintro e w2 ⟨rfl, hb2⟩
      have hb2 := Lib.hid (below_trans hb1.out hb2)
      go_wp2_with fail
      refine (hit.out _ hb2.out).mono ?_
      rintro e w3 ⟨rfl, hb3⟩
      have hb3 := Lib.hid (below_trans hb2.out hb3)
      go_wp2_with fail
      go_ret2
      exact ⟨ret_tuple hr.out.symm, hb3.out⟩
    obtain ⟨n, rfl⟩ := Int.eq_ofNat_of_zero_le (Int.not_lt.1 hv0)
    have hnum : numOf d = some n := by rw [← he]; exact numOf_itoa (by rw [he]; omega)
    have hon := oneT_num hfH.out hnum
    have hbe : ((bs (Lib.itoa (n : Int))).toList == (bs d).toList) = true := by rw [he]; exact beq_self_eq_true _
    generalize Lib.itoa (n : Int) = it at *
    clear hsome hv he hnum
    by_cases h4 : 4000 < n
    case pos =>
      have hr := Lib.hid (oneV_none (b := b) (by rw [hon, if_neg (by rintro ⟨h, _⟩; omega)]))
      clear hon
      go_enter Tryd.func52, Tryd.ntmps52
      go_wp2_with fail
      refine hcu.out.mono ?_
      rintro e w1 ⟨rfl, hb1⟩
      have hb1 := Lib.hid hb1
      go_wp2_with fail
      refine (hat.out _).mono ?_
      rintro e w2 ⟨rfl, hb2⟩
      have hb2 := Lib.hid (below_trans hb1.out hb2)
      go_wp2_with fail
      refine (hit.out _ hb2.out).mono ?_
      rintro e w3 ⟨rfl, hb3⟩
      have hb3 := Lib.hid (below_trans hb2.out hb3)
      go_wp2_with fail
      go_ret2
      exact ⟨ret_tuple hr.out.symm, hb3.out⟩
    by_cases h5 : r.length < n + 2
    case pos =>
      have hr := Lib.hid (oneV_none (b := b) (by rw [hon, if_neg (by rintro ⟨_, h, _⟩; omega)]))
      have h5i : (r.length : Int) < (n : Int) + 2 := by omega
      clear hon
      go_enter Tryd.func52, Tryd.ntmps52
      go_wp2_with fail
      refine hcu.out.mono ?_
      rintro e w1 ⟨rfl, hb1⟩
      have hb1 := Lib.hid hb1
      go_wp2_with fail
      refine (hat.out _).mono ?_
      rintro e w2 ⟨rfl, hb2⟩
      have hb2 := Lib.hid (below_trans hb1.out hb2)
      go_wp2_with fail
      refine (hit.out _ hb2.out).mono ?_
      rintro e w3 ⟨rfl, hb3⟩
      have hb3 := Lib.hid (below_trans hb2.out hb3)
      go_wp2_with fail
      go_ret2
      exact ⟨ret_tuple hr.out.symm, hb3.out⟩
    have h5i : ¬ (r.length : Int) < (n : Int) + 2 := by omega
    have h5j : (n : Int) + 2 ≤ (r.length : Int) := by omega
    have h5k : (n : Int) ≤ (n : Int) + 2 := by omega
    have hmid := ext_mid r n (n + 2)
    rw [show n + 2 - n = 2 by omega] at hmid
    have hmidH := Lib.hid hmid
    clear hmid
    have hend := Lib.hid (ext_first r n)
    by_cases h6 : (r.drop n).take 2 = [10, 46]
    · have hr := Lib.hid (oneV_some (b := b) (s := r.take n) (by rw [hon, if_pos ⟨by omega, by omega, h6⟩]))
      have hq : (((bs r).extract n (n + 2)).toList == [10, 46]) = true := by rw [hmidH.out, h6, toList_data, bs_list]; rfl
      have hq2 : (((bs r).extract n (n + 2)).toList != [10, 46]) = false := by rw [bne, hq]; rfl
      clear hon h6
      go_enter Tryd.func52, Tryd.ntmps52
      go_wp2_with fail
      refine hcu.out.mono ?_
      rintro e w1 ⟨rfl, hb1⟩
      have hb1 := Lib.hid hb1
      go_wp2_with fail
      refine (hat.out _).mono ?_
      rintro e w2 ⟨rfl, hb2⟩
      have hb2 := Lib.hid (below_trans hb1.out hb2)
      go_wp2_with fail
      refine (hit.out _ hb2.out).mono ?_
      rintro e w3 ⟨rfl, hb3⟩
      have hb3 := Lib.hid (below_trans hb2.out hb3)
      go_wp2_with fail
      go_ret2
      exact ⟨ret_tuple ((congrArg (fun x => Value.tuple #[.string x, .bool true]) hend.out).trans hr.out.symm), hb3.out⟩
    · have hr := Lib.hid (oneV_none (b := b) (by rw [hon, if_neg (by rintro ⟨_, _, h⟩; exact h6 h)]))
      have hq : (((bs r).extract n (n + 2)).toList == [10, 46]) = false := by rw [hmidH.out, toList_data, bs_list, beq_eq_false_iff_ne]; exact h6
      have hq2 : (((bs r).extract n (n + 2)).toList != [10, 46]) = true := by rw [bne, hq]; rfl
      clear hon h6
      go_enter Tryd.func52, Tryd.ntmps52
      go_wp2_with fail
      refine hcu.out.mono ?_
      rintro e w1 ⟨rfl, hb1⟩
      have hb1 := Lib.hid hb1
      go_wp2_with fail
      refine (hat.out _).mono ?_
      rintro e w2 ⟨rfl, hb2⟩
      have hb2 := Lib.hid (below_trans hb1.out hb2)
      go_wp2_with fail
      refine (hit.out _ hb2.out).mono ?_
      rintro e w3 ⟨rfl, hb3⟩
      have hb3 := Lib.hid (below_trans hb2.out hb3)
      go_wp2_with fail
      go_ret2
      exact ⟨ret_tuple hr.out.symm, hb3.out⟩
end Go.Proofs.YtmjbhglmlbgkmaaDoor
