/- FlushL -/
import Derived.Test.YtkhphdkjnpcnnaaGreatDoorMg44
import Derived.Test.YtkhphdkjnpcnnaaGreatDoorMg45
import Derived.Test.YtkhphdkjnpcnnaaGreatDoorMg42
import Derived.Test.YtkhphdkjnpcnnaaGreatDoorMg49
/- RealmFlushes: walked. -/
namespace Go.Proofs.YtkhphdkjnpcnnaaGreatDoor
open Go.RowKit

set_option maxHeartbeats 32000000 in
set_option maxRecDepth 100000 in
theorem flushes_any {E : Nat → Addr} (long : Int) (v : Value) (M : List AskV) (a b c : List UInt8) (w : World) (hL : LaidF E w) (hM : AtG askC w v M) (hm : ∀ n ∈ M, AskLen n) (ha : a.length ≤ maxLen) (hb : b.length ≤ maxLen) (hc : c.length ≤ maxLen) :
    Calls Tryz.prog 4 #[.int .i64 long, v, .string (bs a), .string (bs b), .string (bs c)] w fun e w' => e = .returned (.bool true) ∧ Below w.heap.size w w' := by
  have hLw := Lib.hid (fun wx (hx : Below w.heap.size w wx) => hL.below hx)
  have hMv := Lib.hid (fun wx (hx : Below w.heap.size w wx) => (show AtG askC wx v M from AtG.below hM hx))
  have hrg := Lib.hid (reigned_any (E := E) w hL.s)
  have hln := Lib.hid (fun wx (hx : Below w.heap.size w wx) => longQ_any v M 50 wx (hMv.out wx hx) hm)
  have hsa := bs_size a
  have hsb := bs_size b
  have hsc := bs_size c
  obtain ⟨an, cn, hn0⟩ := AtG.sl hM
  have hnl := AtG.len hM
  unfold maxLen at hnl ha hb hc
  subst hn0
  clear hL hm hM
  go_enter Tryz.func4, Tryz.ntmps4
  go_wp2_with fail
  refine hrg.out.mono ?_
  rintro e w1 ⟨rfl, hb1⟩
  have hln1 := hln.out _ hb1
  have hb1 := Lib.hid hb1
  clear hrg hln
  cases hlo : longQ 50 M with
  | true =>
    rw [hlo] at hln1
    have hln1 := Lib.hid hln1
    clear hlo
    go_wp2_with fail
    refine hln1.out.mono ?_
    rintro e w2 ⟨rfl, rfl⟩
    go_wp2_with fail
    go_ret
    exact ⟨rfl, hb1.out⟩
  | false =>
  rw [hlo] at hln1
  have hln1 := Lib.hid hln1
  have hM50 := (longQ_false hlo).1
  have hMq := Lib.hid (longQ_false hlo).2
  clear hlo
  by_cases ha20 : (20 : Int) < ((bs a).size : Int)
  · go_wp2_with fail
    refine hln1.out.mono ?_
    rintro e w2 ⟨rfl, rfl⟩
    go_wp2_with fail
    go_ret
    exact ⟨rfl, hb1.out⟩
  by_cases hb20 : (20 : Int) < ((bs b).size : Int)
  · go_wp2_with fail
    refine hln1.out.mono ?_
    rintro e w2 ⟨rfl, rfl⟩
    go_wp2_with fail
    go_ret
    exact ⟨rfl, hb1.out⟩
  by_cases hc20 : (20 : Int) < ((bs c).size : Int)
  · go_wp2_with fail
    refine hln1.out.mono ?_
    rintro e w2 ⟨rfl, rfl⟩
    go_wp2_with fail
    go_ret
    exact ⟨rfl, hb1.out⟩
  have hal : a.length ≤ 1000 := by omega
  have hcl : c.length ≤ 1000 := by omega
  have hcm : c.length ≤ maxLen := by unfold maxLen; omega
  have hbl : b.length ≤ 1000 := by omega
  have ham : a.length ≤ maxLen := by unfold maxLen; omega
  clear ha hb hc hsa hsb hsc
  by_cases hz : newE 7 long = 0
  case neg =>
    have hnp := Lib.hid (newP_bad hz w1 (hLw.out _ hb1.out).s.laid)
    have hnr := Lib.hid (fun wx => newR_bad hz wx)
    obtain ⟨T1, x1, hev⟩ := errV_ifc E hz
    rw [hev] at hnp
    have hz1 : (0 : Int) < (newE 7 long : Int) := by omega
    generalize (newE 7 long : Int) = zi at *
    clear hev hz
    go_wp2_with fail
    refine hln1.out.mono ?_
    rintro e w2 ⟨rfl, rfl⟩
    go_wp2_with fail
    refine hnp.out.mono ?_
    rintro e w2 ⟨rfl, hb⟩
    have hb2 := Lib.hid (below_trans hb1.out hb)
    clear hb
    go_wp2_with fail
    refine (hnr.out _).mono ?_
    rintro e w3 ⟨rfl, hb⟩
    have hb3 := Lib.hid (below_trans hb2.out hb)
    clear hb
    go_wp2_with fail
    go_ret
    exact ⟨rfl, hb3.out⟩
  have hG0 := Lib.hid (newE_good hz)
  have hnp := Lib.hid (newP_good hz w1 (hLw.out _ hb1.out).s.laid)
  have hnr := Lib.hid (fun wx => newR_good hz wx)
  clear hz
  go_wp2_with fail
  refine hln1.out.mono ?_
  rintro e w2 ⟨rfl, rfl⟩
  go_wp2_with fail
  refine hnp.out.mono ?_
  rintro e w2 ⟨⟨ra, rb0, rr0, rfl, hP⟩, hb⟩
  have hb2 := Lib.hid (below_trans hb1.out hb)
  have hP := Lib.hid (hP.mono hb1.out.size)
  clear hb hnp hln1
  go_wp2_with fail
  refine (hnr.out _).mono ?_
  rintro e w3 ⟨⟨rm, rb1, rfl, hR⟩, hb⟩
  have hb3 := Lib.hid (below_trans hb2.out hb)
  have hS3 := Lib.hid (show MidR w.heap.size ra rm (newRlm 7 long) (newRlm 7 long) w3 from ⟨hb3.out.size, ⟨_, _, hP.out.below hb⟩, _, hR.mono hb2.out.size⟩)
  clear hb hnr hP hR hb1 hb2 ha20 hb20 hc20
  go_wp2_with fail
  go_loopg [16] (M.length + 1) (fun g s16 wr => ∃ (j : Nat) (R : Rlm), s16 = .int .i64 j ∧ j ≤ M.length ∧ M.length - j + 1 ≤ g ∧ Hid (GoodM R ∧ R.serial ≤ 1 + j) ∧ Hid (MidR w.heap.size ra rm R R wr) ∧ Hid (Below w.heap.size w wr))
  case atStart => exact ⟨0, newRlm 7 long, rfl, Nat.zero_le _, by omega, Lib.hid ⟨hG0.out, by show (1 : Int) ≤ _; omega⟩, hS3, hb3⟩
  case round =>
    clear hS3 hb3 hG0
    obtain ⟨j, R, rfl, hj, hg, hO, hS, hKw⟩ := hrel
    by_cases hlt : j < M.length
    · obtain ⟨_, _, he, _, _, _, hcs⟩ := hMv.out _ hKw.out
      cases he
      obtain ⟨bb, oo, rfl, hc⟩ := hcs j hlt
      have hnq := hMq.out M[j] (List.getElem_mem hlt)
      have d0 : wr.cell? ⟨bb, oo + j * 6, none⟩ = some (.string (bs M[j].kind)) := hc 0 _ rfl
      have d1 : wr.cell? ⟨bb, oo + j * 6 + 1, none⟩ = some (.string (bs M[j].a)) := hc 1 _ rfl
      have d2 : wr.cell? ⟨bb, oo + j * 6 + 2, none⟩ = some (.string (bs M[j].b)) := hc 2 _ rfl
      have d3 : wr.cell? ⟨bb, oo + j * 6 + 3, none⟩ = some (.string (bs M[j].s)) := hc 3 _ rfl
      have d4 : wr.cell? ⟨bb, oo + j * 6 + 4, none⟩ = some (.int .i64 M[j].n) := hc 4 _ rfl
      have d5 : wr.cell? ⟨bb, oo + j * 6 + 5, none⟩ = some (.bool M[j].is) := hc 5 _ rfl
      have hak := Lib.hid (asked_any (E := E) M[j] [120] wr (fun wx hx => hLw.out wx (hKw.out.trans hx)) hS.out hO.out.1 hnq (by decide))
      have hser := ask_serial R M[j] [120]
      have hG' := Lib.hid (hO.out.1.ask M[j] [120])
      generalize askM R M[j] [120] = am at *
      generalize M[j] = nn at *
      obtain ⟨kd, ka, kb, ks, kn, ki⟩ := nn
      obtain ⟨at_, R'⟩ := am
      dsimp only at *
      clear hcs hc hnq
      have hk0 : (0 : Int) ≤ (j : Int) := by omega
      have hk1 : (j : Int) < (M.length : Int) := by omega
      have hO' := hO.out.2
      go_wp2_with fail
      refine hak.out.mono ?_
      rintro e w4 ⟨rfl, hS4, hOk⟩
      have hS4 := Lib.hid hS4
      have hK4 := Lib.hid (hKw.out.trans hOk.below)
      clear hOk hak d0 d1 d2 d3 d4 d5
      go_wp2_with fail
      go_roundg (M.length - j)
      case measure => omega
      case rel => exact ⟨j + 1, R', by simp, hlt, by omega, Lib.hid ⟨hG'.out, by omega⟩, hS4, hK4⟩
    · have hge : ¬ ((j : Int) < (M.length : Int)) := by omega
      have hG := Lib.hid hO.out.1
      have hser : R.serial ≤ 51 := by have := hO.out.2; omega
      clear hlt hj hg hMv hMq hO
      obtain ⟨bk, hc4, hfi⟩ := hS.out.find hG.out b
      have hfi := Lib.hid hfi
      have hpf := Lib.hid (fun R1 wx (hx : MidR w.heap.size ra rm R1 R wx) => hx.proof hG.out ⟨[], a, [], [], 0, true⟩ hal)
      go_wp2_with fail
      refine hfi.out.mono ?_
      rintro e w4 ⟨rfl, hb⟩
      have hK4 := Lib.hid (below_trans hKw.out hb)
      have hS4 := Lib.hid (hS.out.below hb)
      clear hb hS hKw hfi hc4
      have hpr0 : ∀ p, findP R.b a = some p → proofOf R ⟨[], a, [], [], 0, true⟩ = (markOf p.key (proofM R a)).1 := fun p hp => by
        unfold proofOf
        dsimp only
        rw [if_pos rfl, hp]
      generalize proofOf R ⟨[], a, [], [], 0, true⟩ = pr at *
      generalize hfx : findIx R.b b = fx at *
      go_wp2_with fail
      refine (hpf.out _ _ hS4.out).mono ?_
      rintro e w5 ⟨rfl, hb⟩
      have hK5 := Lib.hid (below_trans hK4.out hb)
      have hS5 := Lib.hid (hS4.out.below hb)
      clear hb hS4 hK4
      have hlo := Lib.hid (hS5.out.loginP (hLw.out _ hK5.out).s hG.out a b pr hal hbl)
      by_cases hlz : (loginM R a pr b).2.1 = 0
      case neg =>
        have hl1 := (login_bad hlz).1
        generalize loginM R a pr b = lm at *
        obtain ⟨lt, lc, R1⟩ := lm
        dsimp only at *
        subst hl1
        obtain ⟨T1, x1, hev⟩ := errV_ifc E hlz
        rw [hev] at hlo
        clear hev hlz hpr0 hfx
        go_wp2_with fail
        refine hlo.out.mono ?_
        rintro e w6 ⟨rfl, hS6, hOk⟩
        have hK6 := Lib.hid (hK5.out.trans hOk.below)
        clear hOk
        have he1 : ((bs ([] : List UInt8)).toList == []) = true := by rw [toList_data, bs_list]; rfl
        have he2 : (bs ([] : List UInt8)).toList = [] := by rw [toList_data, bs_list]
        go_wp2_with fail
        go_ret
        exact ⟨rfl, hK6.out⟩
      obtain ⟨p, s, hfa, hfb, hof, hos, hrt, ht, hsr, hsk, hte, hlm⟩ := login_zero hlz
      rw [hlm] at hlo
      dsimp only at hlo
      simp only [errV] at hlo
      have hGM := Lib.hid (show GoodM { R with serial := R.serial + 1 } from hG.out.more hsr)
      have hfacts := Lib.hid (fun hz => flushes_facts hG.out rfl hGM.out hfa hfb hos ht (by omega) hz)
      have hopn := Lib.hid (openT_make hsk hte)
      obtain ⟨ks, hks, hkx, hke⟩ := idx_of hfb
      rw [hfx] at hkx
      subst hkx
      have hks0 : ¬ ((ks : Int) < 0) := by omega
      have hks1 : (0 : Int) ≤ (ks : Int) := by omega
      have hks2 : (ks : Int) < (R.b.length : Int) := by omega
      generalize hsl : sealText s.key (tickWords (tickM R a b p)) = sl at *
      have hslen : sl.length ≤ 221 := by
        have := login_len R a pr b
        rw [hlm] at this
        exact this
      clear hpr0 hfx hlz hfa hfb hrt hlm
      go_wp2_with fail
      refine hlo.out.mono ?_
      rintro e w6 ⟨rfl, hS6, hOk⟩
      have hK6 := Lib.hid (hK5.out.trans hOk.below)
      have hS6 := Lib.hid hS6
      obtain ⟨bk6, g6, c6, k0, k1, k2⟩ := hS6.out.keyAt hks
      rw [hke] at k2
      clear hOk hS5 hK5 hlo
      have hop := (show Calls Tryz.prog 14 #[.int .i64 s.key, .string (bs sl)] w6 fun e w' => e = .returned (.tuple #[(openT s.key sl).1.val, errV E (openT s.key sl).2]) ∧ Below w6.heap.size w6 w' from open_tick s.key (bs sl) w6 (hLw.out _ hK6.out).s (by rw [bs_size]; omega))
      rw [hopn.out] at hop
      simp only [errV, Tick.val, tickM] at hop
      generalize min (R.time + R.long) 1000000 = til at hop
      have hop := Lib.hid hop
      go_wp2_with fail
      refine hop.out.mono ?_
      rintro e w7' ⟨rfl, hb⟩
      have hx := hb.alloc hb.size (.cells #[.string (bs a), .string (bs b), .int .i64 p.epoch, .int .i64 R.time, .int .i64 til, .int .i64 R.serial] 51)
      have hT := heap_alloc_new w7' (.cells #[.string (bs a), .string (bs b), .int .i64 p.epoch, .int .i64 R.time, .int .i64 til, .int .i64 R.serial] 51)
      have hK7 := Lib.hid (below_trans hK6.out hx)
      have hS7 := Lib.hid (hS6.out.below hx)
      clear hb hx hop k0 k1 k2 hK6 hS6
      go_upto_region 19 with fail
      generalize w7'.heap.size = xt at *
      generalize w7'.alloc (.cells #[.string (bs a), .string (bs b), .int .i64 p.epoch, .int .i64 R.time, .int .i64 til, .int .i64 R.serial] 51) = w7 at *
      have hT7 := Lib.hid hT
      clear hT
      have hfl0 := Lib.hid (hS7.out.flushP (hLw.out _ hK7.out).s hGM.out)
      by_cases hfz : (flushM { R with serial := R.serial + 1 }).2.1 = 0
      case neg =>
        have hn0 := flush_bad hfz
        clear hfacts
        generalize flushM { R with serial := R.serial + 1 } = rv at *
        obtain ⟨n, c2, R2⟩ := rv
        dsimp only at *
        subst hn0
        obtain ⟨T1, x1, hev⟩ := errV_ifc E hfz
        rw [hev] at hfl0
        clear hev hfz
        go_wp2_with fail
        refine hfl0.out.mono ?_
        rintro e w8 ⟨rfl, _, hOk⟩
        have hfin := Lib.hid (hK7.out.trans hOk.below)
        clear hOk
        go_wp2_with fail
        go_ret
        exact ⟨rfl, hfin.out⟩
      obtain ⟨F, q1, q2, q3, q4, q5, q6⟩ := hfacts.out hfz
      have q6 := Lib.hid (q6 c)
      clear hfacts hopn
      generalize flushM { R with serial := R.serial + 1 } = rv at *
      obtain ⟨n, c2, R2⟩ := rv
      dsimp only at *
      subst hfz
      simp only [errV] at hfl0
      replace q1 := Lib.hid q1
      replace q2 := Lib.hid q2
      replace q4 := Lib.hid q4
      replace q5 := Lib.hid q5
      have hok := Lib.hid (And.intro hos hsk)
      replace hke := Lib.hid hke
      clear hof hos hsk hte hsr ht
      go_wp2_with fail
      refine hfl0.out.mono ?_
      rintro e w8 ⟨rfl, hS, hOk⟩
      have hK8 := Lib.hid (hK7.out.trans hOk.below)
      have hS8 := Lib.hid hS
      have hT8 := Lib.hid (hOk.kept _ _ _ _ hT7.out (by decide))
      clear hOk hfl0 hK7 hS7 hT7 hS
      have hfe := Lib.hid (hS8.out.feed q1.out)
      go_wp2_with fail
      refine hfe.out.mono ?_
      rintro e w9 ⟨⟨v9, rfl, hr⟩, hb⟩
      have hK9 := Lib.hid (below_trans hK8.out hb)
      have hS9 := Lib.hid (hS8.out.below hb)
      have hT9 := Lib.hid (heap_down hb hT8.out)
      have hfl := Lib.hid (floors_ent (E := E) v9 _ w9 (hLw.out _ hK9.out).s.laid (RowG.at_ hr) (ents_who (congrArg Prod.fst (q1.out).f)))
      clear hb hr hfe
      go_wp2_with fail
      refine hfl.out.mono ?_
      rintro e w10 ⟨hres, hb⟩
      obtain ⟨v10, rfl, hF⟩ := floors_res hres q2.out
      have hK10 := Lib.hid (below_trans hK9.out hb)
      have hS10 := Lib.hid (hS9.out.below hb)
      have hT10 := Lib.hid (heap_down hb hT9.out)
      have hF10 := Lib.hid hF
      clear hb hfl hres hF hK8 hS8 hT8 hK9 hS9 hT9
      have hp1 := Lib.hid (fun B wx (hx : FlRow wx B v10 F) => passes_flo v10 F a p.epoch wx (flo_at hx q3) (goodF_names q3))
      rw [decide_eq_false (show ¬ (ofF F a ≤ p.epoch) by have := q4.out; omega)] at hp1
      have hp2 := Lib.hid (fun B wx (hx : FlRow wx B v10 F) => (show Calls Tryz.prog 19 #[v10, .string (bs starW)] wx fun e w' => e = .returned (.int .i64 (ofF F starW)) ∧ Below wx.heap.size wx w' from of_flo v10 F starW wx (flo_at hx q3) (goodF_names q3)))
      rw [q5.out] at hp2
      have hp1 := Lib.hid (hp1.out _ _ hF10.out)
      obtain ⟨t0, _, t2, _, _, _⟩ := (six_of hT10.out).1
      go_wp2_with fail
      refine hp1.out.mono ?_
      rintro e w11 ⟨rfl, hb⟩
      have hK11 := Lib.hid (below_trans hK10.out hb)
      have hS11 := Lib.hid (hS10.out.below hb)
      have hF11 := Lib.hid (hF10.out.below hb)
      have hp2 := Lib.hid (hp2.out _ _ hF11.out)
      clear hb hp1 hK10 hS10 hT10 hF10 t0 t2
      go_wp2_with fail
      refine hp2.out.mono ?_
      rintro e w12 ⟨rfl, hb⟩
      have hK12 := Lib.hid (below_trans hK11.out hb)
      have hS12 := Lib.hid (hS11.out.below hb)
      have hF12 := Lib.hid (hF11.out.below hb)
      clear hb hp2 hK11 hS11 hF11
      have had := Lib.hid (hS12.out.addP (hLw.out _ hK12.out).s q1.out c 9 hcm)
      have hGA := (q1.out.add c 9).1
      by_cases haz : (addM R2 c 9).1 = 0
      case neg =>
        clear q6 hGA
        generalize addM R2 c 9 = am at *
        obtain ⟨ac, R3⟩ := am
        dsimp only at *
        obtain ⟨T1, x1, hev⟩ := errV_ifc E haz
        rw [hev] at had
        clear hev haz
        go_wp2_with fail
        refine had.out.mono ?_
        rintro e w13 ⟨rfl, _, hOk⟩
        have hfin := Lib.hid (hK12.out.trans hOk.below)
        clear hOk
        go_wp2_with fail
        go_ret
        exact ⟨rfl, hfin.out⟩
      obtain ⟨t2, u1, u2, u3, u4⟩ := q6.out haz
      clear q6
      generalize addM R2 c 9 = am at *
      obtain ⟨ac, R3⟩ := am
      dsimp only at *
      subst haz
      simp only [errV] at had
      have hGA := Lib.hid hGA
      have ht0 := hG.out.t0
      have ht1 := hG.out.t1
      have hsc2 := bs_size c
      have hsI : (bs (Lib.itoa R.time)).size ≤ 20 := by rw [bs_size]; exact itoa_len (by omega) (by omega)
      have hsA : ¬ 9223372036854775807 < (bs c).size + 1 := by omega
      have hsB : ¬ 9223372036854775807 < (bs c).size + 1 + (bs (Lib.itoa R.time)).size := by omega
      have hpe : bs c ++ (⟨#[32]⟩ : ByteArray) ++ bs (Lib.itoa R.time) = bs (proofM R c) := by
        rw [show (⟨#[32]⟩ : ByteArray) = bs [32] from rfl, str_add, str_add, List.append_assoc]
        rfl
      have hsP : (bs (proofM R c)).size ≤ maxLen := by
        rw [← hpe, ByteArray.size_append, ByteArray.size_append]
        have : (⟨#[32]⟩ : ByteArray).size = 1 := rfl
        unfold maxLen
        omega
      have hmo := Lib.hid (fun (wx : World) => (show Calls Tryz.prog 24 #[.int .i64 9, .string (bs c ++ (⟨#[32]⟩ : ByteArray) ++ bs (Lib.itoa R.time))] wx fun e w' => e = .returned (.tuple #[.int .i64 (markOf 9 (proofM R c)).1, .int .i64 ((markOf 9 (proofM R c)).2 : Nat)]) ∧ Below wx.heap.size wx w' by
        rw [hpe]
        exact (markOf_any 9 (bs (proofM R c)) wx hsP).mono fun e w' ⟨h1, h2⟩ => ⟨h1, by rw [← h2]; exact Below.refl _ _⟩))
      have hde := Lib.hid (fun (wx : World) => decimal_any R.time wx (by omega) (by omega))
      clear hpe hsP hsc2
      generalize markOf 9 (proofM R c) = mo at *
      obtain ⟨mn, mc⟩ := mo
      dsimp only at *
      have hlp := fun wx R' (hx : MidR w.heap.size ra rm R3 R' wx) (hb : Below w.heap.size w wx) => hx.loginP (hLw.out wx hb).s hGA.out c b mn hcl hbl
      rw [u1] at hlp
      dsimp only at hlp
      simp only [errV] at hlp
      replace hlp := Lib.hid hlp
      generalize hsl2 : sealText s.key (tickWords t2) = sl2 at *
      have hslen2 : sl2.length ≤ 221 := by
        have := login_len R3 c mn b
        rw [u1] at this
        exact this
      clear u1 hsl2
      obtain ⟨uw, us, ue, ug, uf, ur⟩ := t2
      dsimp only at u3 u4
      subst uw
      have hp3 := Lib.hid (fun B wx (hx : FlRow wx B v10 F) => passes_flo v10 F c ue wx (flo_at hx q3) (goodF_names q3))
      rw [decide_eq_true u4] at hp3
      have hop := fun wx (hx : Below w.heap.size w wx) => (show Calls Tryz.prog 14 #[.int .i64 s.key, .string (bs sl2)] wx fun e w' => e = .returned (.tuple #[(openT s.key sl2).1.val, errV E (openT s.key sl2).2]) ∧ Below wx.heap.size wx w' from open_tick s.key (bs sl2) wx (hLw.out _ hx).s (by rw [bs_size]; omega))
      rw [u2] at hop
      simp only [errV, Tick.val] at hop
      replace hop := Lib.hid hop
      clear u2 u4
      go_wp2_with fail
      refine had.out.mono ?_
      rintro e w13 ⟨rfl, hS, hOk⟩
      have hK13 := Lib.hid (hK12.out.trans hOk.below)
      have hS13 := Lib.hid hS
      have hF13 := Lib.hid (hF12.out.ok hOk)
      have tm := hS13.out.timeR
      clear hOk had hK12 hS12 hF12 hS
      go_wp2_with fail
      refine (hde.out _).mono ?_
      rintro e w14 ⟨rfl, hb⟩
      have hK14 := Lib.hid (below_trans hK13.out hb)
      have hS14 := Lib.hid (hS13.out.below hb)
      have hF14 := Lib.hid (hF13.out.below hb)
      clear hb hde hK13 hS13 hF13 tm
      go_wp2_with fail
      refine (hmo.out _).mono ?_
      rintro e w15 ⟨rfl, hb⟩
      have hK15 := Lib.hid (below_trans hK14.out hb)
      have hS15 := Lib.hid (hS14.out.below hb)
      have hF15 := Lib.hid (hF14.out.below hb)
      clear hb hmo hK14 hS14 hF14
      go_wp2_with fail
      refine (hlp.out _ _ hS15.out hK15.out).mono ?_
      rintro e w16 ⟨rfl, hS, hOk⟩
      have hK16 := Lib.hid (hK15.out.trans hOk.below)
      have hS16 := Lib.hid hS
      have hF16 := Lib.hid (hF15.out.ok hOk)
      clear hOk hlp hK15 hS15 hF15 hS
      obtain ⟨bk7, g7, c7, k0, k1, k2⟩ := hS16.out.keyAt hks
      rw [hke.out] at k2
      go_wp2_with fail
      refine (hop.out _ hK16.out).mono ?_
      rintro e w17' ⟨rfl, hb⟩
      have hx := hb.alloc hb.size (.cells #[.string (bs c), .string (bs us), .int .i64 ue, .int .i64 ug, .int .i64 uf, .int .i64 ur] 51)
      have hU := heap_alloc_new w17' (.cells #[.string (bs c), .string (bs us), .int .i64 ue, .int .i64 ug, .int .i64 uf, .int .i64 ur] 51)
      have hK17 := Lib.hid (below_trans hK16.out hx)
      have hF17 := Lib.hid (hF16.out.below hx)
      have hp3 := Lib.hid (hp3.out _ _ hF17.out)
      clear hb hx hop hK16 hF16 hS16 k0 k1 k2
      go_upto_region 32 with fail
      generalize w17'.heap.size = xu at *
      generalize w17'.alloc (.cells #[.string (bs c), .string (bs us), .int .i64 ue, .int .i64 ug, .int .i64 uf, .int .i64 ur] 51) = w17 at *
      obtain ⟨y0, _, y2, _, _, _⟩ := (six_of hU).1
      go_wp2_with fail
      refine hp3.out.mono ?_
      rintro e w18 ⟨rfl, hb⟩
      have hfin := Lib.hid (below_trans hK17.out hb)
      clear hb y0 y2
      go_wp2_with fail
      go_ret
      exact ⟨rfl, hfin.out⟩
end Go.Proofs.YtkhphdkjnpcnnaaGreatDoor
