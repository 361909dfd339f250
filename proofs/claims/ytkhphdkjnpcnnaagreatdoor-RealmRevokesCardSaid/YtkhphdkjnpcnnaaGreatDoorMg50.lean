/- Revoke -/
import Derived.Test.YtkhphdkjnpcnnaaGreatDoorMg44
import Derived.Test.YtkhphdkjnpcnnaaGreatDoorMg45
import Derived.Test.YtkhphdkjnpcnnaaGreatDoorMg42
import Derived.Test.YtkhphdkjnpcnnaaGreatDoorMg49
/- RealmRevokes: walked. -/
namespace Go.Proofs.YtkhphdkjnpcnnaaGreatDoor
open Go.RowKit

set_option maxHeartbeats 32000000 in
set_option maxRecDepth 100000 in
theorem revokes_any {E : Nat → Addr} (long : Int) (v : Value) (M : List AskV) (a b : List UInt8) (w : World) (hL : LaidF E w) (hM : AtG askC w v M) (hm : ∀ n ∈ M, AskLen n) (ha : a.length ≤ maxLen) (hb : b.length ≤ maxLen) :
    Calls Tryz.prog 3 #[.int .i64 long, v, .string (bs a), .string (bs b)] w fun e w' => e = .returned (.bool true) ∧ Below w.heap.size w w' := by
  have hLw := Lib.hid (fun wx (hx : Below w.heap.size w wx) => hL.below hx)
  have hMv := Lib.hid (fun wx (hx : Below w.heap.size w wx) => (show AtG askC wx v M from AtG.below hM hx))
  have hrg := Lib.hid (reigned_any (E := E) w hL.s)
  have hln := Lib.hid (fun wx (hx : Below w.heap.size w wx) => longQ_any v M 50 wx (hMv.out wx hx) hm)
  have hsa := bs_size a
  have hsb := bs_size b
  obtain ⟨an, cn, hn0⟩ := AtG.sl hM
  have hnl := AtG.len hM
  unfold maxLen at hnl ha hb
  subst hn0
  clear hL hm hM
  go_enter Tryz.func3, Tryz.ntmps3
  go_wp2_with fail
  refine hrg.out.mono ?_
  rintro e w1 ⟨rfl, hb1⟩
  have hln1 := hln.out _ hb1
  have hb1 := Lib.hid hb1
  clear hrg hln
  cases hlo : longQ 50 M with
  | true =>
    rw [hlo] at hln1
    have hln1 := Lib.hid hln1
    clear hlo
    go_wp2_with fail
    refine hln1.out.mono ?_
    rintro e w2 ⟨rfl, rfl⟩
    go_wp2_with fail
    go_ret
    exact ⟨rfl, hb1.out⟩
  | false =>
  rw [hlo] at hln1
  have hln1 := Lib.hid hln1
  have hM50 := (longQ_false hlo).1
  have hMq := Lib.hid (longQ_false hlo).2
  clear hlo
  by_cases ha20 : (20 : Int) < ((bs a).size : Int)
  · go_wp2_with fail
    refine hln1.out.mono ?_
    rintro e w2 ⟨rfl, rfl⟩
    go_wp2_with fail
    go_ret
    exact ⟨rfl, hb1.out⟩
  by_cases hb20 : (20 : Int) < ((bs b).size : Int)
  · go_wp2_with fail
    refine hln1.out.mono ?_
    rintro e w2 ⟨rfl, rfl⟩
    go_wp2_with fail
    go_ret
    exact ⟨rfl, hb1.out⟩
  have hal : a.length ≤ 1000 := by omega
  have hbl : b.length ≤ 1000 := by omega
  have ham : a.length ≤ maxLen := by unfold maxLen; omega
  clear ha hb hsa hsb
  by_cases hz : newE 7 long = 0
  case neg =>
    have hnp := Lib.hid (newP_bad hz w1 (hLw.out _ hb1.out).s.laid)
    have hnr := Lib.hid (fun wx => newR_bad hz wx)
    obtain ⟨T1, x1, hev⟩ := errV_ifc E hz
    rw [hev] at hnp
    have hz1 : (0 : Int) < (newE 7 long : Int) := by omega
    generalize (newE 7 long : Int) = zi at *
    clear hev hz
    go_wp2_with fail
    refine hln1.out.mono ?_
    rintro e w2 ⟨rfl, rfl⟩
    go_wp2_with fail
    refine hnp.out.mono ?_
    rintro e w2 ⟨rfl, hb⟩
    have hb2 := Lib.hid (below_trans hb1.out hb)
    clear hb
    go_wp2_with fail
    refine (hnr.out _).mono ?_
    rintro e w3 ⟨rfl, hb⟩
    have hb3 := Lib.hid (below_trans hb2.out hb)
    clear hb
    go_wp2_with fail
    go_ret
    exact ⟨rfl, hb3.out⟩
  have hG0 := Lib.hid (newE_good hz)
  have hnp := Lib.hid (newP_good hz w1 (hLw.out _ hb1.out).s.laid)
  have hnr := Lib.hid (fun wx => newR_good hz wx)
  clear hz
  go_wp2_with fail
  refine hln1.out.mono ?_
  rintro e w2 ⟨rfl, rfl⟩
  go_wp2_with fail
  refine hnp.out.mono ?_
  rintro e w2 ⟨⟨ra, rb0, rr0, rfl, hP⟩, hb⟩
  have hb2 := Lib.hid (below_trans hb1.out hb)
  have hP := Lib.hid (hP.mono hb1.out.size)
  clear hb hnp hln1
  go_wp2_with fail
  refine (hnr.out _).mono ?_
  rintro e w3 ⟨⟨rm, rb1, rfl, hR⟩, hb⟩
  have hb3 := Lib.hid (below_trans hb2.out hb)
  have hS3 := Lib.hid (show MidR w.heap.size ra rm (newRlm 7 long) (newRlm 7 long) w3 from ⟨hb3.out.size, ⟨_, _, hP.out.below hb⟩, _, hR.mono hb2.out.size⟩)
  clear hb hnr hP hR hb1 hb2 ha20 hb20
  go_wp2_with fail
  go_loopg [14, 15] (M.length + 1) (fun g s14 s15 wr => ∃ (j : Nat) (la : List UInt8) (R : Rlm), s14 = .string (bs la) ∧ s15 = .int .i64 j ∧ j ≤ M.length ∧ M.length - j + 1 ≤ g ∧ Hid (GoodM R ∧ R.serial ≤ 1 + j ∧ la.length ≤ 1000) ∧ Hid (MidR w.heap.size ra rm R R wr) ∧ Hid (Below w.heap.size w wr))
  case atStart => exact ⟨0, [], newRlm 7 long, rfl, rfl, Nat.zero_le _, by omega, Lib.hid ⟨hG0.out, by show (1 : Int) ≤ _; omega, by decide⟩, hS3, hb3⟩
  case round =>
    clear hS3 hb3 hG0
    obtain ⟨j, la, R, rfl, rfl, hj, hg, hO, hS, hKw⟩ := hrel
    by_cases hlt : j < M.length
    · obtain ⟨_, _, he, _, _, _, hcs⟩ := hMv.out _ hKw.out
      cases he
      obtain ⟨bb, oo, rfl, hc⟩ := hcs j hlt
      have hnq := hMq.out M[j] (List.getElem_mem hlt)
      have d0 : wr.cell? ⟨bb, oo + j * 6, none⟩ = some (.string (bs M[j].kind)) := hc 0 _ rfl
      have d1 : wr.cell? ⟨bb, oo + j * 6 + 1, none⟩ = some (.string (bs M[j].a)) := hc 1 _ rfl
      have d2 : wr.cell? ⟨bb, oo + j * 6 + 2, none⟩ = some (.string (bs M[j].b)) := hc 2 _ rfl
      have d3 : wr.cell? ⟨bb, oo + j * 6 + 3, none⟩ = some (.string (bs M[j].s)) := hc 3 _ rfl
      have d4 : wr.cell? ⟨bb, oo + j * 6 + 4, none⟩ = some (.int .i64 M[j].n) := hc 4 _ rfl
      have d5 : wr.cell? ⟨bb, oo + j * 6 + 5, none⟩ = some (.bool M[j].is) := hc 5 _ rfl
      have hak := Lib.hid (asked_any (E := E) M[j] la wr (fun wx hx => hLw.out wx (hKw.out.trans hx)) hS.out hO.out.1 hnq hO.out.2.2)
      have hser := ask_serial R M[j] la
      have hlen := ask_len R M[j] la
      have hG' := Lib.hid (hO.out.1.ask M[j] la)
      generalize askM R M[j] la = am at *
      generalize M[j] = nn at *
      obtain ⟨kd, ka, kb, ks, kn, ki⟩ := nn
      obtain ⟨at_, R'⟩ := am
      dsimp only at *
      clear hcs hc hnq
      have hk0 : (0 : Int) ≤ (j : Int) := by omega
      have hk1 : (j : Int) < (M.length : Int) := by omega
      have hO' := hO.out.2.1
      go_wp2_with fail
      refine hak.out.mono ?_
      rintro e w4 ⟨rfl, hS4, hOk⟩
      have hS4 := Lib.hid hS4
      have hK4 := Lib.hid (hKw.out.trans hOk.below)
      clear hOk hak d0 d1 d2 d3 d4 d5
      by_cases he : at_ = []
      · subst he
        have he1 : ((bs ([] : List UInt8)).toList == []) = true := by rw [toList_data, bs_list]; rfl
        have he2 : (bs ([] : List UInt8)).toList = [] := by rw [toList_data, bs_list]
        go_wp2_with fail
        go_roundg (M.length - j)
        case measure => omega
        case rel => exact ⟨j + 1, la, R', rfl, by simp, hlt, by omega, Lib.hid ⟨hG'.out, by omega, hO.out.2.2⟩, hS4, hK4⟩
      · have he1 : ((bs at_).toList == []) = false := by rw [toList_data, bs_list, beq_eq_false_iff_ne]; exact he
        go_wp2_with fail
        go_roundg (M.length - j)
        case measure => omega
        case rel => exact ⟨j + 1, at_, R', rfl, by simp, hlt, by omega, Lib.hid ⟨hG'.out, by omega, by omega⟩, hS4, hK4⟩
    · have hge : ¬ ((j : Int) < (M.length : Int)) := by omega
      have hG := Lib.hid hO.out.1
      clear hlt hj hg hMv hMq hO
      obtain ⟨bk, hc4, hfi⟩ := hS.out.find hG.out b
      have hfi := Lib.hid hfi
      have hpf := Lib.hid (fun R1 wx (hx : MidR w.heap.size ra rm R1 R wx) => hx.proof hG.out ⟨[], a, [], [], 0, true⟩ hal)
      go_wp2_with fail
      refine hfi.out.mono ?_
      rintro e w4 ⟨rfl, hb⟩
      have hK4 := Lib.hid (below_trans hKw.out hb)
      have hS4 := Lib.hid (hS.out.below hb)
      clear hb hS hKw hfi hc4
      have hpr0 : ∀ p, findP R.b a = some p → proofOf R ⟨[], a, [], [], 0, true⟩ = (markOf p.key (proofM R a)).1 := fun p hp => by
        unfold proofOf
        dsimp only
        rw [if_pos rfl, hp]
      generalize proofOf R ⟨[], a, [], [], 0, true⟩ = pr at *
      generalize hfx : findIx R.b b = fx at *
      go_wp2_with fail
      refine (hpf.out _ _ hS4.out).mono ?_
      rintro e w5 ⟨rfl, hb⟩
      have hK5 := Lib.hid (below_trans hK4.out hb)
      have hS5 := Lib.hid (hS4.out.below hb)
      clear hb hS4 hK4
      have hlo := Lib.hid (hS5.out.loginP (hLw.out _ hK5.out).s hG.out a b pr hal hbl)
      by_cases hlz : (loginM R a pr b).2.1 = 0
      case neg =>
        have hl1 := (login_bad hlz).1
        generalize loginM R a pr b = lm at *
        obtain ⟨lt, lc, R1⟩ := lm
        dsimp only at *
        subst hl1
        obtain ⟨T1, x1, hev⟩ := errV_ifc E hlz
        rw [hev] at hlo
        clear hev hlz hpr0 hfx
        go_wp2_with fail
        refine hlo.out.mono ?_
        rintro e w6 ⟨rfl, hS6, hOk⟩
        have hK6 := Lib.hid (hK5.out.trans hOk.below)
        clear hOk
        have he1 : ((bs ([] : List UInt8)).toList == []) = true := by rw [toList_data, bs_list]; rfl
        have he2 : (bs ([] : List UInt8)).toList = [] := by rw [toList_data, bs_list]
        go_wp2_with fail
        go_ret
        exact ⟨rfl, hK6.out⟩
      obtain ⟨p, s, hfa, hfb, hof, hos, hrt, ht, hsr, hsk, hte, hlm⟩ := login_zero hlz
      rw [hlm] at hlo
      dsimp only at hlo
      simp only [errV] at hlo
      have hGM := Lib.hid (show GoodM { R with serial := R.serial + 1 } from hG.out.more hsr)
      have hfacts := Lib.hid (fun hz => revokes_facts hG.out rfl hGM.out hfa hfb hof hos ht hsk hte hz)
      obtain ⟨F0, f01, f02, _⟩ := hGM.out.floors
      have hopn := Lib.hid (openT_make hsk hte)
      have hpr := Lib.hid (hpr0 p hfa)
      obtain ⟨ks, hks, hkx, hke⟩ := idx_of hfb
      rw [hfx] at hkx
      subst hkx
      have hks0 : ¬ ((ks : Int) < 0) := by omega
      have hks1 : (0 : Int) ≤ (ks : Int) := by omega
      have hks2 : (ks : Int) < (R.b.length : Int) := by omega
      generalize hsl : sealText s.key (tickWords (tickM R a b p)) = sl at *
      have hslen : sl.length ≤ 221 := by
        have := login_len R a pr b
        rw [hlm] at this
        exact this
      clear hpr0 hfx hlz hfa hfb hrt hlm
      go_wp2_with fail
      refine hlo.out.mono ?_
      rintro e w6 ⟨rfl, hS6, hOk⟩
      have hK6 := Lib.hid (hK5.out.trans hOk.below)
      have hS6 := Lib.hid hS6
      obtain ⟨bk6, g6, c6, k0, k1, k2⟩ := hS6.out.keyAt hks
      rw [hke] at k2
      clear hOk hS5 hK5 hlo
      have hop := (show Calls Tryz.prog 14 #[.int .i64 s.key, .string (bs sl)] w6 fun e w' => e = .returned (.tuple #[(openT s.key sl).1.val, errV E (openT s.key sl).2]) ∧ Below w6.heap.size w6 w' from open_tick s.key (bs sl) w6 (hLw.out _ hK6.out).s (by rw [bs_size]; omega))
      rw [hopn.out] at hop
      simp only [errV, Tick.val, tickM] at hop
      generalize min (R.time + R.long) 1000000 = til at hop
      have hop := Lib.hid hop
      go_wp2_with fail
      refine hop.out.mono ?_
      rintro e w7' ⟨rfl, hb⟩
      have hx := hb.alloc hb.size (.cells #[.string (bs a), .string (bs b), .int .i64 p.epoch, .int .i64 R.time, .int .i64 til, .int .i64 R.serial] 51)
      have hT := heap_alloc_new w7' (.cells #[.string (bs a), .string (bs b), .int .i64 p.epoch, .int .i64 R.time, .int .i64 til, .int .i64 R.serial] 51)
      have hK7 := Lib.hid (below_trans hK6.out hx)
      have hS7 := Lib.hid (hS6.out.below hx)
      clear hb hx hop k0 k1 k2 hK6 hS6
      go_upto_region 23 with fail
      generalize w7'.heap.size = xt at *
      generalize w7'.alloc (.cells #[.string (bs a), .string (bs b), .int .i64 p.epoch, .int .i64 R.time, .int .i64 til, .int .i64 R.serial] 51) = w7 at *
      have hT7 := Lib.hid hT
      clear hT
      obtain ⟨t0, t1, _, _, _, _⟩ := (six_of hT7.out).1
      have hfe := Lib.hid (hS7.out.feed hGM.out)
      go_wp2_with fail
      refine hfe.out.mono ?_
      rintro e w8 ⟨⟨v8, rfl, hr⟩, hb⟩
      have hK8 := Lib.hid (below_trans hK7.out hb)
      have hS8 := Lib.hid (hS7.out.below hb)
      have hT8 := Lib.hid (heap_down hb hT7.out)
      clear t0 t1
      have hfl := Lib.hid (floors_ent (E := E) v8 _ w8 (hLw.out _ hK8.out).s.laid (RowG.at_ hr) (ents_who (congrArg Prod.fst (hGM.out).f)))
      clear hb hr hfe
      go_wp2_with fail
      refine hfl.out.mono ?_
      rintro e w9 ⟨hres, hb⟩
      obtain ⟨v9, rfl, hF⟩ := floors_res hres f01
      have hK9 := Lib.hid (below_trans hK8.out hb)
      have hS9 := Lib.hid (hS8.out.below hb)
      have hT9 := Lib.hid (heap_down hb hT8.out)
      have hF9 := Lib.hid hF
      clear hb hfl hres hF hK7 hS7 hT7 hK8 hS8 hT8
      have hrv := Lib.hid (hS9.out.revokeP (hLw.out _ hK9.out).s hGM.out a ham)
      by_cases hrz : (revokeM { R with serial := R.serial + 1 } a).2.1 = 0
      case neg =>
        have hn0 := revoke_bad hrz
        clear hfacts
        generalize revokeM { R with serial := R.serial + 1 } a = rv at *
        obtain ⟨n, c2, R2⟩ := rv
        dsimp only at *
        subst hn0
        obtain ⟨T1, x1, hev⟩ := errV_ifc E hrz
        rw [hev] at hrv
        clear hev hrz
        go_wp2_with fail
        refine hrv.out.mono ?_
        rintro e w10 ⟨rfl, _, hOk⟩
        have hfin := Lib.hid (hK9.out.trans hOk.below)
        clear hOk
        go_wp2_with fail
        go_ret
        exact ⟨rfl, hfin.out⟩
      obtain ⟨F, F2, q1, q2, q3, q4, q5, q6, q7, q8, q9, q10⟩ := hfacts.out hrz
      have hFF : F0 = F := (Prod.mk.inj (f01.symm.trans q1)).1
      subst hFF
      clear q1 hfacts f01 hopn
      rw [← hpr.out] at q10
      generalize revokeM { R with serial := R.serial + 1 } a = rv at *
      obtain ⟨n, c2, R2⟩ := rv
      dsimp only at *
      subst hrz
      rw [← q3] at q8
      simp only [errV] at hrv
      have hn1 : ¬ (n ≤ p.epoch) := by omega
      replace q4 := Lib.hid q4
      replace q9 := Lib.hid q9
      replace q3 := Lib.hid q3
      replace q5 := Lib.hid q5
      replace q7 := Lib.hid q7
      replace q8 := Lib.hid q8
      replace q10 := Lib.hid q10
      have hn9 := Lib.hid hn1
      have hok := Lib.hid (And.intro hof (And.intro hos (And.intro hsk hte)))
      have hks3 := Lib.hid hke
      clear hn1 hpr hof hos hsk hte hsr ht hke
      generalize hsk' : s.key = sk at *
      clear hsk'
      go_wp2_with fail
      refine hrv.out.mono ?_
      rintro e w10 ⟨rfl, hS10, hOk⟩
      have hK10 := Lib.hid (hK9.out.trans hOk.below)
      have hS10 := Lib.hid hS10
      have hT10 := Lib.hid (hOk.kept _ _ _ _ hT9.out (by decide))
      have hF10 := Lib.hid (hF9.out.ok hOk)
      clear hOk hrv hK9 hS9 hT9 hF9
      have hfe := Lib.hid (hS10.out.feed q4.out)
      go_wp2_with fail
      refine hfe.out.mono ?_
      rintro e w11 ⟨⟨v11, rfl, hr⟩, hb⟩
      have hK11 := Lib.hid (below_trans hK10.out hb)
      have hS11 := Lib.hid (hS10.out.below hb)
      have hT11 := Lib.hid (heap_down hb hT10.out)
      have hG11 := Lib.hid (hF10.out.below hb)
      have hfl := Lib.hid (floors_ent (E := E) v11 _ w11 (hLw.out _ hK11.out).s.laid (RowG.at_ hr) (ents_who (congrArg Prod.fst (q4.out).f)))
      clear hb hr hfe
      go_wp2_with fail
      refine hfl.out.mono ?_
      rintro e w12 ⟨hres, hb⟩
      obtain ⟨v12, rfl, hF⟩ := floors_res hres q5.out
      have hK12 := Lib.hid (below_trans hK11.out hb)
      have hS12 := Lib.hid (hS11.out.below hb)
      have hT12 := Lib.hid (heap_down hb hT11.out)
      have hF12 := Lib.hid hF
      have hG12 := Lib.hid (hG11.out.below hb)
      clear hb hfl hres hF hK10 hS10 hT10 hK11 hS11 hT11
      have hp1 := Lib.hid (fun B wx (hx : FlRow wx B v9 F0) => passes_flo v9 F0 a p.epoch wx (flo_at hx q2) (goodF_names q2))
      rw [decide_eq_true q7.out] at hp1
      have hp2 := Lib.hid (fun B wx (hx : FlRow wx B v12 F2) => passes_flo v12 F2 a p.epoch wx (flo_at hx q6) (goodF_names q6))
      rw [decide_eq_false (by have := hn9.out; have := q8.out; omega)] at hp2
      have hp3 := Lib.hid (fun B wx (hx : FlRow wx B v12 F2) => of_flo v12 F2 a wx (flo_at hx q6) (goodF_names q6))
      rw [q8.out] at hp3
      have hp1 := Lib.hid (hp1.out _ _ hG12.out)
      clear hF10 hG11
      obtain ⟨_, _, t2, _, _, _⟩ := (six_of hT12.out).1
      go_wp2_with fail
      refine hp1.out.mono ?_
      rintro e w13 ⟨rfl, hb⟩
      have hK13 := Lib.hid (below_trans hK12.out hb)
      have hS13 := Lib.hid (hS12.out.below hb)
      have hT13 := Lib.hid (heap_down hb hT12.out)
      have hF13 := Lib.hid (hF12.out.below hb)
      have hp2 := Lib.hid (hp2.out _ _ hF13.out)
      clear hb hp1 hK12 hS12 hT12 hF12 hG12 t2
      obtain ⟨_, _, t2, _, _, _⟩ := (six_of hT13.out).1
      go_wp2_with fail
      refine hp2.out.mono ?_
      rintro e w14 ⟨rfl, hb⟩
      have hK14 := Lib.hid (below_trans hK13.out hb)
      have hS14 := Lib.hid (hS13.out.below hb)
      have hT14 := Lib.hid (heap_down hb hT13.out)
      have hF14 := Lib.hid (hF13.out.below hb)
      have hp3 := Lib.hid (hp3.out _ _ hF14.out)
      clear hb hp2 hK13 hS13 hT13 hF13 t2
      obtain ⟨_, _, t2, _, _, _⟩ := (six_of hT14.out).1
      have hn1 := hn9.out
      go_wp2_with fail
      refine hp3.out.mono ?_
      rintro e w15 ⟨rfl, hb⟩
      have hK15 := Lib.hid (below_trans hK14.out hb)
      have hS15 := Lib.hid (hS14.out.below hb)
      have hT15 := Lib.hid (heap_down hb hT14.out)
      have hF15 := Lib.hid (hF14.out.below hb)
      clear hb hp3 hK14 hS14 hT14 hF14 t2 hn1
      have hrn := hS15.out.renewP (hLw.out _ hK15.out).s q4.out sl b (by omega) hbl
      rw [q9.out] at hrn
      dsimp only at hrn
      obtain ⟨T1, x1, hev⟩ := errV_ifc E (c := 13) (by decide)
      have hcd13 := Lib.hid (fun wx (hx : Below w.heap.size w wx) => (show Calls Tryz.prog 21 #[errV E 13, .int .i64 13] wx fun e w' => e = .returned (.bool true) ∧ Below wx.heap.size wx w' from coded_same 13 wx (hLw.out _ hx).r (by decide)))
      rw [hev] at hrn hcd13
      replace hrn := Lib.hid hrn
      clear hev
      go_wp2_with fail
      refine hrn.out.mono ?_
      rintro e w16 ⟨rfl, hS16, hOk⟩
      have hK16 := Lib.hid (hK15.out.trans hOk.below)
      have hS16 := Lib.hid hS16
      have hT16 := Lib.hid (hOk.kept _ _ _ _ hT15.out (by decide))
      have hF16 := Lib.hid (hF15.out.ok hOk)
      clear hOk hrn hK15 hS15 hT15 hF15
      by_cases hab : a = b
      case pos =>
        have hse : ((bs a).toList == (bs b).toList) = true := bs_beq_true hab
        clear hcd13 hab
        have hpf := Lib.hid (hpf.out _ _ hS16.out)
        go_wp2_with fail
        refine hpf.out.mono ?_
        rintro e w17 ⟨rfl, hb⟩
        have hK17 := Lib.hid (below_trans hK16.out hb)
        have hS17 := Lib.hid (hS16.out.below hb)
        have hT17 := Lib.hid (heap_down hb hT16.out)
        have hF17 := Lib.hid (hF16.out.below hb)
        clear hb hpf hK16 hS16 hT16 hF16
        have hlo := hS17.out.loginP (hLw.out _ hK17.out).s q4.out a b pr hal hbl
        rcases q10.out with q10 | ⟨t2, u1, u2, u3, u4, u5⟩
        · rw [q10] at hlo
          dsimp only at hlo
          obtain ⟨T2, x2, hev⟩ := errV_ifc E (c := 2) (by decide)
          have hcd := Lib.hid (fun wx (hx : Below w.heap.size w wx) => (show Calls Tryz.prog 21 #[errV E 2, .int .i64 2] wx fun e w' => e = .returned (.bool true) ∧ Below wx.heap.size wx w' from coded_same 2 wx (hLw.out _ hx).r (by decide)))
          rw [hev] at hlo hcd
          replace hlo := Lib.hid hlo
          clear hev
          go_wp2_with fail
          refine hlo.out.mono ?_
          rintro e w18 ⟨rfl, _, hOk⟩
          have hK18 := Lib.hid (hK17.out.trans hOk.below)
          clear hOk hlo
          go_wp2_with fail
          refine (hcd.out _ hK18.out).mono ?_
          rintro e w19 ⟨rfl, hb⟩
          have hfin := Lib.hid (below_trans hK18.out hb)
          clear hb
          go_wp2_with fail
          go_ret
          exact ⟨rfl, hfin.out⟩
        · have hl2 := login_len R2 a pr b
          generalize loginM R2 a pr b = lm2 at *
          obtain ⟨lt2, lc2, R3⟩ := lm2
          dsimp only at *
          subst u2
          rw [← u1] at u3
          simp only [errV] at hlo
          obtain ⟨uw, us, ue, ug, uf, ur⟩ := t2
          dsimp only at u4 u5
          have hue : ue = n := u4.trans q3.out.symm
          subst ue
          have hop := fun wx (hx : Below w.heap.size w wx) => (show Calls Tryz.prog 14 #[.int .i64 sk, .string (bs lt2)] wx fun e w' => e = .returned (.tuple #[(openT sk lt2).1.val, errV E (openT sk lt2).2]) ∧ Below wx.heap.size wx w' from open_tick sk (bs lt2) wx (hLw.out _ hx).s (by rw [bs_size]; omega))
          rw [u3] at hop
          simp only [errV, Tick.val] at hop
          replace hop := Lib.hid hop
          replace hlo := Lib.hid hlo
          have hps := Lib.hid (fun B wx (hx : FlRow wx B v12 F2) => passes_flo v12 F2 a n wx (flo_at hx q6) (goodF_names q6))
          rw [decide_eq_true (by have := q8.out; omega : ofF F2 a ≤ n)] at hps
          clear u1 u3
          go_wp2_with fail
          refine hlo.out.mono ?_
          rintro e w18 ⟨rfl, _, hOk⟩
          have hK18 := Lib.hid (hK17.out.trans hOk.below)
          have hT18 := Lib.hid (hOk.kept _ _ _ _ hT17.out (by decide))
          have hF18 := Lib.hid (hF17.out.ok hOk)
          clear hOk hlo hK17 hT17 hF17
          go_wp2_with fail
          refine (hop.out _ hK18.out).mono ?_
          rintro e w19 ⟨rfl, hb⟩
          have hx := hb.alloc hb.size (.cells #[.string (bs uw), .string (bs us), .int .i64 n, .int .i64 ug, .int .i64 uf, .int .i64 ur] 51)
          have hU := heap_alloc_new w19 (.cells #[.string (bs uw), .string (bs us), .int .i64 n, .int .i64 ug, .int .i64 uf, .int .i64 ur] 51)
          have hK19 := Lib.hid (below_trans hK18.out hx)
          have hT19 := Lib.hid (heap_down hx hT18.out)
          have hF19 := Lib.hid (hF18.out.below hx)
          have hps := Lib.hid (hps.out _ _ hF19.out)
          clear hb hx hop hK18 hT18 hF18
          go_upto_region 41 with fail
          generalize w19.heap.size = xu at *
          generalize w19.alloc (.cells #[.string (bs uw), .string (bs us), .int .i64 n, .int .i64 ug, .int .i64 uf, .int .i64 ur] 51) = wu at *
          have hU := Lib.hid hU
          obtain ⟨_, _, y2, _, _, _⟩ := (six_of hU.out).1
          go_wp2_with fail
          refine hps.out.mono ?_
          rintro e w20 ⟨rfl, hb⟩
          have hfin := Lib.hid (below_trans hK19.out hb)
          obtain ⟨_, _, _, _, _, y5⟩ := (six_of (heap_down hb hU.out)).1
          obtain ⟨_, _, _, _, _, z5⟩ := (six_of (heap_down hb hT19.out)).1
          clear hb y2
          go_wp2_with fail
          go_ret
          exact ⟨rfl, hfin.out⟩
      have hse : ((bs a).toList == (bs b).toList) = false := bs_beq_ne hab
      clear hab
      have hcd16 := Lib.hid (hcd13.out _ hK16.out)
      clear hcd13
      go_wp2_with fail
      refine hcd16.out.mono ?_
      rintro e w17 ⟨rfl, hb⟩
      have hK17 := Lib.hid (below_trans hK16.out hb)
      have hS17 := Lib.hid (hS16.out.below hb)
      have hT17 := Lib.hid (heap_down hb hT16.out)
      have hF17 := Lib.hid (hF16.out.below hb)
      have hz1 : ((bs ([] : List UInt8)).toList == []) = true := by rw [toList_data, bs_list]; rfl
      have hz2 : (bs ([] : List UInt8)).toList = [] := by rw [toList_data, bs_list]
      clear hb hcd16 hK16 hS16 hT16 hF16 hse
      have hpf := Lib.hid (hpf.out _ _ hS17.out)
      go_wp2_with fail
      refine hpf.out.mono ?_
      rintro e w18 ⟨rfl, hb⟩
      have hK18 := Lib.hid (below_trans hK17.out hb)
      have hS18 := Lib.hid (hS17.out.below hb)
      have hT18 := Lib.hid (heap_down hb hT17.out)
      have hF18 := Lib.hid (hF17.out.below hb)
      clear hb hpf hK17 hS17 hT17 hF17
      have hlo := hS18.out.loginP (hLw.out _ hK18.out).s q4.out a b pr hal hbl
      rcases q10.out with q10 | ⟨t2, u1, u2, u3, u4, u5⟩
      · rw [q10] at hlo
        dsimp only at hlo
        obtain ⟨T2, x2, hev⟩ := errV_ifc E (c := 2) (by decide)
        have hcd := Lib.hid (fun wx (hx : Below w.heap.size w wx) => (show Calls Tryz.prog 21 #[errV E 2, .int .i64 2] wx fun e w' => e = .returned (.bool true) ∧ Below wx.heap.size wx w' from coded_same 2 wx (hLw.out _ hx).r (by decide)))
        rw [hev] at hlo hcd
        replace hlo := Lib.hid hlo
        clear hev
        go_wp2_with fail
        refine hlo.out.mono ?_
        rintro e w19 ⟨rfl, _, hOk⟩
        have hK19 := Lib.hid (hK18.out.trans hOk.below)
        clear hOk hlo
        go_wp2_with fail
        refine (hcd.out _ hK19.out).mono ?_
        rintro e w20 ⟨rfl, hb⟩
        have hfin := Lib.hid (below_trans hK19.out hb)
        clear hb
        go_wp2_with fail
        go_ret
        exact ⟨rfl, hfin.out⟩
      · have hl2 := login_len R2 a pr b
        generalize loginM R2 a pr b = lm2 at *
        obtain ⟨lt2, lc2, R3⟩ := lm2
        dsimp only at *
        subst u2
        rw [← u1] at u3
        simp only [errV] at hlo
        obtain ⟨uw, us, ue, ug, uf, ur⟩ := t2
        dsimp only at u4 u5
        have hue : ue = n := u4.trans q3.out.symm
        subst ue
        have hop := fun wx (hx : Below w.heap.size w wx) => (show Calls Tryz.prog 14 #[.int .i64 sk, .string (bs lt2)] wx fun e w' => e = .returned (.tuple #[(openT sk lt2).1.val, errV E (openT sk lt2).2]) ∧ Below wx.heap.size wx w' from open_tick sk (bs lt2) wx (hLw.out _ hx).s (by rw [bs_size]; omega))
        rw [u3] at hop
        simp only [errV, Tick.val] at hop
        replace hop := Lib.hid hop
        replace hlo := Lib.hid hlo
        have hps := Lib.hid (fun B wx (hx : FlRow wx B v12 F2) => passes_flo v12 F2 a n wx (flo_at hx q6) (goodF_names q6))
        rw [decide_eq_true (by have := q8.out; omega : ofF F2 a ≤ n)] at hps
        clear u1 u3
        go_wp2_with fail
        refine hlo.out.mono ?_
        rintro e w19 ⟨rfl, _, hOk⟩
        have hK19 := Lib.hid (hK18.out.trans hOk.below)
        have hT19 := Lib.hid (hOk.kept _ _ _ _ hT18.out (by decide))
        have hF19 := Lib.hid (hF18.out.ok hOk)
        clear hOk hlo hK18 hT18 hF18
        go_wp2_with fail
        refine (hop.out _ hK19.out).mono ?_
        rintro e w20 ⟨rfl, hb⟩
        have hx := hb.alloc hb.size (.cells #[.string (bs uw), .string (bs us), .int .i64 n, .int .i64 ug, .int .i64 uf, .int .i64 ur] 51)
        have hU := heap_alloc_new w20 (.cells #[.string (bs uw), .string (bs us), .int .i64 n, .int .i64 ug, .int .i64 uf, .int .i64 ur] 51)
        have hK20 := Lib.hid (below_trans hK19.out hx)
        have hT20 := Lib.hid (heap_down hx hT19.out)
        have hF20 := Lib.hid (hF19.out.below hx)
        have hps := Lib.hid (hps.out _ _ hF20.out)
        clear hb hx hop hK19 hT19 hF19
        go_upto_region 41 with fail
        generalize w20.heap.size = xu at *
        generalize w20.alloc (.cells #[.string (bs uw), .string (bs us), .int .i64 n, .int .i64 ug, .int .i64 uf, .int .i64 ur] 51) = wu at *
        have hU := Lib.hid hU
        obtain ⟨_, _, y2, _, _, _⟩ := (six_of hU.out).1
        go_wp2_with fail
        refine hps.out.mono ?_
        rintro e w21 ⟨rfl, hb⟩
        have hfin := Lib.hid (below_trans hK20.out hb)
        obtain ⟨_, _, _, _, _, y5⟩ := (six_of (heap_down hb hU.out)).1
        obtain ⟨_, _, _, _, _, z5⟩ := (six_of (heap_down hb hT20.out)).1
        clear hb y2
        go_wp2_with fail
        go_ret
        exact ⟨rfl, hfin.out⟩
end Go.Proofs.YtkhphdkjnpcnnaaGreatDoor
