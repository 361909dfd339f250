/- TapeCuts, walked. -/
import Derived.Test.YtphjjaanclpagaaDoorTapeC
import Derived.Deep.CutRange
import Derived.Deep.CutBlock
namespace Go.Proofs.YtphjjaanclpagaaDoor
open Go.RowKit Go.Sort

theorem append_len {d : Dsk} {s : List UInt8} (hs : s.length ≤ 200) : (appendD d s).2.b.length ≤ d.b.length + 213 ∧ ((appendD d s).2.cut ≤ max d.cut 0) := by
  have hr := recordT_len (s := s) (by omega)
  unfold appendD
  split
  · exact ⟨by dsimp only; omega, by dsimp only; omega⟩
  split
  · exact ⟨by dsimp only; omega, by dsimp only; omega⟩
  unfold writeD
  split
  · exact ⟨by dsimp only; omega, by dsimp only; omega⟩
  split
  · refine ⟨?_, by simp only; omega⟩
    simp only [List.length_append, List.length_take]
    omega
  · refine ⟨?_, ?_⟩
    · simp only [List.length_append]
      omega
    · simp only
      split <;> omega
def moreT : List UInt8 := [111, 110, 101, 32, 109, 111, 114, 101]
theorem more_rec : (recordT moreT).length = 12 := by decide +kernel
theorem more_append {b : List UInt8} (h : b.length ≤ 100000) : appendD ⟨b, false, -1⟩ moreT = (0, ⟨b ++ recordT moreT, false, -1⟩) := by
  unfold appendD
  rw [if_neg (by decide), if_neg (by rw [more_rec]; simp only; omega)]
  unfold writeD
  rw [if_neg (by simp), if_neg (by simp), if_neg (by simp)]
theorem diskOf_fit {d : Dsk} {l : List (List UInt8)} (h : DiskOf d l) : (flatR (readT d.b)).length ≤ d.b.length ∧ d.b.take (flatR (readT d.b)).length = flatR (readT d.b) := by
  rw [readT_disk h]
  obtain ⟨_, t, e, _⟩ := h
  rw [e]
  exact ⟨by simp, by simp⟩
theorem diskOf_new (cut : Int) : DiskOf ⟨[], false, cut⟩ [] := ⟨by simp, [], rfl, oneT_nil, fun _ => rfl⟩
theorem more_read {l : List (List UInt8)} (hs : ∀ s ∈ l, s.length ≤ 4000) : readT (flatR l ++ recordT moreT) = l ++ [moreT] ∧ (flatR (readT (flatR l ++ recordT moreT))).length = (flatR l ++ recordT moreT).length := by
  have e : flatR l ++ recordT moreT = flatR (l ++ [moreT]) := by rw [flatR_append]; simp [flatR]
  have h : readT (flatR (l ++ [moreT])) = l ++ [moreT] := by
    have := readT_of (l := l ++ [moreT]) (t := []) (fun s h => by
      rcases List.mem_append.1 h with h | h
      · exact hs s h
      · simp at h; subst h; decide) oneT_nil
    rwa [List.append_nil] at this
  rw [e, h]
  exact ⟨rfl, rfl⟩
set_option maxHeartbeats 8000000 in
set_option maxRecDepth 100000 in
theorem tapeCuts_any {E : Nat → Addr} (x : Value) (L : List (List UInt8)) (cut : Int) (w : World) (hL : LaidS E w) (hx : TextsAt w x L) (hm : ∀ s ∈ L, s.length ≤ maxLen) (hcut : cut ≤ 9223372036854775807) :
    Calls Tryd.prog 5 #[x, .int .i64 cut] w fun e w' => e = .returned (.bool true) ∧ Below w.heap.size w w' := by
  obtain ⟨i0, hi, hz0, hz1, hz2⟩ := info_parts info_str
  have htp := Lib.hid (taped_any (E := E) w hL)
  have hlt := off_lt hL
  have hxH := Lib.hid hx
  have hmH := Lib.hid hm
  obtain ⟨a, c, rfl, hml, _, _⟩ := id hx
  unfold maxLen at hml
  clear hx hm
  by_cases h30 : 30 < L.length
  · have h30i : (30 : Int) < (L.length : Int) := by omega
    go_enter Tryd.func5, Tryd.ntmps5
    go_wp2_with fail
    refine htp.out.mono ?_
    rintro e w1 ⟨rfl, hb1⟩
    have hb1 := Lib.hid hb1
    go_wp2_with fail
    go_ret
    exact ⟨rfl, hb1.out⟩
  have h30i : ¬ (30 : Int) < (L.length : Int) := by omega
  by_cases hc0 : cut < 0
  · go_enter Tryd.func5, Tryd.ntmps5
    go_wp2_with fail
    refine htp.out.mono ?_
    rintro e w1 ⟨rfl, hb1⟩
    have hb1 := Lib.hid hb1
    go_wp2_with fail
    go_ret
    exact ⟨rfl, hb1.out⟩
  have hscH := Lib.hid (show setCutD ⟨[], false, -1⟩ cut = (0, ⟨[], false, cut⟩) from by unfold setCutD; rw [if_neg hc0, if_neg (by decide)])
  go_enter Tryd.func5, Tryd.ntmps5
  go_wp2_with fail
  refine htp.out.mono ?_
  rintro e w1 ⟨rfl, hb1⟩
  have hnd := Lib.hid (newdisk_any [] w1 (by decide))
  have hb1 := Lib.hid hb1
  go_wp2_with fail
  refine hnd.out.mono ?_
  rintro e w2 ⟨b, rfl, hd2, hb2⟩
  have hL2 := (hL.below hb1.out).below hb2
  have hcu := setcut_any (E := E) w1.heap.size b ⟨[], false, -1⟩ cut w2 hL2.laid hd2
  rw [hscH.out] at hcu
  have hcu := Lib.hid hcu
  have hb2H := Lib.hid hb2
  clear hnd hd2 hL2 hb2
  go_wp2_with fail
  refine hcu.out.mono ?_
  rintro e w3 ⟨rfl, hk3, hd3⟩
  have hb3 := Lib.hid (hb2H.out.trans (hk3.below hb2H.out.size (fun _ h => h.lt)))
  have hd3 := Lib.hid hd3
  clear hcu hk3
  simp only [errV]
  go_wp2_with fail
  have hlt1 : 6 < w1.heap.size := Nat.lt_of_lt_of_le hlt hb1.out.size
  have hL1 := Lib.hid (hL.below hb1.out)
  generalize hbs : w1.heap.size = base at *
  have hbs1 : base ≤ w1.heap.size := by omega
  have hbs2 : w1.heap.size ≤ base := by omega
  clear hbs
  go_loopg [8, 9] (L.length + 1) (fun g v i wr => ∃ (j : Nat) (M : List (List UInt8)) (d : Dsk), i = .int .i64 j ∧ j ≤ L.length ∧ L.length - j + 1 ≤ g ∧ M.length ≤ j ∧ d.b.length ≤ j * 213 ∧ d.cut ≤ 9223372036854775807 ∧ Hid (DiskOf d M ∧ DiskAt wr base b d ∧ TxRow wr base v M) ∧ Hid (Below base w1 wr))
  case atStart => exact ⟨0, [], ⟨[], false, cut⟩, rfl, Nat.zero_le _, by omega, Nat.le_refl _, by simp, hcut, Lib.hid ⟨diskOf_new cut, hd3.out, TxRow.nil _ _⟩, hb3⟩
  case round =>
    obtain ⟨j, M, d, rfl, hj, hg, hMj, hdj, hdc, hR, hK⟩ := hrel
    obtain ⟨av, cv, rfl⟩ := hR.out.2.2.sl
    have hsz : base ≤ wr.heap.size := Nat.le_trans hbs1 hK.out.size
    by_cases hlt2 : j < L.length
    · obtain ⟨_, _, he, _, _, hcx⟩ := hxH.out
      cases he
      obtain ⟨bx, ox, rfl, h0⟩ := hcx j hlt2
      have h0a := cell_below hb1.out h0
      have h0 := hK.out.cell (p := ⟨bx, ox + j, none⟩) (Nat.lt_of_lt_of_le (World.block_lt_of_cell? w1 _ h0a) hbs2) |>.trans h0a
      have hsz2 := bs_size L[j]
      have hmj := hmH.out L[j] (List.getElem_mem hlt2)
      have hk0 : (0 : Int) ≤ (j : Int) := by omega
      have hk1 : (j : Int) < (L.length : Int) := by omega
      unfold maxLen at hmj
      have h0a := Lib.hid h0a
      clear hcx
      by_cases h200 : 200 < L[j].length
      · have h200i : (200 : Int) < (L[j].length : Int) := by omega
        have hfin := Lib.hid (hb1.out.trans (hK.out.mono (Nat.le_trans hb1.out.size hbs2)))
        go_wp2_with fail
        go_ret
        exact ⟨rfl, hfin.out⟩
      · have h200i : ¬ (200 : Int) < (L[j].length : Int) := by omega
        have hap := append_any (E := E) base b d L[j] wr (hL1.out.below (hK.out.mono hbs2)) hR.out.2.1 (by unfold maxLen; omega) (by omega) hsz hlt1 hdc
        have hal := append_len (d := d) (s := L[j]) (by omega)
        obtain ⟨hal1, hal2⟩ := hal
        have hdo := diskOf_append hR.out.1 L[j]
        have hrow := Lib.hid hR.out.2.2
        generalize hq : appendD d L[j] = q at *
        obtain ⟨cd, d'⟩ := q
        dsimp only at hap hal1 hal2 hdo
        have hap := Lib.hid hap
        clear hq hR
        cases cd with
        | zero =>
          have hdoH := Lib.hid (hdo.1 rfl)
          clear hdo
          have hbx : bx < base := Nat.lt_of_lt_of_le (World.block_lt_of_cell? w1 _ h0a.out) hbs2
          go_wp2_with fail
          refine hap.out.mono ?_
          rintro e w4 ⟨rfl, hk4, hd4⟩
          have h4 := hk4.cell h0 (fun h => by have := h.lt; simp only at this; omega)
          have hrow4 := hrow.out.keeps hk4 hrow.out.off_disk
          have hK4 := hK.out.trans (hk4.below hsz (fun _ h => h.lt))
          have hs4 : base ≤ w4.heap.size := Nat.le_trans hsz hk4.size
          have hd4 := Lib.hid hd4
          have hrow4 := Lib.hid hrow4
          have hK4 := Lib.hid hK4
          simp only [errV]
          clear hk4 hap
          go_wp2_with (first
            | (at_builtin; refine wpList_append_own_at _ rfl _ _ 30 rfl base 9 i0 (.string ⟨#[]⟩) 1 16 Tryd.underlying30 hi hz0 hz1 hz2 rfl (by decide) _ _ _ rfl (World.ownsRow.alloc hrow4.out _) ⟨w4.heap.size, 0, none⟩ 1 1 [.string (bs L[j])] rfl ?hl ?c1 ?c2 ?c3 ?c4 ?c5 ?_)
            | go_in)
          case hl => rfl
          case c1 => exact cell_one_new _ _ _
          case c2 => intro u hu; simp at hu; subst hu; rfl
          case c3 => unfold maxLen; omega
          case c4 => omega
          case c5 => rw [World.size_alloc]; omega
          intro v5 w5 hown5 hgrow5 _ _
          have hrow5 : TxRow w5 base v5 (M ++ [L[j]]) := by
            unfold TxRow
            rw [List.map_append, List.length_append]
            exact hown5
          have hA4 := (Below.refl w4.heap.size w4).alloc (Nat.le_refl _) (.cells #[.string (bs L[j])] 9)
          have hk5 : Keeps (fun k => (Value.slice av M.length cv).ownBlock = some k) (w4.alloc (.cells #[.string (bs L[j])] 9)) w5 := ⟨hgrow5.os, hgrow5.tape, hgrow5.output, hgrow5.size, fun k hk hs => hgrow5.block k hk (fun e => hs e.symm)⟩
          have hd5 : DiskAt w5 base b d' := (hd4.out.below hA4).keeps hk5 (fun k hk he => (TxRow.below hrow4.out hA4).off_disk k he hk)
          have hK5 : Below base w1 w5 := (hK4.out.alloc hs4 _).grown hgrow5 (by rw [World.size_alloc]; omega) (fun k hk => (World.ownsRow.lt hrow4.out k hk).1)
          obtain ⟨a5, c5, rfl⟩ := hrow5.sl
          have hR5 := Lib.hid (show DiskOf d' (M ++ [L[j]]) ∧ DiskAt w5 base b d' ∧ TxRow w5 base _ (M ++ [L[j]]) from ⟨hdoH.out, hd5, hrow5⟩)
          have hK5 := Lib.hid hK5
          have hll : (M ++ [L[j]]).length = M.length + 1 := by simp
          clear hown5 hgrow5 hrow5 hA4 hk5 hd5
          go_wp2_with fail
          go_roundg (L.length - j)
          case measure => omega
          case rel => exact ⟨j + 1, M ++ [L[j]], d', by simp, hlt2, by omega, by rw [hll]; omega, by omega, by omega, (by first | exact hR5 | (have h := hR5.out; rw [hll] at h; exact Lib.hid h)), hK5⟩
        | succ cd =>
          have hdo := Lib.hid (hdo.2 (Nat.succ_ne_zero _))
          go_wp2_with fail
          refine hap.out.mono ?_
          rintro e w4 ⟨rfl, hk4, hd4⟩
          have hR4 := Lib.hid (show DiskOf d' M ∧ DiskAt w4 base b d' ∧ TxRow w4 base (.slice av M.length cv) M from ⟨hdo.out, hd4, hrow.out.keeps hk4 hrow.out.off_disk⟩)
          have hK4 := Lib.hid (hK.out.trans (hk4.below hsz (fun _ h => h.lt)))
          simp only [errV]
          clear hk4 hd4 hap
          go_wp2_with fail
          go_roundg (L.length - j)
          case measure => omega
          case rel => exact ⟨j + 1, M, d', by simp, hlt2, by omega, by omega, by omega, by omega, hR4, hK4⟩
    · have hje : j = L.length := by omega
      have hge : ¬ ((j : Int) < (L.length : Int)) := by omega
      have hge := Lib.hid hje
      obtain ⟨hdo, hd, hrow⟩ := hR.out
      have hrt := readT_disk hdo
      have hre := recover_any (E := E) base b d wr (hL1.out.below (hK.out.mono hbs2)) hd (by omega) hsz (fun wx hk => hL1.out.disk hbs2 hK.out hk hsz) (diskOf_fit hdo)
      have hrc : recoverD d = ⟨flatR M, false, -1⟩ := by unfold recoverD; rw [hrt]
      have hfl : (flatR M).length ≤ d.b.length := by have := (diskOf_fit hdo).1; rwa [hrt] at this
      rw [hrt, hrc] at hre
      have hsm4 := Lib.hid hdo.small
      have hfm : (flatR M).length ≤ 6390 := by omega
      have hre := Lib.hid hre
      have hrow := Lib.hid hrow
      clear hR hdo hd hrt hrc hj hg hdj hdc
      have hjl : ¬ ((j : Int) < (L.length : Int)) := by have := hge.out; omega
      have hML : M.length ≤ 30 := by have := hge.out; omega
      clear hMj
      go_wp2_with fail
      refine hre.out.mono ?_
      rintro e w4 ⟨v4, rfl, hrow4, hk4, hd4⟩
      have hK4 := hK.out.trans (hk4.below hsz (fun _ h => h.lt))
      have hs4 : base ≤ w4.heap.size := Nat.le_trans hsz hk4.size
      have hrow5 := hrow.out.keeps hk4 hrow.out.off_disk
      obtain ⟨a4, c4, rfl⟩ := hrow4.sl
      have hsm := Lib.hid (sameTexts_any _ _ M M w4 (hrow4.at_ (by unfold maxLen; omega)) (hrow5.at_ (by unfold maxLen; omega)))
      have hd4 := Lib.hid hd4
      have hK4 := Lib.hid hK4
      clear hre hk4 hrow4 hrow5 hrow
      go_wp2_with fail
      refine hsm.out.mono ?_
      rintro e w5 ⟨rfl, hb5⟩
      have hd5 := hd4.out.below hb5
      have hK5 := hK4.out.trans (hb5.mono hs4)
      have hs5 : base ≤ w5.heap.size := Nat.le_trans hs4 hb5.size
      have hpw := Lib.hid (power_any base b _ w5 hd5)
      have hap := append_any (E := E) base b _ moreT w5 (hL1.out.below (hK5.mono hbs2)) hd5 (by decide) (by dsimp only; omega) hs5 hlt1 (by dsimp only; omega)
      rw [more_append (by omega)] at hap
      have hap := Lib.hid hap
      have hK5 := Lib.hid hK5
      clear hsm hd4 hb5 hd5
      go_wp2_with fail
      refine hpw.out.mono ?_
      rintro e w6 ⟨rfl, rfl⟩
      go_wp2_with fail
      refine hap.out.mono ?_
      rintro e w7 ⟨rfl, hk7, hd7⟩
      have hK7 := hK5.out.trans (hk7.below hs5 (fun _ h => h.lt))
      have hs7 : base ≤ w7.heap.size := Nat.le_trans hs5 hk7.size
      have hby := Lib.hid (fun wx (hx : Below w7.heap.size w7 wx) => bytes_any base b _ wx (hd7.below hx))
      have hlm := more_rec
      have hln : (flatR M ++ recordT moreT).length = (flatR M).length + (recordT moreT).length := List.length_append
      have hrd := read_any (E := E) (flatR M ++ recordT moreT) w7 (hL1.out.below (hK7.mono hbs2)) (by omega)
      obtain ⟨hr1, hr2⟩ := more_read hsm4.out
      rw [hr2, hr1] at hrd
      have hrd := Lib.hid hrd
      have hK7 := Lib.hid hK7
      simp only [errV]
      have hlnb : (flatR M ++ recordT moreT).length ≤ 100000 := by omega
      have hls := bs_size (flatR M ++ recordT moreT)
      clear hk7 hd7 hr1 hr2 hap hln hlm
      dsimp only at hby
      generalize flatR M ++ recordT moreT = fb at *
      go_wp2_with fail
      refine (hby.out _ (Below.refl _ _)).mono ?_
      rintro e w8 ⟨rfl, rfl⟩
      go_wp2_with fail
      refine hrd.out.mono ?_
      rintro e w9 ⟨v9, rfl, hrow9, hb9⟩
      have hat9 := hrow9.at_ (by simp; unfold maxLen; omega)
      obtain ⟨a9, c9, rfl⟩ := hrow9.sl
      obtain ⟨_, _, he9, _, _, hc9⟩ := hat9
      cases he9
      obtain ⟨b9, o9, rfl, h9⟩ := hc9 M.length (by simp)
      have h9 : w9.cell? ⟨b9, o9 + M.length, none⟩ = some (.string (bs moreT)) := by simpa using h9
      have hK9 := Lib.hid (hK7.out.trans (hb9.mono hs7))
      have hbyN := Lib.hid (hby.out w9 hb9)
      have hfin := Lib.hid (hb1.out.trans (hK9.out.mono (Nat.le_trans hb1.out.size hbs2)))
      have hll : (M ++ [moreT]).length = M.length + 1 := by simp
      have hm0 : (0 : Int) ≤ (M.length : Int) := by omega
      have hm1 : (M.length : Int) < (M.length : Int) + 1 := by omega
      clear hrow9 hc9 hb9
      go_wp2_with fail
      refine hbyN.out.mono ?_
      rintro e w10 ⟨rfl, rfl⟩
      have heq : ((bs moreT).toList == [111, 110, 101, 32, 109, 111, 114, 101]) = true := by rw [toList_data, bs_list]; rfl
      go_wp2_with fail
      go_ret
      exact ⟨rfl, hfin.out⟩
end Go.Proofs.YtphjjaanclpagaaDoor
