/- The reference's ReadTape, walked. -/
import Derived.Test.YtmjbhglmlbgkmaaDoorRefT0
import Derived.Deep.CutRange
import Derived.Deep.CutBlock
namespace Go.Proofs.YtmjbhglmlbgkmaaDoor
open Go.RowKit Go.Sort

theorem numR_le {l : List UInt8} {n : Nat} (h : numOf l = some n) (hn : n ≤ 4000) : numR l 4000 = n := by unfold numR; rw [h]; dsimp only; rw [if_pos (by omega)]
theorem numR_gt {l : List UInt8} {n : Nat} (h : numOf l = some n) (hn : ¬ n ≤ 4000) : numR l 4000 = -1 := by unfold numR; rw [h]; dsimp only; rw [if_neg (by omega)]
theorem numR_no {l : List UInt8} (h : numOf l = none) : numR l 4000 = -1 := by unfold numR; rw [h]
set_option maxHeartbeats 8000000 in
set_option maxRecDepth 100000 in
theorem readTape_any (s : ByteArray) (w : World) (hs : s.size ≤ 1000000) :
    Calls Tryd.prog 32 #[.string s] w fun e w' => ∃ v, e = .returned (.tuple #[v, .int .i64 ((flatR (readT s.data.toList)).length : Nat)]) ∧ TxRow w' w.heap.size v (readT s.data.toList) ∧ Below w.heap.size w w' := by
  obtain ⟨i0, hi, hz0, hz1, hz2⟩ := info_parts info_str
  have hlen : s.data.toList.length = s.size := Array.length_toList
  have hlenH := Lib.hid hlen
  clear hlen
  go_enter Tryd.func32, Tryd.ntmps32
  go_wp2_with fail
  go_loopg [4, 5] (s.size + 1) (fun g8 v i wr => ∃ (l : List (List UInt8)) (k : Nat), i = .int .i64 k ∧ k ≤ s.size ∧ s.size - k + 1 ≤ g8 ∧ l.length ≤ k ∧ Hid ((flatR l).length = k ∧ s.data.toList = flatR l ++ s.data.toList.drop k ∧ ∀ x ∈ l, x.length ≤ 4000) ∧ Hid (TxRow wr w.heap.size v l) ∧ Hid (Below w.heap.size w wr))
  case atStart => exact ⟨[], 0, rfl, Nat.zero_le _, by omega, by simp, Lib.hid ⟨rfl, rfl, by simp⟩, Lib.hid (TxRow.nil _ _), Lib.hid (Below.refl _ _)⟩
  case round =>
    obtain ⟨l, k, rfl, hk, hg, hlk, hI, hrow, hK⟩ := hrel
    obtain ⟨a4, c4, rfl⟩ := hrow.out.sl
    have hend := Lib.hid (show oneT (s.data.toList.drop k) = none → readT s.data.toList = l ∧ (flatR (readT s.data.toList)).length = k from fun ho => by
      obtain ⟨e1, e2, e3⟩ := hI.out
      have h : readT s.data.toList = l := by rw [e2]; exact readT_step e3 ho
      exact ⟨h, by rw [h]; exact e1⟩)
    go_upto_region 3 with fail
    go_upto_block 2 with fail
    go_cut [6] from 9 to 80 (fun s6 wx => wx = wr ∧ ∃ j : Nat, s6 = .int .i64 j ∧ k ≤ j ∧ j ≤ s.size ∧ Hid (∀ q, k ≤ q → q < j → byteAt s q ≠ 58) ∧ Hid (∀ _ : j < s.size, byteAt s j = 58))
    case first =>
      go_wp2_with fail
      go_loopw [6] (fun i wx => ∃ j : Nat, i = .int .i64 j ∧ k ≤ j ∧ j ≤ s.size ∧ wx = wr ∧ Hid (∀ q, k ≤ q → q < j → byteAt s q ≠ 58)) (fun i _ => s.size - (intOf i).toNat)
      case atStart => exact ⟨k, rfl, Nat.le_refl _, hk, rfl, Lib.hid (fun q h1 h2 => absurd h1 (Nat.not_le_of_lt h2))⟩
      case round =>
        obtain ⟨j, rfl, hkj, hj, rfl, hno⟩ := hrel
        by_cases hlt : j < s.size
        · have hb8 := byteAt_eq s j hlt
          by_cases hc : byteAt s j = 58
          · have hb : ((s[j].toNat : Int) != 58) = false := by rw [bne_eq_false_iff_eq, ← hb8, hc]; rfl
            have hcH := Lib.hid hc
            clear hc hb8
            go_wp2_with fail
            go_meet
            exact ⟨rfl, j, rfl, hkj, hj, hno, Lib.hid (fun _ => hcH.out)⟩
          · have hb : ((s[j].toNat : Int) != 58) = true := by
              rw [bne_iff_ne, ← hb8]
              exact fun e => hc (UInt8.toNat_inj.1 (Int.ofNat.inj e))
            have hno2 := Lib.hid (show ∀ q, k ≤ q → q < j + 1 → byteAt s q ≠ 58 from fun q h1 h2 => by
              rcases Nat.lt_succ_iff_lt_or_eq.1 h2 with h' | rfl
              · exact hno.out q h1 h'
              · exact hc)
            clear hc hb8
            go_wp2_with fail
            exact ⟨⟨j + 1, by simp, by omega, hlt, trivial, hno2⟩, by simp [intOf]; omega⟩
        · have hge : ¬ ((j : Int) < (s.size : Int)) := by omega
          go_wp2_with fail
          go_meet
          exact ⟨rfl, j, rfl, hkj, hj, hno, Lib.hid (fun h => absurd h hlt)⟩
    obtain ⟨rfl, j, rfl, hkj, hj, hno, hat⟩ := hcut
    generalize wc = wr at *
    by_cases hje : j = s.size
    · subst hje
      obtain ⟨hr, hfl⟩ := hend.out (oneT_nocut (fc_no hno.out))
      have hr := Lib.hid hr
      have hfl := Lib.hid hfl
      go_wp2_with fail
      go_ret2
      exact ⟨_, by rw [hfl.out]; rfl, by rw [hr.out]; exact hrow.out, hK.out⟩
    have hlt : j < s.size := by omega
    have hnej : ((j : Int) == (s.size : Int)) = false := by rw [beq_eq_false_iff_ne]; omega
    have hf := fc_at hkj hlt hno.out (hat.out hlt)
    have hex := extract_bytes s k j
    have hrl : (s.data.toList.drop (j + 1)).length = s.size - (j + 1) := by rw [List.length_drop, hlenH.out]
    have hdl : ((s.data.toList.drop k).take (j - k)).length = j - k := by rw [List.length_take, List.length_drop, hlenH.out]; omega
    have hdx := drop_split s k j hkj hlt
    rw [hat.out hlt] at hdx
    obtain ⟨d, hd⟩ : ∃ d, (s.data.toList.drop k).take (j - k) = d := ⟨_, rfl⟩
    rw [hd] at hf hex hdl hdx
    have hnum := numberR_any (bs d) 4000 wr (by rw [bs_size, hdl]; unfold maxLen; omega)
    rw [bs_list] at hnum
    have hnum := Lib.hid hnum
    have hfH := Lib.hid hf
    have hdxH := Lib.hid hdx
    have hdlH := Lib.hid hdl
    have hrlH := Lib.hid hrl
    clear hd hf hdx hje hrl hdl
    cases hn : numOf d with
    | none =>
      obtain ⟨hr, hfl⟩ := hend.out (oneT_nonum hfH.out hn)
      have hr := Lib.hid hr
      have hfl := Lib.hid hfl
      rw [numR_no hn] at hnum
      clear hn
      go_wp2_with fail
      refine hnum.out.mono ?_
      rintro e w' ⟨rfl, rfl⟩
      go_wp2_with fail
      go_ret2
      exact ⟨_, by rw [hfl.out]; rfl, by rw [hr.out]; exact hrow.out, hK.out⟩
    | some n =>
    have hone := oneT_num hfH.out hn
    by_cases hn4 : n ≤ 4000
    case neg =>
      obtain ⟨hr, hfl⟩ := hend.out (hone.trans (if_neg (fun h => hn4 h.1)))
      have hr := Lib.hid hr
      have hfl := Lib.hid hfl
      rw [numR_gt hn hn4] at hnum
      clear hn hone
      go_wp2_with fail
      refine hnum.out.mono ?_
      rintro e w' ⟨rfl, rfl⟩
      go_wp2_with fail
      go_ret2
      exact ⟨_, by rw [hfl.out]; rfl, by rw [hr.out]; exact hrow.out, hK.out⟩
    rw [numR_le hn hn4] at hnum
    have hnH := Lib.hid hn
    clear hn
    have hn0 : ¬ ((n : Int) < 0) := by omega
    by_cases hl : s.size - (j + 1) < n + 2
    · obtain ⟨hr, hfl⟩ := hend.out (hone.trans (if_neg (fun h => by have := h.2.1; rw [hrlH.out] at this; omega)))
      have hr := Lib.hid hr
      have hfl := Lib.hid hfl
      have hli : (s.size : Int) - (j : Int) - 1 < (n : Int) + 2 := by omega
      clear hone
      go_wp2_with fail
      refine hnum.out.mono ?_
      rintro e w' ⟨rfl, rfl⟩
      go_wp2_with fail
      go_ret2
      exact ⟨_, by rw [hfl.out]; rfl, by rw [hr.out]; exact hrow.out, hK.out⟩
    have hli : ¬ ((s.size : Int) - (j : Int) - 1 < (n : Int) + 2) := by omega
    have h1 : j + 1 + n < s.size := by omega
    have h2 : j + 2 + n < s.size := by omega
    have hb1 := byteAt_eq s (j + 1 + n) h1
    have hb2 := byteAt_eq s (j + 2 + n) h2
    have htw := two_bytes (s := s) (m := j + 1) (n := n) (by omega)
    rw [show j + 1 + n + 1 = j + 2 + n by omega] at htw
    rw [htw] at hone
    have hex2 := extract_bytes s (j + 1) (j + 1 + n)
    rw [Nat.add_sub_cancel_left] at hex2
    have hexH := Lib.hid hex2
    have htwH := Lib.hid htw
    clear htw
    by_cases hp : byteAt s (j + 1 + n) = 10 ∧ byteAt s (j + 2 + n) = 46
    case neg =>
      obtain ⟨hr, hfl⟩ := hend.out (hone.trans (if_neg (fun h => hp (by
        have := h.2.2
        simp only [List.cons.injEq, and_true] at this
        exact this))))
      have hr := Lib.hid hr
      have hfl := Lib.hid hfl
      clear hone
      by_cases hp1 : byteAt s (j + 1 + n) = 10
      · have hp2 : byteAt s (j + 2 + n) ≠ 46 := fun h => hp ⟨hp1, h⟩
        have hx1 : ((s[j + 1 + n].toNat : Int) != 10) = false := by rw [bne_eq_false_iff_eq, ← hb1, hp1]; rfl
        have hx2 : ((s[j + 2 + n].toNat : Int) != 46) = true := by
          rw [bne_iff_ne, ← hb2]
          exact fun e => hp2 (UInt8.toNat_inj.1 (Int.ofNat.inj e))
        clear hp hp1 hp2 hb1 hb2 hex2
        go_wp2_with fail
        refine hnum.out.mono ?_
        rintro e w' ⟨rfl, rfl⟩
        go_wp2_with fail
        go_ret2
        exact ⟨_, by rw [hfl.out]; rfl, by rw [hr.out]; exact hrow.out, hK.out⟩
      · have hx1 : ((s[j + 1 + n].toNat : Int) != 10) = true := by
          rw [bne_iff_ne, ← hb1]
          exact fun e => hp1 (UInt8.toNat_inj.1 (Int.ofNat.inj e))
        clear hp hp1 hb1 hb2 hex2
        go_wp2_with fail
        refine hnum.out.mono ?_
        rintro e w' ⟨rfl, rfl⟩
        go_wp2_with fail
        go_ret2
        exact ⟨_, by rw [hfl.out]; rfl, by rw [hr.out]; exact hrow.out, hK.out⟩
    obtain ⟨hp1, hp2⟩ := hp
    have hone := hone.trans (if_pos ⟨hn4, by rw [hrlH.out]; omega, by rw [hp1, hp2]⟩)
    have hrec := rec_at hnH.out (r := s.data.toList.drop (j + 1)) (by rw [hrlH.out]; omega)
    obtain ⟨hs4, t', ht'⟩ := oneT_some hone
    have hx1 : ((s[j + 1 + n].toNat : Int) != 10) = false := by rw [bne_eq_false_iff_eq, ← hb1, hp1]; rfl
    have hx2 : ((s[j + 2 + n].toNat : Int) != 46) = false := by rw [bne_eq_false_iff_eq, ← hb2, hp2]; rfl
    obtain ⟨x, hx⟩ : ∃ x, (s.data.toList.drop (j + 1)).take n = x := ⟨_, rfl⟩
    rw [hx] at hrec hs4 ht' hex2
    have hrl2 : (recordT x).length = j - k + n + 3 := by rw [hrec, hdlH.out]
    have hI2 := Lib.hid (show (flatR (l ++ [x])).length = j + 3 + n ∧ s.data.toList = flatR (l ++ [x]) ++ s.data.toList.drop (j + 3 + n) ∧ ∀ y ∈ l ++ [x], y.length ≤ 4000 by
      obtain ⟨e1, e2, e3⟩ := hI.out
      have hkl : k + (recordT x).length = j + 3 + n := by rw [hrl2]; omega
      have hdr : s.data.toList.drop (j + 3 + n) = t' := by rw [← hkl, ← List.drop_drop, ht', List.drop_left]
      refine ⟨by rw [flatR_snoc_len, e1, hkl], ?_, fun y hy => ?_⟩
      · rw [hdr, ← flatR_snoc, ← ht']
        exact e2
      · rcases List.mem_append.1 hy with h | h
        · exact e3 y h
        · simp at h; subst h; exact hs4)
    have hll : (l ++ [x]).length = l.length + 1 := by simp
    clear hp1 hp2 hb1 hb2 hone hrec ht' hs4 hrl2 hx hI hend
    go_wp2_with fail
    refine hnum.out.mono ?_
    rintro e w' ⟨rfl, rfl⟩
    have hz1' := hK.out.size
    go_wp2_with (first
      | (at_builtin; refine wpList_append_own_at _ rfl _ _ 61 rfl w.heap.size 9 i0 (.string ⟨#[]⟩) 1 16 Tryd.underlying61 hi hz0 hz1 hz2 rfl (by decide) _ _ _ rfl (World.ownsRow.alloc hrow.out _) ⟨wr.heap.size, 0, none⟩ 1 1 [.string (bs x)] rfl ?hl ?c1 ?c2 ?c3 ?c4 ?c5 ?_)
      | go_in)
    case hl => rfl
    case c1 => exact cell_one_new _ _ _
    case c2 => intro u hu; simp at hu; subst hu; rfl
    case c3 => unfold maxLen; omega
    case c4 => omega
    case c5 => rw [World.size_alloc]; omega
    intro v2 w2 hown2 hgrow2 _ _
    have hrow2 : TxRow w2 w.heap.size v2 (l ++ [x]) := by
      unfold TxRow
      rw [List.map_append, List.length_append]
      exact hown2
    have hb2 : Below w.heap.size w w2 := (hK.out.alloc hK.out.size _).grown hgrow2 (by rw [World.size_alloc]; omega) (fun k hk => (World.ownsRow.lt hrow.out k hk).1)
    obtain ⟨a5, c5, rfl⟩ := hrow2.sl
    have hrow2 := Lib.hid hrow2
    have hb2 := Lib.hid hb2
    clear hown2 hgrow2 hrow
    go_wp2_with fail
    go_roundg (s.size - k)
    case measure => omega
    case rel => exact ⟨l ++ [x], j + 3 + n, by simp, by omega, by omega, by rw [hll]; omega, hI2, (by first | exact hrow2 | (have h := hrow2.out; rw [hll] at h; exact Lib.hid h)), hb2⟩
end Go.Proofs.YtmjbhglmlbgkmaaDoor
