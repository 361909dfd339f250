/- The law SealTells, walked. -/
import Derived.Test.YtgainbpflncgcaaGreatDoorFaulted
import Derived.Laws.AppendOwnNone
import Derived.Deep.CutRange
import Derived.Deep.CutBlock
import Derived.Deep.LoopGhost
namespace Go.Proofs.YtgainbpflncgcaaGreatDoor
open Go.RowKit

theorem news_texts {w : World} {ad : Addr} {c : Nat} {W : List (List UInt8)} (h : TextsAt w (.slice (some ad) W.length c) W) : ∀ j u, (W.map strV)[j]? = some u → w.cell? (ad.add j) = some u := by
  intro j u hu
  obtain ⟨a, c', he, _, _, hc⟩ := h
  cases he
  rw [List.getElem?_map, Option.map_eq_some_iff] at hu
  obtain ⟨x, hx, rfl⟩ := hu
  obtain ⟨hj, rfl⟩ := List.getElem?_eq_some_iff.1 hx
  obtain ⟨b, o, he, h5⟩ := hc j hj
  cases he
  by_cases hj0 : j = 0
  · subst hj0; simpa [Addr.add, strV] using h5
  · simpa [Addr.add, strV, hj0] using h5
theorem strV_one {W : List (List UInt8)} : ∀ u ∈ W.map strV, u.oneCell' = true := by
  intro u hu
  obtain ⟨x, _, rfl⟩ := List.mem_map.1 hu
  rfl
theorem longW_len {W : List (List UInt8)} (h : longW W = false) : W.length ≤ 15 := by
  unfold longW at h
  rw [Bool.or_eq_false_iff] at h
  have := of_decide_eq_false h.1
  omega
theorem number_numR (l : List UInt8) (most : Int) : ((number l most).2 = true ∧ numR l most = (number l most).1 ∧ 0 ≤ (number l most).1) ∨ ((number l most).2 = false ∧ numR l most = -1 ∧ (number l most).1 = 0) := by
  unfold numR number
  cases numOf l with
  | none => exact .inr ⟨rfl, rfl, rfl⟩
  | some n =>
    dsimp only
    by_cases h : (n : Int) ≤ most
    · rw [if_pos h, if_pos h]; exact .inl ⟨rfl, rfl, by show (0 : Int) ≤ (n : Int); omega⟩
    · rw [if_neg h, if_neg h]; exact .inr ⟨rfl, rfl, rfl⟩
set_option maxHeartbeats 4000000 in
set_option maxRecDepth 100000 in
theorem sealTells_any {E : Nat → Addr} (k most : Int) (v : Value) (W : List (List UInt8)) (s : ByteArray) (w : World) (hL : LaidX E w) (hv : TextsAt w v W) (hn : v = .slice none 0 0 ∨ ∃ ad m c, v = .slice (some ad) m c) (hm : ∀ q ∈ W, q.length ≤ maxLen) (hs : s.size ≤ maxLen) :
    Calls Tryz.prog 5 #[.int .i64 k, v, .string s, .int .i64 most] w fun e w' => e = .returned (.bool true) ∧ Below w.heap.size w w' := by
  have hse := Lib.hid (sealed_any w hL)
  have hlw := Lib.hid (fun wx (hx : Below w.heap.size w wx) => longWords_any v W wx (hv.below hx) hm)
  unfold maxLen at hs
  cases hlo : longW W with
  | true =>
    rw [hlo] at hlw
    obtain ⟨a, c, rfl, hlen, _, _⟩ := id hv
    go_enter Tryz.func5, Tryz.ntmps5
    go_wp2_with fail
    refine hse.out.mono ?_
    rintro e w1 ⟨rfl, hb1⟩
    go_wp2_with fail
    refine (hlw.out _ hb1).mono ?_
    rintro e w2 ⟨rfl, hb2⟩
    have hb2 := Lib.hid (below_trans hb1 hb2)
    go_wp2_with fail
    go_ret
    exact ⟨rfl, hb2.out⟩
  | false =>
  rw [hlo] at hlw
  have hlo15 := Lib.hid (longW_len hlo)
  clear hlo
  by_cases h4 : 400 < s.size ∧ s.size ≠ 4001
  · obtain ⟨h4, h5⟩ := h4
    have h5 : ((s.size : Int) != 4001) = true := by rw [bne_iff_ne]; omega
    obtain ⟨a, c, rfl, hlen, _, _⟩ := id hv
    go_enter Tryz.func5, Tryz.ntmps5
    go_wp2_with fail
    refine hse.out.mono ?_
    rintro e w1 ⟨rfl, hb1⟩
    go_wp2_with fail
    refine (hlw.out _ hb1).mono ?_
    rintro e w2 ⟨rfl, hb2⟩
    have hb2 := Lib.hid (below_trans hb1 hb2)
    go_wp2_with fail
    go_ret
    exact ⟨rfl, hb2.out⟩
  have hs4 : s.size ≤ 4001 := by omega
  have h4 : s.size ≤ 400 ∨ (400 < s.size ∧ ((s.size : Int) != 4001) = false) := by
    by_cases h : s.size ≤ 400
    · exact .inl h
    · exact .inr ⟨by omega, by rw [bne_eq_false_iff_eq]; omega⟩
  obtain ⟨i0, hi, hz0, hz1, hz2⟩ := info_parts info_string
  have hv0 := Lib.hid hv
  have hmH := Lib.hid hm
  have hop := Lib.hid (fun wx (hx : Below w.heap.size w wx) => open_any (E := E) k s wx (hL.below hx).s (by omega))
  have hopR := Lib.hid (fun wx => openR_any k s wx (by omega))
  have hoc := Lib.hid (openOf_code k s.data.toList)
  have hlk := Lib.hid (fun wx (hx : Below w.heap.size w wx) => Look_any (E := E) s wx (hL.below hx).s (by omega))
  have hlkR := Lib.hid (fun wx => lookR_any s wx (by omega))
  have hlc := Lib.hid (lookOf_code s.data.toList)
  have hnu := Lib.hid (fun wx (hx : Below w.heap.size w wx) => number_any (E := E) s most wx (hL.below hx).s (by omega))
  have hnuR := Lib.hid (fun wx => numberR_any s most wx hs)
  have hnm := Lib.hid (fun wx => name_any s wx hs)
  have hnmR := Lib.hid (fun wx => isNameR_any s wx hs)
  have hnn := Lib.hid (number_numR s.data.toList most)
  have hmkR := Lib.hid (fun wx (hx : TextsAt wx v W) => sealR_any k v W wx hx hm)
  have hmk := Lib.hid (fun wx v' (hx : Below w.heap.size w wx) (h : TextsAt wx v' W) => make_any (E := E) k v' W wx (hL.below hx).s h hm)
  have hmc := Lib.hid (makeOf_code k W)
  generalize openOf k s.data.toList = op at *
  generalize lookOf s.data.toList = lo at *
  generalize isName s.data.toList = nm at *
  unfold numRes at hnu
  generalize number s.data.toList most = nu at *
  generalize numR s.data.toList most = nr at *
  generalize makeOf k W = mo at *
  obtain ⟨ow, oc⟩ := op
  obtain ⟨lm, lw, ln, lc⟩ := lo
  obtain ⟨mt, mc, ma⟩ := mo
  obtain ⟨nn, nb⟩ := nu
  unfold sealV faultV at hmkR
  dsimp only at *
  have hnH := Lib.hid hn
  clear hm hv hn
  go_enter Tryz.func5, Tryz.ntmps5
  go_wp2_with fail
  refine hse.out.mono ?_
  rintro e w1 ⟨rfl, hb1⟩
  have hb1 := Lib.hid hb1
  go_upto_region 2 with fail
  go_cut [38] from 23 to 38 (fun s38 wx => s38 = .bool false ∧ Hid (Below w.heap.size w wx))
  case first =>
    rcases h4 with h4 | ⟨h4, h5⟩
    all_goals
      go_wp2_with fail
      refine (hlw.out _ hb1.out).mono ?_
      rintro e w2 ⟨rfl, hb2⟩
      have hb2 := Lib.hid (below_trans hb1.out hb2)
      go_wp2_with fail
      go_meet
      exact ⟨rfl, hb2⟩
  obtain ⟨rfl, hb2⟩ := hcut
  generalize wc = w2 at *
  go_upto_region 5 with fail
  go_cut [11, 12] from 40 to 47 (fun s11 s12 wx => s11 = .string (bs mt) ∧ Hid (ErrAt E wx s12 mc ma) ∧ Hid (Below w.heap.size w wx))
  case first =>
    rcases hnH.out with rfl | ⟨ad, m0, c0, rfl⟩
    · have hW : W = [] := by
        obtain ⟨_, _, he, _, _, _⟩ := hv0.out
        injection he with _ e _
        exact List.eq_nil_of_length_eq_zero e.symm
      have hT := Lib.hid (show TextsAt w2 (.slice none 0 0) W by rw [hW]; exact textsAt_no _)
      have hmkC := Lib.hid (hmk.out w2 _ hb2.out hT.out)
      clear hW
      go_wp2_with (at_builtin; refine wpList_append_own_none rfl _ _ 54 rfl w2.heap.size 9 i0 1 Tryz.underlying54 hi _ _ _ rfl (World.ownsRow_nil _ _ _ _) rfl ?_)
      skip
      go_wp2_with fail
      refine hmkC.out.mono ?_
      rintro e w3 ⟨ev, rfl, hev, hb3⟩
      have hev := Lib.hid hev
      have hb4 := Lib.hid (below_trans hb2.out hb3)
      go_wp2_with fail
      go_meet
      exact ⟨rfl, hev, hb4⟩
    · have hWl : W.length = m0 := by
        obtain ⟨_, _, he, _, _, _⟩ := hv0.out
        injection he with _ e _
        exact e.symm
      subst hWl
      have hT := Lib.hid (hv0.out.below hb2.out)
      have hmx : W.length ≤ maxLen := by
        obtain ⟨_, _, _, h, _, _⟩ := hv0.out
        exact h
      have hl15 : W.length ≤ 15 := hlo15.out
      go_wp2_with (at_builtin; refine wpList_append_own_at _ rfl _ _ 54 rfl w2.heap.size 9 i0 (.string ⟨#[]⟩) 1 16 Tryz.underlying54 hi hz0 hz1 hz2 rfl (by decide) _ _ _ rfl (World.ownsRow_nil _ _ _ _) ad W.length c0 (W.map strV) rfl (by simp) (news_texts hT.out) strV_one ?c3 ?c4 ?c5 ?_)
      skip
      case c3 => omega
      case c4 => omega
      case c5 => exact Nat.le_refl _
      intro v' w3 hown' hgrow _ _
      have hb3 := Lib.hid ((Below.refl w2.heap.size w2).grown hgrow (Nat.le_refl _) (fun k hk => by cases hk))
      have hT3 := Lib.hid (show TextsAt w3 v' W from textsAt_of_ownsRow (base := w2.heap.size) hmx (by first | exact hown' | simpa using hown'))
      have hb4 := Lib.hid (below_trans hb2.out hb3.out)
      have hmkC := Lib.hid (hmk.out w3 _ hb4.out hT3.out)
      clear hown' hgrow
      go_wp2_with fail
      refine hmkC.out.mono ?_
      rintro e w5 ⟨ev, rfl, hev, hb5⟩
      have hev := Lib.hid hev
      have hb6 := Lib.hid (below_trans hb4.out hb5)
      go_wp2_with fail
      go_meet
      exact ⟨rfl, hev, hb6⟩
  obtain ⟨rfl, hev, hb3⟩ := hcut
  generalize wc = w3 at *
  have hmkRC := Lib.hid (hmkR.out w3 (hv0.out.below hb3.out))
  go_wp2_with fail
  refine hmkRC.out.mono ?_
  rintro e w4 ⟨rfl, hb4⟩
  have hev4 := Lib.hid (hev.out.below hb4)
  have hb5 := Lib.hid (below_trans hb3.out hb4)
  go_wp2_with fail
  have hA5 : Below w4.heap.size w4 (w4.alloc (.cells #[.int .i64 (mc : Int), .int .i64 ma] 64)) := (Below.refl _ _).alloc (Nat.le_refl _) _
  have hb6 := Lib.hid (below_trans hb5.out hA5)
  have hfa := Lib.hid (faulted_self _ mc ma _ (hL.below hb6.out).r (hev4.out.below hA5) hmc.out)
  clear hA5
  refine hfa.out.mono ?_
  rintro e w7 ⟨rfl, hb7⟩
  have hb7 := Lib.hid (below_trans hb6.out hb7)
  have hopC := Lib.hid (hop.out w7 hb7.out)
  go_wp2_with fail
  refine hopC.out.mono ?_
  rintro e w8 ⟨v8, rfl, hv8, hb8⟩
  have hv8 := Lib.hid hv8
  have hb8 := Lib.hid (below_trans hb7.out hb8)
  go_wp2_with fail
  refine (hopR.out _).mono ?_
  rintro e w9 ⟨v9, rfl, hv9, hb9⟩
  have hv8b := Lib.hid (hv8.out.below hb9)
  have hv9 := Lib.hid hv9
  have hb9 := Lib.hid (below_trans hb8.out hb9)
  go_wp2_with fail
  refine (coded_same oc _ (hL.below hb9.out).r hoc.out).mono ?_
  rintro e w10 ⟨rfl, hb10⟩
  have hst := sameTexts_any _ _ ow ow w10 (hv8b.out.below hb10) (hv9.out.below hb10)
  rw [decide_eq_true (rfl : ow = ow)] at hst
  have hstH := Lib.hid hst
  have hb10H := Lib.hid (below_trans hb9.out hb10)
  clear hst hb10
  go_wp2_with fail
  refine hstH.out.mono ?_
  rintro e w11 ⟨rfl, hb11⟩
  have hb11H := Lib.hid (below_trans hb10H.out hb11)
  have hlkC := Lib.hid (hlk.out w11 hb11H.out)
  clear hb11
  go_wp2_with fail
  refine hlkC.out.mono ?_
  rintro e w12 ⟨v12, rfl, hv12, hb12⟩
  have hv12 := Lib.hid hv12
  have hb12 := Lib.hid (below_trans hb11H.out hb12)
  go_wp2_with fail
  refine (hlkR.out _).mono ?_
  rintro e w13 ⟨v13, rfl, hv13, hb13⟩
  have hv12b := Lib.hid (hv12.out.below hb13)
  have hv13 := Lib.hid hv13
  have hb13 := Lib.hid (below_trans hb12.out hb13)
  go_wp2_with fail
  refine (coded_same lc _ (hL.below hb13.out).r hlc.out).mono ?_
  rintro e w14 ⟨rfl, hb14⟩
  have hst := sameTexts_any _ _ lw lw w14 (hv12b.out.below hb14) (hv13.out.below hb14)
  rw [decide_eq_true (rfl : lw = lw)] at hst
  have hst2 := Lib.hid hst
  have hb14H := Lib.hid (below_trans hb13.out hb14)
  clear hst hb14
  go_wp2_with fail
  refine hst2.out.mono ?_
  rintro e w15 ⟨rfl, hb15⟩
  have hb15H := Lib.hid (below_trans hb14H.out hb15)
  have hnuC := Lib.hid (hnu.out w15 hb15H.out)
  clear hb15
  go_wp2_with fail
  refine hnuC.out.mono ?_
  rintro e w16 ⟨rfl, hb16⟩
  have hb16 := Lib.hid (below_trans hb15H.out hb16)
  go_wp2_with fail
  refine (hnuR.out _).mono ?_
  rintro e w17 ⟨rfl, rfl⟩
  go_wp2_with fail
  refine (hnmR.out _).mono ?_
  rintro e w17 ⟨rfl, rfl⟩
  go_wp2_with fail
  refine (hnm.out _).mono ?_
  rintro e w17 ⟨rfl, hb17⟩
  have hb17 := Lib.hid (below_trans hb16.out hb17)
  rcases hnn.out with ⟨h1, h2, h3⟩ | ⟨h1, h2, h3⟩
  · subst h1
    subst h2
    go_wp2_with fail
    go_ret
    exact ⟨rfl, hb17.out⟩
  · subst h1
    subst h2
    subst h3
    go_wp2_with fail
    go_ret
    exact ⟨rfl, hb17.out⟩
end Go.Proofs.YtgainbpflncgcaaGreatDoor
