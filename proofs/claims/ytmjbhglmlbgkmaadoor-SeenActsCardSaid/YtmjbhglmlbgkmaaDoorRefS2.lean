/- The reference's Ask of what was seen, walked. -/
import Derived.Test.YtmjbhglmlbgkmaaDoorRefS1
import Derived.Deep.CutRange
import Derived.Deep.CutBlock
import Derived.Outline
namespace Go.Proofs.YtmjbhglmlbgkmaaDoor
open Go.RowKit Go.Maps

set_option maxHeartbeats 8000000 in
set_option maxRecDepth 100000 in
theorem askR_any (base b : Nat) (long : Int) (L : List Wd) (word : List UInt8) (time now : Int) (w : World) (hB : SRef w base b long L) (hlong : isTime long = true) (hw : word.length ≤ maxLen) (h40 : L.length ≤ 40) :
    Calls Tryd.prog 37 #[.pointer (some ⟨b, 0, none⟩), .string (bs word), .int .i64 time, .int .i64 now] w fun e w' => e = .returned (.int .i64 ((askS long L word time now).1 : Nat)) ∧ Keeps (SRefS base w) w w' ∧ SRef w' base b long (askS long L word time now).2 := by
  obtain ⟨i0, hi, hz0, hz1, hz2⟩ := info_parts info_wd
  obtain ⟨hg0, hg1⟩ := (isTime_iff _).1 hlong
  have hask : askS long L word time now = if isWord word = false then (1, L) else if (isTime time && isTime now) = false then (2, L) else if now + long < time then (11, L) else if time < now - long then (12, L) else askT (now - long) L word time := rfl
  have hask := Lib.hid hask
  have hwd := isWordR_any (bs word) w (by rw [bs_size]; exact hw)
  rw [bs_list] at hwd
  have hwd := Lib.hid hwd
  obtain ⟨c0, v, c1, hown, hfz⟩ := hB.at0
  have hblt := hB.lt
  have hge0 := hB.ge
  have hPers := Lib.hid (wdsAt_of_row (by unfold maxLen; omega) hown)
  have hownH := Lib.hid hown
  have hBH := Lib.hid hB
  obtain ⟨a, c, rfl, hml, hcl⟩ := hPers.out
  have hcl := Lib.hid hcl
  clear hB hlong hw hown
  go_enter Tryd.func37, Tryd.ntmps37
  go_wp2_with fail
  refine hwd.out.mono ?_
  rintro e w1 ⟨rfl, rfl⟩
  cases q1 : isWord word with
  | false =>
    have hr := Lib.hid (hask.out.trans (if_pos q1))
    clear q1
    go_wp2_with fail
    go_ret
    exact ⟨by rw [hr.out]; rfl, Keeps.refl _ _, by rw [hr.out]; exact hBH.out⟩
  | true =>
  have hask := Lib.hid (hask.out.trans (if_neg (by rw [q1]; decide)))
  clear q1
  by_cases hbad : time < 0 ∨ 1000000 < time ∨ now < 0 ∨ 1000000 < now
  · have hr := Lib.hid (hask.out.trans (if_pos (by
      rw [Bool.and_eq_false_iff]
      unfold isTime
      simp only [Bool.and_eq_false_iff, decide_eq_false_iff_not]
      omega)))
    by_cases k1 : time < 0
    · go_wp2_with fail
      go_ret
      exact ⟨by rw [hr.out]; rfl, Keeps.refl _ _, by rw [hr.out]; exact hBH.out⟩
    by_cases k2 : 1000000 < time
    · go_wp2_with fail
      go_ret
      exact ⟨by rw [hr.out]; rfl, Keeps.refl _ _, by rw [hr.out]; exact hBH.out⟩
    by_cases k3 : now < 0
    · go_wp2_with fail
      go_ret
      exact ⟨by rw [hr.out]; rfl, Keeps.refl _ _, by rw [hr.out]; exact hBH.out⟩
    have k4 : 1000000 < now := by omega
    clear hbad
    go_wp2_with fail
    go_ret
    exact ⟨by rw [hr.out]; rfl, Keeps.refl _ _, by rw [hr.out]; exact hBH.out⟩
  have ht0 : ¬ time < 0 := by omega
  have ht1 : ¬ 1000000 < time := by omega
  have hn0 : ¬ now < 0 := by omega
  have hn1 : ¬ 1000000 < now := by omega
  clear hbad
  have hask := Lib.hid (hask.out.trans (if_neg (by
    rw [(isTime_iff time).2 ⟨by omega, by omega⟩, (isTime_iff now).2 ⟨by omega, by omega⟩]
    decide)))
  by_cases q4 : now + long < time
  · have hr := Lib.hid (hask.out.trans (if_pos q4))
    go_wp2_with fail
    go_ret
    exact ⟨by rw [hr.out]; rfl, Keeps.refl _ _, by rw [hr.out]; exact hBH.out⟩
  have hask := Lib.hid (hask.out.trans (if_neg q4))
  by_cases q5 : time < now - long
  · have hr := Lib.hid (hask.out.trans (if_pos q5))
    go_wp2_with fail
    go_ret
    exact ⟨by rw [hr.out]; rfl, Keeps.refl _ _, by rw [hr.out]; exact hBH.out⟩
  have hask := Lib.hid (hask.out.trans (if_neg q5))
  have hs2 := IntWalk.i64_in (now - long) (by omega)
  go_upto_region 12 with fail
  go_upto_block 0 with fail
  go_cut [10, 11] from 49 to 95 (fun s10 s11 wx => s11 = .bool ((keptW (now - long) L).any fun p => p.s == word) ∧ Hid (wx.ownsRow w.heap.size 119 2 s10 (keptW (now - long) L).length (flatW (keptW (now - long) L))) ∧ Hid (Below w.heap.size w wx))
  case first =>
    go_wp2_with fail
    go_loopw [10, 11, 12] (fun v th i wr => ∃ j : Nat, j ≤ L.length ∧ i = .int .i64 j ∧ th = .bool ((keptW (now - long) (L.take j)).any fun p => p.s == word) ∧ Hid (wr.ownsRow w.heap.size 119 2 v (keptW (now - long) (L.take j)).length (flatW (keptW (now - long) (L.take j)))) ∧ Hid (Below w.heap.size w wr)) (fun _ _ i _ => L.length - (intOf i).toNat)
    case atStart => exact ⟨0, Nat.zero_le _, rfl, rfl, Lib.hid (World.ownsRow_nil _ _ _ _), Lib.hid (Below.refl _ _)⟩
    case round =>
      obtain ⟨j, hj, rfl, rfl, hrow, hbx⟩ := hrel
      have c1W := Lib.hid c1
      have c0 := cell_below hbx.out c0
      have c1 := cell_below hbx.out c1
      have hfz := (hbx.out.frozen hblt).trans hfz
      by_cases hlt : j < L.length
      · obtain ⟨bb, o, rfl, d0, d1⟩ := hcl.out j hlt
        have d0W := Lib.hid d0
        have d1W := Lib.hid d1
        have d0 := cell_below hbx.out d0
        have d1 := cell_below hbx.out d1
        have hsn := take_snocW hlt
        have hkl := kept_le (now - long) L j
        have hks := kept_snoc (now - long) (L.take j) L[j]
        rw [← hsn] at hks
        clear hsn
        obtain ⟨q, hqd⟩ : ∃ q, L[j] = q := ⟨_, rfl⟩
        rw [hqd] at d0 d1 hks d0W d1W
        clear hqd
        obtain ⟨ps, pt⟩ := q
        dsimp only at d0 d1 hks d0W d1W
        generalize keptW (now - long) (L.take j) = K at *
        obtain ⟨a9, c9, rfl⟩ := row_slN hrow.out
        have hk2 : (0 : Int) ≤ (j : Int) := by omega
        have hk3 : (j : Int) < (L.length : Int) := by omega
        have hsz : w.heap.size ≤ wr.heap.size := hbx.out.size
        have hrowD := Lib.hid (fun n => row_drew hrow.out n)
        by_cases hold : pt < now - long
        · have hks := Lib.hid (hks.trans (if_pos hold))
          go_wp2_with fail
          go_quiet (fail)
          go_wp2_with fail
          exact ⟨⟨j + 1, hlt, by simp, by rw [hks.out], by rw [hks.out]; exact Lib.hid (hrowD.out _), Lib.hid (below_drawn hbx.out _)⟩, by simp [intOf]; omega⟩
        · have hks := Lib.hid (hks.trans (if_neg hold))
          go_wp2_with fail
          go_quiet (fail)
          go_wp2_with (first
            | (at_builtin; refine wpList_append_own_at _ rfl _ _ 76 rfl w.heap.size 119 i0 (.agg #[.string ⟨#[]⟩, .int .i64 0]) 2 24 Tryd.underlying76 hi hz0 hz1 hz2 rfl (by decide) _ _ _ rfl (World.ownsRow.alloc (hrowD.out _) _) ⟨wr.heap.size, 0, none⟩ 1 1 [.string (bs ps), .int .i64 pt] rfl ?hl ?c1 ?c2 ?c3 ?c4 ?c5 ?_)
            | go_in)
          case hl => rfl
          case c1 =>
            intro q u hq
            match q, hq with
            | 0, hq => simp at hq; subst hq; simp only [Addr.add]; exact (cellW_new (wr.drewN _) _ _ _).1
            | 1, hq => simp at hq; subst hq; simp only [Addr.add]; exact (cellW_new (wr.drewN _) _ _ _).2
          case c2 => intro u hu; simp at hu; rcases hu with rfl | rfl <;> rfl
          case c3 => unfold maxLen; omega
          case c4 => omega
          case c5 => simp; omega
          intro v6 w6 hown6 hgrow6 _ _
          have hbx6 : Below w.heap.size w w6 := ((below_drawn hbx.out _).alloc hsz _).grown hgrow6 (by simp; omega) (fun k hk => (World.ownsRow.lt hrow.out k hk).1)
          have hr6 : w6.ownsRow w.heap.size 119 2 v6 (K ++ [(⟨ps, pt⟩ : Wd)]).length (flatW (K ++ [(⟨ps, pt⟩ : Wd)])) := by
            rw [flatW_append, List.length_append]
            exact hown6
          have hr6 := Lib.hid hr6
          have hbxH := Lib.hid hbx6
          have d0 := cell_below hbx6 d0W.out
          have d1 := cell_below hbx6 d1W.out
          have c1 := cell_below hbx6 c1W.out
          have hbq := bs_beq ps word
          clear hown6 hgrow6 hbx6 hrow hrowD hbx c0
          cases hth : K.any (fun p => p.s == word) with
          | true =>
            have hfin := Lib.hid (show (K ++ [(⟨ps, pt⟩ : Wd)]).any (fun p => p.s == word) = true by rw [List.any_append, hth]; rfl)
            clear hth hbq
            go_wp2_with fail
            exact ⟨⟨j + 1, hlt, by simp, by rw [hks.out, hfin.out], by rw [hks.out]; exact hr6, hbxH⟩, by simp [intOf]; omega⟩
          | false =>
            cases hpe : (ps == word) with
            | true =>
              have hfin := Lib.hid (show (K ++ [(⟨ps, pt⟩ : Wd)]).any (fun p => p.s == word) = true by rw [List.any_append, hth]; simpa using hpe)
              have hbq := hbq.trans hpe
              have hpeH := Lib.hid hpe
              clear hth hpe
              go_wp2_with fail
              exact ⟨⟨j + 1, hlt, by simp, by (rw [hks.out, hfin.out]) <;> first | rfl | exact congrArg Value.bool hpeH.out, by rw [hks.out]; exact hr6, hbxH⟩, by simp [intOf]; omega⟩
            | false =>
              have hfin := Lib.hid (show (K ++ [(⟨ps, pt⟩ : Wd)]).any (fun p => p.s == word) = false by rw [List.any_append, hth]; simpa using hpe)
              have hbq := hbq.trans hpe
              have hpeH := Lib.hid hpe
              clear hth hpe
              go_wp2_with fail
              exact ⟨⟨j + 1, hlt, by simp, by (rw [hks.out, hfin.out]) <;> first | rfl | exact congrArg Value.bool hpeH.out, by rw [hks.out]; exact hr6, hbxH⟩, by simp [intOf]; omega⟩
      · have hje : L.take j = L := List.take_of_length_le (by omega)
        rw [hje]
        rw [hje] at hrow
        have hge : ¬ ((j : Int) < (L.length : Int)) := by omega
        go_wp2_with fail
        go_meet
        exact ⟨rfl, hrow, hbx⟩
  obtain ⟨rfl, hrow, hbx⟩ := hcut
  generalize wc = wr at *
  have hT := Lib.hid (show askT (now - long) L word time = if (findW (keptW (now - long) L) word).isSome then (6, keptW (now - long) L) else if 40 ≤ (keptW (now - long) L).length then (7, keptW (now - long) L) else (0, insW ⟨word, time⟩ (keptW (now - long) L)) from rfl)
  have hask := Lib.hid (hask.out.trans hT.out)
  have hkl : (keptW (now - long) L).length ≤ L.length := List.length_filter_le _ _
  clear hT
  generalize keptW (now - long) L = K at *
  rw [findW_any] at hask
  obtain ⟨a9, c9, rfl⟩ := row_slN hrow.out
  have hne9 : ∀ g, (Value.slice a9 K.length c9).ownBlock = some g → g ≠ b := fun g hg => by
    have := (ownsRow_block hrow.out hg).1
    omega
  have hst := sref_store hBH.out hbx.out (Nat.le_refl _) (by omega) hrow.out
  have hown3 := ownsRow_other hrow.out ⟨b, 1, none⟩ (.slice a9 K.length c9) hne9
  have hst := Lib.hid hst
  have hown3 := Lib.hid hown3
  have hfz := (hbx.out.frozen hblt).trans hfz
  have c1 := cell_below hbx.out c1
  clear hrow hne9 hs2 c0 q4 q5 ht0 ht1 hn0 hn1 hg0 hg1
  cases hth : K.any (fun p => p.s == word) with
  | true =>
    have hr := Lib.hid (hask.out.trans (if_pos hth))
    clear hth
    go_wp2_with fail
    go_ret
    exact ⟨by rw [hr.out]; rfl, hst.out.1, by rw [hr.out]; exact hst.out.2⟩
  | false =>
  have hask := Lib.hid (hask.out.trans (if_neg (by rw [hth]; decide)))
  clear hth
  by_cases q40 : 40 ≤ K.length
  · have hr := Lib.hid (hask.out.trans (if_pos q40))
    have q40i : (40 : Int) ≤ (K.length : Int) := by omega
    go_wp2_with fail
    go_ret
    exact ⟨by rw [hr.out]; rfl, hst.out.1, by rw [hr.out]; exact hst.out.2⟩
  have hr := Lib.hid (hask.out.trans (if_neg q40))
  have q40i : ¬ (40 : Int) ≤ (K.length : Int) := by omega
  clear hask
  go_upto_region 23 with fail
  generalize wr.setCell ⟨b, 1, none⟩ (.slice a9 K.length c9) = wS at *
  have hPers := wdsAt_of_row (by unfold maxLen; omega) hown3.out
  obtain ⟨_, _, he, _, hclK⟩ := hPers
  cases he
  have hclK := Lib.hid hclK
  have hBS := Lib.hid hst.out.2
  clear hcl c1 hfz hPers
  go_upto_block 2 with fail
  go_cut [13] from 104 to 118 (fun s13 wx => s13 = .int .i64 (lessW K word : Nat) ∧ wx = wS)
  case first =>
    go_wp2_with fail
    go_loopw [13] (fun i wx => ∃ j : Nat, j ≤ K.length ∧ i = .int .i64 j ∧ wx = wS ∧ Hid (∀ q (h : q < K.length), q < j → K[q].s < word)) (fun i _ => K.length - (intOf i).toNat)
    case atStart => exact ⟨0, Nat.zero_le _, rfl, rfl, Lib.hid (fun _ _ h => absurd h (Nat.not_lt_zero _))⟩
    case round =>
      obtain ⟨j, hj, rfl, rfl, hall⟩ := hrel
      have hls := fun h : j < K.length => less_bsW K[j].s word
      have hend : (∀ h : j < K.length, ¬ K[j].s < word) → Hid (lessW K word = j) := fun he => Lib.hid (lessW_at hj hall.out he)
      by_cases hlt : j < K.length
      · obtain ⟨bb, o, rfl, h0, _⟩ := hclK.out j hlt
        have hlt2 := hls hlt
        by_cases hb : K[j].s < word
        · have hall2 := Lib.hid (show ∀ q (h : q < K.length), q < j + 1 → K[q].s < word from fun q h hq => by
            rcases Nat.lt_succ_iff_lt_or_eq.1 hq with h' | rfl
            · exact hall.out q h h'
            · exact hb)
          have hlt3 := hlt2.trans (decide_eq_true hb)
          clear hb hend hls hlt2
          go_wp2_with fail
          exact ⟨⟨j + 1, by omega, by simp, trivial, hall2⟩, by simp [intOf]; omega⟩
        · have hlt3 := hlt2.trans (decide_eq_false hb)
          have hlx := hend (fun _ => hb)
          clear hlt2 hls hend hb
          go_wp2_with fail
          go_meet
          exact ⟨by rw [hlx.out], rfl⟩
      · have hge : ¬ ((j : Int) < (K.length : Int)) := by omega
        have hlx := hend (fun h => absurd h hlt)
        clear hls hend
        go_wp2_with fail
        go_meet
        exact ⟨by rw [hlx.out], rfl⟩
  obtain ⟨rfl, rfl⟩ := hcut
  obtain ⟨j, hjd⟩ : ∃ j, lessW K word = j := ⟨_, rfl⟩
  have hjn : j ≤ K.length := by rw [← hjd]; exact lessW_le _ _
  have hlx := Lib.hid hjd
  rw [hjd]
  clear hjd hclK
  obtain ⟨_, vS, hcS, _, hfzS⟩ := hBS.out.at0
  have hbS := hBS.out.lt
  generalize wc = wS at *
  have hown3K := hown3.out
  obtain ⟨_, ⟨hv, h0⟩ | ⟨g, cap, cur, hv, hbg, hg, hcap, hmx, hsz, htk⟩⟩ := id hown3K
  · injection hv with hae h0' hcc
    subst hae hcc
    have hLn : K = [] := List.eq_nil_of_length_eq_zero h0
    subst hLn
    have hj0 : j = 0 := by simpa using hjn
    subst hj0
    simp only [List.length_nil] at *
    have hbx1 : Below wS.heap.size wS wS := Below.refl _ _
    have hown1 : wS.ownsRow wS.heap.size 119 2 (.slice none 0 0) 0 [] := World.ownsRow_nil _ _ _ _
    go_wp2_with (first
      | (at_builtin; refine wpList_append_own_at _ rfl _ _ 76 rfl wS.heap.size 119 i0 (.agg #[.string ⟨#[]⟩, .int .i64 0]) 2 24 Tryd.underlying76 hi hz0 hz1 hz2 rfl (by decide) _ _ _ rfl (hown1.alloc _) ⟨wS.heap.size, 0, none⟩ 1 1 [.string (bs word), .int .i64 time] rfl ?hl_4 ?c1_4 ?c2_4 ?c3_4 ?c4_4 ?c5_4 ?_)
      | go_in)
    try case hl_4 => rfl
    try case c1_4 =>
      intro q u hq
      match q, hq with
      | 0, hq => simp at hq; subst hq; simp only [Addr.add]; exact (cellW_new wS _ _ _).1
      | 1, hq => simp at hq; subst hq; simp only [Addr.add]; exact (cellW_new wS _ _ _).2
    try case c2_4 => first | exact ⟨rfl, rfl⟩ | (intro u hu; simp at hu; rcases hu with rfl | rfl <;> rfl)
    try case c3_4 => unfold maxLen; omega
    try case c4_4 => omega
    try case c5_4 => have := hbx1.size; simp <;> omega
    intro v2 x2 hown2 hgrow2 _ _
    have hbx2 : Below wS.heap.size wS x2 := (hbx1.alloc hbx1.size _).grown hgrow2 (by have := hbx1.size; simp <;> omega) (fun k hk => (hown1.lt k hk).1)
    have hown4 : x2.ownsRow wS.heap.size 119 2 v2 (0 + 1 + (([] : List Wd).length - 0)) (flatW (([] : List Wd).take 0) ++ [.string (bs word), .int .i64 time] ++ flatW (([] : List Wd).drop 0)) := by
      simpa [flatW] using hown2
    obtain ⟨g3, c3, hv3, hc3⟩ := rowW_succ (n := 0) (by have h := hown4; rw [show 0 + 1 + (([] : List Wd).length - 0) = 0 + 1 by simp] at h; exact h)
    subst hv3
    have hcb4 := cell_below hbx2 hcS
    have hfz4 := (hbx2.frozen hbS).trans hfzS
    have hfin := Lib.hid (askR_fin (j := 0) hlx.out hBS.out hbx2 (Nat.le_refl _) (by omega) hown4)
    clear hown4 hown2 hgrow2 hown1 hbx1 hbx2
    go_wp2_with fail
    go_ret
    exact ⟨by rw [hr.out]; rfl, sref_trans hst.out.1 hfin.out.1, by rw [hr.out]; exact hfin.out.2⟩
  · injection hv with hae h0' hcc
    subst hae
    have hgL := rowW_cells hown3.out
    have hcK : K.length ≤ c9 := by rw [hcc]; exact hcap
    clear h0' hcc hcap hbg hg hmx hsz htk hown3K cap cur
    have hjc : j ≤ c9 := by omega
    by_cases hlt : j < K.length
    · go_wp2_with (first
        | (at_builtin; refine wpList_append_own_at _ rfl _ _ 76 rfl wS.heap.size 119 i0 (.agg #[.string ⟨#[]⟩, .int .i64 0]) 2 24 Tryd.underlying76 hi hz0 hz1 hz2 rfl (by decide) _ _ _ rfl (World.ownsRow_nil _ _ _ _) ⟨g, 0, none⟩ j c9 (flatW (K.take j)) rfl ?hl_1 ?c1_1 ?c2_1 ?c3_1 ?c4_1 ?c5_1 ?_)
        | go_in)
      try case hl_1 => rw [flatW_len, List.length_take, Nat.min_eq_left hjn]
      try case c1_1 =>
        intro q u hq
        have h9 := flatW_cells (k := 0) (m := j) hgL q u (by rw [Nat.zero_mul, List.drop_zero, ← flatW_take]; exact hq)
        rw [Nat.zero_mul] at h9
        first | exact h9 | (rw [Addr.add_lit, Nat.zero_add] at h9; exact h9)
      try case c2_1 => first | exact flatW_one _ | exact flatW_one _ _ (by assumption)
      try case c3_1 => unfold maxLen; omega
      try case c4_1 => omega
      try case c5_1 => exact Nat.le_refl _
      intro v1 x1 hown1 hgrow1 _ _
      have hbx1 : Below wS.heap.size wS x1 := (Below.refl _ _).grown hgrow1 (Nat.le_refl _) (fun k hk => by cases hk)
      go_wp2_with (first
        | (at_builtin; refine wpList_append_own_at _ rfl _ _ 76 rfl wS.heap.size 119 i0 (.agg #[.string ⟨#[]⟩, .int .i64 0]) 2 24 Tryd.underlying76 hi hz0 hz1 hz2 rfl (by decide) _ _ _ rfl (hown1.alloc _) ⟨x1.heap.size, 0, none⟩ 1 1 [.string (bs word), .int .i64 time] rfl ?hl_2 ?c1_2 ?c2_2 ?c3_2 ?c4_2 ?c5_2 ?_)
        | go_in)
      try case hl_2 => rfl
      try case c1_2 =>
        intro q u hq
        match q, hq with
        | 0, hq => simp at hq; subst hq; simp only [Addr.add]; exact (cellW_new x1 _ _ _).1
        | 1, hq => simp at hq; subst hq; simp only [Addr.add]; exact (cellW_new x1 _ _ _).2
      try case c2_2 => first | exact ⟨rfl, rfl⟩ | (intro u hu; simp at hu; rcases hu with rfl | rfl <;> rfl)
      try case c3_2 => unfold maxLen; omega
      try case c4_2 => omega
      try case c5_2 => have := hbx1.size; simp <;> omega
      intro v2 x2 hown2 hgrow2 _ _
      have hbx2 : Below wS.heap.size wS x2 := (hbx1.alloc hbx1.size _).grown hgrow2 (by have := hbx1.size; simp <;> omega) (fun k hk => (hown1.lt k hk).1)
      go_wp2_with (first
        | (at_builtin; refine wpList_append_own_at _ rfl _ _ 76 rfl wS.heap.size 119 i0 (.agg #[.string ⟨#[]⟩, .int .i64 0]) 2 24 Tryd.underlying76 hi hz0 hz1 hz2 rfl (by decide) _ _ _ rfl hown2 ⟨g, j * 2, none⟩ (K.length - j) (c9 - j) (flatW (K.drop j)) rfl ?hl_3 ?c1_3 ?c2_3 ?c3_3 ?c4_3 ?c5_3 ?_)
        | go_in)
      try case hl_3 => rw [flatW_len, List.length_drop]
      try case c1_3 =>
        intro q u hq
        have := flatW_cells (k := j) (m := K.length - j) hgL q u (by rw [flatW_drop] at hq; rw [List.take_of_length_le (by rw [List.length_drop, flatW_len]; omega)]; exact hq)
        exact cell_below hbx2 this
      try case c2_3 => first | exact flatW_one _ | exact flatW_one _ _ (by assumption)
      try case c3_3 => unfold maxLen; omega
      try case c4_3 => omega
      try case c5_3 => exact hbx2.size
      intro v3 x3 hown3 hgrow3 _ _
      have hbx3 : Below wS.heap.size wS x3 := hbx2.grown hgrow3 hbx2.size (fun k hk => (hown2.lt k hk).1)
      have hown4 : x3.ownsRow wS.heap.size 119 2 v3 (j + 1 + (K.length - j)) (flatW (K.take j) ++ [.string (bs word), .int .i64 time] ++ flatW (K.drop j)) := by simpa using hown3
      obtain ⟨g3, c3, hv3, hc3⟩ := rowW_succ (n := K.length) (by have h := hown4; rw [show j + 1 + (K.length - j) = K.length + 1 by omega] at h; exact h)
      subst hv3
      have hcb4 := cell_below hbx3 hcS
      have hfz4 := (hbx3.frozen hbS).trans hfzS
      have hfin := Lib.hid (askR_fin (j := j) hlx.out hBS.out hbx3 (Nat.le_refl _) (by omega) hown4)
      clear hown4 hown3 hgrow3 hown2 hgrow2 hown1 hbx1 hbx2
      go_wp2_with fail
      go_ret
      exact ⟨by rw [hr.out]; rfl, sref_trans hst.out.1 hfin.out.1, by rw [hr.out]; exact hfin.out.2⟩
    · have hje : j = K.length := by omega
      subst hje
      clear hlt hjn
      by_cases h0 : K.length = 0
      · by_cases hc0 : c9 = 0
        · subst hc0
          have hLn : K = [] := List.eq_nil_of_length_eq_zero h0
          subst hLn
          simp only [List.length_nil] at *
          have hbx1 : Below wS.heap.size wS wS := Below.refl _ _
          have hown1 : wS.ownsRow wS.heap.size 119 2 (.slice none 0 0) 0 [] := World.ownsRow_nil _ _ _ _
          go_wp2_with (first
            | (at_builtin; refine wpList_append_own_at _ rfl _ _ 76 rfl wS.heap.size 119 i0 (.agg #[.string ⟨#[]⟩, .int .i64 0]) 2 24 Tryd.underlying76 hi hz0 hz1 hz2 rfl (by decide) _ _ _ rfl (hown1.alloc _) ⟨wS.heap.size, 0, none⟩ 1 1 [.string (bs word), .int .i64 time] rfl ?hl_9 ?c1_9 ?c2_9 ?c3_9 ?c4_9 ?c5_9 ?_)
            | go_in)
          try case hl_9 => rfl
          try case c1_9 =>
            intro q u hq
            match q, hq with
            | 0, hq => simp at hq; subst hq; simp only [Addr.add]; exact (cellW_new wS _ _ _).1
            | 1, hq => simp at hq; subst hq; simp only [Addr.add]; exact (cellW_new wS _ _ _).2
          try case c2_9 => first | exact ⟨rfl, rfl⟩ | (intro u hu; simp at hu; rcases hu with rfl | rfl <;> rfl)
          try case c3_9 => unfold maxLen; omega
          try case c4_9 => omega
          try case c5_9 => have := hbx1.size; simp <;> omega
          intro v2 x2 hown2 hgrow2 _ _
          have hbx2 : Below wS.heap.size wS x2 := (hbx1.alloc hbx1.size _).grown hgrow2 (by have := hbx1.size; simp <;> omega) (fun k hk => (hown1.lt k hk).1)
          have hown4 : x2.ownsRow wS.heap.size 119 2 v2 (0 + 1 + (([] : List Wd).length - 0)) (flatW (([] : List Wd).take 0) ++ [.string (bs word), .int .i64 time] ++ flatW (([] : List Wd).drop 0)) := by
            simpa [flatW] using hown2
          obtain ⟨g3, c3, hv3, hc3⟩ := rowW_succ (n := 0) (by have h := hown4; rw [show 0 + 1 + (([] : List Wd).length - 0) = 0 + 1 by simp] at h; exact h)
          subst hv3
          have hcb4 := cell_below hbx2 hcS
          have hfz4 := (hbx2.frozen hbS).trans hfzS
          have hfin := Lib.hid (askR_fin (j := 0) hlx.out hBS.out hbx2 (Nat.le_refl _) (by omega) hown4)
          clear hown4 hown2 hgrow2 hown1 hbx1 hbx2
          go_wp2_with fail
          go_ret
          exact ⟨by rw [hr.out]; rfl, sref_trans hst.out.1 hfin.out.1, by rw [hr.out]; exact hfin.out.2⟩
        · have hc1 : 0 < c9 := by omega
          have hLn : K = [] := List.eq_nil_of_length_eq_zero h0
          subst hLn
          simp only [List.length_nil] at *
          have hbx1 : Below wS.heap.size wS wS := Below.refl _ _
          have hown1 : wS.ownsRow wS.heap.size 119 2 (.slice none 0 0) 0 [] := World.ownsRow_nil _ _ _ _
          go_wp2_with (first
            | (at_builtin; refine wpList_append_own_at _ rfl _ _ 76 rfl wS.heap.size 119 i0 (.agg #[.string ⟨#[]⟩, .int .i64 0]) 2 24 Tryd.underlying76 hi hz0 hz1 hz2 rfl (by decide) _ _ _ rfl (hown1.alloc _) ⟨wS.heap.size, 0, none⟩ 1 1 [.string (bs word), .int .i64 time] rfl ?hl_10 ?c1_10 ?c2_10 ?c3_10 ?c4_10 ?c5_10 ?_)
            | go_in)
          try case hl_10 => rfl
          try case c1_10 =>
            intro q u hq
            match q, hq with
            | 0, hq => simp at hq; subst hq; simp only [Addr.add]; exact (cellW_new wS _ _ _).1
            | 1, hq => simp at hq; subst hq; simp only [Addr.add]; exact (cellW_new wS _ _ _).2
          try case c2_10 => first | exact ⟨rfl, rfl⟩ | (intro u hu; simp at hu; rcases hu with rfl | rfl <;> rfl)
          try case c3_10 => unfold maxLen; omega
          try case c4_10 => omega
          try case c5_10 => have := hbx1.size; simp <;> omega
          intro v2 x2 hown2 hgrow2 _ _
          have hbx2 : Below wS.heap.size wS x2 := (hbx1.alloc hbx1.size _).grown hgrow2 (by have := hbx1.size; simp <;> omega) (fun k hk => (hown1.lt k hk).1)
          have hown4 : x2.ownsRow wS.heap.size 119 2 v2 (0 + 1 + (([] : List Wd).length - 0)) (flatW (([] : List Wd).take 0) ++ [.string (bs word), .int .i64 time] ++ flatW (([] : List Wd).drop 0)) := by
            simpa [flatW] using hown2
          obtain ⟨g3, c3, hv3, hc3⟩ := rowW_succ (n := 0) (by have h := hown4; rw [show 0 + 1 + (([] : List Wd).length - 0) = 0 + 1 by simp] at h; exact h)
          subst hv3
          have hcb4 := cell_below hbx2 hcS
          have hfz4 := (hbx2.frozen hbS).trans hfzS
          have hfin := Lib.hid (askR_fin (j := 0) hlx.out hBS.out hbx2 (Nat.le_refl _) (by omega) hown4)
          clear hown4 hown2 hgrow2 hown1 hbx1 hbx2
          go_wp2_with fail
          go_ret
          exact ⟨by rw [hr.out]; rfl, sref_trans hst.out.1 hfin.out.1, by rw [hr.out]; exact hfin.out.2⟩
      have hK1 : 0 < K.length := by omega
      by_cases hcl : c9 = K.length
      · subst hcl
        go_wp2_with (first
          | (at_builtin; refine wpList_append_own_at _ rfl _ _ 76 rfl wS.heap.size 119 i0 (.agg #[.string ⟨#[]⟩, .int .i64 0]) 2 24 Tryd.underlying76 hi hz0 hz1 hz2 rfl (by decide) _ _ _ rfl (World.ownsRow_nil _ _ _ _) ⟨g, 0, none⟩ K.length K.length (flatW K) rfl ?hl_5 ?c1_5 ?c2_5 ?c3_5 ?c4_5 ?c5_5 ?_)
          | go_in)
        try case hl_5 => exact flatW_len K
        try case c1_5 => first | exact (fun q u hq => by rw [Addr.add_lit, Nat.zero_add]; exact hgL q u hq) | exact hgL | exact hgL _ _ (by assumption)
        try case c2_5 => first | exact flatW_one _ | exact flatW_one _ _ (by assumption)
        try case c3_5 => unfold maxLen; omega
        try case c4_5 => omega
        try case c5_5 => exact Nat.le_refl _
        intro v1 x1 hown1 hgrow1 _ _
        have hbx1 : Below wS.heap.size wS x1 := (Below.refl _ _).grown hgrow1 (Nat.le_refl _) (fun k hk => by cases hk)
        go_wp2_with (first
          | (at_builtin; refine wpList_append_own_at _ rfl _ _ 76 rfl wS.heap.size 119 i0 (.agg #[.string ⟨#[]⟩, .int .i64 0]) 2 24 Tryd.underlying76 hi hz0 hz1 hz2 rfl (by decide) _ _ _ rfl (hown1.alloc _) ⟨x1.heap.size, 0, none⟩ 1 1 [.string (bs word), .int .i64 time] rfl ?hl_6 ?c1_6 ?c2_6 ?c3_6 ?c4_6 ?c5_6 ?_)
          | go_in)
        try case hl_6 => rfl
        try case c1_6 =>
          intro q u hq
          match q, hq with
          | 0, hq => simp at hq; subst hq; simp only [Addr.add]; exact (cellW_new x1 _ _ _).1
          | 1, hq => simp at hq; subst hq; simp only [Addr.add]; exact (cellW_new x1 _ _ _).2
        try case c2_6 => first | exact ⟨rfl, rfl⟩ | (intro u hu; simp at hu; rcases hu with rfl | rfl <;> rfl)
        try case c3_6 => unfold maxLen; omega
        try case c4_6 => omega
        try case c5_6 => have := hbx1.size; simp <;> omega
        intro v2 x2 hown2 hgrow2 _ _
        have hbx2 : Below wS.heap.size wS x2 := (hbx1.alloc hbx1.size _).grown hgrow2 (by have := hbx1.size; simp <;> omega) (fun k hk => (hown1.lt k hk).1)
        have hown4 : x2.ownsRow wS.heap.size 119 2 v2 (K.length + 1 + (K.length - K.length)) (flatW (K.take K.length) ++ [.string (bs word), .int .i64 time] ++ flatW (K.drop K.length)) := by
          simpa [flatW] using hown2
        obtain ⟨g3, c3, hv3, hc3⟩ := rowW_succ (n := K.length) (by have h := hown4; rw [show K.length + 1 + (K.length - K.length) = K.length + 1 by simp] at h; exact h)
        subst hv3
        have hcb4 := cell_below hbx2 hcS
        have hfz4 := (hbx2.frozen hbS).trans hfzS
        have hfin := Lib.hid (askR_fin (j := K.length) hlx.out hBS.out hbx2 (Nat.le_refl _) (by omega) hown4)
        clear hown4 hown2 hgrow2 hown1 hbx1 hbx2
        go_wp2_with fail
        go_ret
        exact ⟨by rw [hr.out]; rfl, sref_trans hst.out.1 hfin.out.1, by rw [hr.out]; exact hfin.out.2⟩
      · have hcl2 : K.length < c9 := by omega
        go_wp2_with (first
          | (at_builtin; refine wpList_append_own_at _ rfl _ _ 76 rfl wS.heap.size 119 i0 (.agg #[.string ⟨#[]⟩, .int .i64 0]) 2 24 Tryd.underlying76 hi hz0 hz1 hz2 rfl (by decide) _ _ _ rfl (World.ownsRow_nil _ _ _ _) ⟨g, 0, none⟩ K.length c9 (flatW K) rfl ?hl_7 ?c1_7 ?c2_7 ?c3_7 ?c4_7 ?c5_7 ?_)
          | go_in)
        try case hl_7 => exact flatW_len K
        try case c1_7 => first | exact (fun q u hq => by rw [Addr.add_lit, Nat.zero_add]; exact hgL q u hq) | exact hgL | exact hgL _ _ (by assumption)
        try case c2_7 => first | exact flatW_one _ | exact flatW_one _ _ (by assumption)
        try case c3_7 => unfold maxLen; omega
        try case c4_7 => omega
        try case c5_7 => exact Nat.le_refl _
        intro v1 x1 hown1 hgrow1 _ _
        have hbx1 : Below wS.heap.size wS x1 := (Below.refl _ _).grown hgrow1 (Nat.le_refl _) (fun k hk => by cases hk)
        go_wp2_with (first
          | (at_builtin; refine wpList_append_own_at _ rfl _ _ 76 rfl wS.heap.size 119 i0 (.agg #[.string ⟨#[]⟩, .int .i64 0]) 2 24 Tryd.underlying76 hi hz0 hz1 hz2 rfl (by decide) _ _ _ rfl (hown1.alloc _) ⟨x1.heap.size, 0, none⟩ 1 1 [.string (bs word), .int .i64 time] rfl ?hl_8 ?c1_8 ?c2_8 ?c3_8 ?c4_8 ?c5_8 ?_)
          | go_in)
        try case hl_8 => rfl
        try case c1_8 =>
          intro q u hq
          match q, hq with
          | 0, hq => simp at hq; subst hq; simp only [Addr.add]; exact (cellW_new x1 _ _ _).1
          | 1, hq => simp at hq; subst hq; simp only [Addr.add]; exact (cellW_new x1 _ _ _).2
        try case c2_8 => first | exact ⟨rfl, rfl⟩ | (intro u hu; simp at hu; rcases hu with rfl | rfl <;> rfl)
        try case c3_8 => unfold maxLen; omega
        try case c4_8 => omega
        try case c5_8 => have := hbx1.size; simp <;> omega
        intro v2 x2 hown2 hgrow2 _ _
        have hbx2 : Below wS.heap.size wS x2 := (hbx1.alloc hbx1.size _).grown hgrow2 (by have := hbx1.size; simp <;> omega) (fun k hk => (hown1.lt k hk).1)
        have hown4 : x2.ownsRow wS.heap.size 119 2 v2 (K.length + 1 + (K.length - K.length)) (flatW (K.take K.length) ++ [.string (bs word), .int .i64 time] ++ flatW (K.drop K.length)) := by
          simpa [flatW] using hown2
        obtain ⟨g3, c3, hv3, hc3⟩ := rowW_succ (n := K.length) (by have h := hown4; rw [show K.length + 1 + (K.length - K.length) = K.length + 1 by simp] at h; exact h)
        subst hv3
        have hcb4 := cell_below hbx2 hcS
        have hfz4 := (hbx2.frozen hbS).trans hfzS
        have hfin := Lib.hid (askR_fin (j := K.length) hlx.out hBS.out hbx2 (Nat.le_refl _) (by omega) hown4)
        clear hown4 hown2 hgrow2 hown1 hbx1 hbx2
        go_wp2_with fail
        go_ret
        exact ⟨by rw [hr.out]; rfl, sref_trans hst.out.1 hfin.out.1, by rw [hr.out]; exact hfin.out.2⟩
end Go.Proofs.YtmjbhglmlbgkmaaDoor
