/- RefB3, RrlA -/
import Derived.Test.YtkhphdkjnpcnnaaGreatDoorMg29
/- The reference's book, walked: Add: a new row of three parts. -/
namespace Go.Proofs.YtkhphdkjnpcnnaaGreatDoor set_option linter.unusedVariables false set_option linter.unusedSimpArgs false
open Go.RowKit Go.Maps

theorem flatP_cells {w : World} {g : Nat} {k m : Nat} {L : List Per} (h : ∀ i u, (flatP L)[i]? = some u → w.cell? ⟨g, i, none⟩ = some u) :
    ∀ i u, (((flatP L).drop (k * 4)).take (m * 4))[i]? = some u → w.cell? ((⟨g, k * 4, none⟩ : Addr).add i) = some u := by
  intro i u hu
  rw [List.getElem?_take] at hu
  split at hu
  · rw [List.getElem?_drop] at hu
    rw [Addr.add_lit]
    exact h _ _ hu
  · cases hu
theorem ownsRow_cells {w : World} {base g cap n : Nat} {L : List Per} (h : w.ownsRow base 46 4 (.slice (some ⟨g, 0, none⟩) n cap) n (flatP L)) :
    ∀ i u, (flatP L)[i]? = some u → w.cell? ⟨g, i, none⟩ = some u := by
  obtain ⟨hl, ⟨h1, _⟩ | ⟨g', cap', cur, he, hb, hg, hc, hm, hsz, ht⟩⟩ := h
  · cases h1
  · cases he
    intro i u hu
    rw [cell_of_row w g i _ _ _ hg]
    have hi : i < n * 4 := by
      have := (List.getElem?_eq_some_iff.1 hu).1
      omega
    rw [← ht, List.getElem?_take, if_pos hi] at hu
    simpa using hu
theorem flatP_one (L : List Per) : ∀ u ∈ flatP L, u.oneCell' = true := by
  induction L with
  | nil => intro u hu; cases hu
  | cons p L ih =>
    intro u hu
    simp only [flatP, Per.cells, List.cons_append, List.nil_append, List.mem_cons] at hu
    rcases hu with rfl | rfl | rfl | rfl | hu
    all_goals first | rfl | exact ih u hu
theorem insP_len (p : Per) (L : List Per) : (insP p L).length = L.length + 1 := by rw [(insP_perm p L).length_eq]; rfl
theorem ownsRow_succ {w : World} {base size n : Nat} {e : TypeId} {v : Value} {xs : List Value} (h : w.ownsRow base e size v (n + 1) xs) : ∃ g c, v = .slice (some ⟨g, 0, none⟩) (n + 1) c ∧ n + 1 ≤ c := by
  obtain ⟨_, ⟨_, h0⟩ | ⟨g, cap, cur, h1, _, _, h2, _⟩⟩ := h
  · omega
  · exact ⟨g, cap, h1, h2⟩
/-! walk -/
theorem less_bsR (a b : List UInt8) : Op.bytesLess (bs a).toList (bs b).toList = decide (a < b) := by rw [bytesLess_eq, toList_data, toList_data, bs_list, bs_list]
theorem code_cases (n : List UInt8) (k : Int) : (isName n = false ∧ checkOf n k 1 = 4) ∨ (isName n = true ∧ isKey k = false ∧ checkOf n k 1 = 10) ∨ (isName n = true ∧ isKey k = true ∧ checkOf n k 1 = 0) := by
  unfold checkOf
  cases isName n <;> cases isKey k <;> simp
theorem addOf_rest {L : List Per} {n : List UInt8} {k : Int} (h1 : isName n = true) (h2 : isKey k = true) : addOf L n k = if (findP L n).isSome then (6, L) else if 20 ≤ L.length then (7, L) else (0, insP ⟨n, k, 1, false⟩ L) := by
  unfold addOf
  rw [if_neg (by rw [h1]; decide), if_neg (by rw [h2]; decide)]
/-- What Add does behind its loop. -/
theorem addR_fin {w w' : World} {base base2 b g : Nat} {L : List Per} {n : List UInt8} {k : Int} {j : Nat} {v : Value} (hj : lessN L n = j) (hB : RefAt w base b L) (hb : Below base2 w w') (h2 : w.heap.size ≤ base2) (hb2 : base ≤ base2)
    (hown : w'.ownsRow base2 46 4 v (j + 1 + (L.length - j)) (flatP (L.take j) ++ [.string (bs n), .int .i64 k, .int .i64 1, .bool false] ++ flatP (L.drop j))) :
    Keeps (RefS base w) w (w'.setCell ⟨b, 0, none⟩ v) ∧ RefAt (w'.setCell ⟨b, 0, none⟩ v) base b (insP ⟨n, k, 1, false⟩ L) := by
  have hblt := hB.lt
  obtain ⟨hge, u, hbk, _⟩ := hB
  have hk : Keeps (RefS base w) w w' := ⟨hb.os, hb.tape, hb.output, hb.size, fun i hi _ => hb.block i (Nat.lt_of_lt_of_le hi h2)⟩
  have hbk' : w'.heap[b]? = some (.cells #[u] 49 (0, 0)) := (hb.block b (Nat.lt_of_lt_of_le hblt h2)).trans hbk
  refine ⟨hk.trans (keeps_setCell _ _ _ ⟨hge, _, _, _, hbk, .inl rfl⟩), hge, v, heap_setCell_same w' b 0 _ _ v hbk', ?_⟩
  have hjl : j ≤ L.length := by rw [← hj]; exact lessN_le _ _
  have hflat : flatP (insP ⟨n, k, 1, false⟩ L) = flatP (L.take j) ++ [.string (bs n), .int .i64 k, .int .i64 1, .bool false] ++ flatP (L.drop j) := by
    rw [insP_take, show lessN L (Per.mk n k 1 false).name = j from hj, flatP_append, List.append_assoc]
    rfl
  rw [hflat, insP_len, show L.length + 1 = j + 1 + (L.length - j) by omega]
  exact ownsRow_other (ownsRow_mono hown hb2) _ _ (fun g' hg' => by
    have := (ownsRow_block hown hg').1
    simp
    omega)
set_option maxHeartbeats 4000000 in
set_option maxRecDepth 100000 in
theorem addR_any (base b : Nat) (L : List Per) (n : List UInt8) (k : Int) (w : World) (hB : RefAt w base b L) (hn : n.length ≤ maxLen) (hm : L.length ≤ 20) :
    Calls Tryz.prog 79 #[.pointer (some ⟨b, 0, none⟩), .string (bs n), .int .i64 k] w fun e w' => e = .returned (.int .i64 ((addOf L n k).1 : Nat)) ∧ Keeps (RefS base w) w w' ∧ RefAt w' base b (addOf L n k).2 := by
  obtain ⟨i0, hi, hz0, hz1, hz2⟩ := info_parts info_person
  have hA : Below w.heap.size w (w.alloc (.cells #[.string (bs n), .int .i64 k, .int .i64 1, .bool false] 46)) := (Below.refl _ _).alloc (Nat.le_refl _) _
  have q0 : (w.alloc (.cells #[.string (bs n), .int .i64 k, .int .i64 1, .bool false] 46)).cell? ⟨w.heap.size, 0, none⟩ = some (.string (bs n)) := by simp
  have q1 : (w.alloc (.cells #[.string (bs n), .int .i64 k, .int .i64 1, .bool false] 46)).cell? ⟨w.heap.size, 1, none⟩ = some (.int .i64 k) := by simp
  have q2 : (w.alloc (.cells #[.string (bs n), .int .i64 k, .int .i64 1, .bool false] 46)).cell? ⟨w.heap.size, 2, none⟩ = some (.int .i64 1) := by simp
  have q3 : (w.alloc (.cells #[.string (bs n), .int .i64 k, .int .i64 1, .bool false] 46)).cell? ⟨w.heap.size, 3, none⟩ = some (.bool false) := by simp
  have hpe := Lib.hid (errR_person n k 1 false (w.alloc (.cells #[.string (bs n), .int .i64 k, .int .i64 1, .bool false] 46)) hn)
  have hge0 := hB.ge
  rcases code_cases n k with ⟨h1, hc⟩ | ⟨h1, h2, hc⟩ | ⟨h1, h2, hc⟩
  case inl =>
    rw [hc] at hpe
    have hr := Lib.hid (show addOf L n k = (4, L) by unfold addOf; rw [if_pos h1])
    clear h1 hc
    go_enter Tryz.func79, Tryz.ntmps79
    go_wp2_with fail
    refine hpe.out.mono ?_
    rintro e w1 ⟨rfl, hb1⟩
    have hb1 := below_trans hA hb1
    clear q0 q1 q2 q3
    go_wp2_with fail
    go_ret
    exact ⟨by rw [hr.out]; rfl, Keeps.of_below hb1, by rw [hr.out]; exact hB.below hb1⟩
  case inr.inl =>
    rw [hc] at hpe
    have hr := Lib.hid (show addOf L n k = (10, L) by unfold addOf; rw [if_neg (by rw [h1]; decide), if_pos h2])
    clear h1 h2 hc
    go_enter Tryz.func79, Tryz.ntmps79
    go_wp2_with fail
    refine hpe.out.mono ?_
    rintro e w1 ⟨rfl, hb1⟩
    have hb1 := below_trans hA hb1
    clear q0 q1 q2 q3
    go_wp2_with fail
    go_ret
    exact ⟨by rw [hr.out]; rfl, Keeps.of_below hb1, by rw [hr.out]; exact hB.below hb1⟩
  rw [hc] at hpe
  have hadd := Lib.hid (addOf_rest (L := L) h1 h2)
  clear h1 h2 hc
  go_enter Tryz.func79, Tryz.ntmps79
  go_wp2_with fail
  refine hpe.out.mono ?_
  rintro e w1 ⟨rfl, hb1⟩
  have q0 := cell_below hb1 q0
  have q1 := cell_below hb1 q1
  have q2 := cell_below hb1 q2
  have q3 := cell_below hb1 q3
  have hb1 := below_trans hA hb1
  have hfi := Lib.hid (findR_any base b L n w1 (hB.below hb1) (by omega))
  have hb1 := Lib.hid hb1
  clear hA hpe
  cases hx : idxP L n with
  | some j =>
    rw [findIx_some hx] at hfi
    have hr := Lib.hid (show addOf L n k = (6, L) by rw [hadd.out, if_pos (by rw [(idxP_some hx).2.1]; rfl)])
    clear hx q0 q1 q2 q3
    go_wp2_with fail
    refine hfi.out.mono ?_
    rintro e w2 ⟨rfl, hb2⟩
    have hb2 := Lib.hid (below_trans hb1.out hb2)
    go_wp2_with fail
    go_ret
    exact ⟨by rw [hr.out]; rfl, Keeps.of_below hb2.out, by rw [hr.out]; exact hB.below hb2.out⟩
  | none =>
  rw [findIx_none hx] at hfi
  have hadd := Lib.hid (hadd.out.trans (if_neg (by rw [(idxP_none hx).1]; decide)))
  clear hx
  go_wp2_with fail
  refine hfi.out.mono ?_
  rintro e w2 ⟨rfl, hb2⟩
  have q0 := cell_below hb2 q0
  have q1 := cell_below hb2 q1
  have q2 := cell_below hb2 q2
  have q3 := cell_below hb2 q3
  have hb2 := below_trans hb1.out hb2
  have hB2 := hB.below hb2
  obtain ⟨v, hcb, hown, hfz, hgb⟩ := hB2.at0
  have hblt := hB2.lt
  have hb2 := Lib.hid hb2
  have hB2 := Lib.hid hB2
  have hgb := Lib.hid hgb
  clear hfi hb1
  have hownH := Lib.hid hown
  obtain ⟨hl, hsh⟩ := id hown
  have hPers := Lib.hid (persAt_of_ownsRow (by unfold maxLen; omega) hownH.out).1
  by_cases h20 : 20 ≤ L.length
  · have hr := Lib.hid (show addOf L n k = (7, L) by rw [hadd.out, if_pos h20])
    obtain ⟨a, c, rfl, _⟩ := hPers.out
    clear hsh q0 q1 q2 q3
    have h20 : (20 : Int) ≤ (L.length : Int) := by omega
    go_wp2_with fail
    go_ret
    exact ⟨by rw [hr.out]; rfl, Keeps.of_below hb2.out, by rw [hr.out]; exact hB.below hb2.out⟩
  have hr := Lib.hid (show addOf L n k = (0, insP ⟨n, k, 1, false⟩ L) by rw [hadd.out, if_neg h20])
  clear hadd
  obtain ⟨a, c, rfl, hml, hcl⟩ := hPers.out
  have hcl := Lib.hid hcl
  have h20i : ¬ ((20 : Int) ≤ (L.length : Int)) := by omega
  have hsh := Lib.hid hsh
  go_wp2_with fail
  go_loopw [9] (fun i wr => ∃ (j m : Nat), j ≤ L.length ∧ i = .int .i64 j ∧ wr = w2.drewN m ∧ Hid (∀ q (h : q < L.length), q < j → L[q].name < n)) (fun i _ => L.length - (intOf i).toNat)
  case atStart => exact ⟨0, 0, Nat.zero_le _, rfl, rfl, Lib.hid (fun _ _ h => absurd h (Nat.not_lt_zero _))⟩
  case round =>
    obtain ⟨j, m, hj, rfl, rfl, hall⟩ := hrel
    have hls := fun h : j < L.length => less_bsR L[j].name n
    have hend : (∀ h : j < L.length, ¬ L[j].name < n) → Hid (lessN L n = j) := fun he => Lib.hid (lessN_at hj hall.out he)
    by_cases hlt : j < L.length
    · obtain ⟨bb, o, rfl, h0, _⟩ := hcl.out j hlt
      have hlt2 := hls hlt
      by_cases hb : L[j].name < n
      · have hall2 := Lib.hid (show ∀ q (h : q < L.length), q < j + 1 → L[q].name < n from fun q h hq => by
          rcases Nat.lt_succ_iff_lt_or_eq.1 hq with h' | rfl
          · exact hall.out q h h'
          · exact hb)
        have hlt3 := hlt2.trans (decide_eq_true hb)
        clear hb hend hls hsh hlt2
        go_wp2_with fail
        exact ⟨⟨j + 1, _, by omega, by simp, rfl, hall2⟩, by simp [intOf]; omega⟩
      · have hlt3 := hlt2.trans (decide_eq_false hb)
        clear hlt2 hls
        have hrow : ∃ g, (some (⟨bb, o, none⟩ : Addr)) = some ⟨g, 0, none⟩ ∧ L.length ≤ c ∧ g < w2.heap.size := by
          rcases hsh.out with ⟨hv, h0⟩ | ⟨g, cap, cur, hv, hbg, hg, hcap, hmx, hsz, htk⟩
          · cases hv
          · cases hv
            exact ⟨_, rfl, hcap, (Array.getElem?_eq_some_iff.1 hg).1⟩
        skip
        obtain ⟨g, hae, hcap, hg⟩ := hrow
        cases hae
        rw [Nat.zero_add] at h0
        have hgL := ownsRow_cells hownH.out
        have hjc : j ≤ c := by omega
        have hjn : j ≤ L.length := hj
        have hlx := hend (fun _ => hb)
        go_wp2_with (first
          | (at_builtin; refine wpList_append_own_at _ rfl _ _ 47 rfl w2.heap.size 46 i0 (.agg #[.string ⟨#[]⟩, .int .i64 0, .int .i64 0, .bool false]) 4 40 Tryz.underlying47 hi hz0 hz1 hz2 rfl (by decide) _ _ _ rfl (World.ownsRow_nil _ _ _ _) ⟨bb, 0, none⟩ j c (flatP (L.take j)) rfl ?hl_1 ?c1_1 ?c2_1 ?c3_1 ?c4_1 ?c5_1 ?_)
          | go_in)
        try case hl_1 => rw [flatP_len, List.length_take, Nat.min_eq_left hj]
        try case c1_1 =>
          intro q u hq
          have h9 := flatP_cells (k := 0) (m := j) hgL q u (by rw [Nat.zero_mul, List.drop_zero, ← flatP_take]; exact hq)
          rw [Nat.zero_mul] at h9
          first | exact h9 | (rw [Addr.add_lit, Nat.zero_add] at h9; exact h9)
        try case c2_1 => first | exact flatP_one _ | exact flatP_one _ _ (by assumption)
        try case c3_1 => unfold maxLen; omega
        try case c4_1 => omega
        try case c5_1 => exact Nat.le_refl _
        intro v1 x1 hown1 hgrow1 _ _
        have hbx1 : Below w2.heap.size w2 x1 := (below_drawn (Below.refl _ _) m).grown hgrow1 (Nat.le_refl _) (fun k hk => by cases hk)
        have q0 := cell_below hbx1 q0
        have q1 := cell_below hbx1 q1
        have q2 := cell_below hbx1 q2
        have q3 := cell_below hbx1 q3
        go_wp2_with (first
          | (at_builtin; refine wpList_append_own_at _ rfl _ _ 47 rfl w2.heap.size 46 i0 (.agg #[.string ⟨#[]⟩, .int .i64 0, .int .i64 0, .bool false]) 4 40 Tryz.underlying47 hi hz0 hz1 hz2 rfl (by decide) _ _ _ rfl (hown1.alloc _) ⟨x1.heap.size, 0, none⟩ 1 1 [.string (bs n), .int .i64 k, .int .i64 1, .bool false] rfl ?hl_2 ?c1_2 ?c2_2 ?c3_2 ?c4_2 ?c5_2 ?_)
          | go_in)
        try case hl_2 => rfl
        try case c1_2 =>
          intro q u hq
          match q, hq with
          | 0, hq => simp at hq; subst hq; simp [Addr.add]
          | 1, hq => simp at hq; subst hq; simp [Addr.add]
          | 2, hq => simp at hq; subst hq; simp [Addr.add]
          | 3, hq => simp at hq; subst hq; simp [Addr.add]
        try case c2_2 => first | exact ⟨rfl, rfl, rfl, rfl⟩ | (intro u hu; simp at hu; rcases hu with rfl | rfl | rfl | rfl <;> rfl)
        try case c3_2 => unfold maxLen; omega
        try case c4_2 => omega
        try case c5_2 => have := hbx1.size; simp; omega
        intro v2 x2 hown2 hgrow2 _ _
        have hbx2 : Below w2.heap.size w2 x2 := (hbx1.alloc hbx1.size _).grown hgrow2 (by have := hbx1.size; simp; omega) (fun k hk => (hown1.lt k hk).1)
        have hcb3 := cell_below hbx2 hcb
        have hfz3 := (hbx2.frozen hblt).trans hfz
        go_wp2_with (first
          | (at_builtin; refine wpList_append_own_at _ rfl _ _ 47 rfl w2.heap.size 46 i0 (.agg #[.string ⟨#[]⟩, .int .i64 0, .int .i64 0, .bool false]) 4 40 Tryz.underlying47 hi hz0 hz1 hz2 rfl (by decide) _ _ _ rfl hown2 ⟨bb, j * 4, none⟩ (L.length - j) (c - j) (flatP (L.drop j)) rfl ?hl_3 ?c1_3 ?c2_3 ?c3_3 ?c4_3 ?c5_3 ?_)
          | go_in)
        try case hl_3 => rw [flatP_len, List.length_drop]
        try case c1_3 =>
          intro q u hq
          have := flatP_cells (k := j) (m := L.length - j) hgL q u (by rw [flatP_drop] at hq; rw [List.take_of_length_le (by rw [List.length_drop, flatP_len]; omega)]; exact hq)
          exact cell_below hbx2 this
        try case c2_3 => first | exact flatP_one _ | exact flatP_one _ _ (by assumption)
        try case c3_3 => unfold maxLen; omega
        try case c4_3 => omega
        try case c5_3 => exact hbx2.size
        intro v3 x3 hown3 hgrow3 _ _
        have hbx3 : Below w2.heap.size w2 x3 := hbx2.grown hgrow3 hbx2.size (fun k hk => (hown2.lt k hk).1)
        have hown4 : x3.ownsRow w2.heap.size 46 4 v3 (j + 1 + (L.length - j)) (flatP (L.take j) ++ [.string (bs n), .int .i64 k, .int .i64 1, .bool false] ++ flatP (L.drop j)) := by simpa using hown3
        obtain ⟨g3, c3, hv3, hc3⟩ := ownsRow_succ (n := L.length) (by have h := hown4; rw [show j + 1 + (L.length - j) = L.length + 1 by omega] at h; exact h)
        subst hv3
        have hcb4 := cell_below hbx3 hcb
        have hfz4 := (hbx3.frozen hblt).trans hfz
        have hfin := addR_fin (j := j) (g := 0) hlx.out hB2.out hbx3 (Nat.le_refl _) (by omega) hown4
        have hfin := Lib.hid hfin
        clear hown3 hgrow3 hown2 hgrow2 hown1 hbx1 hbx2
        go_wp2_with fail
        go_ret
        exact ⟨by rw [hr.out]; rfl, keepsR_below hb2.out hfin.out.1, by rw [hr.out]; exact hfin.out.2⟩

    · have hje : j = L.length := by omega
      have hge : ¬ ((j : Int) < (L.length : Int)) := by omega
      clear hls
      rcases hsh.out with ⟨hv, h0⟩ | ⟨g, cap, cur, hv, hbg, hg, hcap, hmx, hsz, htk⟩
      · injection hv with hae h0' hcc
        skip
        subst hae
        have hLn : L = [] := List.eq_nil_of_length_eq_zero h0
        have hlx := hend (fun h => absurd h (by omega))
        have hj0 : j = 0 := by omega
        subst hj0 hLn
        subst hcc
        simp only [List.length_nil] at *
        have hbx1 : Below w2.heap.size w2 (w2.drewN m) := below_drawn (Below.refl _ _) m
        generalize w2.drewN m = x1 at *
        have hown1 : x1.ownsRow w2.heap.size 46 4 (.slice none 0 0) 0 [] := World.ownsRow_nil _ _ _ _
        have hcbx := cell_below hbx1 hcb
        have q0 := cell_below hbx1 q0
        have q1 := cell_below hbx1 q1
        have q2 := cell_below hbx1 q2
        have q3 := cell_below hbx1 q3
        go_wp2_with (first
          | (at_builtin; refine wpList_append_own_at _ rfl _ _ 47 rfl w2.heap.size 46 i0 (.agg #[.string ⟨#[]⟩, .int .i64 0, .int .i64 0, .bool false]) 4 40 Tryz.underlying47 hi hz0 hz1 hz2 rfl (by decide) _ _ _ rfl (hown1.alloc _) ⟨x1.heap.size, 0, none⟩ 1 1 [.string (bs n), .int .i64 k, .int .i64 1, .bool false] rfl ?hl_4 ?c1_4 ?c2_4 ?c3_4 ?c4_4 ?c5_4 ?_)
          | go_in)
        try case hl_4 => rfl
        try case c1_4 =>
          intro q u hq
          match q, hq with
          | 0, hq => simp at hq; subst hq; simp [Addr.add]
          | 1, hq => simp at hq; subst hq; simp [Addr.add]
          | 2, hq => simp at hq; subst hq; simp [Addr.add]
          | 3, hq => simp at hq; subst hq; simp [Addr.add]
        try case c2_4 => first | exact ⟨rfl, rfl, rfl, rfl⟩ | (intro u hu; simp at hu; rcases hu with rfl | rfl | rfl | rfl <;> rfl)
        try case c3_4 => unfold maxLen; omega
        try case c4_4 => omega
        try case c5_4 => have := hbx1.size; simp; omega
        intro v2 x2 hown2 hgrow2 _ _
        have hbx2 : Below w2.heap.size w2 x2 := (hbx1.alloc hbx1.size _).grown hgrow2 (by have := hbx1.size; simp; omega) (fun k hk => (hown1.lt k hk).1)
        have hown4 : x2.ownsRow w2.heap.size 46 4 v2 (0 + 1 + (([] : List Per).length - 0)) (flatP (([] : List Per).take 0) ++ [.string (bs n), .int .i64 k, .int .i64 1, .bool false] ++ flatP (([] : List Per).drop 0)) := by
          simpa [flatP] using hown2
        obtain ⟨g3, c3, hv3, hc3⟩ := ownsRow_succ (n := 0) (by have h := hown4; rw [show 0 + 1 + (([] : List Per).length - 0) = 0 + 1 by simp] at h; exact h)
        subst hv3
        have hcb4 := cell_below hbx2 hcb
        have hfz4 := (hbx2.frozen hblt).trans hfz
        have hfin := Lib.hid (addR_fin (j := 0) (g := 0) hlx.out hB2.out hbx2 (Nat.le_refl _) (by omega) hown4)
        clear hown4 hown2 hgrow2 hown1 hbx1 hbx2
        go_wp2_with fail
        go_ret
        exact ⟨by rw [hr.out]; rfl, keepsR_below hb2.out hfin.out.1, by rw [hr.out]; exact hfin.out.2⟩
      · have hrow : ∃ g, a = some ⟨g, 0, none⟩ ∧ L.length ≤ c ∧ g < w2.heap.size := by
          cases hv
          exact ⟨g, rfl, hcap, (Array.getElem?_eq_some_iff.1 hg).1⟩
        obtain ⟨g, hae, hcap, hg⟩ := hrow
        subst hae
        have hlx := hend (fun h => absurd h (by omega))
        subst hje
        clear hend hge hall hsh hv
        have hgL := ownsRow_cells hownH.out
        have hll : ¬ ((L.length : Int) < (L.length : Int)) := by omega
        by_cases hcl : c = L.length
        · subst hcl
          go_wp2_with (first
            | (at_builtin; refine wpList_append_own_at _ rfl _ _ 47 rfl w2.heap.size 46 i0 (.agg #[.string ⟨#[]⟩, .int .i64 0, .int .i64 0, .bool false]) 4 40 Tryz.underlying47 hi hz0 hz1 hz2 rfl (by decide) _ _ _ rfl (World.ownsRow_nil _ _ _ _) ⟨g, 0, none⟩ L.length L.length (flatP L) rfl ?hl_5 ?c1_5 ?c2_5 ?c3_5 ?c4_5 ?c5_5 ?_)
            | go_in)
          try case hl_5 => exact flatP_len L
          try case c1_5 => first | exact (fun q u hq => by rw [Addr.add_lit, Nat.zero_add]; exact hgL q u hq) | exact hgL | exact hgL _ _ (by assumption)
          try case c2_5 => first | exact flatP_one _ | exact flatP_one _ _ (by assumption)
          try case c3_5 => unfold maxLen; omega
          try case c4_5 => omega
          try case c5_5 => exact Nat.le_refl _
          intro v1 x1 hown1 hgrow1 _ _
          have hbx1 : Below w2.heap.size w2 x1 := (below_drawn (Below.refl _ _) m).grown hgrow1 (Nat.le_refl _) (fun k hk => by cases hk)
          have q0 := cell_below hbx1 q0
          have q1 := cell_below hbx1 q1
          have q2 := cell_below hbx1 q2
          have q3 := cell_below hbx1 q3
          go_wp2_with (first
            | (at_builtin; refine wpList_append_own_at _ rfl _ _ 47 rfl w2.heap.size 46 i0 (.agg #[.string ⟨#[]⟩, .int .i64 0, .int .i64 0, .bool false]) 4 40 Tryz.underlying47 hi hz0 hz1 hz2 rfl (by decide) _ _ _ rfl (hown1.alloc _) ⟨x1.heap.size, 0, none⟩ 1 1 [.string (bs n), .int .i64 k, .int .i64 1, .bool false] rfl ?hl_6 ?c1_6 ?c2_6 ?c3_6 ?c4_6 ?c5_6 ?_)
            | go_in)
          try case hl_6 => rfl
          try case c1_6 =>
            intro q u hq
            match q, hq with
            | 0, hq => simp at hq; subst hq; simp [Addr.add]
            | 1, hq => simp at hq; subst hq; simp [Addr.add]
            | 2, hq => simp at hq; subst hq; simp [Addr.add]
            | 3, hq => simp at hq; subst hq; simp [Addr.add]
          try case c2_6 => first | exact ⟨rfl, rfl, rfl, rfl⟩ | (intro u hu; simp at hu; rcases hu with rfl | rfl | rfl | rfl <;> rfl)
          try case c3_6 => unfold maxLen; omega
          try case c4_6 => omega
          try case c5_6 => have := hbx1.size; simp; omega
          intro v2 x2 hown2 hgrow2 _ _
          have hbx2 : Below w2.heap.size w2 x2 := (hbx1.alloc hbx1.size _).grown hgrow2 (by have := hbx1.size; simp; omega) (fun k hk => (hown1.lt k hk).1)
          have hown4 : x2.ownsRow w2.heap.size 46 4 v2 (L.length + 1 + (L.length - L.length)) (flatP (L.take L.length) ++ [.string (bs n), .int .i64 k, .int .i64 1, .bool false] ++ flatP (L.drop L.length)) := by
            simpa [flatP] using hown2
          obtain ⟨g3, c3, hv3, hc3⟩ := ownsRow_succ (n := L.length) (by have h := hown4; rw [show L.length + 1 + (L.length - L.length) = L.length + 1 by simp] at h; exact h)
          subst hv3
          have hcb4 := cell_below hbx2 hcb
          have hfz4 := (hbx2.frozen hblt).trans hfz
          have hfin := Lib.hid (addR_fin (j := L.length) (g := 0) hlx.out hB2.out hbx2 (Nat.le_refl _) (by omega) hown4)
          clear hown4 hown2 hgrow2 hown1 hbx1 hbx2
          go_wp2_with fail
          go_ret
          exact ⟨by rw [hr.out]; rfl, keepsR_below hb2.out hfin.out.1, by rw [hr.out]; exact hfin.out.2⟩
        · have hcl2 : L.length < c := by omega
          go_wp2_with (first
            | (at_builtin; refine wpList_append_own_at _ rfl _ _ 47 rfl w2.heap.size 46 i0 (.agg #[.string ⟨#[]⟩, .int .i64 0, .int .i64 0, .bool false]) 4 40 Tryz.underlying47 hi hz0 hz1 hz2 rfl (by decide) _ _ _ rfl (World.ownsRow_nil _ _ _ _) ⟨g, 0, none⟩ L.length c (flatP L) rfl ?hl_8 ?c1_8 ?c2_8 ?c3_8 ?c4_8 ?c5_8 ?_)
            | go_in)
          try case hl_8 => exact flatP_len L
          try case c1_8 => first | exact (fun q u hq => by rw [Addr.add_lit, Nat.zero_add]; exact hgL q u hq) | exact hgL | exact hgL _ _ (by assumption)
          try case c2_8 => first | exact flatP_one _ | exact flatP_one _ _ (by assumption)
          try case c3_8 => unfold maxLen; omega
          try case c4_8 => omega
          try case c5_8 => exact Nat.le_refl _
          intro v1 x1 hown1 hgrow1 _ _
          have hbx1 : Below w2.heap.size w2 x1 := (below_drawn (Below.refl _ _) m).grown hgrow1 (Nat.le_refl _) (fun k hk => by cases hk)
          have q0 := cell_below hbx1 q0
          have q1 := cell_below hbx1 q1
          have q2 := cell_below hbx1 q2
          have q3 := cell_below hbx1 q3
          go_wp2_with (first
            | (at_builtin; refine wpList_append_own_at _ rfl _ _ 47 rfl w2.heap.size 46 i0 (.agg #[.string ⟨#[]⟩, .int .i64 0, .int .i64 0, .bool false]) 4 40 Tryz.underlying47 hi hz0 hz1 hz2 rfl (by decide) _ _ _ rfl (hown1.alloc _) ⟨x1.heap.size, 0, none⟩ 1 1 [.string (bs n), .int .i64 k, .int .i64 1, .bool false] rfl ?hl_9 ?c1_9 ?c2_9 ?c3_9 ?c4_9 ?c5_9 ?_)
            | go_in)
          try case hl_9 => rfl
          try case c1_9 =>
            intro q u hq
            match q, hq with
            | 0, hq => simp at hq; subst hq; simp [Addr.add]
            | 1, hq => simp at hq; subst hq; simp [Addr.add]
            | 2, hq => simp at hq; subst hq; simp [Addr.add]
            | 3, hq => simp at hq; subst hq; simp [Addr.add]
          try case c2_9 => first | exact ⟨rfl, rfl, rfl, rfl⟩ | (intro u hu; simp at hu; rcases hu with rfl | rfl | rfl | rfl <;> rfl)
          try case c3_9 => unfold maxLen; omega
          try case c4_9 => omega
          try case c5_9 => have := hbx1.size; simp; omega
          intro v2 x2 hown2 hgrow2 _ _
          have hbx2 : Below w2.heap.size w2 x2 := (hbx1.alloc hbx1.size _).grown hgrow2 (by have := hbx1.size; simp; omega) (fun k hk => (hown1.lt k hk).1)
          have hown4 : x2.ownsRow w2.heap.size 46 4 v2 (L.length + 1 + (L.length - L.length)) (flatP (L.take L.length) ++ [.string (bs n), .int .i64 k, .int .i64 1, .bool false] ++ flatP (L.drop L.length)) := by
            simpa [flatP] using hown2
          obtain ⟨g3, c3, hv3, hc3⟩ := ownsRow_succ (n := L.length) (by have h := hown4; rw [show L.length + 1 + (L.length - L.length) = L.length + 1 by simp] at h; exact h)
          subst hv3
          have hcb4 := cell_below hbx2 hcb
          have hfz4 := (hbx2.frozen hblt).trans hfz
          have hfin := Lib.hid (addR_fin (j := L.length) (g := 0) hlx.out hB2.out hbx2 (Nat.le_refl _) (by omega) hown4)
          clear hown4 hown2 hgrow2 hown1 hbx1 hbx2
          go_wp2_with fail
          go_ret
          exact ⟨by rw [hr.out]; rfl, keepsR_below hb2.out hfin.out.1, by rw [hr.out]; exact hfin.out.2⟩
end Go.Proofs.YtkhphdkjnpcnnaaGreatDoor

/- The reference's NewRealm, Next, Book.Copy: walked. -/
namespace Go.Proofs.YtkhphdkjnpcnnaaGreatDoor set_option linter.unusedVariables false set_option linter.unusedSimpArgs false
open Go.RowKit

def perC : Cells Per where
  k := 4
  pos := by decide
  f := Per.cells
  len := fun _ => rfl
  one := fun p u hu => by
    unfold Per.cells at hu
    simp only [List.mem_cons, List.mem_nil_iff, or_false] at hu
    rcases hu with rfl | rfl | rfl | rfl <;> rfl
theorem flatP_G : ∀ L : List Per, flatP L = flatG perC L
  | [] => rfl
  | p :: L => by
    show p.cells ++ flatP L = p.cells ++ flatG perC L
    rw [flatP_G L]
theorem perRow_G {w : World} {base : Nat} {v : Value} {L : List Per} : w.ownsRow base 46 4 v L.length (flatP L) ↔ RowG perC w base 46 v L := by
  unfold RowG
  rw [flatP_G]
  exact Iff.rfl
theorem RefAt.mono {w : World} {base base' b : Nat} {L : List Per} (h : RefAt w base b L) (hb : base' ≤ base) : RefAt w base' b L := by
  obtain ⟨h1, v, h2, h3⟩ := h
  exact ⟨Nat.le_trans hb h1, v, h2, ownsRow_mono h3 hb⟩
set_option maxRecDepth 100000 in
theorem newRR_any (k l : Int) (w : World) :
    Calls Tryz.prog 9 #[.int .i64 k, .int .i64 l] w fun e w' => (if isKey k = false then e = .returned (.tuple #[.pointer none, .int .i64 10]) else if l < 1 ∨ 1000000 < l then e = .returned (.tuple #[.pointer none, .int .i64 2]) else ∃ m b, e = .returned (.tuple #[.pointer (some ⟨m, 0, none⟩), .int .i64 0]) ∧ RRlmAt w' w.heap.size m b (newRlm k l)) ∧ Below w.heap.size w w' := by
  have hky := Lib.hid (isKey_any k w)
  by_cases hk : isKey k = true
  case neg =>
    have hk : isKey k = false := by simpa using hk
    rw [hk] at hky ⊢
    simp only [if_true]
    go_enter Tryz.func9, Tryz.ntmps9
    go_wp2_with fail
    refine hky.out.mono ?_
    rintro e w' ⟨rfl, rfl⟩
    go_wp2_with fail
    go_ret2
    exact ⟨rfl, Below.refl _ _⟩
  rw [hk] at hky ⊢
  simp only [Bool.true_eq_false, if_false]
  by_cases hl : l < 1 ∨ 1000000 < l
  · simp only [if_pos hl]
    by_cases hl2 : l < 1
    · clear hl
      go_enter Tryz.func9, Tryz.ntmps9
      go_wp2_with fail
      refine hky.out.mono ?_
      rintro e w' ⟨rfl, rfl⟩
      go_wp2_with fail
      go_ret2
      exact ⟨rfl, Below.refl _ _⟩
    · have hl : 1000000 < l := by omega
      go_enter Tryz.func9, Tryz.ntmps9
      go_wp2_with fail
      refine hky.out.mono ?_
      rintro e w' ⟨rfl, rfl⟩
      go_wp2_with fail
      go_ret2
      exact ⟨rfl, Below.refl _ _⟩
  · simp only [if_neg hl]
    have h1 : ¬ l < 1 := by omega
    have h2 : ¬ 1000000 < l := by omega
    clear hl
    have hb1 := (Below.refl w.heap.size w).alloc (Nat.le_refl _) (.cells #[.slice none 0 0] 49)
    have hR0 : RefAt (w.alloc (.cells #[.slice none 0 0] 49)) w.heap.size w.heap.size [] := ⟨Nat.le_refl _, _, heap_alloc_new w _, World.ownsRow_nil _ _ _ _⟩
    have hbf := Lib.hid (hb1.alloc (by simp) (.cells (rlmCells (newRlm k l) w.heap.size (.slice none 0 0)) 40))
    have hnw := heap_alloc_new (w.alloc (.cells #[.slice none 0 0] 49)) (.cells (rlmCells (newRlm k l) w.heap.size (.slice none 0 0)) 40)
    rw [World.size_alloc] at hnw
    have hfin := Lib.hid (show RRlmAt ((w.alloc (.cells #[.slice none 0 0] 49)).alloc (.cells (rlmCells (newRlm k l) w.heap.size (.slice none 0 0)) 40)) w.heap.size (w.heap.size + 1) w.heap.size (newRlm k l) from
      ⟨Nat.le_succ _, ⟨_, hnw, RowG.nil _ _ _⟩, hR0.below ((Below.refl _ _).alloc (Nat.le_refl _) _)⟩)
    clear hnw hR0 hb1
    go_enter Tryz.func9, Tryz.ntmps9
    go_wp2_with fail
    refine hky.out.mono ?_
    rintro e w' ⟨rfl, rfl⟩
    go_wp2_with fail
    go_ret2
    exact ⟨⟨_, _, rfl, hfin.out⟩, hbf.out⟩
set_option maxRecDepth 100000 in
theorem nextRR_any {base m b : Nat} {R : Rlm} (t : Int) (w : World) (hR : RRlmAt w base m b R) (h0 : 0 ≤ R.time) (h1 : R.time ≤ 1000000) :
    Calls Tryz.prog 46 #[.pointer (some ⟨m, 0, none⟩), .int .i64 t] w fun e w' => e = .returned (.tuple #[.int .i64 (nextM R t).1, .int .i64 ((nextM R t).2.1 : Nat)]) ∧ RRlmAt w' base m b (nextM R t).2.2 ∧ Keeps (RRlmS base w) w w' := by
  obtain ⟨al, cl, ⟨_, _, c2, _, _, _⟩, ⟨_, _, f2, _, _, _⟩, _⟩ := hR.cells
  by_cases ht : t < 0 ∨ 1000000 - R.time < t
  · have hq := Lib.hid (show nextM R t = (0, 2, R) by unfold nextM; rw [if_pos ht])
    have hfin := Lib.hid (show RRlmAt w base m b R ∧ Keeps (RRlmS base w) w w from ⟨hR, Keeps.refl _ _⟩)
    clear hR
    rw [hq.out]
    dsimp only
    clear hq
    by_cases hn : t < 0
    · clear ht
      go_enter Tryz.func46, Tryz.ntmps46
      go_wp2_with fail
      go_ret2
      exact ⟨rfl, hfin.out⟩
    · have ht : 1000000 - R.time < t := by omega
      go_enter Tryz.func46, Tryz.ntmps46
      go_wp2_with fail
      go_ret2
      exact ⟨rfl, hfin.out⟩
  · have hq := Lib.hid (show nextM R t = (R.time + t, 0, { R with time := R.time + t }) by unfold nextM; rw [if_neg ht])
    obtain ⟨g1, g2⟩ := hR.timed (R.time + t)
    obtain ⟨al2, cl2, ⟨_, _, d2, _, _, _⟩, _, _⟩ := g1.cells
    have hfin := Lib.hid (And.intro g1 g2)
    dsimp only at d2
    clear hR g1 g2
    rw [hq.out]
    dsimp only
    clear hq
    have hn : ¬ t < 0 := by omega
    have hn2 : ¬ 1000000 - R.time < t := by omega
    go_enter Tryz.func46, Tryz.ntmps46
    go_wp2_with fail
    go_ret2
    exact ⟨rfl, hfin.out⟩
set_option maxRecDepth 100000 in
/-- A book copied. -/
theorem copyRB_any {base b : Nat} (L : List Per) (w : World) (hB : RefAt w base b L) (hm : L.length ≤ 20) :
    Calls Tryz.prog 85 #[.pointer (some ⟨b, 0, none⟩)] w fun e w' => ∃ b2, e = .returned (.pointer (some ⟨b2, 0, none⟩)) ∧ RefAt w' w.heap.size b2 L ∧ Below w.heap.size w w' := by
  obtain ⟨v, hc, ho, _, _⟩ := hB.at0
  have hrow := perRow_G.1 ho
  obtain ⟨a, c, rfl⟩ := hrow.sl
  have hat := hrow.at_
  clear ho hrow
  go_enter Tryz.func85, Tryz.ntmps85
  have hatH := Lib.hid hat
  clear hat hB
  go_wp2_with (first
    | (at_builtin; refine wpList_appG perC w rfl _ _ 47 rfl 46 (.agg #[.string ⟨#[]⟩, .int .i64 0, .int .i64 0, .bool false]) 40 Tryz.underlying47 info_person rfl (by decide) w.heap.size _ [] rfl (RowG.nil _ _ _) _ L rfl hatH.out (by simp; omega) (Nat.le_refl _) ?_)
    | go_in)
  intro v1 w1 hrow1 hb1 _ _
  obtain ⟨a1, c1, rfl⟩ := hrow1.sl
  have hfin := Lib.hid (show RefAt (w1.alloc (.cells #[.slice a1 L.length c1] 49)) w.heap.size w1.heap.size L from ⟨hb1.size, _, heap_alloc_new w1 _, perRow_G.2 (hrow1.alloc _)⟩)
  have hbf := Lib.hid (hb1.alloc hb1.size (.cells #[.slice a1 L.length c1] 49))
  clear hrow1 hb1
  go_wp2_with fail
  go_ret
  exact ⟨_, rfl, hfin.out, hbf.out⟩
end Go.Proofs.YtkhphdkjnpcnnaaGreatDoor
