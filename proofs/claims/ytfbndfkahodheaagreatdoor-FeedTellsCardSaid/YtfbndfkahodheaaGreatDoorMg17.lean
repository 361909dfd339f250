/- RefW3 -/
import Derived.Test.YtfbndfkahodheaaGreatDoorMg16
/- The walks of the reference's texts: cut, glue. -/
namespace Go.Proofs.YtfbndfkahodheaaGreatDoor
open Go.RowKit Go.Maps

theorem info_string : (Tryz.prog.info? 9).map (fun i => (i.zero, i.size, i.bytes)) = some (some (.string ⟨#[]⟩), 1, 16) := by kernel_rfl
def strV (x : List UInt8) : Value := .string (bs x)
theorem textsAt_of_ownsRow {w : World} {base : Nat} {v : Value} {L : List (List UInt8)} (hL : L.length ≤ maxLen) (h : w.ownsRow base 9 1 v L.length (L.map strV)) : TextsAt w v L := by
  obtain ⟨_, ⟨rfl, hn⟩ | ⟨g, cap, cur, rfl, hbg, hg, hc, _, hsz, htake⟩⟩ := h
  · exact ⟨none, 0, by rw [hn], hL, by omega, fun i hi => by omega⟩
  · refine ⟨_, _, rfl, hL, hc, fun i hi => ⟨g, 0, rfl, ?_⟩⟩
    rw [cell_of_row w g (0 + i) _ _ _ hg, Nat.zero_add]
    have h1 : (cur.toList.take (L.length * 1))[i]? = some (strV L[i]) := by rw [htake, List.getElem?_map, List.getElem?_eq_getElem hi]; rfl
    rw [List.getElem?_take, if_pos (by omega)] at h1
    simpa [strV] using h1
/-- A slice's row lies at or above n. -/
def NewIn (n : Nat) (v : Value) : Prop := ∀ a len c, v = .slice (some a) len c → n ≤ a.block
theorem newIn_none (n : Nat) : NewIn n (.slice none 0 0) := fun _ _ _ h => by cases h
theorem newIn_of_ownsRow {w : World} {base : Nat} {v : Value} {e : TypeId} {m size : Nat} {xs : List Value} (h : w.ownsRow base e size v m xs) : NewIn base v := by
  obtain ⟨_, ⟨rfl, _⟩ | ⟨g, cap, cur, rfl, hbg, _⟩⟩ := h
  · exact newIn_none base
  · intro a len c he
    cases he
    exact hbg
/-- Where a cut stands: the pieces so far, the rest. -/
structure CutTo (s : ByteArray) (c : UInt8) (f j : Nat) (P : List (List UInt8)) : Prop where
  many : P.length ≤ f
  fj : f ≤ j
  eq : cutL c s.data.toList = P ++ cutL c (s.data.toList.drop f)
  no : ∀ q, f ≤ q → q < j → byteAt s q ≠ c
theorem cutTo_hit {s : ByteArray} {c : UInt8} {f j : Nat} {P : List (List UInt8)} (h : CutTo s c f j P) (hj : j < s.size) (hc : byteAt s j = c) : CutTo s c (j + 1) (j + 1) (P ++ [(s.data.toList.drop f).take (j - f)]) := by
  refine ⟨by have := h.many; have := h.fj; simp; omega, Nat.le_refl _, ?_, fun q h1 h2 => by omega⟩
  have hd := drop_split s f j h.fj hj
  rw [hc] at hd
  have e := (congrArg (cutL c) hd).trans (cutL_cut c _ _ (take_no (by omega) h.no))
  rw [h.eq, List.append_assoc, e]
  rfl
theorem cutTo_miss {s : ByteArray} {c : UInt8} {f j : Nat} {P : List (List UInt8)} (h : CutTo s c f j P) (hc : byteAt s j ≠ c) : CutTo s c f (j + 1) P :=
  ⟨h.many, by have := h.fj; omega, h.eq, fun q h1 h2 => by
    rcases Nat.lt_succ_iff_lt_or_eq.1 h2 with h' | rfl
    · exact h.no q h1 h'
    · exact hc⟩
theorem cutTo_end {s : ByteArray} {c : UInt8} {f : Nat} {P : List (List UInt8)} (h : CutTo s c f s.size P) : cutL c s.data.toList = P ++ [s.data.toList.drop f] := by
  rw [h.eq, cutL_none c _ (drop_no h.no)]
set_option maxHeartbeats 1000000 in
set_option maxRecDepth 100000 in
theorem cut_new (s : ByteArray) (c : UInt8) (w : World) (hs : s.size ≤ 1000000) :
    Calls Tryz.prog 135 #[.string s, .int .u8 (c.toNat : Int)] w fun e w' => ∃ v, e = .returned v ∧ TextsAt w' v (cutL c s.data.toList) ∧ Below w.heap.size w w' ∧ NewIn w.heap.size v := by
  obtain ⟨i0, hi, hz0, hz1, hz2⟩ := info_parts info_string
  go_enter Tryz.func135, Tryz.ntmps135
  go_wp2_with fail
  go_loopw [5, 6, 7] (fun v fr i wr => ∃ (j f : Nat) (P : List (List UInt8)), j ≤ s.size ∧ f ≤ j ∧ P.length ≤ f ∧ i = .int .i64 j ∧ fr = .int .i64 f ∧ wr.ownsRow w.heap.size 9 1 v P.length (P.map strV) ∧ Below w.heap.size w wr ∧ Hid (CutTo s c f j P)) (fun _ _ i _ => s.size - (intOf i).toNat)
  case atStart => exact ⟨0, 0, [], Nat.zero_le _, Nat.le_refl _, Nat.le_refl _, rfl, rfl, World.ownsRow_nil _ _ _ _, Below.refl _ _, Lib.hid ⟨Nat.le_refl _, Nat.le_refl _, by simp, fun q h1 h2 => absurd h2 (Nat.not_lt_zero _)⟩⟩
  case round =>
    obtain ⟨j, f, P, hj, hfj, hPf, rfl, rfl, hown, hbr, hct⟩ := hrel
    by_cases hlt : j < s.size
    · by_cases hc : byteAt s j = c
      · have hb : ((s[j].toNat : Int) == (c.toNat : Int)) = true := by rw [beq_iff_eq, ← byteAt_eq s j hlt, hc]
        have hct2 := Lib.hid (cutTo_hit hct.out hlt hc)
        have hex := Lib.hid (extract_bytes s f j)
        have hbr := Lib.hid hbr
        clear hc
        go_wp2_with (at_builtin; refine wpList_append_own_at _ rfl _ _ 116 rfl w.heap.size 9 i0 (.string ⟨#[]⟩) 1 16 Tryz.underlying116 hi hz0 hz1 hz2 rfl (by decide) _ _ _ rfl (hown.alloc _) ⟨wr.heap.size, 0, none⟩ 1 1 [.string (s.extract f j)] rfl rfl (cell_one_new _ _ _) (fun u hu => by simp at hu; subst hu; rfl) ?c3 ?c4 ?c5 ?_)
        skip
        case c3 => unfold maxLen; omega
        case c4 => omega
        case c5 => have := hbr.out.size; simp; omega
        intro v' w3 hown' hgrow _ _
        have hb3 := Lib.hid ((hbr.out.alloc hbr.out.size _).grown hgrow (by have := hbr.out.size; simp; omega) (fun k hk => (hown.lt k hk).1))
        have hown3 : w3.ownsRow w.heap.size 9 1 v' (P ++ [(s.data.toList.drop f).take (j - f)]).length ((P ++ [(s.data.toList.drop f).take (j - f)]).map strV) := by
          rw [List.map_append, List.length_append]
          rw [hex.out] at hown'
          exact hown'
        have hown3 := Lib.hid hown3
        clear hown' hgrow hown
        go_wp2_with fail
        go_roundw
        case rel => exact ⟨j + 1, j + 1, _, hlt, Nat.le_refl _, hct2.out.many, by go_num, by go_num, hown3.out, hb3.out, hct2⟩
        case measure => simp [intOf]; omega
      · have hb : ((s[j].toNat : Int) == (c.toNat : Int)) = false := by
          rw [beq_eq_false_iff_ne, ← byteAt_eq s j hlt]
          exact fun e => hc (UInt8.toNat_inj.1 (Int.ofNat.inj e))
        have hct2 := Lib.hid (cutTo_miss hct.out hc)
        have hbr := Lib.hid hbr
        have hown := Lib.hid hown
        clear hc
        go_wp2_with fail
        go_roundw
        case rel => exact ⟨j + 1, f, P, hlt, by omega, hPf, by go_num, rfl, hown.out, hbr.out, hct2⟩
        case measure => simp [intOf]; omega
    · have hje : j = s.size := by omega
      have hend := Lib.hid (show cutL c s.data.toList = P ++ [s.data.toList.drop f] by have := hct.out; rw [hje] at this; exact cutTo_end this)
      have hex := Lib.hid (extract_end s f)
      have hbr := Lib.hid hbr
      have hge : ¬ ((j : Int) < (s.size : Int)) := by omega
      have hfs : f ≤ s.size := by omega
      clear hje
      go_wp2_with (at_builtin; refine wpList_append_own_at _ rfl _ _ 116 rfl w.heap.size 9 i0 (.string ⟨#[]⟩) 1 16 Tryz.underlying116 hi hz0 hz1 hz2 rfl (by decide) _ _ _ rfl (hown.alloc _) ⟨wr.heap.size, 0, none⟩ 1 1 [.string (s.extract f s.size)] rfl rfl (cell_one_new _ _ _) (fun u hu => by simp at hu; subst hu; rfl) ?d3 ?d4 ?d5 ?_)
      skip
      case d3 => unfold maxLen; omega
      case d4 => omega
      case d5 => have := hbr.out.size; simp; omega
      intro v' w3 hown' hgrow _ _
      have hb3 := Lib.hid ((hbr.out.alloc hbr.out.size _).grown hgrow (by have := hbr.out.size; simp; omega) (fun k hk => (hown.lt k hk).1))
      have hT : TextsAt w3 v' (cutL c s.data.toList) := by
        rw [hend.out]
        refine textsAt_of_ownsRow (base := w.heap.size) (by unfold maxLen; simp; omega) ?_
        rw [List.map_append, List.length_append]
        rw [hex.out] at hown'
        exact hown'
      have hT := Lib.hid hT
      have hnew := Lib.hid (newIn_of_ownsRow hown')
      clear hown' hgrow hown
      go_wp2_with fail
      go_ret
      exact ⟨_, rfl, hT.out, hb3.out, hnew.out⟩
theorem cut_any (s : ByteArray) (c : UInt8) (w : World) (hs : s.size ≤ 1000000) :
    Calls Tryz.prog 135 #[.string s, .int .u8 (c.toNat : Int)] w fun e w' => ∃ v, e = .returned v ∧ TextsAt w' v (cutL c s.data.toList) ∧ Below w.heap.size w w' :=
  (cut_new s c w hs).mono fun _ _ ⟨v, h1, h2, h3, _⟩ => ⟨v, h1, h2, h3⟩

theorem glue_take_len (c : UInt8) (W : List (List UInt8)) : ∀ j, (glue c (W.take j)).length ≤ (glue c W).length := by
  intro j
  cases W with
  | nil => simp
  | cons a r =>
    cases j with
    | zero => simp [glue]
    | succ j =>
      simp only [List.take_succ_cons, glue, List.length_append]
      have : ∀ (r : List (List UInt8)) (j : Nat), ((r.take j).flatMap fun y => c :: y).length ≤ (r.flatMap fun y => c :: y).length := by
        intro r
        induction r with
        | nil => intro j; simp
        | cons x r ih =>
          intro j
          cases j with
          | zero => simp
          | succ j =>
            have := ih j
            simp only [List.take_succ_cons, List.flatMap_cons, List.length_append, List.length_cons]
            omega
      have := this r j
      omega
theorem glue_succ (c : UInt8) (W : List (List UInt8)) (j : Nat) (h : j < W.length) : glue c (W.take (j + 1)) = if j = 0 then W[j] else glue c (W.take j) ++ c :: W[j] := by
  rw [List.take_succ_eq_append_getElem h]
  by_cases hj : j = 0
  · subst hj
    rw [if_pos rfl]
    simp [glue]
  · rw [if_neg hj, glue_snoc c (by
      intro e
      have h2 : (W.take j).length = j := by rw [List.length_take]; omega
      rw [e] at h2
      exact hj h2.symm)]
set_option maxHeartbeats 1000000 in
set_option maxRecDepth 100000 in
theorem glueR_any (v : Value) (W : List (List UInt8)) (c : UInt8) (w : World) (hv : TextsAt w v W) (hb : (glue c W).length ≤ 1000000) :
    Calls Tryz.prog 96 #[v, .string ⟨#[c]⟩] w fun e w' => e = .returned (.string (bs (glue c W))) ∧ w = w' := by
  obtain ⟨a, k, rfl, hlen, _, hcell⟩ := hv
  unfold maxLen at hlen
  have hcell := Lib.hid hcell
  have hc1 : (⟨#[c]⟩ : ByteArray).size = 1 := rfl
  have hcc := Lib.hid (show (⟨#[c]⟩ : ByteArray) = bs [c] from rfl)
  have hc1 : (⟨#[c]⟩ : ByteArray).size ≤ 1 := by omega
  generalize (⟨#[c]⟩ : ByteArray) = by_ at *
  go_enter Tryz.func96, Tryz.ntmps96
  go_wp2_with fail
  go_loop [5, 6] (fun s i => ∃ j : Nat, j ≤ W.length ∧ i = .int .i64 j ∧ s = .string (bs (glue c (W.take j)))) (fun _ i => W.length - (intOf i).toNat)
  case atStart => exact ⟨0, Nat.zero_le _, rfl, rfl⟩
  case round =>
    obtain ⟨j, hj, rfl, rfl⟩ := hrel
    by_cases hlt : j < W.length
    · obtain ⟨b, o, rfl, h0⟩ := hcell.out j hlt
      have hg := glue_succ c W j hlt
      obtain ⟨x, hx⟩ : ∃ x, W[j] = x := ⟨_, rfl⟩
      rw [hx] at h0 hg
      have hg := Lib.hid hg
      have hl1 := glue_take_len c W j
      have hl2 := glue_take_len c W (j + 1)
      have hz1 : (bs (glue c (W.take j))).size ≤ 1000000 := by rw [bs_size]; omega
      have hz2 : (bs x).size ≤ 1000000 := by
        rw [bs_size]
        have hl2 := hl2
        rw [hg.out] at hl2
        by_cases hj0 : j = 0
        · rw [if_pos hj0] at hl2; omega
        · rw [if_neg hj0] at hl2; simp at hl2; omega
      have hz3 : (bs (glue c (W.take j)) ++ by_).size ≤ 1000001 := by rw [ByteArray.size_append]; omega
      have hk1 : (j : Int) < (W.length : Int) := by omega
      have hfin := Lib.hid (show (if j = 0 then bs (glue c (W.take j)) ++ bs x else bs (glue c (W.take j)) ++ by_ ++ bs x) = bs (glue c (W.take (j + 1))) by
        rw [hg.out]
        by_cases hj0 : j = 0
        · rw [if_pos hj0, if_pos hj0, str_cat]; subst hj0; rfl
        · rw [if_neg hj0, if_neg hj0, hcc.out, str_cat, str_cat, List.append_assoc]; rfl)
      clear hl1 hl2 hx
      generalize bs (glue c (W.take j)) = sa at *
      generalize bs x = sb at *
      by_cases hj0 : j = 0
      · have hfin := Lib.hid ((if_pos hj0).symm.trans hfin.out)
        subst hj0
        rw [Nat.add_zero] at h0
        go_wp2_with fail
        go_round
        case rel => exact ⟨1, hlt, by go_num, congrArg Value.string hfin.out⟩
        case measure => simp [intOf]; omega
      · have hfin := Lib.hid ((if_neg hj0).symm.trans hfin.out)
        have hj0 : 0 < j := by omega
        go_wp2_with fail
        go_round
        case rel => exact ⟨j + 1, hlt, by go_num, congrArg Value.string hfin.out⟩
        case measure => simp [intOf]; omega
    · have hje : W.take j = W := List.take_of_length_le (by omega)
      rw [hje]
      have hge : ¬ ((j : Int) < (W.length : Int)) := by omega
      clear hje
      go_wp2_with fail
      go_ret
      exact ⟨rfl, rfl⟩
end Go.Proofs.YtfbndfkahodheaaGreatDoor
