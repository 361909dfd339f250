/- RefW3, ReadR -/
import Derived.Test.YtcnadjdijolboaaGreatDoorMg17
import Derived.Test.YtcnadjdijolboaaGreatDoorMg3
import Derived.Test.YtcnadjdijolboaaGreatDoorMg16
import Derived.Lib.IndexLaws
import Derived.Lib.IndexBytes
import Derived.Deep.CutRange
import Derived.Deep.CutBlock
/- The walks of the reference's texts: cut, glue. -/
namespace Go.Proofs.YtcnadjdijolboaaGreatDoor
open Go.RowKit Go.Maps

theorem info_string : (Tryz.prog.info? 9).map (fun i => (i.zero, i.size, i.bytes)) = some (some (.string ⟨#[]⟩), 1, 16) := by kernel_rfl
def strV (x : List UInt8) : Value := .string (bs x)
theorem textsAt_of_ownsRow {w : World} {base : Nat} {v : Value} {L : List (List UInt8)} (hL : L.length ≤ maxLen) (h : w.ownsRow base 9 1 v L.length (L.map strV)) : TextsAt w v L := by
  obtain ⟨_, ⟨rfl, hn⟩ | ⟨g, cap, cur, rfl, hbg, hg, hc, _, hsz, htake⟩⟩ := h
  · exact ⟨none, 0, by rw [hn], hL, by omega, fun i hi => by omega⟩
  · refine ⟨_, _, rfl, hL, hc, fun i hi => ⟨g, 0, rfl, ?_⟩⟩
    rw [cell_of_row w g (0 + i) _ _ _ hg, Nat.zero_add]
    have h1 : (cur.toList.take (L.length * 1))[i]? = some (strV L[i]) := by rw [htake, List.getElem?_map, List.getElem?_eq_getElem hi]; rfl
    rw [List.getElem?_take, if_pos (by omega)] at h1
    simpa [strV] using h1
/-- A slice's row lies at or above n. -/
def NewIn (n : Nat) (v : Value) : Prop := ∀ a len c, v = .slice (some a) len c → n ≤ a.block
theorem newIn_none (n : Nat) : NewIn n (.slice none 0 0) := fun _ _ _ h => by cases h
theorem newIn_of_ownsRow {w : World} {base : Nat} {v : Value} {e : TypeId} {m size : Nat} {xs : List Value} (h : w.ownsRow base e size v m xs) : NewIn base v := by
  obtain ⟨_, ⟨rfl, _⟩ | ⟨g, cap, cur, rfl, hbg, _⟩⟩ := h
  · exact newIn_none base
  · intro a len c he
    cases he
    exact hbg
/-- Where a cut stands: the pieces so far, the rest. -/
structure CutTo (s : ByteArray) (c : UInt8) (f j : Nat) (P : List (List UInt8)) : Prop where
  many : P.length ≤ f
  fj : f ≤ j
  eq : cutL c s.data.toList = P ++ cutL c (s.data.toList.drop f)
  no : ∀ q, f ≤ q → q < j → byteAt s q ≠ c
theorem cutTo_hit {s : ByteArray} {c : UInt8} {f j : Nat} {P : List (List UInt8)} (h : CutTo s c f j P) (hj : j < s.size) (hc : byteAt s j = c) : CutTo s c (j + 1) (j + 1) (P ++ [(s.data.toList.drop f).take (j - f)]) := by
  refine ⟨by have := h.many; have := h.fj; simp; omega, Nat.le_refl _, ?_, fun q h1 h2 => by omega⟩
  have hd := drop_split s f j h.fj hj
  rw [hc] at hd
  have e := (congrArg (cutL c) hd).trans (cutL_cut c _ _ (take_no (by omega) h.no))
  rw [h.eq, List.append_assoc, e]
  rfl
theorem cutTo_miss {s : ByteArray} {c : UInt8} {f j : Nat} {P : List (List UInt8)} (h : CutTo s c f j P) (hc : byteAt s j ≠ c) : CutTo s c f (j + 1) P :=
  ⟨h.many, by have := h.fj; omega, h.eq, fun q h1 h2 => by
    rcases Nat.lt_succ_iff_lt_or_eq.1 h2 with h' | rfl
    · exact h.no q h1 h'
    · exact hc⟩
theorem cutTo_end {s : ByteArray} {c : UInt8} {f : Nat} {P : List (List UInt8)} (h : CutTo s c f s.size P) : cutL c s.data.toList = P ++ [s.data.toList.drop f] := by
  rw [h.eq, cutL_none c _ (drop_no h.no)]
set_option maxHeartbeats 1000000 in
set_option maxRecDepth 100000 in
theorem cut_new (s : ByteArray) (c : UInt8) (w : World) (hs : s.size ≤ 1000000) :
    Calls Tryz.prog 52 #[.string s, .int .u8 (c.toNat : Int)] w fun e w' => ∃ v, e = .returned v ∧ TextsAt w' v (cutL c s.data.toList) ∧ Below w.heap.size w w' ∧ NewIn w.heap.size v := by
  obtain ⟨i0, hi, hz0, hz1, hz2⟩ := info_parts info_string
  go_enter Tryz.func52, Tryz.ntmps52
  go_wp2_with fail
  go_loopw [5, 6, 7] (fun v fr i wr => ∃ (j f : Nat) (P : List (List UInt8)), j ≤ s.size ∧ f ≤ j ∧ P.length ≤ f ∧ i = .int .i64 j ∧ fr = .int .i64 f ∧ wr.ownsRow w.heap.size 9 1 v P.length (P.map strV) ∧ Below w.heap.size w wr ∧ Hid (CutTo s c f j P)) (fun _ _ i _ => s.size - (intOf i).toNat)
  case atStart => exact ⟨0, 0, [], Nat.zero_le _, Nat.le_refl _, Nat.le_refl _, rfl, rfl, World.ownsRow_nil _ _ _ _, Below.refl _ _, Lib.hid ⟨Nat.le_refl _, Nat.le_refl _, by simp, fun q h1 h2 => absurd h2 (Nat.not_lt_zero _)⟩⟩
  case round =>
    obtain ⟨j, f, P, hj, hfj, hPf, rfl, rfl, hown, hbr, hct⟩ := hrel
    by_cases hlt : j < s.size
    · by_cases hc : byteAt s j = c
      · have hb : ((s[j].toNat : Int) == (c.toNat : Int)) = true := by rw [beq_iff_eq, ← byteAt_eq s j hlt, hc]
        have hct2 := Lib.hid (cutTo_hit hct.out hlt hc)
        have hex := Lib.hid (extract_bytes s f j)
        have hbr := Lib.hid hbr
        clear hc
        go_wp2_with (at_builtin; refine wpList_append_own_at _ rfl _ _ 55 rfl w.heap.size 9 i0 (.string ⟨#[]⟩) 1 16 Tryz.underlying55 hi hz0 hz1 hz2 rfl (by decide) _ _ _ rfl (hown.alloc _) ⟨wr.heap.size, 0, none⟩ 1 1 [.string (s.extract f j)] rfl rfl (cell_one_new _ _ _) (fun u hu => by simp at hu; subst hu; rfl) ?c3 ?c4 ?c5 ?_)
        skip
        case c3 => unfold maxLen; omega
        case c4 => omega
        case c5 => have := hbr.out.size; simp; omega
        intro v' w3 hown' hgrow _ _
        have hb3 := Lib.hid ((hbr.out.alloc hbr.out.size _).grown hgrow (by have := hbr.out.size; simp; omega) (fun k hk => (hown.lt k hk).1))
        have hown3 : w3.ownsRow w.heap.size 9 1 v' (P ++ [(s.data.toList.drop f).take (j - f)]).length ((P ++ [(s.data.toList.drop f).take (j - f)]).map strV) := by
          rw [List.map_append, List.length_append]
          rw [hex.out] at hown'
          exact hown'
        have hown3 := Lib.hid hown3
        clear hown' hgrow hown
        go_wp2_with fail
        go_roundw
        case rel => exact ⟨j + 1, j + 1, _, hlt, Nat.le_refl _, hct2.out.many, by go_num, by go_num, hown3.out, hb3.out, hct2⟩
        case measure => simp [intOf]; omega
      · have hb : ((s[j].toNat : Int) == (c.toNat : Int)) = false := by
          rw [beq_eq_false_iff_ne, ← byteAt_eq s j hlt]
          exact fun e => hc (UInt8.toNat_inj.1 (Int.ofNat.inj e))
        have hct2 := Lib.hid (cutTo_miss hct.out hc)
        have hbr := Lib.hid hbr
        have hown := Lib.hid hown
        clear hc
        go_wp2_with fail
        go_roundw
        case rel => exact ⟨j + 1, f, P, hlt, by omega, hPf, by go_num, rfl, hown.out, hbr.out, hct2⟩
        case measure => simp [intOf]; omega
    · have hje : j = s.size := by omega
      have hend := Lib.hid (show cutL c s.data.toList = P ++ [s.data.toList.drop f] by have := hct.out; rw [hje] at this; exact cutTo_end this)
      have hex := Lib.hid (extract_end s f)
      have hbr := Lib.hid hbr
      have hge : ¬ ((j : Int) < (s.size : Int)) := by omega
      have hfs : f ≤ s.size := by omega
      clear hje
      go_wp2_with (at_builtin; refine wpList_append_own_at _ rfl _ _ 55 rfl w.heap.size 9 i0 (.string ⟨#[]⟩) 1 16 Tryz.underlying55 hi hz0 hz1 hz2 rfl (by decide) _ _ _ rfl (hown.alloc _) ⟨wr.heap.size, 0, none⟩ 1 1 [.string (s.extract f s.size)] rfl rfl (cell_one_new _ _ _) (fun u hu => by simp at hu; subst hu; rfl) ?d3 ?d4 ?d5 ?_)
      skip
      case d3 => unfold maxLen; omega
      case d4 => omega
      case d5 => have := hbr.out.size; simp; omega
      intro v' w3 hown' hgrow _ _
      have hb3 := Lib.hid ((hbr.out.alloc hbr.out.size _).grown hgrow (by have := hbr.out.size; simp; omega) (fun k hk => (hown.lt k hk).1))
      have hT : TextsAt w3 v' (cutL c s.data.toList) := by
        rw [hend.out]
        refine textsAt_of_ownsRow (base := w.heap.size) (by unfold maxLen; simp; omega) ?_
        rw [List.map_append, List.length_append]
        rw [hex.out] at hown'
        exact hown'
      have hT := Lib.hid hT
      have hnew := Lib.hid (newIn_of_ownsRow hown')
      clear hown' hgrow hown
      go_wp2_with fail
      go_ret
      exact ⟨_, rfl, hT.out, hb3.out, hnew.out⟩
theorem cut_any (s : ByteArray) (c : UInt8) (w : World) (hs : s.size ≤ 1000000) :
    Calls Tryz.prog 52 #[.string s, .int .u8 (c.toNat : Int)] w fun e w' => ∃ v, e = .returned v ∧ TextsAt w' v (cutL c s.data.toList) ∧ Below w.heap.size w w' :=
  (cut_new s c w hs).mono fun _ _ ⟨v, h1, h2, h3, _⟩ => ⟨v, h1, h2, h3⟩

theorem glue_take_len (c : UInt8) (W : List (List UInt8)) : ∀ j, (glue c (W.take j)).length ≤ (glue c W).length := by
  intro j
  cases W with
  | nil => simp
  | cons a r =>
    cases j with
    | zero => simp [glue]
    | succ j =>
      simp only [List.take_succ_cons, glue, List.length_append]
      have : ∀ (r : List (List UInt8)) (j : Nat), ((r.take j).flatMap fun y => c :: y).length ≤ (r.flatMap fun y => c :: y).length := by
        intro r
        induction r with
        | nil => intro j; simp
        | cons x r ih =>
          intro j
          cases j with
          | zero => simp
          | succ j =>
            have := ih j
            simp only [List.take_succ_cons, List.flatMap_cons, List.length_append, List.length_cons]
            omega
      have := this r j
      omega
theorem glue_succ (c : UInt8) (W : List (List UInt8)) (j : Nat) (h : j < W.length) : glue c (W.take (j + 1)) = if j = 0 then W[j] else glue c (W.take j) ++ c :: W[j] := by
  rw [List.take_succ_eq_append_getElem h]
  by_cases hj : j = 0
  · subst hj
    rw [if_pos rfl]
    simp [glue]
  · rw [if_neg hj, glue_snoc c (by
      intro e
      have h2 : (W.take j).length = j := by rw [List.length_take]; omega
      rw [e] at h2
      exact hj h2.symm)]
set_option maxHeartbeats 1000000 in
set_option maxRecDepth 100000 in
theorem glueR_any (v : Value) (W : List (List UInt8)) (c : UInt8) (w : World) (hv : TextsAt w v W) (hb : (glue c W).length ≤ 1000000) :
    Calls Tryz.prog 51 #[v, .string ⟨#[c]⟩] w fun e w' => e = .returned (.string (bs (glue c W))) ∧ w = w' := by
  obtain ⟨a, k, rfl, hlen, _, hcell⟩ := hv
  unfold maxLen at hlen
  have hcell := Lib.hid hcell
  have hc1 : (⟨#[c]⟩ : ByteArray).size = 1 := rfl
  have hcc := Lib.hid (show (⟨#[c]⟩ : ByteArray) = bs [c] from rfl)
  have hc1 : (⟨#[c]⟩ : ByteArray).size ≤ 1 := by omega
  generalize (⟨#[c]⟩ : ByteArray) = by_ at *
  go_enter Tryz.func51, Tryz.ntmps51
  go_wp2_with fail
  go_loop [5, 6] (fun s i => ∃ j : Nat, j ≤ W.length ∧ i = .int .i64 j ∧ s = .string (bs (glue c (W.take j)))) (fun _ i => W.length - (intOf i).toNat)
  case atStart => exact ⟨0, Nat.zero_le _, rfl, rfl⟩
  case round =>
    obtain ⟨j, hj, rfl, rfl⟩ := hrel
    by_cases hlt : j < W.length
    · obtain ⟨b, o, rfl, h0⟩ := hcell.out j hlt
      have hg := glue_succ c W j hlt
      obtain ⟨x, hx⟩ : ∃ x, W[j] = x := ⟨_, rfl⟩
      rw [hx] at h0 hg
      have hg := Lib.hid hg
      have hl1 := glue_take_len c W j
      have hl2 := glue_take_len c W (j + 1)
      have hz1 : (bs (glue c (W.take j))).size ≤ 1000000 := by rw [bs_size]; omega
      have hz2 : (bs x).size ≤ 1000000 := by
        rw [bs_size]
        have hl2 := hl2
        rw [hg.out] at hl2
        by_cases hj0 : j = 0
        · rw [if_pos hj0] at hl2; omega
        · rw [if_neg hj0] at hl2; simp at hl2; omega
      have hz3 : (bs (glue c (W.take j)) ++ by_).size ≤ 1000001 := by rw [ByteArray.size_append]; omega
      have hk1 : (j : Int) < (W.length : Int) := by omega
      have hfin := Lib.hid (show (if j = 0 then bs (glue c (W.take j)) ++ bs x else bs (glue c (W.take j)) ++ by_ ++ bs x) = bs (glue c (W.take (j + 1))) by
        rw [hg.out]
        by_cases hj0 : j = 0
        · rw [if_pos hj0, if_pos hj0, str_cat]; subst hj0; rfl
        · rw [if_neg hj0, if_neg hj0, hcc.out, str_cat, str_cat, List.append_assoc]; rfl)
      clear hl1 hl2 hx
      generalize bs (glue c (W.take j)) = sa at *
      generalize bs x = sb at *
      by_cases hj0 : j = 0
      · have hfin := Lib.hid ((if_pos hj0).symm.trans hfin.out)
        subst hj0
        rw [Nat.add_zero] at h0
        go_wp2_with fail
        go_round
        case rel => exact ⟨1, hlt, by go_num, congrArg Value.string hfin.out⟩
        case measure => simp [intOf]; omega
      · have hfin := Lib.hid ((if_neg hj0).symm.trans hfin.out)
        have hj0 : 0 < j := by omega
        go_wp2_with fail
        go_round
        case rel => exact ⟨j + 1, hlt, by go_num, congrArg Value.string hfin.out⟩
        case measure => simp [intOf]; omega
    · have hje : W.take j = W := List.take_of_length_le (by omega)
      rw [hje]
      have hge : ¬ ((j : Int) < (W.length : Int)) := by omega
      clear hje
      go_wp2_with fail
      go_ret
      exact ⟨rfl, rfl⟩
end Go.Proofs.YtcnadjdijolboaaGreatDoor

/- The reference's ReadFloors: walked. -/
namespace Go.Proofs.YtcnadjdijolboaaGreatDoor
open Go.RowKit

theorem index_none' {c : UInt8} {l : List UInt8} (h : ∀ q (hq : q < l.length), l[q] ≠ c) : Lib.indexByte l c = -1 := by
  have hge := Lib.indexByte_ge l c
  by_cases h1 : Lib.indexByte l c = -1
  · exact h1
  · obtain ⟨h2, _⟩ := Lib.indexByte_some (show Lib.indexByte l c = ((Lib.indexByte l c).toNat : Int) by omega)
    obtain ⟨hlt, he⟩ := List.getElem?_eq_some_iff.1 h2
    exact absurd he (h _ hlt)
theorem index_at' {c : UInt8} {l : List UInt8} {k : Nat} (hk : k < l.length) (hc : l[k] = c) (h : ∀ q (hq : q < l.length), q < k → l[q] ≠ c) : Lib.indexByte l c = k := by
  have hge := Lib.indexByte_ge l c
  by_cases h1 : Lib.indexByte l c = -1
  · exact absurd (by rw [List.getElem?_eq_getElem hk, hc]) (Lib.indexByte_none h1 k)
  · obtain ⟨h2, h3⟩ := Lib.indexByte_some (show Lib.indexByte l c = ((Lib.indexByte l c).toNat : Int) by omega)
    generalize Lib.indexByte l c = z at *
    obtain ⟨hlt, he⟩ := List.getElem?_eq_some_iff.1 h2
    by_cases h4 : z.toNat < k
    · exact absurd he (h _ hlt h4)
    · by_cases h5 : k < z.toNat
      · exact absurd (by rw [List.getElem?_eq_getElem hk, hc]) (h3 k h5)
      · omega
theorem cut_no {w : List UInt8} (h : ∀ q (hq : q < w.length), w[q] ≠ 58) : pieceF w = none := by
  have : Lib.cut w [58] = (w, [], false) := by
    unfold Lib.cut
    rw [Lib.index_one, index_none' h, if_neg (by decide)]
  unfold pieceF
  rw [this]
  rfl
theorem cut_yes {w : List UInt8} {k : Nat} (hk : k < w.length) (hc : w[k] = 58) (h : ∀ q (hq : q < w.length), q < k → w[q] ≠ 58) :
    pieceF w = if (number (w.drop (k + 1)) 9999999999).2 = true then some ⟨w.take k, (number (w.drop (k + 1)) 9999999999).1⟩ else none := by
  have : Lib.cut w [58] = (w.take k, w.drop (k + 1), true) := by
    unfold Lib.cut
    rw [Lib.index_one, index_at' hk hc h, if_pos (by omega)]
    simp
  unfold pieceF
  rw [this]
  simp
theorem byte_get {s : ByteArray} {q : Nat} (h : q < s.data.toList.length) : byteAt s q = s.data.toList[q] := by
  unfold byteAt
  rw [List.getD_eq_getElem?_getD, List.getElem?_eq_getElem h]
  rfl
theorem FBox.keep {w0 w w' : World} (h : FBox w0 w) (hb : Below (w0.heap.size + 1) w w') : FBox w0 w' := ⟨(hb.block _ (by omega)).trans h.1, h.2.trans (hb.mono (by omega))⟩
theorem FBox.size {w0 w : World} (h : FBox w0 w) : w0.heap.size + 1 ≤ w.heap.size := (Array.getElem?_eq_some_iff.1 h.1).1
set_option maxHeartbeats 8000000 in
set_option maxRecDepth 100000 in
theorem readR_any (s : ByteArray) (w : World) (hs : s.size ≤ 400) :
    Calls Tryz.prog 22 #[.string s] w fun e w' => RaiRes w.heap.size w' (readF s.data.toList) e ∧ Below w.heap.size w w' := by
  have hB0 : FBox w (w.alloc (.cells #[.int .i64 0, .int .i64 0] 42)) := ⟨heap_alloc_new w _, (Below.refl _ _).alloc (Nat.le_refl _) _⟩
  have hslen : s.data.toList.length = s.size := Array.length_toList
  have hset := Lib.hid (fun wx (hx : FBox w wx) (v0 v1 : Int) => hx.set (.int .i64 v0) (.int .i64 v1))
  by_cases h45 : s.data.toList = [45]
  · have hbe : (s.toList == [45]) = true := by rw [toList_data, h45]; rfl
    have hbe2 : s.toList = [45] := by rw [toList_data, h45]
    have hr := Lib.hid (show readF s.data.toList = ([], 0, -1) by unfold readF; rw [if_pos h45])
    have hfi := Lib.hid (fineF_any (w.alloc (.cells #[.int .i64 0, .int .i64 0] 42)))
    have hB0 := Lib.hid hB0
    clear h45 hslen
    go_enter Tryz.func22, Tryz.ntmps22
    go_wp2_with fail
    refine hfi.out.mono ?_
    rintro e w5 ⟨rfl, hb5⟩
    have hR6 := hB0.out.below hb5
    obtain ⟨⟨r0, r1⟩, f0, f1⟩ := hR6.cells
    have hfl := Lib.hid ((hset.out _ hR6 0 (-1)))
    have hR6H := Lib.hid hR6
    clear hb5 hR6 hfi
    go_wp2_with fail
    exact bodyPost_ret (v := .tuple #[.slice none 0 0, .agg #[.int .i64 0, .int .i64 (-1)]]) (by simp [results, Tryz.results22, go_sem, hfl.out.1]) rfl ⟨⟨_, by rw [hr.out]; rfl, by rw [hr.out]; exact floorsAt_nil _⟩, hfl.out.2⟩
  have hbe : (s.toList == [45]) = false := by rw [toList_data]; exact beq_eq_false_iff_ne.2 h45
  have hbe2 : ¬ s.toList = [45] := by rw [toList_data]; exact h45
  have hrd1 := Lib.hid (show allF (cutL 44 s.data.toList) → readF s.data.toList = if (checkF (valsF (cutL 44 s.data.toList))).1 = 0 then (valsF (cutL 44 s.data.toList), 0, -1) else ([], checkF (valsF (cutL 44 s.data.toList))) from fun h => by unfold readF; rw [if_neg h45, if_pos h])
  have hrd2 := Lib.hid (show ¬ allF (cutL 44 s.data.toList) → readF s.data.toList = ([], 1, -1) from fun h => by unfold readF; rw [if_neg h45, if_neg h])
  have hxl := Lib.hid (show ∀ x ∈ cutL 44 s.data.toList, x.length ≤ 400 from fun x hx => by have := cutL_len 44 _ x hx; omega)
  have hnl : (cutL 44 s.data.toList).length ≤ 401 := by have := cutL_le 44 s.data.toList; omega
  have hcut := Lib.hid (show Calls Tryz.prog 52 #[.string s, .int .u8 44] (w.alloc (.cells #[.int .i64 0, .int .i64 0] 42)) _ from cut_any s 44 _ (by omega))
  have hB0 := Lib.hid hB0
  clear h45 hslen
  go_enter Tryz.func22, Tryz.ntmps22
  go_wp2_with fail
  refine hcut.out.mono ?_
  rintro e w2 ⟨v2, rfl, ⟨a4, c4, rfl, hl4, hcap4, hc4⟩, hb2⟩
  have hB2 := Lib.hid (hB0.out.below hb2)
  have hcH := Lib.hid (fun wx (hx : Below w2.heap.size w2 wx) i (hi : i < (cutL 44 s.data.toList).length) => (show ∃ b o, a4 = some ⟨b, o, none⟩ ∧ wx.cell? ⟨b, o + i, none⟩ = some (.string (bs (cutL 44 s.data.toList)[i])) from by
    obtain ⟨b, o, h1, h2⟩ := hc4 i hi
    exact ⟨b, o, h1, cell_below hx h2⟩))
  generalize cutL 44 s.data.toList = P at *
  clear hc4 hb2 hcut hB0
  go_wp2_with fail
  go_loopg [5, 6] (P.length + 1) (fun g s5 s6 wr => ∃ j : Nat, s6 = .int .i64 j ∧ j ≤ P.length ∧ P.length - j + 1 ≤ g ∧ Hid (allF (P.take j)) ∧ Hid (RowG floC wr w2.heap.size 24 s5 (valsF (P.take j))) ∧ Hid (Below w2.heap.size w2 wr))
  case atStart => exact ⟨0, rfl, Nat.zero_le _, by omega, Lib.hid allF_nil, Lib.hid (RowG.nil _ _ _), Lib.hid (Below.refl _ _)⟩
  case round =>
    obtain ⟨j, rfl, hj, hg, hall, hrow, hK⟩ := hrel
    obtain ⟨a5, c5, hs5⟩ := hrow.out.sl
    subst hs5
    by_cases hlt : j < P.length
    · obtain ⟨b, o, rfl, d0⟩ := hcH.out _ hK.out j hlt
      have hk0 : (0 : Int) ≤ (j : Int) := by omega
      have hk1 : (j : Int) < (P.length : Int) := by omega
      have hxm := List.getElem_mem hlt
      have hx4 := hxl.out _ hxm
      have htk : P.take (j + 1) = P.take j ++ [P[j]] := by rw [List.take_add_one, List.getElem?_eq_getElem hlt]; rfl
      have hvl := valsF_len (P.take j)
      rw [List.length_take] at hvl
      have hvl2 : (valsF (P.take j)).length ≤ 401 := by omega
      generalize P[j] = X at *
      have hqs : (bs X).size = X.length := List.size_toArray
      have hnone := Lib.hid (show pieceF X = none → readF s.data.toList = ([], 1, -1) from fun h => hrd2.out (allF_not hxm h))
      have hsome := Lib.hid (show ∀ f, pieceF X = some f → allF (P.take (j + 1)) ∧ valsF (P.take (j + 1)) = valsF (P.take j) ++ [f] from fun f h => by rw [htk]; exact ⟨allF_snoc hall.out h, valsF_snoc h⟩)
      have hpn := Lib.hid (show (∀ q (hq : q < X.length), X[q] ≠ 58) → pieceF X = none from cut_no)
      have hpy := Lib.hid (show ∀ k (hk : k < X.length), X[k] = 58 → (∀ q (hq : q < X.length), q < k → X[q] ≠ 58) → pieceF X = if (number (X.drop (k + 1)) 9999999999).2 = true then some ⟨X.take k, (number (X.drop (k + 1)) 9999999999).1⟩ else none from fun k hk h1 h2 => cut_yes hk h1 h2)
      have hbl : (bs X).data.toList = X := bs_list X
      have hbl := Lib.hid hbl
      generalize bs X = q at *
      clear htk hxm
      go_upto_region 8 with fail
      go_upto_block 2 with fail
      go_cut [7] from 21 to 38 (fun s7 wx => wx = wr ∧ ∃ k : Nat, s7 = .int .i64 k ∧ k ≤ q.size ∧ Hid (∀ i, i < k → byteAt q i ≠ 58) ∧ Hid (∀ _ : k < q.size, byteAt q k = 58))
      case first =>
        go_wp2_with fail
        go_loopw [7] (fun i wx => ∃ k : Nat, i = .int .i64 k ∧ k ≤ q.size ∧ wx = wr ∧ Hid (∀ i, i < k → byteAt q i ≠ 58)) (fun i _ => q.size - (intOf i).toNat)
        case atStart => exact ⟨0, rfl, Nat.zero_le _, rfl, Lib.hid (fun _ h => absurd h (Nat.not_lt_zero _))⟩
        case round =>
          obtain ⟨k, rfl, hk, rfl, hno⟩ := hrel
          by_cases hkl : k < q.size
          · have hb8 := byteAt_eq q k hkl
            by_cases hc : byteAt q k = 58
            · have hb : ((q[k].toNat : Int) != 58) = false := by rw [bne_eq_false_iff_eq, ← hb8, hc]; rfl
              have hcH := Lib.hid hc
              clear hc hb8
              go_wp2_with fail
              go_meet
              exact ⟨rfl, k, rfl, hk, hno, Lib.hid (fun _ => hcH.out)⟩
            · have hb : ((q[k].toNat : Int) != 58) = true := by
                rw [bne_iff_ne, ← hb8]
                exact fun e => hc (UInt8.toNat_inj.1 (Int.ofNat.inj e))
              have hno2 := Lib.hid (show ∀ i, i < k + 1 → byteAt q i ≠ 58 from fun i h2 => by
                rcases Nat.lt_succ_iff_lt_or_eq.1 h2 with h' | rfl
                · exact hno.out i h'
                · exact hc)
              clear hc hb8
              go_wp2_with fail
              exact ⟨⟨k + 1, by simp, hkl, trivial, hno2⟩, by simp [intOf]; omega⟩
          · have hge : ¬ ((k : Int) < (q.size : Int)) := by omega
            go_wp2_with fail
            go_meet
            exact ⟨rfl, k, rfl, hk, hno, Lib.hid (fun h => absurd h hkl)⟩
      obtain ⟨hwx, k, rfl, hk, hno, hat⟩ := hcut
      subst wc
      have hqX : X.length = q.size := hqs.symm
      clear hqs
      have hget := Lib.hid (fun i (hi : i < X.length) => (show byteAt q i = X[i] by
        have h := byte_get (s := q) (q := i) (by rw [hbl.out]; exact hi)
        rw [h]
        exact getElem_congr_coll hbl.out))
      by_cases hke : k = q.size
      · have hr := Lib.hid (hnone.out (hpn.out fun i hi => by rw [← hget.out i hi]; exact hno.out i (by omega)))
        have hba := Lib.hid (bareF_any 1 wr)
        subst hke
        clear hno hat
        go_wp2_with fail
        refine hba.out.mono ?_
        rintro e w5 ⟨rfl, hb5⟩
        have hR6 := (hB2.out.below hK.out).below hb5
        obtain ⟨⟨r0, r1⟩, f0, f1⟩ := hR6.cells
        have hfl := Lib.hid ((hset.out _ hR6 1 (-1)))
        clear hb5 hR6 hba
        go_wp2_with fail
        exact bodyPost_ret (v := .tuple #[.slice none 0 0, .agg #[.int .i64 1, .int .i64 (-1)]]) (by simp [results, Tryz.results22, go_sem, hfl.out.1]) rfl ⟨⟨_, by rw [hr.out]; rfl, by rw [hr.out]; exact floorsAt_nil _⟩, hfl.out.2⟩
      have hkl : k < q.size := by omega
      have hne : ((k : Int) == (q.size : Int)) = false := by rw [beq_eq_false_iff_ne]; omega
      have hne2 : ¬ (k : Int) = (q.size : Int) := by omega
      have hpc := hpy.out k (by omega) (by rw [← hget.out]; exact hat.out hkl) (fun i hi h => by rw [← hget.out]; exact hno.out i h)
      have hex : q.extract (k + 1) q.size = bs (X.drop (k + 1)) := by
        rw [Lib.extract_eq, hbl.out, List.take_of_length_le (by rw [List.length_drop]; omega)]
        rfl
      have hex2 : q.extract 0 k = bs (X.take k) := by
        rw [Lib.extract_eq, hbl.out]
        rfl
      have hdl : (X.drop (k + 1)).length ≤ 400 := by rw [List.length_drop]; omega
      have hnum := numberR_any (bs (X.drop (k + 1))) 9999999999 wr (by rw [show (bs (X.drop (k + 1))).size = (X.drop (k + 1)).length from List.size_toArray]; unfold maxLen; omega)
      rw [bs_list, numR_number] at hnum
      obtain ⟨nv, nb, hnn⟩ : ∃ nv nb, number (X.drop (k + 1)) 9999999999 = (nv, nb) := ⟨_, _, rfl⟩
      have hnge : nb = true → 0 ≤ nv := by
        intro h
        have : (number (X.drop (k + 1)) 9999999999).2 = true := by rw [hnn]; exact h
        have h2 : 0 ≤ (number (X.drop (k + 1)) 9999999999).1 := by
          unfold number
          split
          · split <;> simp
          · simp
        rw [hnn] at h2
        exact h2
      rw [hnn] at hnum hpc
      generalize X.drop (k + 1) = Xd at *
      generalize X.take k = Xt at *
      dsimp only at hnum hpc
      have hpc := Lib.hid hpc
      have hnum := Lib.hid hnum
      have hsomeF := Lib.hid hsome
      clear hnn hdl hat hno hget hke hsome
      have k1 : (0 : Int) ≤ (k : Int) := by omega
      have k2 : (k : Int) ≤ (q.size : Int) := by omega
      have k3 : (0 : Int) ≤ (k : Int) + 1 := by omega
      have k4 : (k : Int) + 1 ≤ (q.size : Int) := by omega
      cases nb with
      | false =>
        have hr := Lib.hid (hnone.out (by rw [hpc.out, if_neg (by decide)]))
        have hba := Lib.hid (bareF_any 1 wr)
        have hnum2 := hnum.out
        rw [if_neg (by decide)] at hnum2
        have hnum2 := Lib.hid hnum2
        clear hnum hnge
        go_wp2_with fail
        refine hnum2.out.mono ?_
        rintro e w5 ⟨rfl, rfl⟩
        go_wp2_with fail
        refine hba.out.mono ?_
        rintro e w5 ⟨rfl, hb5⟩
        have hR6 := (hB2.out.below hK.out).below hb5
        obtain ⟨⟨r0, r1⟩, f0, f1⟩ := hR6.cells
        have hfl := Lib.hid ((hset.out _ hR6 1 (-1)))
        clear hb5 hR6 hba
        go_wp2_with fail
        exact bodyPost_ret (v := .tuple #[.slice none 0 0, .agg #[.int .i64 1, .int .i64 (-1)]]) (by simp [results, Tryz.results22, go_sem, hfl.out.1]) rfl ⟨⟨_, by rw [hr.out]; rfl, by rw [hr.out]; exact floorsAt_nil _⟩, hfl.out.2⟩
      | true =>
        have hge0 : ¬ nv < 0 := by have := hnge rfl; omega
        obtain ⟨hall2, hvals⟩ := hsomeF.out _ (by rw [hpc.out, if_pos rfl])
        have hall2 := Lib.hid hall2
        have hvals := Lib.hid hvals
        have hnum2 := hnum.out
        rw [if_pos rfl] at hnum2
        have hnum2 := Lib.hid hnum2
        have hszK := hK.out.size
        clear hnum hnge
        go_wp2_with fail
        refine hnum2.out.mono ?_
        rintro e w5 ⟨rfl, rfl⟩
        go_wp2_with (first
          | (at_builtin; refine wpList_appG floC _ rfl _ _ 22 rfl 24 (.agg #[.string ⟨#[]⟩, .int .i64 0]) 24 Tryz.underlying22 info_flo3 rfl (by decide) w2.heap.size _ (valsF (P.take j)) rfl (RowG.alloc hrow.out _) _ [⟨Xt, nv⟩] rfl (AtG.new _ _ _ rfl) (by simp; omega) (by simp; omega) ?_)
          | go_in)
        intro v6 w6 hown6 hb6 _ _
        have hfin := Lib.hid (show RowG floC w6 w2.heap.size 24 v6 (valsF (P.take (j + 1))) ∧ Below w2.heap.size w2 w6 from ⟨by rw [hvals.out]; exact hown6, (hK.out.alloc hszK _).trans hb6⟩)
        clear hown6 hb6
        go_wp2_with fail
        go_roundg (P.length - j)
        case measure => omega
        case rel => exact ⟨j + 1, by simp, hlt, by omega, hall2, Lib.hid hfin.out.1, Lib.hid hfin.out.2⟩
    · have hje : P.take j = P := List.take_of_length_le (by omega)
      have hge : ¬ ((j : Int) < (P.length : Int)) := by omega
      rw [hje] at hall hrow
      have hrd := Lib.hid (hrd1.out hall.out)
      have hlv := RowG.len_le hrow.out
      have hwho := Lib.hid (show ∀ f ∈ valsF P, f.who.length ≤ maxLen from fun f hf => by have := valsF_who (n := 400) hxl.out f hf; unfold maxLen; omega)
      have hff := faultsR_flo _ (valsF P) wr (floorsAt_of (RowG.at_ hrow.out)) hwho.out
      have hB3 := Lib.hid (hB2.out.below hK.out)
      have hn0 := Lib.hid (show w.heap.size < w2.heap.size from (Array.getElem?_eq_some_iff.1 hB2.out.1).1)
      obtain ⟨z, p, hzp⟩ : ∃ (z : Nat) (p : Int), checkF (valsF P) = (z, p) := ⟨_, _, rfl⟩
      rw [hzp] at hrd hff
      dsimp only [faultF] at hrd hff
      rw [hje]
      have hp0 : z = 0 → p = -1 := fun h => by
        have h2 := check_goodF (goodF_check (show (checkF (valsF P)).1 = 0 by rw [hzp]; exact h))
        rw [hzp] at h2
        exact (Prod.mk.inj h2).2
      generalize valsF P = V at *
      have hff := Lib.hid hff
      clear hzp hje hrd1 hrd2
      by_cases hz : z = 0
      · have hr := hrd.out
        rw [if_pos hz] at hr
        have hr := Lib.hid hr
        have hp1 := hp0 hz
        subst hz
        subst hp1
        clear hrd
        go_wp2_with fail
        refine hff.out.mono ?_
        rintro e w5 ⟨rfl, hb5⟩
        have hb6 : Below wr.heap.size wr (w5.alloc (.cells #[.int .i64 0, .int .i64 (-1)] 42)) := hb5.alloc hb5.size _
        have hR6 := hB3.out.below hb6
        have hro6 := Lib.hid (RowG.below hrow.out hb6)
        obtain ⟨⟨r0, r1⟩, f0, f1⟩ := hR6.cells
        have hR6H := Lib.hid hR6
        clear hb5 hR6 hff hb6
        go_wp2_with fail
        go_region
        all_goals
          go_wp2_with fail
          have hR := hR6H.out.set (.int .i64 0) (.int .i64 (-1))
          have hR0 := set2_first hR6H.out.1 (.int .i64 0)
          have hne : ∀ g, (Value.slice a5 V.length c5).ownBlock = some g → g ≠ w.heap.size := fun g hg => by have := (hro6.out.block hg).1; have := hn0.out; omega
          have hrow7 := (hro6.out.other ⟨w.heap.size, 0, none⟩ (.int .i64 0) hne).other ⟨w.heap.size, 1, none⟩ (.int .i64 (-1)) hne
          exact bodyPost_ret (v := .tuple #[.slice a5 V.length c5, .agg #[.int .i64 0, .int .i64 (-1)]]) (by simp [results, Tryz.results22, go_sem, hR.1, hR0]) rfl ⟨⟨_, by rw [hr.out]; rfl, by rw [hr.out]; exact floorsAt_of (RowG.at_ (hrow7.drewN 1))⟩, hR.2.drew⟩
      · have hr := hrd.out
        rw [if_neg hz] at hr
        have hr := Lib.hid hr
        have hz1 : (0 : Int) < (z : Int) := by omega
        have hfz : faultF z p = .agg #[.int .i64 (z : Int), .int .i64 p] := rfl
        have hfz := Lib.hid hfz
        generalize hzd : (z : Int) = zi at *
        clear hz hrd hzd
        go_wp2_with fail
        refine hff.out.mono ?_
        rintro e w5 ⟨rfl, hb5⟩
        have hR6 := (hB3.out.below hb5).below ((Below.refl _ _).alloc (Nat.le_refl _) (.cells #[.int .i64 zi, .int .i64 p] 42))
        obtain ⟨⟨r0, r1⟩, f0, f1⟩ := hR6.cells
        have hR6H := Lib.hid hR6
        clear hb5 hR6 hff
        go_wp2_with fail
        go_region
        all_goals
          go_wp2_with fail
          have hR := hR6H.out.set (.int .i64 zi) (.int .i64 p)
          have hR0 := set2_first hR6H.out.1 (.int .i64 zi)
          exact bodyPost_ret (v := .tuple #[.slice none 0 0, .agg #[.int .i64 zi, .int .i64 p]]) (by simp [results, Tryz.results22, go_sem, hR.1, hR0]) rfl ⟨⟨_, by rw [hr.out, hfz.out], by rw [hr.out]; exact floorsAt_nil _⟩, hR.2.drew⟩
end Go.Proofs.YtcnadjdijolboaaGreatDoor
