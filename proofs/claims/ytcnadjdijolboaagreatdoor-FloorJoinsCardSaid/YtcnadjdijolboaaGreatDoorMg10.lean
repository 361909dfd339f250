/- FloD, FloI -/
import Derived.Test.YtcnadjdijolboaaGreatDoorMg8
import Derived.Laws.IdiomCopy
import Derived.Lib.AppendZerosOnto
import Derived.Lib.Overlaps
import Derived.Laws.NewBlocks
import Derived.Deep.RegionLaw
import Derived.Shelf.Spec.SlicesInsert
/- floor.Raise's closures; slices.DeleteFunc at floors, walked. -/
namespace Go.Proofs.YtcnadjdijolboaaGreatDoor
open Go.RowKit

theorem AsksF.at_below {g : Nat} {cs : Array Value} {p : Flo → Bool} {w w' : World} (h : AsksF g cs p w) (hb : Below w.heap.size w w') : AsksF g cs p w' :=
  fun W f hf hW => h W f hf (hb.trans (hW.mono hb.size))
set_option maxRecDepth 100000 in
theorem raise1_asks (f : Flo) (b : Nat) (w : World) (h0 : w.cell? ⟨b, 0, none⟩ = some (.string (bs f.who))) (h1 : w.cell? ⟨b, 1, none⟩ = some (.int .i64 f.ep)) :
    AsksF 39 #[.pointer (some ⟨b, 0, none⟩)] (fun g => !keepF f g) w := by
  intro W g hl hW
  have h0 := cell_below hW h0
  have h1 := cell_below hW h1
  obtain ⟨fw, fe⟩ := f
  obtain ⟨gw, ge⟩ := g
  dsimp only [Flo.val] at *
  have hlt := World.block_lt_of_cell? W _ h0
  have c0 : ∀ o, (W.alloc o).cell? ⟨b, 0, none⟩ = some (.string (bs fw)) := fun o => by rw [World.cell?_alloc_lt _ _ _ hlt]; exact h0
  have c1 : ∀ o, (W.alloc o).cell? ⟨b, 1, none⟩ = some (.int .i64 fe) := fun o => by rw [World.cell?_alloc_lt _ _ _ (show (⟨b, 1, none⟩ : Addr).block < _ from hlt)]; exact h1
  have hk : (!keepF ⟨fw, fe⟩ ⟨gw, ge⟩) = (gw == fw || (fw == starW && decide (ge ≤ fe))) := by unfold keepF; simp
  have e1 : ((bs gw).toList == (bs fw).toList) = (gw == fw) := by rw [toList_data, toList_data, bs_list, bs_list]
  have e2 : ((bs fw).toList == [42]) = (fw == starW) := by rw [toList_data, bs_list]; rfl
  have hB := (Below.refl W.heap.size W).alloc (Nat.le_refl _) (.cells #[.string (bs gw), .int .i64 ge] 24)
  clear h0 h1 hW
  rw [hk]
  clear hk
  cases q1 : (gw == fw) with
  | true =>
    rw [q1] at e1
    clear q1
    go_enter Tryz.func39, Tryz.ntmps39
    go_wp2_with fail
    go_ret
    exact ⟨rfl, hB⟩
  | false =>
    rw [q1] at e1
    cases q2 : (fw == starW) with
    | false =>
      rw [q2] at e2
      clear q1 q2
      go_enter Tryz.func39, Tryz.ntmps39
      go_wp2_with fail
      go_ret
      exact ⟨rfl, hB⟩
    | true =>
      rw [q2] at e2
      clear q1 q2
      by_cases hle : ge ≤ fe
      all_goals
        go_enter Tryz.func39, Tryz.ntmps39
        go_wp2_with fail
        go_ret
        exact ⟨by simp [hle], hB⟩

/-- Cells written one behind the other into a block. -/
theorem heap_setCells (g : Nat) (T : TypeId) : ∀ (vs : List Value) (o : Nat) (w : World) (cur : Array Value), w.heap[g]? = some (.cells cur T (0, 0)) → o + vs.length ≤ cur.size →
    ∃ cur' : Array Value, (w.setCells g o vs).heap[g]? = some (.cells cur' T (0, 0)) ∧ cur'.size = cur.size ∧ cur'.toList = cur.toList.take o ++ vs ++ cur.toList.drop (o + vs.length)
  | [], o, w, cur, h, _ => ⟨cur, h, rfl, by simp⟩
  | v :: r, o, w, cur, h, hl => by
    have h1 := heap_setCell_same w g o cur T v h
    obtain ⟨cur', h2, h3, h4⟩ := heap_setCells g T r (o + 1) (w.setCell ⟨g, o, none⟩ v) _ h1 (by simp at hl ⊢; omega)
    refine ⟨cur', h2, by simpa using h3, ?_⟩
    rw [h4]
    simp only [List.length_cons] at hl
    have ho : o < cur.toList.length := by simp; omega
    simp only [Array.toList_setIfInBounds, List.length_cons]
    rw [List.take_add_one, List.getElem?_set_self ho, List.take_set_of_le (Nat.le_refl _), List.drop_set_of_lt (by omega), show o + 1 + r.length = o + (r.length + 1) by omega]
    simp
theorem heap_setCells_other (g k : Nat) (h : k ≠ g) : ∀ (vs : List Value) (o : Nat) (w : World), (w.setCells g o vs).heap[k]? = w.heap[k]?
  | [], _, _ => rfl
  | v :: r, o, w => by rw [World.setCells, heap_setCells_other g k h r, heap_setCell_other _ _ _ _ h]
theorem below_setCells {B : Nat} {a : World} (g : Nat) (hg : B ≤ g) : ∀ (vs : List Value) (o : Nat) (w : World), Below B a w → Below B a (w.setCells g o vs)
  | [], _, _, h => h
  | v :: r, o, w, h => below_setCells g hg r (o + 1) _ (h.setCell (p := ⟨g, o, none⟩) hg v)
theorem zero_floor (w : World) : (zeroValue 24).run Tryz.prog w = .ok (.agg #[.string ⟨#[]⟩, .int .i64 0]) w := by kernel_rfl
theorem zeros_floor (n : Nat) : (Builtin.zeroCells (Value.agg #[.string ⟨#[]⟩, .int .i64 0]).cells n).toList.length = n * 2 ∧ ∀ u ∈ (Builtin.zeroCells (Value.agg #[.string ⟨#[]⟩, .int .i64 0]).cells n).toList, u.oneCell' = true := by
  have hs : (Value.agg #[.string ⟨#[]⟩, .int .i64 0]).cells = #[.string ⟨#[]⟩, .int .i64 0] := rfl
  rw [hs]
  refine ⟨by rw [Array.length_toList, size_zeroCells]; rfl, fun u hu => ?_⟩
  unfold Builtin.zeroCells at hu
  simp only [Array.toList_map, List.mem_map] at hu
  obtain ⟨i, _, rfl⟩ := hu
  have : i % 2 = 0 ∨ i % 2 = 1 := by omega
  rcases this with h | h
  · show ((#[Value.string ⟨#[]⟩, .int .i64 0] : Array Value)[i % 2]!).oneCell' = true
    rw [h]; rfl
  · show ((#[Value.string ⟨#[]⟩, .int .i64 0] : Array Value)[i % 2]!).oneCell' = true
    rw [h]; rfl
theorem run_clear_floors (w : World) (ty : TypeId) (b o n c : Nat) (hn : 0 < n) (hc : ∀ j, j < n * 2 → (w.cell? ⟨b, o + j, none⟩).isSome = true) (hf : ∀ j, j < n * 2 → w.frozen? ⟨b, o + j, none⟩ = false) :
    (Builtin.clear_ #[22] ty #[.slice (some ⟨b, o, none⟩) n c]).run Tryz.prog w = .ok (.tuple #[]) (w.setCells b o (Builtin.zeroCells (Value.agg #[.string ⟨#[]⟩, .int .i64 0]).cells n).toList) := by
  obtain ⟨hz1, hz2⟩ := zeros_floor n
  have hst := run_storeCells_cells (P := Tryz.prog) b o (Builtin.zeroCells (Value.agg #[.string ⟨#[]⟩, .int .i64 0]).cells n).toList 0 w (by rw [hz1]; simpa using hc) (by rw [hz1]; simpa using hf) hz2
  simp only [Nat.add_zero] at hst
  obtain ⟨m, rfl⟩ : ∃ m, n = m + 1 := ⟨n - 1, by omega⟩
  simp [Builtin.clear_, run_underlying Tryz.underlying22, zero_floor, hst]

theorem take_keep {p : Flo → Bool} {L : List Flo} {q : Nat} (hq : q < L.length) : (L.take (q + 1)).filter (fun f => !p f) = (L.take q).filter (fun f => !p f) ++ (if p L[q] = true then [] else [L[q]]) := by
  rw [List.take_succ_eq_append_getElem hq, List.filter_append]
  congr 1
  by_cases h : p L[q] = true
  · rw [if_pos h]; simp [h]
  · rw [if_neg h]; simp [h]
set_option maxHeartbeats 2000000 in
set_option maxRecDepth 100000 in
theorem delf_flo (w0 : World) (v : Value) (L : List Flo) (g : Nat) (cs : Array Value) (p : Flo → Bool) (w : World) (hv : FlRow w w0.heap.size v L) (hL : L.length ≤ 1000) (hm : ∀ f ∈ L, f.who.length ≤ maxLen) (hbw : Below w0.heap.size w0 w) (hg : AsksF g cs p w0) (eg : ∀ args w, (callFunc g args).run Tryz.prog w = .ok (.enter g args) w) :
    Calls Tryz.prog 38 #[v, .func (.func g) #[] cs] w fun e w' => ∃ v', e = .returned v' ∧ FlRow w' w0.heap.size v' (L.filter fun f => !p f) ∧ Below w0.heap.size w0 w' := by
  have hix := Lib.hid (index_flo v L g cs p w (hv.at_ (by unfold maxLen; omega)) hm (hg.at_below hbw) eg)
  have hmH := Lib.hid hm
  have hgH := Lib.hid hg
  clear hm hg
  by_cases hall : ∀ i (h : i < L.length), p L[i] = false
  · have hfi := firstF_none hall
    rw [hfi] at hix
    have hfl : L.filter (fun f => !p f) = L := List.filter_eq_self.2 fun f hf => by
      obtain ⟨i, hi, rfl⟩ := List.getElem_of_mem hf
      rw [hall i hi]; rfl
    rw [hfl]
    clear hfi hfl hall
    have hbw := Lib.hid hbw
    rcases hv.shape with ⟨rfl, rfl⟩ | ⟨gb, cap, cur, rfl, _⟩
    all_goals
      go_enter Tryz.func38, Tryz.ntmps38
      go_wp2_with fail
      refine hix.out.mono ?_
      rintro e w1 ⟨rfl, hb1⟩
      have hb1 := Lib.hid hb1
      go_wp2_with fail
      go_ret
      exact ⟨_, rfl, hv.below hb1.out, hbw.out.trans (hb1.out.mono hbw.out.size)⟩
  · obtain ⟨i0, hi0, hp0, hbef⟩ : ∃ (i0 : Nat) (h : i0 < L.length), p L[i0] = true ∧ ∀ i (h : i < L.length), i < i0 → p L[i] = false := by
      have hlt : L.findIdx p < L.length := by
        rcases Nat.lt_or_ge (L.findIdx p) L.length with h | h
        · exact h
        · exfalso
          apply hall
          intro i hi
          have : L.findIdx p = L.length := Nat.le_antisymm List.findIdx_le_length h
          have := (List.findIdx_eq_length.1 this) L[i] (List.getElem_mem hi)
          simpa using this
      refine ⟨L.findIdx p, hlt, List.findIdx_getElem, fun i hi hii => by simpa using List.not_of_lt_findIdx hii⟩
    have hfi := firstF_of hi0 hp0 hbef
    rw [hfi] at hix
    clear hfi hall
    rcases hv.shape with ⟨rfl, rfl⟩ | ⟨gb, cap, cur, rfl, hgb, hgc, hcap, hmx, hsz, htk⟩
    · exact absurd hi0 (Nat.not_lt_zero _)
    have hf0 : (L.take (i0 + 1)).filter (fun f => !p f) = L.take i0 := by
      rw [take_keep hi0, if_pos hp0, List.append_nil]
      refine List.filter_eq_self.2 fun f hf => ?_
      obtain ⟨i, hi, rfl⟩ := List.getElem_of_mem hf
      have hi2 : i < i0 := by rw [List.length_take] at hi; omega
      rw [List.getElem_take, hbef i (by omega) hi2]; rfl
    have hf0 := Lib.hid hf0
    have hbw := Lib.hid hbw
    clear hp0 hbef hgc hsz htk
    go_enter Tryz.func38, Tryz.ntmps38
    go_wp2_with fail
    refine hix.out.mono ?_
    rintro e w1 ⟨rfl, hb1⟩
    have hv1 := Lib.hid (hv.below hb1)
    have hbw1 := Lib.hid (hbw.out.trans (hb1.mono hbw.out.size))
    clear hb1 hv hix
    unfold maxLen at hmx
    go_wp2_with fail
    go_loopg [5, 6] (L.length + 1) (fun g8 i j wr => ∃ (a q : Nat) (X : List Flo), i = .int .i64 a ∧ j = .int .i64 q ∧ a < q ∧ q ≤ L.length ∧ L.length - q + 1 ≤ g8 ∧ X.length = L.length ∧ Hid (X.take a = (L.take q).filter fun f => !p f) ∧ Hid (X.drop q = L.drop q) ∧ Hid (FlRow wr w0.heap.size (.slice (some ⟨gb, 0, none⟩) L.length cap) X) ∧ Hid (Below w0.heap.size w0 wr))
    case atStart => exact ⟨i0, i0 + 1, L, by simp, by simp, by omega, hi0, by omega, rfl, Lib.hid hf0.out.symm, Lib.hid rfl, hv1, hbw1⟩
    case round =>
      obtain ⟨a, q, X, rfl, rfl, haq, hq, hgq, hXL, hXt, hXd, hrow, hK⟩ := hrel
      by_cases hlt : q < L.length
      · have hxq : X[q]? = some L[q] := by
          have h1 : (X.drop q)[0]? = (L.drop q)[0]? := by rw [hXd.out]
          rw [List.getElem?_drop, List.getElem?_drop, Nat.add_zero, List.getElem?_eq_getElem hlt] at h1
          exact h1
        obtain ⟨hqx, hxq⟩ := List.getElem?_eq_some_iff.1 hxq
        have hrowX : FlRow wr w0.heap.size (.slice (some ⟨gb, 0, none⟩) X.length cap) X := by rw [hXL]; exact hrow.out
        obtain ⟨f0, f1⟩ := flatF_get X q hqx
        have c0 := hrowX.cells _ _ f0
        have c1 := hrowX.cells _ _ f1
        rw [hxq] at c0 c1
        clear f0 f1
        have hB := hK.out.alloc hK.out.size (.cells #[.string (bs L[q].who), .int .i64 L[q].ep] 24)
        have hgc := Lib.hid (hgH.out _ L[q] (hmH.out _ (List.getElem_mem hlt)) hB)
        have hk0 : (0 : Int) ≤ (q : Int) := by omega
        have hk1 : (q : Int) < (L.length : Int) := by omega
        have htk := Lib.hid (take_keep (p := p) hlt)
        have hwi : IntKind.i64.wrap ((q : Int) + 1) = (q : Int) + 1 := by rw [IntKind.wrap_i64]; omega
        cases hb : p L[q] with
        | true =>
          rw [hb] at hgc
          have hXt2 := Lib.hid (show X.take a = (L.take (q + 1)).filter fun f => !p f by rw [htk.out, if_pos hb, List.append_nil]; exact hXt.out)
          have hXd2 := Lib.hid (show X.drop (q + 1) = L.drop (q + 1) by rw [← List.drop_drop, ← List.drop_drop, hXd.out])
          clear hb
          go_wp2_with fail
          refine hgc.out.mono ?_
          rintro e w2 ⟨rfl, hb2⟩
          have hA := (Below.refl wr.heap.size wr).alloc (Nat.le_refl _) (.cells #[.string (bs L[q].who), .int .i64 L[q].ep] 24)
          have hrow2 := Lib.hid (hrow.out.below (below_trans hA hb2))
          have hK2 := Lib.hid (hK.out.trans ((below_trans hA hb2).mono hK.out.size))
          clear c0 c1 hA hb2
          go_wp2_with fail
          go_roundg (L.length - q)
          case measure => omega
          case rel => exact ⟨a, q + 1, X, by simp, by simp, by omega, hlt, by omega, hXL, hXt2, hXd2, hrow2, hK2⟩
        | false =>
          rw [hb] at hgc
          have hax : a < X.length := by omega
          have hXt2 := Lib.hid (show (X.set a L[q]).take (a + 1) = (L.take (q + 1)).filter fun f => !p f by
            rw [htk.out, if_neg (by rw [hb]; decide), ← hXt.out, List.take_succ_eq_append_getElem (by rw [List.length_set]; exact hax), List.getElem_set_self, List.take_set_of_le (Nat.le_refl _)])
          have hXd2 := Lib.hid (show (X.set a L[q]).drop (q + 1) = L.drop (q + 1) by
            rw [List.drop_set_of_lt (by omega), ← List.drop_drop, ← List.drop_drop, hXd.out])
          clear hb
          go_wp2_with fail
          refine hgc.out.mono ?_
          rintro e w2 ⟨rfl, hb2⟩
          have hA := (Below.refl wr.heap.size wr).alloc (Nat.le_refl _) (.cells #[.string (bs L[q].who), .int .i64 L[q].ep] 24)
          have d0 := cell_below hb2 (show (wr.alloc (.cells #[.string (bs L[q].who), .int .i64 L[q].ep] 24)).cell? ⟨wr.heap.size, 0, none⟩ = some (.string (bs L[q].who)) by simp)
          have d1 := cell_below hb2 (show (wr.alloc (.cells #[.string (bs L[q].who), .int .i64 L[q].ep] 24)).cell? ⟨wr.heap.size, 1, none⟩ = some (.int .i64 L[q].ep) by simp)
          have hrow2 := hrowX.below (below_trans hA hb2)
          have hK2 := hK.out.trans ((below_trans hA hb2).mono hK.out.size)
          obtain ⟨f0, f1⟩ := flatF_get X a hax
          have s0 := hrow2.cells _ _ f0
          have s1 := hrow2.cells _ _ f1
          have z0 := hrow2.frozen (a * 2)
          have z1 := hrow2.frozen (a * 2 + 1)
          have hka : (0 : Int) ≤ (a : Int) := by omega
          have hka1 : (a : Int) < (L.length : Int) := by omega
          have hwa : IntKind.i64.wrap ((a : Int) + 1) = (a : Int) + 1 := by rw [IntKind.wrap_i64]; omega
          have hrow3 := Lib.hid (show FlRow _ w0.heap.size (.slice (some ⟨gb, 0, none⟩) L.length cap) (X.set a L[q]) from by have := hrow2.set hax L[q]; rw [hXL] at this; exact this)
          have hK3 := Lib.hid ((hK2.setCell (p := ⟨gb, a * 2, none⟩) hgb (.string (bs L[q].who))).setCell (p := ⟨gb, a * 2 + 1, none⟩) hgb (.int .i64 L[q].ep))
          clear c0 c1 hA hb2 hrow2 hrowX f0 f1 hK2
          go_wp2_with fail
          go_roundg (L.length - q)
          case measure => omega
          case rel => exact ⟨a + 1, q + 1, X.set a L[q], by simp, by simp, by omega, hlt, by omega, by rw [List.length_set]; exact hXL, hXt2, hXd2, hrow3, hK3⟩
      · have hqe : q = L.length := by omega
        subst hqe
        have hge : ¬ ((L.length : Int) < (L.length : Int)) := by omega
        have hrowX : FlRow wr w0.heap.size (.slice (some ⟨gb, 0, none⟩) X.length cap) X := by rw [hXL]; exact hrow.out
        have hXt2 := Lib.hid (hXt.out.trans (by rw [List.take_length]))
        rcases hrowX.shape with ⟨h1, _⟩ | ⟨g', cap', cur, he, hb', hg', hc', hm', hsz, htk⟩
        · cases h1
        cases he
        have hcells : ∀ j, j < (L.length - a) * 2 → (wr.cell? ⟨gb, a * 2 + j, none⟩).isSome = true := fun j hj => by
          rw [cell_of_row wr gb _ _ _ _ hg', Array.getElem?_eq_getElem (by rw [hsz]; omega)]; rfl
        have hcl := fun ty => run_clear_floors wr ty gb (a * 2) (L.length - a) (cap - a) (by omega) hcells (fun j _ => frozen_of_row _ _ _ _ _ hg')
        obtain ⟨hz1, _⟩ := zeros_floor (L.length - a)
        obtain ⟨cur', k1, k2, k3⟩ := heap_setCells gb 24 (Builtin.zeroCells (Value.agg #[.string ⟨#[]⟩, .int .i64 0]).cells (L.length - a)).toList (a * 2) wr cur hg' (by rw [hz1, hsz]; omega)
        have hfin := Lib.hid (show FlRow (wr.setCells gb (a * 2) (Builtin.zeroCells (Value.agg #[.string ⟨#[]⟩, .int .i64 0]).cells (L.length - a)).toList) w0.heap.size (.slice (some ⟨gb, 0, none⟩) a cap) (L.filter fun f => !p f) by
          have hla : (L.filter fun f => !p f).length = a := by rw [← hXt2.out, List.length_take]; omega
          unfold FlRow
          rw [hla]
          refine ⟨by rw [flatF_len, hla], .inr ⟨gb, cap, cur', rfl, hgb, k1, by omega, hm', by rw [k2, hsz], ?_⟩⟩
          rw [← hXt2.out, flatF_take, ← htk, List.take_take, Nat.min_eq_left (by omega), k3, List.append_assoc, List.take_append_of_le_length (by simp; omega), List.take_take, Nat.min_self])
        have hKf := Lib.hid (below_setCells gb hgb (Builtin.zeroCells (Value.agg #[.string ⟨#[]⟩, .int .i64 0]).cells (L.length - a)).toList (a * 2) wr hK.out)
        have hal : a ≤ L.length := by omega
        have hac : a ≤ cap := by omega
        clear k1 k2 k3 hz1 hcells hg' hsz htk hrowX
        generalize (Builtin.zeroCells (Value.agg #[.string ⟨#[]⟩, .int .i64 0]).cells (L.length - a)).toList = zs at *
        go_wp2_with fail
        go_ret
        exact ⟨_, rfl, hfin.out, hKf.out⟩
end Go.Proofs.YtcnadjdijolboaaGreatDoor

/- slices.Insert at floors, walked: at the end; in place; into a new row. -/
namespace Go.Proofs.YtcnadjdijolboaaGreatDoor
open Go.RowKit

theorem info_floor : (Tryz.prog.info? 24).map (fun i => (i.zero, i.size, i.bytes)) = some (some (.agg #[.string ⟨#[]⟩, .int .i64 0]), 2, 24) := by kernel_rfl
theorem size_floor (w : World) : (Go.sizeOf 24).run Tryz.prog w = .ok 2 w := by kernel_rfl
/-- copy, between rows of floors. -/
theorem run_copy_floors (w : World) (ty : TypeId) (b o dLen dCap : Nat) (a : Addr) (sLen sCap : Nat) (cs : List Value) (hn : cs.length = Nat.min sLen dLen * 2)
    (hsrc : ∀ j v, cs[j]? = some v → w.cell? (a.add j) = some v) (hc : ∀ j, j < cs.length → (w.cell? ⟨b, o + j, none⟩).isSome = true) (hf : ∀ j, j < cs.length → w.frozen? ⟨b, o + j, none⟩ = false) (h1 : ∀ v ∈ cs, v.oneCell' = true) :
    (Builtin.copy_ #[22, 22] ty #[.slice (some ⟨b, o, none⟩) dLen dCap, .slice (some a) sLen sCap]).run Tryz.prog w = .ok (goInt (Nat.min sLen dLen)) (w.setCells b o cs) := by
  have hl := run_loadCells_list (P := Tryz.prog) w a cs hsrc
  have hst := run_storeCells_cells (P := Tryz.prog) b o cs 0 w (by simpa using hc) (by simpa using hf) h1
  obtain ⟨i0, hi, hz0, hz1, hz2⟩ := info_parts info_floor
  rw [hn] at hl
  simp only [Nat.add_zero] at hst
  simp only [Builtin.copy_, Builtin.lenOf, Builtin.firstCells, sizeOf, typeInfo, hi, hz1]
  simp [run_underlying Tryz.underlying22, Builtin.lenOf, Builtin.firstCells, sizeOf, typeInfo, hi, hz1, hl, hst]
theorem shape_row {w : World} {g : Nat} {cs : Array Value} {T : TypeId} (h : w.heap[g]? = some (.cells cs T (0, 0))) : w.shape? g = some (T, cs.size) := by
  simp [World.shape?, h]
theorem take_two {α : Type} {A B C : List α} {n : Nat} (h : n = A.length + B.length) : (A ++ (B ++ C)).take n = A ++ B := by
  rw [← List.append_assoc, h, ← List.length_append, List.take_left]
theorem splice_shift {C F c : List Value} {n k : Nat} (hF : C.take (n * 2) = F) (hl : F.length = n * 2) (hk : k ≤ n) (hc : c.length = 2) {C1 C2 : List Value}
    (h1 : C1 = C.take ((k + 1) * 2) ++ F.drop (k * 2) ++ C.drop ((k + 1) * 2 + (F.drop (k * 2)).length)) (h2 : C2 = C1.take (k * 2) ++ c ++ C1.drop (k * 2 + c.length)) (hC : (n + 1) * 2 ≤ C.length) :
    C2.take ((n + 1) * 2) = F.take (k * 2) ++ c ++ F.drop (k * 2) := by
  have e1 : C1.take (k * 2) = F.take (k * 2) := by
    rw [h1, List.append_assoc, List.take_append_of_le_length (by rw [List.length_take]; omega), List.take_take, ← hF, List.take_take, Nat.min_eq_left (by omega), Nat.min_eq_left (by omega)]
  have e2 : C1.drop (k * 2 + c.length) = F.drop (k * 2) ++ C.drop ((k + 1) * 2 + (F.drop (k * 2)).length) := by
    rw [h1, hc, List.append_assoc, List.drop_append_of_le_length (by rw [List.length_take]; omega), List.drop_of_length_le (by rw [List.length_take]; omega), List.nil_append]
  rw [h2, e1, e2, ← List.append_assoc]
  rw [List.take_append_of_le_length (by simp only [List.length_append, List.length_take, List.length_drop]; omega), List.take_of_length_le (by simp only [List.length_append, List.length_take, List.length_drop]; omega)]
theorem splice_grow {C F c : List Value} {n k : Nat} (hF : C.take (k * 2) = F.take (k * 2)) (hl : F.length = n * 2) (hk : k ≤ n) (hc : c.length = 2) {C1 C2 : List Value}
    (h1 : C1 = C.take (k * 2) ++ c ++ C.drop (k * 2 + c.length)) (h2 : C2 = C1.take ((k + 1) * 2) ++ F.drop (k * 2) ++ C1.drop ((k + 1) * 2 + (F.drop (k * 2)).length)) (hC : (n + 1) * 2 ≤ C.length) :
    C2.take ((n + 1) * 2) = F.take (k * 2) ++ c ++ F.drop (k * 2) := by
  have e1 : C1.take ((k + 1) * 2) = F.take (k * 2) ++ c := by
    rw [h1, hF, List.take_append_of_le_length (by simp only [List.length_append, List.length_take]; omega), List.take_of_length_le (by simp only [List.length_append, List.length_take]; omega)]
  rw [h2, e1]
  rw [List.take_append_of_le_length (by simp only [List.length_append, List.length_take, List.length_drop]; omega), List.take_of_length_le (by simp only [List.length_append, List.length_take, List.length_drop]; omega)]
theorem flatF_put (L : List Flo) (k : Nat) (f : Flo) : flatF (L.take k ++ f :: L.drop k) = (flatF L).take (k * 2) ++ f.cells ++ (flatF L).drop (k * 2) := by
  rw [flatF_append, flatF_take]
  show _ ++ (f.cells ++ flatF (L.drop k)) = _
  rw [flatF_drop, List.append_assoc]
theorem put_length (L : List Flo) (k : Nat) (f : Flo) (hk : k ≤ L.length) : (L.take k ++ f :: L.drop k).length = L.length + 1 := by
  simp only [List.length_append, List.length_cons, List.length_take, List.length_drop]
  omega

set_option maxHeartbeats 4000000 in
set_option maxRecDepth 100000 in
theorem ins_end (base : Nat) (v : Value) (L : List Flo) (f : Flo) (gv : Nat) (w : World) (hv : FlRow w base v L) (hL : L.length ≤ 1000)
    (hgv : w.heap[gv]? = some (.cells #[.string (bs f.who), .int .i64 f.ep] 24 (0, 0))) (hbase : base ≤ w.heap.size) :
    Calls Tryz.prog 42 #[v, .int .i64 (L.length : Int), .slice (some ⟨gv, 0, none⟩) 1 1] w fun e w' => ∃ v', e = .returned v' ∧ FlRow w' base v' (L ++ [f]) ∧ Below base w w' := by
  obtain ⟨i0, hi, hz0, hz1, hz2⟩ := info_parts info_floor
  have hvs : ∀ j u, f.cells[j]? = some u → w.cell? ((⟨gv, 0, none⟩ : Addr).add j) = some u := by
    intro j u hj
    rw [Addr.add_lit, Nat.zero_add, cell_of_row _ _ _ _ _ _ hgv]
    simpa [Flo.cells] using hj
  have hone : ∀ u ∈ f.cells, u.oneCell' = true := fun u hu => flatF_one [f] u (by simpa [flatF] using hu)
  have hvH := Lib.hid hv
  have hvsH := Lib.hid hvs
  have hlb := fun j hj => (ownsRow_block hv (g := j) hj).1
  have hlbH := Lib.hid hlb
  clear hvs hgv hlb
  rcases hv.shape with ⟨rfl, rfl⟩ | ⟨g, cap, cur, rfl, hgb, hgc, hcap, hmx, hsz, htk⟩
  · go_enter Tryz.func42, Tryz.ntmps42
    go_wp2_with (first
      | (at_builtin; refine wpList_append_own_at _ rfl _ _ 22 rfl base 24 i0 (.agg #[.string ⟨#[]⟩, .int .i64 0]) 2 24 Tryz.underlying22 hi hz0 hz1 hz2 rfl (by decide) _ _ _ rfl hvH.out ⟨gv, 0, none⟩ 1 1 f.cells rfl ?hl ?c1 ?c2 ?c3 ?c4 ?c5 ?_)
      | go_in)
    case hl => rfl
    case c1 => exact hvsH.out
    case c2 => exact hone
    case c3 => decide
    case c4 => decide
    case c5 => exact hbase
    intro v1 w1 hown hgrow _ _
    have hfin := Lib.hid (show FlRow w1 base v1 ([] ++ [f]) from by unfold FlRow; rw [flatF_append]; simpa [flatF] using hown)
    have hKf := Lib.hid ((Below.refl base w).grown hgrow hbase hlbH.out)
    clear hown hgrow
    go_wp2_with fail
    go_ret
    exact ⟨_, rfl, hfin.out, hKf.out⟩
  · unfold maxLen at hmx
    clear hgc hsz htk
    by_cases hcl : cap = L.length
    all_goals
      go_enter Tryz.func42, Tryz.ntmps42
      go_wp2_with (first
        | (at_builtin; refine wpList_append_own_at _ rfl _ _ 22 rfl base 24 i0 (.agg #[.string ⟨#[]⟩, .int .i64 0]) 2 24 Tryz.underlying22 hi hz0 hz1 hz2 rfl (by decide) _ _ _ rfl hvH.out ⟨gv, 0, none⟩ 1 1 f.cells rfl ?hl ?c1 ?c2 ?c3 ?c4 ?c5 ?_)
        | go_in)
      case hl => rfl
      case c1 => exact hvsH.out
      case c2 => exact hone
      case c3 => unfold maxLen; omega
      case c4 => omega
      case c5 => exact hbase
      intro v1 w1 hown hgrow _ _
      have hfin := Lib.hid (show FlRow w1 base v1 (L ++ [f]) from by unfold FlRow; rw [flatF_append, List.length_append]; simpa [flatF] using hown)
      have hKf := Lib.hid ((Below.refl base w).grown hgrow hbase hlbH.out)
      clear hown hgrow
      go_wp2_with fail
      go_ret
      exact ⟨_, rfl, hfin.out, hKf.out⟩
end Go.Proofs.YtcnadjdijolboaaGreatDoor
