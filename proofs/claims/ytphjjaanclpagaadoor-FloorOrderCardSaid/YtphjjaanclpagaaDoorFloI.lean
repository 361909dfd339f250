/- slices.Insert at floors, walked: at the end; in place; into a new row. -/
import Derived.Test.YtphjjaanclpagaaDoorFloD
import Derived.Lib.AppendZerosOnto
import Derived.Lib.Overlaps
import Derived.Laws.NewBlocks
import Derived.Deep.RegionLaw
import Derived.Shelf.Spec.SlicesInsert
namespace Go.Proofs.YtphjjaanclpagaaDoor
open Go.RowKit

theorem info_floor : (Tryd.prog.info? 39).map (fun i => (i.zero, i.size, i.bytes)) = some (some (.agg #[.string ⟨#[]⟩, .int .i64 0]), 2, 24) := by kernel_rfl
theorem size_floor (w : World) : (Go.sizeOf 39).run Tryd.prog w = .ok 2 w := by kernel_rfl
/-- copy, between rows of floors. -/
theorem run_copy_floors (w : World) (ty : TypeId) (b o dLen dCap : Nat) (a : Addr) (sLen sCap : Nat) (cs : List Value) (hn : cs.length = Nat.min sLen dLen * 2)
    (hsrc : ∀ j v, cs[j]? = some v → w.cell? (a.add j) = some v) (hc : ∀ j, j < cs.length → (w.cell? ⟨b, o + j, none⟩).isSome = true) (hf : ∀ j, j < cs.length → w.frozen? ⟨b, o + j, none⟩ = false) (h1 : ∀ v ∈ cs, v.oneCell' = true) :
    (Builtin.copy_ #[37, 37] ty #[.slice (some ⟨b, o, none⟩) dLen dCap, .slice (some a) sLen sCap]).run Tryd.prog w = .ok (goInt (Nat.min sLen dLen)) (w.setCells b o cs) := by
  have hl := run_loadCells_list (P := Tryd.prog) w a cs hsrc
  have hst := run_storeCells_cells (P := Tryd.prog) b o cs 0 w (by simpa using hc) (by simpa using hf) h1
  obtain ⟨i0, hi, hz0, hz1, hz2⟩ := info_parts info_floor
  rw [hn] at hl
  simp only [Nat.add_zero] at hst
  simp only [Builtin.copy_, Builtin.lenOf, Builtin.firstCells, sizeOf, typeInfo, hi, hz1]
  simp [run_underlying Tryd.underlying37, Builtin.lenOf, Builtin.firstCells, sizeOf, typeInfo, hi, hz1, hl, hst]
theorem shape_row {w : World} {g : Nat} {cs : Array Value} {T : TypeId} (h : w.heap[g]? = some (.cells cs T (0, 0))) : w.shape? g = some (T, cs.size) := by
  simp [World.shape?, h]
theorem take_two {α : Type} {A B C : List α} {n : Nat} (h : n = A.length + B.length) : (A ++ (B ++ C)).take n = A ++ B := by
  rw [← List.append_assoc, h, ← List.length_append, List.take_left]
theorem splice_shift {C F c : List Value} {n k : Nat} (hF : C.take (n * 2) = F) (hl : F.length = n * 2) (hk : k ≤ n) (hc : c.length = 2) {C1 C2 : List Value}
    (h1 : C1 = C.take ((k + 1) * 2) ++ F.drop (k * 2) ++ C.drop ((k + 1) * 2 + (F.drop (k * 2)).length)) (h2 : C2 = C1.take (k * 2) ++ c ++ C1.drop (k * 2 + c.length)) (hC : (n + 1) * 2 ≤ C.length) :
    C2.take ((n + 1) * 2) = F.take (k * 2) ++ c ++ F.drop (k * 2) := by
  have e1 : C1.take (k * 2) = F.take (k * 2) := by
    rw [h1, List.append_assoc, List.take_append_of_le_length (by rw [List.length_take]; omega), List.take_take, ← hF, List.take_take, Nat.min_eq_left (by omega), Nat.min_eq_left (by omega)]
  have e2 : C1.drop (k * 2 + c.length) = F.drop (k * 2) ++ C.drop ((k + 1) * 2 + (F.drop (k * 2)).length) := by
    rw [h1, hc, List.append_assoc, List.drop_append_of_le_length (by rw [List.length_take]; omega), List.drop_of_length_le (by rw [List.length_take]; omega), List.nil_append]
  rw [h2, e1, e2, ← List.append_assoc]
  rw [List.take_append_of_le_length (by simp only [List.length_append, List.length_take, List.length_drop]; omega), List.take_of_length_le (by simp only [List.length_append, List.length_take, List.length_drop]; omega)]
theorem splice_grow {C F c : List Value} {n k : Nat} (hF : C.take (k * 2) = F.take (k * 2)) (hl : F.length = n * 2) (hk : k ≤ n) (hc : c.length = 2) {C1 C2 : List Value}
    (h1 : C1 = C.take (k * 2) ++ c ++ C.drop (k * 2 + c.length)) (h2 : C2 = C1.take ((k + 1) * 2) ++ F.drop (k * 2) ++ C1.drop ((k + 1) * 2 + (F.drop (k * 2)).length)) (hC : (n + 1) * 2 ≤ C.length) :
    C2.take ((n + 1) * 2) = F.take (k * 2) ++ c ++ F.drop (k * 2) := by
  have e1 : C1.take ((k + 1) * 2) = F.take (k * 2) ++ c := by
    rw [h1, hF, List.take_append_of_le_length (by simp only [List.length_append, List.length_take]; omega), List.take_of_length_le (by simp only [List.length_append, List.length_take]; omega)]
  rw [h2, e1]
  rw [List.take_append_of_le_length (by simp only [List.length_append, List.length_take, List.length_drop]; omega), List.take_of_length_le (by simp only [List.length_append, List.length_take, List.length_drop]; omega)]
theorem flatF_put (L : List Flo) (k : Nat) (f : Flo) : flatF (L.take k ++ f :: L.drop k) = (flatF L).take (k * 2) ++ f.cells ++ (flatF L).drop (k * 2) := by
  rw [flatF_append, flatF_take]
  show _ ++ (f.cells ++ flatF (L.drop k)) = _
  rw [flatF_drop, List.append_assoc]
theorem put_length (L : List Flo) (k : Nat) (f : Flo) (hk : k ≤ L.length) : (L.take k ++ f :: L.drop k).length = L.length + 1 := by
  simp only [List.length_append, List.length_cons, List.length_take, List.length_drop]
  omega

set_option maxHeartbeats 4000000 in
set_option maxRecDepth 100000 in
theorem ins_end (base : Nat) (v : Value) (L : List Flo) (f : Flo) (gv : Nat) (w : World) (hv : FlRow w base v L) (hL : L.length ≤ 1000)
    (hgv : w.heap[gv]? = some (.cells #[.string (bs f.who), .int .i64 f.ep] 39 (0, 0))) (hbase : base ≤ w.heap.size) :
    Calls Tryd.prog 60 #[v, .int .i64 (L.length : Int), .slice (some ⟨gv, 0, none⟩) 1 1] w fun e w' => ∃ v', e = .returned v' ∧ FlRow w' base v' (L ++ [f]) ∧ Below base w w' := by
  obtain ⟨i0, hi, hz0, hz1, hz2⟩ := info_parts info_floor
  have hvs : ∀ j u, f.cells[j]? = some u → w.cell? ((⟨gv, 0, none⟩ : Addr).add j) = some u := by
    intro j u hj
    rw [Addr.add_lit, Nat.zero_add, cell_of_row _ _ _ _ _ _ hgv]
    simpa [Flo.cells] using hj
  have hone : ∀ u ∈ f.cells, u.oneCell' = true := fun u hu => flatF_one [f] u (by simpa [flatF] using hu)
  have hvH := Lib.hid hv
  have hvsH := Lib.hid hvs
  have hlb := fun j hj => (ownsRow_block hv (g := j) hj).1
  have hlbH := Lib.hid hlb
  clear hvs hgv hlb
  rcases hv.shape with ⟨rfl, rfl⟩ | ⟨g, cap, cur, rfl, hgb, hgc, hcap, hmx, hsz, htk⟩
  · go_enter Tryd.func60, Tryd.ntmps60
    go_wp2_with (first
      | (at_builtin; refine wpList_append_own_at _ rfl _ _ 37 rfl base 39 i0 (.agg #[.string ⟨#[]⟩, .int .i64 0]) 2 24 Tryd.underlying37 hi hz0 hz1 hz2 rfl (by decide) _ _ _ rfl hvH.out ⟨gv, 0, none⟩ 1 1 f.cells rfl ?hl ?c1 ?c2 ?c3 ?c4 ?c5 ?_)
      | go_in)
    case hl => rfl
    case c1 => exact hvsH.out
    case c2 => exact hone
    case c3 => decide
    case c4 => decide
    case c5 => exact hbase
    intro v1 w1 hown hgrow _ _
    have hfin := Lib.hid (show FlRow w1 base v1 ([] ++ [f]) from by unfold FlRow; rw [flatF_append]; simpa [flatF] using hown)
    have hKf := Lib.hid ((Below.refl base w).grown hgrow hbase hlbH.out)
    clear hown hgrow
    go_wp2_with fail
    go_ret
    exact ⟨_, rfl, hfin.out, hKf.out⟩
  · unfold maxLen at hmx
    clear hgc hsz htk
    by_cases hcl : cap = L.length
    all_goals
      go_enter Tryd.func60, Tryd.ntmps60
      go_wp2_with (first
        | (at_builtin; refine wpList_append_own_at _ rfl _ _ 37 rfl base 39 i0 (.agg #[.string ⟨#[]⟩, .int .i64 0]) 2 24 Tryd.underlying37 hi hz0 hz1 hz2 rfl (by decide) _ _ _ rfl hvH.out ⟨gv, 0, none⟩ 1 1 f.cells rfl ?hl ?c1 ?c2 ?c3 ?c4 ?c5 ?_)
        | go_in)
      case hl => rfl
      case c1 => exact hvsH.out
      case c2 => exact hone
      case c3 => unfold maxLen; omega
      case c4 => omega
      case c5 => exact hbase
      intro v1 w1 hown hgrow _ _
      have hfin := Lib.hid (show FlRow w1 base v1 (L ++ [f]) from by unfold FlRow; rw [flatF_append, List.length_append]; simpa [flatF] using hown)
      have hKf := Lib.hid ((Below.refl base w).grown hgrow hbase hlbH.out)
      clear hown hgrow
      go_wp2_with fail
      go_ret
      exact ⟨_, rfl, hfin.out, hKf.out⟩
end Go.Proofs.YtphjjaanclpagaaDoor
