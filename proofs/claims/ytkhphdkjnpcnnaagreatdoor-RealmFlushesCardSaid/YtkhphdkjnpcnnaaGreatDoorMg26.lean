/- FloI, FloI2, FloC -/
import Derived.Test.YtkhphdkjnpcnnaaGreatDoorMg25
import Derived.Lib.AppendZerosOnto
import Derived.Lib.Overlaps
import Derived.Laws.NewBlocks
import Derived.Deep.RegionLaw
import Derived.Shelf.Spec.SlicesInsert
import Derived.Test.YtkhphdkjnpcnnaaGreatDoorShelf2
import Derived.Deep.RegionHeld3
/- slices.Insert at floors, walked: at the end; in place; into a new row. -/
namespace Go.Proofs.YtkhphdkjnpcnnaaGreatDoor set_option linter.unusedVariables false set_option linter.unusedSimpArgs false
open Go.RowKit

theorem info_floor : (Tryz.prog.info? 113).map (fun i => (i.zero, i.size, i.bytes)) = some (some (.agg #[.string ⟨#[]⟩, .int .i64 0]), 2, 24) := by kernel_rfl
theorem size_floor (w : World) : (Go.sizeOf 113).run Tryz.prog w = .ok 2 w := by kernel_rfl
/-- copy, between rows of floors. -/
theorem run_copy_floors (w : World) (ty : TypeId) (b o dLen dCap : Nat) (a : Addr) (sLen sCap : Nat) (cs : List Value) (hn : cs.length = Nat.min sLen dLen * 2)
    (hsrc : ∀ j v, cs[j]? = some v → w.cell? (a.add j) = some v) (hc : ∀ j, j < cs.length → (w.cell? ⟨b, o + j, none⟩).isSome = true) (hf : ∀ j, j < cs.length → w.frozen? ⟨b, o + j, none⟩ = false) (h1 : ∀ v ∈ cs, v.oneCell' = true) :
    (Builtin.copy_ #[54, 54] ty #[.slice (some ⟨b, o, none⟩) dLen dCap, .slice (some a) sLen sCap]).run Tryz.prog w = .ok (goInt (Nat.min sLen dLen)) (w.setCells b o cs) := by
  have hl := run_loadCells_list (P := Tryz.prog) w a cs hsrc
  have hst := run_storeCells_cells (P := Tryz.prog) b o cs 0 w (by simpa using hc) (by simpa using hf) h1
  obtain ⟨i0, hi, hz0, hz1, hz2⟩ := info_parts info_floor
  rw [hn] at hl
  simp only [Nat.add_zero] at hst
  simp only [Builtin.copy_, Builtin.lenOf, Builtin.firstCells, sizeOf, typeInfo, hi, hz1]
  simp [run_underlying Tryz.underlying54, Builtin.lenOf, Builtin.firstCells, sizeOf, typeInfo, hi, hz1, hl, hst]
theorem shape_row {w : World} {g : Nat} {cs : Array Value} {T : TypeId} (h : w.heap[g]? = some (.cells cs T (0, 0))) : w.shape? g = some (T, cs.size) := by
  simp [World.shape?, h]
theorem take_two {α : Type} {A B C : List α} {n : Nat} (h : n = A.length + B.length) : (A ++ (B ++ C)).take n = A ++ B := by
  rw [← List.append_assoc, h, ← List.length_append, List.take_left]
theorem splice_shift {C F c : List Value} {n k : Nat} (hF : C.take (n * 2) = F) (hl : F.length = n * 2) (hk : k ≤ n) (hc : c.length = 2) {C1 C2 : List Value}
    (h1 : C1 = C.take ((k + 1) * 2) ++ F.drop (k * 2) ++ C.drop ((k + 1) * 2 + (F.drop (k * 2)).length)) (h2 : C2 = C1.take (k * 2) ++ c ++ C1.drop (k * 2 + c.length)) (hC : (n + 1) * 2 ≤ C.length) :
    C2.take ((n + 1) * 2) = F.take (k * 2) ++ c ++ F.drop (k * 2) := by
  have e1 : C1.take (k * 2) = F.take (k * 2) := by
    rw [h1, List.append_assoc, List.take_append_of_le_length (by rw [List.length_take]; omega), List.take_take, ← hF, List.take_take, Nat.min_eq_left (by omega), Nat.min_eq_left (by omega)]
  have e2 : C1.drop (k * 2 + c.length) = F.drop (k * 2) ++ C.drop ((k + 1) * 2 + (F.drop (k * 2)).length) := by
    rw [h1, hc, List.append_assoc, List.drop_append_of_le_length (by rw [List.length_take]; omega), List.drop_of_length_le (by rw [List.length_take]; omega), List.nil_append]
  rw [h2, e1, e2, ← List.append_assoc]
  rw [List.take_append_of_le_length (by simp only [List.length_append, List.length_take, List.length_drop]; omega), List.take_of_length_le (by simp only [List.length_append, List.length_take, List.length_drop]; omega)]
theorem splice_grow {C F c : List Value} {n k : Nat} (hF : C.take (k * 2) = F.take (k * 2)) (hl : F.length = n * 2) (hk : k ≤ n) (hc : c.length = 2) {C1 C2 : List Value}
    (h1 : C1 = C.take (k * 2) ++ c ++ C.drop (k * 2 + c.length)) (h2 : C2 = C1.take ((k + 1) * 2) ++ F.drop (k * 2) ++ C1.drop ((k + 1) * 2 + (F.drop (k * 2)).length)) (hC : (n + 1) * 2 ≤ C.length) :
    C2.take ((n + 1) * 2) = F.take (k * 2) ++ c ++ F.drop (k * 2) := by
  have e1 : C1.take ((k + 1) * 2) = F.take (k * 2) ++ c := by
    rw [h1, hF, List.take_append_of_le_length (by simp only [List.length_append, List.length_take]; omega), List.take_of_length_le (by simp only [List.length_append, List.length_take]; omega)]
  rw [h2, e1]
  rw [List.take_append_of_le_length (by simp only [List.length_append, List.length_take, List.length_drop]; omega), List.take_of_length_le (by simp only [List.length_append, List.length_take, List.length_drop]; omega)]
theorem flatF_put (L : List Flo) (k : Nat) (f : Flo) : flatF (L.take k ++ f :: L.drop k) = (flatF L).take (k * 2) ++ f.cells ++ (flatF L).drop (k * 2) := by
  rw [flatF_append, flatF_take]
  show _ ++ (f.cells ++ flatF (L.drop k)) = _
  rw [flatF_drop, List.append_assoc]
theorem put_length (L : List Flo) (k : Nat) (f : Flo) (hk : k ≤ L.length) : (L.take k ++ f :: L.drop k).length = L.length + 1 := by
  simp only [List.length_append, List.length_cons, List.length_take, List.length_drop]
  omega

set_option maxHeartbeats 4000000 in
set_option maxRecDepth 100000 in
theorem ins_end (base : Nat) (v : Value) (L : List Flo) (f : Flo) (gv : Nat) (w : World) (hv : FlRow w base v L) (hL : L.length ≤ 1000)
    (hgv : w.heap[gv]? = some (.cells #[.string (bs f.who), .int .i64 f.ep] 113 (0, 0))) (hbase : base ≤ w.heap.size) :
    Calls Tryz.prog 111 #[v, .int .i64 (L.length : Int), .slice (some ⟨gv, 0, none⟩) 1 1] w fun e w' => ∃ v', e = .returned v' ∧ FlRow w' base v' (L ++ [f]) ∧ Below base w w' := by
  obtain ⟨i0, hi, hz0, hz1, hz2⟩ := info_parts info_floor
  have hvs : ∀ j u, f.cells[j]? = some u → w.cell? ((⟨gv, 0, none⟩ : Addr).add j) = some u := by
    intro j u hj
    rw [Addr.add_lit, Nat.zero_add, cell_of_row _ _ _ _ _ _ hgv]
    simpa [Flo.cells] using hj
  have hone : ∀ u ∈ f.cells, u.oneCell' = true := fun u hu => flatF_one [f] u (by simpa [flatF] using hu)
  have hvH := Lib.hid hv
  have hvsH := Lib.hid hvs
  have hlb := fun j hj => (ownsRow_block hv (g := j) hj).1
  have hlbH := Lib.hid hlb
  clear hvs hgv hlb
  rcases hv.shape with ⟨rfl, rfl⟩ | ⟨g, cap, cur, rfl, hgb, hgc, hcap, hmx, hsz, htk⟩
  · go_enter Tryz.func111, Tryz.ntmps111
    go_wp2_with (first
      | (at_builtin; refine wpList_append_own_at _ rfl _ _ 54 rfl base 113 i0 (.agg #[.string ⟨#[]⟩, .int .i64 0]) 2 24 Tryz.underlying54 hi hz0 hz1 hz2 rfl (by decide) _ _ _ rfl hvH.out ⟨gv, 0, none⟩ 1 1 f.cells rfl ?hl ?c1 ?c2 ?c3 ?c4 ?c5 ?_)
      | go_in)
    case hl => rfl
    case c1 => exact hvsH.out
    case c2 => exact hone
    case c3 => decide
    case c4 => decide
    case c5 => exact hbase
    intro v1 w1 hown hgrow _ _
    have hfin := Lib.hid (show FlRow w1 base v1 ([] ++ [f]) from by unfold FlRow; rw [flatF_append]; simpa [flatF] using hown)
    have hKf := Lib.hid ((Below.refl base w).grown hgrow hbase hlbH.out)
    clear hown hgrow
    go_wp2_with fail
    go_ret
    exact ⟨_, rfl, hfin.out, hKf.out⟩
  · unfold maxLen at hmx
    clear hgc hsz htk
    by_cases hcl : cap = L.length
    all_goals
      go_enter Tryz.func111, Tryz.ntmps111
      go_wp2_with (first
        | (at_builtin; refine wpList_append_own_at _ rfl _ _ 54 rfl base 113 i0 (.agg #[.string ⟨#[]⟩, .int .i64 0]) 2 24 Tryz.underlying54 hi hz0 hz1 hz2 rfl (by decide) _ _ _ rfl hvH.out ⟨gv, 0, none⟩ 1 1 f.cells rfl ?hl ?c1 ?c2 ?c3 ?c4 ?c5 ?_)
        | go_in)
      case hl => rfl
      case c1 => exact hvsH.out
      case c2 => exact hone
      case c3 => unfold maxLen; omega
      case c4 => omega
      case c5 => exact hbase
      intro v1 w1 hown hgrow _ _
      have hfin := Lib.hid (show FlRow w1 base v1 (L ++ [f]) from by unfold FlRow; rw [flatF_append, List.length_append]; simpa [flatF] using hown)
      have hKf := Lib.hid ((Below.refl base w).grown hgrow hbase hlbH.out)
      clear hown hgrow
      go_wp2_with fail
      go_ret
      exact ⟨_, rfl, hfin.out, hKf.out⟩
end Go.Proofs.YtkhphdkjnpcnnaaGreatDoor

/- slices.Insert at floors, walked: in place, and into a new row; and all roads as one. -/
namespace Go.Proofs.YtkhphdkjnpcnnaaGreatDoor set_option linter.unusedVariables false set_option linter.unusedSimpArgs false
open Go.RowKit Go.Lib

theorem isSome_cells (b : Nat) (vs : List Value) (o : Nat) (w : World) (h : ∀ j, j < vs.length → (w.cell? ⟨b, o + j, none⟩).isSome = true) (k : Nat) (hk : (w.cell? ⟨b, k, none⟩).isSome = true) : ((w.setCells b o vs).cell? ⟨b, k, none⟩).isSome = true := isSome_setCells b vs o w h k hk
set_option maxHeartbeats 4000000 in
set_option maxRecDepth 100000 in
theorem ins_shift0 (b n c i vb m : Nat) (cs vs : List Value) (w : World) (hi : i < n) (hm : 0 < m) (hroom : n + m ≤ c) (hc63 : c ≤ 9223372036854775807) (hvb : vb ≠ b)
    (hcl : cs.length = n * 2) (hvl : vs.length = m * 2)
    (hcs : ∀ j v, cs[j]? = some v → w.cell? ⟨b, j, none⟩ = some v) (hsp : ∀ j, j < (n + m) * 2 → (w.cell? ⟨b, j, none⟩).isSome = true) (hfz : ∀ j, j < (n + m) * 2 → w.frozen? ⟨b, j, none⟩ = false)
    (hvs : ∀ j v, vs[j]? = some v → w.cell? ⟨vb, j, none⟩ = some v) (h1c : ∀ v ∈ cs, v.oneCell' = true) (h1v : ∀ v ∈ vs, v.oneCell' = true)
    (tA tB : TypeId) (kA kB : Nat) (hsa : w.shape? vb = some (tA, kA)) (hsb : w.shape? b = some (tB, kB)) (hkB : kB ≠ 0) (hfa : w.frozen? ⟨vb, 0, none⟩ = false) (hfe : w.frozen? ⟨vb, kA, none⟩ = false) :
    Calls Tryz.prog 111 #[.slice (some ⟨b, 0, none⟩) n c, .int .i64 i, .slice (some ⟨vb, 0, none⟩) m m] w fun e w' =>
      e = .returned (.slice (some ⟨b, 0, none⟩) (n + m) c) ∧ w' = (w.drew.setCells b ((i + m) * 2) (cs.drop (i * 2))).setCells b (i * 2) vs := by
  have hz1 : ¬ ((m : Int) = 0) := by omega
  have hz2 : ¬ ((i : Int) = (n : Int)) := by omega
  have hov : ∀ lb cb, (callFunc 148 #[.slice (some ⟨vb, 0, none⟩) m m, .slice (some ⟨b, (i + m) * 2, none⟩) lb cb]).run Tryz.prog w = .ok (.value (.bool false)) w := fun lb cb => by
    rw [run_callFunc_extern Tryz.func148 (by kernel_rfl) (by kernel_rfl) (by kernel_rfl) (e := Extern.SlicesOverlaps.overlaps #[54, 54] #[4]) (by kernel_rfl),
      Lib.run_overlaps_apart w 54 4 113 Tryz.underlying54 2 size_floor ⟨vb, 0, none⟩ ⟨b, (i + m) * 2, none⟩ m m lb cb hvb tA tB kA kB hsa hsb hkB hfa hfe]
    rfl
  have hdl : (cs.drop (i * 2)).length = (n - i) * 2 := by rw [List.length_drop, hcl]; omega
  have hw1 : IntKind.i64.wrap ((i : Int) + (m : Int)) = (i : Int) + (m : Int) := by rw [IntKind.wrap_i64]; omega
  have hb1 : (0 : Int) ≤ (i : Int) + (m : Int) := by omega
  have hin : i ≤ n := by omega
  have htn : ((i : Int) + (m : Int)).toNat = i + m := by omega
  have hb2 : ¬ (c = i + m) := by omega
  have hb3 : (i : Int) ≤ (n : Int) + (m : Int) := by omega
  have hb4 : ¬ (c = i) := by omega
  have hcp1 : ∀ ty dc sc, (Builtin.copy_ #[54, 54] ty #[.slice (some ⟨b, (i + m) * 2, none⟩) (n + m - (i + m)) dc, .slice (some ⟨b, i * 2, none⟩) (n + m - i) sc]).run Tryz.prog w.drew = .ok (goInt (Nat.min (n + m - i) (n + m - (i + m)))) (w.drew.setCells b ((i + m) * 2) (cs.drop (i * 2))) := fun ty dc sc =>
    run_copy_floors w.drew ty b ((i + m) * 2) (n + m - (i + m)) dc ⟨b, i * 2, none⟩ (n + m - i) sc (cs.drop (i * 2)) (by rw [hdl]; simp only [Nat.min_def]; split <;> omega)
      (fun j v hj => by rw [Addr.add_lit]; exact hcs (i * 2 + j) v (by rwa [List.getElem?_drop] at hj))
      (fun j hj => hsp _ (by omega)) (fun j hj => hfz _ (by omega)) (fun v hv => h1c v (List.mem_of_mem_drop hv))
  obtain ⟨W1, hW1⟩ : ∃ W1, W1 = w.drew.setCells b ((i + m) * 2) (cs.drop (i * 2)) := ⟨_, rfl⟩
  have hsp1 : ∀ k, k < (n + m) * 2 → (W1.cell? ⟨b, k, none⟩).isSome = true := fun k hk => by
    rw [hW1]
    exact isSome_setCells b (cs.drop (i * 2)) ((i + m) * 2) w.drew (fun j hj => hsp ((i + m) * 2 + j) (by omega)) k (hsp k hk)
  have hcp2 : ∀ (W : World), (∀ x, W.cell? x = W1.cell? x) → (∀ x, W.frozen? x = W1.frozen? x) → ∀ ty dc, (Builtin.copy_ #[54, 54] ty #[.slice (some ⟨b, i * 2, none⟩) (n + m - i) dc, .slice (some ⟨vb, 0, none⟩) m m]).run Tryz.prog W = .ok (goInt (Nat.min m (n + m - i))) (W.setCells b (i * 2) vs) := fun W hWc hWf ty dc =>
    run_copy_floors W ty b (i * 2) (n + m - i) dc ⟨vb, 0, none⟩ m m vs (by rw [hvl]; simp only [Nat.min_def]; split <;> omega)
      (fun j v hj => by
        rw [Addr.add_lit, Nat.zero_add, hWc, hW1, World.cell?_setCells_out b _ _ _ _ (fun h _ => absurd h hvb)]
        exact hvs j v hj)
      (fun j hj => by rw [hWc]; exact hsp1 _ (by omega)) (fun j hj => by rw [hWf, hW1, World.frozen?_setCells]; exact hfz _ (by omega)) h1v
  rw [← hW1] at hcp1
  go_enter Tryz.func111, Tryz.ntmps111
  go_wp2_with (simp only [hov])
  go_region_law (refine step_copy_runI rfl _ _ 54 54 rfl _ _ (by simp [Act.eval, Act.put]) (by simp [Act.eval, Act.put]) (hcp1 _ _ _) ?_)
  go_wp2_with (at_builtin; refine wpList_copy_runI _ rfl _ _ 54 54 rfl _ _ rfl rfl (hcp2 _ (fun _ => rfl) (fun _ => rfl) _ _) ?_)
  go_ret
  first | exact ⟨rfl, rfl⟩ | exact ⟨rfl, by rw [hW1]⟩

set_option maxHeartbeats 4000000 in
set_option maxRecDepth 100000 in
theorem ins_grow0 (b n c i vb m : Nat) (cs vs : List Value) (w : World) (hi : i < n) (hm : 0 < m) (hnc : n ≤ c) (hroom : c < n + m) (hbig : (n + m) * 24 ≤ 140737488355328)
    (hcl : cs.length = n * 2) (hvl : vs.length = m * 2)
    (hcs : ∀ j v, cs[j]? = some v → w.cell? ⟨b, j, none⟩ = some v)
    (hvs : ∀ j v, vs[j]? = some v → w.cell? ⟨vb, j, none⟩ = some v) (h1c : ∀ v ∈ cs, v.oneCell' = true) (h1v : ∀ v ∈ vs, v.oneCell' = true) :
    Calls Tryz.prog 111 #[.slice (some ⟨b, 0, none⟩) n c, .int .i64 i, .slice (some ⟨vb, 0, none⟩) m m] w fun e w' =>
      ∃ (G : Nat) (R : Array Value), e = .returned (.slice (some ⟨w.heap.size, 0, none⟩) (n + m) G) ∧ n + m ≤ G ∧ G ≤ maxLen ∧ R.size = G * 2 ∧ R.toList.take (i * 2) = cs.take (i * 2) ∧
      w' = (((w.alloc (.cells R 113)).drew.setCells w.heap.size (i * 2) vs).drew).setCells w.heap.size ((i + m) * 2) (cs.drop (i * 2)) := by
  obtain ⟨i0, hi0, hz0, hzs, hzb⟩ := info_parts info_floor
  have hz1 : ¬ ((m : Int) = 0) := by omega
  have hz2 : ¬ ((i : Int) = (n : Int)) := by omega
  have hz3 : (c : Int) < (n : Int) + (m : Int) := by omega
  have hbw : b < w.heap.size := block_lt_of_cell (hcs 0 _ (List.getElem?_eq_getElem (by omega)))
  have hvw : vb < w.heap.size := block_lt_of_cell (hvs 0 _ (List.getElem?_eq_getElem (by omega)))
  have hkk : (n : Int) + (m : Int) - (i : Int) = ((n + m - i : Nat) : Int) := by omega
  have hik : i + (n + m - i) = n + m := by omega
  have hold : (Builtin.firstCells i0.size i (.slice (some ⟨b, 0, none⟩) i c)).run Tryz.prog w.drew = .ok (cs.take (i * 2)).toArray w.drew := by
    rw [hzs]
    exact run_firstCells_some w.drew 2 i ⟨b, 0, none⟩ i c (cs.take (i * 2)) (by rw [List.length_take]; omega) (fun j v hj => by
      rw [Addr.add_lit, Nat.zero_add]
      rw [List.getElem?_take] at hj
      split at hj
      · exact hcs j v hj
      · cases hj)
  have hrz : ∀ ty, (Builtin.append_ #[54, 3] ty #[.slice (some ⟨b, 0, none⟩) i c, .int .i64 ((n : Int) + (m : Int) - (i : Int))]).run Tryz.prog w =
      .ok (.slice (some ⟨w.heap.size, 0, none⟩) (n + m) (grownCap w (n + m) c 113)) (w.drew.alloc (.cells ((cs.take (i * 2)).toArray ++ Builtin.zeroCells (Value.agg #[.string ⟨#[]⟩, .int .i64 0]).cells (n + m - i) ++ Builtin.zeroCells (Value.agg #[.string ⟨#[]⟩, .int .i64 0]).cells (grownCap w (n + m) c 113 - (n + m))) 113)) := fun ty => by
    have h := Lib.run_append_grow_zeros w 54 3 ty 113 i0 _ .i64 .i64 Tryz.underlying54 Tryz.underlying3 hi0 hz0 (some ⟨b, 0, none⟩) i c (cs.take (i * 2)) hold (n + m - i) (by omega) (by omega) (by omega) (by omega) (by rw [hzb]; omega) (by rw [hzb, hik]; exact growslice_fits hroom hbig)
    rw [hik] at h
    rw [hkk]
    exact h
  obtain ⟨G, hG⟩ : ∃ G, G = grownCap w (n + m) c 113 := ⟨_, rfl⟩
  have hGn : n + m ≤ G := by rw [hG]; exact grownCap_ge w _ _ _
  have hGmx : G ≤ maxLen := by
    have := grownCap_le_maxLen w (n + m) c 113 (by unfold maxLen; omega)
    rwa [← hG] at this
  obtain ⟨ROW, hROW⟩ : ∃ ROW : Array Value, ROW = (cs.take (i * 2)).toArray ++ Builtin.zeroCells (Value.agg #[.string ⟨#[]⟩, .int .i64 0]).cells (n + m - i) ++ Builtin.zeroCells (Value.agg #[.string ⟨#[]⟩, .int .i64 0]).cells (G - (n + m)) := ⟨_, rfl⟩
  rw [← hG] at hrz
  rw [← hROW] at hrz
  have hzz : (Value.agg #[.string ⟨#[]⟩, .int .i64 0]).cells.size = 2 := rfl
  have hRs : ROW.size = G * 2 := by
    rw [hROW, Array.size_append, Array.size_append, size_zeroCells, size_zeroCells, hzz, List.size_toArray, List.length_take]
    omega
  have hRt : ROW.toList.take (i * 2) = cs.take (i * 2) := by
    rw [hROW, Array.toList_append, Array.toList_append, List.append_assoc]
    rw [List.take_append_of_le_length (by simp only [List.length_take]; omega), List.take_take, Nat.min_self]
  obtain ⟨W1, hW1⟩ : ∃ W1, W1 = w.drew.alloc (.cells ROW 113) := ⟨_, rfl⟩
  rw [← hW1] at hrz
  have hN : ∀ j, j < (n + m) * 2 → (W1.cell? ⟨w.heap.size, j, none⟩).isSome = true := fun j hj => by
    rw [hW1, World.cell?_alloc_at (w := w.drew) ROW _ w.heap.size j rfl, Array.getElem?_eq_getElem (by omega)]; rfl
  have hNf : ∀ j, W1.frozen? ⟨w.heap.size, j, none⟩ = false := fun j => by rw [hW1]; exact World.frozen?_alloc_at (w := w.drew) ROW _ w.heap.size j rfl
  have hOb : ∀ j v, w.cell? ⟨b, j, none⟩ = some v → W1.cell? ⟨b, j, none⟩ = some v := fun j v h => by rw [hW1, World.cell?_alloc_past (w := w.drew) _ b j hbw]; exact h
  have hOv : ∀ j v, w.cell? ⟨vb, j, none⟩ = some v → W1.cell? ⟨vb, j, none⟩ = some v := fun j v h => by rw [hW1, World.cell?_alloc_past (w := w.drew) _ vb j hvw]; exact h
  have hcpA : ∀ (W : World), (∀ x, W.cell? x = W1.cell? x) → (∀ x, W.frozen? x = W1.frozen? x) → ∀ ty dc, (Builtin.copy_ #[54, 54] ty #[.slice (some ⟨w.heap.size, i * 2, none⟩) (n + m - i) dc, .slice (some ⟨vb, 0, none⟩) m m]).run Tryz.prog W = .ok (goInt (Nat.min m (n + m - i))) (W.setCells w.heap.size (i * 2) vs) := fun W hWc hWf ty dc =>
    run_copy_floors W ty w.heap.size (i * 2) (n + m - i) dc ⟨vb, 0, none⟩ m m vs (by rw [hvl]; simp only [Nat.min_def]; split <;> omega)
      (fun j v hj => by rw [Addr.add_lit, Nat.zero_add, hWc]; exact hOv _ v (hvs j v hj))
      (fun j hj => by rw [hWc]; exact hN _ (by omega)) (fun j hj => by rw [hWf]; exact hNf _) h1v
  have hG63 : G ≤ 9223372036854775807 := by
    unfold maxLen at hGmx
    omega
  have hGi : ¬ (G = i) := by omega
  have hGim : ¬ (G = i + m) := by omega
  have hci : ¬ (c = i) := by omega
  have hbN : b ≠ w.heap.size := by omega
  have hdl : (cs.drop (i * 2)).length = (n - i) * 2 := by rw [List.length_drop, hcl]; omega
  have hcpB : ∀ (W : World), (∀ x, W.cell? x = (W1.setCells w.heap.size (i * 2) vs).cell? x) → (∀ x, W.frozen? x = (W1.setCells w.heap.size (i * 2) vs).frozen? x) → ∀ ty dc sc, (Builtin.copy_ #[54, 54] ty #[.slice (some ⟨w.heap.size, (i + m) * 2, none⟩) (n + m - (i + m)) dc, .slice (some ⟨b, i * 2, none⟩) (n - i) sc]).run Tryz.prog W = .ok (goInt (Nat.min (n - i) (n + m - (i + m)))) (W.setCells w.heap.size ((i + m) * 2) (cs.drop (i * 2))) := fun W hWc hWf ty dc sc =>
    run_copy_floors W ty w.heap.size ((i + m) * 2) (n + m - (i + m)) dc ⟨b, i * 2, none⟩ (n - i) sc (cs.drop (i * 2)) (by rw [hdl]; simp only [Nat.min_def]; split <;> omega)
      (fun j v hj => by
        rw [Addr.add_lit, hWc, World.cell?_setCells_out _ _ _ _ _ (fun h _ => absurd h hbN)]
        exact hOb _ v (hcs (i * 2 + j) v (by rwa [List.getElem?_drop] at hj)))
      (fun j hj => by rw [hWc]; exact isSome_setCells _ _ _ _ (fun t ht => hN _ (by omega)) _ (hN _ (by omega)))
      (fun j hj => by rw [hWf, World.frozen?_setCells]; exact hNf _) (fun v hv => h1c v (List.mem_of_mem_drop hv))
  subst hW1
  have hE1 : ∀ x, ((w.alloc (.cells ROW 113)).drew).cell? x = (w.drew.alloc (.cells ROW 113)).cell? x := fun x => rfl
  have hE2 : ∀ x, ((w.alloc (.cells ROW 113)).drew).frozen? x = (w.drew.alloc (.cells ROW 113)).frozen? x := fun x => rfl
  have hF1 : ∀ x, (((w.alloc (.cells ROW 113)).drew.setCells w.heap.size (i * 2) vs).drew).cell? x = ((w.drew.alloc (.cells ROW 113)).setCells w.heap.size (i * 2) vs).cell? x := fun x => rfl
  have hF2 : ∀ x, (((w.alloc (.cells ROW 113)).drew.setCells w.heap.size (i * 2) vs).drew).frozen? x = ((w.drew.alloc (.cells ROW 113)).setCells w.heap.size (i * 2) vs).frozen? x := fun x => rfl
  have hw1 : IntKind.i64.wrap ((i : Int) + (m : Int)) = (i : Int) + (m : Int) := by rw [IntKind.wrap_i64]; omega
  have hb1 : (0 : Int) ≤ (i : Int) + (m : Int) := by omega
  have hin : i ≤ n := by omega
  have htn : ((i : Int) + (m : Int)).toNat = i + m := by omega
  have hb3 : (i : Int) ≤ (n : Int) := by omega
  clear hkk hik hold hROW hG
  go_enter Tryz.func111, Tryz.ntmps111
  go_wp2_with (first
    | (at_builtin; refine Lib.wpList_append_run _ rfl _ _ _ _ rfl _ _ rfl rfl _ _ (hrz _) ?_)
    | (at_builtin; refine wpList_copy_runI _ rfl _ _ 54 54 rfl _ _ rfl rfl (hcpA _ hE1 hE2 _ _) ?_)
    | (at_builtin; refine wpList_copy_runI _ rfl _ _ 54 54 rfl _ _ rfl rfl (hcpB _ (fun _ => rfl) (fun _ => rfl) _ _ _) ?_))
  go_region_law (refine step_copy_runI rfl _ _ 54 54 rfl (.slice (some ⟨w.heap.size, (i + m) * 2, none⟩) (n + m - (i + m)) (G - (i + m))) (.slice (some ⟨b, i * 2, none⟩) (n - i) (c - i)) (by simp [Act.eval, Act.put]) (by simp [Act.eval, Act.put]) (hcpB _ hF1 hF2 3 (G - (i + m)) (c - i)) ?_)
  go_wp2
  go_ret
  exact ⟨_, _, rfl, hGn, hGmx, hRs, hRt, rfl⟩
theorem below_alloc1 {B : Nat} {a w : World} (h : Below B a w) (hB : B ≤ w.heap.size) (o : Obj) : Below B a (w.alloc o) := h.alloc hB o
/-- slices.Insert of one floor. -/
theorem ins_flo (base : Nat) (v : Value) (L : List Flo) (k : Nat) (f : Flo) (gv : Nat) (w : World) (hv : FlRow w base v L) (hL : L.length ≤ 1000) (hk : k ≤ L.length)
    (hgv : w.heap[gv]? = some (.cells #[.string (bs f.who), .int .i64 f.ep] 113 (0, 0))) (hne : ∀ g, v.ownBlock = some g → gv ≠ g) (hbase : base ≤ w.heap.size) :
    Calls Tryz.prog 111 #[v, .int .i64 (k : Int), .slice (some ⟨gv, 0, none⟩) 1 1] w fun e w' => ∃ v', e = .returned v' ∧ FlRow w' base v' (L.take k ++ f :: L.drop k) ∧ Below base w w' := by
  rcases Nat.lt_or_ge k L.length with hlt | hge
  · have hone : ∀ u ∈ f.cells, u.oneCell' = true := fun u hu => flatF_one [f] u (by simpa [flatF] using hu)
    have hfl : (flatF L).length = L.length * 2 := flatF_len L
    have hcv : ∀ j u, f.cells[j]? = some u → w.cell? ⟨gv, j, none⟩ = some u := by
      intro j u hj
      rw [cell_of_row _ _ _ _ _ _ hgv]
      simpa [Flo.cells] using hj
    rcases hv.shape with ⟨rfl, rfl⟩ | ⟨g, cap, cur, rfl, hgb, hgc, hcap, hmx, hsz, htk⟩
    · exact absurd hlt (Nat.not_lt_zero _)
    have hgg : gv ≠ g := hne g rfl
    have hcells := hv.cells
    have hlen := put_length L k f hk
    by_cases hroom : L.length + 1 ≤ cap
    · have hsp : ∀ j, j < (L.length + 1) * 2 → (w.cell? ⟨g, j, none⟩).isSome = true := fun j hj => by
        rw [cell_of_row w g _ _ _ _ hgc, Array.getElem?_eq_getElem (by rw [hsz]; omega)]; rfl
      refine (ins_shift0 g L.length cap k gv 1 (flatF L) f.cells w hlt (by decide) hroom (by unfold maxLen at hmx; omega) hgg hfl rfl hcells hsp (fun j _ => frozen_of_row _ _ _ _ _ hgc) hcv (flatF_one L) hone
        _ _ _ _ (shape_row hgv) (shape_row hgc) (by rw [hsz]; omega) (frozen_of_row _ _ _ _ _ hgv) (frozen_of_row _ _ _ _ _ hgv)).mono ?_
      rintro e w' ⟨rfl, rfl⟩
      obtain ⟨c1, a1, a2, a3⟩ := heap_setCells g 113 ((flatF L).drop (k * 2)) ((k + 1) * 2) w.drew cur hgc (by rw [List.length_drop, hfl, hsz]; omega)
      obtain ⟨c2, b1, b2, b3⟩ := heap_setCells g 113 f.cells (k * 2) _ c1 a1 (by rw [a2, hsz]; simp only [Flo.cells, List.length_cons, List.length_nil]; omega)
      refine ⟨_, rfl, ?_, below_setCells g hgb _ _ _ (below_setCells g hgb _ _ _ ((Below.refl _ _).drew))⟩
      unfold FlRow
      rw [hlen]
      refine ⟨by rw [flatF_len, hlen], .inr ⟨g, cap, c2, rfl, hgb, b1, hroom, hmx, by rw [b2, a2, hsz], ?_⟩⟩
      rw [flatF_put]
      exact splice_shift htk hfl hk rfl a3 b3 (by have e : cur.toList.length = cur.size := Array.length_toList; omega)
    · refine (ins_grow0 g L.length cap k gv 1 (flatF L) f.cells w hlt (by decide) hcap (by omega) (by omega) hfl rfl hcells hcv (flatF_one L) hone).mono ?_
      rintro e w' ⟨G, R, rfl, hG, hGm, hR, hRt, rfl⟩
      obtain ⟨c1, a1, a2, a3⟩ := heap_setCells w.heap.size 113 f.cells (k * 2) ((w.alloc (.cells R 113)).drew) R (heap_alloc_new w _) (by rw [hR]; simp only [Flo.cells, List.length_cons, List.length_nil]; omega)
      obtain ⟨c2, b1, b2, b3⟩ := heap_setCells w.heap.size 113 ((flatF L).drop (k * 2)) ((k + 1) * 2) (((w.alloc (.cells R 113)).drew.setCells w.heap.size (k * 2) f.cells).drew) c1 a1 (by rw [a2, hR, List.length_drop, hfl]; omega)
      refine ⟨_, rfl, ?_, below_setCells _ hbase _ _ _ ((below_setCells _ hbase _ _ _ (((Below.refl base w).alloc hbase _).drew)).drew)⟩
      unfold FlRow
      rw [hlen]
      refine ⟨by rw [flatF_len, hlen], .inr ⟨w.heap.size, G, c2, rfl, hbase, b1, hG, hGm, by rw [b2, a2, hR], ?_⟩⟩
      rw [flatF_put]
      exact splice_grow hRt hfl hk rfl a3 b3 (by have e : R.toList.length = R.size := Array.length_toList; omega)
  · have hke : k = L.length := by omega
    subst hke
    rw [List.take_length, List.drop_length]
    exact ins_end base v L f gv w hv hL hgv hbase
end Go.Proofs.YtkhphdkjnpcnnaaGreatDoor

/- slices.Clone at floors; strings.Compare; the search for a floor's place: walked. -/
namespace Go.Proofs.YtkhphdkjnpcnnaaGreatDoor set_option linter.unusedVariables false set_option linter.unusedSimpArgs false
open Go.RowKit Go.Shelf Go.Lib

set_option maxHeartbeats 2000000 in
set_option maxRecDepth 100000 in
theorem clone_flo (v : Value) (L : List Flo) (w : World) (hv : FloorsAt w v L) (hL : L.length ≤ 1000) :
    Calls Tryz.prog 105 #[v] w fun e w' => ∃ v', e = .returned v' ∧ FlRow w' w.heap.size v' L ∧ Below w.heap.size w w' := by
  obtain ⟨i0, hi, hz0, hz1, hz2⟩ := info_parts info_floor
  obtain ⟨a, c, rfl, hlen, hcap, hcs⟩ := hv
  have hq := fun (w : World) (a : Option Addr) (n c n' c' : Nat) => Lib.run_eql_slice_nil (P := Tryz.prog) w 54 _ a n c n' c' Tryz.underlying54
  cases a with
  | none =>
    have h0 : L = [] := by
      cases L with
      | nil => rfl
      | cons f r => obtain ⟨b, o, h, _⟩ := hcs 0 (by simp); cases h
    subst h0
    clear hcs
    go_enter Tryz.func105, Tryz.ntmps105
    go_wp2_with fail
    go_ret
    exact ⟨_, rfl, World.ownsRow_nil _ _ _ _, Below.refl _ _⟩
  | some ad =>
    have hcell : ∀ j u, (flatF L)[j]? = some u → w.cell? (ad.add j) = some u := by
      intro j u hj
      have hlt := (List.getElem?_eq_some_iff.1 hj).1
      rw [flatF_len] at hlt
      obtain ⟨b, o, he, h0, h1⟩ := hcs (j / 2) (by omega)
      cases he
      obtain ⟨f0, f1⟩ := flatF_get L (j / 2) (by omega)
      rw [Addr.add_lit]
      rcases (show j = j / 2 * 2 ∨ j = j / 2 * 2 + 1 by omega) with hj2 | hj2
      · rw [← hj2] at h0 f0
        rw [f0] at hj
        cases hj
        exact h0
      · rw [Nat.add_assoc] at h1
        rw [← hj2] at h1 f1
        rw [f1] at hj
        cases hj
        exact h1
    have hcell := Lib.hid hcell
    clear hcs
    go_enter Tryz.func105, Tryz.ntmps105
    go_wp2_with (first
      | (at_builtin; refine wpList_append_own_at _ rfl _ _ 54 rfl w.heap.size 113 i0 (.agg #[.string ⟨#[]⟩, .int .i64 0]) 2 24 Tryz.underlying54 hi hz0 hz1 hz2 rfl (by decide) _ _ _ rfl (World.ownsRow_made w #[] 0 (Nat.le_refl _) (Nat.zero_le _) (by simp)) ad L.length c (flatF L) rfl ?hl ?c1 ?c2 ?c3 ?c4 ?c5 ?_)
      | go_in)
    case hl => exact flatF_len L
    case c1 => exact fun j u hj => Lib.cell?_alloc_some _ (hcell.out j u hj)
    case c2 => exact flatF_one L
    case c3 => unfold maxLen; omega
    case c4 => omega
    case c5 => simp
    intro v1 w1 hown hgrow _ _
    have hfin := Lib.hid (show FlRow w1 w.heap.size v1 L from by unfold FlRow; simpa using hown)
    have hKf := Lib.hid (((Below.refl w.heap.size w).alloc (Nat.le_refl _) _).grown hgrow (by simp) (by intro k hk; simp [Value.ownBlock] at hk; omega))
    clear hown hgrow
    go_wp2_with fail
    go_ret
    exact ⟨_, rfl, hfin.out, hKf.out⟩

theorem compare_neg : ∀ a b : List UInt8, compareBytes a b < 0 ↔ a < b
  | [], [] => by simp [compareBytes]
  | [], y :: b => by simp [compareBytes]
  | x :: a, [] => by simp [compareBytes]
  | x :: a, y :: b => by
    unfold compareBytes
    rw [List.cons_lt_cons_iff]
    by_cases h : x < y
    · simp [h]
    · rw [if_neg h]
      by_cases h2 : y < x
      · have hne : ¬ x = y := fun e => by subst e; exact h h2
        rw [if_pos h2]
        simp [h, hne]
      · have he : x = y := UInt8.le_antisymm (UInt8.not_lt.1 h2) (UInt8.not_lt.1 h)
        rw [if_neg h2, compare_neg a b]
        simp [h, he]
theorem compare_str (a b : List UInt8) (w : World) :
    Calls Tryz.prog 110 #[.string (bs a), .string (bs b)] w fun e w' => e = .returned (.int .i64 (compareBytes a b)) ∧ w' = w :=
  (Any.strings_Compare Tryz.cmpL (bs a) (bs b) w).mono fun e w' h => ⟨by rw [h.1, bs_list, bs_list], h.2⟩
theorem compare_range : ∀ a b : List UInt8, -1 ≤ compareBytes a b ∧ compareBytes a b ≤ 1
  | [], [] => by simp [compareBytes]
  | [], y :: b => by simp [compareBytes]
  | x :: a, [] => by simp [compareBytes]
  | x :: a, y :: b => by
    unfold compareBytes
    split
    · simp
    · split
      · simp
      · exact compare_range a b
theorem insF_at (f : Flo) : ∀ (L : List Flo) (k : Nat), k ≤ L.length → (∀ q (h : q < L.length), q < k → L[q].who < f.who) → (∀ h : k < L.length, ¬ L[k].who < f.who) → insF f L = L.take k ++ f :: L.drop k
  | [], k, hk, _, _ => by
    have : k = 0 := by simpa using hk
    subst this
    rfl
  | g :: r, 0, _, _, h2 => by
    have h3 : ¬ g.who < f.who := h2 (by simp)
    unfold insF
    rw [if_neg h3]
    rfl
  | g :: r, k + 1, hk, h1, h2 => by
    have h3 : g.who < f.who := h1 0 (by simp) (by omega)
    unfold insF
    rw [if_pos h3, insF_at f r k (by simpa using hk) (fun q hq hqk => h1 (q + 1) (by simpa using hq) (by omega)) (fun h => h2 (by simpa using h))]
    rfl
end Go.Proofs.YtkhphdkjnpcnnaaGreatDoor
