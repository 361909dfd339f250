/- FloI2, FloC, FloC2 -/
import Derived.Test.YtadnjdchjoechaaGreatDoorMg10
import Derived.Test.YtadnjdchjoechaaGreatDoorShelf2
import Derived.Deep.RegionHeld3
import Derived.Laws.Shifts
import Derived.IntWalk
import Derived.Deep.QuietTactic
import Derived.BigQuiet
/- slices.Insert at floors, walked: in place, and into a new row; and all roads as one. -/
namespace Go.Proofs.YtadnjdchjoechaaGreatDoor
open Go.RowKit Go.Lib

theorem isSome_cells (b : Nat) (vs : List Value) (o : Nat) (w : World) (h : ∀ j, j < vs.length → (w.cell? ⟨b, o + j, none⟩).isSome = true) (k : Nat) (hk : (w.cell? ⟨b, k, none⟩).isSome = true) : ((w.setCells b o vs).cell? ⟨b, k, none⟩).isSome = true := isSome_setCells b vs o w h k hk
set_option maxHeartbeats 4000000 in
set_option maxRecDepth 100000 in
theorem ins_shift0 (b n c i vb m : Nat) (cs vs : List Value) (w : World) (hi : i < n) (hm : 0 < m) (hroom : n + m ≤ c) (hc63 : c ≤ 9223372036854775807) (hvb : vb ≠ b)
    (hcl : cs.length = n * 2) (hvl : vs.length = m * 2)
    (hcs : ∀ j v, cs[j]? = some v → w.cell? ⟨b, j, none⟩ = some v) (hsp : ∀ j, j < (n + m) * 2 → (w.cell? ⟨b, j, none⟩).isSome = true) (hfz : ∀ j, j < (n + m) * 2 → w.frozen? ⟨b, j, none⟩ = false)
    (hvs : ∀ j v, vs[j]? = some v → w.cell? ⟨vb, j, none⟩ = some v) (h1c : ∀ v ∈ cs, v.oneCell' = true) (h1v : ∀ v ∈ vs, v.oneCell' = true)
    (tA tB : TypeId) (kA kB : Nat) (hsa : w.shape? vb = some (tA, kA)) (hsb : w.shape? b = some (tB, kB)) (hkB : kB ≠ 0) (hfa : w.frozen? ⟨vb, 0, none⟩ = false) (hfe : w.frozen? ⟨vb, kA, none⟩ = false) :
    Calls Tryz.prog 128 #[.slice (some ⟨b, 0, none⟩) n c, .int .i64 i, .slice (some ⟨vb, 0, none⟩) m m] w fun e w' =>
      e = .returned (.slice (some ⟨b, 0, none⟩) (n + m) c) ∧ w' = (w.drew.setCells b ((i + m) * 2) (cs.drop (i * 2))).setCells b (i * 2) vs := by
  have hz1 : ¬ ((m : Int) = 0) := by omega
  have hz2 : ¬ ((i : Int) = (n : Int)) := by omega
  have hov : ∀ lb cb, (callFunc 149 #[.slice (some ⟨vb, 0, none⟩) m m, .slice (some ⟨b, (i + m) * 2, none⟩) lb cb]).run Tryz.prog w = .ok (.value (.bool false)) w := fun lb cb => by
    rw [run_callFunc_extern Tryz.func149 (by kernel_rfl) (by kernel_rfl) (by kernel_rfl) (e := Extern.SlicesOverlaps.overlaps #[52, 52] #[4]) (by kernel_rfl),
      Lib.run_overlaps_apart w 52 4 73 Tryz.underlying52 2 size_floor ⟨vb, 0, none⟩ ⟨b, (i + m) * 2, none⟩ m m lb cb hvb tA tB kA kB hsa hsb hkB hfa hfe]
    rfl
  have hdl : (cs.drop (i * 2)).length = (n - i) * 2 := by rw [List.length_drop, hcl]; omega
  have hw1 : IntKind.i64.wrap ((i : Int) + (m : Int)) = (i : Int) + (m : Int) := by rw [IntKind.wrap_i64]; omega
  have hb1 : (0 : Int) ≤ (i : Int) + (m : Int) := by omega
  have hin : i ≤ n := by omega
  have htn : ((i : Int) + (m : Int)).toNat = i + m := by omega
  have hb2 : ¬ (c = i + m) := by omega
  have hb3 : (i : Int) ≤ (n : Int) + (m : Int) := by omega
  have hb4 : ¬ (c = i) := by omega
  have hcp1 : ∀ ty dc sc, (Builtin.copy_ #[52, 52] ty #[.slice (some ⟨b, (i + m) * 2, none⟩) (n + m - (i + m)) dc, .slice (some ⟨b, i * 2, none⟩) (n + m - i) sc]).run Tryz.prog w.drew = .ok (goInt (Nat.min (n + m - i) (n + m - (i + m)))) (w.drew.setCells b ((i + m) * 2) (cs.drop (i * 2))) := fun ty dc sc =>
    run_copy_floors w.drew ty b ((i + m) * 2) (n + m - (i + m)) dc ⟨b, i * 2, none⟩ (n + m - i) sc (cs.drop (i * 2)) (by rw [hdl]; simp only [Nat.min_def]; split <;> omega)
      (fun j v hj => by rw [Addr.add_lit]; exact hcs (i * 2 + j) v (by rwa [List.getElem?_drop] at hj))
      (fun j hj => hsp _ (by omega)) (fun j hj => hfz _ (by omega)) (fun v hv => h1c v (List.mem_of_mem_drop hv))
  obtain ⟨W1, hW1⟩ : ∃ W1, W1 = w.drew.setCells b ((i + m) * 2) (cs.drop (i * 2)) := ⟨_, rfl⟩
  have hsp1 : ∀ k, k < (n + m) * 2 → (W1.cell? ⟨b, k, none⟩).isSome = true := fun k hk => by
    rw [hW1]
    exact isSome_setCells b (cs.drop (i * 2)) ((i + m) * 2) w.drew (fun j hj => hsp ((i + m) * 2 + j) (by omega)) k (hsp k hk)
  have hcp2 : ∀ (W : World), (∀ x, W.cell? x = W1.cell? x) → (∀ x, W.frozen? x = W1.frozen? x) → ∀ ty dc, (Builtin.copy_ #[52, 52] ty #[.slice (some ⟨b, i * 2, none⟩) (n + m - i) dc, .slice (some ⟨vb, 0, none⟩) m m]).run Tryz.prog W = .ok (goInt (Nat.min m (n + m - i))) (W.setCells b (i * 2) vs) := fun W hWc hWf ty dc =>
    run_copy_floors W ty b (i * 2) (n + m - i) dc ⟨vb, 0, none⟩ m m vs (by rw [hvl]; simp only [Nat.min_def]; split <;> omega)
      (fun j v hj => by
        rw [Addr.add_lit, Nat.zero_add, hWc, hW1, World.cell?_setCells_out b _ _ _ _ (fun h _ => absurd h hvb)]
        exact hvs j v hj)
      (fun j hj => by rw [hWc]; exact hsp1 _ (by omega)) (fun j hj => by rw [hWf, hW1, World.frozen?_setCells]; exact hfz _ (by omega)) h1v
  rw [← hW1] at hcp1
  go_enter Tryz.func128, Tryz.ntmps128
  go_wp2_with (simp only [hov])
  go_region_law (refine step_copy_runI rfl _ _ 52 52 rfl _ _ (by simp [Act.eval, Act.put]) (by simp [Act.eval, Act.put]) (hcp1 _ _ _) ?_)
  go_wp2_with (at_builtin; refine wpList_copy_runI _ rfl _ _ 52 52 rfl _ _ rfl rfl (hcp2 _ (fun _ => rfl) (fun _ => rfl) _ _) ?_)
  go_ret
  first | exact ⟨rfl, rfl⟩ | exact ⟨rfl, by rw [hW1]⟩

set_option maxHeartbeats 4000000 in
set_option maxRecDepth 100000 in
theorem ins_grow0 (b n c i vb m : Nat) (cs vs : List Value) (w : World) (hi : i < n) (hm : 0 < m) (hnc : n ≤ c) (hroom : c < n + m) (hbig : (n + m) * 24 ≤ 140737488355328)
    (hcl : cs.length = n * 2) (hvl : vs.length = m * 2)
    (hcs : ∀ j v, cs[j]? = some v → w.cell? ⟨b, j, none⟩ = some v)
    (hvs : ∀ j v, vs[j]? = some v → w.cell? ⟨vb, j, none⟩ = some v) (h1c : ∀ v ∈ cs, v.oneCell' = true) (h1v : ∀ v ∈ vs, v.oneCell' = true) :
    Calls Tryz.prog 128 #[.slice (some ⟨b, 0, none⟩) n c, .int .i64 i, .slice (some ⟨vb, 0, none⟩) m m] w fun e w' =>
      ∃ (G : Nat) (R : Array Value), e = .returned (.slice (some ⟨w.heap.size, 0, none⟩) (n + m) G) ∧ n + m ≤ G ∧ G ≤ maxLen ∧ R.size = G * 2 ∧ R.toList.take (i * 2) = cs.take (i * 2) ∧
      w' = (((w.alloc (.cells R 73)).drew.setCells w.heap.size (i * 2) vs).drew).setCells w.heap.size ((i + m) * 2) (cs.drop (i * 2)) := by
  obtain ⟨i0, hi0, hz0, hzs, hzb⟩ := info_parts info_floor
  have hz1 : ¬ ((m : Int) = 0) := by omega
  have hz2 : ¬ ((i : Int) = (n : Int)) := by omega
  have hz3 : (c : Int) < (n : Int) + (m : Int) := by omega
  have hbw : b < w.heap.size := block_lt_of_cell (hcs 0 _ (List.getElem?_eq_getElem (by omega)))
  have hvw : vb < w.heap.size := block_lt_of_cell (hvs 0 _ (List.getElem?_eq_getElem (by omega)))
  have hkk : (n : Int) + (m : Int) - (i : Int) = ((n + m - i : Nat) : Int) := by omega
  have hik : i + (n + m - i) = n + m := by omega
  have hold : (Builtin.firstCells i0.size i (.slice (some ⟨b, 0, none⟩) i c)).run Tryz.prog w.drew = .ok (cs.take (i * 2)).toArray w.drew := by
    rw [hzs]
    exact run_firstCells_some w.drew 2 i ⟨b, 0, none⟩ i c (cs.take (i * 2)) (by rw [List.length_take]; omega) (fun j v hj => by
      rw [Addr.add_lit, Nat.zero_add]
      rw [List.getElem?_take] at hj
      split at hj
      · exact hcs j v hj
      · cases hj)
  have hrz : ∀ ty, (Builtin.append_ #[52, 3] ty #[.slice (some ⟨b, 0, none⟩) i c, .int .i64 ((n : Int) + (m : Int) - (i : Int))]).run Tryz.prog w =
      .ok (.slice (some ⟨w.heap.size, 0, none⟩) (n + m) (grownCap w (n + m) c 73)) (w.drew.alloc (.cells ((cs.take (i * 2)).toArray ++ Builtin.zeroCells (Value.agg #[.string ⟨#[]⟩, .int .i64 0]).cells (n + m - i) ++ Builtin.zeroCells (Value.agg #[.string ⟨#[]⟩, .int .i64 0]).cells (grownCap w (n + m) c 73 - (n + m))) 73)) := fun ty => by
    have h := Lib.run_append_grow_zeros w 52 3 ty 73 i0 _ .i64 .i64 Tryz.underlying52 Tryz.underlying3 hi0 hz0 (some ⟨b, 0, none⟩) i c (cs.take (i * 2)) hold (n + m - i) (by omega) (by omega) (by omega) (by omega) (by rw [hzb]; omega) (by rw [hzb, hik]; exact growslice_fits hroom hbig)
    rw [hik] at h
    rw [hkk]
    exact h
  obtain ⟨G, hG⟩ : ∃ G, G = grownCap w (n + m) c 73 := ⟨_, rfl⟩
  have hGn : n + m ≤ G := by rw [hG]; exact grownCap_ge w _ _ _
  have hGmx : G ≤ maxLen := by
    have := grownCap_le_maxLen w (n + m) c 73 (by unfold maxLen; omega)
    rwa [← hG] at this
  obtain ⟨ROW, hROW⟩ : ∃ ROW : Array Value, ROW = (cs.take (i * 2)).toArray ++ Builtin.zeroCells (Value.agg #[.string ⟨#[]⟩, .int .i64 0]).cells (n + m - i) ++ Builtin.zeroCells (Value.agg #[.string ⟨#[]⟩, .int .i64 0]).cells (G - (n + m)) := ⟨_, rfl⟩
  rw [← hG] at hrz
  rw [← hROW] at hrz
  have hzz : (Value.agg #[.string ⟨#[]⟩, .int .i64 0]).cells.size = 2 := rfl
  have hRs : ROW.size = G * 2 := by
    rw [hROW, Array.size_append, Array.size_append, size_zeroCells, size_zeroCells, hzz, List.size_toArray, List.length_take]
    omega
  have hRt : ROW.toList.take (i * 2) = cs.take (i * 2) := by
    rw [hROW, Array.toList_append, Array.toList_append, List.append_assoc]
    rw [List.take_append_of_le_length (by simp only [List.length_take]; omega), List.take_take, Nat.min_self]
  obtain ⟨W1, hW1⟩ : ∃ W1, W1 = w.drew.alloc (.cells ROW 73) := ⟨_, rfl⟩
  rw [← hW1] at hrz
  have hN : ∀ j, j < (n + m) * 2 → (W1.cell? ⟨w.heap.size, j, none⟩).isSome = true := fun j hj => by
    rw [hW1, World.cell?_alloc_at (w := w.drew) ROW _ w.heap.size j rfl, Array.getElem?_eq_getElem (by omega)]; rfl
  have hNf : ∀ j, W1.frozen? ⟨w.heap.size, j, none⟩ = false := fun j => by rw [hW1]; exact World.frozen?_alloc_at (w := w.drew) ROW _ w.heap.size j rfl
  have hOb : ∀ j v, w.cell? ⟨b, j, none⟩ = some v → W1.cell? ⟨b, j, none⟩ = some v := fun j v h => by rw [hW1, World.cell?_alloc_past (w := w.drew) _ b j hbw]; exact h
  have hOv : ∀ j v, w.cell? ⟨vb, j, none⟩ = some v → W1.cell? ⟨vb, j, none⟩ = some v := fun j v h => by rw [hW1, World.cell?_alloc_past (w := w.drew) _ vb j hvw]; exact h
  have hcpA : ∀ (W : World), (∀ x, W.cell? x = W1.cell? x) → (∀ x, W.frozen? x = W1.frozen? x) → ∀ ty dc, (Builtin.copy_ #[52, 52] ty #[.slice (some ⟨w.heap.size, i * 2, none⟩) (n + m - i) dc, .slice (some ⟨vb, 0, none⟩) m m]).run Tryz.prog W = .ok (goInt (Nat.min m (n + m - i))) (W.setCells w.heap.size (i * 2) vs) := fun W hWc hWf ty dc =>
    run_copy_floors W ty w.heap.size (i * 2) (n + m - i) dc ⟨vb, 0, none⟩ m m vs (by rw [hvl]; simp only [Nat.min_def]; split <;> omega)
      (fun j v hj => by rw [Addr.add_lit, Nat.zero_add, hWc]; exact hOv _ v (hvs j v hj))
      (fun j hj => by rw [hWc]; exact hN _ (by omega)) (fun j hj => by rw [hWf]; exact hNf _) h1v
  have hG63 : G ≤ 9223372036854775807 := by
    unfold maxLen at hGmx
    omega
  have hGi : ¬ (G = i) := by omega
  have hGim : ¬ (G = i + m) := by omega
  have hci : ¬ (c = i) := by omega
  have hbN : b ≠ w.heap.size := by omega
  have hdl : (cs.drop (i * 2)).length = (n - i) * 2 := by rw [List.length_drop, hcl]; omega
  have hcpB : ∀ (W : World), (∀ x, W.cell? x = (W1.setCells w.heap.size (i * 2) vs).cell? x) → (∀ x, W.frozen? x = (W1.setCells w.heap.size (i * 2) vs).frozen? x) → ∀ ty dc sc, (Builtin.copy_ #[52, 52] ty #[.slice (some ⟨w.heap.size, (i + m) * 2, none⟩) (n + m - (i + m)) dc, .slice (some ⟨b, i * 2, none⟩) (n - i) sc]).run Tryz.prog W = .ok (goInt (Nat.min (n - i) (n + m - (i + m)))) (W.setCells w.heap.size ((i + m) * 2) (cs.drop (i * 2))) := fun W hWc hWf ty dc sc =>
    run_copy_floors W ty w.heap.size ((i + m) * 2) (n + m - (i + m)) dc ⟨b, i * 2, none⟩ (n - i) sc (cs.drop (i * 2)) (by rw [hdl]; simp only [Nat.min_def]; split <;> omega)
      (fun j v hj => by
        rw [Addr.add_lit, hWc, World.cell?_setCells_out _ _ _ _ _ (fun h _ => absurd h hbN)]
        exact hOb _ v (hcs (i * 2 + j) v (by rwa [List.getElem?_drop] at hj)))
      (fun j hj => by rw [hWc]; exact isSome_setCells _ _ _ _ (fun t ht => hN _ (by omega)) _ (hN _ (by omega)))
      (fun j hj => by rw [hWf, World.frozen?_setCells]; exact hNf _) (fun v hv => h1c v (List.mem_of_mem_drop hv))
  subst hW1
  have hE1 : ∀ x, ((w.alloc (.cells ROW 73)).drew).cell? x = (w.drew.alloc (.cells ROW 73)).cell? x := fun x => rfl
  have hE2 : ∀ x, ((w.alloc (.cells ROW 73)).drew).frozen? x = (w.drew.alloc (.cells ROW 73)).frozen? x := fun x => rfl
  have hF1 : ∀ x, (((w.alloc (.cells ROW 73)).drew.setCells w.heap.size (i * 2) vs).drew).cell? x = ((w.drew.alloc (.cells ROW 73)).setCells w.heap.size (i * 2) vs).cell? x := fun x => rfl
  have hF2 : ∀ x, (((w.alloc (.cells ROW 73)).drew.setCells w.heap.size (i * 2) vs).drew).frozen? x = ((w.drew.alloc (.cells ROW 73)).setCells w.heap.size (i * 2) vs).frozen? x := fun x => rfl
  have hw1 : IntKind.i64.wrap ((i : Int) + (m : Int)) = (i : Int) + (m : Int) := by rw [IntKind.wrap_i64]; omega
  have hb1 : (0 : Int) ≤ (i : Int) + (m : Int) := by omega
  have hin : i ≤ n := by omega
  have htn : ((i : Int) + (m : Int)).toNat = i + m := by omega
  have hb3 : (i : Int) ≤ (n : Int) := by omega
  clear hkk hik hold hROW hG
  go_enter Tryz.func128, Tryz.ntmps128
  go_wp2_with (first
    | (at_builtin; refine Lib.wpList_append_run _ rfl _ _ _ _ rfl _ _ rfl rfl _ _ (hrz _) ?_)
    | (at_builtin; refine wpList_copy_runI _ rfl _ _ 52 52 rfl _ _ rfl rfl (hcpA _ hE1 hE2 _ _) ?_)
    | (at_builtin; refine wpList_copy_runI _ rfl _ _ 52 52 rfl _ _ rfl rfl (hcpB _ (fun _ => rfl) (fun _ => rfl) _ _ _) ?_))
  go_region_law (refine step_copy_runI rfl _ _ 52 52 rfl (.slice (some ⟨w.heap.size, (i + m) * 2, none⟩) (n + m - (i + m)) (G - (i + m))) (.slice (some ⟨b, i * 2, none⟩) (n - i) (c - i)) (by simp [Act.eval, Act.put]) (by simp [Act.eval, Act.put]) (hcpB _ hF1 hF2 3 (G - (i + m)) (c - i)) ?_)
  go_wp2
  go_ret
  exact ⟨_, _, rfl, hGn, hGmx, hRs, hRt, rfl⟩
theorem below_alloc1 {B : Nat} {a w : World} (h : Below B a w) (hB : B ≤ w.heap.size) (o : Obj) : Below B a (w.alloc o) := h.alloc hB o
/-- slices.Insert of one floor. -/
theorem ins_flo (base : Nat) (v : Value) (L : List Flo) (k : Nat) (f : Flo) (gv : Nat) (w : World) (hv : FlRow w base v L) (hL : L.length ≤ 1000) (hk : k ≤ L.length)
    (hgv : w.heap[gv]? = some (.cells #[.string (bs f.who), .int .i64 f.ep] 73 (0, 0))) (hne : ∀ g, v.ownBlock = some g → gv ≠ g) (hbase : base ≤ w.heap.size) :
    Calls Tryz.prog 128 #[v, .int .i64 (k : Int), .slice (some ⟨gv, 0, none⟩) 1 1] w fun e w' => ∃ v', e = .returned v' ∧ FlRow w' base v' (L.take k ++ f :: L.drop k) ∧ Below base w w' := by
  rcases Nat.lt_or_ge k L.length with hlt | hge
  · have hone : ∀ u ∈ f.cells, u.oneCell' = true := fun u hu => flatF_one [f] u (by simpa [flatF] using hu)
    have hfl : (flatF L).length = L.length * 2 := flatF_len L
    have hcv : ∀ j u, f.cells[j]? = some u → w.cell? ⟨gv, j, none⟩ = some u := by
      intro j u hj
      rw [cell_of_row _ _ _ _ _ _ hgv]
      simpa [Flo.cells] using hj
    rcases hv.shape with ⟨rfl, rfl⟩ | ⟨g, cap, cur, rfl, hgb, hgc, hcap, hmx, hsz, htk⟩
    · exact absurd hlt (Nat.not_lt_zero _)
    have hgg : gv ≠ g := hne g rfl
    have hcells := hv.cells
    have hlen := put_length L k f hk
    by_cases hroom : L.length + 1 ≤ cap
    · have hsp : ∀ j, j < (L.length + 1) * 2 → (w.cell? ⟨g, j, none⟩).isSome = true := fun j hj => by
        rw [cell_of_row w g _ _ _ _ hgc, Array.getElem?_eq_getElem (by rw [hsz]; omega)]; rfl
      refine (ins_shift0 g L.length cap k gv 1 (flatF L) f.cells w hlt (by decide) hroom (by unfold maxLen at hmx; omega) hgg hfl rfl hcells hsp (fun j _ => frozen_of_row _ _ _ _ _ hgc) hcv (flatF_one L) hone
        _ _ _ _ (shape_row hgv) (shape_row hgc) (by rw [hsz]; omega) (frozen_of_row _ _ _ _ _ hgv) (frozen_of_row _ _ _ _ _ hgv)).mono ?_
      rintro e w' ⟨rfl, rfl⟩
      obtain ⟨c1, a1, a2, a3⟩ := heap_setCells g 73 ((flatF L).drop (k * 2)) ((k + 1) * 2) w.drew cur hgc (by rw [List.length_drop, hfl, hsz]; omega)
      obtain ⟨c2, b1, b2, b3⟩ := heap_setCells g 73 f.cells (k * 2) _ c1 a1 (by rw [a2, hsz]; simp only [Flo.cells, List.length_cons, List.length_nil]; omega)
      refine ⟨_, rfl, ?_, below_setCells g hgb _ _ _ (below_setCells g hgb _ _ _ ((Below.refl _ _).drew))⟩
      unfold FlRow
      rw [hlen]
      refine ⟨by rw [flatF_len, hlen], .inr ⟨g, cap, c2, rfl, hgb, b1, hroom, hmx, by rw [b2, a2, hsz], ?_⟩⟩
      rw [flatF_put]
      exact splice_shift htk hfl hk rfl a3 b3 (by have e : cur.toList.length = cur.size := Array.length_toList; omega)
    · refine (ins_grow0 g L.length cap k gv 1 (flatF L) f.cells w hlt (by decide) hcap (by omega) (by omega) hfl rfl hcells hcv (flatF_one L) hone).mono ?_
      rintro e w' ⟨G, R, rfl, hG, hGm, hR, hRt, rfl⟩
      obtain ⟨c1, a1, a2, a3⟩ := heap_setCells w.heap.size 73 f.cells (k * 2) ((w.alloc (.cells R 73)).drew) R (heap_alloc_new w _) (by rw [hR]; simp only [Flo.cells, List.length_cons, List.length_nil]; omega)
      obtain ⟨c2, b1, b2, b3⟩ := heap_setCells w.heap.size 73 ((flatF L).drop (k * 2)) ((k + 1) * 2) (((w.alloc (.cells R 73)).drew.setCells w.heap.size (k * 2) f.cells).drew) c1 a1 (by rw [a2, hR, List.length_drop, hfl]; omega)
      refine ⟨_, rfl, ?_, below_setCells _ hbase _ _ _ ((below_setCells _ hbase _ _ _ (((Below.refl base w).alloc hbase _).drew)).drew)⟩
      unfold FlRow
      rw [hlen]
      refine ⟨by rw [flatF_len, hlen], .inr ⟨w.heap.size, G, c2, rfl, hbase, b1, hG, hGm, by rw [b2, a2, hR], ?_⟩⟩
      rw [flatF_put]
      exact splice_grow hRt hfl hk rfl a3 b3 (by have e : R.toList.length = R.size := Array.length_toList; omega)
  · have hke : k = L.length := by omega
    subst hke
    rw [List.take_length, List.drop_length]
    exact ins_end base v L f gv w hv hL hgv hbase
end Go.Proofs.YtadnjdchjoechaaGreatDoor

/- slices.Clone at floors; strings.Compare; the search for a floor's place: walked. -/
namespace Go.Proofs.YtadnjdchjoechaaGreatDoor
open Go.RowKit Go.Shelf Go.Lib

set_option maxHeartbeats 2000000 in
set_option maxRecDepth 100000 in
theorem clone_flo (v : Value) (L : List Flo) (w : World) (hv : FloorsAt w v L) (hL : L.length ≤ 1000) :
    Calls Tryz.prog 42 #[v] w fun e w' => ∃ v', e = .returned v' ∧ FlRow w' w.heap.size v' L ∧ Below w.heap.size w w' := by
  obtain ⟨i0, hi, hz0, hz1, hz2⟩ := info_parts info_floor
  obtain ⟨a, c, rfl, hlen, hcap, hcs⟩ := hv
  have hq := fun (w : World) (a : Option Addr) (n c n' c' : Nat) => Lib.run_eql_slice_nil (P := Tryz.prog) w 52 _ a n c n' c' Tryz.underlying52
  cases a with
  | none =>
    have h0 : L = [] := by
      cases L with
      | nil => rfl
      | cons f r => obtain ⟨b, o, h, _⟩ := hcs 0 (by simp); cases h
    subst h0
    clear hcs
    go_enter Tryz.func42, Tryz.ntmps42
    go_wp2_with fail
    go_ret
    exact ⟨_, rfl, World.ownsRow_nil _ _ _ _, Below.refl _ _⟩
  | some ad =>
    have hcell : ∀ j u, (flatF L)[j]? = some u → w.cell? (ad.add j) = some u := by
      intro j u hj
      have hlt := (List.getElem?_eq_some_iff.1 hj).1
      rw [flatF_len] at hlt
      obtain ⟨b, o, he, h0, h1⟩ := hcs (j / 2) (by omega)
      cases he
      obtain ⟨f0, f1⟩ := flatF_get L (j / 2) (by omega)
      rw [Addr.add_lit]
      rcases (show j = j / 2 * 2 ∨ j = j / 2 * 2 + 1 by omega) with hj2 | hj2
      · rw [← hj2] at h0 f0
        rw [f0] at hj
        cases hj
        exact h0
      · rw [Nat.add_assoc] at h1
        rw [← hj2] at h1 f1
        rw [f1] at hj
        cases hj
        exact h1
    have hcell := Lib.hid hcell
    clear hcs
    go_enter Tryz.func42, Tryz.ntmps42
    go_wp2_with (first
      | (at_builtin; refine wpList_append_own_at _ rfl _ _ 52 rfl w.heap.size 73 i0 (.agg #[.string ⟨#[]⟩, .int .i64 0]) 2 24 Tryz.underlying52 hi hz0 hz1 hz2 rfl (by decide) _ _ _ rfl (World.ownsRow_made w #[] 0 (Nat.le_refl _) (Nat.zero_le _) (by simp)) ad L.length c (flatF L) rfl ?hl ?c1 ?c2 ?c3 ?c4 ?c5 ?_)
      | go_in)
    case hl => exact flatF_len L
    case c1 => exact fun j u hj => Lib.cell?_alloc_some _ (hcell.out j u hj)
    case c2 => exact flatF_one L
    case c3 => unfold maxLen; omega
    case c4 => omega
    case c5 => simp
    intro v1 w1 hown hgrow _ _
    have hfin := Lib.hid (show FlRow w1 w.heap.size v1 L from by unfold FlRow; simpa using hown)
    have hKf := Lib.hid (((Below.refl w.heap.size w).alloc (Nat.le_refl _) _).grown hgrow (by simp) (by intro k hk; simp [Value.ownBlock] at hk; omega))
    clear hown hgrow
    go_wp2_with fail
    go_ret
    exact ⟨_, rfl, hfin.out, hKf.out⟩

theorem compare_neg : ∀ a b : List UInt8, compareBytes a b < 0 ↔ a < b
  | [], [] => by simp [compareBytes]
  | [], y :: b => by simp [compareBytes]
  | x :: a, [] => by simp [compareBytes]
  | x :: a, y :: b => by
    unfold compareBytes
    rw [List.cons_lt_cons_iff]
    by_cases h : x < y
    · simp [h]
    · rw [if_neg h]
      by_cases h2 : y < x
      · have hne : ¬ x = y := fun e => by subst e; exact h h2
        rw [if_pos h2]
        simp [h, hne]
      · have he : x = y := UInt8.le_antisymm (UInt8.not_lt.1 h2) (UInt8.not_lt.1 h)
        rw [if_neg h2, compare_neg a b]
        simp [h, he]
theorem compare_str (a b : List UInt8) (w : World) :
    Calls Tryz.prog 127 #[.string (bs a), .string (bs b)] w fun e w' => e = .returned (.int .i64 (compareBytes a b)) ∧ w' = w :=
  (Any.strings_Compare Tryz.cmpL (bs a) (bs b) w).mono fun e w' h => ⟨by rw [h.1, bs_list, bs_list], h.2⟩
theorem compare_range : ∀ a b : List UInt8, -1 ≤ compareBytes a b ∧ compareBytes a b ≤ 1
  | [], [] => by simp [compareBytes]
  | [], y :: b => by simp [compareBytes]
  | x :: a, [] => by simp [compareBytes]
  | x :: a, y :: b => by
    unfold compareBytes
    split
    · simp
    · split
      · simp
      · exact compare_range a b
theorem insF_at (f : Flo) : ∀ (L : List Flo) (k : Nat), k ≤ L.length → (∀ q (h : q < L.length), q < k → L[q].who < f.who) → (∀ h : k < L.length, ¬ L[k].who < f.who) → insF f L = L.take k ++ f :: L.drop k
  | [], k, hk, _, _ => by
    have : k = 0 := by simpa using hk
    subst this
    rfl
  | g :: r, 0, _, _, h2 => by
    have h3 : ¬ g.who < f.who := h2 (by simp)
    unfold insF
    rw [if_neg h3]
    rfl
  | g :: r, k + 1, hk, h1, h2 => by
    have h3 : g.who < f.who := h1 0 (by simp) (by omega)
    unfold insF
    rw [if_pos h3, insF_at f r k (by simpa using hk) (fun q hq hqk => h1 (q + 1) (by simpa using hq) (by omega)) (fun h => h2 (by simpa using h))]
    rfl
end Go.Proofs.YtadnjdchjoechaaGreatDoor

/- floor.Raise's second closure; slices.BinarySearchFunc at floors: walked. -/
namespace Go.Proofs.YtadnjdchjoechaaGreatDoor
open Go.RowKit Go.Shelf Go.Lib

set_option maxRecDepth 100000 in
theorem raise2_cmp (f g : Flo) (w : World) :
    Calls Tryz.prog 126 #[f.val, g.val] w fun e w' => e = .returned (.int .i64 (compareBytes f.who g.who)) ∧ Below w.heap.size w w' := by
  obtain ⟨fw, fe⟩ := f
  obtain ⟨gw, ge⟩ := g
  dsimp only [Flo.val]
  have hB := ((Below.refl w.heap.size w).alloc (Nat.le_refl _) (.cells #[.string (bs fw), .int .i64 fe] 73)).alloc (by simp) (.cells #[.string (bs gw), .int .i64 ge] 73)
  have c0 : ((w.alloc (.cells #[.string (bs fw), .int .i64 fe] 73)).alloc (.cells #[.string (bs gw), .int .i64 ge] 73)).cell? ⟨w.heap.size, 0, none⟩ = some (.string (bs fw)) := by
    rw [World.cell?_alloc_lt _ _ _ (by simp)]; simp
  have c1 : ((w.alloc (.cells #[.string (bs fw), .int .i64 fe] 73)).alloc (.cells #[.string (bs gw), .int .i64 ge] 73)).cell? ⟨w.heap.size + 1, 0, none⟩ = some (.string (bs gw)) := by
    have := World.cell?_alloc_new (w.alloc (.cells #[.string (bs fw), .int .i64 fe] 73)) #[.string (bs gw), .int .i64 ge] 73 0
    rw [World.size_alloc] at this
    exact this
  have hc := Lib.hid (fun wx => compare_str fw gw wx)
  generalize compareBytes fw gw = cc at *
  go_enter Tryz.func126, Tryz.ntmps126
  go_wp2_with fail
  refine (hc.out _).mono ?_
  rintro e w1 ⟨rfl, rfl⟩
  go_wp2_with fail
  go_ret
  exact ⟨rfl, hB⟩
/-- Where a floor is set: behind all that are less. -/
def lessF (L : List Flo) (n : List UInt8) : Nat := (L.takeWhile (fun q => decide (q.who < n))).length
theorem lessF_le (L : List Flo) (n : List UInt8) : lessF L n ≤ L.length := (List.takeWhile_sublist _).length_le
theorem lessF_at {L : List Flo} {n : List UInt8} {j : Nat} (hj : j ≤ L.length) (ha : ∀ q (hq : q < L.length), q < j → L[q].who < n) (he : ∀ h : j < L.length, ¬ L[j].who < n) : lessF L n = j := by
  unfold lessF
  induction L generalizing j with
  | nil => simp at hj; subst hj; rfl
  | cons p L ih =>
    cases j with
    | zero =>
      have := he (by simp)
      rw [List.takeWhile_cons_of_neg (by simpa using this)]
      rfl
    | succ j =>
      have h0 := ha 0 (by simp) (by omega)
      rw [List.takeWhile_cons_of_pos (by simpa using h0), List.length_cons, ih (j := j) (by simpa using hj) (fun q hq hqj => ha (q + 1) (by simpa using hq) (by omega)) (fun h => he (by simpa using h))]
theorem insF_less (f : Flo) (L : List Flo) {k : Nat} (hk : k ≤ L.length) (h1 : ∀ q (h : q < L.length), q < k → L[q].who < f.who) (h2 : ∀ h : k < L.length, ¬ L[k].who < f.who) :
    insF f L = L.take k ++ f :: L.drop k ∧ lessF L f.who = k := ⟨insF_at f L k hk h1 h2, lessF_at hk h1 h2⟩
theorem who_le_of_sorted {L : List Flo} (hs : L.Pairwise (fun f g => f.who < g.who)) {i j : Nat} (hij : i ≤ j) (hj : j < L.length) {n : List UInt8} (h : ¬ L[i].who < n) : ¬ L[j].who < n := by
  rcases Nat.lt_or_eq_of_le hij with h1 | h1
  · intro h2
    exact h (List.lt_trans (List.pairwise_iff_getElem.1 hs i j (by omega) hj h1) h2)
  · subst h1
    exact h
theorem who_lt_of_sorted {L : List Flo} (hs : L.Pairwise (fun f g => f.who < g.who)) {i j : Nat} (hij : i ≤ j) (hj : j < L.length) {n : List UInt8} (h : L[j].who < n) : L[i].who < n := by
  rcases Nat.lt_or_eq_of_le hij with h1 | h1
  · exact List.lt_trans (List.pairwise_iff_getElem.1 hs i j (by omega) hj h1) h
  · subst h1
    exact h
theorem shr_half (lo hi : Nat) (w : World) : (binOp .shr 228 (.int .u64 ((lo : Int) + (hi : Int))) (.int .u64 1)).run Tryz.prog w = .ok (.int .u64 (((lo + hi) / 2 : Nat) : Int)) w := by
  go_simp
set_option maxHeartbeats 4000000 in
set_option maxRecDepth 100000 in
theorem bsearch_flo (v : Value) (L : List Flo) (f : Flo) (w : World) (hv : FloorsAt w v L) (hL : L.length ≤ 1000) (hs : L.Pairwise (fun f g => f.who < g.who)) :
    Calls Tryz.prog 125 #[v, f.val, .func (.func 126) #[] #[]] w fun e w' => ∃ b, e = .returned (.tuple #[.int .i64 (lessF L f.who : Nat), .bool b]) ∧ Below w.heap.size w w' := by
  obtain ⟨a, c, rfl, hlen, _, hc⟩ := hv
  obtain ⟨fw, fe⟩ := f
  dsimp only [Flo.val]
  have hcH := Lib.hid hc
  have hsH := Lib.hid hs
  clear hc hs
  have hcm := Lib.hid (fun (g : Flo) wx => raise2_cmp g ⟨fw, fe⟩ wx)
  have hA : Below w.heap.size w (w.alloc (.cells #[.string (bs fw), .int .i64 fe] 73)) := (Below.refl _ _).alloc (Nat.le_refl _) _
  have b0 : (w.alloc (.cells #[.string (bs fw), .int .i64 fe] 73)).cell? ⟨w.heap.size, 0, none⟩ = some (.string (bs fw)) := by simp
  have b1 : (w.alloc (.cells #[.string (bs fw), .int .i64 fe] 73)).cell? ⟨w.heap.size, 1, none⟩ = some (.int .i64 fe) := by simp
  have b0 := Lib.hid b0
  have b1 := Lib.hid b1
  have hA := Lib.hid hA
  dsimp only [Flo.val] at hcm
  go_enter Tryz.func125, Tryz.ntmps125
  go_wp2_with fail
  go_loopg [9, 10] (L.length + 1) (fun g8 i j wr => ∃ lo hi : Nat, i = .int .i64 lo ∧ j = .int .i64 hi ∧ lo ≤ hi ∧ hi ≤ L.length ∧ hi - lo + 1 ≤ g8 ∧ Hid ((∀ q (h : q < L.length), q < lo → L[q].who < fw) ∧ (∀ q (h : q < L.length), hi ≤ q → ¬ L[q].who < fw)) ∧ Hid (Below (w.alloc (.cells #[.string (bs fw), .int .i64 fe] 73)).heap.size (w.alloc (.cells #[.string (bs fw), .int .i64 fe] 73)) wr))
  case atStart => exact ⟨0, L.length, rfl, rfl, Nat.zero_le _, Nat.le_refl _, by omega, Lib.hid ⟨fun _ _ h => absurd h (Nat.not_lt_zero _), fun q h h2 => by omega⟩, Lib.hid (Below.refl _ _)⟩
  case round =>
    obtain ⟨lo, hi, rfl, rfl, hlh, hhn, hg, hI, hK⟩ := hrel
    have d0 := cell_below hK.out b0.out
    have d1 := cell_below hK.out b1.out
    have hKw := Lib.hid (below_trans hA.out hK.out)
    by_cases hlt : lo < hi
    · obtain ⟨M, hM⟩ : ∃ M, M = (lo + hi) / 2 := ⟨_, rfl⟩
      have a1 : lo ≤ M := by omega
      have a2 : M < hi := by omega
      have hm : M < L.length := by omega
      have hMH := Lib.hid hM
      have hM2 : ((lo : Int) + (hi : Int)) / 2 = (M : Int) := by omega
      have hk0 : (0 : Int) ≤ (M : Int) := by omega
      have hk1 : (M : Int) < (L.length : Int) := by omega
      clear hM
      obtain ⟨b, o, rfl, h0, h1⟩ := hcH.out M hm
      have h0 := cell_below hKw.out h0
      have h1 := cell_below hKw.out h1
      have hcmx := hcm.out L[M]
      have hcv := compare_neg L[M].who fw
      generalize hq : L[M] = q at *
      obtain ⟨qw, qe⟩ := q
      dsimp only at h0 h1 hcv hcmx
      generalize compareBytes qw fw = cc at *
      have hqH := Lib.hid hq
      clear hq
      have hk5 := Lib.hid (fun (wx : World) (hx : Below wr.heap.size wr wx) => (show Below wr.heap.size wr wx ∧ wx.cell? ⟨w.heap.size, 0, none⟩ = some (.string (bs fw)) ∧ wx.cell? ⟨w.heap.size, 1, none⟩ = some (.int .i64 fe) ∧ wx.cell? ⟨b, o + M * 2, none⟩ = some (.string (bs qw)) ∧ wx.cell? ⟨b, o + M * 2 + 1, none⟩ = some (.int .i64 qe) from ⟨hx, cell_below hx d0, cell_below hx d1, cell_below hx h0, cell_below hx h1⟩))
      have hS : Below wr.heap.size wr wr := Below.refl _ _
      by_cases hx : qw < fw
      · have hcn : cc < 0 := hcv.2 hx
        have hI2 : Hid ((∀ q (h : q < L.length), q < M + 1 → L[q].who < fw) ∧ (∀ q (h : q < L.length), hi ≤ q → ¬ L[q].who < fw)) :=
          Lib.hid ⟨fun q h hlt2 => who_lt_of_sorted hsH.out (show q ≤ M by omega) hm (by rw [hqH.out]; exact hx), hI.out.2⟩
        clear hcv hx hI
        go_wp2_with fail
        go_region_held3 (fun w' => Below wr.heap.size wr w' ∧ w'.cell? ⟨w.heap.size, 0, none⟩ = some (.string (bs fw)) ∧ w'.cell? ⟨w.heap.size, 1, none⟩ = some (.int .i64 fe) ∧ w'.cell? ⟨b, o + M * 2, none⟩ = some (.string (bs qw)) ∧ w'.cell? ⟨b, o + M * 2 + 1, none⟩ = some (.int .i64 qe))
          ((refine hk5.out _ ?_; (first | exact hS | exact hS.drew)))
          ((refine (hcmx _).mono ?_; rintro e w' ⟨rfl, hbx⟩; have hS : Below wr.heap.size wr w' := below_trans (by first | exact hS | exact hS.drew) hbx))
        have hK2 := Lib.hid (hK.out.trans (Below.mono (by first | exact hS | exact hS.drew) hK.out.size))
        go_wp2_with fail
        go_roundg (hi - (M + 1) + 1)
        case measure => omega
        case rel => exact ⟨M + 1, hi, by simp, rfl, by omega, hhn, by omega, hI2, hK2⟩
      · have hcn : ¬ cc < 0 := fun h => hx (hcv.1 h)
        have hI2 : Hid ((∀ q (h : q < L.length), q < lo → L[q].who < fw) ∧ (∀ q (h : q < L.length), M ≤ q → ¬ L[q].who < fw)) :=
          Lib.hid ⟨hI.out.1, fun q h hlt2 => who_le_of_sorted hsH.out hlt2 h (by rw [hqH.out]; exact hx)⟩
        clear hcv hx hI
        go_wp2_with fail
        go_region_held3 (fun w' => Below wr.heap.size wr w' ∧ w'.cell? ⟨w.heap.size, 0, none⟩ = some (.string (bs fw)) ∧ w'.cell? ⟨w.heap.size, 1, none⟩ = some (.int .i64 fe) ∧ w'.cell? ⟨b, o + M * 2, none⟩ = some (.string (bs qw)) ∧ w'.cell? ⟨b, o + M * 2 + 1, none⟩ = some (.int .i64 qe))
          ((refine hk5.out _ ?_; (first | exact hS | exact hS.drew)))
          ((refine (hcmx _).mono ?_; rintro e w' ⟨rfl, hbx⟩; have hS : Below wr.heap.size wr w' := below_trans (by first | exact hS | exact hS.drew) hbx))
        have hK2 := Lib.hid (hK.out.trans (Below.mono (by first | exact hS | exact hS.drew) hK.out.size))
        go_wp2_with fail
        go_roundg (M - lo + 1)
        case measure => omega
        case rel => exact ⟨lo, M, rfl, by simp, a1, by omega, by omega, hI2, hK2⟩
    · obtain rfl : lo = hi := by omega
      have hr := Lib.hid (show lessF L fw = lo from lessF_at hhn hI.out.1 (fun h => hI.out.2 lo h (Nat.le_refl _)))
      clear hI
      by_cases hm : lo < L.length
      · obtain ⟨b, o, rfl, h0, h1⟩ := hcH.out lo hm
        have h0 := cell_below hKw.out h0
        have h1 := cell_below hKw.out h1
        have hcmx := hcm.out L[lo]
        generalize hq : L[lo] = q at *
        obtain ⟨qw, qe⟩ := q
        dsimp only at h0 h1 hcmx
        clear hq
        generalize compareBytes qw fw = cc at *
        have hk0 : (0 : Int) ≤ (lo : Int) := by omega
        have hk1 : (lo : Int) < (L.length : Int) := by omega
        have hk2 : decide ((lo : Int) < (L.length : Int)) = true := decide_eq_true hk1
        have hk5 := Lib.hid (fun (wx : World) (hx : Below wr.heap.size wr wx) => (show Below wr.heap.size wr wx ∧ wx.cell? ⟨w.heap.size, 0, none⟩ = some (.string (bs fw)) ∧ wx.cell? ⟨w.heap.size, 1, none⟩ = some (.int .i64 fe) ∧ wx.cell? ⟨b, o + lo * 2, none⟩ = some (.string (bs qw)) ∧ wx.cell? ⟨b, o + lo * 2 + 1, none⟩ = some (.int .i64 qe) from ⟨hx, cell_below hx d0, cell_below hx d1, cell_below hx h0, cell_below hx h1⟩))
        have hS : Below wr.heap.size wr wr := Below.refl _ _
        go_wp2_with fail
        go_region_held3 (fun w' => Below wr.heap.size wr w' ∧ w'.cell? ⟨w.heap.size, 0, none⟩ = some (.string (bs fw)) ∧ w'.cell? ⟨w.heap.size, 1, none⟩ = some (.int .i64 fe) ∧ w'.cell? ⟨b, o + lo * 2, none⟩ = some (.string (bs qw)) ∧ w'.cell? ⟨b, o + lo * 2 + 1, none⟩ = some (.int .i64 qe))
          ((refine hk5.out _ ?_; (first | exact hS | exact hS.drew)))
          ((refine (hcmx _).mono ?_; rintro e w' ⟨rfl, hbx⟩; have hS : Below wr.heap.size wr w' := below_trans (by first | exact hS | exact hS.drew) hbx))
        have hK2 := Lib.hid (below_trans hKw.out (by first | exact hS | exact hS.drew))
        go_wp2_with fail
        go_ret2
        exact ⟨_, by rw [hr.out]; rfl, hK2.out⟩
      · have hk1 : ¬ ((lo : Int) < (L.length : Int)) := by omega
        have hk2 : decide ((lo : Int) < (L.length : Int)) = false := decide_eq_false hk1
        go_wp2_with fail
        go_quiet (fail)
        go_wp2_with fail
        go_ret2
        exact ⟨_, by rw [hr.out]; rfl, below_drawn hKw.out _⟩
end Go.Proofs.YtadnjdchjoechaaGreatDoor
