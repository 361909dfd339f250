/- FloI2, FloC, FloJ -/
import Derived.Test.YtcnadjdijolboaaGreatDoorMg10
import Derived.Test.YtcnadjdijolboaaGreatDoorShelf2
import Derived.Deep.RegionHeld3
import Derived.Test.YtcnadjdijolboaaGreatDoorMg2
/- slices.Insert at floors, walked: in place, and into a new row; and all roads as one. -/
namespace Go.Proofs.YtcnadjdijolboaaGreatDoor
open Go.RowKit Go.Lib

theorem isSome_cells (b : Nat) (vs : List Value) (o : Nat) (w : World) (h : ∀ j, j < vs.length → (w.cell? ⟨b, o + j, none⟩).isSome = true) (k : Nat) (hk : (w.cell? ⟨b, k, none⟩).isSome = true) : ((w.setCells b o vs).cell? ⟨b, k, none⟩).isSome = true := isSome_setCells b vs o w h k hk
set_option maxHeartbeats 4000000 in
set_option maxRecDepth 100000 in
theorem ins_shift0 (b n c i vb m : Nat) (cs vs : List Value) (w : World) (hi : i < n) (hm : 0 < m) (hroom : n + m ≤ c) (hc63 : c ≤ 9223372036854775807) (hvb : vb ≠ b)
    (hcl : cs.length = n * 2) (hvl : vs.length = m * 2)
    (hcs : ∀ j v, cs[j]? = some v → w.cell? ⟨b, j, none⟩ = some v) (hsp : ∀ j, j < (n + m) * 2 → (w.cell? ⟨b, j, none⟩).isSome = true) (hfz : ∀ j, j < (n + m) * 2 → w.frozen? ⟨b, j, none⟩ = false)
    (hvs : ∀ j v, vs[j]? = some v → w.cell? ⟨vb, j, none⟩ = some v) (h1c : ∀ v ∈ cs, v.oneCell' = true) (h1v : ∀ v ∈ vs, v.oneCell' = true)
    (tA tB : TypeId) (kA kB : Nat) (hsa : w.shape? vb = some (tA, kA)) (hsb : w.shape? b = some (tB, kB)) (hkB : kB ≠ 0) (hfa : w.frozen? ⟨vb, 0, none⟩ = false) (hfe : w.frozen? ⟨vb, kA, none⟩ = false) :
    Calls Tryz.prog 42 #[.slice (some ⟨b, 0, none⟩) n c, .int .i64 i, .slice (some ⟨vb, 0, none⟩) m m] w fun e w' =>
      e = .returned (.slice (some ⟨b, 0, none⟩) (n + m) c) ∧ w' = (w.drew.setCells b ((i + m) * 2) (cs.drop (i * 2))).setCells b (i * 2) vs := by
  have hz1 : ¬ ((m : Int) = 0) := by omega
  have hz2 : ¬ ((i : Int) = (n : Int)) := by omega
  have hov : ∀ lb cb, (callFunc 68 #[.slice (some ⟨vb, 0, none⟩) m m, .slice (some ⟨b, (i + m) * 2, none⟩) lb cb]).run Tryz.prog w = .ok (.value (.bool false)) w := fun lb cb => by
    rw [run_callFunc_extern Tryz.func68 (by kernel_rfl) (by kernel_rfl) (by kernel_rfl) (e := Extern.SlicesOverlaps.overlaps #[22, 22] #[4]) (by kernel_rfl),
      Lib.run_overlaps_apart w 22 4 24 Tryz.underlying22 2 size_floor ⟨vb, 0, none⟩ ⟨b, (i + m) * 2, none⟩ m m lb cb hvb tA tB kA kB hsa hsb hkB hfa hfe]
    rfl
  have hdl : (cs.drop (i * 2)).length = (n - i) * 2 := by rw [List.length_drop, hcl]; omega
  have hw1 : IntKind.i64.wrap ((i : Int) + (m : Int)) = (i : Int) + (m : Int) := by rw [IntKind.wrap_i64]; omega
  have hb1 : (0 : Int) ≤ (i : Int) + (m : Int) := by omega
  have hin : i ≤ n := by omega
  have htn : ((i : Int) + (m : Int)).toNat = i + m := by omega
  have hb2 : ¬ (c = i + m) := by omega
  have hb3 : (i : Int) ≤ (n : Int) + (m : Int) := by omega
  have hb4 : ¬ (c = i) := by omega
  have hcp1 : ∀ ty dc sc, (Builtin.copy_ #[22, 22] ty #[.slice (some ⟨b, (i + m) * 2, none⟩) (n + m - (i + m)) dc, .slice (some ⟨b, i * 2, none⟩) (n + m - i) sc]).run Tryz.prog w.drew = .ok (goInt (Nat.min (n + m - i) (n + m - (i + m)))) (w.drew.setCells b ((i + m) * 2) (cs.drop (i * 2))) := fun ty dc sc =>
    run_copy_floors w.drew ty b ((i + m) * 2) (n + m - (i + m)) dc ⟨b, i * 2, none⟩ (n + m - i) sc (cs.drop (i * 2)) (by rw [hdl]; simp only [Nat.min_def]; split <;> omega)
      (fun j v hj => by rw [Addr.add_lit]; exact hcs (i * 2 + j) v (by rwa [List.getElem?_drop] at hj))
      (fun j hj => hsp _ (by omega)) (fun j hj => hfz _ (by omega)) (fun v hv => h1c v (List.mem_of_mem_drop hv))
  obtain ⟨W1, hW1⟩ : ∃ W1, W1 = w.drew.setCells b ((i + m) * 2) (cs.drop (i * 2)) := ⟨_, rfl⟩
  have hsp1 : ∀ k, k < (n + m) * 2 → (W1.cell? ⟨b, k, none⟩).isSome = true := fun k hk => by
    rw [hW1]
    exact isSome_setCells b (cs.drop (i * 2)) ((i + m) * 2) w.drew (fun j hj => hsp ((i + m) * 2 + j) (by omega)) k (hsp k hk)
  have hcp2 : ∀ (W : World), (∀ x, W.cell? x = W1.cell? x) → (∀ x, W.frozen? x = W1.frozen? x) → ∀ ty dc, (Builtin.copy_ #[22, 22] ty #[.slice (some ⟨b, i * 2, none⟩) (n + m - i) dc, .slice (some ⟨vb, 0, none⟩) m m]).run Tryz.prog W = .ok (goInt (Nat.min m (n + m - i))) (W.setCells b (i * 2) vs) := fun W hWc hWf ty dc =>
    run_copy_floors W ty b (i * 2) (n + m - i) dc ⟨vb, 0, none⟩ m m vs (by rw [hvl]; simp only [Nat.min_def]; split <;> omega)
      (fun j v hj => by
        rw [Addr.add_lit, Nat.zero_add, hWc, hW1, World.cell?_setCells_out b _ _ _ _ (fun h _ => absurd h hvb)]
        exact hvs j v hj)
      (fun j hj => by rw [hWc]; exact hsp1 _ (by omega)) (fun j hj => by rw [hWf, hW1, World.frozen?_setCells]; exact hfz _ (by omega)) h1v
  rw [← hW1] at hcp1
  go_enter Tryz.func42, Tryz.ntmps42
  go_wp2_with (simp only [hov])
  go_region_law (refine step_copy_runI rfl _ _ 22 22 rfl _ _ (by simp [Act.eval, Act.put]) (by simp [Act.eval, Act.put]) (hcp1 _ _ _) ?_)
  go_wp2_with (at_builtin; refine wpList_copy_runI _ rfl _ _ 22 22 rfl _ _ rfl rfl (hcp2 _ (fun _ => rfl) (fun _ => rfl) _ _) ?_)
  go_ret
  first | exact ⟨rfl, rfl⟩ | exact ⟨rfl, by rw [hW1]⟩

set_option maxHeartbeats 4000000 in
set_option maxRecDepth 100000 in
theorem ins_grow0 (b n c i vb m : Nat) (cs vs : List Value) (w : World) (hi : i < n) (hm : 0 < m) (hnc : n ≤ c) (hroom : c < n + m) (hbig : (n + m) * 24 ≤ 140737488355328)
    (hcl : cs.length = n * 2) (hvl : vs.length = m * 2)
    (hcs : ∀ j v, cs[j]? = some v → w.cell? ⟨b, j, none⟩ = some v)
    (hvs : ∀ j v, vs[j]? = some v → w.cell? ⟨vb, j, none⟩ = some v) (h1c : ∀ v ∈ cs, v.oneCell' = true) (h1v : ∀ v ∈ vs, v.oneCell' = true) :
    Calls Tryz.prog 42 #[.slice (some ⟨b, 0, none⟩) n c, .int .i64 i, .slice (some ⟨vb, 0, none⟩) m m] w fun e w' =>
      ∃ (G : Nat) (R : Array Value), e = .returned (.slice (some ⟨w.heap.size, 0, none⟩) (n + m) G) ∧ n + m ≤ G ∧ G ≤ maxLen ∧ R.size = G * 2 ∧ R.toList.take (i * 2) = cs.take (i * 2) ∧
      w' = (((w.alloc (.cells R 24)).drew.setCells w.heap.size (i * 2) vs).drew).setCells w.heap.size ((i + m) * 2) (cs.drop (i * 2)) := by
  obtain ⟨i0, hi0, hz0, hzs, hzb⟩ := info_parts info_floor
  have hz1 : ¬ ((m : Int) = 0) := by omega
  have hz2 : ¬ ((i : Int) = (n : Int)) := by omega
  have hz3 : (c : Int) < (n : Int) + (m : Int) := by omega
  have hbw : b < w.heap.size := block_lt_of_cell (hcs 0 _ (List.getElem?_eq_getElem (by omega)))
  have hvw : vb < w.heap.size := block_lt_of_cell (hvs 0 _ (List.getElem?_eq_getElem (by omega)))
  have hkk : (n : Int) + (m : Int) - (i : Int) = ((n + m - i : Nat) : Int) := by omega
  have hik : i + (n + m - i) = n + m := by omega
  have hold : (Builtin.firstCells i0.size i (.slice (some ⟨b, 0, none⟩) i c)).run Tryz.prog w.drew = .ok (cs.take (i * 2)).toArray w.drew := by
    rw [hzs]
    exact run_firstCells_some w.drew 2 i ⟨b, 0, none⟩ i c (cs.take (i * 2)) (by rw [List.length_take]; omega) (fun j v hj => by
      rw [Addr.add_lit, Nat.zero_add]
      rw [List.getElem?_take] at hj
      split at hj
      · exact hcs j v hj
      · cases hj)
  have hrz : ∀ ty, (Builtin.append_ #[22, 3] ty #[.slice (some ⟨b, 0, none⟩) i c, .int .i64 ((n : Int) + (m : Int) - (i : Int))]).run Tryz.prog w =
      .ok (.slice (some ⟨w.heap.size, 0, none⟩) (n + m) (grownCap w (n + m) c 24)) (w.drew.alloc (.cells ((cs.take (i * 2)).toArray ++ Builtin.zeroCells (Value.agg #[.string ⟨#[]⟩, .int .i64 0]).cells (n + m - i) ++ Builtin.zeroCells (Value.agg #[.string ⟨#[]⟩, .int .i64 0]).cells (grownCap w (n + m) c 24 - (n + m))) 24)) := fun ty => by
    have h := Lib.run_append_grow_zeros w 22 3 ty 24 i0 _ .i64 .i64 Tryz.underlying22 Tryz.underlying3 hi0 hz0 (some ⟨b, 0, none⟩) i c (cs.take (i * 2)) hold (n + m - i) (by omega) (by omega) (by omega) (by omega) (by rw [hzb]; omega) (by rw [hzb, hik]; exact growslice_fits hroom hbig)
    rw [hik] at h
    rw [hkk]
    exact h
  obtain ⟨G, hG⟩ : ∃ G, G = grownCap w (n + m) c 24 := ⟨_, rfl⟩
  have hGn : n + m ≤ G := by rw [hG]; exact grownCap_ge w _ _ _
  have hGmx : G ≤ maxLen := by
    have := grownCap_le_maxLen w (n + m) c 24 (by unfold maxLen; omega)
    rwa [← hG] at this
  obtain ⟨ROW, hROW⟩ : ∃ ROW : Array Value, ROW = (cs.take (i * 2)).toArray ++ Builtin.zeroCells (Value.agg #[.string ⟨#[]⟩, .int .i64 0]).cells (n + m - i) ++ Builtin.zeroCells (Value.agg #[.string ⟨#[]⟩, .int .i64 0]).cells (G - (n + m)) := ⟨_, rfl⟩
  rw [← hG] at hrz
  rw [← hROW] at hrz
  have hzz : (Value.agg #[.string ⟨#[]⟩, .int .i64 0]).cells.size = 2 := rfl
  have hRs : ROW.size = G * 2 := by
    rw [hROW, Array.size_append, Array.size_append, size_zeroCells, size_zeroCells, hzz, List.size_toArray, List.length_take]
    omega
  have hRt : ROW.toList.take (i * 2) = cs.take (i * 2) := by
    rw [hROW, Array.toList_append, Array.toList_append, List.append_assoc]
    rw [List.take_append_of_le_length (by simp only [List.length_take]; omega), List.take_take, Nat.min_self]
  obtain ⟨W1, hW1⟩ : ∃ W1, W1 = w.drew.alloc (.cells ROW 24) := ⟨_, rfl⟩
  rw [← hW1] at hrz
  have hN : ∀ j, j < (n + m) * 2 → (W1.cell? ⟨w.heap.size, j, none⟩).isSome = true := fun j hj => by
    rw [hW1, World.cell?_alloc_at (w := w.drew) ROW _ w.heap.size j rfl, Array.getElem?_eq_getElem (by omega)]; rfl
  have hNf : ∀ j, W1.frozen? ⟨w.heap.size, j, none⟩ = false := fun j => by rw [hW1]; exact World.frozen?_alloc_at (w := w.drew) ROW _ w.heap.size j rfl
  have hOb : ∀ j v, w.cell? ⟨b, j, none⟩ = some v → W1.cell? ⟨b, j, none⟩ = some v := fun j v h => by rw [hW1, World.cell?_alloc_past (w := w.drew) _ b j hbw]; exact h
  have hOv : ∀ j v, w.cell? ⟨vb, j, none⟩ = some v → W1.cell? ⟨vb, j, none⟩ = some v := fun j v h => by rw [hW1, World.cell?_alloc_past (w := w.drew) _ vb j hvw]; exact h
  have hcpA : ∀ (W : World), (∀ x, W.cell? x = W1.cell? x) → (∀ x, W.frozen? x = W1.frozen? x) → ∀ ty dc, (Builtin.copy_ #[22, 22] ty #[.slice (some ⟨w.heap.size, i * 2, none⟩) (n + m - i) dc, .slice (some ⟨vb, 0, none⟩) m m]).run Tryz.prog W = .ok (goInt (Nat.min m (n + m - i))) (W.setCells w.heap.size (i * 2) vs) := fun W hWc hWf ty dc =>
    run_copy_floors W ty w.heap.size (i * 2) (n + m - i) dc ⟨vb, 0, none⟩ m m vs (by rw [hvl]; simp only [Nat.min_def]; split <;> omega)
      (fun j v hj => by rw [Addr.add_lit, Nat.zero_add, hWc]; exact hOv _ v (hvs j v hj))
      (fun j hj => by rw [hWc]; exact hN _ (by omega)) (fun j hj => by rw [hWf]; exact hNf _) h1v
  have hG63 : G ≤ 9223372036854775807 := by
    unfold maxLen at hGmx
    omega
  have hGi : ¬ (G = i) := by omega
  have hGim : ¬ (G = i + m) := by omega
  have hci : ¬ (c = i) := by omega
  have hbN : b ≠ w.heap.size := by omega
  have hdl : (cs.drop (i * 2)).length = (n - i) * 2 := by rw [List.length_drop, hcl]; omega
  have hcpB : ∀ (W : World), (∀ x, W.cell? x = (W1.setCells w.heap.size (i * 2) vs).cell? x) → (∀ x, W.frozen? x = (W1.setCells w.heap.size (i * 2) vs).frozen? x) → ∀ ty dc sc, (Builtin.copy_ #[22, 22] ty #[.slice (some ⟨w.heap.size, (i + m) * 2, none⟩) (n + m - (i + m)) dc, .slice (some ⟨b, i * 2, none⟩) (n - i) sc]).run Tryz.prog W = .ok (goInt (Nat.min (n - i) (n + m - (i + m)))) (W.setCells w.heap.size ((i + m) * 2) (cs.drop (i * 2))) := fun W hWc hWf ty dc sc =>
    run_copy_floors W ty w.heap.size ((i + m) * 2) (n + m - (i + m)) dc ⟨b, i * 2, none⟩ (n - i) sc (cs.drop (i * 2)) (by rw [hdl]; simp only [Nat.min_def]; split <;> omega)
      (fun j v hj => by
        rw [Addr.add_lit, hWc, World.cell?_setCells_out _ _ _ _ _ (fun h _ => absurd h hbN)]
        exact hOb _ v (hcs (i * 2 + j) v (by rwa [List.getElem?_drop] at hj)))
      (fun j hj => by rw [hWc]; exact isSome_setCells _ _ _ _ (fun t ht => hN _ (by omega)) _ (hN _ (by omega)))
      (fun j hj => by rw [hWf, World.frozen?_setCells]; exact hNf _) (fun v hv => h1c v (List.mem_of_mem_drop hv))
  subst hW1
  have hE1 : ∀ x, ((w.alloc (.cells ROW 24)).drew).cell? x = (w.drew.alloc (.cells ROW 24)).cell? x := fun x => rfl
  have hE2 : ∀ x, ((w.alloc (.cells ROW 24)).drew).frozen? x = (w.drew.alloc (.cells ROW 24)).frozen? x := fun x => rfl
  have hF1 : ∀ x, (((w.alloc (.cells ROW 24)).drew.setCells w.heap.size (i * 2) vs).drew).cell? x = ((w.drew.alloc (.cells ROW 24)).setCells w.heap.size (i * 2) vs).cell? x := fun x => rfl
  have hF2 : ∀ x, (((w.alloc (.cells ROW 24)).drew.setCells w.heap.size (i * 2) vs).drew).frozen? x = ((w.drew.alloc (.cells ROW 24)).setCells w.heap.size (i * 2) vs).frozen? x := fun x => rfl
  have hw1 : IntKind.i64.wrap ((i : Int) + (m : Int)) = (i : Int) + (m : Int) := by rw [IntKind.wrap_i64]; omega
  have hb1 : (0 : Int) ≤ (i : Int) + (m : Int) := by omega
  have hin : i ≤ n := by omega
  have htn : ((i : Int) + (m : Int)).toNat = i + m := by omega
  have hb3 : (i : Int) ≤ (n : Int) := by omega
  clear hkk hik hold hROW hG
  go_enter Tryz.func42, Tryz.ntmps42
  go_wp2_with (first
    | (at_builtin; refine Lib.wpList_append_run _ rfl _ _ _ _ rfl _ _ rfl rfl _ _ (hrz _) ?_)
    | (at_builtin; refine wpList_copy_runI _ rfl _ _ 22 22 rfl _ _ rfl rfl (hcpA _ hE1 hE2 _ _) ?_)
    | (at_builtin; refine wpList_copy_runI _ rfl _ _ 22 22 rfl _ _ rfl rfl (hcpB _ (fun _ => rfl) (fun _ => rfl) _ _ _) ?_))
  go_region_law (refine step_copy_runI rfl _ _ 22 22 rfl (.slice (some ⟨w.heap.size, (i + m) * 2, none⟩) (n + m - (i + m)) (G - (i + m))) (.slice (some ⟨b, i * 2, none⟩) (n - i) (c - i)) (by simp [Act.eval, Act.put]) (by simp [Act.eval, Act.put]) (hcpB _ hF1 hF2 3 (G - (i + m)) (c - i)) ?_)
  go_wp2
  go_ret
  exact ⟨_, _, rfl, hGn, hGmx, hRs, hRt, rfl⟩
theorem below_alloc1 {B : Nat} {a w : World} (h : Below B a w) (hB : B ≤ w.heap.size) (o : Obj) : Below B a (w.alloc o) := h.alloc hB o
/-- slices.Insert of one floor. -/
theorem ins_flo (base : Nat) (v : Value) (L : List Flo) (k : Nat) (f : Flo) (gv : Nat) (w : World) (hv : FlRow w base v L) (hL : L.length ≤ 1000) (hk : k ≤ L.length)
    (hgv : w.heap[gv]? = some (.cells #[.string (bs f.who), .int .i64 f.ep] 24 (0, 0))) (hne : ∀ g, v.ownBlock = some g → gv ≠ g) (hbase : base ≤ w.heap.size) :
    Calls Tryz.prog 42 #[v, .int .i64 (k : Int), .slice (some ⟨gv, 0, none⟩) 1 1] w fun e w' => ∃ v', e = .returned v' ∧ FlRow w' base v' (L.take k ++ f :: L.drop k) ∧ Below base w w' := by
  rcases Nat.lt_or_ge k L.length with hlt | hge
  · have hone : ∀ u ∈ f.cells, u.oneCell' = true := fun u hu => flatF_one [f] u (by simpa [flatF] using hu)
    have hfl : (flatF L).length = L.length * 2 := flatF_len L
    have hcv : ∀ j u, f.cells[j]? = some u → w.cell? ⟨gv, j, none⟩ = some u := by
      intro j u hj
      rw [cell_of_row _ _ _ _ _ _ hgv]
      simpa [Flo.cells] using hj
    rcases hv.shape with ⟨rfl, rfl⟩ | ⟨g, cap, cur, rfl, hgb, hgc, hcap, hmx, hsz, htk⟩
    · exact absurd hlt (Nat.not_lt_zero _)
    have hgg : gv ≠ g := hne g rfl
    have hcells := hv.cells
    have hlen := put_length L k f hk
    by_cases hroom : L.length + 1 ≤ cap
    · have hsp : ∀ j, j < (L.length + 1) * 2 → (w.cell? ⟨g, j, none⟩).isSome = true := fun j hj => by
        rw [cell_of_row w g _ _ _ _ hgc, Array.getElem?_eq_getElem (by rw [hsz]; omega)]; rfl
      refine (ins_shift0 g L.length cap k gv 1 (flatF L) f.cells w hlt (by decide) hroom (by unfold maxLen at hmx; omega) hgg hfl rfl hcells hsp (fun j _ => frozen_of_row _ _ _ _ _ hgc) hcv (flatF_one L) hone
        _ _ _ _ (shape_row hgv) (shape_row hgc) (by rw [hsz]; omega) (frozen_of_row _ _ _ _ _ hgv) (frozen_of_row _ _ _ _ _ hgv)).mono ?_
      rintro e w' ⟨rfl, rfl⟩
      obtain ⟨c1, a1, a2, a3⟩ := heap_setCells g 24 ((flatF L).drop (k * 2)) ((k + 1) * 2) w.drew cur hgc (by rw [List.length_drop, hfl, hsz]; omega)
      obtain ⟨c2, b1, b2, b3⟩ := heap_setCells g 24 f.cells (k * 2) _ c1 a1 (by rw [a2, hsz]; simp only [Flo.cells, List.length_cons, List.length_nil]; omega)
      refine ⟨_, rfl, ?_, below_setCells g hgb _ _ _ (below_setCells g hgb _ _ _ ((Below.refl _ _).drew))⟩
      unfold FlRow
      rw [hlen]
      refine ⟨by rw [flatF_len, hlen], .inr ⟨g, cap, c2, rfl, hgb, b1, hroom, hmx, by rw [b2, a2, hsz], ?_⟩⟩
      rw [flatF_put]
      exact splice_shift htk hfl hk rfl a3 b3 (by have e : cur.toList.length = cur.size := Array.length_toList; omega)
    · refine (ins_grow0 g L.length cap k gv 1 (flatF L) f.cells w hlt (by decide) hcap (by omega) (by omega) hfl rfl hcells hcv (flatF_one L) hone).mono ?_
      rintro e w' ⟨G, R, rfl, hG, hGm, hR, hRt, rfl⟩
      obtain ⟨c1, a1, a2, a3⟩ := heap_setCells w.heap.size 24 f.cells (k * 2) ((w.alloc (.cells R 24)).drew) R (heap_alloc_new w _) (by rw [hR]; simp only [Flo.cells, List.length_cons, List.length_nil]; omega)
      obtain ⟨c2, b1, b2, b3⟩ := heap_setCells w.heap.size 24 ((flatF L).drop (k * 2)) ((k + 1) * 2) (((w.alloc (.cells R 24)).drew.setCells w.heap.size (k * 2) f.cells).drew) c1 a1 (by rw [a2, hR, List.length_drop, hfl]; omega)
      refine ⟨_, rfl, ?_, below_setCells _ hbase _ _ _ ((below_setCells _ hbase _ _ _ (((Below.refl base w).alloc hbase _).drew)).drew)⟩
      unfold FlRow
      rw [hlen]
      refine ⟨by rw [flatF_len, hlen], .inr ⟨w.heap.size, G, c2, rfl, hbase, b1, hG, hGm, by rw [b2, a2, hR], ?_⟩⟩
      rw [flatF_put]
      exact splice_grow hRt hfl hk rfl a3 b3 (by have e : R.toList.length = R.size := Array.length_toList; omega)
  · have hke : k = L.length := by omega
    subst hke
    rw [List.take_length, List.drop_length]
    exact ins_end base v L f gv w hv hL hgv hbase
end Go.Proofs.YtcnadjdijolboaaGreatDoor

/- slices.Clone at floors; strings.Compare; the search for a floor's place: walked. -/
namespace Go.Proofs.YtcnadjdijolboaaGreatDoor
open Go.RowKit Go.Shelf Go.Lib

set_option maxHeartbeats 2000000 in
set_option maxRecDepth 100000 in
theorem clone_flo (v : Value) (L : List Flo) (w : World) (hv : FloorsAt w v L) (hL : L.length ≤ 1000) :
    Calls Tryz.prog 37 #[v] w fun e w' => ∃ v', e = .returned v' ∧ FlRow w' w.heap.size v' L ∧ Below w.heap.size w w' := by
  obtain ⟨i0, hi, hz0, hz1, hz2⟩ := info_parts info_floor
  obtain ⟨a, c, rfl, hlen, hcap, hcs⟩ := hv
  have hq := fun (w : World) (a : Option Addr) (n c n' c' : Nat) => Lib.run_eql_slice_nil (P := Tryz.prog) w 22 _ a n c n' c' Tryz.underlying22
  cases a with
  | none =>
    have h0 : L = [] := by
      cases L with
      | nil => rfl
      | cons f r => obtain ⟨b, o, h, _⟩ := hcs 0 (by simp); cases h
    subst h0
    clear hcs
    go_enter Tryz.func37, Tryz.ntmps37
    go_wp2_with fail
    go_ret
    exact ⟨_, rfl, World.ownsRow_nil _ _ _ _, Below.refl _ _⟩
  | some ad =>
    have hcell : ∀ j u, (flatF L)[j]? = some u → w.cell? (ad.add j) = some u := by
      intro j u hj
      have hlt := (List.getElem?_eq_some_iff.1 hj).1
      rw [flatF_len] at hlt
      obtain ⟨b, o, he, h0, h1⟩ := hcs (j / 2) (by omega)
      cases he
      obtain ⟨f0, f1⟩ := flatF_get L (j / 2) (by omega)
      rw [Addr.add_lit]
      rcases (show j = j / 2 * 2 ∨ j = j / 2 * 2 + 1 by omega) with hj2 | hj2
      · rw [← hj2] at h0 f0
        rw [f0] at hj
        cases hj
        exact h0
      · rw [Nat.add_assoc] at h1
        rw [← hj2] at h1 f1
        rw [f1] at hj
        cases hj
        exact h1
    have hcell := Lib.hid hcell
    clear hcs
    go_enter Tryz.func37, Tryz.ntmps37
    go_wp2_with (first
      | (at_builtin; refine wpList_append_own_at _ rfl _ _ 22 rfl w.heap.size 24 i0 (.agg #[.string ⟨#[]⟩, .int .i64 0]) 2 24 Tryz.underlying22 hi hz0 hz1 hz2 rfl (by decide) _ _ _ rfl (World.ownsRow_made w #[] 0 (Nat.le_refl _) (Nat.zero_le _) (by simp)) ad L.length c (flatF L) rfl ?hl ?c1 ?c2 ?c3 ?c4 ?c5 ?_)
      | go_in)
    case hl => exact flatF_len L
    case c1 => exact fun j u hj => Lib.cell?_alloc_some _ (hcell.out j u hj)
    case c2 => exact flatF_one L
    case c3 => unfold maxLen; omega
    case c4 => omega
    case c5 => simp
    intro v1 w1 hown hgrow _ _
    have hfin := Lib.hid (show FlRow w1 w.heap.size v1 L from by unfold FlRow; simpa using hown)
    have hKf := Lib.hid (((Below.refl w.heap.size w).alloc (Nat.le_refl _) _).grown hgrow (by simp) (by intro k hk; simp [Value.ownBlock] at hk; omega))
    clear hown hgrow
    go_wp2_with fail
    go_ret
    exact ⟨_, rfl, hfin.out, hKf.out⟩

theorem compare_neg : ∀ a b : List UInt8, compareBytes a b < 0 ↔ a < b
  | [], [] => by simp [compareBytes]
  | [], y :: b => by simp [compareBytes]
  | x :: a, [] => by simp [compareBytes]
  | x :: a, y :: b => by
    unfold compareBytes
    rw [List.cons_lt_cons_iff]
    by_cases h : x < y
    · simp [h]
    · rw [if_neg h]
      by_cases h2 : y < x
      · have hne : ¬ x = y := fun e => by subst e; exact h h2
        rw [if_pos h2]
        simp [h, hne]
      · have he : x = y := UInt8.le_antisymm (UInt8.not_lt.1 h2) (UInt8.not_lt.1 h)
        rw [if_neg h2, compare_neg a b]
        simp [h, he]
theorem compare_str (a b : List UInt8) (w : World) :
    Calls Tryz.prog 35 #[.string (bs a), .string (bs b)] w fun e w' => e = .returned (.int .i64 (compareBytes a b)) ∧ w' = w :=
  (Any.strings_Compare Tryz.cmpL (bs a) (bs b) w).mono fun e w' h => ⟨by rw [h.1, bs_list, bs_list], h.2⟩
theorem compare_range : ∀ a b : List UInt8, -1 ≤ compareBytes a b ∧ compareBytes a b ≤ 1
  | [], [] => by simp [compareBytes]
  | [], y :: b => by simp [compareBytes]
  | x :: a, [] => by simp [compareBytes]
  | x :: a, y :: b => by
    unfold compareBytes
    split
    · simp
    · split
      · simp
      · exact compare_range a b
theorem insF_at (f : Flo) : ∀ (L : List Flo) (k : Nat), k ≤ L.length → (∀ q (h : q < L.length), q < k → L[q].who < f.who) → (∀ h : k < L.length, ¬ L[k].who < f.who) → insF f L = L.take k ++ f :: L.drop k
  | [], k, hk, _, _ => by
    have : k = 0 := by simpa using hk
    subst this
    rfl
  | g :: r, 0, _, _, h2 => by
    have h3 : ¬ g.who < f.who := h2 (by simp)
    unfold insF
    rw [if_neg h3]
    rfl
  | g :: r, k + 1, hk, h1, h2 => by
    have h3 : g.who < f.who := h1 0 (by simp) (by omega)
    unfold insF
    rw [if_pos h3, insF_at f r k (by simpa using hk) (fun q hq hqk => h1 (q + 1) (by simpa using hq) (by omega)) (fun h => h2 (by simpa using h))]
    rfl
end Go.Proofs.YtcnadjdijolboaaGreatDoor

/- Floors that are joined: plain: no program in sight. -/
namespace Go.Proofs.YtcnadjdijolboaaGreatDoor

/-- What a join is, by what it lets pass. -/
structure IsJoin (a b L : List Flo) : Prop where
  g : Good0 L
  of_ : ∀ n, ofF L n = max (ofF a n) (ofF b n)
theorem IsJoin.unique {a b L M : List Flo} (h : IsJoin a b L) (k : IsJoin a b M) : L = M := floors_ext h.g k.g (fun n => by rw [h.of_, k.of_])
theorem IsJoin.comm {a b L : List Flo} (h : IsJoin a b L) : IsJoin b a L := ⟨h.g, fun n => by rw [h.of_]; omega⟩
theorem IsJoin.self {a L : List Flo} (ha : Good0 a) (h : IsJoin a a L) : L = a := floors_ext h.g ha (fun n => by rw [h.of_]; omega)
theorem IsJoin.again {a b x y : List Flo} (h : IsJoin a b x) (k : IsJoin x b y) : y = x := floors_ext k.g h.g (fun n => by rw [k.of_, h.of_]; omega)
theorem ofF_one (f : Flo) (h : oneF f = 0) (n : List UInt8) : ofF [f] n = if f.who = starW ∨ n = f.who then f.ep else 0 := by
  have he := (oneF_zero h).2.1
  by_cases hn : f.who = n
  · have hg : Good0 [f] := ⟨by simpa using h, by simp, by
      intro g hg hs
      rw [List.mem_singleton.1 hg] at hs ⊢
      rw [topF_cons, if_neg hs]
      omega⟩
    have := ofF_mem hg (g := f) (by simp)
    rw [← hn, this, if_pos (.inr rfl)]
  · rw [ofF_not (L := [f]) (n := n) (by simpa using hn), topF_cons]
    by_cases hs : f.who = starW
    · rw [if_pos hs, if_pos (.inl hs)]
    · rw [if_neg hs, if_neg (by rintro (h | h); exact hs h; exact hn h.symm)]
theorem IsJoin.one {a L : List Flo} {f : Flo} (ha : Good0 a) (hf : oneF f = 0) (h : IsJoin a [f] L) : L = upF a f := by
  obtain ⟨hg, hu⟩ := upF_all ha hf
  refine floors_ext h.g hg (fun n => ?_)
  rw [h.of_, hu, ofF_one f hf]
  have := ofF_top ha n
  have := topF_nonneg ha
  split
  · rfl
  · omega
/-- A join of one: right, too. -/
theorem isJoin_one {a : List Flo} {f : Flo} (ha : Good0 a) (hf : oneF f = 0) : IsJoin a [f] (upF a f) := by
  obtain ⟨hg, hu⟩ := upF_all ha hf
  refine ⟨hg, fun n => ?_⟩
  rw [hu, ofF_one f hf]
  have := ofF_top ha n
  have := topF_nonneg ha
  split
  · rfl
  · omega

/-! What the program makes. -/
def topJ (a b : List Flo) : Int := max (topF a) (topF b)
def epJ (a b : List Flo) (n : List UInt8) : Int := max (ofF a n) (ofF b n)
def putJ (a b : List Flo) (f : Flo) : Bool := decide (f.who = starW) || decide (topJ a b < epJ a b f.who)
/-- Before it is sorted. -/
def preJ (a b l : List Flo) : List Flo := (l.filter (putJ a b)).map fun f => ⟨f.who, epJ a b f.who⟩
theorem preJ_cons (a b : List Flo) (f : Flo) (l : List Flo) : preJ a b (f :: l) = if putJ a b f = true then ⟨f.who, epJ a b f.who⟩ :: preJ a b l else preJ a b l := by
  unfold preJ
  rw [List.filter_cons]
  split
  · rw [List.map_cons]
  · rfl
theorem preJ_snoc (a b l : List Flo) (f : Flo) : preJ a b (l ++ [f]) = if putJ a b f = true then preJ a b l ++ [⟨f.who, epJ a b f.who⟩] else preJ a b l := by
  unfold preJ
  rw [List.filter_append, List.filter_cons]
  split
  · simp
  · simp
theorem preJ_mem {a b l : List Flo} {g : Flo} : g ∈ preJ a b l ↔ ∃ f ∈ l, putJ a b f = true ∧ g = ⟨f.who, epJ a b f.who⟩ := by
  unfold preJ
  simp only [List.mem_map, List.mem_filter]
  constructor
  · rintro ⟨f, ⟨h1, h2⟩, rfl⟩; exact ⟨f, h1, h2, rfl⟩
  · rintro ⟨f, h1, h2, rfl⟩; exact ⟨f, ⟨h1, h2⟩, rfl⟩
instance : DecidableEq Flo := fun f g => decidable_of_iff (f.who = g.who ∧ f.ep = g.ep) ⟨fun h => Flo.ext' h.1 h.2, fun h => by subst h; exact ⟨rfl, rfl⟩⟩
/-- Neighbours that are the same: one. -/
def compF : List Flo → List Flo
  | [] => []
  | [x] => [x]
  | x :: y :: l => if x = y then compF (y :: l) else x :: compF (y :: l)
theorem compF_mem : ∀ (L : List Flo) (g : Flo), g ∈ compF L ↔ g ∈ L
  | [], g => Iff.rfl
  | [x], g => Iff.rfl
  | x :: y :: l, g => by
    unfold compF
    split
    · rename_i h
      rw [compF_mem (y :: l) g, h]
      simp
    · rw [List.mem_cons, compF_mem (y :: l) g]
      simp
theorem compF_sorted : ∀ (L : List Flo), L.Pairwise (fun f g => ¬ g.who < f.who) → (∀ f ∈ L, ∀ g ∈ L, f.who = g.who → f = g) → (compF L).Pairwise (fun f g => f.who < g.who)
  | [], _, _ => by simp [compF]
  | [x], _, _ => by simp [compF]
  | x :: y :: l, hs, hu => by
    have hs' := List.pairwise_cons.1 hs
    have ih := compF_sorted (y :: l) hs'.2 (fun f hf g hg => hu f (List.mem_cons_of_mem _ hf) g (List.mem_cons_of_mem _ hg))
    unfold compF
    split
    · exact ih
    · rename_i hne
      refine List.pairwise_cons.2 ⟨fun g hg => ?_, ih⟩
      have hg := (compF_mem (y :: l) g).1 hg
      have h1 := hs'.1 g hg
      refine lt_total h1 (fun e => ?_)
      have hxg : x = g := (hu x (by simp) g (List.mem_cons_of_mem _ hg) e.symm)
      subst hxg
      -- y lies between x and x
      rcases List.mem_cons.1 hg with h | h
      · exact hne h
      · have h2 := hs'.1 y (by simp)
        have h3 := (List.pairwise_cons.1 hs'.2).1 x h
        have : y.who = x.who := by
          by_cases h4 : y.who = x.who
          · exact h4
          · exact absurd (lt_total h2 h4) h3
        exact hne (hu y (by simp) x (by simp) this).symm
theorem compF_snoc : ∀ (L : List Flo) (x y : Flo), compF (L ++ [x, y]) = if x = y then compF (L ++ [x]) else compF (L ++ [x]) ++ [y]
  | [], x, y => by
    show compF [x, y] = _
    rw [compF]
    split
    · rename_i h; subst h; rfl
    · rfl
  | [a], x, y => by
    have ih := compF_snoc [] x y
    simp only [List.nil_append] at ih
    show compF (a :: x :: [y]) = _
    rw [show ([a] ++ [x] : List Flo) = a :: x :: [] from rfl, compF, ih]
    conv => rhs; rw [compF]
    by_cases h1 : a = x <;> by_cases h2 : x = y <;> simp [h1, h2, compF]
  | a :: b :: L, x, y => by
    have ih := compF_snoc (b :: L) x y
    simp only [List.cons_append] at ih ⊢
    rw [compF, ih]
    conv => rhs; rw [compF]
    by_cases h1 : a = b <;> by_cases h2 : x = y <;> simp [h1, h2]
/-- One more: the same as the last, or new. -/
theorem compF_step {L : List Flo} {q : Nat} (h : q + 1 < L.length) : compF (L.take (q + 2)) = if L[q] = L[q + 1] then compF (L.take (q + 1)) else compF (L.take (q + 1)) ++ [L[q + 1]] := by
  have h1 : L.take (q + 2) = L.take q ++ [L[q], L[q + 1]] := by
    rw [List.take_succ_eq_append_getElem h, List.take_succ_eq_append_getElem (by omega), List.append_assoc]
    rfl
  rw [h1, compF_snoc, List.take_succ_eq_append_getElem (by omega)]
/-- Where no two neighbours are the same nothing goes. -/
theorem compF_id {L : List Flo} : ∀ n, n ≤ L.length → (∀ i (h : i + 1 < L.length), i + 1 < n → L[i] ≠ L[i + 1]) → compF (L.take n) = L.take n
  | 0, _, _ => by simp [compF]
  | 1, hn, _ => by
    cases L with
    | nil => simp [compF]
    | cons a l => simp [compF]
  | n + 2, hn, h => by
    rw [compF_step (by omega), if_neg (h n (by omega) (by omega)), compF_id (n + 1) (by omega) (fun i h1 h2 => h i h1 (by omega)), List.take_succ_eq_append_getElem (i := n + 1) (by omega)]
theorem compF_le : ∀ L : List Flo, (compF L).length ≤ L.length
  | [] => Nat.le_refl _
  | [x] => Nat.le_refl _
  | x :: y :: l => by
    have := compF_le (y :: l)
    rw [compF]
    split
    · simp only [List.length_cons] at this ⊢; omega
    · simp only [List.length_cons] at this ⊢; omega
theorem epJ_name {a b : List Flo} (ha : Good0 a) (hb : Good0 b) {f : Flo} (hf : f ∈ a ++ b) : f.ep ≤ epJ a b f.who := by
  unfold epJ
  rcases List.mem_append.1 hf with h | h
  · have := ofF_mem ha h; omega
  · have := ofF_mem hb h; omega
/-- What is sorted, and has each but once, is the join. -/
theorem isJoin_of {a b S : List Flo} (ha : Good0 a) (hb : Good0 b) (hm : ∀ f, f ∈ S ↔ f ∈ preJ a b (a ++ b)) (hs : S.Pairwise (fun f g => ¬ g.who < f.who)) : IsJoin a b (compF S) := by
  have hmem : ∀ g, g ∈ compF S ↔ ∃ f ∈ a ++ b, putJ a b f = true ∧ g = ⟨f.who, epJ a b f.who⟩ := fun g => by rw [compF_mem, hm, preJ_mem]
  have hone : ∀ f ∈ a ++ b, oneF f = 0 := fun f hf => by
    rcases List.mem_append.1 hf with h | h
    · exact ha.one f h
    · exact hb.one f h
  have hst : (compF S).Pairwise (fun f g => f.who < g.who) := compF_sorted S hs (fun f hf g hg e => by
    obtain ⟨f', _, _, rfl⟩ := preJ_mem.1 ((hm f).1 hf)
    obtain ⟨g', _, _, rfl⟩ := preJ_mem.1 ((hm g).1 hg)
    dsimp only at e
    rw [e])
  have hta := topF_nonneg ha
  have htb := topF_nonneg hb
  -- the top
  have htop : topF (compF S) = topJ a b := by
    by_cases h : ∃ f ∈ a ++ b, f.who = starW
    · obtain ⟨f, hf, hw⟩ := h
      have hg : (⟨f.who, epJ a b f.who⟩ : Flo) ∈ compF S := (hmem _).2 ⟨f, hf, by unfold putJ; rw [decide_eq_true hw]; rfl, rfl⟩
      have hwho : ∀ L : List Flo, L.Pairwise (fun f g => f.who < g.who) → (∀ g ∈ L, g.who = starW ∨ starW < g.who) → ∀ g ∈ L, g.who = starW → topF L = g.ep := by
        intro L hL hall g hg hgs
        cases L with
        | nil => cases hg
        | cons q r =>
          rw [topF_cons]
          rcases List.mem_cons.1 hg with rfl | h
          · rw [if_pos hgs]
          · have h1 := (List.pairwise_cons.1 hL).1 g h
            rw [hgs] at h1
            rcases hall q (by simp) with h2 | h2
            · rw [h2] at h1; exact absurd h1 (List.lt_irrefl _)
            · exact absurd (List.lt_trans h1 h2) (List.lt_irrefl _)
      rw [hwho (compF S) hst (fun g hg => by
        obtain ⟨f', hf', _, rfl⟩ := (hmem g).1 hg
        rcases (oneF_zero (hone f' hf')).1 with h | h
        · exact .inl h
        · exact .inr (star_lt_name h)) _ hg hw]
      show epJ a b f.who = topJ a b
      rw [hw]
      unfold epJ topJ
      rw [ofF_star ha, ofF_star hb]
    · have hna : ∀ g ∈ a, g.who ≠ starW := fun g hg e => h ⟨g, List.mem_append_left _ hg, e⟩
      have hnb : ∀ g ∈ b, g.who ≠ starW := fun g hg e => h ⟨g, List.mem_append_right _ hg, e⟩
      rw [topF_not (fun g hg e => by
        obtain ⟨f', hf', _, rfl⟩ := (hmem g).1 hg
        exact h ⟨f', hf', e⟩)]
      unfold topJ
      rw [topF_not hna, topF_not hnb]
      rfl
  have hg : Good0 (compF S) := ⟨fun g hg => by
      obtain ⟨f, hf, _, rfl⟩ := (hmem g).1 hg
      have h1 := oneF_zero (hone f hf)
      have h2 := epJ_name ha hb hf
      have h3 := ofF_le ha f.who
      have h4 := ofF_le hb f.who
      unfold epJ at h2 ⊢
      unfold oneF
      dsimp only
      rw [if_neg (by rintro ⟨h5, h6⟩; rcases h1.1 with h | h; exact h5 h; rw [h] at h6; cases h6), if_pos ⟨by omega, by omega⟩], hst, fun g hg hns => by
      obtain ⟨f, hf, hp, rfl⟩ := (hmem g).1 hg
      rw [htop]
      unfold putJ at hp
      rw [decide_eq_false (show ¬ f.who = starW from hns), Bool.false_or] at hp
      exact of_decide_eq_true hp⟩
  refine ⟨hg, fun n => ?_⟩
  have hoa := ofF_top ha n
  have hob := ofF_top hb n
  rcases has_or (compF S) n with ⟨g, hg2, rfl⟩ | hno
  · rw [ofF_mem hg hg2]
    obtain ⟨f, _, _, rfl⟩ := (hmem g).1 hg2
    rfl
  · rw [ofF_not hno, htop]
    rcases has_or (a ++ b) n with ⟨f, hf, rfl⟩ | hno2
    · have hp : putJ a b f ≠ true := fun hp => hno _ ((hmem _).2 ⟨f, hf, hp, rfl⟩) rfl
      unfold putJ at hp
      have hp2 : ¬ (topJ a b < epJ a b f.who) := fun h => hp (by rw [decide_eq_true h, Bool.or_true])
      unfold topJ epJ at hp2
      unfold topJ
      omega
    · rw [ofF_not (fun g hg => hno2 g (List.mem_append_left _ hg)), ofF_not (fun g hg => hno2 g (List.mem_append_right _ hg))]
      rfl
end Go.Proofs.YtcnadjdijolboaaGreatDoor
