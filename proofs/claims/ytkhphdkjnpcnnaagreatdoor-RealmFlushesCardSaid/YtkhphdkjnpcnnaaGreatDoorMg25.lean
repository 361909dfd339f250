/- RlmA, FloD -/
import Derived.Test.YtkhphdkjnpcnnaaGreatDoorMg24
import Derived.Test.YtkhphdkjnpcnnaaGreatDoorMg6
import Derived.Deep.LoopGhost
import Derived.StillTailTactics
import Derived.Test.YtkhphdkjnpcnnaaGreatDoorMg10
import Derived.Laws.IdiomCopy
/- realm.Add, New: walked. -/
namespace Go.Proofs.YtkhphdkjnpcnnaaGreatDoor set_option linter.unusedVariables false set_option linter.unusedSimpArgs false
open Go.RowKit

theorem addOf_bad {L : List Per} {n : List UInt8} {k : Int} (h : (addOf L n k).1 ≠ 0) : (addOf L n k).2 = L := by
  unfold addOf at h ⊢
  split
  · rfl
  · split
    · rfl
    · split
      · rfl
      · split
        · rfl
        · rename_i h1 h2 h3 h4
          rw [if_neg h1, if_neg h2, if_neg h3, if_neg h4] at h
          exact absurd rfl h
theorem starE_all {L : List Ent} (h : ∀ e ∈ L, e.f.ep ≤ 1073741824) : starE L ≤ 1073741824 := by
  induction L using snoc_ind with
  | nil => decide
  | snoc L e ih =>
    rw [starE_snoc]
    have h1 := ih (fun e he => h e (List.mem_append_left _ he))
    have h2 := h e (by simp)
    split <;> omega
theorem starE_next {L : List Ent} {j : Nat} (h : j < L.length) : starE (L.take (j + 1)) = if L[j].f.who = starW then max (starE (L.take j)) L[j].f.ep else starE (L.take j) := by
  rw [List.take_succ_eq_append_getElem h, starE_snoc]
theorem ents_eps {L : List Ent} (h : (checkE L).1 = 0) : ∀ e ∈ L, 1 ≤ e.f.ep ∧ e.f.ep ≤ 1073741824 := fun e he => by
  obtain ⟨i, hi, rfl⟩ := List.getElem_of_mem he
  have := (time_of h hi).2.2.2
  rw [getD_get hi] at this
  exact (oneF_zero this).2
theorem RlmAt.off_map {w : World} {base a b r : Nat} {R : Rlm} (h : RlmAt w base a b r R) {vl : Value} {L : List Ent} (h2 : RowG entC w base 115 vl L) : ∀ g, vl.ownBlock = some g → ¬ g = r := fun g hg e => by
  obtain ⟨l, ⟨es, c, gr, _⟩, _⟩ := h.book.map
  obtain ⟨_, cs', h5⟩ := h2.block hg
  rw [e, gr] at h5
  cases h5
set_option maxHeartbeats 4000000 in
set_option maxRecDepth 100000 in
theorem addM_any {E : Nat → Addr} {base a b r : Nat} {R : Rlm} (n : List UInt8) (k : Int) (w : World) (hL : LaidS E w) (hR : RlmAt w base a b r R) (hG : GoodM R) (hn : n.length ≤ maxLen) :
    Calls Tryz.prog 23 #[.pointer (some ⟨a, 0, none⟩), .string (bs n), .int .i64 k] w fun e w' => e = .returned (errV E (addM R n k).1) ∧ RlmAt w' base a b r (addM R n k).2 ∧ Keeps (RlmS a r) w w' := by
  obtain ⟨al, cl, ⟨_, _, _, _, c4, c5⟩, _, hrow⟩ := hR.cells
  have had := Lib.hid (add_any (E := E) b r R.b n k w hL.laid hR.book hn (by have := hG.b.many; unfold maxLen; omega))
  generalize hres : addM R n k = res
  have hres := Lib.hid hres
  have hbk := Lib.hid (fun w' B (hk : Keeps (· = r) w w') (hB : BookAt w' b r B) => (show RlmAt w' base a b r { R with b := B } ∧ Keeps (RlmS a r) w w' from ⟨hR.book' hk hB, hk.mono fun k hk => .inr hk⟩))
  have hrw := Lib.hid (fun w' (hk : Keeps (· = r) w w') => hrow.keeps hk (hR.off_map hrow))
  have hne := hR.ne.1
  have hcw := Lib.hid (fun w' (hk : Keeps (· = r) w w') => (show w'.cell? ⟨a, 4, none⟩ = some (.pointer (some ⟨b, 0, none⟩)) ∧ w'.cell? ⟨a, 5, none⟩ = some (.slice al R.l.length cl) from ⟨hk.cell c4 hne, hk.cell c5 hne⟩))
  have hlen := hrow.at_.len
  have hS := hG.b.sorted
  have hGe := hG.b.epoch
  have hep := ents_eps (L := R.l) (by rw [hG.f])
  have hwh := ents_who (L := R.l) (by rw [hG.f])
  obtain ⟨rk, rl, rt, rs, rb, rL⟩ := R
  dsimp only at *
  clear hR hL hG hrow
  unfold maxLen at hlen
  by_cases hc0 : (addOf rb n k).1 = 0
  case neg =>
    have hr := hres.out
    unfold addM at hr
    rw [if_pos hc0] at hr
    subst hr
    dsimp only at *
    obtain ⟨T1, x1, hev⟩ := errV_ifc E hc0
    rw [hev] at had ⊢
    rw [addOf_bad hc0] at had
    clear hres hc0 c5 hcw
    go_enter Tryz.func23, Tryz.ntmps23
    go_wp2_with fail
    refine had.out.mono ?_
    rintro e w1 ⟨rfl, hk, hB⟩
    have hfin := Lib.hid (hbk.out _ _ hk hB)
    clear hk hB
    go_wp2_with fail
    go_ret
    exact ⟨rfl, hfin.out⟩
  obtain ⟨_, _, hfn, _, heq⟩ := addOf_some hc0
  have hr := hres.out
  unfold addM at hr
  rw [if_neg (by simpa using hc0)] at hr
  subst hr
  dsimp only at *
  rw [heq] at had
  dsimp only at had
  clear hres hc0 heq
  have hins : ∀ m, 1 ≤ m → m ≤ 1073741824 → ∀ p ∈ insP ⟨n, k, m, false⟩ rb, 1 ≤ p.epoch ∧ p.epoch ≤ 1073741824 := fun m h1 h2 p hp => by
    rcases insP_mem.1 hp with rfl | hp
    · exact ⟨h1, h2⟩
    · exact hGe p hp
  have hins := Lib.hid hins
  go_enter Tryz.func23, Tryz.ntmps23
  go_wp2_with fail
  refine had.out.mono ?_
  rintro e w1 ⟨rfl, hk, hB⟩
  have hkH := Lib.hid hk
  have hBH := Lib.hid hB
  obtain ⟨c4, c5⟩ := hcw.out _ hk
  clear hk hB had
  simp only [errV]
  go_wp2_with fail
  clear c4 c5
  go_loopg [25] (rL.length + 1) (fun g i wr => ∃ (j : Nat), i = .int .i64 j ∧ j ≤ rL.length ∧ rL.length - j + 1 ≤ g ∧ Hid (Keeps (· = r) w wr) ∧ Hid (BookAt wr b r (insP ⟨n, k, starE (rL.take j), false⟩ rb)))
  case atStart => exact ⟨0, rfl, Nat.zero_le _, by omega, hkH, hBH⟩
  case round =>
    obtain ⟨j, rfl, hj, hgj, hK, hB⟩ := hrel
    by_cases hlt : j < rL.length
    · have hk0 : (0 : Int) ≤ (j : Int) := by omega
      have hk1 : (j : Int) < (rL.length : Int) := by omega
      obtain ⟨ax, cx, he, _, _, _, hc⟩ := RowG.at_ (hrw.out _ hK.out)
      cases he
      obtain ⟨bb, o, hee, hcs⟩ := hc j hlt
      subst hee
      have d0 : wr.cell? ⟨bb, o + j * 4, none⟩ = some (.int .i64 rL[j].seq) := hcs 0 _ rfl
      have d1 : wr.cell? ⟨bb, o + j * 4 + 1, none⟩ = some (.int .i64 rL[j].time) := hcs 1 _ rfl
      have d2 : wr.cell? ⟨bb, o + j * 4 + 2, none⟩ = some (.string (bs rL[j].f.who)) := hcs 2 _ rfl
      have d3 : wr.cell? ⟨bb, o + j * 4 + 3, none⟩ = some (.int .i64 rL[j].f.ep) := hcs 3 _ rfl
      clear hcs hc
      have hnx := starE_next hlt
      have hbx := (Below.refl wr.heap.size wr).alloc (Nat.le_refl _) (.cells #[.int .i64 rL[j].seq, .int .i64 rL[j].time, .string (bs rL[j].f.who), .int .i64 rL[j].f.ep] 115)
      by_cases hw : rL[j].f.who = starW
      · rw [if_pos hw] at hnx
        have hse : ((bs rL[j].f.who).toList == [42]) = true := by rw [toList_data, bs_list, hw]; rfl
        have hw1 := Lib.hid hbx
        have he1 := hep _ (List.getElem_mem hlt)
        have hm1 := starE_pos (rL.take j)
        have hm2 : starE (rL.take j) ≤ 1073741824 := starE_all (fun e he => (hep e (List.mem_of_mem_take he)).2)
        have hto := Lib.hid (to_any b r (insP ⟨n, k, starE (rL.take j), false⟩ rb) n rL[j].f.ep _ (hB.out.below (hbx.drew)) (by omega) (by omega) (hins.out _ hm1 hm2))
        rw [toP_ins hS hfn, ← hnx] at hto
        have hkx := hK.out.trans (Keeps.of_below hbx)
        obtain ⟨c4, c5⟩ := hcw.out _ hkx
        have hKx := Lib.hid (hK.out.trans (Keeps.of_below hbx.drew))
        clear hbx hkx hnx he1 hm1 hm2 hw
        go_wp2_with fail
        go_still_tail 8, (by kernel_rfl)
        first | (change wpStill _ _ (World.drew _) _ _ _; repeat still_step; try refine wpStill_nil ?_) | skip
        change wpList _ _ _ _ _ (World.drew _)
        go_wp2_with fail
        refine hto.out.mono ?_
        rintro e w3 ⟨rfl, hk3, hB3⟩
        have hK3 := Lib.hid (hKx.out.trans hk3)
        have hB3 := Lib.hid hB3
        clear hk3
        go_wp2_with fail
        go_roundg (rL.length - j)
        case measure => omega
        case rel => exact ⟨j + 1, by simp, hlt, by omega, hK3, hB3⟩
      · rw [if_neg hw] at hnx
        have hse : ((bs rL[j].f.who).toList == [42]) = false := by
          rw [toList_data, bs_list]
          exact beq_eq_false_iff_ne.2 hw
        have hfin := Lib.hid (show Keeps (· = r) w _ ∧ BookAt _ b r (insP ⟨n, k, starE (rL.take (j + 1)), false⟩ rb) from ⟨hK.out.trans (Keeps.of_below hbx), by rw [hnx]; exact hB.out.below hbx⟩)
        clear hbx hnx hw
        go_wp2_with fail
        go_roundg (rL.length - j)
        case measure => omega
        case rel => exact ⟨j + 1, by simp, hlt, by omega, Lib.hid hfin.out.1, Lib.hid hfin.out.2⟩
    · have hge : ¬ ((j : Int) < (rL.length : Int)) := by omega
      have hj2 : j = rL.length := by omega
      subst hj2
      rw [List.take_length] at hB
      have hfin := Lib.hid (hbk.out _ _ hK.out hB.out)
      go_wp2_with fail
      go_ret
      exact ⟨rfl, hfin.out⟩
set_option maxRecDepth 100000 in
theorem newM_any {E : Nat → Addr} (k l : Int) (w : World) (hL : Laid E w) :
    Calls Tryz.prog 8 #[.int .i64 k, .int .i64 l] w fun e w' => (if isKey k = false then e = .returned (.tuple #[.pointer none, errV E 10]) else if l < 1 ∨ 1000000 < l then e = .returned (.tuple #[.pointer none, errV E 2]) else ∃ a b r, e = .returned (.tuple #[.pointer (some ⟨a, 0, none⟩), .nilIface]) ∧ RlmAt w' w.heap.size a b r (newRlm k l)) ∧ Below w.heap.size w w' := by
  by_cases hk : isKey k = true
  case neg =>
    have hk : isKey k = false := by simpa using hk
    rw [hk]
    simp only [if_true]
    have he := hL.e10
    go_enter Tryz.func8, Tryz.ntmps8
    go_wp2_with (go_at_call 33; refine (key_any _ _).mono ?_; rintro e w' ⟨rfl, rfl⟩)
    go_quiet (fail)
    go_wp2_with fail
    go_ret2
    exact ⟨rfl, below_drawn (Below.refl _ _) _⟩
  rw [hk]
  simp only [Bool.true_eq_false, if_false]
  by_cases hl : l < 1 ∨ 1000000 < l
  · simp only [if_pos hl]
    have he := hL.e2
    by_cases hl2 : l < 1
    · clear hl
      go_enter Tryz.func8, Tryz.ntmps8
      go_wp2_with (go_at_call 33; refine (key_any _ _).mono ?_; rintro e w' ⟨rfl, rfl⟩)
      go_quiet (fail)
      go_wp2_with fail
      go_ret2
      exact ⟨rfl, below_drawn (Below.refl _ _) _⟩
    · have hl : 1000000 < l := by omega
      go_enter Tryz.func8, Tryz.ntmps8
      go_wp2_with (go_at_call 33; refine (key_any _ _).mono ?_; rintro e w' ⟨rfl, rfl⟩)
      go_quiet (fail)
      go_wp2_with fail
      go_ret2
      exact ⟨rfl, below_drawn (Below.refl _ _) _⟩
  · simp only [if_neg hl]
    have h1 : ¬ l < 1 := by omega
    have h2 : ¬ 1000000 < l := by omega
    clear hl
    have hnb := Lib.hid (new_book w)
    go_enter Tryz.func8, Tryz.ntmps8
    go_wp2_with (go_at_call 33; refine (key_any _ _).mono ?_; rintro e w' ⟨rfl, rfl⟩)
    refine hnb.out.mono ?_
    rintro e w1 ⟨b, r, rfl, hb, hgb, hgr, hB⟩
    have hfin := Lib.hid (show RlmAt (w1.alloc (.cells (rlmCells (newRlm k l) b (.slice none 0 0)) 83)) w.heap.size w1.heap.size b r (newRlm k l) from
      ⟨hb.size, hgr, ⟨_, heap_alloc_new w1 _, RowG.nil _ _ _⟩, hB.below ((Below.refl _ _).alloc (Nat.le_refl _) _)⟩)
    have hbf := Lib.hid (hb.alloc hb.size (.cells (rlmCells (newRlm k l) b (.slice none 0 0)) 83))
    clear hb hB
    go_wp2_with fail
    go_ret2
    exact ⟨⟨_, _, _, rfl, hfin.out⟩, hbf.out⟩
end Go.Proofs.YtkhphdkjnpcnnaaGreatDoor

/- floor.Raise's closures; slices.DeleteFunc at floors, walked. -/
namespace Go.Proofs.YtkhphdkjnpcnnaaGreatDoor set_option linter.unusedVariables false set_option linter.unusedSimpArgs false
open Go.RowKit

theorem AsksF.at_below {g : Nat} {cs : Array Value} {p : Flo → Bool} {w w' : World} (h : AsksF g cs p w) (hb : Below w.heap.size w w') : AsksF g cs p w' :=
  fun W f hf hW => h W f hf (hb.trans (hW.mono hb.size))
set_option maxRecDepth 100000 in
theorem raise1_asks (f : Flo) (b : Nat) (w : World) (h0 : w.cell? ⟨b, 0, none⟩ = some (.string (bs f.who))) (h1 : w.cell? ⟨b, 1, none⟩ = some (.int .i64 f.ep)) :
    AsksF 107 #[.pointer (some ⟨b, 0, none⟩)] (fun g => !keepF f g) w := by
  intro W g hl hW
  have h0 := cell_below hW h0
  have h1 := cell_below hW h1
  obtain ⟨fw, fe⟩ := f
  obtain ⟨gw, ge⟩ := g
  dsimp only [Flo.val] at *
  have hlt := World.block_lt_of_cell? W _ h0
  have c0 : ∀ o, (W.alloc o).cell? ⟨b, 0, none⟩ = some (.string (bs fw)) := fun o => by rw [World.cell?_alloc_lt _ _ _ hlt]; exact h0
  have c1 : ∀ o, (W.alloc o).cell? ⟨b, 1, none⟩ = some (.int .i64 fe) := fun o => by rw [World.cell?_alloc_lt _ _ _ (show (⟨b, 1, none⟩ : Addr).block < _ from hlt)]; exact h1
  have hk : (!keepF ⟨fw, fe⟩ ⟨gw, ge⟩) = (gw == fw || (fw == starW && decide (ge ≤ fe))) := by unfold keepF; simp
  have e1 : ((bs gw).toList == (bs fw).toList) = (gw == fw) := by rw [toList_data, toList_data, bs_list, bs_list]
  have e2 : ((bs fw).toList == [42]) = (fw == starW) := by rw [toList_data, bs_list]; rfl
  have hB := (Below.refl W.heap.size W).alloc (Nat.le_refl _) (.cells #[.string (bs gw), .int .i64 ge] 113)
  clear h0 h1 hW
  rw [hk]
  clear hk
  cases q1 : (gw == fw) with
  | true =>
    rw [q1] at e1
    clear q1
    go_enter Tryz.func107, Tryz.ntmps107
    go_wp2_with fail
    go_ret
    exact ⟨rfl, hB⟩
  | false =>
    rw [q1] at e1
    cases q2 : (fw == starW) with
    | false =>
      rw [q2] at e2
      clear q1 q2
      go_enter Tryz.func107, Tryz.ntmps107
      go_wp2_with fail
      go_ret
      exact ⟨rfl, hB⟩
    | true =>
      rw [q2] at e2
      clear q1 q2
      by_cases hle : ge ≤ fe
      all_goals
        go_enter Tryz.func107, Tryz.ntmps107
        go_wp2_with fail
        go_ret
        exact ⟨by simp [hle], hB⟩

/-- Cells written one behind the other into a block. -/
theorem heap_setCells (g : Nat) (T : TypeId) : ∀ (vs : List Value) (o : Nat) (w : World) (cur : Array Value), w.heap[g]? = some (.cells cur T (0, 0)) → o + vs.length ≤ cur.size →
    ∃ cur' : Array Value, (w.setCells g o vs).heap[g]? = some (.cells cur' T (0, 0)) ∧ cur'.size = cur.size ∧ cur'.toList = cur.toList.take o ++ vs ++ cur.toList.drop (o + vs.length)
  | [], o, w, cur, h, _ => ⟨cur, h, rfl, by simp⟩
  | v :: r, o, w, cur, h, hl => by
    have h1 := heap_setCell_same w g o cur T v h
    obtain ⟨cur', h2, h3, h4⟩ := heap_setCells g T r (o + 1) (w.setCell ⟨g, o, none⟩ v) _ h1 (by simp at hl ⊢; omega)
    refine ⟨cur', h2, by simpa using h3, ?_⟩
    rw [h4]
    simp only [List.length_cons] at hl
    have ho : o < cur.toList.length := by simp; omega
    simp only [Array.toList_setIfInBounds, List.length_cons]
    rw [List.take_add_one, List.getElem?_set_self ho, List.take_set_of_le (Nat.le_refl _), List.drop_set_of_lt (by omega), show o + 1 + r.length = o + (r.length + 1) by omega]
    simp
theorem heap_setCells_other (g k : Nat) (h : k ≠ g) : ∀ (vs : List Value) (o : Nat) (w : World), (w.setCells g o vs).heap[k]? = w.heap[k]?
  | [], _, _ => rfl
  | v :: r, o, w => by rw [World.setCells, heap_setCells_other g k h r, heap_setCell_other _ _ _ _ h]
theorem below_setCells {B : Nat} {a : World} (g : Nat) (hg : B ≤ g) : ∀ (vs : List Value) (o : Nat) (w : World), Below B a w → Below B a (w.setCells g o vs)
  | [], _, _, h => h
  | v :: r, o, w, h => below_setCells g hg r (o + 1) _ (h.setCell (p := ⟨g, o, none⟩) hg v)
theorem zero_floor (w : World) : (zeroValue 113).run Tryz.prog w = .ok (.agg #[.string ⟨#[]⟩, .int .i64 0]) w := by kernel_rfl
theorem zeros_floor (n : Nat) : (Builtin.zeroCells (Value.agg #[.string ⟨#[]⟩, .int .i64 0]).cells n).toList.length = n * 2 ∧ ∀ u ∈ (Builtin.zeroCells (Value.agg #[.string ⟨#[]⟩, .int .i64 0]).cells n).toList, u.oneCell' = true := by
  have hs : (Value.agg #[.string ⟨#[]⟩, .int .i64 0]).cells = #[.string ⟨#[]⟩, .int .i64 0] := rfl
  rw [hs]
  refine ⟨by rw [Array.length_toList, size_zeroCells]; rfl, fun u hu => ?_⟩
  unfold Builtin.zeroCells at hu
  simp only [Array.toList_map, List.mem_map] at hu
  obtain ⟨i, _, rfl⟩ := hu
  have : i % 2 = 0 ∨ i % 2 = 1 := by omega
  rcases this with h | h
  · show ((#[Value.string ⟨#[]⟩, .int .i64 0] : Array Value)[i % 2]!).oneCell' = true
    rw [h]; rfl
  · show ((#[Value.string ⟨#[]⟩, .int .i64 0] : Array Value)[i % 2]!).oneCell' = true
    rw [h]; rfl
theorem run_clear_floors (w : World) (ty : TypeId) (b o n c : Nat) (hn : 0 < n) (hc : ∀ j, j < n * 2 → (w.cell? ⟨b, o + j, none⟩).isSome = true) (hf : ∀ j, j < n * 2 → w.frozen? ⟨b, o + j, none⟩ = false) :
    (Builtin.clear_ #[54] ty #[.slice (some ⟨b, o, none⟩) n c]).run Tryz.prog w = .ok (.tuple #[]) (w.setCells b o (Builtin.zeroCells (Value.agg #[.string ⟨#[]⟩, .int .i64 0]).cells n).toList) := by
  obtain ⟨hz1, hz2⟩ := zeros_floor n
  have hst := run_storeCells_cells (P := Tryz.prog) b o (Builtin.zeroCells (Value.agg #[.string ⟨#[]⟩, .int .i64 0]).cells n).toList 0 w (by rw [hz1]; simpa using hc) (by rw [hz1]; simpa using hf) hz2
  simp only [Nat.add_zero] at hst
  obtain ⟨m, rfl⟩ : ∃ m, n = m + 1 := ⟨n - 1, by omega⟩
  simp [Builtin.clear_, run_underlying Tryz.underlying54, zero_floor, hst]

theorem take_keep {p : Flo → Bool} {L : List Flo} {q : Nat} (hq : q < L.length) : (L.take (q + 1)).filter (fun f => !p f) = (L.take q).filter (fun f => !p f) ++ (if p L[q] = true then [] else [L[q]]) := by
  rw [List.take_succ_eq_append_getElem hq, List.filter_append]
  congr 1
  by_cases h : p L[q] = true
  · rw [if_pos h]; simp [h]
  · rw [if_neg h]; simp [h]
set_option maxHeartbeats 2000000 in
set_option maxRecDepth 100000 in
theorem delf_flo (w0 : World) (v : Value) (L : List Flo) (g : Nat) (cs : Array Value) (p : Flo → Bool) (w : World) (hv : FlRow w w0.heap.size v L) (hL : L.length ≤ 1000) (hm : ∀ f ∈ L, f.who.length ≤ maxLen) (hbw : Below w0.heap.size w0 w) (hg : AsksF g cs p w0) (eg : ∀ args w, (callFunc g args).run Tryz.prog w = .ok (.enter g args) w) :
    Calls Tryz.prog 106 #[v, .func (.func g) #[] cs] w fun e w' => ∃ v', e = .returned v' ∧ FlRow w' w0.heap.size v' (L.filter fun f => !p f) ∧ Below w0.heap.size w0 w' := by
  have hix := Lib.hid (index_flo v L g cs p w (hv.at_ (by unfold maxLen; omega)) hm (hg.at_below hbw) eg)
  have hmH := Lib.hid hm
  have hgH := Lib.hid hg
  clear hm hg
  by_cases hall : ∀ i (h : i < L.length), p L[i] = false
  · have hfi := firstF_none hall
    rw [hfi] at hix
    have hfl : L.filter (fun f => !p f) = L := List.filter_eq_self.2 fun f hf => by
      obtain ⟨i, hi, rfl⟩ := List.getElem_of_mem hf
      rw [hall i hi]; rfl
    rw [hfl]
    clear hfi hfl hall
    have hbw := Lib.hid hbw
    rcases hv.shape with ⟨rfl, rfl⟩ | ⟨gb, cap, cur, rfl, _⟩
    all_goals
      go_enter Tryz.func106, Tryz.ntmps106
      go_wp2_with fail
      refine hix.out.mono ?_
      rintro e w1 ⟨rfl, hb1⟩
      have hb1 := Lib.hid hb1
      go_wp2_with fail
      go_ret
      exact ⟨_, rfl, hv.below hb1.out, hbw.out.trans (hb1.out.mono hbw.out.size)⟩
  · obtain ⟨i0, hi0, hp0, hbef⟩ : ∃ (i0 : Nat) (h : i0 < L.length), p L[i0] = true ∧ ∀ i (h : i < L.length), i < i0 → p L[i] = false := by
      have hlt : L.findIdx p < L.length := by
        rcases Nat.lt_or_ge (L.findIdx p) L.length with h | h
        · exact h
        · exfalso
          apply hall
          intro i hi
          have : L.findIdx p = L.length := Nat.le_antisymm List.findIdx_le_length h
          have := (List.findIdx_eq_length.1 this) L[i] (List.getElem_mem hi)
          simpa using this
      refine ⟨L.findIdx p, hlt, List.findIdx_getElem, fun i hi hii => by simpa using List.not_of_lt_findIdx hii⟩
    have hfi := firstF_of hi0 hp0 hbef
    rw [hfi] at hix
    clear hfi hall
    rcases hv.shape with ⟨rfl, rfl⟩ | ⟨gb, cap, cur, rfl, hgb, hgc, hcap, hmx, hsz, htk⟩
    · exact absurd hi0 (Nat.not_lt_zero _)
    have hf0 : (L.take (i0 + 1)).filter (fun f => !p f) = L.take i0 := by
      rw [take_keep hi0, if_pos hp0, List.append_nil]
      refine List.filter_eq_self.2 fun f hf => ?_
      obtain ⟨i, hi, rfl⟩ := List.getElem_of_mem hf
      have hi2 : i < i0 := by rw [List.length_take] at hi; omega
      rw [List.getElem_take, hbef i (by omega) hi2]; rfl
    have hf0 := Lib.hid hf0
    have hbw := Lib.hid hbw
    clear hp0 hbef hgc hsz htk
    go_enter Tryz.func106, Tryz.ntmps106
    go_wp2_with fail
    refine hix.out.mono ?_
    rintro e w1 ⟨rfl, hb1⟩
    have hv1 := Lib.hid (hv.below hb1)
    have hbw1 := Lib.hid (hbw.out.trans (hb1.mono hbw.out.size))
    clear hb1 hv hix
    unfold maxLen at hmx
    go_wp2_with fail
    go_loopg [5, 6] (L.length + 1) (fun g8 i j wr => ∃ (a q : Nat) (X : List Flo), i = .int .i64 a ∧ j = .int .i64 q ∧ a < q ∧ q ≤ L.length ∧ L.length - q + 1 ≤ g8 ∧ X.length = L.length ∧ Hid (X.take a = (L.take q).filter fun f => !p f) ∧ Hid (X.drop q = L.drop q) ∧ Hid (FlRow wr w0.heap.size (.slice (some ⟨gb, 0, none⟩) L.length cap) X) ∧ Hid (Below w0.heap.size w0 wr))
    case atStart => exact ⟨i0, i0 + 1, L, by simp, by simp, by omega, hi0, by omega, rfl, Lib.hid hf0.out.symm, Lib.hid rfl, hv1, hbw1⟩
    case round =>
      obtain ⟨a, q, X, rfl, rfl, haq, hq, hgq, hXL, hXt, hXd, hrow, hK⟩ := hrel
      by_cases hlt : q < L.length
      · have hxq : X[q]? = some L[q] := by
          have h1 : (X.drop q)[0]? = (L.drop q)[0]? := by rw [hXd.out]
          rw [List.getElem?_drop, List.getElem?_drop, Nat.add_zero, List.getElem?_eq_getElem hlt] at h1
          exact h1
        obtain ⟨hqx, hxq⟩ := List.getElem?_eq_some_iff.1 hxq
        have hrowX : FlRow wr w0.heap.size (.slice (some ⟨gb, 0, none⟩) X.length cap) X := by rw [hXL]; exact hrow.out
        obtain ⟨f0, f1⟩ := flatF_get X q hqx
        have c0 := hrowX.cells _ _ f0
        have c1 := hrowX.cells _ _ f1
        rw [hxq] at c0 c1
        clear f0 f1
        have hB := hK.out.alloc hK.out.size (.cells #[.string (bs L[q].who), .int .i64 L[q].ep] 113)
        have hgc := Lib.hid (hgH.out _ L[q] (hmH.out _ (List.getElem_mem hlt)) hB)
        have hk0 : (0 : Int) ≤ (q : Int) := by omega
        have hk1 : (q : Int) < (L.length : Int) := by omega
        have htk := Lib.hid (take_keep (p := p) hlt)
        have hwi : IntKind.i64.wrap ((q : Int) + 1) = (q : Int) + 1 := by rw [IntKind.wrap_i64]; omega
        cases hb : p L[q] with
        | true =>
          rw [hb] at hgc
          have hXt2 := Lib.hid (show X.take a = (L.take (q + 1)).filter fun f => !p f by rw [htk.out, if_pos hb, List.append_nil]; exact hXt.out)
          have hXd2 := Lib.hid (show X.drop (q + 1) = L.drop (q + 1) by rw [← List.drop_drop, ← List.drop_drop, hXd.out])
          clear hb
          go_wp2_with fail
          refine hgc.out.mono ?_
          rintro e w2 ⟨rfl, hb2⟩
          have hA := (Below.refl wr.heap.size wr).alloc (Nat.le_refl _) (.cells #[.string (bs L[q].who), .int .i64 L[q].ep] 113)
          have hrow2 := Lib.hid (hrow.out.below (below_trans hA hb2))
          have hK2 := Lib.hid (hK.out.trans ((below_trans hA hb2).mono hK.out.size))
          clear c0 c1 hA hb2
          go_wp2_with fail
          go_roundg (L.length - q)
          case measure => omega
          case rel => exact ⟨a, q + 1, X, by simp, by simp, by omega, hlt, by omega, hXL, hXt2, hXd2, hrow2, hK2⟩
        | false =>
          rw [hb] at hgc
          have hax : a < X.length := by omega
          have hXt2 := Lib.hid (show (X.set a L[q]).take (a + 1) = (L.take (q + 1)).filter fun f => !p f by
            rw [htk.out, if_neg (by rw [hb]; decide), ← hXt.out, List.take_succ_eq_append_getElem (by rw [List.length_set]; exact hax), List.getElem_set_self, List.take_set_of_le (Nat.le_refl _)])
          have hXd2 := Lib.hid (show (X.set a L[q]).drop (q + 1) = L.drop (q + 1) by
            rw [List.drop_set_of_lt (by omega), ← List.drop_drop, ← List.drop_drop, hXd.out])
          clear hb
          go_wp2_with fail
          refine hgc.out.mono ?_
          rintro e w2 ⟨rfl, hb2⟩
          have hA := (Below.refl wr.heap.size wr).alloc (Nat.le_refl _) (.cells #[.string (bs L[q].who), .int .i64 L[q].ep] 113)
          have d0 := cell_below hb2 (show (wr.alloc (.cells #[.string (bs L[q].who), .int .i64 L[q].ep] 113)).cell? ⟨wr.heap.size, 0, none⟩ = some (.string (bs L[q].who)) by simp)
          have d1 := cell_below hb2 (show (wr.alloc (.cells #[.string (bs L[q].who), .int .i64 L[q].ep] 113)).cell? ⟨wr.heap.size, 1, none⟩ = some (.int .i64 L[q].ep) by simp)
          have hrow2 := hrowX.below (below_trans hA hb2)
          have hK2 := hK.out.trans ((below_trans hA hb2).mono hK.out.size)
          obtain ⟨f0, f1⟩ := flatF_get X a hax
          have s0 := hrow2.cells _ _ f0
          have s1 := hrow2.cells _ _ f1
          have z0 := hrow2.frozen (a * 2)
          have z1 := hrow2.frozen (a * 2 + 1)
          have hka : (0 : Int) ≤ (a : Int) := by omega
          have hka1 : (a : Int) < (L.length : Int) := by omega
          have hwa : IntKind.i64.wrap ((a : Int) + 1) = (a : Int) + 1 := by rw [IntKind.wrap_i64]; omega
          have hrow3 := Lib.hid (show FlRow _ w0.heap.size (.slice (some ⟨gb, 0, none⟩) L.length cap) (X.set a L[q]) from by have := hrow2.set hax L[q]; rw [hXL] at this; exact this)
          have hK3 := Lib.hid ((hK2.setCell (p := ⟨gb, a * 2, none⟩) hgb (.string (bs L[q].who))).setCell (p := ⟨gb, a * 2 + 1, none⟩) hgb (.int .i64 L[q].ep))
          clear c0 c1 hA hb2 hrow2 hrowX f0 f1 hK2
          go_wp2_with fail
          go_roundg (L.length - q)
          case measure => omega
          case rel => exact ⟨a + 1, q + 1, X.set a L[q], by simp, by simp, by omega, hlt, by omega, by rw [List.length_set]; exact hXL, hXt2, hXd2, hrow3, hK3⟩
      · have hqe : q = L.length := by omega
        subst hqe
        have hge : ¬ ((L.length : Int) < (L.length : Int)) := by omega
        have hrowX : FlRow wr w0.heap.size (.slice (some ⟨gb, 0, none⟩) X.length cap) X := by rw [hXL]; exact hrow.out
        have hXt2 := Lib.hid (hXt.out.trans (by rw [List.take_length]))
        rcases hrowX.shape with ⟨h1, _⟩ | ⟨g', cap', cur, he, hb', hg', hc', hm', hsz, htk⟩
        · cases h1
        cases he
        have hcells : ∀ j, j < (L.length - a) * 2 → (wr.cell? ⟨gb, a * 2 + j, none⟩).isSome = true := fun j hj => by
          rw [cell_of_row wr gb _ _ _ _ hg', Array.getElem?_eq_getElem (by rw [hsz]; omega)]; rfl
        have hcl := fun ty => run_clear_floors wr ty gb (a * 2) (L.length - a) (cap - a) (by omega) hcells (fun j _ => frozen_of_row _ _ _ _ _ hg')
        obtain ⟨hz1, _⟩ := zeros_floor (L.length - a)
        obtain ⟨cur', k1, k2, k3⟩ := heap_setCells gb 113 (Builtin.zeroCells (Value.agg #[.string ⟨#[]⟩, .int .i64 0]).cells (L.length - a)).toList (a * 2) wr cur hg' (by rw [hz1, hsz]; omega)
        have hfin := Lib.hid (show FlRow (wr.setCells gb (a * 2) (Builtin.zeroCells (Value.agg #[.string ⟨#[]⟩, .int .i64 0]).cells (L.length - a)).toList) w0.heap.size (.slice (some ⟨gb, 0, none⟩) a cap) (L.filter fun f => !p f) by
          have hla : (L.filter fun f => !p f).length = a := by rw [← hXt2.out, List.length_take]; omega
          unfold FlRow
          rw [hla]
          refine ⟨by rw [flatF_len, hla], .inr ⟨gb, cap, cur', rfl, hgb, k1, by omega, hm', by rw [k2, hsz], ?_⟩⟩
          rw [← hXt2.out, flatF_take, ← htk, List.take_take, Nat.min_eq_left (by omega), k3, List.append_assoc, List.take_append_of_le_length (by simp; omega), List.take_take, Nat.min_self])
        have hKf := Lib.hid (below_setCells gb hgb (Builtin.zeroCells (Value.agg #[.string ⟨#[]⟩, .int .i64 0]).cells (L.length - a)).toList (a * 2) wr hK.out)
        have hal : a ≤ L.length := by omega
        have hac : a ≤ cap := by omega
        clear k1 k2 k3 hz1 hcells hg' hsz htk hrowX
        generalize (Builtin.zeroCells (Value.agg #[.string ⟨#[]⟩, .int .i64 0]).cells (L.length - a)).toList = zs at *
        go_wp2_with fail
        go_ret
        exact ⟨_, rfl, hfin.out, hKf.out⟩
end Go.Proofs.YtkhphdkjnpcnnaaGreatDoor
