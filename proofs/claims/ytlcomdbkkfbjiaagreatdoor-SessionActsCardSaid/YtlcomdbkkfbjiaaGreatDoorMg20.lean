/- SesC, NumsW, Opened, Open, TickArg, FloArg, TickL -/
import Derived.Test.YtlcomdbkkfbjiaaGreatDoorMg13
import Derived.Test.YtlcomdbkkfbjiaaGreatDoorShelf2
import Derived.Deep.RegionHeld3
import Derived.Test.YtlcomdbkkfbjiaaGreatDoorMg11
import Derived.Test.YtlcomdbkkfbjiaaGreatDoorMg14
import Derived.Test.YtlcomdbkkfbjiaaGreatDoorMg1
import Derived.Deep.Slices
import Derived.Deep.Fields
import Derived.ChangeSame
import Derived.Test.YtlcomdbkkfbjiaaGreatDoorMg7
import Derived.ProofKit
/- A desk copied, walked: maps.Clone by the library's contract. -/
namespace Go.Proofs.YtlcomdbkkfbjiaaGreatDoor
open Go.RowKit Go.MapKept Go.Shelf

theorem clone_desk (r : Nat) (es : Array MapEntry) (clock : Nat) (w : World) (hb : w.heap[r]? = some (.map es clock)) :
    Calls Tryz.prog 33 #[.map (some r)] w fun e w' => e = .returned (.map (some w.heap.size)) ∧ w' = w.alloc (.map es clock) :=
  AnyW.maps_Clone Tryz.clone33 r es clock w hb
set_option maxRecDepth 100000 in
theorem copy_desk (b r : Nat) (next : Int) (L : List Ses) (w : World) (hD : DeskS w b r next L) :
    Calls Tryz.prog 19 #[.pointer (some ⟨b, 0, none⟩)] w fun e w' => ∃ b2 r2, e = .returned (.pointer (some ⟨b2, 0, none⟩)) ∧ DeskS w' b2 r2 next L ∧ Below w.heap.size w w' ∧ w.heap.size ≤ b2 := by
  obtain ⟨c0, _⟩ := hD.at0
  have c1 := hD.at1
  obtain ⟨hbk, l, ⟨es, clock, hb, hs, hk, hl⟩, hp⟩ := hD
  have hcl := Lib.hid (fun (wx : World) (h : Below w.heap.size w wx) => clone_desk r es clock wx (heap_below h hb))
  have hkC := Lib.hid (fun (wx : World) (h : Below w.heap.size w wx) => (show Below w.heap.size w wx ∧ wx.cell? ⟨b, 0, none⟩ = some (.int .i64 next) ∧ wx.cell? ⟨b, 1, none⟩ = some (.map (some r)) from ⟨h, cell_below h c0, cell_below h c1⟩))
  have hfin := Lib.hid (show DeskS ((w.alloc (.map es clock)).alloc (.cells #[.int .i64 next, .map (some w.heap.size)] 66)).drew (w.heap.size + 1) w.heap.size next L from by
    refine ⟨?_, l, ?_, hp⟩
    · have := heap_alloc_new (w.alloc (.map es clock)) (.cells #[.int .i64 next, .map (some w.heap.size)] 66)
      rwa [World.size_alloc] at this
    · exact MapV.below (w := w.alloc (.map es clock)) ⟨es, clock, heap_alloc_new w _, hs, hk, hl⟩ (((Below.refl _ _).alloc (Nat.le_refl _) _).drew))
  clear hb hs hk hl hp hbk
  go_enter Tryz.func19, Tryz.ntmps19
  go_wp2_with fail
  go_region_held3 (fun w' => Below w.heap.size w w' ∧ w'.cell? ⟨b, 0, none⟩ = some (.int .i64 next) ∧ w'.cell? ⟨b, 1, none⟩ = some (.map (some r)))
    ((exact hkC.out _ (by (first | exact (Below.refl _ _).drew | exact ((Below.refl _ _).alloc (Nat.le_refl _) _).drew | exact (((Below.refl _ _).alloc (Nat.le_refl _) _).alloc (by simp) _).drew))))
    (first | (go_at_call 33; refine (hcl.out _ (by (first | exact (Below.refl _ _).drew | exact Below.refl _ _))).mono ?_; rintro e w' ⟨rfl, rfl⟩))
  all_goals
    go_wp2_with fail
    go_ret
    exact ⟨_, _, rfl, hfin.out, (((Below.refl _ _).alloc (Nat.le_refl _) _).alloc (by simp) _).drew, by omega⟩
end Go.Proofs.YtlcomdbkkfbjiaaGreatDoor

/- SameInts, InInts: walked. -/
namespace Go.Proofs.YtlcomdbkkfbjiaaGreatDoor
open Go.RowKit

/-- A slice of numbers. -/
def NumsAt (w : World) (v : Value) (zs : List Int) : Prop := ∃ a c, v = .slice a zs.length c ∧ zs.length ≤ maxLen ∧ ∀ i (h : i < zs.length), ∃ b o, a = some ⟨b, o, none⟩ ∧ w.cell? ⟨b, o + i, none⟩ = some (.int .i64 zs[i])
theorem NumsAt.below {w w' : World} {v : Value} {zs : List Int} (h : NumsAt w v zs) (hb : Below w.heap.size w w') : NumsAt w' v zs := by
  obtain ⟨a, c, h1, h2, h3⟩ := h
  refine ⟨a, c, h1, h2, fun i hi => ?_⟩
  obtain ⟨b, o, h4, h5⟩ := h3 i hi
  exact ⟨b, o, h4, cell_below hb h5⟩
theorem IntRow.nums {w : World} {base : Nat} {v : Value} {zs : List Int} (h : IntRow w base v zs) (hm : zs.length ≤ maxLen) : NumsAt w v zs := by
  obtain ⟨a, c, rfl⟩ := h.sl
  exact ⟨a, c, rfl, hm, fun i hi => h.at_ i hi⟩
set_option maxRecDepth 100000 in
theorem sameInts_any (x y : Value) (A B : List Int) (w : World) (hx : NumsAt w x A) (hy : NumsAt w y B) :
    Calls Tryz.prog 18 #[x, y] w fun e w' => e = .returned (.bool (decide (A = B))) ∧ Below w.heap.size w w' := by
  obtain ⟨a, c, rfl, hm, ha⟩ := hx
  obtain ⟨a2, c2, rfl, hm2, ha2⟩ := hy
  unfold maxLen at hm hm2
  have ha := Lib.hid ha
  have ha2 := Lib.hid ha2
  by_cases hl : A.length = B.length
  case neg =>
    have hr := Lib.hid (show decide (A = B) = false from decide_eq_false (fun e => hl (by rw [e])))
    have hne : ((A.length : Int) != (B.length : Int)) = true := by rw [bne_iff_ne]; omega
    clear hl
    go_enter Tryz.func18, Tryz.ntmps18
    go_wp2_with fail
    go_ret
    exact ⟨ret_bool hr.out.symm, Below.refl _ _⟩
  have hne : ((A.length : Int) != (B.length : Int)) = false := by rw [bne_eq_false_iff_eq]; omega
  have hl := Lib.hid hl
  go_enter Tryz.func18, Tryz.ntmps18
  go_wp2_with fail
  go_loopg [5] (A.length + 1) (fun g i wr => ∃ j n : Nat, i = .int .i64 j ∧ j ≤ A.length ∧ A.length - j + 1 ≤ g ∧ wr = w.drewN n ∧ Hid (∀ q (h : q < A.length) (h2 : q < B.length), q < j → A[q] = B[q]))
  case atStart => exact ⟨0, 0, rfl, Nat.zero_le _, by omega, rfl, Lib.hid (fun _ _ _ h => absurd h (Nat.not_lt_zero _))⟩
  case round =>
    obtain ⟨j, n, rfl, hj, hgj, rfl, hall⟩ := hrel
    have hl2 := hl.out
    by_cases hlt : j < A.length
    · obtain ⟨b, o, rfl, h0⟩ := ha.out j hlt
      obtain ⟨b2, o2, rfl, k0⟩ := ha2.out j (by omega)
      have hk0 : (0 : Int) ≤ (j : Int) := by omega
      have hk1 : (j : Int) < (A.length : Int) := by omega
      have hk2 : (j : Int) < (B.length : Int) := by omega
      have hjB : j < B.length := by omega
      clear hl2
      by_cases he : A[j] = B[j]
      · have hb2 : (A[j] != B[j]) = false := by rw [he]; exact bne_self_eq_false _
        have hall2 := Lib.hid (show ∀ q (h : q < A.length) (h2 : q < B.length), q < j + 1 → A[q] = B[q] from fun q h h2 hq => by
          rcases Nat.lt_succ_iff_lt_or_eq.1 hq with h' | rfl
          · exact hall.out q h h2 h'
          · exact he)
        generalize A[j] = sa at *
        generalize B[j] = sb at *
        clear he
        go_wp2_with fail
        go_quiet (fail)
        go_wp2_with fail
        go_roundg (A.length - j)
        case measure => omega
        case rel => exact ⟨j + 1, _, by simp, hlt, by omega, rfl, hall2⟩
      · have hb : (A[j] != B[j]) = true := by rw [bne_iff_ne]; exact he
        have hr := Lib.hid (show decide (A = B) = false from decide_eq_false (fun e => he (by subst e; rfl)))
        generalize A[j] = sa at *
        generalize B[j] = sb at *
        clear he
        go_wp2_with fail
        go_quiet (fail)
        go_wp2_with fail
        go_ret
        exact ⟨ret_bool hr.out.symm, below_drawn (below_drawn (Below.refl _ _) _) _⟩
    · have hr := Lib.hid (show decide (A = B) = true from decide_eq_true (List.ext_getElem hl2 fun i h1 h2 => hall.out i h1 h2 (by omega)))
      have hge : ¬ ((j : Int) < (A.length : Int)) := by omega
      clear hl2
      go_wp2_with fail
      go_ret
      exact ⟨ret_bool hr.out.symm, below_drawn (Below.refl _ _) _⟩
end Go.Proofs.YtlcomdbkkfbjiaaGreatDoor

/- opened, walked: a session ends. -/
namespace Go.Proofs.YtlcomdbkkfbjiaaGreatDoor
open Go.RowKit Go.MapKept

def annW : List UInt8 := [97, 110, 110]
def doorW : List UInt8 := [100, 111, 111, 114]
def tickA : Tick := ⟨annW, doorW, 1, 0, 9, 1⟩
theorem open_A : openS 1 [] tickA 3 = ((1, 0), (2, [⟨1, tickA⟩])) := by kernel_rfl
theorem sweep_A : sweepS [⟨annW, 2⟩] 3 [⟨1, tickA⟩] = ([1], (0, -1), []) := by kernel_rfl
theorem good_A : GoodS 2 [⟨1, tickA⟩] := by
  have := (open_good good_new tickA 3).1
  rwa [open_A] at this
theorem good_B : GoodS 2 [] := by
  have := goodS_filter good_A (fun _ => false)
  simpa using this
set_option maxHeartbeats 4000000 in
set_option maxRecDepth 100000 in
theorem opened_any {E : Nat → Addr} (w : World) (hL : Laid E w) :
    Calls Tryz.prog 4 #[] w fun e w' => e = .returned (.bool true) ∧ Below w.heap.size w w' := by
  have hLH := Lib.hid hL
  clear hL
  go_enter Tryz.func4, Tryz.ntmps4
  go_wp2_with fail
  refine (new_desk _).mono ?_
  rintro e w1 ⟨b, r, rfl, hb1, hbb, hrr, hD1⟩
  have hop : Calls Tryz.prog 7 #[.pointer (some ⟨b, 0, none⟩), .agg #[.string ⟨#[97, 110, 110]⟩, .string ⟨#[100, 111, 111, 114]⟩, .int .i64 1, .int .i64 0, .int .i64 9, .int .i64 1], .int .i64 3] w1 _ := open_desk (E := E) b r 1 [] tickA 3 w1 (hLH.out.below hb1) hD1 good_new ⟨by decide, by decide⟩ (by decide)
  rw [open_A] at hop
  have hop := Lib.hid hop
  have hb1H := Lib.hid hb1
  clear hD1 hb1
  go_wp2_with fail
  refine hop.out.mono ?_
  rintro e w2 ⟨rfl, hk2, hD2⟩
  have hb2 := hb1H.out.trans (hk2.below hb1H.out.size (fun k h => by rcases h with rfl | rfl <;> assumption))
  have hA2 := (Below.refl w2.heap.size w2).alloc (Nat.le_refl _) (.cells #[.string ⟨#[97, 110, 110]⟩, .int .i64 2] 61)
  have hrow2 := heap_alloc_new w2 (.cells #[.string ⟨#[97, 110, 110]⟩, .int .i64 2] 61)
  have hF : FloorsAt (w2.alloc (.cells #[.string ⟨#[97, 110, 110]⟩, .int .i64 2] 61)) (.slice (some ⟨w2.heap.size, 0, none⟩) 1 1) [⟨annW, 2⟩] := by
    refine ⟨_, _, rfl, by unfold maxLen; simp, Nat.le_refl 1, fun i hi => ⟨w2.heap.size, 0, rfl, ?_⟩⟩
    have h0 : i = 0 := by simpa using hi
    subst h0
    exact ⟨by rw [cell_of_row _ _ _ _ _ _ hrow2]; rfl, by rw [cell_of_row _ _ _ _ _ _ hrow2]; rfl⟩
  have hsw := sweep_desk (E := E) b r 2 [⟨1, tickA⟩] _ [⟨annW, 2⟩] 3 _ (hLH.out.below (below_trans hb2 hA2)) (hD2.below hA2) good_A hF (by decide)
  rw [sweep_A] at hsw
  have hsw := Lib.hid hsw
  have hb3 := Lib.hid (below_trans hb2 hA2)
  have hsz3 := Lib.hid (show w.heap.size ≤ (w2.alloc (.cells #[.string ⟨#[97, 110, 110]⟩, .int .i64 2] 61)).heap.size from (below_trans hb2 hA2).size)
  clear hop hk2 hD2 hb2 hA2 hrow2 hF
  simp only [errV]
  go_wp2_with fail
  refine hsw.out.mono ?_
  rintro e w4 ⟨⟨v, ev, rfl, hrow, hev⟩, hk4, hD4⟩
  obtain ⟨hev0, _⟩ := hev.zero rfl
  subst hev0
  obtain ⟨a, c, hv⟩ := hrow.sl
  subst hv
  have hb4 := hb3.out.trans (hk4.below hsz3.out (fun k h => by rw [h]; exact hrr))
  have hA4 := (Below.refl w4.heap.size w4).alloc (Nat.le_refl _) (.cells #[.int .i64 1] 3)
  have hn1 : NumsAt (w4.alloc (.cells #[.int .i64 1] 3)) (.slice a ([1] : List Int).length c) [1] := (hrow.below hA4).nums (by unfold maxLen; simp)
  have hn2 : NumsAt (w4.alloc (.cells #[.int .i64 1] 3)) (.slice (some ⟨w4.heap.size, 0, none⟩) 1 1) [1] := by
    refine ⟨_, _, rfl, by unfold maxLen; simp, fun i hi => ⟨w4.heap.size, 0, rfl, ?_⟩⟩
    have h0 : i = 0 := by simpa using hi
    subst h0
    simp
  have hsm := Lib.hid (sameInts_any _ _ _ _ _ hn1 hn2)
  have hD5 := Lib.hid (hD4.below hA4)
  have hb5 := Lib.hid (below_trans hb4 hA4)
  clear hsw hrow hev hk4 hD4 hb4 hA4 hn1 hn2
  go_wp2_with fail
  refine hsm.out.mono ?_
  rintro e w6 ⟨rfl, hb6⟩
  have hal := Lib.hid (all_desk b r 2 [] w6 (hD5.out.below hb6) good_B (by decide))
  have hb6 := Lib.hid (below_trans hb5.out hb6)
  clear hsm
  go_wp2_with fail
  refine hal.out.mono ?_
  rintro e w7 ⟨v, rfl, hrow7, hb7⟩
  obtain ⟨a7, c7, hv⟩ := hrow7.sl
  subst hv
  have hb7 := Lib.hid (below_trans hb6.out hb7)
  clear hrow7
  go_wp2_with fail
  go_ret
  exact ⟨rfl, hb7.out⟩
end Go.Proofs.YtlcomdbkkfbjiaaGreatDoor

/- A slice of structs that came in, opened to its cells. No program in sight. -/
namespace Go.Proofs.YtlcomdbkkfbjiaaGreatDoor
open Go.ChangeShapes Go.WideShapes Go.Deep

theorem list_of {α : Type} {p : Nat → α → Prop} : ∀ (n : Nat), (∀ i, i < n → ∃ x, p i x) → ∃ l : List α, l.length = n ∧ ∀ i (h : i < l.length), p i l[i]
  | 0, _ => ⟨[], rfl, fun i h => by cases h⟩
  | n + 1, h => by
    obtain ⟨l, hl, hp⟩ := list_of n (fun i hi => h i (by omega))
    obtain ⟨x, hx⟩ := h n (by omega)
    refine ⟨l ++ [x], by simp [hl], fun i hi => ?_⟩
    by_cases hlt : i < l.length
    · rw [List.getElem_append_left hlt]; exact hp i hlt
    · have : i = n := by simp [hl] at hi; omega
      subst this
      rw [List.getElem_append_right (by omega)]
      simpa [hl] using hx

theorem cell_plain {w : World} {a : Addr} {k : Nat} {v : Value} (h : w.cell? (a.add k) = some v) : w.cell? ⟨a.block, a.off + k, none⟩ = some v := by
  unfold Addr.add at h
  by_cases hk : k = 0
  · rw [if_pos hk] at h
    subst hk
    obtain ⟨b, o, s⟩ := a
    cases s with
    | none => simpa using h
    | some x =>
      unfold World.cell? at h
      split at h <;> simp at h
  · rw [if_neg hk] at h; exact h
theorem addr_plain {w : World} {a : Addr} {v : Value} (h : w.cell? a = some v) : a = ⟨a.block, a.off, none⟩ := by
  obtain ⟨b, o, s⟩ := a
  cases s with
  | none => rfl
  | some x =>
    unfold World.cell? at h
    split at h <;> simp at h

theorem four_of {α : Type} {l : List α} (h : l.length = 4) : ∃ a b c d, l = [a, b, c, d] := by
  match l, h with
  | [a, b, c, d], _ => exact ⟨a, b, c, d, rfl⟩
section
variable {H : Type} {enc : TypeId × Value → H} {P : Program} {w : World} {base : Nat} {spare : Nat → Bool} {held : Bool}
/-- Each element's cells, and how they are read. -/
theorem slice_cells {t e : TypeId} {fuel : Nat} {cs : List Value} {x : DataW H × List MemPlace} (ht : P.underlying t = some (.slice e)) (h : DataW.trod enc P w base spare held fuel t cs = some x) :
    cs = [.slice none 0 0] ∨ ∃ (a : Addr) (len cap n : Nat), cs = [.slice (some a) len cap] ∧ len ≤ maxLen ∧
      ∀ i, i < len → ∃ (cs' : List Value) (y : DataW H × List MemPlace), cs'.length = P.cellsOf e ∧ (∀ j, j < P.cellsOf e → w.cell? ⟨a.block, a.off + (i * P.cellsOf e + j), none⟩ = cs'[j]?) ∧
        (∀ j, j < P.cellsOf e → i * P.cellsOf e + j = 0 → a = ⟨a.block, a.off, none⟩) ∧ DataW.trod enc P w base spare held n e cs' = some y := by
  rcases open_slice ht h with h0 | ⟨a, len, cap, m, n, D, Pl, hcs, _, hl, hm, hmm, _, hi⟩
  · exact .inl h0.1
  · refine .inr ⟨a, len, cap, n, hcs, by omega, fun i him => ?_⟩
    have : i < m := by rw [hmm]; split <;> omega
    obtain ⟨cs', hc, ht'⟩ := hi i this
    obtain ⟨_, hcl, hat⟩ := World.cells?_some hc
    have hget : ∀ j, j < P.cellsOf e → ∃ v, cs'[j]? = some v ∧ w.cell? (a.add (i * P.cellsOf e + j)) = some v := fun j hj => by
      refine ⟨cs'[j]'(by omega), List.getElem?_eq_getElem (by omega), ?_⟩
      rw [← add_add, hat j hj]
      exact List.getElem?_eq_getElem (by omega)
    refine ⟨cs', _, hcl, fun j hj => ?_, fun j hj h0 => ?_, ht'⟩
    · obtain ⟨v, h1, h2⟩ := hget j hj
      rw [h1]; exact cell_plain h2
    · obtain ⟨v, h1, h2⟩ := hget j hj
      rw [h0] at h2
      exact addr_plain (w := w) (v := v) (by simpa [Addr.add] using h2)
/-- A struct's fields. -/
theorem struct_fields {e : TypeId} {fs : Array Field} {n : Nat} {cs : List Value} {y : DataW H × List MemPlace} (he : P.underlying e = some (.struct fs)) (h : DataW.trod enc P w base spare held n e cs = some y) :
    cs.length = P.cellsOf e ∧ ∃ m, ∀ (j : Nat) (f : Field), fs[j]? = some f → ∃ z, DataW.trod enc P w base spare held m f.type ((cs.drop f.offset).take (P.cellsOf f.type)) = some z := by
  obtain ⟨ys, m, _, _, hcl, hyl, hf⟩ := DataW.trod_struct he h
  refine ⟨hcl, m, fun j f hj => ?_⟩
  have hlt : j < ys.length := by rw [hyl]; exact (Array.getElem?_eq_some_iff.1 hj).1
  exact ⟨ys[j], (hf j f hj).trans (List.getElem?_eq_getElem hlt)⟩
theorem field_one {t : TypeId} {m n j : Nat} {cs : List Value} {v : Value} {z : DataW H × List MemPlace} (h : DataW.trod enc P w base spare held m t ((cs.drop j).take n) = some z) (hn : n = 1) (hv : cs[j]? = some v) : DataW.trod enc P w base spare held m t [v] = some z := by
  obtain ⟨hj, rfl⟩ := List.getElem?_eq_some_iff.1 hv
  rw [hn, List.drop_eq_getElem_cons hj] at h
  exact h
theorem read_int {t : TypeId} {k : IntKind} {n : Nat} {v : Value} {z : DataW H × List MemPlace} (ht : P.underlying t = some (.int k)) (h : DataW.trod enc P w base spare held n t [v] = some z) : ∃ x, v = .int k x ∧ (Lit.int k x).wf = true := by
  obtain ⟨x, h1, _, h3⟩ := DataW.trod_int ht h
  exact ⟨x, by simpa using h1, h3⟩
theorem read_string {t : TypeId} {n : Nat} {v : Value} {z : DataW H × List MemPlace} (ht : P.underlying t = some .string) (h : DataW.trod enc P w base spare held n t [v] = some z) : ∃ s : List UInt8, v = .string (bs s) ∧ s.length ≤ maxLen := by
  obtain ⟨x, h1, _, h3⟩ := DataW.trod_string ht h
  exact ⟨x.data.toList, by rw [bs_data]; simpa using h1, by rw [Array.length_toList]; exact h3⟩
theorem read_bool {t : TypeId} {n : Nat} {v : Value} {z : DataW H × List MemPlace} (ht : P.underlying t = some .bool) (h : DataW.trod enc P w base spare held n t [v] = some z) : ∃ b, v = .bool b := by
  obtain ⟨x, h1, _⟩ := DataW.trod_bool ht h
  exact ⟨x, by simpa using h1⟩
end
end Go.Proofs.YtlcomdbkkfbjiaaGreatDoor

/- A ticket that came in by value. -/
namespace Go.Proofs.YtlcomdbkkfbjiaaGreatDoor
open Go.ChangeShapes Go.WideShapes Go.ChangeAt Go.RowKit Go.ChangeMaps Go.Deep

theorem six_of {α : Type} {l : List α} (h : l.length = 6) : ∃ a b c d e f, l = [a, b, c, d, e, f] := by
  match l, h with
  | [a, b, c, d, e, f], _ => exact ⟨a, b, c, d, e, f, rfl⟩
set_option maxRecDepth 100000 in
/-- A ticket's cells, read. -/
theorem tick_cells {H : Type} {enc : TypeId × Value → H} {W : World} {base : Nat} {spare : Nat → Bool} {held : Bool} {n : Nat} {cs : List Value} {y : DataW H × List MemPlace}
    (h : DataW.trod enc Tryz.prog W base spare held n 32 cs = some y) : ∃ t : Tick, cs = t.cells.toList ∧ TickLen t := by
  have hC : Tryz.prog.cellsOf 32 = 6 := by kernel_rfl
  have h1 : Tryz.prog.cellsOf 9 = 1 := by kernel_rfl
  have h2 : Tryz.prog.cellsOf 3 = 1 := by kernel_rfl
  obtain ⟨hcl, m, hf⟩ := struct_fields Tryz.underlying32 h
  obtain ⟨k0, k1, k2, k3, k4, k5, rfl⟩ := six_of (hcl.trans hC)
  obtain ⟨_, z0⟩ := hf 0 _ rfl
  obtain ⟨_, z1⟩ := hf 1 _ rfl
  obtain ⟨_, z2⟩ := hf 2 _ rfl
  obtain ⟨_, z3⟩ := hf 3 _ rfl
  obtain ⟨_, z4⟩ := hf 4 _ rfl
  obtain ⟨_, z5⟩ := hf 5 _ rfl
  have z0 := field_one z0 h1 (v := k0) rfl
  have z1 := field_one z1 h1 (v := k1) rfl
  have z2 := field_one z2 h2 (v := k2) rfl
  have z3 := field_one z3 h2 (v := k3) rfl
  have z4 := field_one z4 h2 (v := k4) rfl
  have z5 := field_one z5 h2 (v := k5) rfl
  obtain ⟨s0, rfl, l0⟩ := read_string Tryz.underlying9 z0
  obtain ⟨s1, rfl, l1⟩ := read_string Tryz.underlying9 z1
  obtain ⟨x2, rfl, _⟩ := read_int Tryz.underlying3 z2
  obtain ⟨x3, rfl, _⟩ := read_int Tryz.underlying3 z3
  obtain ⟨x4, rfl, _⟩ := read_int Tryz.underlying3 z4
  obtain ⟨x5, rfl, _⟩ := read_int Tryz.underlying3 z5
  exact ⟨⟨s0, s1, x2, x3, x4, x5⟩, rfl, l0, l1⟩
set_option maxRecDepth 100000 in
/-- A ticket by value. -/
theorem tick_arg {H : Type} {enc : TypeId × Value → H} {W : World} {b0 base : Nat} {spare : Nat → Bool} {held : Bool} {v : Value} {d : DataW H} {p : List MemPlace}
    (hv : Value.okWide Tryz.prog W .any b0 32 v) (h : DataW.Trod enc Tryz.prog W base spare held 32 v d p) : ∃ t : Tick, v = t.val ∧ TickLen t := by
  obtain ⟨cs, rfl, _⟩ := okWide_struct Tryz.underlying32 hv
  obtain ⟨fuel, hf⟩ := h
  obtain ⟨t, ht, hl⟩ := tick_cells hf
  have ht : cs = t.cells := Array.toList_inj.1 ht
  subst ht
  exact ⟨t, rfl, hl⟩
end Go.Proofs.YtlcomdbkkfbjiaaGreatDoor

/- Floors that came in. -/
namespace Go.Proofs.YtlcomdbkkfbjiaaGreatDoor
open Go.ChangeShapes Go.WideShapes Go.ChangeAt Go.RowKit Go.ChangeMaps Go.Deep

theorem two_of {α : Type} {l : List α} (h : l.length = 2) : ∃ a b, l = [a, b] := by
  match l, h with
  | [a, b], _ => exact ⟨a, b, rfl⟩
set_option maxRecDepth 100000 in
theorem flo_cells {H : Type} {enc : TypeId × Value → H} {W : World} {base : Nat} {spare : Nat → Bool} {held : Bool} {n : Nat} {cs : List Value} {y : DataW H × List MemPlace}
    (h : DataW.trod enc Tryz.prog W base spare held n 61 cs = some y) : ∃ p : Flo, cs = [.string (bs p.who), .int .i64 p.ep] ∧ p.who.length ≤ maxLen := by
  have hC : Tryz.prog.cellsOf 61 = 2 := by kernel_rfl
  have h1 : Tryz.prog.cellsOf 9 = 1 := by kernel_rfl
  have h2 : Tryz.prog.cellsOf 3 = 1 := by kernel_rfl
  obtain ⟨hcl, m, hf⟩ := struct_fields Tryz.underlying61 h
  obtain ⟨k0, k1, rfl⟩ := two_of (hcl.trans hC)
  obtain ⟨_, z0⟩ := hf 0 _ rfl
  obtain ⟨_, z1⟩ := hf 1 _ rfl
  have z0 := field_one z0 h1 (v := k0) rfl
  have z1 := field_one z1 h2 (v := k1) rfl
  obtain ⟨s0, rfl, l0⟩ := read_string Tryz.underlying9 z0
  obtain ⟨x1, rfl, _⟩ := read_int Tryz.underlying3 z1
  exact ⟨⟨s0, x1⟩, rfl, l0⟩
set_option maxRecDepth 100000 in
theorem flo_arg {H : Type} {enc : TypeId × Value → H} {W : World} {b0 base : Nat} {spare : Nat → Bool} {held : Bool} {v : Value} {d : DataW H} {p : List MemPlace}
    (hv : Value.okWide Tryz.prog W .any b0 61 v) (h : DataW.Trod enc Tryz.prog W base spare held 61 v d p) : ∃ t : Flo, v = t.val ∧ t.who.length ≤ maxLen := by
  obtain ⟨cs, rfl, _⟩ := okWide_struct Tryz.underlying61 hv
  obtain ⟨fuel, hf⟩ := h
  obtain ⟨t, ht, hl⟩ := flo_cells hf
  have ht : cs = #[.string (bs t.who), .int .i64 t.ep] := Array.toList_inj.1 ht
  subst ht
  exact ⟨t, rfl, hl⟩
theorem slice_cap {H : Type} {enc : TypeId × Value → H} {P : Program} {w : World} {base : Nat} {spare : Nat → Bool} {held : Bool} {t e : TypeId} {fuel : Nat} {a : Option Addr} {len cap : Nat} {x : DataW H × List MemPlace} (ht : P.underlying t = some (.slice e)) (h : DataW.trod enc P w base spare held fuel t [.slice a len cap] = some x) : len ≤ cap := by
  rcases open_slice ht h with h0 | ⟨a', len', cap', m, n, D, Pl, hcs, _, hl, hm, hmm, _, hi⟩
  · cases h0.1
    exact Nat.le_refl _
  · cases hcs
    exact hl
set_option maxRecDepth 100000 in
theorem flos_of {H : Type} {enc : TypeId × Value → H} {W : World} {base : Nat} {spare : Nat → Bool} {held : Bool} {fuel : Nat} {a : Option Addr} {len cap : Nat} {x : DataW H × List MemPlace} 
    (h : DataW.trod enc Tryz.prog W base spare held fuel 33 [.slice a len cap] = some x) : ∃ A, FloorsAt W (.slice a len cap) A ∧ ∀ f ∈ A, f.who.length ≤ maxLen := by
  have hcap := slice_cap Tryz.underlying33 h
  rcases slice_cells Tryz.underlying33 h with h0 | ⟨a', len', cap', n, hcs, hm, hi⟩
  · cases h0
    exact ⟨[], ⟨none, 0, rfl, Nat.zero_le _, Nat.zero_le _, fun i hi => by cases hi⟩, fun f hf => by cases hf⟩
  · cases hcs
    have hC : Tryz.prog.cellsOf 61 = 2 := by kernel_rfl
    rw [hC] at hi
    obtain ⟨A, hl, hA⟩ := list_of (p := fun i (q : Flo) => (i = 0 → a' = ⟨a'.block, a'.off, none⟩) ∧ W.cell? ⟨a'.block, a'.off + i * 2, none⟩ = some (.string (bs q.who)) ∧ W.cell? ⟨a'.block, a'.off + i * 2 + 1, none⟩ = some (.int .i64 q.ep) ∧ q.who.length ≤ maxLen) len (fun i hil => by
      obtain ⟨cs, y, hcl, hat, ha, ht⟩ := hi i hil
      obtain ⟨q, rfl, hq⟩ := flo_cells ht
      exact ⟨q, fun h0 => ha 0 (by decide) (by rw [h0]), by simpa using hat 0 (by decide), by simpa [Nat.add_assoc] using hat 1 (by decide), hq⟩)
    subst hl
    refine ⟨A, ⟨some a', cap, rfl, hm, hcap, fun i hil => ?_⟩, fun f hf => ?_⟩
    · exact ⟨a'.block, a'.off, congrArg some ((hA 0 (Nat.lt_of_le_of_lt (Nat.zero_le _) hil)).1 rfl), (hA i hil).2.1, (hA i hil).2.2.1⟩
    · obtain ⟨i, hi2, rfl⟩ := List.getElem_of_mem hf
      exact (hA i hi2).2.2.2
end Go.Proofs.YtlcomdbkkfbjiaaGreatDoor

/- LongTicket, walked. -/
namespace Go.Proofs.YtlcomdbkkfbjiaaGreatDoor
open Go.RowKit

def longT (t : Tick) : Int := if 20 < t.who.length ∨ 20 < t.svc.length then 1 else 0
set_option maxRecDepth 100000 in
theorem longTicket_any (t : Tick) (w : World) (hl : TickLen t) :
    Calls Tryz.prog 22 #[t.val] w fun e w' => e = .returned (.int .i64 (longT t)) ∧ Below w.heap.size w w' := by
  have hB : Below w.heap.size w (w.alloc (.cells t.cells 32)) := (Below.refl _ _).alloc (Nat.le_refl _) _
  have hlt : longT t = if 20 < t.who.length ∨ 20 < t.svc.length then 1 else 0 := rfl
  generalize longT t = q at *
  obtain ⟨h1, h2⟩ := hl
  obtain ⟨who, svc, ep, bg, fn, sr⟩ := t
  dsimp only [Tick.val, Tick.cells] at *
  have s1 := bs_size who
  have s2 := bs_size svc
  unfold maxLen at h1 h2
  by_cases a : 20 < who.length
  · have hr := Lib.hid (hlt.trans (if_pos (.inl a)))
    clear hlt
    go_enter Tryz.func22, Tryz.ntmps22
    go_wp2_with fail
    go_ret
    exact ⟨ret_int hr.out.symm, hB⟩
  · by_cases b : 20 < svc.length
    · have hr := Lib.hid (hlt.trans (if_pos (.inr b)))
      clear hlt
      go_enter Tryz.func22, Tryz.ntmps22
      go_wp2_with fail
      go_ret
      exact ⟨ret_int hr.out.symm, hB⟩
    · have hr := Lib.hid (hlt.trans (if_neg (by rintro (h | h); exact a h; exact b h)))
      clear hlt
      go_enter Tryz.func22, Tryz.ntmps22
      go_wp2_with fail
      go_ret
      exact ⟨ret_int hr.out.symm, hB⟩
end Go.Proofs.YtlcomdbkkfbjiaaGreatDoor
