/- SortK, FloSort, FloOwn, FloCat, FloComp -/
import Derived.Test.YtcnadjdijolboaaGreatDoorMg7
import Derived.Test.YtcnadjdijolboaaGreatDoorMg6
import Derived.Shelf.GgSortFunc.InsertionK
import Derived.Test.YtcnadjdijolboaaGreatDoorMg11
import Derived.Test.YtcnadjdijolboaaGreatDoorMg8
import Derived.Test.YtcnadjdijolboaaGreatDoorShelf5
import Derived.Deep.LoopGhost
import Derived.IntWalk
import Derived.Test.YtcnadjdijolboaaGreatDoorShelf4
import Derived.Test.YtcnadjdijolboaaGreatDoorMg10
import Derived.Deep.CutRange
/- Rows of structs that the library sorts: between its words and the rows of one's own: no program in sight. -/
namespace Go.Proofs.YtcnadjdijolboaaGreatDoor
open Go.RowKit Go.Sort Go.Shelf

section
variable {α : Type} [Inhabited α] (C : Cells α)
theorem flatK_flat (L : List α) : flatK C.f C.k L.toArray = (flatG C L).toArray := by
  apply Array.ext_getElem?
  intro t
  have hp := C.pos
  by_cases ht : t < L.length * C.k
  · have hi : t / C.k < L.length := (Nat.div_lt_iff_lt_mul hp).2 ht
    have hj : t % C.k < C.k := Nat.mod_lt _ hp
    have he : t / C.k * C.k + t % C.k = t := by rw [Nat.mul_comm]; exact Nat.div_add_mod t C.k
    have h1 := flatG_get C L (t / C.k) hi (t % C.k) hj
    rw [he] at h1
    have hsz : t < (flatK C.f C.k L.toArray).size := by rw [size_flatK]; simpa using ht
    have h2 := get_flatK C.f C.k L.toArray t (by simpa using ht)
    rw [getElem!_pos _ t hsz] at h2
    rw [Array.getElem?_eq_getElem hsz, h2, List.getElem?_toArray, h1]
    have hi2 : t / C.k < L.toArray.size := by simpa using hi
    rw [getElem!_pos L.toArray _ hi2]
    have hlj : t % C.k < (C.f L[t / C.k]).length := by rw [C.len]; exact hj
    rw [List.getElem?_eq_getElem hlj]
    simp [hlj]
  · rw [Array.getElem?_eq_none (by rw [size_flatK]; simpa using ht), List.getElem?_toArray, List.getElem?_eq_none (by rw [flatG_len]; omega)]
variable {C} {w : World} {base g cap : Nat} {e : TypeId} {L : List α}
theorem holdsK_of (h : RowG C w base e (.slice (some ⟨g, 0, none⟩) L.length cap) L) : HoldsK C.f C.k w g 0 L.toArray ∧ g < w.heap.size ∧ base ≤ g := by
  obtain ⟨_, ⟨h1, _⟩ | ⟨g', cap', cur, h1, hb, hh, h2, h3, h4, h5⟩⟩ := h
  · cases h1
  cases h1
  refine ⟨?_, (Array.getElem?_eq_some_iff.1 hh).1, hb⟩
  unfold HoldsK
  rw [flatK_flat]
  intro j hj
  have hj' : j < (flatG C L).length := by simpa using hj
  refine ⟨?_, by simp [World.frozen?, hh]⟩
  have h6 : (cur.toList.take (L.length * C.k))[j]? = (flatG C L)[j]? := by rw [h5]
  rw [List.getElem?_take_of_lt (by rw [← flatG_len]; exact hj')] at h6
  simp only [World.cell?, hh, Nat.zero_add]
  simp only [Option.isSome_none, Bool.false_eq_true, if_false]
  rw [← Array.getElem?_toList, h6, List.getElem?_eq_getElem hj']
  simp [hj']
theorem row_sorted {n : Nat} {os : Array Obj} {d : Array α} (h : RowG C w base e (.slice (some ⟨g, 0, none⟩) L.length cap) L) (hd : d.size = L.length) :
    RowG C (sortWorldK C.f C.k w g 0 n d os) base e (.slice (some ⟨g, 0, none⟩) L.length cap) d.toList ∧ Keeps (· = g) w (sortWorldK C.f C.k w g 0 n d os) := by
  obtain ⟨_, ⟨h1, _⟩ | ⟨g', cap', cur, h1, hb, hh, h2, h3, h4, h5⟩⟩ := h
  · cases h1
  cases h1
  have hg : g < w.heap.size := (Array.getElem?_eq_some_iff.1 hh).1
  have hf : flatK C.f C.k d = (flatG C d.toList).toArray := by
    have := flatK_flat C d.toList
    simpa using this
  have hfl : (flatG C d.toList).length = L.length * C.k := by rw [flatG_len, Array.length_toList, hd]
  have hh2 : (sortWorldK C.f C.k w g 0 n d os).heap[g]? = some (.cells (putCells id 0 (flatG C d.toList).toArray cur) e (0, 0)) := by
    unfold sortWorldK putRowK
    rw [hf, heap_grow_old _ _ (by simpa [putRow, mapBlock, Sort.ahead] using hg)]
    simp [putRow, mapBlock, Sort.ahead, Array.getElem?_modify, hh, onCells]
  refine ⟨?_, ?_⟩
  · have hdl : d.toList.length = L.length := by simpa using hd
    show World.ownsRow _ base e C.k (.slice (some ⟨g, 0, none⟩) L.length cap) d.toList.length (flatG C d.toList)
    rw [hdl]
    refine ⟨hfl, .inr ⟨g, cap, _, rfl, hb, hh2, h2, h3, by simp [putCells, h4], ?_⟩⟩
    have hlc : L.length * C.k ≤ cur.size := by rw [h4]; exact Nat.mul_le_mul_right _ h2
    apply List.ext_getElem?
    intro j
    by_cases hj : j < L.length * C.k
    · rw [List.getElem?_take_of_lt hj, Array.getElem?_toList]
      have hjf : j < (flatG C d.toList).length := by omega
      simp [putCells, hjf, show j < cur.size by omega]
    · rw [List.getElem?_take_eq_none (by omega), List.getElem?_eq_none (by omega)]
  · refine ⟨rfl, rfl, rfl, by simp [sortWorldK, putRowK, grow, putRow, mapBlock, Sort.ahead], fun k hk hs => ?_⟩
    unfold sortWorldK
    rw [heap_grow_old _ _ (by simpa [putRowK, putRow, mapBlock, Sort.ahead] using hk)]
    have : g ≠ k := fun e => hs e.symm
    simp [putRowK, putRow, mapBlock, Sort.ahead, Array.getElem?_modify, this]
end
end Go.Proofs.YtcnadjdijolboaaGreatDoor

/- slices.SortFunc at floors, by the library's contract; its closure: walked. -/
namespace Go.Proofs.YtcnadjdijolboaaGreatDoor
open Go.RowKit Go.Sort Go.Shelf Go.Lib

instance : Inhabited Flo := ⟨⟨[], 0⟩⟩
set_option maxRecDepth 100000 in
theorem joinC_any (x y : Flo) (W : World) : Calls Tryz.prog 34 #[.agg #[.string (bs x.who), .int .i64 x.ep], .agg #[.string (bs y.who), .int .i64 y.ep]] W fun e w' => e = .returned (.int .i64 (compareBytes x.who y.who)) ∧ ∃ q os', w' = grow (W.drewN q) os' := by
  have hc := Lib.hid (fun wx => compare_str x.who y.who wx)
  have hr1 := heap_alloc_new W (.cells #[.string (bs x.who), .int .i64 x.ep] 24)
  generalize compareBytes x.who y.who = r at *
  go_enter Tryz.func34, Tryz.ntmps34
  go_wp2_with fail
  refine (hc.out _).mono ?_
  rintro e w1 ⟨rfl, rfl⟩
  go_wp2_with fail
  go_ret
  exact ⟨rfl, 0, _, by rw [alloc_eq_grow, alloc_eq_grow, grow_grow]; rfl⟩
theorem ltOf_who (x y : Flo) : ltOf (fun x y : Flo => compareBytes x.who y.who) x y = decide (x.who < y.who) := by
  unfold ltOf
  exact decide_eq_decide.2 (compare_neg _ _)
theorem swo_who : SWO (ltOf fun x y : Flo => compareBytes x.who y.who) where
  irrefl x := by rw [ltOf_who]; exact decide_eq_false (List.lt_irrefl _)
  trans x y z h1 h2 := by
    rw [ltOf_who] at *
    exact decide_eq_true (List.lt_trans (of_decide_eq_true h1) (of_decide_eq_true h2))
  ntrans x y z h1 h2 := by
    rw [ltOf_who] at *
    have h1 := List.not_lt.1 (of_decide_eq_false h1)
    have h2 := List.not_lt.1 (of_decide_eq_false h2)
    exact decide_eq_false (List.not_lt.2 (List.le_trans h2 h1))
set_option maxHeartbeats 1000000 in
theorem sort_flo {base g cap : Nat} (L : List Flo) (w : World) (h : RowG floC w base 24 (.slice (some ⟨g, 0, none⟩) L.length cap) L) (hl : L.length ≤ 1000000) :
    Calls Tryz.prog 33 #[.slice (some ⟨g, 0, none⟩) L.length cap, .func (.func 34) #[] #[]] w fun e w' => e = .returned (.tuple #[]) ∧ ∃ S : List Flo, (∀ f, f ∈ S ↔ f ∈ L) ∧ S.length = L.length ∧ S.Pairwise (fun f g => ¬ g.who < f.who) ∧ RowG floC w' base 24 (.slice (some ⟨g, 0, none⟩) L.length cap) S ∧ Keeps (· = g) w w' := by
  have eg : ∀ args w, (callFunc 34 args).run Tryz.prog w = .ok (.enter 34 args) w := enters_of Tryz.func34 (by kernel_rfl) rfl
  obtain ⟨hH, hg, _⟩ := holdsK_of h
  have hcon := AnyQ.slices_SortFunc Tryz.sortf33 2 Tryz.isAgg24 Tryz.sizeOf24 Flo.cells (fun _ => rfl) floC.one (fun x y => compareBytes x.who y.who) swo_who 34 #[] g 0 cap L.toArray w eg (fun _ _ _ _ x y => joinC_any x y _) hH hg (by simp; omega)
  rw [List.size_toArray] at hcon
  refine Calls.mono hcon ?_
  rintro e w' ⟨rfl, d, n, os, hp, hs, rfl⟩
  obtain ⟨hsz, _, hperm⟩ := hp
  have hsz : d.size = L.length := by simpa using hsz
  have hpm : d.toList.Perm L := by
    have h1 : (d.extract 0 L.toArray.size).toList = d.toList := by simp [← hsz]
    have h2 : (L.toArray.extract 0 L.toArray.size).toList = L := by simp
    rw [List.size_toArray] at h1 h2
    rw [h1, h2] at hperm
    exact hperm
  refine ⟨rfl, d.toList, fun f => hpm.mem_iff, by simpa using hsz, ?_, row_sorted h hsz⟩
  rw [List.pairwise_iff_getElem]
  intro i j hi hj hij
  have hi : i < d.size := by simpa using hi
  have hj : j < d.size := by simpa using hj
  have := hs i j (Nat.zero_le _) hij (by omega)
  rw [ltOf_who, getElem!_pos d j hj, getElem!_pos d i hi] at this
  simpa using of_decide_eq_false this
end Go.Proofs.YtcnadjdijolboaaGreatDoor

/- OwnFloors, walked. -/
namespace Go.Proofs.YtcnadjdijolboaaGreatDoor
open Go.RowKit

theorem floorsG {w : World} {v : Value} {L : List Flo} (h : FloorsAt w v L) (hn : v.ownBlock = none → v = .slice none 0 0) : AtG floC w v L := by
  obtain ⟨a, c, rfl, h2, h3, h5⟩ := h
  refine ⟨a, c, rfl, h2, h3, fun e => ?_, fun i hi => ?_⟩
  · subst e
    have := hn rfl
    injection this
  · obtain ⟨b, o, h6, h7, h8⟩ := h5 i hi
    refine ⟨b, o, h6, fun j u hu => ?_⟩
    have hj : j < 2 := (List.getElem?_eq_some_iff.1 hu).1
    match j, hj with
    | 0, _ => simp only [floC, Flo.cells, List.getElem?_cons_zero, Option.some.injEq] at hu; subst hu; exact h7
    | 1, _ => simp only [floC, Flo.cells, List.getElem?_cons_succ, List.getElem?_cons_zero, Option.some.injEq] at hu; subst hu; exact h8
theorem info_flo2 : (Tryz.prog.info? 24).map (fun i => (i.zero, i.size, i.bytes)) = some (some (.agg #[.string ⟨#[]⟩, .int .i64 0]), floC.k, 24) := by kernel_rfl
set_option maxRecDepth 100000 in
theorem own_flo (v : Value) (F : List Flo) (w : World) (hv : AtG floC w v F) (hl : F.length ≤ 1000) :
    Calls Tryz.prog 11 #[v] w fun e w' => ∃ v', e = .returned v' ∧ FlRow w' w.heap.size v' F ∧ Below w.heap.size w w' := by
  have hvH := Lib.hid hv
  obtain ⟨a, c, rfl⟩ := hv.sl
  clear hv
  go_enter Tryz.func11, Tryz.ntmps11
  go_wp2_with (at_builtin; refine wpList_appG floC _ rfl _ _ 22 rfl 24 (.agg #[.string ⟨#[]⟩, .int .i64 0]) 24 Tryz.underlying22 info_flo2 rfl (by decide) w.heap.size _ [] rfl (RowG.nil _ _ _) _ F rfl hvH.out (by simp; omega) (Nat.le_refl _) ?_)
  intro v6 w6 hown6 hb6 _ _
  have hfin := Lib.hid (And.intro (floRow_G.2 hown6) hb6)
  obtain ⟨a6, c6, hv6⟩ := hown6.sl
  subst hv6
  clear hown6 hb6
  go_wp2_with fail
  go_ret
  exact ⟨_, rfl, hfin.out.1, hfin.out.2⟩
end Go.Proofs.YtcnadjdijolboaaGreatDoor

/- slices.Concat at floors: walked, slices.Grow by its contract. -/
namespace Go.Proofs.YtcnadjdijolboaaGreatDoor
open Go.RowKit Go.Lib Go.Shelf

abbrev GFlo (w : World) (base : Nat) (v : Value) (L : List Flo) : Prop := RowG floC w base 24 v L
set_option maxRecDepth 100000 in
/-- A new row of one's own, with room. -/
theorem grow_flo (n : Nat) (w : World) (h0 : 0 < n) (h1 : n ≤ 1000000) :
    Calls Tryz.prog 64 #[.slice none 0 0, .int .i64 n] w fun e w' => ∃ v', e = .returned v' ∧ GFlo w' w.heap.size v' [] ∧ Below w.heap.size w w' := by
  obtain ⟨i0, hi, hz0, hz1, hz2⟩ := info_parts info_flo2
  refine (Any8.slices_Grow_grow Tryz.grow64 i0 _ hi hz0 (by rw [hz1]; exact floC.pos) none 0 0 n [] w (Nat.le_refl _) (by omega) (by rw [hz2]; omega) (by omega) (by simp) (fun _ => rfl) (fun a h => by cases h)).mono ?_
  rintro e w' ⟨rfl, rfl⟩
  refine ⟨_, rfl, ?_, ((Below.refl _ _).drew).alloc (Nat.le_refl _) _⟩
  refine ⟨by simp [flatG], .inr ⟨w.heap.size, _, _, rfl, Nat.le_refl _, heap_alloc_new w.drew _, Nat.zero_le _, grownCap_le_maxLen w _ _ _ (by unfold maxLen; omega), ?_, by simp [flatG]⟩⟩
  have hge := grownCap_ge w (0 + n) 0 24
  have hz : (Value.agg #[.string ⟨#[]⟩, .int .i64 0]).cells.size = 2 := rfl
  have hk : floC.k = 2 := rfl
  rw [Array.size_append, Array.size_append, size_zeroCells, size_zeroCells, hz, hk]
  show (0 + (0 + n - 0) * 2 + (grownCap w (0 + n) 0 24 - (0 + n)) * 2) = grownCap w (0 + n) 0 24 * 2
  omega
theorem growF_none (w : World) :
    Calls Tryz.prog 64 #[.slice none 0 0, .int .i64 0] w fun e w' => e = .returned (.slice none 0 0) ∧ w' = w := by
  have h := Any8.slices_Grow_room Tryz.grow64 none 0 0 0 w (Nat.le_refl _) (by omega) (by omega) (by omega)
  exact h
theorem growF_any (n : Nat) (w : World) (h1 : n ≤ 1000000) :
    Calls Tryz.prog 64 #[.slice none 0 0, .int .i64 n] w fun e w' => ∃ v', e = .returned v' ∧ GFlo w' w.heap.size v' [] ∧ Below w.heap.size w w' := by
  by_cases h0 : n = 0
  · subst h0
    exact (growF_none w).mono fun e w' ⟨he, hw⟩ => ⟨_, he, by rw [hw]; exact RowG.nil _ _ _, by rw [hw]; exact Below.refl _ _⟩
  · exact grow_flo n w (by omega) h1
set_option maxHeartbeats 2000000 in
set_option maxRecDepth 100000 in
theorem concat_flo (g : Nat) (v1 v2 : Value) (A B : List Flo) (w : World) (h0 : w.cell? ⟨g, 0, none⟩ = some v1) (h1 : w.cell? ⟨g, 1, none⟩ = some v2) (hA : AtG floC w v1 A) (hB : AtG floC w v2 B) (hl : A.length + B.length ≤ 1000000) :
    Calls Tryz.prog 32 #[.slice (some ⟨g, 0, none⟩) 2 2] w fun e w' => ∃ v', e = .returned v' ∧ GFlo w' w.heap.size v' (A ++ B) ∧ Below w.heap.size w w' := by
  have hAw := Lib.hid (fun wx (hx : Below w.heap.size w wx) => (show AtG floC wx v1 A from AtG.below hA hx))
  have hBw := Lib.hid (fun wx (hx : Below w.heap.size w wx) => (show AtG floC wx v2 B from AtG.below hB hx))
  have h0H := Lib.hid h0
  have h1H := Lib.hid h1
  obtain ⟨a1, c1, hv1⟩ := AtG.sl hA
  obtain ⟨a2, c2, hv2⟩ := AtG.sl hB
  have hgr := growF_any (A.length + B.length) w (by omega)
  rw [Int.natCast_add] at hgr
  have hgr := Lib.hid hgr
  have s0 := IntWalk.i64_in (0 + (A.length : Int)) (by omega)
  have s1 := IntWalk.i64_in ((A.length : Int)) (by omega)
  have s2 := IntWalk.i64_in ((A.length : Int) + (B.length : Int)) (by omega)
  have s3 : ¬ ((A.length : Int) < 0) := by omega
  have s4 : ¬ ((A.length : Int) + (B.length : Int) < 0) := by omega
  subst hv1
  subst hv2
  clear hA hB
  go_enter Tryz.func32, Tryz.ntmps32
  go_wp2_with fail
  go_loopg [3, 11] 3 (fun g s3 i wr => w = wr ∧ ((s3 = .int .i64 0 ∧ i = .int .i64 0 ∧ 3 ≤ g) ∨ (s3 = .int .i64 A.length ∧ i = .int .i64 1 ∧ 2 ≤ g) ∨ (s3 = .int .i64 ((A.length : Int) + (B.length : Int)) ∧ i = .int .i64 2 ∧ 1 ≤ g)))
  case atStart => exact ⟨rfl, .inl ⟨rfl, rfl, Nat.le_refl _⟩⟩
  case round =>
    obtain ⟨rfl, ⟨rfl, rfl, hg⟩ | ⟨rfl, rfl, hg⟩ | ⟨rfl, rfl, hg⟩⟩ := hrel
    · go_wp2_with fail
      go_roundg 2
      case measure => omega
      case rel => exact ⟨rfl, .inr (.inl ⟨by simp, by simp, Nat.le_refl _⟩)⟩
    · go_wp2_with fail
      go_roundg 1
      case measure => omega
      case rel => exact ⟨rfl, .inr (.inr ⟨by simp, by simp, Nat.le_refl _⟩)⟩
    · clear h0 h1
      go_wp2_with fail
      refine hgr.out.mono ?_
      rintro e w1 ⟨v6, rfl, hrow6, hb6⟩
      have hrow6 := Lib.hid hrow6
      have hb6 := Lib.hid hb6
      go_wp2_with fail
      go_loopg [6, 27] 3 (fun g v6 i wr => Hid (Below w.heap.size w wr) ∧ ((i = .int .i64 0 ∧ 3 ≤ g ∧ Hid (GFlo wr w.heap.size v6 [])) ∨ (i = .int .i64 1 ∧ 2 ≤ g ∧ Hid (GFlo wr w.heap.size v6 A)) ∨ (i = .int .i64 2 ∧ 1 ≤ g ∧ Hid (GFlo wr w.heap.size v6 (A ++ B)))))
      case atStart => exact ⟨hb6, .inl ⟨rfl, Nat.le_refl _, hrow6⟩⟩
      case round =>
        obtain ⟨hK, ⟨rfl, hg2, hrow⟩ | ⟨rfl, hg2, hrow⟩ | ⟨rfl, hg2, hrow⟩⟩ := hrel
        · have h0 := cell_below hK.out h0H.out
          go_wp2_with (first
            | (at_builtin; refine wpList_appG floC _ rfl _ _ 22 rfl 24 (.agg #[.string ⟨#[]⟩, .int .i64 0]) 24 Tryz.underlying22 info_flo2 rfl (by decide) w.heap.size _ [] rfl hrow.out _ A rfl (hAw.out _ hK.out) (by simp; omega) hK.out.size ?_)
            | go_in)
          intro v7 w7 hown hb7 _ _
          have hown := Lib.hid (show GFlo w7 w.heap.size v7 A from hown)
          have hb7 := Lib.hid (hK.out.trans hb7)
          clear h0
          go_wp2_with fail
          go_roundg 2
          case measure => omega
          case rel => exact ⟨hb7, .inr (.inl ⟨by simp, Nat.le_refl _, hown⟩)⟩
        · have h1 := cell_below hK.out h1H.out
          go_wp2_with (first
            | (at_builtin; refine wpList_appG floC _ rfl _ _ 22 rfl 24 (.agg #[.string ⟨#[]⟩, .int .i64 0]) 24 Tryz.underlying22 info_flo2 rfl (by decide) w.heap.size _ A rfl hrow.out _ B rfl (hBw.out _ hK.out) (by omega) hK.out.size ?_)
            | go_in)
          intro v7 w7 hown hb7 _ _
          have hown := Lib.hid (show GFlo w7 w.heap.size v7 (A ++ B) from hown)
          have hb7 := Lib.hid (hK.out.trans hb7)
          clear h1
          go_wp2_with fail
          go_roundg 1
          case measure => omega
          case rel => exact ⟨hb7, .inr (.inr ⟨by simp, Nat.le_refl _, hown⟩)⟩
        · go_wp2_with fail
          go_ret
          exact ⟨_, rfl, hrow.out, hK.out⟩
end Go.Proofs.YtcnadjdijolboaaGreatDoor

/- slices.Compact at floors: walked. -/
namespace Go.Proofs.YtcnadjdijolboaaGreatDoor
open Go.RowKit

theorem flo_rcells {w : World} {base gb cap : Nat} {X : List Flo} (h : FlRow w base (.slice (some ⟨gb, 0, none⟩) X.length cap) X) {i : Nat} (hi : i < X.length) :
    w.cell? ⟨gb, i * 2, none⟩ = some (.string (bs X[i].who)) ∧ w.cell? ⟨gb, i * 2 + 1, none⟩ = some (.int .i64 X[i].ep) := by
  obtain ⟨f0, f1⟩ := flatF_get X i hi
  exact ⟨h.cells _ _ f0, h.cells _ _ f1⟩
theorem flo_eq (x y : Flo) : (x = y) ↔ ((bs x.who).toList = (bs y.who).toList ∧ x.ep = y.ep) := by
  rw [toList_data, toList_data, bs_list, bs_list]
  exact ⟨fun h => by subst h; exact ⟨rfl, rfl⟩, fun h => Flo.ext' h.1 h.2⟩
theorem drop_next (Y : List Flo) (n : Nat) : Y.drop (n + 1) = (Y.drop n).drop 1 := by rw [List.drop_drop]
set_option maxHeartbeats 8000000 in
set_option maxRecDepth 100000 in
theorem comp_flo {base gb cap : Nat} (L : List Flo) (w : World) (hv : FlRow w base (.slice (some ⟨gb, 0, none⟩) L.length cap) L) (hL : L.length ≤ 1000) (hgb : base ≤ gb) (hbs : base ≤ w.heap.size) :
    Calls Tryz.prog 36 #[.slice (some ⟨gb, 0, none⟩) L.length cap] w fun e w' => e = .returned (.slice (some ⟨gb, 0, none⟩) (compF L).length cap) ∧ FlRow w' base (.slice (some ⟨gb, 0, none⟩) (compF L).length cap) (compF L) ∧ Below base w w' := by
  have hcap : L.length ≤ cap ∧ cap ≤ maxLen := by
    rcases hv.shape with ⟨h1, _⟩ | ⟨g', cap', cur, he, _, _, hc, hm, _, _⟩
    · cases h1
    · cases he; exact ⟨hc, hm⟩
  obtain ⟨hcap, hmx⟩ := hcap
  unfold maxLen at hmx
  have hvH := Lib.hid hv
  by_cases h2 : L.length < 2
  · have hid : compF L = L := by
      have := compF_id (L := L) L.length (Nat.le_refl _) (fun i h1 _ => by omega)
      rwa [List.take_length] at this
    rw [hid]
    have h2i : (L.length : Int) < 2 := by omega
    clear h2 hid hv
    go_enter Tryz.func36, Tryz.ntmps36
    go_wp2_with fail
    go_ret
    exact ⟨rfl, hvH.out, Below.refl _ _⟩
  have h2i : ¬ (L.length : Int) < 2 := by omega
  clear hv
  go_enter Tryz.func36, Tryz.ntmps36
  go_wp2_with fail
  go_loopg [3] (L.length + 1) (fun g i wr => ∃ k : Nat, i = .int .i64 ((k : Int) + 1) ∧ k + 1 ≤ L.length ∧ L.length - k + 1 ≤ g ∧ Hid (∀ i (h : i + 1 < L.length), i < k → L[i] ≠ L[i + 1]) ∧ Hid (FlRow wr base (.slice (some ⟨gb, 0, none⟩) L.length cap) L) ∧ Hid (Below base w wr))
  case atStart => exact ⟨0, rfl, by omega, by omega, Lib.hid (fun _ _ h => absurd h (Nat.not_lt_zero _)), hvH, Lib.hid (Below.refl _ _)⟩
  case round =>
    obtain ⟨k, rfl, hk, hg, hno, hrow, hK⟩ := hrel
    by_cases hlt : k + 1 < L.length
    · have hk1 : (k : Int) + 1 < (L.length : Int) := by omega
      have hk0 : (0 : Int) ≤ (k : Int) + 1 := by omega
      have hkk0 : (0 : Int) ≤ (k : Int) := by omega
      have hkk1 : (k : Int) < (L.length : Int) := by omega
      have hto : ((k : Int) + 1).toNat = k + 1 := by omega
      obtain ⟨c0, c1⟩ := flo_rcells hrow.out (show k < L.length by omega)
      obtain ⟨d0, d1⟩ := flo_rcells hrow.out hlt
      have hwi := IntWalk.i64_in ((k : Int)) (by omega)
      have hw1 := IntWalk.i64_in ((k : Int) + 1 - 1) (by omega)
      have hfe := flo_eq L[k + 1] L[k]
      go_upto_region 6 with fail
      go_cut [25] from 16 to 25 (fun s25 wx => s25 = .bool (decide (L[k + 1] = L[k])) ∧ Hid (Below wr.heap.size wr wx))
      case first =>
        generalize L[k + 1] = A at *
        generalize L[k] = B at *
        have hb1 : ((bs A.who).toList == (bs B.who).toList) = decide (A.who = B.who) := by rw [toList_data, toList_data, bs_list, bs_list]; by_cases h : A.who = B.who <;> simp [h]
        by_cases h1 : A.who = B.who
        all_goals by_cases h3 : A.ep = B.ep
        all_goals
          go_quiet (fail)
          go_wp2_with fail
          go_meet
          refine ⟨?_, Lib.hid (below_drawn (Below.refl _ _) _)⟩
          first
            | exact congrArg _ (decide_eq_true (Flo.ext' h1 h3)).symm
            | exact congrArg _ (decide_eq_false (fun h => by subst h; first | exact h1 rfl | exact h3 rfl)).symm
      obtain ⟨rfl, hbc⟩ := hcut
      have hrow1 := Lib.hid (hrow.out.below hbc.out)
      have hK1 := Lib.hid (hK.out.trans (hbc.out.mono (Nat.le_trans hbs hK.out.size)))
      clear c0 c1 d0 d1 hbc hfe
      by_cases heq : L[k + 1] = L[k]
      case neg =>
        have hno2 := Lib.hid (show ∀ i (h : i + 1 < L.length), i < k + 1 → L[i] ≠ L[i + 1] from fun i h hi => by
          rcases Nat.lt_succ_iff_lt_or_eq.1 hi with h' | rfl
          · exact hno.out i h h'
          · exact fun e => heq e.symm)
        rw [decide_eq_false heq]
        clear heq
        go_wp2_with fail
        go_roundg (L.length - k)
        case measure => omega
        case rel => exact ⟨k + 1, by simp, by omega, by omega, hno2, hrow1, hK1⟩
      have hst := Lib.hid (show L.take (k + 1) = compF (L.take (k + 1 + 0 + 1)) from by
        rw [show k + 1 + 0 + 1 = k + 2 from rfl, compF_step hlt, if_pos heq.symm, compF_id (k + 1) (by omega) (fun i h hi => hno.out i h (by omega))])
      rw [decide_eq_true heq]
      have hac0 : ¬ cap = k + 1 := by omega
      have hle0 : k + 1 ≤ cap := by omega
      have hle1 : k + 1 ≤ L.length := by omega
      clear heq
      go_wp2_with fail
      go_loopg [3, 5] (L.length + 1) (fun g i jj wx => ∃ (a p : Nat) (X : List Flo), i = .int .i64 a ∧ jj = .int .i64 ((p : Int) + 1) ∧ k + 1 + p + 1 ≤ L.length ∧ L.length - (k + 1 + p + 1) + 1 ≤ g ∧ a ≤ k + 1 + p ∧ X.length = L.length ∧ Hid (X.take a = compF (L.take (k + 1 + p + 1))) ∧ Hid (X.drop (k + 1 + p) = L.drop (k + 1 + p)) ∧ Hid (FlRow wx base (.slice (some ⟨gb, 0, none⟩) L.length cap) X) ∧ Hid (Below base w wx))
      case atStart => exact ⟨k + 1, 0, L, by simp, by simp, by omega, by omega, by omega, rfl, hst, Lib.hid rfl, hrow1, hK1⟩
      case round =>
        clear hrow hK hrow1 hK1 hst
        obtain ⟨a, p, X, rfl, rfl, hp, hgp, hap, hXL, hXt, hXd, hrow, hK⟩ := hrel
        by_cases hpl : k + 1 + p + 1 < L.length
        · have hxq : ∀ j, k + 1 + p ≤ j → X[j]? = L[j]? := fun j hj => by
            have h1 : (X.drop (k + 1 + p))[j - (k + 1 + p)]? = (L.drop (k + 1 + p))[j - (k + 1 + p)]? := by rw [hXd.out]
            rw [List.getElem?_drop, List.getElem?_drop, show k + 1 + p + (j - (k + 1 + p)) = j by omega] at h1
            exact h1
          have hx0 : X[k + 1 + p]'(by omega) = L[k + 1 + p] := by
            have := hxq (k + 1 + p) (Nat.le_refl _)
            rw [List.getElem?_eq_getElem (by omega), List.getElem?_eq_getElem (by omega)] at this
            exact Option.some.inj this
          have hx1 : X[k + 1 + p + 1]'(by omega) = L[k + 1 + p + 1] := by
            have := hxq (k + 1 + p + 1) (by omega)
            rw [List.getElem?_eq_getElem (by omega), List.getElem?_eq_getElem (by omega)] at this
            exact Option.some.inj this
          have hrowX : FlRow wr base (.slice (some ⟨gb, 0, none⟩) X.length cap) X := by rw [hXL]; exact hrow.out
          have hrowXH := Lib.hid hrowX
          obtain ⟨c0, c1⟩ := flo_rcells hrowX (show k + 1 + p < X.length by omega)
          obtain ⟨d0, d1⟩ := flo_rcells hrowX (show k + 1 + p + 1 < X.length by omega)
          rw [hx0] at c0 c1
          rw [hx1] at d0 d1
          rw [show (k + 1 + p) * 2 = (k + 1) * 2 + p * 2 by omega] at c0 c1
          rw [show (k + 1 + p + 1) * 2 = (k + 1) * 2 + (p + 1) * 2 by omega] at d0 d1
          have hst := Lib.hid (compF_step (L := L) (q := k + 1 + p) (by omega))
          have hk1 : (p : Int) + 1 < ((L.length - (k + 1) : Nat) : Int) := by omega
          have hk0 : (0 : Int) ≤ (p : Int) + 1 := by omega
          have hkk0 : (0 : Int) ≤ (p : Int) := by omega
          have hkk1 : (p : Int) < ((L.length - (k + 1) : Nat) : Int) := by omega
          have hto : ((p : Int) + 1).toNat = p + 1 := by omega
          have hwi := IntWalk.i64_in ((p : Int)) (by omega)
          have hA : ∃ A, L[k + 1 + p + 1] = A := ⟨_, rfl⟩
          have hBx : ∃ B, L[k + 1 + p] = B := ⟨_, rfl⟩
          obtain ⟨A, hA⟩ := hA
          obtain ⟨B, hBx⟩ := hBx
          rw [hA] at d0 d1
          rw [hBx] at c0 c1
          have hA := Lib.hid hA
          have hBx := Lib.hid hBx
          clear hx0 hx1 hxq
          go_upto_region 11 with fail
          go_cut [44] from 35 to 44 (fun s44 wx => s44 = .bool (decide (A ≠ B)) ∧ Hid (Below wr.heap.size wr wx))
          case first =>
            have hb1 : ((bs A.who).toList == (bs B.who).toList) = decide (A.who = B.who) := by rw [toList_data, toList_data, bs_list, bs_list]; by_cases h : A.who = B.who <;> simp [h]
            by_cases h1 : A.who = B.who
            all_goals by_cases h3 : A.ep = B.ep
            all_goals
              go_quiet (fail)
              go_wp2_with fail
              go_meet
              refine ⟨?_, Lib.hid (below_drawn (Below.refl _ _) _)⟩
              first
                | (have hab : A = B := Flo.ext' h1 h3; simp [hab])
                | (have hab : A ≠ B := fun h => by subst h; first | exact h1 rfl | exact h3 rfl
                   simp [hab])
          obtain ⟨rfl, hbc⟩ := hcut
          have hrow2 := Lib.hid (hrowXH.out.below hbc.out)
          have hrow1 := Lib.hid (hrow.out.below hbc.out)
          have hK1 := Lib.hid (hK.out.trans (hbc.out.mono (Nat.le_trans hbs hK.out.size)))
          clear c0 c1 hbc
          obtain ⟨d0, d1⟩ := flo_rcells hrow2.out (show k + 1 + p + 1 < X.length by omega)
          by_cases hab : A = B
          · have hXt2 := Lib.hid (show X.take a = compF (L.take (k + 1 + (p + 1) + 1)) from by
              rw [show k + 1 + (p + 1) + 1 = k + 1 + p + 2 by omega, hst.out, if_pos (by rw [hA.out, hBx.out]; exact hab.symm)]
              exact hXt.out)
            have hXd2 := Lib.hid (show X.drop (k + 1 + (p + 1)) = L.drop (k + 1 + (p + 1)) from by
              rw [show k + 1 + (p + 1) = k + 1 + p + 1 by omega, drop_next X (k + 1 + p), drop_next L (k + 1 + p), hXd.out])
            rw [show decide (A ≠ B) = false by simp [hab]]
            clear hab d0 d1
            go_wp2_with fail
            go_roundg (L.length - (k + 1 + p + 1))
            case measure => omega
            case rel => exact ⟨a, p + 1, X, by simp, by simp, by omega, by omega, by omega, hXL, hXt2, hXd2, hrow1, hK1⟩
          · have hax : a < X.length := by omega
            have hXt2 := Lib.hid (show (X.set a A).take (a + 1) = compF (L.take (k + 1 + (p + 1) + 1)) from by
              rw [show k + 1 + (p + 1) + 1 = k + 1 + p + 2 by omega, hst.out, if_neg (by rw [hA.out, hBx.out]; exact fun h => hab h.symm), ← hXt.out, List.take_succ_eq_append_getElem (by rw [List.length_set]; exact hax), List.getElem_set_self, List.take_set_of_le (Nat.le_refl _), hA.out])
            have hXd2 := Lib.hid (show (X.set a A).drop (k + 1 + (p + 1)) = L.drop (k + 1 + (p + 1)) from by
              rw [List.drop_set_of_lt (by omega), show k + 1 + (p + 1) = k + 1 + p + 1 by omega, drop_next X (k + 1 + p), drop_next L (k + 1 + p), hXd.out])
            have hx1 : X[k + 1 + p + 1]'(by omega) = A := by
              have h1 : (X.drop (k + 1 + p))[1]? = (L.drop (k + 1 + p))[1]? := by rw [hXd.out]
              rw [List.getElem?_drop, List.getElem?_drop, List.getElem?_eq_getElem (by omega), List.getElem?_eq_getElem (by omega)] at h1
              exact (Option.some.inj h1).trans hA.out
            rw [hx1] at d0 d1
            rw [show (k + 1 + p + 1) * 2 = (k + 1) * 2 + (p + 1) * 2 by omega] at d0 d1
            obtain ⟨s0, s1⟩ := flo_rcells hrow2.out hax
            have z0 := hrow2.out.frozen (a * 2)
            have z1 := hrow2.out.frozen (a * 2 + 1)
            have hka : (0 : Int) ≤ (a : Int) := by omega
            have hka1 : (a : Int) < (L.length : Int) := by omega
            have hwa : IntKind.i64.wrap ((a : Int) + 1) = (a : Int) + 1 := by rw [IntKind.wrap_i64]; omega
            have hrow3 := Lib.hid (show FlRow _ base (.slice (some ⟨gb, 0, none⟩) L.length cap) (X.set a A) from by have := hrow2.out.set hax A; rw [hXL] at this; exact this)
            have hK3 := Lib.hid ((hK1.out.setCell (p := ⟨gb, a * 2, none⟩) hgb (.string (bs A.who))).setCell (p := ⟨gb, a * 2 + 1, none⟩) hgb (.int .i64 A.ep))
            rw [show decide (A ≠ B) = true by simp [hab]]
            clear hab hx1 hrowXH hrow2 hrow1
            go_wp2_with fail
            go_roundg (L.length - (k + 1 + p + 1))
            case measure => omega
            case rel => exact ⟨a + 1, p + 1, X.set a A, by simp, by simp, by omega, by omega, by omega, by rw [List.length_set]; exact hXL, hXt2, hXd2, hrow3, hK3⟩
        · have hpe : k + 1 + p + 1 = L.length := by omega
          have hge : ¬ ((p : Int) + 1 < ((L.length - (k + 1) : Nat) : Int)) := by omega
          have hrowX : FlRow wr base (.slice (some ⟨gb, 0, none⟩) X.length cap) X := by rw [hXL]; exact hrow.out
          have hXt2 := Lib.hid (show X.take a = compF L from by rw [hXt.out, hpe, List.take_length])
          rcases hrowX.shape with ⟨h1, _⟩ | ⟨g', cap', cur, he, hb', hg', hc', hm', hsz, htk⟩
          · cases h1
          cases he
          have hcells : ∀ j, j < (L.length - a) * 2 → (wr.cell? ⟨gb, a * 2 + j, none⟩).isSome = true := fun j hj => by
            rw [cell_of_row wr gb _ _ _ _ hg', Array.getElem?_eq_getElem (by rw [hsz]; omega)]; rfl
          have hcl := fun ty => run_clear_floors wr ty gb (a * 2) (L.length - a) (cap - a) (by omega) hcells (fun j _ => frozen_of_row _ _ _ _ _ hg')
          obtain ⟨hz1, _⟩ := zeros_floor (L.length - a)
          obtain ⟨cur', k1, k2, k3⟩ := heap_setCells gb 24 (Builtin.zeroCells (Value.agg #[.string ⟨#[]⟩, .int .i64 0]).cells (L.length - a)).toList (a * 2) wr cur hg' (by rw [hz1, hsz]; omega)
          have hla : (compF L).length = a := by rw [← hXt2.out, List.length_take]; omega
          have hfin := Lib.hid (show FlRow (wr.setCells gb (a * 2) (Builtin.zeroCells (Value.agg #[.string ⟨#[]⟩, .int .i64 0]).cells (L.length - a)).toList) base (.slice (some ⟨gb, 0, none⟩) a cap) (compF L) by
            unfold FlRow
            rw [hla]
            refine ⟨by rw [flatF_len, hla], .inr ⟨gb, cap, cur', rfl, hgb, k1, by omega, hm', by rw [k2, hsz], ?_⟩⟩
            rw [← hXt2.out, flatF_take, ← htk, List.take_take, Nat.min_eq_left (by omega), k3, List.append_assoc, List.take_append_of_le_length (by simp; omega), List.take_take, Nat.min_self])
          have hKf := Lib.hid (below_setCells gb hgb (Builtin.zeroCells (Value.agg #[.string ⟨#[]⟩, .int .i64 0]).cells (L.length - a)).toList (a * 2) wr hK.out)
          have hal : a ≤ L.length := by omega
          have hac : a ≤ cap := by omega
          have hlaH := Lib.hid hla
          clear k1 k2 k3 hz1 hcells hg' hsz htk hrowX hla hpe hpl
          generalize (Builtin.zeroCells (Value.agg #[.string ⟨#[]⟩, .int .i64 0]).cells (L.length - a)).toList = zs at *
          go_wp2_with fail
          go_ret
          exact ⟨by rw [hlaH.out]; rfl, by rw [hlaH.out]; exact hfin.out, hKf.out⟩
    · have hke : k + 1 = L.length := by omega
      have hge : ¬ ((k : Int) + 1 < (L.length : Int)) := by omega
      have hid := Lib.hid (show compF L = L from by
        have := compF_id (L := L) L.length (Nat.le_refl _) (fun i h1 h2 => hno.out i h1 (by omega))
        rwa [List.take_length] at this)
      clear hlt hk hg hke
      go_wp2_with fail
      go_ret
      exact ⟨by rw [hid.out]; rfl, by rw [hid.out]; exact hrow.out, hK.out⟩
end Go.Proofs.YtcnadjdijolboaaGreatDoor
