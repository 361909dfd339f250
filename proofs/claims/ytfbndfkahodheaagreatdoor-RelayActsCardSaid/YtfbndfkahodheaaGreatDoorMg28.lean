/- RelV -/
import Derived.Test.YtfbndfkahodheaaGreatDoorMg27
import Derived.Test.YtfbndfkahodheaaGreatDoorMg11
import Derived.Test.YtfbndfkahodheaaGreatDoorMg14
import Derived.Deep.LoopGhost
/- The reference's trees: NewTree: walked. -/
namespace Go.Proofs.YtfbndfkahodheaaGreatDoor
open Go.RowKit

/-- A tree of one, new. -/
theorem rtree_new (w : World) (key : Int) : RTreeAt ((((w.alloc (.cells #[.int .i64 key, .int .i64 (-1), .slice none 0 0, .string ⟨#[]⟩] 69)).alloc (.cells #[.pointer (some ⟨w.heap.size, 0, none⟩)] 67)).alloc (.cells #[.int .i64 (-1)] 3)).alloc (.cells #[.slice (some ⟨w.heap.size + 1, 0, none⟩) 1 1, .slice (some ⟨w.heap.size + 1 + 1, 0, none⟩) 1 1] 91)) w.heap.size (w.heap.size + 1 + 1 + 1) [w.heap.size] [newFol key] [-1] := by
  have h4 := heap_alloc_new (((w.alloc (.cells #[.int .i64 key, .int .i64 (-1), .slice none 0 0, .string ⟨#[]⟩] 69)).alloc (.cells #[.pointer (some ⟨w.heap.size, 0, none⟩)] 67)).alloc (.cells #[.int .i64 (-1)] 3)) (.cells #[.slice (some ⟨w.heap.size + 1, 0, none⟩) 1 1, .slice (some ⟨w.heap.size + 1 + 1, 0, none⟩) 1 1] 91)
  simp only [World.size_alloc] at h4
  have hf : RFolAt (w.alloc (.cells #[.int .i64 key, .int .i64 (-1), .slice none 0 0, .string ⟨#[]⟩] 69)) w.heap.size w.heap.size (newFol key) := ⟨Nat.le_refl _, .slice none 0 0, heap_alloc_new w _, RowG.nil _ _ _⟩
  have hu := RowG.new1 (C := ptrC) (base := w.heap.size) (w.alloc (.cells #[.int .i64 key, .int .i64 (-1), .slice none 0 0, .string ⟨#[]⟩] 69)) w.heap.size 67 (cs := #[.pointer (some ⟨w.heap.size, 0, none⟩)]) rfl (by rw [World.size_alloc]; omega)
  have hv := RowG.new1 (C := numC) (base := w.heap.size) ((w.alloc (.cells #[.int .i64 key, .int .i64 (-1), .slice none 0 0, .string ⟨#[]⟩] 69)).alloc (.cells #[.pointer (some ⟨w.heap.size, 0, none⟩)] 67)) (-1) 3 (cs := #[.int .i64 (-1)]) rfl (by simp only [World.size_alloc]; omega)
  simp only [World.size_alloc] at hu hv
  have bl : ∀ (x : World) o, Below x.heap.size x (x.alloc o) := fun x o => (Below.refl _ _).alloc (Nat.le_refl _) _
  exact ⟨by omega, ⟨_, _, h4, RowG.alloc (RowG.alloc hu _) _, RowG.alloc hv _⟩, rfl, by simp, fun i hi => by
    have : i = 0 := by simp at hi; exact hi
    subst this
    exact ((hf.below (bl _ _)).below (bl _ _)).below (bl _ _)⟩
def NewTRR (base : Nat) (w' : World) (key : Int) (A : List Int) (e : Ending) : Prop :=
  ((newTE key A).1 ≠ 0 ∧ e = .returned (.tuple #[.pointer none, faultF (newTE key A).1 (newTE key A).2])) ∨
  ((newTE key A).1 = 0 ∧ ∃ b ps, e = .returned (.tuple #[.pointer (some ⟨b, 0, none⟩), faultF 0 (-1)]) ∧ RTreeAt w' base b ps (List.replicate (A.length + 1) (newFol key)) (-1 :: A))
theorem NewTRR.bad {base : Nat} {w' : World} {key : Int} {A : List Int} {c : Nat} {a z : Int} (h : newTE key A = (c, a)) (hc : c ≠ 0) (hz : z = (c : Int)) : NewTRR base w' key A (.returned (.tuple #[.pointer none, .agg #[.int .i64 z, .int .i64 a]])) := by
  subst hz
  unfold NewTRR
  rw [h]
  exact .inl ⟨hc, rfl⟩
theorem NewTRR.good {base : Nat} {w' : World} {key : Int} {A : List Int} {a : Int} {b : Nat} {ps : List Nat} (h : newTE key A = (0, a)) (hT : RTreeAt w' base b ps (List.replicate (A.length + 1) (newFol key)) (-1 :: A)) : NewTRR base w' key A (.returned (.tuple #[.pointer (some ⟨b, 0, none⟩), .agg #[.int .i64 0, .int .i64 (-1)]])) := by
  unfold NewTRR
  rw [h]
  exact .inr ⟨rfl, b, ps, rfl, hT⟩
theorem rfol_new1 (w : World) (key : Int) : RFolAt (w.alloc (.cells #[.int .i64 key, .int .i64 (-1), .slice none 0 0, .string ⟨#[]⟩] 69)) w.heap.size w.heap.size (newFol key) :=
  ⟨Nat.le_refl _, .slice none 0 0, heap_alloc_new w _, RowG.nil _ _ _⟩
/-- A store below the tree's blocks keeps it. -/
theorem RTreeAt.setBelow {w : World} {base b : Nat} {ps : List Nat} {T : List Fol} {A : List Int} (h : RTreeAt w base b ps T A) (p : Addr) (u : Value) (hp : p.block < base) : RTreeAt (w.setCell p u) base b ps T A := by
  have hk : Keeps (· = p.block) w (w.setCell p u) := keeps_setCell _ _ _ rfl
  obtain ⟨u1, v1, h1, h2, h3⟩ := h.blk
  have hg := h.ge
  refine ⟨h.ge, ⟨u1, v1, hk.obj h1 (fun e => by have : b = p.block := e; omega), h2.keeps hk (fun g hg hs => ?_), h3.keeps hk (fun g hg hs => ?_)⟩, h.len, h.nd, fun i hi => ?_⟩
  · have := (RowG.block h2 hg).1
    have : g = p.block := hs
    omega
  · have := (RowG.block h3 hg).1
    have : g = p.block := hs
    omega
  · obtain ⟨h4, u4, h5, h6⟩ := h.fol i hi
    refine ⟨h4, u4, hk.obj h5 (fun e => by have : ps.getD i 0 = p.block := e; omega), h6.keeps hk (fun g hg hs => ?_)⟩
    have := (RowG.block h6 hg).1
    have : g = p.block := hs
    omega
set_option maxHeartbeats 16000000 in
set_option maxRecDepth 100000 in
theorem newTR_any (key : Int) (v : Value) (A : List Int) (w : World) (hv : AtG numC w v A) (hl : A.length ≤ 1000) :
    Calls Tryz.prog 37 #[.int .i64 key, v] w fun e w' => NewTRR w.heap.size w' key A e ∧ Below w.heap.size w w' := by
  have hFB : FBox w (w.alloc (.cells #[.int .i64 0, .int .i64 0] 33)) := ⟨heap_alloc_new w _, (Below.refl _ _).alloc (Nat.le_refl _) _⟩
  obtain ⟨a0, c0, rfl, hml, _, _, hcs⟩ := hv
  unfold maxLen at hml
  have hcs := Lib.hid hcs
  have hFB := Lib.hid hFB
  have hba := Lib.hid (fun c wx => bareF_any c wx)
  by_cases hk : isKey key = true
  case neg =>
    have hk : isKey key = false := by simpa using hk
    have hr := Lib.hid (newTE_key A hk)
    have hik := fun wx => isKey_any key wx
    rw [hk] at hik
    have hikH := Lib.hid hik
    clear hk hik
    go_enter Tryz.func37, Tryz.ntmps37
    go_wp2_with fail
    refine (hikH.out _).mono ?_
    rintro e w1 ⟨rfl, rfl⟩
    go_wp2_with fail
    refine (hba.out _ _).mono ?_
    rintro e w2 ⟨rfl, hb2⟩
    have hB2 := hFB.out.below hb2
    obtain ⟨⟨r0, r1⟩, f0, f1⟩ := hB2.cells
    have hset := Lib.hid (hB2.set (.int .i64 10) (.int .i64 (-1)))
    clear hb2 hB2
    go_wp2_with fail
    exact bodyPost_ret (v := .tuple #[.pointer none, .agg #[.int .i64 10, .int .i64 (-1)]]) (by simp [results, Tryz.results37, go_sem, hset.out.1]) rfl ⟨NewTRR.bad hr.out (by decide) rfl, hset.out.2⟩
  have hkH := Lib.hid hk
  have hik := fun wx => isKey_any key wx
  rw [hk] at hik
  have hikH := Lib.hid hik
  clear hk hik
  go_enter Tryz.func37, Tryz.ntmps37
  go_wp2_with fail
  refine (hikH.out _).mono ?_
  rintro e w1 ⟨rfl, rfl⟩
  by_cases h10 : 10 < A.length
  · have hr := Lib.hid (newTE_full hkH.out h10)
    have h10i : (10 : Int) < (A.length : Int) := by omega
    clear h10
    go_wp2_with fail
    refine (hba.out _ _).mono ?_
    rintro e w2 ⟨rfl, hb2⟩
    have hB2 := hFB.out.below hb2
    obtain ⟨⟨r0, r1⟩, f0, f1⟩ := hB2.cells
    have hset := Lib.hid (hB2.set (.int .i64 7) (.int .i64 (-1)))
    clear hb2 hB2
    go_wp2_with fail
    exact bodyPost_ret (v := .tuple #[.pointer none, .agg #[.int .i64 7, .int .i64 (-1)]]) (by simp [results, Tryz.results37, go_sem, hset.out.1]) rfl ⟨NewTRR.bad hr.out (by decide) rfl, hset.out.2⟩
  have h10i : ¬ (10 : Int) < (A.length : Int) := by omega
  generalize w.alloc (.cells #[.int .i64 0, .int .i64 0] 33) = W0 at *
  have hT0 := rtree_new W0 key
  have hlt0 : w.heap.size < W0.heap.size := (Array.getElem?_eq_some_iff.1 hFB.out.1).1
  have hB0 := Lib.hid (show Below W0.heap.size W0 ((((W0.alloc (.cells #[.int .i64 key, .int .i64 (-1), .slice none 0 0, .string ⟨#[]⟩] 69)).alloc (.cells #[.pointer (some ⟨W0.heap.size, 0, none⟩)] 67)).alloc (.cells #[.int .i64 (-1)] 3)).alloc (.cells #[.slice (some ⟨W0.heap.size + 1, 0, none⟩) 1 1, .slice (some ⟨W0.heap.size + 1 + 1, 0, none⟩) 1 1] 91)) from ((((Below.refl _ _).alloc (Nat.le_refl _) _).alloc (by simp only [World.size_alloc]; omega) _).alloc (by simp only [World.size_alloc]; omega) _).alloc (by simp only [World.size_alloc]; omega) _)
  have hT0 := Lib.hid hT0
  go_upto_region 7 with fail
  generalize hWd : ((((W0.alloc (.cells #[.int .i64 key, .int .i64 (-1), .slice none 0 0, .string ⟨#[]⟩] 69)).alloc (.cells #[.pointer (some ⟨W0.heap.size, 0, none⟩)] 67)).alloc (.cells #[.int .i64 (-1)] 3)).alloc (.cells #[.slice (some ⟨W0.heap.size + 1, 0, none⟩) 1 1, .slice (some ⟨W0.heap.size + 1 + 1, 0, none⟩) 1 1] 91)) = W1 at *
  generalize hbd : W0.heap.size + 1 + 1 + 1 = bt at *
  have hbt : W0.heap.size ≤ bt := by omega
  have hp0 : W0.heap.size < W0.heap.size + 1 := by omega
  clear hWd hbd
  go_wp2_with fail
  go_loopg [8] (A.length + 1) (fun g i wr => ∃ (k : Nat) (ps : List Nat), i = .int .i64 k ∧ k ≤ A.length ∧ A.length - k + 1 ≤ g ∧ Hid (ps.length = k + 1) ∧ Hid (∀ i, i < k → badA A i = false) ∧ Hid (RTreeAt wr W0.heap.size bt ps (List.replicate (k + 1) (newFol key)) (-1 :: A.take k) ∧ Below W0.heap.size W0 wr))
  case atStart => exact ⟨0, [W0.heap.size], rfl, Nat.zero_le _, by omega, Lib.hid rfl, Lib.hid (fun _ h => absurd h (Nat.not_lt_zero _)), Lib.hid ⟨hT0.out, hB0.out⟩⟩
  case round =>
    obtain ⟨j, ps, rfl, hj, hg, hpl, hall, hP⟩ := hrel
    by_cases hjl : j < A.length
    · obtain ⟨g, o, rfl, hcj⟩ := hcs.out j hjl
      have d0 : w.cell? ⟨g, o + j, none⟩ = some (.int .i64 A[j]) := by simpa [numC] using hcj 0 _ rfl
      have d0H := Lib.hid d0
      have hBw := Lib.hid (fun wx (hx : Below W0.heap.size W0 wx) => (show Below w.heap.size w wx from below_trans hFB.out.2 hx))
      have d0 := cell_below (hBw.out _ hP.out.2) d0
      have hsn : A.take (j + 1) = A.take j ++ [A[j]] := by rw [List.take_add_one, List.getElem?_eq_getElem hjl]; rfl
      have hbd : badA A j = decide (A[j] < 0 ∨ (j : Int) < A[j]) := by unfold badA; rw [getD_get hjl]
      generalize A[j] = n at *
      have hsnH := Lib.hid hsn
      have hbdH := Lib.hid hbd
      have hk0 : (0 : Int) ≤ (j : Int) := by omega
      have hk1 : (j : Int) < (A.length : Int) := by omega
      clear hcj hsn hbd
      by_cases hbad : n < 0 ∨ (j : Int) < n
      · have hr := Lib.hid (newTE_bad hkH.out h10 hjl (by rw [hbdH.out]; exact decide_eq_true hbad) hall.out)
        have hB2 := hFB.out.below hP.out.2
        obtain ⟨⟨r0, r1⟩, f0, f1⟩ := hB2.cells
        have hset := Lib.hid (hB2.set (.int .i64 2) (.int .i64 j))
        clear hB2
        by_cases h1 : n < 0
        all_goals
          (try have h2 : (j : Int) < n := by omega)
          clear hbad
          go_wp2_with fail
          exact bodyPost_ret (v := .tuple #[.pointer none, .agg #[.int .i64 2, .int .i64 j]]) (by simp [results, Tryz.results37, go_sem, hset.out.1]) rfl ⟨NewTRR.bad hr.out (by decide) rfl, hset.out.2⟩
      · have hb' := Lib.hid (show badA A j = false by rw [hbdH.out]; exact decide_eq_false hbad)
        have h1 : ¬ n < 0 := fun h => hbad (.inl h)
        have h2 : ¬ (j : Int) < n := fun h => hbad (.inr h)
        have hall2 := Lib.hid (show ∀ i, i < j + 1 → badA A i = false from fun i hi => by
          rcases Nat.lt_succ_iff_lt_or_eq.1 hi with h' | rfl
          · exact hall.out i h'
          · exact hb'.out)
        have hs1 := hP.out.2.size
        have hR1 := rfol_new1 wr key
        have hT1 := hP.out.1.below ((Below.refl _ _).alloc (Nat.le_refl _) (.cells #[.int .i64 key, .int .i64 (-1), .slice none 0 0, .string ⟨#[]⟩] 69))
        have hK1 := Lib.hid (hP.out.2.alloc hs1 (.cells #[.int .i64 key, .int .i64 (-1), .slice none 0 0, .string ⟨#[]⟩] 69))
        have hnp : wr.heap.size ∉ ps := fun hmem => by
          obtain ⟨i, hi, he⟩ := List.getElem_of_mem hmem
          have h1 := (hP.out.1.fol i hi).lt
          rw [getD_get hi, he] at h1
          omega
        have hR1 := Lib.hid (hR1.mono hs1)
        obtain ⟨u, vA, hbk, hu, hvA⟩ := hT1.blk
        obtain ⟨au, cu, rfl⟩ := hu.sl
        obtain ⟨u0, vA0, hbk0, _, _⟩ := hP.out.1.blk
        have hbeq := hbk0.symm.trans ((Below.heap_alloc wr (.cells #[.int .i64 key, .int .i64 (-1), .slice none 0 0, .string ⟨#[]⟩] 69) bt hP.out.1.lt).symm.trans hbk)
        injection hbeq with hbeq
        injection hbeq with hbeq _ _
        injection hbeq with hbeq
        injection hbeq with hbq0 hbq1
        injection hbq1 with hbq1 _
        subst hbq0
        subst hbq1
        obtain ⟨⟨e0, _⟩, _⟩ := two_kept (Below.refl _ _) hbk0
        have hTH := Lib.hid hT1
        have hbkH := Lib.hid hbk
        have huH := Lib.hid hu
        have hvH := Lib.hid hvA
        have hnpH := Lib.hid hnp
        have hs2 := hK1.out.size
        have hpl2 : ps.length ≤ 1001 := by have := hpl.out; omega
        have hat := AtG.new (C := ptrC) (wr.alloc (.cells #[.int .i64 key, .int .i64 (-1), .slice none 0 0, .string ⟨#[]⟩] 69)) wr.heap.size 67 rfl
        simp only [World.size_alloc] at hat
        have hat := Lib.hid hat
        clear hbad hT1 hbk hbk0 hu hvA hnp
        go_wp2_with (first
          | (at_builtin; refine wpList_appG ptrC _ rfl _ _ 89 rfl 67 (.pointer none) 8 Tryz.underlying89 info_rptr rfl (by decide) W0.heap.size _ ps rfl (RowG.alloc huH.out _) _ [wr.heap.size] rfl hat.out (by simp; omega) (by first | omega | (simp; omega)) ?_)
          | go_in)
        intro v6 w6 hown6 hb6 hg6 _
        obtain ⟨a6, c6, hs6⟩ := hown6.sl
        rw [List.length_append, List.length_singleton] at hs6
        subst hs6
        have hkk := (Keeps.of_below (S := fun k => (Value.slice au ps.length cu).ownBlock = some k) ((Below.refl _ _).alloc (Nat.le_refl _) _)).trans (keeps_grown (base := 0) hg6)
        have hT6 := Lib.hid (hTH.out.grow hbkH.out huH.out hvH.out hkk hown6 hnpH.out hR1.out)
        have hbk6 := hkk.obj hbkH.out (fun hg => row_not_fol huH.out hbkH.out rptr_ne_rtree hg)
        obtain ⟨⟨q0, _⟩, g0, _⟩ := two_kept (Below.refl _ _) hbk6
        have hB6 := Lib.hid (((hK1.out.alloc hs2 _).trans hb6).setCell (p := ⟨bt, 0, none⟩) hbt (.slice a6 (ps.length + 1) c6))
        clear hown6 hb6 hg6 hkk hbk6 e0 d0
        go_upto_region 13 with fail
        generalize hWd : w6.setCell ⟨bt, 0, none⟩ (.slice a6 (ps.length + 1) c6) = W at *
        clear hWd q0 g0
        have hsn2 := Lib.hid (show (-1 :: A.take (j + 1) : List Int) = (-1 :: A.take j) ++ [n] by rw [hsnH.out]; rfl)
        have hll : (-1 :: A.take j : List Int).length ≤ 1001 := by rw [List.length_cons, List.length_take]; omega
        generalize (-1 :: A.take j : List Int) = AJ at *
        obtain ⟨u, vA, hbk, hu, hvA⟩ := hT6.out.blk
        obtain ⟨av, cv, rfl⟩ := hvA.sl
        have hD0 : Below W.heap.size W W.drew := (Below.refl _ _).drew
        have hE1 := Lib.hid (fun wx (hx : Below W.heap.size W wx) => (two_kept hx hbk).1.2)
        have hE1D := hE1.out _ hD0
        have hE1A := Lib.hid (fun o => (show (W.alloc o).drew.cell? ⟨bt, 1, none⟩ = some (.slice av AJ.length cv) from hE1.out _ (hD0.alloc hD0.size o)))
        have hkS := Lib.hid (fun wx (hx : Below W0.heap.size W0 wx) => cell_below (hBw.out _ hx) d0H.out)
        have hDD := Lib.hid (show Below W0.heap.size W0 W.drew from hB6.out.drew)
        have hDA := Lib.hid (fun o => hDD.out.alloc hDD.out.size o)
        have hTD := Lib.hid (hT6.out.below hD0)
        have hbkD := Lib.hid (heap_down hD0 hbk)
        have huD := Lib.hid (hu.below hD0)
        have hvD := Lib.hid (hvA.below hD0)
        have hsD := hDD.out.size
        have hcD := hkS.out _ hDD.out
        have hpl3 := Lib.hid (show (ps ++ [wr.heap.size]).length = j + 1 + 1 by rw [List.length_append, hpl.out]; rfl)
        have hrep := Lib.hid (replicate_succ' (j + 1) (newFol key))
        clear hbk hu hvA hD0 h1 h2 hs1 hs2 hpl2
        refine wp_region_noPanic ?_
        refine wp_region_held_drew (S := fun w' => w'.cell? ⟨g, o + j, none⟩ = some (.int .i64 n)) (by kernel_rfl) ?_ (fun hHeld => ?_)
        · exact hcD
        refine' held_take (i := 0) (d := some 58) (v := _) rfl rfl (by kernel_rfl) (by kernel_rfl) (by kernel_rfl) (fun _ _ _ h => h) rfl (by assumption) ?hy_1 ?re_1
        case hy_1 =>
          intro w hSw
          try dsimp only at hSw
          go_simp
          try with_reducible rfl
        simp only [Act.put, List.setIfInBounds_toArray, List.set_cons_zero, List.set_cons_succ]
        refine' held_take (i := 1) (d := some 59) (v := _) rfl rfl (by kernel_rfl) (by kernel_rfl) (by kernel_rfl) (fun _ _ _ h => h) rfl (by assumption) ?hy_2 ?re_2
        case hy_2 =>
          intro w hSw
          try dsimp only at hSw
          go_simp
          try with_reducible rfl
        simp only [Act.put, List.setIfInBounds_toArray, List.set_cons_zero, List.set_cons_succ]
        refine' held_take (i := 2) (d := some 60) (v := _) rfl rfl (by kernel_rfl) (by kernel_rfl) (by kernel_rfl) (fun _ _ _ h => h) rfl (by assumption) ?hy_3 ?re_3
        case hy_3 =>
          intro w hSw
          try dsimp only at hSw
          go_simp
          try with_reducible rfl
        simp only [Act.put, List.setIfInBounds_toArray, List.set_cons_zero, List.set_cons_succ]
        refine' held_take (i := 3) (d := some 61) (v := _) rfl rfl (by kernel_rfl) (by kernel_rfl) (by kernel_rfl) (fun _ _ _ h => h) rfl (by assumption) ?hy_4 ?re_4
        case hy_4 =>
          intro w hSw
          try dsimp only at hSw
          go_simp
          try with_reducible rfl
        simp only [Act.put, List.setIfInBounds_toArray, List.set_cons_zero, List.set_cons_succ]
        refine' held_take (i := 5) (d := some 63) (v := _) rfl rfl (by kernel_rfl) (by kernel_rfl) (by kernel_rfl) (fun _ _ _ h => h) rfl (by assumption) ?hy_5 ?re_5
        case hy_5 =>
          intro w hSw
          try dsimp only at hSw
          go_simp
          try with_reducible rfl
        simp only [Act.put, List.setIfInBounds_toArray, List.set_cons_zero, List.set_cons_succ]
        refine' held_take (i := 6) (d := some 64) (v := _) rfl rfl (by kernel_rfl) (by kernel_rfl) (by kernel_rfl) (fun _ _ _ h => h) rfl (by assumption) ?hy_6 ?re_6
        case hy_6 =>
          intro w hSw
          try dsimp only at hSw
          go_simp
          try with_reducible rfl
        simp only [Act.put, List.setIfInBounds_toArray, List.set_cons_zero, List.set_cons_succ]
        refine' held_take (i := 7) (d := some 65) (v := _) rfl rfl (by kernel_rfl) (by kernel_rfl) (by kernel_rfl) (fun _ _ _ h => h) rfl (by assumption) ?hy_7 ?re_7
        case hy_7 =>
          intro w hSw
          try dsimp only at hSw
          go_simp
          try with_reducible rfl
        simp only [Act.put, List.setIfInBounds_toArray, List.set_cons_zero, List.set_cons_succ]
        refine' held_take (i := 8) (d := some 66) (v := _) rfl rfl (by kernel_rfl) (by kernel_rfl) (by kernel_rfl) (fun _ _ _ h => h) rfl (by assumption) ?hy_8 ?re_8
        case hy_8 =>
          intro w hSw
          try dsimp only at hSw
          go_simp
          try with_reducible rfl
        simp only [Act.put, List.setIfInBounds_toArray, List.set_cons_zero, List.set_cons_succ]
        refine wpAnyH_ready (rs := [4, 9]) (by kernel_rfl) (by simp) ?_
        refine AllReadyH.cons rfl (fun K hK => ?_) (AllReadyH.cons rfl (fun K hK => ?_) AllReadyH.nil)
        · have hEo := hE1A.out
          go_simp
          refine hK.out _ _ ?_ (fun hHeld => ?_)
          · first | exact hcD | exact hkS.out _ (hDA.out _)
          clear hK K
          try simp only [Act.put, List.setIfInBounds_toArray, List.set_cons_zero, List.set_cons_succ]
          refine wpAnyH_ready (rs := [9]) (by kernel_rfl) (by simp) ?_
          refine AllReadyH.cons rfl (fun K hK => ?_) AllReadyH.nil
          go_simp
          refine hK.out _ _ ?_ (fun hHeld => ?_)
          · exact hkS.out _ (hDA.out _)
          clear hK K
          try simp only [Act.put, List.setIfInBounds_toArray, List.set_cons_zero, List.set_cons_succ]
          refine wpAnyH_ready (rs := [10]) (by kernel_rfl) (by simp) ?_
          refine AllReadyH.cons rfl (fun K hK => ?_) AllReadyH.nil
          refine step_appG numC _ rfl _ _ 79 rfl 3 (.int .i64 0) 8 Tryz.underlying79 info_num rfl (by decide) W0.heap.size _ AJ (by rfl) (RowG.alloc hvD.out _) _ [n] (by rfl) (AtG.new _ _ _ rfl) (by simp) (by simp; omega) (show W0.heap.size ≤ _ from (hDA.out (.cells #[.int .i64 n] 3)).size) ?_
          intro v7 w7 hown7 hb7 hg7
          obtain ⟨a7, c7, hs7⟩ := hown7.sl
          rw [List.length_append, List.length_singleton] at hs7
          subst hs7
          have hg7 : (W.drew.alloc (.cells #[.int .i64 n] 3)).grownBy w7 (Value.slice av AJ.length cv).ownBlock := hg7
          have hkk := (show Keeps (fun k => (Value.slice av AJ.length cv).ownBlock = some k) W.drew (W.drew.alloc (.cells #[.int .i64 n] 3)) from Keeps.of_below ((Below.refl _ _).alloc (Nat.le_refl _) _)).trans (keeps_grown (base := 0) hg7)
          have hT7 := Lib.hid (hTD.out.growA hbkD.out huD.out hvD.out hkk hown7)
          have hbk7 := hkk.obj hbkD.out (fun hg => row_not_fol hvD.out hbkD.out num_ne_rtree hg)
          obtain ⟨⟨_, q1⟩, _, g1⟩ := two_kept (Below.refl _ _) hbk7
          have hB7 := Lib.hid ((hDA.out _).trans hb7)
          have hB8 := Lib.hid (hB7.out.setCell (p := ⟨bt, 1, none⟩) hbt (.slice a7 (AJ.length + 1) c7))
          clear hown7 hb7 hg7 hkk hbk7
          refine hK.out _ _ ?_ (fun hHeld => ?_)
          · exact hkS.out _ hB7.out
          clear hK K
          try simp only [Act.put, List.setIfInBounds_toArray, List.set_cons_zero, List.set_cons_succ]
          refine' held_take (i := 11) (d := some 69) (v := _) rfl rfl (by kernel_rfl) (by kernel_rfl) (by kernel_rfl) (fun _ _ _ h => h) rfl (by assumption) ?hy_9 ?re_9
          case hy_9 =>
            intro w hSw
            try dsimp only at hSw
            go_simp
            try with_reducible rfl
          simp only [Act.put, List.setIfInBounds_toArray, List.set_cons_zero, List.set_cons_succ]
          refine' held_take (i := 12) (d := some 70) (v := _) rfl rfl (by kernel_rfl) (by kernel_rfl) (by kernel_rfl) (fun _ _ _ h => h) rfl (by assumption) ?hy_10 ?re_10
          case hy_10 =>
            intro w hSw
            try dsimp only at hSw
            go_simp
            try with_reducible rfl
          simp only [Act.put, List.setIfInBounds_toArray, List.set_cons_zero, List.set_cons_succ]
          refine wpAnyH_ready (rs := [13]) (by kernel_rfl) (by simp) ?_
          refine AllReadyH.cons rfl (fun K hK => ?_) AllReadyH.nil
          go_simp
          refine hK.out _ _ ?_ (fun hHeld => ?_)
          · exact hkS.out _ hB8.out
          clear hK K
          try simp only [Act.put, List.setIfInBounds_toArray, List.set_cons_zero, List.set_cons_succ]
          refine wpAnyH_done (by kernel_rfl) ?_ _
          refine NoPanic.normal ?_
          go_wp2_with fail
          go_roundg (A.length - j)
          case measure => omega
          case rel => exact ⟨j + 1, _, by simp, by omega, by omega, hpl3, hall2, by rw [hsn2.out, ← hrep.out]; exact Lib.hid ⟨hT7.out, hB8.out⟩⟩
        · go_simp
          refine hK.out _ _ ?_ (fun hHeld => ?_)
          · exact hkS.out _ (hDA.out _)
          clear hK K
          try simp only [Act.put, List.setIfInBounds_toArray, List.set_cons_zero, List.set_cons_succ]
          refine wpAnyH_ready (rs := [4]) (by kernel_rfl) (by simp) ?_
          refine AllReadyH.cons rfl (fun K hK => ?_) AllReadyH.nil
          have hEo := hE1A.out
          go_simp
          refine hK.out _ _ ?_ (fun hHeld => ?_)
          · first | exact hcD | exact hkS.out _ (hDA.out _)
          clear hK K
          try simp only [Act.put, List.setIfInBounds_toArray, List.set_cons_zero, List.set_cons_succ]
          refine wpAnyH_ready (rs := [10]) (by kernel_rfl) (by simp) ?_
          refine AllReadyH.cons rfl (fun K hK => ?_) AllReadyH.nil
          refine step_appG numC _ rfl _ _ 79 rfl 3 (.int .i64 0) 8 Tryz.underlying79 info_num rfl (by decide) W0.heap.size _ AJ (by rfl) (RowG.alloc hvD.out _) _ [n] (by rfl) (AtG.new _ _ _ rfl) (by simp) (by simp; omega) (show W0.heap.size ≤ _ from (hDA.out (.cells #[.int .i64 n] 3)).size) ?_
          intro v7 w7 hown7 hb7 hg7
          obtain ⟨a7, c7, hs7⟩ := hown7.sl
          rw [List.length_append, List.length_singleton] at hs7
          subst hs7
          have hg7 : (W.drew.alloc (.cells #[.int .i64 n] 3)).grownBy w7 (Value.slice av AJ.length cv).ownBlock := hg7
          have hkk := (show Keeps (fun k => (Value.slice av AJ.length cv).ownBlock = some k) W.drew (W.drew.alloc (.cells #[.int .i64 n] 3)) from Keeps.of_below ((Below.refl _ _).alloc (Nat.le_refl _) _)).trans (keeps_grown (base := 0) hg7)
          have hT7 := Lib.hid (hTD.out.growA hbkD.out huD.out hvD.out hkk hown7)
          have hbk7 := hkk.obj hbkD.out (fun hg => row_not_fol hvD.out hbkD.out num_ne_rtree hg)
          obtain ⟨⟨_, q1⟩, _, g1⟩ := two_kept (Below.refl _ _) hbk7
          have hB7 := Lib.hid ((hDA.out _).trans hb7)
          have hB8 := Lib.hid (hB7.out.setCell (p := ⟨bt, 1, none⟩) hbt (.slice a7 (AJ.length + 1) c7))
          clear hown7 hb7 hg7 hkk hbk7
          refine hK.out _ _ ?_ (fun hHeld => ?_)
          · exact hkS.out _ hB7.out
          clear hK K
          try simp only [Act.put, List.setIfInBounds_toArray, List.set_cons_zero, List.set_cons_succ]
          refine' held_take (i := 11) (d := some 69) (v := _) rfl rfl (by kernel_rfl) (by kernel_rfl) (by kernel_rfl) (fun _ _ _ h => h) rfl (by assumption) ?hy_11 ?re_11
          case hy_11 =>
            intro w hSw
            try dsimp only at hSw
            go_simp
            try with_reducible rfl
          simp only [Act.put, List.setIfInBounds_toArray, List.set_cons_zero, List.set_cons_succ]
          refine' held_take (i := 12) (d := some 70) (v := _) rfl rfl (by kernel_rfl) (by kernel_rfl) (by kernel_rfl) (fun _ _ _ h => h) rfl (by assumption) ?hy_12 ?re_12
          case hy_12 =>
            intro w hSw
            try dsimp only at hSw
            go_simp
            try with_reducible rfl
          simp only [Act.put, List.setIfInBounds_toArray, List.set_cons_zero, List.set_cons_succ]
          refine wpAnyH_ready (rs := [13]) (by kernel_rfl) (by simp) ?_
          refine AllReadyH.cons rfl (fun K hK => ?_) AllReadyH.nil
          go_simp
          refine hK.out _ _ ?_ (fun hHeld => ?_)
          · exact hkS.out _ hB8.out
          clear hK K
          try simp only [Act.put, List.setIfInBounds_toArray, List.set_cons_zero, List.set_cons_succ]
          refine wpAnyH_done (by kernel_rfl) ?_ _
          refine NoPanic.normal ?_
          go_wp2_with fail
          go_roundg (A.length - j)
          case measure => omega
          case rel => exact ⟨j + 1, _, by simp, by omega, by omega, hpl3, hall2, by rw [hsn2.out, ← hrep.out]; exact Lib.hid ⟨hT7.out, hB8.out⟩⟩
    · have hje : A.take j = A := List.take_of_length_le (by omega)
      have hjA : j = A.length := by omega
      have hr := Lib.hid (newTE_good hkH.out h10 (fun i hi => hall.out i (by omega)))
      have hgj2 : ¬ ((j : Int) < (A.length : Int)) := by omega
      have hP2 := hP.out
      rw [hje, hjA] at hP2
      have hP2 := Lib.hid hP2
      have hfi := Lib.hid (fun wx => fineF_any wx)
      clear hje hP hjA
      go_wp2_with fail
      refine (hfi.out _).mono ?_
      rintro e w2 ⟨rfl, hb2⟩
      have hT2 := hP2.out.1.below hb2
      have hB2 := (hFB.out.below hP2.out.2).below hb2
      obtain ⟨⟨r0, r1⟩, f0, f1⟩ := hB2.cells
      have hset := Lib.hid (hB2.set (.int .i64 0) (.int .i64 (-1)))
      have hT3 := Lib.hid ((hT2.setBelow ⟨w.heap.size, 0, none⟩ (.int .i64 0) hlt0).setBelow ⟨w.heap.size, 1, none⟩ (.int .i64 (-1)) hlt0)
      clear hb2 hB2 hT2
      go_wp2_with fail
      exact bodyPost_ret (v := .tuple #[.pointer (some ⟨bt, 0, none⟩), .agg #[.int .i64 0, .int .i64 (-1)]]) (by simp [results, Tryz.results37, go_sem, hset.out.1]) rfl ⟨NewTRR.good hr.out (hT3.out.mono (Nat.le_of_lt hlt0)), hset.out.2⟩
end Go.Proofs.YtfbndfkahodheaaGreatDoor
