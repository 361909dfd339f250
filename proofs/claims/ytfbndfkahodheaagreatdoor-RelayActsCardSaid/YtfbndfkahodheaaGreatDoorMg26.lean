/- RelN -/
import Derived.Test.YtfbndfkahodheaaGreatDoorMg25
import Derived.Deep.LoopGhost
/- Trees: New: walked. -/
namespace Go.Proofs.YtfbndfkahodheaaGreatDoor
open Go.RowKit

theorem RowG.new1 {α : Type} {C : Cells α} {base : Nat} (x : World) (p : α) (T : TypeId) {cs : Array Value} (hc : cs = (C.f p).toArray) (hb : base ≤ x.heap.size) : RowG C (x.alloc (.cells cs T)) base T (.slice (some ⟨x.heap.size, 0, none⟩) 1 1) [p] := by
  subst hc
  have h1 : (flatG C [p]) = C.f p := by simp [flatG]
  have h2 := C.len p
  unfold RowG
  refine ⟨by rw [h1, h2]; simp, .inr ⟨x.heap.size, 1, (C.f p).toArray, rfl, hb, heap_alloc_new x _, by simp, by unfold maxLen; decide, by simp [h2], ?_⟩⟩
  rw [h1]
  exact List.take_of_length_le (by simp [h2])
theorem row_other2 {α β : Type} {C : Cells α} {D : Cells β} {w : World} {base : Nat} {e e' : TypeId} {u v : Value} {L : List α} {M : List β} (h : RowG C w base e u L) (h' : RowG D w base e' v M) (hne : e ≠ e') {g : Nat} (hg : u.ownBlock = some g) : v.ownBlock ≠ some g := by
  obtain ⟨_, cs, h4⟩ := RowG.block h hg
  exact row_not_fol h' h4 (fun e => hne e.symm)
theorem ptr_ne_ent : (63 : TypeId) ≠ 102 := by decide
theorem ptr_ne_flo : (63 : TypeId) ≠ 24 := by decide
theorem num_ne_ent : (3 : TypeId) ≠ 102 := by decide
theorem num_ne_flo : (3 : TypeId) ≠ 24 := by decide
theorem tree_ne_ent : (134 : TypeId) ≠ 102 := by decide
theorem tree_ne_flo : (134 : TypeId) ≠ 24 := by decide
/-- A follower is kept by what changes blocks of other types alone. -/
theorem FolAt.keeps2 {w w' : World} {base b : Nat} {f : Fol} {S : Nat → Prop} (h : FolAt w base b f) (hk : Keeps S w w') (hS : ∀ k, S k → ∃ cs T, w.heap[k]? = some (.cells cs T (0, 0)) ∧ T ≠ 127 ∧ T ≠ 102 ∧ T ≠ 24) : FolAt w' base b f := by
  obtain ⟨h0, u, v, h1, h2, h3⟩ := h
  refine ⟨h0, u, v, (hk.block b (Array.getElem?_eq_some_iff.1 h1).1 (fun hs => ?_)).trans h1, RowG.keeps h2 hk (fun g hg hs => ?_), floRow_G.2 (RowG.keeps (floRow_G.1 h3) hk (fun g hg hs => ?_))⟩
  · obtain ⟨cs, T, h4, h5, _⟩ := hS b hs
    rw [h1] at h4
    injection h4 with h4
    injection h4 with _ h4 _
    exact h5 h4.symm
  · obtain ⟨cs, T, h4, _, h5, _⟩ := hS g hs
    exact row_not_fol h2 h4 (fun e => h5 e.symm) hg
  · obtain ⟨cs, T, h4, _, _, h5⟩ := hS g hs
    exact row_not_fol (floRow_G.1 h3) h4 (fun e => h5 e.symm) hg
theorem nodeT_app (T : List Fol) (f : Fol) (i : Nat) : nodeT (T ++ [f]) i = if i < T.length then nodeT T i else if i = T.length then f else newFol 0 := by
  unfold nodeT
  rw [List.getD_eq_getElem?_getD, List.getD_eq_getElem?_getD]
  by_cases h : i < T.length
  · rw [if_pos h, List.getElem?_append_left h]
  · rw [if_neg h, List.getElem?_append_right (by omega)]
    by_cases h2 : i = T.length
    · rw [if_pos h2, h2]; simp
    · rw [if_neg h2]
      have : i - T.length ≠ 0 := by omega
      simp [this]
/-- One follower more. -/
theorem TreeAt.grow {w1 w2 : World} {base b : Nat} {ps : List Nat} {T : List Fol} {A : List Int} (h : TreeAt w1 base b ps T A) {u v : Value} (hb : w1.heap[b]? = some (.cells #[u, v] 134 (0, 0))) (hu : RowG ptrC w1 base 63 u ps) (hv : RowG numC w1 base 3 v A)
    (hk : Keeps (fun k => u.ownBlock = some k) w1 w2) {u' : Value} {p : Nat} {f : Fol} (hu' : RowG ptrC w2 base 63 u' (ps ++ [p])) (hp : p ∉ ps) (hf : FolAt w1 base p f) : TreeAt (w2.setCell ⟨b, 0, none⟩ u') base b (ps ++ [p]) (T ++ [f]) A := by
  have hb2 : w2.heap[b]? = some (.cells #[u, v] 134 (0, 0)) := hk.obj hb (fun hg => row_not_fol hu hb ptr_ne_tree hg)
  have hS1 : ∀ k, u.ownBlock = some k → ∃ cs T, w1.heap[k]? = some (.cells cs T (0, 0)) ∧ T ≠ 127 ∧ T ≠ 102 ∧ T ≠ 24 := fun k hk => by
    obtain ⟨_, cs, h4⟩ := RowG.block hu hk
    exact ⟨cs, _, h4, ptr_ne_fol, ptr_ne_ent, ptr_ne_flo⟩
  have hk2 : Keeps (· = b) w2 (w2.setCell ⟨b, 0, none⟩ u') := keeps_setCell _ _ _ rfl
  have hS2 : ∀ k, k = b → ∃ cs T, w2.heap[k]? = some (.cells cs T (0, 0)) ∧ T ≠ 127 ∧ T ≠ 102 ∧ T ≠ 24 := fun k hk => by
    subst hk
    exact ⟨_, _, hb2, tree_ne_fol, tree_ne_ent, tree_ne_flo⟩
  have hfol : ∀ {q : Nat} {g : Fol}, FolAt w1 base q g → FolAt (w2.setCell ⟨b, 0, none⟩ u') base q g := fun h => (h.keeps2 hk hS1).keeps2 hk2 hS2
  refine ⟨h.ge, ⟨u', v, heap_setCell_same w2 b 0 _ _ u' hb2, hu'.other _ _ (fun g hg e => row_not_fol hu' hb2 ptr_ne_tree (by rw [← show g = b from e]; exact hg)), ?_⟩, by rw [List.length_append, List.length_append, h.len]; rfl, ?_, fun i hi => ?_⟩
  · have hv2 : RowG numC w2 base 3 v A := hv.keeps hk (fun g hg hs => row_other2 hu hv ptr_ne_num hs hg)
    exact hv2.other _ _ (fun g hg e => row_not_fol hv2 hb2 num_ne_tree (by rw [← show g = b from e]; exact hg))
  · rw [List.nodup_append]
    exact ⟨h.nd, by simp, fun a ha c hc e => by
      simp at hc
      subst hc
      subst e
      exact hp ha⟩
  · rw [List.length_append, List.length_singleton] at hi
    rw [nodeT_app]
    by_cases h1 : i < ps.length
    · rw [if_pos (by rw [← h.len]; exact h1), getD_left _ _ _ h1]
      exact hfol (h.fol i h1)
    · have h2 : i = ps.length := by omega
      rw [if_neg (by rw [← h.len]; omega), if_pos (by rw [← h.len]; exact h2), h2, List.getD_eq_getElem?_getD, List.getElem?_append_right (Nat.le_refl _)]
      simp
      exact hfol hf
/-- One number more. -/
theorem TreeAt.growA {w1 w2 : World} {base b : Nat} {ps : List Nat} {T : List Fol} {A : List Int} (h : TreeAt w1 base b ps T A) {u v : Value} (hb : w1.heap[b]? = some (.cells #[u, v] 134 (0, 0))) (hu : RowG ptrC w1 base 63 u ps) (hv : RowG numC w1 base 3 v A)
    (hk : Keeps (fun k => v.ownBlock = some k) w1 w2) {v' : Value} {n : Int} (hv' : RowG numC w2 base 3 v' (A ++ [n])) : TreeAt (w2.setCell ⟨b, 1, none⟩ v') base b ps T (A ++ [n]) := by
  have hb2 : w2.heap[b]? = some (.cells #[u, v] 134 (0, 0)) := hk.obj hb (fun hg => row_not_fol hv hb num_ne_tree hg)
  have hS1 : ∀ k, v.ownBlock = some k → ∃ cs T, w1.heap[k]? = some (.cells cs T (0, 0)) ∧ T ≠ 127 ∧ T ≠ 102 ∧ T ≠ 24 := fun k hk => by
    obtain ⟨_, cs, h4⟩ := RowG.block hv hk
    exact ⟨cs, _, h4, num_ne_fol, num_ne_ent, num_ne_flo⟩
  have hk2 : Keeps (· = b) w2 (w2.setCell ⟨b, 1, none⟩ v') := keeps_setCell _ _ _ rfl
  have hS2 : ∀ k, k = b → ∃ cs T, w2.heap[k]? = some (.cells cs T (0, 0)) ∧ T ≠ 127 ∧ T ≠ 102 ∧ T ≠ 24 := fun k hk => by
    subst hk
    exact ⟨_, _, hb2, tree_ne_fol, tree_ne_ent, tree_ne_flo⟩
  have hfol : ∀ {q : Nat} {g : Fol}, FolAt w1 base q g → FolAt (w2.setCell ⟨b, 1, none⟩ v') base q g := fun h => (h.keeps2 hk hS1).keeps2 hk2 hS2
  refine ⟨h.ge, ⟨u, v', heap_setCell_same w2 b 1 _ _ v' hb2, ?_, hv'.other _ _ (fun g hg e => row_not_fol hv' hb2 num_ne_tree (by rw [← show g = b from e]; exact hg))⟩, h.len, h.nd, fun i hi => hfol (h.fol i hi)⟩
  have hu2 : RowG ptrC w2 base 63 u ps := hu.keeps hk (fun g hg hs => row_other2 hv hu (fun e => ptr_ne_num e.symm) hs hg)
  exact hu2.other _ _ (fun g hg e => row_not_fol hu2 hb2 ptr_ne_tree (by rw [← show g = b from e]; exact hg))
/-- A tree that is empty, new. -/
theorem tree_new (w : World) : TreeAt ((w.alloc (.cells #[.int .i64 (-1)] 3)).alloc (.cells #[.slice none 0 0, .slice (some ⟨w.heap.size, 0, none⟩) 1 1] 134)) w.heap.size (w.heap.size + 1) [] [] [-1] := by
  have h2 := heap_alloc_new (w.alloc (.cells #[.int .i64 (-1)] 3)) (.cells #[.slice none 0 0, .slice (some ⟨w.heap.size, 0, none⟩) 1 1] 134)
  rw [World.size_alloc] at h2
  exact ⟨by omega, ⟨_, _, h2, RowG.nil _ _ _, RowG.alloc (RowG.new1 w (-1) 3 rfl (Nat.le_refl _)) _⟩, rfl, List.nodup_nil, fun i hi => absurd hi (Nat.not_lt_zero _)⟩

/-! What relay.New answers. -/
def badA (A : List Int) (i : Nat) : Bool := decide (A.getD i 0 < 0 ∨ (i : Int) < A.getD i 0)
def newTE (key : Int) (A : List Int) : Nat × Int :=
  if isKey key = false then (10, -1) else if 10 < A.length then (7, -1) else match (List.range A.length).find? (badA A) with
  | none => (0, -1)
  | some i => (2, (i : Int))
theorem newTE_key {key : Int} (A : List Int) (h : isKey key = false) : newTE key A = (10, -1) := by unfold newTE; rw [if_pos h]
theorem newTE_full {key : Int} {A : List Int} (h : isKey key = true) (hl : 10 < A.length) : newTE key A = (7, -1) := by unfold newTE; rw [if_neg (by rw [h]; decide), if_pos hl]
theorem newTE_bad {key : Int} {A : List Int} (h : isKey key = true) (hl : ¬ 10 < A.length) {i : Nat} (hi : i < A.length) (hb : badA A i = true) (ha : ∀ j, j < i → badA A j = false) : newTE key A = (2, (i : Int)) := by
  unfold newTE
  rw [if_neg (by rw [h]; decide), if_neg hl, find_range A.length i hi hb ha]
theorem newTE_good {key : Int} {A : List Int} (h : isKey key = true) (hl : ¬ 10 < A.length) (ha : ∀ j, j < A.length → badA A j = false) : newTE key A = (0, -1) := by
  unfold newTE
  have : (List.range A.length).find? (badA A) = none := List.find?_eq_none.2 fun j hj => by rw [ha j (List.mem_range.1 hj)]; decide
  rw [if_neg (by rw [h]; decide), if_neg hl, this]
theorem newTE_zero {key : Int} {A : List Int} (h : (newTE key A).1 = 0) : isKey key = true ∧ A.length ≤ 10 ∧ ∀ i, i < A.length → 0 ≤ A.getD i 0 ∧ A.getD i 0 ≤ (i : Int) := by
  unfold newTE at h
  by_cases hk : isKey key = false
  · rw [if_pos hk] at h; cases h
  rw [if_neg hk] at h
  by_cases hl : 10 < A.length
  · rw [if_pos hl] at h; cases h
  rw [if_neg hl] at h
  refine ⟨by simpa using hk, by omega, fun i hi => ?_⟩
  cases hf : (List.range A.length).find? (badA A) with
  | none =>
    have h1 : badA A i = false := by simpa using List.find?_eq_none.1 hf i (List.mem_range.2 hi)
    unfold badA at h1
    have := of_decide_eq_false h1
    omega
  | some j => rw [hf] at h; cases h
def NewTRes (E : Nat → Addr) (base : Nat) (w' : World) (key : Int) (A : List Int) (e : Ending) : Prop :=
  ((newTE key A).1 ≠ 0 ∧ ∃ ev, e = .returned (.tuple #[.pointer none, ev]) ∧ ErrAt E w' ev (newTE key A).1 (newTE key A).2) ∨
  ((newTE key A).1 = 0 ∧ ∃ b ps, e = .returned (.tuple #[.pointer (some ⟨b, 0, none⟩), .nilIface]) ∧ TreeAt w' base b ps (List.replicate (A.length + 1) (newFol key)) (-1 :: A))
theorem NewTRes.bad {E : Nat → Addr} {base : Nat} {w' : World} {key : Int} {A : List Int} {c : Nat} {a : Int} {ev : Value} (h : newTE key A = (c, a)) (hc : c ≠ 0) (he : ErrAt E w' ev c a) : NewTRes E base w' key A (.returned (.tuple #[.pointer none, ev])) := by
  unfold NewTRes
  rw [h]
  exact .inl ⟨hc, ev, rfl, he⟩
theorem NewTRes.good {E : Nat → Addr} {base : Nat} {w' : World} {key : Int} {A : List Int} {a : Int} {b : Nat} {ps : List Nat} (h : newTE key A = (0, a)) (hT : TreeAt w' base b ps (List.replicate (A.length + 1) (newFol key)) (-1 :: A)) : NewTRes E base w' key A (.returned (.tuple #[.pointer (some ⟨b, 0, none⟩), .nilIface])) := by
  unfold NewTRes
  rw [h]
  exact .inr ⟨rfl, b, ps, rfl, hT⟩
theorem fault_two {E : Nat → Addr} (x : World) (a : Int) : ErrAt E (x.alloc (.cells #[.int .i64 a, .iface 258 (.pointer (some (E 2)))] 107)).drew (.iface 105 (.pointer (some ⟨x.heap.size, 0, none⟩))) 2 a := by
  have hN : (x.alloc (.cells #[.int .i64 a, .iface 258 (.pointer (some (E 2)))] 107)).drew.heap[x.heap.size]? = some (.cells #[.int .i64 a, .iface 258 (.pointer (some (E 2)))] 107 (0, 0)) := heap_alloc_new x _
  obtain ⟨⟨h1, h2⟩, _⟩ := two_kept (Below.refl _ _) hN
  exact .inr ⟨_, rfl, by decide, h1, h2⟩
theorem replicate_succ' {α : Type} (n : Nat) (a : α) : List.replicate n a ++ [a] = List.replicate (n + 1) a := by rw [List.replicate_succ', ]
set_option maxHeartbeats 8000000 in
set_option maxRecDepth 100000 in
theorem newT_any {E : Nat → Addr} (key : Int) (v : Value) (A : List Int) (w : World) (hL : LaidS E w) (hv : AtG numC w v A) (hl : A.length ≤ 1000) :
    Calls Tryz.prog 36 #[.int .i64 key, v] w fun e w' => NewTRes E w.heap.size w' key A e ∧ Below w.heap.size w w' := by
  have hnw := Lib.hid (fun wx (hx : Below w.heap.size w wx) => newFol_any (E := E) key wx (hL.below hx).laid)
  have hT0 := Lib.hid (tree_new w)
  have hB1 : Below w.heap.size w (w.alloc (.cells #[.int .i64 (-1)] 3)) := (Below.refl _ _).alloc (Nat.le_refl _) _
  have hB0 := Lib.hid (show Below w.heap.size w ((w.alloc (.cells #[.int .i64 (-1)] 3)).alloc (.cells #[.slice none 0 0, .slice (some ⟨w.heap.size, 0, none⟩) 1 1] 134)) from hB1.alloc hB1.size _)
  have hLw := Lib.hid (fun wx (hx : Below w.heap.size w wx) => hL.below hx)
  obtain ⟨a0, c0, rfl, hml, _, _, hcs⟩ := hv
  unfold maxLen at hml
  have hcs := Lib.hid hcs
  clear hL hB1
  by_cases hk : isKey key = true
  case neg =>
    have hk : isKey key = false := by simpa using hk
    have hr := Lib.hid (newTE_key A hk)
    have hx := Lib.hid (hnw.out _ hB0.out)
    clear hnw
    go_enter Tryz.func36, Tryz.ntmps36
    go_wp2_with fail
    go_loopg [17] 1 (fun g i wr => i = .int .i64 0 ∧ g = 1 ∧ ((w.alloc (.cells #[.int .i64 (-1)] 3)).alloc (.cells #[.slice none 0 0, .slice (some ⟨w.heap.size, 0, none⟩) 1 1] 134)) = wr)
    case atStart => exact ⟨rfl, rfl, rfl⟩
    case round =>
      obtain ⟨rfl, rfl, rfl⟩ := hrel
      have hk1 : (0 : Int) < (A.length : Int) + 1 := by omega
      go_wp2_with fail
      refine hx.out.mono ?_
      rintro e w1 ⟨hor, hb1⟩
      rcases hor with ⟨_, rfl⟩ | ⟨hk', _⟩
      · have hfin := Lib.hid (below_trans hB0.out hb1)
        simp only [errV]
        clear hb1
        go_wp2_with fail
        go_ret2
        exact ⟨NewTRes.bad hr.out (by decide) (ErrAt.bare 10), hfin.out⟩
      · rw [hk] at hk'; cases hk'
  have hkH := Lib.hid hk
  have hnw2 := Lib.hid (fun wx (hx : Below w.heap.size w wx) => (hnw.out wx hx).mono (R' := fun e w' => ∃ b, e = .returned (.tuple #[.pointer (some ⟨b, 0, none⟩), .nilIface]) ∧ FolAt w' wx.heap.size b (newFol key) ∧ Below wx.heap.size wx w') (fun e w' ⟨hor, hb⟩ => by
    rcases hor with ⟨hk', _⟩ | ⟨_, b, he, hF⟩
    · rw [hk] at hk'; cases hk'
    · exact ⟨b, he, hF, hb⟩))
  clear hk hnw
  go_enter Tryz.func36, Tryz.ntmps36
  go_wp2_with fail
  go_loopg [17] (A.length + 2) (fun g i wr => ∃ (k : Nat) (ps : List Nat), i = .int .i64 k ∧ k ≤ A.length + 1 ∧ A.length + 1 - k + 1 ≤ g ∧ Hid (ps.length = k) ∧ Hid (TreeAt wr w.heap.size (w.heap.size + 1) ps (List.replicate k (newFol key)) [-1] ∧ Below w.heap.size w wr))
  case atStart => exact ⟨0, [], rfl, Nat.zero_le _, by omega, Lib.hid rfl, Lib.hid ⟨hT0.out, hB0.out⟩⟩
  case round =>
    obtain ⟨k, ps, rfl, hkl, hg, hpl, hM⟩ := hrel
    by_cases hlt : k < A.length + 1
    · have hk1 : (k : Int) < (A.length : Int) + 1 := by omega
      have hk0 : (0 : Int) ≤ (k : Int) := by omega
      have hx := Lib.hid (hnw2.out wr hM.out.2)
      go_wp2_with fail
      refine hx.out.mono ?_
      rintro e w1 ⟨bp, rfl, hF1, hb1⟩
      have hT1 := hM.out.1.below hb1
      have hK1 := Lib.hid (below_trans hM.out.2 hb1)
      have hnp : bp ∉ ps := fun hmem => by
        obtain ⟨i, hi, he⟩ := List.getElem_of_mem hmem
        have h1 := (hM.out.1.fol i hi).lt
        rw [getD_get hi, he] at h1
        have h2 := hF1.1
        omega
      have hF1 := Lib.hid (hF1.mono hM.out.2.size)
      obtain ⟨u, vA, hbk, hu, hvA⟩ := hT1.blk
      obtain ⟨au, cu, rfl⟩ := hu.sl
      obtain ⟨⟨e0, _⟩, _⟩ := two_kept (Below.refl _ _) hbk
      have hTH := Lib.hid hT1
      have hbkH := Lib.hid hbk
      have huH := Lib.hid hu
      have hvH := Lib.hid hvA
      have hnpH := Lib.hid hnp
      have hs1 := hK1.out.size
      have hpl2 : ps.length ≤ 1001 := by have := hpl.out; omega
      clear hb1 hT1 hbk hu hvA hnp hx
      go_wp2_with (first
        | (at_builtin; refine wpList_appG ptrC _ rfl _ _ 132 rfl 63 (.pointer none) 8 Tryz.underlying132 info_ptr rfl (by decide) w.heap.size _ ps rfl (RowG.alloc huH.out _) _ [bp] rfl (AtG.new _ _ _ rfl) (by simp; omega) (by simp; omega) ?_)
        | go_in)
      intro v6 w6 hown6 hb6 hg6 _
      obtain ⟨a6, c6, hs6⟩ := hown6.sl
      rw [List.length_append, List.length_singleton] at hs6
      subst hs6
      have hkk := (Keeps.of_below (S := fun k => (Value.slice au ps.length cu).ownBlock = some k) ((Below.refl _ _).alloc (Nat.le_refl _) _)).trans (keeps_grown (base := 0) hg6)
      have hT6 := Lib.hid (hTH.out.grow hbkH.out huH.out hvH.out hkk hown6 hnpH.out hF1.out)
      have hbk6 := hkk.obj hbkH.out (fun hg => row_not_fol huH.out hbkH.out ptr_ne_tree hg)
      obtain ⟨⟨q0, _⟩, g0, _⟩ := two_kept (Below.refl _ _) hbk6
      have hB6 := Lib.hid (((hK1.out.alloc hs1 _).trans hb6).setCell (p := ⟨w.heap.size + 1, 0, none⟩) (Nat.le_succ _) (.slice a6 (ps.length + 1) c6))
      clear hown6 hb6 hg6 hkk hbk6 e0
      go_wp2_with fail
      go_roundg (A.length + 1 - k)
      case measure => omega
      case rel => exact ⟨k + 1, ps ++ [bp], by simp, by omega, by omega, Lib.hid (by simp [hpl.out]), by rw [← replicate_succ']; exact Lib.hid ⟨hT6.out, hB6.out⟩⟩
    · have hke : k = A.length + 1 := by omega
      have hge : ¬ ((k : Int) < (A.length : Int) + 1) := by omega
      subst hke
      by_cases h10 : 10 < A.length
      · have hr := Lib.hid (newTE_full hkH.out h10)
        have he := (hLw.out _ hM.out.2).laid.e7
        simp only [errV] at he
        have h10i : (10 : Int) < (A.length : Int) := by omega
        clear h10
        go_wp2_with fail
        go_quiet (fail)
        go_wp2_with fail
        go_ret2
        exact ⟨NewTRes.bad hr.out (by decide) (ErrAt.bare 7), below_drawn hM.out.2 _⟩
      have h10i : ¬ (10 : Int) < (A.length : Int) := by omega
      go_wp2_with fail
      go_loopg [44] (A.length + 1) (fun g i wx => ∃ j : Nat, i = .int .i64 j ∧ j ≤ A.length ∧ A.length - j + 1 ≤ g ∧ Hid (∀ i, i < j → badA A i = false) ∧ Hid (TreeAt wx w.heap.size (w.heap.size + 1) ps (List.replicate (A.length + 1) (newFol key)) (-1 :: A.take j) ∧ Below w.heap.size w wx))
      case atStart => exact ⟨0, rfl, Nat.zero_le _, by omega, Lib.hid (fun _ h => absurd h (Nat.not_lt_zero _)), hM⟩
      case round =>
        obtain ⟨j, rfl, hj, hgj, hall, hP⟩ := hrel
        by_cases hjl : j < A.length
        · obtain ⟨g, o, rfl, hcj⟩ := hcs.out j hjl
          have d0 : w.cell? ⟨g, o + j, none⟩ = some (.int .i64 A[j]) := by simpa [numC] using hcj 0 _ rfl
          have d0 := cell_below hP.out.2 d0
          have hsn : A.take (j + 1) = A.take j ++ [A[j]] := by rw [List.take_add_one, List.getElem?_eq_getElem hjl]; rfl
          have hbd : badA A j = decide (A[j] < 0 ∨ (j : Int) < A[j]) := by unfold badA; rw [getD_get hjl]
          generalize A[j] = n at *
          have hsnH := Lib.hid hsn
          have hbdH := Lib.hid hbd
          have hk0 : (0 : Int) ≤ (j : Int) := by omega
          have hk1 : (j : Int) < (A.length : Int) := by omega
          clear hcj hsn hbd
          by_cases hbad : n < 0 ∨ (j : Int) < n
          · have hr := Lib.hid (newTE_bad hkH.out h10 hjl (by rw [hbdH.out]; exact decide_eq_true hbad) hall.out)
            have he := (hLw.out _ hP.out.2).laid.e2
            simp only [errV] at he
            by_cases h1 : n < 0
            all_goals
              (try have h2 : (j : Int) < n := by omega)
              clear hbad
              go_wp2_with fail
              go_region
              all_goals
                go_wp2_with fail
                go_ret2
                exact ⟨NewTRes.bad hr.out (by decide) (fault_two wr _), (hP.out.2.alloc hP.out.2.size _).drew⟩
          · have hb' := Lib.hid (show badA A j = false by rw [hbdH.out]; exact decide_eq_false hbad)
            have h1 : ¬ n < 0 := fun h => hbad (.inl h)
            have h2 : ¬ (j : Int) < n := fun h => hbad (.inr h)
            have hall2 := Lib.hid (show ∀ i, i < j + 1 → badA A i = false from fun i hi => by
              rcases Nat.lt_succ_iff_lt_or_eq.1 hi with h' | rfl
              · exact hall.out i h'
              · exact hb'.out)
            obtain ⟨u, vA, hbk, hu, hvA⟩ := hP.out.1.blk
            obtain ⟨av, cv, rfl⟩ := hvA.sl
            obtain ⟨⟨_, e1⟩, _⟩ := two_kept (Below.refl _ _) hbk
            have hTH := Lib.hid hP.out.1
            have hbkH := Lib.hid hbk
            have huH := Lib.hid hu
            have hvH := Lib.hid hvA
            have hs1 := hP.out.2.size
            have hll : (-1 :: A.take j : List Int).length ≤ 1001 := by rw [List.length_cons, List.length_take]; omega
            have hsn2 := Lib.hid (show (-1 :: A.take (j + 1) : List Int) = (-1 :: A.take j) ++ [n] by rw [hsnH.out]; rfl)
            generalize (-1 :: A.take j : List Int) = AJ at *
            clear hbad hbk hu hvA
            go_wp2_with (first
              | (at_builtin; refine wpList_appG numC _ rfl _ _ 79 rfl 3 (.int .i64 0) 8 Tryz.underlying79 info_num rfl (by decide) w.heap.size _ AJ rfl (RowG.alloc hvH.out _) _ [n] rfl (AtG.new _ _ _ rfl) (by simp; omega) (by simp; omega) ?_)
              | go_in)
            intro v6 w6 hown6 hb6 hg6 _
            obtain ⟨a6, c6, hs6⟩ := hown6.sl
            rw [List.length_append, List.length_singleton] at hs6
            subst hs6
            have hkk := (Keeps.of_below (S := fun k => (Value.slice av AJ.length cv).ownBlock = some k) ((Below.refl _ _).alloc (Nat.le_refl _) _)).trans (keeps_grown (base := 0) hg6)
            have hT6 := Lib.hid (hTH.out.growA hbkH.out huH.out hvH.out hkk hown6)
            have hbk6 := hkk.obj hbkH.out (fun hg => row_not_fol hvH.out hbkH.out num_ne_tree hg)
            obtain ⟨⟨_, q1⟩, _, g1⟩ := two_kept (Below.refl _ _) hbk6
            have hB6 := Lib.hid (((hP.out.2.alloc hs1 _).trans hb6).setCell (p := ⟨w.heap.size + 1, 1, none⟩) (Nat.le_succ _) (.slice a6 (AJ.length + 1) c6))
            clear hown6 hb6 hg6 hkk hbk6 e1 d0
            go_wp2_with fail
            go_roundg (A.length - j)
            case measure => omega
            case rel => exact ⟨j + 1, by simp, by omega, by omega, hall2, by rw [hsn2.out]; exact Lib.hid ⟨hT6.out, hB6.out⟩⟩
        · have hje : A.take j = A := List.take_of_length_le (by omega)
          have hr := Lib.hid (newTE_good hkH.out h10 (fun i hi => hall.out i (by omega)))
          have hgj2 : ¬ ((j : Int) < (A.length : Int)) := by omega
          have hP2 := hP.out
          rw [hje] at hP2
          have hP2 := Lib.hid hP2
          clear hje
          go_wp2_with fail
          go_ret2
          exact ⟨NewTRes.good hr.out hP2.out.1, hP2.out.2⟩
end Go.Proofs.YtfbndfkahodheaaGreatDoor
