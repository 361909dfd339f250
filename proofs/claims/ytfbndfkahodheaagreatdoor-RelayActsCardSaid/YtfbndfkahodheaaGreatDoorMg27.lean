/- RelR -/
import Derived.Test.YtfbndfkahodheaaGreatDoorMg24
import Derived.Test.YtfbndfkahodheaaGreatDoorMg26
/- The reference's trees in memory: no walk. -/
namespace Go.Proofs.YtfbndfkahodheaaGreatDoor
open Go.RowKit

theorem info_rptr : (Tryz.prog.info? 67).map (fun i => (i.zero, i.size, i.bytes)) = some (some (.pointer none), ptrC.k, 8) := by kernel_rfl
theorem rptr_ne_rfol : (67 : TypeId) ≠ 69 := by decide
theorem num_ne_rfol : (3 : TypeId) ≠ 69 := by decide
theorem rtree_ne_rfol : (91 : TypeId) ≠ 69 := by decide
theorem rptr_ne_rtree : (67 : TypeId) ≠ 91 := by decide
theorem num_ne_rtree : (3 : TypeId) ≠ 91 := by decide
theorem rptr_ne_num : (67 : TypeId) ≠ 3 := by decide
theorem rptr_ne_ent : (67 : TypeId) ≠ 102 := by decide
theorem rtree_ne_ent : (91 : TypeId) ≠ 102 := by decide
theorem rfol_ne_fol : (69 : TypeId) ≠ 127 := by decide
theorem rfol_ne_flo : (69 : TypeId) ≠ 24 := by decide
theorem tree_ne_rfol : (134 : TypeId) ≠ 69 := by decide
theorem ptr_ne_rfol : (63 : TypeId) ≠ 69 := by decide
theorem rtree_ne_fol : (91 : TypeId) ≠ 127 := by decide
theorem rptr_ne_fol : (67 : TypeId) ≠ 127 := by decide
theorem RFolAt.keeps2 {w w' : World} {base b : Nat} {f : Fol} {S : Nat → Prop} (h : RFolAt w base b f) (hk : Keeps S w w') (hS : ∀ k, S k → ∃ cs T, w.heap[k]? = some (.cells cs T (0, 0)) ∧ T ≠ 69 ∧ T ≠ 102) : RFolAt w' base b f := by
  obtain ⟨h0, u, h1, h2⟩ := h
  refine ⟨h0, u, (hk.block b (Array.getElem?_eq_some_iff.1 h1).1 (fun hs => ?_)).trans h1, RowG.keeps h2 hk (fun g hg hs => ?_)⟩
  · obtain ⟨cs, T, h4, h5, _⟩ := hS b hs
    rw [h1] at h4
    injection h4 with h4
    injection h4 with _ h4 _
    exact h5 h4.symm
  · obtain ⟨cs, T, h4, _, h5⟩ := hS g hs
    exact row_not_fol h2 h4 (fun e => h5 e.symm) hg
theorem RFolAt.blk {w : World} {base b : Nat} {f : Fol} (h : RFolAt w base b f) : ∃ cs, w.heap[b]? = some (.cells cs 69 (0, 0)) := by
  obtain ⟨_, u, h1, _⟩ := h
  exact ⟨_, h1⟩
/-- Another follower is kept. -/
theorem RFolAt.other {w w' : World} {base b b' : Nat} {f f' : Fol} (h : RFolAt w base b f) (h' : RFolAt w base b' f') (hne : b ≠ b') (hk : Keeps (· = b') w w') : RFolAt w' base b f :=
  h.keeps hk hne (fun k hk => by
    obtain ⟨_, u, h1, _⟩ := h'
    subst hk
    exact ⟨_, _, h1, fun e => ent_ne_rfol e.symm⟩)
/-- What changes the other's followers alone keeps this. -/
theorem FolAt.foreign {w w' : World} {base b : Nat} {f : Fol} {S : Nat → Prop} (h : FolAt w base b f) (hk : Keeps S w w') (hS : ∀ k, S k → ∃ cs, w.heap[k]? = some (.cells cs 69 (0, 0))) : FolAt w' base b f :=
  h.keeps2 hk (fun k hs => by
    obtain ⟨cs, h1⟩ := hS k hs
    exact ⟨cs, _, h1, rfol_ne_fol, fun e => ent_ne_rfol e.symm, rfol_ne_flo⟩)
theorem RFolAt.foreign {w w' : World} {base b : Nat} {f : Fol} {S : Nat → Prop} (h : RFolAt w base b f) (hk : Keeps S w w') (hS : ∀ k, S k → ∃ cs, w.heap[k]? = some (.cells cs 127 (0, 0))) : RFolAt w' base b f :=
  h.keeps2 hk (fun k hs => by
    obtain ⟨cs, h1⟩ := hS k hs
    exact ⟨cs, _, h1, fun e => rfol_ne_fol e.symm, fun e => ent_ne_fol e.symm⟩)
structure RTreeAt (w : World) (base b : Nat) (ps : List Nat) (T : List Fol) (A : List Int) : Prop where
  ge : base ≤ b
  blk : ∃ u v, w.heap[b]? = some (.cells #[u, v] 91 (0, 0)) ∧ RowG ptrC w base 67 u ps ∧ RowG numC w base 3 v A
  len : ps.length = T.length
  nd : ps.Nodup
  fol : ∀ i, i < ps.length → RFolAt w base (ps.getD i 0) (nodeT T i)
theorem RTreeAt.lt {w : World} {base b : Nat} {ps : List Nat} {T : List Fol} {A : List Int} (h : RTreeAt w base b ps T A) : b < w.heap.size := by
  obtain ⟨u, v, h1, _⟩ := h.blk
  exact (Array.getElem?_eq_some_iff.1 h1).1
theorem RTreeAt.below {w w' : World} {base b : Nat} {ps : List Nat} {T : List Fol} {A : List Int} (h : RTreeAt w base b ps T A) (hb : Below w.heap.size w w') : RTreeAt w' base b ps T A := by
  obtain ⟨u, v, h1, h2, h3⟩ := h.blk
  exact ⟨h.ge, ⟨u, v, heap_down hb h1, h2.below hb, h3.below hb⟩, h.len, h.nd, fun i hi => (h.fol i hi).below hb⟩
theorem RTreeAt.mono {w : World} {base base' b : Nat} {ps : List Nat} {T : List Fol} {A : List Int} (h : RTreeAt w base b ps T A) (hb : base' ≤ base) : RTreeAt w base' b ps T A := by
  obtain ⟨u, v, h1, h2, h3⟩ := h.blk
  exact ⟨Nat.le_trans hb h.ge, ⟨u, v, h1, h2.mono hb, h3.mono hb⟩, h.len, h.nd, fun i hi => (h.fol i hi).mono hb⟩
/-- One follower is another one. -/
theorem RTreeAt.set {w w' : World} {base b : Nat} {ps : List Nat} {T : List Fol} {A : List Int} (h : RTreeAt w base b ps T A) {i : Nat} (hi : i < ps.length) {f : Fol} (hf : RFolAt w' base (ps.getD i 0) f) (hk : Keeps (· = ps.getD i 0) w w') :
    RTreeAt w' base b ps (T.set i f) A := by
  obtain ⟨u, v, h1, h2, h3⟩ := h.blk
  obtain ⟨cs, hb⟩ := (h.fol i hi).blk
  refine ⟨h.ge, ⟨u, v, (hk.block b (Array.getElem?_eq_some_iff.1 h1).1 (fun e => ?_)).trans h1, h2.keeps hk (fun g hg hs => row_not_fol h2 (by rw [← hs] at hb; exact hb) rptr_ne_rfol hg), h3.keeps hk (fun g hg hs => row_not_fol h3 (by rw [← hs] at hb; exact hb) num_ne_rfol hg)⟩, by rw [List.length_set]; exact h.len, h.nd, fun j hj => ?_⟩
  · rw [e, hb] at h1
    injection h1 with h1
    injection h1 with _ h1 _
    exact rtree_ne_rfol h1.symm
  · rw [nodeT_set _ _ (by rw [← h.len]; exact hi)]
    by_cases hji : j = i
    · rw [if_pos hji, hji]; exact hf
    · rw [if_neg hji]
      exact (h.fol j hj).other (h.fol i hi) (nodup_ne h.nd hj hi hji) hk
/-- Its cells. -/
theorem RTreeAt.cells {w : World} {base b : Nat} {ps : List Nat} {T : List Fol} {A : List Int} (h : RTreeAt w base b ps T A) : ∃ au cu av cv, w.cell? ⟨b, 0, none⟩ = some (.slice au ps.length cu) ∧ w.cell? ⟨b, 1, none⟩ = some (.slice av A.length cv) ∧ ps.length ≤ maxLen ∧ A.length ≤ maxLen ∧
    (∀ i, i < ps.length → ∃ g o, au = some ⟨g, o, none⟩ ∧ w.cell? ⟨g, o + i, none⟩ = some (.pointer (some ⟨ps.getD i 0, 0, none⟩))) ∧ (∀ i, i < A.length → ∃ g o, av = some ⟨g, o, none⟩ ∧ w.cell? ⟨g, o + i, none⟩ = some (.int .i64 (A.getD i 0))) := by
  obtain ⟨u, v, h1, h2, h3⟩ := h.blk
  obtain ⟨⟨c0, c1⟩, _⟩ := two_kept (Below.refl _ _) h1
  obtain ⟨au, cu, rfl, l1, _, _, hu⟩ := RowG.at_ h2
  obtain ⟨av, cv, rfl, l2, _, _, hv⟩ := RowG.at_ h3
  refine ⟨au, cu, av, cv, c0, c1, l1, l2, fun i hi => ?_, fun i hi => ?_⟩
  · obtain ⟨g, o, h5, h6⟩ := hu i hi
    have := h6 0 _ rfl
    rw [getD_get hi]
    exact ⟨g, o, h5, by simpa [ptrC] using this⟩
  · obtain ⟨g, o, h5, h6⟩ := hv i hi
    have := h6 0 _ rfl
    rw [getD_get hi]
    exact ⟨g, o, h5, by simpa [numC] using this⟩

/-- One follower more. -/
theorem RTreeAt.grow {w1 w2 : World} {base b : Nat} {ps : List Nat} {T : List Fol} {A : List Int} (h : RTreeAt w1 base b ps T A) {u v : Value} (hb : w1.heap[b]? = some (.cells #[u, v] 91 (0, 0))) (hu : RowG ptrC w1 base 67 u ps) (hv : RowG numC w1 base 3 v A)
    (hk : Keeps (fun k => u.ownBlock = some k) w1 w2) {u' : Value} {p : Nat} {f : Fol} (hu' : RowG ptrC w2 base 67 u' (ps ++ [p])) (hp : p ∉ ps) (hf : RFolAt w1 base p f) : RTreeAt (w2.setCell ⟨b, 0, none⟩ u') base b (ps ++ [p]) (T ++ [f]) A := by
  have hb2 : w2.heap[b]? = some (.cells #[u, v] 91 (0, 0)) := hk.obj hb (fun hg => row_not_fol hu hb rptr_ne_rtree hg)
  have hS1 : ∀ k, u.ownBlock = some k → ∃ cs T, w1.heap[k]? = some (.cells cs T (0, 0)) ∧ T ≠ 69 ∧ T ≠ 102 := fun k hk => by
    obtain ⟨_, cs, h4⟩ := RowG.block hu hk
    exact ⟨cs, _, h4, rptr_ne_rfol, rptr_ne_ent⟩
  have hk2 : Keeps (· = b) w2 (w2.setCell ⟨b, 0, none⟩ u') := keeps_setCell _ _ _ rfl
  have hS2 : ∀ k, k = b → ∃ cs T, w2.heap[k]? = some (.cells cs T (0, 0)) ∧ T ≠ 69 ∧ T ≠ 102 := fun k hk => by
    subst hk
    exact ⟨_, _, hb2, rtree_ne_rfol, rtree_ne_ent⟩
  have hfol : ∀ {q : Nat} {g : Fol}, RFolAt w1 base q g → RFolAt (w2.setCell ⟨b, 0, none⟩ u') base q g := fun h => (h.keeps2 hk hS1).keeps2 hk2 hS2
  refine ⟨h.ge, ⟨u', v, heap_setCell_same w2 b 0 _ _ u' hb2, hu'.other _ _ (fun g hg e => row_not_fol hu' hb2 rptr_ne_rtree (by rw [← show g = b from e]; exact hg)), ?_⟩, by rw [List.length_append, List.length_append, h.len]; rfl, ?_, fun i hi => ?_⟩
  · have hv2 : RowG numC w2 base 3 v A := hv.keeps hk (fun g hg hs => row_other2 hu hv rptr_ne_num hs hg)
    exact hv2.other _ _ (fun g hg e => row_not_fol hv2 hb2 num_ne_rtree (by rw [← show g = b from e]; exact hg))
  · rw [List.nodup_append]
    exact ⟨h.nd, by simp, fun a ha c hc e => by
      simp at hc
      subst hc
      subst e
      exact hp ha⟩
  · rw [List.length_append, List.length_singleton] at hi
    rw [nodeT_app]
    by_cases h1 : i < ps.length
    · rw [if_pos (by rw [← h.len]; exact h1), getD_left _ _ _ h1]
      exact hfol (h.fol i h1)
    · have h2 : i = ps.length := by omega
      rw [if_neg (by rw [← h.len]; omega), if_pos (by rw [← h.len]; exact h2), h2, List.getD_eq_getElem?_getD, List.getElem?_append_right (Nat.le_refl _)]
      simp
      exact hfol hf
/-- One number more. -/
theorem RTreeAt.growA {w1 w2 : World} {base b : Nat} {ps : List Nat} {T : List Fol} {A : List Int} (h : RTreeAt w1 base b ps T A) {u v : Value} (hb : w1.heap[b]? = some (.cells #[u, v] 91 (0, 0))) (hu : RowG ptrC w1 base 67 u ps) (hv : RowG numC w1 base 3 v A)
    (hk : Keeps (fun k => v.ownBlock = some k) w1 w2) {v' : Value} {n : Int} (hv' : RowG numC w2 base 3 v' (A ++ [n])) : RTreeAt (w2.setCell ⟨b, 1, none⟩ v') base b ps T (A ++ [n]) := by
  have hb2 : w2.heap[b]? = some (.cells #[u, v] 91 (0, 0)) := hk.obj hb (fun hg => row_not_fol hv hb num_ne_rtree hg)
  have hS1 : ∀ k, v.ownBlock = some k → ∃ cs T, w1.heap[k]? = some (.cells cs T (0, 0)) ∧ T ≠ 69 ∧ T ≠ 102 := fun k hk => by
    obtain ⟨_, cs, h4⟩ := RowG.block hv hk
    exact ⟨cs, _, h4, num_ne_rfol, num_ne_ent⟩
  have hk2 : Keeps (· = b) w2 (w2.setCell ⟨b, 1, none⟩ v') := keeps_setCell _ _ _ rfl
  have hS2 : ∀ k, k = b → ∃ cs T, w2.heap[k]? = some (.cells cs T (0, 0)) ∧ T ≠ 69 ∧ T ≠ 102 := fun k hk => by
    subst hk
    exact ⟨_, _, hb2, rtree_ne_rfol, rtree_ne_ent⟩
  have hfol : ∀ {q : Nat} {g : Fol}, RFolAt w1 base q g → RFolAt (w2.setCell ⟨b, 1, none⟩ v') base q g := fun h => (h.keeps2 hk hS1).keeps2 hk2 hS2
  refine ⟨h.ge, ⟨u, v', heap_setCell_same w2 b 1 _ _ v' hb2, ?_, hv'.other _ _ (fun g hg e => row_not_fol hv' hb2 num_ne_rtree (by rw [← show g = b from e]; exact hg))⟩, h.len, h.nd, fun i hi => hfol (h.fol i hi)⟩
  have hu2 : RowG ptrC w2 base 67 u ps := hu.keeps hk (fun g hg hs => row_other2 hv hu (fun e => rptr_ne_num e.symm) hs hg)
  exact hu2.other _ _ (fun g hg e => row_not_fol hu2 hb2 rptr_ne_rtree (by rw [← show g = b from e]; exact hg))
theorem TreeAt.foreign {w w' : World} {base b : Nat} {ps : List Nat} {T : List Fol} {A : List Int} {S : Nat → Prop} (h : TreeAt w base b ps T A) (hk : Keeps S w w') (hS : ∀ k, S k → ∃ cs, w.heap[k]? = some (.cells cs 69 (0, 0))) : TreeAt w' base b ps T A := by
  obtain ⟨u, v, h1, h2, h3⟩ := h.blk
  refine ⟨h.ge, ⟨u, v, (hk.block b (Array.getElem?_eq_some_iff.1 h1).1 (fun hs => ?_)).trans h1, h2.keeps hk (fun g hg hs => ?_), h3.keeps hk (fun g hg hs => ?_)⟩, h.len, h.nd, fun i hi => (h.fol i hi).foreign hk hS⟩
  · obtain ⟨cs, h4⟩ := hS b hs
    rw [h1] at h4
    injection h4 with h4
    injection h4 with _ h4 _
    exact tree_ne_rfol h4
  · obtain ⟨cs, h4⟩ := hS g hs
    exact row_not_fol h2 h4 ptr_ne_rfol hg
  · obtain ⟨cs, h4⟩ := hS g hs
    exact row_not_fol h3 h4 num_ne_rfol hg
theorem RTreeAt.foreign {w w' : World} {base b : Nat} {ps : List Nat} {T : List Fol} {A : List Int} {S : Nat → Prop} (h : RTreeAt w base b ps T A) (hk : Keeps S w w') (hS : ∀ k, S k → ∃ cs, w.heap[k]? = some (.cells cs 127 (0, 0))) : RTreeAt w' base b ps T A := by
  obtain ⟨u, v, h1, h2, h3⟩ := h.blk
  refine ⟨h.ge, ⟨u, v, (hk.block b (Array.getElem?_eq_some_iff.1 h1).1 (fun hs => ?_)).trans h1, h2.keeps hk (fun g hg hs => ?_), h3.keeps hk (fun g hg hs => ?_)⟩, h.len, h.nd, fun i hi => (h.fol i hi).foreign hk hS⟩
  · obtain ⟨cs, h4⟩ := hS b hs
    rw [h1] at h4
    injection h4 with h4
    injection h4 with _ h4 _
    exact rtree_ne_fol h4
  · obtain ⟨cs, h4⟩ := hS g hs
    exact row_not_fol h2 h4 rptr_ne_fol hg
  · obtain ⟨cs, h4⟩ := hS g hs
    exact row_not_fol h3 h4 num_ne_fol hg
theorem TreeAt.blks {w : World} {base b : Nat} {ps : List Nat} {T : List Fol} {A : List Int} (h : TreeAt w base b ps T A) : ∀ k, k ∈ ps → ∃ cs, w.heap[k]? = some (.cells cs 127 (0, 0)) := fun k hk => by
  obtain ⟨i, hi, he⟩ := List.getElem_of_mem hk
  have := (h.fol i hi).blk
  rwa [getD_get hi, he] at this
theorem RTreeAt.blks {w : World} {base b : Nat} {ps : List Nat} {T : List Fol} {A : List Int} (h : RTreeAt w base b ps T A) : ∀ k, k ∈ ps → ∃ cs, w.heap[k]? = some (.cells cs 69 (0, 0)) := fun k hk => by
  obtain ⟨i, hi, he⟩ := List.getElem_of_mem hk
  have := (h.fol i hi).blk
  rwa [getD_get hi, he] at this
theorem TreeAt.ges {w : World} {base b : Nat} {ps : List Nat} {T : List Fol} {A : List Int} (h : TreeAt w base b ps T A) : ∀ k, k ∈ ps → base ≤ k := fun k hk => by
  obtain ⟨i, hi, he⟩ := List.getElem_of_mem hk
  have := (h.fol i hi).1
  rwa [getD_get hi, he] at this
theorem RTreeAt.ges {w : World} {base b : Nat} {ps : List Nat} {T : List Fol} {A : List Int} (h : RTreeAt w base b ps T A) : ∀ k, k ∈ ps → base ≤ k := fun k hk => by
  obtain ⟨i, hi, he⟩ := List.getElem_of_mem hk
  have := (h.fol i hi).1
  rwa [getD_get hi, he] at this
end Go.Proofs.YtfbndfkahodheaaGreatDoor
