/- RelR, RefE4 -/
import Derived.Test.YtfbndfkahodheaaGreatDoorMg24
import Derived.Test.YtfbndfkahodheaaGreatDoorMg27
import Derived.Test.YtfbndfkahodheaaGreatDoorMg19
import Derived.Test.YtfbndfkahodheaaGreatDoorMg5
import Derived.Test.YtfbndfkahodheaaGreatDoorMg20
/- The reference's trees in memory: no walk. -/
namespace Go.Proofs.YtfbndfkahodheaaGreatDoor
open Go.RowKit

theorem info_rptr : (Tryz.prog.info? 67).map (fun i => (i.zero, i.size, i.bytes)) = some (some (.pointer none), ptrC.k, 8) := by kernel_rfl
theorem rptr_ne_rfol : (67 : TypeId) ≠ 69 := by decide
theorem num_ne_rfol : (3 : TypeId) ≠ 69 := by decide
theorem rtree_ne_rfol : (91 : TypeId) ≠ 69 := by decide
theorem rptr_ne_rtree : (67 : TypeId) ≠ 91 := by decide
theorem num_ne_rtree : (3 : TypeId) ≠ 91 := by decide
theorem rptr_ne_num : (67 : TypeId) ≠ 3 := by decide
theorem rptr_ne_ent : (67 : TypeId) ≠ 102 := by decide
theorem rtree_ne_ent : (91 : TypeId) ≠ 102 := by decide
theorem rfol_ne_fol : (69 : TypeId) ≠ 127 := by decide
theorem rfol_ne_flo : (69 : TypeId) ≠ 24 := by decide
theorem tree_ne_rfol : (134 : TypeId) ≠ 69 := by decide
theorem ptr_ne_rfol : (63 : TypeId) ≠ 69 := by decide
theorem rtree_ne_fol : (91 : TypeId) ≠ 127 := by decide
theorem rptr_ne_fol : (67 : TypeId) ≠ 127 := by decide
theorem RFolAt.keeps2 {w w' : World} {base b : Nat} {f : Fol} {S : Nat → Prop} (h : RFolAt w base b f) (hk : Keeps S w w') (hS : ∀ k, S k → ∃ cs T, w.heap[k]? = some (.cells cs T (0, 0)) ∧ T ≠ 69 ∧ T ≠ 102) : RFolAt w' base b f := by
  obtain ⟨h0, u, h1, h2⟩ := h
  refine ⟨h0, u, (hk.block b (Array.getElem?_eq_some_iff.1 h1).1 (fun hs => ?_)).trans h1, RowG.keeps h2 hk (fun g hg hs => ?_)⟩
  · obtain ⟨cs, T, h4, h5, _⟩ := hS b hs
    rw [h1] at h4
    injection h4 with h4
    injection h4 with _ h4 _
    exact h5 h4.symm
  · obtain ⟨cs, T, h4, _, h5⟩ := hS g hs
    exact row_not_fol h2 h4 (fun e => h5 e.symm) hg
theorem RFolAt.blk {w : World} {base b : Nat} {f : Fol} (h : RFolAt w base b f) : ∃ cs, w.heap[b]? = some (.cells cs 69 (0, 0)) := by
  obtain ⟨_, u, h1, _⟩ := h
  exact ⟨_, h1⟩
/-- Another follower is kept. -/
theorem RFolAt.other {w w' : World} {base b b' : Nat} {f f' : Fol} (h : RFolAt w base b f) (h' : RFolAt w base b' f') (hne : b ≠ b') (hk : Keeps (· = b') w w') : RFolAt w' base b f :=
  h.keeps hk hne (fun k hk => by
    obtain ⟨_, u, h1, _⟩ := h'
    subst hk
    exact ⟨_, _, h1, fun e => ent_ne_rfol e.symm⟩)
/-- What changes the other's followers alone keeps this. -/
theorem FolAt.foreign {w w' : World} {base b : Nat} {f : Fol} {S : Nat → Prop} (h : FolAt w base b f) (hk : Keeps S w w') (hS : ∀ k, S k → ∃ cs, w.heap[k]? = some (.cells cs 69 (0, 0))) : FolAt w' base b f :=
  h.keeps2 hk (fun k hs => by
    obtain ⟨cs, h1⟩ := hS k hs
    exact ⟨cs, _, h1, rfol_ne_fol, fun e => ent_ne_rfol e.symm, rfol_ne_flo⟩)
theorem RFolAt.foreign {w w' : World} {base b : Nat} {f : Fol} {S : Nat → Prop} (h : RFolAt w base b f) (hk : Keeps S w w') (hS : ∀ k, S k → ∃ cs, w.heap[k]? = some (.cells cs 127 (0, 0))) : RFolAt w' base b f :=
  h.keeps2 hk (fun k hs => by
    obtain ⟨cs, h1⟩ := hS k hs
    exact ⟨cs, _, h1, fun e => rfol_ne_fol e.symm, fun e => ent_ne_fol e.symm⟩)
structure RTreeAt (w : World) (base b : Nat) (ps : List Nat) (T : List Fol) (A : List Int) : Prop where
  ge : base ≤ b
  blk : ∃ u v, w.heap[b]? = some (.cells #[u, v] 91 (0, 0)) ∧ RowG ptrC w base 67 u ps ∧ RowG numC w base 3 v A
  len : ps.length = T.length
  nd : ps.Nodup
  fol : ∀ i, i < ps.length → RFolAt w base (ps.getD i 0) (nodeT T i)
theorem RTreeAt.lt {w : World} {base b : Nat} {ps : List Nat} {T : List Fol} {A : List Int} (h : RTreeAt w base b ps T A) : b < w.heap.size := by
  obtain ⟨u, v, h1, _⟩ := h.blk
  exact (Array.getElem?_eq_some_iff.1 h1).1
theorem RTreeAt.below {w w' : World} {base b : Nat} {ps : List Nat} {T : List Fol} {A : List Int} (h : RTreeAt w base b ps T A) (hb : Below w.heap.size w w') : RTreeAt w' base b ps T A := by
  obtain ⟨u, v, h1, h2, h3⟩ := h.blk
  exact ⟨h.ge, ⟨u, v, heap_down hb h1, h2.below hb, h3.below hb⟩, h.len, h.nd, fun i hi => (h.fol i hi).below hb⟩
theorem RTreeAt.mono {w : World} {base base' b : Nat} {ps : List Nat} {T : List Fol} {A : List Int} (h : RTreeAt w base b ps T A) (hb : base' ≤ base) : RTreeAt w base' b ps T A := by
  obtain ⟨u, v, h1, h2, h3⟩ := h.blk
  exact ⟨Nat.le_trans hb h.ge, ⟨u, v, h1, h2.mono hb, h3.mono hb⟩, h.len, h.nd, fun i hi => (h.fol i hi).mono hb⟩
/-- One follower is another one. -/
theorem RTreeAt.set {w w' : World} {base b : Nat} {ps : List Nat} {T : List Fol} {A : List Int} (h : RTreeAt w base b ps T A) {i : Nat} (hi : i < ps.length) {f : Fol} (hf : RFolAt w' base (ps.getD i 0) f) (hk : Keeps (· = ps.getD i 0) w w') :
    RTreeAt w' base b ps (T.set i f) A := by
  obtain ⟨u, v, h1, h2, h3⟩ := h.blk
  obtain ⟨cs, hb⟩ := (h.fol i hi).blk
  refine ⟨h.ge, ⟨u, v, (hk.block b (Array.getElem?_eq_some_iff.1 h1).1 (fun e => ?_)).trans h1, h2.keeps hk (fun g hg hs => row_not_fol h2 (by rw [← hs] at hb; exact hb) rptr_ne_rfol hg), h3.keeps hk (fun g hg hs => row_not_fol h3 (by rw [← hs] at hb; exact hb) num_ne_rfol hg)⟩, by rw [List.length_set]; exact h.len, h.nd, fun j hj => ?_⟩
  · rw [e, hb] at h1
    injection h1 with h1
    injection h1 with _ h1 _
    exact rtree_ne_rfol h1.symm
  · rw [nodeT_set _ _ (by rw [← h.len]; exact hi)]
    by_cases hji : j = i
    · rw [if_pos hji, hji]; exact hf
    · rw [if_neg hji]
      exact (h.fol j hj).other (h.fol i hi) (nodup_ne h.nd hj hi hji) hk
/-- Its cells. -/
theorem RTreeAt.cells {w : World} {base b : Nat} {ps : List Nat} {T : List Fol} {A : List Int} (h : RTreeAt w base b ps T A) : ∃ au cu av cv, w.cell? ⟨b, 0, none⟩ = some (.slice au ps.length cu) ∧ w.cell? ⟨b, 1, none⟩ = some (.slice av A.length cv) ∧ ps.length ≤ maxLen ∧ A.length ≤ maxLen ∧
    (∀ i, i < ps.length → ∃ g o, au = some ⟨g, o, none⟩ ∧ w.cell? ⟨g, o + i, none⟩ = some (.pointer (some ⟨ps.getD i 0, 0, none⟩))) ∧ (∀ i, i < A.length → ∃ g o, av = some ⟨g, o, none⟩ ∧ w.cell? ⟨g, o + i, none⟩ = some (.int .i64 (A.getD i 0))) := by
  obtain ⟨u, v, h1, h2, h3⟩ := h.blk
  obtain ⟨⟨c0, c1⟩, _⟩ := two_kept (Below.refl _ _) h1
  obtain ⟨au, cu, rfl, l1, _, _, hu⟩ := RowG.at_ h2
  obtain ⟨av, cv, rfl, l2, _, _, hv⟩ := RowG.at_ h3
  refine ⟨au, cu, av, cv, c0, c1, l1, l2, fun i hi => ?_, fun i hi => ?_⟩
  · obtain ⟨g, o, h5, h6⟩ := hu i hi
    have := h6 0 _ rfl
    rw [getD_get hi]
    exact ⟨g, o, h5, by simpa [ptrC] using this⟩
  · obtain ⟨g, o, h5, h6⟩ := hv i hi
    have := h6 0 _ rfl
    rw [getD_get hi]
    exact ⟨g, o, h5, by simpa [numC] using this⟩

/-- One follower more. -/
theorem RTreeAt.grow {w1 w2 : World} {base b : Nat} {ps : List Nat} {T : List Fol} {A : List Int} (h : RTreeAt w1 base b ps T A) {u v : Value} (hb : w1.heap[b]? = some (.cells #[u, v] 91 (0, 0))) (hu : RowG ptrC w1 base 67 u ps) (hv : RowG numC w1 base 3 v A)
    (hk : Keeps (fun k => u.ownBlock = some k) w1 w2) {u' : Value} {p : Nat} {f : Fol} (hu' : RowG ptrC w2 base 67 u' (ps ++ [p])) (hp : p ∉ ps) (hf : RFolAt w1 base p f) : RTreeAt (w2.setCell ⟨b, 0, none⟩ u') base b (ps ++ [p]) (T ++ [f]) A := by
  have hb2 : w2.heap[b]? = some (.cells #[u, v] 91 (0, 0)) := hk.obj hb (fun hg => row_not_fol hu hb rptr_ne_rtree hg)
  have hS1 : ∀ k, u.ownBlock = some k → ∃ cs T, w1.heap[k]? = some (.cells cs T (0, 0)) ∧ T ≠ 69 ∧ T ≠ 102 := fun k hk => by
    obtain ⟨_, cs, h4⟩ := RowG.block hu hk
    exact ⟨cs, _, h4, rptr_ne_rfol, rptr_ne_ent⟩
  have hk2 : Keeps (· = b) w2 (w2.setCell ⟨b, 0, none⟩ u') := keeps_setCell _ _ _ rfl
  have hS2 : ∀ k, k = b → ∃ cs T, w2.heap[k]? = some (.cells cs T (0, 0)) ∧ T ≠ 69 ∧ T ≠ 102 := fun k hk => by
    subst hk
    exact ⟨_, _, hb2, rtree_ne_rfol, rtree_ne_ent⟩
  have hfol : ∀ {q : Nat} {g : Fol}, RFolAt w1 base q g → RFolAt (w2.setCell ⟨b, 0, none⟩ u') base q g := fun h => (h.keeps2 hk hS1).keeps2 hk2 hS2
  refine ⟨h.ge, ⟨u', v, heap_setCell_same w2 b 0 _ _ u' hb2, hu'.other _ _ (fun g hg e => row_not_fol hu' hb2 rptr_ne_rtree (by rw [← show g = b from e]; exact hg)), ?_⟩, by rw [List.length_append, List.length_append, h.len]; rfl, ?_, fun i hi => ?_⟩
  · have hv2 : RowG numC w2 base 3 v A := hv.keeps hk (fun g hg hs => row_other2 hu hv rptr_ne_num hs hg)
    exact hv2.other _ _ (fun g hg e => row_not_fol hv2 hb2 num_ne_rtree (by rw [← show g = b from e]; exact hg))
  · rw [List.nodup_append]
    exact ⟨h.nd, by simp, fun a ha c hc e => by
      simp at hc
      subst hc
      subst e
      exact hp ha⟩
  · rw [List.length_append, List.length_singleton] at hi
    rw [nodeT_app]
    by_cases h1 : i < ps.length
    · rw [if_pos (by rw [← h.len]; exact h1), getD_left _ _ _ h1]
      exact hfol (h.fol i h1)
    · have h2 : i = ps.length := by omega
      rw [if_neg (by rw [← h.len]; omega), if_pos (by rw [← h.len]; exact h2), h2, List.getD_eq_getElem?_getD, List.getElem?_append_right (Nat.le_refl _)]
      simp
      exact hfol hf
/-- One number more. -/
theorem RTreeAt.growA {w1 w2 : World} {base b : Nat} {ps : List Nat} {T : List Fol} {A : List Int} (h : RTreeAt w1 base b ps T A) {u v : Value} (hb : w1.heap[b]? = some (.cells #[u, v] 91 (0, 0))) (hu : RowG ptrC w1 base 67 u ps) (hv : RowG numC w1 base 3 v A)
    (hk : Keeps (fun k => v.ownBlock = some k) w1 w2) {v' : Value} {n : Int} (hv' : RowG numC w2 base 3 v' (A ++ [n])) : RTreeAt (w2.setCell ⟨b, 1, none⟩ v') base b ps T (A ++ [n]) := by
  have hb2 : w2.heap[b]? = some (.cells #[u, v] 91 (0, 0)) := hk.obj hb (fun hg => row_not_fol hv hb num_ne_rtree hg)
  have hS1 : ∀ k, v.ownBlock = some k → ∃ cs T, w1.heap[k]? = some (.cells cs T (0, 0)) ∧ T ≠ 69 ∧ T ≠ 102 := fun k hk => by
    obtain ⟨_, cs, h4⟩ := RowG.block hv hk
    exact ⟨cs, _, h4, num_ne_rfol, num_ne_ent⟩
  have hk2 : Keeps (· = b) w2 (w2.setCell ⟨b, 1, none⟩ v') := keeps_setCell _ _ _ rfl
  have hS2 : ∀ k, k = b → ∃ cs T, w2.heap[k]? = some (.cells cs T (0, 0)) ∧ T ≠ 69 ∧ T ≠ 102 := fun k hk => by
    subst hk
    exact ⟨_, _, hb2, rtree_ne_rfol, rtree_ne_ent⟩
  have hfol : ∀ {q : Nat} {g : Fol}, RFolAt w1 base q g → RFolAt (w2.setCell ⟨b, 1, none⟩ v') base q g := fun h => (h.keeps2 hk hS1).keeps2 hk2 hS2
  refine ⟨h.ge, ⟨u, v', heap_setCell_same w2 b 1 _ _ v' hb2, ?_, hv'.other _ _ (fun g hg e => row_not_fol hv' hb2 num_ne_rtree (by rw [← show g = b from e]; exact hg))⟩, h.len, h.nd, fun i hi => hfol (h.fol i hi)⟩
  have hu2 : RowG ptrC w2 base 67 u ps := hu.keeps hk (fun g hg hs => row_other2 hv hu (fun e => rptr_ne_num e.symm) hs hg)
  exact hu2.other _ _ (fun g hg e => row_not_fol hu2 hb2 rptr_ne_rtree (by rw [← show g = b from e]; exact hg))
theorem TreeAt.foreign {w w' : World} {base b : Nat} {ps : List Nat} {T : List Fol} {A : List Int} {S : Nat → Prop} (h : TreeAt w base b ps T A) (hk : Keeps S w w') (hS : ∀ k, S k → ∃ cs, w.heap[k]? = some (.cells cs 69 (0, 0))) : TreeAt w' base b ps T A := by
  obtain ⟨u, v, h1, h2, h3⟩ := h.blk
  refine ⟨h.ge, ⟨u, v, (hk.block b (Array.getElem?_eq_some_iff.1 h1).1 (fun hs => ?_)).trans h1, h2.keeps hk (fun g hg hs => ?_), h3.keeps hk (fun g hg hs => ?_)⟩, h.len, h.nd, fun i hi => (h.fol i hi).foreign hk hS⟩
  · obtain ⟨cs, h4⟩ := hS b hs
    rw [h1] at h4
    injection h4 with h4
    injection h4 with _ h4 _
    exact tree_ne_rfol h4
  · obtain ⟨cs, h4⟩ := hS g hs
    exact row_not_fol h2 h4 ptr_ne_rfol hg
  · obtain ⟨cs, h4⟩ := hS g hs
    exact row_not_fol h3 h4 num_ne_rfol hg
theorem RTreeAt.foreign {w w' : World} {base b : Nat} {ps : List Nat} {T : List Fol} {A : List Int} {S : Nat → Prop} (h : RTreeAt w base b ps T A) (hk : Keeps S w w') (hS : ∀ k, S k → ∃ cs, w.heap[k]? = some (.cells cs 127 (0, 0))) : RTreeAt w' base b ps T A := by
  obtain ⟨u, v, h1, h2, h3⟩ := h.blk
  refine ⟨h.ge, ⟨u, v, (hk.block b (Array.getElem?_eq_some_iff.1 h1).1 (fun hs => ?_)).trans h1, h2.keeps hk (fun g hg hs => ?_), h3.keeps hk (fun g hg hs => ?_)⟩, h.len, h.nd, fun i hi => (h.fol i hi).foreign hk hS⟩
  · obtain ⟨cs, h4⟩ := hS b hs
    rw [h1] at h4
    injection h4 with h4
    injection h4 with _ h4 _
    exact rtree_ne_fol h4
  · obtain ⟨cs, h4⟩ := hS g hs
    exact row_not_fol h2 h4 rptr_ne_fol hg
  · obtain ⟨cs, h4⟩ := hS g hs
    exact row_not_fol h3 h4 num_ne_fol hg
theorem TreeAt.blks {w : World} {base b : Nat} {ps : List Nat} {T : List Fol} {A : List Int} (h : TreeAt w base b ps T A) : ∀ k, k ∈ ps → ∃ cs, w.heap[k]? = some (.cells cs 127 (0, 0)) := fun k hk => by
  obtain ⟨i, hi, he⟩ := List.getElem_of_mem hk
  have := (h.fol i hi).blk
  rwa [getD_get hi, he] at this
theorem RTreeAt.blks {w : World} {base b : Nat} {ps : List Nat} {T : List Fol} {A : List Int} (h : RTreeAt w base b ps T A) : ∀ k, k ∈ ps → ∃ cs, w.heap[k]? = some (.cells cs 69 (0, 0)) := fun k hk => by
  obtain ⟨i, hi, he⟩ := List.getElem_of_mem hk
  have := (h.fol i hi).blk
  rwa [getD_get hi, he] at this
theorem TreeAt.ges {w : World} {base b : Nat} {ps : List Nat} {T : List Fol} {A : List Int} (h : TreeAt w base b ps T A) : ∀ k, k ∈ ps → base ≤ k := fun k hk => by
  obtain ⟨i, hi, he⟩ := List.getElem_of_mem hk
  have := (h.fol i hi).1
  rwa [getD_get hi, he] at this
theorem RTreeAt.ges {w : World} {base b : Nat} {ps : List Nat} {T : List Fol} {A : List Int} (h : RTreeAt w base b ps T A) : ∀ k, k ∈ ps → base ≤ k := fun k hk => by
  obtain ⟨i, hi, he⟩ := List.getElem_of_mem hk
  have := (h.fol i hi).1
  rwa [getD_get hi, he] at this
end Go.Proofs.YtfbndfkahodheaaGreatDoor

/- The reference's feeds: HeadOf: walked. -/
namespace Go.Proofs.YtfbndfkahodheaaGreatDoor
open Go.RowKit

/-- What is answered: a text, a fault. -/
def HeadRes (r : List UInt8 × Nat × Int) (e : Ending) : Prop := e = .returned (.tuple #[.string (bs r.1), faultF r.2.1 r.2.2])
theorem HeadRes.mk {r : List UInt8 × Nat × Int} {L : List UInt8} {c : Nat} {a z : Int} {x : ByteArray} (hr : r = (L, c, a)) (hx : x = bs L) (hz : z = (c : Int)) : HeadRes r (.returned (.tuple #[.string x, .agg #[.int .i64 z, .int .i64 a]])) := by
  subst hr hx hz
  rfl
set_option maxHeartbeats 8000000 in
set_option maxRecDepth 100000 in
theorem headR_any (k : Int) (v : Value) (L : List Ent) (time : Int) (w : World) (hv : EntsAt w v L) (hm : ∀ e ∈ L, e.f.who.length ≤ maxLen) :
    Calls Tryz.prog 21 #[.int .i64 k, v, .int .i64 time] w fun e w' => HeadRes (headOf k L time) e ∧ Below w.heap.size w w' := by
  have hB0 : FBox w (w.alloc (.cells #[.int .i64 0, .int .i64 0] 33)) := ⟨heap_alloc_new w _, (Below.refl _ _).alloc (Nat.le_refl _) _⟩
  have hB0H := Lib.hid hB0
  by_cases hk : isKey k = true
  case neg =>
    have hk : isKey k = false := by simpa using hk
    have hr := Lib.hid (show headOf k L time = ([], 10, -1) by unfold headOf; rw [if_pos hk])
    have hba := Lib.hid (bareF_any 10 (w.alloc (.cells #[.int .i64 0, .int .i64 0] 33)))
    clear hv hm hB0
    go_enter Tryz.func21, Tryz.ntmps21
    go_wp2_with (go_at_call 28; refine (isKey_any _ _).mono ?_; rintro e w' ⟨rfl, rfl⟩)
    refine hba.out.mono ?_
    rintro e w1 ⟨rfl, hb1⟩
    have hB1 := hB0H.out.below hb1
    obtain ⟨⟨r0, r1⟩, f0, f1⟩ := hB1.cells
    have hfl := Lib.hid (hB1.set (.int .i64 10) (.int .i64 (-1)))
    clear hb1 hB1
    go_wp2_with fail
    exact bodyPost_ret (v := .tuple #[.string ⟨#[]⟩, .agg #[.int .i64 10, .int .i64 (-1)]]) (by simp [results, Tryz.results21, go_sem, hfl.out.1]) rfl ⟨HeadRes.mk hr.out rfl rfl, hfl.out.2⟩
  have hfl := Lib.hid (floorsR_ent v L (w.alloc (.cells #[.int .i64 0, .int .i64 0] 33)) (AtG.below hv hB0.2) hm)
  have hkH := Lib.hid hk
  have hprev := fun q (hq : L.length = q + 1) => (show ∃ b o c, v = .slice (some ⟨b, o, none⟩) L.length c ∧ w.cell? ⟨b, o + q * 4 + 1, none⟩ = some (.int .i64 (wasE L L.length)) from by
    obtain ⟨a, c, rfl, _, _, hc⟩ := EntsAt.get hv
    obtain ⟨b', o', rfl, _, p1, _⟩ := hc q (by omega)
    refine ⟨b', o', c, rfl, ?_⟩
    rw [p1]
    unfold wasE
    rw [if_neg (by omega), show L.length - 1 = q by omega, getD_get (by omega)])
  obtain ⟨a0, c0, hv0⟩ := AtG.sl hv
  have hlen := AtG.len hv
  unfold maxLen at hlen
  clear hB0
  by_cases hf : (floorsE L).2.1 = 0
  case neg =>
    have hr := headOf_err (time := time) hk hf
    obtain ⟨O, z, a1, hza⟩ : ∃ O z a1, floorsE L = (O, z, a1) := ⟨_, _, _, rfl⟩
    have hfl := hfl.out
    unfold RaiRes at hfl
    rw [hza] at hfl hr hf
    dsimp only [faultF] at hfl hr hf
    have hr := Lib.hid hr
    have hz1 : (0 : Int) < (z : Int) := by omega
    generalize hzd : (z : Int) = zi at *
    have hzd := Lib.hid hzd
    have hfl := Lib.hid hfl
    subst hv0
    clear hf hprev hv hm hza
    go_enter Tryz.func21, Tryz.ntmps21
    go_wp2_with (go_at_call 28; refine (isKey_any _ _).mono ?_; rintro e w' ⟨rfl, rfl⟩)
    refine hfl.out.mono ?_
    rintro e w1 ⟨⟨v9, rfl, hv9⟩, hb1⟩
    obtain ⟨a9, c9, hs9, _⟩ := hv9
    subst hs9
    have hB1 := (hB0H.out.below hb1).below ((Below.refl _ _).alloc (Nat.le_refl _) (.cells #[.int .i64 zi, .int .i64 a1] 33))
    obtain ⟨⟨r0, r1⟩, f0, f1⟩ := hB1.cells
    have hB1H := Lib.hid hB1
    clear hb1 hB1
    go_wp2_with fail
    go_region
    all_goals
      go_wp2_with fail
      have hR := hB1H.out.set (.int .i64 zi) (.int .i64 a1)
      have hR0 := set2_first hB1H.out.1 (.int .i64 zi)
      exact bodyPost_ret (v := .tuple #[.string ⟨#[]⟩, .agg #[.int .i64 zi, .int .i64 a1]]) (by simp [results, Tryz.results21, go_sem, hR.1, hR0]) rfl ⟨HeadRes.mk hr.out rfl hzd.out.symm, hR.2.drew⟩
  obtain ⟨_, _, hfe, hgd⟩ := floorsE_zero hf
  have hl60 := (checkE_zero (L := L) (by rw [(floorsE_zero hf).1])).1
  have hwas0 : L.length = 0 → wasE L L.length = 0 := fun h => by unfold wasE; rw [if_pos h]
  have hrT := Lib.hid (fun h => headOf_time (time := time) hk hf h)
  have hrK := Lib.hid (fun h => headOf_ok (time := time) hk hf h)
  have hfl := hfl.out
  unfold RaiRes at hfl
  have hF2 : floorsE L = ((floorsE L).1, 0, -1) := by rw [hfe]
  have hsum := fun (u : Value) wx (hx : FloorsAt wx u (floorsE L).1) => sumR_flo u (floorsE L).1 wx hx (fun f h => who_len ((floorsE_good hf).g.one f h))
  have hsd := sumF_bd (floorsE L).1
  rw [show (floorsE L).2 = (0, -1) by rw [hfe]] at hfl
  dsimp only [faultF] at hfl
  have hwords := Lib.hid (fun (h0 : 0 ≤ time) (h1 : time ≤ 1000000) => headWords_words (n := (L.length : Int)) (time := time) (sum := sumF (floorsE L).1) (by omega) (by omega) hsd)
  generalize (floorsE L).1 = O at *
  generalize wasE L L.length = was at *
  generalize sumF O = sm at *
  have hfl := Lib.hid hfl
  have hsum := Lib.hid hsum
  obtain ⟨n, hn⟩ : ∃ n, L.length = n := ⟨_, rfl⟩
  rw [hn] at hv0 hprev hl60 hrK hwords hwas0 hlen
  clear hf hm hv hn hfe hF2 hgd
  by_cases ht : time < 0 ∨ 1000000 < time ∨ time < was
  · have hr := Lib.hid (hrT.out ht)
    clear hrT hrK hwords hsum hsd
    by_cases ht0 : time < 0
    · clear hprev hwas0 ht
      subst hv0
      go_enter Tryz.func21, Tryz.ntmps21
      go_wp2_with (go_at_call 28; refine (isKey_any _ _).mono ?_; rintro e w' ⟨rfl, rfl⟩)
      refine hfl.out.mono ?_
      rintro e w1 ⟨⟨v9, rfl, hv9⟩, hb1⟩
      have hv9H := Lib.hid hv9
      obtain ⟨a9, c9, hs9, _⟩ := hv9
      subst hs9
      have hB1 := hB0H.out.below hb1
      have hB1A := Lib.hid (fun o => hB1.below ((Below.refl _ _).alloc (Nat.le_refl _) o))
      clear hB1
      have hba := Lib.hid (fun wx => bareF_any 2 wx)
      clear hb1
      go_wp2_with fail
      refine (hba.out _).mono ?_
      rintro e w2 ⟨rfl, hb2⟩
      have hB2 := (hB1A.out _).below hb2
      obtain ⟨⟨r0, r1⟩, f0, f1⟩ := hB2.cells
      have hset := Lib.hid (hB2.set (.int .i64 2) (.int .i64 (-1)))
      clear hb2 hB2
      go_wp2_with fail
      exact bodyPost_ret (v := .tuple #[.string ⟨#[]⟩, .agg #[.int .i64 2, .int .i64 (-1)]]) (by simp [results, Tryz.results21, go_sem, hset.out.1]) rfl ⟨HeadRes.mk hr.out rfl rfl, hset.out.2⟩
    by_cases ht1 : 1000000 < time
    · clear hprev hwas0 ht
      subst hv0
      go_enter Tryz.func21, Tryz.ntmps21
      go_wp2_with (go_at_call 28; refine (isKey_any _ _).mono ?_; rintro e w' ⟨rfl, rfl⟩)
      refine hfl.out.mono ?_
      rintro e w1 ⟨⟨v9, rfl, hv9⟩, hb1⟩
      have hv9H := Lib.hid hv9
      obtain ⟨a9, c9, hs9, _⟩ := hv9
      subst hs9
      have hB1 := hB0H.out.below hb1
      have hB1A := Lib.hid (fun o => hB1.below ((Below.refl _ _).alloc (Nat.le_refl _) o))
      clear hB1
      have hba := Lib.hid (fun wx => bareF_any 2 wx)
      clear hb1
      go_wp2_with fail
      refine (hba.out _).mono ?_
      rintro e w2 ⟨rfl, hb2⟩
      have hB2 := (hB1A.out _).below hb2
      obtain ⟨⟨r0, r1⟩, f0, f1⟩ := hB2.cells
      have hset := Lib.hid (hB2.set (.int .i64 2) (.int .i64 (-1)))
      clear hb2 hB2
      go_wp2_with fail
      exact bodyPost_ret (v := .tuple #[.string ⟨#[]⟩, .agg #[.int .i64 2, .int .i64 (-1)]]) (by simp [results, Tryz.results21, go_sem, hset.out.1]) rfl ⟨HeadRes.mk hr.out rfl rfl, hset.out.2⟩
    · have ht2 : time < was := by omega
      have hn0 : n ≠ 0 := fun h => by have := hwas0 h; omega
      obtain ⟨q, rfl⟩ : ∃ q, n = q + 1 := ⟨n - 1, by omega⟩
      obtain ⟨b, o, c, hv1, p1⟩ := hprev q rfl
      clear hprev hwas0 ht hn0 hv0
      subst hv1
      have p1H := Lib.hid p1
      have hq0 : (0 : Int) ≤ (q : Int) := by omega
      have hq1 : (q : Int) < (q : Int) + 1 := by omega
      clear p1
      go_enter Tryz.func21, Tryz.ntmps21
      go_wp2_with (go_at_call 28; refine (isKey_any _ _).mono ?_; rintro e w' ⟨rfl, rfl⟩)
      refine hfl.out.mono ?_
      rintro e w1 ⟨⟨v9, rfl, hv9⟩, hb1⟩
      have hv9H := Lib.hid hv9
      obtain ⟨a9, c9, hs9, _⟩ := hv9
      subst hs9
      have hB1 := hB0H.out.below hb1
      have hB1A := Lib.hid (fun o => hB1.below ((Below.refl _ _).alloc (Nat.le_refl _) o))
      clear hB1
      have hba := Lib.hid (fun wx => bareF_any 2 wx)
      have p1 := fun o => cell_below (below_trans (hB1A.out o).2 (Below.refl _ _)) p1H.out
      have p1 := p1 (.cells #[.int .i64 0, .int .i64 (-1)] 33)
      clear hb1
      go_wp2_with fail
      refine (hba.out _).mono ?_
      rintro e w2 ⟨rfl, hb2⟩
      have hB2 := (hB1A.out _).below hb2
      obtain ⟨⟨r0, r1⟩, f0, f1⟩ := hB2.cells
      have hset := Lib.hid (hB2.set (.int .i64 2) (.int .i64 (-1)))
      clear hb2 hB2
      go_wp2_with fail
      exact bodyPost_ret (v := .tuple #[.string ⟨#[]⟩, .agg #[.int .i64 2, .int .i64 (-1)]]) (by simp [results, Tryz.results21, go_sem, hset.out.1]) rfl ⟨HeadRes.mk hr.out rfl rfl, hset.out.2⟩
  have hr := Lib.hid (hrK.out ht)
  have ht0 : ¬ time < 0 := fun h => ht (.inl h)
  have ht1 : ¬ 1000000 < time := fun h => ht (.inr (.inl h))
  have ht2 : ¬ time < was := fun h => ht (.inr (.inr h))
  have hwords := Lib.hid (hwords.out (by omega) (by omega))
  have hnews := Lib.hid (fun (x : World) => textsAt_of (AtG.newL (C := strC) x (headWords n time sm) 9 (cs := #[.string ⟨#[104, 101, 97, 100]⟩, .string (bs (Lib.itoa n)), .string (bs (Lib.itoa time)), .string (bs (Lib.itoa sm))]) rfl (by unfold maxLen; simp [headWords])))
  have hd1 := Lib.hid (fun wx => decimal_any (n : Int) wx (by omega) (by omega))
  have hd2 := Lib.hid (fun wx => decimal_any time wx (by omega) (by omega))
  have hd3 := Lib.hid (fun wx => decimal_any sm wx (by omega) (by omega))
  have hse := fun vx wx (hvx : TextsAt wx vx (headWords n time sm)) => sealR_any k vx (headWords n time sm) wx hvx (fun x hx => by have := ((isWord_iff x).1 (hwords.out x hx)).2.1; unfold maxLen; omega)
  rw [makeOf_good hkH.out (by simp [headWords]) (by simp [headWords]) hwords.out] at hse
  unfold sealV faultV at hse
  dsimp only at hse
  have hse := Lib.hid hse
  have hwl : headWords n time sm = headWords n time sm := rfl
  clear hrT hrK ht hsd hwl
  by_cases hn0 : n = 0
  · subst hn0
    clear hprev hwas0
    subst hv0
    go_enter Tryz.func21, Tryz.ntmps21
    go_wp2_with (go_at_call 28; refine (isKey_any _ _).mono ?_; rintro e w' ⟨rfl, rfl⟩)
    refine hfl.out.mono ?_
    rintro e w1 ⟨⟨v9, rfl, hv9⟩, hb1⟩
    have hv9H := Lib.hid hv9
    obtain ⟨a9, c9, hs9, _⟩ := hv9
    subst hs9
    have hB1 := hB0H.out.below hb1
    have hB1A := Lib.hid (fun o => hB1.below ((Below.refl _ _).alloc (Nat.le_refl _) o))
    clear hB1
    have hv9A := Lib.hid (fun o => hv9H.out.below ((Below.refl _ _).alloc (Nat.le_refl _) o))
    clear hb1
    go_wp2_with fail
    refine (hd1.out _).mono ?_
    rintro e w2 ⟨rfl, hb2⟩
    have hB2 := Lib.hid ((hB1A.out _).below hb2)
    have hv2 := Lib.hid ((hv9A.out _).below hb2)
    clear hb2
    go_wp2_with fail
    refine (hd2.out _).mono ?_
    rintro e w3 ⟨rfl, hb3⟩
    have hB3 := Lib.hid (hB2.out.below hb3)
    have hv3 := Lib.hid (hv2.out.below hb3)
    clear hb3
    go_wp2_with fail
    refine (hsum.out _ _ hv3.out).mono ?_
    rintro e w4 ⟨rfl, hb4⟩
    have hB4 := Lib.hid (hB3.out.below hb4)
    clear hb4
    go_wp2_with fail
    refine (hd3.out _).mono ?_
    rintro e w5 ⟨rfl, hb5⟩
    have hB5 := Lib.hid (fun o => (hB4.out.below hb5).below ((Below.refl _ _).alloc (Nat.le_refl _) o))
    clear hb5
    go_wp2_with fail
    refine (hse.out _ _ (hnews.out _)).mono ?_
    rintro e w6 ⟨rfl, hb6⟩
    have hB6 := (hB5.out _).below hb6
    obtain ⟨⟨r0, r1⟩, f0, f1⟩ := hB6.cells
    have hset := Lib.hid (hB6.set (.int .i64 0) (.int .i64 (-1)))
    clear hb6 hB6
    go_wp2_with fail
    exact bodyPost_ret (v := .tuple #[.string (bs (sealText k (headWords (0 : Nat) time sm))), .agg #[.int .i64 0, .int .i64 (-1)]]) (by simp [results, Tryz.results21, go_sem, hset.out.1]) rfl ⟨HeadRes.mk hr.out rfl rfl, hset.out.2⟩
  · obtain ⟨q, rfl⟩ : ∃ q, n = q + 1 := ⟨n - 1, by omega⟩
    obtain ⟨b, o, c, hv1, p1⟩ := hprev q rfl
    clear hprev hwas0 hn0 hv0
    subst hv1
    have p1H := Lib.hid p1
    have hq0 : (0 : Int) ≤ (q : Int) := by omega
    have hq1 : (q : Int) < (q : Int) + 1 := by omega
    clear p1
    go_enter Tryz.func21, Tryz.ntmps21
    go_wp2_with (go_at_call 28; refine (isKey_any _ _).mono ?_; rintro e w' ⟨rfl, rfl⟩)
    refine hfl.out.mono ?_
    rintro e w1 ⟨⟨v9, rfl, hv9⟩, hb1⟩
    have hv9H := Lib.hid hv9
    obtain ⟨a9, c9, hs9, _⟩ := hv9
    subst hs9
    have hB1 := hB0H.out.below hb1
    have hB1A := Lib.hid (fun o => hB1.below ((Below.refl _ _).alloc (Nat.le_refl _) o))
    clear hB1
    have hv9A := Lib.hid (fun o => hv9H.out.below ((Below.refl _ _).alloc (Nat.le_refl _) o))
    have p1 := cell_below (hB1A.out (.cells #[.int .i64 0, .int .i64 (-1)] 33)).2 p1H.out
    clear hb1
    go_wp2_with fail
    refine (hd1.out _).mono ?_
    rintro e w2 ⟨rfl, hb2⟩
    have hB2 := Lib.hid ((hB1A.out _).below hb2)
    have hv2 := Lib.hid ((hv9A.out _).below hb2)
    clear hb2
    go_wp2_with fail
    refine (hd2.out _).mono ?_
    rintro e w3 ⟨rfl, hb3⟩
    have hB3 := Lib.hid (hB2.out.below hb3)
    have hv3 := Lib.hid (hv2.out.below hb3)
    clear hb3
    go_wp2_with fail
    refine (hsum.out _ _ hv3.out).mono ?_
    rintro e w4 ⟨rfl, hb4⟩
    have hB4 := Lib.hid (hB3.out.below hb4)
    clear hb4
    go_wp2_with fail
    refine (hd3.out _).mono ?_
    rintro e w5 ⟨rfl, hb5⟩
    have hB5 := Lib.hid (fun o => (hB4.out.below hb5).below ((Below.refl _ _).alloc (Nat.le_refl _) o))
    clear hb5
    go_wp2_with fail
    refine (hse.out _ _ (hnews.out _)).mono ?_
    rintro e w6 ⟨rfl, hb6⟩
    have hB6 := (hB5.out _).below hb6
    obtain ⟨⟨r0, r1⟩, f0, f1⟩ := hB6.cells
    have hset := Lib.hid (hB6.set (.int .i64 0) (.int .i64 (-1)))
    clear hb6 hB6
    go_wp2_with fail
    exact bodyPost_ret (v := .tuple #[.string (bs (sealText k (headWords ((q + 1 : Nat) : Int) time sm))), .agg #[.int .i64 0, .int .i64 (-1)]]) (by simp [results, Tryz.results21, go_sem, hset.out.1]) rfl ⟨HeadRes.mk hr.out rfl rfl, hset.out.2⟩
end Go.Proofs.YtfbndfkahodheaaGreatDoor
