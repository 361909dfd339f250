/- The law PersonActs, walked. -/
import Derived.Test.YtjckllgbllmjjaaGreatDoorRefB3
import Derived.Test.YtjckllgbllmjjaaGreatDoorCopyB
import Derived.Test.YtjckllgbllmjjaaGreatDoorPeopled
import Derived.Test.YtjckllgbllmjjaaGreatDoorCodedS
import Derived.Test.YtjckllgbllmjjaaGreatDoorTwo
import Derived.Deep.CutRange
import Derived.Deep.CutBlock
import Derived.Deep.LoopGhost
import Derived.Deep.RegionHeld3
import Derived.WalkLawsBesides
import Derived.IntWalk
import Derived.Sort.Walk0
namespace Go.Proofs.YtjckllgbllmjjaaGreatDoor
open Go.RowKit Go.BigFrame

/-- The blocks that an act on both books may write. -/
def ActW (r base : Nat) (W : World) (k : Nat) : Prop := k = r ∨ RefS base W k
theorem actW_book {r base : Nat} {u v w : World} (h : Keeps (ActW r base u) u v) (k : Keeps (· = r) v w) : Keeps (ActW r base u) u w :=
  h.trans (k.mono fun _ h => .inl h)
theorem actW_ref {r base : Nat} {u v w : World} (h : Keeps (ActW r base u) u v) (k : Keeps (RefS base v) v w) : Keeps (ActW r base u) u w := by
  refine ⟨k.os.trans h.os, k.tape.trans h.tape, k.output.trans h.output, Nat.le_trans h.size k.size, fun i hi hs => ?_⟩
  have h1 := h.block i hi hs
  refine (k.block i (Nat.lt_of_lt_of_le hi h.size) ?_).trans h1
  rintro ⟨h2, cs, T, z, h3, h4⟩
  exact hs (.inr ⟨h2, cs, T, z, h1.symm.trans h3, h4⟩)
theorem actW_below {r base : Nat} {u v w : World} (h : Keeps (ActW r base u) u v) (k : Below v.heap.size v w) : Keeps (ActW r base u) u w := h.trans (Keeps.of_below k)
theorem Keeps.drew1 {S : Nat → Prop} {a w : World} (h : Keeps S a w) : Keeps S a w.drew := ⟨h.os, h.tape, h.output, h.size, h.block⟩
theorem BookAt.drew1 {w : World} {b r : Nat} {L : List Per} (h : BookAt w b r L) : BookAt w.drew b r L := h.below (Below.refl _ _).drew
theorem RefAt.drew1 {w : World} {base b : Nat} {L : List Per} (h : RefAt w base b L) : RefAt w.drew base b L := h.below (Below.refl _ _).drew
/-- An act's box is none of them. -/
theorem act_off {r base g : Nat} {W : World} {cs : Array Value} {b : Nat} {L : List Per} (hg : W.heap[g]? = some (.cells cs 39 (0, 0))) (hB : BookAt W b r L) : ¬ ActW r base W g := by
  rintro (rfl | ⟨_, cs', T, z, h1, h2⟩)
  · obtain ⟨l, ⟨es, c, hb, _⟩, _⟩ := hB.map
    rw [hb] at hg
    cases hg
  · rw [hg] at h1
    injection h1 with h1
    injection h1 with _ h1 _
    subst h1
    revert h2
    decide
theorem BookAt.actR {r base b : Nat} {w w' : World} {L : List Per} (h : BookAt w b r L) (hk : Keeps (RefS base w) w w') : BookAt w' b r L := h.keeps hk h.off_ref.1 h.off_ref.2
theorem RefAt.actB {base b b2 r : Nat} {w w' : World} {L L2 : List Per} (h : RefAt w base b L) (h2 : BookAt w b2 r L2) (hk : Keeps (· = r) w w') : RefAt w' base b L :=
  h.keeps hk fun k hR e => h2.off_ref.2 (by subst e; exact hR)
theorem actW_down {r base B : Nat} {W w' : World} (h : Keeps (ActW r base W) W w') (hB : B ≤ W.heap.size) (hr : B ≤ r) (hb : B ≤ base) : Below B W w' :=
  h.below hB fun k hk => by
    rcases hk with rfl | ⟨h1, _⟩
    · exact hr
    · omega
/-- Both books, and what was kept. -/
structure S3 (b r base : Nat) (W w : World) (p q : List Per) : Prop where
  bk : BookAt w b r p
  rf : RefAt w base base q
  ks : Keeps (ActW r base W) W w
theorem S3.drew1 {b r base : Nat} {W w : World} {p q : List Per} (h : S3 b r base W w p q) : S3 b r base W w.drew p q := ⟨h.bk.drew1, h.rf.drew1, h.ks.drew1⟩
theorem S3.below {b r base : Nat} {W w w' : World} {p q : List Per} (h : S3 b r base W w p q) (hb : Below w.heap.size w w') : S3 b r base W w' p q := ⟨h.bk.below hb, h.rf.below hb, actW_below h.ks hb⟩
theorem S3.act {b r base : Nat} {W w w' : World} {p p' q : List Per} (h : S3 b r base W w p q) (hk : Keeps (· = r) w w') (hB : BookAt w' b r p') : S3 b r base W w' p' q := ⟨hB, RefAt.actB h.rf h.bk hk, actW_book h.ks hk⟩
theorem S3.ref {b r base : Nat} {W w w' : World} {p q q' : List Per} (h : S3 b r base W w p q) (hk : Keeps (RefS base w) w w') (hR : RefAt w' base base q') : S3 b r base W w' p q' := ⟨BookAt.actR h.bk hk, hR, actW_ref h.ks hk⟩
/-! walk -/
theorem PersAt.drew1 {w : World} {v : Value} {L : List Per} (h : PersAt w v L) : PersAt w.drew v L := h.below (Below.refl _ _).drew
theorem checkOf_code (n : List UInt8) (k e : Int) : checkOf n k e ≤ 16 := by
  unfold checkOf
  split
  · simp
  · split
    · simp
    · split <;> simp
theorem acts_bs_false {l d : List UInt8} (h : ¬ bs l = bs d) : ((bs l).toList == d) = false := by
  rw [toList_data, bs_list, beq_eq_false_iff_ne]
  intro e
  exact h (by rw [e])
theorem acts_long_false {A : List ActV} (h : longOf A = false) : ∀ q (h : q < A.length), ¬ (20 < A[q].kind.length) ∧ ¬ (20 < A[q].name.length) := by
  intro q hq
  unfold longOf at h
  rw [Bool.or_eq_false_iff, List.any_eq_false] at h
  have := h.2 _ (List.getElem_mem hq)
  simpa using this
set_option maxHeartbeats 8000000 in
set_option maxRecDepth 100000 in
theorem acts_any {E : Nat → Addr} (x : Value) (A : List ActV) (p : Per) (w : World) (hL : LaidR E w) (hx : ActsAt w x A) (hp : p.name.length ≤ maxLen) :
    Calls Tryz.prog 3 #[x, p.val] w fun e w' => e = .returned (.bool true) ∧ Below w.heap.size w w' := by
  obtain ⟨pn, pk, pe, po⟩ := p
  dsimp only [Per.val] at *
  have hB0 : Below w.heap.size w (w.alloc (.cells #[.string (bs pn), .int .i64 pk, .int .i64 pe, .bool po] 24)) := (Below.refl _ _).alloc (Nat.le_refl _) _
  have hrow0 := Lib.hid (heap_alloc_new w (.cells #[.string (bs pn), .int .i64 pk, .int .i64 pe, .bool po] 24))
  have hpl := Lib.hid (peopled_any (E := E) _ (hL.laid.below hB0))
  have hB0 := Lib.hid hB0
  have hps := bs_size pn
  go_enter Tryz.func3, Tryz.ntmps3
  go_wp2_with fail
  refine hpl.out.mono ?_
  rintro e w1 ⟨rfl, hb1⟩
  have hrow1 := Lib.hid (heap_down hb1 hrow0.out)
  have hb1 := below_trans hB0.out hb1
  have hlg := Lib.hid (long_any x A w1 (hx.below hb1))
  have hb1 := Lib.hid hb1
  clear hpl
  cases hlo : longOf A with
  | true =>
    rw [hlo] at hlg
    go_wp2_with fail
    refine hlg.out.mono ?_
    rintro e w2 ⟨rfl, hb2⟩
    have hb2 := Lib.hid (below_trans hb1.out hb2)
    go_wp2_with fail
    go_ret
    exact ⟨rfl, hb2.out⟩
  | false =>
  rw [hlo] at hlg
  have hlong := Lib.hid (acts_long_false hlo)
  clear hlo
  by_cases h20 : 20 < pn.length
  · go_wp2_with fail
    refine hlg.out.mono ?_
    rintro e w2 ⟨rfl, hb2⟩
    have hrow2 := heap_down hb2 hrow1.out
    have r0 : w2.cell? ⟨w.heap.size, 0, none⟩ = some (.string (bs pn)) := by rw [cell_of_row _ _ _ _ _ _ hrow2]; rfl
    have hb2 := Lib.hid (below_trans hb1.out hb2)
    clear hrow2
    unfold maxLen at hp
    go_wp2_with fail
    go_ret
    exact ⟨rfl, hb2.out⟩
  go_wp2_with fail
  refine hlg.out.mono ?_
  rintro e w2 ⟨rfl, hb2⟩
  have hrow2 := Lib.hid (heap_down hb2 hrow1.out)
  have hb2 := below_trans hb1.out hb2
  have hL2 := Lib.hid (hL.below hb2)
  have hx2 := Lib.hid (hx.below hb2)
  have hb2 := Lib.hid hb2
  have r0 : w2.cell? ⟨w.heap.size, 0, none⟩ = some (.string (bs pn)) := by rw [cell_of_row _ _ _ _ _ _ hrow2.out]; rfl
  have r1 : w2.cell? ⟨w.heap.size, 1, none⟩ = some (.int .i64 pk) := by rw [cell_of_row _ _ _ _ _ _ hrow2.out]; rfl
  have r2 : w2.cell? ⟨w.heap.size, 2, none⟩ = some (.int .i64 pe) := by rw [cell_of_row _ _ _ _ _ _ hrow2.out]; rfl
  have r3 : w2.cell? ⟨w.heap.size, 3, none⟩ = some (.bool po) := by rw [cell_of_row _ _ _ _ _ _ hrow2.out]; rfl
  have hk4 := Lib.hid (fun (wx : World) (hx : Below w2.heap.size w2 wx) => (show Below w2.heap.size w2 wx ∧ wx.cell? ⟨w.heap.size, 0, none⟩ = some (.string (bs pn)) ∧ wx.cell? ⟨w.heap.size, 1, none⟩ = some (.int .i64 pk) ∧ wx.cell? ⟨w.heap.size, 2, none⟩ = some (.int .i64 pe) ∧ wx.cell? ⟨w.heap.size, 3, none⟩ = some (.bool po) from ⟨hx, cell_below hx r0, cell_below hx r1, cell_below hx r2, cell_below hx r3⟩))
  have hS : Below w2.heap.size w2 w2 := Below.refl _ _
  have hck := fun wx (hx : Below w2.heap.size w2 wx) => check_any (E := E) (bs pn) pk pe po wx (hL2.out.laid.below hx) (by rw [bs_size]; exact hp)
  have hpe := fun wx => errR_person pn pk pe po wx hp
  have hcc := checkOf_code pn pk pe
  rw [bs_list] at hck
  generalize checkOf pn pk pe = cc at *
  have hckH := Lib.hid hck
  have hpeH := Lib.hid hpe
  have hco := Lib.hid (fun (c : Nat) (hc : c ≤ 16) wx (hx : Below w2.heap.size w2 wx) => coded_same (E := E) c wx (hL2.out.below hx) hc)
  clear hck hpe hlg hrow0 hrow1
  unfold maxLen at hp
  have h20i : ¬ ((20 : Int) < (pn.length : Int)) := by omega
  go_upto_region 4 with fail
  go_cut [38] from 33 to 38 (fun s38 wx => s38 = .bool false ∧ Hid (Below w2.heap.size w2 wx))
  case first =>
    go_region_held3 (fun w' => Below w2.heap.size w2 w' ∧ w'.cell? ⟨w.heap.size, 0, none⟩ = some (.string (bs pn)) ∧ w'.cell? ⟨w.heap.size, 1, none⟩ = some (.int .i64 pk) ∧ w'.cell? ⟨w.heap.size, 2, none⟩ = some (.int .i64 pe) ∧ w'.cell? ⟨w.heap.size, 3, none⟩ = some (.bool po))
      ((refine hk4.out _ ?_; (first | exact hS | exact hS.drew)))
      (first | (go_at_call 6; refine (hco.out _ hcc _ (by (first | exact hS | exact hS.drew))).mono ?_; rintro e w' ⟨rfl, hbx⟩; have hS : Below w2.heap.size w2 w' := below_trans (by (first | exact hS | exact hS.drew)) hbx) | (go_at_call 7; refine (hckH.out _ (by (first | exact hS | exact hS.drew))).mono ?_; rintro e w' ⟨rfl, hbx⟩; have hS : Below w2.heap.size w2 w' := below_trans (by (first | exact hS | exact hS.drew)) hbx) | (go_at_call 8; refine (hpeH.out _).mono ?_; rintro e w' ⟨rfl, hbx⟩; have hS : Below w2.heap.size w2 w' := below_trans (by (first | exact hS | exact hS.drew)) hbx))
    all_goals
      go_wp2_with fail
      go_meet
      exact ⟨rfl, Lib.hid (by (first | assumption | exact hS.drew))⟩
  obtain ⟨rfl, hb3⟩ := hcut
  have hx3 := Lib.hid (hx2.out.below hb3.out)
  have hb3x := Lib.hid (hb2.out.trans (hb3.out.mono hb2.out.size))
  generalize wc = w3 at *
  clear r0 r1 r2 r3 hk4 hS hckH hpeH hcc hco
  go_wp2_with fail
  refine (new_book _).mono ?_
  rintro e w4 ⟨b, r, rfl, hb4, hbb, hrr, hB⟩
  obtain ⟨a, c, rfl, hm, ha⟩ := hx3.out
  unfold maxLen at hm
  have ha := Lib.hid ha
  have hA4 : Below w4.heap.size w4 (w4.alloc (.cells #[.slice none 0 0] 37)) := (Below.refl _ _).alloc (Nat.le_refl _) _
  have hB5 := hB.below hA4
  have hR5 : RefAt (w4.alloc (.cells #[.slice none 0 0] 37)) w4.heap.size w4.heap.size [] := ⟨Nat.le_refl _, _, heap_alloc_new w4 _, World.ownsRow_nil _ _ _ _⟩
  have hbase : w3.heap.size ≤ w4.heap.size := hb4.size
  have hbx4 : Below w3.heap.size w3 (w4.alloc (.cells #[.slice none 0 0] 37)) := hb4.trans (hA4.mono hb4.size)
  have hB5 := Lib.hid hB5
  have hR5 := Lib.hid hR5
  have hbx4 := Lib.hid hbx4
  have hb4 := Lib.hid hb4
  clear hA4 hx2 hx3 hB
  go_wp2_with fail
  generalize hbs : w4.heap.size = base at *
  go_loopg [8] (A.length + 1) (fun g i wr => ∃ (j : Nat) (L : List Per), i = .int .i64 j ∧ j ≤ A.length ∧ A.length - j + 1 ≤ g ∧ Hid (BookAt wr b r L ∧ RefAt wr base base L ∧ GoodB L) ∧ Hid (Below w3.heap.size w3 wr))
  case atStart => exact ⟨0, [], rfl, Nat.zero_le _, by omega, Lib.hid ⟨hB5.out, hR5.out, ⟨List.Pairwise.nil, by simp, by simp, by simp, by simp⟩⟩, hbx4⟩
  case round =>
    obtain ⟨j, L, rfl, hj, hg, hBG, hK⟩ := hrel
    by_cases hlt : j < A.length
    · obtain ⟨bb, o, rfl, h0, h1, h2, h3, hl1, hl2⟩ := ha.out j hlt
      have h0 := cell_below hK.out h0
      have h1 := cell_below hK.out h1
      have h2 := cell_below hK.out h2
      have h3 := cell_below hK.out h3
      have hA : Below wr.heap.size wr (wr.alloc (.cells #[.string (bs A[j].kind), .string (bs A[j].name), .int .i64 A[j].key, .bool A[j].is] 39)) := (Below.refl _ _).alloc (Nat.le_refl _) _
      have hrowA := heap_alloc_new wr (.cells #[.string (bs A[j].kind), .string (bs A[j].name), .int .i64 A[j].key, .bool A[j].is] 39)
      have hB6 := hBG.out.1.below hA
      have hR6 := hBG.out.2.1.below hA
      have hG := Lib.hid hBG.out.2.2
      have hKW : Below w3.heap.size w3 (wr.alloc (.cells #[.string (bs A[j].kind), .string (bs A[j].name), .int .i64 A[j].key, .bool A[j].is] 39)) := hK.out.trans (hA.mono hK.out.size)
      have hofA := act_off (base := base) hrowA hB6
      go_upto_block 2 with fail
      clear h0 h1 h2 h3 hA hBG
      generalize wr.alloc (.cells #[.string (bs A[j].kind), .string (bs A[j].name), .int .i64 A[j].key, .bool A[j].is] 39) = W at *
      have hbW : w3.heap.size ≤ W.heap.size := hKW.size
      have hLa := Lib.hid (fun wx (hx : Keeps (ActW r base W) W wx) => hL2.out.below (hb3.out.trans ((hKW.trans (actW_down hx hbW hrr hbase)).mono hb3.out.size)))
      have hKa := Lib.hid (fun wx (hx : Keeps (ActW r base W) W wx) => hKW.trans (actW_down hx hbW hrr hbase))
      have hkA := Lib.hid (fun wx (hx : Keeps (ActW r base W) W wx) => (show wx.heap[wr.heap.size]? = some (.cells #[.string (bs A[j].kind), .string (bs A[j].name), .int .i64 A[j].key, .bool A[j].is] 39 (0, 0)) from hx.obj hrowA hofA))
      have hkC := Lib.hid (fun wx (hx : Keeps (ActW r base W) W wx) => (show Keeps (ActW r base W) W wx ∧ wx.cell? ⟨wr.heap.size, 1, none⟩ = some (.string (bs A[j].name)) ∧ wx.cell? ⟨wr.heap.size, 2, none⟩ = some (.int .i64 A[j].key) ∧ wx.cell? ⟨wr.heap.size, 3, none⟩ = some (.bool A[j].is) from ⟨hx, by rw [cell_of_row _ _ _ _ _ _ (hkA.out _ hx)]; rfl, by rw [cell_of_row _ _ _ _ _ _ (hkA.out _ hx)]; rfl, by rw [cell_of_row _ _ _ _ _ _ (hkA.out _ hx)]; rfl⟩))
      have g0 : W.cell? ⟨wr.heap.size, 0, none⟩ = some (.string (bs A[j].kind)) := by rw [cell_of_row _ _ _ _ _ _ hrowA]; rfl
      have g1 : W.cell? ⟨wr.heap.size, 1, none⟩ = some (.string (bs A[j].name)) := by rw [cell_of_row _ _ _ _ _ _ hrowA]; rfl
      have g2 : W.cell? ⟨wr.heap.size, 2, none⟩ = some (.int .i64 A[j].key) := by rw [cell_of_row _ _ _ _ _ _ hrowA]; rfl
      have g3 : W.cell? ⟨wr.heap.size, 3, none⟩ = some (.bool A[j].is) := by rw [cell_of_row _ _ _ _ _ _ hrowA]; rfl
      have hKW := Lib.hid hKW
      clear hofA
      go_cut [10] from 44 to 124 (fun s10 wx => ∃ L' : List Per, s10 = .bool true ∧ Hid (BookAt wx b r L' ∧ RefAt wx base base L' ∧ GoodB L') ∧ Hid (Below w3.heap.size w3 wx))
      case first =>
        have hm20 : L.length ≤ 20 := hG.out.many
        have hm20m : L.length ≤ maxLen := by unfold maxLen; omega
        have hcoH := Lib.hid (fun (c : Nat) (hc : c ≤ 16) wx (hx : Keeps (ActW r base W) W wx) => coded_same (E := E) c wx (hLa.out _ hx) hc)
        have hS : Keeps (ActW r base W) W W := Keeps.refl _ _
        have hso := hG.out.sorted
        have hep := hG.out.epoch
        by_cases k1 : bs A[j].kind = ⟨#[97, 100, 100]⟩
        · have k1b : (bs A[j].kind == ⟨#[97, 100, 100]⟩) = true := by rw [k1]; rfl
          have hgd := add_good hG.out A[j].name A[j].key
          have hcA := fun wx (hLx : Laid E wx) (hBx : BookAt wx b r L) => add_any b r L A[j].name A[j].key wx hLx hBx hl2 hm20m
          have hcR := fun wx (hRx : RefAt wx base base L) => addR_any base base L A[j].name A[j].key wx hRx hl2 hm20
          generalize addOf L A[j].name A[j].key = q at *
          obtain ⟨cd, L'⟩ := q
          dsimp only at hgd hcA hcR
          obtain ⟨hgd1, _, _, hcd⟩ := hgd
          have hcAH := Lib.hid hcA
          have hcRH := Lib.hid hcR
          have hgd1 := Lib.hid hgd1
          clear hcA hcR
          have hT : S3 b r base W W L L := ⟨hB6, hR6, hS⟩
          go_wp2_with fail
          go_region_held3 (fun w' => Keeps (ActW r base W) W w' ∧ w'.cell? ⟨wr.heap.size, 1, none⟩ = some (.string (bs A[j].name)) ∧ w'.cell? ⟨wr.heap.size, 2, none⟩ = some (.int .i64 A[j].key) ∧ w'.cell? ⟨wr.heap.size, 3, none⟩ = some (.bool A[j].is))
            ((refine hkC.out _ ?_; (first | exact hT.ks | exact hT.drew1.ks | exact hT.drew1.drew1.ks)))
            (first | (go_at_call 6; refine (hcoH.out _ hcd _ (by (first | exact hT.ks | exact hT.drew1.ks | exact hT.drew1.drew1.ks))).mono ?_; rintro e w' ⟨rfl, hbx⟩; have hT := S3.below (by (first | exact hT | exact hT.drew1 | exact hT.drew1.drew1)) hbx) | (go_at_call 10; refine (hcAH.out _ (hLa.out _ (by (first | exact hT.ks | exact hT.drew1.ks | exact hT.drew1.drew1.ks))).laid (by (first | exact hT.bk | exact hT.drew1.bk | exact hT.drew1.drew1.bk))).mono ?_; rintro e w' ⟨rfl, hbx, hB'⟩; have hT := S3.act (by (first | exact hT | exact hT.drew1 | exact hT.drew1.drew1)) hbx hB') | (go_at_call 11; refine (hcRH.out _ (by (first | exact hT.rf | exact hT.drew1.rf | exact hT.drew1.drew1.rf))).mono ?_; rintro e w' ⟨rfl, hbx, hR'⟩; have hT := S3.ref (by (first | exact hT | exact hT.drew1 | exact hT.drew1.drew1)) hbx hR'))
          all_goals
            go_wp2_with fail
            go_meet
            have hT2 : S3 b r base W _ L' L' := (by (first | exact hT | exact hT.drew1))
            exact ⟨L', rfl, Lib.hid ⟨hT2.bk, hT2.rf, hgd1.out⟩, Lib.hid (hKa.out _ hT2.ks)⟩

        have k1b : ((bs A[j].kind).toList == [97, 100, 100]) = false := acts_bs_false (d := [97, 100, 100]) k1
        by_cases k2 : bs A[j].kind = ⟨#[114, 101, 107, 101, 121]⟩
        · have k2b : (bs A[j].kind == ⟨#[114, 101, 107, 101, 121]⟩) = true := by rw [k2]; rfl
          have hgd := rekey_good hG.out A[j].name A[j].key
          have hcA := fun wx (hLx : Laid E wx) (hBx : BookAt wx b r L) => rekey_any b r L A[j].name A[j].key wx hLx hBx hep
          have hcR := fun wx (hRx : RefAt wx base base L) => rekeyR_any base base L A[j].name A[j].key wx hRx hso hm20 hep
          generalize rekeyOf L A[j].name A[j].key = q at *
          obtain ⟨cd, L'⟩ := q
          dsimp only at hgd hcA hcR
          obtain ⟨hgd1, _, _, hcd⟩ := hgd
          have hcAH := Lib.hid hcA
          have hcRH := Lib.hid hcR
          have hgd1 := Lib.hid hgd1
          clear hcA hcR
          have hT : S3 b r base W W L L := ⟨hB6, hR6, hS⟩
          go_wp2_with fail
          go_region_held3 (fun w' => Keeps (ActW r base W) W w' ∧ w'.cell? ⟨wr.heap.size, 1, none⟩ = some (.string (bs A[j].name)) ∧ w'.cell? ⟨wr.heap.size, 2, none⟩ = some (.int .i64 A[j].key) ∧ w'.cell? ⟨wr.heap.size, 3, none⟩ = some (.bool A[j].is))
            ((refine hkC.out _ ?_; (first | exact hT.ks | exact hT.drew1.ks | exact hT.drew1.drew1.ks)))
            (first | (go_at_call 6; refine (hcoH.out _ hcd _ (by (first | exact hT.ks | exact hT.drew1.ks | exact hT.drew1.drew1.ks))).mono ?_; rintro e w' ⟨rfl, hbx⟩; have hT := S3.below (by (first | exact hT | exact hT.drew1 | exact hT.drew1.drew1)) hbx) | (go_at_call 12; refine (hcAH.out _ (hLa.out _ (by (first | exact hT.ks | exact hT.drew1.ks | exact hT.drew1.drew1.ks))).laid (by (first | exact hT.bk | exact hT.drew1.bk | exact hT.drew1.drew1.bk))).mono ?_; rintro e w' ⟨rfl, hbx, hB'⟩; have hT := S3.act (by (first | exact hT | exact hT.drew1 | exact hT.drew1.drew1)) hbx hB') | (go_at_call 13; refine (hcRH.out _ (by (first | exact hT.rf | exact hT.drew1.rf | exact hT.drew1.drew1.rf))).mono ?_; rintro e w' ⟨rfl, hbx, hR'⟩; have hT := S3.ref (by (first | exact hT | exact hT.drew1 | exact hT.drew1.drew1)) hbx hR'))
          all_goals
            go_wp2_with fail
            go_meet
            have hT2 : S3 b r base W _ L' L' := (by (first | exact hT | exact hT.drew1))
            exact ⟨L', rfl, Lib.hid ⟨hT2.bk, hT2.rf, hgd1.out⟩, Lib.hid (hKa.out _ hT2.ks)⟩

        have k2b : ((bs A[j].kind).toList == [114, 101, 107, 101, 121]) = false := acts_bs_false (d := [114, 101, 107, 101, 121]) k2
        by_cases k3 : bs A[j].kind = ⟨#[114, 97, 105, 115, 101]⟩
        · have k3b : (bs A[j].kind == ⟨#[114, 97, 105, 115, 101]⟩) = true := by rw [k3]; rfl
          have hgd := raise_good hG.out A[j].name
          have hcA := raise_any (E := E) b r L A[j].name W (hLa.out _ hS).laid hB6 hep
          have hcR := fun wx (hRx : RefAt wx base base L) => raiseR_any base base L A[j].name wx hRx hso hm20 hep
          generalize raiseOf L A[j].name = q at *
          obtain ⟨ep', cd, L'⟩ := q
          dsimp only at hgd hcA hcR
          obtain ⟨hgd1, _, _, hcd⟩ := hgd
          have hcAH := Lib.hid hcA
          have hcRH := Lib.hid hcR
          have hgd1 := Lib.hid hgd1
          clear hcA hcR
          go_wp2_with fail
          refine hcAH.out.mono ?_
          rintro e w5 ⟨rfl, hbx, hB7⟩
          have hR7 := RefAt.actB hR6 hB6 hbx
          have hS5 := actW_book hS hbx
          obtain ⟨_, d1, _, _⟩ := hkC.out _ hS5
          go_wp2_with fail
          refine (hcRH.out _ hR7).mono ?_
          rintro e w6 ⟨rfl, hbx2, hR8⟩
          have hB8 := BookAt.actR hB7 hbx2
          have hS6 := actW_ref hS5 hbx2
          go_wp2_with fail
          refine (hcoH.out _ hcd _ hS6).mono ?_
          rintro e w7 ⟨rfl, hbx3⟩
          have hB9 := hB8.below hbx3
          have hR9 := hR8.below hbx3
          have hS7 := actW_below hS6 hbx3
          go_wp2_with fail
          go_meet
          exact ⟨L', rfl, Lib.hid ⟨hB9, hR9, hgd1.out⟩, Lib.hid (hKa.out _ hS7)⟩

        have k3b : ((bs A[j].kind).toList == [114, 97, 105, 115, 101]) = false := acts_bs_false (d := [114, 97, 105, 115, 101]) k3
        have hgd := off_good hG.out A[j].name A[j].is
        have hcA := fun wx (hLx : Laid E wx) (hBx : BookAt wx b r L) => off_any b r L A[j].name A[j].is wx hLx hBx
        have hcR := fun wx (hRx : RefAt wx base base L) => offR_any base base L A[j].name A[j].is wx hRx hso hm20
        generalize offOf L A[j].name A[j].is = q at *
        obtain ⟨cd, L'⟩ := q
        dsimp only at hgd hcA hcR
        obtain ⟨hgd1, _, _, hcd⟩ := hgd
        have hcAH := Lib.hid hcA
        have hcRH := Lib.hid hcR
        have hgd1 := Lib.hid hgd1
        clear hcA hcR
        have hT : S3 b r base W W L L := ⟨hB6, hR6, hS⟩
        go_wp2_with fail
        go_region_held3 (fun w' => Keeps (ActW r base W) W w' ∧ w'.cell? ⟨wr.heap.size, 1, none⟩ = some (.string (bs A[j].name)) ∧ w'.cell? ⟨wr.heap.size, 2, none⟩ = some (.int .i64 A[j].key) ∧ w'.cell? ⟨wr.heap.size, 3, none⟩ = some (.bool A[j].is))
          ((refine hkC.out _ ?_; (first | exact hT.ks | exact hT.drew1.ks | exact hT.drew1.drew1.ks)))
          (first | (go_at_call 6; refine (hcoH.out _ hcd _ (by (first | exact hT.ks | exact hT.drew1.ks | exact hT.drew1.drew1.ks))).mono ?_; rintro e w' ⟨rfl, hbx⟩; have hT := S3.below (by (first | exact hT | exact hT.drew1 | exact hT.drew1.drew1)) hbx) | (go_at_call 16; refine (hcAH.out _ (hLa.out _ (by (first | exact hT.ks | exact hT.drew1.ks | exact hT.drew1.drew1.ks))).laid (by (first | exact hT.bk | exact hT.drew1.bk | exact hT.drew1.drew1.bk))).mono ?_; rintro e w' ⟨rfl, hbx, hB'⟩; have hT := S3.act (by (first | exact hT | exact hT.drew1 | exact hT.drew1.drew1)) hbx hB') | (go_at_call 17; refine (hcRH.out _ (by (first | exact hT.rf | exact hT.drew1.rf | exact hT.drew1.drew1.rf))).mono ?_; rintro e w' ⟨rfl, hbx, hR'⟩; have hT := S3.ref (by (first | exact hT | exact hT.drew1 | exact hT.drew1.drew1)) hbx hR'))
        all_goals
          go_wp2_with fail
          go_meet
          have hT2 : S3 b r base W _ L' L' := (by (first | exact hT | exact hT.drew1))
          exact ⟨L', rfl, Lib.hid ⟨hT2.bk, hT2.rf, hgd1.out⟩, Lib.hid (hKa.out _ hT2.ks)⟩

      case rest =>
        obtain ⟨L', rfl, hR, hk⟩ := hcut
        clear g0 g1 g2 g3 hLa hKa hkA hkC hB6 hR6
        go_wp2_with fail
        go_roundg (A.length - j)
        case measure => omega
        case rel => exact ⟨j + 1, L', by simp, hlt, by omega, hR, hk⟩
    · have hge : ¬ ((j : Int) < (A.length : Int)) := by omega
      obtain ⟨hB, hR, hG⟩ := hBG.out
      have hrowR := Lib.hid ((hK.out.block w.heap.size (Nat.lt_of_lt_of_le (Nat.lt_of_lt_of_le (Array.getElem?_eq_some_iff.1 hrow2.out).1 hb3.out.size) (Nat.le_refl _))).trans (heap_down hb3.out hrow2.out))
      have hLr := Lib.hid (hL2.out.below (hb3.out.trans (hK.out.mono hb3.out.size)))
      have hKr := Lib.hid (hb3x.out.trans (hK.out.mono hb3x.out.size))
      have hm20 : L.length ≤ 20 := hG.many
      have hnm : ∀ p ∈ L, p.name.length ≤ maxLen := fun p hp => by have := ((isName_iff _).1 (hG.name p hp)).2.1; unfold maxLen; omega
      have hget := Lib.hid (get_any (E := E) b r L pn wr hLr.out.laid hB)
      have hBH := Lib.hid hB
      have hRH := Lib.hid hR
      have hco5 := Lib.hid (fun wx (hx : Below wr.heap.size wr wx) => coded_same (E := E) 5 wx (hLr.out.below hx) (by decide))
      have r0 : wr.cell? ⟨w.heap.size, 0, none⟩ = some (.string (bs pn)) := by rw [cell_of_row _ _ _ _ _ _ hrowR.out]; rfl
      have hall := Lib.hid (fun (bb rr : Nat) wx (hBx : BookAt wx bb rr L) => all_any bb rr L wx hBx hnm hm20)
      have hfi := Lib.hid (fun wx (hx : Below wr.heap.size wr wx) => findR_any base base L pn wx (hR.below hx) (by omega))
      have hcp := Lib.hid (fun wx (hx : Below wr.heap.size wr wx) => copy_any b r L wx (hB.below hx))
      clear hBG hB hR hG hg hj ha hK
      cases hix : idxP L pn with
      | none =>
        have hfn := (idxP_none hix).1
        rw [findIx_none hix] at hfi
        clear hix
        go_wp2_with fail
        refine hget.out.mono ?_
        rintro e w5 ⟨⟨p', hp', rfl⟩ | ⟨_, rfl⟩, hb5⟩
        · rw [hfn] at hp'; cases hp'
        simp only [errV]
        have hA5 := (Below.refl w5.heap.size w5).alloc (Nat.le_refl _) (.cells #[.string ⟨#[]⟩, .int .i64 0, .int .i64 0, .bool false] 24)
        have hrow5 := Lib.hid (heap_alloc_new w5 (.cells #[.string ⟨#[]⟩, .int .i64 0, .int .i64 0, .bool false] 24))
        have hb6 := below_trans hb5 hA5
        have r0 := cell_below hb6 r0
        have hfi6 := Lib.hid (hfi.out _ hb6)
        have hb5 := Lib.hid hb5
        have hb6 := Lib.hid hb6
        go_wp2_with fail
        refine hfi6.out.mono ?_
        rintro e w7 ⟨rfl, hb7⟩
        have hrow7 := Lib.hid (heap_down hb7 hrow5.out)
        have hb7 := Lib.hid (below_trans hb6.out hb7)
        have hcp7 := Lib.hid (hcp.out _ hb7.out)
        go_wp2_with fail
        refine hcp7.out.mono ?_
        rintro e w8 ⟨b2, r2, rfl, hB2, hb8⟩
        have hrow8 := Lib.hid (heap_down hb8 hrow7.out)
        have hb8 := below_trans hb7.out hb8
        have hB8 := hBH.out.below hb8
        have hR8 := hRH.out.below hb8
        obtain ⟨mv, hmc, hown, _, _⟩ := hR8.at0
        have hPm := (persAt_of_ownsRow (by unfold maxLen; omega) hown).1
        have hbb := Lib.hid (show ∀ q, q = b ∨ q = b2 → ∃ rr, BookAt w8 q rr L from fun q hq => by
          rcases hq with rfl | rfl
          · exact ⟨r, hB8⟩
          · exact ⟨r2, hB2⟩)
        have hAll := Lib.hid (fun (q : Nat) wx (hq : q = b ∨ q = b2) (hx : Below w8.heap.size w8 wx) => (show Calls Tryz.prog 22 #[.pointer (some ⟨q, 0, none⟩)] wx fun e w' => ∃ v, e = .returned v ∧ PersAt w' v L ∧ Below wx.heap.size wx w' from by
          obtain ⟨rr, hq2⟩ := hbb.out q hq
          exact (hall.out q rr wx (hq2.below hx)).mono fun e w' ⟨v, h1, h2, _, h3⟩ => ⟨v, h1, h2, h3⟩))
        have hSame := Lib.hid (fun (v : Value) wx (hv : PersAt wx v L) (hx : Below w8.heap.size w8 wx) => same_any v mv L wx hv (hPm.below hx))
        have hkM := Lib.hid (fun (wx : World) (hx : Below w8.heap.size w8 wx) => (show Below w8.heap.size w8 wx ∧ wx.cell? ⟨base, 0, none⟩ = some mv from ⟨hx, cell_below hx hmc⟩))
        have hS : Below w8.heap.size w8 w8 := Below.refl _ _
        have hPm := Lib.hid hPm
        have hb8 := Lib.hid hb8
        clear hB2 hB8 hR8 hown hmc
        go_wp2_with fail
        go_region_held3 (fun w' => Below w8.heap.size w8 w' ∧ w'.cell? ⟨base, 0, none⟩ = some mv)
          ((refine hkM.out _ ?_; (first | exact hS | exact hS.drew | exact hS.drew.drew)))
          (first | (go_at_call 22; refine (hAll.out _ _ (by (first | exact Or.inl rfl | exact Or.inr rfl)) (by (first | exact hS | exact hS.drew | exact hS.drew.drew))).mono ?_; rintro e w' ⟨v, rfl, hv, hbx⟩; have hS : Below w8.heap.size w8 w' := below_trans (by (first | exact hS | exact hS.drew | exact hS.drew.drew)) hbx) | (go_at_call 21; refine (hSame.out _ _ (by (first | exact hv | exact hv.drew1 | exact hv.drew1.drew1)) (by (first | exact hS | exact hS.drew | exact hS.drew.drew))).mono ?_; rintro e w' ⟨rfl, hbx⟩; have hS : Below w8.heap.size w8 w' := below_trans (by (first | exact hS | exact hS.drew | exact hS.drew.drew)) hbx))
        all_goals
          have hS9 : Below w8.heap.size w8 _ := (by (first | exact hS | exact hS.drew | exact hS.drew.drew))
          have hb9 := below_trans hb8.out hS9
          have hrow9 := heap_down hS9 hrow8.out
          have z0 : World.cell? _ ⟨w5.heap.size, 0, none⟩ = some (.string ⟨#[]⟩) := (cell_of_row _ _ _ _ _ _ hrow9).trans rfl
          have z1 : World.cell? _ ⟨w5.heap.size, 1, none⟩ = some (.int .i64 0) := (cell_of_row _ _ _ _ _ _ hrow9).trans rfl
          have z2 : World.cell? _ ⟨w5.heap.size, 2, none⟩ = some (.int .i64 0) := (cell_of_row _ _ _ _ _ _ hrow9).trans rfl
          have z3 : World.cell? _ ⟨w5.heap.size, 3, none⟩ = some (.bool false) := (cell_of_row _ _ _ _ _ _ hrow9).trans rfl
          have hb9 := Lib.hid hb9
          go_wp2_with fail
          refine (hco5.out _ hb9.out).mono ?_
          rintro e w10 ⟨rfl, hb10⟩
          have z0 := cell_below hb10 z0
          have z1 := cell_below hb10 z1
          have z2 := cell_below hb10 z2
          have z3 := cell_below hb10 z3
          have hfin := Lib.hid (hKr.out.trans ((below_trans hb9.out hb10).mono hKr.out.size))
          go_wp2_with fail
          go_ret
          exact ⟨rfl, hfin.out⟩
      | some k =>
        obtain ⟨hk, hfn, hnk⟩ := idxP_some hix
        rw [findIx_some hix] at hfi
        have hper := Lib.hid (fun (v : Value) wx (hv : PersAt wx v L) => (show ∃ a c bq oq, v = .slice a L.length c ∧ a = some ⟨bq, oq, none⟩ ∧ wx.cell? ⟨bq, oq + k * 4, none⟩ = some (.string (bs L[k].name)) ∧ wx.cell? ⟨bq, oq + k * 4 + 1, none⟩ = some (.int .i64 L[k].key) ∧ wx.cell? ⟨bq, oq + k * 4 + 2, none⟩ = some (.int .i64 L[k].epoch) ∧ wx.cell? ⟨bq, oq + k * 4 + 3, none⟩ = some (.bool L[k].off) from by
          obtain ⟨a, c, h1, _, h2⟩ := hv
          obtain ⟨bq, oq, h3, h4⟩ := h2 k hk
          exact ⟨a, c, bq, oq, h1, h3, h4⟩))
        have hk0 : (0 : Int) ≤ (k : Int) := by omega
        have hk1 : (k : Int) < (L.length : Int) := by omega
        generalize L[k] = pq at *
        obtain ⟨nm, ky, ep, of'⟩ := pq
        dsimp only at hper
        have hfn := Lib.hid hfn
        clear hix hnk
        go_wp2_with fail
        refine hget.out.mono ?_
        rintro e w5 ⟨⟨p', hp', rfl⟩ | ⟨hp', _⟩, hb5⟩
        case inr => rw [hfn.out] at hp'; cases hp'
        rw [hfn.out] at hp'
        obtain rfl := Option.some.inj hp'
        clear hp'
        have hA5 := (Below.refl w5.heap.size w5).alloc (Nat.le_refl _) (.cells #[.string (bs nm), .int .i64 ky, .int .i64 ep, .bool of'] 24)
        have hrow5 := Lib.hid (heap_alloc_new w5 (.cells #[.string (bs nm), .int .i64 ky, .int .i64 ep, .bool of'] 24))
        have hb6 := below_trans hb5 hA5
        have r0 := cell_below hb6 r0
        have hfi6 := Lib.hid (hfi.out _ hb6)
        have hb5 := Lib.hid hb5
        have hb6 := Lib.hid hb6
        go_wp2_with fail
        refine hfi6.out.mono ?_
        rintro e w7 ⟨rfl, hb7⟩
        have hrow7 := Lib.hid (heap_down hb7 hrow5.out)
        have hb7 := Lib.hid (below_trans hb6.out hb7)
        have hcp7 := Lib.hid (hcp.out _ hb7.out)
        go_wp2_with fail
        refine hcp7.out.mono ?_
        rintro e w8 ⟨b2, r2, rfl, hB2, hb8⟩
        have hrow8 := Lib.hid (heap_down hb8 hrow7.out)
        have hb8 := below_trans hb7.out hb8
        have hB8 := hBH.out.below hb8
        have hR8 := hRH.out.below hb8
        obtain ⟨mv, hmc, hown, _, _⟩ := hR8.at0
        have hPm := (persAt_of_ownsRow (by unfold maxLen; omega) hown).1
        have hbb := Lib.hid (show ∀ q, q = b ∨ q = b2 → ∃ rr, BookAt w8 q rr L from fun q hq => by
          rcases hq with rfl | rfl
          · exact ⟨r, hB8⟩
          · exact ⟨r2, hB2⟩)
        have hAll := Lib.hid (fun (q : Nat) wx (hq : q = b ∨ q = b2) (hx : Below w8.heap.size w8 wx) => (show Calls Tryz.prog 22 #[.pointer (some ⟨q, 0, none⟩)] wx fun e w' => ∃ v, e = .returned v ∧ PersAt w' v L ∧ Below wx.heap.size wx w' from by
          obtain ⟨rr, hq2⟩ := hbb.out q hq
          exact (hall.out q rr wx (hq2.below hx)).mono fun e w' ⟨v, h1, h2, _, h3⟩ => ⟨v, h1, h2, h3⟩))
        have hSame := Lib.hid (fun (v : Value) wx (hv : PersAt wx v L) (hx : Below w8.heap.size w8 wx) => same_any v mv L wx hv (hPm.below hx))
        have hkM := Lib.hid (fun (wx : World) (hx : Below w8.heap.size w8 wx) => (show Below w8.heap.size w8 wx ∧ wx.cell? ⟨base, 0, none⟩ = some mv from ⟨hx, cell_below hx hmc⟩))
        have hS : Below w8.heap.size w8 w8 := Below.refl _ _
        have hPm := Lib.hid hPm
        have hb8 := Lib.hid hb8
        clear hB2 hB8 hR8 hown hmc
        go_wp2_with fail
        go_region_held3 (fun w' => Below w8.heap.size w8 w' ∧ w'.cell? ⟨base, 0, none⟩ = some mv)
          ((refine hkM.out _ ?_; (first | exact hS | exact hS.drew | exact hS.drew.drew)))
          (first | (go_at_call 22; refine (hAll.out _ _ (by (first | exact Or.inl rfl | exact Or.inr rfl)) (by (first | exact hS | exact hS.drew | exact hS.drew.drew))).mono ?_; rintro e w' ⟨v, rfl, hv, hbx⟩; have hS : Below w8.heap.size w8 w' := below_trans (by (first | exact hS | exact hS.drew | exact hS.drew.drew)) hbx) | (go_at_call 21; refine (hSame.out _ _ (by (first | exact hv | exact hv.drew1 | exact hv.drew1.drew1)) (by (first | exact hS | exact hS.drew | exact hS.drew.drew))).mono ?_; rintro e w' ⟨rfl, hbx⟩; have hS : Below w8.heap.size w8 w' := below_trans (by (first | exact hS | exact hS.drew | exact hS.drew.drew)) hbx))
        all_goals
          have hS9 : Below w8.heap.size w8 _ := (by (first | exact hS | exact hS.drew | exact hS.drew.drew))
          have hb9 := below_trans hb8.out hS9
          have hrow9 := heap_down hS9 hrow8.out
          obtain ⟨am, cm, bq, oq, rfl, rfl, y0, y1, y2, y3⟩ := hper.out mv w8 hPm.out
          have y0 := cell_below hS9 y0
          have y1 := cell_below hS9 y1
          have y2 := cell_below hS9 y2
          have y3 := cell_below hS9 y3
          obtain ⟨_, ym⟩ := hkM.out _ hS9
          have z0 : World.cell? _ ⟨w5.heap.size, 0, none⟩ = some (.string (bs nm)) := (cell_of_row _ _ _ _ _ _ hrow9).trans rfl
          have z1 : World.cell? _ ⟨w5.heap.size, 1, none⟩ = some (.int .i64 ky) := (cell_of_row _ _ _ _ _ _ hrow9).trans rfl
          have z2 : World.cell? _ ⟨w5.heap.size, 2, none⟩ = some (.int .i64 ep) := (cell_of_row _ _ _ _ _ _ hrow9).trans rfl
          have z3 : World.cell? _ ⟨w5.heap.size, 3, none⟩ = some (.bool of') := (cell_of_row _ _ _ _ _ _ hrow9).trans rfl
          have hfin := Lib.hid (hKr.out.trans (hb9.mono hKr.out.size))
          have hkn : ¬ (k : Int) < 0 := by omega
          clear hb9 hrow9
          go_wp2_with fail
          go_quiet (fail)
          go_wp2_with fail
          go_ret
          exact ⟨rfl, below_drawn hfin.out _⟩
end Go.Proofs.YtjckllgbllmjjaaGreatDoor
