/- TapeActs, walked. -/
import Derived.Test.YtmjbhglmlbgkmaaDoorRefT2
import Derived.Test.YtmjbhglmlbgkmaaDoorWrArg
import Derived.Test.YtmjbhglmlbgkmaaDoorCodedS
import Derived.Test.YtmjbhglmlbgkmaaDoorLaid
import Derived.Deep.CutRange
import Derived.Deep.CutBlock
import Derived.Deep.LoopGhost
import Derived.Deep.RegionHeld3
namespace Go.Proofs.YtmjbhglmlbgkmaaDoor
open Go.RowKit Go.Sort

/-- The library's variables, and the sentinels with their rows. -/
structure LaidT (E : Nat → Addr) (w : World) : Prop where
  s : LaidS E w
  r : LaidR E w
theorem LaidT.below {E : Nat → Addr} {w w' : World} (h : LaidT E w) (hb : Below w.heap.size w w') : LaidT E w' := ⟨h.s.below hb, h.r.below hb⟩
/-- Both tapes, an act's box, and that nothing older changed. -/
structure S5 (base b tb : Nat) (w0 w : World) (p q : Dsk) : Prop where
  dk : DiskAt w base b p
  tp : TpAt w tb q
  bl : Below base w0 w
  sz : base ≤ w.heap.size
section
variable {base b tb : Nat} {w0 w w' : World} {p q p' q' : Dsk}
theorem TpAt.off_disk (h : TpAt w tb q) : ¬ DiskS base w tb := by
  rintro ⟨_, cs, T, z, h1, h2⟩
  rw [h] at h1
  injection h1 with h1
  injection h1 with _ h1 _
  subst h1
  revert h2
  decide
theorem S5.below (h : S5 base b tb w0 w p q) (hb : Below w.heap.size w w') : S5 base b tb w0 w' p q := ⟨h.dk.below hb, h.tp.below hb, h.bl.trans (hb.mono h.sz), Nat.le_trans h.sz hb.size⟩
theorem S5.drew1 (h : S5 base b tb w0 w p q) : S5 base b tb w0 w.drew p q := h.below (Below.refl _ _).drew
theorem S5.disk (h : S5 base b tb w0 w p q) (hk : Keeps (DiskS base w) w w') (hD : DiskAt w' base b p') : S5 base b tb w0 w' p' q :=
  ⟨hD, h.tp.keeps hk h.tp.off_disk, h.bl.trans (hk.below h.sz (fun _ h => h.lt)), Nat.le_trans h.sz hk.size⟩
theorem S5.tape (h : S5 base b tb w0 w p q) (ht : base ≤ tb) (hk : Keeps (· = tb) w w') (hT : TpAt w' tb q') : S5 base b tb w0 w' p q' :=
  ⟨h.dk.keeps hk (fun k hR e => h.tp.off_disk (by rw [← e]; exact hR)), hT, h.bl.trans (hk.below h.sz (fun k e => by rw [e]; exact ht)), Nat.le_trans h.sz hk.size⟩
end
/-- An act's box. -/
def WrBox (w : World) (g : Nat) (f : Wr) : Prop := w.heap[g]? = some (.cells #[.string (bs f.k), .string (bs f.s), .int .i64 f.n] 56 (0, 0))
theorem WrBox.cells {w : World} {g : Nat} {f : Wr} (h : WrBox w g f) : w.cell? ⟨g, 0, none⟩ = some (.string (bs f.k)) ∧ w.cell? ⟨g, 1, none⟩ = some (.string (bs f.s)) ∧ w.cell? ⟨g, 2, none⟩ = some (.int .i64 f.n) :=
  ⟨by rw [cell_of_row _ _ _ _ _ _ h]; rfl, by rw [cell_of_row _ _ _ _ _ _ h]; rfl, by rw [cell_of_row _ _ _ _ _ _ h]; rfl⟩
theorem WrBox.below {w w' : World} {g : Nat} {f : Wr} (h : WrBox w g f) (hb : Below w.heap.size w w') : WrBox w' g f := (Keeps.of_below (S := fun _ => False) hb).obj h id
theorem WrBox.disk {base : Nat} {w w' : World} {g : Nat} {f : Wr} (h : WrBox w g f) (hk : Keeps (DiskS base w) w w') : WrBox w' g f := hk.obj h (by
  rintro ⟨_, cs, T, z, h1, h2⟩
  unfold WrBox at h
  rw [h] at h1
  injection h1 with h1
  injection h1 with _ h1 _
  subst h1
  revert h2
  decide)
theorem WrBox.tape {w w' : World} {g tb : Nat} {f : Wr} {q : Dsk} (h : WrBox w g f) (hT : TpAt w tb q) (hk : Keeps (· = tb) w w') : WrBox w' g f := hk.obj h (by
  rintro rfl
  unfold WrBox at h
  unfold TpAt at hT
  rw [h] at hT
  injection hT with hT
  injection hT with _ hT _
  revert hT
  decide)
theorem S5.off_disk0 {base b tb : Nat} {w0 w : World} {p q : Dsk} (h : S5 base b tb w0 w p q) : b ≠ tb := fun e => by
  obtain ⟨hge, v, hv, _⟩ := h.dk
  have := h.tp
  unfold TpAt at this
  rw [e, this] at hv
  injection hv with hv
  injection hv with _ hv _
  revert hv
  decide
theorem TxRow.off_tape {w : World} {base tb : Nat} {v : Value} {L : List (List UInt8)} {q : Dsk} (h : TxRow w base v L) (hT : TpAt w tb q) : ∀ g, v.ownBlock = some g → ¬ g = tb := by
  rintro g hg rfl
  obtain ⟨_, cs, h3⟩ := ownsRow_block h hg
  unfold TpAt at hT
  rw [h3] at hT
  injection hT with hT
  injection hT with _ hT _
  revert hT
  decide
/-- Both tapes, and the act's box. -/
structure S6 (base b tb box : Nat) (f : Wr) (w0 w : World) (p q : Dsk) : Prop where
  s : S5 base b tb w0 w p q
  bx : WrBox w box f
section
variable {base b tb box : Nat} {f : Wr} {w0 w w' : World} {p q p' q' : Dsk}
theorem S6.below (h : S6 base b tb box f w0 w p q) (hb : Below w.heap.size w w') : S6 base b tb box f w0 w' p q := ⟨h.s.below hb, h.bx.below hb⟩
theorem S6.drew1 (h : S6 base b tb box f w0 w p q) : S6 base b tb box f w0 w.drew p q := h.below (Below.refl _ _).drew
theorem S6.disk (h : S6 base b tb box f w0 w p q) (hk : Keeps (DiskS base w) w w') (hD : DiskAt w' base b p') : S6 base b tb box f w0 w' p' q := ⟨h.s.disk hk hD, h.bx.disk hk⟩
theorem S6.tape (h : S6 base b tb box f w0 w p q) (ht : base ≤ tb) (hk : Keeps (· = tb) w w') (hT : TpAt w' tb q') : S6 base b tb box f w0 w' p q' := ⟨h.s.tape ht hk hT, h.bx.tape h.s.tp hk⟩
theorem S6.c1 (h : S6 base b tb box f w0 w p q) : w.cell? ⟨box, 1, none⟩ = some (.string (bs f.s)) := h.bx.cells.2.1
theorem S6.c2 (h : S6 base b tb box f w0 w p q) : w.cell? ⟨box, 2, none⟩ = some (.int .i64 f.n) := h.bx.cells.2.2
end
theorem read_len {b : List UInt8} (h : b.length ≤ 262144) : (readT b).length ≤ maxLen := by
  have := flatR_len (readT b)
  have := (readT_take b).1
  unfold maxLen
  omega
theorem kind_false {l d : List UInt8} (h : ¬ bs l = bs d) : ((bs l).toList == d) = false := by
  rw [toList_data, bs_list, beq_eq_false_iff_ne]
  intro e
  exact h (by rw [e])
theorem not_self (o : Bool) : ((!o) == o) = false := by cases o <;> rfl
set_option maxHeartbeats 16000000 in
set_option maxRecDepth 100000 in
theorem tapeActs_any {E : Nat → Addr} (bl : List UInt8) (x : Value) (A : List Wr) (w : World) (hL : LaidT E w) (hbl : bl.length ≤ maxLen) (hx : WrsAt w x A) (hm : ∀ f ∈ A, f.s.length ≤ maxLen ∧ f.n ≤ 9223372036854775807) :
    Calls Tryd.prog 4 #[.string (bs bl), x] w fun e w' => e = .returned (.bool true) ∧ Below w.heap.size w w' := by
  have htp := Lib.hid (taped_any (E := E) w hL.s)
  have hlt := off_lt hL.s
  have hLH := Lib.hid hL
  have hxH := Lib.hid hx
  have hmH := Lib.hid hm
  have hszb := bs_size bl
  obtain ⟨a, c, rfl, hml, _, _⟩ := id hx
  unfold maxLen at hml hbl
  clear hx hm hL
  by_cases h2000 : 2000 < bl.length
  · have h2 : (2000 : Int) < (bl.length : Int) := by omega
    go_enter Tryd.func4, Tryd.ntmps4
    go_wp2_with fail
    refine htp.out.mono ?_
    rintro e w1 ⟨rfl, hb1⟩
    have hb1 := Lib.hid hb1
    go_wp2_with fail
    go_ret
    exact ⟨rfl, hb1.out⟩
  have h2 : ¬ (2000 : Int) < (bl.length : Int) := by omega
  by_cases h50 : 50 < A.length
  · have h5 : (50 : Int) < (A.length : Int) := by omega
    go_enter Tryd.func4, Tryd.ntmps4
    go_wp2_with fail
    refine htp.out.mono ?_
    rintro e w1 ⟨rfl, hb1⟩
    have hb1 := Lib.hid hb1
    go_wp2_with fail
    go_ret
    exact ⟨rfl, hb1.out⟩
  have h5 : ¬ (50 : Int) < (A.length : Int) := by omega
  go_enter Tryd.func4, Tryd.ntmps4
  go_wp2_with fail
  refine htp.out.mono ?_
  rintro e w1 ⟨rfl, hb1⟩
  have hnd := Lib.hid (newdisk_any bl w1 (by omega))
  have hb1 := Lib.hid hb1
  clear htp
  go_wp2_with fail
  refine hnd.out.mono ?_
  rintro e w2 ⟨b, rfl, hd2, hb2⟩
  have hA2 : Below w2.heap.size w2 (w2.alloc (.cells #[.string (bs bl), .bool false, .int .i64 (-1)] 54)) := (Below.refl _ _).alloc (Nat.le_refl _) _
  have hT0 : S5 w1.heap.size b w2.heap.size w1 (w2.alloc (.cells #[.string (bs bl), .bool false, .int .i64 (-1)] 54)) ⟨bl, false, -1⟩ ⟨bl, false, -1⟩ :=
    ⟨hd2.below hA2, heap_alloc_new w2 _, below_trans hb2 hA2, Nat.le_trans hb2.size (by rw [World.size_alloc]; omega)⟩
  have htb : w1.heap.size ≤ w2.heap.size := hb2.size
  have hT0 := Lib.hid hT0
  have hL1 := Lib.hid (hLH.out.below hb1.out)
  have hlt1 : 4 < w1.heap.size := Nat.lt_of_lt_of_le hlt hb1.out.size
  have hok0 := Lib.hid (show DskOk ⟨bl, false, -1⟩ from ⟨by dsimp only; omega, show (-1 : Int) ≤ 9223372036854775807 by decide⟩)
  clear hnd hd2 hb2 hA2 hlt
  go_wp2_with fail
  generalize hbs : w1.heap.size = base at *
  have hbs1 : base ≤ w1.heap.size := by omega
  have hbs2 : w1.heap.size ≤ base := by omega
  clear hbs
  generalize w2.heap.size = tb at *
  go_loopg [9] (A.length + 1) (fun g i wr => ∃ (j : Nat) (d : Dsk), i = .int .i64 j ∧ j ≤ A.length ∧ A.length - j + 1 ≤ g ∧ Hid (S5 base b tb w1 wr d d ∧ DskOk d))
  case atStart => exact ⟨0, ⟨bl, false, -1⟩, rfl, Nat.zero_le _, by omega, Lib.hid ⟨hT0.out, hok0.out⟩⟩
  case round =>
    obtain ⟨j, d, rfl, hj, hg, hTG⟩ := hrel
    by_cases hlt2 : j < A.length
    · obtain ⟨_, _, he, _, _, hcx⟩ := hxH.out
      cases he
      obtain ⟨bx, ox, rfl, h0, h1, h2w⟩ := hcx j hlt2
      have hmj := hmH.out _ (List.getElem_mem hlt2)
      obtain ⟨f, hfd⟩ : ∃ f, A[j] = f := ⟨_, rfl⟩
      rw [hfd] at h0 h1 h2w hmj
      clear hcx hfd
      obtain ⟨hT, hok⟩ := hTG.out
      have hdown := fun (i : Nat) (v : Value) (h : w.cell? ⟨bx, i, none⟩ = some v) => (show wr.cell? ⟨bx, i, none⟩ = some v from by
        have h := cell_below hb1.out h
        exact (hT.bl.cell (p := ⟨bx, i, none⟩) (Nat.lt_of_lt_of_le (World.block_lt_of_cell? w1 _ h) hbs2)).trans h)
      have h0 := hdown _ _ h0
      have h1 := hdown _ _ h1
      have h2w := hdown _ _ h2w
      have hk0 : (0 : Int) ≤ (j : Int) := by omega
      have hk1 : (j : Int) < (A.length : Int) := by omega
      have hbox := heap_alloc_new wr (.cells #[.string (bs f.k), .string (bs f.s), .int .i64 f.n] 56)
      have hT1 : S5 base b tb w1 (wr.alloc (.cells #[.string (bs f.k), .string (bs f.s), .int .i64 f.n] 56)) d d := hT.below ((Below.refl _ _).alloc (Nat.le_refl _) _)
      have hokH := Lib.hid hok
      clear hdown hTG hT hok
      obtain ⟨fk, fs, fn⟩ := f
      dsimp only at h0 h1 h2w hmj hbox hT1
      obtain ⟨hms, hmn⟩ := hmj
      have hszs := bs_size fs
      unfold maxLen at hms
      have hbx : WrBox (wr.alloc (.cells #[.string (bs fk), .string (bs fs), .int .i64 fn] 56)) wr.heap.size ⟨fk, fs, fn⟩ := hbox
      have hbx := Lib.hid hbx
      have hT1 := Lib.hid hT1
      clear hbox
      by_cases hlong : 200 < fs.length ∧ fs.length ≠ 4001
      · have hfin := Lib.hid (below_trans hb1.out (hT1.out.bl.mono hbs2))
        obtain ⟨hl1, hl2⟩ := hlong
        have hl1 : (200 : Int) < (fs.length : Int) := by omega
        have hl2 : ((fs.length : Int) != 4001) = true := by rw [bne_iff_ne]; omega
        go_wp2_with fail
        go_ret
        exact ⟨rfl, hfin.out⟩
      have hlor : (fs.length ≤ 200) ∨ fs.length = 4001 := by omega
      go_upto_region 12 with fail
      go_cut [65] from 46 to 132 (fun s65 wx => s65 = .bool false ∧ wx = wr.alloc (.cells #[.string (bs fk), .string (bs fs), .int .i64 fn] 56))
      case first =>
        rcases hlor with h | h
        · have hl1 : ¬ (200 : Int) < (fs.length : Int) := by omega
          clear hlong h
          go_wp2_with fail
          go_meet
          exact ⟨rfl, rfl⟩
        · have hl2 : ((fs.length : Int) != 4001) = false := by rw [h]; rfl
          have hl1 : (200 : Int) < (fs.length : Int) := by omega
          clear hlong h
          go_wp2_with fail
          go_meet
          exact ⟨rfl, rfl⟩
      obtain ⟨rfl, rfl⟩ := hcut
      obtain ⟨g0, g1, g2⟩ := hbx.out.cells
      clear h0 h1 h2w hlong hlor
      generalize hbd : wr.heap.size = box at *
      generalize wr.alloc (.cells #[.string (bs fk), .string (bs fs), .int .i64 fn] 56) = W at *
      clear hbd
      have hT6 : S6 base b tb box ⟨fk, fs, fn⟩ w1 W d d := ⟨hT1.out, hbx.out⟩
      have hLw := Lib.hid (fun wx (h : Below base w1 wx) => hL1.out.below (h.mono hbs2))
      clear hbx hT1
      go_upto_block 2 with fail
      go_cut [10] from 46 to 132 (fun s10 wx => s10 = .pointer (some ⟨box, 0, none⟩) ∧ ∃ d' : Dsk, Hid (S5 base b tb w1 wx d' d' ∧ DskOk d'))
      case first =>
        have hcC : ∀ (cd : Nat) (_ : cd ≤ 16) (wx : World) (p q : Dsk), S6 base b tb box ⟨fk, fs, fn⟩ w1 wx p q → Calls Tryd.prog 20 #[errV E cd, .int .i64 (cd : Int)] wx fun e w' => e = .returned (.bool true) ∧ S6 base b tb box ⟨fk, fs, fn⟩ w1 w' p q := fun cd hcd wx p q hT =>
          (coded_same (E := E) cd wx (hLw.out _ hT.s.bl).r hcd).mono fun e w' ⟨he, hb⟩ => ⟨he, hT.below hb⟩
        have hcC := Lib.hid hcC
        by_cases k1 : bs fk = ⟨#[97, 112, 112, 101, 110, 100]⟩
        · have k1b : (bs fk == ⟨#[97, 112, 112, 101, 110, 100]⟩) = true := by rw [k1]; rfl
          have hao := append_ok hokH.out fs
          have hcA : ∀ (wx : World) (q : Dsk), S6 base b tb box ⟨fk, fs, fn⟩ w1 wx d q → Calls Tryd.prog 21 #[.pointer (some ⟨b, 0, none⟩), .string (bs fs)] wx fun e w' => e = .returned (errV E (appendD d fs).1) ∧ S6 base b tb box ⟨fk, fs, fn⟩ w1 w' (appendD d fs).2 q := fun wx q hT =>
            (append_any (E := E) base b d fs wx (hLw.out _ hT.s.bl).s hT.s.dk (by unfold maxLen; omega) hokH.out.b hT.s.sz hlt1 hokH.out.cut).mono fun e w' ⟨he, hk, hD⟩ => ⟨he, hT.disk hk hD⟩
          have hcR : ∀ (wx : World) (p : Dsk), S6 base b tb box ⟨fk, fs, fn⟩ w1 wx p d → Calls Tryd.prog 22 #[.pointer (some ⟨tb, 0, none⟩), .string (bs fs)] wx fun e w' => e = .returned (.int .i64 ((appendD d fs).1 : Nat)) ∧ S6 base b tb box ⟨fk, fs, fn⟩ w1 w' p (appendD d fs).2 := fun wx p hT =>
            (appendR_any tb d fs wx hT.s.tp (by unfold maxLen; omega) hokH.out).mono fun e w' ⟨he, hk, hR⟩ => ⟨he, hT.tape htb hk hR⟩
          generalize appendD d fs = q at *
          obtain ⟨cd, d'⟩ := q
          dsimp only at hao hcA hcR
          obtain ⟨hao, hcd⟩ := hao
          have hcA := Lib.hid hcA
          have hcR := Lib.hid hcR
          have hao := Lib.hid hao
          have hcC := Lib.hid (hcC.out cd hcd)
          have hT := hT6
          clear hT6
          go_wp2_with fail
          go_region_held3 (fun w' => w'.cell? ⟨box, 1, none⟩ = some (.string (bs fs)))
            ((first | exact hT.c1 | exact hT.drew1.c1))
            (first | (go_at_call 21; refine (hcA.out _ _ (by (first | exact hT | exact hT.drew1))).mono ?_; rintro e w' ⟨rfl, hT⟩) | (go_at_call 22; refine (hcR.out _ _ (by (first | exact hT | exact hT.drew1))).mono ?_; rintro e w' ⟨rfl, hT⟩) | (go_at_call 20; refine (hcC.out _ _ _ (by (first | exact hT | exact hT.drew1))).mono ?_; rintro e w' ⟨rfl, hT⟩))
          all_goals
            go_wp2_with fail
            go_meet
            exact ⟨rfl, d', Lib.hid ⟨(by (first | exact hT.s | exact hT.drew1.s)), hao.out⟩⟩
        have k1b : ((bs fk).toList == [97, 112, 112, 101, 110, 100]) = false := kind_false (d := [97, 112, 112, 101, 110, 100]) k1
        by_cases k2 : bs fk = ⟨#[99, 117, 116]⟩
        · have k2b : (bs fk == ⟨#[99, 117, 116]⟩) = true := by rw [k2]; rfl
          have hao := setcut_ok hokH.out hmn
          have hcA : ∀ (wx : World) (q : Dsk), S6 base b tb box ⟨fk, fs, fn⟩ w1 wx d q → Calls Tryd.prog 23 #[.pointer (some ⟨b, 0, none⟩), .int .i64 fn] wx fun e w' => e = .returned (errV E (setCutD d fn).1) ∧ S6 base b tb box ⟨fk, fs, fn⟩ w1 w' (setCutD d fn).2 q := fun wx q hT =>
            (setcut_any (E := E) base b d fn wx (hLw.out _ hT.s.bl).s.laid hT.s.dk).mono fun e w' ⟨he, hk, hD⟩ => ⟨he, hT.disk hk hD⟩
          have hcR : ∀ (wx : World) (p : Dsk), S6 base b tb box ⟨fk, fs, fn⟩ w1 wx p d → Calls Tryd.prog 24 #[.pointer (some ⟨tb, 0, none⟩), .int .i64 fn] wx fun e w' => e = .returned (.int .i64 ((setCutD d fn).1 : Nat)) ∧ S6 base b tb box ⟨fk, fs, fn⟩ w1 w' p (setCutD d fn).2 := fun wx p hT =>
            (setcutR_any tb d fn wx hT.s.tp).mono fun e w' ⟨he, hk, hR⟩ => ⟨he, hT.tape htb hk hR⟩
          generalize setCutD d fn = q at *
          obtain ⟨cd, d'⟩ := q
          dsimp only at hao hcA hcR
          obtain ⟨hao, hcd⟩ := hao
          have hcA := Lib.hid hcA
          have hcR := Lib.hid hcR
          have hao := Lib.hid hao
          have hcC := Lib.hid (hcC.out cd hcd)
          have hT := hT6
          clear hT6 k1
          go_wp2_with fail
          go_region_held3 (fun w' => w'.cell? ⟨box, 2, none⟩ = some (.int .i64 fn))
            ((first | exact hT.c2 | exact hT.drew1.c2))
            (first | (go_at_call 23; refine (hcA.out _ _ (by (first | exact hT | exact hT.drew1))).mono ?_; rintro e w' ⟨rfl, hT⟩) | (go_at_call 24; refine (hcR.out _ _ (by (first | exact hT | exact hT.drew1))).mono ?_; rintro e w' ⟨rfl, hT⟩) | (go_at_call 20; refine (hcC.out _ _ _ (by (first | exact hT | exact hT.drew1))).mono ?_; rintro e w' ⟨rfl, hT⟩))
          all_goals
            go_wp2_with fail
            go_meet
            exact ⟨rfl, d', Lib.hid ⟨(by (first | exact hT.s | exact hT.drew1.s)), hao.out⟩⟩
        have k2b : ((bs fk).toList == [99, 117, 116]) = false := kind_false (d := [99, 117, 116]) k2
        by_cases k3 : bs fk = ⟨#[111, 110]⟩
        · have k3b : (bs fk == ⟨#[111, 110]⟩) = true := by rw [k3]; rfl
          have hao := Lib.hid (on_ok hokH.out)
          have hon := Lib.hid (on_any base b d W hT6.s.dk)
          have hTH := Lib.hid hT6
          clear hT6 k1 k2 hcC
          go_wp2_with fail
          refine hon.out.mono ?_
          rintro e w5 ⟨rfl, hk5, hd5⟩
          have hT5 := hTH.out.disk hk5 hd5
          have hT7 := Lib.hid (hT5.s.tape htb ((keeps_set w5 tb 1 (.bool false)).trans (keeps_set _ tb 2 (.int .i64 (-1)))) ((hT5.s.tp.set1 false).set2 (-1)))
          obtain ⟨m0, m1, m2, hfz⟩ := hT5.s.tp.cells
          have hf1 := hfz 1
          have hf2 := hfz 2
          clear hfz hk5 hd5 hT5 hon
          go_wp2_with fail
          go_meet
          exact ⟨rfl, onD d, Lib.hid ⟨hT7.out, hao.out⟩⟩
        have k3b : ((bs fk).toList == [111, 110]) = false := kind_false (d := [111, 110]) k3
        have hao := Lib.hid (recover_ok hokH.out)
        have hrl := Lib.hid (read_len hokH.out.b)
        have hre := recover_any (E := E) base b d W (hLw.out _ hT6.s.bl).s hT6.s.dk (by have := hokH.out.b; omega) hT6.s.sz (fun wx hk => hL1.out.s.disk hbs2 hT6.s.bl hk hT6.s.sz) (readT_take d.b)
        have hre := Lib.hid hre
        have hTH := Lib.hid hT6
        clear hT6 k1 k2 k3 hcC
        go_wp2_with fail
        refine hre.out.mono ?_
        rintro e w5 ⟨v5, rfl, hrow5, hk5, hd5⟩
        have hT5 := hTH.out.disk hk5 hd5
        have hrow5 := Lib.hid hrow5
        obtain ⟨a5, c5, hv5⟩ := hrow5.out.sl
        subst hv5
        have hre5 := Lib.hid (recoverR_any tb d w5 hT5.s.tp hokH.out)
        have hT5 := Lib.hid hT5
        clear hre hk5 hd5
        go_wp2_with fail
        refine hre5.out.mono ?_
        rintro e w6 ⟨v6, rfl, hrow6, hk6, ht6⟩
        have hrow56 := hrow5.out.keeps hk6 (hrow5.out.off_tape hT5.out.s.tp)
        have hT6 := hT5.out.tape htb hk6 ht6
        obtain ⟨a6, c6, hv6⟩ := hrow6.sl
        subst hv6
        have hsm := Lib.hid (sameTexts_any _ _ _ _ w6 (hrow56.at_ hrl.out) (hrow6.at_ hrl.out))
        have hT6 := Lib.hid hT6
        clear hre5 hk6 ht6 hrow6 hrow56 hrow5
        go_wp2_with fail
        refine hsm.out.mono ?_
        rintro e w7 ⟨rfl, hb7⟩
        have hT7 := Lib.hid (hT6.out.below hb7).s
        clear hb7 hsm
        go_wp2_with fail
        go_meet
        exact ⟨rfl, recoverD d, Lib.hid ⟨hT7.out, hao.out⟩⟩
      obtain ⟨rfl, d', hTG⟩ := hcut
      clear hT6 hokH g0 g1 g2 hLw
      obtain ⟨db, dof, dcu⟩ := d'
      obtain ⟨m0, m1, _, _⟩ := hTG.out.1.tp.cells
      dsimp only at m0 m1
      have hby := Lib.hid (fun (wx : World) (h : S5 base b tb w1 wx ⟨db, dof, dcu⟩ ⟨db, dof, dcu⟩) => bytes_any base b ⟨db, dof, dcu⟩ wx h.dk)
      have hpw := Lib.hid (fun (wx : World) (h : S5 base b tb w1 wx ⟨db, dof, dcu⟩ ⟨db, dof, dcu⟩) => power_any base b ⟨db, dof, dcu⟩ wx h.dk)
      dsimp only at hby hpw
      have hbq : ((bs db).toList != (bs db).toList) = false := bne_self_eq_false _
      have hps := not_self dof
      have hT := hTG.out.1
      go_upto_region 29 with fail
      go_cut [132] from 46 to 132 (fun s132 wx => s132 = .bool false ∧ Hid (S5 base b tb w1 wx ⟨db, dof, dcu⟩ ⟨db, dof, dcu⟩))
      case first =>
        go_region_held3 (fun w' => w'.cell? ⟨tb, 0, none⟩ = some (.string (bs db)) ∧ w'.cell? ⟨tb, 1, none⟩ = some (.bool dof))
          ((exact ⟨m0, m1⟩))
          (first | (go_at_call 29; refine (hby.out _ (by (first | exact hT | exact hT.drew1))).mono ?_; rintro e w' ⟨rfl, rfl⟩) | (go_at_call 30; refine (hpw.out _ (by (first | exact hT | exact hT.drew1))).mono ?_; rintro e w' ⟨rfl, rfl⟩))
        all_goals
          go_wp2_with fail
          go_meet
          exact ⟨rfl, Lib.hid (by (first | exact hT | exact hT.drew1))⟩
      obtain ⟨rfl, hT9⟩ := hcut
      clear hT m0 m1 hby hpw hbq hps
      go_wp2_with fail
      go_roundg (A.length - j)
      case measure => omega
      case rel => exact ⟨j + 1, ⟨db, dof, dcu⟩, by simp, hlt2, by omega, Lib.hid ⟨hT9.out, hTG.out.2⟩⟩
    · have hge : ¬ ((j : Int) < (A.length : Int)) := by omega
      obtain ⟨hT, hok⟩ := hTG.out
      obtain ⟨m0, _, _, _⟩ := hT.tp.cells
      have hokb := hok.b
      have hrl := Lib.hid (read_len hok.b)
      have hrd := Lib.hid (read_any (E := E) d.b wr (hL1.out.below (hT.bl.mono hbs2)).s (by omega))
      have hTH := Lib.hid hT
      have hszd := bs_size d.b
      clear hTG hT hok
      go_wp2_with fail
      refine hrd.out.mono ?_
      rintro e w5 ⟨v5, rfl, hrow5, hb5⟩
      have hT5 := hTH.out.below hb5
      obtain ⟨m0, _, _, _⟩ := hT5.tp.cells
      obtain ⟨a5, c5, hv5⟩ := hrow5.sl
      subst hv5
      have hrt := readTape_any (bs d.b) w5 (by omega)
      rw [bs_list] at hrt
      have hrt := Lib.hid hrt
      have hrow5 := Lib.hid hrow5
      have hT5 := Lib.hid hT5
      clear hb5 hrd
      go_wp2_with fail
      refine hrt.out.mono ?_
      rintro e w6 ⟨v6, rfl, hrow6, hb6⟩
      have hrow56 := hrow5.out.below hb6
      obtain ⟨a6, c6, hv6⟩ := hrow6.sl
      subst hv6
      have hsm := Lib.hid (sameTexts_any _ _ _ _ w6 (hrow56.at_ hrl.out) (hrow6.at_ hrl.out))
      have hT6 := Lib.hid (hT5.out.below hb6)
      clear hb6 hrow6 hrow56 hrow5 hrt
      go_wp2_with fail
      refine hsm.out.mono ?_
      rintro e w7 ⟨rfl, hb7⟩
      have hfin := Lib.hid (below_trans hb1.out ((hT6.out.below hb7).bl.mono hbs2))
      clear hb7 hsm
      go_wp2_with fail
      go_ret
      exact ⟨rfl, hfin.out⟩
end Go.Proofs.YtmjbhglmlbgkmaaDoor
