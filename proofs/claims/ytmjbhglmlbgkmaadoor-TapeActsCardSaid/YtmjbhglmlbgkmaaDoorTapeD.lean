/- Package tape: a disk's methods, Append: walked. -/
import Derived.Test.YtmjbhglmlbgkmaaDoorTapeW2
import Derived.Deep.RegionLaw
import Derived.StillTailTactics
namespace Go.Proofs.YtmjbhglmlbgkmaaDoor
open Go.RowKit Go.Sort

theorem DiskS.lt {base : Nat} {w : World} {k : Nat} (h : DiskS base w k) : base ≤ k := h.1
/-- A store into the disk's own row. -/
theorem DiskAt.set {w : World} {base b : Nat} {d : Dsk} {a : Option Addr} {c : Nat} {o : Bool} {n : Int} (h : DiskAt w base b d) (hb : w.heap[b]? = some (.cells #[.slice a d.b.length c, .bool d.off, .int .i64 d.cut] 102 (0, 0)))
    (hr : ByteRow w base (.slice a d.b.length c) d.b) (hne : ∀ g, (Value.slice a d.b.length c).ownBlock = some g → g ≠ b) :
    (Keeps (DiskS base w) w (w.setCell ⟨b, 1, none⟩ (.bool o)) ∧ DiskAt (w.setCell ⟨b, 1, none⟩ (.bool o)) base b { d with off := o }) ∧
    (Keeps (DiskS base w) w (w.setCell ⟨b, 2, none⟩ (.int .i64 n)) ∧ DiskAt (w.setCell ⟨b, 2, none⟩ (.int .i64 n)) base b { d with cut := n }) := by
  have hS : DiskS base w b := ⟨h.ge, _, _, _, hb, .inl rfl⟩
  refine ⟨⟨keeps_setCell _ _ _ hS, h.ge, _, ?_, hr.other _ _ hne⟩, ⟨keeps_setCell _ _ _ hS, h.ge, _, ?_, hr.other _ _ hne⟩⟩
  · exact heap_setCell_same w b 1 _ _ _ hb
  · exact heap_setCell_same w b 2 _ _ _ hb
theorem diskS_trans {base : Nat} {a b c : World} (h : Keeps (DiskS base a) a b) (k : Keeps (DiskS base b) b c) : Keeps (DiskS base a) a c := by
  refine ⟨k.os.trans h.os, k.tape.trans h.tape, k.output.trans h.output, Nat.le_trans h.size k.size, fun i hi hs => ?_⟩
  have h1 := h.block i hi hs
  refine (k.block i (Nat.lt_of_lt_of_le hi h.size) ?_).trans h1
  rintro ⟨h2, cs, T, z, h3, h4⟩
  exact hs ⟨h2, cs, T, z, h1.symm.trans h3, h4⟩
theorem diskS_below {base : Nat} {a b c : World} (h : Below a.heap.size a b) (k : Keeps (DiskS base b) b c) : Keeps (DiskS base a) a c := diskS_trans (Keeps.of_below h) k
theorem diskS_after {base : Nat} {a b c : World} (h : Keeps (DiskS base a) a b) (k : Below b.heap.size b c) : Keeps (DiskS base a) a c := h.trans (Keeps.of_below k)
set_option maxRecDepth 100000 in
theorem setcut_any {E : Nat → Addr} (base b : Nat) (d : Dsk) (n : Int) (w : World) (hL : Laid E w) (hD : DiskAt w base b d) :
    Calls Tryd.prog 23 #[.pointer (some ⟨b, 0, none⟩), .int .i64 n] w fun e w' => e = .returned (errV E (setCutD d n).1) ∧ Keeps (DiskS base w) w w' ∧ DiskAt w' base b (setCutD d n).2 := by
  obtain ⟨a, c, h0, h1, h2, hr, hfz, hne, hb⟩ := hD.at_
  have hf1 := hfz 1
  have hf2 := hfz 2
  have hset := Lib.hid (hD.set (o := d.off) (n := n) hb hr hne)
  have hDH := Lib.hid hD
  clear hfz hne hr hb hD
  by_cases hn : n < 0
  · have hs := Lib.hid (show setCutD d n = (2, d) by unfold setCutD; rw [if_pos hn])
    have he := hL.e2
    go_enter Tryd.func23, Tryd.ntmps23
    go_wp2_with fail
    go_ret
    exact ⟨by rw [hs.out]; rfl, Keeps.refl _ _, by rw [hs.out]; exact hDH.out⟩
  cases ho : d.off with
  | true =>
    rw [ho] at h1
    have hs := Lib.hid (show setCutD d n = (16, d) by unfold setCutD; rw [if_neg hn, if_pos ho])
    have he := hL.e16
    clear ho
    go_enter Tryd.func23, Tryd.ntmps23
    go_wp2_with fail
    go_ret
    exact ⟨by rw [hs.out]; rfl, Keeps.refl _ _, by rw [hs.out]; exact hDH.out⟩
  | false =>
    rw [ho] at h1
    have hs := Lib.hid (show setCutD d n = (0, ⟨d.b, d.off, n⟩) by unfold setCutD; rw [if_neg hn, if_neg (by rw [ho]; decide)])
    clear ho
    go_enter Tryd.func23, Tryd.ntmps23
    go_wp2_with fail
    go_ret
    exact ⟨by rw [hs.out]; rfl, hset.out.2.1, by rw [hs.out]; exact hset.out.2.2⟩
set_option maxRecDepth 100000 in
theorem on_any (base b : Nat) (d : Dsk) (w : World) (hD : DiskAt w base b d) :
    Calls Tryd.prog 25 #[.pointer (some ⟨b, 0, none⟩)] w fun e w' => e = .returned (.tuple #[]) ∧ Keeps (DiskS base w) w w' ∧ DiskAt w' base b (onD d) := by
  obtain ⟨a, c, h0, h1, h2, hr, hfz, hne, hb⟩ := hD.at_
  have hf1 := hfz 1
  have hf2 := hfz 2
  have hset := (hD.set (o := false) (n := -1) hb hr hne).1
  obtain ⟨a', c', _, _, h2', hr', hfz', hne', hb'⟩ := hset.2.at_
  have hset2 := (hset.2.set (o := false) (n := -1) hb' hr' hne').2
  have hfin := Lib.hid (show Keeps (DiskS base w) w ((w.setCell ⟨b, 1, none⟩ (.bool false)).setCell ⟨b, 2, none⟩ (.int .i64 (-1))) ∧ DiskAt ((w.setCell ⟨b, 1, none⟩ (.bool false)).setCell ⟨b, 2, none⟩ (.int .i64 (-1))) base b (onD d) from ⟨diskS_trans hset.1 hset2.1, hset2.2⟩)
  clear hfz hne hr hb hD hset hset2 hr' hfz' hne' hb' h2'
  go_enter Tryd.func25, Tryd.ntmps25
  go_wp2_with fail
  go_end0
  exact ⟨rfl, hfin.out.1, hfin.out.2⟩
set_option maxRecDepth 100000 in
theorem power_any (base b : Nat) (d : Dsk) (w : World) (hD : DiskAt w base b d) :
    Calls Tryd.prog 30 #[.pointer (some ⟨b, 0, none⟩)] w fun e w' => e = .returned (.bool (!d.off)) ∧ w = w' := by
  obtain ⟨a, c, h0, h1, h2, hr, hfz, hne, hb⟩ := hD.at_
  clear hfz hne hr hb hD
  go_enter Tryd.func30, Tryd.ntmps30
  go_wp2_with fail
  go_ret
  exact ⟨rfl, rfl⟩
set_option maxRecDepth 100000 in
theorem run_text_of {w : World} {base : Nat} {a : Option Addr} {c : Nat} {l : List UInt8} (h : ByteRow w base (.slice a l.length c) l) : (convert 100 9 (.slice a l.length c)).run Tryd.prog w = .ok (.string (bs l)) w := by
  have h0 := h
  rcases h with ⟨h1, rfl⟩ | ⟨g', cap', cur, fz, he, h1, h2, h3, h4, h5, h6, h7⟩
  · injection h1 with h1 _ _
    subst h1
    exact run_convert_bytes_nil (P := Tryd.prog) w 100 5 Tryd.underlying100 Tryd.underlying5 _ _ 9 Tryd.underlying9
  · injection he with he _ hc
    subst he
    exact Go.run_convert_bytes_back (P := Tryd.prog) w 100 9 5 ⟨g', 0, none⟩ c l Tryd.underlying100 Tryd.underlying5 Tryd.underlying9 (fun j hj => by
      rw [Addr.add_lit, Nat.zero_add]
      exact h0.cells j hj)
set_option maxRecDepth 100000 in
theorem bytes_any (base b : Nat) (d : Dsk) (w : World) (hD : DiskAt w base b d) :
    Calls Tryd.prog 29 #[.pointer (some ⟨b, 0, none⟩)] w fun e w' => e = .returned (.string (bs d.b)) ∧ w = w' := by
  obtain ⟨a, c, h0, h1, h2, hr, hfz, hne, hb⟩ := hD.at_
  have hrun := run_text_of hr
  clear hfz hne hr hb hD
  go_enter Tryd.func29, Tryd.ntmps29
  go_wp2_with (simp only [hrun])
  go_ret
  exact ⟨rfl, rfl⟩
end Go.Proofs.YtmjbhglmlbgkmaaDoor
