/- Package tape: NewDisk, Recover: walked. -/
import Derived.Test.YtmjbhglmlbgkmaaDoorTapeA
namespace Go.Proofs.YtmjbhglmlbgkmaaDoor
open Go.RowKit Go.Sort

theorem ByteRow.len_le {w : World} {base : Nat} {a : Option Addr} {n c : Nat} {l : List UInt8} (h : ByteRow w base (.slice a n c) l) : l.length ≤ c := by
  rcases h with ⟨h, rfl⟩ | ⟨g', cap', cur, fz, he, h1, h2, h3, h4, h5, h6, h7⟩
  · exact Nat.zero_le _
  · cases he
    exact h4
theorem bytesRow_size (s : ByteArray) (cap : Nat) (h : s.size ≤ cap) : (bytesRow s cap).size = cap := by
  unfold bytesRow
  simp only [Array.size_append, Array.size_map, Array.size_replicate]
  have : s.data.size = s.size := rfl
  omega
theorem bytesRow_take (l : List UInt8) (cap : Nat) : (bytesRow (bs l) cap).toList.take l.length = cellsB l := by
  unfold bytesRow
  rw [Array.toList_append, Array.toList_map, List.take_append_of_le_length (by simp [bs]), List.take_of_length_le (by simp [bs])]
  simp [cellsB, bs]
set_option maxHeartbeats 1000000 in
set_option maxRecDepth 100000 in
theorem newdisk_any (l : List UInt8) (w : World) (hl : l.length ≤ 262144) :
    Calls Tryd.prog 19 #[.string (bs l)] w fun e w' => ∃ b, e = .returned (.tuple #[.pointer (some ⟨b, 0, none⟩), .nilIface]) ∧ DiskAt w' w.heap.size b ⟨l, false, -1⟩ ∧ Below w.heap.size w w' := by
  have hsz := bs_size l
  have hcv := Go.run_bytes_of_string (P := Tryd.prog) w 9 100 5 (bs l) Tryd.underlying9 Tryd.underlying100 Tryd.underlying5
  have hge := grownCap_ge w (bs l).size 0 5
  have hcm : grownCap w (bs l).size 0 5 ≤ maxLen := grownCap_le_maxLen w _ 0 5 (by unfold maxLen; omega)
  rw [hsz] at hcv hge hcm
  have hli : ¬ (262144 : Int) < (l.length : Int) := by omega
  generalize grownCap w l.length 0 5 = cap at *
  have hrs := bytesRow_size (bs l) cap (by rw [hsz]; exact hge)
  have hrt := bytesRow_take l cap
  rw [hrs] at hcv
  generalize bytesRow (bs l) cap = cur at *
  have hfin := Lib.hid (show DiskAt (((w.drew.alloc (.cells cur 5 (cap, cap + 1)))).alloc (.cells #[.slice (some ⟨w.heap.size, 0, none⟩) l.length cap, .bool false, .int .i64 (-1)] 102)) w.heap.size (w.heap.size + 1) ⟨l, false, -1⟩ by
    have h1 : (w.drew.alloc (.cells cur 5 (cap, cap + 1))).heap.size = w.heap.size + 1 := by rw [World.size_alloc]; rfl
    refine ⟨by omega, .slice (some ⟨w.heap.size, 0, none⟩) l.length cap, ?_, .inr ⟨w.heap.size, cap, cur, (cap, cap + 1), rfl, Nat.le_refl _, ?_, .inr (by rw [hrs]; exact Nat.le_refl _), hge, hcm, by rw [hrs]; exact Nat.le_refl _, hrt⟩⟩
    · have := heap_alloc_new (w.drew.alloc (.cells cur 5 (cap, cap + 1))) (.cells #[.slice (some ⟨w.heap.size, 0, none⟩) l.length cap, .bool false, .int .i64 (-1)] 102)
      rwa [h1] at this
    · have h2 := heap_alloc_new w.drew (.cells cur 5 (cap, cap + 1))
      exact (Below.heap_alloc _ _ _ (by rw [h1]; omega)).trans h2)
  have hbw := Lib.hid (show Below w.heap.size w (((w.drew.alloc (.cells cur 5 (cap, cap + 1)))).alloc (.cells #[.slice (some ⟨w.heap.size, 0, none⟩) l.length cap, .bool false, .int .i64 (-1)] 102)) from (((Below.refl w.heap.size w).drew).alloc (Nat.le_refl _) _).alloc (by rw [World.size_alloc]; exact Nat.le_succ _) _)
  clear hge hcm hrs hrt
  go_enter Tryd.func19, Tryd.ntmps19
  go_wp2_with (simp only [hcv])
  go_ret2
  exact ⟨_, rfl, hfin.out, hbw.out⟩
set_option maxHeartbeats 4000000 in
set_option maxRecDepth 100000 in
theorem recover_any {E : Nat → Addr} (base b : Nat) (d : Dsk) (w : World) (hL : LaidS E w) (hD : DiskAt w base b d) (hlen : d.b.length ≤ 1000000) (hbase : base ≤ w.heap.size) (hLK : ∀ wx, Keeps (DiskS base w) w wx → LaidS E wx) (hfit : (flatR (readT d.b)).length ≤ d.b.length ∧ d.b.take (flatR (readT d.b)).length = flatR (readT d.b)) :
    Calls Tryd.prog 26 #[.pointer (some ⟨b, 0, none⟩)] w fun e w' => ∃ v, e = .returned (.tuple #[v, .nilIface]) ∧ TxRow w' w.heap.size v (readT d.b) ∧ Keeps (DiskS base w) w w' ∧ DiskAt w' base b (recoverD d) := by
  have hon := Lib.hid (on_any base b d w hD)
  have hDH := Lib.hid hD
  clear hD
  go_enter Tryd.func26, Tryd.ntmps26
  go_wp2_with fail
  refine hon.out.mono ?_
  rintro e w1 ⟨rfl, hk1, hd1⟩
  obtain ⟨a, c, h0', h1, h2, hr', hfz, hne, hb'⟩ := hd1.at_
  have hr : ByteRow w1 base (.slice a d.b.length c) d.b := hr'
  have h0 : w1.cell? ⟨b, 0, none⟩ = some (.slice a d.b.length c) := h0'
  have hb : w1.heap[b]? = some (.cells #[.slice a d.b.length c, .bool false, .int .i64 (-1)] 102 (0, 0)) := hb'
  have hrun := run_text_of hr
  have hre := Lib.hid (read_any (E := E) d.b w1 (hLK w1 hk1) hlen)
  have hk1 := Lib.hid hk1
  have hd1 := Lib.hid hd1
  generalize hfr : flatR (readT d.b) = fr at *
  generalize hrt : readT d.b = rt at *
  have hfrH := Lib.hid hfr
  have hrtH := Lib.hid hrt
  obtain ⟨hf1, hf2⟩ := hfit
  clear hfr hfz hne hon h0' hr' hb'
  go_wp2_with (simp only [hrun])
  refine hre.out.mono ?_
  rintro e w2 ⟨v, rfl, hrow, hb2⟩
  have hblt := hd1.out.lt
  have hlec := hr.len_le
  have hb2' := heap_down hb2 hb
  have g0 : w2.cell? ⟨b, 0, none⟩ = some (.slice a d.b.length c) := by rw [cell_of_row _ _ _ _ _ _ hb2']; rfl
  have f0 : w2.frozen? ⟨b, 0, none⟩ = false := frozen_of_row _ _ _ _ _ hb2'
  have hrb : ByteRow w2 base (.slice a d.b.length c) d.b := hr.keeps (Keeps.of_below (S := fun _ => False) hb2) (fun _ _ h => h)
  have hrt2 := hrb.take hf1
  rw [hf2] at hrt2
  have hne2 : ∀ g, (Value.slice a fr.length fr.length).ownBlock = some g → g ≠ b := fun g hg e => by
    obtain ⟨_, cs, z, h9⟩ := hrt2.block g hg
    subst e
    rw [hb2'] at h9
    injection h9 with h9
    injection h9 with _ h9 _
    exact absurd h9 (by decide)
  have hfin := Lib.hid (show Keeps (DiskS base w) w (w2.setCell ⟨b, 0, none⟩ (.slice a fr.length fr.length)) ∧ DiskAt (w2.setCell ⟨b, 0, none⟩ (.slice a fr.length fr.length)) base b (recoverD d) ∧ TxRow (w2.setCell ⟨b, 0, none⟩ (.slice a fr.length fr.length)) w.heap.size v rt from by
    refine ⟨(diskS_trans hk1.out (Keeps.of_below hb2)).trans (keeps_setCell _ _ _ ?_), ⟨hDH.out.ge, .slice a fr.length fr.length, ?_, ?_⟩, ?_⟩
    · obtain ⟨_, v0, hv0, _⟩ := hDH.out
      exact ⟨hDH.out.ge, _, _, _, hv0, .inl rfl⟩
    · exact heap_setCell_same w2 b 0 _ _ _ hb2'
    · have : (recoverD d).b = fr := by rw [← hfrH.out, ← hrt]; rfl
      rw [this]
      exact hrt2.other _ _ hne2
    · exact ownsRow_other (ownsRow_mono hrow hk1.out.size) _ _ (fun g hg => by
        have := (ownsRow_block hrow hg).1
        simp only
        omega))
  have hk0 : (0 : Int) ≤ (fr.length : Int) := by omega
  have hk3 : (fr.length : Int) ≤ (c : Int) := by omega
  have hsl : ∃ x y, v = .slice x rt.length y := hrow.sl
  obtain ⟨x, y, rfl⟩ := hsl
  clear hrow hrb hrt2 hne2 hr hb hb2' hre hrun h0 h1 h2 hf2 hrt
  go_wp2_with fail
  go_ret2
  exact ⟨_, rfl, Eq.mpr (congrArg (fun z => TxRow _ _ _ z) hrtH.out) hfin.out.2.2, hfin.out.1, hfin.out.2.1⟩
end Go.Proofs.YtmjbhglmlbgkmaaDoor
