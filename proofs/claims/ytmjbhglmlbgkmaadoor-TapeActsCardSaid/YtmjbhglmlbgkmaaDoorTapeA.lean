/- Package tape: write, Append, NewDisk, Recover: walked. -/
import Derived.Test.YtmjbhglmlbgkmaaDoorTapeA1
import Derived.Deep.RegionHeld3
namespace Go.Proofs.YtmjbhglmlbgkmaaDoor
open Go.RowKit Go.Sort

set_option maxHeartbeats 4000000 in
set_option maxRecDepth 100000 in
theorem write_any {E : Nat → Addr} (base b : Nat) (d : Dsk) (s : List UInt8) (w : World) (hL : Laid E w) (hD : DiskAt w base b d) (hlen : d.b.length + s.length ≤ 1000000000) (hbase : base ≤ w.heap.size) (hg16 : 4 < base) (hcut : d.cut ≤ 9223372036854775807) :
    Calls Tryd.prog 50 #[.pointer (some ⟨b, 0, none⟩), .string (bs s)] w fun e w' => e = .returned (errV E (writeD d s).1) ∧ Keeps (DiskS base w) w w' ∧ DiskAt w' base b (writeD d s).2 := by
  obtain ⟨a, c, h0, h1, h2, hr, hfz, hne, hb⟩ := hD.at_
  have hsz := bs_size s
  have hDH := Lib.hid hD
  cases ho : d.off with
  | true =>
    rw [ho] at h1
    have hs := Lib.hid (writeD_off (r := s) ho)
    have he := hL.e16
    clear ho hr hfz hne hb hD
    go_enter Tryd.func50, Tryd.ntmps50
    go_wp2_with fail
    go_ret
    exact ⟨by rw [hs.out]; rfl, Keeps.refl _ _, by rw [hs.out]; exact hDH.out⟩
  | false =>
  rw [ho] at h1
  by_cases hc : 0 ≤ d.cut ∧ d.cut < s.length
  · exact write_cut base b d s w hL hDH.out hlen hbase hg16 hcut ho hc
  · have hs := Lib.hid (writeD_ok ho hc)
    by_cases hc0 : 0 ≤ d.cut
    · have hset := (hD.set (o := d.off) (n := d.cut - s.length) hb hr hne).2
      obtain ⟨a2, c2, k0, k1, _, kr, kf, kne, kb⟩ := hset.2.at_
      obtain ⟨a', c', w1, hrun, hb1, hkp, hd1, _⟩ := hset.2.appended kb kr kne s hlen (Nat.le_trans hbase hset.1.size) 100
      have c0 : w1.cell? ⟨b, 0, none⟩ = some (.slice a2 d.b.length c2) := by rw [cell_of_row _ _ _ _ _ _ hb1]; rfl
      have f0 : w1.frozen? ⟨b, 0, none⟩ = false := frozen_of_row _ _ _ _ _ hb1
      have f2 := hfz 2
      have hfin := Lib.hid (show Keeps (DiskS base w) w _ ∧ DiskAt _ base b (writeD d s).2 from ⟨diskS_trans hset.1 hkp, by rw [hs.out, if_pos hc0]; exact (show (⟨d.b ++ s, false, d.cut - s.length⟩ : Dsk) = { ({ d with cut := d.cut - s.length } : Dsk) with b := d.b ++ s } by rw [← ho]) ▸ hd1⟩)
      have hge : ¬ d.cut < (s.length : Int) := fun h => hc ⟨hc0, h⟩
      clear hr hfz hne hb hD hkp hd1 hb1 ho hc kr kf kne kb hset
      go_enter Tryd.func50, Tryd.ntmps50
      go_wp2_with (at_builtin; refine Lib.wpList_append_run _ rfl _ _ _ _ rfl _ _ rfl rfl _ _ hrun ?_)
      go_ret
      exact ⟨by rw [hs.out]; rfl, hfin.out.1, hfin.out.2⟩
    · obtain ⟨a', c', w1, hrun, hb1, hkp, hd1, _⟩ := hD.appended hb hr hne s hlen hbase 100
      have c0 : w1.cell? ⟨b, 0, none⟩ = some (.slice a d.b.length c) := by rw [cell_of_row _ _ _ _ _ _ hb1]; rfl
      have f0 : w1.frozen? ⟨b, 0, none⟩ = false := frozen_of_row _ _ _ _ _ hb1
      have hfin := Lib.hid (show Keeps (DiskS base w) w _ ∧ DiskAt _ base b (writeD d s).2 from ⟨hkp, by rw [hs.out, if_neg hc0, show (⟨d.b ++ s, false, d.cut⟩ : Dsk) = { d with b := d.b ++ s } by rw [← ho]]; exact hd1⟩)
      clear hr hfz hne hb hD hkp hd1 hb1 ho hc
      go_enter Tryd.func50, Tryd.ntmps50
      go_wp2_with (at_builtin; refine Lib.wpList_append_run _ rfl _ _ _ _ rfl _ _ rfl rfl _ _ hrun ?_)
      go_ret
      exact ⟨by rw [hs.out]; rfl, hfin.out.1, hfin.out.2⟩
theorem appendD_big {d : Dsk} {s : List UInt8} (h : 4000 < s.length) : appendD d s = (2, d) := by unfold appendD; rw [if_pos h]
theorem appendD_full {d : Dsk} {s : List UInt8} (h : ¬ 4000 < s.length) (h2 : (262144 : Int) - d.b.length < (recordT s).length) : appendD d s = (7, d) := by unfold appendD; rw [if_neg h, if_pos h2]
theorem appendD_ok {d : Dsk} {s : List UInt8} (h : ¬ 4000 < s.length) (h2 : ¬ (262144 : Int) - d.b.length < (recordT s).length) : appendD d s = writeD d (recordT s) := by unfold appendD; rw [if_neg h, if_neg h2]
set_option maxHeartbeats 4000000 in
set_option maxRecDepth 100000 in
theorem append_any {E : Nat → Addr} (base b : Nat) (d : Dsk) (s : List UInt8) (w : World) (hL : LaidS E w) (hD : DiskAt w base b d) (hs : s.length ≤ maxLen) (hlen : d.b.length ≤ 262144) (hbase : base ≤ w.heap.size) (hg16 : 4 < base) (hcut : d.cut ≤ 9223372036854775807) :
    Calls Tryd.prog 21 #[.pointer (some ⟨b, 0, none⟩), .string (bs s)] w fun e w' => e = .returned (errV E (appendD d s).1) ∧ Keeps (DiskS base w) w w' ∧ DiskAt w' base b (appendD d s).2 := by
  obtain ⟨a, c, h0, h1, h2, hr, hfz, hne, hb⟩ := hD.at_
  have hsz := bs_size s
  have hDH := Lib.hid hD
  unfold maxLen at hs
  by_cases h4 : 4000 < s.length
  · have hr := Lib.hid (appendD_big (d := d) h4)
    have he := hL.laid.e2
    clear hr hfz hne hb hD
    have hr := Lib.hid (appendD_big (d := d) h4)
    go_enter Tryd.func21, Tryd.ntmps21
    go_wp2_with fail
    go_ret
    exact ⟨by rw [hr.out]; rfl, Keeps.refl _ _, by rw [hr.out]; exact hDH.out⟩
  have h4i : ¬ (4000 : Int) < (s.length : Int) := by omega
  have hrec := Lib.hid (fun wx (hx : Below w.heap.size w wx) => record_any (E := E) s wx (hL.below hx) (by omega))
  have hrl := recordT_len (s := s) (by omega)
  have hrs := bs_size (recordT s)
  have hk0 := Lib.hid (fun (wx : World) (hx : Below w.heap.size w wx) => cell_below hx h0)
  by_cases hfu : (262144 : Int) - d.b.length < (recordT s).length
  · have hr2 := Lib.hid (appendD_full h4 hfu)
    have he := Lib.hid (fun wx (hx : Below w.heap.size w wx) => (hL.below hx).laid.e7)
    clear hr hfz hne hb hD h4
    generalize recordT s = rq at *
    have hS : Below w.heap.size w w := Below.refl _ _
    have hk1 := Lib.hid (fun (wx : World) (hx : Below w.heap.size w wx) => (show Below w.heap.size w wx ∧ wx.cell? ⟨b, 0, none⟩ = some (.slice a d.b.length c) from ⟨hx, cell_below hx h0⟩))
    have hwi : IntKind.i64.wrap ((262144 : Int) - (d.b.length : Int)) = 262144 - (d.b.length : Int) := by rw [IntKind.wrap_i64]; omega
    have hdi : decide ((262144 : Int) - (d.b.length : Int) < (rq.length : Int)) = true := decide_eq_true hfu
    go_enter Tryd.func21, Tryd.ntmps21
    go_wp2_with fail
    go_region_held3 (fun w' => Below w.heap.size w w' ∧ w'.cell? ⟨b, 0, none⟩ = some (.slice a d.b.length c))
      ((refine hk1.out _ ?_; (first | exact hS | exact hS.drew)))
      ((refine (hrec.out _ (by first | exact hS | exact hS.drew)).mono ?_; rintro e w' ⟨rfl, hbx⟩; have hS : Below w.heap.size w w' := below_trans (by first | exact hS | exact hS.drew) hbx))
    all_goals
      have hS3 : Below w.heap.size w _ := (by first | exact hS | exact hS.drew)
      have he3 := he.out _ hS3
      have hS4 := Lib.hid hS3
      go_wp2_with fail
      go_ret
      exact ⟨by rw [hr2.out]; rfl, Keeps.of_below hS4.out, by rw [hr2.out]; exact hDH.out.below hS4.out⟩
  · have hr2 := Lib.hid (appendD_ok h4 hfu)
    have hwr := Lib.hid (fun wx (hx : Below w.heap.size w wx) => write_any (E := E) base b d (recordT s) wx (hL.below hx).laid (hDH.out.below hx) (by omega) (Nat.le_trans hbase hx.size) hg16 hcut)
    clear hr hfz hne hb hD h4
    generalize recordT s = rq at *
    have hS : Below w.heap.size w w := Below.refl _ _
    have hk1 := Lib.hid (fun (wx : World) (hx : Below w.heap.size w wx) => (show Below w.heap.size w wx ∧ wx.cell? ⟨b, 0, none⟩ = some (.slice a d.b.length c) from ⟨hx, cell_below hx h0⟩))
    have hwi : IntKind.i64.wrap ((262144 : Int) - (d.b.length : Int)) = 262144 - (d.b.length : Int) := by rw [IntKind.wrap_i64]; omega
    have hdi : decide ((262144 : Int) - (d.b.length : Int) < (rq.length : Int)) = false := decide_eq_false hfu
    go_enter Tryd.func21, Tryd.ntmps21
    go_wp2_with fail
    go_region_held3 (fun w' => Below w.heap.size w w' ∧ w'.cell? ⟨b, 0, none⟩ = some (.slice a d.b.length c))
      ((refine hk1.out _ ?_; (first | exact hS | exact hS.drew)))
      ((refine (hrec.out _ (by first | exact hS | exact hS.drew)).mono ?_; rintro e w' ⟨rfl, hbx⟩; have hS : Below w.heap.size w w' := below_trans (by first | exact hS | exact hS.drew) hbx))
    all_goals
      have hS3 : Below w.heap.size w _ := (by first | exact hS | exact hS.drew)
      have hS4 := Lib.hid hS3
      go_wp2_with fail
      refine (hrec.out _ hS4.out).mono ?_
      rintro e w5 ⟨rfl, hb5⟩
      have hS5 := Lib.hid (below_trans hS4.out hb5)
      go_wp2_with fail
      refine (hwr.out _ hS5.out).mono ?_
      rintro e w6 ⟨rfl, hk6, hd6⟩
      go_wp2_with fail
      go_ret
      exact ⟨by rw [hr2.out]; rfl, diskS_below hS5.out hk6, by rw [hr2.out]; exact hd6⟩
end Go.Proofs.YtmjbhglmlbgkmaaDoor
