/- Package tape: write, Append, NewDisk, Recover: walked. -/
import Derived.Test.YtmjbhglmlbgkmaaDoorTapeD
import Derived.Test.YtmjbhglmlbgkmaaDoorTapeR
import Derived.Lib.AppendZeros
import Derived.Deep.RegionLaw
namespace Go.Proofs.YtmjbhglmlbgkmaaDoor
open Go.RowKit Go.Sort

theorem step_append_run {P : Program} {ops : Array Oper} {o : Oper} {a : Act} {w : World} {K : Act → World → Prop} {Q : Exit → Act → World → Prop} {E : Prop}
    (hg : o.guard = none) (s x : Operand) (t tn : TypeId) (hop : o.op = Op.call { callee := Callee.builtin Builtin.append, args := #[s, x], argTypes := #[t, tn] })
    (vs vx : Value) (hs : a.eval s = vs) (hx : a.eval x = vx) {v' : Value} {w' : World} (hr : (Builtin.append_ #[t, tn] o.type #[vs, vx]).run P w = .ok v' w') (hK : K (a.put o.dst v') w') :
    if Region.wanted o (yielded ops a.tmps) = true then Oper.wp P o a w K Q else E := by
  have hw : Region.wanted o (yielded ops a.tmps) = true := by simp [Region.wanted, hg]
  rw [if_pos hw]
  unfold Oper.wp
  simp [execOp, hop, resolve, invoke, builtin, hs, hx, hr, Result.andThen]
  exact hK
theorem ByteRow.drew {w : World} {base : Nat} {v : Value} {l : List UInt8} (h : ByteRow w base v l) : ByteRow w.drew base v l := h
/-- What an append and the store of its slice leave. -/
theorem DiskAt.appended {w : World} {base b : Nat} {d : Dsk} {a : Option Addr} {c : Nat} (h : DiskAt w base b d) (hb : w.heap[b]? = some (.cells #[.slice a d.b.length c, .bool d.off, .int .i64 d.cut] 102 (0, 0)))
    (hr : ByteRow w base (.slice a d.b.length c) d.b) (hne : ∀ g, (Value.slice a d.b.length c).ownBlock = some g → g ≠ b) (s : List UInt8) (hlen : d.b.length + s.length ≤ 1000000000) (hbase : base ≤ w.heap.size) (ty : TypeId) :
    ∃ a' c' w1, (Builtin.append_ #[100, 9] ty #[.slice a d.b.length c, .string (bs s)]).run Tryd.prog w = .ok (.slice a' (d.b.length + s.length) c') w1 ∧ w1.heap[b]? = some (.cells #[.slice a d.b.length c, .bool d.off, .int .i64 d.cut] 102 (0, 0)) ∧
      Keeps (DiskS base w) w (w1.setCell ⟨b, 0, none⟩ (.slice a' (d.b.length + s.length) c')) ∧ DiskAt (w1.setCell ⟨b, 0, none⟩ (.slice a' (d.b.length + s.length) c')) base b { d with b := d.b ++ s } ∧ Below base w w1 := by
  obtain ⟨v', w1, hrun, hrow, hgrow⟩ := run_append_byterow w base ty _ d.b s hr hlen hbase
  obtain ⟨a', c', rfl⟩ := hrow.sl
  rw [List.length_append] at *
  have hblt := (Array.getElem?_eq_some_iff.1 hb).1
  have hk1 : Keeps (fun k => (Value.slice a d.b.length c).ownBlock = some k) w w1 := ⟨hgrow.os, hgrow.tape, hgrow.output, hgrow.size, fun k hk hs => hgrow.block k hk (fun e => hs e.symm)⟩
  have hb1 := hk1.obj hb (fun e => hne b e rfl)
  have hne' : ∀ g, (Value.slice a' (d.b.length + s.length) c').ownBlock = some g → g ≠ b := fun g hg e => by
    obtain ⟨_, cs, z, h2⟩ := hrow.block g hg
    subst e
    rw [hb1] at h2
    injection h2 with h2
    injection h2 with _ h2 _
    exact absurd h2 (by decide)
  refine ⟨a', c', w1, hrun, hb1, (hk1.mono (fun k hk => ?_)).trans (keeps_setCell _ _ _ ⟨h.ge, _, _, _, hb, .inl rfl⟩), ⟨h.ge, .slice a' (d.b.length + s.length) c', heap_setCell_same w1 b 0 _ _ _ hb1, ?_⟩, hk1.below hbase (fun k hk => (hr.block k hk).1)⟩
  · obtain ⟨h1, cs, z, h2⟩ := hr.block k hk
    exact ⟨h1, _, _, _, h2, .inr rfl⟩
  · exact hrow.other _ _ hne'
theorem writeD_off {d : Dsk} {r : List UInt8} (h : d.off = true) : writeD d r = (16, d) := by unfold writeD; rw [if_pos h]
theorem writeD_cut {d : Dsk} {r : List UInt8} (h : d.off = false) (hc : 0 ≤ d.cut ∧ d.cut < r.length) : writeD d r = (16, ⟨d.b ++ r.take d.cut.toNat, true, d.cut⟩) := by unfold writeD; rw [if_neg (by rw [h]; decide), if_pos hc]
theorem writeD_ok {d : Dsk} {r : List UInt8} (h : d.off = false) (hc : ¬ (0 ≤ d.cut ∧ d.cut < r.length)) : writeD d r = (0, ⟨d.b ++ r, false, if 0 ≤ d.cut then d.cut - r.length else d.cut⟩) := by unfold writeD; rw [if_neg (by rw [h]; decide), if_neg hc]
set_option maxHeartbeats 4000000 in
set_option maxRecDepth 100000 in
theorem write_cut {E : Nat → Addr} (base b : Nat) (d : Dsk) (s : List UInt8) (w : World) (hL : Laid E w) (hD : DiskAt w base b d) (hlen : d.b.length + s.length ≤ 1000000000) (hbase : base ≤ w.heap.size) (hg16 : 4 < base) (hcut : d.cut ≤ 9223372036854775807) (ho : d.off = false) (hc : 0 ≤ d.cut ∧ d.cut < s.length) :
    Calls Tryd.prog 50 #[.pointer (some ⟨b, 0, none⟩), .string (bs s)] w fun e w' => e = .returned (errV E (writeD d s).1) ∧ Keeps (DiskS base w) w w' ∧ DiskAt w' base b (writeD d s).2 := by
  obtain ⟨a, c, h0, h1, h2, hr, hfz, hne, hb⟩ := hD.at_
  have hsz := bs_size s
  rw [ho] at h1
  have hs := Lib.hid (writeD_cut ho hc)
  obtain ⟨n, hn⟩ := Int.eq_ofNat_of_zero_le hc.1
  have hnl : n < s.length := by omega
  have htl : (s.take n).length = n := by rw [List.length_take]; omega
  have hDd : DiskAt w.drew base b d := ⟨hD.ge, hD.row⟩
  obtain ⟨a', c', w1, hrun, hb1, hkp0, hd1, hbl⟩ := hDd.appended hb hr hne (s.take n) (by omega) hbase 100
  rw [htl] at hrun hkp0 hd1
  rw [← ext_first] at hrun
  have hkp : Keeps (DiskS base w) w (w1.setCell ⟨b, 0, none⟩ (.slice a' (d.b.length + n) c')) := ⟨hkp0.os, hkp0.tape, hkp0.output, hkp0.size, hkp0.block⟩
  have c0 : w1.cell? ⟨b, 0, none⟩ = some (.slice a d.b.length c) := by rw [cell_of_row _ _ _ _ _ _ hb1]; rfl
  have c1 : w1.cell? ⟨b, 1, none⟩ = some (.bool d.off) := by rw [cell_of_row _ _ _ _ _ _ hb1]; rfl
  have f0 : w1.frozen? ⟨b, 0, none⟩ = false := frozen_of_row _ _ _ _ _ hb1
  have f1 : w1.frozen? ⟨b, 1, none⟩ = false := frozen_of_row _ _ _ _ _ hb1
  have he1 : w1.cell? ⟨4, 0, none⟩ = some (errV E 16) := (hbl.cell (p := ⟨4, 0, none⟩) hg16).trans hL.e16
  have hb6 : ¬ b = 4 := by have := hD.ge; omega
  have hb6' : ¬ 4 = b := fun e => hb6 e.symm
  rw [ho] at c1
  obtain ⟨a2, c2, _, _, _, kr, kf, kne, kb⟩ := hd1.at_
  have kset := (hd1.set (o := true) (n := 0) kb kr kne).1
  have hfin := Lib.hid (show Keeps (DiskS base w) w _ ∧ DiskAt _ base b (writeD d s).2 from ⟨diskS_trans hkp kset.1, by rw [hs.out, hn]; exact (show (⟨d.b ++ s.take n, true, (n : Int)⟩ : Dsk) = { d with b := d.b ++ s.take n, off := true } by rw [← hn]) ▸ kset.2⟩)
  rw [hn] at h2
  have hn1 : (0 : Int) ≤ (n : Int) := by omega
  have hn2 : (n : Int) < (s.length : Int) := by omega
  have hn3 : decide ((0 : Int) ≤ (n : Int)) = true := decide_eq_true hn1
  have hn4 : (n : Int) ≤ (s.length : Int) := by omega
  clear hr hfz hne hb hD hDd hkp hkp0 hd1 hb1 ho hc hn kr kf kne kb kset hL htl hbl
  go_enter Tryd.func50, Tryd.ntmps50
  go_wp2_with fail
  go_region_law (refine step_append_run rfl _ _ 100 9 rfl (.slice a d.b.length c) (.string ((bs s).extract 0 n)) (by simp [Act.eval, Act.put]) (by simp [Act.eval, Act.put]) hrun ?_)
  all_goals
    go_wp2_with fail
    go_ret
    exact ⟨by rw [hs.out]; rfl, hfin.out.1, hfin.out.2⟩
end Go.Proofs.YtmjbhglmlbgkmaaDoor
