/- MarkParts, walked. -/
import Derived.Test.YtgainbpflncgcaaDoorLaw1
namespace Go.Proofs.YtgainbpflncgcaaDoor
open Go.RowKit

theorem mstep_inj (k n m : Int) (c : UInt8) (h0 : 0 ≤ n) (h1 : n < 1000000007) (h2 : 0 ≤ m) (h3 : m < 1000000007) (h : mstep k n c = mstep k m c) : n = m := by
  unfold mstep at h; omega
theorem mfold_inj (k : Int) (l : List UInt8) : ∀ n m : Int, 0 ≤ n → n < 1000000007 → 0 ≤ m → m < 1000000007 → mfold k n l = mfold k m l → n = m := by
  induction l with
  | nil => intro n m _ _ _ _ h; exact h
  | cons c l ih =>
    intro n m h0 h1 h2 h3 h
    exact mstep_inj k n m c h0 h1 h2 h3 (ih _ _ (mstep_bd _ _ _).1 (mstep_bd _ _ _).2 (mstep_bd _ _ _).1 (mstep_bd _ _ _).2 h)
theorem mstep_byte (k n : Int) (c d : UInt8) (h : mstep k n c = mstep k n d) : c = d := by
  unfold mstep at h
  have := UInt8.toNat_lt c
  have := UInt8.toNat_lt d
  exact UInt8.toNat_inj.1 (by omega)
/-- With one byte another one it is another mark. -/
theorem mfold_byte (k n : Int) (l t : List UInt8) (c d : UInt8) (h : mfold k n (l ++ c :: t) = mfold k n (l ++ d :: t)) (h0 : 0 ≤ n) (h1 : n < 1000000007) : c = d := by
  rw [mfold_append, mfold_append] at h
  have hb := mfold_bd k l n h0 h1
  generalize mfold k n l = m at *
  exact mstep_byte k m c d (mfold_inj k t _ _ (mstep_bd _ _ _).1 (mstep_bd _ _ _).2 (mstep_bd _ _ _).1 (mstep_bd _ _ _).2 h)
theorem append_data (a b : ByteArray) : (a ++ b).data.toList = a.data.toList ++ b.data.toList := by simp [ByteArray.data_append]
theorem split_at (l : List UInt8) (i : Nat) (h : i < l.length) (d : UInt8) : l.set i d = l.take i ++ d :: l.drop (i + 1) := List.set_eq_take_append_cons_drop .. |>.trans (by rw [if_pos h])

/-- A byte stored into a text's bytes. -/
theorem storeByte_cells (w : World) (a : ByteArray) (j : Nat) (x : Int) (hj : j < a.size) (hx0 : 0 ≤ x) (hx1 : x ≤ 255) (e : TypeId) (cap : Nat) :
    (w.alloc (.cells (bytesRow a cap) e ((bytesRow a cap).size, (bytesRow a cap).size + 1))).cell? ⟨w.heap.size, j, none⟩ = some (.int .u8 ((byteAt a j).toNat : Int)) ∧
    (w.alloc (.cells (bytesRow a cap) e ((bytesRow a cap).size, (bytesRow a cap).size + 1))).frozen? ⟨w.heap.size, j, none⟩ = false ∧
    ∀ i (hi : i < (a.data.toList.set j (UInt8.ofNat x.toNat)).length), (((w.alloc (.cells (bytesRow a cap) e ((bytesRow a cap).size, (bytesRow a cap).size + 1))).setCell ⟨w.heap.size, j, none⟩ (.int .u8 x)).drew).cell? ((⟨w.heap.size, 0, none⟩ : Addr).add i) = some (.int .u8 ((a.data.toList.set j (UInt8.ofNat x.toNat))[i].toNat : Int)) := by
  have h1 := bytesRow_cell w a j hj e cap ((bytesRow a cap).size, (bytesRow a cap).size + 1)
  have hsz : a.size ≤ (bytesRow a cap).size := by unfold bytesRow; simp
  refine ⟨h1, ?_, ?_⟩
  · rw [World.frozen?_alloc_mark]; simp; omega
  · intro i hi
    have hi' : i < a.size := by simpa using hi
    rw [World.cell?_drew, Addr.add_lit, Nat.zero_add]
    by_cases hij : i = j
    · subst hij
      rw [World.cell?_setCell_same _ _ _ h1]
      have ht : (UInt8.ofNat x.toNat).toNat = x.toNat := by simp; omega
      simp only [List.getElem_set_self, ht]
      rw [Int.toNat_of_nonneg hx0]
    · rw [World.cell?_setCell_other _ _ _ _ (by intro h; cases h; exact hij rfl), bytesRow_cell w a i hi' e cap, byteAt_eq a i hi', List.getElem_set_ne (by omega)]
      rfl
set_option maxHeartbeats 1000000 in
set_option maxRecDepth 100000 in
theorem markParts_any {E : Nat → Addr} (k i x : Int) (a b : ByteArray) (w : World) (hL : LaidR E w) (ha : a.size ≤ maxLen) (hb : b.size ≤ maxLen) (hx0 : 0 ≤ x) (hx1 : x ≤ 255) :
    Calls Tryd.prog 4 #[.int .i64 k, .string a, .string b, .int .i64 i, .int .u8 x] w fun e w' => e = .returned (.bool true) ∧ Below w.heap.size w w' := by
  have hm := Lib.hid (marked_any w hL)
  unfold maxLen at ha hb
  by_cases hla : a.size ≤ 300
  · by_cases hlb : b.size ≤ 300
    · by_cases hk : isKey k = true
      · have o1 : Hid (∀ s w, s.size ≤ 600 → Laid E w → Calls Tryd.prog 12 #[.int .i64 k, .string s] w fun e w' => e = .returned (.tuple #[.int .i64 (mfold k k s.data.toList), .nilIface]) ∧ Below w.heap.size w w') := fun s w h hL => by
          have h := of_any (E := E) k s w hL (by unfold maxLen; omega)
          unfold markOf at h
          rw [if_pos hk] at h
          exact h
        have hkk := (isKey_iff k).1 hk
        have o2 : Hid (∀ n w, 0 ≤ n → n < 1000000007 → Calls Tryd.prog 13 #[.int .i64 k, .int .i64 n, .string b] w fun e w' => e = .returned (.tuple #[.int .i64 (mfold k n b.data.toList), .nilIface]) ∧ Below w.heap.size w w') := fun n w h0 h1 =>
          more_ok k n b w hk h0 h1 (by unfold maxLen; omega)
        have o3 : Hid (∀ s n w, s.size ≤ 600 → Laid E w → mfold k k s.data.toList = n → Calls Tryd.prog 14 #[.int .i64 k, .string s, .int .i64 n] w fun e w' => e = .returned .nilIface ∧ Below w.heap.size w w') := fun s n w h hL he => by
          have h := right_any (E := E) k n s w hL (by unfold maxLen; omega)
          unfold rightOf markOf at h
          rw [if_pos hk, if_pos rfl, if_pos he] at h
          exact h
        have o4 : Hid (∀ s n w, s.size ≤ 600 → Laid E w → mfold k k s.data.toList ≠ n → Calls Tryd.prog 14 #[.int .i64 k, .string s, .int .i64 n] w fun e w' => e = .returned (errV E 9) ∧ Below w.heap.size w w') := fun s n w h hL he => by
          have h := right_any (E := E) k n s w hL (by unfold maxLen; omega)
          unfold rightOf markOf at h
          rw [if_pos hk, if_pos rfl, if_neg he] at h
          exact h
        have bd := mfold_bd k a.data.toList k (by omega) (by omega)
        have eq1 : Hid (mfold k k (a ++ b).data.toList = mfold k (mfold k k a.data.toList) b.data.toList) := by unfold Hid; rw [append_data, mfold_append]
        obtain ⟨bd0, bd1⟩ := bd
        generalize hn : mfold k k a.data.toList = n at *
        have hn := Lib.hid hn
        have hk := Lib.hid (show 0 ≤ k ∧ k < 1000000007 by omega)
        clear hkk
        go_enter Tryd.func4, Tryd.ntmps4
        go_wp2_with fail
        refine hm.out.mono ?_
        rintro e w1 ⟨rfl, hb1⟩
        have hL1 := hL.below hb1
        go_wp2_with fail
        refine (o1.out _ _ (by omega) hL1.laid).mono ?_
        rintro e w2 ⟨rfl, hb2⟩
        rw [hn.out]
        have hL2 := hL1.below hb2
        go_wp2_with fail
        refine (o2.out _ _ bd0 bd1).mono ?_
        rintro e w3 ⟨rfl, hb3⟩
        have hL3 := hL2.below hb3
        generalize hq : mfold k n b.data.toList = q at *
        have hq := Lib.hid hq
        have eq2 : Hid (mfold k k (a ++ b).data.toList = q) := eq1
        have hsz : (a ++ b).size ≤ 600 := by rw [ByteArray.size_append]; omega
        go_wp2_with fail
        refine (o1.out _ _ hsz hL3.laid).mono ?_
        rintro e w4 ⟨rfl, hb4⟩
        rw [eq2.out]
        have hL4 := hL3.below hb4
        go_wp2_with fail
        refine (o3.out _ _ _ hsz hL4.laid eq2.out).mono ?_
        rintro e w5 ⟨rfl, hb5⟩
        have hL5 := hL4.below hb5
        have B5 : Below w.heap.size w w5 := below_trans hb1 (below_trans hb2 (below_trans hb3 (below_trans hb4 hb5)))
        clear hb1 hb2 hb3 hb4 hb5 hL1 hL2 hL3 hL4
        by_cases hi0 : i < 0
        · go_wp2_with fail
          go_ret
          exact ⟨rfl, B5⟩
        · obtain ⟨j, rfl⟩ := Int.eq_ofNat_of_zero_le (show 0 ≤ i by omega)
          by_cases hi1 : a.size ≤ j
          · go_wp2_with fail
            go_ret
            exact ⟨rfl, B5⟩
          · have hlt : j < a.size := by omega
            by_cases hx : ((a[j].toNat : Int) == x) = true
            · go_wp2_with fail
              go_ret
              exact ⟨rfl, B5⟩
            · have hx : ((a[j].toNat : Int) == x) = false := by simpa using hx
              have hcv := fun w => run_bytes_of_string (P := Tryd.prog) w 9 39 5 a Tryd.underlying9 Tryd.underlying39 Tryd.underlying5
              have hst := storeByte_cells w5 a j x hlt hx0 hx1 5 (grownCap w5 a.size 0 5)
              obtain ⟨hc1, hf1, hcs⟩ := hst
              have hcb := run_convert_bytes_back (P := Tryd.prog) _ 39 9 5 ⟨w5.heap.size, 0, none⟩ (grownCap w5 a.size 0 5) (a.data.toList.set j (UInt8.ofNat x.toNat)) Tryd.underlying39 Tryd.underlying5 Tryd.underlying9 hcs
              rw [show (a.data.toList.set j (UInt8.ofNat x.toNat)).length = a.size by simp] at hcb
              have hcs := Lib.hid hcs
              have B6 : Below w.heap.size w (((w5.alloc (.cells (bytesRow a (grownCap w5 a.size 0 5)) 5 ((bytesRow a (grownCap w5 a.size 0 5)).size, (bytesRow a (grownCap w5 a.size 0 5)).size + 1))).setCell ⟨w5.heap.size, j, none⟩ (.int .u8 x)).drew) := ((B5.alloc B5.size _).setCell B5.size _).drew
              have hL6 := hL.below B6
              have hL6 := hL6.laid
              have eq3 : mfold k k ((⟨(a.data.toList.set j (UInt8.ofNat x.toNat)).toArray⟩ : ByteArray) ++ b).data.toList ≠ q := by
                intro h
                rw [← eq2.out, append_data, append_data, show (⟨(a.data.toList.set j (UInt8.ofNat x.toNat)).toArray⟩ : ByteArray).data.toList = a.data.toList.set j (UInt8.ofNat x.toNat) from rfl, split_at _ j (by simpa using hlt), List.append_assoc, List.cons_append] at h
                have hl : a.data.toList = a.data.toList.take j ++ byteAt a j :: a.data.toList.drop (j + 1) := by rw [← drop_byte a j hlt, List.take_append_drop]
                rw [show a.data.toList ++ b.data.toList = a.data.toList.take j ++ byteAt a j :: (a.data.toList.drop (j + 1) ++ b.data.toList) by rw [← List.cons_append, ← List.append_assoc, ← hl]] at h
                have h := mfold_byte k k _ _ _ _ h hk.out.1 hk.out.2
                rw [byteAt_eq a j hlt] at h
                have : (a[j].toNat : Int) = x := by rw [← h]; simp; omega
                rw [this] at hx
                simp at hx
              have hds : (⟨(a.data.toList.set j (UInt8.ofNat x.toNat)).toArray⟩ : ByteArray).size ≤ 300 := by
                show (a.data.toList.set j (UInt8.ofNat x.toNat)).toArray.size ≤ 300
                simp
                exact hla
              have hsz2 : ((⟨(a.data.toList.set j (UInt8.ofNat x.toNat)).toArray⟩ : ByteArray) ++ b).size ≤ 600 := by
                rw [ByteArray.size_append]; omega
              generalize hd : (⟨(a.data.toList.set j (UInt8.ofNat x.toNat)).toArray⟩ : ByteArray) = d at *
              have hd := Lib.hid hd
              have eq3 := Lib.hid eq3
              go_wp2_with fail
              refine (o1.out _ _ hsz2 hL6).mono ?_
              rintro e w7 ⟨rfl, hb7⟩
              have hL7 := hL6.below hb7
              have hne : (mfold k k (d ++ b).data.toList != q) = true := by simpa using eq3.out
              generalize hod : mfold k k (d ++ b).data.toList = o at *
              have hod := Lib.hid hod
              have hcb7 := run_convert_bytes_back (P := Tryd.prog) w7 39 9 5 ⟨w5.heap.size, 0, none⟩ (grownCap w5 a.size 0 5) (a.data.toList.set j (UInt8.ofNat x.toNat)) Tryd.underlying39 Tryd.underlying5 Tryd.underlying9 (fun i hi => cell_below hb7 (hcs.out i hi))
              rw [show (a.data.toList.set j (UInt8.ofNat x.toNat)).length = a.size by simp, hd.out] at hcb7
              have hb7 := Lib.hid hb7
              clear hcb hc1 hf1 hcv
              go_wp2_with fail
              refine (o4.out _ _ _ hsz2 hL7 (by rw [hod.out]; exact eq3.out)).mono ?_
              rintro e w8 ⟨rfl, hb8⟩
              have B8 := below_trans B6 (below_trans hb7.out hb8)
              have hL8 := hL.below B8
              have hc9 := coded_any (E := E) 9 9 w8 hL8 (by decide)
              rw [show codedB 9 9 = true by decide] at hc9
              have hc9 := Lib.hid hc9
              go_wp2_with fail
              refine hc9.out.mono ?_
              rintro e w9 ⟨rfl, hb9⟩
              go_wp2_with fail
              go_ret
              exact ⟨rfl, below_trans B8 hb9⟩
      · have hk : isKey k = false := by simpa using hk
        have o1 : Hid (∀ w, Laid E w → Calls Tryd.prog 12 #[.int .i64 k, .string a] w fun e w' => e = .returned (.tuple #[.int .i64 0, errV E 10]) ∧ Below w.heap.size w w') := fun w hL => by
          have h := of_any (E := E) k a w hL (by unfold maxLen; omega)
          unfold markOf at h
          rw [hk] at h
          exact h
        go_enter Tryd.func4, Tryd.ntmps4
        go_wp2_with fail
        refine hm.out.mono ?_
        rintro e w1 ⟨rfl, hb1⟩
        have hL1 := hL.below hb1
        go_wp2_with fail
        refine (o1.out _ hL1.laid).mono ?_
        rintro e w2 ⟨rfl, hb2⟩
        rw [show errV E 10 = .iface 65 (.pointer (some (E 10))) from rfl]
        go_wp2_with fail
        go_ret
        exact ⟨rfl, below_trans hb1 hb2⟩
    · go_enter Tryd.func4, Tryd.ntmps4
      go_wp2_with fail
      refine hm.out.mono ?_
      rintro e w1 ⟨rfl, hb1⟩
      go_wp2_with fail
      go_ret
      exact ⟨rfl, hb1⟩
  · go_enter Tryd.func4, Tryd.ntmps4
    go_wp2_with fail
    refine hm.out.mono ?_
    rintro e w1 ⟨rfl, hb1⟩
    go_wp2_with fail
    go_ret
    exact ⟨rfl, hb1⟩
end Go.Proofs.YtgainbpflncgcaaDoor
