/- TapeCuts, walked: the closed fact. -/
import Derived.Test.YtmjbhglmlbgkmaaDoorTapeN
import Derived.Test.YtmjbhglmlbgkmaaDoorSameT
namespace Go.Proofs.YtmjbhglmlbgkmaaDoor
open Go.RowKit Go.Sort

theorem LaidS.disk {E : Nat → Addr} {base : Nat} {w0 w wx : World} (hL : LaidS E w0) (h0 : w0.heap.size ≤ base) (hb : Below base w0 w) (hk : Keeps (DiskS base w) w wx) (hbase : base ≤ w.heap.size) : LaidS E wx :=
  hL.below ((hb.mono h0).trans (hk.below (Nat.le_trans h0 hbase) (fun _ h => Nat.le_trans h0 h.lt)))
theorem off_lt {E : Nat → Addr} {w : World} (hL : LaidS E w) : 4 < w.heap.size := World.block_lt_of_cell? w _ hL.laid.e16
theorem TxRow.keeps {S : Nat → Prop} {w w' : World} {base : Nat} {v : Value} {L : List (List UInt8)} (h : TxRow w base v L) (hk : Keeps S w w') (hs : ∀ g, v.ownBlock = some g → ¬ S g) : TxRow w' base v L := ownsRow_keeps h hk hs
theorem TxRow.off_disk {w : World} {base base' : Nat} {v : Value} {L : List (List UInt8)} (h : TxRow w base v L) : ∀ g, v.ownBlock = some g → ¬ DiskS base' w g := by
  rintro g hg ⟨_, cs, T, z, h1, h2⟩
  obtain ⟨_, cs', h3⟩ := ownsRow_block h hg
  rw [h3] at h1
  injection h1 with h1
  injection h1 with _ h1 _
  subst h1
  revert h2
  decide
def abT : List UInt8 := [97, 32, 98]
theorem ab_facts : appendD ⟨[], false, -1⟩ abT = (0, ⟨recordT abT, false, -1⟩) := by kernel_rfl
theorem ab_read : readT (recordT abT) = [abT] := by
  have := readT_of (l := [abT]) (t := []) (by decide) oneT_nil
  simpa [flatR] using this
theorem ab_bytes : recordT abT = [51, 58, 97, 32, 98, 10, 46] := by kernel_rfl
theorem one_text (w : World) (l : List UInt8) : TextsAt (w.alloc (.cells #[.string (bs l)] 9)) (.slice (some ⟨w.heap.size, 0, none⟩) 1 1) [l] := by
  refine ⟨_, _, rfl, by unfold maxLen; simp, Nat.le_refl 1, fun i hi => ⟨w.heap.size, 0, rfl, ?_⟩⟩
  have : i = 0 := by simpa using hi
  subst this
  simp
set_option maxHeartbeats 2000000 in
set_option maxRecDepth 100000 in
theorem taped_any {E : Nat → Addr} (w : World) (hL : LaidS E w) :
    Calls Tryd.prog 18 #[] w fun e w' => e = .returned (.bool true) ∧ Below w.heap.size w w' := by
  have hnd := Lib.hid (newdisk_any [] w (by decide))
  have hlt := off_lt hL
  go_enter Tryd.func18, Tryd.ntmps18
  go_wp2_with fail
  refine hnd.out.mono ?_
  rintro e w1 ⟨b, rfl, hd1, hb1⟩
  have hap := append_any (E := E) w.heap.size b ⟨[], false, -1⟩ abT w1 (hL.below hb1) hd1 (by decide) (by decide) hb1.size hlt (by decide)
  rw [ab_facts] at hap
  have hap := Lib.hid hap
  have hb1H := Lib.hid hb1
  clear hnd hd1 hb1
  go_wp2_with fail
  refine hap.out.mono ?_
  rintro e w2 ⟨rfl, hk2, hd2⟩
  have hs2 := Nat.le_trans hb1H.out.size hk2.size
  have hb2 := hb1H.out.trans (hk2.below hb1H.out.size (fun _ h => h.lt))
  have hre := recover_any (E := E) w.heap.size b ⟨recordT abT, false, -1⟩ w2 (hL.below hb2) hd2 (by rw [ab_bytes]; decide) hs2 (fun wx hk => hL.disk (Nat.le_refl _) hb2 hk hs2) (by rw [ab_read]; exact ⟨by simp [flatR], by simp [flatR]⟩)
  have hre := Lib.hid hre
  have hb2H := Lib.hid hb2
  clear hap hk2 hd2 hb2
  simp only [errV]
  go_wp2_with fail
  refine hre.out.mono ?_
  rintro e w3 ⟨v, rfl, hrow, hk3, hd3⟩
  have hb3 := hb2H.out.trans (hk3.below hs2 (fun _ h => h.lt))
  have hs3 := Nat.le_trans hs2 hk3.size
  have hab : readT (⟨recordT abT, false, -1⟩ : Dsk).b = [abT] := ab_read
  have hrec : recoverD ⟨recordT abT, false, -1⟩ = ⟨recordT abT, false, -1⟩ := by unfold recoverD; rw [show (⟨recordT abT, false, -1⟩ : Dsk).b = recordT abT from rfl, ab_read]; simp [flatR]
  rw [hab] at hrow
  rw [hrec] at hd3
  have hA3 := (Below.refl w3.heap.size w3).alloc (Nat.le_refl _) (.cells #[.string (bs abT)] 9)
  have hsm := Lib.hid (sameTexts_any _ _ [abT] [abT] _ ((hrow.at_ (by decide)).below hA3) (one_text w3 abT))
  have hd4 := Lib.hid (hd3.below hA3)
  have hb4 := Lib.hid (hb3.trans (hA3.mono hs3))
  obtain ⟨a, c, rfl⟩ := hrow.sl
  clear hre hrow hk3 hd3 hA3 hab hrec hb3
  go_wp2_with fail
  refine hsm.out.mono ?_
  rintro e w5 ⟨rfl, hb5⟩
  have hd5 := hd4.out.below hb5
  have hby := Lib.hid (bytes_any _ b _ w5 hd5)
  have hb5 := Lib.hid (hb4.out.trans (hb5.mono (by have := hb4.out.size; omega)))
  clear hd5
  go_wp2_with fail
  refine hby.out.mono ?_
  rintro e w6 ⟨rfl, rfl⟩
  have heq : ((bs (recordT abT)).toList == [51, 58, 97, 32, 98, 10, 46]) = true := by rw [ab_bytes, toList_data, bs_list]; rfl
  go_wp2_with fail
  go_ret
  exact ⟨rfl, hb5.out⟩
end Go.Proofs.YtmjbhglmlbgkmaaDoor
