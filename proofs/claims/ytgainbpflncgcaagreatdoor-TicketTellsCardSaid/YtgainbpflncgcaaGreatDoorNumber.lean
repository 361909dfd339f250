/- What the library's variables hold; strconv.Atoi, strconv.Itoa, seal.Number by contracts. -/
import Derived.Test.YtgainbpflncgcaaGreatDoorWord
import Derived.Lib.SmallJoins
import Derived.Deep.LoopGhost
namespace Go.Proofs.YtgainbpflncgcaaGreatDoor
open Go.RowKit Go.Sort

/-- The sentinels, and the library's variables. -/
structure LaidS (E : Nat → Addr) (w : World) : Prop where
  laid : Laid E w
  pow : Lib.TabIs Tryz.prog w "internal/strconv.uint64pow10" .u64 Lib.pow10Tab
  syn : ∃ t p, w.var? Tryz.prog "strconv.ErrSyntax" = some #[.iface t p]
  rng : ∃ t p, w.var? Tryz.prog "strconv.ErrRange" = some #[.iface t p]
  mx : ∃ m, w.cell? ⟨17, 0, none⟩ = some (.int .i64 m)
theorem glob_pow : Tryz.prog.globalNamed "internal/strconv.uint64pow10" = some 20 := by kernel_rfl
theorem glob_syn : Tryz.prog.globalNamed "strconv.ErrSyntax" = some 18 := by kernel_rfl
theorem glob_rng : Tryz.prog.globalNamed "strconv.ErrRange" = some 19 := by kernel_rfl
theorem LaidS.below {E : Nat → Addr} {w w' : World} (h : LaidS E w) (hb : Below w.heap.size w w') : LaidS E w' where
  laid := h.laid.below hb
  pow := Joins.tab_stays glob_pow h.pow hb (Nat.le_refl _)
  syn := let ⟨t, p, e⟩ := h.syn; ⟨t, p, Joins.var_stays glob_syn e hb (Nat.le_refl _)⟩
  rng := let ⟨t, p, e⟩ := h.rng; ⟨t, p, Joins.var_stays glob_rng e hb (Nat.le_refl _)⟩
  mx := let ⟨m, e⟩ := h.mx; ⟨m, cell_below hb e⟩

theorem below_grow (w : World) (k : Nat) (os : Array Obj) : Below w.heap.size w (grow (w.drewN k) os) :=
  ⟨rfl, rfl, rfl, by simp [grow], fun i hi => by
    show (w.heap ++ os)[i]? = w.heap[i]?
    rw [Array.getElem?_append_left hi]⟩
set_option maxRecDepth 100000 in
theorem itoa_any {E : Nat → Addr} (n : Int) (h0 : -9223372036854775808 ≤ n) (h1 : n ≤ 9223372036854775807) (w : World) (hL : LaidS E w) :
    Calls Tryz.prog 68 #[.int .i64 n] w fun e w' => e = .returned (.string (bs (Lib.itoa n))) ∧ Below w.heap.size w w' :=
  (show Calls Tryz.prog 68 #[.int .i64 n] w _ from Any.strconv_Itoa Tryz.itoaL n h0 h1 w hL.pow).mono fun e w' ⟨he, k, os, hw⟩ => ⟨he, by rw [hw]; exact below_grow w k os⟩
set_option maxRecDepth 100000 in
theorem atoi_ok (s : ByteArray) (hs : s.size ≤ 140737488355328) (v : Int) (h : Lib.atoiAll s.data.toList = .ok v) (w : World) :
    Calls Tryz.prog 77 #[.string s] w fun e w' => e = .returned (.tuple #[.int .i64 v, .nilIface]) ∧ Below w.heap.size w w' :=
  (show Calls Tryz.prog 77 #[.string s] w _ from Any.strconv_Atoi_ok Tryz.atoiL s (by omega) v h w).mono fun e w' ⟨he, hw⟩ => ⟨he, by
    rcases hw with rfl | ⟨t, rfl⟩
    · exact Below.refl _ _
    · exact Joins.below_bytesWorld _ _ _ _ (Nat.le_refl _)⟩
set_option maxRecDepth 100000 in
theorem atoi_bad {E : Nat → Addr} (s : ByteArray) (hs : s.size ≤ 140737488355328) (h : ∀ v, Lib.atoiAll s.data.toList ≠ .ok v) (w : World) (hL : LaidS E w) :
    Calls Tryz.prog 77 #[.string s] w fun e w' => ∃ n T N, e = .returned (.tuple #[.int .i64 n, .iface T (.pointer (some ⟨N, 0, none⟩))]) ∧ Below w.heap.size w w' := by
  rcases hc : Lib.atoiAll s.data.toList with v | _ | _
  · exact absurd hc (h v)
  · obtain ⟨t, p, hv⟩ := hL.syn
    exact (show Calls Tryz.prog 77 #[.string s] w _ from Any.strconv_Atoi_syntax_var Tryz.atoiL s (by omega) hc t p w hv).mono fun e w' ⟨N, he, _, _, hb⟩ => ⟨_, _, N, he, hb⟩
  · obtain ⟨t, p, hv⟩ := hL.rng
    exact (show Calls Tryz.prog 77 #[.string s] w _ from Any.strconv_Atoi_range_var Tryz.atoiL s (by omega) hc t p w hv).mono fun e w' ⟨N, he, _, _, hb⟩ => ⟨_, _, N, he, hb⟩

theorem number_none {l : List UInt8} {most : Int} (h : numOf l = none) : number l most = (0, false) := by unfold number; rw [h]
theorem atoiAll_ge {l : List UInt8} {v : Int} (h : Lib.atoiAll l = .ok v) : -9223372036854775808 ≤ v ∧ v ≤ 9223372036854775807 := by
  unfold Lib.atoiAll at h
  cases l with
  | nil => cases h
  | cons c r =>
    dsimp only at h
    rcases hm : Lib.parseMag (if c.toNat = 43 ∨ c.toNat = 45 then r else c :: r) with u | _ | _
    · rw [hm] at h
      dsimp only at h
      by_cases hn : c.toNat = 45
      · simp only [hn, not_true_eq_false, false_and, if_false, true_and, if_true] at h
        split at h
        · cases h
        · cases h; omega
      · simp only [hn, not_false_eq_true, true_and, false_and, if_false] at h
        split at h
        · cases h
        · cases h; omega
    · rw [hm] at h; cases h
    · rw [hm] at h; cases h
/-- seal.Number of what the law's texts hold. -/
def numRes (l : List UInt8) (most : Int) : Value := .tuple #[.int .i64 (number l most).1, .bool (number l most).2]
set_option maxRecDepth 100000 in
theorem number_any {E : Nat → Addr} (s : ByteArray) (most : Int) (w : World) (hL : LaidS E w) (hs : s.size ≤ 1000000) :
    Calls Tryz.prog 37 #[.string s, .int .i64 most] w fun e w' => e = .returned (numRes s.data.toList most) ∧ Below w.heap.size w w' := by
  have hlen : s.data.toList.length = s.size := Array.length_toList
  rcases hc : Lib.atoiAll s.data.toList with v | _ | _
  · have hat := Lib.hid (atoi_ok s (by omega) v hc w)
    have hvb := atoiAll_ge hc
    obtain ⟨hvb1, hvb2⟩ := hvb
    have hsome : ∀ n, numOf s.data.toList = some n → v = n ∧ s.size ≤ 10 ∧ Lib.itoa v = s.data.toList := fun n hn => by
      obtain ⟨h1, h2, h3, h4⟩ := numOf_some hn
      have := (atoi_good h1 h2).symm.trans hc
      injection this with h5
      rw [h3] at h5
      exact ⟨h5.symm, by omega, by rw [← h5]; exact h4⟩
    by_cases h10 : s.size ≤ 10
    case neg =>
      have hr := Lib.hid (show numRes s.data.toList most = .tuple #[.int .i64 0, .bool false] by
        unfold numRes
        rw [number_none]
        cases hn : numOf s.data.toList with
        | none => rfl
        | some n => exact absurd (hsome n hn).2.1 h10)
      clear hsome hc hlen
      go_enter Tryz.func37, Tryz.ntmps37
      go_wp2_with fail
      refine hat.out.mono ?_
      rintro e w1 ⟨rfl, hb⟩
      go_wp2_with fail
      go_ret2
      exact ⟨by rw [hr.out]; rfl, hb⟩
    by_cases hv0 : v < 0
    · have hr := Lib.hid (show numRes s.data.toList most = .tuple #[.int .i64 0, .bool false] by
        unfold numRes
        rw [number_none]
        cases hn : numOf s.data.toList with
        | none => rfl
        | some n => have := (hsome n hn).1; omega)
      clear hsome hc hlen
      go_enter Tryz.func37, Tryz.ntmps37
      go_wp2_with fail
      refine hat.out.mono ?_
      rintro e w1 ⟨rfl, hb⟩
      go_wp2_with fail
      go_ret2
      exact ⟨by rw [hr.out]; rfl, hb⟩
    by_cases hvm : most < v
    · have hr := Lib.hid (show numRes s.data.toList most = .tuple #[.int .i64 0, .bool false] by
        unfold numRes number
        cases hn : numOf s.data.toList with
        | none => rfl
        | some n =>
          have := (hsome n hn).1
          dsimp only
          rw [if_neg (by omega)])
      clear hsome hc hlen
      go_enter Tryz.func37, Tryz.ntmps37
      go_wp2_with fail
      refine hat.out.mono ?_
      rintro e w1 ⟨rfl, hb⟩
      go_wp2_with fail
      go_ret2
      exact ⟨by rw [hr.out]; rfl, hb⟩
    have hit := Lib.hid (fun wx hx => itoa_any v hvb1 hvb2 wx (hL.below hx))
    by_cases he : Lib.itoa v = s.data.toList
    · have hr := Lib.hid (show numRes s.data.toList most = .tuple #[.int .i64 v, .bool true] by
        obtain ⟨n, rfl⟩ := Int.eq_ofNat_of_zero_le (Int.not_lt.1 hv0)
        unfold numRes number
        rw [← he, numOf_itoa (by rw [he]; omega)]
        dsimp only
        rw [if_pos (by omega)])
      have hbe : ((bs (Lib.itoa v)).toList == s.toList) = true := by rw [toList_data, toList_data, bs_list, he]; exact beq_self_eq_true _
      clear he hsome hc hlen
      go_enter Tryz.func37, Tryz.ntmps37
      go_wp2_with fail
      refine hat.out.mono ?_
      rintro e w1 ⟨rfl, hb⟩
      go_wp2_with fail
      refine (hit.out _ hb).mono ?_
      rintro e w2 ⟨rfl, hb2⟩
      have hb2 := below_trans hb hb2
      go_wp2_with fail
      go_ret2
      exact ⟨by rw [hr.out]; rfl, hb2⟩
    · have hr := Lib.hid (show numRes s.data.toList most = .tuple #[.int .i64 0, .bool false] by
        unfold numRes
        rw [number_none]
        cases hn : numOf s.data.toList with
        | none => rfl
        | some n => exact absurd (hsome n hn).2.2 he)
      have hbe : ((bs (Lib.itoa v)).toList == s.toList) = false := by rw [toList_data, toList_data, bs_list, beq_eq_false_iff_ne]; exact he
      clear he hsome hc hlen
      go_enter Tryz.func37, Tryz.ntmps37
      go_wp2_with fail
      refine hat.out.mono ?_
      rintro e w1 ⟨rfl, hb⟩
      go_wp2_with fail
      refine (hit.out _ hb).mono ?_
      rintro e w2 ⟨rfl, hb2⟩
      have hb2 := below_trans hb hb2
      go_wp2_with fail
      go_ret2
      exact ⟨by rw [hr.out]; rfl, hb2⟩
  · have hat := Lib.hid (atoi_bad s (by omega) (fun v h => by rw [hc] at h; cases h) w hL)
    have hr := Lib.hid (show numRes s.data.toList most = .tuple #[.int .i64 0, .bool false] by
      unfold numRes
      rw [number_none]
      cases hn : numOf s.data.toList with
      | none => rfl
      | some n => obtain ⟨h1, h2, _⟩ := numOf_some hn; rw [atoi_good h1 h2] at hc; cases hc)
    clear hc hlen
    go_enter Tryz.func37, Tryz.ntmps37
    go_wp2_with fail
    refine hat.out.mono ?_
    rintro e w1 ⟨n, T, N, rfl, hb⟩
    go_wp2_with fail
    go_ret2
    exact ⟨by rw [hr.out]; rfl, hb⟩
  · have hat := Lib.hid (atoi_bad s (by omega) (fun v h => by rw [hc] at h; cases h) w hL)
    have hr := Lib.hid (show numRes s.data.toList most = .tuple #[.int .i64 0, .bool false] by
      unfold numRes
      rw [number_none]
      cases hn : numOf s.data.toList with
      | none => rfl
      | some n => obtain ⟨h1, h2, _⟩ := numOf_some hn; rw [atoi_good h1 h2] at hc; cases hc)
    clear hc hlen
    go_enter Tryz.func37, Tryz.ntmps37
    go_wp2_with fail
    refine hat.out.mono ?_
    rintro e w1 ⟨n, T, N, rfl, hb⟩
    go_wp2_with fail
    go_ret2
    exact ⟨by rw [hr.out]; rfl, hb⟩
end Go.Proofs.YtgainbpflncgcaaGreatDoor
