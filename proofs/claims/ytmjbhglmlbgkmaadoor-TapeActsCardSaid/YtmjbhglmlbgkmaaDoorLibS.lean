/- What the library's variables hold; strconv.Atoi, strconv.Itoa by contracts. -/
import Derived.Test.YtmjbhglmlbgkmaaDoorName
import Derived.Test.YtmjbhglmlbgkmaaDoorWords
import Derived.Test.YtmjbhglmlbgkmaaDoorBook
import Derived.Lib.SmallJoins
import Derived.Deep.LoopGhost
namespace Go.Proofs.YtmjbhglmlbgkmaaDoor
open Go.RowKit Go.Sort

/-- The sentinels, and the library's variables. -/
structure LaidS (E : Nat → Addr) (w : World) : Prop where
  laid : Laid E w
  pow : Lib.TabIs Tryd.prog w "internal/strconv.uint64pow10" .u64 Lib.pow10Tab
  syn : ∃ t p, w.var? Tryd.prog "strconv.ErrSyntax" = some #[.iface t p]
  rng : ∃ t p, w.var? Tryd.prog "strconv.ErrRange" = some #[.iface t p]
  mx : ∃ m, w.cell? ⟨17, 0, none⟩ = some (.int .i64 m)
theorem glob_pow : Tryd.prog.globalNamed "internal/strconv.uint64pow10" = some 20 := by kernel_rfl
theorem glob_syn : Tryd.prog.globalNamed "strconv.ErrSyntax" = some 18 := by kernel_rfl
theorem glob_rng : Tryd.prog.globalNamed "strconv.ErrRange" = some 19 := by kernel_rfl
theorem LaidS.below {E : Nat → Addr} {w w' : World} (h : LaidS E w) (hb : Below w.heap.size w w') : LaidS E w' where
  laid := h.laid.below hb
  pow := Joins.tab_stays glob_pow h.pow hb (Nat.le_refl _)
  syn := let ⟨t, p, e⟩ := h.syn; ⟨t, p, Joins.var_stays glob_syn e hb (Nat.le_refl _)⟩
  rng := let ⟨t, p, e⟩ := h.rng; ⟨t, p, Joins.var_stays glob_rng e hb (Nat.le_refl _)⟩
  mx := let ⟨m, e⟩ := h.mx; ⟨m, cell_below hb e⟩

theorem below_grow (w : World) (k : Nat) (os : Array Obj) : Below w.heap.size w (grow (w.drewN k) os) :=
  ⟨rfl, rfl, rfl, by simp [grow], fun i hi => by
    show (w.heap ++ os)[i]? = w.heap[i]?
    rw [Array.getElem?_append_left hi]⟩
set_option maxRecDepth 100000 in
theorem itoa_any {E : Nat → Addr} (n : Int) (h0 : -9223372036854775808 ≤ n) (h1 : n ≤ 9223372036854775807) (w : World) (hL : LaidS E w) :
    Calls Tryd.prog 73 #[.int .i64 n] w fun e w' => e = .returned (.string (bs (Lib.itoa n))) ∧ Below w.heap.size w w' :=
  (show Calls Tryd.prog 73 #[.int .i64 n] w _ from Any.strconv_Itoa Tryd.itoaL n h0 h1 w hL.pow).mono fun e w' ⟨he, k, os, hw⟩ => ⟨he, by rw [hw]; exact below_grow w k os⟩
set_option maxRecDepth 100000 in
theorem atoi_ok (s : ByteArray) (hs : s.size ≤ 140737488355328) (v : Int) (h : Lib.atoiAll s.data.toList = .ok v) (w : World) :
    Calls Tryd.prog 76 #[.string s] w fun e w' => e = .returned (.tuple #[.int .i64 v, .nilIface]) ∧ Below w.heap.size w w' :=
  (show Calls Tryd.prog 76 #[.string s] w _ from Any.strconv_Atoi_ok Tryd.atoiL s (by omega) v h w).mono fun e w' ⟨he, hw⟩ => ⟨he, by
    rcases hw with rfl | ⟨t, rfl⟩
    · exact Below.refl _ _
    · exact Joins.below_bytesWorld _ _ _ _ (Nat.le_refl _)⟩
set_option maxRecDepth 100000 in
theorem atoi_bad {E : Nat → Addr} (s : ByteArray) (hs : s.size ≤ 140737488355328) (h : ∀ v, Lib.atoiAll s.data.toList ≠ .ok v) (w : World) (hL : LaidS E w) :
    Calls Tryd.prog 76 #[.string s] w fun e w' => ∃ n T N, e = .returned (.tuple #[.int .i64 n, .iface T (.pointer (some ⟨N, 0, none⟩))]) ∧ Below w.heap.size w w' := by
  rcases hc : Lib.atoiAll s.data.toList with v | _ | _
  · exact absurd hc (h v)
  · obtain ⟨t, p, hv⟩ := hL.syn
    exact (show Calls Tryd.prog 76 #[.string s] w _ from Any.strconv_Atoi_syntax_var Tryd.atoiL s (by omega) hc t p w hv).mono fun e w' ⟨N, he, _, _, hb⟩ => ⟨_, _, N, he, hb⟩
  · obtain ⟨t, p, hv⟩ := hL.rng
    exact (show Calls Tryd.prog 76 #[.string s] w _ from Any.strconv_Atoi_range_var Tryd.atoiL s (by omega) hc t p w hv).mono fun e w' ⟨N, he, _, _, hb⟩ => ⟨_, _, N, he, hb⟩

theorem atoiAll_ge {l : List UInt8} {v : Int} (h : Lib.atoiAll l = .ok v) : -9223372036854775808 ≤ v ∧ v ≤ 9223372036854775807 := by
  unfold Lib.atoiAll at h
  cases l with
  | nil => cases h
  | cons c r =>
    dsimp only at h
    rcases hm : Lib.parseMag (if c.toNat = 43 ∨ c.toNat = 45 then r else c :: r) with u | _ | _
    · rw [hm] at h
      dsimp only at h
      by_cases hn : c.toNat = 45
      · simp only [hn, not_true_eq_false, false_and, if_false, true_and, if_true] at h
        split at h
        · cases h
        · cases h; omega
      · simp only [hn, not_false_eq_true, true_and, false_and, if_false] at h
        split at h
        · cases h
        · cases h; omega
    · rw [hm] at h; cases h
    · rw [hm] at h; cases h
end Go.Proofs.YtmjbhglmlbgkmaaDoor
