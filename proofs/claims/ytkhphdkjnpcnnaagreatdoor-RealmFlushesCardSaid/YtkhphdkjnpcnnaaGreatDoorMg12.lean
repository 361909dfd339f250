/- Mark, ErrAt, Make -/
import Derived.Test.YtkhphdkjnpcnnaaGreatDoorProg
import Derived.Test.YtkhphdkjnpcnnaaGreatDoorMg4
import Derived.WalkKit
import Derived.WalkSpells
import Derived.WalkLawsBesides
import Derived.Lib.Hide
import Derived.Deep.QuietTactic
import Derived.BigQuiet
import Derived.Test.YtkhphdkjnpcnnaaGreatDoorMg11
import Derived.Deep.RegionHeld3
/- The walks of package mark and of the reference's marks: each function computes what XPlain's functions say. -/
namespace Go.Proofs.YtkhphdkjnpcnnaaGreatDoor
open Go.RowKit

theorem isKey_any (k : Int) (w : World) :
    Calls Tryz.prog 35 #[.int .i64 k] w fun e w' => e = .returned (.bool (isKey k)) ∧ w = w' := by
  have e : isKey k = (decide (1 ≤ k) && decide (k < 1000000007)) := by unfold isKey; congr 1; exact decide_eq_decide.2 (by omega)
  rw [e]
  by_cases h : 1 ≤ k <;> by_cases h2 : k < 1000000007
  all_goals
    go_enter Tryz.func35, Tryz.ntmps35
    go_wp2
    go_ret
    exact ⟨by simp [h, h2], rfl⟩
set_option maxHeartbeats 400000 in
set_option maxRecDepth 100000 in
theorem more_ok (k n : Int) (s : ByteArray) (w : World) (hk : isKey k = true) (h0 : 0 ≤ n) (h1 : n < 1000000007) (hs : s.size ≤ maxLen):
    Calls Tryz.prog 78 #[.int .i64 k, .int .i64 n, .string s] w fun e w' => e = .returned (.tuple #[.int .i64 (mfold k n s.data.toList), .nilIface]) ∧ Below w.heap.size w w' := by
  unfold maxLen at hs
  have hk' := (isKey_iff k).1 hk
  obtain ⟨hk1, hk2⟩ := hk'
  have hcv := fun w => run_bytes_of_string (P := Tryz.prog) w 9 181 5 s Tryz.underlying9 Tryz.underlying181 Tryz.underlying5
  go_enter Tryz.func78, Tryz.ntmps78
  go_wp2_with (go_at_call 33; refine (key_any _ _).mono ?_; rintro e w' ⟨rfl, rfl⟩)
  go_loop [1, 26] (fun n' i => ∃ j : Nat, j ≤ s.size ∧ i = .int .i64 j ∧ n' = .int .i64 (mfold k n (s.data.toList.take j))) (fun _ i => s.size - (intOf i).toNat)
  case atStart => exact ⟨0, Nat.zero_le _, rfl, by simp [mfold]⟩
  case round =>
    obtain ⟨j, hj, rfl, rfl⟩ := hrel
    have hb := mfold_bd k (s.data.toList.take j) n h0 h1
    obtain ⟨hb0, hb1⟩ := hb
    have hc : j < s.size → ∀ c f, (w.alloc (.cells (bytesRow s c) 5 f)).cell? ⟨w.heap.size, j, none⟩ = some (.int .u8 ((byteAt s j).toNat : Int)) := fun h c f => bytesRow_cell w s j h _ _ _
    have hcb : (byteAt s j).toNat < 256 := UInt8.toNat_lt _
    have hS : Hid (j < s.size → mfold k n (s.data.toList.take (j + 1)) = (mfold k n (s.data.toList.take j) * 257 + (byteAt s j).toNat + 1 + k) % 1000000007) := by
      intro h
      rw [take_succ_byte s j h, mfold_snoc]; rfl
    have hE : Hid (¬ j < s.size → mfold k n (s.data.toList.take j) = mfold k n s.data.toList) := by
      intro h
      rw [show j = s.size by omega, take_all]
    generalize (byteAt s j).toNat = c at *
    generalize mfold k n (s.data.toList.take j) = m at *
    by_cases hlt : j < s.size
    · have hc := hc hlt
      go_wp2
      go_round
      case rel => exact ⟨j + 1, by omega, by go_num, by rw [hS.out hlt]⟩
      case measure => simp [intOf]; omega
    · have hE := Lib.hid (hE.out hlt)
      clear hc hS
      go_wp2
      go_ret2
      exact ⟨ret_int2 hE.out, ((Below.refl _ _).alloc (Nat.le_refl _) _).drew⟩
theorem more_key (E : Addr) (k n : Int) (s : ByteArray) (w : World) (hk : isKey k = false) (hE : w.cell? ⟨0, 0, none⟩ = some (.iface 309 (.pointer (some E)))) :
    Calls Tryz.prog 78 #[.int .i64 k, .int .i64 n, .string s] w fun e w' => e = .returned (.tuple #[.int .i64 0, .iface 309 (.pointer (some E))]) ∧ Below w.heap.size w w' := by
  go_enter Tryz.func78, Tryz.ntmps78
  go_wp2_with (go_at_call 33; refine (key_any _ _).mono ?_; rintro e w' ⟨rfl, rfl⟩)
  go_quiet (fail)
  go_wp2
  go_ret2
  exact ⟨rfl, below_drewN (Below.refl _ _) _⟩
theorem more_bound (E : Addr) (k n : Int) (s : ByteArray) (w : World) (hk : isKey k = true) (hn : ¬ (0 ≤ n ∧ n < 1000000007)) (hE : w.cell? ⟨1, 0, none⟩ = some (.iface 309 (.pointer (some E)))) :
    Calls Tryz.prog 78 #[.int .i64 k, .int .i64 n, .string s] w fun e w' => e = .returned (.tuple #[.int .i64 0, .iface 309 (.pointer (some E))]) ∧ Below w.heap.size w w' := by
  have hn' : n < 0 ∨ 1000000007 ≤ n := by omega
  clear hn
  go_enter Tryz.func78, Tryz.ntmps78
  rcases hn' with h | h
  all_goals
    go_wp2_with (go_at_call 33; refine (key_any _ _).mono ?_; rintro e w' ⟨rfl, rfl⟩)
    go_quiet (fail)
    go_wp2
    go_ret2
    exact ⟨rfl, below_drewN (Below.refl _ _) _⟩

theorem more_any {E : Nat → Addr} (k n : Int) (s : ByteArray) (w : World) (hL : Laid E w) (hs : s.size ≤ maxLen) :
    Calls Tryz.prog 78 #[.int .i64 k, .int .i64 n, .string s] w fun e w' => e = .returned (.tuple #[.int .i64 (more k n s.data.toList).1, errV E (more k n s.data.toList).2]) ∧ Below w.heap.size w w' := by
  unfold more
  by_cases hk : isKey k = true
  · by_cases hn : 0 ≤ n ∧ n < 1000000007
    · rw [if_pos hk, if_pos hn]; exact more_ok k n s w hk hn.1 hn.2 hs
    · rw [if_pos hk, if_neg hn]; exact more_bound _ k n s w hk hn hL.e2
  · rw [if_neg hk]; exact more_key _ k n s w (by simpa using hk) hL.e10
set_option maxRecDepth 100000 in
theorem of_any {E : Nat → Addr} (k : Int) (s : ByteArray) (w : World) (hL : Laid E w) (hs : s.size ≤ maxLen) :
    Calls Tryz.prog 32 #[.int .i64 k, .string s] w fun e w' => e = .returned (.tuple #[.int .i64 (markOf k s.data.toList).1, errV E (markOf k s.data.toList).2]) ∧ Below w.heap.size w w' := by
  by_cases hk : 0 ≤ k
  · have hm := more_any (E := E) k (k % 1000000007) s w hL hs
    rw [markOf_more, show max k 0 = k by omega]
    generalize more k (k % 1000000007) s.data.toList = p at *
    go_enter Tryz.func32, Tryz.ntmps32
    go_wp2_with fail
    all_goals
      (try rw [show max k 0 = k by omega])
      refine hm.mono ?_
      rintro e w' ⟨rfl, hb⟩
      go_wp2
      go_ret2
      exact ⟨rfl, hb⟩
  · have hm := more_any (E := E) k 0 s w hL hs
    rw [markOf_more, show max k 0 % 1000000007 = 0 by omega]
    generalize more k 0 s.data.toList = p at *
    go_enter Tryz.func32, Tryz.ntmps32
    go_wp2_with fail
    all_goals
      (try rw [show max k 0 % 1000000007 = 0 by omega])
      refine hm.mono ?_
      rintro e w' ⟨rfl, hb⟩
      go_wp2
      go_ret2
      exact ⟨rfl, hb⟩
/-- Right: an error's number. -/
theorem right_any {E : Nat → Addr} (k n : Int) (s : ByteArray) (w : World) (hL : Laid E w) (hs : s.size ≤ maxLen) :
    Calls Tryz.prog 51 #[.int .i64 k, .string s, .int .i64 n] w fun e w' => e = .returned (errV E (rightOf k s.data.toList n)) ∧ Below w.heap.size w w' := by
  have hm := of_any (E := E) k s w hL hs
  unfold rightOf
  generalize markOf k s.data.toList = p at *
  obtain ⟨m, c⟩ := p
  dsimp only at *
  rcases c with _ | c
  · by_cases hmn : m = n
    · subst hmn
      rw [if_pos rfl, if_pos rfl]
      go_enter Tryz.func51, Tryz.ntmps51
      go_wp2_with fail
      refine hm.mono ?_
      rintro e w' ⟨rfl, hb⟩
      rw [errV_zero]
      go_wp2
      go_ret
      exact ⟨rfl, hb⟩
    · rw [if_pos rfl, if_neg hmn]
      have hmn' : (m != n) = true := by simpa using hmn
      clear hmn
      go_enter Tryz.func51, Tryz.ntmps51
      go_wp2_with fail
      refine hm.mono ?_
      rintro e w' ⟨rfl, hb⟩
      rw [errV_zero]
      have he := (hL.below hb).e9
      go_wp2
      go_ret
      exact ⟨rfl, hb⟩
  · rw [if_neg (by omega)]
    go_enter Tryz.func51, Tryz.ntmps51
    go_wp2_with fail
    refine hm.mono ?_
    rintro e w' ⟨rfl, hb⟩
    rw [errV_succ]
    go_wp2
    go_ret
    exact ⟨rfl, hb⟩

theorem drop_byte (s : ByteArray) (d : Nat) (h : d < s.size) : s.data.toList.drop d = byteAt s d :: s.data.toList.drop (d + 1) := by
  have h' : d < s.data.size := h
  rw [List.drop_eq_getElem_cons (by simpa using h), byteAt_eq s d h]; rfl
theorem drop_all (s : ByteArray) : s.data.toList.drop s.size = [] := List.drop_eq_nil_of_le (by simp)
theorem mul_bd (a b : Int) (h0 : 0 ≤ a) (h1 : a < 1000000007) (h2 : 0 ≤ b) (h3 : b < 1000000007) : 0 ≤ a * b ∧ a * b ≤ 1000000012000000036 :=
  ⟨Int.mul_nonneg h0 h2, by have := Int.mul_le_mul (show a ≤ 1000000006 by omega) (show b ≤ 1000000006 by omega) h2 (by omega); omega⟩
set_option maxHeartbeats 400000 in
set_option maxRecDepth 100000 in
theorem from_ok (k n : Int) (s : ByteArray) (w : World) (hk : isKey k = true) (h0 : 0 ≤ n) (h1 : n < 1000000007) (hs : s.size ≤ maxLen):
    Calls Tryz.prog 73 #[.int .i64 k, .int .i64 n, .string s] w fun e w' => e = .returned (.tuple #[.int .i64 (mfold k n s.data.toList), .int .i64 0]) ∧ w = w' := by
  unfold maxLen at hs
  have hk' := (isKey_iff k).1 hk
  obtain ⟨hk1, hk2⟩ := hk'
  have hfin := Lib.hid (mfold_msuf k s.data.toList n h0 h1)
  go_enter Tryz.func73, Tryz.ntmps73
  go_wp2_with (go_at_call 35; refine (isKey_any _ _).mono ?_; rintro e w' ⟨rfl, rfl⟩)
  go_loop [9, 10, 11] (fun p o i => ∃ d : Nat, d ≤ s.size ∧ i = .int .i64 ((d : Int) - 1) ∧ o = .int .i64 (msuf k (s.data.toList.drop d)).1 ∧ p = .int .i64 (msuf k (s.data.toList.drop d)).2) (fun _ _ i => (intOf i + 1).toNat)
  case atStart => exact ⟨s.size, Nat.le_refl _, rfl, by rw [drop_all]; rfl, by rw [drop_all]; rfl⟩
  case round =>
    obtain ⟨d, hd, rfl, rfl, rfl⟩ := hrel
    rcases d with _ | d
    · rw [show ((0 : Nat) : Int) - 1 = -1 by omega]
      have hfin' : Hid (mfold k n s.data.toList = ((msuf k (s.data.toList.drop 0)).1 + (msuf k (s.data.toList.drop 0)).2 * n) % 1000000007) := by rw [List.drop_zero]; exact hfin.out
      obtain ⟨hb0, hb1, hb2, hb3⟩ := msuf_bd k (s.data.toList.drop 0)
      generalize (msuf k (s.data.toList.drop 0)).2 = p at *
      generalize (msuf k (s.data.toList.drop 0)).1 = o at *
      have hx := mul_bd p n hb2 hb3 h0 h1
      go_wp2
      go_ret2
      exact ⟨ret_int2 hfin'.out.symm, rfl⟩
    · rw [show ((d + 1 : Nat) : Int) - 1 = (d : Int) by omega]
      have hS : Hid (msuf k (s.data.toList.drop d) = (((msuf k (s.data.toList.drop (d + 1))).1 + (msuf k (s.data.toList.drop (d + 1))).2 * (((byteAt s d).toNat + 1 + k) % 1000000007)) % 1000000007, (msuf k (s.data.toList.drop (d + 1))).2 * 257 % 1000000007)) := by
        rw [drop_byte s d hd]; rfl
      obtain ⟨hb0, hb1, hb2, hb3⟩ := msuf_bd k (s.data.toList.drop (d + 1))
      have hx := mul_bd (msuf k (s.data.toList.drop (d + 1))).2 (((s[d].toNat : Int) + 1 + k) % 1000000007) hb2 hb3 (by omega) (by omega)
      generalize (msuf k (s.data.toList.drop (d + 1))).2 = p at *
      generalize (msuf k (s.data.toList.drop (d + 1))).1 = o at *
      have hcb : s[d].toNat < 256 := UInt8.toNat_lt _
      go_wp2
      exact ⟨⟨d, by omega, rfl, by rw [hS.out, byteAt_eq s d hd], by rw [hS.out]⟩, by simp [intOf]⟩

theorem from_any (k n : Int) (s : ByteArray) (w : World) (hs : s.size ≤ maxLen) :
    Calls Tryz.prog 73 #[.int .i64 k, .int .i64 n, .string s] w fun e w' => e = .returned (.tuple #[.int .i64 (more k n s.data.toList).1, .int .i64 ((more k n s.data.toList).2 : Nat)]) ∧ w = w' := by
  unfold more
  by_cases hk : isKey k = true
  · by_cases hn : 0 ≤ n ∧ n < 1000000007
    · rw [if_pos hk, if_pos hn]; exact from_ok k n s w hk hn.1 hn.2 hs
    · rw [if_pos hk, if_neg hn]
      have hn' : n < 0 ∨ 1000000007 ≤ n := by omega
      clear hn
      go_enter Tryz.func73, Tryz.ntmps73
      rcases hn' with h | h
      all_goals
        go_wp2_with (go_at_call 35; refine (isKey_any _ _).mono ?_; rintro e w' ⟨rfl, rfl⟩)
        go_ret2
        exact ⟨rfl, rfl⟩
  · rw [if_neg hk]
    have hk : isKey k = false := by simpa using hk
    go_enter Tryz.func73, Tryz.ntmps73
    go_wp2_with (go_at_call 35; refine (isKey_any _ _).mono ?_; rintro e w' ⟨rfl, rfl⟩)
    go_ret2
    exact ⟨rfl, rfl⟩
theorem markOf_any (k : Int) (s : ByteArray) (w : World) (hs : s.size ≤ maxLen) :
    Calls Tryz.prog 24 #[.int .i64 k, .string s] w fun e w' => e = .returned (.tuple #[.int .i64 (markOf k s.data.toList).1, .int .i64 ((markOf k s.data.toList).2 : Nat)]) ∧ w = w' := by
  unfold markOf
  by_cases hk : isKey k = true
  · rw [if_pos hk]
    have hk' := (isKey_iff k).1 hk
    have hm := from_ok k k s w hk (by omega) (by omega) hs
    clear hk'
    go_enter Tryz.func24, Tryz.ntmps24
    go_wp2_with (first | (go_at_call 35; refine (isKey_any _ _).mono ?_; rintro e w' ⟨rfl, rfl⟩) | (go_at_call 73; refine hm.mono ?_; rintro e w' ⟨rfl, rfl⟩))
    go_ret2
    exact ⟨rfl, rfl⟩
  · rw [if_neg hk]
    have hk : isKey k = false := by simpa using hk
    go_enter Tryz.func24, Tryz.ntmps24
    go_wp2_with (go_at_call 35; refine (isKey_any _ _).mono ?_; rintro e w' ⟨rfl, rfl⟩)
    go_ret2
    exact ⟨rfl, rfl⟩
theorem markError_any (k n : Int) (s : ByteArray) (w : World) (hs : s.size ≤ maxLen) :
    Calls Tryz.prog 81 #[.int .i64 k, .string s, .int .i64 n] w fun e w' => e = .returned (.int .i64 (rightOf k s.data.toList n : Nat)) ∧ w = w' := by
  have hm := markOf_any k s w hs
  unfold rightOf
  generalize markOf k s.data.toList = p at *
  obtain ⟨m, c⟩ := p
  dsimp only at *
  rcases c with _ | c
  · by_cases hmn : m = n
    · subst hmn
      rw [if_pos rfl, if_pos rfl]
      go_enter Tryz.func81, Tryz.ntmps81
      go_wp2_with fail
      refine hm.mono ?_
      rintro e w' ⟨rfl, rfl⟩
      go_wp2
      go_ret
      exact ⟨rfl, rfl⟩
    · rw [if_pos rfl, if_neg hmn]
      have hmn' : (m != n) = true := by simpa using hmn
      clear hmn
      go_enter Tryz.func81, Tryz.ntmps81
      go_wp2_with fail
      refine hm.mono ?_
      rintro e w' ⟨rfl, rfl⟩
      go_wp2
      go_ret
      exact ⟨rfl, rfl⟩
  · rw [if_neg (by omega)]
    have hc : (((c + 1 : Nat) : Int) == 0) = false := beq_eq_false_iff_ne.2 (by omega)
    generalize ((c + 1 : Nat) : Int) = d at *
    go_enter Tryz.func81, Tryz.ntmps81
    go_wp2_with fail
    refine hm.mono ?_
    rintro e w' ⟨rfl, rfl⟩
    go_wp2
    go_ret
    exact ⟨rfl, rfl⟩
end Go.Proofs.YtkhphdkjnpcnnaaGreatDoor

/- An error value with its place. -/
namespace Go.Proofs.YtkhphdkjnpcnnaaGreatDoor
open Go.RowKit

/-- An error value: its number, its place. -/
def ErrAt (E : Nat → Addr) (w : World) (v : Value) (c : Nat) (at_ : Int) : Prop :=
  (at_ = -1 ∧ v = errV E c) ∨ ∃ N, v = .iface 155 (.pointer (some ⟨N, 0, none⟩)) ∧ 1 ≤ c ∧ w.cell? ⟨N, 0, none⟩ = some (.int .i64 at_) ∧ w.cell? ⟨N, 0 + 1, none⟩ = some (errV E c)
theorem ErrAt.below {E : Nat → Addr} {w w' : World} {v : Value} {c : Nat} {at_ : Int} (h : ErrAt E w v c at_) (hb : Below w.heap.size w w') : ErrAt E w' v c at_ := by
  rcases h with h | ⟨N, h1, h2, h3, h4⟩
  · exact .inl h
  · exact .inr ⟨N, h1, h2, cell_below hb h3, cell_below hb h4⟩
theorem ErrAt.bare {E : Nat → Addr} {w : World} (c : Nat) : ErrAt E w (errV E c) c (-1) := .inl ⟨rfl, rfl⟩
theorem ErrAt.iface {E : Nat → Addr} {w : World} {v : Value} {c : Nat} {a : Int} (h : ErrAt E w v c a) (hc : c ≠ 0) : ∃ T x, v = .iface T (.pointer (some x)) := by
  rcases h with ⟨_, rfl⟩ | ⟨N, rfl, _⟩
  · cases c with
    | zero => exact absurd rfl hc
    | succ c => exact ⟨_, _, rfl⟩
  · exact ⟨_, _, rfl⟩
theorem ErrAt.zero {E : Nat → Addr} {w : World} {v : Value} {c : Nat} {a : Int} (h : ErrAt E w v c a) (hc : c = 0) : v = .nilIface ∧ a = -1 := by
  rcases h with ⟨ha, rfl⟩ | ⟨N, rfl, h1, _⟩
  · subst hc
    exact ⟨rfl, ha⟩
  · omega
end Go.Proofs.YtkhphdkjnpcnnaaGreatDoor

/- seal.Make by its contract. -/
namespace Go.Proofs.YtkhphdkjnpcnnaaGreatDoor
open Go.RowKit

set_option maxRecDepth 100000 in
theorem join_any (v : Value) (W : List (List UInt8)) (w : World) (hv : TextsAt w v W) (h1 : 1 ≤ W.length) (h10 : W.length ≤ 10) (hw : ∀ x ∈ W, x.length ≤ 20) :
    Calls Tryz.prog 141 #[v, .string ⟨#[32]⟩] w fun e w' => e = .returned (.string (bs (glue 32 W))) ∧ Below w.heap.size w w' := by
  obtain ⟨a, c, rfl, _, hcap, hc⟩ := hv
  obtain ⟨b, o, rfl, h0⟩ := hc 0 (by omega)
  have hlt := World.block_lt_of_cell? w _ h0
  have hmap : (W.map bs).map (fun x => x.data.toList) = W := by
    rw [List.map_map]
    have : ((fun x : ByteArray => x.data.toList) ∘ bs) = id := by funext x; exact bs_list x
    rw [this, List.map_id]
  have hj : Lib.join ((W.map bs).map (fun x => x.data.toList)) (⟨#[32]⟩ : ByteArray).data.toList = glue 32 W := by
    rw [hmap]
    exact join_glue 32 W
  have h := Any.strings_Join Tryz.joinL Tryz.joinX b o c (W.map bs) ⟨#[32]⟩ w (fun j x hx => by
      rw [List.getElem?_map] at hx
      cases hj : W[j]? with
      | none => rw [hj] at hx; cases hx
      | some y =>
        rw [hj] at hx
        cases hx
        obtain ⟨hlt2, rfl⟩ := List.getElem?_eq_some_iff.1 hj
        obtain ⟨b2, o2, he, hc2⟩ := hc j hlt2
        cases he
        exact hc2) hlt (by rw [List.length_map]; omega) (by rw [List.length_map]; exact hcap) (by
      rw [hj]
      have := glue_len 32 W hw
      omega)
  rw [hj, List.length_map] at h
  exact h

theorem ret_str2 {a b : ByteArray} {v : Value} (h : a = b) : Ending.returned (.tuple #[.string a, v]) = .returned (.tuple #[.string b, v]) := by rw [h]
theorem str_add (a b : List UInt8) : bs a ++ bs b = bs (a ++ b) := by
  apply ByteArray.ext
  simp [bs]
set_option maxHeartbeats 1000000 in
set_option maxRecDepth 100000 in
theorem make_any {E : Nat → Addr} (k : Int) (v : Value) (W : List (List UInt8)) (w : World) (hL : LaidS E w) (hv : TextsAt w v W) (hm : ∀ x ∈ W, x.length ≤ maxLen) :
    Calls Tryz.prog 99 #[.int .i64 k, v] w fun e w' => ∃ ev, e = .returned (.tuple #[.string (bs (makeOf k W).1), ev]) ∧ ErrAt E w' ev (makeOf k W).2.1 (makeOf k W).2.2 ∧ Below w.heap.size w w' := by
  have hv' := Lib.hid hv
  obtain ⟨a, c, rfl, hlen, _, _⟩ := hv
  unfold maxLen at hlen
  by_cases hk : isKey k = true
  case neg =>
    have hk : isKey k = false := by simpa using hk
    have hr := Lib.hid (show makeOf k W = ([], 10, -1) by unfold makeOf; rw [if_pos hk])
    have he := hL.laid.e10
    go_enter Tryz.func99, Tryz.ntmps99
    go_wp2_with (go_at_call 33; refine (key_any _ _).mono ?_; rintro e w' ⟨rfl, rfl⟩)
    go_quiet (fail)
    go_wp2_with fail
    go_ret2
    exact ⟨_, by rw [hr.out]; rfl, by rw [hr.out]; exact ErrAt.bare 10, below_drawn (Below.refl _ _) _⟩
  have hk' := Lib.hid (show ¬ isKey k = false by rw [hk]; decide)
  by_cases h0 : W.length = 0
  · have hr := Lib.hid (show makeOf k W = ([], 3, -1) by unfold makeOf; rw [if_neg hk'.out, if_pos (.inl h0)])
    have he := hL.laid.e3
    have hz : ((W.length : Int) == 0) = true := by rw [beq_iff_eq]; omega
    clear h0
    go_enter Tryz.func99, Tryz.ntmps99
    go_wp2_with (go_at_call 33; refine (key_any _ _).mono ?_; rintro e w' ⟨rfl, rfl⟩)
    go_quiet (fail)
    go_wp2_with fail
    go_ret2
    exact ⟨_, by rw [hr.out]; rfl, by rw [hr.out]; exact ErrAt.bare 3, below_drawn (Below.refl _ _) _⟩
  have hz : ((W.length : Int) == 0) = false := by rw [beq_eq_false_iff_ne]; omega
  by_cases h10 : 10 < W.length
  · have hr := Lib.hid (show makeOf k W = ([], 3, -1) by unfold makeOf; rw [if_neg hk'.out, if_pos (.inr h10)])
    have he := hL.laid.e3
    have h10' : decide ((10 : Int) < (W.length : Int)) = true := decide_eq_true (by omega)
    clear h0
    go_enter Tryz.func99, Tryz.ntmps99
    go_wp2_with (go_at_call 33; refine (key_any _ _).mono ?_; rintro e w' ⟨rfl, rfl⟩)
    go_quiet (fail)
    go_wp2_with fail
    go_ret2
    exact ⟨_, by rw [hr.out]; rfl, by rw [hr.out]; exact ErrAt.bare 3, below_drawn (Below.refl _ _) _⟩
  have h10' : decide ((10 : Int) < (W.length : Int)) = false := decide_eq_false (by omega)
  have hix := Lib.hid (index_any _ W 139 w hv'.out hm (make1_bad w) (enters_of Tryz.func139 (by kernel_rfl) rfl))
  have h0' := Lib.hid (show ¬ (W.length = 0 ∨ 10 < W.length) by omega)
  rcases badIdx_cases W with ⟨hb, hall⟩ | ⟨j, hj, hb, _, _⟩
  case inr =>
    have hr := Lib.hid (show makeOf k W = ([], 1, (j : Int)) by unfold makeOf; rw [if_neg hk'.out, if_neg h0'.out, if_neg (by rw [hb]; omega), hb])
    rw [hb] at hix
    have hj0 : (0 : Int) ≤ (j : Int) := by omega
    clear h0 hb h10 hm
    go_enter Tryz.func99, Tryz.ntmps99
    go_wp2_with (go_at_call 33; refine (key_any _ _).mono ?_; rintro e w' ⟨rfl, rfl⟩)
    refine hix.out.mono ?_
    rintro e w1 ⟨rfl, hb1⟩
    have he := (hL.below hb1).laid.e1
    have hb1 := Lib.hid hb1
    simp only [errV] at he
    go_wp2_with fail
    go_region
    all_goals
      go_wp2_with fail
      go_ret2
      refine ⟨_, by rw [hr.out]; rfl, ?_, ((hb1.out.alloc hb1.out.size _)).drew⟩
      rw [hr.out]
      exact .inr ⟨w1.heap.size, rfl, Nat.le_refl 1, by simp, by simp [errV]⟩
  case inl =>
    have hr := Lib.hid (show makeOf k W = (sealText k W, 0, -1) by unfold makeOf; rw [if_neg hk'.out, if_neg h0'.out, if_pos hb])
    rw [hb] at hix
    have hw20 : ∀ x ∈ W, x.length ≤ 20 := fun x hx => ((isWord_iff x).1 (hall x hx)).2.1
    have hgl := glue_len 32 W hw20
    have hjo := Lib.hid (fun wx (hx : Below w.heap.size w wx) => join_any _ W wx (hv'.out.below hx) (by omega) (by omega) hw20)
    have hof := Lib.hid (fun wx (hx : Below w.heap.size w wx) => of_any k (bs (glue 32 W)) wx (hL.below hx).laid (by rw [bs_size]; unfold maxLen; omega))
    have hmb := markOf_bd k (glue 32 W)
    have hit := Lib.hid (fun wx (hx : Below w.heap.size w wx) => itoa_any (markOf k (glue 32 W)).1 (by omega) (by omega) wx (hL.below hx))
    have hcode := Lib.hid (show (markOf k (glue 32 W)).2 = 0 by unfold markOf; rw [if_pos hk])
    have hsz1 : (bs (glue 32 W)).size ≤ 300 := by rw [bs_size]; omega
    have hsz2 : (bs (glue 32 W) ++ (⟨#[32]⟩ : ByteArray)).size ≤ 301 := by
      rw [ByteArray.size_append]
      have : (⟨#[32]⟩ : ByteArray).size = 1 := rfl
      omega
    have hsz3 : (bs (Lib.itoa (markOf k (glue 32 W)).1)).size ≤ 20 := by rw [bs_size]; exact itoa_len (by omega) (by omega)
    clear h0 hb h10 hm hall hw20 hgl
    go_enter Tryz.func99, Tryz.ntmps99
    go_wp2_with (go_at_call 33; refine (key_any _ _).mono ?_; rintro e w' ⟨rfl, rfl⟩)
    refine hix.out.mono ?_
    rintro e w1 ⟨rfl, hb1⟩
    have hb1 := Lib.hid hb1
    go_wp2_with fail
    refine (hjo.out _ hb1.out).mono ?_
    rintro e w2 ⟨rfl, hb2⟩
    have hb2 := Lib.hid (below_trans hb1.out hb2)
    go_wp2_with fail
    refine (hof.out _ hb2.out).mono ?_
    rintro e w3 ⟨rfl, hb3⟩
    have hb3 := Lib.hid (below_trans hb2.out hb3)
    rw [bs_list, hcode.out]
    simp only [errV]
    go_wp2_with fail
    refine (hit.out _ hb3.out).mono ?_
    rintro e w4 ⟨rfl, hb4⟩
    have hb4 := Lib.hid (below_trans hb3.out hb4)
    go_wp2_with fail
    go_ret2
    refine ⟨.nilIface, ?_, by rw [hr.out]; exact ErrAt.bare 0, hb4.out⟩
    rw [hr.out]
    exact ret_str2 (show bs (glue 32 W) ++ bs [32] ++ bs (Lib.itoa (markOf k (glue 32 W)).1) = bs (sealText k W) by
      rw [str_add, str_add, List.append_assoc]
      rfl)
end Go.Proofs.YtkhphdkjnpcnnaaGreatDoor
