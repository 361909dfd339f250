/- Mark, Make, Held, FloT -/
import Derived.Test.YtcnadjdijolboaaGreatDoorProg
import Derived.Test.YtcnadjdijolboaaGreatDoorMg3
import Derived.WalkKit
import Derived.WalkSpells
import Derived.WalkLawsBesides
import Derived.Lib.Hide
import Derived.Deep.QuietTactic
import Derived.BigQuiet
import Derived.Test.YtcnadjdijolboaaGreatDoorMg8
import Derived.Deep.RegionHeld3
import Derived.Test.YtcnadjdijolboaaGreatDoorMg4
/- The walks of package mark and of the reference's marks: each function computes what XPlain's functions say. -/
namespace Go.Proofs.YtcnadjdijolboaaGreatDoor
open Go.RowKit

theorem isKey_any (k : Int) (w : World) :
    Calls Tryz.prog 75 #[.int .i64 k] w fun e w' => e = .returned (.bool (isKey k)) ∧ w = w' := by
  have e : isKey k = (decide (1 ≤ k) && decide (k < 1000000007)) := by unfold isKey; congr 1; exact decide_eq_decide.2 (by omega)
  rw [e]
  by_cases h : 1 ≤ k <;> by_cases h2 : k < 1000000007
  all_goals
    go_enter Tryz.func75, Tryz.ntmps75
    go_wp2
    go_ret
    exact ⟨by simp [h, h2], rfl⟩
set_option maxHeartbeats 400000 in
set_option maxRecDepth 100000 in
theorem more_ok (k n : Int) (s : ByteArray) (w : World) (hk : isKey k = true) (h0 : 0 ≤ n) (h1 : n < 1000000007) (hs : s.size ≤ maxLen):
    Calls Tryz.prog 74 #[.int .i64 k, .int .i64 n, .string s] w fun e w' => e = .returned (.tuple #[.int .i64 (mfold k n s.data.toList), .nilIface]) ∧ Below w.heap.size w w' := by
  unfold maxLen at hs
  have hk' := (isKey_iff k).1 hk
  obtain ⟨hk1, hk2⟩ := hk'
  have hcv := fun w => run_bytes_of_string (P := Tryz.prog) w 9 86 5 s Tryz.underlying9 Tryz.underlying86 Tryz.underlying5
  go_enter Tryz.func74, Tryz.ntmps74
  go_wp2_with (go_at_call 107; refine (key_any _ _).mono ?_; rintro e w' ⟨rfl, rfl⟩)
  go_loop [1, 26] (fun n' i => ∃ j : Nat, j ≤ s.size ∧ i = .int .i64 j ∧ n' = .int .i64 (mfold k n (s.data.toList.take j))) (fun _ i => s.size - (intOf i).toNat)
  case atStart => exact ⟨0, Nat.zero_le _, rfl, by simp [mfold]⟩
  case round =>
    obtain ⟨j, hj, rfl, rfl⟩ := hrel
    have hb := mfold_bd k (s.data.toList.take j) n h0 h1
    obtain ⟨hb0, hb1⟩ := hb
    have hc : j < s.size → ∀ c f, (w.alloc (.cells (bytesRow s c) 5 f)).cell? ⟨w.heap.size, j, none⟩ = some (.int .u8 ((byteAt s j).toNat : Int)) := fun h c f => bytesRow_cell w s j h _ _ _
    have hcb : (byteAt s j).toNat < 256 := UInt8.toNat_lt _
    have hS : Hid (j < s.size → mfold k n (s.data.toList.take (j + 1)) = (mfold k n (s.data.toList.take j) * 257 + (byteAt s j).toNat + 1 + k) % 1000000007) := by
      intro h
      rw [take_succ_byte s j h, mfold_snoc]; rfl
    have hE : Hid (¬ j < s.size → mfold k n (s.data.toList.take j) = mfold k n s.data.toList) := by
      intro h
      rw [show j = s.size by omega, take_all]
    generalize (byteAt s j).toNat = c at *
    generalize mfold k n (s.data.toList.take j) = m at *
    by_cases hlt : j < s.size
    · have hc := hc hlt
      go_wp2
      go_round
      case rel => exact ⟨j + 1, by omega, by go_num, by rw [hS.out hlt]⟩
      case measure => simp [intOf]; omega
    · have hE := Lib.hid (hE.out hlt)
      clear hc hS
      go_wp2
      go_ret2
      exact ⟨ret_int2 hE.out, ((Below.refl _ _).alloc (Nat.le_refl _) _).drew⟩
theorem more_key (E : Addr) (k n : Int) (s : ByteArray) (w : World) (hk : isKey k = false) (hE : w.cell? ⟨9, 0, none⟩ = some (.iface 201 (.pointer (some E)))) :
    Calls Tryz.prog 74 #[.int .i64 k, .int .i64 n, .string s] w fun e w' => e = .returned (.tuple #[.int .i64 0, .iface 201 (.pointer (some E))]) ∧ Below w.heap.size w w' := by
  go_enter Tryz.func74, Tryz.ntmps74
  go_wp2_with (go_at_call 107; refine (key_any _ _).mono ?_; rintro e w' ⟨rfl, rfl⟩)
  go_quiet (fail)
  go_wp2
  go_ret2
  exact ⟨rfl, below_drewN (Below.refl _ _) _⟩
theorem more_bound (E : Addr) (k n : Int) (s : ByteArray) (w : World) (hk : isKey k = true) (hn : ¬ (0 ≤ n ∧ n < 1000000007)) (hE : w.cell? ⟨5, 0, none⟩ = some (.iface 201 (.pointer (some E)))) :
    Calls Tryz.prog 74 #[.int .i64 k, .int .i64 n, .string s] w fun e w' => e = .returned (.tuple #[.int .i64 0, .iface 201 (.pointer (some E))]) ∧ Below w.heap.size w w' := by
  have hn' : n < 0 ∨ 1000000007 ≤ n := by omega
  clear hn
  go_enter Tryz.func74, Tryz.ntmps74
  rcases hn' with h | h
  all_goals
    go_wp2_with (go_at_call 107; refine (key_any _ _).mono ?_; rintro e w' ⟨rfl, rfl⟩)
    go_quiet (fail)
    go_wp2
    go_ret2
    exact ⟨rfl, below_drewN (Below.refl _ _) _⟩

theorem drop_byte (s : ByteArray) (d : Nat) (h : d < s.size) : s.data.toList.drop d = byteAt s d :: s.data.toList.drop (d + 1) := by
  have h' : d < s.data.size := h
  rw [List.drop_eq_getElem_cons (by simpa using h), byteAt_eq s d h]; rfl
theorem drop_all (s : ByteArray) : s.data.toList.drop s.size = [] := List.drop_eq_nil_of_le (by simp)
theorem mul_bd (a b : Int) (h0 : 0 ≤ a) (h1 : a < 1000000007) (h2 : 0 ≤ b) (h3 : b < 1000000007) : 0 ≤ a * b ∧ a * b ≤ 1000000012000000036 :=
  ⟨Int.mul_nonneg h0 h2, by have := Int.mul_le_mul (show a ≤ 1000000006 by omega) (show b ≤ 1000000006 by omega) h2 (by omega); omega⟩
set_option maxHeartbeats 400000 in
set_option maxRecDepth 100000 in
theorem from_ok (k n : Int) (s : ByteArray) (w : World) (hk : isKey k = true) (h0 : 0 ≤ n) (h1 : n < 1000000007) (hs : s.size ≤ maxLen):
    Calls Tryz.prog 76 #[.int .i64 k, .int .i64 n, .string s] w fun e w' => e = .returned (.tuple #[.int .i64 (mfold k n s.data.toList), .int .i64 0]) ∧ w = w' := by
  unfold maxLen at hs
  have hk' := (isKey_iff k).1 hk
  obtain ⟨hk1, hk2⟩ := hk'
  have hfin := Lib.hid (mfold_msuf k s.data.toList n h0 h1)
  go_enter Tryz.func76, Tryz.ntmps76
  go_wp2_with (go_at_call 75; refine (isKey_any _ _).mono ?_; rintro e w' ⟨rfl, rfl⟩)
  go_loop [9, 10, 11] (fun p o i => ∃ d : Nat, d ≤ s.size ∧ i = .int .i64 ((d : Int) - 1) ∧ o = .int .i64 (msuf k (s.data.toList.drop d)).1 ∧ p = .int .i64 (msuf k (s.data.toList.drop d)).2) (fun _ _ i => (intOf i + 1).toNat)
  case atStart => exact ⟨s.size, Nat.le_refl _, rfl, by rw [drop_all]; rfl, by rw [drop_all]; rfl⟩
  case round =>
    obtain ⟨d, hd, rfl, rfl, rfl⟩ := hrel
    rcases d with _ | d
    · rw [show ((0 : Nat) : Int) - 1 = -1 by omega]
      have hfin' : Hid (mfold k n s.data.toList = ((msuf k (s.data.toList.drop 0)).1 + (msuf k (s.data.toList.drop 0)).2 * n) % 1000000007) := by rw [List.drop_zero]; exact hfin.out
      obtain ⟨hb0, hb1, hb2, hb3⟩ := msuf_bd k (s.data.toList.drop 0)
      generalize (msuf k (s.data.toList.drop 0)).2 = p at *
      generalize (msuf k (s.data.toList.drop 0)).1 = o at *
      have hx := mul_bd p n hb2 hb3 h0 h1
      go_wp2
      go_ret2
      exact ⟨ret_int2 hfin'.out.symm, rfl⟩
    · rw [show ((d + 1 : Nat) : Int) - 1 = (d : Int) by omega]
      have hS : Hid (msuf k (s.data.toList.drop d) = (((msuf k (s.data.toList.drop (d + 1))).1 + (msuf k (s.data.toList.drop (d + 1))).2 * (((byteAt s d).toNat + 1 + k) % 1000000007)) % 1000000007, (msuf k (s.data.toList.drop (d + 1))).2 * 257 % 1000000007)) := by
        rw [drop_byte s d hd]; rfl
      obtain ⟨hb0, hb1, hb2, hb3⟩ := msuf_bd k (s.data.toList.drop (d + 1))
      have hx := mul_bd (msuf k (s.data.toList.drop (d + 1))).2 (((s[d].toNat : Int) + 1 + k) % 1000000007) hb2 hb3 (by omega) (by omega)
      generalize (msuf k (s.data.toList.drop (d + 1))).2 = p at *
      generalize (msuf k (s.data.toList.drop (d + 1))).1 = o at *
      have hcb : s[d].toNat < 256 := UInt8.toNat_lt _
      go_wp2
      exact ⟨⟨d, by omega, rfl, by rw [hS.out, byteAt_eq s d hd], by rw [hS.out]⟩, by simp [intOf]⟩

theorem from_any (k n : Int) (s : ByteArray) (w : World) (hs : s.size ≤ maxLen) :
    Calls Tryz.prog 76 #[.int .i64 k, .int .i64 n, .string s] w fun e w' => e = .returned (.tuple #[.int .i64 (more k n s.data.toList).1, .int .i64 ((more k n s.data.toList).2 : Nat)]) ∧ w = w' := by
  unfold more
  by_cases hk : isKey k = true
  · by_cases hn : 0 ≤ n ∧ n < 1000000007
    · rw [if_pos hk, if_pos hn]; exact from_ok k n s w hk hn.1 hn.2 hs
    · rw [if_pos hk, if_neg hn]
      have hn' : n < 0 ∨ 1000000007 ≤ n := by omega
      clear hn
      go_enter Tryz.func76, Tryz.ntmps76
      rcases hn' with h | h
      all_goals
        go_wp2_with (go_at_call 75; refine (isKey_any _ _).mono ?_; rintro e w' ⟨rfl, rfl⟩)
        go_ret2
        exact ⟨rfl, rfl⟩
  · rw [if_neg hk]
    have hk : isKey k = false := by simpa using hk
    go_enter Tryz.func76, Tryz.ntmps76
    go_wp2_with (go_at_call 75; refine (isKey_any _ _).mono ?_; rintro e w' ⟨rfl, rfl⟩)
    go_ret2
    exact ⟨rfl, rfl⟩
theorem markOf_any (k : Int) (s : ByteArray) (w : World) (hs : s.size ≤ maxLen) :
    Calls Tryz.prog 55 #[.int .i64 k, .string s] w fun e w' => e = .returned (.tuple #[.int .i64 (markOf k s.data.toList).1, .int .i64 ((markOf k s.data.toList).2 : Nat)]) ∧ w = w' := by
  unfold markOf
  by_cases hk : isKey k = true
  · rw [if_pos hk]
    have hk' := (isKey_iff k).1 hk
    have hm := from_ok k k s w hk (by omega) (by omega) hs
    clear hk'
    go_enter Tryz.func55, Tryz.ntmps55
    go_wp2_with (first | (go_at_call 75; refine (isKey_any _ _).mono ?_; rintro e w' ⟨rfl, rfl⟩) | (go_at_call 76; refine hm.mono ?_; rintro e w' ⟨rfl, rfl⟩))
    go_ret2
    exact ⟨rfl, rfl⟩
  · rw [if_neg hk]
    have hk : isKey k = false := by simpa using hk
    go_enter Tryz.func55, Tryz.ntmps55
    go_wp2_with (go_at_call 75; refine (isKey_any _ _).mono ?_; rintro e w' ⟨rfl, rfl⟩)
    go_ret2
    exact ⟨rfl, rfl⟩
end Go.Proofs.YtcnadjdijolboaaGreatDoor

/- seal.Make by its contract. -/
namespace Go.Proofs.YtcnadjdijolboaaGreatDoor
open Go.RowKit

set_option maxRecDepth 100000 in
theorem join_any (v : Value) (W : List (List UInt8)) (w : World) (hv : TextsAt w v W) (h1 : 1 ≤ W.length) (h10 : W.length ≤ 10) (hw : ∀ x ∈ W, x.length ≤ 20) :
    Calls Tryz.prog 28 #[v, .string ⟨#[32]⟩] w fun e w' => e = .returned (.string (bs (glue 32 W))) ∧ Below w.heap.size w w' := by
  obtain ⟨a, c, rfl, _, hcap, hc⟩ := hv
  obtain ⟨b, o, rfl, h0⟩ := hc 0 (by omega)
  have hlt := World.block_lt_of_cell? w _ h0
  have hmap : (W.map bs).map (fun x => x.data.toList) = W := by
    rw [List.map_map]
    have : ((fun x : ByteArray => x.data.toList) ∘ bs) = id := by funext x; exact bs_list x
    rw [this, List.map_id]
  have hj : Lib.join ((W.map bs).map (fun x => x.data.toList)) (⟨#[32]⟩ : ByteArray).data.toList = glue 32 W := by
    rw [hmap]
    exact join_glue 32 W
  have h := Any.strings_Join Tryz.joinL Tryz.joinX b o c (W.map bs) ⟨#[32]⟩ w (fun j x hx => by
      rw [List.getElem?_map] at hx
      cases hj : W[j]? with
      | none => rw [hj] at hx; cases hx
      | some y =>
        rw [hj] at hx
        cases hx
        obtain ⟨hlt2, rfl⟩ := List.getElem?_eq_some_iff.1 hj
        obtain ⟨b2, o2, he, hc2⟩ := hc j hlt2
        cases he
        exact hc2) hlt (by rw [List.length_map]; omega) (by rw [List.length_map]; exact hcap) (by
      rw [hj]
      have := glue_len 32 W hw
      omega)
  rw [hj, List.length_map] at h
  exact h

theorem ret_str2 {a b : ByteArray} {v : Value} (h : a = b) : Ending.returned (.tuple #[.string a, v]) = .returned (.tuple #[.string b, v]) := by rw [h]
theorem str_add (a b : List UInt8) : bs a ++ bs b = bs (a ++ b) := by
  apply ByteArray.ext
  simp [bs]
end Go.Proofs.YtcnadjdijolboaaGreatDoor

/- Regions that draw their order, step by step: go_region_held3's own moves as laws, the slot of each operation given. -/
namespace Go.Proofs.YtcnadjdijolboaaGreatDoor
open Go.RowKit

section
variable {P : Program} {md : Region.Mode} {ops : Array Oper} {Q : Exit → Act → World → Prop} {S : World → Prop}
/-- Number i is taken first; its slot is d. -/
theorem held_take {i : Nat} {d : Option Tmp} {oi : Oper} {v : Value} {fuel : Nat} {listed : Array Bool} {a : Act} {w : World} (hi : ops[i]? = some oi) (hd : oi.dst = d)
    (hs : Region.noSelect ops = true) (hf : Region.free md ops listed i = true) (hr : (Region.ready md ops listed).contains i = true)
    (hQ : ∀ c a w, Q (.panic c) (a.put oi.dst v) w → Q (.panic c) a w) (hw : Region.wanted oi (yielded ops a.tmps) = true) (hS : S w) (hy : ∀ w, S w → (execOp a.eval oi).run P w = .ok (.value v) w)
    (h : wpAnyH P md ops Q S fuel (listed.setIfInBounds i true) (a.put d v) w) : wpAnyH P md ops Q S (fuel + 1) listed a w := by
  subst hd
  exact wpAnyH_take hi hs hf hr hQ (.inl ⟨hw, hy⟩) hS h
/-- Number i does not run (its guard says so): its slot d is left as undef. -/
theorem held_skip {i : Nat} {d : Option Tmp} {oi : Oper} {fuel : Nat} {listed : Array Bool} {a : Act} {w : World} (hi : ops[i]? = some oi) (hd : oi.dst = d)
    (hs : Region.noSelect ops = true) (hf : Region.free md ops listed i = true) (hr : (Region.ready md ops listed).contains i = true)
    (hQ : ∀ c a w, Q (.panic c) (a.put oi.dst undef) w → Q (.panic c) a w) (hw : Region.wanted oi (yielded ops a.tmps) = false) (hS : S w)
    (h : wpAnyH P md ops Q S fuel (listed.setIfInBounds i true) (a.put d undef) w) : wpAnyH P md ops Q S (fuel + 1) listed a w := by
  subst hd
  exact wpAnyH_take hi hs hf hr hQ (.inr ⟨hw, rfl⟩) hS h
/-- S may be said more strongly from here on. -/
theorem held_more {S' : World → Prop} (hSS : ∀ w, S' w → S w) : ∀ (fuel : Nat) (listed : Array Bool) (a : Act) (w : World), wpAnyH P md ops Q S' fuel listed a w → wpAnyH P md ops Q S fuel listed a w
  | 0, _, _, _, h => h
  | fuel + 1, _, _, _, h => ⟨h.1, fun i hi => wpOp_mono (fun a' w' h' => ⟨hSS _ h'.1, held_more hSS fuel _ a' w' h'.2⟩) (h.2 i hi)⟩
end
end Go.Proofs.YtcnadjdijolboaaGreatDoor

/- floor.Text, floor.Sum: walked. -/
namespace Go.Proofs.YtcnadjdijolboaaGreatDoor
open Go.RowKit

/-- Texts' cells. -/
def strC : Cells (List UInt8) where
  k := 1
  pos := by decide
  f := fun x => [.string (bs x)]
  len := fun _ => rfl
  one := fun e u hu => by
    simp only [List.mem_cons, List.mem_nil_iff, or_false] at hu
    rcases hu with rfl <;> rfl
theorem info_str : (Tryz.prog.info? 9).map (fun i => (i.zero, i.size, i.bytes)) = some (some (.string ⟨#[]⟩), strC.k, 16) := by kernel_rfl
theorem textsAt_of {w : World} {v : Value} {L : List (List UInt8)} (h : AtG strC w v L) : TextsAt w v L := by
  obtain ⟨a, c, h1, h2, h3, _, h5⟩ := h
  refine ⟨a, c, h1, h2, h3, fun i hi => ?_⟩
  obtain ⟨b, o, h6, h7⟩ := h5 i hi
  have := h7 0 _ rfl
  exact ⟨b, o, h6, by simpa [strC] using this⟩
theorem join_wide (v : Value) (W : List (List UInt8)) (w : World) (hv : TextsAt w v W) (h1 : 1 ≤ W.length) (h10 : W.length ≤ 100) (hw : ∀ x ∈ W, x.length ≤ 20) :
    Calls Tryz.prog 28 #[v, .string ⟨#[44]⟩] w fun e w' => e = .returned (.string (bs (glue 44 W))) ∧ Below w.heap.size w w' := by
  obtain ⟨a, c, rfl, _, hcap, hc⟩ := hv
  obtain ⟨b, o, rfl, h0⟩ := hc 0 (by omega)
  have hlt := World.block_lt_of_cell? w _ h0
  have hmap : (W.map bs).map (fun x => x.data.toList) = W := by
    rw [List.map_map]
    have : ((fun x : ByteArray => x.data.toList) ∘ bs) = id := by funext x; exact bs_list x
    rw [this, List.map_id]
  have hj : Lib.join ((W.map bs).map (fun x => x.data.toList)) (⟨#[44]⟩ : ByteArray).data.toList = glue 44 W := by
    rw [hmap]
    exact join_glue 44 W
  have h := Any.strings_Join Tryz.joinL Tryz.joinX b o c (W.map bs) ⟨#[44]⟩ w (fun j x hx => by
      rw [List.getElem?_map] at hx
      cases hj : W[j]? with
      | none => rw [hj] at hx; cases hx
      | some y =>
        rw [hj] at hx
        cases hx
        obtain ⟨hlt2, rfl⟩ := List.getElem?_eq_some_iff.1 hj
        obtain ⟨b2, o2, he, hc2⟩ := hc j hlt2
        cases he
        exact hc2) hlt (by rw [List.length_map]; omega) (by rw [List.length_map]; exact hcap) (by
      rw [hj]
      have := glue_len 44 W hw
      omega)
  rw [hj, List.length_map] at h
  exact h
theorem floW_len {f : Flo} (h : oneF f = 0) : (floW f).length ≤ 20 ∧ f.who.length ≤ 8 ∧ (Lib.itoa f.ep).length ≤ 10 := by
  obtain ⟨h1, h2, h3⟩ := oneF_zero h
  have hw : f.who.length ≤ 8 := by
    rcases h1 with h1 | h1
    · rw [h1]; decide
    · exact ((isName_iff _).1 h1).2.1
  have hi : (Lib.itoa f.ep).length ≤ 10 := by
    exact itoa_len10 (by omega) (by omega)
  unfold floW
  rw [List.length_append, List.length_cons]
  omega
theorem floW_cells (fw : List UInt8) (fe : Int) : #[Value.string (bs fw ++ (⟨#[58]⟩ : ByteArray) ++ bs (Lib.itoa fe))] = (strC.f (floW ⟨fw, fe⟩)).toArray := by
  rw [show (⟨#[58]⟩ : ByteArray) = bs [58] from rfl, str_add, str_add]
  show _ = #[Value.string (bs (fw ++ 58 :: Lib.itoa fe))]
  rw [List.append_assoc]
  rfl
theorem textF_check {L : List Flo} (h : (checkF L).1 ≠ 0) : textF L = ([], (checkF L).1, (checkF L).2) := by unfold textF; rw [if_neg h]
theorem textF_good {L : List Flo} (h : (checkF L).1 = 0) : textF L = (textL L, 0, -1) := by unfold textF; rw [if_pos h]
/-- What hands back a text and an error. -/
def TextRes (E : Nat → Addr) (w' : World) (r : List UInt8 × Nat × Int) (e : Ending) : Prop := ∃ ev, e = .returned (.tuple #[.string (bs r.1), ev]) ∧ ErrAt E w' ev r.2.1 r.2.2
theorem TextRes.mk {E : Nat → Addr} {w' : World} {r : List UInt8 × Nat × Int} {ev : Value} {L : List UInt8} {x : ByteArray} {c : Nat} {a : Int} (hr : r = (L, c, a)) (hv : x = bs L) (he : ErrAt E w' ev c a) : TextRes E w' r (.returned (.tuple #[.string x, ev])) := by
  subst hr
  subst hv
  exact ⟨ev, rfl, he⟩
set_option maxHeartbeats 4000000 in
set_option maxRecDepth 100000 in
theorem text_flo {E : Nat → Addr} (v : Value) (L : List Flo) (w : World) (hL : LaidS E w) (hv : FloorsAt w v L) (hm : ∀ f ∈ L, f.who.length ≤ maxLen) :
    Calls Tryz.prog 8 #[v] w fun e w' => TextRes E w' (textF L) e ∧ Below w.heap.size w w' := by
  have hck := Lib.hid (check_flo (E := E) v L w hL.laid hv hm)
  have hvH := Lib.hid (fun wx (hx : Below w.heap.size w wx) => hv.below hx)
  have hit := Lib.hid (fun (n : Int) wx (hx : Below w.heap.size w wx) (h0 : 0 ≤ n) (h1 : n ≤ 1073741824) => itoa_any (E := E) n (by omega) (by omega) wx (hL.below hx))
  obtain ⟨a0, c0, hv0, hmx, _, _⟩ := id hv
  unfold maxLen at hmx
  clear hv hm hL
  subst hv0
  by_cases hc0 : (checkF L).1 = 0
  case neg =>
    have hr := Lib.hid (textF_check hc0)
    have hc0H := Lib.hid hc0
    clear hc0 hvH hit
    go_enter Tryz.func8, Tryz.ntmps8
    go_wp2_with fail
    refine hck.out.mono ?_
    rintro e w1 ⟨ev, rfl, he, hb1⟩
    obtain ⟨T, x, rfl⟩ := he.iface hc0H.out
    have he := Lib.hid he
    have hb1 := Lib.hid hb1
    go_wp2_with fail
    go_ret2
    exact ⟨TextRes.mk hr.out rfl he.out, hb1.out⟩
  have hc0H := Lib.hid hc0
  have hgood := goodF_check hc0
  have h21 := hgood.len
  have hgoodH := Lib.hid hgood
  have hrT := Lib.hid (textF_good hc0)
  clear hc0 hgood
  go_enter Tryz.func8, Tryz.ntmps8
  go_wp2_with fail
  refine hck.out.mono ?_
  rintro e w1 ⟨ev, rfl, he, hb1⟩
  obtain ⟨rfl, _⟩ := he.zero hc0H.out
  have hb1H := Lib.hid hb1
  clear he hb1 hck
  go_wp2_with fail
  go_loopg [5, 15] (L.length + 1) (fun g v5 i wr => ∃ (j : Nat), i = .int .i64 j ∧ j ≤ L.length ∧ L.length - j + 1 ≤ g ∧ Hid (RowG strC wr w.heap.size 9 v5 ((L.take j).map floW)) ∧ Hid (Below w.heap.size w wr))
  case atStart => exact ⟨0, rfl, Nat.zero_le _, by omega, Lib.hid (RowG.nil _ _ _), hb1H⟩
  case round =>
    obtain ⟨j, rfl, hj, hgj, hF, hK⟩ := hrel
    obtain ⟨a5, c5, hv5⟩ := hF.out.sl
    have hl5 : ((L.take j).map floW).length = j := by rw [List.length_map, List.length_take]; omega
    rw [hl5] at hv5
    subst hv5
    by_cases hlt : j < L.length
    · have hk0 : (0 : Int) ≤ (j : Int) := by omega
      have hk1 : (j : Int) < (L.length : Int) := by omega
      obtain ⟨_, _, he, _, _, hc⟩ := hvH.out _ hK.out
      cases he
      obtain ⟨b, o, rfl, d0, d1⟩ := hc j hlt
      clear hc
      have h1F := hgoodH.out.g.one _ (List.getElem_mem hlt)
      have hsn : (L.take (j + 1)).map floW = (L.take j).map floW ++ [floW L[j]] := by rw [List.take_succ_eq_append_getElem hlt, List.map_append]; rfl
      generalize L[j] = ej at *
      obtain ⟨fw, fe⟩ := ej
      dsimp only at d0 d1
      obtain ⟨_, hwl, hil⟩ := floW_len h1F
      obtain ⟨_, he0, he1⟩ := oneF_zero h1F
      dsimp only at hwl hil he0 he1
      have hsnH := Lib.hid hsn
      have hrow := heap_alloc_new wr (.cells #[.string (bs fw), .int .i64 fe] 24)
      have hbX := (hK.out.alloc hK.out.size (.cells #[.string (bs fw), .int .i64 fe] 24))
      have hFX := Lib.hid (hF.out.alloc (.cells #[.string (bs fw), .int .i64 fe] 24))
      have hszX := hbX.size
      have hitX := Lib.hid (fun wx (hx : Below w.heap.size w wx) => hit.out fe wx hx (by omega) he1)
      have hs1 : (bs fw).size ≤ 8 := by rw [bs_size]; exact hwl
      have hs2 : (bs fw ++ (⟨#[58]⟩ : ByteArray)).size ≤ 9 := by
        rw [ByteArray.size_append]
        have : (⟨#[58]⟩ : ByteArray).size = 1 := rfl
        omega
      have hs3 : (bs (Lib.itoa fe)).size ≤ 10 := by rw [bs_size]; exact hil
      have hsA : ¬ 9223372036854775807 < (bs fw).size + 1 := by omega
      have hsB : ¬ 9223372036854775807 < (bs fw).size + 1 + (bs (Lib.itoa fe)).size := by omega
      clear hsn h1F he0 he1 hwl hil
      go_upto_region 8 with fail
      clear d0 d1
      generalize hbd : wr.heap.size = box at *
      have hlt0 : w.heap.size ≤ box := by rw [← hbd]; exact hK.out.size
      generalize hWX : wr.alloc (.cells #[.string (bs fw), .int .i64 fe] 24) = W at *
      have hrowH := Lib.hid hrow
      have hbXH := Lib.hid hbX
      have hltW : box < W.heap.size := (Array.getElem?_eq_some_iff.1 hrow).1
      have hkS := Lib.hid (fun (w' : World) (h : w'.heap[box]? = some (.cells #[.string (bs fw), .int .i64 fe] 24 (0, 0))) => (show w'.cell? ⟨box, 0, none⟩ = some (.string (bs fw)) ∧ w'.cell? ⟨box, 1, none⟩ = some (.int .i64 fe) from ⟨by rw [cell_of_row _ _ _ _ _ _ h]; rfl, by rw [cell_of_row _ _ _ _ _ _ h]; rfl⟩))
      have hrD := Lib.hid (show W.drew.heap[box]? = some (.cells #[.string (bs fw), .int .i64 fe] 24 (0, 0)) from hrow)
      have hcD := hkS.out _ hrD.out
      have hnb := Lib.hid (show some box ≠ (Value.slice a5 j c5).ownBlock from fun e => by
        obtain ⟨_, cs, h1⟩ := hFX.out.block e.symm
        rw [hrow] at h1
        injection h1 with h1
        injection h1 with _ h1 _
        revert h1
        decide)
      clear hrow hbX hbd hWX hszX
      refine wp_region_noPanic ?_
      refine wp_region_held_drew (S := fun w' => w'.cell? ⟨box, 0, none⟩ = some (.string (bs fw)) ∧ w'.cell? ⟨box, 1, none⟩ = some (.int .i64 fe)) (by kernel_rfl) ?_ (fun hHeld => ?_)
      · exact hcD
      refine' held_take (i := 0) (d := some 19) (v := _) rfl rfl (by kernel_rfl) (by kernel_rfl) (by kernel_rfl) (fun _ _ _ h => h) rfl (by assumption) ?hy_1 ?re_1
      case hy_1 =>
        intro w hSw
        try dsimp only at hSw
        go_simp
        try with_reducible rfl
      simp only [Act.put, List.setIfInBounds_toArray, List.set_cons_zero, List.set_cons_succ]
      refine' held_take (i := 1) (d := some 20) (v := _) rfl rfl (by kernel_rfl) (by kernel_rfl) (by kernel_rfl) (fun _ _ _ h => h) rfl (by assumption) ?hy_2 ?re_2
      case hy_2 =>
        intro w hSw
        try dsimp only at hSw
        go_simp
        try with_reducible rfl
      simp only [Act.put, List.setIfInBounds_toArray, List.set_cons_zero, List.set_cons_succ]
      refine' held_take (i := 2) (d := some 21) (v := _) rfl rfl (by kernel_rfl) (by kernel_rfl) (by kernel_rfl) (fun _ _ _ h => h) rfl (by assumption) ?hy_3 ?re_3
      case hy_3 =>
        intro w hSw
        try dsimp only at hSw
        go_simp
        try with_reducible rfl
      simp only [Act.put, List.setIfInBounds_toArray, List.set_cons_zero, List.set_cons_succ]
      refine' held_take (i := 3) (d := some 22) (v := _) rfl rfl (by kernel_rfl) (by kernel_rfl) (by kernel_rfl) (fun _ _ _ h => h) rfl (by assumption) ?hy_4 ?re_4
      case hy_4 =>
        intro w hSw
        try dsimp only at hSw
        go_simp
        try with_reducible rfl
      simp only [Act.put, List.setIfInBounds_toArray, List.set_cons_zero, List.set_cons_succ]
      refine' held_take (i := 4) (d := some 23) (v := _) rfl rfl (by kernel_rfl) (by kernel_rfl) (by kernel_rfl) (fun _ _ _ h => h) rfl (by assumption) ?hy_5 ?re_5
      case hy_5 =>
        intro w hSw
        try dsimp only at hSw
        go_simp
        try with_reducible rfl
      simp only [Act.put, List.setIfInBounds_toArray, List.set_cons_zero, List.set_cons_succ]
      refine' held_take (i := 5) (d := some 24) (v := _) rfl rfl (by kernel_rfl) (by kernel_rfl) (by kernel_rfl) (fun _ _ _ h => h) rfl (by assumption) ?hy_6 ?re_6
      case hy_6 =>
        intro w hSw
        try dsimp only at hSw
        go_simp
        try with_reducible rfl
      simp only [Act.put, List.setIfInBounds_toArray, List.set_cons_zero, List.set_cons_succ]
      refine wpAnyH_ready (rs := [6]) (by kernel_rfl) (by simp) ?_
      refine AllReadyH.cons rfl (fun K hK => ?_) AllReadyH.nil
      go_simp
      refine (hitX.out _ (hbXH.out.drew)).mono ?_
      rintro e w5 ⟨rfl, hb5⟩
      have hr5 := Lib.hid (heap_down hb5 hrD.out)
      have hF5 := Lib.hid (RowG.below (hFX.out.drewN 1) hb5)
      have hlt5 : box < w5.heap.size := Nat.lt_of_lt_of_le hltW hb5.size
      have hr5A := Lib.hid (fun (o : Obj) => (Below.heap_alloc w5 o box hlt5).trans hr5.out)
      have hb5H := below_trans (hbXH.out.drew) hb5
      have hb5A := Lib.hid (fun (o : Obj) => hb5H.alloc hb5H.size o)
      have hst5 := Lib.hid hb5H.size
      clear hb5 hb5H
      go_wp2_with fail
      refine hK.out _ _ ?_ (fun hHeld => ?_)
      · exact hkS.out _ hr5.out
      clear hK K
      try simp only [Act.put, List.setIfInBounds_toArray, List.set_cons_zero, List.set_cons_succ]
      refine' held_take (i := 7) (d := some 26) (v := _) rfl rfl (by kernel_rfl) (by kernel_rfl) (by kernel_rfl) (fun _ _ _ h => h) rfl (by assumption) ?hy_7 ?re_7
      case hy_7 =>
        intro w hSw
        try dsimp only at hSw
        go_simp
        try with_reducible rfl
      simp only [Act.put, List.setIfInBounds_toArray, List.set_cons_zero, List.set_cons_succ]
      refine wpAnyH_ready (rs := [8]) (by kernel_rfl) (by simp) ?_
      refine AllReadyH.cons rfl (fun K hK => ?_) AllReadyH.nil
      go_simp
      refine hK.out _ _ ?_ (fun hHeld => ?_)
      · exact hkS.out _ (hr5A.out _)
      clear hK K
      try simp only [Act.put, List.setIfInBounds_toArray, List.set_cons_zero, List.set_cons_succ]
      refine wpAnyH_ready (rs := [9]) (by kernel_rfl) (by simp) ?_
      refine AllReadyH.cons rfl (fun K hK => ?_) AllReadyH.nil
      refine step_appG strC _ rfl _ _ 55 rfl 9 (.string ⟨#[]⟩) 16 Tryz.underlying55 info_str rfl (by decide) w.heap.size _ ((L.take j).map floW) (by rfl) (RowG.alloc hF5.out _) _ [floW ⟨fw, fe⟩] (by rfl) (AtG.new (C := strC) _ (floW ⟨fw, fe⟩) 9 (floW_cells fw fe)) (by simp) (by simp; omega) (by have := hst5.out; rw [World.size_alloc]; omega) ?_
      intro v6 w6 hown6 hb6 hg6
      rw [← hsnH.out] at hown6
      have hfin := Lib.hid hown6
      have hbf := Lib.hid ((hb5A.out _).trans hb6)
      have hr6 := Lib.hid ((hg6.block box (by rw [World.size_alloc]; omega) hnb.out).trans (hr5A.out _))
      clear hown6 hb6 hg6
      refine hK.out _ _ ?_ (fun hHeld => ?_)
      · exact hkS.out _ hr6.out
      clear hK K
      try simp only [Act.put, List.setIfInBounds_toArray, List.set_cons_zero, List.set_cons_succ]
      refine' held_take (i := 10) (d := some 5) (v := _) rfl rfl (by kernel_rfl) (by kernel_rfl) (by kernel_rfl) (fun _ _ _ h => h) rfl (by assumption) ?hy_8 ?re_8
      case hy_8 =>
        intro w hSw
        try dsimp only at hSw
        go_simp
        try with_reducible rfl
      simp only [Act.put, List.setIfInBounds_toArray, List.set_cons_zero, List.set_cons_succ]
      refine wpAnyH_done (by kernel_rfl) ?_ _
      refine NoPanic.normal ?_
      go_wp2_with fail
      go_roundg (L.length - j)
      case measure => omega
      case rel => exact ⟨j + 1, by simp, hlt, by omega, hfin, hbf⟩
    · have hge : ¬ ((j : Int) < (L.length : Int)) := by omega
      have hj2 : j = L.length := by omega
      subst hj2
      by_cases h0 : L.length = 0
      · have hL0 : textL L = [45] := by
          have : L = [] := List.length_eq_zero_iff.1 h0
          rw [this]; rfl
        have hr := Lib.hid (hrT.out.trans (by rw [hL0]))
        have h0' : ((L.length : Int) == 0) = true := by rw [h0]; rfl
        clear hL0 h0
        go_wp2_with fail
        go_ret2
        exact ⟨TextRes.mk hr.out rfl (ErrAt.bare 0), hK.out⟩
      · have hL0 : textL L = glue 44 (L.map floW) := by
          unfold textL
          rw [if_neg (by simp; intro h; exact h0 (by rw [h]; rfl))]
        have hr := Lib.hid (hrT.out.trans (by rw [hL0]))
        have h0' : ((L.length : Int) == 0) = false := by simp; exact fun h => h0 (by rw [h]; rfl)
        have hat := RowG.at_ hF.out
        rw [List.take_of_length_le (Nat.le_refl _)] at hat
        have hjo := Lib.hid (join_wide _ _ _ (textsAt_of hat) (by rw [List.length_map]; omega) (by rw [List.length_map]; omega) (fun x hx => by
          obtain ⟨f, hf, rfl⟩ := List.mem_map.1 hx
          exact (floW_len (hgoodH.out.g.one f hf)).1))
        clear hat hL0 h0
        go_wp2_with fail
        refine hjo.out.mono ?_
        rintro e w2 ⟨rfl, hb2⟩
        have hb2 := Lib.hid (below_trans hK.out hb2)
        go_wp2_with fail
        go_ret2
        exact ⟨TextRes.mk hr.out rfl (ErrAt.bare 0), hb2.out⟩
theorem textL_len {L : List Flo} (h : (checkF L).1 = 0) : (textL L).length ≤ 500 := by
  have hg := goodF_check h
  unfold textL
  split
  · simp
  · have h1 := glue_len 44 (L.map floW) (fun x hx => by
      obtain ⟨f, hf, rfl⟩ := List.mem_map.1 hx
      exact (floW_len (hg.g.one f hf)).1)
    have := hg.len
    rw [List.length_map] at h1
    omega
end Go.Proofs.YtcnadjdijolboaaGreatDoor
