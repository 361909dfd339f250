/- RefF -/
import Derived.Test.YtlcomdbkkfbjiaaGreatDoorMg12
import Derived.Test.YtlcomdbkkfbjiaaGreatDoorMg8
/- The reference's floors: FloorOne, TopOf, FloorOf by contracts. -/
namespace Go.Proofs.YtlcomdbkkfbjiaaGreatDoor
open Go.RowKit

theorem oneF_cases (who : List UInt8) (ep : Int) : (who = starW ∨ who ≠ starW) ∧ ((who ≠ starW ∧ isName who = false ∧ oneF ⟨who, ep⟩ = 4) ∨ ((who = starW ∨ isName who = true) ∧ 1 ≤ ep ∧ ep ≤ 1073741824 ∧ oneF ⟨who, ep⟩ = 0) ∨ ((who = starW ∨ isName who = true) ∧ ep < 1 ∧ oneF ⟨who, ep⟩ = 2) ∨ ((who = starW ∨ isName who = true) ∧ 1 ≤ ep ∧ 1073741824 < ep ∧ oneF ⟨who, ep⟩ = 2)) := by
  refine ⟨Classical.em _, ?_⟩
  unfold oneF
  by_cases hs : who = starW
  · rw [if_neg (fun h => h.1 hs)]
    by_cases h1 : 1 ≤ ep
    · by_cases h2 : ep ≤ 1073741824
      · rw [if_pos ⟨h1, h2⟩]; exact .inr (.inl ⟨.inl hs, h1, h2, rfl⟩)
      · rw [if_neg (fun h => h2 h.2)]; exact .inr (.inr (.inr ⟨.inl hs, h1, by omega, rfl⟩))
    · rw [if_neg (fun h => h1 h.1)]; exact .inr (.inr (.inl ⟨.inl hs, by omega, rfl⟩))
  · cases hn : isName who with
    | false => rw [if_pos ⟨hs, rfl⟩]; exact .inl ⟨hs, rfl, rfl⟩
    | true =>
      rw [if_neg (fun h => by have := h.2; cases this)]
      by_cases h1 : 1 ≤ ep
      · by_cases h2 : ep ≤ 1073741824
        · rw [if_pos ⟨h1, h2⟩]; exact .inr (.inl ⟨.inr rfl, h1, h2, rfl⟩)
        · rw [if_neg (fun h => h2 h.2)]; exact .inr (.inr (.inr ⟨.inr rfl, h1, by omega, rfl⟩))
      · rw [if_neg (fun h => h1 h.1)]; exact .inr (.inr (.inl ⟨.inr rfl, by omega, rfl⟩))
set_option maxRecDepth 100000 in
theorem oneR_flo (f : Flo) (w : World) (hl : f.who.length ≤ maxLen) :
    Calls Tryz.prog 46 #[f.val] w fun e w' => e = .returned (.int .i64 (oneF f : Nat)) ∧ Below w.heap.size w w' := by
  have hB : Below w.heap.size w (w.alloc (.cells f.cells.toArray 61)) := (Below.refl _ _).alloc (Nat.le_refl _) _
  have hnm := fun wx => isNameR_any (bs f.who) wx (by rw [bs_size]; exact hl)
  rw [bs_list] at hnm
  obtain ⟨who, ep⟩ := f
  dsimp only [Flo.val, Flo.cells] at *
  have c0 : (w.alloc (.cells #[.string (bs who), .int .i64 ep] 61)).cell? ⟨w.heap.size, 0, none⟩ = some (.string (bs who)) := by simp
  have c1 : (w.alloc (.cells #[.string (bs who), .int .i64 ep] 61)).cell? ⟨w.heap.size, 1, none⟩ = some (.int .i64 ep) := by simp
  obtain ⟨_, hcs⟩ := oneF_cases who ep
  generalize oneF ⟨who, ep⟩ = r at *
  by_cases hs : who = starW
  · have e1 : ((bs who).toList == [42]) = true := by rw [hs, toList_data]; rfl
    have e2 : ((bs who).toList != [42]) = false := by rw [bne, e1]; rfl
    cases ha : isName who
    all_goals
      rw [ha] at hnm
      have hnm := Lib.hid hnm
      rcases hcs with ⟨h1, _⟩ | ⟨_, h1, h2, hr⟩ | ⟨_, h1, hr⟩ | ⟨_, h1, h2, hr⟩
      · exact absurd hs h1
      all_goals
        clear hs ha
        subst hr
        go_enter Tryz.func46, Tryz.ntmps46
        go_wp2_with fail
        refine (hnm.out _).mono ?_
        rintro e w1 ⟨rfl, rfl⟩
        go_wp2_with fail
        go_ret
        exact ⟨rfl, hB⟩
  · have e1 : ((bs who).toList == [42]) = false := by rw [toList_data, bs_list, beq_eq_false_iff_ne]; exact hs
    have e2 : ((bs who).toList != [42]) = true := by rw [bne, e1]; rfl
    cases ha : isName who with
    | false =>
      rw [ha] at hnm
      have hnm := Lib.hid hnm
      have hr : r = 4 := by
        rcases hcs with ⟨_, _, hr⟩ | ⟨h, _⟩ | ⟨h, _⟩ | ⟨h, _⟩
        · exact hr
        all_goals
          rcases h with h | h
          · exact absurd h hs
          · rw [ha] at h; cases h
      clear hs ha hcs
      subst hr
      go_enter Tryz.func46, Tryz.ntmps46
      go_wp2_with fail
      refine (hnm.out _).mono ?_
      rintro e w1 ⟨rfl, rfl⟩
      go_wp2_with fail
      go_ret
      exact ⟨rfl, hB⟩
    | true =>
      rw [ha] at hnm
      have hnm := Lib.hid hnm
      rcases hcs with ⟨_, h1, _⟩ | ⟨_, h1, h2, hr⟩ | ⟨_, h1, hr⟩ | ⟨_, h1, h2, hr⟩
      · rw [ha] at h1; cases h1
      all_goals
        clear hs ha
        subst hr
        go_enter Tryz.func46, Tryz.ntmps46
        go_wp2_with fail
        refine (hnm.out _).mono ?_
        rintro e w1 ⟨rfl, rfl⟩
        go_wp2_with fail
        go_ret
        exact ⟨rfl, hB⟩

set_option maxRecDepth 100000 in
theorem topR_flo (v : Value) (L : List Flo) (w : World) (hv : FloorsAt w v L) :
    Calls Tryz.prog 47 #[v] w fun e w' => e = .returned (.int .i64 (topF L)) ∧ w = w' := by
  obtain ⟨a, c, rfl, hlen, _, hc⟩ := hv
  cases L with
  | nil =>
    go_enter Tryz.func47, Tryz.ntmps47
    go_wp2_with fail
    go_ret
    exact ⟨rfl, rfl⟩
  | cons f L =>
    obtain ⟨b, o, rfl, h0, h1⟩ := hc 0 (by simp)
    obtain ⟨who, ep⟩ := f
    simp only [List.getElem_cons_zero, Nat.zero_mul, Nat.add_zero] at h0 h1
    have hn : 0 < (⟨who, ep⟩ :: L : List Flo).length := by simp
    have hz : (((⟨who, ep⟩ :: L : List Flo).length : Int) == 0) = false := by rw [beq_eq_false_iff_ne]; omega
    unfold maxLen at hlen
    clear hc
    generalize hm : (⟨who, ep⟩ :: L : List Flo).length = m at *
    clear hm
    by_cases hs : who = starW
    · have e1 : ((bs who).toList == [42]) = true := by rw [hs, toList_data]; rfl
      have hr := Lib.hid (show topF (⟨who, ep⟩ :: L) = ep from if_pos hs)
      clear hs
      go_enter Tryz.func47, Tryz.ntmps47
      go_wp2_with fail
      go_ret
      exact ⟨ret_int hr.out.symm, rfl⟩
    · have e1 : ((bs who).toList == [42]) = false := by rw [toList_data, bs_list, beq_eq_false_iff_ne]; exact hs
      have hr := Lib.hid (show topF (⟨who, ep⟩ :: L) = 0 from if_neg hs)
      clear hs
      go_enter Tryz.func47, Tryz.ntmps47
      go_wp2_with fail
      go_ret
      exact ⟨ret_int hr.out.symm, rfl⟩

/-- What FloorOf knows behind the first j floors. -/
def ofSo (L : List Flo) (n : List UInt8) (j : Nat) (k : Int) : Prop := k = ofF L n ∨ ((∀ i (h : i < L.length), i < j → L[i].who ≠ n) ∧ k = topF L)
theorem ofSo_start (L : List Flo) (n : List UInt8) : ofSo L n 0 (topF L) := .inr ⟨fun _ _ h => absurd h (Nat.not_lt_zero _), rfl⟩
theorem ofSo_skip {L : List Flo} {n : List UInt8} {j : Nat} {k : Int} (hj : j < L.length) (h : ofSo L n j k) (hn : L[j].who ≠ n) : ofSo L n (j + 1) k := by
  rcases h with h | ⟨h, rfl⟩
  · exact .inl h
  · refine .inr ⟨fun i hi hij => ?_, rfl⟩
    rcases Nat.lt_succ_iff_lt_or_eq.1 hij with h' | rfl
    · exact h i hi h'
    · exact hn
theorem ofSo_up {L : List Flo} (hG : Good0 L) {n : List UInt8} {j : Nat} {k : Int} (hj : j < L.length) (h : ofSo L n j k) (hn : L[j].who = n) : ofSo L n (j + 1) (if k < L[j].ep then L[j].ep else k) := by
  have h1 : ofF L n = L[j].ep := by rw [← hn]; exact ofF_mem hG (List.getElem_mem hj)
  have h2 := ofF_top hG n
  refine .inl ?_
  rcases h with rfl | ⟨_, rfl⟩
  · split <;> omega
  · split <;> omega
theorem ofSo_end {L : List Flo} {n : List UInt8} {j : Nat} {k : Int} (hj : L.length ≤ j) (h : ofSo L n j k) : k = ofF L n := by
  rcases h with rfl | ⟨h, rfl⟩
  · rfl
  · refine (ofF_not fun g hg => ?_).symm
    obtain ⟨i, hi, rfl⟩ := List.getElem_of_mem hg
    exact h i hi (by omega)
set_option maxRecDepth 100000 in
theorem ofR_flo (v : Value) (L : List Flo) (n : List UInt8) (w : World) (hv : FloorsAt w v L) (hG : Good0 L) :
    Calls Tryz.prog 32 #[v, .string (bs n)] w fun e w' => e = .returned (.int .i64 (ofF L n)) ∧ w = w' := by
  have htop := Lib.hid (topR_flo v L w hv)
  obtain ⟨a, c, rfl, hlen, _, hc⟩ := hv
  unfold maxLen at hlen
  have hc := Lib.hid hc
  have hG := Lib.hid hG
  go_enter Tryz.func32, Tryz.ntmps32
  go_wp2_with fail
  refine htop.out.mono ?_
  rintro e w1 ⟨rfl, rfl⟩
  clear htop
  go_wp2_with fail
  go_loopw [5, 6] (fun k i wr => ∃ j : Nat, j ≤ L.length ∧ i = .int .i64 j ∧ (∃ x, k = .int .i64 x ∧ Hid (ofSo L n j x)) ∧ wr = w) (fun _ i _ => L.length - (intOf i).toNat)
  case atStart => exact ⟨0, Nat.zero_le _, rfl, ⟨_, rfl, Lib.hid (ofSo_start L n)⟩, rfl⟩
  case round =>
    obtain ⟨j, hj, rfl, ⟨x, rfl, hso⟩, rfl⟩ := hrel
    by_cases hlt : j < L.length
    · obtain ⟨b, o, rfl, h0, h1⟩ := hc.out j hlt
      have hk0 : (0 : Int) ≤ (j : Int) := by omega
      have hk1 : (j : Int) < (L.length : Int) := by omega
      have hskip := fun h : L[j].who ≠ n => ofSo_skip hlt hso.out h
      have hupp := fun h : L[j].who = n => ofSo_up hG.out hlt hso.out h
      obtain ⟨q, hqd⟩ : ∃ q, L[j] = q := ⟨_, rfl⟩
      rw [hqd] at h0 h1 hskip hupp
      clear hqd
      obtain ⟨qw, qe⟩ := q
      dsimp only at h0 h1 hskip hupp
      by_cases hq : qw = n
      · have hup := hupp hq
        by_cases hx : x < qe
        · rw [if_pos hx] at hup
          have hup := Lib.hid hup
          clear hskip hupp
          go_wp2_with fail
          exact ⟨⟨j + 1, hlt, by simp, ⟨_, rfl, hup⟩, by trivial⟩, by simp [intOf]; omega⟩
        · rw [if_neg hx] at hup
          have hup := Lib.hid hup
          clear hskip hupp
          go_wp2_with fail
          exact ⟨⟨j + 1, hlt, by simp, ⟨_, rfl, hup⟩, by trivial⟩, by simp [intOf]; omega⟩
      · have hup := Lib.hid (hskip hq)
        have hs1 : ¬ (bs qw).toList = (bs n).toList := by rw [toList_data, toList_data, bs_list, bs_list]; exact hq
        have hs2 : ((bs qw).toList == (bs n).toList) = false := beq_eq_false_iff_ne.2 hs1
        clear hskip hupp
        go_wp2_with fail
        exact ⟨⟨j + 1, hlt, by simp, ⟨_, rfl, hup⟩, by trivial⟩, by simp [intOf]; omega⟩
    · have hr := Lib.hid (ofSo_end (by omega) hso.out)
      have hge : ¬ ((j : Int) < (L.length : Int)) := by omega
      go_wp2_with fail
      go_ret
      exact ⟨ret_int hr.out, rfl⟩
end Go.Proofs.YtlcomdbkkfbjiaaGreatDoor
