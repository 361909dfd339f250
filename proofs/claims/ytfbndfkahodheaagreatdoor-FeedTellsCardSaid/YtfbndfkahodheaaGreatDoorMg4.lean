/- FloW, ErrAt, FloW2 -/
import Derived.Test.YtfbndfkahodheaaGreatDoorMg1
import Derived.Test.YtfbndfkahodheaaGreatDoorMg3
import Derived.Deep.RegionHeld3
import Derived.Deep.LoopGhost
import Derived.Deep.CutRange
import Derived.Deep.CutBlock
import Derived.Sort.Walk0
/- The walks of package floor: right, all, Check, Of, Passes by contracts. -/
namespace Go.Proofs.YtfbndfkahodheaaGreatDoor
open Go.RowKit

def Flo.val (f : Flo) : Value := .agg #[.string (bs f.who), .int .i64 f.ep]
def Flo.cells (f : Flo) : List Value := [.string (bs f.who), .int .i64 f.ep]
/-- A slice of floors. -/
def FloorsAt (w : World) (v : Value) (L : List Flo) : Prop :=
  ∃ a c, v = .slice a L.length c ∧ L.length ≤ maxLen ∧ L.length ≤ c ∧ ∀ i (h : i < L.length), ∃ b o, a = some ⟨b, o, none⟩ ∧ w.cell? ⟨b, o + i * 2, none⟩ = some (.string (bs L[i].who)) ∧ w.cell? ⟨b, o + i * 2 + 1, none⟩ = some (.int .i64 L[i].ep)
theorem FloorsAt.below {w w' : World} {v : Value} {L : List Flo} (h : FloorsAt w v L) (hb : Below w.heap.size w w') : FloorsAt w' v L := by
  obtain ⟨a, c, h1, h2, hcap, h3⟩ := h
  refine ⟨a, c, h1, h2, hcap, fun i hi => ?_⟩
  obtain ⟨b, o, h4, h5, h6⟩ := h3 i hi
  exact ⟨b, o, h4, cell_below hb h5, cell_below hb h6⟩
theorem star_bs : (⟨#[42]⟩ : ByteArray) = bs starW := rfl
theorem who_star (n : List UInt8) : ((bs n).toList == (bs starW).toList) = decide (n = starW) := by
  rw [toList_data, toList_data, bs_list, bs_list]
  by_cases h : n = starW
  · rw [decide_eq_true h, h]; exact beq_self_eq_true _
  · rw [decide_eq_false h, beq_eq_false_iff_ne]; exact h

set_option maxRecDepth 100000 in
theorem right_flo {E : Nat → Addr} (f : Flo) (w : World) (hL : Laid E w) (hl : f.who.length ≤ maxLen) :
    Calls Tryz.prog 80 #[f.val] w fun e w' => e = .returned (errV E (oneF f)) ∧ Below w.heap.size w w' := by
  have hB : Below w.heap.size w (w.alloc (.cells f.cells.toArray 24)) := (Below.refl _ _).alloc (Nat.le_refl _) _
  have hnm := Lib.hid (fun wx => name_any (bs f.who) wx (by rw [bs_size]; exact hl))
  have hone : oneF f = if f.who ≠ starW ∧ isName f.who = false then 4 else if 1 ≤ f.ep ∧ f.ep ≤ 1073741824 then 0 else 2 := rfl
  obtain ⟨who, ep⟩ := f
  dsimp only [Flo.val, Flo.cells] at *
  have c1 : (w.alloc (.cells #[.string (bs who), .int .i64 ep] 24)).cell? ⟨w.heap.size, 1, none⟩ = some (.int .i64 ep) := by simp
  by_cases hs : who = starW
  · have hone := hone.trans (if_neg (fun h => h.1 hs))
    subst hs
    have e1 : ((bs starW).toList == [42]) = true := by rw [toList_data]; rfl
    by_cases h1 : 1 ≤ ep ∧ ep ≤ 1073741824
    · have hr := Lib.hid (hone.trans (if_pos h1))
      obtain ⟨h1, h2⟩ := h1
      clear hone
      go_enter Tryz.func80, Tryz.ntmps80
      go_wp2_with fail
      go_ret
      exact ⟨by rw [hr.out]; rfl, hB⟩
    · have hr := Lib.hid (hone.trans (if_neg h1))
      have he := (hL.below hB).e2
      have h1 : ep < 1 ∨ 1073741824 < ep := by omega
      clear hone
      rcases h1 with h1 | h1
      all_goals
        go_enter Tryz.func80, Tryz.ntmps80
        go_wp2_with fail
        go_ret
        exact ⟨by rw [hr.out]; rfl, hB⟩
  · have e1 : ((bs who).toList == [42]) = false := by rw [toList_data, bs_list, beq_eq_false_iff_ne]; exact hs
    have e2 : ((bs who).toList != [42]) = true := by rw [bne, e1]; rfl
    cases ha : isName who with
    | false =>
      have hr := Lib.hid (hone.trans (if_pos ⟨hs, ha⟩))
      have ha2 := Lib.hid (show isName (bs who).data.toList = false from ha)
      clear hone hs ha
      go_enter Tryz.func80, Tryz.ntmps80
      go_wp2_with fail
      refine (hnm.out _).mono ?_
      rintro e w1 ⟨rfl, hb⟩
      rw [ha2.out]
      have hb := Lib.hid (below_trans hB hb)
      have he := (hL.below hb.out).e4
      clear c1
      go_wp2_with fail
      go_ret
      exact ⟨by rw [hr.out]; rfl, hb.out⟩
    | true =>
      have hone := hone.trans (if_neg (fun h => by rw [ha] at h; exact absurd h.2 (by decide)))
      have ha2 := Lib.hid (show isName (bs who).data.toList = true from ha)
      clear ha hs
      by_cases h1 : 1 ≤ ep ∧ ep ≤ 1073741824
      · have hr := Lib.hid (hone.trans (if_pos h1))
        obtain ⟨h1, h2⟩ := h1
        clear hone
        go_enter Tryz.func80, Tryz.ntmps80
        go_wp2_with fail
        refine (hnm.out _).mono ?_
        rintro e w1 ⟨rfl, hb⟩
        rw [ha2.out]
        have d1 := cell_below hb c1
        have hb := Lib.hid (below_trans hB hb)
        clear c1
        go_wp2_with fail
        go_ret
        exact ⟨by rw [hr.out]; rfl, hb.out⟩
      · have hr := Lib.hid (hone.trans (if_neg h1))
        have h1 : ep < 1 ∨ 1073741824 < ep := by omega
        clear hone
        rcases h1 with h1 | h1
        all_goals
          go_enter Tryz.func80, Tryz.ntmps80
          go_wp2_with fail
          refine (hnm.out _).mono ?_
          rintro e w1 ⟨rfl, hb⟩
          rw [ha2.out]
          have d1 := cell_below hb c1
          have hb := Lib.hid (below_trans hB hb)
          have he := (hL.below hb.out).e2
          clear c1
          go_wp2_with fail
          go_ret
          exact ⟨by rw [hr.out]; rfl, hb.out⟩

set_option maxRecDepth 100000 in
theorem top_flo (v : Value) (L : List Flo) (w : World) (hv : FloorsAt w v L) :
    Calls Tryz.prog 115 #[v] w fun e w' => e = .returned (.int .i64 (topF L)) ∧ w = w' := by
  obtain ⟨a, c, rfl, hlen, _, hc⟩ := hv
  cases L with
  | nil =>
    go_enter Tryz.func115, Tryz.ntmps115
    go_wp2_with fail
    go_ret
    exact ⟨rfl, rfl⟩
  | cons f L =>
    obtain ⟨b, o, rfl, h0, h1⟩ := hc 0 (by simp)
    obtain ⟨who, ep⟩ := f
    simp only [List.getElem_cons_zero, Nat.zero_mul, Nat.add_zero] at h0 h1
    have hn : 0 < (⟨who, ep⟩ :: L : List Flo).length := by simp
    unfold maxLen at hlen
    clear hc
    generalize hm : (⟨who, ep⟩ :: L : List Flo).length = m at *
    clear hm
    by_cases hs : who = starW
    · have e1 : ((bs who).toList == [42]) = true := by rw [hs, toList_data]; rfl
      have hr := Lib.hid (show topF (⟨who, ep⟩ :: L) = ep from if_pos hs)
      clear hs
      go_enter Tryz.func115, Tryz.ntmps115
      go_wp2_with fail
      go_ret
      exact ⟨ret_int hr.out.symm, rfl⟩
    · have e1 : ((bs who).toList == [42]) = false := by rw [toList_data, bs_list, beq_eq_false_iff_ne]; exact hs
      have hr := Lib.hid (show topF (⟨who, ep⟩ :: L) = 0 from if_neg hs)
      clear hs
      go_enter Tryz.func115, Tryz.ntmps115
      go_wp2_with fail
      go_ret
      exact ⟨ret_int hr.out.symm, rfl⟩

set_option maxRecDepth 100000 in
theorem of1_asks (n : List UInt8) (b : Nat) (w : World) (hc : w.cell? ⟨b, 0, none⟩ = some (.string (bs n))) (W : World) (f : Flo) (hb : Below w.heap.size w W) :
    Calls Tryz.prog 117 #[f.val, .pointer (some ⟨b, 0, none⟩)] W fun e w' => e = .returned (.bool (f.who == n)) ∧ Below W.heap.size W w' := by
  have hc := cell_below hb hc
  obtain ⟨who, ep⟩ := f
  dsimp only [Flo.val]
  have hlt := World.block_lt_of_cell? W _ hc
  have hc2 : ∀ o, (W.alloc o).cell? ⟨b, 0, none⟩ = some (.string (bs n)) := fun o => by rw [World.cell?_alloc_lt _ _ _ hlt]; exact hc
  have hbe : ((bs who).toList == (bs n).toList) = (who == n) := by rw [toList_data, toList_data, bs_list, bs_list]
  cases hq : (who == n) with
  | true =>
    rw [hq] at hbe
    clear hq hc
    go_enter Tryz.func117, Tryz.ntmps117
    go_wp2_with fail
    go_ret
    exact ⟨rfl, (Below.refl _ _).alloc (Nat.le_refl _) _⟩
  | false =>
    rw [hq] at hbe
    clear hq hc
    go_enter Tryz.func117, Tryz.ntmps117
    go_wp2_with fail
    go_ret
    exact ⟨rfl, (Below.refl _ _).alloc (Nat.le_refl _) _⟩

/-- What a closure that asks for floors does. -/
def AsksF (g : Nat) (cs : Array Value) (p : Flo → Bool) (w : World) : Prop := ∀ (W : World) (f : Flo), f.who.length ≤ maxLen → Below w.heap.size w W → Calls Tryz.prog g (#[f.val] ++ cs) W fun e w' => e = .returned (.bool (p f)) ∧ Below W.heap.size W w'
/-- The first floor that is asked for (-1: none). -/
def firstF (p : Flo → Bool) (L : List Flo) : Int := if L.findIdx p < L.length then (L.findIdx p : Int) else -1
theorem firstF_of {p : Flo → Bool} {L : List Flo} {j : Nat} (hj : j < L.length) (hb : p L[j] = true) (ha : ∀ i (h : i < L.length), i < j → p L[i] = false) : firstF p L = (j : Int) := by
  have : L.findIdx p = j := (List.findIdx_eq hj).2 ⟨hb, fun i hi => ha i (by omega) hi⟩
  unfold firstF
  rw [this, if_pos hj]
theorem firstF_none {p : Flo → Bool} {L : List Flo} (ha : ∀ i (h : i < L.length), p L[i] = false) : firstF p L = -1 := by
  have : L.findIdx p = L.length := List.findIdx_eq_length.2 fun x hx => by
    obtain ⟨i, hi, rfl⟩ := List.getElem_of_mem hx
    exact ha i hi
  unfold firstF
  rw [this, if_neg (Nat.lt_irrefl _)]
set_option maxHeartbeats 1000000 in
set_option maxRecDepth 100000 in
theorem index_flo (v : Value) (L : List Flo) (g : Nat) (cs : Array Value) (p : Flo → Bool) (w : World) (hv : FloorsAt w v L) (hm : ∀ f ∈ L, f.who.length ≤ maxLen) (hg : AsksF g cs p w) (eg : ∀ args w, (callFunc g args).run Tryz.prog w = .ok (.enter g args) w) :
    Calls Tryz.prog 116 #[v, .func (.func g) #[] cs] w fun e w' => e = .returned (.int .i64 (firstF p L)) ∧ Below w.heap.size w w' := by
  obtain ⟨a, c, rfl, hlen, _, hc⟩ := hv
  unfold maxLen at hlen
  have hc := Lib.hid hc
  have hm := Lib.hid hm
  have hg := Lib.hid hg
  go_enter Tryz.func116, Tryz.ntmps116
  go_wp2_with fail
  go_loopg [8] (L.length + 1) (fun g8 i wr => ∃ j : Nat, i = .int .i64 j ∧ j ≤ L.length ∧ L.length - j + 1 ≤ g8 ∧ Hid (∀ i (h : i < L.length), i < j → p L[i] = false) ∧ Hid (Below w.heap.size w wr))
  case atStart => exact ⟨0, rfl, Nat.zero_le _, by omega, Lib.hid (fun _ _ h => absurd h (Nat.not_lt_zero _)), Lib.hid (Below.refl _ _)⟩
  case round =>
    obtain ⟨j, rfl, hj, hgj, hall, hK⟩ := hrel
    by_cases hlt : j < L.length
    · obtain ⟨b, o, rfl, hc0, hc1⟩ := hc.out j hlt
      have hc0 := cell_below hK.out hc0
      have hc1 := cell_below hK.out hc1
      have hk0 : (0 : Int) ≤ (j : Int) := by omega
      have hk1 : (j : Int) < (L.length : Int) := by omega
      have hgc := Lib.hid (hg.out wr L[j] (hm.out _ (List.getElem_mem hlt)) hK.out)
      cases hb : p L[j] with
      | true =>
        rw [hb] at hgc
        have hr := Lib.hid (show firstF p L = (j : Int) from firstF_of hlt hb hall.out)
        clear hb
        go_wp2_with fail
        refine hgc.out.mono ?_
        rintro e w1 ⟨rfl, hb1⟩
        have hb1 := Lib.hid (hK.out.trans (hb1.mono hK.out.size))
        go_wp2_with fail
        go_ret
        exact ⟨ret_int hr.out.symm, hb1.out⟩
      | false =>
        rw [hb] at hgc
        have hall2 := Lib.hid (show ∀ i (h : i < L.length), i < j + 1 → p L[i] = false from fun i h hi => by
          rcases Nat.lt_succ_iff_lt_or_eq.1 hi with h' | rfl
          · exact hall.out i h h'
          · exact hb)
        clear hb
        go_wp2_with fail
        refine hgc.out.mono ?_
        rintro e w1 ⟨rfl, hb1⟩
        have hb1 := Lib.hid (hK.out.trans (hb1.mono hK.out.size))
        go_wp2_with fail
        go_roundg (L.length - j)
        case measure => omega
        case rel => exact ⟨j + 1, by simp, hlt, by omega, hall2, hb1⟩
    · have hr := Lib.hid (show firstF p L = -1 from firstF_none fun i hi => hall.out i hi (by omega))
      have hge : ¬ ((j : Int) < (L.length : Int)) := by omega
      go_wp2_with fail
      go_ret
      exact ⟨ret_int hr.out.symm, hK.out⟩
end Go.Proofs.YtfbndfkahodheaaGreatDoor

/- An error value with its place. -/
namespace Go.Proofs.YtfbndfkahodheaaGreatDoor
open Go.RowKit

/-- An error value: its number, its place. -/
def ErrAt (E : Nat → Addr) (w : World) (v : Value) (c : Nat) (at_ : Int) : Prop :=
  (at_ = -1 ∧ v = errV E c) ∨ ∃ N, v = .iface 105 (.pointer (some ⟨N, 0, none⟩)) ∧ 1 ≤ c ∧ w.cell? ⟨N, 0, none⟩ = some (.int .i64 at_) ∧ w.cell? ⟨N, 0 + 1, none⟩ = some (errV E c)
theorem ErrAt.below {E : Nat → Addr} {w w' : World} {v : Value} {c : Nat} {at_ : Int} (h : ErrAt E w v c at_) (hb : Below w.heap.size w w') : ErrAt E w' v c at_ := by
  rcases h with h | ⟨N, h1, h2, h3, h4⟩
  · exact .inl h
  · exact .inr ⟨N, h1, h2, cell_below hb h3, cell_below hb h4⟩
theorem ErrAt.bare {E : Nat → Addr} {w : World} (c : Nat) : ErrAt E w (errV E c) c (-1) := .inl ⟨rfl, rfl⟩
theorem ErrAt.iface {E : Nat → Addr} {w : World} {v : Value} {c : Nat} {a : Int} (h : ErrAt E w v c a) (hc : c ≠ 0) : ∃ T x, v = .iface T (.pointer (some x)) := by
  rcases h with ⟨_, rfl⟩ | ⟨N, rfl, _⟩
  · cases c with
    | zero => exact absurd rfl hc
    | succ c => exact ⟨_, _, rfl⟩
  · exact ⟨_, _, rfl⟩
theorem ErrAt.zero {E : Nat → Addr} {w : World} {v : Value} {c : Nat} {a : Int} (h : ErrAt E w v c a) (hc : c = 0) : v = .nilIface ∧ a = -1 := by
  rcases h with ⟨ha, rfl⟩ | ⟨N, rfl, h1, _⟩
  · subst hc
    exact ⟨rfl, ha⟩
  · omega
end Go.Proofs.YtfbndfkahodheaaGreatDoor

/- The walks of package floor: Of, Passes, Check by contracts. -/
namespace Go.Proofs.YtfbndfkahodheaaGreatDoor
open Go.RowKit

theorem firstF_cases (p : Flo → Bool) (L : List Flo) : (firstF p L = -1 ∧ ∀ f ∈ L, p f = false) ∨ ∃ j : Nat, ∃ h : j < L.length, firstF p L = (j : Int) ∧ p L[j] = true ∧ ∀ i (h : i < L.length), i < j → p L[i] = false := by
  rcases Nat.lt_or_ge (L.findIdx p) L.length with h | h
  · refine .inr ⟨L.findIdx p, h, by unfold firstF; rw [if_pos h], List.findIdx_getElem (w := h), fun i hi hij => ?_⟩
    have := List.not_of_lt_findIdx hij
    simpa using this
  · refine .inl ⟨by unfold firstF; rw [if_neg (by omega)], fun x hx => ?_⟩
    exact List.findIdx_eq_length.1 (Nat.le_antisymm List.findIdx_le_length h) x hx
theorem ofF_none {L : List Flo} {n : List UInt8} (h : ∀ f ∈ L, (f.who == n) = false) : ofF L n = topF L := ofF_not fun g hg e => by
  have := h g hg
  rw [e] at this
  simp at this
theorem ofF_at {L : List Flo} {n : List UInt8} {j : Nat} (hj : j < L.length) (hp : (L[j].who == n) = true) (ha : ∀ i (h : i < L.length), i < j → (L[i].who == n) = false) : ofF L n = max L[j].ep (topF L) := by
  have : L.find? (fun f => f.who == n) = some L[j] := List.find?_eq_some_iff_getElem.2 ⟨hp, j, hj, rfl, fun i hi => by rw [ha i (by omega) hi]; rfl⟩
  unfold ofF
  rw [this]
set_option maxRecDepth 100000 in
theorem of_flo (v : Value) (L : List Flo) (n : List UInt8) (w : World) (hv : FloorsAt w v L) (hm : ∀ f ∈ L, f.who.length ≤ maxLen) :
    Calls Tryz.prog 81 #[v, .string (bs n)] w fun e w' => e = .returned (.int .i64 (ofF L n)) ∧ Below w.heap.size w w' := by
  have hB : Below w.heap.size w (w.alloc (.cells #[.string (bs n)] 9)) := (Below.refl _ _).alloc (Nat.le_refl _) _
  have hv0 := Lib.hid hv
  have hix := Lib.hid (index_flo v L 117 #[.pointer (some ⟨w.heap.size, 0, none⟩)] (fun f => f.who == n) _ (hv.below hB) hm (fun W f _ hb => of1_asks n w.heap.size _ (by simp) W f hb) (enters_of Tryz.func117 (by kernel_rfl) rfl))
  obtain ⟨a, c, rfl, hlen, _, hc⟩ := hv
  unfold maxLen at hlen
  rcases firstF_cases (fun f => f.who == n) L with ⟨h1, h2⟩ | ⟨j, hj, h1, h2, h3⟩
  · have hr := Lib.hid (ofF_none h2)
    rw [h1] at hix
    clear h1 h2
    have htop := Lib.hid (fun wx (hx : Below w.heap.size w wx) => top_flo _ L wx (hv0.out.below hx))
    clear hc
    go_enter Tryz.func81, Tryz.ntmps81
    go_wp2_with fail
    refine hix.out.mono ?_
    rintro e w1 ⟨rfl, hb⟩
    have hb := Lib.hid (below_trans hB hb)
    go_wp2_with fail
    refine (htop.out _ hb.out).mono ?_
    rintro e w2 ⟨rfl, rfl⟩
    go_wp2_with fail
    go_ret
    exact ⟨ret_int hr.out.symm, hb.out⟩
  · have hr := Lib.hid (ofF_at hj h2 h3)
    rw [h1] at hix
    clear h1 h2 h3
    obtain ⟨b, o, rfl, hc0, hc1⟩ := hc j hj
    have hk0 : (0 : Int) ≤ (j : Int) := by omega
    have hk1 : (j : Int) < (L.length : Int) := by omega
    have hk2 : decide ((j : Int) < 0) = false := decide_eq_false (by omega)
    have htop := Lib.hid (fun wx (hx : Below w.heap.size w wx) => top_flo _ L wx (hv0.out.below hx))
    clear hc
    go_enter Tryz.func81, Tryz.ntmps81
    go_wp2_with fail
    refine hix.out.mono ?_
    rintro e w1 ⟨rfl, hb⟩
    have hb := Lib.hid (below_trans hB hb)
    have hc1 := cell_below hb.out hc1
    go_wp2_with fail
    go_quiet ((go_at_call 115; exact Calls.quiet_of_same ((htop.out _ (below_drawn hb.out _)).mono fun e w' h => ⟨h.1, h.2.symm⟩)))
    go_wp2_with fail
    go_ret
    exact ⟨ret_int hr.out.symm, below_drawn hb.out _⟩
theorem errF_one {L : List Flo} {i : Nat} {f : Flo} (h : oneF f ≠ 0) : errF L i f = oneF f := by unfold errF; rw [if_pos h]
theorem errF_order {L : List Flo} {i : Nat} {f : Flo} (h : oneF f = 0) (h2 : 0 < i ∧ ¬ ((L.getD (i - 1) ⟨[], 0⟩).who < f.who)) : errF L i f = 8 := by
  unfold errF; rw [if_neg (by simpa using h), if_pos h2]
theorem errF_last {L : List Flo} {i : Nat} {f : Flo} (h : oneF f = 0) (h2 : ¬ (0 < i ∧ ¬ ((L.getD (i - 1) ⟨[], 0⟩).who < f.who))) : errF L i f = if f.who ≠ starW ∧ f.ep ≤ topF L then 3 else 0 := by
  unfold errF; rw [if_neg (by simpa using h), if_neg h2]
theorem cell_drawn_new (w : World) (n : Nat) (cs : Array Value) (t : TypeId) (k : Nat) : ((w.drewN n).alloc (.cells cs t)).cell? ⟨w.heap.size, k, none⟩ = cs[k]? := World.cell?_alloc_at _ _ _ _ (by simp)
theorem bs_less (a b : List UInt8) : Op.bytesLess (bs a).toList (bs b).toList = decide (a < b) := by
  rw [Go.Proofs.bytesLess_eq, toList_data, toList_data, bs_list, bs_list]
theorem bs_same (a b : List UInt8) : ((bs a).toList == (bs b).toList) = decide (a = b) := by
  rw [toList_data, toList_data, bs_list, bs_list]
  by_cases h : a = b
  · rw [decide_eq_true h, h]; exact beq_self_eq_true _
  · rw [decide_eq_false h, beq_eq_false_iff_ne]; exact h
set_option maxHeartbeats 2000000 in
set_option maxRecDepth 100000 in
theorem check_flo {E : Nat → Addr} (v : Value) (L : List Flo) (w : World) (hL : Laid E w) (hv : FloorsAt w v L) (hm : ∀ f ∈ L, f.who.length ≤ maxLen) :
    Calls Tryz.prog 79 #[v] w fun e w' => ∃ ev, e = .returned ev ∧ ErrAt E w' ev (checkF L).1 (checkF L).2 ∧ Below w.heap.size w w' := by
  have hv0 := Lib.hid hv
  obtain ⟨a, c, rfl, hlen, _, hc⟩ := hv
  unfold maxLen at hlen
  by_cases h21 : 21 < L.length
  · have hr := Lib.hid (checkF_full h21)
    have he := hL.e7
    have h21' : decide ((21 : Int) < (L.length : Int)) = true := decide_eq_true (by omega)
    clear hc
    go_enter Tryz.func79, Tryz.ntmps79
    go_wp2_with fail
    go_ret
    exact ⟨_, rfl, by rw [hr.out]; exact ErrAt.bare 7, Below.refl _ _⟩
  have h21' : decide ((21 : Int) < (L.length : Int)) = false := decide_eq_false (by omega)
  have hc := Lib.hid hc
  have hm := Lib.hid hm
  have htop := Lib.hid (fun wx (hx : Below w.heap.size w wx) => top_flo _ L wx (hv0.out.below hx))
  have hri := Lib.hid (fun (f : Flo) wx (hx : Below w.heap.size w wx) (hl : f.who.length ≤ maxLen) => right_flo (E := E) f wx (hL.below hx) hl)
  go_enter Tryz.func79, Tryz.ntmps79
  go_wp2_with fail
  go_loopg [12] (L.length + 1) (fun g12 i wr => ∃ j : Nat, i = .int .i64 j ∧ j ≤ L.length ∧ L.length - j + 1 ≤ g12 ∧ Hid (∀ i, i < j → errAtF L i = 0) ∧ Hid (Below w.heap.size w wr))
  case atStart => exact ⟨0, rfl, Nat.zero_le _, by omega, Lib.hid (fun _ h => absurd h (Nat.not_lt_zero _)), Lib.hid (Below.refl _ _)⟩
  case round =>
    obtain ⟨j, rfl, hj, hgj, hall, hK⟩ := hrel
    by_cases hlt : j < L.length
    · obtain ⟨b, o, rfl, hc0, hc1⟩ := hc.out j hlt
      have hc0 := cell_below hK.out hc0
      have hc1 := cell_below hK.out hc1
      have hk0 : (0 : Int) ≤ (j : Int) := by omega
      have hk1 : (j : Int) < (L.length : Int) := by omega
      have hB := hK.out.alloc hK.out.size (.cells #[.string (bs L[j].who), .int .i64 L[j].ep] 24)
      have hri := Lib.hid (hri.out L[j] _ hB (hm.out _ (List.getElem_mem hlt)))
      have hat := Lib.hid (show errAtF L j = errF L j L[j] by unfold errAtF; rw [getD_get hlt])
      have hbad := Lib.hid (fun (hb : errAtF L j ≠ 0) => checkF_some (by omega) j hlt hb hall.out)
      have hnext := Lib.hid (show errAtF L j = 0 → ∀ i, i < j + 1 → errAtF L i = 0 from fun hb i hi => by
        rcases Nat.lt_succ_iff_lt_or_eq.1 hi with h' | rfl
        · exact hall.out i h'
        · exact hb)
      cases ho : oneF L[j] with
      | succ cd =>
        have hr := Lib.hid (show checkF L = (cd + 1, (j : Int)) by
          have h1 : errAtF L j = cd + 1 := by rw [hat.out, errF_one (by rw [ho]; exact Nat.succ_ne_zero _), ho]
          rw [hbad.out (by rw [h1]; exact Nat.succ_ne_zero _), h1])
        rw [ho, errV_succ] at hri
        clear ho
        go_wp2_with fail
        refine hri.out.mono ?_
        rintro e w1 ⟨rfl, hb1⟩
        have hb1 := Lib.hid (hB.trans (hb1.mono hB.size))
        go_wp2_with fail
        go_ret
        exact ⟨_, rfl, by rw [hr.out]; exact .inr ⟨_, rfl, by omega, by simp, by simp [errV]⟩, hb1.out.alloc hb1.out.size _⟩
      | zero =>
        have ho2 := ho
        rw [ho, errV_zero] at hri
        clear ho
        have hst := who_star L[j].who
        by_cases hord : 0 < j ∧ ¬ ((L.getD (j - 1) ⟨[], 0⟩).who < L[j].who)
        case pos =>
          have hr := Lib.hid (show checkF L = (8, (j : Int)) by
            have h1 : errAtF L j = 8 := by rw [hat.out, errF_order ho2 hord]
            rw [hbad.out (by rw [h1]; decide), h1])
          cases j with
          | zero => exact absurd hord.1 (Nat.lt_irrefl _)
          | succ q =>
            have hq : q < L.length := by omega
            obtain ⟨b', o', hbo, hp0, _⟩ := hc.out q hq
            cases hbo
            have hp0 := cell_below hK.out hp0
            have hno : ¬ (L[q].who < L[q + 1].who) := by have := hord.2; rw [Nat.add_sub_cancel, getD_get hq] at this; exact this
            have hk3 : (q : Int) < (L.length : Int) := by omega
            have hk4 : (0 : Int) ≤ (q : Int) := by omega
            have hle : Op.bytesLess (bs L[q + 1].who).toList (bs L[q].who).toList = true ∨ (Op.bytesLess (bs L[q + 1].who).toList (bs L[q].who).toList = false ∧ ((bs L[q + 1].who).toList == (bs L[q].who).toList) = true) := by
              rw [bs_less, bs_same]
              by_cases he : L[q + 1].who = L[q].who
              · exact .inr ⟨decide_eq_false (by rw [he]; exact List.lt_irrefl _), decide_eq_true he⟩
              · exact .inl (decide_eq_true (lt_total hno (fun e => he e.symm)))
            clear hord ho2 hst hno
            rcases hle with hle | ⟨hle, hle2⟩
            all_goals
              go_wp2_with fail
              refine hri.out.mono ?_
              rintro e w1 ⟨rfl, hb1⟩
              have hd0 := cell_below hb1 (show (wr.alloc (.cells #[.string (bs L[q + 1].who), .int .i64 L[q + 1].ep] 24)).cell? ⟨wr.heap.size, 0, none⟩ = some (.string (bs L[q + 1].who)) by simp)
              have hp1 := cell_below hb1 ((World.cell?_alloc_lt _ _ _ (World.block_lt_of_cell? wr _ hp0)).trans hp0)
              have hb1 := Lib.hid (hB.trans (hb1.mono hB.size))
              have he := (hL.below hb1.out).e8
              simp only [errV] at he
              go_wp2_with fail
              go_quiet (fail)
              go_wp2_with fail
              go_ret
              exact ⟨_, rfl, by rw [hr.out]; exact .inr ⟨_, rfl, by omega, by rw [cell_drawn_new]; rfl, by rw [cell_drawn_new]; rfl⟩, (below_drawn hb1.out _).alloc hb1.out.size _⟩
        case neg =>
          have hlast := errF_last ho2 hord
          have hstep : ∃ q : Nat, j = 0 ∨ (j = q + 1 ∧ ∃ hq : q < L.length, L[q].who < L[j].who) := by
            cases j with
            | zero => exact ⟨0, .inl rfl⟩
            | succ q =>
              have hq : q < L.length := by omega
              refine ⟨q, .inr ⟨rfl, hq, ?_⟩⟩
              rcases Classical.em (L[q].who < L[q + 1].who) with h | h
              · exact h
              · exact absurd ⟨by omega, by rw [Nat.add_sub_cancel, getD_get hq]; exact h⟩ hord
          clear hord
          obtain ⟨q, hstep⟩ := hstep
          by_cases hs : L[j].who = starW
          · have h0 : errAtF L j = 0 := by rw [hat.out, hlast, if_neg (fun h => h.1 hs)]
            have hall2 := Lib.hid (hnext.out h0)
            have e1 : ((bs L[j].who).toList == [42]) = true := by rw [hs, toList_data]; rfl
            clear hlast hst hs h0 ho2
            rcases hstep with hz | ⟨hz, hq, hlt2⟩
            · subst hz
              simp only [Nat.zero_mul, Nat.add_zero] at hc0 hc1
              go_wp2_with fail
              refine hri.out.mono ?_
              rintro e w1 ⟨rfl, hb1⟩
              have hd0 := cell_below hb1 (show (wr.alloc (.cells #[.string (bs L[0].who), .int .i64 L[0].ep] 24)).cell? ⟨wr.heap.size, 0, none⟩ = some (.string (bs L[0].who)) by simp)
              have hd1 := cell_below hb1 (show (wr.alloc (.cells #[.string (bs L[0].who), .int .i64 L[0].ep] 24)).cell? ⟨wr.heap.size, 1, none⟩ = some (.int .i64 L[0].ep) by simp)
              have hb1 := Lib.hid (hB.trans (hb1.mono hB.size))
              go_wp2_with fail
              go_quiet (fail)
              go_wp2_with fail
              go_quiet (fail)
              go_wp2_with fail
              go_roundg (L.length - (0))
              case measure => omega
              case rel => exact ⟨1, by simp, hlt, by omega, hall2, Lib.hid (below_drawn hb1.out _)⟩
            · subst hz
              obtain ⟨b', o', hbo, hp0, _⟩ := hc.out q hq
              cases hbo
              have hp0 := cell_below hK.out hp0
              have hk3 : (q : Int) < (L.length : Int) := by omega
              have hk4 : (0 : Int) ≤ (q : Int) := by omega
              have hle : Op.bytesLess (bs L[q + 1].who).toList (bs L[q].who).toList = false := by rw [bs_less]; exact decide_eq_false (fun h => List.lt_irrefl _ (List.lt_trans h hlt2))
              have hle2 : ((bs L[q + 1].who).toList == (bs L[q].who).toList) = false := by rw [bs_same]; exact decide_eq_false (fun h => by rw [h] at hlt2; exact List.lt_irrefl _ hlt2)
              clear hlt2
              go_wp2_with fail
              refine hri.out.mono ?_
              rintro e w1 ⟨rfl, hb1⟩
              have hd0 := cell_below hb1 (show (wr.alloc (.cells #[.string (bs L[q + 1].who), .int .i64 L[q + 1].ep] 24)).cell? ⟨wr.heap.size, 0, none⟩ = some (.string (bs L[q + 1].who)) by simp)
              have hd1 := cell_below hb1 (show (wr.alloc (.cells #[.string (bs L[q + 1].who), .int .i64 L[q + 1].ep] 24)).cell? ⟨wr.heap.size, 1, none⟩ = some (.int .i64 L[q + 1].ep) by simp)
              have hp1 := cell_below hb1 ((World.cell?_alloc_lt _ _ _ (World.block_lt_of_cell? wr _ hp0)).trans hp0)
              have hb1 := Lib.hid (hB.trans (hb1.mono hB.size))
              go_wp2_with fail
              go_quiet (fail)
              go_wp2_with fail
              go_quiet (fail)
              go_wp2_with fail
              go_roundg (L.length - (q + 1))
              case measure => omega
              case rel => exact ⟨q + 1 + 1, by simp, hlt, by omega, hall2, Lib.hid (below_drawn hb1.out _)⟩
          · have e1 : ((bs L[j].who).toList == [42]) = false := by rw [toList_data, bs_list, beq_eq_false_iff_ne]; exact hs
            have e2 : ((bs L[j].who).toList != [42]) = true := by rw [bne, e1]; rfl
            by_cases hlow : L[j].ep ≤ topF L
            · have hr := Lib.hid (show checkF L = (3, (j : Int)) by
                have h1 : errAtF L j = 3 := by rw [hat.out, hlast, if_pos ⟨hs, hlow⟩]
                rw [hbad.out (by rw [h1]; decide), h1])
              clear hlast hst hs ho2
              generalize topF L = tp at *
              rcases hstep with hz | ⟨hz, hq, hlt2⟩
              · subst hz
                simp only [Nat.zero_mul, Nat.add_zero] at hc0 hc1
                go_wp2_with fail
                refine hri.out.mono ?_
                rintro e w1 ⟨rfl, hb1⟩
                have hd0 := cell_below hb1 (show (wr.alloc (.cells #[.string (bs L[0].who), .int .i64 L[0].ep] 24)).cell? ⟨wr.heap.size, 0, none⟩ = some (.string (bs L[0].who)) by simp)
                have hd1 := cell_below hb1 (show (wr.alloc (.cells #[.string (bs L[0].who), .int .i64 L[0].ep] 24)).cell? ⟨wr.heap.size, 1, none⟩ = some (.int .i64 L[0].ep) by simp)
                have hb1 := Lib.hid (hB.trans (hb1.mono hB.size))
                go_wp2_with fail
                go_quiet (fail)
                go_wp2_with fail
                go_quiet ((go_at_call 115; exact (htop.out _ (below_drawn hb1.out _)).mono fun e w' h => ⟨h.1, _, h.2.symm⟩))
                have he := (hL.below hb1.out).e3
                simp only [errV] at he
                go_wp2_with fail
                go_ret
                exact ⟨_, rfl, by rw [hr.out]; exact .inr ⟨_, rfl, by omega, by rw [cell_drawn_new]; rfl, by rw [cell_drawn_new]; rfl⟩, (below_drawn hb1.out _).alloc hb1.out.size _⟩
              · subst hz
                obtain ⟨b', o', hbo, hp0, _⟩ := hc.out q hq
                cases hbo
                have hp0 := cell_below hK.out hp0
                have hk3 : (q : Int) < (L.length : Int) := by omega
                have hk4 : (0 : Int) ≤ (q : Int) := by omega
                have hle : Op.bytesLess (bs L[q + 1].who).toList (bs L[q].who).toList = false := by rw [bs_less]; exact decide_eq_false (fun h => List.lt_irrefl _ (List.lt_trans h hlt2))
                have hle2 : ((bs L[q + 1].who).toList == (bs L[q].who).toList) = false := by rw [bs_same]; exact decide_eq_false (fun h => by rw [h] at hlt2; exact List.lt_irrefl _ hlt2)
                clear hlt2
                go_wp2_with fail
                refine hri.out.mono ?_
                rintro e w1 ⟨rfl, hb1⟩
                have hd0 := cell_below hb1 (show (wr.alloc (.cells #[.string (bs L[q + 1].who), .int .i64 L[q + 1].ep] 24)).cell? ⟨wr.heap.size, 0, none⟩ = some (.string (bs L[q + 1].who)) by simp)
                have hd1 := cell_below hb1 (show (wr.alloc (.cells #[.string (bs L[q + 1].who), .int .i64 L[q + 1].ep] 24)).cell? ⟨wr.heap.size, 1, none⟩ = some (.int .i64 L[q + 1].ep) by simp)
                have hp1 := cell_below hb1 ((World.cell?_alloc_lt _ _ _ (World.block_lt_of_cell? wr _ hp0)).trans hp0)
                have hb1 := Lib.hid (hB.trans (hb1.mono hB.size))
                go_wp2_with fail
                go_quiet (fail)
                go_wp2_with fail
                go_quiet ((go_at_call 115; exact (htop.out _ (below_drawn hb1.out _)).mono fun e w' h => ⟨h.1, _, h.2.symm⟩))
                have he := (hL.below hb1.out).e3
                simp only [errV] at he
                go_wp2_with fail
                go_ret
                exact ⟨_, rfl, by rw [hr.out]; exact .inr ⟨_, rfl, by omega, by rw [cell_drawn_new]; rfl, by rw [cell_drawn_new]; rfl⟩, (below_drawn hb1.out _).alloc hb1.out.size _⟩
            · have h0 : errAtF L j = 0 := by rw [hat.out, hlast, if_neg (fun h => hlow h.2)]
              have hall2 := Lib.hid (hnext.out h0)
              clear hlast hst hs h0 ho2
              generalize topF L = tp at *
              have hlow2 : decide (L[j].ep ≤ tp) = false := decide_eq_false hlow
              clear hlow
              rcases hstep with hz | ⟨hz, hq, hlt2⟩
              · subst hz
                simp only [Nat.zero_mul, Nat.add_zero] at hc0 hc1
                go_wp2_with fail
                refine hri.out.mono ?_
                rintro e w1 ⟨rfl, hb1⟩
                have hd0 := cell_below hb1 (show (wr.alloc (.cells #[.string (bs L[0].who), .int .i64 L[0].ep] 24)).cell? ⟨wr.heap.size, 0, none⟩ = some (.string (bs L[0].who)) by simp)
                have hd1 := cell_below hb1 (show (wr.alloc (.cells #[.string (bs L[0].who), .int .i64 L[0].ep] 24)).cell? ⟨wr.heap.size, 1, none⟩ = some (.int .i64 L[0].ep) by simp)
                have hb1 := Lib.hid (hB.trans (hb1.mono hB.size))
                go_wp2_with fail
                go_quiet (fail)
                go_wp2_with fail
                go_quiet ((go_at_call 115; exact (htop.out _ (below_drawn hb1.out _)).mono fun e w' h => ⟨h.1, _, h.2.symm⟩))
                go_wp2_with fail
                go_roundg (L.length - (0))
                case measure => omega
                case rel => exact ⟨1, by simp, hlt, by omega, hall2, Lib.hid (below_drawn hb1.out _)⟩
              · subst hz
                obtain ⟨b', o', hbo, hp0, _⟩ := hc.out q hq
                cases hbo
                have hp0 := cell_below hK.out hp0
                have hk3 : (q : Int) < (L.length : Int) := by omega
                have hk4 : (0 : Int) ≤ (q : Int) := by omega
                have hle : Op.bytesLess (bs L[q + 1].who).toList (bs L[q].who).toList = false := by rw [bs_less]; exact decide_eq_false (fun h => List.lt_irrefl _ (List.lt_trans h hlt2))
                have hle2 : ((bs L[q + 1].who).toList == (bs L[q].who).toList) = false := by rw [bs_same]; exact decide_eq_false (fun h => by rw [h] at hlt2; exact List.lt_irrefl _ hlt2)
                clear hlt2
                go_wp2_with fail
                refine hri.out.mono ?_
                rintro e w1 ⟨rfl, hb1⟩
                have hd0 := cell_below hb1 (show (wr.alloc (.cells #[.string (bs L[q + 1].who), .int .i64 L[q + 1].ep] 24)).cell? ⟨wr.heap.size, 0, none⟩ = some (.string (bs L[q + 1].who)) by simp)
                have hd1 := cell_below hb1 (show (wr.alloc (.cells #[.string (bs L[q + 1].who), .int .i64 L[q + 1].ep] 24)).cell? ⟨wr.heap.size, 1, none⟩ = some (.int .i64 L[q + 1].ep) by simp)
                have hp1 := cell_below hb1 ((World.cell?_alloc_lt _ _ _ (World.block_lt_of_cell? wr _ hp0)).trans hp0)
                have hb1 := Lib.hid (hB.trans (hb1.mono hB.size))
                go_wp2_with fail
                go_quiet (fail)
                go_wp2_with fail
                go_quiet ((go_at_call 115; exact (htop.out _ (below_drawn hb1.out _)).mono fun e w' h => ⟨h.1, _, h.2.symm⟩))
                go_wp2_with fail
                go_roundg (L.length - (q + 1))
                case measure => omega
                case rel => exact ⟨q + 1 + 1, by simp, hlt, by omega, hall2, Lib.hid (below_drawn hb1.out _)⟩
    · have hr := Lib.hid (show checkF L = (0, -1) from checkF_none (by omega) fun i hi => hall.out i (by omega))
      have hge : ¬ ((j : Int) < (L.length : Int)) := by omega
      go_wp2_with fail
      go_ret
      exact ⟨_, rfl, by rw [hr.out]; exact ErrAt.bare 0, hK.out⟩
end Go.Proofs.YtfbndfkahodheaaGreatDoor
