/- FloW, Open, FloArg, FloR, FedM -/
import Derived.Test.YtadnjdchjoechaaGreatDoorMg6
import Derived.Test.YtadnjdchjoechaaGreatDoorMg2
import Derived.Deep.RegionHeld3
import Derived.Deep.LoopGhost
import Derived.Deep.CutRange
import Derived.Deep.CutBlock
import Derived.Test.YtadnjdchjoechaaGreatDoorMg1
import Derived.Deep.Slices
import Derived.Deep.Fields
import Derived.ChangeSame
import Derived.ProofKit
import Derived.Test.YtadnjdchjoechaaGreatDoorMg5
import Derived.Laws.IdiomCopy
import Derived.Test.YtadnjdchjoechaaGreatDoorMg4
/- The walks of package floor: right, all, Check, Of, Passes by contracts. -/
namespace Go.Proofs.YtadnjdchjoechaaGreatDoor
open Go.RowKit

def Flo.val (f : Flo) : Value := .agg #[.string (bs f.who), .int .i64 f.ep]
def Flo.cells (f : Flo) : List Value := [.string (bs f.who), .int .i64 f.ep]
/-- A slice of floors. -/
def FloorsAt (w : World) (v : Value) (L : List Flo) : Prop :=
  ∃ a c, v = .slice a L.length c ∧ L.length ≤ maxLen ∧ L.length ≤ c ∧ ∀ i (h : i < L.length), ∃ b o, a = some ⟨b, o, none⟩ ∧ w.cell? ⟨b, o + i * 2, none⟩ = some (.string (bs L[i].who)) ∧ w.cell? ⟨b, o + i * 2 + 1, none⟩ = some (.int .i64 L[i].ep)
theorem FloorsAt.below {w w' : World} {v : Value} {L : List Flo} (h : FloorsAt w v L) (hb : Below w.heap.size w w') : FloorsAt w' v L := by
  obtain ⟨a, c, h1, h2, hcap, h3⟩ := h
  refine ⟨a, c, h1, h2, hcap, fun i hi => ?_⟩
  obtain ⟨b, o, h4, h5, h6⟩ := h3 i hi
  exact ⟨b, o, h4, cell_below hb h5, cell_below hb h6⟩
theorem star_bs : (⟨#[42]⟩ : ByteArray) = bs starW := rfl
theorem who_star (n : List UInt8) : ((bs n).toList == (bs starW).toList) = decide (n = starW) := by
  rw [toList_data, toList_data, bs_list, bs_list]
  by_cases h : n = starW
  · rw [decide_eq_true h, h]; exact beq_self_eq_true _
  · rw [decide_eq_false h, beq_eq_false_iff_ne]; exact h

set_option maxRecDepth 100000 in
theorem right_flo {E : Nat → Addr} (f : Flo) (w : World) (hL : Laid E w) (hl : f.who.length ≤ maxLen) :
    Calls Tryz.prog 122 #[f.val] w fun e w' => e = .returned (errV E (oneF f)) ∧ Below w.heap.size w w' := by
  have hB : Below w.heap.size w (w.alloc (.cells f.cells.toArray 73)) := (Below.refl _ _).alloc (Nat.le_refl _) _
  have hnm := Lib.hid (fun wx => name_any (bs f.who) wx (by rw [bs_size]; exact hl))
  have hone : oneF f = if f.who ≠ starW ∧ isName f.who = false then 4 else if 1 ≤ f.ep ∧ f.ep ≤ 1073741824 then 0 else 2 := rfl
  obtain ⟨who, ep⟩ := f
  dsimp only [Flo.val, Flo.cells] at *
  have c1 : (w.alloc (.cells #[.string (bs who), .int .i64 ep] 73)).cell? ⟨w.heap.size, 1, none⟩ = some (.int .i64 ep) := by simp
  by_cases hs : who = starW
  · have hone := hone.trans (if_neg (fun h => h.1 hs))
    subst hs
    have e1 : ((bs starW).toList == [42]) = true := by rw [toList_data]; rfl
    by_cases h1 : 1 ≤ ep ∧ ep ≤ 1073741824
    · have hr := Lib.hid (hone.trans (if_pos h1))
      obtain ⟨h1, h2⟩ := h1
      clear hone
      go_enter Tryz.func122, Tryz.ntmps122
      go_wp2_with fail
      go_ret
      exact ⟨by rw [hr.out]; rfl, hB⟩
    · have hr := Lib.hid (hone.trans (if_neg h1))
      have he := (hL.below hB).e2
      have h1 : ep < 1 ∨ 1073741824 < ep := by omega
      clear hone
      rcases h1 with h1 | h1
      all_goals
        go_enter Tryz.func122, Tryz.ntmps122
        go_wp2_with fail
        go_ret
        exact ⟨by rw [hr.out]; rfl, hB⟩
  · have e1 : ((bs who).toList == [42]) = false := by rw [toList_data, bs_list, beq_eq_false_iff_ne]; exact hs
    have e2 : ((bs who).toList != [42]) = true := by rw [bne, e1]; rfl
    cases ha : isName who with
    | false =>
      have hr := Lib.hid (hone.trans (if_pos ⟨hs, ha⟩))
      have ha2 := Lib.hid (show isName (bs who).data.toList = false from ha)
      clear hone hs ha
      go_enter Tryz.func122, Tryz.ntmps122
      go_wp2_with fail
      refine (hnm.out _).mono ?_
      rintro e w1 ⟨rfl, hb⟩
      rw [ha2.out]
      have hb := Lib.hid (below_trans hB hb)
      have he := (hL.below hb.out).e4
      clear c1
      go_wp2_with fail
      go_ret
      exact ⟨by rw [hr.out]; rfl, hb.out⟩
    | true =>
      have hone := hone.trans (if_neg (fun h => by rw [ha] at h; exact absurd h.2 (by decide)))
      have ha2 := Lib.hid (show isName (bs who).data.toList = true from ha)
      clear ha hs
      by_cases h1 : 1 ≤ ep ∧ ep ≤ 1073741824
      · have hr := Lib.hid (hone.trans (if_pos h1))
        obtain ⟨h1, h2⟩ := h1
        clear hone
        go_enter Tryz.func122, Tryz.ntmps122
        go_wp2_with fail
        refine (hnm.out _).mono ?_
        rintro e w1 ⟨rfl, hb⟩
        rw [ha2.out]
        have d1 := cell_below hb c1
        have hb := Lib.hid (below_trans hB hb)
        clear c1
        go_wp2_with fail
        go_ret
        exact ⟨by rw [hr.out]; rfl, hb.out⟩
      · have hr := Lib.hid (hone.trans (if_neg h1))
        have h1 : ep < 1 ∨ 1073741824 < ep := by omega
        clear hone
        rcases h1 with h1 | h1
        all_goals
          go_enter Tryz.func122, Tryz.ntmps122
          go_wp2_with fail
          refine (hnm.out _).mono ?_
          rintro e w1 ⟨rfl, hb⟩
          rw [ha2.out]
          have d1 := cell_below hb c1
          have hb := Lib.hid (below_trans hB hb)
          have he := (hL.below hb.out).e2
          clear c1
          go_wp2_with fail
          go_ret
          exact ⟨by rw [hr.out]; rfl, hb.out⟩

set_option maxRecDepth 100000 in
theorem top_flo (v : Value) (L : List Flo) (w : World) (hv : FloorsAt w v L) :
    Calls Tryz.prog 72 #[v] w fun e w' => e = .returned (.int .i64 (topF L)) ∧ w = w' := by
  obtain ⟨a, c, rfl, hlen, _, hc⟩ := hv
  cases L with
  | nil =>
    go_enter Tryz.func72, Tryz.ntmps72
    go_wp2_with fail
    go_ret
    exact ⟨rfl, rfl⟩
  | cons f L =>
    obtain ⟨b, o, rfl, h0, h1⟩ := hc 0 (by simp)
    obtain ⟨who, ep⟩ := f
    simp only [List.getElem_cons_zero, Nat.zero_mul, Nat.add_zero] at h0 h1
    have hn : 0 < (⟨who, ep⟩ :: L : List Flo).length := by simp
    unfold maxLen at hlen
    clear hc
    generalize hm : (⟨who, ep⟩ :: L : List Flo).length = m at *
    clear hm
    by_cases hs : who = starW
    · have e1 : ((bs who).toList == [42]) = true := by rw [hs, toList_data]; rfl
      have hr := Lib.hid (show topF (⟨who, ep⟩ :: L) = ep from if_pos hs)
      clear hs
      go_enter Tryz.func72, Tryz.ntmps72
      go_wp2_with fail
      go_ret
      exact ⟨ret_int hr.out.symm, rfl⟩
    · have e1 : ((bs who).toList == [42]) = false := by rw [toList_data, bs_list, beq_eq_false_iff_ne]; exact hs
      have hr := Lib.hid (show topF (⟨who, ep⟩ :: L) = 0 from if_neg hs)
      clear hs
      go_enter Tryz.func72, Tryz.ntmps72
      go_wp2_with fail
      go_ret
      exact ⟨ret_int hr.out.symm, rfl⟩

set_option maxRecDepth 100000 in
theorem of1_asks (n : List UInt8) (b : Nat) (w : World) (hc : w.cell? ⟨b, 0, none⟩ = some (.string (bs n))) (W : World) (f : Flo) (hb : Below w.heap.size w W) :
    Calls Tryz.prog 71 #[f.val, .pointer (some ⟨b, 0, none⟩)] W fun e w' => e = .returned (.bool (f.who == n)) ∧ Below W.heap.size W w' := by
  have hc := cell_below hb hc
  obtain ⟨who, ep⟩ := f
  dsimp only [Flo.val]
  have hlt := World.block_lt_of_cell? W _ hc
  have hc2 : ∀ o, (W.alloc o).cell? ⟨b, 0, none⟩ = some (.string (bs n)) := fun o => by rw [World.cell?_alloc_lt _ _ _ hlt]; exact hc
  have hbe : ((bs who).toList == (bs n).toList) = (who == n) := by rw [toList_data, toList_data, bs_list, bs_list]
  cases hq : (who == n) with
  | true =>
    rw [hq] at hbe
    clear hq hc
    go_enter Tryz.func71, Tryz.ntmps71
    go_wp2_with fail
    go_ret
    exact ⟨rfl, (Below.refl _ _).alloc (Nat.le_refl _) _⟩
  | false =>
    rw [hq] at hbe
    clear hq hc
    go_enter Tryz.func71, Tryz.ntmps71
    go_wp2_with fail
    go_ret
    exact ⟨rfl, (Below.refl _ _).alloc (Nat.le_refl _) _⟩

/-- What a closure that asks for floors does. -/
def AsksF (g : Nat) (cs : Array Value) (p : Flo → Bool) (w : World) : Prop := ∀ (W : World) (f : Flo), f.who.length ≤ maxLen → Below w.heap.size w W → Calls Tryz.prog g (#[f.val] ++ cs) W fun e w' => e = .returned (.bool (p f)) ∧ Below W.heap.size W w'
/-- The first floor that is asked for (-1: none). -/
def firstF (p : Flo → Bool) (L : List Flo) : Int := if L.findIdx p < L.length then (L.findIdx p : Int) else -1
theorem firstF_of {p : Flo → Bool} {L : List Flo} {j : Nat} (hj : j < L.length) (hb : p L[j] = true) (ha : ∀ i (h : i < L.length), i < j → p L[i] = false) : firstF p L = (j : Int) := by
  have : L.findIdx p = j := (List.findIdx_eq hj).2 ⟨hb, fun i hi => ha i (by omega) hi⟩
  unfold firstF
  rw [this, if_pos hj]
theorem firstF_none {p : Flo → Bool} {L : List Flo} (ha : ∀ i (h : i < L.length), p L[i] = false) : firstF p L = -1 := by
  have : L.findIdx p = L.length := List.findIdx_eq_length.2 fun x hx => by
    obtain ⟨i, hi, rfl⟩ := List.getElem_of_mem hx
    exact ha i hi
  unfold firstF
  rw [this, if_neg (Nat.lt_irrefl _)]
set_option maxHeartbeats 1000000 in
set_option maxRecDepth 100000 in
theorem index_flo (v : Value) (L : List Flo) (g : Nat) (cs : Array Value) (p : Flo → Bool) (w : World) (hv : FloorsAt w v L) (hm : ∀ f ∈ L, f.who.length ≤ maxLen) (hg : AsksF g cs p w) (eg : ∀ args w, (callFunc g args).run Tryz.prog w = .ok (.enter g args) w) :
    Calls Tryz.prog 70 #[v, .func (.func g) #[] cs] w fun e w' => e = .returned (.int .i64 (firstF p L)) ∧ Below w.heap.size w w' := by
  obtain ⟨a, c, rfl, hlen, _, hc⟩ := hv
  unfold maxLen at hlen
  have hc := Lib.hid hc
  have hm := Lib.hid hm
  have hg := Lib.hid hg
  go_enter Tryz.func70, Tryz.ntmps70
  go_wp2_with fail
  go_loopg [8] (L.length + 1) (fun g8 i wr => ∃ j : Nat, i = .int .i64 j ∧ j ≤ L.length ∧ L.length - j + 1 ≤ g8 ∧ Hid (∀ i (h : i < L.length), i < j → p L[i] = false) ∧ Hid (Below w.heap.size w wr))
  case atStart => exact ⟨0, rfl, Nat.zero_le _, by omega, Lib.hid (fun _ _ h => absurd h (Nat.not_lt_zero _)), Lib.hid (Below.refl _ _)⟩
  case round =>
    obtain ⟨j, rfl, hj, hgj, hall, hK⟩ := hrel
    by_cases hlt : j < L.length
    · obtain ⟨b, o, rfl, hc0, hc1⟩ := hc.out j hlt
      have hc0 := cell_below hK.out hc0
      have hc1 := cell_below hK.out hc1
      have hk0 : (0 : Int) ≤ (j : Int) := by omega
      have hk1 : (j : Int) < (L.length : Int) := by omega
      have hgc := Lib.hid (hg.out wr L[j] (hm.out _ (List.getElem_mem hlt)) hK.out)
      cases hb : p L[j] with
      | true =>
        rw [hb] at hgc
        have hr := Lib.hid (show firstF p L = (j : Int) from firstF_of hlt hb hall.out)
        clear hb
        go_wp2_with fail
        refine hgc.out.mono ?_
        rintro e w1 ⟨rfl, hb1⟩
        have hb1 := Lib.hid (hK.out.trans (hb1.mono hK.out.size))
        go_wp2_with fail
        go_ret
        exact ⟨ret_int hr.out.symm, hb1.out⟩
      | false =>
        rw [hb] at hgc
        have hall2 := Lib.hid (show ∀ i (h : i < L.length), i < j + 1 → p L[i] = false from fun i h hi => by
          rcases Nat.lt_succ_iff_lt_or_eq.1 hi with h' | rfl
          · exact hall.out i h h'
          · exact hb)
        clear hb
        go_wp2_with fail
        refine hgc.out.mono ?_
        rintro e w1 ⟨rfl, hb1⟩
        have hb1 := Lib.hid (hK.out.trans (hb1.mono hK.out.size))
        go_wp2_with fail
        go_roundg (L.length - j)
        case measure => omega
        case rel => exact ⟨j + 1, by simp, hlt, by omega, hall2, hb1⟩
    · have hr := Lib.hid (show firstF p L = -1 from firstF_none fun i hi => hall.out i hi (by omega))
      have hge : ¬ ((j : Int) < (L.length : Int)) := by omega
      go_wp2_with fail
      go_ret
      exact ⟨ret_int hr.out.symm, hK.out⟩
end Go.Proofs.YtadnjdchjoechaaGreatDoor

/- A slice of structs that came in, opened to its cells. No program in sight. -/
namespace Go.Proofs.YtadnjdchjoechaaGreatDoor
open Go.ChangeShapes Go.WideShapes Go.Deep

theorem list_of {α : Type} {p : Nat → α → Prop} : ∀ (n : Nat), (∀ i, i < n → ∃ x, p i x) → ∃ l : List α, l.length = n ∧ ∀ i (h : i < l.length), p i l[i]
  | 0, _ => ⟨[], rfl, fun i h => by cases h⟩
  | n + 1, h => by
    obtain ⟨l, hl, hp⟩ := list_of n (fun i hi => h i (by omega))
    obtain ⟨x, hx⟩ := h n (by omega)
    refine ⟨l ++ [x], by simp [hl], fun i hi => ?_⟩
    by_cases hlt : i < l.length
    · rw [List.getElem_append_left hlt]; exact hp i hlt
    · have : i = n := by simp [hl] at hi; omega
      subst this
      rw [List.getElem_append_right (by omega)]
      simpa [hl] using hx

theorem cell_plain {w : World} {a : Addr} {k : Nat} {v : Value} (h : w.cell? (a.add k) = some v) : w.cell? ⟨a.block, a.off + k, none⟩ = some v := by
  unfold Addr.add at h
  by_cases hk : k = 0
  · rw [if_pos hk] at h
    subst hk
    obtain ⟨b, o, s⟩ := a
    cases s with
    | none => simpa using h
    | some x =>
      unfold World.cell? at h
      split at h <;> simp at h
  · rw [if_neg hk] at h; exact h
theorem addr_plain {w : World} {a : Addr} {v : Value} (h : w.cell? a = some v) : a = ⟨a.block, a.off, none⟩ := by
  obtain ⟨b, o, s⟩ := a
  cases s with
  | none => rfl
  | some x =>
    unfold World.cell? at h
    split at h <;> simp at h

theorem four_of {α : Type} {l : List α} (h : l.length = 4) : ∃ a b c d, l = [a, b, c, d] := by
  match l, h with
  | [a, b, c, d], _ => exact ⟨a, b, c, d, rfl⟩
section
variable {H : Type} {enc : TypeId × Value → H} {P : Program} {w : World} {base : Nat} {spare : Nat → Bool} {held : Bool}
/-- Each element's cells, and how they are read. -/
theorem slice_cells {t e : TypeId} {fuel : Nat} {cs : List Value} {x : DataW H × List MemPlace} (ht : P.underlying t = some (.slice e)) (h : DataW.trod enc P w base spare held fuel t cs = some x) :
    cs = [.slice none 0 0] ∨ ∃ (a : Addr) (len cap n : Nat), cs = [.slice (some a) len cap] ∧ len ≤ maxLen ∧
      ∀ i, i < len → ∃ (cs' : List Value) (y : DataW H × List MemPlace), cs'.length = P.cellsOf e ∧ (∀ j, j < P.cellsOf e → w.cell? ⟨a.block, a.off + (i * P.cellsOf e + j), none⟩ = cs'[j]?) ∧
        (∀ j, j < P.cellsOf e → i * P.cellsOf e + j = 0 → a = ⟨a.block, a.off, none⟩) ∧ DataW.trod enc P w base spare held n e cs' = some y := by
  rcases open_slice ht h with h0 | ⟨a, len, cap, m, n, D, Pl, hcs, _, hl, hm, hmm, _, hi⟩
  · exact .inl h0.1
  · refine .inr ⟨a, len, cap, n, hcs, by omega, fun i him => ?_⟩
    have : i < m := by rw [hmm]; split <;> omega
    obtain ⟨cs', hc, ht'⟩ := hi i this
    obtain ⟨_, hcl, hat⟩ := World.cells?_some hc
    have hget : ∀ j, j < P.cellsOf e → ∃ v, cs'[j]? = some v ∧ w.cell? (a.add (i * P.cellsOf e + j)) = some v := fun j hj => by
      refine ⟨cs'[j]'(by omega), List.getElem?_eq_getElem (by omega), ?_⟩
      rw [← add_add, hat j hj]
      exact List.getElem?_eq_getElem (by omega)
    refine ⟨cs', _, hcl, fun j hj => ?_, fun j hj h0 => ?_, ht'⟩
    · obtain ⟨v, h1, h2⟩ := hget j hj
      rw [h1]; exact cell_plain h2
    · obtain ⟨v, h1, h2⟩ := hget j hj
      rw [h0] at h2
      exact addr_plain (w := w) (v := v) (by simpa [Addr.add] using h2)
/-- A struct's fields. -/
theorem struct_fields {e : TypeId} {fs : Array Field} {n : Nat} {cs : List Value} {y : DataW H × List MemPlace} (he : P.underlying e = some (.struct fs)) (h : DataW.trod enc P w base spare held n e cs = some y) :
    cs.length = P.cellsOf e ∧ ∃ m, ∀ (j : Nat) (f : Field), fs[j]? = some f → ∃ z, DataW.trod enc P w base spare held m f.type ((cs.drop f.offset).take (P.cellsOf f.type)) = some z := by
  obtain ⟨ys, m, _, _, hcl, hyl, hf⟩ := DataW.trod_struct he h
  refine ⟨hcl, m, fun j f hj => ?_⟩
  have hlt : j < ys.length := by rw [hyl]; exact (Array.getElem?_eq_some_iff.1 hj).1
  exact ⟨ys[j], (hf j f hj).trans (List.getElem?_eq_getElem hlt)⟩
theorem field_one {t : TypeId} {m n j : Nat} {cs : List Value} {v : Value} {z : DataW H × List MemPlace} (h : DataW.trod enc P w base spare held m t ((cs.drop j).take n) = some z) (hn : n = 1) (hv : cs[j]? = some v) : DataW.trod enc P w base spare held m t [v] = some z := by
  obtain ⟨hj, rfl⟩ := List.getElem?_eq_some_iff.1 hv
  rw [hn, List.drop_eq_getElem_cons hj] at h
  exact h
theorem read_int {t : TypeId} {k : IntKind} {n : Nat} {v : Value} {z : DataW H × List MemPlace} (ht : P.underlying t = some (.int k)) (h : DataW.trod enc P w base spare held n t [v] = some z) : ∃ x, v = .int k x ∧ (Lit.int k x).wf = true := by
  obtain ⟨x, h1, _, h3⟩ := DataW.trod_int ht h
  exact ⟨x, by simpa using h1, h3⟩
theorem read_string {t : TypeId} {n : Nat} {v : Value} {z : DataW H × List MemPlace} (ht : P.underlying t = some .string) (h : DataW.trod enc P w base spare held n t [v] = some z) : ∃ s : List UInt8, v = .string (bs s) ∧ s.length ≤ maxLen := by
  obtain ⟨x, h1, _, h3⟩ := DataW.trod_string ht h
  exact ⟨x.data.toList, by rw [bs_data]; simpa using h1, by rw [Array.length_toList]; exact h3⟩
theorem read_bool {t : TypeId} {n : Nat} {v : Value} {z : DataW H × List MemPlace} (ht : P.underlying t = some .bool) (h : DataW.trod enc P w base spare held n t [v] = some z) : ∃ b, v = .bool b := by
  obtain ⟨x, h1, _⟩ := DataW.trod_bool ht h
  exact ⟨x, by simpa using h1⟩
end
end Go.Proofs.YtadnjdchjoechaaGreatDoor

/- Floors that came in. -/
namespace Go.Proofs.YtadnjdchjoechaaGreatDoor
open Go.ChangeShapes Go.WideShapes Go.ChangeAt Go.RowKit Go.ChangeMaps Go.Deep

theorem two_of {α : Type} {l : List α} (h : l.length = 2) : ∃ a b, l = [a, b] := by
  match l, h with
  | [a, b], _ => exact ⟨a, b, rfl⟩
set_option maxRecDepth 100000 in
theorem flo_cells {H : Type} {enc : TypeId × Value → H} {W : World} {base : Nat} {spare : Nat → Bool} {held : Bool} {n : Nat} {cs : List Value} {y : DataW H × List MemPlace}
    (h : DataW.trod enc Tryz.prog W base spare held n 73 cs = some y) : ∃ p : Flo, cs = [.string (bs p.who), .int .i64 p.ep] ∧ p.who.length ≤ maxLen := by
  have hC : Tryz.prog.cellsOf 73 = 2 := by kernel_rfl
  have h1 : Tryz.prog.cellsOf 9 = 1 := by kernel_rfl
  have h2 : Tryz.prog.cellsOf 3 = 1 := by kernel_rfl
  obtain ⟨hcl, m, hf⟩ := struct_fields Tryz.underlying73 h
  obtain ⟨k0, k1, rfl⟩ := two_of (hcl.trans hC)
  obtain ⟨_, z0⟩ := hf 0 _ rfl
  obtain ⟨_, z1⟩ := hf 1 _ rfl
  have z0 := field_one z0 h1 (v := k0) rfl
  have z1 := field_one z1 h2 (v := k1) rfl
  obtain ⟨s0, rfl, l0⟩ := read_string Tryz.underlying9 z0
  obtain ⟨x1, rfl, _⟩ := read_int Tryz.underlying3 z1
  exact ⟨⟨s0, x1⟩, rfl, l0⟩
set_option maxRecDepth 100000 in
theorem flo_arg {H : Type} {enc : TypeId × Value → H} {W : World} {b0 base : Nat} {spare : Nat → Bool} {held : Bool} {v : Value} {d : DataW H} {p : List MemPlace}
    (hv : Value.okWide Tryz.prog W .any b0 73 v) (h : DataW.Trod enc Tryz.prog W base spare held 73 v d p) : ∃ t : Flo, v = t.val ∧ t.who.length ≤ maxLen := by
  obtain ⟨cs, rfl, _⟩ := okWide_struct Tryz.underlying73 hv
  obtain ⟨fuel, hf⟩ := h
  obtain ⟨t, ht, hl⟩ := flo_cells hf
  have ht : cs = #[.string (bs t.who), .int .i64 t.ep] := Array.toList_inj.1 ht
  subst ht
  exact ⟨t, rfl, hl⟩
theorem slice_cap {H : Type} {enc : TypeId × Value → H} {P : Program} {w : World} {base : Nat} {spare : Nat → Bool} {held : Bool} {t e : TypeId} {fuel : Nat} {a : Option Addr} {len cap : Nat} {x : DataW H × List MemPlace} (ht : P.underlying t = some (.slice e)) (h : DataW.trod enc P w base spare held fuel t [.slice a len cap] = some x) : len ≤ cap := by
  rcases open_slice ht h with h0 | ⟨a', len', cap', m, n, D, Pl, hcs, _, hl, hm, hmm, _, hi⟩
  · cases h0.1
    exact Nat.le_refl _
  · cases hcs
    exact hl
set_option maxRecDepth 100000 in
theorem flos_of {H : Type} {enc : TypeId × Value → H} {W : World} {base : Nat} {spare : Nat → Bool} {held : Bool} {fuel : Nat} {a : Option Addr} {len cap : Nat} {x : DataW H × List MemPlace} 
    (h : DataW.trod enc Tryz.prog W base spare held fuel 52 [.slice a len cap] = some x) : ∃ A, FloorsAt W (.slice a len cap) A ∧ ∀ f ∈ A, f.who.length ≤ maxLen := by
  have hcap := slice_cap Tryz.underlying52 h
  rcases slice_cells Tryz.underlying52 h with h0 | ⟨a', len', cap', n, hcs, hm, hi⟩
  · cases h0
    exact ⟨[], ⟨none, 0, rfl, Nat.zero_le _, Nat.zero_le _, fun i hi => by cases hi⟩, fun f hf => by cases hf⟩
  · cases hcs
    have hC : Tryz.prog.cellsOf 73 = 2 := by kernel_rfl
    rw [hC] at hi
    obtain ⟨A, hl, hA⟩ := list_of (p := fun i (q : Flo) => (i = 0 → a' = ⟨a'.block, a'.off, none⟩) ∧ W.cell? ⟨a'.block, a'.off + i * 2, none⟩ = some (.string (bs q.who)) ∧ W.cell? ⟨a'.block, a'.off + i * 2 + 1, none⟩ = some (.int .i64 q.ep) ∧ q.who.length ≤ maxLen) len (fun i hil => by
      obtain ⟨cs, y, hcl, hat, ha, ht⟩ := hi i hil
      obtain ⟨q, rfl, hq⟩ := flo_cells ht
      exact ⟨q, fun h0 => ha 0 (by decide) (by rw [h0]), by simpa using hat 0 (by decide), by simpa [Nat.add_assoc] using hat 1 (by decide), hq⟩)
    subst hl
    refine ⟨A, ⟨some a', cap, rfl, hm, hcap, fun i hil => ?_⟩, fun f hf => ?_⟩
    · exact ⟨a'.block, a'.off, congrArg some ((hA 0 (Nat.lt_of_le_of_lt (Nat.zero_le _) hil)).1 rfl), (hA i hil).2.1, (hA i hil).2.2.1⟩
    · obtain ⟨i, hi2, rfl⟩ := List.getElem_of_mem hf
      exact (hA i hi2).2.2.2
end Go.Proofs.YtadnjdchjoechaaGreatDoor

/- Rows of floors of one's own in memory: no walk. -/
namespace Go.Proofs.YtadnjdchjoechaaGreatDoor
open Go.RowKit

def flatF : List Flo → List Value
  | [] => []
  | f :: L => f.cells ++ flatF L
theorem flatF_append : ∀ L M, flatF (L ++ M) = flatF L ++ flatF M
  | [], _ => rfl
  | p :: L, M => by simp only [List.cons_append, flatF, flatF_append L M, List.append_assoc]
theorem flatF_len : ∀ L : List Flo, (flatF L).length = L.length * 2
  | [] => rfl
  | p :: L => by simp [flatF, Flo.cells, flatF_len L]; omega
theorem flatF_get : ∀ (L : List Flo) (i : Nat) (h : i < L.length), (flatF L)[i * 2]? = some (.string (bs L[i].who)) ∧ (flatF L)[i * 2 + 1]? = some (.int .i64 L[i].ep)
  | p :: L, 0, _ => by simp [flatF, Flo.cells]
  | p :: L, i + 1, h => by
    have := flatF_get L i (by simpa using h)
    simp only [flatF, Flo.cells, List.getElem_cons_succ]
    rw [show (i + 1) * 2 = i * 2 + 2 by omega, show i * 2 + 2 + 1 = i * 2 + 1 + 2 by omega]
    simpa using this
theorem flatF_take : ∀ (L : List Flo) (k : Nat), flatF (L.take k) = (flatF L).take (k * 2)
  | [], _ => by simp [flatF]
  | p :: L, 0 => by simp [flatF]
  | p :: L, k + 1 => by
    rw [show (k + 1) * 2 = k * 2 + 2 by omega]
    simp [flatF, Flo.cells, flatF_take L k]
theorem flatF_drop : ∀ (L : List Flo) (k : Nat), flatF (L.drop k) = (flatF L).drop (k * 2)
  | [], _ => by simp [flatF]
  | p :: L, 0 => by simp [flatF]
  | p :: L, k + 1 => by
    rw [show (k + 1) * 2 = k * 2 + 2 by omega]
    simp [flatF, Flo.cells, flatF_drop L k]
theorem flatF_set : ∀ (L : List Flo) (k : Nat) (f : Flo), k < L.length → ((flatF L).set (k * 2) (.string (bs f.who))).set (k * 2 + 1) (.int .i64 f.ep) = flatF (L.set k f)
  | p :: L, 0, f, _ => by simp [flatF, Flo.cells]
  | p :: L, k + 1, f, h => by
    have h1 := flatF_set L k f (by simpa using h)
    rw [show (k + 1) * 2 + 1 = k * 2 + 1 + 2 by omega, show (k + 1) * 2 = k * 2 + 2 by omega]
    simp [flatF, Flo.cells, h1]
theorem flatF_one (L : List Flo) : ∀ u ∈ flatF L, u.oneCell' = true := by
  induction L with
  | nil => intro u hu; cases hu
  | cons p L ih =>
    intro u hu
    simp only [flatF, Flo.cells, List.cons_append, List.nil_append, List.mem_cons] at hu
    rcases hu with rfl | rfl | hu
    all_goals first | rfl | exact ih u hu
/-- A row of floors of one's own. -/
def FlRow (w : World) (base : Nat) (v : Value) (L : List Flo) : Prop := w.ownsRow base 73 2 v L.length (flatF L)
theorem FlRow.below {w w' : World} {base : Nat} {v : Value} {L : List Flo} (h : FlRow w base v L) (hb : Below w.heap.size w w') : FlRow w' base v L :=
  ownsRow_keeps h (Keeps.of_below hb) (fun _ _ h => h)
theorem FlRow.mono {w : World} {base base' : Nat} {v : Value} {L : List Flo} (h : FlRow w base v L) (hb : base' ≤ base) : FlRow w base' v L := ownsRow_mono h hb
/-- What a row of floors is: nil, or a block. -/
theorem FlRow.shape {w : World} {base : Nat} {v : Value} {L : List Flo} (h : FlRow w base v L) :
    (v = .slice none 0 0 ∧ L = []) ∨ ∃ g cap cur, v = .slice (some ⟨g, 0, none⟩) L.length cap ∧ base ≤ g ∧ w.heap[g]? = some (.cells cur 73 (0, 0)) ∧ L.length ≤ cap ∧ cap ≤ maxLen ∧ cur.size = cap * 2 ∧ cur.toList.take (L.length * 2) = flatF L := by
  obtain ⟨_, ⟨rfl, hn⟩ | h⟩ := h
  · exact .inl ⟨rfl, List.eq_nil_of_length_eq_zero hn⟩
  · exact .inr h
theorem FlRow.cells {w : World} {base g cap : Nat} {L : List Flo} (h : FlRow w base (.slice (some ⟨g, 0, none⟩) L.length cap) L) :
    ∀ i u, (flatF L)[i]? = some u → w.cell? ⟨g, i, none⟩ = some u := by
  rcases h.shape with ⟨h1, _⟩ | ⟨g', cap', cur, he, hb, hg, hc, hm, hsz, ht⟩
  · cases h1
  · cases he
    intro i u hu
    have hi : i < L.length * 2 := by
      have := (List.getElem?_eq_some_iff.1 hu).1
      rw [flatF_len] at this
      omega
    rw [cell_of_row w g i _ _ _ hg]
    rw [← ht, List.getElem?_take, if_pos hi] at hu
    simpa using hu
theorem FlRow.frozen {w : World} {base g cap : Nat} {L : List Flo} (h : FlRow w base (.slice (some ⟨g, 0, none⟩) L.length cap) L) (i : Nat) : w.frozen? ⟨g, i, none⟩ = false := by
  rcases h.shape with ⟨h1, _⟩ | ⟨g', cap', cur, he, hb, hg, hc, hm, hsz, ht⟩
  · cases h1
  · cases he
    exact frozen_of_row _ _ _ _ _ hg
theorem FlRow.at_ {w : World} {base : Nat} {v : Value} {L : List Flo} (h : FlRow w base v L) (hL : L.length ≤ maxLen) : FloorsAt w v L := by
  rcases h.shape with ⟨rfl, rfl⟩ | ⟨g, cap, cur, rfl, hb, hg, hc, hm, hsz, ht⟩
  · exact ⟨none, 0, rfl, Nat.zero_le _, Nat.zero_le _, fun i hi => by cases hi⟩
  · refine ⟨_, _, rfl, hL, hc, fun i hi => ⟨g, 0, rfl, ?_⟩⟩
    obtain ⟨h0, h1⟩ := flatF_get L i hi
    rw [Nat.zero_add]
    exact ⟨h.cells _ _ h0, h.cells _ _ h1⟩
/-- A floor written into a row. -/
theorem FlRow.set {w : World} {base g cap : Nat} {L : List Flo} (h : FlRow w base (.slice (some ⟨g, 0, none⟩) L.length cap) L) {k : Nat} (hk : k < L.length) (f : Flo) :
    FlRow ((w.setCell ⟨g, k * 2, none⟩ (.string (bs f.who))).setCell ⟨g, k * 2 + 1, none⟩ (.int .i64 f.ep)) base (.slice (some ⟨g, 0, none⟩) L.length cap) (L.set k f) := by
  have h1 := ownsRow_setCell (ownsRow_setCell h (k * 2) (.string (bs f.who))) (k * 2 + 1) (.int .i64 f.ep)
  rw [flatF_set L k f hk] at h1
  unfold FlRow
  rw [List.length_set]
  exact h1
/-- The first k of a row. -/
theorem FlRow.take {w : World} {base g cap : Nat} {L : List Flo} (h : FlRow w base (.slice (some ⟨g, 0, none⟩) L.length cap) L) {k : Nat} (hk : k ≤ L.length) :
    FlRow w base (.slice (some ⟨g, 0, none⟩) k cap) (L.take k) := by
  rcases h.shape with ⟨h1, _⟩ | ⟨g', cap', cur, he, hb, hg, hc, hm, hsz, ht⟩
  · cases h1
  · cases he
    have hl : (L.take k).length = k := by rw [List.length_take]; omega
    unfold FlRow
    rw [hl]
    refine ⟨by rw [flatF_len, hl], .inr ⟨g, cap, cur, rfl, hb, hg, by omega, hm, hsz, ?_⟩⟩
    rw [flatF_take, ← ht, List.take_take, Nat.min_eq_left (by omega)]
theorem keeps_of_floors {S : Nat → Prop} {w w' : World} {v : Value} {L : List Flo} (h : FloorsAt w v L) (hk : Keeps S w w') (hs : ∀ b, v.ownBlock = some b → ¬ S b) : FloorsAt w' v L := by
  obtain ⟨a, c, rfl, h2, h3, h4⟩ := h
  refine ⟨a, c, rfl, h2, h3, fun i hi => ?_⟩
  obtain ⟨b, o, rfl, h5, h6⟩ := h4 i hi
  have hb : ¬ S b := hs b rfl
  exact ⟨b, o, rfl, hk.cell h5 hb, hk.cell h6 hb⟩
end Go.Proofs.YtadnjdchjoechaaGreatDoor

/- Entries of a feed in memory, and those that came in: no walk. -/
namespace Go.Proofs.YtadnjdchjoechaaGreatDoor
open Go.ChangeShapes Go.WideShapes Go.ChangeAt Go.RowKit Go.ChangeMaps Go.Deep

def Ent.val (e : Ent) : Value := .agg #[.int .i64 e.seq, .int .i64 e.time, .string (bs e.f.who), .int .i64 e.f.ep]
/-- An entry's cells. -/
def entC : Cells Ent where
  k := 4
  pos := by decide
  f := fun e => [.int .i64 e.seq, .int .i64 e.time, .string (bs e.f.who), .int .i64 e.f.ep]
  len := fun _ => rfl
  one := fun e u hu => by
    simp only [List.mem_cons, List.mem_nil_iff, or_false] at hu
    rcases hu with rfl | rfl | rfl | rfl <;> rfl
/-- Floors' cells, likewise. -/
def floC : Cells Flo where
  k := 2
  pos := by decide
  f := Flo.cells
  len := fun _ => rfl
  one := fun e u hu => by
    simp only [Flo.cells, List.mem_cons, List.mem_nil_iff, or_false] at hu
    rcases hu with rfl | rfl <;> rfl
theorem flatF_G : ∀ L, flatF L = flatG floC L
  | [] => rfl
  | f :: L => by
    show Flo.cells f ++ flatF L = floC.f f ++ flatG floC L
    rw [flatF_G L]
    rfl
theorem floRow_G {w : World} {base : Nat} {v : Value} {L : List Flo} : FlRow w base v L ↔ RowG floC w base 73 v L := by
  unfold FlRow RowG
  rw [flatF_G]
  exact Iff.rfl
theorem floorsAt_of {w : World} {v : Value} {L : List Flo} (h : AtG floC w v L) : FloorsAt w v L := by
  obtain ⟨a, c, h1, h2, h3, _, h5⟩ := h
  refine ⟨a, c, h1, h2, h3, fun i hi => ?_⟩
  obtain ⟨b, o, h6, h7⟩ := h5 i hi
  exact ⟨b, o, h6, h7 0 _ rfl, h7 1 _ rfl⟩
def EntsAt (w : World) (v : Value) (L : List Ent) : Prop := AtG entC w v L
def EntRow (w : World) (base : Nat) (v : Value) (L : List Ent) : Prop := RowG entC w base 75 v L
theorem info_ent : (Tryz.prog.info? 75).map (fun i => (i.zero, i.size, i.bytes)) = some (some (.agg #[.int .i64 0, .int .i64 0, .string ⟨#[]⟩, .int .i64 0]), entC.k, 40) := by kernel_rfl
theorem EntsAt.below {w w' : World} {v : Value} {L : List Ent} (h : EntsAt w v L) (hb : Below w.heap.size w w') : EntsAt w' v L := AtG.below h hb
theorem EntRow.at_ {w : World} {base : Nat} {v : Value} {L : List Ent} (h : EntRow w base v L) : EntsAt w v L := RowG.at_ h
/-- Its cells, one by one. -/
theorem EntsAt.get {w : World} {v : Value} {L : List Ent} (h : EntsAt w v L) : ∃ a c, v = .slice a L.length c ∧ L.length ≤ maxLen ∧ L.length ≤ c ∧ ∀ i (h : i < L.length), ∃ b o, a = some ⟨b, o, none⟩ ∧
    w.cell? ⟨b, o + i * 4, none⟩ = some (.int .i64 L[i].seq) ∧ w.cell? ⟨b, o + i * 4 + 1, none⟩ = some (.int .i64 L[i].time) ∧ w.cell? ⟨b, o + i * 4 + 2, none⟩ = some (.string (bs L[i].f.who)) ∧ w.cell? ⟨b, o + i * 4 + 3, none⟩ = some (.int .i64 L[i].f.ep) := by
  obtain ⟨a, c, h1, h2, h3, _, h5⟩ := h
  refine ⟨a, c, h1, h2, h3, fun i hi => ?_⟩
  obtain ⟨b, o, h6, h7⟩ := h5 i hi
  exact ⟨b, o, h6, h7 0 _ rfl, h7 1 _ rfl, h7 2 _ rfl, h7 3 _ rfl⟩
theorem EntsAt.sl {w : World} {v : Value} {L : List Ent} (h : EntsAt w v L) : ∃ a c, v = .slice a L.length c := AtG.sl h
theorem EntsAt.len {w : World} {v : Value} {L : List Ent} (h : EntsAt w v L) : L.length ≤ maxLen := AtG.len h

/-! What came in. -/
theorem three_of {α : Type} {l : List α} (h : l.length = 3) : ∃ a b c, l = [a, b, c] := by
  match l, h with
  | [a, b, c], _ => exact ⟨a, b, c, rfl⟩
set_option maxRecDepth 100000 in
theorem ent_cells {H : Type} {enc : TypeId × Value → H} {W : World} {base : Nat} {spare : Nat → Bool} {held : Bool} {n : Nat} {cs : List Value} {y : DataW H × List MemPlace}
    (h : DataW.trod enc Tryz.prog W base spare held n 75 cs = some y) : ∃ p : Ent, cs = entC.f p ∧ p.f.who.length ≤ maxLen := by
  have hC : Tryz.prog.cellsOf 75 = 4 := by kernel_rfl
  have h1 : Tryz.prog.cellsOf 3 = 1 := by kernel_rfl
  have h2 : Tryz.prog.cellsOf 73 = 2 := by kernel_rfl
  obtain ⟨hcl, m, hf⟩ := struct_fields Tryz.underlying75 h
  obtain ⟨k0, k1, k2, k3, rfl⟩ := four_of (hcl.trans hC)
  obtain ⟨_, z0⟩ := hf 0 _ rfl
  obtain ⟨_, z1⟩ := hf 1 _ rfl
  obtain ⟨_, z2⟩ := hf 2 _ rfl
  have z0 := field_one z0 h1 (v := k0) rfl
  have z1 := field_one z1 h1 (v := k1) rfl
  obtain ⟨x0, rfl, _⟩ := read_int Tryz.underlying3 z0
  obtain ⟨x1, rfl, _⟩ := read_int Tryz.underlying3 z1
  obtain ⟨f, hf2, hl⟩ := flo_cells z2
  have hf3 : [k2, k3] = [.string (bs f.who), .int .i64 f.ep] := hf2
  simp only [List.cons.injEq, and_true] at hf3
  obtain ⟨rfl, rfl⟩ := hf3
  exact ⟨⟨x0, x1, f⟩, rfl, hl⟩
set_option maxRecDepth 100000 in
theorem ents_of {H : Type} {enc : TypeId × Value → H} {W : World} {base : Nat} {spare : Nat → Bool} {held : Bool} {fuel : Nat} {a : Option Addr} {len cap : Nat} {x : DataW H × List MemPlace}
    (h : DataW.trod enc Tryz.prog W base spare held fuel 22 [.slice a len cap] = some x) : ∃ A, EntsAt W (.slice a len cap) A ∧ ∀ e ∈ A, e.f.who.length ≤ maxLen := by
  have hcap := slice_cap Tryz.underlying22 h
  rcases slice_cells Tryz.underlying22 h with h0 | ⟨a', len', cap', n, hcs, hm, hi⟩
  · cases h0
    exact ⟨[], AtG.nil _, fun f hf => by cases hf⟩
  · cases hcs
    have hC : Tryz.prog.cellsOf 75 = 4 := by kernel_rfl
    rw [hC] at hi
    obtain ⟨A, hl, hA⟩ := list_of (p := fun i (q : Ent) => (i = 0 → a' = ⟨a'.block, a'.off, none⟩) ∧ (∀ j u, (entC.f q)[j]? = some u → W.cell? ⟨a'.block, a'.off + i * 4 + j, none⟩ = some u) ∧ q.f.who.length ≤ maxLen) len (fun i hil => by
      obtain ⟨cs, y, hcl, hat, ha, ht⟩ := hi i hil
      obtain ⟨q, rfl, hq⟩ := ent_cells ht
      refine ⟨q, fun h0 => ha 0 (by decide) (by rw [h0]), fun j u hu => ?_, hq⟩
      have hj : j < 4 := (List.getElem?_eq_some_iff.1 hu).1
      have := hat j hj
      rw [hu] at this
      simpa [Nat.add_assoc] using this)
    subst hl
    refine ⟨A, ⟨some a', cap, rfl, hm, hcap, (fun e => by cases e), fun i hil => ⟨a'.block, a'.off, congrArg some ((hA 0 (Nat.lt_of_le_of_lt (Nat.zero_le _) hil)).1 rfl), (hA i hil).2.1⟩⟩, fun f hf => ?_⟩
    obtain ⟨i, hi2, rfl⟩ := List.getElem_of_mem hf
    exact (hA i hi2).2.2
end Go.Proofs.YtadnjdchjoechaaGreatDoor
