/- ReadP, Mark0, Texts, Name, FloW, ErrAt -/
import Derived.Test.YtcnadjdijolboaaGreatDoorMg2
import Derived.Lib.CutLaws
import Derived.Test.YtcnadjdijolboaaGreatDoorProg
import Derived.Test.YtcnadjdijolboaaGreatDoorMg1
import Derived.WalkKit
import Derived.WalkSpells
import Derived.WalkLawsBesides
import Derived.Lib.Hide
import Derived.Deep.QuietTactic
import Derived.BigQuiet
import Derived.Deep.Draws
import Derived.Test.YtcnadjdijolboaaGreatDoorShelf
import Derived.Deep.RegionHeld3
import Derived.Deep.LoopGhost
import Derived.Deep.CutRange
import Derived.Deep.CutBlock
/- Floors that are read: plain: no program in sight. -/
namespace Go.Proofs.YtcnadjdijolboaaGreatDoor

theorem cutL_le (c : UInt8) : ∀ l, (cutL c l).length ≤ l.length + 1
  | [] => by simp [cutL]
  | b :: r => by
    have ih := cutL_le c r
    unfold cutL
    split
    · simp only [List.length_cons]; omega
    · split
      · simp
      · rename_i h t he
        rw [he] at ih
        simp only [List.length_cons] at ih ⊢
        omega
/-- One piece. -/
def pieceF (w : List UInt8) : Option Flo := if (Lib.cut w [58]).2.2 = true ∧ (number (Lib.cut w [58]).2.1 9999999999).2 = true then some ⟨(Lib.cut w [58]).1, (number (Lib.cut w [58]).2.1 9999999999).1⟩ else none
def allF (L : List (List UInt8)) : Prop := ∀ w ∈ L, pieceF w ≠ none
def valsF (L : List (List UInt8)) : List Flo := L.filterMap pieceF
open Classical in
/-- What is answered. -/
noncomputable def readF (s : List UInt8) : List Flo × Nat × Int :=
  if s = [45] then ([], 0, -1) else if allF (cutL 44 s) then (if (checkF (valsF (cutL 44 s))).1 = 0 then (valsF (cutL 44 s), 0, -1) else ([], checkF (valsF (cutL 44 s)))) else ([], 1, -1)
theorem valsF_snoc {L : List (List UInt8)} {w : List UInt8} {f : Flo} (h : pieceF w = some f) : valsF (L ++ [w]) = valsF L ++ [f] := by
  unfold valsF
  rw [List.filterMap_append]
  simp [h]
theorem allF_snoc {L : List (List UInt8)} {w : List UInt8} {f : Flo} (h : allF L) (h2 : pieceF w = some f) : allF (L ++ [w]) := fun x hx => by
  rcases List.mem_append.1 hx with h3 | h3
  · exact h x h3
  · rw [List.mem_singleton.1 h3, h2]
    exact fun e => by cases e
theorem allF_nil : allF [] := fun _ h => by cases h
theorem allF_not {L : List (List UInt8)} {w : List UInt8} (hw : w ∈ L) (h : pieceF w = none) : ¬ allF L := fun ha => ha w hw h
theorem valsF_len (L : List (List UInt8)) : (valsF L).length ≤ L.length := List.length_filterMap_le _ _
theorem cut_len (w : List UInt8) : (Lib.cut w [58]).1.length ≤ w.length ∧ (Lib.cut w [58]).2.1.length ≤ w.length := by
  unfold Lib.cut
  split
  · exact ⟨by simp; omega, by simp⟩
  · exact ⟨Nat.le_refl _, by simp⟩
theorem pieceF_who {w : List UInt8} {f : Flo} (h : pieceF w = some f) : f.who.length ≤ w.length := by
  unfold pieceF at h
  split at h
  · cases h
    exact (cut_len w).1
  · cases h
theorem valsF_who {L : List (List UInt8)} {n : Nat} (h : ∀ w ∈ L, w.length ≤ n) : ∀ f ∈ valsF L, f.who.length ≤ n := fun f hf => by
  obtain ⟨w, hw, he⟩ := List.mem_filterMap.1 hf
  exact Nat.le_trans (pieceF_who he) (h w hw)
end Go.Proofs.YtcnadjdijolboaaGreatDoor

/- Errors as values, the sentinels' variables, small lemmas, mark.Key. -/
namespace Go.Proofs.YtcnadjdijolboaaGreatDoor
open Go.RowKit

/-- An error by its number (0: nil). -/
def errV (E : Nat → Addr) : Nat → Value
  | 0 => .nilIface
  | c + 1 => .iface 201 (.pointer (some (E (c + 1))))
theorem errV_zero (E : Nat → Addr) : errV E 0 = .nilIface := rfl
theorem errV_succ (E : Nat → Addr) (c : Nat) : errV E (c + 1) = .iface 201 (.pointer (some (E (c + 1)))) := rfl

/-- The sentinels of package api lie at E, each in a row of its own. -/
structure Laid (E : Nat → Addr) (w : World) : Prop where
  e1 : w.cell? ⟨3, 0, none⟩ = some (errV E 1)
  e2 : w.cell? ⟨5, 0, none⟩ = some (errV E 2)
  e3 : w.cell? ⟨2, 0, none⟩ = some (errV E 3)
  e4 : w.cell? ⟨4, 0, none⟩ = some (errV E 4)
  e7 : w.cell? ⟨0, 0, none⟩ = some (errV E 7)
  e8 : w.cell? ⟨1, 0, none⟩ = some (errV E 8)
theorem cell_below {w w' : World} (hb : Below w.heap.size w w') {a : Addr} {v : Value} (h : w.cell? a = some v) : w'.cell? a = some v :=
  (hb.cell (World.block_lt_of_cell? w a h)).trans h
theorem Laid.below {E : Nat → Addr} {w w' : World} (h : Laid E w) (hb : Below w.heap.size w w') : Laid E w' where
  e1 := cell_below hb h.e1
  e2 := cell_below hb h.e2
  e3 := cell_below hb h.e3
  e4 := cell_below hb h.e4
  e7 := cell_below hb h.e7
  e8 := cell_below hb h.e8
theorem below_drawn {B : Nat} {a w : World} (h : Below B a w) (n : Nat) : Below B a (w.drewN n) := ⟨h.os, h.tape, h.output, h.size, h.block⟩
theorem below_trans {w w1 w2 : World} (h : Below w.heap.size w w1) (h' : Below w1.heap.size w1 w2) : Below w.heap.size w w2 := h.trans (h'.mono h.size)
theorem ret_int {a b : Int} (h : a = b) : Ending.returned (.int .i64 a) = .returned (.int .i64 b) := by rw [h]
theorem ret_bool {a b : Bool} (h : a = b) : Ending.returned (.bool a) = .returned (.bool b) := by rw [h]
theorem ret_int2 {a b : Int} {v : Value} (h : a = b) : Ending.returned (.tuple #[.int .i64 a, v]) = .returned (.tuple #[.int .i64 b, v]) := by rw [h]
theorem key_any (k : Int) (w : World) :
    Calls Tryz.prog 107 #[.int .i64 k] w fun e w' => e = .returned (.bool (isKey k)) ∧ w = w' := by
  unfold isKey
  by_cases h : 1 ≤ k <;> by_cases h2 : k ≤ 1000000006
  all_goals
    go_enter Tryz.func107, Tryz.ntmps107
    go_wp2
    go_ret
    exact ⟨by simp [h, h2], rfl⟩
end Go.Proofs.YtcnadjdijolboaaGreatDoor

/- A slice of texts in memory. -/
namespace Go.Proofs.YtcnadjdijolboaaGreatDoor
open Go.RowKit

/-- A slice of texts. -/
def TextsAt (w : World) (v : Value) (N : List (List UInt8)) : Prop :=
  ∃ a c, v = .slice a N.length c ∧ N.length ≤ maxLen ∧ N.length ≤ c ∧ ∀ i (h : i < N.length), ∃ b o, a = some ⟨b, o, none⟩ ∧ w.cell? ⟨b, o + i, none⟩ = some (.string (bs N[i]))
theorem TextsAt.below {w w' : World} {v : Value} {N : List (List UInt8)} (h : TextsAt w v N) (hb : Below w.heap.size w w') : TextsAt w' v N := by
  obtain ⟨a, c, h1, h2, hcap, h3⟩ := h
  refine ⟨a, c, h1, h2, hcap, fun i hi => ?_⟩
  obtain ⟨b, o, h4, h5⟩ := h3 i hi
  exact ⟨b, o, h4, cell_below hb h5⟩
theorem toList_data (s : ByteArray) : s.toList = s.data.toList := ByteArray.toList_eq s
theorem bs_size (n : List UInt8) : (bs n).size = n.length := by simp [bs, ByteArray.size]
end Go.Proofs.YtcnadjdijolboaaGreatDoor

/- seal.Name, by its contract. -/
namespace Go.Proofs.YtcnadjdijolboaaGreatDoor
open Go.RowKit

set_option maxRecDepth 100000 in
theorem trim_small (s : ByteArray) (w : World) (hs : s.size ≤ maxLen) :
    Calls Tryz.prog 77 #[.string s, .string (bs smallCs)] w fun e w' => e = .returned (.string (bs (Lib.trimS s.data.toList smallCs))) ∧ Below w.heap.size w w' :=
  Any.strings_Trim_laid Tryz.trim160 (by kernel_rfl) s (bs smallCs) w hs (by decide) (ascii_of_all (by decide))
set_option maxRecDepth 100000 in
theorem name_any (s : ByteArray) (w : World) (hs : s.size ≤ maxLen) :
    Calls Tryz.prog 56 #[.string s] w fun e w' => e = .returned (.bool (isName s.data.toList)) ∧ Below w.heap.size w w' := by
  have ht := trim_small s w hs
  have hlen : s.data.toList.length = s.size := Array.length_toList
  have htl : s.toList = s.data.toList := toList_data s
  unfold maxLen at hs
  by_cases h0 : s.data.toList = []
  · have hr := Lib.hid (show isName s.data.toList = false by rw [h0]; rfl)
    have hte : s.toList = [] := by rw [htl, h0]
    clear ht hlen htl h0
    go_enter Tryz.func56, Tryz.ntmps56
    go_wp2_with fail
    go_ret
    exact ⟨ret_bool hr.out.symm, Below.refl _ _⟩
  · have hte : s.toList.isEmpty = false := by rw [htl]; simpa using h0
    have h1 : 1 ≤ s.size := by
      rcases Nat.eq_zero_or_pos s.size with h | h
      · exact absurd (List.eq_nil_of_length_eq_zero (hlen.trans h)) h0
      · exact h
    by_cases h8 : s.size ≤ 8
    · have ht := Lib.hid ht
      by_cases hall : Lib.trimS s.data.toList smallCs = []
      · have hr := Lib.hid (show isName s.data.toList = true from (isName_iff _).2 ⟨by omega, by omega, fun c hc => by rw [← smallCs_contains]; exact (trimS_nil_iff _ _).1 hall c hc⟩)
        clear hlen htl h0
        have he : (bs []).toList = [] := by rw [toList_data]; rfl
        go_enter Tryz.func56, Tryz.ntmps56
        go_wp2_with fail
        refine ht.out.mono ?_
        rintro e w1 ⟨rfl, hb⟩
        rw [hall]
        clear hall
        go_wp2_with fail
        go_ret
        exact ⟨ret_bool hr.out.symm, hb⟩
      · have hr := Lib.hid (show isName s.data.toList = false by
          cases hn : isName s.data.toList with
          | false => rfl
          | true =>
            obtain ⟨_, _, h⟩ := (isName_iff _).1 hn
            exact absurd ((trimS_nil_iff _ _).2 (fun c hc => by rw [smallCs_contains]; exact h c hc)) hall)
        clear hlen htl h0
        have he : (bs (Lib.trimS s.data.toList smallCs)).toList.isEmpty = false := by rw [toList_data, bs_list]; simpa using hall
        generalize bs (Lib.trimS s.data.toList smallCs) = t at *
        clear hall
        go_enter Tryz.func56, Tryz.ntmps56
        go_wp2_with fail
        refine ht.out.mono ?_
        rintro e w1 ⟨rfl, hb⟩
        go_wp2_with fail
        go_ret
        exact ⟨ret_bool hr.out.symm, hb⟩
    · have hr := Lib.hid (show isName s.data.toList = false by
        cases hn : isName s.data.toList with
        | false => rfl
        | true => obtain ⟨_, h, _⟩ := (isName_iff _).1 hn; omega)
      clear ht hlen htl h0
      go_enter Tryz.func56, Tryz.ntmps56
      go_wp2_with fail
      go_ret
      exact ⟨ret_bool hr.out.symm, Below.refl _ _⟩
end Go.Proofs.YtcnadjdijolboaaGreatDoor

/- The walks of package floor: right, all, Check, Of, Passes by contracts. -/
namespace Go.Proofs.YtcnadjdijolboaaGreatDoor
open Go.RowKit

def Flo.val (f : Flo) : Value := .agg #[.string (bs f.who), .int .i64 f.ep]
def Flo.cells (f : Flo) : List Value := [.string (bs f.who), .int .i64 f.ep]
/-- A slice of floors. -/
def FloorsAt (w : World) (v : Value) (L : List Flo) : Prop :=
  ∃ a c, v = .slice a L.length c ∧ L.length ≤ maxLen ∧ L.length ≤ c ∧ ∀ i (h : i < L.length), ∃ b o, a = some ⟨b, o, none⟩ ∧ w.cell? ⟨b, o + i * 2, none⟩ = some (.string (bs L[i].who)) ∧ w.cell? ⟨b, o + i * 2 + 1, none⟩ = some (.int .i64 L[i].ep)
theorem FloorsAt.below {w w' : World} {v : Value} {L : List Flo} (h : FloorsAt w v L) (hb : Below w.heap.size w w') : FloorsAt w' v L := by
  obtain ⟨a, c, h1, h2, hcap, h3⟩ := h
  refine ⟨a, c, h1, h2, hcap, fun i hi => ?_⟩
  obtain ⟨b, o, h4, h5, h6⟩ := h3 i hi
  exact ⟨b, o, h4, cell_below hb h5, cell_below hb h6⟩
theorem star_bs : (⟨#[42]⟩ : ByteArray) = bs starW := rfl
theorem who_star (n : List UInt8) : ((bs n).toList == (bs starW).toList) = decide (n = starW) := by
  rw [toList_data, toList_data, bs_list, bs_list]
  by_cases h : n = starW
  · rw [decide_eq_true h, h]; exact beq_self_eq_true _
  · rw [decide_eq_false h, beq_eq_false_iff_ne]; exact h

set_option maxRecDepth 100000 in
theorem right_flo {E : Nat → Addr} (f : Flo) (w : World) (hL : Laid E w) (hl : f.who.length ≤ maxLen) :
    Calls Tryz.prog 25 #[f.val] w fun e w' => e = .returned (errV E (oneF f)) ∧ Below w.heap.size w w' := by
  have hB : Below w.heap.size w (w.alloc (.cells f.cells.toArray 24)) := (Below.refl _ _).alloc (Nat.le_refl _) _
  have hnm := Lib.hid (fun wx => name_any (bs f.who) wx (by rw [bs_size]; exact hl))
  have hone : oneF f = if f.who ≠ starW ∧ isName f.who = false then 4 else if 1 ≤ f.ep ∧ f.ep ≤ 1073741824 then 0 else 2 := rfl
  obtain ⟨who, ep⟩ := f
  dsimp only [Flo.val, Flo.cells] at *
  have c1 : (w.alloc (.cells #[.string (bs who), .int .i64 ep] 24)).cell? ⟨w.heap.size, 1, none⟩ = some (.int .i64 ep) := by simp
  by_cases hs : who = starW
  · have hone := hone.trans (if_neg (fun h => h.1 hs))
    subst hs
    have e1 : ((bs starW).toList == [42]) = true := by rw [toList_data]; rfl
    by_cases h1 : 1 ≤ ep ∧ ep ≤ 1073741824
    · have hr := Lib.hid (hone.trans (if_pos h1))
      obtain ⟨h1, h2⟩ := h1
      clear hone
      go_enter Tryz.func25, Tryz.ntmps25
      go_wp2_with fail
      go_ret
      exact ⟨by rw [hr.out]; rfl, hB⟩
    · have hr := Lib.hid (hone.trans (if_neg h1))
      have he := (hL.below hB).e2
      have h1 : ep < 1 ∨ 1073741824 < ep := by omega
      clear hone
      rcases h1 with h1 | h1
      all_goals
        go_enter Tryz.func25, Tryz.ntmps25
        go_wp2_with fail
        go_ret
        exact ⟨by rw [hr.out]; rfl, hB⟩
  · have e1 : ((bs who).toList == [42]) = false := by rw [toList_data, bs_list, beq_eq_false_iff_ne]; exact hs
    have e2 : ((bs who).toList != [42]) = true := by rw [bne, e1]; rfl
    cases ha : isName who with
    | false =>
      have hr := Lib.hid (hone.trans (if_pos ⟨hs, ha⟩))
      have ha2 := Lib.hid (show isName (bs who).data.toList = false from ha)
      clear hone hs ha
      go_enter Tryz.func25, Tryz.ntmps25
      go_wp2_with fail
      refine (hnm.out _).mono ?_
      rintro e w1 ⟨rfl, hb⟩
      rw [ha2.out]
      have hb := Lib.hid (below_trans hB hb)
      have he := (hL.below hb.out).e4
      clear c1
      go_wp2_with fail
      go_ret
      exact ⟨by rw [hr.out]; rfl, hb.out⟩
    | true =>
      have hone := hone.trans (if_neg (fun h => by rw [ha] at h; exact absurd h.2 (by decide)))
      have ha2 := Lib.hid (show isName (bs who).data.toList = true from ha)
      clear ha hs
      by_cases h1 : 1 ≤ ep ∧ ep ≤ 1073741824
      · have hr := Lib.hid (hone.trans (if_pos h1))
        obtain ⟨h1, h2⟩ := h1
        clear hone
        go_enter Tryz.func25, Tryz.ntmps25
        go_wp2_with fail
        refine (hnm.out _).mono ?_
        rintro e w1 ⟨rfl, hb⟩
        rw [ha2.out]
        have d1 := cell_below hb c1
        have hb := Lib.hid (below_trans hB hb)
        clear c1
        go_wp2_with fail
        go_ret
        exact ⟨by rw [hr.out]; rfl, hb.out⟩
      · have hr := Lib.hid (hone.trans (if_neg h1))
        have h1 : ep < 1 ∨ 1073741824 < ep := by omega
        clear hone
        rcases h1 with h1 | h1
        all_goals
          go_enter Tryz.func25, Tryz.ntmps25
          go_wp2_with fail
          refine (hnm.out _).mono ?_
          rintro e w1 ⟨rfl, hb⟩
          rw [ha2.out]
          have d1 := cell_below hb c1
          have hb := Lib.hid (below_trans hB hb)
          have he := (hL.below hb.out).e2
          clear c1
          go_wp2_with fail
          go_ret
          exact ⟨by rw [hr.out]; rfl, hb.out⟩

set_option maxRecDepth 100000 in
theorem top_flo (v : Value) (L : List Flo) (w : World) (hv : FloorsAt w v L) :
    Calls Tryz.prog 26 #[v] w fun e w' => e = .returned (.int .i64 (topF L)) ∧ w = w' := by
  obtain ⟨a, c, rfl, hlen, _, hc⟩ := hv
  cases L with
  | nil =>
    go_enter Tryz.func26, Tryz.ntmps26
    go_wp2_with fail
    go_ret
    exact ⟨rfl, rfl⟩
  | cons f L =>
    obtain ⟨b, o, rfl, h0, h1⟩ := hc 0 (by simp)
    obtain ⟨who, ep⟩ := f
    simp only [List.getElem_cons_zero, Nat.zero_mul, Nat.add_zero] at h0 h1
    have hn : 0 < (⟨who, ep⟩ :: L : List Flo).length := by simp
    unfold maxLen at hlen
    clear hc
    generalize hm : (⟨who, ep⟩ :: L : List Flo).length = m at *
    clear hm
    by_cases hs : who = starW
    · have e1 : ((bs who).toList == [42]) = true := by rw [hs, toList_data]; rfl
      have hr := Lib.hid (show topF (⟨who, ep⟩ :: L) = ep from if_pos hs)
      clear hs
      go_enter Tryz.func26, Tryz.ntmps26
      go_wp2_with fail
      go_ret
      exact ⟨ret_int hr.out.symm, rfl⟩
    · have e1 : ((bs who).toList == [42]) = false := by rw [toList_data, bs_list, beq_eq_false_iff_ne]; exact hs
      have hr := Lib.hid (show topF (⟨who, ep⟩ :: L) = 0 from if_neg hs)
      clear hs
      go_enter Tryz.func26, Tryz.ntmps26
      go_wp2_with fail
      go_ret
      exact ⟨ret_int hr.out.symm, rfl⟩

set_option maxRecDepth 100000 in
theorem of1_asks (n : List UInt8) (b : Nat) (w : World) (hc : w.cell? ⟨b, 0, none⟩ = some (.string (bs n))) (W : World) (f : Flo) (hb : Below w.heap.size w W) :
    Calls Tryz.prog 44 #[f.val, .pointer (some ⟨b, 0, none⟩)] W fun e w' => e = .returned (.bool (f.who == n)) ∧ Below W.heap.size W w' := by
  have hc := cell_below hb hc
  obtain ⟨who, ep⟩ := f
  dsimp only [Flo.val]
  have hlt := World.block_lt_of_cell? W _ hc
  have hc2 : ∀ o, (W.alloc o).cell? ⟨b, 0, none⟩ = some (.string (bs n)) := fun o => by rw [World.cell?_alloc_lt _ _ _ hlt]; exact hc
  have hbe : ((bs who).toList == (bs n).toList) = (who == n) := by rw [toList_data, toList_data, bs_list, bs_list]
  cases hq : (who == n) with
  | true =>
    rw [hq] at hbe
    clear hq hc
    go_enter Tryz.func44, Tryz.ntmps44
    go_wp2_with fail
    go_ret
    exact ⟨rfl, (Below.refl _ _).alloc (Nat.le_refl _) _⟩
  | false =>
    rw [hq] at hbe
    clear hq hc
    go_enter Tryz.func44, Tryz.ntmps44
    go_wp2_with fail
    go_ret
    exact ⟨rfl, (Below.refl _ _).alloc (Nat.le_refl _) _⟩

/-- What a closure that asks for floors does. -/
def AsksF (g : Nat) (cs : Array Value) (p : Flo → Bool) (w : World) : Prop := ∀ (W : World) (f : Flo), f.who.length ≤ maxLen → Below w.heap.size w W → Calls Tryz.prog g (#[f.val] ++ cs) W fun e w' => e = .returned (.bool (p f)) ∧ Below W.heap.size W w'
/-- The first floor that is asked for (-1: none). -/
def firstF (p : Flo → Bool) (L : List Flo) : Int := if L.findIdx p < L.length then (L.findIdx p : Int) else -1
theorem firstF_of {p : Flo → Bool} {L : List Flo} {j : Nat} (hj : j < L.length) (hb : p L[j] = true) (ha : ∀ i (h : i < L.length), i < j → p L[i] = false) : firstF p L = (j : Int) := by
  have : L.findIdx p = j := (List.findIdx_eq hj).2 ⟨hb, fun i hi => ha i (by omega) hi⟩
  unfold firstF
  rw [this, if_pos hj]
theorem firstF_none {p : Flo → Bool} {L : List Flo} (ha : ∀ i (h : i < L.length), p L[i] = false) : firstF p L = -1 := by
  have : L.findIdx p = L.length := List.findIdx_eq_length.2 fun x hx => by
    obtain ⟨i, hi, rfl⟩ := List.getElem_of_mem hx
    exact ha i hi
  unfold firstF
  rw [this, if_neg (Nat.lt_irrefl _)]
set_option maxHeartbeats 1000000 in
set_option maxRecDepth 100000 in
theorem index_flo (v : Value) (L : List Flo) (g : Nat) (cs : Array Value) (p : Flo → Bool) (w : World) (hv : FloorsAt w v L) (hm : ∀ f ∈ L, f.who.length ≤ maxLen) (hg : AsksF g cs p w) (eg : ∀ args w, (callFunc g args).run Tryz.prog w = .ok (.enter g args) w) :
    Calls Tryz.prog 43 #[v, .func (.func g) #[] cs] w fun e w' => e = .returned (.int .i64 (firstF p L)) ∧ Below w.heap.size w w' := by
  obtain ⟨a, c, rfl, hlen, _, hc⟩ := hv
  unfold maxLen at hlen
  have hc := Lib.hid hc
  have hm := Lib.hid hm
  have hg := Lib.hid hg
  go_enter Tryz.func43, Tryz.ntmps43
  go_wp2_with fail
  go_loopg [8] (L.length + 1) (fun g8 i wr => ∃ j : Nat, i = .int .i64 j ∧ j ≤ L.length ∧ L.length - j + 1 ≤ g8 ∧ Hid (∀ i (h : i < L.length), i < j → p L[i] = false) ∧ Hid (Below w.heap.size w wr))
  case atStart => exact ⟨0, rfl, Nat.zero_le _, by omega, Lib.hid (fun _ _ h => absurd h (Nat.not_lt_zero _)), Lib.hid (Below.refl _ _)⟩
  case round =>
    obtain ⟨j, rfl, hj, hgj, hall, hK⟩ := hrel
    by_cases hlt : j < L.length
    · obtain ⟨b, o, rfl, hc0, hc1⟩ := hc.out j hlt
      have hc0 := cell_below hK.out hc0
      have hc1 := cell_below hK.out hc1
      have hk0 : (0 : Int) ≤ (j : Int) := by omega
      have hk1 : (j : Int) < (L.length : Int) := by omega
      have hgc := Lib.hid (hg.out wr L[j] (hm.out _ (List.getElem_mem hlt)) hK.out)
      cases hb : p L[j] with
      | true =>
        rw [hb] at hgc
        have hr := Lib.hid (show firstF p L = (j : Int) from firstF_of hlt hb hall.out)
        clear hb
        go_wp2_with fail
        refine hgc.out.mono ?_
        rintro e w1 ⟨rfl, hb1⟩
        have hb1 := Lib.hid (hK.out.trans (hb1.mono hK.out.size))
        go_wp2_with fail
        go_ret
        exact ⟨ret_int hr.out.symm, hb1.out⟩
      | false =>
        rw [hb] at hgc
        have hall2 := Lib.hid (show ∀ i (h : i < L.length), i < j + 1 → p L[i] = false from fun i h hi => by
          rcases Nat.lt_succ_iff_lt_or_eq.1 hi with h' | rfl
          · exact hall.out i h h'
          · exact hb)
        clear hb
        go_wp2_with fail
        refine hgc.out.mono ?_
        rintro e w1 ⟨rfl, hb1⟩
        have hb1 := Lib.hid (hK.out.trans (hb1.mono hK.out.size))
        go_wp2_with fail
        go_roundg (L.length - j)
        case measure => omega
        case rel => exact ⟨j + 1, by simp, hlt, by omega, hall2, hb1⟩
    · have hr := Lib.hid (show firstF p L = -1 from firstF_none fun i hi => hall.out i hi (by omega))
      have hge : ¬ ((j : Int) < (L.length : Int)) := by omega
      go_wp2_with fail
      go_ret
      exact ⟨ret_int hr.out.symm, hK.out⟩
end Go.Proofs.YtcnadjdijolboaaGreatDoor

/- An error value with its place. -/
namespace Go.Proofs.YtcnadjdijolboaaGreatDoor
open Go.RowKit

/-- An error value: its number, its place. -/
def ErrAt (E : Nat → Addr) (w : World) (v : Value) (c : Nat) (at_ : Int) : Prop :=
  (at_ = -1 ∧ v = errV E c) ∨ ∃ N, v = .iface 52 (.pointer (some ⟨N, 0, none⟩)) ∧ 1 ≤ c ∧ w.cell? ⟨N, 0, none⟩ = some (.int .i64 at_) ∧ w.cell? ⟨N, 0 + 1, none⟩ = some (errV E c)
theorem ErrAt.below {E : Nat → Addr} {w w' : World} {v : Value} {c : Nat} {at_ : Int} (h : ErrAt E w v c at_) (hb : Below w.heap.size w w') : ErrAt E w' v c at_ := by
  rcases h with h | ⟨N, h1, h2, h3, h4⟩
  · exact .inl h
  · exact .inr ⟨N, h1, h2, cell_below hb h3, cell_below hb h4⟩
theorem ErrAt.bare {E : Nat → Addr} {w : World} (c : Nat) : ErrAt E w (errV E c) c (-1) := .inl ⟨rfl, rfl⟩
theorem ErrAt.iface {E : Nat → Addr} {w : World} {v : Value} {c : Nat} {a : Int} (h : ErrAt E w v c a) (hc : c ≠ 0) : ∃ T x, v = .iface T (.pointer (some x)) := by
  rcases h with ⟨_, rfl⟩ | ⟨N, rfl, _⟩
  · cases c with
    | zero => exact absurd rfl hc
    | succ c => exact ⟨_, _, rfl⟩
  · exact ⟨_, _, rfl⟩
theorem ErrAt.zero {E : Nat → Addr} {w : World} {v : Value} {c : Nat} {a : Int} (h : ErrAt E w v c a) (hc : c = 0) : v = .nilIface ∧ a = -1 := by
  rcases h with ⟨ha, rfl⟩ | ⟨N, rfl, h1, _⟩
  · subst hc
    exact ⟨rfl, ha⟩
  · omega
end Go.Proofs.YtcnadjdijolboaaGreatDoor
