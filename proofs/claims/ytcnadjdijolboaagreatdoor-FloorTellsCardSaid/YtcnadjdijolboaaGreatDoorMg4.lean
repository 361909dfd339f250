/- FloW, MapV, RowOwn, FloR -/
import Derived.Test.YtcnadjdijolboaaGreatDoorMg1
import Derived.Test.YtcnadjdijolboaaGreatDoorMg3
import Derived.Deep.RegionHeld3
import Derived.Deep.LoopGhost
import Derived.Deep.CutRange
import Derived.Deep.CutBlock
import Derived.MapKept
import Derived.WalkKit
import Derived.Deep.Draws
import Derived.Laws.AppendOwnNone
import Derived.Maps.AppendAt
import Derived.OwnWalk
import Derived.Laws.IdiomCopy
/- The walks of package floor: right, all, Check, Of, Passes by contracts. -/
namespace Go.Proofs.YtcnadjdijolboaaGreatDoor
open Go.RowKit

def Flo.val (f : Flo) : Value := .agg #[.string (bs f.who), .int .i64 f.ep]
def Flo.cells (f : Flo) : List Value := [.string (bs f.who), .int .i64 f.ep]
/-- A slice of floors. -/
def FloorsAt (w : World) (v : Value) (L : List Flo) : Prop :=
  ∃ a c, v = .slice a L.length c ∧ L.length ≤ maxLen ∧ L.length ≤ c ∧ ∀ i (h : i < L.length), ∃ b o, a = some ⟨b, o, none⟩ ∧ w.cell? ⟨b, o + i * 2, none⟩ = some (.string (bs L[i].who)) ∧ w.cell? ⟨b, o + i * 2 + 1, none⟩ = some (.int .i64 L[i].ep)
theorem FloorsAt.below {w w' : World} {v : Value} {L : List Flo} (h : FloorsAt w v L) (hb : Below w.heap.size w w') : FloorsAt w' v L := by
  obtain ⟨a, c, h1, h2, hcap, h3⟩ := h
  refine ⟨a, c, h1, h2, hcap, fun i hi => ?_⟩
  obtain ⟨b, o, h4, h5, h6⟩ := h3 i hi
  exact ⟨b, o, h4, cell_below hb h5, cell_below hb h6⟩
theorem star_bs : (⟨#[42]⟩ : ByteArray) = bs starW := rfl
theorem who_star (n : List UInt8) : ((bs n).toList == (bs starW).toList) = decide (n = starW) := by
  rw [toList_data, toList_data, bs_list, bs_list]
  by_cases h : n = starW
  · rw [decide_eq_true h, h]; exact beq_self_eq_true _
  · rw [decide_eq_false h, beq_eq_false_iff_ne]; exact h

set_option maxRecDepth 100000 in
theorem right_flo {E : Nat → Addr} (f : Flo) (w : World) (hL : Laid E w) (hl : f.who.length ≤ maxLen) :
    Calls Tryz.prog 25 #[f.val] w fun e w' => e = .returned (errV E (oneF f)) ∧ Below w.heap.size w w' := by
  have hB : Below w.heap.size w (w.alloc (.cells f.cells.toArray 24)) := (Below.refl _ _).alloc (Nat.le_refl _) _
  have hnm := Lib.hid (fun wx => name_any (bs f.who) wx (by rw [bs_size]; exact hl))
  have hone : oneF f = if f.who ≠ starW ∧ isName f.who = false then 4 else if 1 ≤ f.ep ∧ f.ep ≤ 1073741824 then 0 else 2 := rfl
  obtain ⟨who, ep⟩ := f
  dsimp only [Flo.val, Flo.cells] at *
  have c1 : (w.alloc (.cells #[.string (bs who), .int .i64 ep] 24)).cell? ⟨w.heap.size, 1, none⟩ = some (.int .i64 ep) := by simp
  by_cases hs : who = starW
  · have hone := hone.trans (if_neg (fun h => h.1 hs))
    subst hs
    have e1 : ((bs starW).toList == [42]) = true := by rw [toList_data]; rfl
    by_cases h1 : 1 ≤ ep ∧ ep ≤ 1073741824
    · have hr := Lib.hid (hone.trans (if_pos h1))
      obtain ⟨h1, h2⟩ := h1
      clear hone
      go_enter Tryz.func25, Tryz.ntmps25
      go_wp2_with fail
      go_ret
      exact ⟨by rw [hr.out]; rfl, hB⟩
    · have hr := Lib.hid (hone.trans (if_neg h1))
      have he := (hL.below hB).e2
      have h1 : ep < 1 ∨ 1073741824 < ep := by omega
      clear hone
      rcases h1 with h1 | h1
      all_goals
        go_enter Tryz.func25, Tryz.ntmps25
        go_wp2_with fail
        go_ret
        exact ⟨by rw [hr.out]; rfl, hB⟩
  · have e1 : ((bs who).toList == [42]) = false := by rw [toList_data, bs_list, beq_eq_false_iff_ne]; exact hs
    have e2 : ((bs who).toList != [42]) = true := by rw [bne, e1]; rfl
    cases ha : isName who with
    | false =>
      have hr := Lib.hid (hone.trans (if_pos ⟨hs, ha⟩))
      have ha2 := Lib.hid (show isName (bs who).data.toList = false from ha)
      clear hone hs ha
      go_enter Tryz.func25, Tryz.ntmps25
      go_wp2_with fail
      refine (hnm.out _).mono ?_
      rintro e w1 ⟨rfl, hb⟩
      rw [ha2.out]
      have hb := Lib.hid (below_trans hB hb)
      have he := (hL.below hb.out).e4
      clear c1
      go_wp2_with fail
      go_ret
      exact ⟨by rw [hr.out]; rfl, hb.out⟩
    | true =>
      have hone := hone.trans (if_neg (fun h => by rw [ha] at h; exact absurd h.2 (by decide)))
      have ha2 := Lib.hid (show isName (bs who).data.toList = true from ha)
      clear ha hs
      by_cases h1 : 1 ≤ ep ∧ ep ≤ 1073741824
      · have hr := Lib.hid (hone.trans (if_pos h1))
        obtain ⟨h1, h2⟩ := h1
        clear hone
        go_enter Tryz.func25, Tryz.ntmps25
        go_wp2_with fail
        refine (hnm.out _).mono ?_
        rintro e w1 ⟨rfl, hb⟩
        rw [ha2.out]
        have d1 := cell_below hb c1
        have hb := Lib.hid (below_trans hB hb)
        clear c1
        go_wp2_with fail
        go_ret
        exact ⟨by rw [hr.out]; rfl, hb.out⟩
      · have hr := Lib.hid (hone.trans (if_neg h1))
        have h1 : ep < 1 ∨ 1073741824 < ep := by omega
        clear hone
        rcases h1 with h1 | h1
        all_goals
          go_enter Tryz.func25, Tryz.ntmps25
          go_wp2_with fail
          refine (hnm.out _).mono ?_
          rintro e w1 ⟨rfl, hb⟩
          rw [ha2.out]
          have d1 := cell_below hb c1
          have hb := Lib.hid (below_trans hB hb)
          have he := (hL.below hb.out).e2
          clear c1
          go_wp2_with fail
          go_ret
          exact ⟨by rw [hr.out]; rfl, hb.out⟩

set_option maxRecDepth 100000 in
theorem top_flo (v : Value) (L : List Flo) (w : World) (hv : FloorsAt w v L) :
    Calls Tryz.prog 26 #[v] w fun e w' => e = .returned (.int .i64 (topF L)) ∧ w = w' := by
  obtain ⟨a, c, rfl, hlen, _, hc⟩ := hv
  cases L with
  | nil =>
    go_enter Tryz.func26, Tryz.ntmps26
    go_wp2_with fail
    go_ret
    exact ⟨rfl, rfl⟩
  | cons f L =>
    obtain ⟨b, o, rfl, h0, h1⟩ := hc 0 (by simp)
    obtain ⟨who, ep⟩ := f
    simp only [List.getElem_cons_zero, Nat.zero_mul, Nat.add_zero] at h0 h1
    have hn : 0 < (⟨who, ep⟩ :: L : List Flo).length := by simp
    unfold maxLen at hlen
    clear hc
    generalize hm : (⟨who, ep⟩ :: L : List Flo).length = m at *
    clear hm
    by_cases hs : who = starW
    · have e1 : ((bs who).toList == [42]) = true := by rw [hs, toList_data]; rfl
      have hr := Lib.hid (show topF (⟨who, ep⟩ :: L) = ep from if_pos hs)
      clear hs
      go_enter Tryz.func26, Tryz.ntmps26
      go_wp2_with fail
      go_ret
      exact ⟨ret_int hr.out.symm, rfl⟩
    · have e1 : ((bs who).toList == [42]) = false := by rw [toList_data, bs_list, beq_eq_false_iff_ne]; exact hs
      have hr := Lib.hid (show topF (⟨who, ep⟩ :: L) = 0 from if_neg hs)
      clear hs
      go_enter Tryz.func26, Tryz.ntmps26
      go_wp2_with fail
      go_ret
      exact ⟨ret_int hr.out.symm, rfl⟩

set_option maxRecDepth 100000 in
theorem of1_asks (n : List UInt8) (b : Nat) (w : World) (hc : w.cell? ⟨b, 0, none⟩ = some (.string (bs n))) (W : World) (f : Flo) (hb : Below w.heap.size w W) :
    Calls Tryz.prog 44 #[f.val, .pointer (some ⟨b, 0, none⟩)] W fun e w' => e = .returned (.bool (f.who == n)) ∧ Below W.heap.size W w' := by
  have hc := cell_below hb hc
  obtain ⟨who, ep⟩ := f
  dsimp only [Flo.val]
  have hlt := World.block_lt_of_cell? W _ hc
  have hc2 : ∀ o, (W.alloc o).cell? ⟨b, 0, none⟩ = some (.string (bs n)) := fun o => by rw [World.cell?_alloc_lt _ _ _ hlt]; exact hc
  have hbe : ((bs who).toList == (bs n).toList) = (who == n) := by rw [toList_data, toList_data, bs_list, bs_list]
  cases hq : (who == n) with
  | true =>
    rw [hq] at hbe
    clear hq hc
    go_enter Tryz.func44, Tryz.ntmps44
    go_wp2_with fail
    go_ret
    exact ⟨rfl, (Below.refl _ _).alloc (Nat.le_refl _) _⟩
  | false =>
    rw [hq] at hbe
    clear hq hc
    go_enter Tryz.func44, Tryz.ntmps44
    go_wp2_with fail
    go_ret
    exact ⟨rfl, (Below.refl _ _).alloc (Nat.le_refl _) _⟩

/-- What a closure that asks for floors does. -/
def AsksF (g : Nat) (cs : Array Value) (p : Flo → Bool) (w : World) : Prop := ∀ (W : World) (f : Flo), f.who.length ≤ maxLen → Below w.heap.size w W → Calls Tryz.prog g (#[f.val] ++ cs) W fun e w' => e = .returned (.bool (p f)) ∧ Below W.heap.size W w'
/-- The first floor that is asked for (-1: none). -/
def firstF (p : Flo → Bool) (L : List Flo) : Int := if L.findIdx p < L.length then (L.findIdx p : Int) else -1
theorem firstF_of {p : Flo → Bool} {L : List Flo} {j : Nat} (hj : j < L.length) (hb : p L[j] = true) (ha : ∀ i (h : i < L.length), i < j → p L[i] = false) : firstF p L = (j : Int) := by
  have : L.findIdx p = j := (List.findIdx_eq hj).2 ⟨hb, fun i hi => ha i (by omega) hi⟩
  unfold firstF
  rw [this, if_pos hj]
theorem firstF_none {p : Flo → Bool} {L : List Flo} (ha : ∀ i (h : i < L.length), p L[i] = false) : firstF p L = -1 := by
  have : L.findIdx p = L.length := List.findIdx_eq_length.2 fun x hx => by
    obtain ⟨i, hi, rfl⟩ := List.getElem_of_mem hx
    exact ha i hi
  unfold firstF
  rw [this, if_neg (Nat.lt_irrefl _)]
set_option maxHeartbeats 1000000 in
set_option maxRecDepth 100000 in
theorem index_flo (v : Value) (L : List Flo) (g : Nat) (cs : Array Value) (p : Flo → Bool) (w : World) (hv : FloorsAt w v L) (hm : ∀ f ∈ L, f.who.length ≤ maxLen) (hg : AsksF g cs p w) (eg : ∀ args w, (callFunc g args).run Tryz.prog w = .ok (.enter g args) w) :
    Calls Tryz.prog 43 #[v, .func (.func g) #[] cs] w fun e w' => e = .returned (.int .i64 (firstF p L)) ∧ Below w.heap.size w w' := by
  obtain ⟨a, c, rfl, hlen, _, hc⟩ := hv
  unfold maxLen at hlen
  have hc := Lib.hid hc
  have hm := Lib.hid hm
  have hg := Lib.hid hg
  go_enter Tryz.func43, Tryz.ntmps43
  go_wp2_with fail
  go_loopg [8] (L.length + 1) (fun g8 i wr => ∃ j : Nat, i = .int .i64 j ∧ j ≤ L.length ∧ L.length - j + 1 ≤ g8 ∧ Hid (∀ i (h : i < L.length), i < j → p L[i] = false) ∧ Hid (Below w.heap.size w wr))
  case atStart => exact ⟨0, rfl, Nat.zero_le _, by omega, Lib.hid (fun _ _ h => absurd h (Nat.not_lt_zero _)), Lib.hid (Below.refl _ _)⟩
  case round =>
    obtain ⟨j, rfl, hj, hgj, hall, hK⟩ := hrel
    by_cases hlt : j < L.length
    · obtain ⟨b, o, rfl, hc0, hc1⟩ := hc.out j hlt
      have hc0 := cell_below hK.out hc0
      have hc1 := cell_below hK.out hc1
      have hk0 : (0 : Int) ≤ (j : Int) := by omega
      have hk1 : (j : Int) < (L.length : Int) := by omega
      have hgc := Lib.hid (hg.out wr L[j] (hm.out _ (List.getElem_mem hlt)) hK.out)
      cases hb : p L[j] with
      | true =>
        rw [hb] at hgc
        have hr := Lib.hid (show firstF p L = (j : Int) from firstF_of hlt hb hall.out)
        clear hb
        go_wp2_with fail
        refine hgc.out.mono ?_
        rintro e w1 ⟨rfl, hb1⟩
        have hb1 := Lib.hid (hK.out.trans (hb1.mono hK.out.size))
        go_wp2_with fail
        go_ret
        exact ⟨ret_int hr.out.symm, hb1.out⟩
      | false =>
        rw [hb] at hgc
        have hall2 := Lib.hid (show ∀ i (h : i < L.length), i < j + 1 → p L[i] = false from fun i h hi => by
          rcases Nat.lt_succ_iff_lt_or_eq.1 hi with h' | rfl
          · exact hall.out i h h'
          · exact hb)
        clear hb
        go_wp2_with fail
        refine hgc.out.mono ?_
        rintro e w1 ⟨rfl, hb1⟩
        have hb1 := Lib.hid (hK.out.trans (hb1.mono hK.out.size))
        go_wp2_with fail
        go_roundg (L.length - j)
        case measure => omega
        case rel => exact ⟨j + 1, by simp, hlt, by omega, hall2, hb1⟩
    · have hr := Lib.hid (show firstF p L = -1 from firstF_none fun i hi => hall.out i hi (by omega))
      have hge : ¬ ((j : Int) < (L.length : Int)) := by omega
      go_wp2_with fail
      go_ret
      exact ⟨ret_int hr.out.symm, hK.out⟩
end Go.Proofs.YtcnadjdijolboaaGreatDoor

/- A Go map as a list of keys with values: what a look-up, a store, delete and len do, of whatever program. -/
namespace Go.Proofs.YtcnadjdijolboaaGreatDoor
open Go.RowKit Go.MapKept

/-- Block r is a map that holds just these keys and values, in the order in which they came. -/
def MapV (d : TypeDesc) (w : World) (r : Nat) (l : List (Value × Value)) : Prop :=
  ∃ es clock, w.heap[r]? = some (.map es clock) ∧ Stamped es clock ∧ (∀ x ∈ es.toList, IsKey d x.key) ∧ es.toList.map (fun e => (e.key, e.val)) = l

/-- Of the blocks that there were all but those of S are as they were. -/
structure Keeps (S : Nat → Prop) (w w' : World) : Prop where
  os : w'.os = w.os
  tape : w'.tape = w.tape
  output : w'.output = w.output
  size : w.heap.size ≤ w'.heap.size
  block : ∀ k, k < w.heap.size → ¬ S k → w'.heap[k]? = w.heap[k]?
theorem Keeps.refl (S : Nat → Prop) (w : World) : Keeps S w w := ⟨rfl, rfl, rfl, Nat.le_refl _, fun _ _ _ => rfl⟩
theorem Keeps.of_below {S : Nat → Prop} {w w' : World} (h : Below w.heap.size w w') : Keeps S w w' := ⟨h.os, h.tape, h.output, h.size, fun k hk _ => h.block k hk⟩
theorem Keeps.trans {S : Nat → Prop} {a b c : World} (h : Keeps S a b) (k : Keeps S b c) : Keeps S a c :=
  ⟨k.os.trans h.os, k.tape.trans h.tape, k.output.trans h.output, Nat.le_trans h.size k.size, fun i hi hs => (k.block i (Nat.lt_of_lt_of_le hi h.size) hs).trans (h.block i hi hs)⟩
theorem Keeps.mono {S T : Nat → Prop} {w w' : World} (h : Keeps S w w') (hst : ∀ k, S k → T k) : Keeps T w w' :=
  ⟨h.os, h.tape, h.output, h.size, fun k hk hs => h.block k hk (fun hS => hs (hst k hS))⟩
theorem Keeps.below {S : Nat → Prop} {w w' : World} (h : Keeps S w w') {B : Nat} (hB : B ≤ w.heap.size) (hS : ∀ k, S k → B ≤ k) : Below B w w' :=
  ⟨h.os, h.tape, h.output, h.size, fun k hk => h.block k (Nat.lt_of_lt_of_le hk hB) (fun hs => by have := hS k hs; omega)⟩
theorem Keeps.obj {S : Nat → Prop} {w w' : World} (h : Keeps S w w') {b : Nat} {o : Obj} (hb : w.heap[b]? = some o) (hs : ¬ S b) : w'.heap[b]? = some o :=
  (h.block b (Array.getElem?_eq_some_iff.1 hb).1 hs).trans hb
theorem Keeps.cell {S : Nat → Prop} {w w' : World} (h : Keeps S w w') {a : Addr} {v : Value} (hc : w.cell? a = some v) (hs : ¬ S a.block) : w'.cell? a = some v :=
  (World.cell?_of_block (w := w) (h.block a.block (World.block_lt_of_cell? w a hc) hs)).trans hc
theorem Keeps.drew {S : Nat → Prop} {a w : World} (h : Keeps S a w) (n : Nat) : Keeps S a (w.drewN n) := ⟨h.os, h.tape, h.output, h.size, h.block⟩

section
variable {P : Program} {d : TypeDesc} {w : World} {r : Nat} {l : List (Value × Value)} {T K E : TypeId}

theorem MapV.keys_nodup (h : MapV d w r l) : (l.map Prod.fst).Nodup := by
  obtain ⟨es, clock, hb, hs, hk, rfl⟩ := h
  have := hs.2.2
  simpa [Function.comp_def] using this
theorem MapV.key (h : MapV d w r l) : ∀ p ∈ l, IsKey d p.1 := by
  obtain ⟨es, clock, hb, hs, hk, rfl⟩ := h
  intro p hp
  obtain ⟨e, he, rfl⟩ := List.mem_map.1 hp
  exact hk e he
theorem MapV.lt (h : MapV d w r l) : r < w.heap.size := by
  obtain ⟨es, clock, hb, _⟩ := h
  exact (Array.getElem?_eq_some_iff.1 hb).1
theorem MapV.keeps {S : Nat → Prop} {w' : World} (h : MapV d w r l) (hk : Keeps S w w') (hs : ¬ S r) : MapV d w' r l := by
  obtain ⟨es, clock, hb, rest⟩ := h
  exact ⟨es, clock, hk.obj hb hs, rest⟩
theorem MapV.below {w' : World} (h : MapV d w r l) (hk : Below w.heap.size w w') : MapV d w' r l :=
  h.keeps (S := fun _ => False) (Keeps.of_below hk) (fun h => h)
theorem MapV.new (w : World) : MapV d (w.alloc (.map #[] 0)) w.heap.size [] :=
  ⟨#[], 0, (MapKept.heap_alloc w _).1, stamped_empty 0, by simp, by simp⟩

theorem findNow_mem {k v : Value} {es : Array MapEntry} {clock : Nat} (hs : Stamped es clock) (hk : ∀ x ∈ es.toList, IsKey d x.key) (hkk : IsKey d k) (hm : (k, v) ∈ es.toList.map (fun e => (e.key, e.val))) :
    ∃ j e, Instr.findNow d k es.toList 0 = some (some (j, v)) ∧ es[j]? = some e ∧ e.key = k ∧ e.val = v := by
  obtain ⟨e0, he0, heq⟩ := List.mem_map.1 hm
  cases heq
  rcases findNow_spec hkk es.toList 0 hk with ⟨_, h2⟩ | ⟨j, e, h1, h2, h3⟩
  · exact absurd rfl (h2 e0 he0)
  · have hee : e = e0 := by
      obtain ⟨j0, hj0⟩ := List.mem_iff_getElem?.1 he0
      have hnd := hs.2.2
      have hj : (es.toList.map (·.key))[j]? = some e.key := by rw [List.getElem?_map, h2]; rfl
      have hj0' : (es.toList.map (·.key))[j0]? = some e.key := by rw [List.getElem?_map, hj0, h3]; rfl
      have hlt : j < (es.toList.map (·.key)).length := (List.getElem?_eq_some_iff.1 hj).1
      have := (List.getElem?_inj hlt hnd).1 (hj.trans hj0'.symm)
      subst this
      rw [h2] at hj0
      exact Option.some.inj hj0
    subst hee
    refine ⟨j, e, ?_, by simpa using h2, h3, rfl⟩
    rw [h1, Nat.zero_add]
theorem findNow_not {k : Value} {es : Array MapEntry} (hk : ∀ x ∈ es.toList, IsKey d x.key) (hkk : IsKey d k) (hn : ∀ v, (k, v) ∉ es.toList.map (fun e => (e.key, e.val))) :
    Instr.findNow d k es.toList 0 = some none ∧ ∀ x ∈ es.toList, x.key ≠ k := by
  rcases findNow_spec hkk es.toList 0 hk with h | ⟨j, e, h1, h2, h3⟩
  · exact h
  · exact absurd (List.mem_map.2 ⟨e, List.mem_of_getElem? h2, by rw [h3]⟩) (hn e.val)

theorem run_lookup_mem (hT : P.underlying T = some (.map K E)) (hK : P.underlying K = some d) (h : MapV d w r l) {k v : Value} (hkk : IsKey d k) (hm : (k, v) ∈ l) :
    (Instr.lookup T (.map (some r)) k true).run P w = .ok (.tuple #[v, .bool true]) w ∧ (Instr.lookup T (.map (some r)) k false).run P w = .ok v w := by
  obtain ⟨es, clock, hb, hs, hk, rfl⟩ := h
  obtain ⟨j, e, h1, _⟩ := findNow_mem hs hk hkk hm
  constructor
  · simp [Instr.lookup, run_underlying hT, MapKept.run_getObj_map hb, MapKept.run_checkKey hK hkk, MapKept.run_findKey hK h1, Result.andThen]
  · simp [Instr.lookup, run_underlying hT, MapKept.run_getObj_map hb, MapKept.run_checkKey hK hkk, MapKept.run_findKey hK h1, Result.andThen]
theorem run_lookup_not (hT : P.underlying T = some (.map K E)) (hK : P.underlying K = some d) (h : MapV d w r l) {k z : Value} (hkk : IsKey d k) (hn : ∀ v, (k, v) ∉ l) (hz : (zeroValue E).run P w = .ok z w) :
    (Instr.lookup T (.map (some r)) k true).run P w = .ok (.tuple #[z, .bool false]) w := by
  obtain ⟨es, clock, hb, hs, hk, rfl⟩ := h
  have h1 := (findNow_not hk hkk hn).1
  simp [Instr.lookup, run_underlying hT, MapKept.run_getObj_map hb, MapKept.run_checkKey hK hkk, MapKept.run_findKey hK h1, Result.andThen, hz]

/-- A world in which block r is another object. -/
def setObjAt (w : World) (r : Nat) (o : Obj) : World := { w with heap := w.heap.setIfInBounds r o }
theorem Keeps.ofSet (w : World) (r : Nat) (o : Obj) : Keeps (· = r) w (setObjAt w r o) :=
  ⟨rfl, rfl, rfl, by simp [setObjAt], fun k _ hs => by simp [setObjAt, Ne.symm hs]⟩

theorem run_update_mem (hT : P.underlying T = some (.map K E)) (hK : P.underlying K = some d) (h : MapV d w r l) {k v u : Value} (hkk : IsKey d k) (hm : (k, v) ∈ l) :
    ∃ w', (Instr.mapUpdate T (.map (some r)) k u).run P w = .ok () w' ∧ Keeps (· = r) w w' ∧ w'.heap.size = w.heap.size ∧ ∃ j, l[j]? = some (k, v) ∧ MapV d w' r (l.set j (k, u)) := by
  obtain ⟨es, clock, hb, hs, hk, rfl⟩ := h
  obtain ⟨j, e, h1, hj, h3, h4⟩ := findNow_mem hs hk hkk hm
  have hlt : r < w.heap.size := (Array.getElem?_eq_some_iff.1 hb).1
  have hkey : ∀ e', es[j]? = some e' → ({ e' with key := k, val := u } : MapEntry).key = e'.key := fun e' he' => by rw [hj] at he'; cases he'; exact h3.symm
  refine ⟨setObjAt w r (.map (es.modify j fun e => { e with key := k, val := u }) clock), ?_, Keeps.ofSet _ _ _, by simp [setObjAt], j, ?_, ?_⟩
  · simp [Instr.mapUpdate, run_underlying hT, MapKept.run_getObj_map hb, MapKept.run_checkKey hK hkk, MapKept.run_findKey hK h1, hj, h3, MapKept.run_keyThatStays hkk, MapKept.run_setObj_map _ hb, Result.andThen]
    rfl
  · rw [List.getElem?_map, show es.toList[j]? = some e by simpa using hj]
    simp [h3, h4]
  · refine ⟨es.modify j fun e => { e with key := k, val := u }, clock, by simp [setObjAt, hlt], stamped_modify hs j (fun e => { e with key := k, val := u }) (fun _ _ => rfl) (fun e' _ he' => hkey e' he'), isKey_modify hk j (fun e => { e with key := k, val := u }) hkey, ?_⟩
    apply List.ext_getElem?
    intro i
    rw [List.getElem?_map, List.getElem?_set, List.getElem?_map]
    simp only [Array.getElem?_toList, Array.getElem?_modify]
    by_cases hij : j = i
    · subst hij
      rw [if_pos rfl, hj, if_pos rfl]
      have : j < es.size := (Array.getElem?_eq_some_iff.1 hj).1
      simp [this]
    · rw [if_neg hij, if_neg hij]
theorem run_update_not (hT : P.underlying T = some (.map K E)) (hK : P.underlying K = some d) (h : MapV d w r l) {k u : Value} (hkk : IsKey d k) (hn : ∀ v, (k, v) ∉ l) :
    ∃ w', (Instr.mapUpdate T (.map (some r)) k u).run P w = .ok () w' ∧ Keeps (· = r) w w' ∧ w'.heap.size = w.heap.size ∧ MapV d w' r (l ++ [(k, u)]) := by
  obtain ⟨es, clock, hb, hs, hk, rfl⟩ := h
  obtain ⟨h1, h2⟩ := findNow_not hk hkk hn
  have hlt : r < w.heap.size := (Array.getElem?_eq_some_iff.1 hb).1
  refine ⟨setObjAt w r (.map (es.push { key := k, val := u, born := clock }) (clock + 1)), ?_, Keeps.ofSet _ _ _, by simp [setObjAt], ?_⟩
  · simp [Instr.mapUpdate, run_underlying hT, MapKept.run_getObj_map hb, MapKept.run_checkKey hK hkk, MapKept.run_findKey hK h1, MapKept.run_setObj_map _ hb, Result.andThen]
    rfl
  · refine ⟨es.push { key := k, val := u, born := clock }, clock + 1, by simp [setObjAt, hlt], stamped_push hs h2, ?_, by simp⟩
    intro x hx
    simp only [Array.toList_push, List.mem_append, List.mem_singleton] at hx
    rcases hx with hx | rfl
    · exact hk x hx
    · exact hkk
end
end Go.Proofs.YtcnadjdijolboaaGreatDoor

/- Rows of one's own in memory: stores into them, what keeps them; no program's function. -/
namespace Go.Proofs.YtcnadjdijolboaaGreatDoor
open Go.RowKit

/-- A store into a row of its own. -/
theorem ownsRow_setCell {w : World} {base g cap n size : Nat} {e : TypeId} {xs : List Value} (h : w.ownsRow base e size (.slice (some ⟨g, 0, none⟩) n cap) n xs) (i : Nat) (u : Value) :
    (w.setCell ⟨g, i, none⟩ u).ownsRow base e size (.slice (some ⟨g, 0, none⟩) n cap) n (xs.set i u) := by
  obtain ⟨hl, ⟨h1, _⟩ | ⟨g', cap', cur, he, hb, hg, hc, hm, hsz, ht⟩⟩ := h
  · cases h1
  · cases he
    refine ⟨by rw [List.length_set]; exact hl, .inr ⟨g, cap, cur.setIfInBounds i u, rfl, hb, heap_setCell_same w g i cur e u hg, hc, hm, by simpa using hsz, ?_⟩⟩
    rw [← ht]
    simp [List.take_set]
theorem ownsRow_other {w : World} {base n size : Nat} {e : TypeId} {v : Value} {xs : List Value} (h : w.ownsRow base e size v n xs) (a : Addr) (u : Value) (hne : ∀ g, v.ownBlock = some g → g ≠ a.block) :
    (w.setCell a u).ownsRow base e size v n xs := by
  obtain ⟨hl, h1 | ⟨g', cap', cur, he, hb, hg, hc, hm, hsz, ht⟩⟩ := h
  · exact ⟨hl, .inl h1⟩
  · subst he
    exact ⟨hl, .inr ⟨g', cap', cur, rfl, hb, (heap_setCell_other w a g' u (hne g' rfl)).trans hg, hc, hm, hsz, ht⟩⟩
theorem ownsRow_keeps {S : Nat → Prop} {w w' : World} {base n size : Nat} {e : TypeId} {v : Value} {xs : List Value} (h : w.ownsRow base e size v n xs) (hk : Keeps S w w') (hs : ∀ g, v.ownBlock = some g → ¬ S g) :
    w'.ownsRow base e size v n xs := by
  obtain ⟨hl, h1 | ⟨g', cap', cur, he, hb, hg, hc, hm, hsz, ht⟩⟩ := h
  · exact ⟨hl, .inl h1⟩
  · subst he
    exact ⟨hl, .inr ⟨g', cap', cur, rfl, hb, hk.obj hg (hs g' rfl), hc, hm, hsz, ht⟩⟩
/-- Of what type a row's block is. -/
theorem ownsRow_block {w : World} {base n size g : Nat} {e : TypeId} {v : Value} {xs : List Value} (h : w.ownsRow base e size v n xs) (hg : v.ownBlock = some g) : base ≤ g ∧ ∃ cs, w.heap[g]? = some (.cells cs e (0, 0)) := by
  obtain ⟨hl, ⟨rfl, _⟩ | ⟨g', cap', cur, rfl, hb, hg', hc, hm, hsz, ht⟩⟩ := h
  · cases hg
  · cases hg
    exact ⟨hb, cur, hg'⟩
theorem ownsRow_mono {w : World} {base base' : Nat} {e : TypeId} {size : Nat} {v : Value} {n : Nat} {xs : List Value} (h : w.ownsRow base e size v n xs) (hb : base' ≤ base) : w.ownsRow base' e size v n xs :=
  ⟨h.1, h.2.imp id fun ⟨g, cap, cur, h1, h2, h3⟩ => ⟨g, cap, cur, h1, Nat.le_trans hb h2, h3⟩⟩
theorem keeps_setCell {S : Nat → Prop} (w : World) (a : Addr) (u : Value) (ha : S a.block) : Keeps S w (w.setCell a u) :=
  let h := (Below.refl 0 w).setCell (p := a) (Nat.zero_le _) u
  ⟨h.os, h.tape, h.output, h.size, fun k _ hs => heap_setCell_other w a k u (fun e => hs (by rw [e]; exact ha))⟩
end Go.Proofs.YtcnadjdijolboaaGreatDoor

/- Rows of floors of one's own in memory: no walk. -/
namespace Go.Proofs.YtcnadjdijolboaaGreatDoor
open Go.RowKit

def flatF : List Flo → List Value
  | [] => []
  | f :: L => f.cells ++ flatF L
theorem flatF_append : ∀ L M, flatF (L ++ M) = flatF L ++ flatF M
  | [], _ => rfl
  | p :: L, M => by simp only [List.cons_append, flatF, flatF_append L M, List.append_assoc]
theorem flatF_len : ∀ L : List Flo, (flatF L).length = L.length * 2
  | [] => rfl
  | p :: L => by simp [flatF, Flo.cells, flatF_len L]; omega
theorem flatF_get : ∀ (L : List Flo) (i : Nat) (h : i < L.length), (flatF L)[i * 2]? = some (.string (bs L[i].who)) ∧ (flatF L)[i * 2 + 1]? = some (.int .i64 L[i].ep)
  | p :: L, 0, _ => by simp [flatF, Flo.cells]
  | p :: L, i + 1, h => by
    have := flatF_get L i (by simpa using h)
    simp only [flatF, Flo.cells, List.getElem_cons_succ]
    rw [show (i + 1) * 2 = i * 2 + 2 by omega, show i * 2 + 2 + 1 = i * 2 + 1 + 2 by omega]
    simpa using this
theorem flatF_take : ∀ (L : List Flo) (k : Nat), flatF (L.take k) = (flatF L).take (k * 2)
  | [], _ => by simp [flatF]
  | p :: L, 0 => by simp [flatF]
  | p :: L, k + 1 => by
    rw [show (k + 1) * 2 = k * 2 + 2 by omega]
    simp [flatF, Flo.cells, flatF_take L k]
theorem flatF_drop : ∀ (L : List Flo) (k : Nat), flatF (L.drop k) = (flatF L).drop (k * 2)
  | [], _ => by simp [flatF]
  | p :: L, 0 => by simp [flatF]
  | p :: L, k + 1 => by
    rw [show (k + 1) * 2 = k * 2 + 2 by omega]
    simp [flatF, Flo.cells, flatF_drop L k]
theorem flatF_set : ∀ (L : List Flo) (k : Nat) (f : Flo), k < L.length → ((flatF L).set (k * 2) (.string (bs f.who))).set (k * 2 + 1) (.int .i64 f.ep) = flatF (L.set k f)
  | p :: L, 0, f, _ => by simp [flatF, Flo.cells]
  | p :: L, k + 1, f, h => by
    have h1 := flatF_set L k f (by simpa using h)
    rw [show (k + 1) * 2 + 1 = k * 2 + 1 + 2 by omega, show (k + 1) * 2 = k * 2 + 2 by omega]
    simp [flatF, Flo.cells, h1]
theorem flatF_one (L : List Flo) : ∀ u ∈ flatF L, u.oneCell' = true := by
  induction L with
  | nil => intro u hu; cases hu
  | cons p L ih =>
    intro u hu
    simp only [flatF, Flo.cells, List.cons_append, List.nil_append, List.mem_cons] at hu
    rcases hu with rfl | rfl | hu
    all_goals first | rfl | exact ih u hu
/-- A row of floors of one's own. -/
def FlRow (w : World) (base : Nat) (v : Value) (L : List Flo) : Prop := w.ownsRow base 24 2 v L.length (flatF L)
theorem FlRow.below {w w' : World} {base : Nat} {v : Value} {L : List Flo} (h : FlRow w base v L) (hb : Below w.heap.size w w') : FlRow w' base v L :=
  ownsRow_keeps h (Keeps.of_below hb) (fun _ _ h => h)
theorem FlRow.mono {w : World} {base base' : Nat} {v : Value} {L : List Flo} (h : FlRow w base v L) (hb : base' ≤ base) : FlRow w base' v L := ownsRow_mono h hb
/-- What a row of floors is: nil, or a block. -/
theorem FlRow.shape {w : World} {base : Nat} {v : Value} {L : List Flo} (h : FlRow w base v L) :
    (v = .slice none 0 0 ∧ L = []) ∨ ∃ g cap cur, v = .slice (some ⟨g, 0, none⟩) L.length cap ∧ base ≤ g ∧ w.heap[g]? = some (.cells cur 24 (0, 0)) ∧ L.length ≤ cap ∧ cap ≤ maxLen ∧ cur.size = cap * 2 ∧ cur.toList.take (L.length * 2) = flatF L := by
  obtain ⟨_, ⟨rfl, hn⟩ | h⟩ := h
  · exact .inl ⟨rfl, List.eq_nil_of_length_eq_zero hn⟩
  · exact .inr h
theorem FlRow.cells {w : World} {base g cap : Nat} {L : List Flo} (h : FlRow w base (.slice (some ⟨g, 0, none⟩) L.length cap) L) :
    ∀ i u, (flatF L)[i]? = some u → w.cell? ⟨g, i, none⟩ = some u := by
  rcases h.shape with ⟨h1, _⟩ | ⟨g', cap', cur, he, hb, hg, hc, hm, hsz, ht⟩
  · cases h1
  · cases he
    intro i u hu
    have hi : i < L.length * 2 := by
      have := (List.getElem?_eq_some_iff.1 hu).1
      rw [flatF_len] at this
      omega
    rw [cell_of_row w g i _ _ _ hg]
    rw [← ht, List.getElem?_take, if_pos hi] at hu
    simpa using hu
theorem FlRow.frozen {w : World} {base g cap : Nat} {L : List Flo} (h : FlRow w base (.slice (some ⟨g, 0, none⟩) L.length cap) L) (i : Nat) : w.frozen? ⟨g, i, none⟩ = false := by
  rcases h.shape with ⟨h1, _⟩ | ⟨g', cap', cur, he, hb, hg, hc, hm, hsz, ht⟩
  · cases h1
  · cases he
    exact frozen_of_row _ _ _ _ _ hg
theorem FlRow.at_ {w : World} {base : Nat} {v : Value} {L : List Flo} (h : FlRow w base v L) (hL : L.length ≤ maxLen) : FloorsAt w v L := by
  rcases h.shape with ⟨rfl, rfl⟩ | ⟨g, cap, cur, rfl, hb, hg, hc, hm, hsz, ht⟩
  · exact ⟨none, 0, rfl, Nat.zero_le _, Nat.zero_le _, fun i hi => by cases hi⟩
  · refine ⟨_, _, rfl, hL, hc, fun i hi => ⟨g, 0, rfl, ?_⟩⟩
    obtain ⟨h0, h1⟩ := flatF_get L i hi
    rw [Nat.zero_add]
    exact ⟨h.cells _ _ h0, h.cells _ _ h1⟩
/-- A floor written into a row. -/
theorem FlRow.set {w : World} {base g cap : Nat} {L : List Flo} (h : FlRow w base (.slice (some ⟨g, 0, none⟩) L.length cap) L) {k : Nat} (hk : k < L.length) (f : Flo) :
    FlRow ((w.setCell ⟨g, k * 2, none⟩ (.string (bs f.who))).setCell ⟨g, k * 2 + 1, none⟩ (.int .i64 f.ep)) base (.slice (some ⟨g, 0, none⟩) L.length cap) (L.set k f) := by
  have h1 := ownsRow_setCell (ownsRow_setCell h (k * 2) (.string (bs f.who))) (k * 2 + 1) (.int .i64 f.ep)
  rw [flatF_set L k f hk] at h1
  unfold FlRow
  rw [List.length_set]
  exact h1
/-- The first k of a row. -/
theorem FlRow.take {w : World} {base g cap : Nat} {L : List Flo} (h : FlRow w base (.slice (some ⟨g, 0, none⟩) L.length cap) L) {k : Nat} (hk : k ≤ L.length) :
    FlRow w base (.slice (some ⟨g, 0, none⟩) k cap) (L.take k) := by
  rcases h.shape with ⟨h1, _⟩ | ⟨g', cap', cur, he, hb, hg, hc, hm, hsz, ht⟩
  · cases h1
  · cases he
    have hl : (L.take k).length = k := by rw [List.length_take]; omega
    unfold FlRow
    rw [hl]
    refine ⟨by rw [flatF_len, hl], .inr ⟨g, cap, cur, rfl, hb, hg, by omega, hm, hsz, ?_⟩⟩
    rw [flatF_take, ← ht, List.take_take, Nat.min_eq_left (by omega)]
theorem keeps_of_floors {S : Nat → Prop} {w w' : World} {v : Value} {L : List Flo} (h : FloorsAt w v L) (hk : Keeps S w w') (hs : ∀ b, v.ownBlock = some b → ¬ S b) : FloorsAt w' v L := by
  obtain ⟨a, c, rfl, h2, h3, h4⟩ := h
  refine ⟨a, c, rfl, h2, h3, fun i hi => ?_⟩
  obtain ⟨b, o, rfl, h5, h6⟩ := h4 i hi
  have hb : ¬ S b := hs b rfl
  exact ⟨b, o, rfl, hk.cell h5 hb, hk.cell h6 hb⟩
end Go.Proofs.YtcnadjdijolboaaGreatDoor
