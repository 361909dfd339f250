/- A Go map as a list of keys with values: what a look-up, a store, delete and len do, of whatever program. -/
import Derived.MapKept
import Derived.WalkKit
import Derived.Deep.Draws
namespace Go.Proofs.YtmjbhglmlbgkmaaDoor
open Go.RowKit Go.MapKept

/-- Block r is a map that holds just these keys and values, in the order in which they came. -/
def MapV (d : TypeDesc) (w : World) (r : Nat) (l : List (Value × Value)) : Prop :=
  ∃ es clock, w.heap[r]? = some (.map es clock) ∧ Stamped es clock ∧ (∀ x ∈ es.toList, IsKey d x.key) ∧ es.toList.map (fun e => (e.key, e.val)) = l

/-- Of the blocks that there were all but those of S are as they were. -/
structure Keeps (S : Nat → Prop) (w w' : World) : Prop where
  os : w'.os = w.os
  tape : w'.tape = w.tape
  output : w'.output = w.output
  size : w.heap.size ≤ w'.heap.size
  block : ∀ k, k < w.heap.size → ¬ S k → w'.heap[k]? = w.heap[k]?
theorem Keeps.refl (S : Nat → Prop) (w : World) : Keeps S w w := ⟨rfl, rfl, rfl, Nat.le_refl _, fun _ _ _ => rfl⟩
theorem Keeps.of_below {S : Nat → Prop} {w w' : World} (h : Below w.heap.size w w') : Keeps S w w' := ⟨h.os, h.tape, h.output, h.size, fun k hk _ => h.block k hk⟩
theorem Keeps.trans {S : Nat → Prop} {a b c : World} (h : Keeps S a b) (k : Keeps S b c) : Keeps S a c :=
  ⟨k.os.trans h.os, k.tape.trans h.tape, k.output.trans h.output, Nat.le_trans h.size k.size, fun i hi hs => (k.block i (Nat.lt_of_lt_of_le hi h.size) hs).trans (h.block i hi hs)⟩
theorem Keeps.mono {S T : Nat → Prop} {w w' : World} (h : Keeps S w w') (hst : ∀ k, S k → T k) : Keeps T w w' :=
  ⟨h.os, h.tape, h.output, h.size, fun k hk hs => h.block k hk (fun hS => hs (hst k hS))⟩
theorem Keeps.below {S : Nat → Prop} {w w' : World} (h : Keeps S w w') {B : Nat} (hB : B ≤ w.heap.size) (hS : ∀ k, S k → B ≤ k) : Below B w w' :=
  ⟨h.os, h.tape, h.output, h.size, fun k hk => h.block k (Nat.lt_of_lt_of_le hk hB) (fun hs => by have := hS k hs; omega)⟩
theorem Keeps.obj {S : Nat → Prop} {w w' : World} (h : Keeps S w w') {b : Nat} {o : Obj} (hb : w.heap[b]? = some o) (hs : ¬ S b) : w'.heap[b]? = some o :=
  (h.block b (Array.getElem?_eq_some_iff.1 hb).1 hs).trans hb
theorem Keeps.cell {S : Nat → Prop} {w w' : World} (h : Keeps S w w') {a : Addr} {v : Value} (hc : w.cell? a = some v) (hs : ¬ S a.block) : w'.cell? a = some v :=
  (World.cell?_of_block (w := w) (h.block a.block (World.block_lt_of_cell? w a hc) hs)).trans hc
theorem Keeps.drew {S : Nat → Prop} {a w : World} (h : Keeps S a w) (n : Nat) : Keeps S a (w.drewN n) := ⟨h.os, h.tape, h.output, h.size, h.block⟩

section
variable {P : Program} {d : TypeDesc} {w : World} {r : Nat} {l : List (Value × Value)} {T K E : TypeId}

theorem MapV.keys_nodup (h : MapV d w r l) : (l.map Prod.fst).Nodup := by
  obtain ⟨es, clock, hb, hs, hk, rfl⟩ := h
  have := hs.2.2
  simpa [Function.comp_def] using this
theorem MapV.key (h : MapV d w r l) : ∀ p ∈ l, IsKey d p.1 := by
  obtain ⟨es, clock, hb, hs, hk, rfl⟩ := h
  intro p hp
  obtain ⟨e, he, rfl⟩ := List.mem_map.1 hp
  exact hk e he
theorem MapV.lt (h : MapV d w r l) : r < w.heap.size := by
  obtain ⟨es, clock, hb, _⟩ := h
  exact (Array.getElem?_eq_some_iff.1 hb).1
theorem MapV.keeps {S : Nat → Prop} {w' : World} (h : MapV d w r l) (hk : Keeps S w w') (hs : ¬ S r) : MapV d w' r l := by
  obtain ⟨es, clock, hb, rest⟩ := h
  exact ⟨es, clock, hk.obj hb hs, rest⟩
theorem MapV.below {w' : World} (h : MapV d w r l) (hk : Below w.heap.size w w') : MapV d w' r l :=
  h.keeps (S := fun _ => False) (Keeps.of_below hk) (fun h => h)
theorem MapV.new (w : World) : MapV d (w.alloc (.map #[] 0)) w.heap.size [] :=
  ⟨#[], 0, (MapKept.heap_alloc w _).1, stamped_empty 0, by simp, by simp⟩

theorem findNow_mem {k v : Value} {es : Array MapEntry} {clock : Nat} (hs : Stamped es clock) (hk : ∀ x ∈ es.toList, IsKey d x.key) (hkk : IsKey d k) (hm : (k, v) ∈ es.toList.map (fun e => (e.key, e.val))) :
    ∃ j e, Instr.findNow d k es.toList 0 = some (some (j, v)) ∧ es[j]? = some e ∧ e.key = k ∧ e.val = v := by
  obtain ⟨e0, he0, heq⟩ := List.mem_map.1 hm
  cases heq
  rcases findNow_spec hkk es.toList 0 hk with ⟨_, h2⟩ | ⟨j, e, h1, h2, h3⟩
  · exact absurd rfl (h2 e0 he0)
  · have hee : e = e0 := by
      obtain ⟨j0, hj0⟩ := List.mem_iff_getElem?.1 he0
      have hnd := hs.2.2
      have hj : (es.toList.map (·.key))[j]? = some e.key := by rw [List.getElem?_map, h2]; rfl
      have hj0' : (es.toList.map (·.key))[j0]? = some e.key := by rw [List.getElem?_map, hj0, h3]; rfl
      have hlt : j < (es.toList.map (·.key)).length := (List.getElem?_eq_some_iff.1 hj).1
      have := (List.getElem?_inj hlt hnd).1 (hj.trans hj0'.symm)
      subst this
      rw [h2] at hj0
      exact Option.some.inj hj0
    subst hee
    refine ⟨j, e, ?_, by simpa using h2, h3, rfl⟩
    rw [h1, Nat.zero_add]
theorem findNow_not {k : Value} {es : Array MapEntry} (hk : ∀ x ∈ es.toList, IsKey d x.key) (hkk : IsKey d k) (hn : ∀ v, (k, v) ∉ es.toList.map (fun e => (e.key, e.val))) :
    Instr.findNow d k es.toList 0 = some none ∧ ∀ x ∈ es.toList, x.key ≠ k := by
  rcases findNow_spec hkk es.toList 0 hk with h | ⟨j, e, h1, h2, h3⟩
  · exact h
  · exact absurd (List.mem_map.2 ⟨e, List.mem_of_getElem? h2, by rw [h3]⟩) (hn e.val)

theorem run_lookup_mem (hT : P.underlying T = some (.map K E)) (hK : P.underlying K = some d) (h : MapV d w r l) {k v : Value} (hkk : IsKey d k) (hm : (k, v) ∈ l) :
    (Instr.lookup T (.map (some r)) k true).run P w = .ok (.tuple #[v, .bool true]) w ∧ (Instr.lookup T (.map (some r)) k false).run P w = .ok v w := by
  obtain ⟨es, clock, hb, hs, hk, rfl⟩ := h
  obtain ⟨j, e, h1, _⟩ := findNow_mem hs hk hkk hm
  constructor
  · simp [Instr.lookup, run_underlying hT, MapKept.run_getObj_map hb, MapKept.run_checkKey hK hkk, MapKept.run_findKey hK h1, Result.andThen]
  · simp [Instr.lookup, run_underlying hT, MapKept.run_getObj_map hb, MapKept.run_checkKey hK hkk, MapKept.run_findKey hK h1, Result.andThen]
theorem run_lookup_not (hT : P.underlying T = some (.map K E)) (hK : P.underlying K = some d) (h : MapV d w r l) {k z : Value} (hkk : IsKey d k) (hn : ∀ v, (k, v) ∉ l) (hz : (zeroValue E).run P w = .ok z w) :
    (Instr.lookup T (.map (some r)) k true).run P w = .ok (.tuple #[z, .bool false]) w := by
  obtain ⟨es, clock, hb, hs, hk, rfl⟩ := h
  have h1 := (findNow_not hk hkk hn).1
  simp [Instr.lookup, run_underlying hT, MapKept.run_getObj_map hb, MapKept.run_checkKey hK hkk, MapKept.run_findKey hK h1, Result.andThen, hz]

/-- A world in which block r is another object. -/
def setObjAt (w : World) (r : Nat) (o : Obj) : World := { w with heap := w.heap.setIfInBounds r o }
theorem Keeps.ofSet (w : World) (r : Nat) (o : Obj) : Keeps (· = r) w (setObjAt w r o) :=
  ⟨rfl, rfl, rfl, by simp [setObjAt], fun k _ hs => by simp [setObjAt, Ne.symm hs]⟩

theorem run_update_mem (hT : P.underlying T = some (.map K E)) (hK : P.underlying K = some d) (h : MapV d w r l) {k v u : Value} (hkk : IsKey d k) (hm : (k, v) ∈ l) :
    ∃ w', (Instr.mapUpdate T (.map (some r)) k u).run P w = .ok () w' ∧ Keeps (· = r) w w' ∧ w'.heap.size = w.heap.size ∧ ∃ j, l[j]? = some (k, v) ∧ MapV d w' r (l.set j (k, u)) := by
  obtain ⟨es, clock, hb, hs, hk, rfl⟩ := h
  obtain ⟨j, e, h1, hj, h3, h4⟩ := findNow_mem hs hk hkk hm
  have hlt : r < w.heap.size := (Array.getElem?_eq_some_iff.1 hb).1
  have hkey : ∀ e', es[j]? = some e' → ({ e' with key := k, val := u } : MapEntry).key = e'.key := fun e' he' => by rw [hj] at he'; cases he'; exact h3.symm
  refine ⟨setObjAt w r (.map (es.modify j fun e => { e with key := k, val := u }) clock), ?_, Keeps.ofSet _ _ _, by simp [setObjAt], j, ?_, ?_⟩
  · simp [Instr.mapUpdate, run_underlying hT, MapKept.run_getObj_map hb, MapKept.run_checkKey hK hkk, MapKept.run_findKey hK h1, hj, h3, MapKept.run_keyThatStays hkk, MapKept.run_setObj_map _ hb, Result.andThen]
    rfl
  · rw [List.getElem?_map, show es.toList[j]? = some e by simpa using hj]
    simp [h3, h4]
  · refine ⟨es.modify j fun e => { e with key := k, val := u }, clock, by simp [setObjAt, hlt], stamped_modify hs j (fun e => { e with key := k, val := u }) (fun _ _ => rfl) (fun e' _ he' => hkey e' he'), isKey_modify hk j (fun e => { e with key := k, val := u }) hkey, ?_⟩
    apply List.ext_getElem?
    intro i
    rw [List.getElem?_map, List.getElem?_set, List.getElem?_map]
    simp only [Array.getElem?_toList, Array.getElem?_modify]
    by_cases hij : j = i
    · subst hij
      rw [if_pos rfl, hj, if_pos rfl]
      have : j < es.size := (Array.getElem?_eq_some_iff.1 hj).1
      simp [this]
    · rw [if_neg hij, if_neg hij]
theorem run_update_not (hT : P.underlying T = some (.map K E)) (hK : P.underlying K = some d) (h : MapV d w r l) {k u : Value} (hkk : IsKey d k) (hn : ∀ v, (k, v) ∉ l) :
    ∃ w', (Instr.mapUpdate T (.map (some r)) k u).run P w = .ok () w' ∧ Keeps (· = r) w w' ∧ w'.heap.size = w.heap.size ∧ MapV d w' r (l ++ [(k, u)]) := by
  obtain ⟨es, clock, hb, hs, hk, rfl⟩ := h
  obtain ⟨h1, h2⟩ := findNow_not hk hkk hn
  have hlt : r < w.heap.size := (Array.getElem?_eq_some_iff.1 hb).1
  refine ⟨setObjAt w r (.map (es.push { key := k, val := u, born := clock }) (clock + 1)), ?_, Keeps.ofSet _ _ _, by simp [setObjAt], ?_⟩
  · simp [Instr.mapUpdate, run_underlying hT, MapKept.run_getObj_map hb, MapKept.run_checkKey hK hkk, MapKept.run_findKey hK h1, MapKept.run_setObj_map _ hb, Result.andThen]
    rfl
  · refine ⟨es.push { key := k, val := u, born := clock }, clock + 1, by simp [setObjAt, hlt], stamped_push hs h2, ?_, by simp⟩
    intro x hx
    simp only [Array.toList_push, List.mem_append, List.mem_singleton] at hx
    rcases hx with hx | rfl
    · exact hk x hx
    · exact hkk
end
end Go.Proofs.YtmjbhglmlbgkmaaDoor
