/- MapV, Person, Person2 -/
import Derived.MapKept
import Derived.WalkKit
import Derived.Deep.Draws
import Derived.Test.YtkhphdkjnpcnnaaGreatDoorMg4
import Derived.StillTailTactics
import Derived.Deep.RegionLaw
/- A Go map as a list of keys with values: what a look-up, a store, delete and len do, of whatever program. -/
namespace Go.Proofs.YtkhphdkjnpcnnaaGreatDoor
open Go.RowKit Go.MapKept

/-- Block r is a map that holds just these keys and values, in the order in which they came. -/
def MapV (d : TypeDesc) (w : World) (r : Nat) (l : List (Value × Value)) : Prop :=
  ∃ es clock, w.heap[r]? = some (.map es clock) ∧ Stamped es clock ∧ (∀ x ∈ es.toList, IsKey d x.key) ∧ es.toList.map (fun e => (e.key, e.val)) = l

/-- Of the blocks that there were all but those of S are as they were. -/
structure Keeps (S : Nat → Prop) (w w' : World) : Prop where
  os : w'.os = w.os
  tape : w'.tape = w.tape
  output : w'.output = w.output
  size : w.heap.size ≤ w'.heap.size
  block : ∀ k, k < w.heap.size → ¬ S k → w'.heap[k]? = w.heap[k]?
theorem Keeps.refl (S : Nat → Prop) (w : World) : Keeps S w w := ⟨rfl, rfl, rfl, Nat.le_refl _, fun _ _ _ => rfl⟩
theorem Keeps.of_below {S : Nat → Prop} {w w' : World} (h : Below w.heap.size w w') : Keeps S w w' := ⟨h.os, h.tape, h.output, h.size, fun k hk _ => h.block k hk⟩
theorem Keeps.trans {S : Nat → Prop} {a b c : World} (h : Keeps S a b) (k : Keeps S b c) : Keeps S a c :=
  ⟨k.os.trans h.os, k.tape.trans h.tape, k.output.trans h.output, Nat.le_trans h.size k.size, fun i hi hs => (k.block i (Nat.lt_of_lt_of_le hi h.size) hs).trans (h.block i hi hs)⟩
theorem Keeps.mono {S T : Nat → Prop} {w w' : World} (h : Keeps S w w') (hst : ∀ k, S k → T k) : Keeps T w w' :=
  ⟨h.os, h.tape, h.output, h.size, fun k hk hs => h.block k hk (fun hS => hs (hst k hS))⟩
theorem Keeps.below {S : Nat → Prop} {w w' : World} (h : Keeps S w w') {B : Nat} (hB : B ≤ w.heap.size) (hS : ∀ k, S k → B ≤ k) : Below B w w' :=
  ⟨h.os, h.tape, h.output, h.size, fun k hk => h.block k (Nat.lt_of_lt_of_le hk hB) (fun hs => by have := hS k hs; omega)⟩
theorem Keeps.obj {S : Nat → Prop} {w w' : World} (h : Keeps S w w') {b : Nat} {o : Obj} (hb : w.heap[b]? = some o) (hs : ¬ S b) : w'.heap[b]? = some o :=
  (h.block b (Array.getElem?_eq_some_iff.1 hb).1 hs).trans hb
theorem Keeps.cell {S : Nat → Prop} {w w' : World} (h : Keeps S w w') {a : Addr} {v : Value} (hc : w.cell? a = some v) (hs : ¬ S a.block) : w'.cell? a = some v :=
  (World.cell?_of_block (w := w) (h.block a.block (World.block_lt_of_cell? w a hc) hs)).trans hc
theorem Keeps.drew {S : Nat → Prop} {a w : World} (h : Keeps S a w) (n : Nat) : Keeps S a (w.drewN n) := ⟨h.os, h.tape, h.output, h.size, h.block⟩

section
variable {P : Program} {d : TypeDesc} {w : World} {r : Nat} {l : List (Value × Value)} {T K E : TypeId}

theorem MapV.keys_nodup (h : MapV d w r l) : (l.map Prod.fst).Nodup := by
  obtain ⟨es, clock, hb, hs, hk, rfl⟩ := h
  have := hs.2.2
  simpa [Function.comp_def] using this
theorem MapV.key (h : MapV d w r l) : ∀ p ∈ l, IsKey d p.1 := by
  obtain ⟨es, clock, hb, hs, hk, rfl⟩ := h
  intro p hp
  obtain ⟨e, he, rfl⟩ := List.mem_map.1 hp
  exact hk e he
theorem MapV.lt (h : MapV d w r l) : r < w.heap.size := by
  obtain ⟨es, clock, hb, _⟩ := h
  exact (Array.getElem?_eq_some_iff.1 hb).1
theorem MapV.keeps {S : Nat → Prop} {w' : World} (h : MapV d w r l) (hk : Keeps S w w') (hs : ¬ S r) : MapV d w' r l := by
  obtain ⟨es, clock, hb, rest⟩ := h
  exact ⟨es, clock, hk.obj hb hs, rest⟩
theorem MapV.below {w' : World} (h : MapV d w r l) (hk : Below w.heap.size w w') : MapV d w' r l :=
  h.keeps (S := fun _ => False) (Keeps.of_below hk) (fun h => h)
theorem MapV.new (w : World) : MapV d (w.alloc (.map #[] 0)) w.heap.size [] :=
  ⟨#[], 0, (MapKept.heap_alloc w _).1, stamped_empty 0, by simp, by simp⟩

theorem findNow_mem {k v : Value} {es : Array MapEntry} {clock : Nat} (hs : Stamped es clock) (hk : ∀ x ∈ es.toList, IsKey d x.key) (hkk : IsKey d k) (hm : (k, v) ∈ es.toList.map (fun e => (e.key, e.val))) :
    ∃ j e, Instr.findNow d k es.toList 0 = some (some (j, v)) ∧ es[j]? = some e ∧ e.key = k ∧ e.val = v := by
  obtain ⟨e0, he0, heq⟩ := List.mem_map.1 hm
  cases heq
  rcases findNow_spec hkk es.toList 0 hk with ⟨_, h2⟩ | ⟨j, e, h1, h2, h3⟩
  · exact absurd rfl (h2 e0 he0)
  · have hee : e = e0 := by
      obtain ⟨j0, hj0⟩ := List.mem_iff_getElem?.1 he0
      have hnd := hs.2.2
      have hj : (es.toList.map (·.key))[j]? = some e.key := by rw [List.getElem?_map, h2]; rfl
      have hj0' : (es.toList.map (·.key))[j0]? = some e.key := by rw [List.getElem?_map, hj0, h3]; rfl
      have hlt : j < (es.toList.map (·.key)).length := (List.getElem?_eq_some_iff.1 hj).1
      have := (List.getElem?_inj hlt hnd).1 (hj.trans hj0'.symm)
      subst this
      rw [h2] at hj0
      exact Option.some.inj hj0
    subst hee
    refine ⟨j, e, ?_, by simpa using h2, h3, rfl⟩
    rw [h1, Nat.zero_add]
theorem findNow_not {k : Value} {es : Array MapEntry} (hk : ∀ x ∈ es.toList, IsKey d x.key) (hkk : IsKey d k) (hn : ∀ v, (k, v) ∉ es.toList.map (fun e => (e.key, e.val))) :
    Instr.findNow d k es.toList 0 = some none ∧ ∀ x ∈ es.toList, x.key ≠ k := by
  rcases findNow_spec hkk es.toList 0 hk with h | ⟨j, e, h1, h2, h3⟩
  · exact h
  · exact absurd (List.mem_map.2 ⟨e, List.mem_of_getElem? h2, by rw [h3]⟩) (hn e.val)

theorem run_lookup_mem (hT : P.underlying T = some (.map K E)) (hK : P.underlying K = some d) (h : MapV d w r l) {k v : Value} (hkk : IsKey d k) (hm : (k, v) ∈ l) :
    (Instr.lookup T (.map (some r)) k true).run P w = .ok (.tuple #[v, .bool true]) w ∧ (Instr.lookup T (.map (some r)) k false).run P w = .ok v w := by
  obtain ⟨es, clock, hb, hs, hk, rfl⟩ := h
  obtain ⟨j, e, h1, _⟩ := findNow_mem hs hk hkk hm
  constructor
  · simp [Instr.lookup, run_underlying hT, MapKept.run_getObj_map hb, MapKept.run_checkKey hK hkk, MapKept.run_findKey hK h1, Result.andThen]
  · simp [Instr.lookup, run_underlying hT, MapKept.run_getObj_map hb, MapKept.run_checkKey hK hkk, MapKept.run_findKey hK h1, Result.andThen]
theorem run_lookup_not (hT : P.underlying T = some (.map K E)) (hK : P.underlying K = some d) (h : MapV d w r l) {k z : Value} (hkk : IsKey d k) (hn : ∀ v, (k, v) ∉ l) (hz : (zeroValue E).run P w = .ok z w) :
    (Instr.lookup T (.map (some r)) k true).run P w = .ok (.tuple #[z, .bool false]) w := by
  obtain ⟨es, clock, hb, hs, hk, rfl⟩ := h
  have h1 := (findNow_not hk hkk hn).1
  simp [Instr.lookup, run_underlying hT, MapKept.run_getObj_map hb, MapKept.run_checkKey hK hkk, MapKept.run_findKey hK h1, Result.andThen, hz]

/-- A world in which block r is another object. -/
def setObjAt (w : World) (r : Nat) (o : Obj) : World := { w with heap := w.heap.setIfInBounds r o }
theorem Keeps.ofSet (w : World) (r : Nat) (o : Obj) : Keeps (· = r) w (setObjAt w r o) :=
  ⟨rfl, rfl, rfl, by simp [setObjAt], fun k _ hs => by simp [setObjAt, Ne.symm hs]⟩

theorem run_update_mem (hT : P.underlying T = some (.map K E)) (hK : P.underlying K = some d) (h : MapV d w r l) {k v u : Value} (hkk : IsKey d k) (hm : (k, v) ∈ l) :
    ∃ w', (Instr.mapUpdate T (.map (some r)) k u).run P w = .ok () w' ∧ Keeps (· = r) w w' ∧ w'.heap.size = w.heap.size ∧ ∃ j, l[j]? = some (k, v) ∧ MapV d w' r (l.set j (k, u)) := by
  obtain ⟨es, clock, hb, hs, hk, rfl⟩ := h
  obtain ⟨j, e, h1, hj, h3, h4⟩ := findNow_mem hs hk hkk hm
  have hlt : r < w.heap.size := (Array.getElem?_eq_some_iff.1 hb).1
  have hkey : ∀ e', es[j]? = some e' → ({ e' with key := k, val := u } : MapEntry).key = e'.key := fun e' he' => by rw [hj] at he'; cases he'; exact h3.symm
  refine ⟨setObjAt w r (.map (es.modify j fun e => { e with key := k, val := u }) clock), ?_, Keeps.ofSet _ _ _, by simp [setObjAt], j, ?_, ?_⟩
  · simp [Instr.mapUpdate, run_underlying hT, MapKept.run_getObj_map hb, MapKept.run_checkKey hK hkk, MapKept.run_findKey hK h1, hj, h3, MapKept.run_keyThatStays hkk, MapKept.run_setObj_map _ hb, Result.andThen]
    rfl
  · rw [List.getElem?_map, show es.toList[j]? = some e by simpa using hj]
    simp [h3, h4]
  · refine ⟨es.modify j fun e => { e with key := k, val := u }, clock, by simp [setObjAt, hlt], stamped_modify hs j (fun e => { e with key := k, val := u }) (fun _ _ => rfl) (fun e' _ he' => hkey e' he'), isKey_modify hk j (fun e => { e with key := k, val := u }) hkey, ?_⟩
    apply List.ext_getElem?
    intro i
    rw [List.getElem?_map, List.getElem?_set, List.getElem?_map]
    simp only [Array.getElem?_toList, Array.getElem?_modify]
    by_cases hij : j = i
    · subst hij
      rw [if_pos rfl, hj, if_pos rfl]
      have : j < es.size := (Array.getElem?_eq_some_iff.1 hj).1
      simp [this]
    · rw [if_neg hij, if_neg hij]
theorem run_update_not (hT : P.underlying T = some (.map K E)) (hK : P.underlying K = some d) (h : MapV d w r l) {k u : Value} (hkk : IsKey d k) (hn : ∀ v, (k, v) ∉ l) :
    ∃ w', (Instr.mapUpdate T (.map (some r)) k u).run P w = .ok () w' ∧ Keeps (· = r) w w' ∧ w'.heap.size = w.heap.size ∧ MapV d w' r (l ++ [(k, u)]) := by
  obtain ⟨es, clock, hb, hs, hk, rfl⟩ := h
  obtain ⟨h1, h2⟩ := findNow_not hk hkk hn
  have hlt : r < w.heap.size := (Array.getElem?_eq_some_iff.1 hb).1
  refine ⟨setObjAt w r (.map (es.push { key := k, val := u, born := clock }) (clock + 1)), ?_, Keeps.ofSet _ _ _, by simp [setObjAt], ?_⟩
  · simp [Instr.mapUpdate, run_underlying hT, MapKept.run_getObj_map hb, MapKept.run_checkKey hK hkk, MapKept.run_findKey hK h1, MapKept.run_setObj_map _ hb, Result.andThen]
    rfl
  · refine ⟨es.push { key := k, val := u, born := clock }, clock + 1, by simp [setObjAt, hlt], stamped_push hs h2, ?_, by simp⟩
    intro x hx
    simp only [Array.toList_push, List.mem_append, List.mem_singleton] at hx
    rcases hx with hx | rfl
    · exact hk x hx
    · exact hkk
end
end Go.Proofs.YtkhphdkjnpcnnaaGreatDoor

/- The walks of package person: a book of people. -/
namespace Go.Proofs.YtkhphdkjnpcnnaaGreatDoor
open Go.RowKit

/-- Check of a person: an error's number. -/
def checkOf (n : List UInt8) (k e : Int) : Nat := if isName n = false then 4 else if isKey k = false then 10 else if 1 ≤ e ∧ e ≤ 1073741824 then 0 else 2
set_option maxRecDepth 100000 in
theorem check_any {E : Nat → Addr} (s : ByteArray) (k ep : Int) (o : Bool) (w : World) (hL : Laid E w) (hs : s.size ≤ maxLen) :
    Calls Tryz.prog 118 #[.agg #[.string s, .int .i64 k, .int .i64 ep, .bool o]] w fun e w' => e = .returned (errV E (checkOf s.data.toList k ep)) ∧ Below w.heap.size w w' := by
  have hB : Below w.heap.size w (w.alloc (.cells #[.string s, .int .i64 k, .int .i64 ep, .bool o] 46)) := (Below.refl _ _).alloc (Nat.le_refl _) _
  have c1 : (w.alloc (.cells #[.string s, .int .i64 k, .int .i64 ep, .bool o] 46)).cell? ⟨w.heap.size, 1, none⟩ = some (.int .i64 k) := by simp
  have c2 : (w.alloc (.cells #[.string s, .int .i64 k, .int .i64 ep, .bool o] 46)).cell? ⟨w.heap.size, 2, none⟩ = some (.int .i64 ep) := by simp
  have hn := name_any s (w.alloc (.cells #[.string s, .int .i64 k, .int .i64 ep, .bool o] 46)) hs
  by_cases h1 : isName s.data.toList = true
  · rw [h1] at hn
    by_cases h2 : isKey k = true
    · by_cases h3 : 1 ≤ ep ∧ ep ≤ 1073741824
      · have hr := Lib.hid (show checkOf s.data.toList k ep = 0 by unfold checkOf; rw [h1, h2, if_neg (by decide), if_neg (by decide), if_pos h3])
        obtain ⟨h3, h4⟩ := h3
        clear h1
        go_enter Tryz.func118, Tryz.ntmps118
        go_wp2_with fail
        refine hn.mono ?_
        rintro e w1 ⟨rfl, hb⟩
        have d1 := cell_below hb c1
        have d2 := cell_below hb c2
        have hb := Lib.hid (below_trans hB hb)
        clear c1 c2 hn hB
        go_wp2_with (go_at_call 33; refine (key_any _ _).mono ?_; rintro e w' ⟨rfl, rfl⟩)
        go_ret
        exact ⟨by rw [hr.out]; rfl, hb.out⟩
      · have hr := Lib.hid (show checkOf s.data.toList k ep = 2 by unfold checkOf; rw [h1, h2, if_neg (by decide), if_neg (by decide), if_neg h3])
        have h3 : ep < 1 ∨ 1073741824 < ep := by omega
        clear h1
        go_enter Tryz.func118, Tryz.ntmps118
        go_wp2_with fail
        refine hn.mono ?_
        rintro e w1 ⟨rfl, hb⟩
        have d1 := cell_below hb c1
        have d2 := cell_below hb c2
        have hb := Lib.hid (below_trans hB hb)
        have he := (hL.below hb.out).e2
        clear c1 c2 hn hB
        rcases h3 with h3 | h3
        all_goals
          go_wp2_with (go_at_call 33; refine (key_any _ _).mono ?_; rintro e w' ⟨rfl, rfl⟩)
          go_ret
          exact ⟨by rw [hr.out]; rfl, hb.out⟩
    · have h2 : isKey k = false := by simpa using h2
      have hr := Lib.hid (show checkOf s.data.toList k ep = 10 by unfold checkOf; rw [h1, h2, if_neg (by decide), if_pos rfl])
      clear h1
      go_enter Tryz.func118, Tryz.ntmps118
      go_wp2_with fail
      refine hn.mono ?_
      rintro e w1 ⟨rfl, hb⟩
      have d1 := cell_below hb c1
      have hb := Lib.hid (below_trans hB hb)
      have he := (hL.below hb.out).e10
      clear c1 c2 hn hB
      go_wp2_with (go_at_call 33; refine (key_any _ _).mono ?_; rintro e w' ⟨rfl, rfl⟩)
      go_ret
      exact ⟨by rw [hr.out]; rfl, hb.out⟩
  · have h1 : isName s.data.toList = false := by simpa using h1
    rw [h1] at hn
    have hr := Lib.hid (show checkOf s.data.toList k ep = 4 by unfold checkOf; rw [if_pos h1])
    clear h1
    go_enter Tryz.func118, Tryz.ntmps118
    go_wp2_with fail
    refine hn.mono ?_
    rintro e w1 ⟨rfl, hb⟩
    have hb := Lib.hid (below_trans hB hb)
    have he := (hL.below hb.out).e4
    clear c1 c2 hn hB
    go_wp2_with fail
    go_ret
    exact ⟨by rw [hr.out]; rfl, hb.out⟩

/-- A book at block b, its map at block r. -/
structure BookAt (w : World) (b r : Nat) (L : List Per) : Prop where
  cell : w.heap[b]? = some (.cells #[.map (some r)] 134 (0, 0))
  map : ∃ l, MapV .string w r l ∧ l.Perm (L.map fun p => (.string (bs p.name), p.val))
  sorted : SortedP L
theorem BookAt.ne {w : World} {b r : Nat} {L : List Per} (h : BookAt w b r L) : b ≠ r := by
  rintro rfl
  obtain ⟨l, ⟨es, c, hb, _⟩, _⟩ := h.map
  rw [h.cell] at hb
  cases hb
theorem BookAt.keeps {S : Nat → Prop} {w w' : World} {b r : Nat} {L : List Per} (h : BookAt w b r L) (hk : Keeps S w w') (hb : ¬ S b) (hr : ¬ S r) : BookAt w' b r L :=
  ⟨hk.obj h.cell hb, let ⟨l, hm, hp⟩ := h.map; ⟨l, hm.keeps hk hr, hp⟩, h.sorted⟩
theorem BookAt.below {w w' : World} {b r : Nat} {L : List Per} (h : BookAt w b r L) (hk : Below w.heap.size w w') : BookAt w' b r L :=
  h.keeps (S := fun _ => False) (Keeps.of_below hk) (fun h => h) (fun h => h)
theorem BookAt.at0 {w : World} {b r : Nat} {L : List Per} (h : BookAt w b r L) : w.cell? ⟨b, 0, none⟩ = some (.map (some r)) := by
  rw [cell_of_row w b 0 _ _ _ h.cell]; rfl
theorem zero_person (w : World) : (zeroValue 46).run Tryz.prog w = .ok (.agg #[.string ⟨#[]⟩, .int .i64 0, .int .i64 0, .bool false]) w := by kernel_rfl
theorem BookAt.lookup_some {w : World} {b r : Nat} {L : List Per} (h : BookAt w b r L) {n : List UInt8} {p : Per} (hf : findP L n = some p) :
    (Instr.lookup 132 (.map (some r)) (.string (bs n)) true).run Tryz.prog w = .ok (.tuple #[p.val, .bool true]) w ∧ (Instr.lookup 132 (.map (some r)) (.string (bs n)) false).run Tryz.prog w = .ok p.val w := by
  obtain ⟨l, hm, hp⟩ := h.map
  obtain ⟨hpL, rfl⟩ := findP_some hf
  exact run_lookup_mem Tryz.underlying132 Tryz.underlying9 hm trivial (hp.mem_iff.2 (List.mem_map.2 ⟨p, hpL, rfl⟩))
theorem BookAt.not_mem {L : List Per} {l : List (Value × Value)} (hp : l.Perm (L.map fun p => (.string (bs p.name), p.val))) {n : List UInt8} (hf : findP L n = none) : ∀ v, ((.string (bs n) : Value), v) ∉ l := by
  intro v hm
  obtain ⟨p, hpL, he⟩ := List.mem_map.1 (hp.mem_iff.1 hm)
  have he := (Prod.mk.injEq _ _ _ _ |>.mp he).1
  injection he with he
  exact findP_none hf p hpL (bs_inj he)
theorem BookAt.lookup_none {w : World} {b r : Nat} {L : List Per} (h : BookAt w b r L) {n : List UInt8} (hf : findP L n = none) :
    (Instr.lookup 132 (.map (some r)) (.string (bs n)) true).run Tryz.prog w = .ok (.tuple #[.agg #[.string ⟨#[]⟩, .int .i64 0, .int .i64 0, .bool false], .bool false]) w := by
  obtain ⟨l, hm, hp⟩ := h.map
  exact run_lookup_not Tryz.underlying132 Tryz.underlying9 hm trivial (BookAt.not_mem hp hf) (zero_person w)
end Go.Proofs.YtkhphdkjnpcnnaaGreatDoor

/- New, Get, Add, Rekey, Raise, Off of a book, walked. -/
namespace Go.Proofs.YtkhphdkjnpcnnaaGreatDoor
open Go.RowKit

theorem new_book (w : World) :
    Calls Tryz.prog 34 #[] w fun e w' => ∃ b r, e = .returned (.pointer (some ⟨b, 0, none⟩)) ∧ Below w.heap.size w w' ∧ w.heap.size ≤ b ∧ w.heap.size ≤ r ∧ BookAt w' b r [] := by
  have hmm := @run_makeMap Tryz.prog
  have hfin : BookAt ((w.alloc (.map #[] 0)).alloc (.cells #[.map (some w.heap.size)] 134)) (w.heap.size + 1) w.heap.size [] := by
    refine ⟨?_, ⟨[], ?_, List.Perm.refl _⟩, List.Pairwise.nil⟩
    · have := heap_alloc_new (w.alloc (.map #[] 0)) (.cells #[.map (some w.heap.size)] 134)
      rwa [World.size_alloc] at this
    · exact (MapV.new w).below ((Below.refl _ _).alloc (Nat.le_refl _) _)
  have hfin := Lib.hid hfin
  go_enter Tryz.func34, Tryz.ntmps34
  go_wp2
  go_ret
  exact ⟨_, _, rfl, ((Below.refl _ _).alloc (Nat.le_refl _) _).alloc (by simp) _, by omega, Nat.le_refl _, hfin.out⟩

set_option maxRecDepth 100000 in
theorem get_some {E : Nat → Addr} (b r : Nat) (L : List Per) (n : List UInt8) (p : Per) (w : World) (hB : BookAt w b r L) (hf : findP L n = some p) :
    Calls Tryz.prog 90 #[.pointer (some ⟨b, 0, none⟩), .string (bs n)] w fun e w' => e = .returned (.tuple #[.agg #[.string (bs p.name), .int .i64 p.key, .int .i64 p.epoch, .bool p.off], errV E 0]) ∧ Below w.heap.size w w' := by
  have hc := hB.at0
  have hA := fun o : Obj => ((Below.refl w.heap.size w).alloc (Nat.le_refl _) o)
  have hl := fun o : Obj => ((hB.below (hA o)).lookup_some hf).1
  have hcA := fun o : Obj => cell_below (hA o) hc
  simp only [Per.val] at hl
  clear hA
  go_enter Tryz.func90, Tryz.ntmps90
  go_wp2
  exact bodyPost_ret (v := .tuple #[.agg #[.string (bs p.name), .int .i64 p.key, .int .i64 p.epoch, .bool p.off], .nilIface]) (by simp [results, Tryz.results90, go_sem]) rfl ⟨rfl, ((Below.refl _ _).alloc (Nat.le_refl _) _).alloc (by simp) _⟩
set_option maxRecDepth 100000 in
theorem get_none {E : Nat → Addr} (b r : Nat) (L : List Per) (n : List UInt8) (w : World) (hB : BookAt w b r L) (hf : findP L n = none) (hE : w.cell? ⟨4, 0, none⟩ = some (errV E 5)) :
    Calls Tryz.prog 90 #[.pointer (some ⟨b, 0, none⟩), .string (bs n)] w fun e w' => e = .returned (.tuple #[.agg #[.string ⟨#[]⟩, .int .i64 0, .int .i64 0, .bool false], errV E 5]) ∧ Below w.heap.size w w' := by
  have hc := hB.at0
  have hA := fun o : Obj => ((Below.refl w.heap.size w).alloc (Nat.le_refl _) o)
  have hl := fun o : Obj => ((hB.below (hA o)).lookup_none hf)
  have hcA := fun o : Obj => cell_below (hA o) hc
  have hE2 := fun o o2 : Obj => cell_below (((Below.refl w.heap.size w).alloc (Nat.le_refl _) o).alloc (by simp) o2) hE
  simp only [errV] at hE2
  clear hA
  go_enter Tryz.func90, Tryz.ntmps90
  go_wp2
  go_region
  all_goals
    go_wp2
    exact bodyPost_ret (v := .tuple #[.agg #[.string ⟨#[]⟩, .int .i64 0, .int .i64 0, .bool false], errV E 5]) (by simp [results, Tryz.results90, go_sem, errV]) rfl ⟨rfl, (((Below.refl _ _).alloc (Nat.le_refl _) _).alloc (by simp) _).drew⟩
theorem get_any {E : Nat → Addr} (b r : Nat) (L : List Per) (n : List UInt8) (w : World) (hL : Laid E w) (hB : BookAt w b r L) :
    Calls Tryz.prog 90 #[.pointer (some ⟨b, 0, none⟩), .string (bs n)] w fun e w' => ((∃ p, findP L n = some p ∧ e = .returned (.tuple #[.agg #[.string (bs p.name), .int .i64 p.key, .int .i64 p.epoch, .bool p.off], .nilIface])) ∨ (findP L n = none ∧ e = .returned (.tuple #[.agg #[.string ⟨#[]⟩, .int .i64 0, .int .i64 0, .bool false], errV E 5]))) ∧ Below w.heap.size w w' := by
  cases hf : findP L n with
  | some p => exact (get_some (E := E) b r L n p w hB hf).mono fun e w' ⟨he, hb⟩ => ⟨.inl ⟨p, rfl, he⟩, hb⟩
  | none => exact (get_none b r L n w hB hf hL.e5).mono fun e w' ⟨he, hb⟩ => ⟨.inr ⟨rfl, he⟩, hb⟩
end Go.Proofs.YtkhphdkjnpcnnaaGreatDoor
