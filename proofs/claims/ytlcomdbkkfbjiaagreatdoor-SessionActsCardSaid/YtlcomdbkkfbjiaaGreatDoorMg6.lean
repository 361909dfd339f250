/- SesP, MapV, MapR -/
import Derived.Test.YtlcomdbkkfbjiaaGreatDoorMg4
import Derived.Test.YtlcomdbkkfbjiaaGreatDoorMg5
import Derived.MapKept
import Derived.WalkKit
import Derived.Deep.Draws
import Derived.Maps.RangeWalk
/- Plain definitions and lemmas about sessions: no program in sight. -/
namespace Go.Proofs.YtlcomdbkkfbjiaaGreatDoor

/-- A session: its number, its ticket. -/
structure Ses where
  n : Int
  t : Tick
def SortedS (L : List Ses) : Prop := L.Pairwise fun p q => p.n < q.n
def findS (L : List Ses) (n : Int) : Option Ses := L.find? fun p => p.n == n
def numsS (L : List Ses) : List Int := L.map Ses.n
theorem findS_some {L : List Ses} {n : Int} {p : Ses} (h : findS L n = some p) : p ∈ L ∧ p.n = n :=
  ⟨List.mem_of_find?_eq_some h, by simpa using List.find?_some h⟩
theorem findS_none {L : List Ses} {n : Int} (h : findS L n = none) : ∀ p ∈ L, p.n ≠ n := by
  intro p hp
  simpa using List.find?_eq_none.1 h p hp
theorem sortedS_inj {L : List Ses} (hs : SortedS L) : ∀ p ∈ L, ∀ q ∈ L, p.n = q.n → p = q := by
  induction L with
  | nil => intro p hp; cases hp
  | cons a L ih =>
    have hs' := List.pairwise_cons.1 hs
    intro p hp q hq h
    rcases List.mem_cons.1 hp with hpa | hp' <;> rcases List.mem_cons.1 hq with hqa | hq'
    · rw [hpa, hqa]
    · have := hs'.1 q hq'; rw [hpa] at h; omega
    · have := hs'.1 p hp'; rw [hqa] at h; omega
    · exact ih hs'.2 p hp' q hq' h
theorem findS_mem {L : List Ses} (hs : SortedS L) {p : Ses} (hp : p ∈ L) : findS L p.n = some p := by
  cases h : findS L p.n with
  | none => exact absurd rfl (findS_none h p hp)
  | some q =>
    obtain ⟨h1, h2⟩ := findS_some h
    rw [sortedS_inj hs q h1 p hp h2]
structure GoodS (next : Int) (L : List Ses) : Prop where
  sorted : SortedS L
  lo : ∀ p ∈ L, 1 ≤ p.n ∧ p.n < next
  one : 1 ≤ next
  many : L.length ≤ 40
  tick : ∀ p ∈ L, tickErr p.t = 0
theorem goodT_err {t : Tick} {now : Int} (h : goodT t now = 0) : tickErr t = 0 := by
  unfold goodT at h
  by_cases h1 : tickErr t = 0
  · exact h1
  · rw [if_neg h1] at h; exact absurd h h1
theorem tick_size {t : Tick} (h : tickErr t = 0) : t.who.length ≤ 8 ∧ t.svc.length ≤ 8 := by
  obtain ⟨h1, h2, _⟩ := tickErr_zero h
  exact ⟨((isName_iff _).1 h1).2.1, ((isName_iff _).1 h2).2.1⟩
/-- Open: the number, an error's number, what comes next, what is open. -/
def openS (next : Int) (L : List Ses) (t : Tick) (now : Int) : (Int × Nat) × (Int × List Ses) :=
  if goodT t now ≠ 0 then ((0, goodT t now), (next, L)) else if 40 ≤ L.length then ((0, 7), (next, L)) else ((next, 0), (next + 1, L ++ [⟨next, t⟩]))
def closeS (L : List Ses) (n : Int) : Nat × List Ses := if (findS L n).isSome then (0, L.filter fun p => !(p.n == n)) else (5, L)
def askSs (L : List Ses) (n now : Int) : Tick × Nat := match findS L n with
  | none => (noTick, 5)
  | some p => if goodT p.t now = 0 then (p.t, 0) else (noTick, goodT p.t now)
def badS (F : List Flo) (now : Int) (p : Ses) : Bool := decide (goodT p.t now ≠ 0) || !decide (ofF F p.t.who ≤ p.t.epoch)
/-- Sweep: who is gone, an error's number, its place, what is open. -/
def sweepS (F : List Flo) (now : Int) (L : List Ses) : List Int × (Nat × Int) × List Ses :=
  if (checkF F).1 ≠ 0 then ([], checkF F, L) else if now < 0 ∨ 1000000 < now then ([], (2, -1), L) else (numsS (L.filter (badS F now)), (0, -1), L.filter fun p => !badS F now p)
theorem good_new : GoodS 1 [] := ⟨List.Pairwise.nil, by simp, Int.le_refl _, by simp, by simp⟩
theorem goodS_filter {next : Int} {L : List Ses} (h : GoodS next L) (f : Ses → Bool) : GoodS next (L.filter f) :=
  ⟨h.sorted.filter _, fun p hp => h.lo p (List.mem_filter.1 hp).1, h.one, Nat.le_trans (List.length_filter_le _ _) h.many, fun p hp => h.tick p (List.mem_filter.1 hp).1⟩
theorem open_good {next : Int} {L : List Ses} (h : GoodS next L) (t : Tick) (now : Int) :
    GoodS (openS next L t now).2.1 (openS next L t now).2.2 ∧ (openS next L t now).1.2 ≤ 16 ∧ next ≤ (openS next L t now).2.1 ∧ (openS next L t now).2.1 ≤ next + 1 ∧
      ((openS next L t now).1.2 = 0 → (openS next L t now).1.1 = next ∧ (openS next L t now).2.1 = next + 1) := by
  unfold openS
  by_cases h1 : goodT t now ≠ 0
  · rw [if_pos h1]
    refine ⟨h, ?_, Int.le_refl _, by dsimp only; omega, fun e => absurd e h1⟩
    dsimp only
    unfold goodT
    have hte : tickErr t ≤ 4 := by
      unfold tickErr
      split
      · split <;> omega
      · omega
    split
    · split
      · split
        · omega
        · split <;> omega
      · omega
    · omega
  rw [if_neg h1]
  by_cases h2 : 40 ≤ L.length
  · rw [if_pos h2]
    exact ⟨h, by simp, Int.le_refl _, by dsimp only; omega, fun e => by cases e⟩
  rw [if_neg h2]
  have hg : goodT t now = 0 := by omega
  refine ⟨⟨?_, fun p hp => ?_, by have := h.one; dsimp only; omega, by simp; omega, fun p hp => ?_⟩, Nat.zero_le _, by dsimp only; omega, Int.le_refl _, fun _ => ⟨rfl, rfl⟩⟩
  · refine List.pairwise_append.2 ⟨h.sorted, List.pairwise_singleton _ _, fun p hp q hq => ?_⟩
    simp at hq
    subst hq
    exact (h.lo p hp).2
  · rcases List.mem_append.1 hp with hp | hp
    · have := h.lo p hp; dsimp only; omega
    · simp at hp; subst hp; have := h.one; dsimp only; omega
  · rcases List.mem_append.1 hp with hp | hp
    · exact h.tick p hp
    · simp at hp; subst hp; exact goodT_err hg
theorem close_good {next : Int} {L : List Ses} (h : GoodS next L) (n : Int) : GoodS next (closeS L n).2 ∧ (closeS L n).1 ≤ 16 := by
  unfold closeS
  split
  · exact ⟨goodS_filter h _, by simp⟩
  · exact ⟨h, by simp⟩
theorem sweep_good {next : Int} {L : List Ses} (h : GoodS next L) (F : List Flo) (now : Int) : GoodS next (sweepS F now L).2.2 := by
  unfold sweepS
  split
  · exact h
  split
  · exact h
  · exact goodS_filter h _
/-- Each that was open is gone, or is left, and not both. -/
theorem part_once {L : List Ses} (hs : SortedS L) (f : Ses → Bool) {p : Ses} (hp : p ∈ L) : decide (p.n ∈ numsS (L.filter f)) = !decide (p.n ∈ numsS (L.filter fun q => !f q)) := by
  have key : ∀ g : Ses → Bool, (p.n ∈ numsS (L.filter g)) ↔ g p = true := by
    intro g
    unfold numsS
    rw [List.mem_map]
    constructor
    · rintro ⟨q, hq, e⟩
      obtain ⟨h1, h2⟩ := List.mem_filter.1 hq
      rwa [sortedS_inj hs q h1 p hp e] at h2
    · exact fun h => ⟨p, List.mem_filter.2 ⟨hp, h⟩, rfl⟩
  cases hf : f p <;> simp [key, hf]
theorem part_len (L : List Ses) (f : Ses → Bool) : (numsS (L.filter f)).length + (numsS (L.filter fun q => !f q)).length = (numsS L).length := by
  unfold numsS
  simp only [List.length_map]
  induction L with
  | nil => rfl
  | cons a L ih => cases h : f a <;> simp [h] <;> omega
theorem sweep_again (L : List Ses) (f : Ses → Bool) : (L.filter fun q => !f q).filter f = [] := by
  rw [List.filter_filter, List.filter_eq_nil_iff]
  intro a _
  cases f a <;> simp
theorem nums_sorted {L : List Ses} (hs : SortedS L) : (numsS L).Pairwise (· < ·) := List.pairwise_map.2 hs
/-- What is sorted, of the same numbers, is the same. -/
theorem mergeSort_nums {N ss : List Int} (hs : N.Pairwise (· < ·)) (hp : ss.Perm N) : ss.mergeSort (fun x y => decide (x ≤ y)) = N := by
  have h1 : (ss.mergeSort (fun x y => decide (x ≤ y))).Perm N := (List.mergeSort_perm _ _).trans hp
  have h2 : (ss.mergeSort (fun x y => decide (x ≤ y))).Pairwise (fun x y => decide (x ≤ y) = true) := List.pairwise_mergeSort (fun a b c h h' => by simp at *; omega) (fun a b => by simp; omega) _
  have h3 : N.Pairwise (fun x y => decide (x ≤ y) = true) := hs.imp (fun {a b} h => by simp; omega)
  exact h1.eq_of_pairwise (fun a b _ _ h h' => by simp at h h'; omega) h2 h3
end Go.Proofs.YtlcomdbkkfbjiaaGreatDoor

/- A Go map as a list of keys with values: what a look-up, a store, delete and len do, of whatever program. -/
namespace Go.Proofs.YtlcomdbkkfbjiaaGreatDoor
open Go.RowKit Go.MapKept

/-- Block r is a map that holds just these keys and values, in the order in which they came. -/
def MapV (d : TypeDesc) (w : World) (r : Nat) (l : List (Value × Value)) : Prop :=
  ∃ es clock, w.heap[r]? = some (.map es clock) ∧ Stamped es clock ∧ (∀ x ∈ es.toList, IsKey d x.key) ∧ es.toList.map (fun e => (e.key, e.val)) = l

/-- Of the blocks that there were all but those of S are as they were. -/
structure Keeps (S : Nat → Prop) (w w' : World) : Prop where
  os : w'.os = w.os
  tape : w'.tape = w.tape
  output : w'.output = w.output
  size : w.heap.size ≤ w'.heap.size
  block : ∀ k, k < w.heap.size → ¬ S k → w'.heap[k]? = w.heap[k]?
theorem Keeps.refl (S : Nat → Prop) (w : World) : Keeps S w w := ⟨rfl, rfl, rfl, Nat.le_refl _, fun _ _ _ => rfl⟩
theorem Keeps.of_below {S : Nat → Prop} {w w' : World} (h : Below w.heap.size w w') : Keeps S w w' := ⟨h.os, h.tape, h.output, h.size, fun k hk _ => h.block k hk⟩
theorem Keeps.trans {S : Nat → Prop} {a b c : World} (h : Keeps S a b) (k : Keeps S b c) : Keeps S a c :=
  ⟨k.os.trans h.os, k.tape.trans h.tape, k.output.trans h.output, Nat.le_trans h.size k.size, fun i hi hs => (k.block i (Nat.lt_of_lt_of_le hi h.size) hs).trans (h.block i hi hs)⟩
theorem Keeps.mono {S T : Nat → Prop} {w w' : World} (h : Keeps S w w') (hst : ∀ k, S k → T k) : Keeps T w w' :=
  ⟨h.os, h.tape, h.output, h.size, fun k hk hs => h.block k hk (fun hS => hs (hst k hS))⟩
theorem Keeps.below {S : Nat → Prop} {w w' : World} (h : Keeps S w w') {B : Nat} (hB : B ≤ w.heap.size) (hS : ∀ k, S k → B ≤ k) : Below B w w' :=
  ⟨h.os, h.tape, h.output, h.size, fun k hk => h.block k (Nat.lt_of_lt_of_le hk hB) (fun hs => by have := hS k hs; omega)⟩
theorem Keeps.obj {S : Nat → Prop} {w w' : World} (h : Keeps S w w') {b : Nat} {o : Obj} (hb : w.heap[b]? = some o) (hs : ¬ S b) : w'.heap[b]? = some o :=
  (h.block b (Array.getElem?_eq_some_iff.1 hb).1 hs).trans hb
theorem Keeps.cell {S : Nat → Prop} {w w' : World} (h : Keeps S w w') {a : Addr} {v : Value} (hc : w.cell? a = some v) (hs : ¬ S a.block) : w'.cell? a = some v :=
  (World.cell?_of_block (w := w) (h.block a.block (World.block_lt_of_cell? w a hc) hs)).trans hc
theorem Keeps.drew {S : Nat → Prop} {a w : World} (h : Keeps S a w) (n : Nat) : Keeps S a (w.drewN n) := ⟨h.os, h.tape, h.output, h.size, h.block⟩

section
variable {P : Program} {d : TypeDesc} {w : World} {r : Nat} {l : List (Value × Value)} {T K E : TypeId}

theorem MapV.keys_nodup (h : MapV d w r l) : (l.map Prod.fst).Nodup := by
  obtain ⟨es, clock, hb, hs, hk, rfl⟩ := h
  have := hs.2.2
  simpa [Function.comp_def] using this
theorem MapV.key (h : MapV d w r l) : ∀ p ∈ l, IsKey d p.1 := by
  obtain ⟨es, clock, hb, hs, hk, rfl⟩ := h
  intro p hp
  obtain ⟨e, he, rfl⟩ := List.mem_map.1 hp
  exact hk e he
theorem MapV.lt (h : MapV d w r l) : r < w.heap.size := by
  obtain ⟨es, clock, hb, _⟩ := h
  exact (Array.getElem?_eq_some_iff.1 hb).1
theorem MapV.keeps {S : Nat → Prop} {w' : World} (h : MapV d w r l) (hk : Keeps S w w') (hs : ¬ S r) : MapV d w' r l := by
  obtain ⟨es, clock, hb, rest⟩ := h
  exact ⟨es, clock, hk.obj hb hs, rest⟩
theorem MapV.below {w' : World} (h : MapV d w r l) (hk : Below w.heap.size w w') : MapV d w' r l :=
  h.keeps (S := fun _ => False) (Keeps.of_below hk) (fun h => h)
theorem MapV.new (w : World) : MapV d (w.alloc (.map #[] 0)) w.heap.size [] :=
  ⟨#[], 0, (MapKept.heap_alloc w _).1, stamped_empty 0, by simp, by simp⟩

theorem findNow_mem {k v : Value} {es : Array MapEntry} {clock : Nat} (hs : Stamped es clock) (hk : ∀ x ∈ es.toList, IsKey d x.key) (hkk : IsKey d k) (hm : (k, v) ∈ es.toList.map (fun e => (e.key, e.val))) :
    ∃ j e, Instr.findNow d k es.toList 0 = some (some (j, v)) ∧ es[j]? = some e ∧ e.key = k ∧ e.val = v := by
  obtain ⟨e0, he0, heq⟩ := List.mem_map.1 hm
  cases heq
  rcases findNow_spec hkk es.toList 0 hk with ⟨_, h2⟩ | ⟨j, e, h1, h2, h3⟩
  · exact absurd rfl (h2 e0 he0)
  · have hee : e = e0 := by
      obtain ⟨j0, hj0⟩ := List.mem_iff_getElem?.1 he0
      have hnd := hs.2.2
      have hj : (es.toList.map (·.key))[j]? = some e.key := by rw [List.getElem?_map, h2]; rfl
      have hj0' : (es.toList.map (·.key))[j0]? = some e.key := by rw [List.getElem?_map, hj0, h3]; rfl
      have hlt : j < (es.toList.map (·.key)).length := (List.getElem?_eq_some_iff.1 hj).1
      have := (List.getElem?_inj hlt hnd).1 (hj.trans hj0'.symm)
      subst this
      rw [h2] at hj0
      exact Option.some.inj hj0
    subst hee
    refine ⟨j, e, ?_, by simpa using h2, h3, rfl⟩
    rw [h1, Nat.zero_add]
theorem findNow_not {k : Value} {es : Array MapEntry} (hk : ∀ x ∈ es.toList, IsKey d x.key) (hkk : IsKey d k) (hn : ∀ v, (k, v) ∉ es.toList.map (fun e => (e.key, e.val))) :
    Instr.findNow d k es.toList 0 = some none ∧ ∀ x ∈ es.toList, x.key ≠ k := by
  rcases findNow_spec hkk es.toList 0 hk with h | ⟨j, e, h1, h2, h3⟩
  · exact h
  · exact absurd (List.mem_map.2 ⟨e, List.mem_of_getElem? h2, by rw [h3]⟩) (hn e.val)

theorem run_lookup_mem (hT : P.underlying T = some (.map K E)) (hK : P.underlying K = some d) (h : MapV d w r l) {k v : Value} (hkk : IsKey d k) (hm : (k, v) ∈ l) :
    (Instr.lookup T (.map (some r)) k true).run P w = .ok (.tuple #[v, .bool true]) w ∧ (Instr.lookup T (.map (some r)) k false).run P w = .ok v w := by
  obtain ⟨es, clock, hb, hs, hk, rfl⟩ := h
  obtain ⟨j, e, h1, _⟩ := findNow_mem hs hk hkk hm
  constructor
  · simp [Instr.lookup, run_underlying hT, MapKept.run_getObj_map hb, MapKept.run_checkKey hK hkk, MapKept.run_findKey hK h1, Result.andThen]
  · simp [Instr.lookup, run_underlying hT, MapKept.run_getObj_map hb, MapKept.run_checkKey hK hkk, MapKept.run_findKey hK h1, Result.andThen]
theorem run_lookup_not (hT : P.underlying T = some (.map K E)) (hK : P.underlying K = some d) (h : MapV d w r l) {k z : Value} (hkk : IsKey d k) (hn : ∀ v, (k, v) ∉ l) (hz : (zeroValue E).run P w = .ok z w) :
    (Instr.lookup T (.map (some r)) k true).run P w = .ok (.tuple #[z, .bool false]) w := by
  obtain ⟨es, clock, hb, hs, hk, rfl⟩ := h
  have h1 := (findNow_not hk hkk hn).1
  simp [Instr.lookup, run_underlying hT, MapKept.run_getObj_map hb, MapKept.run_checkKey hK hkk, MapKept.run_findKey hK h1, Result.andThen, hz]

/-- A world in which block r is another object. -/
def setObjAt (w : World) (r : Nat) (o : Obj) : World := { w with heap := w.heap.setIfInBounds r o }
theorem Keeps.ofSet (w : World) (r : Nat) (o : Obj) : Keeps (· = r) w (setObjAt w r o) :=
  ⟨rfl, rfl, rfl, by simp [setObjAt], fun k _ hs => by simp [setObjAt, Ne.symm hs]⟩

theorem run_update_mem (hT : P.underlying T = some (.map K E)) (hK : P.underlying K = some d) (h : MapV d w r l) {k v u : Value} (hkk : IsKey d k) (hm : (k, v) ∈ l) :
    ∃ w', (Instr.mapUpdate T (.map (some r)) k u).run P w = .ok () w' ∧ Keeps (· = r) w w' ∧ w'.heap.size = w.heap.size ∧ ∃ j, l[j]? = some (k, v) ∧ MapV d w' r (l.set j (k, u)) := by
  obtain ⟨es, clock, hb, hs, hk, rfl⟩ := h
  obtain ⟨j, e, h1, hj, h3, h4⟩ := findNow_mem hs hk hkk hm
  have hlt : r < w.heap.size := (Array.getElem?_eq_some_iff.1 hb).1
  have hkey : ∀ e', es[j]? = some e' → ({ e' with key := k, val := u } : MapEntry).key = e'.key := fun e' he' => by rw [hj] at he'; cases he'; exact h3.symm
  refine ⟨setObjAt w r (.map (es.modify j fun e => { e with key := k, val := u }) clock), ?_, Keeps.ofSet _ _ _, by simp [setObjAt], j, ?_, ?_⟩
  · simp [Instr.mapUpdate, run_underlying hT, MapKept.run_getObj_map hb, MapKept.run_checkKey hK hkk, MapKept.run_findKey hK h1, hj, h3, MapKept.run_keyThatStays hkk, MapKept.run_setObj_map _ hb, Result.andThen]
    rfl
  · rw [List.getElem?_map, show es.toList[j]? = some e by simpa using hj]
    simp [h3, h4]
  · refine ⟨es.modify j fun e => { e with key := k, val := u }, clock, by simp [setObjAt, hlt], stamped_modify hs j (fun e => { e with key := k, val := u }) (fun _ _ => rfl) (fun e' _ he' => hkey e' he'), isKey_modify hk j (fun e => { e with key := k, val := u }) hkey, ?_⟩
    apply List.ext_getElem?
    intro i
    rw [List.getElem?_map, List.getElem?_set, List.getElem?_map]
    simp only [Array.getElem?_toList, Array.getElem?_modify]
    by_cases hij : j = i
    · subst hij
      rw [if_pos rfl, hj, if_pos rfl]
      have : j < es.size := (Array.getElem?_eq_some_iff.1 hj).1
      simp [this]
    · rw [if_neg hij, if_neg hij]
theorem run_update_not (hT : P.underlying T = some (.map K E)) (hK : P.underlying K = some d) (h : MapV d w r l) {k u : Value} (hkk : IsKey d k) (hn : ∀ v, (k, v) ∉ l) :
    ∃ w', (Instr.mapUpdate T (.map (some r)) k u).run P w = .ok () w' ∧ Keeps (· = r) w w' ∧ w'.heap.size = w.heap.size ∧ MapV d w' r (l ++ [(k, u)]) := by
  obtain ⟨es, clock, hb, hs, hk, rfl⟩ := h
  obtain ⟨h1, h2⟩ := findNow_not hk hkk hn
  have hlt : r < w.heap.size := (Array.getElem?_eq_some_iff.1 hb).1
  refine ⟨setObjAt w r (.map (es.push { key := k, val := u, born := clock }) (clock + 1)), ?_, Keeps.ofSet _ _ _, by simp [setObjAt], ?_⟩
  · simp [Instr.mapUpdate, run_underlying hT, MapKept.run_getObj_map hb, MapKept.run_checkKey hK hkk, MapKept.run_findKey hK h1, MapKept.run_setObj_map _ hb, Result.andThen]
    rfl
  · refine ⟨es.push { key := k, val := u, born := clock }, clock + 1, by simp [setObjAt, hlt], stamped_push hs h2, ?_, by simp⟩
    intro x hx
    simp only [Array.toList_push, List.mem_append, List.mem_singleton] at hx
    rcases hx with hx | rfl
    · exact hk x hx
    · exact hkk
end
end Go.Proofs.YtlcomdbkkfbjiaaGreatDoor

/- Ranging over a map that is known as a list; delete. -/
namespace Go.Proofs.YtlcomdbkkfbjiaaGreatDoor
open Go.RowKit Go.MapKept Go.ChangeMaps

/-- What is there once, by its number, is struck by it. -/
theorem perm_strike {α : Type} {f : α → Nat} : ∀ {l : List α}, (l.map f).Nodup → ∀ {e : α}, e ∈ l → l.Perm (e :: l.filter fun x => !(f x == f e))
  | [], _, _, h => by cases h
  | a :: l, hn, e, he => by
    rw [List.map_cons, List.nodup_cons] at hn
    obtain ⟨h1, h2⟩ := hn
    rcases List.mem_cons.1 he with rfl | he
    · have h3 : l.filter (fun x => !(f x == f e)) = l := List.filter_eq_self.2 fun x hx => by
        have : f x ≠ f e := fun h => h1 (h ▸ List.mem_map.2 ⟨x, hx, rfl⟩)
        simpa using this
      rw [List.filter_cons_of_neg (by simp), h3]
    · have h3 : f a ≠ f e := fun h => h1 (h ▸ List.mem_map.2 ⟨e, he, rfl⟩)
      rw [List.filter_cons_of_pos (by simpa using h3)]
      exact ((perm_strike h2 he).cons a).trans (List.Perm.swap e a _)
theorem erase_perm {α : Type} : ∀ {l : List α} {j : Nat} {e : α}, l[j]? = some e → l.Perm (e :: l.eraseIdx j)
  | [], _, _, h => by simp at h
  | a :: l, 0, e, h => by simp at h; subst h; simp
  | a :: l, j + 1, e, h => by
    rw [List.eraseIdx_cons_succ]
    exact ((erase_perm (by simpa using h)).cons a).trans (List.Perm.swap e a _)
def kvOf (e : MapEntry) : Value × Value := (e.key, e.val)
/-- A range over block r's map under way, its iterator at block i: what is still to come. -/
def RangeV (d : TypeDesc) (w : World) (r i : Nat) (l left : List (Value × Value)) : Prop :=
  ∃ es clock since seen c0, w.heap[r]? = some (.map es clock) ∧ Stamped es clock ∧ (∀ x ∈ es.toList, IsKey d x.key) ∧ es.toList.map kvOf = l ∧
    w.heap[i]? = some (.mapIter (some r) since seen c0) ∧ (∀ x ∈ es.toList, x.born < since) ∧ since ≤ c0 ∧ since ≤ clock ∧ (leftOf es seen).toList.map kvOf = left
section
variable {P : Program} {d : TypeDesc} {w w' : World} {r i : Nat} {l left : List (Value × Value)} {T K E : TypeId}
theorem RangeV.mapV (h : RangeV d w r i l left) : MapV d w r l := by
  obtain ⟨es, clock, _, _, _, hb, hs, hk, hl, _⟩ := h
  exact ⟨es, clock, hb, hs, hk, hl⟩
theorem RangeV.lt (h : RangeV d w r i l left) : i < w.heap.size := by
  obtain ⟨es, clock, _, _, _, _, _, _, _, hi, _⟩ := h
  exact (Array.getElem?_eq_some_iff.1 hi).1
theorem RangeV.ne (h : RangeV d w r i l left) : i ≠ r := by
  rintro rfl
  obtain ⟨es, clock, _, _, _, hb, _, _, _, hi, _⟩ := h
  rw [hb] at hi
  cases hi
theorem RangeV.keeps {S : Nat → Prop} (h : RangeV d w r i l left) (hk : Keeps S w w') (h1 : ¬ S r) (h2 : ¬ S i) : RangeV d w' r i l left := by
  obtain ⟨es, clock, since, seen, c0, hb, hs, hkk, hl, hi, rest⟩ := h
  exact ⟨es, clock, since, seen, c0, hk.obj hb h1, hs, hkk, hl, hk.obj hi h2, rest⟩
theorem RangeV.below (h : RangeV d w r i l left) (hb : Below w.heap.size w w') : RangeV d w' r i l left := h.keeps (S := fun _ => False) (Keeps.of_below hb) (fun h => h) (fun h => h)
theorem leftOf_push (es : Array MapEntry) (seen : Array Nat) (b : Nat) : (leftOf es (seen.push b)).toList = (leftOf es seen).toList.filter fun x => !(x.born == b) := by
  unfold leftOf
  rw [Array.toList_filter, Array.toList_filter, List.filter_filter]
  refine List.filter_congr fun x _ => ?_
  rw [contains_push]
  cases seen.contains x.born <;> cases (x.born == b) <;> rfl
/-- 'range m'. -/
theorem MapV.range (hT : P.underlying T = some (.map K E)) (h : MapV d w r l) :
    ∃ o, (Instr.range T (.map (some r))).run P w = .ok (.pointer (some ⟨w.heap.size, 0, none⟩)) (w.alloc o) ∧ RangeV d (w.alloc o) r w.heap.size l l := by
  obtain ⟨es, clock, hb, hs, hk, rfl⟩ := h
  have hlt := (Array.getElem?_eq_some_iff.1 hb).1
  refine ⟨_, run_range_map w T K E r es clock hT hb, es, clock, clock, #[], clock, ((MapKept.heap_alloc w _).2 r hlt).trans hb, hs, hk, rfl, (MapKept.heap_alloc w _).1, ((stamped_iff es clock).1 hs).1, Nat.le_refl _, Nat.le_refl _, ?_⟩
  have : leftOf es #[] = es := by simp [leftOf]
  rw [this]
  rfl
/-- The step. -/
theorem RangeV.next (h : RangeV d w r i l left) :
    (left = [] ∧ ∀ ty, (Instr.next (.pointer (some ⟨i, 0, none⟩)) false ty).run P w = .ok (.tuple #[.bool false]) w) ∨
    (left ≠ [] ∧ ∃ p left' w', left.Perm (p :: left') ∧ (∀ ty, (Instr.next (.pointer (some ⟨i, 0, none⟩)) false ty).run P w = .ok (.tuple #[.bool true, p.1, p.2]) w') ∧
      RangeV d w' r i l left' ∧ Keeps (· = i) w w' ∧ w'.heap.size = w.heap.size ∧ (Instr.entry (.pointer (some ⟨i, 0, none⟩))).run P w' = .ok (.tuple #[p.1, p.2]) w') := by
  have hne := h.ne
  obtain ⟨es, clock, since, seen, c0, hb, hs, hk, rfl, hi, hold, hsc, hsk, rfl⟩ := h
  by_cases h0 : (leftOf es seen).size = 0
  · refine .inl ⟨?_, fun ty => ?_⟩
    · rw [Array.eq_empty_of_size_eq_zero h0]
      rfl
    · rcases run_next_at (P := P) w ty i r since c0 seen es clock hi hb hold hsc with ⟨_, hrun⟩ | ⟨e, he, _⟩
      · exact hrun
      · rw [Array.eq_empty_of_size_eq_zero h0] at he
        cases he
  · refine .inr ⟨?_, ?_⟩
    · intro e
      have := congrArg List.length e
      simp at this
      exact h0 (by rw [this]; rfl)
    · rcases run_next_at (P := P) w 0 i r since c0 seen es clock hi hb hold hsc with ⟨h1, _⟩ | ⟨e, he, w1, hal, hrun⟩
      · exact absurd h1 h0
      · obtain ⟨hem, hes⟩ := mem_left he
        have hr1 : w1.heap[i]? = some (.mapIter (some r) since seen c0) := by rcases hal with rfl | rfl <;> exact hi
        have hb1 : w1.heap[r]? = some (.map es clock) := by rcases hal with rfl | rfl <;> exact hb
        have hset := heap_set (o' := .mapIter (some r) since (seen.push e.born) clock) hr1
        have hb' : (setBlock w1 i (.mapIter (some r) since (seen.push e.born) clock)).heap[r]? = some (.map es clock) := (hset.2 r (fun e1 => hne e1.symm)).trans hb1
        have hnd : ((leftOf es seen).toList.map (·.born)).Nodup := by
          have h1 := ((stamped_iff es clock).1 hs).2.1
          refine List.Sublist.nodup ?_ h1
          unfold leftOf
          rw [Array.toList_filter]
          exact List.filter_sublist.map _
        refine ⟨(e.key, e.val), _, _, ((perm_strike hnd he).map kvOf), fun _ => hrun, ⟨es, clock, since, seen.push e.born, clock, hb', hs, hk, rfl, hset.1, hold, hsk, hsk, by rw [leftOf_push]⟩, ?_, ?_, run_entry_at _ i r since seen es clock e hset.1 hb' hem ((stamped_iff es clock).1 hs).2.1⟩
        · rcases hal with rfl | rfl <;> exact ⟨rfl, rfl, rfl, by simp [setBlock], fun j _ hj => hset.2 j hj⟩
        · rcases hal with rfl | rfl <;> simp [setBlock]
/-- 'delete(m, k)' of a key that is there. -/
theorem run_delete_mem (hT : P.underlying T = some (.map K E)) (hK : P.underlying K = some d) (h : MapV d w r l) {k v : Value} (hkk : IsKey d k) (hm : (k, v) ∈ l) :
    ∃ w', (∀ ty, (Builtin.delete_ #[T, K] ty #[.map (some r), k]).run P w = .ok (.tuple #[]) w') ∧ Keeps (· = r) w w' ∧ w'.heap.size = w.heap.size ∧ ∃ l', l.Perm ((k, v) :: l') ∧ MapV d w' r l' := by
  obtain ⟨es, clock, hb, hs, hk, rfl⟩ := h
  obtain ⟨j, e, h1, hj, h3, h4⟩ := findNow_mem hs hk hkk hm
  have hlt : r < w.heap.size := (Array.getElem?_eq_some_iff.1 hb).1
  have hjl : j < es.size := (Array.getElem?_eq_some_iff.1 hj).1
  have hle : (es.eraseIdxIfInBounds j).toList = es.toList.eraseIdx j := by
    unfold Array.eraseIdxIfInBounds
    rw [dif_pos hjl, Array.toList_eraseIdx]
  refine ⟨setObjAt w r (.map (es.eraseIdxIfInBounds j) clock), fun ty => ?_, Keeps.ofSet _ _ _, by simp [setObjAt], (es.toList.eraseIdx j).map (fun e => (e.key, e.val)), ?_, ?_⟩
  · simp [Builtin.delete_, run_underlying hT, MapKept.run_getObj_map hb, MapKept.run_checkKey hK hkk, MapKept.run_findKey hK h1, MapKept.run_setObj_map _ hb, Result.andThen]
    rfl
  · have h5 := (erase_perm (l := es.toList) (j := j) (e := e) (by simpa using hj)).map (fun e => (e.key, e.val))
    rw [List.map_cons, h3, h4] at h5
    exact h5
  · refine ⟨es.eraseIdxIfInBounds j, clock, by simp [setObjAt, hlt], stamped_erase hs _, fun x hx => ?_, by rw [hle]⟩
    rw [hle] at hx
    exact hk x ((List.eraseIdx_sublist _ _).subset hx)
end
end Go.Proofs.YtlcomdbkkfbjiaaGreatDoor
