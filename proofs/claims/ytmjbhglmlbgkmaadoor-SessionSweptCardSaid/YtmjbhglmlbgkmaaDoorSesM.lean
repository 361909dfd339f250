/- Sessions in memory: a look-up, a store, a deletion, the number. -/
import Derived.Test.YtmjbhglmlbgkmaaDoorSesP
import Derived.Test.YtmjbhglmlbgkmaaDoorMapR
import Derived.Test.YtmjbhglmlbgkmaaDoorTickG
import Derived.Test.YtmjbhglmlbgkmaaDoorRowOwn
namespace Go.Proofs.YtmjbhglmlbgkmaaDoor
open Go.RowKit Go.MapKept

def sesPair (p : Ses) : Value × Value := (.int .i64 p.n, p.t.val)
def DeskS (w : World) (b r : Nat) (next : Int) (L : List Ses) : Prop :=
  w.heap[b]? = some (.cells #[.int .i64 next, .map (some r)] 90 (0, 0)) ∧ ∃ l : List Ses, MapV (.int .i64) w r (l.map sesPair) ∧ l.Perm L
theorem bs_inj2 {a c : List UInt8} (h : bs a = bs c) : a = c := by rw [← bs_list a, h, bs_list]
theorem sesPair_inj {p q : Ses} (h : sesPair p = sesPair q) : p = q := by
  obtain ⟨pn, p1, p2, p3, p4, p5, p6⟩ := p
  obtain ⟨qn, q1, q2, q3, q4, q5, q6⟩ := q
  simp only [sesPair, Tick.val, Prod.mk.injEq, Value.int.injEq, Value.agg.injEq, Array.mk.injEq, List.cons.injEq, Value.string.injEq, and_true, true_and] at h
  obtain ⟨h0, h1, h2, h3, h4, h5, h6⟩ := h
  have h1 := bs_inj2 h1
  have h2 := bs_inj2 h2
  subst h0 h1 h2 h3 h4 h5 h6
  rfl
theorem perm_map_back {f : Ses → Value × Value} {l1 : List (Value × Value)} {l : List Ses} (h : l1.Perm (l.map f)) : ∃ l3 : List Ses, l3.map f = l1 ∧ l3.Perm l := by
  induction l generalizing l1 with
  | nil => exact ⟨[], by simpa using h.eq_nil.symm, List.Perm.refl _⟩
  | cons a l ih =>
    have hm : f a ∈ l1 := h.mem_iff.2 (by simp)
    obtain ⟨u, v, rfl⟩ := List.append_of_mem hm
    have h1 : (u ++ v).Perm (l.map f) := ((List.perm_middle.symm.trans h)).cons_inv
    obtain ⟨l3, e, h3⟩ := ih h1
    obtain ⟨a3, b3, rfl, rfl, rfl⟩ := List.map_eq_append_iff.1 e
    exact ⟨a3 ++ a :: b3, by simp, List.perm_middle.trans (h3.cons a)⟩
section
variable {w w' : World} {b r : Nat} {next n0 : Int} {L : List Ses}
theorem DeskS.ne (h : DeskS w b r next L) : b ≠ r := by
  rintro rfl
  obtain ⟨h1, l, ⟨es, c, h2, _⟩, _⟩ := h
  rw [h1] at h2
  cases h2
theorem DeskS.at0 (h : DeskS w b r next L) : w.cell? ⟨b, 0, none⟩ = some (.int .i64 next) ∧ w.frozen? ⟨b, 0, none⟩ = false := ⟨by rw [cell_of_row _ _ _ _ _ _ h.1]; rfl, frozen_of_row _ _ _ _ _ h.1⟩
theorem DeskS.at1 (h : DeskS w b r next L) : w.cell? ⟨b, 1, none⟩ = some (.map (some r)) := by rw [cell_of_row _ _ _ _ _ _ h.1]; rfl
theorem DeskS.keeps {S : Nat → Prop} (h : DeskS w b r next L) (hk : Keeps S w w') (h1 : ¬ S b) (h2 : ¬ S r) : DeskS w' b r next L := by
  obtain ⟨hb, l, hm, hp⟩ := h
  exact ⟨hk.obj hb h1, l, hm.keeps hk h2, hp⟩
theorem DeskS.below (h : DeskS w b r next L) (hb : Below w.heap.size w w') : DeskS w' b r next L := h.keeps (S := fun _ => False) (Keeps.of_below hb) (fun h => h) (fun h => h)
theorem DeskS.lt (h : DeskS w b r next L) : b < w.heap.size ∧ r < w.heap.size := by
  obtain ⟨hb, l, hm, _⟩ := h
  exact ⟨(Array.getElem?_eq_some_iff.1 hb).1, hm.lt⟩
theorem DeskS.set0 (h : DeskS w b r next L) (n : Int) : DeskS (w.setCell ⟨b, 0, none⟩ (.int .i64 n)) b r n L := by
  have hne := h.ne
  obtain ⟨hb, l, hm, hp⟩ := h
  exact ⟨heap_setCell_same w b 0 _ _ _ hb, l, hm.keeps (keeps_setCell (S := (· = b)) _ _ _ rfl) (fun e => hne e.symm), hp⟩
theorem DeskS.lookup_some (h : DeskS w b r next L) {n : Int} {p : Ses} (hf : findS L n = some p) :
    (Instr.lookup 88 (.map (some r)) (.int .i64 n) true).run Tryd.prog w = .ok (.tuple #[p.t.val, .bool true]) w := by
  obtain ⟨hb, l, hm, hp⟩ := h
  obtain ⟨h1, h2⟩ := findS_some hf
  refine (run_lookup_mem (k := .int .i64 n) Tryd.underlying88 Tryd.underlying3 hm rfl (List.mem_map.2 ⟨p, hp.mem_iff.2 h1, ?_⟩)).1
  unfold sesPair
  rw [h2]
theorem not_mem_ses {l : List Ses} (hp : l.Perm L) {n : Int} (hf : findS L n = none) (v : Value) : (Value.int .i64 n, v) ∉ l.map sesPair := by
  intro hm
  obtain ⟨q, hq, he⟩ := List.mem_map.1 hm
  have h1 := congrArg Prod.fst he
  simp only [sesPair] at h1
  injection h1 with _ h1
  exact findS_none hf q (hp.mem_iff.1 hq) h1
theorem DeskS.lookup_none (h : DeskS w b r next L) {n : Int} (hf : findS L n = none) :
    (Instr.lookup 88 (.map (some r)) (.int .i64 n) true).run Tryd.prog w = .ok (.tuple #[noTick.val, .bool false]) w := by
  obtain ⟨hb, l, hm, hp⟩ := h
  exact run_lookup_not (k := .int .i64 n) Tryd.underlying88 Tryd.underlying3 hm rfl (not_mem_ses hp hf) (by kernel_rfl)
theorem DeskS.update (h : DeskS w b r next L) (hG : ∀ p ∈ L, p.n ≠ n0) (t : Tick) :
    ∃ w', (Instr.mapUpdate 88 (.map (some r)) (.int .i64 n0) t.val).run Tryd.prog w = .ok () w' ∧ Keeps (· = r) w w' ∧ DeskS w' b r next (L ++ [⟨n0, t⟩]) := by
  have hne := h.ne
  obtain ⟨hb, l, hm, hp⟩ := h
  obtain ⟨w', hu, hk, _, hm'⟩ := run_update_not (u := t.val) Tryd.underlying88 Tryd.underlying3 hm (k := .int .i64 n0) rfl (fun v hv => by
    obtain ⟨q, hq, he⟩ := List.mem_map.1 hv
    have h1 := congrArg Prod.fst he
    simp only [sesPair] at h1
    injection h1 with _ h1
    exact hG q (hp.mem_iff.1 hq) h1)
  refine ⟨w', hu, hk, hk.obj hb hne, l ++ [⟨n0, t⟩], ?_, hp.append_right _⟩
  rw [List.map_append]
  exact hm'
/-- What is sorted without one of its own. -/
theorem perm_without (hs : SortedS L) {p : Ses} (hp : p ∈ L) : L.Perm (p :: L.filter fun q => !(q.n == p.n)) := by
  induction L with
  | nil => cases hp
  | cons a L ih =>
    have hs' := List.pairwise_cons.1 hs
    rcases List.mem_cons.1 hp with rfl | hp
    · have h3 : L.filter (fun q => !(q.n == p.n)) = L := List.filter_eq_self.2 fun q hq => by
        have := hs'.1 q hq
        have : q.n ≠ p.n := by omega
        simpa using this
      rw [List.filter_cons_of_neg (by simp), h3]
    · have := hs'.1 p hp
      have h3 : a.n ≠ p.n := by omega
      rw [List.filter_cons_of_pos (by simpa using h3)]
      exact ((ih hs'.2 hp).cons a).trans (List.Perm.swap p a _)
theorem DeskS.delete (h : DeskS w b r next L) (hs : SortedS L) {p : Ses} (hp : p ∈ L) :
    ∃ w', (∀ ty, (Builtin.delete_ #[88, 3] ty #[.map (some r), .int .i64 p.n]).run Tryd.prog w = .ok (.tuple #[]) w') ∧ Keeps (· = r) w w' ∧ DeskS w' b r next (L.filter fun q => !(q.n == p.n)) := by
  have hne := h.ne
  obtain ⟨hb, l, hm, hpm⟩ := h
  obtain ⟨w', hu, hk, _, l', hl, hm'⟩ := run_delete_mem (k := .int .i64 p.n) (v := p.t.val) Tryd.underlying88 Tryd.underlying3 hm rfl (List.mem_map.2 ⟨p, hpm.mem_iff.2 hp, rfl⟩)
  refine ⟨w', hu, hk, hk.obj hb hne, ?_⟩
  obtain ⟨l2, e2, h2⟩ : ∃ l2 : List Ses, l2.map sesPair = l' ∧ (p :: l2).Perm l := by
    have h5 : (sesPair p :: l').Perm (l.map sesPair) := hl.symm
    obtain ⟨l3, h6, h7⟩ := perm_map_back h5
    match l3, h6 with
    | q :: l4, h6 =>
      rw [List.map_cons] at h6
      injection h6 with h8 h9
      rw [sesPair_inj h8] at h7
      exact ⟨l4, h9, h7⟩
  refine ⟨l2, by rw [e2]; exact hm', ?_⟩
  exact ((h2.trans hpm).trans (perm_without hs hp)).cons_inv
theorem DeskS.len (h : DeskS w b r next L) : ∃ es c, w.heap[r]? = some (.map es c) ∧ es.size = L.length := by
  obtain ⟨_, l, ⟨es, c, hb, _, _, hl⟩, hp⟩ := h
  refine ⟨es, c, hb, ?_⟩
  have h1 := hp.length_eq
  have h2 := congrArg List.length hl
  simp at h1 h2
  omega
theorem DeskS.run_len (h : DeskS w b r next L) :
    (Builtin.len_ #[88] 3 #[.map (some r)]).run Tryd.prog w = .ok (.int .i64 L.length) w := by
  obtain ⟨es, c, h1, h2⟩ := h.len
  rw [← h2]
  simp [Builtin.len_, MapKept.run_getObj_map h1, run_underlying Tryd.underlying88, Result.andThen, go_sem]
end
end Go.Proofs.YtmjbhglmlbgkmaaDoor
