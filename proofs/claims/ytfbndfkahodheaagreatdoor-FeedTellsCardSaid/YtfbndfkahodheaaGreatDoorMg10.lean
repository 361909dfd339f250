/- FloArg, FloR, FedM, FedW -/
import Derived.Test.YtfbndfkahodheaaGreatDoorMg4
import Derived.Test.YtfbndfkahodheaaGreatDoorMg9
import Derived.ProofKit
import Derived.Laws.IdiomCopy
import Derived.Test.YtfbndfkahodheaaGreatDoorMg8
import Derived.Deep.LoopGhost
/- Floors that came in. -/
namespace Go.Proofs.YtfbndfkahodheaaGreatDoor
open Go.ChangeShapes Go.WideShapes Go.ChangeAt Go.RowKit Go.ChangeMaps Go.Deep

theorem two_of {α : Type} {l : List α} (h : l.length = 2) : ∃ a b, l = [a, b] := by
  match l, h with
  | [a, b], _ => exact ⟨a, b, rfl⟩
set_option maxRecDepth 100000 in
theorem flo_cells {H : Type} {enc : TypeId × Value → H} {W : World} {base : Nat} {spare : Nat → Bool} {held : Bool} {n : Nat} {cs : List Value} {y : DataW H × List MemPlace}
    (h : DataW.trod enc Tryz.prog W base spare held n 24 cs = some y) : ∃ p : Flo, cs = [.string (bs p.who), .int .i64 p.ep] ∧ p.who.length ≤ maxLen := by
  have hC : Tryz.prog.cellsOf 24 = 2 := by kernel_rfl
  have h1 : Tryz.prog.cellsOf 9 = 1 := by kernel_rfl
  have h2 : Tryz.prog.cellsOf 3 = 1 := by kernel_rfl
  obtain ⟨hcl, m, hf⟩ := struct_fields Tryz.underlying24 h
  obtain ⟨k0, k1, rfl⟩ := two_of (hcl.trans hC)
  obtain ⟨_, z0⟩ := hf 0 _ rfl
  obtain ⟨_, z1⟩ := hf 1 _ rfl
  have z0 := field_one z0 h1 (v := k0) rfl
  have z1 := field_one z1 h2 (v := k1) rfl
  obtain ⟨s0, rfl, l0⟩ := read_string Tryz.underlying9 z0
  obtain ⟨x1, rfl, _⟩ := read_int Tryz.underlying3 z1
  exact ⟨⟨s0, x1⟩, rfl, l0⟩
set_option maxRecDepth 100000 in
theorem flo_arg {H : Type} {enc : TypeId × Value → H} {W : World} {b0 base : Nat} {spare : Nat → Bool} {held : Bool} {v : Value} {d : DataW H} {p : List MemPlace}
    (hv : Value.okWide Tryz.prog W .any b0 24 v) (h : DataW.Trod enc Tryz.prog W base spare held 24 v d p) : ∃ t : Flo, v = t.val ∧ t.who.length ≤ maxLen := by
  obtain ⟨cs, rfl, _⟩ := okWide_struct Tryz.underlying24 hv
  obtain ⟨fuel, hf⟩ := h
  obtain ⟨t, ht, hl⟩ := flo_cells hf
  have ht : cs = #[.string (bs t.who), .int .i64 t.ep] := Array.toList_inj.1 ht
  subst ht
  exact ⟨t, rfl, hl⟩
theorem slice_cap {H : Type} {enc : TypeId × Value → H} {P : Program} {w : World} {base : Nat} {spare : Nat → Bool} {held : Bool} {t e : TypeId} {fuel : Nat} {a : Option Addr} {len cap : Nat} {x : DataW H × List MemPlace} (ht : P.underlying t = some (.slice e)) (h : DataW.trod enc P w base spare held fuel t [.slice a len cap] = some x) : len ≤ cap := by
  rcases open_slice ht h with h0 | ⟨a', len', cap', m, n, D, Pl, hcs, _, hl, hm, hmm, _, hi⟩
  · cases h0.1
    exact Nat.le_refl _
  · cases hcs
    exact hl
set_option maxRecDepth 100000 in
theorem flos_of {H : Type} {enc : TypeId × Value → H} {W : World} {base : Nat} {spare : Nat → Bool} {held : Bool} {fuel : Nat} {a : Option Addr} {len cap : Nat} {x : DataW H × List MemPlace} 
    (h : DataW.trod enc Tryz.prog W base spare held fuel 40 [.slice a len cap] = some x) : ∃ A, FloorsAt W (.slice a len cap) A ∧ ∀ f ∈ A, f.who.length ≤ maxLen := by
  have hcap := slice_cap Tryz.underlying40 h
  rcases slice_cells Tryz.underlying40 h with h0 | ⟨a', len', cap', n, hcs, hm, hi⟩
  · cases h0
    exact ⟨[], ⟨none, 0, rfl, Nat.zero_le _, Nat.zero_le _, fun i hi => by cases hi⟩, fun f hf => by cases hf⟩
  · cases hcs
    have hC : Tryz.prog.cellsOf 24 = 2 := by kernel_rfl
    rw [hC] at hi
    obtain ⟨A, hl, hA⟩ := list_of (p := fun i (q : Flo) => (i = 0 → a' = ⟨a'.block, a'.off, none⟩) ∧ W.cell? ⟨a'.block, a'.off + i * 2, none⟩ = some (.string (bs q.who)) ∧ W.cell? ⟨a'.block, a'.off + i * 2 + 1, none⟩ = some (.int .i64 q.ep) ∧ q.who.length ≤ maxLen) len (fun i hil => by
      obtain ⟨cs, y, hcl, hat, ha, ht⟩ := hi i hil
      obtain ⟨q, rfl, hq⟩ := flo_cells ht
      exact ⟨q, fun h0 => ha 0 (by decide) (by rw [h0]), by simpa using hat 0 (by decide), by simpa [Nat.add_assoc] using hat 1 (by decide), hq⟩)
    subst hl
    refine ⟨A, ⟨some a', cap, rfl, hm, hcap, fun i hil => ?_⟩, fun f hf => ?_⟩
    · exact ⟨a'.block, a'.off, congrArg some ((hA 0 (Nat.lt_of_le_of_lt (Nat.zero_le _) hil)).1 rfl), (hA i hil).2.1, (hA i hil).2.2.1⟩
    · obtain ⟨i, hi2, rfl⟩ := List.getElem_of_mem hf
      exact (hA i hi2).2.2.2
end Go.Proofs.YtfbndfkahodheaaGreatDoor

/- Rows of floors of one's own in memory: no walk. -/
namespace Go.Proofs.YtfbndfkahodheaaGreatDoor
open Go.RowKit

def flatF : List Flo → List Value
  | [] => []
  | f :: L => f.cells ++ flatF L
theorem flatF_append : ∀ L M, flatF (L ++ M) = flatF L ++ flatF M
  | [], _ => rfl
  | p :: L, M => by simp only [List.cons_append, flatF, flatF_append L M, List.append_assoc]
theorem flatF_len : ∀ L : List Flo, (flatF L).length = L.length * 2
  | [] => rfl
  | p :: L => by simp [flatF, Flo.cells, flatF_len L]; omega
theorem flatF_get : ∀ (L : List Flo) (i : Nat) (h : i < L.length), (flatF L)[i * 2]? = some (.string (bs L[i].who)) ∧ (flatF L)[i * 2 + 1]? = some (.int .i64 L[i].ep)
  | p :: L, 0, _ => by simp [flatF, Flo.cells]
  | p :: L, i + 1, h => by
    have := flatF_get L i (by simpa using h)
    simp only [flatF, Flo.cells, List.getElem_cons_succ]
    rw [show (i + 1) * 2 = i * 2 + 2 by omega, show i * 2 + 2 + 1 = i * 2 + 1 + 2 by omega]
    simpa using this
theorem flatF_take : ∀ (L : List Flo) (k : Nat), flatF (L.take k) = (flatF L).take (k * 2)
  | [], _ => by simp [flatF]
  | p :: L, 0 => by simp [flatF]
  | p :: L, k + 1 => by
    rw [show (k + 1) * 2 = k * 2 + 2 by omega]
    simp [flatF, Flo.cells, flatF_take L k]
theorem flatF_drop : ∀ (L : List Flo) (k : Nat), flatF (L.drop k) = (flatF L).drop (k * 2)
  | [], _ => by simp [flatF]
  | p :: L, 0 => by simp [flatF]
  | p :: L, k + 1 => by
    rw [show (k + 1) * 2 = k * 2 + 2 by omega]
    simp [flatF, Flo.cells, flatF_drop L k]
theorem flatF_set : ∀ (L : List Flo) (k : Nat) (f : Flo), k < L.length → ((flatF L).set (k * 2) (.string (bs f.who))).set (k * 2 + 1) (.int .i64 f.ep) = flatF (L.set k f)
  | p :: L, 0, f, _ => by simp [flatF, Flo.cells]
  | p :: L, k + 1, f, h => by
    have h1 := flatF_set L k f (by simpa using h)
    rw [show (k + 1) * 2 + 1 = k * 2 + 1 + 2 by omega, show (k + 1) * 2 = k * 2 + 2 by omega]
    simp [flatF, Flo.cells, h1]
theorem flatF_one (L : List Flo) : ∀ u ∈ flatF L, u.oneCell' = true := by
  induction L with
  | nil => intro u hu; cases hu
  | cons p L ih =>
    intro u hu
    simp only [flatF, Flo.cells, List.cons_append, List.nil_append, List.mem_cons] at hu
    rcases hu with rfl | rfl | hu
    all_goals first | rfl | exact ih u hu
/-- A row of floors of one's own. -/
def FlRow (w : World) (base : Nat) (v : Value) (L : List Flo) : Prop := w.ownsRow base 24 2 v L.length (flatF L)
theorem FlRow.below {w w' : World} {base : Nat} {v : Value} {L : List Flo} (h : FlRow w base v L) (hb : Below w.heap.size w w') : FlRow w' base v L :=
  ownsRow_keeps h (Keeps.of_below hb) (fun _ _ h => h)
theorem FlRow.mono {w : World} {base base' : Nat} {v : Value} {L : List Flo} (h : FlRow w base v L) (hb : base' ≤ base) : FlRow w base' v L := ownsRow_mono h hb
/-- What a row of floors is: nil, or a block. -/
theorem FlRow.shape {w : World} {base : Nat} {v : Value} {L : List Flo} (h : FlRow w base v L) :
    (v = .slice none 0 0 ∧ L = []) ∨ ∃ g cap cur, v = .slice (some ⟨g, 0, none⟩) L.length cap ∧ base ≤ g ∧ w.heap[g]? = some (.cells cur 24 (0, 0)) ∧ L.length ≤ cap ∧ cap ≤ maxLen ∧ cur.size = cap * 2 ∧ cur.toList.take (L.length * 2) = flatF L := by
  obtain ⟨_, ⟨rfl, hn⟩ | h⟩ := h
  · exact .inl ⟨rfl, List.eq_nil_of_length_eq_zero hn⟩
  · exact .inr h
theorem FlRow.cells {w : World} {base g cap : Nat} {L : List Flo} (h : FlRow w base (.slice (some ⟨g, 0, none⟩) L.length cap) L) :
    ∀ i u, (flatF L)[i]? = some u → w.cell? ⟨g, i, none⟩ = some u := by
  rcases h.shape with ⟨h1, _⟩ | ⟨g', cap', cur, he, hb, hg, hc, hm, hsz, ht⟩
  · cases h1
  · cases he
    intro i u hu
    have hi : i < L.length * 2 := by
      have := (List.getElem?_eq_some_iff.1 hu).1
      rw [flatF_len] at this
      omega
    rw [cell_of_row w g i _ _ _ hg]
    rw [← ht, List.getElem?_take, if_pos hi] at hu
    simpa using hu
theorem FlRow.frozen {w : World} {base g cap : Nat} {L : List Flo} (h : FlRow w base (.slice (some ⟨g, 0, none⟩) L.length cap) L) (i : Nat) : w.frozen? ⟨g, i, none⟩ = false := by
  rcases h.shape with ⟨h1, _⟩ | ⟨g', cap', cur, he, hb, hg, hc, hm, hsz, ht⟩
  · cases h1
  · cases he
    exact frozen_of_row _ _ _ _ _ hg
theorem FlRow.at_ {w : World} {base : Nat} {v : Value} {L : List Flo} (h : FlRow w base v L) (hL : L.length ≤ maxLen) : FloorsAt w v L := by
  rcases h.shape with ⟨rfl, rfl⟩ | ⟨g, cap, cur, rfl, hb, hg, hc, hm, hsz, ht⟩
  · exact ⟨none, 0, rfl, Nat.zero_le _, Nat.zero_le _, fun i hi => by cases hi⟩
  · refine ⟨_, _, rfl, hL, hc, fun i hi => ⟨g, 0, rfl, ?_⟩⟩
    obtain ⟨h0, h1⟩ := flatF_get L i hi
    rw [Nat.zero_add]
    exact ⟨h.cells _ _ h0, h.cells _ _ h1⟩
/-- A floor written into a row. -/
theorem FlRow.set {w : World} {base g cap : Nat} {L : List Flo} (h : FlRow w base (.slice (some ⟨g, 0, none⟩) L.length cap) L) {k : Nat} (hk : k < L.length) (f : Flo) :
    FlRow ((w.setCell ⟨g, k * 2, none⟩ (.string (bs f.who))).setCell ⟨g, k * 2 + 1, none⟩ (.int .i64 f.ep)) base (.slice (some ⟨g, 0, none⟩) L.length cap) (L.set k f) := by
  have h1 := ownsRow_setCell (ownsRow_setCell h (k * 2) (.string (bs f.who))) (k * 2 + 1) (.int .i64 f.ep)
  rw [flatF_set L k f hk] at h1
  unfold FlRow
  rw [List.length_set]
  exact h1
/-- The first k of a row. -/
theorem FlRow.take {w : World} {base g cap : Nat} {L : List Flo} (h : FlRow w base (.slice (some ⟨g, 0, none⟩) L.length cap) L) {k : Nat} (hk : k ≤ L.length) :
    FlRow w base (.slice (some ⟨g, 0, none⟩) k cap) (L.take k) := by
  rcases h.shape with ⟨h1, _⟩ | ⟨g', cap', cur, he, hb, hg, hc, hm, hsz, ht⟩
  · cases h1
  · cases he
    have hl : (L.take k).length = k := by rw [List.length_take]; omega
    unfold FlRow
    rw [hl]
    refine ⟨by rw [flatF_len, hl], .inr ⟨g, cap, cur, rfl, hb, hg, by omega, hm, hsz, ?_⟩⟩
    rw [flatF_take, ← ht, List.take_take, Nat.min_eq_left (by omega)]
theorem keeps_of_floors {S : Nat → Prop} {w w' : World} {v : Value} {L : List Flo} (h : FloorsAt w v L) (hk : Keeps S w w') (hs : ∀ b, v.ownBlock = some b → ¬ S b) : FloorsAt w' v L := by
  obtain ⟨a, c, rfl, h2, h3, h4⟩ := h
  refine ⟨a, c, rfl, h2, h3, fun i hi => ?_⟩
  obtain ⟨b, o, rfl, h5, h6⟩ := h4 i hi
  have hb : ¬ S b := hs b rfl
  exact ⟨b, o, rfl, hk.cell h5 hb, hk.cell h6 hb⟩
end Go.Proofs.YtfbndfkahodheaaGreatDoor

/- Entries of a feed in memory, and those that came in: no walk. -/
namespace Go.Proofs.YtfbndfkahodheaaGreatDoor
open Go.ChangeShapes Go.WideShapes Go.ChangeAt Go.RowKit Go.ChangeMaps Go.Deep

def Ent.val (e : Ent) : Value := .agg #[.int .i64 e.seq, .int .i64 e.time, .string (bs e.f.who), .int .i64 e.f.ep]
/-- An entry's cells. -/
def entC : Cells Ent where
  k := 4
  pos := by decide
  f := fun e => [.int .i64 e.seq, .int .i64 e.time, .string (bs e.f.who), .int .i64 e.f.ep]
  len := fun _ => rfl
  one := fun e u hu => by
    simp only [List.mem_cons, List.mem_nil_iff, or_false] at hu
    rcases hu with rfl | rfl | rfl | rfl <;> rfl
/-- Floors' cells, likewise. -/
def floC : Cells Flo where
  k := 2
  pos := by decide
  f := Flo.cells
  len := fun _ => rfl
  one := fun e u hu => by
    simp only [Flo.cells, List.mem_cons, List.mem_nil_iff, or_false] at hu
    rcases hu with rfl | rfl <;> rfl
theorem flatF_G : ∀ L, flatF L = flatG floC L
  | [] => rfl
  | f :: L => by
    show Flo.cells f ++ flatF L = floC.f f ++ flatG floC L
    rw [flatF_G L]
    rfl
theorem floRow_G {w : World} {base : Nat} {v : Value} {L : List Flo} : FlRow w base v L ↔ RowG floC w base 24 v L := by
  unfold FlRow RowG
  rw [flatF_G]
  exact Iff.rfl
theorem floorsAt_of {w : World} {v : Value} {L : List Flo} (h : AtG floC w v L) : FloorsAt w v L := by
  obtain ⟨a, c, h1, h2, h3, _, h5⟩ := h
  refine ⟨a, c, h1, h2, h3, fun i hi => ?_⟩
  obtain ⟨b, o, h6, h7⟩ := h5 i hi
  exact ⟨b, o, h6, h7 0 _ rfl, h7 1 _ rfl⟩
def EntsAt (w : World) (v : Value) (L : List Ent) : Prop := AtG entC w v L
def EntRow (w : World) (base : Nat) (v : Value) (L : List Ent) : Prop := RowG entC w base 102 v L
theorem info_ent : (Tryz.prog.info? 102).map (fun i => (i.zero, i.size, i.bytes)) = some (some (.agg #[.int .i64 0, .int .i64 0, .string ⟨#[]⟩, .int .i64 0]), entC.k, 40) := by kernel_rfl
theorem EntsAt.below {w w' : World} {v : Value} {L : List Ent} (h : EntsAt w v L) (hb : Below w.heap.size w w') : EntsAt w' v L := AtG.below h hb
theorem EntRow.at_ {w : World} {base : Nat} {v : Value} {L : List Ent} (h : EntRow w base v L) : EntsAt w v L := RowG.at_ h
/-- Its cells, one by one. -/
theorem EntsAt.get {w : World} {v : Value} {L : List Ent} (h : EntsAt w v L) : ∃ a c, v = .slice a L.length c ∧ L.length ≤ maxLen ∧ L.length ≤ c ∧ ∀ i (h : i < L.length), ∃ b o, a = some ⟨b, o, none⟩ ∧
    w.cell? ⟨b, o + i * 4, none⟩ = some (.int .i64 L[i].seq) ∧ w.cell? ⟨b, o + i * 4 + 1, none⟩ = some (.int .i64 L[i].time) ∧ w.cell? ⟨b, o + i * 4 + 2, none⟩ = some (.string (bs L[i].f.who)) ∧ w.cell? ⟨b, o + i * 4 + 3, none⟩ = some (.int .i64 L[i].f.ep) := by
  obtain ⟨a, c, h1, h2, h3, _, h5⟩ := h
  refine ⟨a, c, h1, h2, h3, fun i hi => ?_⟩
  obtain ⟨b, o, h6, h7⟩ := h5 i hi
  exact ⟨b, o, h6, h7 0 _ rfl, h7 1 _ rfl, h7 2 _ rfl, h7 3 _ rfl⟩
theorem EntsAt.sl {w : World} {v : Value} {L : List Ent} (h : EntsAt w v L) : ∃ a c, v = .slice a L.length c := AtG.sl h
theorem EntsAt.len {w : World} {v : Value} {L : List Ent} (h : EntsAt w v L) : L.length ≤ maxLen := AtG.len h

/-! What came in. -/
theorem three_of {α : Type} {l : List α} (h : l.length = 3) : ∃ a b c, l = [a, b, c] := by
  match l, h with
  | [a, b, c], _ => exact ⟨a, b, c, rfl⟩
set_option maxRecDepth 100000 in
theorem ent_cells {H : Type} {enc : TypeId × Value → H} {W : World} {base : Nat} {spare : Nat → Bool} {held : Bool} {n : Nat} {cs : List Value} {y : DataW H × List MemPlace}
    (h : DataW.trod enc Tryz.prog W base spare held n 102 cs = some y) : ∃ p : Ent, cs = entC.f p ∧ p.f.who.length ≤ maxLen := by
  have hC : Tryz.prog.cellsOf 102 = 4 := by kernel_rfl
  have h1 : Tryz.prog.cellsOf 3 = 1 := by kernel_rfl
  have h2 : Tryz.prog.cellsOf 24 = 2 := by kernel_rfl
  obtain ⟨hcl, m, hf⟩ := struct_fields Tryz.underlying102 h
  obtain ⟨k0, k1, k2, k3, rfl⟩ := four_of (hcl.trans hC)
  obtain ⟨_, z0⟩ := hf 0 _ rfl
  obtain ⟨_, z1⟩ := hf 1 _ rfl
  obtain ⟨_, z2⟩ := hf 2 _ rfl
  have z0 := field_one z0 h1 (v := k0) rfl
  have z1 := field_one z1 h1 (v := k1) rfl
  obtain ⟨x0, rfl, _⟩ := read_int Tryz.underlying3 z0
  obtain ⟨x1, rfl, _⟩ := read_int Tryz.underlying3 z1
  obtain ⟨f, hf2, hl⟩ := flo_cells z2
  have hf3 : [k2, k3] = [.string (bs f.who), .int .i64 f.ep] := hf2
  simp only [List.cons.injEq, and_true] at hf3
  obtain ⟨rfl, rfl⟩ := hf3
  exact ⟨⟨x0, x1, f⟩, rfl, hl⟩
set_option maxRecDepth 100000 in
theorem ents_of {H : Type} {enc : TypeId × Value → H} {W : World} {base : Nat} {spare : Nat → Bool} {held : Bool} {fuel : Nat} {a : Option Addr} {len cap : Nat} {x : DataW H × List MemPlace}
    (h : DataW.trod enc Tryz.prog W base spare held fuel 22 [.slice a len cap] = some x) : ∃ A, EntsAt W (.slice a len cap) A ∧ ∀ e ∈ A, e.f.who.length ≤ maxLen := by
  have hcap := slice_cap Tryz.underlying22 h
  rcases slice_cells Tryz.underlying22 h with h0 | ⟨a', len', cap', n, hcs, hm, hi⟩
  · cases h0
    exact ⟨[], AtG.nil _, fun f hf => by cases hf⟩
  · cases hcs
    have hC : Tryz.prog.cellsOf 102 = 4 := by kernel_rfl
    rw [hC] at hi
    obtain ⟨A, hl, hA⟩ := list_of (p := fun i (q : Ent) => (i = 0 → a' = ⟨a'.block, a'.off, none⟩) ∧ (∀ j u, (entC.f q)[j]? = some u → W.cell? ⟨a'.block, a'.off + i * 4 + j, none⟩ = some u) ∧ q.f.who.length ≤ maxLen) len (fun i hil => by
      obtain ⟨cs, y, hcl, hat, ha, ht⟩ := hi i hil
      obtain ⟨q, rfl, hq⟩ := ent_cells ht
      refine ⟨q, fun h0 => ha 0 (by decide) (by rw [h0]), fun j u hu => ?_, hq⟩
      have hj : j < 4 := (List.getElem?_eq_some_iff.1 hu).1
      have := hat j hj
      rw [hu] at this
      simpa [Nat.add_assoc] using this)
    subst hl
    refine ⟨A, ⟨some a', cap, rfl, hm, hcap, (fun e => by cases e), fun i hil => ⟨a'.block, a'.off, congrArg some ((hA 0 (Nat.lt_of_le_of_lt (Nat.zero_le _) hil)).1 rfl), (hA i hil).2.1⟩⟩, fun f hf => ?_⟩
    obtain ⟨i, hi2, rfl⟩ := List.getElem_of_mem hf
    exact (hA i hi2).2.2
end Go.Proofs.YtfbndfkahodheaaGreatDoor

/- Package feed: right, Check, Bare: walked. -/
namespace Go.Proofs.YtfbndfkahodheaaGreatDoor
open Go.RowKit

theorem ent_cases {was : Int} {i : Nat} {s t : Int} {who : List UInt8} {ep : Int} :
    (s ≠ (i : Int) + 1 ∧ entErr was i ⟨s, t, ⟨who, ep⟩⟩ = 15) ∨ (s = (i : Int) + 1 ∧ t < 0 ∧ entErr was i ⟨s, t, ⟨who, ep⟩⟩ = 2) ∨ (s = (i : Int) + 1 ∧ 0 ≤ t ∧ 1000000 < t ∧ entErr was i ⟨s, t, ⟨who, ep⟩⟩ = 2) ∨
    (s = (i : Int) + 1 ∧ 0 ≤ t ∧ t ≤ 1000000 ∧ t < was ∧ entErr was i ⟨s, t, ⟨who, ep⟩⟩ = 8) ∨ (s = (i : Int) + 1 ∧ 0 ≤ t ∧ t ≤ 1000000 ∧ was ≤ t ∧ entErr was i ⟨s, t, ⟨who, ep⟩⟩ = oneF ⟨who, ep⟩) := by
  unfold entErr
  dsimp only
  by_cases h1 : s = (i : Int) + 1
  · rw [if_neg (by simpa using h1)]
    by_cases h2 : t < 0
    · rw [if_pos (.inl h2)]; exact .inr (.inl ⟨h1, h2, rfl⟩)
    by_cases h3 : 1000000 < t
    · rw [if_pos (.inr h3)]; exact .inr (.inr (.inl ⟨h1, by omega, h3, rfl⟩))
    rw [if_neg (by omega)]
    by_cases h4 : t < was
    · rw [if_pos h4]; exact .inr (.inr (.inr (.inl ⟨h1, by omega, by omega, h4, rfl⟩)))
    · rw [if_neg h4]; exact .inr (.inr (.inr (.inr ⟨h1, by omega, by omega, by omega, rfl⟩)))
  · rw [if_pos h1]; exact .inl ⟨h1, rfl⟩
theorem one_cases {who : List UInt8} {ep : Int} :
    (who = starW ∧ ((1 ≤ ep ∧ ep ≤ 1073741824 ∧ oneF ⟨who, ep⟩ = 0) ∨ (ep < 1 ∧ oneF ⟨who, ep⟩ = 2) ∨ (1 ≤ ep ∧ 1073741824 < ep ∧ oneF ⟨who, ep⟩ = 2))) ∨
    (who ≠ starW ∧ ((isName who = false ∧ oneF ⟨who, ep⟩ = 4) ∨ (isName who = true ∧ ((1 ≤ ep ∧ ep ≤ 1073741824 ∧ oneF ⟨who, ep⟩ = 0) ∨ (ep < 1 ∧ oneF ⟨who, ep⟩ = 2) ∨ (1 ≤ ep ∧ 1073741824 < ep ∧ oneF ⟨who, ep⟩ = 2))))) := by
  unfold oneF
  dsimp only
  by_cases hs : who = starW
  · rw [if_neg (fun h => h.1 hs)]
    refine .inl ⟨hs, ?_⟩
    by_cases h1 : 1 ≤ ep
    · by_cases h2 : ep ≤ 1073741824
      · rw [if_pos ⟨h1, h2⟩]; exact .inl ⟨h1, h2, rfl⟩
      · rw [if_neg (fun h => h2 h.2)]; exact .inr (.inr ⟨h1, by omega, rfl⟩)
    · rw [if_neg (fun h => h1 h.1)]; exact .inr (.inl ⟨by omega, rfl⟩)
  · refine .inr ⟨hs, ?_⟩
    cases hn : isName who with
    | false => rw [if_pos ⟨hs, rfl⟩]; exact .inl ⟨rfl, rfl⟩
    | true =>
      rw [if_neg (fun h => by have := h.2; cases this)]
      refine .inr ⟨rfl, ?_⟩
      by_cases h1 : 1 ≤ ep
      · by_cases h2 : ep ≤ 1073741824
        · rw [if_pos ⟨h1, h2⟩]; exact .inl ⟨h1, h2, rfl⟩
        · rw [if_neg (fun h => h2 h.2)]; exact .inr (.inr ⟨h1, by omega, rfl⟩)
      · rw [if_neg (fun h => h1 h.1)]; exact .inr (.inl ⟨by omega, rfl⟩)
set_option maxHeartbeats 4000000 in
set_option maxRecDepth 100000 in
theorem right_ent {E : Nat → Addr} (v : Value) (L : List Ent) (i : Nat) (w : World) (hL : Laid E w) (hv : EntsAt w v L) (hi : i < L.length) (hm : (L.getD i noEnt).f.who.length ≤ maxLen) :
    Calls Tryz.prog 47 #[v, .int .i64 i] w fun e w' => e = .returned (errV E (errAtE L i)) ∧ Below w.heap.size w w' := by
  obtain ⟨a, c, rfl, hlen, _, hc⟩ := hv.get
  unfold maxLen at hlen
  obtain ⟨b, o, rfl, d0, d1, d2, d3⟩ := hc i hi
  have hat : errAtE L i = entErr (wasE L i) i L[i] := by unfold errAtE; rw [getD_get hi]
  rw [getD_get hi] at hm
  have hprev : i = 0 ∨ ∃ q, i = q + 1 ∧ w.cell? ⟨b, o + q * 4 + 1, none⟩ = some (.int .i64 (wasE L i)) := by
    cases i with
    | zero => exact .inl rfl
    | succ q =>
      refine .inr ⟨q, rfl, ?_⟩
      obtain ⟨b', o', hbo, _, p1, _⟩ := hc q (by omega)
      cases hbo
      rw [p1]
      unfold wasE
      rw [if_neg (by omega), Nat.add_sub_cancel, getD_get (by omega)]
  have hw0 : i = 0 → wasE L i = 0 := fun h => by unfold wasE; rw [if_pos h]
  generalize wasE L i = was at *
  obtain ⟨en, hen⟩ : ∃ en, L[i] = en := ⟨_, rfl⟩
  rw [hen] at d0 d1 d2 d3 hat hm
  obtain ⟨s, t, ⟨who, ep⟩⟩ := en
  dsimp only at d0 d1 d2 d3 hm
  clear hc hv hen
  have hB : Below w.heap.size w (w.alloc (.cells #[.int .i64 s, .int .i64 t, .string (bs who), .int .i64 ep] 102)) := (Below.refl _ _).alloc (Nat.le_refl _) _
  have hL1 := Lib.hid (hL.below hB)
  have hBH := Lib.hid hB
  have hLH := Lib.hid hL
  have hnm := Lib.hid (fun wx => name_any (bs who) wx (by rw [bs_size]; exact hm))
  have hk0 : (0 : Int) ≤ (i : Int) := by omega
  have hk1 : (i : Int) < (L.length : Int) := by omega
  clear hB hL
  rcases ent_cases (was := was) (i := i) (s := s) (t := t) (who := who) (ep := ep) with ⟨h1, he⟩ | ⟨h1, h2, he⟩ | ⟨h1, h2, h3, he⟩ | ⟨h1, h2, h3, h4, he⟩ | ⟨h1, h2, h3, h4, he⟩
  · have hr := Lib.hid (hat.trans he)
    have hb1 : (s != (i : Int) + 1) = true := bne_iff_ne.2 h1
    have hx := hL1.out.e15
    clear hat he h1 hw0 hprev
    go_enter Tryz.func47, Tryz.ntmps47
    go_wp2_with fail
    go_ret
    exact ⟨by rw [hr.out]; rfl, hBH.out⟩
  · have hr := Lib.hid (hat.trans he)
    have hb1 : (s != (i : Int) + 1) = false := by rw [h1]; exact bne_self_eq_false _
    have hx := hL1.out.e2
    clear hat he h1 hw0 hprev
    go_enter Tryz.func47, Tryz.ntmps47
    go_wp2_with fail
    go_ret
    exact ⟨by rw [hr.out]; rfl, hBH.out⟩
  · have hr := Lib.hid (hat.trans he)
    have hb1 : (s != (i : Int) + 1) = false := by rw [h1]; exact bne_self_eq_false _
    have hx := hL1.out.e2
    clear hat he h1 hw0 hprev
    go_enter Tryz.func47, Tryz.ntmps47
    go_wp2_with fail
    go_ret
    exact ⟨by rw [hr.out]; rfl, hBH.out⟩
  · have hr := Lib.hid (hat.trans he)
    have hb1 : (s != (i : Int) + 1) = false := by rw [h1]; exact bne_self_eq_false _
    rcases hprev with h0 | ⟨q, hq, p1⟩
    · have := hw0 h0; omega
    subst hq
    have hd0 := World.cell?_alloc_lt w (.cells #[.int .i64 s, .int .i64 t, .string (bs who), .int .i64 ep] 102) ⟨b, o + q * 4 + 1, none⟩ (World.block_lt_of_cell? w _ p1)
    have p1 := hd0.trans p1
    have hq0 : (0 : Int) ≤ (q : Int) := by omega
    have hq1 : (q : Int) < (L.length : Int) := by omega
    have hx := hL1.out.e8
    simp only [errV] at hx
    have hbd := Lib.hid (fun n => below_drawn hBH.out n)
    clear hat he h1 hw0 hd0
    go_enter Tryz.func47, Tryz.ntmps47
    go_wp2_with fail
    go_quiet (fail)
    go_wp2_with fail
    go_ret
    exact ⟨by rw [hr.out]; rfl, hbd.out _⟩
  have hb1 : (s != (i : Int) + 1) = false := by rw [h1]; exact bne_self_eq_false _
  have hat := Lib.hid (hat.trans he)
  have c0 : (w.alloc (.cells #[.int .i64 s, .int .i64 t, .string (bs who), .int .i64 ep] 102)).cell? ⟨w.heap.size, 1, none⟩ = some (.int .i64 t) := by simp
  have hbd := Lib.hid (fun n => below_drawn hBH.out n)
  have hbox3 := Lib.hid (fun n => (show ((w.alloc (.cells #[.int .i64 s, .int .i64 t, .string (bs who), .int .i64 ep] 102)).drewN n).cell? ⟨w.heap.size, 3, none⟩ = some (.int .i64 ep) by simp))
  clear he h1
  rcases hprev with h0 | ⟨q, hq, p1⟩
  · subst h0
    have hb1 : (s != (1 : Int)) = false := hb1
    simp only [Nat.zero_mul, Nat.add_zero] at d0 d1 d2 d3
    clear hw0 h4
    rcases one_cases (who := who) (ep := ep) with ⟨hs, x⟩ | ⟨hs, x⟩
    · have e1 : ((bs who).toList == [42]) = true := by rw [hs, toList_data]; rfl
      clear hs
      rcases x with ⟨x1, x2, x3⟩ | ⟨x1, x3⟩ | ⟨x1, x2, x3⟩
      all_goals
        have hr := Lib.hid (hat.out.trans x3)
        have hx := hL1.out.e2
        clear x3
        go_enter Tryz.func47, Tryz.ntmps47
        go_wp2_with fail
        go_quiet (fail)
        go_wp2_with fail
        go_ret
        exact ⟨by rw [hr.out]; rfl, hbd.out _⟩
    · have e1 : ((bs who).toList == [42]) = false := by rw [toList_data, bs_list, beq_eq_false_iff_ne]; exact hs
      have e2 : ((bs who).toList != [42]) = true := by rw [bne, e1]; rfl
      clear hs
      rcases x with ⟨ha, x3⟩ | ⟨ha, x⟩
      · have hr := Lib.hid (hat.out.trans x3)
        have ha2 := Lib.hid (show isName (bs who).data.toList = false from ha)
        clear ha x3
        go_enter Tryz.func47, Tryz.ntmps47
        go_wp2_with fail
        go_quiet (fail)
        go_wp2_with fail
        refine (hnm.out _).mono ?_
        rintro e w1 ⟨rfl, hb⟩
        rw [ha2.out]
        have hb := Lib.hid (below_trans (hbd.out _) hb)
        have hx := (hLH.out.below hb.out).e4
        clear c0
        go_wp2_with fail
        go_ret
        exact ⟨by rw [hr.out]; rfl, hb.out⟩
      · have ha2 := Lib.hid (show isName (bs who).data.toList = true from ha)
        clear ha
        rcases x with ⟨x1, x2, x3⟩ | ⟨x1, x3⟩ | ⟨x1, x2, x3⟩
        all_goals
          have hr := Lib.hid (hat.out.trans x3)
          clear x3
          go_enter Tryz.func47, Tryz.ntmps47
          go_wp2_with fail
          go_quiet (fail)
          go_wp2_with fail
          refine (hnm.out _).mono ?_
          rintro e w1 ⟨rfl, hb⟩
          rw [ha2.out]
          have c3 := cell_below hb (show _ = some (Value.int .i64 ep) from hbox3.out _)
          have hb := Lib.hid (below_trans (hbd.out _) hb)
          have hx := (hLH.out.below hb.out).e2
          clear c0
          go_wp2_with fail
          go_ret
          exact ⟨by rw [hr.out]; rfl, hb.out⟩
  · subst hq
    have hd0 := World.cell?_alloc_lt w (.cells #[.int .i64 s, .int .i64 t, .string (bs who), .int .i64 ep] 102) ⟨b, o + q * 4 + 1, none⟩ (World.block_lt_of_cell? w _ p1)
    have p1 := hd0.trans p1
    have hq0 : (0 : Int) ≤ (q : Int) := by omega
    have hq1 : (q : Int) < (L.length : Int) := by omega
    have h4b : ¬ t < was := by omega
    clear hw0 hd0
    rcases one_cases (who := who) (ep := ep) with ⟨hs, x⟩ | ⟨hs, x⟩
    · have e1 : ((bs who).toList == [42]) = true := by rw [hs, toList_data]; rfl
      clear hs
      rcases x with ⟨x1, x2, x3⟩ | ⟨x1, x3⟩ | ⟨x1, x2, x3⟩
      all_goals
        have hr := Lib.hid (hat.out.trans x3)
        have hx := hL1.out.e2
        clear x3
        go_enter Tryz.func47, Tryz.ntmps47
        go_wp2_with fail
        go_quiet (fail)
        go_wp2_with fail
        go_ret
        exact ⟨by rw [hr.out]; rfl, hbd.out _⟩
    · have e1 : ((bs who).toList == [42]) = false := by rw [toList_data, bs_list, beq_eq_false_iff_ne]; exact hs
      have e2 : ((bs who).toList != [42]) = true := by rw [bne, e1]; rfl
      clear hs
      rcases x with ⟨ha, x3⟩ | ⟨ha, x⟩
      · have hr := Lib.hid (hat.out.trans x3)
        have ha2 := Lib.hid (show isName (bs who).data.toList = false from ha)
        clear ha x3
        go_enter Tryz.func47, Tryz.ntmps47
        go_wp2_with fail
        go_quiet (fail)
        go_wp2_with fail
        refine (hnm.out _).mono ?_
        rintro e w1 ⟨rfl, hb⟩
        rw [ha2.out]
        have hb := Lib.hid (below_trans (hbd.out _) hb)
        have hx := (hLH.out.below hb.out).e4
        clear c0
        go_wp2_with fail
        go_ret
        exact ⟨by rw [hr.out]; rfl, hb.out⟩
      · have ha2 := Lib.hid (show isName (bs who).data.toList = true from ha)
        clear ha
        rcases x with ⟨x1, x2, x3⟩ | ⟨x1, x3⟩ | ⟨x1, x2, x3⟩
        all_goals
          have hr := Lib.hid (hat.out.trans x3)
          clear x3
          go_enter Tryz.func47, Tryz.ntmps47
          go_wp2_with fail
          go_quiet (fail)
          go_wp2_with fail
          refine (hnm.out _).mono ?_
          rintro e w1 ⟨rfl, hb⟩
          rw [ha2.out]
          have c3 := cell_below hb (show _ = some (Value.int .i64 ep) from hbox3.out _)
          have hb := Lib.hid (below_trans (hbd.out _) hb)
          have hx := (hLH.out.below hb.out).e2
          clear c0
          go_wp2_with fail
          go_ret
          exact ⟨by rw [hr.out]; rfl, hb.out⟩
end Go.Proofs.YtfbndfkahodheaaGreatDoor
