/- FloArg, FloR, FedM, RlmM, RlmB, CopyB, RlmT -/
import Derived.Test.YtkhphdkjnpcnnaaGreatDoorMg9
import Derived.ProofKit
import Derived.Test.YtkhphdkjnpcnnaaGreatDoorMg7
import Derived.Laws.IdiomCopy
import Derived.Test.YtkhphdkjnpcnnaaGreatDoorMg4
import Derived.Test.YtkhphdkjnpcnnaaGreatDoorMg8
import Derived.Test.YtkhphdkjnpcnnaaGreatDoorMg5
import Derived.Test.YtkhphdkjnpcnnaaGreatDoorShelf2
import Derived.Test.YtkhphdkjnpcnnaaGreatDoorMg6
/- Floors that came in. -/
namespace Go.Proofs.YtkhphdkjnpcnnaaGreatDoor set_option linter.unusedVariables false set_option linter.unusedSimpArgs false
open Go.ChangeShapes Go.WideShapes Go.ChangeAt Go.RowKit Go.ChangeMaps Go.Deep

theorem two_of {α : Type} {l : List α} (h : l.length = 2) : ∃ a b, l = [a, b] := by
  match l, h with
  | [a, b], _ => exact ⟨a, b, rfl⟩
set_option maxRecDepth 100000 in
theorem flo_cells {H : Type} {enc : TypeId × Value → H} {W : World} {base : Nat} {spare : Nat → Bool} {held : Bool} {n : Nat} {cs : List Value} {y : DataW H × List MemPlace}
    (h : DataW.trod enc Tryz.prog W base spare held n 113 cs = some y) : ∃ p : Flo, cs = [.string (bs p.who), .int .i64 p.ep] ∧ p.who.length ≤ maxLen := by
  have hC : Tryz.prog.cellsOf 113 = 2 := by kernel_rfl
  have h1 : Tryz.prog.cellsOf 9 = 1 := by kernel_rfl
  have h2 : Tryz.prog.cellsOf 3 = 1 := by kernel_rfl
  obtain ⟨hcl, m, hf⟩ := struct_fields Tryz.underlying113 h
  obtain ⟨k0, k1, rfl⟩ := two_of (hcl.trans hC)
  obtain ⟨_, z0⟩ := hf 0 _ rfl
  obtain ⟨_, z1⟩ := hf 1 _ rfl
  have z0 := field_one z0 h1 (v := k0) rfl
  have z1 := field_one z1 h2 (v := k1) rfl
  obtain ⟨s0, rfl, l0⟩ := read_string Tryz.underlying9 z0
  obtain ⟨x1, rfl, _⟩ := read_int Tryz.underlying3 z1
  exact ⟨⟨s0, x1⟩, rfl, l0⟩
set_option maxRecDepth 100000 in
theorem flo_arg {H : Type} {enc : TypeId × Value → H} {W : World} {b0 base : Nat} {spare : Nat → Bool} {held : Bool} {v : Value} {d : DataW H} {p : List MemPlace}
    (hv : Value.okWide Tryz.prog W .any b0 113 v) (h : DataW.Trod enc Tryz.prog W base spare held 113 v d p) : ∃ t : Flo, v = t.val ∧ t.who.length ≤ maxLen := by
  obtain ⟨cs, rfl, _⟩ := okWide_struct Tryz.underlying113 hv
  obtain ⟨fuel, hf⟩ := h
  obtain ⟨t, ht, hl⟩ := flo_cells hf
  have ht : cs = #[.string (bs t.who), .int .i64 t.ep] := Array.toList_inj.1 ht
  subst ht
  exact ⟨t, rfl, hl⟩
theorem slice_cap {H : Type} {enc : TypeId × Value → H} {P : Program} {w : World} {base : Nat} {spare : Nat → Bool} {held : Bool} {t e : TypeId} {fuel : Nat} {a : Option Addr} {len cap : Nat} {x : DataW H × List MemPlace} (ht : P.underlying t = some (.slice e)) (h : DataW.trod enc P w base spare held fuel t [.slice a len cap] = some x) : len ≤ cap := by
  rcases open_slice ht h with h0 | ⟨a', len', cap', m, n, D, Pl, hcs, _, hl, hm, hmm, _, hi⟩
  · cases h0.1
    exact Nat.le_refl _
  · cases hcs
    exact hl
set_option maxRecDepth 100000 in
theorem flos_of {H : Type} {enc : TypeId × Value → H} {W : World} {base : Nat} {spare : Nat → Bool} {held : Bool} {fuel : Nat} {a : Option Addr} {len cap : Nat} {x : DataW H × List MemPlace} 
    (h : DataW.trod enc Tryz.prog W base spare held fuel 54 [.slice a len cap] = some x) : ∃ A, FloorsAt W (.slice a len cap) A ∧ ∀ f ∈ A, f.who.length ≤ maxLen := by
  have hcap := slice_cap Tryz.underlying54 h
  rcases slice_cells Tryz.underlying54 h with h0 | ⟨a', len', cap', n, hcs, hm, hi⟩
  · cases h0
    exact ⟨[], ⟨none, 0, rfl, Nat.zero_le _, Nat.zero_le _, fun i hi => by cases hi⟩, fun f hf => by cases hf⟩
  · cases hcs
    have hC : Tryz.prog.cellsOf 113 = 2 := by kernel_rfl
    rw [hC] at hi
    obtain ⟨A, hl, hA⟩ := list_of (p := fun i (q : Flo) => (i = 0 → a' = ⟨a'.block, a'.off, none⟩) ∧ W.cell? ⟨a'.block, a'.off + i * 2, none⟩ = some (.string (bs q.who)) ∧ W.cell? ⟨a'.block, a'.off + i * 2 + 1, none⟩ = some (.int .i64 q.ep) ∧ q.who.length ≤ maxLen) len (fun i hil => by
      obtain ⟨cs, y, hcl, hat, ha, ht⟩ := hi i hil
      obtain ⟨q, rfl, hq⟩ := flo_cells ht
      exact ⟨q, fun h0 => ha 0 (by decide) (by rw [h0]), by simpa using hat 0 (by decide), by simpa [Nat.add_assoc] using hat 1 (by decide), hq⟩)
    subst hl
    refine ⟨A, ⟨some a', cap, rfl, hm, hcap, fun i hil => ?_⟩, fun f hf => ?_⟩
    · exact ⟨a'.block, a'.off, congrArg some ((hA 0 (Nat.lt_of_le_of_lt (Nat.zero_le _) hil)).1 rfl), (hA i hil).2.1, (hA i hil).2.2.1⟩
    · obtain ⟨i, hi2, rfl⟩ := List.getElem_of_mem hf
      exact (hA i hi2).2.2.2
end Go.Proofs.YtkhphdkjnpcnnaaGreatDoor

/- Rows of floors of one's own in memory: no walk. -/
namespace Go.Proofs.YtkhphdkjnpcnnaaGreatDoor set_option linter.unusedVariables false set_option linter.unusedSimpArgs false
open Go.RowKit

def flatF : List Flo → List Value
  | [] => []
  | f :: L => f.cells ++ flatF L
theorem flatF_append : ∀ L M, flatF (L ++ M) = flatF L ++ flatF M
  | [], _ => rfl
  | p :: L, M => by simp only [List.cons_append, flatF, flatF_append L M, List.append_assoc]
theorem flatF_len : ∀ L : List Flo, (flatF L).length = L.length * 2
  | [] => rfl
  | p :: L => by simp [flatF, Flo.cells, flatF_len L]; omega
theorem flatF_get : ∀ (L : List Flo) (i : Nat) (h : i < L.length), (flatF L)[i * 2]? = some (.string (bs L[i].who)) ∧ (flatF L)[i * 2 + 1]? = some (.int .i64 L[i].ep)
  | p :: L, 0, _ => by simp [flatF, Flo.cells]
  | p :: L, i + 1, h => by
    have := flatF_get L i (by simpa using h)
    simp only [flatF, Flo.cells, List.getElem_cons_succ]
    rw [show (i + 1) * 2 = i * 2 + 2 by omega, show i * 2 + 2 + 1 = i * 2 + 1 + 2 by omega]
    simpa using this
theorem flatF_take : ∀ (L : List Flo) (k : Nat), flatF (L.take k) = (flatF L).take (k * 2)
  | [], _ => by simp [flatF]
  | p :: L, 0 => by simp [flatF]
  | p :: L, k + 1 => by
    rw [show (k + 1) * 2 = k * 2 + 2 by omega]
    simp [flatF, Flo.cells, flatF_take L k]
theorem flatF_drop : ∀ (L : List Flo) (k : Nat), flatF (L.drop k) = (flatF L).drop (k * 2)
  | [], _ => by simp [flatF]
  | p :: L, 0 => by simp [flatF]
  | p :: L, k + 1 => by
    rw [show (k + 1) * 2 = k * 2 + 2 by omega]
    simp [flatF, Flo.cells, flatF_drop L k]
theorem flatF_set : ∀ (L : List Flo) (k : Nat) (f : Flo), k < L.length → ((flatF L).set (k * 2) (.string (bs f.who))).set (k * 2 + 1) (.int .i64 f.ep) = flatF (L.set k f)
  | p :: L, 0, f, _ => by simp [flatF, Flo.cells]
  | p :: L, k + 1, f, h => by
    have h1 := flatF_set L k f (by simpa using h)
    rw [show (k + 1) * 2 + 1 = k * 2 + 1 + 2 by omega, show (k + 1) * 2 = k * 2 + 2 by omega]
    simp [flatF, Flo.cells, h1]
theorem flatF_one (L : List Flo) : ∀ u ∈ flatF L, u.oneCell' = true := by
  induction L with
  | nil => intro u hu; cases hu
  | cons p L ih =>
    intro u hu
    simp only [flatF, Flo.cells, List.cons_append, List.nil_append, List.mem_cons] at hu
    rcases hu with rfl | rfl | hu
    all_goals first | rfl | exact ih u hu
/-- A row of floors of one's own. -/
def FlRow (w : World) (base : Nat) (v : Value) (L : List Flo) : Prop := w.ownsRow base 113 2 v L.length (flatF L)
theorem FlRow.below {w w' : World} {base : Nat} {v : Value} {L : List Flo} (h : FlRow w base v L) (hb : Below w.heap.size w w') : FlRow w' base v L :=
  ownsRow_keeps h (Keeps.of_below hb) (fun _ _ h => h)
theorem FlRow.mono {w : World} {base base' : Nat} {v : Value} {L : List Flo} (h : FlRow w base v L) (hb : base' ≤ base) : FlRow w base' v L := ownsRow_mono h hb
/-- What a row of floors is: nil, or a block. -/
theorem FlRow.shape {w : World} {base : Nat} {v : Value} {L : List Flo} (h : FlRow w base v L) :
    (v = .slice none 0 0 ∧ L = []) ∨ ∃ g cap cur, v = .slice (some ⟨g, 0, none⟩) L.length cap ∧ base ≤ g ∧ w.heap[g]? = some (.cells cur 113 (0, 0)) ∧ L.length ≤ cap ∧ cap ≤ maxLen ∧ cur.size = cap * 2 ∧ cur.toList.take (L.length * 2) = flatF L := by
  obtain ⟨_, ⟨rfl, hn⟩ | h⟩ := h
  · exact .inl ⟨rfl, List.eq_nil_of_length_eq_zero hn⟩
  · exact .inr h
theorem FlRow.cells {w : World} {base g cap : Nat} {L : List Flo} (h : FlRow w base (.slice (some ⟨g, 0, none⟩) L.length cap) L) :
    ∀ i u, (flatF L)[i]? = some u → w.cell? ⟨g, i, none⟩ = some u := by
  rcases h.shape with ⟨h1, _⟩ | ⟨g', cap', cur, he, hb, hg, hc, hm, hsz, ht⟩
  · cases h1
  · cases he
    intro i u hu
    have hi : i < L.length * 2 := by
      have := (List.getElem?_eq_some_iff.1 hu).1
      rw [flatF_len] at this
      omega
    rw [cell_of_row w g i _ _ _ hg]
    rw [← ht, List.getElem?_take, if_pos hi] at hu
    simpa using hu
theorem FlRow.frozen {w : World} {base g cap : Nat} {L : List Flo} (h : FlRow w base (.slice (some ⟨g, 0, none⟩) L.length cap) L) (i : Nat) : w.frozen? ⟨g, i, none⟩ = false := by
  rcases h.shape with ⟨h1, _⟩ | ⟨g', cap', cur, he, hb, hg, hc, hm, hsz, ht⟩
  · cases h1
  · cases he
    exact frozen_of_row _ _ _ _ _ hg
theorem FlRow.at_ {w : World} {base : Nat} {v : Value} {L : List Flo} (h : FlRow w base v L) (hL : L.length ≤ maxLen) : FloorsAt w v L := by
  rcases h.shape with ⟨rfl, rfl⟩ | ⟨g, cap, cur, rfl, hb, hg, hc, hm, hsz, ht⟩
  · exact ⟨none, 0, rfl, Nat.zero_le _, Nat.zero_le _, fun i hi => by cases hi⟩
  · refine ⟨_, _, rfl, hL, hc, fun i hi => ⟨g, 0, rfl, ?_⟩⟩
    obtain ⟨h0, h1⟩ := flatF_get L i hi
    rw [Nat.zero_add]
    exact ⟨h.cells _ _ h0, h.cells _ _ h1⟩
/-- A floor written into a row. -/
theorem FlRow.set {w : World} {base g cap : Nat} {L : List Flo} (h : FlRow w base (.slice (some ⟨g, 0, none⟩) L.length cap) L) {k : Nat} (hk : k < L.length) (f : Flo) :
    FlRow ((w.setCell ⟨g, k * 2, none⟩ (.string (bs f.who))).setCell ⟨g, k * 2 + 1, none⟩ (.int .i64 f.ep)) base (.slice (some ⟨g, 0, none⟩) L.length cap) (L.set k f) := by
  have h1 := ownsRow_setCell (ownsRow_setCell h (k * 2) (.string (bs f.who))) (k * 2 + 1) (.int .i64 f.ep)
  rw [flatF_set L k f hk] at h1
  unfold FlRow
  rw [List.length_set]
  exact h1
/-- The first k of a row. -/
theorem FlRow.take {w : World} {base g cap : Nat} {L : List Flo} (h : FlRow w base (.slice (some ⟨g, 0, none⟩) L.length cap) L) {k : Nat} (hk : k ≤ L.length) :
    FlRow w base (.slice (some ⟨g, 0, none⟩) k cap) (L.take k) := by
  rcases h.shape with ⟨h1, _⟩ | ⟨g', cap', cur, he, hb, hg, hc, hm, hsz, ht⟩
  · cases h1
  · cases he
    have hl : (L.take k).length = k := by rw [List.length_take]; omega
    unfold FlRow
    rw [hl]
    refine ⟨by rw [flatF_len, hl], .inr ⟨g, cap, cur, rfl, hb, hg, by omega, hm, hsz, ?_⟩⟩
    rw [flatF_take, ← ht, List.take_take, Nat.min_eq_left (by omega)]
theorem keeps_of_floors {S : Nat → Prop} {w w' : World} {v : Value} {L : List Flo} (h : FloorsAt w v L) (hk : Keeps S w w') (hs : ∀ b, v.ownBlock = some b → ¬ S b) : FloorsAt w' v L := by
  obtain ⟨a, c, rfl, h2, h3, h4⟩ := h
  refine ⟨a, c, rfl, h2, h3, fun i hi => ?_⟩
  obtain ⟨b, o, rfl, h5, h6⟩ := h4 i hi
  have hb : ¬ S b := hs b rfl
  exact ⟨b, o, rfl, hk.cell h5 hb, hk.cell h6 hb⟩
end Go.Proofs.YtkhphdkjnpcnnaaGreatDoor

/- Entries of a feed in memory, and those that came in: no walk. -/
namespace Go.Proofs.YtkhphdkjnpcnnaaGreatDoor set_option linter.unusedVariables false set_option linter.unusedSimpArgs false
open Go.ChangeShapes Go.WideShapes Go.ChangeAt Go.RowKit Go.ChangeMaps Go.Deep

def Ent.val (e : Ent) : Value := .agg #[.int .i64 e.seq, .int .i64 e.time, .string (bs e.f.who), .int .i64 e.f.ep]
/-- An entry's cells. -/
def entC : Cells Ent where
  k := 4
  pos := by decide
  f := fun e => [.int .i64 e.seq, .int .i64 e.time, .string (bs e.f.who), .int .i64 e.f.ep]
  len := fun _ => rfl
  one := fun e u hu => by
    simp only [List.mem_cons, List.mem_nil_iff, or_false] at hu
    rcases hu with rfl | rfl | rfl | rfl <;> rfl
/-- Floors' cells, likewise. -/
def floC : Cells Flo where
  k := 2
  pos := by decide
  f := Flo.cells
  len := fun _ => rfl
  one := fun e u hu => by
    simp only [Flo.cells, List.mem_cons, List.mem_nil_iff, or_false] at hu
    rcases hu with rfl | rfl <;> rfl
theorem flatF_G : ∀ L, flatF L = flatG floC L
  | [] => rfl
  | f :: L => by
    show Flo.cells f ++ flatF L = floC.f f ++ flatG floC L
    rw [flatF_G L]
    rfl
theorem floRow_G {w : World} {base : Nat} {v : Value} {L : List Flo} : FlRow w base v L ↔ RowG floC w base 113 v L := by
  unfold FlRow RowG
  rw [flatF_G]
  exact Iff.rfl
theorem floorsAt_of {w : World} {v : Value} {L : List Flo} (h : AtG floC w v L) : FloorsAt w v L := by
  obtain ⟨a, c, h1, h2, h3, _, h5⟩ := h
  refine ⟨a, c, h1, h2, h3, fun i hi => ?_⟩
  obtain ⟨b, o, h6, h7⟩ := h5 i hi
  exact ⟨b, o, h6, h7 0 _ rfl, h7 1 _ rfl⟩
def EntsAt (w : World) (v : Value) (L : List Ent) : Prop := AtG entC w v L
def EntRow (w : World) (base : Nat) (v : Value) (L : List Ent) : Prop := RowG entC w base 115 v L
theorem info_ent : (Tryz.prog.info? 115).map (fun i => (i.zero, i.size, i.bytes)) = some (some (.agg #[.int .i64 0, .int .i64 0, .string ⟨#[]⟩, .int .i64 0]), entC.k, 40) := by kernel_rfl
theorem EntsAt.below {w w' : World} {v : Value} {L : List Ent} (h : EntsAt w v L) (hb : Below w.heap.size w w') : EntsAt w' v L := AtG.below h hb
theorem EntRow.at_ {w : World} {base : Nat} {v : Value} {L : List Ent} (h : EntRow w base v L) : EntsAt w v L := RowG.at_ h
/-- Its cells, one by one. -/
theorem EntsAt.get {w : World} {v : Value} {L : List Ent} (h : EntsAt w v L) : ∃ a c, v = .slice a L.length c ∧ L.length ≤ maxLen ∧ L.length ≤ c ∧ ∀ i (h : i < L.length), ∃ b o, a = some ⟨b, o, none⟩ ∧
    w.cell? ⟨b, o + i * 4, none⟩ = some (.int .i64 L[i].seq) ∧ w.cell? ⟨b, o + i * 4 + 1, none⟩ = some (.int .i64 L[i].time) ∧ w.cell? ⟨b, o + i * 4 + 2, none⟩ = some (.string (bs L[i].f.who)) ∧ w.cell? ⟨b, o + i * 4 + 3, none⟩ = some (.int .i64 L[i].f.ep) := by
  obtain ⟨a, c, h1, h2, h3, _, h5⟩ := h
  refine ⟨a, c, h1, h2, h3, fun i hi => ?_⟩
  obtain ⟨b, o, h6, h7⟩ := h5 i hi
  exact ⟨b, o, h6, h7 0 _ rfl, h7 1 _ rfl, h7 2 _ rfl, h7 3 _ rfl⟩
theorem EntsAt.sl {w : World} {v : Value} {L : List Ent} (h : EntsAt w v L) : ∃ a c, v = .slice a L.length c := AtG.sl h
theorem EntsAt.len {w : World} {v : Value} {L : List Ent} (h : EntsAt w v L) : L.length ≤ maxLen := AtG.len h

/-! What came in. -/
theorem three_of {α : Type} {l : List α} (h : l.length = 3) : ∃ a b c, l = [a, b, c] := by
  match l, h with
  | [a, b, c], _ => exact ⟨a, b, c, rfl⟩
set_option maxRecDepth 100000 in
theorem ent_cells {H : Type} {enc : TypeId × Value → H} {W : World} {base : Nat} {spare : Nat → Bool} {held : Bool} {n : Nat} {cs : List Value} {y : DataW H × List MemPlace}
    (h : DataW.trod enc Tryz.prog W base spare held n 115 cs = some y) : ∃ p : Ent, cs = entC.f p ∧ p.f.who.length ≤ maxLen := by
  have hC : Tryz.prog.cellsOf 115 = 4 := by kernel_rfl
  have h1 : Tryz.prog.cellsOf 3 = 1 := by kernel_rfl
  have h2 : Tryz.prog.cellsOf 113 = 2 := by kernel_rfl
  obtain ⟨hcl, m, hf⟩ := struct_fields Tryz.underlying115 h
  obtain ⟨k0, k1, k2, k3, rfl⟩ := four_of (hcl.trans hC)
  obtain ⟨_, z0⟩ := hf 0 _ rfl
  obtain ⟨_, z1⟩ := hf 1 _ rfl
  obtain ⟨_, z2⟩ := hf 2 _ rfl
  have z0 := field_one z0 h1 (v := k0) rfl
  have z1 := field_one z1 h1 (v := k1) rfl
  obtain ⟨x0, rfl, _⟩ := read_int Tryz.underlying3 z0
  obtain ⟨x1, rfl, _⟩ := read_int Tryz.underlying3 z1
  obtain ⟨f, hf2, hl⟩ := flo_cells z2
  have hf3 : [k2, k3] = [.string (bs f.who), .int .i64 f.ep] := hf2
  simp only [List.cons.injEq, and_true] at hf3
  obtain ⟨rfl, rfl⟩ := hf3
  exact ⟨⟨x0, x1, f⟩, rfl, hl⟩
set_option maxRecDepth 100000 in
theorem ents_of {H : Type} {enc : TypeId × Value → H} {W : World} {base : Nat} {spare : Nat → Bool} {held : Bool} {fuel : Nat} {a : Option Addr} {len cap : Nat} {x : DataW H × List MemPlace}
    (h : DataW.trod enc Tryz.prog W base spare held fuel 38 [.slice a len cap] = some x) : ∃ A, EntsAt W (.slice a len cap) A ∧ ∀ e ∈ A, e.f.who.length ≤ maxLen := by
  have hcap := slice_cap Tryz.underlying38 h
  rcases slice_cells Tryz.underlying38 h with h0 | ⟨a', len', cap', n, hcs, hm, hi⟩
  · cases h0
    exact ⟨[], AtG.nil _, fun f hf => by cases hf⟩
  · cases hcs
    have hC : Tryz.prog.cellsOf 115 = 4 := by kernel_rfl
    rw [hC] at hi
    obtain ⟨A, hl, hA⟩ := list_of (p := fun i (q : Ent) => (i = 0 → a' = ⟨a'.block, a'.off, none⟩) ∧ (∀ j u, (entC.f q)[j]? = some u → W.cell? ⟨a'.block, a'.off + i * 4 + j, none⟩ = some u) ∧ q.f.who.length ≤ maxLen) len (fun i hil => by
      obtain ⟨cs, y, hcl, hat, ha, ht⟩ := hi i hil
      obtain ⟨q, rfl, hq⟩ := ent_cells ht
      refine ⟨q, fun h0 => ha 0 (by decide) (by rw [h0]), fun j u hu => ?_, hq⟩
      have hj : j < 4 := (List.getElem?_eq_some_iff.1 hu).1
      have := hat j hj
      rw [hu] at this
      simpa [Nat.add_assoc] using this)
    subst hl
    refine ⟨A, ⟨some a', cap, rfl, hm, hcap, (fun e => by cases e), fun i hil => ⟨a'.block, a'.off, congrArg some ((hA 0 (Nat.lt_of_le_of_lt (Nat.zero_le _) hil)).1 rfl), (hA i hil).2.1⟩⟩, fun f hf => ?_⟩
    obtain ⟨i, hi2, rfl⟩ := List.getElem_of_mem hf
    exact (hA i hi2).2.2
end Go.Proofs.YtkhphdkjnpcnnaaGreatDoor

/- The program's realms in memory: no walk. -/
namespace Go.Proofs.YtkhphdkjnpcnnaaGreatDoor set_option linter.unusedVariables false set_option linter.unusedSimpArgs false
open Go.RowKit

/-- A realm's cells. -/
def rlmCells (R : Rlm) (b : Nat) (vl : Value) : Array Value := #[.int .i64 R.key, .int .i64 R.long, .int .i64 R.time, .int .i64 R.serial, .pointer (some ⟨b, 0, none⟩), vl]
/-- A realm in memory: its block a, its book's block b and map r. -/
structure RlmAt (w : World) (base a b r : Nat) (R : Rlm) : Prop where
  ge : base ≤ a
  gr : base ≤ r
  blk : ∃ vl, w.heap[a]? = some (.cells (rlmCells R b vl) 83 (0, 0)) ∧ RowG entC w base 115 vl R.l
  book : BookAt w b r R.b
/-- The blocks that a realm's acts write. -/
def RlmS (a r : Nat) (k : Nat) : Prop := k = a ∨ k = r
theorem rlm_ne_ent : (83 : TypeId) ≠ 115 := by decide
theorem six_of {w : World} {n : Nat} {v0 v1 v2 v3 v4 v5 : Value} {T : TypeId} (h : w.heap[n]? = some (.cells #[v0, v1, v2, v3, v4, v5] T (0, 0))) :
    (w.cell? ⟨n, 0, none⟩ = some v0 ∧ w.cell? ⟨n, 1, none⟩ = some v1 ∧ w.cell? ⟨n, 2, none⟩ = some v2 ∧ w.cell? ⟨n, 3, none⟩ = some v3 ∧ w.cell? ⟨n, 4, none⟩ = some v4 ∧ w.cell? ⟨n, 5, none⟩ = some v5) ∧
    (w.frozen? ⟨n, 0, none⟩ = false ∧ w.frozen? ⟨n, 1, none⟩ = false ∧ w.frozen? ⟨n, 2, none⟩ = false ∧ w.frozen? ⟨n, 3, none⟩ = false ∧ w.frozen? ⟨n, 4, none⟩ = false ∧ w.frozen? ⟨n, 5, none⟩ = false) := by
  refine ⟨⟨?_, ?_, ?_, ?_, ?_, ?_⟩, ?_, ?_, ?_, ?_, ?_, ?_⟩
  all_goals first | (rw [cell_of_row _ _ _ _ _ _ h]; rfl) | (simp [World.frozen?, h])
theorem RlmAt.cells {w : World} {base a b r : Nat} {R : Rlm} (h : RlmAt w base a b r R) : ∃ al cl, (w.cell? ⟨a, 0, none⟩ = some (.int .i64 R.key) ∧ w.cell? ⟨a, 1, none⟩ = some (.int .i64 R.long) ∧ w.cell? ⟨a, 2, none⟩ = some (.int .i64 R.time) ∧ w.cell? ⟨a, 3, none⟩ = some (.int .i64 R.serial) ∧ w.cell? ⟨a, 4, none⟩ = some (.pointer (some ⟨b, 0, none⟩)) ∧ w.cell? ⟨a, 5, none⟩ = some (.slice al R.l.length cl)) ∧
    (w.frozen? ⟨a, 0, none⟩ = false ∧ w.frozen? ⟨a, 1, none⟩ = false ∧ w.frozen? ⟨a, 2, none⟩ = false ∧ w.frozen? ⟨a, 3, none⟩ = false ∧ w.frozen? ⟨a, 4, none⟩ = false ∧ w.frozen? ⟨a, 5, none⟩ = false) ∧ RowG entC w base 115 (.slice al R.l.length cl) R.l := by
  obtain ⟨vl, h1, h2⟩ := h.blk
  obtain ⟨al, cl, rfl⟩ := h2.sl
  obtain ⟨h3, h4⟩ := six_of h1
  exact ⟨al, cl, h3, h4, h2⟩
theorem RlmAt.below {w w' : World} {base a b r : Nat} {R : Rlm} (h : RlmAt w base a b r R) (hb : Below w.heap.size w w') : RlmAt w' base a b r R := by
  obtain ⟨vl, h1, h2⟩ := h.blk
  exact ⟨h.ge, h.gr, ⟨vl, heap_down hb h1, h2.below hb⟩, h.book.below hb⟩
theorem RlmAt.ne {w : World} {base a b r : Nat} {R : Rlm} (h : RlmAt w base a b r R) : a ≠ r ∧ a ≠ b := by
  obtain ⟨vl, h1, _⟩ := h.blk
  obtain ⟨l, ⟨es, c, h2, _⟩, _⟩ := h.book.map
  refine ⟨fun e => ?_, fun e => ?_⟩
  · rw [e, h2] at h1
    cases h1
  · have h3 := h.book.at0
    rw [← e, (six_of h1).1.1] at h3
    cases h3
theorem row_ne_of {w : World} {base n : Nat} {vl : Value} {L : List Ent} {cs : Array Value} {T : TypeId} {z : Nat × Nat} (h : RowG entC w base 115 vl L) (hn : w.heap[n]? = some (.cells cs T z)) (hT : T ≠ 115) : ∀ g, vl.ownBlock = some g → g ≠ n := fun g hg e => by
  obtain ⟨_, cs', h1⟩ := h.block hg
  rw [e, hn] at h1
  injection h1 with h1
  injection h1 with _ h1 _
  exact hT h1
/-- The book alone changes. -/
theorem RlmAt.book' {w w' : World} {base a b r : Nat} {R : Rlm} {B : List Per} (h : RlmAt w base a b r R) (hk : Keeps (· = r) w w') (hB : BookAt w' b r B) : RlmAt w' base a b r { R with b := B } := by
  obtain ⟨vl, h1, h2⟩ := h.blk
  obtain ⟨l, ⟨es, c, gr, _⟩, _⟩ := h.book.map
  refine ⟨h.ge, h.gr, ⟨vl, hk.obj h1 h.ne.1, h2.keeps hk fun g hg e => ?_⟩, hB⟩
  obtain ⟨_, cs', h5⟩ := h2.block hg
  rw [e, gr] at h5
  cases h5
/-- A number of its own is stored. -/
theorem RlmAt.num {w : World} {base a b r : Nat} {R : Rlm} (h : RlmAt w base a b r R) (i : Nat) (z : Int) (R' : Rlm) (hb : R'.b = R.b) (hl : R'.l = R.l) (hc : ∀ vl, (rlmCells R b vl).setIfInBounds i (.int .i64 z) = rlmCells R' b vl) :
    RlmAt (w.setCell ⟨a, i, none⟩ (.int .i64 z)) base a b r R' ∧ Keeps (RlmS a r) w (w.setCell ⟨a, i, none⟩ (.int .i64 z)) := by
  obtain ⟨vl, h1, h2⟩ := h.blk
  have hk : Keeps (· = a) w (w.setCell ⟨a, i, none⟩ (.int .i64 z)) := keeps_setCell _ _ _ rfl
  refine ⟨⟨h.ge, h.gr, ⟨vl, ?_, ?_⟩, ?_⟩, hk.mono fun k hk => .inl hk⟩
  · rw [← hc vl]
    exact heap_setCell_same w a i _ _ (.int .i64 z) h1
  · rw [hl]
    exact h2.other _ _ (row_ne_of h2 h1 rlm_ne_ent)
  · rw [hb]
    exact h.book.keeps hk (fun e => h.ne.2 e.symm) (fun e => h.ne.1 e.symm)
theorem RlmAt.serial {w : World} {base a b r : Nat} {R : Rlm} (h : RlmAt w base a b r R) (z : Int) : RlmAt (w.setCell ⟨a, 3, none⟩ (.int .i64 z)) base a b r { R with serial := z } ∧ Keeps (RlmS a r) w (w.setCell ⟨a, 3, none⟩ (.int .i64 z)) := h.num 3 z _ rfl rfl (fun _ => rfl)
theorem RlmAt.timed {w : World} {base a b r : Nat} {R : Rlm} (h : RlmAt w base a b r R) (z : Int) : RlmAt (w.setCell ⟨a, 2, none⟩ (.int .i64 z)) base a b r { R with time := z } ∧ Keeps (RlmS a r) w (w.setCell ⟨a, 2, none⟩ (.int .i64 z)) := h.num 2 z _ rfl rfl (fun _ => rfl)
/-- Another book, and another feed. -/
theorem RlmAt.turned {w : World} {base a b r b2 r2 : Nat} {R : Rlm} {B : List Per} {L : List Ent} {vl2 : Value} (h : RlmAt w base a b r R) (hB : BookAt w b2 r2 B) (hr2 : base ≤ r2) (hab : a ≠ b2) (har : a ≠ r2) (hl : RowG entC w base 115 vl2 L) :
    RlmAt ((w.setCell ⟨a, 4, none⟩ (.pointer (some ⟨b2, 0, none⟩))).setCell ⟨a, 5, none⟩ vl2) base a b2 r2 { R with b := B, l := L } ∧ Keeps (RlmS a r) w ((w.setCell ⟨a, 4, none⟩ (.pointer (some ⟨b2, 0, none⟩))).setCell ⟨a, 5, none⟩ vl2) := by
  obtain ⟨vl, h1, h2⟩ := h.blk
  have hk : Keeps (· = a) w (w.setCell ⟨a, 4, none⟩ (.pointer (some ⟨b2, 0, none⟩))) := keeps_setCell _ _ _ rfl
  have hk2 : Keeps (· = a) (w.setCell ⟨a, 4, none⟩ (.pointer (some ⟨b2, 0, none⟩))) ((w.setCell ⟨a, 4, none⟩ (.pointer (some ⟨b2, 0, none⟩))).setCell ⟨a, 5, none⟩ vl2) := keeps_setCell _ _ _ rfl
  have g1 := heap_setCell_same w a 4 _ _ (.pointer (some ⟨b2, 0, none⟩)) h1
  refine ⟨⟨h.ge, hr2, ⟨vl2, ?_, ?_⟩, (hB.keeps hk (fun e => hab e.symm) (fun e => har e.symm)).keeps hk2 (fun e => hab e.symm) (fun e => har e.symm)⟩, (hk.trans hk2).mono fun k hk => .inl hk⟩
  · exact heap_setCell_same _ a 5 _ _ vl2 g1
  · exact (hl.other _ _ (row_ne_of hl h1 rlm_ne_ent)).other _ _ (row_ne_of (hl.other _ _ (row_ne_of hl h1 rlm_ne_ent)) g1 rlm_ne_ent)
theorem keepsP_below {a r : Nat} {w x y : World} (h : Below w.heap.size w x) (k : Keeps (RlmS a r) x y) : Keeps (RlmS a r) w y := (Keeps.of_below h).trans k
theorem keepsP_then {a r : Nat} {w x y : World} (h : Keeps (RlmS a r) w x) (k : Below x.heap.size x y) : Keeps (RlmS a r) w y := h.trans (Keeps.of_below k)
end Go.Proofs.YtkhphdkjnpcnnaaGreatDoor

/- Books that are raised to an epoch: plain: no program in sight. -/
namespace Go.Proofs.YtkhphdkjnpcnnaaGreatDoor set_option linter.unusedVariables false set_option linter.unusedSimpArgs false

/-- A person is raised to an epoch. -/
def toP (L : List Per) (n : List UInt8) (ep : Int) : List Per := match findP L n with
  | none => L
  | some p => setP L { p with epoch := max p.epoch ep }
theorem insP_find {L : List Per} {p : Per} (hs : SortedP L) (hn : findP L p.name = none) : findP (insP p L) p.name = some p :=
  findP_of_mem (insP_sorted p L hs (findP_none hn)) (insP_mem.2 (.inl rfl))
theorem setP_none {L : List Per} {q : Per} (h : ∀ x ∈ L, x.name ≠ q.name) : setP L q = L := by
  unfold setP
  conv => rhs; rw [← List.map_id L]
  refine List.map_congr_left fun x hx => ?_
  rw [if_neg (h x hx)]
  rfl
theorem insP_set (p q : Per) (hq : q.name = p.name) : ∀ L : List Per, (∀ x ∈ L, x.name ≠ p.name) → setP (insP p L) q = insP q L
  | [], _ => by
    show setP [p] q = [q]
    unfold setP
    simp [hq]
  | x :: L, h => by
    have hx : x.name ≠ p.name := h x (by simp)
    have hL : ∀ y ∈ L, y.name ≠ p.name := fun y hy => h y (by simp [hy])
    unfold insP
    rw [hq]
    by_cases hlt : x.name < p.name
    · rw [if_pos hlt, if_pos hlt]
      show (if x.name = q.name then q else x) :: setP (insP p L) q = _
      rw [if_neg (by rw [hq]; exact hx), insP_set p q hq L hL]
    · rw [if_neg hlt, if_neg hlt]
      show (if p.name = q.name then q else p) :: setP (x :: L) q = _
      rw [if_pos hq.symm, setP_none (fun y hy => by rw [hq]; exact h y hy)]
theorem toP_ins {L : List Per} {n : List UInt8} {k m ep : Int} {o : Bool} (hs : SortedP L) (hn : findP L n = none) : toP (insP ⟨n, k, m, o⟩ L) n ep = insP ⟨n, k, max m ep, o⟩ L := by
  unfold toP
  rw [show findP (insP ⟨n, k, m, o⟩ L) n = some ⟨n, k, m, o⟩ from insP_find (p := ⟨n, k, m, o⟩) hs hn]
  exact insP_set ⟨n, k, m, o⟩ ⟨n, k, max m ep, o⟩ rfl L (findP_none hn)
/-- The first j are raised. -/
def mixB (L : List Per) (j : Nat) (n : Int) : List Per := (L.take j).map (fun p => { p with epoch := n }) ++ L.drop j
theorem mixB_zero (L : List Per) (n : Int) : mixB L 0 n = L := by unfold mixB; simp
theorem mixB_all (L : List Per) (n : Int) : mixB L L.length n = L.map (fun p => { p with epoch := n }) := by unfold mixB; simp
theorem mixB_len (L : List Per) (j : Nat) (n : Int) : (mixB L j n).length = L.length := by
  unfold mixB
  rw [List.length_append, List.length_map, List.length_take, List.length_drop]
  omega
theorem mixB_names (L : List Per) (j : Nat) (n : Int) : (mixB L j n).map Per.name = L.map Per.name := by
  unfold mixB
  rw [List.map_append, List.map_map]
  conv => rhs; rw [← List.take_append_drop j L, List.map_append]
  rfl
theorem mixB_sorted {L : List Per} (h : SortedP L) (j : Nat) (n : Int) : SortedP (mixB L j n) := sortedP_names (mixB_names L j n).symm h
theorem mixB_at {L : List Per} {j : Nat} {n : Int} (h : j < L.length) : (mixB L j n)[j]'(by rw [mixB_len]; exact h) = L[j] := by
  unfold mixB
  have hl : ((L.take j).map (fun p : Per => { p with epoch := n })).length = j := by rw [List.length_map, List.length_take]; omega
  rw [List.getElem_append_right (by omega)]
  simp only [hl, List.getElem_drop, Nat.sub_self, Nat.add_zero]
theorem mixB_set {L : List Per} {j : Nat} {n : Int} (h : j < L.length) : (mixB L j n).set j { L[j] with epoch := n } = mixB L (j + 1) n := by
  unfold mixB
  have hl : ((L.take j).map (fun p : Per => { p with epoch := n })).length = j := by rw [List.length_map, List.length_take]; omega
  rw [List.set_append_right _ _ (by omega), hl, Nat.sub_self, List.drop_eq_getElem_cons h, List.set_cons_zero, List.take_succ_eq_append_getElem h, List.map_append, List.append_assoc]
  rfl
theorem mixB_to {L : List Per} (hs : SortedP L) {j : Nat} {n : Int} (h : j < L.length) (hn : L[j].epoch ≤ n) : toP (mixB L j n) L[j].name n = mixB L (j + 1) n := by
  have hj : j < (mixB L j n).length := by rw [mixB_len]; exact h
  have hat := mixB_at (n := n) h
  have hf : findP (mixB L j n) L[j].name = some L[j] := by
    have := findP_of_mem (mixB_sorted hs j n) (p := L[j]) (by rw [← hat]; exact List.getElem_mem hj)
    exact this
  unfold toP
  rw [hf]
  dsimp only
  rw [setP_set (mixB_sorted hs j n) hj _ (by rw [hat]), ← mixB_set h, show max L[j].epoch n = n by omega]
end Go.Proofs.YtkhphdkjnpcnnaaGreatDoor

/- A book copied, walked: maps.Clone by the library's contract. -/
namespace Go.Proofs.YtkhphdkjnpcnnaaGreatDoor set_option linter.unusedVariables false set_option linter.unusedSimpArgs false
open Go.RowKit Go.Shelf

theorem clone_book (r : Nat) (es : Array MapEntry) (clock : Nat) (w : World) (hb : w.heap[r]? = some (.map es clock)) :
    Calls Tryz.prog 120 #[.map (some r)] w fun e w' => e = .returned (.map (some w.heap.size)) ∧ w' = w.alloc (.map es clock) :=
  AnyW.maps_Clone Tryz.clone120 r es clock w hb
theorem copy_any (b r : Nat) (L : List Per) (w : World) (hB : BookAt w b r L) :
    Calls Tryz.prog 75 #[.pointer (some ⟨b, 0, none⟩)] w fun e w' => ∃ b2 r2, e = .returned (.pointer (some ⟨b2, 0, none⟩)) ∧ BookAt w' b2 r2 L ∧ Below w.heap.size w w' := by
  have hc := hB.at0
  obtain ⟨l, ⟨es, clock, hb, hs, hk, hl⟩, hp⟩ := hB.map
  have hcl := Lib.hid (clone_book r es clock w hb)
  have hfin : BookAt ((w.alloc (.map es clock)).alloc (.cells #[.map (some w.heap.size)] 134)) (w.heap.size + 1) w.heap.size L := by
    refine ⟨?_, ⟨l, ?_, hp⟩, hB.sorted⟩
    · have := heap_alloc_new (w.alloc (.map es clock)) (.cells #[.map (some w.heap.size)] 134)
      rwa [World.size_alloc] at this
    · exact MapV.below (w := w.alloc (.map es clock)) ⟨es, clock, heap_alloc_new w _, hs, hk, hl⟩ ((Below.refl _ _).alloc (Nat.le_refl _) _)
  have hfin := Lib.hid hfin
  clear hb hs hk hl hp
  go_enter Tryz.func75, Tryz.ntmps75
  go_wp2_with fail
  refine hcl.out.mono ?_
  rintro e w1 ⟨rfl, rfl⟩
  go_wp2_with fail
  go_ret
  exact ⟨_, _, rfl, hfin.out, ((Below.refl _ _).alloc (Nat.le_refl _) _).alloc (by simp) _⟩
end Go.Proofs.YtkhphdkjnpcnnaaGreatDoor

/- person.Book.To, and a copy that is new: walked. -/
namespace Go.Proofs.YtkhphdkjnpcnnaaGreatDoor set_option linter.unusedVariables false set_option linter.unusedSimpArgs false
open Go.RowKit

set_option maxRecDepth 100000 in
theorem to_any (b r : Nat) (L : List Per) (n : List UInt8) (ep : Int) (w : World) (hB : BookAt w b r L) (he1 : -1073741825 ≤ ep) (he2 : ep ≤ 1073741825) (hG : ∀ p ∈ L, 1 ≤ p.epoch ∧ p.epoch ≤ 1073741824) :
    Calls Tryz.prog 71 #[.pointer (some ⟨b, 0, none⟩), .string (bs n), .int .i64 ep] w fun e w' => e = .returned (.tuple #[]) ∧ Keeps (· = r) w w' ∧ BookAt w' b r (toP L n ep) := by
  have hc := hB.at0
  cases hf : findP L n with
  | none =>
    have hr := Lib.hid (show toP L n ep = L by unfold toP; rw [hf])
    have hl := hB.lookup_none hf
    go_enter Tryz.func71, Tryz.ntmps71
    go_wp2_with fail
    first | go_end0 | refine bodyPost_ret (results_none rfl _ _ _) rfl ?_
    have hb1 := (Below.refl w.heap.size w).alloc (Nat.le_refl _) (.cells #[.string ⟨#[]⟩, .int .i64 0, .int .i64 0, .bool false] 46)
    exact ⟨rfl, Keeps.of_below hb1, by rw [hr.out]; exact hB.below hb1⟩
  | some p =>
    obtain ⟨hp, rfl⟩ := findP_some hf
    have ⟨hp1, hp2⟩ := hG p hp
    have hr := Lib.hid (show toP L p.name ep = setP L { p with epoch := max p.epoch ep } by unfold toP; rw [hf])
    have hl := (hB.lookup_some hf).1
    simp only [Per.val] at hl
    have hb1 := (Below.refl w.heap.size w).alloc (Nat.le_refl _) (.cells #[.string (bs p.name), .int .i64 p.key, .int .i64 (max p.epoch ep), .bool p.off] 46)
    have hb1 := hb1.drew
    have hB1 := hB.below hb1
    obtain ⟨w2, hu, hk, hB2⟩ := hB1.update_some hp (q := { p with epoch := max p.epoch ep }) rfl
    have hc1 := hB1.at0
    simp only [Per.val] at hu
    have hfin := Lib.hid (show Keeps (· = r) w w2 ∧ BookAt w2 b r (setP L { p with epoch := max p.epoch ep }) from ⟨(Keeps.of_below hb1).trans hk, hB2⟩)
    have hb1 := Lib.hid hb1
    clear hB1 hk hB2 hB
    go_enter Tryz.func71, Tryz.ntmps71
    go_wp2_with fail
    go_still_tail 6, (by kernel_rfl)
    change wpStill _ _ (World.drew _) _ _ _
    repeat still_step
    try refine wpStill_nil ?_
    change wpList _ _ _ _ _ (World.drew _)
    go_wp2_with fail
    first | go_end0 | refine bodyPost_ret (results_none rfl _ _ _) rfl ?_
    exact ⟨rfl, hfin.out.1, by rw [hr.out]; exact hfin.out.2⟩
end Go.Proofs.YtkhphdkjnpcnnaaGreatDoor
