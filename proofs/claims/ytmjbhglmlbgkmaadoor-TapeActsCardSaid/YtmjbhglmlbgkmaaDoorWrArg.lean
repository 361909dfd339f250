/- Acts on a tape that came in. -/
import Derived.Test.YtmjbhglmlbgkmaaDoorLibS
import Derived.Test.YtmjbhglmlbgkmaaDoorOpen
import Derived.ProofKit
namespace Go.Proofs.YtmjbhglmlbgkmaaDoor
open Go.ChangeShapes Go.WideShapes Go.ChangeAt Go.RowKit Go.ChangeMaps Go.Deep

/-- An act on a tape: its kind, a text, a number. -/
structure Wr where
  k : List UInt8
  s : List UInt8
  n : Int
def WrsAt (w : World) (v : Value) (A : List Wr) : Prop :=
  ∃ a c, v = .slice a A.length c ∧ A.length ≤ maxLen ∧ A.length ≤ c ∧ ∀ i (h : i < A.length), ∃ b o, a = some ⟨b, o, none⟩ ∧ w.cell? ⟨b, o + i * 3, none⟩ = some (.string (bs A[i].k)) ∧ w.cell? ⟨b, o + i * 3 + 1, none⟩ = some (.string (bs A[i].s)) ∧ w.cell? ⟨b, o + i * 3 + 2, none⟩ = some (.int .i64 A[i].n)
theorem WrsAt.below {w w' : World} {v : Value} {A : List Wr} (h : WrsAt w v A) (hb : Below w.heap.size w w') : WrsAt w' v A := by
  obtain ⟨a, c, h1, h2, hcap, h3⟩ := h
  refine ⟨a, c, h1, h2, hcap, fun i hi => ?_⟩
  obtain ⟨b, o, h4, h5, h6, h7⟩ := h3 i hi
  exact ⟨b, o, h4, cell_below hb h5, cell_below hb h6, cell_below hb h7⟩
theorem i64_wf {n : Int} (h : (Lit.int .i64 n).wf = true) : -9223372036854775808 ≤ n ∧ n ≤ 9223372036854775807 := by
  have e1 : IntKind.i64.min = -9223372036854775808 := by kernel_rfl
  have e2 : IntKind.i64.max = 9223372036854775807 := by kernel_rfl
  simp only [Lit.wf, Bool.and_eq_true, decide_eq_true_eq, e1, e2] at h
  exact h
theorem three_of {α : Type} {l : List α} (h : l.length = 3) : ∃ a b c, l = [a, b, c] := by
  match l, h with
  | [a, b, c], _ => exact ⟨a, b, c, rfl⟩
set_option maxRecDepth 100000 in
theorem wr_cells {H : Type} {enc : TypeId × Value → H} {W : World} {base : Nat} {spare : Nat → Bool} {held : Bool} {n : Nat} {cs : List Value} {y : DataW H × List MemPlace}
    (h : DataW.trod enc Tryd.prog W base spare held n 56 cs = some y) : ∃ p : Wr, cs = [.string (bs p.k), .string (bs p.s), .int .i64 p.n] ∧ p.k.length ≤ maxLen ∧ p.s.length ≤ maxLen ∧ (Lit.int .i64 p.n).wf = true := by
  have hC : Tryd.prog.cellsOf 56 = 3 := by kernel_rfl
  have h1 : Tryd.prog.cellsOf 9 = 1 := by kernel_rfl
  have h2 : Tryd.prog.cellsOf 3 = 1 := by kernel_rfl
  obtain ⟨hcl, m, hf⟩ := struct_fields Tryd.underlying56 h
  obtain ⟨k0, k1, k2, rfl⟩ := three_of (hcl.trans hC)
  obtain ⟨_, z0⟩ := hf 0 _ rfl
  obtain ⟨_, z1⟩ := hf 1 _ rfl
  obtain ⟨_, z2⟩ := hf 2 _ rfl
  have z0 := field_one z0 h1 (v := k0) rfl
  have z1 := field_one z1 h1 (v := k1) rfl
  have z2 := field_one z2 h2 (v := k2) rfl
  obtain ⟨s0, rfl, l0⟩ := read_string Tryd.underlying9 z0
  obtain ⟨s1, rfl, l1⟩ := read_string Tryd.underlying9 z1
  obtain ⟨x2, rfl, w2⟩ := read_int Tryd.underlying3 z2
  exact ⟨⟨s0, s1, x2⟩, rfl, l0, l1, w2⟩
theorem slice_cap3 {H : Type} {enc : TypeId × Value → H} {P : Program} {w : World} {base : Nat} {spare : Nat → Bool} {held : Bool} {t e : TypeId} {fuel : Nat} {a : Option Addr} {len cap : Nat} {x : DataW H × List MemPlace} (ht : P.underlying t = some (.slice e)) (h : DataW.trod enc P w base spare held fuel t [.slice a len cap] = some x) : len ≤ cap := by
  rcases open_slice ht h with h0 | ⟨a', len', cap', m, n, D, Pl, hcs, _, hl, hm, hmm, _, hi⟩
  · cases h0.1
    exact Nat.le_refl _
  · cases hcs
    exact hl
set_option maxRecDepth 100000 in
theorem wrs_of {H : Type} {enc : TypeId × Value → H} {W : World} {base : Nat} {spare : Nat → Bool} {held : Bool} {fuel : Nat} {a : Option Addr} {len cap : Nat} {x : DataW H × List MemPlace} 
    (h : DataW.trod enc Tryd.prog W base spare held fuel 48 [.slice a len cap] = some x) : ∃ A, WrsAt W (.slice a len cap) A ∧ ∀ f ∈ A, f.s.length ≤ maxLen ∧ f.n ≤ 9223372036854775807 := by
  have hcap := slice_cap3 Tryd.underlying48 h
  rcases slice_cells Tryd.underlying48 h with h0 | ⟨a', len', cap', n, hcs, hm, hi⟩
  · cases h0
    exact ⟨[], ⟨none, 0, rfl, Nat.zero_le _, Nat.zero_le _, fun i hi => by cases hi⟩, fun f hf => by cases hf⟩
  · cases hcs
    have hC : Tryd.prog.cellsOf 56 = 3 := by kernel_rfl
    rw [hC] at hi
    obtain ⟨A, hl, hA⟩ := list_of (p := fun i (q : Wr) => (i = 0 → a' = ⟨a'.block, a'.off, none⟩) ∧ W.cell? ⟨a'.block, a'.off + i * 3, none⟩ = some (.string (bs q.k)) ∧ W.cell? ⟨a'.block, a'.off + i * 3 + 1, none⟩ = some (.string (bs q.s)) ∧ W.cell? ⟨a'.block, a'.off + i * 3 + 2, none⟩ = some (.int .i64 q.n) ∧ q.s.length ≤ maxLen ∧ q.n ≤ 9223372036854775807) len (fun i hil => by
      obtain ⟨cs, y, hcl, hat, ha, ht⟩ := hi i hil
      obtain ⟨q, rfl, _, hq, hn⟩ := wr_cells ht
      exact ⟨q, fun h0 => ha 0 (by decide) (by rw [h0]), by simpa using hat 0 (by decide), by simpa [Nat.add_assoc] using hat 1 (by decide), by simpa [Nat.add_assoc] using hat 2 (by decide), hq, (i64_wf hn).2⟩)
    subst hl
    refine ⟨A, ⟨some a', cap, rfl, hm, hcap, fun i hil => ?_⟩, fun f hf => ?_⟩
    · exact ⟨a'.block, a'.off, congrArg some ((hA 0 (Nat.lt_of_le_of_lt (Nat.zero_le _) hil)).1 rfl), (hA i hil).2.1, (hA i hil).2.2.1, (hA i hil).2.2.2.1⟩
    · obtain ⟨i, hi2, rfl⟩ := List.getElem_of_mem hf
      exact (hA i hi2).2.2.2.2
end Go.Proofs.YtmjbhglmlbgkmaaDoor
