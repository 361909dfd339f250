/- Deals at a desk that came in; longDeals. -/
import Derived.Test.YtmjbhglmlbgkmaaDoorTickArg
import Derived.Test.YtmjbhglmlbgkmaaDoorFloArg
import Derived.Test.YtmjbhglmlbgkmaaDoorTickL
import Derived.Test.YtmjbhglmlbgkmaaDoorFloG
namespace Go.Proofs.YtmjbhglmlbgkmaaDoor
open Go.ChangeShapes Go.WideShapes Go.ChangeAt Go.RowKit Go.ChangeMaps Go.Deep

/-- A deal at a desk: its kind, a ticket, a number, a time, floors. -/
structure Deal where
  k : List UInt8
  t : Tick
  n : Int
  now : Int
  f : List Flo
structure DealOk (w : World) (b o : Nat) (d : Deal) : Prop where
  k : w.cell? ⟨b, o, none⟩ = some (.string (bs d.k))
  t0 : w.cell? ⟨b, o + 1, none⟩ = some (.string (bs d.t.who))
  t1 : w.cell? ⟨b, o + 2, none⟩ = some (.string (bs d.t.svc))
  t2 : w.cell? ⟨b, o + 3, none⟩ = some (.int .i64 d.t.epoch)
  t3 : w.cell? ⟨b, o + 4, none⟩ = some (.int .i64 d.t.beg)
  t4 : w.cell? ⟨b, o + 5, none⟩ = some (.int .i64 d.t.fin)
  t5 : w.cell? ⟨b, o + 6, none⟩ = some (.int .i64 d.t.serial)
  n : w.cell? ⟨b, o + 7, none⟩ = some (.int .i64 d.n)
  now : w.cell? ⟨b, o + 8, none⟩ = some (.int .i64 d.now)
  f : ∃ u, w.cell? ⟨b, o + 9, none⟩ = some u ∧ FloorsAt w u d.f
theorem DealOk.below {w w' : World} {b o : Nat} {d : Deal} (h : DealOk w b o d) (hb : Below w.heap.size w w') : DealOk w' b o d := by
  obtain ⟨h1, h2, h3, h4, h5, h6, h7, h8, h9, u, h10, h11⟩ := h
  exact ⟨cell_below hb h1, cell_below hb h2, cell_below hb h3, cell_below hb h4, cell_below hb h5, cell_below hb h6, cell_below hb h7, cell_below hb h8, cell_below hb h9, u, cell_below hb h10, h11.below hb⟩
def DealsAt (w : World) (v : Value) (A : List Deal) : Prop :=
  ∃ a c, v = .slice a A.length c ∧ A.length ≤ maxLen ∧ A.length ≤ c ∧ ∀ i (h : i < A.length), ∃ b o, a = some ⟨b, o, none⟩ ∧ DealOk w b (o + i * 10) A[i]
theorem DealsAt.below {w w' : World} {v : Value} {A : List Deal} (h : DealsAt w v A) (hb : Below w.heap.size w w') : DealsAt w' v A := by
  obtain ⟨a, c, h1, h2, hcap, h3⟩ := h
  refine ⟨a, c, h1, h2, hcap, fun i hi => ?_⟩
  obtain ⟨b, o, h4, h5⟩ := h3 i hi
  exact ⟨b, o, h4, h5.below hb⟩
/-- Are a deal's texts short enough for memory? -/
structure DealLen (d : Deal) : Prop where
  k : d.k.length ≤ maxLen
  t : TickLen d.t
  f : ∀ g ∈ d.f, g.who.length ≤ maxLen
theorem ten_of {α : Type} {l : List α} (h : l.length = 10) : ∃ a b c d e f g h i j, l = [a, b, c, d, e, f, g, h, i, j] := by
  match l, h with
  | [a, b, c, d, e, f, g, h, i, j], _ => exact ⟨a, b, c, d, e, f, g, h, i, j, rfl⟩
theorem flos_one {H : Type} {enc : TypeId × Value → H} {W : World} {base : Nat} {spare : Nat → Bool} {held : Bool} {fuel : Nat} {u : Value} {x : DataW H × List MemPlace}
    (h : DataW.trod enc Tryd.prog W base spare held fuel 23 [u] = some x) : ∃ A, FloorsAt W u A ∧ ∀ f ∈ A, f.who.length ≤ maxLen := by
  rcases slice_cells Tryd.underlying23 h with h0 | ⟨a', len', cap', n, hcs, _⟩
  · obtain rfl := List.singleton_inj.1 h0
    exact flos_of h
  · obtain rfl := List.singleton_inj.1 hcs
    exact flos_of h
set_option maxRecDepth 100000 in
theorem deal_cells {H : Type} {enc : TypeId × Value → H} {W : World} {base : Nat} {spare : Nat → Bool} {held : Bool} {n : Nat} {cs : List Value} {y : DataW H × List MemPlace}
    (h : DataW.trod enc Tryd.prog W base spare held n 32 cs = some y) : ∃ (p : Deal) (u : Value), cs = [.string (bs p.k), .string (bs p.t.who), .string (bs p.t.svc), .int .i64 p.t.epoch, .int .i64 p.t.beg, .int .i64 p.t.fin, .int .i64 p.t.serial, .int .i64 p.n, .int .i64 p.now, u] ∧ FloorsAt W u p.f ∧ DealLen p := by
  have hC : Tryd.prog.cellsOf 32 = 10 := by kernel_rfl
  have h1 : Tryd.prog.cellsOf 9 = 1 := by kernel_rfl
  have h2 : Tryd.prog.cellsOf 3 = 1 := by kernel_rfl
  have h6 : Tryd.prog.cellsOf 30 = 6 := by kernel_rfl
  have h3 : Tryd.prog.cellsOf 23 = 1 := by kernel_rfl
  obtain ⟨hcl, m, hf⟩ := struct_fields Tryd.underlying32 h
  obtain ⟨k0, k1, k2, k3, k4, k5, k6, k7, k8, k9, rfl⟩ := ten_of (hcl.trans hC)
  obtain ⟨_, z0⟩ := hf 0 _ rfl
  obtain ⟨_, z1⟩ := hf 1 _ rfl
  obtain ⟨_, z2⟩ := hf 2 _ rfl
  obtain ⟨_, z3⟩ := hf 3 _ rfl
  obtain ⟨_, z4⟩ := hf 4 _ rfl
  have z0 := field_one z0 h1 (v := k0) rfl
  have z2 := field_one z2 h2 (v := k7) rfl
  have z3 := field_one z3 h2 (v := k8) rfl
  have z4 := field_one z4 h3 (v := k9) rfl
  obtain ⟨s0, rfl, l0⟩ := read_string Tryd.underlying9 z0
  obtain ⟨x2, rfl, _⟩ := read_int Tryd.underlying3 z2
  obtain ⟨x3, rfl, _⟩ := read_int Tryd.underlying3 z3
  obtain ⟨F, hF, hFl⟩ := flos_one z4
  obtain ⟨t, ht, htl⟩ := tick_cells z1
  have ht2 : [k1, k2, k3, k4, k5, k6] = t.cells.toList := ht
  simp only [Tick.cells, List.cons.injEq, and_true] at ht2
  obtain ⟨rfl, rfl, rfl, rfl, rfl, rfl⟩ := ht2
  exact ⟨⟨s0, t, x2, x3, F⟩, k9, rfl, hF, l0, htl, hFl⟩
theorem slice_capD {H : Type} {enc : TypeId × Value → H} {P : Program} {w : World} {base : Nat} {spare : Nat → Bool} {held : Bool} {t e : TypeId} {fuel : Nat} {a : Option Addr} {len cap : Nat} {x : DataW H × List MemPlace} (ht : P.underlying t = some (.slice e)) (h : DataW.trod enc P w base spare held fuel t [.slice a len cap] = some x) : len ≤ cap := by
  rcases open_slice ht h with h0 | ⟨a', len', cap', m, n, D, Pl, hcs, _, hl, hm, hmm, _, hi⟩
  · cases h0.1
    exact Nat.le_refl _
  · cases hcs
    exact hl
set_option maxRecDepth 100000 in
theorem deals_of {H : Type} {enc : TypeId × Value → H} {W : World} {base : Nat} {spare : Nat → Bool} {held : Bool} {fuel : Nat} {a : Option Addr} {len cap : Nat} {x : DataW H × List MemPlace}
    (h : DataW.trod enc Tryd.prog W base spare held fuel 22 [.slice a len cap] = some x) : ∃ A, DealsAt W (.slice a len cap) A ∧ ∀ d ∈ A, DealLen d := by
  have hcap := slice_capD Tryd.underlying22 h
  rcases slice_cells Tryd.underlying22 h with h0 | ⟨a', len', cap', n, hcs, hm, hi⟩
  · cases h0
    exact ⟨[], ⟨none, 0, rfl, Nat.zero_le _, Nat.zero_le _, fun i hi => by cases hi⟩, fun f hf => by cases hf⟩
  · cases hcs
    have hC : Tryd.prog.cellsOf 32 = 10 := by kernel_rfl
    rw [hC] at hi
    obtain ⟨A, hl, hA⟩ := list_of (p := fun i (q : Deal) => (i = 0 → a' = ⟨a'.block, a'.off, none⟩) ∧ DealOk W a'.block (a'.off + i * 10) q ∧ DealLen q) len (fun i hil => by
      obtain ⟨cs, y, hcl, hat, ha, ht⟩ := hi i hil
      obtain ⟨q, u, rfl, hF, hq⟩ := deal_cells ht
      exact ⟨q, fun h0 => ha 0 (by decide) (by rw [h0]), ⟨by simpa using hat 0 (by decide), by simpa [Nat.add_assoc] using hat 1 (by decide), by simpa [Nat.add_assoc] using hat 2 (by decide), by simpa [Nat.add_assoc] using hat 3 (by decide), by simpa [Nat.add_assoc] using hat 4 (by decide), by simpa [Nat.add_assoc] using hat 5 (by decide), by simpa [Nat.add_assoc] using hat 6 (by decide), by simpa [Nat.add_assoc] using hat 7 (by decide), by simpa [Nat.add_assoc] using hat 8 (by decide), u, by simpa [Nat.add_assoc] using hat 9 (by decide), hF⟩, hq⟩)
    subst hl
    refine ⟨A, ⟨some a', cap, rfl, hm, hcap, fun i hil => ?_⟩, fun f hf => ?_⟩
    · exact ⟨a'.block, a'.off, congrArg some ((hA 0 (Nat.lt_of_le_of_lt (Nat.zero_le _) hil)).1 rfl), (hA i hil).2.1⟩
    · obtain ⟨i, hi2, rfl⟩ := List.getElem_of_mem hf
      exact (hA i hi2).2.2
end Go.Proofs.YtmjbhglmlbgkmaaDoor
