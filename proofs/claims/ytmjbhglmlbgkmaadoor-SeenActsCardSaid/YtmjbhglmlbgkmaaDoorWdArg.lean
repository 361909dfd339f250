/- Words that came in, with their times; longAsked. -/
import Derived.Test.YtmjbhglmlbgkmaaDoorSeenA
import Derived.Test.YtmjbhglmlbgkmaaDoorOpen
import Derived.ProofKit
namespace Go.Proofs.YtmjbhglmlbgkmaaDoor
open Go.ChangeShapes Go.WideShapes Go.ChangeAt Go.RowKit Go.ChangeMaps Go.Deep

/-- A word that is asked: its text, its time, the time at which it is asked. -/
structure Wq where
  s : List UInt8
  t : Int
  n : Int
def WordsAt (w : World) (v : Value) (A : List Wq) : Prop :=
  ∃ a c, v = .slice a A.length c ∧ A.length ≤ maxLen ∧ A.length ≤ c ∧ ∀ i (h : i < A.length), ∃ b o, a = some ⟨b, o, none⟩ ∧ w.cell? ⟨b, o + i * 3, none⟩ = some (.string (bs A[i].s)) ∧ w.cell? ⟨b, o + i * 3 + 1, none⟩ = some (.int .i64 A[i].t) ∧ w.cell? ⟨b, o + i * 3 + 2, none⟩ = some (.int .i64 A[i].n)
theorem WordsAt.below {w w' : World} {v : Value} {A : List Wq} (h : WordsAt w v A) (hb : Below w.heap.size w w') : WordsAt w' v A := by
  obtain ⟨a, c, h1, h2, hcap, h3⟩ := h
  refine ⟨a, c, h1, h2, hcap, fun i hi => ?_⟩
  obtain ⟨b, o, h4, h5, h6, h7⟩ := h3 i hi
  exact ⟨b, o, h4, cell_below hb h5, cell_below hb h6, cell_below hb h7⟩
theorem three_of {α : Type} {l : List α} (h : l.length = 3) : ∃ a b c, l = [a, b, c] := by
  match l, h with
  | [a, b, c], _ => exact ⟨a, b, c, rfl⟩
set_option maxRecDepth 100000 in
theorem wq_cells {H : Type} {enc : TypeId × Value → H} {W : World} {base : Nat} {spare : Nat → Bool} {held : Bool} {n : Nat} {cs : List Value} {y : DataW H × List MemPlace}
    (h : DataW.trod enc Tryd.prog W base spare held n 81 cs = some y) : ∃ p : Wq, cs = [.string (bs p.s), .int .i64 p.t, .int .i64 p.n] ∧ p.s.length ≤ maxLen ∧ (Lit.int .i64 p.t).wf = true ∧ (Lit.int .i64 p.n).wf = true := by
  have hC : Tryd.prog.cellsOf 81 = 3 := by kernel_rfl
  have h1 : Tryd.prog.cellsOf 9 = 1 := by kernel_rfl
  have h2 : Tryd.prog.cellsOf 3 = 1 := by kernel_rfl
  obtain ⟨hcl, m, hf⟩ := struct_fields Tryd.underlying81 h
  obtain ⟨k0, k1, k2, rfl⟩ := three_of (hcl.trans hC)
  obtain ⟨_, z0⟩ := hf 0 _ rfl
  obtain ⟨_, z1⟩ := hf 1 _ rfl
  obtain ⟨_, z2⟩ := hf 2 _ rfl
  have z0 := field_one z0 h1 (v := k0) rfl
  have z1 := field_one z1 h2 (v := k1) rfl
  have z2 := field_one z2 h2 (v := k2) rfl
  obtain ⟨s0, rfl, l0⟩ := read_string Tryd.underlying9 z0
  obtain ⟨x1, rfl, w1⟩ := read_int Tryd.underlying3 z1
  obtain ⟨x2, rfl, w2⟩ := read_int Tryd.underlying3 z2
  exact ⟨⟨s0, x1, x2⟩, rfl, l0, w1, w2⟩
theorem slice_cap3 {H : Type} {enc : TypeId × Value → H} {P : Program} {w : World} {base : Nat} {spare : Nat → Bool} {held : Bool} {t e : TypeId} {fuel : Nat} {a : Option Addr} {len cap : Nat} {x : DataW H × List MemPlace} (ht : P.underlying t = some (.slice e)) (h : DataW.trod enc P w base spare held fuel t [.slice a len cap] = some x) : len ≤ cap := by
  rcases open_slice ht h with h0 | ⟨a', len', cap', m, n, D, Pl, hcs, _, hl, hm, hmm, _, hi⟩
  · cases h0.1
    exact Nat.le_refl _
  · cases hcs
    exact hl
set_option maxRecDepth 100000 in
theorem wqs_of {H : Type} {enc : TypeId × Value → H} {W : World} {base : Nat} {spare : Nat → Bool} {held : Bool} {fuel : Nat} {a : Option Addr} {len cap : Nat} {x : DataW H × List MemPlace} 
    (h : DataW.trod enc Tryd.prog W base spare held fuel 70 [.slice a len cap] = some x) : ∃ A, WordsAt W (.slice a len cap) A ∧ ∀ f ∈ A, f.s.length ≤ maxLen := by
  have hcap := slice_cap3 Tryd.underlying70 h
  rcases slice_cells Tryd.underlying70 h with h0 | ⟨a', len', cap', n, hcs, hm, hi⟩
  · cases h0
    exact ⟨[], ⟨none, 0, rfl, Nat.zero_le _, Nat.zero_le _, fun i hi => by cases hi⟩, fun f hf => by cases hf⟩
  · cases hcs
    have hC : Tryd.prog.cellsOf 81 = 3 := by kernel_rfl
    rw [hC] at hi
    obtain ⟨A, hl, hA⟩ := list_of (p := fun i (q : Wq) => (i = 0 → a' = ⟨a'.block, a'.off, none⟩) ∧ W.cell? ⟨a'.block, a'.off + i * 3, none⟩ = some (.string (bs q.s)) ∧ W.cell? ⟨a'.block, a'.off + i * 3 + 1, none⟩ = some (.int .i64 q.t) ∧ W.cell? ⟨a'.block, a'.off + i * 3 + 2, none⟩ = some (.int .i64 q.n) ∧ q.s.length ≤ maxLen) len (fun i hil => by
      obtain ⟨cs, y, hcl, hat, ha, ht⟩ := hi i hil
      obtain ⟨q, rfl, hq, _, _⟩ := wq_cells ht
      exact ⟨q, fun h0 => ha 0 (by decide) (by rw [h0]), by simpa using hat 0 (by decide), by simpa [Nat.add_assoc] using hat 1 (by decide), by simpa [Nat.add_assoc] using hat 2 (by decide), hq⟩)
    subst hl
    refine ⟨A, ⟨some a', cap, rfl, hm, hcap, fun i hil => ?_⟩, fun f hf => ?_⟩
    · exact ⟨a'.block, a'.off, congrArg some ((hA 0 (Nat.lt_of_le_of_lt (Nat.zero_le _) hil)).1 rfl), (hA i hil).2.1, (hA i hil).2.2.1, (hA i hil).2.2.2.1⟩
    · obtain ⟨i, hi2, rfl⟩ := List.getElem_of_mem hf
      exact (hA i hi2).2.2.2.2
def longQ (A : List Wq) : Bool := decide (100 < A.length) || A.any fun f => decide (30 < f.s.length)
theorem longQ_false {A : List Wq} (h : longQ A = false) : A.length ≤ 100 ∧ ∀ f ∈ A, f.s.length ≤ 30 := by
  unfold longQ at h
  rw [Bool.or_eq_false_iff, List.any_eq_false] at h
  refine ⟨by have := of_decide_eq_false h.1; omega, fun f hf => ?_⟩
  have := h.2 f hf
  simp at this
  exact this
set_option maxRecDepth 100000 in
theorem longAsked_any (x : Value) (A : List Wq) (w : World) (hx : WordsAt w x A) (hm : ∀ f ∈ A, f.s.length ≤ maxLen) :
    Calls Tryd.prog 34 #[x] w fun e w' => e = .returned (.bool (longQ A)) ∧ Below w.heap.size w w' := by
  obtain ⟨a, c, rfl, hml, _, ha⟩ := hx
  unfold maxLen at hml
  by_cases h80 : 100 < A.length
  · have hr := Lib.hid (show longQ A = true by unfold longQ; rw [decide_eq_true h80]; rfl)
    go_enter Tryd.func34, Tryd.ntmps34
    go_wp2_with fail
    go_ret
    exact ⟨ret_bool hr.out.symm, Below.refl _ _⟩
  · have hr := Lib.hid (show longQ A = A.any fun f => decide (30 < f.s.length) by unfold longQ; rw [decide_eq_false h80]; rfl)
    go_enter Tryd.func34, Tryd.ntmps34
    go_wp2_with fail
    go_loopw [3] (fun i wr => ∃ j : Nat, j ≤ A.length ∧ i = .int .i64 j ∧ wr = w ∧ ∀ q (h : q < A.length), q < j → ¬ (30 < A[q].s.length)) (fun i _ => A.length - (intOf i).toNat)
    case atStart => exact ⟨0, Nat.zero_le _, rfl, rfl, fun q _ h => by omega⟩
    case round =>
      obtain ⟨j, hj, rfl, rfl, hall⟩ := hrel
      have hall := Lib.hid hall
      by_cases hlt : j < A.length
      · obtain ⟨b, o, rfl, h0, h1, h2⟩ := ha j hlt
        have hs0 := bs_size A[j].s
        have hmem := List.getElem_mem hlt
        have h4 := hm _ hmem
        unfold maxLen at h4
        by_cases hk : 30 < A[j].s.length
        · have hr2 := Lib.hid (show longQ A = true from hr.out.trans (by rw [List.any_eq_true]; exact ⟨_, hmem, decide_eq_true hk⟩))
          clear hmem
          go_wp2
          go_ret
          exact ⟨ret_bool hr2.out.symm, Below.refl _ _⟩
        · clear hmem
          have hall2 := Lib.hid (show ∀ q (h : q < A.length), q < j + 1 → ¬ (30 < A[q].s.length) from fun q h hq => by
            rcases Nat.lt_succ_iff_lt_or_eq.1 hq with h' | rfl
            · exact hall.out q h h'
            · exact hk)
          go_wp2
          exact ⟨⟨j + 1, by omega, by simp, trivial, hall2.out⟩, by simp [intOf]; omega⟩
      · have hr2 := Lib.hid (show longQ A = false by
          rw [hr.out, List.any_eq_false]
          rintro y hy h
          obtain ⟨q, hq, rfl⟩ := List.getElem_of_mem hy
          exact hall.out q hq (by omega) (of_decide_eq_true h))
        go_wp2
        go_ret
        exact ⟨ret_bool hr2.out.symm, Below.refl _ _⟩
end Go.Proofs.YtmjbhglmlbgkmaaDoor
