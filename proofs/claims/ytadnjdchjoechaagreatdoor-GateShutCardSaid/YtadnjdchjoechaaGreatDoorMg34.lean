/- Knocks -/
import Derived.Test.YtadnjdchjoechaaGreatDoorMg25
/- Knocks that came in; longKnocks: walked. -/
namespace Go.Proofs.YtadnjdchjoechaaGreatDoor
open Go.ChangeShapes Go.WideShapes Go.ChangeAt Go.RowKit Go.ChangeMaps Go.Deep

structure Knock where
  kind : List UInt8
  s : List UInt8
  n : Int
  w : News
def knockC : Cells Knock where
  k := 8
  pos := by decide
  f := fun m => [.string (bs m.kind), .string (bs m.s), .int .i64 m.n, .int .i64 m.w.many, .int .i64 m.w.frm, .int .i64 m.w.time, .int .i64 m.w.key, .string (bs m.w.text)]
  len := fun _ => rfl
  one := fun e u hu => by
    simp only [List.mem_cons, List.mem_nil_iff, or_false] at hu
    rcases hu with rfl | rfl | rfl | rfl | rfl | rfl | rfl | rfl <;> rfl
theorem eight_of {α : Type} {l : List α} (h : l.length = 8) : ∃ a b c d e f g i, l = [a, b, c, d, e, f, g, i] := by
  match l, h with
  | [a, b, c, d, e, f, g, i], _ => exact ⟨a, b, c, d, e, f, g, i, rfl⟩
set_option maxRecDepth 100000 in
theorem knock_cells {H : Type} {enc : TypeId × Value → H} {W : World} {base : Nat} {spare : Nat → Bool} {held : Bool} {n : Nat} {cs : List Value} {y : DataW H × List MemPlace}
    (h : DataW.trod enc Tryz.prog W base spare held n 40 cs = some y) : ∃ p : Knock, cs = knockC.f p ∧ p.kind.length ≤ maxLen ∧ p.s.length ≤ maxLen ∧ p.w.text.length ≤ maxLen := by
  have hC : Tryz.prog.cellsOf 40 = 8 := by kernel_rfl
  have h1 : Tryz.prog.cellsOf 3 = 1 := by kernel_rfl
  have h2 : Tryz.prog.cellsOf 9 = 1 := by kernel_rfl
  have h3 : Tryz.prog.cellsOf 38 = 5 := by kernel_rfl
  obtain ⟨hcl, m, hf⟩ := struct_fields Tryz.underlying40 h
  obtain ⟨k0, k1, k2, k3, k4, k5, k6, k7, rfl⟩ := eight_of (hcl.trans hC)
  obtain ⟨_, z0⟩ := hf 0 _ rfl
  obtain ⟨_, z1⟩ := hf 1 _ rfl
  obtain ⟨_, z2⟩ := hf 2 _ rfl
  obtain ⟨_, z3⟩ := hf 3 _ rfl
  have z0 := field_one z0 h2 (v := k0) rfl
  have z1 := field_one z1 h2 (v := k1) rfl
  have z2 := field_one z2 h1 (v := k2) rfl
  obtain ⟨x0, rfl, l0⟩ := read_string Tryz.underlying9 z0
  obtain ⟨x1, rfl, l1⟩ := read_string Tryz.underlying9 z1
  obtain ⟨x2, rfl, _⟩ := read_int Tryz.underlying3 z2
  obtain ⟨q, hq, hl⟩ := news_cells z3
  have hq3 : [k3, k4, k5, k6, k7] = [.int .i64 q.many, .int .i64 q.frm, .int .i64 q.time, .int .i64 q.key, .string (bs q.text)] := hq
  simp only [List.cons.injEq, and_true] at hq3
  obtain ⟨rfl, rfl, rfl, rfl, rfl⟩ := hq3
  exact ⟨⟨x0, x1, x2, q⟩, rfl, l0, l1, hl⟩
set_option maxRecDepth 100000 in
theorem knocks_of {H : Type} {enc : TypeId × Value → H} {W : World} {base : Nat} {spare : Nat → Bool} {held : Bool} {fuel : Nat} {a : Option Addr} {len cap : Nat} {x : DataW H × List MemPlace}
    (h : DataW.trod enc Tryz.prog W base spare held fuel 23 [.slice a len cap] = some x) : ∃ A, AtG knockC W (.slice a len cap) A ∧ ∀ n ∈ A, n.kind.length ≤ maxLen ∧ n.s.length ≤ maxLen ∧ n.w.text.length ≤ maxLen := by
  have hcap := slice_cap Tryz.underlying23 h
  rcases slice_cells Tryz.underlying23 h with h0 | ⟨a', len', cap', n, hcs, hm, hi⟩
  · cases h0
    exact ⟨[], AtG.nil _, fun f hf => by cases hf⟩
  · cases hcs
    have hC : Tryz.prog.cellsOf 40 = 8 := by kernel_rfl
    rw [hC] at hi
    obtain ⟨A, hl, hA⟩ := list_of (p := fun i (q : Knock) => (i = 0 → a' = ⟨a'.block, a'.off, none⟩) ∧ (∀ j u, (knockC.f q)[j]? = some u → W.cell? ⟨a'.block, a'.off + i * 8 + j, none⟩ = some u) ∧ q.kind.length ≤ maxLen ∧ q.s.length ≤ maxLen ∧ q.w.text.length ≤ maxLen) len (fun i hil => by
      obtain ⟨cs, y, hcl, hat, ha, ht⟩ := hi i hil
      obtain ⟨q, rfl, hq⟩ := knock_cells ht
      refine ⟨q, fun h0 => ha 0 (by decide) (by rw [h0]), fun j u hu => ?_, hq⟩
      have hj : j < 8 := (List.getElem?_eq_some_iff.1 hu).1
      have := hat j hj
      rw [hu] at this
      simpa [Nat.add_assoc] using this)
    subst hl
    refine ⟨A, ⟨some a', cap, rfl, hm, hcap, (fun e => by cases e), fun i hil => ⟨a'.block, a'.off, congrArg some ((hA 0 (Nat.lt_of_le_of_lt (Nat.zero_le _) hil)).1 rfl), (hA i hil).2.1⟩⟩, fun f hf => ?_⟩
    obtain ⟨i, hi2, rfl⟩ := List.getElem_of_mem hf
    exact (hA i hi2).2.2
def longK (L : List Knock) : Bool := decide (40 < L.length) || L.any fun m => decide (200 < m.s.length) || decide (200 < m.w.text.length)
theorem longK_false {L : List Knock} (h : longK L = false) : L.length ≤ 40 ∧ ∀ m ∈ L, m.s.length ≤ 200 ∧ m.w.text.length ≤ 200 := by
  unfold longK at h
  rw [Bool.or_eq_false_iff, List.any_eq_false] at h
  refine ⟨by have := of_decide_eq_false h.1; omega, fun f hf => ?_⟩
  have := h.2 f hf
  simp at this
  exact this
set_option maxHeartbeats 2000000 in
set_option maxRecDepth 100000 in
theorem longK_any (x : Value) (A : List Knock) (w : World) (hx : AtG knockC w x A) (hm : ∀ n ∈ A, n.kind.length ≤ maxLen ∧ n.s.length ≤ maxLen ∧ n.w.text.length ≤ maxLen) :
    Calls Tryz.prog 7 #[x] w fun e w' => e = .returned (.bool (longK A)) ∧ w = w' := by
  obtain ⟨a, c, rfl, hml, _, _, ha⟩ := hx
  unfold maxLen at hml
  by_cases h80 : 40 < A.length
  · have hr := Lib.hid (show longK A = true by unfold longK; rw [decide_eq_true h80]; rfl)
    go_enter Tryz.func7, Tryz.ntmps7
    go_wp2_with fail
    go_ret
    exact ⟨ret_bool hr.out.symm, rfl⟩
  · have hr := Lib.hid (show longK A = A.any fun m => decide (200 < m.s.length) || decide (200 < m.w.text.length) by unfold longK; rw [decide_eq_false h80]; rfl)
    go_enter Tryz.func7, Tryz.ntmps7
    go_wp2_with fail
    go_loopw [3] (fun i wr => ∃ j : Nat, j ≤ A.length ∧ i = .int .i64 j ∧ wr = w ∧ ∀ q (h : q < A.length), q < j → ¬ (200 < A[q].s.length) ∧ ¬ (200 < A[q].w.text.length)) (fun i _ => A.length - (intOf i).toNat)
    case atStart => exact ⟨0, Nat.zero_le _, rfl, rfl, fun q _ h => by omega⟩
    case round =>
      obtain ⟨j, hj, rfl, rfl, hall⟩ := hrel
      have hall := Lib.hid hall
      by_cases hlt : j < A.length
      · obtain ⟨b, o, rfl, hcs⟩ := ha j hlt
        have h0c : wr.cell? ⟨b, o + j * 8 + 1, none⟩ = some (.string (bs A[j].s)) := hcs 1 _ rfl
        have h6c : wr.cell? ⟨b, o + j * 8 + 7, none⟩ = some (.string (bs A[j].w.text)) := hcs 7 _ rfl
        clear hcs
        have hs0 := bs_size A[j].s
        have hs6 := bs_size A[j].w.text
        have hmem := List.getElem_mem hlt
        obtain ⟨_, h4, h5⟩ := hm _ hmem
        unfold maxLen at h4 h5
        by_cases hk : 200 < A[j].s.length
        · have hr2 := Lib.hid (show longK A = true by rw [hr.out, List.any_eq_true]; exact ⟨_, hmem, by rw [decide_eq_true hk]; rfl⟩)
          clear hmem
          go_wp2
          go_ret
          exact ⟨ret_bool hr2.out.symm, rfl⟩
        by_cases hk2 : 200 < A[j].w.text.length
        · have hr2 := Lib.hid (show longK A = true by rw [hr.out, List.any_eq_true]; exact ⟨_, hmem, by rw [decide_eq_true hk2, Bool.or_true]⟩)
          clear hmem
          go_wp2
          go_ret
          exact ⟨ret_bool hr2.out.symm, rfl⟩
        · clear hmem
          have hall2 := Lib.hid (show ∀ q (h : q < A.length), q < j + 1 → ¬ (200 < A[q].s.length) ∧ ¬ (200 < A[q].w.text.length) from fun q h hq => by
            rcases Nat.lt_succ_iff_lt_or_eq.1 hq with h' | rfl
            · exact hall.out q h h'
            · exact ⟨hk, hk2⟩)
          go_wp2
          exact ⟨⟨j + 1, by omega, by simp, trivial, hall2.out⟩, by simp [intOf]; omega⟩
      · have hr2 := Lib.hid (show longK A = false by
          rw [hr.out, List.any_eq_false]
          intro y hy h
          obtain ⟨q, hq, rfl⟩ := List.getElem_of_mem hy
          have := hall.out q hq (by omega)
          rw [decide_eq_false this.1, decide_eq_false this.2] at h
          cases h)
        go_wp2
        go_ret
        exact ⟨ret_bool hr2.out.symm, rfl⟩
end Go.Proofs.YtadnjdchjoechaaGreatDoor
