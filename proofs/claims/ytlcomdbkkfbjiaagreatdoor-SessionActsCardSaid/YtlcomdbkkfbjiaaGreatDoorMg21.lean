/- FloG, DealArg, DealL -/
import Derived.Test.YtlcomdbkkfbjiaaGreatDoorMg11
import Derived.Test.YtlcomdbkkfbjiaaGreatDoorMg20
import Derived.Deep.LoopGhost
/- LongFloors, walked. -/
namespace Go.Proofs.YtlcomdbkkfbjiaaGreatDoor
open Go.RowKit

def longF (L : List Flo) : Bool := decide (25 < L.length) || L.any fun f => decide (20 < f.who.length)
def longI (L : List Flo) : Int := if longF L = true then 1 else 0
theorem longF_false {L : List Flo} (h : longF L = false) : L.length ≤ 25 ∧ ∀ f ∈ L, f.who.length ≤ 20 := by
  unfold longF at h
  rw [Bool.or_eq_false_iff, List.any_eq_false] at h
  refine ⟨by have := of_decide_eq_false h.1; omega, fun f hf => ?_⟩
  have := h.2 f hf
  simp at this
  exact this
set_option maxRecDepth 100000 in
theorem longf_flo (x : Value) (A : List Flo) (w : World) (hx : FloorsAt w x A) (hm : ∀ f ∈ A, f.who.length ≤ maxLen) :
    Calls Tryz.prog 23 #[x] w fun e w' => e = .returned (.int .i64 (longI A)) ∧ Below w.heap.size w w' := by
  obtain ⟨a, c, rfl, hml, _, ha⟩ := hx
  unfold maxLen at hml
  by_cases h80 : 25 < A.length
  · have hr := Lib.hid (show longI A = 1 by unfold longI longF; rw [decide_eq_true h80]; rfl)
    go_enter Tryz.func23, Tryz.ntmps23
    go_wp2_with fail
    go_ret
    exact ⟨ret_int hr.out.symm, Below.refl _ _⟩
  · have hr := Lib.hid (show longF A = A.any fun f => decide (20 < f.who.length) by unfold longF; rw [decide_eq_false h80]; rfl)
    go_enter Tryz.func23, Tryz.ntmps23
    go_wp2_with fail
    go_loopw [3] (fun i wr => ∃ j : Nat, j ≤ A.length ∧ i = .int .i64 j ∧ wr = w ∧ ∀ q (h : q < A.length), q < j → ¬ (20 < A[q].who.length)) (fun i _ => A.length - (intOf i).toNat)
    case atStart => exact ⟨0, Nat.zero_le _, rfl, rfl, fun q _ h => by omega⟩
    case round =>
      obtain ⟨j, hj, rfl, rfl, hall⟩ := hrel
      have hall := Lib.hid hall
      by_cases hlt : j < A.length
      · obtain ⟨b, o, rfl, h0, h1⟩ := ha j hlt
        have hs0 := bs_size A[j].who
        have hmem := List.getElem_mem hlt
        have h4 := hm _ hmem
        unfold maxLen at h4
        by_cases hk : 20 < A[j].who.length
        · have hr2 := Lib.hid (show longI A = 1 by unfold longI; rw [hr.out, if_pos (by rw [List.any_eq_true]; exact ⟨_, hmem, decide_eq_true hk⟩)])
          clear hmem
          go_wp2
          go_ret
          exact ⟨ret_int hr2.out.symm, Below.refl _ _⟩
        · clear hmem
          have hall2 := Lib.hid (show ∀ q (h : q < A.length), q < j + 1 → ¬ (20 < A[q].who.length) from fun q h hq => by
            rcases Nat.lt_succ_iff_lt_or_eq.1 hq with h' | rfl
            · exact hall.out q h h'
            · exact hk)
          go_wp2
          exact ⟨⟨j + 1, by omega, by simp, trivial, hall2.out⟩, by simp [intOf]; omega⟩
      · have hr2 := Lib.hid (show longI A = 0 by
          unfold longI
          rw [hr.out, if_neg]
          rw [List.any_eq_true]
          rintro ⟨y, hy, h⟩
          obtain ⟨q, hq, rfl⟩ := List.getElem_of_mem hy
          exact hall.out q hq (by omega) (of_decide_eq_true h))
        go_wp2
        go_ret
        exact ⟨ret_int hr2.out.symm, Below.refl _ _⟩
end Go.Proofs.YtlcomdbkkfbjiaaGreatDoor

/- Deals at a desk that came in; longDeals. -/
namespace Go.Proofs.YtlcomdbkkfbjiaaGreatDoor
open Go.ChangeShapes Go.WideShapes Go.ChangeAt Go.RowKit Go.ChangeMaps Go.Deep

/-- A deal at a desk: its kind, a ticket, a number, a time, floors. -/
structure Deal where
  k : List UInt8
  t : Tick
  n : Int
  now : Int
  f : List Flo
structure DealOk (w : World) (b o : Nat) (d : Deal) : Prop where
  k : w.cell? ⟨b, o, none⟩ = some (.string (bs d.k))
  t0 : w.cell? ⟨b, o + 1, none⟩ = some (.string (bs d.t.who))
  t1 : w.cell? ⟨b, o + 2, none⟩ = some (.string (bs d.t.svc))
  t2 : w.cell? ⟨b, o + 3, none⟩ = some (.int .i64 d.t.epoch)
  t3 : w.cell? ⟨b, o + 4, none⟩ = some (.int .i64 d.t.beg)
  t4 : w.cell? ⟨b, o + 5, none⟩ = some (.int .i64 d.t.fin)
  t5 : w.cell? ⟨b, o + 6, none⟩ = some (.int .i64 d.t.serial)
  n : w.cell? ⟨b, o + 7, none⟩ = some (.int .i64 d.n)
  now : w.cell? ⟨b, o + 8, none⟩ = some (.int .i64 d.now)
  f : ∃ u, w.cell? ⟨b, o + 9, none⟩ = some u ∧ FloorsAt w u d.f ∧ (u.ownBlock = none → u = .slice none 0 0)
theorem DealOk.below {w w' : World} {b o : Nat} {d : Deal} (h : DealOk w b o d) (hb : Below w.heap.size w w') : DealOk w' b o d := by
  obtain ⟨h1, h2, h3, h4, h5, h6, h7, h8, h9, u, h10, h11, h12⟩ := h
  exact ⟨cell_below hb h1, cell_below hb h2, cell_below hb h3, cell_below hb h4, cell_below hb h5, cell_below hb h6, cell_below hb h7, cell_below hb h8, cell_below hb h9, u, cell_below hb h10, h11.below hb, h12⟩
def DealsAt (w : World) (v : Value) (A : List Deal) : Prop :=
  ∃ a c, v = .slice a A.length c ∧ A.length ≤ maxLen ∧ A.length ≤ c ∧ ∀ i (h : i < A.length), ∃ b o, a = some ⟨b, o, none⟩ ∧ DealOk w b (o + i * 10) A[i]
theorem DealsAt.below {w w' : World} {v : Value} {A : List Deal} (h : DealsAt w v A) (hb : Below w.heap.size w w') : DealsAt w' v A := by
  obtain ⟨a, c, h1, h2, hcap, h3⟩ := h
  refine ⟨a, c, h1, h2, hcap, fun i hi => ?_⟩
  obtain ⟨b, o, h4, h5⟩ := h3 i hi
  exact ⟨b, o, h4, h5.below hb⟩
/-- Are a deal's texts short enough for memory? -/
structure DealLen (d : Deal) : Prop where
  k : d.k.length ≤ maxLen
  t : TickLen d.t
  f : ∀ g ∈ d.f, g.who.length ≤ maxLen
theorem ten_of {α : Type} {l : List α} (h : l.length = 10) : ∃ a b c d e f g h i j, l = [a, b, c, d, e, f, g, h, i, j] := by
  match l, h with
  | [a, b, c, d, e, f, g, h, i, j], _ => exact ⟨a, b, c, d, e, f, g, h, i, j, rfl⟩
theorem flos_one {H : Type} {enc : TypeId × Value → H} {W : World} {base : Nat} {spare : Nat → Bool} {held : Bool} {fuel : Nat} {u : Value} {x : DataW H × List MemPlace}
    (h : DataW.trod enc Tryz.prog W base spare held fuel 33 [u] = some x) : ∃ A, FloorsAt W u A ∧ (∀ f ∈ A, f.who.length ≤ maxLen) ∧ (u.ownBlock = none → u = .slice none 0 0) := by
  rcases slice_cells Tryz.underlying33 h with h0 | ⟨a', len', cap', n, hcs, _⟩
  · obtain rfl := List.singleton_inj.1 h0
    obtain ⟨A, h1, h2⟩ := flos_of h
    exact ⟨A, h1, h2, fun _ => rfl⟩
  · obtain rfl := List.singleton_inj.1 hcs
    obtain ⟨A, h1, h2⟩ := flos_of h
    exact ⟨A, h1, h2, fun e => by cases e⟩
set_option maxRecDepth 100000 in
theorem deal_cells {H : Type} {enc : TypeId × Value → H} {W : World} {base : Nat} {spare : Nat → Bool} {held : Bool} {n : Nat} {cs : List Value} {y : DataW H × List MemPlace}
    (h : DataW.trod enc Tryz.prog W base spare held n 35 cs = some y) : ∃ (p : Deal) (u : Value), cs = [.string (bs p.k), .string (bs p.t.who), .string (bs p.t.svc), .int .i64 p.t.epoch, .int .i64 p.t.beg, .int .i64 p.t.fin, .int .i64 p.t.serial, .int .i64 p.n, .int .i64 p.now, u] ∧ (FloorsAt W u p.f ∧ (u.ownBlock = none → u = .slice none 0 0)) ∧ DealLen p := by
  have hC : Tryz.prog.cellsOf 35 = 10 := by kernel_rfl
  have h1 : Tryz.prog.cellsOf 9 = 1 := by kernel_rfl
  have h2 : Tryz.prog.cellsOf 3 = 1 := by kernel_rfl
  have h6 : Tryz.prog.cellsOf 32 = 6 := by kernel_rfl
  have h3 : Tryz.prog.cellsOf 33 = 1 := by kernel_rfl
  obtain ⟨hcl, m, hf⟩ := struct_fields Tryz.underlying35 h
  obtain ⟨k0, k1, k2, k3, k4, k5, k6, k7, k8, k9, rfl⟩ := ten_of (hcl.trans hC)
  obtain ⟨_, z0⟩ := hf 0 _ rfl
  obtain ⟨_, z1⟩ := hf 1 _ rfl
  obtain ⟨_, z2⟩ := hf 2 _ rfl
  obtain ⟨_, z3⟩ := hf 3 _ rfl
  obtain ⟨_, z4⟩ := hf 4 _ rfl
  have z0 := field_one z0 h1 (v := k0) rfl
  have z2 := field_one z2 h2 (v := k7) rfl
  have z3 := field_one z3 h2 (v := k8) rfl
  have z4 := field_one z4 h3 (v := k9) rfl
  obtain ⟨s0, rfl, l0⟩ := read_string Tryz.underlying9 z0
  obtain ⟨x2, rfl, _⟩ := read_int Tryz.underlying3 z2
  obtain ⟨x3, rfl, _⟩ := read_int Tryz.underlying3 z3
  obtain ⟨F, hF, hFl, hFn⟩ := flos_one z4
  obtain ⟨t, ht, htl⟩ := tick_cells z1
  have ht2 : [k1, k2, k3, k4, k5, k6] = t.cells.toList := ht
  simp only [Tick.cells, List.cons.injEq, and_true] at ht2
  obtain ⟨rfl, rfl, rfl, rfl, rfl, rfl⟩ := ht2
  exact ⟨⟨s0, t, x2, x3, F⟩, k9, rfl, ⟨hF, hFn⟩, l0, htl, hFl⟩
theorem slice_capD {H : Type} {enc : TypeId × Value → H} {P : Program} {w : World} {base : Nat} {spare : Nat → Bool} {held : Bool} {t e : TypeId} {fuel : Nat} {a : Option Addr} {len cap : Nat} {x : DataW H × List MemPlace} (ht : P.underlying t = some (.slice e)) (h : DataW.trod enc P w base spare held fuel t [.slice a len cap] = some x) : len ≤ cap := by
  rcases open_slice ht h with h0 | ⟨a', len', cap', m, n, D, Pl, hcs, _, hl, hm, hmm, _, hi⟩
  · cases h0.1
    exact Nat.le_refl _
  · cases hcs
    exact hl
set_option maxRecDepth 100000 in
theorem deals_of {H : Type} {enc : TypeId × Value → H} {W : World} {base : Nat} {spare : Nat → Bool} {held : Bool} {fuel : Nat} {a : Option Addr} {len cap : Nat} {x : DataW H × List MemPlace}
    (h : DataW.trod enc Tryz.prog W base spare held fuel 22 [.slice a len cap] = some x) : ∃ A, DealsAt W (.slice a len cap) A ∧ ∀ d ∈ A, DealLen d := by
  have hcap := slice_capD Tryz.underlying22 h
  rcases slice_cells Tryz.underlying22 h with h0 | ⟨a', len', cap', n, hcs, hm, hi⟩
  · cases h0
    exact ⟨[], ⟨none, 0, rfl, Nat.zero_le _, Nat.zero_le _, fun i hi => by cases hi⟩, fun f hf => by cases hf⟩
  · cases hcs
    have hC : Tryz.prog.cellsOf 35 = 10 := by kernel_rfl
    rw [hC] at hi
    obtain ⟨A, hl, hA⟩ := list_of (p := fun i (q : Deal) => (i = 0 → a' = ⟨a'.block, a'.off, none⟩) ∧ DealOk W a'.block (a'.off + i * 10) q ∧ DealLen q) len (fun i hil => by
      obtain ⟨cs, y, hcl, hat, ha, ht⟩ := hi i hil
      obtain ⟨q, u, rfl, hF, hq⟩ := deal_cells ht
      exact ⟨q, fun h0 => ha 0 (by decide) (by rw [h0]), ⟨by simpa using hat 0 (by decide), by simpa [Nat.add_assoc] using hat 1 (by decide), by simpa [Nat.add_assoc] using hat 2 (by decide), by simpa [Nat.add_assoc] using hat 3 (by decide), by simpa [Nat.add_assoc] using hat 4 (by decide), by simpa [Nat.add_assoc] using hat 5 (by decide), by simpa [Nat.add_assoc] using hat 6 (by decide), by simpa [Nat.add_assoc] using hat 7 (by decide), by simpa [Nat.add_assoc] using hat 8 (by decide), u, by simpa [Nat.add_assoc] using hat 9 (by decide), hF⟩, hq⟩)
    subst hl
    refine ⟨A, ⟨some a', cap, rfl, hm, hcap, fun i hil => ?_⟩, fun f hf => ?_⟩
    · exact ⟨a'.block, a'.off, congrArg some ((hA 0 (Nat.lt_of_le_of_lt (Nat.zero_le _) hil)).1 rfl), (hA i hil).2.1⟩
    · obtain ⟨i, hi2, rfl⟩ := List.getElem_of_mem hf
      exact (hA i hi2).2.2
end Go.Proofs.YtlcomdbkkfbjiaaGreatDoor

/- longDeals, walked. -/
namespace Go.Proofs.YtlcomdbkkfbjiaaGreatDoor
open Go.RowKit

def LongRes (A : List Deal) (e : Ending) : Prop := ∃ bb : Bool, e = .returned (.bool bb) ∧ (bb = false → A.length ≤ 80 ∧ ∀ i (h : i < A.length), A[i].f.length ≤ 25)
theorem longI_len {L : List Flo} (h : longI L = 0) : L.length ≤ 25 := by
  unfold longI at h
  split at h
  · cases h
  · rename_i h1
    exact (longF_false (by simpa using h1)).1
theorem longT_or (t : Tick) : longT t = 1 ∨ longT t = 0 := by unfold longT; split <;> simp
theorem longI_or (L : List Flo) : longI L = 1 ∨ longI L = 0 := by unfold longI; split <;> simp
set_option maxHeartbeats 4000000 in
set_option maxRecDepth 100000 in
theorem longDeals_any (x : Value) (A : List Deal) (w : World) (hx : DealsAt w x A) (hm : ∀ d ∈ A, DealLen d) :
    Calls Tryz.prog 5 #[x] w fun e w' => LongRes A e ∧ Below w.heap.size w w' := by
  have hxH := Lib.hid hx
  have hmH := Lib.hid hm
  obtain ⟨a, c, rfl, hml, _, _⟩ := id hx
  unfold maxLen at hml
  clear hx hm
  by_cases h80 : 80 < A.length
  · have h8 : (80 : Int) < (A.length : Int) := by omega
    go_enter Tryz.func5, Tryz.ntmps5
    go_wp2_with fail
    go_ret
    exact ⟨⟨true, rfl, fun h => by cases h⟩, Below.refl _ _⟩
  have h8 : ¬ (80 : Int) < (A.length : Int) := by omega
  go_enter Tryz.func5, Tryz.ntmps5
  go_wp2_with fail
  go_loopg [3] (A.length + 1) (fun g i wr => ∃ j : Nat, i = .int .i64 j ∧ j ≤ A.length ∧ A.length - j + 1 ≤ g ∧ Hid (∀ i (h : i < A.length), i < j → A[i].f.length ≤ 25) ∧ Hid (Below w.heap.size w wr))
  case atStart => exact ⟨0, rfl, Nat.zero_le _, by omega, Lib.hid (fun _ _ h => absurd h (Nat.not_lt_zero _)), Lib.hid (Below.refl _ _)⟩
  case round =>
    obtain ⟨j, rfl, hj, hg, hall, hK⟩ := hrel
    by_cases hlt : j < A.length
    · obtain ⟨_, _, he, _, _, hcx⟩ := hxH.out.below hK.out
      cases he
      obtain ⟨bx, ox, rfl, hd⟩ := hcx j hlt
      have hlen := hmH.out _ (List.getElem_mem hlt)
      have hall2 := Lib.hid (fun (h0 : longI A[j].f = 0) => (show ∀ i (h : i < A.length), i < j + 1 → A[i].f.length ≤ 25 from fun i hi hij => by
        rcases Nat.lt_succ_iff_lt_or_eq.1 hij with h' | rfl
        · exact hall.out i hi h'
        · exact longI_len h0))
      obtain ⟨q, hqd⟩ : ∃ q, A[j] = q := ⟨_, rfl⟩
      rw [hqd] at hd hlen hall2
      clear hcx hqd
      have hdH := Lib.hid hd
      obtain ⟨hlk, hlT, hlf⟩ := hlen
      have hsk := bs_size q.k
      unfold maxLen at hlk
      have hk0 : (0 : Int) ≤ (j : Int) := by omega
      have hk1 : (j : Int) < (A.length : Int) := by omega
      have c0 := hd.k
      have c1 := hd.t0
      have c2 := hd.t1
      have c3 := hd.t2
      have c4 := hd.t3
      have c5 := hd.t4
      have c6 := hd.t5
      have hlt1 := longTicket_any q.t wr hlT
      dsimp only [Tick.val] at hlt1
      have hor := longT_or q.t
      generalize longT q.t = lt at *
      have hlt1 := Lib.hid hlt1
      by_cases hk : 20 < q.k.length
      · have hki : (20 : Int) < (q.k.length : Int) := by omega
        go_wp2_with fail
        go_ret
        exact ⟨⟨true, rfl, fun h => by cases h⟩, hK.out⟩
      have hki : ¬ (20 : Int) < (q.k.length : Int) := by omega
      rcases hor with rfl | rfl
      · go_wp2_with fail
        refine hlt1.out.mono ?_
        rintro e w1 ⟨rfl, hb1⟩
        have hb1 := Lib.hid (below_trans hK.out hb1)
        clear c0 c1 c2 c3 c4 c5 c6 hd
        go_wp2_with fail
        go_ret
        exact ⟨⟨true, rfl, fun h => by cases h⟩, hb1.out⟩
      go_wp2_with fail
      refine hlt1.out.mono ?_
      rintro e w1 ⟨rfl, hb1⟩
      obtain ⟨u, cf, hF, _⟩ := (hdH.out.below hb1).f
      have hlf1 := longf_flo u q.f w1 hF hlf
      have hor := longI_or q.f
      generalize longI q.f = li at *
      have hlf1 := Lib.hid hlf1
      have hb1 := Lib.hid (below_trans hK.out hb1)
      clear c0 c1 c2 c3 c4 c5 c6 hd hF
      rcases hor with rfl | rfl
      · go_wp2_with fail
        refine hlf1.out.mono ?_
        rintro e w2 ⟨rfl, hb2⟩
        have hb2 := Lib.hid (below_trans hb1.out hb2)
        go_wp2_with fail
        go_ret
        exact ⟨⟨true, rfl, fun h => by cases h⟩, hb2.out⟩
      · go_wp2_with fail
        refine hlf1.out.mono ?_
        rintro e w2 ⟨rfl, hb2⟩
        have hb2 := Lib.hid (below_trans hb1.out hb2)
        go_wp2_with fail
        go_roundg (A.length - j)
        case measure => omega
        case rel => exact ⟨j + 1, by simp, hlt, by omega, Lib.hid (hall2.out (by first | trivial | rfl)), hb2⟩
    · have hge : ¬ ((j : Int) < (A.length : Int)) := by omega
      go_wp2_with fail
      go_ret
      exact ⟨⟨false, rfl, fun _ => ⟨by omega, fun i hi => hall.out i hi (by omega)⟩⟩, hK.out⟩
end Go.Proofs.YtlcomdbkkfbjiaaGreatDoor
