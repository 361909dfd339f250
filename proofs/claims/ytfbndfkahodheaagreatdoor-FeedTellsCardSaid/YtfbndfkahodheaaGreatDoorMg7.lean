/- Base, Two, RefF2 -/
import Derived.Test.YtfbndfkahodheaaGreatDoorMg1
import Derived.Test.YtfbndfkahodheaaGreatDoorRows
import Derived.ProofKit
import Derived.LaidMore
import Derived.LaidHandle
import Derived.Stop.Joined
import Derived.Test.YtfbndfkahodheaaGreatDoorMg6
/- What every claim of this seat wants: the given condition on package-level variables, read as facts on cells; the row's end behind a call that leaves old memory alone. -/
namespace Go.Proofs.YtfbndfkahodheaaGreatDoor
open Go.ChangeShapes Go.WideShapes Go.ChangeAt Go.RowKit Go.ChangeMaps

theorem types_size : Tryz.prog.types.size = 297 := by kernel_rfl
theorem ownKnob_none : ownKnob Tryz.prog.godebug = none := by kernel_rfl
theorem laidOut_true : laidOutB Tryz.prog = true := by kernel_rfl

theorem trodAll_below {H : Type} {enc : TypeId × Value → H} {W W' : World} (hb : Below W.heap.size W W') : ∀ (ts : List TypeId) (vs : List Value) (ds : List (DataW H)) (ps : List MemPlace),
    (∀ t ∈ ts, Tryz.prog.readableRec t = true ∧ t < Tryz.prog.types.size) → (∀ x ∈ ps, x.block < W.heap.size) →
    DataW.TrodAll enc Tryz.prog W 0 (fun _ => true) true ts vs ds ps → DataW.TrodAll enc Tryz.prog W' 0 (fun b => decide (b < W.heap.size)) true ts vs ds ps
  | [], vs, ds, ps, _, _, h => by
    cases vs <;> cases ds <;> simp_all [DataW.TrodAll]
  | t :: ts, vs, ds, ps, hr, hlt, h => by
    obtain ⟨v, vs', d, ds', p, q, rfl, rfl, rfl, h1, h2⟩ := trodAll_cons h
    have ht := hr t (by simp)
    exact ⟨p, q, Below.trod laidOut_true ht.1 ht.2 h1 hb (fun x hx => hlt x (List.mem_append.2 (.inl hx))),
      trodAll_below hb ts vs' ds' q (fun t ht => hr t (by simp [ht])) (fun x hx => hlt x (List.mem_append.2 (.inr hx))) h2, rfl⟩

/-- The end of a law's row: it returned true, and old memory is as it was. -/
theorem law_post {H : Type} {enc : TypeId × Value → H} {f : Func} {s : ChangeSpec} {fresh hd : Bool} {W W' : World} {args : Array Value} {ds : List (DataW H)} {before : List MemPlace}
    (hvars : s.vars = []) (hrt : f.resultTypes = #[4]) (hr : ∀ t ∈ f.params.toList, Tryz.prog.readableRec t = true ∧ t < Tryz.prog.types.size)
    (hspec : s.fn H ds = { results := [.lit (.bool true)], args := ds })
    (hW : DataW.Whole enc Tryz.prog f.params.toList s.vars false W args.toList ds [] before) (hb : Below W.heap.size W W') :
    s.post enc Tryz.prog f false fresh hd false W args (.bool true) W' := by
  have hlt := fun x hx => hW.lt x hx
  obtain ⟨p, q, hA, hV, rfl, hfz, hnd⟩ := id hW
  have hq : q = [] := by rw [hvars] at hV; exact (trodVars_none hV).2
  subst hq
  refine ⟨ds, [], p ++ [], [], p, [], hW, ?_, ?_, ?_, hb.frame _, fun h => by cases h⟩
  · rw [List.append_nil, hspec, hrt]
    exact trodAll_mk1 (shut_bool Tryz.underlying4 true)
  · rw [List.append_nil, hspec]
    exact trodAll_below hb _ _ _ p hr (fun x hx => hlt x (List.mem_append.2 (.inl hx))) hA
  · rw [List.append_nil, hspec, hvars]
    rfl

/-! The condition on the package-level variables. -/
theorem laidMet_of_H {laid : List (String × DataW Unit)} {W : World} (h : laidMetH Tryz.prog laid W) : laidMet Tryz.prog (laid.filter fun x => x.2.handleName?.isNone) W := by
  unfold laidMetH at h
  split at h
  · rename_i e
    rw [List.filter_eq_self.2]
    · exact h
    · intro x hx
      rw [List.filter_eq_nil_iff] at e
      have := e x hx
      cases hn : x.2.handleName? <;> simp_all
  · exact h.1
theorem handles_of_H {laid : List (String × DataW Unit)} {W : World} (h : laidMetH Tryz.prog laid W) : ∀ x ∈ laid, x.2.handleName?.isSome = true → handlesMet Tryz.prog [x] W := by
  intro x hx hs
  unfold laidMetH at h
  split at h
  · rename_i e
    rw [List.filter_eq_nil_iff] at e
    exact absurd hs (e x hx)
  · rename_i h1 hs1 e
    intro y hy
    obtain rfl := List.mem_singleton.1 hy
    refine h.2 y ?_
    rw [← e]
    exact List.mem_filter.2 ⟨hx, hs⟩
theorem laidVars_mem {W : World} {ps : List MemPlace} : ∀ (l : List (String × DataW Unit)) (ps : List MemPlace), DataW.LaidVars Tryz.prog W l ps → ∀ n d, (n, d) ∈ l →
    ∃ g t cs fuel p, Tryz.prog.globalNamed n = some g ∧ (Tryz.prog.globals[g]?).map (·.type) = some t ∧ W.var? Tryz.prog n = some cs ∧ DataW.trod (fun _ => ()) Tryz.prog W 0 (fun _ => true) false fuel t cs.toList = some (d, p) ∧
      (∀ x ∈ MemPlace.row ⟨g, 0, none⟩ cs.size, x ∈ ps) ∧ ∀ x ∈ p, x ∈ ps
  | [], _, _, n, d, hm => by cases hm
  | (m, e) :: l, ps, h, n, d, hm => by
    obtain ⟨g, t, cs, fuel, p, q, hg, ht, hv, hd, hr, rfl⟩ := h
    rcases List.mem_cons.1 hm with h | h
    · cases h
      exact ⟨g, t, cs, fuel, p, hg, ht, hv, hd, fun x hx => by simp [hx], fun x hx => by simp [hx]⟩
    · obtain ⟨g', t', cs', fuel', p', a1, a2, a3, a4, a5, a6⟩ := laidVars_mem (ps := ps) l q hr n d h
      exact ⟨g', t', cs', fuel', p', a1, a2, a3, a4, fun x hx => by simp [a5 x hx], fun x hx => by simp [a6 x hx]⟩

theorem name_errorString : Tryz.prog.typeName? 3 258 = some "*errors.errorString" := by kernel_rfl
theorem cells_errorString : Tryz.prog.cellsOf 260 = 1 := by kernel_rfl
theorem cells_string : Tryz.prog.cellsOf 9 = 1 := by kernel_rfl
theorem star_errorString : "*" ++ "errors.errorString" = "*errors.errorString" := by decide
theorem row_errorString (u : TypeId) (h : Tryz.prog.typeName? 3 u = some "*errors.errorString") : u = 258 :=
  typeName_ptr_named (nm := "errors.errorString") (by rw [star_errorString]; kernel_rfl) (by kernel_rfl) (by decide) u (by rw [star_errorString]; exact h)

set_option maxRecDepth 100000 in
/-- A sentinel that the condition lists: its variable holds a pointer to a row that holds its text. -/
theorem sentinel_of {W : World} {laid : List (String × DataW Unit)} (h : laidMetH Tryz.prog laid W) (n : String) (text : List UInt8) (g : Nat)
    (hm : (n, .iface "*errors.errorString" (.ptr (.agg [.lit (.string text)]))) ∈ laid) (hg : Tryz.prog.globalNamed n = some g) (ht : (Tryz.prog.globals[g]?).map (·.type) = some 30) :
    ∃ (a : Addr) (s : ByteArray), W.cell? ⟨g, 0, none⟩ = some (.iface 258 (.pointer (some a))) ∧ W.cell? a = some (.string s) ∧ s.data.toList = text ∧ ∃ cs t, W.heap[a.block]? = some (.cells cs t (0, 0)) := by
  obtain ⟨ps, hps, hnd, hrows⟩ := laidMet_of_H h
  obtain ⟨g0, t0, cs0, f0, p0, hg0, ht0, hv0, hd0, hin, hip⟩ := laidVars_mem (ps := ps) _ ps hps n _ (List.mem_filter.2 ⟨hm, rfl⟩)
  obtain rfl := Option.some.inj (hg.symm.trans hg0)
  obtain rfl := Option.some.inj (ht.symm.trans ht0)
  obtain ⟨l0⟩ := cs0
  have ok0 : ∀ u v, l0 = [.iface u v] → Value.okWide Tryz.prog W .any 0 u v := fun u v e => by
    subst e
    exact (hrows g 0 (hin _ (by simp [MemPlace.row]))).2 u v (by simpa using World.var?_cell hg0 hv0 0)
  obtain ⟨a0, s0, rfl, hc0, hs0, hz0, rfl⟩ := errorString_of_trod Tryz.underlying30 row_errorString Tryz.underlying258 Tryz.underlying260 rfl rfl Tryz.underlying9 cells_errorString cells_string hd0 ok0
  obtain ⟨c, t, hb⟩ := (hrows a0.block a0.off (hip _ (by simp [MemPlace.row]))).1
  exact ⟨a0, s0, by simpa using World.var?_cell hg0 hv0 0, hc0, hs0, c, t, hb⟩
end Go.Proofs.YtfbndfkahodheaaGreatDoor

/- Blocks of two cells, written in place. -/
namespace Go.Proofs.YtfbndfkahodheaaGreatDoor
open Go.RowKit

/-- A block of two cells, kept: its cells, and none frozen. -/
theorem two_kept {w0 w1 : World} {n : Nat} {v0 v1 : Value} {T : TypeId} (hb : Below w0.heap.size w0 w1) (h : w0.heap[n]? = some (.cells #[v0, v1] T (0, 0))) :
    (w1.cell? ⟨n, 0, none⟩ = some v0 ∧ w1.cell? ⟨n, 1, none⟩ = some v1) ∧ (w1.frozen? ⟨n, 0, none⟩ = false ∧ w1.frozen? ⟨n, 1, none⟩ = false) := by
  have h1 : w1.heap[n]? = some (.cells #[v0, v1] T (0, 0)) := (hb.block n (Array.getElem?_eq_some_iff.1 h).1).trans h
  refine ⟨⟨?_, ?_⟩, ?_, ?_⟩
  all_goals first
    | (rw [cell_of_row _ _ _ _ _ _ h1]; rfl)
    | exact frozen_of_row _ _ _ _ _ h1
theorem heap_down {w w' : World} (hb : Below w.heap.size w w') {b : Nat} {o : Obj} (h : w.heap[b]? = some o) : w'.heap[b]? = some o :=
  (hb.block b (Array.getElem?_eq_some_iff.1 h).1).trans h
theorem row_set2 {w : World} {n : Nat} {u0 u1 : Value} {T : TypeId} (h : w.heap[n]? = some (.cells #[u0, u1] T (0, 0))) (v0 v1 : Value) :
    ((w.setCell ⟨n, 0, none⟩ v0).setCell ⟨n, 1, none⟩ v1).heap[n]? = some (.cells #[v0, v1] T (0, 0)) := by
  have h0 := heap_setCell_same _ n 0 _ _ v0 h
  exact heap_setCell_same _ n 1 _ _ v1 h0
theorem below_set2 {B : Nat} {a w : World} (h : Below B a w) {n : Nat} (hn : B ≤ n) (v0 v1 : Value) :
    Below B a ((w.setCell ⟨n, 0, none⟩ v0).setCell ⟨n, 1, none⟩ v1) := (h.setCell hn _).setCell hn _
end Go.Proofs.YtfbndfkahodheaaGreatDoor

/- The reference's floors: FloorsFault by a contract. -/
namespace Go.Proofs.YtfbndfkahodheaaGreatDoor
open Go.RowKit

def faultF (c : Nat) (a : Int) : Value := .agg #[.int .i64 (c : Int), .int .i64 a]
set_option maxRecDepth 100000 in
theorem bareF_any (c : Int) (w : World) :
    Calls Tryz.prog 48 #[.int .i64 c] w fun e w' => e = .returned (.agg #[.int .i64 c, .int .i64 (-1)]) ∧ Below w.heap.size w w' := by
  go_enter Tryz.func48, Tryz.ntmps48
  go_wp2_with fail
  exact bodyPost_ret (v := .agg #[.int .i64 c, .int .i64 (-1)]) (by simp [results, Tryz.results48, go_sem]) rfl ⟨rfl, (Below.refl _ _).alloc (Nat.le_refl _) _⟩
set_option maxRecDepth 100000 in
theorem fineF_any (w : World) :
    Calls Tryz.prog 50 #[] w fun e w' => e = .returned (.agg #[.int .i64 0, .int .i64 (-1)]) ∧ Below w.heap.size w w' := by
  go_enter Tryz.func50, Tryz.ntmps50
  go_wp2_with fail
  exact bodyPost_ret (v := .agg #[.int .i64 0, .int .i64 (-1)]) (by simp [results, Tryz.results50, go_sem]) rfl ⟨rfl, (Below.refl _ _).alloc (Nat.le_refl _) _⟩
/-- The cell of a result that is a fault. -/
def FBox (w0 w : World) : Prop := w.heap[w0.heap.size]? = some (.cells #[.int .i64 0, .int .i64 0] 33 (0, 0)) ∧ Below w0.heap.size w0 w
theorem FBox.below {w0 w w' : World} (h : FBox w0 w) (hb : Below w.heap.size w w') : FBox w0 w' := ⟨heap_down hb h.1, below_trans h.2 hb⟩
theorem FBox.cells {w0 w : World} (h : FBox w0 w) : (w.cell? ⟨w0.heap.size, 0, none⟩ = some (.int .i64 0) ∧ w.cell? ⟨w0.heap.size, 1, none⟩ = some (.int .i64 0)) ∧ (w.frozen? ⟨w0.heap.size, 0, none⟩ = false ∧ w.frozen? ⟨w0.heap.size, 1, none⟩ = false) := two_kept (Below.refl _ _) h.1
theorem FBox.set {w0 w : World} (h : FBox w0 w) (v0 v1 : Value) : let x := (w.setCell ⟨w0.heap.size, 0, none⟩ v0).setCell ⟨w0.heap.size, 1, none⟩ v1
    (x.cell? ⟨w0.heap.size, 0, none⟩ = some v0 ∧ x.cell? ⟨w0.heap.size, 1, none⟩ = some v1) ∧ Below w0.heap.size w0 x :=
  ⟨(two_kept (Below.refl _ _) (row_set2 h.1 v0 v1)).1, below_set2 h.2 (Nat.le_refl _) _ _⟩
set_option maxHeartbeats 4000000 in
set_option maxRecDepth 100000 in
theorem faultsR_flo (v : Value) (L : List Flo) (w : World) (hv : FloorsAt w v L) (hm : ∀ f ∈ L, f.who.length ≤ maxLen) :
    Calls Tryz.prog 88 #[v] w fun e w' => e = .returned (faultF (checkF L).1 (checkF L).2) ∧ Below w.heap.size w w' := by
  have hv0 := Lib.hid hv
  have hB0 : FBox w (w.alloc (.cells #[.int .i64 0, .int .i64 0] 33)) := ⟨heap_alloc_new w _, (Below.refl _ _).alloc (Nat.le_refl _) _⟩
  obtain ⟨a, c, rfl, hlen, _, hc⟩ := hv
  unfold maxLen at hlen
  by_cases h21 : 21 < L.length
  · have hr := Lib.hid (checkF_full h21)
    have h21' : (21 : Int) < (L.length : Int) := by omega
    have hba := Lib.hid (bareF_any 7 (w.alloc (.cells #[.int .i64 0, .int .i64 0] 33)))
    have hB0 := Lib.hid hB0
    clear hc
    go_enter Tryz.func88, Tryz.ntmps88
    go_wp2_with fail
    refine hba.out.mono ?_
    rintro e w1 ⟨rfl, hb1⟩
    have hB1 := hB0.out.below hb1
    obtain ⟨⟨r0, r1⟩, f0, f1⟩ := hB1.cells
    obtain ⟨⟨q0, q1⟩, hfin⟩ := hB1.set (.int .i64 7) (.int .i64 (-1))
    have hfin := Lib.hid hfin
    have hq := Lib.hid (And.intro q0 q1)
    clear q0 q1 hb1 hB1
    go_wp2_with fail
    obtain ⟨q0, q1⟩ := hq.out
    exact bodyPost_ret (v := .agg #[.int .i64 7, .int .i64 (-1)]) (by simp [results, Tryz.results88, go_sem, q0, q1]) rfl ⟨by rw [hr.out]; rfl, hfin.out⟩
  have h21' : ¬ (21 : Int) < (L.length : Int) := by omega
  have hc := Lib.hid hc
  have hm := Lib.hid hm
  have htop := Lib.hid (fun wx (hx : Below w.heap.size w wx) => topR_flo _ L wx (hv0.out.below hx))
  have hri := Lib.hid (fun (f : Flo) wx (hl : f.who.length ≤ maxLen) => oneR_flo f wx hl)
  have hB0 := Lib.hid hB0
  go_enter Tryz.func88, Tryz.ntmps88
  go_wp2_with fail
  go_loopg [3] (L.length + 1) (fun g i wr => ∃ j : Nat, i = .int .i64 j ∧ j ≤ L.length ∧ L.length - j + 1 ≤ g ∧ Hid (∀ i, i < j → errAtF L i = 0) ∧ Hid (FBox w wr))
  case atStart => exact ⟨0, rfl, Nat.zero_le _, by omega, Lib.hid (fun _ h => absurd h (Nat.not_lt_zero _)), hB0⟩
  case round =>
    obtain ⟨j, rfl, hj, hgj, hall, hK⟩ := hrel
    by_cases hlt : j < L.length
    · obtain ⟨b, o, rfl, hc0, hc1⟩ := hc.out j hlt
      have hc0 := cell_below hK.out.2 hc0
      have hc1 := cell_below hK.out.2 hc1
      have hk0 : (0 : Int) ≤ (j : Int) := by omega
      have hk1 : (j : Int) < (L.length : Int) := by omega
      have hri := Lib.hid (hri.out L[j] wr (hm.out _ (List.getElem_mem hlt)))
      have hat := Lib.hid (show errAtF L j = errF L j L[j] by unfold errAtF; rw [getD_get hlt])
      have hbad := Lib.hid (fun (hb : errAtF L j ≠ 0) => checkF_some (by omega) j hlt hb hall.out)
      have hnext := Lib.hid (show errAtF L j = 0 → ∀ i, i < j + 1 → errAtF L i = 0 from fun hb i hi => by
        rcases Nat.lt_succ_iff_lt_or_eq.1 hi with h' | rfl
        · exact hall.out i h'
        · exact hb)
      cases ho : oneF L[j] with
      | succ cd =>
        have hr := Lib.hid (show checkF L = (cd + 1, (j : Int)) by
          have h1 : errAtF L j = cd + 1 := by rw [hat.out, errF_one (by rw [ho]; exact Nat.succ_ne_zero _), ho]
          rw [hbad.out (by rw [h1]; exact Nat.succ_ne_zero _), h1])
        rw [ho] at hri
        have hz : (((cd + 1 : Nat) : Int) == 0) = false := by rw [beq_eq_false_iff_ne]; omega
        have hz1 : (0 : Int) < ((cd + 1 : Nat) : Int) := by omega
        have hz2 : ¬ ((cd + 1 : Nat) : Int) = 0 := by omega
        clear ho
        have hzH := Lib.hid (show (((cd + 1 : Nat) : Int)) = ((cd + 1 : Nat) : Int) from rfl)
        generalize hzd : ((cd + 1 : Nat) : Int) = z at hri hz hz1 hz2
        have hzd := Lib.hid hzd
        clear hzH
        go_wp2_with fail
        refine hri.out.mono ?_
        rintro e w1 ⟨rfl, hb1⟩
        have hB1 := hK.out.below hb1
        obtain ⟨⟨r0, r1⟩, f0, f1⟩ := hB1.cells
        have hBd := Lib.hid (fun n => (hB1.below (below_drawn (Below.refl _ _) n)).set (.int .i64 z) (.int .i64 (j : Int)))
        clear hb1 hB1 hc0 hc1
        go_wp2_with fail
        go_quiet (fail)
        go_wp2_with fail
        exact bodyPost_ret (v := .agg #[.int .i64 z, .int .i64 (j : Int)]) (by simp [results, Tryz.results88, go_sem, (hBd.out _).1]) rfl ⟨by rw [hr.out]; unfold faultF; rw [← hzd.out], (hBd.out _).2⟩
      | zero =>
        have ho2 := ho
        rw [ho, show ((0 : Nat) : Int) = 0 from rfl] at hri
        clear ho
        by_cases hord : 0 < j ∧ ¬ ((L.getD (j - 1) ⟨[], 0⟩).who < L[j].who)
        case pos =>
          have hr := Lib.hid (show checkF L = (8, (j : Int)) by
            have h1 : errAtF L j = 8 := by rw [hat.out, errF_order ho2 hord]
            rw [hbad.out (by rw [h1]; decide), h1])
          cases j with
          | zero => exact absurd hord.1 (Nat.lt_irrefl _)
          | succ q =>
            have hq : q < L.length := by omega
            obtain ⟨b', o', hbo, hp0, _⟩ := hc.out q hq
            cases hbo
            have hp0 := cell_below hK.out.2 hp0
            have hno : ¬ (L[q].who < L[q + 1].who) := by have := hord.2; rw [Nat.add_sub_cancel, getD_get hq] at this; exact this
            have hk3 : (q : Int) < (L.length : Int) := by omega
            have hk4 : (0 : Int) ≤ (q : Int) := by omega
            have hle : Op.bytesLess (bs L[q + 1].who).toList (bs L[q].who).toList = true ∨ (Op.bytesLess (bs L[q + 1].who).toList (bs L[q].who).toList = false ∧ ((bs L[q + 1].who).toList == (bs L[q].who).toList) = true) := by
              rw [bs_less, bs_same]
              by_cases he : L[q + 1].who = L[q].who
              · exact .inr ⟨decide_eq_false (by rw [he]; exact List.lt_irrefl _), decide_eq_true he⟩
              · exact .inl (decide_eq_true (lt_total hno (fun e => he e.symm)))
            clear hord ho2 hno
            rcases hle with hle | ⟨hle, hle2⟩
            all_goals
              go_wp2_with fail
              refine hri.out.mono ?_
              rintro e w1 ⟨rfl, hb1⟩
              have hc0 := cell_below hb1 hc0
              have hp0 := cell_below hb1 hp0
              have hB1 := hK.out.below hb1
              obtain ⟨⟨r0, r1⟩, f0, f1⟩ := hB1.cells
              have hBd := Lib.hid (fun n => (hB1.below (below_drawn (Below.refl _ _) n)).set (.int .i64 8) (.int .i64 ((q : Int) + 1)))
              clear hb1 hB1 hc1
              go_wp2_with fail
              go_quiet (fail)
              go_wp2_with fail
              go_quiet (fail)
              go_wp2_with fail
              exact bodyPost_ret (v := .agg #[.int .i64 8, .int .i64 ((q : Int) + 1)]) (by simp [results, Tryz.results88, go_sem, (hBd.out _).1]) rfl ⟨by rw [hr.out]; rfl, (hBd.out _).2⟩
        case neg =>
          have hlast := errF_last ho2 hord
          have hstep : ∃ q : Nat, j = 0 ∨ (j = q + 1 ∧ ∃ hq : q < L.length, L[q].who < L[j].who) := by
            cases j with
            | zero => exact ⟨0, .inl rfl⟩
            | succ q =>
              have hq : q < L.length := by omega
              refine ⟨q, .inr ⟨rfl, hq, ?_⟩⟩
              rcases Classical.em (L[q].who < L[q + 1].who) with h | h
              · exact h
              · exact absurd ⟨by omega, by rw [Nat.add_sub_cancel, getD_get hq]; exact h⟩ hord
          clear hord
          obtain ⟨q, hstep⟩ := hstep
          by_cases hs : L[j].who = starW
          · have h0 : errAtF L j = 0 := by rw [hat.out, hlast, if_neg (fun h => h.1 hs)]
            have hall2 := Lib.hid (hnext.out h0)
            have e1 : ((bs L[j].who).toList == [42]) = true := by rw [hs, toList_data]; rfl
            clear hlast hs h0 ho2
            rcases hstep with hz | ⟨hz, hq, hlt2⟩
            · subst hz
              simp only [Nat.zero_mul, Nat.add_zero] at hc0 hc1
              go_wp2_with fail
              refine hri.out.mono ?_
              rintro e w1 ⟨rfl, hb1⟩
              have hc0 := cell_below hb1 hc0
              have hc1 := cell_below hb1 hc1
              have hB1 := Lib.hid (hK.out.below hb1)
              clear hb1
              obtain ⟨⟨r0, r1⟩, f0, f1⟩ := hB1.out.cells
              go_wp2_with fail
              go_quiet (fail)
              go_wp2_with fail
              go_roundg (L.length - (0))
              case measure => omega
              case rel => exact ⟨0 + 1, by simp, hlt, by omega, hall2, Lib.hid (hB1.out.below (below_drawn (Below.refl _ _) _))⟩
            · subst hz
              obtain ⟨b', o', hbo, hp0, _⟩ := hc.out q hq
              cases hbo
              have hp0 := cell_below hK.out.2 hp0
              have hk3 : (q : Int) < (L.length : Int) := by omega
              have hk4 : (0 : Int) ≤ (q : Int) := by omega
              have hle : Op.bytesLess (bs L[q + 1].who).toList (bs L[q].who).toList = false := by rw [bs_less]; exact decide_eq_false (fun h => List.lt_irrefl _ (List.lt_trans h hlt2))
              have hle2 : ((bs L[q + 1].who).toList == (bs L[q].who).toList) = false := by rw [bs_same]; exact decide_eq_false (fun h => by rw [h] at hlt2; exact List.lt_irrefl _ hlt2)
              clear hlt2
              go_wp2_with fail
              refine hri.out.mono ?_
              rintro e w1 ⟨rfl, hb1⟩
              have hc0 := cell_below hb1 hc0
              have hc1 := cell_below hb1 hc1
              have hp0 := cell_below hb1 hp0
              have hB1 := Lib.hid (hK.out.below hb1)
              clear hb1
              obtain ⟨⟨r0, r1⟩, f0, f1⟩ := hB1.out.cells
              go_wp2_with fail
              go_quiet (fail)
              go_wp2_with fail
              go_quiet (fail)
              go_wp2_with fail
              go_roundg (L.length - (q + 1))
              case measure => omega
              case rel => exact ⟨q + 1 + 1, by simp, hlt, by omega, hall2, Lib.hid (hB1.out.below (below_drawn (Below.refl _ _) _))⟩
          · have e1 : ((bs L[j].who).toList == [42]) = false := by rw [toList_data, bs_list, beq_eq_false_iff_ne]; exact hs
            have e2 : ((bs L[j].who).toList != [42]) = true := by rw [bne, e1]; rfl
            by_cases hlow : L[j].ep ≤ topF L
            · have hr := Lib.hid (show checkF L = (3, (j : Int)) by
                have h1 : errAtF L j = 3 := by rw [hat.out, hlast, if_pos ⟨hs, hlow⟩]
                rw [hbad.out (by rw [h1]; decide), h1])
              clear hlast hs ho2
              generalize topF L = tp at *
              rcases hstep with hz | ⟨hz, hq, hlt2⟩
              · subst hz
                simp only [Nat.zero_mul, Nat.add_zero] at hc0 hc1
                go_wp2_with fail
                refine hri.out.mono ?_
                rintro e w1 ⟨rfl, hb1⟩
                have hc0 := cell_below hb1 hc0
                have hc1 := cell_below hb1 hc1
                have hB1 := Lib.hid (hK.out.below hb1)
                clear hb1
                obtain ⟨⟨r0, r1⟩, f0, f1⟩ := hB1.out.cells
                go_wp2_with fail
                go_quiet ((go_at_call 121; exact (htop.out _ (below_drawn hB1.out.2 _)).mono fun e w' h => ⟨h.1, _, h.2.symm⟩))
                go_wp2_with fail
                have hBd := Lib.hid (fun n => (hB1.out.below (below_drawn (Below.refl _ _) n)).set (.int .i64 3) (.int .i64 (0)))
                exact bodyPost_ret (v := .agg #[.int .i64 3, .int .i64 (0)]) (by simp [results, Tryz.results88, go_sem, (hBd.out _).1]) rfl ⟨by rw [hr.out]; rfl, (hBd.out _).2⟩
              · subst hz
                obtain ⟨b', o', hbo, hp0, _⟩ := hc.out q hq
                cases hbo
                have hp0 := cell_below hK.out.2 hp0
                have hk3 : (q : Int) < (L.length : Int) := by omega
                have hk4 : (0 : Int) ≤ (q : Int) := by omega
                have hle : Op.bytesLess (bs L[q + 1].who).toList (bs L[q].who).toList = false := by rw [bs_less]; exact decide_eq_false (fun h => List.lt_irrefl _ (List.lt_trans h hlt2))
                have hle2 : ((bs L[q + 1].who).toList == (bs L[q].who).toList) = false := by rw [bs_same]; exact decide_eq_false (fun h => by rw [h] at hlt2; exact List.lt_irrefl _ hlt2)
                clear hlt2
                go_wp2_with fail
                refine hri.out.mono ?_
                rintro e w1 ⟨rfl, hb1⟩
                have hc0 := cell_below hb1 hc0
                have hc1 := cell_below hb1 hc1
                have hp0 := cell_below hb1 hp0
                have hB1 := Lib.hid (hK.out.below hb1)
                clear hb1
                obtain ⟨⟨r0, r1⟩, f0, f1⟩ := hB1.out.cells
                go_wp2_with fail
                go_quiet (fail)
                go_wp2_with fail
                go_quiet ((go_at_call 121; exact (htop.out _ (below_drawn hB1.out.2 _)).mono fun e w' h => ⟨h.1, _, h.2.symm⟩))
                go_wp2_with fail
                have hBd := Lib.hid (fun n => (hB1.out.below (below_drawn (Below.refl _ _) n)).set (.int .i64 3) (.int .i64 ((q : Int) + 1)))
                exact bodyPost_ret (v := .agg #[.int .i64 3, .int .i64 ((q : Int) + 1)]) (by simp [results, Tryz.results88, go_sem, (hBd.out _).1]) rfl ⟨by rw [hr.out]; rfl, (hBd.out _).2⟩
            · have h0 : errAtF L j = 0 := by rw [hat.out, hlast, if_neg (fun h => hlow h.2)]
              have hall2 := Lib.hid (hnext.out h0)
              clear hlast hs h0 ho2
              generalize topF L = tp at *
              have hlow2 : decide (L[j].ep ≤ tp) = false := decide_eq_false hlow
              clear hlow
              rcases hstep with hz | ⟨hz, hq, hlt2⟩
              · subst hz
                simp only [Nat.zero_mul, Nat.add_zero] at hc0 hc1
                go_wp2_with fail
                refine hri.out.mono ?_
                rintro e w1 ⟨rfl, hb1⟩
                have hc0 := cell_below hb1 hc0
                have hc1 := cell_below hb1 hc1
                have hB1 := Lib.hid (hK.out.below hb1)
                clear hb1
                obtain ⟨⟨r0, r1⟩, f0, f1⟩ := hB1.out.cells
                go_wp2_with fail
                go_quiet ((go_at_call 121; exact (htop.out _ (below_drawn hB1.out.2 _)).mono fun e w' h => ⟨h.1, _, h.2.symm⟩))
                go_wp2_with fail
                go_roundg (L.length - (0))
                case measure => omega
                case rel => exact ⟨0 + 1, by simp, hlt, by omega, hall2, Lib.hid (hB1.out.below (below_drawn (Below.refl _ _) _))⟩
              · subst hz
                obtain ⟨b', o', hbo, hp0, _⟩ := hc.out q hq
                cases hbo
                have hp0 := cell_below hK.out.2 hp0
                have hk3 : (q : Int) < (L.length : Int) := by omega
                have hk4 : (0 : Int) ≤ (q : Int) := by omega
                have hle : Op.bytesLess (bs L[q + 1].who).toList (bs L[q].who).toList = false := by rw [bs_less]; exact decide_eq_false (fun h => List.lt_irrefl _ (List.lt_trans h hlt2))
                have hle2 : ((bs L[q + 1].who).toList == (bs L[q].who).toList) = false := by rw [bs_same]; exact decide_eq_false (fun h => by rw [h] at hlt2; exact List.lt_irrefl _ hlt2)
                clear hlt2
                go_wp2_with fail
                refine hri.out.mono ?_
                rintro e w1 ⟨rfl, hb1⟩
                have hc0 := cell_below hb1 hc0
                have hc1 := cell_below hb1 hc1
                have hp0 := cell_below hb1 hp0
                have hB1 := Lib.hid (hK.out.below hb1)
                clear hb1
                obtain ⟨⟨r0, r1⟩, f0, f1⟩ := hB1.out.cells
                go_wp2_with fail
                go_quiet (fail)
                go_wp2_with fail
                go_quiet ((go_at_call 121; exact (htop.out _ (below_drawn hB1.out.2 _)).mono fun e w' h => ⟨h.1, _, h.2.symm⟩))
                go_wp2_with fail
                go_roundg (L.length - (q + 1))
                case measure => omega
                case rel => exact ⟨q + 1 + 1, by simp, hlt, by omega, hall2, Lib.hid (hB1.out.below (below_drawn (Below.refl _ _) _))⟩
    · have hr := Lib.hid (show checkF L = (0, -1) from checkF_none (by omega) fun i hi => hall.out i (by omega))
      have hge : ¬ ((j : Int) < (L.length : Int)) := by omega
      have hfi := Lib.hid (fineF_any wr)
      go_wp2_with fail
      refine hfi.out.mono ?_
      rintro e w1 ⟨rfl, hb1⟩
      have hB1 := hK.out.below hb1
      obtain ⟨⟨r0, r1⟩, f0, f1⟩ := hB1.cells
      obtain ⟨⟨q0, q1⟩, hfin⟩ := hB1.set (.int .i64 0) (.int .i64 (-1))
      have hfin := Lib.hid hfin
      have hq := Lib.hid (And.intro q0 q1)
      clear q0 q1 hb1 hB1
      go_wp2_with fail
      obtain ⟨q0, q1⟩ := hq.out
      exact bodyPost_ret (v := .agg #[.int .i64 0, .int .i64 (-1)]) (by simp [results, Tryz.results88, go_sem, q0, q1]) rfl ⟨by rw [hr.out]; rfl, hfin.out⟩
end Go.Proofs.YtfbndfkahodheaaGreatDoor
