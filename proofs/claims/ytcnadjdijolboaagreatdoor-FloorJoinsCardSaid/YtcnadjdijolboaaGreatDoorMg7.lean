/- RowOwn, Base, Two, RowG, Open -/
import Derived.Test.YtcnadjdijolboaaGreatDoorMg6
import Derived.Laws.AppendOwnNone
import Derived.Maps.AppendAt
import Derived.OwnWalk
import Derived.Test.YtcnadjdijolboaaGreatDoorMg3
import Derived.Test.YtcnadjdijolboaaGreatDoorRows
import Derived.ProofKit
import Derived.LaidMore
import Derived.LaidHandle
import Derived.Stop.Joined
import Derived.RegionTactic
import Derived.Test.YtcnadjdijolboaaGreatDoorMg1
import Derived.Deep.Slices
import Derived.Deep.Fields
import Derived.ChangeSame
/- Rows of one's own in memory: stores into them, what keeps them; no program's function. -/
namespace Go.Proofs.YtcnadjdijolboaaGreatDoor
open Go.RowKit

/-- A store into a row of its own. -/
theorem ownsRow_setCell {w : World} {base g cap n size : Nat} {e : TypeId} {xs : List Value} (h : w.ownsRow base e size (.slice (some ⟨g, 0, none⟩) n cap) n xs) (i : Nat) (u : Value) :
    (w.setCell ⟨g, i, none⟩ u).ownsRow base e size (.slice (some ⟨g, 0, none⟩) n cap) n (xs.set i u) := by
  obtain ⟨hl, ⟨h1, _⟩ | ⟨g', cap', cur, he, hb, hg, hc, hm, hsz, ht⟩⟩ := h
  · cases h1
  · cases he
    refine ⟨by rw [List.length_set]; exact hl, .inr ⟨g, cap, cur.setIfInBounds i u, rfl, hb, heap_setCell_same w g i cur e u hg, hc, hm, by simpa using hsz, ?_⟩⟩
    rw [← ht]
    simp [List.take_set]
theorem ownsRow_other {w : World} {base n size : Nat} {e : TypeId} {v : Value} {xs : List Value} (h : w.ownsRow base e size v n xs) (a : Addr) (u : Value) (hne : ∀ g, v.ownBlock = some g → g ≠ a.block) :
    (w.setCell a u).ownsRow base e size v n xs := by
  obtain ⟨hl, h1 | ⟨g', cap', cur, he, hb, hg, hc, hm, hsz, ht⟩⟩ := h
  · exact ⟨hl, .inl h1⟩
  · subst he
    exact ⟨hl, .inr ⟨g', cap', cur, rfl, hb, (heap_setCell_other w a g' u (hne g' rfl)).trans hg, hc, hm, hsz, ht⟩⟩
theorem ownsRow_keeps {S : Nat → Prop} {w w' : World} {base n size : Nat} {e : TypeId} {v : Value} {xs : List Value} (h : w.ownsRow base e size v n xs) (hk : Keeps S w w') (hs : ∀ g, v.ownBlock = some g → ¬ S g) :
    w'.ownsRow base e size v n xs := by
  obtain ⟨hl, h1 | ⟨g', cap', cur, he, hb, hg, hc, hm, hsz, ht⟩⟩ := h
  · exact ⟨hl, .inl h1⟩
  · subst he
    exact ⟨hl, .inr ⟨g', cap', cur, rfl, hb, hk.obj hg (hs g' rfl), hc, hm, hsz, ht⟩⟩
/-- Of what type a row's block is. -/
theorem ownsRow_block {w : World} {base n size g : Nat} {e : TypeId} {v : Value} {xs : List Value} (h : w.ownsRow base e size v n xs) (hg : v.ownBlock = some g) : base ≤ g ∧ ∃ cs, w.heap[g]? = some (.cells cs e (0, 0)) := by
  obtain ⟨hl, ⟨rfl, _⟩ | ⟨g', cap', cur, rfl, hb, hg', hc, hm, hsz, ht⟩⟩ := h
  · cases hg
  · cases hg
    exact ⟨hb, cur, hg'⟩
theorem ownsRow_mono {w : World} {base base' : Nat} {e : TypeId} {size : Nat} {v : Value} {n : Nat} {xs : List Value} (h : w.ownsRow base e size v n xs) (hb : base' ≤ base) : w.ownsRow base' e size v n xs :=
  ⟨h.1, h.2.imp id fun ⟨g, cap, cur, h1, h2, h3⟩ => ⟨g, cap, cur, h1, Nat.le_trans hb h2, h3⟩⟩
theorem keeps_setCell {S : Nat → Prop} (w : World) (a : Addr) (u : Value) (ha : S a.block) : Keeps S w (w.setCell a u) :=
  let h := (Below.refl 0 w).setCell (p := a) (Nat.zero_le _) u
  ⟨h.os, h.tape, h.output, h.size, fun k _ hs => heap_setCell_other w a k u (fun e => hs (by rw [e]; exact ha))⟩
end Go.Proofs.YtcnadjdijolboaaGreatDoor

/- What every claim of this seat wants: the given condition on package-level variables, read as facts on cells; the row's end behind a call that leaves old memory alone. -/
namespace Go.Proofs.YtcnadjdijolboaaGreatDoor
open Go.ChangeShapes Go.WideShapes Go.ChangeAt Go.RowKit Go.ChangeMaps

theorem types_size : Tryz.prog.types.size = 234 := by kernel_rfl
theorem ownKnob_none : ownKnob Tryz.prog.godebug = none := by kernel_rfl
theorem laidOut_true : laidOutB Tryz.prog = true := by kernel_rfl

theorem trodAll_below {H : Type} {enc : TypeId × Value → H} {W W' : World} (hb : Below W.heap.size W W') : ∀ (ts : List TypeId) (vs : List Value) (ds : List (DataW H)) (ps : List MemPlace),
    (∀ t ∈ ts, Tryz.prog.readableRec t = true ∧ t < Tryz.prog.types.size) → (∀ x ∈ ps, x.block < W.heap.size) →
    DataW.TrodAll enc Tryz.prog W 0 (fun _ => true) true ts vs ds ps → DataW.TrodAll enc Tryz.prog W' 0 (fun b => decide (b < W.heap.size)) true ts vs ds ps
  | [], vs, ds, ps, _, _, h => by
    cases vs <;> cases ds <;> simp_all [DataW.TrodAll]
  | t :: ts, vs, ds, ps, hr, hlt, h => by
    obtain ⟨v, vs', d, ds', p, q, rfl, rfl, rfl, h1, h2⟩ := trodAll_cons h
    have ht := hr t (by simp)
    exact ⟨p, q, Below.trod laidOut_true ht.1 ht.2 h1 hb (fun x hx => hlt x (List.mem_append.2 (.inl hx))),
      trodAll_below hb ts vs' ds' q (fun t ht => hr t (by simp [ht])) (fun x hx => hlt x (List.mem_append.2 (.inr hx))) h2, rfl⟩

/-- The end of a law's row: it returned true, and old memory is as it was. -/
theorem law_post {H : Type} {enc : TypeId × Value → H} {f : Func} {s : ChangeSpec} {fresh hd : Bool} {W W' : World} {args : Array Value} {ds : List (DataW H)} {before : List MemPlace}
    (hvars : s.vars = []) (hrt : f.resultTypes = #[4]) (hr : ∀ t ∈ f.params.toList, Tryz.prog.readableRec t = true ∧ t < Tryz.prog.types.size)
    (hspec : s.fn H ds = { results := [.lit (.bool true)], args := ds })
    (hW : DataW.Whole enc Tryz.prog f.params.toList s.vars false W args.toList ds [] before) (hb : Below W.heap.size W W') :
    s.post enc Tryz.prog f false fresh hd false W args (.bool true) W' := by
  have hlt := fun x hx => hW.lt x hx
  obtain ⟨p, q, hA, hV, rfl, hfz, hnd⟩ := id hW
  have hq : q = [] := by rw [hvars] at hV; exact (trodVars_none hV).2
  subst hq
  refine ⟨ds, [], p ++ [], [], p, [], hW, ?_, ?_, ?_, hb.frame _, fun h => by cases h⟩
  · rw [List.append_nil, hspec, hrt]
    exact trodAll_mk1 (shut_bool Tryz.underlying4 true)
  · rw [List.append_nil, hspec]
    exact trodAll_below hb _ _ _ p hr (fun x hx => hlt x (List.mem_append.2 (.inl hx))) hA
  · rw [List.append_nil, hspec, hvars]
    rfl

/-! The condition on the package-level variables. -/
theorem laidMet_of_H {laid : List (String × DataW Unit)} {W : World} (h : laidMetH Tryz.prog laid W) : laidMet Tryz.prog (laid.filter fun x => x.2.handleName?.isNone) W := by
  unfold laidMetH at h
  split at h
  · rename_i e
    rw [List.filter_eq_self.2]
    · exact h
    · intro x hx
      rw [List.filter_eq_nil_iff] at e
      have := e x hx
      cases hn : x.2.handleName? <;> simp_all
  · exact h.1
theorem handles_of_H {laid : List (String × DataW Unit)} {W : World} (h : laidMetH Tryz.prog laid W) : ∀ x ∈ laid, x.2.handleName?.isSome = true → handlesMet Tryz.prog [x] W := by
  intro x hx hs
  unfold laidMetH at h
  split at h
  · rename_i e
    rw [List.filter_eq_nil_iff] at e
    exact absurd hs (e x hx)
  · rename_i h1 hs1 e
    intro y hy
    obtain rfl := List.mem_singleton.1 hy
    refine h.2 y ?_
    rw [← e]
    exact List.mem_filter.2 ⟨hx, hs⟩
theorem laidVars_mem {W : World} {ps : List MemPlace} : ∀ (l : List (String × DataW Unit)) (ps : List MemPlace), DataW.LaidVars Tryz.prog W l ps → ∀ n d, (n, d) ∈ l →
    ∃ g t cs fuel p, Tryz.prog.globalNamed n = some g ∧ (Tryz.prog.globals[g]?).map (·.type) = some t ∧ W.var? Tryz.prog n = some cs ∧ DataW.trod (fun _ => ()) Tryz.prog W 0 (fun _ => true) false fuel t cs.toList = some (d, p) ∧
      (∀ x ∈ MemPlace.row ⟨g, 0, none⟩ cs.size, x ∈ ps) ∧ ∀ x ∈ p, x ∈ ps
  | [], _, _, n, d, hm => by cases hm
  | (m, e) :: l, ps, h, n, d, hm => by
    obtain ⟨g, t, cs, fuel, p, q, hg, ht, hv, hd, hr, rfl⟩ := h
    rcases List.mem_cons.1 hm with h | h
    · cases h
      exact ⟨g, t, cs, fuel, p, hg, ht, hv, hd, fun x hx => by simp [hx], fun x hx => by simp [hx]⟩
    · obtain ⟨g', t', cs', fuel', p', a1, a2, a3, a4, a5, a6⟩ := laidVars_mem (ps := ps) l q hr n d h
      exact ⟨g', t', cs', fuel', p', a1, a2, a3, a4, fun x hx => by simp [a5 x hx], fun x hx => by simp [a6 x hx]⟩

theorem name_errorString : Tryz.prog.typeName? 3 201 = some "*errors.errorString" := by kernel_rfl
theorem cells_errorString : Tryz.prog.cellsOf 203 = 1 := by kernel_rfl
theorem cells_string : Tryz.prog.cellsOf 9 = 1 := by kernel_rfl
theorem star_errorString : "*" ++ "errors.errorString" = "*errors.errorString" := by decide
theorem row_errorString (u : TypeId) (h : Tryz.prog.typeName? 3 u = some "*errors.errorString") : u = 201 :=
  typeName_ptr_named (nm := "errors.errorString") (by rw [star_errorString]; kernel_rfl) (by kernel_rfl) (by decide) u (by rw [star_errorString]; exact h)

set_option maxRecDepth 100000 in
/-- A sentinel that the condition lists: its variable holds a pointer to a row that holds its text. -/
theorem sentinel_of {W : World} {laid : List (String × DataW Unit)} (h : laidMetH Tryz.prog laid W) (n : String) (text : List UInt8) (g : Nat)
    (hm : (n, .iface "*errors.errorString" (.ptr (.agg [.lit (.string text)]))) ∈ laid) (hg : Tryz.prog.globalNamed n = some g) (ht : (Tryz.prog.globals[g]?).map (·.type) = some 28) :
    ∃ (a : Addr) (s : ByteArray), W.cell? ⟨g, 0, none⟩ = some (.iface 201 (.pointer (some a))) ∧ W.cell? a = some (.string s) ∧ s.data.toList = text ∧ ∃ cs t, W.heap[a.block]? = some (.cells cs t (0, 0)) := by
  obtain ⟨ps, hps, hnd, hrows⟩ := laidMet_of_H h
  obtain ⟨g0, t0, cs0, f0, p0, hg0, ht0, hv0, hd0, hin, hip⟩ := laidVars_mem (ps := ps) _ ps hps n _ (List.mem_filter.2 ⟨hm, rfl⟩)
  obtain rfl := Option.some.inj (hg.symm.trans hg0)
  obtain rfl := Option.some.inj (ht.symm.trans ht0)
  obtain ⟨l0⟩ := cs0
  have ok0 : ∀ u v, l0 = [.iface u v] → Value.okWide Tryz.prog W .any 0 u v := fun u v e => by
    subst e
    exact (hrows g 0 (hin _ (by simp [MemPlace.row]))).2 u v (by simpa using World.var?_cell hg0 hv0 0)
  obtain ⟨a0, s0, rfl, hc0, hs0, hz0, rfl⟩ := errorString_of_trod Tryz.underlying28 row_errorString Tryz.underlying201 Tryz.underlying203 rfl rfl Tryz.underlying9 cells_errorString cells_string hd0 ok0
  obtain ⟨c, t, hb⟩ := (hrows a0.block a0.off (hip _ (by simp [MemPlace.row]))).1
  exact ⟨a0, s0, by simpa using World.var?_cell hg0 hv0 0, hc0, hs0, c, t, hb⟩
end Go.Proofs.YtcnadjdijolboaaGreatDoor

/- Blocks of two cells, written in place. -/
namespace Go.Proofs.YtcnadjdijolboaaGreatDoor
open Go.RowKit

/-- A block of two cells, kept: its cells, and none frozen. -/
theorem two_kept {w0 w1 : World} {n : Nat} {v0 v1 : Value} {T : TypeId} (hb : Below w0.heap.size w0 w1) (h : w0.heap[n]? = some (.cells #[v0, v1] T (0, 0))) :
    (w1.cell? ⟨n, 0, none⟩ = some v0 ∧ w1.cell? ⟨n, 1, none⟩ = some v1) ∧ (w1.frozen? ⟨n, 0, none⟩ = false ∧ w1.frozen? ⟨n, 1, none⟩ = false) := by
  have h1 : w1.heap[n]? = some (.cells #[v0, v1] T (0, 0)) := (hb.block n (Array.getElem?_eq_some_iff.1 h).1).trans h
  refine ⟨⟨?_, ?_⟩, ?_, ?_⟩
  all_goals first
    | (rw [cell_of_row _ _ _ _ _ _ h1]; rfl)
    | exact frozen_of_row _ _ _ _ _ h1
theorem heap_down {w w' : World} (hb : Below w.heap.size w w') {b : Nat} {o : Obj} (h : w.heap[b]? = some o) : w'.heap[b]? = some o :=
  (hb.block b (Array.getElem?_eq_some_iff.1 h).1).trans h
theorem row_set2 {w : World} {n : Nat} {u0 u1 : Value} {T : TypeId} (h : w.heap[n]? = some (.cells #[u0, u1] T (0, 0))) (v0 v1 : Value) :
    ((w.setCell ⟨n, 0, none⟩ v0).setCell ⟨n, 1, none⟩ v1).heap[n]? = some (.cells #[v0, v1] T (0, 0)) := by
  have h0 := heap_setCell_same _ n 0 _ _ v0 h
  exact heap_setCell_same _ n 1 _ _ v1 h0
theorem below_set2 {B : Nat} {a w : World} (h : Below B a w) {n : Nat} (hn : B ≤ n) (v0 v1 : Value) :
    Below B a ((w.setCell ⟨n, 0, none⟩ v0).setCell ⟨n, 1, none⟩ v1) := (h.setCell hn _).setCell hn _
end Go.Proofs.YtcnadjdijolboaaGreatDoor

/- Slices of structs, of however many cells: as lists; rows of one's own; append: lemmas. No program's function. -/
namespace Go.Proofs.YtcnadjdijolboaaGreatDoor
open Go.RowKit

/-- How an element lies in memory. -/
structure Cells (α : Type) where
  k : Nat
  pos : 0 < k
  f : α → List Value
  len : ∀ x, (f x).length = k
  one : ∀ x, ∀ u ∈ f x, u.oneCell' = true
section
variable {α : Type} (C : Cells α)
def flatG : List α → List Value
  | [] => []
  | p :: L => C.f p ++ flatG L
theorem flatG_append : ∀ L M, flatG C (L ++ M) = flatG C L ++ flatG C M
  | [], _ => rfl
  | p :: L, M => by simp only [List.cons_append, flatG, flatG_append L M, List.append_assoc]
theorem flatG_len : ∀ L : List α, (flatG C L).length = L.length * C.k
  | [] => by simp [flatG]
  | p :: L => by simp only [flatG, List.length_append, C.len, flatG_len L, List.length_cons, Nat.add_mul, Nat.one_mul]; omega
theorem flatG_one : ∀ (L : List α), ∀ u ∈ flatG C L, u.oneCell' = true
  | [], u, h => by cases h
  | p :: L, u, h => by
    rcases List.mem_append.1 h with h | h
    · exact C.one p u h
    · exact flatG_one L u h
theorem flatG_get : ∀ (L : List α) (i : Nat) (h : i < L.length) (j : Nat) (_ : j < C.k), (flatG C L)[i * C.k + j]? = (C.f L[i])[j]?
  | p :: L, 0, _, j, hj => by
    rw [Nat.zero_mul, Nat.zero_add]
    show (C.f p ++ flatG C L)[j]? = _
    rw [List.getElem?_append_left (by rw [C.len]; exact hj)]
    rfl
  | p :: L, i + 1, h, j, hj => by
    have := flatG_get L i (by simpa using h) j hj
    show (C.f p ++ flatG C L)[(i + 1) * C.k + j]? = _
    rw [List.getElem?_append_right (by rw [C.len, Nat.add_mul, Nat.one_mul]; omega), C.len, show (i + 1) * C.k + j - C.k = i * C.k + j by rw [Nat.add_mul, Nat.one_mul]; omega]
    exact this
theorem flatG_at {L : List α} {q : Nat} {u : Value} (h : (flatG C L)[q]? = some u) : ∃ i j, ∃ hi : i < L.length, j < C.k ∧ q = i * C.k + j ∧ (C.f L[i])[j]? = some u := by
  have hq := (List.getElem?_eq_some_iff.1 h).1
  rw [flatG_len] at hq
  have hp := C.pos
  have hi : q / C.k < L.length := (Nat.div_lt_iff_lt_mul hp).2 hq
  have hj : q % C.k < C.k := Nat.mod_lt _ hp
  have he : q = q / C.k * C.k + q % C.k := by rw [Nat.mul_comm]; exact (Nat.div_add_mod q C.k).symm
  refine ⟨q / C.k, q % C.k, hi, hj, he, ?_⟩
  rw [← flatG_get C L _ hi _ hj, ← he]
  exact h
theorem flatG_take : ∀ (L : List α) (n : Nat), flatG C (L.take n) = (flatG C L).take (n * C.k)
  | [], _ => by simp [flatG]
  | p :: L, 0 => by simp [flatG]
  | p :: L, n + 1 => by
    show C.f p ++ flatG C (L.take n) = (C.f p ++ flatG C L).take ((n + 1) * C.k)
    rw [flatG_take L n, List.take_append, List.take_of_length_le (l := C.f p) (by rw [C.len, Nat.add_mul, Nat.one_mul]; omega), C.len, show (n + 1) * C.k - C.k = n * C.k by rw [Nat.add_mul, Nat.one_mul]; omega]
theorem flatG_drop : ∀ (L : List α) (n : Nat), flatG C (L.drop n) = (flatG C L).drop (n * C.k)
  | [], _ => by simp [flatG]
  | p :: L, 0 => by simp [flatG]
  | p :: L, n + 1 => by
    show flatG C (L.drop n) = (C.f p ++ flatG C L).drop ((n + 1) * C.k)
    rw [flatG_drop L n, List.drop_append, List.drop_of_length_le (l := C.f p) (by rw [C.len, Nat.add_mul, Nat.one_mul]; omega), C.len, show (n + 1) * C.k - C.k = n * C.k by rw [Nat.add_mul, Nat.one_mul]; omega, List.nil_append]
/-- A slice, as a list. -/
def AtG (w : World) (v : Value) (L : List α) : Prop :=
  ∃ a c, v = .slice a L.length c ∧ L.length ≤ maxLen ∧ L.length ≤ c ∧ (a = none → c = 0) ∧ ∀ i (h : i < L.length), ∃ b o, a = some ⟨b, o, none⟩ ∧ ∀ j u, (C.f L[i])[j]? = some u → w.cell? ⟨b, o + i * C.k + j, none⟩ = some u
/-- A row of one's own. -/
def RowG (w : World) (base : Nat) (e : TypeId) (v : Value) (L : List α) : Prop := w.ownsRow base e C.k v L.length (flatG C L)
variable {C} {w w' : World} {v : Value} {L M : List α}
theorem AtG.below (h : AtG C w v L) (hb : Below w.heap.size w w') : AtG C w' v L := by
  obtain ⟨a, c, h1, h2, h3, h4, h5⟩ := h
  refine ⟨a, c, h1, h2, h3, h4, fun i hi => ?_⟩
  obtain ⟨b, o, h6, h7⟩ := h5 i hi
  exact ⟨b, o, h6, fun j u hu => cell_below hb (h7 j u hu)⟩
theorem AtG.keeps {S : Nat → Prop} (h : AtG C w v L) (hk : Keeps S w w') (hs : ∀ b, v.ownBlock = some b → ¬ S b) : AtG C w' v L := by
  obtain ⟨a, c, rfl, h2, h3, h4, h5⟩ := h
  refine ⟨a, c, rfl, h2, h3, h4, fun i hi => ?_⟩
  obtain ⟨b, o, rfl, h7⟩ := h5 i hi
  exact ⟨b, o, rfl, fun j u hu => hk.cell (h7 j u hu) (hs b rfl)⟩
theorem AtG.nil (w : World) : AtG C w (.slice none 0 0) [] := ⟨none, 0, rfl, Nat.zero_le _, Nat.zero_le _, fun _ => rfl, fun i hi => by cases hi⟩
theorem AtG.sl (h : AtG C w v L) : ∃ a c, v = .slice a L.length c := by
  obtain ⟨a, c, h1, _⟩ := h
  exact ⟨a, c, h1⟩
theorem AtG.len (h : AtG C w v L) : L.length ≤ maxLen := by
  obtain ⟨_, _, _, h1, _⟩ := h
  exact h1
theorem AtG.cells (h : AtG C w v L) : ∃ a c, v = .slice a L.length c ∧ (a = none → c = 0) ∧ ∀ ad, a = some ad → ∀ j u, (flatG C L)[j]? = some u → w.cell? (ad.add j) = some u := by
  obtain ⟨a, c, h1, _, _, h4, h5⟩ := h
  refine ⟨a, c, h1, h4, fun ad had j u hu => ?_⟩
  obtain ⟨i, q, hi, hq, rfl, hu2⟩ := flatG_at C hu
  obtain ⟨b, o, hbo, h7⟩ := h5 i hi
  have := had.symm.trans hbo
  cases this
  rw [Addr.add_lit, ← Nat.add_assoc]
  exact h7 q u hu2
/-- One element that was laid into a block of its own. -/
theorem AtG.new (x : World) (p : α) (T : TypeId) {cs : Array Value} (hc : cs = (C.f p).toArray) : AtG C (x.alloc (.cells cs T)) (.slice (some ⟨x.heap.size, 0, none⟩) 1 1) [p] := by
  subst hc
  have h := heap_alloc_new x (.cells (C.f p).toArray T)
  refine ⟨_, _, rfl, by unfold maxLen; simp, by simp, (fun e => by cases e), fun i hi => ⟨x.heap.size, 0, rfl, fun j u hu => ?_⟩⟩
  have h0 : i = 0 := by simpa using hi
  subst h0
  rw [cell_of_row _ _ _ _ _ _ h, Nat.zero_mul, Nat.zero_add]
  simpa using hu
/-- The first n of a slice. -/
theorem AtG.take {a : Option Addr} {c : Nat} (h : AtG C w (.slice a L.length c) L) {n : Nat} (hn : n ≤ L.length) : AtG C w (.slice a n c) (L.take n) := by
  obtain ⟨a', c', he, h2, h3, h4, h5⟩ := h
  cases he
  have hl : (L.take n).length = n := by rw [List.length_take]; omega
  refine ⟨a, c, by rw [hl], by omega, by omega, h4, fun i hi => ?_⟩
  obtain ⟨b, o, h6, h7⟩ := h5 i (by omega)
  exact ⟨b, o, h6, fun j u hu => h7 j u (by rw [List.getElem_take] at hu; exact hu)⟩
/-- What lies behind the first n. -/
theorem AtG.drop {a : Option Addr} {c : Nat} (h : AtG C w (.slice a L.length c) L) {n : Nat} (hn : n ≤ L.length) : AtG C w (.slice (if c = n then a else a.map (·.add (n * C.k))) (L.length - n) (c - n)) (L.drop n) := by
  obtain ⟨a', c', he, h2, h3, h4, h5⟩ := h
  cases he
  have hl : (L.drop n).length = L.length - n := List.length_drop
  refine ⟨_, _, by rw [hl], by omega, by omega, fun e => ?_, fun i hi => ?_⟩
  · by_cases hc : c = n
    · rw [if_pos hc] at e; have := h4 e; omega
    · rw [if_neg hc] at e
      cases a with
      | none => have := h4 rfl; omega
      | some ad => cases e
  · obtain ⟨b, o, h6, h7⟩ := h5 (n + i) (by omega)
    refine ⟨b, o + n * C.k, ?_, fun j u hu => ?_⟩
    · rw [if_neg (by omega), h6, Option.map_some, Addr.add_lit]
    · rw [List.getElem_drop] at hu
      have := h7 j u hu
      rw [Nat.add_mul, ← Nat.add_assoc] at this
      exact this
variable {base : Nat} {e : TypeId}
theorem RowG.nil (w : World) (base : Nat) (e : TypeId) : RowG C w base e (.slice none 0 0) [] := World.ownsRow_nil _ _ _ _
theorem RowG.keeps {S : Nat → Prop} (h : RowG C w base e v L) (hk : Keeps S w w') (hs : ∀ g, v.ownBlock = some g → ¬ S g) : RowG C w' base e v L := ownsRow_keeps h hk hs
theorem RowG.below (h : RowG C w base e v L) (hb : Below w.heap.size w w') : RowG C w' base e v L := h.keeps (Keeps.of_below (S := fun _ => False) hb) (fun _ _ h => h)
theorem RowG.mono {base' : Nat} (h : RowG C w base e v L) (hb : base' ≤ base) : RowG C w base' e v L := ownsRow_mono h hb
theorem RowG.block (h : RowG C w base e v L) {g : Nat} (hg : v.ownBlock = some g) : base ≤ g ∧ ∃ cs, w.heap[g]? = some (.cells cs e (0, 0)) := ownsRow_block h hg
theorem RowG.drewN (h : RowG C w base e v L) (n : Nat) : RowG C (w.drewN n) base e v L := ownsRow_keeps h ((Keeps.refl (fun _ => False) w).drew n) (fun _ _ h => h)
theorem RowG.alloc (h : RowG C w base e v L) (o : Obj) : RowG C (w.alloc o) base e v L := World.ownsRow.alloc h o
theorem RowG.sl (h : RowG C w base e v L) : ∃ a c, v = .slice a L.length c := by
  obtain ⟨_, ⟨rfl, hn⟩ | ⟨g, cap, cur, rfl, _⟩⟩ := h
  · rw [hn]; exact ⟨_, _, rfl⟩
  · exact ⟨_, _, rfl⟩
theorem RowG.at_ (h : RowG C w base e v L) : AtG C w v L := by
  have h0 := h
  obtain ⟨_, ⟨rfl, hn⟩ | ⟨g, cap, cur, rfl, hbg, hg, hc, hm, hsz, htake⟩⟩ := h
  · exact ⟨none, 0, by rw [hn], by omega, by omega, fun _ => rfl, fun i hi => by omega⟩
  · refine ⟨_, _, rfl, by omega, hc, (fun e => by cases e), fun i hi => ⟨g, 0, rfl, fun j u hu => ?_⟩⟩
    have hj := (List.getElem?_eq_some_iff.1 hu).1
    rw [C.len] at hj
    have h1 := flatG_get C L i hi j hj
    rw [hu] at h1
    have hq := (List.getElem?_eq_some_iff.1 h1).1
    rw [flatG_len] at hq
    rw [cell_of_row w g _ _ _ _ hg, Nat.zero_add]
    rw [← htake, List.getElem?_take, if_pos hq] at h1
    simpa using h1
/-- A row's length, kept by a store into another block. -/
theorem RowG.other (h : RowG C w base e v L) (a : Addr) (u : Value) (hne : ∀ g, v.ownBlock = some g → g ≠ a.block) : RowG C (w.setCell a u) base e v L := ownsRow_other h a u hne
theorem keeps_grown {base : Nat} (h : w.grownBy w' v.ownBlock) : Keeps (fun k => v.ownBlock = some k) w w' := ⟨h.os, h.tape, h.output, h.size, fun k hk hs => h.block k hk (fun e => hs e.symm)⟩
/-- 'append(v, u...)' onto a row of one's own. -/
theorem wpList_appG {P : Program} {ops : Array Oper} {rest : List Oper} {o : Oper} {a : Act} {Q : Exit → Act → World → Prop} (C : Cells α) (w : World) (hgd : o.guard = none) (s x : Operand) (t : TypeId)
    (ho : o.op = .call { callee := .builtin .append, args := #[s, x], argTypes := #[t, t] }) (e : TypeId) (z : Value) (bytes : Nat) (ht : P.underlying t = some (.slice e))
    (hinfo : (P.info? e).map (fun i => (i.zero, i.size, i.bytes)) = some (some z, C.k, bytes)) (hzs : z.cells.size = C.k) (hby : bytes ≤ 1000)
    (base : Nat) (v : Value) (L : List α) (hs : a.eval s = v) (hown : RowG C w base e v L) (u : Value) (M : List α) (hx : a.eval x = u) (hr : AtG C w u M) (hn : L.length + M.length ≤ 1000000) (hbase : base ≤ w.heap.size)
    (h : ∀ v' w', RowG C w' base e v' (L ++ M) → Below base w w' → w.grownBy w' v.ownBlock → (v'.ownBlock = v.ownBlock ∨ v'.ownBlock = some w.heap.size) → wpList P ops Q rest (a.put o.dst v') w') : wpList P ops Q (o :: rest) a w := by
  obtain ⟨i, hi, hz0, hz1, hz2⟩ := info_parts hinfo
  obtain ⟨ad, c, rfl, hnone, hcells⟩ := hr.cells
  cases ad with
  | none =>
    have hc := hnone rfl
    subst hc
    have hM : M = [] := by
      obtain ⟨a', c', he, _, _, _, h5⟩ := hr
      cases M with
      | nil => rfl
      | cons p M =>
        obtain ⟨b, o, h6, _⟩ := h5 0 (by simp)
        cases he
        cases h6
    subst hM
    refine wpList_append_own_none hgd s x t ho base e i C.k ht hi v L.length (flatG C L) hs hown hx (h v w (by rw [List.append_nil]; exact hown) (Below.refl _ _) (World.grownBy.refl _ _) (.inl rfl))
  | some ad =>
    refine wpList_append_own_at w hgd s x t ho base e i z C.k bytes ht hi hz0 hz1 hz2 hzs C.pos v L.length (flatG C L) hs hown ad M.length c (flatG C M) hx (flatG_len C M) (hcells ad rfl) (flatG_one C M) (by unfold maxLen; omega) ?_ hbase ?_
    · have h1 : (L.length + M.length) * bytes ≤ 1000000 * 1000 := Nat.mul_le_mul hn hby
      omega
    · intro v' w' h1 h2 _ h3
      refine h v' w' ?_ ?_ h2 h3
      · unfold RowG
        rw [List.length_append, flatG_append]
        exact h1
      · exact (Below.refl _ _).grown h2 hbase (fun k hk => (World.ownsRow.lt hown k hk).1)
/-- The same at a step of a region that draws its order. -/
theorem step_appG {P : Program} {ops : Array Oper} {o : Oper} {a : Act} {K : Act → World → Prop} {Q : Exit → Act → World → Prop} {B : Prop} (C : Cells α) (w : World) (hgd : o.guard = none) (s x : Operand) (t : TypeId)
    (ho : o.op = .call { callee := .builtin .append, args := #[s, x], argTypes := #[t, t] }) (e : TypeId) (z : Value) (bytes : Nat) (ht : P.underlying t = some (.slice e))
    (hinfo : (P.info? e).map (fun i => (i.zero, i.size, i.bytes)) = some (some z, C.k, bytes)) (hzs : z.cells.size = C.k) (hby : bytes ≤ 1000)
    (base : Nat) (v : Value) (L : List α) (hs : a.eval s = v) (hown : RowG C w base e v L) (u : Value) (M : List α) (hx : a.eval x = u) (hr : AtG C w u M) (hne : M ≠ []) (hn : L.length + M.length ≤ 1000000) (hbase : base ≤ w.heap.size)
    (h : ∀ v' w', RowG C w' base e v' (L ++ M) → Below base w w' → w.grownBy w' v.ownBlock → K (a.put o.dst v') w') :
    if Region.wanted o (yielded ops a.tmps) = true then Oper.wp P o a w K Q else B := by
  obtain ⟨i, hi, hz0, hz1, hz2⟩ := info_parts hinfo
  obtain ⟨ad, c, rfl, hnone, hcells⟩ := hr.cells
  cases ad with
  | none =>
    exfalso
    obtain ⟨a', c', he, _, _, _, h5⟩ := hr
    cases M with
    | nil => exact hne rfl
    | cons p M =>
      obtain ⟨b, o, h6, _⟩ := h5 0 (by simp)
      cases he
      cases h6
  | some ad =>
    have hbb : (L.length + M.length) * bytes ≤ 140737488355328 := by
      have h1 : (L.length + M.length) * bytes ≤ 1000000 * 1000 := Nat.mul_le_mul hn hby
      omega
    obtain ⟨v', w', hrun, h2, h3, _, h5⟩ := run_append_own_at (P := P) w base t o.type e i z C.k bytes ht hi hz0 hz1 hz2 hzs C.pos v L.length (flatG C L) hown ad M.length c (flatG C M) (flatG_len C M) (hcells ad rfl) (flatG_one C M) (by unfold maxLen; omega) hbb hbase
    have hw : Region.wanted o (yielded ops a.tmps) = true := by simp [Region.wanted, hgd]
    rw [if_pos hw]
    unfold Oper.wp execOp
    simp only [ho, resolve, invoke, builtin, Sem.run_bind, Sem.run_pure, Result.andThen_ok, List.map_toArray, List.map_cons, List.map_nil, hs, hx, hrun]
    refine h v' w' ?_ ((Below.refl _ _).grown h3 hbase (fun k hk => (World.ownsRow.lt hown k hk).1)) h3
    unfold RowG
    rw [List.length_append, flatG_append]
    exact h2
end
end Go.Proofs.YtcnadjdijolboaaGreatDoor

/- A slice of structs that came in, opened to its cells. No program in sight. -/
namespace Go.Proofs.YtcnadjdijolboaaGreatDoor
open Go.ChangeShapes Go.WideShapes Go.Deep

theorem list_of {α : Type} {p : Nat → α → Prop} : ∀ (n : Nat), (∀ i, i < n → ∃ x, p i x) → ∃ l : List α, l.length = n ∧ ∀ i (h : i < l.length), p i l[i]
  | 0, _ => ⟨[], rfl, fun i h => by cases h⟩
  | n + 1, h => by
    obtain ⟨l, hl, hp⟩ := list_of n (fun i hi => h i (by omega))
    obtain ⟨x, hx⟩ := h n (by omega)
    refine ⟨l ++ [x], by simp [hl], fun i hi => ?_⟩
    by_cases hlt : i < l.length
    · rw [List.getElem_append_left hlt]; exact hp i hlt
    · have : i = n := by simp [hl] at hi; omega
      subst this
      rw [List.getElem_append_right (by omega)]
      simpa [hl] using hx

theorem cell_plain {w : World} {a : Addr} {k : Nat} {v : Value} (h : w.cell? (a.add k) = some v) : w.cell? ⟨a.block, a.off + k, none⟩ = some v := by
  unfold Addr.add at h
  by_cases hk : k = 0
  · rw [if_pos hk] at h
    subst hk
    obtain ⟨b, o, s⟩ := a
    cases s with
    | none => simpa using h
    | some x =>
      unfold World.cell? at h
      split at h <;> simp at h
  · rw [if_neg hk] at h; exact h
theorem addr_plain {w : World} {a : Addr} {v : Value} (h : w.cell? a = some v) : a = ⟨a.block, a.off, none⟩ := by
  obtain ⟨b, o, s⟩ := a
  cases s with
  | none => rfl
  | some x =>
    unfold World.cell? at h
    split at h <;> simp at h

theorem four_of {α : Type} {l : List α} (h : l.length = 4) : ∃ a b c d, l = [a, b, c, d] := by
  match l, h with
  | [a, b, c, d], _ => exact ⟨a, b, c, d, rfl⟩
section
variable {H : Type} {enc : TypeId × Value → H} {P : Program} {w : World} {base : Nat} {spare : Nat → Bool} {held : Bool}
/-- Each element's cells, and how they are read. -/
theorem slice_cells {t e : TypeId} {fuel : Nat} {cs : List Value} {x : DataW H × List MemPlace} (ht : P.underlying t = some (.slice e)) (h : DataW.trod enc P w base spare held fuel t cs = some x) :
    cs = [.slice none 0 0] ∨ ∃ (a : Addr) (len cap n : Nat), cs = [.slice (some a) len cap] ∧ len ≤ maxLen ∧
      ∀ i, i < len → ∃ (cs' : List Value) (y : DataW H × List MemPlace), cs'.length = P.cellsOf e ∧ (∀ j, j < P.cellsOf e → w.cell? ⟨a.block, a.off + (i * P.cellsOf e + j), none⟩ = cs'[j]?) ∧
        (∀ j, j < P.cellsOf e → i * P.cellsOf e + j = 0 → a = ⟨a.block, a.off, none⟩) ∧ DataW.trod enc P w base spare held n e cs' = some y := by
  rcases open_slice ht h with h0 | ⟨a, len, cap, m, n, D, Pl, hcs, _, hl, hm, hmm, _, hi⟩
  · exact .inl h0.1
  · refine .inr ⟨a, len, cap, n, hcs, by omega, fun i him => ?_⟩
    have : i < m := by rw [hmm]; split <;> omega
    obtain ⟨cs', hc, ht'⟩ := hi i this
    obtain ⟨_, hcl, hat⟩ := World.cells?_some hc
    have hget : ∀ j, j < P.cellsOf e → ∃ v, cs'[j]? = some v ∧ w.cell? (a.add (i * P.cellsOf e + j)) = some v := fun j hj => by
      refine ⟨cs'[j]'(by omega), List.getElem?_eq_getElem (by omega), ?_⟩
      rw [← add_add, hat j hj]
      exact List.getElem?_eq_getElem (by omega)
    refine ⟨cs', _, hcl, fun j hj => ?_, fun j hj h0 => ?_, ht'⟩
    · obtain ⟨v, h1, h2⟩ := hget j hj
      rw [h1]; exact cell_plain h2
    · obtain ⟨v, h1, h2⟩ := hget j hj
      rw [h0] at h2
      exact addr_plain (w := w) (v := v) (by simpa [Addr.add] using h2)
/-- A struct's fields. -/
theorem struct_fields {e : TypeId} {fs : Array Field} {n : Nat} {cs : List Value} {y : DataW H × List MemPlace} (he : P.underlying e = some (.struct fs)) (h : DataW.trod enc P w base spare held n e cs = some y) :
    cs.length = P.cellsOf e ∧ ∃ m, ∀ (j : Nat) (f : Field), fs[j]? = some f → ∃ z, DataW.trod enc P w base spare held m f.type ((cs.drop f.offset).take (P.cellsOf f.type)) = some z := by
  obtain ⟨ys, m, _, _, hcl, hyl, hf⟩ := DataW.trod_struct he h
  refine ⟨hcl, m, fun j f hj => ?_⟩
  have hlt : j < ys.length := by rw [hyl]; exact (Array.getElem?_eq_some_iff.1 hj).1
  exact ⟨ys[j], (hf j f hj).trans (List.getElem?_eq_getElem hlt)⟩
theorem field_one {t : TypeId} {m n j : Nat} {cs : List Value} {v : Value} {z : DataW H × List MemPlace} (h : DataW.trod enc P w base spare held m t ((cs.drop j).take n) = some z) (hn : n = 1) (hv : cs[j]? = some v) : DataW.trod enc P w base spare held m t [v] = some z := by
  obtain ⟨hj, rfl⟩ := List.getElem?_eq_some_iff.1 hv
  rw [hn, List.drop_eq_getElem_cons hj] at h
  exact h
theorem read_int {t : TypeId} {k : IntKind} {n : Nat} {v : Value} {z : DataW H × List MemPlace} (ht : P.underlying t = some (.int k)) (h : DataW.trod enc P w base spare held n t [v] = some z) : ∃ x, v = .int k x ∧ (Lit.int k x).wf = true := by
  obtain ⟨x, h1, _, h3⟩ := DataW.trod_int ht h
  exact ⟨x, by simpa using h1, h3⟩
theorem read_string {t : TypeId} {n : Nat} {v : Value} {z : DataW H × List MemPlace} (ht : P.underlying t = some .string) (h : DataW.trod enc P w base spare held n t [v] = some z) : ∃ s : List UInt8, v = .string (bs s) ∧ s.length ≤ maxLen := by
  obtain ⟨x, h1, _, h3⟩ := DataW.trod_string ht h
  exact ⟨x.data.toList, by rw [bs_data]; simpa using h1, by rw [Array.length_toList]; exact h3⟩
theorem read_bool {t : TypeId} {n : Nat} {v : Value} {z : DataW H × List MemPlace} (ht : P.underlying t = some .bool) (h : DataW.trod enc P w base spare held n t [v] = some z) : ∃ b, v = .bool b := by
  obtain ⟨x, h1, _⟩ := DataW.trod_bool ht h
  exact ⟨x, by simpa using h1⟩
end
end Go.Proofs.YtcnadjdijolboaaGreatDoor
