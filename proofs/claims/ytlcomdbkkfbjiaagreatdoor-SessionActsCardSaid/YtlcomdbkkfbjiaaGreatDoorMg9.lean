/- RefD0, Base, Two -/
import Derived.Test.YtlcomdbkkfbjiaaGreatDoorMg8
import Derived.Maps.AppendAt
import Derived.OwnWalk
import Derived.Test.YtlcomdbkkfbjiaaGreatDoorMg7
import Derived.Test.YtlcomdbkkfbjiaaGreatDoorRows
import Derived.ProofKit
import Derived.LaidMore
import Derived.LaidHandle
import Derived.Stop.Joined
/- The reference's desk in memory: a row of structs of its own; no walk. -/
namespace Go.Proofs.YtlcomdbkkfbjiaaGreatDoor
open Go.RowKit

def Ses.cells (p : Ses) : List Value := [.int .i64 p.n, .string (bs p.t.who), .string (bs p.t.svc), .int .i64 p.t.epoch, .int .i64 p.t.beg, .int .i64 p.t.fin, .int .i64 p.t.serial]
def flatO : List Ses → List Value
  | [] => []
  | p :: L => p.cells ++ flatO L
theorem flatO_append : ∀ L M, flatO (L ++ M) = flatO L ++ flatO M
  | [], _ => rfl
  | p :: L, M => by simp only [List.cons_append, flatO, flatO_append L M, List.append_assoc]
theorem flatO_len : ∀ L : List Ses, (flatO L).length = L.length * 7
  | [] => rfl
  | p :: L => by simp [flatO, Ses.cells, flatO_len L]; omega
theorem flatO_get : ∀ (L : List Ses) (i : Nat) (h : i < L.length), (flatO L)[i * 7]? = some (.int .i64 L[i].n) ∧ (flatO L)[i * 7 + 1]? = some (.string (bs L[i].t.who)) ∧ (flatO L)[i * 7 + 2]? = some (.string (bs L[i].t.svc)) ∧
    (flatO L)[i * 7 + 3]? = some (.int .i64 L[i].t.epoch) ∧ (flatO L)[i * 7 + 4]? = some (.int .i64 L[i].t.beg) ∧ (flatO L)[i * 7 + 5]? = some (.int .i64 L[i].t.fin) ∧ (flatO L)[i * 7 + 6]? = some (.int .i64 L[i].t.serial)
  | p :: L, 0, _ => by simp [flatO, Ses.cells]
  | p :: L, i + 1, h => by
    have := flatO_get L i (by simpa using h)
    simp only [flatO, Ses.cells, List.getElem_cons_succ]
    rw [show (i + 1) * 7 = i * 7 + 7 by omega, show i * 7 + 7 + 1 = i * 7 + 1 + 7 by omega, show i * 7 + 7 + 2 = i * 7 + 2 + 7 by omega, show i * 7 + 7 + 3 = i * 7 + 3 + 7 by omega, show i * 7 + 7 + 4 = i * 7 + 4 + 7 by omega, show i * 7 + 7 + 5 = i * 7 + 5 + 7 by omega, show i * 7 + 7 + 6 = i * 7 + 6 + 7 by omega]
    simpa using this
theorem flatO_one (L : List Ses) : ∀ u ∈ flatO L, u.oneCell' = true := by
  induction L with
  | nil => intro u hu; cases hu
  | cons p L ih =>
    intro u hu
    simp only [flatO, Ses.cells, List.cons_append, List.nil_append, List.mem_cons] at hu
    rcases hu with rfl | rfl | rfl | rfl | rfl | rfl | rfl | hu
    all_goals first | rfl | exact ih u hu
/-- A slice of sessions, as a list. -/
def OpensAt (w : World) (v : Value) (L : List Ses) : Prop :=
  ∃ a c, v = .slice a L.length c ∧ L.length ≤ maxLen ∧ ∀ i (h : i < L.length), ∃ b o, a = some ⟨b, o, none⟩ ∧ w.cell? ⟨b, o + i * 7, none⟩ = some (.int .i64 L[i].n) ∧
    w.cell? ⟨b, o + i * 7 + 1, none⟩ = some (.string (bs L[i].t.who)) ∧ w.cell? ⟨b, o + i * 7 + 2, none⟩ = some (.string (bs L[i].t.svc)) ∧ w.cell? ⟨b, o + i * 7 + 3, none⟩ = some (.int .i64 L[i].t.epoch) ∧
    w.cell? ⟨b, o + i * 7 + 4, none⟩ = some (.int .i64 L[i].t.beg) ∧ w.cell? ⟨b, o + i * 7 + 5, none⟩ = some (.int .i64 L[i].t.fin) ∧ w.cell? ⟨b, o + i * 7 + 6, none⟩ = some (.int .i64 L[i].t.serial)
theorem OpensAt.below {w w' : World} {v : Value} {L : List Ses} (h : OpensAt w v L) (hb : Below w.heap.size w w') : OpensAt w' v L := by
  obtain ⟨a, c, rfl, hm, hc⟩ := h
  refine ⟨a, c, rfl, hm, fun i hi => ?_⟩
  obtain ⟨b, o, rfl, h0, h1, h2, h3, h4, h5, h6⟩ := hc i hi
  exact ⟨b, o, rfl, cell_below hb h0, cell_below hb h1, cell_below hb h2, cell_below hb h3, cell_below hb h4, cell_below hb h5, cell_below hb h6⟩
theorem opensAt_of_row {w : World} {base : Nat} {v : Value} {L : List Ses} (hL : L.length ≤ maxLen) (h : w.ownsRow base 70 7 v L.length (flatO L)) : OpensAt w v L := by
  obtain ⟨_, ⟨rfl, hn⟩ | ⟨g, cap, cur, rfl, hbg, hg, hc, _, hsz, htake⟩⟩ := h
  · exact ⟨none, 0, by rw [hn], hL, fun i hi => by omega⟩
  · refine ⟨_, _, rfl, hL, fun i hi => ⟨g, 0, rfl, ?_⟩⟩
    have key : ∀ k u, k < L.length * 7 → (flatO L)[k]? = some u → w.cell? ⟨g, 0 + k, none⟩ = some u := by
      intro k u hk hu
      rw [cell_of_row w g (0 + k) _ _ _ hg, Nat.zero_add]
      rw [← htake, List.getElem?_take, if_pos hk] at hu
      simpa using hu
    obtain ⟨h0, h1, h2, h3, h4, h5, h6⟩ := flatO_get L i hi
    have k1 := key _ _ (by omega) h1
    have k2 := key _ _ (by omega) h2
    have k3 := key _ _ (by omega) h3
    have k4 := key _ _ (by omega) h4
    have k5 := key _ _ (by omega) h5
    have k6 := key _ _ (by omega) h6
    rw [← Nat.add_assoc] at k1 k2 k3 k4 k5 k6
    exact ⟨key _ _ (by omega) h0, k1, k2, k3, k4, k5, k6⟩
theorem info_open : (Tryz.prog.info? 70).map (fun i => (i.zero, i.size, i.bytes)) = some (some (.agg #[.int .i64 0, .string ⟨#[]⟩, .string ⟨#[]⟩, .int .i64 0, .int .i64 0, .int .i64 0, .int .i64 0]), 7, 72) := by kernel_rfl
/-- The reference's desk, at block b: how many were opened, a row of sessions of its own. -/
structure DRef (w : World) (base b : Nat) (many : Int) (L : List Ses) : Prop where
  ge : base ≤ b
  row : ∃ v, w.heap[b]? = some (.cells #[.int .i64 many, v] 30 (0, 0)) ∧ w.ownsRow base 70 7 v L.length (flatO L)
/-- The blocks that it may write. -/
def DRefS (base : Nat) (w : World) (k : Nat) : Prop := base ≤ k ∧ ∃ cs T z, w.heap[k]? = some (.cells cs T z) ∧ (T = 30 ∨ T = 70)
theorem DRef.keeps {S : Nat → Prop} {w w' : World} {base b : Nat} {many : Int} {L : List Ses} (h : DRef w base b many L) (hk : Keeps S w w') (hs : ∀ k, DRefS base w k → ¬ S k) : DRef w' base b many L := by
  obtain ⟨hge, v, hb, ho⟩ := h
  refine ⟨hge, v, hk.obj hb (hs b ⟨hge, _, _, _, hb, .inl rfl⟩), ownsRow_keeps ho hk fun g hg => ?_⟩
  obtain ⟨h1, cs, h2⟩ := ownsRow_block ho hg
  exact hs g ⟨h1, _, _, _, h2, .inr rfl⟩
theorem DRef.below {w w' : World} {base b : Nat} {many : Int} {L : List Ses} (h : DRef w base b many L) (hb : Below w.heap.size w w') : DRef w' base b many L :=
  h.keeps (S := fun _ => False) (Keeps.of_below hb) (fun _ _ h => h)
theorem DRef.at0 {w : World} {base b : Nat} {many : Int} {L : List Ses} (h : DRef w base b many L) : w.cell? ⟨b, 0, none⟩ = some (.int .i64 many) ∧ (∀ i, w.frozen? ⟨b, i, none⟩ = false) ∧ ∃ v, w.cell? ⟨b, 1, none⟩ = some v ∧ w.ownsRow base 70 7 v L.length (flatO L) := by
  obtain ⟨hge, v, hb, ho⟩ := h
  exact ⟨by rw [cell_of_row w b 0 _ _ _ hb]; rfl, fun i => frozen_of_row _ _ _ _ _ hb, v, by rw [cell_of_row w b 1 _ _ _ hb]; rfl, ho⟩
theorem DRef.lt {w : World} {base b : Nat} {many : Int} {L : List Ses} (h : DRef w base b many L) : b < w.heap.size := by
  obtain ⟨_, v, hb, _⟩ := h
  exact (Array.getElem?_eq_some_iff.1 hb).1
theorem DRefS.lt {w : World} {base k : Nat} (h : DRefS base w k) : base ≤ k ∧ k < w.heap.size := by
  obtain ⟨h1, _, _, _, h2, _⟩ := h
  exact ⟨h1, (Array.getElem?_eq_some_iff.1 h2).1⟩
theorem dref_trans {base : Nat} {u v w : World} (h : Keeps (DRefS base u) u v) (k : Keeps (DRefS base v) v w) : Keeps (DRefS base u) u w := by
  refine ⟨k.os.trans h.os, k.tape.trans h.tape, k.output.trans h.output, Nat.le_trans h.size k.size, fun i hi hs => ?_⟩
  have h1 := h.block i hi hs
  refine (k.block i (Nat.lt_of_lt_of_le hi h.size) ?_).trans h1
  rintro ⟨h2, cs, T, z, h3, h4⟩
  exact hs ⟨h2, cs, T, z, h1.symm.trans h3, h4⟩
theorem dref_below {base : Nat} {u v w : World} (h : Below u.heap.size u v) (k : Keeps (DRefS base v) v w) : Keeps (DRefS base u) u w := dref_trans (Keeps.of_below h) k
/-- The program's desk lies in none of these blocks. -/
theorem DeskS.off_ref {w : World} {base b r : Nat} {next : Int} {L : List Ses} (h : DeskS w b r next L) : ¬ DRefS base w b ∧ ¬ DRefS base w r := by
  obtain ⟨hb, l, ⟨es, c, hr, _⟩, _⟩ := h
  constructor
  · rintro ⟨_, cs, T, z, h1, h2⟩
    rw [hb] at h1
    injection h1 with h1
    injection h1 with _ h1 _
    subst h1
    revert h2
    decide
  · rintro ⟨_, cs, T, z, h1, _⟩
    rw [hr] at h1
    cases h1
/-- A store of a new row. -/
theorem dref_store {w w' : World} {base base2 b : Nat} {many : Int} {L M : List Ses} {v : Value} (hB : DRef w base b many L) (hb : Below base2 w w') (h2 : w.heap.size ≤ base2) (hb2 : base ≤ base2)
    (hown : w'.ownsRow base2 70 7 v M.length (flatO M)) :
    Keeps (DRefS base w) w (w'.setCell ⟨b, 1, none⟩ v) ∧ DRef (w'.setCell ⟨b, 1, none⟩ v) base b many M := by
  have hblt := hB.lt
  obtain ⟨hge, u, hbk, _⟩ := hB
  have hk : Keeps (DRefS base w) w w' := ⟨hb.os, hb.tape, hb.output, hb.size, fun i hi _ => hb.block i (Nat.lt_of_lt_of_le hi h2)⟩
  have hbk' : w'.heap[b]? = some (.cells #[.int .i64 many, u] 30 (0, 0)) := (hb.block b (Nat.lt_of_lt_of_le hblt h2)).trans hbk
  refine ⟨hk.trans (keeps_setCell _ _ _ ⟨hge, _, _, _, hbk, .inl rfl⟩), hge, v, heap_setCell_same w' b 1 _ _ v hbk', ?_⟩
  exact ownsRow_other (ownsRow_mono hown hb2) _ _ (fun g' hg' => by
    have := (ownsRow_block hown hg').1
    simp
    omega)
end Go.Proofs.YtlcomdbkkfbjiaaGreatDoor

/- What every claim of this seat wants: the given condition on package-level variables, read as facts on cells; the row's end behind a call that leaves old memory alone. -/
namespace Go.Proofs.YtlcomdbkkfbjiaaGreatDoor
open Go.ChangeShapes Go.WideShapes Go.ChangeAt Go.RowKit Go.ChangeMaps

theorem types_size : Tryz.prog.types.size = 208 := by kernel_rfl
theorem ownKnob_none : ownKnob Tryz.prog.godebug = none := by kernel_rfl
theorem laidOut_true : laidOutB Tryz.prog = true := by kernel_rfl

theorem trodAll_below {H : Type} {enc : TypeId × Value → H} {W W' : World} (hb : Below W.heap.size W W') : ∀ (ts : List TypeId) (vs : List Value) (ds : List (DataW H)) (ps : List MemPlace),
    (∀ t ∈ ts, Tryz.prog.readableRec t = true ∧ t < Tryz.prog.types.size) → (∀ x ∈ ps, x.block < W.heap.size) →
    DataW.TrodAll enc Tryz.prog W 0 (fun _ => true) true ts vs ds ps → DataW.TrodAll enc Tryz.prog W' 0 (fun b => decide (b < W.heap.size)) true ts vs ds ps
  | [], vs, ds, ps, _, _, h => by
    cases vs <;> cases ds <;> simp_all [DataW.TrodAll]
  | t :: ts, vs, ds, ps, hr, hlt, h => by
    obtain ⟨v, vs', d, ds', p, q, rfl, rfl, rfl, h1, h2⟩ := trodAll_cons h
    have ht := hr t (by simp)
    exact ⟨p, q, Below.trod laidOut_true ht.1 ht.2 h1 hb (fun x hx => hlt x (List.mem_append.2 (.inl hx))),
      trodAll_below hb ts vs' ds' q (fun t ht => hr t (by simp [ht])) (fun x hx => hlt x (List.mem_append.2 (.inr hx))) h2, rfl⟩

/-- The end of a law's row: it returned true, and old memory is as it was. -/
theorem law_post {H : Type} {enc : TypeId × Value → H} {f : Func} {s : ChangeSpec} {fresh hd : Bool} {W W' : World} {args : Array Value} {ds : List (DataW H)} {before : List MemPlace}
    (hvars : s.vars = []) (hrt : f.resultTypes = #[4]) (hr : ∀ t ∈ f.params.toList, Tryz.prog.readableRec t = true ∧ t < Tryz.prog.types.size)
    (hspec : s.fn H ds = { results := [.lit (.bool true)], args := ds })
    (hW : DataW.Whole enc Tryz.prog f.params.toList s.vars false W args.toList ds [] before) (hb : Below W.heap.size W W') :
    s.post enc Tryz.prog f false fresh hd false W args (.bool true) W' := by
  have hlt := fun x hx => hW.lt x hx
  obtain ⟨p, q, hA, hV, rfl, hfz, hnd⟩ := id hW
  have hq : q = [] := by rw [hvars] at hV; exact (trodVars_none hV).2
  subst hq
  refine ⟨ds, [], p ++ [], [], p, [], hW, ?_, ?_, ?_, hb.frame _, fun h => by cases h⟩
  · rw [List.append_nil, hspec, hrt]
    exact trodAll_mk1 (shut_bool Tryz.underlying4 true)
  · rw [List.append_nil, hspec]
    exact trodAll_below hb _ _ _ p hr (fun x hx => hlt x (List.mem_append.2 (.inl hx))) hA
  · rw [List.append_nil, hspec, hvars]
    rfl

/-! The condition on the package-level variables. -/
theorem laidMet_of_H {laid : List (String × DataW Unit)} {W : World} (h : laidMetH Tryz.prog laid W) : laidMet Tryz.prog (laid.filter fun x => x.2.handleName?.isNone) W := by
  unfold laidMetH at h
  split at h
  · rename_i e
    rw [List.filter_eq_self.2]
    · exact h
    · intro x hx
      rw [List.filter_eq_nil_iff] at e
      have := e x hx
      cases hn : x.2.handleName? <;> simp_all
  · exact h.1
theorem handles_of_H {laid : List (String × DataW Unit)} {W : World} (h : laidMetH Tryz.prog laid W) : ∀ x ∈ laid, x.2.handleName?.isSome = true → handlesMet Tryz.prog [x] W := by
  intro x hx hs
  unfold laidMetH at h
  split at h
  · rename_i e
    rw [List.filter_eq_nil_iff] at e
    exact absurd hs (e x hx)
  · rename_i h1 hs1 e
    intro y hy
    obtain rfl := List.mem_singleton.1 hy
    refine h.2 y ?_
    rw [← e]
    exact List.mem_filter.2 ⟨hx, hs⟩
theorem laidVars_mem {W : World} {ps : List MemPlace} : ∀ (l : List (String × DataW Unit)) (ps : List MemPlace), DataW.LaidVars Tryz.prog W l ps → ∀ n d, (n, d) ∈ l →
    ∃ g t cs fuel p, Tryz.prog.globalNamed n = some g ∧ (Tryz.prog.globals[g]?).map (·.type) = some t ∧ W.var? Tryz.prog n = some cs ∧ DataW.trod (fun _ => ()) Tryz.prog W 0 (fun _ => true) false fuel t cs.toList = some (d, p) ∧
      (∀ x ∈ MemPlace.row ⟨g, 0, none⟩ cs.size, x ∈ ps) ∧ ∀ x ∈ p, x ∈ ps
  | [], _, _, n, d, hm => by cases hm
  | (m, e) :: l, ps, h, n, d, hm => by
    obtain ⟨g, t, cs, fuel, p, q, hg, ht, hv, hd, hr, rfl⟩ := h
    rcases List.mem_cons.1 hm with h | h
    · cases h
      exact ⟨g, t, cs, fuel, p, hg, ht, hv, hd, fun x hx => by simp [hx], fun x hx => by simp [hx]⟩
    · obtain ⟨g', t', cs', fuel', p', a1, a2, a3, a4, a5, a6⟩ := laidVars_mem (ps := ps) l q hr n d h
      exact ⟨g', t', cs', fuel', p', a1, a2, a3, a4, fun x hx => by simp [a5 x hx], fun x hx => by simp [a6 x hx]⟩

theorem name_errorString : Tryz.prog.typeName? 3 175 = some "*errors.errorString" := by kernel_rfl
theorem cells_errorString : Tryz.prog.cellsOf 196 = 1 := by kernel_rfl
theorem cells_string : Tryz.prog.cellsOf 9 = 1 := by kernel_rfl
theorem star_errorString : "*" ++ "errors.errorString" = "*errors.errorString" := by decide
theorem row_errorString (u : TypeId) (h : Tryz.prog.typeName? 3 u = some "*errors.errorString") : u = 175 :=
  typeName_ptr_named (nm := "errors.errorString") (by rw [star_errorString]; kernel_rfl) (by kernel_rfl) (by decide) u (by rw [star_errorString]; exact h)

set_option maxRecDepth 100000 in
/-- A sentinel that the condition lists: its variable holds a pointer to a row that holds its text. -/
theorem sentinel_of {W : World} {laid : List (String × DataW Unit)} (h : laidMetH Tryz.prog laid W) (n : String) (text : List UInt8) (g : Nat)
    (hm : (n, .iface "*errors.errorString" (.ptr (.agg [.lit (.string text)]))) ∈ laid) (hg : Tryz.prog.globalNamed n = some g) (ht : (Tryz.prog.globals[g]?).map (·.type) = some 37) :
    ∃ (a : Addr) (s : ByteArray), W.cell? ⟨g, 0, none⟩ = some (.iface 175 (.pointer (some a))) ∧ W.cell? a = some (.string s) ∧ s.data.toList = text ∧ ∃ cs t, W.heap[a.block]? = some (.cells cs t (0, 0)) := by
  obtain ⟨ps, hps, hnd, hrows⟩ := laidMet_of_H h
  obtain ⟨g0, t0, cs0, f0, p0, hg0, ht0, hv0, hd0, hin, hip⟩ := laidVars_mem (ps := ps) _ ps hps n _ (List.mem_filter.2 ⟨hm, rfl⟩)
  obtain rfl := Option.some.inj (hg.symm.trans hg0)
  obtain rfl := Option.some.inj (ht.symm.trans ht0)
  obtain ⟨l0⟩ := cs0
  have ok0 : ∀ u v, l0 = [.iface u v] → Value.okWide Tryz.prog W .any 0 u v := fun u v e => by
    subst e
    exact (hrows g 0 (hin _ (by simp [MemPlace.row]))).2 u v (by simpa using World.var?_cell hg0 hv0 0)
  obtain ⟨a0, s0, rfl, hc0, hs0, hz0, rfl⟩ := errorString_of_trod Tryz.underlying37 row_errorString Tryz.underlying175 Tryz.underlying196 rfl rfl Tryz.underlying9 cells_errorString cells_string hd0 ok0
  obtain ⟨c, t, hb⟩ := (hrows a0.block a0.off (hip _ (by simp [MemPlace.row]))).1
  exact ⟨a0, s0, by simpa using World.var?_cell hg0 hv0 0, hc0, hs0, c, t, hb⟩
end Go.Proofs.YtlcomdbkkfbjiaaGreatDoor

/- Blocks of two cells, written in place. -/
namespace Go.Proofs.YtlcomdbkkfbjiaaGreatDoor
open Go.RowKit

/-- A block of two cells, kept: its cells, and none frozen. -/
theorem two_kept {w0 w1 : World} {n : Nat} {v0 v1 : Value} {T : TypeId} (hb : Below w0.heap.size w0 w1) (h : w0.heap[n]? = some (.cells #[v0, v1] T (0, 0))) :
    (w1.cell? ⟨n, 0, none⟩ = some v0 ∧ w1.cell? ⟨n, 1, none⟩ = some v1) ∧ (w1.frozen? ⟨n, 0, none⟩ = false ∧ w1.frozen? ⟨n, 1, none⟩ = false) := by
  have h1 : w1.heap[n]? = some (.cells #[v0, v1] T (0, 0)) := (hb.block n (Array.getElem?_eq_some_iff.1 h).1).trans h
  refine ⟨⟨?_, ?_⟩, ?_, ?_⟩
  all_goals first
    | (rw [cell_of_row _ _ _ _ _ _ h1]; rfl)
    | exact frozen_of_row _ _ _ _ _ h1
theorem heap_down {w w' : World} (hb : Below w.heap.size w w') {b : Nat} {o : Obj} (h : w.heap[b]? = some o) : w'.heap[b]? = some o :=
  (hb.block b (Array.getElem?_eq_some_iff.1 h).1).trans h
theorem row_set2 {w : World} {n : Nat} {u0 u1 : Value} {T : TypeId} (h : w.heap[n]? = some (.cells #[u0, u1] T (0, 0))) (v0 v1 : Value) :
    ((w.setCell ⟨n, 0, none⟩ v0).setCell ⟨n, 1, none⟩ v1).heap[n]? = some (.cells #[v0, v1] T (0, 0)) := by
  have h0 := heap_setCell_same _ n 0 _ _ v0 h
  exact heap_setCell_same _ n 1 _ _ v1 h0
theorem below_set2 {B : Nat} {a w : World} (h : Below B a w) {n : Nat} (hn : B ≤ n) (v0 v1 : Value) :
    Below B a ((w.setCell ⟨n, 0, none⟩ v0).setCell ⟨n, 1, none⟩ v1) := (h.setCell hn _).setCell hn _
end Go.Proofs.YtlcomdbkkfbjiaaGreatDoor
