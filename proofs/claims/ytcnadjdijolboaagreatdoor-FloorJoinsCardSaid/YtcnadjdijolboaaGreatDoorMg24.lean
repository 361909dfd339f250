/- EndC, EndB, FloArgG -/
import Derived.Test.YtcnadjdijolboaaGreatDoorMg7
import Derived.HandedShaped
import Derived.Shelf.Vars
import Derived.Lay
import Derived.Test.YtcnadjdijolboaaGreatDoorMg8
import Derived.Lib.LaidTab
import Derived.Test.YtcnadjdijolboaaGreatDoorMg12
/- The row's end, with the world's shape: parts. -/
namespace Go.Proofs.YtcnadjdijolboaaGreatDoor
open Go.ChangeShapes Go.WideShapes Go.ChangeAt Go.RowKit Go.ChangeMaps

/-- The wrap with both: a condition on the package-level variables, and the world's shape. -/
theorem returns_both {H : Type} {enc : TypeId × Value → H} {a : Assume} {C : Checked} {os : Os} {f : FuncId} {fn : Func} {s : ChangeSpec} {conds : List PathCond} {apart fresh handsOn again : Bool} {X : World → Array Value → Prop}
    (hX : ∀ (w w' : World) (args : Array Value), w.heap = w'.heap → X w args → X w' args)
    (own : ownKnob C.prog.godebug = none) (started : os.Started) (noInit : C.prog.inits.idxOf? f = none) (hfn : C.prog.funcs[f]? = some fn)
    (witness : ∃ (w : World) (tape : Tape) (i : Input), w.os = os ∧ (w.forCall tape i).Shaped C.prog ∧ i.vars = [] ∧ Input.okWide C.prog (w.forCall tape i) .any w.heap.size f i ∧
      ((s.pre enc C.prog fn conds apart (w.forCall tape i).memory i.args ∧ X (w.forCall tape i).memory i.args) ∧ sizedMet enc C.prog fn (OpenSpec.ofChange s) apart (w.forCall tape i).memory i.args) ∧ a.holds C.prog (lone (Frame.enter C.prog f i.args .normal) [] (w.forCall tape i)))
    (contract : ∀ (W : World) (base : Nat) (args : Array Value) (ds gs : List (DataW H)) (before : List MemPlace),
      (∀ (j : Nat) t v, fn.params[j]? = some t → args[j]? = some v → Value.okWide C.prog W .any base t v) →
      DataW.Whole enc C.prog fn.params.toList s.vars apart W args.toList ds gs before →
      X W args → W.ShapedOpen C.prog →
      Calls C.prog f args W fun e W' => ∃ v, e = .returned v ∧ s.post enc C.prog fn apart fresh handsOn again W args v W') :
    ReturnsInHanded a C os f .any (fun w args => (s.pre enc C.prog fn conds apart w args ∧ X w args) ∧ sizedMet enc C.prog fn (OpenSpec.ofChange s) apart w args) (s.post enc C.prog fn apart fresh handsOn again) := by
  refine returnsInHanded_of_calls own started noInit witness ?_
  intro w tape i _ hsh _ hok hpre hholds
  obtain ⟨_, _, _, fn', hfn', _, _, _, _, hval⟩ := hok
  have e : fn' = fn := Option.some.inj (hfn'.symm.trans hfn)
  subst e
  obtain ⟨⟨⟨ds, gs, before, hw, hc⟩, hx⟩, hz⟩ := hpre
  have hw' := DataW.Whole.of_heap (w' := w.forCall tape i) (by rfl) hw
  refine (contract (w.forCall tape i) w.heap.size i.args ds gs before hval hw' (hX _ _ _ (by rfl) hx) hsh).mono fun e W' ⟨v, he, hp⟩ => ?_
  subst he
  exact ChangeSpec.post_blind hp

/-- A start that meets the condition: whatever world, the plain data laid on it. -/
theorem laidMet_laidOn {P : Program} {w0 : World} {L : List (String × DataW Unit)} (args : Array Value) (hf : w0.layFits P L [] = true) (hi : w0.layIfaces P L (w0.layVars P L) = true) :
    laidMet P L ((w0.layVars P L).forCall (fun _ _ => 0) ⟨#[], args, []⟩).memory := by
  have e1 : (L.filter fun x => (L.map (·.1)).contains x.1) = L := List.filter_eq_self.2 fun x hx => List.contains_iff_mem.2 (List.mem_map.2 ⟨x, hx, rfl⟩)
  have e2 : (L.filter fun x => !(L.map (·.1)).contains x.1) = [] := List.filter_eq_nil_iff.2 fun x hx => by rw [List.contains_iff_mem.2 (List.mem_map.2 ⟨x, hx, rfl⟩)]; simp
  have h : laidMet P L (w0.layVars P L) := laidMet_layVars (w0 := w0) (L.map (·.1)) [] (by rw [e1]) (by rw [e1]; exact hf) (by rw [e1]; exact hi) (by rw [e2]; exact LaidIn.none)
  exact h.of_heap (by simp [World.memory, World.forCall, Input.heap])
end Go.Proofs.YtcnadjdijolboaaGreatDoor

/- The row's end for laws that call the library: parts. -/
namespace Go.Proofs.YtcnadjdijolboaaGreatDoor
open Go.ChangeShapes Go.WideShapes Go.ChangeAt Go.RowKit Go.ChangeMaps

theorem tab_of {W : World} {laid : List (String × DataW Unit)} (h : laidMetH Tryz.prog laid W) {n : String} {k : IntKind} {zs : List Int} {g : Nat} {t e : TypeId} {m : Nat} (hm : (n, Lib.tabData k zs) ∈ laid)
    (hg : Tryz.prog.globalNamed n = some g) (hty : (Tryz.prog.globals[g]?).map (·.type) = some t) (ht : Tryz.prog.underlying t = some (.array m e)) (he : Tryz.prog.underlying e = some (.int k)) (hce : Tryz.prog.cellsOf e = 1) (hct : Tryz.prog.cellsOf t = m) :
    Lib.TabIs Tryz.prog W n k zs := by
  obtain ⟨ps, hps, _, _⟩ := laidMet_of_H h
  obtain ⟨g0, t0, cs0, f0, p0, hg0, ht0, hv0, hd0, _⟩ := laidVars_mem (ps := ps) _ ps hps n _ (List.mem_filter.2 ⟨hm, rfl⟩)
  obtain rfl := Option.some.inj (hg.symm.trans hg0)
  obtain rfl := Option.some.inj (hty.symm.trans ht0)
  unfold Lib.TabIs
  rw [hv0, ← Lib.cells_of_tab ht he hce hct hd0]
theorem cells_u64 : Tryz.prog.cellsOf 122 = 1 := by kernel_rfl
theorem cells_pow : Tryz.prog.cellsOf 183 = 20 := by kernel_rfl
theorem type_pow : (Tryz.prog.globals[18]?).map (·.type) = some 183 := by kernel_rfl
set_option maxRecDepth 100000 in
theorem sentinel_var {W : World} {laid : List (String × DataW Unit)} (h : laidMetH Tryz.prog laid W) (n : String) (text : List UInt8) (g : Nat)
    (hm : (n, .iface "*errors.errorString" (.ptr (.agg [.lit (.string text)]))) ∈ laid) (hg : Tryz.prog.globalNamed n = some g) (ht : (Tryz.prog.globals[g]?).map (·.type) = some 28) :
    ∃ t p, W.var? Tryz.prog n = some #[.iface t p] := by
  obtain ⟨ps, hps, hnd, hrows⟩ := laidMet_of_H h
  obtain ⟨g0, t0, cs0, f0, p0, hg0, ht0, hv0, hd0, hin, hip⟩ := laidVars_mem (ps := ps) _ ps hps n _ (List.mem_filter.2 ⟨hm, rfl⟩)
  obtain rfl := Option.some.inj (hg.symm.trans hg0)
  obtain rfl := Option.some.inj (ht.symm.trans ht0)
  obtain ⟨l0⟩ := cs0
  have ok0 : ∀ u v, l0 = [.iface u v] → Value.okWide Tryz.prog W .any 0 u v := fun u v e => by
    subst e
    exact (hrows g 0 (hin _ (by simp [MemPlace.row]))).2 u v (by simpa using World.var?_cell hg0 hv0 0)
  obtain ⟨a0, s0, rfl, hc0, hs0, hz0, rfl⟩ := errorString_of_trod Tryz.underlying28 row_errorString Tryz.underlying201 Tryz.underlying203 rfl rfl Tryz.underlying9 cells_errorString cells_string hd0 ok0
  exact ⟨_, _, hv0⟩
theorem max_of {W : World} (hsh : W.ShapedOpen Tryz.prog) : ∃ m, W.cell? ⟨16, 0, none⟩ = some (.int .i64 m) :=
  cell_of_shapedOpen_int (P := Tryz.prog) (g := 16) (t := 3) (zero := #[.int .i64 0]) hsh (of_decide_eq_true (by kernel_rfl)) (by kernel_rfl) rfl (by kernel_rfl) (by kernel_rfl) Tryz.underlying3
section
open Go.Deep
/-- A slice of texts that came in. -/
theorem texts_of {H : Type} {enc : TypeId × Value → H} {W : World} {base : Nat} {spare : Nat → Bool} {held : Bool} {fuel : Nat} {a : Option Addr} {len cap : Nat} {x : DataW H × List MemPlace}
    (h : DataW.trod enc Tryz.prog W base spare held fuel 55 [.slice a len cap] = some x) : ∃ L, TextsAt W (.slice a len cap) L ∧ ∀ y ∈ L, y.length ≤ maxLen := by
  have hC : Tryz.prog.cellsOf 9 = 1 := by kernel_rfl
  rcases open_slice Tryz.underlying55 h with h0 | ⟨a', len', cap', m, n, D, Pl, hcs, _, hl, hm, hmm, _, _⟩
  · cases h0.1
    exact ⟨[], ⟨none, 0, rfl, Nat.zero_le _, Nat.zero_le _, fun i hi => by cases hi⟩, fun y hy => by cases hy⟩
  · rcases slice_cells Tryz.underlying55 h with h0 | ⟨a2, len2, cap2, n2, hcs2, hm2, hi2⟩
    · cases h0
      exact ⟨[], ⟨none, 0, rfl, Nat.zero_le _, Nat.zero_le _, fun i hi => by cases hi⟩, fun y hy => by cases hy⟩
    · cases hcs
      cases hcs2
      rw [hC] at hi2
      obtain ⟨L, hL, hA⟩ := list_of (p := fun i (q : List UInt8) => (i = 0 → a' = ⟨a'.block, a'.off, none⟩) ∧ W.cell? ⟨a'.block, a'.off + i, none⟩ = some (.string (bs q)) ∧ q.length ≤ maxLen) len (fun i hil => by
        obtain ⟨cs, y, hcl, hat, ha, ht⟩ := hi2 i hil
        match cs, hcl with
        | [k0], _ =>
          obtain ⟨s0, rfl, l0⟩ := read_string Tryz.underlying9 ht
          exact ⟨s0, fun h0 => ha 0 (by decide) (by rw [h0]), by simpa using hat 0 (by decide), l0⟩)
      subst hL
      refine ⟨L, ⟨some a', cap, rfl, hm2, hl, fun i hil => ⟨a'.block, a'.off, congrArg some ((hA 0 (Nat.lt_of_le_of_lt (Nat.zero_le _) hil)).1 rfl), (hA i hil).2.1⟩⟩, fun y hy => ?_⟩
      obtain ⟨i, hi, rfl⟩ := List.getElem_of_mem hy
      exact (hA i hi).2.2
theorem texts_form {H : Type} {enc : TypeId × Value → H} {W : World} {base : Nat} {spare : Nat → Bool} {held : Bool} {fuel : Nat} {a : Option Addr} {len cap : Nat} {x : DataW H × List MemPlace}
    (h : DataW.trod enc Tryz.prog W base spare held fuel 55 [.slice a len cap] = some x) : Value.slice a len cap = .slice none 0 0 ∨ ∃ ad m c, Value.slice a len cap = .slice (some ad) m c := by
  rcases open_slice Tryz.underlying55 h with h0 | ⟨a', len', cap', m, n, D, Pl, hcs, _⟩
  · exact .inl (List.singleton_inj.1 h0.1)
  · exact .inr ⟨_, _, _, List.singleton_inj.1 hcs⟩
end
end Go.Proofs.YtcnadjdijolboaaGreatDoor

/- Floors that came in, nil told apart. -/
namespace Go.Proofs.YtcnadjdijolboaaGreatDoor
open Go.ChangeShapes Go.WideShapes Go.ChangeAt Go.RowKit Go.ChangeMaps Go.Deep

set_option maxRecDepth 100000 in
theorem flosG_of {H : Type} {enc : TypeId × Value → H} {W : World} {base : Nat} {spare : Nat → Bool} {held : Bool} {fuel : Nat} {a : Option Addr} {len cap : Nat} {x : DataW H × List MemPlace} 
    (h : DataW.trod enc Tryz.prog W base spare held fuel 22 [.slice a len cap] = some x) : ∃ A, AtG floC W (.slice a len cap) A ∧ ∀ f ∈ A, f.who.length ≤ maxLen := by
  obtain ⟨A, h1, h2⟩ := flos_of h
  refine ⟨A, floorsG h1 fun hn => ?_, h2⟩
  rcases slice_cells Tryz.underlying22 h with h0 | ⟨a', len', cap', n, hcs, hm, hi⟩
  · cases h0
    rfl
  · cases hcs
    simp [Value.ownBlock] at hn
end Go.Proofs.YtcnadjdijolboaaGreatDoor
