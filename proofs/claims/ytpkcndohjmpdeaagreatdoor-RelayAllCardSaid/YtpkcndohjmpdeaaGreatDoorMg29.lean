/- EndB -/
import Derived.Test.YtpkcndohjmpdeaaGreatDoorMg28
import Derived.Test.YtpkcndohjmpdeaaGreatDoorMg13
import Derived.Test.YtpkcndohjmpdeaaGreatDoorMg7
import Derived.HandedShaped
import Derived.Shelf.Vars
import Derived.Lib.LaidTab
import Derived.Lay
/- The row's end for laws that call the library: parts. -/
namespace Go.Proofs.YtpkcndohjmpdeaaGreatDoor
open Go.ChangeShapes Go.WideShapes Go.ChangeAt Go.RowKit Go.ChangeMaps

theorem tab_of {W : World} {laid : List (String × DataW Unit)} (h : laidMetH Tryz.prog laid W) {n : String} {k : IntKind} {zs : List Int} {g : Nat} {t e : TypeId} {m : Nat} (hm : (n, Lib.tabData k zs) ∈ laid)
    (hg : Tryz.prog.globalNamed n = some g) (hty : (Tryz.prog.globals[g]?).map (·.type) = some t) (ht : Tryz.prog.underlying t = some (.array m e)) (he : Tryz.prog.underlying e = some (.int k)) (hce : Tryz.prog.cellsOf e = 1) (hct : Tryz.prog.cellsOf t = m) :
    Lib.TabIs Tryz.prog W n k zs := by
  obtain ⟨ps, hps, _, _⟩ := laidMet_of_H h
  obtain ⟨g0, t0, cs0, f0, p0, hg0, ht0, hv0, hd0, _⟩ := laidVars_mem (ps := ps) _ ps hps n _ (List.mem_filter.2 ⟨hm, rfl⟩)
  obtain rfl := Option.some.inj (hg.symm.trans hg0)
  obtain rfl := Option.some.inj (hty.symm.trans ht0)
  unfold Lib.TabIs
  rw [hv0, ← Lib.cells_of_tab ht he hce hct hd0]
theorem cells_u64 : Tryz.prog.cellsOf 154 = 1 := by kernel_rfl
theorem cells_pow : Tryz.prog.cellsOf 175 = 20 := by kernel_rfl
theorem type_pow : (Tryz.prog.globals[12]?).map (·.type) = some 175 := by kernel_rfl
set_option maxRecDepth 100000 in
theorem sentinel_var {W : World} {laid : List (String × DataW Unit)} (h : laidMetH Tryz.prog laid W) (n : String) (text : List UInt8) (g : Nat)
    (hm : (n, .iface "*errors.errorString" (.ptr (.agg [.lit (.string text)]))) ∈ laid) (hg : Tryz.prog.globalNamed n = some g) (ht : (Tryz.prog.globals[g]?).map (·.type) = some 27) :
    ∃ t p, W.var? Tryz.prog n = some #[.iface t p] := by
  obtain ⟨ps, hps, hnd, hrows⟩ := laidMet_of_H h
  obtain ⟨g0, t0, cs0, f0, p0, hg0, ht0, hv0, hd0, hin, hip⟩ := laidVars_mem (ps := ps) _ ps hps n _ (List.mem_filter.2 ⟨hm, rfl⟩)
  obtain rfl := Option.some.inj (hg.symm.trans hg0)
  obtain rfl := Option.some.inj (ht.symm.trans ht0)
  obtain ⟨l0⟩ := cs0
  have ok0 : ∀ u v, l0 = [.iface u v] → Value.okWide Tryz.prog W .any 0 u v := fun u v e => by
    subst e
    exact (hrows g 0 (hin _ (by simp [MemPlace.row]))).2 u v (by simpa using World.var?_cell hg0 hv0 0)
  obtain ⟨a0, s0, rfl, hc0, hs0, hz0, rfl⟩ := errorString_of_trod Tryz.underlying27 row_errorString Tryz.underlying205 Tryz.underlying207 rfl rfl Tryz.underlying9 cells_errorString cells_string hd0 ok0
  exact ⟨_, _, hv0⟩
theorem max_of {W : World} (hsh : W.ShapedOpen Tryz.prog) : ∃ m, W.cell? ⟨11, 0, none⟩ = some (.int .i64 m) :=
  cell_of_shapedOpen_int (P := Tryz.prog) (g := 11) (t := 3) (zero := #[.int .i64 0]) hsh (of_decide_eq_true (by kernel_rfl)) (by kernel_rfl) rfl (by kernel_rfl) (by kernel_rfl) Tryz.underlying3
section
open Go.Deep
/-- A slice of texts that came in. -/
theorem texts_of {H : Type} {enc : TypeId × Value → H} {W : World} {base : Nat} {spare : Nat → Bool} {held : Bool} {fuel : Nat} {a : Option Addr} {len cap : Nat} {x : DataW H × List MemPlace}
    (h : DataW.trod enc Tryz.prog W base spare held fuel 82 [.slice a len cap] = some x) : ∃ L, TextsAt W (.slice a len cap) L ∧ ∀ y ∈ L, y.length ≤ maxLen := by
  have hC : Tryz.prog.cellsOf 9 = 1 := by kernel_rfl
  rcases open_slice Tryz.underlying82 h with h0 | ⟨a', len', cap', m, n, D, Pl, hcs, _, hl, hm, hmm, _, _⟩
  · cases h0.1
    exact ⟨[], ⟨none, 0, rfl, Nat.zero_le _, Nat.zero_le _, fun i hi => by cases hi⟩, fun y hy => by cases hy⟩
  · rcases slice_cells Tryz.underlying82 h with h0 | ⟨a2, len2, cap2, n2, hcs2, hm2, hi2⟩
    · cases h0
      exact ⟨[], ⟨none, 0, rfl, Nat.zero_le _, Nat.zero_le _, fun i hi => by cases hi⟩, fun y hy => by cases hy⟩
    · cases hcs
      cases hcs2
      rw [hC] at hi2
      obtain ⟨L, hL, hA⟩ := list_of (p := fun i (q : List UInt8) => (i = 0 → a' = ⟨a'.block, a'.off, none⟩) ∧ W.cell? ⟨a'.block, a'.off + i, none⟩ = some (.string (bs q)) ∧ q.length ≤ maxLen) len (fun i hil => by
        obtain ⟨cs, y, hcl, hat, ha, ht⟩ := hi2 i hil
        match cs, hcl with
        | [k0], _ =>
          obtain ⟨s0, rfl, l0⟩ := read_string Tryz.underlying9 ht
          exact ⟨s0, fun h0 => ha 0 (by decide) (by rw [h0]), by simpa using hat 0 (by decide), l0⟩)
      subst hL
      refine ⟨L, ⟨some a', cap, rfl, hm2, hl, fun i hil => ⟨a'.block, a'.off, congrArg some ((hA 0 (Nat.lt_of_le_of_lt (Nat.zero_le _) hil)).1 rfl), (hA i hil).2.1⟩⟩, fun y hy => ?_⟩
      obtain ⟨i, hi, rfl⟩ := List.getElem_of_mem hy
      exact (hA i hi).2.2
theorem texts_form {H : Type} {enc : TypeId × Value → H} {W : World} {base : Nat} {spare : Nat → Bool} {held : Bool} {fuel : Nat} {a : Option Addr} {len cap : Nat} {x : DataW H × List MemPlace}
    (h : DataW.trod enc Tryz.prog W base spare held fuel 82 [.slice a len cap] = some x) : Value.slice a len cap = .slice none 0 0 ∨ ∃ ad m c, Value.slice a len cap = .slice (some ad) m c := by
  rcases open_slice Tryz.underlying82 h with h0 | ⟨a', len', cap', m, n, D, Pl, hcs, _⟩
  · exact .inl (List.singleton_inj.1 h0.1)
  · exact .inr ⟨_, _, _, List.singleton_inj.1 hcs⟩
end
end Go.Proofs.YtpkcndohjmpdeaaGreatDoor
