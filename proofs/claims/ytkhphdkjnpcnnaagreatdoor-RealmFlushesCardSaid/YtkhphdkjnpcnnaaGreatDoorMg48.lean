/- Laid, EndC, EndB, EndF -/
import Derived.Test.YtkhphdkjnpcnnaaGreatDoorMg8
import Derived.Test.YtkhphdkjnpcnnaaGreatDoorMg19
import Derived.HandedShaped
import Derived.Shelf.Vars
import Derived.Lay
import Derived.Test.YtkhphdkjnpcnnaaGreatDoorMg11
import Derived.Test.YtkhphdkjnpcnnaaGreatDoorMg9
import Derived.Lib.LaidTab
/- The sentinels of package api, out of the rows' condition; a world that meets it. -/
namespace Go.Proofs.YtkhphdkjnpcnnaaGreatDoor
open Go.ChangeShapes Go.WideShapes Go.ChangeAt Go.RowKit Go.ChangeMaps

theorem glob_et : Tryz.prog.globalNamed "errors.errorType" = some 16 := by kernel_rfl
theorem rtype_row : (Tryz.prog.cutTypes.find? (·.1 == "internal/reflectlite.rtype")).map (·.2) = some 237 := by kernel_rfl
theorem error_row : ((List.range 349).filter fun t => Tryz.prog.rowNamed t [101, 114, 114, 111, 114]) = [27] := by kernel_rfl
theorem glob_Text : Tryz.prog.globalNamed "keyholder/api.ErrText" = some 7 ∧ (Tryz.prog.globals[7]?).map (·.type) = some 27 := ⟨by kernel_rfl, by kernel_rfl⟩
theorem glob_Bound : Tryz.prog.globalNamed "keyholder/api.ErrBound" = some 1 ∧ (Tryz.prog.globals[1]?).map (·.type) = some 27 := ⟨by kernel_rfl, by kernel_rfl⟩
theorem glob_Shape : Tryz.prog.globalNamed "keyholder/api.ErrShape" = some 9 ∧ (Tryz.prog.globals[9]?).map (·.type) = some 27 := ⟨by kernel_rfl, by kernel_rfl⟩
theorem glob_Name : Tryz.prog.globalNamed "keyholder/api.ErrName" = some 2 ∧ (Tryz.prog.globals[2]?).map (·.type) = some 27 := ⟨by kernel_rfl, by kernel_rfl⟩
theorem glob_None : Tryz.prog.globalNamed "keyholder/api.ErrNone" = some 4 ∧ (Tryz.prog.globals[4]?).map (·.type) = some 27 := ⟨by kernel_rfl, by kernel_rfl⟩
theorem glob_Exist : Tryz.prog.globalNamed "keyholder/api.ErrExist" = some 10 ∧ (Tryz.prog.globals[10]?).map (·.type) = some 27 := ⟨by kernel_rfl, by kernel_rfl⟩
theorem glob_Full : Tryz.prog.globalNamed "keyholder/api.ErrFull" = some 8 ∧ (Tryz.prog.globals[8]?).map (·.type) = some 27 := ⟨by kernel_rfl, by kernel_rfl⟩
theorem glob_Order : Tryz.prog.globalNamed "keyholder/api.ErrOrder" = some 11 ∧ (Tryz.prog.globals[11]?).map (·.type) = some 27 := ⟨by kernel_rfl, by kernel_rfl⟩
theorem glob_Mark : Tryz.prog.globalNamed "keyholder/api.ErrMark" = some 6 ∧ (Tryz.prog.globals[6]?).map (·.type) = some 27 := ⟨by kernel_rfl, by kernel_rfl⟩
theorem glob_Key : Tryz.prog.globalNamed "keyholder/api.ErrKey" = some 0 ∧ (Tryz.prog.globals[0]?).map (·.type) = some 27 := ⟨by kernel_rfl, by kernel_rfl⟩
theorem glob_Early : Tryz.prog.globalNamed "keyholder/api.ErrEarly" = some 12 ∧ (Tryz.prog.globals[12]?).map (·.type) = some 27 := ⟨by kernel_rfl, by kernel_rfl⟩
theorem glob_Late : Tryz.prog.globalNamed "keyholder/api.ErrLate" = some 13 ∧ (Tryz.prog.globals[13]?).map (·.type) = some 27 := ⟨by kernel_rfl, by kernel_rfl⟩
theorem glob_Floor : Tryz.prog.globalNamed "keyholder/api.ErrFloor" = some 3 ∧ (Tryz.prog.globals[3]?).map (·.type) = some 27 := ⟨by kernel_rfl, by kernel_rfl⟩
theorem glob_Stale : Tryz.prog.globalNamed "keyholder/api.ErrStale" = some 14 ∧ (Tryz.prog.globals[14]?).map (·.type) = some 27 := ⟨by kernel_rfl, by kernel_rfl⟩
theorem glob_Gap : Tryz.prog.globalNamed "keyholder/api.ErrGap" = some 15 ∧ (Tryz.prog.globals[15]?).map (·.type) = some 27 := ⟨by kernel_rfl, by kernel_rfl⟩
theorem glob_Off : Tryz.prog.globalNamed "keyholder/api.ErrOff" = some 5 ∧ (Tryz.prog.globals[5]?).map (·.type) = some 27 := ⟨by kernel_rfl, by kernel_rfl⟩

/-- What a row's list must hold. -/
structure Lists (laid : List (String × DataW Unit)) : Prop where
  et : ("errors.errorType", .iface "internal/reflectlite.rtype" (.agg [.ptr (.lit (.string [101, 114, 114, 111, 114]))])) ∈ laid
  e1 : ("keyholder/api.ErrText", .iface "*errors.errorString" (.ptr (.agg [.lit (.string [107, 101, 121, 104, 111, 108, 100, 101, 114, 58, 32, 116, 101, 120, 116])]))) ∈ laid
  e2 : ("keyholder/api.ErrBound", .iface "*errors.errorString" (.ptr (.agg [.lit (.string [107, 101, 121, 104, 111, 108, 100, 101, 114, 58, 32, 98, 111, 117, 110, 100])]))) ∈ laid
  e3 : ("keyholder/api.ErrShape", .iface "*errors.errorString" (.ptr (.agg [.lit (.string [107, 101, 121, 104, 111, 108, 100, 101, 114, 58, 32, 115, 104, 97, 112, 101])]))) ∈ laid
  e4 : ("keyholder/api.ErrName", .iface "*errors.errorString" (.ptr (.agg [.lit (.string [107, 101, 121, 104, 111, 108, 100, 101, 114, 58, 32, 110, 97, 109, 101])]))) ∈ laid
  e5 : ("keyholder/api.ErrNone", .iface "*errors.errorString" (.ptr (.agg [.lit (.string [107, 101, 121, 104, 111, 108, 100, 101, 114, 58, 32, 110, 111, 110, 101])]))) ∈ laid
  e6 : ("keyholder/api.ErrExist", .iface "*errors.errorString" (.ptr (.agg [.lit (.string [107, 101, 121, 104, 111, 108, 100, 101, 114, 58, 32, 101, 120, 105, 115, 116])]))) ∈ laid
  e7 : ("keyholder/api.ErrFull", .iface "*errors.errorString" (.ptr (.agg [.lit (.string [107, 101, 121, 104, 111, 108, 100, 101, 114, 58, 32, 102, 117, 108, 108])]))) ∈ laid
  e8 : ("keyholder/api.ErrOrder", .iface "*errors.errorString" (.ptr (.agg [.lit (.string [107, 101, 121, 104, 111, 108, 100, 101, 114, 58, 32, 111, 114, 100, 101, 114])]))) ∈ laid
  e9 : ("keyholder/api.ErrMark", .iface "*errors.errorString" (.ptr (.agg [.lit (.string [107, 101, 121, 104, 111, 108, 100, 101, 114, 58, 32, 109, 97, 114, 107])]))) ∈ laid
  e10 : ("keyholder/api.ErrKey", .iface "*errors.errorString" (.ptr (.agg [.lit (.string [107, 101, 121, 104, 111, 108, 100, 101, 114, 58, 32, 107, 101, 121])]))) ∈ laid
  e11 : ("keyholder/api.ErrEarly", .iface "*errors.errorString" (.ptr (.agg [.lit (.string [107, 101, 121, 104, 111, 108, 100, 101, 114, 58, 32, 101, 97, 114, 108, 121])]))) ∈ laid
  e12 : ("keyholder/api.ErrLate", .iface "*errors.errorString" (.ptr (.agg [.lit (.string [107, 101, 121, 104, 111, 108, 100, 101, 114, 58, 32, 108, 97, 116, 101])]))) ∈ laid
  e13 : ("keyholder/api.ErrFloor", .iface "*errors.errorString" (.ptr (.agg [.lit (.string [107, 101, 121, 104, 111, 108, 100, 101, 114, 58, 32, 102, 108, 111, 111, 114])]))) ∈ laid
  e14 : ("keyholder/api.ErrStale", .iface "*errors.errorString" (.ptr (.agg [.lit (.string [107, 101, 121, 104, 111, 108, 100, 101, 114, 58, 32, 115, 116, 97, 108, 101])]))) ∈ laid
  e15 : ("keyholder/api.ErrGap", .iface "*errors.errorString" (.ptr (.agg [.lit (.string [107, 101, 121, 104, 111, 108, 100, 101, 114, 58, 32, 103, 97, 112])]))) ∈ laid
  e16 : ("keyholder/api.ErrOff", .iface "*errors.errorString" (.ptr (.agg [.lit (.string [107, 101, 121, 104, 111, 108, 100, 101, 114, 58, 32, 111, 102, 102])]))) ∈ laid

theorem handle_et {W : World} {laid : List (String × DataW Unit)} (h : laidMetH Tryz.prog laid W) (hl : Lists laid) :
    W.cell? ⟨16, 0, none⟩ = some (.iface 237 (.agg #[.pointer (some ⟨25, 27, none⟩)])) := by
  obtain ⟨name, u, ty, e1, e2, e3, e4, e5⟩ := handles_of_H h _ hl.et rfl _ (List.mem_singleton.2 rfl)
  have en : name = [101, 114, 114, 111, 114] := (Option.some.inj e1).symm
  subst en
  obtain rfl := Option.some.inj (rtype_row.symm.trans e2)
  have hm : ty ∈ (List.range 349).filter fun t => Tryz.prog.rowNamed t [101, 114, 114, 111, 114] := List.mem_filter.2 ⟨List.mem_range.2 (by rw [← types_size]; exact e3), e4⟩
  rw [error_row] at hm
  obtain rfl := List.mem_singleton.1 hm
  have hh : typeHandle Tryz.prog 27 = .pointer (some ⟨25, 27, none⟩) := by kernel_rfl
  rw [hh] at e5
  simpa using World.var?_cell glob_et e5 0

theorem addr_ne {W : World} {a b : Addr} {s t : ByteArray} (ha : W.cell? a = some (.string s)) (hb : W.cell? b = some (.string t)) (h : s.data.toList ≠ t.data.toList) : a ≠ b := by
  rintro rfl
  rw [ha] at hb
  cases hb
  exact h rfl

set_option maxRecDepth 100000 in
theorem laidR_of {W : World} {laid : List (String × DataW Unit)} (h : laidMetH Tryz.prog laid W) (hl : Lists laid) : ∃ E, LaidR E W := by
  obtain ⟨a1, s1, c1, v1, x1, r1⟩ := sentinel_of h _ _ _ hl.e1 glob_Text.1 glob_Text.2
  obtain ⟨a2, s2, c2, v2, x2, r2⟩ := sentinel_of h _ _ _ hl.e2 glob_Bound.1 glob_Bound.2
  obtain ⟨a3, s3, c3, v3, x3, r3⟩ := sentinel_of h _ _ _ hl.e3 glob_Shape.1 glob_Shape.2
  obtain ⟨a4, s4, c4, v4, x4, r4⟩ := sentinel_of h _ _ _ hl.e4 glob_Name.1 glob_Name.2
  obtain ⟨a5, s5, c5, v5, x5, r5⟩ := sentinel_of h _ _ _ hl.e5 glob_None.1 glob_None.2
  obtain ⟨a6, s6, c6, v6, x6, r6⟩ := sentinel_of h _ _ _ hl.e6 glob_Exist.1 glob_Exist.2
  obtain ⟨a7, s7, c7, v7, x7, r7⟩ := sentinel_of h _ _ _ hl.e7 glob_Full.1 glob_Full.2
  obtain ⟨a8, s8, c8, v8, x8, r8⟩ := sentinel_of h _ _ _ hl.e8 glob_Order.1 glob_Order.2
  obtain ⟨a9, s9, c9, v9, x9, r9⟩ := sentinel_of h _ _ _ hl.e9 glob_Mark.1 glob_Mark.2
  obtain ⟨a10, s10, c10, v10, x10, r10⟩ := sentinel_of h _ _ _ hl.e10 glob_Key.1 glob_Key.2
  obtain ⟨a11, s11, c11, v11, x11, r11⟩ := sentinel_of h _ _ _ hl.e11 glob_Early.1 glob_Early.2
  obtain ⟨a12, s12, c12, v12, x12, r12⟩ := sentinel_of h _ _ _ hl.e12 glob_Late.1 glob_Late.2
  obtain ⟨a13, s13, c13, v13, x13, r13⟩ := sentinel_of h _ _ _ hl.e13 glob_Floor.1 glob_Floor.2
  obtain ⟨a14, s14, c14, v14, x14, r14⟩ := sentinel_of h _ _ _ hl.e14 glob_Stale.1 glob_Stale.2
  obtain ⟨a15, s15, c15, v15, x15, r15⟩ := sentinel_of h _ _ _ hl.e15 glob_Gap.1 glob_Gap.2
  obtain ⟨a16, s16, c16, v16, x16, r16⟩ := sentinel_of h _ _ _ hl.e16 glob_Off.1 glob_Off.2
  let A : List Addr := [a1, a2, a3, a4, a5, a6, a7, a8, a9, a10, a11, a12, a13, a14, a15, a16]
  let T : List (List UInt8) := [[107, 101, 121, 104, 111, 108, 100, 101, 114, 58, 32, 116, 101, 120, 116], [107, 101, 121, 104, 111, 108, 100, 101, 114, 58, 32, 98, 111, 117, 110, 100], [107, 101, 121, 104, 111, 108, 100, 101, 114, 58, 32, 115, 104, 97, 112, 101], [107, 101, 121, 104, 111, 108, 100, 101, 114, 58, 32, 110, 97, 109, 101], [107, 101, 121, 104, 111, 108, 100, 101, 114, 58, 32, 110, 111, 110, 101], [107, 101, 121, 104, 111, 108, 100, 101, 114, 58, 32, 101, 120, 105, 115, 116], [107, 101, 121, 104, 111, 108, 100, 101, 114, 58, 32, 102, 117, 108, 108], [107, 101, 121, 104, 111, 108, 100, 101, 114, 58, 32, 111, 114, 100, 101, 114], [107, 101, 121, 104, 111, 108, 100, 101, 114, 58, 32, 109, 97, 114, 107], [107, 101, 121, 104, 111, 108, 100, 101, 114, 58, 32, 107, 101, 121], [107, 101, 121, 104, 111, 108, 100, 101, 114, 58, 32, 101, 97, 114, 108, 121], [107, 101, 121, 104, 111, 108, 100, 101, 114, 58, 32, 108, 97, 116, 101], [107, 101, 121, 104, 111, 108, 100, 101, 114, 58, 32, 102, 108, 111, 111, 114], [107, 101, 121, 104, 111, 108, 100, 101, 114, 58, 32, 115, 116, 97, 108, 101], [107, 101, 121, 104, 111, 108, 100, 101, 114, 58, 32, 103, 97, 112], [107, 101, 121, 104, 111, 108, 100, 101, 114, 58, 32, 111, 102, 102]]
  have hT : ∀ c, 1 ≤ c → c ≤ 16 → ∃ s, W.cell? (A.getD (c - 1) default) = some (.string s) ∧ s.data.toList = T.getD (c - 1) [] := by
    intro c h1 h2
    rcases c with _ | _ | _ | _ | _ | _ | _ | _ | _ | _ | _ | _ | _ | _ | _ | _ | _ | c
    · omega
    · exact ⟨s1, v1, x1⟩
    · exact ⟨s2, v2, x2⟩
    · exact ⟨s3, v3, x3⟩
    · exact ⟨s4, v4, x4⟩
    · exact ⟨s5, v5, x5⟩
    · exact ⟨s6, v6, x6⟩
    · exact ⟨s7, v7, x7⟩
    · exact ⟨s8, v8, x8⟩
    · exact ⟨s9, v9, x9⟩
    · exact ⟨s10, v10, x10⟩
    · exact ⟨s11, v11, x11⟩
    · exact ⟨s12, v12, x12⟩
    · exact ⟨s13, v13, x13⟩
    · exact ⟨s14, v14, x14⟩
    · exact ⟨s15, v15, x15⟩
    · exact ⟨s16, v16, x16⟩
    · omega
  have hN : ∀ c, c < 16 → ∀ d, d < 16 → T.getD c [] = T.getD d [] → c = d := by decide +kernel
  refine ⟨fun c => A.getD (c - 1) default, ⟨⟨c1, c2, c3, c4, c5, c6, c7, c8, c9, c10, c11, c12, c13, c14, c15, c16⟩, handle_et h hl, ?_, ?_⟩⟩
  · intro c h1 h2
    rcases c with _ | _ | _ | _ | _ | _ | _ | _ | _ | _ | _ | _ | _ | _ | _ | _ | _ | c
    · omega
    · exact r1
    · exact r2
    · exact r3
    · exact r4
    · exact r5
    · exact r6
    · exact r7
    · exact r8
    · exact r9
    · exact r10
    · exact r11
    · exact r12
    · exact r13
    · exact r14
    · exact r15
    · exact r16
    · omega
  · intro c d h1 h2 h3 h4 he
    obtain ⟨s, hs, hsT⟩ := hT c h1 h2
    obtain ⟨t, ht, htT⟩ := hT d h3 h4
    have he : A.getD (c - 1) default = A.getD (d - 1) default := he
    rw [he, ht] at hs
    cases hs
    have := hN (c - 1) (by omega) (d - 1) (by omega) (by rw [← hsT, ← htT])
    omega
end Go.Proofs.YtkhphdkjnpcnnaaGreatDoor

/- The row's end, with the world's shape: parts. -/
namespace Go.Proofs.YtkhphdkjnpcnnaaGreatDoor
open Go.ChangeShapes Go.WideShapes Go.ChangeAt Go.RowKit Go.ChangeMaps

/-- The wrap with both: a condition on the package-level variables, and the world's shape. -/
theorem returns_both {H : Type} {enc : TypeId × Value → H} {a : Assume} {C : Checked} {os : Os} {f : FuncId} {fn : Func} {s : ChangeSpec} {conds : List PathCond} {apart fresh handsOn again : Bool} {X : World → Array Value → Prop}
    (hX : ∀ (w w' : World) (args : Array Value), w.heap = w'.heap → X w args → X w' args)
    (own : ownKnob C.prog.godebug = none) (started : os.Started) (noInit : C.prog.inits.idxOf? f = none) (hfn : C.prog.funcs[f]? = some fn)
    (witness : ∃ (w : World) (tape : Tape) (i : Input), w.os = os ∧ (w.forCall tape i).Shaped C.prog ∧ i.vars = [] ∧ Input.okWide C.prog (w.forCall tape i) .any w.heap.size f i ∧
      ((s.pre enc C.prog fn conds apart (w.forCall tape i).memory i.args ∧ X (w.forCall tape i).memory i.args) ∧ sizedMet enc C.prog fn (OpenSpec.ofChange s) apart (w.forCall tape i).memory i.args) ∧ a.holds C.prog (lone (Frame.enter C.prog f i.args .normal) [] (w.forCall tape i)))
    (contract : ∀ (W : World) (base : Nat) (args : Array Value) (ds gs : List (DataW H)) (before : List MemPlace),
      (∀ (j : Nat) t v, fn.params[j]? = some t → args[j]? = some v → Value.okWide C.prog W .any base t v) →
      DataW.Whole enc C.prog fn.params.toList s.vars apart W args.toList ds gs before →
      X W args → W.ShapedOpen C.prog →
      Calls C.prog f args W fun e W' => ∃ v, e = .returned v ∧ s.post enc C.prog fn apart fresh handsOn again W args v W') :
    ReturnsInHanded a C os f .any (fun w args => (s.pre enc C.prog fn conds apart w args ∧ X w args) ∧ sizedMet enc C.prog fn (OpenSpec.ofChange s) apart w args) (s.post enc C.prog fn apart fresh handsOn again) := by
  refine returnsInHanded_of_calls own started noInit witness ?_
  intro w tape i _ hsh _ hok hpre hholds
  obtain ⟨_, _, _, fn', hfn', _, _, _, _, hval⟩ := hok
  have e : fn' = fn := Option.some.inj (hfn'.symm.trans hfn)
  subst e
  obtain ⟨⟨⟨ds, gs, before, hw, hc⟩, hx⟩, hz⟩ := hpre
  have hw' := DataW.Whole.of_heap (w' := w.forCall tape i) (by rfl) hw
  refine (contract (w.forCall tape i) w.heap.size i.args ds gs before hval hw' (hX _ _ _ (by rfl) hx) hsh).mono fun e W' ⟨v, he, hp⟩ => ?_
  subst he
  exact ChangeSpec.post_blind hp

/-- A start that meets the condition: whatever world, the plain data laid on it. -/
theorem laidMet_laidOn {P : Program} {w0 : World} {L : List (String × DataW Unit)} (args : Array Value) (hf : w0.layFits P L [] = true) (hi : w0.layIfaces P L (w0.layVars P L) = true) :
    laidMet P L ((w0.layVars P L).forCall (fun _ _ => 0) ⟨#[], args, []⟩).memory := by
  have e1 : (L.filter fun x => (L.map (·.1)).contains x.1) = L := List.filter_eq_self.2 fun x hx => List.contains_iff_mem.2 (List.mem_map.2 ⟨x, hx, rfl⟩)
  have e2 : (L.filter fun x => !(L.map (·.1)).contains x.1) = [] := List.filter_eq_nil_iff.2 fun x hx => by rw [List.contains_iff_mem.2 (List.mem_map.2 ⟨x, hx, rfl⟩)]; simp
  have h : laidMet P L (w0.layVars P L) := laidMet_layVars (w0 := w0) (L.map (·.1)) [] (by rw [e1]) (by rw [e1]; exact hf) (by rw [e1]; exact hi) (by rw [e2]; exact LaidIn.none)
  exact h.of_heap (by simp [World.memory, World.forCall, Input.heap])
end Go.Proofs.YtkhphdkjnpcnnaaGreatDoor

/- The row's end for laws that call the library: parts. -/
namespace Go.Proofs.YtkhphdkjnpcnnaaGreatDoor
open Go.ChangeShapes Go.WideShapes Go.ChangeAt Go.RowKit Go.ChangeMaps

theorem tab_of {W : World} {laid : List (String × DataW Unit)} (h : laidMetH Tryz.prog laid W) {n : String} {k : IntKind} {zs : List Int} {g : Nat} {t e : TypeId} {m : Nat} (hm : (n, Lib.tabData k zs) ∈ laid)
    (hg : Tryz.prog.globalNamed n = some g) (hty : (Tryz.prog.globals[g]?).map (·.type) = some t) (ht : Tryz.prog.underlying t = some (.array m e)) (he : Tryz.prog.underlying e = some (.int k)) (hce : Tryz.prog.cellsOf e = 1) (hct : Tryz.prog.cellsOf t = m) :
    Lib.TabIs Tryz.prog W n k zs := by
  obtain ⟨ps, hps, _, _⟩ := laidMet_of_H h
  obtain ⟨g0, t0, cs0, f0, p0, hg0, ht0, hv0, hd0, _⟩ := laidVars_mem (ps := ps) _ ps hps n _ (List.mem_filter.2 ⟨hm, rfl⟩)
  obtain rfl := Option.some.inj (hg.symm.trans hg0)
  obtain rfl := Option.some.inj (hty.symm.trans ht0)
  unfold Lib.TabIs
  rw [hv0, ← Lib.cells_of_tab ht he hce hct hd0]
theorem cells_u64 : Tryz.prog.cellsOf 256 = 1 := by kernel_rfl
theorem cells_pow : Tryz.prog.cellsOf 289 = 20 := by kernel_rfl
theorem type_pow : (Tryz.prog.globals[18]?).map (·.type) = some 289 := by kernel_rfl
set_option maxRecDepth 100000 in
theorem sentinel_var {W : World} {laid : List (String × DataW Unit)} (h : laidMetH Tryz.prog laid W) (n : String) (text : List UInt8) (g : Nat)
    (hm : (n, .iface "*errors.errorString" (.ptr (.agg [.lit (.string text)]))) ∈ laid) (hg : Tryz.prog.globalNamed n = some g) (ht : (Tryz.prog.globals[g]?).map (·.type) = some 27) :
    ∃ t p, W.var? Tryz.prog n = some #[.iface t p] := by
  obtain ⟨ps, hps, hnd, hrows⟩ := laidMet_of_H h
  obtain ⟨g0, t0, cs0, f0, p0, hg0, ht0, hv0, hd0, hin, hip⟩ := laidVars_mem (ps := ps) _ ps hps n _ (List.mem_filter.2 ⟨hm, rfl⟩)
  obtain rfl := Option.some.inj (hg.symm.trans hg0)
  obtain rfl := Option.some.inj (ht.symm.trans ht0)
  obtain ⟨l0⟩ := cs0
  have ok0 : ∀ u v, l0 = [.iface u v] → Value.okWide Tryz.prog W .any 0 u v := fun u v e => by
    subst e
    exact (hrows g 0 (hin _ (by simp [MemPlace.row]))).2 u v (by simpa using World.var?_cell hg0 hv0 0)
  obtain ⟨a0, s0, rfl, hc0, hs0, hz0, rfl⟩ := errorString_of_trod Tryz.underlying27 row_errorString Tryz.underlying309 Tryz.underlying311 rfl rfl Tryz.underlying9 cells_errorString cells_string hd0 ok0
  exact ⟨_, _, hv0⟩
theorem max_of {W : World} (hsh : W.ShapedOpen Tryz.prog) : ∃ m, W.cell? ⟨17, 0, none⟩ = some (.int .i64 m) :=
  cell_of_shapedOpen_int (P := Tryz.prog) (g := 17) (t := 3) (zero := #[.int .i64 0]) hsh (of_decide_eq_true (by kernel_rfl)) (by kernel_rfl) rfl (by kernel_rfl) (by kernel_rfl) Tryz.underlying3
section
open Go.Deep
/-- A slice of texts that came in. -/
theorem texts_of {H : Type} {enc : TypeId × Value → H} {W : World} {base : Nat} {spare : Nat → Bool} {held : Bool} {fuel : Nat} {a : Option Addr} {len cap : Nat} {x : DataW H × List MemPlace}
    (h : DataW.trod enc Tryz.prog W base spare held fuel 107 [.slice a len cap] = some x) : ∃ L, TextsAt W (.slice a len cap) L ∧ ∀ y ∈ L, y.length ≤ maxLen := by
  have hC : Tryz.prog.cellsOf 9 = 1 := by kernel_rfl
  rcases open_slice Tryz.underlying107 h with h0 | ⟨a', len', cap', m, n, D, Pl, hcs, _, hl, hm, hmm, _, _⟩
  · cases h0.1
    exact ⟨[], ⟨none, 0, rfl, Nat.zero_le _, Nat.zero_le _, fun i hi => by cases hi⟩, fun y hy => by cases hy⟩
  · rcases slice_cells Tryz.underlying107 h with h0 | ⟨a2, len2, cap2, n2, hcs2, hm2, hi2⟩
    · cases h0
      exact ⟨[], ⟨none, 0, rfl, Nat.zero_le _, Nat.zero_le _, fun i hi => by cases hi⟩, fun y hy => by cases hy⟩
    · cases hcs
      cases hcs2
      rw [hC] at hi2
      obtain ⟨L, hL, hA⟩ := list_of (p := fun i (q : List UInt8) => (i = 0 → a' = ⟨a'.block, a'.off, none⟩) ∧ W.cell? ⟨a'.block, a'.off + i, none⟩ = some (.string (bs q)) ∧ q.length ≤ maxLen) len (fun i hil => by
        obtain ⟨cs, y, hcl, hat, ha, ht⟩ := hi2 i hil
        match cs, hcl with
        | [k0], _ =>
          obtain ⟨s0, rfl, l0⟩ := read_string Tryz.underlying9 ht
          exact ⟨s0, fun h0 => ha 0 (by decide) (by rw [h0]), by simpa using hat 0 (by decide), l0⟩)
      subst hL
      refine ⟨L, ⟨some a', cap, rfl, hm2, hl, fun i hil => ⟨a'.block, a'.off, congrArg some ((hA 0 (Nat.lt_of_le_of_lt (Nat.zero_le _) hil)).1 rfl), (hA i hil).2.1⟩⟩, fun y hy => ?_⟩
      obtain ⟨i, hi, rfl⟩ := List.getElem_of_mem hy
      exact (hA i hi).2.2
theorem texts_form {H : Type} {enc : TypeId × Value → H} {W : World} {base : Nat} {spare : Nat → Bool} {held : Bool} {fuel : Nat} {a : Option Addr} {len cap : Nat} {x : DataW H × List MemPlace}
    (h : DataW.trod enc Tryz.prog W base spare held fuel 107 [.slice a len cap] = some x) : Value.slice a len cap = .slice none 0 0 ∨ ∃ ad m c, Value.slice a len cap = .slice (some ad) m c := by
  rcases open_slice Tryz.underlying107 h with h0 | ⟨a', len', cap', m, n, D, Pl, hcs, _⟩
  · exact .inl (List.singleton_inj.1 h0.1)
  · exact .inr ⟨_, _, _, List.singleton_inj.1 hcs⟩
end
end Go.Proofs.YtkhphdkjnpcnnaaGreatDoor

/- The row's end for laws that call the library and tell errors' numbers. -/
namespace Go.Proofs.YtkhphdkjnpcnnaaGreatDoor
open Go.ChangeShapes Go.WideShapes Go.ChangeAt Go.RowKit Go.ChangeMaps

/-- What a row's list must hold beside the sentinels. -/
structure Lists2F (laid : List (String × DataW Unit)) : Prop where
  l : Lists laid
  pow : ("internal/strconv.uint64pow10", Lib.tabData .u64 Lib.pow10Tab) ∈ laid
  syn : ("strconv.ErrSyntax", .iface "*errors.errorString" (.ptr (.agg [.lit (.string [105, 110, 118, 97, 108, 105, 100, 32, 115, 121, 110, 116, 97, 120])]))) ∈ laid
  rng : ("strconv.ErrRange", .iface "*errors.errorString" (.ptr (.agg [.lit (.string [118, 97, 108, 117, 101, 32, 111, 117, 116, 32, 111, 102, 32, 114, 97, 110, 103, 101])]))) ∈ laid

theorem laidF_of {W : World} {laid : List (String × DataW Unit)} (h : laidMetH Tryz.prog laid W) (hl : Lists2F laid) (hsh : W.ShapedOpen Tryz.prog) : ∃ E, LaidF E W := by
  obtain ⟨E, hE⟩ := laidR_of h hl.l
  exact ⟨E, ⟨hE.laid, tab_of h hl.pow glob_pow type_pow Tryz.underlying289 Tryz.underlying256 cells_u64 cells_pow,
    sentinel_var h _ _ 19 hl.syn glob_syn (by kernel_rfl), sentinel_var h _ _ 20 hl.rng glob_rng (by kernel_rfl), max_of hsh⟩, hE⟩
end Go.Proofs.YtkhphdkjnpcnnaaGreatDoor
