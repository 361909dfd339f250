/- TapeCuts: for all texts and wherever power is cut the law returns true. No condition beyond the row's own. -/
import Derived.Test.YtphjjaanclpagaaDoorTapeL
import Derived.Test.YtphjjaanclpagaaDoorEndB
import Derived.Test.YtphjjaanclpagaaDoorTie
import Derived.Test.YtphjjaanclpagaaDoorCards
import Derived.SevenTiedAt
namespace Go.Proofs.YtphjjaanclpagaaDoor
open Go.ChangeShapes Go.WideShapes Go.ChangeAt Go.RowKit Go.ChangeMaps

set_option maxRecDepth 100000 in
theorem tapeCuts_laid0 {W : World} (h : laidMetH Tryd.prog Rows.tapeCutsRow.laid W) : ∃ E, Laid E W := by
  obtain ⟨a2, _, c2, _, _, _⟩ := sentinel_of h "keyholder/api.ErrBound" [107, 101, 121, 104, 111, 108, 100, 101, 114, 58, 32, 98, 111, 117, 110, 100] 0 (List.mem_of_getElem? (i := 3) rfl) (by kernel_rfl) (by kernel_rfl)
  obtain ⟨a3, _, c3, _, _, _⟩ := sentinel_of h "keyholder/api.ErrShape" [107, 101, 121, 104, 111, 108, 100, 101, 114, 58, 32, 115, 104, 97, 112, 101] 7 (List.mem_of_getElem? (i := 4) rfl) (by kernel_rfl) (by kernel_rfl)
  obtain ⟨a7, _, c7, _, _, _⟩ := sentinel_of h "keyholder/api.ErrFull" [107, 101, 121, 104, 111, 108, 100, 101, 114, 58, 32, 102, 117, 108, 108] 5 (List.mem_of_getElem? (i := 5) rfl) (by kernel_rfl) (by kernel_rfl)
  obtain ⟨a16, _, c16, _, _, _⟩ := sentinel_of h "keyholder/api.ErrOff" [107, 101, 121, 104, 111, 108, 100, 101, 114, 58, 32, 111, 102, 102] 6 (List.mem_of_getElem? (i := 6) rfl) (by kernel_rfl) (by kernel_rfl)
  exact ⟨fun c => match c with | 2 => a2 | 3 => a3 | 7 => a7 | 16 => a16 | _ => default, ⟨c2, c3, c7, c16⟩⟩

set_option maxRecDepth 100000 in
theorem tapeCuts_laid {W : World} (h : laidMetH Tryd.prog Rows.tapeCutsRow.laid W) (hsh : W.ShapedOpen Tryd.prog) : ∃ E, LaidS E W := by
  obtain ⟨E, hE⟩ := tapeCuts_laid0 h
  exact ⟨E, hE, tab_of h (List.mem_of_getElem? (i := 2) rfl) glob_pow type_pow Tryd.underlying253 Tryd.underlying178 cells_u64 cells_pow, sentinel_var h "strconv.ErrSyntax" [105, 110, 118, 97, 108, 105, 100, 32, 115, 121, 110, 116, 97, 120] 18 (List.mem_of_getElem? (i := 8) rfl) glob_syn (by kernel_rfl), sentinel_var h "strconv.ErrRange" [118, 97, 108, 117, 101, 32, 111, 117, 116, 32, 111, 102, 32, 114, 97, 110, 103, 101] 19 (List.mem_of_getElem? (i := 7) rfl) glob_rng (by kernel_rfl), max_of hsh⟩

set_option maxRecDepth 100000 in
theorem tapeCuts_door (os : Os) (args : Array Value) : laidMetH Tryd.prog Rows.tapeCutsRow.laid (((World.doorLaid Tryd.prog 400 os).layVars Tryd.prog (Rows.tapeCutsRow.laid.filter fun x => x.2.handleName?.isNone)).forCall (fun _ _ => 0) ⟨#[], args, []⟩).memory :=
  laidMetH_of_parts3 (fuel := 8) (laidMet_laidOn args (by kernel_rfl) (by kernel_rfl)) (by kernel_rfl) (by kernel_rfl)

set_option maxRecDepth 100000 in
theorem tapeCuts_lifted (os : Os) (started : os.Started) (H : Type) (enc : TypeId × Value → H) :
    ReturnsInHanded {} Tryd.checked os 5 .any (fun w args => (Rows.tapeCutsSpec.pre enc Tryd.prog Tryd.f5 [] false w args ∧ laidMetH Tryd.prog Rows.tapeCutsRow.laid w) ∧ sizedMet enc Tryd.prog Tryd.f5 (OpenSpec.ofChange Rows.tapeCutsSpec) false w args)
      (Rows.tapeCutsSpec.post enc Tryd.prog Tryd.f5 false true false false) := by
  refine returns_both (C := Tryd.checked) (X := fun w _ => laidMetH Tryd.prog Rows.tapeCutsRow.laid w) (fun _ _ _ hh h => h.of_heap hh) ownKnob_none started (by kernel_rfl) Tryd.func5
    (ChangeSpec.witness_shaped (enc := enc) (C := Tryd.checked) (os := os) (X := fun w _ => laidMetH Tryd.prog Rows.tapeCutsRow.laid w) false ((World.doorLaid Tryd.prog 400 os).layVars Tryd.prog (Rows.tapeCutsRow.laid.filter fun x => x.2.handleName?.isNone)) #[.slice none 0 0, .int .i64 0] 8 ((World.layVars_os _ _ _).trans rfl) (World.shaped_of_ZipB (by kernel_rfl) (by kernel_rfl)) (by kernel_rfl) (by kernel_rfl) (by kernel_rfl) (tapeCuts_door os _)) ?_
  intro W base args ds gs before hval0 hW hL hsh
  have hval : ∀ (j : Nat) t v, Tryd.f5.params[j]? = some t → args[j]? = some v → Value.okWide Tryd.prog W .any base t v := hval0
  have hW' := hW
  obtain ⟨p, q, hA0, hV, rfl, hfz, hnd⟩ := hW
  have hA : DataW.TrodAll enc Tryd.prog W 0 (fun _ => true) true Tryd.f5.params.toList args.toList ds p := hA0
  rw [Tryd.params5] at hA hval
  obtain ⟨args⟩ := args
  obtain ⟨v0, vs0, d0, ds0, p0, q0, hv0, rfl, rfl, h0, hR0⟩ := trodAll_cons hA
  obtain ⟨v1, vs1, d1, ds1, p1, q1, hv1, rfl, rfl, h1, hR1⟩ := trodAll_cons hR0
  obtain ⟨hvn, rfl, rfl⟩ := trodAll_nil hR1
  subst hvn
  subst hv1
  have hv0 : args = _ := hv0
  subst hv0
  obtain ⟨rfl, rfl⟩ := trodVars_none hV
  obtain ⟨cut, rfl, rfl, rfl, wcut⟩ := open_int Tryd.underlying3 (hval 1 3 v1 rfl rfl) h1
  obtain ⟨a_l, len_l, cap_l, rfl⟩ := okWide_slice Tryd.underlying30 (hval 0 30 v0 rfl rfl)
  obtain ⟨fuel_l, hf_l⟩ := h0
  obtain ⟨L_l, ht_l, hm_l⟩ := texts_of hf_l
  obtain ⟨E, hE⟩ := tapeCuts_laid hL hsh
  have hcut : cut ≤ 9223372036854775807 := by simp [Lit.wf, IntKind.min, IntKind.max, IntKind.signed, IntKind.bits] at wcut; omega
  refine (tapeCuts_any _ L_l cut W hE ht_l hm_l hcut).mono fun e W' ⟨he, hb⟩ => ⟨_, he, ?_⟩
  exact law_post rfl (by kernel_rfl) (by rw [Tryd.params5]; intro t ht; simp only [List.mem_cons, List.mem_nil_iff, or_false] at ht; rcases ht with rfl | rfl <;> exact ⟨by kernel_rfl, by rw [types_size]; decide⟩) rfl hW' hb

theorem tapeCuts_holds : Rows.TapeCutsSaid :=
  OpenClaim.holds_of_wide 5 Tryd.f5 rfl rfl rfl rfl rfl rfl rfl ⟨rfl, rfl, rfl, rfl, rfl⟩ rfl rfl rfl rfl rfl (by kernel_rfl) Tryd.func5 (by kernel_rfl)
    (of_decide_eq_true (by kernel_rfl)) (by unfold Func.isWrapper; rw [if_neg (of_decide_eq_false (by kernel_rfl))]; exact ⟨rfl, rfl⟩)
    (fun os started H enc _ => tapeCuts_lifted os started H enc)

set_option maxRecDepth 100000 in
theorem tapeCuts_card : Rows.TapeCutsCardSaid :=
  Claim7.holds_tied_plain_at .later [] _ _ _ _
    tapeCuts_holds (fun _ h => by cases h) (by kernel_rfl) (fun _ h => by cases h) tapeCuts_row_tie rfl ⟨rfl, rfl⟩ (by kernel_rfl) rfl
    (fun f fn hf hfn => by
      obtain rfl : f = 5 := Option.some.inj ((show Tryd.prog.funcNamed "keyholder/keyholderlaw3.TapeCuts" = some 5 by kernel_rfl).symm.trans hf) |>.symm
      obtain rfl : fn = Tryd.f5 := (Option.some.inj (Tryd.func5.symm.trans hfn)).symm
      exact ⟨by kernel_rfl, fun j t ht => by
        rw [Tryd.params5] at ht
        have ht := Array.mem_of_getElem? ht
        simp only [List.mem_toArray, List.mem_cons, List.mem_nil_iff, or_false] at ht
        rcases ht with rfl | rfl
        · exact (show Tryd.prog.wantsStandIn 30 = false by kernel_rfl)
        · exact (show Tryd.prog.wantsStandIn 3 = false by kernel_rfl)⟩)
    (by kernel_rfl)
end Go.Proofs.YtphjjaanclpagaaDoor
