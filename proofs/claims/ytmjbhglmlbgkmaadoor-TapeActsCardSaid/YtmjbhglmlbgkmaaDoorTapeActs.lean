/- TapeActs: for every text and all acts the law returns true. No condition beyond the row's own. -/
import Derived.Test.YtmjbhglmlbgkmaaDoorTapeX
import Derived.Test.YtmjbhglmlbgkmaaDoorEndB
import Derived.Test.YtmjbhglmlbgkmaaDoorTie
import Derived.Test.YtmjbhglmlbgkmaaDoorCards
import Derived.SevenTiedAt
namespace Go.Proofs.YtmjbhglmlbgkmaaDoor
open Go.ChangeShapes Go.WideShapes Go.ChangeAt Go.RowKit Go.ChangeMaps

theorem tapeActs_lists : Lists Rows.tapeActsRow.laid := by
  refine ⟨List.mem_of_getElem? (i := 3) rfl, List.mem_of_getElem? (i := 4) rfl, List.mem_of_getElem? (i := 5) rfl, List.mem_of_getElem? (i := 6) rfl, List.mem_of_getElem? (i := 7) rfl, List.mem_of_getElem? (i := 8) rfl, List.mem_of_getElem? (i := 9) rfl, List.mem_of_getElem? (i := 10) rfl, List.mem_of_getElem? (i := 11) rfl, List.mem_of_getElem? (i := 12) rfl, List.mem_of_getElem? (i := 13) rfl, List.mem_of_getElem? (i := 14) rfl, List.mem_of_getElem? (i := 15) rfl, List.mem_of_getElem? (i := 16) rfl, List.mem_of_getElem? (i := 17) rfl, List.mem_of_getElem? (i := 18) rfl, List.mem_of_getElem? (i := 19) rfl⟩

set_option maxRecDepth 100000 in
theorem tapeActs_laid {W : World} (h : laidMetH Tryd.prog Rows.tapeActsRow.laid W) (hsh : W.ShapedOpen Tryd.prog) : ∃ E, LaidT E W := by
  obtain ⟨E, hE⟩ := laidR_of h tapeActs_lists
  exact ⟨E, ⟨hE.laid, tab_of h (List.mem_of_getElem? (i := 2) rfl) glob_pow type_pow Tryd.underlying236 Tryd.underlying158 cells_u64 cells_pow, sentinel_var h "strconv.ErrSyntax" [105, 110, 118, 97, 108, 105, 100, 32, 115, 121, 110, 116, 97, 120] 18 (List.mem_of_getElem? (i := 21) rfl) glob_syn (by kernel_rfl), sentinel_var h "strconv.ErrRange" [118, 97, 108, 117, 101, 32, 111, 117, 116, 32, 111, 102, 32, 114, 97, 110, 103, 101] 19 (List.mem_of_getElem? (i := 20) rfl) glob_rng (by kernel_rfl), max_of hsh⟩, hE⟩

set_option maxRecDepth 100000 in
theorem tapeActs_door (os : Os) (args : Array Value) : laidMetH Tryd.prog Rows.tapeActsRow.laid (((World.doorLaid Tryd.prog 400 os).layVars Tryd.prog (Rows.tapeActsRow.laid.filter fun x => x.2.handleName?.isNone)).forCall (fun _ _ => 0) ⟨#[], args, []⟩).memory :=
  laidMetH_of_parts3 (fuel := 8) (laidMet_laidOn args (by kernel_rfl) (by kernel_rfl)) (by kernel_rfl) (by kernel_rfl)

set_option maxRecDepth 100000 in
theorem tapeActs_lifted (os : Os) (started : os.Started) (H : Type) (enc : TypeId × Value → H) :
    ReturnsInHanded {} Tryd.checked os 4 .any (fun w args => (Rows.tapeActsSpec.pre enc Tryd.prog Tryd.f4 [] false w args ∧ laidMetH Tryd.prog Rows.tapeActsRow.laid w) ∧ sizedMet enc Tryd.prog Tryd.f4 (OpenSpec.ofChange Rows.tapeActsSpec) false w args)
      (Rows.tapeActsSpec.post enc Tryd.prog Tryd.f4 false true false false) := by
  refine returns_both (C := Tryd.checked) (X := fun w _ => laidMetH Tryd.prog Rows.tapeActsRow.laid w) (fun _ _ _ hh h => h.of_heap hh) ownKnob_none started (by kernel_rfl) Tryd.func4
    (ChangeSpec.witness_shaped (enc := enc) (C := Tryd.checked) (os := os) (X := fun w _ => laidMetH Tryd.prog Rows.tapeActsRow.laid w) false ((World.doorLaid Tryd.prog 400 os).layVars Tryd.prog (Rows.tapeActsRow.laid.filter fun x => x.2.handleName?.isNone)) #[.string ⟨#[]⟩, .slice none 0 0] 8 ((World.layVars_os _ _ _).trans rfl) (World.shaped_of_ZipB (by kernel_rfl) (by kernel_rfl)) (by kernel_rfl) (by kernel_rfl) (by kernel_rfl) (tapeActs_door os _)) ?_
  intro W base args ds gs before hval0 hW hL hsh
  have hval : ∀ (j : Nat) t v, Tryd.f4.params[j]? = some t → args[j]? = some v → Value.okWide Tryd.prog W .any base t v := hval0
  have hW' := hW
  obtain ⟨p, q, hA0, hV, rfl, hfz, hnd⟩ := hW
  have hA : DataW.TrodAll enc Tryd.prog W 0 (fun _ => true) true Tryd.f4.params.toList args.toList ds p := hA0
  rw [Tryd.params4] at hA hval
  obtain ⟨args⟩ := args
  obtain ⟨v0, vs0, d0, ds0, p0, q0, hv0, rfl, rfl, h0, hR0⟩ := trodAll_cons hA
  obtain ⟨v1, vs1, d1, ds1, p1, q1, hv1, rfl, rfl, h1, hR1⟩ := trodAll_cons hR0
  obtain ⟨hvn, rfl, rfl⟩ := trodAll_nil hR1
  subst hvn
  subst hv1
  have hv0 : args = _ := hv0
  subst hv0
  obtain ⟨rfl, rfl⟩ := trodVars_none hV
  obtain ⟨s, rfl, rfl, rfl, ws⟩ := open_string Tryd.underlying9 (hval 0 9 v0 rfl rfl) h0
  obtain ⟨a_l, len_l, cap_l, rfl⟩ := okWide_slice Tryd.underlying48 (hval 1 48 v1 rfl rfl)
  obtain ⟨fuel_l, hf_l⟩ := h1
  obtain ⟨A_l, hA_l, hm_l⟩ := wrs_of hf_l
  obtain ⟨E, hE⟩ := tapeActs_laid hL hsh
  have hrun := tapeActs_any s.data.toList _ A_l W hE (by first | exact ws | (rw [Array.length_toList]; exact ws)) hA_l hm_l
  rw [bs_data] at hrun
  refine hrun.mono fun e W' ⟨he, hb⟩ => ⟨_, he, ?_⟩
  exact law_post rfl (by kernel_rfl) (by rw [Tryd.params4]; intro t ht; simp only [List.mem_cons, List.mem_nil_iff, or_false] at ht; rcases ht with rfl | rfl <;> exact ⟨by kernel_rfl, by rw [types_size]; decide⟩) rfl hW' hb

theorem tapeActs_holds : Rows.TapeActsSaid :=
  OpenClaim.holds_of_wide 4 Tryd.f4 rfl rfl rfl rfl rfl rfl rfl ⟨rfl, rfl, rfl, rfl, rfl⟩ rfl rfl rfl rfl rfl (by kernel_rfl) Tryd.func4 (by kernel_rfl)
    (of_decide_eq_true (by kernel_rfl)) (by unfold Func.isWrapper; rw [if_neg (of_decide_eq_false (by kernel_rfl))]; exact ⟨rfl, rfl⟩)
    (fun os started H enc _ => tapeActs_lifted os started H enc)

set_option maxRecDepth 100000 in
theorem tapeActs_card : Rows.TapeActsCardSaid :=
  Claim7.holds_tied_plain_at .later [] _ _ _ _
    tapeActs_holds (fun _ h => by cases h) (by kernel_rfl) (fun _ h => by cases h) tapeActs_row_tie rfl ⟨rfl, rfl⟩ (by kernel_rfl) rfl
    (fun f fn hf hfn => by
      obtain rfl : f = 4 := Option.some.inj ((show Tryd.prog.funcNamed "keyholder/keyholderlaw3.TapeActs" = some 4 by kernel_rfl).symm.trans hf) |>.symm
      obtain rfl : fn = Tryd.f4 := (Option.some.inj (Tryd.func4.symm.trans hfn)).symm
      exact ⟨by kernel_rfl, fun j t ht => by
        rw [Tryd.params4] at ht
        have ht := Array.mem_of_getElem? ht
        simp only [List.mem_toArray, List.mem_cons, List.mem_nil_iff, or_false] at ht
        rcases ht with rfl | rfl
        · exact (show Tryd.prog.wantsStandIn 9 = false by kernel_rfl)
        · exact (show Tryd.prog.wantsStandIn 48 = false by kernel_rfl)⟩)
    (by kernel_rfl)
end Go.Proofs.YtmjbhglmlbgkmaaDoor
