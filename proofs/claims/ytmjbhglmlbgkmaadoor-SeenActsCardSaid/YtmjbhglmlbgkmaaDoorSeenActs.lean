/- SeenActs: for every length and all words the law returns true. No condition beyond the row's own. -/
import Derived.Test.YtmjbhglmlbgkmaaDoorSeenC
import Derived.Test.YtmjbhglmlbgkmaaDoorLaid
import Derived.Test.YtmjbhglmlbgkmaaDoorTie
import Derived.Test.YtmjbhglmlbgkmaaDoorCards
import Derived.Test.YtmjbhglmlbgkmaaDoorOpen
import Derived.Test.YtmjbhglmlbgkmaaDoorEndC
import Derived.SevenTiedAt
namespace Go.Proofs.YtmjbhglmlbgkmaaDoor
open Go.ChangeShapes Go.WideShapes Go.ChangeAt Go.RowKit Go.ChangeMaps

theorem seenActs_lists : Lists Rows.seenActsRow.laid := by
  refine ⟨List.mem_of_getElem? (i := 1) rfl, List.mem_of_getElem? (i := 2) rfl, List.mem_of_getElem? (i := 3) rfl, List.mem_of_getElem? (i := 4) rfl, List.mem_of_getElem? (i := 5) rfl, List.mem_of_getElem? (i := 6) rfl, List.mem_of_getElem? (i := 7) rfl, List.mem_of_getElem? (i := 8) rfl, List.mem_of_getElem? (i := 9) rfl, List.mem_of_getElem? (i := 10) rfl, List.mem_of_getElem? (i := 11) rfl, List.mem_of_getElem? (i := 12) rfl, List.mem_of_getElem? (i := 13) rfl, List.mem_of_getElem? (i := 14) rfl, List.mem_of_getElem? (i := 15) rfl, List.mem_of_getElem? (i := 16) rfl, List.mem_of_getElem? (i := 17) rfl⟩

theorem seenActs_laid {W : World} (h : laidMetH Tryd.prog Rows.seenActsRow.laid W) (_ : W.ShapedOpen Tryd.prog) : ∃ E, LaidR E W := laidR_of h seenActs_lists

set_option maxRecDepth 100000 in
theorem seenActs_door (os : Os) (args : Array Value) : laidMetH Tryd.prog Rows.seenActsRow.laid (((World.doorLaid Tryd.prog 400 os).layVars Tryd.prog (Rows.seenActsRow.laid.filter fun x => x.2.handleName?.isNone)).forCall (fun _ _ => 0) ⟨#[], args, []⟩).memory :=
  laidMetH_of_parts3 (fuel := 8) (laidMet_laidOn args (by kernel_rfl) (by kernel_rfl)) (by kernel_rfl) (by kernel_rfl)

set_option maxRecDepth 100000 in
theorem seenActs_lifted (os : Os) (started : os.Started) (H : Type) (enc : TypeId × Value → H) :
    ReturnsInHanded {} Tryd.checked os 5 .any (fun w args => (Rows.seenActsSpec.pre enc Tryd.prog Tryd.f5 [] false w args ∧ laidMetH Tryd.prog Rows.seenActsRow.laid w) ∧ sizedMet enc Tryd.prog Tryd.f5 (OpenSpec.ofChange Rows.seenActsSpec) false w args)
      (Rows.seenActsSpec.post enc Tryd.prog Tryd.f5 false true false false) := by
  refine returns_both (C := Tryd.checked) (X := fun w _ => laidMetH Tryd.prog Rows.seenActsRow.laid w) (fun _ _ _ hh h => h.of_heap hh) ownKnob_none started (by kernel_rfl) Tryd.func5
    (ChangeSpec.witness_shaped (enc := enc) (C := Tryd.checked) (os := os) (X := fun w _ => laidMetH Tryd.prog Rows.seenActsRow.laid w) false ((World.doorLaid Tryd.prog 400 os).layVars Tryd.prog (Rows.seenActsRow.laid.filter fun x => x.2.handleName?.isNone)) #[.int .i64 0, .slice none 0 0] 8 ((World.layVars_os _ _ _).trans rfl) (World.shaped_of_ZipB (by kernel_rfl) (by kernel_rfl)) (by kernel_rfl) (by kernel_rfl) (by kernel_rfl) (seenActs_door os _)) ?_
  intro W base args ds gs before hval0 hW hL hsh
  have hval : ∀ (j : Nat) t v, Tryd.f5.params[j]? = some t → args[j]? = some v → Value.okWide Tryd.prog W .any base t v := hval0
  have hW' := hW
  obtain ⟨p, q, hA0, hV, rfl, hfz, hnd⟩ := hW
  have hA : DataW.TrodAll enc Tryd.prog W 0 (fun _ => true) true Tryd.f5.params.toList args.toList ds p := hA0
  rw [Tryd.params5] at hA hval
  obtain ⟨args⟩ := args
  obtain ⟨v0, vs0, d0, ds0, p0, q0, hv0, rfl, rfl, h0, hR0⟩ := trodAll_cons hA
  obtain ⟨v1, vs1, d1, ds1, p1, q1, hv1, rfl, rfl, h1, hR1⟩ := trodAll_cons hR0
  obtain ⟨hvn, rfl, rfl⟩ := trodAll_nil hR1
  subst hvn
  subst hv1
  have hv0 : args = _ := hv0
  subst hv0
  obtain ⟨rfl, rfl⟩ := trodVars_none hV
  obtain ⟨long, rfl, rfl, rfl, wlong⟩ := open_int Tryd.underlying3 (hval 0 3 v0 rfl rfl) h0
  obtain ⟨a_l, len_l, cap_l, rfl⟩ := okWide_slice Tryd.underlying70 (hval 1 70 v1 rfl rfl)
  obtain ⟨fuel_l, hf_l⟩ := h1
  obtain ⟨A_l, hA_l, hm_l⟩ := wqs_of hf_l
  obtain ⟨E, hE⟩ := seenActs_laid hL hsh
  refine (seenActs_any long _ A_l W hE hA_l hm_l).mono fun e W' ⟨he, hb⟩ => ⟨_, he, ?_⟩
  exact law_post rfl (by kernel_rfl) (by rw [Tryd.params5]; intro t ht; simp only [List.mem_cons, List.mem_nil_iff, or_false] at ht; rcases ht with rfl | rfl <;> exact ⟨by kernel_rfl, by rw [types_size]; decide⟩) rfl hW' hb

theorem seenActs_holds : Rows.SeenActsSaid :=
  OpenClaim.holds_of_wide 5 Tryd.f5 rfl rfl rfl rfl rfl rfl rfl ⟨rfl, rfl, rfl, rfl, rfl⟩ rfl rfl rfl rfl rfl (by kernel_rfl) Tryd.func5 (by kernel_rfl)
    (of_decide_eq_true (by kernel_rfl)) (by unfold Func.isWrapper; rw [if_neg (of_decide_eq_false (by kernel_rfl))]; exact ⟨rfl, rfl⟩)
    (fun os started H enc _ => seenActs_lifted os started H enc)

set_option maxRecDepth 100000 in
theorem seenActs_card : Rows.SeenActsCardSaid :=
  Claim7.holds_tied_plain_at .later [] _ _ _ _
    seenActs_holds (fun _ h => by cases h) (by kernel_rfl) (fun _ h => by cases h) seenActs_row_tie rfl ⟨rfl, rfl⟩ (by kernel_rfl) rfl
    (fun f fn hf hfn => by
      obtain rfl : f = 5 := Option.some.inj ((show Tryd.prog.funcNamed "keyholder/keyholderlaw3.SeenActs" = some 5 by kernel_rfl).symm.trans hf) |>.symm
      obtain rfl : fn = Tryd.f5 := (Option.some.inj (Tryd.func5.symm.trans hfn)).symm
      exact ⟨by kernel_rfl, fun j t ht => by
        rw [Tryd.params5] at ht
        have ht := Array.mem_of_getElem? ht
        simp only [List.mem_toArray, List.mem_cons, List.mem_nil_iff, or_false] at ht
        rcases ht with rfl | rfl
        · exact (show Tryd.prog.wantsStandIn 3 = false by kernel_rfl)
        · exact (show Tryd.prog.wantsStandIn 70 = false by kernel_rfl)⟩)
    (by kernel_rfl)
end Go.Proofs.YtmjbhglmlbgkmaaDoor
