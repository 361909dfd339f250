/- SessionSwept: for all deals, floors and every time the law returns true. No condition beyond the row's own. -/
import Derived.Test.YtmjbhglmlbgkmaaDoorSesL
import Derived.Test.YtmjbhglmlbgkmaaDoorBase
import Derived.Test.YtmjbhglmlbgkmaaDoorTie
import Derived.Test.YtmjbhglmlbgkmaaDoorCards
import Derived.Test.YtmjbhglmlbgkmaaDoorOpen
import Derived.Test.YtmjbhglmlbgkmaaDoorDealArg
import Derived.Lay
import Derived.MakeChecks
import Derived.SevenTiedAt
namespace Go.Proofs.YtmjbhglmlbgkmaaDoor
open Go.ChangeShapes Go.WideShapes Go.ChangeAt Go.RowKit Go.ChangeMaps

set_option maxRecDepth 100000 in
theorem sessionSwept_laid {W : World} (h : laidMetH Tryd.prog Rows.sessionSweptRow.laid W) : ∃ E, Laid E W := by
  obtain ⟨a2, _, c2, _, _, _⟩ := sentinel_of h "keyholder/api.ErrBound" [107, 101, 121, 104, 111, 108, 100, 101, 114, 58, 32, 98, 111, 117, 110, 100] 2 (List.mem_of_getElem? (i := 1) rfl) (by kernel_rfl) (by kernel_rfl)
  obtain ⟨a3, _, c3, _, _, _⟩ := sentinel_of h "keyholder/api.ErrShape" [107, 101, 121, 104, 111, 108, 100, 101, 114, 58, 32, 115, 104, 97, 112, 101] 3 (List.mem_of_getElem? (i := 2) rfl) (by kernel_rfl) (by kernel_rfl)
  obtain ⟨a4, _, c4, _, _, _⟩ := sentinel_of h "keyholder/api.ErrName" [107, 101, 121, 104, 111, 108, 100, 101, 114, 58, 32, 110, 97, 109, 101] 10 (List.mem_of_getElem? (i := 3) rfl) (by kernel_rfl) (by kernel_rfl)
  obtain ⟨a5, _, c5, _, _, _⟩ := sentinel_of h "keyholder/api.ErrNone" [107, 101, 121, 104, 111, 108, 100, 101, 114, 58, 32, 110, 111, 110, 101] 1 (List.mem_of_getElem? (i := 4) rfl) (by kernel_rfl) (by kernel_rfl)
  obtain ⟨a7, _, c7, _, _, _⟩ := sentinel_of h "keyholder/api.ErrFull" [107, 101, 121, 104, 111, 108, 100, 101, 114, 58, 32, 102, 117, 108, 108] 0 (List.mem_of_getElem? (i := 5) rfl) (by kernel_rfl) (by kernel_rfl)
  obtain ⟨a8, _, c8, _, _, _⟩ := sentinel_of h "keyholder/api.ErrOrder" [107, 101, 121, 104, 111, 108, 100, 101, 114, 58, 32, 111, 114, 100, 101, 114] 9 (List.mem_of_getElem? (i := 6) rfl) (by kernel_rfl) (by kernel_rfl)
  obtain ⟨a11, _, c11, _, _, _⟩ := sentinel_of h "keyholder/api.ErrEarly" [107, 101, 121, 104, 111, 108, 100, 101, 114, 58, 32, 101, 97, 114, 108, 121] 6 (List.mem_of_getElem? (i := 7) rfl) (by kernel_rfl) (by kernel_rfl)
  obtain ⟨a12, _, c12, _, _, _⟩ := sentinel_of h "keyholder/api.ErrLate" [107, 101, 121, 104, 111, 108, 100, 101, 114, 58, 32, 108, 97, 116, 101] 7 (List.mem_of_getElem? (i := 8) rfl) (by kernel_rfl) (by kernel_rfl)
  exact ⟨fun c => match c with | 2 => a2 | 3 => a3 | 4 => a4 | 5 => a5 | 7 => a7 | 8 => a8 | 11 => a11 | 12 => a12 | _ => default, ⟨c2, c3, c4, c5, c7, c8, c11, c12⟩⟩

set_option maxRecDepth 100000 in
theorem sessionSwept_door (os : Os) (args : Array Value) : laidMetH Tryd.prog Rows.sessionSweptRow.laid ((World.laidAll Tryd.prog os Rows.sessionSweptRow.laid).forCall (fun _ _ => 0) ⟨#[], args, []⟩).memory := by
  rw [MakeChecks.laidMetH_plain _ _ _ (by kernel_rfl)]
  exact laidMet_laidAll _ (by kernel_rfl) (by kernel_rfl)

set_option maxRecDepth 100000 in
theorem sessionSwept_lifted (os : Os) (started : os.Started) (H : Type) (enc : TypeId × Value → H) :
    ReturnsInHanded {} Tryd.checked os 3 .any (fun w args => (Rows.sessionSweptSpec.pre enc Tryd.prog Tryd.f3 [] false w args ∧ laidMetH Tryd.prog Rows.sessionSweptRow.laid w) ∧ sizedMet enc Tryd.prog Tryd.f3 (OpenSpec.ofChange Rows.sessionSweptSpec) false w args)
      (Rows.sessionSweptSpec.post enc Tryd.prog Tryd.f3 false true false false) := by
  refine returnsInHanded_of_change_and (C := Tryd.checked) (X := fun w _ => laidMetH Tryd.prog Rows.sessionSweptRow.laid w) (fun _ _ _ hh h => h.of_heap hh) ownKnob_none started (by kernel_rfl) Tryd.func3
    (ChangeSpec.witness_shaped (enc := enc) (C := Tryd.checked) (os := os) (X := fun w _ => laidMetH Tryd.prog Rows.sessionSweptRow.laid w) false (World.laidAll Tryd.prog os Rows.sessionSweptRow.laid) #[.slice none 0 0, .slice none 0 0, .int .i64 0] 8 (World.laidAll_os _ _ _) (World.shaped_of_ZipB (by kernel_rfl) (by kernel_rfl)) (by kernel_rfl) (by kernel_rfl) (by kernel_rfl) (sessionSwept_door os _)) ?_
  intro W base args ds gs before hval0 hW _ _ hL _
  have hval : ∀ (j : Nat) t v, Tryd.f3.params[j]? = some t → args[j]? = some v → Value.okWide Tryd.prog W .any base t v := hval0
  have hW' := hW
  obtain ⟨p, q, hA0, hV, rfl, hfz, hnd⟩ := hW
  have hA : DataW.TrodAll enc Tryd.prog W 0 (fun _ => true) true Tryd.f3.params.toList args.toList ds p := hA0
  rw [Tryd.params3] at hA hval
  obtain ⟨args⟩ := args
  obtain ⟨v0, vs0, d0, ds0, p0, q0, hv0, rfl, rfl, h0, hR0⟩ := trodAll_cons hA
  obtain ⟨v1, vs1, d1, ds1, p1, q1, hv1, rfl, rfl, h1, hR1⟩ := trodAll_cons hR0
  obtain ⟨v2, vs2, d2, ds2, p2, q2, hv2, rfl, rfl, h2, hR2⟩ := trodAll_cons hR1
  obtain ⟨hvn, rfl, rfl⟩ := trodAll_nil hR2
  subst hvn
  subst hv2
  subst hv1
  have hv0 : args = _ := hv0
  subst hv0
  obtain ⟨rfl, rfl⟩ := trodVars_none hV
  obtain ⟨now, rfl, rfl, rfl, wnow⟩ := open_int Tryd.underlying3 (hval 2 3 v2 rfl rfl) h2
  obtain ⟨a_l, len_l, cap_l, rfl⟩ := okWide_slice Tryd.underlying22 (hval 0 22 v0 rfl rfl)
  obtain ⟨fuel_l, hf_l⟩ := h0
  obtain ⟨A_l, hA_l, hm_l⟩ := deals_of hf_l
  obtain ⟨a_f, len_f, cap_f, rfl⟩ := okWide_slice Tryd.underlying23 (hval 1 23 v1 rfl rfl)
  obtain ⟨fuel_f, hf_f⟩ := h1
  obtain ⟨F_f, hF_f, hm_f⟩ := flos_of hf_f
  obtain ⟨E, hE⟩ := sessionSwept_laid hL
  refine (sessionSwept_any _ A_l _ F_f now W hE hA_l hm_l hF_f hm_f).mono fun e W' ⟨he, hb⟩ => ⟨_, he, ?_⟩
  exact law_post rfl (by kernel_rfl) (by rw [Tryd.params3]; intro t ht; simp only [List.mem_cons, List.mem_nil_iff, or_false] at ht; rcases ht with rfl | rfl | rfl <;> exact ⟨by kernel_rfl, by rw [types_size]; decide⟩) rfl hW' hb

theorem sessionSwept_holds : Rows.SessionSweptSaid :=
  OpenClaim.holds_of_wide 3 Tryd.f3 rfl rfl rfl rfl rfl rfl rfl ⟨rfl, rfl, rfl, rfl, rfl⟩ rfl rfl rfl rfl rfl (by kernel_rfl) Tryd.func3 (by kernel_rfl)
    (of_decide_eq_true (by kernel_rfl)) (by unfold Func.isWrapper; rw [if_neg (of_decide_eq_false (by kernel_rfl))]; exact ⟨rfl, rfl⟩)
    (fun os started H enc _ => sessionSwept_lifted os started H enc)

set_option maxRecDepth 100000 in
theorem sessionSwept_card : Rows.SessionSweptCardSaid :=
  Claim7.holds_tied_plain_at .later [] _ _ _ _
    sessionSwept_holds (fun _ h => by cases h) (by kernel_rfl) (fun _ h => by cases h) sessionSwept_row_tie rfl ⟨rfl, rfl⟩ (by kernel_rfl) rfl
    (fun f fn hf hfn => by
      obtain rfl : f = 3 := Option.some.inj ((show Tryd.prog.funcNamed "keyholder/keyholderlaw3.SessionSwept" = some 3 by kernel_rfl).symm.trans hf) |>.symm
      obtain rfl : fn = Tryd.f3 := (Option.some.inj (Tryd.func3.symm.trans hfn)).symm
      exact ⟨by kernel_rfl, fun j t ht => by
        rw [Tryd.params3] at ht
        have ht := Array.mem_of_getElem? ht
        simp only [List.mem_toArray, List.mem_cons, List.mem_nil_iff, or_false] at ht
        rcases ht with rfl | rfl | rfl
        · exact (show Tryd.prog.wantsStandIn 22 = false by kernel_rfl)
        · exact (show Tryd.prog.wantsStandIn 23 = false by kernel_rfl)
        · exact (show Tryd.prog.wantsStandIn 3 = false by kernel_rfl)⟩)
    (by kernel_rfl)
end Go.Proofs.YtmjbhglmlbgkmaaDoor
