/- FloorOrder: for all floors and every two floors the law returns true. No condition beyond the row's own. -/
import Derived.Test.YtphjjaanclpagaaDoorFloO
import Derived.Test.YtphjjaanclpagaaDoorBase
import Derived.Test.YtphjjaanclpagaaDoorTie
import Derived.Test.YtphjjaanclpagaaDoorCards
import Derived.Test.YtphjjaanclpagaaDoorOpen
import Derived.Test.YtphjjaanclpagaaDoorFloArg
import Derived.Lay
import Derived.MakeChecks
import Derived.SevenTiedAt
namespace Go.Proofs.YtphjjaanclpagaaDoor
open Go.ChangeShapes Go.WideShapes Go.ChangeAt Go.RowKit Go.ChangeMaps

set_option maxRecDepth 100000 in
theorem floorOrder_laid {W : World} (h : laidMetH Tryd.prog Rows.floorOrderRow.laid W) : ∃ E, Laid E W := by
  obtain ⟨a2, _, c2, _, _, _⟩ := sentinel_of h "keyholder/api.ErrBound" [107, 101, 121, 104, 111, 108, 100, 101, 114, 58, 32, 98, 111, 117, 110, 100] 0 (List.mem_of_getElem? (i := 1) rfl) (by kernel_rfl) (by kernel_rfl)
  obtain ⟨a3, _, c3, _, _, _⟩ := sentinel_of h "keyholder/api.ErrShape" [107, 101, 121, 104, 111, 108, 100, 101, 114, 58, 32, 115, 104, 97, 112, 101] 7 (List.mem_of_getElem? (i := 2) rfl) (by kernel_rfl) (by kernel_rfl)
  obtain ⟨a4, _, c4, _, _, _⟩ := sentinel_of h "keyholder/api.ErrName" [107, 101, 121, 104, 111, 108, 100, 101, 114, 58, 32, 110, 97, 109, 101] 10 (List.mem_of_getElem? (i := 3) rfl) (by kernel_rfl) (by kernel_rfl)
  obtain ⟨a7, _, c7, _, _, _⟩ := sentinel_of h "keyholder/api.ErrFull" [107, 101, 121, 104, 111, 108, 100, 101, 114, 58, 32, 102, 117, 108, 108] 5 (List.mem_of_getElem? (i := 4) rfl) (by kernel_rfl) (by kernel_rfl)
  obtain ⟨a8, _, c8, _, _, _⟩ := sentinel_of h "keyholder/api.ErrOrder" [107, 101, 121, 104, 111, 108, 100, 101, 114, 58, 32, 111, 114, 100, 101, 114] 9 (List.mem_of_getElem? (i := 5) rfl) (by kernel_rfl) (by kernel_rfl)
  exact ⟨fun c => match c with | 2 => a2 | 3 => a3 | 4 => a4 | 7 => a7 | 8 => a8 | _ => default, ⟨c2, c3, c4, c7, c8⟩⟩

set_option maxRecDepth 100000 in
theorem floorOrder_door (os : Os) (args : Array Value) : laidMetH Tryd.prog Rows.floorOrderRow.laid ((World.laidAll Tryd.prog os Rows.floorOrderRow.laid).forCall (fun _ _ => 0) ⟨#[], args, []⟩).memory := by
  rw [MakeChecks.laidMetH_plain _ _ _ (by kernel_rfl)]
  exact laidMet_laidAll _ (by kernel_rfl) (by kernel_rfl)

set_option maxRecDepth 100000 in
theorem floorOrder_lifted (os : Os) (started : os.Started) (H : Type) (enc : TypeId × Value → H) :
    ReturnsInHanded {} Tryd.checked os 4 .any (fun w args => (Rows.floorOrderSpec.pre enc Tryd.prog Tryd.f4 [] false w args ∧ laidMetH Tryd.prog Rows.floorOrderRow.laid w) ∧ sizedMet enc Tryd.prog Tryd.f4 (OpenSpec.ofChange Rows.floorOrderSpec) false w args)
      (Rows.floorOrderSpec.post enc Tryd.prog Tryd.f4 false true false false) := by
  refine returnsInHanded_of_change_and (C := Tryd.checked) (X := fun w _ => laidMetH Tryd.prog Rows.floorOrderRow.laid w) (fun _ _ _ hh h => h.of_heap hh) ownKnob_none started (by kernel_rfl) Tryd.func4
    (ChangeSpec.witness_shaped (enc := enc) (C := Tryd.checked) (os := os) (X := fun w _ => laidMetH Tryd.prog Rows.floorOrderRow.laid w) false (World.laidAll Tryd.prog os Rows.floorOrderRow.laid) #[.slice none 0 0, .agg #[.string ⟨#[]⟩, .int .i64 0], .agg #[.string ⟨#[]⟩, .int .i64 0]] 8 (World.laidAll_os _ _ _) (World.shaped_of_ZipB (by kernel_rfl) (by kernel_rfl)) (by kernel_rfl) (by kernel_rfl) (by kernel_rfl) (floorOrder_door os _)) ?_
  intro W base args ds gs before hval0 hW _ _ hL _
  have hval : ∀ (j : Nat) t v, Tryd.f4.params[j]? = some t → args[j]? = some v → Value.okWide Tryd.prog W .any base t v := hval0
  have hW' := hW
  obtain ⟨p, q, hA0, hV, rfl, hfz, hnd⟩ := hW
  have hA : DataW.TrodAll enc Tryd.prog W 0 (fun _ => true) true Tryd.f4.params.toList args.toList ds p := hA0
  rw [Tryd.params4] at hA hval
  obtain ⟨args⟩ := args
  obtain ⟨v0, vs0, d0, ds0, p0, q0, hv0, rfl, rfl, h0, hR0⟩ := trodAll_cons hA
  obtain ⟨v1, vs1, d1, ds1, p1, q1, hv1, rfl, rfl, h1, hR1⟩ := trodAll_cons hR0
  obtain ⟨v2, vs2, d2, ds2, p2, q2, hv2, rfl, rfl, h2, hR2⟩ := trodAll_cons hR1
  obtain ⟨hvn, rfl, rfl⟩ := trodAll_nil hR2
  subst hvn
  subst hv2
  subst hv1
  have hv0 : args = _ := hv0
  subst hv0
  obtain ⟨rfl, rfl⟩ := trodVars_none hV
  obtain ⟨a_l, len_l, cap_l, rfl⟩ := okWide_slice Tryd.underlying37 (hval 0 37 v0 rfl rfl)
  obtain ⟨fuel_l, hf_l⟩ := h0
  obtain ⟨F_l, hF_l, hm_l⟩ := flos_of hf_l
  obtain ⟨Q_f, rfl, hl_f⟩ := flo_arg (hval 1 39 v1 rfl rfl) h1
  obtain ⟨Q_g, rfl, hl_g⟩ := flo_arg (hval 2 39 v2 rfl rfl) h2
  obtain ⟨E, hE⟩ := floorOrder_laid hL
  refine (floorder_any _ F_l Q_f Q_g W hE hF_l hm_l hl_f hl_g).mono fun e W' ⟨he, hb⟩ => ⟨_, he, ?_⟩
  exact law_post rfl (by kernel_rfl) (by rw [Tryd.params4]; intro t ht; simp only [List.mem_cons, List.mem_nil_iff, or_false] at ht; rcases ht with rfl | rfl | rfl <;> exact ⟨by kernel_rfl, by rw [types_size]; decide⟩) rfl hW' hb

theorem floorOrder_holds : Rows.FloorOrderSaid :=
  OpenClaim.holds_of_wide 4 Tryd.f4 rfl rfl rfl rfl rfl rfl rfl ⟨rfl, rfl, rfl, rfl, rfl⟩ rfl rfl rfl rfl rfl (by kernel_rfl) Tryd.func4 (by kernel_rfl)
    (of_decide_eq_true (by kernel_rfl)) (by unfold Func.isWrapper; rw [if_neg (of_decide_eq_false (by kernel_rfl))]; exact ⟨rfl, rfl⟩)
    (fun os started H enc _ => floorOrder_lifted os started H enc)

set_option maxRecDepth 100000 in
theorem floorOrder_card : Rows.FloorOrderCardSaid :=
  Claim7.holds_tied_plain_at .later [] _ _ _ _
    floorOrder_holds (fun _ h => by cases h) (by kernel_rfl) (fun _ h => by cases h) floorOrder_row_tie rfl ⟨rfl, rfl⟩ (by kernel_rfl) rfl
    (fun f fn hf hfn => by
      obtain rfl : f = 4 := Option.some.inj ((show Tryd.prog.funcNamed "keyholder/keyholderlaw2.FloorOrder" = some 4 by kernel_rfl).symm.trans hf) |>.symm
      obtain rfl : fn = Tryd.f4 := (Option.some.inj (Tryd.func4.symm.trans hfn)).symm
      exact ⟨by kernel_rfl, fun j t ht => by
        rw [Tryd.params4] at ht
        have ht := Array.mem_of_getElem? ht
        simp only [List.mem_toArray, List.mem_cons, List.mem_nil_iff, or_false] at ht
        rcases ht with rfl | rfl | rfl
        · exact (show Tryd.prog.wantsStandIn 37 = false by kernel_rfl)
        · exact (show Tryd.prog.wantsStandIn 39 = false by kernel_rfl)
        · exact (show Tryd.prog.wantsStandIn 39 = false by kernel_rfl)⟩)
    (by kernel_rfl)
end Go.Proofs.YtphjjaanclpagaaDoor
