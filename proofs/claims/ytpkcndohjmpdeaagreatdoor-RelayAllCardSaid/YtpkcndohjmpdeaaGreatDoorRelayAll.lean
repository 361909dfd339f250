/- RelayAll: for every key, every tree, every feed and all moves the law returns true. No condition beyond the row's own. -/
import Derived.Test.YtpkcndohjmpdeaaGreatDoorMg28
import Derived.Test.YtpkcndohjmpdeaaGreatDoorMg29
import Derived.Test.YtpkcndohjmpdeaaGreatDoorTie
import Derived.Test.YtpkcndohjmpdeaaGreatDoorCards
import Derived.Test.YtpkcndohjmpdeaaGreatDoorMg7
import Derived.Test.YtpkcndohjmpdeaaGreatDoorMg18
import Derived.Test.YtpkcndohjmpdeaaGreatDoorMg26
import Derived.SevenTiedAt
namespace Go.Proofs.YtpkcndohjmpdeaaGreatDoor
open Go.ChangeShapes Go.WideShapes Go.ChangeAt Go.RowKit Go.ChangeMaps

set_option maxRecDepth 100000 in
theorem relayAll_laid0 {W : World} (h : laidMetH Tryz.prog Rows.relayAllRow.laid W) : ∃ E, Laid E W := by
  obtain ⟨a1, _, c1, _, _, _⟩ := sentinel_of h "keyholder/api.ErrText" [107, 101, 121, 104, 111, 108, 100, 101, 114, 58, 32, 116, 101, 120, 116] 10 (List.mem_of_getElem? (i := 4) rfl) (by kernel_rfl) (by kernel_rfl)
  obtain ⟨a2, _, c2, _, _, _⟩ := sentinel_of h "keyholder/api.ErrBound" [107, 101, 121, 104, 111, 108, 100, 101, 114, 58, 32, 98, 111, 117, 110, 100] 2 (List.mem_of_getElem? (i := 5) rfl) (by kernel_rfl) (by kernel_rfl)
  obtain ⟨a3, _, c3, _, _, _⟩ := sentinel_of h "keyholder/api.ErrShape" [107, 101, 121, 104, 111, 108, 100, 101, 114, 58, 32, 115, 104, 97, 112, 101] 9 (List.mem_of_getElem? (i := 6) rfl) (by kernel_rfl) (by kernel_rfl)
  obtain ⟨a4, _, c4, _, _, _⟩ := sentinel_of h "keyholder/api.ErrName" [107, 101, 121, 104, 111, 108, 100, 101, 114, 58, 32, 110, 97, 109, 101] 8 (List.mem_of_getElem? (i := 7) rfl) (by kernel_rfl) (by kernel_rfl)
  obtain ⟨a5, _, c5, _, _, _⟩ := sentinel_of h "keyholder/api.ErrNone" [107, 101, 121, 104, 111, 108, 100, 101, 114, 58, 32, 110, 111, 110, 101] 6 (List.mem_of_getElem? (i := 8) rfl) (by kernel_rfl) (by kernel_rfl)
  obtain ⟨a7, _, c7, _, _, _⟩ := sentinel_of h "keyholder/api.ErrFull" [107, 101, 121, 104, 111, 108, 100, 101, 114, 58, 32, 102, 117, 108, 108] 0 (List.mem_of_getElem? (i := 9) rfl) (by kernel_rfl) (by kernel_rfl)
  obtain ⟨a8, _, c8, _, _, _⟩ := sentinel_of h "keyholder/api.ErrOrder" [107, 101, 121, 104, 111, 108, 100, 101, 114, 58, 32, 111, 114, 100, 101, 114] 7 (List.mem_of_getElem? (i := 10) rfl) (by kernel_rfl) (by kernel_rfl)
  obtain ⟨a9, _, c9, _, _, _⟩ := sentinel_of h "keyholder/api.ErrMark" [107, 101, 121, 104, 111, 108, 100, 101, 114, 58, 32, 109, 97, 114, 107] 5 (List.mem_of_getElem? (i := 11) rfl) (by kernel_rfl) (by kernel_rfl)
  obtain ⟨a10, _, c10, _, _, _⟩ := sentinel_of h "keyholder/api.ErrKey" [107, 101, 121, 104, 111, 108, 100, 101, 114, 58, 32, 107, 101, 121] 1 (List.mem_of_getElem? (i := 12) rfl) (by kernel_rfl) (by kernel_rfl)
  obtain ⟨a12, _, c12, _, _, _⟩ := sentinel_of h "keyholder/api.ErrLate" [107, 101, 121, 104, 111, 108, 100, 101, 114, 58, 32, 108, 97, 116, 101] 3 (List.mem_of_getElem? (i := 13) rfl) (by kernel_rfl) (by kernel_rfl)
  obtain ⟨a15, _, c15, _, _, _⟩ := sentinel_of h "keyholder/api.ErrGap" [107, 101, 121, 104, 111, 108, 100, 101, 114, 58, 32, 103, 97, 112] 4 (List.mem_of_getElem? (i := 14) rfl) (by kernel_rfl) (by kernel_rfl)
  exact ⟨fun c => match c with | 1 => a1 | 2 => a2 | 3 => a3 | 4 => a4 | 5 => a5 | 7 => a7 | 8 => a8 | 9 => a9 | 10 => a10 | 12 => a12 | 15 => a15 | _ => default, ⟨c1, c2, c3, c4, c5, c7, c8, c9, c10, c12, c15⟩⟩

set_option maxRecDepth 100000 in
theorem relayAll_laid {W : World} (h : laidMetH Tryz.prog Rows.relayAllRow.laid W) (hsh : W.ShapedOpen Tryz.prog) : ∃ E, LaidS E W := by
  obtain ⟨E, hE⟩ := relayAll_laid0 h
  exact ⟨E, hE, tab_of h (List.mem_of_getElem? (i := 2) rfl) glob_pow type_pow Tryz.underlying175 Tryz.underlying154 cells_u64 cells_pow, sentinel_var h "strconv.ErrSyntax" [105, 110, 118, 97, 108, 105, 100, 32, 115, 121, 110, 116, 97, 120] 13 (List.mem_of_getElem? (i := 16) rfl) glob_syn (by kernel_rfl), sentinel_var h "strconv.ErrRange" [118, 97, 108, 117, 101, 32, 111, 117, 116, 32, 111, 102, 32, 114, 97, 110, 103, 101] 14 (List.mem_of_getElem? (i := 15) rfl) glob_rng (by kernel_rfl), max_of hsh⟩

set_option maxRecDepth 100000 in
theorem relayAll_door (os : Os) (args : Array Value) : laidMetH Tryz.prog Rows.relayAllRow.laid (((World.doorLaid Tryz.prog 400 os).layVars Tryz.prog (Rows.relayAllRow.laid.filter fun x => x.2.handleName?.isNone)).forCall (fun _ _ => 0) ⟨#[], args, []⟩).memory :=
  laidMetH_of_parts3 (fuel := 8) (laidMet_laidOn args (by kernel_rfl) (by kernel_rfl)) (by kernel_rfl) (by kernel_rfl)

set_option maxRecDepth 100000 in
theorem relayAll_lifted (os : Os) (started : os.Started) (H : Type) (enc : TypeId × Value → H) :
    ReturnsInHanded {} Tryz.checked os 5 .any (fun w args => (Rows.relayAllSpec.pre enc Tryz.prog Tryz.f5 [] false w args ∧ laidMetH Tryz.prog Rows.relayAllRow.laid w) ∧ sizedMet enc Tryz.prog Tryz.f5 (OpenSpec.ofChange Rows.relayAllSpec) false w args)
      (Rows.relayAllSpec.post enc Tryz.prog Tryz.f5 false true false false) := by
  refine returns_both (C := Tryz.checked) (X := fun w _ => laidMetH Tryz.prog Rows.relayAllRow.laid w) (fun _ _ _ hh h => h.of_heap hh) ownKnob_none started (by kernel_rfl) Tryz.func5
    (ChangeSpec.witness_shaped (enc := enc) (C := Tryz.checked) (os := os) (X := fun w _ => laidMetH Tryz.prog Rows.relayAllRow.laid w) false ((World.doorLaid Tryz.prog 400 os).layVars Tryz.prog (Rows.relayAllRow.laid.filter fun x => x.2.handleName?.isNone)) #[.int .i64 0, .slice none 0 0, .slice none 0 0, .slice none 0 0] 8 ((World.layVars_os _ _ _).trans rfl) (World.shaped_of_ZipB (by kernel_rfl) (by kernel_rfl)) (by kernel_rfl) (by kernel_rfl) (by kernel_rfl) (relayAll_door os _)) ?_
  intro W base args ds gs before hval0 hW hL hsh
  have hval : ∀ (j : Nat) t v, Tryz.f5.params[j]? = some t → args[j]? = some v → Value.okWide Tryz.prog W .any base t v := hval0
  have hW' := hW
  obtain ⟨p, q, hA0, hV, rfl, hfz, hnd⟩ := hW
  have hA : DataW.TrodAll enc Tryz.prog W 0 (fun _ => true) true Tryz.f5.params.toList args.toList ds p := hA0
  rw [Tryz.params5] at hA hval
  obtain ⟨args⟩ := args
  obtain ⟨v0, vs0, d0, ds0, p0, q0, hv0, rfl, rfl, h0, hR0⟩ := trodAll_cons hA
  obtain ⟨v1, vs1, d1, ds1, p1, q1, hv1, rfl, rfl, h1, hR1⟩ := trodAll_cons hR0
  obtain ⟨v2, vs2, d2, ds2, p2, q2, hv2, rfl, rfl, h2, hR2⟩ := trodAll_cons hR1
  obtain ⟨v3, vs3, d3, ds3, p3, q3, hv3, rfl, rfl, h3, hR3⟩ := trodAll_cons hR2
  obtain ⟨hvn, rfl, rfl⟩ := trodAll_nil hR3
  subst hvn
  subst hv3
  subst hv2
  subst hv1
  have hv0 : args = _ := hv0
  subst hv0
  obtain ⟨rfl, rfl⟩ := trodVars_none hV
  obtain ⟨k, rfl, rfl, rfl, wk⟩ := open_int Tryz.underlying3 (hval 0 3 v0 rfl rfl) h0
  obtain ⟨a_ab, len_ab, cap_ab, rfl⟩ := okWide_slice Tryz.underlying23 (hval 1 23 v1 rfl rfl)
  obtain ⟨fuel_ab, hf_ab⟩ := h1
  obtain ⟨F_ab, hF_ab⟩ := numsC_of hf_ab
  obtain ⟨a_l, len_l, cap_l, rfl⟩ := okWide_slice Tryz.underlying22 (hval 2 22 v2 rfl rfl)
  obtain ⟨fuel_l, hf_l⟩ := h2
  obtain ⟨F_l, hF_l, hm_l⟩ := ents_of hf_l
  obtain ⟨a_mv, len_mv, cap_mv, rfl⟩ := okWide_slice Tryz.underlying59 (hval 3 59 v3 rfl rfl)
  obtain ⟨fuel_mv, hf_mv⟩ := h3
  obtain ⟨F_mv, hF_mv, hm_mv⟩ := moves_of hf_mv
  obtain ⟨E, hE⟩ := relayAll_laid hL hsh
  refine (relayAll_any k _ F_ab _ F_l _ F_mv W hE hF_ab hF_l hm_l hF_mv hm_mv).mono fun e W' ⟨he, hb⟩ => ⟨_, he, ?_⟩
  exact law_post rfl (by kernel_rfl) (by rw [Tryz.params5]; intro t ht; simp only [List.mem_cons, List.mem_nil_iff, or_false] at ht; rcases ht with rfl | rfl | rfl | rfl <;> exact ⟨by kernel_rfl, by rw [types_size]; decide⟩) rfl hW' hb

theorem relayAll_holds : Rows.RelayAllSaid :=
  OpenClaim.holds_of_wide 5 Tryz.f5 rfl rfl rfl rfl rfl rfl rfl ⟨rfl, rfl, rfl, rfl, rfl⟩ rfl rfl rfl rfl rfl (by as_aux_lemma => kernel_rfl) Tryz.func5 (by as_aux_lemma => kernel_rfl)
    (of_decide_eq_true (by as_aux_lemma => kernel_rfl)) (by unfold Func.isWrapper; rw [if_neg (of_decide_eq_false (by as_aux_lemma => kernel_rfl))]; exact ⟨rfl, rfl⟩)
    (fun os started H enc _ => relayAll_lifted os started H enc)

set_option maxRecDepth 100000 in
theorem relayAll_card : Rows.RelayAllCardSaid :=
  Claim7.holds_tied_plain_at .later [] _ _ _ _
    relayAll_holds (fun _ h => by cases h) (by as_aux_lemma => kernel_rfl) (fun _ h => by cases h) relayAll_row_tie rfl ⟨rfl, rfl⟩ (by as_aux_lemma => kernel_rfl) rfl
    (fun f fn hf hfn => by
      obtain rfl : f = 5 := Option.some.inj ((show Tryz.prog.funcNamed "keyholder/keyholderlaw2.RelayAll" = some 5 by kernel_rfl).symm.trans hf) |>.symm
      obtain rfl : fn = Tryz.f5 := (Option.some.inj (Tryz.func5.symm.trans hfn)).symm
      exact ⟨by as_aux_lemma => kernel_rfl, fun j t ht => by
        rw [Tryz.params5] at ht
        have ht := Array.mem_of_getElem? ht
        simp only [List.mem_toArray, List.mem_cons, List.mem_nil_iff, or_false] at ht
        rcases ht with rfl | rfl | rfl | rfl
        · exact (show Tryz.prog.wantsStandIn 3 = false by as_aux_lemma => kernel_rfl)
        · exact (show Tryz.prog.wantsStandIn 23 = false by as_aux_lemma => kernel_rfl)
        · exact (show Tryz.prog.wantsStandIn 22 = false by as_aux_lemma => kernel_rfl)
        · exact (show Tryz.prog.wantsStandIn 59 = false by as_aux_lemma => kernel_rfl)⟩)
    (by as_aux_lemma => kernel_rfl)
end Go.Proofs.YtpkcndohjmpdeaaGreatDoor
