/- FloorJoins: for all floors, every floor, name and epoch the law returns true. No condition beyond the row's own. -/
import Derived.Test.YtcnadjdijolboaaGreatDoorMg23
import Derived.Test.YtcnadjdijolboaaGreatDoorMg24
import Derived.Test.YtcnadjdijolboaaGreatDoorTie
import Derived.Test.YtcnadjdijolboaaGreatDoorCards
import Derived.Test.YtcnadjdijolboaaGreatDoorMg7
import Derived.SevenTiedAt
namespace Go.Proofs.YtcnadjdijolboaaGreatDoor
open Go.ChangeShapes Go.WideShapes Go.ChangeAt Go.RowKit Go.ChangeMaps

set_option maxRecDepth 100000 in
theorem floorJoins_laid0 {W : World} (h : laidMetH Tryz.prog Rows.floorJoinsRow.laid W) : ∃ E, Laid E W := by
  obtain ⟨a1, _, c1, _, _, _⟩ := sentinel_of h "keyholder/api.ErrText" [107, 101, 121, 104, 111, 108, 100, 101, 114, 58, 32, 116, 101, 120, 116] 3 (List.mem_of_getElem? (i := 4) rfl) (by kernel_rfl) (by kernel_rfl)
  obtain ⟨a2, _, c2, _, _, _⟩ := sentinel_of h "keyholder/api.ErrBound" [107, 101, 121, 104, 111, 108, 100, 101, 114, 58, 32, 98, 111, 117, 110, 100] 5 (List.mem_of_getElem? (i := 5) rfl) (by kernel_rfl) (by kernel_rfl)
  obtain ⟨a3, _, c3, _, _, _⟩ := sentinel_of h "keyholder/api.ErrShape" [107, 101, 121, 104, 111, 108, 100, 101, 114, 58, 32, 115, 104, 97, 112, 101] 2 (List.mem_of_getElem? (i := 6) rfl) (by kernel_rfl) (by kernel_rfl)
  obtain ⟨a4, _, c4, _, _, _⟩ := sentinel_of h "keyholder/api.ErrName" [107, 101, 121, 104, 111, 108, 100, 101, 114, 58, 32, 110, 97, 109, 101] 4 (List.mem_of_getElem? (i := 7) rfl) (by kernel_rfl) (by kernel_rfl)
  obtain ⟨a7, _, c7, _, _, _⟩ := sentinel_of h "keyholder/api.ErrFull" [107, 101, 121, 104, 111, 108, 100, 101, 114, 58, 32, 102, 117, 108, 108] 0 (List.mem_of_getElem? (i := 8) rfl) (by kernel_rfl) (by kernel_rfl)
  obtain ⟨a8, _, c8, _, _, _⟩ := sentinel_of h "keyholder/api.ErrOrder" [107, 101, 121, 104, 111, 108, 100, 101, 114, 58, 32, 111, 114, 100, 101, 114] 1 (List.mem_of_getElem? (i := 9) rfl) (by kernel_rfl) (by kernel_rfl)
  exact ⟨fun c => match c with | 1 => a1 | 2 => a2 | 3 => a3 | 4 => a4 | 7 => a7 | 8 => a8 | _ => default, ⟨c1, c2, c3, c4, c7, c8⟩⟩

set_option maxRecDepth 100000 in
theorem floorJoins_laid {W : World} (h : laidMetH Tryz.prog Rows.floorJoinsRow.laid W) (hsh : W.ShapedOpen Tryz.prog) : ∃ E, LaidS E W := by
  obtain ⟨E, hE⟩ := floorJoins_laid0 h
  exact ⟨E, hE, tab_of h (List.mem_of_getElem? (i := 2) rfl) glob_pow type_pow Tryz.underlying183 Tryz.underlying122 cells_u64 cells_pow, sentinel_var h "strconv.ErrSyntax" [105, 110, 118, 97, 108, 105, 100, 32, 115, 121, 110, 116, 97, 120] 21 (List.mem_of_getElem? (i := 11) rfl) glob_syn (by kernel_rfl), sentinel_var h "strconv.ErrRange" [118, 97, 108, 117, 101, 32, 111, 117, 116, 32, 111, 102, 32, 114, 97, 110, 103, 101] 22 (List.mem_of_getElem? (i := 10) rfl) glob_rng (by kernel_rfl), max_of hsh⟩

set_option maxRecDepth 100000 in
theorem floorJoins_door (os : Os) (args : Array Value) : laidMetH Tryz.prog Rows.floorJoinsRow.laid (((World.doorLaid Tryz.prog 400 os).layVars Tryz.prog (Rows.floorJoinsRow.laid.filter fun x => x.2.handleName?.isNone)).forCall (fun _ _ => 0) ⟨#[], args, []⟩).memory :=
  laidMetH_of_parts3 (fuel := 8) (laidMet_laidOn args (by kernel_rfl) (by kernel_rfl)) (by kernel_rfl) (by kernel_rfl)

set_option maxRecDepth 100000 in
theorem floorJoins_lifted (os : Os) (started : os.Started) (H : Type) (enc : TypeId × Value → H) :
    ReturnsInHanded {} Tryz.checked os 3 .any (fun w args => (Rows.floorJoinsSpec.pre enc Tryz.prog Tryz.f3 [] false w args ∧ laidMetH Tryz.prog Rows.floorJoinsRow.laid w) ∧ sizedMet enc Tryz.prog Tryz.f3 (OpenSpec.ofChange Rows.floorJoinsSpec) false w args)
      (Rows.floorJoinsSpec.post enc Tryz.prog Tryz.f3 false true false false) := by
  refine returns_both (C := Tryz.checked) (X := fun w _ => laidMetH Tryz.prog Rows.floorJoinsRow.laid w) (fun _ _ _ hh h => h.of_heap hh) ownKnob_none started (by kernel_rfl) Tryz.func3
    (ChangeSpec.witness_shaped (enc := enc) (C := Tryz.checked) (os := os) (X := fun w _ => laidMetH Tryz.prog Rows.floorJoinsRow.laid w) false ((World.doorLaid Tryz.prog 400 os).layVars Tryz.prog (Rows.floorJoinsRow.laid.filter fun x => x.2.handleName?.isNone)) #[.slice none 0 0, .slice none 0 0, .agg #[.string ⟨#[]⟩, .int .i64 0], .string ⟨#[]⟩, .int .i64 0] 8 ((World.layVars_os _ _ _).trans rfl) (World.shaped_of_ZipB (by kernel_rfl) (by kernel_rfl)) (by kernel_rfl) (by kernel_rfl) (by kernel_rfl) (floorJoins_door os _)) ?_
  intro W base args ds gs before hval0 hW hL hsh
  have hval : ∀ (j : Nat) t v, Tryz.f3.params[j]? = some t → args[j]? = some v → Value.okWide Tryz.prog W .any base t v := hval0
  have hW' := hW
  obtain ⟨p, q, hA0, hV, rfl, hfz, hnd⟩ := hW
  have hA : DataW.TrodAll enc Tryz.prog W 0 (fun _ => true) true Tryz.f3.params.toList args.toList ds p := hA0
  rw [Tryz.params3] at hA hval
  obtain ⟨args⟩ := args
  obtain ⟨v0, vs0, d0, ds0, p0, q0, hv0, rfl, rfl, h0, hR0⟩ := trodAll_cons hA
  obtain ⟨v1, vs1, d1, ds1, p1, q1, hv1, rfl, rfl, h1, hR1⟩ := trodAll_cons hR0
  obtain ⟨v2, vs2, d2, ds2, p2, q2, hv2, rfl, rfl, h2, hR2⟩ := trodAll_cons hR1
  obtain ⟨v3, vs3, d3, ds3, p3, q3, hv3, rfl, rfl, h3, hR3⟩ := trodAll_cons hR2
  obtain ⟨v4, vs4, d4, ds4, p4, q4, hv4, rfl, rfl, h4, hR4⟩ := trodAll_cons hR3
  obtain ⟨hvn, rfl, rfl⟩ := trodAll_nil hR4
  subst hvn
  subst hv4
  subst hv3
  subst hv2
  subst hv1
  have hv0 : args = _ := hv0
  subst hv0
  obtain ⟨rfl, rfl⟩ := trodVars_none hV
  obtain ⟨s, rfl, rfl, rfl, ws⟩ := open_string Tryz.underlying9 (hval 3 9 v3 rfl rfl) h3
  obtain ⟨e, rfl, rfl, rfl, we⟩ := open_int Tryz.underlying3 (hval 4 3 v4 rfl rfl) h4
  obtain ⟨a_l, len_l, cap_l, rfl⟩ := okWide_slice Tryz.underlying22 (hval 0 22 v0 rfl rfl)
  obtain ⟨fuel_l, hf_l⟩ := h0
  obtain ⟨F_l, hF_l, hm_l⟩ := flosG_of hf_l
  obtain ⟨a_b, len_b, cap_b, rfl⟩ := okWide_slice Tryz.underlying22 (hval 1 22 v1 rfl rfl)
  obtain ⟨fuel_b, hf_b⟩ := h1
  obtain ⟨F_b, hF_b, hm_b⟩ := flosG_of hf_b
  obtain ⟨Q_f, rfl, hl_f⟩ := flo_arg (hval 2 24 v2 rfl rfl) h2
  obtain ⟨E, hE⟩ := floorJoins_laid hL hsh
  obtain ⟨sm, rfl, hsm⟩ : ∃ sm : List UInt8, s = bs sm ∧ sm.length ≤ maxLen := ⟨s.data.toList, by cases s; simp [bs], by have : s.data.toList.length = s.size := Array.length_toList; omega⟩
  refine (floorJoins_any _ _ F_l F_b Q_f sm e W hE hF_l hF_b hm_l hm_b hl_f hsm).mono fun e W' ⟨he, hb⟩ => ⟨_, he, ?_⟩
  exact law_post rfl (by kernel_rfl) (by rw [Tryz.params3]; intro t ht; simp only [List.mem_cons, List.mem_nil_iff, or_false] at ht; rcases ht with rfl | rfl | rfl | rfl | rfl <;> exact ⟨by kernel_rfl, by rw [types_size]; decide⟩) rfl hW' hb

set_option maxHeartbeats 4000000 in
theorem floorJoins_holds : Rows.FloorJoinsSaid :=
  OpenClaim.holds_of_wide 3 Tryz.f3 rfl rfl rfl rfl rfl rfl rfl ⟨rfl, rfl, rfl, rfl, rfl⟩ rfl rfl rfl rfl rfl (by as_aux_lemma => kernel_rfl) Tryz.func3 (by as_aux_lemma => kernel_rfl)
    (of_decide_eq_true (by as_aux_lemma => kernel_rfl)) (by unfold Func.isWrapper; rw [if_neg (of_decide_eq_false (by as_aux_lemma => kernel_rfl))]; exact ⟨rfl, rfl⟩)
    (fun os started H enc _ => floorJoins_lifted os started H enc)

set_option maxRecDepth 100000 in
theorem floorJoins_card : Rows.FloorJoinsCardSaid :=
  Claim7.holds_tied_plain_at .later [] _ _ _ _
    floorJoins_holds (fun _ h => by cases h) (by as_aux_lemma => kernel_rfl) (fun _ h => by cases h) floorJoins_row_tie rfl ⟨rfl, rfl⟩ (by as_aux_lemma => kernel_rfl) rfl
    (fun f fn hf hfn => by
      obtain rfl : f = 3 := Option.some.inj ((show Tryz.prog.funcNamed "keyholder/keyholderlaw2.FloorJoins" = some 3 by kernel_rfl).symm.trans hf) |>.symm
      obtain rfl : fn = Tryz.f3 := (Option.some.inj (Tryz.func3.symm.trans hfn)).symm
      exact ⟨by as_aux_lemma => kernel_rfl, fun j t ht => by
        rw [Tryz.params3] at ht
        have ht := Array.mem_of_getElem? ht
        simp only [List.mem_toArray, List.mem_cons, List.mem_nil_iff, or_false] at ht
        rcases ht with rfl | rfl | rfl | rfl | rfl
        · exact (show Tryz.prog.wantsStandIn 22 = false by as_aux_lemma => kernel_rfl)
        · exact (show Tryz.prog.wantsStandIn 22 = false by as_aux_lemma => kernel_rfl)
        · exact (show Tryz.prog.wantsStandIn 24 = false by as_aux_lemma => kernel_rfl)
        · exact (show Tryz.prog.wantsStandIn 9 = false by as_aux_lemma => kernel_rfl)
        · exact (show Tryz.prog.wantsStandIn 3 = false by as_aux_lemma => kernel_rfl)⟩)
    (by as_aux_lemma => kernel_rfl)
end Go.Proofs.YtcnadjdijolboaaGreatDoor
