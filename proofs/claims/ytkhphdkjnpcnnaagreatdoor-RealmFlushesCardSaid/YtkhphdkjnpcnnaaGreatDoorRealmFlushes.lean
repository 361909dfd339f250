/- RealmFlushes: for every length, all asks and every three names the law returns true. No condition beyond the row's own. -/
import Derived.Test.YtkhphdkjnpcnnaaGreatDoorMg51
import Derived.Test.YtkhphdkjnpcnnaaGreatDoorMg48
import Derived.Test.YtkhphdkjnpcnnaaGreatDoorTie
import Derived.Test.YtkhphdkjnpcnnaaGreatDoorCards
import Derived.Test.YtkhphdkjnpcnnaaGreatDoorMg9
import Derived.Test.YtkhphdkjnpcnnaaGreatDoorMg42
import Derived.SevenTiedAt
namespace Go.Proofs.YtkhphdkjnpcnnaaGreatDoor
open Go.ChangeShapes Go.WideShapes Go.ChangeAt Go.RowKit Go.ChangeMaps

theorem realmFlushes_lists : Lists2F Rows.realmFlushesRow.laid := by
  refine ⟨⟨List.mem_of_getElem? (i := 4) rfl, List.mem_of_getElem? (i := 5) rfl, List.mem_of_getElem? (i := 6) rfl, List.mem_of_getElem? (i := 7) rfl, List.mem_of_getElem? (i := 8) rfl, List.mem_of_getElem? (i := 9) rfl, List.mem_of_getElem? (i := 10) rfl, List.mem_of_getElem? (i := 11) rfl, List.mem_of_getElem? (i := 12) rfl, List.mem_of_getElem? (i := 13) rfl, List.mem_of_getElem? (i := 14) rfl, List.mem_of_getElem? (i := 15) rfl, List.mem_of_getElem? (i := 16) rfl, List.mem_of_getElem? (i := 17) rfl, List.mem_of_getElem? (i := 18) rfl, List.mem_of_getElem? (i := 19) rfl, List.mem_of_getElem? (i := 20) rfl⟩, List.mem_of_getElem? (i := 2) rfl, List.mem_of_getElem? (i := 22) rfl, List.mem_of_getElem? (i := 21) rfl⟩

set_option maxRecDepth 100000 in
theorem realmFlushes_door (os : Os) (args : Array Value) : laidMetH Tryz.prog Rows.realmFlushesRow.laid (((World.doorLaid Tryz.prog 400 os).layVars Tryz.prog (Rows.realmFlushesRow.laid.filter fun x => x.2.handleName?.isNone)).forCall (fun _ _ => 0) ⟨#[], args, []⟩).memory :=
  laidMetH_of_parts3 (fuel := 8) (laidMet_laidOn args (by kernel_rfl) (by kernel_rfl)) (by kernel_rfl) (by kernel_rfl)

set_option maxRecDepth 100000 in
theorem realmFlushes_lifted (os : Os) (started : os.Started) (H : Type) (enc : TypeId × Value → H) :
    ReturnsInHanded {} Tryz.checked os 4 .any (fun w args => (Rows.realmFlushesSpec.pre enc Tryz.prog Tryz.f4 [] false w args ∧ laidMetH Tryz.prog Rows.realmFlushesRow.laid w) ∧ sizedMet enc Tryz.prog Tryz.f4 (OpenSpec.ofChange Rows.realmFlushesSpec) false w args)
      (Rows.realmFlushesSpec.post enc Tryz.prog Tryz.f4 false true false false) := by
  refine returns_both (C := Tryz.checked) (X := fun w _ => laidMetH Tryz.prog Rows.realmFlushesRow.laid w) (fun _ _ _ hh h => h.of_heap hh) ownKnob_none started (by kernel_rfl) Tryz.func4
    (ChangeSpec.witness_shaped (enc := enc) (C := Tryz.checked) (os := os) (X := fun w _ => laidMetH Tryz.prog Rows.realmFlushesRow.laid w) false ((World.doorLaid Tryz.prog 400 os).layVars Tryz.prog (Rows.realmFlushesRow.laid.filter fun x => x.2.handleName?.isNone)) #[.int .i64 0, .slice none 0 0, .string ⟨#[]⟩, .string ⟨#[]⟩, .string ⟨#[]⟩] 8 ((World.layVars_os _ _ _).trans rfl) (World.shaped_of_ZipB (by kernel_rfl) (by kernel_rfl)) (by kernel_rfl) (by kernel_rfl) (by kernel_rfl) (realmFlushes_door os _)) ?_
  intro W base args ds gs before hval0 hW hL hsh
  have hval : ∀ (j : Nat) t v, Tryz.f4.params[j]? = some t → args[j]? = some v → Value.okWide Tryz.prog W .any base t v := hval0
  have hW' := hW
  obtain ⟨p, q, hA0, hV, rfl, hfz, hnd⟩ := hW
  have hA : DataW.TrodAll enc Tryz.prog W 0 (fun _ => true) true Tryz.f4.params.toList args.toList ds p := hA0
  rw [Tryz.params4] at hA hval
  obtain ⟨args⟩ := args
  obtain ⟨v0, vs0, d0, ds0, p0, q0, hv0, rfl, rfl, h0, hR0⟩ := trodAll_cons hA
  obtain ⟨v1, vs1, d1, ds1, p1, q1, hv1, rfl, rfl, h1, hR1⟩ := trodAll_cons hR0
  obtain ⟨v2, vs2, d2, ds2, p2, q2, hv2, rfl, rfl, h2, hR2⟩ := trodAll_cons hR1
  obtain ⟨v3, vs3, d3, ds3, p3, q3, hv3, rfl, rfl, h3, hR3⟩ := trodAll_cons hR2
  obtain ⟨v4, vs4, d4, ds4, p4, q4, hv4, rfl, rfl, h4, hR4⟩ := trodAll_cons hR3
  obtain ⟨hvn, rfl, rfl⟩ := trodAll_nil hR4
  subst hvn
  subst hv4
  subst hv3
  subst hv2
  subst hv1
  have hv0 : args = _ := hv0
  subst hv0
  obtain ⟨rfl, rfl⟩ := trodVars_none hV
  obtain ⟨long, rfl, rfl, rfl, wlong⟩ := open_int Tryz.underlying3 (hval 0 3 v0 rfl rfl) h0
  obtain ⟨p, rfl, rfl, rfl, wp⟩ := open_string Tryz.underlying9 (hval 2 9 v2 rfl rfl) h2
  obtain ⟨q, rfl, rfl, rfl, wq⟩ := open_string Tryz.underlying9 (hval 3 9 v3 rfl rfl) h3
  obtain ⟨r, rfl, rfl, rfl, wr⟩ := open_string Tryz.underlying9 (hval 4 9 v4 rfl rfl) h4
  obtain ⟨a_l, len_l, cap_l, rfl⟩ := okWide_slice Tryz.underlying22 (hval 1 22 v1 rfl rfl)
  obtain ⟨fuel_l, hf_l⟩ := h1
  obtain ⟨A_l, hA_l, hm_l⟩ := asks_of hf_l
  obtain ⟨E, hE⟩ := laidF_of hL realmFlushes_lists hsh
  obtain ⟨pm, rfl, hpm⟩ : ∃ pm : List UInt8, p = bs pm ∧ pm.length ≤ maxLen := ⟨p.data.toList, by cases p; simp [bs], by have : p.data.toList.length = p.size := Array.length_toList; omega⟩
  obtain ⟨qm, rfl, hqm⟩ : ∃ qm : List UInt8, q = bs qm ∧ qm.length ≤ maxLen := ⟨q.data.toList, by cases q; simp [bs], by have : q.data.toList.length = q.size := Array.length_toList; omega⟩
  obtain ⟨rm, rfl, hrm⟩ : ∃ rm : List UInt8, r = bs rm ∧ rm.length ≤ maxLen := ⟨r.data.toList, by cases r; simp [bs], by have : r.data.toList.length = r.size := Array.length_toList; omega⟩
  refine (flushes_any long _ A_l pm qm rm W hE hA_l hm_l hpm hqm hrm).mono fun e W' ⟨he, hb⟩ => ⟨_, he, ?_⟩
  exact law_post rfl (by kernel_rfl) (by rw [Tryz.params4]; intro t ht; simp only [List.mem_cons, List.mem_nil_iff, or_false] at ht; rcases ht with rfl | rfl | rfl | rfl | rfl <;> exact ⟨by kernel_rfl, by rw [types_size]; decide⟩) rfl hW' hb

set_option maxHeartbeats 4000000 in
theorem realmFlushes_holds : Rows.RealmFlushesSaid :=
  OpenClaim.holds_of_wide 4 Tryz.f4 rfl rfl rfl rfl rfl rfl rfl ⟨rfl, rfl, rfl, rfl, rfl⟩ rfl rfl rfl rfl rfl (by as_aux_lemma => kernel_rfl) Tryz.func4 (by as_aux_lemma => kernel_rfl)
    (of_decide_eq_true (by as_aux_lemma => kernel_rfl)) (by unfold Func.isWrapper; rw [if_neg (of_decide_eq_false (by as_aux_lemma => kernel_rfl))]; exact ⟨rfl, rfl⟩)
    (fun os started H enc _ => realmFlushes_lifted os started H enc)

set_option maxRecDepth 100000 in
theorem realmFlushes_card : Rows.RealmFlushesCardSaid :=
  Claim7.holds_tied_plain_at .later [] _ _ _ _
    realmFlushes_holds (fun _ h => by cases h) (by as_aux_lemma => kernel_rfl) (fun _ h => by cases h) realmFlushes_row_tie rfl ⟨rfl, rfl⟩ (by as_aux_lemma => kernel_rfl) rfl
    (fun f fn hf hfn => by
      obtain rfl : f = 4 := Option.some.inj ((show Tryz.prog.funcNamed "keyholder/keyholderlaw3.RealmFlushes" = some 4 by kernel_rfl).symm.trans hf) |>.symm
      obtain rfl : fn = Tryz.f4 := (Option.some.inj (Tryz.func4.symm.trans hfn)).symm
      exact ⟨by as_aux_lemma => kernel_rfl, fun j t ht => by
        rw [Tryz.params4] at ht
        have ht := Array.mem_of_getElem? ht
        simp only [List.mem_toArray, List.mem_cons, List.mem_nil_iff, or_false] at ht
        rcases ht with rfl | rfl | rfl | rfl | rfl
        · exact (show Tryz.prog.wantsStandIn 3 = false by as_aux_lemma => kernel_rfl)
        · exact (show Tryz.prog.wantsStandIn 22 = false by as_aux_lemma => kernel_rfl)
        · exact (show Tryz.prog.wantsStandIn 9 = false by as_aux_lemma => kernel_rfl)
        · exact (show Tryz.prog.wantsStandIn 9 = false by as_aux_lemma => kernel_rfl)
        · exact (show Tryz.prog.wantsStandIn 9 = false by as_aux_lemma => kernel_rfl)⟩)
    (by as_aux_lemma => kernel_rfl)
end Go.Proofs.YtkhphdkjnpcnnaaGreatDoor
