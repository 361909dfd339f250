/- PersonActs: for all acts and every person the law returns true. No condition beyond the row's own. -/
import Derived.Test.YtjckllgbllmjjaaGreatDoorActsW
import Derived.Test.YtjckllgbllmjjaaGreatDoorLaid
import Derived.Test.YtjckllgbllmjjaaGreatDoorTie
import Derived.Test.YtjckllgbllmjjaaGreatDoorCards
import Derived.Test.YtjckllgbllmjjaaGreatDoorOpen
import Derived.Test.YtjckllgbllmjjaaGreatDoorPerArg
import Derived.Test.YtjckllgbllmjjaaGreatDoorEndC
import Derived.SevenTiedAt
namespace Go.Proofs.YtjckllgbllmjjaaGreatDoor
open Go.ChangeShapes Go.WideShapes Go.ChangeAt Go.RowKit Go.ChangeMaps

set_option maxRecDepth 100000 in
theorem acts_of {H : Type} {enc : TypeId × Value → H} {W : World} {base : Nat} {spare : Nat → Bool} {held : Bool} {fuel : Nat} {a : Option Addr} {len cap : Nat} {x : DataW H × List MemPlace}
    (h : DataW.trod enc Tryz.prog W base spare held fuel 22 [.slice a len cap] = some x) : ∃ A, ActsAt W (.slice a len cap) A := by
  rcases slice_cells Tryz.underlying22 h with h0 | ⟨a', len', cap', n, hcs, hm, hi⟩
  · cases h0
    exact ⟨[], none, 0, rfl, Nat.zero_le _, fun i hi => by cases hi⟩
  · cases hcs
    have hC : Tryz.prog.cellsOf 39 = 4 := by kernel_rfl
    have h1 : Tryz.prog.cellsOf 9 = 1 := by kernel_rfl
    have h2 : Tryz.prog.cellsOf 3 = 1 := by kernel_rfl
    have h3 : Tryz.prog.cellsOf 4 = 1 := by kernel_rfl
    rw [hC] at hi
    obtain ⟨A, hl, hA⟩ := list_of (p := fun i (q : ActV) => (i = 0 → a' = ⟨a'.block, a'.off, none⟩) ∧ W.cell? ⟨a'.block, a'.off + i * 4, none⟩ = some (.string (bs q.kind)) ∧ W.cell? ⟨a'.block, a'.off + i * 4 + 1, none⟩ = some (.string (bs q.name)) ∧ W.cell? ⟨a'.block, a'.off + i * 4 + 2, none⟩ = some (.int .i64 q.key) ∧ W.cell? ⟨a'.block, a'.off + i * 4 + 3, none⟩ = some (.bool q.is) ∧ q.kind.length ≤ maxLen ∧ q.name.length ≤ maxLen) len (fun i hil => by
      obtain ⟨cs, y, hcl, hat, ha, ht⟩ := hi i hil
      obtain ⟨_, m, hf⟩ := struct_fields Tryz.underlying39 ht
      obtain ⟨k0, k1, k2, k3, rfl⟩ := four_of hcl
      · skip
        obtain ⟨_, z0⟩ := hf 0 _ rfl
        obtain ⟨_, z1⟩ := hf 1 _ rfl
        obtain ⟨_, z2⟩ := hf 2 _ rfl
        obtain ⟨_, z3⟩ := hf 3 _ rfl
        have z0 := field_one z0 h1 (v := k0) rfl
        have z1 := field_one z1 h1 (v := k1) rfl
        have z2 := field_one z2 h2 (v := k2) rfl
        have z3 := field_one z3 h3 (v := k3) rfl
        obtain ⟨s0, rfl, l0⟩ := read_string Tryz.underlying9 z0
        obtain ⟨s1, rfl, l1⟩ := read_string Tryz.underlying9 z1
        obtain ⟨x2, rfl, _⟩ := read_int Tryz.underlying3 z2
        obtain ⟨x3, rfl⟩ := read_bool Tryz.underlying4 z3
        exact ⟨⟨s0, s1, x2, x3⟩, fun h0 => ha 0 (by decide) (by rw [h0]), by simpa using hat 0 (by decide), by simpa [Nat.add_assoc] using hat 1 (by decide), by simpa [Nat.add_assoc] using hat 2 (by decide), by simpa [Nat.add_assoc] using hat 3 (by decide), l0, l1⟩)
    subst hl
    refine ⟨A, some a', cap, rfl, hm, fun i hil => ?_⟩
    exact ⟨a'.block, a'.off, congrArg some ((hA 0 (Nat.lt_of_le_of_lt (Nat.zero_le _) hil)).1 rfl), (hA i hil).2⟩

theorem personActs_lists : Lists Rows.personActsRow.laid := by
  refine ⟨List.mem_of_getElem? (i := 1) rfl, List.mem_of_getElem? (i := 2) rfl, List.mem_of_getElem? (i := 3) rfl, List.mem_of_getElem? (i := 4) rfl, List.mem_of_getElem? (i := 5) rfl, List.mem_of_getElem? (i := 6) rfl, List.mem_of_getElem? (i := 7) rfl, List.mem_of_getElem? (i := 8) rfl, List.mem_of_getElem? (i := 9) rfl, List.mem_of_getElem? (i := 10) rfl, List.mem_of_getElem? (i := 11) rfl, List.mem_of_getElem? (i := 12) rfl, List.mem_of_getElem? (i := 13) rfl, List.mem_of_getElem? (i := 14) rfl, List.mem_of_getElem? (i := 15) rfl, List.mem_of_getElem? (i := 16) rfl, List.mem_of_getElem? (i := 17) rfl⟩

theorem personActs_laid {W : World} (h : laidMetH Tryz.prog Rows.personActsRow.laid W) (_ : W.ShapedOpen Tryz.prog) : ∃ E, LaidR E W := laidR_of h personActs_lists

set_option maxRecDepth 100000 in
theorem personActs_door (os : Os) (args : Array Value) : laidMetH Tryz.prog Rows.personActsRow.laid (((World.doorLaid Tryz.prog 400 os).layVars Tryz.prog (Rows.personActsRow.laid.filter fun x => x.2.handleName?.isNone)).forCall (fun _ _ => 0) ⟨#[], args, []⟩).memory :=
  laidMetH_of_parts3 (fuel := 8) (laidMet_laidOn args (by kernel_rfl) (by kernel_rfl)) (by kernel_rfl) (by kernel_rfl)

set_option maxRecDepth 100000 in
theorem personActs_lifted (os : Os) (started : os.Started) (H : Type) (enc : TypeId × Value → H) :
    ReturnsInHanded {} Tryz.checked os 3 .any (fun w args => (Rows.personActsSpec.pre enc Tryz.prog Tryz.f3 [] false w args ∧ laidMetH Tryz.prog Rows.personActsRow.laid w) ∧ sizedMet enc Tryz.prog Tryz.f3 (OpenSpec.ofChange Rows.personActsSpec) false w args)
      (Rows.personActsSpec.post enc Tryz.prog Tryz.f3 false true false false) := by
  refine returns_both (C := Tryz.checked) (X := fun w _ => laidMetH Tryz.prog Rows.personActsRow.laid w) (fun _ _ _ hh h => h.of_heap hh) ownKnob_none started (by kernel_rfl) Tryz.func3
    (ChangeSpec.witness_shaped (enc := enc) (C := Tryz.checked) (os := os) (X := fun w _ => laidMetH Tryz.prog Rows.personActsRow.laid w) false ((World.doorLaid Tryz.prog 400 os).layVars Tryz.prog (Rows.personActsRow.laid.filter fun x => x.2.handleName?.isNone)) #[.slice none 0 0, .agg #[.string ⟨#[]⟩, .int .i64 0, .int .i64 0, .bool false]] 8 ((World.layVars_os _ _ _).trans rfl) (World.shaped_of_ZipB (by kernel_rfl) (by kernel_rfl)) (by kernel_rfl) (by kernel_rfl) (by kernel_rfl) (personActs_door os _)) ?_
  intro W base args ds gs before hval0 hW hL hsh
  have hval : ∀ (j : Nat) t v, Tryz.f3.params[j]? = some t → args[j]? = some v → Value.okWide Tryz.prog W .any base t v := hval0
  have hW' := hW
  obtain ⟨p, q, hA0, hV, rfl, hfz, hnd⟩ := hW
  have hA : DataW.TrodAll enc Tryz.prog W 0 (fun _ => true) true Tryz.f3.params.toList args.toList ds p := hA0
  rw [Tryz.params3] at hA hval
  obtain ⟨args⟩ := args
  obtain ⟨v0, vs0, d0, ds0, p0, q0, hv0, rfl, rfl, h0, hR0⟩ := trodAll_cons hA
  obtain ⟨v1, vs1, d1, ds1, p1, q1, hv1, rfl, rfl, h1, hR1⟩ := trodAll_cons hR0
  obtain ⟨hvn, rfl, rfl⟩ := trodAll_nil hR1
  subst hvn
  subst hv1
  have hv0 : args = _ := hv0
  subst hv0
  obtain ⟨rfl, rfl⟩ := trodVars_none hV
  obtain ⟨a0, len0, cap0, rfl⟩ := okWide_slice Tryz.underlying22 (hval 0 22 v0 rfl rfl)
  obtain ⟨fuel0, hf0⟩ := h0
  obtain ⟨A, hacts⟩ := acts_of hf0
  obtain ⟨Q_p, rfl, hl_p⟩ := per_arg (hval 1 24 v1 rfl rfl) h1
  obtain ⟨E, hE⟩ := personActs_laid hL hsh
  refine (acts_any _ A Q_p W hE hacts hl_p).mono fun e W' ⟨he, hb⟩ => ⟨_, he, ?_⟩
  exact law_post rfl (by kernel_rfl) (by rw [Tryz.params3]; intro t ht; simp only [List.mem_cons, List.mem_nil_iff, or_false] at ht; rcases ht with rfl | rfl <;> exact ⟨by kernel_rfl, by rw [types_size]; decide⟩) rfl hW' hb

theorem personActs_holds : Rows.PersonActsSaid :=
  OpenClaim.holds_of_wide 3 Tryz.f3 rfl rfl rfl rfl rfl rfl rfl ⟨rfl, rfl, rfl, rfl, rfl⟩ rfl rfl rfl rfl rfl (by kernel_rfl) Tryz.func3 (by kernel_rfl)
    (of_decide_eq_true (by kernel_rfl)) (by unfold Func.isWrapper; rw [if_neg (of_decide_eq_false (by kernel_rfl))]; exact ⟨rfl, rfl⟩)
    (fun os started H enc _ => personActs_lifted os started H enc)

set_option maxRecDepth 100000 in
theorem personActs_card : Rows.PersonActsCardSaid :=
  Claim7.holds_tied_plain_at .later [] _ _ _ _
    personActs_holds (fun _ h => by cases h) (by kernel_rfl) (fun _ h => by cases h) personActs_row_tie rfl ⟨rfl, rfl⟩ (by kernel_rfl) rfl
    (fun f fn hf hfn => by
      obtain rfl : f = 3 := Option.some.inj ((show Tryz.prog.funcNamed "keyholder/keyholderlaw1.PersonActs" = some 3 by kernel_rfl).symm.trans hf) |>.symm
      obtain rfl : fn = Tryz.f3 := (Option.some.inj (Tryz.func3.symm.trans hfn)).symm
      exact ⟨by kernel_rfl, fun j t ht => by
        rw [Tryz.params3] at ht
        have ht := Array.mem_of_getElem? ht
        simp only [List.mem_toArray, List.mem_cons, List.mem_nil_iff, or_false] at ht
        rcases ht with rfl | rfl
        · exact (show Tryz.prog.wantsStandIn 22 = false by kernel_rfl)
        · exact (show Tryz.prog.wantsStandIn 24 = false by kernel_rfl)⟩)
    (by kernel_rfl)
end Go.Proofs.YtjckllgbllmjjaaGreatDoor
