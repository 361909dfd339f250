/- PersonRises: for all acts the law returns true. No condition beyond the row's own. -/
import Derived.Test.YtgainbpflncgcaaDoorRises
import Derived.Test.YtgainbpflncgcaaDoorBase
import Derived.Test.YtgainbpflncgcaaDoorTie
import Derived.Test.YtgainbpflncgcaaDoorCards
import Derived.Test.YtgainbpflncgcaaDoorOpen
import Derived.Lay
import Derived.MakeChecks
import Derived.SevenTiedAt
namespace Go.Proofs.YtgainbpflncgcaaDoor
open Go.ChangeShapes Go.WideShapes Go.ChangeAt Go.RowKit Go.ChangeMaps

set_option maxRecDepth 100000 in
theorem acts_of {H : Type} {enc : TypeId × Value → H} {W : World} {base : Nat} {spare : Nat → Bool} {held : Bool} {fuel : Nat} {a : Option Addr} {len cap : Nat} {x : DataW H × List MemPlace}
    (h : DataW.trod enc Tryd.prog W base spare held fuel 45 [.slice a len cap] = some x) : ∃ A, ActsAt W (.slice a len cap) A := by
  rcases slice_cells Tryd.underlying45 h with h0 | ⟨a', len', cap', n, hcs, hm, hi⟩
  · cases h0
    exact ⟨[], none, 0, rfl, Nat.zero_le _, fun i hi => by cases hi⟩
  · cases hcs
    have hC : Tryd.prog.cellsOf 50 = 4 := by kernel_rfl
    have h1 : Tryd.prog.cellsOf 9 = 1 := by kernel_rfl
    have h2 : Tryd.prog.cellsOf 3 = 1 := by kernel_rfl
    have h3 : Tryd.prog.cellsOf 4 = 1 := by kernel_rfl
    rw [hC] at hi
    obtain ⟨A, hl, hA⟩ := list_of (p := fun i (q : ActV) => (i = 0 → a' = ⟨a'.block, a'.off, none⟩) ∧ W.cell? ⟨a'.block, a'.off + i * 4, none⟩ = some (.string (bs q.kind)) ∧ W.cell? ⟨a'.block, a'.off + i * 4 + 1, none⟩ = some (.string (bs q.name)) ∧ W.cell? ⟨a'.block, a'.off + i * 4 + 2, none⟩ = some (.int .i64 q.key) ∧ W.cell? ⟨a'.block, a'.off + i * 4 + 3, none⟩ = some (.bool q.is) ∧ q.kind.length ≤ maxLen ∧ q.name.length ≤ maxLen) len (fun i hil => by
      obtain ⟨cs, y, hcl, hat, ha, ht⟩ := hi i hil
      obtain ⟨_, m, hf⟩ := struct_fields Tryd.underlying50 ht
      obtain ⟨k0, k1, k2, k3, rfl⟩ := four_of hcl
      · skip
        obtain ⟨_, z0⟩ := hf 0 _ rfl
        obtain ⟨_, z1⟩ := hf 1 _ rfl
        obtain ⟨_, z2⟩ := hf 2 _ rfl
        obtain ⟨_, z3⟩ := hf 3 _ rfl
        have z0 := field_one z0 h1 (v := k0) rfl
        have z1 := field_one z1 h1 (v := k1) rfl
        have z2 := field_one z2 h2 (v := k2) rfl
        have z3 := field_one z3 h3 (v := k3) rfl
        obtain ⟨s0, rfl, l0⟩ := read_string Tryd.underlying9 z0
        obtain ⟨s1, rfl, l1⟩ := read_string Tryd.underlying9 z1
        obtain ⟨x2, rfl, _⟩ := read_int Tryd.underlying3 z2
        obtain ⟨x3, rfl⟩ := read_bool Tryd.underlying4 z3
        exact ⟨⟨s0, s1, x2, x3⟩, fun h0 => ha 0 (by decide) (by rw [h0]), by simpa using hat 0 (by decide), by simpa [Nat.add_assoc] using hat 1 (by decide), by simpa [Nat.add_assoc] using hat 2 (by decide), by simpa [Nat.add_assoc] using hat 3 (by decide), l0, l1⟩)
    subst hl
    refine ⟨A, some a', cap, rfl, hm, fun i hil => ?_⟩
    exact ⟨a'.block, a'.off, congrArg some ((hA 0 (Nat.lt_of_le_of_lt (Nat.zero_le _) hil)).1 rfl), (hA i hil).2⟩

set_option maxRecDepth 100000 in
theorem personRises_laid {W : World} (h : laidMetH Tryd.prog Rows.personRisesRow.laid W) : ∃ E, Laid E W := by
  obtain ⟨a2, _, c2, _, _, _⟩ := sentinel_of h "keyholder/api.ErrBound" [107, 101, 121, 104, 111, 108, 100, 101, 114, 58, 32, 98, 111, 117, 110, 100] 1 (List.mem_of_getElem? (i := 1) rfl) (by kernel_rfl) (by kernel_rfl)
  obtain ⟨a4, _, c4, _, _, _⟩ := sentinel_of h "keyholder/api.ErrName" [107, 101, 121, 104, 111, 108, 100, 101, 114, 58, 32, 110, 97, 109, 101] 3 (List.mem_of_getElem? (i := 2) rfl) (by kernel_rfl) (by kernel_rfl)
  obtain ⟨a5, _, c5, _, _, _⟩ := sentinel_of h "keyholder/api.ErrNone" [107, 101, 121, 104, 111, 108, 100, 101, 114, 58, 32, 110, 111, 110, 101] 4 (List.mem_of_getElem? (i := 3) rfl) (by kernel_rfl) (by kernel_rfl)
  obtain ⟨a6, _, c6, _, _, _⟩ := sentinel_of h "keyholder/api.ErrExist" [107, 101, 121, 104, 111, 108, 100, 101, 114, 58, 32, 101, 120, 105, 115, 116] 5 (List.mem_of_getElem? (i := 4) rfl) (by kernel_rfl) (by kernel_rfl)
  obtain ⟨a7, _, c7, _, _, _⟩ := sentinel_of h "keyholder/api.ErrFull" [107, 101, 121, 104, 111, 108, 100, 101, 114, 58, 32, 102, 117, 108, 108] 6 (List.mem_of_getElem? (i := 5) rfl) (by kernel_rfl) (by kernel_rfl)
  obtain ⟨a10, _, c10, _, _, _⟩ := sentinel_of h "keyholder/api.ErrKey" [107, 101, 121, 104, 111, 108, 100, 101, 114, 58, 32, 107, 101, 121] 9 (List.mem_of_getElem? (i := 6) rfl) (by kernel_rfl) (by kernel_rfl)
  exact ⟨fun c => match c with | 2 => a2 | 4 => a4 | 5 => a5 | 6 => a6 | 7 => a7 | 10 => a10 | _ => default, ⟨c2, c4, c5, c6, c7, c10⟩⟩

set_option maxRecDepth 100000 in
theorem personRises_door (os : Os) (args : Array Value) : laidMetH Tryd.prog Rows.personRisesRow.laid ((World.laidAll Tryd.prog os Rows.personRisesRow.laid).forCall (fun _ _ => 0) ⟨#[], args, []⟩).memory := by
  rw [MakeChecks.laidMetH_plain _ _ _ (by kernel_rfl)]
  exact laidMet_laidAll _ (by kernel_rfl) (by kernel_rfl)

set_option maxRecDepth 100000 in
theorem personRises_lifted (os : Os) (started : os.Started) (H : Type) (enc : TypeId × Value → H) :
    ReturnsInHanded {} Tryd.checked os 6 .any (fun w args => (Rows.personRisesSpec.pre enc Tryd.prog Tryd.f6 [] false w args ∧ laidMetH Tryd.prog Rows.personRisesRow.laid w) ∧ sizedMet enc Tryd.prog Tryd.f6 (OpenSpec.ofChange Rows.personRisesSpec) false w args)
      (Rows.personRisesSpec.post enc Tryd.prog Tryd.f6 false true false false) := by
  refine returnsInHanded_of_change_and (C := Tryd.checked) (X := fun w _ => laidMetH Tryd.prog Rows.personRisesRow.laid w) (fun _ _ _ hh h => h.of_heap hh) ownKnob_none started (by kernel_rfl) Tryd.func6
    (ChangeSpec.witness_shaped (enc := enc) (C := Tryd.checked) (os := os) (X := fun w _ => laidMetH Tryd.prog Rows.personRisesRow.laid w) false (World.laidAll Tryd.prog os Rows.personRisesRow.laid) #[.slice none 0 0] 8 (World.laidAll_os _ _ _) (World.shaped_of_ZipB (by kernel_rfl) (by kernel_rfl)) (by kernel_rfl) (by kernel_rfl) (by kernel_rfl) (personRises_door os _)) ?_
  intro W base args ds gs before hval0 hW _ _ hL _
  have hval : ∀ (j : Nat) t v, Tryd.f6.params[j]? = some t → args[j]? = some v → Value.okWide Tryd.prog W .any base t v := hval0
  have hW' := hW
  obtain ⟨p, q, hA0, hV, rfl, hfz, hnd⟩ := hW
  have hA : DataW.TrodAll enc Tryd.prog W 0 (fun _ => true) true Tryd.f6.params.toList args.toList ds p := hA0
  rw [Tryd.params6] at hA hval
  obtain ⟨args⟩ := args
  obtain ⟨v0, vs0, d0, ds0, p0, q0, hv0, rfl, rfl, h0, hR0⟩ := trodAll_cons hA
  obtain ⟨hvn, rfl, rfl⟩ := trodAll_nil hR0
  subst hvn
  have hv0 : args = _ := hv0
  subst hv0
  obtain ⟨rfl, rfl⟩ := trodVars_none hV
  obtain ⟨a0, len0, cap0, rfl⟩ := okWide_slice Tryd.underlying45 (hval 0 45 v0 rfl rfl)
  obtain ⟨fuel0, hf0⟩ := h0
  obtain ⟨A, hacts⟩ := acts_of hf0
  obtain ⟨E, hE⟩ := personRises_laid hL
  refine (rises_any _ A W hE hacts).mono fun e W' ⟨he, hb⟩ => ⟨_, he, ?_⟩
  exact law_post rfl (by kernel_rfl) (by rw [Tryd.params6]; intro t ht; simp only [List.mem_cons, List.mem_nil_iff, or_false] at ht; rcases ht with rfl <;> exact ⟨by kernel_rfl, by rw [types_size]; decide⟩) rfl hW' hb

theorem personRises_holds : Rows.PersonRisesSaid :=
  OpenClaim.holds_of_wide 6 Tryd.f6 rfl rfl rfl rfl rfl rfl rfl ⟨rfl, rfl, rfl, rfl, rfl⟩ rfl rfl rfl rfl rfl (by kernel_rfl) Tryd.func6 (by kernel_rfl)
    (of_decide_eq_true (by kernel_rfl)) (by unfold Func.isWrapper; rw [if_neg (of_decide_eq_false (by kernel_rfl))]; exact ⟨rfl, rfl⟩)
    (fun os started H enc _ => personRises_lifted os started H enc)

set_option maxRecDepth 100000 in
theorem personRises_card : Rows.PersonRisesCardSaid :=
  Claim7.holds_tied_plain_at .later [] _ _ _ _
    personRises_holds (fun _ h => by cases h) (by kernel_rfl) (fun _ h => by cases h) personRises_row_tie rfl ⟨rfl, rfl⟩ (by kernel_rfl) rfl
    (fun f fn hf hfn => by
      obtain rfl : f = 6 := Option.some.inj ((show Tryd.prog.funcNamed "keyholder/keyholderlaw1.PersonRises" = some 6 by kernel_rfl).symm.trans hf) |>.symm
      obtain rfl : fn = Tryd.f6 := (Option.some.inj (Tryd.func6.symm.trans hfn)).symm
      exact ⟨by kernel_rfl, fun j t ht => by
        rw [Tryd.params6] at ht
        have ht := Array.mem_of_getElem? ht
        simp only [List.mem_toArray, List.mem_cons, List.mem_nil_iff, or_false] at ht
        rcases ht with rfl
        · exact (show Tryd.prog.wantsStandIn 45 = false by kernel_rfl)⟩)
    (by kernel_rfl)
end Go.Proofs.YtgainbpflncgcaaDoor
