/- FloO -/
import Derived.Test.YtcnadjdijolboaaGreatDoorMg21
import Derived.Deep.CutRange
import Derived.Deep.CutBlock
/- FloorOrder, walked: the closed fact; the law. -/
namespace Go.Proofs.YtcnadjdijolboaaGreatDoor
open Go.RowKit Go.Shelf Go.Lib

theorem upF_memM {L : List Flo} {f : Flo} {m : Nat} (hm : ∀ g ∈ L, g.who.length ≤ m) (hf : f.who.length ≤ m) : ∀ g ∈ upF L f, g.who.length ≤ m := by
  intro g hg
  unfold upF at hg
  split at hg
  · exact hm g hg
  · rcases (insF_mem f g _).1 hg with rfl | h
    · exact hf
    · exact hm g (List.mem_filter.1 h).1
theorem raise_mem {L : List Flo} {f : Flo} {m : Nat} (hm : ∀ g ∈ L, g.who.length ≤ m) (hf : f.who.length ≤ m) : ∀ g ∈ (raiseF L f).1, g.who.length ≤ m := by
  by_cases h : (raiseF L f).2.1 = 0
  · obtain ⟨_, _, _, e⟩ := raiseF_zero h
    rw [e]
    exact upF_memM hm hf
  · rw [raiseF_bad h]
    intro g hg
    cases hg
theorem raise_len {L : List Flo} {f : Flo} : (raiseF L f).1.length ≤ 21 := by
  by_cases h : (raiseF L f).2.1 = 0
  · obtain ⟨_, _, hg, e⟩ := raiseF_zero h
    rw [e]
    exact hg.len
  · rw [raiseF_bad h]
    exact Nat.zero_le _
def annW : List UInt8 := [97, 110, 110]
def bobW : List UInt8 := [98, 111, 98]
theorem floored_fact : raiseF [⟨annW, 2⟩] ⟨starW, 3⟩ = ([⟨starW, 3⟩], 0, -1) := by kernel_rfl
theorem floored_one (w : World) : FloorsAt (w.alloc (.cells #[.string (bs annW), .int .i64 2] 24)) (.slice (some ⟨w.heap.size, 0, none⟩) 1 1) [⟨annW, 2⟩] := by
  refine ⟨_, _, rfl, by decide, by decide, fun i hi => ⟨w.heap.size, 0, rfl, ?_⟩⟩
  have : i = 0 := by simpa using hi
  subst this
  simp
set_option maxHeartbeats 2000000 in
set_option maxRecDepth 100000 in
theorem floored_any {E : Nat → Addr} (w : World) (hL : Laid E w) :
    Calls Tryz.prog 5 #[] w fun e w' => e = .returned (.bool true) ∧ Below w.heap.size w w' := by
  have hA : Below w.heap.size w (w.alloc (.cells #[.string (bs annW), .int .i64 2] 24)) := (Below.refl _ _).alloc (Nat.le_refl _) _
  have hra := raise_flo (E := E) (.slice (some ⟨w.heap.size, 0, none⟩) 1 1) [⟨annW, 2⟩] ⟨starW, 3⟩ _ (hL.below hA) (floored_one w) (by intro g hg; simp at hg; subst hg; decide) (by decide)
  rw [floored_fact] at hra
  have hpa := Lib.hid (fun (v : Value) (n : List UInt8) (e0 : Int) (wx : World) (hv : FloorsAt wx v [⟨starW, 3⟩]) => passes_flo v [⟨starW, 3⟩] n e0 wx hv (by intro g hg; simp at hg; subst hg; decide))
  have hp1 : decide (ofF [⟨starW, 3⟩] annW ≤ 2) = false := by decide +kernel
  have hp2 : decide (ofF [⟨starW, 3⟩] bobW ≤ 3) = true := by decide +kernel
  have hp1 := Lib.hid hp1
  have hp2 := Lib.hid hp2
  have hra := Lib.hid hra
  have hA := Lib.hid hA
  have s1 : (⟨#[97, 110, 110]⟩ : ByteArray) = bs annW := rfl
  have s2 : (⟨#[98, 111, 98]⟩ : ByteArray) = bs bobW := rfl
  have s3 : (⟨#[42]⟩ : ByteArray) = bs starW := rfl
  go_enter Tryz.func5, Tryz.ntmps5
  go_wp2_with fail
  refine hra.out.mono ?_
  rintro e w1 ⟨⟨v, ev, rfl, hrow, he⟩, hb1⟩
  obtain ⟨rfl, _⟩ := he.zero rfl
  have hat := hrow.at_ (by decide)
  obtain ⟨a, c, rfl, _, _, hcs⟩ := id hat
  obtain ⟨b, o, rfl, h0, h1⟩ := hcs 0 (by decide)
  simp only [List.getElem_cons_zero, Nat.zero_mul, Nat.add_zero] at h0 h1
  have hat := Lib.hid hat
  have hb1 := Lib.hid (below_trans hA.out hb1)
  clear hcs hrow he
  go_wp2_with fail
  refine (hpa.out _ annW 2 _ hat.out).mono ?_
  rintro e w2 ⟨rfl, hb2⟩
  rw [hp1.out]
  have hat := Lib.hid (hat.out.below hb2)
  have hb2 := Lib.hid (below_trans hb1.out hb2)
  go_wp2_with fail
  refine (hpa.out _ bobW 3 _ hat.out).mono ?_
  rintro e w3 ⟨rfl, hb3⟩
  rw [hp2.out]
  have hb3 := Lib.hid (below_trans hb2.out hb3)
  go_wp2_with fail
  go_ret
  exact ⟨rfl, hb3.out⟩
/-- The same floors: a slice twice. -/
theorem bad_nil {L : List Flo} {f : Flo} (h : (raiseF L f).2.1 ≠ 0) : (raiseF L f).1.length = 0 := by rw [raiseF_bad h]; rfl
theorem raise_ok {E : Nat → Addr} (v : Value) (M : List Flo) (h : Flo) (w : World) (hL : Laid E w) (hv : FloorsAt w v M) (hm : ∀ f ∈ M, f.who.length ≤ maxLen) (hh : h.who.length ≤ maxLen) (hz : (raiseF M h).2.1 = 0) :
    Calls Tryz.prog 14 #[v, h.val] w fun e w' => ∃ a c, e = .returned (.tuple #[.slice a (raiseF M h).1.length c, .nilIface]) ∧ FloorsAt w' (.slice a (raiseF M h).1.length c) (raiseF M h).1 ∧ Below w.heap.size w w' :=
  (raise_flo v M h w hL hv hm hh).mono fun e w' ⟨⟨v', ev, he, hrow, hev⟩, hb⟩ => by
    obtain ⟨rfl, _⟩ := hev.zero hz
    have hat := hrow.at_ (by have := @raise_len M h; unfold maxLen; omega)
    obtain ⟨a, c, rfl⟩ := hrow.sl
    exact ⟨a, c, he, hat, hb⟩
theorem raise_bad {E : Nat → Addr} (v : Value) (M : List Flo) (h : Flo) (w : World) (hL : Laid E w) (hv : FloorsAt w v M) (hm : ∀ f ∈ M, f.who.length ≤ maxLen) (hh : h.who.length ≤ maxLen) (hz : (raiseF M h).2.1 ≠ 0) :
    Calls Tryz.prog 14 #[v, h.val] w fun e w' => ∃ a c T y, e = .returned (.tuple #[.slice a 0 c, .iface T (.pointer (some y))]) ∧ Below w.heap.size w w' :=
  (raise_flo v M h w hL hv hm hh).mono fun e w' ⟨⟨v', ev, he, hrow, hev⟩, hb⟩ => by
    obtain ⟨T, y, rfl⟩ := hev.iface hz
    obtain ⟨a, c, hv⟩ := hrow.sl
    rw [bad_nil hz] at hv
    subst hv
    exact ⟨a, c, T, y, he, hb⟩
theorem raise_some {E : Nat → Addr} (v : Value) (M : List Flo) (h : Flo) (w : World) (hL : Laid E w) (hv : FloorsAt w v M) (hm : ∀ f ∈ M, f.who.length ≤ maxLen) (hh : h.who.length ≤ maxLen) :
    Calls Tryz.prog 14 #[v, h.val] w fun e w' => ∃ a n c ev, e = .returned (.tuple #[.slice a n c, ev]) ∧ Below w.heap.size w w' :=
  (raise_flo v M h w hL hv hm hh).mono fun e w' ⟨⟨v', ev, he, hrow, hev⟩, hb⟩ => by
    obtain ⟨a, c, rfl⟩ := hrow.sl
    exact ⟨a, _, c, ev, he, hb⟩
end Go.Proofs.YtcnadjdijolboaaGreatDoor
