/- Package tape: record, one, Read: walked. -/
import Derived.Test.YtmjbhglmlbgkmaaDoorTapeM
import Derived.Test.YtmjbhglmlbgkmaaDoorLibS
import Derived.Test.YtmjbhglmlbgkmaaDoorShelf2
import Derived.Test.YtmjbhglmlbgkmaaDoorTexts
import Derived.Lib.IndexMore
import Derived.Deep.LoopGhost
namespace Go.Proofs.YtmjbhglmlbgkmaaDoor
open Go.RowKit Go.Sort

theorem str_catT (a b : List UInt8) : bs a ++ bs b = bs (a ++ b) := by
  apply ByteArray.ext
  simp [bs]
theorem ext_first (l : List UInt8) (k : Nat) : (bs l).extract 0 k = bs (l.take k) := by
  apply ByteArray.ext
  apply Array.toList_inj.1
  rw [Lib.extract_data, bs_list, bs_list]
  simp
theorem ext_rest (l : List UInt8) (k n : Nat) (h : n = l.length) : (bs l).extract k n = bs (l.drop k) := by
  subst h
  have := Lib.extract_to_end (bs l) k
  rw [bs_size] at this
  apply ByteArray.ext
  apply Array.toList_inj.1
  rw [this, bs_list, bs_list]
theorem ext_mid (l : List UInt8) (k n : Nat) : (bs l).extract k n = bs ((l.drop k).take (n - k)) := by
  apply ByteArray.ext
  apply Array.toList_inj.1
  rw [Lib.extract_data, bs_list, bs_list]
theorem index_first58 (c : UInt8) : ∀ l : List UInt8, Lib.index l [c] = match firstCut c l with
    | none => -1
    | some (h, _) => (h.length : Int)
  | [] => rfl
  | b :: l => by
    have ih := index_first58 c l
    unfold Lib.index firstCut
    by_cases h : b = c
    · subst h
      simp
    · have h2 : ([c].isPrefixOf (b :: l)) = false := by
        simp [List.isPrefixOf]
        intro e
        exact h e.symm
      rw [if_neg (by rw [h2]; decide), if_neg h, ih]
      cases firstCut c l with
      | none => rfl
      | some x =>
        obtain ⟨p, q⟩ := x
        dsimp only
        rw [if_neg (by simp)]
        simp
theorem cut_first (c : UInt8) (l : List UInt8) : Lib.cut l [c] = match firstCut c l with
    | none => (l, [], false)
    | some (h, t) => (h, t, true) := by
  unfold Lib.cut
  rw [index_first58]
  cases hf : firstCut c l with
  | none => rfl
  | some x =>
    obtain ⟨h, t⟩ := x
    obtain ⟨e, _⟩ := firstCut_some c l h t hf
    dsimp only
    rw [if_pos (Int.natCast_nonneg _), e]
    simp
set_option maxRecDepth 100000 in
theorem cut_any {E : Nat → Addr} (b : List UInt8) (w : World) (hL : LaidS E w) (hb : b.length ≤ 1000000000) :
    Calls Tryd.prog 75 #[.string (bs b), .string ⟨#[58]⟩] w fun e w' => e = .returned (.tuple #[.string (bs (Lib.cut b [58]).1), .string (bs (Lib.cut b [58]).2.1), .bool (Lib.cut b [58]).2.2]) ∧ Below w.heap.size w w' := by
  obtain ⟨m, hm⟩ := hL.mx
  have h := Any.strings_Cut Tryd.cutL (bs b) ⟨#[58]⟩ m w (by rw [bs_size]; omega) hm
  refine (show Calls Tryd.prog 75 #[.string (bs b), .string ⟨#[58]⟩] w _ from h).mono ?_
  rintro e w' ⟨rfl, n, rfl⟩
  rw [bs_list]
  exact ⟨rfl, below_drawn (Below.refl _ _) _⟩

set_option maxRecDepth 100000 in
theorem record_any {E : Nat → Addr} (s : List UInt8) (w : World) (hL : LaidS E w) (hs : s.length ≤ 1000000000) :
    Calls Tryd.prog 49 #[.string (bs s)] w fun e w' => e = .returned (.string (bs (recordT s))) ∧ Below w.heap.size w w' := by
  have hit := Lib.hid (itoa_any (E := E) (s.length : Int) (by omega) (by omega) w hL)
  have hr := Lib.hid (show bs (Lib.itoa (s.length : Int)) ++ ⟨#[58]⟩ ++ bs s ++ ⟨#[10, 46]⟩ = bs (recordT s) by
    rw [show (⟨#[58]⟩ : ByteArray) = bs [58] from rfl, show (⟨#[10, 46]⟩ : ByteArray) = bs [10, 46] from rfl, str_catT, str_catT, str_catT]
    unfold recordT
    simp)
  have hsz := bs_size s
  have hil : (Lib.itoa (s.length : Int)).length ≤ 10 := itoa_len10 (by omega) (by omega)
  generalize Lib.itoa (s.length : Int) = it at *
  have hsi := bs_size it
  go_enter Tryd.func49, Tryd.ntmps49
  go_wp2_with fail
  refine hit.out.mono ?_
  rintro e w1 ⟨rfl, hb⟩
  have hb := Lib.hid hb
  clear hit
  go_wp2_with fail
  go_ret
  exact ⟨congrArg (fun x => Ending.returned (Value.string x)) hr.out, hb.out⟩
/-- What one answers. -/
def oneV (b : List UInt8) : Value := .tuple #[.string (bs ((oneT b).getD [])), .bool (oneT b).isSome]
theorem oneV_none {b : List UInt8} (h : oneT b = none) : oneV b = .tuple #[.string ⟨#[]⟩, .bool false] := by unfold oneV; rw [h]; rfl
theorem oneV_some {b s : List UInt8} (h : oneT b = some s) : oneV b = .tuple #[.string (bs s), .bool true] := by unfold oneV; rw [h]; rfl
theorem ret_tuple {a b : Value} (h : a = b) : Ending.returned a = .returned b := by rw [h]
end Go.Proofs.YtmjbhglmlbgkmaaDoor
