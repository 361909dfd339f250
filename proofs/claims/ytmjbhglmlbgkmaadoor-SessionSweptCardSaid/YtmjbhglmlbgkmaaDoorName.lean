/- seal.Name, by its contract. -/
import Derived.Test.YtmjbhglmlbgkmaaDoorTexts
import Derived.Test.YtmjbhglmlbgkmaaDoorBook
import Derived.Test.YtmjbhglmlbgkmaaDoorShelf
namespace Go.Proofs.YtmjbhglmlbgkmaaDoor
open Go.RowKit

set_option maxRecDepth 100000 in
theorem trim_small (s : ByteArray) (w : World) (hs : s.size ≤ maxLen) :
    Calls Tryd.prog 77 #[.string s, .string (bs smallCs)] w fun e w' => e = .returned (.string (bs (Lib.trimS s.data.toList smallCs))) ∧ Below w.heap.size w w' :=
  Any.strings_Trim_laid Tryd.trim160 (by kernel_rfl) s (bs smallCs) w hs (by decide) (ascii_of_all (by decide))
set_option maxRecDepth 100000 in
theorem name_any (s : ByteArray) (w : World) (hs : s.size ≤ maxLen) :
    Calls Tryd.prog 82 #[.string s] w fun e w' => e = .returned (.bool (isName s.data.toList)) ∧ Below w.heap.size w w' := by
  have ht := trim_small s w hs
  have hlen : s.data.toList.length = s.size := Array.length_toList
  have htl : s.toList = s.data.toList := toList_data s
  unfold maxLen at hs
  by_cases h0 : s.data.toList = []
  · have hr := Lib.hid (show isName s.data.toList = false by rw [h0]; rfl)
    have hte : s.toList = [] := by rw [htl, h0]
    clear ht hlen htl h0
    go_enter Tryd.func82, Tryd.ntmps82
    go_wp2_with fail
    go_ret
    exact ⟨ret_bool hr.out.symm, Below.refl _ _⟩
  · have hte : s.toList.isEmpty = false := by rw [htl]; simpa using h0
    have h1 : 1 ≤ s.size := by
      rcases Nat.eq_zero_or_pos s.size with h | h
      · exact absurd (List.eq_nil_of_length_eq_zero (hlen.trans h)) h0
      · exact h
    by_cases h8 : s.size ≤ 8
    · have ht := Lib.hid ht
      by_cases hall : Lib.trimS s.data.toList smallCs = []
      · have hr := Lib.hid (show isName s.data.toList = true from (isName_iff _).2 ⟨by omega, by omega, fun c hc => by rw [← smallCs_contains]; exact (trimS_nil_iff _ _).1 hall c hc⟩)
        clear hlen htl h0
        have he : (bs []).toList = [] := by rw [toList_data]; rfl
        go_enter Tryd.func82, Tryd.ntmps82
        go_wp2_with fail
        refine ht.out.mono ?_
        rintro e w1 ⟨rfl, hb⟩
        rw [hall]
        clear hall
        go_wp2_with fail
        go_ret
        exact ⟨ret_bool hr.out.symm, hb⟩
      · have hr := Lib.hid (show isName s.data.toList = false by
          cases hn : isName s.data.toList with
          | false => rfl
          | true =>
            obtain ⟨_, _, h⟩ := (isName_iff _).1 hn
            exact absurd ((trimS_nil_iff _ _).2 (fun c hc => by rw [smallCs_contains]; exact h c hc)) hall)
        clear hlen htl h0
        have he : (bs (Lib.trimS s.data.toList smallCs)).toList.isEmpty = false := by rw [toList_data, bs_list]; simpa using hall
        generalize bs (Lib.trimS s.data.toList smallCs) = t at *
        clear hall
        go_enter Tryd.func82, Tryd.ntmps82
        go_wp2_with fail
        refine ht.out.mono ?_
        rintro e w1 ⟨rfl, hb⟩
        go_wp2_with fail
        go_ret
        exact ⟨ret_bool hr.out.symm, hb⟩
    · have hr := Lib.hid (show isName s.data.toList = false by
        cases hn : isName s.data.toList with
        | false => rfl
        | true => obtain ⟨_, h, _⟩ := (isName_iff _).1 hn; omega)
      clear ht hlen htl h0
      go_enter Tryd.func82, Tryd.ntmps82
      go_wp2_with fail
      go_ret
      exact ⟨ret_bool hr.out.symm, Below.refl _ _⟩
end Go.Proofs.YtmjbhglmlbgkmaaDoor
