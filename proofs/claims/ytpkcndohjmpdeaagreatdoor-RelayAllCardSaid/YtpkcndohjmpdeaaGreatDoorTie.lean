/-
  DERIVED. GIVEN WITH THE SEED: THE PROGRAM's TIES (one call each: nine closed facts by the kernel) AND EACH ROW's TIE, after the 31st guide's Derived/Test/Toyas{Tie, Card}.lean. No idea stands in it: it is a product of the set-up. Laid BY PROGRAM, IN A SANDBOX (cutbox-door.mjs). By AI agents, Wed Nov 11 2026. No macro, syntax, notation, axiom, sorry.
-/
import Derived.Test.YtpkcndohjmpdeaaGreatDoorRows
import Derived.LaidByTextLater
import Derived.SevenTiedAt
import Derived.LaidSub
import Derived.LaidOnce
namespace Go.Proofs.YtpkcndohjmpdeaaGreatDoor
open Go
set_option maxRecDepth 100000
theorem seatTie1 : Tryz.prog.laidByTextLater [("math/bits.deBruijn32tab", Rows.laid_math_bits_deBruijn32tab), ("math/bits.deBruijn64tab", Rows.laid_math_bits_deBruijn64tab), ("internal/strconv.uint64pow10", Rows.laid_internal_strconv_uint64pow10), ("unicode/utf8.acceptRanges", Rows.laid_unicode_utf8_acceptRanges), ("keyholder/api.ErrText", Rows.laid_keyholder_api_ErrText), ("keyholder/api.ErrBound", Rows.laid_keyholder_api_ErrBound), ("keyholder/api.ErrShape", Rows.laid_keyholder_api_ErrShape), ("keyholder/api.ErrName", Rows.laid_keyholder_api_ErrName), ("keyholder/api.ErrNone", Rows.laid_keyholder_api_ErrNone), ("keyholder/api.ErrFull", Rows.laid_keyholder_api_ErrFull), ("keyholder/api.ErrOrder", Rows.laid_keyholder_api_ErrOrder), ("keyholder/api.ErrMark", Rows.laid_keyholder_api_ErrMark), ("keyholder/api.ErrKey", Rows.laid_keyholder_api_ErrKey), ("keyholder/api.ErrLate", Rows.laid_keyholder_api_ErrLate), ("keyholder/api.ErrGap", Rows.laid_keyholder_api_ErrGap), ("strconv.ErrRange", Rows.laid_strconv_ErrRange), ("strconv.ErrSyntax", Rows.laid_strconv_ErrSyntax)] [.data, .data, .data, .data, .sentinel, .sentinel, .sentinel, .sentinel, .sentinel, .sentinel, .sentinel, .sentinel, .sentinel, .sentinel, .sentinel, .sentinel, .sentinel] true :=
  Program.laidByTextLater_by_one 281 8 65 (by kernel_rfl) (by kernel_rfl) (by kernel_rfl) (by kernel_rfl) (by kernel_rfl) (by kernel_rfl) (fun _ _ => by kernel_rfl)
theorem pin_laid_unicode_utf8_first : Tryz.pinned.checked.prog.pinnedFits "unicode/utf8.first" = true := by kernel_rfl
theorem noOwnUnsafe : Tryz.pinned.checked.prog.headLifts.contains "ownunsafe" = false := by kernel_rfl
theorem fits1 : Tryz.pinned.checked.prog.listedFits [("math/bits.deBruijn32tab", Rows.laid_math_bits_deBruijn32tab), ("math/bits.deBruijn64tab", Rows.laid_math_bits_deBruijn64tab), ("internal/strconv.uint64pow10", Rows.laid_internal_strconv_uint64pow10), ("unicode/utf8.acceptRanges", Rows.laid_unicode_utf8_acceptRanges), ("keyholder/api.ErrText", Rows.laid_keyholder_api_ErrText), ("keyholder/api.ErrBound", Rows.laid_keyholder_api_ErrBound), ("keyholder/api.ErrShape", Rows.laid_keyholder_api_ErrShape), ("keyholder/api.ErrName", Rows.laid_keyholder_api_ErrName), ("keyholder/api.ErrFull", Rows.laid_keyholder_api_ErrFull), ("keyholder/api.ErrOrder", Rows.laid_keyholder_api_ErrOrder), ("keyholder/api.ErrMark", Rows.laid_keyholder_api_ErrMark), ("keyholder/api.ErrKey", Rows.laid_keyholder_api_ErrKey), ("keyholder/api.ErrLate", Rows.laid_keyholder_api_ErrLate), ("keyholder/api.ErrGap", Rows.laid_keyholder_api_ErrGap), ("strconv.ErrRange", Rows.laid_strconv_ErrRange), ("strconv.ErrSyntax", Rows.laid_strconv_ErrSyntax), ("unicode/utf8.first", Rows.laid_unicode_utf8_first)] = true := by
  unfold Program.listedFits
  rw [noOwnUnsafe]
  kernel_rfl
theorem tie : Tryz.prog.laidByTextLater [("math/bits.deBruijn32tab", Rows.laid_math_bits_deBruijn32tab), ("math/bits.deBruijn64tab", Rows.laid_math_bits_deBruijn64tab), ("internal/strconv.uint64pow10", Rows.laid_internal_strconv_uint64pow10), ("unicode/utf8.acceptRanges", Rows.laid_unicode_utf8_acceptRanges), ("keyholder/api.ErrText", Rows.laid_keyholder_api_ErrText), ("keyholder/api.ErrBound", Rows.laid_keyholder_api_ErrBound), ("keyholder/api.ErrShape", Rows.laid_keyholder_api_ErrShape), ("keyholder/api.ErrName", Rows.laid_keyholder_api_ErrName), ("keyholder/api.ErrFull", Rows.laid_keyholder_api_ErrFull), ("keyholder/api.ErrOrder", Rows.laid_keyholder_api_ErrOrder), ("keyholder/api.ErrMark", Rows.laid_keyholder_api_ErrMark), ("keyholder/api.ErrKey", Rows.laid_keyholder_api_ErrKey), ("keyholder/api.ErrLate", Rows.laid_keyholder_api_ErrLate), ("keyholder/api.ErrGap", Rows.laid_keyholder_api_ErrGap), ("strconv.ErrRange", Rows.laid_strconv_ErrRange), ("strconv.ErrSyntax", Rows.laid_strconv_ErrSyntax)] [.data, .data, .data, .data, .sentinel, .sentinel, .sentinel, .sentinel, .sentinel, .sentinel, .sentinel, .sentinel, .sentinel, .sentinel, .sentinel, .sentinel] true :=
  Program.laidByTextLater.sub seatTie1 ["math/bits.deBruijn32tab", "math/bits.deBruijn64tab", "internal/strconv.uint64pow10", "unicode/utf8.acceptRanges", "keyholder/api.ErrText", "keyholder/api.ErrBound", "keyholder/api.ErrShape", "keyholder/api.ErrName", "keyholder/api.ErrFull", "keyholder/api.ErrOrder", "keyholder/api.ErrMark", "keyholder/api.ErrKey", "keyholder/api.ErrLate", "keyholder/api.ErrGap", "strconv.ErrRange", "strconv.ErrSyntax"] (by kernel_rfl) (by kernel_rfl)
theorem followSame_row_tie : Rows.followSameRow.laidByTextAt .later Tryz.pinned [.data, .data, .data, .data, .sentinel, .sentinel, .sentinel, .sentinel, .sentinel, .sentinel, .sentinel, .sentinel, .sentinel, .sentinel, .sentinel, .sentinel, .pinned] true :=
  OpenClaim.laidByTextAt_pinned rfl rfl tie rfl rfl rfl rfl (fun y hy _e => by
    simp only [Rows.followSameRow, List.zip_cons_cons, List.zip_nil_right, List.mem_cons, List.mem_nil_iff, or_false] at hy
    rcases hy with rfl | rfl | rfl | rfl | rfl | rfl | rfl | rfl | rfl | rfl | rfl | rfl | rfl | rfl | rfl | rfl | rfl
    · cases _e
    · cases _e
    · cases _e
    · cases _e
    · cases _e
    · cases _e
    · cases _e
    · cases _e
    · cases _e
    · cases _e
    · cases _e
    · cases _e
    · cases _e
    · cases _e
    · cases _e
    · cases _e
    · exact ⟨pin_laid_unicode_utf8_first, by kernel_rfl⟩) fits1
theorem followRises_row_tie : Rows.followRisesRow.laidByTextAt .later Tryz.pinned [.data, .data, .data, .data, .sentinel, .sentinel, .sentinel, .sentinel, .sentinel, .sentinel, .sentinel, .sentinel, .sentinel, .sentinel, .sentinel, .sentinel, .pinned] true :=
  OpenClaim.laidByTextAt_pinned rfl rfl tie rfl rfl rfl rfl (fun y hy _e => by
    simp only [Rows.followRisesRow, List.zip_cons_cons, List.zip_nil_right, List.mem_cons, List.mem_nil_iff, or_false] at hy
    rcases hy with rfl | rfl | rfl | rfl | rfl | rfl | rfl | rfl | rfl | rfl | rfl | rfl | rfl | rfl | rfl | rfl | rfl
    · cases _e
    · cases _e
    · cases _e
    · cases _e
    · cases _e
    · cases _e
    · cases _e
    · cases _e
    · cases _e
    · cases _e
    · cases _e
    · cases _e
    · cases _e
    · cases _e
    · cases _e
    · cases _e
    · exact ⟨pin_laid_unicode_utf8_first, by kernel_rfl⟩) fits1
theorem fits2 : Tryz.pinned.checked.prog.listedFits [("math/bits.deBruijn32tab", Rows.laid_math_bits_deBruijn32tab), ("math/bits.deBruijn64tab", Rows.laid_math_bits_deBruijn64tab), ("internal/strconv.uint64pow10", Rows.laid_internal_strconv_uint64pow10), ("unicode/utf8.acceptRanges", Rows.laid_unicode_utf8_acceptRanges), ("keyholder/api.ErrText", Rows.laid_keyholder_api_ErrText), ("keyholder/api.ErrBound", Rows.laid_keyholder_api_ErrBound), ("keyholder/api.ErrShape", Rows.laid_keyholder_api_ErrShape), ("keyholder/api.ErrName", Rows.laid_keyholder_api_ErrName), ("keyholder/api.ErrNone", Rows.laid_keyholder_api_ErrNone), ("keyholder/api.ErrFull", Rows.laid_keyholder_api_ErrFull), ("keyholder/api.ErrOrder", Rows.laid_keyholder_api_ErrOrder), ("keyholder/api.ErrMark", Rows.laid_keyholder_api_ErrMark), ("keyholder/api.ErrKey", Rows.laid_keyholder_api_ErrKey), ("keyholder/api.ErrLate", Rows.laid_keyholder_api_ErrLate), ("keyholder/api.ErrGap", Rows.laid_keyholder_api_ErrGap), ("strconv.ErrRange", Rows.laid_strconv_ErrRange), ("strconv.ErrSyntax", Rows.laid_strconv_ErrSyntax), ("unicode/utf8.first", Rows.laid_unicode_utf8_first)] = true := by
  unfold Program.listedFits
  rw [noOwnUnsafe]
  kernel_rfl
theorem tie2 : Tryz.prog.laidByTextLater [("math/bits.deBruijn32tab", Rows.laid_math_bits_deBruijn32tab), ("math/bits.deBruijn64tab", Rows.laid_math_bits_deBruijn64tab), ("internal/strconv.uint64pow10", Rows.laid_internal_strconv_uint64pow10), ("unicode/utf8.acceptRanges", Rows.laid_unicode_utf8_acceptRanges), ("keyholder/api.ErrText", Rows.laid_keyholder_api_ErrText), ("keyholder/api.ErrBound", Rows.laid_keyholder_api_ErrBound), ("keyholder/api.ErrShape", Rows.laid_keyholder_api_ErrShape), ("keyholder/api.ErrName", Rows.laid_keyholder_api_ErrName), ("keyholder/api.ErrNone", Rows.laid_keyholder_api_ErrNone), ("keyholder/api.ErrFull", Rows.laid_keyholder_api_ErrFull), ("keyholder/api.ErrOrder", Rows.laid_keyholder_api_ErrOrder), ("keyholder/api.ErrMark", Rows.laid_keyholder_api_ErrMark), ("keyholder/api.ErrKey", Rows.laid_keyholder_api_ErrKey), ("keyholder/api.ErrLate", Rows.laid_keyholder_api_ErrLate), ("keyholder/api.ErrGap", Rows.laid_keyholder_api_ErrGap), ("strconv.ErrRange", Rows.laid_strconv_ErrRange), ("strconv.ErrSyntax", Rows.laid_strconv_ErrSyntax)] [.data, .data, .data, .data, .sentinel, .sentinel, .sentinel, .sentinel, .sentinel, .sentinel, .sentinel, .sentinel, .sentinel, .sentinel, .sentinel, .sentinel, .sentinel] true :=
  Program.laidByTextLater.sub seatTie1 ["math/bits.deBruijn32tab", "math/bits.deBruijn64tab", "internal/strconv.uint64pow10", "unicode/utf8.acceptRanges", "keyholder/api.ErrText", "keyholder/api.ErrBound", "keyholder/api.ErrShape", "keyholder/api.ErrName", "keyholder/api.ErrNone", "keyholder/api.ErrFull", "keyholder/api.ErrOrder", "keyholder/api.ErrMark", "keyholder/api.ErrKey", "keyholder/api.ErrLate", "keyholder/api.ErrGap", "strconv.ErrRange", "strconv.ErrSyntax"] (by kernel_rfl) (by kernel_rfl)
theorem relayAll_row_tie : Rows.relayAllRow.laidByTextAt .later Tryz.pinned [.data, .data, .data, .data, .sentinel, .sentinel, .sentinel, .sentinel, .sentinel, .sentinel, .sentinel, .sentinel, .sentinel, .sentinel, .sentinel, .sentinel, .sentinel, .pinned] true :=
  OpenClaim.laidByTextAt_pinned rfl rfl tie2 rfl rfl rfl rfl (fun y hy _e => by
    simp only [Rows.relayAllRow, List.zip_cons_cons, List.zip_nil_right, List.mem_cons, List.mem_nil_iff, or_false] at hy
    rcases hy with rfl | rfl | rfl | rfl | rfl | rfl | rfl | rfl | rfl | rfl | rfl | rfl | rfl | rfl | rfl | rfl | rfl | rfl
    · cases _e
    · cases _e
    · cases _e
    · cases _e
    · cases _e
    · cases _e
    · cases _e
    · cases _e
    · cases _e
    · cases _e
    · cases _e
    · cases _e
    · cases _e
    · cases _e
    · cases _e
    · cases _e
    · cases _e
    · exact ⟨pin_laid_unicode_utf8_first, by kernel_rfl⟩) fits2
theorem followSameUpto_row_tie : Rows.followSameUptoRow.laidByTextAt .later Tryz.pinned [.data, .data, .data, .data, .sentinel, .sentinel, .sentinel, .sentinel, .sentinel, .sentinel, .sentinel, .sentinel, .sentinel, .sentinel, .sentinel, .sentinel, .pinned] true :=
  OpenClaim.laidByTextAt_pinned rfl rfl tie rfl rfl rfl rfl (fun y hy _e => by
    simp only [Rows.followSameUptoRow, List.zip_cons_cons, List.zip_nil_right, List.mem_cons, List.mem_nil_iff, or_false] at hy
    rcases hy with rfl | rfl | rfl | rfl | rfl | rfl | rfl | rfl | rfl | rfl | rfl | rfl | rfl | rfl | rfl | rfl | rfl
    · cases _e
    · cases _e
    · cases _e
    · cases _e
    · cases _e
    · cases _e
    · cases _e
    · cases _e
    · cases _e
    · cases _e
    · cases _e
    · cases _e
    · cases _e
    · cases _e
    · cases _e
    · cases _e
    · exact ⟨pin_laid_unicode_utf8_first, by kernel_rfl⟩) fits1
theorem followRisesUpto_row_tie : Rows.followRisesUptoRow.laidByTextAt .later Tryz.pinned [.data, .data, .data, .data, .sentinel, .sentinel, .sentinel, .sentinel, .sentinel, .sentinel, .sentinel, .sentinel, .sentinel, .sentinel, .sentinel, .sentinel, .pinned] true :=
  OpenClaim.laidByTextAt_pinned rfl rfl tie rfl rfl rfl rfl (fun y hy _e => by
    simp only [Rows.followRisesUptoRow, List.zip_cons_cons, List.zip_nil_right, List.mem_cons, List.mem_nil_iff, or_false] at hy
    rcases hy with rfl | rfl | rfl | rfl | rfl | rfl | rfl | rfl | rfl | rfl | rfl | rfl | rfl | rfl | rfl | rfl | rfl
    · cases _e
    · cases _e
    · cases _e
    · cases _e
    · cases _e
    · cases _e
    · cases _e
    · cases _e
    · cases _e
    · cases _e
    · cases _e
    · cases _e
    · cases _e
    · cases _e
    · cases _e
    · cases _e
    · exact ⟨pin_laid_unicode_utf8_first, by kernel_rfl⟩) fits1
theorem relayAllUpto_row_tie : Rows.relayAllUptoRow.laidByTextAt .later Tryz.pinned [.data, .data, .data, .data, .sentinel, .sentinel, .sentinel, .sentinel, .sentinel, .sentinel, .sentinel, .sentinel, .sentinel, .sentinel, .sentinel, .sentinel, .sentinel, .pinned] true :=
  OpenClaim.laidByTextAt_pinned rfl rfl tie2 rfl rfl rfl rfl (fun y hy _e => by
    simp only [Rows.relayAllUptoRow, List.zip_cons_cons, List.zip_nil_right, List.mem_cons, List.mem_nil_iff, or_false] at hy
    rcases hy with rfl | rfl | rfl | rfl | rfl | rfl | rfl | rfl | rfl | rfl | rfl | rfl | rfl | rfl | rfl | rfl | rfl | rfl
    · cases _e
    · cases _e
    · cases _e
    · cases _e
    · cases _e
    · cases _e
    · cases _e
    · cases _e
    · cases _e
    · cases _e
    · cases _e
    · cases _e
    · cases _e
    · cases _e
    · cases _e
    · cases _e
    · cases _e
    · exact ⟨pin_laid_unicode_utf8_first, by kernel_rfl⟩) fits2
end Go.Proofs.YtpkcndohjmpdeaaGreatDoor
