/-
  NARROWER THAN 'FOR EVERY INPUT', by the rows' own cells (each row's printed sentence says how): SessionActs: laid.
  DERIVED. THE GIVEN ROWS OF THIS SEAT. 1 by the template 'for every input the law returns true; each argument reads behind the call as it read before'; 0 by the template 'total and deterministic' (their statements: YtlcomdbkkfbjiaaGreatDoorTotals.lean).
  GIVEN WITH THE SEED: the statements are not yours to turn. If you find one false, say at which input.
  Laid BY PROGRAM, IN A SANDBOX (cutbox-rows.mjs): the forced cells as the released guide's own fill.sh prints them over the translation 26ba3a1c5d740537… (all of the seat's roots in one cut). By AI agents, Wed Nov 11 2026. No macro, syntax, notation, axiom, sorry.
-/
import Derived.Test.YtlcomdbkkfbjiaaGreatDoorChecked
import GoSem.PinnedTables
import GoSem.Claim
import GoSem.ClaimJoined
import GoSem.ClaimMapViews
import Derived.JoinedTies
import Derived.KernelRfl
namespace Go.Proofs.YtlcomdbkkfbjiaaGreatDoor
/- THE CELL 'sum', in the pinned program and in every row, IS THE sha256 OF THE DUMP (.gsa) THAT YtlcomdbkkfbjiaaGreatDoorProg.lean LOADS. Nothing in Lean hashes anything: it is a label: what it is worth is what the hold of that sum in a sandbox is worth. -/
noncomputable def Tryz.pinned : Pinned := { name := "ytlcomdbkkfbjiaagreatdoor", sum := "26ba3a1c5d740537d4295e306c12c46c47899c929d2e1d9c676a340334400614", checked := Tryz.checked }
namespace Rows
def none {H : Type} : Left H := { results := [], args := [] }

/- WHAT THE LISTED PACKAGE-LEVEL VARIABLES READ AS WHEN THE CALL BEGINS. Each datum BY PROGRAM (the guide's laid-datum.mjs) off the statement by which the dump's own 'gosem.cut.vars' lays the variable. In a bare row this is a premise. The card (YtlcomdbkkfbjiaaGreatDoorCards.lean) ties it to the program's text. -/
def laid_unicode_utf8_acceptRanges {H : Type} : DataW H := .agg [.agg [.lit (.int .u8 128), .lit (.int .u8 191)], .agg [.lit (.int .u8 160), .lit (.int .u8 191)], .agg [.lit (.int .u8 128), .lit (.int .u8 159)], .agg [.lit (.int .u8 144), .lit (.int .u8 191)], .agg [.lit (.int .u8 128), .lit (.int .u8 143)], .agg [.lit (.int .u8 0), .lit (.int .u8 0)], .agg [.lit (.int .u8 0), .lit (.int .u8 0)], .agg [.lit (.int .u8 0), .lit (.int .u8 0)], .agg [.lit (.int .u8 0), .lit (.int .u8 0)], .agg [.lit (.int .u8 0), .lit (.int .u8 0)], .agg [.lit (.int .u8 0), .lit (.int .u8 0)], .agg [.lit (.int .u8 0), .lit (.int .u8 0)], .agg [.lit (.int .u8 0), .lit (.int .u8 0)], .agg [.lit (.int .u8 0), .lit (.int .u8 0)], .agg [.lit (.int .u8 0), .lit (.int .u8 0)], .agg [.lit (.int .u8 0), .lit (.int .u8 0)]]
def laid_errors_errorType {H : Type} : DataW H := .iface "internal/reflectlite.rtype" (.agg [.ptr (.lit (.string [101, 114, 114, 111, 114]))])
def laid_keyholder_api_ErrText {H : Type} : DataW H := .iface "*errors.errorString" (.ptr (.agg [.lit (.string [107, 101, 121, 104, 111, 108, 100, 101, 114, 58, 32, 116, 101, 120, 116])]))
def laid_keyholder_api_ErrBound {H : Type} : DataW H := .iface "*errors.errorString" (.ptr (.agg [.lit (.string [107, 101, 121, 104, 111, 108, 100, 101, 114, 58, 32, 98, 111, 117, 110, 100])]))
def laid_keyholder_api_ErrShape {H : Type} : DataW H := .iface "*errors.errorString" (.ptr (.agg [.lit (.string [107, 101, 121, 104, 111, 108, 100, 101, 114, 58, 32, 115, 104, 97, 112, 101])]))
def laid_keyholder_api_ErrName {H : Type} : DataW H := .iface "*errors.errorString" (.ptr (.agg [.lit (.string [107, 101, 121, 104, 111, 108, 100, 101, 114, 58, 32, 110, 97, 109, 101])]))
def laid_keyholder_api_ErrNone {H : Type} : DataW H := .iface "*errors.errorString" (.ptr (.agg [.lit (.string [107, 101, 121, 104, 111, 108, 100, 101, 114, 58, 32, 110, 111, 110, 101])]))
def laid_keyholder_api_ErrExist {H : Type} : DataW H := .iface "*errors.errorString" (.ptr (.agg [.lit (.string [107, 101, 121, 104, 111, 108, 100, 101, 114, 58, 32, 101, 120, 105, 115, 116])]))
def laid_keyholder_api_ErrFull {H : Type} : DataW H := .iface "*errors.errorString" (.ptr (.agg [.lit (.string [107, 101, 121, 104, 111, 108, 100, 101, 114, 58, 32, 102, 117, 108, 108])]))
def laid_keyholder_api_ErrOrder {H : Type} : DataW H := .iface "*errors.errorString" (.ptr (.agg [.lit (.string [107, 101, 121, 104, 111, 108, 100, 101, 114, 58, 32, 111, 114, 100, 101, 114])]))
def laid_keyholder_api_ErrMark {H : Type} : DataW H := .iface "*errors.errorString" (.ptr (.agg [.lit (.string [107, 101, 121, 104, 111, 108, 100, 101, 114, 58, 32, 109, 97, 114, 107])]))
def laid_keyholder_api_ErrKey {H : Type} : DataW H := .iface "*errors.errorString" (.ptr (.agg [.lit (.string [107, 101, 121, 104, 111, 108, 100, 101, 114, 58, 32, 107, 101, 121])]))
def laid_keyholder_api_ErrEarly {H : Type} : DataW H := .iface "*errors.errorString" (.ptr (.agg [.lit (.string [107, 101, 121, 104, 111, 108, 100, 101, 114, 58, 32, 101, 97, 114, 108, 121])]))
def laid_keyholder_api_ErrLate {H : Type} : DataW H := .iface "*errors.errorString" (.ptr (.agg [.lit (.string [107, 101, 121, 104, 111, 108, 100, 101, 114, 58, 32, 108, 97, 116, 101])]))
def laid_keyholder_api_ErrFloor {H : Type} : DataW H := .iface "*errors.errorString" (.ptr (.agg [.lit (.string [107, 101, 121, 104, 111, 108, 100, 101, 114, 58, 32, 102, 108, 111, 111, 114])]))
def laid_keyholder_api_ErrStale {H : Type} : DataW H := .iface "*errors.errorString" (.ptr (.agg [.lit (.string [107, 101, 121, 104, 111, 108, 100, 101, 114, 58, 32, 115, 116, 97, 108, 101])]))
def laid_keyholder_api_ErrGap {H : Type} : DataW H := .iface "*errors.errorString" (.ptr (.agg [.lit (.string [107, 101, 121, 104, 111, 108, 100, 101, 114, 58, 32, 103, 97, 112])]))
def laid_keyholder_api_ErrOff {H : Type} : DataW H := .iface "*errors.errorString" (.ptr (.agg [.lit (.string [107, 101, 121, 104, 111, 108, 100, 101, 114, 58, 32, 111, 102, 102])]))
/-- One of Go's own tables, pinned by name: the form's constant. -/
def laid_unicode_utf8_first : DataW Unit := Go.Pinned.utf8First

/-- 'keyholderlaw3.SessionActs': WHATEVER THE INPUT: true; the input reads as it did. -/
def sessionActsSpec : ChangeSpec := { name := "sessionActs", fn := fun _ => fun
  | [d] => { results := [.lit (.bool true)], args := [d] }
  | _ => none }
def sessionActsRow : OpenClaim := { program := "ytlcomdbkkfbjiaagreatdoor", sum := "26ba3a1c5d740537d4295e306c12c46c47899c929d2e1d9c676a340334400614", func := "keyholder/keyholderlaw3.SessionActs", spec := "sessionActs", inPlace := ["internal/bytealg.IndexByteString", "internal/bytealg.IndexString", "internal/reflectlite.ValueOf", "(internal/reflectlite.Value).Type", "(internal/reflectlite.Value).IsNil", "internal/reflectlite.TypeOf", "(internal/reflectlite.Value).Elem", "(internal/reflectlite.Value).Set", "maps.clone"], unfollowed := true, recurses := true, named := ["keyholder/api.ErrFull", "keyholder/api.ErrBound", "keyholder/api.ErrEarly", "keyholder/api.ErrLate", "keyholder/api.ErrName", "unicode/utf8.first", "unicode/utf8.acceptRanges", "keyholder/api.ErrOrder", "keyholder/api.ErrShape", "keyholder/api.ErrText", "keyholder/api.ErrNone", "keyholder/api.ErrExist", "keyholder/api.ErrMark", "keyholder/api.ErrKey", "keyholder/api.ErrFloor", "keyholder/api.ErrStale", "keyholder/api.ErrGap", "keyholder/api.ErrOff", "errors.errorType", "internal/bytealg.MaxLen"], apart := false, laid := [("unicode/utf8.acceptRanges", laid_unicode_utf8_acceptRanges), ("errors.errorType", laid_errors_errorType), ("keyholder/api.ErrText", laid_keyholder_api_ErrText), ("keyholder/api.ErrBound", laid_keyholder_api_ErrBound), ("keyholder/api.ErrShape", laid_keyholder_api_ErrShape), ("keyholder/api.ErrName", laid_keyholder_api_ErrName), ("keyholder/api.ErrNone", laid_keyholder_api_ErrNone), ("keyholder/api.ErrExist", laid_keyholder_api_ErrExist), ("keyholder/api.ErrFull", laid_keyholder_api_ErrFull), ("keyholder/api.ErrOrder", laid_keyholder_api_ErrOrder), ("keyholder/api.ErrMark", laid_keyholder_api_ErrMark), ("keyholder/api.ErrKey", laid_keyholder_api_ErrKey), ("keyholder/api.ErrEarly", laid_keyholder_api_ErrEarly), ("keyholder/api.ErrLate", laid_keyholder_api_ErrLate), ("keyholder/api.ErrFloor", laid_keyholder_api_ErrFloor), ("keyholder/api.ErrStale", laid_keyholder_api_ErrStale), ("keyholder/api.ErrGap", laid_keyholder_api_ErrGap), ("keyholder/api.ErrOff", laid_keyholder_api_ErrOff), ("unicode/utf8.first", laid_unicode_utf8_first)] }
def SessionActsSaid : Prop := sessionActsRow.holds Tryz.pinned (OpenSpec.ofChange sessionActsSpec)

/-- ITS FALSE NEIGHBOUR: 'it returns false'. Refute it at one input. -/
def sessionActsWrong : ChangeSpec := { name := "sessionActs", fn := fun _ => fun
  | [d] => { results := [.lit (.bool false)], args := [d] }
  | _ => none }
def SessionActsWrongFalsely : Prop := sessionActsRow.holds Tryz.pinned (OpenSpec.ofChange sessionActsWrong)

/- THE SECOND FORM. 'bulk': how many values and letters a reading holds, each counted each time it is reached (what is shared counts as often as it is met; a slice's spare places count too). A statement '..UptoSaid' is the law's where the arguments, and the package variables that the reading takes, are together of bulk at most 1048576: NARROWER than '..Said'. Prove '..Said' where nothing that the law and all that it calls make is longer than what came in: it says more and counts as full. Else prove '..UptoSaid'. A law counts once. -/
mutual
def uptoBulk {H : Type} : DataW H → Nat
  | .lit (.string bytes) => bytes.length + 1
  | .lit _ => 1
  | .nil => 1
  | .ptr d => uptoBulk d + 1
  | .slice elems spare => uptoBulkAll elems + uptoBulkAll spare + 1
  | .agg parts => uptoBulkAll parts + 1
  | .iface _ d => uptoBulk d + 1
  | .map entries => uptoBulkEntries entries + 1
  | .held _ => 1
def uptoBulkAll {H : Type} : List (DataW H) → Nat
  | [] => 0
  | d :: r => uptoBulk d + uptoBulkAll r
def uptoBulkEntries {H : Type} : List (Lit × DataW H) → Nat
  | [] => 0
  | x :: r => uptoBulkEntry x + uptoBulkEntries r
def uptoBulkEntry {H : Type} : Lit × DataW H → Nat
  | (.string bytes, d) => bytes.length + uptoBulk d + 1
  | (_, d) => uptoBulk d + 1
 end
def uptoSmall : (H : Type) → List (DataW H) → Bool := fun _ ds => decide (uptoBulkAll ds ≤ 1048576)
def OpenSpec.upto (s : _root_.Go.ChangeSpec) : _root_.Go.OpenSpec := { _root_.Go.OpenSpec.ofChange s with cond := some uptoSmall }

/-- 'keyholderlaw3.SessionActs', WHERE WHAT IT READS IS OF BULK AT MOST 1048576: true; the input reads as it did. -/
def sessionActsUptoRow : OpenClaim := { program := "ytlcomdbkkfbjiaagreatdoor", sum := "26ba3a1c5d740537d4295e306c12c46c47899c929d2e1d9c676a340334400614", func := "keyholder/keyholderlaw3.SessionActs", spec := "sessionActs", inPlace := ["internal/bytealg.IndexByteString", "internal/bytealg.IndexString", "internal/reflectlite.ValueOf", "(internal/reflectlite.Value).Type", "(internal/reflectlite.Value).IsNil", "internal/reflectlite.TypeOf", "(internal/reflectlite.Value).Elem", "(internal/reflectlite.Value).Set", "maps.clone"], unfollowed := true, recurses := true, named := ["keyholder/api.ErrFull", "keyholder/api.ErrBound", "keyholder/api.ErrEarly", "keyholder/api.ErrLate", "keyholder/api.ErrName", "unicode/utf8.first", "unicode/utf8.acceptRanges", "keyholder/api.ErrOrder", "keyholder/api.ErrShape", "keyholder/api.ErrText", "keyholder/api.ErrNone", "keyholder/api.ErrExist", "keyholder/api.ErrMark", "keyholder/api.ErrKey", "keyholder/api.ErrFloor", "keyholder/api.ErrStale", "keyholder/api.ErrGap", "keyholder/api.ErrOff", "errors.errorType", "internal/bytealg.MaxLen"], apart := false, laid := [("unicode/utf8.acceptRanges", laid_unicode_utf8_acceptRanges), ("errors.errorType", laid_errors_errorType), ("keyholder/api.ErrText", laid_keyholder_api_ErrText), ("keyholder/api.ErrBound", laid_keyholder_api_ErrBound), ("keyholder/api.ErrShape", laid_keyholder_api_ErrShape), ("keyholder/api.ErrName", laid_keyholder_api_ErrName), ("keyholder/api.ErrNone", laid_keyholder_api_ErrNone), ("keyholder/api.ErrExist", laid_keyholder_api_ErrExist), ("keyholder/api.ErrFull", laid_keyholder_api_ErrFull), ("keyholder/api.ErrOrder", laid_keyholder_api_ErrOrder), ("keyholder/api.ErrMark", laid_keyholder_api_ErrMark), ("keyholder/api.ErrKey", laid_keyholder_api_ErrKey), ("keyholder/api.ErrEarly", laid_keyholder_api_ErrEarly), ("keyholder/api.ErrLate", laid_keyholder_api_ErrLate), ("keyholder/api.ErrFloor", laid_keyholder_api_ErrFloor), ("keyholder/api.ErrStale", laid_keyholder_api_ErrStale), ("keyholder/api.ErrGap", laid_keyholder_api_ErrGap), ("keyholder/api.ErrOff", laid_keyholder_api_ErrOff), ("unicode/utf8.first", laid_unicode_utf8_first)], narrowed := true }
def SessionActsUptoSaid : Prop := sessionActsUptoRow.holds Tryz.pinned (OpenSpec.upto sessionActsSpec)

end Rows
end Go.Proofs.YtlcomdbkkfbjiaaGreatDoor
