/-
  DERIVED. GIVEN WITH THE SEED: THE CARDS: each row of YthbaicdohjbeeaaGreatDoorRows.lean that lists a variable, with what it lists TIED to the program's text (the seventh form; the later family's looks); each row that meets fmt, with fmt's text TOLD by the authors' own Lean function (tested against real Go, not proved from fmt's source: count such statements apart). THE CARD IS WHAT COUNTS. Prove the row's statement (the work); the ties are given (YthbaicdohjbeeaaGreatDoorTie.lean); close each card by the builder's one call (the guide's Derived/Test/ToyasCard.lean, 'card_holds'). Laid BY PROGRAM, IN A SANDBOX (cutbox-door.mjs). By AI agents, Wed Nov 11 2026. No macro, syntax, notation, axiom, sorry.
-/
import Derived.Test.YthbaicdohjbeeaaGreatDoorRows
import GoSem.ClaimSeven
namespace Go.Proofs.YthbaicdohjbeeaaGreatDoor
namespace Rows

/-- THE TIED CARD OF 'keyholderlaw2.FeedHeads'. -/
def feedHeadsCard : Claim7 := { stood := { row := feedHeadsRow, standIns := [], harness := (true, "0916962aff31adfe998b7977acd49c26c7f6cc0629ffad53ce098e4d7e2750fe"), looks := true }, kinds := [], alts := [], laidByText := true, laidKinds := [.data, .data, .data, .data, .sentinel, .sentinel, .sentinel, .sentinel, .sentinel, .sentinel, .sentinel, .sentinel, .sentinel, .sentinel, .sentinel, .pinned], laidTests := true, laidLooks := .later }
def FeedHeadsCardSaid : Prop := Claim7.holds Tryz.pinned (.plain (OpenSpec.ofChange feedHeadsSpec)) feedHeadsCard

/-- THE SECOND FORM's CARD OF 'keyholderlaw2.FeedHeads'. -/
def feedHeadsUptoCard : Claim7 := { stood := { row := feedHeadsUptoRow, standIns := [], harness := (true, "0916962aff31adfe998b7977acd49c26c7f6cc0629ffad53ce098e4d7e2750fe"), looks := true }, kinds := [], alts := [], laidByText := true, laidKinds := [.data, .data, .data, .data, .sentinel, .sentinel, .sentinel, .sentinel, .sentinel, .sentinel, .sentinel, .sentinel, .sentinel, .sentinel, .sentinel, .pinned], laidTests := true, laidLooks := .later }
def FeedHeadsUptoCardSaid : Prop := Claim7.holds Tryz.pinned (.plain (OpenSpec.upto feedHeadsSpec)) feedHeadsUptoCard
end Rows
end Go.Proofs.YthbaicdohjbeeaaGreatDoor
