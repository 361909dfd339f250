/-
  DERIVED. GIVEN WITH THE SEED: THE CARDS: each row of YtpkcndohjmpdeaaGreatDoorRows.lean that lists a variable, with what it lists TIED to the program's text (the seventh form; the later family's looks); each row that meets fmt, with fmt's text TOLD by the authors' own Lean function (tested against real Go, not proved from fmt's source: count such statements apart). THE CARD IS WHAT COUNTS. Prove the row's statement (the work); the ties are given (YtpkcndohjmpdeaaGreatDoorTie.lean); close each card by the builder's one call (the guide's Derived/Test/ToyasCard.lean, 'card_holds'). Laid BY PROGRAM, IN A SANDBOX (cutbox-door.mjs). By AI agents, Wed Nov 11 2026. No macro, syntax, notation, axiom, sorry.
-/
import Derived.Test.YtpkcndohjmpdeaaGreatDoorRows
import GoSem.ClaimSeven
namespace Go.Proofs.YtpkcndohjmpdeaaGreatDoor
namespace Rows

/-- THE TIED CARD OF 'keyholderlaw2.FollowSame'. -/
def followSameCard : Claim7 := { stood := { row := followSameRow, standIns := [], harness := (true, "c28490f0d4e7480eb1850800055b080b57163b1b108b5debadf6f49128523435"), looks := true }, kinds := [], alts := [], laidByText := true, laidKinds := [.data, .data, .data, .data, .sentinel, .sentinel, .sentinel, .sentinel, .sentinel, .sentinel, .sentinel, .sentinel, .sentinel, .sentinel, .sentinel, .sentinel, .pinned], laidTests := true, laidLooks := .later }
def FollowSameCardSaid : Prop := Claim7.holds Tryz.pinned (.plain (OpenSpec.ofChange followSameSpec)) followSameCard

/-- THE TIED CARD OF 'keyholderlaw2.FollowRises'. -/
def followRisesCard : Claim7 := { stood := { row := followRisesRow, standIns := [], harness := (true, "c28490f0d4e7480eb1850800055b080b57163b1b108b5debadf6f49128523435"), looks := true }, kinds := [], alts := [], laidByText := true, laidKinds := [.data, .data, .data, .data, .sentinel, .sentinel, .sentinel, .sentinel, .sentinel, .sentinel, .sentinel, .sentinel, .sentinel, .sentinel, .sentinel, .sentinel, .pinned], laidTests := true, laidLooks := .later }
def FollowRisesCardSaid : Prop := Claim7.holds Tryz.pinned (.plain (OpenSpec.ofChange followRisesSpec)) followRisesCard

/-- THE TIED CARD OF 'keyholderlaw2.RelayAll'. -/
def relayAllCard : Claim7 := { stood := { row := relayAllRow, standIns := [], harness := (true, "c28490f0d4e7480eb1850800055b080b57163b1b108b5debadf6f49128523435"), looks := true }, kinds := [], alts := [], laidByText := true, laidKinds := [.data, .data, .data, .data, .sentinel, .sentinel, .sentinel, .sentinel, .sentinel, .sentinel, .sentinel, .sentinel, .sentinel, .sentinel, .sentinel, .sentinel, .sentinel, .pinned], laidTests := true, laidLooks := .later }
def RelayAllCardSaid : Prop := Claim7.holds Tryz.pinned (.plain (OpenSpec.ofChange relayAllSpec)) relayAllCard

/-- THE SECOND FORM's CARD OF 'keyholderlaw2.FollowSame'. -/
def followSameUptoCard : Claim7 := { stood := { row := followSameUptoRow, standIns := [], harness := (true, "c28490f0d4e7480eb1850800055b080b57163b1b108b5debadf6f49128523435"), looks := true }, kinds := [], alts := [], laidByText := true, laidKinds := [.data, .data, .data, .data, .sentinel, .sentinel, .sentinel, .sentinel, .sentinel, .sentinel, .sentinel, .sentinel, .sentinel, .sentinel, .sentinel, .sentinel, .pinned], laidTests := true, laidLooks := .later }
def FollowSameUptoCardSaid : Prop := Claim7.holds Tryz.pinned (.plain (OpenSpec.upto followSameSpec)) followSameUptoCard

/-- THE SECOND FORM's CARD OF 'keyholderlaw2.FollowRises'. -/
def followRisesUptoCard : Claim7 := { stood := { row := followRisesUptoRow, standIns := [], harness := (true, "c28490f0d4e7480eb1850800055b080b57163b1b108b5debadf6f49128523435"), looks := true }, kinds := [], alts := [], laidByText := true, laidKinds := [.data, .data, .data, .data, .sentinel, .sentinel, .sentinel, .sentinel, .sentinel, .sentinel, .sentinel, .sentinel, .sentinel, .sentinel, .sentinel, .sentinel, .pinned], laidTests := true, laidLooks := .later }
def FollowRisesUptoCardSaid : Prop := Claim7.holds Tryz.pinned (.plain (OpenSpec.upto followRisesSpec)) followRisesUptoCard

/-- THE SECOND FORM's CARD OF 'keyholderlaw2.RelayAll'. -/
def relayAllUptoCard : Claim7 := { stood := { row := relayAllUptoRow, standIns := [], harness := (true, "c28490f0d4e7480eb1850800055b080b57163b1b108b5debadf6f49128523435"), looks := true }, kinds := [], alts := [], laidByText := true, laidKinds := [.data, .data, .data, .data, .sentinel, .sentinel, .sentinel, .sentinel, .sentinel, .sentinel, .sentinel, .sentinel, .sentinel, .sentinel, .sentinel, .sentinel, .sentinel, .pinned], laidTests := true, laidLooks := .later }
def RelayAllUptoCardSaid : Prop := Claim7.holds Tryz.pinned (.plain (OpenSpec.upto relayAllSpec)) relayAllUptoCard
end Rows
end Go.Proofs.YtpkcndohjmpdeaaGreatDoor
