/-
  DERIVED. GIVEN WITH THE SEED: THE CARDS: each row of YtfbndfkahodheaaGreatDoorRows.lean that lists a variable, with what it lists TIED to the program's text (the seventh form; the later family's looks); each row that meets fmt, with fmt's text TOLD by the authors' own Lean function (tested against real Go, not proved from fmt's source: count such statements apart). THE CARD IS WHAT COUNTS. Prove the row's statement (the work); the ties are given (YtfbndfkahodheaaGreatDoorTie.lean); close each card by the builder's one call (the guide's Derived/Test/ToyasCard.lean, 'card_holds'). Laid BY PROGRAM, IN A SANDBOX (cutbox-door.mjs). By AI agents, Wed Nov 11 2026. No macro, syntax, notation, axiom, sorry.
-/
import Derived.Test.YtfbndfkahodheaaGreatDoorRows
import GoSem.ClaimSeven
namespace Go.Proofs.YtfbndfkahodheaaGreatDoor
namespace Rows

/-- THE TIED CARD OF 'keyholderlaw2.FeedTells'. -/
def feedTellsCard : Claim7 := { stood := { row := feedTellsRow, standIns := [], harness := (true, "6c8753a5f0225cadf4853794fbd42fa7799b88b1957a9c9c10c3a8ebbc362125"), looks := true }, kinds := [], alts := [], laidByText := true, laidKinds := [.data, .data, .data, .data, .handle, .sentinel, .sentinel, .sentinel, .sentinel, .sentinel, .sentinel, .sentinel, .sentinel, .sentinel, .sentinel, .sentinel, .sentinel, .sentinel, .sentinel, .sentinel, .sentinel, .sentinel, .sentinel, .pinned], laidTests := true, laidLooks := .later }
def FeedTellsCardSaid : Prop := Claim7.holds Tryz.pinned (.plain (OpenSpec.ofChange feedTellsSpec)) feedTellsCard

/-- THE TIED CARD OF 'keyholderlaw2.FollowActs'. -/
def followActsCard : Claim7 := { stood := { row := followActsRow, standIns := [], harness := (true, "6c8753a5f0225cadf4853794fbd42fa7799b88b1957a9c9c10c3a8ebbc362125"), looks := true }, kinds := [], alts := [], laidByText := true, laidKinds := [.data, .data, .data, .data, .handle, .sentinel, .sentinel, .sentinel, .sentinel, .sentinel, .sentinel, .sentinel, .sentinel, .sentinel, .sentinel, .sentinel, .sentinel, .sentinel, .sentinel, .sentinel, .sentinel, .sentinel, .sentinel, .pinned], laidTests := true, laidLooks := .later }
def FollowActsCardSaid : Prop := Claim7.holds Tryz.pinned (.plain (OpenSpec.ofChange followActsSpec)) followActsCard

/-- THE TIED CARD OF 'keyholderlaw2.RelayActs'. -/
def relayActsCard : Claim7 := { stood := { row := relayActsRow, standIns := [], harness := (true, "6c8753a5f0225cadf4853794fbd42fa7799b88b1957a9c9c10c3a8ebbc362125"), looks := true }, kinds := [], alts := [], laidByText := true, laidKinds := [.data, .data, .data, .data, .handle, .sentinel, .sentinel, .sentinel, .sentinel, .sentinel, .sentinel, .sentinel, .sentinel, .sentinel, .sentinel, .sentinel, .sentinel, .sentinel, .sentinel, .sentinel, .sentinel, .sentinel, .sentinel, .pinned], laidTests := true, laidLooks := .later }
def RelayActsCardSaid : Prop := Claim7.holds Tryz.pinned (.plain (OpenSpec.ofChange relayActsSpec)) relayActsCard

/-- THE SECOND FORM's CARD OF 'keyholderlaw2.FeedTells'. -/
def feedTellsUptoCard : Claim7 := { stood := { row := feedTellsUptoRow, standIns := [], harness := (true, "6c8753a5f0225cadf4853794fbd42fa7799b88b1957a9c9c10c3a8ebbc362125"), looks := true }, kinds := [], alts := [], laidByText := true, laidKinds := [.data, .data, .data, .data, .handle, .sentinel, .sentinel, .sentinel, .sentinel, .sentinel, .sentinel, .sentinel, .sentinel, .sentinel, .sentinel, .sentinel, .sentinel, .sentinel, .sentinel, .sentinel, .sentinel, .sentinel, .sentinel, .pinned], laidTests := true, laidLooks := .later }
def FeedTellsUptoCardSaid : Prop := Claim7.holds Tryz.pinned (.plain (OpenSpec.upto feedTellsSpec)) feedTellsUptoCard

/-- THE SECOND FORM's CARD OF 'keyholderlaw2.FollowActs'. -/
def followActsUptoCard : Claim7 := { stood := { row := followActsUptoRow, standIns := [], harness := (true, "6c8753a5f0225cadf4853794fbd42fa7799b88b1957a9c9c10c3a8ebbc362125"), looks := true }, kinds := [], alts := [], laidByText := true, laidKinds := [.data, .data, .data, .data, .handle, .sentinel, .sentinel, .sentinel, .sentinel, .sentinel, .sentinel, .sentinel, .sentinel, .sentinel, .sentinel, .sentinel, .sentinel, .sentinel, .sentinel, .sentinel, .sentinel, .sentinel, .sentinel, .pinned], laidTests := true, laidLooks := .later }
def FollowActsUptoCardSaid : Prop := Claim7.holds Tryz.pinned (.plain (OpenSpec.upto followActsSpec)) followActsUptoCard

/-- THE SECOND FORM's CARD OF 'keyholderlaw2.RelayActs'. -/
def relayActsUptoCard : Claim7 := { stood := { row := relayActsUptoRow, standIns := [], harness := (true, "6c8753a5f0225cadf4853794fbd42fa7799b88b1957a9c9c10c3a8ebbc362125"), looks := true }, kinds := [], alts := [], laidByText := true, laidKinds := [.data, .data, .data, .data, .handle, .sentinel, .sentinel, .sentinel, .sentinel, .sentinel, .sentinel, .sentinel, .sentinel, .sentinel, .sentinel, .sentinel, .sentinel, .sentinel, .sentinel, .sentinel, .sentinel, .sentinel, .sentinel, .pinned], laidTests := true, laidLooks := .later }
def RelayActsUptoCardSaid : Prop := Claim7.holds Tryz.pinned (.plain (OpenSpec.upto relayActsSpec)) relayActsUptoCard
end Rows
end Go.Proofs.YtfbndfkahodheaaGreatDoor
