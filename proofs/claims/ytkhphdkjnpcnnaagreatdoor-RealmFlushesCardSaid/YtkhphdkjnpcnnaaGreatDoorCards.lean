/-
  DERIVED. GIVEN WITH THE SEED: THE CARDS: each row of YtkhphdkjnpcnnaaGreatDoorRows.lean that lists a variable, with what it lists TIED to the program's text (the seventh form; the later family's looks); each row that meets fmt, with fmt's text TOLD by the authors' own Lean function (tested against real Go, not proved from fmt's source: count such statements apart). THE CARD IS WHAT COUNTS. Prove the row's statement (the work); the ties are given (YtkhphdkjnpcnnaaGreatDoorTie.lean); close each card by the builder's one call (the guide's Derived/Test/ToyasCard.lean, 'card_holds'). Laid BY PROGRAM, IN A SANDBOX (cutbox-door.mjs). By AI agents, Wed Nov 11 2026. No macro, syntax, notation, axiom, sorry.
-/
import Derived.Test.YtkhphdkjnpcnnaaGreatDoorRows
import GoSem.ClaimSeven
namespace Go.Proofs.YtkhphdkjnpcnnaaGreatDoor
namespace Rows

/-- THE TIED CARD OF 'keyholderlaw3.RealmRevokes'. -/
def realmRevokesCard : Claim7 := { stood := { row := realmRevokesRow, standIns := [], harness := (true, "be1907732d94a614db225f8cd743f10cf4e55765128c8cd4b24c615ba7c7c055"), looks := true }, kinds := [], alts := [], laidByText := true, laidKinds := [.data, .data, .data, .data, .handle, .sentinel, .sentinel, .sentinel, .sentinel, .sentinel, .sentinel, .sentinel, .sentinel, .sentinel, .sentinel, .sentinel, .sentinel, .sentinel, .sentinel, .sentinel, .sentinel, .sentinel, .sentinel, .pinned], laidTests := true, laidLooks := .later }
def RealmRevokesCardSaid : Prop := Claim7.holds Tryz.pinned (.plain (OpenSpec.ofChange realmRevokesSpec)) realmRevokesCard

/-- THE TIED CARD OF 'keyholderlaw3.RealmFlushes'. -/
def realmFlushesCard : Claim7 := { stood := { row := realmFlushesRow, standIns := [], harness := (true, "be1907732d94a614db225f8cd743f10cf4e55765128c8cd4b24c615ba7c7c055"), looks := true }, kinds := [], alts := [], laidByText := true, laidKinds := [.data, .data, .data, .data, .handle, .sentinel, .sentinel, .sentinel, .sentinel, .sentinel, .sentinel, .sentinel, .sentinel, .sentinel, .sentinel, .sentinel, .sentinel, .sentinel, .sentinel, .sentinel, .sentinel, .sentinel, .sentinel, .pinned], laidTests := true, laidLooks := .later }
def RealmFlushesCardSaid : Prop := Claim7.holds Tryz.pinned (.plain (OpenSpec.ofChange realmFlushesSpec)) realmFlushesCard

/-- THE TIED CARD OF 'keyholderlaw3.RealmActs'. -/
def realmActsCard : Claim7 := { stood := { row := realmActsRow, standIns := [], harness := (true, "be1907732d94a614db225f8cd743f10cf4e55765128c8cd4b24c615ba7c7c055"), looks := true }, kinds := [], alts := [], laidByText := true, laidKinds := [.data, .data, .data, .data, .handle, .sentinel, .sentinel, .sentinel, .sentinel, .sentinel, .sentinel, .sentinel, .sentinel, .sentinel, .sentinel, .sentinel, .sentinel, .sentinel, .sentinel, .sentinel, .sentinel, .sentinel, .sentinel, .pinned], laidTests := true, laidLooks := .later }
def RealmActsCardSaid : Prop := Claim7.holds Tryz.pinned (.plain (OpenSpec.ofChange realmActsSpec)) realmActsCard

/-- THE SECOND FORM's CARD OF 'keyholderlaw3.RealmRevokes'. -/
def realmRevokesUptoCard : Claim7 := { stood := { row := realmRevokesUptoRow, standIns := [], harness := (true, "be1907732d94a614db225f8cd743f10cf4e55765128c8cd4b24c615ba7c7c055"), looks := true }, kinds := [], alts := [], laidByText := true, laidKinds := [.data, .data, .data, .data, .handle, .sentinel, .sentinel, .sentinel, .sentinel, .sentinel, .sentinel, .sentinel, .sentinel, .sentinel, .sentinel, .sentinel, .sentinel, .sentinel, .sentinel, .sentinel, .sentinel, .sentinel, .sentinel, .pinned], laidTests := true, laidLooks := .later }
def RealmRevokesUptoCardSaid : Prop := Claim7.holds Tryz.pinned (.plain (OpenSpec.upto realmRevokesSpec)) realmRevokesUptoCard

/-- THE SECOND FORM's CARD OF 'keyholderlaw3.RealmFlushes'. -/
def realmFlushesUptoCard : Claim7 := { stood := { row := realmFlushesUptoRow, standIns := [], harness := (true, "be1907732d94a614db225f8cd743f10cf4e55765128c8cd4b24c615ba7c7c055"), looks := true }, kinds := [], alts := [], laidByText := true, laidKinds := [.data, .data, .data, .data, .handle, .sentinel, .sentinel, .sentinel, .sentinel, .sentinel, .sentinel, .sentinel, .sentinel, .sentinel, .sentinel, .sentinel, .sentinel, .sentinel, .sentinel, .sentinel, .sentinel, .sentinel, .sentinel, .pinned], laidTests := true, laidLooks := .later }
def RealmFlushesUptoCardSaid : Prop := Claim7.holds Tryz.pinned (.plain (OpenSpec.upto realmFlushesSpec)) realmFlushesUptoCard

/-- THE SECOND FORM's CARD OF 'keyholderlaw3.RealmActs'. -/
def realmActsUptoCard : Claim7 := { stood := { row := realmActsUptoRow, standIns := [], harness := (true, "be1907732d94a614db225f8cd743f10cf4e55765128c8cd4b24c615ba7c7c055"), looks := true }, kinds := [], alts := [], laidByText := true, laidKinds := [.data, .data, .data, .data, .handle, .sentinel, .sentinel, .sentinel, .sentinel, .sentinel, .sentinel, .sentinel, .sentinel, .sentinel, .sentinel, .sentinel, .sentinel, .sentinel, .sentinel, .sentinel, .sentinel, .sentinel, .sentinel, .pinned], laidTests := true, laidLooks := .later }
def RealmActsUptoCardSaid : Prop := Claim7.holds Tryz.pinned (.plain (OpenSpec.upto realmActsSpec)) realmActsUptoCard
end Rows
end Go.Proofs.YtkhphdkjnpcnnaaGreatDoor
