/-
  DERIVED. GIVEN WITH THE SEED: THE CARDS: each row of YtphjjaanclpagaaDoorRows.lean that lists a variable, with what it lists TIED to the program's text (the seventh form; the later family's looks); each row that meets fmt, with fmt's text TOLD by the authors' own Lean function (tested against real Go, not proved from fmt's source: count such statements apart). THE CARD IS WHAT COUNTS. Prove the row's statement (the work); the ties are given (YtphjjaanclpagaaDoorTie.lean); close each card by the builder's one call (the guide's Derived/Test/ToyasCard.lean, 'card_holds'). Laid BY PROGRAM, IN A SANDBOX (cutbox-door.mjs). By AI agents, Wed Nov 11 2026. No macro, syntax, notation, axiom, sorry.
-/
import Derived.Test.YtphjjaanclpagaaDoorRows
import GoSem.ClaimSeven
namespace Go.Proofs.YtphjjaanclpagaaDoor
namespace Rows

/-- THE TIED CARD OF 'keyholderlaw3.SeenOnce'. -/
def seenOnceCard : Claim7 := { stood := { row := seenOnceRow, standIns := [], harness := (true, "29bcc391618e6d5ea6b9da681a414ccf832bc60670b47db1295113cc91b66c69"), looks := true }, kinds := [], alts := [], laidByText := true, laidKinds := [.data, .handle, .sentinel, .sentinel, .sentinel, .sentinel, .sentinel, .sentinel, .sentinel, .sentinel, .sentinel, .sentinel, .sentinel, .sentinel, .sentinel, .sentinel, .sentinel, .sentinel, .pinned], laidTests := true, laidLooks := .later }
def SeenOnceCardSaid : Prop := Claim7.holds Tryd.pinned (.plain (OpenSpec.ofChange seenOnceSpec)) seenOnceCard

/-- THE TIED CARD OF 'keyholderlaw2.FloorOrder'. -/
def floorOrderCard : Claim7 := { stood := { row := floorOrderRow, standIns := [], harness := (true, "29bcc391618e6d5ea6b9da681a414ccf832bc60670b47db1295113cc91b66c69"), looks := true }, kinds := [], alts := [], laidByText := true, laidKinds := [.data, .sentinel, .sentinel, .sentinel, .sentinel, .sentinel, .pinned], laidTests := true, laidLooks := .later }
def FloorOrderCardSaid : Prop := Claim7.holds Tryd.pinned (.plain (OpenSpec.ofChange floorOrderSpec)) floorOrderCard

/-- THE TIED CARD OF 'keyholderlaw3.TapeCuts'. -/
def tapeCutsCard : Claim7 := { stood := { row := tapeCutsRow, standIns := [], harness := (true, "29bcc391618e6d5ea6b9da681a414ccf832bc60670b47db1295113cc91b66c69"), looks := true }, kinds := [], alts := [], laidByText := true, laidKinds := [.data, .data, .data, .sentinel, .sentinel, .sentinel, .sentinel, .sentinel, .sentinel], laidTests := true, laidLooks := .later }
def TapeCutsCardSaid : Prop := Claim7.holds Tryd.pinned (.plain (OpenSpec.ofChange tapeCutsSpec)) tapeCutsCard

/-- THE TIED CARD OF 'keyholderlaw3.SessionSwept'. -/
def sessionSweptCard : Claim7 := { stood := { row := sessionSweptRow, standIns := [], harness := (true, "29bcc391618e6d5ea6b9da681a414ccf832bc60670b47db1295113cc91b66c69"), looks := true }, kinds := [], alts := [], laidByText := true, laidKinds := [.data, .sentinel, .sentinel, .sentinel, .sentinel, .sentinel, .sentinel, .sentinel, .sentinel, .pinned], laidTests := true, laidLooks := .later }
def SessionSweptCardSaid : Prop := Claim7.holds Tryd.pinned (.plain (OpenSpec.ofChange sessionSweptSpec)) sessionSweptCard

/-- THE TIED CARD OF 'keyholderlaw3.TapeActs'. -/
def tapeActsCard : Claim7 := { stood := { row := tapeActsRow, standIns := [], harness := (true, "29bcc391618e6d5ea6b9da681a414ccf832bc60670b47db1295113cc91b66c69"), looks := true }, kinds := [], alts := [], laidByText := true, laidKinds := [.data, .data, .data, .handle, .sentinel, .sentinel, .sentinel, .sentinel, .sentinel, .sentinel, .sentinel, .sentinel, .sentinel, .sentinel, .sentinel, .sentinel, .sentinel, .sentinel, .sentinel, .sentinel, .sentinel, .sentinel], laidTests := true, laidLooks := .later }
def TapeActsCardSaid : Prop := Claim7.holds Tryd.pinned (.plain (OpenSpec.ofChange tapeActsSpec)) tapeActsCard

/-- THE TIED CARD OF 'keyholderlaw3.SeenActs'. -/
def seenActsCard : Claim7 := { stood := { row := seenActsRow, standIns := [], harness := (true, "29bcc391618e6d5ea6b9da681a414ccf832bc60670b47db1295113cc91b66c69"), looks := true }, kinds := [], alts := [], laidByText := true, laidKinds := [.data, .handle, .sentinel, .sentinel, .sentinel, .sentinel, .sentinel, .sentinel, .sentinel, .sentinel, .sentinel, .sentinel, .sentinel, .sentinel, .sentinel, .sentinel, .sentinel, .sentinel, .pinned], laidTests := true, laidLooks := .later }
def SeenActsCardSaid : Prop := Claim7.holds Tryd.pinned (.plain (OpenSpec.ofChange seenActsSpec)) seenActsCard

/-- THE SECOND FORM's CARD OF 'keyholderlaw3.SeenOnce'. -/
def seenOnceUptoCard : Claim7 := { stood := { row := seenOnceUptoRow, standIns := [], harness := (true, "29bcc391618e6d5ea6b9da681a414ccf832bc60670b47db1295113cc91b66c69"), looks := true }, kinds := [], alts := [], laidByText := true, laidKinds := [.data, .handle, .sentinel, .sentinel, .sentinel, .sentinel, .sentinel, .sentinel, .sentinel, .sentinel, .sentinel, .sentinel, .sentinel, .sentinel, .sentinel, .sentinel, .sentinel, .sentinel, .pinned], laidTests := true, laidLooks := .later }
def SeenOnceUptoCardSaid : Prop := Claim7.holds Tryd.pinned (.plain (OpenSpec.upto seenOnceSpec)) seenOnceUptoCard

/-- THE SECOND FORM's CARD OF 'keyholderlaw2.FloorOrder'. -/
def floorOrderUptoCard : Claim7 := { stood := { row := floorOrderUptoRow, standIns := [], harness := (true, "29bcc391618e6d5ea6b9da681a414ccf832bc60670b47db1295113cc91b66c69"), looks := true }, kinds := [], alts := [], laidByText := true, laidKinds := [.data, .sentinel, .sentinel, .sentinel, .sentinel, .sentinel, .pinned], laidTests := true, laidLooks := .later }
def FloorOrderUptoCardSaid : Prop := Claim7.holds Tryd.pinned (.plain (OpenSpec.upto floorOrderSpec)) floorOrderUptoCard

/-- THE SECOND FORM's CARD OF 'keyholderlaw3.TapeCuts'. -/
def tapeCutsUptoCard : Claim7 := { stood := { row := tapeCutsUptoRow, standIns := [], harness := (true, "29bcc391618e6d5ea6b9da681a414ccf832bc60670b47db1295113cc91b66c69"), looks := true }, kinds := [], alts := [], laidByText := true, laidKinds := [.data, .data, .data, .sentinel, .sentinel, .sentinel, .sentinel, .sentinel, .sentinel], laidTests := true, laidLooks := .later }
def TapeCutsUptoCardSaid : Prop := Claim7.holds Tryd.pinned (.plain (OpenSpec.upto tapeCutsSpec)) tapeCutsUptoCard

/-- THE SECOND FORM's CARD OF 'keyholderlaw3.SessionSwept'. -/
def sessionSweptUptoCard : Claim7 := { stood := { row := sessionSweptUptoRow, standIns := [], harness := (true, "29bcc391618e6d5ea6b9da681a414ccf832bc60670b47db1295113cc91b66c69"), looks := true }, kinds := [], alts := [], laidByText := true, laidKinds := [.data, .sentinel, .sentinel, .sentinel, .sentinel, .sentinel, .sentinel, .sentinel, .sentinel, .pinned], laidTests := true, laidLooks := .later }
def SessionSweptUptoCardSaid : Prop := Claim7.holds Tryd.pinned (.plain (OpenSpec.upto sessionSweptSpec)) sessionSweptUptoCard

/-- THE SECOND FORM's CARD OF 'keyholderlaw3.TapeActs'. -/
def tapeActsUptoCard : Claim7 := { stood := { row := tapeActsUptoRow, standIns := [], harness := (true, "29bcc391618e6d5ea6b9da681a414ccf832bc60670b47db1295113cc91b66c69"), looks := true }, kinds := [], alts := [], laidByText := true, laidKinds := [.data, .data, .data, .handle, .sentinel, .sentinel, .sentinel, .sentinel, .sentinel, .sentinel, .sentinel, .sentinel, .sentinel, .sentinel, .sentinel, .sentinel, .sentinel, .sentinel, .sentinel, .sentinel, .sentinel, .sentinel], laidTests := true, laidLooks := .later }
def TapeActsUptoCardSaid : Prop := Claim7.holds Tryd.pinned (.plain (OpenSpec.upto tapeActsSpec)) tapeActsUptoCard

/-- THE SECOND FORM's CARD OF 'keyholderlaw3.SeenActs'. -/
def seenActsUptoCard : Claim7 := { stood := { row := seenActsUptoRow, standIns := [], harness := (true, "29bcc391618e6d5ea6b9da681a414ccf832bc60670b47db1295113cc91b66c69"), looks := true }, kinds := [], alts := [], laidByText := true, laidKinds := [.data, .handle, .sentinel, .sentinel, .sentinel, .sentinel, .sentinel, .sentinel, .sentinel, .sentinel, .sentinel, .sentinel, .sentinel, .sentinel, .sentinel, .sentinel, .sentinel, .sentinel, .pinned], laidTests := true, laidLooks := .later }
def SeenActsUptoCardSaid : Prop := Claim7.holds Tryd.pinned (.plain (OpenSpec.upto seenActsSpec)) seenActsUptoCard
end Rows
end Go.Proofs.YtphjjaanclpagaaDoor
