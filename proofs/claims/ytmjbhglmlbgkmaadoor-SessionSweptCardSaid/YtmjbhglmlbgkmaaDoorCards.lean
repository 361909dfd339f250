/-
  DERIVED. GIVEN WITH THE SEED: THE CARDS: each row of YtmjbhglmlbgkmaaDoorRows.lean that lists a variable, with what it lists TIED to the program's text (the seventh form; the later family's looks); each row that meets fmt, with fmt's text TOLD by the authors' own Lean function (tested against real Go, not proved from fmt's source: count such statements apart). THE CARD IS WHAT COUNTS. Prove the row's statement (the work); the ties are given (YtmjbhglmlbgkmaaDoorTie.lean); close each card by the builder's one call (the guide's Derived/Test/ToyasCard.lean, 'card_holds'). Laid BY PROGRAM, IN A SANDBOX (cutbox-door.mjs). By AI agents, Wed Nov 11 2026. No macro, syntax, notation, axiom, sorry.
-/
import Derived.Test.YtmjbhglmlbgkmaaDoorRows
import GoSem.ClaimSeven
namespace Go.Proofs.YtmjbhglmlbgkmaaDoor
namespace Rows

/-- THE TIED CARD OF 'keyholderlaw3.SessionSwept'. -/
def sessionSweptCard : Claim7 := { stood := { row := sessionSweptRow, standIns := [], harness := (true, "8e8bc70ae2cfd47fa7c7b9a35113cb34df9f17cd202ccf033f39c26f42382d1b"), looks := true }, kinds := [], alts := [], laidByText := true, laidKinds := [.data, .sentinel, .sentinel, .sentinel, .sentinel, .sentinel, .sentinel, .sentinel, .sentinel, .pinned], laidTests := true, laidLooks := .later }
def SessionSweptCardSaid : Prop := Claim7.holds Tryd.pinned (.plain (OpenSpec.ofChange sessionSweptSpec)) sessionSweptCard

/-- THE TIED CARD OF 'keyholderlaw3.TapeActs'. -/
def tapeActsCard : Claim7 := { stood := { row := tapeActsRow, standIns := [], harness := (true, "8e8bc70ae2cfd47fa7c7b9a35113cb34df9f17cd202ccf033f39c26f42382d1b"), looks := true }, kinds := [], alts := [], laidByText := true, laidKinds := [.data, .data, .data, .handle, .sentinel, .sentinel, .sentinel, .sentinel, .sentinel, .sentinel, .sentinel, .sentinel, .sentinel, .sentinel, .sentinel, .sentinel, .sentinel, .sentinel, .sentinel, .sentinel, .sentinel, .sentinel], laidTests := true, laidLooks := .later }
def TapeActsCardSaid : Prop := Claim7.holds Tryd.pinned (.plain (OpenSpec.ofChange tapeActsSpec)) tapeActsCard

/-- THE TIED CARD OF 'keyholderlaw3.SeenActs'. -/
def seenActsCard : Claim7 := { stood := { row := seenActsRow, standIns := [], harness := (true, "8e8bc70ae2cfd47fa7c7b9a35113cb34df9f17cd202ccf033f39c26f42382d1b"), looks := true }, kinds := [], alts := [], laidByText := true, laidKinds := [.data, .handle, .sentinel, .sentinel, .sentinel, .sentinel, .sentinel, .sentinel, .sentinel, .sentinel, .sentinel, .sentinel, .sentinel, .sentinel, .sentinel, .sentinel, .sentinel, .sentinel, .pinned], laidTests := true, laidLooks := .later }
def SeenActsCardSaid : Prop := Claim7.holds Tryd.pinned (.plain (OpenSpec.ofChange seenActsSpec)) seenActsCard

/-- THE SECOND FORM's CARD OF 'keyholderlaw3.SessionSwept'. -/
def sessionSweptUptoCard : Claim7 := { stood := { row := sessionSweptUptoRow, standIns := [], harness := (true, "8e8bc70ae2cfd47fa7c7b9a35113cb34df9f17cd202ccf033f39c26f42382d1b"), looks := true }, kinds := [], alts := [], laidByText := true, laidKinds := [.data, .sentinel, .sentinel, .sentinel, .sentinel, .sentinel, .sentinel, .sentinel, .sentinel, .pinned], laidTests := true, laidLooks := .later }
def SessionSweptUptoCardSaid : Prop := Claim7.holds Tryd.pinned (.plain (OpenSpec.upto sessionSweptSpec)) sessionSweptUptoCard

/-- THE SECOND FORM's CARD OF 'keyholderlaw3.TapeActs'. -/
def tapeActsUptoCard : Claim7 := { stood := { row := tapeActsUptoRow, standIns := [], harness := (true, "8e8bc70ae2cfd47fa7c7b9a35113cb34df9f17cd202ccf033f39c26f42382d1b"), looks := true }, kinds := [], alts := [], laidByText := true, laidKinds := [.data, .data, .data, .handle, .sentinel, .sentinel, .sentinel, .sentinel, .sentinel, .sentinel, .sentinel, .sentinel, .sentinel, .sentinel, .sentinel, .sentinel, .sentinel, .sentinel, .sentinel, .sentinel, .sentinel, .sentinel], laidTests := true, laidLooks := .later }
def TapeActsUptoCardSaid : Prop := Claim7.holds Tryd.pinned (.plain (OpenSpec.upto tapeActsSpec)) tapeActsUptoCard

/-- THE SECOND FORM's CARD OF 'keyholderlaw3.SeenActs'. -/
def seenActsUptoCard : Claim7 := { stood := { row := seenActsUptoRow, standIns := [], harness := (true, "8e8bc70ae2cfd47fa7c7b9a35113cb34df9f17cd202ccf033f39c26f42382d1b"), looks := true }, kinds := [], alts := [], laidByText := true, laidKinds := [.data, .handle, .sentinel, .sentinel, .sentinel, .sentinel, .sentinel, .sentinel, .sentinel, .sentinel, .sentinel, .sentinel, .sentinel, .sentinel, .sentinel, .sentinel, .sentinel, .sentinel, .pinned], laidTests := true, laidLooks := .later }
def SeenActsUptoCardSaid : Prop := Claim7.holds Tryd.pinned (.plain (OpenSpec.upto seenActsSpec)) seenActsUptoCard
end Rows
end Go.Proofs.YtmjbhglmlbgkmaaDoor
