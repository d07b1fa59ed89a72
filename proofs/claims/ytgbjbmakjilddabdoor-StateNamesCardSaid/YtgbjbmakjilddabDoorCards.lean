/-
  DERIVED. GIVEN WITH THE SEED: THE CARDS: each row of YtgbjbmakjilddabDoorRows.lean that lists a variable, with what it lists TIED to the program's text (the seventh form; the later family's looks); each row that meets fmt, with fmt's text TOLD by the authors' own Lean function (tested against real Go, not proved from fmt's source: count such statements apart). THE CARD IS WHAT COUNTS. Prove the row's statement (the work); the ties are given (YtgbjbmakjilddabDoorTie.lean); close each card by the builder's one call (the guide's Derived/Test/ToyasCard.lean, 'card_holds'). Laid BY PROGRAM, IN A SANDBOX (cutbox-door.mjs). By AI agents, Wed Nov 11 2026. No macro, syntax, notation, axiom, sorry.
-/
import Derived.Test.YtgbjbmakjilddabDoorRows
import GoSem.ClaimSeven
namespace Go.Proofs.YtgbjbmakjilddabDoor
namespace Rows

/-- THE TIED CARD OF 'weftlinelaw24.StateRuns'. -/
def stateRunsCard : Claim7 := { stood := { row := stateRunsRow, standIns := [], harness := (true, "11fa4959ec4a849767be203bf7deb2484fdcc322489a3cac47a050f0dce4fe5d"), looks := true }, kinds := [], alts := [], laidByText := true, laidKinds := [.listed, .data], laidTests := true, laidLooks := .later }
def StateRunsCardSaid : Prop := Claim7.holds Tryd.pinned (.plain (OpenSpec.ofChange stateRunsSpec)) stateRunsCard

/-- THE TIED CARD OF 'weftlinelaw24.StateCloses'. -/
def stateClosesCard : Claim7 := { stood := { row := stateClosesRow, standIns := [], harness := (true, "11fa4959ec4a849767be203bf7deb2484fdcc322489a3cac47a050f0dce4fe5d"), looks := true }, kinds := [], alts := [], laidByText := true, laidKinds := [.listed, .data], laidTests := true, laidLooks := .later }
def StateClosesCardSaid : Prop := Claim7.holds Tryd.pinned (.plain (OpenSpec.ofChange stateClosesSpec)) stateClosesCard

/-- THE TIED CARD OF 'weftlinelaw24.StateEvents'. -/
def stateEventsCard : Claim7 := { stood := { row := stateEventsRow, standIns := [], harness := (true, "11fa4959ec4a849767be203bf7deb2484fdcc322489a3cac47a050f0dce4fe5d"), looks := true }, kinds := [], alts := [], laidByText := true, laidKinds := [.listed, .data], laidTests := true, laidLooks := .later }
def StateEventsCardSaid : Prop := Claim7.holds Tryd.pinned (.plain (OpenSpec.ofChange stateEventsSpec)) stateEventsCard

/-- THE TIED CARD OF 'weftlinelaw24.StateOns'. -/
def stateOnsCard : Claim7 := { stood := { row := stateOnsRow, standIns := [], harness := (true, "11fa4959ec4a849767be203bf7deb2484fdcc322489a3cac47a050f0dce4fe5d"), looks := true }, kinds := [], alts := [], laidByText := true, laidKinds := [.listed, .data], laidTests := true, laidLooks := .later }
def StateOnsCardSaid : Prop := Claim7.holds Tryd.pinned (.plain (OpenSpec.ofChange stateOnsSpec)) stateOnsCard

/-- THE TIED CARD OF 'weftlinelaw24.StateNames'. -/
def stateNamesCard : Claim7 := { stood := { row := stateNamesRow, standIns := [], harness := (true, "11fa4959ec4a849767be203bf7deb2484fdcc322489a3cac47a050f0dce4fe5d"), looks := true }, kinds := [], alts := [], laidByText := true, laidKinds := [.listed, .data], laidTests := true, laidLooks := .later }
def StateNamesCardSaid : Prop := Claim7.holds Tryd.pinned (.plain (OpenSpec.ofChange stateNamesSpec)) stateNamesCard

/-- THE SECOND FORM's CARD OF 'weftlinelaw24.StateRuns'. -/
def stateRunsUptoCard : Claim7 := { stood := { row := stateRunsUptoRow, standIns := [], harness := (true, "11fa4959ec4a849767be203bf7deb2484fdcc322489a3cac47a050f0dce4fe5d"), looks := true }, kinds := [], alts := [], laidByText := true, laidKinds := [.listed, .data], laidTests := true, laidLooks := .later }
def StateRunsUptoCardSaid : Prop := Claim7.holds Tryd.pinned (.plain (OpenSpec.upto stateRunsSpec)) stateRunsUptoCard

/-- THE SECOND FORM's CARD OF 'weftlinelaw24.StateCloses'. -/
def stateClosesUptoCard : Claim7 := { stood := { row := stateClosesUptoRow, standIns := [], harness := (true, "11fa4959ec4a849767be203bf7deb2484fdcc322489a3cac47a050f0dce4fe5d"), looks := true }, kinds := [], alts := [], laidByText := true, laidKinds := [.listed, .data], laidTests := true, laidLooks := .later }
def StateClosesUptoCardSaid : Prop := Claim7.holds Tryd.pinned (.plain (OpenSpec.upto stateClosesSpec)) stateClosesUptoCard

/-- THE SECOND FORM's CARD OF 'weftlinelaw24.StateEvents'. -/
def stateEventsUptoCard : Claim7 := { stood := { row := stateEventsUptoRow, standIns := [], harness := (true, "11fa4959ec4a849767be203bf7deb2484fdcc322489a3cac47a050f0dce4fe5d"), looks := true }, kinds := [], alts := [], laidByText := true, laidKinds := [.listed, .data], laidTests := true, laidLooks := .later }
def StateEventsUptoCardSaid : Prop := Claim7.holds Tryd.pinned (.plain (OpenSpec.upto stateEventsSpec)) stateEventsUptoCard

/-- THE SECOND FORM's CARD OF 'weftlinelaw24.StateOns'. -/
def stateOnsUptoCard : Claim7 := { stood := { row := stateOnsUptoRow, standIns := [], harness := (true, "11fa4959ec4a849767be203bf7deb2484fdcc322489a3cac47a050f0dce4fe5d"), looks := true }, kinds := [], alts := [], laidByText := true, laidKinds := [.listed, .data], laidTests := true, laidLooks := .later }
def StateOnsUptoCardSaid : Prop := Claim7.holds Tryd.pinned (.plain (OpenSpec.upto stateOnsSpec)) stateOnsUptoCard

/-- THE SECOND FORM's CARD OF 'weftlinelaw24.StateNames'. -/
def stateNamesUptoCard : Claim7 := { stood := { row := stateNamesUptoRow, standIns := [], harness := (true, "11fa4959ec4a849767be203bf7deb2484fdcc322489a3cac47a050f0dce4fe5d"), looks := true }, kinds := [], alts := [], laidByText := true, laidKinds := [.listed, .data], laidTests := true, laidLooks := .later }
def StateNamesUptoCardSaid : Prop := Claim7.holds Tryd.pinned (.plain (OpenSpec.upto stateNamesSpec)) stateNamesUptoCard
end Rows
end Go.Proofs.YtgbjbmakjilddabDoor
