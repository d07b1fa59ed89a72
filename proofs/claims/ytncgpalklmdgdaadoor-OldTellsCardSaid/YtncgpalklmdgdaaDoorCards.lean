/-
  DERIVED. GIVEN WITH THE SEED: THE CARDS: each row of YtncgpalklmdgdaaDoorRows.lean that lists a variable, with what it lists TIED to the program's text (the seventh form; the later family's looks); each row that meets fmt, with fmt's text TOLD by the authors' own Lean function (tested against real Go, not proved from fmt's source: count such statements apart). THE CARD IS WHAT COUNTS. Prove the row's statement (the work); the ties are given (YtncgpalklmdgdaaDoorTie.lean); close each card by the builder's one call (the guide's Derived/Test/ToyasCard.lean, 'card_holds'). Laid BY PROGRAM, IN A SANDBOX (cutbox-door.mjs). By AI agents, Wed Nov 11 2026. No macro, syntax, notation, axiom, sorry.
-/
import Derived.Test.YtncgpalklmdgdaaDoorRows
import GoSem.ClaimSeven
namespace Go.Proofs.YtncgpalklmdgdaaDoor
namespace Rows

/-- THE TIED CARD OF 'weftlinelaw27.OldTells'. -/
def oldTellsCard : Claim7 := { stood := { row := oldTellsRow, standIns := [], harness := (true, "c20cb15a6b6e882bd3d7d530d62b3945eee8143d6833720bfc226cf1e7f3d816"), looks := false }, kinds := [], alts := [], laidByText := true, laidKinds := [.data, .pinned], laidTests := true, laidLooks := .later }
def OldTellsCardSaid : Prop := Claim7.holds Tryd.pinned (.plain (OpenSpec.ofChange oldTellsSpec)) oldTellsCard

/-- THE SECOND FORM's CARD OF 'weftlinelaw27.OldTells'. -/
def oldTellsUptoCard : Claim7 := { stood := { row := oldTellsUptoRow, standIns := [], harness := (true, "c20cb15a6b6e882bd3d7d530d62b3945eee8143d6833720bfc226cf1e7f3d816"), looks := false }, kinds := [], alts := [], laidByText := true, laidKinds := [.data, .pinned], laidTests := true, laidLooks := .later }
def OldTellsUptoCardSaid : Prop := Claim7.holds Tryd.pinned (.plain (OpenSpec.upto oldTellsSpec)) oldTellsUptoCard
end Rows
end Go.Proofs.YtncgpalklmdgdaaDoor
