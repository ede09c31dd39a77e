/-
  DERIVED. GIVEN WITH THE SEED: THE CARDS: each row of YtdgnhplaakjlgaaGreatDoorRows.lean that lists a variable, with what it lists TIED to the program's text (the seventh form; the later family's looks); each row that meets fmt, with fmt's text TOLD by the authors' own Lean function (tested against real Go, not proved from fmt's source: count such statements apart). THE CARD IS WHAT COUNTS. Prove the row's statement (the work); the ties are given (YtdgnhplaakjlgaaGreatDoorTie.lean); close each card by the builder's one call (the guide's Derived/Test/ToyasCard.lean, 'card_holds'). Laid BY PROGRAM, IN A SANDBOX (cutbox-door.mjs). By AI agents, Wed Nov 11 2026. No macro, syntax, notation, axiom, sorry.
-/
import Derived.Test.YtdgnhplaakjlgaaGreatDoorRows
import GoSem.ClaimSeven
namespace Go.Proofs.YtdgnhplaakjlgaaGreatDoor
namespace Rows

/-- THE TIED CARD OF 'laws.FnReadPage'. -/
def fnReadPageCard : Claim7 := { stood := { row := fnReadPageRow, standIns := [], harness := (true, "b23ad90f7aab4990505e795eef0437fb6e91d4c4ec67d550635f60c54c9311ea"), looks := true }, kinds := [], alts := [], laidByText := true, laidKinds := [.data, .data, .data, .data, .sentinel, .sentinel, .pinned], laidTests := true, laidLooks := .later }
def FnReadPageCardSaid : Prop := Claim7.holds Tryz.pinned (.plain (OpenSpec.ofChange fnReadPageSpec)) fnReadPageCard

/-- THE TIED CARD OF 'laws.FnWholeSheet'. -/
def fnWholeSheetCard : Claim7 := { stood := { row := fnWholeSheetRow, standIns := [], harness := (true, "b23ad90f7aab4990505e795eef0437fb6e91d4c4ec67d550635f60c54c9311ea"), looks := true }, kinds := [], alts := [], laidByText := true, laidKinds := [.data, .data, .data, .data, .sentinel, .sentinel, .pinned], laidTests := true, laidLooks := .later }
def FnWholeSheetCardSaid : Prop := Claim7.holds Tryz.pinned (.plain (OpenSpec.ofChange fnWholeSheetSpec)) fnWholeSheetCard

/-- THE SECOND FORM's CARD OF 'laws.FnReadPage'. -/
def fnReadPageUptoCard : Claim7 := { stood := { row := fnReadPageUptoRow, standIns := [], harness := (true, "b23ad90f7aab4990505e795eef0437fb6e91d4c4ec67d550635f60c54c9311ea"), looks := true }, kinds := [], alts := [], laidByText := true, laidKinds := [.data, .data, .data, .data, .sentinel, .sentinel, .pinned], laidTests := true, laidLooks := .later }
def FnReadPageUptoCardSaid : Prop := Claim7.holds Tryz.pinned (.plain (OpenSpec.upto fnReadPageSpec)) fnReadPageUptoCard

/-- THE SECOND FORM's CARD OF 'laws.FnWholeSheet'. -/
def fnWholeSheetUptoCard : Claim7 := { stood := { row := fnWholeSheetUptoRow, standIns := [], harness := (true, "b23ad90f7aab4990505e795eef0437fb6e91d4c4ec67d550635f60c54c9311ea"), looks := true }, kinds := [], alts := [], laidByText := true, laidKinds := [.data, .data, .data, .data, .sentinel, .sentinel, .pinned], laidTests := true, laidLooks := .later }
def FnWholeSheetUptoCardSaid : Prop := Claim7.holds Tryz.pinned (.plain (OpenSpec.upto fnWholeSheetSpec)) fnWholeSheetUptoCard
end Rows
end Go.Proofs.YtdgnhplaakjlgaaGreatDoor
