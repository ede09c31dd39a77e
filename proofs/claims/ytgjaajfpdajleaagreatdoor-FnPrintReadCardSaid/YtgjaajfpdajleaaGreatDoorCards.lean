/-
  DERIVED. GIVEN WITH THE SEED: THE CARDS: each row of YtgjaajfpdajleaaGreatDoorRows.lean that lists a variable, with what it lists TIED to the program's text (the seventh form; the later family's looks); each row that meets fmt, with fmt's text TOLD by the authors' own Lean function (tested against real Go, not proved from fmt's source: count such statements apart). THE CARD IS WHAT COUNTS. Prove the row's statement (the work); the ties are given (YtgjaajfpdajleaaGreatDoorTie.lean); close each card by the builder's one call (the guide's Derived/Test/ToyasCard.lean, 'card_holds'). Laid BY PROGRAM, IN A SANDBOX (cutbox-door.mjs). By AI agents, Wed Nov 11 2026. No macro, syntax, notation, axiom, sorry.
-/
import Derived.Test.YtgjaajfpdajleaaGreatDoorRows
import GoSem.ClaimSeven
namespace Go.Proofs.YtgjaajfpdajleaaGreatDoor
namespace Rows

/-- THE TIED CARD OF 'laws.FnExactReadTable'. -/
def fnExactReadTableCard : Claim7 := { stood := { row := fnExactReadTableRow, standIns := [], harness := (true, "730894ce3fdd1c60b1cd13fd3d8d0eaff75b6a36daf9ceb74fd76b5c933006d2"), looks := true }, kinds := [], alts := [], laidByText := true, laidKinds := [.data, .data, .data, .data, .sentinel, .sentinel, .pinned], laidTests := true, laidLooks := .later }
def FnExactReadTableCardSaid : Prop := Claim7.holds Tryz.pinned (.plain (OpenSpec.ofChange fnExactReadTableSpec)) fnExactReadTableCard

/-- THE TIED CARD OF 'laws.FnReadTable'. -/
def fnReadTableCard : Claim7 := { stood := { row := fnReadTableRow, standIns := [], harness := (true, "730894ce3fdd1c60b1cd13fd3d8d0eaff75b6a36daf9ceb74fd76b5c933006d2"), looks := true }, kinds := [], alts := [], laidByText := true, laidKinds := [.data, .data, .data, .data, .sentinel, .sentinel, .pinned], laidTests := true, laidLooks := .later }
def FnReadTableCardSaid : Prop := Claim7.holds Tryz.pinned (.plain (OpenSpec.ofChange fnReadTableSpec)) fnReadTableCard

/-- THE TIED CARD OF 'laws.FnPageRead'. -/
def fnPageReadCard : Claim7 := { stood := { row := fnPageReadRow, standIns := [], harness := (true, "730894ce3fdd1c60b1cd13fd3d8d0eaff75b6a36daf9ceb74fd76b5c933006d2"), looks := true }, kinds := [], alts := [], laidByText := true, laidKinds := [.data, .data, .data, .data, .sentinel, .sentinel, .pinned], laidTests := true, laidLooks := .later }
def FnPageReadCardSaid : Prop := Claim7.holds Tryz.pinned (.plain (OpenSpec.ofChange fnPageReadSpec)) fnPageReadCard

/-- THE TIED CARD OF 'laws.FnExactReadPage'. -/
def fnExactReadPageCard : Claim7 := { stood := { row := fnExactReadPageRow, standIns := [], harness := (true, "730894ce3fdd1c60b1cd13fd3d8d0eaff75b6a36daf9ceb74fd76b5c933006d2"), looks := true }, kinds := [], alts := [], laidByText := true, laidKinds := [.data, .data, .data, .data, .sentinel, .sentinel, .pinned], laidTests := true, laidLooks := .later }
def FnExactReadPageCardSaid : Prop := Claim7.holds Tryz.pinned (.plain (OpenSpec.ofChange fnExactReadPageSpec)) fnExactReadPageCard

/-- THE TIED CARD OF 'laws.FnReadPage'. -/
def fnReadPageCard : Claim7 := { stood := { row := fnReadPageRow, standIns := [], harness := (true, "730894ce3fdd1c60b1cd13fd3d8d0eaff75b6a36daf9ceb74fd76b5c933006d2"), looks := true }, kinds := [], alts := [], laidByText := true, laidKinds := [.data, .data, .data, .data, .sentinel, .sentinel, .pinned], laidTests := true, laidLooks := .later }
def FnReadPageCardSaid : Prop := Claim7.holds Tryz.pinned (.plain (OpenSpec.ofChange fnReadPageSpec)) fnReadPageCard

/-- THE TIED CARD OF 'laws.FnWholeSheet'. -/
def fnWholeSheetCard : Claim7 := { stood := { row := fnWholeSheetRow, standIns := [], harness := (true, "730894ce3fdd1c60b1cd13fd3d8d0eaff75b6a36daf9ceb74fd76b5c933006d2"), looks := true }, kinds := [], alts := [], laidByText := true, laidKinds := [.data, .data, .data, .data, .sentinel, .sentinel, .pinned], laidTests := true, laidLooks := .later }
def FnWholeSheetCardSaid : Prop := Claim7.holds Tryz.pinned (.plain (OpenSpec.ofChange fnWholeSheetSpec)) fnWholeSheetCard

/-- THE TIED CARD OF 'laws.FnPrintRead'. -/
def fnPrintReadCard : Claim7 := { stood := { row := fnPrintReadRow, standIns := [], harness := (true, "730894ce3fdd1c60b1cd13fd3d8d0eaff75b6a36daf9ceb74fd76b5c933006d2"), looks := true }, kinds := [], alts := [], laidByText := true, laidKinds := [.data, .data, .data, .data, .sentinel, .sentinel, .pinned], laidTests := true, laidLooks := .later }
def FnPrintReadCardSaid : Prop := Claim7.holds Tryz.pinned (.plain (OpenSpec.ofChange fnPrintReadSpec)) fnPrintReadCard

/-- THE SECOND FORM's CARD OF 'laws.FnExactReadTable'. -/
def fnExactReadTableUptoCard : Claim7 := { stood := { row := fnExactReadTableUptoRow, standIns := [], harness := (true, "730894ce3fdd1c60b1cd13fd3d8d0eaff75b6a36daf9ceb74fd76b5c933006d2"), looks := true }, kinds := [], alts := [], laidByText := true, laidKinds := [.data, .data, .data, .data, .sentinel, .sentinel, .pinned], laidTests := true, laidLooks := .later }
def FnExactReadTableUptoCardSaid : Prop := Claim7.holds Tryz.pinned (.plain (OpenSpec.upto fnExactReadTableSpec)) fnExactReadTableUptoCard

/-- THE SECOND FORM's CARD OF 'laws.FnReadTable'. -/
def fnReadTableUptoCard : Claim7 := { stood := { row := fnReadTableUptoRow, standIns := [], harness := (true, "730894ce3fdd1c60b1cd13fd3d8d0eaff75b6a36daf9ceb74fd76b5c933006d2"), looks := true }, kinds := [], alts := [], laidByText := true, laidKinds := [.data, .data, .data, .data, .sentinel, .sentinel, .pinned], laidTests := true, laidLooks := .later }
def FnReadTableUptoCardSaid : Prop := Claim7.holds Tryz.pinned (.plain (OpenSpec.upto fnReadTableSpec)) fnReadTableUptoCard

/-- THE SECOND FORM's CARD OF 'laws.FnPageRead'. -/
def fnPageReadUptoCard : Claim7 := { stood := { row := fnPageReadUptoRow, standIns := [], harness := (true, "730894ce3fdd1c60b1cd13fd3d8d0eaff75b6a36daf9ceb74fd76b5c933006d2"), looks := true }, kinds := [], alts := [], laidByText := true, laidKinds := [.data, .data, .data, .data, .sentinel, .sentinel, .pinned], laidTests := true, laidLooks := .later }
def FnPageReadUptoCardSaid : Prop := Claim7.holds Tryz.pinned (.plain (OpenSpec.upto fnPageReadSpec)) fnPageReadUptoCard

/-- THE SECOND FORM's CARD OF 'laws.FnExactReadPage'. -/
def fnExactReadPageUptoCard : Claim7 := { stood := { row := fnExactReadPageUptoRow, standIns := [], harness := (true, "730894ce3fdd1c60b1cd13fd3d8d0eaff75b6a36daf9ceb74fd76b5c933006d2"), looks := true }, kinds := [], alts := [], laidByText := true, laidKinds := [.data, .data, .data, .data, .sentinel, .sentinel, .pinned], laidTests := true, laidLooks := .later }
def FnExactReadPageUptoCardSaid : Prop := Claim7.holds Tryz.pinned (.plain (OpenSpec.upto fnExactReadPageSpec)) fnExactReadPageUptoCard

/-- THE SECOND FORM's CARD OF 'laws.FnReadPage'. -/
def fnReadPageUptoCard : Claim7 := { stood := { row := fnReadPageUptoRow, standIns := [], harness := (true, "730894ce3fdd1c60b1cd13fd3d8d0eaff75b6a36daf9ceb74fd76b5c933006d2"), looks := true }, kinds := [], alts := [], laidByText := true, laidKinds := [.data, .data, .data, .data, .sentinel, .sentinel, .pinned], laidTests := true, laidLooks := .later }
def FnReadPageUptoCardSaid : Prop := Claim7.holds Tryz.pinned (.plain (OpenSpec.upto fnReadPageSpec)) fnReadPageUptoCard

/-- THE SECOND FORM's CARD OF 'laws.FnWholeSheet'. -/
def fnWholeSheetUptoCard : Claim7 := { stood := { row := fnWholeSheetUptoRow, standIns := [], harness := (true, "730894ce3fdd1c60b1cd13fd3d8d0eaff75b6a36daf9ceb74fd76b5c933006d2"), looks := true }, kinds := [], alts := [], laidByText := true, laidKinds := [.data, .data, .data, .data, .sentinel, .sentinel, .pinned], laidTests := true, laidLooks := .later }
def FnWholeSheetUptoCardSaid : Prop := Claim7.holds Tryz.pinned (.plain (OpenSpec.upto fnWholeSheetSpec)) fnWholeSheetUptoCard

/-- THE SECOND FORM's CARD OF 'laws.FnPrintRead'. -/
def fnPrintReadUptoCard : Claim7 := { stood := { row := fnPrintReadUptoRow, standIns := [], harness := (true, "730894ce3fdd1c60b1cd13fd3d8d0eaff75b6a36daf9ceb74fd76b5c933006d2"), looks := true }, kinds := [], alts := [], laidByText := true, laidKinds := [.data, .data, .data, .data, .sentinel, .sentinel, .pinned], laidTests := true, laidLooks := .later }
def FnPrintReadUptoCardSaid : Prop := Claim7.holds Tryz.pinned (.plain (OpenSpec.upto fnPrintReadSpec)) fnPrintReadUptoCard
end Rows
end Go.Proofs.YtgjaajfpdajleaaGreatDoor
