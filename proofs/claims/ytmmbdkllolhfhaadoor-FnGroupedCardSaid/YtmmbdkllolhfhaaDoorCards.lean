/-
  DERIVED. GIVEN WITH THE SEED: THE CARDS: each row of YtmmbdkllolhfhaaDoorRows.lean that lists a variable, with what it lists TIED to the program's text (the seventh form; the later family's looks); each row that meets fmt, with fmt's text TOLD by the authors' own Lean function (tested against real Go, not proved from fmt's source: count such statements apart). THE CARD IS WHAT COUNTS. Prove the row's statement (the work); the ties are given (YtmmbdkllolhfhaaDoorTie.lean); close each card by the builder's one call (the guide's Derived/Test/ToyasCard.lean, 'card_holds'). Laid BY PROGRAM, IN A SANDBOX (cutbox-door.mjs). By AI agents, Wed Nov 11 2026. No macro, syntax, notation, axiom, sorry.
-/
import Derived.Test.YtmmbdkllolhfhaaDoorRows
import GoSem.ClaimSeven
namespace Go.Proofs.YtmmbdkllolhfhaaDoor
namespace Rows

/-- THE TIED CARD OF 'laws.FnExactPrintTable'. -/
def fnExactPrintTableCard : Claim7 := { stood := { row := fnExactPrintTableRow, standIns := [], harness := (true, "e101157e4c9e637363a8fa74284d0f2a3bfd8b41c096af02f62d292a7d2caf41"), looks := true }, kinds := [], alts := [], laidByText := true, laidKinds := [.data, .data, .data], laidTests := true, laidLooks := .later }
def FnExactPrintTableCardSaid : Prop := Claim7.holds Tryd.pinned (.plain (OpenSpec.ofChange fnExactPrintTableSpec)) fnExactPrintTableCard

/-- THE TIED CARD OF 'laws.FnExactPageLines'. -/
def fnExactPageLinesCard : Claim7 := { stood := { row := fnExactPageLinesRow, standIns := [], harness := (true, "e101157e4c9e637363a8fa74284d0f2a3bfd8b41c096af02f62d292a7d2caf41"), looks := true }, kinds := [], alts := [], laidByText := true, laidKinds := [.data, .data, .data], laidTests := true, laidLooks := .later }
def FnExactPageLinesCardSaid : Prop := Claim7.holds Tryd.pinned (.plain (OpenSpec.ofChange fnExactPageLinesSpec)) fnExactPageLinesCard

/-- THE TIED CARD OF 'laws.FnExactParseGrouped'. -/
def fnExactParseGroupedCard : Claim7 := { stood := { row := fnExactParseGroupedRow, standIns := [], harness := (true, "e101157e4c9e637363a8fa74284d0f2a3bfd8b41c096af02f62d292a7d2caf41"), looks := true }, kinds := [], alts := [], laidByText := true, laidKinds := [.data, .data, .data, .data, .sentinel, .sentinel, .pinned], laidTests := true, laidLooks := .later }
def FnExactParseGroupedCardSaid : Prop := Claim7.holds Tryd.pinned (.plain (OpenSpec.ofChange fnExactParseGroupedSpec)) fnExactParseGroupedCard

/-- THE TIED CARD OF 'laws.FnGrouped'. -/
def fnGroupedCard : Claim7 := { stood := { row := fnGroupedRow, standIns := [], harness := (true, "e101157e4c9e637363a8fa74284d0f2a3bfd8b41c096af02f62d292a7d2caf41"), looks := true }, kinds := [], alts := [], laidByText := true, laidKinds := [.data, .data, .data, .data, .sentinel, .sentinel, .pinned], laidTests := true, laidLooks := .later }
def FnGroupedCardSaid : Prop := Claim7.holds Tryd.pinned (.plain (OpenSpec.ofChange fnGroupedSpec)) fnGroupedCard

/-- THE SECOND FORM's CARD OF 'laws.FnExactPrintTable'. -/
def fnExactPrintTableUptoCard : Claim7 := { stood := { row := fnExactPrintTableUptoRow, standIns := [], harness := (true, "e101157e4c9e637363a8fa74284d0f2a3bfd8b41c096af02f62d292a7d2caf41"), looks := true }, kinds := [], alts := [], laidByText := true, laidKinds := [.data, .data, .data], laidTests := true, laidLooks := .later }
def FnExactPrintTableUptoCardSaid : Prop := Claim7.holds Tryd.pinned (.plain (OpenSpec.upto fnExactPrintTableSpec)) fnExactPrintTableUptoCard

/-- THE SECOND FORM's CARD OF 'laws.FnExactPageLines'. -/
def fnExactPageLinesUptoCard : Claim7 := { stood := { row := fnExactPageLinesUptoRow, standIns := [], harness := (true, "e101157e4c9e637363a8fa74284d0f2a3bfd8b41c096af02f62d292a7d2caf41"), looks := true }, kinds := [], alts := [], laidByText := true, laidKinds := [.data, .data, .data], laidTests := true, laidLooks := .later }
def FnExactPageLinesUptoCardSaid : Prop := Claim7.holds Tryd.pinned (.plain (OpenSpec.upto fnExactPageLinesSpec)) fnExactPageLinesUptoCard

/-- THE SECOND FORM's CARD OF 'laws.FnExactParseGrouped'. -/
def fnExactParseGroupedUptoCard : Claim7 := { stood := { row := fnExactParseGroupedUptoRow, standIns := [], harness := (true, "e101157e4c9e637363a8fa74284d0f2a3bfd8b41c096af02f62d292a7d2caf41"), looks := true }, kinds := [], alts := [], laidByText := true, laidKinds := [.data, .data, .data, .data, .sentinel, .sentinel, .pinned], laidTests := true, laidLooks := .later }
def FnExactParseGroupedUptoCardSaid : Prop := Claim7.holds Tryd.pinned (.plain (OpenSpec.upto fnExactParseGroupedSpec)) fnExactParseGroupedUptoCard

/-- THE SECOND FORM's CARD OF 'laws.FnGrouped'. -/
def fnGroupedUptoCard : Claim7 := { stood := { row := fnGroupedUptoRow, standIns := [], harness := (true, "e101157e4c9e637363a8fa74284d0f2a3bfd8b41c096af02f62d292a7d2caf41"), looks := true }, kinds := [], alts := [], laidByText := true, laidKinds := [.data, .data, .data, .data, .sentinel, .sentinel, .pinned], laidTests := true, laidLooks := .later }
def FnGroupedUptoCardSaid : Prop := Claim7.holds Tryd.pinned (.plain (OpenSpec.upto fnGroupedSpec)) fnGroupedUptoCard
end Rows
end Go.Proofs.YtmmbdkllolhfhaaDoor
