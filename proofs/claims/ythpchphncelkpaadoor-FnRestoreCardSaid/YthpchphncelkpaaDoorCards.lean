/-
  DERIVED. GIVEN WITH THE SEED: THE CARDS: each row of YthpchphncelkpaaDoorRows.lean that lists a variable, with what it lists TIED to the program's text (the seventh form; the later family's looks); each row that meets fmt, with fmt's text TOLD by the authors' own Lean function (tested against real Go, not proved from fmt's source: count such statements apart). THE CARD IS WHAT COUNTS. Prove the row's statement (the work); the ties are given (YthpchphncelkpaaDoorTie.lean); close each card by the builder's one call (the guide's Derived/Test/ToyasCard.lean, 'card_holds'). Laid BY PROGRAM, IN A SANDBOX (cutbox-door.mjs). By AI agents, Wed Nov 11 2026. No macro, syntax, notation, axiom, sorry.
-/
import Derived.Test.YthpchphncelkpaaDoorRows
import GoSem.ClaimSeven
namespace Go.Proofs.YthpchphncelkpaaDoor
namespace Rows

/-- THE TIED CARD OF 'laws.FnShorten'. -/
def fnShortenCard : Claim7 := { stood := { row := fnShortenRow, standIns := [], harness := (true, "bc6ca8dfee119a1eb64999733c4ff5f625e0ee3f9493a39b5d121a8fe50f1854"), looks := true }, kinds := [], alts := [], laidByText := true, laidKinds := [.data, .pinned], laidTests := true, laidLooks := .later }
def FnShortenCardSaid : Prop := Claim7.holds Tryd.pinned (.plain (OpenSpec.ofChange fnShortenSpec)) fnShortenCard

/-- THE TIED CARD OF 'laws.FnExactRestoreColumn'. -/
def fnExactRestoreColumnCard : Claim7 := { stood := { row := fnExactRestoreColumnRow, standIns := [], harness := (true, "bc6ca8dfee119a1eb64999733c4ff5f625e0ee3f9493a39b5d121a8fe50f1854"), looks := true }, kinds := [], alts := [], laidByText := true, laidKinds := [.data, .pinned], laidTests := true, laidLooks := .later }
def FnExactRestoreColumnCardSaid : Prop := Claim7.holds Tryd.pinned (.plain (OpenSpec.ofChange fnExactRestoreColumnSpec)) fnExactRestoreColumnCard

/-- THE TIED CARD OF 'laws.FnRestore'. -/
def fnRestoreCard : Claim7 := { stood := { row := fnRestoreRow, standIns := [], harness := (true, "bc6ca8dfee119a1eb64999733c4ff5f625e0ee3f9493a39b5d121a8fe50f1854"), looks := true }, kinds := [], alts := [], laidByText := true, laidKinds := [.data, .pinned], laidTests := true, laidLooks := .later }
def FnRestoreCardSaid : Prop := Claim7.holds Tryd.pinned (.plain (OpenSpec.ofChange fnRestoreSpec)) fnRestoreCard

/-- THE TIED CARD OF 'laws.FnStereotype'. -/
def fnStereotypeCard : Claim7 := { stood := { row := fnStereotypeRow, standIns := [], harness := (true, "bc6ca8dfee119a1eb64999733c4ff5f625e0ee3f9493a39b5d121a8fe50f1854"), looks := true }, kinds := [], alts := [], laidByText := true, laidKinds := [.data, .pinned], laidTests := true, laidLooks := .later }
def FnStereotypeCardSaid : Prop := Claim7.holds Tryd.pinned (.plain (OpenSpec.ofChange fnStereotypeSpec)) fnStereotypeCard

/-- THE TIED CARD OF 'laws.FnReadStereotype'. -/
def fnReadStereotypeCard : Claim7 := { stood := { row := fnReadStereotypeRow, standIns := [], harness := (true, "bc6ca8dfee119a1eb64999733c4ff5f625e0ee3f9493a39b5d121a8fe50f1854"), looks := true }, kinds := [], alts := [], laidByText := true, laidKinds := [.data, .pinned], laidTests := true, laidLooks := .later }
def FnReadStereotypeCardSaid : Prop := Claim7.holds Tryd.pinned (.plain (OpenSpec.ofChange fnReadStereotypeSpec)) fnReadStereotypeCard

/-- THE TIED CARD OF 'laws.FnExactReadStereotype'. -/
def fnExactReadStereotypeCard : Claim7 := { stood := { row := fnExactReadStereotypeRow, standIns := [], harness := (true, "bc6ca8dfee119a1eb64999733c4ff5f625e0ee3f9493a39b5d121a8fe50f1854"), looks := true }, kinds := [], alts := [], laidByText := true, laidKinds := [.data, .pinned], laidTests := true, laidLooks := .later }
def FnExactReadStereotypeCardSaid : Prop := Claim7.holds Tryd.pinned (.plain (OpenSpec.ofChange fnExactReadStereotypeSpec)) fnExactReadStereotypeCard

/-- THE TIED CARD OF 'laws.FnExactPrintTable'. -/
def fnExactPrintTableCard : Claim7 := { stood := { row := fnExactPrintTableRow, standIns := [], harness := (true, "bc6ca8dfee119a1eb64999733c4ff5f625e0ee3f9493a39b5d121a8fe50f1854"), looks := true }, kinds := [], alts := [], laidByText := true, laidKinds := [.data, .data, .data], laidTests := true, laidLooks := .later }
def FnExactPrintTableCardSaid : Prop := Claim7.holds Tryd.pinned (.plain (OpenSpec.ofChange fnExactPrintTableSpec)) fnExactPrintTableCard

/-- THE TIED CARD OF 'laws.FnExactPageLines'. -/
def fnExactPageLinesCard : Claim7 := { stood := { row := fnExactPageLinesRow, standIns := [], harness := (true, "bc6ca8dfee119a1eb64999733c4ff5f625e0ee3f9493a39b5d121a8fe50f1854"), looks := true }, kinds := [], alts := [], laidByText := true, laidKinds := [.data, .data, .data], laidTests := true, laidLooks := .later }
def FnExactPageLinesCardSaid : Prop := Claim7.holds Tryd.pinned (.plain (OpenSpec.ofChange fnExactPageLinesSpec)) fnExactPageLinesCard

/-- THE TIED CARD OF 'laws.FnExactParseGrouped'. -/
def fnExactParseGroupedCard : Claim7 := { stood := { row := fnExactParseGroupedRow, standIns := [], harness := (true, "bc6ca8dfee119a1eb64999733c4ff5f625e0ee3f9493a39b5d121a8fe50f1854"), looks := true }, kinds := [], alts := [], laidByText := true, laidKinds := [.data, .data, .data, .data, .sentinel, .sentinel, .pinned], laidTests := true, laidLooks := .later }
def FnExactParseGroupedCardSaid : Prop := Claim7.holds Tryd.pinned (.plain (OpenSpec.ofChange fnExactParseGroupedSpec)) fnExactParseGroupedCard

/-- THE TIED CARD OF 'laws.FnGrouped'. -/
def fnGroupedCard : Claim7 := { stood := { row := fnGroupedRow, standIns := [], harness := (true, "bc6ca8dfee119a1eb64999733c4ff5f625e0ee3f9493a39b5d121a8fe50f1854"), looks := true }, kinds := [], alts := [], laidByText := true, laidKinds := [.data, .data, .data, .data, .sentinel, .sentinel, .pinned], laidTests := true, laidLooks := .later }
def FnGroupedCardSaid : Prop := Claim7.holds Tryd.pinned (.plain (OpenSpec.ofChange fnGroupedSpec)) fnGroupedCard

/-- THE SECOND FORM's CARD OF 'laws.FnShorten'. -/
def fnShortenUptoCard : Claim7 := { stood := { row := fnShortenUptoRow, standIns := [], harness := (true, "bc6ca8dfee119a1eb64999733c4ff5f625e0ee3f9493a39b5d121a8fe50f1854"), looks := true }, kinds := [], alts := [], laidByText := true, laidKinds := [.data, .pinned], laidTests := true, laidLooks := .later }
def FnShortenUptoCardSaid : Prop := Claim7.holds Tryd.pinned (.plain (OpenSpec.upto fnShortenSpec)) fnShortenUptoCard

/-- THE SECOND FORM's CARD OF 'laws.FnExactRestoreColumn'. -/
def fnExactRestoreColumnUptoCard : Claim7 := { stood := { row := fnExactRestoreColumnUptoRow, standIns := [], harness := (true, "bc6ca8dfee119a1eb64999733c4ff5f625e0ee3f9493a39b5d121a8fe50f1854"), looks := true }, kinds := [], alts := [], laidByText := true, laidKinds := [.data, .pinned], laidTests := true, laidLooks := .later }
def FnExactRestoreColumnUptoCardSaid : Prop := Claim7.holds Tryd.pinned (.plain (OpenSpec.upto fnExactRestoreColumnSpec)) fnExactRestoreColumnUptoCard

/-- THE SECOND FORM's CARD OF 'laws.FnRestore'. -/
def fnRestoreUptoCard : Claim7 := { stood := { row := fnRestoreUptoRow, standIns := [], harness := (true, "bc6ca8dfee119a1eb64999733c4ff5f625e0ee3f9493a39b5d121a8fe50f1854"), looks := true }, kinds := [], alts := [], laidByText := true, laidKinds := [.data, .pinned], laidTests := true, laidLooks := .later }
def FnRestoreUptoCardSaid : Prop := Claim7.holds Tryd.pinned (.plain (OpenSpec.upto fnRestoreSpec)) fnRestoreUptoCard

/-- THE SECOND FORM's CARD OF 'laws.FnStereotype'. -/
def fnStereotypeUptoCard : Claim7 := { stood := { row := fnStereotypeUptoRow, standIns := [], harness := (true, "bc6ca8dfee119a1eb64999733c4ff5f625e0ee3f9493a39b5d121a8fe50f1854"), looks := true }, kinds := [], alts := [], laidByText := true, laidKinds := [.data, .pinned], laidTests := true, laidLooks := .later }
def FnStereotypeUptoCardSaid : Prop := Claim7.holds Tryd.pinned (.plain (OpenSpec.upto fnStereotypeSpec)) fnStereotypeUptoCard

/-- THE SECOND FORM's CARD OF 'laws.FnReadStereotype'. -/
def fnReadStereotypeUptoCard : Claim7 := { stood := { row := fnReadStereotypeUptoRow, standIns := [], harness := (true, "bc6ca8dfee119a1eb64999733c4ff5f625e0ee3f9493a39b5d121a8fe50f1854"), looks := true }, kinds := [], alts := [], laidByText := true, laidKinds := [.data, .pinned], laidTests := true, laidLooks := .later }
def FnReadStereotypeUptoCardSaid : Prop := Claim7.holds Tryd.pinned (.plain (OpenSpec.upto fnReadStereotypeSpec)) fnReadStereotypeUptoCard

/-- THE SECOND FORM's CARD OF 'laws.FnExactReadStereotype'. -/
def fnExactReadStereotypeUptoCard : Claim7 := { stood := { row := fnExactReadStereotypeUptoRow, standIns := [], harness := (true, "bc6ca8dfee119a1eb64999733c4ff5f625e0ee3f9493a39b5d121a8fe50f1854"), looks := true }, kinds := [], alts := [], laidByText := true, laidKinds := [.data, .pinned], laidTests := true, laidLooks := .later }
def FnExactReadStereotypeUptoCardSaid : Prop := Claim7.holds Tryd.pinned (.plain (OpenSpec.upto fnExactReadStereotypeSpec)) fnExactReadStereotypeUptoCard

/-- THE SECOND FORM's CARD OF 'laws.FnExactPrintTable'. -/
def fnExactPrintTableUptoCard : Claim7 := { stood := { row := fnExactPrintTableUptoRow, standIns := [], harness := (true, "bc6ca8dfee119a1eb64999733c4ff5f625e0ee3f9493a39b5d121a8fe50f1854"), looks := true }, kinds := [], alts := [], laidByText := true, laidKinds := [.data, .data, .data], laidTests := true, laidLooks := .later }
def FnExactPrintTableUptoCardSaid : Prop := Claim7.holds Tryd.pinned (.plain (OpenSpec.upto fnExactPrintTableSpec)) fnExactPrintTableUptoCard

/-- THE SECOND FORM's CARD OF 'laws.FnExactPageLines'. -/
def fnExactPageLinesUptoCard : Claim7 := { stood := { row := fnExactPageLinesUptoRow, standIns := [], harness := (true, "bc6ca8dfee119a1eb64999733c4ff5f625e0ee3f9493a39b5d121a8fe50f1854"), looks := true }, kinds := [], alts := [], laidByText := true, laidKinds := [.data, .data, .data], laidTests := true, laidLooks := .later }
def FnExactPageLinesUptoCardSaid : Prop := Claim7.holds Tryd.pinned (.plain (OpenSpec.upto fnExactPageLinesSpec)) fnExactPageLinesUptoCard

/-- THE SECOND FORM's CARD OF 'laws.FnExactParseGrouped'. -/
def fnExactParseGroupedUptoCard : Claim7 := { stood := { row := fnExactParseGroupedUptoRow, standIns := [], harness := (true, "bc6ca8dfee119a1eb64999733c4ff5f625e0ee3f9493a39b5d121a8fe50f1854"), looks := true }, kinds := [], alts := [], laidByText := true, laidKinds := [.data, .data, .data, .data, .sentinel, .sentinel, .pinned], laidTests := true, laidLooks := .later }
def FnExactParseGroupedUptoCardSaid : Prop := Claim7.holds Tryd.pinned (.plain (OpenSpec.upto fnExactParseGroupedSpec)) fnExactParseGroupedUptoCard

/-- THE SECOND FORM's CARD OF 'laws.FnGrouped'. -/
def fnGroupedUptoCard : Claim7 := { stood := { row := fnGroupedUptoRow, standIns := [], harness := (true, "bc6ca8dfee119a1eb64999733c4ff5f625e0ee3f9493a39b5d121a8fe50f1854"), looks := true }, kinds := [], alts := [], laidByText := true, laidKinds := [.data, .data, .data, .data, .sentinel, .sentinel, .pinned], laidTests := true, laidLooks := .later }
def FnGroupedUptoCardSaid : Prop := Claim7.holds Tryd.pinned (.plain (OpenSpec.upto fnGroupedSpec)) fnGroupedUptoCard
end Rows
end Go.Proofs.YthpchphncelkpaaDoor
