/-
  DERIVED. GIVEN WITH THE SEED: THE CARDS: each row of YtdfnclnjnmdboaaDoorRows.lean that lists a variable, with what it lists TIED to the program's text (the seventh form; the later family's looks); each row that meets fmt, with fmt's text TOLD by the authors' own Lean function (tested against real Go, not proved from fmt's source: count such statements apart). THE CARD IS WHAT COUNTS. Prove the row's statement (the work); the ties are given (YtdfnclnjnmdboaaDoorTie.lean); close each card by the builder's one call (the guide's Derived/Test/ToyasCard.lean, 'card_holds'). Laid BY PROGRAM, IN A SANDBOX (cutbox-door.mjs). By AI agents, Wed Nov 11 2026. No macro, syntax, notation, axiom, sorry.
-/
import Derived.Test.YtdfnclnjnmdboaaDoorRows
import GoSem.ClaimSeven
namespace Go.Proofs.YtdfnclnjnmdboaaDoor
namespace Rows

/-- THE TIED CARD OF 'laws.FnExactFormatPlan'. -/
def fnExactFormatPlanCard : Claim7 := { stood := { row := fnExactFormatPlanRow, standIns := [], harness := (true, "be86d0ffbee79c72999bee3ef8be5e46fc78f20a0dd7db65c4e8f277f1440da8"), looks := true }, kinds := [], alts := [], laidByText := true, laidKinds := [.data, .data, .data], laidTests := true, laidLooks := .later }
def FnExactFormatPlanCardSaid : Prop := Claim7.holds Tryd.pinned (.plain (OpenSpec.ofChange fnExactFormatPlanSpec)) fnExactFormatPlanCard

/-- THE TIED CARD OF 'laws.FnExactParsePlan'. -/
def fnExactParsePlanCard : Claim7 := { stood := { row := fnExactParsePlanRow, standIns := [], harness := (true, "be86d0ffbee79c72999bee3ef8be5e46fc78f20a0dd7db65c4e8f277f1440da8"), looks := true }, kinds := [], alts := [], laidByText := true, laidKinds := [.data, .data, .data, .data, .sentinel, .sentinel, .pinned], laidTests := true, laidLooks := .later }
def FnExactParsePlanCardSaid : Prop := Claim7.holds Tryd.pinned (.plain (OpenSpec.ofChange fnExactParsePlanSpec)) fnExactParsePlanCard

/-- THE SECOND FORM's CARD OF 'laws.FnExactFormatPlan'. -/
def fnExactFormatPlanUptoCard : Claim7 := { stood := { row := fnExactFormatPlanUptoRow, standIns := [], harness := (true, "be86d0ffbee79c72999bee3ef8be5e46fc78f20a0dd7db65c4e8f277f1440da8"), looks := true }, kinds := [], alts := [], laidByText := true, laidKinds := [.data, .data, .data], laidTests := true, laidLooks := .later }
def FnExactFormatPlanUptoCardSaid : Prop := Claim7.holds Tryd.pinned (.plain (OpenSpec.upto fnExactFormatPlanSpec)) fnExactFormatPlanUptoCard

/-- THE SECOND FORM's CARD OF 'laws.FnExactParsePlan'. -/
def fnExactParsePlanUptoCard : Claim7 := { stood := { row := fnExactParsePlanUptoRow, standIns := [], harness := (true, "be86d0ffbee79c72999bee3ef8be5e46fc78f20a0dd7db65c4e8f277f1440da8"), looks := true }, kinds := [], alts := [], laidByText := true, laidKinds := [.data, .data, .data, .data, .sentinel, .sentinel, .pinned], laidTests := true, laidLooks := .later }
def FnExactParsePlanUptoCardSaid : Prop := Claim7.holds Tryd.pinned (.plain (OpenSpec.upto fnExactParsePlanSpec)) fnExactParsePlanUptoCard
end Rows
end Go.Proofs.YtdfnclnjnmdboaaDoor
