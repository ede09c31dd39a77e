/-
  DERIVED. GIVEN WITH THE SEED: THE CARDS: each row of YtdfnclnjnmdboaaGreatDoorRows.lean that lists a variable, with what it lists TIED to the program's text (the seventh form; the later family's looks); each row that meets fmt, with fmt's text TOLD by the authors' own Lean function (tested against real Go, not proved from fmt's source: count such statements apart). THE CARD IS WHAT COUNTS. Prove the row's statement (the work); the ties are given (YtdfnclnjnmdboaaGreatDoorTie.lean); close each card by the builder's one call (the guide's Derived/Test/ToyasCard.lean, 'card_holds'). Laid BY PROGRAM, IN A SANDBOX (cutbox-door.mjs). By AI agents, Wed Nov 11 2026. No macro, syntax, notation, axiom, sorry.
-/
import Derived.Test.YtdfnclnjnmdboaaGreatDoorRows
import GoSem.ClaimSeven
namespace Go.Proofs.YtdfnclnjnmdboaaGreatDoor
namespace Rows

/-- THE TIED CARD OF 'laws.FnPlanText'. -/
def fnPlanTextCard : Claim7 := { stood := { row := fnPlanTextRow, standIns := [], harness := (true, "ea64c503bda052fc1e57271ce2bf915fed8b91233bed33fc3305e3826b550267"), looks := true }, kinds := [], alts := [], laidByText := true, laidKinds := [.data, .data, .data, .data, .sentinel, .sentinel, .pinned], laidTests := true, laidLooks := .later }
def FnPlanTextCardSaid : Prop := Claim7.holds Tryz.pinned (.plain (OpenSpec.ofChange fnPlanTextSpec)) fnPlanTextCard

/-- THE TIED CARD OF 'laws.FnWholePlan'. -/
def fnWholePlanCard : Claim7 := { stood := { row := fnWholePlanRow, standIns := [], harness := (true, "ea64c503bda052fc1e57271ce2bf915fed8b91233bed33fc3305e3826b550267"), looks := true }, kinds := [], alts := [], laidByText := true, laidKinds := [.data, .data, .data, .data, .sentinel, .sentinel, .pinned], laidTests := true, laidLooks := .later }
def FnWholePlanCardSaid : Prop := Claim7.holds Tryz.pinned (.plain (OpenSpec.ofChange fnWholePlanSpec)) fnWholePlanCard

/-- THE SECOND FORM's CARD OF 'laws.FnPlanText'. -/
def fnPlanTextUptoCard : Claim7 := { stood := { row := fnPlanTextUptoRow, standIns := [], harness := (true, "ea64c503bda052fc1e57271ce2bf915fed8b91233bed33fc3305e3826b550267"), looks := true }, kinds := [], alts := [], laidByText := true, laidKinds := [.data, .data, .data, .data, .sentinel, .sentinel, .pinned], laidTests := true, laidLooks := .later }
def FnPlanTextUptoCardSaid : Prop := Claim7.holds Tryz.pinned (.plain (OpenSpec.upto fnPlanTextSpec)) fnPlanTextUptoCard

/-- THE SECOND FORM's CARD OF 'laws.FnWholePlan'. -/
def fnWholePlanUptoCard : Claim7 := { stood := { row := fnWholePlanUptoRow, standIns := [], harness := (true, "ea64c503bda052fc1e57271ce2bf915fed8b91233bed33fc3305e3826b550267"), looks := true }, kinds := [], alts := [], laidByText := true, laidKinds := [.data, .data, .data, .data, .sentinel, .sentinel, .pinned], laidTests := true, laidLooks := .later }
def FnWholePlanUptoCardSaid : Prop := Claim7.holds Tryz.pinned (.plain (OpenSpec.upto fnWholePlanSpec)) fnWholePlanUptoCard
end Rows
end Go.Proofs.YtdfnclnjnmdboaaGreatDoor
