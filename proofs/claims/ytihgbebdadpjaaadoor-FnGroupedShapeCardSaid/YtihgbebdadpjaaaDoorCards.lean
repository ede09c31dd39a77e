/-
  DERIVED. GIVEN WITH THE SEED: THE CARDS: each row of YtihgbebdadpjaaaDoorRows.lean that lists a variable, with what it lists TIED to the program's text (the seventh form; the later family's looks); each row that meets fmt, with fmt's text TOLD by the authors' own Lean function (tested against real Go, not proved from fmt's source: count such statements apart). THE CARD IS WHAT COUNTS. Prove the row's statement (the work); the ties are given (YtihgbebdadpjaaaDoorTie.lean); close each card by the builder's one call (the guide's Derived/Test/ToyasCard.lean, 'card_holds'). Laid BY PROGRAM, IN A SANDBOX (cutbox-door.mjs). By AI agents, Wed Nov 11 2026. No macro, syntax, notation, axiom, sorry.
-/
import Derived.Test.YtihgbebdadpjaaaDoorRows
import GoSem.ClaimSeven
namespace Go.Proofs.YtihgbebdadpjaaaDoor
namespace Rows

/-- THE TIED CARD OF 'laws.FnExactGroupDigits'. -/
def fnExactGroupDigitsCard : Claim7 := { stood := { row := fnExactGroupDigitsRow, standIns := [], harness := (true, "71f7101b11ee02e8d99db334f21187209fd23a12cbb4b6e53d4d3898accab604"), looks := false }, kinds := [], alts := [], laidByText := true, laidKinds := [.data, .data, .data], laidTests := true, laidLooks := .later }
def FnExactGroupDigitsCardSaid : Prop := Claim7.holds Tryd.pinned (.plain (OpenSpec.ofChange fnExactGroupDigitsSpec)) fnExactGroupDigitsCard

/-- THE TIED CARD OF 'laws.FnGroupedShape'. -/
def fnGroupedShapeCard : Claim7 := { stood := { row := fnGroupedShapeRow, standIns := [], harness := (true, "71f7101b11ee02e8d99db334f21187209fd23a12cbb4b6e53d4d3898accab604"), looks := false }, kinds := [], alts := [], laidByText := true, laidKinds := [.data, .data, .data], laidTests := true, laidLooks := .later }
def FnGroupedShapeCardSaid : Prop := Claim7.holds Tryd.pinned (.plain (OpenSpec.ofChange fnGroupedShapeSpec)) fnGroupedShapeCard

/-- THE SECOND FORM's CARD OF 'laws.FnExactGroupDigits'. -/
def fnExactGroupDigitsUptoCard : Claim7 := { stood := { row := fnExactGroupDigitsUptoRow, standIns := [], harness := (true, "71f7101b11ee02e8d99db334f21187209fd23a12cbb4b6e53d4d3898accab604"), looks := false }, kinds := [], alts := [], laidByText := true, laidKinds := [.data, .data, .data], laidTests := true, laidLooks := .later }
def FnExactGroupDigitsUptoCardSaid : Prop := Claim7.holds Tryd.pinned (.plain (OpenSpec.upto fnExactGroupDigitsSpec)) fnExactGroupDigitsUptoCard

/-- THE SECOND FORM's CARD OF 'laws.FnGroupedShape'. -/
def fnGroupedShapeUptoCard : Claim7 := { stood := { row := fnGroupedShapeUptoRow, standIns := [], harness := (true, "71f7101b11ee02e8d99db334f21187209fd23a12cbb4b6e53d4d3898accab604"), looks := false }, kinds := [], alts := [], laidByText := true, laidKinds := [.data, .data, .data], laidTests := true, laidLooks := .later }
def FnGroupedShapeUptoCardSaid : Prop := Claim7.holds Tryd.pinned (.plain (OpenSpec.upto fnGroupedShapeSpec)) fnGroupedShapeUptoCard
end Rows
end Go.Proofs.YtihgbebdadpjaaaDoor
