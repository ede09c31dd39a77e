/- Contracts: the index of a place, program and reference. -/
import Derived.Test.YtdgnhplaakjlgaaGreatDoorLay
namespace Go.Proofs.YtdgnhplaakjlgaaGreatDoor
set_option linter.unusedVariables false
open Go.RowKit

def ipB (r a c p x y : Int) : Bool := layB r a c && decide (0 ≤ p ∧ p < 60 ∧ 0 ≤ x ∧ x < r ∧ 0 ≤ y ∧ y < a)
def ipN (r a c p x y : Int) : Int := if ipB r a c p x y = true ∧ p * (r * a) + y * r + x < 60 then p * (r * a) + y * r + x else -1

end Go.Proofs.YtdgnhplaakjlgaaGreatDoor
