/- Contracts of drawn layouts and places, as the laws call for them. -/
import Derived.Test.YtihgbebdadpjaaaDrawL
import Derived.Deep.RegionWith
namespace Go.Proofs.Ytihgbebdadpjaaa
set_option linter.unusedVariables false
open Go.RowKit

def DrawLI (w : World) (e : Ending) (w' : World) : Prop :=
  ∃ a b c n : Int, e = .returned (.tuple #[.agg #[.int .i64 a, .int .i64 b, .int .i64 c], .int .i64 n]) ∧ Below w.heap.size w w'

end Go.Proofs.Ytihgbebdadpjaaa
