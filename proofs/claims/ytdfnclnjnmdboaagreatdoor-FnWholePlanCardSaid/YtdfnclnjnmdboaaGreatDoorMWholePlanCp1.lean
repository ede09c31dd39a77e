/- Lemmas and contracts for WholePlan (Cp1): plain words on memory, contracts of the functions that the law reaches. No condition but what each states. -/
import Derived.Test.YtdfnclnjnmdboaaGreatDoorMWholePlanDrS5
import Derived.Test.YtdfnclnjnmdboaaGreatDoorMWholePlanGrP2
namespace Go.Proofs.YtdfnclnjnmdboaaGreatDoor
set_option linter.unusedVariables false
open Go.RowKit

/-- a function of four results returns them -/
theorem results_tmp4 {fn : Func} {s t u v : Tmp} (h : fn.results = #[.tmp s, .tmp t, .tmp u, .tmp v]) (tmps : Array Value) (P : Program) (w : World) :
    (results fn tmps).run P w = .ok (.tuple #[tmps.getD s undef, tmps.getD t undef, tmps.getD u undef, tmps.getD v undef]) w := by
  simp [results, h]
/-- two costs are drawn -/
def DrawC (w : World) (g P : Nat) (e : Ending) (w' : World) : Prop :=
  ∃ a b : Int, e = .returned (.tuple #[.int .i64 a, .int .i64 b]) ∧ (-1 ≤ a ∧ a ≤ 1001) ∧ (-1 ≤ b ∧ b ≤ 1001) ∧ IsRdB w' g P ∧ w.grownBy w' (some g)
/-- a table, a degree and two costs are drawn -/
def DrawTDC (w : World) (e : Ending) (w' : World) : Prop :=
  ∃ v xs, ∃ d a b : Int, e = .returned (.tuple #[v, .int .i64 d, .int .i64 a, .int .i64 b]) ∧ OwnI w' w.heap.size v xs ∧ xs.length ≤ 61 ∧ (-1 ≤ d ∧ d ≤ 7) ∧ (-1 ≤ a ∧ a ≤ 1001) ∧ (-1 ≤ b ∧ b ≤ 1001) ∧ Below w.heap.size w w'
end Go.Proofs.YtdfnclnjnmdboaaGreatDoor
