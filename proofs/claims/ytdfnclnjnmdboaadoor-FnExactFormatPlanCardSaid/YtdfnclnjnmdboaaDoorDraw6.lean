/- Contracts of the drawn arguments of rounding. -/
import Derived.Test.YtdfnclnjnmdboaaDoorDraw
namespace Go.Proofs.YtdfnclnjnmdboaaDoor
set_option linter.unusedVariables false
open Go.RowKit

theorem ne_of_new {w : World} {g n c : Nat} (h : g < w.heap.size) : ∀ a l k, Value.slice (some ⟨w.heap.size, 0, none⟩) n c = .slice (some a) l k → a.block ≠ g := by
  intro a l k e
  simp only [Value.slice.injEq, Option.some.injEq] at e
  obtain ⟨rfl, _, _⟩ := e
  show w.heap.size ≠ g
  omega
def DrawRR (w : World) (e : Ending) (w' : World) : Prop := ∃ n d way : Int, e = .returned (.tuple #[.int .i64 n, .int .i64 d, .int .i64 way]) ∧ (-1 ≤ d ∧ d ≤ 7) ∧ Below w.heap.size w w'
end Go.Proofs.YtdfnclnjnmdboaaDoor
