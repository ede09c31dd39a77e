/- Lemmas and contracts for PrintRead (DrawL2 DrawL3): plain words on memory, contracts of the functions that the law reaches. No condition but what each states. -/
import Derived.Test.YtgjaajfpdajleaaGreatDoorMPrintReadRd
import Derived.Deep.RegionWith
namespace Go.Proofs.YtgjaajfpdajleaaGreatDoor
set_option linter.unusedVariables false
open Go.RowKit

def DrawLI (w : World) (e : Ending) (w' : World) : Prop :=
  ∃ a b c n : Int, e = .returned (.tuple #[.agg #[.int .i64 a, .int .i64 b, .int .i64 c], .int .i64 n]) ∧ Below w.heap.size w w'

end Go.Proofs.YtgjaajfpdajleaaGreatDoor

namespace Go.Proofs.YtgjaajfpdajleaaGreatDoor
set_option linter.unusedVariables false
open Go.RowKit

def DrawLIII (w : World) (e : Ending) (w' : World) : Prop :=
  ∃ a b c n m k : Int, e = .returned (.tuple #[.agg #[.int .i64 a, .int .i64 b, .int .i64 c], .int .i64 n, .int .i64 m, .int .i64 k]) ∧ (-9223372036854775807 ≤ m ∧ m ≤ 9223372036854775807) ∧ Below w.heap.size w w'

/-- what is carried along: the source, the rows of l and of the result -/
def Keep (w : World) (g P R L : Nat) (a b c : Value) (w0 w3 : World) : Prop :=
  IsRdB w3 g P ∧ Below R w w3 ∧ w3.heap[L]? = some (.cells #[a, b, c] 27 (0, 0)) ∧ w3.heap[R]? = some (.cells #[.int .i64 0, .int .i64 0, .int .i64 0] 27 (0, 0))
theorem Keep.step {w w0 w3 w4 : World} {g P P' R L : Nat} {a b c : Value} (h : Keep w g P R L a b c w0 w3) (hr : IsRdB w4 g P') (hg : w3.grownBy w4 (some g)) (h1 : R < g) (h2 : L ≠ g) (hR : R ≤ w3.heap.size) : Keep w g P' R L a b c w0 w4 :=
  ⟨hr, h.2.1.grown hg hR (fun k hk => by cases hk; omega), keepRow hg h.2.2.1 h2, keepRow hg h.2.2.2 (by omega)⟩

end Go.Proofs.YtgjaajfpdajleaaGreatDoor
