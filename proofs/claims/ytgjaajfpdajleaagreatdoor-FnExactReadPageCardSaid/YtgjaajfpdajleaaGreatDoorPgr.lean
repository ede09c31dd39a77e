/- Contracts: a number is parsed from its digits in groups, program and reference. -/
import Derived.Test.YtgjaajfpdajleaaGreatDoorPgrP
import Derived.Test.YtgjaajfpdajleaaGreatDoorNumF
import Derived.Test.YtgjaajfpdajleaaGreatDoorGrp2
namespace Go.Proofs.YtgjaajfpdajleaaGreatDoor
set_option linter.unusedVariables false
open Go.RowKit

/-- the library's limit of short searches is some number -/
def MaxW (w : World) : Prop := ∃ m, w.cell? ⟨2, 0, none⟩ = some (.int .i64 m)
theorem MaxW.below {w w' : World} (h : MaxW w) (hb : Below w.heap.size w w') : MaxW w' := by
  obtain ⟨m, h⟩ := h
  have hlt := Lib.lt_of_cell h
  exact ⟨m, by rw [(bcell hb).1 _ _ hlt]; exact h⟩
def PgRet (l : List UInt8) (w : World) (e : Ending) (w' : World) : Prop := e = .returned (.tuple #[.int .i64 ((pgP l).getD 0), .bool (pgP l).isSome]) ∧ Below w.heap.size w w'
theorem pgRet_none {l : List UInt8} {w w' : World} (h : pgP l = none) (hB : Below w.heap.size w w') : PgRet l w (.returned (.tuple #[.int .i64 0, .bool false])) w' := by
  unfold PgRet; rw [h]; exact ⟨rfl, hB⟩
theorem pgRet_some {l : List UInt8} {n : Int} {w w' : World} (h : pgP l = some n) (hB : Below w.heap.size w w') : PgRet l w (.returned (.tuple #[.int .i64 n, .bool true])) w' := by
  unfold PgRet; rw [h]; exact ⟨rfl, hB⟩

end Go.Proofs.YtgjaajfpdajleaaGreatDoor
