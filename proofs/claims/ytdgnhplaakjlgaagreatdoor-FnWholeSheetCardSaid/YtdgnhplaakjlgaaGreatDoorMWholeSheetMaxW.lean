/- Lemmas and contracts for WholeSheet (MaxW): plain words on memory, contracts of the functions that the law reaches. No condition but what each states. -/
import Derived.Test.YtdgnhplaakjlgaaGreatDoorMWholeSheetFrame
import Derived.Lib.AtoiErrMem
namespace Go.Proofs.YtdgnhplaakjlgaaGreatDoor
set_option linter.unusedVariables false
open Go.RowKit

/-- the library's limit of short searches is some number -/
def MaxW (w : World) : Prop := ∃ m, w.cell? ⟨1, 0, none⟩ = some (.int .i64 m)
theorem MaxW.below {w w' : World} (h : MaxW w) (hb : Below w.heap.size w w') : MaxW w' := by
  obtain ⟨m, h⟩ := h
  have hlt := Lib.lt_of_cell h
  exact ⟨m, by rw [(bcell hb).1 _ _ hlt]; exact h⟩
end Go.Proofs.YtdgnhplaakjlgaaGreatDoor
