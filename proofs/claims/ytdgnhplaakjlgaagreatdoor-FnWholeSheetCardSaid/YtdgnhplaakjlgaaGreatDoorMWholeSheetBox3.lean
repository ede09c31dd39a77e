/- Lemmas and contracts for WholeSheet (Box3): plain words on memory, contracts of the functions that the law reaches. No condition but what each states. -/
import Derived.Test.YtdgnhplaakjlgaaGreatDoorMWholeSheetPsum2
import Derived.Test.YtdgnhplaakjlgaaGreatDoorMWholeSheetStrs
namespace Go.Proofs.YtdgnhplaakjlgaaGreatDoor
set_option linter.unusedVariables false
open Go.RowKit

/-- the box of three numbers at block b -/
def Box3 (b : Nat) (x y z : Int) (w : World) : Prop := w.cell? ⟨b, 0, none⟩ = some (.int .i64 (x)) ∧ w.cell? ⟨b, 1, none⟩ = some (.int .i64 (y)) ∧ w.cell? ⟨b, 2, none⟩ = some (.int .i64 (z)) ∧ b < w.heap.size
theorem Box3.kept {b : Nat} {x y z : Int} {w w' : World} (h : Box3 b x y z w) (hB : Below w.heap.size w w') : Box3 b x y z w' := by
  obtain ⟨h0, h1, h2, h3⟩ := h
  exact ⟨by rw [(bcell hB).1 _ _ h3]; exact h0, by rw [(bcell hB).1 _ _ h3]; exact h1, by rw [(bcell hB).1 _ _ h3]; exact h2, by have := hB.size; omega⟩
theorem Box3.new (w : World) (x y z : Int) (t : TypeId) : Box3 w.heap.size x y z (w.alloc (.cells #[(.int .i64 (x)), (.int .i64 (y)), (.int .i64 (z))] t)) := by
  refine ⟨?_, ?_, ?_, by simp⟩ <;> simp [go_sem]
theorem OwnI_form3 {w : World} {base : Nat} {v : Value} {xs : List Int} (h : OwnI w base v xs) : ∃ a c, v = .slice a xs.length c := by
  obtain ⟨a, cap, rfl, _⟩ := owns_RdI h
  exact ⟨a, cap, by rw [List.length_map]⟩
theorem OwnS_form3 {w : World} {base : Nat} {v : Value} {xs : List ByteArray} (h : OwnS w base v xs) : ∃ a c, v = .slice a xs.length c := by
  obtain ⟨a, cap, rfl, _⟩ := owns_RdS h
  exact ⟨a, cap, by rw [List.length_map]⟩
end Go.Proofs.YtdgnhplaakjlgaaGreatDoor
