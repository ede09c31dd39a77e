/- Contracts: a shortened column, in the reference. -/
import Derived.Test.YtdgnhplaakjlgaaGreatDoorShort
import Derived.Test.YtdgnhplaakjlgaaGreatDoorSapp
namespace Go.Proofs.YtdgnhplaakjlgaaGreatDoor
set_option linter.unusedVariables false
open Go.RowKit

theorem keep2 {w1 wa wb : World} {b o o' : Nat} {v0 v1 : Value} (hb : b < w1.heap.size) (h : Below w1.heap.size w1 wa ∧ wa.cell? ⟨b, o, none⟩ = some v0 ∧ wa.cell? ⟨b, o', none⟩ = some v1) (k : Below wa.heap.size wa wb) :
    Below w1.heap.size w1 wb ∧ wb.cell? ⟨b, o, none⟩ = some v0 ∧ wb.cell? ⟨b, o', none⟩ = some v1 := by
  obtain ⟨h0, h1, h2⟩ := h
  have hs := h0.size
  obtain ⟨hc, _⟩ := bcell k
  exact ⟨bthen h0 k, by rw [hc _ _ (by omega)]; exact h1, by rw [hc _ _ (by omega)]; exact h2⟩
theorem keepW {w wx : World} {b o : Nat} {v0 : Value} (e0 : w.cell? ⟨b, o, none⟩ = some v0) (hb : b < w.heap.size) (hB : Below w.heap.size w wx) : Below w.heap.size w wx ∧ wx.cell? ⟨b, o, none⟩ = some v0 :=
  ⟨hB, by rw [(bcell hB).1 _ _ hb]; exact e0⟩
theorem slice_from (y : ByteArray) (n : Nat) (h : n ≤ y.size) (W : World) : (Instr.slice 9 (.string y) (some (.int .i64 (n : Int))) none none).run Tryz.prog W = .ok (.string (y.extract n y.size)) W := by
  rw [run_slice_string_from_if W 9 y .i64 n Tryz.underlying9, if_pos (by omega), Int.toNat_natCast]
theorem slice_fromT (y : ByteArray) (n : Nat) (h : n ≤ y.size) : ∃ T, (∀ W, (Instr.slice 9 (.string y) (some (.int .i64 (n : Int))) none none).run Tryz.prog W = .ok (.string T) W) ∧ T.size ≤ y.size ∧ IsS T (y.data.toList.drop n) := by
  refine ⟨_, slice_from y n h, by rw [ByteArray.size_extract]; omega, ?_⟩
  refine ((IsS.self y).ext n y.size).cast (List.take_of_length_le ?_)
  rw [List.length_drop, size_data]
  exact Nat.le_refl _
theorem add_str (a b : ByteArray) (h : a.size + b.size ≤ 9223372036854775807) (W : World) : (binOp .add 9 (.string a) (.string b)).run Tryz.prog W = .ok (.string (a ++ b)) W := by
  simp [binOp, run_string_add_sum W a b h]
theorem shoE_of {xs : List ByteArray} {k n : Nat} {y Y : ByteArray} (hy : xs.getD k noS = y) (hn : shoN xs k = n) (hY : IsS Y (List.replicate n 32)) {T : ByteArray} (hT : IsS T (y.data.toList.drop n)) : Y ++ T = shoE xs k := by
  refine IsS.inj ?_ (shoE_is xs k)
  refine (hY.app hT).cast ?_
  unfold shoL
  rw [hy, hn]
theorem range_map_succ {α : Type} (f : Nat → α) (k : Nat) : (List.range (k + 1)).map f = (List.range k).map f ++ [f k] := by
  rw [List.range_succ, List.map_append]; rfl

end Go.Proofs.YtdgnhplaakjlgaaGreatDoor
