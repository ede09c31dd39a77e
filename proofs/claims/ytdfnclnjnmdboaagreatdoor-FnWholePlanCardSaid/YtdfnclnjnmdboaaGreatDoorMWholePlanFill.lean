/- Lemmas and contracts for WholePlan (Fill): plain words on memory, contracts of the functions that the law reaches. No condition but what each states. -/
import Derived.Test.YtdfnclnjnmdboaaGreatDoorMWholePlanStrs
namespace Go.Proofs.YtdfnclnjnmdboaaGreatDoor
set_option linter.unusedVariables false
open Go.RowKit

/-- texts, of which the first j are written -/
def fillS (l : List ByteArray) (n j : Nat) : List ByteArray := l.take j ++ List.replicate (n - j) noS
theorem fillS_zero (l : List ByteArray) (n : Nat) : (fillS l n 0).map Value.string = List.replicate n (.string ByteArray.empty) := by simp [fillS, noS]
theorem fillS_len (l : List ByteArray) {n j : Nat} (h : j ≤ l.length) (hn : j ≤ n) : (fillS l n j).length = n := by simp [fillS]; omega
theorem fillS_end (l : List ByteArray) : fillS l l.length l.length = l := by simp [fillS]
theorem fillS_set (l : List ByteArray) {n j : Nat} (h : j < l.length) (hn : j < n) : ((fillS l n j).map Value.string).set j (.string (l.getD j noS)) = (fillS l n (j + 1)).map Value.string := by
  have h1 : (l.take j).length = j := by simp; omega
  have h2 : l.take (j + 1) = l.take j ++ [l.getD j noS] := by
    rw [List.take_add_one]; congr 1; simp [List.getD, h]
  obtain ⟨m, hm⟩ : ∃ m, n - j = m + 1 := ⟨n - j - 1, by omega⟩
  have e1 : (fillS l n j).map Value.string = (l.take j).map Value.string ++ .string noS :: (List.replicate m noS).map Value.string := by
    unfold fillS
    rw [hm, List.replicate_succ, List.map_append, List.map_cons]
  have e2 : (fillS l n (j + 1)).map Value.string = (l.take j).map Value.string ++ .string (l.getD j noS) :: (List.replicate m noS).map Value.string := by
    unfold fillS
    rw [h2, show n - (j + 1) = m by omega, List.append_assoc, List.map_append, List.map_append]
    rfl
  have h4 : ((l.take j).map Value.string).length = j := by rw [List.length_map, h1]
  rw [e1, e2, List.set_append_right _ _ (by rw [h4]; exact Nat.le_refl _), h4, Nat.sub_self, List.set_cons_zero]
end Go.Proofs.YtdfnclnjnmdboaaGreatDoor
