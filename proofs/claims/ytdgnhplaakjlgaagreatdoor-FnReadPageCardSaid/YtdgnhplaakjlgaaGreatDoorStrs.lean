/- Contracts of the laws' own helpers on slices of strings: equal, measured, copied. -/
import Derived.Test.YtdgnhplaakjlgaaGreatDoorMark
namespace Go.Proofs.YtdgnhplaakjlgaaGreatDoor
set_option linter.unusedVariables false
open Go.RowKit

theorem infoStr : (Tryz.prog.info? 9).map (fun i => (i.zero, i.size, i.bytes)) = some (some (.string ByteArray.empty), 1, 16) := by kernel_rfl
def noS : ByteArray := ByteArray.empty
/-- .. as a list of strings -/
def RdS (w : World) (v : Value) (xs : List ByteArray) : Prop := RdL w v (xs.map Value.string)
theorem RdS.kept {w w' : World} {v : Value} {xs : List ByteArray} (h : RdS w v xs) (hb : Below w.heap.size w w') : RdS w' v xs := RdL.kept h hb
theorem RdS.nil (w : World) (a : Option Addr) (cap : Nat) : RdS w (.slice a 0 cap) [] := ⟨a, cap, rfl, .inl rfl⟩
/-- opened: the value's shape; where there is an element, its cells -/
theorem RdS.op {w : World} {v : Value} {xs : List ByteArray} (h : RdS w v xs) :
    (∃ a cap, v = .slice a 0 cap ∧ xs = []) ∨ ∃ b off cap, v = .slice (some ⟨b, off, none⟩) xs.length cap ∧ b < w.heap.size ∧ ∀ i, i < xs.length → w.cell? ⟨b, off + i, none⟩ = some (.string (xs.getD i noS)) := by
  obtain ⟨a, cap, rfl, h⟩ := h
  rcases h with h | ⟨b, off, rfl, hlt, h⟩
  · have h : xs = [] := by simpa using h
    subst h
    exact .inl ⟨a, cap, rfl, rfl⟩
  · refine .inr ⟨b, off, cap, by simp, hlt, fun i hi => ?_⟩
    rw [h i (by simpa using hi)]
    simp [List.getD, hi]
abbrev OwnS (w : World) (base : Nat) (v : Value) (xs : List ByteArray) : Prop := w.ownsRow base 9 1 v xs.length (xs.map Value.string)
theorem owns_RdS {w : World} {base : Nat} {e : TypeId} {v : Value} {n : Nat} {xs : List ByteArray} (h : w.ownsRow base e 1 v n (xs.map Value.string)) : RdS w v xs := owns_RdL h

/-- the sum of the lengths -/
def tot (xs : List ByteArray) : Nat := (xs.map ByteArray.size).sum
theorem tot_succ (xs : List ByteArray) (k : Nat) (h : k < xs.length) : tot (xs.take (k + 1)) = tot (xs.take k) + (xs.getD k noS).size := by
  unfold tot
  rw [List.take_add_one]
  simp [List.getD, h]
  rw [List.take_add_one]
  simp [h]
theorem tot_le (xs : List ByteArray) (k : Nat) : tot (xs.take k) ≤ tot xs := by
  have : tot xs = tot (xs.take k) + tot (xs.drop k) := by
    unfold tot
    rw [← List.sum_append, ← List.map_append, List.take_append_drop]
  omega
theorem tot_mem {xs : List ByteArray} {s : ByteArray} (h : s ∈ xs) : s.size ≤ tot xs := by
  induction xs with
  | nil => cases h
  | cons x xs ih =>
    unfold tot at ih ⊢
    simp only [List.map_cons, List.sum_cons]
    rcases List.mem_cons.1 h with rfl | h
    · omega
    · have := ih h; omega
theorem tot_getD (xs : List ByteArray) (k : Nat) : (xs.getD k noS).size ≤ tot xs := by
  by_cases h : k < xs.length
  · apply tot_mem; simp [List.getD, h]
  · have : (xs.getD k noS) = noS := by simp [List.getD, h]
    rw [this]; exact Nat.zero_le _
def szR (xs : List ByteArray) (L : Int) : Int := if (xs.length : Int) + tot xs ≤ L then L - xs.length - tot xs else -1

theorem str_beq (s : ByteArray) : (s.toList == s.toList) = true := by simp
theorem str_bne {s t : ByteArray} (h : s ≠ t) : (s.toList == t.toList) = false := by
  rw [beq_eq_false_iff_ne]
  intro e
  apply h
  rw [ByteArray.toList_eq, ByteArray.toList_eq] at e
  exact ByteArray.ext (Array.ext' e)
theorem take_eq_stepS {xs ys : List ByteArray} {k : Nat} (h1 : k < xs.length) (h2 : k < ys.length) (h : xs.take k = ys.take k) (e : xs.getD k noS = ys.getD k noS) : xs.take (k + 1) = ys.take (k + 1) := by
  rw [List.take_add_one, List.take_add_one, h]
  simp [List.getD, h1, h2] at e
  simp [h1, h2, e]

end Go.Proofs.YtdgnhplaakjlgaaGreatDoor
