/- Plain facts on the lines of a page. No condition; no program in sight. -/
import Derived.Test.YtdgnhplaakjlgaaGreatDoorStr0
import Derived.Lib.Join
namespace Go.Proofs.YtdgnhplaakjlgaaGreatDoor
set_option linter.unusedVariables false

/-- how many columns of a line are filled: f is the line's first place, r the step, n the number of entries -/
def nCol (n f r : Nat) : Nat → Nat
  | 0 => 0
  | a + 1 => if f + a * r < n then a + 1 else nCol n f r a
theorem nCol_le (n f r a : Nat) : nCol n f r a ≤ a := by
  induction a with
  | zero => simp [nCol]
  | succ a ih => unfold nCol; split <;> omega
theorem nCol_in {n f r a i : Nat} (hi : i < nCol n f r a) : f + i * r < n := by
  induction a with
  | zero => simp [nCol] at hi
  | succ a ih =>
    unfold nCol at hi
    split at hi
    · rename_i h
      have := Nat.mul_le_mul_right r (show i ≤ a by omega)
      omega
    · exact ih hi
theorem nCol_out {n f r a i : Nat} (hi : nCol n f r a ≤ i) (ha : i < a) : n ≤ f + i * r := by
  induction a with
  | zero => omega
  | succ a ih =>
    unfold nCol at hi
    split at hi
    · omega
    · by_cases h : i = a
      · subst h; omega
      · exact ih hi (by omega)
/-- the texts of the first c cells of a line -/
def cellsT (t : Nat → List UInt8) (f r c : Nat) : List (List UInt8) := (List.range c).map fun i => t (f + i * r)
theorem cellsT_succ (t : Nat → List UInt8) (f r c : Nat) : cellsT t f r (c + 1) = cellsT t f r c ++ [t (f + c * r)] := by
  unfold cellsT; rw [List.range_succ, List.map_append]; rfl
theorem join_snoc (l : List (List UInt8)) (x : List UInt8) (h : l ≠ []) : Lib.join (l ++ [x]) [32] = Lib.join l [32] ++ 32 :: x := by
  unfold Lib.join
  induction l with
  | nil => exact absurd rfl h
  | cons y l ih =>
    cases l with
    | nil => simp [List.intercalate]
    | cons z l =>
      have := ih (by simp)
      simp only [List.intercalate, List.cons_append, List.intersperse_cons_cons, List.flatten_cons, List.append_assoc] at this ⊢
      rw [this]
end Go.Proofs.YtdgnhplaakjlgaaGreatDoor
