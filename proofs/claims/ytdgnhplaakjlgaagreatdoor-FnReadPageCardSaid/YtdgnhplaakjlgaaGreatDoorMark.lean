/- Contracts: the laws' helpers on []int: equal, marked, held, copied. -/
import Derived.Test.YtdgnhplaakjlgaaGreatDoorApp
import Derived.Deep.Light
import Derived.Deep.QuietTactic
import Derived.BigQuiet
import Derived.WalkSmall
import Derived.WalkLawsBesides
namespace Go.Proofs.YtdgnhplaakjlgaaGreatDoor
set_option linter.unusedVariables false
open Go.RowKit

theorem take_eq_step {xs ys : List Int} {k : Nat} (h1 : k < xs.length) (h2 : k < ys.length) (h : xs.take k = ys.take k) (e : xs.getD k 0 = ys.getD k 0) : xs.take (k + 1) = ys.take (k + 1) := by
  rw [List.take_add_one, List.take_add_one, h]
  simp [List.getD, h1, h2] at e
  simp [h1, h2, e]

abbrev OwnI (w : World) (base : Nat) (v : Value) (xs : List Int) : Prop := w.ownsRow base 3 1 v xs.length (xs.map (Value.int .i64))
def marks (c : Int) (n : Nat) : List Int := (List.range n).map fun (i : Nat) => c + i
def mkS (c : Int) (k : Nat) (xs : List Int) : List Int := marks c k ++ xs.drop k
theorem marks_len (c : Int) (n : Nat) : (marks c n).length = n := by simp [marks]
theorem mkS_len (c : Int) (k : Nat) (xs : List Int) (h : k ≤ xs.length) : (mkS c k xs).length = xs.length := by simp [mkS, marks_len]; omega
theorem mkS_end (c : Int) (xs : List Int) : mkS c xs.length xs = marks c xs.length := by simp [mkS]
theorem mkS_set (c : Int) (k : Nat) (xs : List Int) (h : k < xs.length) : (mkS c k xs).set k (c + k) = mkS c (k + 1) xs := by
  unfold mkS
  rw [List.set_append_right _ _ (by rw [marks_len]; omega), marks_len, Nat.sub_self]
  have : xs.drop k = xs[k] :: xs.drop (k + 1) := List.drop_eq_getElem_cons h
  rw [this, List.set_cons_zero]
  simp [marks, List.range_succ]
theorem mkS_map_set (c : Int) (k : Nat) (xs : List Int) (h : k < xs.length) : ((mkS c k xs).map (Value.int .i64)).set k (.int .i64 (c + k)) = (mkS c (k + 1) xs).map (Value.int .i64) := by
  rw [← mkS_set c k xs h, List.map_set]

theorem marks_getD (c : Int) (n k : Nat) (h : k < n) : (marks c n).getD k 0 = c + k := by simp [marks, List.getD, h]

theorem marks_RdI {w : World} {base ty : Nat} {v : Value} {n : Nat} {c : Int} (h : w.ownsRow base ty 1 v n ((marks c n).map (Value.int .i64))) : RdI w v (marks c n) := owns_RdI h
end Go.Proofs.YtdgnhplaakjlgaaGreatDoor
