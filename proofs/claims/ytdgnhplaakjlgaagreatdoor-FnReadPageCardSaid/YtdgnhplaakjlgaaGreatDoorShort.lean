/- Contracts: a shortened column, in the reference. -/
import Derived.Test.YtdgnhplaakjlgaaGreatDoorCols
import Derived.Test.YtdgnhplaakjlgaaGreatDoorMany
import Derived.Test.YtdgnhplaakjlgaaGreatDoorEnc
import Derived.WalkSpells
namespace Go.Proofs.YtdgnhplaakjlgaaGreatDoor
set_option linter.unusedVariables false
open Go.RowKit

/-- how many bytes two strings share at their beginnings, but at most all but the first one's last -/
def shL : List UInt8 → List UInt8 → Nat
  | a :: a2 :: l, b :: bs => if a = b then 1 + shL (a2 :: l) bs else 0
  | _, _ => 0
theorem shL_stop {a b : List UInt8} (h : a.length ≤ 1) : shL a b = 0 := by
  match a, h with
  | [], _ => simp [shL]
  | [x], _ => simp [shL]
  | x :: y :: l, h => simp at h
theorem shL_le (a b : List UInt8) : shL a b ≤ a.length - 1 := by
  induction a generalizing b with
  | nil => simp [shL]
  | cons x a ih =>
    match a, b with
    | [], _ => simp [shL]
    | y :: l, [] => simp [shL]
    | y :: l, z :: b =>
      rw [shL]
      split
      · have := ih b; simp at this ⊢; omega
      · omega
theorem shL_drop {a b : List UInt8} {n : Nat} (h1 : n + 1 < a.length) (h2 : n < b.length) (he : a[n]'(by omega) = b[n]) : shL (a.drop n) (b.drop n) = 1 + shL (a.drop (n + 1)) (b.drop (n + 1)) := by
  rw [List.drop_eq_getElem_cons (by omega : n < a.length), List.drop_eq_getElem_cons h2, List.drop_eq_getElem_cons h1, shL, if_pos he]
theorem shL_drop_ne {a b : List UInt8} {n : Nat} (h1 : n + 1 < a.length) (h2 : n < b.length) (he : a[n]'(by omega) ≠ b[n]) : shL (a.drop n) (b.drop n) = 0 := by
  rw [List.drop_eq_getElem_cons (by omega : n < a.length), List.drop_eq_getElem_cons h2, List.drop_eq_getElem_cons h1, shL, if_neg he]

/-- all are columns of the first one's width -/
def colsB (xs : List ByteArray) : Bool := decide (xs.length ≤ 60) && xs.all fun s => colB s && decide (s.size = (xs.getD 0 noS).size)
def shoN (xs : List ByteArray) (i : Nat) : Nat := if i = 0 then 0 else shL (xs.getD i noS).data.toList (xs.getD (i - 1) noS).data.toList
def shoL (n : Nat) (s : ByteArray) : List UInt8 := List.replicate n 32 ++ s.data.toList.drop n
def shoE (xs : List ByteArray) (i : Nat) : ByteArray := ⟨(shoL (shoN xs i) (xs.getD i noS)).toArray⟩
theorem shoE_is (xs : List ByteArray) (i : Nat) : IsS (shoE xs i) (shoL (shoN xs i) (xs.getD i noS)) := IsS.mk _
def shorF (xs : List ByteArray) : List ByteArray := if colsB xs = true then (List.range xs.length).map (shoE xs) else []
theorem colsB_iff {xs : List ByteArray} (h : colsB xs = true) : xs.length ≤ 60 ∧ ∀ s ∈ xs, colB s = true ∧ s.size = (xs.getD 0 noS).size := by
  unfold colsB at h
  simp only [Bool.and_eq_true, decide_eq_true_eq, List.all_eq_true] at h
  exact h
theorem shorF_len (xs : List ByteArray) : (shorF xs).length ≤ 60 := by
  unfold shorF
  split
  · rename_i h; rw [List.length_map, List.length_range]; exact (colsB_iff h).1
  · simp

end Go.Proofs.YtdgnhplaakjlgaaGreatDoor
