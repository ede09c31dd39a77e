/- Contracts: columns of digits. -/
import Derived.Test.YtdgnhplaakjlgaaGreatDoorRows1
import Derived.Test.YtdgnhplaakjlgaaGreatDoorIn1
import Derived.Test.YtdgnhplaakjlgaaGreatDoorMstr
import Derived.Deep.QuietTactic
import Derived.BigQuiet
import Derived.Deep.RegionHeld3
namespace Go.Proofs.YtdgnhplaakjlgaaGreatDoor
set_option linter.unusedVariables false
open Go.RowKit

def dgB (b : UInt8) : Bool := decide (48 ≤ (b.toNat : Int) ∧ (b.toNat : Int) ≤ 57)
def colB (s : ByteArray) : Bool := inB s.size 1 12 && s.data.toList.all dgB
theorem all_take_succ' {α : Type} (p : α → Bool) (l : List α) (k : Nat) (h : k < l.length) : (l.take (k + 1)).all p = ((l.take k).all p && p l[k]) := by
  rw [List.take_succ_eq_append_getElem h, List.all_append]; simp
theorem all_false_at' {α : Type} {p : α → Bool} {l : List α} {k : Nat} (h : k < l.length) (hp : p l[k] = false) : l.all p = false := by
  rw [List.all_eq_false]; exact ⟨l[k], List.getElem_mem h, by rw [hp]; simp⟩
theorem colB_iff {s : ByteArray} (h : colB s = true) : 1 ≤ s.size ∧ s.size ≤ 12 ∧ s.data.toList.all dgB = true := by
  unfold colB at h
  rw [Bool.and_eq_true, inB_iff] at h
  exact ⟨by omega, by omega, h.2⟩

def alikeB (a b : ByteArray) : Bool := colB a && colB b && decide (a.size = b.size)
end Go.Proofs.YtdgnhplaakjlgaaGreatDoor
