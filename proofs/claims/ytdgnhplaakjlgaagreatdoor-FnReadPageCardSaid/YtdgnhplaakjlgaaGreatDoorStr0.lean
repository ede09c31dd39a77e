/- Plain words on strings: a string that holds a list of bytes. No condition. -/
import Derived.Test.YtdgnhplaakjlgaaGreatDoorStrs
import Derived.Lib.Repeat
namespace Go.Proofs.YtdgnhplaakjlgaaGreatDoor
set_option linter.unusedVariables false
open Go.RowKit

theorem size_data (s : ByteArray) : s.data.toList.length = s.size := Array.length_toList
/-- the string Y holds the bytes L -/
def IsS (Y : ByteArray) (L : List UInt8) : Prop := Y.data.toList = L
theorem IsS.size {Y : ByteArray} {L : List UInt8} (h : IsS Y L) : Y.size = L.length := by rw [← size_data, h]
theorem IsS.self (Y : ByteArray) : IsS Y Y.data.toList := rfl
theorem IsS.eq {Y : ByteArray} {L : List UInt8} (h : IsS Y L) : Y = ⟨L.toArray⟩ := by
  unfold IsS at h; apply ByteArray.ext; apply Array.ext'; simpa using h
theorem IsS.mk (L : List UInt8) : IsS ⟨L.toArray⟩ L := by simp [IsS]
theorem IsS.inj {Y Z : ByteArray} {L : List UInt8} (h : IsS Y L) (k : IsS Z L) : Y = Z := h.eq.trans k.eq.symm
theorem IsS.app {A B : ByteArray} {x y : List UInt8} (h : IsS A x) (k : IsS B y) : IsS (A ++ B) (x ++ y) := by
  unfold IsS at h k ⊢; rw [ByteArray.data_append, Array.toList_append, h, k]
theorem IsS.cast {Y : ByteArray} {L M : List UInt8} (h : IsS Y L) (e : L = M) : IsS Y M := e ▸ h
theorem IsS.ext {Y : ByteArray} {L : List UInt8} (h : IsS Y L) (a b : Nat) : IsS (Y.extract a b) ((L.drop a).take (b - a)) := by
  unfold IsS at h ⊢; rw [Lib.extract_data, h]
theorem IsS.at_ {Y : ByteArray} {L : List UInt8} (h : IsS Y L) {k : Nat} (hk : k < Y.size) (hl : k < L.length) : Y[k] = L[k] := by
  unfold IsS at h; subst h; rfl
theorem rep_len (l : List UInt8) (n : Nat) : (Lib.repeatL l n).length = n * l.length := Lib.repeatL_length l n
theorem rep_add (l : List UInt8) (a b : Nat) : Lib.repeatL l (a + b) = Lib.repeatL l a ++ Lib.repeatL l b := by
  induction a with
  | zero => simp [Lib.repeatL]
  | succ a ih => rw [Nat.succ_add]; simp only [Lib.repeatL]; rw [ih, List.append_assoc]
theorem rep_dbl (l : List UInt8) (n : Nat) : Lib.repeatL (l ++ l) n = Lib.repeatL l (2 * n) := by
  induction n with
  | zero => rfl
  | succ n ih => rw [show 2 * (n + 1) = 2 * n + 1 + 1 by omega]; simp only [Lib.repeatL]; rw [ih, List.append_assoc]
theorem rep_one (b : UInt8) (n : Nat) : Lib.repeatL [b] n = List.replicate n b := by
  induction n with
  | zero => rfl
  | succ n ih => simp [Lib.repeatL, ih, List.replicate_succ]
theorem ret_str {A B : ByteArray} (h : A = B) : Ending.returned (.string A) = .returned (.string B) := by rw [h]
/-- a string is returned, memory as it was below -/
def StrB (L : List UInt8) (w : World) (e : Ending) (w' : World) : Prop := ∃ Y, e = .returned (.string Y) ∧ IsS Y L ∧ Below w.heap.size w w'
/-- a string is returned, the world is the same -/
def StrQ (L : List UInt8) (w : World) (e : Ending) (w' : World) : Prop := ∃ Y, e = .returned (.string Y) ∧ IsS Y L ∧ w = w'
end Go.Proofs.YtdgnhplaakjlgaaGreatDoor
