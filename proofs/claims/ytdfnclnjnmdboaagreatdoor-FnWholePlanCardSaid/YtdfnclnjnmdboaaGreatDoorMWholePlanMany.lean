/- Lemmas and contracts for WholePlan (Many): plain words on memory, contracts of the functions that the law reaches. No condition but what each states. -/
import Derived.Test.YtdfnclnjnmdboaaGreatDoorMWholePlanStrs
import Derived.Test.YtdfnclnjnmdboaaGreatDoorShelf
namespace Go.Proofs.YtdfnclnjnmdboaaGreatDoor
set_option linter.unusedVariables false
open Go.RowKit

def Man (O S : ByteArray) (n : Nat) (T : List UInt8) : Prop := O.data.toList ++ Lib.repeatL S.data.toList n = T
theorem Man.len {O S : ByteArray} {n : Nat} {T : List UInt8} (h : Man O S n T) : O.size + n * S.size = T.length := by
  rw [← h, List.length_append, size_data, rep_len, size_data]
theorem Man.odd {O S : ByteArray} {n : Nat} {T : List UInt8} (h : Man O S n T) (h1 : n % 2 = 1) : Man (O ++ S) (S ++ S) (n / 2) T := by
  unfold Man at h ⊢
  rw [ByteArray.data_append, ByteArray.data_append, Array.toList_append, Array.toList_append, rep_dbl, ← h]
  conv => rhs; rw [show n = 1 + 2 * (n / 2) by omega, rep_add]
  simp [Lib.repeatL]
theorem Man.even {O S : ByteArray} {n : Nat} {T : List UInt8} (h : Man O S n T) (h1 : n % 2 = 0) : Man O (S ++ S) (n / 2) T := by
  unfold Man at h ⊢
  rw [ByteArray.data_append, Array.toList_append, rep_dbl, show 2 * (n / 2) = n by omega, h]

end Go.Proofs.YtdfnclnjnmdboaaGreatDoor
