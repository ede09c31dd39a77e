/- Contracts of the laws' own helpers on slices of strings: marked, held. -/
import Derived.Test.YtdgnhplaakjlgaaGreatDoorStrs
import Derived.Lib.ItoaNum
import Derived.Deep.RegionHeld3
namespace Go.Proofs.YtdgnhplaakjlgaaGreatDoor
set_option linter.unusedVariables false
open Go.RowKit

def mt (k : Int) : ByteArray := if k ≤ 0 then ⟨#[109, 48]⟩ else ⟨#[109]⟩ ++ ⟨(Lib.decDigits k.toNat).toArray⟩

def byteOf (x : Int) : UInt8 := UInt8.ofNat x.toNat
/-- string([]byte{x}), the slice just laid -/
theorem conv1 (W : World) (x : Int) (h0 : 0 ≤ x) (h1 : x ≤ 255) :
    (convert 22 9 (.slice (some ⟨W.heap.size, 0, none⟩) 1 1)).run Tryz.prog (W.alloc (.cells #[.int .u8 x] 5)) = .ok (.string ⟨#[byteOf x]⟩) (W.alloc (.cells #[.int .u8 x] 5)) := by
  have e : ((UInt8.ofNat x.toNat).toNat : Int) = x := by rw [UInt8.toNat_ofNat']; omega
  exact run_convert_bytes_back (P := Tryz.prog) (W.alloc (.cells #[.int .u8 x] 5)) 22 9 5 ⟨W.heap.size, 0, none⟩ 1 [UInt8.ofNat x.toNat] Tryz.underlying22 Tryz.underlying5 Tryz.underlying9 (by
    intro j hj
    match j, hj with
    | 0, _ => simp only [List.getElem_cons_zero, e]; simp [Addr.add, go_sem])
theorem dec_step {m n : Nat} {L : List UInt8} (h0 : 0 < m) (h : Lib.decDigits m ++ L = Lib.decDigits n) :
    (m / 10 = 0 ∧ UInt8.ofNat (48 + m % 10) :: L = Lib.decDigits n ∨ 0 < m / 10 ∧ Lib.decDigits (m / 10) ++ UInt8.ofNat (48 + m % 10) :: L = Lib.decDigits n) := by
  rw [← h]
  by_cases hm : m < 10
  · left
    refine ⟨by omega, ?_⟩
    rw [Lib.decDigits, dif_pos hm, show m % 10 = m by omega]
    rfl
  · right
    refine ⟨by omega, ?_⟩
    conv => rhs; rw [Lib.decDigits, dif_neg hm]
    simp

def tx (c : Int) (n : Nat) : List ByteArray := (List.range n).map fun (i : Nat) => mt (c + i)
theorem tx_len (c : Int) (n : Nat) : (tx c n).length = n := by simp [tx]
theorem tx_getD (c : Int) (n k : Nat) (h : k < n) : (tx c n).getD k noS = mt (c + k) := by simp [tx, List.getD, h]
def txS (c : Int) (k : Nat) (xs : List ByteArray) : List ByteArray := tx c k ++ xs.drop k
theorem txS_len (c : Int) (k : Nat) (xs : List ByteArray) (h : k ≤ xs.length) : (txS c k xs).length = xs.length := by simp [txS, tx_len]; omega
theorem txS_end (c : Int) (xs : List ByteArray) : txS c xs.length xs = tx c xs.length := by simp [txS]
theorem txS_map_set (c : Int) (k : Nat) (xs : List ByteArray) (h : k < xs.length) : ((txS c k xs).map Value.string).set k (.string (mt (c + k))) = (txS c (k + 1) xs).map Value.string := by
  rw [← List.map_set]
  congr 1
  unfold txS
  rw [List.set_append_right _ _ (by rw [tx_len]; omega), tx_len, Nat.sub_self]
  have : xs.drop k = xs[k] :: xs.drop (k + 1) := List.drop_eq_getElem_cons h
  rw [this, List.set_cons_zero]
  simp [tx, List.range_succ]

theorem keep1 {w1 wa wb : World} {b o : Nat} {v0 : Value} (hb : b < w1.heap.size) (h : Below w1.heap.size w1 wa ∧ wa.cell? ⟨b, o, none⟩ = some v0) (k : Below wa.heap.size wa wb) :
    Below w1.heap.size w1 wb ∧ wb.cell? ⟨b, o, none⟩ = some v0 := by
  obtain ⟨h0, h1⟩ := h
  have hs := h0.size
  obtain ⟨hc, _⟩ := bcell k
  exact ⟨bthen h0 k, by rw [hc _ _ (by omega)]; exact h1⟩
end Go.Proofs.YtdgnhplaakjlgaaGreatDoor
