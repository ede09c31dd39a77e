/- Lemmas and contracts for WholeSheet (Cols Short Short2): plain words on memory, contracts of the functions that the law reaches. No condition but what each states. -/
import Derived.Test.YtdgnhplaakjlgaaGreatDoorMWholeSheetStrs
import Derived.Test.YtdgnhplaakjlgaaGreatDoorMWholeSheetIn1
import Derived.Test.YtdgnhplaakjlgaaGreatDoorMWholeSheetMstr
import Derived.Deep.QuietTactic
import Derived.BigQuiet
import Derived.Deep.RegionHeld3
import Derived.Test.YtdgnhplaakjlgaaGreatDoorMWholeSheetMany
import Derived.Test.YtdgnhplaakjlgaaGreatDoorMWholeSheetEnc
import Derived.WalkSpells
import Derived.Test.YtdgnhplaakjlgaaGreatDoorMWholeSheetSapp
namespace Go.Proofs.YtdgnhplaakjlgaaGreatDoor
set_option linter.unusedVariables false
open Go.RowKit

def dgB (b : UInt8) : Bool := decide (48 ≤ (b.toNat : Int) ∧ (b.toNat : Int) ≤ 57)
def colB (s : ByteArray) : Bool := inB s.size 1 12 && s.data.toList.all dgB
theorem all_take_succ' {α : Type} (p : α → Bool) (l : List α) (k : Nat) (h : k < l.length) : (l.take (k + 1)).all p = ((l.take k).all p && p l[k]) := by
  rw [List.take_succ_eq_append_getElem h, List.all_append]; simp
theorem all_false_at' {α : Type} {p : α → Bool} {l : List α} {k : Nat} (h : k < l.length) (hp : p l[k] = false) : l.all p = false := by
  rw [List.all_eq_false]; exact ⟨l[k], List.getElem_mem h, by rw [hp]; simp⟩
theorem colB_iff {s : ByteArray} (h : colB s = true) : 1 ≤ s.size ∧ s.size ≤ 12 ∧ s.data.toList.all dgB = true := by
  unfold colB at h
  rw [Bool.and_eq_true, inB_iff] at h
  exact ⟨by omega, by omega, h.2⟩

def alikeB (a b : ByteArray) : Bool := colB a && colB b && decide (a.size = b.size)
end Go.Proofs.YtdgnhplaakjlgaaGreatDoor

namespace Go.Proofs.YtdgnhplaakjlgaaGreatDoor
set_option linter.unusedVariables false
open Go.RowKit

/-- how many bytes two strings share at their beginnings, but at most all but the first one's last -/
def shL : List UInt8 → List UInt8 → Nat
  | a :: a2 :: l, b :: bs => if a = b then 1 + shL (a2 :: l) bs else 0
  | _, _ => 0
theorem shL_stop {a b : List UInt8} (h : a.length ≤ 1) : shL a b = 0 := by
  match a, h with
  | [], _ => simp [shL]
  | [x], _ => simp [shL]
  | x :: y :: l, h => simp at h
theorem shL_le (a b : List UInt8) : shL a b ≤ a.length - 1 := by
  induction a generalizing b with
  | nil => simp [shL]
  | cons x a ih =>
    match a, b with
    | [], _ => simp [shL]
    | y :: l, [] => simp [shL]
    | y :: l, z :: b =>
      rw [shL]
      split
      · have := ih b; simp at this ⊢; omega
      · omega
theorem shL_drop {a b : List UInt8} {n : Nat} (h1 : n + 1 < a.length) (h2 : n < b.length) (he : a[n]'(by omega) = b[n]) : shL (a.drop n) (b.drop n) = 1 + shL (a.drop (n + 1)) (b.drop (n + 1)) := by
  rw [List.drop_eq_getElem_cons (by omega : n < a.length), List.drop_eq_getElem_cons h2, List.drop_eq_getElem_cons h1, shL, if_pos he]
theorem shL_drop_ne {a b : List UInt8} {n : Nat} (h1 : n + 1 < a.length) (h2 : n < b.length) (he : a[n]'(by omega) ≠ b[n]) : shL (a.drop n) (b.drop n) = 0 := by
  rw [List.drop_eq_getElem_cons (by omega : n < a.length), List.drop_eq_getElem_cons h2, List.drop_eq_getElem_cons h1, shL, if_neg he]

/-- all are columns of the first one's width -/
def colsB (xs : List ByteArray) : Bool := decide (xs.length ≤ 60) && xs.all fun s => colB s && decide (s.size = (xs.getD 0 noS).size)
def shoN (xs : List ByteArray) (i : Nat) : Nat := if i = 0 then 0 else shL (xs.getD i noS).data.toList (xs.getD (i - 1) noS).data.toList
def shoL (n : Nat) (s : ByteArray) : List UInt8 := List.replicate n 32 ++ s.data.toList.drop n
def shoE (xs : List ByteArray) (i : Nat) : ByteArray := ⟨(shoL (shoN xs i) (xs.getD i noS)).toArray⟩
theorem shoE_is (xs : List ByteArray) (i : Nat) : IsS (shoE xs i) (shoL (shoN xs i) (xs.getD i noS)) := IsS.mk _
def shorF (xs : List ByteArray) : List ByteArray := if colsB xs = true then (List.range xs.length).map (shoE xs) else []
theorem colsB_iff {xs : List ByteArray} (h : colsB xs = true) : xs.length ≤ 60 ∧ ∀ s ∈ xs, colB s = true ∧ s.size = (xs.getD 0 noS).size := by
  unfold colsB at h
  simp only [Bool.and_eq_true, decide_eq_true_eq, List.all_eq_true] at h
  exact h
theorem shorF_len (xs : List ByteArray) : (shorF xs).length ≤ 60 := by
  unfold shorF
  split
  · rename_i h; rw [List.length_map, List.length_range]; exact (colsB_iff h).1
  · simp

end Go.Proofs.YtdgnhplaakjlgaaGreatDoor

namespace Go.Proofs.YtdgnhplaakjlgaaGreatDoor
set_option linter.unusedVariables false
open Go.RowKit

theorem keep2 {w1 wa wb : World} {b o o' : Nat} {v0 v1 : Value} (hb : b < w1.heap.size) (h : Below w1.heap.size w1 wa ∧ wa.cell? ⟨b, o, none⟩ = some v0 ∧ wa.cell? ⟨b, o', none⟩ = some v1) (k : Below wa.heap.size wa wb) :
    Below w1.heap.size w1 wb ∧ wb.cell? ⟨b, o, none⟩ = some v0 ∧ wb.cell? ⟨b, o', none⟩ = some v1 := by
  obtain ⟨h0, h1, h2⟩ := h
  have hs := h0.size
  obtain ⟨hc, _⟩ := bcell k
  exact ⟨bthen h0 k, by rw [hc _ _ (by omega)]; exact h1, by rw [hc _ _ (by omega)]; exact h2⟩
theorem keepW {w wx : World} {b o : Nat} {v0 : Value} (e0 : w.cell? ⟨b, o, none⟩ = some v0) (hb : b < w.heap.size) (hB : Below w.heap.size w wx) : Below w.heap.size w wx ∧ wx.cell? ⟨b, o, none⟩ = some v0 :=
  ⟨hB, by rw [(bcell hB).1 _ _ hb]; exact e0⟩
theorem slice_from (y : ByteArray) (n : Nat) (h : n ≤ y.size) (W : World) : (Instr.slice 9 (.string y) (some (.int .i64 (n : Int))) none none).run Tryz.prog W = .ok (.string (y.extract n y.size)) W := by
  rw [run_slice_string_from_if W 9 y .i64 n Tryz.underlying9, if_pos (by omega), Int.toNat_natCast]
theorem slice_fromT (y : ByteArray) (n : Nat) (h : n ≤ y.size) : ∃ T, (∀ W, (Instr.slice 9 (.string y) (some (.int .i64 (n : Int))) none none).run Tryz.prog W = .ok (.string T) W) ∧ T.size ≤ y.size ∧ IsS T (y.data.toList.drop n) := by
  refine ⟨_, slice_from y n h, by rw [ByteArray.size_extract]; omega, ?_⟩
  refine ((IsS.self y).ext n y.size).cast (List.take_of_length_le ?_)
  rw [List.length_drop, size_data]
  exact Nat.le_refl _
theorem add_str (a b : ByteArray) (h : a.size + b.size ≤ 9223372036854775807) (W : World) : (binOp .add 9 (.string a) (.string b)).run Tryz.prog W = .ok (.string (a ++ b)) W := by
  simp [binOp, run_string_add_sum W a b h]
theorem shoE_of {xs : List ByteArray} {k n : Nat} {y Y : ByteArray} (hy : xs.getD k noS = y) (hn : shoN xs k = n) (hY : IsS Y (List.replicate n 32)) {T : ByteArray} (hT : IsS T (y.data.toList.drop n)) : Y ++ T = shoE xs k := by
  refine IsS.inj ?_ (shoE_is xs k)
  refine (hY.app hT).cast ?_
  unfold shoL
  rw [hy, hn]
theorem range_map_succ {α : Type} (f : Nat → α) (k : Nat) : (List.range (k + 1)).map f = (List.range k).map f ++ [f k] := by
  rw [List.range_succ, List.map_append]; rfl

end Go.Proofs.YtdgnhplaakjlgaaGreatDoor
