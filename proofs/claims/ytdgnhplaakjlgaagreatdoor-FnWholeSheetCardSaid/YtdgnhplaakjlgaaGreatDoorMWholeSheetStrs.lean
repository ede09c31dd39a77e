/- Lemmas and contracts for WholeSheet (Strs Str0 Rows1): plain words on memory, contracts of the functions that the law reaches. No condition but what each states. -/
import Derived.Test.YtdgnhplaakjlgaaGreatDoorMWholeSheetMark
import Derived.Lib.Repeat
namespace Go.Proofs.YtdgnhplaakjlgaaGreatDoor
set_option linter.unusedVariables false
open Go.RowKit

theorem infoStr : (Tryz.prog.info? 9).map (fun i => (i.zero, i.size, i.bytes)) = some (some (.string ByteArray.empty), 1, 16) := by kernel_rfl
def noS : ByteArray := ByteArray.empty
/-- .. as a list of strings -/
def RdS (w : World) (v : Value) (xs : List ByteArray) : Prop := RdL w v (xs.map Value.string)
theorem RdS.kept {w w' : World} {v : Value} {xs : List ByteArray} (h : RdS w v xs) (hb : Below w.heap.size w w') : RdS w' v xs := RdL.kept h hb
theorem RdS.nil (w : World) (a : Option Addr) (cap : Nat) : RdS w (.slice a 0 cap) [] := ⟨a, cap, rfl, .inl rfl⟩
/-- opened: the value's shape; where there is an element, its cells -/
theorem RdS.op {w : World} {v : Value} {xs : List ByteArray} (h : RdS w v xs) :
    (∃ a cap, v = .slice a 0 cap ∧ xs = []) ∨ ∃ b off cap, v = .slice (some ⟨b, off, none⟩) xs.length cap ∧ b < w.heap.size ∧ ∀ i, i < xs.length → w.cell? ⟨b, off + i, none⟩ = some (.string (xs.getD i noS)) := by
  obtain ⟨a, cap, rfl, h⟩ := h
  rcases h with h | ⟨b, off, rfl, hlt, h⟩
  · have h : xs = [] := by simpa using h
    subst h
    exact .inl ⟨a, cap, rfl, rfl⟩
  · refine .inr ⟨b, off, cap, by simp, hlt, fun i hi => ?_⟩
    rw [h i (by simpa using hi)]
    simp [List.getD, hi]
abbrev OwnS (w : World) (base : Nat) (v : Value) (xs : List ByteArray) : Prop := w.ownsRow base 9 1 v xs.length (xs.map Value.string)
theorem owns_RdS {w : World} {base : Nat} {e : TypeId} {v : Value} {n : Nat} {xs : List ByteArray} (h : w.ownsRow base e 1 v n (xs.map Value.string)) : RdS w v xs := owns_RdL h

/-- the sum of the lengths -/
def tot (xs : List ByteArray) : Nat := (xs.map ByteArray.size).sum
theorem tot_succ (xs : List ByteArray) (k : Nat) (h : k < xs.length) : tot (xs.take (k + 1)) = tot (xs.take k) + (xs.getD k noS).size := by
  unfold tot
  rw [List.take_add_one]
  simp [List.getD, h]
  rw [List.take_add_one]
  simp [h]
theorem tot_le (xs : List ByteArray) (k : Nat) : tot (xs.take k) ≤ tot xs := by
  have : tot xs = tot (xs.take k) + tot (xs.drop k) := by
    unfold tot
    rw [← List.sum_append, ← List.map_append, List.take_append_drop]
  omega
theorem tot_mem {xs : List ByteArray} {s : ByteArray} (h : s ∈ xs) : s.size ≤ tot xs := by
  induction xs with
  | nil => cases h
  | cons x xs ih =>
    unfold tot at ih ⊢
    simp only [List.map_cons, List.sum_cons]
    rcases List.mem_cons.1 h with rfl | h
    · omega
    · have := ih h; omega
theorem tot_getD (xs : List ByteArray) (k : Nat) : (xs.getD k noS).size ≤ tot xs := by
  by_cases h : k < xs.length
  · apply tot_mem; simp [List.getD, h]
  · have : (xs.getD k noS) = noS := by simp [List.getD, h]
    rw [this]; exact Nat.zero_le _
def szR (xs : List ByteArray) (L : Int) : Int := if (xs.length : Int) + tot xs ≤ L then L - xs.length - tot xs else -1

theorem str_beq (s : ByteArray) : (s.toList == s.toList) = true := by simp
theorem str_bne {s t : ByteArray} (h : s ≠ t) : (s.toList == t.toList) = false := by
  rw [beq_eq_false_iff_ne]
  intro e
  apply h
  rw [ByteArray.toList_eq, ByteArray.toList_eq] at e
  exact ByteArray.ext (Array.ext' e)
theorem take_eq_stepS {xs ys : List ByteArray} {k : Nat} (h1 : k < xs.length) (h2 : k < ys.length) (h : xs.take k = ys.take k) (e : xs.getD k noS = ys.getD k noS) : xs.take (k + 1) = ys.take (k + 1) := by
  rw [List.take_add_one, List.take_add_one, h]
  simp [List.getD, h1, h2] at e
  simp [h1, h2, e]

end Go.Proofs.YtdgnhplaakjlgaaGreatDoor

namespace Go.Proofs.YtdgnhplaakjlgaaGreatDoor
set_option linter.unusedVariables false
open Go.RowKit

theorem size_data (s : ByteArray) : s.data.toList.length = s.size := Array.length_toList
/-- the string Y holds the bytes L -/
def IsS (Y : ByteArray) (L : List UInt8) : Prop := Y.data.toList = L
theorem IsS.size {Y : ByteArray} {L : List UInt8} (h : IsS Y L) : Y.size = L.length := by rw [← size_data, h]
theorem IsS.self (Y : ByteArray) : IsS Y Y.data.toList := rfl
theorem IsS.eq {Y : ByteArray} {L : List UInt8} (h : IsS Y L) : Y = ⟨L.toArray⟩ := by
  unfold IsS at h; apply ByteArray.ext; apply Array.ext'; simpa using h
theorem IsS.mk (L : List UInt8) : IsS ⟨L.toArray⟩ L := by simp [IsS]
theorem IsS.inj {Y Z : ByteArray} {L : List UInt8} (h : IsS Y L) (k : IsS Z L) : Y = Z := h.eq.trans k.eq.symm
theorem IsS.app {A B : ByteArray} {x y : List UInt8} (h : IsS A x) (k : IsS B y) : IsS (A ++ B) (x ++ y) := by
  unfold IsS at h k ⊢; rw [ByteArray.data_append, Array.toList_append, h, k]
theorem IsS.cast {Y : ByteArray} {L M : List UInt8} (h : IsS Y L) (e : L = M) : IsS Y M := e ▸ h
theorem IsS.ext {Y : ByteArray} {L : List UInt8} (h : IsS Y L) (a b : Nat) : IsS (Y.extract a b) ((L.drop a).take (b - a)) := by
  unfold IsS at h ⊢; rw [Lib.extract_data, h]
theorem IsS.at_ {Y : ByteArray} {L : List UInt8} (h : IsS Y L) {k : Nat} (hk : k < Y.size) (hl : k < L.length) : Y[k] = L[k] := by
  unfold IsS at h; subst h; rfl
theorem rep_len (l : List UInt8) (n : Nat) : (Lib.repeatL l n).length = n * l.length := Lib.repeatL_length l n
theorem rep_add (l : List UInt8) (a b : Nat) : Lib.repeatL l (a + b) = Lib.repeatL l a ++ Lib.repeatL l b := by
  induction a with
  | zero => simp [Lib.repeatL]
  | succ a ih => rw [Nat.succ_add]; simp only [Lib.repeatL]; rw [ih, List.append_assoc]
theorem rep_dbl (l : List UInt8) (n : Nat) : Lib.repeatL (l ++ l) n = Lib.repeatL l (2 * n) := by
  induction n with
  | zero => rfl
  | succ n ih => rw [show 2 * (n + 1) = 2 * n + 1 + 1 by omega]; simp only [Lib.repeatL]; rw [ih, List.append_assoc]
theorem rep_one (b : UInt8) (n : Nat) : Lib.repeatL [b] n = List.replicate n b := by
  induction n with
  | zero => rfl
  | succ n ih => simp [Lib.repeatL, ih, List.replicate_succ]
theorem ret_str {A B : ByteArray} (h : A = B) : Ending.returned (.string A) = .returned (.string B) := by rw [h]
/-- a string is returned, memory as it was below -/
def StrB (L : List UInt8) (w : World) (e : Ending) (w' : World) : Prop := ∃ Y, e = .returned (.string Y) ∧ IsS Y L ∧ Below w.heap.size w w'
/-- a string is returned, the world is the same -/
def StrQ (L : List UInt8) (w : World) (e : Ending) (w' : World) : Prop := ∃ Y, e = .returned (.string Y) ∧ IsS Y L ∧ w = w'
end Go.Proofs.YtdgnhplaakjlgaaGreatDoor

namespace Go.Proofs.YtdgnhplaakjlgaaGreatDoor
set_option linter.unusedVariables false
open Go.RowKit

theorem RdS_cell {w wr : World} {a : Option Addr} {n cap : Nat} {xs : List ByteArray} (h : RdS w (.slice a n cap) xs) (hB : Below w.heap.size w wr) {k : Nat} (hk : k < xs.length) :
    ∃ b o, a = some ⟨b, o, none⟩ ∧ b < w.heap.size ∧ wr.cell? ⟨b, o + k, none⟩ = some (.string (xs.getD k noS)) := by
  rcases h.op with ⟨a', cap', e1, rfl⟩ | ⟨b1, o1, c1, e0, hb1, h1⟩
  · simp at hk
  · simp only [Value.slice.injEq] at e0
    exact ⟨b1, o1, e0.1, hb1, by rw [(bcell hB).1 _ _ hb1]; exact h1 k hk⟩
theorem map_getD_endS (xs : List ByteArray) (f : ByteArray → ByteArray) : (List.range xs.length).map (fun i => Value.string (f (xs.getD i noS))) = (xs.map f).map Value.string := by
  apply List.ext_getElem
  · simp
  · intro i h1 h2; simp at h1; simp [List.getD, h1]
theorem map_take_succS {β : Type} (xs : List ByteArray) (f : ByteArray → β) (k : Nat) (hk : k < xs.length) : (xs.take (k + 1)).map f = (xs.take k).map f ++ [f (xs.getD k noS)] := by
  rw [List.take_add_one, List.map_append]
  congr 1
  simp [List.getD, hk]
theorem ownsRow_monoS {w : World} {base base' e : Nat} {size : Nat} {v : Value} {n : Nat} {xs : List Value} (h : w.ownsRow base e size v n xs) (hb : base' ≤ base) : w.ownsRow base' e size v n xs := by
  obtain ⟨h1, h2⟩ := h
  refine ⟨h1, ?_⟩
  rcases h2 with h2 | ⟨g, cap, cur, hv, hg, r⟩
  · exact .inl h2
  · exact .inr ⟨g, cap, cur, hv, by omega, r⟩
theorem OwnS_snoc {w : World} {base : Nat} {v : Value} {n : Nat} {xs : List ByteArray} {y : ByteArray} (hn : n = xs.length) (h : w.ownsRow base 9 1 v (n + 1) (xs.map Value.string ++ [.string y])) : OwnS w base v (xs ++ [y]) := by
  subst hn; unfold OwnS; simpa using h
/-- a row of strings is returned; nothing old has turned -/
def FreshS (w : World) (xs : List ByteArray) (e : Ending) (w' : World) : Prop := ∃ v, e = .returned v ∧ OwnS w' w.heap.size v xs ∧ Below w.heap.size w w'
def FreshSB (w : World) (xs : List ByteArray) (b : Bool) (e : Ending) (w' : World) : Prop := ∃ v, e = .returned (.tuple #[v, .bool b]) ∧ OwnS w' w.heap.size v xs ∧ Below w.heap.size w w'
theorem OwnS_nil (w : World) (base : Nat) : OwnS w base (.slice none 0 0) [] := World.ownsRow_nil _ _ _ _
theorem OwnS_made (w : World) (base : Nat) (h : base ≤ w.heap.size) : (w.alloc (.cells #[] 9)).ownsRow base 9 1 (.slice (some ⟨w.heap.size, 0, none⟩) 0 0) 0 [] := World.ownsRow_made w #[] 0 h (by decide) rfl
end Go.Proofs.YtdgnhplaakjlgaaGreatDoor
