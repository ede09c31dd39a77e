/- Lemmas and contracts for WholeSheet (Stereo2 StP): plain words on memory, contracts of the functions that the law reaches. No condition but what each states. -/
import Derived.Test.YtdgnhplaakjlgaaGreatDoorMWholeSheetStereo
import Derived.WalkSpells
import Derived.Lib.TrimByte
namespace Go.Proofs.YtdgnhplaakjlgaaGreatDoor
set_option linter.unusedVariables false
open Go.RowKit

theorem mir_step {s O : ByteArray} {p : List UInt8} {j : Nat} (h : IsS O (p ++ (s.data.toList.drop (j + 1)).reverse)) (hj : j < s.size) : IsS (O ++ s.extract j (j + 1)) (p ++ (s.data.toList.drop j).reverse) := by
  have h2 := h.app ((IsS.self s).ext j (j + 1))
  refine h2.cast ?_
  have hj' : j < s.data.toList.length := by rw [size_data]; exact hj
  rw [List.drop_eq_getElem_cons hj']
  simp

end Go.Proofs.YtdgnhplaakjlgaaGreatDoor

namespace Go.Proofs.YtdgnhplaakjlgaaGreatDoor
set_option linter.unusedVariables false

def rsS (s : ByteArray) : ByteArray := ⟨(Lib.trimRightB s.data.toList.reverse 32).toArray⟩
theorem rsS_is (s : ByteArray) : IsS (rsS s) (Lib.trimRightB s.data.toList.reverse 32) := IsS.mk _
def rsL (xs : List ByteArray) : List ByteArray := xs.map rsS
def rsB (xs : List ByteArray) : Bool := linesB (rsL xs) && decide (plateF (rsL xs) = xs)
def rsF (xs : List ByteArray) : List ByteArray := if rsB xs = true then rsL xs else []
theorem rsL_len (xs : List ByteArray) : (rsL xs).length = xs.length := by simp [rsL]
theorem rsF_len (xs : List ByteArray) : (rsF xs).length ≤ 40 := by
  unfold rsF
  split
  · rename_i h
    unfold rsB at h
    rw [Bool.and_eq_true] at h
    exact (linesB_iff h.1).1
  · simp
theorem trimR_le (l : List UInt8) (c : UInt8) : (Lib.trimRightB l c).length ≤ l.length := by
  unfold Lib.trimRightB
  rw [List.length_reverse]
  have := (List.dropWhile_sublist (fun x => x == c) (l := l.reverse)).length_le
  rwa [List.length_reverse] at this
theorem endsB_ne {x : ByteArray} (h : endsB x = false) : x.data.toList.getLast? ≠ some 32 := by
  intro e
  have : endsB x = true := by
    unfold endsB Lib.hasSuffix
    rw [List.isSuffixOf_iff_suffix]
    obtain ⟨l, hl⟩ : ∃ l, x.data.toList = l ++ [32] := by
      cases hx : x.data.toList with
      | nil => rw [hx] at e; simp at e
      | cons c r =>
        have hne : x.data.toList ≠ [] := by rw [hx]; simp
        refine ⟨x.data.toList.dropLast, ?_⟩
        have h1 := List.dropLast_concat_getLast hne
        have h2 : x.data.toList.getLast hne = 32 := by
          rw [List.getLast?_eq_some_getLast hne] at e
          exact Option.some.inj e
        rw [h2] at h1
        rw [← hx]
        exact h1.symm
    rw [hl]
    exact ⟨l, rfl⟩
  rw [h] at this
  exact absurd this (by simp)
theorem trimR_pad {l : List UInt8} (h : l.getLast? ≠ some 32) (n : Nat) : Lib.trimRightB (l ++ List.replicate n 32) 32 = l := by
  unfold Lib.trimRightB
  rw [List.reverse_append, List.reverse_replicate]
  have h1 : (List.replicate n (32 : UInt8) ++ l.reverse).dropWhile (fun x => x == 32) = l.reverse.dropWhile (fun x => x == 32) := by
    induction n with
    | zero => simp
    | succ n ih => rw [List.replicate_succ, List.cons_append, List.dropWhile_cons, if_pos (by rfl)]; exact ih
  rw [h1]
  have h2 : l.reverse.dropWhile (fun x => x == 32) = l.reverse := by
    cases hr : l.reverse with
    | nil => rfl
    | cons c r =>
      rw [List.dropWhile_cons]
      have hc : l.getLast? = some c := by rw [← List.head?_reverse, hr]; rfl
      have : c ≠ 32 := fun e => h (by rw [hc, e])
      rw [if_neg (by simpa using this)]
  rw [h2, List.reverse_reverse]
theorem linesB_ends {xs : List ByteArray} (h : linesB xs = true) : ∀ s ∈ xs, endsB s = false := by
  intro s hs
  unfold linesB at h
  simp only [Bool.and_eq_true, decide_eq_true_eq, List.all_eq_true] at h
  have := h.2 s hs
  unfold lvB at this
  simp only [Bool.and_eq_true, Bool.not_eq_true'] at this
  exact this.1.2
theorem rs_mir {s : ByteArray} {m : Nat} (hm : s.size ≤ m) (h : endsB s = false) : rsS (mirS m s) = s := by
  have h1 : (mirS m s).data.toList = mirL s.data.toList m := by simp [mirS]
  refine (rsS_is _).inj ?_
  show s.data.toList = _
  rw [h1, mirL, List.reverse_append, List.reverse_reverse, List.reverse_replicate, trimR_pad (endsB_ne h)]
theorem rs_plate {xs : List ByteArray} (h : linesB xs = true) : rsL (plateF xs) = xs := by
  unfold rsL plateF
  rw [if_pos h, List.map_map]
  have h1 := linesB_ends h
  conv => rhs; rw [← List.map_id xs]
  apply List.map_congr_left
  intro s hs
  exact rs_mir (lng_ge hs) (h1 s hs)
theorem rsB_plate {xs : List ByteArray} (h : linesB xs = true) : rsB (plateF xs) = true := by
  unfold rsB
  rw [rs_plate h, h]
  simp
theorem rsF_plate {xs : List ByteArray} (h : linesB xs = true) : rsF (plateF xs) = xs := by
  unfold rsF
  rw [if_pos (rsB_plate h), rs_plate h]
theorem mirS_size {s : ByteArray} {m : Nat} (h : s.size ≤ m) : (mirS m s).size = m := by
  rw [(mirS_is m s).size]
  unfold mirL
  rw [List.length_append, List.length_replicate, List.length_reverse, size_data]
  omega
theorem mirL_at {l : List UInt8} {m k : Nat} (h : l.length ≤ m) (hk : k < l.length) : (mirL l m)[m - 1 - k]? = some l[k] := by
  unfold mirL
  rw [List.getElem?_append_right (by rw [List.length_replicate]; omega), List.length_replicate, List.getElem?_reverse (by omega), List.getElem?_eq_getElem (by omega)]
  congr 2
  omega
end Go.Proofs.YtdgnhplaakjlgaaGreatDoor
