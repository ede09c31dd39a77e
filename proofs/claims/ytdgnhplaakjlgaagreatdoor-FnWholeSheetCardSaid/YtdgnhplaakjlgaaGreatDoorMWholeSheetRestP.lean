/- Lemmas and contracts for WholeSheet (RestP RestP3): plain words on memory, contracts of the functions that the law reaches. No condition but what each states. -/
import Derived.Test.YtdgnhplaakjlgaaGreatDoorMWholeSheetCols
import Derived.Lib.TrimByte
namespace Go.Proofs.YtdgnhplaakjlgaaGreatDoor
set_option linter.unusedVariables false

/-- how many spaces a text begins with -/
def lead (s : List UInt8) : Nat := (s.takeWhile (· == 32)).length
theorem lead_le (s : List UInt8) : lead s ≤ s.length := by
  unfold lead
  exact (List.takeWhile_sublist _).length_le
theorem lead_lt {s : List UInt8} {n : Nat} (h : n < lead s) (hn : n < s.length) : s[n] = 32 := by
  unfold lead at h
  have h1 : (s.takeWhile (· == 32))[n] = s[n] := by
    have := List.takeWhile_append_dropWhile (p := (· == (32 : UInt8))) (l := s)
    have h2 : s[n]? = ((s.takeWhile (· == 32)) ++ s.dropWhile (· == 32))[n]? := by rw [this]
    rw [List.getElem?_append_left h, List.getElem?_eq_getElem hn, List.getElem?_eq_getElem h] at h2
    exact (Option.some.inj h2).symm
  have h3 : (s.takeWhile (· == 32))[n] ∈ s.takeWhile (· == 32) := List.getElem_mem h
  have h4 := List.all_takeWhile (p := (· == (32 : UInt8))) (l := s)
  have h5 := List.all_eq_true.1 h4 _ h3
  rw [h1] at h5
  exact beq_iff_eq.1 h5
theorem lead_stop {s : List UInt8} (h : lead s < s.length) : s[lead s] ≠ 32 := by
  induction s with
  | nil => simp at h
  | cons c l ih =>
    unfold lead at h ⊢
    rw [List.takeWhile_cons] at h
    by_cases e : c = 32
    · subst e
      have e1 : (List.takeWhile (fun x => x == (32 : UInt8)) (32 :: l)).length = (List.takeWhile (fun x => x == (32 : UInt8)) l).length + 1 := by
        rw [List.takeWhile_cons]; simp
      have h' : (List.takeWhile (fun x => x == (32 : UInt8)) l).length < l.length := by simpa using h
      have := ih h'
      simp only [e1, List.getElem_cons_succ]
      exact this
    · have e1 : (List.takeWhile (fun x => x == (32 : UInt8)) (c :: l)).length = 0 := by
        rw [List.takeWhile_cons]; simp [e]
      simp only [e1, List.getElem_cons_zero]
      exact e
/-- the first n bytes from above, the rest from s -/
def fillN (a s : List UInt8) : Nat := min (lead s) a.length
def fillL (a s : List UInt8) : List UInt8 := a.take (fillN a s) ++ s.drop (fillN a s)
theorem fillL_len (a s : List UInt8) : (fillL a s).length = s.length := by
  unfold fillL fillN
  have := lead_le s
  rw [List.length_append, List.length_take, List.length_drop]
  omega
theorem fillL_sp {a s : List UInt8} (h : a.length < lead s) : (fillL a s)[a.length]? = some 32 := by
  have hl := lead_le s
  unfold fillL fillN
  have hm : min (lead s) a.length = a.length := by omega
  rw [hm, List.take_length, List.getElem?_append_right (Nat.le_refl _), Nat.sub_self, List.getElem?_drop, Nat.add_zero, List.getElem?_eq_getElem (by omega), lead_lt h (by omega)]
/-- the columns restored, from above down -/
def restL : List UInt8 → List ByteArray → List ByteArray
  | _, [] => []
  | a, s :: l => ⟨(fillL a s.data.toList).toArray⟩ :: restL (fillL a s.data.toList) l
theorem restL_len (a : List UInt8) (l : List ByteArray) : (restL a l).length = l.length := by
  induction l generalizing a with
  | nil => rfl
  | cons s l ih => simp [restL, ih]
def resF (xs : List ByteArray) : List ByteArray := if shorF (restL [] xs) = xs then restL [] xs else []
theorem resF_len (xs : List ByteArray) : (resF xs).length ≤ 60 := by
  unfold resF
  split
  · rename_i h
    rw [restL_len, ← h]; exact shorF_len _
  · simp
/-- what stands above the entry k -/
def aboveL (xs : List ByteArray) : Nat → List UInt8
  | 0 => []
  | k + 1 => fillL (aboveL xs k) (xs.getD k noS).data.toList
theorem restL_gen (xs : List ByteArray) (k : Nat) (hk : k ≤ xs.length) : restL [] xs = ((List.range k).map fun i => (⟨(aboveL xs (i + 1)).toArray⟩ : ByteArray)) ++ restL (aboveL xs k) (xs.drop k) := by
  induction k with
  | zero => simp [aboveL]
  | succ k ih =>
    rw [ih (by omega)]
    have hk' : k < xs.length := by omega
    rw [List.drop_eq_getElem_cons hk', restL, List.range_succ, List.map_append]
    have hg : xs.getD k noS = xs[k] := by simp [List.getD, hk']
    have e : aboveL xs (k + 1) = fillL (aboveL xs k) xs[k].data.toList := by rw [aboveL, hg]
    simp only [List.map_cons, List.map_nil, List.append_assoc, List.singleton_append, e]
theorem restL_eq (xs : List ByteArray) : restL [] xs = (List.range xs.length).map fun i => (⟨(aboveL xs (i + 1)).toArray⟩ : ByteArray) := by
  have := restL_gen xs xs.length (Nat.le_refl _)
  rw [List.drop_length] at this
  simpa [restL] using this
theorem restL_getD {xs : List ByteArray} {k : Nat} (hk : k < xs.length) : (restL [] xs).getD k noS = ⟨(aboveL xs (k + 1)).toArray⟩ := by
  rw [restL_eq]; simp [List.getD, hk]
/-- a text with a space in it is no column -/
theorem colB_sp {s : ByteArray} {k : Nat} (hk : k < s.data.toList.length) (h : s.data.toList[k] = 32) : colB s = false := by
  unfold colB
  rw [all_false_at' hk (by rw [h]; rfl)]
  simp
/-- where an entry begins with more spaces than stand above it, nothing is restored -/
theorem resF_bad {xs : List ByteArray} {k : Nat} (hk : k < xs.length) (h : (aboveL xs k).length < lead (xs.getD k noS).data.toList) : resF xs = [] := by
  have hl := lead_le (xs.getD k noS).data.toList
  have hs : shorF (restL [] xs) = [] := by
    unfold shorF
    have hc : colsB (restL [] xs) = false := by
      have hk2 : k < (restL [] xs).length := by rw [restL_len]; exact hk
      have hg : (restL [] xs)[k] = ⟨(aboveL xs (k + 1)).toArray⟩ := by
        have := restL_getD hk
        rwa [show (restL [] xs).getD k noS = (restL [] xs)[k] by simp [List.getD, hk2]] at this
      unfold colsB
      rw [all_false_at' hk2 (by
        rw [hg]
        have hfl : (aboveL xs k).length < (fillL (aboveL xs k) (xs.getD k noS).data.toList).length := by rw [fillL_len]; omega
        have hcb : colB (⟨(aboveL xs (k + 1)).toArray⟩ : ByteArray) = false := by
          have hsp := fillL_sp h
          rw [List.getElem?_eq_getElem hfl] at hsp
          refine colB_sp (k := (aboveL xs k).length) (by simpa [aboveL] using hfl) ?_
          have e1 : (aboveL xs (k + 1)).toArray.toList[(aboveL xs k).length]'(by simpa [aboveL] using hfl) = (fillL (aboveL xs k) (xs.getD k noS).data.toList)[(aboveL xs k).length] := by simp [aboveL]
          exact e1.trans (Option.some.inj hsp)
        rw [hcb]; rfl)]
      simp
    rw [hc]; rfl
  unfold resF
  rw [hs]
  rw [if_neg]
  intro e
  rw [← e] at hk
  simp at hk
theorem resF_big {xs : List ByteArray} (h : 60 < xs.length) : resF xs = [] := by
  unfold resF
  rw [if_neg]
  intro e
  have := shorF_len (restL [] xs)
  rw [e] at this
  omega
end Go.Proofs.YtdgnhplaakjlgaaGreatDoor

namespace Go.Proofs.YtdgnhplaakjlgaaGreatDoor
set_option linter.unusedVariables false

def reE (xs : List ByteArray) (i : Nat) : ByteArray := ⟨(aboveL xs (i + 1)).toArray⟩
theorem reE_is (xs : List ByteArray) (i : Nat) : IsS (reE xs i) (fillL (aboveL xs i) (xs.getD i noS).data.toList) := IsS.mk _
theorem restL_re (xs : List ByteArray) : restL [] xs = (List.range xs.length).map (reE xs) := restL_eq xs
theorem fillN_le (a s : List UInt8) : fillN a s ≤ a.length ∧ fillN a s ≤ s.length := by
  unfold fillN; have := lead_le s; omega
theorem fillN_go {a s : List UInt8} {n : Nat} (h : n ≤ fillN a s) (h1 : n < a.length) (h2 : n < s.length) (he : s[n] = 32) : n + 1 ≤ fillN a s := by
  unfold fillN at h ⊢
  have : lead s ≠ n := by
    intro e
    subst e
    exact lead_stop h2 he
  omega
theorem fillN_stop {a s : List UInt8} {n : Nat} (h : n ≤ fillN a s) (hs : n < s.length) (he : s[n] ≠ 32) : fillN a s = n := by
  unfold fillN at h ⊢
  have : ¬ n < lead s := fun q => he (lead_lt q hs)
  omega
theorem fillN_end {a s : List UInt8} {n : Nat} (h : n ≤ fillN a s) (hs : a.length ≤ n ∨ s.length ≤ n) : fillN a s = n := by
  have := fillN_le a s
  omega
theorem aboveL_le {xs : List ByteArray} {B : Nat} (h : ∀ s ∈ xs, s.size ≤ B) (k : Nat) (hk : k ≤ xs.length) : (aboveL xs k).length ≤ B := by
  cases k with
  | zero => simp [aboveL]
  | succ k =>
    rw [aboveL, fillL_len, size_data]
    exact h _ (by simp [List.getD, show k < xs.length by omega])
theorem reE_size {xs : List ByteArray} (i : Nat) : (reE xs i).size = (xs.getD i noS).size := by
  rw [(reE_is xs i).size, fillL_len, size_data]
theorem restL_sizes {xs : List ByteArray} {B : Nat} (h : ∀ s ∈ xs, s.size ≤ B) : ∀ s ∈ restL [] xs, s.size ≤ B := by
  intro s hs
  rw [restL_re] at hs
  obtain ⟨i, hi, rfl⟩ := List.mem_map.1 hs
  rw [reE_size]
  exact h _ (by simp [List.getD, show i < xs.length by simpa using hi])
theorem trimL_lead (s : List UInt8) : (Lib.trimLeftB s 32).length = s.length - lead s := by
  have := congrArg List.length (List.takeWhile_append_dropWhile (p := (· == (32 : UInt8))) (l := s))
  rw [List.length_append] at this
  unfold Lib.trimLeftB lead
  omega
theorem resF_eq {xs : List ByteArray} (h : shorF (restL [] xs) = xs) : resF xs = restL [] xs := by unfold resF; rw [if_pos h]
theorem resF_ne {xs : List ByteArray} (h : shorF (restL [] xs) ≠ xs) : resF xs = [] := by unfold resF; rw [if_neg h]
theorem take_all_eq {xs ys : List ByteArray} {k : Nat} (hk : k = xs.length) (hl : xs.length = ys.length) (h : ys.take k = xs.take k) : ys = xs := by
  subst hk
  rw [List.take_length, hl, List.take_length] at h
  exact h
theorem ext_fill {a s : ByteArray} {n : Nat} (h : fillN a.data.toList s.data.toList = n) : IsS (a.extract 0 n ++ s.extract n s.size) (fillL a.data.toList s.data.toList) := by
  refine (((IsS.self a).ext 0 n).app ((IsS.self s).ext n s.size)).cast ?_
  unfold fillL
  rw [h, List.drop_zero, Nat.sub_zero, List.take_of_length_le (l := s.data.toList.drop n) (by rw [List.length_drop, size_data]; exact Nat.le_refl _)]
end Go.Proofs.YtdgnhplaakjlgaaGreatDoor
