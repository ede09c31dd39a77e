/- Plain facts for the restored column's walks. No condition; no program in sight. -/
import Derived.Test.YthpchphncelkpaaDoorRestP
import Derived.Lib.TrimByte
namespace Go.Proofs.YthpchphncelkpaaDoor
set_option linter.unusedVariables false

def reE (xs : List ByteArray) (i : Nat) : ByteArray := ⟨(aboveL xs (i + 1)).toArray⟩
theorem reE_is (xs : List ByteArray) (i : Nat) : IsS (reE xs i) (fillL (aboveL xs i) (xs.getD i noS).data.toList) := IsS.mk _
theorem restL_re (xs : List ByteArray) : restL [] xs = (List.range xs.length).map (reE xs) := restL_eq xs
theorem fillN_le (a s : List UInt8) : fillN a s ≤ a.length ∧ fillN a s ≤ s.length := by
  unfold fillN; have := lead_le s; omega
theorem fillN_go {a s : List UInt8} {n : Nat} (h : n ≤ fillN a s) (h1 : n < a.length) (h2 : n < s.length) (he : s[n] = 32) : n + 1 ≤ fillN a s := by
  unfold fillN at h ⊢
  have : lead s ≠ n := by
    intro e
    subst e
    exact lead_stop h2 he
  omega
theorem fillN_stop {a s : List UInt8} {n : Nat} (h : n ≤ fillN a s) (hs : n < s.length) (he : s[n] ≠ 32) : fillN a s = n := by
  unfold fillN at h ⊢
  have : ¬ n < lead s := fun q => he (lead_lt q hs)
  omega
theorem fillN_end {a s : List UInt8} {n : Nat} (h : n ≤ fillN a s) (hs : a.length ≤ n ∨ s.length ≤ n) : fillN a s = n := by
  have := fillN_le a s
  omega
theorem aboveL_le {xs : List ByteArray} {B : Nat} (h : ∀ s ∈ xs, s.size ≤ B) (k : Nat) (hk : k ≤ xs.length) : (aboveL xs k).length ≤ B := by
  cases k with
  | zero => simp [aboveL]
  | succ k =>
    rw [aboveL, fillL_len, size_data]
    exact h _ (by simp [List.getD, show k < xs.length by omega])
theorem reE_size {xs : List ByteArray} (i : Nat) : (reE xs i).size = (xs.getD i noS).size := by
  rw [(reE_is xs i).size, fillL_len, size_data]
theorem restL_sizes {xs : List ByteArray} {B : Nat} (h : ∀ s ∈ xs, s.size ≤ B) : ∀ s ∈ restL [] xs, s.size ≤ B := by
  intro s hs
  rw [restL_re] at hs
  obtain ⟨i, hi, rfl⟩ := List.mem_map.1 hs
  rw [reE_size]
  exact h _ (by simp [List.getD, show i < xs.length by simpa using hi])
theorem trimL_lead (s : List UInt8) : (Lib.trimLeftB s 32).length = s.length - lead s := by
  have := congrArg List.length (List.takeWhile_append_dropWhile (p := (· == (32 : UInt8))) (l := s))
  rw [List.length_append] at this
  unfold Lib.trimLeftB lead
  omega
theorem resF_eq {xs : List ByteArray} (h : shorF (restL [] xs) = xs) : resF xs = restL [] xs := by unfold resF; rw [if_pos h]
theorem resF_ne {xs : List ByteArray} (h : shorF (restL [] xs) ≠ xs) : resF xs = [] := by unfold resF; rw [if_neg h]
theorem take_all_eq {xs ys : List ByteArray} {k : Nat} (hk : k = xs.length) (hl : xs.length = ys.length) (h : ys.take k = xs.take k) : ys = xs := by
  subst hk
  rw [List.take_length, hl, List.take_length] at h
  exact h
theorem ext_fill {a s : ByteArray} {n : Nat} (h : fillN a.data.toList s.data.toList = n) : IsS (a.extract 0 n ++ s.extract n s.size) (fillL a.data.toList s.data.toList) := by
  refine (((IsS.self a).ext 0 n).app ((IsS.self s).ext n s.size)).cast ?_
  unfold fillL
  rw [h, List.drop_zero, Nat.sub_zero, List.take_of_length_le (l := s.data.toList.drop n) (by rw [List.length_drop, size_data]; exact Nat.le_refl _)]
end Go.Proofs.YthpchphncelkpaaDoor
