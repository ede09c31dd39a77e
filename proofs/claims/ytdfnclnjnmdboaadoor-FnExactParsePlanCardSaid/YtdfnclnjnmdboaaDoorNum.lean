/- Contracts of small functions on numbers: remainders, powers of ten, bounds, rounding. -/
import Derived.Test.YtdfnclnjnmdboaaDoorLay
namespace Go.Proofs.YtdfnclnjnmdboaaDoor
set_option linter.unusedVariables false
open Go.RowKit

def ten (k : Nat) : Int := 10 ^ k
theorem ten_succ (k : Nat) : ten (k + 1) = ten k * 10 := by simp [ten, Int.pow_succ]
theorem ten_pos (k : Nat) : 1 ≤ ten k := by
  induction k with
  | zero => simp [ten]
  | succ k ih => rw [ten_succ]; omega
theorem ten_mono {a b : Nat} (h : a ≤ b) : ten a ≤ ten b := by
  induction b with
  | zero => have : a = 0 := by omega
            subst this; exact Int.le_refl _
  | succ b ih =>
    by_cases e : a = b + 1
    · subst e; exact Int.le_refl _
    · have h1 := ih (by omega); have h2 := ten_pos b; rw [ten_succ]; omega
theorem ten_bd {k : Nat} (h : k ≤ 17) : 1 ≤ ten k ∧ ten k ≤ 100000000000000000 := ⟨ten_pos k, by have := ten_mono h; have e : ten 17 = 100000000000000000 := (by decide); omega⟩

theorem tmod_cases (n m : Int) (hm : 1 ≤ m) : (0 ≤ n.tmod m ∧ n.tmod m = n % m ∧ n.tmod m < m) ∨ (n.tmod m < 0 ∧ n.tmod m + m = n % m ∧ -m < n.tmod m) := by
  have h1 := Int.emod_nonneg n (b := m) (by omega)
  have h2 := Int.emod_lt_of_pos n (b := m) (by omega)
  by_cases hn : 0 ≤ n
  · left
    rw [Int.tmod_eq_emod_of_nonneg hn]
    exact ⟨h1, rfl, h2⟩
  · rw [Int.tmod_eq_emod]
    have hna : (m.natAbs : Int) = m := by omega
    by_cases hd : m ∣ n
    · left
      simp only [hd, or_true, if_true]
      omega
    · right
      have hz : n % m ≠ 0 := fun e => hd (Int.dvd_of_emod_eq_zero e)
      simp only [hn, hd, or_self, if_false]
      omega
end Go.Proofs.YtdfnclnjnmdboaaDoor
