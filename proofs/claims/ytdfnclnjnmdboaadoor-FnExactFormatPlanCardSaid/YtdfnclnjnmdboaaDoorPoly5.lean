/- Contracts: the polynomial with a table in the reference, runs of a degree, polynomials at another argument, values; program and reference. -/
import Derived.Test.YtdfnclnjnmdboaaDoorPoly4
namespace Go.Proofs.YtdfnclnjnmdboaaDoor
set_option linter.unusedVariables false
open Go.RowKit

theorem intB_no {xs : List Int} (h : ¬ (tabB xs = true ∧ ld xs ≤ 6)) : intB xs = false ∧ intL xs = [] := by
  have h : intB xs = false := by
    cases e : intB xs
    · rfl
    · unfold intB at e
      simp only [Bool.and_eq_true, decide_eq_true_eq] at e
      exact absurd e.1 h
  exact ⟨h, if_neg (by rw [h]; decide)⟩
/-- a run of a degree -/
def runB (xs : List Int) (d : Int) : Bool := tabB xs && decide (ld xs ≤ d) && intB xs
def runL (xs : List Int) (d : Int) : List Int := if runB xs d = true then ip xs else []
theorem runB_int {xs : List Int} {d : Int} (h : ldF xs ≤ d) : runB xs d = intB xs ∧ runL xs d = intL xs := by
  have e : runB xs d = intB xs := by
    unfold runB
    by_cases hv : tabB xs = true
    · unfold ldF at h
      rw [if_pos hv] at h
      rw [hv, decide_eq_true h]; rfl
    · have : intB xs = false := by unfold intB; simp [hv]
      rw [this, Bool.and_false]
  exact ⟨e, by unfold runL intL; rw [e]⟩
theorem runB_no {xs : List Int} {d : Int} (h : ldF xs = -2 ∨ d < ldF xs) : runB xs d = false ∧ runL xs d = [] := by
  have e : runB xs d = false := by
    unfold runB
    by_cases hv : tabB xs = true
    · unfold ldF at h
      rw [if_pos hv] at h
      have := ld_bd xs
      rw [decide_eq_false (by omega)]; simp
    · simp [hv]
  exact ⟨e, by unfold runL; rw [e]; rfl⟩

end Go.Proofs.YtdfnclnjnmdboaaDoor
