/- Lemmas and contracts for ParsePlanX (DeI De5): plain words on memory, contracts of the functions that the law reaches. No condition but what each states. -/
import Derived.Test.YtdfnclnjnmdboaaDoorMark
import Derived.Test.YtdfnclnjnmdboaaDoorMParsePlanXPlan4
namespace Go.Proofs.YtdfnclnjnmdboaaDoor
set_option linter.unusedVariables false
open Go.RowKit

end Go.Proofs.YtdfnclnjnmdboaaDoor

namespace Go.Proofs.YtdfnclnjnmdboaaDoor
set_option linter.unusedVariables false
open Go.RowKit

theorem keep4 {w wa wb : World} {b1 o1 p1 b2 o2 p2 : Nat} {v1 v2 u1 u2 : Value} (h1 : b1 < w.heap.size) (h2 : b2 < w.heap.size) (h : Below w.heap.size w wa ∧ wa.cell? ⟨b1, o1, none⟩ = some v1 ∧ wa.cell? ⟨b1, p1, none⟩ = some v2 ∧ wa.cell? ⟨b2, o2, none⟩ = some u1 ∧ wa.cell? ⟨b2, p2, none⟩ = some u2) (k : Below wa.heap.size wa wb) :
    Below w.heap.size w wb ∧ wb.cell? ⟨b1, o1, none⟩ = some v1 ∧ wb.cell? ⟨b1, p1, none⟩ = some v2 ∧ wb.cell? ⟨b2, o2, none⟩ = some u1 ∧ wb.cell? ⟨b2, p2, none⟩ = some u2 := by
  obtain ⟨h0, q1, q2, q3, q4⟩ := h
  have hs := h0.size
  obtain ⟨hc, _⟩ := bcell k
  exact ⟨bthen h0 k, by rw [hc _ _ (by omega)]; exact q1, by rw [hc _ _ (by omega)]; exact q2, by rw [hc _ _ (by omega)]; exact q3, by rw [hc _ _ (by omega)]; exact q4⟩
end Go.Proofs.YtdfnclnjnmdboaaDoor
